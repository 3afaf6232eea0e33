import Derived.Test.YtkggcjdlpendfaaGreatDoorMTopFewestCard14
set_option linter.all false
set_option maxRecDepth 20000
set_option maxHeartbeats 8000000
namespace Go.Proofs.YtkggcjdlpendfaaGreatDoor
open Go.RowKit
section
def zDX (counts cs xs:List Int):Prop:=(qM counts=0→BM.Made counts cs xs)∧(qM counts≠0→cs=List.replicate 16 0∧xs=[])
def zPS (counts:List Int) (A:Option Addr) (n c:Nat) (hn:counts.length=n) (w:World) (hv:SL w 1 (.slice A n c) n (ints counts)) :
 Calls Tryz.prog 101 #[.slice A n c] w fun e w'=> ∃ cs xs B d z,e=.returned (.tuple #[.agg (zQ cs (.slice B xs.length d)).toArray,.int .i64 z])∧zDX counts cs xs∧cs.length=16∧SL w' 1 (.slice B xs.length d) xs.length (ints xs)∧(∀ ad,B=some ad→w.heap.size≤ad.block)∧Ext w w':=by
 by_cases hb:qM counts=0
 ·refine (make_good counts A n c hn w hv hb).mono ?_;rintro e w' ⟨cs,xs,B,d,rfl,h1,h2,h3,h4⟩;exact⟨cs,xs,B,d,0,rfl,⟨fun _=>h1,fun h=>absurd hb h⟩,h2,(jF h3).1,(jF h3).2,h4⟩
 ·refine (make_bad counts A n c hn w hv hb).mono ?_;rintro e w' ⟨rfl,h4⟩;exact⟨List.replicate 16 0,[],none,0,_,rfl,⟨fun h=>absurd h hb,fun _=>⟨rfl,rfl⟩⟩,wF5,SL.nil _ _,(fun ad h=>by cases h),h4⟩
def zeroTbls:(Tryz.prog.info? 44).bind (·.zero)=some (.agg (zQ (List.replicate 16 0) (.slice none 0 0)++zQ (List.replicate 16 0) (.slice none 0 0)).toArray):=by kernel_rfl
def rowI {w:World} {g:Nat} {l:List Int} (hl:l.length=256) (h:Blk w g 3 (bv l)):SL w 1 (.slice (some ⟨g,0,none⟩) 256 256) 256 (ints l):=by
 have:=h.sl (size:=1) (n:=256) (c:=256) (by rw[zK,hl]) (by omega) (by omega)
 rwa [show (bv l).toList=ints l from rfl] at this
def zDD {l:List Int} {i:Nat} {z:Int} (h:l[i]? =some z):(bv l)[i]? =some (.int .i64 z):=by simp[bv,ints,h]
def zFp {w:World} {cs:List Int} {s:Value} {n:Nat} {xs:List Value} (h:SL w 1 s n xs): ∀ v∈zQ cs s,v.oneCell'=true:=by
 have:=zCX cs s h
 rwa [wR1,wB5] at this
def run_addW (x y:Int) (w:World):(binOp .add 3 (.int .i64 x) (.int .i64 y)).run Tryz.prog w=.ok (.int .i64 (wrap64 (x+y))) w:=by
 have e:IntKind.i64.wrap (x+y)=wrap64 (x+y):=by simp[IntKind.wrap_i64,wrap64]
 go_simp
def zJT {o:Oper} {a:Act} {x y:Operand} {t2:TypeId} (ho:o.op=.binOp .add 3 x y t2) {u v:Int} (hx:a.eval x=.int .i64 u) (hy:a.eval y=.int .i64 v) (w:World):(execOp a.eval o).run Tryz.prog w=.ok (.value (.int .i64 (wrap64 (u+v)))) w:=qT ho hx hy (run_addW u v) w
attribute [local irreducible] bv jM yE yG xI xZ zDM zAg z256 yX
def zSg (e n:Nat) (he:e≤1000000) (A:Option Addr) (c:Nat) (Z:List Int) (hZ:Z.length=n*64) (hE:qL n Z=0) (w:World) (hs:SL w 64 (.slice A n c) n (ints Z)) :
 Calls Tryz.prog 44 #[.slice A n c,.int .i64 (e:Int)] w fun en w'=> ∃ cs1 xs1 s1 cs2 xs2 s2,en=.returned (.agg (zQ cs1 s1++zQ cs2 s2).toArray)∧zDX (xI n e Z (yG n e)).1 cs1 xs1∧zDX (xI n e Z (yG n e)).2 cs2 xs2∧cs1.length=16∧cs2.length=16∧SL w' 1 s1 xs1.length (ints xs1)∧SL w' 1 s2 xs2.length (ints xs2)∧(∀ b,s1.ownBlock=some b→w.heap.size≤b)∧(∀ b,s2.ownBlock=some b→w.heap.size≤b)∧Ext w w':=by
 have hn4:=(zCh.1 hE).1;have HSP:=zA (fun W=>zOO n e (by omega) he W);have HZ:=zA hZ;have HE:=zA hE;have HS:=zA hs;have HAT:=zA (fun i (h:i<yG n e)=>zIG h);have hK:yG n e≤n+1:=zDj;have hnc:n≤c:=by obtain⟨A',c',q,q1,q2, -, -⟩:=hs;injection q with q3 q4 q5;omega
 obtain⟨K,hKK⟩: ∃ K,yG n e=K:=⟨_,rfl⟩
 rw[hKK] at HSP HAT hK ⊢;clear hKK hZ hE hs;have h0:Hid (xI n e Z 0=(z256,z256)):=zA (by rw[xI]);have HNX:=zA (fun k=>(show xI n e Z (k+1)=(zDM (xI n e Z k).1 (xZ yT (min (n-k*yE n e) (yE n e)) (yX n e k Z) (z256,z256)).2.1,zDM (xI n e Z k).2 (xZ yT (min (n-k*yE n e) (yE n e)) (yX n e k Z) (z256,z256)).2.2) by rw[xI]));obtain⟨T0,hT0⟩: ∃ T0,T0=zQ (List.replicate 16 0) (.slice none 0 0):=⟨_,rfl⟩
 have hT0l:T0.length=17:=by rw[hT0];exact zU _ _ wF5
 have hzt:=zeroTbls;rw[←hT0] at hzt;have HT0L:=zA hT0l;clear hT0 hT0l;go_enter Tryz.func44,Tryz.ntmps44
 go_upto_region 1 with (first
  | ((with_reducible apply gS 4);refine wAlo' rfl (some 4) rfl 44 rfl _ hzt ?_;intro w1 gt ht1 hx1 hgt))
 simp only[Act.put,sA,sB,sC]
 go_cut [5,6] from 13 to 14 (fun fv sv wx=> ∃ gF gSq,fv=.slice (some ⟨gF,0,none⟩) 256 256∧sv=.slice (some ⟨gSq,0,none⟩) 256 256∧Blk wx gF 3 (bv z256)∧Blk wx gSq 3 (bv z256)∧gF≠gSq∧w1.heap.size≤gF∧w1.heap.size≤gSq∧Ext w1 wx)
 case first =>
  clear HSP HZ HE HS HAT HNX h0;refine jB (fun _=>false) (fun _=>True) (by kernel_rfl) ?_;refine zJM (k:=0) (l:=1) (by kernel_rfl) rfl rfl ?_ ?_
  · --
    refine qE rfl (some 13) rfl _ _ rfl 256 (by omega) rfl rfl ?_;intro w2 gF hF hy2 hgF;rw[zAk] at hF;refine zX ⟨fun h=>(by cases h), ?_⟩;simp only[Act.put,sA,sB,sC];refine zG (k:=2) (by kernel_rfl) rfl (by rfl) (.slice (some ⟨gF,0,none⟩) 256 256) (zW rfl rfl) ?_;simp only[sP,sB,sC];refine xR (k:=1) (by kernel_rfl) rfl ?_;refine qE rfl (some 14) rfl _ _ rfl 256 (by omega) rfl rfl ?_;intro w3 gSq hS hy3 hgS;rw[zAk] at hS;refine zX ⟨fun h=>(by cases h), ?_⟩;simp only[Act.put,sA,sB,sC];refine zG (k:=3) (by kernel_rfl) rfl (by rfl) (.slice (some ⟨gSq,0,none⟩) 256 256) (zW rfl rfl) ?_;simp only[sP,sB,sC];refine vP (by kernel_rfl) ?_;go_wp2_with fail;go_meet;have hs0:w1.heap.size≤w1.drew.heap.size:=wA5 _;have hl:=hF.lt;have hsz:=hy2.size;refine⟨gF,gSq,rfl,rfl,hF.ext hy3,hS,by omega,by omega,by omega,(Ext.refl w1).drew.trans (hy2.trans hy3)⟩
  · --
    refine qE rfl (some 14) rfl _ _ rfl 256 (by omega) rfl rfl ?_;intro w2 gSq hS hy2 hgS;rw[zAk] at hS;refine zX ⟨fun h=>(by cases h), ?_⟩;simp only[Act.put,sA,sB,sC];refine xR (k:=0) (by kernel_rfl) rfl ?_;refine qE rfl (some 13) rfl _ _ rfl 256 (by omega) rfl rfl ?_;intro w3 gF hF hy3 hgF;rw[zAk] at hF;refine zX ⟨fun h=>(by cases h), ?_⟩;simp only[Act.put,sA,sB,sC];refine zG (k:=2) (by kernel_rfl) rfl (by rfl) (.slice (some ⟨gF,0,none⟩) 256 256) (zW rfl rfl) ?_;simp only[sP,sB,sC];refine zG (k:=3) (by kernel_rfl) rfl (by rfl) (.slice (some ⟨gSq,0,none⟩) 256 256) (zW rfl rfl) ?_;simp only[sP,sB,sC];refine vP (by kernel_rfl) ?_;go_wp2_with fail;go_meet;have hs0:w1.heap.size≤w1.drew.heap.size:=wA5 _;have hl:=hS.lt;have hsz:=hy2.size;refine⟨gF,gSq,rfl,rfl,hF,hS.ext hy3,by omega,by omega,by omega,(Ext.refl w1).drew.trans (hy2.trans hy3)⟩
 case rest =>
 obtain⟨gF,gSq,e1,e2,hF,hS,hne,hgF,hgS,hx2⟩:=hcut;subst e1 e2;have hx12:=hx1.trans hx2;have ht2:=ht1.ext hx2
 go_wp2_with (first
  | (go_at_call 99;(with_reducible refine (HSP.out _).mono ?_);rintro e3 w3 ⟨B3,d3,rfl,hsp,hB3,hx3⟩))
 have hF3:Blk w3 gF 3 (bv (xI n e Z 0).1):=by rw[h0.out];exact hF.ext hx3
 have hS3:Blk w3 gSq 3 (bv (xI n e Z 0).2):=by rw[h0.out];exact hS.ext hx3
 have ht3:=ht2.ext hx3;have hx03:=hx12.trans hx3;have hl0:(xI n e Z 0).1.length=256∧(xI n e Z 0).2.length=256:=by rw[h0.out];exact⟨zCV,zCV⟩
 have hB4: ∀ ad,B3=some ad→ad.block≠gF∧ad.block≠gSq:=fun ad h=>by have h1:=hB3 ad h;have h2:=hF.lt;have h3:=hS.lt;omega
 have hgF0:w.heap.size≤gF:=by have:=hx1.size;omega
 have hgS0:w.heap.size≤gSq:=by have:=hx1.size;omega
 have htF:gt≠gF:=by have:=ht1.lt;omega
 have htS:gt≠gSq:=by have:=ht1.lt;omega
 have HB4:=zA hB4;clear hF hS ht2 hx2 hx3 hx12 hx1 h0 hB3 hB4 hgF hgS ht1
 go_loopw [20] (fun iv wr=> ∃ k:Nat,k≤K∧iv=.int .i64 (k:Int)∧((xI n e Z k).1.length=256∧(xI n e Z k).2.length=256)∧Blk wr gF 3 (bv (xI n e Z k).1)∧Blk wr gSq 3 (bv (xI n e Z k).2)∧Blk wr gt 44 (T0++T0).toArray∧SL wr 2 (.slice B3 K d3) K (ints (jM n e K))∧Ext w wr) (fun i _=>K-(intOf i).toNat)
 case atStart=>exact⟨0,by omega,rfl,hl0,hF3,hS3,ht3,hsp,hx03⟩
 case round =>
  clear hF3 hS3 ht3 hsp hx03 hl0;obtain⟨k,hk,rfl,⟨la,lb⟩,hFr,hSr,htr,hspr,hx⟩:=hrel
  by_cases hlt:k<K
  ·obtain⟨td,hB,htb,htc⟩:=hspr.part hlt;subst hB;have hB5:=HB4.out td rfl;obtain⟨lo,hlo⟩: ∃ q,k*yE n e=q:=⟨_,rfl⟩
   obtain⟨hh,hhh⟩: ∃ q,min (lo+yE n e) n=q:=⟨_,rfl⟩
   obtain⟨ln,hln⟩: ∃ q,min (n-lo) (yE n e)=q:=⟨_,rfl⟩
   have e2:((ints (jM n e K)).drop (k*2)).take 2=ints [(lo:Int),(hh:Int)]:=by
    have h:=zFy n e K k hlt;rw[hlo,hhh] at h;rw[←h];simp[ints,wH2,wH1]
   rw[e2] at htc;have hlon:lo≤n:=by rw[←hlo];exact HAT.out k hlt
   have hlh:lo≤hh:=by omega
   have hhn:hh≤n:=by omega
   have hd:hh-lo=ln:=by omega
   have HTC:=zA htc;have HBV:=zA (zGN [(lo:Int),(hh:Int)]);have HS2:=zA (show (bv [(lo:Int),(hh:Int)]).size=2 by rw[zK];rfl);have HS20:=zA (show (Value.agg (bv [0,0])).cells.size=2 by rw[show (Value.agg (bv [0,0])).cells=bv [0,0] from rfl,zK];rfl);have HO2:=zA (xE [(lo:Int),(hh:Int)]);have HP:Hid ((yX n e k Z).length=ln*64):=zA (by rw[zEp HZ.out,hlo,hln]);have HPS:=zA (fun W (h:Ext w W)=>(HS.out.ext h).subK hlh hhn)
   have e3:((ints Z).drop (lo*64)).take ((hh-lo)*64)=ints (yX n e k Z):=by
    unfold yX;rw[hlo,hln,hd];simp[ints,wH2,wH1]
   rw[e3,hd] at HPS;have HCO:=zA (fun W (h:Ext w W)=>zLG (zCL A c lo) ln (c-lo) (yX n e k Z) HP.out W (HPS.out W h))
   have hce:(xZ yT ln (yX n e k Z) (z256,z256)).1=0:=by
    rw[cntE];have h:=piece_e (e:=e) (i:=k) HE.out;rw[hlo,hln] at h;exact h
   have hnx:=HNX.out k;rw[hlo,hln] at hnx;obtain⟨cl,hcl⟩: ∃ q,c-lo=q:=⟨_,rfl⟩
   rw[hcl] at HCO;have HSUB:=zA (fun (o:Oper) (a:Act) (x lo' hi':Operand) (ho:o.op=.slice 25 x (some lo') (some hi') none) (hx:a.eval x=.slice A n c) (h1:a.eval lo'=.int .i64 (lo:Int)) (h2:a.eval hi'=.int .i64 (hh:Int)) (W:World)=>ex_subK ho hx h1 h2 hlh hhn hnc W);rw[hd,hcl] at HSUB;generalize zCL A c lo=SA at *;generalize bv [(lo:Int),(hh:Int)]=sp at *;have HC0:Hid (sp[0]? =some (.int .i64 (lo:Int))∧sp[1]? =some (.int .i64 (hh:Int))):=zA (by rw[←HBV.out];exact⟨rfl,rfl⟩);generalize xZ yT ln (yX n e k Z) (z256,z256)=R at *;obtain⟨r0,b1,b2⟩:=R;dsimp only at hce hnx;subst hce;generalize xI n e Z k=F at *;obtain⟨a1,a2⟩:=F;dsimp only at la lb hFr hSr hnx;have HNX1:=zA hnx;have hltF:=hFr.lt;have hltS:=hSr.lt;have htd:td.block<wr.heap.size:=htb;clear htc e2 e3 hcl hd hln hhh hlo hhn hlh hlon HPS HP hnx htb
   go_wp2_with (first
    | ((with_reducible apply gS 23);refine yI (by rfl) 139 (.tmp 22) rfl (td.add (k*2)) rfl (ints [(lo:Int),(hh:Int)]) _ HTC.out Tryz.underlying139 rfl uH ?_;rw[HBV.out])
    | ((with_reducible apply gS 8);refine wAlo' rfl (some 8) rfl 139 rfl _ zCp ?_;intro w4 g8 hb4 hx4 hg4)
    | ((with_reducible apply gT 8 23);refine wStB rfl 139 (.tmp 8) (.tmp 23) rfl _ _ rfl rfl hb4 2 uH HS2.out HS20.out HO2.out ?_;intro w5 hb5 hg5;have hx5:Ext wr w5:=hx4.grown hg5 hg4)
    | ((with_reducible apply gS 27);refine xC rfl (.int .i64 (lo:Int)) (zV rfl rfl ((hb5.cell 0).trans HC0.out.1)) ?_)
    | ((with_reducible apply gS 29);refine xC rfl (.int .i64 (hh:Int)) (zV rfl rfl ((hb5.cell 1).trans HC0.out.2)) ?_)
    | ((with_reducible apply gS 30);refine zB rfl (.slice SA ln cl) (HSUB.out _ _ _ _ _ rfl rfl rfl rfl) ?_)
    | (go_at_call 100;(with_reducible refine (HCO.out _ (hx.trans hx5)).mono ?_);rintro e6 w6 ⟨hx6,hC⟩;rw[if_pos rfl] at hC;obtain⟨gA,gB,rfl,hA6,hB6,lA,lB,gA1,gB1⟩:=hC))
   have hx56:=hx5.trans hx6;have hsz5:=hx5.size;have hF6:Blk w6 gF 3 (bv (zAg a1 b1 0)):=by rw[zFq];exact hFr.ext hx56
   have hS6:Blk w6 gSq 3 (bv (zAg a2 b2 0)):=by rw[zFq];exact hSr.ext hx56
   have ht6:=htr.ext hx56;have hsp6:=hspr.ext hx56;have hx06:=hx.trans hx56;have hAF:gA≠gF:=by omega
   have hAS:gA≠gSq:=by omega
   have hBF:gB≠gF:=by omega
   have hBS:gB≠gSq:=by omega
   clear hFr hSr htr hspr hx hx5 hx6 hx56 hb4 hb5 hg5 hx4 hg4 gA1 gB1 hsz5 hltF hltS
   go_loopw [37] (fun iv wr=> ∃ i:Nat,i≤256∧iv=.int .i64 (i:Int)∧Blk wr gF 3 (bv (zAg a1 b1 i))∧Blk wr gSq 3 (bv (zAg a2 b2 i))∧Blk wr gA 3 (bv b1)∧Blk wr gB 3 (bv b2)∧Blk wr gt 44 (T0++T0).toArray∧SL wr 2 (.slice (some td) K d3) K (ints (jM n e K))∧Ext w wr) (fun i _=>256-(intOf i).toNat)
   case atStart=>exact⟨0,by omega,rfl,hF6,hS6,hA6,hB6,ht6,hsp6,hx06⟩
   case round =>
    clear hF6 hS6 hA6 hB6 ht6 hsp6 hx06;obtain⟨i,hi,rfl,hFq,hSq,hAq,hBq,htq,hspq,hxq⟩:=hrel
    by_cases hil:i<256
    ·obtain⟨xF,hxF⟩: ∃ q,a1[i]'(by omega)=q:=⟨_,rfl⟩
     obtain⟨yF,hyF⟩: ∃ q,b1[i]'(by omega)=q:=⟨_,rfl⟩
     obtain⟨xS,hxS⟩: ∃ q,a2[i]'(by omega)=q:=⟨_,rfl⟩
     obtain⟨yS,hyS⟩: ∃ q,b2[i]'(by omega)=q:=⟨_,rfl⟩
     have hsF:=zHP (a:=a1) (b:=b1) (by omega) (i:=i) (by omega);have hsS:=zHP (a:=a2) (b:=b2) (by omega) (i:=i) (by omega);have haF:=zJR (a:=a1) (b:=b1) (by omega) (i:=i) (by omega);have haS:=zJR (a:=a2) (b:=b2) (by omega) (i:=i) (by omega);rw[hxF,hyF] at hsF;rw[hxS,hyS] at hsS;rw[hxF] at haF;rw[hxS] at haS;have hbF:b1[i]? =some yF:=by rw[←hyF];exact wA2 _
     have hbS:b2[i]? =some yS:=by rw[←hyS];exact wA2 _
     have hIF:wr.drew.cell? ⟨gF,i,none⟩=some (.int .i64 xF)∧wr.drew.cell? ⟨gA,i,none⟩=some (.int .i64 yF):=⟨(hFq.drew.cell i).trans (zDD haF),(hAq.drew.cell i).trans (zDD hbF)⟩
     have hmF:i<(bv (zAg a1 b1 i)).size:=by rw[zK,zHX (by omega)];omega
     have hmS:i<(bv (zAg a2 b2 i)).size:=by rw[zK,zHX (by omega)];omega
     clear hxF hyF hxS hyS;go_wp2_with fail;refine jB (fun k=>k ==3 ||k ==7) (fun W=>W.cell? ⟨gF,i,none⟩=some (.int .i64 xF)∧W.cell? ⟨gA,i,none⟩=some (.int .i64 yF)) (by kernel_rfl) ?_;refine zG (k:=0) (by kernel_rfl) rfl (by rfl) (.slice (some ⟨gF,0,none⟩) 256 256) (zC rfl rfl) ?_;simp only[sP,sB,sC];refine zG (k:=1) (by kernel_rfl) rfl (by rfl) (.int .i64 (i:Int)) (zC rfl rfl) ?_;simp only[sP,sB,sC];refine zG (k:=2) (by kernel_rfl) rfl (by rfl) (.pointer (some ⟨gF,i,none⟩)) (jL Tryz.underlying22 qW rfl rfl rfl (by omega)) ?_;simp only[sP,sB,sC];refine zG (k:=4) (by kernel_rfl) rfl (by rfl) (.slice (some ⟨gA,0,none⟩) 256 256) (zC rfl rfl) ?_;simp only[sP,sB,sC];refine zG (k:=5) (by kernel_rfl) rfl (by rfl) (.int .i64 (i:Int)) (zC rfl rfl) ?_;simp only[sP,sB,sC];refine zG (k:=6) (by kernel_rfl) rfl (by rfl) (.pointer (some ⟨gA,i,none⟩)) (jL Tryz.underlying22 qW rfl rfl rfl (by omega)) ?_;simp only[sP,sB,sC];refine jR (k:=3) (by kernel_rfl) rfl (by rfl) (.int .i64 xF) (fun W hW=>zV rfl rfl hW.1) hIF ?_;simp only[Act.put,sA,sB,sC];refine jR (k:=7) (by kernel_rfl) rfl (by rfl) (.int .i64 yF) (fun W hW=>zV rfl rfl hW.2) hIF ?_;simp only[Act.put,sA,sB,sC];refine zG (k:=8) (by kernel_rfl) rfl (by rfl) (.int .i64 (wrap64 (xF+yF))) (zJT rfl rfl rfl) ?_;simp only[sP,sB,sC];refine zG (k:=9) (by kernel_rfl) rfl (by rfl) (.pointer (some ⟨gF,i,none⟩)) (jL Tryz.underlying22 qW rfl rfl rfl (by omega)) ?_;simp only[sP,sB,sC];refine xR (k:=10) (by kernel_rfl) rfl ?_;refine uK rfl _ _ rfl gF i _ rfl rfl hFq.drew hmF ?_;refine zX ⟨fun h=>(by cases h), ?_⟩;simp only[Act.put,sA,sB,sC];refine vP (by kernel_rfl) ?_;have hu1:=(Upd.refl (fun b=>b=gF) wr.drew).setCell (p:=⟨gF,i,none⟩) rfl (.int .i64 (wrap64 (xF+yF)));have hF9:=hFq.drew.set_ i (.int .i64 (wrap64 (xF+yF)));rw[jO,hsF] at hF9;have hS9:=hu1.blk hSq.drew (Ne.symm hne);have hA9:=hu1.blk hAq.drew hAF;have hB9:=hu1.blk hBq.drew hBF;have ht9:=hu1.blk htq.drew htF;have hsp9:=SL.upd hspq.drew hu1 (fun ad h=>by injection h with h;rw[←h];exact hB5.1);have hx9:=hu1.ext hxq.drew (fun x h=>by omega);generalize wr.drew.setCell ⟨gF,i,none⟩ (.int .i64 (wrap64 (xF+yF)))=w9 at *;have hIS:w9.drew.cell? ⟨gSq,i,none⟩=some (.int .i64 xS)∧w9.drew.cell? ⟨gB,i,none⟩=some (.int .i64 yS):=⟨(hS9.drew.cell i).trans (zDD haS),(hB9.drew.cell i).trans (zDD hbS)⟩
     clear hu1 hFq hSq hAq hBq htq hspq hxq hIF;go_wp2_with fail;refine jB (fun k=>k ==3 ||k ==7) (fun W=>W.cell? ⟨gSq,i,none⟩=some (.int .i64 xS)∧W.cell? ⟨gB,i,none⟩=some (.int .i64 yS)) (by kernel_rfl) ?_;refine zG (k:=0) (by kernel_rfl) rfl (by rfl) (.slice (some ⟨gSq,0,none⟩) 256 256) (zC rfl rfl) ?_;simp only[sP,sB,sC];refine zG (k:=1) (by kernel_rfl) rfl (by rfl) (.int .i64 (i:Int)) (zC rfl rfl) ?_;simp only[sP,sB,sC];refine zG (k:=2) (by kernel_rfl) rfl (by rfl) (.pointer (some ⟨gSq,i,none⟩)) (jL Tryz.underlying22 qW rfl rfl rfl (by omega)) ?_;simp only[sP,sB,sC];refine zG (k:=4) (by kernel_rfl) rfl (by rfl) (.slice (some ⟨gB,0,none⟩) 256 256) (zC rfl rfl) ?_;simp only[sP,sB,sC];refine zG (k:=5) (by kernel_rfl) rfl (by rfl) (.int .i64 (i:Int)) (zC rfl rfl) ?_;simp only[sP,sB,sC];refine zG (k:=6) (by kernel_rfl) rfl (by rfl) (.pointer (some ⟨gB,i,none⟩)) (jL Tryz.underlying22 qW rfl rfl rfl (by omega)) ?_;simp only[sP,sB,sC];refine jR (k:=3) (by kernel_rfl) rfl (by rfl) (.int .i64 xS) (fun W hW=>zV rfl rfl hW.1) hIS ?_;simp only[Act.put,sA,sB,sC];refine jR (k:=7) (by kernel_rfl) rfl (by rfl) (.int .i64 yS) (fun W hW=>zV rfl rfl hW.2) hIS ?_;simp only[Act.put,sA,sB,sC];refine zG (k:=8) (by kernel_rfl) rfl (by rfl) (.int .i64 (wrap64 (xS+yS))) (zJT rfl rfl rfl) ?_;simp only[sP,sB,sC];refine zG (k:=9) (by kernel_rfl) rfl (by rfl) (.pointer (some ⟨gSq,i,none⟩)) (jL Tryz.underlying22 qW rfl rfl rfl (by omega)) ?_;simp only[sP,sB,sC];refine xR (k:=10) (by kernel_rfl) rfl ?_;refine uK rfl _ _ rfl gSq i _ rfl rfl hS9.drew hmS ?_;refine zX ⟨fun h=>(by cases h), ?_⟩;simp only[Act.put,sA,sB,sC];refine vP (by kernel_rfl) ?_;have hu2:=(Upd.refl (fun b=>b=gSq) w9.drew).setCell (p:=⟨gSq,i,none⟩) rfl (.int .i64 (wrap64 (xS+yS)));have hS5:=hS9.drew.set_ i (.int .i64 (wrap64 (xS+yS)));rw[jO,hsS] at hS5;have hF5:=hu2.blk hF9.drew hne;have hA5:=hu2.blk hA9.drew hAS;have hB6:=hu2.blk hB9.drew hBS;have ht5:=hu2.blk ht9.drew htS;have hsp5:=SL.upd hsp9.drew hu2 (fun ad h=>by injection h with h;rw[←h];exact hB5.2);have hx5:=hu2.ext hx9.drew (fun x h=>by omega);generalize w9.drew.setCell ⟨gSq,i,none⟩ (.int .i64 (wrap64 (xS+yS)))=w5 at *;clear hu2 hF9 hS9 hA9 hB9 ht9 hsp9 hx9 hIS;go_wp2_with ((with_reducible apply gS 60);refine zB rfl (.int .i64 ((i+1:Nat):Int)) (yH (i:=i) (d:=1) rfl rfl rfl (by omega)) ?_)
     go_roundw
     case rel=>exact⟨i+1,by omega,by go_num,hF5,hS5,hA5,hB6,ht5,hsp5,hx5⟩
     case measure=>simp[intOf];omega
    ·obtain rfl:i=256:=by omega
     rw[zHf (by omega) la] at hFq;rw[zHf (by omega) lb] at hSq;have l1:=zBz (a:=a1) (b:=b1) (by omega);have l2:=zBz (a:=a2) (b:=b2) (by omega);go_wp2_with ((with_reducible apply gS 61);refine zB rfl (.int .i64 ((k+1:Nat):Int)) (yH (i:=k) (d:=1) rfl rfl rfl (by omega)) ?_)
     go_roundw
     case rel=>exact⟨k+1,by omega,by go_num,by rw[HNX1.out];exact⟨l1.trans la,l2.trans lb⟩,by rw[HNX1.out];exact hFq,by rw[HNX1.out];exact hSq,htq,hspq,hxq⟩
     case measure=>simp[intOf];omega
  ·obtain rfl:k=K:=by omega
   have HMF:=zA (fun W (h:Blk W gF 3 (bv (xI n e Z k).1))=>zPS (xI n e Z k).1 (some ⟨gF,0,none⟩) 256 256 la W (rowI la h));have HMS:=zA (fun W (h:Blk W gSq 3 (bv (xI n e Z k).2))=>zPS (xI n e Z k).2 (some ⟨gSq,0,none⟩) 256 256 lb W (rowI lb h));generalize hFK:xI n e Z k=F at la lb hFr hSr HMF HMS;obtain⟨a1,a2⟩:=F;dsimp only at la lb hFr hSr HMF HMS;have HFK:=zA hFK;clear hFK;clear hspr HNX HAT HSP
   go_upto_region 14 with (first
    | (go_at_call 101;(with_reducible refine (HMF.out _ hFr).mono ?_);rintro e4 w4 ⟨cs1,xs1,B1,d1,z1,rfl,hm1,l1,hs1,hf1,hx4⟩;have HL1:=zA (zU cs1 (.slice B1 xs1.length d1) l1))
    | ((with_reducible apply gT 67 65);refine vT rfl 42 (.tmp 67) (.tmp 65) rfl gt 0 (zQ cs1 (.slice B1 xs1.length d1)) rfl rfl (a:=[]) (old:=T0) (b:=T0) (htr.ext hx4) rfl (by rw[HT0L.out,HL1.out]) (by rw[HL1.out];exact zS) (zFp hs1) ?_;intro w5 ht5 hu5))
   have hltg:=htr.lt;have hx5:Ext w w5:=hu5.ext (hx.trans hx4) (fun x h=>by omega);have hS5:=hu5.blk (hSr.ext hx4) (Ne.symm htS)
   have HW1:=zA (show ∀ b,(Value.slice B1 xs1.length d1).ownBlock=some b→w.heap.size≤b from fun b h=>by
    cases B1 with
    | none=>cases h
    | some ad=>have h':some ad.block=some b:=h;injection h' with h';have:=hf1 ad rfl;have:=hx.size;omega)
   have HF1:=zA (show ∀ ad,B1=some ad→ad.block≠gt from fun ad h=>by have:=hf1 ad h;omega);have hs5:=SL.upd hs1 hu5 (fun ad h=>by have:=hf1 ad h;omega);have ht6:Blk w5 gt 44 (zQ cs1 (.slice B1 xs1.length d1)++(T0++[])).toArray:=by simpa using ht5
   have hlt5:=ht6.lt;clear hFr hSr htr hx hx4 hu5 ht5 hs1 hf1 HMF
   go_upto_region 15 with (first
    | (go_at_call 101;(with_reducible refine (HMS.out _ hS5).mono ?_);rintro e6 w6 ⟨cs2,xs2,B2,d2,z2,rfl,hm2,l2,hs2,hf2,hx6⟩;have HL2:=zA (zU cs2 (.slice B2 xs2.length d2) l2))
    | ((with_reducible apply gT 73 71);refine vT rfl 42 (.tmp 73) (.tmp 71) rfl gt 17 (zQ cs2 (.slice B2 xs2.length d2)) rfl rfl (a:=zQ cs1 (.slice B1 xs1.length d1)) (old:=T0) (b:=[]) (ht6.ext hx6) HL1.out (by rw[HT0L.out,HL2.out]) (by rw[HL2.out];exact zS) (zFp hs2) ?_;intro w7 ht7 hu7))
   have hs7:=SL.upd (hs5.ext hx6) hu7 (fun ad h=>HF1.out ad h);have hs8:=SL.upd hs2 hu7 (fun ad h=>by have:=hf2 ad h;omega);have hx7:Ext w w7:=hu7.ext (hx5.trans hx6) (fun x h=>by omega);rw[wG6] at ht7
   have hone:(zQ cs1 (.slice B1 xs1.length d1)++zQ cs2 (.slice B2 xs2.length d2)).toArray.all (·.oneCell')=true:=by
    rw[wR1,wB5];intro v hv;rcases wE6.1 hv with hv | hv
    ·exact zFp hs7 v hv
    ·exact zFp hs8 v hv
   have HSZ:=zA (zDG HL1.out HL2.out)
   have HW2:=zA (show ∀ b,(Value.slice B2 xs2.length d2).ownBlock=some b→w.heap.size≤b from fun b h=>by
    cases B2 with
    | none=>cases h
    | some ad=>have h':some ad.block=some b:=h;injection h' with h';have:=hf2 ad rfl;have:=hx5.size;omega)
   have HF2:=zA (show ∀ ad,B2=some ad→ad.block≠gt from fun ad h=>by have:=hf2 ad h;omega);clear hs5 hx6 hu7 hx5 ht6 hS5 hs2 hf2 HMS
   go_wp2_with (first
    | ((with_reducible apply gS 74);refine wLdB rfl 44 (.tmp 4) rfl gt rfl ht7 _ Tryz.underlying44 rfl 34 qP HSZ.out ?_)
    | ((with_reducible apply gT 4 74);refine wStB rfl 44 (.tmp 4) (.tmp 74) rfl gt _ rfl rfl ht7 34 qP HSZ.out HSZ.out hone ?_;intro w9 ht9 hg9))
   have hu9:=zO hg9;exact zAy rfl rfl gt rfl ht9 _ Tryz.underlying44 rfl 34 qP HSZ.out ⟨cs1,xs1,_,cs2,xs2,_,rfl,by rw[HFK.out];exact hm1,by rw[HFK.out];exact hm2,l1,l2,SL.upd hs7 hu9 (fun ad h e=>HF1.out ad h (by injection e with e;exact e.symm)),SL.upd hs8 hu9 (fun ad h e=>HF2.out ad h (by injection e with e;exact e.symm)),HW1.out,HW2.out,hx7.grown hg9 (by omega)⟩
end
def zAm (D:List Bool) (p:Nat) (t:Tok):Bool:=decide (p+t.2.1.toNat≤D.length)&&((yJ ((D.drop p).take t.2.1.toNat):Int) ==t.2.2)
def zCK (long code:Int) (t:Tok):Bool:=t.2.1 ==long&&t.2.2 ==code
def vC (T:List Tok) (D:List Bool) (p:Nat):Nat→Nat→Int×Nat×Int
 | 0,_=>(0,p,4)
 | f+1,long=>if p+long≤D.length then (match T.find? (zCK (long:Int) (yJ ((D.drop p).take long):Nat)) with | some t=>(t.1,p+long,0) | none=>vC T D p f (long+1)) else (0,p,3)
def uG (T:List Tok) (D:List Bool) (p:Nat):Int×Nat×Int :=
 match T.find? (zAm D p) with | some t=>(t.1,p+t.2.1.toNat,0) | none=>(0,p,if D.length<p+16 then 3 else 4)
def zNN {T:List Tok} {D:List Bool} {p:Nat} {t:Tok} (h:T.find? (zAm D p)=some t):uG T D p=(t.1,p+t.2.1.toNat,0):=by unfold uG;rw[h]
def zNO {T:List Tok} {D:List Bool} {p:Nat} (h:T.find? (zAm D p)=none):uG T D p=(0,p,if D.length<p+16 then 3 else 4):=by unfold uG;rw[h]
def zOT (T:List Tok) (D:List Bool) (p:Nat) (hs:T.Pairwise fun a b=>a.2.1≤b.2.1) (hfit: ∀ t∈T, ∃ l c:Nat,t.2=((l:Int),(c:Int))∧1≤l∧l≤16) :
 ∀ (f long:Nat),f+long=17→1≤long→p+long≤D.length+1→(∀ t∈T,t.2.1<(long:Int)→zAm D p t=false)→vC T D p f long=uG T D p
 | 0,long,h1,_,hp0,hno=>by
   have hn:T.find? (zAm D p)=none:=by
    rw[wO4];intro t ht;obtain⟨l,c,e,h2,h3⟩:=hfit t ht;have:=hno t ht (by rw[e];simp;omega);simp[this]
   rw[zNO hn,vC,if_neg (by omega)]
 | f+1,long,h1,h2,hp0,hno=>by
   unfold vC;split
   ·next hle =>
    split
    ·next t ht =>
     obtain⟨hp,l1,l2,rfl,has⟩:=wR2.1 ht;simp only[zCK,wA9,beq_iff_eq] at hp;have hw:zAm D p t=true:=by simp[zAm,hp.1,hp.2,hle]
     have hfind:(l1++t::l2).find? (zAm D p)=some t:=by
      rw[wR2];refine⟨hw,l1,l2,rfl,fun a ha=> ?_⟩
      by_cases hwa:zAm D p a=true
      ·have hq:=has a ha;have h3:a.2.1≤t.2.1:=(wR3.1 hs).2.2 a ha t (by simp);have h4: ¬a.2.1<(long:Int):=fun h=>by rw[hno a (by simp[ha]) h] at hwa;cases hwa
       have h5:a.2.1=(long:Int):=by omega
       simp only[zAm,h5,wF0,wA9,wB3,beq_iff_eq] at hwa;simp[zCK,h5,hwa.2] at hq
      ·simpa using hwa
     rw[zNN hfind,hp.1];simp
    ·next hn =>
     refine zOT T D p hs hfit f (long+1) (by omega) (by omega) (by omega) fun t ht hl=> ?_
     by_cases h3:t.2.1<(long:Int)
     ·exact hno t ht h3
     ·have h4:t.2.1=(long:Int):=by omega
      have h5:=wO4.1 hn t ht;rw[←wE1];intro hw;simp only[zAm,h4,wF0,wA9,wB3,beq_iff_eq] at hw;simp[zCK,h4,hw.2] at h5
   ·next hle =>
    have hn:T.find? (zAm D p)=none:=by
     rw[wO4];intro t ht
     by_cases h3:t.2.1<(long:Int)
     ·simp[hno t ht h3]
     ·simp[zAm];intro h4;omega
    rw[zNO hn,if_pos (by omega)]
def getGo_out {T:List Tok} {D:List Bool} {p f long:Nat} (h: ¬p+long≤D.length):vC T D p (f+1) long=(0,p,3):=by rw[vC,if_neg h]
def getGo_yes {T:List Tok} {D:List Bool} {p f long:Nat} {t:Tok} (h:p+long≤D.length) (hf:T.find? (zCK (long:Int) (yJ ((D.drop p).take long):Nat))=some t):vC T D p (f+1) long=(t.1,p+long,0):=by rw[vC,if_pos h,hf]
def getGo_no {T:List Tok} {D:List Bool} {p f long:Nat} (h:p+long≤D.length) (hf:T.find? (zCK (long:Int) (yJ ((D.drop p).take long):Nat))=none):vC T D p (f+1) long=vC T D p f (long+1):=by rw[vC,if_pos h,hf]
def getGo_end {T:List Tok} {D:List Bool} {p long:Nat}:vC T D p 0 long=(0,p,4):=by rw[vC]
def zHs (cs:List Int): ∀ k,(zD cs k).Pairwise fun a b=>a.1≤b.1
 | 0=>by simp[zD]
 | k+1=>by
   unfold zD;rw[wR3];refine⟨zHs cs k, ?_,fun a ha b hb=> ?_⟩
   ·unfold uD;rw[wQ8];intro i j hi hj hij;simp
   ·have h1:=(zIr cs k).2 a ha;unfold uD at hb;obtain⟨i, -,rfl⟩:=wD6.1 hb;simp only;omega
def zRg (C:List (Nat×Nat)) (xs:List Int) (h:C.Pairwise fun a b=>a.1≤b.1) (hl:C.length=xs.length):(zL C xs).Pairwise fun a b=>a.2.1≤b.2.1:=by
 rw[wQ8] at h ⊢;intro i j hi hj hij;have e:(zL C xs).length=C.length:=zBS _ _ (by omega);rw[zAD C xs i (by omega) (by omega) hi,zAD C xs j (by omega) (by omega) hj];have:=h i j (by omega) (by omega) hij;simp only;omega
def zipC_fits (cs xs:List Int) (hl:cs.length=16) (hok:okW cs=true) (hC:(zD cs 16).length=xs.length): ∀ t∈zL (zD cs 16) xs, ∃ l c:Nat,t.2=((l:Int),(c:Int))∧1≤l∧l≤16∧c<2 ^ l:=by
 intro t ht;obtain⟨k,hk,rfl⟩:=List.getElem_of_mem ht;have e:(zL (zD cs 16) xs).length=(zD cs 16).length:=zBS _ _ (by omega);rw[zAD _ xs k (by omega) (by omega) hk];obtain⟨f1,f2,f3⟩:=zEv cs hok hl 16 (by omega) _ (wE2 (show k<(zD cs 16).length by omega));exact⟨_,_,rfl,f1,f2,by omega⟩
def zOo (T:List Tok) (l c:Int):zDx T (l,c)=(T.find? (zCK l c)).map fun t=>Value.int .i64 t.1:=rfl
def yU (r:Bool) (T1 T2:List Tok) (D:List Bool) (first:Bool) (p:Nat):Tok×Int×Nat :=
 let s:=uG (if first then T1 else T2) D p
 if s.2.2≠0 then ((0,0,0),s.2.2,if r then (if s.2.2=3 then D.length else p+16) else p)
 else
  let wd:=if first then s.1 else s.1%16
  if 12<wd∨(first=false∧11<wd) then ((0,0,0),4,if r then s.2.1 else p)
  else if D.length<s.2.1+wd.toNat then ((0,0,0),3,if r then s.2.1 else p)
  else ((s.1,wd,((yJ ((D.drop s.2.1).take wd.toNat):Nat):Int)),0,s.2.1+wd.toNat)
def zJw {r:Bool} {T1 T2:List Tok} {D:List Bool} {first:Bool} {p:Nat} (h:(uG (if first then T1 else T2) D p).2.2≠0):yU r T1 T2 D first p=((0,0,0),(uG (if first then T1 else T2) D p).2.2,if r then (if (uG (if first then T1 else T2) D p).2.2=3 then D.length else p+16) else p):=by
 unfold yU;dsimp only;rw[if_pos h]
def zID {r:Bool} {T1 T2:List Tok} {D:List Bool} {first:Bool} {p p':Nat} {s wd:Int} (h:uG (if first then T1 else T2) D p=(s,p',0)) (hw:(if first then s else s%16)=wd) (hb:12<wd∨(first=false∧11<wd)):yU r T1 T2 D first p=((0,0,0),4,if r then p' else p):=by
 unfold yU;rw[h];dsimp only;rw[if_neg (by simp),hw,if_pos hb]
def zIC {r:Bool} {T1 T2:List Tok} {D:List Bool} {first:Bool} {p p':Nat} {s wd:Int} (h:uG (if first then T1 else T2) D p=(s,p',0)) (hw:(if first then s else s%16)=wd) (hb: ¬(12<wd∨(first=false∧11<wd))) (hl:D.length<p'+wd.toNat):yU r T1 T2 D first p=((0,0,0),3,if r then p' else p):=by
 unfold yU;rw[h];dsimp only;rw[if_neg (by simp),hw,if_neg hb,if_pos hl]
def zFR {r:Bool} {T1 T2:List Tok} {D:List Bool} {first:Bool} {p p':Nat} {s wd:Int} (h:uG (if first then T1 else T2) D p=(s,p',0)) (hw:(if first then s else s%16)=wd) (hb: ¬(12<wd∨(first=false∧11<wd))) (hl: ¬D.length<p'+wd.toNat):yU r T1 T2 D first p=((s,wd,((yJ ((D.drop p').take wd.toNat):Nat):Int)),0,p'+wd.toNat):=by
 unfold yU;rw[h];dsimp only;rw[if_neg (by simp),hw,if_neg hb,if_neg hl]
def zQA {T:List Tok} {D:List Bool} {p:Nat} (hT: ∀ t∈T,0≤t.1∧t.1≤255):0≤(uG T D p).1∧(uG T D p).1≤255:=by
 unfold uG;split
 ·next t ht=>exact hT t (wN9 ht)
 ·exact⟨by simp,by simp⟩
section
variable {σ:Type} {n1 n2:σ→Tok×Int×σ}
def goB_keep0 (next:σ→Tok×Int×σ): ∀ (k i:Nat) (z:List Int) (all:List Tok) (s:σ),64-i≤k→1≤i→(goB next i z all s).2.1.getD 0 0=z.getD 0 0:=by
 intro k
 induction k with
 | zero=>intro i z all s h _;rw[goB.eq_def,dif_neg (by omega)]
 | succ k ih =>
   intro i z all s h h1;rw[goB.eq_def]
   by_cases hi:i<64
   ·rw[dif_pos hi];split
    ·rfl
    ·split
     ·rfl
     ·split
      ·rfl
      ·split
       ·rfl
       ·rw[ih _ _ _ _ (by omega) (by omega)];rw[wF4,wK8 (by omega), ←wF4]
   ·rw[dif_neg hi]
def blkZ_head (next:Bool→σ→Tok×Int×σ) (before:Int) (s:σ) (h:(jV next before s).1=0): -2047≤(jV next before s).2.1.getD 0 0∧(jV next before s).2.1.getD 0 0≤2047:=by
 unfold jV at h ⊢
 by_cases he:(next true s).2.1≠0
 ·rw[if_pos he] at h;exact absurd h he
 ·rw[if_neg he] at h ⊢
  cases ht:zBF before (next true s).1 with
  | false=>simp[ht] at h
  | true =>
    rw[ht,if_neg (by simp)] at h;rw[if_neg (by simp)];dsimp only at h ⊢;have hk:=goB_keep0 (next false) 64 1 ((List.replicate 64 0).set 0 (before+(yZ (next true s).1.2.1 (next true s).1.2.2).1)) [(next true s).1] (next true s).2.2 (by omega) (by omega);generalize goB (next false) 1 ((List.replicate 64 0).set 0 (before+(yZ (next true s).1.2.1 (next true s).1.2.2).1)) [(next true s).1] (next true s).2.2=g at *;unfold zBF at ht;have ht:=of_decide_eq_true ht
    by_cases hg:g.1≠0
    ·rw[if_pos hg] at h;exact absurd h hg
    ·rw[if_neg hg] at h ⊢
     by_cases hz:yC before g.2.1=g.2.2.1
     ·rw[if_pos hz];dsimp only;have h0:=zIM g.2.1 64 0 (by omega) (by omega);rw[show (vK 0).toNat=0 by decide] at h0;rw[h0,hk,show ((List.replicate 64 (0:Int)).set 0 (before+(yZ (next true s).1.2.1 (next true s).1.2.2).1)).getD 0 0=before+(yZ (next true s).1.2.1 (next true s).1.2.2).1 from rfl];exact⟨ht.2.2.1,ht.2.2.2⟩
     ·rw[if_neg hz] at h;cases h
end
def zKV (x:Int) (w:World):Calls Tryz.prog 187 #[.int .i64 x] w fun e w'=>e=.returned (.tuple #[.agg (bv (List.replicate 64 0)),.slice none 0 0,.int .i64 x])∧Ext w w':=by
 have hz0:=zA (show (Value.agg (bv (List.replicate 64 0))).cells.size=64 by rw[show (Value.agg (bv (List.replicate 64 0))).cells=bv (List.replicate 64 0) from rfl,zK];rfl);have hbt:Tryz.prog.built 33 []=some (bv (List.replicate 64 0)):=by kernel_rfl
 have hal:(Tryz.prog.info? 33).bind (·.zero)=some (.agg (bv (List.replicate 64 0))):=qU;have HBT:=zA hbt;have HAL:=zA hal;have HO:=zA (xE (List.replicate 64 0));have HS:=zA (show (bv (List.replicate 64 0)).size=64 by rw[zK];rfl);clear hbt hal;generalize bv (List.replicate 64 0)=cz at *;go_enter Tryz.func187,Tryz.ntmps187
 go_wp2_with (first
  | ((with_reducible apply gS 2);refine wAlo' rfl (some 2) rfl 33 rfl _ HAL.out ?_;intro w1 g1 hb1 hx1 hg1)
  | (refine vN rfl 33 rfl _ HBT.out ?_)
  | ((with_reducible apply gT 2 5);refine wStB rfl 33 (.tmp 2) (.tmp 5) rfl _ _ rfl rfl hb1 64 zH HS.out hz0.out HO.out ?_;intro w2 hb2 hg2))
 refine vB rfl rfl _ rfl hb2 _ Tryz.underlying33 rfl 64 zH HS.out ⟨rfl,hx1.grown hg2 hg1⟩
section
variable {σ:Type} {f:FuncId} {B:Nat} {S:Nat→Prop} {Inv:World→σ→Prop} {next:Bool→σ→Tok×Int×σ}
def zCE (S:Nat→Prop) (Inv:World→σ→Prop) (w:World) (g:Int×List Int×List Tok×σ) (e:Ending) (w':World):Prop :=
 ∃ A c,e=.returned (.tuple #[.agg (bv g.2.1),.slice A g.2.2.1.length c,.int .i64 g.1])∧SL w' 3 (.slice A g.2.2.1.length c) g.2.2.1.length (qC g.2.2.1)∧Inv w' g.2.2.2∧Upd S w w'
set_option maxRecDepth 100000 in
def from_err (before : Int) {ty : TypeId} {v recv : Value} (hm : Meth Tryz.prog ty v "Token" f recv) (C : Src f #[recv] #[] B S Inv next) (w : World) (s : σ) (hI : Inv w s) (hB : B = w.heap.size)
 {t:Tok} {x:Int} {s1:σ} (h:next true s=(t,x,s1)) (hx0:x≠0):Calls Tryz.prog 162 #[.int .i64 before,.iface ty v] w (zCE S Inv w (x,List.replicate 64 0,[],s1)):=by
 have HA:=zA (fun W (a:Inv W s) (b:B≤W.heap.size)=>C.ask true s W a b);rw[h] at HA;simp only[wR4,wR5,wL4,wL5,zCW] at HA;have hxb:(x !=0)=true:=by simpa using hx0
 have HN:=zA (fun W=>zKV x W);have HAL:=zA (show (Tryz.prog.info? 33).bind (·.zero)=some (.agg (bv (List.replicate 64 0))) from qU);have HO:=zA (xE (List.replicate 64 0));have HS:=zA (show (bv (List.replicate 64 0)).size=64 by rw[zK];rfl);have hz0:=zA (show (Value.agg (bv (List.replicate 64 0))).cells.size=64 by rw[show (Value.agg (bv (List.replicate 64 0))).cells=bv (List.replicate 64 0) from rfl,zK];rfl);have HK:=zA C.keep;have HLOW:=zA C.low;unfold zCE;generalize hcz:bv (List.replicate 64 0)=cz at *;have HCZ:=zA hcz;have HBs:=zA hB;clear h hx0 C hcz hB;go_enter Tryz.func162,Tryz.ntmps162
 go_wp2_with (first
  | ((with_reducible apply gS 4);refine wAlo' rfl (some 4) rfl 33 rfl _ HAL.out ?_;intro w1 g1 hb1 hx1 hg1)
  | ((with_reducible show wpList _ _ _ (⟨some 19, _, _, _, _, _⟩ :: _) _ _); refine xP (by rfl) (zDd (.tmp 18) "Token" _ _ rfl rfl hm #[recv, .bool true] (by simp [Act.eval])) ?_; (with_reducible refine (HA.out _ (HK.out _ _ _ hI (yB hx1)) (by rw [HBs.out]; exact hx1.size)).mono ?_); rintro e w2 ⟨rfl, hi2, hu2⟩; refine ⟨_, rfl, ?_⟩)
  | ((with_reducible apply gS 8);refine wAlo' rfl (some 8) rfl 149 rfl _ zAL ?_;intro w3 g3 hb3 hx3 hg3)
  | ((with_reducible apply gT 8 20);refine wStB rfl 149 (.tmp 8) (.tmp 20) rfl _ _ rfl rfl hb3 3 yP rfl rfl (zCO _ _ _) ?_;intro w4 hb4 hg4)
  | (go_at_call 187;(with_reducible refine (HN.out _).mono ?_);rintro e w5 ⟨rfl,hx5⟩;have hb1':Blk w5 g1 33 (Value.agg cz).cells:=((((hu2.blk hb1 (fun k=>by have:=HLOW.out _ k;have:=HBs.out;omega)).ext hx3).grown hg4 (by intro k;have:=Option.some.inj k;have:=(hu2.blk hb1 (fun k=>by have:=HLOW.out _ k;have:=HBs.out;omega)).lt;omega))).ext hx5)
  | ((with_reducible apply gT 4 27);refine wStB rfl 33 (.tmp 4) (.tmp 27) rfl _ _ rfl rfl hb1' 64 zH HS.out hz0.out HO.out ?_;intro w6 hb6 hg6))
 have hu:Upd S w w6:=by
  have h1:Upd S w w2:=(yB (S:=S) hx1).trans hu2 (fun _ k=>.inl k);have h2:=h1.size;have h3:Upd S w w3:=h1.trans (yB (S:=fun _=>False) hx3) (fun _ k=>k.elim);have h4:=h3.trans (zO hg4) (fun x k=>.inr (by have:=Option.some.inj k;omega));have h5:=h4.trans (yB (S:=fun _=>False) hx5) (fun _ k=>k.elim);exact h5.trans (zO hg6) (fun x k=>.inr (by have:=Option.some.inj k;omega))
 have hi:Inv w6 s1:=by
  have h2:=hu2.size;have h3:=hx1.size;have hBB:=HBs.out;have k3:Upd (fun b=>B≤b) w2 w3:=yB hx3;have k4:=k3.trans (zO hg4) (fun x k=>.inl (by have:=Option.some.inj k;omega));have k5:=k4.trans (yB (S:=fun _=>False) hx5) (fun _ k=>k.elim);exact HK.out _ _ _ hi2 (k5.trans (zO hg6) (fun x k=>.inl (by have:=Option.some.inj k;omega)))
 refine vB rfl rfl _ rfl hb6 _ Tryz.underlying33 rfl 64 zH HS.out ?_;exact⟨none,0,rfl,SL.nil _ _,hi,hu⟩
def zMx:((Tryz.prog.info? 149).bind (·.zero)).isSome=true:=by kernel_rfl
def zJK {w:World} {g:Nat} {T:TypeId} {a b c:Int} (h:Blk w g T #[.int .i64 a,.int .i64 b,.int .i64 c]):w.cell? ⟨g,0,none⟩=some (.int .i64 a)∧w.cell? ⟨g,1,none⟩=some (.int .i64 b)∧w.cell? ⟨g,2,none⟩=some (.int .i64 c):=by
 rw[h.cell,h.cell,h.cell];exact⟨rfl,rfl,rfl⟩
set_option maxRecDepth 100000 in
def from_bad (before : Int) (hb1 : -2047 ≤ before) (hb2 : before ≤ 2047) {ty : TypeId} {v recv : Value} (hm : Meth Tryz.prog ty v "Token" f recv) (C : Src f #[recv] #[] B S Inv next) (w : World) (s : σ) (hI : Inv w s) (hB : B = w.heap.size)
 {t:Tok} {s1:σ} (h:next true s=(t,0,s1)) (hbad:zBF before t=false):Calls Tryz.prog 162 #[.int .i64 before,.iface ty v] w (zCE S Inv w (4,List.replicate 64 0,[],s1)):=by
 have HA:=zA (fun W (a:Inv W s) (b:B≤W.heap.size)=>C.ask true s W a b);rw[h] at HA;simp only[wR4,wR5,wL4,wL5,zCW] at HA;have HN:=zA (fun W=>zKV 4 W);have HAL:=zA (show (Tryz.prog.info? 33).bind (·.zero)=some (.agg (bv (List.replicate 64 0))) from qU);have HO:=zA (xE (List.replicate 64 0));have HS:=zA (show (bv (List.replicate 64 0)).size=64 by rw[zK];rfl);have hz0:=zA (show (Value.agg (bv (List.replicate 64 0))).cells.size=64 by rw[show (Value.agg (bv (List.replicate 64 0))).cells=bv (List.replicate 64 0) from rfl,zK];rfl);have HK:=zA C.keep;have HLOW:=zA C.low;obtain⟨t1,t2,t3⟩:=t;have HBK:=zA (fun W=>zPd t2 t3 W);have hbb:=zKd t2 t3
 have hcase:((yZ t2 t3).2 !=0)=true∨(((yZ t2 t3).2 !=0)=false∧(t1 !=t2)=true)∨(((yZ t2 t3).2 !=0)=false∧(t1 !=t2)=false∧inB (before+(yZ t2 t3).1) (-2047) 2047=false):=by
  by_cases c1:(yZ t2 t3).2=0
  ·by_cases c2:t1=t2
   ·refine .inr (.inr ⟨by simpa using c1,by simpa using c2, ?_⟩);rw[zAI];unfold zBF at hbad;simp only[decide_eq_false_iff_not,not_and] at hbad;have:=hbad c1 c2;omega
   ·exact .inr (.inl ⟨by simpa using c1,by simpa using c2⟩)
  ·exact .inl (by simpa using c1)
 have HIC:=zA (fun W=>zDY (before+(yZ t2 t3).1) W);unfold zCE;clear hbad h C;generalize yZ t2 t3=bk at *;obtain⟨b1,b2⟩:=bk;simp only at hbb hcase HBK HIC;obtain⟨hbb1,hbb2, -⟩:=hbb;generalize hcz:bv (List.replicate 64 0)=cz at *;have HCZ:=zA hcz;have HBs:=zA hB;clear hcz hB;rcases hcase with c1 | ⟨c1,c2⟩ | ⟨c1,c2,c3⟩
 all_goals
  go_enter Tryz.func162,Tryz.ntmps162
  go_wp2_with (first
   | ((with_reducible apply gS 4);refine wAlo' rfl (some 4) rfl 33 rfl _ HAL.out ?_;intro w1 g1 hb1 hx1 hg1)
   | ((with_reducible show wpList _ _ _ (⟨some 19, _, _, _, _, _⟩ :: _) _ _); refine xP (by rfl) (zDd (.tmp 18) "Token" _ _ rfl rfl hm #[recv, .bool true] (by simp [Act.eval])) ?_; (with_reducible refine (HA.out _ (HK.out _ _ _ hI (yB hx1)) (by rw [HBs.out]; exact hx1.size)).mono ?_); rintro e w2 ⟨rfl, hi2, hu2⟩; refine ⟨_, rfl, ?_⟩)
   | ((with_reducible apply gS 8);refine wAlo' rfl (some 8) rfl 149 rfl _ zAL ?_;intro w3 g3 hb3 hx3 hg3)
   | ((with_reducible apply gT 8 20);refine wStB rfl 149 (.tmp 8) (.tmp 20) rfl _ _ rfl rfl hb3 3 yP rfl rfl (zCO _ _ _) ?_;intro w4 hb4 hg4)
   | ((with_reducible apply gS 30);refine wLdB rfl 149 (.tmp 8) rfl g3 rfl hb4 _ Tryz.underlying149 rfl 3 yP rfl ?_)
   | ((with_reducible apply gS 31);refine wLit1 rfl 145 149 (.tmp 30) rfl (some 31) rfl Tryz.underlying145 3 yP zMx _ rfl rfl (by omega) (by omega) ?_;intro w5 g5 hb5 hx5 hg5;obtain⟨q0,q1,q2⟩:=zJK (hb4.ext hx5))
   | (go_at_call 188;(with_reducible refine (HBK.out _).mono ?_);rintro e w' ⟨rfl,rfl⟩)
   | (go_at_call 189;(with_reducible refine (HIC.out _).mono ?_);rintro e w' ⟨rfl,rfl⟩)
   | (go_at_call 187;(with_reducible refine (HN.out _).mono ?_);rintro e w6 ⟨rfl,hx6⟩;have hb1':Blk w6 g1 33 (Value.agg cz).cells:=(((((hu2.blk hb1 (fun k=>by have:=HLOW.out _ k;have:=HBs.out;omega)).ext hx3).grown hg4 (by intro k;have:=Option.some.inj k;have:=(hu2.blk hb1 (fun k=>by have:=HLOW.out _ k;have:=HBs.out;omega)).lt;omega))).ext hx5).ext hx6)
   | ((with_reducible apply gT 4 58);refine wStB rfl 33 (.tmp 4) (.tmp 58) rfl _ _ rfl rfl hb1' 64 zH HS.out hz0.out HO.out ?_;intro w7 hb7 hg7))
  have hu:Upd S w w7:=by
   have h1:Upd S w w2:=(yB (S:=S) hx1).trans hu2 (fun _ k=>.inl k);have h2:=h1.size;have h3:Upd S w w3:=h1.trans (yB (S:=fun _=>False) hx3) (fun _ k=>k.elim);have h4:=h3.trans (zO hg4) (fun x k=>.inr (by have:=Option.some.inj k;omega));have h5:=h4.trans (yB (S:=fun _=>False) (hx5.trans hx6)) (fun _ k=>k.elim);exact h5.trans (zO hg7) (fun x k=>.inr (by have:=Option.some.inj k;omega))
  have hi:Inv w7 s1:=by
   have h2:=hu2.size;have h3:=hx1.size;have hBB:=HBs.out;have k3:Upd (fun b=>B≤b) w2 w3:=yB hx3;have k4:=k3.trans (zO hg4) (fun x k=>.inl (by have:=Option.some.inj k;omega));have k5:=k4.trans (yB (S:=fun _=>False) (hx5.trans hx6)) (fun _ k=>k.elim);exact HK.out _ _ _ hi2 (k5.trans (zO hg7) (fun x k=>.inl (by have:=Option.some.inj k;omega)))
  refine vB rfl rfl _ rfl hb7 _ Tryz.underlying33 rfl 64 zH HS.out ?_;exact⟨none,0,rfl,SL.nil _ _,hi,hu⟩
end
end Go.Proofs.YtkggcjdlpendfaaGreatDoor
