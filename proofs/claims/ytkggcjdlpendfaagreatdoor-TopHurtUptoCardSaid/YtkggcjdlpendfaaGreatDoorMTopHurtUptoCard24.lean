import Derived.Laws.BytesArg
import Derived.Lib.LazyBuf
import Derived.Great.BuildSlice
import Derived.Test.YtkggcjdlpendfaaGreatDoorMTopHurtUptoCard23
set_option linter.all false
set_option maxRecDepth 20000
set_option maxHeartbeats 8000000
namespace Go.Proofs.YtkggcjdlpendfaaGreatDoor
open Go.RowKit Tryz
def strN (bs:List Nat):ByteArray:=strOfNums (bs.map λn:Nat=>(n:Int))
def zOU:∀(a:List Nat),(∀x∈a,x<256)→(strN a).data.toList.map UInt8.toNat=a:=by
 intro a ha;unfold strN strOfNums;rw[wF6]
 induction a with
 | nil=>rfl
 | cons x l ih =>
   have h1:=ha x (by simp);have h2:=ih (λy hy=>ha y (by simp[hy]));simp only[wG6,Function.comp,wD7] at h2 ⊢;rw[h2,UInt8.toNat_ofNat',wE6 (by omega)]
def strN_inj {a b:List Nat} (ha:∀x∈a,x<256) (hb:∀x∈b,x<256) (h:(strN a).data.toList=(strN b).data.toList):a=b:=by rw[←zOU a ha, ←zOU b hb,h]
def zNB {w:World} {A:Option Addr} {n c:Nat} {bs:List Nat} (h:SL w 1 (.slice A n c) n (zF bs)) :
 (convert 45 9 (.slice A n c)).run prog w=.ok (.string (strN bs)) w:=by
 obtain⟨A',c',e,h1,h2,h3,h4⟩:=h;injection e with e1 e2 e3
 subst e1 e3;rw[run_convert_bytes_string w 45 9 5 _ n c underlying45 underlying5 underlying9]
 by_cases h0:0<n
 ·obtain⟨ad,rfl,-,hc⟩:=h4 h0
  have hl:(loadCells ad n).run prog w=.ok ((bs.map λn:Nat=>(n:Int)).map (Value.int .u8)).toArray w:=by
   have:=run_loadCells_list (P:=prog) w ad (zF bs) (λj v hj=>hc j v hj);rw[show (zF bs).length=n by omega] at this;rw[this];simp[zF,wU5]
  rw[run_bytesToString w ad n c _ hl,foldl_push_bytes];simp[strN,strOfNums,ByteArray.empty,ByteArray.emptyWithCapacity];rfl
 obtain rfl:n=0:=by omega
 have:bs=[]:=by simpa [zF] using h3
 subst this;cases A<;>simp[Conv.bytesToString,loadCells,strN,strOfNums]<;>rfl
def ex_strEql {o:Oper} {a:Act} {x y:Operand} {t2:TypeId} (ho:o.op=.binOp .eql 9 x y t2) {s u:ByteArray} (hx:a.eval x=.string s) (hy:a.eval y=.string u) {b:Bool} (h:(s.toList ==u.toList)=b) (w:World):(execOp a.eval o).run prog w=.ok (.value (.bool b)) w:=by subst h;simp[execOp,ho,hx,hy,binOp,eqGuard,Op.stringOp]
def zNg (u v:Value) (xs ys:List Nat) (w:World) (hx:∀b∈xs,b<256) (hy:∀b∈ys,b<256) (hu:SL w 1 u xs.length (zF xs)) (hv:SL w 1 v ys.length (zF ys)) :
 Calls prog 85 #[u,v] w λe w'=>e=.returned (.bool (decide (xs=ys)))∧Ext w w':=by
 have hu':=hu;have hv':=hv;obtain⟨A,c,rfl,-,-,-,-⟩:=hu';obtain⟨B,d,rfl,-,-,-,-⟩:=hv';have k1:=zA (zNB hu);have k2:=zA (zNB hv)
 have HE:Hid (((strN xs).toList ==(strN ys).toList)=decide (xs=ys)):=zA (by
  rw[wC8];simp only[beq_iff_eq,wB3,ByteArray.toList_eq]
  exact⟨strN_inj hx hy,λh=>by rw[h]⟩)
 generalize decide (xs=ys)=r at *;generalize strN xs=s1 at *;generalize strN ys=s2 at *;clear hu hv hx hy;generalize xs.length=n at *;generalize ys.length=m at *;go_enter func85,ntmps85
 go_wp2_with (first
  | ((with_reducible apply gS 6);refine yU rfl (.string s1) (by simp[execOp,Act.eval,k1.out]) ?_)
  | ((with_reducible apply gS 8);refine yU rfl (.string s2) (by simp[execOp,Act.eval,k2.out]) ?_)
  | ((with_reducible apply gS 9);refine zB rfl (.bool r) (ex_strEql rfl rfl rfl HE.out) ?_))
 go_ret;exact⟨rfl,Ext.refl _⟩
def elt_u8C:Elt prog 45 5 1 1:=⟨underlying45,by kernel_rfl,by omega⟩
def zUQ (l:List Nat):∀u∈zF l,u.oneCell'=true:=by intro u hu;obtain⟨n,-,rfl⟩:=wD2.1 hu;rfl
def zOb (w:World) (a:Option Addr) (l c:Nat):(binOp .eql 45 (.slice a l c) (.slice none 0 0)).run prog w=.ok (.bool a.isNone) w:=by exact _root_.Go.run_eql_slice_nil w 45 5 a l c underlying45
def zOE (bs:List Nat) (w:World) (e:Ending) (w':World):Prop:=∃B d,e=.returned (.slice B bs.length d)∧w'.ownsRow w.heap.size 5 1 (.slice B bs.length d) bs.length (zF bs)∧Ext w w'
def zVF (w:World) (base:Nat) (e:TypeId) (hb:base≤w.heap.size):(w.alloc (.cells #[] e)).ownsRow base e 1 (.slice (some ⟨w.heap.size,0,none⟩) 0 0) 0 [] :=
 ⟨rfl,.inr ⟨w.heap.size,0, #[],rfl,hb,heap_alloc_new w _,by simp,by simp,by simp⟩⟩
def clone_any (A:Option Addr) (n c:Nat) (bs:List Nat) (w:World) (hn:bs.length=n) (hN:n≤1000000) (h:SL w 1 (.slice A n c) n (zF bs)) :
 Calls prog 84 #[.slice A n c] w (zOE bs w):=by
 unfold zOE;rw[hn]
 cases A with
 | none =>
   obtain⟨A',c',e,h1,h2,h3,h4⟩:=h;injection e with e1 e2 e3
   have h0:n=0:=by
    rcases wI0 n with h | h
    ·exact h
    obtain⟨ad,q,-⟩:=h4 h;rw[←e1] at q;cases q
   subst h0;have hb:bs=[]:=wP7.1 hn;subst hb;clear h4 h3 e1 e2 e3;have HNIL:=zA (λW=>zOb W none 0 c);go_enter func84,ntmps84;go_wp2_with ((with_reducible apply gS 4);refine zB rfl (.bool true) (by intro W;simp[execOp,Act.eval,HNIL.out,eqGuard]) ?_)
   go_ret;exact⟨none,0,rfl,zAm _ _ _ _,Ext.refl _⟩
 | some ad =>
   have HS:=zA h;have HNIL:=zA (λW=>zOb W (some ad) n c);have h5:=zVF w w.heap.size 5 (wA5 _);have hx5:=(Ext.refl w).alloc (.cells #[] 5);clear h;go_enter func84,ntmps84
   go_wp2_with (first
    | ((with_reducible apply gS 4);refine zB rfl (.bool false) (by intro W;simp[execOp,Act.eval,HNIL.out,eqGuard]) ?_)
    | ((with_reducible apply gS 7);refine wApf elt_u8C rfl (.tmp 5) (.tmp 6) rfl w.heap.size (.slice (some ⟨w.heap.size,0,none⟩) 0 0) 0 [] rfl h5 (.slice (some ad) n c) n (zF bs) rfl (HS.out.ext hx5) (zUQ bs) (by omega) (by omega) (by simp) ?_;intro B d w7 ho7 hg7 hr7;rw[wB2,wG4] at ho7;rw[wB2]))
   go_ret;exact⟨_,_,rfl,ho7,Below.grown hx5 hg7 hx5.size (λk hk=>by simp[Value.ownBlock] at hk;omega)⟩
def zTU (A:Option Addr) (n c:Nat) (bs:List Nat) (w:World) (hn:bs.length=n) (hl:91000<n) :
 Calls prog 37 #[.slice A n c] w (FpIs (uX bs) w):=by
 have HZ:Hid (uX bs=(FC.zero,2)):=zA (by unfold uX;rw[if_pos (by omega)]);have HE:=zA (λW (h:Ext w W)=>FpIs.err HZ.out h);have hzs:=zA zBb;have hzo:=zA zDn;have hz0:=zCH;have hbf:=zA zFj;generalize zFile=zf at *;generalize uX bs=pz at *;clear HZ hn;go_enter func37,ntmps37
 go_wp2_with (first
  | ((with_reducible apply gS 2);refine wAlo' rfl (some 2) rfl 47 rfl _ hz0 ?_;intro w1 g0 hb0 hx1 hg0)
  | ((with_reducible apply gS 12);refine jI (by rfl) 47 rfl _ hbf.out ?_)
  | ((with_reducible apply gT 2 12);refine wStB rfl 47 (.tmp 2) (.tmp 12) rfl g0 zf rfl rfl hb0 103 yO hzs.out hzs.out hzo.out ?_;intro w2 hb2 hg2))
 exact yN rfl rfl g0 rfl hb2 _ underlying47 rfl 103 yO hzs.out (HE.out _ (hx1.grown hg2 hg0))
def PRk.upd {S:Nat→Prop} {w w':World} {gr p:Nat} {bs:List Nat} (h:PRk w gr bs p) (hu:Upd S w w') (hS:∀x,S x→gr<x):PRk w' gr bs p:=PR.upd h hu hS
def PRk.ext {w w':World} {gr p:Nat} {bs:List Nat} (h:PRk w gr bs p) (hx:Ext w w'):PRk w' gr bs p:=PR.ext h hx
def PRk.lt {w:World} {gr p:Nat} {bs:List Nat} (h:PRk w gr bs p):gr<w.heap.size:=PR.lt h
def PRk.flag {w:World} {gr p:Nat} {bs:List Nat} (h:PRk w gr bs p):w.cell? ⟨gr,1,none⟩=some (.bool (decide (bs.length<p))):=PR.flag h
def PRk.start {w w3:World} {gr n c:Nat} {A:Option Addr} {bs:List Nat} (hn:bs.length=n) (hb:Blk w3 gr 119 #[.slice A n c,.bool false]) (hs:SL w 1 (.slice A n c) n (zF bs)) (hx:Ext w w3) (hg:w.heap.size≤gr):PRk w3 gr bs 0:=by
 subst hn;refine⟨A,c,by simpa using hb,by simpa using hs.ext hx,λh0 ad e=> ?_⟩;obtain⟨A',c',e1,h1,h2,h3,h4⟩:=hs;injection e1 with e1 e2 e3
 obtain⟨ad',e5,h5,-⟩:=h4 (by simpa using h0);rw[←e1,e] at e5;injection e5 with e5
 subst e5;omega
def PRk.rest {w:World} {gr p:Nat} {bs:List Nat} (h:PRk w gr bs p):∃A c,w.cell? ⟨gr,0,none⟩=some (.slice A (bs.drop p).length c)∧SL w 1 (.slice A (bs.drop p).length c) (bs.drop p).length (zF (bs.drop p)):=by obtain⟨A,c,h1,h2,h3⟩:=h;exact⟨A,c,h1.cell 0,h2⟩
section
def Z64:List Int:=List.replicate 64 0
def Z16:List Int:=List.replicate 16 0
attribute [local irreducible] qO qX zCF qT quL
def zTl (A:Option Addr) (n c:Nat) (bs:List Nat) (w:World) (hn:bs.length=n) (hl:n≤91000) (hlt:∀b∈bs,b<256) (hs:SL w 1 (.slice A n c) n (zF bs)) :
 Calls prog 37 #[.slice A n c] w (FpIs (uX bs) w):=by
 have HSB:=zA hs;have HNL:=zA hn;have HLT:=zA hlt;have hzs:=zA zBb;have hzo:=zA zDn;have hZF:=zCH;have hbf:=zA zFj;have hb4:=zA builtF;have hST:=zA (λ(w3:World) (gr:Nat) (hb:Blk w3 gr 119 #[.slice A n c,.bool false]) (hx:Ext w w3) (hg:w.heap.size≤gr)=>PRk.start hn hb hs hx hg);obtain⟨X,hX⟩:∃X:Nat→Nat,X=λp=>bs.getD p 0:=⟨_,rfl⟩
 have HX:=zA (λp=>(show bs.getD p 0=X p by rw[hX]));have HN:Hid (∀g p W,PRk W g bs p→Calls prog 81 #[.pointer (some ⟨g,0,none⟩)] W λe w'=>e=.returned (.int .i64 ((X p:Nat):Int))∧PRk w' g bs (p+1)∧Upd (λb=>b=g) W w'):=zA (λg p W h=>by rw[hX];exact zOd g bs p W hlt h);clear hX hs hlt hn;obtain⟨F0,hF0⟩:∃F0:FC,F0=⟨((X 2:Nat):Int),((X 3:Nat):Int),((X 4:Nat):Int),Z64,Z16,[],Z16,[],((X 5:Nat):Int),[]⟩:=⟨_,rfl⟩
 have hbF:Hid (prog.built 47 [(0,.int .i64 ((X 2:Nat):Int)),(1,.int .i64 ((X 3:Nat):Int)),(2,.int .i64 ((X 4:Nat):Int)),(5,.int .i64 ((X 5:Nat):Int))]=some (F0.cells (.slice none 0 0) (.slice none 0 0) (.slice none 0 0))):=zA (by rw[hF0];exact hb4.out _ _ _ _);have hF0s:F0.shaped:=by rw[hF0];exact⟨rfl,rfl,rfl⟩
 have hF0z:=zA (FC.size hF0s (.slice none 0 0) (.slice none 0 0) (.slice none 0 0));have hF0o:=zA (zEd F0 none none none 0 0 0 0 0 0);have HF0:=zA hF0;clear hF0 hb4;obtain⟨fc0,hfc0⟩:∃fc0,fc0=F0.cells (.slice none 0 0) (.slice none 0 0) (.slice none 0 0):=⟨_,rfl⟩
 rw[←hfc0] at hbF hF0z hF0o;have HFC0:=zA hfc0;clear hfc0;have HE:∀E,uX bs=(FC.zero,E)→Hid (∀W,Ext w W→FpIs (uX bs) w (.returned (.tuple #[.agg zFile,.int .i64 E])) W):=λE h=>zA (λW hx=>FpIs.err h hx)
 have HER:=zA HE;clear HE;generalize hzf:zFile=zf at *;go_enter func37,ntmps37
 go_wp2_with (first
  | ((with_reducible apply gS 2);refine wAlo' rfl (some 2) rfl 47 rfl _ hZF ?_;intro w1 g0 hb0 hx1 hg0)
  | ((with_reducible apply gS 15);refine wBox rfl 119 (.tmp 14) rfl #[.slice A n c,.bool false] rfl ?_;intro w3 gr hbr hx3 hgr;have hy0:=hx1.trans hx3;have hgr':w.heap.size≤gr:=(by have:=hx1.size;omega);have hq0:=hST.out w3 gr hbr hy0 hgr';have hz0:Blk w3 g0 47 zf:=hb0.ext hx3;have hne:g0<gr:=(by have:=hb0.lt;omega);clear hx1 hx3 hbr hb0)
  | (go_at_call 81;(with_reducible refine (HN.out _ 0 _ hq0).mono ?_);rintro e v0 ⟨rfl,hq',hu0⟩;have hq1:PRk v0 gr bs 1:=hq';have hz1:=hu0.blk hz0 (by omega);have hy1:=hu0.ext hy0 (λx hx=>by omega);clear hq' hq0 hz0 hy0 hu0)
  | (go_at_call 81;(with_reducible refine (HN.out _ 1 _ hq1).mono ?_);rintro e v1 ⟨rfl,hq',hu1⟩;have hq2:PRk v1 gr bs 2:=hq';have hz2:=hu1.blk hz1 (by omega);have hy2:=hu1.ext hy1 (λx hx=>by omega);clear hq' hq1 hz1 hy1 hu1)
  | (go_at_call 81;(with_reducible refine (HN.out _ 2 _ hq2).mono ?_);rintro e v2 ⟨rfl,hq',hu2⟩;have hq3:PRk v2 gr bs 3:=hq';have hz3:=hu2.blk hz2 (by omega);have hy3:=hu2.ext hy2 (λx hx=>by omega);clear hq' hq2 hz2 hy2 hu2)
  | (go_at_call 81;(with_reducible refine (HN.out _ 3 _ hq3).mono ?_);rintro e v3 ⟨rfl,hq',hu3⟩;have hq4:PRk v3 gr bs 4:=hq';have hz4:=hu3.blk hz3 (by omega);have hy4:=hu3.ext hy3 (λx hx=>by omega);clear hq' hq3 hz3 hy3 hu3)
  | (go_at_call 81;(with_reducible refine (HN.out _ 4 _ hq4).mono ?_);rintro e v4 ⟨rfl,hq',hu4⟩;have hq5:PRk v4 gr bs 5:=hq';have hz5:=hu4.blk hz4 (by omega);have hy5:=hu4.ext hy4 (λx hx=>by omega);clear hq' hq4 hz4 hy4 hu4)
  | (go_at_call 81;(with_reducible refine (HN.out _ 5 _ hq5).mono ?_);rintro e v5 ⟨rfl,hq',hu5⟩;have hq6:PRk v5 gr bs 6:=hq';have hz6:=hu5.blk hz5 (by omega);have hy6:=hu5.ext hy5 (λx hx=>by omega);clear hq' hq5 hz5 hy5 hu5)
  | ((with_reducible apply gS 28);refine wpList_buildTo rfl 47 _ rfl (some 28) rfl fc0 (by simp only[wI2,wG6,wG7];exact hbF.out) ?_)
  | ((with_reducible apply gS 5);refine wAlo' rfl (some 5) rfl 47 rfl _ hZF ?_;intro w10 gf hbf10 hx10 hgf;have hq10:=hq6.ext hx10;have hz10:=hz6.ext hx10;have hy10:=hy6.trans hx10;have hgg:gr<gf:=(by have:=hq6.lt;omega);have hgf':w.heap.size≤gf:=(by have:=hy6.size;omega);clear hq6 hz6 hy6 hx10)
  | ((with_reducible apply gT 5 28);refine wStB rfl 47 (.tmp 5) (.tmp 28) rfl gf fc0 rfl rfl hbf10 103 yO hF0z.out hzs.out hF0o.out ?_;intro w11 hbf11 hgf11))
 clear hbF hF0z hF0o hbf10;rw[HFC0.out] at hbf11;have hq11:=hq10.upd ((zM hgf11)) (λx hx=>by injection hx with hx;omega);have hz11:=hz10.grown hgf11 (by intro hx;injection hx with hx;omega);have hy11:=hy10.grown hgf11 hgf';have hgrl:gr<w11.heap.size:=hq11.lt;have hgfl:=hbf11.lt;have hne2:g0<gf:=by omega
 obtain⟨G,hG⟩:∃G:List Int→FC,G=λq=>{ F0 with qs:=q }:=⟨_,rfl⟩
 have HGQ:Hid (∀q,(G q).qs=q):=zA (λq=>by rw[hG]);have HGU:Hid (∀q q',({ G q with qs:=q' }:FC)=G q'):=zA (λq q'=>by rw[hG]);have HGS:Hid (∀q,q.length=64→(G q).shaped):=zA (λq h=>by rw[hG];exact⟨h,hF0s.2.1,hF0s.2.2⟩);have HG:Hid (∀q,G q=⟨((X 2:Nat):Int),((X 3:Nat):Int),((X 4:Nat):Int),q,Z16,[],Z16,[],((X 5:Nat):Int),[]⟩):=zA (λq=>by rw[hG,HF0.out]);have e0:F0=G (quL bs 0++List.replicate (64-0) 0):=by rw[HG.out,HF0.out,show quL bs 0=[] by simp[quL]];rfl
 rw[e0] at hbf11;clear hG e0 HF0 hF0s HFC0 hq10 hz10 hy10
 go_loopw [29] (λi wr=>∃k:Nat,k≤64∧i=.int .i64 (k:Int)∧PRk wr gr bs (6+k)∧Blk wr g0 47 zf∧Blk wr gf 47 (FC.cells (G (quL bs k++List.replicate (64-k) 0)) (.slice none 0 0) (.slice none 0 0) (.slice none 0 0))∧Ext w wr∧gf<wr.heap.size) (λi _=>64-(intOf i).toNat)
 case atStart=>exact⟨0,by omega,rfl,hq11,hz11,hbf11,hy11,hgfl⟩
 case round =>
  clear hq11 hz11 hbf11 hy11 hgfl hgrl;obtain⟨k,hk,rfl,hq,hz,hbf2,hy,hgfl⟩:=hrel
  by_cases hk64:k<64
  ·have HN1:=zA (HN.out gr (6+k));have hql:(quL bs k++List.replicate (64-k) 0).length=64:=by rw[wE2,zGv,wM9];omega
   have HGk:=zA (HGS.out _ hql);have HQ:Hid ((quL bs k++List.replicate (64-k) 0).set k ((X (6+k):Nat):Int)=quL bs (k+1)++List.replicate (64-(k+1)) 0):=zA (by rw[←HX.out];exact quL_set bs k hk64);generalize quL bs k++List.replicate (64-k) 0=q0 at *;generalize hq1:quL bs (k+1)++List.replicate (64-(k+1)) 0=q1 at *;have HQ1:=zA hq1;clear hq1 hql;generalize X (6+k)=x at *
   go_wp2_with (first
    | (go_at_call 81;(with_reducible refine (HN1.out _ hq).mono ?_);rintro e w3 ⟨rfl,hq3,hu3⟩;have hbf3:=hu3.blk hbf2 (by omega);have hz3:=hu3.blk hz (by omega);have hy3:=hu3.ext hy (λy hx=>by omega);have hgfl3:=(show gf<w3.heap.size by have:=hu3.size;omega);clear hq hz hbf2 hy hu3)
    | ((with_reducible apply gT 36 34);refine store_qk rfl _ _ rfl gf (G q0) HGk.out _ _ _ k hk64 (x:Int) rfl rfl hbf3 ?_;intro w4 hbf4 hu4;rw[HGQ.out,HGU.out,HQ.out] at hbf4;have hq4:=hq3.upd hu4 (λy hy=>by omega);have hz4:=hu4.blk hz3 (by omega);have hy4:=hu4.ext hy3 (λy hx=>by omega);have hgfl4:=(show gf<w4.heap.size by have:=hu4.size;omega);clear hq3 hz3 hbf3 hy3 hu4))
   go_roundw
   case rel=>exact⟨k+1,by omega,by go_num,hq4,hz4,by rw[HQ1.out];exact hbf4,hy4,hgfl4⟩
   case measure=>simp[intOf];omega
  obtain rfl:k=64:=by omega
  have hq70:PRk wr gr bs 70:=hq;have e64:quL bs 64++List.replicate (64-64) 0=quL bs 64:=by simp
  rw[e64] at hbf2;clear e64 hq;have HZF:=zA (λW=>zIt (quL bs 64) W (zGv bs 64));have HQs:=zA (HGS.out _ (zGv bs 64));have hzql:=zA (uW (quL bs 64) 64);have HZs:=zA (HGS.out _ hzql.out);generalize hq6:quL bs 64=q6 at *;have HQ6:=zA hq6;clear hq6;generalize hzq:qX q6 64=zq at *;have HZQ:=zA hzq;clear hzq;have HT:=zA (λp W (hp:p≤10000000) (h:PRk W gr bs p)=>table_any gr bs p W HLT.out hp h);have HCS:=zA (zOL HLT.out 70 16)
  go_upto_region 15 with (first
   | ((with_reducible apply gS 39);refine load_q rfl _ rfl gf (G q6) HQs.out _ _ _ rfl hbf2 ?_;rw[HGQ.out])
   | (go_at_call 82;(with_reducible refine (HZF.out _).mono ?_);rintro e w19 ⟨rfl,hx19⟩;have hq19:=hq70.ext hx19;have hz19:=hz.ext hx19;have hb19:=hbf2.ext hx19;have hy19:=hy.trans hx19;have hl19:=(show gf<w19.heap.size by have:=hx19.size;omega);clear hq70 hz hbf2 hy hx19)
   | ((with_reducible apply gT 41 40);refine store_q rfl _ _ rfl gf (G q6) HQs.out _ _ _ zq hzql.out rfl rfl hb19 ?_;intro w20 hb20 hu20;rw[HGU.out] at hb20;have hq20:=hq19.upd hu20 (λy hy=>by omega);have hz20:=hu20.blk hz19 (by omega);have hy20:=hu20.ext hy19 (λy hx=>by omega);have hl20:=(show gf<w20.heap.size by have:=hu20.size;omega);clear hq19 hz19 hb19 hy19 hu20)
   | (go_at_call 83;(with_reducible refine (HT.out 70 _ (by omega) hq20).mono ?_);rintro e w21 ⟨k1,A1,c1,hk1,hs1,rfl,ho1,hq21,hu21⟩;have hb21:=hu21.blk hb20 (by omega);have hz21:=hu21.blk hz20 (by omega);have hy21:=hu21.ext hy20 (λy hx=>by omega);have hl21:=(show gf<w21.heap.size by have:=hu21.size;omega);clear hq20 hz20 hb20 hy20 hu21)
   | ((with_reducible apply gT 45 43);refine store_t1 rfl _ _ rfl gf (G zq) HZs.out _ _ _ (qT bs 70 16) (zCF bs (70+32) k1) (zAI _ _ _) A1 k1 c1 rfl rfl hb21 ?_;intro w22 hb22 hu22;have hq22:=hq21.upd hu22 (λy hy=>by omega);have hz22:=hu22.blk hz21 (by omega);have hy22:=hu22.ext hy21 (λy hx=>by omega);have hl22:=(show gf<w22.heap.size by have:=hu22.size;omega);have ho1':=zAV ho1 hu22 (λy hy=>by omega);clear hq21 hz21 hb21 hy21 hu22 ho1)
   | (go_at_call 83;(with_reducible refine (HT.out (70+32+k1) _ (by have:=HCS.out;omega) hq22).mono ?_);rintro e w23 ⟨k2,A2,c2,hk2,hs2,rfl,ho2,hq23,hu23⟩;have hb23:=hu23.blk hb22 (by omega);have hz23:=hu23.blk hz22 (by omega);have hy23:=hu23.ext hy22 (λy hx=>by omega);have hl23:=(show gf<w23.heap.size by have:=hu23.size;omega);have ho1'':=zAV ho1' hu23 (λy hy=>by omega);clear hq22 hz22 hb22 hy22 hu23 ho1')
   | ((with_reducible apply gT 49 47);refine store_t2 rfl _ _ rfl gf ({ G zq with cs1:=qT bs 70 16,xs1:=zCF bs (70+32) k1 }:FC) ⟨HZs.out.1,zAI _ _ _,HZs.out.2.2⟩ _ _ _ (qT bs (70+32+k1) 16) (zCF bs (70+32+k1+32) k2) (zAI _ _ _) A2 k2 c2 rfl rfl hb23 ?_;intro w24 hb24 hu24;have hq24:=hq23.upd hu24 (λy hy=>by omega);have hz24:=hu24.blk hz23 (by omega);have hy24:=hu24.ext hy23 (λy hx=>by omega);have hl24:=(show gf<w24.heap.size by have:=hu24.size;omega);have ho1:=zAV ho1'' hu24 (λy hy=>by omega);have ho2':=zAV ho2 hu24 (λy hy=>by omega);clear hq23 hz23 hb23 hy23 hu24 ho1'' ho2))
  have HOE:=zA (λW (hb:Blk W g0 47 zf)=>hb)
  by_cases hsh:bs.length<70+32+k1+32+k2
  ·have hfl:=hq24.flag;rw[show decide (bs.length<70+32+k1+32+k2)=true by simpa using hsh] at hfl
   have hP3:bs.length<p3 bs:=by
    unfold p3 p2
    by_cases hk:k1=qO bs 70 16
    ·rw[←hk];omega
    have:=hs1 (by omega);omega
   have HEE:=HER.out 3 (by unfold uX;rw[if_neg (by have:=HNL.out;omega),if_pos hP3]);clear hb24 ho1 ho2' hq24 hs1 hs2 HCS hP3 HER HT;generalize uX bs=pz at *
   go_wp2_with (first
    | ((with_reducible apply gS 54);refine jI (by rfl) 47 rfl _ hbf.out ?_)
    | ((with_reducible apply gT 2 54);refine wStB rfl 47 (.tmp 2) (.tmp 54) rfl g0 zf rfl rfl hz24 103 yO hzs.out hzs.out hzo.out ?_;intro w2 hb2 hg2))
   exact yN rfl rfl g0 rfl hb2 _ underlying47 rfl 103 yO hzs.out (HEE.out _ (hy24.grown hg2 hg0))
  have hfl:=hq24.flag;rw[show decide (bs.length<70+32+k1+32+k2)=false by simpa using hsh] at hfl
  obtain rfl:k1=qO bs 70 16:=by
   by_cases hk:k1=qO bs 70 16
   ·exact hk
   have:=hs1 (by omega);omega
  have hsh2:¬bs.length<p2 bs+32+k2:=hsh;have hs2':k2<qO bs (p2 bs) 16→bs.length<p2 bs+32+k2:=hs2;have hk2':k2≤qO bs (p2 bs) 16:=hk2
  obtain rfl:k2=qO bs (p2 bs) 16:=by
   by_cases hk:k2=qO bs (p2 bs) 16
   ·exact hk
   have:=hs2' (by omega);omega
  have hq24':PRk w24 gr bs (p3 bs):=hq24;obtain⟨B4,d4,hc4,hsd4⟩:=hq24'.rest
  have hb24':Blk w24 gf 47 (FC.cells { vJ bs with data:=[] } (.slice A1 (qO bs 70 16) c1) (.slice A2 (qO bs (p2 bs) 16) c2) (.slice none 0 0)):=by
   have:=hb24;rw[HG.out] at this;unfold vJ;rw[HX.out,HX.out,HX.out,HX.out,HQ6.out,HZQ.out];exact this
  have ho2:w24.ownsRow w22.heap.size 3 1 (.slice A2 (qO bs (p2 bs) 16) c2) (qO bs (p2 bs) 16) (ints (zCF bs (p2 bs+32) (qO bs (p2 bs) 16))):=ho2';have hFs:=zQR bs
  have HAT:=zA (λW sd (h1:SL W 1 (.slice A1 (qO bs 70 16) c1) (qO bs 70 16) (ints (zCF bs (70+32) (qO bs 70 16)))) (h2:SL W 1 (.slice A2 (qO bs (p2 bs) 16) c2) (qO bs (p2 bs) 16) (ints (zCF bs (p2 bs+32) (qO bs (p2 bs) 16)))) (h3:SL W 1 sd (bs.drop (p3 bs)).length (zF (bs.drop (p3 bs))))=>(show (vJ bs).at_ W (.slice A1 (qO bs 70 16) c1) (.slice A2 (qO bs (p2 bs) 16) c2) sd by
   unfold FC.at_ vJ
   dsimp only;rw[zRG,zRG]
   exact⟨h1,h2,h3⟩))
  have HPK:=zA (λW s1 s2 sd (ha:(vJ bs).at_ W s1 s2 sd)=>(vJ bs).pack hFs s1 s2 sd W ha);have HLL:=zA ((vJ bs).packL_lt hFs.1 (λb hb=>HLT.out b (wM7 hb)));have HP0:=zA (λ(h1:(vJ bs).packE=0) (h2:(vJ bs).packL=bs)=>(show uX bs=(vJ bs,0) by unfold uX;rw[if_neg (by have:=HNL.out;omega),if_neg (show ¬bs.length<p3 bs from hsh2),if_pos ⟨h1,h2⟩]));have HP4:=zA (λ(h:¬((vJ bs).packE=0∧(vJ bs).packL=bs))=>(show uX bs=(FC.zero,4) by unfold uX;rw[if_neg (by have:=HNL.out;omega),if_neg (show ¬bs.length<p3 bs from hsh2),if_neg h]));have HSD:=zA (λB m d=>FC.size (F:={ vJ bs with data:=[] }) hFs (.slice A1 (qO bs 70 16) c1) (.slice A2 (qO bs (p2 bs) 16) c2) (.slice B m d));have HSZ:=zA (λB m d=>FC.size hFs (.slice A1 (qO bs 70 16) c1) (.slice A2 (qO bs (p2 bs) 16) c2) (.slice B m d));have HON:=zA (λB m d=>zEd (vJ bs) A1 A2 B (qO bs 70 16) c1 (qO bs (p2 bs) 16) c2 m d);have hDL:(bs.drop (p3 bs)).length≤91000:=by rw[wE8];have:=HNL.out;omega
  have HST:=zA (λ(ops:Array Oper) (rest:List Oper) (o:Oper) (ac:Act) (w:World) (Q:Exit→Act→World→Prop) (hgd:o.guard=none) (x y:Operand) (ho:o.op=.store 45 x y) (A:Option Addr) (n c:Nat) (hx:ac.eval x=.pointer (some ⟨gf,102,none⟩)) (hy:ac.eval y=.slice A n c) (hB:Blk w gf 47 (FC.cells { vJ bs with data:=[] } (.slice A1 (qO bs 70 16) c1) (.slice A2 (qO bs (p2 bs) 16) c2) (.slice none 0 0))) (h:∀w1,Blk w1 gf 47 (FC.cells (vJ bs) (.slice A1 (qO bs 70 16) c1) (.slice A2 (qO bs (p2 bs) 16) c2) (.slice A n c))→Upd (λb=>b=gf) w w1→wpList prog ops Q rest (ac.put o.dst undef) w1)=>zFf (Q:=Q) (rest:=rest) (ops:=ops) hgd x y ho gf { vJ bs with data:=[] } hFs _ _ _ (bs.drop (p3 bs)) A n c hx hy hB h);have HSB':=zA (λW (h:Ext w W)=>HSB.out.ext h);have hl22:gf<w22.heap.size:=by have:=ho2.lt;omega
  clear hb24 ho2' hq24 hq24' HT HCS hk1 hs1 hk2 hs2 hs2' hk2' hsh hsh2 HG HGQ HGU HGS HX HN HZF HQs HZs HQ6 HZQ hzql;obtain⟨FC3,hFC3⟩:∃C:Array Value,C=FC.cells { vJ bs with data:=[] } (.slice A1 (qO bs 70 16) c1) (.slice A2 (qO bs (p2 bs) 16) c2) (.slice none 0 0):=⟨_,rfl⟩
  simp only[←hFC3] at hb24' HST;generalize vJ bs=PF at *;clear hFC3;have HCLN:=clone_any B4 (bs.drop (p3 bs)).length d4 (bs.drop (p3 bs)) w24 rfl (wJ1 hDL (by omega)) hsd4;unfold zOE at HCLN;generalize bs.drop (p3 bs)=RR at *;generalize RR.length=m at *;have HCLN':=zA HCLN;clear HCLN hsd4
  go_upto_region 19 with (first
   | ((with_reducible apply gS 58);refine yU rfl (.slice B4 m d4) (zAT rfl rfl hc4) ?_)
   | (go_at_call 84;(with_reducible refine HCLN'.out.mono ?_);rintro e w25 ⟨B5,d5,rfl,ho5,hx5⟩;have hb25:=hb24'.ext hx5;have hz25:=hz24.ext hx5;have hy25:=hy24.trans hx5;have ho15:=yE ho1 hx5;have ho25:=yE ho2 hx5)
   | ((with_reducible apply gT 60 59);refine HST.out _ _ _ _ _ _ rfl _ _ rfl B5 m d5 rfl rfl hb25 ?_;intro w26 hb26 hu26;have hz26:=hu26.blk hz25 (by omega);have hy26:=hu26.ext hy25 (λy hx=>by omega);have ho16:=zAV ho15 hu26 (λy hy=>by omega);have ho26:=zAV ho25 hu26 (λy hy=>by omega);have ho56:=zAV ho5 hu26 (λy hy=>by omega);have hat:=HAT.out _ _ (jC ho16).1 (jC ho26).1 (jC ho56).1)
   | ((with_reducible apply gS 62);refine wLdB rfl 47 (.tmp 5) rfl gf rfl hb26 _ underlying47 rfl 103 yO (HSZ.out _ _ _) ?_)
   | (go_at_call 36;(with_reducible refine (HPK.out _ _ _ _ hat).mono ?_);rintro e w27 ⟨C7,d7,rfl,hs7,hx7⟩;have hb27:=hb26.ext hx7;have hz27:=hz26.ext hx7;have hy27:=hy26.trans hx7;have hat7:=hat.ext hx7))
  have HEQ:=zA (zNg (.slice C7 PF.packL.length d7) (.slice A n c) PF.packL bs w27 HLL.out HLT.out hs7 (by rw[HNL.out];exact HSB'.out w27 hy27));have HEF:=zA (λ(E:Int) (h:uX bs=(FC.zero,E)) W (hx:Ext w W)=>(HER.out E h).out W hx);have HON':=zA (HON.out B5 m d5);have HSZ':=zA (HSZ.out B5 m d5);have hzl27:=hz27;obtain⟨FV,hFV⟩:∃C:Array Value,C=FC.cells PF (.slice A1 (qO bs 70 16) c1) (.slice A2 (qO bs (p2 bs) 16) c2) (.slice B5 m d5):=⟨_,rfl⟩
  have HFV:=zA hFV;rw[←hFV] at hb27;rw[←hFV] at HON' HSZ';clear hFV HER HPK HON HSZ HST hb26 hb25 hz25 hz26 ho15 ho25 ho5 hat hs7 hb24' HCLN' HSD hz24 ho1 ho2;generalize PF.packL=L at *
  by_cases hE:PF.packE=0
  ·by_cases hLb:L=bs
   ·rw[wS2 hLb] at HEQ;have HZ:=zA (HP0.out hE hLb);generalize uX bs=pz at *;rw[hE];generalize L.length=ll at *;clear HP0 HP4 HEF HLL hLb
    go_wp2_with (first
     | (go_at_call 85;(with_reducible refine HEQ.out.mono ?_);rintro e w28 ⟨rfl,hx28⟩;have hb28:=hb27.ext hx28;have hz28:=hz27.ext hx28;have hy28:=hy27.trans hx28;have hat8:=hat7.ext hx28)
     | ((with_reducible apply gS 75);refine wLdB rfl 47 (.tmp 5) rfl gf rfl hb28 _ underlying47 rfl 103 yO HSZ'.out ?_)
     | ((with_reducible apply gT 2 75);refine wStB rfl 47 (.tmp 2) (.tmp 75) rfl g0 FV rfl rfl hz28 103 yO HSZ'.out hzs.out HON'.out ?_;intro w29 hb29 hg29))
    have hy29:=hy28.grown hg29 hg0;have a1:=zAV (yE (yE ho16 hx7) hx28) (zM hg29) (λx hx=>by injection hx with hx;omega);have a2:=zAV (yE (yE ho26 hx7) hx28) (zM hg29) (λx hx=>by injection hx with hx;omega);have a3:=zAV (yE (yE ho56 hx7) hx28) (zM hg29) (λx hx=>by injection hx with hx;omega)
    exact yN rfl rfl g0 rfl hb29 _ underlying47 rfl 103 yO HSZ'.out (by
     rw[HZ.out]
     exact⟨_,_,_,by rw[HFV.out];rfl,HAT.out _ _ (jC a1).1 (jC a2).1 (jC a3).1,hy29⟩)
   rw[wS3 hLb] at HEQ;have HEE:=zA (HEF.out 4 (HP4.out (λh=>hLb h.2)));generalize uX bs=pz at *;rw[hE];generalize L.length=ll at *;clear HP0 HP4 HEF HLL hLb
   go_wp2_with (first
    | (go_at_call 85;(with_reducible refine HEQ.out.mono ?_);rintro e w28 ⟨rfl,hx28⟩;have hz28:=hz27.ext hx28;have hy28:=hy27.trans hx28)
    | ((with_reducible apply gS 74);refine jI (by rfl) 47 rfl _ hbf.out ?_)
    | ((with_reducible apply gT 2 74);refine wStB rfl 47 (.tmp 2) (.tmp 74) rfl g0 zf rfl rfl hz28 103 yO hzs.out hzs.out hzo.out ?_;intro w29 hb29 hg29))
   exact yN rfl rfl g0 rfl hb29 _ underlying47 rfl 103 yO hzs.out (HEE.out _ (hy28.grown hg29 hg0))
  have HEE:=zA (HEF.out 4 (HP4.out (λh=>hE h.1)));generalize uX bs=pz at *;generalize PF.packE=E at *;generalize L.length=ll at *;clear HP0 HP4 HEF HLL HEQ
  go_wp2_with (first
   | ((with_reducible apply gS 67);refine zB rfl (.bool true) (ex_neqT rfl rfl rfl hE) ?_)
   | ((with_reducible apply gS 74);refine jI (by rfl) 47 rfl _ hbf.out ?_)
   | ((with_reducible apply gT 2 74);refine wStB rfl 47 (.tmp 2) (.tmp 74) rfl g0 zf rfl rfl hz27 103 yO hzs.out hzs.out hzo.out ?_;intro w29 hb29 hg29))
  exact yN rfl rfl g0 rfl hb29 _ underlying47 rfl 103 yO hzs.out (HEE.out _ (hy27.grown hg29 hg0))
end
def parse_any (v:Value) (bs:List Nat) (w:World) (hlt:∀b∈bs,b<256) (hs:SL w 1 v bs.length (zF bs)):Calls prog 37 #[v] w (FpIs (uX bs) w):=by
 have hs':=hs;obtain⟨A,c,rfl,-,-,-,-⟩:=hs'
 by_cases h:91000<bs.length
 ·exact zTU A _ c bs w rfl h
 exact zTl A _ c bs w rfl (by omega) hlt hs
def wkC:List Int:=1::List.replicate 255 0
def wkT:List Int:=1::List.replicate 15 0
def wkF:FC:=⟨2,1,1,List.replicate 64 1,wkT,[0],wkT,[0],3,[63]⟩
def wk_frames:zO 2 1 [[128,128]] (List.replicate 64 1)=(0,1,List.replicate 64 0):=by decide+kernel
def wk_counts:xJ 1 3 (List.replicate 64 0) (zL 1 3)=(wkC,wkC):=by decide+kernel
def wk_check:qQ wkC=0:=by decide+kernel
def wk_sing:BM.singN wkC wkC.length=[BM.zP,(1,[0])]:=by decide+kernel
def zSP {cs xs:List Int} (h:zDJ wkC cs xs):cs=wkT∧xs=[0]:=by obtain⟨h1,h2⟩:=BM.made_one (h.1 wk_check) wk_sing;exact⟨h1.trans (by decide+kernel),h2.trans (by decide+kernel)⟩
def wk_scan:zAr wkT [0] wkT [0] 3 1 (List.replicate 64 0)=(0,[63]):=by decide+kernel
def zGc:wkF.shaped:=⟨rfl,rfl,rfl⟩
def wk_enc {E:Int} {F:FC} (h:zDP 2 1 [[128,128]] (List.replicate 64 1) 3 E F):E=0∧F=wkF:=by unfold zDP at h;rw[wk_frames,if_neg (by simp),if_neg (by omega)] at h;obtain⟨cs1,xs1,cs2,xs2,t1,t2,l1,l2,hE,hF⟩:=h;dsimp only at t1 t2 hE hF;rw[show (3:Int).toNat=3 from rfl,wk_counts] at t1 t2;obtain⟨rfl,rfl⟩:=zSP t1;obtain⟨rfl,rfl⟩:=zSP t2;rw[wk_scan] at hE hF;subst hE;exact⟨rfl,by rw[hF,if_pos rfl];rfl⟩
def wk_chk:wkF.chk=0:=by decide+kernel
def zSg:wkF.packE=0:=by decide+kernel
def wk_parsed:vJ wkF.packL=wkF:=by kernel_rfl
def wk_parse:uX wkF.packL=(wkF,0):=by unfold uX;rw[if_neg (by decide+kernel),if_neg (by decide+kernel),wk_parsed,if_pos ⟨zSg,rfl⟩]
def wk_dec:zBB (zH (zC wkT 16) [0]) (zH (zC wkT 16) [0]) (zT 2 1*1) 3 [63]=(0,List.replicate 64 0):=by
 have z:zQ wkT [0]=0:=by decide+kernel
 have hs:zBN (zH (zC wkT 16) [0]) (zH (zC wkT 16) [0]) 1 3 (List.replicate 64 0)=(0,[63]):=by
  have:=wk_scan;unfold zAr at this;rw[if_neg (by omega),if_neg (by unfold twoE;rw[if_pos z,z];simp)] at this;exact this
 obtain⟨-,-,h⟩:=zGM (cs1:=wkT) (xs1:=[0]) (cs2:=wkT) (xs2:=[0]) rfl rfl z z (n:=1) (e:=3) (Z:=List.replicate 64 0) rfl (by rw[hs]);rw[hs] at h;exact h
def wk_show:zAh (List.replicate 64 1) (List.replicate 64 0) 2 1 1=[[128,128]]:=by decide+kernel
def ones_any (n:Int) (w:World):Calls prog 14 #[.int .i64 n] w λe w'=>e=.returned (.agg (bv (List.replicate 64 n)))∧Ext w w':=by
 have HFS:=zA (λi (hi:i<64)=>fillL_set (λ_=>n) i hi);have HFL:=zA (λi (hi:i≤64)=>fillL_len (λ_=>n) i hi);have HF0:=zA (show zFc (λ_=>n) 0=xC from rfl);have HFE:=zA (show zFc (λ_=>n) 64=List.replicate 64 n by unfold zFc;rw[wL5,wS7,wG9,List.map_const',wU1]);rw[←HFE.out];generalize zFc (λ_=>n)=F at *;go_enter func14,ntmps14;go_wp2_with (refine wAlo' rfl (some 2) rfl 33 rfl _ jX ?_;intro w1 g hb hx hg)
 go_loopw [4] (λi wr=>∃k:Nat,k≤64∧i=.int .i64 (k:Int)∧Ext w wr∧Blk wr g 33 (bv (F k))) (λi _=>64-(intOf i).toNat)
 case atStart=>exact⟨0,by omega,rfl,hx,by rw[HF0.out];exact hb⟩
 case round =>
  clear hx hb;obtain⟨k,hk,rfl,hx,hb⟩:=hrel
  by_cases hlt:k<64
  ·have HS:=zA (HFS.out k hlt);have hl:=HFL.out k hk
   obtain⟨old,hold⟩:∃u,wr.cell? ⟨g,k,none⟩=some u:=by
    rw[hb.cell k];exact⟨_,jQ _ k (by omega)⟩
   have hfr:=hb.frozen k;clear hl;go_wp2_with fail;go_roundw
   case rel =>
    refine⟨k+1,by omega,by go_num,hx.setCell (by omega) _, ?_⟩;have:=hb.set_ k (.int .i64 n);rw[zAE,HS.out] at this;exact this
   case measure=>simp[intOf];omega
  obtain rfl:k=64:=by omega
  have hsz:=zA ((zK (F 64)).trans (HFL.out 64 (by omega)));have hon:=zA (xR (F 64))
  go_wp2_with (first
   | ((with_reducible apply gS 11);refine wLdB rfl 33 (.tmp 2) rfl _ rfl hb _ underlying33 rfl 64 zJ hsz.out ?_)
   | ((with_reducible apply gT 2 11);refine wStB rfl 33 (.tmp 2) (.tmp 11) rfl g (bv (F 64)) rfl rfl hb 64 zJ hsz.out hsz.out hon.out ?_;intro w7 hb7 hg7))
  exact zCS rfl rfl _ rfl hb7 _ underlying33 rfl 64 zJ hsz.out ⟨rfl,hx.grown hg7 (by omega)⟩
def tmod_emod (n m:Int) (hm:1≤m):(if n.tmod m<0 then n.tmod m+m else n.tmod m)=n%m∧ -m<n.tmod m∧n.tmod m<m:=by
 have h1:=Int.emod_nonneg n (show m≠0 by omega);have h2:=wU3 n (show 0<m by omega);have h3:(m.natAbs:Int)=m:=by omega
 have h4:n.tmod m=n%m-(if 0≤n∨m∣n then 0 else m.natAbs:Nat):=Int.tmod_eq_emod;generalize n.tmod m=q at *
 by_cases h:0≤n∨m∣n
 ·rw[if_pos h] at h4;rw[if_neg (by omega)];omega
 rw[if_neg h] at h4;rw[if_pos (by omega)];omega
def zSO (n m:Int) (hm:1≤m) (hm2:m≤1000000) (w:World):Calls prog 12 #[.int .i64 n,.int .i64 m] w λe w'=>e=.returned (.int .i64 (n%m))∧w=w':=by
 obtain⟨he,hb1,hb2⟩:=tmod_emod n m hm;have hm0:m≠0:=by omega
 by_cases hneg:n.tmod m<0
 ·rw[if_pos hneg] at he;go_enter func12,ntmps12;go_wp2_with fail;go_ret;exact⟨by rw[←he];rfl,rfl⟩
 rw[if_neg hneg] at he;go_enter func12,ntmps12;go_wp2_with fail;go_ret;exact⟨by rw[←he];rfl,rfl⟩
section
def zeroRowI:((prog.info? 22).bind (·.zero)).isSome=true:=by kernel_rfl
def zRO {ops:Array Oper} {rest:List Oper} {o:Oper} {a:Act} {w:World} {Q:Exit→Act→World→Prop} (hg:o.guard=none) (x y:Operand) (ho:o.op=.buildSlice 22 2 #[(0,x),(1,y)]) (dst:Option Tmp) (hdst:o.dst=dst)
 (m n:Int) (hx:a.eval x=.int .i64 m) (hy:a.eval y=.int .i64 n)
 (h:∀w1 g,Blk w1 g 3 (ints [m,n]).toArray→Ext w w1→w.heap.size≤g→wpList prog ops Q rest (a.put dst (.slice (some ⟨g,0,none⟩) 2 2)) w1):wpList prog ops Q (o::rest) a w:=by
 refine Go.Great.wpList_buildSliceTo hg 22 3 2 #[(0,x),(1,y)] ho _ rfl dst hdst underlying22 (ints [m,n]).toArray ?_ (h _ _ (Blk.new w _ _) ((Ext.refl w).alloc _) (wA5 _));simp only[wI2,wG6,wG7,hx,hy];show _=_
 kernel_rfl
def builtPic3 (a b:Int) (A:Option Addr) (n c:Nat):prog.built 31 [(0,.int .i64 a),(1,.int .i64 b),(2,.slice A n c)]=some (yX a b (.slice A n c)):=by
 show _=_
 kernel_rfl
def ex_buildP {o:Oper} {a:Act} {x0 x1 x2:Operand} (ho:o.op=.build 31 #[(0,x0),(1,x1),(2,x2)]) {wd hi:Int} {A:Option Addr} {n c:Nat} (h0:a.eval x0=.int .i64 wd) (h1:a.eval x1=.int .i64 hi) (h2:a.eval x2=.slice A n c) (w:World) :
 (execOp a.eval o).run prog w=.ok (.value (.agg (yX wd hi (.slice A n c)))) w:=by simp only[execOp,ho,Sem.run_bind,run_build w 31 (#[(0,x0),(1,x1),(2,x2)].map λ(i,x)=>(i,a.eval x)) (yX wd hi (.slice A n c)) (by simpa [h0,h1,h2] using builtPic3 wd hi A n c),Result.andThen_ok,Sem.run_pure]
def rows_one {w:World} {g h:Nat} {l:List Int} (h0:0<l.length) (hl:l.length≤100000000) (hb:Blk w g 3 (ints l).toArray) (hc:Blk w h 22 (Value.slice (some ⟨g,0,none⟩) l.length l.length).cells):RowsS w (some ⟨h,0,none⟩) 1 1 [l]:=by
 refine⟨[.slice (some ⟨g,0,none⟩) l.length l.length],hc.sl (size:=1) (n:=1) (c:=1) rfl (by omega) (by omega),rfl,λk x hx=> ?_⟩
 cases k with
 | zero =>
   simp at hx;subst hx;exact⟨_,_,rfl,hb.sl (size:=1) (n:=l.length) (c:=l.length) (by simp[yI]) (by omega) (by omega)⟩
 | succ k=>simp at hx
def zRg:zAn prog 14:=⟨_,func14,rfl,rfl⟩
def zHV:zAn prog 17:=⟨_,func17,rfl,rfl⟩
def wkV (A1:Option Addr) (c1:Nat) (A2:Option Addr) (c2:Nat) (A:Option Addr) (c:Nat):Array Value:=wkF.cells (.slice A1 1 c1) (.slice A2 1 c2) (.slice A 1 c)
def WkAt (w:World) (A1:Option Addr) (c1:Nat) (A2:Option Addr) (c2:Nat) (A:Option Addr) (c:Nat):Prop:=wkF.at_ w (.slice A1 1 c1) (.slice A2 1 c2) (.slice A 1 c)
def zEa (A1:Option Addr) (c1:Nat) (A2:Option Addr) (c2:Nat) (A:Option Addr) (c:Nat):(wkV A1 c1 A2 c2 A c).size=103:=FC.size zGc _ _ _
def zKJ (A1:Option Addr) (c1:Nat) (A2:Option Addr) (c2:Nat) (A:Option Addr) (c:Nat):(wkV A1 c1 A2 c2 A c).all (·.oneCell')=true:=zEd _ _ _ _ _ _ _ _ _ _
def WkAt.ext {w w':World} {A1:Option Addr} {c1:Nat} {A2:Option Addr} {c2:Nat} {A:Option Addr} {c:Nat} (h:WkAt w A1 c1 A2 c2 A c) (hx:Ext w w'):WkAt w' A1 c1 A2 c2 A c:=FC.at_.ext h hx
def wk_at {w:World} {s1 s2 sd:Value} (h:wkF.at_ w s1 s2 sd):∃A c B d C e,s1=.slice A 1 c∧s2=.slice B 1 d∧sd=.slice C 1 e:=by obtain⟨⟨A,c,e1,-⟩,⟨B,d,e2,-⟩,⟨C,e,e3,-⟩⟩:=h;exact⟨A,c,B,d,C,e,e1,e2,e3⟩
def wk_encode {W W':World} {e:Ending} (h:EncIs 2 1 [[128,128]] (List.replicate 64 1) 3 W e W'):∃A1 c1 A2 c2 A c,e=.returned (.tuple #[.agg (wkV A1 c1 A2 c2 A c),.int .i64 0])∧WkAt W' A1 c1 A2 c2 A c∧Ext W W'∧NewB W (.slice A1 1 c1)∧NewB W (.slice A2 1 c2):=by obtain⟨E,F,s1,s2,sd,rfl,hs,hat,hE,hx,n1,n2⟩:=h;obtain⟨rfl,rfl⟩:=wk_enc hE;obtain⟨A1,c1,A2,c2,A,c,rfl,rfl,rfl⟩:=wk_at hat;exact⟨A1,c1,A2,c2,A,c,rfl,hat,hx,n1,n2⟩
def wk_keep {w w' w0:World} {g:Nat} {A1:Option Addr} {c1:Nat} {A2:Option Addr} {c2:Nat} {A:Option Addr} {c:Nat} (h:WkAt w A1 c1 A2 c2 A c) (hu:Upd (λb=>b=g) w w') (h1:NewB w0 (.slice A1 1 c1)) (h2:NewB w0 (.slice A2 1 c2)) (hg:g<w0.heap.size) (hb:Blk w g 47 zFile):WkAt w' A1 c1 A2 c2 A c :=
 ⟨zDZ h.1 hu (λb e=>by have:=h1 b e;omega),zDZ h.2.1 hu (λb e=>by have:=h2 b e;omega),zFy h.2.2 hu (zRQ hb h.2.2)⟩
def wk_pack {W:World} {A1:Option Addr} {c1:Nat} {A2:Option Addr} {c2:Nat} {A:Option Addr} {c:Nat} (h:WkAt W A1 c1 A2 c2 A c):Calls prog 36 #[.agg (wkV A1 c1 A2 c2 A c)] W λe W'=>∃B d,e=.returned (.tuple #[.slice B wkF.packL.length d,.int .i64 0])∧SL W' 1 (.slice B wkF.packL.length d) wkF.packL.length (zF wkF.packL)∧Ext W W':=by have:=wkF.pack zGc _ _ _ W h;rw[zSg] at this;exact this
def zTQ {W:World} {B:Option Addr} {d:Nat} (h:SL W 1 (.slice B wkF.packL.length d) wkF.packL.length (zF wkF.packL)):Calls prog 37 #[.slice B wkF.packL.length d] W λe W'=>∃A1 c1 A2 c2 A c,e=.returned (.tuple #[.agg (wkV A1 c1 A2 c2 A c),.int .i64 0])∧WkAt W' A1 c1 A2 c2 A c∧Ext W W':=by
 refine (parse_any (.slice B wkF.packL.length d) wkF.packL W (wkF.packL_lt zGc.1 (by decide)) h).mono λe W' h=> ?_
 rw[wk_parse] at h;obtain⟨s1,s2,sd,rfl,hat,hx⟩:=h;obtain⟨A1,c1,A2,c2,A,c,rfl,rfl,rfl⟩:=wk_at hat;exact⟨A1,c1,A2,c2,A,c,rfl,hat,hx⟩
def wk_decode {W:World} {m0:Int} (hm:W.cell? ⟨0,0,none⟩=some (.int .i64 m0)) {A1:Option Addr} {c1:Nat} {A2:Option Addr} {c2:Nat} {A:Option Addr} {c:Nat} (h:WkAt W A1 c1 A2 c2 A c):Calls prog 27 #[.agg (wkV A1 c1 A2 c2 A c)] W λe W'=>∃B d,e=.returned (.tuple #[.agg (yX 2 1 (.slice B 1 d)),.int .i64 0])∧RowsS W' B 1 d [[128,128]]∧Ext W W':=by
 have:=zVD wkF zGc wk_chk (.slice A1 1 c1) (.slice A2 1 c2) A 1 c rfl (by decide) m0 W hm h 2 1 1 3 rfl rfl rfl rfl W (Ext.refl W);rw[show wkF.cs1=wkT from rfl,show wkF.cs2=wkT from rfl,show wkF.xs1=[0] from rfl,show wkF.xs2=[0] from rfl,show wkF.data=[63] from rfl,show wkF.qs=List.replicate 64 1 from rfl,wk_dec] at this;refine this.mono λe W' h=> ?_
 unfold PdOf at h;rw[if_pos rfl,wk_show] at h;obtain⟨B,k,d,rfl,hr,hx⟩:=h;obtain rfl:k=1:=hr.len.symm;exact⟨B,d,rfl,hr,hx⟩
attribute [local irreducible] wkF wkV WkAt
def works_any (m0:Int) (w:World) (hm:w.cell? ⟨0,0,none⟩=some (.int .i64 m0)):Calls prog 11 #[] w λe w'=>e=.returned (.bool true)∧Ext w w':=by
 have hz0:=zCH;have hzp:=zDc;have hzs:=zA zBb;have HON:=zA (λW=>ones_any 1 W);have HEN:=zA (λW A n c (hx:Ext w W) (hr:RowsS W A n c [[128,128]])=>(zRP 2 1 [[128,128]] A n c (List.replicate 64 1) (by simp) 3 m0 W (uG hm hx) hr).mono λe w' h=>wk_encode h);have HPK:=zA (λW A1 c1 A2 c2 A c h=> @wk_pack W A1 c1 A2 c2 A c h);have HPS:=zA (λW B d h=> @zTQ W B d h);have HDC:=zA (λW (hx:Ext w W) A1 c1 A2 c2 A c (h:WkAt W A1 c1 A2 c2 A c)=>wk_decode (uG hm hx) h);have HPE:=zA (λA B c d W h1 h2=>zNy 2 1 A B 1 c d [[128,128]] W h1 h2);have HPZ:=zA (λv=>jB 2 1 v);have HP1:=zA (λA n c=>zBQ 2 1 A n c);generalize bv (List.replicate 64 1)=ov at *;generalize wkF.packL=pb at *;generalize pb.length=K at *;obtain⟨pic,hpic⟩:∃pic:Value→Array Value,pic=yX 2 1:=⟨_,rfl⟩
 have HBP2:Hid (∀{o:Oper} {a:Act} {x0 x1 x2:Operand} (ho:o.op=.build 31 #[(0,x0),(1,x1),(2,x2)]) {A:Option Addr} {n c:Nat} (h0:a.eval x0=.int .i64 2) (h1:a.eval x1=.int .i64 1) (h2:a.eval x2=.slice A n c) (w:World),(execOp a.eval o).run prog w=.ok (.value (.agg (pic (.slice A n c)))) w):=zA (λho A n c h0 h1 h2 w=>by rw[hpic];exact ex_buildP ho h0 h1 h2 w);rw[←hpic] at HEN HDC HPE HPZ HP1;clear hm hpic;go_enter func11,ntmps11
 go_upto_region 2 with (first
  | ((with_reducible apply gS 10);refine zRO rfl _ _ rfl (some 10) rfl 128 128 rfl rfl ?_;intro w1 ga hba hx1 hga)
  | ((with_reducible apply gS 11);refine wLit1 rfl 29 22 _ rfl (some 11) rfl underlying29 1 uL zeroRowI _ rfl rfl (by omega) (by omega) ?_;intro w2 gb hbb hx2 hgb;have hr2:=rows_one (l:=[128,128]) (by decide) (by decide) (hba.ext hx2) hbb;have hx02:=hx1.trans hx2)
  | ((with_reducible apply gS 12);refine zB rfl (.agg (pic (.slice (some ⟨gb,0,none⟩) 1 1))) (HBP2.out rfl rfl rfl rfl) ?_)
  | ((with_reducible apply gS 1);refine wAlo' rfl (some 1) rfl 31 rfl _ hzp ?_;intro w3 gp hbp hx3 hgp)
  | ((with_reducible apply gT 1 12);refine wStB rfl 31 (.tmp 1) (.tmp 12) rfl gp (pic (.slice (some ⟨gb,0,none⟩) 1 1)) rfl rfl hbp 3 qY (HPZ.out _) (by rfl) (HP1.out _ _ _) ?_;intro w4 hb4 hg4;have hx24:=hx3.grown hg4 hgp;have hr4:=hr2.ext hx24;have hx04:=hx02.trans hx24))
 try simp only[Act.put,sA,sB,sC]
 clear hba hbb hr2 hbp hx1 hx2 hx02 hx3 hx24 hg4 hga hgb hgp;obtain⟨pv,hpv⟩:∃pv,pic (.slice (some ⟨gb,0,none⟩) 1 1)=pv:=⟨_,rfl⟩
 have HPV:=zA (HPZ.out (.slice (some ⟨gb,0,none⟩) 1 1));have HEN2:=zA (λW (hx:Ext w4 W)=>HEN.out W (some ⟨gb,0,none⟩) 1 1 (hx04.trans hx) (hr4.ext hx));have HPE2:=zA (λW (hx:Ext w4 W) B d (h:RowsS W B 1 d [[128,128]])=>HPE.out (some ⟨gb,0,none⟩) B 1 d W (hr4.ext hx) h);rw[hpv] at hb4 HPV HEN2 HPE2 ⊢;clear hpv HEN HPE hr4 HBP2
 go_cut [2,3] from 13 to 18 (λu v wx=>∃g2 A1 c1 A2 c2 A c,u=.pointer (some ⟨g2,0,none⟩)∧v=.int .i64 0∧Blk wx g2 47 (wkV A1 c1 A2 c2 A c)∧WkAt wx A1 c1 A2 c2 A c∧Ext w4 wx)
 case first =>
  have hI:Ext w4.drew w4.drew:=Ext.refl _;refine vI (λk=>k ==0 ||k ==1 ||k ==2 ||k ==6) (Ext w4.drew) (by kernel_rfl) ?_;refine vR (k:=0) (by kernel_rfl) rfl (by rfl) (.agg pv) (λW hW=>uT rfl rfl (hb4.drew.ext hW) underlying31 rfl qY HPV.out) hI ?_;simp only[Act.put,sA,sB,sC];refine zNJ (k:=1) (l:=6) (by kernel_rfl) rfl rfl ?_ ?_
  · --
    refine xK (by rfl) (xL _ _ _ rfl rfl zRg #[.int .i64 1] (by simp[Act.eval])) ?_;refine (HON.out _).mono ?_;rintro _ wa ⟨rfl,hxa⟩;have hxa1:=hI.trans hxa;refine⟨_,rfl,zZ ⟨λ_=>hxa1, ?_⟩⟩;simp only[Act.put,sA,sB,sC];refine zNJ (k:=2) (l:=6) (by kernel_rfl) rfl rfl ?_ ?_
    · --
      refine xK (by rfl) (xL _ _ _ rfl rfl zHV #[.agg pv,.agg ov,.int .i64 3] (by simp[Act.eval])) ?_;refine (HEN2.out _ ((Ext.refl w4).drew.trans hxa1)).mono ?_;rintro _ wb ⟨A1,c1,A2,c2,A,c,rfl,hat,hxb,hn1,hn2⟩;have hxb1:=hxa1.trans hxb;refine⟨_,rfl,zZ ⟨λ_=>hxb1, ?_⟩⟩;simp only[Act.put,sA,sB,sC];refine zI (k:=3) (by kernel_rfl) rfl (by rfl) (.tuple #[.agg (wkV A1 c1 A2 c2 A c),.int .i64 0]) (zD rfl rfl) ?_;simp only[sP,sB,sC];refine zI (k:=4) (by kernel_rfl) rfl (by rfl) (.agg (wkV A1 c1 A2 c2 A c)) (yR rfl rfl rfl) ?_;simp only[sP,sB,sC];refine zI (k:=5) (by kernel_rfl) rfl (by rfl) (.int .i64 0) (yR rfl rfl rfl) ?_;simp only[sP,sB,sC];refine xZ (k:=6) (by kernel_rfl) rfl ?_;refine wAlo' rfl (some 2) rfl 47 rfl _ hz0 ?_;intro wc g2 hbg hxc hgg;have hxc1:=hxb1.trans hxc;refine zZ ⟨λ_=>hxc1, ?_⟩;simp only[Act.put,sA,sB,sC];refine xZ (k:=7) (by kernel_rfl) rfl ?_;refine wStB rfl 47 (.tmp 2) (.tmp 17) rfl g2 (wkV A1 c1 A2 c2 A c) rfl rfl hbg 103 yO (zEa _ _ _ _ _ _) hzs.out (zKJ _ _ _ _ _ _) ?_;intro w7 hb7 hg7;refine zZ ⟨λh=>(by cases h), ?_⟩;simp only[Act.put,sA,sB,sC];refine zI (k:=8) (by kernel_rfl) rfl (by rfl) (.int .i64 0) (zW rfl rfl) ?_;simp only[sP,sB,sC];refine zAK (by kernel_rfl) ?_;go_wp2_with fail;go_meet;exact⟨g2,A1,c1,A2,c2,A,c,rfl,rfl,hb7,hat.ext (hxc.grown hg7 hgg),(Ext.refl w4).drew.trans (hxb1.trans (hxc.grown hg7 hgg))⟩
    · --
      refine wAlo' rfl (some 2) rfl 47 rfl _ hz0 ?_;intro wc g2 hbg hxc hgg;have hxc1:=hxa1.trans hxc;refine zZ ⟨λ_=>hxc1, ?_⟩;simp only[Act.put,sA,sB,sC];refine xZ (k:=2) (by kernel_rfl) rfl ?_;refine xK (by rfl) (xL _ _ _ rfl rfl zHV #[.agg pv,.agg ov,.int .i64 3] (by simp[Act.eval])) ?_;refine (HEN2.out _ ((Ext.refl w4).drew.trans hxc1)).mono ?_;rintro _ wb ⟨A1,c1,A2,c2,A,c,rfl,hat,hxb,hn1,hn2⟩;have hxb1:=hxc1.trans hxb;refine⟨_,rfl,zZ ⟨λ_=>hxb1, ?_⟩⟩;simp only[Act.put,sA,sB,sC];refine zI (k:=3) (by kernel_rfl) rfl (by rfl) (.tuple #[.agg (wkV A1 c1 A2 c2 A c),.int .i64 0]) (zD rfl rfl) ?_;simp only[sP,sB,sC];refine zI (k:=4) (by kernel_rfl) rfl (by rfl) (.agg (wkV A1 c1 A2 c2 A c)) (yR rfl rfl rfl) ?_;simp only[sP,sB,sC];refine zI (k:=5) (by kernel_rfl) rfl (by rfl) (.int .i64 0) (yR rfl rfl rfl) ?_;simp only[sP,sB,sC];refine xZ (k:=7) (by kernel_rfl) rfl ?_;refine wStB rfl 47 (.tmp 2) (.tmp 17) rfl g2 (wkV A1 c1 A2 c2 A c) rfl rfl (hbg.ext hxb) 103 yO (zEa _ _ _ _ _ _) hzs.out (zKJ _ _ _ _ _ _) ?_;intro w7 hb7 hg7;refine zZ ⟨λh=>(by cases h), ?_⟩;simp only[Act.put,sA,sB,sC];refine zI (k:=8) (by kernel_rfl) rfl (by rfl) (.int .i64 0) (zW rfl rfl) ?_;simp only[sP,sB,sC];refine zAK (by kernel_rfl) ?_;go_wp2_with fail;go_meet;have hu7:Upd (λb=>b=g2) wb w7:=zAA (zM hg7) (λx h=>by injection h with h;exact h.symm);exact⟨g2,A1,c1,A2,c2,A,c,rfl,rfl,hb7,wk_keep hat hu7 hn1 hn2 hbg.lt (hbg.ext hxb),(Ext.refl w4).drew.trans (hxa1.trans ((hxc.trans hxb).grown hg7 hgg))⟩
  · --
    refine wAlo' rfl (some 2) rfl 47 rfl _ hz0 ?_;intro wc g2 hbg hxc hgg;have hxc1:=hI.trans hxc;refine zZ ⟨λ_=>hxc1, ?_⟩;simp only[Act.put,sA,sB,sC];refine xZ (k:=1) (by kernel_rfl) rfl ?_;refine xK (by rfl) (xL _ _ _ rfl rfl zRg #[.int .i64 1] (by simp[Act.eval])) ?_;refine (HON.out _).mono ?_;rintro _ wa ⟨rfl,hxa⟩;have hxa1:=hxc1.trans hxa;refine⟨_,rfl,zZ ⟨λ_=>hxa1, ?_⟩⟩;simp only[Act.put,sA,sB,sC];refine xZ (k:=2) (by kernel_rfl) rfl ?_;refine xK (by rfl) (xL _ _ _ rfl rfl zHV #[.agg pv,.agg ov,.int .i64 3] (by simp[Act.eval])) ?_;refine (HEN2.out _ ((Ext.refl w4).drew.trans hxa1)).mono ?_;rintro _ wb ⟨A1,c1,A2,c2,A,c,rfl,hat,hxb,hn1,hn2⟩;have hxb1:=hxa1.trans hxb;refine⟨_,rfl,zZ ⟨λ_=>hxb1, ?_⟩⟩;simp only[Act.put,sA,sB,sC];refine zI (k:=3) (by kernel_rfl) rfl (by rfl) (.tuple #[.agg (wkV A1 c1 A2 c2 A c),.int .i64 0]) (zD rfl rfl) ?_;simp only[sP,sB,sC];refine zI (k:=4) (by kernel_rfl) rfl (by rfl) (.agg (wkV A1 c1 A2 c2 A c)) (yR rfl rfl rfl) ?_;simp only[sP,sB,sC];refine zI (k:=5) (by kernel_rfl) rfl (by rfl) (.int .i64 0) (yR rfl rfl rfl) ?_;simp only[sP,sB,sC];refine xZ (k:=7) (by kernel_rfl) rfl ?_;refine wStB rfl 47 (.tmp 2) (.tmp 17) rfl g2 (wkV A1 c1 A2 c2 A c) rfl rfl (hbg.ext (hxa.trans hxb)) 103 yO (zEa _ _ _ _ _ _) hzs.out (zKJ _ _ _ _ _ _) ?_;intro w7 hb7 hg7;refine zZ ⟨λh=>(by cases h), ?_⟩;simp only[Act.put,sA,sB,sC];refine zI (k:=8) (by kernel_rfl) rfl (by rfl) (.int .i64 0) (zW rfl rfl) ?_;simp only[sP,sB,sC];refine zAK (by kernel_rfl) ?_;go_wp2_with fail;go_meet;have hu7:Upd (λb=>b=g2) wb w7:=zAA (zM hg7) (λx h=>by injection h with h;exact h.symm);exact⟨g2,A1,c1,A2,c2,A,c,rfl,rfl,hb7,wk_keep hat hu7 hn1 hn2 (by have:=hbg.lt;have:=hxa.size;omega) (hbg.ext (hxa.trans hxb)),(Ext.refl w4).drew.trans (hI.trans ((hxc.trans (hxa.trans hxb)).grown hg7 hgg))⟩
 case rest =>
 obtain⟨g2,A1,c1,A2,c2,A,c,e1,e2,hb5,hat5,hx5⟩:=hcut;subst e1 e2;have hp5:=hb4.ext hx5
 go_wp2_with (first
  | ((with_reducible apply gS 20);refine wLdB rfl 47 (.tmp 2) rfl g2 rfl hb5 _ underlying47 rfl 103 yO (zEa _ _ _ _ _ _) ?_)
  | (go_at_call 36;(with_reducible refine (HPK.out _ _ _ _ _ _ _ hat5).mono ?_);rintro e w6 ⟨B,d,rfl,hpb,hx6⟩;have hp6:=hp5.ext hx6;have hx46:=hx5.trans hx6)
  | (go_at_call 37;(with_reducible refine (HPS.out _ _ _ hpb).mono ?_);rintro e w7 ⟨D1,d1,D2,d2,D,d,rfl,hat7,hx7⟩;have hp7:=hp6.ext hx7;have hx47:=hx46.trans hx7)
  | ((with_reducible apply gS 6);refine wAlo' rfl (some 6) rfl 47 rfl _ hz0 ?_;intro w8 g6 hb8 hx8 hg8)
  | ((with_reducible apply gT 6 27);refine wStB rfl 47 (.tmp 6) (.tmp 27) rfl g6 (wkV D1 d1 D2 d2 D d) rfl rfl hb8 103 yO (zEa _ _ _ _ _ _) hzs.out (zKJ _ _ _ _ _ _) ?_;intro w9 hb9 hg9;have hx79:=hx8.grown hg9 hg8;have hat9:=hat7.ext hx79;have hp9:=hp7.ext hx79;have hx49:=hx47.trans hx79)
  | ((with_reducible apply gS 30);refine wLdB rfl 47 (.tmp 6) rfl g6 rfl hb9 _ underlying47 rfl 103 yO (zEa _ _ _ _ _ _) ?_)
  | (go_at_call 27;(with_reducible refine (HDC.out _ (hx04.trans hx49) _ _ _ _ _ _ hat9).mono ?_);rintro e w10 ⟨Y,y,rfl,hr10,hx10⟩;have hp10:=hp9.ext hx10;have hx410:=hx49.trans hx10)
  | ((with_reducible apply gS 8);refine wAlo' rfl (some 8) rfl 31 rfl _ hzp ?_;intro w11 g8 hb11 hx11 hg11)
  | ((with_reducible apply gT 8 32);refine wStB rfl 31 (.tmp 8) (.tmp 32) rfl g8 (pic (.slice Y 1 y)) rfl rfl hb11 3 qY (HPZ.out _) (by rfl) (HP1.out _ _ _) ?_;intro w12 hb12 hg12;have hx1012:=hx11.grown hg12 hg11;have hr12:=hr10.ext hx1012;have hp12:=hp10.ext hx1012;have hx412:=hx410.trans hx1012)
  | ((with_reducible apply gS 49);refine zBU (by rfl) (.agg pv) (uT rfl rfl hp12 underlying31 rfl qY HPV.out) ?_)
  | ((with_reducible apply gS 50);refine zBU (by rfl) (.agg (pic (.slice Y 1 y))) (uT rfl rfl hb12 underlying31 rfl qY (HPZ.out _)) ?_)
  | (go_at_call 25;(with_reducible refine (HPE2.out _ hx412 _ _ hr12).mono ?_);rintro e w13 ⟨rfl,hx13⟩))
 go_ret;exact⟨rfl,hx04.trans (hx412.trans hx13)⟩
end
def zMx {w:World} {B:Option Addr} {d:Nat} {l:List Int} (h:RowsS w B 1 d [l]):∃ad B0 d0,B=some ad∧ad.block<w.heap.size∧w.cell? (ad.add 0)=some (.slice B0 l.length d0)∧SL w 1 (.slice B0 l.length d0) l.length (ints l):=by obtain⟨vs,h1,-,h3⟩:=h;obtain⟨B0,d0,e,hs⟩:=h3 0 l rfl;obtain⟨ad,u,hB,hb,hu,hc⟩:=h1.at1 (k:=0) (by omega);rw[e] at hu;obtain rfl:=wU4 hu;exact⟨ad,B0,d0,hB,hb,hc,hs⟩
def zGG {o:Oper} {a:Act} {x:Operand} (ho:o.op=.call { callee:=.builtin .len,args:= #[x],argTypes:= #[22] }) {A:Option Addr} {n c:Nat} (hx:a.eval x=.slice A n c) (w:World):(execOp a.eval o).run prog w=.ok (.value (.int .i64 (n:Int))) w:=by simp[execOp,ho,resolve,invoke,builtin,hx,Result.andThen,Builtin.len_,goInt]
def hurtN (P:List (List Nat)) (M:List Nat) (k:Int):Nat→List Nat
 | 0=>[]
 | i+1=>hurtN P M k i++(if i=0 then [] else [255,M.getD (i-1) 0%256])++(if (i:Int)=k then [] else P.getD i [])
section
def zKR:5≠47:=by decide
attribute [local irreducible] zF hurtN FC.cells
end
def no8 (v:Value):Bool:=match v with | .int .u8 _=>false | _=>true
def zLu (zs:List Int):∀v∈ints zs,no8 v=true:=by intro v hv;unfold ints at hv;obtain⟨z,-,rfl⟩:=wD2.1 hv;rfl
def no8_tbl (cs:List Int) (A:Option Addr) (k c:Nat):∀v∈zV cs (.slice A k c),no8 v=true:=by
 intro v hv;unfold zV at hv;rcases wD3.1 hv with hv | hv
 ·exact zLu _ v hv
 simp at hv;subst hv;rfl
def no8_file (F:FC) (A B C:Option Addr) (a b c d e f:Nat):∀v∈(F.cells (.slice A a b) (.slice B c d) (.slice C e f)).toList,no8 v=true:=by
 unfold FC.cells xG;intro v hv;simp only[wD3] at hv;rcases hv with (((hv | hv) | hv) | hv) | hv
 ·exact zLu _ v hv
 ·exact zLu _ v hv
 ·exact no8_tbl _ _ _ _ v hv
 ·exact no8_tbl _ _ _ _ v hv
 simp at hv;rcases hv with rfl | rfl<;>rfl
def SL.no8 {w w':World} {gf:Nat} {T:TypeId} {cs:Array Value} (hb:Blk w gf T cs) (hn:∀v∈cs.toList,no8 v=true) {A:Option Addr} {n c:Nat} {p:List Nat} (h:SL w 1 (.slice A n c) n (zF p)) (hu:Upd (λb=>b=gf) w w'):SL w' 1 (.slice A n c) n (zF p):=by
 refine h.upd0 hu λhp ad e q=> ?_
 subst e;obtain⟨ad',u,e2,hlt,hk,hcell⟩:=h.at1 hp;injection e2 with e2
 subst e2;obtain⟨hk2,rfl⟩:=zGI hk;unfold Blk at hb;have hb2:w.heap[(ad.add 0).block]? =some (.cells cs T (0,0)):=by rw[yH,q];exact hb
 unfold World.cell? at hcell;rw[hb2] at hcell;dsimp only at hcell;split at hcell
 ·cases hcell
 have hm:=hn _ (Array.mem_toList_iff.2 (wT6 hcell));simp[Go.Proofs.YtkggcjdlpendfaaGreatDoor.no8] at hm
section
def own_bs {w:World} {B s n:Nat} {e:TypeId} {v:Value} {xs:List Value} (h:w.ownsRow B e s v n xs):∀b,v.ownBlock=some b→B≤b:=λb hb=>(h.lt b hb).1
def blk_sl {w:World} {g:Nat} {T:TypeId} {x y:Nat} (h:Blk w g T (zF [x,y]).toArray):SL w 1 (.slice (some ⟨g,0,none⟩) 2 2) 2 (zF [x,y]):=by refine⟨_,_,rfl,by omega,by omega,rfl,λ_=>⟨_,rfl,h.lt,λj u hu=> ?_⟩⟩;rw[zBe,wB2,h.cell,wH3];exact hu
attribute [local irreducible] zF hurtN FC.cells
