import Derived.Laws.BytesArg
import Derived.Lib.LazyBuf
import Derived.Great.BuildSlice
import Derived.Test.YtkggcjdlpendfaaGreatDoorMTopFewestCard19
set_option linter.all false
set_option maxRecDepth 20000
set_option maxHeartbeats 8000000
namespace Go.Proofs.YtkggcjdlpendfaaGreatDoor
open Go.RowKit
def vR (zs:List Int):List Nat:=zs.map Int.toNat
def zCc: ∀ (zs:List Int),(∀ z∈zs,0≤z)→qZ (vR zs)=zs
 | [],_=>rfl
 | z::zs,h=>by
   have ih:=zCc zs (fun y hy=>h y (by simp[hy]));have hz:=h z (by simp);simp only[qZ,vR,wC8,wM1] at ih ⊢;rw[ih];congr 1
   omega
def zBq {zs:List Int} {lo hi:Int} {N:Nat} (h:zR zs lo hi=true) (h0:0≤lo) (hN:hi<N): ∀ n∈vR zs,n<N:=by
 intro n hn;obtain⟨z,hz,rfl⟩:=wD6.1 hn;have:=yD.1 h z hz;omega
def zCZ (zs:List Int):(vR zs).length=zs.length:=by simp[vR]
def packE (wd hi pt ev:Int) (qs cs1 xs1 cs2 xs2:List Int) (n:Nat):Int:=zDl wd hi pt qs (zT cs1 xs1) (zT cs2 xs2) ev n
def packL (wd hi pt ev:Int) (qs cs1 xs1 cs2 xs2:List Int) (bs:List Nat):List Nat :=
 if packE wd hi pt ev qs cs1 xs1 cs2 xs2 bs.length=0 then zFm wd.toNat hi.toNat pt.toNat ev.toNat (vR (zto qs)) (vR cs1) (vR xs1) (vR cs2) (vR xs2) bs else []
def PackIs (E:Int) (L:List Nat) (w:World) (e:Ending) (w':World):Prop:= ∃ A c,e=.returned (.tuple #[.slice A L.length c,.int .i64 E])∧SL w' 1 (.slice A L.length c) L.length (zF L)∧Ext w w'
def zLp {wd hi pt ev:Int} {qs cs1 xs1 cs2 xs2:List Int} {n:Nat} (h:packE wd hi pt ev qs cs1 xs1 cs2 xs2 n=0):zDc wd hi pt ev=true∧zR qs 1 255=true∧zT cs1 xs1=0∧zT cs2 xs2=0∧n≤90000:=by
 unfold packE zDl at h
 by_cases h1:(zDc wd hi pt ev&&zR qs 1 255)=true
 ·rw[if_pos h1] at h;rw[wA9] at h1
  by_cases h2:zT cs1 xs1=0
  ·rw[if_pos h2] at h
   by_cases h3:zT cs2 xs2=0
   ·rw[if_pos h3] at h
    by_cases h4:90000<n
    ·rw[if_pos h4] at h;cases h
    ·exact⟨h1.1,h1.2,h2,h3,by omega⟩
   ·rw[if_neg h3] at h;exact absurd h h3
  ·rw[if_neg h2] at h;exact absurd h h2
 ·rw[if_neg h1] at h;cases h
def zHQ {cs xs:List Int} (h:zT cs xs=0):zR cs 0 256=true∧zR xs 0 255=true∧xs.length≤256:=by
 cases ht:zCm cs xs with
 | false=>rw[zMH ht] at h;cases h
 | true =>
   obtain⟨a,b,c⟩:=zFa.1 ht
   cases hx:zR xs 0 255 with
   | false=>rw[zLs ht hx] at h;cases h
   | true=>exact⟨a,rfl,by omega⟩
def zto_in {qs:List Int} (hq:qs.length=64) (h:zR qs 1 255=true):zR (zto qs) 1 255=true:=by
 refine yD.2 fun z hz=> ?_
 unfold zto at hz;obtain⟨k,hk,rfl⟩:=wD6.1 hz;have hk':=wB7.1 hk;have hb:=zHW k hk';have hlt:(vK k).toNat<qs.length:=by omega
 rw[wF4,wA2 hlt];exact yD.1 h _ (wE2 hlt)
def pack_bad (fv:Array Value) (E:Int) (h0:E≠0) (hfs:fv.size=103) (w:World) (HC: ∀ W,Ext w W→Calls Tryz.prog 50 #[.agg fv] W fun e W'=>e=.returned (.int .i64 E)∧Ext W W') :
 Calls Tryz.prog 36 #[.agg fv] w (PackIs E [] w):=by
 have HFS:=zA hfs;have HCK:=zA HC;have hE:(E !=0)=true:=by simpa using h0
 clear hfs HC h0;go_enter Tryz.func36,Tryz.ntmps36
 go_wp2_with (first
  | (refine wBox rfl 47 (.tmp 0) rfl fv rfl ?_;intro w1 g hb1 hx1 hg)
  | (refine wLdB rfl 47 (.tmp 1) rfl _ rfl hb1 _ Tryz.underlying47 rfl 103 yQ HFS.out ?_)
  | (go_at_call 50;(with_reducible refine (HCK.out _ hx1).mono ?_);rintro e w2 ⟨rfl,hx2⟩))
 go_ret2;exact⟨none,0,rfl,SL.nil _ _,hx1.trans hx2⟩
def pack_any (wd hi pt ev:Int) (qs cs1 xs1:List Int) (s1:Value) (cs2 xs2:List Int) (s2:Value) (bs:List Nat) (sd:Value) (w:World) (hq:qs.length=64) (h1:cs1.length=16) (h2:cs2.length=16)
 (hs1:SL w 1 s1 xs1.length (ints xs1)) (hs2:SL w 1 s2 xs2.length (ints xs2)) (hsd:SL w 1 sd bs.length (zF bs)) :
 Calls Tryz.prog 36 #[.agg (yY wd hi pt qs (zQ cs1 s1) (zQ cs2 s2) ev sd).toArray] w (PackIs (packE wd hi pt ev qs cs1 xs1 cs2 xs2 bs.length) (packL wd hi pt ev qs cs1 xs1 cs2 xs2 bs) w):=by
 have HC: ∀ W,Ext w W→Calls Tryz.prog 50 #[.agg (yY wd hi pt qs (zQ cs1 s1) (zQ cs2 s2) ev sd).toArray] W fun e W'=>e=.returned (.int .i64 (packE wd hi pt ev qs cs1 xs1 cs2 xs2 bs.length))∧Ext W W' :=
  fun W hW=>zLa wd hi pt ev qs cs1 xs1 s1 cs2 xs2 s2 bs sd W hq h1 h2 (hs1.ext hW) (hs2.ext hW) (hsd.ext hW)
 have l1:=zU cs1 s1 h1;have l2:=zU cs2 s2 h2
 by_cases hE:packE wd hi pt ev qs cs1 xs1 cs2 xs2 bs.length=0
 ·obtain⟨ha,kq,z1,z2,hb⟩:=zLp hE;obtain⟨k1,k2,k3,hp⟩:=zHC ha;have k1:=jS.1 k1;have k2:=jS.1 k2;have k3:=jS.1 k3;obtain⟨a1,b1,c1⟩:=zHQ z1;obtain⟨a2,b2,c2⟩:=zHQ z2;have o1:=zHk cs1 s1 (let ⟨A,c,h,_⟩:=hs1;⟨A,_,c,h⟩);have o2:=zHk cs2 s2 (let ⟨A,c,h,_⟩:=hs2;⟨A,_,c,h⟩);obtain⟨A0,c0,rfl, -⟩:=id hsd;obtain⟨wd,rfl⟩:=wR8 (show 0≤wd by omega);obtain⟨hi,rfl⟩:=wR8 (show 0≤hi by omega);obtain⟨pt,rfl⟩:=wR8 (show 0≤pt by omega);obtain⟨ev,rfl⟩:=wR8 (show 0≤ev by omega);have e1:=zCc cs1 (fun z hz=>(yD.1 a1 z hz).1);have e2:=zCc cs2 (fun z hz=>(yD.1 a2 z hz).1);have e3:=zCc xs1 (fun z hz=>(yD.1 b1 z hz).1);have e4:=zCc xs2 (fun z hz=>(yD.1 b2 z hz).1);have hzi:=zto_in hq kq;have e5:=zCc (zto qs) (fun z hz=>by have:=(yD.1 hzi z hz).1;omega);have hL:packL (wd:Int) hi pt ev qs cs1 xs1 cs2 xs2 bs=zFm wd hi pt ev (vR (zto qs)) (vR cs1) (vR xs1) (vR cs2) (vR xs2) bs:=by unfold packL;rw[if_pos hE];rfl
  rw[hE] at HC ⊢;rw[hL]
  have key:=pack_good wd hi pt ev qs (vR (zto qs)) (vR cs1) (vR xs1) (vR cs2) (vR xs2) s1 s2 bs A0 c0 w hq e5.symm (zBq hzi (by decide) (by decide)) (by omega) (by omega) (by omega) (by omega)
   (by rw[zCZ];exact h1) (by rw[zCZ];exact h2) (fun n hn=>by have:=zBq (N:=257) a1 (by decide) (by decide) n hn;omega) (fun n hn=>by have:=zBq (N:=257) a2 (by decide) (by decide) n hn;omega)
   (zBq b1 (by decide) (by decide)) (zBq b2 (by decide) (by decide)) (by rw[zCZ];exact c1) (by rw[zCZ];exact c2)
   (by rw[zCZ,e3];exact hs1) (by rw[zCZ,e4];exact hs2) hsd hb (by rw[e1];exact o1) (by rw[e2];exact o2)
  rw[e1,e2] at key;refine (key HC).mono ?_;rintro e w' ⟨A,n,c,rfl,rfl,hs,hx⟩;exact⟨A,c,rfl,hs,hx⟩
 ·have hL:packL wd hi pt ev qs cs1 xs1 cs2 xs2 bs=[]:=by unfold packL;rw[if_neg hE]
  rw[hL];exact pack_bad _ _ hE (zEJ wd hi pt qs (zQ cs1 s1) (zQ cs2 s2) ev sd hq l1 l2) w HC
def FC.packE (F:FC):Int:=Go.Proofs.YtkggcjdlpendfaaGreatDoor.packE F.wd F.hi F.pt F.ev F.qs F.cs1 F.xs1 F.cs2 F.xs2 F.data.length
def FC.packL (F:FC):List Nat:=Go.Proofs.YtkggcjdlpendfaaGreatDoor.packL F.wd F.hi F.pt F.ev F.qs F.cs1 F.xs1 F.cs2 F.xs2 F.data
def FC.pack (F:FC) (h:F.shaped) (s1 s2 sd:Value) (w:World) (ha:F.at_ w s1 s2 sd):Calls Tryz.prog 36 #[.agg (F.cells s1 s2 sd)] w (PackIs F.packE F.packL w) :=
 pack_any F.wd F.hi F.pt F.ev F.qs F.cs1 F.xs1 s1 F.cs2 F.xs2 s2 F.data sd w h.1 h.2.1 h.2.2 ha.1 ha.2.1 ha.2.2
def FC.packL_lt (F:FC) (hq:F.qs.length=64) (hd: ∀ b∈F.data,b<256): ∀ b∈F.packL,b<256:=by
 intro b hb;unfold FC.packL Go.Proofs.YtkggcjdlpendfaaGreatDoor.packL at hb;split at hb
 ·rename_i h0;obtain⟨ha,hqs,h1,h2, -⟩:=zLp h0;obtain⟨c1,x1, -⟩:=zHQ h1;obtain⟨c2,x2, -⟩:=zHQ h2
  have ha':(1≤F.wd∧F.wd≤64)∧(1≤F.hi∧F.hi≤64)∧(F.pt=1∨F.pt=3)∧(0≤F.ev∧F.ev≤100):=by
   unfold zDc at ha;simp only[wA9,wB9,beq_iff_eq,jS] at ha;exact⟨ha.1.1.1,ha.1.1.2,ha.1.2,ha.2⟩
  have ht: ∀ (cs xs:List Int),zR cs 0 256=true→zR xs 0 255=true→ ∀ n∈zBf (vR cs) (vR xs),n<256:=by
   intro cs xs hc hx n hn;unfold zBf at hn;rcases wE6.1 hn with hn | hn
   ·obtain⟨m,hm,hn⟩:=wP1.1 hn;have:=zBq (N:=257) hc (by omega) (by omega) m hm;simp at hn;omega
   ·exact zBq (N:=256) hx (by omega) (by omega) n hn
  unfold zFm at hb;simp only[wE6] at hb;rcases hb with ((hb | hb) | (hb | hb)) | hb
  ·simp at hb;omega
  ·exact zBq (N:=256) (zto_in hq hqs) (by omega) (by omega) b hb
  ·exact ht _ _ c1 x1 b hb
  ·exact ht _ _ c2 x2 b hb
  ·exact hd b hb
 ·cases hb
def p2 (bs:List Nat):Nat:=70+32+qH bs 70 16
def p3 (bs:List Nat):Nat:=p2 bs+32+qH bs (p2 bs) 16
def quL (bs:List Nat) (k:Nat):List Int:=(List.range k).map fun j=>((bs.getD (6+j) 0:Nat):Int)
def zGZ (bs:List Nat) (k:Nat):(quL bs k).length=k:=by simp[quL]
def quL_succ (bs:List Nat) (k:Nat):quL bs (k+1)=quL bs k++[((bs.getD (6+k) 0:Nat):Int)]:=by simp[quL,wH3]
def quL_set (bs:List Nat) (k:Nat) (h:k<64):(quL bs k++List.replicate (64-k) 0).set k ((bs.getD (6+k) 0:Nat):Int)=quL bs (k+1)++List.replicate (64-(k+1)) 0:=by
 rw[wF8 _ _ (by rw[zGZ];omega),zGZ,wF9,show 64-k=(64-(k+1))+1 by omega,wG0,wG1,quL_succ,wG2];rfl
def vA (bs:List Nat):FC:=⟨((bs.getD 2 0:Nat):Int),((bs.getD 3 0:Nat):Int),((bs.getD 4 0:Nat):Int),qR (quL bs 64) 64,qJ bs 70 16,zBi bs (70+32) (qH bs 70 16),qJ bs (p2 bs) 16,zBi bs (p2 bs+32) (qH bs (p2 bs) 16),((bs.getD 5 0:Nat):Int),bs.drop (p3 bs)⟩
def zOn (bs:List Nat):(vA bs).shaped:=by
 unfold FC.shaped vA;dsimp only;exact⟨uL _ _,uP _ _ _,uP _ _ _⟩
def uM (bs:List Nat):FC×Int:=if 91000<bs.length then (FC.zero,2) else if bs.length<p3 bs then (FC.zero,3) else if (vA bs).packE=0∧(vA bs).packL=bs then (vA bs,0) else (FC.zero,4)
def FpIs (z:FC×Int) (w:World) (e:Ending) (w':World):Prop:= ∃ s1 s2 sd,e=.returned (.tuple #[.agg (z.1.cells s1 s2 sd),.int .i64 z.2])∧z.1.at_ w' s1 s2 sd∧Ext w w'
def FpIs.err {z:FC×Int} {w w':World} {E:Int} (h:z=(FC.zero,E)) (hx:Ext w w'):FpIs z w (.returned (.tuple #[.agg zFile,.int .i64 E])) w':=by
 subst h;exact⟨.slice none 0 0,.slice none 0 0,.slice none 0 0,rfl,zero_at w',hx⟩
def builtF (a b c d:Int):Tryz.prog.built 47 [(0,.int .i64 a),(1,.int .i64 b),(2,.int .i64 c),(5,.int .i64 d)]=some (FC.cells ⟨a,b,c,List.replicate 64 0,List.replicate 16 0,[],List.replicate 16 0,[],d,[]⟩ (.slice none 0 0) (.slice none 0 0) (.slice none 0 0)):=by
 show _=_
 kernel_rfl
def strN (bs:List Nat):ByteArray:=strOfNums (bs.map fun n:Nat=>(n:Int))
def zOL: ∀ (a:List Nat),(∀ x∈a,x<256)→(strN a).data.toList.map UInt8.toNat=a:=by
 intro a ha;unfold strN strOfNums;rw[wM1]
 induction a with
 | nil=>rfl
 | cons x l ih =>
   have h1:=ha x (by simp);have h2:=ih (fun y hy=>ha y (by simp[hy]));simp only[wC8,Function.comp,wF0] at h2 ⊢;rw[h2,UInt8.toNat_ofNat',wL8 (by omega)]
def strN_inj {a b:List Nat} (ha: ∀ x∈a,x<256) (hb: ∀ x∈b,x<256) (h:(strN a).data.toList=(strN b).data.toList):a=b:=by
 rw[←zOL a ha, ←zOL b hb,h]
def zLw {w:World} {A:Option Addr} {n c:Nat} {bs:List Nat} (h:SL w 1 (.slice A n c) n (zF bs)) :
 (convert 45 9 (.slice A n c)).run Tryz.prog w=.ok (.string (strN bs)) w:=by
 obtain⟨A',c',e,h1,h2,h3,h4⟩:=h;injection e with e1 e2 e3
 subst e1 e3;rw[run_convert_bytes_string w 45 9 5 _ n c Tryz.underlying45 Tryz.underlying5 Tryz.underlying9]
 by_cases h0:0<n
 ·obtain⟨ad,rfl, -,hc⟩:=h4 h0
  have hl:(loadCells ad n).run Tryz.prog w=.ok ((bs.map fun n:Nat=>(n:Int)).map (Value.int .u8)).toArray w:=by
   have:=run_loadCells_list (P:=Tryz.prog) w ad (zF bs) (fun j v hj=>hc j v hj);rw[show (zF bs).length=n by omega] at this;rw[this];simp[zF,Function.comp_def]
  rw[run_bytesToString w ad n c _ hl,foldl_push_bytes];simp[strN,strOfNums,ByteArray.empty,ByteArray.emptyWithCapacity];rfl
 ·obtain rfl:n=0:=by omega
  have:bs=[]:=by simpa [zF] using h3
  subst this;cases A<;>simp[Conv.bytesToString,loadCells,strN,strOfNums]<;>rfl
def ex_strEql {o:Oper} {a:Act} {x y:Operand} {t2:TypeId} (ho:o.op=.binOp .eql 9 x y t2) {s u:ByteArray} (hx:a.eval x=.string s) (hy:a.eval y=.string u) {b:Bool} (h:(s.toList ==u.toList)=b) (w:World):(execOp a.eval o).run Tryz.prog w=.ok (.value (.bool b)) w:=by
 subst h;simp[execOp,ho,hx,hy,binOp,eqGuard,Op.stringOp]
def zMd (u v:Value) (xs ys:List Nat) (w:World) (hx: ∀ b∈xs,b<256) (hy: ∀ b∈ys,b<256) (hu:SL w 1 u xs.length (zF xs)) (hv:SL w 1 v ys.length (zF ys)) :
 Calls Tryz.prog 85 #[u,v] w fun e w'=>e=.returned (.bool (decide (xs=ys)))∧Ext w w':=by
 have hu':=hu;have hv':=hv;obtain⟨A,c,rfl, -, -, -, -⟩:=hu';obtain⟨B,d,rfl, -, -, -, -⟩:=hv';have k1:=zA (zLw hu);have k2:=zA (zLw hv)
 have HE:Hid (((strN xs).toList ==(strN ys).toList)=decide (xs=ys)):=zA (by
  rw[wE3];simp only[beq_iff_eq,wB3,ByteArray.toList_eq]
  exact⟨strN_inj hx hy,fun h=>by rw[h]⟩)
 generalize decide (xs=ys)=r at *;generalize strN xs=s1 at *;generalize strN ys=s2 at *;clear hu hv hx hy;generalize xs.length=n at *;generalize ys.length=m at *;go_enter Tryz.func85,Tryz.ntmps85
 go_wp2_with (first
  | ((with_reducible apply gS 6);refine xC rfl (.string s1) (by simp[execOp,Act.eval,k1.out]) ?_)
  | ((with_reducible apply gS 8);refine xC rfl (.string s2) (by simp[execOp,Act.eval,k2.out]) ?_)
  | ((with_reducible apply gS 9);refine zB rfl (.bool r) (ex_strEql rfl rfl rfl HE.out) ?_))
 go_ret;exact⟨rfl,Ext.refl _⟩
def elt_u8C:Elt Tryz.prog 45 5 1 1:=⟨Tryz.underlying45,by kernel_rfl,by omega⟩
def zTB (l:List Nat): ∀ u∈zF l,u.oneCell'=true:=by
 intro u hu;obtain⟨n, -,rfl⟩:=wD6.1 hu;rfl
def zON (w:World) (a:Option Addr) (l c:Nat):(binOp .eql 45 (.slice a l c) (.slice none 0 0)).run Tryz.prog w=.ok (.bool a.isNone) w:=by
 exact _root_.Go.run_eql_slice_nil w 45 5 a l c Tryz.underlying45
def zMv (bs:List Nat) (w:World) (e:Ending) (w':World):Prop:= ∃ B d,e=.returned (.slice B bs.length d)∧w'.ownsRow w.heap.size 5 1 (.slice B bs.length d) bs.length (zF bs)∧Ext w w'
def zSY (w:World) (base:Nat) (e:TypeId) (hb:base≤w.heap.size):(w.alloc (.cells #[] e)).ownsRow base e 1 (.slice (some ⟨w.heap.size,0,none⟩) 0 0) 0 [] :=
 ⟨rfl,.inr ⟨w.heap.size,0, #[],rfl,hb,heap_alloc_new w _,by simp,by simp,by simp⟩⟩
def clone_any (A:Option Addr) (n c:Nat) (bs:List Nat) (w:World) (hn:bs.length=n) (hN:n≤1000000) (h:SL w 1 (.slice A n c) n (zF bs)) :
 Calls Tryz.prog 84 #[.slice A n c] w (zMv bs w):=by
 unfold zMv;rw[hn]
 cases A with
 | none =>
   obtain⟨A',c',e,h1,h2,h3,h4⟩:=h;injection e with e1 e2 e3
   have h0:n=0:=by
    rcases wC5 n with h | h
    ·exact h
    ·obtain⟨ad,q, -⟩:=h4 h;rw[←e1] at q;cases q
   subst h0;have hb:bs=[]:=wP4.1 hn;subst hb;clear h4 h3 e1 e2 e3;have HNIL:=zA (fun W=>zON W none 0 c);go_enter Tryz.func84,Tryz.ntmps84;go_wp2_with ((with_reducible apply gS 4);refine zB rfl (.bool true) (by intro W;simp[execOp,Act.eval,HNIL.out,eqGuard]) ?_)
   go_ret;exact⟨none,0,rfl,zAt _ _ _ _,Ext.refl _⟩
 | some ad =>
   have HS:=zA h;have HNIL:=zA (fun W=>zON W (some ad) n c);have h5:=zSY w w.heap.size 5 (wA5 _);have hx5:=(Ext.refl w).alloc (.cells #[] 5);clear h;go_enter Tryz.func84,Tryz.ntmps84
   go_wp2_with (first
    | ((with_reducible apply gS 4);refine zB rfl (.bool false) (by intro W;simp[execOp,Act.eval,HNIL.out,eqGuard]) ?_)
    | ((with_reducible apply gS 7);refine wApf elt_u8C rfl (.tmp 5) (.tmp 6) rfl w.heap.size (.slice (some ⟨w.heap.size,0,none⟩) 0 0) 0 [] rfl h5 (.slice (some ad) n c) n (zF bs) rfl (HS.out.ext hx5) (zTB bs) (by omega) (by omega) (by simp) ?_;intro B d w7 ho7 hg7 hr7;rw[wB2,wL5] at ho7;rw[wB2]))
   go_ret;exact⟨_,_,rfl,ho7,Below.grown hx5 hg7 hx5.size (fun k hk=>by simp[Value.ownBlock] at hk;omega)⟩
def zRR (A:Option Addr) (n c:Nat) (bs:List Nat) (w:World) (hn:bs.length=n) (hl:91000<n) :
 Calls Tryz.prog 37 #[.slice A n c] w (FpIs (uM bs) w):=by
 have HZ:Hid (uM bs=(FC.zero,2)):=zA (by unfold uM;rw[if_pos (by omega)]);have HE:=zA (fun W (h:Ext w W)=>FpIs.err HZ.out h);have hzs:=zA zBM;have hzo:=zA zDF;have hz0:=zBr;have hbf:=zA zEy;generalize zFile=zf at *;generalize uM bs=pz at *;clear HZ hn;go_enter Tryz.func37,Tryz.ntmps37
 go_wp2_with (first
  | ((with_reducible apply gS 2);refine wAlo' rfl (some 2) rfl 47 rfl _ hz0 ?_;intro w1 g0 hb0 hx1 hg0)
  | ((with_reducible apply gS 12);refine jN (by rfl) 47 rfl _ hbf.out ?_)
  | ((with_reducible apply gT 2 12);refine wStB rfl 47 (.tmp 2) (.tmp 12) rfl g0 zf rfl rfl hb0 103 yQ hzs.out hzs.out hzo.out ?_;intro w2 hb2 hg2))
 exact yK rfl rfl g0 rfl hb2 _ Tryz.underlying47 rfl 103 yQ hzs.out (HE.out _ (hx1.grown hg2 hg0))
def PRk.upd {S:Nat→Prop} {w w':World} {gr p:Nat} {bs:List Nat} (h:PRk w gr bs p) (hu:Upd S w w') (hS: ∀ x,S x→gr<x):PRk w' gr bs p:=PR.upd h hu hS
def PRk.ext {w w':World} {gr p:Nat} {bs:List Nat} (h:PRk w gr bs p) (hx:Ext w w'):PRk w' gr bs p:=PR.ext h hx
def PRk.lt {w:World} {gr p:Nat} {bs:List Nat} (h:PRk w gr bs p):gr<w.heap.size:=PR.lt h
def PRk.flag {w:World} {gr p:Nat} {bs:List Nat} (h:PRk w gr bs p):w.cell? ⟨gr,1,none⟩=some (.bool (decide (bs.length<p))):=PR.flag h
def PRk.start {w w3:World} {gr n c:Nat} {A:Option Addr} {bs:List Nat} (hn:bs.length=n) (hb:Blk w3 gr 119 #[.slice A n c,.bool false]) (hs:SL w 1 (.slice A n c) n (zF bs)) (hx:Ext w w3) (hg:w.heap.size≤gr):PRk w3 gr bs 0:=by
 subst hn;refine⟨A,c,by simpa using hb,by simpa using hs.ext hx,fun h0 ad e=> ?_⟩;obtain⟨A',c',e1,h1,h2,h3,h4⟩:=hs;injection e1 with e1 e2 e3
 obtain⟨ad',e5,h5, -⟩:=h4 (by simpa using h0);rw[←e1,e] at e5;injection e5 with e5
 subst e5;omega
def PRk.rest {w:World} {gr p:Nat} {bs:List Nat} (h:PRk w gr bs p): ∃ A c,w.cell? ⟨gr,0,none⟩=some (.slice A (bs.drop p).length c)∧SL w 1 (.slice A (bs.drop p).length c) (bs.drop p).length (zF (bs.drop p)):=by
 obtain⟨A,c,h1,h2,h3⟩:=h;exact⟨A,c,h1.cell 0,h2⟩
section
def Z64:List Int:=List.replicate 64 0
def Z16:List Int:=List.replicate 16 0
attribute [local irreducible] qH qR zBi qJ quL
def zSO (A:Option Addr) (n c:Nat) (bs:List Nat) (w:World) (hn:bs.length=n) (hl:n≤91000) (hlt: ∀ b∈bs,b<256) (hs:SL w 1 (.slice A n c) n (zF bs)) :
 Calls Tryz.prog 37 #[.slice A n c] w (FpIs (uM bs) w):=by
 have HSB:=zA hs;have HNL:=zA hn;have HLT:=zA hlt;have hzs:=zA zBM;have hzo:=zA zDF;have hZF:=zBr;have hbf:=zA zEy;have hb4:=zA builtF;have hST:=zA (fun (w3:World) (gr:Nat) (hb:Blk w3 gr 119 #[.slice A n c,.bool false]) (hx:Ext w w3) (hg:w.heap.size≤gr)=>PRk.start hn hb hs hx hg);obtain⟨X,hX⟩: ∃ X:Nat→Nat,X=fun p=>bs.getD p 0:=⟨_,rfl⟩
 have HX:=zA (fun p=>(show bs.getD p 0=X p by rw[hX]));have HN:Hid (∀ g p W,PRk W g bs p→Calls Tryz.prog 81 #[.pointer (some ⟨g,0,none⟩)] W fun e w'=>e=.returned (.int .i64 ((X p:Nat):Int))∧PRk w' g bs (p+1)∧Upd (fun b=>b=g) W w'):=zA (fun g p W h=>by rw[hX];exact zOH g bs p W hlt h);clear hX hs hlt hn;obtain⟨F0,hF0⟩: ∃ F0:FC,F0=⟨((X 2:Nat):Int),((X 3:Nat):Int),((X 4:Nat):Int),Z64,Z16,[],Z16,[],((X 5:Nat):Int),[]⟩:=⟨_,rfl⟩
 have hbF:Hid (Tryz.prog.built 47 [(0,.int .i64 ((X 2:Nat):Int)),(1,.int .i64 ((X 3:Nat):Int)),(2,.int .i64 ((X 4:Nat):Int)),(5,.int .i64 ((X 5:Nat):Int))]=some (F0.cells (.slice none 0 0) (.slice none 0 0) (.slice none 0 0))):=zA (by rw[hF0];exact hb4.out _ _ _ _);have hF0s:F0.shaped:=by rw[hF0];exact⟨rfl,rfl,rfl⟩
 have hF0z:=zA (FC.size hF0s (.slice none 0 0) (.slice none 0 0) (.slice none 0 0));have hF0o:=zA (zDp F0 none none none 0 0 0 0 0 0);have HF0:=zA hF0;clear hF0 hb4;obtain⟨fc0,hfc0⟩: ∃ fc0,fc0=F0.cells (.slice none 0 0) (.slice none 0 0) (.slice none 0 0):=⟨_,rfl⟩
 rw[←hfc0] at hbF hF0z hF0o;have HFC0:=zA hfc0;clear hfc0;have HE: ∀ E,uM bs=(FC.zero,E)→Hid (∀ W,Ext w W→FpIs (uM bs) w (.returned (.tuple #[.agg zFile,.int .i64 E])) W):=fun E h=>zA (fun W hx=>FpIs.err h hx)
 have HER:=zA HE;clear HE;generalize hzf:zFile=zf at *;go_enter Tryz.func37,Tryz.ntmps37
 go_wp2_with (first
  | ((with_reducible apply gS 2);refine wAlo' rfl (some 2) rfl 47 rfl _ hZF ?_;intro w1 g0 hb0 hx1 hg0)
  | ((with_reducible apply gS 15);refine wBox rfl 119 (.tmp 14) rfl #[.slice A n c,.bool false] rfl ?_;intro w3 gr hbr hx3 hgr;have hy0:=hx1.trans hx3;have hgr':w.heap.size≤gr:=(by have:=hx1.size;omega);have hq0:=hST.out w3 gr hbr hy0 hgr';have hz0:Blk w3 g0 47 zf:=hb0.ext hx3;have hne:g0<gr:=(by have:=hb0.lt;omega);clear hx1 hx3 hbr hb0)
  | (go_at_call 81;(with_reducible refine (HN.out _ 0 _ hq0).mono ?_);rintro e v0 ⟨rfl,hq',hu0⟩;have hq1:PRk v0 gr bs 1:=hq';have hz1:=hu0.blk hz0 (by omega);have hy1:=hu0.ext hy0 (fun x hx=>by omega);clear hq' hq0 hz0 hy0 hu0)
  | (go_at_call 81;(with_reducible refine (HN.out _ 1 _ hq1).mono ?_);rintro e v1 ⟨rfl,hq',hu1⟩;have hq2:PRk v1 gr bs 2:=hq';have hz2:=hu1.blk hz1 (by omega);have hy2:=hu1.ext hy1 (fun x hx=>by omega);clear hq' hq1 hz1 hy1 hu1)
  | (go_at_call 81;(with_reducible refine (HN.out _ 2 _ hq2).mono ?_);rintro e v2 ⟨rfl,hq',hu2⟩;have hq3:PRk v2 gr bs 3:=hq';have hz3:=hu2.blk hz2 (by omega);have hy3:=hu2.ext hy2 (fun x hx=>by omega);clear hq' hq2 hz2 hy2 hu2)
  | (go_at_call 81;(with_reducible refine (HN.out _ 3 _ hq3).mono ?_);rintro e v3 ⟨rfl,hq',hu3⟩;have hq4:PRk v3 gr bs 4:=hq';have hz4:=hu3.blk hz3 (by omega);have hy4:=hu3.ext hy3 (fun x hx=>by omega);clear hq' hq3 hz3 hy3 hu3)
  | (go_at_call 81;(with_reducible refine (HN.out _ 4 _ hq4).mono ?_);rintro e v4 ⟨rfl,hq',hu4⟩;have hq5:PRk v4 gr bs 5:=hq';have hz5:=hu4.blk hz4 (by omega);have hy5:=hu4.ext hy4 (fun x hx=>by omega);clear hq' hq4 hz4 hy4 hu4)
  | (go_at_call 81;(with_reducible refine (HN.out _ 5 _ hq5).mono ?_);rintro e v5 ⟨rfl,hq',hu5⟩;have hq6:PRk v5 gr bs 6:=hq';have hz6:=hu5.blk hz5 (by omega);have hy6:=hu5.ext hy5 (fun x hx=>by omega);clear hq' hq5 hz5 hy5 hu5)
  | ((with_reducible apply gS 28);refine wpList_buildTo rfl 47 _ rfl (some 28) rfl fc0 (by simp only[wC7,wC8,wC9];exact hbF.out) ?_)
  | ((with_reducible apply gS 5);refine wAlo' rfl (some 5) rfl 47 rfl _ hZF ?_;intro w10 gf hbf10 hx10 hgf;have hq10:=hq6.ext hx10;have hz10:=hz6.ext hx10;have hy10:=hy6.trans hx10;have hgg:gr<gf:=(by have:=hq6.lt;omega);have hgf':w.heap.size≤gf:=(by have:=hy6.size;omega);clear hq6 hz6 hy6 hx10)
  | ((with_reducible apply gT 5 28);refine wStB rfl 47 (.tmp 5) (.tmp 28) rfl gf fc0 rfl rfl hbf10 103 yQ hF0z.out hzs.out hF0o.out ?_;intro w11 hbf11 hgf11))
 clear hbF hF0z hF0o hbf10;rw[HFC0.out] at hbf11;have hq11:=hq10.upd ((zO hgf11)) (fun x hx=>by injection hx with hx;omega);have hz11:=hz10.grown hgf11 (by intro hx;injection hx with hx;omega);have hy11:=hy10.grown hgf11 hgf';have hgrl:gr<w11.heap.size:=hq11.lt;have hgfl:=hbf11.lt;have hne2:g0<gf:=by omega
 obtain⟨G,hG⟩: ∃ G:List Int→FC,G=fun q=>{ F0 with qs:=q }:=⟨_,rfl⟩
 have HGQ:Hid (∀ q,(G q).qs=q):=zA (fun q=>by rw[hG]);have HGU:Hid (∀ q q',({ G q with qs:=q' }:FC)=G q'):=zA (fun q q'=>by rw[hG]);have HGS:Hid (∀ q,q.length=64→(G q).shaped):=zA (fun q h=>by rw[hG];exact⟨h,hF0s.2.1,hF0s.2.2⟩);have HG:Hid (∀ q,G q=⟨((X 2:Nat):Int),((X 3:Nat):Int),((X 4:Nat):Int),q,Z16,[],Z16,[],((X 5:Nat):Int),[]⟩):=zA (fun q=>by rw[hG,HF0.out]);have e0:F0=G (quL bs 0++List.replicate (64-0) 0):=by rw[HG.out,HF0.out,show quL bs 0=[] by simp[quL]];rfl
 rw[e0] at hbf11;clear hG e0 HF0 hF0s HFC0 hq10 hz10 hy10
 go_loopw [29] (fun i wr=> ∃ k:Nat,k≤64∧i=.int .i64 (k:Int)∧PRk wr gr bs (6+k)∧Blk wr g0 47 zf∧Blk wr gf 47 (FC.cells (G (quL bs k++List.replicate (64-k) 0)) (.slice none 0 0) (.slice none 0 0) (.slice none 0 0))∧Ext w wr∧gf<wr.heap.size) (fun i _=>64-(intOf i).toNat)
 case atStart=>exact⟨0,by omega,rfl,hq11,hz11,hbf11,hy11,hgfl⟩
 case round =>
  clear hq11 hz11 hbf11 hy11 hgfl hgrl;obtain⟨k,hk,rfl,hq,hz,hbf2,hy,hgfl⟩:=hrel
  by_cases hk64:k<64
  ·have HN1:=zA (HN.out gr (6+k));have hql:(quL bs k++List.replicate (64-k) 0).length=64:=by rw[wF3,zGZ,wF5];omega
   have HGk:=zA (HGS.out _ hql);have HQ:Hid ((quL bs k++List.replicate (64-k) 0).set k ((X (6+k):Nat):Int)=quL bs (k+1)++List.replicate (64-(k+1)) 0):=zA (by rw[←HX.out];exact quL_set bs k hk64);generalize quL bs k++List.replicate (64-k) 0=q0 at *;generalize hq1:quL bs (k+1)++List.replicate (64-(k+1)) 0=q1 at *;have HQ1:=zA hq1;clear hq1 hql;generalize X (6+k)=x at *
   go_wp2_with (first
    | (go_at_call 81;(with_reducible refine (HN1.out _ hq).mono ?_);rintro e w3 ⟨rfl,hq3,hu3⟩;have hbf3:=hu3.blk hbf2 (by omega);have hz3:=hu3.blk hz (by omega);have hy3:=hu3.ext hy (fun y hx=>by omega);have hgfl3:=(show gf<w3.heap.size by have:=hu3.size;omega);clear hq hz hbf2 hy hu3)
    | ((with_reducible apply gT 36 34);refine store_qk rfl _ _ rfl gf (G q0) HGk.out _ _ _ k hk64 (x:Int) rfl rfl hbf3 ?_;intro w4 hbf4 hu4;rw[HGQ.out,HGU.out,HQ.out] at hbf4;have hq4:=hq3.upd hu4 (fun y hy=>by omega);have hz4:=hu4.blk hz3 (by omega);have hy4:=hu4.ext hy3 (fun y hx=>by omega);have hgfl4:=(show gf<w4.heap.size by have:=hu4.size;omega);clear hq3 hz3 hbf3 hy3 hu4))
   go_roundw
   case rel=>exact⟨k+1,by omega,by go_num,hq4,hz4,by rw[HQ1.out];exact hbf4,hy4,hgfl4⟩
   case measure=>simp[intOf];omega
  ·obtain rfl:k=64:=by omega
   have hq70:PRk wr gr bs 70:=hq;have e64:quL bs 64++List.replicate (64-64) 0=quL bs 64:=by simp
   rw[e64] at hbf2;clear e64 hq;have HZF:=zA (fun W=>zJE (quL bs 64) W (zGZ bs 64));have HQs:=zA (HGS.out _ (zGZ bs 64));have hzql:=zA (uL (quL bs 64) 64);have HZs:=zA (HGS.out _ hzql.out);generalize hq6:quL bs 64=q6 at *;have HQ6:=zA hq6;clear hq6;generalize hzq:qR q6 64=zq at *;have HZQ:=zA hzq;clear hzq;have HT:=zA (fun p W (hp:p≤10000000) (h:PRk W gr bs p)=>table_any gr bs p W HLT.out hp h);have HCS:=zA (zMs HLT.out 70 16)
   go_upto_region 15 with (first
    | ((with_reducible apply gS 39);refine load_q rfl _ rfl gf (G q6) HQs.out _ _ _ rfl hbf2 ?_;rw[HGQ.out])
    | (go_at_call 82;(with_reducible refine (HZF.out _).mono ?_);rintro e w19 ⟨rfl,hx19⟩;have hq19:=hq70.ext hx19;have hz19:=hz.ext hx19;have hb19:=hbf2.ext hx19;have hy19:=hy.trans hx19;have hl19:=(show gf<w19.heap.size by have:=hx19.size;omega);clear hq70 hz hbf2 hy hx19)
    | ((with_reducible apply gT 41 40);refine store_q rfl _ _ rfl gf (G q6) HQs.out _ _ _ zq hzql.out rfl rfl hb19 ?_;intro w20 hb20 hu20;rw[HGU.out] at hb20;have hq20:=hq19.upd hu20 (fun y hy=>by omega);have hz20:=hu20.blk hz19 (by omega);have hy20:=hu20.ext hy19 (fun y hx=>by omega);have hl20:=(show gf<w20.heap.size by have:=hu20.size;omega);clear hq19 hz19 hb19 hy19 hu20)
    | (go_at_call 83;(with_reducible refine (HT.out 70 _ (by omega) hq20).mono ?_);rintro e w21 ⟨k1,A1,c1,hk1,hs1,rfl,ho1,hq21,hu21⟩;have hb21:=hu21.blk hb20 (by omega);have hz21:=hu21.blk hz20 (by omega);have hy21:=hu21.ext hy20 (fun y hx=>by omega);have hl21:=(show gf<w21.heap.size by have:=hu21.size;omega);clear hq20 hz20 hb20 hy20 hu21)
    | ((with_reducible apply gT 45 43);refine store_t1 rfl _ _ rfl gf (G zq) HZs.out _ _ _ (qJ bs 70 16) (zBi bs (70+32) k1) (uP _ _ _) A1 k1 c1 rfl rfl hb21 ?_;intro w22 hb22 hu22;have hq22:=hq21.upd hu22 (fun y hy=>by omega);have hz22:=hu22.blk hz21 (by omega);have hy22:=hu22.ext hy21 (fun y hx=>by omega);have hl22:=(show gf<w22.heap.size by have:=hu22.size;omega);have ho1':=zAK ho1 hu22 (fun y hy=>by omega);clear hq21 hz21 hb21 hy21 hu22 ho1)
    | (go_at_call 83;(with_reducible refine (HT.out (70+32+k1) _ (by have:=HCS.out;omega) hq22).mono ?_);rintro e w23 ⟨k2,A2,c2,hk2,hs2,rfl,ho2,hq23,hu23⟩;have hb23:=hu23.blk hb22 (by omega);have hz23:=hu23.blk hz22 (by omega);have hy23:=hu23.ext hy22 (fun y hx=>by omega);have hl23:=(show gf<w23.heap.size by have:=hu23.size;omega);have ho1'':=zAK ho1' hu23 (fun y hy=>by omega);clear hq22 hz22 hb22 hy22 hu23 ho1')
    | ((with_reducible apply gT 49 47);refine store_t2 rfl _ _ rfl gf ({ G zq with cs1:=qJ bs 70 16,xs1:=zBi bs (70+32) k1 }:FC) ⟨HZs.out.1,uP _ _ _,HZs.out.2.2⟩ _ _ _ (qJ bs (70+32+k1) 16) (zBi bs (70+32+k1+32) k2) (uP _ _ _) A2 k2 c2 rfl rfl hb23 ?_;intro w24 hb24 hu24;have hq24:=hq23.upd hu24 (fun y hy=>by omega);have hz24:=hu24.blk hz23 (by omega);have hy24:=hu24.ext hy23 (fun y hx=>by omega);have hl24:=(show gf<w24.heap.size by have:=hu24.size;omega);have ho1:=zAK ho1'' hu24 (fun y hy=>by omega);have ho2':=zAK ho2 hu24 (fun y hy=>by omega);clear hq23 hz23 hb23 hy23 hu24 ho1'' ho2))
   have HOE:=zA (fun W (hb:Blk W g0 47 zf)=>hb)
   by_cases hsh:bs.length<70+32+k1+32+k2
   ·have hfl:=hq24.flag;rw[show decide (bs.length<70+32+k1+32+k2)=true by simpa using hsh] at hfl
    have hP3:bs.length<p3 bs:=by
     unfold p3 p2
     by_cases hk:k1=qH bs 70 16
     ·rw[←hk];omega
     ·have:=hs1 (by omega);omega
    have HEE:=HER.out 3 (by unfold uM;rw[if_neg (by have:=HNL.out;omega),if_pos hP3]);clear hb24 ho1 ho2' hq24 hs1 hs2 HCS hP3 HER HT;generalize uM bs=pz at *
    go_wp2_with (first
     | ((with_reducible apply gS 54);refine jN (by rfl) 47 rfl _ hbf.out ?_)
     | ((with_reducible apply gT 2 54);refine wStB rfl 47 (.tmp 2) (.tmp 54) rfl g0 zf rfl rfl hz24 103 yQ hzs.out hzs.out hzo.out ?_;intro w2 hb2 hg2))
    exact yK rfl rfl g0 rfl hb2 _ Tryz.underlying47 rfl 103 yQ hzs.out (HEE.out _ (hy24.grown hg2 hg0))
   ·have hfl:=hq24.flag;rw[show decide (bs.length<70+32+k1+32+k2)=false by simpa using hsh] at hfl
    obtain rfl:k1=qH bs 70 16:=by
     by_cases hk:k1=qH bs 70 16
     ·exact hk
     ·have:=hs1 (by omega);omega
    have hsh2: ¬bs.length<p2 bs+32+k2:=hsh;have hs2':k2<qH bs (p2 bs) 16→bs.length<p2 bs+32+k2:=hs2;have hk2':k2≤qH bs (p2 bs) 16:=hk2
    obtain rfl:k2=qH bs (p2 bs) 16:=by
     by_cases hk:k2=qH bs (p2 bs) 16
     ·exact hk
     ·have:=hs2' (by omega);omega
    have hq24':PRk w24 gr bs (p3 bs):=hq24;obtain⟨B4,d4,hc4,hsd4⟩:=hq24'.rest
    have hb24':Blk w24 gf 47 (FC.cells { vA bs with data:=[] } (.slice A1 (qH bs 70 16) c1) (.slice A2 (qH bs (p2 bs) 16) c2) (.slice none 0 0)):=by
     have:=hb24;rw[HG.out] at this;unfold vA;rw[HX.out,HX.out,HX.out,HX.out,HQ6.out,HZQ.out];exact this
    have ho2:w24.ownsRow w22.heap.size 3 1 (.slice A2 (qH bs (p2 bs) 16) c2) (qH bs (p2 bs) 16) (ints (zBi bs (p2 bs+32) (qH bs (p2 bs) 16))):=ho2';have hFs:=zOn bs
    have HAT:=zA (fun W sd (h1:SL W 1 (.slice A1 (qH bs 70 16) c1) (qH bs 70 16) (ints (zBi bs (70+32) (qH bs 70 16)))) (h2:SL W 1 (.slice A2 (qH bs (p2 bs) 16) c2) (qH bs (p2 bs) 16) (ints (zBi bs (p2 bs+32) (qH bs (p2 bs) 16)))) (h3:SL W 1 sd (bs.drop (p3 bs)).length (zF (bs.drop (p3 bs))))=>(show (vA bs).at_ W (.slice A1 (qH bs 70 16) c1) (.slice A2 (qH bs (p2 bs) 16) c2) sd by
     unfold FC.at_ vA
     dsimp only;rw[zPD,zPD]
     exact⟨h1,h2,h3⟩))
    have HPK:=zA (fun W s1 s2 sd (ha:(vA bs).at_ W s1 s2 sd)=>(vA bs).pack hFs s1 s2 sd W ha);have HLL:=zA ((vA bs).packL_lt hFs.1 (fun b hb=>HLT.out b (wG9 hb)));have HP0:=zA (fun (h1:(vA bs).packE=0) (h2:(vA bs).packL=bs)=>(show uM bs=(vA bs,0) by unfold uM;rw[if_neg (by have:=HNL.out;omega),if_neg (show ¬bs.length<p3 bs from hsh2),if_pos ⟨h1,h2⟩]));have HP4:=zA (fun (h: ¬((vA bs).packE=0∧(vA bs).packL=bs))=>(show uM bs=(FC.zero,4) by unfold uM;rw[if_neg (by have:=HNL.out;omega),if_neg (show ¬bs.length<p3 bs from hsh2),if_neg h]));have HSD:=zA (fun B m d=>FC.size (F:={ vA bs with data:=[] }) hFs (.slice A1 (qH bs 70 16) c1) (.slice A2 (qH bs (p2 bs) 16) c2) (.slice B m d));have HSZ:=zA (fun B m d=>FC.size hFs (.slice A1 (qH bs 70 16) c1) (.slice A2 (qH bs (p2 bs) 16) c2) (.slice B m d));have HON:=zA (fun B m d=>zDp (vA bs) A1 A2 B (qH bs 70 16) c1 (qH bs (p2 bs) 16) c2 m d);have hDL:(bs.drop (p3 bs)).length≤91000:=by rw[wK1];have:=HNL.out;omega
    have HST:=zA (fun (ops:Array Oper) (rest:List Oper) (o:Oper) (ac:Act) (w:World) (Q:Exit→Act→World→Prop) (hgd:o.guard=none) (x y:Operand) (ho:o.op=.store 45 x y) (A:Option Addr) (n c:Nat) (hx:ac.eval x=.pointer (some ⟨gf,102,none⟩)) (hy:ac.eval y=.slice A n c) (hB:Blk w gf 47 (FC.cells { vA bs with data:=[] } (.slice A1 (qH bs 70 16) c1) (.slice A2 (qH bs (p2 bs) 16) c2) (.slice none 0 0))) (h: ∀ w1,Blk w1 gf 47 (FC.cells (vA bs) (.slice A1 (qH bs 70 16) c1) (.slice A2 (qH bs (p2 bs) 16) c2) (.slice A n c))→Upd (fun b=>b=gf) w w1→wpList Tryz.prog ops Q rest (ac.put o.dst undef) w1)=>zMt (Q:=Q) (rest:=rest) (ops:=ops) hgd x y ho gf { vA bs with data:=[] } hFs _ _ _ (bs.drop (p3 bs)) A n c hx hy hB h);have HSB':=zA (fun W (h:Ext w W)=>HSB.out.ext h);have hl22:gf<w22.heap.size:=by have:=ho2.lt;omega
    clear hb24 ho2' hq24 hq24' HT HCS hk1 hs1 hk2 hs2 hs2' hk2' hsh hsh2 HG HGQ HGU HGS HX HN HZF HQs HZs HQ6 HZQ hzql;obtain⟨FC3,hFC3⟩: ∃ C:Array Value,C=FC.cells { vA bs with data:=[] } (.slice A1 (qH bs 70 16) c1) (.slice A2 (qH bs (p2 bs) 16) c2) (.slice none 0 0):=⟨_,rfl⟩
    simp only[←hFC3] at hb24' HST;generalize vA bs=PF at *;clear hFC3;have HCLN:=clone_any B4 (bs.drop (p3 bs)).length d4 (bs.drop (p3 bs)) w24 rfl (wD1 hDL (by omega)) hsd4;unfold zMv at HCLN;generalize bs.drop (p3 bs)=RR at *;generalize RR.length=m at *;have HCLN':=zA HCLN;clear HCLN hsd4
    go_upto_region 19 with (first
     | ((with_reducible apply gS 58);refine xC rfl (.slice B4 m d4) (zCt rfl rfl hc4) ?_)
     | (go_at_call 84;(with_reducible refine HCLN'.out.mono ?_);rintro e w25 ⟨B5,d5,rfl,ho5,hx5⟩;have hb25:=hb24'.ext hx5;have hz25:=hz24.ext hx5;have hy25:=hy24.trans hx5;have ho15:=yR ho1 hx5;have ho25:=yR ho2 hx5)
     | ((with_reducible apply gT 60 59);refine HST.out _ _ _ _ _ _ rfl _ _ rfl B5 m d5 rfl rfl hb25 ?_;intro w26 hb26 hu26;have hz26:=hu26.blk hz25 (by omega);have hy26:=hu26.ext hy25 (fun y hx=>by omega);have ho16:=zAK ho15 hu26 (fun y hy=>by omega);have ho26:=zAK ho25 hu26 (fun y hy=>by omega);have ho56:=zAK ho5 hu26 (fun y hy=>by omega);have hat:=HAT.out _ _ (jF ho16).1 (jF ho26).1 (jF ho56).1)
     | ((with_reducible apply gS 62);refine wLdB rfl 47 (.tmp 5) rfl gf rfl hb26 _ Tryz.underlying47 rfl 103 yQ (HSZ.out _ _ _) ?_)
     | (go_at_call 36;(with_reducible refine (HPK.out _ _ _ _ hat).mono ?_);rintro e w27 ⟨C7,d7,rfl,hs7,hx7⟩;have hb27:=hb26.ext hx7;have hz27:=hz26.ext hx7;have hy27:=hy26.trans hx7;have hat7:=hat.ext hx7))
    have HEQ:=zA (zMd (.slice C7 PF.packL.length d7) (.slice A n c) PF.packL bs w27 HLL.out HLT.out hs7 (by rw[HNL.out];exact HSB'.out w27 hy27));have HEF:=zA (fun (E:Int) (h:uM bs=(FC.zero,E)) W (hx:Ext w W)=>(HER.out E h).out W hx);have HON':=zA (HON.out B5 m d5);have HSZ':=zA (HSZ.out B5 m d5);have hzl27:=hz27;obtain⟨FV,hFV⟩: ∃ C:Array Value,C=FC.cells PF (.slice A1 (qH bs 70 16) c1) (.slice A2 (qH bs (p2 bs) 16) c2) (.slice B5 m d5):=⟨_,rfl⟩
    have HFV:=zA hFV;rw[←hFV] at hb27;rw[←hFV] at HON' HSZ';clear hFV HER HPK HON HSZ HST hb26 hb25 hz25 hz26 ho15 ho25 ho5 hat hs7 hb24' HCLN' HSD hz24 ho1 ho2;generalize PF.packL=L at *
    by_cases hE:PF.packE=0
    ·by_cases hLb:L=bs
     ·rw[wL0 hLb] at HEQ;have HZ:=zA (HP0.out hE hLb);generalize uM bs=pz at *;rw[hE];generalize L.length=ll at *;clear HP0 HP4 HEF HLL hLb
      go_wp2_with (first
       | (go_at_call 85;(with_reducible refine HEQ.out.mono ?_);rintro e w28 ⟨rfl,hx28⟩;have hb28:=hb27.ext hx28;have hz28:=hz27.ext hx28;have hy28:=hy27.trans hx28;have hat8:=hat7.ext hx28)
       | ((with_reducible apply gS 75);refine wLdB rfl 47 (.tmp 5) rfl gf rfl hb28 _ Tryz.underlying47 rfl 103 yQ HSZ'.out ?_)
       | ((with_reducible apply gT 2 75);refine wStB rfl 47 (.tmp 2) (.tmp 75) rfl g0 FV rfl rfl hz28 103 yQ HSZ'.out hzs.out HON'.out ?_;intro w29 hb29 hg29))
      have hy29:=hy28.grown hg29 hg0;have a1:=zAK (yR (yR ho16 hx7) hx28) (zO hg29) (fun x hx=>by injection hx with hx;omega);have a2:=zAK (yR (yR ho26 hx7) hx28) (zO hg29) (fun x hx=>by injection hx with hx;omega);have a3:=zAK (yR (yR ho56 hx7) hx28) (zO hg29) (fun x hx=>by injection hx with hx;omega)
      exact yK rfl rfl g0 rfl hb29 _ Tryz.underlying47 rfl 103 yQ HSZ'.out (by
       rw[HZ.out]
       exact⟨_,_,_,by rw[HFV.out];rfl,HAT.out _ _ (jF a1).1 (jF a2).1 (jF a3).1,hy29⟩)
     ·rw[wL1 hLb] at HEQ;have HEE:=zA (HEF.out 4 (HP4.out (fun h=>hLb h.2)));generalize uM bs=pz at *;rw[hE];generalize L.length=ll at *;clear HP0 HP4 HEF HLL hLb
      go_wp2_with (first
       | (go_at_call 85;(with_reducible refine HEQ.out.mono ?_);rintro e w28 ⟨rfl,hx28⟩;have hz28:=hz27.ext hx28;have hy28:=hy27.trans hx28)
       | ((with_reducible apply gS 74);refine jN (by rfl) 47 rfl _ hbf.out ?_)
       | ((with_reducible apply gT 2 74);refine wStB rfl 47 (.tmp 2) (.tmp 74) rfl g0 zf rfl rfl hz28 103 yQ hzs.out hzs.out hzo.out ?_;intro w29 hb29 hg29))
      exact yK rfl rfl g0 rfl hb29 _ Tryz.underlying47 rfl 103 yQ hzs.out (HEE.out _ (hy28.grown hg29 hg0))
    ·have HEE:=zA (HEF.out 4 (HP4.out (fun h=>hE h.1)));generalize uM bs=pz at *;generalize PF.packE=E at *;generalize L.length=ll at *;clear HP0 HP4 HEF HLL HEQ
     go_wp2_with (first
      | ((with_reducible apply gS 67);refine zB rfl (.bool true) (ex_neqT rfl rfl rfl hE) ?_)
      | ((with_reducible apply gS 74);refine jN (by rfl) 47 rfl _ hbf.out ?_)
      | ((with_reducible apply gT 2 74);refine wStB rfl 47 (.tmp 2) (.tmp 74) rfl g0 zf rfl rfl hz27 103 yQ hzs.out hzs.out hzo.out ?_;intro w29 hb29 hg29))
     exact yK rfl rfl g0 rfl hb29 _ Tryz.underlying47 rfl 103 yQ hzs.out (HEE.out _ (hy27.grown hg29 hg0))
end
def parse_any (v:Value) (bs:List Nat) (w:World) (hlt: ∀ b∈bs,b<256) (hs:SL w 1 v bs.length (zF bs)):Calls Tryz.prog 37 #[v] w (FpIs (uM bs) w):=by
 have hs':=hs;obtain⟨A,c,rfl, -, -, -, -⟩:=hs'
 by_cases h:91000<bs.length
 ·exact zRR A _ c bs w rfl h
 ·exact zSO A _ c bs w rfl (by omega) hlt hs
def zHe (cs:List Int): ∀ (k:Nat) (p:Nat×Nat),p∈zD cs k→p.1≤k∧(p.2+1)*2 ^ (k-p.1)≤vD cs k
 | 0,p,h=>by rw[zCg] at h;simp at h
 | k+1,p,h=>by
   rw[zED] at h;have hn:vD cs (k+1)=2*vD cs k+(cs.getD k 0).toNat:=rfl;rcases wE6.1 h with h | h
   ·obtain⟨h1,h2⟩:=zHe cs k p h;refine⟨by omega, ?_⟩;rw[show k+1-p.1=(k-p.1)+1 by omega,wL6, ←wL7,hn];omega
   ·unfold uD at h;obtain⟨i,hi,rfl⟩:=wD6.1 h;have:=wB7.1 hi;refine⟨by simp, ?_⟩;simp only[wF9,Nat.pow_zero,wF1,hn];omega
def Before (p q:Nat×Nat):Prop:=p.1≤q.1∧(p.2+1)*2 ^ (q.1-p.1)≤q.2
def zHq (cs:List Int): ∀ k,(zD cs k).Pairwise Before
 | 0=>by rw[zCg];exact List.Pairwise.nil
 | k+1=>by
   rw[zED,wR3];refine⟨zHq cs k, ?_,fun a ha b hb=> ?_⟩
   ·unfold uD;rw[wQ8];intro i j hi hj hij;simp only[wI1,wI2];unfold Before;refine⟨wA5 _, ?_⟩;simp only[wF9,Nat.pow_zero,wF1];omega
   ·obtain⟨h1,h2⟩:=zHe cs k a ha;unfold uD at hb;obtain⟨i, -,rfl⟩:=wD6.1 hb;refine⟨by simp only;omega, ?_⟩;simp only;rw[show k+1-a.1=(k-a.1)+1 by omega,wL6, ←wL7];omega
def zOI (cs xs:List Int) (hl:cs.length=16) (hz:zT cs xs=0) (s:Int) (long code:Nat) (D R:List Bool) (p:Nat) (hf:qV (zL (zD cs 16) xs) s=some (s,(long:Int),(code:Int))) (hc:code<2 ^ long) (hp:p≤D.length) (hD:D.drop p=qF code long++R) :
 uG (zL (zD cs 16) xs) D p=(s,p+long,0):=by
 obtain⟨q1,q2,q3,q4,q5,q6⟩:=zAQ hz
 have hcl:(zD cs 16).length=xs.length:=by
  have:=zBw cs (fun z hz=>(yD.1 q1 z hz).1) 16 (by omega);omega
 unfold qV at hf;obtain⟨-,i,hi,hti, -⟩:=wO3.1 hf
 have hDl:long+R.length=D.length-p:=by
  have:=congrArg List.length hD;rw[wK1,wF3,qB] at this;omega
 have hw:(zL (zD cs 16) xs).find? (zAm D p)=some (s,(long:Int),(code:Int)):=by
  rw[wO3];refine⟨?_,i,hi,hti,fun j hj=> ?_⟩
  ·unfold zAm;simp only[wF0];rw[hD,wM2 (by rw[qB];omega),wC4 (by rw[qB];omega),zBm hc];simp;omega
  ·have hlen:(zL (zD cs 16) xs).length=(zD cs 16).length:=zBS _ _ (by omega);have e1:=zAD (zD cs 16) xs j (by omega) (by omega) (by omega);have e2:=zAD (zD cs 16) xs i (by omega) (by omega) hi;rw[hti] at e2;have hb:=wQ8.1 (zHq cs 16) j i (by omega) (by omega) hj;obtain⟨hb1,hb2⟩:=hb;have e21:((zD cs 16)[i]'(by omega)).1=long:=by have:=congrArg (fun t=>t.2.1) e2;simp only at this;omega
   have e22:((zD cs 16)[i]'(by omega)).2=code:=by have:=congrArg (fun t=>t.2.2) e2;simp only at this;omega
   rw[e21] at hb1 hb2;rw[e22] at hb2;rw[e1];generalize (zD cs 16)[j]'(by omega)=u at *;unfold zAm;simp only[wF0,wE4,Bool.and_eq_false_imp,wB3,beq_eq_false_iff_ne];intro _ h2;rw[hD,wM2 (by rw[qB];omega),zNy,qB,zBm hc] at h2;have h3:code/2 ^ (long-u.1)=u.2:=by omega
   have h4:=Nat.lt_mul_div_succ code (wI5 (long-u.1));rw[h3,wJ2] at h4;omega
 rw[zNN hw];simp
def zLC (n:Int) (h: -4095≤n∧n≤4095):yZ (qQ n).1 (qQ n).2.1=(n,0):=by
 obtain⟨s1,s2,s3⟩:=zCu n h.1 h.2;have p:=zAx (szN n);have s2':(n.natAbs:Int)<2 ^ szN n:=by exact_mod_cast s2
 unfold qQ;rw[if_pos h];unfold yZ;dsimp only
 by_cases h0:n=0
 ·subst h0;decide
 ·obtain⟨s4,s5⟩:=s3 h0;have s5':(2:Int) ^ (szN n-1)≤(n.natAbs:Int):=by exact_mod_cast s5
  have e2:(2:Int) ^ szN n=2 ^ (szN n-1)*2:=by rw[←Int.pow_succ];congr 1;omega
  rw[if_pos (by rw[wF0];split<;>omega),wF0];unfold zBT;refine Prod.ext ?_ rfl;dsimp only
  by_cases hn:n<0
  ·simp only[if_pos hn];rw[if_pos (by omega)];omega
  ·simp only[if_neg hn];rw[if_neg (by omega)]
def szN_11 (n:Int) (h: -2047≤n∧n≤2047):szN n≤11∧(n≠0→1≤szN n):=by
 obtain⟨s1,s2,s3⟩:=zCu n (by omega) (by omega);refine⟨?_,fun h0=>(s3 h0).1⟩
 by_cases h0:n=0
 ·subst h0;decide
 ·obtain⟨s4,s5⟩:=s3 h0;rcases wA3 11 (szN n) with h1 | h1
  ·have:=wI4 (n:=2) (by omega) (show 11≤szN n-1 by omega);rw[show 2 ^ 11=2048 from rfl] at this;omega
  ·exact h1
section
variable {σ:Type}
def zCi (next:σ→Tok×Int×σ):List Tok→σ→σ→Prop
 | [],s,s'=>s=s'
 | t::l,s,s'=> ∃ s1,next s=(t,0,s1)∧zCi next l s1 s'
def zHw {next:σ→Tok×Int×σ}: ∀ (a b:List Tok) (s s':σ),zCi next (a++b) s s'↔ ∃ s1,zCi next a s s1∧zCi next b s1 s'
 | [],b,s,s'=>by simp[zCi]
 | t::a,b,s,s'=>by
   simp only[wL4,zCi,zHw a b];constructor
   ·rintro⟨s1,h,s2,h2,h3⟩;exact⟨s2,⟨s1,h,h2⟩,h3⟩
   ·rintro⟨s2,⟨s1,h,h2⟩,h3⟩;exact⟨s1,h,s2,h2,h3⟩
def zAc:Nat→List Int→List Tok
 | run,[]=>if 0<run then [(0,0,0)] else []
 | run,n::l=>if n=0 then zAc (run+1) l else List.replicate (run/16) long++jH ((run%16:Nat):Int) n::zAc 0 l
def zHD: ∀ (l:List Int) (acc:List Tok) (run:Nat),(if 0<(l.foldl zDy (acc,run)).2 then (l.foldl zDy (acc,run)).1++[(0,0,0)] else (l.foldl zDy (acc,run)).1)=acc++zAc run l
 | [],acc,run=>by
   rw[zAc]
   by_cases h:0<run
   ·rw[if_pos h];exact if_pos h
   ·rw[if_neg h,wG6];exact if_neg h
 | n::l,acc,run=>by
   rw[List.foldl_cons,zAc]
   by_cases h:n=0
   ·rw[zEd h,if_pos h];exact zHD l acc (run+1)
   ·rw[zGA h,if_neg h,zHD l _ 0];simp
def zCl (before:Int) (z:List Int) (hz:z.length=64):yC before z=jH 0 (z.getD 0 0-before)::zAc 0 (z.drop 1):=by
 unfold yC vS;rw[wC4 (by simp;omega)];exact zHD (z.drop 1) [jH 0 (z.getD 0 0-before)] 0
def zLP:zBY long=true:=by decide
def zNp:zBY (0,0,0)=true:=by decide
def zLc (r:Nat) (n:Int) (hr:r≤15) (h: -2047≤n∧n≤2047) (h0:n≠0):zBY (jH (r:Int) n)=true∧(jH (r:Int) n).1≠0∧((jH (r:Int) n).1/16).toNat=r∧(yZ (jH (r:Int) n).2.1 (jH (r:Int) n).2.2).1=n:=by
 have hb:=zLC n (by omega);obtain⟨h1,h2⟩:=szN_11 n h;have h3:=h2 h0;have e:(qQ n).1=(szN n:Int):=by unfold qQ;rw[if_pos (by omega)]
 unfold jH;refine⟨zJG.2 ⟨by dsimp only;rw[hb], ?_, ?_, ?_, ?_, ?_⟩, ?_, ?_,by dsimp only;rw[hb]⟩
 all_goals dsimp only
 all_goals rw[e]
 all_goals omega
def zNA (next:σ→Tok×Int×σ): ∀ (q j:Nat) (zc:List Int) (all:List Tok) (s s':σ),zCi next (List.replicate q long) s s'→j+16*q≤64→(0<q→j+16*q<64+1)→Half zc j→goB next j zc all s=goB next (j+16*q) zc (all++List.replicate q long) s'
 | 0,j,zc,all,s,s',h,_,_,_=>by
   obtain rfl:s=s':=h;simp
 | q+1,j,zc,all,s,s',h,h1,h2,hz=>by
   rw[wG0] at h;obtain⟨s1,hn,h⟩:=h;have e:=zFM (z:=zc) (all:=all) (show j<64 by omega) hn zLP (by decide) (show ¬64<j+(long.1/16).toNat+1 by rw[show (long.1/16).toNat=15 by decide];omega);rw[e,show (long.1/16).toNat=15 by decide,show (yZ long.2.1 long.2.2).1=0 by decide,hz.same (by omega) (by omega)];rw[zNA next q (j+15+1) zc (all++[long]) s1 s' h (by omega) (fun _=>by omega) ⟨hz.len,hz.lo,fun k a b=>hz.zero k (by omega) b⟩];rw[show j+15+1+16*q=j+16*(q+1) by omega,wG2,wG0];rfl
def zAz (z:List Int) (j:Nat):List Int:=z.take j++List.replicate (64-j) 0
def zSe {z:List Int} (hz:z.length=64) (hb: ∀ x∈z, -2047≤x∧x≤2047) {j:Nat} (hj:j≤64):Half (zAz z j) j:=by
 have hl:(z.take j).length=j:=by rw[wI8];omega
 refine⟨by unfold zAz;rw[wF3,hl,wF5];omega,fun x hx=> ?_,fun k h1 h2=> ?_⟩
 ·unfold zAz at hx;rcases wE6.1 hx with h | h
  ·exact hb x (wH0 h)
  ·have:=(wK2.1 h).2;omega
 ·unfold zAz;rw[wG8 (by omega),hl,wK9,if_pos (by omega)]
def zLX {z:List Int} (hz:z.length=64) {j k:Nat} (hk:k≤64) (h: ∀ i,j≤i→i<k→z[i]? =some 0) (hjk:j≤k):zAz z j=zAz z k:=by
 refine List.ext_getElem? fun i=> ?_
 unfold zAz;have l1:(z.take j).length=j:=by rw[wI8];omega
 have l2:(z.take k).length=k:=by rw[wI8];omega
 rcases wA3 i j with h1 | h1
 ·rw[wG7 (by omega),wG7 (by omega),wD0 h1,wD0 (by omega)]
 ·rw[wG8 (by omega),l1,wK9];rcases wA3 i k with h2 | h2
  ·rw[wG7 (by omega),wD0 h2,h i h1 h2,if_pos (by omega)]
  ·rw[wG8 (by omega),l2,wK9]
   by_cases h3:i<64
   ·rw[if_pos (by omega),if_pos (by omega)]
   ·rw[if_neg (by omega),if_neg (by omega)]
def zKz {z:List Int} (hz:z.length=64) {k:Nat} (hk:k<64):(zAz z k).set k (z[k]'(by omega))=zAz z (k+1):=by
 unfold zAz;have l1:(z.take k).length=k:=by rw[wI8];omega
 rw[wF8 _ _ (by omega),l1,wF9,show 64-k=(64-(k+1))+1 by omega,wG0,wG1,wC3 (by omega),wG2];rfl
def soFar_all {z:List Int} (hz:z.length=64):zAz z 64=z:=by unfold zAz;rw[wC4 (by omega)];simp
def zGl (next:σ→Tok×Int×σ) (z:List Int) (hz:z.length=64) (hb: ∀ x∈z, -2047≤x∧x≤2047): ∀ (l:List Int) (run j:Nat) (all:List Tok) (s s':σ),z.drop (j+run)=l→j+run≤64→(∀ i,j≤i→i<j+run→z[i]? =some 0) →
 zCi next (zAc run l) s s'→goB next j (zAz z j) all s=(0,z,all++zAc run l,s')
 | [],run,j,all,s,s',hd,hj,h0,h=>by
   have hjr:j+run=64:=by
    have:=congrArg List.length hd;rw[wK1] at this;simp at this;omega
   unfold zAc at h ⊢;have e:zAz z j=z:=by rw[zLX hz (wA5 64) (fun i a b=>h0 i a (by omega)) (by omega),soFar_all hz]
   by_cases hr:0<run
   ·rw[if_pos hr] at h ⊢;obtain⟨s1,hn,h⟩:=h;obtain rfl:s1=s':=h;rw[zMS (by omega) hn zNp rfl,e]
   ·rw[if_neg hr] at h ⊢;obtain rfl:s=s':=h;rw[zKZ (by omega),e];simp
 | n::l,run,j,all,s,s',hd,hj,h0,h=>by
   have hlt:j+run<64:=by
    have:=congrArg List.length hd;rw[wK1] at this;simp at this;omega
   rw[wG3 (by omega)] at hd;injection hd with hd1 hd2
   rw[zAc] at h ⊢
   by_cases hn:n=0
   ·rw[if_pos hn] at h ⊢;refine zGl next z hz hb l (run+1) j all s s' (by rw[←hd2];congr 1) (by omega) (fun i a b=> ?_) h
    by_cases hi:i=j+run
    ·subst hi;rw[wA2 (by omega),hd1,hn]
    ·exact h0 i a (by omega)
   ·rw[if_neg hn] at h ⊢;obtain⟨s1,ha,s2,hs2,hc⟩:=(zHw _ _ _ _).1 h;have hzn:=hb n (by rw[←hd1];exact wE2 _);obtain⟨k1,k2,k3,k4⟩:=zLc (run%16) n (by omega) hzn hn;rw[zNA next (run/16) j (zAz z j) all s s1 ha (by omega) (fun _=>by omega) (zSe hz hb (by omega))];rw[zFM (by omega) hs2 k1 k2 (by rw[k3];omega),k3,k4,show j+16*(run/16)+run%16=j+run by omega]
    have e:(zAz z j).set (j+run) n=zAz z (j+run+1):=by
     rw[zLX hz (k:=j+run) (by omega) h0 (by omega), ←hd1];exact zKz hz hlt
    rw[e,zGl next z hz hb l 0 (j+run+1) _ s2 s' hd2 (by omega) (fun i a b=>by omega) hc];simp
def zRG (next:Bool→σ→Tok×Int×σ) (before:Int) (hbf: -2047≤before∧before≤2047) (z:List Int) (hz:z.length=64) (hb: ∀ x∈z, -2047≤x∧x≤2047) (s s1 s':σ)
 (h1:next true s=(jH 0 (z.getD 0 0-before),0,s1)) (h2:zCi (next false) (zAc 0 (z.drop 1)) s1 s') :
 jV next before s=(0,qR z 64,yC before z,s'):=by
 have hz0: -2047≤z.getD 0 0∧z.getD 0 0≤2047:=by
  rw[wF4,wA2 (by omega)];exact hb _ (wE2 _)
 have hbk:=zLC (z.getD 0 0-before) (by omega)
 have ht:zBF before (jH 0 (z.getD 0 0-before))=true:=by
  rw[zLA];unfold jH;dsimp only;rw[hbk];dsimp only;omega
 rw[zQW h1 ht]
 have e:before+(yZ (jH 0 (z.getD 0 0-before)).2.1 (jH 0 (z.getD 0 0-before)).2.2).1=z.getD 0 0:=by
  unfold jH;dsimp only;rw[hbk];dsimp only;omega
 rw[e]
 have e2:(List.replicate 64 (0:Int)).set 0 (z.getD 0 0)=zAz z 1:=by
  have:=zKz hz (k:=0) (by omega);rw[←this];rw[wF4,wA2 (by omega)];rfl
 rw[e2,zGl (next false) z hz hb (z.drop 1) 0 1 _ s1 s' rfl (by omega) (fun i a b=>by omega) h2, ←List.singleton_append.symm];rw[zCl before z hz];exact zNu (zCl before z hz)
end
def zSh: ∀ m:Fin 64, ∃ k:Fin 64,(vK k.val).toNat=m.val:=by decide+kernel
def zfrom_zto (b:List Int) (hb:b.length=64):qR (zto b) 64=b:=by
 refine wH9 (by rw[uL,hb]) fun m h1 h2=> ?_
 rw[uL] at h1;obtain⟨k,hk⟩:=zSh ⟨m,h1⟩;have h:=zIM (zto b) 64 k.val (by omega) k.isLt;rw[hk] at h;dsimp only at h;rw[wF4,wA2 (by rw[uL];omega),Option.getD_some] at h;rw[h];unfold zto;simp[wF4,hk,h2]
def zMR {B:Nat}: ∀ (r:List Nat) (P:List (List Nat)) (M c:List Nat) (z:List (List Nat)×List Nat),xY r P M c=some z→(∀ p∈P,p.length≤B∧ ∀ b∈p,b<256)→c.length+r.length≤B→(∀ b∈c,b<256)→(∀ b∈r,b<256)→ ∀ p∈z.1,p.length≤B∧ ∀ b∈p,b<256
 | [],P,M,c,z,h,hP,hB,hc,hr=>by
   simp[xY] at h;subst h;intro p hp;rcases wE6.1 hp with hp | hp
   ·exact hP p hp
   ·simp at hp;subst hp;exact⟨by simpa using hB,hc⟩
 | [x],P,M,c,z,h,hP,hB,hc,hr=>by
   simp only[xY] at h;split at h
   ·cases h
   ·simp at h;subst h;intro p hp;rcases wE6.1 hp with hp | hp
    ·exact hP p hp
    ·simp at hp;subst hp;refine⟨by simpa using hB,fun b hb=> ?_⟩;rcases wE6.1 hb with hb | hb
     ·exact hc b hb
     ·simp at hb;subst hb;exact hr b (by simp)
 | x::y::r,P,M,c,z,h,hP,hB,hc,hr=>by
   simp only[xY] at h;simp only[wA8] at hB;split at h
   ·split at h
    ·cases h
    ·split at h
     ·refine zMR r P M (c++[255,0]) z h hP (by simp;omega) (fun b hb=> ?_) (fun b hb=>hr b (by simp[hb]));rcases wE6.1 hb with hb | hb
      ·exact hc b hb
      ·simp at hb;omega
     ·refine zMR r (P++[c]) (M++[y]) [] z h (fun p hp=> ?_) (by simp;omega) (by simp) (fun b hb=>hr b (by simp[hb]));rcases wE6.1 hp with hp | hp
      ·exact hP p hp
      ·simp at hp;subst hp;exact⟨by omega,hc⟩
   ·refine zMR (y::r) P M (c++[x]) z h hP (by simp;omega) (fun b hb=> ?_) (fun b hb=>hr b (wR9 _ hb));rcases wE6.1 hb with hb | hb
    ·exact hc b hb
    ·simp at hb;subst hb;exact hr b (by simp)
def vY:List Nat→Nat→Bool
 | [],_=>true
 | m::r,i=>decide (m=208+i%8)&&vY r (i+1)
def zSq {M:List Nat} {i:Nat} (h:i<M.length):vY (M.drop i) i=(decide (M[i]=208+i%8)&&vY (M.drop (i+1)) (i+1)):=by
 rw[wG3 h,vY]
def zRF {M:List Nat} {i:Nat} (h:M.length≤i):vY (M.drop i) i=true:=by
 rw[wM5 h,vY]
def zAe (n e i:Nat):Nat:=min (n-i*yE n e) (yE n e)
def zBg (n e:Nat) (P:List (List Nat)) (M:List Nat):Int:=if P.length≠yG n e then 4 else if vY M 0 then 0 else 6
def zBb (T1 T2:List Tok) (n e:Nat) (P:List (List Nat)):Nat→Nat→List Int→Int×List Int
 | 0,_,acc=>(0,acc)
 | m+1,i,acc=>if (uT true T1 T2 ((zAe n e i:Nat):Int) (plZ (P.getD i []))).1≠0 then ((uT true T1 T2 ((zAe n e i:Nat):Int) (plZ (P.getD i []))).1,[]) else zBb T1 T2 n e P m (i+1) (acc++(uT true T1 T2 ((zAe n e i:Nat):Int) (plZ (P.getD i []))).2)
def sdGo_err {T1 T2:List Tok} {n e:Nat} {P:List (List Nat)} {m i:Nat} {acc:List Int} {r:Int×List Int} (hr:uT true T1 T2 ((zAe n e i:Nat):Int) (plZ (P.getD i []))=r) (h:r.1≠0):zBb T1 T2 n e P (m+1) i acc=(r.1,[]):=by
 rw[zBb,hr,if_pos h]
def sdGo_ok {T1 T2:List Tok} {n e:Nat} {P:List (List Nat)} {m i:Nat} {acc:List Int} {r:Int×List Int} (hr:uT true T1 T2 ((zAe n e i:Nat):Int) (plZ (P.getD i []))=r) (h:r.1=0):zBb T1 T2 n e P (m+1) i acc=zBb T1 T2 n e P m (i+1) (acc++r.2):=by
 rw[zBb,hr,if_neg (by simp[h])]
def zOy {r:Bool} {T1 T2:List Tok} {N:Nat} {z:Option (List Nat)} (h:(uT r T1 T2 (N:Int) z).1=0):(uT r T1 T2 (N:Int) z).2.length=N*64:=by
 unfold uT at h ⊢;split at h
 ·cases h
 ·next hn =>
  rw[if_neg hn]
  cases z with
  | none=>cases h
  | some pb =>
    dsimp only at h ⊢;rw[wF0] at h ⊢;unfold zDa at h ⊢;split at h
    ·next h1=>exact absurd h h1
    ·next h1 =>
     rw[if_neg h1];split at h
     ·cases h
     ·next h2 =>
      rw[if_neg h2];have:=zOJ (next:=yU r T1 T2 (zM pb)) N 0 0 [] 0 rfl (by simpa using h1);simpa using this
def zBQ (T1 T2:List Tok) (n e:Nat) (bs:List Nat):Int×List Int :=
 match xY bs [] [] [] with
 | none=>(4,[])
 | some (P,M)=>if zBg n e P M≠0 then (zBg n e P M,[]) else zBb T1 T2 n e P (yG n e) 0 []
def mendAt (T1 T2:List Tok) (n e:Nat) (P:List (List Nat)) (i:Nat):Int×List Int:=if i<P.length then uT true T1 T2 ((zAe n e i:Nat):Int) (plZ (P.getD i [])) else (5,[])
def mendPart (T1 T2:List Tok) (n e:Nat) (P:List (List Nat)) (i:Nat):List Int:=if (mendAt T1 T2 n e P i).1=0 then (mendAt T1 T2 n e P i).2 else List.replicate (zAe n e i*64) 0
def mendL (T1 T2:List Tok) (n e:Nat) (P:List (List Nat)):Nat→List Int×List Int
 | 0=>([],[])
 | k+1=>((mendL T1 T2 n e P k).1++mendPart T1 T2 n e P k,if (mendAt T1 T2 n e P k).1=0 then (mendL T1 T2 n e P k).2 else (mendL T1 T2 n e P k).2++[(k:Int)])
def atK (n e i:Nat):Nat:=min (i*yE n e) n
def atK_0 (n e:Nat):atK n e 0=0:=by unfold atK;simp
def zPM {n e i:Nat} (h:i<yG n e):atK n e (i+1)=atK n e i+zAe n e i:=by
 have h1:=zIG h;unfold atK zAe;rw[wO9];omega
def cutK_end (n e:Nat):n≤yG n e*yE n e:=by
 by_cases h:e=0∨n=0
 ·rw[(zDB h).1,(zDB h).2];omega
 ·have h1:=zJh (i:=yG n e) h;have h2: ¬yG n e*e<n:=fun h3=>by have:=h1.2 h3;omega
  rw[(zFJ h).1];omega
def atK_end (n e:Nat):atK n e (yG n e)=n:=by have:=cutK_end n e;unfold atK;omega
def zPg {T1 T2:List Tok} {n e:Nat} {P:List (List Nat)}: ∀ (m i:Nat) (acc:List Int),i+m≤yG n e→acc.length=atK n e i*64→(zBb T1 T2 n e P m i acc).1=0→(zBb T1 T2 n e P m i acc).2.length=atK n e (i+m)*64
 | 0,i,acc,_,ha,_=>by rw[zBb];exact ha
 | m+1,i,acc,hi,ha,h=>by
   rw[zBb] at h ⊢
   by_cases h0:(uT true T1 T2 ((zAe n e i:Nat):Int) (plZ (P.getD i []))).1≠0
   ·rw[if_pos h0] at h;exact absurd h h0
   ·rw[if_neg h0] at h ⊢;have hl:=zOy (r:=true) (T1:=T1) (T2:=T2) (N:=zAe n e i) (z:=plZ (P.getD i [])) (by omega);have:=zPg m (i+1) _ (by omega) (by rw[wF3,ha,hl,zPM (by omega),wJ8]) h
    rwa [show i+(m+1)=i+1+m by omega]
def zDA (T1 T2:List Tok) (x:Tok×Bool):List Bool:=zBs (if x.2 then T1 else T2) x.1.1++qF x.1.2.2.toNat x.1.2.1.toNat
def zKi (T1 T2:List Tok): ∀ (l:List (Tok×Bool)) (L:List Bool),(xV (xK T1 T2) l L).1=0 →
 (∀ x∈l,(qV (if x.2 then T1 else T2) x.1.1).isSome=true)∧(xV (xK T1 T2) l L).2=L++l.flatMap (zDA T1 T2)
 | [],L,_=>by simp[xV]
 | (t,b)::r,L,h=>by
   by_cases h0:(xK T1 T2 L t b).1=0
   ·rw[zAv h0] at h ⊢;obtain⟨h1,h2⟩:=zKi T1 T2 r _ h
    cases hf:qV (if b then T1 else T2) t.1 with
    | none=>unfold xK at h0;rw[hf] at h0;cases h0
    | some u =>
      have e:(xK T1 T2 L t b).2=L++zDA T1 T2 (t,b):=by unfold xK zDA;rw[hf];simp
      refine⟨fun x hx=> ?_, ?_⟩
      ·rcases wK0.1 hx with rfl | hx
       ·dsimp only;rw[hf];rfl
       ·exact h1 x hx
      ·rw[h2,e,wJ6,wG2]
   ·rw[zEM h0] at h;exact absurd h h0
def zOC: ∀ (l:List Tok) (k:Nat),0<k→(l.zipIdx k).map (fun p=>(p.1,p.2 ==0))=l.map fun t=>(t,false)
 | [],_,_=>rfl
 | t::l,k,h=>by
   rw[wD2,wC8,wC8,zOC l (k+1) (by omega)];simp;omega
def zLS (t:Tok) (l:List Tok):vV (t::l)=(t,true)::l.map fun u=>(u,false):=by
 unfold vV;rw[wD2,wC8,zOC l 1 (by omega)];rfl
def zKm: ∀ (l:List Int) (run:Nat),(∀ x∈l, -2047≤x∧x≤2047)→ ∀ t∈zAc run l,zBY t=true
 | [],run,_,t,ht=>by
   unfold zAc at ht;split at ht
   ·simp at ht;subst ht;exact zNp
   ·simp at ht
 | n::l,run,h,t,ht=>by
   rw[zAc] at ht
   by_cases hn:n=0
   ·rw[if_pos hn] at ht;exact zKm l _ (fun x hx=>h x (by simp[hx])) t ht
   ·rw[if_neg hn] at ht;rcases wE6.1 ht with h1 | h1
    ·obtain⟨-,rfl⟩:=wK2.1 h1;exact zLP
    ·rcases wK0.1 h1 with rfl | h1
     ·exact (zLc _ n (by omega) (h n (by simp)) hn).1
     ·exact zKm l 0 (fun x hx=>h x (by simp[hx])) t h1
def zJN {cs1 xs1 cs2 xs2:List Int} (l1:cs1.length=16) (l2:cs2.length=16) (z1:zT cs1 xs1=0) (z2:zT cs2 xs2=0) {D R:List Bool} {p:Nat} {t:Tok} {b:Bool} (hp:p≤D.length) (hf:(qV (if b then zL (zD cs1 16) xs1 else zL (zD cs2 16) xs2) t.1).isSome=true) (ht:zBW t)
 (hw:(if b then t.1 else t.1%16)=t.2.1) (h11:b=false→t.2.1≤11) (hD:D.drop p=zDA (zL (zD cs1 16) xs1) (zL (zD cs2 16) xs2) (t,b)++R) :
 ∃ p',yU true (zL (zD cs1 16) xs1) (zL (zD cs2 16) xs2) D b p=(t,0,p')∧D.drop p'=R∧p'≤D.length:=by
 obtain⟨u,hu⟩:=wB1.1 hf
 have key: ∃ long code:Nat,u=(t.1,(long:Int),(code:Int))∧code<2 ^ long∧ ∀ R',D.drop p=qF code long++R'→uG (if b then zL (zD cs1 16) xs1 else zL (zD cs2 16) xs2) D p=(t.1,p+long,0):=by
  cases b with
  | true =>
    obtain⟨long,code,e, -, -,hc⟩:=zFH cs1 xs1 l1 z1 t.1 u hu;subst e;exact⟨long,code,rfl,hc,fun R' hR=>zOI cs1 xs1 l1 z1 t.1 long code D R' p hu hc hp hR⟩
  | false =>
    obtain⟨long,code,e, -, -,hc⟩:=zFH cs2 xs2 l2 z2 t.1 u hu;subst e;exact⟨long,code,rfl,hc,fun R' hR=>zOI cs2 xs2 l2 z2 t.1 long code D R' p hu hc hp hR⟩
 obtain⟨long,code,rfl,hc,hs⟩:=key;have hb:=zEu hu;unfold zDA at hD;dsimp only at hD;rw[hb,wG2] at hD;have hs:=hs _ hD;obtain⟨w1,w2,w3,w4,w5,w6⟩:=ht
 have hlen:long+(t.2.1.toNat+R.length)=D.length-p:=by
  have:=congrArg List.length hD;rw[wK1,wF3,wF3,qB,qB] at this;omega
 have hd2:D.drop (p+long)=qF t.2.2.toNat t.2.1.toNat++R:=by
  rw[←wM4,hD,List.drop_left' (qB _ _)]
 refine⟨p+long+t.2.1.toNat, ?_, ?_,by omega⟩
 ·rw[zFR hs hw (by intro h;exact h.elim (fun h=>by omega) (fun h=>by have:=h11 h.1;omega)) (by omega)];have h9:((t.2.2.toNat:Nat):Int)<((2 ^ t.2.1.toNat:Nat):Int):=by push_cast;omega
  have h10:t.2.2.toNat<2 ^ t.2.1.toNat:=by exact_mod_cast h9
  rw[hd2,List.take_left' (qB _ _),zBm h10];rw[wS0 w5]
 ·rw[←wM4,hd2,List.drop_left' (qB _ _)]
def zKK {cs1 xs1 cs2 xs2:List Int} (l1:cs1.length=16) (l2:cs2.length=16) (z1:zT cs1 xs1=0) (z2:zT cs2 xs2=0) {D:List Bool}: ∀ (l:List Tok) (p:Nat) (R:List Bool),p≤D.length→(∀ t∈l,(qV (zL (zD cs2 16) xs2) t.1).isSome=true∧zBW t∧zBY t=true) →
 D.drop p=(l.map fun t=>(t,false)).flatMap (zDA (zL (zD cs1 16) xs1) (zL (zD cs2 16) xs2))++R→ ∃ p',zCi (yU true (zL (zD cs1 16) xs1) (zL (zD cs2 16) xs2) D false) l p p'∧D.drop p'=R∧p'≤D.length
 | [],p,R,hp,_,hD=>⟨p,rfl,by simpa using hD,hp⟩
 | t::l,p,R,hp,h,hD=>by
   rw[wC8,wJ6,wG2] at hD;obtain⟨h1,h2,h3⟩:=h t (by simp);have h3:=zJG.1 h3;obtain⟨p1,e,hd,hp1⟩:=zJN l1 l2 z1 z2 (b:=false) hp h1 h2 h3.2.1.symm (fun _=>h3.2.2.1) hD;obtain⟨p',hs,hd',hp'⟩:=zKK l1 l2 z1 z2 l p1 R hp1 (fun u hu=>h u (by simp[hu])) hd;exact⟨p',⟨p1,e,hs⟩,hd',hp'⟩
def befAt_rng {Z:List Int} (hb: ∀ x∈Z, -2047≤x∧x≤2047) (k:Nat): -2047≤jW Z k∧jW Z k≤2047:=by
 unfold jW;split
 ·omega
 ·rw[wF4]
  cases h:(yM Z (k-1))[0]? with
  | none=>simp
  | some x=>exact hb x (zIe (wK5 h))
def zLg {cs1 xs1 cs2 xs2:List Int} (l1:cs1.length=16) (l2:cs2.length=16) (z1:zT cs1 xs1=0) (z2:zT cs2 xs2=0) {Z:List Int} {n:Nat} (hZ:Z.length=n*64) (hb: ∀ x∈Z, -2047≤x∧x≤2047) {D:List Bool}: ∀ (m k p:Nat) (acc:List Int) (R:List Bool),k+m=n→p≤D.length →
 (∀ x∈yW Z n k,(qV (if x.2 then zL (zD cs1 16) xs1 else zL (zD cs2 16) xs2) x.1.1).isSome=true)→D.drop p=(yW Z n k).flatMap (zDA (zL (zD cs1 16) xs1) (zL (zD cs2 16) xs2))++R →
 ∃ p',zAa (yU true (zL (zD cs1 16) xs1) (zL (zD cs2 16) xs2) D) m (jW Z k) p acc=(0,acc++Z.drop (k*64),p')∧D.drop p'=R∧p'≤D.length
 | 0,k,p,acc,R,hk,hp,hf,hD=>by
   obtain rfl:k=n:=by omega
   rw[zGF] at hD;refine⟨p, ?_,by simpa using hD,hp⟩;rw[zAa,wM5 (by omega),wG6]
 | m+1,k,p,acc,R,hk,hp,hf,hD=>by
   rw[zDL Z n k (by omega)] at hf hD;have hbl:=zEH Z n k hZ (by omega)
   have hzb: ∀ x∈zto (yM Z k), -2047≤x∧x≤2047:=by
    intro x hx;unfold zto at hx;obtain⟨i,hi,rfl⟩:=wD6.1 hx;rw[wF4]
    cases h:(yM Z k)[(vK i).toNat]? with
    | none=>simp
    | some x=>exact hb x (zIe (wK5 h))
   have hbf:=befAt_rng hb k;have e:=zCl (jW Z k) (zto (yM Z k)) (jK _);have hwf:=zEg (jW Z k) (zto (yM Z k)) (jK _);rw[e] at hwf
   have hft:vV (uU Z k)=(jH 0 ((zto (yM Z k)).getD 0 0-jW Z k),true)::(zAc 0 ((zto (yM Z k)).drop 1)).map fun u=>(u,false):=by
    unfold uU;rw[e,zLS]
   rw[hft] at hf hD;rw[wJ4,wJ6,wG2,wG2] at hD;obtain⟨p1,e1,d1,q1⟩:=zJN l1 l2 z1 z2 (b:=true) hp (hf _ (wS1 _ wR6)) (hwf _ wR6) (by unfold jH;simp) (fun h=>by cases h) hD
   obtain⟨p2,s2,d2,q2⟩:=zKK l1 l2 z1 z2 (zAc 0 ((zto (yM Z k)).drop 1)) p1 _ q1 (fun t ht=>⟨by
    have:=hf (t,false) (wS1 _ (wR9 _ (wD6.2 ⟨t,ht,rfl⟩)))
    simpa using this,hwf t (wR9 _ ht),zKm _ 0 (fun x hx=>hzb x (wG9 hx)) t ht⟩) d1
   have hblk:=zRG (yU true (zL (zD cs1 16) xs1) (zL (zD cs2 16) xs2) D) (jW Z k) hbf (zto (yM Z k)) (jK _) hzb p p1 p2 e1 s2;rw[zfrom_zto _ hbl] at hblk;have hne:(yM Z k).getD 0 0=jW Z (k+1):=by unfold jW;rw[if_neg (by omega),wJ1]
   obtain⟨p',e',d',q'⟩:=zLg l1 l2 z1 z2 hZ hb m (k+1) p2 (acc++yM Z k) R (by omega) q2 (fun x hx=>hf x (wM8 _ hx)) d2;refine⟨p', ?_,d',q'⟩;rw[zKW (by rw[hblk]),hblk];dsimp only;rw[hne,e',wG2]
   have e3:Z.drop (k*64)=yM Z k++Z.drop ((k+1)*64):=by
    unfold yM;rw[show (k+1)*64=k*64+64 by omega, ←wM4,wL9]
   rw[e3]
def decR_back {cs1 xs1 cs2 xs2:List Int} (l1:cs1.length=16) (l2:cs2.length=16) (z1:zT cs1 xs1=0) (z2:zT cs2 xs2=0) {Z:List Int} {n:Nat} (hZ:Z.length=n*64) (h:(xZ (xK (zL (zD cs1 16) xs1) (zL (zD cs2 16) xs2)) n Z []).1=0) :
 uT true (zL (zD cs1 16) xs1) (zL (zD cs2 16) xs2) (n:Int) (some (jJ (zAM (xZ (xK (zL (zD cs1 16) xs1) (zL (zD cs2 16) xs2)) n Z []).2)))=(0,Z):=by
 have h400:n≤400:=by
  refine Nat.le_of_not_lt fun h1=> ?_
  unfold xZ at h;rw[if_pos h1] at h;cases h
 cases hin:zR Z (-2047) 2047 with
 | false=>unfold xZ at h;rw[if_neg (by omega),if_pos hin] at h;cases h
 | true =>
   have e:xZ (xK (zL (zD cs1 16) xs1) (zL (zD cs2 16) xs2)) n Z []=xV (xK (zL (zD cs1 16) xs1) (zL (zD cs2 16) xs2)) (yW Z n 0) []:=by
    unfold xZ;rw[if_neg (by omega),if_neg (by rw[hin];simp)]
   rw[e] at h ⊢;obtain⟨hf,hL⟩:=zKi _ _ _ _ h;rw[wL5] at hL;rw[hL];generalize hLL:(yW Z n 0).flatMap (zDA (zL (zD cs1 16) xs1) (zL (zD cs2 16) xs2))=L at *;have hD:zM (jJ (zAM L))=zAM L:=zQQ _ (padB_len L);obtain⟨p',e',d',q'⟩:=zLg l1 l2 z1 z2 hZ (yD.1 hin) (D:=zAM L) n 0 0 [] (List.replicate ((8-L.length%8)%8) true) (by omega) (by omega) hf (by rw[hLL];rfl);have hbf:jW Z 0=0:=rfl;rw[hbf] at e';unfold uT;rw[if_neg (by omega)];dsimp only;rw[hD,wF0,e'];unfold zDa;dsimp only;rw[if_neg (by simp),d',if_neg]
   ·simp
   ·rintro (h1 | h1)
    ·have:=congrArg List.length d';rw[wK1,wF5] at this;omega
    ·have:=(wK2.1 h1).2;cases this
end Go.Proofs.YtkggcjdlpendfaaGreatDoor
