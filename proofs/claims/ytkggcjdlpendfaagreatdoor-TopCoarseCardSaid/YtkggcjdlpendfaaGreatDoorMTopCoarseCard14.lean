/- Contracts of the functions that the law reaches, part 14. -/
import Derived.Laws.BitsAllLaws
import Derived.Deep.Slices
import Derived.OwnWalk
import Derived.Laws.CopyOwn
import Derived.WalkSmall
import Derived.Test.YtkggcjdlpendfaaGreatDoorMTopCoarseCard13
namespace Go.Proofs.YtkggcjdlpendfaaGreatDoor
set_option linter.unusedVariables false
set_option linter.unusedSimpArgs false
set_option maxRecDepth 20000
set_option maxHeartbeats 8000000
open Go.RowKit
theorem zOf (n:Nat): ∀ (k j:Nat) (h:j<(xU n k).length),((xU n k)[j]).toNat=n/2 ^ (k-1-j)%2
 | 0,j,h=>by simp[xU] at h
 | k+1,0,_=>by
   simp only[xU,List.getElem_cons_zero,wI6,Nat.sub_zero]
   rcases (show n/2 ^ k%2=0∨n/2 ^ k%2=1 by omega) with h | h<;>simp[h]
 | k+1,j+1,h=>by
   have:=zOf n k j (by simpa [xU] using h)
   simp only[xU,List.getElem_cons_succ]
   rw[this]
   congr 3
   omega
theorem zPs (b:List Nat) (p:Nat) (h:p<(zK b).length) (h2:p/8<b.length):((zK b)[p]).toNat=b[p/8]/2 ^ (7-p%8)%2:=by
 have e:=digsOf_at b (p/8) h2
 have hl:p%8<(xU b[p/8] 8).length:=by rw[qB];omega
 have e2:(zK b)[p]=(xU b[p/8] 8)[p%8]:=by
  have h3:(((zK b).drop (8*(p/8))).take 8)[p%8]? =(zK b)[p]? :=by
   rw[wD0 (by omega),wB4]
   congr 1
   omega
  rw[e,wA2 hl,wA2 h] at h3
  exact (Option.some.inj h3).symm
 rw[e2,zOf]
theorem numB_next (b:List Nat) (at' i:Nat) (h:at'+i<(zK b).length) (h2:(at'+i)/8<b.length) :
 yA (((zK b).drop at').take (i+1))=2*yA (((zK b).drop at').take i)+b[(at'+i)/8]/2 ^ (7-(at'+i)%8)%2:=by
 rw[zFL _ _ (by simp;omega)]
 congr 1
 rw[←zPs b (at'+i) h h2]
 congr 1
 simp
theorem zCl (l:List Bool) (i k:Nat) (h:i≤k):yA (l.take i)<2 ^ k:=numB_le _ _ (by rw[wI4];omega)
section
variable {o:Oper} {a:Act} {P:Program}
theorem zHe {x:Operand} (ho:o.op=.nilCheck x) {p:Addr} (hx:a.eval x=.pointer (some p)) (w:World):(execOp a.eval o).run P w=.ok (.value (.pointer (some p))) w:=by
 simp[execOp,ho,hx]
theorem zBe {op:BinOp} {t:TypeId} {x y:Operand} {t2:TypeId} (ho:o.op=.binOp op t x y t2) {k k':IntKind} {m n:Int} (hx:a.eval x=.int k m) (hy:a.eval y=.int k' n) {v:Value}
 (hr: ∀ w,(binOp op t (.int k m) (.int k' n)).run P w=.ok v w) (w:World):(execOp a.eval o).run P w=.ok (.value v) w:=by
 simp[execOp,ho,hx,hy,guardG,hr]
end
theorem zIV (m:Nat) (h:m<1099511627776) (W:World):(binOp .shl 3 (.int .i64 (m:Int)) (.int .u64 1)).run Tryz.prog W=.ok (.int .i64 ((2*m:Nat):Int)) W:=by
 have e:IntKind.i64.wrap ((m:Int)*2 ^ (min 1 IntKind.i64.bits))=((2*m:Nat):Int):=by
  rw[show min 1 IntKind.i64.bits=1 by decide,IntWalk.i64_in _ (by omega)];omega
 have e3:(2*(m:Int))=((2*m:Nat):Int):=by omega
 simp[binOp,Op.shift,e]
theorem run_shr8 (x s:Nat) (hx:x<256) (hs:s<8) (W:World):(binOp .shr 5 (.int .u8 (x:Int)) (.int .i64 (s:Int))).run Tryz.prog W=.ok (.int .u8 ((x/2 ^ s:Nat):Int)) W:=by
 have e2: ¬((s:Int)<0):=by omega
 have hs':s=0∨s=1∨s=2∨s=3∨s=4∨s=5∨s=6∨s=7:=by omega
 rcases hs' with rfl | rfl | rfl | rfl | rfl | rfl | rfl | rfl<;>simp[binOp,Op.shift]
theorem run_and8 (y:Nat) (h:y<256) (W:World):(binOp .and 5 (.int .u8 (y:Int)) (.int .u8 1)).run Tryz.prog W=.ok (.int .u8 ((y%2:Nat):Int)) W:=by
 have e:bits .and .u8 (y:Int) 1=((y%2:Nat):Int):=by
  have: ∀ y:Fin 256,bits .and .u8 ((y.val:Nat):Int) 1=((y.val%2:Nat):Int):=by decide+kernel
  exact this ⟨y,h⟩
 simp[binOp,intBits_and,e]
theorem run_or2 (m b:Nat) (h:m<1099511627776) (hb:b<2) (W:World):(binOp .or 3 (.int .i64 ((2*m:Nat):Int)) (.int .i64 (b:Int))).run Tryz.prog W=.ok (.int .i64 ((2*m+b:Nat):Int)) W:=by
 have e:bits .or .i64 ((2*m:Nat):Int) (b:Int)=((2*m+b:Nat):Int):=by
  have hx:2*m |||b=2*m+b:=nat_join1 _ _ (by omega) hb
  show IntKind.i64.wrap ((BitVec.ofInt 64 ((2*m:Nat):Int) |||BitVec.ofInt 64 (b:Int)).toNat:Int)=_
  rw[BitVec.toNat_or,BitVec.ofInt_natCast,BitVec.ofInt_natCast,BitVec.toNat_ofNat,BitVec.toNat_ofNat,wK9 (by omega),wK9 (by omega),hx]
  exact IntWalk.i64_in _ (by omega)
 have e2:binOp .or 3 (.int .i64 ((2*m:Nat):Int)) (.int .i64 (b:Int))=pure (.int .i64 (bits .or .i64 ((2*m:Nat):Int) (b:Int))):=by rw[binOp_or,intBits_or]
 rw[e2,e]
 rfl
theorem zIF:(Tryz.prog.info? 5).map (·.size)=some 1:=by kernel_rfl
def RdS (w:World) (gr:Nat) (A:Option Addr) (n c p:Nat) (bs:List Nat):Prop :=
 Blk w gr 246 #[.slice A n c,.int .i64 (p:Int)]∧SL w 1 (.slice A n c) n (zD bs)∧bs.length=n∧(0<n→ ∀ ad,A=some ad→ad.block<gr)∧(∀ b∈bs,b<256)∧n≤100000000000∧p≤8*n
theorem RdS.cells {w:World} {gr:Nat} {A:Option Addr} {n c p:Nat} {bs:List Nat} (h:RdS w gr A n c p bs):w.cell? ⟨gr,0,none⟩=some (.slice A n c)∧w.cell? ⟨gr,1,none⟩=some (.int .i64 (p:Int)):=by
 have h0:=h.1.cell 0
 have h1:=h.1.cell 1
 exact⟨h0,h1⟩
theorem RdS.ext {w w':World} {gr:Nat} {A:Option Addr} {n c p:Nat} {bs:List Nat} (h:RdS w gr A n c p bs) (hx:Ext w w'):RdS w' gr A n c p bs :=
 ⟨h.1.ext hx,h.2.1.ext hx,h.2.2⟩
theorem RdS.upd {S:Nat→Prop} {w w':World} {gr:Nat} {A:Option Addr} {n c p:Nat} {bs:List Nat} (h:RdS w gr A n c p bs) (hu:Upd S w w') (hS: ∀ x,S x→gr<x):RdS w' gr A n c p bs :=
 ⟨hu.blk h.1 (fun e=>by have:=hS _ e;omega),h.2.1.upd0 hu (fun h0 ad e e2=>by have:=hS _ e2;have:=h.2.2.2.1 h0 ad e;omega),h.2.2⟩
theorem RdS.drew {w:World} {gr:Nat} {A:Option Addr} {n c p:Nat} {bs:List Nat} (h:RdS w gr A n c p bs):RdS w.drew gr A n c p bs:=h
theorem zJJ (gr:Nat) (A:Option Addr) (n c p:Nat) (bs:List Nat) (w:World) (h:RdS w gr A n c p bs) :
 Calls Tryz.prog 163 #[.pointer (some ⟨gr,0,none⟩)] w fun e w'=>e=.returned (.int .i64 ((8*n-p:Nat):Int))∧Ext w w':=by
 have hn:n≤100000000000:=h.2.2.2.2.2.1
 have hp:p≤8*n:=h.2.2.2.2.2.2
 have HC0: ∀ W,Ext w.drew W→W.cell? ⟨gr,0,none⟩=some (.slice A n c):=fun W hx=>(h.drew.ext hx).cells.1
 have HC1: ∀ W,Ext w.drew W→W.cell? ⟨gr,1,none⟩=some (.int .i64 (p:Int)):=fun W hx=>(h.drew.ext hx).cells.2
 go_enter Tryz.func163,Tryz.ntmps163
 go_wp2_with fail
 refine xW xX (by kernel_rfl) (by kernel_rfl) ?_
 refine zE (by rfl) (.pointer (some ⟨gr,0,none⟩)) (zC rfl rfl) ?_
 simp only[Act.put,sA,sB,sC]
 refine zE (by rfl) (.pointer (some ⟨gr,0,none⟩)) (zHe rfl rfl) ?_
 simp only[Act.put,sA,sB,sC]
 refine zE (by rfl) (.pointer (some ⟨gr,0,none⟩)) (fun W=>by go_simp) ?_
 simp only[Act.put,sA,sB,sC]
 refine yV (by rfl) (.slice A n c) (fun W hW=>zCM rfl rfl (HC0 W hW)) ?_
 simp only[Act.put,sA,sB,sC]
 refine zE (by rfl) (.int .i64 ((n:Nat):Int)) (fun W=>by go_simp) ?_
 simp only[Act.put,sA,sB,sC]
 refine zE (by rfl) (.int .i64 ((8*n:Nat):Int)) (zBd (i:=8) (d:=n) rfl rfl rfl (by omega)) ?_
 simp only[Act.put,sA,sB,sC]
 refine zE (by rfl) (.pointer (some ⟨gr,0,none⟩)) (zC rfl rfl) ?_
 simp only[Act.put,sA,sB,sC]
 refine zE (by rfl) (.pointer (some ⟨gr,0,none⟩)) (zHe rfl rfl) ?_
 simp only[Act.put,sA,sB,sC]
 refine zE (by rfl) (.pointer (some ⟨gr,1,none⟩)) (fun W=>by go_simp) ?_
 simp only[Act.put,sA,sB,sC]
 refine yV (by rfl) (.int .i64 ((p:Nat):Int)) (fun W hW=>zQ rfl rfl (HC1 W hW)) ?_
 simp only[Act.put,sA,sB,sC]
 refine zE (by rfl) (.int .i64 (((8*n)-p:Nat):Int)) (xA (i:=8*n) (d:=p) rfl rfl rfl (by omega) (by omega)) ?_
 simp only[Act.put,sA,sB,sC]
 refine zE (by rfl) (.int .i64 (((8*n)-p:Nat):Int)) (zW rfl rfl) ?_
 simp only[Act.put,sA,sB,sC]
 refine jA ?_
 intro w9 hx9
 go_wp2_with fail
 go_ret
 exact⟨rfl,(Ext.refl w).drew.trans hx9⟩
theorem zFo {bs:List Nat} {k:Nat} {u:Value} (h:(zD bs)[k]? =some u): ∃ hk:k<bs.length,u=.int .u8 ((bs[k]:Nat):Int):=by
 unfold zD at h
 rw[wC0] at h
 obtain⟨z,hz,rfl⟩:=wC1.1 h
 obtain⟨hk,rfl⟩:=wC2.1 hz
 exact⟨hk,rfl⟩
theorem get_no (gr:Nat) (A:Option Addr) (n c p:Nat) (bs:List Nat) (yU:Nat) (w:World) (h:RdS w gr A n c p bs) (hw:8*n<p+yU) (hw2:yU≤1000) :
 Calls Tryz.prog 164 #[.pointer (some ⟨gr,0,none⟩),.int .i64 (yU:Int)] w fun e w'=>e=.returned (.tuple #[.int .i64 0,.bool false])∧Ext w w':=by
 have hn:n≤100000000000:=h.2.2.2.2.2.1
 have hp:p≤8*n:=h.2.2.2.2.2.2
 have HL:=zA (fun W h=>zJJ gr A n c p bs W h)
 generalize hl:8*n-p=l at *
 have hlw:l<yU:=by omega
 go_enter Tryz.func164,Tryz.ntmps164
 go_wp2_with (go_at_call 163;(with_reducible refine (HL.out _ h).mono ?_);rintro e w2 ⟨rfl,hx2⟩)
 go_ret2
 exact⟨rfl,hx2⟩
theorem zHm (gr:Nat) (A:Option Addr) (n c p:Nat) (bs:List Nat) (yU:Nat) (w:World) (h:RdS w gr A n c p bs) (hw:p+yU≤8*n) (hw2:yU≤24) :
 Calls Tryz.prog 164 #[.pointer (some ⟨gr,0,none⟩),.int .i64 (yU:Int)] w fun e w' =>
  e=.returned (.tuple #[.int .i64 ((yA (((zK bs).drop p).take yU):Nat):Int),.bool true])∧RdS w' gr A n c (p+yU) bs∧Upd (fun x=>x=gr) w w':=by
 have hn:n≤100000000000:=h.2.2.2.2.2.1
 have hp:p≤8*n:=h.2.2.2.2.2.2
 have hbl:=h.2.2.1
 have HB:=zA h.2.2.2.2.1
 have hne:=h.2.2.2.1
 have HD:=zA (zDp bs)
 have HL:=zA (fun W h=>zJJ gr A n c p bs W h)
 have HNX:=zA (fun i h1 h2=>numB_next bs p i h1 h2)
 have HLT:=zA (fun i (h1:i≤24)=>zCl ((zK bs).drop p) i 24 h1)
 generalize hl:8*n-p=l at *
 have hlw: ¬l<yU:=by omega
 go_enter Tryz.func164,Tryz.ntmps164
 go_wp2_with (go_at_call 163;(with_reducible refine (HL.out _ h).mono ?_);rintro e w2 ⟨rfl,hx2⟩)
 have h2:=h.ext hx2
 go_loopw [6,12] (fun v i wr=> ∃ k:Nat,k≤yU∧i=.int .i64 (k:Int)∧v=.int .i64 ((yA (((zK bs).drop p).take k):Nat):Int)∧RdS wr gr A n c (p+k) bs∧Upd (fun x=>x=gr) w wr) (fun _ i _=>yU-(intOf i).toNat)
 case atStart=>exact⟨0,by omega,rfl,by simp[yA],h2,Upd.of_ext hx2⟩
 case round =>
  obtain⟨k,hk,rfl,rfl,hr,hu⟩:=hrel
  by_cases hlt:k<yU
  ·obtain⟨q,hq⟩: ∃ q,q=p+k:=⟨_,rfl⟩
   rw[←hq] at hr
   have hq8:q/8<n:=by omega
   have hqm:q%8<8:=by omega
   obtain⟨ad,u,rfl,hab,hxk,hcell⟩:=hr.2.1.at1 hq8
   obtain⟨hkl,rfl⟩:=zFo hxk
   have HN2:=zA (HNX.out k (by have:=HD.out;omega) (by rw[←hq];exact hkl))
   have hx:bs[q/8]<256:=HB.out _ (wE1 hkl)
   have hm0:=HLT.out k (by omega)
   have HEQ:Hid (bs[(p+k)/8]'(by rw[←hq];exact hkl)=bs[q/8]):=zA (by congr 2;omega)
   rw[HEQ.out, ←hq] at HN2
   clear HEQ
   generalize bs[q/8]=x at *
   obtain⟨s,hs⟩: ∃ s,s=7-q%8:=⟨_,rfl⟩
   have HS:Hid (7-q%8=s):=zA hs.symm
   have s8:s<8:=by omega
   rw[HS.out] at HN2
   have hy:x/2 ^ s<256:=by have:=Nat.div_le_self x (2 ^ s);omega
   have hb:x/2 ^ s%2<256:=by omega
   have hb2:x/2 ^ s%2<2:=by omega
   generalize hmm:yA (((zK bs).drop p).take k)=m at *
   have hm:m<1099511627776:=by omega
   clear hmm hxk hs
   have HC0: ∀ W,Ext wr.drew W→W.cell? ⟨gr,0,none⟩=some (.slice (some ad) n c):=fun W hx=>(hr.drew.ext hx).cells.1
   have HC1: ∀ W,Ext wr.drew W→W.cell? ⟨gr,1,none⟩=some (.int .i64 (q:Int)):=fun W hx=>(hr.drew.ext hx).cells.2
   have HCX: ∀ W,Ext wr.drew W→W.cell? (ad.add (q/8*1))=some (.int .u8 ((x:Nat):Int)):=fun W hxx=>by
    rw[wE9]
    exact (hxx.cell (by rw[yH];exact hab)).trans hcell
   clear hcell
   go_wp2_with fail
   refine xW xX (by kernel_rfl) (by kernel_rfl) ?_
   refine zE (by rfl) (.int .i64 ((m:Nat):Int)) (zC rfl rfl) ?_
   simp only[Act.put,sA,sB,sC]
   refine zE (by rfl) (.int .i64 ((2*m:Nat):Int)) (zBe (k:=.i64) (m:=(m:Int)) (k':=.u64) (n:=1) rfl rfl rfl (zIV m hm)) ?_
   simp only[Act.put,sA,sB,sC]
   refine zE (by rfl) (.pointer (some ⟨gr,0,none⟩)) (zC rfl rfl) ?_
   simp only[Act.put,sA,sB,sC]
   refine zE (by rfl) (.pointer (some ⟨gr,0,none⟩)) (zHe rfl rfl) ?_
   simp only[Act.put,sA,sB,sC]
   refine zE (by rfl) (.pointer (some ⟨gr,0,none⟩)) (fun W=>by go_simp) ?_
   simp only[Act.put,sA,sB,sC]
   refine yV (by rfl) (.slice (some ad) n c) (fun W hW=>zCM rfl rfl (HC0 W hW)) ?_
   simp only[Act.put,sA,sB,sC]
   refine zE (by rfl) (.pointer (some ⟨gr,0,none⟩)) (zC rfl rfl) ?_
   simp only[Act.put,sA,sB,sC]
   refine zE (by rfl) (.pointer (some ⟨gr,0,none⟩)) (zHe rfl rfl) ?_
   simp only[Act.put,sA,sB,sC]
   refine zE (by rfl) (.pointer (some ⟨gr,1,none⟩)) (fun W=>by go_simp) ?_
   simp only[Act.put,sA,sB,sC]
   refine yV (by rfl) (.int .i64 ((q:Nat):Int)) (fun W hW=>zQ rfl rfl (HC1 W hW)) ?_
   simp only[Act.put,sA,sB,sC]
   refine zE (by rfl) (.int .i64 ((q/8:Nat):Int)) (zHl (i:=q) (d:=8) rfl rfl rfl (by omega) (by omega)) ?_
   simp only[Act.put,sA,sB,sC]
   refine zE (by rfl) (.pointer (some (ad.add ((q/8)*1)))) (jG Tryz.underlying45 zIF rfl rfl rfl hq8) ?_
   simp only[Act.put,sA,sB,sC]
   refine yV (by rfl) (.int .u8 ((x:Nat):Int)) (fun W hW=>zJB rfl rfl (HCX W hW)) ?_
   simp only[Act.put,sA,sB,sC]
   refine zE (by rfl) (.pointer (some ⟨gr,0,none⟩)) (zC rfl rfl) ?_
   simp only[Act.put,sA,sB,sC]
   refine zE (by rfl) (.pointer (some ⟨gr,0,none⟩)) (zHe rfl rfl) ?_
   simp only[Act.put,sA,sB,sC]
   refine zE (by rfl) (.pointer (some ⟨gr,1,none⟩)) (fun W=>by go_simp) ?_
   simp only[Act.put,sA,sB,sC]
   refine yV (by rfl) (.int .i64 ((q:Nat):Int)) (fun W hW=>zQ rfl rfl (HC1 W hW)) ?_
   simp only[Act.put,sA,sB,sC]
   refine zE (by rfl) (.int .i64 ((q%8:Nat):Int)) (zKf (i:=q) (d:=8) rfl rfl rfl (by omega) (by omega)) ?_
   simp only[Act.put,sA,sB,sC]
   refine zE (by rfl) (.int .i64 ((s:Nat):Int)) (by rw[←HS.out];exact xA (i:=7) (d:=q%8) rfl rfl rfl (by omega) (by omega)) ?_
   simp only[Act.put,sA,sB,sC]
   refine zE (by rfl) (.int .u8 ((x/2 ^ s:Nat):Int)) (zBe (k:=.u8) (m:=(x:Int)) (k':=.i64) (n:=(s:Int)) rfl rfl rfl (run_shr8 x s hx s8)) ?_
   simp only[Act.put,sA,sB,sC]
   refine zE (by rfl) (.int .u8 ((x/2 ^ s%2:Nat):Int)) (zBe (k:=.u8) (m:=((x/2 ^ s:Nat):Int)) (k':=.u8) (n:=1) rfl rfl rfl (run_and8 (x/2 ^ s) hy)) ?_
   simp only[Act.put,sA,sB,sC]
   refine zE (by rfl) (.int .i64 ((x/2 ^ s%2:Nat):Int)) (zKV rfl rfl (zGt (x/2 ^ s%2) hb)) ?_
   simp only[Act.put,sA,sB,sC]
   refine zE (by rfl) (.int .i64 ((2*m+x/2 ^ s%2:Nat):Int)) (zBe (k:=.i64) (m:=((2*m:Nat):Int)) (k':=.i64) (n:=((x/2 ^ s%2:Nat):Int)) rfl rfl rfl (run_or2 m (x/2 ^ s%2) hm hb2)) ?_
   simp only[Act.put,sA,sB,sC]
   refine zE (by rfl) (.int .i64 ((2*m+x/2 ^ s%2:Nat):Int)) (zW rfl rfl) ?_
   simp only[Act.put,sA,sB,sC]
   refine jA ?_
   intro w9 hx9
   have hr9:=hr.drew.ext hx9
   have hc1:=hr9.cells.2
   have hf1:=hr9.1.frozen 1
   have hb9:=hr9.1.set_ 1 (.int .i64 ((q:Int)+1))
   simp at hb9
   have hu9:=(hu.trans (Upd.of_ext (S:=fun x=>x=gr) ((Ext.refl wr).drew.trans hx9)) (fun x hx=>.inl hx)).setCell (p:=⟨gr,1,none⟩) rfl (.int .i64 ((q:Int)+1))
   have hs9:=hr9.2.1.upd (S:=fun x=>x=gr) ((Upd.refl (fun x=>x=gr) w9).setCell (p:=⟨gr,1,none⟩) rfl (.int .i64 ((q:Int)+1))) (fun ad h e=>by have:=hr9.2.2.2.1 (by omega) ad h;omega)
   have hrest:=hr9.2.2
   have HQ:=zA hq
   have hq9:q+1≤8*n:=by omega
   have hqq:q+1=p+(k+1):=by omega
   generalize hm2:2*m+x/2 ^ s%2=m2 at *
   clear hq hm2
   go_wp2_with fail
   go_roundw
   case rel =>
    refine⟨k+1,by omega,by go_num,by rw[HN2.out], ?_,hu9⟩
    rw[←hqq]
    exact⟨by exact_mod_cast hb9,hs9,hrest.1,hrest.2.1,hrest.2.2.1,hrest.2.2.2.1,hq9⟩
   case measure=>simp[intOf];omega
  ·have e1:k=yU:=by omega
   rw[e1] at hr ⊢
   clear e1 hk hlt
   go_wp2_with fail
   go_ret2
   exact⟨rfl,hr,hu⟩
theorem zMe (A:Option Addr) (n c:Nat) (bs:List Nat) (w:World) (h:SL w 1 (.slice A n c) n (zD bs)) (hl:bs.length=n) (hb: ∀ b∈bs,b<256) (hn:n≤100000000000) :
 Calls Tryz.prog 161 #[.slice A n c] w fun e w'=> ∃ gr,e=.returned (.pointer (some ⟨gr,0,none⟩))∧RdS w' gr A n c 0 bs∧Ext w w'∧w.heap.size=gr∧gr<w'.heap.size:=by
 go_enter Tryz.func161,Tryz.ntmps161
 go_wp2_with fail
 go_ret
 refine⟨_,rfl,⟨Blk.new _ _ _,h.ext ((Ext.refl w).alloc _),hl,fun h0 ad e=> ?_,hb,hn,by omega⟩,(Ext.refl w).alloc _,by omega,by simp⟩
 obtain⟨A',c',e1, -, -, -,h4⟩:=h
 injection e1 with e1 e2 e3
 obtain⟨ad',e4,h5, -⟩:=h4 h0
 rw[e,e4] at e1
 injection e1 with e1
 rw[e1];exact h5
theorem run_shl1 (a:Nat) (h:a≤24) (W:World):(binOp .shl 3 (.int .i64 1) (.int .i64 (a:Int))).run Tryz.prog W=.ok (.int .i64 (2 ^ a)) W:=by
 have h1:(2:Int) ^ a≤2 ^ 24:=by have:=wI1 (n:=2) (by omega) h;exact_mod_cast this
 have h2:(0:Int)≤2 ^ a:=by exact_mod_cast wL9 (2 ^ a)
 have h3:(2:Int) ^ 24=16777216:=by decide
 rw[h3] at h1
 have e:IntKind.i64.wrap (2 ^ a)=2 ^ a:=IntWalk.i64_in _ (by omega)
 have e2: ¬((a:Int)<0):=by omega
 simp[binOp,e,e2]
theorem zIu:Elt Tryz.prog 22 3 1 8:=⟨Tryz.underlying22,by kernel_rfl,by omega⟩
theorem zKU (bs:List Nat) (i k:Nat):zD ((bs.drop i).take k)=((zD bs).drop i).take k:=by simp[zD]
theorem zIE:Elt Tryz.prog 71 45 1 24:=⟨Tryz.underlying71,by kernel_rfl,by omega⟩
theorem zGy:(Tryz.prog.info? 45).map (·.size)=some 1:=by kernel_rfl
theorem zeroBs:((Tryz.prog.info? 45).bind (·.zero)).isSome=true:=by kernel_rfl
theorem zeroI:((Tryz.prog.info? 3).bind (·.zero)).isSome=true:=by kernel_rfl
def SpIs (z:Option (List (List Nat)×List Nat)) (w:World) (e:Ending) (w':World):Prop :=
 match z with
 | none=>e=.returned (.tuple #[.slice none 0 0,.slice none 0 0,.int .i64 4])∧Ext w w'
 | some (P,M)=> ∃ A c B d VS,e=.returned (.tuple #[.slice A P.length c,.slice B M.length d,.int .i64 0])∧SL w' 1 (.slice A P.length c) P.length VS∧Pieces w' VS P∧SL w' 1 (.slice B M.length d) M.length (ints (M.map Int.ofNat))∧Ext w w'
theorem zBW:Elt Tryz.prog 45 5 1 1:=⟨Tryz.underlying45,by kernel_rfl,by omega⟩
section
theorem zAR (a b:List Nat):zD (a++b)=zD a++zD b:=by simp[zD]
theorem zFE (l:List Nat): ∀ u∈zD l,u.oneCell'=true:=by
 intro u hu
 obtain⟨z, -,rfl⟩:=wD6.1 hu
 rfl
theorem own_none {w:World} {base:Nat} {e:TypeId} {size n d:Nat} {B:Option Addr} {xs:List Value} (h:w.ownsRow base e size (.slice B n d) n xs):B=none→d=0:=by
 rintro rfl
 obtain⟨-,hh⟩:=h
 rcases hh with ⟨e1, -⟩ | ⟨g,cap,cur,e1, -⟩
 ·injection e1
 ·injection e1 with e2
  cases e2
theorem zCq (s:List Nat):Lib.bytesOf (s.map Int.ofNat)=b8 s:=by
 unfold Lib.bytesOf b8
 rw[wL2]
 rfl
theorem zEb {s:List Nat} (h: ∀ b∈s,b<256): ∀ x∈s.map Int.ofNat,0≤x∧x<256:=by
 intro x hx
 obtain⟨b,hb,rfl⟩:=wD6.1 hx
 have:=h b hb
 simp only[Int.ofNat_eq_natCast]
 omega
theorem zHL {w:World} {ad:Addr} {n c:Nat} {s:List Nat} (h:SL w 1 (.slice (some ad) n c) n (zD s)): ∀ i,i<n→w.cell? (ad.add i)=some (.int .u8 ((s.map Int.ofNat).getD i 0)):=by
 intro i hi
 obtain⟨A',c',e,h1,h2,h3,h4⟩:=h
 injection e with e1 e2 e3
 subst e1
 obtain⟨ad',e4,hb,hc⟩:=h4 (by omega)
 injection e4 with e4
 subst e4
 have hl:i<s.length:=by rw[vL] at h3;omega
 refine hc i _ ?_
 simp[zD,hl,wF2]
theorem zFK {w:World} {A:Option Addr} {n c:Nat} {s:List Nat} (h:SL w 1 (.slice A n c) n (zD s)):s.length=n∧n≤c:=by
 obtain⟨A',c',e,h1,h2,h3,h4⟩:=h
 injection e with e1 e2 e3
 rw[vL] at h3
 omega
theorem zLj {w:World} {g:Nat} {t:TypeId} {s:List Nat} (h:Blk w g t (zD s).toArray): ∀ i,i<s.length→w.cell? ((⟨g,0,none⟩:Addr).add i)=some (.int .u8 ((s.map Int.ofNat).getD i 0)):=by
 intro i hi
 rw[zBU]
 simp only[wB2]
 rw[h.cell i]
 simp[zD,hi,wF2]
theorem zMB (w:World) (q:Nat):Ext w (w.drewN q):=zIY (Ext.refl w) q
theorem index_any (A:Option Addr) (n c k g:Nat) (s o:List Nat) (t:TypeId) (m0:Int) (w:World) (hs:SL w 1 (.slice A n c) n (zD s)) (h0:0<n) (hls: ∀ b∈s,b<256) (hlo: ∀ b∈o,b<256) (hok:o.length=k) (hk:k≤100)
 (hn:n≤4000000000) (ho:Blk w g t (zD o).toArray) (hm:w.cell? ⟨0,0,none⟩=some (.int .i64 m0)) :
 Calls Tryz.prog 178 #[.slice A n c,.slice (some ⟨g,0,none⟩) k k] w fun e w'=>e=.returned (.int .i64 (ixN s o))∧Ext w w':=by
 obtain⟨hl,hc⟩:=zFK hs
 have hs':=hs
 obtain⟨A',c',e, -, -, -,h4⟩:=hs'
 injection e with e1 e2 e3
 subst e1
 obtain⟨ad,rfl, -, -⟩:=h4 h0
 have H:=Tryz.bytes_Index_at ad ⟨g,0,none⟩ n c k k (s.map Int.ofNat) (o.map Int.ofNat) m0 w (by simpa using hl) (by simpa using hok) (zEb hls) (zEb hlo) (zHL hs) (fun i hi=>zLj ho i (by omega)) hc (by omega) (by omega) hm
 refine H.mono ?_
 rintro e w' ⟨rfl,q,rfl⟩
 rw[zCq,zCq]
 exact⟨rfl,zMB w q⟩
theorem count_any (A:Option Addr) (n c k g:Nat) (s o:List Nat) (t:TypeId) (m0:Int) (w:World) (hs:SL w 1 (.slice A n c) n (zD s)) (hA:A=none→c=0) (hls: ∀ b∈s,b<256) (hlo: ∀ b∈o,b<256) (hok:o.length=k) (hk1:1≤k) (hk:k≤100)
 (hn:n≤4000000000) (ho:Blk w g t (zD o).toArray) (hm:w.cell? ⟨0,0,none⟩=some (.int .i64 m0)) :
 Calls Tryz.prog 177 #[.slice A n c,.slice (some ⟨g,0,none⟩) k k] w fun e w'=>e=.returned (.int .i64 (zAY s o:Int))∧Ext w w':=by
 obtain⟨hl,hc⟩:=zFK hs
 have hone:o≠[]:=by intro e;rw[e] at hok;simp at hok;omega
 cases A with
 | none =>
   obtain rfl:=hA rfl
   obtain rfl:n=0:=by omega
   obtain rfl:s=[]:=wC6 hl
   rw[cnt_nil hone]
   by_cases h1:k=1
   ·subst h1
    obtain⟨y,rfl⟩: ∃ y,o=[y]:=by match o,hok with | [y],_=>exact⟨y,rfl⟩
    refine (Tryz.bytes_Count_one_nil g 0 1 (y:Int) w (by rw[ho.cell 0];rfl)).mono ?_
    rintro e w' ⟨rfl,rfl⟩
    exact⟨rfl,Ext.refl _⟩
   ·refine (Tryz.bytes_Count_nil (some ⟨g,0,none⟩) k k w (by omega) (by omega)).mono ?_
    rintro e w' ⟨rfl,rfl⟩
    exact⟨rfl,Ext.refl _⟩
 | some ad =>
   by_cases h1:k=1
   ·subst h1
    obtain⟨y,rfl⟩: ∃ y,o=[y]:=by match o,hok with | [y],_=>exact⟨y,rfl⟩
    refine (Tryz.bytes_Count_one_at ad n c g 0 1 (s.map Int.ofNat) (y:Int) w (by simpa using hl) (zHL hs) (by rw[ho.cell 0];rfl)).mono ?_
    rintro e w' ⟨rfl,rfl⟩
    refine⟨?_,Ext.refl _⟩
    rw[zCq]
    unfold zAY Lib.countByte
    rw[show b8 [y]=[UInt8.ofNat y] from rfl,count_one,wE8]
   ·have H:=Tryz.bytes_Count_at ad ⟨g,0,none⟩ n c k k (s.map Int.ofNat) (o.map Int.ofNat) m0 w (by simpa using hl) (by simpa using hok) (zEb hls) (zEb hlo) (zHL hs) (fun i hi=>zLj ho i (by omega)) hc (by omega) (by omega) (by omega) hm
    refine H.mono ?_
    rintro e w' ⟨rfl,q,rfl⟩
    rw[zCq,zCq]
    exact⟨rfl,zMB w q⟩
theorem infoBy8: ∃ i,Tryz.prog.info? 5=some i∧i.zero=some (.int .u8 0)∧i.size=1∧i.bytes=1:=by
 have h1:(Tryz.prog.info? 5).map (fun i=>(i.zero,i.size,i.bytes))=some (some (.int .u8 0),1,1):=by kernel_rfl
 cases hq:Tryz.prog.info? 5 with
 | none=>rw[hq] at h1;cases h1
 | some i =>
   rw[hq] at h1
   simp at h1
   exact⟨i,rfl,h1.1,h1.2.1,h1.2.2⟩
theorem madeU8 (m:Nat):madeCells (Value.int .u8 0).cells m=(zD (List.replicate m 0)).toArray:=by
 apply Array.ext
 ·rw[size_madeCells];simp[zD]
 ·intro i h1 h2
  have:i%1=0:=Nat.mod_one i
  simp[madeCells,zD,Value.cells,this]
theorem zIt {ops:Array Oper} {rest:List Oper} {o:Oper} {a:Act} {w:World} {Q:Exit→Act→World→Prop} (hg:o.guard=none) (dst:Option Tmp) (hdst:o.dst=dst) (x y:Operand) (ho:o.op=.makeSlice 45 x y) (n:Nat) (hn:n≤100000000000)
 (hx:a.eval x=.int .i64 (n:Int)) (hy:a.eval y=.int .i64 (n:Int))
 (h: ∀ w1 g,Blk w1 g 5 (zD (List.replicate n 0)).toArray→Ext w w1→w.heap.size≤g→wpList Tryz.prog ops Q rest (a.put dst (.slice (some ⟨g,0,none⟩) n n)) w1):wpList Tryz.prog ops Q (o::rest) a w:=by
 subst hdst
 obtain⟨i,hi,hz,hs,hb⟩:=infoBy8
 have hr:=run_make (P:=Tryz.prog) w 45 5 i (.int .u8 0) Tryz.underlying45 hi hz .i64 .i64 (n:Int) (n:Int) (by omega) (wF5 _) (by rw[hb];omega) (by omega)
 rw[wE8,hs,wE9,madeU8] at hr
 refine wpList_plain hg fun _ hK=> ?_
 unfold Oper.wp execOp
 simp only[ho,hx,hy,Sem.run_bind,hr,Result.andThen_ok,Sem.run_pure]
 exact hK _ _ (h _ _ (Blk.new w _ _) ((Ext.refl w).alloc _) (wA5 _))
def RowB (w:World) (g N:Nat) (D:List Nat):Prop:=Blk w g 5 (zD (D++List.replicate (N-D.length) 0)).toArray
theorem zPa (D X:List Nat) (N:Nat) (h:D.length+X.length≤N):splice (zD (D++List.replicate (N-D.length) 0)) D.length (zD X)=zD ((D++X)++List.replicate (N-(D++X).length) 0):=by
 have e1:(zD (D++List.replicate (N-D.length) 0)).take D.length=zD D:=by
  rw[zAR,wL3 (by rw[vL];omega),wC4 (by rw[vL];omega)]
 have e2:(zD (D++List.replicate (N-D.length) 0)).drop (D.length+X.length)=zD (List.replicate (N-(D++X).length) 0):=by
  rw[zAR,List.drop_append,wG2 (by rw[vL];omega),vL,wK7]
  rw[show D.length+X.length-D.length=X.length by omega]
  unfold zD
  rw[←wG9,List.drop_replicate,wF1]
  congr 2
  omega
 unfold splice
 rw[e1,vL,e2,zAR,zAR,wG0]
theorem zEE {ops:Array Oper} {rest:List Oper} {o:Oper} {a:Act} {w w0:World} {Q:Exit→Act→World→Prop} (hgd:o.guard=none) (dst:Option Tmp) (hdst:o.dst=dst) (d s:Operand)
 (ho:o.op=.call { callee:=.builtin .copy,args:= #[d,s],argTypes:= #[45,45] }) (g N off f m c2:Nat) (D X:List Nat) (sp:Option Addr)
 (dp:Option Addr) (hdp:dp=if N=off then some ⟨g,0,none⟩ else (some ⟨g,0,none⟩:Option Addr).map (·.add off)) (hd:a.eval d=.slice dp f f) (hf:f+off=N) (hs:a.eval s=.slice sp m c2) (hX:SL w 1 (.slice sp m c2) m (zD X)) (hm:X.length=m) (hD:D.length=off) (hfit:off+m≤N)
 (hr:RowB w g N D) (hx0:Ext w0 w) (hg:w0.heap.size≤g) (h: ∀ w',RowB w' g N (D++X)→Ext w0 w'→wpList Tryz.prog ops Q rest (a.put dst (.int .i64 (m:Int))) w'):wpList Tryz.prog ops Q (o::rest) a w:=by
 subst hdst
 have hXX:=hX
 obtain⟨A',c',e,h1,h2,h3,h4⟩:=hXX
 injection e with e1 e2 e3
 obtain rfl:f=N-off:=by omega
 subst e1 e3 hD hm hdp
 have key: ∀ w',Hid (w'.heap[g]? =some (.cells (splice (zD (D++List.replicate (N-D.length) 0)) D.length (zD X)).toArray 5 (0,0)))→Below w0.heap.size w0 w'→wpList Tryz.prog ops Q rest (a.put o.dst (goInt (zD X).length)) w':=fun w' h5 h6=>by
  rw[vL]
  refine h w' ?_ h6
  have h7:=h5.out
  rw[zPa D X N hfit] at h7
  exact h7
 refine wpList_copy_splice hgd d s 45 45 ho 5 Tryz.underlying45 zIF _ sp _ _ X.length c2 hd hs g D.length (zD (D++List.replicate (N-D.length) 0)) 5 hr (zD X) ?_ ?_ ?_ ?_ w0.heap.size w0 hx0 hg key
 ·rw[vL];exact (wN2 (by omega)).symm
 ·intro hp
  rw[vL] at hp
  rw[if_neg (by omega)]
  refine⟨by simp[zBU], ?_⟩
  obtain⟨ad,e5, -,h6⟩:=h4 hp
  exact⟨ad,e5,h6⟩
 ·rw[vL,vL,wF1,wF3];omega
 ·intro u hu
  obtain⟨z, -,rfl⟩:=wD6.1 hu
  rfl
theorem SL.tail {w:World} {A E:Option Addr} {n c l m q:Nat} {bs:List Nat} (hs:SL w 1 (.slice A n c) n (zD bs)) (hE:E=if c=l then A else A.map (·.add l)) (hm:m+l=n) (hq:q+l=c) :
 SL w 1 (.slice E m q) m (zD (bs.drop l)):=by
 subst hE
 obtain rfl:m=n-l:=by omega
 obtain rfl:q=c-l:=by omega
 have h:=hs.sub (show l≤n by omega) (wA5 n)
 have hn:=(zFK hs).1
 rwa [←zKU,wC4 (by rw[wJ4];omega)] at h
theorem SL.mid {w:World} {A E:Option Addr} {n c l h m q:Nat} {bs:List Nat} (hs:SL w 1 (.slice A n c) n (zD bs)) (hE:E=if c=l then A else A.map (·.add l)) (hm:l+m=h) (hq:q+l=c) (hh:h≤n) :
 SL w 1 (.slice E m q) m (zD ((bs.drop l).take m)):=by
 subst hE
 obtain rfl:m=h-l:=by omega
 obtain rfl:q=c-l:=by omega
 have h:=hs.sub (show l≤h by omega) hh
 rwa [←zKU] at h
theorem zFx {w:World} {g k:Nat} {t:TypeId} {s:List Nat} (hk:s.length=k) (h:Blk w g t (zD s).toArray) (hk2:k≤9000000000000000000:=by omega):SL w 1 (.slice (some ⟨g,0,none⟩) k k) k (zD s):=by
 have:=h.sl (size:=1) (n:=k) (c:=k) (by simp[zD,hk]) (by omega) (by omega)
 simpa using this
section
variable {o:Oper} {a:Act}
theorem zCr {x lo:Operand} (ho:o.op=.slice 45 x (some lo) none none) {A E:Option Addr} {n c l m q:Nat} (hE:E=if c=l then A else A.map (·.add l)) (hm:m+l=n) (hq:q+l=c) (hx:a.eval x=.slice A n c) (h1:a.eval lo=.int .i64 (l:Int)) (hc:n≤c) (w:World) :
 (execOp a.eval o).run Tryz.prog w=.ok (.value (.slice E m q)) w:=by
 subst hE
 rw[zLN ho hx h1 (by omega) hc w,show n-l=m by omega,show c-l=q by omega]
theorem zQn {x lo hi:Operand} (ho:o.op=.slice 45 x (some lo) (some hi) none) {A E:Option Addr} {n c l h m q:Nat} (hE:E=if c=l then A else A.map (·.add l)) (hm:l+m=h) (hq:q+l=c) (hx:a.eval x=.slice A n c) (h1:a.eval lo=.int .i64 (l:Int)) (h2:a.eval hi=.int .i64 (h:Int)) (hh:h≤n) (hc:n≤c) (w:World) :
 (execOp a.eval o).run Tryz.prog w=.ok (.value (.slice E m q)) w:=by
 subst hE
 rw[zLU ho hx h1 h2 (by omega) hh hc w,show h-l=m by omega,show c-l=q by omega]
theorem zEI {x y:Operand} {t2:TypeId} (ho:o.op=.binOp .add 3 x y t2) {i d r:Nat} (hr:i+d=r) (hx:a.eval x=.int .i64 (i:Int)) (hy:a.eval y=.int .i64 (d:Int)) (h:r<1000000000000) (w:World) :
 (execOp a.eval o).run Tryz.prog w=.ok (.value (.int .i64 (r:Int))) w:=by
 subst hr
 exact zZ ho hx hy h w
theorem ex_slice0 {x lo hi:Operand} (ho:o.op=.slice 45 x (some lo) (some hi) none) {g N:Nat} (hx:a.eval x=.slice (some ⟨g,0,none⟩) N N) (h1:a.eval lo=.int .i64 0) (h2:a.eval hi=.int .i64 (N:Int)) (w:World) :
 (execOp a.eval o).run Tryz.prog w=.ok (.value (.slice (some ⟨g,0,none⟩) N N)) w:=by
 have h:=zLU ho hx (l:=0) (h:=N) h1 h2 (by omega) (by omega) (by omega) w
 rw[h]
 by_cases h0:N=0
 ·simp[h0]
 ·simp[h0,zBU]
end
attribute [local irreducible] zD zAv zAY ixN
def ReplIs (R:List Nat) (w:World) (e:Ending) (w':World):Prop:= ∃ B k d,e=.returned (.slice B k d)∧R.length=k∧SL w' 1 (.slice B k d) k (zD R)∧(B=none→d=0)∧Ext w w'
theorem zPO (A:Option Addr) (n c k1 k2 g1 g2:Nat) (bs o v:List Nat) (m0:Int) (w:World) (hs:SL w 1 (.slice A n c) n (zD bs)) (hA:A=none→c=0) (hlt: ∀ b∈bs,b<256) (hlo: ∀ b∈o,b<256) (hn:n≤1000000000)
 (ho:o.length=k1) (hk1:1≤k1) (hk2:k1≤2) (hv:v.length=k2) (hk3:1≤k2) (hk4:k2≤2) (hbo:Blk w g1 5 (zD o).toArray) (hbv:Blk w g2 5 (zD v).toArray) (hm:w.cell? ⟨0,0,none⟩=some (.int .i64 m0)) :
 Calls Tryz.prog 138 #[.slice A n c,.slice (some ⟨g1,0,none⟩) k1 k1,.slice (some ⟨g2,0,none⟩) k2 k2,.int .i64 (-1)] w (ReplIs (zAu bs o v) w):=by
 obtain⟨hl,hc⟩:=zFK hs
 have hone:o≠[]:=by intro e;rw[e] at ho;simp at ho;omega
 have hm1:⟨0,0,none⟩=(⟨0,0,none⟩:Addr):=rfl
 have h00:0<w.heap.size:=by
  rcases wC5 w.heap.size with h | h
  ·unfold World.cell? at hm
   rw[wA4 (by simp[h])] at hm
   cases hm
  ·exact h
 have HMX:=zA (fun W (h:Ext w W)=>(h.cell (p:=⟨0,0,none⟩) h00).trans hm)
 have HCT:=zA (count_any A n c k1 g1 bs o _ m0 w hs hA hlt hlo ho hk1 (by omega) (by omega) hbo hm)
 have hroom:=zNb _ bs o hone rfl
 have hrl:=zLP _ bs o v hone rfl
 obtain⟨R,hR⟩: ∃ R,zAu bs o v=R:=⟨_,rfl⟩
 rw[hR]
 unfold zAu at hR
 obtain⟨m,hcm⟩: ∃ m,zAY bs o=m:=⟨_,rfl⟩
 rw[hcm] at HCT hroom hrl hR
 rw[hR] at hrl
 have HR:=zA hR
 have HC:=zA hcm
 have HL:=zA hl
 have HO:=zA ho
 have HV:=zA hv
 have HLT:=zA hlt
 have HLO:=zA hlo
 have hmn:m≤n:=by
  rw[ho,hl] at hroom
  have:m*1≤m*k1:=Nat.mul_le_mul_left _ hk1
  omega
 by_cases hm0:m=0
 ·have HRE:Hid (R=bs):=zA (by rw[←HR.out,hm0];unfold zAv;rfl)
  subst hm0
  clear hR hcm hl ho hv hlt hlo hroom hrl HR HC hm hmn hm1
  rw[HRE.out]
  go_enter Tryz.func138,Tryz.ntmps138
  go_wp2_with (first
   | (go_at_call 177;(with_reducible refine (HCT.out).mono ?_);rintro e w1 ⟨rfl,hx1⟩)
   | (at_builtin;go_must (refine wApf zBW rfl _ (.tmp 24) rfl w.heap.size (.slice none 0 0) 0 [] rfl (zAT _ _ _ _) _ n (zD bs) rfl (hs.ext hx1) (zFE bs) (by omega) (by omega) hx1.size ?_);intro B d w2 hown2 hgr2 hor2))
  go_ret
  obtain⟨B',d',e2,hs2,hf2⟩:=zBN hown2
  injection e2 with q1 q2 q3
  subst q1 q3
  simp only[wB2,wK7] at hs2
  refine⟨B,n,d, ?_,HL.out,hs2,own_none hown2,hx1.trans' (by exact (Below.refl _ w1).grown hgr2 hx1.size (fun k hk=>by cases hk))⟩
  simp
 ·have hN: ∃ N:Nat,N=R.length∧(N:Int)=(n:Int)+(m:Int)*((k2:Int)-(k1:Int)):=by
   refine⟨R.length,rfl, ?_⟩
   rw[ho,hv,hl] at hrl
   rw[Int.mul_sub]
   have:((R.length+m*k1:Nat):Int)=((n+m*k2:Nat):Int):=by rw[hrl]
   push_cast at this
   omega
  obtain⟨N,hNR,hNI⟩:=hN
  have hmk:(m:Int)*((k2:Int)-(k1:Int))≤1000000000∧ -1000000000≤(m:Int)*((k2:Int)-(k1:Int)):=by
   have:k2=k1∨k2=k1+1∨k1=k2+1:=by omega
   rcases this with rfl | rfl | rfl
   ·simp
   ·rw[show ((k1+1:Nat):Int)-(k1:Int)=1 by omega];omega
   ·rw[show (k2:Int)-((k2+1:Nat):Int)= -1 by omega];omega
  have H42R:Hid (∀ W,(binOp .mul 3 (.int .i64 (m:Int)) (.int .i64 ((k2:Int)-(k1:Int)))).run Tryz.prog W=.ok (.int .i64 ((m:Int)*((k2:Int)-(k1:Int)))) W):=zA (fun W=>zFk _ _ _ (IntWalk.i64_in _ (by omega)) W)
  have hNN:N≤2000000000:=by omega
  have H43:Hid (IntKind.i64.wrap ((n:Int)+(m:Int)*((k2:Int)-(k1:Int)))=(N:Int)):=zA (by rw[←hNI];exact IntWalk.i64_in _ (by omega))
  generalize (m:Int)*((k2:Int)-(k1:Int))=q42 at *
  have HNR:=zA hNR
  have HONE:=zA hone
  have HK1:Hid (decide ((0:Int)<(k1:Int))=true):=zA (by rw[wK3];omega)
  have hmk42:=hmk
  have hb18:((-1:Int) !=0)=true:=rfl
  have hb23:((m:Int) ==0)=false:=by simp[hm0]
  have hb23': ¬((m:Int)=0):=by omega
  have hm0':0<m:=by omega
  clear hR hcm hl ho hv hlt hlo hroom hrl hm hm1 hNI hmk hNR hone
  go_enter Tryz.func138,Tryz.ntmps138
  go_wp2_with (first
   | (go_at_call 177;(with_reducible refine (HCT.out).mono ?_);rintro e w1 ⟨rfl,hx1⟩)
   | ((with_reducible apply gS 41);refine zB rfl (.int .i64 ((k2:Int)-(k1:Int))) (zHp rfl rfl rfl (by omega)) ?_)
   | ((with_reducible apply gS 42);refine zB rfl (.int .i64 q42) (qE rfl rfl rfl H42R.out) ?_)
   | ((with_reducible apply gS 43);refine zB rfl (.int .i64 (N:Int)) (qE rfl rfl rfl (zCJ _ _ _ H43.out)) ?_)
   | ((with_reducible apply gS 44);refine zIt rfl (some 44) rfl _ _ rfl N (by omega) rfl rfl ?_;intro w2 g hb2 hx2 hg2)
   | ((with_reducible apply gS 47);refine zB rfl _ (xP rfl rfl rfl HK1.out) ?_))
  have hrow:RowB w2 g N []:=by
   unfold RowB
   simpa using hb2
  have hxw:=hx1.trans hx2
  have hg:w.heap.size≤g:=by have:=hx1.size;omega
  have HST0:Hid (zAY (bs.drop 0) o=m-0):=zA (by rw[wK5];exact HC.out)
  have HRR0:Hid ([]++zAv (m-0) (bs.drop 0) o v=R):=zA (by rw[wK5];exact HR.out)
  clear hb2 hx1 hx2 hg2 HC HR HCT H43 H42R hmk42
  obtain⟨wo,rfl⟩: ∃ wo:World,wo=w2:=⟨_,rfl⟩
  go_loopw [11,12,49] (fun x y iv wr=> ∃ (k st d:Nat) (D:List Nat),k≤m∧iv=.int .i64 (k:Int)∧x=.int .i64 (d:Int)∧y=.int .i64 (st:Int)∧st≤n∧Hid (D.length=d)∧Hid (zAY (bs.drop st) o=m-k)∧Hid (D++zAv (m-k) (bs.drop st) o v=R)∧RowB wr g N D∧Ext w wr) (fun _ _ i _=>m-(intOf i).toNat)
  case atStart=>exact⟨0,0,0,[],by omega,rfl,rfl,rfl,by omega,zA rfl,HST0,HRR0,hrow,hxw⟩
  case round =>
   clear hrow hxw HST0 HRR0
   obtain⟨k,st,d,D,hk,rfl,rfl,rfl,hst,HD,HCN,HRR,hr0,hx⟩:=hrel
   obtain⟨Eb,hEb⟩: ∃ E,E=if c=st then A else A.map (·.add st):=⟨_,rfl⟩
   obtain⟨Ed,hEd⟩: ∃ E,E=if N=d then some ⟨g,0,none⟩ else (some ⟨g,0,none⟩:Option Addr).map (·.add d):=⟨_,rfl⟩
   have HEB:=zA hEb
   have HED:=zA hEd
   obtain⟨r,hrn⟩: ∃ r,r+st=n:=⟨n-st,by omega⟩
   obtain⟨cq,hcq⟩: ∃ q,q+st=c:=⟨c-st,by omega⟩
   have HTL:=zA (fun W (h:Ext w W)=>SL.tail (hs.ext h) hEb hrn hcq)
   clear hEb hEd
   by_cases hlt:k<m
   ·obtain⟨i,e1,e2,e3⟩:=zGJ (m:=m-(k+1)) HONE.out (by rw[HCN.out];omega)
    rw[wJ4,HL.out,HO.out] at e2
    rw[HO.out,wL4] at e3
    have e4:=HRR.out
    rw[show m-k=m-(k+1)+1 by omega,zAv,e1,wE8,wL4,HO.out] at e4
    have e5:=congrArg List.length e4
    rw[wF1,wF1,wF1,wI4,wJ4,HD.out,HL.out,HV.out, ←HNR.out,wN2 (by omega)] at e5
    obtain⟨f,hfN⟩: ∃ f,f+d=N:=⟨N-d,by omega⟩
    obtain⟨sx,hsx⟩: ∃ r,st+i=r:=⟨_,rfl⟩
    obtain⟨sy,hsy⟩: ∃ r,sx+k1=r:=⟨_,rfl⟩
    obtain⟨d2,hd2⟩: ∃ r,d+i=r:=⟨_,rfl⟩
    obtain⟨d3,hd3⟩: ∃ r,d2+k2=r:=⟨_,rfl⟩
    obtain⟨f2,hf2⟩: ∃ f,f+d2=N:=⟨N-d2,by omega⟩
    have HIX:=zA (fun W (h:Ext w W)=>index_any _ r cq k1 g1 (bs.drop st) o _ m0 W (HTL.out W h) (by omega) (fun b hb=>HLT.out b (wG6 hb)) HLO.out HO.out (by omega) (by omega) (hbo.ext h) (HMX.out W h))
    rw[e1] at HIX
    obtain⟨Ee,hEe⟩: ∃ E,E=if N=d2 then some ⟨g,0,none⟩ else (some ⟨g,0,none⟩:Option Addr).map (·.add d2):=⟨_,rfl⟩
    have HEE:=zA hEe
    clear hEe
    have HMD:=zA (fun W (h:Ext w W)=>SL.mid (hs.ext h) HEB.out hsx hcq (show sx≤n by omega))
    have HVS:=zA (fun W (h:Ext w W)=>zFx HV.out (hbv.ext h))
    have HXL:Hid (((bs.drop st).take i).length=i):=zA (by rw[wI4,wJ4,HL.out];omega)
    have HDL:Hid ((D++(bs.drop st).take i).length=d2):=zA (by rw[wF1,HXL.out,HD.out,hd2])
    have HDL2:Hid ((D++(bs.drop st).take i++v).length=d3):=zA (by rw[wF1,HDL.out,HV.out,hd3])
    have HC2:Hid (zAY (bs.drop sy) o=m-(k+1)):=zA (by rw[←e3, ←hsy, ←hsx,wA0])
    have HR2:Hid (D++(bs.drop st).take i++v++zAv (m-(k+1)) (bs.drop sy) o v=R):=zA (by rw[←e4, ←hsy, ←hsx,wA0 st i k1];simp only[wG0])
    have e6:d3≤N:=by omega
    clear e1 e3 e4 e5 HCN HRR
    go_upto_region 15 with (first
     | ((with_reducible apply gS 54);refine zB rfl (.slice Eb r cq) (zCr rfl HEB.out hrn hcq rfl rfl (by omega)) ?_)
     | (go_at_call 178;(with_reducible refine (HIX.out _ hx).mono ?_);rintro e w3 ⟨rfl,hx3⟩)
     | ((with_reducible apply gS 57);refine zB rfl (.int .i64 (sx:Int)) (zEI rfl hsx rfl rfl (by omega)) ?_))
    have hx3':Ext w w3.drew:=(hx.trans hx3).drew
    have hr3:RowB w3.drew g N D:=Blk.ext hr0 hx3.drew
    clear hr0 hx hx3
    refine qI (fun _=>True) (by kernel_rfl) ?_
    refine zH (k:=0) (by kernel_rfl) rfl (by rfl) (.int .i64 (d:Int)) (zC rfl rfl) trivial ?_
    simp only[Act.put,sA,sB,sC]
    refine zH (k:=1) (by kernel_rfl) rfl (by rfl) (.slice (some ⟨g,0,none⟩) N N) (zC rfl rfl) trivial ?_
    simp only[Act.put,sA,sB,sC]
    refine zH (k:=2) (by kernel_rfl) rfl (by rfl) (.int .i64 (d:Int)) (zC rfl rfl) trivial ?_
    simp only[Act.put,sA,sB,sC]
    refine zH (k:=3) (by kernel_rfl) rfl (by rfl) (.slice Ed f f) (zCr rfl HED.out hfN hfN rfl rfl (by omega)) trivial ?_
    simp only[Act.put,sA,sB,sC]
    refine zH (k:=4) (by kernel_rfl) rfl (by rfl) (.slice A n c) (zC rfl rfl) trivial ?_
    simp only[Act.put,sA,sB,sC]
    refine zH (k:=5) (by kernel_rfl) rfl (by rfl) (.int .i64 (st:Int)) (zC rfl rfl) trivial ?_
    simp only[Act.put,sA,sB,sC]
    refine zH (k:=6) (by kernel_rfl) rfl (by rfl) (.int .i64 (sx:Int)) (zC rfl rfl) trivial ?_
    simp only[Act.put,sA,sB,sC]
    refine zH (k:=7) (by kernel_rfl) rfl (by rfl) (.slice Eb i cq) (zQn rfl HEB.out hsx hcq rfl rfl rfl (by omega) (by omega)) trivial ?_
    simp only[Act.put,sA,sB,sC]
    refine xY (k:=8) (by kernel_rfl) rfl ?_
    refine zEE rfl (some 66) rfl (.tmp 61) (.tmp 65) rfl g N d f i _ D ((bs.drop st).take i) _ Ed HED.out rfl hfN rfl (HMD.out _ hx3') HXL.out HD.out (by omega) hr3 hx3' hg ?_
    intro w4 hr4 hx4
    refine zU ⟨trivial, ?_⟩
    simp only[Act.put,sA,sB,sC]
    refine zH (k:=9) (by kernel_rfl) rfl (by rfl) (.int .i64 (d2:Int)) (zEI rfl hd2 rfl rfl (by omega)) trivial ?_
    simp only[Act.put,sA,sB,sC]
    refine zH (k:=10) (by kernel_rfl) rfl (by rfl) (.int .i64 (d2:Int)) (zW rfl rfl) trivial ?_
    simp only[Act.put,sA,sB,sC]
    refine uE (by kernel_rfl) ?_
    go_wp2_with (first
     | ((with_reducible apply gS 71);refine zB rfl (.slice Ee f2 f2) (zCr rfl HEE.out hf2 hf2 rfl rfl (by omega)) ?_)
     | ((with_reducible apply gS 73);refine zEE rfl (some 73) rfl (.tmp 71) (.tmp 72) rfl g N d2 f2 k2 _ _ v _ Ee HEE.out rfl hf2 rfl (HVS.out _ hx4) HV.out HDL.out (by omega) hr4 hx4 hg ?_;intro w5 hr5 hx5)
     | ((with_reducible apply gS 74);refine zB rfl (.int .i64 (d3:Int)) (zEI rfl hd3 rfl rfl (by omega)) ?_)
     | ((with_reducible apply gS 78);refine zB rfl (.int .i64 (sy:Int)) (zEI rfl hsy rfl rfl (by omega)) ?_))
    go_roundw
    case rel=>exact⟨k+1,sy,d3,_,by omega,by go_num,rfl,rfl,by omega,HDL2,HC2,HR2,hr5,hx5⟩
    case measure=>simp[intOf];omega
   ·have hkm:m-k=0:=by omega
    have e4:=HRR.out
    rw[hkm,zAv] at e4
    have e5:=congrArg List.length e4
    rw[wF1,wJ4,HD.out,HL.out, ←HNR.out] at e5
    have HRE:Hid (R=D++bs.drop st):=zA e4.symm
    have HXL:Hid ((bs.drop st).length=r):=zA (by rw[wJ4,HL.out];omega)
    have hdr:d+r=N:=by omega
    obtain⟨f,hfN⟩: ∃ f,f+d=N:=⟨N-d,by omega⟩
    clear hkm e4 HCN HRR
    go_upto_region 28 with ((with_reducible apply gS 47);refine zB rfl _ (xP rfl rfl rfl HK1.out) ?_)
    have hx':Ext w wr.drew:=hx.drew
    have hr0':RowB wr.drew g N D:=hr0
    refine qI (fun _=>True) (by kernel_rfl) ?_
    refine zH (k:=0) (by kernel_rfl) rfl (by rfl) (.int .i64 (d:Int)) (zC rfl rfl) trivial ?_
    simp only[Act.put,sA,sB,sC]
    refine zH (k:=1) (by kernel_rfl) rfl (by rfl) (.slice (some ⟨g,0,none⟩) N N) (zC rfl rfl) trivial ?_
    simp only[Act.put,sA,sB,sC]
    refine zH (k:=2) (by kernel_rfl) rfl (by rfl) (.int .i64 (d:Int)) (zC rfl rfl) trivial ?_
    simp only[Act.put,sA,sB,sC]
    refine zH (k:=3) (by kernel_rfl) rfl (by rfl) (.slice Ed f f) (zCr rfl HED.out hfN hfN rfl rfl (by omega)) trivial ?_
    simp only[Act.put,sA,sB,sC]
    refine zH (k:=4) (by kernel_rfl) rfl (by rfl) (.slice A n c) (zC rfl rfl) trivial ?_
    simp only[Act.put,sA,sB,sC]
    refine zH (k:=5) (by kernel_rfl) rfl (by rfl) (.int .i64 (st:Int)) (zC rfl rfl) trivial ?_
    simp only[Act.put,sA,sB,sC]
    refine zH (k:=6) (by kernel_rfl) rfl (by rfl) (.slice Eb r cq) (zCr rfl HEB.out hrn hcq rfl rfl (by omega)) trivial ?_
    simp only[Act.put,sA,sB,sC]
    refine xY (k:=7) (by kernel_rfl) rfl ?_
    refine zEE rfl (some 127) rfl (.tmp 123) (.tmp 126) rfl g N d f r _ D (bs.drop st) _ Ed HED.out rfl hfN rfl (HTL.out _ hx') HXL.out HD.out (by omega) hr0 hx' hg ?_
    intro w4 hr4 hx4
    refine zU ⟨trivial, ?_⟩
    simp only[Act.put,sA,sB,sC]
    refine zH (k:=8) (by kernel_rfl) rfl (by rfl) (.int .i64 (N:Int)) (zEI rfl hdr rfl rfl (by omega)) trivial ?_
    simp only[Act.put,sA,sB,sC]
    refine zH (k:=9) (by kernel_rfl) rfl (by rfl) (.int .i64 (N:Int)) (zW rfl rfl) trivial ?_
    simp only[Act.put,sA,sB,sC]
    refine uE (by kernel_rfl) ?_
    go_wp2_with ((with_reducible apply gS 131);refine zB rfl (.slice (some ⟨g,0,none⟩) N N) (ex_slice0 rfl rfl rfl rfl) ?_)
    go_ret
    refine⟨some ⟨g,0,none⟩,N,N,rfl,HNR.out.symm, ?_,(fun h=>by cases h),hx4⟩
    unfold RowB at hr4
    rw[←HRE.out, ←HNR.out,wF7,wN4,wG3] at hr4
    exact zFx HNR.out.symm hr4
end
end Go.Proofs.YtkggcjdlpendfaaGreatDoor
