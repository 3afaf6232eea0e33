import Derived.StillTailTactics
import Derived.Test.YtkggcjdlpendfaaGreatDoorMTopHurtUptoCard6
set_option linter.all false
set_option maxRecDepth 20000
set_option maxHeartbeats 8000000
namespace Go.Proofs.YtkggcjdlpendfaaGreatDoor
open Go.RowKit Tryz
def zUH (wd hi:Int) (L:List (List Int)) (A:Option Addr) (n c:Nat) (w:World) (hr:RowsS w A n c L) (h:xX wd hi≠0) :
 Calls prog 29 #[.agg (yX wd hi (.slice A n c))] w λe w'=>e=.returned (.int .i64 1)∧Ext w w':=by
 have HM:=zA (λW=>zFv wd hi W);rw[zIA h] at HM;clear h;have HC:=zA (λW g (h:Blk W g 31 (yX wd hi (.slice A n c)))=>zAM h);generalize yX wd hi (.slice A n c)=pv at *;generalize zDT wd hi=mz at *;go_enter func29,ntmps29
 go_wp2_with (first
  | (refine wBox rfl 31 (.tmp 0) rfl pv rfl ?_;intro w1 g hb1 hx1 hg;obtain⟨c0,c1,c2⟩:=HC.out _ _ hb1)
  | (go_at_call 65;(with_reducible refine (HM.out _).mono ?_);rintro e w2 ⟨rfl,hx2⟩;have hb2:=hb1.ext hx2;have hx12:=hx1.trans hx2;clear c0 c1 c2;obtain⟨d0,d1,d2⟩:=HC.out _ _ hb2))
 go_ret;exact⟨rfl,hx12⟩
def zUu (wd hi:Int) (L:List (List Int)) (A:Option Addr) (n c:Nat) (w:World) (hr:RowsS w A n c L) (h0:xX wd hi=0) (h:¬(L.length=1∨L.length=3)) :
 Calls prog 29 #[.agg (yX wd hi (.slice A n c))] w λe w'=>e=.returned (.int .i64 1)∧Ext w w':=by
 have HM:=zA (λW=>zFv wd hi W);rw[h0] at HM;clear h0;have HC:=zA (λW g (h:Blk W g 31 (yX wd hi (.slice A n c)))=>zAM h);rw[hr.len] at h;have hn1:((n:Int) !=1)=true:=by simp;omega
 have hn3:((n:Int) !=3)=true:=by simp;omega
 clear h;generalize yX wd hi (.slice A n c)=pv at *;generalize zDT wd hi=mz at *;go_enter func29,ntmps29
 go_wp2_with (first
  | (refine wBox rfl 31 (.tmp 0) rfl pv rfl ?_;intro w1 g hb1 hx1 hg;obtain⟨c0,c1,c2⟩:=HC.out _ _ hb1)
  | (go_at_call 65;(with_reducible refine (HM.out _).mono ?_);rintro e w2 ⟨rfl,hx2⟩;have hb2:=hb1.ext hx2;have hx12:=hx1.trans hx2;clear c0 c1 c2;obtain⟨d0,d1,d2⟩:=HC.out _ _ hb2))
 go_ret;exact⟨rfl,hx12⟩
def fchk_in1 (wd hi:Int) (L:List (List Int)) (A:Option Addr) (n c:Nat) (w:World) (hr:RowsS w A n c L) (h0:xX wd hi=0) (h:n=1) :
 Calls prog 29 #[.agg (yX wd hi (.slice A n c))] w λe w'=>e=.returned (.int .i64 (zBE (L.map λl=>zAD l wd hi)))∧Ext w w':=by
 have HM:=zA (λW=>zFv wd hi W);rw[h0] at HM;clear h0;have HC:=zA (λW g (h:Blk W g 31 (yX wd hi (.slice A n c)))=>zAM h);have hn1:((n:Int) !=1)=false:=by simp;omega
 have hn9:n≤3:=by omega
 have HL:=zA hr.len;clear h;have HCUT:=zA (λW v l (hv:SL W 1 v l.length (ints l))=>cut_any l v wd hi W hv);unfold zKZ at HCUT;generalize zDT wd hi=mz at *;generalize yX wd hi (.slice A n c)=pv at *;go_enter func29,ntmps29
 go_wp2_with (first
  | (refine wBox rfl 31 (.tmp 0) rfl pv rfl ?_;intro w1 g hb1 hx1 hg;obtain⟨c0,c1,c2⟩:=HC.out _ _ hb1)
  | (go_at_call 65;(with_reducible refine (HM.out _).mono ?_);rintro e w2 ⟨rfl,hx2⟩;have hb2:=hb1.ext hx2;have hx12:=hx1.trans hx2;clear c0 c1 c2;obtain⟨d0,d1,d2⟩:=HC.out _ _ hb2))
 clear d0 d1 d2
 go_loopw [33] (λi wr=>∃(k:Nat),k≤n∧i=.int .i64 (k:Int)∧Hid (∀x∈L.take k,zAD x wd hi=0)∧Blk wr g 31 pv∧Ext w wr) (λi _=>n-(intOf i).toNat)
 case atStart=>exact⟨0,by omega,rfl,zA (by simp),hb2,hx12⟩
 case round =>
  clear hb2 hx12;obtain⟨k,hk,rfl,HT,hb,hx⟩:=hrel
  by_cases hlt:k<n
  ·obtain⟨ad,l,B,d,rfl,hl,hab,hcell,hsl⟩:=(hr.ext hx).get hlt;have HLK:=zA hl;obtain⟨d0,d1,d2⟩:=HC.out _ _ hb;clear hl;have HCU:=zA (HCUT.out wr _ l hsl)
   by_cases hz:zAD l wd hi=0
   ·have HZ:=zA hz;rw[hz] at HCU;clear hz;generalize vT l wd hi=rn at *;go_wp2_with (go_at_call 40;(with_reducible refine (HCU.out).mono ?_);rintro e w4 ⟨A4,c4,rfl,hs4,hx4⟩)
    go_roundw
    case rel=>exact⟨k+1,by omega,by go_num,zA (zPT HT.out HLK.out HZ.out),hb.ext hx4,hx.trans hx4⟩
    case measure=>simp[intOf];omega
   have hz2:(zAD l wd hi !=0)=true:=by simpa using hz
   have HF:=zA (zPj HT.out HLK.out rfl hz);generalize zAD l wd hi=ce at *;generalize vT l wd hi=rn at *;clear hz;go_wp2_with (go_at_call 40;(with_reducible refine (HCU.out).mono ?_);rintro e w4 ⟨A4,c4,rfl,hs4,hx4⟩)
   go_ret;rw[HF.out];exact⟨rfl,hx.trans hx4⟩
  have ek:k=n:=by omega
  have HF:Hid (zBE (L.map λl=>zAD l wd hi)=0):=zA (zHZ _ (λy hy=>by
   obtain⟨x,hx,rfl⟩:=wD2.1 hy
   exact HT.out x (by rw[ek, ←HL.out,wP0];exact hx)))
  go_wp2_with fail;go_ret;rw[HF.out];exact⟨rfl,hx⟩
def fchk_in3 (wd hi:Int) (L:List (List Int)) (A:Option Addr) (n c:Nat) (w:World) (hr:RowsS w A n c L) (h0:xX wd hi=0) (h:n=3) :
 Calls prog 29 #[.agg (yX wd hi (.slice A n c))] w λe w'=>e=.returned (.int .i64 (zBE (L.map λl=>zAD l wd hi)))∧Ext w w':=by
 have HM:=zA (λW=>zFv wd hi W);rw[h0] at HM;clear h0;have HC:=zA (λW g (h:Blk W g 31 (yX wd hi (.slice A n c)))=>zAM h);have hn1:((n:Int) !=1)=true:=by simp;omega
 have hn3:((n:Int) !=3)=false:=by simp;omega
 have hn9:n≤3:=by omega
 have HL:=zA hr.len;clear h;have HCUT:=zA (λW v l (hv:SL W 1 v l.length (ints l))=>cut_any l v wd hi W hv);unfold zKZ at HCUT;generalize zDT wd hi=mz at *;generalize yX wd hi (.slice A n c)=pv at *;go_enter func29,ntmps29
 go_wp2_with (first
  | (refine wBox rfl 31 (.tmp 0) rfl pv rfl ?_;intro w1 g hb1 hx1 hg;obtain⟨c0,c1,c2⟩:=HC.out _ _ hb1)
  | (go_at_call 65;(with_reducible refine (HM.out _).mono ?_);rintro e w2 ⟨rfl,hx2⟩;have hb2:=hb1.ext hx2;have hx12:=hx1.trans hx2;clear c0 c1 c2;obtain⟨d0,d1,d2⟩:=HC.out _ _ hb2))
 clear d0 d1 d2
 go_loopw [33] (λi wr=>∃(k:Nat),k≤n∧i=.int .i64 (k:Int)∧Hid (∀x∈L.take k,zAD x wd hi=0)∧Blk wr g 31 pv∧Ext w wr) (λi _=>n-(intOf i).toNat)
 case atStart=>exact⟨0,by omega,rfl,zA (by simp),hb2,hx12⟩
 case round =>
  clear hb2 hx12;obtain⟨k,hk,rfl,HT,hb,hx⟩:=hrel
  by_cases hlt:k<n
  ·obtain⟨ad,l,B,d,rfl,hl,hab,hcell,hsl⟩:=(hr.ext hx).get hlt;have HLK:=zA hl;obtain⟨d0,d1,d2⟩:=HC.out _ _ hb;clear hl;have HCU:=zA (HCUT.out wr _ l hsl)
   by_cases hz:zAD l wd hi=0
   ·have HZ:=zA hz;rw[hz] at HCU;clear hz;generalize vT l wd hi=rn at *;go_wp2_with (go_at_call 40;(with_reducible refine (HCU.out).mono ?_);rintro e w4 ⟨A4,c4,rfl,hs4,hx4⟩)
    go_roundw
    case rel=>exact⟨k+1,by omega,by go_num,zA (zPT HT.out HLK.out HZ.out),hb.ext hx4,hx.trans hx4⟩
    case measure=>simp[intOf];omega
   have hz2:(zAD l wd hi !=0)=true:=by simpa using hz
   have HF:=zA (zPj HT.out HLK.out rfl hz);generalize zAD l wd hi=ce at *;generalize vT l wd hi=rn at *;clear hz;go_wp2_with (go_at_call 40;(with_reducible refine (HCU.out).mono ?_);rintro e w4 ⟨A4,c4,rfl,hs4,hx4⟩)
   go_ret;rw[HF.out];exact⟨rfl,hx.trans hx4⟩
  have ek:k=n:=by omega
  have HF:Hid (zBE (L.map λl=>zAD l wd hi)=0):=zA (zHZ _ (λy hy=>by
   obtain⟨x,hx,rfl⟩:=wD2.1 hy
   exact HT.out x (by rw[ek, ←HL.out,wP0];exact hx)))
  go_wp2_with fail;go_ret;rw[HF.out];exact⟨rfl,hx⟩
def zMD (wd hi:Int) (L:List (List Int)) (A:Option Addr) (n c:Nat) (w:World) (hr:RowsS w A n c L) :
 Calls prog 29 #[.agg (yX wd hi (.slice A n c))] w λe w'=>e=.returned (.int .i64 (zDM wd hi L))∧Ext w w':=by
 unfold zDM
 by_cases h0:xX wd hi=0
 ·rw[if_pos h0]
  by_cases h:L.length=1∨L.length=3
  ·rw[if_pos h];rw[hr.len] at h;rcases h with h | h
   ·exact fchk_in1 wd hi L A n c w hr h0 h
   exact fchk_in3 wd hi L A n c w hr h0 h
  rw[if_neg h];exact zUu wd hi L A n c w hr h0 h
 rw[if_neg h0];exact zUH wd hi L A n c w hr h0
section
variable {o:Oper} {a:Act}
def zUL (W:World) (p:Addr) (A:Option Addr) (n c:Nat) (h:W.cell? p=some (.slice A n c)):(Instr.loadAt 45 (.pointer (some p))).run prog W=.ok (.slice A n c) W:=by go_simp
def run_loadU (W:World) (p:Addr) (z:Int) (h:W.cell? p=some (.int .u8 z)):(Instr.loadAt 5 (.pointer (some p))).run prog W=.ok (.int .u8 z) W:=by go_simp
def zAT {x:Operand} (ho:o.op=.load 45 x) {p:Addr} (hx:a.eval x=.pointer (some p)) {A:Option Addr} {n c:Nat} {w:World} (h:w.cell? p=some (.slice A n c)):(execOp a.eval o).run prog w=.ok (.value (.slice A n c)) w:=by simp[execOp,ho,hx,zUL w p A n c h]
def zLT {x:Operand} (ho:o.op=.load 5 x) {p:Addr} (hx:a.eval x=.pointer (some p)) {z:Int} {w:World} (h:w.cell? p=some (.int .u8 z)):(execOp a.eval o).run prog w=.ok (.value (.int .u8 z)) w:=by simp[execOp,ho,hx,run_loadU w p z h]
def zIz (y:Nat) (h:y<256) (W:World):(convert 5 3 (.int .u8 (y:Int))).run prog W=.ok (.int .i64 (y:Int)) W:=by have e:IntKind.i64.wrap (y:Int)=(y:Int):=IntWalk.i64_in _ (by omega);go_simp
def zNp {P:Program} {x:Operand} {t u:TypeId} (ho:o.op=.convert t u x) {v v':Value} (hx:a.eval x=v) (hr:∀w,(convert t u v).run P w=.ok v' w) (w:World):(execOp a.eval o).run P w=.ok (.value v') w:=by simp[execOp,ho,hx,hr]
end
def SL.upd0 {S:Nat→Prop} {w w':World} {size n c:Nat} {A:Option Addr} {xs:List Value} (h:SL w size (.slice A n c) n xs) (hu:Upd S w w') (hS:0<n→∀ad,A=some ad→¬S ad.block):SL w' size (.slice A n c) n xs:=by
 by_cases h0:0<n
 ·exact h.upd hu (hS h0)
 obtain⟨A',c',e1,h1,h2,h3,h4⟩:=h;exact⟨A',c',e1,h1,h2,h3,λhn=>absurd hn h0⟩
def zAV {S:Nat→Prop} {w w':World} {base:Nat} {e:TypeId} {size n:Nat} {v:Value} {xs:List Value} (h:w.ownsRow base e size v n xs) (hu:Upd S w w') (hS:∀x,S x→x<base):w'.ownsRow base e size v n xs:=by
 obtain⟨hl,hh⟩:=h;refine⟨hl, ?_⟩;rcases hh with ⟨rfl,rfl⟩ | ⟨g,cap,cur,rfl,h1,hg,h2⟩
 ·exact .inl ⟨rfl,rfl⟩
 exact .inr ⟨g,cap,cur,rfl,h1,(hu.block g (Blk.lt (w:=w) (t:=e) (cs:=cur) hg) (λhx=>by have:=hS g hx;omega)).trans hg,h2⟩
def blkF (b q:List Int):List Int:=(vN zBO (uB toC b).1 q 40000).1
def zLl (b q:List Int) (hq:q.length=64):(blkF b q).length=64:=zGY zBO _ q 40000 (zCl toC b) hq
def zAa (q X:List Int):Nat→List Int
 | 0=>[]
 | k+1=>zAa q X k++blkF (qF X k) q
def zBV (q:List Int) (wd hi:Int) (R:List (List Int)):List Int:=R.flatMap λl=>zAa q (zBc l wd hi) (vT l wd hi)
def zAs (wd hi:Int) (R:List (List Int)):Nat:=(R.map λl=>vT l wd hi).sum
def zEN (q X:List Int) (hq:q.length=64):∀k,(zAa q X k).length=k*64
 | 0=>rfl
 | k+1=>by rw[zAa,wE2,zEN q X hq k,zLl _ _ hq];omega
def zTX (q:List Int) (wd hi:Int) (R:List (List Int)) (k:Nat) (l:List Int) (h:R[k]? =some l):zBV q wd hi (R.take (k+1))=zBV q wd hi (R.take k)++zAa q (zBc l wd hi) (vT l wd hi):=by unfold zBV;rw[wN4,h,wP1];simp
def zSv (wd hi:Int) (R:List (List Int)) (k:Nat) (l:List Int) (h:R[k]? =some l):zAs wd hi (R.take (k+1))=zAs wd hi (R.take k)+vT l wd hi:=by unfold zAs;rw[wN4,h,wF5,wH5];simp
def zMX (q:List Int) (hq:q.length=64) (wd hi:Int):∀R:List (List Int),(zBV q wd hi R).length=zAs wd hi R*64
 | []=>rfl
 | l::R=>by
   have ih:=zMX q hq wd hi R;unfold zBV zAs at ih ⊢;rw[wG2,wE2,ih,zEN q _ hq,wG6,wP2,wE3]
def zRJ (xs:List Int) (wd hi:Int):vT xs wd hi≤64:=by
 unfold vT;split
 ·rename_i h;rcases zEt xs wd hi with ⟨-,hE⟩ | ⟨a,b,rfl,rfl,h1,h2,h3,h4,-,-⟩
  ·rw[hE] at h;cases h
  unfold zT;have:(a+7)/8≤8:=by omega
  have:(b+7)/8≤8:=by omega
  exact wO6 (by simpa using ‹(a+7)/8≤8›) (by simpa using this)
 omega
def zJf (wd hi:Int):∀(R:List (List Int)) (k:Nat),zAs wd hi (R.take k)≤k*64
 | _,0=>by simp[zAs]
 | [],k+1=>by simp[zAs]
 | l::R,k+1=>by
   have:=zJf wd hi R k;have:=zRJ l wd hi;unfold zAs at *;rw[wH1,wG6,wP2];omega
def tto:Int→Int→Int→Four:=λr g b=>zAf toM [r,g,b]
def tto_by:zGy 39 tto:=λa b c w=>zUC a b c w
def goesTo:zAn prog 39:=⟨_,func39,rfl,rfl⟩
def zGt:∀(l:List Int),zBE l=0→∀e∈l,e=0
 | [],_,_,h=>by cases h
 | e::r,h,x,hx=>by
   unfold zBE at h
   by_cases h0:e=0
   ·rw[if_pos h0] at h;rcases wI8.1 hx with rfl | hx
    ·exact h0
    exact zGt r h x hx
   rw[if_neg h0] at h;exact absurd h h0
def picE_ok {wd hi:Int} {L:List (List Int)} (h:zDM wd hi L=0):(L.length=1∨L.length=3)∧∃N,N≤1000000∧∀l∈L,l.length=N:=by
 unfold zDM at h
 by_cases h0:xX wd hi=0
 ·rw[if_pos h0] at h
  by_cases h1:L.length=1∨L.length=3
  ·rw[if_pos h1] at h;obtain⟨a,b,rfl,rfl,a1,a2,b1,b2⟩:=zGE h0;refine⟨h1,a*b,wJ1 (wO6 a2 b2) (by omega),λl hl=> ?_⟩;have he:=zGt _ h (zAD l a b) (wD2.2 ⟨l,hl,rfl⟩);rcases zEt l a b with ⟨-,hE⟩ | ⟨a',b',ea,eb,-,-,-,-,-,⟨hl',hE⟩ | ⟨hl',hq,hE⟩ | ⟨hl',hq,hE⟩⟩
   ·rw[hE] at he;cases he
   ·rw[hE] at he;cases he
   ·rw[hE] at he;cases he
   obtain rfl:a=a':=by omega
   obtain rfl:b=b':=by omega
   exact hl'
  rw[if_neg h1] at h;cases h
 rw[if_neg h0] at h;cases h
def zO (wd hi:Int) (L:List (List Int)) (q:List Int):Int×Nat×List Int :=
 if zDM wd hi L=0 then (if zR q 1 255 then (0,zAs wd hi (zCW tto L),zBV q wd hi (zCW tto L)) else (1,0,[])) else (zDM wd hi L,0,[])
def FrmIs (z:Int×Nat×List Int) (w:World) (e:Ending) (w':World):Prop:=∃A c,e=.returned (.tuple #[.slice A z.2.1 c,.int .i64 z.1])∧SL w' 64 (.slice A z.2.1 c) z.2.1 (ints z.2.2)∧Ext w w'
def FrmIs.err {z:Int×Nat×List Int} {w w':World} {E:Int} (h:z=(E,0,[])) (hx:Ext w w'):FrmIs z w (.returned (.tuple #[.slice none 0 0,.int .i64 E])) w':=by subst h;exact⟨none,0,rfl,SL.nil w' 64,hx⟩
def zTI (wd hi:Int) (L:List (List Int)) (A:Option Addr) (n c:Nat) (q:List Int) (hq:q.length=64) (w:World) (hr:RowsS w A n c L) (hE:zDM wd hi L≠0) :
 Calls prog 13 #[.agg (yX wd hi (.slice A n c)),.agg (bv q)] w (FrmIs (zO wd hi L q) w):=by
 have HC:=zA (λW (hx:Ext w W)=>zMD wd hi L A n c W (hr.ext hx));have HE:Hid (∀W,Ext w W→FrmIs (zO wd hi L q) w (.returned (.tuple #[.slice none 0 0,.int .i64 (zDM wd hi L)])) W):=zA (λW hx=>FrmIs.err (by unfold zO;rw[if_neg hE]) hx);generalize zO wd hi L q=fz at *;generalize zDM wd hi L=E at *;have hps:=zA (jB wd hi (.slice A n c));generalize yX wd hi (.slice A n c)=pv at *;generalize bv q=qv at *;clear hr;go_enter func13,ntmps13
 go_wp2_with (first
  | ((with_reducible apply gS 2);refine wBox rfl 31 (.tmp 0) rfl pv rfl ?_;intro w1 g1 hb1 hx1 hg1)
  | ((with_reducible apply gS 3);refine wBox rfl 33 (.tmp 1) rfl qv rfl ?_;intro w2 g2 hb2 hx2 hg2;have hb12:=hb1.ext hx2;have hx12:=hx1.trans hx2)
  | ((with_reducible apply gS 14);refine wLdB rfl 31 (.tmp 2) rfl g1 rfl hb12 _ underlying31 rfl 3 qY hps.out ?_)
  | (go_at_call 29;(with_reducible refine (HC.out _ hx12).mono ?_);rintro e w3 ⟨rfl,hx3⟩)
  | ((with_reducible apply gS 17);refine zB rfl (.bool false) (uZ rfl rfl rfl (by simpa using hE)) ?_)
  | ((with_reducible apply gS 21);refine zB rfl (.bool true) (jW rfl rfl rfl (by simpa using hE)) ?_))
 go_ret2;exact HE.out _ (hx12.trans hx3)
def zQK (wd hi:Int) (L:List (List Int)) (A:Option Addr) (n c:Nat) (q:List Int) (hq:q.length=64) (w:World) (hr:RowsS w A n c L) (hE:zDM wd hi L=0) (hqq:zR q 1 255=false) :
 Calls prog 13 #[.agg (yX wd hi (.slice A n c)),.agg (bv q)] w (FrmIs (zO wd hi L q) w):=by
 have HC:=zA (λW (hx:Ext w W)=>zMD wd hi L A n c W (hr.ext hx));rw[hE] at HC;have HE:Hid (∀W,Ext w W→FrmIs (zO wd hi L q) w (.returned (.tuple #[.slice none 0 0,.int .i64 1])) W):=zA (λW hx=>FrmIs.err (by unfold zO;rw[if_pos hE,hqq];rfl) hx);have HQ:=zA (λW=>zDK q W hq);rw[hqq,if_neg (by decide)] at HQ;generalize zO wd hi L q=fz at *;have hps:=zA (jB wd hi (.slice A n c));have hqs:=zA ((zK q).trans hq);generalize yX wd hi (.slice A n c)=pv at *;generalize bv q=qv at *;clear hr hE;go_enter func13,ntmps13
 go_wp2_with (first
  | ((with_reducible apply gS 2);refine wBox rfl 31 (.tmp 0) rfl pv rfl ?_;intro w1 g1 hb1 hx1 hg1)
  | ((with_reducible apply gS 3);refine wBox rfl 33 (.tmp 1) rfl qv rfl ?_;intro w2 g2 hb2 hx2 hg2;have hb12:=hb1.ext hx2;have hx12:=hx1.trans hx2)
  | ((with_reducible apply gS 14);refine wLdB rfl 31 (.tmp 2) rfl g1 rfl hb12 _ underlying31 rfl 3 qY hps.out ?_)
  | (go_at_call 29;(with_reducible refine (HC.out _ hx12).mono ?_);rintro e w3 ⟨rfl,hx3⟩;have hb23:=hb2.ext hx3;have hx13:=hx12.trans hx3)
  | ((with_reducible apply gS 18);refine wLdB rfl 33 (.tmp 3) rfl g2 rfl hb23 _ underlying33 rfl 64 zJ hqs.out ?_)
  | (go_at_call 15;(with_reducible refine (HQ.out _).mono ?_);rintro e w4 ⟨rfl,hx4⟩))
 go_ret2;exact HE.out _ (hx13.trans hx4)
def zRZ (wd hi:Int) (L:List (List Int)) (A:Option Addr) (n c:Nat) (q:List Int) (hq:q.length=64) (w:World) (hr:RowsS w A n c L) (hE:zDM wd hi L=0) (hqq:zR q 1 255=true) :
 Calls prog 13 #[.agg (yX wd hi (.slice A n c)),.agg (bv q)] w (FrmIs (zO wd hi L q) w):=by
 have HC:=zA (λW (hx:Ext w W)=>zMD wd hi L A n c W (hr.ext hx));rw[hE] at HC;obtain⟨hL,N,hN,hNl⟩:=picE_ok hE;have HT:=zA (λW (hx:Ext w W)=>zTt 39 tto tto_by goesTo A n c L N W hL hNl hN (hr.ext hx));have hR3:=zPy tto L hL;have HZ:Hid (zO wd hi L q=(0,zAs wd hi (zCW tto L),zBV q wd hi (zCW tto L))):=zA (by unfold zO;rw[if_pos hE,hqq];rfl);have HQ:=zA (λW=>zDK q W hq);rw[hqq,if_pos rfl] at HQ;unfold TurnIs at HT;have HCU:=zA (λ(l:List Int) v W (h:SL W 1 v l.length (ints l))=>cut_anyF l v wd hi W h);unfold CutFr at HCU;have HWA:=zA (λ(b:List Int) W (h:b.length=64)=>zUx b W h);have HDW:=zA (λ(b:List Int) W (h:b.length=64)=>down_any b q W h hq);have HQL:=zA hq;generalize zCW tto L=R at *;generalize zO wd hi L q=fz at *;have hps:=zA (jB wd hi (.slice A n c));have hqs:=zA ((zK q).trans hq);have HPC:=zA (λ(W:World) g (h:Blk W g 31 (yX wd hi (.slice A n c)))=>zAM h);generalize yX wd hi (.slice A n c)=pv at *;have HQV:Hid (bv q=bv q):=zA rfl;generalize hqv:bv q=qv at *;clear hr hE hL hNl hN HQV;go_enter func13,ntmps13
 go_upto_region 8 with (first
  | ((with_reducible apply gS 2);refine wBox rfl 31 (.tmp 0) rfl pv rfl ?_;intro w1 g1 hb1 hx1 hg1)
  | ((with_reducible apply gS 3);refine wBox rfl 33 (.tmp 1) rfl qv rfl ?_;intro w2 g2 hb2 hx2 hg2;have hb12:=hb1.ext hx2;have hx12:=hx1.trans hx2)
  | ((with_reducible apply gS 14);refine wLdB rfl 31 (.tmp 2) rfl g1 rfl hb12 _ underlying31 rfl 3 qY hps.out ?_)
  | (go_at_call 29;(with_reducible refine (HC.out _ hx12).mono ?_);rintro e w3 ⟨rfl,hx3⟩;have hb13:=hb12.ext hx3;have hb23:=hb2.ext hx3;have hx13:=hx12.trans hx3)
  | ((with_reducible apply gS 18);refine wLdB rfl 33 (.tmp 3) rfl g2 rfl hb23 _ underlying33 rfl 64 zJ hqs.out ?_)
  | (go_at_call 15;(with_reducible refine (HQ.out _).mono ?_);rintro e w4 ⟨rfl,hx4⟩;have hb14:=hb13.ext hx4;have hb24:=hb23.ext hx4;have hx14:=hx13.trans hx4;have hpc:=HPC.out _ _ hb14)
  | ((with_reducible apply gS 24);refine yU rfl (.slice A n c) (zFB rfl rfl hpc.2.2) ?_)
  | (go_at_call 38;(with_reducible refine (HT.out _ hx14).mono ?_);rintro e w5 ⟨TA,m,tc,rfl,hrows,hx5⟩;have hb15:=hb14.ext hx5;have hb25:=hb24.ext hx5;have hx15:=hx14.trans hx5))
 have hRm:=hrows.len;have HRW:=zA hrows;have hm3:m≤3:=by omega
 have own0:w5.ownsRow w5.heap.size 33 64 (.slice none 0 0) 0 (ints (zBV q wd hi (R.take 0))):=zAm _ _ _ _;have hg1':g1<w5.heap.size:=hb15.lt;have hg2':g2<w5.heap.size:=hb25.lt;clear hrows hpc
 go_loopw [7,27] (λov iv wr=>∃(k:Nat) (OA:Option Addr) (on oc:Nat),k≤m∧iv=.int .i64 (k:Int)∧ov=.slice OA on oc∧Hid (on=zAs wd hi (R.take k))∧wr.ownsRow w5.heap.size 33 64 (.slice OA on oc) on (ints (zBV q wd hi (R.take k)))∧Blk wr g1 31 pv∧Blk wr g2 33 qv∧Ext w5 wr∧Ext w wr) (λ_ i _=>m-(intOf i).toNat)
 case atStart=>exact⟨0,none,0,0,by omega,rfl,rfl,zA rfl,own0,hb15,hb25,Ext.refl _,hx15⟩
 case round =>
  clear own0 hb15 hb25 hx15;obtain⟨k,OA,on,oc,hk,rfl,rfl,hon,ho,hb1,hb2,hx5r,hx⟩:=hrel
  by_cases hkm:k<m
  ·obtain⟨ad,l,LA,ld,rfl,hRk,hab,hcell,hsl⟩:=HRW.out.get hkm;have hcl:wr.cell? (ad.add (k*1))=some (.slice LA l.length ld):=by rw[wD8,(hx5r.cell (by rw[yH];exact hab)).trans hcell]
   have hsl':=hsl.ext hx5r;have hfn:=zA (zSv wd hi R k l hRk);have hfz:=zA (zTX q wd hi R k l hRk);have hon64:on≤192:=by have:=zJf wd hi R k;rw[←hon.out] at this;omega
   have hcle:=zRJ l wd hi;have HCl:=zA (HCU.out l (.slice LA l.length ld) wr hsl');have hcz:=cutRZ_len l wd hi;have hpc:=HPC.out _ _ hb1;generalize vT l wd hi=cn at *;generalize zBc l wd hi=CZ at *;generalize l.length=ll at *;generalize zAD l wd hi=ce at *;clear hcell hsl hsl' hRk
   go_upto_region 12 with (first
    | ((with_reducible apply gS 29);refine zB rfl (.pointer (some (ad.add (k*1)))) (qP (i:=k) underlying29 uL rfl rfl rfl hkm) ?_)
    | ((with_reducible apply gS 30);refine yU rfl (.slice LA ll ld) (jV rfl rfl hcl) ?_)
    | ((with_reducible apply gS 34);refine yU rfl (.int .i64 wd) (zS rfl rfl hpc.1) ?_)
    | ((with_reducible apply gS 36);refine yU rfl (.int .i64 hi) (zS rfl rfl hpc.2.1) ?_)
    | (go_at_call 40;(with_reducible refine HCl.out.mono ?_);rintro e w6 ⟨CA,cc,rfl,hcs,hx6,hfr⟩;have ho6:=yE ho hx6;have hb16:=hb1.ext hx6;have hb26:=hb2.ext hx6;have hx56:=hx5r.trans hx6;have hx06:=hx.trans hx6))
   have hne0:∀ad,CA=some ad→(Value.slice OA (on+0) oc).ownBlock≠some ad.block:=λad e q=>by have:=hfr ad e;have:=(ho.lt ad.block (by simpa using q)).2;omega
   have own1:w6.ownsRow w5.heap.size 33 64 (.slice OA on oc) (on+0) (ints (zBV q wd hi (R.take k)++zAa q CZ 0)):=by simpa [zAa] using ho6
   clear ho hb1 hb2 hx hcl hpc
   go_loopw [7,42] (λov iv wr=>∃(j:Nat) (OA:Option Addr) (oc:Nat),j≤cn∧iv=.int .i64 (j:Int)∧ov=.slice OA (on+j) oc∧wr.ownsRow w5.heap.size 33 64 (.slice OA (on+j) oc) (on+j) (ints (zBV q wd hi (R.take k)++zAa q CZ j))∧SL wr 64 (.slice CA cn cc) cn (ints CZ)∧(∀ad,CA=some ad→(Value.slice OA (on+j) oc).ownBlock≠some ad.block)∧Blk wr g1 31 pv∧Blk wr g2 33 qv∧Ext w5 wr∧Ext w wr) (λ_ i _=>cn-(intOf i).toNat)
   case atStart=>exact⟨0,OA,oc,by omega,rfl,rfl,own1,hcs,hne0,hb16,hb26,hx56,hx06⟩
   case round =>
    clear own1 ho6 hb16 hb26 hx06 hx56 hx5r hcs hne0;obtain⟨j,OA,oc,hj,rfl,rfl,ho,hcs,hne,hb1,hb2,hx5r,hx⟩:=hrel
    by_cases hjc:j<cn
    ·obtain⟨bd,hbd,hbb,hca⟩:=hcs.part hjc
     have hca':zAg wr (bd.add (j*64)) (ints (qF CZ j)):=by
      have e:((ints CZ).drop (j*64)).take 64=ints (qF CZ j):=by unfold ints qF;rw[List.map_drop.symm,List.map_take.symm]
      rw[←e];exact hca
     obtain rfl:=hbd;have hpl:(qF CZ j).length=64:=by unfold qF;rw[wF1,wE8,hcz];omega
     have HMB:Hid (zAa q CZ (j+1)=zAa q CZ j++blkF (qF CZ j) q):=zA (by rw[zAa]);have HBF:Hid (blkF (qF CZ j) q=(vN zBO (uB toC (qF CZ j)).1 q 40000).1):=zA rfl;have hBL:=zLl (qF CZ j) q HQL.out;generalize qF CZ j=P at *;have HW:=zA (λW=>HWA.out P W hpl);have hwl:=zCl toC P;have HD:=zA (λW=>HDW.out (uB toC P).1 W hwl);rw[←HBF.out] at HD;generalize (uB toC P).1=P2 at *;generalize (uB toC P).2=ew at *;generalize (vN zBO P2 q 40000).2=ed at *;generalize hP3:blkF P q=P3 at *;clear hca hP3 HBF;have s1:=zA ((zK P).trans hpl);have s2:=zA ((zK P2).trans hwl);have s3:=zA ((zK P3).trans hBL);have o1:=zA (xR P);have o2:=zA (xR P2);have o3:=zA (xR P3);have hipl:(ints P).length=64:=by rw[yI,hpl]
     have hzs:Hid ((Value.agg (bv xC)).cells.size=64):=zA zero48c
     go_wp2_with (first
      | ((with_reducible apply gS 44);refine zB rfl (.pointer (some (bd.add (j*64)))) (qP (i:=j) underlying25 zJ rfl rfl rfl hjc) ?_)
      | ((with_reducible apply gS 45);refine yZ (by rfl) 33 (.tmp 44) rfl (bd.add (j*64)) rfl (ints P) _ hca' underlying33 rfl (by rw[hipl];exact zJ) ?_)
      | ((with_reducible apply gS 13);refine wAlo' rfl (some 13) rfl 33 rfl _ jX ?_;intro w8 g8 hb8 hx8 hg8;have h18:=hb1.ext hx8;have h28:=hb2.ext hx8;have ho8:=yE ho hx8)
      | ((with_reducible apply gT 13 45);refine wStB rfl 33 (.tmp 13) (.tmp 45) rfl g8 (bv P) rfl rfl hb8 64 zJ s1.out hzs.out o1.out ?_;intro w9 hb9 hg9;have hx9:=hx8.grown hg9 hg8)
      | ((with_reducible apply gS 47);refine wLdB rfl 33 (.tmp 13) rfl g8 rfl hb9 _ underlying33 rfl 64 zJ s1.out ?_)
      | (go_at_call 41;(with_reducible refine (HW.out _).mono ?_);rintro e w10 ⟨rfl,hx10⟩;have hb10:=hb9.ext hx10;have hxa:=hx9.trans hx10)
      | ((with_reducible apply gT 13 49);refine wStB rfl 33 (.tmp 13) (.tmp 49) rfl g8 (bv P2) rfl rfl hb10 64 zJ s2.out s1.out o2.out ?_;intro w11 hb11 hg11;have hxb:=hxa.grown hg11 hg8;have hq11:=hb2.ext hxb)
      | ((with_reducible apply gS 52);refine wLdB rfl 33 (.tmp 13) rfl g8 rfl hb11 _ underlying33 rfl 64 zJ s2.out ?_)
      | ((with_reducible apply gS 53);refine wLdB rfl 33 (.tmp 3) rfl g2 rfl hq11 _ underlying33 rfl 64 zJ hqs.out ?_)
      | (go_at_call 42;(with_reducible refine (HD.out _).mono ?_);rintro e w12 ⟨rfl,hx12'⟩;have hb12':=hb11.ext hx12';have hxc:=hxb.trans hx12')
      | ((with_reducible apply gT 13 55);refine wStB rfl 33 (.tmp 13) (.tmp 55) rfl g8 (bv P3) rfl rfl hb12' 64 zJ s3.out s2.out o3.out ?_;intro w13 hb13' hg13;have hxd:=hxc.grown hg13 hg8)
      | ((with_reducible apply gS 58);refine wLdB rfl 33 (.tmp 13) rfl g8 rfl hb13' _ underlying33 rfl 64 zJ s3.out ?_)
      | ((with_reducible apply gS 59);refine wLit1 rfl 25 33 (.tmp 58) rfl (some 59) rfl underlying25 64 zJ zero48' (.agg (bv P3)) rfl s3.out (by omega) (by omega) ?_;intro w14 g14 hb14' hx14' hg14;have hxe:=hxd.trans hx14';have ho14:=yE ho hxe)
      | ((with_reducible apply gS 60);refine wApf zFd rfl (.tmp 57) (.tmp 59) rfl w5.heap.size (.slice OA (on+j) oc) (on+j) (ints (zBV q wd hi (R.take k)++zAa q CZ j)) rfl ho14 _ 1 (ints P3) rfl (blk_sl1 hb14' hBL) (qK P3) (by omega) (by omega) (hx5r.trans hxe).size ?_;intro A15 c15 w15 ho15 hg15 hr15;have hug:=zM hg15))
     have hlo:=ho14.lt;have hBx:∀y,(Value.slice OA (on+j) oc).ownBlock=some y→w5.heap.size≤y:=λy hy=>(hlo y hy).1
     have hb1z:=hb1.ext hxe;have hb2z:=hb2.ext hxe;go_roundw
     case rel =>
      refine⟨j+1,A15,c15,by omega,by go_num,by rw[wA0], ?_, ?_⟩
      ·rw[HMB.out, ←wI7,vP];exact ho15
      have hx5z:=Below.grown (hx5r.trans hxe) hg15 (hx5r.trans hxe).size (λy hy=>hBx y hy);have hxz:=Below.grown (hx.trans hxe) hg15 (hx.trans hxe).size (λy hy=>by have:=hBx y hy;have:=hx5r.size;have:=hg1';omega);refine⟨(hcs.ext hxe).upd0 hug (λ_ ad' e q=>hne ad' e q),λad' e q=> ?_,hug.blk hb1z (λq=>by have:=hBx _ q;have:=hg1';omega),hug.blk hb2z (λq=>by have:=hBx _ q;have:=hg2';omega),hx5z,hxz⟩;rw[zCT] at q;rcases hr15 with h | h
      ·rw[h] at q;exact hne ad' e q
      rw[h] at q;injection q with q
      injection e with e
      subst e;have:=hxe.size;omega
     case measure=>simp[intOf];omega
    obtain rfl:j=cn:=by omega
    go_wp2_with fail;go_roundw
    case rel=>exact⟨k+1,OA,on+j,oc,by omega,by go_num,rfl,zA (by rw[hfn.out,hon.out]),by rw[hfz.out];exact ho,hb1,hb2,hx5r,hx⟩
    case measure=>simp[intOf];omega
  obtain rfl:k=m:=by omega
  rw[←hRm,wP0] at hon ho;go_wp2_with fail;go_ret2;rw[HZ.out];refine⟨OA,oc, ?_, ?_,hx⟩
  ·rw[←hon.out];rfl
  show SL wr 64 (.slice OA (zAs wd hi R) oc) (zAs wd hi R) _
  rw[←hon.out];exact (jC ho).1
def zEl (wd hi:Int) (L:List (List Int)) (A:Option Addr) (n c:Nat) (q:List Int) (hq:q.length=64) (w:World) (hr:RowsS w A n c L) :
 Calls prog 13 #[.agg (yX wd hi (.slice A n c)),.agg (bv q)] w (FrmIs (zO wd hi L q) w):=by
 by_cases hE:zDM wd hi L=0
 ·cases hqq:zR q 1 255 with
  | false=>exact zQK wd hi L A n c q hq w hr hE hqq
  | true=>exact zRZ wd hi L A n c q hq w hr hE hqq
 exact zTI wd hi L A n c q hq w hr hE
def zKs (wd hi:Int) (L:List (List Int)) (q:List Int) (hq:q.length=64):(zO wd hi L q).2.2.length=(zO wd hi L q).2.1*64:=by
 unfold zO;split
 ·split
  ·exact zMX q hq wd hi _
  rfl
 rfl
def zEZ (wd y x:Nat):Nat:=(y/8*((wd+7)/8)+x/8)*64+(y%8*8+x%8)
def zMR (Z:List Int) (wd y x:Nat):Int:=jY (Z.getD (zEZ wd y x) 0+128) 0 255
def zIE (Z:List Int) (wd hi:Nat):List Int:=(List.range (wd*hi)).map λp=>zMR Z wd (p/wd) (p%wd)
def zJb (Z:List Int) (wd hi:Nat):(zIE Z wd hi).length=wd*hi:=by simp[zIE]
def uY (Z:List Int) (wd hi m:Nat):List Int:=(List.range (wd*hi)).map λp=>if zEZ wd (p/wd) (p%wd)<m then zMR Z wd (p/wd) (p%wd) else 0
def zGm (Z:List Int) (wd hi m:Nat):(uY Z wd hi m).length=wd*hi:=by simp[uY]
def zSX (Z:List Int) (wd hi:Nat):uY Z wd hi 0=List.replicate (wd*hi) 0:=by
 unfold uY;apply wL7
 ·simp
 intro i h1 h2;simp
def jidx_at (wd k j:Nat) (hj:j<64):zEZ wd (k/((wd+7)/8)*8+j/8) (k%((wd+7)/8)*8+j%8)=k*64+j:=by
 unfold zEZ;generalize (wd+7)/8=c;have h1:(k/c*8+j/8)/8=k/c:=by omega
 have h2:(k/c*8+j/8)%8=j/8:=by omega
 have h3:(k%c*8+j%8)/8=k%c:=by omega
 have h4:(k%c*8+j%8)%8=j%8:=by omega
 rw[h1,h2,h3,h4,wE5 (k/c) c,wP3];omega
def zRp (wd y x k j:Nat) (hx:x<wd) (hj:j<64) (h:zEZ wd y x=k*64+j):k/((wd+7)/8)*8+j/8=y∧k%((wd+7)/8)*8+j%8=x:=by
 unfold zEZ at h;have hc:x/8<(wd+7)/8:=by omega
 generalize (wd+7)/8=c at *;have h1:y/8*c+x/8=k:=by omega
 have h2:y%8*8+x%8=j:=by omega
 have h3:k/c=y/8:=by rw[←h1,wB0,Nat.add_mul_div_right _ _ (by omega),wF0 hc,wB2]
 have h4:k%c=x/8:=by rw[←h1,wB0,wP4,wE6 hc]
 rw[h3,h4];omega
def zSm (Z:List Int) (wd hi k j:Nat) (hj:j<64) (hr:k/((wd+7)/8)*8+j/8<hi) (hq:k%((wd+7)/8)*8+j%8<wd) :
 (uY Z wd hi (k*64+j)).set ((k/((wd+7)/8)*8+j/8)*wd+(k%((wd+7)/8)*8+j%8)) (jY (Z.getD (k*64+j) 0+128) 0 255)=uY Z wd hi (k*64+(j+1)):=by
 have hi1:=jidx_at wd k j hj;have hinv:=λy x hx h=>zRp wd y x k j hx hj h
 generalize k/((wd+7)/8)*8+j/8=r at *;generalize k%((wd+7)/8)*8+j%8=q at *;apply wL7
 ·simp[zGm]
 intro p h1 h2;have hp:p<wd*hi:=by simpa [zGm] using h2
 have hw:0<wd:=by omega
 rw[wM2]
 by_cases e:r*wd+q=p
 ·rw[if_pos e];have e1:p/wd=r:=by rw[←e,wB0,Nat.add_mul_div_right _ _ hw,wF0 hq,wB2]
  have e2:p%wd=q:=by rw[←e,wB0,wP4,wE6 hq]
  simp only[uY,wL8,wL9,e1,e2,zMR,hi1];rw[if_pos (by omega)]
 rw[if_neg e];simp only[uY,wL8,wL9]
 have hne:zEZ wd (p/wd) (p%wd)≠k*64+j:=by
  intro h;obtain⟨a,b⟩:=hinv _ _ (wN6 _ hw) h;apply e;rw[a,b,wE5,wP3]
 by_cases hlt:zEZ wd (p/wd) (p%wd)<k*64+j
 ·rw[if_pos hlt,if_pos (by omega)]
 rw[if_neg hlt,if_neg (by omega)]
def zQi (Z:List Int) (wd hi k j:Nat) (hj:j<64) (h:¬(k/((wd+7)/8)*8+j/8<hi∧k%((wd+7)/8)*8+j%8<wd)):uY Z wd hi (k*64+j)=uY Z wd hi (k*64+(j+1)):=by
 have hinv:=λy x hx h=>zRp wd y x k j hx hj h
 unfold uY;apply wF7;intro p hp;have hp':p<wd*hi:=wF2.1 hp;rcases wI0 wd with h0 | hw
 ·subst h0;omega
 have hy:p/wd<hi:=wP5 hp'
 have hne:zEZ wd (p/wd) (p%wd)≠k*64+j:=by
  intro h9;obtain⟨a,b⟩:=hinv _ _ (wN6 _ hw) h9;apply h;rw[a,b];exact⟨hy,wN6 _ hw⟩
 by_cases hlt:zEZ wd (p/wd) (p%wd)<k*64+j
 ·rw[if_pos hlt,if_pos (by omega)]
 rw[if_neg hlt,if_neg (by omega)]
def jidx_lt (wd hi y x:Nat) (hx:x<wd) (hy:y<hi):zEZ wd y x<zT wd hi*64:=by
 unfold zEZ zT;have h1:x/8<(wd+7)/8:=by omega
 have h2:y/8<(hi+7)/8:=by omega
 generalize (wd+7)/8=c at *;generalize (hi+7)/8=d at *;have h3:(y/8+1)*c≤d*c:=wO9 _ h2;rw[wE3,wE5 d c] at h3;have h4:y/8*c+x/8+1≤c*d:=by omega
 have h5:=wO9 64 h4;omega
def zTZ (Z:List Int) (wd hi:Nat):uY Z wd hi (zT wd hi*64)=zIE Z wd hi:=by
 unfold uY zIE;apply wF7;intro p hp;have hp':p<wd*hi:=wF2.1 hp;rcases wI0 wd with h0 | hw
 ·subst h0;omega
 rw[if_pos (jidx_lt wd hi _ _ (wN6 _ hw) (wP5 hp'))]
def zDz (n:Nat) (Z:List Int) (wd hi:Int) (s:Int):Int:=if s=0 then (if n=zT wd.toNat hi.toNat then (if zR Z (-40000) 40000 then 0 else 1) else 4) else 1
def join1_any (z:Int) (w:World):Calls prog 168 (#[.int .i64 z]++ #[]) w λe w'=>e=.returned (.bool (!inB z (-40000) 40000))∧w=w':=by
 by_cases h:z< -40000
 ·have h':decide (z< -40000)=true:=by simpa using h
  have e:inB z (-40000) 40000=false:=zCe.2 (by omega);rw[e];clear e;go_enter func168,ntmps168;go_wp2_with fail;go_ret;exact⟨rfl,rfl⟩
 have h':decide (z< -40000)=false:=by simpa using h
 have e:(!inB z (-40000) 40000)=decide (40000<z):=by rw[wC8];simp[inB];omega
 rw[e];clear e;go_enter func168,ntmps168;go_wp2_with fail;go_ret;exact⟨rfl,rfl⟩
def zSh:uN prog 168:=zAd func168 (by kernel_rfl) rfl
def zHn {w:World} {A:Option Addr} {n c k:Nat} {Z:List Int} (hv:SL w 64 (.slice A n c) n (ints Z)) (hz:Z.length=n*64) (hk:k<n) :
 ∃ad zs,A=some ad∧ad.block<w.heap.size∧zAg w (ad.add (k*64)) (ints zs)∧zs=(Z.drop (k*64)).take 64∧zs.length=64:=by
 obtain⟨ad,rfl,hab,hca⟩:=hv.part hk;have e:((ints Z).drop (k*64)).take 64=ints ((Z.drop (k*64)).take 64):=by simp[ints,wO1,wO0]
 exact⟨ad,_,rfl,hab,by rw[←e];exact hca,rfl,by rw[wF1,wE8,hz];omega⟩
def zIP {zs:List Int} (h:zs.length=64):(ints zs).toArray.size=64:=by simp[yI,h]
def zFe:(Value.agg (bv xC)).cells.size=64:=by rw[show (Value.agg (bv xC)).cells=bv xC from rfl,zK];rfl
def zHO (n:Nat) (Z:List Int) (wd hi:Int) (w:World) (e:Ending) (w':World):Prop :=
 ∃A m c,e=.returned (.tuple #[.slice A m c,.int .i64 (zDz n Z wd hi (xX wd hi))])∧m=(if zDz n Z wd hi (xX wd hi)=0 then wd.toNat*hi.toNat else 0)∧SL w' 1 (.slice A m c) m (ints (if zDz n Z wd hi (xX wd hi)=0 then zIE Z wd.toNat hi.toNat else []))∧Ext w w'∧∀ad,A=some ad→w.heap.size≤ad.block
def zLb {n:Nat} {Z:List Int} {wd hi:Int} {w w':World} {e:Ending} {k:Int} (hk:zDz n Z wd hi (xX wd hi)=k) (h0:k≠0) (he:e=.returned (.tuple #[.slice none 0 0,.int .i64 k])) (hx:Ext w w'):zHO n Z wd hi w e w':=by unfold zHO;rw[hk];refine⟨none,0,0,he,by rw[if_neg h0], ?_,hx,λ_ e=>by cases e⟩;rw[if_neg h0];exact SL.nil _ _
def zUA (n:Nat) (Z:List Int) (v:Value) (wd hi:Int) (w:World) (hv:SL w 64 v n (ints Z)) (hz:Z.length=n*64) (h:xX wd hi≠0) :
 Calls prog 114 #[v,.int .i64 wd,.int .i64 hi] w λe w'=>e=.returned (.tuple #[.slice none 0 0,.int .i64 1])∧Ext w w':=by
 have HK:=zA (λW=>zAO wd hi W);rw[zIA h] at HK;clear h;have hbv: #[Value.int .i64 wd,Value.int .i64 hi]=jJ wd hi:=rfl;have hts:=zA (zAG wd hi);have ho:=zA (zBY wd hi);have HZ0:=zA jX;generalize jJ wd hi=av at *;have HZ:=zA hz;clear hz;have hv':=hv;obtain⟨A,c,rfl,hc1,hc2,-,-⟩:=hv';go_enter func114,ntmps114
 go_wp2_with (first
               | (refine wAlo' rfl (some 8) rfl 128 rfl _ zCO ?_;intro w1 g hb1 hx1 hg)
               | (refine wStB rfl 128 (.tmp 8) (.tmp 21) rfl _ _ rfl rfl hb1 2 qC hts.out rfl ho.out ?_;intro w2 hb2 hg2;have hx2:=hx1.grown hg2 (by omega))
               | (refine wLdB rfl 128 (.tmp 8) rfl _ rfl hb2 _ underlying128 rfl 2 qC hts.out ?_)
               | (go_at_call 87;(with_reducible refine (HK.out _).mono ?_);rintro e w3 ⟨rfl,hx3⟩;have hx23:=hx2.trans hx3;have hb3:=hb2.ext hx3))
 go_loopw [9,35] (λs i wr=>∃k:Nat,k≤n∧i=.int .i64 (k:Int)∧s=.int .i64 1∧Ext w wr) (λ_ i _=>n-(intOf i).toNat)
 case atStart=>exact⟨0,by omega,rfl,rfl,hx23⟩
 case round =>
  obtain⟨k,hk,rfl,rfl,hx⟩:=hrel
  by_cases hlt:k<n
  ·obtain⟨ad,zs,rfl,hab,hca,-,hl⟩:=zHn (hv.ext hx) HZ.out hlt;have HCA:=zA hca;have HL:=zA hl;clear hca hl
   go_wp2_with (first
    | (refine yZ (by rfl) 33 (.tmp 37) rfl (ad.add (k*64)) rfl (ints zs) _ HCA.out underlying33 rfl (by rw[yI,HL.out];exact zJ) ?_)
    | (refine wAlo' rfl (some 11) rfl 33 rfl _ HZ0.out ?_;intro w7 g7 hb7 hx7 hg7)
    | (refine wStB rfl 33 (.tmp 11) (.tmp 38) rfl _ _ rfl rfl hb7 64 zJ (zIP HL.out) zFe (xR zs) ?_;intro w8 hb8 hg8;have hx8:=hx7.grown hg8 (by omega)))
   go_roundw
   case rel=>exact⟨k+1,by omega,by go_num,rfl,hx.trans hx8⟩
   case measure=>simp[intOf];omega
  go_wp2_with fail;go_ret2;exact⟨rfl,hx⟩
def join_many (n:Nat) (Z:List Int) (v:Value) (wd hi:Nat) (w:World) (hv:SL w 64 v n (ints Z)) (hz:Z.length=n*64) (h0:xX wd hi=0) (a1:1≤wd) (a2:wd≤64) (b1:1≤hi) (b2:hi≤64) (h:n≠zT wd hi) :
 Calls prog 114 #[v,.int .i64 wd,.int .i64 hi] w λe w'=>e=.returned (.tuple #[.slice none 0 0,.int .i64 4])∧Ext w w':=by
 have HK:=zA (λW=>zAO wd hi W);rw[h0] at HK;clear h0;have HM:=zA (λW=>zID wd hi W a1 a2 b1 b2);have hcn:(wd+7)/8*((hi+7)/8)=zT wd hi:=rfl;rw[hcn] at HM;clear hcn;generalize zT wd hi=N at *;have hne:((n:Int) !=(N:Int))=true:=by simp;omega
 have hneq:(n ==N)=false:=by simpa using h
 clear h;have hbv: #[Value.int .i64 wd,Value.int .i64 hi]=jJ wd hi:=rfl;have hts:=zA (zAG wd hi);have ho:=zA (zBY wd hi);have HZ0:=zA jX;generalize jJ wd hi=av at *;have HZ:=zA hz;clear hz;have hv':=hv;obtain⟨A,c,rfl,hc1,hc2,-,-⟩:=hv';go_enter func114,ntmps114
 go_wp2_with (first
               | (refine wAlo' rfl (some 8) rfl 128 rfl _ zCO ?_;intro w1 g hb1 hx1 hg)
               | (refine wStB rfl 128 (.tmp 8) (.tmp 21) rfl _ _ rfl rfl hb1 2 qC hts.out rfl ho.out ?_;intro w2 hb2 hg2;have hx2:=hx1.grown hg2 (by omega))
               | (refine wLdB rfl 128 (.tmp 8) rfl _ rfl hb2 _ underlying128 rfl 2 qC hts.out ?_)
               | (go_at_call 87;(with_reducible refine (HK.out _).mono ?_);rintro e w3 ⟨rfl,hx3⟩;have hx23:=hx2.trans hx3;have hb3:=hb2.ext hx3)
               | (refine zFG (by rfl) 128 (.tmp 8) rfl _ rfl hb3 _ underlying128 rfl 2 qC hts.out ?_)
               | (go_at_call 90;(with_reducible refine (HM.out _).mono ?_);rintro e w5 ⟨rfl,hx5⟩;have hb5:=hb3.ext hx5;have hx35:=hx23.trans hx5))
 go_loopw [9,35] (λs i wr=>∃k:Nat,k≤n∧i=.int .i64 (k:Int)∧s=.int .i64 4∧Ext w wr) (λ_ i _=>n-(intOf i).toNat)
 case atStart=>exact⟨0,by omega,rfl,rfl,hx35⟩
 case round =>
  obtain⟨k,hk,rfl,rfl,hx⟩:=hrel
  by_cases hlt:k<n
  ·obtain⟨ad,zs,rfl,hab,hca,-,hl⟩:=zHn (hv.ext hx) HZ.out hlt;have HCA:=zA hca;have HL:=zA hl;clear hca hl
   go_wp2_with (first
    | (refine yZ (by rfl) 33 (.tmp 37) rfl (ad.add (k*64)) rfl (ints zs) _ HCA.out underlying33 rfl (by rw[yI,HL.out];exact zJ) ?_)
    | (refine wAlo' rfl (some 11) rfl 33 rfl _ HZ0.out ?_;intro w7 g7 hb7 hx7 hg7)
    | (refine wStB rfl 33 (.tmp 11) (.tmp 38) rfl _ _ rfl rfl hb7 64 zJ (zIP HL.out) zFe (xR zs) ?_;intro w8 hb8 hg8;have hx8:=hx7.grown hg8 (by omega)))
   go_roundw
   case rel=>exact⟨k+1,by omega,by go_num,rfl,hx.trans hx8⟩
   case measure=>simp[intOf];omega
  go_wp2_with fail;go_ret2;exact⟨rfl,hx⟩
def allIn_app (xs ys:List Int) (lo hi:Int):zR (xs++ys) lo hi=(zR xs lo hi&&zR ys lo hi):=by simp[zR]
def take_next (Z:List Int) (k:Nat):Z.take ((k+1)*64)=Z.take (k*64)++(Z.drop (k*64)).take 64:=by rw[show (k+1)*64=k*64+64 by omega,List.take_add]
def zSK {w:World} {g:Nat} {t:TypeId} {zs:List Int} (h:Blk w g t (ints zs).toArray) (hl:zs.length=64):SL w 1 (.slice (some ⟨g,0,none⟩) 64 64) zs.length (ints zs):=by
 have:=Blk.bsl (zs:=zs) (c:=64) h (by omega) (by omega)
 rwa [hl] at this ⊢
def clampI (z:Int):min (max z 0) 255=jY z 0 255:=min_max z 0 255 (by decide)
def join_in (n:Nat) (Z:List Int) (v:Value) (wd hi:Nat) (w:World) (hv:SL w 64 v n (ints Z)) (hz:Z.length=n*64) (h0:xX wd hi=0) (a1:1≤wd) (a2:wd≤64) (b1:1≤hi) (b2:hi≤64) (h:n=zT wd hi) :
 Calls prog 114 #[v,.int .i64 wd,.int .i64 hi] w (zHO n Z wd hi w):=by
 have HK:=zA (λW=>zAO wd hi W);have HE:Hid (zDz n Z wd hi (xX wd hi)=if zR Z (-40000) 40000 then 0 else 1):=zA (by unfold zDz;rw[h0,if_pos rfl];simp only[wD7];rw[if_pos h]);rw[h0] at HK;clear h0;have HM:=zA (λW=>zID wd hi W a1 a2 b1 b2)
 have HP:Hid (∀k j,k<64→j<64→∃r q:Nat,Hid (r=k/((wd+7)/8)*8+j/8∧q=k%((wd+7)/8)*8+j%8)∧∀W,Calls prog 91 #[.agg (jJ wd hi),.int .i64 (k:Int),.int .i64 (j:Int)] W λe w' =>
  e=.returned (.tuple #[.int .i64 ((r:Nat):Int),.int .i64 ((q:Nat):Int)])∧Ext W w'):=zA λk j hk hj=>⟨_,_,zA ⟨rfl,rfl⟩,λW=>zPL wd hi k j W a1 a2 hk hj⟩
 have hcn:(wd+7)/8*((hi+7)/8)=zT wd hi:=rfl;rw[hcn, ←h] at HM;clear hcn;have hn64:n≤64:=by rw[h];have:(wd+7)/8*((hi+7)/8)≤8*8:=wO6 (by omega) (by omega);exact this
 have HN:=zA h;clear h;have HCF:=zA (λW u zs (hl:zs.length=64) (hs:SL W 1 u zs.length (ints zs))=>vH 168 #[] (λz=> !inB z (-40000) 40000) zSh u zs W hs (λz _=>join1_any z W));simp only[zDk] at HCF;have hm:wd*hi≤64*64:=wO6 a2 b2;obtain⟨n0,hn0⟩:∃n0,wd*hi=n0:=⟨_,rfl⟩
 have HN0:=zA hn0;rw[hn0] at hm;clear hn0;have hbv: #[Value.int .i64 wd,Value.int .i64 hi]=jJ wd hi:=rfl;have hts:=zA (zAG wd hi);have ho:=zA (zBY wd hi);have HZ0:=zA jX;generalize jJ wd hi=av at *;have HZ:=zA hz;clear hz;have hv':=hv;obtain⟨A,c,rfl,hc1,hc2,-,-⟩:=hv';go_enter func114,ntmps114
 go_wp2_with (first
               | (refine wAlo' rfl (some 8) rfl 128 rfl _ zCO ?_;intro w1 g hb1 hx1 hg)
               | (refine wStB rfl 128 (.tmp 8) (.tmp 21) rfl _ _ rfl rfl hb1 2 qC hts.out rfl ho.out ?_;intro w2 hb2 hg2;have hx2:=hx1.grown hg2 (by omega))
               | (refine wLdB rfl 128 (.tmp 8) rfl _ rfl hb2 _ underlying128 rfl 2 qC hts.out ?_)
               | (go_at_call 87;(with_reducible refine (HK.out _).mono ?_);rintro e w3 ⟨rfl,hx3⟩;have hx23:=hx2.trans hx3;have hb3:=hb2.ext hx3)
               | (refine zFG (by rfl) 128 (.tmp 8) rfl _ rfl hb3 _ underlying128 rfl 2 qC hts.out ?_)
               | (go_at_call 90;(with_reducible refine (HM.out _).mono ?_);rintro e w5 ⟨rfl,hx5⟩;have hb5:=hb3.ext hx5;have hx35:=hx23.trans hx5))
 clear hb1 hb2 hb3 hx1 hx2 hx3 hx5 hx23 hg2 HK HM
 go_loopw [9,35] (λs i wr=>∃(k:Nat) (b:Bool),k≤n∧i=.int .i64 (k:Int)∧s=.int .i64 (if b then 0 else 1)∧Hid (b=zR (Z.take (k*64)) (-40000) 40000)∧Blk wr g 128 av∧Ext w wr) (λ_ i _=>n-(intOf i).toNat)
 case atStart=>exact⟨0,true,by omega,rfl,rfl,zA (by simp[zR]),hb5,hx35⟩
 case round =>
  clear hb5 hx35;obtain⟨k,b,hk,rfl,rfl,HB,hba,hx⟩:=hrel
  by_cases hlt:k<n
  ·obtain⟨ad,zs,rfl,hab,hca,hzs,hl⟩:=zHn (hv.ext hx) HZ.out hlt
   have HNX:Hid (zR (Z.take ((k+1)*64)) (-40000) 40000=(b&&zR zs (-40000) 40000)):=zA (by
    rw[HB.out,hzs, ←allIn_app, ←take_next])
   have HCA:=zA hca;have HL:=zA hl;clear hca hl hzs;have HCF2:=zA (λW u=>HCF.out W u zs HL.out);generalize hq:zR zs (-40000) 40000=q at *;clear hq
   cases b with
   | false =>
     go_wp2_with (first
      | (refine yZ (by rfl) 33 (.tmp 37) rfl (ad.add (k*64)) rfl (ints zs) _ HCA.out underlying33 rfl (by rw[yI,HL.out];exact zJ) ?_)
      | (refine wAlo' rfl (some 11) rfl 33 rfl _ HZ0.out ?_;intro w7 g7 hb7 hx7 hg7)
      | (refine wStB rfl 33 (.tmp 11) (.tmp 38) rfl _ _ rfl rfl hb7 64 zJ (zIP HL.out) zFe (xR zs) ?_;intro w8 hb8 hg8;have hx8:=hx7.grown hg8 (by omega)))
     go_roundw
     case rel=>exact⟨k+1,false,by omega,by go_num,rfl,zA (by rw[HNX.out];rfl),(hba.ext hx8),hx.trans hx8⟩
     case measure=>simp[intOf];omega
   | true =>
     cases q with
     | true =>
       go_wp2_with (first
        | (refine yZ (by rfl) 33 (.tmp 37) rfl (ad.add (k*64)) rfl (ints zs) _ HCA.out underlying33 rfl (by rw[yI,HL.out];exact zJ) ?_)
        | (refine wAlo' rfl (some 11) rfl 33 rfl _ HZ0.out ?_;intro w7 g7 hb7 hx7 hg7)
        | (refine wStB rfl 33 (.tmp 11) (.tmp 38) rfl _ _ rfl rfl hb7 64 zJ (zIP HL.out) zFe (xR zs) ?_;intro w8 hb8 hg8;have hx8:=hx7.grown hg8 (by omega))
        | (go_at_call 88;(with_reducible refine (HCF2.out _ _ (zSK hb8 HL.out)).mono ?_);rintro e w9 ⟨rfl,rfl⟩))
       go_roundw
       case rel=>exact⟨k+1,true,by omega,by go_num,rfl,zA (by rw[HNX.out];rfl),(hba.ext hx8),hx.trans hx8⟩
       case measure=>simp[intOf];omega
     | false =>
       go_wp2_with (first
        | (refine yZ (by rfl) 33 (.tmp 37) rfl (ad.add (k*64)) rfl (ints zs) _ HCA.out underlying33 rfl (by rw[yI,HL.out];exact zJ) ?_)
        | (refine wAlo' rfl (some 11) rfl 33 rfl _ HZ0.out ?_;intro w7 g7 hb7 hx7 hg7)
        | (refine wStB rfl 33 (.tmp 11) (.tmp 38) rfl _ _ rfl rfl hb7 64 zJ (zIP HL.out) zFe (xR zs) ?_;intro w8 hb8 hg8;have hx8:=hx7.grown hg8 (by omega))
        | (go_at_call 88;(with_reducible refine (HCF2.out _ _ (zSK hb8 HL.out)).mono ?_);rintro e w9 ⟨rfl,rfl⟩))
       go_roundw
       case rel=>exact⟨k+1,false,by omega,by go_num,rfl,zA (by rw[HNX.out];rfl),(hba.ext hx8),hx.trans hx8⟩
       case measure=>simp[intOf];omega
  have ek:k=n:=by omega
  have HA:Hid (zR Z (-40000) 40000=b):=zA (by rw[HB.out,ek, ←HZ.out,wP0]);rw[ek];clear ek hk hlt HB
  cases b with
  | false =>
    go_wp2_with fail;go_ret2;exact zLb (by rw[HE.out,HA.out];rfl) (by decide) rfl hx
  | true =>
    go_wp2_with (first
     | (refine zB rfl (.int .i64 ((n0:Nat):Int)) (by rw[←HN0.out];exact zCc (i:=wd) (d:=hi) rfl rfl rfl (by have:=HN0.out;omega)) ?_)
     | (refine uH rfl (some 52) rfl _ _ rfl n0 (by omega) rfl rfl ?_;intro w6 gz hbz hx6 hgz;have hb6:=hba.ext hx6;have hxx:=hx.trans hx6))
    have hgz0:w.heap.size≤gz:=by have:=hx.size;omega
    have hbz0:Blk w6 gz 3 (bv (uY Z wd hi 0)):=by rw[zSX,HN0.out];exact hbz
    clear hbz hba hx hx6
    go_loopw [55] (λi wr=>∃k:Nat,k≤n∧i=.int .i64 (k:Int)∧Blk wr gz 3 (bv (uY Z wd hi (k*64)))∧Blk wr g 128 av∧Ext w wr) (λi _=>n-(intOf i).toNat)
    case atStart=>exact⟨0,by omega,rfl,hbz0,hb6,hxx⟩
    case round =>
     clear hbz0 hb6 hxx;obtain⟨k,hk,rfl,hbo,hba,hx⟩:=hrel
     by_cases hlt:k<n
     ·obtain⟨ad,zs,rfl,hab,hca,hzs,hl⟩:=zHn (hv.ext hx) HZ.out hlt;have HCA:=zA hca;have HL:=zA hl;have HZS:=zA hzs;clear hca hl hzs
      go_wp2_with (first
       | (refine yZ (by rfl) 33 (.tmp 58) rfl (ad.add (k*64)) rfl (ints zs) _ HCA.out underlying33 rfl (by rw[yI,HL.out];exact zJ) ?_)
       | (refine wAlo' rfl (some 14) rfl 33 rfl _ HZ0.out ?_;intro w7 g7 hb7 hx7 hg7)
       | (refine wStB rfl 33 (.tmp 14) (.tmp 59) rfl _ _ rfl rfl hb7 64 zJ (zIP HL.out) zFe (xR zs) ?_;intro w8 hb8 hg8;have hx8:=hx7.grown hg8 (by omega);have hbo8:=hbo.ext hx8;have hba8:=hba.ext hx8;have hxx8:=hx.trans hx8)
       | (refine wLdB rfl 33 (.tmp 14) rfl _ rfl hb8 _ underlying33 rfl 64 zJ (zIP HL.out) ?_))
      have HBV:Hid (∀j:Nat,j<64→∃z,(bv zs)[j]? =some (.int .i64 z)∧Hid (z=Z.getD (k*64+j) 0)∧ -40000≤z∧z≤40000):=zA (λj hj=>by
       have hjl:j<zs.length:=by rw[HL.out];exact hj
       refine⟨zs[j],jQ zs j hjl,zA ?_, ?_⟩
       ·have e:=wA2 hjl;have hzs:=HZS.out;subst hzs;rw[wB8 hj,wB4] at e;rw[wH7,e];rfl
       ·have hmem:∀z∈zs,z∈Z:=λz hz=>by
         rw[HZS.out] at hz;exact wM7 (wH6 hz)
        exact yJ.1 HA.out _ (hmem _ (wC7 hjl)))
      have hbve:(ints zs).toArray=bv zs:=rfl;rw[hbve];generalize bv zs=cz at *;clear hbo hba hx hb7 hx7 hg8 hx8
      go_loopw [61] (λi wr=>∃j:Nat,j≤64∧i=.int .i64 (j:Int)∧Blk wr gz 3 (bv (uY Z wd hi (k*64+j)))∧Blk wr g 128 av∧Ext w wr) (λi _=>64-(intOf i).toNat)
      case atStart=>exact⟨0,by omega,rfl,hbo8,hba8,hxx8⟩
      case round =>
       clear hbo8 hba8 hxx8 hb8;obtain⟨j,hj,rfl,hbo,hba,hx⟩:=hrel
       by_cases hltj:j<64
       ·obtain⟨z,hcz,HZV,hz1,hz2⟩:=HBV.out j hltj;have hat:=λW=>zGk cz j _ hltj hcz W
        obtain⟨r,q,HRQ,hcall⟩:=HP.out k j (by omega) hltj;have HCALL:=zA hcall;clear hcall hcz
        by_cases hrq:r<hi∧q<wd
        ·obtain⟨hr,hq⟩:=hrq;have d1:decide (r<hi)=true:=by simpa using hr
         have d2:decide (q<wd)=true:=by simpa using hq
         go_upto_region 22 with (first
          | (refine wLdB rfl 128 (.tmp 8) rfl _ rfl hba _ underlying128 rfl 2 qC hts.out ?_)
          | (go_at_call 91;(with_reducible refine (HCALL.out _).mono ?_);rintro e w9 ⟨rfl,hx9⟩;have hbo9:=hbo.ext hx9;have hba9:=hba.ext hx9;have hxx9:=hx.trans hx9))
         have hpb:r*wd≤64*64:=wO6 (by omega) a2;obtain⟨p,hpx⟩:∃p,r*wd+q=p:=⟨_,rfl⟩
         have HPX:=zA hpx
         have hp:p<n0:=by
          have h9:=wO9 wd (show r+1≤hi by omega);rw[wE3,wE5 hi wd,HN0.out] at h9;omega
         clear hpx;have HSZ:Hid (p<(bv (uY Z wd hi (k*64+j))).size):=zA (by rw[zK,zGm,HN0.out];exact hp);refine wp_region_lit ?_;refine zB rfl (.slice (some ⟨gz,0,none⟩) n0 n0) (zD rfl rfl) ?_;simp only[Act.put,sA,sB,sC];refine zB rfl (.int .i64 ((r:Nat):Int)) (zD rfl rfl) ?_;simp only[Act.put,sA,sB,sC];refine zB rfl (.int .i64 ((wd:Nat):Int)) (zD rfl rfl) ?_;simp only[Act.put,sA,sB,sC];refine zB rfl (.int .i64 ((r*wd:Nat):Int)) (zCc (i:=r) (d:=wd) rfl rfl rfl (by omega)) ?_;simp only[Act.put,sA,sB,sC];refine zB rfl (.int .i64 ((q:Nat):Int)) (zD rfl rfl) ?_;simp only[Act.put,sA,sB,sC];refine zB rfl (.int .i64 ((p:Nat):Int)) (by rw[←HPX.out];exact yL (i:=r*wd) (d:=q) rfl rfl rfl (by omega)) ?_;simp only[Act.put,sA,sB,sC];refine zB rfl (.int .i64 (z)) (zD rfl rfl) ?_;simp only[Act.put,sA,sB,sC];refine zB rfl (.int .i64 (z+128)) (zVN (i:=z) (d:=128) rfl rfl rfl (by omega)) ?_;simp only[Act.put,sA,sB,sC];refine zB rfl (.int .i64 (max (z+128) 0)) (ex_maxI (i:=z+128) (d:=0) rfl rfl rfl) ?_;simp only[Act.put,sA,sB,sC];refine zB rfl (.int .i64 (min (max (z+128) 0) 255)) (ex_minI (i:=max (z+128) 0) (d:=255) rfl rfl rfl) ?_;simp only[Act.put,sA,sB,sC];refine zB rfl (.pointer (some ⟨gz,p,none⟩)) (zAH underlying22 jM rfl rfl rfl hp) ?_;simp only[Act.put,sA,sB,sC];refine zAc rfl (.tmp 90) (.tmp 89) rfl gz p (min (max (z+128) 0) 255) rfl rfl hbo9 HSZ.out ?_;simp only[Act.put,sA,sB,sC];have hb9:=hbo9.set_ p (.int .i64 (min (max (z+128) 0) 255));have hset:=zSm Z wd hi k j hltj (by rw[←HRQ.out.1];exact hr) (by rw[←HRQ.out.2];exact hq);rw[←HRQ.out.1, ←HRQ.out.2,HPX.out, ←HZV.out] at hset;rw[zAE,clampI,hset] at hb9;have hb10:=hba9.far (p:=⟨gz,p,none⟩) (hbo9.ne_ hba9 (by decide)).symm (.int .i64 (min (max (z+128) 0) 255));have hx10:=hxx9.setCell (p:=⟨gz,p,none⟩) hgz0 (.int .i64 (min (max (z+128) 0) 255));rw[clampI] at hb10 hx10 ⊢;clear hset;go_wp2_with fail;go_roundw
         case rel=>exact⟨j+1,by omega,by go_num,hb9,hb10,hx10⟩
         case measure=>simp[intOf];omega
        ·have HSK:=zA (zQi Z wd hi k j hltj (by rw[←HRQ.out.1, ←HRQ.out.2];exact hrq));rw[HSK.out] at hbo
         by_cases hr:r<hi
         ·have hq:¬q<wd:=λhq=>hrq ⟨hr,hq⟩
          have d1:decide (r<hi)=true:=by simpa using hr
          have d2:decide (q<wd)=false:=by simpa using hq
          clear hrq
          go_wp2_with (first
           | (refine wLdB rfl 128 (.tmp 8) rfl _ rfl hba _ underlying128 rfl 2 qC hts.out ?_)
           | (go_at_call 91;(with_reducible refine (HCALL.out _).mono ?_);rintro e w9 ⟨rfl,hx9⟩;have hbo9:=hbo.ext hx9;have hba9:=hba.ext hx9;have hxx9:=hx.trans hx9))
          go_roundw
          case rel=>exact⟨j+1,by omega,by go_num,hbo9,hba9,hxx9⟩
          case measure=>simp[intOf];omega
         ·have d1:decide (r<hi)=false:=by simpa using hr
          clear hrq
          go_wp2_with (first
           | (refine wLdB rfl 128 (.tmp 8) rfl _ rfl hba _ underlying128 rfl 2 qC hts.out ?_)
           | (go_at_call 91;(with_reducible refine (HCALL.out _).mono ?_);rintro e w9 ⟨rfl,hx9⟩;have hbo9:=hbo.ext hx9;have hba9:=hba.ext hx9;have hxx9:=hx.trans hx9))
          go_roundw
          case rel=>exact⟨j+1,by omega,by go_num,hbo9,hba9,hxx9⟩
          case measure=>simp[intOf];omega
       have ej:j=64:=by omega
       rw[ej];go_wp2_with fail;go_roundw
       case rel=>exact⟨k+1,by omega,by go_num,by rw[ej] at hbo;rw[show (k+1)*64=k*64+64 by omega];exact hbo,hba,hx⟩
       case measure=>simp[intOf];omega
     have ek:k=n:=by omega
     rw[ek] at hbo ⊢;rw[HN.out,zTZ] at hbo;go_wp2_with fail;go_ret2;have hE:zDz n Z wd hi (xX wd hi)=0:=by rw[HE.out,HA.out];rfl
     unfold zHO;rw[hE];refine⟨some ⟨gz,0,none⟩,n0,n0,rfl, ?_, ?_,hx,λad e=>by cases e;exact hgz0⟩
     ·rw[if_pos rfl];exact HN0.out.symm
     rw[if_pos rfl];have:=hbo.bsl (c:=n0) (by rw[zJb,HN0.out];omega) (by omega);rw[zJb,HN0.out] at this;exact this
def join_any (n:Nat) (Z:List Int) (v:Value) (wd hi:Int) (w:World) (hv:SL w 64 v n (ints Z)) (hz:Z.length=n*64):Calls prog 114 #[v,.int .i64 wd,.int .i64 hi] w (zHO n Z wd hi w):=by
 by_cases h:xX wd hi=0
 ·obtain⟨a,b,rfl,rfl,h1,h2,h3,h4⟩:=zGE h
  by_cases hn:n=zT a b
  ·exact join_in n Z v a b w hv hz h h1 h2 h3 h4 hn
  exact (join_many n Z v a b w hv hz h h1 h2 h3 h4 hn).mono λe w' hh=>zLb (by unfold zDz;rw[h,if_pos rfl];simp only[wD7];rw[if_neg hn]) (by decide) hh.1 hh.2
 exact (zUA n Z v wd hi w hv hz h).mono λe w' hh=>zLb (by unfold zDz;rw[if_neg h]) (by decide) hh.1 hh.2
def xG (wd hi pt:Int) (qs:List Int) (t1 t2:List Value) (ev:Int) (sd:Value):List Value:=ints [wd,hi,pt]++ints qs++t1++t2++[.int .i64 ev,sd]
def yO:(prog.info? 47).map (·.size)=some 103:=by kernel_rfl
def qG:(prog.info? 44).map (·.size)=some 34:=by kernel_rfl
def zAW:(prog.info? 42).bind (·.zero)=some (.agg (ints (List.replicate 16 0)++[Value.slice none 0 0]).toArray):=by kernel_rfl
def zAv {w:World} {g:Nat} {T:TypeId} {a m b:List Value} (h:Blk w g T (a++(m++b)).toArray):w.rangeAt g a.length m:=by intro j v hv;rw[h.cell,wH3,wH9 (by omega),wP6,wH4 (wB7.1 hv).1];exact hv
structure FileB (w:World) (g:Nat) (wd hi pt:Int) (qs:List Int) (t1 t2:List Value) (ev:Int) (sd:Value):Prop where
 c0:w.cell? ⟨g,0,none⟩=some (.int .i64 wd)
 c1:w.cell? ⟨g,1,none⟩=some (.int .i64 hi)
 c2:w.cell? ⟨g,2,none⟩=some (.int .i64 pt)
 q:w.rangeAt g 3 (ints qs)
 ta:w.rangeAt g 67 t1
 tb:w.rangeAt g 84 t2
 tt:w.rangeAt g 67 (t1++t2)
 c101:w.cell? ⟨g,101,none⟩=some (.int .i64 ev)
 c102:w.cell? ⟨g,102,none⟩=some sd
def zBX {w:World} {g:Nat} {T:TypeId} {wd hi pt:Int} {qs:List Int} {t1 t2:List Value} {ev:Int} {sd:Value} (h:Blk w g T (xG wd hi pt qs t1 t2 ev sd).toArray) (hq:qs.length=64) (h1:t1.length=17) (h2:t2.length=17) :
 FileB w g wd hi pt qs t1 t2 ev sd:=by have hql:=(yI qs).trans hq;have r0:w.rangeAt g 0 (ints [wd,hi,pt]):=zAv (a:=[]) (m:=ints [wd,hi,pt]) (b:=ints qs++t1++t2++[.int .i64 ev,sd]) (T:=T) (by simpa [xG] using h);have r1:=zAv (a:=ints [wd,hi,pt]) (m:=ints qs) (b:=t1++t2++[.int .i64 ev,sd]) (T:=T) (w:=w) (g:=g) (by simpa [xG] using h);have r2:=zAv (a:=ints [wd,hi,pt]++ints qs) (m:=t1) (b:=t2++[.int .i64 ev,sd]) (T:=T) (w:=w) (g:=g) (by simpa [xG] using h);have r3:=zAv (a:=ints [wd,hi,pt]++ints qs++t1) (m:=t2) (b:=[.int .i64 ev,sd]) (T:=T) (w:=w) (g:=g) (by simpa [xG] using h);have r4:=zAv (a:=ints [wd,hi,pt]++ints qs) (m:=t1++t2) (b:=[.int .i64 ev,sd]) (T:=T) (w:=w) (g:=g) (by simpa [xG] using h);have r5:=zAv (a:=ints [wd,hi,pt]++ints qs++t1++t2) (m:=[.int .i64 ev,sd]) (b:=[]) (T:=T) (w:=w) (g:=g) (by simpa [xG] using h);simp only[wE2,hql,h1,h2,yI,wA8,wJ0] at r1 r2 r3 r4 r5;exact⟨r0 0 _ rfl,r0 1 _ rfl,r0 2 _ rfl,r1,r2,r3,r4,r5 0 _ rfl,r5 1 _ rfl⟩
def zFA (wd hi pt:Int) (qs:List Int) (t1 t2:List Value) (ev:Int) (sd:Value) (hq:qs.length=64) (h1:t1.length=17) (h2:t2.length=17):(xG wd hi pt qs t1 t2 ev sd).toArray.size=103:=by simp[xG,yI,hq,h1,h2]
def zV (cs:List Int) (sl:Value):List Value:=ints cs++[sl]
def zU (cs:List Int) (sl:Value) (h:cs.length=16):(zV cs sl).length=17:=by simp[zV,yI,h]
def zHJ (t1 t2:List Value) (h1:t1.length=17) (h2:t2.length=17):prog.builtSlice 42 2 [(0,.agg t1.toArray),(1,.agg t2.toArray)]=some (t1++t2).toArray:=by
 match t1,h1 with
 | [a0,a1,a2,a3,a4,a5,a6,a7,a8,a9,a10,a11,a12,a13,a14,a15,a16],_ =>
   match t2,h2 with
   | [b0,b1,b2,b3,b4,b5,b6,b7,b8,b9,b10,b11,b12,b13,b14,b15,b16],_ =>
     show _=_
     kernel_rfl
def zAL {w:World} {g:Nat} {T:TypeId} {t1 t2:List Value} (h1:t1.length=17) (h:Blk w g T (t1++t2).toArray):w.rangeAt g 0 t1∧w.rangeAt g 17 t2:=by
 refine⟨zAv (a:=[]) (m:=t1) (b:=t2) (T:=T) (by simpa using h), ?_⟩;have:=zAv (a:=t1) (m:=t2) (b:=[]) (T:=T) (w:=w) (g:=g) (by simpa using h)
 rwa [h1] at this
def zCa (wd hi pt ev:Int):Bool:=inB wd 1 64&&inB hi 1 64&&(pt ==1 ||pt ==3)&&inB ev 0 100
def zDI (wd hi pt:Int) (qs:List Int) (z1 z2:Int) (ev:Int) (n:Nat):Int :=
 if zCa wd hi pt ev&&zR qs 1 255 then (if z1=0 then (if z2=0 then (if 90000<n then 2 else 0) else z2) else z1) else 1
def zJs {g:Nat} {t:TypeId}:∀(news old a b:List Value) (w:World),old.length=news.length→Blk w g t (a++(old++b)).toArray→Blk (w.setCells g a.length news) g t (a++(news++b)).toArray
 | [],old,a,b,w,hl,h=>by
   have:old=[]:=wP7.1 (by simpa using hl);subst this;exact h
 | v::news,[],a,b,w,hl,h=>by simp at hl
 | v::news,o::old,a,b,w,hl,h=>by
   have h1:=h.set_ a.length v;rw[wJ8,wL4 _ _ (wA5 _),wL5,wE1,wJ9] at h1;have h2:Blk (w.setCell ⟨g,a.length,none⟩ v) g t ((a++[v])++(old++b)).toArray:=by simpa using h1
   have h3:=zJs news old (a++[v]) b _ (by simpa using hl) h2;rw[World.setCells];have e:(a++[v]).length=a.length+1:=by simp
   rw[e] at h3;simpa using h3
def zJX {g:Nat}:∀(news:List Value) (o:Nat) (w:World),Upd (λb=>b=g) w (w.setCells g o news)
 | [],_,w=>Upd.refl _ w
 | v::news,o,w=>by
   rw[World.setCells];have h1:=(Upd.refl (λb=>b=g) w).setCell (p:=⟨g,o,none⟩) rfl v;exact h1.trans (zJX news (o+1) _) (λx h=>.inl h)
section
variable {P:Program} {ops:Array Oper} {rest:List Oper} {o:Oper} {ac:Act} {w:World} {Q:Exit→Act→World→Prop}
def uE (hgd:o.guard=none) (ty:TypeId) (x y:Operand) (ho:o.op=.store ty x y) (g off:Nat) (news:List Value) (hx:ac.eval x=.pointer (some ⟨g,off,none⟩)) (hy:ac.eval y=.agg news.toArray)
 {t:TypeId} {a old b:List Value} (hB:Blk w g t (a++(old++b)).toArray) (ha:a.length=off) (hl:old.length=news.length) (hs:(P.info? ty).map (·.size)=some news.length) (h1:∀v∈news,v.oneCell'=true)
 (h:∀w1,Blk w1 g t (a++(news++b)).toArray→Upd (λb=>b=g) w w1→wpList P ops Q rest (ac.put o.dst undef) w1):wpList P ops Q (o::rest) ac w:=by
 subst ha;refine wpList_store_mid hgd ty x y ho g a.length news.toArray hx hy (λj hj=>⟨?_,hB.frozen _⟩) (by simpa using hs) (all_oneCell_toArray h1) (h _ (zJs news old a b w hl hB) (zJX _ _ _));rw[hB.cell];have hj:j<news.length:=by simpa using hj
 simp only[wH3];rw[wH9 (by omega),wH4 (by omega),wA2 (by omega)];rfl
end
def zRw (a m b:List Value) (off k:Nat) (v:Value) (ha:a.length=off) (hk:k<m.length):(a++(m++b)).toArray.setIfInBounds (off+k) v=(a++(m.set k v++b)).toArray:=by
 subst ha;rw[wJ8,wL4 _ _ (by omega),wP8 _ _ (by omega)];congr 4
 omega
section
variable {P:Program} (w:World)
def zFx (e:TypeId) (he:P.underlying e=some (.int .i64)) (zs:List Int) (i:Nat) (hi:i<zs.length):(part e (bv zs) i).run P w=.ok (.int .i64 zs[i]) w:=by
 have hagg:(isAgg e).run P w=.ok false w:=by
  unfold isAgg;rw[Sem.run_bind,run_underlying he w];rfl
 simp[part,hagg,jQ zs i hi]
