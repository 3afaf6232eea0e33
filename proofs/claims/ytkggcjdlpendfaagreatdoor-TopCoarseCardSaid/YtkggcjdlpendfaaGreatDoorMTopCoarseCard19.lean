/- Contracts of the functions that the law reaches, part 19. -/
import Derived.Deep.CutRange
import Derived.Lib.BufferMore
import Derived.Test.YtkggcjdlpendfaaGreatDoorMTopCoarseCard18
namespace Go.Proofs.YtkggcjdlpendfaaGreatDoor
set_option linter.unusedVariables false
set_option linter.unusedSimpArgs false
set_option maxRecDepth 20000
set_option maxHeartbeats 8000000
open Go.RowKit
section
open SM
theorem rot_id {α:Type} (d:α) {L:List α} {s m e:Nat} (h:s=m∨e=m) (x:Nat):zAb d L s m e x=at_ d L x:=by
 unfold zAb
 split
 ·split
  ·congr 1;omega
  ·congr 1;omega
 ·rfl
theorem symG_any (gd:Nat) (L:List Pk) (tl:List Value) (n c a m b:Nat) (w:World) (hn:L.length=n) (hn2:n≤1000000) (ham:a+1<m) (hmb:m+1<b) (hbn:b≤n) (hone:OnesP L) (hD:DS w gd L tl) (h1:Sorted pk0 pw L a m) (h2:Sorted pk0 pw L m b)
 (HR: ∀ a' m' b' M W,a≤a'→a'<m'→m'<b'→b'≤b→b'-a'<b-a→M.Perm L→DS W gd M tl→Sorted pk0 pw M a' m'→Sorted pk0 pw M m' b'→Calls Tryz.prog 207 #[.slice (some ⟨gd,0,none⟩) n c,.int .i64 (a':Int),.int .i64 (m':Int),.int .i64 (b':Int),.func (.func 148) #[] #[]] W (zDY gd M tl a' b' W)) :
 Calls Tryz.prog 207 #[.slice (some ⟨gd,0,none⟩) n c,.int .i64 (a:Int),.int .i64 (m:Int),.int .i64 (b:Int),.func (.func 148) #[] #[]] w (zDY gd L tl a b w):=by
 have HN:=zA hn
 have HONE:=zA hone
 have HS1:=zA h1
 have HS2:=zA h2
 have HRR:=zA HR
 clear hn hone h1 h2 HR
 obtain⟨md,hm,hk1,hk2⟩: ∃ md,(a+b)/2=md∧2*md≤a+b∧a+b<2*md+2:=⟨_,rfl,by omega,by omega⟩
 obtain⟨nn,hnn⟩: ∃ nn,md+m=nn:=⟨_,rfl⟩
 obtain⟨s0,hs0⟩: ∃ s0,Hid (s0=if md<m then nn-b else a):=⟨_,zA rfl⟩
 obtain⟨r0,hr0⟩: ∃ r0,Hid (r0=if md<m then md else m):=⟨_,zA rfl⟩
 go_enter Tryz.func207,Tryz.ntmps207
 go_upto_if 140 with (first
  | ((with_reducible apply gS 140);refine zB rfl (.bool (decide (md<m))) (xP rfl rfl rfl (by simp)) ?_)
  | ((with_reducible apply gS 27);refine zB rfl (.int .i64 ((m-a:Nat):Int)) (xA rfl rfl rfl (by omega) (by omega)) ?_)
  | ((with_reducible apply gS 28);refine zB rfl (.bool false) (zAB rfl rfl rfl (by simp;omega)) ?_)
  | ((with_reducible apply gS 79);refine zB rfl (.int .i64 ((b-m:Nat):Int)) (xA rfl rfl rfl (by omega) (by omega)) ?_)
  | ((with_reducible apply gS 80);refine zB rfl (.bool false) (zAB rfl rfl rfl (by simp;omega)) ?_)
  | ((with_reducible apply gS 131);refine zB rfl (.int .i64 ((a+b:Nat):Int)) (zZ rfl rfl rfl (by omega)) ?_)
  | ((with_reducible apply gS 132);refine zB rfl (.int .u64 ((a+b:Nat):Int)) (zEQ rfl rfl (by omega)) ?_)
  | ((with_reducible apply gS 133);refine zB rfl (.int .u64 ((md:Nat):Int)) (by rw[←hm];exact zCH rfl rfl rfl) ?_)
  | ((with_reducible apply gS 134);refine zB rfl (.int .i64 ((md:Nat):Int)) (zEF rfl rfl (by omega)) ?_)
  | ((with_reducible apply gS 137);refine zB rfl (.int .i64 ((nn:Nat):Int)) (by rw[←hnn];exact zZ rfl rfl rfl (by omega)) ?_))
 simp only[Act.put,sA,sB,sC]
 go_cut [20,21] from 140 to 146 (fun sv rv wx=>sv=.int .i64 (s0:Int)∧rv=.int .i64 (r0:Int)∧wx=w)
 case first =>
  by_cases hq:md<m
  ·rw[wK3 hq]
   go_wp2_with (first
    | ((with_reducible apply gS 143);refine zB rfl (.int .i64 ((nn-b:Nat):Int)) (xA rfl rfl rfl (by omega) (by omega)) ?_))
   go_meet
   refine⟨by rw[hs0.out,if_pos hq],by rw[hr0.out,if_pos hq],rfl⟩
  ·rw[wK4 hq]
   go_wp2_with fail
   go_meet
   refine⟨by rw[hs0.out,if_neg hq],by rw[hr0.out,if_neg hq],rfl⟩
 case rest =>
 obtain⟨e1,e2,hwx⟩:=hcut
 have hwy:=hwx.symm
 subst hwy e1 e2
 clear hwx
 have hsr:s0≤r0∧a≤s0∧r0≤m∧r0≤md∧nn-s0≤b:=by
  have e1:=hs0.out
  have e2:=hr0.out
  by_cases hq:md<m
  ·rw[if_pos hq] at e1 e2;omega
  ·rw[if_neg hq] at e1 e2;omega
 go_upto_region 33 with ((with_reducible apply gS 148);refine zB rfl (.int .i64 ((nn-1:Nat):Int)) (xA (i:=nn) (d:=1) rfl rfl rfl (by omega) (by omega)) ?_)
 go_loopw [20,21] (fun sv rv wr=> ∃ (s r:Nat),s0≤s∧s≤r∧r≤r0∧sv=.int .i64 (s:Int)∧rv=.int .i64 (r:Int)∧DS wr gd L tl∧(s=s0∨wA pk0 pw L (s-1)≤wA pk0 pw L (nn-s))∧(r=r0∨wA pk0 pw L (nn-r-1)≤wA pk0 pw L r)∧Upd (fun x=>x=gd) w wr) (fun i j _=>(intOf j).toNat-(intOf i).toNat)
 case atStart=>exact⟨s0,r0,by omega,by omega,by omega,rfl,rfl,hD,.inl rfl,.inl rfl,Upd.refl _ w⟩
 case round =>
  clear hD
  obtain⟨s,r,hss,hsr',hrr,rfl,rfl,hD,hlo,hhi,hu⟩:=hrel
  have hml:=HN.out
  by_cases hlt:s<r
  ·have hDd:DS wr.drew gd L tl:=Blk.drew hD
   obtain⟨h,hh,hh1,hh2⟩: ∃ h,(s+r)/2=h∧s≤h∧h<r:=⟨_,rfl,by omega,by omega⟩
   by_cases hls:wA pk0 pw L (nn-1-h)<wA pk0 pw L h
   ·have hB:decide (uW (L[nn-1-h]'(by omega)).1 (L[h]'(by omega)).1<0)=true:=by
     rw[zBm, ←uK L _ (by omega), ←uK L h (by omega)]
     simpa using hls
    go_wp2_with (first
     | ((with_reducible apply gS 151);refine zB rfl (.bool true) (zR rfl rfl rfl (by simpa using hlt)) ?_)
     | ((with_reducible apply gS 154);refine zB rfl (.int .i64 ((s+r:Nat):Int)) (zZ rfl rfl rfl (by omega)) ?_)
     | ((with_reducible apply gS 155);refine zB rfl (.int .u64 ((s+r:Nat):Int)) (zEQ rfl rfl (by omega)) ?_)
     | ((with_reducible apply gS 156);refine zB rfl (.int .u64 ((h:Nat):Int)) (by rw[←hh];exact zCH rfl rfl rfl) ?_)
     | ((with_reducible apply gS 157);refine zB rfl (.int .i64 ((h:Nat):Int)) (zEF rfl rfl (by omega)) ?_))
    refine xW xX (by kernel_rfl) (by kernel_rfl) ?_
    refine zE (by rfl) (.func (.func 148) #[] #[]) (zC rfl rfl) ?_
    simp only[Act.put,sA,sB,sC]
    refine zE (by rfl) (.slice (some ⟨gd,0,none⟩) n c) (zC rfl rfl) ?_
    simp only[Act.put,sA,sB,sC]
    refine zE (by rfl) (.int .i64 ((nn-1:Nat):Int)) (zC rfl rfl) ?_
    simp only[Act.put,sA,sB,sC]
    refine zE (by rfl) (.int .i64 ((h:Nat):Int)) (zC rfl rfl) ?_
    simp only[Act.put,sA,sB,sC]
    refine zE (by rfl) (.int .i64 ((nn-1-h:Nat):Int)) (xA rfl rfl rfl (by omega) (by omega)) ?_
    simp only[Act.put,sA,sB,sC]
    refine zE (by rfl) (.pointer (some ⟨gd,(nn-1-h)*2,none⟩)) (yZ rfl rfl rfl (by omega)) ?_
    simp only[Act.put,sA,sB,sC]
    refine yV (by rfl) (.agg (pkV (L[nn-1-h]'(by omega)))) (fun W hW=>xO rfl (hDd.ext hW) (by omega) rfl) ?_
    simp only[Act.put,sA,sB,sC]
    refine zE (by rfl) (.slice (some ⟨gd,0,none⟩) n c) (zC rfl rfl) ?_
    simp only[Act.put,sA,sB,sC]
    refine zE (by rfl) (.int .i64 ((h:Nat):Int)) (zC rfl rfl) ?_
    simp only[Act.put,sA,sB,sC]
    refine zE (by rfl) (.pointer (some ⟨gd,(h)*2,none⟩)) (yZ rfl rfl rfl (by omega)) ?_
    simp only[Act.put,sA,sB,sC]
    refine yV (by rfl) (.agg (pkV (L[h]'(by omega)))) (fun W hW=>xO rfl (hDd.ext hW) (by omega) rfl) ?_
    simp only[Act.put,sA,sB,sC]
    refine zBi (by rfl) _ _ _ rfl rfl zDZ #[.agg (pkV (L[nn-1-h]'(by omega))),.agg (pkV (L[h]'(by omega)))] (by simp[Act.eval]) (.int .i64 (uW (L[nn-1-h]'(by omega)).1 (L[h]'(by omega)).1)) (fun W h=>zAA _ _ W) ?_
    simp only[Act.put,sA,sB,sC]
    refine zE (by rfl) (.bool true) (zR rfl rfl rfl hB) ?_
    simp only[Act.put,sA,sB,sC]
    refine zE (by rfl) (.bool false) (zGm (b:=true) rfl rfl) ?_
    simp only[Act.put,sA,sB,sC]
    refine jA ?_
    intro w4 hx4
    have hD4:=hDd.ext hx4
    have hu4:Upd (fun x=>x=gd) w w4:=hu.drew.trans (Upd.of_ext (S:=fun _=>False) hx4) (fun _ h=>h.elim)
    go_wp2_with fail
    go_roundw
    case rel=>exact⟨s,h,hss,by omega,by omega,rfl,rfl,hD4,hlo,.inr (by rw[show nn-h-1=nn-1-h by omega];omega),hu4⟩
    case measure=>simp[intOf];omega
   ·have hB:decide (uW (L[nn-1-h]'(by omega)).1 (L[h]'(by omega)).1<0)=false:=by
     rw[zBm, ←uK L _ (by omega), ←uK L h (by omega)]
     simpa using hls
    go_wp2_with (first
     | ((with_reducible apply gS 151);refine zB rfl (.bool true) (zR rfl rfl rfl (by simpa using hlt)) ?_)
     | ((with_reducible apply gS 154);refine zB rfl (.int .i64 ((s+r:Nat):Int)) (zZ rfl rfl rfl (by omega)) ?_)
     | ((with_reducible apply gS 155);refine zB rfl (.int .u64 ((s+r:Nat):Int)) (zEQ rfl rfl (by omega)) ?_)
     | ((with_reducible apply gS 156);refine zB rfl (.int .u64 ((h:Nat):Int)) (by rw[←hh];exact zCH rfl rfl rfl) ?_)
     | ((with_reducible apply gS 157);refine zB rfl (.int .i64 ((h:Nat):Int)) (zEF rfl rfl (by omega)) ?_))
    refine xW xX (by kernel_rfl) (by kernel_rfl) ?_
    refine zE (by rfl) (.func (.func 148) #[] #[]) (zC rfl rfl) ?_
    simp only[Act.put,sA,sB,sC]
    refine zE (by rfl) (.slice (some ⟨gd,0,none⟩) n c) (zC rfl rfl) ?_
    simp only[Act.put,sA,sB,sC]
    refine zE (by rfl) (.int .i64 ((nn-1:Nat):Int)) (zC rfl rfl) ?_
    simp only[Act.put,sA,sB,sC]
    refine zE (by rfl) (.int .i64 ((h:Nat):Int)) (zC rfl rfl) ?_
    simp only[Act.put,sA,sB,sC]
    refine zE (by rfl) (.int .i64 ((nn-1-h:Nat):Int)) (xA rfl rfl rfl (by omega) (by omega)) ?_
    simp only[Act.put,sA,sB,sC]
    refine zE (by rfl) (.pointer (some ⟨gd,(nn-1-h)*2,none⟩)) (yZ rfl rfl rfl (by omega)) ?_
    simp only[Act.put,sA,sB,sC]
    refine yV (by rfl) (.agg (pkV (L[nn-1-h]'(by omega)))) (fun W hW=>xO rfl (hDd.ext hW) (by omega) rfl) ?_
    simp only[Act.put,sA,sB,sC]
    refine zE (by rfl) (.slice (some ⟨gd,0,none⟩) n c) (zC rfl rfl) ?_
    simp only[Act.put,sA,sB,sC]
    refine zE (by rfl) (.int .i64 ((h:Nat):Int)) (zC rfl rfl) ?_
    simp only[Act.put,sA,sB,sC]
    refine zE (by rfl) (.pointer (some ⟨gd,(h)*2,none⟩)) (yZ rfl rfl rfl (by omega)) ?_
    simp only[Act.put,sA,sB,sC]
    refine yV (by rfl) (.agg (pkV (L[h]'(by omega)))) (fun W hW=>xO rfl (hDd.ext hW) (by omega) rfl) ?_
    simp only[Act.put,sA,sB,sC]
    refine zBi (by rfl) _ _ _ rfl rfl zDZ #[.agg (pkV (L[nn-1-h]'(by omega))),.agg (pkV (L[h]'(by omega)))] (by simp[Act.eval]) (.int .i64 (uW (L[nn-1-h]'(by omega)).1 (L[h]'(by omega)).1)) (fun W h=>zAA _ _ W) ?_
    simp only[Act.put,sA,sB,sC]
    refine zE (by rfl) (.bool false) (zR rfl rfl rfl hB) ?_
    simp only[Act.put,sA,sB,sC]
    refine zE (by rfl) (.bool true) (zGm (b:=false) rfl rfl) ?_
    simp only[Act.put,sA,sB,sC]
    refine jA ?_
    intro w4 hx4
    have hD4:=hDd.ext hx4
    have hu4:Upd (fun x=>x=gd) w w4:=hu.drew.trans (Upd.of_ext (S:=fun _=>False) hx4) (fun _ h=>h.elim)
    go_wp2_with ((with_reducible apply gS 173);refine zB rfl (.int .i64 ((h+1:Nat):Int)) (zZ (i:=h) (d:=1) rfl rfl rfl (by omega)) ?_)
    go_roundw
    case rel=>exact⟨h+1,r,by omega,by omega,hrr,by go_num,rfl,hD4,.inr (by rw[wI6,show nn-(h+1)=nn-1-h by omega];omega),hhi,hu4⟩
    case measure=>simp[intOf];omega
  ·obtain rfl:s=r:=by omega
   have hf:SM.Found pk0 pw L a m b md s:=⟨by rw[hnn, ←hs0.out];exact hss,by rw[←hr0.out];exact hrr,by rw[hnn, ←hs0.out];exact hlo,by rw[hnn, ←hr0.out];exact hhi⟩
   obtain⟨⟨c1,c2,c3,c4,c5⟩, -, -⟩:=hf.at_ pk0 pw (by omega) (by omega) hk1 hk2
   obtain⟨e,he⟩: ∃ e,nn-s=e:=⟨_,rfl⟩
   have HHV:=zA (fun (N:List Pk) (h: ∀ x,at_ pk0 N x=zAb pk0 L s m e x)=>halves pk0 pw (N:=N) (by omega) (by omega) hk1 hk2 HS1.out HS2.out hf (by rw[hnn,he];exact h))
   rw[hnn,he] at HHV
   rw[hnn,he] at c4 c5
   clear hf hlo hhi hss hrr hsr hs0 hr0 hsr'
   go_upto_region 39 with (first
    | ((with_reducible apply gS 151);refine zB rfl (.bool false) (zR rfl rfl rfl (by simp)) ?_)
    | ((with_reducible apply gS 177);refine zB rfl (.int .i64 ((e:Nat):Int)) (by rw[←he];exact xA rfl rfl rfl (by omega) (by omega)) ?_))
   go_cut [185] from 178 to 185 (fun cv wx=>cv=.bool (decide (s<m∧m<e))∧wx=wr)
   case first =>
    by_cases hq:s<m
    ·by_cases hq2:m<e
     ·go_wp2_with (first
       | ((with_reducible apply gS 180);refine zB rfl (.bool true) (zR rfl rfl rfl (by simpa using hq)) ?_)
       | ((with_reducible apply gS 184);refine xC (by rfl) (.bool true) (zR rfl rfl rfl (by simpa using hq2)) ?_))
      go_meet
      exact⟨by rw[wK3 (show s<m∧m<e from ⟨hq,hq2⟩)],rfl⟩
     ·go_wp2_with (first
       | ((with_reducible apply gS 180);refine zB rfl (.bool true) (zR rfl rfl rfl (by simpa using hq)) ?_)
       | ((with_reducible apply gS 184);refine xC (by rfl) (.bool false) (zR rfl rfl rfl (by simpa using hq2)) ?_))
      go_meet
      exact⟨by rw[wK4 (show ¬(s<m∧m<e) from fun h=>hq2 h.2)],rfl⟩
    ·go_wp2_with ((with_reducible apply gS 180);refine zB rfl (.bool false) (zR rfl rfl rfl (by simpa using hq)) ?_)
     go_meet
     exact⟨by rw[wK4 (show ¬(s<m∧m<e) from fun h=>hq h.1)],rfl⟩
   case rest =>
   obtain⟨e1,hwx⟩:=hcut
   have hwy:=hwx.symm
   subst hwy e1
   clear hwx
   go_upto_if 185 with fail
   go_cut [] from 185 to 191 (fun wx=> ∃ N,DS wx gd N tl∧(N.Perm L∧ ∀ x,at_ pk0 N x=zAb pk0 L s m e x)∧Upd (fun x=>x=gd) w wx)
   case first =>
    by_cases hq:s<m∧m<e
    ·have HROT:=zA (zQK gd L tl n c s m e wr HN.out hn2 hq.1 hq.2 (by omega) HONE.out hD)
     rw[wK3 hq]
     go_wp2_with (go_at_call 215;(with_reducible refine HROT.out.mono ?_);rintro e9 w3 ⟨rfl,N,hD3,hrot,hu3⟩)
     go_meet
     exact⟨N,hD3,hrot,hu.trans hu3 (fun x h=>.inl h)⟩
    ·rw[wK4 hq]
     go_wp2_with fail
     go_meet
     exact⟨L,hD,⟨.refl _,fun x=>(rot_id pk0 (by omega) x).symm⟩,hu⟩
   case rest =>
   obtain⟨N,hDN,⟨hNp,hNr⟩,huN⟩:=hcut
   obtain⟨k1,k2,k3,k4,k5⟩:=HHV.out N hNr
   have hNseg:=rot_seg pk0 ⟨hNp,hNr⟩ c1 c5
   clear hD hu HHV hNr
   go_upto_region 41 with fail
   go_cut [199] from 192 to 199 (fun cv wx=>cv=.bool (decide (a<s∧s<md))∧wx=wc)
   case first =>
    by_cases hq:a<s
    ·by_cases hq2:s<md
     ·go_wp2_with (first
       | ((with_reducible apply gS 194);refine zB rfl (.bool true) (zR rfl rfl rfl (by simpa using hq)) ?_)
       | ((with_reducible apply gS 198);refine xC (by rfl) (.bool true) (zR rfl rfl rfl (by simpa using hq2)) ?_))
      go_meet
      exact⟨by rw[wK3 (show a<s∧s<md from ⟨hq,hq2⟩)],rfl⟩
     ·go_wp2_with (first
       | ((with_reducible apply gS 194);refine zB rfl (.bool true) (zR rfl rfl rfl (by simpa using hq)) ?_)
       | ((with_reducible apply gS 198);refine xC (by rfl) (.bool false) (zR rfl rfl rfl (by simpa using hq2)) ?_))
      go_meet
      exact⟨by rw[wK4 (show ¬(a<s∧s<md) from fun h=>hq2 h.2)],rfl⟩
    ·go_wp2_with ((with_reducible apply gS 194);refine zB rfl (.bool false) (zR rfl rfl rfl (by simpa using hq)) ?_)
     go_meet
     exact⟨by rw[wK4 (show ¬(a<s∧s<md) from fun h=>hq h.1)],rfl⟩
   case rest =>
   obtain⟨e1,hwx⟩:=hcut
   have hwy:=hwx.symm
   subst hwy e1
   clear hwx
   go_upto_if 199 with fail
   go_cut [] from 199 to 205 (fun wx=> ∃ N1,DS wx gd N1 tl∧Seg pk0 N N1 a md∧Sorted pk0 pw N1 a md∧Upd (fun x=>x=gd) w wx)
   case first =>
    by_cases hq:a<s∧s<md
    ·have HRC:=zA (HRR.out a s md N wc (by omega) hq.1 hq.2 (by omega) (by omega) hNp hDN k1 k2)
     rw[wK3 hq]
     go_wp2_with (go_at_call 207;(with_reducible refine HRC.out.mono ?_);rintro e9 w3 ⟨rfl,N1,hD3,hs3,ho3,hu3⟩)
     go_meet
     exact⟨N1,hD3,hs3,ho3,huN.trans hu3 (fun x h=>.inl h)⟩
    ·rw[wK4 hq]
     go_wp2_with fail
     go_meet
     exact⟨N,hDN,Seg.refl pk0 _ _ _,(by by_cases h1:a<s;(obtain rfl:s=md:=by omega);exact k1;(obtain rfl:a=s:=by omega);exact k2),huN⟩
   case rest =>
   obtain⟨N1,hD1,hseg1,hsor1,hu1⟩:=hcut
   have hp1:=hseg1.perm.trans hNp
   have k3':=k3.of_out pk0 pw hseg1 (.inr (wA5 _))
   have k4':=k4.of_out pk0 pw hseg1 (.inr (by omega))
   have hfin: ∀ N2,Seg pk0 N1 N2 md b→Sorted pk0 pw N2 md b→Seg pk0 L N2 a b∧Sorted pk0 pw N2 a b:=fun N2 q1 q2 =>
    ⟨((hNseg.wide pk0 c2 c4).trans pk0 (hseg1.wide pk0 (wA5 _) (by omega))).trans pk0 (q1.wide pk0 (by omega) (wA5 _)),zMm pk0 pw k5 hseg1 hsor1 q1 q2 (by omega) (by omega)⟩
   have HFIN:=zA hfin
   clear hfin k5 k1 k2 k3 k4 hDN huN hNseg
   by_cases hq:md<e
   ·by_cases hq2:e<b
    ·have HRC:=zA (HRR.out md e b N1 wc (by omega) hq hq2 (by omega) (by omega) hp1 hD1 k3' k4')
     go_wp2_with (first
      | ((with_reducible apply gS 208);refine zB rfl (.bool true) (zR rfl rfl rfl (by simpa using hq)) ?_)
      | ((with_reducible apply gS 212);refine xC (by rfl) (.bool true) (zR rfl rfl rfl (by simpa using hq2)) ?_)
      | (go_at_call 207;(with_reducible refine HRC.out.mono ?_);rintro e9 w3 ⟨rfl,N2,hD3,hs3,ho3,hu3⟩))
     go_end0
     exact⟨rfl,N2,hD3,(HFIN.out N2 hs3 ho3).1,(HFIN.out N2 hs3 ho3).2,hu1.trans hu3 (fun x h=>.inl h)⟩
    ·obtain rfl:e=b:=by omega
     go_wp2_with (first
      | ((with_reducible apply gS 208);refine zB rfl (.bool true) (zR rfl rfl rfl (by simpa using hq)) ?_)
      | ((with_reducible apply gS 212);refine xC (by rfl) (.bool false) (zR rfl rfl rfl (by simp)) ?_))
     go_end0
     exact⟨rfl,N1,hD1,(HFIN.out N1 (Seg.refl pk0 _ _ _) k3').1,(HFIN.out N1 (Seg.refl pk0 _ _ _) k3').2,hu1⟩
   ·obtain rfl:md=e:=by omega
    go_wp2_with ((with_reducible apply gS 208);refine zB rfl (.bool false) (zR rfl rfl rfl (by simp)) ?_)
    go_end0
    exact⟨rfl,N1,hD1,(HFIN.out N1 (Seg.refl pk0 _ _ _) k4').1,(HFIN.out N1 (Seg.refl pk0 _ _ _) k4').2,hu1⟩
end
section
open SM
theorem sym_any (gd:Nat) (tl:List Value) (n c:Nat) (hn2:n≤1000000): ∀ (k:Nat) (L:List Pk) (a m b:Nat) (w:World),b-a≤k→L.length=n→a<m→m<b→b≤n→OnesP L→DS w gd L tl→Sorted pk0 pw L a m→Sorted pk0 pw L m b →
 Calls Tryz.prog 207 #[.slice (some ⟨gd,0,none⟩) n c,.int .i64 (a:Int),.int .i64 (m:Int),.int .i64 (b:Int),.func (.func 148) #[] #[]] w (zDY gd L tl a b w)
 | 0,L,a,m,b,w,hk,hn,ham,hmb,hbn,hone,hD,h1,h2=>by omega
 | k+1,L,a,m,b,w,hk,hn,ham,hmb,hbn,hone,hD,h1,h2=>by
   by_cases e1:m=a+1
   ·subst e1
    exact symL_any gd L tl n c a b w hn hn2 hmb hbn hone hD h2
   ·by_cases e2:b=m+1
    ·subst e2
     exact symR_any gd L tl n c a m w hn hn2 (by omega) hbn hone hD h1
    ·exact symG_any gd L tl n c a m b w hn hn2 (by omega) (by omega) hbn hone hD h1 h2 (fun a' m' b' M W p1 p2 p3 p4 p5 p6 p7 p8 p9=>sym_any gd tl n c hn2 k M a' m' b' W (by omega) (p6.length_eq.trans hn) p2 p3 (by omega) (hone.perm p6) p7 p8 p9)
def Blocked (M:List Pk) (bs p:Nat):Prop:=(∃ q,p=q*bs)∧ ∀ q,Sorted pk0 pw M (q*bs) (min (q*bs+bs) p)
def BlockedN (M:List Pk) (bs n:Nat):Prop:= ∀ q,Sorted pk0 pw M (q*bs) (min (q*bs+bs) n)
theorem Blocked.zero (M:List Pk) (bs:Nat):Blocked M bs 0:=⟨⟨0,by simp⟩,fun q x y h1 h2 h3=>by omega⟩
theorem Blocked.last {M N:List Pk} {bs p t:Nat} (h:Blocked M bs p) (hs:Seg pk0 M N p t) (ho:Sorted pk0 pw N p t) (ht:t≤p+bs):BlockedN N bs t:=by
 obtain⟨⟨k,hk⟩,h⟩:=h
 intro q
 rcases Nat.lt_trichotomy q k with hq | hq | hq
 ·have e:(q+1)*bs≤k*bs:=wI5 _ hq
  rw[wJ1,wD5] at e
  have h1:=h q
  rw[wN2 (by omega)] at h1
  have h2:=h1.of_out pk0 pw hs (.inl (by omega))
  exact h2.sub pk0 pw (wA5 _) (by omega)
 ·subst hq
  rw[←hk]
  exact ho.sub pk0 pw (wA5 _) (by omega)
 ·have e:(k+1)*bs≤q*bs:=wI5 _ hq
  rw[wJ1,wD5] at e
  intro x y h1 h2 h3
  omega
theorem Blocked.step {M N:List Pk} {bs p:Nat} (h:Blocked M bs p) (hs:Seg pk0 M N p (p+bs)) (ho:Sorted pk0 pw N p (p+bs)):Blocked N bs (p+bs):=by
 refine⟨?_,h.last hs ho (wA5 _)⟩
 obtain⟨⟨k,hk⟩, -⟩:=h
 exact⟨k+1,by rw[wJ1,wD5,hk]⟩
def HalfP (M:List Pk) (bs p n:Nat):Prop:=Blocked M (bs+bs) p∧ ∀ q,p≤q*bs→Sorted pk0 pw M (q*bs) (min (q*bs+bs) n)
theorem HalfP.start {M:List Pk} {bs n:Nat} (h:BlockedN M bs n):HalfP M bs 0 n:=⟨Blocked.zero M _,fun q _=>h q⟩
theorem HalfP.at_ {M:List Pk} {bs p n:Nat} (h:HalfP M bs p n):Sorted pk0 pw M p (min (p+bs) n)∧Sorted pk0 pw M (p+bs) (min (p+bs+bs) n):=by
 obtain⟨⟨⟨k,hk⟩, -⟩,h⟩:=h
 have e1:p=(2*k)*bs:=by rw[hk,Nat.mul_add, ←wJ1];congr 1;omega
 have h1:=h (2*k) (by omega)
 have h2:=h (2*k+1) (by rw[wJ1];omega)
 rw[wJ1,wD5] at h2
 rw[←e1] at h1 h2
 exact⟨h1,h2⟩
theorem HalfP.step {M N:List Pk} {bs p n:Nat} (h:HalfP M bs p n) (hs:Seg pk0 M N p (p+bs+bs)) (ho:Sorted pk0 pw N p (p+bs+bs)):HalfP N bs (p+bs+bs) n:=by
 rw[wA0] at hs ho ⊢
 refine⟨h.1.step hs ho,fun q hq=> ?_⟩
 exact (h.2 q (by omega)).of_out pk0 pw hs (.inr (by omega))
theorem HalfP.stop {M N:List Pk} {bs p n:Nat} (h:HalfP M bs p n) (hs:Seg pk0 M N p n) (ho:Sorted pk0 pw N p n) (ht:n≤p+bs+bs):BlockedN N (bs+bs) n:=h.1.last hs ho (by omega)
theorem BlockedN.all {M:List Pk} {bs n:Nat} (h:BlockedN M bs n) (hn:n≤bs):Sorted pk0 pw M 0 n:=by
 have h0:=h 0
 rw[Nat.zero_mul,wB2,Nat.min_eq_right hn] at h0
 exact h0
attribute [local irreducible] HalfP Blocked BlockedN
theorem zQi (gd:Nat) (L:List Pk) (tl:List Value) (n c:Nat) (w:World) (hn:L.length=n) (hn2:n≤1000000) (hone:OnesP L) (hD:DS w gd L tl) :
 Calls Tryz.prog 181 #[.slice (some ⟨gd,0,none⟩) n c,.int .i64 (n:Int),.func (.func 148) #[] #[]] w (zDY gd L tl 0 n w):=by
 have HI:=zA (fun (M:List Pk) a b W (h:a≤b) (h2:b≤n) (hM:M.Perm L) (hd:DS W gd M tl)=>zPp gd M tl n c a b W (hM.length_eq.trans hn) hn2 h h2 (hone.perm hM) hd)
 have HS:=zA (fun (M:List Pk) a m b W (h:a<m) (h1:m<b) (h2:b≤n) (hM:M.Perm L) (hd:DS W gd M tl)=>sym_any gd tl n c hn2 (b-a) M a m b W (wA5 _) (hM.length_eq.trans hn) h h1 h2 (hone.perm hM) hd)
 have hs0:=Seg.refl pk0 L 0 n
 have hb0:=zA (Blocked.zero L 20)
 clear hn hone
 go_enter Tryz.func181,Tryz.ntmps181
 go_upto_region 2 with fail
 go_loopw [7,8] (fun av bv wr=> ∃ (p b:Nat) (M:List Pk),p≤n∧p+20=b∧av=.int .i64 (p:Int)∧bv=.int .i64 (b:Int)∧DS wr gd M tl∧Seg pk0 L M 0 n∧Hid (Blocked M 20 p)∧Upd (fun x=>x=gd) w wr) (fun a _ _=>n-(intOf a).toNat)
 case atStart=>exact⟨0,20,L,by omega,rfl,rfl,rfl,hD,hs0,hb0,Upd.refl _ w⟩
 case round =>
  clear hD hs0 hb0
  obtain⟨p,b,M,hp,hpb,rfl,rfl,hD,hseg,hB,hu⟩:=hrel
  by_cases hlt:b≤n
  ·have HC:=zA (HI.out M p b wr (by omega) hlt hseg.perm hD)
   go_wp2_with (first
    | ((with_reducible apply gS 13);refine zB rfl (.bool true) (zGr rfl rfl rfl (by simp;omega)) ?_)
    | (go_at_call 206;(with_reducible refine HC.out.mono ?_);rintro e9 w3 ⟨rfl,N,hD3,hs3,ho3,hu3⟩)
    | ((with_reducible apply gS 22);refine zB rfl (.int .i64 ((b+20:Nat):Int)) (zZ rfl rfl rfl (by omega)) ?_))
   go_roundw
   case rel=>exact⟨b,b+20,N,hlt,rfl,by go_num,by go_num,hD3,hseg.trans pk0 (hs3.wide pk0 (wL9 _) hlt),zA (by subst hpb;exact hB.out.step hs3 ho3),hu.trans hu3 (fun x h=>.inl h)⟩
   case measure=>simp[intOf];omega
  ·have HC:=zA (HI.out M p n wr hp (wA5 _) hseg.perm hD)
   go_upto_region 7 with (first
    | ((with_reducible apply gS 13);refine zB rfl (.bool false) (zGr rfl rfl rfl (by simp;omega)) ?_)
    | (go_at_call 206;(with_reducible refine HC.out.mono ?_);rintro e9 w3 ⟨rfl,N,hD3,hs3,ho3,hu3⟩))
   have hb0:=zA (hB.out.last hs3 ho3 (by omega))
   have hseg3:=hseg.trans pk0 (hs3.wide pk0 (wL9 _) (wA5 _))
   have hu0:=hu.trans hu3 (fun x h=>.inl h)
   clear hD hseg hB hu hs3 ho3 hu3 HC
   go_loopw [6] (fun sv wr=> ∃ (bs:Nat) (M:List Pk),20≤bs∧bs≤2000020∧sv=.int .i64 (bs:Int)∧DS wr gd M tl∧Seg pk0 L M 0 n∧Hid (BlockedN M bs n)∧Upd (fun x=>x=gd) w wr) (fun a _=>n-(intOf a).toNat)
   case atStart=>exact⟨20,N,by omega,by omega,rfl,hD3,hseg3,hb0,hu0⟩
   case round =>
    clear hD3 hseg3 hb0 hu0
    obtain⟨bs,M,h20,hbs,rfl,hD,hseg,hB,hu⟩:=hrel
    by_cases hlt2:bs<n
    ·have hh0:=zA (HalfP.start hB.out)
     obtain⟨b2,hb2⟩: ∃ b2,bs+bs=b2:=⟨_,rfl⟩
     go_upto_region 9 with (first
      | ((with_reducible apply gS 30);refine zB rfl (.bool true) (zR rfl rfl rfl (by simpa using hlt2)) ?_)
      | ((with_reducible apply gS 32);refine zB rfl (.int .i64 (b2:Int)) (by rw[show b2=2*bs by omega];exact zBd rfl rfl rfl (by omega)) ?_))
     go_loopw [7,8] (fun av bv wr=> ∃ (p b:Nat) (M:List Pk),p≤n∧p+bs+bs=b∧av=.int .i64 (p:Int)∧bv=.int .i64 (b:Int)∧DS wr gd M tl∧Seg pk0 L M 0 n∧Hid (HalfP M bs p n)∧Upd (fun x=>x=gd) w wr) (fun a _ _=>n-(intOf a).toNat)
     case atStart=>exact⟨0,b2,M,by omega,by omega,rfl,rfl,hD,hseg,hh0,hu⟩
     case round =>
      clear hD hseg hB hu hh0
      obtain⟨p,b,M,hp,hpb,rfl,rfl,hD,hseg,hH,hu⟩:=hrel
      obtain⟨m,hpm⟩: ∃ m,p+bs=m:=⟨_,rfl⟩
      have hat:=zA hH.out.at_
      rw[hpb,hpm] at hat
      by_cases hlt3:b≤n
      ·have HC:=zA (HS.out M p m b wr (by omega) (by omega) hlt3 hseg.perm hD (by have:=hat.out.1;rwa [wN2 (by omega)] at this) (by have:=hat.out.2;rwa [wN2 (by omega)] at this))
       go_wp2_with (first
        | ((with_reducible apply gS 35);refine zB rfl (.bool true) (zGr rfl rfl rfl (by simp;omega)) ?_)
        | ((with_reducible apply gS 40);refine zB rfl (.int .i64 (m:Int)) (by rw[←hpm];exact zZ rfl rfl rfl (by omega)) ?_)
        | (go_at_call 207;(with_reducible refine HC.out.mono ?_);rintro e9 w3 ⟨rfl,N,hD3,hs3,ho3,hu3⟩)
        | ((with_reducible apply gS 47);refine zB rfl (.int .i64 (b2:Int)) (by rw[show b2=2*bs by omega];exact zBd rfl rfl rfl (by omega)) ?_)
        | ((with_reducible apply gS 48);refine zB rfl (.int .i64 ((b+b2:Nat):Int)) (zZ rfl rfl rfl (by omega)) ?_))
       go_roundw
       case rel=>exact⟨b,b+b2,N,hlt3,by omega,rfl,by go_num,hD3,hseg.trans pk0 (hs3.wide pk0 (wL9 _) hlt3),zA (by subst hpb;exact hH.out.step hs3 ho3),hu.trans hu3 (fun x h=>.inl h)⟩
       case measure=>simp[intOf];omega
      ·by_cases hm:m<n
       ·have HC:=zA (HS.out M p m n wr (by omega) hm (wA5 _) hseg.perm hD (by have:=hat.out.1;rwa [wN2 (by omega)] at this) (by have:=hat.out.2;rwa [Nat.min_eq_right (by omega)] at this))
        go_wp2_with (first
         | ((with_reducible apply gS 35);refine zB rfl (.bool false) (zGr rfl rfl rfl (by simp;omega)) ?_)
         | ((with_reducible apply gS 51);refine zB rfl (.int .i64 (m:Int)) (by rw[←hpm];exact zZ rfl rfl rfl (by omega)) ?_)
         | ((with_reducible apply gS 54);refine zB rfl (.bool true) (zR rfl rfl rfl (by simp;omega)) ?_)
         | (go_at_call 207;(with_reducible refine HC.out.mono ?_);rintro e9 w3 ⟨rfl,N,hD3,hs3,ho3,hu3⟩)
         | ((with_reducible apply gS 62);refine zB rfl (.int .i64 (b2:Int)) (by rw[show b2=bs*2 by omega];exact zBd rfl rfl rfl (by omega)) ?_))
        go_roundw
        case rel=>exact⟨b2,N,by omega,by omega,by go_num,hD3,hseg.trans pk0 (hs3.wide pk0 (wL9 _) (wA5 _)),zA (by rw[←hb2];exact hH.out.stop hs3 ho3 (by omega)),hu.trans hu3 (fun x h=>.inl h)⟩
        case measure=>simp[intOf];omega
       ·have hso:=hat.out.1
        rw[Nat.min_eq_right (by omega)] at hso
        go_wp2_with (first
         | ((with_reducible apply gS 35);refine zB rfl (.bool false) (zGr rfl rfl rfl (by simp;omega)) ?_)
         | ((with_reducible apply gS 51);refine zB rfl (.int .i64 (m:Int)) (by rw[←hpm];exact zZ rfl rfl rfl (by omega)) ?_)
         | ((with_reducible apply gS 54);refine zB rfl (.bool false) (zR rfl rfl rfl (by simp;omega)) ?_)
         | ((with_reducible apply gS 62);refine zB rfl (.int .i64 (b2:Int)) (by rw[show b2=bs*2 by omega];exact zBd rfl rfl rfl (by omega)) ?_))
        go_roundw
        case rel=>exact⟨b2,M,by omega,by omega,by go_num,hD,hseg,zA (by rw[←hb2];exact hH.out.stop (Seg.refl pk0 _ _ _) hso (by omega)),hu⟩
        case measure=>simp[intOf];omega
    ·have hfin:=hB.out.all (by omega)
     go_wp2_with ((with_reducible apply gS 30);refine zB rfl (.bool false) (zR rfl rfl rfl (by simpa using hlt2)) ?_)
     go_end0
     exact⟨rfl,M,hD,hseg,hfin,hu⟩
theorem sort_any (gd:Nat) (L:List Pk) (tl:List Value) (n c:Nat) (w:World) (hn:L.length=n) (hn2:n≤1000000) (hone:OnesP L) (hD:DS w gd L tl) :
 Calls Tryz.prog 147 #[.slice (some ⟨gd,0,none⟩) n c,.func (.func 148) #[] #[]] w (zDY gd L tl 0 n w):=by
 have H:=zA (zQi gd L tl n c w hn hn2 hone hD)
 clear hn hone
 go_enter Tryz.func147,Tryz.ntmps147
 go_wp2_with (go_at_call 181;(with_reducible refine H.out.mono ?_);rintro e9 w3 ⟨rfl,N,hD3,hs3,ho3,hu3⟩)
 go_end0
 exact⟨rfl,N,hD3,hs3,ho3,hu3⟩
end
end Go.Proofs.YtkggcjdlpendfaaGreatDoor
namespace Go.Proofs.YtkggcjdlpendfaaGreatDoor.BM
set_option linter.unusedVariables false
set_option linter.unusedSimpArgs false
set_option maxRecDepth 20000
set_option maxHeartbeats 8000000
def zHu:List Nat→List Nat
 | x::y::r=>(x+y)::zHu r
 | _=>[]
theorem zLl: ∀ l:List Nat,(zHu l).length=l.length/2
 | []=>rfl
 | [_]=>(by simp[zHu])
 | x::y::r=>by simp[zHu,zLl r];omega
section
variable {ws:List Nat} {R:Nat→List Nat}
end
section
variable {ws:List Nat} {R:Nat→List Nat}
end
end Go.Proofs.YtkggcjdlpendfaaGreatDoor.BM
namespace Go.Proofs.YtkggcjdlpendfaaGreatDoor.BM
set_option linter.unusedVariables false
set_option linter.unusedSimpArgs false
set_option maxRecDepth 20000
set_option maxHeartbeats 8000000
abbrev Pack:=Nat×List Int
def pairP:List Pack→List Pack
 | x::y::r=>(x.1+y.1,x.2++y.2)::pairP r
 | _=>[]
theorem zGW: ∀ L:List Pack,(pairP L).map (·.1)=zHu (L.map (·.1))
 | []=>rfl
 | [_]=>rfl
 | x::y::r=>by simp[pairP,zHu,zGW r]
theorem perm_lift {α β:Type} (f:α→β) {l' m:List β} (h:l'.Perm m): ∀ l:List α,m=l.map f→ ∃ l'':List α,l''.Perm l∧l''.map f=l':=by
 induction h with
 | nil =>
   intro l hl
   have:l=[]:=by cases l with | nil=>rfl | cons a b=>simp at hl
   subst this
   exact⟨[],.nil,rfl⟩
 | cons x _ ih =>
   intro l hl
   cases l with
   | nil=>simp at hl
   | cons a l =>
     simp only[List.map_cons,List.cons.injEq] at hl
     obtain⟨l'',h1,h2⟩:=ih l hl.2
     exact⟨a::l'',h1.cons a,by simp[h2,hl.1]⟩
 | swap x y l0 =>
   intro l hl
   match l,hl with
   | a::b::l,hl =>
     simp only[List.map_cons,List.cons.injEq] at hl
     exact⟨b::a::l,.swap _ _ _,by simp[hl.1,hl.2.1,hl.2.2]⟩
 | trans _ _ ih1 ih2 =>
   intro l hl
   obtain⟨l2,h1,h2⟩:=ih2 l hl
   obtain⟨l3,h3,h4⟩:=ih1 l2 h2.symm
   exact⟨l3,h3.trans h1,h4⟩
def cont (T:List Pack):List Int:=T.flatMap (·.2)
theorem zPN (T U:List Pack):cont (T++U)=cont T++cont U:=by simp[cont]
def yU:List (List Int)→Nat
 | []=>0
 | S::r=>S.length*2 ^ r.length+yU r
end Go.Proofs.YtkggcjdlpendfaaGreatDoor.BM
namespace Go.Proofs.YtkggcjdlpendfaaGreatDoor
set_option linter.unusedVariables false
set_option linter.unusedSimpArgs false
set_option maxRecDepth 20000
set_option maxHeartbeats 8000000
open Go.RowKit
section
open SM
abbrev FPk:=BM.Pack×Value
def zBH (q:FPk):Pk:=((q.1.1:Int),q.2)
def IntsAt (w:World) (v:Value) (xs:List Int):Prop:=SL w 1 v xs.length (ints xs)∧ ∀ b,v.ownBlock=some b→ ∃ cs,Blk w b 3 cs
theorem pack_ne:3≠188:=by decide
theorem zMa {w:World} {b:Nat} {T U:TypeId} {cs ds:Array Value} (h:Blk w b T cs) (k:Blk w b U ds):T=U:=by
 unfold Blk at h k
 rw[h] at k
 injection k with k
 injection k
theorem zFG {w:World} {b:Nat} {cs ds:Array Value} (h:Blk w b 188 ds): ¬Blk w b 3 cs:=fun k=>pack_ne (zMa k h)
theorem IntsAt.ext {w w':World} {v:Value} {xs:List Int} (h:IntsAt w v xs) (hx:Ext w w'):IntsAt w' v xs :=
 ⟨h.1.ext hx,fun b hb=>by obtain⟨cs,k⟩:=h.2 b hb;exact⟨cs,k.ext hx⟩⟩
theorem IntsAt.upd {S:Nat→Prop} {w w':World} {v:Value} {xs:List Int} (h:IntsAt w v xs) (hu:Upd S w w') (hS: ∀ b cs,S b→ ¬Blk w b 3 cs):IntsAt w' v xs:=by
 have hne: ∀ b cs,Blk w b 3 cs→ ¬S b:=fun b cs k hs=>hS b cs hs k
 obtain⟨h1,h2⟩:=h
 have h1':=h1
 obtain⟨A,c,rfl, -⟩:=h1'
 refine⟨h1.upd hu fun ad e=> ?_,fun b hb=> ?_⟩
 ·subst e
  obtain⟨cs,k⟩:=h2 ad.block rfl
  exact hne _ _ k
 ·obtain⟨cs,k⟩:=h2 b hb
  exact⟨cs,hu.blk k (hne b cs k)⟩
theorem IntsAt.own {w:World} {B n:Nat} {v:Value} {xs:List Int} (h:w.ownsRow B 3 1 v n (ints xs)) (hn:xs.length=n):IntsAt w v xs:=by
 obtain⟨A,c,rfl,h1, -⟩:=zBN h
 exact⟨by rw[hn];exact h1,zCX h⟩
theorem IntsAt.lit {w:World} {g:Nat} {x:Int} (h:Blk w g 3 #[.int .i64 x]):IntsAt w (.slice (some ⟨g,0,none⟩) 1 1) [x]:=by
 refine⟨⟨_,_,rfl,by simp,by omega,rfl,fun _=>⟨_,rfl,h.lt,fun j u hu=> ?_⟩⟩,fun b hb=> ?_⟩
 ·rw[zBU,wB2,h.cell, ←hu]
  simp[ints]
 ·have e:b=g:=by simpa [Value.ownBlock] using hb.symm
  subst e
  exact⟨_,h⟩
def AllAt (w:World) (Q:List FPk):Prop:= ∀ q∈Q,IntsAt w q.2 q.1.2
theorem AllAt.ext {w w':World} {Q:List FPk} (h:AllAt w Q) (hx:Ext w w'):AllAt w' Q:=fun q hq=>(h q hq).ext hx
theorem AllAt.upd {S:Nat→Prop} {w w':World} {Q:List FPk} (h:AllAt w Q) (hu:Upd S w w') (hS: ∀ b cs,S b→ ¬Blk w b 3 cs):AllAt w' Q:=fun q hq=>(h q hq).upd hu hS
theorem AllAt.ones {w:World} {Q:List FPk} (h:AllAt w Q):OnesP (Q.map zBH):=by
 intro p hp
 obtain⟨q,hq,rfl⟩:=wD6.1 hp
 obtain⟨⟨A,c,e, -⟩, -⟩:=h q hq
 show q.2.oneCell'=true
 rw[e]
 rfl
theorem zDT {L:List Pk} (h:OnesP L): ∀ u∈jJ L,u.oneCell'=true:=by
 intro u hu
 obtain⟨p,hp,hu⟩:=wN5.1 hu
 simp at hu
 rcases hu with rfl | rfl
 ·rfl
 ·exact h p hp
structure OwnP (w:World) (B:Nat) (C:Option Addr) (m k:Nat) (Q:List FPk):Prop where
 len:Q.length=m
 own:w.ownsRow B 188 2 (.slice C m k) m (jJ (Q.map zBH))
 all:AllAt w Q
theorem OwnP.nil (w:World) (B:Nat):OwnP w B none 0 0 []:=⟨rfl,zAT _ _ _ _,fun _ h=>by cases h⟩
theorem OwnP.ext {w w':World} {B m k:Nat} {C:Option Addr} {Q:List FPk} (h:OwnP w B C m k Q) (hx:Ext w w'):OwnP w' B C m k Q:=⟨h.len,yJ h.own hx,h.all.ext hx⟩
theorem OwnP.sl {w:World} {B m k:Nat} {C:Option Addr} {Q:List FPk} (h:OwnP w B C m k Q):SL w 2 (.slice C m k) m (jJ (Q.map zBH)):=(qU h.own).1
theorem OwnP.typed {w:World} {B m k:Nat} {C:Option Addr} {Q:List FPk} (h:OwnP w B C m k Q): ∀ b,(Value.slice C m k).ownBlock=some b→ ∃ cs,Blk w b 188 cs:=zCX h.own
theorem OwnP.addr {w:World} {B m k:Nat} {C:Option Addr} {Q:List FPk} (h:OwnP w B C m k Q) (hm:0<m): ∃ g,C=some ⟨g,0,none⟩∧B≤g:=by
 rcases h.own.2 with ⟨-,h0⟩ | ⟨g,cap,cur,e,hb, -⟩
 ·omega
 ·injection e with e1 e2 e3
  exact⟨g,e1,hb⟩
theorem OwnP.ds {w:World} {B m k g:Nat} {Q:List FPk} (h:OwnP w B (some ⟨g,0,none⟩) m k Q): ∃ tl,DS w g (Q.map zBH) tl∧2*m+tl.length=k*2∧m≤k∧k≤maxLen∧B≤g:=by
 obtain⟨hl,own, -⟩:=h
 rcases own.2 with ⟨e, -⟩ | ⟨g',cap,cur,e,hb,hg,h1,h2,h3,h4⟩
 ·injection e with e;cases e
 ·injection e with e1 e2 e3
  injection e1 with e1
  injection e1 with e1
  subst e1 e3
  refine⟨cur.toList.drop (m*2), ?_, ?_,h1,h2,hb⟩
  ·unfold DS Blk
   rw[←h4,wL0]
   exact hg
  ·rw[wJ4,Array.length_toList]
   omega
theorem OwnP.of_ds {w:World} {B m k g:Nat} {Q:List FPk} {tl:List Value} (hl:Q.length=m) (hD:DS w g (Q.map zBH) tl) (h1:2*m+tl.length=k*2) (h2:m≤k) (h3:k≤maxLen) (hB:B≤g) (ha:AllAt w Q):OwnP w B (some ⟨g,0,none⟩) m k Q:=by
 have hc:(jJ (Q.map zBH)).length=m*2:=by rw[zDs,wO3,hl];omega
 exact⟨hl,⟨hc,.inr ⟨g,k,_,rfl,hB,hD,h2,h3,by simp;omega,by rw[←hc];simp⟩⟩,ha⟩
theorem OwnP.upd {S:Nat→Prop} {w w':World} {B m k:Nat} {C:Option Addr} {Q:List FPk} (h:OwnP w B C m k Q) (hu:Upd S w w') (hS: ∀ b cs,S b→ ¬Blk w b 3 cs) (hC: ∀ ad,C=some ad→ ¬S ad.block):OwnP w' B C m k Q :=
 ⟨h.len,jP h.own hu (fun x hx=>by
  cases C with
  | none=>simp[Value.ownBlock] at hx
  | some ad =>
    have e:ad.block=x:=by simpa [Value.ownBlock] using hx
    rw[←e]
    exact hC ad rfl),h.all.upd hu hS⟩
theorem zKP:Elt Tryz.prog 189 188 2 32:=⟨Tryz.underlying189,by kernel_rfl,by omega⟩
theorem OwnP.app {w w':World} {B m k j:Nat} {C A:Option Addr} {k':Nat} {Q R:List FPk} (h:OwnP w B C m k Q) (hR:AllAt w R) (hj:R.length=j) (ho:w'.ownsRow B 188 2 (.slice A (m+j) k') (m+j) (jJ (Q.map zBH)++jJ (R.map zBH))) (hg:w.grownBy w' (Value.slice C m k).ownBlock):OwnP w' B A (m+j) k' (Q++R):=by
 have hu:=zL hg
 have ht: ∀ b cs,(Value.slice C m k).ownBlock=some b→ ¬Blk w b 3 cs:=fun b cs hb=>by obtain⟨ds,k⟩:=h.typed b hb;exact zFG k
 refine⟨by rw[wF1,h.len,hj],by rw[wH1,zJy];exact ho,fun q hq=> ?_⟩
 rcases wE5.1 hq with hq | hq
 ·exact (h.all q hq).upd hu (fun b cs hb=>ht b cs hb)
 ·exact (hR q hq).upd hu (fun b cs hb=>ht b cs hb)
theorem zHc {M:List Pk} {n:Nat} (hn:M.length=n) (h:Sorted pk0 pw M 0 n):(M.map Prod.fst).Pairwise (· ≤ ·):=by
 rw[wO4,wO5]
 intro i j hi hj hij
 have:=h i j (wL9 _) hij (by omega)
 rwa [uK M i hi,uK M j hj] at this
theorem zNl {Q:List FPk} (h:((Q.map zBH).map Prod.fst).Pairwise (· ≤ ·)):(Q.map (·.1.1)).Pairwise (· ≤ ·):=by
 rw[wL2,wO4] at h
 rw[wO4]
 exact h.imp (fun {a b} hab=>by simpa [zBH] using hab)
theorem zLs {B m k g:Nat} {Q:List FPk} {w:World} (h:OwnP w B (some ⟨g,0,none⟩) m k Q) (hm:m≤1000000) :
 Calls Tryz.prog 147 #[.slice (some ⟨g,0,none⟩) m k,.func (.func 148) #[] #[]] w fun e w'=>e=.returned (.tuple #[])∧ ∃ Q',OwnP w' B (some ⟨g,0,none⟩) m k Q'∧Q'.Perm Q∧(Q'.map (·.1.1)).Pairwise (· ≤ ·)∧Upd (fun x=>x=g) w w':=by
 obtain⟨tl,hD,h1,h2,h3,hB⟩:=h.ds
 refine (sort_any g (Q.map zBH) tl m k w (by rw[wO3,h.len]) hm h.all.ones hD).mono ?_
 rintro e w' ⟨rfl,M,hD',hseg,hsor,hu⟩
 obtain⟨Q',hp,e⟩:=BM.perm_lift zBH hseg.perm Q rfl
 subst e
 have hl':Q'.length=m:=hp.length_eq.trans h.len
 refine⟨rfl,Q',OwnP.of_ds hl' hD' h1 h2 h3 hB ?_,hp,zNl (zHc (by rw[wO3,hl']) hsor),hu⟩
 have ha:=h.all.upd hu (fun b cs hb=>by subst hb;exact zFG hD)
 exact fun q hq=>ha q (hp.subset hq)
theorem zQD {B m k:Nat} {C:Option Addr} {Q:List FPk} {w:World} (h:OwnP w B C m k Q) (h0:0<m) (hm:m≤1000000) :
 Calls Tryz.prog 149 #[.slice C m k] w fun e w'=> ∃ g k',e=.returned (.slice (some ⟨g,0,none⟩) m k')∧OwnP w' w.heap.size (some ⟨g,0,none⟩) m k' Q∧Ext w w':=by
 have HS:=zA (fun W (hx:Ext w W)=>h.sl.ext hx)
 have HO:=zA (zDT h.all.ones)
 obtain⟨g0,rfl, -⟩:=h.addr h0
 have HQ:Hid (∀ w1 w' A k',Ext w w1→OwnP w1 w.heap.size (some ⟨w.heap.size,0,none⟩) 0 0 []→w'.ownsRow w.heap.size 188 2 (.slice A (0+m) k') (0+m) ([]++jJ (Q.map zBH))→w1.grownBy w' (Value.slice (some ⟨w.heap.size,0,none⟩) 0 0).ownBlock→ ∃ g,A=some ⟨g,0,none⟩∧OwnP w' w.heap.size (some ⟨g,0,none⟩) m k' Q):=zA (fun w1 w' A k' hx ho h1 h2=>by
  have hq:=ho.app (h.all.ext hx) h.len h1 h2
  rw[wB2,wK7] at hq
  obtain⟨g,rfl, -⟩:=hq.addr h0
  exact⟨g,rfl,hq⟩)
 have hE:(w.alloc (.cells #[] 188)).ownsRow w.heap.size 188 2 (.slice (some ⟨w.heap.size,0,none⟩) 0 0) 0 []:=⟨rfl,.inr ⟨_,0, #[],rfl,wA5 _,heap_alloc_new w _,wA5 _,by unfold maxLen;omega,rfl,rfl⟩⟩
 have hnil: ∀ W,(binOp .eql 189 (.slice (some ⟨g0,0,none⟩) m k) (.slice none 0 0)).run Tryz.prog W=.ok (.bool false) W:=fun W=>Lib.run_eql_slice_some_nil W _ _ _ Tryz.underlying189
 generalize jJ (Q.map zBH)=cs at *
 go_enter Tryz.func149,Tryz.ntmps149
 go_wp2_with (first
  | ((with_reducible apply gS 7);refine wApf zKP rfl _ _ rfl w.heap.size _ _ _ rfl hE _ m cs rfl (HS.out _ ((Ext.refl w).alloc _)) HO.out (by omega) (by omega) (by simp) ?_;intro A5 k5 w5 ho5 hg5 hr5))
 obtain⟨g,rfl,hq⟩:=HQ.out _ _ _ _ ((Ext.refl w).alloc _) ⟨rfl,hE,fun _ h=>by cases h⟩ ho5 hg5
 go_ret
 exact⟨g,k5,rfl,hq,(zL hg5).ext ((Ext.refl w).alloc _) (fun x h=>by have h:some w.heap.size=some x:=h;injection h with h;omega)⟩
end
end Go.Proofs.YtkggcjdlpendfaaGreatDoor
