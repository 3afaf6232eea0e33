/- Contracts of the functions that the law reaches, part 18. -/
import Derived.Test.YtkggcjdlpendfaaGreatDoorMTopCoarseCard17
namespace Go.Proofs.YtkggcjdlpendfaaGreatDoor
set_option linter.unusedVariables false
set_option linter.unusedSimpArgs false
set_option maxRecDepth 20000
set_option maxHeartbeats 8000000
open Go.RowKit
section
open SM
theorem symL_any (gd:Nat) (L:List Pk) (tl:List Value) (n c a b:Nat) (w:World) (hn:L.length=n) (hn2:n≤1000000) (hab:a+1<b) (hbn:b≤n) (hone:OnesP L) (hD:DS w gd L tl) (h2:Sorted pk0 pw L (a+1) b) :
 Calls Tryz.prog 207 #[.slice (some ⟨gd,0,none⟩) n c,.int .i64 (a:Int),.int .i64 ((a+1:Nat):Int),.int .i64 (b:Int),.func (.func 148) #[] #[]] w (zDY gd L tl a b w):=by
 have HN:=zA hn
 have HONE:=zA hone
 have HS2:=zA h2
 clear hn hone h2
 go_enter Tryz.func207,Tryz.ntmps207
 go_upto_region 3 with (first
  | ((with_reducible apply gS 27);refine zB rfl (.int .i64 ((a+1-a:Nat):Int)) (xA rfl rfl rfl (by omega) (by omega)) ?_)
  | ((with_reducible apply gS 28);refine zB rfl (.bool true) (zAB rfl rfl rfl (by simp)) ?_))
 go_loopw [10,11] (fun iv jv wr=> ∃ (i j:Nat),a+1≤i∧i≤j∧j≤b∧iv=.int .i64 (i:Int)∧jv=.int .i64 (j:Int)∧DS wr gd L tl∧(i=a+1∨wA pk0 pw L (i-1)≤wA pk0 pw L a)∧(j=b∨wA pk0 pw L a≤wA pk0 pw L j)∧Upd (fun x=>x=gd) w wr) (fun i j _=>(intOf j).toNat-(intOf i).toNat)
 case atStart=>exact⟨a+1,b,by omega,by omega,by omega,rfl,rfl,hD,.inl rfl,.inl rfl,Upd.refl _ w⟩
 case round =>
  clear hD
  obtain⟨i,j,hai,hij,hjb,rfl,rfl,hD,hlo,hhi,hu⟩:=hrel
  have hml:=HN.out
  by_cases hlt:i<j
  ·have hDd:DS wr.drew gd L tl:=Blk.drew hD
   obtain⟨h,hh,hh1,hh2⟩: ∃ h,(i+j)/2=h∧i≤h∧h<j:=⟨_,rfl,by omega,by omega⟩
   by_cases hls:wA pk0 pw L h<wA pk0 pw L a
   ·have hB:decide (uW (L[h]'(by omega)).1 (L[a]'(by omega)).1<0)=true:=by
     rw[zBm, ←uK L h (by omega), ←uK L a (by omega)]
     simpa using hls
    go_wp2_with (first
     | ((with_reducible apply gS 33);refine zB rfl (.bool true) (zR rfl rfl rfl (by simpa using hlt)) ?_)
     | ((with_reducible apply gS 36);refine zB rfl (.int .i64 ((i+j:Nat):Int)) (zZ rfl rfl rfl (by omega)) ?_)
     | ((with_reducible apply gS 37);refine zB rfl (.int .u64 ((i+j:Nat):Int)) (zEQ rfl rfl (by omega)) ?_)
     | ((with_reducible apply gS 38);refine zB rfl (.int .u64 ((h:Nat):Int)) (by rw[←hh];exact zCH rfl rfl rfl) ?_)
     | ((with_reducible apply gS 39);refine zB rfl (.int .i64 ((h:Nat):Int)) (zEF rfl rfl (by omega)) ?_))
    refine xW xX (by kernel_rfl) (by kernel_rfl) ?_
    refine zE (by rfl) (.func (.func 148) #[] #[]) (zC rfl rfl) ?_
    simp only[Act.put,sA,sB,sC]
    refine zE (by rfl) (.slice (some ⟨gd,0,none⟩) n c) (zC rfl rfl) ?_
    simp only[Act.put,sA,sB,sC]
    refine zE (by rfl) (.int .i64 ((h:Nat):Int)) (zC rfl rfl) ?_
    simp only[Act.put,sA,sB,sC]
    refine zE (by rfl) (.pointer (some ⟨gd,(h)*2,none⟩)) (yZ rfl rfl rfl (by omega)) ?_
    simp only[Act.put,sA,sB,sC]
    refine yV (by rfl) (.agg (pkV (L[h]'(by omega)))) (fun W hW=>xO rfl (hDd.ext hW) (by omega) rfl) ?_
    simp only[Act.put,sA,sB,sC]
    refine zE (by rfl) (.slice (some ⟨gd,0,none⟩) n c) (zC rfl rfl) ?_
    simp only[Act.put,sA,sB,sC]
    refine zE (by rfl) (.int .i64 ((a:Nat):Int)) (zC rfl rfl) ?_
    simp only[Act.put,sA,sB,sC]
    refine zE (by rfl) (.pointer (some ⟨gd,(a)*2,none⟩)) (yZ rfl rfl rfl (by omega)) ?_
    simp only[Act.put,sA,sB,sC]
    refine yV (by rfl) (.agg (pkV (L[a]'(by omega)))) (fun W hW=>xO rfl (hDd.ext hW) (by omega) rfl) ?_
    simp only[Act.put,sA,sB,sC]
    refine zBi (by rfl) _ _ _ rfl rfl zDZ #[.agg (pkV (L[h]'(by omega))),.agg (pkV (L[a]'(by omega)))] (by simp[Act.eval]) (.int .i64 (uW (L[h]'(by omega)).1 (L[a]'(by omega)).1)) (fun W h=>zAA _ _ W) ?_
    simp only[Act.put,sA,sB,sC]
    refine zE (by rfl) (.bool true) (zR rfl rfl rfl hB) ?_
    simp only[Act.put,sA,sB,sC]
    refine jA ?_
    intro w4 hx4
    have hD4:=hDd.ext hx4
    have hu4:Upd (fun x=>x=gd) w w4:=hu.drew.trans (Upd.of_ext (S:=fun _=>False) hx4) (fun _ h=>h.elim)
    go_wp2_with ((with_reducible apply gS 52);refine zB rfl (.int .i64 ((h+1:Nat):Int)) (zZ (i:=h) (d:=1) rfl rfl rfl (by omega)) ?_)
    go_roundw
    case rel=>exact⟨h+1,j,by omega,by omega,hjb,by go_num,rfl,hD4,.inr (by rw[wI6];omega),hhi,hu4⟩
    case measure=>simp[intOf];omega
   ·have hB:decide (uW (L[h]'(by omega)).1 (L[a]'(by omega)).1<0)=false:=by
     rw[zBm, ←uK L h (by omega), ←uK L a (by omega)]
     simpa using hls
    go_wp2_with (first
     | ((with_reducible apply gS 33);refine zB rfl (.bool true) (zR rfl rfl rfl (by simpa using hlt)) ?_)
     | ((with_reducible apply gS 36);refine zB rfl (.int .i64 ((i+j:Nat):Int)) (zZ rfl rfl rfl (by omega)) ?_)
     | ((with_reducible apply gS 37);refine zB rfl (.int .u64 ((i+j:Nat):Int)) (zEQ rfl rfl (by omega)) ?_)
     | ((with_reducible apply gS 38);refine zB rfl (.int .u64 ((h:Nat):Int)) (by rw[←hh];exact zCH rfl rfl rfl) ?_)
     | ((with_reducible apply gS 39);refine zB rfl (.int .i64 ((h:Nat):Int)) (zEF rfl rfl (by omega)) ?_))
    refine xW xX (by kernel_rfl) (by kernel_rfl) ?_
    refine zE (by rfl) (.func (.func 148) #[] #[]) (zC rfl rfl) ?_
    simp only[Act.put,sA,sB,sC]
    refine zE (by rfl) (.slice (some ⟨gd,0,none⟩) n c) (zC rfl rfl) ?_
    simp only[Act.put,sA,sB,sC]
    refine zE (by rfl) (.int .i64 ((h:Nat):Int)) (zC rfl rfl) ?_
    simp only[Act.put,sA,sB,sC]
    refine zE (by rfl) (.pointer (some ⟨gd,(h)*2,none⟩)) (yZ rfl rfl rfl (by omega)) ?_
    simp only[Act.put,sA,sB,sC]
    refine yV (by rfl) (.agg (pkV (L[h]'(by omega)))) (fun W hW=>xO rfl (hDd.ext hW) (by omega) rfl) ?_
    simp only[Act.put,sA,sB,sC]
    refine zE (by rfl) (.slice (some ⟨gd,0,none⟩) n c) (zC rfl rfl) ?_
    simp only[Act.put,sA,sB,sC]
    refine zE (by rfl) (.int .i64 ((a:Nat):Int)) (zC rfl rfl) ?_
    simp only[Act.put,sA,sB,sC]
    refine zE (by rfl) (.pointer (some ⟨gd,(a)*2,none⟩)) (yZ rfl rfl rfl (by omega)) ?_
    simp only[Act.put,sA,sB,sC]
    refine yV (by rfl) (.agg (pkV (L[a]'(by omega)))) (fun W hW=>xO rfl (hDd.ext hW) (by omega) rfl) ?_
    simp only[Act.put,sA,sB,sC]
    refine zBi (by rfl) _ _ _ rfl rfl zDZ #[.agg (pkV (L[h]'(by omega))),.agg (pkV (L[a]'(by omega)))] (by simp[Act.eval]) (.int .i64 (uW (L[h]'(by omega)).1 (L[a]'(by omega)).1)) (fun W h=>zAA _ _ W) ?_
    simp only[Act.put,sA,sB,sC]
    refine zE (by rfl) (.bool false) (zR rfl rfl rfl hB) ?_
    simp only[Act.put,sA,sB,sC]
    refine jA ?_
    intro w4 hx4
    have hD4:=hDd.ext hx4
    have hu4:Upd (fun x=>x=gd) w w4:=hu.drew.trans (Upd.of_ext (S:=fun _=>False) hx4) (fun _ h=>h.elim)
    go_wp2_with fail
    go_roundw
    case rel=>exact⟨i,h,hai,by omega,by omega,rfl,rfl,hD4,hlo,.inr (by omega),hu4⟩
    case measure=>simp[intOf];omega
  ·obtain rfl:i=j:=by omega
   have hg0:=GoneUp.start pk0 L a
   go_upto_region 9 with ((with_reducible apply gS 33);refine zB rfl (.bool false) (zR rfl rfl rfl (by simp)) ?_)
   go_loopw [13] (fun kv wr=> ∃ (k:Nat) (M:List Pk),a≤k∧k≤i-1∧kv=.int .i64 (k:Int)∧DS wr gd M tl∧GoneUp pk0 L M a k∧Upd (fun x=>x=gd) w wr) (fun k _=>i-(intOf k).toNat)
   case atStart=>exact⟨a,L,by omega,by omega,rfl,hD,hg0,hu⟩
   case round =>
    clear hD hg0 hu
    obtain⟨k,M,hak,hki,rfl,hD,hg,hu⟩:=hrel
    have hMl:M.length=n:=hg.perm.length_eq.trans HN.out
    have hone:=HONE.out.perm hg.perm
    by_cases hlk:k<i-1
    ·go_wp2_with (first
      | ((with_reducible apply gS 57);refine zB rfl (.int .i64 ((i-1:Nat):Int)) (xA (i:=i) (d:=1) rfl rfl rfl (by omega) (by omega)) ?_)
      | ((with_reducible apply gS 58);refine zB rfl (.bool true) (zR rfl rfl rfl (by simpa using hlk)) ?_))
     have hDD:DS wr.drew gd M tl:=Blk.drew hD
     have hu4:=hu.drew
     refine jQ (fun k=>k ==9 ||k ==13) (fun W=>DS W gd M tl) (by kernel_rfl) ?_
     refine zI (k:=0) (by kernel_rfl) rfl (by rfl) (.slice (some ⟨gd,0,none⟩) n c) (zC rfl rfl) ?_
     simp only[Act.put,sA,sB,sC]
     refine zI (k:=1) (by kernel_rfl) rfl (by rfl) (.int .i64 ((k:Nat):Int)) (zC rfl rfl) ?_
     simp only[Act.put,sA,sB,sC]
     refine zI (k:=2) (by kernel_rfl) rfl (by rfl) (.slice (some ⟨gd,0,none⟩) n c) (zC rfl rfl) ?_
     simp only[Act.put,sA,sB,sC]
     refine zI (k:=3) (by kernel_rfl) rfl (by rfl) (.int .i64 ((k:Nat):Int)) (zC rfl rfl) ?_
     simp only[Act.put,sA,sB,sC]
     refine zI (k:=4) (by kernel_rfl) rfl (by rfl) (.int .i64 ((k+1:Nat):Int)) (zZ (i:=k) (d:=1) rfl rfl rfl (by omega)) ?_
     simp only[Act.put,sA,sB,sC]
     refine zI (k:=5) (by kernel_rfl) rfl (by rfl) (.slice (some ⟨gd,0,none⟩) n c) (zC rfl rfl) ?_
     simp only[Act.put,sA,sB,sC]
     refine zI (k:=6) (by kernel_rfl) rfl (by rfl) (.int .i64 ((k:Nat):Int)) (zC rfl rfl) ?_
     simp only[Act.put,sA,sB,sC]
     refine zI (k:=7) (by kernel_rfl) rfl (by rfl) (.int .i64 ((k+1:Nat):Int)) (zZ (i:=k) (d:=1) rfl rfl rfl (by omega)) ?_
     simp only[Act.put,sA,sB,sC]
     refine zI (k:=8) (by kernel_rfl) rfl (by rfl) (.pointer (some ⟨gd,(k+1)*2,none⟩)) (yZ rfl rfl rfl (by omega)) ?_
     simp only[Act.put,sA,sB,sC]
     refine zI (k:=10) (by kernel_rfl) rfl (by rfl) (.slice (some ⟨gd,0,none⟩) n c) (zC rfl rfl) ?_
     simp only[Act.put,sA,sB,sC]
     refine zI (k:=11) (by kernel_rfl) rfl (by rfl) (.int .i64 ((k:Nat):Int)) (zC rfl rfl) ?_
     simp only[Act.put,sA,sB,sC]
     refine zI (k:=12) (by kernel_rfl) rfl (by rfl) (.pointer (some ⟨gd,(k)*2,none⟩)) (yZ rfl rfl rfl (by omega)) ?_
     simp only[Act.put,sA,sB,sC]
     refine jW (k:=9) (by kernel_rfl) rfl (by rfl) (.agg (pkV M[k+1])) (fun W hW=>xO rfl hW (by omega) rfl) hDD ?_
     simp only[Act.put,sA,sB,sC]
     refine jW (k:=13) (by kernel_rfl) rfl (by rfl) (.agg (pkV M[k])) (fun W hW=>xO rfl hW (by omega) rfl) hDD ?_
     simp only[Act.put,sA,sB,sC]
     refine zI (k:=14) (by kernel_rfl) rfl (by rfl) (.pointer (some ⟨gd,(k)*2,none⟩)) (yZ rfl rfl rfl (by omega)) ?_
     simp only[Act.put,sA,sB,sC]
     refine xQ (k:=15) (by kernel_rfl) rfl ?_
     refine zAh rfl _ _ rfl gd M tl hDD (k) (by omega) M[k+1] (hone _ (wE1 _)) rfl rfl ?_
     intro w5 hD5 hu5
     refine zU ⟨fun h=>(by cases h), ?_⟩
     simp only[Act.put,sA,sB,sC]
     refine zI (k:=16) (by kernel_rfl) rfl (by rfl) (.pointer (some ⟨gd,(k+1)*2,none⟩)) (yZ rfl rfl rfl (by omega)) ?_
     simp only[Act.put,sA,sB,sC]
     refine xQ (k:=17) (by kernel_rfl) rfl ?_
     refine zAh rfl _ _ rfl gd (M.set (k) M[k+1]) tl hD5 (k+1) (by rw[wO0];omega) M[k] (hone _ (wE1 _)) rfl rfl ?_
     intro w6 hD6 hu6
     refine zU ⟨fun h=>(by cases h), ?_⟩
     simp only[Act.put,sA,sB,sC]
     refine uP (by kernel_rfl) ?_
     have hD7:DS w6 gd (swp pk0 M k (k+1)) tl:=by rw[←zJr M k (k+1) (by omega) (by omega)];exact hD6
     have hu7:=(hu4.trans hu5 (fun x h=>.inl h)).trans hu6 (fun x h=>.inl h)
     go_wp2_with ((with_reducible apply gS 60);refine zB rfl (.int .i64 ((k+1:Nat):Int)) (zZ (i:=k) (d:=1) rfl rfl rfl (by omega)) ?_)
     go_roundw
     case rel=>exact⟨k+1,swp pk0 M k (k+1),by omega,by omega,by go_num,hD7,hg.step pk0 hak (by omega),hu7⟩
     case measure=>simp[intOf];omega
    ·obtain rfl:k=i-1:=by omega
     go_wp2_with (first
      | ((with_reducible apply gS 57);refine zB rfl (.int .i64 ((i-1:Nat):Int)) (xA (i:=i) (d:=1) rfl rfl rfl (by omega) (by omega)) ?_)
      | ((with_reducible apply gS 58);refine zB rfl (.bool false) (zR rfl rfl rfl (by simp)) ?_))
     go_end0
     exact⟨rfl,M,hD,hg.seg pk0 hak (by omega),GoneUp.sorted pk0 pw HS2.out (by omega) hjb hlo hhi hg,hu⟩
end
section
open SM
theorem symR_any (gd:Nat) (L:List Pk) (tl:List Value) (n c a m:Nat) (w:World) (hn:L.length=n) (hn2:n≤1000000) (ham:a+1<m) (hmn:m+1≤n) (hone:OnesP L) (hD:DS w gd L tl) (h2:Sorted pk0 pw L a m) :
 Calls Tryz.prog 207 #[.slice (some ⟨gd,0,none⟩) n c,.int .i64 (a:Int),.int .i64 (m:Int),.int .i64 ((m+1:Nat):Int),.func (.func 148) #[] #[]] w (zDY gd L tl a (m+1) w):=by
 have HN:=zA hn
 have HONE:=zA hone
 have HS2:=zA h2
 clear hn hone h2
 go_enter Tryz.func207,Tryz.ntmps207
 go_upto_region 15 with (first
  | ((with_reducible apply gS 27);refine zB rfl (.int .i64 ((m-a:Nat):Int)) (xA rfl rfl rfl (by omega) (by omega)) ?_)
  | ((with_reducible apply gS 28);refine zB rfl (.bool false) (zAB rfl rfl rfl (by simp;omega)) ?_)
  | ((with_reducible apply gS 79);refine zB rfl (.int .i64 ((m+1-m:Nat):Int)) (xA rfl rfl rfl (by omega) (by omega)) ?_)
  | ((with_reducible apply gS 80);refine zB rfl (.bool true) (zAB rfl rfl rfl (by simp)) ?_))
 go_loopw [14,15] (fun iv jv wr=> ∃ (i j:Nat),a≤i∧i≤j∧j≤m∧iv=.int .i64 (i:Int)∧jv=.int .i64 (j:Int)∧DS wr gd L tl∧(i=a∨wA pk0 pw L (i-1)≤wA pk0 pw L m)∧(j=m∨wA pk0 pw L m≤wA pk0 pw L j)∧Upd (fun x=>x=gd) w wr) (fun i j _=>(intOf j).toNat-(intOf i).toNat)
 case atStart=>exact⟨a,m,by omega,by omega,by omega,rfl,rfl,hD,.inl rfl,.inl rfl,Upd.refl _ w⟩
 case round =>
  clear hD
  obtain⟨i,j,hai,hij,hjb,rfl,rfl,hD,hlo,hhi,hu⟩:=hrel
  have hml:=HN.out
  by_cases hlt:i<j
  ·have hDd:DS wr.drew gd L tl:=Blk.drew hD
   obtain⟨h,hh,hh1,hh2⟩: ∃ h,(i+j)/2=h∧i≤h∧h<j:=⟨_,rfl,by omega,by omega⟩
   by_cases hls:wA pk0 pw L m<wA pk0 pw L h
   ·have hB:decide (uW (L[m]'(by omega)).1 (L[h]'(by omega)).1<0)=true:=by
     rw[zBm, ←uK L h (by omega), ←uK L m (by omega)]
     simpa using hls
    go_wp2_with (first
     | ((with_reducible apply gS 85);refine zB rfl (.bool true) (zR rfl rfl rfl (by simpa using hlt)) ?_)
     | ((with_reducible apply gS 88);refine zB rfl (.int .i64 ((i+j:Nat):Int)) (zZ rfl rfl rfl (by omega)) ?_)
     | ((with_reducible apply gS 89);refine zB rfl (.int .u64 ((i+j:Nat):Int)) (zEQ rfl rfl (by omega)) ?_)
     | ((with_reducible apply gS 90);refine zB rfl (.int .u64 ((h:Nat):Int)) (by rw[←hh];exact zCH rfl rfl rfl) ?_)
     | ((with_reducible apply gS 91);refine zB rfl (.int .i64 ((h:Nat):Int)) (zEF rfl rfl (by omega)) ?_))
    refine xW xX (by kernel_rfl) (by kernel_rfl) ?_
    refine zE (by rfl) (.func (.func 148) #[] #[]) (zC rfl rfl) ?_
    simp only[Act.put,sA,sB,sC]
    refine zE (by rfl) (.slice (some ⟨gd,0,none⟩) n c) (zC rfl rfl) ?_
    simp only[Act.put,sA,sB,sC]
    refine zE (by rfl) (.int .i64 ((m:Nat):Int)) (zC rfl rfl) ?_
    simp only[Act.put,sA,sB,sC]
    refine zE (by rfl) (.pointer (some ⟨gd,(m)*2,none⟩)) (yZ rfl rfl rfl (by omega)) ?_
    simp only[Act.put,sA,sB,sC]
    refine yV (by rfl) (.agg (pkV (L[m]'(by omega)))) (fun W hW=>xO rfl (hDd.ext hW) (by omega) rfl) ?_
    simp only[Act.put,sA,sB,sC]
    refine zE (by rfl) (.slice (some ⟨gd,0,none⟩) n c) (zC rfl rfl) ?_
    simp only[Act.put,sA,sB,sC]
    refine zE (by rfl) (.int .i64 ((h:Nat):Int)) (zC rfl rfl) ?_
    simp only[Act.put,sA,sB,sC]
    refine zE (by rfl) (.pointer (some ⟨gd,(h)*2,none⟩)) (yZ rfl rfl rfl (by omega)) ?_
    simp only[Act.put,sA,sB,sC]
    refine yV (by rfl) (.agg (pkV (L[h]'(by omega)))) (fun W hW=>xO rfl (hDd.ext hW) (by omega) rfl) ?_
    simp only[Act.put,sA,sB,sC]
    refine zBi (by rfl) _ _ _ rfl rfl zDZ #[.agg (pkV (L[m]'(by omega))),.agg (pkV (L[h]'(by omega)))] (by simp[Act.eval]) (.int .i64 (uW (L[m]'(by omega)).1 (L[h]'(by omega)).1)) (fun W h=>zAA _ _ W) ?_
    simp only[Act.put,sA,sB,sC]
    refine zE (by rfl) (.bool true) (zR rfl rfl rfl hB) ?_
    simp only[Act.put,sA,sB,sC]
    refine zE (by rfl) (.bool false) (zGm (b:=true) rfl rfl) ?_
    simp only[Act.put,sA,sB,sC]
    refine jA ?_
    intro w4 hx4
    have hD4:=hDd.ext hx4
    have hu4:Upd (fun x=>x=gd) w w4:=hu.drew.trans (Upd.of_ext (S:=fun _=>False) hx4) (fun _ h=>h.elim)
    go_wp2_with fail
    go_roundw
    case rel=>exact⟨i,h,hai,by omega,by omega,rfl,rfl,hD4,hlo,.inr (by omega),hu4⟩
    case measure=>simp[intOf];omega
   ·have hB:decide (uW (L[m]'(by omega)).1 (L[h]'(by omega)).1<0)=false:=by
     rw[zBm, ←uK L h (by omega), ←uK L m (by omega)]
     simpa using hls
    go_wp2_with (first
     | ((with_reducible apply gS 85);refine zB rfl (.bool true) (zR rfl rfl rfl (by simpa using hlt)) ?_)
     | ((with_reducible apply gS 88);refine zB rfl (.int .i64 ((i+j:Nat):Int)) (zZ rfl rfl rfl (by omega)) ?_)
     | ((with_reducible apply gS 89);refine zB rfl (.int .u64 ((i+j:Nat):Int)) (zEQ rfl rfl (by omega)) ?_)
     | ((with_reducible apply gS 90);refine zB rfl (.int .u64 ((h:Nat):Int)) (by rw[←hh];exact zCH rfl rfl rfl) ?_)
     | ((with_reducible apply gS 91);refine zB rfl (.int .i64 ((h:Nat):Int)) (zEF rfl rfl (by omega)) ?_))
    refine xW xX (by kernel_rfl) (by kernel_rfl) ?_
    refine zE (by rfl) (.func (.func 148) #[] #[]) (zC rfl rfl) ?_
    simp only[Act.put,sA,sB,sC]
    refine zE (by rfl) (.slice (some ⟨gd,0,none⟩) n c) (zC rfl rfl) ?_
    simp only[Act.put,sA,sB,sC]
    refine zE (by rfl) (.int .i64 ((m:Nat):Int)) (zC rfl rfl) ?_
    simp only[Act.put,sA,sB,sC]
    refine zE (by rfl) (.pointer (some ⟨gd,(m)*2,none⟩)) (yZ rfl rfl rfl (by omega)) ?_
    simp only[Act.put,sA,sB,sC]
    refine yV (by rfl) (.agg (pkV (L[m]'(by omega)))) (fun W hW=>xO rfl (hDd.ext hW) (by omega) rfl) ?_
    simp only[Act.put,sA,sB,sC]
    refine zE (by rfl) (.slice (some ⟨gd,0,none⟩) n c) (zC rfl rfl) ?_
    simp only[Act.put,sA,sB,sC]
    refine zE (by rfl) (.int .i64 ((h:Nat):Int)) (zC rfl rfl) ?_
    simp only[Act.put,sA,sB,sC]
    refine zE (by rfl) (.pointer (some ⟨gd,(h)*2,none⟩)) (yZ rfl rfl rfl (by omega)) ?_
    simp only[Act.put,sA,sB,sC]
    refine yV (by rfl) (.agg (pkV (L[h]'(by omega)))) (fun W hW=>xO rfl (hDd.ext hW) (by omega) rfl) ?_
    simp only[Act.put,sA,sB,sC]
    refine zBi (by rfl) _ _ _ rfl rfl zDZ #[.agg (pkV (L[m]'(by omega))),.agg (pkV (L[h]'(by omega)))] (by simp[Act.eval]) (.int .i64 (uW (L[m]'(by omega)).1 (L[h]'(by omega)).1)) (fun W h=>zAA _ _ W) ?_
    simp only[Act.put,sA,sB,sC]
    refine zE (by rfl) (.bool false) (zR rfl rfl rfl hB) ?_
    simp only[Act.put,sA,sB,sC]
    refine zE (by rfl) (.bool true) (zGm (b:=false) rfl rfl) ?_
    simp only[Act.put,sA,sB,sC]
    refine jA ?_
    intro w4 hx4
    have hD4:=hDd.ext hx4
    have hu4:Upd (fun x=>x=gd) w w4:=hu.drew.trans (Upd.of_ext (S:=fun _=>False) hx4) (fun _ h=>h.elim)
    go_wp2_with ((with_reducible apply gS 105);refine zB rfl (.int .i64 ((h+1:Nat):Int)) (zZ (i:=h) (d:=1) rfl rfl rfl (by omega)) ?_)
    go_roundw
    case rel=>exact⟨h+1,j,by omega,by omega,hjb,by go_num,rfl,hD4,.inr (by rw[wI6];omega),hhi,hu4⟩
    case measure=>simp[intOf];omega
  ·obtain rfl:i=j:=by omega
   have hg0:=GoneDown.start pk0 L m
   go_upto_region 21 with ((with_reducible apply gS 85);refine zB rfl (.bool false) (zR rfl rfl rfl (by simp)) ?_)
   go_loopw [17] (fun kv wr=> ∃ (k:Nat) (M:List Pk),i≤k∧k≤m∧kv=.int .i64 (k:Int)∧DS wr gd M tl∧GoneDown pk0 L M m k∧Upd (fun x=>x=gd) w wr) (fun k _=>(intOf k).toNat)
   case atStart=>exact⟨m,L,by omega,by omega,rfl,hD,hg0,hu⟩
   case round =>
    clear hD hg0 hu
    obtain⟨k,M,hik,hkm,rfl,hD,hg,hu⟩:=hrel
    have hMl:M.length=n:=hg.perm.length_eq.trans HN.out
    have hone:=HONE.out.perm hg.perm
    by_cases hlk:i<k
    ·go_wp2_with ((with_reducible apply gS 110);refine zB rfl (.bool true) (xP rfl rfl rfl (by simpa using hlk)) ?_)
     have hDD:DS wr.drew gd M tl:=Blk.drew hD
     have hu4:=hu.drew
     refine jQ (fun k=>k ==9 ||k ==13) (fun W=>DS W gd M tl) (by kernel_rfl) ?_
     refine zI (k:=0) (by kernel_rfl) rfl (by rfl) (.slice (some ⟨gd,0,none⟩) n c) (zC rfl rfl) ?_
     simp only[Act.put,sA,sB,sC]
     refine zI (k:=1) (by kernel_rfl) rfl (by rfl) (.int .i64 ((k:Nat):Int)) (zC rfl rfl) ?_
     simp only[Act.put,sA,sB,sC]
     refine zI (k:=2) (by kernel_rfl) rfl (by rfl) (.slice (some ⟨gd,0,none⟩) n c) (zC rfl rfl) ?_
     simp only[Act.put,sA,sB,sC]
     refine zI (k:=3) (by kernel_rfl) rfl (by rfl) (.int .i64 ((k:Nat):Int)) (zC rfl rfl) ?_
     simp only[Act.put,sA,sB,sC]
     refine zI (k:=4) (by kernel_rfl) rfl (by rfl) (.int .i64 ((k-1:Nat):Int)) (xA (i:=k) (d:=1) rfl rfl rfl (by omega) (by omega)) ?_
     simp only[Act.put,sA,sB,sC]
     refine zI (k:=5) (by kernel_rfl) rfl (by rfl) (.slice (some ⟨gd,0,none⟩) n c) (zC rfl rfl) ?_
     simp only[Act.put,sA,sB,sC]
     refine zI (k:=6) (by kernel_rfl) rfl (by rfl) (.int .i64 ((k:Nat):Int)) (zC rfl rfl) ?_
     simp only[Act.put,sA,sB,sC]
     refine zI (k:=7) (by kernel_rfl) rfl (by rfl) (.int .i64 ((k-1:Nat):Int)) (xA (i:=k) (d:=1) rfl rfl rfl (by omega) (by omega)) ?_
     simp only[Act.put,sA,sB,sC]
     refine zI (k:=8) (by kernel_rfl) rfl (by rfl) (.pointer (some ⟨gd,(k-1)*2,none⟩)) (yZ rfl rfl rfl (by omega)) ?_
     simp only[Act.put,sA,sB,sC]
     refine zI (k:=10) (by kernel_rfl) rfl (by rfl) (.slice (some ⟨gd,0,none⟩) n c) (zC rfl rfl) ?_
     simp only[Act.put,sA,sB,sC]
     refine zI (k:=11) (by kernel_rfl) rfl (by rfl) (.int .i64 ((k:Nat):Int)) (zC rfl rfl) ?_
     simp only[Act.put,sA,sB,sC]
     refine zI (k:=12) (by kernel_rfl) rfl (by rfl) (.pointer (some ⟨gd,(k)*2,none⟩)) (yZ rfl rfl rfl (by omega)) ?_
     simp only[Act.put,sA,sB,sC]
     refine jW (k:=9) (by kernel_rfl) rfl (by rfl) (.agg (pkV M[k-1])) (fun W hW=>xO rfl hW (by omega) rfl) hDD ?_
     simp only[Act.put,sA,sB,sC]
     refine jW (k:=13) (by kernel_rfl) rfl (by rfl) (.agg (pkV M[k])) (fun W hW=>xO rfl hW (by omega) rfl) hDD ?_
     simp only[Act.put,sA,sB,sC]
     refine zI (k:=14) (by kernel_rfl) rfl (by rfl) (.pointer (some ⟨gd,(k)*2,none⟩)) (yZ rfl rfl rfl (by omega)) ?_
     simp only[Act.put,sA,sB,sC]
     refine xQ (k:=15) (by kernel_rfl) rfl ?_
     refine zAh rfl _ _ rfl gd M tl hDD (k) (by omega) M[k-1] (hone _ (wE1 _)) rfl rfl ?_
     intro w5 hD5 hu5
     refine zU ⟨fun h=>(by cases h), ?_⟩
     simp only[Act.put,sA,sB,sC]
     refine zI (k:=16) (by kernel_rfl) rfl (by rfl) (.pointer (some ⟨gd,(k-1)*2,none⟩)) (yZ rfl rfl rfl (by omega)) ?_
     simp only[Act.put,sA,sB,sC]
     refine xQ (k:=17) (by kernel_rfl) rfl ?_
     refine zAh rfl _ _ rfl gd (M.set (k) M[k-1]) tl hD5 (k-1) (by rw[wO0];omega) M[k] (hone _ (wE1 _)) rfl rfl ?_
     intro w6 hD6 hu6
     refine zU ⟨fun h=>(by cases h), ?_⟩
     simp only[Act.put,sA,sB,sC]
     refine uP (by kernel_rfl) ?_
     have hD7:DS w6 gd (swp pk0 M k (k-1)) tl:=by rw[←zJr M k (k-1) (by omega) (by omega)];exact hD6
     have hu7:=(hu4.trans hu5 (fun x h=>.inl h)).trans hu6 (fun x h=>.inl h)
     go_wp2_with ((with_reducible apply gS 112);refine zB rfl (.int .i64 ((k-1:Nat):Int)) (xA (i:=k) (d:=1) rfl rfl rfl (by omega) (by omega)) ?_)
     go_roundw
     case rel=>exact⟨k-1,swp pk0 M k (k-1),by omega,by omega,by go_num,hD7,hg.step pk0 (by omega) hkm (by omega),hu7⟩
     case measure=>simp[intOf];omega
    ·obtain rfl:i=k:=by omega
     go_wp2_with ((with_reducible apply gS 110);refine zB rfl (.bool false) (xP rfl rfl rfl (by simp)) ?_)
     go_end0
     exact⟨rfl,M,hD,hg.seg pk0 hai hkm (by omega),GoneDown.sorted pk0 pw HS2.out hai hkm hlo hhi hg,hu⟩
end
section
open SM
theorem zMs (gd:Nat) (L:List Pk) (tl:List Value) (n c a b k:Nat) (w:World) (hn:L.length=n) (hn2:n≤1000000) (hab:a+k≤b) (hbn:b+k≤n) (hone:OnesP L) (hD:DS w gd L tl) :
 Calls Tryz.prog 220 #[.slice (some ⟨gd,0,none⟩) n c,.int .i64 (a:Int),.int .i64 (b:Int),.int .i64 (k:Int),.func (.func 148) #[] #[]] w fun e w'=>e=.returned (.tuple #[])∧ ∃ M,DS w' gd M tl∧Swapped pk0 L M a b k∧Upd (fun x=>x=gd) w w':=by
 have HN:=zA hn
 have HONE:=zA hone
 clear hn hone
 have hs0:=Swapped.zero pk0 L a b
 go_enter Tryz.func220,Tryz.ntmps220
 go_upto_region 1 with fail
 go_loopw [10] (fun iv wr=> ∃ (i:Nat) (M:List Pk),i≤k∧iv=.int .i64 (i:Int)∧DS wr gd M tl∧Swapped pk0 L M a b i∧Upd (fun x=>x=gd) w wr) (fun i _=>k-(intOf i).toNat)
 case atStart=>exact⟨0,L,by omega,rfl,hD,hs0,Upd.refl _ w⟩
 case round =>
  clear hD hs0
  obtain⟨i,M,hik,rfl,hD,hsw,hu⟩:=hrel
  have hml:M.length=n:=hsw.1.length_eq.trans HN.out
  have hone:=HONE.out.perm hsw.1
  by_cases hlt:i<k
  ·go_wp2_with ((with_reducible apply gS 13);refine zB rfl (.bool true) (zR rfl rfl rfl (by simpa using hlt)) ?_)
   have hDD:DS wr.drew gd M tl:=Blk.drew hD
   have hu4:=hu.drew
   refine jQ (fun k=>k ==13 ||k ==19) (fun W=>DS W gd M tl) (by kernel_rfl) ?_
   refine zI (k:=0) (by kernel_rfl) rfl (by rfl) (.slice (some ⟨gd,0,none⟩) n c) (zC rfl rfl) ?_
   simp only[Act.put,sA,sB,sC]
   refine zI (k:=1) (by kernel_rfl) rfl (by rfl) (.int .i64 ((a:Nat):Int)) (zC rfl rfl) ?_
   simp only[Act.put,sA,sB,sC]
   refine zI (k:=2) (by kernel_rfl) rfl (by rfl) (.int .i64 ((i:Nat):Int)) (zC rfl rfl) ?_
   simp only[Act.put,sA,sB,sC]
   refine zI (k:=3) (by kernel_rfl) rfl (by rfl) (.int .i64 ((a+i:Nat):Int)) (zZ rfl rfl rfl (by omega)) ?_
   simp only[Act.put,sA,sB,sC]
   refine zI (k:=4) (by kernel_rfl) rfl (by rfl) (.slice (some ⟨gd,0,none⟩) n c) (zC rfl rfl) ?_
   simp only[Act.put,sA,sB,sC]
   refine zI (k:=5) (by kernel_rfl) rfl (by rfl) (.int .i64 ((b:Nat):Int)) (zC rfl rfl) ?_
   simp only[Act.put,sA,sB,sC]
   refine zI (k:=6) (by kernel_rfl) rfl (by rfl) (.int .i64 ((i:Nat):Int)) (zC rfl rfl) ?_
   simp only[Act.put,sA,sB,sC]
   refine zI (k:=7) (by kernel_rfl) rfl (by rfl) (.int .i64 ((b+i:Nat):Int)) (zZ rfl rfl rfl (by omega)) ?_
   simp only[Act.put,sA,sB,sC]
   refine zI (k:=8) (by kernel_rfl) rfl (by rfl) (.slice (some ⟨gd,0,none⟩) n c) (zC rfl rfl) ?_
   simp only[Act.put,sA,sB,sC]
   refine zI (k:=9) (by kernel_rfl) rfl (by rfl) (.int .i64 ((b:Nat):Int)) (zC rfl rfl) ?_
   simp only[Act.put,sA,sB,sC]
   refine zI (k:=10) (by kernel_rfl) rfl (by rfl) (.int .i64 ((i:Nat):Int)) (zC rfl rfl) ?_
   simp only[Act.put,sA,sB,sC]
   refine zI (k:=11) (by kernel_rfl) rfl (by rfl) (.int .i64 ((b+i:Nat):Int)) (zZ rfl rfl rfl (by omega)) ?_
   simp only[Act.put,sA,sB,sC]
   refine zI (k:=12) (by kernel_rfl) rfl (by rfl) (.pointer (some ⟨gd,(b+i)*2,none⟩)) (yZ rfl rfl rfl (by omega)) ?_
   simp only[Act.put,sA,sB,sC]
   refine zI (k:=14) (by kernel_rfl) rfl (by rfl) (.slice (some ⟨gd,0,none⟩) n c) (zC rfl rfl) ?_
   simp only[Act.put,sA,sB,sC]
   refine zI (k:=15) (by kernel_rfl) rfl (by rfl) (.int .i64 ((a:Nat):Int)) (zC rfl rfl) ?_
   simp only[Act.put,sA,sB,sC]
   refine zI (k:=16) (by kernel_rfl) rfl (by rfl) (.int .i64 ((i:Nat):Int)) (zC rfl rfl) ?_
   simp only[Act.put,sA,sB,sC]
   refine zI (k:=17) (by kernel_rfl) rfl (by rfl) (.int .i64 ((a+i:Nat):Int)) (zZ rfl rfl rfl (by omega)) ?_
   simp only[Act.put,sA,sB,sC]
   refine zI (k:=18) (by kernel_rfl) rfl (by rfl) (.pointer (some ⟨gd,(a+i)*2,none⟩)) (yZ rfl rfl rfl (by omega)) ?_
   simp only[Act.put,sA,sB,sC]
   refine jW (k:=13) (by kernel_rfl) rfl (by rfl) (.agg (pkV M[b+i])) (fun W hW=>xO rfl hW (by omega) rfl) hDD ?_
   simp only[Act.put,sA,sB,sC]
   refine jW (k:=19) (by kernel_rfl) rfl (by rfl) (.agg (pkV M[a+i])) (fun W hW=>xO rfl hW (by omega) rfl) hDD ?_
   simp only[Act.put,sA,sB,sC]
   refine zI (k:=20) (by kernel_rfl) rfl (by rfl) (.pointer (some ⟨gd,(a+i)*2,none⟩)) (yZ rfl rfl rfl (by omega)) ?_
   simp only[Act.put,sA,sB,sC]
   refine xQ (k:=21) (by kernel_rfl) rfl ?_
   refine zAh rfl _ _ rfl gd M tl hDD (a+i) (by omega) M[b+i] (hone _ (wE1 _)) rfl rfl ?_
   intro w5 hD5 hu5
   refine zU ⟨fun h=>(by cases h), ?_⟩
   simp only[Act.put,sA,sB,sC]
   refine zI (k:=22) (by kernel_rfl) rfl (by rfl) (.pointer (some ⟨gd,(b+i)*2,none⟩)) (yZ rfl rfl rfl (by omega)) ?_
   simp only[Act.put,sA,sB,sC]
   refine xQ (k:=23) (by kernel_rfl) rfl ?_
   refine zAh rfl _ _ rfl gd (M.set (a+i) M[b+i]) tl hD5 (b+i) (by rw[wO0];omega) M[a+i] (hone _ (wE1 _)) rfl rfl ?_
   intro w6 hD6 hu6
   refine zU ⟨fun h=>(by cases h), ?_⟩
   simp only[Act.put,sA,sB,sC]
   refine uP (by kernel_rfl) ?_
   have hD7:DS w6 gd (swp pk0 M (a+i) (b+i)) tl:=by rw[←zJr M (a+i) (b+i) (by omega) (by omega)];exact hD6
   have hu7:=(hu4.trans hu5 (fun x h=>.inl h)).trans hu6 (fun x h=>.inl h)
   have hsw':=hsw.step pk0 (by omega) (by have:=HN.out;omega)
   go_wp2_with ((with_reducible apply gS 15);refine zB rfl (.int .i64 ((i+1:Nat):Int)) (zZ (i:=i) (d:=1) rfl rfl rfl (by omega)) ?_)
   go_roundw
   case rel=>exact⟨i+1,swp pk0 M (a+i) (b+i),by omega,by go_num,hD7,hsw',hu7⟩
   case measure=>simp[intOf];omega
  ·obtain rfl:i=k:=by omega
   go_wp2_with ((with_reducible apply gS 13);refine zB rfl (.bool false) (zR rfl rfl rfl (by simp)) ?_)
   go_end0
   exact⟨rfl,M,hD,hsw,hu⟩
theorem zQK (gd:Nat) (L:List Pk) (tl:List Value) (n c a m b:Nat) (w:World) (hn:L.length=n) (hn2:n≤1000000) (ham:a<m) (hmb:m<b) (hbn:b≤n) (hone:OnesP L) (hD:DS w gd L tl) :
 Calls Tryz.prog 215 #[.slice (some ⟨gd,0,none⟩) n c,.int .i64 (a:Int),.int .i64 (m:Int),.int .i64 (b:Int),.func (.func 148) #[] #[]] w fun e w'=>e=.returned (.tuple #[])∧ ∃ M,DS w' gd M tl∧(M.Perm L∧ ∀ x,at_ pk0 M x=zAb pk0 L a m b x)∧Upd (fun x=>x=gd) w w':=by
 have HN:=zA hn
 have HONE:=zA hone
 have HS:=zA (fun (M:List Pk) a b k W (h1:a+k≤b) (h2:b+k≤n) (hM:M.Perm L) (h:DS W gd M tl)=>zMs gd M tl n c a b k W (hM.length_eq.trans hn) hn2 h1 h2 (hone.perm hM) h)
 clear hn hone
 have hr0:=Rot.start pk0 L a m b (by omega) (by omega)
 go_enter Tryz.func215,Tryz.ntmps215
 go_upto_region 2 with (first
  | ((with_reducible apply gS 14);refine zB rfl (.int .i64 ((m-a:Nat):Int)) (xA rfl rfl rfl (by omega) (by omega)) ?_)
  | ((with_reducible apply gS 17);refine zB rfl (.int .i64 ((b-m:Nat):Int)) (xA rfl rfl rfl (by omega) (by omega)) ?_))
 go_loopw [10,11] (fun iv jv wr=> ∃ (i j:Nat) (M:List Pk),1≤i∧1≤j∧i≤m-a∧j≤b-m∧iv=.int .i64 (i:Int)∧jv=.int .i64 (j:Int)∧DS wr gd M tl∧Rot pk0 L M a m b i j∧Upd (fun x=>x=gd) w wr) (fun i j _=>(intOf i).toNat+(intOf j).toNat)
 case atStart=>exact⟨m-a,b-m,L,by omega,by omega,by omega,by omega,rfl,rfl,hD,hr0,Upd.refl _ w⟩
 case round =>
  clear hD hr0
  obtain⟨i,j,M,hi1,hj1,hi,hj,rfl,rfl,hD,hrot,hu⟩:=hrel
  by_cases heq:i=j
  ·subst heq
   have HS1:=zA (HS.out M (m-i) m i wr (by omega) (by omega) hrot.perm hD)
   go_wp2_with (first
    | ((with_reducible apply gS 20);refine zB rfl (.bool false) (zAK rfl rfl rfl (by simp)) ?_)
    | ((with_reducible apply gS 53);refine zB rfl (.int .i64 ((m-i:Nat):Int)) (xA rfl rfl rfl (by omega) (by omega)) ?_)
    | (go_at_call 220;(with_reducible refine HS1.out.mono ?_);rintro e w3 ⟨rfl,N,hD3,hsw,hu3⟩))
   go_end0
   exact⟨rfl,N,hD3,hrot.last pk0 (by omega) hsw,hu.trans hu3 (fun x h=>.inl h)⟩
  ·by_cases hgt:j<i
   ·have HS1:=zA (HS.out M (m-i) m j wr (by omega) (by omega) hrot.perm hD)
    go_wp2_with (first
     | ((with_reducible apply gS 20);refine zB rfl (.bool true) (zAK rfl rfl rfl (by simpa using heq)) ?_)
     | ((with_reducible apply gS 23);refine zB rfl (.bool true) (xP rfl rfl rfl (by simpa using hgt)) ?_)
     | ((with_reducible apply gS 27);refine zB rfl (.int .i64 ((m-i:Nat):Int)) (xA rfl rfl rfl (by omega) (by omega)) ?_)
     | (go_at_call 220;(with_reducible refine HS1.out.mono ?_);rintro e w3 ⟨rfl,N,hD3,hsw,hu3⟩)
     | ((with_reducible apply gS 34);refine zB rfl (.int .i64 ((i-j:Nat):Int)) (xA rfl rfl rfl (by omega) (by omega)) ?_))
    go_roundw
    case rel=>exact⟨i-j,j,N,by omega,hj1,by omega,hj,by go_num,rfl,hD3,hrot.left pk0 hgt (by omega) hsw,hu.trans hu3 (fun x h=>.inl h)⟩
    case measure=>simp[intOf];omega
   ·have HS1:=zA (HS.out M (m-i) (m+j-i) i wr (by omega) (by omega) hrot.perm hD)
    go_wp2_with (first
     | ((with_reducible apply gS 20);refine zB rfl (.bool true) (zAK rfl rfl rfl (by simpa using heq)) ?_)
     | ((with_reducible apply gS 23);refine zB rfl (.bool false) (xP rfl rfl rfl (by simpa using hgt)) ?_)
     | ((with_reducible apply gS 38);refine zB rfl (.int .i64 ((m-i:Nat):Int)) (xA rfl rfl rfl (by omega) (by omega)) ?_)
     | ((with_reducible apply gS 41);refine zB rfl (.int .i64 ((m+j:Nat):Int)) (zZ rfl rfl rfl (by omega)) ?_)
     | ((with_reducible apply gS 43);refine zB rfl (.int .i64 ((m+j-i:Nat):Int)) (xA rfl rfl rfl (by omega) (by omega)) ?_)
     | (go_at_call 220;(with_reducible refine HS1.out.mono ?_);rintro e w3 ⟨rfl,N,hD3,hsw,hu3⟩)
     | ((with_reducible apply gS 49);refine zB rfl (.int .i64 ((j-i:Nat):Int)) (xA rfl rfl rfl (by omega) (by omega)) ?_))
    go_roundw
    case rel=>exact⟨i,j-i,N,hi1,by omega,hi,by omega,rfl,by go_num,hD3,hrot.right pk0 (by omega) (by omega) hsw,hu.trans hu3 (fun x h=>.inl h)⟩
    case measure=>simp[intOf];omega
end
end Go.Proofs.YtkggcjdlpendfaaGreatDoor
