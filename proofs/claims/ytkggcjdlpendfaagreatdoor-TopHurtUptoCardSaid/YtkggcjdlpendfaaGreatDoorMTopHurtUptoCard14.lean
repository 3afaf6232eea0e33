import Derived.Deep.CutRange
import Derived.Lib.BufferMore
import Derived.Lib.AppendZeros
import Derived.Test.YtkggcjdlpendfaaGreatDoorMTopHurtUptoCard13
set_option linter.all false
set_option maxRecDepth 20000
set_option maxHeartbeats 8000000
namespace Go.Proofs.YtkggcjdlpendfaaGreatDoor
open Go.RowKit Tryz
section
open SM
def symR_any (gd:Nat) (L:List Pk) (tl:List Value) (n c a m:Nat) (w:World) (hn:L.length=n) (hn2:n≤1000000) (ham:a+1<m) (hmn:m+1≤n) (hone:OnesP L) (hD:DS w gd L tl) (h2:Sorted pk0 pw L a m) :
 Calls prog 207 #[.slice (some ⟨gd,0,none⟩) n c,.int .i64 (a:Int),.int .i64 (m:Int),.int .i64 ((m+1:Nat):Int),.func (.func 148) #[] #[]] w (zFC gd L tl a (m+1) w):=by
 have HN:=zA hn;have HONE:=zA hone;have HS2:=zA h2;clear hn hone h2;go_enter func207,ntmps207
 go_upto_region 15 with (first
  | ((with_reducible apply gS 27);refine zB rfl (.int .i64 ((m-a:Nat):Int)) (xP rfl rfl rfl (by omega) (by omega)) ?_)
  | ((with_reducible apply gS 28);refine zB rfl (.bool false) (uZ rfl rfl rfl (by simp;omega)) ?_)
  | ((with_reducible apply gS 79);refine zB rfl (.int .i64 ((m+1-m:Nat):Int)) (xP rfl rfl rfl (by omega) (by omega)) ?_)
  | ((with_reducible apply gS 80);refine zB rfl (.bool true) (uZ rfl rfl rfl (by simp)) ?_))
 go_loopw [14,15] (λiv jv wr=>∃(i j:Nat),a≤i∧i≤j∧j≤m∧iv=.int .i64 (i:Int)∧jv=.int .i64 (j:Int)∧DS wr gd L tl∧(i=a∨wA pk0 pw L (i-1)≤wA pk0 pw L m)∧(j=m∨wA pk0 pw L m≤wA pk0 pw L j)∧Upd (λx=>x=gd) w wr) (λi j _=>(intOf j).toNat-(intOf i).toNat)
 case atStart=>exact⟨a,m,by omega,by omega,by omega,rfl,rfl,hD,.inl rfl,.inl rfl,Upd.refl _ w⟩
 case round =>
  clear hD;obtain⟨i,j,hai,hij,hjb,rfl,rfl,hD,hlo,hhi,hu⟩:=hrel;have hml:=HN.out
  by_cases hlt:i<j
  ·have hDd:DS wr.drew gd L tl:=Blk.drew hD;obtain⟨h,hh,hh1,hh2⟩:∃h,(i+j)/2=h∧i≤h∧h<j:=⟨_,rfl,by omega,by omega⟩
   by_cases hls:wA pk0 pw L m<wA pk0 pw L h
   ·have hB:decide (zAZ (L[m]'(by omega)).1 (L[h]'(by omega)).1<0)=true:=by
     rw[zCz, ←zAQ L h (by omega), ←zAQ L m (by omega)];simpa using hls
    go_wp2_with (first
     | ((with_reducible apply gS 85);refine zB rfl (.bool true) (yB rfl rfl rfl (by simpa using hlt)) ?_)
     | ((with_reducible apply gS 88);refine zB rfl (.int .i64 ((i+j:Nat):Int)) (yL rfl rfl rfl (by omega)) ?_)
     | ((with_reducible apply gS 89);refine zB rfl (.int .u64 ((i+j:Nat):Int)) (zGJ rfl rfl (by omega)) ?_)
     | ((with_reducible apply gS 90);refine zB rfl (.int .u64 ((h:Nat):Int)) (by rw[←hh];exact zDW rfl rfl rfl) ?_)
     | ((with_reducible apply gS 91);refine zB rfl (.int .i64 ((h:Nat):Int)) (zFt rfl rfl (by omega)) ?_))
    refine xU qM (by kernel_rfl) (by kernel_rfl) ?_;refine zE (by rfl) (.func (.func 148) #[] #[]) (zD rfl rfl) ?_;simp only[sP,sB,sC];refine zE (by rfl) (.slice (some ⟨gd,0,none⟩) n c) (zD rfl rfl) ?_;simp only[sP,sB,sC];refine zE (by rfl) (.int .i64 ((m:Nat):Int)) (zD rfl rfl) ?_;simp only[sP,sB,sC];refine zE (by rfl) (.pointer (some ⟨gd,(m)*2,none⟩)) (xQ rfl rfl rfl (by omega)) ?_;simp only[sP,sB,sC];refine xA (by rfl) (.agg (pkV (L[m]'(by omega)))) (λW hW=>qE rfl (hDd.ext hW) (by omega) rfl) ?_;simp only[sP,sB,sC];refine zE (by rfl) (.slice (some ⟨gd,0,none⟩) n c) (zD rfl rfl) ?_;simp only[sP,sB,sC];refine zE (by rfl) (.int .i64 ((h:Nat):Int)) (zD rfl rfl) ?_;simp only[sP,sB,sC];refine zE (by rfl) (.pointer (some ⟨gd,(h)*2,none⟩)) (xQ rfl rfl rfl (by omega)) ?_;simp only[sP,sB,sC];refine xA (by rfl) (.agg (pkV (L[h]'(by omega)))) (λW hW=>qE rfl (hDd.ext hW) (by omega) rfl) ?_;simp only[sP,sB,sC];refine zCv (by rfl) _ _ _ rfl rfl zEz #[.agg (pkV (L[m]'(by omega))),.agg (pkV (L[h]'(by omega)))] (by simp[Act.eval]) (.int .i64 (zAZ (L[m]'(by omega)).1 (L[h]'(by omega)).1)) (λW h=>zAe _ _ W) ?_;simp only[Act.put,sA,sB,sC];refine zE (by rfl) (.bool true) (yB rfl rfl rfl hB) ?_;simp only[sP,sB,sC];refine zE (by rfl) (.bool false) (zJl (b:=true) rfl rfl) ?_;simp only[sP,sB,sC];refine jU ?_;intro w4 hx4;have hD4:=hDd.ext hx4;have hu4:Upd (λx=>x=gd) w w4:=hu.drew.trans (Upd.of_ext (S:=λ_=>False) hx4) (λ_ h=>h.elim);go_wp2_with fail;go_roundw
    case rel=>exact⟨i,h,hai,by omega,by omega,rfl,rfl,hD4,hlo,.inr (by omega),hu4⟩
    case measure=>simp[intOf];omega
   have hB:decide (zAZ (L[m]'(by omega)).1 (L[h]'(by omega)).1<0)=false:=by
    rw[zCz, ←zAQ L h (by omega), ←zAQ L m (by omega)];simpa using hls
   go_wp2_with (first
    | ((with_reducible apply gS 85);refine zB rfl (.bool true) (yB rfl rfl rfl (by simpa using hlt)) ?_)
    | ((with_reducible apply gS 88);refine zB rfl (.int .i64 ((i+j:Nat):Int)) (yL rfl rfl rfl (by omega)) ?_)
    | ((with_reducible apply gS 89);refine zB rfl (.int .u64 ((i+j:Nat):Int)) (zGJ rfl rfl (by omega)) ?_)
    | ((with_reducible apply gS 90);refine zB rfl (.int .u64 ((h:Nat):Int)) (by rw[←hh];exact zDW rfl rfl rfl) ?_)
    | ((with_reducible apply gS 91);refine zB rfl (.int .i64 ((h:Nat):Int)) (zFt rfl rfl (by omega)) ?_))
   refine xU qM (by kernel_rfl) (by kernel_rfl) ?_;refine zE (by rfl) (.func (.func 148) #[] #[]) (zD rfl rfl) ?_;simp only[sP,sB,sC];refine zE (by rfl) (.slice (some ⟨gd,0,none⟩) n c) (zD rfl rfl) ?_;simp only[sP,sB,sC];refine zE (by rfl) (.int .i64 ((m:Nat):Int)) (zD rfl rfl) ?_;simp only[sP,sB,sC];refine zE (by rfl) (.pointer (some ⟨gd,(m)*2,none⟩)) (xQ rfl rfl rfl (by omega)) ?_;simp only[sP,sB,sC];refine xA (by rfl) (.agg (pkV (L[m]'(by omega)))) (λW hW=>qE rfl (hDd.ext hW) (by omega) rfl) ?_;simp only[sP,sB,sC];refine zE (by rfl) (.slice (some ⟨gd,0,none⟩) n c) (zD rfl rfl) ?_;simp only[sP,sB,sC];refine zE (by rfl) (.int .i64 ((h:Nat):Int)) (zD rfl rfl) ?_;simp only[sP,sB,sC];refine zE (by rfl) (.pointer (some ⟨gd,(h)*2,none⟩)) (xQ rfl rfl rfl (by omega)) ?_;simp only[sP,sB,sC];refine xA (by rfl) (.agg (pkV (L[h]'(by omega)))) (λW hW=>qE rfl (hDd.ext hW) (by omega) rfl) ?_;simp only[sP,sB,sC];refine zCv (by rfl) _ _ _ rfl rfl zEz #[.agg (pkV (L[m]'(by omega))),.agg (pkV (L[h]'(by omega)))] (by simp[Act.eval]) (.int .i64 (zAZ (L[m]'(by omega)).1 (L[h]'(by omega)).1)) (λW h=>zAe _ _ W) ?_;simp only[Act.put,sA,sB,sC];refine zE (by rfl) (.bool false) (yB rfl rfl rfl hB) ?_;simp only[sP,sB,sC];refine zE (by rfl) (.bool true) (zJl (b:=false) rfl rfl) ?_;simp only[sP,sB,sC];refine jU ?_;intro w4 hx4;have hD4:=hDd.ext hx4;have hu4:Upd (λx=>x=gd) w w4:=hu.drew.trans (Upd.of_ext (S:=λ_=>False) hx4) (λ_ h=>h.elim);go_wp2_with ((with_reducible apply gS 105);refine zB rfl (.int .i64 ((h+1:Nat):Int)) (yL (i:=h) (d:=1) rfl rfl rfl (by omega)) ?_)
   go_roundw
   case rel=>exact⟨h+1,j,by omega,by omega,hjb,by go_num,rfl,hD4,.inr (by rw[wH8];omega),hhi,hu4⟩
   case measure=>simp[intOf];omega
  obtain rfl:i=j:=by omega
  have hg0:=GoneDown.start pk0 L m;go_upto_region 21 with ((with_reducible apply gS 85);refine zB rfl (.bool false) (yB rfl rfl rfl (by simp)) ?_)
  go_loopw [17] (λkv wr=>∃(k:Nat) (M:List Pk),i≤k∧k≤m∧kv=.int .i64 (k:Int)∧DS wr gd M tl∧GoneDown pk0 L M m k∧Upd (λx=>x=gd) w wr) (λk _=>(intOf k).toNat)
  case atStart=>exact⟨m,L,by omega,by omega,rfl,hD,hg0,hu⟩
  case round =>
   clear hD hg0 hu;obtain⟨k,M,hik,hkm,rfl,hD,hg,hu⟩:=hrel;have hMl:M.length=n:=hg.perm.length_eq.trans HN.out;have hone:=HONE.out.perm hg.perm
   by_cases hlk:i<k
   ·go_wp2_with ((with_reducible apply gS 110);refine zB rfl (.bool true) (xY rfl rfl rfl (by simpa using hlk)) ?_)
    have hDD:DS wr.drew gd M tl:=Blk.drew hD;have hu4:=hu.drew;refine vI (λk=>k ==9 ||k ==13) (λW=>DS W gd M tl) (by kernel_rfl) ?_;refine zI (k:=0) (by kernel_rfl) rfl (by rfl) (.slice (some ⟨gd,0,none⟩) n c) (zD rfl rfl) ?_;simp only[sP,sB,sC];refine zI (k:=1) (by kernel_rfl) rfl (by rfl) (.int .i64 ((k:Nat):Int)) (zD rfl rfl) ?_;simp only[sP,sB,sC];refine zI (k:=2) (by kernel_rfl) rfl (by rfl) (.slice (some ⟨gd,0,none⟩) n c) (zD rfl rfl) ?_;simp only[sP,sB,sC];refine zI (k:=3) (by kernel_rfl) rfl (by rfl) (.int .i64 ((k:Nat):Int)) (zD rfl rfl) ?_;simp only[sP,sB,sC];refine zI (k:=4) (by kernel_rfl) rfl (by rfl) (.int .i64 ((k-1:Nat):Int)) (xP (i:=k) (d:=1) rfl rfl rfl (by omega) (by omega)) ?_;simp only[sP,sB,sC];refine zI (k:=5) (by kernel_rfl) rfl (by rfl) (.slice (some ⟨gd,0,none⟩) n c) (zD rfl rfl) ?_;simp only[sP,sB,sC];refine zI (k:=6) (by kernel_rfl) rfl (by rfl) (.int .i64 ((k:Nat):Int)) (zD rfl rfl) ?_;simp only[sP,sB,sC];refine zI (k:=7) (by kernel_rfl) rfl (by rfl) (.int .i64 ((k-1:Nat):Int)) (xP (i:=k) (d:=1) rfl rfl rfl (by omega) (by omega)) ?_;simp only[sP,sB,sC];refine zI (k:=8) (by kernel_rfl) rfl (by rfl) (.pointer (some ⟨gd,(k-1)*2,none⟩)) (xQ rfl rfl rfl (by omega)) ?_;simp only[sP,sB,sC];refine zI (k:=10) (by kernel_rfl) rfl (by rfl) (.slice (some ⟨gd,0,none⟩) n c) (zD rfl rfl) ?_;simp only[sP,sB,sC];refine zI (k:=11) (by kernel_rfl) rfl (by rfl) (.int .i64 ((k:Nat):Int)) (zD rfl rfl) ?_;simp only[sP,sB,sC];refine zI (k:=12) (by kernel_rfl) rfl (by rfl) (.pointer (some ⟨gd,(k)*2,none⟩)) (xQ rfl rfl rfl (by omega)) ?_;simp only[sP,sB,sC];refine vR (k:=9) (by kernel_rfl) rfl (by rfl) (.agg (pkV M[k-1])) (λW hW=>qE rfl hW (by omega) rfl) hDD ?_;simp only[Act.put,sA,sB,sC];refine vR (k:=13) (by kernel_rfl) rfl (by rfl) (.agg (pkV M[k])) (λW hW=>qE rfl hW (by omega) rfl) hDD ?_;simp only[Act.put,sA,sB,sC];refine zI (k:=14) (by kernel_rfl) rfl (by rfl) (.pointer (some ⟨gd,(k)*2,none⟩)) (xQ rfl rfl rfl (by omega)) ?_;simp only[sP,sB,sC];refine xZ (k:=15) (by kernel_rfl) rfl ?_;refine zBW rfl _ _ rfl gd M tl hDD (k) (by omega) M[k-1] (hone _ (wC7 _)) rfl rfl ?_;intro w5 hD5 hu5;refine zZ ⟨λh=>(by cases h), ?_⟩;simp only[Act.put,sA,sB,sC];refine zI (k:=16) (by kernel_rfl) rfl (by rfl) (.pointer (some ⟨gd,(k-1)*2,none⟩)) (xQ rfl rfl rfl (by omega)) ?_;simp only[sP,sB,sC];refine xZ (k:=17) (by kernel_rfl) rfl ?_;refine zBW rfl _ _ rfl gd (M.set (k) M[k-1]) tl hD5 (k-1) (by rw[wR6];omega) M[k] (hone _ (wC7 _)) rfl rfl ?_;intro w6 hD6 hu6;refine zZ ⟨λh=>(by cases h), ?_⟩;simp only[Act.put,sA,sB,sC];refine zAK (by kernel_rfl) ?_;have hD7:DS w6 gd (swp pk0 M k (k-1)) tl:=by rw[←zMz M k (k-1) (by omega) (by omega)];exact hD6
    have hu7:=(hu4.trans hu5 (λx h=>.inl h)).trans hu6 (λx h=>.inl h);go_wp2_with ((with_reducible apply gS 112);refine zB rfl (.int .i64 ((k-1:Nat):Int)) (xP (i:=k) (d:=1) rfl rfl rfl (by omega) (by omega)) ?_)
    go_roundw
    case rel=>exact⟨k-1,swp pk0 M k (k-1),by omega,by omega,by go_num,hD7,hg.step pk0 (by omega) hkm (by omega),hu7⟩
    case measure=>simp[intOf];omega
   obtain rfl:i=k:=by omega
   go_wp2_with ((with_reducible apply gS 110);refine zB rfl (.bool false) (xY rfl rfl rfl (by simp)) ?_)
   go_end0
   exact⟨rfl,M,hD,hg.seg pk0 hai hkm (by omega),GoneDown.sorted pk0 pw HS2.out hai hkm hlo hhi hg,hu⟩
end
section
open SM
def zQY (gd:Nat) (L:List Pk) (tl:List Value) (n c a b k:Nat) (w:World) (hn:L.length=n) (hn2:n≤1000000) (hab:a+k≤b) (hbn:b+k≤n) (hone:OnesP L) (hD:DS w gd L tl) :
 Calls prog 220 #[.slice (some ⟨gd,0,none⟩) n c,.int .i64 (a:Int),.int .i64 (b:Int),.int .i64 (k:Int),.func (.func 148) #[] #[]] w λe w'=>e=.returned (.tuple #[])∧∃M,DS w' gd M tl∧Swapped pk0 L M a b k∧Upd (λx=>x=gd) w w':=by
 have HN:=zA hn;have HONE:=zA hone;clear hn hone;have hs0:=Swapped.zero pk0 L a b;go_enter func220,ntmps220;go_upto_region 1 with fail
 go_loopw [10] (λiv wr=>∃(i:Nat) (M:List Pk),i≤k∧iv=.int .i64 (i:Int)∧DS wr gd M tl∧Swapped pk0 L M a b i∧Upd (λx=>x=gd) w wr) (λi _=>k-(intOf i).toNat)
 case atStart=>exact⟨0,L,by omega,rfl,hD,hs0,Upd.refl _ w⟩
 case round =>
  clear hD hs0;obtain⟨i,M,hik,rfl,hD,hsw,hu⟩:=hrel;have hml:M.length=n:=hsw.1.length_eq.trans HN.out;have hone:=HONE.out.perm hsw.1
  by_cases hlt:i<k
  ·go_wp2_with ((with_reducible apply gS 13);refine zB rfl (.bool true) (yB rfl rfl rfl (by simpa using hlt)) ?_)
   have hDD:DS wr.drew gd M tl:=Blk.drew hD;have hu4:=hu.drew;refine vI (λk=>k ==13 ||k ==19) (λW=>DS W gd M tl) (by kernel_rfl) ?_;refine zI (k:=0) (by kernel_rfl) rfl (by rfl) (.slice (some ⟨gd,0,none⟩) n c) (zD rfl rfl) ?_;simp only[sP,sB,sC];refine zI (k:=1) (by kernel_rfl) rfl (by rfl) (.int .i64 ((a:Nat):Int)) (zD rfl rfl) ?_;simp only[sP,sB,sC];refine zI (k:=2) (by kernel_rfl) rfl (by rfl) (.int .i64 ((i:Nat):Int)) (zD rfl rfl) ?_;simp only[sP,sB,sC];refine zI (k:=3) (by kernel_rfl) rfl (by rfl) (.int .i64 ((a+i:Nat):Int)) (yL rfl rfl rfl (by omega)) ?_;simp only[sP,sB,sC];refine zI (k:=4) (by kernel_rfl) rfl (by rfl) (.slice (some ⟨gd,0,none⟩) n c) (zD rfl rfl) ?_;simp only[sP,sB,sC];refine zI (k:=5) (by kernel_rfl) rfl (by rfl) (.int .i64 ((b:Nat):Int)) (zD rfl rfl) ?_;simp only[sP,sB,sC];refine zI (k:=6) (by kernel_rfl) rfl (by rfl) (.int .i64 ((i:Nat):Int)) (zD rfl rfl) ?_;simp only[sP,sB,sC];refine zI (k:=7) (by kernel_rfl) rfl (by rfl) (.int .i64 ((b+i:Nat):Int)) (yL rfl rfl rfl (by omega)) ?_;simp only[sP,sB,sC];refine zI (k:=8) (by kernel_rfl) rfl (by rfl) (.slice (some ⟨gd,0,none⟩) n c) (zD rfl rfl) ?_;simp only[sP,sB,sC];refine zI (k:=9) (by kernel_rfl) rfl (by rfl) (.int .i64 ((b:Nat):Int)) (zD rfl rfl) ?_;simp only[sP,sB,sC];refine zI (k:=10) (by kernel_rfl) rfl (by rfl) (.int .i64 ((i:Nat):Int)) (zD rfl rfl) ?_;simp only[sP,sB,sC];refine zI (k:=11) (by kernel_rfl) rfl (by rfl) (.int .i64 ((b+i:Nat):Int)) (yL rfl rfl rfl (by omega)) ?_;simp only[sP,sB,sC];refine zI (k:=12) (by kernel_rfl) rfl (by rfl) (.pointer (some ⟨gd,(b+i)*2,none⟩)) (xQ rfl rfl rfl (by omega)) ?_;simp only[sP,sB,sC];refine zI (k:=14) (by kernel_rfl) rfl (by rfl) (.slice (some ⟨gd,0,none⟩) n c) (zD rfl rfl) ?_;simp only[sP,sB,sC];refine zI (k:=15) (by kernel_rfl) rfl (by rfl) (.int .i64 ((a:Nat):Int)) (zD rfl rfl) ?_;simp only[sP,sB,sC];refine zI (k:=16) (by kernel_rfl) rfl (by rfl) (.int .i64 ((i:Nat):Int)) (zD rfl rfl) ?_;simp only[sP,sB,sC];refine zI (k:=17) (by kernel_rfl) rfl (by rfl) (.int .i64 ((a+i:Nat):Int)) (yL rfl rfl rfl (by omega)) ?_;simp only[sP,sB,sC];refine zI (k:=18) (by kernel_rfl) rfl (by rfl) (.pointer (some ⟨gd,(a+i)*2,none⟩)) (xQ rfl rfl rfl (by omega)) ?_;simp only[sP,sB,sC];refine vR (k:=13) (by kernel_rfl) rfl (by rfl) (.agg (pkV M[b+i])) (λW hW=>qE rfl hW (by omega) rfl) hDD ?_;simp only[Act.put,sA,sB,sC];refine vR (k:=19) (by kernel_rfl) rfl (by rfl) (.agg (pkV M[a+i])) (λW hW=>qE rfl hW (by omega) rfl) hDD ?_;simp only[Act.put,sA,sB,sC];refine zI (k:=20) (by kernel_rfl) rfl (by rfl) (.pointer (some ⟨gd,(a+i)*2,none⟩)) (xQ rfl rfl rfl (by omega)) ?_;simp only[sP,sB,sC];refine xZ (k:=21) (by kernel_rfl) rfl ?_;refine zBW rfl _ _ rfl gd M tl hDD (a+i) (by omega) M[b+i] (hone _ (wC7 _)) rfl rfl ?_;intro w5 hD5 hu5;refine zZ ⟨λh=>(by cases h), ?_⟩;simp only[Act.put,sA,sB,sC];refine zI (k:=22) (by kernel_rfl) rfl (by rfl) (.pointer (some ⟨gd,(b+i)*2,none⟩)) (xQ rfl rfl rfl (by omega)) ?_;simp only[sP,sB,sC];refine xZ (k:=23) (by kernel_rfl) rfl ?_;refine zBW rfl _ _ rfl gd (M.set (a+i) M[b+i]) tl hD5 (b+i) (by rw[wR6];omega) M[a+i] (hone _ (wC7 _)) rfl rfl ?_;intro w6 hD6 hu6;refine zZ ⟨λh=>(by cases h), ?_⟩;simp only[Act.put,sA,sB,sC];refine zAK (by kernel_rfl) ?_;have hD7:DS w6 gd (swp pk0 M (a+i) (b+i)) tl:=by rw[←zMz M (a+i) (b+i) (by omega) (by omega)];exact hD6
   have hu7:=(hu4.trans hu5 (λx h=>.inl h)).trans hu6 (λx h=>.inl h);have hsw':=hsw.step pk0 (by omega) (by have:=HN.out;omega);go_wp2_with ((with_reducible apply gS 15);refine zB rfl (.int .i64 ((i+1:Nat):Int)) (yL (i:=i) (d:=1) rfl rfl rfl (by omega)) ?_)
   go_roundw
   case rel=>exact⟨i+1,swp pk0 M (a+i) (b+i),by omega,by go_num,hD7,hsw',hu7⟩
   case measure=>simp[intOf];omega
  obtain rfl:i=k:=by omega
  go_wp2_with ((with_reducible apply gS 13);refine zB rfl (.bool false) (yB rfl rfl rfl (by simp)) ?_)
  go_end0
  exact⟨rfl,M,hD,hsw,hu⟩
def zTm (gd:Nat) (L:List Pk) (tl:List Value) (n c a m b:Nat) (w:World) (hn:L.length=n) (hn2:n≤1000000) (ham:a<m) (hmb:m<b) (hbn:b≤n) (hone:OnesP L) (hD:DS w gd L tl) :
 Calls prog 215 #[.slice (some ⟨gd,0,none⟩) n c,.int .i64 (a:Int),.int .i64 (m:Int),.int .i64 (b:Int),.func (.func 148) #[] #[]] w λe w'=>e=.returned (.tuple #[])∧∃M,DS w' gd M tl∧(M.Perm L∧∀x,at_ pk0 M x=zBL pk0 L a m b x)∧Upd (λx=>x=gd) w w':=by
 have HN:=zA hn;have HONE:=zA hone;have HS:=zA (λ(M:List Pk) a b k W (h1:a+k≤b) (h2:b+k≤n) (hM:M.Perm L) (h:DS W gd M tl)=>zQY gd M tl n c a b k W (hM.length_eq.trans hn) hn2 h1 h2 (hone.perm hM) h);clear hn hone;have hr0:=Rot.start pk0 L a m b (by omega) (by omega);go_enter func215,ntmps215
 go_upto_region 2 with (first
  | ((with_reducible apply gS 14);refine zB rfl (.int .i64 ((m-a:Nat):Int)) (xP rfl rfl rfl (by omega) (by omega)) ?_)
  | ((with_reducible apply gS 17);refine zB rfl (.int .i64 ((b-m:Nat):Int)) (xP rfl rfl rfl (by omega) (by omega)) ?_))
 go_loopw [10,11] (λiv jv wr=>∃(i j:Nat) (M:List Pk),1≤i∧1≤j∧i≤m-a∧j≤b-m∧iv=.int .i64 (i:Int)∧jv=.int .i64 (j:Int)∧DS wr gd M tl∧Rot pk0 L M a m b i j∧Upd (λx=>x=gd) w wr) (λi j _=>(intOf i).toNat+(intOf j).toNat)
 case atStart=>exact⟨m-a,b-m,L,by omega,by omega,by omega,by omega,rfl,rfl,hD,hr0,Upd.refl _ w⟩
 case round =>
  clear hD hr0;obtain⟨i,j,M,hi1,hj1,hi,hj,rfl,rfl,hD,hrot,hu⟩:=hrel
  by_cases heq:i=j
  ·subst heq;have HS1:=zA (HS.out M (m-i) m i wr (by omega) (by omega) hrot.perm hD)
   go_wp2_with (first
    | ((with_reducible apply gS 20);refine zB rfl (.bool false) (jW rfl rfl rfl (by simp)) ?_)
    | ((with_reducible apply gS 53);refine zB rfl (.int .i64 ((m-i:Nat):Int)) (xP rfl rfl rfl (by omega) (by omega)) ?_)
    | (go_at_call 220;(with_reducible refine HS1.out.mono ?_);rintro e w3 ⟨rfl,N,hD3,hsw,hu3⟩))
   go_end0
   exact⟨rfl,N,hD3,hrot.last pk0 (by omega) hsw,hu.trans hu3 (λx h=>.inl h)⟩
  by_cases hgt:j<i
  ·have HS1:=zA (HS.out M (m-i) m j wr (by omega) (by omega) hrot.perm hD)
   go_wp2_with (first
    | ((with_reducible apply gS 20);refine zB rfl (.bool true) (jW rfl rfl rfl (by simpa using heq)) ?_)
    | ((with_reducible apply gS 23);refine zB rfl (.bool true) (xY rfl rfl rfl (by simpa using hgt)) ?_)
    | ((with_reducible apply gS 27);refine zB rfl (.int .i64 ((m-i:Nat):Int)) (xP rfl rfl rfl (by omega) (by omega)) ?_)
    | (go_at_call 220;(with_reducible refine HS1.out.mono ?_);rintro e w3 ⟨rfl,N,hD3,hsw,hu3⟩)
    | ((with_reducible apply gS 34);refine zB rfl (.int .i64 ((i-j:Nat):Int)) (xP rfl rfl rfl (by omega) (by omega)) ?_))
   go_roundw
   case rel=>exact⟨i-j,j,N,by omega,hj1,by omega,hj,by go_num,rfl,hD3,hrot.left pk0 hgt (by omega) hsw,hu.trans hu3 (λx h=>.inl h)⟩
   case measure=>simp[intOf];omega
  have HS1:=zA (HS.out M (m-i) (m+j-i) i wr (by omega) (by omega) hrot.perm hD)
  go_wp2_with (first
   | ((with_reducible apply gS 20);refine zB rfl (.bool true) (jW rfl rfl rfl (by simpa using heq)) ?_)
   | ((with_reducible apply gS 23);refine zB rfl (.bool false) (xY rfl rfl rfl (by simpa using hgt)) ?_)
   | ((with_reducible apply gS 38);refine zB rfl (.int .i64 ((m-i:Nat):Int)) (xP rfl rfl rfl (by omega) (by omega)) ?_)
   | ((with_reducible apply gS 41);refine zB rfl (.int .i64 ((m+j:Nat):Int)) (yL rfl rfl rfl (by omega)) ?_)
   | ((with_reducible apply gS 43);refine zB rfl (.int .i64 ((m+j-i:Nat):Int)) (xP rfl rfl rfl (by omega) (by omega)) ?_)
   | (go_at_call 220;(with_reducible refine HS1.out.mono ?_);rintro e w3 ⟨rfl,N,hD3,hsw,hu3⟩)
   | ((with_reducible apply gS 49);refine zB rfl (.int .i64 ((j-i:Nat):Int)) (xP rfl rfl rfl (by omega) (by omega)) ?_))
  go_roundw
  case rel=>exact⟨i,j-i,N,hi1,by omega,hi,by omega,rfl,by go_num,hD3,hrot.right pk0 (by omega) (by omega) hsw,hu.trans hu3 (λx h=>.inl h)⟩
  case measure=>simp[intOf];omega
end
section
open SM
def rot_id {α:Type} (d:α) {L:List α} {s m e:Nat} (h:s=m∨e=m) (x:Nat):zBL d L s m e x=at_ d L x:=by
 unfold zBL;split
 ·split
  ·congr 1;omega
  congr 1;omega
 rfl
def symG_any (gd:Nat) (L:List Pk) (tl:List Value) (n c a m b:Nat) (w:World) (hn:L.length=n) (hn2:n≤1000000) (ham:a+1<m) (hmb:m+1<b) (hbn:b≤n) (hone:OnesP L) (hD:DS w gd L tl) (h1:Sorted pk0 pw L a m) (h2:Sorted pk0 pw L m b)
 (HR:∀a' m' b' M W,a≤a'→a'<m'→m'<b'→b'≤b→b'-a'<b-a→M.Perm L→DS W gd M tl→Sorted pk0 pw M a' m'→Sorted pk0 pw M m' b'→Calls prog 207 #[.slice (some ⟨gd,0,none⟩) n c,.int .i64 (a':Int),.int .i64 (m':Int),.int .i64 (b':Int),.func (.func 148) #[] #[]] W (zFC gd M tl a' b' W)) :
 Calls prog 207 #[.slice (some ⟨gd,0,none⟩) n c,.int .i64 (a:Int),.int .i64 (m:Int),.int .i64 (b:Int),.func (.func 148) #[] #[]] w (zFC gd L tl a b w):=by
 have HN:=zA hn;have HONE:=zA hone;have HS1:=zA h1;have HS2:=zA h2;have HRR:=zA HR;clear hn hone h1 h2 HR;obtain⟨md,hm,hk1,hk2⟩:∃md,(a+b)/2=md∧2*md≤a+b∧a+b<2*md+2:=⟨_,rfl,by omega,by omega⟩
 obtain⟨nn,hnn⟩:∃nn,md+m=nn:=⟨_,rfl⟩
 obtain⟨s0,hs0⟩:∃s0,Hid (s0=if md<m then nn-b else a):=⟨_,zA rfl⟩
 obtain⟨r0,hr0⟩:∃r0,Hid (r0=if md<m then md else m):=⟨_,zA rfl⟩
 go_enter func207,ntmps207
 go_upto_if 140 with (first
  | ((with_reducible apply gS 140);refine zB rfl (.bool (decide (md<m))) (xY rfl rfl rfl (by simp)) ?_)
  | ((with_reducible apply gS 27);refine zB rfl (.int .i64 ((m-a:Nat):Int)) (xP rfl rfl rfl (by omega) (by omega)) ?_)
  | ((with_reducible apply gS 28);refine zB rfl (.bool false) (uZ rfl rfl rfl (by simp;omega)) ?_)
  | ((with_reducible apply gS 79);refine zB rfl (.int .i64 ((b-m:Nat):Int)) (xP rfl rfl rfl (by omega) (by omega)) ?_)
  | ((with_reducible apply gS 80);refine zB rfl (.bool false) (uZ rfl rfl rfl (by simp;omega)) ?_)
  | ((with_reducible apply gS 131);refine zB rfl (.int .i64 ((a+b:Nat):Int)) (yL rfl rfl rfl (by omega)) ?_)
  | ((with_reducible apply gS 132);refine zB rfl (.int .u64 ((a+b:Nat):Int)) (zGJ rfl rfl (by omega)) ?_)
  | ((with_reducible apply gS 133);refine zB rfl (.int .u64 ((md:Nat):Int)) (by rw[←hm];exact zDW rfl rfl rfl) ?_)
  | ((with_reducible apply gS 134);refine zB rfl (.int .i64 ((md:Nat):Int)) (zFt rfl rfl (by omega)) ?_)
  | ((with_reducible apply gS 137);refine zB rfl (.int .i64 ((nn:Nat):Int)) (by rw[←hnn];exact yL rfl rfl rfl (by omega)) ?_))
 simp only[Act.put,sA,sB,sC]
 go_cut [20,21] from 140 to 146 (λsv rv wx=>sv=.int .i64 (s0:Int)∧rv=.int .i64 (r0:Int)∧wx=w)
 case first =>
  by_cases hq:md<m
  ·rw[wS2 hq]
   go_wp2_with (first
    | ((with_reducible apply gS 143);refine zB rfl (.int .i64 ((nn-b:Nat):Int)) (xP rfl rfl rfl (by omega) (by omega)) ?_))
   go_meet;refine⟨by rw[hs0.out,if_pos hq],by rw[hr0.out,if_pos hq],rfl⟩
  rw[wS3 hq];go_wp2_with fail;go_meet;refine⟨by rw[hs0.out,if_neg hq],by rw[hr0.out,if_neg hq],rfl⟩
 case rest =>
 obtain⟨e1,e2,hwx⟩:=hcut;have hwy:=hwx.symm;subst hwy e1 e2;clear hwx
 have hsr:s0≤r0∧a≤s0∧r0≤m∧r0≤md∧nn-s0≤b:=by
  have e1:=hs0.out;have e2:=hr0.out
  by_cases hq:md<m
  ·rw[if_pos hq] at e1 e2;omega
  rw[if_neg hq] at e1 e2;omega
 go_upto_region 33 with ((with_reducible apply gS 148);refine zB rfl (.int .i64 ((nn-1:Nat):Int)) (xP (i:=nn) (d:=1) rfl rfl rfl (by omega) (by omega)) ?_)
 go_loopw [20,21] (λsv rv wr=>∃(s r:Nat),s0≤s∧s≤r∧r≤r0∧sv=.int .i64 (s:Int)∧rv=.int .i64 (r:Int)∧DS wr gd L tl∧(s=s0∨wA pk0 pw L (s-1)≤wA pk0 pw L (nn-s))∧(r=r0∨wA pk0 pw L (nn-r-1)≤wA pk0 pw L r)∧Upd (λx=>x=gd) w wr) (λi j _=>(intOf j).toNat-(intOf i).toNat)
 case atStart=>exact⟨s0,r0,by omega,by omega,by omega,rfl,rfl,hD,.inl rfl,.inl rfl,Upd.refl _ w⟩
 case round =>
  clear hD;obtain⟨s,r,hss,hsr',hrr,rfl,rfl,hD,hlo,hhi,hu⟩:=hrel;have hml:=HN.out
  by_cases hlt:s<r
  ·have hDd:DS wr.drew gd L tl:=Blk.drew hD;obtain⟨h,hh,hh1,hh2⟩:∃h,(s+r)/2=h∧s≤h∧h<r:=⟨_,rfl,by omega,by omega⟩
   by_cases hls:wA pk0 pw L (nn-1-h)<wA pk0 pw L h
   ·have hB:decide (zAZ (L[nn-1-h]'(by omega)).1 (L[h]'(by omega)).1<0)=true:=by
     rw[zCz, ←zAQ L _ (by omega), ←zAQ L h (by omega)];simpa using hls
    go_wp2_with (first
     | ((with_reducible apply gS 151);refine zB rfl (.bool true) (yB rfl rfl rfl (by simpa using hlt)) ?_)
     | ((with_reducible apply gS 154);refine zB rfl (.int .i64 ((s+r:Nat):Int)) (yL rfl rfl rfl (by omega)) ?_)
     | ((with_reducible apply gS 155);refine zB rfl (.int .u64 ((s+r:Nat):Int)) (zGJ rfl rfl (by omega)) ?_)
     | ((with_reducible apply gS 156);refine zB rfl (.int .u64 ((h:Nat):Int)) (by rw[←hh];exact zDW rfl rfl rfl) ?_)
     | ((with_reducible apply gS 157);refine zB rfl (.int .i64 ((h:Nat):Int)) (zFt rfl rfl (by omega)) ?_))
    refine xU qM (by kernel_rfl) (by kernel_rfl) ?_;refine zE (by rfl) (.func (.func 148) #[] #[]) (zD rfl rfl) ?_;simp only[sP,sB,sC];refine zE (by rfl) (.slice (some ⟨gd,0,none⟩) n c) (zD rfl rfl) ?_;simp only[sP,sB,sC];refine zE (by rfl) (.int .i64 ((nn-1:Nat):Int)) (zD rfl rfl) ?_;simp only[sP,sB,sC];refine zE (by rfl) (.int .i64 ((h:Nat):Int)) (zD rfl rfl) ?_;simp only[sP,sB,sC];refine zE (by rfl) (.int .i64 ((nn-1-h:Nat):Int)) (xP rfl rfl rfl (by omega) (by omega)) ?_;simp only[sP,sB,sC];refine zE (by rfl) (.pointer (some ⟨gd,(nn-1-h)*2,none⟩)) (xQ rfl rfl rfl (by omega)) ?_;simp only[sP,sB,sC];refine xA (by rfl) (.agg (pkV (L[nn-1-h]'(by omega)))) (λW hW=>qE rfl (hDd.ext hW) (by omega) rfl) ?_;simp only[sP,sB,sC];refine zE (by rfl) (.slice (some ⟨gd,0,none⟩) n c) (zD rfl rfl) ?_;simp only[sP,sB,sC];refine zE (by rfl) (.int .i64 ((h:Nat):Int)) (zD rfl rfl) ?_;simp only[sP,sB,sC];refine zE (by rfl) (.pointer (some ⟨gd,(h)*2,none⟩)) (xQ rfl rfl rfl (by omega)) ?_;simp only[sP,sB,sC];refine xA (by rfl) (.agg (pkV (L[h]'(by omega)))) (λW hW=>qE rfl (hDd.ext hW) (by omega) rfl) ?_;simp only[sP,sB,sC];refine zCv (by rfl) _ _ _ rfl rfl zEz #[.agg (pkV (L[nn-1-h]'(by omega))),.agg (pkV (L[h]'(by omega)))] (by simp[Act.eval]) (.int .i64 (zAZ (L[nn-1-h]'(by omega)).1 (L[h]'(by omega)).1)) (λW h=>zAe _ _ W) ?_;simp only[Act.put,sA,sB,sC];refine zE (by rfl) (.bool true) (yB rfl rfl rfl hB) ?_;simp only[sP,sB,sC];refine zE (by rfl) (.bool false) (zJl (b:=true) rfl rfl) ?_;simp only[sP,sB,sC];refine jU ?_;intro w4 hx4;have hD4:=hDd.ext hx4;have hu4:Upd (λx=>x=gd) w w4:=hu.drew.trans (Upd.of_ext (S:=λ_=>False) hx4) (λ_ h=>h.elim);go_wp2_with fail;go_roundw
    case rel=>exact⟨s,h,hss,by omega,by omega,rfl,rfl,hD4,hlo,.inr (by rw[show nn-h-1=nn-1-h by omega];omega),hu4⟩
    case measure=>simp[intOf];omega
   have hB:decide (zAZ (L[nn-1-h]'(by omega)).1 (L[h]'(by omega)).1<0)=false:=by
    rw[zCz, ←zAQ L _ (by omega), ←zAQ L h (by omega)];simpa using hls
   go_wp2_with (first
    | ((with_reducible apply gS 151);refine zB rfl (.bool true) (yB rfl rfl rfl (by simpa using hlt)) ?_)
    | ((with_reducible apply gS 154);refine zB rfl (.int .i64 ((s+r:Nat):Int)) (yL rfl rfl rfl (by omega)) ?_)
    | ((with_reducible apply gS 155);refine zB rfl (.int .u64 ((s+r:Nat):Int)) (zGJ rfl rfl (by omega)) ?_)
    | ((with_reducible apply gS 156);refine zB rfl (.int .u64 ((h:Nat):Int)) (by rw[←hh];exact zDW rfl rfl rfl) ?_)
    | ((with_reducible apply gS 157);refine zB rfl (.int .i64 ((h:Nat):Int)) (zFt rfl rfl (by omega)) ?_))
   refine xU qM (by kernel_rfl) (by kernel_rfl) ?_;refine zE (by rfl) (.func (.func 148) #[] #[]) (zD rfl rfl) ?_;simp only[sP,sB,sC];refine zE (by rfl) (.slice (some ⟨gd,0,none⟩) n c) (zD rfl rfl) ?_;simp only[sP,sB,sC];refine zE (by rfl) (.int .i64 ((nn-1:Nat):Int)) (zD rfl rfl) ?_;simp only[sP,sB,sC];refine zE (by rfl) (.int .i64 ((h:Nat):Int)) (zD rfl rfl) ?_;simp only[sP,sB,sC];refine zE (by rfl) (.int .i64 ((nn-1-h:Nat):Int)) (xP rfl rfl rfl (by omega) (by omega)) ?_;simp only[sP,sB,sC];refine zE (by rfl) (.pointer (some ⟨gd,(nn-1-h)*2,none⟩)) (xQ rfl rfl rfl (by omega)) ?_;simp only[sP,sB,sC];refine xA (by rfl) (.agg (pkV (L[nn-1-h]'(by omega)))) (λW hW=>qE rfl (hDd.ext hW) (by omega) rfl) ?_;simp only[sP,sB,sC];refine zE (by rfl) (.slice (some ⟨gd,0,none⟩) n c) (zD rfl rfl) ?_;simp only[sP,sB,sC];refine zE (by rfl) (.int .i64 ((h:Nat):Int)) (zD rfl rfl) ?_;simp only[sP,sB,sC];refine zE (by rfl) (.pointer (some ⟨gd,(h)*2,none⟩)) (xQ rfl rfl rfl (by omega)) ?_;simp only[sP,sB,sC];refine xA (by rfl) (.agg (pkV (L[h]'(by omega)))) (λW hW=>qE rfl (hDd.ext hW) (by omega) rfl) ?_;simp only[sP,sB,sC];refine zCv (by rfl) _ _ _ rfl rfl zEz #[.agg (pkV (L[nn-1-h]'(by omega))),.agg (pkV (L[h]'(by omega)))] (by simp[Act.eval]) (.int .i64 (zAZ (L[nn-1-h]'(by omega)).1 (L[h]'(by omega)).1)) (λW h=>zAe _ _ W) ?_;simp only[Act.put,sA,sB,sC];refine zE (by rfl) (.bool false) (yB rfl rfl rfl hB) ?_;simp only[sP,sB,sC];refine zE (by rfl) (.bool true) (zJl (b:=false) rfl rfl) ?_;simp only[sP,sB,sC];refine jU ?_;intro w4 hx4;have hD4:=hDd.ext hx4;have hu4:Upd (λx=>x=gd) w w4:=hu.drew.trans (Upd.of_ext (S:=λ_=>False) hx4) (λ_ h=>h.elim);go_wp2_with ((with_reducible apply gS 173);refine zB rfl (.int .i64 ((h+1:Nat):Int)) (yL (i:=h) (d:=1) rfl rfl rfl (by omega)) ?_)
   go_roundw
   case rel=>exact⟨h+1,r,by omega,by omega,hrr,by go_num,rfl,hD4,.inr (by rw[wH8,show nn-(h+1)=nn-1-h by omega];omega),hhi,hu4⟩
   case measure=>simp[intOf];omega
  obtain rfl:s=r:=by omega
  have hf:SM.Found pk0 pw L a m b md s:=⟨by rw[hnn, ←hs0.out];exact hss,by rw[←hr0.out];exact hrr,by rw[hnn, ←hs0.out];exact hlo,by rw[hnn, ←hr0.out];exact hhi⟩
  obtain⟨⟨c1,c2,c3,c4,c5⟩,-,-⟩:=hf.at_ pk0 pw (by omega) (by omega) hk1 hk2
  obtain⟨e,he⟩:∃e,nn-s=e:=⟨_,rfl⟩
  have HHV:=zA (λ(N:List Pk) (h:∀x,at_ pk0 N x=zBL pk0 L s m e x)=>halves pk0 pw (N:=N) (by omega) (by omega) hk1 hk2 HS1.out HS2.out hf (by rw[hnn,he];exact h));rw[hnn,he] at HHV;rw[hnn,he] at c4 c5;clear hf hlo hhi hss hrr hsr hs0 hr0 hsr'
  go_upto_region 39 with (first
   | ((with_reducible apply gS 151);refine zB rfl (.bool false) (yB rfl rfl rfl (by simp)) ?_)
   | ((with_reducible apply gS 177);refine zB rfl (.int .i64 ((e:Nat):Int)) (by rw[←he];exact xP rfl rfl rfl (by omega) (by omega)) ?_))
  go_cut [185] from 178 to 185 (λcv wx=>cv=.bool (decide (s<m∧m<e))∧wx=wr)
  case first =>
   by_cases hq:s<m
   ·by_cases hq2:m<e
    ·go_wp2_with (first
      | ((with_reducible apply gS 180);refine zB rfl (.bool true) (yB rfl rfl rfl (by simpa using hq)) ?_)
      | ((with_reducible apply gS 184);refine xV (by rfl) (.bool true) (yB rfl rfl rfl (by simpa using hq2)) ?_))
     go_meet;exact⟨by rw[wS2 (show s<m∧m<e from ⟨hq,hq2⟩)],rfl⟩
    go_wp2_with (first
     | ((with_reducible apply gS 180);refine zB rfl (.bool true) (yB rfl rfl rfl (by simpa using hq)) ?_)
     | ((with_reducible apply gS 184);refine xV (by rfl) (.bool false) (yB rfl rfl rfl (by simpa using hq2)) ?_))
    go_meet;exact⟨by rw[wS3 (show ¬(s<m∧m<e) from λh=>hq2 h.2)],rfl⟩
   go_wp2_with ((with_reducible apply gS 180);refine zB rfl (.bool false) (yB rfl rfl rfl (by simpa using hq)) ?_)
   go_meet;exact⟨by rw[wS3 (show ¬(s<m∧m<e) from λh=>hq h.1)],rfl⟩
  case rest =>
  obtain⟨e1,hwx⟩:=hcut;have hwy:=hwx.symm;subst hwy e1;clear hwx;go_upto_if 185 with fail
  go_cut [] from 185 to 191 (λwx=>∃N,DS wx gd N tl∧(N.Perm L∧∀x,at_ pk0 N x=zBL pk0 L s m e x)∧Upd (λx=>x=gd) w wx)
  case first =>
   by_cases hq:s<m∧m<e
   ·have HROT:=zA (zTm gd L tl n c s m e wr HN.out hn2 hq.1 hq.2 (by omega) HONE.out hD);rw[wS2 hq];go_wp2_with (go_at_call 215;(with_reducible refine HROT.out.mono ?_);rintro e9 w3 ⟨rfl,N,hD3,hrot,hu3⟩)
    go_meet;exact⟨N,hD3,hrot,hu.trans hu3 (λx h=>.inl h)⟩
   rw[wS3 hq];go_wp2_with fail;go_meet;exact⟨L,hD,⟨.refl _,λx=>(rot_id pk0 (by omega) x).symm⟩,hu⟩
  case rest =>
  obtain⟨N,hDN,⟨hNp,hNr⟩,huN⟩:=hcut;obtain⟨k1,k2,k3,k4,k5⟩:=HHV.out N hNr;have hNseg:=rot_seg pk0 ⟨hNp,hNr⟩ c1 c5;clear hD hu HHV hNr;go_upto_region 41 with fail
  go_cut [199] from 192 to 199 (λcv wx=>cv=.bool (decide (a<s∧s<md))∧wx=wc)
  case first =>
   by_cases hq:a<s
   ·by_cases hq2:s<md
    ·go_wp2_with (first
      | ((with_reducible apply gS 194);refine zB rfl (.bool true) (yB rfl rfl rfl (by simpa using hq)) ?_)
      | ((with_reducible apply gS 198);refine xV (by rfl) (.bool true) (yB rfl rfl rfl (by simpa using hq2)) ?_))
     go_meet;exact⟨by rw[wS2 (show a<s∧s<md from ⟨hq,hq2⟩)],rfl⟩
    go_wp2_with (first
     | ((with_reducible apply gS 194);refine zB rfl (.bool true) (yB rfl rfl rfl (by simpa using hq)) ?_)
     | ((with_reducible apply gS 198);refine xV (by rfl) (.bool false) (yB rfl rfl rfl (by simpa using hq2)) ?_))
    go_meet;exact⟨by rw[wS3 (show ¬(a<s∧s<md) from λh=>hq2 h.2)],rfl⟩
   go_wp2_with ((with_reducible apply gS 194);refine zB rfl (.bool false) (yB rfl rfl rfl (by simpa using hq)) ?_)
   go_meet;exact⟨by rw[wS3 (show ¬(a<s∧s<md) from λh=>hq h.1)],rfl⟩
  case rest =>
  obtain⟨e1,hwx⟩:=hcut;have hwy:=hwx.symm;subst hwy e1;clear hwx;go_upto_if 199 with fail
  go_cut [] from 199 to 205 (λwx=>∃N1,DS wx gd N1 tl∧Seg pk0 N N1 a md∧Sorted pk0 pw N1 a md∧Upd (λx=>x=gd) w wx)
  case first =>
   by_cases hq:a<s∧s<md
   ·have HRC:=zA (HRR.out a s md N wc (by omega) hq.1 hq.2 (by omega) (by omega) hNp hDN k1 k2);rw[wS2 hq];go_wp2_with (go_at_call 207;(with_reducible refine HRC.out.mono ?_);rintro e9 w3 ⟨rfl,N1,hD3,hs3,ho3,hu3⟩)
    go_meet;exact⟨N1,hD3,hs3,ho3,huN.trans hu3 (λx h=>.inl h)⟩
   rw[wS3 hq];go_wp2_with fail;go_meet;exact⟨N,hDN,Seg.refl pk0 _ _ _,(by by_cases h1:a<s;(obtain rfl:s=md:=by omega);exact k1;(obtain rfl:a=s:=by omega);exact k2),huN⟩
  case rest =>
  obtain⟨N1,hD1,hseg1,hsor1,hu1⟩:=hcut;have hp1:=hseg1.perm.trans hNp;have k3':=k3.of_out pk0 pw hseg1 (.inr (wA5 _));have k4':=k4.of_out pk0 pw hseg1 (.inr (by omega))
  have hfin:∀N2,Seg pk0 N1 N2 md b→Sorted pk0 pw N2 md b→Seg pk0 L N2 a b∧Sorted pk0 pw N2 a b:=λN2 q1 q2 =>
   ⟨((hNseg.wide pk0 c2 c4).trans pk0 (hseg1.wide pk0 (wA5 _) (by omega))).trans pk0 (q1.wide pk0 (by omega) (wA5 _)),zQZ pk0 pw k5 hseg1 hsor1 q1 q2 (by omega) (by omega)⟩
  have HFIN:=zA hfin;clear hfin k5 k1 k2 k3 k4 hDN huN hNseg
  by_cases hq:md<e
  ·by_cases hq2:e<b
   ·have HRC:=zA (HRR.out md e b N1 wc (by omega) hq hq2 (by omega) (by omega) hp1 hD1 k3' k4')
    go_wp2_with (first
     | ((with_reducible apply gS 208);refine zB rfl (.bool true) (yB rfl rfl rfl (by simpa using hq)) ?_)
     | ((with_reducible apply gS 212);refine xV (by rfl) (.bool true) (yB rfl rfl rfl (by simpa using hq2)) ?_)
     | (go_at_call 207;(with_reducible refine HRC.out.mono ?_);rintro e9 w3 ⟨rfl,N2,hD3,hs3,ho3,hu3⟩))
    go_end0
    exact⟨rfl,N2,hD3,(HFIN.out N2 hs3 ho3).1,(HFIN.out N2 hs3 ho3).2,hu1.trans hu3 (λx h=>.inl h)⟩
   obtain rfl:e=b:=by omega
   go_wp2_with (first
    | ((with_reducible apply gS 208);refine zB rfl (.bool true) (yB rfl rfl rfl (by simpa using hq)) ?_)
    | ((with_reducible apply gS 212);refine xV (by rfl) (.bool false) (yB rfl rfl rfl (by simp)) ?_))
   go_end0
   exact⟨rfl,N1,hD1,(HFIN.out N1 (Seg.refl pk0 _ _ _) k3').1,(HFIN.out N1 (Seg.refl pk0 _ _ _) k3').2,hu1⟩
  obtain rfl:md=e:=by omega
  go_wp2_with ((with_reducible apply gS 208);refine zB rfl (.bool false) (yB rfl rfl rfl (by simp)) ?_)
  go_end0
  exact⟨rfl,N1,hD1,(HFIN.out N1 (Seg.refl pk0 _ _ _) k4').1,(HFIN.out N1 (Seg.refl pk0 _ _ _) k4').2,hu1⟩
end
section
open SM
def sym_any (gd:Nat) (tl:List Value) (n c:Nat) (hn2:n≤1000000):∀(k:Nat) (L:List Pk) (a m b:Nat) (w:World),b-a≤k→L.length=n→a<m→m<b→b≤n→OnesP L→DS w gd L tl→Sorted pk0 pw L a m→Sorted pk0 pw L m b →
 Calls prog 207 #[.slice (some ⟨gd,0,none⟩) n c,.int .i64 (a:Int),.int .i64 (m:Int),.int .i64 (b:Int),.func (.func 148) #[] #[]] w (zFC gd L tl a b w)
 | 0,L,a,m,b,w,hk,hn,ham,hmb,hbn,hone,hD,h1,h2=>by omega
 | k+1,L,a,m,b,w,hk,hn,ham,hmb,hbn,hone,hD,h1,h2=>by
   by_cases e1:m=a+1
   ·subst e1;exact symL_any gd L tl n c a b w hn hn2 hmb hbn hone hD h2
   by_cases e2:b=m+1
   ·subst e2;exact symR_any gd L tl n c a m w hn hn2 (by omega) hbn hone hD h1
   exact symG_any gd L tl n c a m b w hn hn2 (by omega) (by omega) hbn hone hD h1 h2 (λa' m' b' M W p1 p2 p3 p4 p5 p6 p7 p8 p9=>sym_any gd tl n c hn2 k M a' m' b' W (by omega) (p6.length_eq.trans hn) p2 p3 (by omega) (hone.perm p6) p7 p8 p9)
def Blocked (M:List Pk) (bs p:Nat):Prop:=(∃q,p=q*bs)∧∀q,Sorted pk0 pw M (q*bs) (min (q*bs+bs) p)
def BlockedN (M:List Pk) (bs n:Nat):Prop:=∀q,Sorted pk0 pw M (q*bs) (min (q*bs+bs) n)
def Blocked.zero (M:List Pk) (bs:Nat):Blocked M bs 0:=⟨⟨0,by simp⟩,λq x y h1 h2 h3=>by omega⟩
def Blocked.last {M N:List Pk} {bs p t:Nat} (h:Blocked M bs p) (hs:Seg pk0 M N p t) (ho:Sorted pk0 pw N p t) (ht:t≤p+bs):BlockedN N bs t:=by
 obtain⟨⟨k,hk⟩,h⟩:=h;intro q;rcases Nat.lt_trichotomy q k with hq | hq | hq
 ·have e:(q+1)*bs≤k*bs:=wO9 _ hq;rw[wE3,wN5] at e;have h1:=h q;rw[wQ8 (by omega)] at h1;have h2:=h1.of_out pk0 pw hs (.inl (by omega));exact h2.sub pk0 pw (wA5 _) (by omega)
 ·subst hq;rw[←hk];exact ho.sub pk0 pw (wA5 _) (by omega)
 have e:(k+1)*bs≤q*bs:=wO9 _ hq;rw[wE3,wN5] at e;intro x y h1 h2 h3;omega
def Blocked.step {M N:List Pk} {bs p:Nat} (h:Blocked M bs p) (hs:Seg pk0 M N p (p+bs)) (ho:Sorted pk0 pw N p (p+bs)):Blocked N bs (p+bs):=by refine⟨?_,h.last hs ho (wA5 _)⟩;obtain⟨⟨k,hk⟩,-⟩:=h;exact⟨k+1,by rw[wE3,wN5,hk]⟩
def HalfP (M:List Pk) (bs p n:Nat):Prop:=Blocked M (bs+bs) p∧∀q,p≤q*bs→Sorted pk0 pw M (q*bs) (min (q*bs+bs) n)
def HalfP.start {M:List Pk} {bs n:Nat} (h:BlockedN M bs n):HalfP M bs 0 n:=⟨Blocked.zero M _,λq _=>h q⟩
def HalfP.at_ {M:List Pk} {bs p n:Nat} (h:HalfP M bs p n):Sorted pk0 pw M p (min (p+bs) n)∧Sorted pk0 pw M (p+bs) (min (p+bs+bs) n):=by
 obtain⟨⟨⟨k,hk⟩,-⟩,h⟩:=h;have e1:p=(2*k)*bs:=by rw[hk,wF9, ←wE3];congr 1;omega
 have h1:=h (2*k) (by omega);have h2:=h (2*k+1) (by rw[wE3];omega);rw[wE3,wN5] at h2;rw[←e1] at h1 h2;exact⟨h1,h2⟩
def HalfP.step {M N:List Pk} {bs p n:Nat} (h:HalfP M bs p n) (hs:Seg pk0 M N p (p+bs+bs)) (ho:Sorted pk0 pw N p (p+bs+bs)):HalfP N bs (p+bs+bs) n:=by rw[wA0] at hs ho ⊢;refine⟨h.1.step hs ho,λq hq=> ?_⟩;exact (h.2 q (by omega)).of_out pk0 pw hs (.inr (by omega))
def HalfP.stop {M N:List Pk} {bs p n:Nat} (h:HalfP M bs p n) (hs:Seg pk0 M N p n) (ho:Sorted pk0 pw N p n) (ht:n≤p+bs+bs):BlockedN N (bs+bs) n:=h.1.last hs ho (by omega)
def BlockedN.all {M:List Pk} {bs n:Nat} (h:BlockedN M bs n) (hn:n≤bs):Sorted pk0 pw M 0 n:=by have h0:=h 0;rw[wS0,wB2,wR1 hn] at h0;exact h0
attribute [local irreducible] HalfP Blocked BlockedN
def zUy (gd:Nat) (L:List Pk) (tl:List Value) (n c:Nat) (w:World) (hn:L.length=n) (hn2:n≤1000000) (hone:OnesP L) (hD:DS w gd L tl) :
 Calls prog 181 #[.slice (some ⟨gd,0,none⟩) n c,.int .i64 (n:Int),.func (.func 148) #[] #[]] w (zFC gd L tl 0 n w):=by
 have HI:=zA (λ(M:List Pk) a b W (h:a≤b) (h2:b≤n) (hM:M.Perm L) (hd:DS W gd M tl)=>zTH gd M tl n c a b W (hM.length_eq.trans hn) hn2 h h2 (hone.perm hM) hd);have HS:=zA (λ(M:List Pk) a m b W (h:a<m) (h1:m<b) (h2:b≤n) (hM:M.Perm L) (hd:DS W gd M tl)=>sym_any gd tl n c hn2 (b-a) M a m b W (wA5 _) (hM.length_eq.trans hn) h h1 h2 (hone.perm hM) hd);have hs0:=Seg.refl pk0 L 0 n;have hb0:=zA (Blocked.zero L 20);clear hn hone;go_enter func181,ntmps181;go_upto_region 2 with fail
 go_loopw [7,8] (λav bv wr=>∃(p b:Nat) (M:List Pk),p≤n∧p+20=b∧av=.int .i64 (p:Int)∧bv=.int .i64 (b:Int)∧DS wr gd M tl∧Seg pk0 L M 0 n∧Hid (Blocked M 20 p)∧Upd (λx=>x=gd) w wr) (λa _ _=>n-(intOf a).toNat)
 case atStart=>exact⟨0,20,L,by omega,rfl,rfl,rfl,hD,hs0,hb0,Upd.refl _ w⟩
 case round =>
  clear hD hs0 hb0;obtain⟨p,b,M,hp,hpb,rfl,rfl,hD,hseg,hB,hu⟩:=hrel
  by_cases hlt:b≤n
  ·have HC:=zA (HI.out M p b wr (by omega) hlt hseg.perm hD)
   go_wp2_with (first
    | ((with_reducible apply gS 13);refine zB rfl (.bool true) (zJB rfl rfl rfl (by simp;omega)) ?_)
    | (go_at_call 206;(with_reducible refine HC.out.mono ?_);rintro e9 w3 ⟨rfl,N,hD3,hs3,ho3,hu3⟩)
    | ((with_reducible apply gS 22);refine zB rfl (.int .i64 ((b+20:Nat):Int)) (yL rfl rfl rfl (by omega)) ?_))
   go_roundw
   case rel=>exact⟨b,b+20,N,hlt,rfl,by go_num,by go_num,hD3,hseg.trans pk0 (hs3.wide pk0 (wJ4 _) hlt),zA (by subst hpb;exact hB.out.step hs3 ho3),hu.trans hu3 (λx h=>.inl h)⟩
   case measure=>simp[intOf];omega
  have HC:=zA (HI.out M p n wr hp (wA5 _) hseg.perm hD)
  go_upto_region 7 with (first
   | ((with_reducible apply gS 13);refine zB rfl (.bool false) (zJB rfl rfl rfl (by simp;omega)) ?_)
   | (go_at_call 206;(with_reducible refine HC.out.mono ?_);rintro e9 w3 ⟨rfl,N,hD3,hs3,ho3,hu3⟩))
  have hb0:=zA (hB.out.last hs3 ho3 (by omega));have hseg3:=hseg.trans pk0 (hs3.wide pk0 (wJ4 _) (wA5 _));have hu0:=hu.trans hu3 (λx h=>.inl h);clear hD hseg hB hu hs3 ho3 hu3 HC
  go_loopw [6] (λsv wr=>∃(bs:Nat) (M:List Pk),20≤bs∧bs≤2000020∧sv=.int .i64 (bs:Int)∧DS wr gd M tl∧Seg pk0 L M 0 n∧Hid (BlockedN M bs n)∧Upd (λx=>x=gd) w wr) (λa _=>n-(intOf a).toNat)
  case atStart=>exact⟨20,N,by omega,by omega,rfl,hD3,hseg3,hb0,hu0⟩
  case round =>
   clear hD3 hseg3 hb0 hu0;obtain⟨bs,M,h20,hbs,rfl,hD,hseg,hB,hu⟩:=hrel
   by_cases hlt2:bs<n
   ·have hh0:=zA (HalfP.start hB.out);obtain⟨b2,hb2⟩:∃b2,bs+bs=b2:=⟨_,rfl⟩
    go_upto_region 9 with (first
     | ((with_reducible apply gS 30);refine zB rfl (.bool true) (yB rfl rfl rfl (by simpa using hlt2)) ?_)
     | ((with_reducible apply gS 32);refine zB rfl (.int .i64 (b2:Int)) (by rw[show b2=2*bs by omega];exact zCc rfl rfl rfl (by omega)) ?_))
    go_loopw [7,8] (λav bv wr=>∃(p b:Nat) (M:List Pk),p≤n∧p+bs+bs=b∧av=.int .i64 (p:Int)∧bv=.int .i64 (b:Int)∧DS wr gd M tl∧Seg pk0 L M 0 n∧Hid (HalfP M bs p n)∧Upd (λx=>x=gd) w wr) (λa _ _=>n-(intOf a).toNat)
    case atStart=>exact⟨0,b2,M,by omega,by omega,rfl,rfl,hD,hseg,hh0,hu⟩
    case round =>
     clear hD hseg hB hu hh0;obtain⟨p,b,M,hp,hpb,rfl,rfl,hD,hseg,hH,hu⟩:=hrel;obtain⟨m,hpm⟩:∃m,p+bs=m:=⟨_,rfl⟩
     have hat:=zA hH.out.at_
     rw[hpb,hpm] at hat
     by_cases hlt3:b≤n
     ·have HC:=zA (HS.out M p m b wr (by omega) (by omega) hlt3 hseg.perm hD (by have:=hat.out.1;rwa [wQ8 (by omega)] at this) (by have:=hat.out.2;rwa [wQ8 (by omega)] at this))
      go_wp2_with (first
       | ((with_reducible apply gS 35);refine zB rfl (.bool true) (zJB rfl rfl rfl (by simp;omega)) ?_)
       | ((with_reducible apply gS 40);refine zB rfl (.int .i64 (m:Int)) (by rw[←hpm];exact yL rfl rfl rfl (by omega)) ?_)
       | (go_at_call 207;(with_reducible refine HC.out.mono ?_);rintro e9 w3 ⟨rfl,N,hD3,hs3,ho3,hu3⟩)
       | ((with_reducible apply gS 47);refine zB rfl (.int .i64 (b2:Int)) (by rw[show b2=2*bs by omega];exact zCc rfl rfl rfl (by omega)) ?_)
       | ((with_reducible apply gS 48);refine zB rfl (.int .i64 ((b+b2:Nat):Int)) (yL rfl rfl rfl (by omega)) ?_))
      go_roundw
      case rel=>exact⟨b,b+b2,N,hlt3,by omega,rfl,by go_num,hD3,hseg.trans pk0 (hs3.wide pk0 (wJ4 _) hlt3),zA (by subst hpb;exact hH.out.step hs3 ho3),hu.trans hu3 (λx h=>.inl h)⟩
      case measure=>simp[intOf];omega
     by_cases hm:m<n
     ·have HC:=zA (HS.out M p m n wr (by omega) hm (wA5 _) hseg.perm hD (by have:=hat.out.1;rwa [wQ8 (by omega)] at this) (by have:=hat.out.2;rwa [wR1 (by omega)] at this))
      go_wp2_with (first
       | ((with_reducible apply gS 35);refine zB rfl (.bool false) (zJB rfl rfl rfl (by simp;omega)) ?_)
       | ((with_reducible apply gS 51);refine zB rfl (.int .i64 (m:Int)) (by rw[←hpm];exact yL rfl rfl rfl (by omega)) ?_)
       | ((with_reducible apply gS 54);refine zB rfl (.bool true) (yB rfl rfl rfl (by simp;omega)) ?_)
       | (go_at_call 207;(with_reducible refine HC.out.mono ?_);rintro e9 w3 ⟨rfl,N,hD3,hs3,ho3,hu3⟩)
       | ((with_reducible apply gS 62);refine zB rfl (.int .i64 (b2:Int)) (by rw[show b2=bs*2 by omega];exact zCc rfl rfl rfl (by omega)) ?_))
      go_roundw
      case rel=>exact⟨b2,N,by omega,by omega,by go_num,hD3,hseg.trans pk0 (hs3.wide pk0 (wJ4 _) (wA5 _)),zA (by rw[←hb2];exact hH.out.stop hs3 ho3 (by omega)),hu.trans hu3 (λx h=>.inl h)⟩
      case measure=>simp[intOf];omega
     have hso:=hat.out.1;rw[wR1 (by omega)] at hso
     go_wp2_with (first
      | ((with_reducible apply gS 35);refine zB rfl (.bool false) (zJB rfl rfl rfl (by simp;omega)) ?_)
      | ((with_reducible apply gS 51);refine zB rfl (.int .i64 (m:Int)) (by rw[←hpm];exact yL rfl rfl rfl (by omega)) ?_)
      | ((with_reducible apply gS 54);refine zB rfl (.bool false) (yB rfl rfl rfl (by simp;omega)) ?_)
      | ((with_reducible apply gS 62);refine zB rfl (.int .i64 (b2:Int)) (by rw[show b2=bs*2 by omega];exact zCc rfl rfl rfl (by omega)) ?_))
     go_roundw
     case rel=>exact⟨b2,M,by omega,by omega,by go_num,hD,hseg,zA (by rw[←hb2];exact hH.out.stop (Seg.refl pk0 _ _ _) hso (by omega)),hu⟩
     case measure=>simp[intOf];omega
   have hfin:=hB.out.all (by omega);go_wp2_with ((with_reducible apply gS 30);refine zB rfl (.bool false) (yB rfl rfl rfl (by simpa using hlt2)) ?_)
   go_end0
   exact⟨rfl,M,hD,hseg,hfin,hu⟩
def sort_any (gd:Nat) (L:List Pk) (tl:List Value) (n c:Nat) (w:World) (hn:L.length=n) (hn2:n≤1000000) (hone:OnesP L) (hD:DS w gd L tl) :
 Calls prog 147 #[.slice (some ⟨gd,0,none⟩) n c,.func (.func 148) #[] #[]] w (zFC gd L tl 0 n w):=by
 have H:=zA (zUy gd L tl n c w hn hn2 hone hD);clear hn hone;go_enter func147,ntmps147;go_wp2_with (go_at_call 181;(with_reducible refine H.out.mono ?_);rintro e9 w3 ⟨rfl,N,hD3,hs3,ho3,hu3⟩)
 go_end0
 exact⟨rfl,N,hD3,hs3,ho3,hu3⟩
end
section
open SM
abbrev FPk:=BM.Pack×Value
def zCE (q:FPk):Pk:=((q.1.1:Int),q.2)
def IntsAt (w:World) (v:Value) (xs:List Int):Prop:=SL w 1 v xs.length (ints xs)∧∀b,v.ownBlock=some b→∃cs,Blk w b 3 cs
def pack_ne:3≠188:=by decide
def zPa {w:World} {b:Nat} {T U:TypeId} {cs ds:Array Value} (h:Blk w b T cs) (k:Blk w b U ds):T=U:=by
 unfold Blk at h k;rw[h] at k;injection k with k
 injection k
def zHG {w:World} {b:Nat} {cs ds:Array Value} (h:Blk w b 188 ds):¬Blk w b 3 cs:=λk=>pack_ne (zPa k h)
def IntsAt.ext {w w':World} {v:Value} {xs:List Int} (h:IntsAt w v xs) (hx:Ext w w'):IntsAt w' v xs :=
 ⟨h.1.ext hx,λb hb=>by obtain⟨cs,k⟩:=h.2 b hb;exact⟨cs,k.ext hx⟩⟩
def IntsAt.upd {S:Nat→Prop} {w w':World} {v:Value} {xs:List Int} (h:IntsAt w v xs) (hu:Upd S w w') (hS:∀b cs,S b→¬Blk w b 3 cs):IntsAt w' v xs:=by
 have hne:∀b cs,Blk w b 3 cs→¬S b:=λb cs k hs=>hS b cs hs k
 obtain⟨h1,h2⟩:=h;have h1':=h1;obtain⟨A,c,rfl,-⟩:=h1';refine⟨h1.upd hu λad e=> ?_,λb hb=> ?_⟩
 ·subst e;obtain⟨cs,k⟩:=h2 ad.block rfl;exact hne _ _ k
 obtain⟨cs,k⟩:=h2 b hb;exact⟨cs,hu.blk k (hne b cs k)⟩
def IntsAt.own {w:World} {B n:Nat} {v:Value} {xs:List Int} (h:w.ownsRow B 3 1 v n (ints xs)) (hn:xs.length=n):IntsAt w v xs:=by obtain⟨A,c,rfl,h1,-⟩:=zCN h;exact⟨by rw[hn];exact h1,zCG h⟩
def IntsAt.lit {w:World} {g:Nat} {x:Int} (h:Blk w g 3 #[.int .i64 x]):IntsAt w (.slice (some ⟨g,0,none⟩) 1 1) [x]:=by
 refine⟨⟨_,_,rfl,by simp,by omega,rfl,λ_=>⟨_,rfl,h.lt,λj u hu=> ?_⟩⟩,λb hb=> ?_⟩
 ·rw[zBe,wB2,h.cell, ←hu];simp[ints]
 have e:b=g:=by simpa [Value.ownBlock] using hb.symm
 subst e;exact⟨_,h⟩
def AllAt (w:World) (Q:List FPk):Prop:=∀q∈Q,IntsAt w q.2 q.1.2
def AllAt.ext {w w':World} {Q:List FPk} (h:AllAt w Q) (hx:Ext w w'):AllAt w' Q:=λq hq=>(h q hq).ext hx
def AllAt.upd {S:Nat→Prop} {w w':World} {Q:List FPk} (h:AllAt w Q) (hu:Upd S w w') (hS:∀b cs,S b→¬Blk w b 3 cs):AllAt w' Q:=λq hq=>(h q hq).upd hu hS
def AllAt.ones {w:World} {Q:List FPk} (h:AllAt w Q):OnesP (Q.map zCE):=by
 intro p hp;obtain⟨q,hq,rfl⟩:=wD2.1 hp;obtain⟨⟨A,c,e,-⟩,-⟩:=h q hq;show q.2.oneCell'=true
 rw[e];rfl
def zEg {L:List Pk} (h:OnesP L):∀u∈vS L,u.oneCell'=true:=by
 intro u hu;obtain⟨p,hp,hu⟩:=wS6.1 hu;simp at hu;rcases hu with rfl | rfl
 ·rfl
 exact h p hp
structure OwnP (w:World) (B:Nat) (C:Option Addr) (m k:Nat) (Q:List FPk):Prop where
 len:Q.length=m
 own:w.ownsRow B 188 2 (.slice C m k) m (vS (Q.map zCE))
 all:AllAt w Q
def OwnP.nil (w:World) (B:Nat):OwnP w B none 0 0 []:=⟨rfl,zAm _ _ _ _,λ_ h=>by cases h⟩
def OwnP.ext {w w':World} {B m k:Nat} {C:Option Addr} {Q:List FPk} (h:OwnP w B C m k Q) (hx:Ext w w'):OwnP w' B C m k Q:=⟨h.len,yE h.own hx,h.all.ext hx⟩
def OwnP.sl {w:World} {B m k:Nat} {C:Option Addr} {Q:List FPk} (h:OwnP w B C m k Q):SL w 2 (.slice C m k) m (vS (Q.map zCE)):=(jC h.own).1
def OwnP.typed {w:World} {B m k:Nat} {C:Option Addr} {Q:List FPk} (h:OwnP w B C m k Q):∀b,(Value.slice C m k).ownBlock=some b→∃cs,Blk w b 188 cs:=zCG h.own
def OwnP.addr {w:World} {B m k:Nat} {C:Option Addr} {Q:List FPk} (h:OwnP w B C m k Q) (hm:0<m):∃g,C=some ⟨g,0,none⟩∧B≤g:=by
 rcases h.own.2 with ⟨-,h0⟩ | ⟨g,cap,cur,e,hb,-⟩
 ·omega
 injection e with e1 e2 e3
 exact⟨g,e1,hb⟩
def OwnP.ds {w:World} {B m k g:Nat} {Q:List FPk} (h:OwnP w B (some ⟨g,0,none⟩) m k Q):∃tl,DS w g (Q.map zCE) tl∧2*m+tl.length=k*2∧m≤k∧k≤maxLen∧B≤g:=by
 obtain⟨hl,own,-⟩:=h;rcases own.2 with ⟨e,-⟩ | ⟨g',cap,cur,e,hb,hg,h1,h2,h3,h4⟩
 ·injection e with e;cases e
 injection e with e1 e2 e3
 injection e1 with e1
 injection e1 with e1
 subst e1 e3;refine⟨cur.toList.drop (m*2), ?_, ?_,h1,h2,hb⟩
 ·unfold DS Blk;rw[←h4,wE7];exact hg
 rw[wE8,Array.length_toList];omega
def OwnP.of_ds {w:World} {B m k g:Nat} {Q:List FPk} {tl:List Value} (hl:Q.length=m) (hD:DS w g (Q.map zCE) tl) (h1:2*m+tl.length=k*2) (h2:m≤k) (h3:k≤maxLen) (hB:B≤g) (ha:AllAt w Q):OwnP w B (some ⟨g,0,none⟩) m k Q:=by
 have hc:(vS (Q.map zCE)).length=m*2:=by rw[zFO,wQ9,hl];omega
 exact⟨hl,⟨hc,.inr ⟨g,k,_,rfl,hB,hD,h2,h3,by simp;omega,by rw[←hc];simp⟩⟩,ha⟩
def OwnP.upd {S:Nat→Prop} {w w':World} {B m k:Nat} {C:Option Addr} {Q:List FPk} (h:OwnP w B C m k Q) (hu:Upd S w w') (hS:∀b cs,S b→¬Blk w b 3 cs) (hC:∀ad,C=some ad→¬S ad.block):OwnP w' B C m k Q :=
 ⟨h.len,qV h.own hu (λx hx=>by
  cases C with
  | none=>simp[Value.ownBlock] at hx
  | some ad =>
    have e:ad.block=x:=by simpa [Value.ownBlock] using hx
    rw[←e]
    exact hC ad rfl),h.all.upd hu hS⟩
def zNW:Elt prog 189 188 2 32:=⟨underlying189,by kernel_rfl,by omega⟩
def OwnP.app {w w':World} {B m k j:Nat} {C A:Option Addr} {k':Nat} {Q R:List FPk} (h:OwnP w B C m k Q) (hR:AllAt w R) (hj:R.length=j) (ho:w'.ownsRow B 188 2 (.slice A (m+j) k') (m+j) (vS (Q.map zCE)++vS (R.map zCE))) (hg:w.grownBy w' (Value.slice C m k).ownBlock):OwnP w' B A (m+j) k' (Q++R):=by
 have hu:=zM hg;have ht:∀b cs,(Value.slice C m k).ownBlock=some b→¬Blk w b 3 cs:=λb cs hb=>by obtain⟨ds,k⟩:=h.typed b hb;exact zHG k
 refine⟨by rw[wE2,h.len,hj],by rw[wF5,zNS];exact ho,λq hq=> ?_⟩;rcases wD3.1 hq with hq | hq
 ·exact (h.all q hq).upd hu (λb cs hb=>ht b cs hb)
 exact (hR q hq).upd hu (λb cs hb=>ht b cs hb)
def zKE {M:List Pk} {n:Nat} (hn:M.length=n) (h:Sorted pk0 pw M 0 n):(M.map Prod.fst).Pairwise (· ≤ ·):=by
 rw[wR5,wL2];intro i j hi hj hij;have:=h i j (wJ4 _) hij (by omega)
 rwa [zAQ M i hi,zAQ M j hj] at this
def zSN {Q:List FPk} (h:((Q.map zCE).map Prod.fst).Pairwise (· ≤ ·)):(Q.map (·.1.1)).Pairwise (· ≤ ·):=by rw[wF6,wR5] at h;rw[wR5];exact h.imp (λ{a b} hab=>by simpa [zCE] using hab)
def zOc {B m k g:Nat} {Q:List FPk} {w:World} (h:OwnP w B (some ⟨g,0,none⟩) m k Q) (hm:m≤1000000) :
 Calls prog 147 #[.slice (some ⟨g,0,none⟩) m k,.func (.func 148) #[] #[]] w λe w'=>e=.returned (.tuple #[])∧∃Q',OwnP w' B (some ⟨g,0,none⟩) m k Q'∧Q'.Perm Q∧(Q'.map (·.1.1)).Pairwise (· ≤ ·)∧Upd (λx=>x=g) w w':=by obtain⟨tl,hD,h1,h2,h3,hB⟩:=h.ds;refine (sort_any g (Q.map zCE) tl m k w (by rw[wQ9,h.len]) hm h.all.ones hD).mono ?_;rintro e w' ⟨rfl,M,hD',hseg,hsor,hu⟩;obtain⟨Q',hp,e⟩:=BM.perm_lift zCE hseg.perm Q rfl;subst e;have hl':Q'.length=m:=hp.length_eq.trans h.len;refine⟨rfl,Q',OwnP.of_ds hl' hD' h1 h2 h3 hB ?_,hp,zSN (zKE (by rw[wQ9,hl']) hsor),hu⟩;have ha:=h.all.upd hu (λb cs hb=>by subst hb;exact zHG hD);exact λq hq=>ha q (hp.subset hq)
def zTu {B m k:Nat} {C:Option Addr} {Q:List FPk} {w:World} (h:OwnP w B C m k Q) (h0:0<m) (hm:m≤1000000) :
 Calls prog 149 #[.slice C m k] w λe w'=>∃g k',e=.returned (.slice (some ⟨g,0,none⟩) m k')∧OwnP w' w.heap.size (some ⟨g,0,none⟩) m k' Q∧Ext w w':=by
 have HS:=zA (λW (hx:Ext w W)=>h.sl.ext hx);have HO:=zA (zEg h.all.ones);obtain⟨g0,rfl,-⟩:=h.addr h0
 have HQ:Hid (∀w1 w' A k',Ext w w1→OwnP w1 w.heap.size (some ⟨w.heap.size,0,none⟩) 0 0 []→w'.ownsRow w.heap.size 188 2 (.slice A (0+m) k') (0+m) ([]++vS (Q.map zCE))→w1.grownBy w' (Value.slice (some ⟨w.heap.size,0,none⟩) 0 0).ownBlock→∃g,A=some ⟨g,0,none⟩∧OwnP w' w.heap.size (some ⟨g,0,none⟩) m k' Q):=zA (λw1 w' A k' hx ho h1 h2=>by
  have hq:=ho.app (h.all.ext hx) h.len h1 h2;rw[wB2,wG4] at hq;obtain⟨g,rfl,-⟩:=hq.addr h0
  exact⟨g,rfl,hq⟩)
 have hE:(w.alloc (.cells #[] 188)).ownsRow w.heap.size 188 2 (.slice (some ⟨w.heap.size,0,none⟩) 0 0) 0 []:=⟨rfl,.inr ⟨_,0, #[],rfl,wA5 _,heap_alloc_new w _,wA5 _,by unfold maxLen;omega,rfl,rfl⟩⟩
 have hnil:∀W,(binOp .eql 189 (.slice (some ⟨g0,0,none⟩) m k) (.slice none 0 0)).run prog W=.ok (.bool false) W:=λW=>Lib.run_eql_slice_some_nil W _ _ _ underlying189
 generalize vS (Q.map zCE)=cs at *;go_enter func149,ntmps149
 go_wp2_with (first
  | ((with_reducible apply gS 7);refine wApf zNW rfl _ _ rfl w.heap.size _ _ _ rfl hE _ m cs rfl (HS.out _ ((Ext.refl w).alloc _)) HO.out (by omega) (by omega) (by simp) ?_;intro A5 k5 w5 ho5 hg5 hr5))
 obtain⟨g,rfl,hq⟩:=HQ.out _ _ _ _ ((Ext.refl w).alloc _) ⟨rfl,hE,λ_ h=>by cases h⟩ ho5 hg5;go_ret;exact⟨g,k5,rfl,hq,(zM hg5).ext ((Ext.refl w).alloc _) (λx h=>by have h:some w.heap.size=some x:=h;injection h with h;omega)⟩
end
def zHl:Elt prog 22 3 1 8:=⟨underlying22,by kernel_rfl,by omega⟩
def infoI:∃i z,prog.info? 3=some i∧i.zero=some z∧z.cells.size=1∧i.size=1∧i.bytes=8:=by
 have h:=(zHl).hi
 cases hq:prog.info? 3 with
 | none=>rw[hq] at h;cases h
 | some i =>
   rw[hq] at h;simp at h;obtain⟨⟨z,hz,hzs⟩,hs,hb⟩:=h;exact⟨i,z,rfl,hz,hzs,hs,hb⟩
def grow_any (n:Nat) (w:World) (hn:n≤1000000000) :
 Calls prog 183 #[.slice none 0 0,.int .i64 (n:Int)] w λe w'=>∃A c,e=.returned (.slice A 0 c)∧w'.ownsRow w.heap.size 3 1 (.slice A 0 c) 0 []∧Ext w w':=by
 have e0:IntKind.i64.wrap (n:Int)=(n:Int):=IntWalk.i64_in _ (by omega)
 by_cases h0:0<n
 ·obtain⟨i,z,hi,hz,hzs,hs,hb⟩:=infoI;obtain⟨G,hG⟩:∃G,grownCap w n 0 3=G:=⟨_,rfl⟩
  have hge:=grownCap_ge w n 0 3;have hle:=grownCap_le_maxLen w n 0 3 (by unfold maxLen;omega);rw[hG] at hge hle;have hr:=λty=>Lib.run_append_nil_zeros w 22 3 ty 3 i z .i64 .i64 underlying22 underlying3 hi hz n h0 (by omega) (by omega) (by rw[hb];omega)
  rw[hG] at hr;obtain⟨cells,hcells⟩:∃cells,Builtin.zeroCells z.cells n++Builtin.zeroCells z.cells (G-n)=cells:=⟨_,rfl⟩
  rw[hcells] at hr
  have hcs:cells.size=G:=by
   rw[←hcells,Array.size_append,size_zeroCells,size_zeroCells,hzs];omega
  have hown:(w.drew.alloc (.cells cells 3)).ownsRow w.heap.size 3 1 (.slice (some ⟨w.heap.size,0,none⟩) 0 G) 0 [] :=
   ⟨rfl,.inr ⟨w.heap.size,G,cells,rfl,wA5 _,heap_alloc_new w.drew _,wJ4 _,hle,by rw[hcs];omega,by simp⟩⟩
  have HOWN:=zA hown;have HR:=zA hr;unfold maxLen at hle;clear hr hown hcells hcs hG hi hz hzs hs hb;go_enter func183,ntmps183
  go_wp2_with (first
   | ((with_reducible apply gS 6);refine zB rfl (.bool false) (yB rfl rfl rfl (by simp;omega)) ?_)
   | ((with_reducible apply gS 14);refine zB rfl (.int .i64 (n:Int)) (zNu rfl rfl rfl (by omega) (by omega)) ?_)
   | ((with_reducible apply gS 16);refine zB rfl (.bool true) (xY rfl rfl rfl (by simp;omega)) ?_)
   | ((with_reducible apply gS 22);refine Lib.wpList_append_run _ rfl _ _ _ _ rfl _ _ rfl rfl _ _ (HR.out _) ?_))
  go_ret;exact⟨_,_,rfl,HOWN.out,(Ext.refl w).drew.alloc _⟩
 obtain rfl:n=0:=by omega
 have hown:w.ownsRow w.heap.size 3 1 (.slice none 0 0) 0 []:=zAm _ _ _ _;go_enter func183,ntmps183;go_wp2
 go_ret;exact⟨_,_,rfl,hown,Ext.refl w⟩
def zTy (xs ys:List Int) (A B:Option Addr) (a b c d g:Nat) (w:World) (ha:xs.length=a) (hb:ys.length=b) (hal:a≤100000000) (hbl:b≤100000000) (hA:SL w 1 (.slice A a c) a (ints xs)) (hB:SL w 1 (.slice B b d) b (ints ys)) (hg:Blk w g 22 #[.slice A a c,.slice B b d]) :
 Calls prog 150 #[.slice (some ⟨g,0,none⟩) 2 2] w λe w'=>∃C k,e=.returned (.slice C (a+b) k)∧w'.ownsRow w.heap.size 3 1 (.slice C (a+b) k) (a+b) (ints (xs++ys))∧Ext w w':=by
 have HO:=zA (qK xs);have HO2:=zA (qK ys);have HAP:Hid (ints xs++ints ys=ints (xs++ys)):=zA (by simp[ints]);have HG:=zA (λW=>grow_any (a+b) W (by omega));have g0:=hg.cell 0;have g1:=hg.cell 1;obtain⟨n,hab⟩:∃n,a+b=n:=⟨_,rfl⟩
 have HN:=zA hab;rw[hab] at HG ⊢;generalize ints xs=X at *;generalize ints ys=Y at *;generalize ints (xs++ys)=XY at *;clear ha hb;go_enter func150,ntmps150;go_upto_region 3 with fail
 go_loopw [3,11] (λsv iv wr=>((iv=.int .i64 0∧sv=.int .i64 0)∨(iv=.int .i64 1∧sv=.int .i64 (a:Int))∨(iv=.int .i64 2∧sv=.int .i64 (n:Int)))∧wr=w) (λ_ i _=>2-(intOf i).toNat)
 case atStart=>exact⟨.inl ⟨rfl,rfl⟩,rfl⟩
 case round =>
  obtain⟨h,hw⟩:=hrel;have hw':=hw.symm;subst hw';clear hw;rcases h with ⟨rfl,rfl⟩ | ⟨rfl,rfl⟩ | ⟨rfl,rfl⟩
  ·go_wp2_with (first
    | ((with_reducible apply gS 18);refine zB rfl (.int .i64 (a:Int)) (zVN rfl rfl rfl (by omega) (by omega)) ?_)
    | ((with_reducible apply gS 20);refine zB rfl (.bool false) (yB rfl rfl rfl (by simp;omega)) ?_))
   go_roundw
   case rel=>exact⟨.inr (.inl ⟨by go_num,by first | rfl | trivial⟩),by first | rfl | trivial⟩
   case measure=>simp[intOf]
  ·go_wp2_with (first
    | ((with_reducible apply gS 18);refine zB rfl (.int .i64 (n:Int)) (by rw[←hab];exact yL rfl rfl rfl (by omega)) ?_)
    | ((with_reducible apply gS 20);refine zB rfl (.bool false) (yB rfl rfl rfl (by simp;omega)) ?_))
   go_roundw
   case rel=>exact⟨.inr (.inr ⟨by go_num,by first | rfl | trivial⟩),by first | rfl | trivial⟩
   case measure=>simp[intOf]
  go_upto_region 11 with (go_at_call 183;(with_reducible refine (HG.out _).mono ?_);rintro e w1 ⟨C0,k0,rfl,ho1,hx1⟩)
  have hsz:=hx1.size
  go_loopw [6,27] (λsv iv wr=>(∃(C:Option Addr) (k m:Nat) (Z:List Value),((iv=.int .i64 0∧0=m∧[]=Z)∨(iv=.int .i64 1∧a=m∧X=Z)∨(iv=.int .i64 2∧n=m∧X++Y=Z))∧sv=.slice C m k∧wr.ownsRow w.heap.size 3 1 (.slice C m k) m Z)∧Ext w wr) (λ_ i _=>2-(intOf i).toNat)
  case atStart=>exact⟨⟨C0,k0,0,[],.inl ⟨rfl,rfl,rfl⟩,rfl,ho1⟩,hx1⟩
  case round =>
   clear ho1 hx1;obtain⟨⟨C,k,m,Z,h,rfl,ho⟩,hx⟩:=hrel;have c0:=(hx.cell (p:=⟨g,0,none⟩) hg.lt).trans g0;have c1:=(hx.cell (p:=⟨g,1,none⟩) hg.lt).trans g1;have hsz2:=hx.size;rcases h with ⟨rfl,rfl,rfl⟩ | ⟨rfl,rfl,rfl⟩ | ⟨rfl,rfl,rfl⟩
   ·go_wp2_with ((with_reducible apply gS 33);refine wApf zHl rfl _ _ rfl w.heap.size _ _ _ rfl ho _ a X rfl (hA.ext hx) HO.out (by omega) (by omega) (by omega) ?_;intro C5 k5 w5 ho5 hg5 hr5;rw[wB2,wG4] at ho5;have hx5:=(zM hg5).ext hx (λx h=>(ho.lt x h).1))
    go_roundw
    case rel=>exact⟨⟨C5,k5,a,X,.inr (.inl ⟨by go_num,rfl,rfl⟩),by first | rfl | (simp;done) | go_num,ho5⟩,hx5⟩
    case measure=>simp[intOf]
   ·go_wp2_with ((with_reducible apply gS 33);refine wApf zHl rfl _ _ rfl w.heap.size _ _ _ rfl ho _ b Y rfl (hB.ext hx) HO2.out (by omega) (by omega) (by omega) ?_;intro C5 k5 w5 ho5 hg5 hr5;rw[HN.out] at ho5;have hx5:=(zM hg5).ext hx (λx h=>(ho.lt x h).1))
    go_roundw
    case rel=>exact⟨⟨C5,k5,n,X++Y,.inr (.inr ⟨by go_num,rfl,rfl⟩),by first | rfl | (rw[HN.out];done) | go_num,ho5⟩,hx5⟩
    case measure=>simp[intOf]
   go_wp2
   go_ret;rw[HAP.out] at ho;exact⟨_,_,rfl,ho,hx⟩
def tblM_set (xs:List Int) (s:Value) (k:Nat) (z:Int) (h:k<xs.length):(yY xs s).setIfInBounds k (.int .i64 z)=yY (xs.set k z) s:=by unfold yY ints;rw[wJ8,wP8 _ _ (by simpa using h),List.map_set]
def zLY:(prog.info? 42).bind (·.zero)=some (.agg (yY (List.replicate 16 0) (.slice none 0 0))):=by
 show _=some (Value.agg (ints (List.replicate 16 0)++[Value.slice none 0 0]).toArray)
 kernel_rfl
def zGu:3≠42:=by decide
def tblM_get (xs:List Int) (s:Value) (k:Nat) (h:k<xs.length):(yY xs s)[k]? =some (.int .i64 xs[k]):=by unfold yY ints;simp[wT2,h]
def zRd (cs:List Int) (A:Option Addr) (k c:Nat):(yY cs (.slice A k c)).all (·.oneCell')=true:=by unfold yY ints;simp[Value.oneCell']
def zRr (cs:List Int) (s u:Value) (h:cs.length=16):(yY cs s).setIfInBounds 16 u=yY cs u:=by unfold yY;rw[wJ8,wL4 _ _ (by rw[yI,h];omega),yI,h];rfl
end Go.Proofs.YtkggcjdlpendfaaGreatDoor
namespace Go.Proofs.YtkggcjdlpendfaaGreatDoor
open Tryz
open Go.RowKit
def run_headP (A:Option Addr) (n c h:Nat) (hh:h≤n) (hc:n≤c) (w:World) :
 (Instr.slice 189 (.slice A n c) none (some (.int .i64 (h:Int))) none).run prog w=.ok (.slice A h c) w:=by
 have e2:((h:Int)≤(c:Int)):=by omega
 go_simp
def ex_headP {o:Oper} {a:Act} {x hi:Operand} (ho:o.op=.slice 189 x none (some hi) none) {A:Option Addr} {n c h:Nat} (hx:a.eval x=.slice A n c) (h1:a.eval hi=.int .i64 (h:Int)) (hh:h≤n) (hc:n≤c) (w:World) :
 (execOp a.eval o).run prog w=.ok (.value (.slice A h c)) w:=by simp[execOp,ho,hx,h1,Instr.sliceAt,Sem.run_bind,run_underlying underlying189,run_headP A n c h hh hc w]
def zeroPkV:(prog.info? 188).bind (·.zero)=some (.agg (pkV (0,.slice none 0 0))):=by kernel_rfl
def le_mul32 {x y j k:Nat} (a:x≤y*k) (b:y≤j):x≤j*k:=Nat.le_trans a (Nat.mul_le_mul_right k b)
def pk_one (z:Int) (A:Option Addr) (n c:Nat):(pkV (z,.slice A n c)).all (·.oneCell')=true:=by simp[pkV,Value.oneCell']
def zDO (C:List Int) (s:Int):Option Value:=if C.count s=0 then none else some (.int .i64 ((C.count s:Nat):Int))
def cntF_nil:zDO []=λ_=>none:=by funext s;simp[zDO]
def zPJ (C:List Int) (s:Int):(zDO C s).getD (.int .i64 0)=.int .i64 ((C.count s:Nat):Int):=by
 unfold zDO;split
 ·rename_i h;rw[h];rfl
 rfl
def cntF_same (C:List Int) (s:Int):zDO (C++[s]) s=some (.int .i64 ((C.count s+1:Nat):Int)):=by unfold zDO;rw[List.count_append,List.count_singleton_self,if_neg (by omega)]
def zVA (C:List Int) (s t:Int) (h:t≠s):zDO (C++[s]) t=zDO C t:=by unfold zDO;rw[List.count_append,List.count_cons,List.count_nil];simp[Ne.symm h]
def MapG.not_cells {ι:Type} {P:Program} {k:TypeId} {kl:ι→Lit} {ok:ι→Prop} {w:World} {b n:Nat} {g:ι→Option Value} (h:MapG P k kl ok w b n g) {T:TypeId} {cs:Array Value}:¬Blk w b T cs:=by obtain⟨D,⟨es,clock,hb,-⟩,-⟩:=h;intro q;unfold Blk at q;rw[hb] at q;cases q
def zUV {ι:Type} {P:Program} {k:TypeId} {kl:ι→Lit} {ok:ι→Prop} {w:World} {b n B s m:Nat} {g:ι→Option Value} {e:TypeId} {v:Value} {xs:List Value} (ho:w.ownsRow B e s v m xs) (h:MapG P k kl ok w b n g):some b≠v.ownBlock:=λq=>by
 obtain⟨cs,hc⟩:=zCG ho b q.symm;exact h.not_cells (T:=e) (cs:=cs) hc
namespace BM
def cont_take_succ (L:List Pack) (j:Nat) (h:j<L.length):cont (L.take (j+1))=cont (L.take j)++L[j].2:=by rw[List.take_succ_eq_append_getElem h,zLB];simp[cont]
def cont_len {L:List Pack} {b:Nat} (h:∀p∈L,p.2.length≤b):(cont L).length≤L.length*b:=by
 induction L with
 | nil=>simp[cont]
 | cons p L ih =>
   have h1:=h p (by simp);have h2:=ih (λq hq=>h q (by simp[hq]));have e:cont (p::L)=p.2++cont L:=by simp[cont]
   rw[e,List.length_append,List.length_cons,Nat.add_mul];omega
def singN_syms (cs:List Int):∀i,∀p∈singN cs i,∀s∈p.2,-1≤s∧s<i
 | 0,p,hp,s,hs=>by simp[singN] at hp;subst hp;simp at hs;omega
 | i+1,p,hp,s,hs=>by
   rw[singN,List.mem_append] at hp;rcases hp with hp | hp
   ·have:=singN_syms cs i p hp s hs;omega
   split at hp
   ·have e:p=((cs.getD i 0).toNat,[(i:Int)]):=by simpa using hp
    subst e;simp at hs;omega
   cases hp
def Reach.syms {S:List Pack} {R:Int→Prop} (hS:∀p∈S,∀s∈p.2,R s):∀{f L},Reach S f L→∀p∈L,∀s∈p.2,R s
 | _,_,.zero,p,hp=>hS p hp
 | _,_,.step h hp _,p,hm=>by
   have h1:=hp.subset hm;rcases List.mem_append.1 h1 with h1 | h1
   ·obtain⟨x,hx,y,hy,e⟩:=zKG _ _ h1;subst e;intro s hs;rcases List.mem_append.1 hs with hs | hs
    ·exact h.syms hS x hx s hs
    exact h.syms hS y hy s hs
   exact hS p h1
