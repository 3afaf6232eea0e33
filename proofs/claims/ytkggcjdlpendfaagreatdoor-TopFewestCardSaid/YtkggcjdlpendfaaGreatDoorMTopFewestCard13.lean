import Derived.Lib.BufferMore
import Derived.Lib.AppendZeros
import Derived.Test.YtkggcjdlpendfaaGreatDoorMTopFewestCard12
set_option linter.all false
set_option maxRecDepth 20000
set_option maxHeartbeats 8000000
namespace Go.Proofs.YtkggcjdlpendfaaGreatDoor
open Go.RowKit
section
open SM
def sym_any (gd:Nat) (tl:List Value) (n c:Nat) (hn2:n≤1000000): ∀ (k:Nat) (L:List Pk) (a m b:Nat) (w:World),b-a≤k→L.length=n→a<m→m<b→b≤n→OnesP L→DS w gd L tl→Sorted pk0 pw L a m→Sorted pk0 pw L m b →
 Calls Tryz.prog 207 #[.slice (some ⟨gd,0,none⟩) n c,.int .i64 (a:Int),.int .i64 (m:Int),.int .i64 (b:Int),.func (.func 148) #[] #[]] w (zEG gd L tl a b w)
 | 0,L,a,m,b,w,hk,hn,ham,hmb,hbn,hone,hD,h1,h2=>by omega
 | k+1,L,a,m,b,w,hk,hn,ham,hmb,hbn,hone,hD,h1,h2=>by
   by_cases e1:m=a+1
   ·subst e1;exact symL_any gd L tl n c a b w hn hn2 hmb hbn hone hD h2
   ·by_cases e2:b=m+1
    ·subst e2;exact symR_any gd L tl n c a m w hn hn2 (by omega) hbn hone hD h1
    ·exact symG_any gd L tl n c a m b w hn hn2 (by omega) (by omega) hbn hone hD h1 h2 (fun a' m' b' M W p1 p2 p3 p4 p5 p6 p7 p8 p9=>sym_any gd tl n c hn2 k M a' m' b' W (by omega) (p6.length_eq.trans hn) p2 p3 (by omega) (hone.perm p6) p7 p8 p9)
def Blocked (M:List Pk) (bs p:Nat):Prop:=(∃ q,p=q*bs)∧ ∀ q,Sorted pk0 pw M (q*bs) (min (q*bs+bs) p)
def BlockedN (M:List Pk) (bs n:Nat):Prop:= ∀ q,Sorted pk0 pw M (q*bs) (min (q*bs+bs) n)
def Blocked.zero (M:List Pk) (bs:Nat):Blocked M bs 0:=⟨⟨0,by simp⟩,fun q x y h1 h2 h3=>by omega⟩
def Blocked.last {M N:List Pk} {bs p t:Nat} (h:Blocked M bs p) (hs:Seg pk0 M N p t) (ho:Sorted pk0 pw N p t) (ht:t≤p+bs):BlockedN N bs t:=by
 obtain⟨⟨k,hk⟩,h⟩:=h;intro q;rcases Nat.lt_trichotomy q k with hq | hq | hq
 ·have e:(q+1)*bs≤k*bs:=wJ0 _ hq;rw[wJ8,wD5] at e;have h1:=h q;rw[wO8 (by omega)] at h1;have h2:=h1.of_out pk0 pw hs (.inl (by omega));exact h2.sub pk0 pw (wA5 _) (by omega)
 ·subst hq;rw[←hk];exact ho.sub pk0 pw (wA5 _) (by omega)
 ·have e:(k+1)*bs≤q*bs:=wJ0 _ hq;rw[wJ8,wD5] at e;intro x y h1 h2 h3;omega
def Blocked.step {M N:List Pk} {bs p:Nat} (h:Blocked M bs p) (hs:Seg pk0 M N p (p+bs)) (ho:Sorted pk0 pw N p (p+bs)):Blocked N bs (p+bs):=by
 refine⟨?_,h.last hs ho (wA5 _)⟩;obtain⟨⟨k,hk⟩, -⟩:=h;exact⟨k+1,by rw[wJ8,wD5,hk]⟩
def HalfP (M:List Pk) (bs p n:Nat):Prop:=Blocked M (bs+bs) p∧ ∀ q,p≤q*bs→Sorted pk0 pw M (q*bs) (min (q*bs+bs) n)
def HalfP.start {M:List Pk} {bs n:Nat} (h:BlockedN M bs n):HalfP M bs 0 n:=⟨Blocked.zero M _,fun q _=>h q⟩
def HalfP.at_ {M:List Pk} {bs p n:Nat} (h:HalfP M bs p n):Sorted pk0 pw M p (min (p+bs) n)∧Sorted pk0 pw M (p+bs) (min (p+bs+bs) n):=by
 obtain⟨⟨⟨k,hk⟩, -⟩,h⟩:=h;have e1:p=(2*k)*bs:=by rw[hk,wM3, ←wJ8];congr 1;omega
 have h1:=h (2*k) (by omega);have h2:=h (2*k+1) (by rw[wJ8];omega);rw[wJ8,wD5] at h2;rw[←e1] at h1 h2;exact⟨h1,h2⟩
def HalfP.step {M N:List Pk} {bs p n:Nat} (h:HalfP M bs p n) (hs:Seg pk0 M N p (p+bs+bs)) (ho:Sorted pk0 pw N p (p+bs+bs)):HalfP N bs (p+bs+bs) n:=by
 rw[wA0] at hs ho ⊢;refine⟨h.1.step hs ho,fun q hq=> ?_⟩;exact (h.2 q (by omega)).of_out pk0 pw hs (.inr (by omega))
def HalfP.stop {M N:List Pk} {bs p n:Nat} (h:HalfP M bs p n) (hs:Seg pk0 M N p n) (ho:Sorted pk0 pw N p n) (ht:n≤p+bs+bs):BlockedN N (bs+bs) n:=h.1.last hs ho (by omega)
def BlockedN.all {M:List Pk} {bs n:Nat} (h:BlockedN M bs n) (hn:n≤bs):Sorted pk0 pw M 0 n:=by
 have h0:=h 0;rw[wQ0,wB2,wQ1 hn] at h0;exact h0
attribute [local irreducible] HalfP Blocked BlockedN
def zSd (gd:Nat) (L:List Pk) (tl:List Value) (n c:Nat) (w:World) (hn:L.length=n) (hn2:n≤1000000) (hone:OnesP L) (hD:DS w gd L tl) :
 Calls Tryz.prog 181 #[.slice (some ⟨gd,0,none⟩) n c,.int .i64 (n:Int),.func (.func 148) #[] #[]] w (zEG gd L tl 0 n w):=by
 have HI:=zA (fun (M:List Pk) a b W (h:a≤b) (h2:b≤n) (hM:M.Perm L) (hd:DS W gd M tl)=>zRZ gd M tl n c a b W (hM.length_eq.trans hn) hn2 h h2 (hone.perm hM) hd);have HS:=zA (fun (M:List Pk) a m b W (h:a<m) (h1:m<b) (h2:b≤n) (hM:M.Perm L) (hd:DS W gd M tl)=>sym_any gd tl n c hn2 (b-a) M a m b W (wA5 _) (hM.length_eq.trans hn) h h1 h2 (hone.perm hM) hd);have hs0:=Seg.refl pk0 L 0 n;have hb0:=zA (Blocked.zero L 20);clear hn hone;go_enter Tryz.func181,Tryz.ntmps181;go_upto_region 2 with fail
 go_loopw [7,8] (fun av bv wr=> ∃ (p b:Nat) (M:List Pk),p≤n∧p+20=b∧av=.int .i64 (p:Int)∧bv=.int .i64 (b:Int)∧DS wr gd M tl∧Seg pk0 L M 0 n∧Hid (Blocked M 20 p)∧Upd (fun x=>x=gd) w wr) (fun a _ _=>n-(intOf a).toNat)
 case atStart=>exact⟨0,20,L,by omega,rfl,rfl,rfl,hD,hs0,hb0,Upd.refl _ w⟩
 case round =>
  clear hD hs0 hb0;obtain⟨p,b,M,hp,hpb,rfl,rfl,hD,hseg,hB,hu⟩:=hrel
  by_cases hlt:b≤n
  ·have HC:=zA (HI.out M p b wr (by omega) hlt hseg.perm hD)
   go_wp2_with (first
    | ((with_reducible apply gS 13);refine zB rfl (.bool true) (zDQ rfl rfl rfl (by simp;omega)) ?_)
    | (go_at_call 206;(with_reducible refine HC.out.mono ?_);rintro e9 w3 ⟨rfl,N,hD3,hs3,ho3,hu3⟩)
    | ((with_reducible apply gS 22);refine zB rfl (.int .i64 ((b+20:Nat):Int)) (yH rfl rfl rfl (by omega)) ?_))
   go_roundw
   case rel=>exact⟨b,b+20,N,hlt,rfl,by go_num,by go_num,hD3,hseg.trans pk0 (hs3.wide pk0 (wN2 _) hlt),zA (by subst hpb;exact hB.out.step hs3 ho3),hu.trans hu3 (fun x h=>.inl h)⟩
   case measure=>simp[intOf];omega
  ·have HC:=zA (HI.out M p n wr hp (wA5 _) hseg.perm hD)
   go_upto_region 7 with (first
    | ((with_reducible apply gS 13);refine zB rfl (.bool false) (zDQ rfl rfl rfl (by simp;omega)) ?_)
    | (go_at_call 206;(with_reducible refine HC.out.mono ?_);rintro e9 w3 ⟨rfl,N,hD3,hs3,ho3,hu3⟩))
   have hb0:=zA (hB.out.last hs3 ho3 (by omega));have hseg3:=hseg.trans pk0 (hs3.wide pk0 (wN2 _) (wA5 _));have hu0:=hu.trans hu3 (fun x h=>.inl h);clear hD hseg hB hu hs3 ho3 hu3 HC
   go_loopw [6] (fun sv wr=> ∃ (bs:Nat) (M:List Pk),20≤bs∧bs≤2000020∧sv=.int .i64 (bs:Int)∧DS wr gd M tl∧Seg pk0 L M 0 n∧Hid (BlockedN M bs n)∧Upd (fun x=>x=gd) w wr) (fun a _=>n-(intOf a).toNat)
   case atStart=>exact⟨20,N,by omega,by omega,rfl,hD3,hseg3,hb0,hu0⟩
   case round =>
    clear hD3 hseg3 hb0 hu0;obtain⟨bs,M,h20,hbs,rfl,hD,hseg,hB,hu⟩:=hrel
    by_cases hlt2:bs<n
    ·have hh0:=zA (HalfP.start hB.out);obtain⟨b2,hb2⟩: ∃ b2,bs+bs=b2:=⟨_,rfl⟩
     go_upto_region 9 with (first
      | ((with_reducible apply gS 30);refine zB rfl (.bool true) (zZ rfl rfl rfl (by simpa using hlt2)) ?_)
      | ((with_reducible apply gS 32);refine zB rfl (.int .i64 (b2:Int)) (by rw[show b2=2*bs by omega];exact zCI rfl rfl rfl (by omega)) ?_))
     go_loopw [7,8] (fun av bv wr=> ∃ (p b:Nat) (M:List Pk),p≤n∧p+bs+bs=b∧av=.int .i64 (p:Int)∧bv=.int .i64 (b:Int)∧DS wr gd M tl∧Seg pk0 L M 0 n∧Hid (HalfP M bs p n)∧Upd (fun x=>x=gd) w wr) (fun a _ _=>n-(intOf a).toNat)
     case atStart=>exact⟨0,b2,M,by omega,by omega,rfl,rfl,hD,hseg,hh0,hu⟩
     case round =>
      clear hD hseg hB hu hh0;obtain⟨p,b,M,hp,hpb,rfl,rfl,hD,hseg,hH,hu⟩:=hrel;obtain⟨m,hpm⟩: ∃ m,p+bs=m:=⟨_,rfl⟩
      have hat:=zA hH.out.at_
      rw[hpb,hpm] at hat
      by_cases hlt3:b≤n
      ·have HC:=zA (HS.out M p m b wr (by omega) (by omega) hlt3 hseg.perm hD (by have:=hat.out.1;rwa [wO8 (by omega)] at this) (by have:=hat.out.2;rwa [wO8 (by omega)] at this))
       go_wp2_with (first
        | ((with_reducible apply gS 35);refine zB rfl (.bool true) (zDQ rfl rfl rfl (by simp;omega)) ?_)
        | ((with_reducible apply gS 40);refine zB rfl (.int .i64 (m:Int)) (by rw[←hpm];exact yH rfl rfl rfl (by omega)) ?_)
        | (go_at_call 207;(with_reducible refine HC.out.mono ?_);rintro e9 w3 ⟨rfl,N,hD3,hs3,ho3,hu3⟩)
        | ((with_reducible apply gS 47);refine zB rfl (.int .i64 (b2:Int)) (by rw[show b2=2*bs by omega];exact zCI rfl rfl rfl (by omega)) ?_)
        | ((with_reducible apply gS 48);refine zB rfl (.int .i64 ((b+b2:Nat):Int)) (yH rfl rfl rfl (by omega)) ?_))
       go_roundw
       case rel=>exact⟨b,b+b2,N,hlt3,by omega,rfl,by go_num,hD3,hseg.trans pk0 (hs3.wide pk0 (wN2 _) hlt3),zA (by subst hpb;exact hH.out.step hs3 ho3),hu.trans hu3 (fun x h=>.inl h)⟩
       case measure=>simp[intOf];omega
      ·by_cases hm:m<n
       ·have HC:=zA (HS.out M p m n wr (by omega) hm (wA5 _) hseg.perm hD (by have:=hat.out.1;rwa [wO8 (by omega)] at this) (by have:=hat.out.2;rwa [wQ1 (by omega)] at this))
        go_wp2_with (first
         | ((with_reducible apply gS 35);refine zB rfl (.bool false) (zDQ rfl rfl rfl (by simp;omega)) ?_)
         | ((with_reducible apply gS 51);refine zB rfl (.int .i64 (m:Int)) (by rw[←hpm];exact yH rfl rfl rfl (by omega)) ?_)
         | ((with_reducible apply gS 54);refine zB rfl (.bool true) (zZ rfl rfl rfl (by simp;omega)) ?_)
         | (go_at_call 207;(with_reducible refine HC.out.mono ?_);rintro e9 w3 ⟨rfl,N,hD3,hs3,ho3,hu3⟩)
         | ((with_reducible apply gS 62);refine zB rfl (.int .i64 (b2:Int)) (by rw[show b2=bs*2 by omega];exact zCI rfl rfl rfl (by omega)) ?_))
        go_roundw
        case rel=>exact⟨b2,N,by omega,by omega,by go_num,hD3,hseg.trans pk0 (hs3.wide pk0 (wN2 _) (wA5 _)),zA (by rw[←hb2];exact hH.out.stop hs3 ho3 (by omega)),hu.trans hu3 (fun x h=>.inl h)⟩
        case measure=>simp[intOf];omega
       ·have hso:=hat.out.1;rw[wQ1 (by omega)] at hso
        go_wp2_with (first
         | ((with_reducible apply gS 35);refine zB rfl (.bool false) (zDQ rfl rfl rfl (by simp;omega)) ?_)
         | ((with_reducible apply gS 51);refine zB rfl (.int .i64 (m:Int)) (by rw[←hpm];exact yH rfl rfl rfl (by omega)) ?_)
         | ((with_reducible apply gS 54);refine zB rfl (.bool false) (zZ rfl rfl rfl (by simp;omega)) ?_)
         | ((with_reducible apply gS 62);refine zB rfl (.int .i64 (b2:Int)) (by rw[show b2=bs*2 by omega];exact zCI rfl rfl rfl (by omega)) ?_))
        go_roundw
        case rel=>exact⟨b2,M,by omega,by omega,by go_num,hD,hseg,zA (by rw[←hb2];exact hH.out.stop (Seg.refl pk0 _ _ _) hso (by omega)),hu⟩
        case measure=>simp[intOf];omega
    ·have hfin:=hB.out.all (by omega);go_wp2_with ((with_reducible apply gS 30);refine zB rfl (.bool false) (zZ rfl rfl rfl (by simpa using hlt2)) ?_)
     go_end0
     exact⟨rfl,M,hD,hseg,hfin,hu⟩
def sort_any (gd:Nat) (L:List Pk) (tl:List Value) (n c:Nat) (w:World) (hn:L.length=n) (hn2:n≤1000000) (hone:OnesP L) (hD:DS w gd L tl) :
 Calls Tryz.prog 147 #[.slice (some ⟨gd,0,none⟩) n c,.func (.func 148) #[] #[]] w (zEG gd L tl 0 n w):=by
 have H:=zA (zSd gd L tl n c w hn hn2 hone hD);clear hn hone;go_enter Tryz.func147,Tryz.ntmps147;go_wp2_with (go_at_call 181;(with_reducible refine H.out.mono ?_);rintro e9 w3 ⟨rfl,N,hD3,hs3,ho3,hu3⟩)
 go_end0
 exact⟨rfl,N,hD3,hs3,ho3,hu3⟩
end
end Go.Proofs.YtkggcjdlpendfaaGreatDoor
namespace Go.Proofs.YtkggcjdlpendfaaGreatDoor.BM
def pre (l:List Nat) (a:Nat):Nat:=(l.take a).sum
def zCT (x:Nat) (l:List Nat) (k:Nat):pre (x::l) (k+1)=x+pre l k:=by simp[pre]
def pre_all (l:List Nat):pre l l.length=l.sum:=by simp[pre]
def zQn (l:List Nat) {a b:Nat} (h:a≤b):pre l a≤pre l b:=by
 induction l generalizing a b with
 | nil=>simp[pre]
 | cons x l ih =>
   cases a with
   | zero=>simp[pre]
   | succ a=>cases b with
     | zero=>omega
     | succ b=>rw[zCT,zCT];have:=ih (a:=a) (b:=b) (by omega);omega
def zJy: ∀ (k:Nat) (x:Nat) (l:List Nat),(x::l).Pairwise (· ≤ ·)→k≤l.length→pre (x::l) k≤pre l k
 | 0,x,l,_,_=>by simp[pre]
 | k+1,x,[],_,h=>by simp at h
 | k+1,x,y::l,h,hk=>by
   rw[zCT,zCT];rw[List.pairwise_cons] at h;have h1:=h.1 y (by simp);have h2:=zJy k y l h.2 (by simpa using hk);omega
def pre_sub {l:List Nat} (h:l.Pairwise (· ≤ ·)) {s:List Nat} (hs:s.Sublist l):pre l s.length≤s.sum:=by
 induction hs with
 | slnil=>simp[pre]
 | cons x hs ih =>
   have h2:=(List.pairwise_cons.1 h).2;have:=zJy _ x _ h hs.length_le;exact Nat.le_trans this (ih h2)
 | cons_cons x hs ih =>
   have h2:=(List.pairwise_cons.1 h).2;have:=ih h2;simp only[List.length_cons,List.sum_cons,zCT];omega
def zPB {l p q:List Nat} (h:l.Pairwise (· ≤ ·)) (hp:l.Perm (p++q)):pre l p.length≤p.sum:=by
 obtain⟨p',h1,h2⟩:=List.exists_perm_sublist (List.sublist_append_left p q) hp.symm;have:=pre_sub h h2
 rwa [h1.length_eq,h1.sum_nat] at this
def zBt:List Nat→List Nat
 | x::y::r=>(x+y)::zBt r
 | _=>[]
def zFj: ∀ l:List Nat,(zBt l).length=l.length/2
 | []=>rfl
 | [_]=>(by simp[zBt])
 | x::y::r=>by simp[zBt,zFj r];omega
def zNW: ∀ (l:List Nat) (b:Nat),2*b≤l.length→pre (zBt l) b=pre l (2*b)
 | _,0,_=>by simp[pre]
 | [],b+1,h=>by simp at h
 | [_],b+1,h=>by simp at h;omega
 | x::y::r,b+1,h=>by
   have:=zNW r b (by simp at h;omega);rw[zBt,zCT,this,show 2*(b+1)=2*b+1+1 by omega,zCT,zCT];omega
structure Rows (ws:List Nat) (R:Nat→List Nat):Prop where
 zero:R 0=ws
 sorted: ∀ f,(R f).Pairwise (· ≤ ·)
 next: ∀ f,(R (f+1)).Perm (zBt (R f)++ws)
section
variable {ws:List Nat} {R:Nat→List Nat}
def Rows.len (h:Rows ws R) (f:Nat):(R (f+1)).length=(R f).length/2+ws.length:=by
 rw[(h.next f).length_eq,List.length_append,zFj]
def Rows.merge (h:Rows ws R) (f a b:Nat) (ha:a≤ws.length) (hb:2*b≤(R f).length):pre (R (f+1)) (a+b)≤pre ws a+pre (R f) (2*b):=by
 have hb':b≤(zBt (R f)).length:=by rw[zFj];omega
 have hp:(R (f+1)).Perm (((zBt (R f)).take b++ws.take a)++((zBt (R f)).drop b++ws.drop a)):=by
  refine (h.next f).trans ?_
  have e1:zBt (R f)++ws=(zBt (R f)).take b++((zBt (R f)).drop b++(ws.take a++ws.drop a)):=by
   rw[←List.append_assoc,List.take_append_drop,List.take_append_drop]
  rw[e1,List.append_assoc];refine List.Perm.append_left _ ?_;rw[←List.append_assoc, ←List.append_assoc];exact List.Perm.append_right _ List.perm_append_comm
 have:=zPB (h.sorted (f+1)) hp;rw[List.length_append,List.length_take,List.length_take,List.sum_append] at this;rw[←zNW _ _ hb];simp only[pre] at this ⊢;rw[Nat.min_eq_left ha,Nat.min_eq_left hb',Nat.add_comm] at this;omega
end
def zEh (far:Nat) (g:Nat→Nat):Nat→Nat
 | 0=>min far (g 0)
 | m+1=>min (zEh far g m) (g (m+1))
def zPf (far:Nat) (g:Nat→Nat): ∀ (m c:Nat),c≤m→zEh far g m≤g c
 | 0,c,h=>by
   obtain rfl:c=0:=by omega
   exact Nat.min_le_right _ _
 | m+1,c,h=>by
   unfold zEh
   by_cases hc:c=m+1
   ·subst hc;exact Nat.min_le_right _ _
   ·exact Nat.le_trans (Nat.min_le_left _ _) (zPf far g m c (by omega))
def zKU (far:Nat) (g:Nat→Nat): ∀ m,zEh far g m<far→ ∃ c,c≤m∧zEh far g m=g c
 | 0,h=>by
   unfold zEh at h ⊢;exact⟨0,by omega,by omega⟩
 | m+1,h=>by
   unfold zEh at h ⊢
   by_cases hc:g (m+1)≤zEh far g m
   ·exact⟨m+1,by omega,by omega⟩
   ·obtain⟨c,h1,h2⟩:=zKU far g m (by omega);exact⟨c,by omega,by omega⟩
def D (W:Nat→Nat) (far:Nat):Nat→Nat→Nat→Nat
 | 0,left,m=>if left≤m then 0 else far
 | f+1,left,m=>if left≤m then 0 else zEh far (fun c=>W (left-c)+D W far f (left-c) (min (2*(m-c)) (left-c))) m
def D_fit (W:Nat→Nat) (far f left m:Nat) (h:left≤m):D W far f left m=0:=by cases f<;>simp[D,h]
section
variable {ws:List Nat} {R:Nat→List Nat}
def D_low (h:Rows ws R) (far:Nat): ∀ (f left m:Nat),left≤ws.length→m<left→D (pre ws) far (f+1) left m<far →
 2*(left-m)≤(R f).length∧pre (R f) (2*(left-m))≤D (pre ws) far (f+1) left m
 | 0,left,m,hl,hm,hf=>by
   have hf0:=hf;rw[D,if_neg (by omega)] at hf ⊢;obtain⟨c,hc,e⟩:=zKU _ _ _ hf;rw[e] at hf ⊢;rw[h.zero]
   by_cases hfit:left-c≤min (2*(m-c)) (left-c)
   ·rw[D,if_pos hfit] at hf ⊢;refine⟨by omega, ?_⟩;have:=zQn ws (a:=2*(left-m)) (b:=left-c) (by omega);omega
   ·rw[D,if_neg hfit] at hf;omega
 | f+1,left,m,hl,hm,hf=>by
   rw[D,if_neg (by omega)] at hf ⊢;obtain⟨c,hc,e⟩:=zKU _ _ _ hf;rw[e] at hf ⊢
   by_cases hfit:left-c≤min (2*(m-c)) (left-c)
   ·rw[D_fit _ _ _ _ _ hfit] at hf ⊢;have hk:2*(left-m)≤left-c:=by omega
    have h1:pre (R (f+1)) (2*(left-m))≤pre ws (2*(left-m))+pre (R f) (2*0):=h.merge f (2*(left-m)) 0 (by omega) (by omega);have e0:pre (R f) (2*0)=0:=rfl;have h2:=zQn ws (a:=2*(left-m)) (b:=left-c) hk;exact⟨by rw[h.len];omega,by omega⟩
   ·have hm':min (2*(m-c)) (left-c)=2*(m-c):=by omega
    rw[hm'] at hf ⊢ hfit;obtain⟨h1,h2⟩:=D_low h far f (left-c) (2*(m-c)) (by omega) (by omega) (by omega);have h3:=h.merge f (left-c) (left-c-2*(m-c)) (by omega) h1;rw[show left-c+(left-c-2*(m-c))=2*(left-m) by omega] at h3;exact⟨by rw[h.len];omega,by omega⟩
def low (h:Rows ws R) (far f:Nat) (hn:2≤ws.length) (hf:D (pre ws) far (f+1) ws.length 2<far) :
 pre (R (f+1)) (2*ws.length-2)≤pre ws ws.length+D (pre ws) far (f+1) ws.length 2:=by
 by_cases h2:ws.length=2
 ·have h1:=h.merge f 2 0 (by omega) (by omega);have e0:pre (R f) (2*0)=0:=rfl;rw[h2];rw[show 2*2-2=2+0 by rfl];omega
 ·obtain⟨h1,h3⟩:=D_low h far f ws.length 2 (by omega) (by omega) hf;have h4:=h.merge f ws.length (ws.length-2) (by omega) h1;rw[show ws.length+(ws.length-2)=2*ws.length-2 by omega] at h4;omega
end
def zBA (f:Nat) (X:List (Nat×Nat)):Nat:=(X.map fun x=>2 ^ (f-x.2)).sum
def cost (X:List (Nat×Nat)):Nat:=(X.map fun x=>x.1*x.2).sum
def wsum (X:List (Nat×Nat)):Nat:=(X.map (·.1)).sum
def deeper (X:List (Nat×Nat)):List (Nat×Nat):=(X.filter fun x=>decide (0<x.2)).map fun x=>(x.1,x.2-1)
def zLn (X:List (Nat×Nat)):(deeper X).length≤X.length:=by rw[deeper,List.length_map];exact List.length_filter_le _ _
def zGG: ∀ X:List (Nat×Nat),cost X=wsum (deeper X)+cost (deeper X)
 | []=>rfl
 | (w,0)::X=>by
   have:=zGG X;simp only[cost,wsum,deeper,List.map_cons,List.sum_cons] at this ⊢;rw[List.filter_cons_of_neg (by simp)];omega
 | (w,e+1)::X=>by
   have:=zGG X;simp only[cost,wsum,deeper,List.map_cons,List.sum_cons] at this ⊢;rw[List.filter_cons_of_pos (by simp)];simp only[List.map_cons,List.sum_cons,Nat.add_sub_cancel];have e2:w*(e+1)=w+w*e:=by rw[Nat.mul_succ];omega
   omega
def zFV (f:Nat): ∀ X:List (Nat×Nat),(∀ x∈X,x.2≤f+1)→zBA (f+1) X=(X.length-(deeper X).length)*2 ^ (f+1)+zBA f (deeper X)
 | [],_=>by simp[zBA,deeper]
 | (w,0)::X,h=>by
   have ih:=zFV f X (fun x hx=>h x (by simp[hx]));have hl:=zLn X;simp only[zBA,deeper,List.map_cons,List.sum_cons] at ih ⊢;rw[List.filter_cons_of_neg (by simp),ih,List.length_cons];simp only[deeper] at hl;rw[show X.length+1-_=(X.length-(List.map (fun x:Nat×Nat=>(x.1,x.2-1)) (List.filter (fun x=>decide (0<x.2)) X)).length)+1 by omega,Nat.add_mul];simp;omega
 | (w,e+1)::X,h=>by
   have ih:=zFV f X (fun x hx=>h x (by simp[hx]));simp only[zBA,deeper,List.map_cons,List.sum_cons] at ih ⊢;rw[List.filter_cons_of_pos (by simp),ih];simp only[List.map_cons,List.sum_cons,List.length_cons,Nat.add_sub_add_right,Nat.add_sub_cancel];omega
def kraft_le (f:Nat) (X:List (Nat×Nat)):zBA f X≤X.length*2 ^ f:=by
 induction X with
 | nil=>simp[zBA]
 | cons x X ih =>
   simp only[zBA,List.map_cons,List.sum_cons,List.length_cons,Nat.add_mul] at ih ⊢;have:=Nat.pow_le_pow_right (show 0<2 by omega) (show f-x.2≤f by omega);omega
def Part (ws:List Nat) (X:List (Nat×Nat)):Prop:= ∃ q,ws.Perm (X.map (·.1)++q)
def Part.deeper {ws:List Nat} {X:List (Nat×Nat)} (h:Part ws X):Part ws (deeper X):=by
 obtain⟨q,hq⟩:=h;refine⟨(X.filter fun x=> !decide (0<x.2)).map (·.1)++q,hq.trans ?_⟩;rw[←List.append_assoc];refine List.Perm.append_right _ ?_;have h1:=(List.filter_append_perm (fun x:Nat×Nat=>decide (0<x.2)) X).symm.map (·.1);rw[List.map_append] at h1;simpa [BM.deeper,List.map_map,Function.comp_def] using h1
def Part.pre {ws:List Nat} {X:List (Nat×Nat)} (hs:ws.Pairwise (· ≤ ·)) (h:Part ws X):pre ws X.length≤wsum X:=by
 obtain⟨q,hq⟩:=h;have:=zPB hs hq
 rwa [List.length_map] at this
def D_high {ws:List Nat} (hs:ws.Pairwise (· ≤ ·)) (far:Nat): ∀ (f:Nat) (X:List (Nat×Nat)) (m:Nat),Part ws X→(∀ x∈X,x.2≤f)→zBA f X≤m*2 ^ f→D (BM.pre ws) far f X.length m≤cost X
 | 0,X,m,_,_,hk=>by
   have:zBA 0 X=X.length:=by
    clear hk
    induction X with
    | nil=>rfl
    | cons x X ih =>
      have ih:=ih (by obtain⟨q,hq⟩:= ‹Part ws (x::X)›;exact⟨x.1::q,hq.trans (by simpa using List.perm_middle.symm)⟩) (fun y hy=> ‹∀ y∈x::X,y.2≤0› y (by simp[hy]));simp only[zBA,List.map_cons,List.sum_cons,List.length_cons] at ih ⊢;rw[ih];simp;omega
   rw[this] at hk;rw[D_fit _ _ _ _ _ (by omega)];omega
 | f+1,X,m,hp,he,hk=>by
   rw[D]
   by_cases hfit:X.length≤m
   ·rw[if_pos hfit];omega
   ·rw[if_neg hfit];have hl:=zLn X;have h1:=zFV f X he;have h2:=kraft_le f (deeper X);rw[h1] at hk;have hpos:0<2 ^ f:=Nat.pos_of_ne_zero (by simp);have e2:2 ^ (f+1)=2*2 ^ f:=by rw[Nat.pow_succ];omega
    obtain⟨c,hc⟩: ∃ c,X.length-(deeper X).length=c:=⟨_,rfl⟩
    rw[hc] at hk h1
    have hcm:c≤m:=by
     refine Nat.le_of_mul_le_mul_right (Nat.le_trans (Nat.le_add_right _ _) hk) (Nat.pos_of_ne_zero (by simp))
    have hkr:zBA f (deeper X)≤(2*(m-c))*2 ^ f:=by
     have e3:m*2 ^ (f+1)=c*2 ^ (f+1)+(m-c)*2 ^ (f+1):=by rw[←Nat.add_mul];congr 1;omega
     rw[e3] at hk;have e4:(m-c)*2 ^ (f+1)=2*(m-c)*2 ^ f:=by rw[e2,Nat.mul_comm 2 (m-c),Nat.mul_assoc]
     omega
    have hlen:X.length-c=(deeper X).length:=by omega
    have hm':zBA f (deeper X)≤min (2*(m-c)) (deeper X).length*2 ^ f:=by
     rcases Nat.le_total (2*(m-c)) (deeper X).length with h | h
     ·rw[Nat.min_eq_left h];exact hkr
     ·rw[Nat.min_eq_right h];exact h2
    have ih:=D_high hs far f (deeper X) _ hp.deeper (fun x hx=>by
     rw[deeper] at hx;obtain⟨y,hy,rfl⟩:=List.mem_map.1 hx;have:=he y ((List.mem_filter.1 hy).1);show y.2-1≤f
     omega) hm'
    have h3:=zPf far (fun c=>BM.pre ws (X.length-c)+D (BM.pre ws) far f (X.length-c) (min (2*(m-c)) (X.length-c))) m c hcm;simp only[hlen] at h3;have h4:=hp.deeper.pre hs;have h5:=zGG X;omega
end Go.Proofs.YtkggcjdlpendfaaGreatDoor.BM
namespace Go.Proofs.YtkggcjdlpendfaaGreatDoor.BM
abbrev Pack:=Nat×List Int
def pairP:List Pack→List Pack
 | x::y::r=>(x.1+y.1,x.2++y.2)::pairP r
 | _=>[]
def prs:List Pack→List (Pack×Pack)
 | x::y::r=>(x,y)::prs r
 | _=>[]
def comb (p:Pack×Pack):Pack:=(p.1.1+p.2.1,p.1.2++p.2.2)
def zBU (Z:List (Pack×Pack)):List Pack:=Z.flatMap fun p=>[p.1,p.2]
def zNa: ∀ L,pairP L=(prs L).map comb
 | []=>rfl
 | [_]=>rfl
 | x::y::r=>by simp[pairP,prs,comb,zNa r]
def zPL: ∀ L:List Pack, ∃ r,L=zBU (prs L)++r
 | []=>⟨[],rfl⟩
 | [x]=>⟨[x],rfl⟩
 | x::y::r=>by
   obtain⟨q,h⟩:=zPL r;exact⟨q,by simp only[prs,zBU,List.flatMap_cons,List.cons_append,List.nil_append] at h ⊢;rw[←h]⟩
def zEW: ∀ L:List Pack,(pairP L).map (·.1)=zBt (L.map (·.1))
 | []=>rfl
 | [_]=>rfl
 | x::y::r=>by simp[pairP,zBt,zEW r]
def perm_lift {α β:Type} (f:α→β) {l' m:List β} (h:l'.Perm m): ∀ l:List α,m=l.map f→ ∃ l'':List α,l''.Perm l∧l''.map f=l':=by
 induction h with
 | nil =>
   intro l hl;have:l=[]:=by cases l with | nil=>rfl | cons a b=>simp at hl
   subst this;exact⟨[],.nil,rfl⟩
 | cons x _ ih =>
   intro l hl
   cases l with
   | nil=>simp at hl
   | cons a l =>
     simp only[List.map_cons,List.cons.injEq] at hl;obtain⟨l'',h1,h2⟩:=ih l hl.2;exact⟨a::l'',h1.cons a,by simp[h2,hl.1]⟩
 | swap x y l0 =>
   intro l hl
   match l,hl with
   | a::b::l,hl =>
     simp only[List.map_cons,List.cons.injEq] at hl;exact⟨b::a::l,.swap _ _ _,by simp[hl.1,hl.2.1,hl.2.2]⟩
 | trans _ _ ih1 ih2 =>
   intro l hl;obtain⟨l2,h1,h2⟩:=ih2 l hl;obtain⟨l3,h3,h4⟩:=ih1 l2 h2.symm;exact⟨l3,h3.trans h1,h4⟩
def zHL {α:Type}: ∀ (T U A B:List α),(T++U).Perm (A++B)→ ∃ T1 T2 A' B',T.Perm (T1++T2)∧A.Perm (T1++A')∧B.Perm (T2++B')
 | [],U,A,B,_=>⟨[],[],A,B,.nil,.refl _,.refl _⟩
 | x::T,U,A,B,h=>by
   have hx:x∈A++B:=h.subset (by simp);rcases List.mem_append.1 hx with hA | hB
   ·obtain⟨s,t,rfl⟩:=List.append_of_mem hA
    have h1:(x::(T++U)).Perm (x::((s++t)++B)):=by
     refine (show (x::T++U).Perm _ from h).trans ?_;rw[List.append_assoc,List.append_assoc];exact List.perm_middle
    obtain⟨T1,T2,A',B',p1,p2,p3⟩:=zHL T U (s++t) B (List.Perm.cons_inv h1);exact⟨x::T1,T2,A',B',p1.cons x,List.perm_middle.trans (p2.cons x),p3⟩
   ·obtain⟨s,t,rfl⟩:=List.append_of_mem hB
    have h1:(x::(T++U)).Perm (x::(A++(s++t))):=by
     refine (show (x::T++U).Perm _ from h).trans ?_;rw[←List.append_assoc, ←List.append_assoc];exact List.perm_middle
    obtain⟨T1,T2,A',B',p1,p2,p3⟩:=zHL T U A (s++t) (List.Perm.cons_inv h1);exact⟨T1,x::T2,A',B',(p1.cons x).trans List.perm_middle.symm,p2,List.perm_middle.trans (p3.cons x)⟩
def cont (T:List Pack):List Int:=T.flatMap (·.2)
def cont_perm {T U:List Pack} (h:T.Perm U):(cont T).Perm (cont U):=h.flatMap_right _
def zJt (T U:List Pack):cont (T++U)=cont T++cont U:=by simp[cont]
def zLu: ∀ Z:List (Pack×Pack),cont (zBU Z)=cont (Z.map comb)
 | []=>rfl
 | p::Z=>by
   have:=zLu Z;simp only[cont,zBU,List.flatMap_cons,List.map_cons,comb,List.cons_append,List.nil_append,List.append_assoc] at this ⊢;rw[this]
def pair_part {L T A:List Pack} (h:(pairP L).Perm (T++A)): ∃ V W,L.Perm (V++W)∧V.length=2*T.length∧cont V=cont T:=by
 rw[zNa] at h;obtain⟨Z,hz,e⟩:=perm_lift comb h.symm (prs L) rfl;obtain⟨Z1,Z2,rfl,e1,e2⟩:=List.map_eq_append_iff.1 e;obtain⟨r,hr⟩:=zPL L
 have hf:(zBU (prs L)).Perm (zBU Z1++zBU Z2):=by
  have:(zBU (Z1++Z2)).Perm (zBU (prs L)):=hz.flatMap_right _;rw[show zBU (Z1++Z2)=zBU Z1++zBU Z2 by simp[zBU]] at this;exact this.symm
 refine⟨zBU Z1,zBU Z2++r, ?_, ?_,by rw[zLu,e1]⟩
 ·rw[hr];refine (hf.append_right r).trans ?_;rw[List.append_assoc]
 ·rw[←e1,List.length_map];clear hf e e1 hz
  induction Z1 with
  | nil=>rfl
  | cons p Z ih=>simp only[zBU,List.flatMap_cons,List.length_append,List.length_cons,List.length_nil] at ih ⊢;omega
structure PRows (S:List Pack) (P:Nat→List Pack):Prop where
 zero:P 0=S
 next: ∀ f,(P (f+1)).Perm (pairP (P f)++S)
def yV:List (List Int)→Nat
 | []=>0
 | S::r=>S.length*2 ^ r.length+yV r
def zDr (wt:Int→Nat) (s:Int):Pack:=(wt s,[s])
def zIm (wt:Int→Nat): ∀ Z:List Int,cont (Z.map (zDr wt))=Z
 | []=>rfl
 | s::Z=>by have:=zIm wt Z;simp only[cont,List.map_cons,List.flatMap_cons,zDr] at this ⊢;rw[this];rfl
def zNf {wt:Int→Nat} {syms:List Int} {T U S:List Pack} (hS:S.Perm (syms.map (zDr wt))) (h:S.Perm (T++U)): ∃ Z r,syms.Perm (Z++r)∧T=Z.map (zDr wt):=by
 obtain⟨Z,hz,e⟩:=perm_lift (zDr wt) (h.symm.trans hS) syms rfl;obtain⟨Z1,Z2,rfl,e1,e2⟩:=List.map_eq_append_iff.1 e;exact⟨Z1,Z2,hz.symm,e1.symm⟩
def levels {wt:Int→Nat} {syms:List Int} {S:List Pack} {P:Nat→List Pack} (hS:S.Perm (syms.map (zDr wt))) (h:PRows S P): ∀ (f:Nat) (T U:List Pack),(P f).Perm (T++U) →
 ∃ Ss:List (List Int),Ss.length=f+1∧(cont T).Perm Ss.flatten∧(∀ Z∈Ss, ∃ r,syms.Perm (Z++r))∧yV Ss=T.length*2 ^ f
 | 0,T,U,hp=>by
   rw[h.zero] at hp;obtain⟨Z,r,hz,rfl⟩:=zNf hS hp;refine⟨[Z],rfl,by rw[zIm];simp,fun Y hY=>by simp at hY;subst hY;exact⟨r,hz⟩,by simp[yV]⟩
 | f+1,T,U,hp=>by
   obtain⟨T1,T2,A',B',p1,p2,p3⟩:=zHL T U _ _ (hp.symm.trans (h.next f));obtain⟨V,W,hv,hl,hc⟩:=pair_part p2;obtain⟨Ss,k1,k2,k3,k4⟩:=levels hS h f V W hv;obtain⟨Z,r,hz,rfl⟩:=zNf hS p3;refine⟨Z::Ss,by simp[k1], ?_, ?_, ?_⟩
   ·have:=cont_perm p1;rw[zJt,zIm, ←hc] at this;refine this.trans (List.perm_append_comm.trans ?_);rw[List.flatten_cons];exact k2.append_left Z
   ·intro Y hY;rcases List.mem_cons.1 hY with rfl | hY
    ·exact⟨r,hz⟩
    ·exact k3 Y hY
   ·have hT:=p1.length_eq;rw[List.length_append,List.length_map] at hT;rw[yV,k1,k4,hl,hT,Nat.pow_succ];rw[show 2*T1.length*2 ^ f=T1.length*(2 ^ f*2) by rw[Nat.mul_comm 2 T1.length,Nat.mul_assoc,Nat.mul_comm 2]];rw[Nat.add_mul];omega
def qJ:List (List Int)→Int→Nat
 | [],_=>0
 | S::r,s=>(if s∈S then 1 else 0)+qJ r s
def zMV: ∀ (Ss:List (List Int)) (s:Int),qJ Ss s≤Ss.length
 | [],_=>Nat.le_refl _
 | S::r,s=>by
   have:=zMV r s;rw[qJ,List.length_cons];split<;>omega
def zMD {syms Z r:List Int} (hn:syms.Nodup) (h:syms.Perm (Z++r)):Z.Nodup∧(∀ s∈Z,s∈syms):=by
 have:=h.nodup_iff.1 hn;exact⟨(List.nodup_append.1 this).1,fun s hs=>h.symm.subset (by simp[hs])⟩
def zIL {syms:List Int} (hn:syms.Nodup): ∀ (Ss:List (List Int)),(∀ Z∈Ss, ∃ r,syms.Perm (Z++r))→ ∀ s,Ss.flatten.count s=qJ Ss s
 | [],_,s=>rfl
 | Z::r,h,s=>by
   obtain⟨q,hq⟩:=h Z (by simp);have hz:=(zMD hn hq).1;rw[List.flatten_cons,List.count_append,zIL hn r (fun Y hY=>h Y (by simp[hY])) s,qJ]
   by_cases hs:s∈Z
   ·have h1:=List.nodup_iff_count.1 hz s;have h2:=List.count_pos_iff.2 hs;rw[if_pos hs];omega
   ·rw[if_neg hs,List.count_eq_zero_of_not_mem hs]
def zY (l:List Int) (g:Int→Nat):Nat:=(l.map g).sum
def zMK {a b:List Int} (h:a.Perm b) (g:Int→Nat):zY a g=zY b g:=(h.map g).sum_nat
def zBl (a b:List Int) (g:Int→Nat):zY (a++b) g=zY a g+zY b g:=by simp[zY]
def zGs {l:List Int} {g k:Int→Nat} (h: ∀ s∈l,g s≤k s):zY l g≤zY l k:=by
 induction l with
 | nil=>exact Nat.le_refl _
 | cons x l ih =>
   have h1:=h x (by simp);have h2:=ih (fun s hs=>h s (by simp[hs]));simp only[zY,List.map_cons,List.sum_cons] at h2 ⊢;omega
def zCU {l:List Int} {g k:Int→Nat} (h: ∀ s∈l,g s=k s):zY l g=zY l k:=by
 have:l.map g=l.map k:=List.map_congr_left h;simp[zY,this]
def zFg (l:List Int) (g k:Int→Nat):zY l (fun s=>g s+k s)=zY l g+zY l k:=by
 induction l with
 | nil=>rfl
 | cons x l ih=>simp only[zY,List.map_cons,List.sum_cons] at ih ⊢;omega
def zAP (l:List Int) (c:Nat):zY l (fun _=>c)=l.length*c:=by
 induction l with
 | nil=>simp[zY]
 | cons x l ih=>simp only[zY,List.map_cons,List.sum_cons,List.length_cons,Nat.add_mul] at ih ⊢;omega
def zJL {syms:List Int} (hn:syms.Nodup): ∀ (Ss:List (List Int)),(∀ Z∈Ss, ∃ r,syms.Perm (Z++r))→yV Ss+zY syms (fun s=>2 ^ (Ss.length-qJ Ss s))≤syms.length*2 ^ Ss.length
 | [],_=>by
   have:zY syms (fun s=>2 ^ (([]:List (List Int)).length-qJ [] s))=zY syms (fun _=>1):=zCU (fun s _=>by simp[qJ]);rw[this,zAP];simp[yV]
 | Z::r,h=>by
   have ih:=zJL hn r (fun Y hY=>h Y (by simp[hY]));obtain⟨q,hq⟩:=h Z (by simp);have hnq:=hq.nodup_iff.1 hn;obtain⟨-, -,hd⟩:=List.nodup_append.1 hnq;rw[zMK hq,zBl] at ih ⊢;have hl:=hq.length_eq;rw[List.length_append] at hl
   have h1:zY Z (fun s=>2 ^ ((Z::r).length-qJ (Z::r) s))=zY Z (fun s=>2 ^ (r.length-qJ r s)):=zCU (fun s hs=>by
    rw[qJ,if_pos hs,List.length_cons];congr 1
    omega)
   have h2:zY q (fun s=>2 ^ ((Z::r).length-qJ (Z::r) s))≤zY q (fun s=>2 ^ (r.length-qJ r s))+q.length*2 ^ r.length:=by
    rw[←zAP, ←zFg];refine zGs (fun s hs=> ?_);have hns:s∉Z:=fun hz=>hd s hz s hs rfl
    rw[qJ,if_neg hns,List.length_cons,Nat.zero_add];have hc:=zMV r s;rw[show r.length+1-qJ r s=(r.length-qJ r s)+1 by omega,Nat.pow_succ];have:=Nat.pow_le_pow_right (show 0<2 by omega) (show r.length-qJ r s≤r.length by omega);omega
   have hw:yV (Z::r)=Z.length*2 ^ r.length+yV r:=rfl;have hp:2 ^ (Z::r).length=2 ^ r.length*2:=by rw[List.length_cons,Nat.pow_succ]
   rw[hw,hp,hl,h1];rw[hl] at ih
   have e:(Z.length+q.length)*(2 ^ r.length*2)=(Z.length+q.length)*2 ^ r.length+(Z.length*2 ^ r.length+q.length*2 ^ r.length):=by
    rw[←Nat.mul_assoc,Nat.mul_comm _ 2, ←Nat.add_mul];omega
   rw[e];omega
def sumOn_one {l:List Int} (hn:l.Nodup) (g:Int→Nat) (x:Int) (hx:x∈l):zY l (fun s=>g s*if x=s then 1 else 0)=g x:=by
 induction l with
 | nil=>cases hx
 | cons y l ih =>
   rw[List.nodup_cons] at hn;simp only[zY,List.map_cons,List.sum_cons] at ih ⊢
   by_cases h:x=y
   ·subst h
    have:(l.map fun s=>g s*if x=s then 1 else 0)=l.map fun _=>0:=List.map_congr_left (fun s hs=>by
     have:x≠s:=fun h=>hn.1 (h ▸ hs)
     simp[this])
    rw[this,if_pos rfl];have h0:=zAP l 0;unfold zY at h0;rw[h0];omega
   ·rw[if_neg h,ih hn.2 (by simpa [h] using hx)];omega
def zGH {syms:List Int} (hn:syms.Nodup) (g:Int→Nat): ∀ (C:List Int),(∀ s∈C,s∈syms)→zY C g=zY syms (fun s=>g s*C.count s)
 | [],_=>by
   have:zY syms (fun s=>g s*([]:List Int).count s)=zY syms (fun _=>0):=zCU (fun s _=>by simp);rw[this,zAP];rfl
 | x::C,h=>by
   have ih:=zGH hn g C (fun s hs=>h s (by simp[hs]));have h1:=sumOn_one hn g x (h x (by simp))
   have e:zY syms (fun s=>g s*(x::C).count s)=zY syms (fun s=>g s*C.count s+g s*if x=s then 1 else 0):=zCU (fun s _=>by
    rw[List.count_cons,Nat.mul_add]
    simp only[beq_iff_eq])
   rw[e,zFg,h1, ←ih];simp only[zY,List.map_cons,List.sum_cons];omega
def zLB {wt:Int→Nat}: ∀ L:List Pack,(∀ p∈L,p.1=zY p.2 wt)→ ∀ p∈pairP L,p.1=zY p.2 wt
 | [],_,p,hp=>by simp[pairP] at hp
 | [_],_,p,hp=>by simp[pairP] at hp
 | x::y::r,h,p,hp=>by
   rw[pairP] at hp;rcases List.mem_cons.1 hp with rfl | hp
   ·rw[zBl, ←h x (by simp), ←h y (by simp)]
   ·exact zLB r (fun q hq=>h q (by simp[hq])) p hp
def zNR {wt:Int→Nat} {syms:List Int} {S:List Pack} {P:Nat→List Pack} (hS:S.Perm (syms.map (zDr wt))) (h:PRows S P): ∀ f, ∀ p∈P f,p.1=zY p.2 wt
 | 0,p,hp=>by
   rw[h.zero] at hp;obtain⟨s, -,rfl⟩:=List.mem_map.1 (hS.subset hp);simp[zDr,zY]
 | f+1,p,hp=>by
   rcases List.mem_append.1 ((h.next f).subset hp) with hp | hp
   ·exact zLB _ (zNR hS h f) p hp
   ·obtain⟨s, -,rfl⟩:=List.mem_map.1 (hS.subset hp);simp[zDr,zY]
def zJu {wt:Int→Nat}: ∀ T:List Pack,(∀ p∈T,p.1=zY p.2 wt)→(T.map (·.1)).sum=zY (cont T) wt
 | [],_=>rfl
 | p::T,h=>by
   have ih:=zJu T (fun q hq=>h q (by simp[hq]));have e:cont (p::T)=p.2++cont T:=rfl;rw[List.map_cons,List.sum_cons,ih,e,zBl, ←h p (by simp)]
def packages {wt:Int→Nat} {syms:List Int} {S:List Pack} {P:Nat→List Pack} (hn:syms.Nodup) (h2:2≤syms.length) (hS:S.Perm (syms.map (zDr wt))) (h:PRows S P)
 (hs: ∀ f,((P f).map (·.1)).Pairwise (· ≤ ·)) (hlen:2*syms.length-2≤(P 15).length) (far:Nat) :
 let C:=cont ((P 15).take (2*syms.length-2))
 let F:=pre ((P 15).map (·.1)) (2*syms.length-2)
 (∀ s∈C,s∈syms)∧(∀ s∈syms,1≤C.count s∧C.count s≤16)∧zY syms (fun s=>2 ^ (16-C.count s))≤2 ^ 16∧zY syms (fun s=>wt s*C.count s)=F ∧
 (F<far→pre (S.map (·.1)) syms.length+D (pre (S.map (·.1))) far 15 syms.length 2=F):=by
 intro C F;have hT:(P 15).Perm ((P 15).take (2*syms.length-2)++(P 15).drop (2*syms.length-2)):=by rw[List.take_append_drop]
 obtain⟨Ss,k1,k2,k3,k4⟩:=levels hS h 15 _ _ hT;have hTl:((P 15).take (2*syms.length-2)).length=2*syms.length-2:=by rw[List.length_take];omega
 rw[hTl] at k4;have hcount: ∀ s,C.count s=qJ Ss s:=fun s=>by rw[k2.count_eq s,zIL hn Ss k3 s]
 have hCs: ∀ s∈C,s∈syms:=fun s hs=>by
  obtain⟨Z,hZ,hsZ⟩:=List.mem_flatten.1 (k2.subset hs);obtain⟨r,hr⟩:=k3 Z hZ;exact (zMD hn hr).2 s hsZ
 have hk:zY syms (fun s=>2 ^ (16-C.count s))≤2 ^ 16:=by
  have:=zJL hn Ss k3;rw[k4,k1] at this;have e:zY syms (fun s=>2 ^ (15+1-qJ Ss s))=zY syms (fun s=>2 ^ (16-C.count s)):=zCU (fun s _=>by rw[hcount]);rw[e] at this
  have e2:syms.length*2 ^ (15+1)=(2*syms.length-2)*2 ^ 15+2 ^ 16:=by
   have:2*syms.length=(2*syms.length-2)+2:=by omega
   rw[show syms.length*2 ^ (15+1)=(2*syms.length)*2 ^ 15 by rw[Nat.pow_succ];omega,this,Nat.add_mul];simp
  omega
 have hle: ∀ s,C.count s≤16:=fun s=>by rw[hcount];have:=zMV Ss s;omega
 have hone: ∀ s∈syms,1≤C.count s:=fun s hs=>by
  rcases Nat.eq_zero_or_pos (C.count s) with h0 | h0
  ·exfalso
   obtain⟨a,b,rfl⟩:=List.append_of_mem hs;have hl:1≤(a++b).length:=by simp at h2 ⊢;omega
   rw[zMK (List.perm_middle:(a++s::b).Perm (s::(a++b)))] at hk;have e:zY (s::(a++b)) (fun s=>2 ^ (16-C.count s))=2 ^ (16-C.count s)+zY (a++b) (fun s=>2 ^ (16-C.count s)):=rfl;have hp:zY (a++b) (fun _=>1)≤zY (a++b) (fun s=>2 ^ (16-C.count s)):=zGs (fun _ _=>Nat.pos_of_ne_zero (by simp));rw[zAP] at hp;rw[e,h0] at hk;omega
  ·exact h0
 have hF:zY syms (fun s=>wt s*C.count s)=F:=by
  rw[←zGH hn wt C hCs, ←zJu _ (fun p hp=>zNR hS h 15 p (List.mem_of_mem_take hp))];show _=((((P 15).map (·.1)).take (2*syms.length-2))).sum
  rw[List.map_take]
 refine⟨hCs,fun s hs=>⟨hone s hs,hle s⟩,hk,hF,fun hfar=> ?_⟩;have hws:(S.map (·.1)).length=syms.length:=by rw[List.length_map,hS.length_eq,List.length_map]
 have hR:Rows (S.map (·.1)) (fun f=>(P f).map (·.1)):=⟨by rw[h.zero],hs,fun f=>by
  have:=(h.next f).map (·.1);rw[List.map_append,zEW] at this
  exact this⟩
 -- the table's road of the packages' own lengths
 have hsor:(S.map (·.1)).Pairwise (· ≤ ·):=by have:=hs 0;rwa [h.zero] at this
 let X:List (Nat×Nat):=syms.map fun s=>(wt s,C.count s-1)
 have hXp:Part (S.map (·.1)) X:=⟨[],by
  rw[List.append_nil];have:=hS.map (·.1);rw[List.map_map] at this;rw[List.map_map]
  exact this⟩
 have hX1: ∀ x∈X,x.2≤15:=fun x hx=>by
  obtain⟨s,hs,rfl⟩:=List.mem_map.1 hx;have:=hle s;show C.count s-1≤15
  omega
 have hXk:zBA 15 X≤2*2 ^ 15:=by
  have e:zBA 15 X=zY syms (fun s=>2 ^ (16-C.count s)):=by
   unfold zBA;rw[List.map_map]
   have:syms.map ((fun x:Nat×Nat=>2 ^ (15-x.2)) ∘ fun s=>(wt s,C.count s-1))=syms.map fun s=>2 ^ (16-C.count s):=List.map_congr_left (fun s hs=>by
    have:=hone s hs;show 2 ^ (15-(C.count s-1))=_
    congr 1
    omega)
   rw[this];rfl
  rw[e];exact hk
 have hXl:X.length=syms.length:=List.length_map _;have hi:=D_high hsor far 15 X 2 hXp hX1 hXk;rw[hXl] at hi
 have hcost:pre (S.map (·.1)) syms.length+cost X=F:=by
  have e1:pre (S.map (·.1)) syms.length=zY syms wt:=by
   rw[←hws,pre_all,(hS.map (·.1)).sum_nat,List.map_map];rfl
  have e2:cost X=zY syms (fun s=>wt s*(C.count s-1)):=by
   unfold cost;rw[List.map_map];rfl
  rw[e1,e2, ←zFg, ←hF];refine zCU (fun s hs=> ?_);have:=hone s hs;obtain⟨c,hc⟩: ∃ c,C.count s=c+1:=⟨C.count s-1,by omega⟩
  rw[hc,Nat.add_sub_cancel,Nat.mul_add];omega
 have hlow:D (pre (S.map (·.1))) far 15 (S.map (·.1)).length 2<far→pre ((P 15).map (·.1)) (2*(S.map (·.1)).length-2)≤pre (S.map (·.1)) (S.map (·.1)).length+D (pre (S.map (·.1))) far 15 (S.map (·.1)).length 2:=fun hf=>low hR far 14 (by omega) hf
 rw[hws] at hlow;have hlow2:=hlow (by omega);show pre (S.map (·.1)) syms.length+_=F
 have hF2:F=pre ((P 15).map (·.1)) (2*syms.length-2):=rfl;omega
end Go.Proofs.YtkggcjdlpendfaaGreatDoor.BM
namespace Go.Proofs.YtkggcjdlpendfaaGreatDoor
open Go.RowKit
section
open SM
abbrev FPk:=BM.Pack×Value
def zBc (q:FPk):Pk:=((q.1.1:Int),q.2)
def IntsAt (w:World) (v:Value) (xs:List Int):Prop:=SL w 1 v xs.length (ints xs)∧ ∀ b,v.ownBlock=some b→ ∃ cs,Blk w b 3 cs
def pack_ne:3≠188:=by decide
def zNh {w:World} {b:Nat} {T U:TypeId} {cs ds:Array Value} (h:Blk w b T cs) (k:Blk w b U ds):T=U:=by
 unfold Blk at h k;rw[h] at k;injection k with k
 injection k
def zGb {w:World} {b:Nat} {cs ds:Array Value} (h:Blk w b 188 ds): ¬Blk w b 3 cs:=fun k=>pack_ne (zNh k h)
def IntsAt.ext {w w':World} {v:Value} {xs:List Int} (h:IntsAt w v xs) (hx:Ext w w'):IntsAt w' v xs :=
 ⟨h.1.ext hx,fun b hb=>by obtain⟨cs,k⟩:=h.2 b hb;exact⟨cs,k.ext hx⟩⟩
def IntsAt.upd {S:Nat→Prop} {w w':World} {v:Value} {xs:List Int} (h:IntsAt w v xs) (hu:Upd S w w') (hS: ∀ b cs,S b→ ¬Blk w b 3 cs):IntsAt w' v xs:=by
 have hne: ∀ b cs,Blk w b 3 cs→ ¬S b:=fun b cs k hs=>hS b cs hs k
 obtain⟨h1,h2⟩:=h;have h1':=h1;obtain⟨A,c,rfl, -⟩:=h1';refine⟨h1.upd hu fun ad e=> ?_,fun b hb=> ?_⟩
 ·subst e;obtain⟨cs,k⟩:=h2 ad.block rfl;exact hne _ _ k
 ·obtain⟨cs,k⟩:=h2 b hb;exact⟨cs,hu.blk k (hne b cs k)⟩
def IntsAt.own {w:World} {B n:Nat} {v:Value} {xs:List Int} (h:w.ownsRow B 3 1 v n (ints xs)) (hn:xs.length=n):IntsAt w v xs:=by
 obtain⟨A,c,rfl,h1, -⟩:=zAG h;exact⟨by rw[hn];exact h1,zDI h⟩
def IntsAt.lit {w:World} {g:Nat} {x:Int} (h:Blk w g 3 #[.int .i64 x]):IntsAt w (.slice (some ⟨g,0,none⟩) 1 1) [x]:=by
 refine⟨⟨_,_,rfl,by simp,by omega,rfl,fun _=>⟨_,rfl,h.lt,fun j u hu=> ?_⟩⟩,fun b hb=> ?_⟩
 ·rw[zBx,wB2,h.cell, ←hu];simp[ints]
 ·have e:b=g:=by simpa [Value.ownBlock] using hb.symm
  subst e;exact⟨_,h⟩
def AllAt (w:World) (Q:List FPk):Prop:= ∀ q∈Q,IntsAt w q.2 q.1.2
def AllAt.ext {w w':World} {Q:List FPk} (h:AllAt w Q) (hx:Ext w w'):AllAt w' Q:=fun q hq=>(h q hq).ext hx
def AllAt.upd {S:Nat→Prop} {w w':World} {Q:List FPk} (h:AllAt w Q) (hu:Upd S w w') (hS: ∀ b cs,S b→ ¬Blk w b 3 cs):AllAt w' Q:=fun q hq=>(h q hq).upd hu hS
def AllAt.ones {w:World} {Q:List FPk} (h:AllAt w Q):OnesP (Q.map zBc):=by
 intro p hp;obtain⟨q,hq,rfl⟩:=wD6.1 hp;obtain⟨⟨A,c,e, -⟩, -⟩:=h q hq;show q.2.oneCell'=true
 rw[e];rfl
def zEB {L:List Pk} (h:OnesP L): ∀ u∈vG L,u.oneCell'=true:=by
 intro u hu;obtain⟨p,hp,hu⟩:=wP1.1 hu;simp at hu;rcases hu with rfl | rfl
 ·rfl
 ·exact h p hp
structure OwnP (w:World) (B:Nat) (C:Option Addr) (m k:Nat) (Q:List FPk):Prop where
 len:Q.length=m
 own:w.ownsRow B 188 2 (.slice C m k) m (vG (Q.map zBc))
 all:AllAt w Q
def OwnP.nil (w:World) (B:Nat):OwnP w B none 0 0 []:=⟨rfl,zAt _ _ _ _,fun _ h=>by cases h⟩
def OwnP.ext {w w':World} {B m k:Nat} {C:Option Addr} {Q:List FPk} (h:OwnP w B C m k Q) (hx:Ext w w'):OwnP w' B C m k Q:=⟨h.len,yR h.own hx,h.all.ext hx⟩
def OwnP.sl {w:World} {B m k:Nat} {C:Option Addr} {Q:List FPk} (h:OwnP w B C m k Q):SL w 2 (.slice C m k) m (vG (Q.map zBc)):=(jF h.own).1
def OwnP.typed {w:World} {B m k:Nat} {C:Option Addr} {Q:List FPk} (h:OwnP w B C m k Q): ∀ b,(Value.slice C m k).ownBlock=some b→ ∃ cs,Blk w b 188 cs:=zDI h.own
def OwnP.addr {w:World} {B m k:Nat} {C:Option Addr} {Q:List FPk} (h:OwnP w B C m k Q) (hm:0<m): ∃ g,C=some ⟨g,0,none⟩∧B≤g:=by
 rcases h.own.2 with ⟨-,h0⟩ | ⟨g,cap,cur,e,hb, -⟩
 ·omega
 ·injection e with e1 e2 e3
  exact⟨g,e1,hb⟩
def OwnP.ds {w:World} {B m k g:Nat} {Q:List FPk} (h:OwnP w B (some ⟨g,0,none⟩) m k Q): ∃ tl,DS w g (Q.map zBc) tl∧2*m+tl.length=k*2∧m≤k∧k≤maxLen∧B≤g:=by
 obtain⟨hl,own, -⟩:=h;rcases own.2 with ⟨e, -⟩ | ⟨g',cap,cur,e,hb,hg,h1,h2,h3,h4⟩
 ·injection e with e;cases e
 ·injection e with e1 e2 e3
  injection e1 with e1
  injection e1 with e1
  subst e1 e3;refine⟨cur.toList.drop (m*2), ?_, ?_,h1,h2,hb⟩
  ·unfold DS Blk;rw[←h4,wL9];exact hg
  ·rw[wK1,Array.length_toList];omega
def OwnP.of_ds {w:World} {B m k g:Nat} {Q:List FPk} {tl:List Value} (hl:Q.length=m) (hD:DS w g (Q.map zBc) tl) (h1:2*m+tl.length=k*2) (h2:m≤k) (h3:k≤maxLen) (hB:B≤g) (ha:AllAt w Q):OwnP w B (some ⟨g,0,none⟩) m k Q:=by
 have hc:(vG (Q.map zBc)).length=m*2:=by rw[zEl,wQ3,hl];omega
 exact⟨hl,⟨hc,.inr ⟨g,k,_,rfl,hB,hD,h2,h3,by simp;omega,by rw[←hc];simp⟩⟩,ha⟩
def OwnP.upd {S:Nat→Prop} {w w':World} {B m k:Nat} {C:Option Addr} {Q:List FPk} (h:OwnP w B C m k Q) (hu:Upd S w w') (hS: ∀ b cs,S b→ ¬Blk w b 3 cs) (hC: ∀ ad,C=some ad→ ¬S ad.block):OwnP w' B C m k Q :=
 ⟨h.len,vM h.own hu (fun x hx=>by
  cases C with
  | none=>simp[Value.ownBlock] at hx
  | some ad =>
    have e:ad.block=x:=by simpa [Value.ownBlock] using hx
    rw[←e]
    exact hC ad rfl),h.all.upd hu hS⟩
def zLJ:Elt Tryz.prog 189 188 2 32:=⟨Tryz.underlying189,by kernel_rfl,by omega⟩
def OwnP.app {w w':World} {B m k j:Nat} {C A:Option Addr} {k':Nat} {Q R:List FPk} (h:OwnP w B C m k Q) (hR:AllAt w R) (hj:R.length=j) (ho:w'.ownsRow B 188 2 (.slice A (m+j) k') (m+j) (vG (Q.map zBc)++vG (R.map zBc))) (hg:w.grownBy w' (Value.slice C m k).ownBlock):OwnP w' B A (m+j) k' (Q++R):=by
 have hu:=zO hg;have ht: ∀ b cs,(Value.slice C m k).ownBlock=some b→ ¬Blk w b 3 cs:=fun b cs hb=>by obtain⟨ds,k⟩:=h.typed b hb;exact zGb k
 refine⟨by rw[wF3,h.len,hj],by rw[wH4,zLz];exact ho,fun q hq=> ?_⟩;rcases wE6.1 hq with hq | hq
 ·exact (h.all q hq).upd hu (fun b cs hb=>ht b cs hb)
 ·exact (hR q hq).upd hu (fun b cs hb=>ht b cs hb)
def zIv {M:List Pk} {n:Nat} (hn:M.length=n) (h:Sorted pk0 pw M 0 n):(M.map Prod.fst).Pairwise (· ≤ ·):=by
 rw[wQ7,wQ8];intro i j hi hj hij;have:=h i j (wN2 _) hij (by omega)
 rwa [zAC M i hi,zAC M j hj] at this
def zQF {Q:List FPk} (h:((Q.map zBc).map Prod.fst).Pairwise (· ≤ ·)):(Q.map (·.1.1)).Pairwise (· ≤ ·):=by
 rw[wM1,wQ7] at h;rw[wQ7];exact h.imp (fun {a b} hab=>by simpa [zBc] using hab)
def zMy {B m k g:Nat} {Q:List FPk} {w:World} (h:OwnP w B (some ⟨g,0,none⟩) m k Q) (hm:m≤1000000) :
 Calls Tryz.prog 147 #[.slice (some ⟨g,0,none⟩) m k,.func (.func 148) #[] #[]] w fun e w'=>e=.returned (.tuple #[])∧ ∃ Q',OwnP w' B (some ⟨g,0,none⟩) m k Q'∧Q'.Perm Q∧(Q'.map (·.1.1)).Pairwise (· ≤ ·)∧Upd (fun x=>x=g) w w':=by
 obtain⟨tl,hD,h1,h2,h3,hB⟩:=h.ds;refine (sort_any g (Q.map zBc) tl m k w (by rw[wQ3,h.len]) hm h.all.ones hD).mono ?_;rintro e w' ⟨rfl,M,hD',hseg,hsor,hu⟩;obtain⟨Q',hp,e⟩:=BM.perm_lift zBc hseg.perm Q rfl;subst e;have hl':Q'.length=m:=hp.length_eq.trans h.len;refine⟨rfl,Q',OwnP.of_ds hl' hD' h1 h2 h3 hB ?_,hp,zQF (zIv (by rw[wQ3,hl']) hsor),hu⟩;have ha:=h.all.upd hu (fun b cs hb=>by subst hb;exact zGb hD);exact fun q hq=>ha q (hp.subset hq)
def zRw {B m k:Nat} {C:Option Addr} {Q:List FPk} {w:World} (h:OwnP w B C m k Q) (h0:0<m) (hm:m≤1000000) :
 Calls Tryz.prog 149 #[.slice C m k] w fun e w'=> ∃ g k',e=.returned (.slice (some ⟨g,0,none⟩) m k')∧OwnP w' w.heap.size (some ⟨g,0,none⟩) m k' Q∧Ext w w':=by
 have HS:=zA (fun W (hx:Ext w W)=>h.sl.ext hx);have HO:=zA (zEB h.all.ones);obtain⟨g0,rfl, -⟩:=h.addr h0
 have HQ:Hid (∀ w1 w' A k',Ext w w1→OwnP w1 w.heap.size (some ⟨w.heap.size,0,none⟩) 0 0 []→w'.ownsRow w.heap.size 188 2 (.slice A (0+m) k') (0+m) ([]++vG (Q.map zBc))→w1.grownBy w' (Value.slice (some ⟨w.heap.size,0,none⟩) 0 0).ownBlock→ ∃ g,A=some ⟨g,0,none⟩∧OwnP w' w.heap.size (some ⟨g,0,none⟩) m k' Q):=zA (fun w1 w' A k' hx ho h1 h2=>by
  have hq:=ho.app (h.all.ext hx) h.len h1 h2;rw[wB2,wL5] at hq;obtain⟨g,rfl, -⟩:=hq.addr h0
  exact⟨g,rfl,hq⟩)
 have hE:(w.alloc (.cells #[] 188)).ownsRow w.heap.size 188 2 (.slice (some ⟨w.heap.size,0,none⟩) 0 0) 0 []:=⟨rfl,.inr ⟨_,0, #[],rfl,wA5 _,heap_alloc_new w _,wA5 _,by unfold maxLen;omega,rfl,rfl⟩⟩
 have hnil: ∀ W,(binOp .eql 189 (.slice (some ⟨g0,0,none⟩) m k) (.slice none 0 0)).run Tryz.prog W=.ok (.bool false) W:=fun W=>Lib.run_eql_slice_some_nil W _ _ _ Tryz.underlying189
 generalize vG (Q.map zBc)=cs at *;go_enter Tryz.func149,Tryz.ntmps149
 go_wp2_with (first
  | ((with_reducible apply gS 7);refine wApf zLJ rfl _ _ rfl w.heap.size _ _ _ rfl hE _ m cs rfl (HS.out _ ((Ext.refl w).alloc _)) HO.out (by omega) (by omega) (by simp) ?_;intro A5 k5 w5 ho5 hg5 hr5))
 obtain⟨g,rfl,hq⟩:=HQ.out _ _ _ _ ((Ext.refl w).alloc _) ⟨rfl,hE,fun _ h=>by cases h⟩ ho5 hg5;go_ret;exact⟨g,k5,rfl,hq,(zO hg5).ext ((Ext.refl w).alloc _) (fun x h=>by have h:some w.heap.size=some x:=h;injection h with h;omega)⟩
end
end Go.Proofs.YtkggcjdlpendfaaGreatDoor
namespace Go.Proofs.YtkggcjdlpendfaaGreatDoor.BM
def singN (cs:List Int):Nat→List Pack
 | 0=>[(0,[-1])]
 | i+1=>singN cs i++(if 0<cs.getD i 0 then [((cs.getD i 0).toNat,[(i:Int)])] else [])
def singN_mem (cs:List Int) (h: ∀ z∈cs,z≤9999): ∀ i, ∀ p∈singN cs i,p.2.length=1∧p.1≤9999
 | 0,p,hp=>by simp[singN] at hp;subst hp;simp
 | i+1,p,hp=>by
   rw[singN,List.mem_append] at hp;rcases hp with hp | hp
   ·exact singN_mem cs h i p hp
   ·split at hp
    ·have e:p=((cs.getD i 0).toNat,[(i:Int)]):=by simpa using hp
     subst e;refine⟨rfl, ?_⟩;rename_i hpos;rw[List.getD_eq_getElem?_getD] at hpos ⊢
     cases hq:cs[i]? with
     | none=>rw[hq] at hpos;simp at hpos
     | some z=>have:=h z (List.mem_of_getElem? hq);simp;omega
    ·cases hp
inductive Reach (S:List Pack):Nat→List Pack→Prop
 | zero:Reach S 0 S
 | step {f:Nat} {L L':List Pack}:Reach S f L→L'.Perm (pairP L++S)→(L'.map (·.1)).Pairwise (· ≤ ·)→Reach S (f+1) L'
def lenF (n:Nat):Nat→Nat
 | 0=>n
 | f+1=>lenF n f/2+n
def lenF_bd (n:Nat): ∀ f,n≤lenF n f∧lenF n f≤2*n
 | 0=>by unfold lenF;omega
 | f+1=>by have:=lenF_bd n f;unfold lenF;omega
def lenF_15: ∀ n,n≤257→2*n-2≤lenF n 15:=by
 have h: ∀ n:Fin 258,2*n.val-2≤lenF n.val 15:=by decide+kernel
 exact fun n hn=>h ⟨n,by omega⟩
def pairP_len (L:List Pack):(pairP L).length=L.length/2:=by
 have:=congrArg List.length (zEW L);rw[List.length_map,zFj,List.length_map] at this;exact this
def Reach.len {S:List Pack}: ∀ {f L},Reach S f L→L.length=lenF S.length f
 | _,_,.zero=>rfl
 | _,_,.step h hp _=>by rw[hp.length_eq,List.length_append,pairP_len,h.len];rfl
def zJH: ∀ (L:List Pack) (p:Pack),p∈pairP L→ ∃ x∈L, ∃ y∈L,p=(x.1+y.1,x.2++y.2)
 | [],p,h=>by simp[pairP] at h
 | [_],p,h=>by simp[pairP] at h
 | x::y::r,p,h=>by
   rw[pairP,List.mem_cons] at h;rcases h with h | h
   ·exact⟨x,by simp,y,by simp,h⟩
   ·obtain⟨a,ha,b,hb,e⟩:=zJH r p h;exact⟨a,by simp[ha],b,by simp[hb],e⟩
def Reach.bound {S:List Pack} (hS: ∀ p∈S,p.2.length≤1∧p.1≤9999): ∀ {f L},Reach S f L→ ∀ p∈L,p.2.length≤2 ^ f∧p.1≤9999*2 ^ f
 | _,_,.zero,p,hp=>by have:=hS p hp;simpa using this
 | f+1,_,.step h hp _,p,hm=>by
   have hpos:0<2 ^ f:=Nat.two_pow_pos f;have h1:=hp.subset hm;rw[Nat.pow_succ];rcases List.mem_append.1 h1 with h1 | h1
   ·obtain⟨x,hx,y,hy,e⟩:=zJH _ _ h1;have a:=h.bound hS x hx;have b:=h.bound hS y hy;subst e;simp only[List.length_append];omega
   ·have:=hS p h1;omega
def nextP (S L:List Pack):List Pack:=(pairP L++S).mergeSort (fun a b=>decide (a.1≤b.1))
def zLr (S L:List Pack):(nextP S L).Perm (pairP L++S):=List.mergeSort_perm _ _
def zIa (S L:List Pack):((nextP S L).map (·.1)).Pairwise (· ≤ ·):=by
 rw[List.pairwise_map];refine (List.pairwise_mergeSort (le:=fun a b:Pack=>decide (a.1≤b.1)) (fun a b c h1 h2=>by simp at h1 h2 ⊢;omega) (fun a b=>by simp;omega) _).imp ?_;intro a b h;simpa using h
def zGt (S L:List Pack):Nat→List Pack
 | 0=>L
 | g+1=>nextP S (zGt S L g)
def Reach.rows {S:List Pack} (hs:(S.map (·.1)).Pairwise (· ≤ ·)): ∀ {f L},Reach S f L→ ∃ P,PRows S P∧(∀ g,((P g).map (·.1)).Pairwise (· ≤ ·))∧P f=L
 | _,_,.zero=>⟨zGt S S,⟨rfl,fun g=>zLr S _⟩,fun g=>(by cases g with | zero=>exact hs | succ g=>exact zIa S _),rfl⟩
 | f+1,L',.step h hp hso=>by
   obtain⟨P,h1,h2,h3⟩:=h.rows hs;refine⟨fun g=>if g≤f then P g else zGt S L' (g-(f+1)),⟨?_,fun g=> ?_⟩,fun g=> ?_, ?_⟩
   ·show (if 0≤f then P 0 else _)=S
    rw[if_pos (Nat.zero_le _)];exact h1.zero
   ·show (if g+1≤f then P (g+1) else zGt S L' (g+1-(f+1))).Perm (pairP (if g≤f then P g else zGt S L' (g-(f+1)))++S)
    by_cases hg:g+1≤f
    ·rw[if_pos hg,if_pos (by omega)];exact h1.next g
    ·rw[if_neg hg]
     by_cases hg2:g≤f
     ·obtain rfl:g=f:=by omega
      rw[if_pos (Nat.le_refl _),h3,show g+1-(g+1)=0 by omega];exact hp
     ·rw[if_neg hg2,show g+1-(f+1)=(g-(f+1))+1 by omega];exact zLr S _
   ·show ((if g≤f then P g else zGt S L' (g-(f+1))).map (·.1)).Pairwise (· ≤ ·)
    split
    ·exact h2 g
    ·cases g-(f+1) with
     | zero=>exact hso
     | succ q=>exact zIa S _
   ·show (if f+1≤f then _ else zGt S L' (f+1-(f+1)))=L'
    rw[if_neg (by omega),Nat.sub_self];rfl
def zNg: ∀ (L:List Pack) (j:Nat) (h:2*j+1<L.length),(pairP L)[j]? =some ((L[2*j]'(by omega)).1+L[2*j+1].1,(L[2*j]'(by omega)).2++L[2*j+1].2)
 | [],j,h=>by simp at h
 | [_],j,h=>by simp at h
 | x::y::r,0,h=>by simp[pairP]
 | x::y::r,j+1,h=>by
   have:=zNg r j (by simp at h;omega);rw[pairP,List.getElem?_cons_succ,this];simp[show 2*(j+1)=2*j+1+1 by omega]
def pairP_take {L:List Pack} {j:Nat} (h:2*j+1<L.length):(pairP L).take (j+1)=(pairP L).take j++[((L[2*j]'(by omega)).1+L[2*j+1].1,(L[2*j]'(by omega)).2++L[2*j+1].2)]:=by
 have hg:=zNg L j h;obtain⟨hj,e⟩:=List.getElem?_eq_some_iff.1 hg;rw[List.take_succ_eq_append_getElem hj,e]
def filt (f:Int→Nat) (k i:Nat):List Int:=((List.range i).map Int.ofNat).filter fun s=>decide (f s=k+1)
def zFi (f:Int→Nat) (k i:Nat):filt f k (i+1)=filt f k i++(if f (i:Int)=k+1 then [(i:Int)] else []):=by
 unfold filt;rw[List.range_succ,List.map_append,List.filter_append];congr 1
 by_cases h:f (i:Int)=k+1
 ·simp[h]
 ·simp[h]
def filt_len (f:Int→Nat) (k i:Nat):(filt f k i).length≤i:=by
 unfold filt;exact Nat.le_trans (List.length_filter_le _ _) (by simp)
def csN (f:Int→Nat) (n k i:Nat):List Int:=(List.range 16).map fun j=>if j<k then ((filt f j n).length:Int) else if j=k then ((filt f k i).length:Int) else 0
def xsN (f:Int→Nat) (n k i:Nat):List Int:=(List.range k).flatMap (fun j=>filt f j n)++filt f k i
def csN_len (f:Int→Nat) (n k i:Nat):(csN f n k i).length=16:=by simp[csN]
def csN_zero (f:Int→Nat) (n:Nat):csN f n 0 0=List.replicate 16 0:=by
 rw[List.eq_replicate_iff];refine⟨csN_len f n 0 0,fun b hb=> ?_⟩;obtain⟨j, -,rfl⟩:=List.mem_map.1 hb;simp[filt]
def csN_next (f:Int→Nat) (n k:Nat):csN f n k n=csN f n (k+1) 0:=by
 unfold csN;refine List.map_congr_left fun j _=> ?_
 by_cases h1:j<k
 ·rw[if_pos h1,if_pos (by omega)]
 ·rw[if_neg h1]
  by_cases h2:j=k
  ·rw[if_pos h2,if_pos (by omega),h2]
  ·rw[if_neg h2,if_neg (by omega)];split
   ·simp[filt]
   ·rfl
def zJQ (f:Int→Nat) (n k i j:Nat) (hj:j<(csN f n k i).length):(csN f n k i)[j]=if j<k then ((filt f j n).length:Int) else if j=k then ((filt f k i).length:Int) else 0:=by
 simp[csN]
def csN_at (f:Int→Nat) (n k i:Nat) (hk:k<16):(csN f n k i)[k]'(by rw[csN_len];exact hk)=((filt f k i).length:Int):=by
 simp[csN]
def csN_keep (f:Int→Nat) (n k i:Nat) (h:f (i:Int)≠k+1):csN f n k (i+1)=csN f n k i:=by
 unfold csN;rw[zFi,if_neg h,List.append_nil]
def csN_set (f:Int→Nat) (n k i:Nat) (h:f (i:Int)=k+1):(csN f n k i).set k (((filt f k i).length:Int)+1)=csN f n k (i+1):=by
 apply List.ext_getElem
 ·rw[List.length_set,csN_len,csN_len]
 ·intro j h1 h2;rw[List.getElem_set,zJQ,zJQ]
  by_cases hj:k=j
  ·subst hj;rw[if_pos rfl,if_neg (by omega),if_pos rfl,zFi,if_pos h,List.length_append];simp
  ·rw[if_neg hj]
   by_cases h1:j<k
   ·rw[if_pos h1,if_pos h1]
   ·rw[if_neg h1,if_neg h1,if_neg (by omega),if_neg (by omega)]
def xsN_next (f:Int→Nat) (n k:Nat):xsN f n k n=xsN f n (k+1) 0:=by
 unfold xsN;rw[List.range_succ,List.flatMap_append];simp[filt]
def xsN_keep (f:Int→Nat) (n k i:Nat) (h:f (i:Int)≠k+1):xsN f n k (i+1)=xsN f n k i:=by
 unfold xsN;rw[zFi,if_neg h,List.append_nil]
def xsN_snoc (f:Int→Nat) (n k i:Nat) (h:f (i:Int)=k+1):xsN f n k (i+1)=xsN f n k i++[(i:Int)]:=by
 unfold xsN;rw[zFi,if_pos h,List.append_assoc]
def xsN_len (f:Int→Nat) (n:Nat): ∀ k i,(xsN f n k i).length≤k*n+i
 | k,i=>by
   unfold xsN;rw[List.length_append]
   have h1: ∀ k,((List.range k).flatMap (fun j=>filt f j n)).length≤k*n:=fun k=>by
    induction k with
    | zero=>simp
    | succ k ih =>
      rw[List.range_succ,List.flatMap_append,List.length_append,Nat.add_mul,Nat.one_mul];have:=filt_len f k n;simp;simp at ih;omega
   have:=h1 k;have:=filt_len f k i;omega
def Made (counts cs xs:List Int):Prop :=
 ∃ S L,S.Perm (singN counts counts.length)∧(S.map (·.1)).Pairwise (· ≤ ·)∧Reach S 15 L ∧
  cs=csN (fun s=>(cont (L.take (2*S.length-2))).count s) counts.length 16 0∧xs=xsN (fun s=>(cont (L.take (2*S.length-2))).count s) counts.length 16 0
end Go.Proofs.YtkggcjdlpendfaaGreatDoor.BM
namespace Go.Proofs.YtkggcjdlpendfaaGreatDoor
open Go.RowKit
def zHK:Elt Tryz.prog 22 3 1 8:=⟨Tryz.underlying22,by kernel_rfl,by omega⟩
def infoI: ∃ i z,Tryz.prog.info? 3=some i∧i.zero=some z∧z.cells.size=1∧i.size=1∧i.bytes=8:=by
 have h:=(zHK).hi
 cases hq:Tryz.prog.info? 3 with
 | none=>rw[hq] at h;cases h
 | some i =>
   rw[hq] at h;simp at h;obtain⟨⟨z,hz,hzs⟩,hs,hb⟩:=h;exact⟨i,z,rfl,hz,hzs,hs,hb⟩
def grow_any (n:Nat) (w:World) (hn:n≤1000000000) :
 Calls Tryz.prog 183 #[.slice none 0 0,.int .i64 (n:Int)] w fun e w'=> ∃ A c,e=.returned (.slice A 0 c)∧w'.ownsRow w.heap.size 3 1 (.slice A 0 c) 0 []∧Ext w w':=by
 have e0:IntKind.i64.wrap (n:Int)=(n:Int):=IntWalk.i64_in _ (by omega)
 by_cases h0:0<n
 ·obtain⟨i,z,hi,hz,hzs,hs,hb⟩:=infoI;obtain⟨G,hG⟩: ∃ G,grownCap w n 0 3=G:=⟨_,rfl⟩
  have hge:=grownCap_ge w n 0 3;have hle:=grownCap_le_maxLen w n 0 3 (by unfold maxLen;omega);rw[hG] at hge hle;have hr:=fun ty=>Lib.run_append_nil_zeros w 22 3 ty 3 i z .i64 .i64 Tryz.underlying22 Tryz.underlying3 hi hz n h0 (by omega) (by omega) (by rw[hb];omega)
  rw[hG] at hr;obtain⟨cells,hcells⟩: ∃ cells,Builtin.zeroCells z.cells n++Builtin.zeroCells z.cells (G-n)=cells:=⟨_,rfl⟩
  rw[hcells] at hr
  have hcs:cells.size=G:=by
   rw[←hcells,Array.size_append,size_zeroCells,size_zeroCells,hzs];omega
  have hown:(w.drew.alloc (.cells cells 3)).ownsRow w.heap.size 3 1 (.slice (some ⟨w.heap.size,0,none⟩) 0 G) 0 [] :=
   ⟨rfl,.inr ⟨w.heap.size,G,cells,rfl,wA5 _,heap_alloc_new w.drew _,wN2 _,hle,by rw[hcs];omega,by simp⟩⟩
  have HOWN:=zA hown;have HR:=zA hr;unfold maxLen at hle;clear hr hown hcells hcs hG hi hz hzs hs hb;go_enter Tryz.func183,Tryz.ntmps183
  go_wp2_with (first
   | ((with_reducible apply gS 6);refine zB rfl (.bool false) (zZ rfl rfl rfl (by simp;omega)) ?_)
   | ((with_reducible apply gS 14);refine zB rfl (.int .i64 (n:Int)) (zMr rfl rfl rfl (by omega) (by omega)) ?_)
   | ((with_reducible apply gS 16);refine zB rfl (.bool true) (xU rfl rfl rfl (by simp;omega)) ?_)
   | ((with_reducible apply gS 22);refine Lib.wpList_append_run _ rfl _ _ _ _ rfl _ _ rfl rfl _ _ (HR.out _) ?_))
  go_ret;exact⟨_,_,rfl,HOWN.out,(Ext.refl w).drew.alloc _⟩
 ·obtain rfl:n=0:=by omega
  have hown:w.ownsRow w.heap.size 3 1 (.slice none 0 0) 0 []:=zAt _ _ _ _;go_enter Tryz.func183,Tryz.ntmps183;go_wp2
  go_ret;exact⟨_,_,rfl,hown,Ext.refl w⟩
def zSG (xs ys:List Int) (A B:Option Addr) (a b c d g:Nat) (w:World) (ha:xs.length=a) (hb:ys.length=b) (hal:a≤100000000) (hbl:b≤100000000) (hA:SL w 1 (.slice A a c) a (ints xs)) (hB:SL w 1 (.slice B b d) b (ints ys)) (hg:Blk w g 22 #[.slice A a c,.slice B b d]) :
 Calls Tryz.prog 150 #[.slice (some ⟨g,0,none⟩) 2 2] w fun e w'=> ∃ C k,e=.returned (.slice C (a+b) k)∧w'.ownsRow w.heap.size 3 1 (.slice C (a+b) k) (a+b) (ints (xs++ys))∧Ext w w':=by
 have HO:=zA (qY xs);have HO2:=zA (qY ys);have HAP:Hid (ints xs++ints ys=ints (xs++ys)):=zA (by simp[ints]);have HG:=zA (fun W=>grow_any (a+b) W (by omega));have g0:=hg.cell 0;have g1:=hg.cell 1;obtain⟨n,hab⟩: ∃ n,a+b=n:=⟨_,rfl⟩
 have HN:=zA hab;rw[hab] at HG ⊢;generalize ints xs=X at *;generalize ints ys=Y at *;generalize ints (xs++ys)=XY at *;clear ha hb;go_enter Tryz.func150,Tryz.ntmps150;go_upto_region 3 with fail
 go_loopw [3,11] (fun sv iv wr=>((iv=.int .i64 0∧sv=.int .i64 0)∨(iv=.int .i64 1∧sv=.int .i64 (a:Int))∨(iv=.int .i64 2∧sv=.int .i64 (n:Int)))∧wr=w) (fun _ i _=>2-(intOf i).toNat)
 case atStart=>exact⟨.inl ⟨rfl,rfl⟩,rfl⟩
 case round =>
  obtain⟨h,hw⟩:=hrel;have hw':=hw.symm;subst hw';clear hw;rcases h with ⟨rfl,rfl⟩ | ⟨rfl,rfl⟩ | ⟨rfl,rfl⟩
  ·go_wp2_with (first
    | ((with_reducible apply gS 18);refine zB rfl (.int .i64 (a:Int)) (ex_addI rfl rfl rfl (by omega) (by omega)) ?_)
    | ((with_reducible apply gS 20);refine zB rfl (.bool false) (zZ rfl rfl rfl (by simp;omega)) ?_))
   go_roundw
   case rel=>exact⟨.inr (.inl ⟨by go_num,by first | rfl | trivial⟩),by first | rfl | trivial⟩
   case measure=>simp[intOf]
  ·go_wp2_with (first
    | ((with_reducible apply gS 18);refine zB rfl (.int .i64 (n:Int)) (by rw[←hab];exact yH rfl rfl rfl (by omega)) ?_)
    | ((with_reducible apply gS 20);refine zB rfl (.bool false) (zZ rfl rfl rfl (by simp;omega)) ?_))
   go_roundw
   case rel=>exact⟨.inr (.inr ⟨by go_num,by first | rfl | trivial⟩),by first | rfl | trivial⟩
   case measure=>simp[intOf]
  ·go_upto_region 11 with (go_at_call 183;(with_reducible refine (HG.out _).mono ?_);rintro e w1 ⟨C0,k0,rfl,ho1,hx1⟩)
   have hsz:=hx1.size
   go_loopw [6,27] (fun sv iv wr=>(∃ (C:Option Addr) (k m:Nat) (Z:List Value),((iv=.int .i64 0∧0=m∧[]=Z)∨(iv=.int .i64 1∧a=m∧X=Z)∨(iv=.int .i64 2∧n=m∧X++Y=Z))∧sv=.slice C m k∧wr.ownsRow w.heap.size 3 1 (.slice C m k) m Z)∧Ext w wr) (fun _ i _=>2-(intOf i).toNat)
   case atStart=>exact⟨⟨C0,k0,0,[],.inl ⟨rfl,rfl,rfl⟩,rfl,ho1⟩,hx1⟩
   case round =>
    clear ho1 hx1;obtain⟨⟨C,k,m,Z,h,rfl,ho⟩,hx⟩:=hrel;have c0:=(hx.cell (p:=⟨g,0,none⟩) hg.lt).trans g0;have c1:=(hx.cell (p:=⟨g,1,none⟩) hg.lt).trans g1;have hsz2:=hx.size;rcases h with ⟨rfl,rfl,rfl⟩ | ⟨rfl,rfl,rfl⟩ | ⟨rfl,rfl,rfl⟩
    ·go_wp2_with ((with_reducible apply gS 33);refine wApf zHK rfl _ _ rfl w.heap.size _ _ _ rfl ho _ a X rfl (hA.ext hx) HO.out (by omega) (by omega) (by omega) ?_;intro C5 k5 w5 ho5 hg5 hr5;rw[wB2,wL5] at ho5;have hx5:=(zO hg5).ext hx (fun x h=>(ho.lt x h).1))
     go_roundw
     case rel=>exact⟨⟨C5,k5,a,X,.inr (.inl ⟨by go_num,rfl,rfl⟩),by first | rfl | (simp;done) | go_num,ho5⟩,hx5⟩
     case measure=>simp[intOf]
    ·go_wp2_with ((with_reducible apply gS 33);refine wApf zHK rfl _ _ rfl w.heap.size _ _ _ rfl ho _ b Y rfl (hB.ext hx) HO2.out (by omega) (by omega) (by omega) ?_;intro C5 k5 w5 ho5 hg5 hr5;rw[HN.out] at ho5;have hx5:=(zO hg5).ext hx (fun x h=>(ho.lt x h).1))
     go_roundw
     case rel=>exact⟨⟨C5,k5,n,X++Y,.inr (.inr ⟨by go_num,rfl,rfl⟩),by first | rfl | (rw[HN.out];done) | go_num,ho5⟩,hx5⟩
     case measure=>simp[intOf]
    ·go_wp2
     go_ret;rw[HAP.out] at ho;exact⟨_,_,rfl,ho,hx⟩
def tblM_set (xs:List Int) (s:Value) (k:Nat) (z:Int) (h:k<xs.length):(yL xs s).setIfInBounds k (.int .i64 z)=yL (xs.set k z) s:=by
 unfold yL ints;rw[wN6,wP5 _ _ (by simpa using h),List.map_set]
def zKa:(Tryz.prog.info? 42).bind (·.zero)=some (.agg (yL (List.replicate 16 0) (.slice none 0 0))):=by
 show _=some (Value.agg (ints (List.replicate 16 0)++[Value.slice none 0 0]).toArray)
 kernel_rfl
def zGM:3≠42:=by decide
def tblM_get (xs:List Int) (s:Value) (k:Nat) (h:k<xs.length):(yL xs s)[k]? =some (.int .i64 xs[k]):=by
 unfold yL ints;simp[wQ9,h]
def zPO (cs:List Int) (A:Option Addr) (k c:Nat):(yL cs (.slice A k c)).all (·.oneCell')=true:=by
 unfold yL ints;simp[Value.oneCell']
def zQN (cs:List Int) (s u:Value) (h:cs.length=16):(yL cs s).setIfInBounds 16 u=yL cs u:=by
 unfold yL;rw[wN6,wF8 _ _ (by rw[yA,h];omega),yA,h];rfl
end Go.Proofs.YtkggcjdlpendfaaGreatDoor
