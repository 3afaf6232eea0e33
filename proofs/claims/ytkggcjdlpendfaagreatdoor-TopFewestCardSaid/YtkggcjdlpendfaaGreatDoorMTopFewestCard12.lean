import Derived.Deep.CutRange
import Derived.Test.YtkggcjdlpendfaaGreatDoorMTopFewestCard11
set_option linter.all false
set_option maxRecDepth 20000
set_option maxHeartbeats 8000000
namespace Go.Proofs.YtkggcjdlpendfaaGreatDoor.SM
section
variable {α:Type} (d:α)
def Swapped (L M:List α) (a b k:Nat):Prop:=M.Perm L∧ ∀ x,at_ d M x=if a≤x∧x<a+k then at_ d L (x-a+b) else if b≤x∧x<b+k then at_ d L (x-b+a) else at_ d L x
def Swapped.zero (L:List α) (a b:Nat):Swapped d L L a b 0:=⟨.refl _,fun x=>by rw[if_neg (by omega),if_neg (by omega)]⟩
def Swapped.step {L M:List α} {a b k:Nat} (h:Swapped d L M a b k) (hab:a+k<b) (hb:b+k<L.length):Swapped d L (swp d M (a+k) (b+k)) a b (k+1):=by
 have hl:=h.1.length_eq;refine⟨(zGr d M _ _ (by omega) (by omega)).trans h.1,fun x=> ?_⟩;rw[zGc d M _ _ x (by omega) (by omega)]
 by_cases h1:x=b+k
 ·rw[if_pos h1,h.2,if_neg (by omega),if_neg (by omega),if_neg (by omega),if_pos (by omega)];congr 1
  omega
 ·rw[if_neg h1]
  by_cases h2:x=a+k
  ·rw[if_pos h2,h.2,if_neg (by omega),if_neg (by omega),if_pos (by omega)];congr 1
   omega
  ·rw[if_neg h2,h.2]
   by_cases h3:a≤x∧x<a+k
   ·rw[if_pos h3,if_pos (by omega)]
   ·rw[if_neg h3,if_neg (show ¬(a≤x∧x<a+(k+1)) by omega)]
    by_cases h4:b≤x∧x<b+k
    ·rw[if_pos h4,if_pos (by omega)]
    ·rw[if_neg h4,if_neg (by omega)]
def zBB (L:List α) (a m b x:Nat):α:=if a≤x∧x<b then (if x-a<b-m then at_ d L (m+(x-a)) else at_ d L (a+(x-a-(b-m)))) else at_ d L x
structure Rot (L M:List α) (a m b i j:Nat):Prop where
 perm:M.Perm L
 out: ∀ x,x<m-i∨m+j≤x→at_ d M x=zBB d L a m b x
 win: ∀ k,k<i+j→zBB d L a m b (m-i+k)=at_ d M (if k<j then m+k else m-i+(k-j))
def Rot.start (L:List α) (a m b:Nat) (h1:a≤m) (h2:m≤b):Rot d L L a m b (m-a) (b-m):=by
 refine⟨.refl _,fun x hx=> ?_,fun k hk=> ?_⟩
 ·unfold zBB;rw[if_neg (by omega)]
 ·unfold zBB;rw[if_pos (by omega)];have e:m-(m-a)+k-a=k:=by omega
  rw[e]
  by_cases hkj:k<b-m
  ·rw[if_pos hkj,if_pos hkj]
  ·rw[if_neg hkj,if_neg hkj];congr 1
   omega
def Rot.left {L M N:List α} {a m b i j:Nat} (h:Rot d L M a m b i j) (hij:j<i) (him:i≤m) (hs:Swapped d M N (m-i) m j):Rot d L N a m b (i-j) j:=by
 refine⟨hs.1.trans h.perm,fun x hx=> ?_,fun k hk=> ?_⟩
 ·rw[hs.2]
  by_cases h1:m-i≤x∧x<m-i+j
  ·rw[if_pos h1];have:=h.win (x-(m-i)) (by omega);rw[if_pos (by omega),show m-i+(x-(m-i))=x by omega] at this;rw[this];congr 1
   omega
  ·rw[if_neg h1,if_neg (by omega)];exact h.out x (by omega)
 ·have hw:=h.win (j+k) (by omega);rw[if_neg (by omega),show m-i+(j+k)=m-(i-j)+k by omega] at hw;rw[hw,hs.2]
  by_cases hkj:k<j
  ·rw[if_pos hkj,if_neg (by omega),if_pos (by omega)];congr 1
   omega
  ·rw[if_neg hkj,if_neg (by omega),if_neg (by omega)];congr 1
   omega
def Rot.right {L M N:List α} {a m b i j:Nat} (h:Rot d L M a m b i j) (hij:i<j) (him:i≤m) (hs:Swapped d M N (m-i) (m+j-i) i):Rot d L N a m b i (j-i):=by
 refine⟨hs.1.trans h.perm,fun x hx=> ?_,fun k hk=> ?_⟩
 ·rw[hs.2]
  by_cases h1:m+j-i≤x∧x<m+j-i+i
  ·rw[if_neg (by omega),if_pos h1];have:=h.win (x-(m-i)) (by omega);rw[if_neg (by omega),show m-i+(x-(m-i))=x by omega] at this;rw[this];congr 1
   omega
  ·rw[if_neg (by omega),if_neg h1];exact h.out x (by omega)
 ·have hw:=h.win k (by omega);rw[hw,hs.2]
  by_cases hkj:k<j-i
  ·rw[if_pos (show k<j by omega),if_pos hkj,if_neg (by omega),if_neg (by omega)]
  ·rw[if_neg hkj,if_pos (show k<j by omega),if_pos (by omega)];congr 1
   omega
def Rot.last {L M N:List α} {a m b i:Nat} (h:Rot d L M a m b i i) (him:i≤m) (hs:Swapped d M N (m-i) m i):N.Perm L∧ ∀ x,at_ d N x=zBB d L a m b x:=by
 refine⟨hs.1.trans h.perm,fun x=> ?_⟩;rw[hs.2]
 by_cases h1:m-i≤x∧x<m-i+i
 ·rw[if_pos h1];have:=h.win (x-(m-i)) (by omega);rw[if_pos (by omega),show m-i+(x-(m-i))=x by omega] at this;rw[this];congr 1
  omega
 ·rw[if_neg h1]
  by_cases h2:m≤x∧x<m+i
  ·rw[if_pos h2];have:=h.win (x-(m-i)) (by omega);rw[if_neg (by omega),show m-i+(x-(m-i))=x by omega] at this;rw[this];congr 1
   omega
  ·rw[if_neg h2];exact h.out x (by omega)
end
end Go.Proofs.YtkggcjdlpendfaaGreatDoor.SM
namespace Go.Proofs.YtkggcjdlpendfaaGreatDoor.SM
section
variable {α:Type} (d:α) (wt:α→Int)
def rot_seg {L N:List α} {a m b:Nat} (h:N.Perm L∧ ∀ x,at_ d N x=zBB d L a m b x) (h1:a≤m) (h2:m≤b):Seg d L N a b :=
 ⟨h.1,fun x hx=>by rw[h.2];unfold zBB;rw[if_neg (by omega)],fun x p q=>by
  rw[h.2];unfold zBB;rw[if_pos ⟨p,q⟩];split
  ·exact⟨_,by omega,by omega,rfl⟩
  ·exact⟨_,by omega,by omega,rfl⟩⟩
structure Found (M:List α) (a m b mid s:Nat):Prop where
 lo:(if mid<m then mid+m-b else a)≤s
 hi:s≤(if mid<m then mid else m)
 below:s=(if mid<m then mid+m-b else a)∨wA d wt M (s-1)≤wA d wt M (mid+m-s)
 above:s=(if mid<m then mid else m)∨wA d wt M (mid+m-s-1)≤wA d wt M s
def Found.at_ {M:List α} {a m b mid s:Nat} (ham:a<m) (hmb:m<b) (k1:2*mid≤a+b) (k2:a+b<2*mid+2) (h:Found d wt M a m b mid s) :
 (s≤m∧a≤s∧s≤mid∧mid+m-s≤b∧m≤mid+m-s)∧((s=a∨mid+m-s=b)∨wA d wt M (s-1)≤wA d wt M (mid+m-s))∧((s=m∨mid+m-s=m)∨wA d wt M (mid+m-s-1)≤wA d wt M s):=by
 obtain⟨lo,hi,bel,abv⟩:=h
 by_cases hq:mid<m
 ·rw[if_pos hq] at lo hi bel abv;refine⟨by omega, ?_, ?_⟩
  ·rcases bel with h | h
   ·exact .inl (.inr (by omega))
   ·exact .inr h
  ·rcases abv with h | h
   ·exact .inl (.inr (by omega))
   ·exact .inr h
 ·rw[if_neg hq] at lo hi bel abv;refine⟨by omega, ?_, ?_⟩
  ·rcases bel with h | h
   ·exact .inl (.inl (by omega))
   ·exact .inr h
  ·rcases abv with h | h
   ·exact .inl (.inl (by omega))
   ·exact .inr h
def halves {M N:List α} {a m b mid s:Nat} (ham:a<m) (hmb:m<b) (k1:2*mid≤a+b) (k2:a+b<2*mid+2) (h1:Sorted d wt M a m) (h2:Sorted d wt M m b) (hf:Found d wt M a m b mid s) (hN: ∀ x,at_ d N x=zBB d M s m (mid+m-s) x) :
 Sorted d wt N a s∧Sorted d wt N s mid∧Sorted d wt N mid (mid+m-s)∧Sorted d wt N (mid+m-s) b ∧
 ∀ x y,a≤x→x<mid→mid≤y→y<b→wA d wt N x≤wA d wt N y:=by
 obtain⟨⟨c1,c2,c3,c4,c5⟩,bel,abv⟩:=hf.at_ d wt ham hmb k1 k2
 have hm1:a≤mid:=by omega
 have hm2:mid<b:=by omega
 obtain⟨e,he⟩: ∃ e,mid+m-s=e:=⟨_,rfl⟩
 rw[he] at hN bel abv c4 c5;rw[he];have hes:e-m=mid-s:=by omega
 -- what N holds
 have n1: ∀ x,x<s→wA d wt N x=wA d wt M x:=fun x hx=>by unfold wA;rw[hN];unfold zBB;rw[if_neg (by omega)]
 have n2: ∀ x,s≤x→x<mid→wA d wt N x=wA d wt M (m+(x-s)):=fun x h1 h2=>by unfold wA;rw[hN];unfold zBB;rw[if_pos (by omega),if_pos (by omega)]
 have n3: ∀ x,mid≤x→x<e→wA d wt N x=wA d wt M (s+(x-mid)):=fun x h1 h2=>by
  unfold wA;rw[hN];unfold zBB;rw[if_pos (by omega),if_neg (by omega)];congr 2
  omega
 have n4: ∀ x,e≤x→wA d wt N x=wA d wt M x:=fun x hx=>by unfold wA;rw[hN];unfold zBB;rw[if_neg (by omega)]
 have b1: ∀ x y,a≤x→x<s→e≤y→y<b→wA d wt M x≤wA d wt M y:=fun x y p q r t=>by
  rcases bel with h | h
  ·exfalso
   omega
  ·have q1:wA d wt M x≤wA d wt M (s-1):=by
    by_cases hx:x=s-1
    ·rw[hx];exact Int.le_refl _
    ·exact h1 x (s-1) p (by omega) (by omega)
   have q2:wA d wt M e≤wA d wt M y:=by
    by_cases hy:y=e
    ·rw[hy];exact Int.le_refl _
    ·exact h2 e y (by omega) (by omega) t
   omega
 have b2: ∀ x y,m≤x→x<e→s≤y→y<m→wA d wt M x≤wA d wt M y:=fun x y p q r t=>by
  rcases abv with h | h
  ·exfalso
   omega
  ·have q1:wA d wt M x≤wA d wt M (e-1):=by
    by_cases hx:x=e-1
    ·rw[hx];exact Int.le_refl _
    ·exact h2 x (e-1) p (by omega) (by omega)
   have q2:wA d wt M s≤wA d wt M y:=by
    by_cases hy:y=s
    ·rw[hy];exact Int.le_refl _
    ·exact h1 s y (by omega) (by omega) t
   omega
 refine⟨fun x y p q r=> ?_,fun x y p q r=> ?_,fun x y p q r=> ?_,fun x y p q r=> ?_,fun x y p q r t=> ?_⟩
 ·rw[n1 x (by omega),n1 y r];exact h1 x y p q (by omega)
 ·rw[n2 x p (by omega),n2 y (by omega) r];exact h2 _ _ (by omega) (by omega) (by omega)
 ·rw[n3 x p (by omega),n3 y (by omega) r];exact h1 _ _ (by omega) (by omega) (by omega)
 ·rw[n4 x p,n4 y (by omega)];exact h2 x y (by omega) q r
 ·by_cases hx:x<s<;>by_cases hy:y<e
  ·rw[n1 x hx,n3 y r hy];by_cases hxy:x=s+(y-mid)
   ·rw[hxy];exact Int.le_refl _
   ·exact h1 _ _ p (by omega) (by omega)
  ·rw[n1 x hx,n4 y (by omega)];exact b1 x y p hx (by omega) t
  ·rw[n2 x (by omega) q,n3 y r hy];exact b2 _ _ (by omega) (by omega) (by omega) (by omega)
  ·rw[n2 x (by omega) q,n4 y (by omega)];by_cases hxy:m+(x-s)=y
   ·rw[hxy];exact Int.le_refl _
   ·exact h2 _ _ (by omega) (by omega) t
def zOm {N N1 N2:List α} {a mid b:Nat} (hc: ∀ x y,a≤x→x<mid→mid≤y→y<b→wA d wt N x≤wA d wt N y) (k1:Seg d N N1 a mid) (s1:Sorted d wt N1 a mid) (k2:Seg d N1 N2 mid b) (s2:Sorted d wt N2 mid b) (hm1:a≤mid) (hm2:mid≤b):Sorted d wt N2 a b:=by
 refine Sorted.join d wt (s1.of_out d wt k2 (.inl (Nat.le_refl _))) s2 (fun x y p q r t=> ?_);obtain⟨x',p1,p2,e1⟩:=k1.val x p q;obtain⟨y',q1,q2,e2⟩:=k2.val y r t;have f1:wA d wt N2 x=wA d wt N x':=by unfold wA;rw[k2.out x (by omega),e1]
 have f2:wA d wt N2 y=wA d wt N y':=by unfold wA;rw[e2,k1.out y' (by omega)]
 rw[f1,f2];exact hc x' y' p1 p2 q1 q2
structure GoneUp (L M:List α) (a k:Nat):Prop where
 perm:M.Perm L
 at_: ∀ x,at_ d M x=if x=k then SM.at_ d L a else if a≤x∧x<k then SM.at_ d L (x+1) else SM.at_ d L x
def GoneUp.start (L:List α) (a:Nat):GoneUp d L L a a:=⟨.refl _,fun x=>by
 by_cases h:x=a
 ·rw[if_pos h,h]
 ·rw[if_neg h,if_neg (by omega)]⟩
def GoneUp.step {L M:List α} {a k:Nat} (h:GoneUp d L M a k) (hak:a≤k) (hk:k+1<L.length):GoneUp d L (swp d M k (k+1)) a (k+1):=by
 have hl:=h.perm.length_eq;refine⟨(zGr d M _ _ (by omega) (by omega)).trans h.perm,fun x=> ?_⟩;rw[zGc d M _ _ x (by omega) (by omega)]
 by_cases h1:x=k+1
 ·rw[if_pos h1,if_pos h1,h.at_,if_pos rfl]
 ·rw[if_neg h1,if_neg h1]
  by_cases h2:x=k
  ·rw[if_pos h2,if_pos (by omega),h.at_,if_neg (by omega),if_neg (by omega),h2]
  ·rw[if_neg h2,h.at_,if_neg h2]
   by_cases h3:a≤x∧x<k
   ·rw[if_pos h3,if_pos (by omega)]
   ·rw[if_neg h3,if_neg (by omega)]
def GoneUp.seg {L M:List α} {a k b:Nat} (h:GoneUp d L M a k) (hak:a≤k) (hk:k<b):Seg d L M a b :=
 ⟨h.perm,fun x hx=>by rw[h.at_,if_neg (by omega),if_neg (by omega)],fun x p q=>by
  rw[h.at_];split
  ·exact⟨a,by omega,by omega,rfl⟩
  ·split
   ·exact⟨x+1,by omega,by omega,rfl⟩
   ·exact⟨x,p,q,rfl⟩⟩
def GoneUp.sorted {L M:List α} {a b i:Nat} (hs:Sorted d wt L (a+1) b) (hi:a+1≤i) (hib:i≤b) (h1:i=a+1∨wA d wt L (i-1)≤wA d wt L a) (h2:i=b∨wA d wt L a≤wA d wt L i) (h:GoneUp d L M a (i-1)):Sorted d wt M a b:=by
 have hw: ∀ x,wA d wt M x=if x=i-1 then wA d wt L a else if a≤x∧x<i-1 then wA d wt L (x+1) else wA d wt L x:=fun x=>by
  unfold wA;rw[h.at_];split
  ·rfl
  ·split<;>rfl
 have lo: ∀ x,a<x→x<i→wA d wt L x≤wA d wt L a:=fun x p q=>by
  rcases h1 with h1 | h1
  ·omega
  ·by_cases hx:x=i-1
   ·rw[hx];exact h1
   ·exact Int.le_trans (hs x (i-1) (by omega) (by omega) (by omega)) h1
 have hi': ∀ y,i≤y→y<b→wA d wt L a≤wA d wt L y:=fun y p q=>by
  rcases h2 with h2 | h2
  ·omega
  ·by_cases hy:y=i
   ·rw[hy];exact h2
   ·exact Int.le_trans h2 (hs i y (by omega) (by omega) q)
 intro x y p q r;rw[hw,hw]
 by_cases hx:x=i-1
 ·rw[if_pos hx,if_neg (by omega),if_neg (by omega)];exact hi' y (by omega) r
 ·rw[if_neg hx]
  by_cases hx2:x<i-1
  ·rw[if_pos ⟨p,hx2⟩]
   by_cases hy:y=i-1
   ·rw[if_pos hy];exact lo (x+1) (by omega) (by omega)
   ·rw[if_neg hy]
    by_cases hy2:y<i-1
    ·rw[if_pos ⟨by omega,hy2⟩];exact hs _ _ (by omega) (by omega) (by omega)
    ·rw[if_neg (by omega)];exact hs _ _ (by omega) (by omega) r
  ·rw[if_neg (by omega),if_neg (by omega),if_neg (by omega)];exact hs _ _ (by omega) q r
structure GoneDown (L M:List α) (m k:Nat):Prop where
 perm:M.Perm L
 at_: ∀ x,at_ d M x=if x=k then SM.at_ d L m else if k<x∧x≤m then SM.at_ d L (x-1) else SM.at_ d L x
def GoneDown.start (L:List α) (m:Nat):GoneDown d L L m m:=⟨.refl _,fun x=>by
 by_cases h:x=m
 ·rw[if_pos h,h]
 ·rw[if_neg h,if_neg (by omega)]⟩
def GoneDown.step {L M:List α} {m k:Nat} (h:GoneDown d L M m k) (hk0:0<k) (hkm:k≤m) (hm:m<L.length):GoneDown d L (swp d M k (k-1)) m (k-1):=by
 have hl:=h.perm.length_eq;refine⟨(zGr d M _ _ (by omega) (by omega)).trans h.perm,fun x=> ?_⟩;rw[zGc d M _ _ x (by omega) (by omega)]
 by_cases h1:x=k-1
 ·rw[if_pos h1,if_pos h1,h.at_,if_pos rfl]
 ·rw[if_neg h1,if_neg h1]
  by_cases h2:x=k
  ·rw[if_pos h2,if_pos (by omega),h.at_,if_neg (by omega),if_neg (by omega),h2]
  ·rw[if_neg h2,h.at_,if_neg h2]
   by_cases h3:k<x∧x≤m
   ·rw[if_pos h3,if_pos (by omega)]
   ·rw[if_neg h3,if_neg (by omega)]
def GoneDown.seg {L M:List α} {a m k b:Nat} (h:GoneDown d L M m k) (hak:a≤k) (hkm:k≤m) (hm:m<b):Seg d L M a b :=
 ⟨h.perm,fun x hx=>by rw[h.at_,if_neg (by omega),if_neg (by omega)],fun x p q=>by
  rw[h.at_];split
  ·exact⟨m,by omega,by omega,rfl⟩
  ·split
   ·exact⟨x-1,by omega,by omega,rfl⟩
   ·exact⟨x,p,q,rfl⟩⟩
def GoneDown.sorted {L M:List α} {a m i:Nat} (hs:Sorted d wt L a m) (hi:a≤i) (him:i≤m) (h1:i=a∨wA d wt L (i-1)≤wA d wt L m) (h2:i=m∨wA d wt L m≤wA d wt L i) (h:GoneDown d L M m i):Sorted d wt M a (m+1):=by
 have hw: ∀ x,wA d wt M x=if x=i then wA d wt L m else if i<x∧x≤m then wA d wt L (x-1) else wA d wt L x:=fun x=>by
  unfold wA;rw[h.at_];split
  ·rfl
  ·split<;>rfl
 have lo: ∀ x,a≤x→x<i→wA d wt L x≤wA d wt L m:=fun x p q=>by
  rcases h1 with h1 | h1
  ·omega
  ·by_cases hx:x=i-1
   ·rw[hx];exact h1
   ·exact Int.le_trans (hs x (i-1) (by omega) (by omega) (by omega)) h1
 have hi': ∀ y,i≤y→y<m→wA d wt L m≤wA d wt L y:=fun y p q=>by
  rcases h2 with h2 | h2
  ·omega
  ·by_cases hy:y=i
   ·rw[hy];exact h2
   ·exact Int.le_trans h2 (hs i y (by omega) (by omega) q)
 intro x y p q r;rw[hw,hw]
 by_cases hx:x=i
 ·rw[if_pos hx,if_neg (by omega),if_pos (by omega)];exact hi' (y-1) (by omega) (by omega)
 ·rw[if_neg hx]
  by_cases hx2:i<x
  ·rw[if_pos (by omega),if_neg (by omega),if_pos (by omega)];exact hs _ _ (by omega) (by omega) (by omega)
  ·rw[if_neg (by omega)]
   by_cases hy:y=i
   ·rw[if_pos hy];exact lo x p (by omega)
   ·rw[if_neg hy]
    by_cases hy2:i<y
    ·rw[if_pos (by omega)]
     by_cases hxy:x=y-1
     ·omega
     ·exact hs _ _ p (by omega) (by omega)
    ·rw[if_neg (by omega)];exact hs _ _ p q (by omega)
end
end Go.Proofs.YtkggcjdlpendfaaGreatDoor.SM
namespace Go.Proofs.YtkggcjdlpendfaaGreatDoor
open Go.RowKit
section
open SM
def symL_any (gd:Nat) (L:List Pk) (tl:List Value) (n c a b:Nat) (w:World) (hn:L.length=n) (hn2:n≤1000000) (hab:a+1<b) (hbn:b≤n) (hone:OnesP L) (hD:DS w gd L tl) (h2:Sorted pk0 pw L (a+1) b) :
 Calls Tryz.prog 207 #[.slice (some ⟨gd,0,none⟩) n c,.int .i64 (a:Int),.int .i64 ((a+1:Nat):Int),.int .i64 (b:Int),.func (.func 148) #[] #[]] w (zEG gd L tl a b w):=by
 have HN:=zA hn;have HONE:=zA hone;have HS2:=zA h2;clear hn hone h2;go_enter Tryz.func207,Tryz.ntmps207
 go_upto_region 3 with (first
  | ((with_reducible apply gS 27);refine zB rfl (.int .i64 ((a+1-a:Nat):Int)) (xH rfl rfl rfl (by omega) (by omega)) ?_)
  | ((with_reducible apply gS 28);refine zB rfl (.bool true) (jQ rfl rfl rfl (by simp)) ?_))
 go_loopw [10,11] (fun iv jv wr=> ∃ (i j:Nat),a+1≤i∧i≤j∧j≤b∧iv=.int .i64 (i:Int)∧jv=.int .i64 (j:Int)∧DS wr gd L tl∧(i=a+1∨wA pk0 pw L (i-1)≤wA pk0 pw L a)∧(j=b∨wA pk0 pw L a≤wA pk0 pw L j)∧Upd (fun x=>x=gd) w wr) (fun i j _=>(intOf j).toNat-(intOf i).toNat)
 case atStart=>exact⟨a+1,b,by omega,by omega,by omega,rfl,rfl,hD,.inl rfl,.inl rfl,Upd.refl _ w⟩
 case round =>
  clear hD;obtain⟨i,j,hai,hij,hjb,rfl,rfl,hD,hlo,hhi,hu⟩:=hrel;have hml:=HN.out
  by_cases hlt:i<j
  ·have hDd:DS wr.drew gd L tl:=Blk.drew hD;obtain⟨h,hh,hh1,hh2⟩: ∃ h,(i+j)/2=h∧i≤h∧h<j:=⟨_,rfl,by omega,by omega⟩
   by_cases hls:wA pk0 pw L h<wA pk0 pw L a
   ·have hB:decide (zAV (L[h]'(by omega)).1 (L[a]'(by omega)).1<0)=true:=by
     rw[zCY, ←zAC L h (by omega), ←zAC L a (by omega)];simpa using hls
    go_wp2_with (first
     | ((with_reducible apply gS 33);refine zB rfl (.bool true) (zZ rfl rfl rfl (by simpa using hlt)) ?_)
     | ((with_reducible apply gS 36);refine zB rfl (.int .i64 ((i+j:Nat):Int)) (yH rfl rfl rfl (by omega)) ?_)
     | ((with_reducible apply gS 37);refine zB rfl (.int .u64 ((i+j:Nat):Int)) (zFO rfl rfl (by omega)) ?_)
     | ((with_reducible apply gS 38);refine zB rfl (.int .u64 ((h:Nat):Int)) (by rw[←hh];exact zCv rfl rfl rfl) ?_)
     | ((with_reducible apply gS 39);refine zB rfl (.int .i64 ((h:Nat):Int)) (zFZ rfl rfl (by omega)) ?_))
    refine qI qS (by kernel_rfl) (by kernel_rfl) ?_;refine zI (by rfl) (.func (.func 148) #[] #[]) (zC rfl rfl) ?_;simp only[sP,sB,sC];refine zI (by rfl) (.slice (some ⟨gd,0,none⟩) n c) (zC rfl rfl) ?_;simp only[sP,sB,sC];refine zI (by rfl) (.int .i64 ((h:Nat):Int)) (zC rfl rfl) ?_;simp only[sP,sB,sC];refine zI (by rfl) (.pointer (some ⟨gd,(h)*2,none⟩)) (xJ rfl rfl rfl (by omega)) ?_;simp only[sP,sB,sC];refine xL (by rfl) (.agg (pkV (L[h]'(by omega)))) (fun W hW=>qA rfl (hDd.ext hW) (by omega) rfl) ?_;simp only[sP,sB,sC];refine zI (by rfl) (.slice (some ⟨gd,0,none⟩) n c) (zC rfl rfl) ?_;simp only[sP,sB,sC];refine zI (by rfl) (.int .i64 ((a:Nat):Int)) (zC rfl rfl) ?_;simp only[sP,sB,sC];refine zI (by rfl) (.pointer (some ⟨gd,(a)*2,none⟩)) (xJ rfl rfl rfl (by omega)) ?_;simp only[sP,sB,sC];refine xL (by rfl) (.agg (pkV (L[a]'(by omega)))) (fun W hW=>qA rfl (hDd.ext hW) (by omega) rfl) ?_;simp only[sP,sB,sC];refine zCP (by rfl) _ _ _ rfl rfl zER #[.agg (pkV (L[h]'(by omega))),.agg (pkV (L[a]'(by omega)))] (by simp[Act.eval]) (.int .i64 (zAV (L[h]'(by omega)).1 (L[a]'(by omega)).1)) (fun W h=>zAT _ _ W) ?_;simp only[Act.put,sA,sB,sC];refine zI (by rfl) (.bool true) (zZ rfl rfl rfl hB) ?_;simp only[sP,sB,sC];refine vH ?_;intro w4 hx4;have hD4:=hDd.ext hx4;have hu4:Upd (fun x=>x=gd) w w4:=hu.drew.trans (Upd.of_ext (S:=fun _=>False) hx4) (fun _ h=>h.elim);go_wp2_with ((with_reducible apply gS 52);refine zB rfl (.int .i64 ((h+1:Nat):Int)) (yH (i:=h) (d:=1) rfl rfl rfl (by omega)) ?_)
    go_roundw
    case rel=>exact⟨h+1,j,by omega,by omega,hjb,by go_num,rfl,hD4,.inr (by rw[wJ1];omega),hhi,hu4⟩
    case measure=>simp[intOf];omega
   ·have hB:decide (zAV (L[h]'(by omega)).1 (L[a]'(by omega)).1<0)=false:=by
     rw[zCY, ←zAC L h (by omega), ←zAC L a (by omega)];simpa using hls
    go_wp2_with (first
     | ((with_reducible apply gS 33);refine zB rfl (.bool true) (zZ rfl rfl rfl (by simpa using hlt)) ?_)
     | ((with_reducible apply gS 36);refine zB rfl (.int .i64 ((i+j:Nat):Int)) (yH rfl rfl rfl (by omega)) ?_)
     | ((with_reducible apply gS 37);refine zB rfl (.int .u64 ((i+j:Nat):Int)) (zFO rfl rfl (by omega)) ?_)
     | ((with_reducible apply gS 38);refine zB rfl (.int .u64 ((h:Nat):Int)) (by rw[←hh];exact zCv rfl rfl rfl) ?_)
     | ((with_reducible apply gS 39);refine zB rfl (.int .i64 ((h:Nat):Int)) (zFZ rfl rfl (by omega)) ?_))
    refine qI qS (by kernel_rfl) (by kernel_rfl) ?_;refine zI (by rfl) (.func (.func 148) #[] #[]) (zC rfl rfl) ?_;simp only[sP,sB,sC];refine zI (by rfl) (.slice (some ⟨gd,0,none⟩) n c) (zC rfl rfl) ?_;simp only[sP,sB,sC];refine zI (by rfl) (.int .i64 ((h:Nat):Int)) (zC rfl rfl) ?_;simp only[sP,sB,sC];refine zI (by rfl) (.pointer (some ⟨gd,(h)*2,none⟩)) (xJ rfl rfl rfl (by omega)) ?_;simp only[sP,sB,sC];refine xL (by rfl) (.agg (pkV (L[h]'(by omega)))) (fun W hW=>qA rfl (hDd.ext hW) (by omega) rfl) ?_;simp only[sP,sB,sC];refine zI (by rfl) (.slice (some ⟨gd,0,none⟩) n c) (zC rfl rfl) ?_;simp only[sP,sB,sC];refine zI (by rfl) (.int .i64 ((a:Nat):Int)) (zC rfl rfl) ?_;simp only[sP,sB,sC];refine zI (by rfl) (.pointer (some ⟨gd,(a)*2,none⟩)) (xJ rfl rfl rfl (by omega)) ?_;simp only[sP,sB,sC];refine xL (by rfl) (.agg (pkV (L[a]'(by omega)))) (fun W hW=>qA rfl (hDd.ext hW) (by omega) rfl) ?_;simp only[sP,sB,sC];refine zCP (by rfl) _ _ _ rfl rfl zER #[.agg (pkV (L[h]'(by omega))),.agg (pkV (L[a]'(by omega)))] (by simp[Act.eval]) (.int .i64 (zAV (L[h]'(by omega)).1 (L[a]'(by omega)).1)) (fun W h=>zAT _ _ W) ?_;simp only[Act.put,sA,sB,sC];refine zI (by rfl) (.bool false) (zZ rfl rfl rfl hB) ?_;simp only[sP,sB,sC];refine vH ?_;intro w4 hx4;have hD4:=hDd.ext hx4;have hu4:Upd (fun x=>x=gd) w w4:=hu.drew.trans (Upd.of_ext (S:=fun _=>False) hx4) (fun _ h=>h.elim);go_wp2_with fail;go_roundw
    case rel=>exact⟨i,h,hai,by omega,by omega,rfl,rfl,hD4,hlo,.inr (by omega),hu4⟩
    case measure=>simp[intOf];omega
  ·obtain rfl:i=j:=by omega
   have hg0:=GoneUp.start pk0 L a;go_upto_region 9 with ((with_reducible apply gS 33);refine zB rfl (.bool false) (zZ rfl rfl rfl (by simp)) ?_)
   go_loopw [13] (fun kv wr=> ∃ (k:Nat) (M:List Pk),a≤k∧k≤i-1∧kv=.int .i64 (k:Int)∧DS wr gd M tl∧GoneUp pk0 L M a k∧Upd (fun x=>x=gd) w wr) (fun k _=>i-(intOf k).toNat)
   case atStart=>exact⟨a,L,by omega,by omega,rfl,hD,hg0,hu⟩
   case round =>
    clear hD hg0 hu;obtain⟨k,M,hak,hki,rfl,hD,hg,hu⟩:=hrel;have hMl:M.length=n:=hg.perm.length_eq.trans HN.out;have hone:=HONE.out.perm hg.perm
    by_cases hlk:k<i-1
    ·go_wp2_with (first
      | ((with_reducible apply gS 57);refine zB rfl (.int .i64 ((i-1:Nat):Int)) (xH (i:=i) (d:=1) rfl rfl rfl (by omega) (by omega)) ?_)
      | ((with_reducible apply gS 58);refine zB rfl (.bool true) (zZ rfl rfl rfl (by simpa using hlk)) ?_))
     have hDD:DS wr.drew gd M tl:=Blk.drew hD;have hu4:=hu.drew;refine jB (fun k=>k ==9 ||k ==13) (fun W=>DS W gd M tl) (by kernel_rfl) ?_;refine zG (k:=0) (by kernel_rfl) rfl (by rfl) (.slice (some ⟨gd,0,none⟩) n c) (zC rfl rfl) ?_;simp only[sP,sB,sC];refine zG (k:=1) (by kernel_rfl) rfl (by rfl) (.int .i64 ((k:Nat):Int)) (zC rfl rfl) ?_;simp only[sP,sB,sC];refine zG (k:=2) (by kernel_rfl) rfl (by rfl) (.slice (some ⟨gd,0,none⟩) n c) (zC rfl rfl) ?_;simp only[sP,sB,sC];refine zG (k:=3) (by kernel_rfl) rfl (by rfl) (.int .i64 ((k:Nat):Int)) (zC rfl rfl) ?_;simp only[sP,sB,sC];refine zG (k:=4) (by kernel_rfl) rfl (by rfl) (.int .i64 ((k+1:Nat):Int)) (yH (i:=k) (d:=1) rfl rfl rfl (by omega)) ?_;simp only[sP,sB,sC];refine zG (k:=5) (by kernel_rfl) rfl (by rfl) (.slice (some ⟨gd,0,none⟩) n c) (zC rfl rfl) ?_;simp only[sP,sB,sC];refine zG (k:=6) (by kernel_rfl) rfl (by rfl) (.int .i64 ((k:Nat):Int)) (zC rfl rfl) ?_;simp only[sP,sB,sC];refine zG (k:=7) (by kernel_rfl) rfl (by rfl) (.int .i64 ((k+1:Nat):Int)) (yH (i:=k) (d:=1) rfl rfl rfl (by omega)) ?_;simp only[sP,sB,sC];refine zG (k:=8) (by kernel_rfl) rfl (by rfl) (.pointer (some ⟨gd,(k+1)*2,none⟩)) (xJ rfl rfl rfl (by omega)) ?_;simp only[sP,sB,sC];refine zG (k:=10) (by kernel_rfl) rfl (by rfl) (.slice (some ⟨gd,0,none⟩) n c) (zC rfl rfl) ?_;simp only[sP,sB,sC];refine zG (k:=11) (by kernel_rfl) rfl (by rfl) (.int .i64 ((k:Nat):Int)) (zC rfl rfl) ?_;simp only[sP,sB,sC];refine zG (k:=12) (by kernel_rfl) rfl (by rfl) (.pointer (some ⟨gd,(k)*2,none⟩)) (xJ rfl rfl rfl (by omega)) ?_;simp only[sP,sB,sC];refine jR (k:=9) (by kernel_rfl) rfl (by rfl) (.agg (pkV M[k+1])) (fun W hW=>qA rfl hW (by omega) rfl) hDD ?_;simp only[Act.put,sA,sB,sC];refine jR (k:=13) (by kernel_rfl) rfl (by rfl) (.agg (pkV M[k])) (fun W hW=>qA rfl hW (by omega) rfl) hDD ?_;simp only[Act.put,sA,sB,sC];refine zG (k:=14) (by kernel_rfl) rfl (by rfl) (.pointer (some ⟨gd,(k)*2,none⟩)) (xJ rfl rfl rfl (by omega)) ?_;simp only[sP,sB,sC];refine xR (k:=15) (by kernel_rfl) rfl ?_;refine zBK rfl _ _ rfl gd M tl hDD (k) (by omega) M[k+1] (hone _ (wE2 _)) rfl rfl ?_;intro w5 hD5 hu5;refine zX ⟨fun h=>(by cases h), ?_⟩;simp only[Act.put,sA,sB,sC];refine zG (k:=16) (by kernel_rfl) rfl (by rfl) (.pointer (some ⟨gd,(k+1)*2,none⟩)) (xJ rfl rfl rfl (by omega)) ?_;simp only[sP,sB,sC];refine xR (k:=17) (by kernel_rfl) rfl ?_;refine zBK rfl _ _ rfl gd (M.set (k) M[k+1]) tl hD5 (k+1) (by rw[wP7];omega) M[k] (hone _ (wE2 _)) rfl rfl ?_;intro w6 hD6 hu6;refine zX ⟨fun h=>(by cases h), ?_⟩;simp only[Act.put,sA,sB,sC];refine vP (by kernel_rfl) ?_;have hD7:DS w6 gd (swp pk0 M k (k+1)) tl:=by rw[←zLW M k (k+1) (by omega) (by omega)];exact hD6
     have hu7:=(hu4.trans hu5 (fun x h=>.inl h)).trans hu6 (fun x h=>.inl h);go_wp2_with ((with_reducible apply gS 60);refine zB rfl (.int .i64 ((k+1:Nat):Int)) (yH (i:=k) (d:=1) rfl rfl rfl (by omega)) ?_)
     go_roundw
     case rel=>exact⟨k+1,swp pk0 M k (k+1),by omega,by omega,by go_num,hD7,hg.step pk0 hak (by omega),hu7⟩
     case measure=>simp[intOf];omega
    ·obtain rfl:k=i-1:=by omega
     go_wp2_with (first
      | ((with_reducible apply gS 57);refine zB rfl (.int .i64 ((i-1:Nat):Int)) (xH (i:=i) (d:=1) rfl rfl rfl (by omega) (by omega)) ?_)
      | ((with_reducible apply gS 58);refine zB rfl (.bool false) (zZ rfl rfl rfl (by simp)) ?_))
     go_end0
     exact⟨rfl,M,hD,hg.seg pk0 hak (by omega),GoneUp.sorted pk0 pw HS2.out (by omega) hjb hlo hhi hg,hu⟩
end
section
open SM
def symR_any (gd:Nat) (L:List Pk) (tl:List Value) (n c a m:Nat) (w:World) (hn:L.length=n) (hn2:n≤1000000) (ham:a+1<m) (hmn:m+1≤n) (hone:OnesP L) (hD:DS w gd L tl) (h2:Sorted pk0 pw L a m) :
 Calls Tryz.prog 207 #[.slice (some ⟨gd,0,none⟩) n c,.int .i64 (a:Int),.int .i64 (m:Int),.int .i64 ((m+1:Nat):Int),.func (.func 148) #[] #[]] w (zEG gd L tl a (m+1) w):=by
 have HN:=zA hn;have HONE:=zA hone;have HS2:=zA h2;clear hn hone h2;go_enter Tryz.func207,Tryz.ntmps207
 go_upto_region 15 with (first
  | ((with_reducible apply gS 27);refine zB rfl (.int .i64 ((m-a:Nat):Int)) (xH rfl rfl rfl (by omega) (by omega)) ?_)
  | ((with_reducible apply gS 28);refine zB rfl (.bool false) (jQ rfl rfl rfl (by simp;omega)) ?_)
  | ((with_reducible apply gS 79);refine zB rfl (.int .i64 ((m+1-m:Nat):Int)) (xH rfl rfl rfl (by omega) (by omega)) ?_)
  | ((with_reducible apply gS 80);refine zB rfl (.bool true) (jQ rfl rfl rfl (by simp)) ?_))
 go_loopw [14,15] (fun iv jv wr=> ∃ (i j:Nat),a≤i∧i≤j∧j≤m∧iv=.int .i64 (i:Int)∧jv=.int .i64 (j:Int)∧DS wr gd L tl∧(i=a∨wA pk0 pw L (i-1)≤wA pk0 pw L m)∧(j=m∨wA pk0 pw L m≤wA pk0 pw L j)∧Upd (fun x=>x=gd) w wr) (fun i j _=>(intOf j).toNat-(intOf i).toNat)
 case atStart=>exact⟨a,m,by omega,by omega,by omega,rfl,rfl,hD,.inl rfl,.inl rfl,Upd.refl _ w⟩
 case round =>
  clear hD;obtain⟨i,j,hai,hij,hjb,rfl,rfl,hD,hlo,hhi,hu⟩:=hrel;have hml:=HN.out
  by_cases hlt:i<j
  ·have hDd:DS wr.drew gd L tl:=Blk.drew hD;obtain⟨h,hh,hh1,hh2⟩: ∃ h,(i+j)/2=h∧i≤h∧h<j:=⟨_,rfl,by omega,by omega⟩
   by_cases hls:wA pk0 pw L m<wA pk0 pw L h
   ·have hB:decide (zAV (L[m]'(by omega)).1 (L[h]'(by omega)).1<0)=true:=by
     rw[zCY, ←zAC L h (by omega), ←zAC L m (by omega)];simpa using hls
    go_wp2_with (first
     | ((with_reducible apply gS 85);refine zB rfl (.bool true) (zZ rfl rfl rfl (by simpa using hlt)) ?_)
     | ((with_reducible apply gS 88);refine zB rfl (.int .i64 ((i+j:Nat):Int)) (yH rfl rfl rfl (by omega)) ?_)
     | ((with_reducible apply gS 89);refine zB rfl (.int .u64 ((i+j:Nat):Int)) (zFO rfl rfl (by omega)) ?_)
     | ((with_reducible apply gS 90);refine zB rfl (.int .u64 ((h:Nat):Int)) (by rw[←hh];exact zCv rfl rfl rfl) ?_)
     | ((with_reducible apply gS 91);refine zB rfl (.int .i64 ((h:Nat):Int)) (zFZ rfl rfl (by omega)) ?_))
    refine qI qS (by kernel_rfl) (by kernel_rfl) ?_;refine zI (by rfl) (.func (.func 148) #[] #[]) (zC rfl rfl) ?_;simp only[sP,sB,sC];refine zI (by rfl) (.slice (some ⟨gd,0,none⟩) n c) (zC rfl rfl) ?_;simp only[sP,sB,sC];refine zI (by rfl) (.int .i64 ((m:Nat):Int)) (zC rfl rfl) ?_;simp only[sP,sB,sC];refine zI (by rfl) (.pointer (some ⟨gd,(m)*2,none⟩)) (xJ rfl rfl rfl (by omega)) ?_;simp only[sP,sB,sC];refine xL (by rfl) (.agg (pkV (L[m]'(by omega)))) (fun W hW=>qA rfl (hDd.ext hW) (by omega) rfl) ?_;simp only[sP,sB,sC];refine zI (by rfl) (.slice (some ⟨gd,0,none⟩) n c) (zC rfl rfl) ?_;simp only[sP,sB,sC];refine zI (by rfl) (.int .i64 ((h:Nat):Int)) (zC rfl rfl) ?_;simp only[sP,sB,sC];refine zI (by rfl) (.pointer (some ⟨gd,(h)*2,none⟩)) (xJ rfl rfl rfl (by omega)) ?_;simp only[sP,sB,sC];refine xL (by rfl) (.agg (pkV (L[h]'(by omega)))) (fun W hW=>qA rfl (hDd.ext hW) (by omega) rfl) ?_;simp only[sP,sB,sC];refine zCP (by rfl) _ _ _ rfl rfl zER #[.agg (pkV (L[m]'(by omega))),.agg (pkV (L[h]'(by omega)))] (by simp[Act.eval]) (.int .i64 (zAV (L[m]'(by omega)).1 (L[h]'(by omega)).1)) (fun W h=>zAT _ _ W) ?_;simp only[Act.put,sA,sB,sC];refine zI (by rfl) (.bool true) (zZ rfl rfl rfl hB) ?_;simp only[sP,sB,sC];refine zI (by rfl) (.bool false) (zIX (b:=true) rfl rfl) ?_;simp only[sP,sB,sC];refine vH ?_;intro w4 hx4;have hD4:=hDd.ext hx4;have hu4:Upd (fun x=>x=gd) w w4:=hu.drew.trans (Upd.of_ext (S:=fun _=>False) hx4) (fun _ h=>h.elim);go_wp2_with fail;go_roundw
    case rel=>exact⟨i,h,hai,by omega,by omega,rfl,rfl,hD4,hlo,.inr (by omega),hu4⟩
    case measure=>simp[intOf];omega
   ·have hB:decide (zAV (L[m]'(by omega)).1 (L[h]'(by omega)).1<0)=false:=by
     rw[zCY, ←zAC L h (by omega), ←zAC L m (by omega)];simpa using hls
    go_wp2_with (first
     | ((with_reducible apply gS 85);refine zB rfl (.bool true) (zZ rfl rfl rfl (by simpa using hlt)) ?_)
     | ((with_reducible apply gS 88);refine zB rfl (.int .i64 ((i+j:Nat):Int)) (yH rfl rfl rfl (by omega)) ?_)
     | ((with_reducible apply gS 89);refine zB rfl (.int .u64 ((i+j:Nat):Int)) (zFO rfl rfl (by omega)) ?_)
     | ((with_reducible apply gS 90);refine zB rfl (.int .u64 ((h:Nat):Int)) (by rw[←hh];exact zCv rfl rfl rfl) ?_)
     | ((with_reducible apply gS 91);refine zB rfl (.int .i64 ((h:Nat):Int)) (zFZ rfl rfl (by omega)) ?_))
    refine qI qS (by kernel_rfl) (by kernel_rfl) ?_;refine zI (by rfl) (.func (.func 148) #[] #[]) (zC rfl rfl) ?_;simp only[sP,sB,sC];refine zI (by rfl) (.slice (some ⟨gd,0,none⟩) n c) (zC rfl rfl) ?_;simp only[sP,sB,sC];refine zI (by rfl) (.int .i64 ((m:Nat):Int)) (zC rfl rfl) ?_;simp only[sP,sB,sC];refine zI (by rfl) (.pointer (some ⟨gd,(m)*2,none⟩)) (xJ rfl rfl rfl (by omega)) ?_;simp only[sP,sB,sC];refine xL (by rfl) (.agg (pkV (L[m]'(by omega)))) (fun W hW=>qA rfl (hDd.ext hW) (by omega) rfl) ?_;simp only[sP,sB,sC];refine zI (by rfl) (.slice (some ⟨gd,0,none⟩) n c) (zC rfl rfl) ?_;simp only[sP,sB,sC];refine zI (by rfl) (.int .i64 ((h:Nat):Int)) (zC rfl rfl) ?_;simp only[sP,sB,sC];refine zI (by rfl) (.pointer (some ⟨gd,(h)*2,none⟩)) (xJ rfl rfl rfl (by omega)) ?_;simp only[sP,sB,sC];refine xL (by rfl) (.agg (pkV (L[h]'(by omega)))) (fun W hW=>qA rfl (hDd.ext hW) (by omega) rfl) ?_;simp only[sP,sB,sC];refine zCP (by rfl) _ _ _ rfl rfl zER #[.agg (pkV (L[m]'(by omega))),.agg (pkV (L[h]'(by omega)))] (by simp[Act.eval]) (.int .i64 (zAV (L[m]'(by omega)).1 (L[h]'(by omega)).1)) (fun W h=>zAT _ _ W) ?_;simp only[Act.put,sA,sB,sC];refine zI (by rfl) (.bool false) (zZ rfl rfl rfl hB) ?_;simp only[sP,sB,sC];refine zI (by rfl) (.bool true) (zIX (b:=false) rfl rfl) ?_;simp only[sP,sB,sC];refine vH ?_;intro w4 hx4;have hD4:=hDd.ext hx4;have hu4:Upd (fun x=>x=gd) w w4:=hu.drew.trans (Upd.of_ext (S:=fun _=>False) hx4) (fun _ h=>h.elim);go_wp2_with ((with_reducible apply gS 105);refine zB rfl (.int .i64 ((h+1:Nat):Int)) (yH (i:=h) (d:=1) rfl rfl rfl (by omega)) ?_)
    go_roundw
    case rel=>exact⟨h+1,j,by omega,by omega,hjb,by go_num,rfl,hD4,.inr (by rw[wJ1];omega),hhi,hu4⟩
    case measure=>simp[intOf];omega
  ·obtain rfl:i=j:=by omega
   have hg0:=GoneDown.start pk0 L m;go_upto_region 21 with ((with_reducible apply gS 85);refine zB rfl (.bool false) (zZ rfl rfl rfl (by simp)) ?_)
   go_loopw [17] (fun kv wr=> ∃ (k:Nat) (M:List Pk),i≤k∧k≤m∧kv=.int .i64 (k:Int)∧DS wr gd M tl∧GoneDown pk0 L M m k∧Upd (fun x=>x=gd) w wr) (fun k _=>(intOf k).toNat)
   case atStart=>exact⟨m,L,by omega,by omega,rfl,hD,hg0,hu⟩
   case round =>
    clear hD hg0 hu;obtain⟨k,M,hik,hkm,rfl,hD,hg,hu⟩:=hrel;have hMl:M.length=n:=hg.perm.length_eq.trans HN.out;have hone:=HONE.out.perm hg.perm
    by_cases hlk:i<k
    ·go_wp2_with ((with_reducible apply gS 110);refine zB rfl (.bool true) (xU rfl rfl rfl (by simpa using hlk)) ?_)
     have hDD:DS wr.drew gd M tl:=Blk.drew hD;have hu4:=hu.drew;refine jB (fun k=>k ==9 ||k ==13) (fun W=>DS W gd M tl) (by kernel_rfl) ?_;refine zG (k:=0) (by kernel_rfl) rfl (by rfl) (.slice (some ⟨gd,0,none⟩) n c) (zC rfl rfl) ?_;simp only[sP,sB,sC];refine zG (k:=1) (by kernel_rfl) rfl (by rfl) (.int .i64 ((k:Nat):Int)) (zC rfl rfl) ?_;simp only[sP,sB,sC];refine zG (k:=2) (by kernel_rfl) rfl (by rfl) (.slice (some ⟨gd,0,none⟩) n c) (zC rfl rfl) ?_;simp only[sP,sB,sC];refine zG (k:=3) (by kernel_rfl) rfl (by rfl) (.int .i64 ((k:Nat):Int)) (zC rfl rfl) ?_;simp only[sP,sB,sC];refine zG (k:=4) (by kernel_rfl) rfl (by rfl) (.int .i64 ((k-1:Nat):Int)) (xH (i:=k) (d:=1) rfl rfl rfl (by omega) (by omega)) ?_;simp only[sP,sB,sC];refine zG (k:=5) (by kernel_rfl) rfl (by rfl) (.slice (some ⟨gd,0,none⟩) n c) (zC rfl rfl) ?_;simp only[sP,sB,sC];refine zG (k:=6) (by kernel_rfl) rfl (by rfl) (.int .i64 ((k:Nat):Int)) (zC rfl rfl) ?_;simp only[sP,sB,sC];refine zG (k:=7) (by kernel_rfl) rfl (by rfl) (.int .i64 ((k-1:Nat):Int)) (xH (i:=k) (d:=1) rfl rfl rfl (by omega) (by omega)) ?_;simp only[sP,sB,sC];refine zG (k:=8) (by kernel_rfl) rfl (by rfl) (.pointer (some ⟨gd,(k-1)*2,none⟩)) (xJ rfl rfl rfl (by omega)) ?_;simp only[sP,sB,sC];refine zG (k:=10) (by kernel_rfl) rfl (by rfl) (.slice (some ⟨gd,0,none⟩) n c) (zC rfl rfl) ?_;simp only[sP,sB,sC];refine zG (k:=11) (by kernel_rfl) rfl (by rfl) (.int .i64 ((k:Nat):Int)) (zC rfl rfl) ?_;simp only[sP,sB,sC];refine zG (k:=12) (by kernel_rfl) rfl (by rfl) (.pointer (some ⟨gd,(k)*2,none⟩)) (xJ rfl rfl rfl (by omega)) ?_;simp only[sP,sB,sC];refine jR (k:=9) (by kernel_rfl) rfl (by rfl) (.agg (pkV M[k-1])) (fun W hW=>qA rfl hW (by omega) rfl) hDD ?_;simp only[Act.put,sA,sB,sC];refine jR (k:=13) (by kernel_rfl) rfl (by rfl) (.agg (pkV M[k])) (fun W hW=>qA rfl hW (by omega) rfl) hDD ?_;simp only[Act.put,sA,sB,sC];refine zG (k:=14) (by kernel_rfl) rfl (by rfl) (.pointer (some ⟨gd,(k)*2,none⟩)) (xJ rfl rfl rfl (by omega)) ?_;simp only[sP,sB,sC];refine xR (k:=15) (by kernel_rfl) rfl ?_;refine zBK rfl _ _ rfl gd M tl hDD (k) (by omega) M[k-1] (hone _ (wE2 _)) rfl rfl ?_;intro w5 hD5 hu5;refine zX ⟨fun h=>(by cases h), ?_⟩;simp only[Act.put,sA,sB,sC];refine zG (k:=16) (by kernel_rfl) rfl (by rfl) (.pointer (some ⟨gd,(k-1)*2,none⟩)) (xJ rfl rfl rfl (by omega)) ?_;simp only[sP,sB,sC];refine xR (k:=17) (by kernel_rfl) rfl ?_;refine zBK rfl _ _ rfl gd (M.set (k) M[k-1]) tl hD5 (k-1) (by rw[wP7];omega) M[k] (hone _ (wE2 _)) rfl rfl ?_;intro w6 hD6 hu6;refine zX ⟨fun h=>(by cases h), ?_⟩;simp only[Act.put,sA,sB,sC];refine vP (by kernel_rfl) ?_;have hD7:DS w6 gd (swp pk0 M k (k-1)) tl:=by rw[←zLW M k (k-1) (by omega) (by omega)];exact hD6
     have hu7:=(hu4.trans hu5 (fun x h=>.inl h)).trans hu6 (fun x h=>.inl h);go_wp2_with ((with_reducible apply gS 112);refine zB rfl (.int .i64 ((k-1:Nat):Int)) (xH (i:=k) (d:=1) rfl rfl rfl (by omega) (by omega)) ?_)
     go_roundw
     case rel=>exact⟨k-1,swp pk0 M k (k-1),by omega,by omega,by go_num,hD7,hg.step pk0 (by omega) hkm (by omega),hu7⟩
     case measure=>simp[intOf];omega
    ·obtain rfl:i=k:=by omega
     go_wp2_with ((with_reducible apply gS 110);refine zB rfl (.bool false) (xU rfl rfl rfl (by simp)) ?_)
     go_end0
     exact⟨rfl,M,hD,hg.seg pk0 hai hkm (by omega),GoneDown.sorted pk0 pw HS2.out hai hkm hlo hhi hg,hu⟩
end
section
open SM
def zOt (gd:Nat) (L:List Pk) (tl:List Value) (n c a b k:Nat) (w:World) (hn:L.length=n) (hn2:n≤1000000) (hab:a+k≤b) (hbn:b+k≤n) (hone:OnesP L) (hD:DS w gd L tl) :
 Calls Tryz.prog 220 #[.slice (some ⟨gd,0,none⟩) n c,.int .i64 (a:Int),.int .i64 (b:Int),.int .i64 (k:Int),.func (.func 148) #[] #[]] w fun e w'=>e=.returned (.tuple #[])∧ ∃ M,DS w' gd M tl∧Swapped pk0 L M a b k∧Upd (fun x=>x=gd) w w':=by
 have HN:=zA hn;have HONE:=zA hone;clear hn hone;have hs0:=Swapped.zero pk0 L a b;go_enter Tryz.func220,Tryz.ntmps220;go_upto_region 1 with fail
 go_loopw [10] (fun iv wr=> ∃ (i:Nat) (M:List Pk),i≤k∧iv=.int .i64 (i:Int)∧DS wr gd M tl∧Swapped pk0 L M a b i∧Upd (fun x=>x=gd) w wr) (fun i _=>k-(intOf i).toNat)
 case atStart=>exact⟨0,L,by omega,rfl,hD,hs0,Upd.refl _ w⟩
 case round =>
  clear hD hs0;obtain⟨i,M,hik,rfl,hD,hsw,hu⟩:=hrel;have hml:M.length=n:=hsw.1.length_eq.trans HN.out;have hone:=HONE.out.perm hsw.1
  by_cases hlt:i<k
  ·go_wp2_with ((with_reducible apply gS 13);refine zB rfl (.bool true) (zZ rfl rfl rfl (by simpa using hlt)) ?_)
   have hDD:DS wr.drew gd M tl:=Blk.drew hD;have hu4:=hu.drew;refine jB (fun k=>k ==13 ||k ==19) (fun W=>DS W gd M tl) (by kernel_rfl) ?_;refine zG (k:=0) (by kernel_rfl) rfl (by rfl) (.slice (some ⟨gd,0,none⟩) n c) (zC rfl rfl) ?_;simp only[sP,sB,sC];refine zG (k:=1) (by kernel_rfl) rfl (by rfl) (.int .i64 ((a:Nat):Int)) (zC rfl rfl) ?_;simp only[sP,sB,sC];refine zG (k:=2) (by kernel_rfl) rfl (by rfl) (.int .i64 ((i:Nat):Int)) (zC rfl rfl) ?_;simp only[sP,sB,sC];refine zG (k:=3) (by kernel_rfl) rfl (by rfl) (.int .i64 ((a+i:Nat):Int)) (yH rfl rfl rfl (by omega)) ?_;simp only[sP,sB,sC];refine zG (k:=4) (by kernel_rfl) rfl (by rfl) (.slice (some ⟨gd,0,none⟩) n c) (zC rfl rfl) ?_;simp only[sP,sB,sC];refine zG (k:=5) (by kernel_rfl) rfl (by rfl) (.int .i64 ((b:Nat):Int)) (zC rfl rfl) ?_;simp only[sP,sB,sC];refine zG (k:=6) (by kernel_rfl) rfl (by rfl) (.int .i64 ((i:Nat):Int)) (zC rfl rfl) ?_;simp only[sP,sB,sC];refine zG (k:=7) (by kernel_rfl) rfl (by rfl) (.int .i64 ((b+i:Nat):Int)) (yH rfl rfl rfl (by omega)) ?_;simp only[sP,sB,sC];refine zG (k:=8) (by kernel_rfl) rfl (by rfl) (.slice (some ⟨gd,0,none⟩) n c) (zC rfl rfl) ?_;simp only[sP,sB,sC];refine zG (k:=9) (by kernel_rfl) rfl (by rfl) (.int .i64 ((b:Nat):Int)) (zC rfl rfl) ?_;simp only[sP,sB,sC];refine zG (k:=10) (by kernel_rfl) rfl (by rfl) (.int .i64 ((i:Nat):Int)) (zC rfl rfl) ?_;simp only[sP,sB,sC];refine zG (k:=11) (by kernel_rfl) rfl (by rfl) (.int .i64 ((b+i:Nat):Int)) (yH rfl rfl rfl (by omega)) ?_;simp only[sP,sB,sC];refine zG (k:=12) (by kernel_rfl) rfl (by rfl) (.pointer (some ⟨gd,(b+i)*2,none⟩)) (xJ rfl rfl rfl (by omega)) ?_;simp only[sP,sB,sC];refine zG (k:=14) (by kernel_rfl) rfl (by rfl) (.slice (some ⟨gd,0,none⟩) n c) (zC rfl rfl) ?_;simp only[sP,sB,sC];refine zG (k:=15) (by kernel_rfl) rfl (by rfl) (.int .i64 ((a:Nat):Int)) (zC rfl rfl) ?_;simp only[sP,sB,sC];refine zG (k:=16) (by kernel_rfl) rfl (by rfl) (.int .i64 ((i:Nat):Int)) (zC rfl rfl) ?_;simp only[sP,sB,sC];refine zG (k:=17) (by kernel_rfl) rfl (by rfl) (.int .i64 ((a+i:Nat):Int)) (yH rfl rfl rfl (by omega)) ?_;simp only[sP,sB,sC];refine zG (k:=18) (by kernel_rfl) rfl (by rfl) (.pointer (some ⟨gd,(a+i)*2,none⟩)) (xJ rfl rfl rfl (by omega)) ?_;simp only[sP,sB,sC];refine jR (k:=13) (by kernel_rfl) rfl (by rfl) (.agg (pkV M[b+i])) (fun W hW=>qA rfl hW (by omega) rfl) hDD ?_;simp only[Act.put,sA,sB,sC];refine jR (k:=19) (by kernel_rfl) rfl (by rfl) (.agg (pkV M[a+i])) (fun W hW=>qA rfl hW (by omega) rfl) hDD ?_;simp only[Act.put,sA,sB,sC];refine zG (k:=20) (by kernel_rfl) rfl (by rfl) (.pointer (some ⟨gd,(a+i)*2,none⟩)) (xJ rfl rfl rfl (by omega)) ?_;simp only[sP,sB,sC];refine xR (k:=21) (by kernel_rfl) rfl ?_;refine zBK rfl _ _ rfl gd M tl hDD (a+i) (by omega) M[b+i] (hone _ (wE2 _)) rfl rfl ?_;intro w5 hD5 hu5;refine zX ⟨fun h=>(by cases h), ?_⟩;simp only[Act.put,sA,sB,sC];refine zG (k:=22) (by kernel_rfl) rfl (by rfl) (.pointer (some ⟨gd,(b+i)*2,none⟩)) (xJ rfl rfl rfl (by omega)) ?_;simp only[sP,sB,sC];refine xR (k:=23) (by kernel_rfl) rfl ?_;refine zBK rfl _ _ rfl gd (M.set (a+i) M[b+i]) tl hD5 (b+i) (by rw[wP7];omega) M[a+i] (hone _ (wE2 _)) rfl rfl ?_;intro w6 hD6 hu6;refine zX ⟨fun h=>(by cases h), ?_⟩;simp only[Act.put,sA,sB,sC];refine vP (by kernel_rfl) ?_;have hD7:DS w6 gd (swp pk0 M (a+i) (b+i)) tl:=by rw[←zLW M (a+i) (b+i) (by omega) (by omega)];exact hD6
   have hu7:=(hu4.trans hu5 (fun x h=>.inl h)).trans hu6 (fun x h=>.inl h);have hsw':=hsw.step pk0 (by omega) (by have:=HN.out;omega);go_wp2_with ((with_reducible apply gS 15);refine zB rfl (.int .i64 ((i+1:Nat):Int)) (yH (i:=i) (d:=1) rfl rfl rfl (by omega)) ?_)
   go_roundw
   case rel=>exact⟨i+1,swp pk0 M (a+i) (b+i),by omega,by go_num,hD7,hsw',hu7⟩
   case measure=>simp[intOf];omega
  ·obtain rfl:i=k:=by omega
   go_wp2_with ((with_reducible apply gS 13);refine zB rfl (.bool false) (zZ rfl rfl rfl (by simp)) ?_)
   go_end0
   exact⟨rfl,M,hD,hsw,hu⟩
def zRr (gd:Nat) (L:List Pk) (tl:List Value) (n c a m b:Nat) (w:World) (hn:L.length=n) (hn2:n≤1000000) (ham:a<m) (hmb:m<b) (hbn:b≤n) (hone:OnesP L) (hD:DS w gd L tl) :
 Calls Tryz.prog 215 #[.slice (some ⟨gd,0,none⟩) n c,.int .i64 (a:Int),.int .i64 (m:Int),.int .i64 (b:Int),.func (.func 148) #[] #[]] w fun e w'=>e=.returned (.tuple #[])∧ ∃ M,DS w' gd M tl∧(M.Perm L∧ ∀ x,at_ pk0 M x=zBB pk0 L a m b x)∧Upd (fun x=>x=gd) w w':=by
 have HN:=zA hn;have HONE:=zA hone;have HS:=zA (fun (M:List Pk) a b k W (h1:a+k≤b) (h2:b+k≤n) (hM:M.Perm L) (h:DS W gd M tl)=>zOt gd M tl n c a b k W (hM.length_eq.trans hn) hn2 h1 h2 (hone.perm hM) h);clear hn hone;have hr0:=Rot.start pk0 L a m b (by omega) (by omega);go_enter Tryz.func215,Tryz.ntmps215
 go_upto_region 2 with (first
  | ((with_reducible apply gS 14);refine zB rfl (.int .i64 ((m-a:Nat):Int)) (xH rfl rfl rfl (by omega) (by omega)) ?_)
  | ((with_reducible apply gS 17);refine zB rfl (.int .i64 ((b-m:Nat):Int)) (xH rfl rfl rfl (by omega) (by omega)) ?_))
 go_loopw [10,11] (fun iv jv wr=> ∃ (i j:Nat) (M:List Pk),1≤i∧1≤j∧i≤m-a∧j≤b-m∧iv=.int .i64 (i:Int)∧jv=.int .i64 (j:Int)∧DS wr gd M tl∧Rot pk0 L M a m b i j∧Upd (fun x=>x=gd) w wr) (fun i j _=>(intOf i).toNat+(intOf j).toNat)
 case atStart=>exact⟨m-a,b-m,L,by omega,by omega,by omega,by omega,rfl,rfl,hD,hr0,Upd.refl _ w⟩
 case round =>
  clear hD hr0;obtain⟨i,j,M,hi1,hj1,hi,hj,rfl,rfl,hD,hrot,hu⟩:=hrel
  by_cases heq:i=j
  ·subst heq;have HS1:=zA (HS.out M (m-i) m i wr (by omega) (by omega) hrot.perm hD)
   go_wp2_with (first
    | ((with_reducible apply gS 20);refine zB rfl (.bool false) (jZ rfl rfl rfl (by simp)) ?_)
    | ((with_reducible apply gS 53);refine zB rfl (.int .i64 ((m-i:Nat):Int)) (xH rfl rfl rfl (by omega) (by omega)) ?_)
    | (go_at_call 220;(with_reducible refine HS1.out.mono ?_);rintro e w3 ⟨rfl,N,hD3,hsw,hu3⟩))
   go_end0
   exact⟨rfl,N,hD3,hrot.last pk0 (by omega) hsw,hu.trans hu3 (fun x h=>.inl h)⟩
  ·by_cases hgt:j<i
   ·have HS1:=zA (HS.out M (m-i) m j wr (by omega) (by omega) hrot.perm hD)
    go_wp2_with (first
     | ((with_reducible apply gS 20);refine zB rfl (.bool true) (jZ rfl rfl rfl (by simpa using heq)) ?_)
     | ((with_reducible apply gS 23);refine zB rfl (.bool true) (xU rfl rfl rfl (by simpa using hgt)) ?_)
     | ((with_reducible apply gS 27);refine zB rfl (.int .i64 ((m-i:Nat):Int)) (xH rfl rfl rfl (by omega) (by omega)) ?_)
     | (go_at_call 220;(with_reducible refine HS1.out.mono ?_);rintro e w3 ⟨rfl,N,hD3,hsw,hu3⟩)
     | ((with_reducible apply gS 34);refine zB rfl (.int .i64 ((i-j:Nat):Int)) (xH rfl rfl rfl (by omega) (by omega)) ?_))
    go_roundw
    case rel=>exact⟨i-j,j,N,by omega,hj1,by omega,hj,by go_num,rfl,hD3,hrot.left pk0 hgt (by omega) hsw,hu.trans hu3 (fun x h=>.inl h)⟩
    case measure=>simp[intOf];omega
   ·have HS1:=zA (HS.out M (m-i) (m+j-i) i wr (by omega) (by omega) hrot.perm hD)
    go_wp2_with (first
     | ((with_reducible apply gS 20);refine zB rfl (.bool true) (jZ rfl rfl rfl (by simpa using heq)) ?_)
     | ((with_reducible apply gS 23);refine zB rfl (.bool false) (xU rfl rfl rfl (by simpa using hgt)) ?_)
     | ((with_reducible apply gS 38);refine zB rfl (.int .i64 ((m-i:Nat):Int)) (xH rfl rfl rfl (by omega) (by omega)) ?_)
     | ((with_reducible apply gS 41);refine zB rfl (.int .i64 ((m+j:Nat):Int)) (yH rfl rfl rfl (by omega)) ?_)
     | ((with_reducible apply gS 43);refine zB rfl (.int .i64 ((m+j-i:Nat):Int)) (xH rfl rfl rfl (by omega) (by omega)) ?_)
     | (go_at_call 220;(with_reducible refine HS1.out.mono ?_);rintro e w3 ⟨rfl,N,hD3,hsw,hu3⟩)
     | ((with_reducible apply gS 49);refine zB rfl (.int .i64 ((j-i:Nat):Int)) (xH rfl rfl rfl (by omega) (by omega)) ?_))
    go_roundw
    case rel=>exact⟨i,j-i,N,hi1,by omega,hi,by omega,rfl,by go_num,hD3,hrot.right pk0 (by omega) (by omega) hsw,hu.trans hu3 (fun x h=>.inl h)⟩
    case measure=>simp[intOf];omega
end
section
open SM
def rot_id {α:Type} (d:α) {L:List α} {s m e:Nat} (h:s=m∨e=m) (x:Nat):zBB d L s m e x=at_ d L x:=by
 unfold zBB;split
 ·split
  ·congr 1;omega
  ·congr 1;omega
 ·rfl
def symG_any (gd:Nat) (L:List Pk) (tl:List Value) (n c a m b:Nat) (w:World) (hn:L.length=n) (hn2:n≤1000000) (ham:a+1<m) (hmb:m+1<b) (hbn:b≤n) (hone:OnesP L) (hD:DS w gd L tl) (h1:Sorted pk0 pw L a m) (h2:Sorted pk0 pw L m b)
 (HR: ∀ a' m' b' M W,a≤a'→a'<m'→m'<b'→b'≤b→b'-a'<b-a→M.Perm L→DS W gd M tl→Sorted pk0 pw M a' m'→Sorted pk0 pw M m' b'→Calls Tryz.prog 207 #[.slice (some ⟨gd,0,none⟩) n c,.int .i64 (a':Int),.int .i64 (m':Int),.int .i64 (b':Int),.func (.func 148) #[] #[]] W (zEG gd M tl a' b' W)) :
 Calls Tryz.prog 207 #[.slice (some ⟨gd,0,none⟩) n c,.int .i64 (a:Int),.int .i64 (m:Int),.int .i64 (b:Int),.func (.func 148) #[] #[]] w (zEG gd L tl a b w):=by
 have HN:=zA hn;have HONE:=zA hone;have HS1:=zA h1;have HS2:=zA h2;have HRR:=zA HR;clear hn hone h1 h2 HR;obtain⟨md,hm,hk1,hk2⟩: ∃ md,(a+b)/2=md∧2*md≤a+b∧a+b<2*md+2:=⟨_,rfl,by omega,by omega⟩
 obtain⟨nn,hnn⟩: ∃ nn,md+m=nn:=⟨_,rfl⟩
 obtain⟨s0,hs0⟩: ∃ s0,Hid (s0=if md<m then nn-b else a):=⟨_,zA rfl⟩
 obtain⟨r0,hr0⟩: ∃ r0,Hid (r0=if md<m then md else m):=⟨_,zA rfl⟩
 go_enter Tryz.func207,Tryz.ntmps207
 go_upto_if 140 with (first
  | ((with_reducible apply gS 140);refine zB rfl (.bool (decide (md<m))) (xU rfl rfl rfl (by simp)) ?_)
  | ((with_reducible apply gS 27);refine zB rfl (.int .i64 ((m-a:Nat):Int)) (xH rfl rfl rfl (by omega) (by omega)) ?_)
  | ((with_reducible apply gS 28);refine zB rfl (.bool false) (jQ rfl rfl rfl (by simp;omega)) ?_)
  | ((with_reducible apply gS 79);refine zB rfl (.int .i64 ((b-m:Nat):Int)) (xH rfl rfl rfl (by omega) (by omega)) ?_)
  | ((with_reducible apply gS 80);refine zB rfl (.bool false) (jQ rfl rfl rfl (by simp;omega)) ?_)
  | ((with_reducible apply gS 131);refine zB rfl (.int .i64 ((a+b:Nat):Int)) (yH rfl rfl rfl (by omega)) ?_)
  | ((with_reducible apply gS 132);refine zB rfl (.int .u64 ((a+b:Nat):Int)) (zFO rfl rfl (by omega)) ?_)
  | ((with_reducible apply gS 133);refine zB rfl (.int .u64 ((md:Nat):Int)) (by rw[←hm];exact zCv rfl rfl rfl) ?_)
  | ((with_reducible apply gS 134);refine zB rfl (.int .i64 ((md:Nat):Int)) (zFZ rfl rfl (by omega)) ?_)
  | ((with_reducible apply gS 137);refine zB rfl (.int .i64 ((nn:Nat):Int)) (by rw[←hnn];exact yH rfl rfl rfl (by omega)) ?_))
 simp only[Act.put,sA,sB,sC]
 go_cut [20,21] from 140 to 146 (fun sv rv wx=>sv=.int .i64 (s0:Int)∧rv=.int .i64 (r0:Int)∧wx=w)
 case first =>
  by_cases hq:md<m
  ·rw[wL0 hq]
   go_wp2_with (first
    | ((with_reducible apply gS 143);refine zB rfl (.int .i64 ((nn-b:Nat):Int)) (xH rfl rfl rfl (by omega) (by omega)) ?_))
   go_meet;refine⟨by rw[hs0.out,if_pos hq],by rw[hr0.out,if_pos hq],rfl⟩
  ·rw[wL1 hq];go_wp2_with fail;go_meet;refine⟨by rw[hs0.out,if_neg hq],by rw[hr0.out,if_neg hq],rfl⟩
 case rest =>
 obtain⟨e1,e2,hwx⟩:=hcut;have hwy:=hwx.symm;subst hwy e1 e2;clear hwx
 have hsr:s0≤r0∧a≤s0∧r0≤m∧r0≤md∧nn-s0≤b:=by
  have e1:=hs0.out;have e2:=hr0.out
  by_cases hq:md<m
  ·rw[if_pos hq] at e1 e2;omega
  ·rw[if_neg hq] at e1 e2;omega
 go_upto_region 33 with ((with_reducible apply gS 148);refine zB rfl (.int .i64 ((nn-1:Nat):Int)) (xH (i:=nn) (d:=1) rfl rfl rfl (by omega) (by omega)) ?_)
 go_loopw [20,21] (fun sv rv wr=> ∃ (s r:Nat),s0≤s∧s≤r∧r≤r0∧sv=.int .i64 (s:Int)∧rv=.int .i64 (r:Int)∧DS wr gd L tl∧(s=s0∨wA pk0 pw L (s-1)≤wA pk0 pw L (nn-s))∧(r=r0∨wA pk0 pw L (nn-r-1)≤wA pk0 pw L r)∧Upd (fun x=>x=gd) w wr) (fun i j _=>(intOf j).toNat-(intOf i).toNat)
 case atStart=>exact⟨s0,r0,by omega,by omega,by omega,rfl,rfl,hD,.inl rfl,.inl rfl,Upd.refl _ w⟩
 case round =>
  clear hD;obtain⟨s,r,hss,hsr',hrr,rfl,rfl,hD,hlo,hhi,hu⟩:=hrel;have hml:=HN.out
  by_cases hlt:s<r
  ·have hDd:DS wr.drew gd L tl:=Blk.drew hD;obtain⟨h,hh,hh1,hh2⟩: ∃ h,(s+r)/2=h∧s≤h∧h<r:=⟨_,rfl,by omega,by omega⟩
   by_cases hls:wA pk0 pw L (nn-1-h)<wA pk0 pw L h
   ·have hB:decide (zAV (L[nn-1-h]'(by omega)).1 (L[h]'(by omega)).1<0)=true:=by
     rw[zCY, ←zAC L _ (by omega), ←zAC L h (by omega)];simpa using hls
    go_wp2_with (first
     | ((with_reducible apply gS 151);refine zB rfl (.bool true) (zZ rfl rfl rfl (by simpa using hlt)) ?_)
     | ((with_reducible apply gS 154);refine zB rfl (.int .i64 ((s+r:Nat):Int)) (yH rfl rfl rfl (by omega)) ?_)
     | ((with_reducible apply gS 155);refine zB rfl (.int .u64 ((s+r:Nat):Int)) (zFO rfl rfl (by omega)) ?_)
     | ((with_reducible apply gS 156);refine zB rfl (.int .u64 ((h:Nat):Int)) (by rw[←hh];exact zCv rfl rfl rfl) ?_)
     | ((with_reducible apply gS 157);refine zB rfl (.int .i64 ((h:Nat):Int)) (zFZ rfl rfl (by omega)) ?_))
    refine qI qS (by kernel_rfl) (by kernel_rfl) ?_;refine zI (by rfl) (.func (.func 148) #[] #[]) (zC rfl rfl) ?_;simp only[sP,sB,sC];refine zI (by rfl) (.slice (some ⟨gd,0,none⟩) n c) (zC rfl rfl) ?_;simp only[sP,sB,sC];refine zI (by rfl) (.int .i64 ((nn-1:Nat):Int)) (zC rfl rfl) ?_;simp only[sP,sB,sC];refine zI (by rfl) (.int .i64 ((h:Nat):Int)) (zC rfl rfl) ?_;simp only[sP,sB,sC];refine zI (by rfl) (.int .i64 ((nn-1-h:Nat):Int)) (xH rfl rfl rfl (by omega) (by omega)) ?_;simp only[sP,sB,sC];refine zI (by rfl) (.pointer (some ⟨gd,(nn-1-h)*2,none⟩)) (xJ rfl rfl rfl (by omega)) ?_;simp only[sP,sB,sC];refine xL (by rfl) (.agg (pkV (L[nn-1-h]'(by omega)))) (fun W hW=>qA rfl (hDd.ext hW) (by omega) rfl) ?_;simp only[sP,sB,sC];refine zI (by rfl) (.slice (some ⟨gd,0,none⟩) n c) (zC rfl rfl) ?_;simp only[sP,sB,sC];refine zI (by rfl) (.int .i64 ((h:Nat):Int)) (zC rfl rfl) ?_;simp only[sP,sB,sC];refine zI (by rfl) (.pointer (some ⟨gd,(h)*2,none⟩)) (xJ rfl rfl rfl (by omega)) ?_;simp only[sP,sB,sC];refine xL (by rfl) (.agg (pkV (L[h]'(by omega)))) (fun W hW=>qA rfl (hDd.ext hW) (by omega) rfl) ?_;simp only[sP,sB,sC];refine zCP (by rfl) _ _ _ rfl rfl zER #[.agg (pkV (L[nn-1-h]'(by omega))),.agg (pkV (L[h]'(by omega)))] (by simp[Act.eval]) (.int .i64 (zAV (L[nn-1-h]'(by omega)).1 (L[h]'(by omega)).1)) (fun W h=>zAT _ _ W) ?_;simp only[Act.put,sA,sB,sC];refine zI (by rfl) (.bool true) (zZ rfl rfl rfl hB) ?_;simp only[sP,sB,sC];refine zI (by rfl) (.bool false) (zIX (b:=true) rfl rfl) ?_;simp only[sP,sB,sC];refine vH ?_;intro w4 hx4;have hD4:=hDd.ext hx4;have hu4:Upd (fun x=>x=gd) w w4:=hu.drew.trans (Upd.of_ext (S:=fun _=>False) hx4) (fun _ h=>h.elim);go_wp2_with fail;go_roundw
    case rel=>exact⟨s,h,hss,by omega,by omega,rfl,rfl,hD4,hlo,.inr (by rw[show nn-h-1=nn-1-h by omega];omega),hu4⟩
    case measure=>simp[intOf];omega
   ·have hB:decide (zAV (L[nn-1-h]'(by omega)).1 (L[h]'(by omega)).1<0)=false:=by
     rw[zCY, ←zAC L _ (by omega), ←zAC L h (by omega)];simpa using hls
    go_wp2_with (first
     | ((with_reducible apply gS 151);refine zB rfl (.bool true) (zZ rfl rfl rfl (by simpa using hlt)) ?_)
     | ((with_reducible apply gS 154);refine zB rfl (.int .i64 ((s+r:Nat):Int)) (yH rfl rfl rfl (by omega)) ?_)
     | ((with_reducible apply gS 155);refine zB rfl (.int .u64 ((s+r:Nat):Int)) (zFO rfl rfl (by omega)) ?_)
     | ((with_reducible apply gS 156);refine zB rfl (.int .u64 ((h:Nat):Int)) (by rw[←hh];exact zCv rfl rfl rfl) ?_)
     | ((with_reducible apply gS 157);refine zB rfl (.int .i64 ((h:Nat):Int)) (zFZ rfl rfl (by omega)) ?_))
    refine qI qS (by kernel_rfl) (by kernel_rfl) ?_;refine zI (by rfl) (.func (.func 148) #[] #[]) (zC rfl rfl) ?_;simp only[sP,sB,sC];refine zI (by rfl) (.slice (some ⟨gd,0,none⟩) n c) (zC rfl rfl) ?_;simp only[sP,sB,sC];refine zI (by rfl) (.int .i64 ((nn-1:Nat):Int)) (zC rfl rfl) ?_;simp only[sP,sB,sC];refine zI (by rfl) (.int .i64 ((h:Nat):Int)) (zC rfl rfl) ?_;simp only[sP,sB,sC];refine zI (by rfl) (.int .i64 ((nn-1-h:Nat):Int)) (xH rfl rfl rfl (by omega) (by omega)) ?_;simp only[sP,sB,sC];refine zI (by rfl) (.pointer (some ⟨gd,(nn-1-h)*2,none⟩)) (xJ rfl rfl rfl (by omega)) ?_;simp only[sP,sB,sC];refine xL (by rfl) (.agg (pkV (L[nn-1-h]'(by omega)))) (fun W hW=>qA rfl (hDd.ext hW) (by omega) rfl) ?_;simp only[sP,sB,sC];refine zI (by rfl) (.slice (some ⟨gd,0,none⟩) n c) (zC rfl rfl) ?_;simp only[sP,sB,sC];refine zI (by rfl) (.int .i64 ((h:Nat):Int)) (zC rfl rfl) ?_;simp only[sP,sB,sC];refine zI (by rfl) (.pointer (some ⟨gd,(h)*2,none⟩)) (xJ rfl rfl rfl (by omega)) ?_;simp only[sP,sB,sC];refine xL (by rfl) (.agg (pkV (L[h]'(by omega)))) (fun W hW=>qA rfl (hDd.ext hW) (by omega) rfl) ?_;simp only[sP,sB,sC];refine zCP (by rfl) _ _ _ rfl rfl zER #[.agg (pkV (L[nn-1-h]'(by omega))),.agg (pkV (L[h]'(by omega)))] (by simp[Act.eval]) (.int .i64 (zAV (L[nn-1-h]'(by omega)).1 (L[h]'(by omega)).1)) (fun W h=>zAT _ _ W) ?_;simp only[Act.put,sA,sB,sC];refine zI (by rfl) (.bool false) (zZ rfl rfl rfl hB) ?_;simp only[sP,sB,sC];refine zI (by rfl) (.bool true) (zIX (b:=false) rfl rfl) ?_;simp only[sP,sB,sC];refine vH ?_;intro w4 hx4;have hD4:=hDd.ext hx4;have hu4:Upd (fun x=>x=gd) w w4:=hu.drew.trans (Upd.of_ext (S:=fun _=>False) hx4) (fun _ h=>h.elim);go_wp2_with ((with_reducible apply gS 173);refine zB rfl (.int .i64 ((h+1:Nat):Int)) (yH (i:=h) (d:=1) rfl rfl rfl (by omega)) ?_)
    go_roundw
    case rel=>exact⟨h+1,r,by omega,by omega,hrr,by go_num,rfl,hD4,.inr (by rw[wJ1,show nn-(h+1)=nn-1-h by omega];omega),hhi,hu4⟩
    case measure=>simp[intOf];omega
  ·obtain rfl:s=r:=by omega
   have hf:SM.Found pk0 pw L a m b md s:=⟨by rw[hnn, ←hs0.out];exact hss,by rw[←hr0.out];exact hrr,by rw[hnn, ←hs0.out];exact hlo,by rw[hnn, ←hr0.out];exact hhi⟩
   obtain⟨⟨c1,c2,c3,c4,c5⟩, -, -⟩:=hf.at_ pk0 pw (by omega) (by omega) hk1 hk2
   obtain⟨e,he⟩: ∃ e,nn-s=e:=⟨_,rfl⟩
   have HHV:=zA (fun (N:List Pk) (h: ∀ x,at_ pk0 N x=zBB pk0 L s m e x)=>halves pk0 pw (N:=N) (by omega) (by omega) hk1 hk2 HS1.out HS2.out hf (by rw[hnn,he];exact h));rw[hnn,he] at HHV;rw[hnn,he] at c4 c5;clear hf hlo hhi hss hrr hsr hs0 hr0 hsr'
   go_upto_region 39 with (first
    | ((with_reducible apply gS 151);refine zB rfl (.bool false) (zZ rfl rfl rfl (by simp)) ?_)
    | ((with_reducible apply gS 177);refine zB rfl (.int .i64 ((e:Nat):Int)) (by rw[←he];exact xH rfl rfl rfl (by omega) (by omega)) ?_))
   go_cut [185] from 178 to 185 (fun cv wx=>cv=.bool (decide (s<m∧m<e))∧wx=wr)
   case first =>
    by_cases hq:s<m
    ·by_cases hq2:m<e
     ·go_wp2_with (first
       | ((with_reducible apply gS 180);refine zB rfl (.bool true) (zZ rfl rfl rfl (by simpa using hq)) ?_)
       | ((with_reducible apply gS 184);refine xA (by rfl) (.bool true) (zZ rfl rfl rfl (by simpa using hq2)) ?_))
      go_meet;exact⟨by rw[wL0 (show s<m∧m<e from ⟨hq,hq2⟩)],rfl⟩
     ·go_wp2_with (first
       | ((with_reducible apply gS 180);refine zB rfl (.bool true) (zZ rfl rfl rfl (by simpa using hq)) ?_)
       | ((with_reducible apply gS 184);refine xA (by rfl) (.bool false) (zZ rfl rfl rfl (by simpa using hq2)) ?_))
      go_meet;exact⟨by rw[wL1 (show ¬(s<m∧m<e) from fun h=>hq2 h.2)],rfl⟩
    ·go_wp2_with ((with_reducible apply gS 180);refine zB rfl (.bool false) (zZ rfl rfl rfl (by simpa using hq)) ?_)
     go_meet;exact⟨by rw[wL1 (show ¬(s<m∧m<e) from fun h=>hq h.1)],rfl⟩
   case rest =>
   obtain⟨e1,hwx⟩:=hcut;have hwy:=hwx.symm;subst hwy e1;clear hwx;go_upto_if 185 with fail
   go_cut [] from 185 to 191 (fun wx=> ∃ N,DS wx gd N tl∧(N.Perm L∧ ∀ x,at_ pk0 N x=zBB pk0 L s m e x)∧Upd (fun x=>x=gd) w wx)
   case first =>
    by_cases hq:s<m∧m<e
    ·have HROT:=zA (zRr gd L tl n c s m e wr HN.out hn2 hq.1 hq.2 (by omega) HONE.out hD);rw[wL0 hq];go_wp2_with (go_at_call 215;(with_reducible refine HROT.out.mono ?_);rintro e9 w3 ⟨rfl,N,hD3,hrot,hu3⟩)
     go_meet;exact⟨N,hD3,hrot,hu.trans hu3 (fun x h=>.inl h)⟩
    ·rw[wL1 hq];go_wp2_with fail;go_meet;exact⟨L,hD,⟨.refl _,fun x=>(rot_id pk0 (by omega) x).symm⟩,hu⟩
   case rest =>
   obtain⟨N,hDN,⟨hNp,hNr⟩,huN⟩:=hcut;obtain⟨k1,k2,k3,k4,k5⟩:=HHV.out N hNr;have hNseg:=rot_seg pk0 ⟨hNp,hNr⟩ c1 c5;clear hD hu HHV hNr;go_upto_region 41 with fail
   go_cut [199] from 192 to 199 (fun cv wx=>cv=.bool (decide (a<s∧s<md))∧wx=wc)
   case first =>
    by_cases hq:a<s
    ·by_cases hq2:s<md
     ·go_wp2_with (first
       | ((with_reducible apply gS 194);refine zB rfl (.bool true) (zZ rfl rfl rfl (by simpa using hq)) ?_)
       | ((with_reducible apply gS 198);refine xA (by rfl) (.bool true) (zZ rfl rfl rfl (by simpa using hq2)) ?_))
      go_meet;exact⟨by rw[wL0 (show a<s∧s<md from ⟨hq,hq2⟩)],rfl⟩
     ·go_wp2_with (first
       | ((with_reducible apply gS 194);refine zB rfl (.bool true) (zZ rfl rfl rfl (by simpa using hq)) ?_)
       | ((with_reducible apply gS 198);refine xA (by rfl) (.bool false) (zZ rfl rfl rfl (by simpa using hq2)) ?_))
      go_meet;exact⟨by rw[wL1 (show ¬(a<s∧s<md) from fun h=>hq2 h.2)],rfl⟩
    ·go_wp2_with ((with_reducible apply gS 194);refine zB rfl (.bool false) (zZ rfl rfl rfl (by simpa using hq)) ?_)
     go_meet;exact⟨by rw[wL1 (show ¬(a<s∧s<md) from fun h=>hq h.1)],rfl⟩
   case rest =>
   obtain⟨e1,hwx⟩:=hcut;have hwy:=hwx.symm;subst hwy e1;clear hwx;go_upto_if 199 with fail
   go_cut [] from 199 to 205 (fun wx=> ∃ N1,DS wx gd N1 tl∧Seg pk0 N N1 a md∧Sorted pk0 pw N1 a md∧Upd (fun x=>x=gd) w wx)
   case first =>
    by_cases hq:a<s∧s<md
    ·have HRC:=zA (HRR.out a s md N wc (by omega) hq.1 hq.2 (by omega) (by omega) hNp hDN k1 k2);rw[wL0 hq];go_wp2_with (go_at_call 207;(with_reducible refine HRC.out.mono ?_);rintro e9 w3 ⟨rfl,N1,hD3,hs3,ho3,hu3⟩)
     go_meet;exact⟨N1,hD3,hs3,ho3,huN.trans hu3 (fun x h=>.inl h)⟩
    ·rw[wL1 hq];go_wp2_with fail;go_meet;exact⟨N,hDN,Seg.refl pk0 _ _ _,(by by_cases h1:a<s;(obtain rfl:s=md:=by omega);exact k1;(obtain rfl:a=s:=by omega);exact k2),huN⟩
   case rest =>
   obtain⟨N1,hD1,hseg1,hsor1,hu1⟩:=hcut;have hp1:=hseg1.perm.trans hNp;have k3':=k3.of_out pk0 pw hseg1 (.inr (wA5 _));have k4':=k4.of_out pk0 pw hseg1 (.inr (by omega))
   have hfin: ∀ N2,Seg pk0 N1 N2 md b→Sorted pk0 pw N2 md b→Seg pk0 L N2 a b∧Sorted pk0 pw N2 a b:=fun N2 q1 q2 =>
    ⟨((hNseg.wide pk0 c2 c4).trans pk0 (hseg1.wide pk0 (wA5 _) (by omega))).trans pk0 (q1.wide pk0 (by omega) (wA5 _)),zOm pk0 pw k5 hseg1 hsor1 q1 q2 (by omega) (by omega)⟩
   have HFIN:=zA hfin;clear hfin k5 k1 k2 k3 k4 hDN huN hNseg
   by_cases hq:md<e
   ·by_cases hq2:e<b
    ·have HRC:=zA (HRR.out md e b N1 wc (by omega) hq hq2 (by omega) (by omega) hp1 hD1 k3' k4')
     go_wp2_with (first
      | ((with_reducible apply gS 208);refine zB rfl (.bool true) (zZ rfl rfl rfl (by simpa using hq)) ?_)
      | ((with_reducible apply gS 212);refine xA (by rfl) (.bool true) (zZ rfl rfl rfl (by simpa using hq2)) ?_)
      | (go_at_call 207;(with_reducible refine HRC.out.mono ?_);rintro e9 w3 ⟨rfl,N2,hD3,hs3,ho3,hu3⟩))
     go_end0
     exact⟨rfl,N2,hD3,(HFIN.out N2 hs3 ho3).1,(HFIN.out N2 hs3 ho3).2,hu1.trans hu3 (fun x h=>.inl h)⟩
    ·obtain rfl:e=b:=by omega
     go_wp2_with (first
      | ((with_reducible apply gS 208);refine zB rfl (.bool true) (zZ rfl rfl rfl (by simpa using hq)) ?_)
      | ((with_reducible apply gS 212);refine xA (by rfl) (.bool false) (zZ rfl rfl rfl (by simp)) ?_))
     go_end0
     exact⟨rfl,N1,hD1,(HFIN.out N1 (Seg.refl pk0 _ _ _) k3').1,(HFIN.out N1 (Seg.refl pk0 _ _ _) k3').2,hu1⟩
   ·obtain rfl:md=e:=by omega
    go_wp2_with ((with_reducible apply gS 208);refine zB rfl (.bool false) (zZ rfl rfl rfl (by simp)) ?_)
    go_end0
    exact⟨rfl,N1,hD1,(HFIN.out N1 (Seg.refl pk0 _ _ _) k4').1,(HFIN.out N1 (Seg.refl pk0 _ _ _) k4').2,hu1⟩
end
end Go.Proofs.YtkggcjdlpendfaaGreatDoor
