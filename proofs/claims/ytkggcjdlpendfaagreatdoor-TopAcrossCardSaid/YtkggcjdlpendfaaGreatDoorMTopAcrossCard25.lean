/- Part 25. -/
import Derived.Test.YtkggcjdlpendfaaGreatDoorRows
import Derived.JoinedCond
import Derived.Test.YtkggcjdlpendfaaGreatDoorCards
import Derived.Test.YtkggcjdlpendfaaGreatDoorTie
import Derived.Deep.DeepHandedRow
import Derived.Lib.LaidTab
import Derived.Shelf.Vars
import Derived.Test.YtkggcjdlpendfaaGreatDoorMTopAcrossCard24
namespace Go.Proofs.YtkggcjdlpendfaaGreatDoor
set_option linter.all false
set_option maxRecDepth 20000
set_option maxHeartbeats 8000000
open Go.RowKit
theorem zSQ (n:Nat) (f g:Nat→Int):qQ n (fun k=>f k+g k)=qQ n f+qQ n g:=by
 induction n with
 | zero=>rfl
 | succ n ih=>rw[vK,vK,vK,ih];omega
theorem zSa (m n:Nat) (f:Nat→Nat→Int):qQ m (fun r=>qQ n (f r))=qQ n (fun c=>qQ m (fun r=>f r c)):=by
 induction m with
 | zero =>
   show (0:Int)=qQ n (fun _=>0)
   induction n with
   | zero=>rfl
   | succ n ih=>rw[vK, ←ih];rfl
 | succ m ih =>
   rw[vK,ih, ←zSQ]
   rfl
def trZ (B:List Int):List Int:=(List.range 64).map fun i=>B.getD (i%8*8+i/8) 0
theorem zAk (B:List Int):(trZ B).length=64:=by simp[trZ]
theorem zDY (B:List Int) (i:Nat) (h:i<64):(trZ B).getD i 0=B.getD (i%8*8+i/8) 0:=by simp[trZ,h]
theorem ext64 {A B:List Int} (ha:A.length=64) (hb:B.length=64) (h: ∀ i,i<64→A.getD i 0=B.getD i 0):A=B:=by
 refine wH9 (by omega) fun i h1 h2=> ?_
 have:=h i (by omega)
 rwa [wF4,wF4,wA2 h1,wA2 h2,wS6,wS6] at this
theorem zLL {B:List Int} (hB:B.length=64) (lo hi:Int):zM (trZ B) lo hi=zM B lo hi:=by
 rw[wE3,zY,zY]
 constructor
 ·intro h x hx
  obtain⟨i,hi,rfl⟩:=wK5 hx
  have hx2:B[i]∈trZ B:=by
   unfold trZ
   refine wD6.2 ⟨i%8*8+i/8,wB7.2 (by omega), ?_⟩
   rw[show (i%8*8+i/8)%8*8+(i%8*8+i/8)/8=i by omega,wF4,wA2 hi]
   rfl
  exact h _ hx2
 ·intro h x hx
  unfold trZ at hx
  obtain⟨i,hi,rfl⟩:=wD6.1 hx
  have hi:=wB7.1 hi
  rw[wF4,wA2 (by omega)]
  exact h _ (wE2 _)
theorem wave_tr (C:Nat→Nat→Int) (B:List Int) (i:Nat) (hi:i<64):zFN C (trZ B) i=zFN C B (i%8*8+i/8):=by
 unfold zFN
 rw[show 64=8*8 from rfl,zGl,zGl]
 have e1:qQ 8 (fun r=>qQ 8 (fun k=>zDt C (trZ B) i (8*r+k)))=qQ 8 (fun r=>qQ 8 (fun k=>B.getD (8*k+r) 0*C (i%8) k*C (i/8) r)):=by
  refine zCF _ _ _ fun r hr=>zCF _ _ _ fun k hk=> ?_
  unfold zDt
  rw[zDY _ _ (by omega),show (8*r+k)%8*8+(8*r+k)/8=8*k+r by omega,show (8*r+k)%8=k by omega,show (8*r+k)/8=r by omega]
 have e2:qQ 8 (fun r=>qQ 8 (fun k=>zDt C B (i%8*8+i/8) (8*r+k)))=qQ 8 (fun r=>qQ 8 (fun k=>B.getD (8*r+k) 0*C (i%8) r*C (i/8) k)):=by
  refine zCF _ _ _ fun r hr=>zCF _ _ _ fun k hk=> ?_
  unfold zDt
  rw[show (8*r+k)%8=k by omega,show (8*r+k)/8=r by omega,show (i%8*8+i/8)%8=i/8 by omega,show (i%8*8+i/8)/8=i%8 by omega,Int.mul_right_comm]
 rw[e1,e2,zSa]
theorem zPf (C:Nat→Nat→Int) (B:List Int) (i:Nat) (h:i<64):(zEZ C B).getD i 0=roundF (zFN C B i):=by
 unfold zEZ
 rw[zRK]
 simp[h]
theorem zOv (C:Nat→Nat→Int) (B:List Int) (hB:B.length=64):(vD C (trZ B)).1=trZ (vD C B).1:=by
 unfold vD
 rw[zLL hB]
 cases zM B (-40000) 40000 with
 | false =>
   show yG=trZ yG
   decide+kernel
 | true =>
   show zEZ C (trZ B)=trZ (zEZ C B)
   refine ext64 (zMr C _) (zAk _) fun i hi=> ?_
   rw[zPf _ _ _ hi,zDY _ _ hi,zPf _ _ _ (by omega),wave_tr C B i hi]
theorem zQK (F:Int→Int→Int) {a b:List Int} (ha:a.length=64) (hb:b.length=64) (i:Nat) (h:i<64):(List.zipWith F a b).getD i 0=F (a.getD i 0) (b.getD i 0):=by
 simp[wF4,List.getElem?_zipWith,ha,hb,h]
theorem both_tr (F:Int→Int→Int) {z q:List Int} (most:Int) (hz:z.length=64) (hq:q.length=64):(jF F (trZ z) (trZ q) most).1=trZ (jF F z q most).1:=by
 unfold jF
 rw[zLL hz,zLL hq]
 cases zM q 1 255 with
 | false =>
   show yG=trZ yG
   decide+kernel
 | true =>
   cases zM z (-most) most with
   | false =>
     show yG=trZ yG
     decide+kernel
   | true =>
     show List.zipWith F (trZ z) (trZ q)=trZ (List.zipWith F z q)
     refine ext64 (by rw[wO7,zAk,zAk];rfl) (zAk _) fun i hi=> ?_
     rw[zQK F (zAk _) (zAk _) i hi,zDY _ _ hi,zDY _ _ hi,zDY _ _ hi,zQK F hz hq _ (by omega)]
theorem clampL_tr {z:List Int} (hz:z.length=64):zAZ (trZ z)=trZ (zAZ z):=by
 refine ext64 (by rw[zDM,zAk]) (zAk _) fun i hi=> ?_
 have hg: ∀ (y:List Int) (j:Nat),y.length=64→j<64→(zAZ y).getD j 0=jI (y.getD j 0) (-40000) 40000:=fun y j hy hj=>by
  unfold zAZ
  simp[wF4,hy,hj]
 rw[hg _ _ (zAk _) hi,zDY _ _ hi,zDY _ _ hi,hg _ _ hz (by omega)]
def thru (B q:List Int):List Int:=shB (zDc B q) q
theorem thru_tr {B q:List Int} (hB:B.length=64) (hq:q.length=64):thru (trZ B) (trZ q)=trZ (thru B q):=by
 have h1:(vD toC B).1.length=64:=zBn toC B
 have e1:zDc (trZ B) (trZ q)=trZ (zDc B q):=by
  unfold zDc
  rw[zOv toC B hB,both_tr zBw 40000 h1 hq]
 have h2:(zDc B q).length=64:=zGy B q hq
 unfold thru
 rw[e1]
 unfold shB
 rw[both_tr upF 2047 h2 hq,zOv frC _ (zEL upF _ q 2047 h2 hq)]
 exact clampL_tr (zBn frC _)
def zEa (xs:List Int) (wd hi j:Nat):List Int:=(List.range 64).map fun i=>zFh xs wd hi j i
theorem zID (xs:List Int) (wd hi j:Nat):(zEa xs wd hi j).length=64:=by simp[zEa]
theorem zMq (X:List Int) (j i:Nat) (hi:i<64):X.getD (j*64+i) 0=(qH X j).getD i 0:=by
 unfold qH
 rw[wF4,wF4,wD0 hi,wB4]
theorem zSi (xs:List Int) (wd hi j:Nat) (h:j<yH wd hi):qH (vH xs wd hi) j=zEa xs wd hi j:=by
 have hl:(vH xs wd hi).length=yH wd hi*64:=zFB _ _ _
 refine ext64 (by unfold qH;rw[wI8,wK1,hl];omega) (zID _ _ _ _) fun i hi'=> ?_
 rw[←zMq _ _ _ hi']
 unfold vH zEa
 rw[wF4,wF4,wC0,wC0,wI7 (by omega),wI7 hi']
 simp only[wS2,wS6]
 rw[show (j*64+i)/64=j by omega,show (j*64+i)%64=i by omega]
theorem zPn {X Y:List Int} {k j:Nat} (hX:X.length=k*64) (hj:j<k):qH (X++Y) j=qH X j:=by
 unfold qH
 rw[wM6 (by omega),wM8 (by rw[wK1];omega)]
theorem zNS {X Y:List Int} {k:Nat} (hX:X.length=k*64) (hY:Y.length=64):qH (X++Y) k=Y:=by
 unfold qH
 rw[List.drop_left' hX,wC4 (by omega)]
theorem zOH (q X:List Int) (hq:q.length=64): ∀ (n j:Nat),j<n→qH (jQ q X n) j=zDc (qH X j) q
 | 0,j,h=>by omega
 | n+1,j,h=>by
   rw[jQ]
   by_cases hj:j=n
   ·subst hj;exact zNS (zDu q X hq j) (zGy _ q hq)
   ·rw[zPn (zDu q X hq n) (by omega)]
    exact zOH q X hq n j (by omega)
theorem zOU (q X:List Int): ∀ (n j:Nat),j<n→qH (zAX q X n) j=shB (qH X j) q
 | 0,j,h=>by omega
 | n+1,j,h=>by
   rw[zAX]
   by_cases hj:j=n
   ·subst hj;exact zNS (zDn q X j) (shB_len _ q)
   ·rw[zPn (zDn q X n) (by omega)]
    exact zOU q X n j (by omega)
theorem seen_at (xs q:List Int) (hq:q.length=64) (wd hi x y:Nat) (h1:1≤wd) (hx:x<wd) (hy:y<hi):(vN q (jQ q (vH xs wd hi) (yH wd hi)) wd hi 0).getD (y*wd+x) 0=jI ((thru (zEa xs wd hi (y/8*((wd+7)/8)+x/8)) q).getD (y%8*8+x%8) 0+128) 0 255:=by
 have hj:y/8*((wd+7)/8)+x/8<yH wd hi:=by
  have a1:x/8<(wd+7)/8:=by omega
  have a2:y/8+1≤(hi+7)/8:=by omega
  have a3:=wN5 ((wd+7)/8) a2
  unfold yH
  rw[Nat.mul_succ,wJ2] at a3
  omega
 have hp:y*wd+x<wd*hi:=by
  have:=wJ0 wd (show y+1≤hi by omega)
  rw[wP4,wJ2 hi] at this
  omega
 have hd:(y*wd+x)/wd=y∧(y*wd+x)%wd=x:=by
  rw[wJ2,wM3 (by omega),wM4 hx,wM2,wM0 hx]
  exact⟨rfl,rfl⟩
 have hs:sect (jQ q (vH xs wd hi) (yH wd hi)) (yH wd hi) 0=jQ q (vH xs wd hi) (yH wd hi):=by
  unfold sect
  rw[wQ6,wQ6,wL5,wC4 (by rw[zDu q _ hq];exact wA5 _)]
 unfold vN zGe
 rw[hs,wF4,wC0,wI7 hp]
 simp only[wS2,wS6]
 rw[hd.1,hd.2]
 unfold zKv zDm
 rw[zMq _ _ _ (by omega),zOU _ _ _ _ hj,zOH _ _ hq _ _ hj,zSi _ _ _ _ hj]
 rfl
theorem blkOf_tr (xs ys:List Int) (wd hi:Nat) (h1:1≤wd) (h2:1≤hi) (hb: ∀ x y,x<wd→y<hi→ys.getD (x*hi+y) 0=xs.getD (y*wd+x) 0) (bx br:Nat) (hbx:bx<(wd+7)/8) (hbr:br<(hi+7)/8) :
 zEa ys hi wd (bx*((hi+7)/8)+br)=trZ (zEa xs wd hi (br*((wd+7)/8)+bx)):=by
 refine ext64 (zID _ _ _ _) (zAk _) fun i hi'=> ?_
 have hg: ∀ (zs:List Int) (a b j k:Nat),k<64→(zEa zs a b j).getD k 0=zFh zs a b j k:=fun zs a b j k hk=>by simp[zEa,hk]
 rw[hg _ _ _ _ _ hi',zDY _ _ hi',hg _ _ _ _ _ (by omega)]
 unfold zFh
 have d1:(bx*((hi+7)/8)+br)/((hi+7)/8)=bx∧(bx*((hi+7)/8)+br)%((hi+7)/8)=br:=by
  rw[wJ2,wM3 (by omega),wM4 hbr,wM2,wM0 hbr]
  exact⟨rfl,rfl⟩
 have d2:(br*((wd+7)/8)+bx)/((wd+7)/8)=br∧(br*((wd+7)/8)+bx)%((wd+7)/8)=bx:=by
  rw[wJ2,wM3 (by omega),wM4 hbx,wM2,wM0 hbx]
  exact⟨rfl,rfl⟩
 rw[d1.1,d1.2,d2.1,d2.2,show (i%8*8+i/8)/8=i%8 by omega,show (i%8*8+i/8)%8=i/8 by omega,hb _ _ (by omega) (by omega)]
theorem across (xs ys q:List Int) (hq:q.length=64) (wd hi:Nat) (h1:1≤wd) (h2:1≤hi) (hb: ∀ x y,x<wd→y<hi→ys.getD (x*hi+y) 0=xs.getD (y*wd+x) 0) (x y:Nat) (hx:x<wd) (hy:y<hi) :
 (vN q (jQ q (vH xs wd hi) (yH wd hi)) wd hi 0).getD (y*wd+x) 0=(vN (trZ q) (jQ (trZ q) (vH ys hi wd) (yH hi wd)) hi wd 0).getD (x*hi+y) 0:=by
 rw[seen_at xs q hq wd hi x y h1 hx hy,seen_at ys (trZ q) (zAk q) hi wd y x h2 hy hx,blkOf_tr xs ys wd hi h1 h2 hb _ _ (by omega) (by omega),thru_tr (zID _ _ _ _) hq,zDY _ _ (by omega),show (x%8*8+y%8)%8*8+(x%8*8+y%8)/8=y%8*8+x%8 by omega]
end Go.Proofs.YtkggcjdlpendfaaGreatDoor
namespace Go.Proofs.YtkggcjdlpendfaaGreatDoor.topAcross
set_option linter.all false
set_option maxRecDepth 20000
set_option maxHeartbeats 8000000
open Go.RowKit
def val (l:List Int) (k:Nat):Int:=if l.length=0 then 0 else wrap64 (l.getD (k%l.length) 0+((k/9:Nat):Int))%256
theorem val_in (l:List Int) (k:Nat):0≤val l k∧val l k≤255:=by
 unfold val
 split
 ·omega
 ·have h1:=Int.emod_nonneg (wrap64 (l.getD (k%l.length) 0+((k/9:Nat):Int))) (show (256:Int)≠0 by omega)
  have h2:=Int.emod_lt_of_pos (wrap64 (l.getD (k%l.length) 0+((k/9:Nat):Int))) (show (0:Int)<256 by omega)
  omega
theorem side_of (z:Int): ∃ a:Nat,z%30+1=(a:Int)∧1≤a∧a≤30:=by
 have h1:=Int.emod_nonneg z (show (30:Int)≠0 by omega)
 have h2:=Int.emod_lt_of_pos z (show (0:Int)<30 by omega)
 exact⟨(z%30+1).toNat,by omega,by omega,by omega⟩
def zBy (M:Nat) (r:Nat→Nat) (G:Nat→Int) (k:Nat):List Int:=(List.range M).map fun m=>if r m<k then G (r m) else 0
theorem zKZ (M:Nat) (r:Nat→Nat) (G:Nat→Int) (k:Nat):(zBy M r G k).length=M:=by simp[zBy]
theorem zMK (M:Nat) (r:Nat→Nat) (G:Nat→Int) (k i:Nat):(zBy M r G k)[i]? =if i<M then some (if r i<k then G (r i) else 0) else none:=by
 unfold zBy
 rw[List.getElem?_map]
 by_cases h:i<M
 ·rw[List.getElem?_range h,if_pos h];rfl
 ·rw[List.getElem?_eq_none (by simp;omega),if_neg h];rfl
theorem midM_0 (M:Nat) (r:Nat→Nat) (G:Nat→Int):zBy M r G 0=List.replicate M 0:=by
 refine List.ext_getElem? fun i=> ?_
 rw[zMK,List.getElem?_replicate]
 simp
theorem zPr (M:Nat) (r:Nat→Nat) (G:Nat→Int) (k m:Nat) (hm:m<M) (hr:r m=k) (hu: ∀ j,j<M→r j=k→j=m):(zBy M r G k).set m (G k)=zBy M r G (k+1):=by
 refine List.ext_getElem? fun i=> ?_
 rw[List.getElem?_set,zMK,zMK,zKZ]
 by_cases h:m=i
 ·subst h
  rw[if_pos rfl,if_pos hm,if_pos hm,if_pos (by omega),hr]
 ·rw[if_neg h]
  by_cases hi:i<M
  ·rw[if_pos hi,if_pos hi]
   have:r i≠k:=fun e=>h (hu i hi e).symm
   by_cases h3:r i<k
   ·rw[if_pos h3,if_pos (by omega)]
   ·rw[if_neg h3,if_neg (by omega)]
  ·rw[if_neg hi,if_neg hi]
theorem zQX (M:Nat) (r:Nat→Nat) (G:Nat→Int) (K:Nat) (h: ∀ m,m<M→r m<K):zBy M r G K=(List.range M).map fun m=>G (r m):=by
 unfold zBy
 refine List.map_congr_left fun m hm=> ?_
 rw[if_pos (h m (List.mem_range.1 hm))]
def tr8 (i:Nat):Nat:=i%8*8+i/8
theorem tr8_lt (i:Nat) (h:i<64):tr8 i<64:=by unfold tr8;omega
theorem tr8_tr8 (i:Nat) (h:i<64):tr8 (tr8 i)=i:=by unfold tr8;omega
def trP (a b i:Nat):Nat:=i%a*b+i/a
theorem zIZ {a b i:Nat} (ha:0<a) (h:i<a*b):trP a b i<a*b∧i/a<b∧i%a<a:=by
 have h1:i/a<b:=Nat.div_lt_of_lt_mul h
 have h2:=Nat.mod_lt i ha
 have h3:=Nat.mul_le_mul_right b (show i%a+1≤a by omega)
 rw[Nat.succ_mul] at h3
 exact⟨Nat.lt_of_lt_of_le (Nat.add_lt_add_left h1 _) h3,h1,h2⟩
theorem zPg {a b i:Nat} (ha:0<a) (h:i<a*b):trP b a (trP a b i)=i:=by
 obtain⟨-,h1,h2⟩:=zIZ ha h
 have hb:0<b:=Nat.lt_of_le_of_lt (Nat.zero_le _) h1
 unfold trP
 rw[Nat.mul_comm (i%a) b,Nat.mul_add_mod,Nat.mod_eq_of_lt h1,Nat.mul_add_div hb,Nat.div_eq_of_lt h1,Nat.add_zero,Nat.mul_comm]
 exact Nat.div_add_mod i a
theorem trP_bound {a b k:Nat} (a2:a≤30) (b2:b≤30) (ha:0<a):k%a*b<1000000:=by
 have h1:=Nat.mod_lt k ha
 exact Nat.lt_of_le_of_lt (Nat.mul_le_mul (show k%a≤30 by omega) b2) (by omega)
theorem midM_step {a b N:Nat} (hN:a*b=N) (a1:1≤a) (G:Nat→Int) (k:Nat) (h:k<N):(zBy N (trP b a) G k).set (k%a*b+k/a) (G k)=zBy N (trP b a) G (k+1):=by
 subst hN
 have h1:=(zIZ (a:=a) (b:=b) a1 h).1
 refine zPr (a*b) (trP b a) G k (trP a b k) h1 (zPg a1 h) fun j hj e=> ?_
 have hb:0<b:=Nat.pos_of_ne_zero fun h0=>by subst h0;omega
 have:=zPg (a:=b) (b:=a) hb (i:=j) (by rw[Nat.mul_comm];exact hj)
 rw[←this,e]
theorem midM_end {a b N:Nat} (hN:a*b=N) (b1:1≤b) (G:Nat→Int):zBy N (trP b a) G N=(List.range N).map fun m=>G (trP b a m):=by
 subst hN
 refine zQX _ _ _ _ fun m hm=> ?_
 have:=(zIZ (a:=b) (b:=a) b1 (i:=m) (by rw[Nat.mul_comm];exact hm)).1
 rwa [Nat.mul_comm] at this
theorem zQq (G:Nat→Int) (N k:Nat) (h:k<N):((List.range N).map G).getD k 0=G k:=by
 simp[h]
theorem planes_eq (G:Nat→Int) (q:List Int) (hq:q.length=64) {a b N:Nat} (hN:a*b=N) (a1:1≤a) (b1:1≤b) (i:Nat) (h:i<N) :
 (vN q (jQ q (vH ((List.range N).map G) a b) (yH a b)) a b 0).getD i 0=(vN (trZ q) (jQ (trZ q) (vH ((List.range N).map fun m=>G (trP b a m)) b a) (yH b a)) b a 0).getD (i%a*b+i/a) 0:=by
 subst hN
 obtain⟨-,h1,h2⟩:=zIZ a1 h
 have e:=across ((List.range (a*b)).map G) ((List.range (a*b)).map fun m=>G (trP b a m)) q hq a b a1 b1 (fun x y hx hy=>by
  have hp:y*a+x<a*b:=by
   have h3:=Nat.mul_le_mul_right a (show y+1≤b by omega)
   rw[Nat.succ_mul,Nat.mul_comm b] at h3
   exact Nat.lt_of_lt_of_le (Nat.add_lt_add_left hx _) h3
  have hp2:x*b+y<a*b:=by
   have h3:=Nat.mul_le_mul_right b (show x+1≤a by omega)
   rw[Nat.succ_mul] at h3
   exact Nat.lt_of_lt_of_le (Nat.add_lt_add_left hy _) h3
  rw[zQq _ _ _ hp,zQq _ _ _ hp2]
  unfold trP
  rw[Nat.mul_comm x b,Nat.mul_add_mod,Nat.mod_eq_of_lt hy,Nat.mul_add_div (Nat.lt_of_lt_of_le Nat.zero_lt_one b1),Nat.div_eq_of_lt hy,Nat.add_zero]) (i%a) (i/a) h2 h1
 rw[←e,Nat.mul_comm (i/a) a,Nat.div_add_mod]
def zAz (F:Nat→Int) (N k:Nat):List Int:=(List.range k).map F++List.replicate (N-k) 0
theorem fillN_len (F:Nat→Int) (N k:Nat) (h:k≤N):(zAz F N k).length=N:=by simp[zAz];omega
theorem fillN_set (F:Nat→Int) (N k:Nat) (h:k<N):(zAz F N k).set k (F k)=zAz F N (k+1):=by
 unfold zAz
 have hl:((List.range k).map F).length=k:=by simp
 rw[List.set_append_right _ _ (by omega),hl,Nat.sub_self]
 obtain⟨j,hj⟩: ∃ j,N-k=j+1:=⟨N-k-1,by omega⟩
 have hj2:N-(k+1)=j:=by omega
 rw[hj,hj2,List.replicate_succ,List.set_cons_zero,List.range_succ,List.map_append]
 simp
theorem zST (F:Nat→Int) (N k:Nat) (h:k<N) (h0:F k=0):zAz F N k=zAz F N (k+1):=by
 unfold zAz
 obtain⟨j,hj⟩: ∃ j,N-k=j+1:=⟨N-k-1,by omega⟩
 have hj2:N-(k+1)=j:=by omega
 rw[hj,hj2,List.replicate_succ,List.range_succ,List.map_append]
 simp[h0]
theorem fillN_0 (F:Nat→Int) (N:Nat):zAz F N 0=List.replicate N 0:=by simp[zAz]
theorem fillN_all (F:Nat→Int) (N:Nat):zAz F N N=(List.range N).map F:=by simp[zAz]
theorem fillN_at (F:Nat→Int) (N k:Nat):(zAz F N (k+1))[k]? =some (F k):=by
 unfold zAz
 rw[List.getElem?_append_left (by simp),List.getElem?_map,List.getElem?_range (by omega)]
 rfl
theorem run_add6 (x y:Int) (w:World):(binOp .add 2 (.int .i64 x) (.int .i64 y)).run Tryz.prog w=.ok (.int .i64 (wrap64 (x+y))) w:=by
 have e:IntKind.i64.wrap (x+y)=wrap64 (x+y):=by simp[IntKind.wrap_i64,wrap64]
 go_simp
theorem zTF {o:Oper} {a:Act} {x ix:Operand} (ho:o.op=.index 33 x ix) {cs:Array Value} {i:Nat} {u:Value} (hx:a.eval x=.agg cs) (hi:a.eval ix=.int .i64 (i:Int)) (h:i<64) (hu:cs[i]? =some u) (w:World):(execOp a.eval o).run Tryz.prog w=.ok (.value u) w:=by
 simp[execOp,ho,hx,hi,zEB cs i u h hu w]
theorem at_list {P:List Int} {N i:Nat} {u:Value} (hP:P.length=N) (hi:i<N) (h:(ints P)[i]? =some u):u=.int .i64 (P.getD i 0):=by
 unfold ints at h
 rw[List.getElem?_map,List.getElem?_eq_getElem (by omega)] at h
 rw[List.getD_eq_getElem?_getD,List.getElem?_eq_getElem (by omega)]
 exact (Option.some.inj h).symm
theorem walk (v:Value) (l:List Int) (wide high:Int) (q:List Int) (hq:q.length=64) (m0:Int) (w:World) (hm:w.cell? ⟨0,0,none⟩=some (.int .i64 m0)) (hv:SL w 1 v l.length (ints l)) :
 Calls Tryz.prog 4 #[v,.int .i64 wide,.int .i64 high,.agg (bv q)] w fun e w'=>e=.returned (.bool true)∧Ext w w':=by
 obtain⟨a,ha,a1,a2⟩:=side_of wide
 obtain⟨b,hb,b1,b2⟩:=side_of high
 have HWK:=zA (fun W (h:Ext w W)=>works_any m0 W (vV hm h))
 have HR1:=zA (fun W=>zKU wide 30 (by omega) (by omega) W)
 have HR2:=zA (fun W=>zKU high 30 (by omega) (by omega) W)
 have HA1:Hid (∀ W:World,(binOp .add 3 (.int .i64 (wide%30)) (.int .i64 1)).run Tryz.prog W=.ok (.int .i64 (a:Int)) W):=zA (fun W=>by rw[←ha];exact zCw _ _ _ (IntWalk.i64_in _ (by omega)) W)
 have HB1:Hid (∀ W:World,(binOp .add 3 (.int .i64 (high%30)) (.int .i64 1)).run Tryz.prog W=.ok (.int .i64 (b:Int)) W):=zA (fun W=>by rw[←hb];exact zCw _ _ _ (IntWalk.i64_in _ (by omega)) W)
 obtain⟨N,hN⟩: ∃ N,a*b=N:=⟨_,rfl⟩
 have hN1:N≤900:=by rw[←hN];exact Nat.le_trans (Nat.mul_le_mul a2 b2) (by omega)
 have hN0:0<N:=by rw[←hN];exact Nat.mul_pos a1 b1
 have HMU:=zA (fun W=>zCM a b N hN (by omega) W)
 have HQC:=zA (fun W=>zBt q W hq)
 have hqs:=zA (show (bv q).size=64 by rw[zJ,hq])
 by_cases hq1:zM q 1 255=true
 ·rw[hq1,if_pos rfl] at HQC
  have HQ1:=zA hq1
  have HQ:=zA hq
  have HBND:=zA (fun k:Nat=>trP_bound (k:=k) a2 b2 a1)
  have HTL:=zA (fun k (h:k<N)=>(zIZ (a:=a) (b:=b) a1 (i:=k) (by rw[hN];exact h)).1)
  rw[hN] at HTL
  have HMS:=zA (midM_step hN a1 (val l))
  have HM0:=zA (midM_0 N (trP b a) (val l))
  have HME:=zA (midM_end hN b1 (val l))
  have HML:=zA (fun k=>zKZ N (trP b a) (val l) k)
  have HPE:=zA (planes_eq (val l) q hq hN a1 b1)
  have HAS:zM ((List.range N).map (val l)) 0 255=true:=zY.2 fun z hz=>by
   obtain⟨j, -,rfl⟩:=List.mem_map.1 hz
   exact val_in l j
  have HAY:zM ((List.range N).map fun m=>val l (trP b a m)) 0 255=true:=zY.2 fun z hz=>by
   obtain⟨j, -,rfl⟩:=List.mem_map.1 hz
   exact val_in l _
  have HS1:=zA (fun W A c (hx:Ext w W) hs=>zPF a b N hN a1 (by omega) b1 (by omega) ((List.range N).map (val l)) q (by simp) HAS hq hq1 A c m0 W (vV hm hx) hs)
  have HS2:=zA (fun W A c (hx:Ext w W) hs=>zPF b a N (by rw[Nat.mul_comm];exact hN) b1 (by omega) a1 (by omega) ((List.range N).map fun m=>val l (trP b a m)) (trZ q) (by simp) HAY (zAk q) (by rw[zLL hq];exact hq1) A c m0 W (vV hm hx) hs)
  have HP1:=zA (show (vN q (jQ q (vH ((List.range N).map (val l)) a b) (yH a b)) a b 0).length=N by rw[zDW,hN])
  have HP2:=zA (show (vN (trZ q) (jQ (trZ q) (vH ((List.range N).map fun m=>val l (trP b a m)) b a) (yH b a)) b a 0).length=N by rw[zDW,Nat.mul_comm,hN])
  generalize vN q (jQ q (vH ((List.range N).map (val l)) a b) (yH a b)) a b 0=P1 at *
  generalize vN (trZ q) (jQ (trZ q) (vH ((List.range N).map fun m=>val l (trP b a m)) b a) (yH b a)) b a 0=P2 at *
  have HQT0:=zA (fun k h=>zPr 64 tr8 (fun i=>q.getD i 0) k (tr8 k) (tr8_lt k h) (tr8_tr8 k h) (fun j hj e=>by rw[←tr8_tr8 j hj,e]))
  have HQZ:=zA (show zBy 64 tr8 (fun i=>q.getD i 0) 0=yG from midM_0 _ _ _)
  have HQE:=zA (show zBy 64 tr8 (fun i=>q.getD i 0) 64=trZ q from zQX _ _ _ _ (fun m h=>tr8_lt m h))
  have HQL:=zA (fun k=>zKZ 64 tr8 (fun i=>q.getD i 0) k)
  have HQT:Hid (∀ k,k<64→(zBy 64 tr8 (fun i=>q.getD i 0) k).set (k%8*8+k/8) (q.getD k 0)=zBy 64 tr8 (fun i=>q.getD i 0) (k+1)):=HQT0
  clear HQT0
  have HTS:=zA (show (bv (trZ q)).size=64 by rw[zJ,zAk])
  generalize trZ q=qz at *
  have HVF:=zA (fun k=>fillN_set (val l) N k)
  have HVS:=zA (fun k=>zST (val l) N k)
  have HVL:=zA (fun k=>fillN_len (val l) N k)
  have HV0:=zA (fillN_0 (val l) N)
  have HVE:=zA (fillN_all (val l) N)
  have HVA:=zA (fun k=>fillN_at (val l) N k)
  have HVD:Hid (∀ k,val l k=if l.length=0 then 0 else wrap64 (l.getD (k%l.length) 0+((k/9:Nat):Int))%256):=zA (fun k=>rfl)
  have hSL0:((List.range N).map (val l)).length=N:=by simp
  have hYL0:((List.range N).map fun m=>val l (trP b a m)).length=N:=by simp
  generalize (List.range N).map (fun m=>val l (trP b a m))=Y at *
  generalize (List.range N).map (val l)=S at *
  have HSL:=zA hSL0
  have HYN:=zA hYL0
  clear hSL0 hYL0
  have HYL:=zA (show zBy N (trP b a) (val l) N=Y from HME.out)
  generalize val l=F at *
  obtain⟨mid,hmid⟩: ∃ mid,zBy N (trP b a) F=mid:=⟨_,rfl⟩
  rw[hmid] at HMS HM0 HML HYL
  obtain⟨qmid,hqmid⟩: ∃ qmid,zBy 64 tr8 (fun i=>q.getD i 0)=qmid:=⟨_,rfl⟩
  rw[hqmid] at HQT HQZ HQE HQL
  clear hmid hqmid HME HAS HAY
  have HM:=zA hm
  have HBV:Hid (∀ k (h:k<64),(bv q)[k]? =some (.int .i64 (q.getD k 0))):=zA (fun k h=>by
   unfold bv ints
   rw[List.getElem?_toArray,List.getElem?_map,List.getElem?_eq_getElem (by omega),List.getD_eq_getElem?_getD,List.getElem?_eq_getElem (by omega)]
   rfl)
  obtain⟨A,c,rfl,hnc,hcm, -, -⟩:=id hv
  obtain⟨n,hn⟩: ∃ n,l.length=n:=⟨_,rfl⟩
  have HLN:=zA hn
  rw[hn] at hv hnc ⊢
  clear hn hm hq1 ha hb
  obtain⟨qv,hqv⟩: ∃ qv,bv q=qv:=⟨_,rfl⟩
  have HQV:=zA hqv
  rw[hqv] at HQC hqs HBV HS1 ⊢
  clear hqv
  go_enter Tryz.func4,Tryz.ntmps4
  go_upto_region 6 with (first
   | ((with_reducible apply gS 7);refine wBox rfl 33 (.tmp 3) rfl qv rfl ?_;intro w0 gq hbq hx0 hgq)
   | (go_at_call 11;(with_reducible refine (HWK.out _ hx0).mono ?_);rintro e w1 ⟨rfl,hx1⟩;have hx01:=hx0.trans hx1;have hbq1:=hbq.ext hx1)
   | ((with_reducible apply gS 22);refine wLdB rfl 33 (.tmp 7) rfl gq rfl hbq1 _ Tryz.underlying33 rfl 64 zG hqs.out ?_)
   | (go_at_call 15;(with_reducible refine (HQC.out _).mono ?_);rintro e w2 ⟨rfl,hx2⟩;have hx02:=hx01.trans hx2;have hbq2:=hbq1.ext hx2)
   | (go_at_call 12;(with_reducible refine (HR1.out _).mono ?_);rintro e w3 ⟨rfl,rfl⟩)
   | ((with_reducible apply gS 27);refine zB rfl (.int .i64 (a:Int)) (qI rfl rfl rfl HA1.out) ?_)
   | ((with_reducible apply gS 30);refine zB rfl (.int .i64 (b:Int)) (qI rfl rfl rfl HB1.out) ?_)
   | (go_at_call 12;(with_reducible refine (HR2.out _).mono ?_);rintro e w3 ⟨rfl,rfl⟩))
  try simp only[Act.put,sA,sB,sC]
  clear hbq hx0 hgq hx1 hx01 hbq1 hx2
  go_cut [9,10] from 31 to 38 (fun fv sv wx=> ∃ gA gB,fv=.slice (some ⟨gA,0,none⟩) N N∧sv=.slice (some ⟨gB,0,none⟩) N N∧Blk wx gA 3 (bv (List.replicate N 0))∧Blk wx gB 3 (bv (List.replicate N 0))∧gA≠gB∧w2.heap.size≤gA∧w2.heap.size≤gB∧Ext w2 wx)
  case first =>
   refine jS (fun _=>false) (fun _=>True) (by kernel_rfl) ?_
   refine zH (k:=0) (by kernel_rfl) rfl (by rfl) (.int .i64 (a:Int)) (zC rfl rfl) ?_
   simp only[Act.put,sA,sB,sC]
   refine zH (k:=1) (by kernel_rfl) rfl (by rfl) (.int .i64 (b:Int)) (zC rfl rfl) ?_
   simp only[Act.put,sA,sB,sC]
   refine zH (k:=2) (by kernel_rfl) rfl (by rfl) (.int .i64 (N:Int)) (qI rfl rfl rfl HMU.out) ?_
   simp only[Act.put,sA,sB,sC]
   refine zH (k:=4) (by kernel_rfl) rfl (by rfl) (.int .i64 (a:Int)) (zC rfl rfl) ?_
   simp only[Act.put,sA,sB,sC]
   refine zH (k:=5) (by kernel_rfl) rfl (by rfl) (.int .i64 (b:Int)) (zC rfl rfl) ?_
   simp only[Act.put,sA,sB,sC]
   refine zH (k:=6) (by kernel_rfl) rfl (by rfl) (.int .i64 (N:Int)) (qI rfl rfl rfl HMU.out) ?_
   simp only[Act.put,sA,sB,sC]
   refine zHp (k:=3) (l:=7) (by kernel_rfl) rfl rfl ?_ ?_
   · --
     refine qP rfl (some 34) rfl _ _ rfl N (by omega) rfl rfl ?_
     intro w3 gA hA hy2 hgA
     refine zU ⟨fun h=>(by cases h), ?_⟩
     simp only[Act.put,sA,sB,sC]
     refine zH (k:=8) (by kernel_rfl) rfl (by rfl) (.slice (some ⟨gA,0,none⟩) N N) (zS rfl rfl) ?_
     simp only[Act.put,sA,sB,sC]
     refine xU (k:=7) (by kernel_rfl) rfl ?_
     refine qP rfl (some 38) rfl _ _ rfl N (by omega) rfl rfl ?_
     intro w4 gB hB hy3 hgB
     refine zU ⟨fun h=>(by cases h), ?_⟩
     simp only[Act.put,sA,sB,sC]
     refine zH (k:=9) (by kernel_rfl) rfl (by rfl) (.slice (some ⟨gB,0,none⟩) N N) (zS rfl rfl) ?_
     simp only[Act.put,sA,sB,sC]
     refine uH (by kernel_rfl) ?_
     go_wp2_with fail
     go_meet
     have hl:=hA.lt
     have hsz:=hy3.size
     have hs0:w2.drew.heap.size=w2.heap.size:=rfl
     have hs1:=hy2.size
     exact⟨gA,gB,rfl,rfl,hA.ext hy3,hB,by omega,by omega,by omega,(Ext.refl w2).drew.trans (hy2.trans hy3)⟩
   · --
     refine qP rfl (some 38) rfl _ _ rfl N (by omega) rfl rfl ?_
     intro w3 gB hB hy2 hgB
     refine zU ⟨fun h=>(by cases h), ?_⟩
     simp only[Act.put,sA,sB,sC]
     refine xU (k:=3) (by kernel_rfl) rfl ?_
     refine qP rfl (some 34) rfl _ _ rfl N (by omega) rfl rfl ?_
     intro w4 gA hA hy3 hgA
     refine zU ⟨fun h=>(by cases h), ?_⟩
     simp only[Act.put,sA,sB,sC]
     refine zH (k:=8) (by kernel_rfl) rfl (by rfl) (.slice (some ⟨gA,0,none⟩) N N) (zS rfl rfl) ?_
     simp only[Act.put,sA,sB,sC]
     refine zH (k:=9) (by kernel_rfl) rfl (by rfl) (.slice (some ⟨gB,0,none⟩) N N) (zS rfl rfl) ?_
     simp only[Act.put,sA,sB,sC]
     refine uH (by kernel_rfl) ?_
     go_wp2_with fail
     go_meet
     have hl:=hB.lt
     have hsz:=hy3.size
     have hs0:w2.drew.heap.size=w2.heap.size:=rfl
     have hs1:=hy2.size
     exact⟨gA,gB,rfl,rfl,hA,hB.ext hy3,by omega,by omega,by omega,(Ext.refl w2).drew.trans (hy2.trans hy3)⟩
  case rest =>
  obtain⟨gA,gB,e1,e2,hA,hB,hne,hgA,hgB,hx3⟩:=hcut
  subst e1 e2
  have HZ48:=qY
  have hbq3:=hbq2.ext hx3
  go_wp2_with (first
   | ((with_reducible apply gS 11);refine wAlo' rfl (some 11) rfl 33 rfl _ HZ48 ?_;intro w4 gp hbp hx4 hgp)
   | ((with_reducible apply gS 39);refine wLdB rfl 33 (.tmp 7) rfl gq rfl (hbq3.ext hx4) _ Tryz.underlying33 rfl 64 zG hqs.out ?_))
  have hbp0:Blk w4 gp 33 (bv yG):=hbp
  rw[←HQZ.out] at hbp0
  clear hbp
  go_loopw [40] (fun i wr=> ∃ k:Nat,k≤64∧i=.int .i64 (k:Int)∧Ext wc wr∧Blk wr gp 33 (bv (qmid k))) (fun i _=>64-(intOf i).toNat)
  case atStart=>exact⟨0,by omega,rfl,hx4,hbp0⟩
  case round =>
   clear hbp0 hx4
   obtain⟨k,hk,rfl,hx,hb⟩:=hrel
   by_cases hlt:k<64
   ·have hsz:=zA (show k%8*8+k/8<(bv (qmid k)).size by rw[zJ,HQL.out];omega)
    have HTK:=HQT.out k hlt
    have HBK:=HBV.out k hlt
    generalize q.getD k 0=z at HTK HBK
    go_wp2_with (first
     | ((with_reducible apply gS 43);refine zB rfl (.int .i64 z) (zTF (i:=k) rfl rfl rfl hlt HBK) ?_)
     | ((with_reducible apply gS 45);refine zB rfl (.int .i64 ((k%8:Nat):Int)) (zEn (i:=k) (d:=8) rfl rfl rfl (by omega) (by omega)) ?_)
     | ((with_reducible apply gS 46);refine zB rfl (.int .i64 ((k%8*8:Nat):Int)) (zBX (i:=k%8) (d:=8) rfl rfl rfl (by omega)) ?_)
     | ((with_reducible apply gS 48);refine zB rfl (.int .i64 ((k/8:Nat):Int)) (zEr (i:=k) (d:=8) rfl rfl rfl (by omega) (by omega)) ?_)
     | ((with_reducible apply gS 49);refine zB rfl (.int .i64 ((k%8*8+k/8:Nat):Int)) (yC (i:=k%8*8) (d:=k/8) rfl rfl rfl (by omega)) ?_)
     | ((with_reducible apply gS 51);refine zB rfl (.pointer (some ⟨gp,k%8*8+k/8,none⟩)) (zFk Tryz.underlying33 qW rfl rfl rfl (by omega)) ?_)
     | ((with_reducible apply gT 51 50);refine vU rfl (.tmp 51) (.tmp 50) rfl gp (k%8*8+k/8) z rfl rfl hb hsz.out ?_))
    go_roundw
    case rel =>
     have hb7:=hb.set_ (k%8*8+k/8) (.int .i64 z)
     rw[vP,HTK] at hb7
     exact⟨k+1,by omega,by go_num,hx.setCell (p:=⟨gp,k%8*8+k/8,none⟩) (by omega) _,hb7⟩
    case measure=>simp[intOf];omega
   ·have ek:k=64:=by omega
    subst ek
    rw[HQE.out] at hb
    have hA5:=hA.ext hx
    have hB5:=hB.ext hx
    have hnp:gA≠gp:=by have:=hA.lt;omega
    have hnq:gB≠gp:=by have:=hB.lt;omega
    have hgp2:w2.heap.size≤gp:=by have:=hx3.size;omega
    have hx5:=hx3.trans hx
    go_wp2_with ((with_reducible apply gS 54);refine zB rfl (.int .i64 (N:Int)) (zFF rfl rfl) ?_)
    generalize wr=w5 at *
    clear hA hB hx hx3 hgp hbq3
    rw[←HV0.out] at hA5
    rw[←HM0.out] at hB5
    go_loopw [55] (fun i wr=> ∃ k:Nat,k≤N∧i=.int .i64 (k:Int)∧Ext w2 wr∧Blk wr gA 3 (bv (zAz F N k))∧Blk wr gB 3 (bv (mid k))∧Blk wr gp 33 (bv qz)) (fun i _=>N-(intOf i).toNat)
    case atStart=>exact⟨0,by omega,rfl,hx5,hA5,hB5,hb⟩
    case round =>
     clear hx5 hA5 hB5 hb
     obtain⟨k,hk,rfl,hx,hA,hB,hp⟩:=hrel
     by_cases hlt:k<N
     ·go_upto_if 60 with (first
       | ((with_reducible apply gS 59);refine zB rfl (.int .i64 (n:Int)) (zFF rfl rfl) ?_)
       | ((with_reducible apply gS 60);refine zB rfl (.bool (decide (0<n))) (xY rfl rfl rfl (by simp)) ?_))
      simp only[Act.put,sA,sB,sC]
      go_cut [] from 58 to 74 (fun wx=>Ext w2 wx∧Blk wx gA 3 (bv (zAz F N (k+1)))∧Blk wx gB 3 (bv (mid k))∧Blk wx gp 33 (bv qz))
      case first =>
       by_cases h0:n=0
       ·have HF:Hid (F k=0):=zA (by rw[HVD.out k,HLN.out,if_pos h0])
        rw[HVS.out k hlt HF.out] at hA
        rw[decide_eq_false (show ¬0<n by omega)]
        go_wp2_with fail
        go_meet
        exact⟨hx,hA,hB,hp⟩
       ·have hkn:k%n<n:=Nat.mod_lt _ (by omega)
        obtain⟨z,hz⟩: ∃ z,l[k%n]? =some z:=⟨_,List.getElem?_eq_getElem (by rw[HLN.out];exact hkn)⟩
        have HF:Hid (F k=wrap64 (z+((k/9:Nat):Int))%256):=zA (by rw[HVD.out k,HLN.out,if_neg h0,List.getD_eq_getElem?_getD,hz];rfl)
        obtain⟨ad,u,hAd,hab,hxu,hcu⟩:=(hv.ext (hx02.trans hx)).at1 hkn
        have hu:u=.int .i64 z:=by
         unfold ints at hxu
         rw[List.getElem?_map,hz] at hxu
         exact (Option.some.inj hxu).symm
        subst hu hAd
        have HC2:wr.cell? (ad.add (k%n*1))=some (.int .i64 z):=by rw[Nat.mul_one];exact hcu
        have hsz:=zA (show k<(bv (zAz F N k)).size by rw[zJ,HVL.out k hk];exact hlt)
        clear hz hxu hcu
        generalize hkd:k%n=kd at *
        have HKD:=zA hkd
        clear hkd
        rw[decide_eq_true (show 0<n by omega)]
        go_wp2_with (first
         | ((with_reducible apply gS 66);refine zB rfl (.int .i64 (n:Int)) (zFF rfl rfl) ?_)
         | ((with_reducible apply gS 67);refine zB rfl (.int .i64 (kd:Int)) (by rw[←HKD.out];exact zEn (i:=k) (d:=n) rfl rfl rfl (by omega) (by omega)) ?_)
         | ((with_reducible apply gS 68);refine zB rfl (.pointer (some (ad.add (kd*1)))) (qS Tryz.underlying22 qW rfl rfl rfl hkn) ?_)
         | ((with_reducible apply gS 69);refine yY rfl (.int .i64 z) (zQ rfl rfl HC2) ?_)
         | ((with_reducible apply gS 71);refine zB rfl (.int .i64 ((k/9:Nat):Int)) (zEr (i:=k) (d:=9) rfl rfl rfl (by omega) (by omega)) ?_)
         | ((with_reducible apply gS 72);refine zB rfl (.int .i64 (wrap64 (z+((k/9:Nat):Int)))) (qI rfl rfl rfl (run_add6 _ _)) ?_)
         | (go_at_call 12;(with_reducible refine (zKU _ 256 (by omega) (by omega) _).mono ?_);rintro e w6 ⟨rfl,rfl⟩)
         | ((with_reducible apply gS 74);refine zB rfl (.pointer (some ⟨gA,k,none⟩)) (vF Tryz.underlying22 qW rfl rfl rfl hlt) ?_)
         | ((with_reducible apply gT 74 73);refine vU rfl (.tmp 74) (.tmp 73) rfl gA k (wrap64 (z+((k/9:Nat):Int))%256) rfl rfl hA hsz.out ?_))
        go_meet
        have hA7:=hA.set_ k (.int .i64 (F k))
        rw[vP,HVF.out k hlt,HF.out] at hA7
        exact⟨hx.setCell (p:=⟨gA,k,none⟩) hgA _,hA7,hB.far (p:=⟨gA,k,none⟩) (fun e=>hne e.symm) _,hp.far (p:=⟨gA,k,none⟩) (fun e=>hnp e.symm) _⟩
      case rest =>
      obtain⟨hx7,hA7,hB7,hp7⟩:=hcut
      go_upto_region 18 with fail
      clear hx hA hB hp
      have hTN:=HTL.out k hlt
      have HTM:=zA (HMS.out k hlt)
      have hTB:=HBND.out k
      have hsz:=zA (show trP a b k<(bv (mid k)).size by rw[zJ,HML.out];exact hTN)
      unfold trP at hTN hsz
      have HC1:Hid (∀ W,Ext wc.drew W→W.cell? ⟨gA,k,none⟩=some (.int .i64 (F k))):=zA (fun W hW=>by
       rw[(hA7.drew.ext hW).cell k]
       exact zGE (HVA.out k))
      generalize hkm:k%a=km at *
      generalize hkq:k/a=kq at *
      have HKM:=zA hkm
      have HKQ:=zA hkq
      generalize hkt:km*b=kt at *
      have HKT:=zA hkt
      clear hkm hkq hkt
      refine uY qF 15 (by kernel_rfl) (by kernel_rfl) ?_
      simp only[List.take_succ_cons,List.take_zero]
      refine zE (by rfl) (.slice (some ⟨gB,0,none⟩) N N) (zC rfl rfl) ?_
      simp only[Act.put,sA,sB,sC]
      refine zE (by rfl) (.int .i64 (k:Int)) (zC rfl rfl) ?_
      simp only[Act.put,sA,sB,sC]
      refine zE (by rfl) (.int .i64 (a:Int)) (zC rfl rfl) ?_
      simp only[Act.put,sA,sB,sC]
      refine zE (by rfl) (.int .i64 (km:Int)) (by rw[←HKM.out];exact zEn (i:=k) (d:=a) rfl rfl rfl (by omega) (by omega)) ?_
      simp only[Act.put,sA,sB,sC]
      refine zE (by rfl) (.int .i64 (b:Int)) (zC rfl rfl) ?_
      simp only[Act.put,sA,sB,sC]
      refine zE (by rfl) (.int .i64 (kt:Int)) (qI rfl rfl rfl (zCM km b kt HKT.out (by omega))) ?_
      simp only[Act.put,sA,sB,sC]
      refine zE (by rfl) (.int .i64 (k:Int)) (zC rfl rfl) ?_
      simp only[Act.put,sA,sB,sC]
      refine zE (by rfl) (.int .i64 (a:Int)) (zC rfl rfl) ?_
      simp only[Act.put,sA,sB,sC]
      refine zE (by rfl) (.int .i64 (kq:Int)) (by rw[←HKQ.out];exact zEr (i:=k) (d:=a) rfl rfl rfl (by omega) (by omega)) ?_
      simp only[Act.put,sA,sB,sC]
      refine zE (by rfl) (.int .i64 ((kt+kq:Nat):Int)) (yC (i:=kt) (d:=kq) rfl rfl rfl (by omega)) ?_
      simp only[Act.put,sA,sB,sC]
      refine zE (by rfl) (.slice (some ⟨gA,0,none⟩) N N) (zC rfl rfl) ?_
      simp only[Act.put,sA,sB,sC]
      refine zE (by rfl) (.int .i64 (k:Int)) (zC rfl rfl) ?_
      simp only[Act.put,sA,sB,sC]
      refine zE (by rfl) (.pointer (some ⟨gA,k,none⟩)) (vF Tryz.underlying22 qW rfl rfl rfl hlt) ?_
      simp only[Act.put,sA,sB,sC]
      refine xB (by rfl) (.int .i64 (F k)) (fun W hW=>zQ rfl rfl (HC1.out W hW)) ?_
      simp only[Act.put,sA,sB,sC]
      refine zE (by rfl) (.pointer (some ⟨gB,kt+kq,none⟩)) (vF Tryz.underlying22 qW rfl rfl rfl hTN) ?_
      simp only[Act.put,sA,sB,sC]
      refine jJ ?_
      intro w8 hx8
      try simp only[List.drop_succ_cons,List.drop_zero]
      have hB8:=hB7.drew.ext hx8
      refine vU rfl (.tmp 89) (.tmp 88) rfl gB (kt+kq) (F k) rfl rfl hB8 hsz.out ?_
      have hB9:=hB8.set_ (kt+kq) (.int .i64 (F k))
      rw[vP,HTM.out] at hB9
      have hx9:=(hx7.drew.trans hx8).setCell (p:=⟨gB,kt+kq,none⟩) hgB (.int .i64 (F k))
      have hA9:=(hA7.drew.ext hx8).far (p:=⟨gB,kt+kq,none⟩) hne (.int .i64 (F k))
      have hp9:=(hp7.drew.ext hx8).far (p:=⟨gB,kt+kq,none⟩) (fun e=>hnq e.symm) (.int .i64 (F k))
      simp only[Act.put]
      go_wp2_with fail
      go_roundw
      case rel=>exact⟨k+1,by omega,by go_num,hx9,hA9,hB9,hp9⟩
      case measure=>simp[intOf];omega
     ·have ek:k=N:=by omega
      rw[ek,HVE.out] at hA
      rw[ek,HYL.out] at hB
      rw[ek]
      clear ek hk hlt
      have hsA:=hA.ints (by rw[HSL.out];omega)
      have hsB:=hB.ints (by rw[HYN.out];omega)
      rw[HSL.out] at hsA
      rw[HYN.out] at hsB
      have hx10:=hx02.trans hx
      have hbq4:=hbq2.ext hx
      go_wp2_with (first
       | ((with_reducible apply gS 95);refine wLdB rfl 33 (.tmp 7) rfl gq rfl hbq4 _ Tryz.underlying33 rfl 64 zG hqs.out ?_)
       | (go_at_call 16;(with_reducible refine (HS1.out _ _ _ hx10 hsA).mono ?_);rintro e w7 ⟨B1,d1,rfl,hs1,hx7⟩;have hx17:=hx10.trans hx7;have hp7:=hp.ext hx7;have hsB7:=hsB.ext hx7)
       | ((with_reducible apply gS 103);refine wLdB rfl 33 (.tmp 11) rfl gp rfl hp7 _ Tryz.underlying33 rfl 64 zG HTS.out ?_)
       | (go_at_call 16;(with_reducible refine (HS2.out _ _ _ hx17 hsB7).mono ?_);rintro e w8 ⟨B2,d2,rfl,hs2,hx8⟩;have hx18:=hx17.trans hx8;have hs18:=hs1.ext hx8)
       | ((with_reducible apply gS 114);refine zB rfl (.int .i64 (N:Int)) (zFF rfl rfl) ?_))
      clear hx17 hp7 hsB7 hs1 hx8 hx7 hbq4 hx10 hsA hsB hA hB hx hp
      go_loopw [115] (fun i wr=> ∃ k:Nat,k≤N∧i=.int .i64 (k:Int)∧Ext w8 wr) (fun i _=>N-(intOf i).toNat)
      case atStart=>exact⟨0,by omega,rfl,Ext.refl w8⟩
      case round =>
       obtain⟨k,hk,rfl,hx⟩:=hrel
       by_cases hlt:k<N
       ·have hTN:=HTL.out k hlt
        have hTB:=HBND.out k
        have HPK:=zA (HPE.out k hlt)
        unfold trP at hTN
        generalize hkm:k%a=km at *
        generalize hkq:k/a=kq at *
        have HKM:=zA hkm
        have HKQ:=zA hkq
        generalize hkt:km*b=kt at *
        have HKT:=zA hkt
        clear hkm hkq hkt
        obtain⟨ad,u,hAd,hab,hxu,hcu⟩:=(hs18.ext hx).at1 hlt
        have hu:=at_list HP1.out hlt hxu
        subst hu hAd
        obtain⟨ae,u,hAe,hae,hxv,hcv⟩:=(hs2.ext hx).at1 hTN
        have hu:=at_list HP2.out hTN hxv
        subst hu hAe
        rw[←HPK.out] at hcv
        generalize P1.getD k 0=z at *
        have HC1:Hid (∀ W,Ext wr.drew W→W.cell? (ad.add (k*1))=some (.int .i64 z)):=zA (fun W hW=>by
         rw[Nat.mul_one]
         exact (hW.cell (by rw[yK];exact hab)).trans hcu)
        have HC2:Hid (∀ W,Ext wr.drew W→W.cell? (ae.add ((kt+kq)*1))=some (.int .i64 z)):=zA (fun W hW=>by
         rw[Nat.mul_one]
         exact (hW.cell (by rw[yK];exact hae)).trans hcv)
        clear hxu hxv hcu hcv HPK
        go_upto_region 27 with fail
        refine xZ qF (by kernel_rfl) (by kernel_rfl) ?_
        refine zE (by rfl) (.slice (some ad) N d1) (zC rfl rfl) ?_
        simp only[Act.put,sA,sB,sC]
        refine zE (by rfl) (.int .i64 (k:Int)) (zC rfl rfl) ?_
        simp only[Act.put,sA,sB,sC]
        refine zE (by rfl) (.pointer (some (ad.add (k*1)))) (qS Tryz.underlying22 qW rfl rfl rfl hlt) ?_
        simp only[Act.put,sA,sB,sC]
        refine xB (by rfl) (.int .i64 z) (fun W hW=>zQ rfl rfl (HC1.out W hW)) ?_
        simp only[Act.put,sA,sB,sC]
        refine zE (by rfl) (.slice (some ae) N d2) (zC rfl rfl) ?_
        simp only[Act.put,sA,sB,sC]
        refine zE (by rfl) (.int .i64 (k:Int)) (zC rfl rfl) ?_
        simp only[Act.put,sA,sB,sC]
        refine zE (by rfl) (.int .i64 (a:Int)) (zC rfl rfl) ?_
        simp only[Act.put,sA,sB,sC]
        refine zE (by rfl) (.int .i64 (km:Int)) (by rw[←HKM.out];exact zEn (i:=k) (d:=a) rfl rfl rfl (by omega) (by omega)) ?_
        simp only[Act.put,sA,sB,sC]
        refine zE (by rfl) (.int .i64 (b:Int)) (zC rfl rfl) ?_
        simp only[Act.put,sA,sB,sC]
        refine zE (by rfl) (.int .i64 (kt:Int)) (qI rfl rfl rfl (zCM km b kt HKT.out (by omega))) ?_
        simp only[Act.put,sA,sB,sC]
        refine zE (by rfl) (.int .i64 (k:Int)) (zC rfl rfl) ?_
        simp only[Act.put,sA,sB,sC]
        refine zE (by rfl) (.int .i64 (a:Int)) (zC rfl rfl) ?_
        simp only[Act.put,sA,sB,sC]
        refine zE (by rfl) (.int .i64 (kq:Int)) (by rw[←HKQ.out];exact zEr (i:=k) (d:=a) rfl rfl rfl (by omega) (by omega)) ?_
        simp only[Act.put,sA,sB,sC]
        refine zE (by rfl) (.int .i64 ((kt+kq:Nat):Int)) (yC (i:=kt) (d:=kq) rfl rfl rfl (by omega)) ?_
        simp only[Act.put,sA,sB,sC]
        refine zE (by rfl) (.pointer (some (ae.add ((kt+kq)*1)))) (qS Tryz.underlying22 qW rfl rfl rfl hTN) ?_
        simp only[Act.put,sA,sB,sC]
        refine xB (by rfl) (.int .i64 z) (fun W hW=>zQ rfl rfl (HC2.out W hW)) ?_
        simp only[Act.put,sA,sB,sC]
        refine zE (by rfl) (.bool false) (zAL rfl rfl rfl (by simp)) ?_
        simp only[Act.put,sA,sB,sC]
        refine jJ ?_
        intro w9 hx9
        have hx10:=hx.drew.trans hx9
        go_wp2_with fail
        go_roundw
        case rel=>exact⟨k+1,by omega,by go_num,hx10⟩
        case measure=>simp[intOf];omega
       ·have ek:k=N:=by omega
        subst ek
        go_wp2_with fail
        go_ret
        exact⟨rfl,hx18.trans hx⟩
 ·have hq2:zM q 1 255=false:=by simpa using hq1
  rw[hq2,if_neg (by simp)] at HQC
  obtain⟨A,c,rfl,hnc,hcm, -, -⟩:=id hv
  generalize bv q=qv at *
  clear hq1 hq2 hm hv
  go_enter Tryz.func4,Tryz.ntmps4
  go_wp2_with (first
   | ((with_reducible apply gS 7);refine wBox rfl 33 (.tmp 3) rfl qv rfl ?_;intro w0 gq hbq hx0 hgq)
   | (go_at_call 11;(with_reducible refine (HWK.out _ hx0).mono ?_);rintro e w1 ⟨rfl,hx1⟩;have hx01:=hx0.trans hx1;have hbq1:=hbq.ext hx1)
   | ((with_reducible apply gS 22);refine wLdB rfl 33 (.tmp 7) rfl gq rfl hbq1 _ Tryz.underlying33 rfl 64 zG hqs.out ?_)
   | (go_at_call 15;(with_reducible refine (HQC.out _).mono ?_);rintro e w2 ⟨rfl,hx2⟩;have hx02:=hx01.trans hx2))
  go_ret
  exact⟨rfl,hx02⟩
end Go.Proofs.YtkggcjdlpendfaaGreatDoor.topAcross
namespace Go.Proofs.YtkggcjdlpendfaaGreatDoor
set_option linter.all false
set_option maxRecDepth 20000
set_option maxHeartbeats 8000000
open Go.RowKit
section
open Go.RowKit Go.ChangeShapes Go.WideShapes Go.ChangeAt
theorem own:ownKnob Tryz.prog.godebug=none:=by kernel_rfl
theorem laidOut:laidOutB Tryz.prog=true:=by kernel_rfl
section
variable {H:Type} {enc:TypeId×Value→H} {P:Program}
theorem zHf (hl:laidOutB P=true) {W W':World} (hb:Below W.heap.size W W'): ∀ {ts:List TypeId} {vs:List Value} {ds:List (DataW H)} {ps:List MemPlace},
 (∀ t∈ts,P.readableRec t=true∧t<P.types.size)→DataW.TrodAll enc P W 0 (fun _=>true) true ts vs ds ps→(∀ x∈ps,x.block<W.heap.size) →
 DataW.TrodAll enc P W' 0 (fun b=>decide (b<W.heap.size)) true ts vs ds ps
 | [],_,_,_,_,h,_=>by
   obtain⟨rfl,rfl,rfl⟩:=trodAll_nil h
   exact trodAll_mk0
 | t::ts,vs,ds,ps,hr,h,hlt=>by
   obtain⟨v,vs1,d,ds1,a,b,rfl,rfl,rfl,h1,h2⟩:=trodAll_cons h
   exact⟨a,b,Below.trod hl (hr t (by simp)).1 (hr t (by simp)).2 h1 hb (fun x hx=>hlt x (by simp[hx])),
    zHf hl hb (fun t ht=>hr t (by simp[ht])) h2 (fun x hx=>hlt x (by simp[hx])),rfl⟩
theorem law_post {f:Func} {s:ChangeSpec} {W W':World} {args:Array Value} {ds gs:List (DataW H)} {before:List MemPlace}
 (hl:laidOutB P=true) (tb:TypeId) (htb:P.underlying tb=some .bool) (hft:f.resultTypes= #[tb]) (hvars:s.vars=[])
 (hr: ∀ t∈f.params.toList,P.readableRec t=true∧t<P.types.size)
 (hW:DataW.Whole enc P f.params.toList s.vars false W args.toList ds gs before)
 (hfn:s.fn H (ds++gs)={ results:=[.lit (.bool true)],args:=ds })
 (hb:Ext W W'):s.post enc P f false true false false W args (.bool true) W':=by
 have hlt: ∀ p∈before,p.block<W.heap.size:=fun p hp=>by simpa using hW.lt p hp
 have hW':=hW
 obtain⟨p,q,hA,hV,rfl,hfz,hnd⟩:=hW
 rw[hvars] at hV
 obtain⟨rfl,rfl⟩:=trodVars_none hV
 simp only[wG6] at hlt hW'
 refine⟨ds,[],p,[],p,[],hW', ?_, ?_, ?_, ?_,fun h=>by cases h⟩
 ·rw[hft,hfn]
  exact trodAll_cons_mk (shut_bool htb _) trodAll_mk0
 ·rw[hfn]
  exact zHf hl hb hr hA hlt
 ·rw[hfn,hvars]
  rfl
 ·exact World.keptBut_mono (fun p hp=>⟨hp,Or.inr (Or.inl hp)⟩) (hb.frame (· ∈p))
end
end
section
open Go.ChangeShapes Go.WideShapes Go.ChangeAt Go.RowKit
theorem zRM {W:World} (h:W.ShapedOpen Tryz.prog): ∃ m,W.cell? ⟨0,0,none⟩=some (.int .i64 m) :=
 Go.Proofs.cell_of_shapedOpen_int (zero:= #[.int .i64 0]) (t:=3) h (of_decide_eq_true (by kernel_rfl)) (by kernel_rfl) rfl (by kernel_rfl) (by kernel_rfl) Tryz.underlying3
def zQs (cs:Array Value):Obj→Obj
 | .cells _ t frozen=>.cells cs t frozen
 | o=>o
noncomputable def zIs (os:Os):World :=
 { World.holding Tryz.prog os ⟨#[], #[],[]⟩ with
  heap:=((World.holding Tryz.prog os ⟨#[], #[],[]⟩).heap.modify 1 (zQs (Go.Pinned.utf8FirstZ.map fun n:Nat=>Value.int .u8 n).toArray)).modify 2
   (zQs (([128,191,160,191,128,159,144,191,128,143,0,0,0,0,0,0,0,0,0,0,0,0,0,0,0,0,0,0,0,0,0,0]:List Nat).map fun n:Nat=>Value.int .u8 n).toArray) }
end
end Go.Proofs.YtkggcjdlpendfaaGreatDoor
