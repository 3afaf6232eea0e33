/- Contracts of the functions that the law reaches, part 20. -/
import Derived.Lib.AppendZeros
import Derived.Test.YtkggcjdlpendfaaGreatDoorMTopCoarseCard19
namespace Go.Proofs.YtkggcjdlpendfaaGreatDoor.BM
set_option linter.unusedVariables false
set_option linter.unusedSimpArgs false
set_option maxRecDepth 20000
set_option maxHeartbeats 8000000
def singN (cs:List Int):Nat→List Pack
 | 0=>[(0,[-1])]
 | i+1=>singN cs i++(if 0<cs.getD i 0 then [((cs.getD i 0).toNat,[(i:Int)])] else [])
theorem singN_mem (cs:List Int) (h: ∀ z∈cs,z≤9999): ∀ i, ∀ p∈singN cs i,p.2.length=1∧p.1≤9999
 | 0,p,hp=>by simp[singN] at hp;subst hp;simp
 | i+1,p,hp=>by
   rw[singN,List.mem_append] at hp
   rcases hp with hp | hp
   ·exact singN_mem cs h i p hp
   ·split at hp
    ·have e:p=((cs.getD i 0).toNat,[(i:Int)]):=by simpa using hp
     subst e
     refine⟨rfl, ?_⟩
     rename_i hpos
     rw[List.getD_eq_getElem?_getD] at hpos ⊢
     cases hq:cs[i]? with
     | none=>rw[hq] at hpos;simp at hpos
     | some z=>have:=h z (List.mem_of_getElem? hq);simp;omega
    ·cases hp
inductive Reach (S:List Pack):Nat→List Pack→Prop
 | zero:Reach S 0 S
 | step {f:Nat} {L L':List Pack}:Reach S f L→L'.Perm (pairP L++S)→(L'.map (·.1)).Pairwise (· ≤ ·)→Reach S (f+1) L'
def lenF (n:Nat):Nat→Nat
 | 0=>n
 | f+1=>lenF n f/2+n
theorem lenF_bd (n:Nat): ∀ f,n≤lenF n f∧lenF n f≤2*n
 | 0=>by unfold lenF;omega
 | f+1=>by have:=lenF_bd n f;unfold lenF;omega
theorem lenF_15: ∀ n,n≤257→2*n-2≤lenF n 15:=by
 have h: ∀ n:Fin 258,2*n.val-2≤lenF n.val 15:=by decide+kernel
 exact fun n hn=>h ⟨n,by omega⟩
theorem pairP_len (L:List Pack):(pairP L).length=L.length/2:=by
 have:=congrArg List.length (zGW L)
 rw[List.length_map,zLl,List.length_map] at this
 exact this
theorem Reach.len {S:List Pack}: ∀ {f L},Reach S f L→L.length=lenF S.length f
 | _,_,.zero=>rfl
 | _,_,.step h hp _=>by rw[hp.length_eq,List.length_append,pairP_len,h.len];rfl
theorem zHR: ∀ (L:List Pack) (p:Pack),p∈pairP L→ ∃ x∈L, ∃ y∈L,p=(x.1+y.1,x.2++y.2)
 | [],p,h=>by simp[pairP] at h
 | [_],p,h=>by simp[pairP] at h
 | x::y::r,p,h=>by
   rw[pairP,List.mem_cons] at h
   rcases h with h | h
   ·exact⟨x,by simp,y,by simp,h⟩
   ·obtain⟨a,ha,b,hb,e⟩:=zHR r p h
    exact⟨a,by simp[ha],b,by simp[hb],e⟩
theorem Reach.bound {S:List Pack} (hS: ∀ p∈S,p.2.length≤1∧p.1≤9999): ∀ {f L},Reach S f L→ ∀ p∈L,p.2.length≤2 ^ f∧p.1≤9999*2 ^ f
 | _,_,.zero,p,hp=>by have:=hS p hp;simpa using this
 | f+1,_,.step h hp _,p,hm=>by
   have hpos:0<2 ^ f:=Nat.two_pow_pos f
   have h1:=hp.subset hm
   rw[Nat.pow_succ]
   rcases List.mem_append.1 h1 with h1 | h1
   ·obtain⟨x,hx,y,hy,e⟩:=zHR _ _ h1
    have a:=h.bound hS x hx
    have b:=h.bound hS y hy
    subst e
    simp only[List.length_append]
    omega
   ·have:=hS p h1
    omega
theorem zMN: ∀ (L:List Pack) (j:Nat) (h:2*j+1<L.length),(pairP L)[j]? =some ((L[2*j]'(by omega)).1+L[2*j+1].1,(L[2*j]'(by omega)).2++L[2*j+1].2)
 | [],j,h=>by simp at h
 | [_],j,h=>by simp at h
 | x::y::r,0,h=>by simp[pairP]
 | x::y::r,j+1,h=>by
   have:=zMN r j (by simp at h;omega)
   rw[pairP,List.getElem?_cons_succ,this]
   simp[show 2*(j+1)=2*j+1+1 by omega]
theorem pairP_take {L:List Pack} {j:Nat} (h:2*j+1<L.length):(pairP L).take (j+1)=(pairP L).take j++[((L[2*j]'(by omega)).1+L[2*j+1].1,(L[2*j]'(by omega)).2++L[2*j+1].2)]:=by
 have hg:=zMN L j h
 obtain⟨hj,e⟩:=List.getElem?_eq_some_iff.1 hg
 rw[List.take_succ_eq_append_getElem hj,e]
def filt (f:Int→Nat) (k i:Nat):List Int:=((List.range i).map Int.ofNat).filter fun s=>decide (f s=k+1)
theorem zEY (f:Int→Nat) (k i:Nat):filt f k (i+1)=filt f k i++(if f (i:Int)=k+1 then [(i:Int)] else []):=by
 unfold filt
 rw[List.range_succ,List.map_append,List.filter_append]
 congr 1
 by_cases h:f (i:Int)=k+1
 ·simp[h]
 ·simp[h]
theorem filt_len (f:Int→Nat) (k i:Nat):(filt f k i).length≤i:=by
 unfold filt
 exact Nat.le_trans (List.length_filter_le _ _) (by simp)
def csN (f:Int→Nat) (n k i:Nat):List Int:=(List.range 16).map fun j=>if j<k then ((filt f j n).length:Int) else if j=k then ((filt f k i).length:Int) else 0
def xsN (f:Int→Nat) (n k i:Nat):List Int:=(List.range k).flatMap (fun j=>filt f j n)++filt f k i
theorem csN_len (f:Int→Nat) (n k i:Nat):(csN f n k i).length=16:=by simp[csN]
theorem csN_zero (f:Int→Nat) (n:Nat):csN f n 0 0=List.replicate 16 0:=by
 rw[List.eq_replicate_iff]
 refine⟨csN_len f n 0 0,fun b hb=> ?_⟩
 obtain⟨j, -,rfl⟩:=List.mem_map.1 hb
 simp[filt]
theorem csN_next (f:Int→Nat) (n k:Nat):csN f n k n=csN f n (k+1) 0:=by
 unfold csN
 refine List.map_congr_left fun j _=> ?_
 by_cases h1:j<k
 ·rw[if_pos h1,if_pos (by omega)]
 ·rw[if_neg h1]
  by_cases h2:j=k
  ·rw[if_pos h2,if_pos (by omega),h2]
  ·rw[if_neg h2,if_neg (by omega)]
   split
   ·simp[filt]
   ·rfl
theorem csN_get (f:Int→Nat) (n k i j:Nat) (hj:j<(csN f n k i).length):(csN f n k i)[j]=if j<k then ((filt f j n).length:Int) else if j=k then ((filt f k i).length:Int) else 0:=by
 simp[csN]
theorem csN_at (f:Int→Nat) (n k i:Nat) (hk:k<16):(csN f n k i)[k]'(by rw[csN_len];exact hk)=((filt f k i).length:Int):=by
 simp[csN]
theorem csN_keep (f:Int→Nat) (n k i:Nat) (h:f (i:Int)≠k+1):csN f n k (i+1)=csN f n k i:=by
 unfold csN
 rw[zEY,if_neg h,List.append_nil]
theorem csN_set (f:Int→Nat) (n k i:Nat) (h:f (i:Int)=k+1):(csN f n k i).set k (((filt f k i).length:Int)+1)=csN f n k (i+1):=by
 apply List.ext_getElem
 ·rw[List.length_set,csN_len,csN_len]
 ·intro j h1 h2
  rw[List.getElem_set,csN_get,csN_get]
  by_cases hj:k=j
  ·subst hj
   rw[if_pos rfl,if_neg (by omega),if_pos rfl,zEY,if_pos h,List.length_append]
   simp
  ·rw[if_neg hj]
   by_cases h1:j<k
   ·rw[if_pos h1,if_pos h1]
   ·rw[if_neg h1,if_neg h1,if_neg (by omega),if_neg (by omega)]
theorem xsN_next (f:Int→Nat) (n k:Nat):xsN f n k n=xsN f n (k+1) 0:=by
 unfold xsN
 rw[List.range_succ,List.flatMap_append]
 simp[filt]
theorem xsN_keep (f:Int→Nat) (n k i:Nat) (h:f (i:Int)≠k+1):xsN f n k (i+1)=xsN f n k i:=by
 unfold xsN
 rw[zEY,if_neg h,List.append_nil]
theorem xsN_snoc (f:Int→Nat) (n k i:Nat) (h:f (i:Int)=k+1):xsN f n k (i+1)=xsN f n k i++[(i:Int)]:=by
 unfold xsN
 rw[zEY,if_pos h,List.append_assoc]
theorem xsN_len (f:Int→Nat) (n:Nat): ∀ k i,(xsN f n k i).length≤k*n+i
 | k,i=>by
   unfold xsN
   rw[List.length_append]
   have h1: ∀ k,((List.range k).flatMap (fun j=>filt f j n)).length≤k*n:=fun k=>by
    induction k with
    | zero=>simp
    | succ k ih =>
      rw[List.range_succ,List.flatMap_append,List.length_append,Nat.add_mul,Nat.one_mul]
      have:=filt_len f k n
      simp
      simp at ih
      omega
   have:=h1 k
   have:=filt_len f k i
   omega
def Made (counts cs xs:List Int):Prop :=
 ∃ S L,S.Perm (singN counts counts.length)∧(S.map (·.1)).Pairwise (· ≤ ·)∧Reach S 15 L ∧
  cs=csN (fun s=>(cont (L.take (2*S.length-2))).count s) counts.length 16 0∧xs=xsN (fun s=>(cont (L.take (2*S.length-2))).count s) counts.length 16 0
end Go.Proofs.YtkggcjdlpendfaaGreatDoor.BM
namespace Go.Proofs.YtkggcjdlpendfaaGreatDoor
set_option linter.unusedVariables false
set_option linter.unusedSimpArgs false
set_option maxRecDepth 20000
set_option maxHeartbeats 8000000
open Go.RowKit
theorem zGD:Elt Tryz.prog 22 3 1 8:=⟨Tryz.underlying22,by kernel_rfl,by omega⟩
theorem infoI: ∃ i z,Tryz.prog.info? 3=some i∧i.zero=some z∧z.cells.size=1∧i.size=1∧i.bytes=8:=by
 have h:=(zGD).hi
 cases hq:Tryz.prog.info? 3 with
 | none=>rw[hq] at h;cases h
 | some i =>
   rw[hq] at h
   simp at h
   obtain⟨⟨z,hz,hzs⟩,hs,hb⟩:=h
   exact⟨i,z,rfl,hz,hzs,hs,hb⟩
theorem grow_any (n:Nat) (w:World) (hn:n≤1000000000) :
 Calls Tryz.prog 183 #[.slice none 0 0,.int .i64 (n:Int)] w fun e w'=> ∃ A c,e=.returned (.slice A 0 c)∧w'.ownsRow w.heap.size 3 1 (.slice A 0 c) 0 []∧Ext w w':=by
 have e0:IntKind.i64.wrap (n:Int)=(n:Int):=IntWalk.i64_in _ (by omega)
 by_cases h0:0<n
 ·obtain⟨i,z,hi,hz,hzs,hs,hb⟩:=infoI
  obtain⟨G,hG⟩: ∃ G,grownCap w n 0 3=G:=⟨_,rfl⟩
  have hge:=grownCap_ge w n 0 3
  have hle:=grownCap_le_maxLen w n 0 3 (by unfold maxLen;omega)
  rw[hG] at hge hle
  have hr:=fun ty=>Lib.run_append_nil_zeros w 22 3 ty 3 i z .i64 .i64 Tryz.underlying22 Tryz.underlying3 hi hz n h0 (by omega) (by omega) (by rw[hb];omega)
  rw[hG] at hr
  obtain⟨cells,hcells⟩: ∃ cells,Builtin.zeroCells z.cells n++Builtin.zeroCells z.cells (G-n)=cells:=⟨_,rfl⟩
  rw[hcells] at hr
  have hcs:cells.size=G:=by
   rw[←hcells,Array.size_append,size_zeroCells,size_zeroCells,hzs]
   omega
  have hown:(w.drew.alloc (.cells cells 3)).ownsRow w.heap.size 3 1 (.slice (some ⟨w.heap.size,0,none⟩) 0 G) 0 [] :=
   ⟨rfl,.inr ⟨w.heap.size,G,cells,rfl,wA5 _,heap_alloc_new w.drew _,wL9 _,hle,by rw[hcs];omega,by simp⟩⟩
  have HOWN:=zA hown
  have HR:=zA hr
  unfold maxLen at hle
  clear hr hown hcells hcs hG hi hz hzs hs hb
  go_enter Tryz.func183,Tryz.ntmps183
  go_wp2_with (first
   | ((with_reducible apply gS 6);refine zB rfl (.bool false) (zR rfl rfl rfl (by simp;omega)) ?_)
   | ((with_reducible apply gS 14);refine zB rfl (.int .i64 (n:Int)) (zHp rfl rfl rfl (by omega) (by omega)) ?_)
   | ((with_reducible apply gS 16);refine zB rfl (.bool true) (xP rfl rfl rfl (by simp;omega)) ?_)
   | ((with_reducible apply gS 22);refine Lib.wpList_append_run _ rfl _ _ _ _ rfl _ _ rfl rfl _ _ (HR.out _) ?_))
  go_ret
  exact⟨_,_,rfl,HOWN.out,(Ext.refl w).drew.alloc _⟩
 ·obtain rfl:n=0:=by omega
  have hown:w.ownsRow w.heap.size 3 1 (.slice none 0 0) 0 []:=zAT _ _ _ _
  go_enter Tryz.func183,Tryz.ntmps183
  go_wp2
  go_ret
  exact⟨_,_,rfl,hown,Ext.refl w⟩
theorem zRE (xs ys:List Int) (A B:Option Addr) (a b c d g:Nat) (w:World) (ha:xs.length=a) (hb:ys.length=b) (hal:a≤100000000) (hbl:b≤100000000) (hA:SL w 1 (.slice A a c) a (ints xs)) (hB:SL w 1 (.slice B b d) b (ints ys)) (hg:Blk w g 22 #[.slice A a c,.slice B b d]) :
 Calls Tryz.prog 150 #[.slice (some ⟨g,0,none⟩) 2 2] w fun e w'=> ∃ C k,e=.returned (.slice C (a+b) k)∧w'.ownsRow w.heap.size 3 1 (.slice C (a+b) k) (a+b) (ints (xs++ys))∧Ext w w':=by
 have HO:=zA (qR xs)
 have HO2:=zA (qR ys)
 have HAP:Hid (ints xs++ints ys=ints (xs++ys)):=zA (by simp[ints])
 have HG:=zA (fun W=>grow_any (a+b) W (by omega))
 have g0:=hg.cell 0
 have g1:=hg.cell 1
 obtain⟨n,hab⟩: ∃ n,a+b=n:=⟨_,rfl⟩
 have HN:=zA hab
 rw[hab] at HG ⊢
 generalize ints xs=X at *
 generalize ints ys=Y at *
 generalize ints (xs++ys)=XY at *
 clear ha hb
 go_enter Tryz.func150,Tryz.ntmps150
 go_upto_region 3 with fail
 go_loopw [3,11] (fun sv iv wr=>((iv=.int .i64 0∧sv=.int .i64 0)∨(iv=.int .i64 1∧sv=.int .i64 (a:Int))∨(iv=.int .i64 2∧sv=.int .i64 (n:Int)))∧wr=w) (fun _ i _=>2-(intOf i).toNat)
 case atStart=>exact⟨.inl ⟨rfl,rfl⟩,rfl⟩
 case round =>
  obtain⟨h,hw⟩:=hrel
  have hw':=hw.symm
  subst hw'
  clear hw
  rcases h with ⟨rfl,rfl⟩ | ⟨rfl,rfl⟩ | ⟨rfl,rfl⟩
  ·go_wp2_with (first
    | ((with_reducible apply gS 18);refine zB rfl (.int .i64 (a:Int)) (zKg rfl rfl rfl (by omega) (by omega)) ?_)
    | ((with_reducible apply gS 20);refine zB rfl (.bool false) (zR rfl rfl rfl (by simp;omega)) ?_))
   go_roundw
   case rel=>exact⟨.inr (.inl ⟨by go_num,by first | rfl | trivial⟩),by first | rfl | trivial⟩
   case measure=>simp[intOf]
  ·go_wp2_with (first
    | ((with_reducible apply gS 18);refine zB rfl (.int .i64 (n:Int)) (by rw[←hab];exact zZ rfl rfl rfl (by omega)) ?_)
    | ((with_reducible apply gS 20);refine zB rfl (.bool false) (zR rfl rfl rfl (by simp;omega)) ?_))
   go_roundw
   case rel=>exact⟨.inr (.inr ⟨by go_num,by first | rfl | trivial⟩),by first | rfl | trivial⟩
   case measure=>simp[intOf]
  ·go_upto_region 11 with (go_at_call 183;(with_reducible refine (HG.out _).mono ?_);rintro e w1 ⟨C0,k0,rfl,ho1,hx1⟩)
   have hsz:=hx1.size
   go_loopw [6,27] (fun sv iv wr=>(∃ (C:Option Addr) (k m:Nat) (Z:List Value),((iv=.int .i64 0∧0=m∧[]=Z)∨(iv=.int .i64 1∧a=m∧X=Z)∨(iv=.int .i64 2∧n=m∧X++Y=Z))∧sv=.slice C m k∧wr.ownsRow w.heap.size 3 1 (.slice C m k) m Z)∧Ext w wr) (fun _ i _=>2-(intOf i).toNat)
   case atStart=>exact⟨⟨C0,k0,0,[],.inl ⟨rfl,rfl,rfl⟩,rfl,ho1⟩,hx1⟩
   case round =>
    clear ho1 hx1
    obtain⟨⟨C,k,m,Z,h,rfl,ho⟩,hx⟩:=hrel
    have c0:=(hx.cell (p:=⟨g,0,none⟩) hg.lt).trans g0
    have c1:=(hx.cell (p:=⟨g,1,none⟩) hg.lt).trans g1
    have hsz2:=hx.size
    rcases h with ⟨rfl,rfl,rfl⟩ | ⟨rfl,rfl,rfl⟩ | ⟨rfl,rfl,rfl⟩
    ·go_wp2_with ((with_reducible apply gS 33);refine wApf zGD rfl _ _ rfl w.heap.size _ _ _ rfl ho _ a X rfl (hA.ext hx) HO.out (by omega) (by omega) (by omega) ?_;intro C5 k5 w5 ho5 hg5 hr5;rw[wB2,wK7] at ho5;have hx5:=(zL hg5).ext hx (fun x h=>(ho.lt x h).1))
     go_roundw
     case rel=>exact⟨⟨C5,k5,a,X,.inr (.inl ⟨by go_num,rfl,rfl⟩),by first | rfl | (simp;done) | go_num,ho5⟩,hx5⟩
     case measure=>simp[intOf]
    ·go_wp2_with ((with_reducible apply gS 33);refine wApf zGD rfl _ _ rfl w.heap.size _ _ _ rfl ho _ b Y rfl (hB.ext hx) HO2.out (by omega) (by omega) (by omega) ?_;intro C5 k5 w5 ho5 hg5 hr5;rw[HN.out] at ho5;have hx5:=(zL hg5).ext hx (fun x h=>(ho.lt x h).1))
     go_roundw
     case rel=>exact⟨⟨C5,k5,n,X++Y,.inr (.inr ⟨by go_num,rfl,rfl⟩),by first | rfl | (rw[HN.out];done) | go_num,ho5⟩,hx5⟩
     case measure=>simp[intOf]
    ·go_wp2
     go_ret
     rw[HAP.out] at ho
     exact⟨_,_,rfl,ho,hx⟩
theorem tblM_set (xs:List Int) (s:Value) (k:Nat) (z:Int) (h:k<xs.length):(yG xs s).setIfInBounds k (.int .i64 z)=yG (xs.set k z) s:=by
 unfold yG ints
 rw[wM3,wN8 _ _ (by simpa using h),List.map_set]
theorem zIo:(Tryz.prog.info? 42).bind (·.zero)=some (.agg (yG (List.replicate 16 0) (.slice none 0 0))):=by
 show _=some (Value.agg (ints (List.replicate 16 0)++[Value.slice none 0 0]).toArray)
 kernel_rfl
theorem zEv:3≠42:=by decide
theorem tblM_get (xs:List Int) (s:Value) (k:Nat) (h:k<xs.length):(yG xs s)[k]? =some (.int .i64 xs[k]):=by
 unfold yG ints
 simp[wO6,h]
theorem zNi (cs:List Int) (A:Option Addr) (k c:Nat):(yG cs (.slice A k c)).all (·.oneCell')=true:=by
 unfold yG ints
 simp[Value.oneCell']
theorem zNo (cs:List Int) (s u:Value) (h:cs.length=16):(yG cs s).setIfInBounds 16 u=yG cs u:=by
 unfold yG
 rw[wM3,wF6 _ _ (by rw[zY,h];omega),zY,h]
 rfl
section
open Go.RowKit Go.Maps
def zAU (counts:List Int):Int:=if 256<counts.length then 2 else if zN counts 0 9999 then 0 else 1
theorem zPM (z:Int) (w:World):Calls Tryz.prog 107 (#[.int .i64 z]++ #[]) w fun e w'=>e=.returned (.bool (!inB z 0 9999))∧w=w':=by
 by_cases h:z<0
 ·have h':decide (z<0)=true:=by simpa using h
  have e:inB z 0 9999=false:=zBa.2 (by omega)
  rw[e];clear e
  go_enter Tryz.func107,Tryz.ntmps107
  go_wp2_with fail
  go_ret
  exact⟨rfl,rfl⟩
 ·have h':decide (z<0)=false:=by simpa using h
  have e:(!inB z 0 9999)=decide (9999<z):=by rw[wE2];simp[inB];omega
  rw[e];clear e
  go_enter Tryz.func107,Tryz.ntmps107
  go_wp2_with fail
  go_ret
  exact⟨rfl,rfl⟩
theorem zKl:vJ Tryz.prog 107:=uZ Tryz.func107 (by kernel_rfl) rfl
theorem zKJ (counts:List Int) (v:Value) (w:World) (hv:SL w 1 v counts.length (ints counts)) :
 Calls Tryz.prog 49 #[v] w fun e w'=>e=.returned (.int .i64 (zAU counts))∧w=w':=by
 have HCF:=zA (fun W (hs:SL W 1 v counts.length (ints counts))=>qY 107 #[] (fun z=> !inB z 0 9999) zKl v counts W hs (fun z _=>zPM z W))
 simp only[zCb] at HCF
 have hv':=hv
 obtain⟨A,c,rfl,hc1,hc2, -, -⟩:=hv'
 unfold zAU
 by_cases h:256<counts.length
 ·rw[if_pos h]
  go_enter Tryz.func49,Tryz.ntmps49
  go_wp2_with fail
  go_ret
  exact⟨rfl,rfl⟩
 ·rw[if_neg h]
  cases ha:zN counts 0 9999 with
  | true =>
    rw[ha] at HCF
    clear ha
    go_enter Tryz.func49,Tryz.ntmps49
    go_wp2_with (go_at_call 88;(with_reducible refine (HCF.out _ hv).mono ?_);rintro e w' ⟨rfl,rfl⟩)
    go_ret
    exact⟨rfl,rfl⟩
  | false =>
    rw[ha] at HCF
    clear ha
    go_enter Tryz.func49,Tryz.ntmps49
    go_wp2_with (go_at_call 88;(with_reducible refine (HCF.out _ hv).mono ?_);rintro e w' ⟨rfl,rfl⟩)
    go_ret
    exact⟨rfl,rfl⟩
theorem zOq {counts:List Int} (h:zAU counts=0):counts.length≤256∧zN counts 0 9999=true:=by
 unfold zAU at h
 split at h
 ·cases h
 ·split at h
  ·next h1 h2=>exact⟨by omega,h2⟩
  ·cases h
theorem zDj:Keyed Tryz.prog 3:=int_keyed Tryz.underlying3
theorem zJI (w:World):(zeroValue 3).run Tryz.prog w=.ok (.int .i64 0) w:=by kernel_rfl
end
end Go.Proofs.YtkggcjdlpendfaaGreatDoor
namespace Go.Proofs.YtkggcjdlpendfaaGreatDoor
set_option linter.unusedVariables false
set_option linter.unusedSimpArgs false
set_option maxRecDepth 20000
set_option maxHeartbeats 8000000
open Go.RowKit
theorem run_headP (A:Option Addr) (n c h:Nat) (hh:h≤n) (hc:n≤c) (w:World) :
 (Instr.slice 189 (.slice A n c) none (some (.int .i64 (h:Int))) none).run Tryz.prog w=.ok (.slice A h c) w:=by
 have e2:((h:Int)≤(c:Int)):=by omega
 go_simp
theorem ex_headP {o:Oper} {a:Act} {x hi:Operand} (ho:o.op=.slice 189 x none (some hi) none) {A:Option Addr} {n c h:Nat} (hx:a.eval x=.slice A n c) (h1:a.eval hi=.int .i64 (h:Int)) (hh:h≤n) (hc:n≤c) (w:World) :
 (execOp a.eval o).run Tryz.prog w=.ok (.value (.slice A h c)) w:=by
 simp[execOp,ho,hx,h1,Instr.sliceAt,Sem.run_bind,run_underlying Tryz.underlying189,run_headP A n c h hh hc w]
theorem zeroPkV:(Tryz.prog.info? 188).bind (·.zero)=some (.agg (pkV (0,.slice none 0 0))):=by kernel_rfl
theorem le_mul32 {x y j k:Nat} (a:x≤y*k) (b:y≤j):x≤j*k:=Nat.le_trans a (Nat.mul_le_mul_right k b)
theorem pk_one (z:Int) (A:Option Addr) (n c:Nat):(pkV (z,.slice A n c)).all (·.oneCell')=true:=by simp[pkV,Value.oneCell']
def zBx (C:List Int) (s:Int):Option Value:=if C.count s=0 then none else some (.int .i64 ((C.count s:Nat):Int))
theorem cntF_nil:zBx []=fun _=>none:=by funext s;simp[zBx]
theorem zLZ (C:List Int) (s:Int):(zBx C s).getD (.int .i64 0)=.int .i64 ((C.count s:Nat):Int):=by
 unfold zBx
 split
 ·rename_i h;rw[h];rfl
 ·rfl
theorem cntF_same (C:List Int) (s:Int):zBx (C++[s]) s=some (.int .i64 ((C.count s+1:Nat):Int)):=by
 unfold zBx
 rw[List.count_append,List.count_singleton_self,if_neg (by omega)]
theorem zQZ (C:List Int) (s t:Int) (h:t≠s):zBx (C++[s]) t=zBx C t:=by
 unfold zBx
 rw[List.count_append,List.count_cons,List.count_nil]
 simp[Ne.symm h]
theorem MapG.not_cells {ι:Type} {P:Program} {k:TypeId} {kl:ι→Lit} {ok:ι→Prop} {w:World} {b n:Nat} {g:ι→Option Value} (h:MapG P k kl ok w b n g) {T:TypeId} {cs:Array Value}: ¬Blk w b T cs:=by
 obtain⟨D,⟨es,clock,hb, -⟩, -⟩:=h
 intro q
 unfold Blk at q
 rw[hb] at q
 cases q
theorem zQj {ι:Type} {P:Program} {k:TypeId} {kl:ι→Lit} {ok:ι→Prop} {w:World} {b n B s m:Nat} {g:ι→Option Value} {e:TypeId} {v:Value} {xs:List Value} (ho:w.ownsRow B e s v m xs) (h:MapG P k kl ok w b n g):some b≠v.ownBlock:=fun q=>by
 obtain⟨cs,hc⟩:=zCX ho b q.symm
 exact h.not_cells (T:=e) (cs:=cs) hc
namespace BM
theorem cont_take_succ (L:List Pack) (j:Nat) (h:j<L.length):cont (L.take (j+1))=cont (L.take j)++L[j].2:=by
 rw[List.take_succ_eq_append_getElem h,zPN]
 simp[cont]
theorem cont_len {L:List Pack} {b:Nat} (h: ∀ p∈L,p.2.length≤b):(cont L).length≤L.length*b:=by
 induction L with
 | nil=>simp[cont]
 | cons p L ih =>
   have h1:=h p (by simp)
   have h2:=ih (fun q hq=>h q (by simp[hq]))
   have e:cont (p::L)=p.2++cont L:=by simp[cont]
   rw[e,List.length_append,List.length_cons,Nat.add_mul]
   omega
theorem singN_syms (cs:List Int): ∀ i, ∀ p∈singN cs i, ∀ s∈p.2, -1≤s∧s<i
 | 0,p,hp,s,hs=>by simp[singN] at hp;subst hp;simp at hs;omega
 | i+1,p,hp,s,hs=>by
   rw[singN,List.mem_append] at hp
   rcases hp with hp | hp
   ·have:=singN_syms cs i p hp s hs;omega
   ·split at hp
    ·have e:p=((cs.getD i 0).toNat,[(i:Int)]):=by simpa using hp
     subst e
     simp at hs
     omega
    ·cases hp
theorem Reach.syms {S:List Pack} {R:Int→Prop} (hS: ∀ p∈S, ∀ s∈p.2,R s): ∀ {f L},Reach S f L→ ∀ p∈L, ∀ s∈p.2,R s
 | _,_,.zero,p,hp=>hS p hp
 | _,_,.step h hp _,p,hm=>by
   have h1:=hp.subset hm
   rcases List.mem_append.1 h1 with h1 | h1
   ·obtain⟨x,hx,y,hy,e⟩:=zHR _ _ h1
    subst e
    intro s hs
    rcases List.mem_append.1 hs with hs | hs
    ·exact h.syms hS x hx s hs
    ·exact h.syms hS y hy s hs
   ·exact hS p h1
end BM
end Go.Proofs.YtkggcjdlpendfaaGreatDoor
