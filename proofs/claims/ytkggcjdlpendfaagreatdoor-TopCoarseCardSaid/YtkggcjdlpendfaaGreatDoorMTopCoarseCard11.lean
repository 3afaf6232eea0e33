/- Contracts of the functions that the law reaches, part 11. -/
import Derived.Outline
import Derived.Test.YtkggcjdlpendfaaGreatDoorMTopCoarseCard10
namespace Go.Proofs.YtkggcjdlpendfaaGreatDoor
set_option linter.unusedVariables false
set_option linter.unusedSimpArgs false
set_option maxRecDepth 20000
set_option maxHeartbeats 8000000
open Go.RowKit
def yG (cs:List Int) (sl:Value):Array Value:=(ints cs++[sl]).toArray
theorem zO:(Tryz.prog.info? 42).map (·.size)=some 17:=by kernel_rfl
theorem zJY:(Tryz.prog.info? 40).map (·.size)=some 16:=by kernel_rfl
theorem uY (cs:List Int) (sl:Value) (h:cs.length=16):(yG cs sl).size=17:=by simp[yG,zY,h]
theorem zDl {w:World} {g:Nat} {T:TypeId} {cs:List Int} {sl:Value} (h:Blk w g T (yG cs sl)):w.rangeAt g 0 (ints cs):=by
 intro j v hv
 rw[wB2,h.cell]
 unfold yG
 rw[wH2,wG4 (wC2.1 hv).1]
 exact hv
theorem zDV {w:World} {g:Nat} {T:TypeId} {cs:List Int} {sl:Value} (h:Blk w g T (yG cs sl)) (hl:cs.length=16):w.cell? ⟨g,16,none⟩=some sl:=by
 rw[h.cell]
 simp[yG,zY,hl]
theorem zEm (cs:Array Value) (i:Nat) (u:Value) (hi:i<16) (hu:cs[i]? =some u) (w:World):(Instr.index 40 (.agg cs) (.int .i64 (i:Int))).run Tryz.prog w=.ok u w :=
 zBZ _ _ 16 cs i u Tryz.underlying40 _ Tryz.underlying3 zFB hi hu w
def zAc (cs:List Int) (k:Nat):Int:=(cs.take k).sum
theorem zMM (cs:List Int) (k:Nat) (h:k<cs.length):zAc cs (k+1)=zAc cs k+cs[k]:=by
 unfold zAc
 rw[wC3 h,List.sum_append]
 simp
def zBF (cs:List Int):Int×Bool:=if zN cs 0 256 then (zAc cs 16,decide (zAc cs 16≤256)) else (0,false)
theorem zLQ (cs:List Int) (sl:Value) (w:World) (hl:cs.length=16) :
 Calls Tryz.prog 151 #[.agg (yG cs sl)] w fun e w'=>e=.returned (.tuple #[.int .i64 (zBF cs).1,.bool (zBF cs).2])∧Ext w w':=by
 have HL:=zA hl
 have HRG:=zA (fun W g (h:Blk W g 42 (yG cs sl))=>zDl h)
 have hcl:=zA ((zY cs).trans hl)
 have HIX:=zA (fun k (hk:k<cs.length) (h16:k<16)=>fun W=>zEm (bv cs) k (.int .i64 cs[k]) h16 (qG cs k hk) W)
 generalize yG cs sl=tv at *
 have hbv:(ints cs).toArray=bv cs:=rfl
 go_enter Tryz.func151,Tryz.ntmps151
 go_wp2_with (first
  | (refine wBox rfl 42 (.tmp 0) rfl tv rfl ?_;intro w1 g hb1 hx1 hg)
  | (refine wpList_load_mid rfl 40 (.tmp 7) rfl g 0 rfl (ints cs) _ (HRG.out _ _ hb1) Tryz.underlying40 rfl (by rw[hcl.out];exact zJY) ?_))
 go_loop [4,9] (fun v i=> ∃ k:Nat,k≤16∧i=.int .i64 (k:Int)∧v=.int .i64 (zAc cs k)∧(∀ z∈cs.take k,0≤z∧z≤256)∧0≤zAc cs k∧zAc cs k≤256*k) (fun _ i=>16-(intOf i).toNat)
 case atStart=>exact⟨0,by omega,rfl,rfl,by simp,by simp[zAc],by simp[zAc]⟩
 case round =>
  obtain⟨k,hk,rfl,rfl,hin,s1,s2⟩:=hrel
  by_cases hlt:k<16
  ·have hkl:k<cs.length:=by have:=HL.out;omega
   have hix:=HIX.out k hkl hlt
   have HS:=zA (zMM cs k hkl)
   have HIN:=zA hin
   clear hin
   cases hq:inB cs[k] 0 256 with
   | true =>
     obtain⟨q1,q2⟩:=vF.1 hq
     have HN:=zA (zFh HIN.out hkl ⟨q1,q2⟩)
     generalize zAc cs k=s at *
     go_wp2_with fail
     go_round
     case rel=>exact⟨k+1,by omega,by go_num,by rw[HS.out],HN.out,by rw[HS.out];omega,by rw[HS.out];omega⟩
     case measure=>simp[intOf];omega
   | false =>
     have HF:=zA (show zBF cs=(0,false) by unfold zBF;rw[zNS hkl hq];rfl)
     rcases Int.lt_or_le cs[k] 0 with h0 | h0
     ·have h0':decide (cs[k]<0)=true:=by simpa using h0
      clear hq
      go_wp2_with fail
      go_ret2
      exact⟨by rw[HF.out];rfl,hx1⟩
     ·have h0':decide (cs[k]<0)=false:=by simpa using h0
      have h1':decide (256<cs[k])=true:=by have:=zBa.1 hq;simp;omega
      clear hq
      go_wp2_with fail
      go_ret2
      exact⟨by rw[HF.out];rfl,hx1⟩
  ·have ek:k=16:=by omega
   have HF:=zA (show zBF cs=(zAc cs 16,decide (zAc cs 16≤256)) by
    unfold zBF
    rw[yD.2 (fun z hz=>hin z (by rwa [wC4 (by have:=HL.out;omega)]))]
    rfl)
   rw[ek]
   rw[ek] at s1 s2
   clear hin ek hk hlt
   go_wp2_with fail
   go_ret2
   exact⟨by rw[HF.out];rfl,hx1⟩
def vW (cs:List Int):Nat→Nat
 | 0=>0
 | k+1=>2*vW cs k+(cs.getD k 0).toNat
def okW (cs:List Int):Bool:=(List.range 16).all fun k=>decide (vW cs (k+1)+1≤2 ^ (k+1))
theorem okW_no {cs:List Int} {k:Nat} (hk:k<16) (h:2 ^ (k+1)<vW cs (k+1)+1):okW cs=false:=by
 rw[←wE0]
 intro h2
 have:=wB5.1 h2 k (wB7.2 hk)
 simp only[wB3] at this
 omega
def zCG (cs xs:List Int):Bool:=zN cs 0 256&&decide (zAc cs 16≤256)&&decide (zAc cs 16=xs.length)
def yC (cs xs:List Int):Int:=if zCG cs xs then (if zN xs 0 255 then (if decide xs.Nodup&&okW cs then 0 else 4) else 1) else 4
theorem zKT {cs xs:List Int} (h:zCG cs xs=false):yC cs xs=4:=by simp[yC,h]
theorem zKF {cs xs:List Int} (h:zCG cs xs=true) (h2:zN xs 0 255=false):yC cs xs=1:=by simp[yC,h,h2]
theorem zPz {cs xs:List Int} (h:zCG cs xs=true) (h2:zN xs 0 255=true) (h3: ¬xs.Nodup):yC cs xs=4:=by simp[yC,h,h2,h3]
theorem zNG {cs xs:List Int} (h:zCG cs xs=true) (h2:zN xs 0 255=true) (h3:xs.Nodup):yC cs xs=if okW cs then 0 else 4:=by simp[yC,h,h2,h3]
theorem zHj {cs xs:List Int}:zCG cs xs=true↔zN cs 0 256=true∧zAc cs 16≤256∧zAc cs 16=xs.length:=by simp[zCG,and_assoc]
theorem zKI {xs:List Int} {k:Nat} (hk:k<xs.length):(xs.take (k+1)).Nodup↔(xs.take k).Nodup∧xs[k]∉xs.take k:=by
 rw[wC3 hk,List.nodup_append]
 constructor
 ·rintro⟨a, -,c⟩
  exact⟨a,fun h=>c _ h _ (by simp) rfl⟩
 ·rintro⟨a,b⟩
  refine⟨a,by simp,fun x hx y hy=> ?_⟩
  simp at hy
  subst hy
  rintro rfl
  exact b hx
theorem okW_yes {cs:List Int} (h: ∀ j,j<16→vW cs (j+1)+1≤2 ^ (j+1)):okW cs=true :=
 wB5.2 fun i hi=>by
  have:=h i (wB7.1 hi)
  simpa using this
theorem zJR (cs:List Int) (k n:Nat) (hk:k<cs.length) (h:cs[k]=(n:Int)):vW cs (k+1)=2*vW cs k+n:=by
 show 2*vW cs k+(cs.getD k 0).toNat=_
 simp[hk,h]
theorem elt_word:Elt Tryz.prog 88 94 3 24:=⟨Tryz.underlying88,by kernel_rfl,by omega⟩
theorem one_sl3' (w:World) (T:TypeId) (a b c:Value):SL (w.alloc (.cells #[a,b,c] T)) 3 (.slice (some ⟨w.heap.size,0,none⟩) 1 1) 1 [a,b,c]:=by
 have:=(Blk.new w T #[a,b,c]).sl (size:=3) (n:=1) (c:=1) rfl (by omega) (by omega)
 simpa using this
theorem int3_one (a b c:Int): ∀ u∈[Value.int .i64 a,.int .i64 b,.int .i64 c],u.oneCell'=true:=by
 intro u hu
 simp at hu
 rcases hu with rfl | rfl | rfl<;>rfl
theorem own_tok3 {w:World} {base:Nat} {e:TypeId} {v:Value} {T:List Tok} {a b c:Int} (h:w.ownsRow base e 3 v (T.length+1) (qC T++[.int .i64 a,.int .i64 b,.int .i64 c])):w.ownsRow base e 3 v (T++[(a,b,c)]).length (qC (T++[(a,b,c)])):=by
 simpa [qC,xV] using h
def vV (cs:List Int) (k j:Nat):List (Nat×Nat):=(List.range j).map fun i=>(k+1,2*vW cs k+i)
def zG (cs:List Int):Nat→List (Nat×Nat)
 | 0=>[]
 | k+1=>zG cs k++vV cs k (cs.getD k 0).toNat
theorem rowC_succ (cs:List Int) (k j:Nat):vV cs k (j+1)=vV cs k j++[(k+1,2*vW cs k+j)]:=by
 unfold vV
 rw[wH0,wH1]
 rfl
theorem zND (cs:List Int) (k j:Nat):(vV cs k j).length=j:=by simp[vV]
theorem zIg (cs:List Int) (k n:Nat) (hk:k<cs.length) (h:cs[k]=(n:Int)):zG cs (k+1)=zG cs k++vV cs k n:=by
 show zG cs k++vV cs k (cs.getD k 0).toNat=_
 simp[hk,h]
theorem zDw (cs:List Int) (h: ∀ z∈cs,0≤z): ∀ k,k≤cs.length→((zG cs k).length:Int)=zAc cs k:=by
 intro k
 induction k with
 | zero=>intro _;simp[zG,zAc]
 | succ k ih =>
   intro hk
   have h0:=h _ (wE1 (show k<cs.length by omega))
   rw[zIg cs k cs[k].toNat (by omega) (by omega),wF1,zND,zMM cs k (by omega), ←ih (by omega)]
   omega
theorem zPi (cs:List Int) (j k:Nat) (h:j≤k):(zG cs j).length≤(zG cs k).length:=by
 induction k with
 | zero=>obtain rfl:j=0:=by omega
         exact wA5 _
 | succ k ih =>
   rcases wA3 k j with h2 | h2
   ·obtain rfl:j=k+1:=by omega
    exact wA5 _
   ·have:=ih h2
    show _≤(zG cs k++_).length
    rw[wF1]
    omega
def zM (l:List (Nat×Nat)) (xs:List Int):List Tok:=List.zipWith (fun p x=>((x,(p.1:Int),(p.2:Int)):Tok)) l xs
theorem zDJ (l:List (Nat×Nat)) (xs:List Int) (h:l.length≤xs.length):(zM l xs).length=l.length:=by simp[zM];omega
theorem zipC_snoc (l:List (Nat×Nat)) (p:Nat×Nat) (xs:List Int) (h:l.length<xs.length):zM (l++[p]) xs=zM l xs++[(xs[l.length],(p.1:Int),(p.2:Int))]:=by
 induction l generalizing xs with
 | nil =>
   cases xs with
   | nil=>simp at h
   | cons x xs=>simp[zM]
 | cons q l ih =>
   cases xs with
   | nil=>simp at h
   | cons x xs =>
     have h':l.length<xs.length:=by simpa using h
     have:=ih xs h'
     simp only[zM,wK6,wL6] at this ⊢
     rw[this]
     simp
theorem zFX (cs:List Int) (hok:okW cs=true) (hl:cs.length=16): ∀ k,k≤16→ ∀ p∈zG cs k,1≤p.1∧p.1≤k∧p.2+1<2 ^ p.1+1:=by
 intro k
 induction k with
 | zero=>intro _ p hp;simp[zG] at hp
 | succ k ih =>
   intro hk p hp
   rcases wE5.1 (show p∈zG cs k++vV cs k (cs.getD k 0).toNat from hp) with h | h
   ·have:=ih (by omega) p h
    omega
   ·simp only[vV,wD6,wB7] at h
    obtain⟨i,hi,rfl⟩:=h
    have h1:=wB5.1 hok k (wB7.2 (by omega))
    simp only[wB3] at h1
    have h2:vW cs (k+1)=2*vW cs k+(cs.getD k 0).toNat:=rfl
    refine⟨by simp,by simp, ?_⟩
    simp only
    omega
theorem zDS (cs:List Int):zG cs 0=[]:=rfl
theorem zEl (cs:List Int) (k:Nat):zG cs (k+1)=zG cs k++vV cs k (cs.getD k 0).toNat:=rfl
attribute [irreducible] zG
section
open Go.RowKit Go.Maps
theorem zCd:Keyed Tryz.prog 3:=int_keyed Tryz.underlying3
theorem zero_bool (w:World):(zeroValue 4).run Tryz.prog w=.ok (.bool false) w:=by kernel_rfl
def zDQ (l:List Int) (x:Int):Option Value:=if x∈l then some (.bool true) else none
theorem zQN (l:List Int) (x:Int):(zDQ l x).getD (.bool false)=.bool (decide (x∈l)):=by
 unfold zDQ;by_cases h:x∈l<;>simp[h]
theorem check_tot (cs xs:List Int) (sl:Value) (w:World) (hl:cs.length=16) (hs:SL w 1 sl xs.length (ints xs)) (h:zCG cs xs=false) :
 Calls Tryz.prog 102 #[.agg (yG cs sl)] w fun e w'=>e=.returned (.int .i64 4)∧Ext w w':=by
 have HT:=zA (fun W=>zLQ cs sl W hl)
 have hlast:=zA (fun W g (h:Blk W g 42 (yG cs sl))=>zDV h hl)
 have hts:=zA (uY cs sl hl)
 have hq:(zBF cs).2=false∨((zBF cs).2=true∧((zBF cs).1 !=(xs.length:Int))=true):=by
  unfold zCG at h
  unfold zBF
  cases h1:zN cs 0 256 with
  | false=>left;simp
  | true =>
    rw[h1] at h
    simp only[if_true]
    by_cases h2:zAc cs 16≤256
    ·right
     simp[h2] at h ⊢
     exact h
    ·left;simpa using h2
 generalize zBF cs=tz at *
 obtain⟨all,is⟩:=tz
 generalize yG cs sl=tv at *
 obtain⟨A,c,rfl,hc1,hc2, -, -⟩:=hs
 rcases hq with hq | ⟨hq,hq2⟩
 ·simp only at hq
  subst hq
  go_enter Tryz.func102,Tryz.ntmps102
  go_wp2_with (first
   | (refine wBox rfl 42 (.tmp 0) rfl tv rfl ?_;intro w1 g hb1 hx1 hg)
   | (refine wLdB rfl 42 (.tmp 1) rfl _ rfl hb1 _ Tryz.underlying42 rfl 17 zO hts.out ?_)
   | (go_at_call 151;(with_reducible refine (HT.out _).mono ?_);rintro e w2 ⟨rfl,hx2⟩))
  go_ret
  exact⟨rfl,hx1.trans hx2⟩
 ·simp only at hq hq2
  subst hq
  go_enter Tryz.func102,Tryz.ntmps102
  go_wp2_with (first
   | (refine wBox rfl 42 (.tmp 0) rfl tv rfl ?_;intro w1 g hb1 hx1 hg)
   | (refine wLdB rfl 42 (.tmp 1) rfl _ rfl hb1 _ Tryz.underlying42 rfl 17 zO hts.out ?_)
   | (go_at_call 151;(with_reducible refine (HT.out _).mono ?_);rintro e w2 ⟨rfl,hx2⟩;have hc16:=hlast.out _ _ (hb1.ext hx2)))
  go_ret
  exact⟨rfl,hx1.trans hx2⟩
theorem seenF_upd (xs:List Int) (k:Nat) (hk:k<xs.length):zDQ (xs.take (k+1)) xs[k]=some (.bool true):=by
 unfold zDQ
 rw[if_pos (by rw[wC3 hk];exact List.mem_append_right _ (by simp))]
theorem zOz (xs:List Int) (k:Nat) (hk:k<xs.length) (j:Int) (hj:j≠xs[k]):zDQ (xs.take (k+1)) j=zDQ (xs.take k) j:=by
 unfold zDQ
 have:j∈xs.take (k+1)↔j∈xs.take k:=by rw[wC3 hk,wE5];simp[hj]
 by_cases h:j∈xs.take k
 ·rw[if_pos h,if_pos (this.2 h)]
 ·rw[if_neg h,if_neg (fun h2=>h (this.1 h2))]
theorem check_in (cs xs:List Int) (sl:Value) (w:World) (hl:cs.length=16) (hs:SL w 1 sl xs.length (ints xs)) (h:zCG cs xs=true) :
 Calls Tryz.prog 102 #[.agg (yG cs sl)] w fun e w'=>e=.returned (.int .i64 (yC cs xs))∧Ext w w':=by
 have HT:=zA (fun W=>zLQ cs sl W hl)
 have hlast:=zA (fun W g (h:Blk W g 42 (yG cs sl))=>zDV h hl)
 have hts:=zA (uY cs sl hl)
 have HRG:=zA (fun W g (h:Blk W g 42 (yG cs sl))=>zDl h)
 have hcl:=zA ((zY cs).trans hl)
 have HIX:=zA (fun k (hk:k<cs.length) (h16:k<16)=>fun W=>zEm (ints cs).toArray k (.int .i64 cs[k]) h16 (qG cs k hk) W)
 obtain⟨q1,q2,q3⟩:=zHj.1 h
 have HZ1:=zA (fun h2=>zKF h h2)
 have HZ2:=zA (fun h2 h3=>zPz h h2 h3)
 have HZ3:=zA (fun h2 h3=>zNG h h2 h3)
 have HT1:Hid (zBF cs=((xs.length:Int),true)):=zA (by unfold zBF;rw[q1,q3];simp;omega)
 rw[HT1.out] at HT
 have hlen:xs.length≤256:=by omega
 have HAL:=zA (yD.1 q1)
 have HL:=zA hl
 have hneq:((xs.length:Int) !=(xs.length:Int))=false:=by simp
 have hmm:= @run_makeMap Tryz.prog
 have hs':=hs
 obtain⟨A,c,rfl,hc1,hc2, -, -⟩:=hs'
 generalize yG cs (.slice A xs.length c)=tv at *
 clear h q1 q2 q3
 go_enter Tryz.func102,Tryz.ntmps102
 go_wp2_with (first
  | (refine wBox rfl 42 (.tmp 0) rfl tv rfl ?_;intro w1 g hb1 hx1 hg)
  | (refine wLdB rfl 42 (.tmp 1) rfl _ rfl hb1 _ Tryz.underlying42 rfl 17 zO hts.out ?_)
  | (go_at_call 151;(with_reducible refine (HT.out _).mono ?_);rintro e w2 ⟨rfl,hx2⟩;have hc16:=hlast.out _ _ (hb1.ext hx2);have hc16b:=hlast.out _ _ ((hb1.ext hx2).alloc (.map #[] 0))))
 have hb2:=hb1.ext hx2
 have hxm:=hx1.trans hx2
 have hgm:=hxm.size
 have hne:=hb2.lt
 clear hmm hb1 hx1 hx2 hc16 hc16b
 go_loopw [6,30] (fun tw i wr=> ∃ (k:Nat) (tb:Bool),k≤xs.length∧i=.int .i64 (k:Int)∧tw=.bool tb∧tb=(!decide (xs.take k).Nodup)∧(∀ z∈xs.take k,0≤z∧z≤255)∧MapI Tryz.prog 3 wr w2.heap.size k (zDQ (xs.take k))∧Blk wr g 42 tv∧Ext w wr) (fun _ i _=>xs.length-(intOf i).toNat)
 case atStart=>exact⟨0,false,by omega,rfl,rfl,by simp,by simp,MapG.made _,hb2.alloc _,hxm.alloc _⟩
 case round =>
  clear hb2 hxm
  obtain⟨k,tb,hk,rfl,rfl,htb,hin,hm,hb,hx⟩:=hrel
  have HTB:=zA htb
  have HIN:=zA hin
  clear htb hin
  by_cases hlt:k<xs.length
  ·obtain⟨ad,u,rfl, -,hxk,hcell⟩:=(hs.ext hx).at1 hlt
   obtain⟨hkl,rfl⟩:=zBt _ _ _ hxk
   clear hxk
   cases hq:inB xs[k] 0 255 with
   | true =>
     obtain⟨q1,q2⟩:=vF.1 hq
     have h0':decide (xs[k]<0)=false:=by simpa using q1
     have h1':decide (256≤xs[k])=false:=by simp;omega
     have HN:=zA (zFh HIN.out hkl ⟨q1,q2⟩)
     have HND:=zA (zKI hkl)
     have HU:=zA (seenF_upd xs k hkl)
     have HO:=zA (zOz xs k hkl)
     have HLK:=zA (zQN (xs.take k) xs[k])
     have hkey:=zA (zCV (P:=Tryz.prog) Tryz.underlying3 (a:=xs[k]) (by omega) (by omega))
     generalize xs[k]=x at *
     clear hq
     cases tb with
     | true =>
       go_wp2_with (at_mapUpdate;refine zBs (by rfl) _ _ _ 196 4 rfl zCd Tryz.underlying196 rfl hm (by omega) _ rfl _ rfl x hkey.out (zDQ (xs.take (k+1))) HU.out (fun j _ hj=>HO.out j (fun e=>hj (by rw[e]))) (fun j _ hj=>by injection hj) ?_;intro w7 hm7 hg7)
       go_roundw
       case rel =>
        exact⟨k+1,true,by omega,by go_num,rfl,by have h1:=HTB.out;have h2:=HND.out;simp at h1 ⊢;rw[h2];simp[h1],HN.out,hm7,hb.grown hg7 (by simp;omega),zGR hx hg7 (by omega)⟩
       case measure=>simp[intOf];omega
     | false =>
       go_wp2_with (first
        | (at_lookup;refine zCC (by rfl) _ _ 196 4 rfl zCd Tryz.underlying196 _ (zero_bool _) rfl hm _ rfl x trivial hkey.out _ HLK.out ?_)
        | (at_mapUpdate;refine zBs (by rfl) _ _ _ 196 4 rfl zCd Tryz.underlying196 rfl hm (by omega) _ rfl _ rfl x hkey.out (zDQ (xs.take (k+1))) HU.out (fun j _ hj=>HO.out j (fun e=>hj (by rw[e]))) (fun j _ hj=>by injection hj) ?_;intro w7 hm7 hg7))
       go_roundw
       case rel =>
        exact⟨k+1,decide (x∈xs.take k),by omega,by go_num,rfl,by have h1:=HTB.out;have h2:=HND.out;simp at h1;by_cases hm:x∈xs.take k<;>simp[h2,h1,hm],HN.out,hm7,hb.grown hg7 (by simp;omega),zGR hx hg7 (by omega)⟩
       case measure=>simp[intOf];omega
   | false =>
     have HF:=zA (HZ1.out (zNS hkl hq))
     rcases Int.lt_or_le xs[k] 0 with h0 | h0
     ·have h0':decide (xs[k]<0)=true:=by simpa using h0
      clear hq
      go_wp2_with fail
      go_ret
      exact⟨by rw[HF.out];rfl,hx⟩
     ·have h0':decide (xs[k]<0)=false:=by simpa using h0
      have h1':decide (256≤xs[k])=true:=by have:=zBa.1 hq;simp;omega
      clear hq
      go_wp2_with fail
      go_ret
      exact⟨by rw[HF.out];rfl,hx⟩
  ·have hkx:k=xs.length:=by omega
   have e1:xs.take k=xs:=wC4 (by omega)
   rw[e1] at HTB HIN
   have HA:=zA (yD.2 HIN.out)
   clear e1 hm
   go_wp2_with (refine wpList_load_mid rfl 40 (.tmp 49) rfl g 0 rfl (ints cs) _ (HRG.out _ _ hb) Tryz.underlying40 rfl (by rw[hcl.out];exact zJY) ?_)
   go_loop [9,51] (fun nx i=> ∃ k:Nat,k≤16∧i=.int .i64 (k:Int)∧nx=.int .i64 (vW cs k:Nat)∧vW cs k+1≤2 ^ k∧(∀ j,j<k→vW cs (j+1)+1≤2 ^ (j+1))∧(0<k→tb=false)) (fun _ i=>16-(intOf i).toNat)
   case atStart=>exact⟨0,by omega,rfl,rfl,by simp[vW],by intro j hj;omega,by omega⟩
   case round =>
    obtain⟨k,hk,rfl,rfl,hnx,hall,htw⟩:=hrel
    have HALL:=zA hall
    have HTW:=zA htw
    clear hall htw
    by_cases hlt2:k<16
    ·have hkl:k<cs.length:=by have:=HL.out;omega
     have hix:=HIX.out k hkl hlt2
     obtain⟨q1,q2⟩:=HAL.out _ (wE1 hkl)
     obtain⟨n,hn⟩: ∃ n:Nat,cs[k]=(n:Int):=⟨cs[k].toNat,by omega⟩
     have HNW:=zA (zJR cs k n hkl hn)
     have HNO:=zA (fun h=>okW_no (cs:=cs) hlt2 h)
     rw[hn] at hix q1 q2
     have hp:(2:Nat) ^ k≤65536:=by have:=wI1 (n:=2) (by omega) (show k≤16 by omega);simpa using this
     have HP:Hid (2 ^ (k+1)=2*2 ^ k):=zA (by rw[wK8];omega)
     rw[HNW.out,HP.out] at HNO
     have hp1:(1:Int)≤2 ^ (k+1):=zBQ (k+1)
     have hp2:(2:Int) ^ (k+1)≤131072:=by have:=zFN (k+1) 17 (by omega);simpa using this
     have HPI:Hid ((2:Int) ^ (k+1)=((2*2 ^ k:Nat):Int)):=zA (by rw[←HP.out];simp)
     clear hn
     cases tb with
     | true =>
       have HF:=zA (HZ2.out HA.out (by have:=HTB.out;simpa using this))
       go_wp2_with fail
       go_ret
       exact⟨by rw[HF.out];rfl,hx⟩
     | false =>
       generalize vW cs k=N at *
       by_cases hbad:2*N+n+1≤2*2 ^ k
       ·have hd:decide ((2:Int) ^ (k+1)-1<(N:Int)*2+(n:Int))=false:=by have:=HPI.out;simp;omega
        go_wp2_with fail
        go_round
        case rel =>
         refine⟨k+1,by omega,by go_num,by rw[HNW.out];congr 1;omega,by rw[HNW.out,HP.out];omega, ?_,by simp⟩
         intro i hi
         by_cases hik:i=k
         ·subst hik;rw[HNW.out,HP.out];omega
         ·exact HALL.out i (by omega)
        case measure=>simp[intOf];omega
       ·have hd:decide ((2:Int) ^ (k+1)-1<(N:Int)*2+(n:Int))=true:=by have:=HPI.out;simp;omega
        have HF:=zA (HZ3.out HA.out (by have:=HTB.out;simpa using this))
        have HNO':=zA (HNO.out (by omega))
        go_wp2_with fail
        go_ret
        exact⟨by rw[HF.out,HNO'.out];rfl,hx⟩
    ·obtain rfl:k=16:=by omega
     obtain rfl:=HTW.out (by omega)
     have HF:=zA (HZ3.out HA.out (by have:=HTB.out;simpa using this))
     have HOK:=zA (okW_yes HALL.out)
     go_wp2_with fail
     go_ret
     exact⟨by rw[HF.out,HOK.out];rfl,hx⟩
theorem zBK (cs xs:List Int) (sl:Value) (w:World) (hl:cs.length=16) (hs:SL w 1 sl xs.length (ints xs)) :
 Calls Tryz.prog 102 #[.agg (yG cs sl)] w fun e w'=>e=.returned (.int .i64 (yC cs xs))∧Ext w w':=by
 cases h:zCG cs xs with
 | true=>exact check_in cs xs sl w hl hs h
 | false=>rw[zKT h];exact check_tot cs xs sl w hl hs h
end
theorem words_any (cs xs:List Int) (sl:Value) (w:World) (hl:cs.length=16) (hs:SL w 1 sl xs.length (ints xs)) (hal:zN cs 0 256=true) (hok:okW cs=true) (hsum:zAc cs 16=xs.length) (hx256:xs.length≤256) :
 Calls Tryz.prog 106 #[.agg (yG cs sl)] w fun e w'=> ∃ A c,e=.returned (.slice A xs.length c)∧SL w' 3 (.slice A xs.length c) xs.length (qC (zM (zG cs 16) xs))∧(∀ ad,A=some ad→w.heap.size≤ad.block)∧Ext w w':=by
 have hlast:=zA (fun W g (h:Blk W g 42 (yG cs sl))=>zDV h hl)
 have HRG:=zA (fun W g (h:Blk W g 42 (yG cs sl))=>zDl h)
 have hcl:=zA ((zY cs).trans hl)
 have HIX:=zA (fun k (hk:k<cs.length) (h16:k<16)=>fun W=>zEm (ints cs).toArray k (.int .i64 cs[k]) h16 (qG cs k hk) W)
 have HAL:=zA (yD.1 hal)
 have HL:=zA hl
 have HLEN:Hid ((zG cs 16).length=xs.length):=zA (by have:=zDw cs (fun z hz=>(HAL.out z hz).1) 16 (by omega);omega)
 have HOKS:=zA (fun k (hk:k<16)=>by simpa using wB5.1 hok k (wB7.2 hk))
 have hs':=hs
 obtain⟨A,c,rfl,hc1,hc2, -, -⟩:=hs'
 generalize yG cs (.slice A xs.length c)=tv at *
 clear hal hok hsum
 go_enter Tryz.func106,Tryz.ntmps106
 go_wp2_with (first
  | (refine wBox rfl 42 (.tmp 0) rfl tv rfl ?_;intro w1 g hb1 hx1 hg)
  | (refine wpList_load_mid rfl 40 (.tmp 7) rfl g 0 rfl (ints cs) _ (HRG.out _ _ hb1) Tryz.underlying40 rfl (by rw[hcl.out];exact zJY) ?_))
 have hs1:=hs.ext hx1
 have hgw:=hb1.lt
 have hsz1:=hx1.size
 go_loopw [3,4,9] (fun v nx i wr=> ∃ k:Nat,k≤16∧i=.int .i64 (k:Int)∧nx=.int .i64 (vW cs k:Nat)∧vW cs k+1≤2 ^ k∧OwnV wr w1.heap.size 94 3 v (zG cs k).length (qC (zM (zG cs k) xs))∧Ext w1 wr) (fun _ _ i _=>16-(intOf i).toNat)
 case atStart=>exact⟨0,by omega,rfl,rfl,by simp[vW],by rw[zDS];exact OwnV.nil _ _ _ _,Ext.refl _⟩
 case round =>
  obtain⟨k,hk,rfl,rfl,hnx,⟨B0,d0,rfl,hown⟩,hx⟩:=hrel
  by_cases hlt:k<16
  ·have hsd:decide ((k:Int)<16)=true:=by simp;omega
   have hkl:k<cs.length:=by have:=HL.out;omega
   have hix:=HIX.out k hkl hlt
   obtain⟨q1,q2⟩:=HAL.out _ (wE1 hkl)
   obtain⟨n,hn⟩: ∃ n:Nat,cs[k]=(n:Int):=⟨cs[k].toNat,by omega⟩
   have HNW:=zA (zJR cs k n hkl hn)
   have HCW:=zA (zIg cs k n hkl hn)
   have HOK:=zA (HOKS.out k hlt)
   have HMO:=zA (zPi cs (k+1) 16 (by omega))
   rw[hn] at hix q1 q2
   have hp:(2:Nat) ^ k≤65536:=by have:=wI1 (n:=2) (by omega) hk;simpa using this
   have HP:Hid (2 ^ (k+1)=2*2 ^ k):=zA (by rw[wK8];omega)
   have HRS:=zA (rowC_succ cs k)
   have HR0:Hid (vV cs k 0=[]):=zA rfl
   have HRL:=zA (zND cs k)
   have hbound:(zG cs k).length+n≤xs.length:=by have h1:=HMO.out;have h2:=HLEN.out;rw[HCW.out,wF1,HRL.out] at h1;omega
   generalize vW cs k=N at *
   generalize (2:Nat) ^ k=Pw at *
   clear hn hkl
   generalize zG cs k=C at *
   have HC0:Hid (zM (C++vV cs k 0) xs=zM C xs):=zA (by rw[HR0.out,wG3])
   go_wp2_with fail
   go_loopw [3,4,16] (fun v nx i wr=> ∃ j:Nat,j≤n∧i=.int .i64 (j:Int)∧nx=.int .i64 ((2*N+j:Nat):Int)∧OwnV wr w1.heap.size 94 3 v (C.length+j) (qC (zM (C++vV cs k j) xs))∧Ext w1 wr) (fun _ _ i _=>n-(intOf i).toNat)
   case atStart=>exact⟨0,by omega,rfl,vint (by omega),by rw[HC0.out];exact OwnV.mk hown,hx⟩
   case round =>
    clear hown hx
    obtain⟨j,hj,rfl,rfl,⟨B,d,rfl,hown⟩,hx⟩:=hrel
    have hclen:(C++vV cs k j).length=C.length+j:=by rw[wF1,HRL.out]
    have hzl:(zM (C++vV cs k j) xs).length=C.length+j:=by rw[zDJ _ _ (by omega),hclen]
    have hcz:=zA hclen
    have HZL:=zA hzl
    clear hclen
    by_cases hlj:j<n
    ·have hix2:C.length+j<xs.length:=by omega
     have HZS:Hid (zM (C++vV cs k (j+1)) xs=zM (C++vV cs k j) xs++[(xs[C.length+j],((k+1:Nat):Int),((2*N+j:Nat):Int))]):=zA (by
      rw[HRS.out j, ←wG0,zipC_snoc _ _ _ (by rw[hcz.out];exact hix2)]
      simp only[hcz.out])
     obtain⟨ad,u,hA, -,hxk,hcell⟩:=(hs1.ext hx).at1 hix2
     obtain⟨hkl2,rfl⟩:=zBt _ _ _ hxk
     subst hA
     have hc16:=hlast.out _ _ (hb1.ext hx)
     generalize xs[C.length+j]=x at *
     generalize zM (C++vV cs k j) xs=T at *
     generalize hM:C.length+j=M at *
     have hM256:M<256:=by omega
     have HM:=zA hM
     clear hxk hM hzl
     go_wp2_with (at_builtin;go_must (refine zBS elt_word rfl _ _ rfl w1.heap.size _ _ _ rfl (hown.alloc _) _ 1 [.int .i64 _,.int .i64 _,.int .i64 _] rfl (one_sl3' _ _ _ _ _) (int3_one _ _ _) (by omega) (by omega) (by have:=hx.size;simp;omega) ?_);intro v' w7 hown7 hb7)
     go_roundw
     case rel =>
      refine⟨j+1,by omega,by go_num,vint (by omega), ?_,(hx.alloc _).trans' hb7⟩
      rw[HZS.out]
      have:=own_tok3 (T:=T) (by rw[HZL.out];exact hown7)
      rw[wF1,HZL.out, ←HM.out] at this
      simpa [wA0] using OwnV.mk this
     case measure=>simp[intOf];omega
    ·obtain rfl:j=n:=by omega
     clear hzl
     go_wp2_with fail
     go_roundw
     case rel=>exact⟨k+1,by omega,by go_num,by rw[HNW.out],by rw[HNW.out,HP.out];have:=HOK.out;rw[HNW.out,HP.out] at this;omega,by rw[HCW.out,hcz.out];exact OwnV.mk hown,hx⟩
     case measure=>simp[intOf];omega
  ·have ek:k=16:=by omega
   rw[ek] at hown ⊢
   rw[HLEN.out] at hown ⊢
   go_wp2_with fail
   go_ret
   obtain⟨hsl,hfs⟩:=qU hown
   exact⟨B0,d0,rfl,hsl,fun ad h=>by have:=hfs ad h;omega,hx1.trans hx⟩
theorem zCB {cs xs:List Int} (h:yC cs xs=0):zN cs 0 256=true∧zAc cs 16=xs.length∧xs.length≤256∧okW cs=true∧zN xs 0 255=true∧xs.Nodup:=by
 unfold yC at h
 split at h
 ·next h1 =>
  obtain⟨q1,q2,q3⟩:=zHj.1 h1
  split at h
  ·next h2 =>
   split at h
   ·next h3 =>
    simp only[wA9,wB3] at h3
    exact⟨q1,q3,by omega,h3.2,h2,h3.1⟩
   ·cases h
  ·cases h
 ·cases h
section
variable {P:Program} {ops:Array Oper} {md:Region.Mode} {R:World→World→Prop} {Q:Exit→Act→World→Prop}
def zDM (P:Program) (md:Region.Mode) (ops:Array Oper) (R:World→World→Prop) (Q:Exit→Act→World→Prop):List Nat→Array Bool→Act→World→Prop
 | [],_,a,wc=> ∀ w,R wc w→Q .normal a w
 | k::rest,listed,a,wc=> ∃ o,ops[k]? =some o ∧
   ((∃ v,YieldsR P ops R o v a wc∧zDM P md ops R Q rest (listed.setIfInBounds k true) (a.put o.dst v) wc) ∨
   (Region.ready md ops listed=[k]∧ ∀ w,R wc w→wpOp P ops Q k (fun a' w'=>R w w'∧zDM P md ops R Q rest (listed.setIfInBounds k true) a' w') a w))
def ordB (md:Region.Mode) (ops:Array Oper) (fin:Array Bool→Bool):List Nat→Array Bool→Bool
 | [],listed=>fin listed
 | k::rest,listed=>(Region.ready md ops listed).contains k&&Region.free md ops listed k&&ordB md ops fin rest (listed.setIfInBounds k true)
def seqO (md:Region.Mode) (ops:Array Oper):List Nat→Array Bool→Bool
 | [],listed=>(Region.ready md ops listed).isEmpty
 | k::rest,listed=>decide (Region.ready md ops listed=[k])&&seqO md ops rest (listed.setIfInBounds k true)
def zIH (md:Region.Mode) (ops:Array Oper) (t0:Nat):List Nat→Bool
 | []=>true
 | i::rest=>(rest++[t0]).any (fun j=>Region.waitsFor md ops j i)&&zIH md ops t0 rest
def zEs (md:Region.Mode) (ops:Array Oper):List Nat→Bool
 | []=>true
 | [_]=>true
 | a::b::rest=>Region.waitsFor md ops b a&&zEs md ops (b::rest)
structure InvO (md:Region.Mode) (ops:Array Oper) (tail:List Nat) (listed:Array Bool):Prop where
 size:listed.size=ops.size
 closed: ∀ j oj,ops[j]? =some oj→listed.getD j false=true→ ∀ e∈oj.after,Region.binds md e=true→listed.getD e.on false=true
 tail: ∀ t∈tail,listed.getD t true=false
theorem zEg {j i:Nat} {listed:Array Bool} (h:Region.waitsFor md ops j i=true) (hi:listed.getD i false=false):j∉Region.ready md ops listed:=by
 intro hr
 obtain⟨_,oj,hj,hall⟩:=mem_ready.1 hr
 obtain⟨oj',hj',e,he,hb,hon⟩:=Region.waitsFor_spec h
 have:oj'=oj:=Option.some.inj (hj'.symm.trans hj)
 subst this
 have:=hall e he hb
 rw[hon,hi] at this
 cases this
theorem zEx {listed:Array Bool}: ∀ (tail:List Nat),zEs md ops tail=true→(∀ t∈tail,listed.getD t true=false)→(∀ t0,tail.head? =some t0→t0∉Region.ready md ops listed)→ ∀ t∈tail,t∉Region.ready md ops listed
 | [],_,_,_,t,ht=>by cases ht
 | [a],_,_,h0,t,ht=>by
   have:t=a:=by simpa using ht
   subst this
   exact h0 _ rfl
 | a::b::rest,hc,hu,h0,t,ht=>by
   simp only[zEs,wA9] at hc
   rcases wJ3.1 ht with rfl | ht
   ·exact h0 _ rfl
   ·exact zEx (b::rest) hc.2 (fun t ht=>hu t (by simp[ht])) (fun t0 h=>by
     have:b=t0:=by simpa using h
     subst this
     exact zEg hc.1 (getD_both (hu a (by simp)))) t ht
theorem zIN {t0:Nat} {tail:List Nat} {listed:Array Bool} (hc:zEs md ops (t0::tail)=true) (inv:InvO md ops (t0::tail) listed) (his: ∀ i oi,ops[i]? =some oi→i<ops.size) :
 ∀ (is:List Nat),zIH md ops t0 is=true→(∃ i∈is,listed.getD i true=false)→ ∀ t∈t0::tail,t∉Region.ready md ops listed
 | [],_,h,_,_=>by obtain⟨i,hi,_⟩:=h;cases hi
 | i::rest,hs,h,t,ht=>by
   simp only[zIH,wA9] at hs
   by_cases hr: ∃ j∈rest,listed.getD j true=false
   ·exact zIN hc inv his rest hs.2 hr t ht
   ·have hi:listed.getD i true=false:=by
     obtain⟨j,hj,hl⟩:=h
     rcases wJ3.1 hj with rfl | hj
     ·exact hl
     ·exact absurd ⟨j,hj,hl⟩ hr
    obtain⟨j,hj,hw⟩:=List.any_eq_true.1 hs.1
    have h0:t0∉Region.ready md ops listed:=by
     rcases wE5.1 hj with hj | hj
     · -- j is listed: then i would be
       obtain⟨oj,hoj,e,he,hb,hon⟩:=Region.waitsFor_spec hw
       have hjl:listed.getD j false=true:=by
        have h1: ¬listed.getD j true=false:=fun h=>hr ⟨j,hj,h⟩
        have hlt:j<listed.size:=by rw[inv.size];exact his j oj hoj
        simp[hlt] at h1 ⊢
        exact h1
       have:=inv.closed j oj hoj hjl e he hb
       rw[hon,getD_both hi] at this
       cases this
     ·have:j=t0:=by simpa using hj
      subst this
      exact zEg hw (getD_both hi)
    exact zEx (t0::tail) hc inv.tail (fun t1 h1=>by
     have:t0=t1:=by simpa using h1
     subst this
     exact h0) t ht
theorem InvO.set {tail:List Nat} {i:Nat} {listed:Array Bool} (inv:InvO md ops tail listed) (hi:i∈Region.ready md ops listed) (hin:i∉tail):InvO md ops tail (listed.setIfInBounds i true):=by
 obtain⟨_,oi,hoi,hall⟩:=mem_ready.1 hi
 refine⟨by simp[inv.size],fun j oj hj hl e he hb=> ?_,fun t ht=> ?_⟩
 ·by_cases hij:i=j
  ·subst hij
   have:oj=oi:=Option.some.inj (hj.symm.trans hoi)
   subst this
   exact getD_set_true (hall e he hb)
  ·rw[getD_set_ne false hij] at hl
   exact getD_set_true (inv.closed j oj hj hl e he hb)
 ·have hne:i≠t:=fun h=>hin (by rw[h];exact ht)
  rw[getD_set_ne true hne]
  exact inv.tail t ht
def zDC (P:Program) (md:Region.Mode) (ops:Array Oper) (R:World→World→Prop) (Q:Exit→Act→World→Prop) (tail:List Nat) (F:Array Bool→Act→World→Prop):Nat→Array Bool→Act→World→Prop
 | 0,listed,a,wc=> ∀ w,R wc w→F listed a w
 | f+1,listed,a,wc=>Region.ready md ops listed≠[]∧ ∀ i∈Region.ready md ops listed,i∉tail∧ ∀ w,R wc w→wpOp P ops Q i (fun a' w'=>R w w'∧zDC P md ops R Q tail F f (listed.setIfInBounds i true) a' w') a w
variable {tail:List Nat} {F:Array Bool→Act→World→Prop}
theorem zHh (L:zAG R): ∀ (f:Nat) (listed:Array Bool) (a:Act) (wc w:World),R wc w→zDC P md ops R Q tail F f listed a wc→zDC P md ops R Q tail F f listed a w
 | 0,_,_,_,_,hw,h=>fun w' h'=>h w' (L.trans hw h')
 | _+1,_,_,_,_,hw,h=>⟨h.1,fun i hi=>⟨(h.2 i hi).1,fun w' h'=>(h.2 i hi).2 w' (L.trans hw h')⟩⟩
theorem zIc (L:zAG R) {QN:Act→World→Prop} {Q':Exit→Act→World→Prop} {g:Nat} (hF: ∀ listed a w,F listed a w→wpAny P md ops Q' g listed a w) :
 ∀ (f:Nat) (listed:Array Bool) (a:Act) (wc:World),zDC P md ops R (xE QN) tail F f listed a wc→ ∀ w,R wc w→wpAny P md ops Q' (f+g) listed a w
 | 0,listed,a,wc,h,w,hw=>by rw[wB2];exact hF _ _ _ (h w hw)
 | f+1,listed,a,wc,h,w,hw=>by
   rw[show f+1+g=(f+g)+1 by omega]
   exact⟨fun h0=>absurd h0 h.1,fun i hi=>zGk (QN:=QN) (wpOp_mono (fun a' w' h'=>zIc L hF f _ a' w' h'.2 w' (L.refl _)) ((h.2 i hi).2 w hw))⟩
theorem zMp (L:zAG R) {QN:Act→World→Prop} {i:Nat} {oi:Oper} {v:Value} (hi:ops[i]? =some oi) (hsel: ∀ (j:Nat) (o:Oper) cs b,ops[j]? =some o→o.op≠.select cs b)
 (hin:i∉tail) (hw8: ∀ listed,InvO md ops tail listed→listed.getD i true=false→ ∀ t∈tail,t∉Region.ready md ops listed)
 (hdone: ∀ listed a w,F listed a w→ ∀ j∈Region.ready md ops listed,j∈tail) :
 ∀ (f:Nat) (listed:Array Bool) (a:Act) (wc:World),InvO md ops tail listed →
  (∀ j oj,ops[j]? =some oj→j≠i→listed.getD j true=false→(∀ e∈oj.after,Region.binds md e=true→e.on≠i)→oi.apart ops oj=true) →
  i∈Region.ready md ops listed→YieldsR P ops R oi v a wc →
  zDC P md ops R (xE QN) tail F f (listed.setIfInBounds i true) (a.put oi.dst v) wc→zDC P md ops R (xE QN) tail F (f+1) listed a wc:=by
 intro f
 induction f with
 | zero =>
   intro listed a wc inv _ hr hy H
   have hun:=(mem_ready.1 hr).1
   refine⟨fun h=>(by rw[h] at hr;cases hr),fun j hj=> ?_⟩
   have hjn:j∉tail:=fun h=>hw8 listed inv hun j h hj
   refine⟨hjn,fun w hw=> ?_⟩
   by_cases hji:j=i
   ·subst hji;exact hy.wpOp L hi hw fun w' h'=>⟨h',zHh L _ _ _ _ _ (L.trans hw h') H⟩
   ·exact absurd (hdone _ _ _ (H w hw) j (ready_mono hj hji)) hjn
 | succ f ih =>
   intro listed a wc inv hfree hr hy H
   have hun:=(mem_ready.1 hr).1
   refine⟨fun h=>(by rw[h] at hr;cases hr),fun j hj=> ?_⟩
   have hjn:j∉tail:=fun h=>hw8 listed inv hun j h hj
   refine⟨hjn,fun w hw=> ?_⟩
   by_cases hji:j=i
   ·subst hji;exact hy.wpOp L hi hw fun w' h'=>⟨h',zHh L _ _ _ _ _ (L.trans hw h') H⟩
   ·have h1:=(H.2 j (ready_mono hj hji)).2 w hw
    obtain⟨hjun,oj,hoj,hall⟩:=mem_ready.1 hj
    have hnot: ∀ e∈oj.after,Region.binds md e=true→e.on≠i:=fun e he hb heq=>by
     have h1:=hall e he hb
     rw[heq,getD_both hun] at h1
     cases h1
    have h2:=zGx hoj (hfree j oj hoj hji hjun hnot) (fun cs b=>hsel i oi cs b hi) (fun cs b=>hsel j oj cs b hoj) (fun _ _ _ h=>h) hy h1
    have hfree': ∀ k ok,ops[k]? =some ok→k≠i→(listed.setIfInBounds j true).getD k true=false →
     (∀ e∈ok.after,Region.binds md e=true→e.on≠i)→oi.apart ops ok=true:=fun k ok hk hki hun hno=>by
     refine hfree k ok hk hki ?_ hno
     by_cases hjk:j=k
     ·subst hjk;exact hjun
     ·rw[getD_set_ne true hjk] at hun;exact hun
    refine wpOp_mono (fun a' w' h3=>⟨h3.2.1,ih (listed.setIfInBounds j true) a' w' (inv.set hj hjn) hfree' (ready_mono hr (Ne.symm hji)) (h3.1.mono L (L.trans hw h3.2.1)) ?_⟩) h2
    rw[wA7 _ _ hji]
    exact h3.2.2
theorem zEr (L:zAG R) {QN:Act→World→Prop} {t0:Nat} {tl:List Nat} (htail:tail=t0::tl) (hsel:Region.noSelect ops=true) (hc:zEs md ops (t0::tl)=true) {fin:Array Bool→Bool}
 (hdone: ∀ listed,fin listed=true→ ∀ j∈Region.ready md ops listed,j∈tail) :
 ∀ (is:List Nat) (listed:Array Bool) (a:Act) (wc:World),InvO md ops tail listed→zIH md ops t0 is=true→(∀ i∈is,i∉tail) →
 ordB md ops fin is listed=true→zDM P md ops R (xE QN) is listed a wc →
 zDC P md ops R (xE QN) tail (fun listed' a' w'=>fin listed'=true∧QN a' w') is.length listed a wc
 | [],listed,a,wc,_,_,_,hB,h=>fun w hw=>⟨by simpa [ordB] using hB,h w hw⟩
 | k::rest,listed,a,wc,inv,hs,hnt,hB,h=>by
   have hs0:=hs
   simp only[ordB,wA9] at hB
   obtain⟨⟨hr,hf⟩,hB'⟩:=hB
   have hr':k∈Region.ready md ops listed:=by simpa using hr
   simp only[zIH,wA9] at hs
   have hkt:=hnt k (by simp)
   obtain⟨o,h0,h⟩:=h
   rcases h with ⟨v,hy,hK⟩ | ⟨hone,hK⟩
   ·refine zMp L h0 (Region.noSelect_spec hsel) hkt (fun listed' inv' hun=> ?_) (fun listed' a' w' hL=>hdone listed' hL.1) rest.length listed a wc inv (Region.free_spec h0 hf) hr' hy
     (zEr L htail hsel hc hdone rest _ _ _ (inv.set hr' hkt) hs.2 (fun i hi=>hnt i (by simp[hi])) hB' hK)
    subst htail
    exact zIN hc inv' (fun i oi hoi=>(wB6.1 hoi).1) (k::rest) hs0 ⟨k,by simp,hun⟩
   ·refine⟨fun h0=>(by rw[h0] at hone;cases hone),fun i hi=> ?_⟩
    rw[hone] at hi
    have hik:i=k:=by simpa using hi
    subst hik
    exact⟨hkt,fun w hw=>wpOp_mono (fun a' w' h'=>⟨h'.1,zEr L htail hsel hc hdone rest _ _ _ (inv.set hr' hkt) hs.2 (fun i hi=>hnt i (by simp[hi])) hB' h'.2⟩) (hK w hw)⟩
theorem zGT {Q':Exit→Act→World→Prop}: ∀ (tl:List Nat) (l:List Oper) (listed:Array Bool) (a:Act) (w:World),tl.map (fun k=>ops[k]?)=l.map some →
 seqO md ops tl listed=true→wpList P ops Q' l a w→wpAny P md ops Q' tl.length listed a w
 | [],l,_,_,_,hl,hB,h=>by
   obtain rfl:l=[]:=by simpa using hl.symm
   exact⟨by simpa [seqO] using hB,h⟩
 | k::tl,l,listed,a,w,hl,hB,h=>by
   cases l with
   | nil=>simp at hl
   | cons o l =>
     simp only[wC8,List.cons.injEq] at hl
     simp only[seqO,wA9,wB3] at hB
     refine⟨fun h1=>(by rw[hB.1] at h1;cases h1),fun i hi=> ?_⟩
     rw[hB.1] at hi
     have hik:i=k:=by simpa using hi
     subst hik
     have hw:wpOp P ops Q' i (wpList P ops Q' l) a w:=by unfold wpOp;simp only[hl.1];exact h
     exact wpOp_mono (fun a' w' h'=>zGT tl l _ a' w' hl.2 hB.2 h') hw
theorem zRB: ∀ {tl:List Nat} {listed:Array Bool},seqO md ops tl listed=true→ ∀ j∈Region.ready md ops listed,j∈tl
 | [],listed,h,j,hj=>by simp only[seqO,List.isEmpty_iff] at h;rw[h] at hj;cases hj
 | k::tl,listed,h,j,hj=>by
   simp only[seqO,wA9,wB3] at h
   rw[h.1] at hj
   have:j=k:=by simpa using hj
   simp[this]
def zHz (P:Program) (ops:Array Oper) (K:Array Bool→Act→Prop):List Nat→Array Bool→Act→Prop
 | [],listed,a=>K listed a
 | k::rest,listed,a=> ∃ o v,ops[k]? =some o∧Yields P ops o v a∧zHz P ops K rest (listed.setIfInBounds k true) (a.put o.dst v)
theorem zLu {QN:Act→World→Prop} {w:World} {K:Array Bool→Act→Prop} {fin:Array Bool→Bool} {f:Nat} (hsel:Region.noSelect ops=true) (hK: ∀ listed a,InvO md ops tail listed→fin listed=true→K listed a→wpAny P md ops (xE QN) f listed a w) :
 ∀ (pre:List Nat) (listed:Array Bool) (a:Act),InvO md ops tail listed→(∀ i∈pre,i∉tail)→ordB md ops fin pre listed=true→zHz P ops K pre listed a→wpAny P md ops (xE QN) (pre.length+f) listed a w
 | [],listed,a,inv,_,hB,h=>by rw[wL7,wB2];exact hK _ _ inv (by simpa [ordB] using hB) h
 | k::rest,listed,a,inv,hnt,hB,h=>by
   simp only[ordB,wA9] at hB
   obtain⟨⟨hr,hf⟩,hB'⟩:=hB
   have hr':k∈Region.ready md ops listed:=by simpa using hr
   obtain⟨o,v,h0,hy,h⟩:=h
   rw[show (k::rest).length+f=(rest.length+f)+1 by simp;omega]
   exact wpAny_take h0 hsel hf hr (fun _ _ _ h=>h) hy (zLu hsel hK rest _ _ (inv.set hr' (hnt k (by simp))) (fun i hi=>hnt i (by simp[hi])) hB' h)
def ordAllP (md:Region.Mode) (ops:Array Oper) (pre is:List Nat) (t0:Nat) (tl:List Nat):Bool :=
 Region.noSelect ops&&zEs md ops (t0::tl)&&zIH md ops t0 is&&is.all (fun i=> !(t0::tl).contains i)&&pre.all (fun i=> !(t0::tl).contains i)&&(t0::tl).all (fun t=>decide (t<ops.size))&&decide (pre.length+(is.length+(tl.length+1))=ops.size) &&
  ordB md ops (fun listed=>ordB md ops (seqO md ops (t0::tl)) is listed) pre (Array.replicate ops.size false)
theorem zNC (ops:Array Oper): ∀ (tl:List Nat),(∀ t∈tl,t<ops.size)→tl.map (fun k=>ops[k]?)=(tl.filterMap (fun k=>ops[k]?)).map some
 | [],_=>rfl
 | k::tl,h=>by
   have hk:k<ops.size:=h k (by simp)
   have e:ops[k]? =some ops[k]:=by simp[hk]
   rw[wC8,List.filterMap_cons_some e,wC8,e,zNC ops tl (fun t ht=>h t (by simp[ht]))]
theorem zKq (L:zAG R) (pre is:List Nat) (t0:Nat) (tl:List Nat) {id:Nat} {a:Act} {w:World} {l:List Oper} (hm:P.follows .mixedOrders=true) (hB:ordAllP .any l.toArray pre is t0 tl=true)
 (h:zHz P l.toArray (fun listed a=>zDM P .any l.toArray R (xE (fun a w=>wpList P l.toArray (xE (fun a w=>Q .normal a w)) ((t0::tl).filterMap fun k=>l.toArray[k]?) a w)) is listed a w.drew) pre (Array.replicate l.length false) a):(Code.region id l.toArray true).wp P Q a w:=by
 simp only[ordAllP,wA9,wB3] at hB
 obtain⟨⟨⟨⟨⟨⟨⟨hsel,hc⟩,hs⟩,hnt⟩,hnp⟩,hts⟩,hlen⟩,hord⟩:=hB
 have inv0:InvO .any l.toArray (t0::tl) (Array.replicate l.toArray.size false) :=
  ⟨by simp,fun j oj _ hl=>(by rw[getD_replicate_false] at hl;cases hl),fun t ht=>getD_in (by have:=wB5.1 hts t ht;simpa using this) (getD_replicate_false _ _)⟩
 refine Code.wp_mono (Q:=xE (fun a w=>Q .normal a w)) (fun e a w h=> ?_) (wp_region_any hm ?_)
 ·cases e<;>first | exact h | exact (h:False).elim
 have key:=zLu (md:=.any) (tail:=t0::tl) (QN:=fun a w=>Q .normal a w) (w:=w.drew) (f:=is.length+(t0::tl).length) hsel
  (K:=fun listed a=>zDM P .any l.toArray R (xE (fun a w=>wpList P l.toArray (xE (fun a w=>Q .normal a w)) ((t0::tl).filterMap fun k=>l.toArray[k]?) a w)) is listed a w.drew)
  (fin:=fun listed=>ordB .any l.toArray (seqO .any l.toArray (t0::tl)) is listed) (fun listed a inv hord h=>by
    have H:=zEr (md:=.any) L (tail:=t0::tl) rfl hsel hc (fun listed hL=>zRB hL) is listed a w.drew inv hs
     (fun i hi=>by have:=wB5.1 hnt i hi;simpa using this) hord h
    exact zIc (Q':=xE (fun a w=>Q .normal a w)) (g:=(t0::tl).length) L (fun listed a' w' hL=>zGT (t0::tl) _ listed a' w' (zNC _ _ (fun t ht=>by have:=wB5.1 hts t ht;simpa using this)) hL.1 hL.2) _ _ _ _ H _ (L.refl _))
  pre (Array.replicate l.toArray.size false) a inv0 (fun i hi=>by have:=wB5.1 hnp i hi;simpa using this) hord (by simpa using h)
 rw[show pre.length+(is.length+(t0::tl).length)=l.toArray.size by simp at hlen ⊢;omega] at key
 exact key
theorem lp_nil {K:Array Bool→Act→Prop} {listed:Array Bool} {a:Act} (h:K listed a):zHz P ops K [] listed a:=h
theorem lp_ex {K:Array Bool→Act→Prop} {o:Oper} {k:Nat} {rest:List Nat} {listed:Array Bool} {a:Act} (ho:ops[k]? =some o) (hw:Region.wanted o (yielded ops a.tmps)=true)
 (h: ∃ v,(∀ w,(execOp a.eval o).run P w=.ok (.value v) w)∧zHz P ops K rest (listed.setIfInBounds k true) (a.put o.dst v)):zHz P ops K (k::rest) listed a :=
 let ⟨v,h1,h2⟩:=h;⟨o,v,ho,.inl ⟨hw,h1⟩,h2⟩
variable {o:Oper} {rest:List Nat} {k:Nat} {listed:Array Bool} {a:Act} {wc:World}
theorem lo_nil {QN:Act→World→Prop} (h: ∀ w,R wc w→QN a w):zDM P md ops R (xE QN) [] listed a wc:=h
theorem lo_ex (ho:ops[k]? =some o) (hw:Region.wanted o (yielded ops a.tmps)=true) (h: ∃ v,(∀ w,R wc w→o.quietAt P a (R w) w v)∧zDM P md ops R Q rest (listed.setIfInBounds k true) (a.put o.dst v) wc):zDM P md ops R Q (k::rest) listed a wc :=
 ⟨o,ho,.inl (let ⟨v,h1,h2⟩:=h;⟨v,.inl ⟨hw,h1⟩,h2⟩)⟩
theorem lo_alone (ho:ops[k]? =some o) (hone:Region.ready md ops listed=[k]) (hw:Region.wanted o (yielded ops a.tmps)=true)
 (h: ∀ w,R wc w→o.wp P a w (fun a' w'=>R w w'∧zDM P md ops R Q rest (listed.setIfInBounds k true) a' w') Q):zDM P md ops R Q (k::rest) listed a wc :=
 ⟨o,ho,.inr ⟨hone,fun w hR=>by unfold wpOp;simp only[ho,hw,if_true];exact .inl (h w hR)⟩⟩
end
def zD (l:List Nat):List Value:=l.map fun x:Nat=>Value.int .u8 (x:Int)
theorem vL (l:List Nat):(zD l).length=l.length:=by simp[zD]
theorem zIa (l:List Nat) (x:Nat):zD (l++[x])=zD l++[.int .u8 (x:Int)]:=by simp[zD]
end Go.Proofs.YtkggcjdlpendfaaGreatDoor
