import Derived.Test.YtkggcjdlpendfaaGreatDoorMTopHurtUptoCard8
set_option linter.all false
set_option maxRecDepth 20000
set_option maxHeartbeats 8000000
namespace Go.Proofs.YtkggcjdlpendfaaGreatDoor.BM
open Tryz
def singN (cs:List Int):Nat→List Pack
 | 0=>[(0,[-1])]
 | i+1=>singN cs i++(if 0<cs.getD i 0 then [((cs.getD i 0).toNat,[(i:Int)])] else [])
def singN_mem (cs:List Int) (h:∀z∈cs,z≤9999):∀i,∀p∈singN cs i,p.2.length=1∧p.1≤9999
 | 0,p,hp=>by simp[singN] at hp;subst hp;simp
 | i+1,p,hp=>by
   rw[singN,List.mem_append] at hp;rcases hp with hp | hp
   ·exact singN_mem cs h i p hp
   split at hp
   ·have e:p=((cs.getD i 0).toNat,[(i:Int)]):=by simpa using hp
    subst e;refine⟨rfl, ?_⟩;rename_i hpos;rw[List.getD_eq_getElem?_getD] at hpos ⊢
    cases hq:cs[i]? with
    | none=>rw[hq] at hpos;simp at hpos
    | some z=>have:=h z (List.mem_of_getElem? hq);simp;omega
   cases hp
inductive Reach (S:List Pack):Nat→List Pack→Prop
 | zero:Reach S 0 S
 | step {f:Nat} {L L':List Pack}:Reach S f L→L'.Perm (pairP L++S)→(L'.map (·.1)).Pairwise (· ≤ ·)→Reach S (f+1) L'
def lenF (n:Nat):Nat→Nat
 | 0=>n
 | f+1=>lenF n f/2+n
def lenF_bd (n:Nat):∀f,n≤lenF n f∧lenF n f≤2*n
 | 0=>by unfold lenF;omega
 | f+1=>by have:=lenF_bd n f;unfold lenF;omega
def lenF_15:∀n,n≤257→2*n-2≤lenF n 15:=by
 have h:∀n:Fin 258,2*n.val-2≤lenF n.val 15:=by decide+kernel
 exact λn hn=>h ⟨n,by omega⟩
def pairP_len (L:List Pack):(pairP L).length=L.length/2:=by have:=congrArg List.length (zFD L);rw[List.length_map,zGU,List.length_map] at this;exact this
def Reach.len {S:List Pack}:∀{f L},Reach S f L→L.length=lenF S.length f
 | _,_,.zero=>rfl
 | _,_,.step h hp _=>by rw[hp.length_eq,List.length_append,pairP_len,h.len];rfl
def zKG:∀(L:List Pack) (p:Pack),p∈pairP L→∃x∈L,∃y∈L,p=(x.1+y.1,x.2++y.2)
 | [],p,h=>by simp[pairP] at h
 | [_],p,h=>by simp[pairP] at h
 | x::y::r,p,h=>by
   rw[pairP,List.mem_cons] at h;rcases h with h | h
   ·exact⟨x,by simp,y,by simp,h⟩
   obtain⟨a,ha,b,hb,e⟩:=zKG r p h;exact⟨a,by simp[ha],b,by simp[hb],e⟩
def Reach.bound {S:List Pack} (hS:∀p∈S,p.2.length≤1∧p.1≤9999):∀{f L},Reach S f L→∀p∈L,p.2.length≤2 ^ f∧p.1≤9999*2 ^ f
 | _,_,.zero,p,hp=>by have:=hS p hp;simpa using this
 | f+1,_,.step h hp _,p,hm=>by
   have hpos:0<2 ^ f:=Nat.two_pow_pos f;have h1:=hp.subset hm;rw[Nat.pow_succ];rcases List.mem_append.1 h1 with h1 | h1
   ·obtain⟨x,hx,y,hy,e⟩:=zKG _ _ h1;have a:=h.bound hS x hx;have b:=h.bound hS y hy;subst e;simp only[List.length_append];omega
   have:=hS p h1;omega
def nextP (S L:List Pack):List Pack:=(pairP L++S).mergeSort (λa b=>decide (a.1≤b.1))
def zMI (S L:List Pack):(nextP S L).Perm (pairP L++S):=List.mergeSort_perm _ _
def zJQ (S L:List Pack):((nextP S L).map (·.1)).Pairwise (· ≤ ·):=by rw[List.pairwise_map];refine (List.pairwise_mergeSort (le:=λa b:Pack=>decide (a.1≤b.1)) (λa b c h1 h2=>by simp at h1 h2 ⊢;omega) (λa b=>by simp;omega) _).imp ?_;intro a b h;simpa using h
def zHw (S L:List Pack):Nat→List Pack
 | 0=>L
 | g+1=>nextP S (zHw S L g)
def Reach.rows {S:List Pack} (hs:(S.map (·.1)).Pairwise (· ≤ ·)):∀{f L},Reach S f L→∃P,PRows S P∧(∀g,((P g).map (·.1)).Pairwise (· ≤ ·))∧P f=L
 | _,_,.zero=>⟨zHw S S,⟨rfl,λg=>zMI S _⟩,λg=>(by cases g with | zero=>exact hs | succ g=>exact zJQ S _),rfl⟩
 | f+1,L',.step h hp hso=>by
   obtain⟨P,h1,h2,h3⟩:=h.rows hs;refine⟨λg=>if g≤f then P g else zHw S L' (g-(f+1)),⟨?_,λg=> ?_⟩,λg=> ?_, ?_⟩
   ·show (if 0≤f then P 0 else _)=S
    rw[if_pos (Nat.zero_le _)];exact h1.zero
   ·show (if g+1≤f then P (g+1) else zHw S L' (g+1-(f+1))).Perm (pairP (if g≤f then P g else zHw S L' (g-(f+1)))++S)
    by_cases hg:g+1≤f
    ·rw[if_pos hg,if_pos (by omega)];exact h1.next g
    rw[if_neg hg]
    by_cases hg2:g≤f
    ·obtain rfl:g=f:=by omega
     rw[if_pos (Nat.le_refl _),h3,show g+1-(g+1)=0 by omega];exact hp
    rw[if_neg hg2,show g+1-(f+1)=(g-(f+1))+1 by omega];exact zMI S _
   ·show ((if g≤f then P g else zHw S L' (g-(f+1))).map (·.1)).Pairwise (· ≤ ·)
    split
    ·exact h2 g
    cases g-(f+1) with
    | zero=>exact hso
    | succ q=>exact zJQ S _
   show (if f+1≤f then _ else zHw S L' (f+1-(f+1)))=L'
   rw[if_neg (by omega),Nat.sub_self];rfl
def zPt:∀(L:List Pack) (j:Nat) (h:2*j+1<L.length),(pairP L)[j]? =some ((L[2*j]'(by omega)).1+L[2*j+1].1,(L[2*j]'(by omega)).2++L[2*j+1].2)
 | [],j,h=>by simp at h
 | [_],j,h=>by simp at h
 | x::y::r,0,h=>by simp[pairP]
 | x::y::r,j+1,h=>by
   have:=zPt r j (by simp at h;omega);rw[pairP,List.getElem?_cons_succ,this];simp[show 2*(j+1)=2*j+1+1 by omega]
def pairP_take {L:List Pack} {j:Nat} (h:2*j+1<L.length):(pairP L).take (j+1)=(pairP L).take j++[((L[2*j]'(by omega)).1+L[2*j+1].1,(L[2*j]'(by omega)).2++L[2*j+1].2)]:=by have hg:=zPt L j h;obtain⟨hj,e⟩:=List.getElem?_eq_some_iff.1 hg;rw[List.take_succ_eq_append_getElem hj,e]
def filt (f:Int→Nat) (k i:Nat):List Int:=((List.range i).map Int.ofNat).filter λs=>decide (f s=k+1)
def zGW (f:Int→Nat) (k i:Nat):filt f k (i+1)=filt f k i++(if f (i:Int)=k+1 then [(i:Int)] else []):=by
 unfold filt;rw[List.range_succ,List.map_append,List.filter_append];congr 1
 by_cases h:f (i:Int)=k+1
 ·simp[h]
 simp[h]
def filt_len (f:Int→Nat) (k i:Nat):(filt f k i).length≤i:=by unfold filt;exact Nat.le_trans (List.length_filter_le _ _) (by simp)
def csN (f:Int→Nat) (n k i:Nat):List Int:=(List.range 16).map λj=>if j<k then ((filt f j n).length:Int) else if j=k then ((filt f k i).length:Int) else 0
def xsN (f:Int→Nat) (n k i:Nat):List Int:=(List.range k).flatMap (λj=>filt f j n)++filt f k i
def csN_len (f:Int→Nat) (n k i:Nat):(csN f n k i).length=16:=by simp[csN]
def csN_zero (f:Int→Nat) (n:Nat):csN f n 0 0=List.replicate 16 0:=by rw[List.eq_replicate_iff];refine⟨csN_len f n 0 0,λb hb=> ?_⟩;obtain⟨j,-,rfl⟩:=List.mem_map.1 hb;simp[filt]
def csN_next (f:Int→Nat) (n k:Nat):csN f n k n=csN f n (k+1) 0:=by
 unfold csN;refine List.map_congr_left λj _=> ?_
 by_cases h1:j<k
 ·rw[if_pos h1,if_pos (by omega)]
 rw[if_neg h1]
 by_cases h2:j=k
 ·rw[if_pos h2,if_pos (by omega),h2]
 rw[if_neg h2,if_neg (by omega)];split
 ·simp[filt]
 rfl
def zKS (f:Int→Nat) (n k i j:Nat) (hj:j<(csN f n k i).length):(csN f n k i)[j]=if j<k then ((filt f j n).length:Int) else if j=k then ((filt f k i).length:Int) else 0:=by simp[csN]
def csN_at (f:Int→Nat) (n k i:Nat) (hk:k<16):(csN f n k i)[k]'(by rw[csN_len];exact hk)=((filt f k i).length:Int):=by simp[csN]
def csN_keep (f:Int→Nat) (n k i:Nat) (h:f (i:Int)≠k+1):csN f n k (i+1)=csN f n k i:=by unfold csN;rw[zGW,if_neg h,List.append_nil]
def csN_set (f:Int→Nat) (n k i:Nat) (h:f (i:Int)=k+1):(csN f n k i).set k (((filt f k i).length:Int)+1)=csN f n k (i+1):=by
 apply List.ext_getElem
 ·rw[List.length_set,csN_len,csN_len]
 intro j h1 h2;rw[List.getElem_set,zKS,zKS]
 by_cases hj:k=j
 ·subst hj;rw[if_pos rfl,if_neg (by omega),if_pos rfl,zGW,if_pos h,List.length_append];simp
 rw[if_neg hj]
 by_cases h1:j<k
 ·rw[if_pos h1,if_pos h1]
 rw[if_neg h1,if_neg h1,if_neg (by omega),if_neg (by omega)]
def xsN_next (f:Int→Nat) (n k:Nat):xsN f n k n=xsN f n (k+1) 0:=by unfold xsN;rw[List.range_succ,List.flatMap_append];simp[filt]
def xsN_keep (f:Int→Nat) (n k i:Nat) (h:f (i:Int)≠k+1):xsN f n k (i+1)=xsN f n k i:=by unfold xsN;rw[zGW,if_neg h,List.append_nil]
def xsN_snoc (f:Int→Nat) (n k i:Nat) (h:f (i:Int)=k+1):xsN f n k (i+1)=xsN f n k i++[(i:Int)]:=by unfold xsN;rw[zGW,if_pos h,List.append_assoc]
def xsN_len (f:Int→Nat) (n:Nat):∀k i,(xsN f n k i).length≤k*n+i
 | k,i=>by
   unfold xsN;rw[List.length_append]
   have h1:∀k,((List.range k).flatMap (λj=>filt f j n)).length≤k*n:=λk=>by
    induction k with
    | zero=>simp
    | succ k ih =>
      rw[List.range_succ,List.flatMap_append,List.length_append,Nat.add_mul,Nat.one_mul];have:=filt_len f k n;simp;simp at ih;omega
   have:=h1 k;have:=filt_len f k i;omega
def Made (counts cs xs:List Int):Prop :=
 ∃S L,S.Perm (singN counts counts.length)∧(S.map (·.1)).Pairwise (· ≤ ·)∧Reach S 15 L ∧
  cs=csN (λs=>(cont (L.take (2*S.length-2))).count s) counts.length 16 0∧xs=xsN (λs=>(cont (L.take (2*S.length-2))).count s) counts.length 16 0
end Go.Proofs.YtkggcjdlpendfaaGreatDoor.BM
namespace Go.Proofs.YtkggcjdlpendfaaGreatDoor.BM
open Tryz
def posN (cs:List Int):Nat→List Nat
 | 0=>[]
 | i+1=>posN cs i++(if 0<cs.getD i 0 then [(cs.getD i 0).toNat] else [])
def zJC (cs:List Int):∀i,(singN cs i).map (·.1)=0::posN cs i
 | 0=>rfl
 | i+1=>by
   rw[singN,posN,List.map_append,zJC cs i];split<;>simp
def far:Nat:=1099511627776
def zGd (ws:List Nat):Nat:=if ws.length=1 then 0 else pre ws ws.length+D (pre ws) far 15 ws.length 2
end Go.Proofs.YtkggcjdlpendfaaGreatDoor.BM
namespace Go.Proofs.YtkggcjdlpendfaaGreatDoor
open Go.RowKit Tryz
section
open Go.RowKit Go.Maps
def qQ (counts:List Int):Int:=if 256<counts.length then 2 else if zR counts 0 9999 then 0 else 1
def zTJ (z:Int) (w:World):Calls prog 107 (#[.int .i64 z]++ #[]) w λe w'=>e=.returned (.bool (!inB z 0 9999))∧w=w':=by
 by_cases h:z<0
 ·have h':decide (z<0)=true:=by simpa using h
  have e:inB z 0 9999=false:=zCe.2 (by omega);rw[e];clear e;go_enter func107,ntmps107;go_wp2_with fail;go_ret;exact⟨rfl,rfl⟩
 have h':decide (z<0)=false:=by simpa using h
 have e:(!inB z 0 9999)=decide (9999<z):=by rw[wC8];simp[inB];omega
 rw[e];clear e;go_enter func107,ntmps107;go_wp2_with fail;go_ret;exact⟨rfl,rfl⟩
def zNm:uN prog 107:=zAd func107 (by kernel_rfl) rfl
def zNZ (counts:List Int) (v:Value) (w:World) (hv:SL w 1 v counts.length (ints counts)) :
 Calls prog 49 #[v] w λe w'=>e=.returned (.int .i64 (qQ counts))∧w=w':=by
 have HCF:=zA (λW (hs:SL W 1 v counts.length (ints counts))=>vH 107 #[] (λz=> !inB z 0 9999) zNm v counts W hs (λz _=>zTJ z W));simp only[zDk] at HCF;have hv':=hv;obtain⟨A,c,rfl,hc1,hc2,-,-⟩:=hv';unfold qQ
 by_cases h:256<counts.length
 ·rw[if_pos h];go_enter func49,ntmps49;go_wp2_with fail;go_ret;exact⟨rfl,rfl⟩
 rw[if_neg h]
 cases ha:zR counts 0 9999 with
 | true =>
   rw[ha] at HCF;clear ha;go_enter func49,ntmps49;go_wp2_with (go_at_call 88;(with_reducible refine (HCF.out _ hv).mono ?_);rintro e w' ⟨rfl,rfl⟩)
   go_ret;exact⟨rfl,rfl⟩
 | false =>
   rw[ha] at HCF;clear ha;go_enter func49,ntmps49;go_wp2_with (go_at_call 88;(with_reducible refine (HCF.out _ hv).mono ?_);rintro e w' ⟨rfl,rfl⟩)
   go_ret;exact⟨rfl,rfl⟩
def jL (T:List Tok) (s:Int):Nat:=(zBm T s).length
def qS (T:List Tok) (counts:List Int):Nat→Int
 | 0=>0
 | k+1=>qS T counts k+counts.getD k 0*(jL T (k:Int):Int)
def zEu (T:List Tok) (counts:List Int):Bool:=(List.range counts.length).all λk=>decide (counts.getD k 0≤0) ||(qL T (k:Int)).isSome
def zDs (cs xs counts:List Int):Int×Int :=
 if zQ cs xs=0 then (if qQ counts=0 then (if zEu (zH (zC cs 16) xs) counts then (qS (zH (zC cs 16) xs) counts counts.length,0) else (0,5)) else (0,qQ counts)) else (0,zQ cs xs)
def zGn {counts:List Int} (h:qQ counts=0):counts.length≤256∧zR counts 0 9999=true:=by
 unfold qQ at h;split at h
 ·cases h
 split at h
 ·next h1 h2=>exact⟨by omega,h2⟩
 cases h
def zNF {T:List Tok} {counts:List Int} (h:∀k,(hk:k<counts.length)→counts[k]≤0∨(qL T (k:Int)).isSome=true):zEu T counts=true:=by
 refine wI3.2 λk hk=> ?_
 have hk':=wF2.1 hk;rcases h k hk' with h1 | h1
 ·simp[hk',h1]
 simp[h1]
def zFM:Keyed prog 3:=int_keyed underlying3
def zLh (w:World):(zeroValue 3).run prog w=.ok (.int .i64 0) w:=by kernel_rfl
end
end Go.Proofs.YtkggcjdlpendfaaGreatDoor
namespace Go.Proofs.YtkggcjdlpendfaaGreatDoor.BM
open Tryz
def xO (cs:List Int):Nat→List Int
 | 0=>[]
 | i+1=>xO cs i++(if 0<cs.getD i 0 then [(i:Int)] else [])
def zCK (cs:List Int):∀(i:Nat) (s:Int),s∈xO cs i↔ ∃j:Nat,j<i∧s=(j:Int)∧0<cs.getD j 0
 | 0,s=>by simp[xO]
 | i+1,s=>by
   rw[xO,List.mem_append,zCK cs i s];constructor
   ·rintro (⟨j,h1,h2,h3⟩ | h)
    ·exact⟨j,by omega,h2,h3⟩
    split at h
    ·rename_i hp;exact⟨i,by omega,by simpa using h,hp⟩
    cases h
   rintro⟨j,h1,h2,h3⟩
   by_cases hj:j<i
   ·exact .inl ⟨j,hj,h2,h3⟩
   obtain rfl:j=i:=by omega
   right
   rw[if_pos h3];simpa using h2
def zEo (cs:List Int):∀i,(xO cs i).Nodup
 | 0=>by simp[xO]
 | i+1=>by
   rw[xO,List.nodup_append];refine⟨zEo cs i,by split<;>simp,λa ha b hb e=> ?_⟩;obtain⟨j,h1,h2,-⟩:=(zCK cs i a).1 ha;split at hb
   ·have:b=(i:Int):=by simpa using hb
    omega
   cases hb
def zIs (cs:List Int):∀i,(xO cs i).length≤i
 | 0=>by simp[xO]
 | i+1=>by
   have:=zIs cs i;rw[xO,List.length_append];split<;>simp<;>omega
def wtN (cs:List Int) (s:Int):Nat:=if s= -1 then 0 else (cs.getD s.toNat 0).toNat
def zFY (cs:List Int):∀i,singN cs i=((-1)::xO cs i).map (zEb (wtN cs))
 | 0=>rfl
 | i+1=>by
   rw[singN,xO,zFY cs i, ←List.cons_append,List.map_append];congr 1
   split
   ·have:wtN cs (i:Int)=(cs.getD i 0).toNat:=by unfold wtN;rw[if_neg (by omega)];simp
    simp[zEb,this]
   rfl
def zJv (cs:List Int):∀i,(xO cs i).length=(posN cs i).length
 | 0=>rfl
 | i+1=>by
   rw[xO,posN,List.length_append,List.length_append,zJv cs i];split<;>rfl
def zII (f:Int→Nat) (k n:Nat) (s:Int):s∈filt f k n↔(∃j:Nat,j<n∧s=(j:Int))∧f s=k+1:=by
 unfold filt;simp only[List.mem_filter,List.mem_map,List.mem_range,decide_eq_true_eq];constructor
 ·rintro⟨⟨j,h1,h2⟩,h3⟩;exact⟨⟨j,h1,h2.symm⟩,h3⟩
 rintro⟨⟨j,h1,h2⟩,h3⟩;exact⟨⟨j,h1,h2.symm⟩,h3⟩
def zUv (f:Int→Nat) (k n:Nat):(filt f k n).Nodup:=by unfold filt;rw[List.nodup_iff_pairwise_ne];refine List.Pairwise.filter _ ?_;rw[List.pairwise_map];exact List.nodup_range.imp (λh e=>h (by injection e))
def grp (f:Int→Nat) (n:Nat):Nat→List Int
 | 0=>[]
 | k+1=>grp f n k++filt f k n
def grp_eq (f:Int→Nat) (n:Nat):∀k,(List.range k).flatMap (λj=>filt f j n)=grp f n k
 | 0=>rfl
 | k+1=>by rw[List.range_succ,List.flatMap_append,grp_eq f n k];simp[grp]
def xsN_grp (f:Int→Nat) (n:Nat):xsN f n 16 0=grp f n 16:=by unfold xsN;rw[grp_eq];simp[filt]
def zEK (f:Int→Nat) (n:Nat):∀(k:Nat) (s:Int),s∈grp f n k↔(∃j:Nat,j<n∧s=(j:Int))∧1≤f s∧f s≤k
 | 0,s=>by
   simp only[grp,List.not_mem_nil,false_iff];rintro⟨-,h1,h2⟩;omega
 | k+1,s=>by
   rw[grp,List.mem_append,zEK f n k s,zII];constructor
   ·rintro (⟨h1,h2,h3⟩ | ⟨h1,h2⟩)
    ·exact⟨h1,h2,by omega⟩
    exact⟨h1,by omega,by omega⟩
   rintro⟨h1,h2,h3⟩
   by_cases h:f s≤k
   ·exact .inl ⟨h1,h2,h⟩
   exact .inr ⟨h1,by omega⟩
def zGV (f:Int→Nat) (n:Nat):∀k,(grp f n k).Nodup
 | 0=>by simp[grp]
 | k+1=>by
   rw[grp,List.nodup_append];refine⟨zGV f n k,zUv f k n,λa ha b hb e=> ?_⟩;subst e;have h1:=((zEK f n k a).1 ha).2.2;have h2:=((zII f k n a).1 hb).2;omega
def zJp {l m:List Int} (hl:l.Nodup) (hm:m.Nodup) (h:∀s∈l,s∈m) (g:Int→Nat):yC l g≤yC m g:=by rw[zGl hm g l h];refine zIH (λs _=> ?_);have h1:l.count s≤1:=List.nodup_iff_count.1 hl s;have:=Nat.mul_le_mul_left (g s) h1;omega
def grp_len (f:Int→Nat) (n k:Nat):(grp f n k).length≤n:=by
 have h:=zJp (zGV f n k) (m:=(List.range n).map Int.ofNat) (by
  rw[List.nodup_iff_pairwise_ne,List.pairwise_map]
  exact List.nodup_range.imp (λh e=>h (by injection e))) (λs hs=>by
   obtain⟨j,h1,h2⟩:=((zEK f n k s).1 hs).1
   exact List.mem_map.2 ⟨j,List.mem_range.2 h1,h2.symm⟩) (λ_=>1)
 rw[zAY,zAY] at h;simpa using h
def grp_kraft (f:Int→Nat) (n:Nat):∀k,yC (grp f n (k+1)) (λs=>2 ^ (16-f s))=yC (grp f n k) (λs=>2 ^ (16-f s))+(filt f k n).length*2 ^ (15-k):=λk=>by
 rw[grp,zBt];congr 1
 rw[zCu (k:=λ_=>2 ^ (15-k)) (λs hs=>by
  have h:=((zII f k n s).1 hs).2;show 2 ^ (16-f s)=2 ^ (15-k)
  congr 1
  omega),zAY]
def zRb (f:Int→Nat) (n j:Nat) (hj:j<16):(csN f n 16 0).getD j 0=((filt f j n).length:Int):=by rw[List.getD_eq_getElem?_getD,List.getElem?_eq_getElem (by rw[csN_len];exact hj),zKS,if_pos hj];rfl
def zMm (f:Int→Nat) (n:Nat):∀k,k≤16→jT (csN f n 16 0) k*2 ^ (16-k)=yC (grp f n k) (λs=>2 ^ (16-f s))
 | 0,_=>by simp[jT,grp,yC]
 | k+1,h=>by
   have ih:=zMm f n k (by omega);rw[grp_kraft, ←ih,jT,zRb f n k (by omega),Int.toNat_natCast,show 16-(k+1)=15-k by omega,show 16-k=(15-k)+1 by omega,Nat.pow_succ,Nat.add_mul];congr 1
   rw[Nat.mul_comm 2,Nat.mul_assoc,Nat.mul_comm 2]
def zLz (f:Int→Nat) (n:Nat):∀k,k≤16→zAx (csN f n 16 0) k=((grp f n k).length:Int)
 | 0,_=>by simp[zAx,grp]
 | k+1,h=>by
   rw[zJH _ k (by rw[csN_len];omega),zLz f n k (by omega),zKS,if_pos (by omega),grp,List.length_append];simp
def zLW (f:Int→Nat) (n:Nat):∀k,k≤16→(zC (csN f n 16 0) k).length=(grp f n k).length∧∀t∈zH (zC (csN f n 16 0) k) (grp f n k),t.2.1=((f t.1:Nat):Int)
 | 0,_=>by simp[zC,grp,zH]
 | k+1,h=>by
   obtain⟨h1,h2⟩:=zLW f n k (by omega);have hg:=zRb f n k (by omega);rw[zC,grp,hg,Int.toNat_natCast];refine⟨by rw[List.length_append,List.length_append,h1,zIG],λt ht=> ?_⟩;unfold zH at ht h2;rw[List.zipWith_append h1] at ht;rcases List.mem_append.1 ht with ht | ht
   ·exact h2 t ht
   obtain⟨i,hi,e⟩:=List.mem_iff_getElem.1 ht;rw[List.getElem_zipWith] at e;subst e;have hm:(filt f k n)[i]'(by rw[List.length_zipWith,zIG] at hi;omega)∈filt f k n:=List.getElem_mem _;have hf:=((zII f k n _).1 hm).2;show (((uF (csN f n 16 0) k (filt f k n).length)[i]'(by rw[List.length_zipWith] at hi;omega)).1:Int)=_
   rw[hf];simp[uF]
def len_of (f:Int→Nat) (n:Nat) (s:Int) (hs:s∈grp f n 16):(qL (zH (zC (csN f n 16 0) 16) (grp f n 16)) s).isSome=true∧jL (zH (zC (csN f n 16 0) 16) (grp f n 16)) s=f s:=by
 obtain⟨h1,h2⟩:=zLW f n 16 (Nat.le_refl _);obtain⟨p,hp,e⟩:=List.mem_iff_getElem.1 hs;have hz:(zH (zC (csN f n 16 0) 16) (grp f n 16)).length=(grp f n 16).length:=by rw[zDB _ _ (by omega),h1]
 have hm:(zH (zC (csN f n 16 0) 16) (grp f n 16))[p]'(by omega)∈zH (zC (csN f n 16 0) 16) (grp f n 16):=List.getElem_mem _
 have he:((zH (zC (csN f n 16 0) 16) (grp f n 16))[p]'(by omega)).1=s:=by
  unfold zH;rw[List.getElem_zipWith];exact e
 cases hq:qL (zH (zC (csN f n 16 0) 16) (grp f n 16)) s with
 | none =>
   exfalso
   have:=(List.find?_eq_none.1 hq) _ hm;simp[he] at this
 | some t =>
   refine⟨rfl, ?_⟩;have ht:=List.mem_of_find?_eq_some hq;have ht1:=List.find?_some hq;simp at ht1;have h3:=h2 t ht;rw[ht1] at h3;unfold jL zBm;rw[hq];show (qD t.2.2.toNat t.2.1.toNat).length=f s
   rw[qH,h3,Int.toNat_natCast]
def zTa {counts:List Int} {n:Nat} (hn:counts.length=n) (h256:n≤256) (hb:∀z∈counts,0≤z∧z≤9999) {S L:List Pack} (hS:S.Perm (singN counts n)) (hso:(S.map (·.1)).Pairwise (· ≤ ·)) (hR:Reach S 15 L) :
 let f:=λs=>(cont (L.take (2*S.length-2))).count s
 (∀s,f s≠0→s= -1∨s∈xO counts n)∧(∀s∈xO counts n,1≤f s∧f s≤16)∧yC (xO counts n) (λs=>2 ^ (16-f s))<2 ^ 16 ∧
 ∀ws:List Nat,ws.Perm (0::posN counts n)→ws.Pairwise (· ≤ ·)→yC (xO counts n) (λs=>wtN counts s*f s)=zGd ws:=by
 intro f;have hSl:S.length=(xO counts n).length+1:=by rw[hS.length_eq,zFY];simp
 by_cases h0:(xO counts n).length=0
 ·have hr:=List.eq_nil_of_length_eq_zero h0
  have hf:∀s,f s=0:=λs=>by
   show (cont (L.take (2*S.length-2))).count s=0
   rw[hSl,h0];simp[cont]
  rw[hr];refine⟨λs h=>absurd (hf s) h,λs h=>(by cases h),(by simp[yC]),λws hw _=> ?_⟩;have hl:=hw.length_eq;rw[List.length_cons, ←zJv,h0] at hl;unfold zGd;rw[if_pos hl];rfl
 have hnd:((-1:Int)::xO counts n).Nodup:=by
  rw[List.nodup_cons];refine⟨λh=> ?_,zEo counts n⟩;obtain⟨j,-,h2,-⟩:=(zCK counts n _).1 h;omega
 have hS2:S.Perm (((-1:Int)::xO counts n).map (zEb (wtN counts))):=by rw[←zFY];exact hS
 obtain⟨P,hP,hPs,hPL⟩:=hR.rows hso
 have hlen:2*((-1:Int)::xO counts n).length-2≤(P 15).length:=by
  rw[hPL,hR.len,hSl,List.length_cons];exact lenF_15 _ (by have:=zIs counts n;omega)
 obtain⟨c1,c2,c3,c4,c5⟩:=packages hnd (by rw[List.length_cons];omega) hS2 hP hPs hlen far;rw[hPL,List.length_cons, ←hSl] at c1 c2 c3 c4 c5;have hk:yC ((-1:Int)::xO counts n) (λs=>2 ^ (16-f s))=2 ^ (16-f (-1))+yC (xO counts n) (λs=>2 ^ (16-f s)):=rfl;have hc:yC ((-1:Int)::xO counts n) (λs=>wtN counts s*f s)=wtN counts (-1)*f (-1)+yC (xO counts n) (λs=>wtN counts s*f s):=rfl;have hw0:wtN counts (-1)=0:=by unfold wtN;rw[if_pos rfl]
 refine⟨λs h=> ?_,λs h=>c2 s (List.mem_cons_of_mem _ h), ?_,λws hw hws=> ?_⟩
 ·have:=c1 s (List.count_pos_iff.1 (Nat.pos_of_ne_zero h));simpa using this
 ·have h1:yC ((-1:Int)::xO counts n) (λs=>2 ^ (16-f s))≤2 ^ 16:=c3;rw[hk] at h1;have h2:0<2 ^ (16-f (-1)):=Nat.two_pow_pos _;omega
 rw[hw0,Nat.zero_mul,Nat.zero_add] at hc
 have hwt:∀s,wtN counts s≤9999:=λs=>by
  unfold wtN;split
  ·omega
  rw[List.getD_eq_getElem?_getD]
  cases hq:counts[s.toNat]? with
  | none=>simp
  | some z=>have:=hb z (List.mem_of_getElem? hq);simp;omega
 have hbd:yC (xO counts n) (λs=>wtN counts s*f s)≤256*159984:=by
  refine Nat.le_trans (zIH (k:=λ_=>159984) (λs hs=> ?_)) ?_
  ·have h1:=(c2 s (List.mem_cons_of_mem _ hs)).2;have h3:wtN counts s*f s≤9999*16:=Nat.mul_le_mul (hwt s) h1;exact h3
  rw[zAY];exact Nat.mul_le_mul_right _ (Nat.le_trans (zIs counts n) h256)
 have hF:yC (xO counts n) (λs=>wtN counts s*f s)=pre (L.map (·.1)) (2*S.length-2):=hc.symm.trans c4;have hlt:pre (L.map (·.1)) (2*S.length-2)<far:=by rw[←hF];unfold far;omega
 have h5:=c5 hlt
 have hwe:ws=S.map (·.1):=by
  refine List.Perm.eq_of_pairwise (le:=(· ≤ ·)) (λa b _ _ h1 h2=>by omega) hws hso ?_;refine hw.trans ?_;rw[←zJC];exact (hS.map _).symm
 rw[hF, ←h5, ←hwe];unfold zGd;have hwl:ws.length=S.length:=by rw[hwe,List.length_map]
 rw[if_neg (by omega),hwl,hwe]
def zGK {counts cs xs:List Int} (hM:Made counts cs xs) (hb:qQ counts=0) :
 zQ cs xs=0∧(∀x∈xs,∃j:Nat,x=(j:Int)∧j<counts.length∧counts.getD j 0≠0)∧∀ws:List Nat,ws.Perm (0::posN counts counts.length)→ws.Pairwise (· ≤ ·)→zDs cs xs counts=(((zGd ws:Nat):Int),0):=by
 obtain⟨b1,b2⟩:=zGn hb;have hbd:=yJ.1 b2;obtain⟨S,L,hS,hso,hR,hcs,hxs⟩:=hM;obtain⟨f1,f2,f3,f4⟩:=zTa rfl b1 (λz hz=>by have:=hbd z hz;omega) hS hso hR;generalize (λs=>(cont (L.take (2*S.length-2))).count s)=f at *;generalize hn:counts.length=n at *;rw[xsN_grp] at hxs;subst hcs hxs
 have hreal:∀s,s∈grp f n 16↔s∈xO counts n:=λs=>by
  rw[zEK];constructor
  ·rintro⟨⟨j,h1,h2⟩,h3,-⟩;rcases f1 s (by omega) with h | h
   ·omega
   exact h
  intro h;obtain⟨j,h1,h2,-⟩:=(zCK counts n s).1 h;exact⟨⟨j,h1,h2⟩,f2 s h⟩
 have hglen:=grp_len f n 16
 have hcheck:zQ (csN f n 16 0) (grp f n 16)=0:=by
  rw[zKF]
  ·rw[if_pos];unfold okW;rw[List.all_eq_true];intro k hk;have hk16:=List.mem_range.1 hk;rw[decide_eq_true_eq];have h1:=zMm f n (k+1) (by omega)
   have h2:yC (grp f n (k+1)) (λs=>2 ^ (16-f s))≤yC (xO counts n) (λs=>2 ^ (16-f s)):=zJp (zGV f n _) (zEo counts n) (λs hs=>by
    obtain⟨a,b,c⟩:=(zEK f n _ s).1 hs
    exact (hreal s).1 ((zEK f n 16 s).2 ⟨a,b,by omega⟩)) _
   have h3:jT (csN f n 16 0) (k+1)*2 ^ (16-(k+1))<2 ^ (k+1)*2 ^ (16-(k+1)):=by
    rw[←Nat.pow_add,show k+1+(16-(k+1))=16 by omega,h1];omega
   have:=Nat.lt_of_mul_lt_mul_right h3;omega
  ·rw[zGb];refine⟨yJ.2 (λz hz=> ?_), ?_, ?_⟩
   ·obtain⟨j,hj,rfl⟩:=List.mem_map.1 hz;have h1:=List.mem_range.1 hj;rw[if_pos h1];have:=filt_len f j n;omega
   ·rw[zLz f n 16 (Nat.le_refl _)];omega
   exact zLz f n 16 (Nat.le_refl _)
  ·refine yJ.2 (λz hz=> ?_);obtain⟨⟨j,h1,h2⟩,-⟩:=(zEK f n 16 z).1 hz;omega
  exact zGV f n 16
 refine⟨hcheck,λx hx=> ?_,λws hw hws=> ?_⟩
 ·obtain⟨j,h1,h2,h3⟩:=(zCK counts n x).1 ((hreal x).1 hx);exact⟨j,h2,h1,by omega⟩
 have hcost:∀i,i≤n→qS (zH (zC (csN f n 16 0) 16) (grp f n 16)) counts i=((yC (xO counts i) (λs=>wtN counts s*f s):Nat):Int):=by
  have HT:=λs hs=>(len_of f n s hs).2
  generalize zH (zC (csN f n 16 0) 16) (grp f n 16)=T at HT ⊢;intro i
  induction i with
  | zero=>intro _;rfl
  | succ i ih =>
    intro hi;show qS T counts i+counts.getD i 0*(jL T (i:Int):Int)=_
    rw[ih (by omega),xO,zBt]
    have hz:0≤counts.getD i 0:=by
     rw[List.getD_eq_getElem?_getD]
     cases hq:counts[i]? with
     | none=>simp
     | some z=>exact (hbd z (List.mem_of_getElem? hq)).1
    by_cases hp:0<counts.getD i 0
    ·have hm:(i:Int)∈xO counts n:=(zCK counts n _).2 ⟨i,by omega,rfl,hp⟩;rw[if_pos hp,HT _ ((hreal _).2 hm)];have hw1:wtN counts (i:Int)=(counts.getD i 0).toNat:=by unfold wtN;rw[if_neg (by omega)];simp
     have e:yC [(i:Int)] (λs=>wtN counts s*f s)=(counts.getD i 0).toNat*f (i:Int):=by simp[yC,hw1]
     rw[e,Int.natCast_add,Int.natCast_mul,Int.toNat_of_nonneg hz]
    rw[if_neg hp,show counts.getD i 0=0 by omega,Int.zero_mul];simp[yC]
 have hsome:∀s,s∈xO counts n→(qL (zH (zC (csN f n 16 0) 16) (grp f n 16)) s).isSome=true:=λs hs=>(len_of f n s ((hreal s).2 hs)).1
 have hc:=hcost n (Nat.le_refl _);clear hcost;unfold zDs;rw[if_pos hcheck,if_pos hb];clear hcheck;generalize zH (zC (csN f n 16 0) 16) (grp f n 16)=T at *
 have hall:zEu T counts=true:=zNF (λk hk=>by
  by_cases hp:0<counts[k]
  ·exact .inr (hsome _ ((zCK counts n _).2 ⟨k,by omega,rfl,by simpa [hk] using hp⟩))
  ·exact .inl (by omega))
 rw[if_pos hall,hn,hc,f4 ws hw hws]
end Go.Proofs.YtkggcjdlpendfaaGreatDoor.BM
namespace Go.Proofs.YtkggcjdlpendfaaGreatDoor.BM
open Tryz
open Go.RowKit
def zKw (cs:List Int):∀k,((zC cs k).map λp=>2 ^ (k-p.1)).sum=jT cs k
 | 0=>by rw[zDS];rfl
 | k+1=>by
   have hn:jT cs (k+1)=2*jT cs k+(cs.getD k 0).toNat:=rfl
   have h1:((zC cs k).map λp=>2 ^ (k+1-p.1))=(zC cs k).map λp=>2*2 ^ (k-p.1):=List.map_congr_left λp hp=>by
    have:=(zHi cs k p hp).1;rw[show k+1-p.1=(k-p.1)+1 by omega,Nat.pow_succ,Nat.mul_comm]
   have h2:∀l:List (Nat×Nat),(l.map λp=>2*2 ^ (k-p.1)).sum=2*(l.map λp=>2 ^ (k-p.1)).sum:=by
    intro l
    induction l with
    | nil=>rfl
    | cons a l ih=>simp only[List.map_cons,List.sum_cons,ih];omega
   have h3:∀j,((uF cs k j).map λp=>2 ^ (k+1-p.1)).sum=j:=by
    intro j
    induction j with
    | zero=>rfl
    | succ j ih=>rw[zOV,List.map_append,List.sum_append,ih];simp
   rw[zEi,List.map_append,List.sum_append,h1,h2,zKw cs k,h3,hn]
def zTL {cs xs:List Int} (hl:cs.length=16) (hz:zQ cs xs=0):yC xs (λs=>2 ^ (16-jL (zH (zC cs 16) xs) s))+1≤2 ^ 16:=by
 obtain⟨q1,q2,q3,q4,q5,q6⟩:=zAy hz
 have hcl:(zC cs 16).length=xs.length:=by
  have:=zDG cs (λz hz=>(yJ.1 q1 z hz).1) 16 (by omega);omega
 have hsy:=zON (zC cs 16) xs hcl;have hfit:=zFR cs q4 hl 16 (by omega)
 have hlen:∀i (h:i<xs.length),jL (zH (zC cs 16) xs) xs[i]=((zC cs 16)[i]'(by omega)).1:=λi h=>by
  have hzl:=zDB (zC cs 16) xs (by omega)
  have hf:qL (zH (zC cs 16) xs) xs[i]=some ((zH (zC cs 16) xs)[i]'(by omega)):=by
   refine findT_at (by omega) ?_ ?_
   ·rw[hsy];intro hm;obtain⟨j,hj,e⟩:=List.mem_iff_getElem.1 hm;rw[List.getElem_take] at e;have:=(List.getElem_inj q6).1 e;rw[List.length_take] at hj;omega
   rw[zBT _ xs i (by omega) h (by omega)]
  unfold jL zBm;rw[hf,zBT _ xs i (by omega) h (by omega)];dsimp only;rw[qH,Int.toNat_natCast]
 have e:xs.map (λs=>2 ^ (16-jL (zH (zC cs 16) xs) s))=(zC cs 16).map λp=>2 ^ (16-p.1):=by
  refine List.ext_getElem (by simp[hcl]) λi h1 h2=> ?_
  rw[List.length_map] at h1;rw[List.getElem_map,List.getElem_map,hlen i h1]
 unfold yC;rw[e,zKw];have h15:=List.all_eq_true.1 q4 15 (by simp);simpa using h15
def zMb (T:List Tok) {counts:List Int} (hb:∀z∈counts,0≤z):∀i,i≤counts.length→qS T counts i=((yC (xO counts i) (λs=>wtN counts s*jL T s):Nat):Int)
 | 0,_=>rfl
 | i+1,hi=>by
   have ih:=zMb T hb i (by omega)
   have hz:0≤counts.getD i 0:=by
    rw[List.getD_eq_getElem?_getD,List.getElem?_eq_getElem (by omega)];exact hb _ (List.getElem_mem _)
   show qS T counts i+counts.getD i 0*(jL T (i:Int):Int)=_
   rw[ih,xO]
   by_cases h0:0<counts.getD i 0
   ·rw[if_pos h0,zBt];have hw:wtN counts (i:Int)=(counts.getD i 0).toNat:=by unfold wtN;rw[if_neg (by omega),Int.toNat_natCast]
    have h1:yC [(i:Int)] (λs=>wtN counts s*jL T s)=(counts.getD i 0).toNat*jL T (i:Int):=by simp[yC,hw]
    rw[h1]
    push_cast
    rw[Int.toNat_of_nonneg hz]
   rw[if_neg h0,List.append_nil,show counts.getD i 0=0 by omega];simp
def fewest {counts cs xs cs' xs':List Int} (hM:Made counts cs xs) (hb:qQ counts=0) (hl:cs'.length=16):∃m:Int,zDs cs xs counts=(m,0)∧∀c,zDs cs' xs' counts=(c,0)→m≤c:=by
 obtain⟨g1,g2,g3⟩:=zGK hM hb;obtain⟨b1,b2⟩:=zGn hb;have hbd:=yJ.1 b2;have hws:=List.mergeSort_perm (0::posN counts counts.length) (λa b=>decide (a≤b));have hso:=List.pairwise_mergeSort (le:=λa b:Nat=>decide (a≤b)) (λa b c h1 h2=>by simp at *;omega) (λa b=>by simp;omega) (0::posN counts counts.length);generalize (0::posN counts counts.length).mergeSort (λa b=>decide (a≤b))=ws at *;have hsr:ws.Pairwise (· ≤ ·):=hso.imp (by simp);refine⟨_,g3 ws hws hsr,λc hc=> ?_⟩;unfold zDs at hc
 by_cases hz:zQ cs' xs'=0
 ·rw[if_pos hz,if_pos hb] at hc
  cases ha:zEu (zH (zC cs' 16) xs') counts with
  | false=>rw[ha] at hc;simp at hc
  | true =>
    rw[ha,if_pos rfl] at hc;have hcc:c=qS (zH (zC cs' 16) xs') counts counts.length:=by injection hc with h1 h2;exact h1.symm
    rw[hcc,zMb _ (λz hz=>(hbd z hz).1) _ (Nat.le_refl _)];have hk:=zTL hl hz;obtain⟨q1,q2,q3,q4,q5,q6⟩:=zAy hz;have hf:=zEJ cs' xs' hl hz
    have hcl:(zC cs' 16).length=xs'.length:=by
     have:=zDG cs' (λz hz=>(yJ.1 q1 z hz).1) 16 (by omega);omega
    have hsy:=zON (zC cs' 16) xs' hcl;generalize zH (zC cs' 16) xs'=T at *;generalize hn:counts.length=n at *
    have hreal:∀s∈xO counts n,s∈xs'∧1≤jL T s∧jL T s≤16:=λs hs=>by
     obtain⟨j,hj,rfl,hp⟩:=(zCK counts n s).1 hs;have h1:=List.all_eq_true.1 ha j (List.mem_range.2 (by omega));simp only[Bool.or_eq_true,decide_eq_true_eq] at h1;obtain⟨t,ht⟩:=Option.isSome_iff_exists.1 (h1.resolve_left (by omega));obtain⟨long,code,rfl,l1,l2,l3⟩:=hf _ _ ht;refine⟨?_, ?_⟩
     ·rw[←hsy];exact List.mem_map.2 ⟨_,List.mem_of_find?_eq_some ht,rfl⟩
     unfold jL;rw[zFZ ht,qH];exact⟨l1,l2⟩
    have hkr:yC (xO counts n) (λs=>2 ^ (16-jL T s))+1≤2 ^ 16:=by
     have:=zJp (zEo counts n) q6 (λs hs=>(hreal s hs).1) (λs=>2 ^ (16-jL T s));omega
    have hlenw:ws.length=(xO counts n).length+1:=by rw[hws.length_eq,List.length_cons,zJv]
    by_cases h0:(xO counts n).length=0
    ·have:zGd ws=0:=by unfold zGd;rw[if_pos (by omega)]
     rw[this];omega
    let X:List (Nat×Nat):=(0,15)::(xO counts n).map λs=>(wtN counts s,jL T s-1)
    have hXw:X.map (·.1)=0::posN counts n:=by
     have h1:=zJC counts n;rw[zFY,List.map_map] at h1;injection h1 with h2 h3
     show 0::((xO counts n).map λs=>(wtN counts s,jL T s-1)).map (·.1)=_
     rw[List.map_map, ←h3];rfl
    have hXl:X.length=ws.length:=by rw[hlenw];simp[X]
    have hXp:Part ws X:=⟨[],by rw[List.append_nil,hXw];exact hws⟩
    have hX1:∀x∈X,x.2≤15:=by
     intro x hx;rcases List.mem_cons.1 hx with rfl | hx
     ·exact Nat.le_refl _
     obtain⟨s,hs,rfl⟩:=List.mem_map.1 hx;have:=(hreal s hs).2;show jL T s-1≤15
     omega
    have hXk:zBK 15 X≤2*2 ^ 15:=by
     have e:zBK 15 X=1+yC (xO counts n) (λs=>2 ^ (16-jL T s)):=by
      show ((((0,15)::(xO counts n).map λs=>(wtN counts s,jL T s-1)):List (Nat×Nat)).map λx=>2 ^ (15-x.2)).sum=_
      rw[List.map_cons,List.sum_cons,List.map_map]
      have:(xO counts n).map ((λx:Nat×Nat=>2 ^ (15-x.2)) ∘ λs=>(wtN counts s,jL T s-1))=(xO counts n).map λs=>2 ^ (16-jL T s):=List.map_congr_left (λs hs=>by
       have:=(hreal s hs).2;show 2 ^ (15-(jL T s-1))=_
       congr 1
       omega)
      rw[this];rfl
     rw[e];omega
    have hi:=D_high hsr far 15 X 2 hXp hX1 hXk;rw[hXl] at hi
    have hp:pre ws ws.length=yC (xO counts n) (λs=>wtN counts s):=by
     rw[pre_all,hws.sum_nat, ←hXw];show (((0,15)::(xO counts n).map λs=>(wtN counts s,jL T s-1)).map (·.1)).sum=_
     rw[List.map_cons,List.sum_cons,List.map_map,Nat.zero_add];rfl
    have hcX:cost X=yC (xO counts n) (λs=>wtN counts s*(jL T s-1)):=by
     show (((0,15)::(xO counts n).map λs=>(wtN counts s,jL T s-1)).map λx=>x.1*x.2).sum=_
     rw[List.map_cons,List.sum_cons,List.map_map];simp[yC,Function.comp_def]
    have hsum:yC (xO counts n) (λs=>wtN counts s)+yC (xO counts n) (λs=>wtN counts s*(jL T s-1))=yC (xO counts n) (λs=>wtN counts s*jL T s):=by
     rw[←zGN];refine zCu (λs hs=> ?_);obtain⟨d,hd⟩:∃d,jL T s=d+1:=⟨jL T s-1,by have:=(hreal s hs).2;omega⟩
     rw[hd,Nat.add_sub_cancel,Nat.mul_add,Nat.mul_one,Nat.add_comm]
    have hbz:zGd ws=pre ws ws.length+D (pre ws) far 15 ws.length 2:=by unfold zGd;rw[if_neg (by omega)]
    rw[hbz];omega
 rw[if_neg hz] at hc;injection hc with h1 h2
 exact absurd h2 hz
end Go.Proofs.YtkggcjdlpendfaaGreatDoor.BM
namespace Go.Proofs.YtkggcjdlpendfaaGreatDoor
open Go.RowKit Tryz
def cs0:List Int:=[0,2,1,3,1,1,1,1,0,8,0,1,0,0,1,236]
def xs0:List Int:=[8,7,6,5,9,0,4,3,2,1,17,18,19,20,21,22,23,24,25,10]++((List.range 256).map Int.ofNat).filter λs=>zDL s ==16
def tab0_ok:zQ cs0 xs0=0:=by decide+kernel
def zLy:∀s:Fin 256,(qL (zH (zC cs0 16) xs0) (s.val:Int)).isSome=true∧(zBm (zH (zC cs0 16) xs0) (s.val:Int)).length=zDL (s.val:Int):=by decide+kernel
def cs4:List Int:=[0,0,0,13,0,0,0,0,0,0,0,0,0,0,0,243]
def xs4:List Int:=(List.range 256).map Int.ofNat
def tab4_ok:zQ cs4 xs4=0:=by decide+kernel
def zQo:∀s:Fin 256,(qL (zH (zC cs4 16) xs4) (s.val:Int)).isSome=true∧(s.val<13→(zBm (zH (zC cs4 16) xs4) (s.val:Int)).length=4):=by decide+kernel
def guardTok:prog.eqGuardType prog.depth 149=false:=by kernel_rfl
def zQe (w:World) (op:BinOp) (x y:Operand) (xs ys:Array Value):(eqGuard op 149 x y (.agg xs) (.agg ys)).run prog w=.ok () w:=run_eqGuard_agg w op _ x y xs ys guardTok
def stoodTok:prog.stoodInHeld 149=false:=by kernel_rfl
def run_eqTok (w:World) (t u:Tok):(Op.equalIn 10000 149 (.agg (qN t).toArray) (.agg (qN u).toArray)).run prog w=.ok (decide (t=u)) w:=by
 have p0:∀(v:Tok),(part 3 (qN v).toArray 0).run prog w=.ok (.int .i64 v.1) w:=λv=>zFx w 3 underlying3 [v.1,v.2.1,v.2.2] 0 (by simp)
 have p1:∀(v:Tok),(part 3 (qN v).toArray 1).run prog w=.ok (.int .i64 v.2.1) w:=λv=>zFx w 3 underlying3 [v.1,v.2.1,v.2.2] 1 (by simp)
 have p2:∀(v:Tok),(part 3 (qN v).toArray 2).run prog w=.ok (.int .i64 v.2.2) w:=λv=>zFx w 3 underlying3 [v.1,v.2.1,v.2.2] 2 (by simp)
 have hi:=λa b=>run_equalIn_int w 9998 3 .i64 .i64 a b underlying3
 have hst:prog.underlying 149=some (.struct (prog.fieldsOf 149)):=by kernel_rfl
 rw[run_equalIn_struct w 9999 149 _ _ hst stoodTok];have hf : (Tryz.prog.fieldsOf 149).toList = [{ name := "Sym", type := 3, offset := 0, embedded := false, tag := "", pkgPath := "", byteOffset := 0 }, { name := "Width", type := 3, offset := 1, embedded := false, tag := "", pkgPath := "", byteOffset := 8 }, { name := "Value", type := 3, offset := 2, embedded := false, tag := "", pkgPath := "", byteOffset := 16 }] := by kernel_rfl
 rw[hf];simp only [Op.eqFields, ne_eq, show ("Sym" = "_") = False by decide, show ("Width" = "_") = False by decide, show ("Value" = "_") = False by decide, not_false_eq_true, if_true, Sem.run_bind, p0, p1, p2, hi, Result.andThen_ok, Sem.run_ite, Sem.run_pure];obtain⟨a,b,c⟩:=t;obtain⟨a',b',c'⟩:=u
 by_cases h1:a=a'<;>by_cases h2:b=b'<;>by_cases h3:c=c'<;>simp[h1,h2,h3]
def zTp (w:World) (t u:Tok):(binOp .neq 149 (.agg (qN t).toArray) (.agg (qN u).toArray)).run prog w=.ok (.bool (!decide (t=u))) w:=by rw[run_neq_struct,run_eqTok];rfl
def tokv_len (t:Tok):(qN t).length=3:=rfl
def zJr (T:List Tok) (k:Nat) (h:k<T.length):((qW T).drop (k*3)).take 3=qN T[k]:=by
 refine List.ext_getElem? λj=> ?_
 obtain⟨a,b,c⟩:=toks_at T k h
 by_cases hj:j<3
 ·rw[wB8 hj,wB4]
  match j,hj with
  | 0,_=>simpa [qN] using a
  | 1,_=>simpa [qN] using b
  | 2,_=>simpa [qN] using c
 rw[wO2 (by rw[wF1];omega),wO2 (by rw[tokv_len];omega)]
def zMg:(prog.info? 149).map (·.size)=some 3:=by kernel_rfl
def zRL (T U:List Tok) (k:Nat) (h1:k<T.length) (h2:k<U.length):T.take (k+1)=U.take (k+1)↔T.take k=U.take k∧T[k]=U[k]:=zId T U k h1 h2
def vX (t:Tok):(qN t).toArray.all (·.oneCell')=true:=by rw[Array.all_eq_true'];intro x hx;simp[qN] at hx;rcases hx with rfl | rfl | rfl<;>rfl
def zFX (u v:Value) (T U:List Tok) (w:World) (hu:SL w 3 u T.length (qW T)) (hv:SL w 3 v U.length (qW U)) :
 Calls prog 190 #[u,v] w λe w'=>e=.returned (.bool (decide (T=U)))∧Ext w w':=by
 have hu':=hu;have hv':=hv;obtain⟨A,c,rfl,hc1,hc2,-,-⟩:=hu';obtain⟨B,d,rfl,hd1,hd2,-,-⟩:=hv'
 by_cases hl:T.length=U.length
 ·have HE:Hid (T.length=U.length):=hl;obtain⟨n,hn⟩:∃n,n=T.length:=⟨_,rfl⟩
  have HTN:Hid (T.length=n):=zA hn.symm;have HUN:Hid (U.length=n):=zA (by rw[←hl,hn]);rw[←hl] at hv hd1 ⊢;rw[←hn] at hu hv hc1 hd1 ⊢;have e1:((n:Int) !=(n:Int))=false:=by simp
  obtain⟨res,hres⟩:∃r,r=decide (T=U):=⟨_,rfl⟩
  have HR:=zA hres;rw[←hres];clear hl hn hres;go_enter func190,ntmps190;go_wp2_with fail
  go_loopw [13] (λi wr=>∃k:Nat,k≤n∧i=.int .i64 k∧Hid (T.take k=U.take k)∧Ext w wr) (λi _=>n-(intOf i).toNat)
  case atStart=>exact⟨0,by omega,rfl,zA (by simp),Ext.refl w⟩
  case round =>
   obtain⟨k,hk,rfl,HT,hx⟩:=hrel
   by_cases hlt:k<n
   ·obtain⟨ad,rfl,hab,hca⟩:=(hu.ext hx).part hlt;obtain⟨bd,rfl,hbb,hcb⟩:=(hv.ext hx).part hlt;have hkT:k<T.length:=by rw[HTN.out];exact hlt
    have hkU:k<U.length:=by rw[HUN.out];exact hlt
    rw[zJr T k hkT] at hca;rw[zJr U k hkU] at hcb;have HQ:=zA (zRL T U k hkT hkU);generalize ht:T[k]=t at *;generalize hu2:U[k]=t' at *;have HTt:=zA ht;have HTu:=zA hu2;clear ht hu2;have HCA:=zA hca;clear hca
    have HCA':Hid (∀W,Ext wr.drew W→zAg W (ad.add (k*3)) (qN t)):=zA (λW hW j q hq=>by
     rw[(hW.cell (p:=(ad.add (k*3)).add j) (by rw[yH,yH];exact hab))]
     exact HCA.out j q hq)
    have HCB:Hid (∀W,Ext wr.drew W→zAg W (bd.add (k*3)) (qN t')):=zA (λW hW j q hq=>by
     rw[(hW.cell (p:=(bd.add (k*3)).add j) (by rw[yH,yH];exact hbb))]
     exact hcb j q hq)
    have hx3':=hx.drew;go_wp2_with fail;refine xU qM (by kernel_rfl) (by kernel_rfl) ?_
    iterate 3 (refine zBZ (by rfl) ?_;apply Exists.intro;refine⟨λw hw=> ?_, ?_⟩; · (go_simp;with_reducible rfl)
               simp only[Act.put,sA,sB,sC])
    refine zLG (by rfl) 149 (.tmp 18) rfl (ad.add (k*3)) rfl (qN t) _ HCA'.out underlying149 rfl zMg ?_;simp only[Act.put,sA,sB,sC]
    iterate 3 (refine zBZ (by rfl) ?_;apply Exists.intro;refine⟨λw hw=> ?_, ?_⟩; · (go_simp;with_reducible rfl)
               simp only[Act.put,sA,sB,sC])
    refine zLG (by rfl) 149 (.tmp 22) rfl (bd.add (k*3)) rfl (qN t') _ HCB.out underlying149 rfl zMg ?_;simp only[Act.put,sA,sB,sC];refine zAU (by rfl) .neq 149 _ _ _ rfl (.agg (qN t).toArray) (.agg (qN t').toArray) rfl rfl (.bool (!decide (t=t'))) (λW=>zQe W _ _ _ _ _) (λW=>zTp W t t') ?_;simp only[Act.put,sA,sB,sC];refine jU ?_;intro w4 hx4
    by_cases hq:t=t'
    ·have HH:Hid (T.take (k+1)=U.take (k+1)):=zA (HQ.out.2 ⟨HT.out,hq⟩);rw[wS2 hq];clear hq;go_wp2_with fail;go_roundw
     case rel=>exact⟨k+1,by omega,by go_num,HH,hx3'.trans hx4⟩
     case measure=>simp[intOf];omega
    have hne:T≠U:=by
     intro h;apply hq;have h1:=HTt.out;have h2:=HTu.out;subst h;exact h1.symm.trans h2
    have HN:=zA hne;rw[wS3 hq];clear hq hne;go_wp2_with fail;go_ret;refine⟨?_,hx3'.trans hx4⟩;rw[HR.out,wS3 HN.out];rfl
   go_wp2_with fail;go_ret;refine⟨?_,hx⟩
   have e:T=U:=by
    have:=HT.out
    rwa [wC2 (by rw[HTN.out];omega),wC2 (by rw[HUN.out];omega)] at this
   rw[HR.out,wS2 e];rfl
 have hne:decide (T=U)=false:=wS3 (λh=>hl (by rw[h]));have e1:((T.length:Int) !=(U.length:Int))=true:=by simp;omega
 rw[hne];clear hne hl;go_enter func190,ntmps190;go_wp2_with fail;go_ret;exact⟨rfl,Ext.refl w⟩
def xI:(prog.info? 149).map (·.size)=some 3:=by kernel_rfl
def zAj:(prog.info? 149).bind (·.zero)=some (.agg (qN (0,0,0)).toArray):=by kernel_rfl
def zKT:Elt prog 145 149 3 24:=⟨underlying145,by kernel_rfl,by omega⟩
def bitsZ_bd (n:Int):0≤(vM n).1∧(vM n).1≤12:=by
 unfold vM;split
 ·next h=>have:=(zER n h.1 h.2).1;simp;omega
 simp
def zDo (a b c:Int):(#[Value.int .i64 a,.int .i64 b,.int .i64 c]:Array Value).all (·.oneCell')=true:=by rw[Array.all_eq_true'];intro x hx;simp at hx;rcases hx with rfl | rfl | rfl<;>rfl
def or_add:∀r:Fin 16,∀x:Fin 13,bits .or .i64 ((r.val:Int)*16) (x.val:Int)=16*(r.val:Int)+(x.val:Int):=by decide
def zQC (r:Nat) (m:Int) (w:World) (h1:r≤15):Calls prog 209 #[.int .i64 r,.int .i64 m] w λe w'=>e=.returned (.agg (qN (qZ r m)).toArray)∧Ext w w':=by
 have HB:=zA (λW=>zQx m W);obtain⟨b1,b2⟩:=bitsZ_bd m;have HT:=zA (show qN (qZ r m)=[.int .i64 (16*r+(vM m).1),.int .i64 (vM m).1,.int .i64 (vM m).2.1] from rfl);generalize qZ r m=tk at *;generalize vM m=b at *;obtain⟨x1,x2,x3⟩:=b;obtain⟨x1,rfl⟩:∃k:Nat,x1=k:=⟨x1.toNat,by simp at b1;omega⟩
 have HO:bits .or .i64 ((r:Int)*16) (x1:Int)=16*(r:Int)+(x1:Int):=or_add ⟨r,by omega⟩ ⟨x1,by simp at b2;omega⟩;go_enter func209,ntmps209
 go_wp2_with (first
  | (refine wAlo' rfl (some 4) rfl 149 rfl _ zAj ?_;intro w1 g1 hb1 hx1 hg1)
  | (go_at_call 216;(with_reducible refine (HB.out _).mono ?_);rintro e w' ⟨rfl,rfl⟩)
  | (refine wStB rfl 149 (.tmp 4) (.tmp 20) rfl _ _ rfl rfl hb1 3 xI rfl rfl (zDo _ _ _) ?_;intro w5 hb5 hg5))
 refine zCS rfl rfl _ rfl hb5 _ underlying149 rfl 3 xI rfl ⟨by rw[HT.out],hx1.grown hg5 hg1⟩
def own_ext {w w':World} {base:Nat} {e:TypeId} {size n:Nat} {v:Value} {xs:List Value} (h:w.ownsRow base e size v n xs) (hb:Ext w w'):w'.ownsRow base e size v n xs:=by
 obtain⟨hl,hh⟩:=h;refine⟨hl, ?_⟩;rcases hh with ⟨rfl,rfl⟩ | ⟨g,cap,cur,rfl,h1,hg,h2⟩
 ·exact .inl ⟨rfl,rfl⟩
 exact .inr ⟨g,cap,cur,rfl,h1,(hb.block g (Blk.lt (w:=w) (t:=e) (cs:=cur) hg)).trans hg,h2⟩
def zOM (w:World) (T:TypeId) (a b c:Value):SL (w.alloc (.cells #[a,b,c] T)) 3 (.slice (some ⟨w.heap.size,0,none⟩) 1 1) 1 [a,b,c]:=by have:=(Blk.new w T #[a,b,c]).sl (size:=3) (n:=1) (c:=1) rfl (by omega) (by omega);simpa using this
def zUk {w:World} {base:Nat} (e:TypeId) (a b c:Value) (hb:base≤w.heap.size) :
 (w.alloc (.cells #[a,b,c] e)).ownsRow base e 3 (.slice (some ⟨w.heap.size,0,none⟩) 1 1) 1 [a,b,c] :=
 ⟨rfl,.inr ⟨w.heap.size,1, #[a,b,c],rfl,hb,heap_alloc_new w _,by omega,by unfold maxLen;omega,rfl,by simp⟩⟩
def zKK (a b c:Int):∀u∈[Value.int .i64 a,.int .i64 b,.int .i64 c],u.oneCell'=true:=by intro u hu;simp at hu;rcases hu with rfl | rfl | rfl<;>rfl
def zNx {w:World} {base:Nat} {e:TypeId} {v:Value} {T:List Tok} {a b c:Int} (h:w.ownsRow base e 3 v (T.length+1) (qW T++[.int .i64 a,.int .i64 b,.int .i64 c])):w.ownsRow base e 3 v (T++[(a,b,c)]).length (qW (T++[(a,b,c)])):=by simpa [qW,qN] using h
def zET (t:Tok):(qN t).toArray= #[.int .i64 t.1,.int .i64 t.2.1,.int .i64 t.2.2]:=rfl
def size47:(prog.info? 32).map (·.size)=some 64:=by kernel_rfl
def zero47:(prog.info? 32).bind (·.zero)=some (.agg (bv (List.replicate 64 0))):=by kernel_rfl
def zord_set (k:Nat) (h:k<64) (z:Int):(zigL.take k++List.replicate (64-k) 0).set k z=zigL.take k++[z]++List.replicate (64-(k+1)) 0:=by
 have hl:(zigL.take k).length=k:=by rw[wF1,zDd];omega
 rw[wL4 _ _ (by omega),hl,wL5];obtain⟨m,hm⟩:∃m,64-k=m+1:=⟨64-k-1,by omega⟩
 have hm2:64-(k+1)=m:=by omega
 rw[hm,hm2,wG1,wJ9];simp
def tup {s:Int×Int×Bool} {a b:Int} {c:Bool} (h:s=(a,b,c)):s.1=a∧s.2.1=b∧s.2.2=c:=by subst h;exact⟨rfl,rfl,rfl⟩
def zOS (w:World):Calls prog 139 #[] w λe w'=>e=.returned (.agg (bv zigL))∧Ext w w':=by
 go_enter func139,ntmps139;go_wp2_with (refine vF rfl 32 rfl _ zero47 ?_;intro w1 g hb1 hx1 hg)
 go_loopw [1,2,3,5] (λr c u i wr=>∃k:Nat,k≤64∧i=.int .i64 k∧r=.int .i64 (zst k).1∧c=.int .i64 (zst k).2.1∧u=.bool (zst k).2.2∧Blk wr g 32 (bv (zigL.take k++List.replicate (64-k) 0))∧Ext w wr) (λ_ _ _ i _=>64-(intOf i).toNat)
 case atStart=>exact⟨0,by omega,rfl,rfl,rfl,rfl,hb1,hx1⟩
 case round =>
  obtain⟨k,hk,rfl,rfl,rfl,rfl,hb,hx⟩:=hrel
  by_cases hlt:k<64
  ·obtain⟨b1,b2,b3,b4⟩:=zst_bd k hlt;have HS:Hid (zst (k+1)=zFH (zst k)):=zA rfl;have HZ:Hid (vB k=8*(zst k).1+(zst k).2.1):=zA rfl
   obtain⟨old,hold⟩:∃u,wr.cell? ⟨g,k,none⟩=some u:=by
    rw[hb.cell k];exact⟨_,jQ _ k (by simp[zDd];omega)⟩
   have hfr:=hb.frozen k;have hnew:=zA (hb.set_ k (.int .i64 (8*(zst k).1+(zst k).2.1)));generalize hst:zst k=st at *;obtain⟨r,c,u⟩:=st;have HST:=zA hst;clear hst;simp only at b1 b2 b3 b4 HZ hnew;have fin:∀(a b:Int) (d:Bool),zFH (r,c,u)=(a,b,d)→zst (k+1)=(a,b,d):=λa b d h=>by rw[HS.out,h]
   have FIN:=zA fin
   have hblk:Hid (Blk (wr.setCell ⟨g,k,none⟩ (.int .i64 (8*r+c))) g 32 (bv (zigL.take (k+1)++List.replicate (64-(k+1)) 0))):=by
    have:=hnew.out;rw[zAE,zord_set k hlt] at this;rw[zNk k hlt,HZ.out];exact this
   have hxx:=zA (hx.setCell (p:=⟨g,k,none⟩) hg (.int .i64 (8*r+c)));clear fin hnew hb hx
   cases u with
   | true =>
     by_cases h7:c=7
     ·obtain⟨f1,f2,f3⟩:=tup (FIN.out (r+1) c false (by simp[zFH,h7]));have F:=zA f1;have F2:=zA f2;have F3:=zA f3;have h7':(c ==7)=true:=by simpa using h7
      clear f1 f2 f3 h7;go_wp2_with fail;go_roundw
      case rel=>exact⟨k+1,by omega,by go_num,by rw[F.out],by rw[F2.out],by rw[F3.out],hblk.out,hxx.out⟩
      case measure=>simp[intOf];omega
     have h7':(c ==7)=false:=by simpa using h7
     by_cases h0:r=0
     ·obtain⟨f1,f2,f3⟩:=tup (FIN.out r (c+1) false (by simp[zFH,h7,h0]));have F:=zA f1;have F2:=zA f2;have F3:=zA f3;have h0':(r ==0)=true:=by simpa using h0
      clear f1 f2 f3 h7 h0;go_wp2_with fail;go_roundw
      case rel=>exact⟨k+1,by omega,by go_num,by rw[F.out],by rw[F2.out],by rw[F3.out],hblk.out,hxx.out⟩
      case measure=>simp[intOf];omega
     obtain⟨f1,f2,f3⟩:=tup (FIN.out (r-1) (c+1) true (by simp[zFH,h7,h0]));have F:=zA f1;have F2:=zA f2;have F3:=zA f3;have h0':(r ==0)=false:=by simpa using h0
     clear f1 f2 f3 h7 h0;go_wp2_with fail;go_roundw
     case rel=>exact⟨k+1,by omega,by go_num,by rw[F.out],by rw[F2.out],by rw[F3.out],hblk.out,hxx.out⟩
     case measure=>simp[intOf];omega
   | false =>
     by_cases h7:r=7
     ·obtain⟨f1,f2,f3⟩:=tup (FIN.out r (c+1) true (by simp[zFH,h7]));have F:=zA f1;have F2:=zA f2;have F3:=zA f3;have h7':(r ==7)=true:=by simpa using h7
      clear f1 f2 f3 h7;go_wp2_with fail;go_roundw
      case rel=>exact⟨k+1,by omega,by go_num,by rw[F.out],by rw[F2.out],by rw[F3.out],hblk.out,hxx.out⟩
      case measure=>simp[intOf];omega
     have h7':(r ==7)=false:=by simpa using h7
     by_cases h0:c=0
     ·obtain⟨f1,f2,f3⟩:=tup (FIN.out (r+1) c true (by simp[zFH,h7,h0]));have F:=zA f1;have F2:=zA f2;have F3:=zA f3;have h0':(c ==0)=true:=by simpa using h0
      clear f1 f2 f3 h7 h0;go_wp2_with fail;go_roundw
      case rel=>exact⟨k+1,by omega,by go_num,by rw[F.out],by rw[F2.out],by rw[F3.out],hblk.out,hxx.out⟩
      case measure=>simp[intOf];omega
     obtain⟨f1,f2,f3⟩:=tup (FIN.out (r+1) (c-1) false (by simp[zFH,h7,h0]));have F:=zA f1;have F2:=zA f2;have F3:=zA f3;have h0':(c ==0)=false:=by simpa using h0
     clear f1 f2 f3 h7 h0;go_wp2_with fail;go_roundw
     case rel=>exact⟨k+1,by omega,by go_num,by rw[F.out],by rw[F2.out],by rw[F3.out],hblk.out,hxx.out⟩
     case measure=>simp[intOf];omega
  obtain rfl:k=64:=by omega
  have hs:Hid ((bv zigL).size=64):=zA (by rw[zK,zDd]);have ho:=zA (xR zigL);have e:zigL.take 64++List.replicate (64-64) 0=zigL:=by rw[wC2 (by rw[zDd];omega)];simp
  rw[e] at hb;clear e;generalize hcz:bv zigL=cz at *;have HCZ:=zA hcz;clear hcz
  go_wp2_with (first
   | (refine wLdB rfl 32 (.tmp 0) rfl _ rfl hb _ underlying32 rfl 64 size47 hs.out ?_)
   | (refine wStB rfl 32 (.tmp 0) (.tmp 51) rfl _ _ rfl rfl hb 64 size47 hs.out hs.out ho.out ?_;intro w7 hb7 hg7))
  exact zCS rfl rfl _ rfl hb7 _ underlying32 rfl 64 size47 hs.out ⟨by rw[HCZ.out],hx.grown hg7 hg⟩
def zKp (cs:Array Value) (i:Nat) (u:Value) (hi:i<64) (hu:cs[i]? =some u) (w:World):(Instr.index 32 (.agg cs) (.int .i64 (i:Int))).run prog w=.ok u w :=
 zCb _ _ 64 cs i u underlying32 _ underlying3 zKO hi hu w
def zigN (k:Nat) (h:k<64):∃n:Nat,vB k=(n:Int)∧n<64:=by have:=zHx k h;exact⟨(vB k).toNat,by omega,by omega⟩
def zto_any (zs:List Int) (w:World) (hz:zs.length=64):Calls prog 80 #[.agg (bv zs)] w λe w'=>e=.returned (.agg (bv (zto zs)))∧Ext w w':=by
 have HO:=zA (λW=>zOS W);have HIX:=zA (λW (k n:Nat) (hk:k<64) (hn:vB k=(n:Int))=>zKp (bv zigL) k (.int .i64 (n:Int)) hk (by rw[←hn,jQ zigL k (by rw[zDd];exact hk),zRF]) W);have HZ:=zA hz;generalize bv zigL=co at *;generalize hc0:bv zs=cz at *;have HC0:=zA hc0;clear hz hc0;go_enter func80,ntmps80
 go_wp2_with (first
  | (refine wBox rfl 33 (.tmp 0) rfl cz rfl ?_;intro w1 gz hbz1 hx1 hgz)
  | (refine wAlo' rfl (some 2) rfl 33 rfl _ jX ?_;intro w2 go hbo2 hx2 hgo;have hbz2:=hbz1.ext hx2)
  | (go_at_call 139;refine (HO.out _).mono ?_;rintro e w3 ⟨rfl,hx3⟩;have hbz:=hbz2.ext hx3;have hbo:=hbo2.ext hx3))
 have hne:go≠gz:=by have:=hbz1.lt;omega
 have hgo':w.heap.size≤go:=by have:=hx1.size;omega
 have hxx:=(hx1.trans hx2).trans hx3;clear hbz1 hbz2 hbo2 hx1 hx2 hx3
 go_loopw [6] (λi wr=>∃k:Nat,k≤64∧i=.int .i64 k∧Blk wr gz 33 cz∧Blk wr go 33 (bv ((zto zs).take k++List.replicate (64-k) 0))∧Ext w wr) (λi _=>64-(intOf i).toNat)
 case atStart=>exact⟨0,by omega,rfl,hbz,by rw[show (zto zs).take 0++List.replicate (64-0) 0=xC from rfl];exact hbo,hxx⟩
 case round =>
  obtain⟨k,hk,rfl,hb1,hb2,hx⟩:=hrel
  by_cases hlt:k<64
  ·obtain⟨n,hn,hn64⟩:=zigN k hlt;have HN:=zA hn;have hzl:n<zs.length:=by have:=HZ.out;omega
   have HD:Hid (zs.getD n 0=zs[n]):=zA (by simp[hzl]);have hlz:wr.cell? ⟨gz,n,none⟩=some (.int .i64 zs[n]):=(hb1.cell n).trans (by rw[←HC0.out];exact jQ zs n hzl)
   obtain⟨old,hold⟩:∃u,wr.cell? ⟨go,k,none⟩=some u:=by
    rw[hb2.cell k];have hl:((zto zs).take k++List.replicate (64-k) 0).length=64:=by simp[vA];omega
    exact⟨_,jQ _ k (by omega)⟩
   have hfr:=hb2.frozen k;have hix:=λW=>HIX.out W k n hlt HN.out
   clear hn;go_wp2_with fail;go_roundw
   case rel =>
    refine⟨k+1,by omega,by go_num,hb1.far (p:=⟨go,k,none⟩) (by simpa using hne.symm) _, ?_,hx.setCell hgo' _⟩;have:=hb2.set_ k (.int .i64 zs[n]);rw[zAE] at this;have e:=zto_set zs k hlt;rw[HN.out,wD7,HD.out] at e;rw[←e];exact this
   case measure=>simp[intOf];omega
  obtain rfl:k=64:=by omega
  have e:(zto zs).take 64++List.replicate (64-64) 0=zto zs:=by rw[wC2 (by rw[vA];omega)];simp
  rw[e] at hb2;clear e;have hs:Hid ((bv (zto zs)).size=64):=zA (by rw[zK,vA]);have ho:=zA (xR (zto zs));generalize hcr:bv (zto zs)=cr at *;have HC:=zA hcr;clear hcr
  go_wp2_with (first
   | (refine wLdB rfl 33 (.tmp 2) rfl _ rfl hb2 _ underlying33 rfl 64 zJ hs.out ?_)
   | (refine wStB rfl 33 (.tmp 2) (.tmp 16) rfl _ _ rfl rfl hb2 64 zJ hs.out hs.out ho.out ?_;intro w7 hb7 hg7))
  exact zCS rfl rfl _ rfl hb7 _ underlying33 rfl 64 zJ hs.out ⟨by rw[HC.out],hx.grown hg7 hgo'⟩
def zIt (zs:List Int) (w:World) (hz:zs.length=64):Calls prog 82 #[.agg (bv zs)] w λe w'=>e=.returned (.agg (bv (qX zs 64)))∧Ext w w':=by
 have HO:=zA (λW=>zOS W);have HIX:=zA (λW (k n:Nat) (hk:k<64) (hn:vB k=(n:Int))=>zKp (bv zigL) k (.int .i64 (n:Int)) hk (by rw[←hn,jQ zigL k (by rw[zDd];exact hk),zRF]) W);have HZ:=zA hz;generalize bv zigL=co at *;generalize hc0:bv zs=cz at *;have HC0:=zA hc0;clear hz hc0;go_enter func82,ntmps82
 go_wp2_with (first
  | (refine wBox rfl 33 (.tmp 0) rfl cz rfl ?_;intro w1 gz hbz1 hx1 hgz)
  | (refine wAlo' rfl (some 2) rfl 33 rfl _ jX ?_;intro w2 go hbo2 hx2 hgo;have hbz2:=hbz1.ext hx2)
  | (go_at_call 139;refine (HO.out _).mono ?_;rintro e w3 ⟨rfl,hx3⟩;have hbz:=hbz2.ext hx3;have hbo:=hbo2.ext hx3))
 have hne:go≠gz:=by have:=hbz1.lt;omega
 have hgo':w.heap.size≤go:=by have:=hx1.size;omega
 have hxx:=(hx1.trans hx2).trans hx3;clear hbz1 hbz2 hbo2 hx1 hx2 hx3
 go_loopw [6] (λi wr=>∃k:Nat,k≤64∧i=.int .i64 k∧Blk wr gz 33 cz∧Blk wr go 33 (bv (qX zs k))∧Ext w wr) (λi _=>64-(intOf i).toNat)
 case atStart=>exact⟨0,by omega,rfl,hbz,hbo,hxx⟩
 case round =>
  obtain⟨k,hk,rfl,hb1,hb2,hx⟩:=hrel
  by_cases hlt:k<64
  ·obtain⟨n,hn,hn64⟩:=zigN k hlt;have HN:=zA hn;have hzl:k<zs.length:=by have:=HZ.out;omega
   have HD:Hid (zs.getD k 0=zs[k]):=zA (by simp[hzl]);have hlz:wr.cell? ⟨gz,k,none⟩=some (.int .i64 zs[k]):=(hb1.cell k).trans (by rw[←HC0.out];exact jQ zs k hzl)
   obtain⟨old,hold⟩:∃u,wr.cell? ⟨go,n,none⟩=some u:=by
    rw[hb2.cell n];have hl:(qX zs k).length=64:=uW zs k;exact⟨_,jQ _ n (by omega)⟩
   have hfr:=hb2.frozen n;have hix:=λW=>HIX.out W k n hlt HN.out
   clear hn;go_wp2_with fail;go_roundw
   case rel =>
    refine⟨k+1,by omega,by go_num,hb1.far (p:=⟨go,n,none⟩) (by simpa using hne.symm) _, ?_,hx.setCell hgo' _⟩;have:=hb2.set_ n (.int .i64 zs[k]);rw[zAE] at this;rw[zHY,HN.out,wD7,HD.out];exact this
   case measure=>simp[intOf];omega
  obtain rfl:k=64:=by omega
  have hs:Hid ((bv (qX zs 64)).size=64):=zA (by rw[zK,uW]);have ho:=zA (xR (qX zs 64));generalize hcr:bv (qX zs 64)=cr at *;have HC:=zA hcr;clear hcr
  go_wp2_with (first
   | (refine wLdB rfl 33 (.tmp 2) rfl _ rfl hb2 _ underlying33 rfl 64 zJ hs.out ?_)
   | (refine wStB rfl 33 (.tmp 2) (.tmp 16) rfl _ _ rfl rfl hb2 64 zJ hs.out hs.out ho.out ?_;intro w7 hb7 hg7))
  exact zCS rfl rfl _ rfl hb7 _ underlying33 rfl 64 zJ hs.out ⟨by rw[HC.out],hx.grown hg7 hgo'⟩
def zIQ (before:Int) (zs:List Int) (w:World) (hz:zs.length=64) (hb1: -2047≤before) (hb2:before≤2047) (h01: -2047≤(zto zs).getD 0 0) (h02:(zto zs).getD 0 0≤2047) :
 Calls prog 191 #[.int .i64 before,.agg (bv zs)] w λe w'=>∃A c,e=.returned (.slice A (yW before (zto zs)).length c)∧SL w' 3 (.slice A (yW before (zto zs)).length c) (yW before (zto zs)).length (qW (yW before (zto zs)))∧(∀ad,A=some ad→w.heap.size≤ad.block)∧Ext w w':=by
 have HZT:=zA (λW=>zto_any zs W hz);have hZl:=vA zs;have hsz:=zA ((zK zs).trans hz);have hst:=zA ((zK _).trans hZl);have hot:=zA (xR (zto zs));generalize hZ:zto zs=Z at *;clear hZ;have h0l:0<Z.length:=by omega
 have e0:Z.getD 0 0=Z[0]:=by simp[h0l]
 rw[e0] at h01 h02;have HAT:=zA (λk (hk:k<Z.length)=>jQ Z k hk);have HF:Hid (yW before Z=if 0<(zBH (qZ 0 (Z[0]-before)) (Z.drop 1) 63).2 then (zBH (qZ 0 (Z[0]-before)) (Z.drop 1) 63).1++[(0,0,0)] else (zBH (qZ 0 (Z[0]-before)) (Z.drop 1) 63).1):=zA (by unfold yW;rw[e0]);have HT0:Hid (∀W,Calls prog 209 #[.int .i64 0,.int .i64 (Z[0]-before)] W λe w'=>e=.returned (.agg (qN (qZ 0 (Z[0]-before))).toArray)∧Ext W w'):=zA (λW=>by simpa using zQC 0 (Z[0]-before) W (by omega));simp only[zET] at HT0;generalize hcz:bv Z=cz at *;generalize bv zs=c0 at *;clear hcz hz e0;generalize ht:qZ 0 (Z[0]-before)=t0 at *;clear ht;have hll:(Z.drop 1).length=63:=by simp;omega
 have HLL:=zA hll;have HLK:Hid (∀k (h:k<(Z.drop 1).length) (h2:k+1<Z.length),(Z.drop 1)[k]=Z[k+1]):=zA (λk h h2=>by simp);generalize hl:Z.drop 1=l at *;clear hl hll;go_enter func191,ntmps191
 go_wp2_with (first
  | (refine wBox rfl 33 (.tmp 1) rfl c0 rfl ?_;intro w1 g hbb1 hx1 hg)
  | (refine wLdB rfl 33 (.tmp 3) rfl _ rfl hbb1 _ underlying33 rfl 64 zJ hsz.out ?_)
  | (go_at_call 80;(with_reducible refine (HZT.out _).mono ?_);rintro e w2 ⟨rfl,hx2⟩;have hbb2:=hbb1.ext hx2)
  | (refine wStB rfl 33 (.tmp 3) (.tmp 10) rfl _ _ rfl rfl hbb2 64 zJ hst.out hsz.out hot.out ?_;intro w3 hbb3 hg3;have hc0:w3.cell? ⟨g,0,none⟩=some (.int .i64 Z[0]):=(hbb3.cell 0).trans (HAT.out 0 h0l))
  | (go_at_call 209;(with_reducible refine (HT0.out _).mono ?_);rintro e w4 ⟨rfl,hx4⟩))
 have hown0:=zUk (w:=w4) (base:=w3.heap.size) 149 (.int .i64 t0.1) (.int .i64 t0.2.1) (.int .i64 t0.2.2) hx4.size;have hx5:=hx4.alloc (.cells #[.int .i64 t0.1,.int .i64 t0.2.1,.int .i64 t0.2.2] 149);have hbb5:=hbb3.ext hx5;have hglt:=hbb3.lt;have hxw:Ext w w3:=(hx1.trans hx2).grown hg3 hg;have HB0:Hid (w.heap.size≤w3.heap.size):=zA hxw.size;clear hbb1 hbb2 hx1 hx2 hg3 hc0 hx4 HZT HT0;generalize hw5:w4.alloc (.cells #[.int .i64 t0.1,.int .i64 t0.2.1,.int .i64 t0.2.2] 149)=w5 at *;clear hw5
 go_loopw [5,6,19] (λv r i wr=>∃k:Nat,k≤63∧i=.int .i64 k∧r=.int .i64 ((zBH t0 l k).2:Nat)∧wr.ownsRow w3.heap.size 149 3 v (zBH t0 l k).1.length (qW (zBH t0 l k).1)∧Blk wr g 33 cz∧Ext w3 wr) (λ_ _ i _=>63-(intOf i).toNat)
 case atStart=>exact⟨0,by omega,rfl,rfl,hown0,hbb5,hx5⟩
 case round =>
  clear hown0 hbb5 hx5;obtain⟨k,hk,rfl,rfl,hown,hbb,hx⟩:=hrel;obtain⟨b1,b2⟩:=accT_bd t0 l k (by have:=HLL.out;omega) (by omega)
  by_cases hlt:k<63
  ·have hkl:k<l.length:=by have:=HLL.out;omega
   have hkZ:k+1<Z.length:=by omega
   have HS:=zA (zJh t0 l k hkl)
   have hcell:wr.cell? ⟨g,1+k,none⟩=some (.int .i64 l[k]):=by
    rw[wB0 1 k];exact (hbb.cell (k+1)).trans (by rw[HAT.out (k+1) hkZ,HLK.out k hkl hkZ])
   generalize zBH t0 l k=s at *;obtain⟨acc,rn⟩:=s;simp only at b1 b2 hown ⊢
   by_cases hz0:l[k]=0
   ·rw[zHp hz0] at HS;generalize hnk:zBH t0 l (k+1)=s1 at *;have HS1:=HS.out;have hz0':(l[k] ==0)=true:=by simpa using hz0
    clear hz0 HS;go_wp2_with fail;go_roundw
    case rel =>
     refine⟨k+1,by omega,by go_num,by rw[hnk,HS1];simp,by rw[hnk,HS1];exact hown,hbb,hx⟩
    case measure=>simp[intOf];omega
   rw[zJx hz0] at HS;have hz0':(l[k] ==0)=false:=by simpa using hz0
   have HTK:=zA (λW=>zQC (rn%16) l[k] W (by omega));simp only[zET] at HTK;generalize qZ ((rn%16:Nat):Int) l[k]=tk at *;generalize hnk:zBH t0 l (k+1)=s1 at *;have HS1:=zA HS.out;have HNK:=zA hnk;clear hz0 HS hnk;go_wp2_with fail
   go_loopw [5,6] (λv r wr2=>∃j:Nat,j≤rn/16∧r=.int .i64 ((rn:Int)-16*j)∧wr2.ownsRow w3.heap.size 149 3 v (acc++List.replicate j long).length (qW (acc++List.replicate j long))∧Blk wr2 g 33 cz∧Ext w3 wr2) (λ_ r _=>(intOf r).toNat)
   case atStart=>exact⟨0,by omega,by simp,by simpa using hown,hbb,hx⟩
   case round =>
    clear hown hbb hx;obtain⟨j,hj,rfl,hown,hbb,hx⟩:=hrel;have hlen:(acc++List.replicate j long).length=acc.length+j:=by simp
    by_cases hj2:j<rn/16
    ·have hgt:(15:Int)<(rn:Int)-16*j:=by omega
     go_wp2_with (at_builtin;go_must (refine zCQ zKT rfl _ _ rfl w3.heap.size _ _ _ rfl (hown.alloc _) _ 1 [.int .i64 _,.int .i64 _,.int .i64 _] rfl (zOM _ _ _ _ _) (zKK _ _ _) (by omega) (by omega) (by have:=hx.size;simp;omega) ?_);intro v' w7 hown7 hb7)
     go_roundw
     case rel =>
      refine⟨j+1,by omega,by congr 1;omega, ?_,(hbb.alloc _).below hb7 hglt,(hx.alloc _).trans' hb7⟩;rw[List.replicate_succ', ←wI7];exact zNx hown7
     case measure=>simp[intOf];omega
    obtain rfl:j=rn/16:=by omega
    have e:(rn:Int)-16*((rn/16:Nat):Int)=((rn%16:Nat):Int):=by omega
    rw[e];clear e hj hj2;have hq:rn%16≤15:=by omega
    generalize rn%16=q at *
    go_wp2_with (first
     | (go_at_call 209;(with_reducible refine (HTK.out _).mono ?_);rintro e w6 ⟨rfl,hx6⟩)
     | (at_builtin;go_must (refine zCQ zKT rfl _ _ rfl w3.heap.size _ _ _ rfl ((own_ext hown hx6).alloc _) _ 1 [.int .i64 _,.int .i64 _,.int .i64 _] rfl (zOM _ _ _ _ _) (zKK _ _ _) (by omega) (by omega) (by have:=hx.size;have:=hx6.size;simp;omega) ?_);intro v' w7 hown7 hb7))
    go_roundw
    case rel =>
     refine⟨k+1,by omega,by go_num,by rw[HNK.out,HS1.out];rfl, ?_,((hbb.ext hx6).alloc _).below hb7 hglt,((hx.trans hx6).alloc _).trans' hb7⟩;rw[HNK.out,HS1.out];exact zNx hown7
    case measure=>simp[intOf];omega
  have ek:k=63:=by omega
  subst ek;generalize zBH t0 l 63=s at *;obtain⟨acc,rn⟩:=s;simp only at b1 b2 hown HF
  by_cases hr:0<rn
  ·rw[if_pos hr] at HF;go_wp2_with (at_builtin;go_must (refine zCQ zKT rfl _ _ rfl w3.heap.size _ _ _ rfl (hown.alloc _) _ 1 [.int .i64 _,.int .i64 _,.int .i64 _] rfl (zOM _ _ _ _ _) (zKK _ _ _) (by omega) (by omega) (by have:=hx.size;simp;omega) ?_);intro v' w7 hown7 hb7)
   go_ret;rw[HF.out];obtain⟨A,c,rfl,hsl,hfs⟩:=zCN (zNx hown7);exact⟨A,c,rfl,hsl,λad h=>wJ1 HB0.out (hfs ad h),hxw.trans ((hx.alloc _).trans' hb7)⟩
  rw[if_neg hr] at HF;go_wp2_with fail;go_ret;rw[HF.out];obtain⟨A,c,rfl,hsl,hfs⟩:=zCN hown;exact⟨A,c,rfl,hsl,λad h=>wJ1 HB0.out (hfs ad h),hxw.trans hx⟩
