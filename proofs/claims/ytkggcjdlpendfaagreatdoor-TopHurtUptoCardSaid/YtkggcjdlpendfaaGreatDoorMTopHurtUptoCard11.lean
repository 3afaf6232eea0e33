import Derived.Lib.CountLaws
import Derived.Deep.Slices
import Derived.OwnWalk
import Derived.Laws.CopyOwn
import Derived.WalkSmall
import Derived.Test.YtkggcjdlpendfaaGreatDoorMTopHurtUptoCard10
set_option linter.all false
set_option maxRecDepth 20000
set_option maxHeartbeats 8000000
namespace Go.Proofs.YtkggcjdlpendfaaGreatDoor
open Go.RowKit Tryz
def xW:List Nat→List (List Nat)→List Nat→List Nat→Option (List (List Nat)×List Nat)
 | [],P,M,c=>some (P++[c],M)
 | [x],P,M,c=>if x=255 then none else some (P++[c++[x]],M)
 | x::y::r,P,M,c=>if x=255 then (if y=255 then none else if y=0 then xW r P M (c++[255,0]) else xW r (P++[c]) (M++[y]) []) else xW (y::r) P M (c++[x])
def sp_end {bs:List Nat} {i:Nat} {P:List (List Nat)} {M c:List Nat} (h:bs.length≤i):xW (bs.drop i) P M c=some (P++[c],M):=by rw[wG3 h,xW]
def sp_plain {bs:List Nat} {i:Nat} {P:List (List Nat)} {M c:List Nat} (h:i<bs.length) (hx:bs[i]≠255):xW (bs.drop i) P M c=xW (bs.drop (i+1)) P M (c++[bs[i]]):=by
 rw[wH0 h]
 cases hd:bs.drop (i+1) with
 | nil=>simp[xW,hx]
 | cons y r=>simp[xW,hx]
def sp_two {bs:List Nat} {i:Nat} {P:List (List Nat)} {M c:List Nat} (h:i+1<bs.length) (hx:bs[i]=255) :
 xW (bs.drop i) P M c=if bs[i+1]=255 then none else if bs[i+1]=0 then xW (bs.drop (i+2)) P M (c++[255,0]) else xW (bs.drop (i+2)) (P++[c]) (M++[bs[i+1]]) []:=by rw[wH0 (by omega),wH0 h,xW,if_pos hx]
def sp_last {bs:List Nat} {i:Nat} {P:List (List Nat)} {M c:List Nat} (h:i+1=bs.length) (hx:bs[i]'(by omega)=255):xW (bs.drop i) P M c=none:=by rw[wH0 (by omega),wG3 (by omega),xW,if_pos hx]
def zJq:∀(r:List Nat) (P:List (List Nat)) (M c:List Nat) (z:List (List Nat)×List Nat),xW r P M c=some z→z.1.length≤P.length+r.length+1∧z.2.length≤M.length+r.length
 | [],P,M,c,z,h=>by simp[xW] at h;subst h;simp
 | [x],P,M,c,z,h=>by
   simp only[xW] at h;split at h
   ·cases h
   simp at h;subst h;simp
 | x::y::r,P,M,c,z,h=>by
   simp only[xW] at h;split at h
   ·split at h
    ·cases h
    split at h
    ·have:=zJq r P M (c++[255,0]) z h;simp only[wA8];omega
    have:=zJq r (P++[c]) (M++[y]) [] z h;simp only[wE2,wA8,wJ0] at this ⊢;omega
   have:=zJq (y::r) P M (c++[x]) z h;simp only[wA8] at this ⊢;omega
def Pieces (w:World) (VS:List Value) (P:List (List Nat)):Prop :=
 VS.length=P.length∧∀i (h:i<P.length),∃A c,VS[i]? =some (.slice A P[i].length c)∧SL w 1 (.slice A P[i].length c) P[i].length (zF P[i])
def Pieces.ext {w w':World} {VS:List Value} {P:List (List Nat)} (h:Pieces w VS P) (hx:Ext w w'):Pieces w' VS P :=
 ⟨h.1,λi hi=>by obtain⟨A,c,h1,h2⟩:=h.2 i hi;exact⟨A,c,h1,h2.ext hx⟩⟩
def Pieces.snoc {w:World} {VS:List Value} {P:List (List Nat)} (h:Pieces w VS P) {A:Option Addr} {n c:Nat} {l:List Nat} (hn:l.length=n) (hs:SL w 1 (.slice A n c) n (zF l)):Pieces w (VS++[.slice A n c]) (P++[l]):=by
 subst hn;refine⟨by simp[h.1],λi hi=> ?_⟩
 by_cases hlt:i<P.length
 ·obtain⟨B,d,h1,h2⟩:=h.2 i hlt;refine⟨B,d, ?_, ?_⟩
  ·rw[wH4 (by rw[h.1];exact hlt),h1,wS4 hlt]
  rw[wS4 hlt];exact h2
 have e:i=P.length:=by simp at hi;omega
 subst e;refine⟨A,c, ?_, ?_⟩
 ·rw[wH9 (by rw[h.1];exact wA5 _),h.1];simp
 simpa using hs
def b8 (s:List Nat):List UInt8:=s.map UInt8.ofNat
def zJc (s:List Nat):(b8 s).length=s.length:=by simp[b8]
def b8_drop (s:List Nat) (k:Nat):b8 (s.drop k)=(b8 s).drop k:=by simp[b8]
def ixN (s o:List Nat):Int:=Lib.index (b8 s) (b8 o)
def zBA (s o:List Nat):Nat:=Lib.count (b8 s) (b8 o)
def zBn:Nat→List Nat→List Nat→List Nat→List Nat
 | 0,s,_,_=>s
 | m+1,s,o,v=>s.take (ixN s o).toNat++(v++zBn m (s.drop ((ixN s o).toNat+o.length)) o v)
def zJy {o:List Nat} (h:o≠[]):b8 o≠[]:=by intro e;have:=congrArg List.length e;rw[zJc] at this;exact h (wI1 this)
def zHk {s o:List Nat} {m:Nat} (ho:o≠[]) (h:zBA s o=m+1):∃i:Nat,ixN s o=i∧i+o.length≤s.length∧zBA (s.drop (i+o.length)) o=m:=by
 unfold zBA at h;have hge:=Lib.index_ge (b8 s) (b8 o);have hne:Lib.index (b8 s) (b8 o)≠ -1:=λe=>by rw[Lib.count_miss e] at h;omega
 obtain⟨i,hi⟩:∃i:Nat,Lib.index (b8 s) (b8 o)=i:=⟨(Lib.index (b8 s) (b8 o)).toNat,by omega⟩
 have hr:=Lib.index_room (b8 s) (b8 o) (by omega);rw[hi,zJc,zJc] at hr;rw[Lib.count_hit (zJy ho) hi,zJc] at h;refine⟨i,hi,by omega, ?_⟩;unfold zBA;rw[b8_drop];omega
def zPs:∀(m:Nat) (s o v:List Nat),o≠[]→zBA s o=m→(zBn m s o v).length+m*o.length=s.length+m*v.length
 | 0,s,o,v,_,_=>by simp[zBn]
 | m+1,s,o,v,ho,h=>by
   obtain⟨i,h1,h2,h3⟩:=zHk ho h;have ih:=zPs m _ o v ho h3;rw[zBn,h1,wD7,wE2,wE2,wF1,wQ8 (by omega),wS5,wS5];rw[wE8] at ih;omega
def zSZ:∀(m:Nat) (s o:List Nat),o≠[]→zBA s o=m→m*o.length≤s.length
 | 0,s,o,_,_=>by simp
 | m+1,s,o,ho,h=>by
   obtain⟨i,h1,h2,h3⟩:=zHk ho h;have ih:=zSZ m _ o ho h3;rw[wE8] at ih;rw[wS5];omega
def ix_nil {o:List Nat} (ho:o≠[]):ixN [] o= -1:=by
 unfold ixN
 cases h:b8 o with
 | nil=>exact absurd h (zJy ho)
 | cons=>simp[b8,Lib.index]
def cnt_nil {o:List Nat} (ho:o≠[]):zBA [] o=0:=Lib.count_miss (ix_nil ho)
def ix_here {s o:List Nat} (hp:(b8 o).isPrefixOf (b8 s)=true):ixN s o=0:=by
 unfold ixN
 cases s with
 | nil =>
   cases hq:b8 o with
   | nil=>simp[b8,Lib.index]
   | cons=>rw[hq] at hp;simp[b8] at hp
 | cons b l =>
   rw[show b8 (b::l)=UInt8.ofNat b::b8 l from rfl] at hp ⊢;rw[Lib.index,if_pos hp]
def ix_skip {b:Nat} {l o:List Nat} (hp:(b8 o).isPrefixOf (b8 (b::l))=false):ixN (b::l) o=if ixN l o= -1 then -1 else ixN l o+1:=by unfold ixN;rw[show b8 (b::l)=UInt8.ofNat b::b8 l from rfl] at hp ⊢;rw[Lib.index,hp];simp
def cnt_here {s o:List Nat} (ho:o≠[]) (hp:(b8 o).isPrefixOf (b8 s)=true):zBA s o=1+zBA (s.drop o.length) o:=by unfold zBA;rw[Lib.count_hit (i:=0) (zJy ho) (ix_here hp),zJc,wB2,b8_drop]
def cnt_skip {b:Nat} {l o:List Nat} (ho:o≠[]) (hp:(b8 o).isPrefixOf (b8 (b::l))=false):zBA (b::l) o=zBA l o:=by
 have h:=ix_skip hp;have hge:=Lib.index_ge (b8 l) (b8 o)
 by_cases hm:ixN l o= -1
 ·rw[if_pos hm] at h;unfold zBA;rw[Lib.count_miss h,Lib.count_miss hm]
 rw[if_neg hm] at h;obtain⟨i,hi⟩:∃i:Nat,ixN l o=i:=⟨(ixN l o).toNat,by unfold ixN at *;omega⟩
 rw[hi] at h;unfold zBA;rw[Lib.count_hit (i:=i+1) (zJy ho) (by have:=h;unfold ixN at this;rw[this];rfl),Lib.count_hit (i:=i) (zJy ho) hi];rw[show b8 (b::l)=UInt8.ofNat b::b8 l from rfl,show i+1+(b8 o).length=(i+(b8 o).length)+1 by omega,wK1]
def zBp (s o v:List Nat):List Nat:=zBn (zBA s o) s o v
def zJM {o:List Nat} (ho:o≠[]) (v:List Nat):zBp [] o v=[]:=by unfold zBp;rw[cnt_nil ho,zBn]
def zNE {s o:List Nat} (ho:o≠[]) (hp:(b8 o).isPrefixOf (b8 s)=true) (v:List Nat):zBp s o v=v++zBp (s.drop o.length) o v:=by unfold zBp;rw[cnt_here ho hp,wB0,zBn,ix_here hp];simp
def zHS {b:Nat} {l o:List Nat} (ho:o≠[]) (hp:(b8 o).isPrefixOf (b8 (b::l))=false) (v:List Nat):zBp (b::l) o v=b::zBp l o v:=by
 unfold zBp;rw[cnt_skip ho hp]
 cases hc:zBA l o with
 | zero=>rfl
 | succ m =>
   obtain⟨i,h1,h2,h3⟩:=zHk ho hc;have h:=ix_skip hp;rw[h1,if_neg (by omega)] at h;rw[zBn,zBn,h,h1,show ((i:Int)+1).toNat=i+1 by omega,wD7,wH1,show i+1+o.length=(i+o.length)+1 by omega,wK1];rfl
def u8_inj {a b:Nat} (ha:a<256) (hb:b<256):(UInt8.ofNat a ==UInt8.ofNat b)=decide (a=b):=by
 rw[wC8,beq_iff_eq,decide_eq_true_iff];constructor
 ·intro h;have:=congrArg UInt8.toNat h;simp at this;omega
 rintro rfl;rfl
def pre1 {b:Nat} {l:List Nat} (y:Nat) (hy:y<256) (hb:b<256):(b8 [y]).isPrefixOf (b8 (b::l))=decide (y=b):=by simp only[b8,wG6,wG7,List.isPrefixOf,Bool.and_true];exact u8_inj hy hb
def pre2 {b c:Nat} {l:List Nat} (y z:Nat) (hy:y<256) (hz:z<256) (hb:b<256) (hc:c<256):(b8 [y,z]).isPrefixOf (b8 (b::c::l))=(decide (y=b)&&decide (z=c)):=by simp only[b8,wG6,wG7,List.isPrefixOf,Bool.and_true];rw[u8_inj hy hb,u8_inj hz hc]
def pre2_one {b:Nat} (y z:Nat):(b8 [y,z]).isPrefixOf (b8 [b])=false:=by simp[b8,List.isPrefixOf]
def count_one:∀(s:List UInt8) (c:UInt8),Lib.count s [c]=s.count c:=by
 have key:∀(n:Nat) (s:List UInt8) (c:UInt8),s.length≤n→Lib.count s [c]=s.count c:=by
  intro n
  induction n with
  | zero =>
    intro s c h;obtain rfl:s=[]:=wI1 (by omega);rfl
  | succ n ih =>
    intro s c h
    cases s with
    | nil=>rfl
    | cons b l =>
      have hl:l.length≤n:=by simpa using h
      by_cases hb:c=b
      ·have hix:Lib.index (b::l) [c]=((0:Nat):Int):=by
        rw[Lib.index,if_pos (by simp[List.isPrefixOf,hb])];rfl
       rw[Lib.count_hit (by simp) hix];rw[show (b::l).drop (0+[c].length)=l from rfl,ih l c hl,hb,List.count_cons_self];omega
      rw[List.count_cons_of_ne (λe=>hb e.symm), ←ih l c hl]
      have hix:Lib.index (b::l) [c]=if (Lib.index l [c] == -1)=true then -1 else Lib.index l [c]+1:=by
       rw[Lib.index,if_neg (by simp[List.isPrefixOf,hb])]
      have hge:=Lib.index_ge l [c]
      by_cases hm:Lib.index l [c]= -1
      ·rw[hm] at hix;rw[Lib.count_miss hix,Lib.count_miss hm]
      obtain⟨i,hi⟩:∃i:Nat,Lib.index l [c]=i:=⟨(Lib.index l [c]).toNat,by omega⟩
      rw[if_neg (by simpa using hm),hi] at hix;rw[Lib.count_hit (i:=i+1) (by simp) (by rw[hix];rfl),Lib.count_hit (i:=i) (by simp) hi];rfl
 exact λs c=>key s.length s c (wA5 _)
def yA (bs:List Nat):List Nat:=bs.flatMap λb=>if b=255 then [255,0] else [b]
def zMY:∀(bs:List Nat),(∀b∈bs,b<256)→zBp bs [255] [255,0]=yA bs
 | [],_=>by rw[zJM (by simp)];rfl
 | b::l,h=>by
   have hb:=h b (by simp);have ih:=zMY l (λx hx=>h x (by simp[hx]));have hp:=pre1 (l:=l) 255 (by omega) hb
   by_cases hq:b=255
   ·rw[zNE (by simp) (by rw[hp];simp[hq])];rw[show (b::l).drop [255].length=l from rfl,ih];simp[yA,hq]
   rw[zHS (by simp) (by rw[hp];simpa using λe=>hq e.symm),ih];simp[yA,hq]
def plZ:List Nat→Option (List Nat)
 | []=>some []
 | [b]=>if b=255 then none else some [b]
 | b::c::r=>if b=255 then (if c=0 then (plZ r).map (255:: ·) else none) else (plZ (c::r)).map (b:: ·)
def zHv:∀(bs:List Nat) (z:List Nat),(∀b∈bs,b<256)→plZ bs=some z→zBp bs [255,0] [255]=z
 | [],z,_,hz=>by
   obtain rfl:[]=z:=by simpa [plZ] using hz
   exact zJM (by simp) _
 | [b],z,h,hz=>by
   rw[plZ] at hz;split at hz
   ·cases hz
   injection hz with hz
   rw[zHS (by simp) (pre2_one _ _),zJM (by simp),hz]
 | b::c::r,z,h,hz=>by
   have hb:=h b (by simp);have hc:=h c (by simp);have hp:=pre2 (l:=r) 255 0 (by omega) (by omega) hb hc;rw[plZ] at hz
   by_cases hq:b=255
   ·rw[if_pos hq] at hz
    by_cases h0:c=0
    ·rw[if_pos h0] at hz;rw[zNE (by simp) (by rw[hp];simp[hq,h0])]
     cases hr:plZ r with
     | none=>rw[hr] at hz;cases hz
     | some q =>
       rw[hr] at hz;injection hz with hz
       rw[show (b::c::r).drop [255,0].length=r from rfl,zHv r q (λx hx=>h x (by simp[hx])) hr, ←hz];rfl
    rw[if_neg h0] at hz;cases hz
   rw[if_neg hq] at hz;rw[zHS (by simp) (by rw[hp,wS3 (λe:255=b=>hq e.symm)];rfl)]
   cases hr:plZ (c::r) with
   | none=>rw[hr] at hz;cases hz
   | some q =>
     rw[hr] at hz;injection hz with hz
     rw[zHv (c::r) q (λx hx=>h x (by simp[hx])) hr, ←hz]
def zNb:∀(bs:List Nat) (P:List (List Nat)) (M c:List Nat),(M≠[]∨plZ bs=none→∀z,xW bs P M c=some z→z.2≠[])∧(M=[]→∀q,plZ bs=some q→∃z,xW bs P M c=some (z,[]))
 | [],P,M,c=>by
   rw[xW,plZ];refine⟨λh z hz=> ?_,λh q _=>⟨_,by rw[h]⟩⟩;injection hz with hz
   subst hz;rcases h with h | h
   ·exact h
   cases h
 | [x],P,M,c=>by
   rw[xW,plZ]
   by_cases hx:x=255
   ·rw[if_pos hx,if_pos hx];exact⟨λ_ z hz=>(by cases hz),λ_ q hq=>(by cases hq)⟩
   rw[if_neg hx,if_neg hx];refine⟨λh z hz=> ?_,λh q _=>⟨_,by rw[h]⟩⟩;injection hz with hz
   subst hz;rcases h with h | h
   ·exact h
   cases h
 | x::y::r,P,M,c=>by
   rw[plZ,xW]
   by_cases hx:x=255
   ·rw[if_pos hx,if_pos hx]
    by_cases h1:y=255
    ·rw[if_pos h1,if_neg (by omega)];exact⟨λ_ z hz=>(by cases hz),λ_ q hq=>(by cases hq)⟩
    rw[if_neg h1]
    by_cases h0:y=0
    ·rw[if_pos h0,if_pos h0];have ih:=zNb r P M (c++[255,0]);refine⟨λh z hz=>ih.1 (h.imp_right λh=> ?_) z hz,λh q hq=> ?_⟩
     ·cases hr:plZ r with
      | none=>rfl
      | some q=>rw[hr] at h;cases h
     cases hr:plZ r with
     | none=>rw[hr] at hq;cases hq
     | some q'=>exact ih.2 h q' hr
    rw[if_neg h0,if_neg h0];exact⟨λ_ z hz=>(zNb r (P++[c]) (M++[y]) []).1 (.inl (by simp)) z hz,λ_ q hq=>(by cases hq)⟩
   rw[if_neg hx,if_neg hx];have ih:=zNb (y::r) P M (c++[x]);refine⟨λh z hz=>ih.1 (h.imp_right λh=> ?_) z hz,λh q hq=> ?_⟩
   ·cases hr:plZ (y::r) with
    | none=>rfl
    | some q=>rw[hr] at h;cases h
   cases hr:plZ (y::r) with
   | none=>rw[hr] at hq;cases hq
   | some q'=>exact ih.2 h q' hr
def zQf {bs:List Nat} (h:∀b∈bs,b<256):∀b∈yA bs,b<256:=by
 intro b hb;unfold yA at hb;obtain⟨x,hx,hb⟩:=wS6.1 hb;have:=h x hx;split at hb
 ·simp at hb;omega
 simp at hb;omega
def zEr:∀(bs:List Nat),(yA bs).length≤2*bs.length
 | []=>by simp[yA]
 | b::l=>by
   have:=zEr l;unfold yA at *;rw[wG2,wE2,wA8];split
   ·rw[show [255,0].length=2 from rfl];omega
   rw[List.length_singleton];omega
def SL.sub {w:World} {A:Option Addr} {n c l h:Nat} {xs:List Value} (hs:SL w 1 (.slice A n c) n xs) (hl:l≤h) (hh:h≤n) :
 SL w 1 (.slice (if c=l then A else A.map (·.add l)) (h-l) (c-l)) (h-l) ((xs.drop l).take (h-l)):=by
 obtain⟨A',c',e,h1,h2,h3,h4⟩:=hs;injection e with e1 e2 e3
 subst e1 e3;refine⟨_,_,rfl,by omega,by omega,by simp;omega,λh0=> ?_⟩;obtain⟨ad,rfl,hb,hc⟩:=h4 (by omega);rw[if_neg (by omega)];refine⟨ad.add l,rfl,by rw[yH];exact hb,λj u hu=> ?_⟩;rw[zHz];refine hc _ _ ?_;have hj:j<h-l:=by have:=(wB7.1 hu).1;simp at this;omega
 rwa [wB8 hj,wB4] at hu
def zUc (A:Option Addr) (n c l h:Nat) (hl:l≤h) (hh:h≤n) (hc:n≤c) (w:World) :
 (Instr.slice 45 (.slice A n c) (some (.int .i64 (l:Int))) (some (.int .i64 (h:Int))) none).run prog w=.ok (.slice (if c=l then A else A.map (·.add l)) (h-l) (c-l)) w:=by
 have e1:((l:Int)≤(h:Int)):=by omega
 have e2:((h:Int)≤(c:Int)):=by omega
 have e3:l≤c:=by omega
 go_simp
def zUP (A:Option Addr) (n c l:Nat) (hh:l≤n) (hc:n≤c) (w:World) :
 (Instr.slice 45 (.slice A n c) (some (.int .i64 (l:Int))) none none).run prog w=.ok (.slice (if c=l then A else A.map (·.add l)) (n-l) (c-l)) w:=by
 have e1:((l:Int)≤(n:Int)):=by omega
 have e2:((n:Int)≤(c:Int)):=by omega
 have e3:l≤c:=by omega
 go_simp
section
variable {o:Oper} {a:Act}
def zOm {x lo hi:Operand} (ho:o.op=.slice 45 x (some lo) (some hi) none) {A:Option Addr} {n c l h:Nat} (hx:a.eval x=.slice A n c) (h1:a.eval lo=.int .i64 (l:Int)) (h2:a.eval hi=.int .i64 (h:Int)) (hl:l≤h) (hh:h≤n) (hc:n≤c) (w:World) :
 (execOp a.eval o).run prog w=.ok (.value (.slice (if c=l then A else A.map (·.add l)) (h-l) (c-l))) w:=by simp[execOp,ho,hx,h1,h2,Instr.sliceAt,Sem.run_bind,run_underlying underlying45,zUc A n c l h hl hh hc w]
def zOY {x lo:Operand} (ho:o.op=.slice 45 x (some lo) none none) {A:Option Addr} {n c l:Nat} (hx:a.eval x=.slice A n c) (h1:a.eval lo=.int .i64 (l:Int)) (hh:l≤n) (hc:n≤c) (w:World) :
 (execOp a.eval o).run prog w=.ok (.value (.slice (if c=l then A else A.map (·.add l)) (n-l) (c-l))) w:=by simp[execOp,ho,hx,h1,Instr.sliceAt,Sem.run_bind,run_underlying underlying45,zUP A n c l hh hc w]
end
def RdS (w:World) (gr:Nat) (A:Option Addr) (n c p:Nat) (bs:List Nat):Prop :=
 Blk w gr 246 #[.slice A n c,.int .i64 (p:Int)]∧SL w 1 (.slice A n c) n (zF bs)∧bs.length=n∧(0<n→∀ad,A=some ad→ad.block<gr)∧(∀b∈bs,b<256)∧n≤100000000000∧p≤8*n
def RdS.cells {w:World} {gr:Nat} {A:Option Addr} {n c p:Nat} {bs:List Nat} (h:RdS w gr A n c p bs):w.cell? ⟨gr,0,none⟩=some (.slice A n c)∧w.cell? ⟨gr,1,none⟩=some (.int .i64 (p:Int)):=by have h0:=h.1.cell 0;have h1:=h.1.cell 1;exact⟨h0,h1⟩
def RdS.ext {w w':World} {gr:Nat} {A:Option Addr} {n c p:Nat} {bs:List Nat} (h:RdS w gr A n c p bs) (hx:Ext w w'):RdS w' gr A n c p bs :=
 ⟨h.1.ext hx,h.2.1.ext hx,h.2.2⟩
def RdS.upd {S:Nat→Prop} {w w':World} {gr:Nat} {A:Option Addr} {n c p:Nat} {bs:List Nat} (h:RdS w gr A n c p bs) (hu:Upd S w w') (hS:∀x,S x→gr<x):RdS w' gr A n c p bs :=
 ⟨hu.blk h.1 (λe=>by have:=hS _ e;omega),h.2.1.upd0 hu (λh0 ad e e2=>by have:=hS _ e2;have:=h.2.2.2.1 h0 ad e;omega),h.2.2⟩
def RdS.drew {w:World} {gr:Nat} {A:Option Addr} {n c p:Nat} {bs:List Nat} (h:RdS w gr A n c p bs):RdS w.drew gr A n c p bs:=h
def zLU (gr:Nat) (A:Option Addr) (n c p:Nat) (bs:List Nat) (w:World) (h:RdS w gr A n c p bs) :
 Calls prog 163 #[.pointer (some ⟨gr,0,none⟩)] w λe w'=>e=.returned (.int .i64 ((8*n-p:Nat):Int))∧Ext w w':=by
 have hn:n≤100000000000:=h.2.2.2.2.2.1;have hp:p≤8*n:=h.2.2.2.2.2.2;have HC0:∀W,Ext w.drew W→W.cell? ⟨gr,0,none⟩=some (.slice A n c):=λW hx=>(h.drew.ext hx).cells.1
 have HC1:∀W,Ext w.drew W→W.cell? ⟨gr,1,none⟩=some (.int .i64 (p:Int)):=λW hx=>(h.drew.ext hx).cells.2
 go_enter func163,ntmps163;go_wp2_with fail;refine xU qM (by kernel_rfl) (by kernel_rfl) ?_;refine zE (by rfl) (.pointer (some ⟨gr,0,none⟩)) (zD rfl rfl) ?_;simp only[sP,sB,sC];refine zE (by rfl) (.pointer (some ⟨gr,0,none⟩)) (zJA rfl rfl) ?_;simp only[sP,sB,sC];refine zE (by rfl) (.pointer (some ⟨gr,0,none⟩)) (λW=>by go_simp) ?_;simp only[sP,sB,sC];refine xA (by rfl) (.slice A n c) (λW hW=>zAT rfl rfl (HC0 W hW)) ?_;simp only[sP,sB,sC];refine zE (by rfl) (.int .i64 ((n:Nat):Int)) (λW=>by go_simp) ?_;simp only[sP,sB,sC];refine zE (by rfl) (.int .i64 ((8*n:Nat):Int)) (zCc (i:=8) (d:=n) rfl rfl rfl (by omega)) ?_;simp only[sP,sB,sC];refine zE (by rfl) (.pointer (some ⟨gr,0,none⟩)) (zD rfl rfl) ?_;simp only[sP,sB,sC];refine zE (by rfl) (.pointer (some ⟨gr,0,none⟩)) (zJA rfl rfl) ?_;simp only[sP,sB,sC];refine zE (by rfl) (.pointer (some ⟨gr,1,none⟩)) (λW=>by go_simp) ?_;simp only[sP,sB,sC];refine xA (by rfl) (.int .i64 ((p:Nat):Int)) (λW hW=>zS rfl rfl (HC1 W hW)) ?_;simp only[sP,sB,sC];refine zE (by rfl) (.int .i64 (((8*n)-p:Nat):Int)) (xP (i:=8*n) (d:=p) rfl rfl rfl (by omega) (by omega)) ?_;simp only[sP,sB,sC];refine zE (by rfl) (.int .i64 (((8*n)-p:Nat):Int)) (zW rfl rfl) ?_;simp only[sP,sB,sC];refine jU ?_;intro w9 hx9;go_wp2_with fail;go_ret;exact⟨rfl,(Ext.refl w).drew.trans hx9⟩
def zGI {bs:List Nat} {k:Nat} {u:Value} (h:(zF bs)[k]? =some u):∃hk:k<bs.length,u=.int .u8 ((bs[k]:Nat):Int):=by unfold zF at h;rw[wB9] at h;obtain⟨z,hz,rfl⟩:=wC0.1 h;obtain⟨hk,rfl⟩:=wB7.1 hz;exact⟨hk,rfl⟩
def get_no (gr:Nat) (A:Option Addr) (n c p:Nat) (bs:List Nat) (xB:Nat) (w:World) (h:RdS w gr A n c p bs) (hw:8*n<p+xB) (hw2:xB≤1000) :
 Calls prog 164 #[.pointer (some ⟨gr,0,none⟩),.int .i64 (xB:Int)] w λe w'=>e=.returned (.tuple #[.int .i64 0,.bool false])∧Ext w w':=by
 have hn:n≤100000000000:=h.2.2.2.2.2.1;have hp:p≤8*n:=h.2.2.2.2.2.2;have HL:=zA (λW h=>zLU gr A n c p bs W h);generalize hl:8*n-p=l at *;have hlw:l<xB:=by omega
 go_enter func164,ntmps164;go_wp2_with (go_at_call 163;(with_reducible refine (HL.out _ h).mono ?_);rintro e w2 ⟨rfl,hx2⟩)
 go_ret2;exact⟨rfl,hx2⟩
def zKa (gr:Nat) (A:Option Addr) (n c p:Nat) (bs:List Nat) (xB:Nat) (w:World) (h:RdS w gr A n c p bs) (hw:p+xB≤8*n) (hw2:xB≤24) :
 Calls prog 164 #[.pointer (some ⟨gr,0,none⟩),.int .i64 (xB:Int)] w λe w' =>
  e=.returned (.tuple #[.int .i64 ((yK (((zN bs).drop p).take xB):Nat):Int),.bool true])∧RdS w' gr A n c (p+xB) bs∧Upd (λx=>x=gr) w w':=by
 have hn:n≤100000000000:=h.2.2.2.2.2.1;have hp:p≤8*n:=h.2.2.2.2.2.2;have hbl:=h.2.2.1;have HB:=zA h.2.2.2.2.1;have hne:=h.2.2.2.1;have HD:=zA (zFS bs);have HL:=zA (λW h=>zLU gr A n c p bs W h);have HNX:=zA (λi h1 h2=>numB_next bs p i h1 h2);have HLT:=zA (λi (h1:i≤24)=>zEG ((zN bs).drop p) i 24 h1);generalize hl:8*n-p=l at *;have hlw:¬l<xB:=by omega
 go_enter func164,ntmps164;go_wp2_with (go_at_call 163;(with_reducible refine (HL.out _ h).mono ?_);rintro e w2 ⟨rfl,hx2⟩)
 have h2:=h.ext hx2
 go_loopw [6,12] (λv i wr=>∃k:Nat,k≤xB∧i=.int .i64 (k:Int)∧v=.int .i64 ((yK (((zN bs).drop p).take k):Nat):Int)∧RdS wr gr A n c (p+k) bs∧Upd (λx=>x=gr) w wr) (λ_ i _=>xB-(intOf i).toNat)
 case atStart=>exact⟨0,by omega,rfl,by simp[yK],h2,Upd.of_ext hx2⟩
 case round =>
  obtain⟨k,hk,rfl,rfl,hr,hu⟩:=hrel
  by_cases hlt:k<xB
  ·obtain⟨q,hq⟩:∃q,q=p+k:=⟨_,rfl⟩
   rw[←hq] at hr;have hq8:q/8<n:=by omega
   have hqm:q%8<8:=by omega
   obtain⟨ad,u,rfl,hab,hxk,hcell⟩:=hr.2.1.at1 hq8;obtain⟨hkl,rfl⟩:=zGI hxk;have HN2:=zA (HNX.out k (by have:=HD.out;omega) (by rw[←hq];exact hkl));have hx:bs[q/8]<256:=HB.out _ (wC7 hkl);have hm0:=HLT.out k (by omega);have HEQ:Hid (bs[(p+k)/8]'(by rw[←hq];exact hkl)=bs[q/8]):=zA (by congr 2;omega);rw[HEQ.out, ←hq] at HN2;clear HEQ;generalize bs[q/8]=x at *;obtain⟨s,hs⟩:∃s,s=7-q%8:=⟨_,rfl⟩
   have HS:Hid (7-q%8=s):=zA hs.symm;have s8:s<8:=by omega
   rw[HS.out] at HN2;have hy:x/2 ^ s<256:=by have:=Nat.div_le_self x (2 ^ s);omega
   have hb:x/2 ^ s%2<256:=by omega
   have hb2:x/2 ^ s%2<2:=by omega
   generalize hmm:yK (((zN bs).drop p).take k)=m at *;have hm:m<1099511627776:=by omega
   clear hmm hxk hs;have HC0:∀W,Ext wr.drew W→W.cell? ⟨gr,0,none⟩=some (.slice (some ad) n c):=λW hx=>(hr.drew.ext hx).cells.1
   have HC1:∀W,Ext wr.drew W→W.cell? ⟨gr,1,none⟩=some (.int .i64 (q:Int)):=λW hx=>(hr.drew.ext hx).cells.2
   have HCX:∀W,Ext wr.drew W→W.cell? (ad.add (q/8*1))=some (.int .u8 ((x:Nat):Int)):=λW hxx=>by
    rw[wD8];exact (hxx.cell (by rw[yH];exact hab)).trans hcell
   clear hcell;go_wp2_with fail;refine xU qM (by kernel_rfl) (by kernel_rfl) ?_;refine zE (by rfl) (.int .i64 ((m:Nat):Int)) (zD rfl rfl) ?_;simp only[sP,sB,sC];refine zE (by rfl) (.int .i64 ((2*m:Nat):Int)) (zBz (k:=.i64) (m:=(m:Int)) (k':=.u64) (n:=1) rfl rfl rfl (zLE m hm)) ?_;simp only[sP,sB,sC];refine zE (by rfl) (.pointer (some ⟨gr,0,none⟩)) (zD rfl rfl) ?_;simp only[sP,sB,sC];refine zE (by rfl) (.pointer (some ⟨gr,0,none⟩)) (zJA rfl rfl) ?_;simp only[sP,sB,sC];refine zE (by rfl) (.pointer (some ⟨gr,0,none⟩)) (λW=>by go_simp) ?_;simp only[sP,sB,sC];refine xA (by rfl) (.slice (some ad) n c) (λW hW=>zAT rfl rfl (HC0 W hW)) ?_;simp only[sP,sB,sC];refine zE (by rfl) (.pointer (some ⟨gr,0,none⟩)) (zD rfl rfl) ?_;simp only[sP,sB,sC];refine zE (by rfl) (.pointer (some ⟨gr,0,none⟩)) (zJA rfl rfl) ?_;simp only[sP,sB,sC];refine zE (by rfl) (.pointer (some ⟨gr,1,none⟩)) (λW=>by go_simp) ?_;simp only[sP,sB,sC];refine xA (by rfl) (.int .i64 ((q:Nat):Int)) (λW hW=>zS rfl rfl (HC1 W hW)) ?_;simp only[sP,sB,sC];refine zE (by rfl) (.int .i64 ((q/8:Nat):Int)) (zDf (i:=q) (d:=8) rfl rfl rfl (by omega) (by omega)) ?_;simp only[sP,sB,sC];refine zE (by rfl) (.pointer (some (ad.add ((q/8)*1)))) (qP underlying45 zKc rfl rfl rfl hq8) ?_;simp only[sP,sB,sC];refine xA (by rfl) (.int .u8 ((x:Nat):Int)) (λW hW=>zLT rfl rfl (HCX W hW)) ?_;simp only[sP,sB,sC];refine zE (by rfl) (.pointer (some ⟨gr,0,none⟩)) (zD rfl rfl) ?_;simp only[sP,sB,sC];refine zE (by rfl) (.pointer (some ⟨gr,0,none⟩)) (zJA rfl rfl) ?_;simp only[sP,sB,sC];refine zE (by rfl) (.pointer (some ⟨gr,1,none⟩)) (λW=>by go_simp) ?_;simp only[sP,sB,sC];refine xA (by rfl) (.int .i64 ((q:Nat):Int)) (λW hW=>zS rfl rfl (HC1 W hW)) ?_;simp only[sP,sB,sC];refine zE (by rfl) (.int .i64 ((q%8:Nat):Int)) (zNv (i:=q) (d:=8) rfl rfl rfl (by omega) (by omega)) ?_;simp only[sP,sB,sC];refine zE (by rfl) (.int .i64 ((s:Nat):Int)) (by rw[←HS.out];exact xP (i:=7) (d:=q%8) rfl rfl rfl (by omega) (by omega)) ?_;simp only[sP,sB,sC];refine zE (by rfl) (.int .u8 ((x/2 ^ s:Nat):Int)) (zBz (k:=.u8) (m:=(x:Int)) (k':=.i64) (n:=(s:Int)) rfl rfl rfl (run_shr8 x s hx s8)) ?_;simp only[sP,sB,sC];refine zE (by rfl) (.int .u8 ((x/2 ^ s%2:Nat):Int)) (zBz (k:=.u8) (m:=((x/2 ^ s:Nat):Int)) (k':=.u8) (n:=1) rfl rfl rfl (run_and8 (x/2 ^ s) hy)) ?_;simp only[sP,sB,sC];refine zE (by rfl) (.int .i64 ((x/2 ^ s%2:Nat):Int)) (zNp rfl rfl (zIz (x/2 ^ s%2) hb)) ?_;simp only[sP,sB,sC];refine zE (by rfl) (.int .i64 ((2*m+x/2 ^ s%2:Nat):Int)) (zBz (k:=.i64) (m:=((2*m:Nat):Int)) (k':=.i64) (n:=((x/2 ^ s%2:Nat):Int)) rfl rfl rfl (run_or2 m (x/2 ^ s%2) hm hb2)) ?_;simp only[sP,sB,sC];refine zE (by rfl) (.int .i64 ((2*m+x/2 ^ s%2:Nat):Int)) (zW rfl rfl) ?_;simp only[sP,sB,sC];refine jU ?_;intro w9 hx9;have hr9:=hr.drew.ext hx9;have hc1:=hr9.cells.2;have hf1:=hr9.1.frozen 1;have hb9:=hr9.1.set_ 1 (.int .i64 ((q:Int)+1));simp at hb9;have hu9:=(hu.trans (Upd.of_ext (S:=λx=>x=gr) ((Ext.refl wr).drew.trans hx9)) (λx hx=>.inl hx)).setCell (p:=⟨gr,1,none⟩) rfl (.int .i64 ((q:Int)+1));have hs9:=hr9.2.1.upd (S:=λx=>x=gr) ((Upd.refl (λx=>x=gr) w9).setCell (p:=⟨gr,1,none⟩) rfl (.int .i64 ((q:Int)+1))) (λad h e=>by have:=hr9.2.2.2.1 (by omega) ad h;omega);have hrest:=hr9.2.2;have HQ:=zA hq;have hq9:q+1≤8*n:=by omega
   have hqq:q+1=p+(k+1):=by omega
   generalize hm2:2*m+x/2 ^ s%2=m2 at *;clear hq hm2;go_wp2_with fail;go_roundw
   case rel =>
    refine⟨k+1,by omega,by go_num,by rw[HN2.out], ?_,hu9⟩;rw[←hqq];exact⟨by exact_mod_cast hb9,hs9,hrest.1,hrest.2.1,hrest.2.2.1,hrest.2.2.2.1,hq9⟩
   case measure=>simp[intOf];omega
  have e1:k=xB:=by omega
  rw[e1] at hr ⊢;clear e1 hk hlt;go_wp2_with fail;go_ret2;exact⟨rfl,hr,hu⟩
def zQJ (A:Option Addr) (n c:Nat) (bs:List Nat) (w:World) (h:SL w 1 (.slice A n c) n (zF bs)) (hl:bs.length=n) (hb:∀b∈bs,b<256) (hn:n≤100000000000) :
 Calls prog 161 #[.slice A n c] w λe w'=>∃gr,e=.returned (.pointer (some ⟨gr,0,none⟩))∧RdS w' gr A n c 0 bs∧Ext w w'∧w.heap.size=gr∧gr<w'.heap.size:=by
 go_enter func161,ntmps161;go_wp2_with fail;go_ret;refine⟨_,rfl,⟨Blk.new _ _ _,h.ext ((Ext.refl w).alloc _),hl,λh0 ad e=> ?_,hb,hn,by omega⟩,(Ext.refl w).alloc _,by omega,by simp⟩;obtain⟨A',c',e1,-,-,-,h4⟩:=h;injection e1 with e1 e2 e3
 obtain⟨ad',e4,h5,-⟩:=h4 h0;rw[e,e4] at e1;injection e1 with e1
 rw[e1];exact h5
def run_shl1 (a:Nat) (h:a≤24) (W:World):(binOp .shl 3 (.int .i64 1) (.int .i64 (a:Int))).run prog W=.ok (.int .i64 (2 ^ a)) W:=by
 have h1:(2:Int) ^ a≤2 ^ 24:=by have:=wF3 (n:=2) (by omega) h;exact_mod_cast this
 have h2:(0:Int)≤2 ^ a:=by exact_mod_cast wJ4 (2 ^ a)
 have h3:(2:Int) ^ 24=16777216:=by decide
 rw[h3] at h1;have e:IntKind.i64.wrap (2 ^ a)=2 ^ a:=IntWalk.i64_in _ (by omega);have e2:¬((a:Int)<0):=by omega
 simp[binOp,e,e2]
def zGB:Elt prog 22 3 1 8:=⟨underlying22,by kernel_rfl,by omega⟩
def zMG (bs:List Nat) (i k:Nat):zF ((bs.drop i).take k)=((zF bs).drop i).take k:=by simp[zF]
def zKg:Elt prog 71 45 1 24:=⟨underlying71,by kernel_rfl,by omega⟩
def zGA:(prog.info? 45).map (·.size)=some 1:=by kernel_rfl
def zeroBs:((prog.info? 45).bind (·.zero)).isSome=true:=by kernel_rfl
def zeroI:((prog.info? 3).bind (·.zero)).isSome=true:=by kernel_rfl
def SpIs (z:Option (List (List Nat)×List Nat)) (w:World) (e:Ending) (w':World):Prop :=
 match z with
 | none=>e=.returned (.tuple #[.slice none 0 0,.slice none 0 0,.int .i64 4])∧Ext w w'
 | some (P,M)=>∃A c B d VS,e=.returned (.tuple #[.slice A P.length c,.slice B M.length d,.int .i64 0])∧SL w' 1 (.slice A P.length c) P.length VS∧Pieces w' VS P∧SL w' 1 (.slice B M.length d) M.length (ints (M.map Int.ofNat))∧Ext w w'
def zBd:Elt prog 45 5 1 1:=⟨underlying45,by kernel_rfl,by omega⟩
section
def zAz (a b:List Nat):zF (a++b)=zF a++zF b:=by simp[zF]
def zHF (l:List Nat):∀u∈zF l,u.oneCell'=true:=by intro u hu;obtain⟨z,-,rfl⟩:=wD2.1 hu;rfl
def own_none {w:World} {base:Nat} {e:TypeId} {size n d:Nat} {B:Option Addr} {xs:List Value} (h:w.ownsRow base e size (.slice B n d) n xs):B=none→d=0:=by
 rintro rfl;obtain⟨-,hh⟩:=h;rcases hh with ⟨e1,-⟩ | ⟨g,cap,cur,e1,-⟩
 ·injection e1
 injection e1 with e2
 cases e2
def zEF (s:List Nat):Lib.bytesOf (s.map Int.ofNat)=b8 s:=by unfold Lib.bytesOf b8;rw[wF6];rfl
def zGf {s:List Nat} (h:∀b∈s,b<256):∀x∈s.map Int.ofNat,0≤x∧x<256:=by intro x hx;obtain⟨b,hb,rfl⟩:=wD2.1 hx;have:=h b hb;simp only[Int.ofNat_eq_natCast];omega
def zIk {w:World} {ad:Addr} {n c:Nat} {s:List Nat} (h:SL w 1 (.slice (some ad) n c) n (zF s)):∀i,i<n→w.cell? (ad.add i)=some (.int .u8 ((s.map Int.ofNat).getD i 0)):=by
 intro i hi;obtain⟨A',c',e,h1,h2,h3,h4⟩:=h;injection e with e1 e2 e3
 subst e1;obtain⟨ad',e4,hb,hc⟩:=h4 (by omega);injection e4 with e4
 subst e4;have hl:i<s.length:=by rw[vZ] at h3;omega
 refine hc i _ ?_;simp[zF,hl,wH7]
def zHN {w:World} {A:Option Addr} {n c:Nat} {s:List Nat} (h:SL w 1 (.slice A n c) n (zF s)):s.length=n∧n≤c:=by
 obtain⟨A',c',e,h1,h2,h3,h4⟩:=h;injection e with e1 e2 e3
 rw[vZ] at h3;omega
def zOP {w:World} {g:Nat} {t:TypeId} {s:List Nat} (h:Blk w g t (zF s).toArray):∀i,i<s.length→w.cell? ((⟨g,0,none⟩:Addr).add i)=some (.int .u8 ((s.map Int.ofNat).getD i 0)):=by intro i hi;rw[zBe];simp only[wB2];rw[h.cell i];simp[zF,hi,wH7]
def zOn (w:World) (q:Nat):Ext w (w.drewN q):=zLD (Ext.refl w) q
def index_any (A:Option Addr) (n c k g:Nat) (s o:List Nat) (t:TypeId) (m0:Int) (w:World) (hs:SL w 1 (.slice A n c) n (zF s)) (h0:0<n) (hls:∀b∈s,b<256) (hlo:∀b∈o,b<256) (hok:o.length=k) (hk:k≤100)
 (hn:n≤4000000000) (ho:Blk w g t (zF o).toArray) (hm:w.cell? ⟨0,0,none⟩=some (.int .i64 m0)) :
 Calls prog 178 #[.slice A n c,.slice (some ⟨g,0,none⟩) k k] w λe w'=>e=.returned (.int .i64 (ixN s o))∧Ext w w':=by
 obtain⟨hl,hc⟩:=zHN hs;have hs':=hs;obtain⟨A',c',e,-,-,-,h4⟩:=hs';injection e with e1 e2 e3
 subst e1;obtain⟨ad,rfl,-,-⟩:=h4 h0;have H:=Tryz.bytes_Index_at ad ⟨g,0,none⟩ n c k k (s.map Int.ofNat) (o.map Int.ofNat) m0 w (by simpa using hl) (by simpa using hok) (zGf hls) (zGf hlo) (zIk hs) (λi hi=>zOP ho i (by omega)) hc (by omega) (by omega) hm;refine H.mono ?_;rintro e w' ⟨rfl,q,rfl⟩;rw[zEF,zEF];exact⟨rfl,zOn w q⟩
def count_any (A:Option Addr) (n c k g:Nat) (s o:List Nat) (t:TypeId) (m0:Int) (w:World) (hs:SL w 1 (.slice A n c) n (zF s)) (hA:A=none→c=0) (hls:∀b∈s,b<256) (hlo:∀b∈o,b<256) (hok:o.length=k) (hk1:1≤k) (hk:k≤100)
 (hn:n≤4000000000) (ho:Blk w g t (zF o).toArray) (hm:w.cell? ⟨0,0,none⟩=some (.int .i64 m0)) :
 Calls prog 177 #[.slice A n c,.slice (some ⟨g,0,none⟩) k k] w λe w'=>e=.returned (.int .i64 (zBA s o:Int))∧Ext w w':=by
 obtain⟨hl,hc⟩:=zHN hs;have hone:o≠[]:=by intro e;rw[e] at hok;simp at hok;omega
 cases A with
 | none =>
   obtain rfl:=hA rfl;obtain rfl:n=0:=by omega
   obtain rfl:s=[]:=wI1 hl;rw[cnt_nil hone]
   by_cases h1:k=1
   ·subst h1;obtain⟨y,rfl⟩:∃y,o=[y]:=by match o,hok with | [y],_=>exact⟨y,rfl⟩
    refine (Tryz.bytes_Count_one_nil g 0 1 (y:Int) w (by rw[ho.cell 0];rfl)).mono ?_;rintro e w' ⟨rfl,rfl⟩;exact⟨rfl,Ext.refl _⟩
   refine (Tryz.bytes_Count_nil (some ⟨g,0,none⟩) k k w (by omega) (by omega)).mono ?_;rintro e w' ⟨rfl,rfl⟩;exact⟨rfl,Ext.refl _⟩
 | some ad =>
   by_cases h1:k=1
   ·subst h1;obtain⟨y,rfl⟩:∃y,o=[y]:=by match o,hok with | [y],_=>exact⟨y,rfl⟩
    refine (Tryz.bytes_Count_one_at ad n c g 0 1 (s.map Int.ofNat) (y:Int) w (by simpa using hl) (zIk hs) (by rw[ho.cell 0];rfl)).mono ?_;rintro e w' ⟨rfl,rfl⟩;refine⟨?_,Ext.refl _⟩;rw[zEF];unfold zBA Lib.countByte;rw[show b8 [y]=[UInt8.ofNat y] from rfl,count_one,wD7]
   have H:=Tryz.bytes_Count_at ad ⟨g,0,none⟩ n c k k (s.map Int.ofNat) (o.map Int.ofNat) m0 w (by simpa using hl) (by simpa using hok) (zGf hls) (zGf hlo) (zIk hs) (λi hi=>zOP ho i (by omega)) hc (by omega) (by omega) (by omega) hm;refine H.mono ?_;rintro e w' ⟨rfl,q,rfl⟩;rw[zEF,zEF];exact⟨rfl,zOn w q⟩
def infoBy8:∃i,prog.info? 5=some i∧i.zero=some (.int .u8 0)∧i.size=1∧i.bytes=1:=by
 have h1:(prog.info? 5).map (λi=>(i.zero,i.size,i.bytes))=some (some (.int .u8 0),1,1):=by kernel_rfl
 cases hq:prog.info? 5 with
 | none=>rw[hq] at h1;cases h1
 | some i =>
   rw[hq] at h1;simp at h1;exact⟨i,rfl,h1.1,h1.2.1,h1.2.2⟩
def madeU8 (m:Nat):madeCells (Value.int .u8 0).cells m=(zF (List.replicate m 0)).toArray:=by
 apply Array.ext
 ·rw[size_madeCells];simp[zF]
 intro i h1 h2;have:i%1=0:=Nat.mod_one i;simp[madeCells,zF,Value.cells,this]
def zLw {ops:Array Oper} {rest:List Oper} {o:Oper} {a:Act} {w:World} {Q:Exit→Act→World→Prop} (hg:o.guard=none) (dst:Option Tmp) (hdst:o.dst=dst) (x y:Operand) (ho:o.op=.makeSlice 45 x y) (n:Nat) (hn:n≤100000000000)
 (hx:a.eval x=.int .i64 (n:Int)) (hy:a.eval y=.int .i64 (n:Int))
 (h:∀w1 g,Blk w1 g 5 (zF (List.replicate n 0)).toArray→Ext w w1→w.heap.size≤g→wpList prog ops Q rest (a.put dst (.slice (some ⟨g,0,none⟩) n n)) w1):wpList prog ops Q (o::rest) a w:=by
 subst hdst;obtain⟨i,hi,hz,hs,hb⟩:=infoBy8;have hr:=run_make (P:=prog) w 45 5 i (.int .u8 0) underlying45 hi hz .i64 .i64 (n:Int) (n:Int) (by omega) (wN7 _) (by rw[hb];omega) (by omega);rw[wD7,hs,wD8,madeU8] at hr;refine wpList_plain hg λ_ hK=> ?_
 unfold Oper.wp execOp;simp only[ho,hx,hy,Sem.run_bind,hr,Result.andThen_ok,Sem.run_pure];exact hK _ _ (h _ _ (Blk.new w _ _) ((Ext.refl w).alloc _) (wA5 _))
def RowB (w:World) (g N:Nat) (D:List Nat):Prop:=Blk w g 5 (zF (D++List.replicate (N-D.length) 0)).toArray
def zSw (D X:List Nat) (N:Nat) (h:D.length+X.length≤N):splice (zF (D++List.replicate (N-D.length) 0)) D.length (zF X)=zF ((D++X)++List.replicate (N-(D++X).length) 0):=by
 have e1:(zF (D++List.replicate (N-D.length) 0)).take D.length=zF D:=by
  rw[zAz,wF8 (by rw[vZ];omega),wC2 (by rw[vZ];omega)]
 have e2:(zF (D++List.replicate (N-D.length) 0)).drop (D.length+X.length)=zF (List.replicate (N-(D++X).length) 0):=by
  rw[zAz,List.drop_append,wN9 (by rw[vZ];omega),vZ,wG4];rw[show D.length+X.length-D.length=X.length by omega];unfold zF;rw[←wO1,List.drop_replicate,wE2];congr 2
  omega
 unfold splice;rw[e1,vZ,e2,zAz,zAz,wI7]
def zFo {ops:Array Oper} {rest:List Oper} {o:Oper} {a:Act} {w w0:World} {Q:Exit→Act→World→Prop} (hgd:o.guard=none) (dst:Option Tmp) (hdst:o.dst=dst) (d s:Operand)
 (ho:o.op=.call { callee:=.builtin .copy,args:= #[d,s],argTypes:= #[45,45] }) (g N off f m c2:Nat) (D X:List Nat) (sp:Option Addr)
 (dp:Option Addr) (hdp:dp=if N=off then some ⟨g,0,none⟩ else (some ⟨g,0,none⟩:Option Addr).map (·.add off)) (hd:a.eval d=.slice dp f f) (hf:f+off=N) (hs:a.eval s=.slice sp m c2) (hX:SL w 1 (.slice sp m c2) m (zF X)) (hm:X.length=m) (hD:D.length=off) (hfit:off+m≤N)
 (hr:RowB w g N D) (hx0:Ext w0 w) (hg:w0.heap.size≤g) (h:∀w',RowB w' g N (D++X)→Ext w0 w'→wpList prog ops Q rest (a.put dst (.int .i64 (m:Int))) w'):wpList prog ops Q (o::rest) a w:=by
 subst hdst;have hXX:=hX;obtain⟨A',c',e,h1,h2,h3,h4⟩:=hXX;injection e with e1 e2 e3
 obtain rfl:f=N-off:=by omega
 subst e1 e3 hD hm hdp
 have key:∀w',Hid (w'.heap[g]? =some (.cells (splice (zF (D++List.replicate (N-D.length) 0)) D.length (zF X)).toArray 5 (0,0)))→Below w0.heap.size w0 w'→wpList prog ops Q rest (a.put o.dst (goInt (zF X).length)) w':=λw' h5 h6=>by
  rw[vZ];refine h w' ?_ h6;have h7:=h5.out;rw[zSw D X N hfit] at h7;exact h7
 refine wpList_copy_splice hgd d s 45 45 ho 5 underlying45 zKc _ sp _ _ X.length c2 hd hs g D.length (zF (D++List.replicate (N-D.length) 0)) 5 hr (zF X) ?_ ?_ ?_ ?_ w0.heap.size w0 hx0 hg key
 ·rw[vZ];exact (wQ8 (by omega)).symm
 ·intro hp;rw[vZ] at hp;rw[if_neg (by omega)];refine⟨by simp[zBe], ?_⟩;obtain⟨ad,e5,-,h6⟩:=h4 hp;exact⟨ad,e5,h6⟩
 ·rw[vZ,vZ,wE2,wM9];omega
 intro u hu;obtain⟨z,-,rfl⟩:=wD2.1 hu;rfl
def SL.tail {w:World} {A E:Option Addr} {n c l m q:Nat} {bs:List Nat} (hs:SL w 1 (.slice A n c) n (zF bs)) (hE:E=if c=l then A else A.map (·.add l)) (hm:m+l=n) (hq:q+l=c) :
 SL w 1 (.slice E m q) m (zF (bs.drop l)):=by
 subst hE;obtain rfl:m=n-l:=by omega
 obtain rfl:q=c-l:=by omega
 have h:=hs.sub (show l≤n by omega) (wA5 n);have hn:=(zHN hs).1
 rwa [←zMG,wC2 (by rw[wE8];omega)] at h
def SL.mid {w:World} {A E:Option Addr} {n c l h m q:Nat} {bs:List Nat} (hs:SL w 1 (.slice A n c) n (zF bs)) (hE:E=if c=l then A else A.map (·.add l)) (hm:l+m=h) (hq:q+l=c) (hh:h≤n) :
 SL w 1 (.slice E m q) m (zF ((bs.drop l).take m)):=by
 subst hE;obtain rfl:m=h-l:=by omega
 obtain rfl:q=c-l:=by omega
 have h:=hs.sub (show l≤h by omega) hh
 rwa [←zMG] at h
def zIC {w:World} {g k:Nat} {t:TypeId} {s:List Nat} (hk:s.length=k) (h:Blk w g t (zF s).toArray) (hk2:k≤9000000000000000000:=by omega):SL w 1 (.slice (some ⟨g,0,none⟩) k k) k (zF s):=by have:=h.sl (size:=1) (n:=k) (c:=k) (by simp[zF,hk]) (by omega) (by omega);simpa using this
section
variable {o:Oper} {a:Act}
def zDx {x lo:Operand} (ho:o.op=.slice 45 x (some lo) none none) {A E:Option Addr} {n c l m q:Nat} (hE:E=if c=l then A else A.map (·.add l)) (hm:m+l=n) (hq:q+l=c) (hx:a.eval x=.slice A n c) (h1:a.eval lo=.int .i64 (l:Int)) (hc:n≤c) (w:World) :
 (execOp a.eval o).run prog w=.ok (.value (.slice E m q)) w:=by subst hE;rw[zOY ho hx h1 (by omega) hc w,show n-l=m by omega,show c-l=q by omega]
def zUZ {x lo hi:Operand} (ho:o.op=.slice 45 x (some lo) (some hi) none) {A E:Option Addr} {n c l h m q:Nat} (hE:E=if c=l then A else A.map (·.add l)) (hm:l+m=h) (hq:q+l=c) (hx:a.eval x=.slice A n c) (h1:a.eval lo=.int .i64 (l:Int)) (h2:a.eval hi=.int .i64 (h:Int)) (hh:h≤n) (hc:n≤c) (w:World) :
 (execOp a.eval o).run prog w=.ok (.value (.slice E m q)) w:=by subst hE;rw[zOm ho hx h1 h2 (by omega) hh hc w,show h-l=m by omega,show c-l=q by omega]
def zFm {x y:Operand} {t2:TypeId} (ho:o.op=.binOp .add 3 x y t2) {i d r:Nat} (hr:i+d=r) (hx:a.eval x=.int .i64 (i:Int)) (hy:a.eval y=.int .i64 (d:Int)) (h:r<1000000000000) (w:World) :
 (execOp a.eval o).run prog w=.ok (.value (.int .i64 (r:Int))) w:=by subst hr;exact yL ho hx hy h w
def ex_slice0 {x lo hi:Operand} (ho:o.op=.slice 45 x (some lo) (some hi) none) {g N:Nat} (hx:a.eval x=.slice (some ⟨g,0,none⟩) N N) (h1:a.eval lo=.int .i64 0) (h2:a.eval hi=.int .i64 (N:Int)) (w:World) :
 (execOp a.eval o).run prog w=.ok (.value (.slice (some ⟨g,0,none⟩) N N)) w:=by
 have h:=zOm ho hx (l:=0) (h:=N) h1 h2 (by omega) (by omega) (by omega) w;rw[h]
 by_cases h0:N=0
 ·simp[h0]
 simp[h0,zBe]
end
attribute [local irreducible] zF zBn zBA ixN
def ReplIs (R:List Nat) (w:World) (e:Ending) (w':World):Prop:=∃B k d,e=.returned (.slice B k d)∧R.length=k∧SL w' 1 (.slice B k d) k (zF R)∧(B=none→d=0)∧Ext w w'
def zTP (A:Option Addr) (n c k1 k2 g1 g2:Nat) (bs o v:List Nat) (m0:Int) (w:World) (hs:SL w 1 (.slice A n c) n (zF bs)) (hA:A=none→c=0) (hlt:∀b∈bs,b<256) (hlo:∀b∈o,b<256) (hn:n≤1000000000)
 (ho:o.length=k1) (hk1:1≤k1) (hk2:k1≤2) (hv:v.length=k2) (hk3:1≤k2) (hk4:k2≤2) (hbo:Blk w g1 5 (zF o).toArray) (hbv:Blk w g2 5 (zF v).toArray) (hm:w.cell? ⟨0,0,none⟩=some (.int .i64 m0)) :
 Calls prog 138 #[.slice A n c,.slice (some ⟨g1,0,none⟩) k1 k1,.slice (some ⟨g2,0,none⟩) k2 k2,.int .i64 (-1)] w (ReplIs (zBp bs o v) w):=by
 obtain⟨hl,hc⟩:=zHN hs;have hone:o≠[]:=by intro e;rw[e] at ho;simp at ho;omega
 have hm1:⟨0,0,none⟩=(⟨0,0,none⟩:Addr):=rfl
 have h00:0<w.heap.size:=by
  rcases wI0 w.heap.size with h | h
  ·unfold World.cell? at hm;rw[wA4 (by simp[h])] at hm;cases hm
  exact h
 have HMX:=zA (λW (h:Ext w W)=>(h.cell (p:=⟨0,0,none⟩) h00).trans hm);have HCT:=zA (count_any A n c k1 g1 bs o _ m0 w hs hA hlt hlo ho hk1 (by omega) (by omega) hbo hm);have hroom:=zSZ _ bs o hone rfl;have hrl:=zPs _ bs o v hone rfl;obtain⟨R,hR⟩:∃R,zBp bs o v=R:=⟨_,rfl⟩
 rw[hR];unfold zBp at hR;obtain⟨m,hcm⟩:∃m,zBA bs o=m:=⟨_,rfl⟩
 rw[hcm] at HCT hroom hrl hR;rw[hR] at hrl;have HR:=zA hR;have HC:=zA hcm;have HL:=zA hl;have HO:=zA ho;have HV:=zA hv;have HLT:=zA hlt;have HLO:=zA hlo
 have hmn:m≤n:=by
  rw[ho,hl] at hroom;have:m*1≤m*k1:=wJ2 _ hk1;omega
 by_cases hm0:m=0
 ·have HRE:Hid (R=bs):=zA (by rw[←HR.out,hm0];unfold zBn;rfl);subst hm0;clear hR hcm hl ho hv hlt hlo hroom hrl HR HC hm hmn hm1;rw[HRE.out];go_enter func138,ntmps138
  go_wp2_with (first
   | (go_at_call 177;(with_reducible refine (HCT.out).mono ?_);rintro e w1 ⟨rfl,hx1⟩)
   | (at_builtin;go_must (refine wApf zBd rfl _ (.tmp 24) rfl w.heap.size (.slice none 0 0) 0 [] rfl (zAm _ _ _ _) _ n (zF bs) rfl (hs.ext hx1) (zHF bs) (by omega) (by omega) hx1.size ?_);intro B d w2 hown2 hgr2 hor2))
  go_ret;obtain⟨B',d',e2,hs2,hf2⟩:=zCN hown2;injection e2 with q1 q2 q3
  subst q1 q3;simp only[wB2,wG4] at hs2;refine⟨B,n,d, ?_,HL.out,hs2,own_none hown2,hx1.trans' (by exact (Below.refl _ w1).grown hgr2 hx1.size (λk hk=>by cases hk))⟩;simp
 have hN:∃N:Nat,N=R.length∧(N:Int)=(n:Int)+(m:Int)*((k2:Int)-(k1:Int)):=by
  refine⟨R.length,rfl, ?_⟩;rw[ho,hv,hl] at hrl;rw[Int.mul_sub];have:((R.length+m*k1:Nat):Int)=((n+m*k2:Nat):Int):=by rw[hrl]
  push_cast at this
  omega
 obtain⟨N,hNR,hNI⟩:=hN
 have hmk:(m:Int)*((k2:Int)-(k1:Int))≤1000000000∧ -1000000000≤(m:Int)*((k2:Int)-(k1:Int)):=by
  have:k2=k1∨k2=k1+1∨k1=k2+1:=by omega
  rcases this with rfl | rfl | rfl
  ·simp
  ·rw[show ((k1+1:Nat):Int)-(k1:Int)=1 by omega];omega
  rw[show (k2:Int)-((k2+1:Nat):Int)= -1 by omega];omega
 have H42R:Hid (∀W,(binOp .mul 3 (.int .i64 (m:Int)) (.int .i64 ((k2:Int)-(k1:Int)))).run prog W=.ok (.int .i64 ((m:Int)*((k2:Int)-(k1:Int)))) W):=zA (λW=>zHX _ _ _ (IntWalk.i64_in _ (by omega)) W);have hNN:N≤2000000000:=by omega
 have H43:Hid (IntKind.i64.wrap ((n:Int)+(m:Int)*((k2:Int)-(k1:Int)))=(N:Int)):=zA (by rw[←hNI];exact IntWalk.i64_in _ (by omega));generalize (m:Int)*((k2:Int)-(k1:Int))=q42 at *;have HNR:=zA hNR;have HONE:=zA hone;have HK1:Hid (decide ((0:Int)<(k1:Int))=true):=zA (by rw[wS2];omega);have hmk42:=hmk;have hb18:((-1:Int) !=0)=true:=rfl;have hb23:((m:Int) ==0)=false:=by simp[hm0]
 have hb23':¬((m:Int)=0):=by omega
 have hm0':0<m:=by omega
 clear hR hcm hl ho hv hlt hlo hroom hrl hm hm1 hNI hmk hNR hone;go_enter func138,ntmps138
 go_wp2_with (first
  | (go_at_call 177;(with_reducible refine (HCT.out).mono ?_);rintro e w1 ⟨rfl,hx1⟩)
  | ((with_reducible apply gS 41);refine zB rfl (.int .i64 ((k2:Int)-(k1:Int))) (zNu rfl rfl rfl (by omega)) ?_)
  | ((with_reducible apply gS 42);refine zB rfl (.int .i64 q42) (jO rfl rfl rfl H42R.out) ?_)
  | ((with_reducible apply gS 43);refine zB rfl (.int .i64 (N:Int)) (jO rfl rfl rfl (zEW _ _ _ H43.out)) ?_)
  | ((with_reducible apply gS 44);refine zLw rfl (some 44) rfl _ _ rfl N (by omega) rfl rfl ?_;intro w2 g hb2 hx2 hg2)
  | ((with_reducible apply gS 47);refine zB rfl _ (xY rfl rfl rfl HK1.out) ?_))
 have hrow:RowB w2 g N []:=by
  unfold RowB;simpa using hb2
 have hxw:=hx1.trans hx2;have hg:w.heap.size≤g:=by have:=hx1.size;omega
 have HST0:Hid (zBA (bs.drop 0) o=m-0):=zA (by rw[wK2];exact HC.out);have HRR0:Hid ([]++zBn (m-0) (bs.drop 0) o v=R):=zA (by rw[wK2];exact HR.out);clear hb2 hx1 hx2 hg2 HC HR HCT H43 H42R hmk42;obtain⟨wo,rfl⟩:∃wo:World,wo=w2:=⟨_,rfl⟩
 go_loopw [11,12,49] (λx y iv wr=>∃(k st d:Nat) (D:List Nat),k≤m∧iv=.int .i64 (k:Int)∧x=.int .i64 (d:Int)∧y=.int .i64 (st:Int)∧st≤n∧Hid (D.length=d)∧Hid (zBA (bs.drop st) o=m-k)∧Hid (D++zBn (m-k) (bs.drop st) o v=R)∧RowB wr g N D∧Ext w wr) (λ_ _ i _=>m-(intOf i).toNat)
 case atStart=>exact⟨0,0,0,[],by omega,rfl,rfl,rfl,by omega,zA rfl,HST0,HRR0,hrow,hxw⟩
 case round =>
  clear hrow hxw HST0 HRR0;obtain⟨k,st,d,D,hk,rfl,rfl,rfl,hst,HD,HCN,HRR,hr0,hx⟩:=hrel;obtain⟨Eb,hEb⟩:∃E,E=if c=st then A else A.map (·.add st):=⟨_,rfl⟩
  obtain⟨Ed,hEd⟩:∃E,E=if N=d then some ⟨g,0,none⟩ else (some ⟨g,0,none⟩:Option Addr).map (·.add d):=⟨_,rfl⟩
  have HEB:=zA hEb;have HED:=zA hEd;obtain⟨r,hrn⟩:∃r,r+st=n:=⟨n-st,by omega⟩
  obtain⟨cq,hcq⟩:∃q,q+st=c:=⟨c-st,by omega⟩
  have HTL:=zA (λW (h:Ext w W)=>SL.tail (hs.ext h) hEb hrn hcq);clear hEb hEd
  by_cases hlt:k<m
  ·obtain⟨i,e1,e2,e3⟩:=zHk (m:=m-(k+1)) HONE.out (by rw[HCN.out];omega);rw[wE8,HL.out,HO.out] at e2;rw[HO.out,wG0] at e3;have e4:=HRR.out;rw[show m-k=m-(k+1)+1 by omega,zBn,e1,wD7,wG0,HO.out] at e4;have e5:=congrArg List.length e4;rw[wE2,wE2,wE2,wF1,wE8,HD.out,HL.out,HV.out, ←HNR.out,wQ8 (by omega)] at e5;obtain⟨f,hfN⟩:∃f,f+d=N:=⟨N-d,by omega⟩
   obtain⟨sx,hsx⟩:∃r,st+i=r:=⟨_,rfl⟩
   obtain⟨sy,hsy⟩:∃r,sx+k1=r:=⟨_,rfl⟩
   obtain⟨d2,hd2⟩:∃r,d+i=r:=⟨_,rfl⟩
   obtain⟨d3,hd3⟩:∃r,d2+k2=r:=⟨_,rfl⟩
   obtain⟨f2,hf2⟩:∃f,f+d2=N:=⟨N-d2,by omega⟩
   have HIX:=zA (λW (h:Ext w W)=>index_any _ r cq k1 g1 (bs.drop st) o _ m0 W (HTL.out W h) (by omega) (λb hb=>HLT.out b (wM7 hb)) HLO.out HO.out (by omega) (by omega) (hbo.ext h) (HMX.out W h));rw[e1] at HIX;obtain⟨Ee,hEe⟩:∃E,E=if N=d2 then some ⟨g,0,none⟩ else (some ⟨g,0,none⟩:Option Addr).map (·.add d2):=⟨_,rfl⟩
   have HEE:=zA hEe;clear hEe;have HMD:=zA (λW (h:Ext w W)=>SL.mid (hs.ext h) HEB.out hsx hcq (show sx≤n by omega));have HVS:=zA (λW (h:Ext w W)=>zIC HV.out (hbv.ext h));have HXL:Hid (((bs.drop st).take i).length=i):=zA (by rw[wF1,wE8,HL.out];omega);have HDL:Hid ((D++(bs.drop st).take i).length=d2):=zA (by rw[wE2,HXL.out,HD.out,hd2]);have HDL2:Hid ((D++(bs.drop st).take i++v).length=d3):=zA (by rw[wE2,HDL.out,HV.out,hd3]);have HC2:Hid (zBA (bs.drop sy) o=m-(k+1)):=zA (by rw[←e3, ←hsy, ←hsx,wA0]);have HR2:Hid (D++(bs.drop st).take i++v++zBn (m-(k+1)) (bs.drop sy) o v=R):=zA (by rw[←e4, ←hsy, ←hsx,wA0 st i k1];simp only[wI7]);have e6:d3≤N:=by omega
   clear e1 e3 e4 e5 HCN HRR
   go_upto_region 15 with (first
    | ((with_reducible apply gS 54);refine zB rfl (.slice Eb r cq) (zDx rfl HEB.out hrn hcq rfl rfl (by omega)) ?_)
    | (go_at_call 178;(with_reducible refine (HIX.out _ hx).mono ?_);rintro e w3 ⟨rfl,hx3⟩)
    | ((with_reducible apply gS 57);refine zB rfl (.int .i64 (sx:Int)) (zFm rfl hsx rfl rfl (by omega)) ?_))
   have hx3':Ext w w3.drew:=(hx.trans hx3).drew;have hr3:RowB w3.drew g N D:=Blk.ext hr0 hx3.drew;clear hr0 hx hx3;refine qR (λ_=>True) (by kernel_rfl) ?_;refine zG (k:=0) (by kernel_rfl) rfl (by rfl) (.int .i64 (d:Int)) (zD rfl rfl) trivial ?_;simp only[sP,sB,sC];refine zG (k:=1) (by kernel_rfl) rfl (by rfl) (.slice (some ⟨g,0,none⟩) N N) (zD rfl rfl) trivial ?_;simp only[sP,sB,sC];refine zG (k:=2) (by kernel_rfl) rfl (by rfl) (.int .i64 (d:Int)) (zD rfl rfl) trivial ?_;simp only[sP,sB,sC];refine zG (k:=3) (by kernel_rfl) rfl (by rfl) (.slice Ed f f) (zDx rfl HED.out hfN hfN rfl rfl (by omega)) trivial ?_;simp only[sP,sB,sC];refine zG (k:=4) (by kernel_rfl) rfl (by rfl) (.slice A n c) (zD rfl rfl) trivial ?_;simp only[sP,sB,sC];refine zG (k:=5) (by kernel_rfl) rfl (by rfl) (.int .i64 (st:Int)) (zD rfl rfl) trivial ?_;simp only[sP,sB,sC];refine zG (k:=6) (by kernel_rfl) rfl (by rfl) (.int .i64 (sx:Int)) (zD rfl rfl) trivial ?_;simp only[sP,sB,sC];refine zG (k:=7) (by kernel_rfl) rfl (by rfl) (.slice Eb i cq) (zUZ rfl HEB.out hsx hcq rfl rfl rfl (by omega) (by omega)) trivial ?_;simp only[sP,sB,sC];refine qI (k:=8) (by kernel_rfl) rfl ?_;refine zFo rfl (some 66) rfl (.tmp 61) (.tmp 65) rfl g N d f i _ D ((bs.drop st).take i) _ Ed HED.out rfl hfN rfl (HMD.out _ hx3') HXL.out HD.out (by omega) hr3 hx3' hg ?_;intro w4 hr4 hx4;refine zZ ⟨trivial, ?_⟩;simp only[Act.put,sA,sB,sC];refine zG (k:=9) (by kernel_rfl) rfl (by rfl) (.int .i64 (d2:Int)) (zFm rfl hd2 rfl rfl (by omega)) trivial ?_;simp only[sP,sB,sC];refine zG (k:=10) (by kernel_rfl) rfl (by rfl) (.int .i64 (d2:Int)) (zW rfl rfl) trivial ?_;simp only[sP,sB,sC];refine uA (by kernel_rfl) ?_
   go_wp2_with (first
    | ((with_reducible apply gS 71);refine zB rfl (.slice Ee f2 f2) (zDx rfl HEE.out hf2 hf2 rfl rfl (by omega)) ?_)
    | ((with_reducible apply gS 73);refine zFo rfl (some 73) rfl (.tmp 71) (.tmp 72) rfl g N d2 f2 k2 _ _ v _ Ee HEE.out rfl hf2 rfl (HVS.out _ hx4) HV.out HDL.out (by omega) hr4 hx4 hg ?_;intro w5 hr5 hx5)
    | ((with_reducible apply gS 74);refine zB rfl (.int .i64 (d3:Int)) (zFm rfl hd3 rfl rfl (by omega)) ?_)
    | ((with_reducible apply gS 78);refine zB rfl (.int .i64 (sy:Int)) (zFm rfl hsy rfl rfl (by omega)) ?_))
   go_roundw
   case rel=>exact⟨k+1,sy,d3,_,by omega,by go_num,rfl,rfl,by omega,HDL2,HC2,HR2,hr5,hx5⟩
   case measure=>simp[intOf];omega
  have hkm:m-k=0:=by omega
  have e4:=HRR.out;rw[hkm,zBn] at e4;have e5:=congrArg List.length e4;rw[wE2,wE8,HD.out,HL.out, ←HNR.out] at e5;have HRE:Hid (R=D++bs.drop st):=zA e4.symm;have HXL:Hid ((bs.drop st).length=r):=zA (by rw[wE8,HL.out];omega);have hdr:d+r=N:=by omega
  obtain⟨f,hfN⟩:∃f,f+d=N:=⟨N-d,by omega⟩
  clear hkm e4 HCN HRR;go_upto_region 28 with ((with_reducible apply gS 47);refine zB rfl _ (xY rfl rfl rfl HK1.out) ?_)
  have hx':Ext w wr.drew:=hx.drew;have hr0':RowB wr.drew g N D:=hr0;refine qR (λ_=>True) (by kernel_rfl) ?_;refine zG (k:=0) (by kernel_rfl) rfl (by rfl) (.int .i64 (d:Int)) (zD rfl rfl) trivial ?_;simp only[sP,sB,sC];refine zG (k:=1) (by kernel_rfl) rfl (by rfl) (.slice (some ⟨g,0,none⟩) N N) (zD rfl rfl) trivial ?_;simp only[sP,sB,sC];refine zG (k:=2) (by kernel_rfl) rfl (by rfl) (.int .i64 (d:Int)) (zD rfl rfl) trivial ?_;simp only[sP,sB,sC];refine zG (k:=3) (by kernel_rfl) rfl (by rfl) (.slice Ed f f) (zDx rfl HED.out hfN hfN rfl rfl (by omega)) trivial ?_;simp only[sP,sB,sC];refine zG (k:=4) (by kernel_rfl) rfl (by rfl) (.slice A n c) (zD rfl rfl) trivial ?_;simp only[sP,sB,sC];refine zG (k:=5) (by kernel_rfl) rfl (by rfl) (.int .i64 (st:Int)) (zD rfl rfl) trivial ?_;simp only[sP,sB,sC];refine zG (k:=6) (by kernel_rfl) rfl (by rfl) (.slice Eb r cq) (zDx rfl HEB.out hrn hcq rfl rfl (by omega)) trivial ?_;simp only[sP,sB,sC];refine qI (k:=7) (by kernel_rfl) rfl ?_;refine zFo rfl (some 127) rfl (.tmp 123) (.tmp 126) rfl g N d f r _ D (bs.drop st) _ Ed HED.out rfl hfN rfl (HTL.out _ hx') HXL.out HD.out (by omega) hr0 hx' hg ?_;intro w4 hr4 hx4;refine zZ ⟨trivial, ?_⟩;simp only[Act.put,sA,sB,sC];refine zG (k:=8) (by kernel_rfl) rfl (by rfl) (.int .i64 (N:Int)) (zFm rfl hdr rfl rfl (by omega)) trivial ?_;simp only[sP,sB,sC];refine zG (k:=9) (by kernel_rfl) rfl (by rfl) (.int .i64 (N:Int)) (zW rfl rfl) trivial ?_;simp only[sP,sB,sC];refine uA (by kernel_rfl) ?_;go_wp2_with ((with_reducible apply gS 131);refine zB rfl (.slice (some ⟨g,0,none⟩) N N) (ex_slice0 rfl rfl rfl rfl) ?_)
  go_ret;refine⟨some ⟨g,0,none⟩,N,N,rfl,HNR.out.symm, ?_,(λh=>by cases h),hx4⟩;unfold RowB at hr4;rw[←HRE.out, ←HNR.out,wL5,wS7,wG9] at hr4;exact zIC HNR.out.symm hr4
end
def Kept (w:World) (VS:List Value) (P:List (List Nat)) (r1 r2:Option Nat):Prop :=
 Pieces w VS P∧∀V∈VS,∀b,V.ownBlock=some b→b<w.heap.size∧r1≠some b∧r2≠some b
def Kept.nil (w:World) (r1 r2:Option Nat):Kept w [] [] r1 r2:=⟨⟨rfl,λi h=>by simp at h⟩,λV h=>by cases h⟩
def Kept.ext {w w':World} {VS:List Value} {P:List (List Nat)} {r1 r2:Option Nat} (h:Kept w VS P r1 r2) (hx:Ext w w'):Kept w' VS P r1 r2 :=
 ⟨h.1.ext hx,λV hV b hb=>by obtain⟨h1,h2,h3⟩:=h.2 V hV b hb;exact⟨wA1 h1 hx.size,h2,h3⟩⟩
def Kept.swap {w:World} {VS:List Value} {P:List (List Nat)} {r1 r2:Option Nat} (h:Kept w VS P r1 r2):Kept w VS P r2 r1 :=
 ⟨h.1,λV hV b hb=>by obtain⟨h1,h2,h3⟩:=h.2 V hV b hb;exact⟨h1,h3,h2⟩⟩
def Pieces.upd {S:Nat→Prop} {w w':World} {VS:List Value} {P:List (List Nat)} (h:Pieces w VS P) (hu:Upd S w w') (hS:∀V∈VS,∀b,V.ownBlock=some b→¬S b):Pieces w' VS P :=
 ⟨h.1,λi hi=>by
  obtain⟨A,c,h1,h2⟩:=h.2 i hi;refine⟨A,c,h1,h2.upd hu λad e=>hS _ (wM8 h1) _ ?_⟩
  rw[zCT,e];rfl⟩
def Kept.grown {w w':World} {VS:List Value} {P:List (List Nat)} {r1 r1' r2:Option Nat} (h:Kept w VS P r1 r2) (hg:w.grownBy w' r1) (hr:r1'=r1∨r1'=some w.heap.size):Kept w' VS P r1' r2:=by
 have hu:=zM hg;refine⟨h.1.upd hu λV hV b hb e=>(h.2 V hV b hb).2.1 e,λV hV b hb=> ?_⟩;obtain⟨h1,h2,h3⟩:=h.2 V hV b hb;refine⟨wA1 h1 hu.size, ?_,h3⟩;rcases hr with rfl | rfl
 ·exact h2
 intro e;injection e with e;omega
def Kept.grown1 {w w':World} {VS:List Value} {P:List (List Nat)} {v1:Value} {r2:Option Nat} {A:Option Addr} {n c:Nat} (h:Kept w VS P v1.ownBlock r2) (hg:w.grownBy w' v1.ownBlock) (hr:A.map (·.block)=v1.ownBlock∨A.map (·.block)=some w.heap.size):Kept w' VS P (Value.slice A n c).ownBlock r2:=by rw[zCT];exact h.grown hg hr
def Kept.grown2 {w w':World} {VS:List Value} {P:List (List Nat)} {v2:Value} {r1:Option Nat} {A:Option Addr} {n c:Nat} (h:Kept w VS P r1 v2.ownBlock) (hg:w.grownBy w' v2.ownBlock) (hr:A.map (·.block)=v2.ownBlock∨A.map (·.block)=some w.heap.size):Kept w' VS P r1 (Value.slice A n c).ownBlock :=
 (h.swap.grown1 hg hr).swap
def Kept.upd {S:Nat→Prop} {w w':World} {VS:List Value} {P:List (List Nat)} {r1 r2:Option Nat} (h:Kept w VS P r1 r2) (hu:Upd S w w') (hS:∀V∈VS,∀b,V.ownBlock=some b→¬S b):Kept w' VS P r1 r2 :=
 ⟨h.1.upd hu hS,λV hV b hb=>by obtain⟨h1,h2,h3⟩:=h.2 V hV b hb;exact⟨wA1 h1 hu.size,h2,h3⟩⟩
def Two.upd {S:Nat→Prop} {w0 w w':World} {B:Nat} {e1 e2:TypeId} {v1 v2:Value} {n1 n2:Nat} {xs1 xs2:List Value} (h:Two w0 w B e1 e2 v1 v2 n1 n2 xs1 xs2 none none) (hu:Upd S w w') (h0:∀b,S b→w0.heap.size≤b)
 (hS1:∀b,v1.ownBlock=some b→¬S b) (hS2:∀b,v2.ownBlock=some b→¬S b):Two w0 w' B e1 e2 v1 v2 n1 n2 xs1 xs2 none none :=
 ⟨hu.ext h.ext h0,⟨h.base.1,wJ1 h.base.2 hu.size⟩,qV h.p hu hS1,qV h.m hu hS2,h.d,(λ_ _ e=>by cases e),(λ_ _ e=>by cases e)⟩
structure Cur (w0 w:World) (B:Nat) (e1 e2 e3:TypeId) (v1 v2 v3:Value) (n1 n2 n3:Nat) (VS xs2 xs3:List Value) (P:List (List Nat)):Prop where
 two:Two w0 w B e1 e2 v1 v2 n1 n2 VS xs2 none none
 kept:Kept w VS P v1.ownBlock v2.ownBlock
 cur:w.ownsRow B e3 1 v3 n3 xs3
 d1:∀b,v3.ownBlock=some b→v1.ownBlock≠some b∧v2.ownBlock≠some b
 d2:∀V∈VS,∀b,V.ownBlock=some b→v3.ownBlock≠some b
section
variable {w0 w w':World} {B:Nat} {e1 e2 e3:TypeId} {v1 v2 v3 v3':Value} {n1 n2 n3 m3:Nat} {VS xs2 xs3 ys3:List Value} {P:List (List Nat)}
def Cur.later (h:Cur w0 w B e1 e2 e3 v1 v2 v3 n1 n2 n3 VS xs2 xs3 P) (hx:Ext w w'):Cur w0 w' B e1 e2 e3 v1 v2 v3 n1 n2 n3 VS xs2 xs3 P :=
 ⟨h.two.later hx,h.kept.ext hx,yE h.cur hx,h.d1,h.d2⟩
def Cur.grow (h:Cur w0 w B e1 e2 e3 v1 v2 v3 n1 n2 n3 VS xs2 xs3 P) (ho:w'.ownsRow B e3 1 v3' m3 ys3) (hg:w.grownBy w' v3.ownBlock) (hr:v3'.ownBlock=v3.ownBlock∨v3'.ownBlock=some w.heap.size):Cur w0 w' B e1 e2 e3 v1 v2 v3' n1 n2 m3 VS xs2 ys3 P:=by
 have hu:=zM hg;refine⟨h.two.upd hu (λb hb=>by have:=(h.cur.lt b hb).1;have:=h.two.base.1;omega) (λb hb e=>(h.d1 b e).1 hb) (λb hb e=>(h.d1 b e).2 hb),h.kept.upd hu (λV hV b hb e=>h.d2 V hV b hb e),ho,λb hb=> ?_,λV hV b hb=> ?_⟩
 ·rcases hr with e | e
  ·exact h.d1 b (e ▸ hb)
  rw[e] at hb;injection hb with hb
  exact⟨λe2=>by have:=(h.two.p.lt b e2).2;omega,λe2=>by have:=(h.two.m.lt b e2).2;omega⟩
 rcases hr with e | e
 ·rw[e];exact h.d2 V hV b hb
 rw[e];intro e2;injection e2 with e2
 have:=(h.kept.2 V hV b hb).1;omega
end
def Kept.snoc {w:World} {VS:List Value} {P:List (List Nat)} {r1 r2:Option Nat} {B:Nat} {e:TypeId} {A:Option Addr} {n c:Nat} {l:List Nat} (h:Kept w VS P r1 r2) (ho:w.ownsRow B e 1 (.slice A n c) n (zF l)) (hn:l.length=n)
 (hd:∀b,(Value.slice A n c).ownBlock=some b→r1≠some b∧r2≠some b):Kept w (VS++[.slice A n c]) (P++[l]) r1 r2:=by
 refine⟨h.1.snoc hn (by obtain⟨B9,d9,e9,h9,-⟩:=zCN ho;injection e9 with e1 e2 e3;subst e1 e3;exact h9),λV hV b hb=> ?_⟩;rcases wD3.1 hV with h1 | h1
 ·exact h.2 V h1 b hb
 obtain rfl:V=.slice A n c:=by simpa using h1
 exact⟨(ho.lt b hb).2,hd b hb⟩
