import Derived.Laws.CopyOwn
import Derived.WalkSmall
import Derived.Test.YtkggcjdlpendfaaGreatDoorMTopFewestCard9
set_option linter.all false
set_option maxRecDepth 20000
set_option maxHeartbeats 8000000
namespace Go.Proofs.YtkggcjdlpendfaaGreatDoor
open Go.RowKit
section
def zAr (a b:List Nat):zF (a++b)=zF a++zF b:=by simp[zF]
def zGV (l:List Nat): ∀ u∈zF l,u.oneCell'=true:=by
 intro u hu;obtain⟨z, -,rfl⟩:=wD6.1 hu;rfl
def own_none {w:World} {base:Nat} {e:TypeId} {size n d:Nat} {B:Option Addr} {xs:List Value} (h:w.ownsRow base e size (.slice B n d) n xs):B=none→d=0:=by
 rintro rfl;obtain⟨-,hh⟩:=h;rcases hh with ⟨e1, -⟩ | ⟨g,cap,cur,e1, -⟩
 ·injection e1
 ·injection e1 with e2
  cases e2
def zDN (s:List Nat):Lib.bytesOf (s.map Int.ofNat)=b8 s:=by
 unfold Lib.bytesOf b8;rw[wM1];rfl
def zFk {s:List Nat} (h: ∀ b∈s,b<256): ∀ x∈s.map Int.ofNat,0≤x∧x<256:=by
 intro x hx;obtain⟨b,hb,rfl⟩:=wD6.1 hx;have:=h b hb;simp only[Int.ofNat_eq_natCast];omega
def zIU {w:World} {ad:Addr} {n c:Nat} {s:List Nat} (h:SL w 1 (.slice (some ad) n c) n (zF s)): ∀ i,i<n→w.cell? (ad.add i)=some (.int .u8 ((s.map Int.ofNat).getD i 0)):=by
 intro i hi;obtain⟨A',c',e,h1,h2,h3,h4⟩:=h;injection e with e1 e2 e3
 subst e1;obtain⟨ad',e4,hb,hc⟩:=h4 (by omega);injection e4 with e4
 subst e4;have hl:i<s.length:=by rw[uF] at h3;omega
 refine hc i _ ?_;simp[zF,hl,wF4]
def zGK {w:World} {A:Option Addr} {n c:Nat} {s:List Nat} (h:SL w 1 (.slice A n c) n (zF s)):s.length=n∧n≤c:=by
 obtain⟨A',c',e,h1,h2,h3,h4⟩:=h;injection e with e1 e2 e3
 rw[uF] at h3;omega
def zNF {w:World} {g:Nat} {t:TypeId} {s:List Nat} (h:Blk w g t (zF s).toArray): ∀ i,i<s.length→w.cell? ((⟨g,0,none⟩:Addr).add i)=some (.int .u8 ((s.map Int.ofNat).getD i 0)):=by
 intro i hi;rw[zBx];simp only[wB2];rw[h.cell i];simp[zF,hi,wF4]
def zOK (w:World) (q:Nat):Ext w (w.drewN q):=zJx (Ext.refl w) q
def index_any (A:Option Addr) (n c k g:Nat) (s o:List Nat) (t:TypeId) (m0:Int) (w:World) (hs:SL w 1 (.slice A n c) n (zF s)) (h0:0<n) (hls: ∀ b∈s,b<256) (hlo: ∀ b∈o,b<256) (hok:o.length=k) (hk:k≤100)
 (hn:n≤4000000000) (ho:Blk w g t (zF o).toArray) (hm:w.cell? ⟨0,0,none⟩=some (.int .i64 m0)) :
 Calls Tryz.prog 178 #[.slice A n c,.slice (some ⟨g,0,none⟩) k k] w fun e w'=>e=.returned (.int .i64 (ixN s o))∧Ext w w':=by
 obtain⟨hl,hc⟩:=zGK hs;have hs':=hs;obtain⟨A',c',e, -, -, -,h4⟩:=hs';injection e with e1 e2 e3
 subst e1;obtain⟨ad,rfl, -, -⟩:=h4 h0;have H:=Tryz.bytes_Index_at ad ⟨g,0,none⟩ n c k k (s.map Int.ofNat) (o.map Int.ofNat) m0 w (by simpa using hl) (by simpa using hok) (zFk hls) (zFk hlo) (zIU hs) (fun i hi=>zNF ho i (by omega)) hc (by omega) (by omega) hm;refine H.mono ?_;rintro e w' ⟨rfl,q,rfl⟩;rw[zDN,zDN];exact⟨rfl,zOK w q⟩
def count_any (A:Option Addr) (n c k g:Nat) (s o:List Nat) (t:TypeId) (m0:Int) (w:World) (hs:SL w 1 (.slice A n c) n (zF s)) (hA:A=none→c=0) (hls: ∀ b∈s,b<256) (hlo: ∀ b∈o,b<256) (hok:o.length=k) (hk1:1≤k) (hk:k≤100)
 (hn:n≤4000000000) (ho:Blk w g t (zF o).toArray) (hm:w.cell? ⟨0,0,none⟩=some (.int .i64 m0)) :
 Calls Tryz.prog 177 #[.slice A n c,.slice (some ⟨g,0,none⟩) k k] w fun e w'=>e=.returned (.int .i64 (zAw s o:Int))∧Ext w w':=by
 obtain⟨hl,hc⟩:=zGK hs;have hone:o≠[]:=by intro e;rw[e] at hok;simp at hok;omega
 cases A with
 | none =>
   obtain rfl:=hA rfl;obtain rfl:n=0:=by omega
   obtain rfl:s=[]:=wC6 hl;rw[cnt_nil hone]
   by_cases h1:k=1
   ·subst h1;obtain⟨y,rfl⟩: ∃ y,o=[y]:=by match o,hok with | [y],_=>exact⟨y,rfl⟩
    refine (Tryz.bytes_Count_one_nil g 0 1 (y:Int) w (by rw[ho.cell 0];rfl)).mono ?_;rintro e w' ⟨rfl,rfl⟩;exact⟨rfl,Ext.refl _⟩
   ·refine (Tryz.bytes_Count_nil (some ⟨g,0,none⟩) k k w (by omega) (by omega)).mono ?_;rintro e w' ⟨rfl,rfl⟩;exact⟨rfl,Ext.refl _⟩
 | some ad =>
   by_cases h1:k=1
   ·subst h1;obtain⟨y,rfl⟩: ∃ y,o=[y]:=by match o,hok with | [y],_=>exact⟨y,rfl⟩
    refine (Tryz.bytes_Count_one_at ad n c g 0 1 (s.map Int.ofNat) (y:Int) w (by simpa using hl) (zIU hs) (by rw[ho.cell 0];rfl)).mono ?_;rintro e w' ⟨rfl,rfl⟩;refine⟨?_,Ext.refl _⟩;rw[zDN];unfold zAw Lib.countByte;rw[show b8 [y]=[UInt8.ofNat y] from rfl,count_one,wF0]
   ·have H:=Tryz.bytes_Count_at ad ⟨g,0,none⟩ n c k k (s.map Int.ofNat) (o.map Int.ofNat) m0 w (by simpa using hl) (by simpa using hok) (zFk hls) (zFk hlo) (zIU hs) (fun i hi=>zNF ho i (by omega)) hc (by omega) (by omega) (by omega) hm;refine H.mono ?_;rintro e w' ⟨rfl,q,rfl⟩;rw[zDN,zDN];exact⟨rfl,zOK w q⟩
def infoBy8: ∃ i,Tryz.prog.info? 5=some i∧i.zero=some (.int .u8 0)∧i.size=1∧i.bytes=1:=by
 have h1:(Tryz.prog.info? 5).map (fun i=>(i.zero,i.size,i.bytes))=some (some (.int .u8 0),1,1):=by kernel_rfl
 cases hq:Tryz.prog.info? 5 with
 | none=>rw[hq] at h1;cases h1
 | some i =>
   rw[hq] at h1;simp at h1;exact⟨i,rfl,h1.1,h1.2.1,h1.2.2⟩
def madeU8 (m:Nat):madeCells (Value.int .u8 0).cells m=(zF (List.replicate m 0)).toArray:=by
 apply Array.ext
 ·rw[size_madeCells];simp[zF]
 ·intro i h1 h2;have:i%1=0:=Nat.mod_one i;simp[madeCells,zF,Value.cells,this]
def zKT {ops:Array Oper} {rest:List Oper} {o:Oper} {a:Act} {w:World} {Q:Exit→Act→World→Prop} (hg:o.guard=none) (dst:Option Tmp) (hdst:o.dst=dst) (x y:Operand) (ho:o.op=.makeSlice 45 x y) (n:Nat) (hn:n≤100000000000)
 (hx:a.eval x=.int .i64 (n:Int)) (hy:a.eval y=.int .i64 (n:Int))
 (h: ∀ w1 g,Blk w1 g 5 (zF (List.replicate n 0)).toArray→Ext w w1→w.heap.size≤g→wpList Tryz.prog ops Q rest (a.put dst (.slice (some ⟨g,0,none⟩) n n)) w1):wpList Tryz.prog ops Q (o::rest) a w:=by
 subst hdst;obtain⟨i,hi,hz,hs,hb⟩:=infoBy8;have hr:=run_make (P:=Tryz.prog) w 45 5 i (.int .u8 0) Tryz.underlying45 hi hz .i64 .i64 (n:Int) (n:Int) (by omega) (wF7 _) (by rw[hb];omega) (by omega);rw[wF0,hs,wF1,madeU8] at hr;refine wpList_plain hg fun _ hK=> ?_
 unfold Oper.wp execOp;simp only[ho,hx,hy,Sem.run_bind,hr,Result.andThen_ok,Sem.run_pure];exact hK _ _ (h _ _ (Blk.new w _ _) ((Ext.refl w).alloc _) (wA5 _))
def RowB (w:World) (g N:Nat) (D:List Nat):Prop:=Blk w g 5 (zF (D++List.replicate (N-D.length) 0)).toArray
def zRe (D X:List Nat) (N:Nat) (h:D.length+X.length≤N):splice (zF (D++List.replicate (N-D.length) 0)) D.length (zF X)=zF ((D++X)++List.replicate (N-(D++X).length) 0):=by
 have e1:(zF (D++List.replicate (N-D.length) 0)).take D.length=zF D:=by
  rw[zAr,wM2 (by rw[uF];omega),wC4 (by rw[uF];omega)]
 have e2:(zF (D++List.replicate (N-D.length) 0)).drop (D.length+X.length)=zF (List.replicate (N-(D++X).length) 0):=by
  rw[zAr,List.drop_append,wG5 (by rw[uF];omega),uF,wL5];rw[show D.length+X.length-D.length=X.length by omega];unfold zF;rw[←wH2,List.drop_replicate,wF3];congr 2
  omega
 unfold splice;rw[e1,uF,e2,zAr,zAr,wG2]
def zFP {ops:Array Oper} {rest:List Oper} {o:Oper} {a:Act} {w w0:World} {Q:Exit→Act→World→Prop} (hgd:o.guard=none) (dst:Option Tmp) (hdst:o.dst=dst) (d s:Operand)
 (ho:o.op=.call { callee:=.builtin .copy,args:= #[d,s],argTypes:= #[45,45] }) (g N off f m c2:Nat) (D X:List Nat) (sp:Option Addr)
 (dp:Option Addr) (hdp:dp=if N=off then some ⟨g,0,none⟩ else (some ⟨g,0,none⟩:Option Addr).map (·.add off)) (hd:a.eval d=.slice dp f f) (hf:f+off=N) (hs:a.eval s=.slice sp m c2) (hX:SL w 1 (.slice sp m c2) m (zF X)) (hm:X.length=m) (hD:D.length=off) (hfit:off+m≤N)
 (hr:RowB w g N D) (hx0:Ext w0 w) (hg:w0.heap.size≤g) (h: ∀ w',RowB w' g N (D++X)→Ext w0 w'→wpList Tryz.prog ops Q rest (a.put dst (.int .i64 (m:Int))) w'):wpList Tryz.prog ops Q (o::rest) a w:=by
 subst hdst;have hXX:=hX;obtain⟨A',c',e,h1,h2,h3,h4⟩:=hXX;injection e with e1 e2 e3
 obtain rfl:f=N-off:=by omega
 subst e1 e3 hD hm hdp
 have key: ∀ w',Hid (w'.heap[g]? =some (.cells (splice (zF (D++List.replicate (N-D.length) 0)) D.length (zF X)).toArray 5 (0,0)))→Below w0.heap.size w0 w'→wpList Tryz.prog ops Q rest (a.put o.dst (goInt (zF X).length)) w':=fun w' h5 h6=>by
  rw[uF];refine h w' ?_ h6;have h7:=h5.out;rw[zRe D X N hfit] at h7;exact h7
 refine wpList_copy_splice hgd d s 45 45 ho 5 Tryz.underlying45 zJZ _ sp _ _ X.length c2 hd hs g D.length (zF (D++List.replicate (N-D.length) 0)) 5 hr (zF X) ?_ ?_ ?_ ?_ w0.heap.size w0 hx0 hg key
 ·rw[uF];exact (wO8 (by omega)).symm
 ·intro hp;rw[uF] at hp;rw[if_neg (by omega)];refine⟨by simp[zBx], ?_⟩;obtain⟨ad,e5, -,h6⟩:=h4 hp;exact⟨ad,e5,h6⟩
 ·rw[uF,uF,wF3,wF5];omega
 ·intro u hu;obtain⟨z, -,rfl⟩:=wD6.1 hu;rfl
def SL.tail {w:World} {A E:Option Addr} {n c l m q:Nat} {bs:List Nat} (hs:SL w 1 (.slice A n c) n (zF bs)) (hE:E=if c=l then A else A.map (·.add l)) (hm:m+l=n) (hq:q+l=c) :
 SL w 1 (.slice E m q) m (zF (bs.drop l)):=by
 subst hE;obtain rfl:m=n-l:=by omega
 obtain rfl:q=c-l:=by omega
 have h:=hs.sub (show l≤n by omega) (wA5 n);have hn:=(zGK hs).1
 rwa [←zLk,wC4 (by rw[wK1];omega)] at h
def SL.mid {w:World} {A E:Option Addr} {n c l h m q:Nat} {bs:List Nat} (hs:SL w 1 (.slice A n c) n (zF bs)) (hE:E=if c=l then A else A.map (·.add l)) (hm:l+m=h) (hq:q+l=c) (hh:h≤n) :
 SL w 1 (.slice E m q) m (zF ((bs.drop l).take m)):=by
 subst hE;obtain rfl:m=h-l:=by omega
 obtain rfl:q=c-l:=by omega
 have h:=hs.sub (show l≤h by omega) hh
 rwa [←zLk] at h
def zHO {w:World} {g k:Nat} {t:TypeId} {s:List Nat} (hk:s.length=k) (h:Blk w g t (zF s).toArray) (hk2:k≤9000000000000000000:=by omega):SL w 1 (.slice (some ⟨g,0,none⟩) k k) k (zF s):=by
 have:=h.sl (size:=1) (n:=k) (c:=k) (by simp[zF,hk]) (by omega) (by omega);simpa using this
section
variable {o:Oper} {a:Act}
def zDP {x lo:Operand} (ho:o.op=.slice 45 x (some lo) none none) {A E:Option Addr} {n c l m q:Nat} (hE:E=if c=l then A else A.map (·.add l)) (hm:m+l=n) (hq:q+l=c) (hx:a.eval x=.slice A n c) (h1:a.eval lo=.int .i64 (l:Int)) (hc:n≤c) (w:World) :
 (execOp a.eval o).run Tryz.prog w=.ok (.value (.slice E m q)) w:=by
 subst hE;rw[zOR ho hx h1 (by omega) hc w,show n-l=m by omega,show c-l=q by omega]
def zRv {x lo hi:Operand} (ho:o.op=.slice 45 x (some lo) (some hi) none) {A E:Option Addr} {n c l h m q:Nat} (hE:E=if c=l then A else A.map (·.add l)) (hm:l+m=h) (hq:q+l=c) (hx:a.eval x=.slice A n c) (h1:a.eval lo=.int .i64 (l:Int)) (h2:a.eval hi=.int .i64 (h:Int)) (hh:h≤n) (hc:n≤c) (w:World) :
 (execOp a.eval o).run Tryz.prog w=.ok (.value (.slice E m q)) w:=by
 subst hE;rw[zNq ho hx h1 h2 (by omega) hh hc w,show h-l=m by omega,show c-l=q by omega]
def zFS {x y:Operand} {t2:TypeId} (ho:o.op=.binOp .add 3 x y t2) {i d r:Nat} (hr:i+d=r) (hx:a.eval x=.int .i64 (i:Int)) (hy:a.eval y=.int .i64 (d:Int)) (h:r<1000000000000) (w:World) :
 (execOp a.eval o).run Tryz.prog w=.ok (.value (.int .i64 (r:Int))) w:=by
 subst hr;exact yH ho hx hy h w
def ex_slice0 {x lo hi:Operand} (ho:o.op=.slice 45 x (some lo) (some hi) none) {g N:Nat} (hx:a.eval x=.slice (some ⟨g,0,none⟩) N N) (h1:a.eval lo=.int .i64 0) (h2:a.eval hi=.int .i64 (N:Int)) (w:World) :
 (execOp a.eval o).run Tryz.prog w=.ok (.value (.slice (some ⟨g,0,none⟩) N N)) w:=by
 have h:=zNq ho hx (l:=0) (h:=N) h1 h2 (by omega) (by omega) (by omega) w;rw[h]
 by_cases h0:N=0
 ·simp[h0]
 ·simp[h0,zBx]
end
attribute [local irreducible] zF zBV zAw ixN
def ReplIs (R:List Nat) (w:World) (e:Ending) (w':World):Prop:= ∃ B k d,e=.returned (.slice B k d)∧R.length=k∧SL w' 1 (.slice B k d) k (zF R)∧(B=none→d=0)∧Ext w w'
def zQv (A:Option Addr) (n c k1 k2 g1 g2:Nat) (bs o v:List Nat) (m0:Int) (w:World) (hs:SL w 1 (.slice A n c) n (zF bs)) (hA:A=none→c=0) (hlt: ∀ b∈bs,b<256) (hlo: ∀ b∈o,b<256) (hn:n≤1000000000)
 (ho:o.length=k1) (hk1:1≤k1) (hk2:k1≤2) (hv:v.length=k2) (hk3:1≤k2) (hk4:k2≤2) (hbo:Blk w g1 5 (zF o).toArray) (hbv:Blk w g2 5 (zF v).toArray) (hm:w.cell? ⟨0,0,none⟩=some (.int .i64 m0)) :
 Calls Tryz.prog 138 #[.slice A n c,.slice (some ⟨g1,0,none⟩) k1 k1,.slice (some ⟨g2,0,none⟩) k2 k2,.int .i64 (-1)] w (ReplIs (zBX bs o v) w):=by
 obtain⟨hl,hc⟩:=zGK hs;have hone:o≠[]:=by intro e;rw[e] at ho;simp at ho;omega
 have hm1:⟨0,0,none⟩=(⟨0,0,none⟩:Addr):=rfl
 have h00:0<w.heap.size:=by
  rcases wC5 w.heap.size with h | h
  ·unfold World.cell? at hm;rw[wA4 (by simp[h])] at hm;cases hm
  ·exact h
 have HMX:=zA (fun W (h:Ext w W)=>(h.cell (p:=⟨0,0,none⟩) h00).trans hm);have HCT:=zA (count_any A n c k1 g1 bs o _ m0 w hs hA hlt hlo ho hk1 (by omega) (by omega) hbo hm);have hroom:=zOw _ bs o hone rfl;have hrl:=zOD _ bs o v hone rfl;obtain⟨R,hR⟩: ∃ R,zBX bs o v=R:=⟨_,rfl⟩
 rw[hR];unfold zBX at hR;obtain⟨m,hcm⟩: ∃ m,zAw bs o=m:=⟨_,rfl⟩
 rw[hcm] at HCT hroom hrl hR;rw[hR] at hrl;have HR:=zA hR;have HC:=zA hcm;have HL:=zA hl;have HO:=zA ho;have HV:=zA hv;have HLT:=zA hlt;have HLO:=zA hlo
 have hmn:m≤n:=by
  rw[ho,hl] at hroom;have:m*1≤m*k1:=wN0 _ hk1;omega
 by_cases hm0:m=0
 ·have HRE:Hid (R=bs):=zA (by rw[←HR.out,hm0];unfold zBV;rfl);subst hm0;clear hR hcm hl ho hv hlt hlo hroom hrl HR HC hm hmn hm1;rw[HRE.out];go_enter Tryz.func138,Tryz.ntmps138
  go_wp2_with (first
   | (go_at_call 177;(with_reducible refine (HCT.out).mono ?_);rintro e w1 ⟨rfl,hx1⟩)
   | (at_builtin;go_must (refine wApf zCF rfl _ (.tmp 24) rfl w.heap.size (.slice none 0 0) 0 [] rfl (zAt _ _ _ _) _ n (zF bs) rfl (hs.ext hx1) (zGV bs) (by omega) (by omega) hx1.size ?_);intro B d w2 hown2 hgr2 hor2))
  go_ret;obtain⟨B',d',e2,hs2,hf2⟩:=zAG hown2;injection e2 with q1 q2 q3
  subst q1 q3;simp only[wB2,wL5] at hs2;refine⟨B,n,d, ?_,HL.out,hs2,own_none hown2,hx1.trans' (by exact (Below.refl _ w1).grown hgr2 hx1.size (fun k hk=>by cases hk))⟩;simp
 ·have hN: ∃ N:Nat,N=R.length∧(N:Int)=(n:Int)+(m:Int)*((k2:Int)-(k1:Int)):=by
   refine⟨R.length,rfl, ?_⟩;rw[ho,hv,hl] at hrl;rw[Int.mul_sub];have:((R.length+m*k1:Nat):Int)=((n+m*k2:Nat):Int):=by rw[hrl]
   push_cast at this
   omega
  obtain⟨N,hNR,hNI⟩:=hN
  have hmk:(m:Int)*((k2:Int)-(k1:Int))≤1000000000∧ -1000000000≤(m:Int)*((k2:Int)-(k1:Int)):=by
   have:k2=k1∨k2=k1+1∨k1=k2+1:=by omega
   rcases this with rfl | rfl | rfl
   ·simp
   ·rw[show ((k1+1:Nat):Int)-(k1:Int)=1 by omega];omega
   ·rw[show (k2:Int)-((k2+1:Nat):Int)= -1 by omega];omega
  have H42R:Hid (∀ W,(binOp .mul 3 (.int .i64 (m:Int)) (.int .i64 ((k2:Int)-(k1:Int)))).run Tryz.prog W=.ok (.int .i64 ((m:Int)*((k2:Int)-(k1:Int)))) W):=zA (fun W=>zHE _ _ _ (IntWalk.i64_in _ (by omega)) W);have hNN:N≤2000000000:=by omega
  have H43:Hid (IntKind.i64.wrap ((n:Int)+(m:Int)*((k2:Int)-(k1:Int)))=(N:Int)):=zA (by rw[←hNI];exact IntWalk.i64_in _ (by omega));generalize (m:Int)*((k2:Int)-(k1:Int))=q42 at *;have HNR:=zA hNR;have HONE:=zA hone;have HK1:Hid (decide ((0:Int)<(k1:Int))=true):=zA (by rw[wL0];omega);have hmk42:=hmk;have hb18:((-1:Int) !=0)=true:=rfl;have hb23:((m:Int) ==0)=false:=by simp[hm0]
  have hb23': ¬((m:Int)=0):=by omega
  have hm0':0<m:=by omega
  clear hR hcm hl ho hv hlt hlo hroom hrl hm hm1 hNI hmk hNR hone;go_enter Tryz.func138,Tryz.ntmps138
  go_wp2_with (first
   | (go_at_call 177;(with_reducible refine (HCT.out).mono ?_);rintro e w1 ⟨rfl,hx1⟩)
   | ((with_reducible apply gS 41);refine zB rfl (.int .i64 ((k2:Int)-(k1:Int))) (zMr rfl rfl rfl (by omega)) ?_)
   | ((with_reducible apply gS 42);refine zB rfl (.int .i64 q42) (qT rfl rfl rfl H42R.out) ?_)
   | ((with_reducible apply gS 43);refine zB rfl (.int .i64 (N:Int)) (qT rfl rfl rfl (zFN _ _ _ H43.out)) ?_)
   | ((with_reducible apply gS 44);refine zKT rfl (some 44) rfl _ _ rfl N (by omega) rfl rfl ?_;intro w2 g hb2 hx2 hg2)
   | ((with_reducible apply gS 47);refine zB rfl _ (xU rfl rfl rfl HK1.out) ?_))
  have hrow:RowB w2 g N []:=by
   unfold RowB;simpa using hb2
  have hxw:=hx1.trans hx2;have hg:w.heap.size≤g:=by have:=hx1.size;omega
  have HST0:Hid (zAw (bs.drop 0) o=m-0):=zA (by rw[wL3];exact HC.out);have HRR0:Hid ([]++zBV (m-0) (bs.drop 0) o v=R):=zA (by rw[wL3];exact HR.out);clear hb2 hx1 hx2 hg2 HC HR HCT H43 H42R hmk42;obtain⟨wo,rfl⟩: ∃ wo:World,wo=w2:=⟨_,rfl⟩
  go_loopw [11,12,49] (fun x y iv wr=> ∃ (k st d:Nat) (D:List Nat),k≤m∧iv=.int .i64 (k:Int)∧x=.int .i64 (d:Int)∧y=.int .i64 (st:Int)∧st≤n∧Hid (D.length=d)∧Hid (zAw (bs.drop st) o=m-k)∧Hid (D++zBV (m-k) (bs.drop st) o v=R)∧RowB wr g N D∧Ext w wr) (fun _ _ i _=>m-(intOf i).toNat)
  case atStart=>exact⟨0,0,0,[],by omega,rfl,rfl,rfl,by omega,zA rfl,HST0,HRR0,hrow,hxw⟩
  case round =>
   clear hrow hxw HST0 HRR0;obtain⟨k,st,d,D,hk,rfl,rfl,rfl,hst,HD,HCN,HRR,hr0,hx⟩:=hrel;obtain⟨Eb,hEb⟩: ∃ E,E=if c=st then A else A.map (·.add st):=⟨_,rfl⟩
   obtain⟨Ed,hEd⟩: ∃ E,E=if N=d then some ⟨g,0,none⟩ else (some ⟨g,0,none⟩:Option Addr).map (·.add d):=⟨_,rfl⟩
   have HEB:=zA hEb;have HED:=zA hEd;obtain⟨r,hrn⟩: ∃ r,r+st=n:=⟨n-st,by omega⟩
   obtain⟨cq,hcq⟩: ∃ q,q+st=c:=⟨c-st,by omega⟩
   have HTL:=zA (fun W (h:Ext w W)=>SL.tail (hs.ext h) hEb hrn hcq);clear hEb hEd
   by_cases hlt:k<m
   ·obtain⟨i,e1,e2,e3⟩:=zGq (m:=m-(k+1)) HONE.out (by rw[HCN.out];omega);rw[wK1,HL.out,HO.out] at e2;rw[HO.out,wM4] at e3;have e4:=HRR.out;rw[show m-k=m-(k+1)+1 by omega,zBV,e1,wF0,wM4,HO.out] at e4;have e5:=congrArg List.length e4;rw[wF3,wF3,wF3,wI8,wK1,HD.out,HL.out,HV.out, ←HNR.out,wO8 (by omega)] at e5;obtain⟨f,hfN⟩: ∃ f,f+d=N:=⟨N-d,by omega⟩
    obtain⟨sx,hsx⟩: ∃ r,st+i=r:=⟨_,rfl⟩
    obtain⟨sy,hsy⟩: ∃ r,sx+k1=r:=⟨_,rfl⟩
    obtain⟨d2,hd2⟩: ∃ r,d+i=r:=⟨_,rfl⟩
    obtain⟨d3,hd3⟩: ∃ r,d2+k2=r:=⟨_,rfl⟩
    obtain⟨f2,hf2⟩: ∃ f,f+d2=N:=⟨N-d2,by omega⟩
    have HIX:=zA (fun W (h:Ext w W)=>index_any _ r cq k1 g1 (bs.drop st) o _ m0 W (HTL.out W h) (by omega) (fun b hb=>HLT.out b (wG9 hb)) HLO.out HO.out (by omega) (by omega) (hbo.ext h) (HMX.out W h));rw[e1] at HIX;obtain⟨Ee,hEe⟩: ∃ E,E=if N=d2 then some ⟨g,0,none⟩ else (some ⟨g,0,none⟩:Option Addr).map (·.add d2):=⟨_,rfl⟩
    have HEE:=zA hEe;clear hEe;have HMD:=zA (fun W (h:Ext w W)=>SL.mid (hs.ext h) HEB.out hsx hcq (show sx≤n by omega));have HVS:=zA (fun W (h:Ext w W)=>zHO HV.out (hbv.ext h));have HXL:Hid (((bs.drop st).take i).length=i):=zA (by rw[wI8,wK1,HL.out];omega);have HDL:Hid ((D++(bs.drop st).take i).length=d2):=zA (by rw[wF3,HXL.out,HD.out,hd2]);have HDL2:Hid ((D++(bs.drop st).take i++v).length=d3):=zA (by rw[wF3,HDL.out,HV.out,hd3]);have HC2:Hid (zAw (bs.drop sy) o=m-(k+1)):=zA (by rw[←e3, ←hsy, ←hsx,wA0]);have HR2:Hid (D++(bs.drop st).take i++v++zBV (m-(k+1)) (bs.drop sy) o v=R):=zA (by rw[←e4, ←hsy, ←hsx,wA0 st i k1];simp only[wG2]);have e6:d3≤N:=by omega
    clear e1 e3 e4 e5 HCN HRR
    go_upto_region 15 with (first
     | ((with_reducible apply gS 54);refine zB rfl (.slice Eb r cq) (zDP rfl HEB.out hrn hcq rfl rfl (by omega)) ?_)
     | (go_at_call 178;(with_reducible refine (HIX.out _ hx).mono ?_);rintro e w3 ⟨rfl,hx3⟩)
     | ((with_reducible apply gS 57);refine zB rfl (.int .i64 (sx:Int)) (zFS rfl hsx rfl rfl (by omega)) ?_))
    have hx3':Ext w w3.drew:=(hx.trans hx3).drew;have hr3:RowB w3.drew g N D:=Blk.ext hr0 hx3.drew;clear hr0 hx hx3;refine jA (fun _=>True) (by kernel_rfl) ?_;refine zJ (k:=0) (by kernel_rfl) rfl (by rfl) (.int .i64 (d:Int)) (zC rfl rfl) trivial ?_;simp only[sP,sB,sC];refine zJ (k:=1) (by kernel_rfl) rfl (by rfl) (.slice (some ⟨g,0,none⟩) N N) (zC rfl rfl) trivial ?_;simp only[sP,sB,sC];refine zJ (k:=2) (by kernel_rfl) rfl (by rfl) (.int .i64 (d:Int)) (zC rfl rfl) trivial ?_;simp only[sP,sB,sC];refine zJ (k:=3) (by kernel_rfl) rfl (by rfl) (.slice Ed f f) (zDP rfl HED.out hfN hfN rfl rfl (by omega)) trivial ?_;simp only[sP,sB,sC];refine zJ (k:=4) (by kernel_rfl) rfl (by rfl) (.slice A n c) (zC rfl rfl) trivial ?_;simp only[sP,sB,sC];refine zJ (k:=5) (by kernel_rfl) rfl (by rfl) (.int .i64 (st:Int)) (zC rfl rfl) trivial ?_;simp only[sP,sB,sC];refine zJ (k:=6) (by kernel_rfl) rfl (by rfl) (.int .i64 (sx:Int)) (zC rfl rfl) trivial ?_;simp only[sP,sB,sC];refine zJ (k:=7) (by kernel_rfl) rfl (by rfl) (.slice Eb i cq) (zRv rfl HEB.out hsx hcq rfl rfl rfl (by omega) (by omega)) trivial ?_;simp only[sP,sB,sC];refine qO (k:=8) (by kernel_rfl) rfl ?_;refine zFP rfl (some 66) rfl (.tmp 61) (.tmp 65) rfl g N d f i _ D ((bs.drop st).take i) _ Ed HED.out rfl hfN rfl (HMD.out _ hx3') HXL.out HD.out (by omega) hr3 hx3' hg ?_;intro w4 hr4 hx4;refine zX ⟨trivial, ?_⟩;simp only[Act.put,sA,sB,sC];refine zJ (k:=9) (by kernel_rfl) rfl (by rfl) (.int .i64 (d2:Int)) (zFS rfl hd2 rfl rfl (by omega)) trivial ?_;simp only[sP,sB,sC];refine zJ (k:=10) (by kernel_rfl) rfl (by rfl) (.int .i64 (d2:Int)) (zW rfl rfl) trivial ?_;simp only[sP,sB,sC];refine uX (by kernel_rfl) ?_
    go_wp2_with (first
     | ((with_reducible apply gS 71);refine zB rfl (.slice Ee f2 f2) (zDP rfl HEE.out hf2 hf2 rfl rfl (by omega)) ?_)
     | ((with_reducible apply gS 73);refine zFP rfl (some 73) rfl (.tmp 71) (.tmp 72) rfl g N d2 f2 k2 _ _ v _ Ee HEE.out rfl hf2 rfl (HVS.out _ hx4) HV.out HDL.out (by omega) hr4 hx4 hg ?_;intro w5 hr5 hx5)
     | ((with_reducible apply gS 74);refine zB rfl (.int .i64 (d3:Int)) (zFS rfl hd3 rfl rfl (by omega)) ?_)
     | ((with_reducible apply gS 78);refine zB rfl (.int .i64 (sy:Int)) (zFS rfl hsy rfl rfl (by omega)) ?_))
    go_roundw
    case rel=>exact⟨k+1,sy,d3,_,by omega,by go_num,rfl,rfl,by omega,HDL2,HC2,HR2,hr5,hx5⟩
    case measure=>simp[intOf];omega
   ·have hkm:m-k=0:=by omega
    have e4:=HRR.out;rw[hkm,zBV] at e4;have e5:=congrArg List.length e4;rw[wF3,wK1,HD.out,HL.out, ←HNR.out] at e5;have HRE:Hid (R=D++bs.drop st):=zA e4.symm;have HXL:Hid ((bs.drop st).length=r):=zA (by rw[wK1,HL.out];omega);have hdr:d+r=N:=by omega
    obtain⟨f,hfN⟩: ∃ f,f+d=N:=⟨N-d,by omega⟩
    clear hkm e4 HCN HRR;go_upto_region 28 with ((with_reducible apply gS 47);refine zB rfl _ (xU rfl rfl rfl HK1.out) ?_)
    have hx':Ext w wr.drew:=hx.drew;have hr0':RowB wr.drew g N D:=hr0;refine jA (fun _=>True) (by kernel_rfl) ?_;refine zJ (k:=0) (by kernel_rfl) rfl (by rfl) (.int .i64 (d:Int)) (zC rfl rfl) trivial ?_;simp only[sP,sB,sC];refine zJ (k:=1) (by kernel_rfl) rfl (by rfl) (.slice (some ⟨g,0,none⟩) N N) (zC rfl rfl) trivial ?_;simp only[sP,sB,sC];refine zJ (k:=2) (by kernel_rfl) rfl (by rfl) (.int .i64 (d:Int)) (zC rfl rfl) trivial ?_;simp only[sP,sB,sC];refine zJ (k:=3) (by kernel_rfl) rfl (by rfl) (.slice Ed f f) (zDP rfl HED.out hfN hfN rfl rfl (by omega)) trivial ?_;simp only[sP,sB,sC];refine zJ (k:=4) (by kernel_rfl) rfl (by rfl) (.slice A n c) (zC rfl rfl) trivial ?_;simp only[sP,sB,sC];refine zJ (k:=5) (by kernel_rfl) rfl (by rfl) (.int .i64 (st:Int)) (zC rfl rfl) trivial ?_;simp only[sP,sB,sC];refine zJ (k:=6) (by kernel_rfl) rfl (by rfl) (.slice Eb r cq) (zDP rfl HEB.out hrn hcq rfl rfl (by omega)) trivial ?_;simp only[sP,sB,sC];refine qO (k:=7) (by kernel_rfl) rfl ?_;refine zFP rfl (some 127) rfl (.tmp 123) (.tmp 126) rfl g N d f r _ D (bs.drop st) _ Ed HED.out rfl hfN rfl (HTL.out _ hx') HXL.out HD.out (by omega) hr0 hx' hg ?_;intro w4 hr4 hx4;refine zX ⟨trivial, ?_⟩;simp only[Act.put,sA,sB,sC];refine zJ (k:=8) (by kernel_rfl) rfl (by rfl) (.int .i64 (N:Int)) (zFS rfl hdr rfl rfl (by omega)) trivial ?_;simp only[sP,sB,sC];refine zJ (k:=9) (by kernel_rfl) rfl (by rfl) (.int .i64 (N:Int)) (zW rfl rfl) trivial ?_;simp only[sP,sB,sC];refine uX (by kernel_rfl) ?_;go_wp2_with ((with_reducible apply gS 131);refine zB rfl (.slice (some ⟨g,0,none⟩) N N) (ex_slice0 rfl rfl rfl rfl) ?_)
    go_ret;refine⟨some ⟨g,0,none⟩,N,N,rfl,HNR.out.symm, ?_,(fun h=>by cases h),hx4⟩;unfold RowB at hr4;rw[←HRE.out, ←HNR.out,wF9,wP0,wG6] at hr4;exact zHO HNR.out.symm hr4
end
def Kept (w:World) (VS:List Value) (P:List (List Nat)) (r1 r2:Option Nat):Prop :=
 Pieces w VS P∧ ∀ V∈VS, ∀ b,V.ownBlock=some b→b<w.heap.size∧r1≠some b∧r2≠some b
def Kept.nil (w:World) (r1 r2:Option Nat):Kept w [] [] r1 r2:=⟨⟨rfl,fun i h=>by simp at h⟩,fun V h=>by cases h⟩
def Kept.ext {w w':World} {VS:List Value} {P:List (List Nat)} {r1 r2:Option Nat} (h:Kept w VS P r1 r2) (hx:Ext w w'):Kept w' VS P r1 r2 :=
 ⟨h.1.ext hx,fun V hV b hb=>by obtain⟨h1,h2,h3⟩:=h.2 V hV b hb;exact⟨wA1 h1 hx.size,h2,h3⟩⟩
def Kept.swap {w:World} {VS:List Value} {P:List (List Nat)} {r1 r2:Option Nat} (h:Kept w VS P r1 r2):Kept w VS P r2 r1 :=
 ⟨h.1,fun V hV b hb=>by obtain⟨h1,h2,h3⟩:=h.2 V hV b hb;exact⟨h1,h3,h2⟩⟩
def Pieces.upd {S:Nat→Prop} {w w':World} {VS:List Value} {P:List (List Nat)} (h:Pieces w VS P) (hu:Upd S w w') (hS: ∀ V∈VS, ∀ b,V.ownBlock=some b→ ¬S b):Pieces w' VS P :=
 ⟨h.1,fun i hi=>by
  obtain⟨A,c,h1,h2⟩:=h.2 i hi;refine⟨A,c,h1,h2.upd hu fun ad e=>hS _ (wK5 h1) _ ?_⟩
  rw[zBv,e];rfl⟩
def Kept.grown {w w':World} {VS:List Value} {P:List (List Nat)} {r1 r1' r2:Option Nat} (h:Kept w VS P r1 r2) (hg:w.grownBy w' r1) (hr:r1'=r1∨r1'=some w.heap.size):Kept w' VS P r1' r2:=by
 have hu:=zO hg;refine⟨h.1.upd hu fun V hV b hb e=>(h.2 V hV b hb).2.1 e,fun V hV b hb=> ?_⟩;obtain⟨h1,h2,h3⟩:=h.2 V hV b hb;refine⟨wA1 h1 hu.size, ?_,h3⟩;rcases hr with rfl | rfl
 ·exact h2
 ·intro e;injection e with e;omega
def Kept.grown1 {w w':World} {VS:List Value} {P:List (List Nat)} {v1:Value} {r2:Option Nat} {A:Option Addr} {n c:Nat} (h:Kept w VS P v1.ownBlock r2) (hg:w.grownBy w' v1.ownBlock) (hr:A.map (·.block)=v1.ownBlock∨A.map (·.block)=some w.heap.size):Kept w' VS P (Value.slice A n c).ownBlock r2:=by
 rw[zBv];exact h.grown hg hr
def Kept.grown2 {w w':World} {VS:List Value} {P:List (List Nat)} {v2:Value} {r1:Option Nat} {A:Option Addr} {n c:Nat} (h:Kept w VS P r1 v2.ownBlock) (hg:w.grownBy w' v2.ownBlock) (hr:A.map (·.block)=v2.ownBlock∨A.map (·.block)=some w.heap.size):Kept w' VS P r1 (Value.slice A n c).ownBlock :=
 (h.swap.grown1 hg hr).swap
def Kept.upd {S:Nat→Prop} {w w':World} {VS:List Value} {P:List (List Nat)} {r1 r2:Option Nat} (h:Kept w VS P r1 r2) (hu:Upd S w w') (hS: ∀ V∈VS, ∀ b,V.ownBlock=some b→ ¬S b):Kept w' VS P r1 r2 :=
 ⟨h.1.upd hu hS,fun V hV b hb=>by obtain⟨h1,h2,h3⟩:=h.2 V hV b hb;exact⟨wA1 h1 hu.size,h2,h3⟩⟩
def Two.upd {S:Nat→Prop} {w0 w w':World} {B:Nat} {e1 e2:TypeId} {v1 v2:Value} {n1 n2:Nat} {xs1 xs2:List Value} (h:Two w0 w B e1 e2 v1 v2 n1 n2 xs1 xs2 none none) (hu:Upd S w w') (h0: ∀ b,S b→w0.heap.size≤b)
 (hS1: ∀ b,v1.ownBlock=some b→ ¬S b) (hS2: ∀ b,v2.ownBlock=some b→ ¬S b):Two w0 w' B e1 e2 v1 v2 n1 n2 xs1 xs2 none none :=
 ⟨hu.ext h.ext h0,⟨h.base.1,wD1 h.base.2 hu.size⟩,vM h.p hu hS1,vM h.m hu hS2,h.d,(fun _ _ e=>by cases e),(fun _ _ e=>by cases e)⟩
structure Cur (w0 w:World) (B:Nat) (e1 e2 e3:TypeId) (v1 v2 v3:Value) (n1 n2 n3:Nat) (VS xs2 xs3:List Value) (P:List (List Nat)):Prop where
 two:Two w0 w B e1 e2 v1 v2 n1 n2 VS xs2 none none
 kept:Kept w VS P v1.ownBlock v2.ownBlock
 cur:w.ownsRow B e3 1 v3 n3 xs3
 d1: ∀ b,v3.ownBlock=some b→v1.ownBlock≠some b∧v2.ownBlock≠some b
 d2: ∀ V∈VS, ∀ b,V.ownBlock=some b→v3.ownBlock≠some b
section
variable {w0 w w':World} {B:Nat} {e1 e2 e3:TypeId} {v1 v2 v3 v3':Value} {n1 n2 n3 m3:Nat} {VS xs2 xs3 ys3:List Value} {P:List (List Nat)}
def Cur.later (h:Cur w0 w B e1 e2 e3 v1 v2 v3 n1 n2 n3 VS xs2 xs3 P) (hx:Ext w w'):Cur w0 w' B e1 e2 e3 v1 v2 v3 n1 n2 n3 VS xs2 xs3 P :=
 ⟨h.two.later hx,h.kept.ext hx,yR h.cur hx,h.d1,h.d2⟩
def Cur.grow (h:Cur w0 w B e1 e2 e3 v1 v2 v3 n1 n2 n3 VS xs2 xs3 P) (ho:w'.ownsRow B e3 1 v3' m3 ys3) (hg:w.grownBy w' v3.ownBlock) (hr:v3'.ownBlock=v3.ownBlock∨v3'.ownBlock=some w.heap.size):Cur w0 w' B e1 e2 e3 v1 v2 v3' n1 n2 m3 VS xs2 ys3 P:=by
 have hu:=zO hg;refine⟨h.two.upd hu (fun b hb=>by have:=(h.cur.lt b hb).1;have:=h.two.base.1;omega) (fun b hb e=>(h.d1 b e).1 hb) (fun b hb e=>(h.d1 b e).2 hb),h.kept.upd hu (fun V hV b hb e=>h.d2 V hV b hb e),ho,fun b hb=> ?_,fun V hV b hb=> ?_⟩
 ·rcases hr with e | e
  ·exact h.d1 b (e ▸ hb)
  ·rw[e] at hb;injection hb with hb
   exact⟨fun e2=>by have:=(h.two.p.lt b e2).2;omega,fun e2=>by have:=(h.two.m.lt b e2).2;omega⟩
 ·rcases hr with e | e
  ·rw[e];exact h.d2 V hV b hb
  ·rw[e];intro e2;injection e2 with e2
   have:=(h.kept.2 V hV b hb).1;omega
end
def Kept.snoc {w:World} {VS:List Value} {P:List (List Nat)} {r1 r2:Option Nat} {B:Nat} {e:TypeId} {A:Option Addr} {n c:Nat} {l:List Nat} (h:Kept w VS P r1 r2) (ho:w.ownsRow B e 1 (.slice A n c) n (zF l)) (hn:l.length=n)
 (hd: ∀ b,(Value.slice A n c).ownBlock=some b→r1≠some b∧r2≠some b):Kept w (VS++[.slice A n c]) (P++[l]) r1 r2:=by
 refine⟨h.1.snoc hn (by obtain⟨B9,d9,e9,h9, -⟩:=zAG ho;injection e9 with e1 e2 e3;subst e1 e3;exact h9),fun V hV b hb=> ?_⟩;rcases wE6.1 hV with h1 | h1
 ·exact h.2 V h1 b hb
 ·obtain rfl:V=.slice A n c:=by simpa using h1
  exact⟨(ho.lt b hb).2,hd b hb⟩
def two_sl (w:World) (T:TypeId) (x y:Value):SL (w.alloc (.cells #[x,y] T)) 1 (.slice (some ⟨w.heap.size,0,none⟩) 2 2) 2 [x,y] :=
 ⟨_,_,rfl,by omega,by omega,rfl,fun _=>⟨_,rfl,(Blk.new w T #[x,y]).lt,fun j u hu=>by
  have hc:=(Blk.new w T #[x,y]).cell j;rw[zBx];simp only[wB2];rw[hc, ←hu]
  simp⟩⟩
def two_one: ∀ u∈[Value.int .u8 255,Value.int .u8 0],u.oneCell'=true:=by
 intro u hu;simp at hu;rcases hu with rfl | rfl<;>rfl
def zRy (C:List Nat):zF (C++[255,0])=zF C++[.int .u8 255,.int .u8 0]:=by simp[zF]
def NZ (VS:List Value):Prop:= ∀ u∈VS, ∀ A n c,u=Value.slice A n c→A=none→c=0
def NZ.nil:NZ []:=fun _ h=>by cases h
def NZ.snoc {VS:List Value} {A:Option Addr} {n c:Nat} (h:NZ VS) (h2:A=none→c=0):NZ (VS++[.slice A n c]):=by
 intro u hu A' n' c' e e0;rcases wE6.1 hu with hu | hu
 ·exact h u hu A' n' c' e e0
 ·simp at hu;rw[hu] at e;injection e with e1 e2 e3
  rw[←e3];exact h2 (by rw[e1];exact e0)
def own_nz {w:World} {base size n c:Nat} {e:TypeId} {A:Option Addr} {xs:List Value} (ho:w.ownsRow base e size (.slice A n c) n xs):A=none→c=0:=by
 obtain⟨-,hh⟩:=ho;rcases hh with ⟨h1, -⟩ | ⟨k,cap,cur,h1, -⟩
 ·injection h1 with _ _ h3;exact fun _=>h3
 ·injection h1 with h2 _ _;exact fun h=>by rw[h] at h2;cases h2
def SpIsN (z:Option (List (List Nat)×List Nat)) (w:World) (e:Ending) (w':World):Prop :=
 match z with
 | none=>e=.returned (.tuple #[.slice none 0 0,.slice none 0 0,.int .i64 4])∧Ext w w'
 | some (P,M)=> ∃ A c B d VS,e=.returned (.tuple #[.slice A P.length c,.slice B M.length d,.int .i64 0])∧SL w' 1 (.slice A P.length c) P.length VS∧Pieces w' VS P∧SL w' 1 (.slice B M.length d) M.length (ints (M.map Int.ofNat))∧Ext w w'∧NZ VS
def SpIsN.is {z:Option (List (List Nat)×List Nat)} {w w':World} {e:Ending} (h:SpIsN z w e w'):SpIs z w e w':=by
 cases z with
 | none=>exact h
 | some q =>
   obtain⟨P,M⟩:=q;obtain⟨A,c,B,d,VS,h1,h2,h3,h4,h5, -⟩:=h;exact⟨A,c,B,d,VS,h1,h2,h3,h4,h5⟩
def SpIsF (z:Option (List (List Nat)×List Nat)) (w:World) (e:Ending) (w':World):Prop :=
 match z with
 | none=>e=.returned (.tuple #[.slice none 0 0,.slice none 0 0,.int .i64 4])∧Ext w w'
 | some (P,M)=> ∃ A c B d VS,e=.returned (.tuple #[.slice A P.length c,.slice B M.length d,.int .i64 0])∧SL w' 1 (.slice A P.length c) P.length VS∧Pieces w' VS P∧SL w' 1 (.slice B M.length d) M.length (ints (M.map Int.ofNat))∧Ext w w'∧NZ VS ∧
    (∀ ad,A=some ad→w.heap.size≤ad.block)∧ ∀ ad,B=some ad→w.heap.size≤ad.block
def SpIsF.n {z:Option (List (List Nat)×List Nat)} {w w':World} {e:Ending} (h:SpIsF z w e w'):SpIsN z w e w':=by
 cases z with
 | none=>exact h
 | some q =>
   obtain⟨P,M⟩:=q;obtain⟨A,c,B,d,VS,h1,h2,h3,h4,h5,h6, -⟩:=h;exact⟨A,c,B,d,VS,h1,h2,h3,h4,h5,h6⟩
def zRs (bs:List Nat) (v:Value) (w:World) (hv:SL w 1 v bs.length (zF bs)) (hlt: ∀ b∈bs,b<256) (hn:bs.length≤1048576) :
 Calls Tryz.prog 34 #[v] w (SpIsF (xY bs [] [] []) w):=by
 have HB:=zA hlt;have hv':=hv;obtain⟨A,c,rfl,hc1,hc2, -, -⟩:=hv';obtain⟨ez,hez⟩: ∃ ez,ez=xY bs [] [] []:=⟨_,rfl⟩
 have HEZ:=zA hez;rw[←hez];clear hez hlt;have HSE:=zA (fun i P M c (h:bs.length≤i)=>sp_end (bs:=bs) (i:=i) (P:=P) (M:=M) (c:=c) h);have HSP:=zA (fun i P M c (h:i<bs.length) hx=>sp_plain (bs:=bs) (i:=i) (P:=P) (M:=M) (c:=c) h hx);have HS2:=zA (fun i P M c (h:i+1<bs.length) hx=>sp_two (bs:=bs) (i:=i) (P:=P) (M:=M) (c:=c) h hx);have HSL:=zA (fun i P M c (h:i+1=bs.length) hx=>sp_last (bs:=bs) (i:=i) (P:=P) (M:=M) (c:=c) h hx);obtain⟨n,hnn⟩: ∃ n,n=bs.length:=⟨_,rfl⟩
 have HBL:Hid (bs.length=n):=zA hnn.symm;rw[←hnn] at hv hn hc1 ⊢;clear hnn;go_enter Tryz.func34,Tryz.ntmps34;go_wp2_with fail
 go_loopw [5,6,7,8] (fun s1 s2 s3 iv wr=> ∃ (i:Nat) (P:List (List Nat)) (M C:List Nat) (A1:Option Addr) (c1:Nat) (A2:Option Addr) (c2:Nat) (A3:Option Addr) (c3:Nat) (VS:List Value),i≤n∧P.length≤i∧M.length≤i∧C.length≤i∧iv=.int .i64 (i:Int)∧s1=.slice A1 P.length c1∧s2=.slice A2 M.length c2∧s3=.slice A3 C.length c3 ∧
  Cur w wr w.heap.size 45 3 5 (.slice A1 P.length c1) (.slice A2 M.length c2) (.slice A3 C.length c3) P.length M.length C.length VS (ints (M.map Int.ofNat)) (zF C) P∧Hid (ez=xY (bs.drop i) P M C)∧Hid (NZ VS)) (fun _ _ _ i _=>n-(intOf i).toNat)
 case atStart=>exact⟨0,[],[],[],none,0,none,0,none,0,[],by omega,by simp,by simp,by simp,rfl,rfl,rfl,rfl,⟨⟨Ext.refl _,⟨wA5 _,wA5 _⟩,zAt _ _ _ _,zAt _ _ _ _,(fun b h=>by simp[Value.ownBlock] at h),(fun _ _ h=>by cases h),(fun _ _ h=>by cases h)⟩,Kept.nil _ _ _,zAt _ _ _ _,(fun b h=>by simp[Value.ownBlock] at h),(fun _ h=>by cases h)⟩,HEZ,zA NZ.nil⟩
 case round =>
  clear HEZ;obtain⟨i,P,M,C,A1,c1,A2,c2,A3,c3,VS,hi,hPl,hMl,hCl,rfl,rfl,rfl,rfl,hC,HEZ,HNZ⟩:=hrel;have HN3:=zA (own_nz hC.cur)
  by_cases hlt:i<n
  ·have hil:i<bs.length:=by rw[HBL.out];exact hlt
   obtain⟨ad,u,rfl,hab,hxk,hcell⟩:=(hv.ext hC.two.ext).at1 hlt;obtain⟨hkl,rfl⟩:=zHM hxk;have hx8:bs[i]<256:=HB.out _ (wE2 hil);have HPP:=zA (fun hx=>HEZ.out.trans (HSP.out i P M C hil hx))
   by_cases hx:bs[i]=255
   ·by_cases h1:i+1=n
    ·have HER:Hid (ez=none):=zA (HEZ.out.trans (HSL.out i P M _ (by rw[HBL.out];exact h1) hx));have hd:decide ((i:Int)+1=(n:Int))=true:=by simp;omega
     have hd2:((i:Int)+1 ==(n:Int))=true:=by simp;omega
     have hwr:IntKind.i64.wrap ((i:Int)+1)=(i:Int)+1:=IntWalk.i64_in _ (by omega);clear HPP HEZ;rw[hx] at hcell;clear hxk hx8;go_wp2_with fail;go_ret3
     rw[HER.out];exact⟨rfl,hC.two.ext⟩
    ·have h1':i+1<n:=by omega
     obtain⟨ad2,u2,e2, -,hyk,hcell2⟩:=(hv.ext hC.two.ext).at1 h1';injection e2 with e2
     subst e2;obtain⟨hkl2,rfl⟩:=zHM hyk;have hy:bs[i+1]<256:=HB.out _ (wE2 hkl2);have HT:=zA (HEZ.out.trans (HS2.out i P M _ hkl2 hx));have hd:decide ((i:Int)+1=(n:Int))=false:=by simp;omega
     have hd2:((i:Int)+1 ==(n:Int))=false:=by simp;omega
     have hdI: ¬((i:Int)+1=(n:Int)):=by omega
     have hwr:IntKind.i64.wrap ((i:Int)+1)=(i:Int)+1:=IntWalk.i64_in _ (by omega);have hwr2:IntKind.i64.wrap ((i:Int)+1+1)=(i:Int)+1+1:=IntWalk.i64_in _ (by omega);have hwr3:IntKind.i64.wrap ((i:Int)+2)=(i:Int)+2:=IntWalk.i64_in _ (by omega);have hi1:i+1<n:=h1';have hi1I:(i:Int)+1<(n:Int):=by omega
     clear HPP HEZ hxk hyk hx8;rw[hx] at hcell
     by_cases hy1:bs[i+1]=255
     ·rw[if_pos hy1] at HT;rw[hy1] at hcell2;have hcell3:=hcell2;unfold Addr.add at hcell3;rw[if_neg (by omega)] at hcell3;clear hy hy1;go_wp2_with fail;go_ret3
      rw[HT.out];exact⟨rfl,hC.two.ext⟩
     ·rw[if_neg hy1] at HT;have hyI: ¬(((bs[i+1]:Nat):Int)=255):=by omega
      have hyb:(((bs[i+1]:Nat):Int) ==255)=false:=by simp;omega
      by_cases hy0:bs[i+1]=0
      ·rw[if_pos hy0] at HT;rw[hy0] at hcell2;have hcell3:=hcell2;unfold Addr.add at hcell3;rw[if_neg (by omega)] at hcell3;clear hy hy1 hyI hyb hy0;go_wp2_with (at_builtin;go_must (refine wApf zCF rfl _ _ rfl w.heap.size (.slice A3 C.length c3) _ _ rfl (hC.cur.alloc _) _ 2 [.int .u8 255,.int .u8 0] rfl (two_sl _ _ _ _) two_one (by omega) (by omega) (by have:=hC.two.base.2;simp;omega) ?_);intro A7 c7 w7 ho7 hg7 hr7)
       have hC7:=(hC.later ((Ext.refl wr).alloc (.cells #[.int .u8 255,.int .u8 0] 5))).grow ho7 hg7 (by rw[zBv];exact hr7);go_roundw
       case rel =>
        refine⟨i+2,P,M,C++[255,0],A1,c1,A2,c2,A7,c7,VS,by omega,by omega,by omega,by simp;omega,by go_num,rfl,rfl,by rw[wF3];rfl, ?_,HT,HNZ⟩;rw[wF3,zRy];exact hC7
       case measure=>simp[intOf];omega
      ·rw[if_neg hy0] at HT;have hdy:decide ((0:Int)<((bs[i+1]:Nat):Int))=true:=by simp;omega
       have hy0I:0<bs[i+1]:=by omega
       have HCX: ∀ W,Ext w W→W.cell? (ad.add ((i+1)*1))=some (.int .u8 ((bs[i+1]:Nat):Int)):=fun W hW=>by
        rw[wF1];obtain⟨ad3,u3,e3, -,hk3,hc3⟩:=(hv.ext hW).at1 h1';injection e3 with e3
        subst e3;obtain⟨_,hu⟩:=zHM hk3;rw[hc3,hu]
       generalize bs[i+1]=y at *
       try clear hx
       have hcell3:=hcell2;unfold Addr.add at hcell3;rw[if_neg (by omega)] at hcell3;have hI:Ext w wr.drew:=hC.two.ext.drew;have hCd:=hC.later (Ext.refl wr).drew;have T0:=hCd.two;have K0:=hCd.kept.snoc hCd.cur rfl hCd.d1;clear hCd;go_wp2_with fail;refine jA (Ext w) (by kernel_rfl) ?_;refine zJ (k:=0) (by kernel_rfl) rfl (by rfl) (.slice A1 P.length c1) (zC rfl rfl) hI ?_;simp only[sP,sB,sC];refine zJ (k:=1) (by kernel_rfl) rfl (by rfl) (.slice A3 C.length c3) (zC rfl rfl) hI ?_;simp only[sP,sB,sC];refine zJ (k:=4) (by kernel_rfl) rfl (by rfl) (.slice A2 M.length c2) (zC rfl rfl) hI ?_;simp only[sP,sB,sC];refine zJ (k:=5) (by kernel_rfl) rfl (by rfl) (.slice (some ad) n c) (zC rfl rfl) hI ?_;simp only[sP,sB,sC];refine zJ (k:=6) (by kernel_rfl) rfl (by rfl) (.int .i64 ((i+1:Nat):Int)) (zC rfl rfl) hI ?_;simp only[sP,sB,sC];refine zJ (k:=7) (by kernel_rfl) rfl (by rfl) (.pointer (some (ad.add ((i+1)*1)))) (vJ Tryz.underlying45 zJZ rfl rfl rfl hi1) hI ?_;simp only[sP,sB,sC];refine xM (k:=8) (by kernel_rfl) rfl (by rfl) (.int .u8 ((y:Nat):Int)) (fun W hW=>zKp rfl rfl (HCX W hW)) hI ?_;simp only[Act.put,sA,sB,sC];refine zJ (k:=9) (by kernel_rfl) rfl (by rfl) (.int .i64 ((y:Nat):Int)) (zMk rfl rfl (zIJ y hy)) hI ?_;simp only[sP,sB,sC];refine oi_two (k:=2) (l:=10) (by kernel_rfl) rfl rfl ?_ ?_
       ·refine wLit1 rfl 71 45 (.tmp 30) rfl (some 31) rfl Tryz.underlying71 1 zIg zeroBs _ rfl rfl (by omega) (by omega) ?_;intro w1 g1 hb1 hx1 hg1;have T1:=T0.lit1 (v:=(.slice A3 C.length c3)) hb1 hx1 hg1;have K1:=K0.ext hx1;clear hb1 hx1 hg1;refine zX ⟨T1.ext, ?_⟩;simp only[Act.put,sA,sB,sC];refine oi_two (k:=3) (l:=10) (by kernel_rfl) rfl rfl ?_ ?_
        ·refine wApf zJb rfl _ _ rfl w.heap.size (.slice A1 P.length c1) P.length VS rfl T1.p _ 1 [(.slice A3 C.length c3)] rfl (zBh (T1.a1 _ _ rfl).1) (zJJ rfl) (by omega) (by omega) T1.base.2 ?_;intro B1 d1 w2 ho2 hg2 hr2;have T2:=T1.app1' ho2 hg2 hr2;have K2:=K1.grown1 (n:=P.length+1) (c:=d1) hg2 hr2;clear ho2 hg2 hr2;refine zX ⟨T2.ext, ?_⟩;simp only[Act.put,sA,sB,sC];refine qO (k:=10) (by kernel_rfl) rfl ?_;refine wLit1 rfl 22 3 (.tmp 38) rfl (some 39) rfl Tryz.underlying22 1 qW zJW _ rfl rfl (by omega) (by omega) ?_;intro w3 g3 hb3 hx3 hg3;have T3:=T2.lit2 (v:=.int .i64 (y:Int)) hb3 hx3 hg3;have K3:=K2.ext hx3;clear hb3 hx3 hg3;refine zX ⟨T3.ext, ?_⟩;simp only[Act.put,sA,sB,sC];refine qO (k:=11) (by kernel_rfl) rfl ?_;refine wApf zHd rfl _ _ rfl w.heap.size (.slice A2 M.length c2) M.length (ints (M.map Int.ofNat)) rfl T3.m _ 1 [.int .i64 (y:Int)] rfl (zBh (T3.a2 _ _ rfl).1) (zGX _) (by omega) (by omega) T3.base.2 ?_;intro B2 d2 w4 ho4 hg4 hr4;have T4:=T3.app2' ho4 hg4 hr4;have K4:=K3.grown2 (n:=M.length+1) (c:=d2) hg4 hr4;clear ho4 hg4 hr4;refine zX ⟨T4.ext, ?_⟩;simp only[Act.put,sA,sB,sC];refine zJ (k:=12) (by kernel_rfl) rfl (by rfl) (.slice B1 (P.length+1) d1) (zW rfl rfl) T4.ext ?_;simp only[sP,sB,sC];refine zJ (k:=13) (by kernel_rfl) rfl (by rfl) (.slice B2 (M.length+1) d2) (zW rfl rfl) T4.ext ?_;simp only[sP,sB,sC];refine zJ (k:=14) (by kernel_rfl) rfl (by rfl) (.slice none 0 0) (zW rfl rfl) T4.ext ?_;simp only[sP,sB,sC];refine uX (by kernel_rfl) ?_;go_wp2_with fail;go_roundw
         case rel =>
          refine⟨i+2,P++[C],M++[y],[],B1,d1,B2,d2,none,0,VS++[.slice A3 C.length c3],by omega,by simp;omega,by simp;omega,by simp,by go_num,by rw[wF3];rfl,by rw[wF3];rfl,rfl, ?_,zA HT.out,zA (HNZ.out.snoc HN3.out)⟩;rw[wF3,wF3,wH4,uR];exact⟨T4,K4,zAt _ _ _ _,(fun b h=>by cases h),(fun _ _ _ _ h=>by cases h)⟩
         case measure=>simp[intOf];omega
        ·refine wLit1 rfl 22 3 (.tmp 38) rfl (some 39) rfl Tryz.underlying22 1 qW zJW _ rfl rfl (by omega) (by omega) ?_;intro w2 g2 hb2 hx2 hg2;have T2:=T1.lit2 (v:=.int .i64 (y:Int)) hb2 hx2 hg2;have K2:=K1.ext hx2;clear hb2 hx2 hg2;refine zX ⟨T2.ext, ?_⟩;simp only[Act.put,sA,sB,sC];refine qO (k:=3) (by kernel_rfl) rfl ?_;refine wApf zJb rfl _ _ rfl w.heap.size (.slice A1 P.length c1) P.length VS rfl T2.p _ 1 [(.slice A3 C.length c3)] rfl (zBh (T2.a1 _ _ rfl).1) (zJJ rfl) (by omega) (by omega) T2.base.2 ?_;intro B1 d1 w3 ho3 hg3 hr3;have T3:=T2.app1' ho3 hg3 hr3;have K3:=K2.grown1 (n:=P.length+1) (c:=d1) hg3 hr3;clear ho3 hg3 hr3;refine zX ⟨T3.ext, ?_⟩;simp only[Act.put,sA,sB,sC];refine qO (k:=11) (by kernel_rfl) rfl ?_;refine wApf zHd rfl _ _ rfl w.heap.size (.slice A2 M.length c2) M.length (ints (M.map Int.ofNat)) rfl T3.m _ 1 [.int .i64 (y:Int)] rfl (zBh (T3.a2 _ _ rfl).1) (zGX _) (by omega) (by omega) T3.base.2 ?_;intro B2 d2 w4 ho4 hg4 hr4;have T4:=T3.app2' ho4 hg4 hr4;have K4:=K3.grown2 (n:=M.length+1) (c:=d2) hg4 hr4;clear ho4 hg4 hr4;refine zX ⟨T4.ext, ?_⟩;simp only[Act.put,sA,sB,sC];refine zJ (k:=12) (by kernel_rfl) rfl (by rfl) (.slice B1 (P.length+1) d1) (zW rfl rfl) T4.ext ?_;simp only[sP,sB,sC];refine zJ (k:=13) (by kernel_rfl) rfl (by rfl) (.slice B2 (M.length+1) d2) (zW rfl rfl) T4.ext ?_;simp only[sP,sB,sC];refine zJ (k:=14) (by kernel_rfl) rfl (by rfl) (.slice none 0 0) (zW rfl rfl) T4.ext ?_;simp only[sP,sB,sC];refine uX (by kernel_rfl) ?_;go_wp2_with fail;go_roundw
         case rel =>
          refine⟨i+2,P++[C],M++[y],[],B1,d1,B2,d2,none,0,VS++[.slice A3 C.length c3],by omega,by simp;omega,by simp;omega,by simp,by go_num,by rw[wF3];rfl,by rw[wF3];rfl,rfl, ?_,zA HT.out,zA (HNZ.out.snoc HN3.out)⟩;rw[wF3,wF3,wH4,uR];exact⟨T4,K4,zAt _ _ _ _,(fun b h=>by cases h),(fun _ _ _ _ h=>by cases h)⟩
         case measure=>simp[intOf];omega
       ·refine wLit1 rfl 22 3 (.tmp 38) rfl (some 39) rfl Tryz.underlying22 1 qW zJW _ rfl rfl (by omega) (by omega) ?_;intro w1 g1 hb1 hx1 hg1;have T1:=T0.lit2 (v:=.int .i64 (y:Int)) hb1 hx1 hg1;have K1:=K0.ext hx1;clear hb1 hx1 hg1;refine zX ⟨T1.ext, ?_⟩;simp only[Act.put,sA,sB,sC];refine qO (k:=2) (by kernel_rfl) rfl ?_;refine wLit1 rfl 71 45 (.tmp 30) rfl (some 31) rfl Tryz.underlying71 1 zIg zeroBs _ rfl rfl (by omega) (by omega) ?_;intro w2 g2 hb2 hx2 hg2;have T2:=T1.lit1 (v:=(.slice A3 C.length c3)) hb2 hx2 hg2;have K2:=K1.ext hx2;clear hb2 hx2 hg2;refine zX ⟨T2.ext, ?_⟩;simp only[Act.put,sA,sB,sC];refine qO (k:=3) (by kernel_rfl) rfl ?_;refine wApf zJb rfl _ _ rfl w.heap.size (.slice A1 P.length c1) P.length VS rfl T2.p _ 1 [(.slice A3 C.length c3)] rfl (zBh (T2.a1 _ _ rfl).1) (zJJ rfl) (by omega) (by omega) T2.base.2 ?_;intro B1 d1 w3 ho3 hg3 hr3;have T3:=T2.app1' ho3 hg3 hr3;have K3:=K2.grown1 (n:=P.length+1) (c:=d1) hg3 hr3;clear ho3 hg3 hr3;refine zX ⟨T3.ext, ?_⟩;simp only[Act.put,sA,sB,sC];refine qO (k:=11) (by kernel_rfl) rfl ?_;refine wApf zHd rfl _ _ rfl w.heap.size (.slice A2 M.length c2) M.length (ints (M.map Int.ofNat)) rfl T3.m _ 1 [.int .i64 (y:Int)] rfl (zBh (T3.a2 _ _ rfl).1) (zGX _) (by omega) (by omega) T3.base.2 ?_;intro B2 d2 w4 ho4 hg4 hr4;have T4:=T3.app2' ho4 hg4 hr4;have K4:=K3.grown2 (n:=M.length+1) (c:=d2) hg4 hr4;clear ho4 hg4 hr4;refine zX ⟨T4.ext, ?_⟩;simp only[Act.put,sA,sB,sC];refine zJ (k:=12) (by kernel_rfl) rfl (by rfl) (.slice B1 (P.length+1) d1) (zW rfl rfl) T4.ext ?_;simp only[sP,sB,sC];refine zJ (k:=13) (by kernel_rfl) rfl (by rfl) (.slice B2 (M.length+1) d2) (zW rfl rfl) T4.ext ?_;simp only[sP,sB,sC];refine zJ (k:=14) (by kernel_rfl) rfl (by rfl) (.slice none 0 0) (zW rfl rfl) T4.ext ?_;simp only[sP,sB,sC];refine uX (by kernel_rfl) ?_;go_wp2_with fail;go_roundw
        case rel =>
         refine⟨i+2,P++[C],M++[y],[],B1,d1,B2,d2,none,0,VS++[.slice A3 C.length c3],by omega,by simp;omega,by simp;omega,by simp,by go_num,by rw[wF3];rfl,by rw[wF3];rfl,rfl, ?_,zA HT.out,zA (HNZ.out.snoc HN3.out)⟩;rw[wF3,wF3,wH4,uR];exact⟨T4,K4,zAt _ _ _ _,(fun b h=>by cases h),(fun _ _ _ _ h=>by cases h)⟩
        case measure=>simp[intOf];omega
   ·have HNX:=zA (HPP.out hx);have hxn:(((bs[i]:Nat):Int) !=255)=true:=by simp;omega
    clear HPP HEZ hxk;generalize bs[i]=x at *;have hxI: ¬((x:Int)=255):=by omega
    go_wp2_with (at_builtin;go_must (refine wApf zCF rfl _ _ rfl w.heap.size (.slice A3 C.length c3) _ _ rfl (hC.cur.alloc _) _ 1 [.int .u8 _] rfl (zMQ _ _ _) (zJJ rfl) (by omega) (by omega) (by have:=hC.two.base.2;simp;omega) ?_);intro A7 c7 w7 ho7 hg7 hr7)
    have hC7:=(hC.later ((Ext.refl wr).alloc (.cells #[.int .u8 (x:Int)] 5))).grow ho7 hg7 (by rw[zBv];exact hr7);go_roundw
    case rel =>
     refine⟨i+1,P,M,C++[x],A1,c1,A2,c2,A7,c7,VS,by omega,by omega,by omega,by simp;omega,by go_num,rfl,rfl,by rw[wF3];rfl, ?_,HNX,HNZ⟩;rw[wF3,zJv];exact hC7
    case measure=>simp[intOf];omega
  ·have HER:=zA (HEZ.out.trans (HSE.out i P M _ (by rw[HBL.out];omega)));clear HEZ;have T0:=hC.two;have K0:=hC.kept.snoc hC.cur rfl hC.d1;go_upto_region 15 with fail
   refine wp_region_lit ?_;refine zB rfl (.slice A1 P.length c1) (zC rfl rfl) ?_;simp only[Act.put,sA,sB,sC];refine zB rfl (.slice A3 C.length c3) (zC rfl rfl) ?_;simp only[Act.put,sA,sB,sC];refine wLit1 rfl 71 45 (.tmp 63) rfl (some 64) rfl Tryz.underlying71 1 zIg zeroBs _ rfl rfl (by omega) (by omega) ?_;intro w1 g1 hb1 hx1 hg1;have T1:=T0.lit1 (v:=.slice A3 C.length c3) hb1 hx1 hg1;have K1:=K0.ext hx1;clear hb1 hx1 hg1;simp only[Act.put,sA,sB,sC];refine wApf zJb rfl _ _ rfl w.heap.size (.slice A1 P.length c1) P.length VS rfl T1.p _ 1 [.slice A3 C.length c3] rfl (zBh (T1.a1 _ _ rfl).1) (zJJ rfl) (by omega) (by omega) T1.base.2 ?_;intro B1 d1 w2 ho2 hg2 hr2;have T2:=T1.app1' ho2 hg2 hr2;have K2:=K1.grown1 (n:=P.length+1) (c:=d1) hg2 hr2;clear ho2 hg2 hr2;simp only[Act.put,sA,sB,sC];go_wp2_with fail;go_ret3
   rw[HER.out];refine⟨B1,d1,A2,c2,_,by rw[wF3];rfl, ?_,K2.1,(jF T2.m).1,T2.ext,HNZ.out.snoc HN3.out,fun ad h=>wD1 T2.base.1 ((jF T2.p).2 ad h),fun ad h=>wD1 T2.base.1 ((jF T2.m).2 ad h)⟩;rw[wF3];exact (jF T2.p).1
def zLe (bs:List Nat) (v:Value) (w:World) (hv:SL w 1 v bs.length (zF bs)) (hlt: ∀ b∈bs,b<256) (hn:bs.length≤1048576) :
 Calls Tryz.prog 34 #[v] w (SpIsN (xY bs [] [] []) w):=(zRs bs v w hv hlt hn).mono fun _ _ h=>h.n
def split_any (bs:List Nat) (v:Value) (w:World) (hv:SL w 1 v bs.length (zF bs)) (hlt: ∀ b∈bs,b<256) (hn:bs.length≤1048576) :
 Calls Tryz.prog 34 #[v] w (SpIs (xY bs [] [] []) w):=(zLe bs v w hv hlt hn).mono fun _ _ h=>h.is
def Ext.grown' {a w w':World} (h:Ext a w) {row:Option Nat} (hg:w.grownBy w' row) (hB: ∀ b,row=some b→a.heap.size≤b):Ext a w' :=
 Below.grown h hg h.size (fun k hk=>hB k hk)
section
def zeroU8:((Tryz.prog.info? 5).bind (·.zero)).isSome=true:=by kernel_rfl
def zDK {ops:Array Oper} {rest:List Oper} {o:Oper} {a:Act} {w:World} {Q:Exit→Act→World→Prop} (hg:o.guard=none) (x y:Operand) (ho:o.op=.buildSlice 45 2 #[(0,x),(1,y)]) (dst:Option Tmp) (hdst:o.dst=dst)
 (m n:Nat) (hx:a.eval x=.int .u8 (m:Int)) (hy:a.eval y=.int .u8 (n:Int))
 (h: ∀ w1 g,Blk w1 g 5 (zF [m,n]).toArray→Ext w w1→w.heap.size≤g→wpList Tryz.prog ops Q rest (a.put dst (.slice (some ⟨g,0,none⟩) 2 2)) w1):wpList Tryz.prog ops Q (o::rest) a w:=by
 refine Go.Great.wpList_buildSliceTo hg 45 5 2 #[(0,x),(1,y)] ho _ rfl dst hdst Tryz.underlying45 (zF [m,n]).toArray ?_ (h _ _ (Blk.new w _ _) ((Ext.refl w).alloc _) (wA5 _));simp only[wC7,wC8,wC9,hx,hy];show _=_
 kernel_rfl
def zIw {ops:Array Oper} {rest:List Oper} {o:Oper} {a:Act} {w:World} {Q:Exit→Act→World→Prop} (hg:o.guard=none) (x:Operand) (ho:o.op=.buildSlice 45 1 #[(0,x)]) (dst:Option Tmp) (hdst:o.dst=dst)
 (m:Nat) (hx:a.eval x=.int .u8 (m:Int))
 (h: ∀ w1 g,Blk w1 g 5 (zF [m]).toArray→Ext w w1→w.heap.size≤g→wpList Tryz.prog ops Q rest (a.put dst (.slice (some ⟨g,0,none⟩) 1 1)) w1):wpList Tryz.prog ops Q (o::rest) a w :=
 wLit1 hg 45 5 x ho dst hdst Tryz.underlying45 1 zJZ zeroU8 _ hx rfl (by omega) (by omega) h
attribute [local irreducible] zF zBX qG
def zGg (A:Option Addr) (n c k1 k2 g1 g2:Nat) (bs o v:List Nat) (m0:Int) (w:World) (hs:SL w 1 (.slice A n c) n (zF bs)) (hA:A=none→c=0) (hlt: ∀ b∈bs,b<256) (hlo: ∀ b∈o,b<256) (hn:n≤1000000000)
 (ho:o.length=k1) (hk1:1≤k1) (hk2:k1≤2) (hv:v.length=k2) (hk3:1≤k2) (hk4:k2≤2) (hbo:Blk w g1 5 (zF o).toArray) (hbv:Blk w g2 5 (zF v).toArray) (hm:w.cell? ⟨0,0,none⟩=some (.int .i64 m0)) :
 Calls Tryz.prog 79 #[.slice A n c,.slice (some ⟨g1,0,none⟩) k1 k1,.slice (some ⟨g2,0,none⟩) k2 k2] w (ReplIs (zBX bs o v) w):=by
 have H:=zA (zQv A n c k1 k2 g1 g2 bs o v m0 w hs hA hlt hlo hn ho hk1 hk2 hv hk3 hk4 hbo hbv hm);generalize zBX bs o v=R at *;clear hs hlt hlo ho hv hbo hbv hm;go_enter Tryz.func79,Tryz.ntmps79;go_wp2_with (go_at_call 138;(with_reducible refine (H.out).mono ?_);rintro e w1 ⟨B,k,d,rfl,h1,h2,h3,h4⟩)
 go_ret;exact⟨B,k,d,rfl,h1,h2,h3,h4⟩
def zAX {w w':World} {m0:Int} (hm:w.cell? ⟨0,0,none⟩=some (.int .i64 m0)) (hx:Ext w w'):w'.cell? ⟨0,0,none⟩=some (.int .i64 m0):=by
 have h00:0<w.heap.size:=by
  rcases wC5 w.heap.size with h | h
  ·unfold World.cell? at hm;rw[wA4 (by simp[h])] at hm;cases hm
  ·exact h
 exact (hx.cell (p:=⟨0,0,none⟩) h00).trans hm
def stuff_any (A:Option Addr) (n c:Nat) (bs:List Nat) (m0:Int) (w:World) (hs:SL w 1 (.slice A n c) n (zF bs)) (hA:A=none→c=0) (hlt: ∀ b∈bs,b<256) (hn:n≤1000000000) (hm:w.cell? ⟨0,0,none⟩=some (.int .i64 m0)) :
 Calls Tryz.prog 35 #[.slice A n c] w (ReplIs (qG bs) w):=by
 have H:=zA (fun W (h:Ext w W) g1 g2 h1 h2=>zGg A n c 1 2 g1 g2 bs [255] [255,0] m0 W (hs.ext h) hA hlt (by simp) hn rfl (by omega) (by omega) rfl (by omega) (by omega) h1 h2 (zAX hm h));rw[zLh bs hlt] at H;generalize qG bs=R at *;clear hs hlt hm;go_enter Tryz.func35,Tryz.ntmps35
 go_wp2_with (first
  | ((with_reducible apply gS 4);refine zIw rfl _ rfl (some 4) rfl 255 rfl ?_;intro w1 g1 hb1 hx1 hg1)
  | ((with_reducible apply gS 5);refine zDK rfl _ _ rfl (some 5) rfl 255 0 rfl rfl ?_;intro w2 g2 hb2 hx2 hg2)
  | (go_at_call 79;(with_reducible refine (H.out _ (hx1.trans hx2) _ _ (hb1.ext hx2) hb2).mono ?_);rintro e w3 ⟨B,k,d,rfl,h1,h2,h3,h4⟩))
 go_ret;exact⟨B,k,d,rfl,h1,h2,h3,(hx1.trans hx2).trans h4⟩
def PlIs (z:Option (List Nat)) (w:World) (e:Ending) (w':World):Prop :=
 match z with
 | none=>e=.returned (.tuple #[.slice none 0 0,.int .i64 4])∧Ext w w'
 | some R=> ∃ B k d,e=.returned (.tuple #[.slice B k d,.int .i64 0])∧R.length=k∧SL w' 1 (.slice B k d) k (zF R)∧(B=none→d=0)∧Ext w w'
def plain_any (A:Option Addr) (n c:Nat) (bs:List Nat) (m0:Int) (w:World) (hs:SL w 1 (.slice A n c) n (zF bs)) (hA:A=none→c=0) (hlt: ∀ b∈bs,b<256) (hn:n≤1048576) (hm:w.cell? ⟨0,0,none⟩=some (.int .i64 m0)) :
 Calls Tryz.prog 160 #[.slice A n c] w (PlIs (plZ bs) w):=by
 have hl:=(zGK hs).1;have HSP:=split_any bs (.slice A n c) w (by rw[hl];exact hs) hlt (by omega);obtain⟨k1,k2⟩:=zMB bs [] [] [];have H:=zA (fun W (h:Ext w W) g1 g2 h1 h2=>zGg A n c 2 1 g1 g2 bs [255,0] [255] m0 W (hs.ext h) hA hlt (by simp) (by omega) rfl (by omega) (by omega) rfl (by omega) (by omega) h1 h2 (zAX hm h));have hpr:=zGk bs
 cases hz:plZ bs with
 | none =>
   have k3:=k1 (.inr hz)
   cases hq:xY bs [] [] [] with
   | none =>
     rw[hq] at HSP;have HSP:=zA HSP;clear hs hlt hm k1 k2 k3 hz hq H hpr;go_enter Tryz.func160,Tryz.ntmps160;go_wp2_with (go_at_call 34;(with_reducible refine (HSP.out).mono ?_);rintro e w1 ⟨rfl,hx1⟩)
     refine bodyPost_ret (results_tmp2 rfl _ _ _) rfl ?_;exact⟨rfl,hx1⟩
   | some z =>
     obtain⟨P,M⟩:=z;have hM:=k3 _ hq;dsimp only at hM;rw[hq] at HSP;have HSP:=zA HSP;obtain⟨ml,hml⟩: ∃ ml,M.length=ml:=⟨_,rfl⟩
     have hml0:0<ml:=by rw[←hml];exact List.length_pos_iff.2 hM
     have HML:=zA hml;clear hs hlt hm k1 k2 k3 hz hq H hpr hM hml;go_enter Tryz.func160,Tryz.ntmps160;go_wp2_with (go_at_call 34;(with_reducible refine (HSP.out).mono ?_);rintro e w1 ⟨B,b,D,d,VS,rfl, -, -, -,hx1⟩;rw[HML.out])
     refine bodyPost_ret (results_tmp2 rfl _ _ _) rfl ?_;exact⟨rfl,hx1⟩
 | some R =>
   obtain⟨P,hq⟩:=k2 rfl R hz;rw[hq] at HSP;have HSP:=zA HSP;rw[hpr R hlt hz] at H;clear hs hlt hm k1 k2 hz hq hpr;go_enter Tryz.func160,Tryz.ntmps160
   go_wp2_with (first
    | (go_at_call 34;(with_reducible refine (HSP.out).mono ?_);rintro e w1 ⟨B,b,D,d,VS,rfl, -, -, -,hx1⟩;rw[show ([]:List Nat).length=0 from rfl])
    | ((with_reducible apply gS 24);refine zDK rfl _ _ rfl (some 24) rfl 255 0 rfl rfl ?_;intro w2 g2 hb2 hx2 hg2)
    | ((with_reducible apply gS 25);refine zIw rfl _ rfl (some 25) rfl 255 rfl ?_;intro w3 g3 hb3 hx3 hg3;have hx13:=(hx1.trans hx2).trans hx3)
    | (go_at_call 79;(with_reducible refine (H.out _ hx13 _ _ (hb2.ext hx3) hb3).mono ?_);rintro e w4 ⟨B4,k4,d4,rfl,h1,h2,h3,h4⟩))
   refine bodyPost_ret (results_tmp2 rfl _ _ _) rfl ?_;exact⟨B4,k4,d4,rfl,h1,h2,h3,hx13.trans h4⟩
def zMA (y:Nat) (l:List Nat):qG (y::l)=(if y=255 then [255,0] else [y])++qG l:=by unfold qG;rw[wJ6]
end
section
def zSc (Z:List Int) (k:Nat):(uU Z k).length≤4034:=by
 unfold uU yC;have h:=(zMi (jH 0 ((zto (yM Z k)).getD 0 0-jW Z k)) ((zto (yM Z k)).drop 1) 63 (by rw[wK1,jK];omega) (by omega)).2;dsimp only;split
 ·rw[wF3,List.length_singleton];omega
 ·omega
def zRi {Z:List Int} {n k:Nat}: ∀ t∈yW Z n k,zBW t.1:=by
 intro t ht;unfold yW at ht;obtain⟨i, -,ht⟩:=wP1.1 ht;unfold vV at ht;obtain⟨p,hp,rfl⟩:=wD6.1 ht;have:=List.fst_mem_of_mem_zipIdx hp;unfold uU at this;exact zEg _ _ (jK _) _ this
def zRa (Z:List Int) (n:Nat):(yW Z n 0).length≤4034*n:=by
 unfold yW;rw[Nat.sub_zero]
 have key: ∀ m k,((List.range' k m).flatMap fun i=>vV (uU Z i)).length≤4034*m:=by
  intro m
  induction m with
  | zero=>intro k;simp
  | succ m ih =>
    intro k;rw[wK4,wJ6,wF3,zEI];have:=ih (k+1);have:=zSc Z k;omega
 exact key n 0
def encZ_bd {T1 T2:List Tok} (f1:zBe T1) (f2:zBe T2) (n:Nat) (Z:List Int):(xZ (xK T1 T2) n Z []).2.length≤1000000000:=by
 unfold xZ;split
 ·simp
 ·split
  ·simp
  ·have h1:=zQV f1 f2 (yW Z n 0) [] zRi;have h2:=zRa Z n;simp only[wM9] at h1;omega
def zFw (r:Int×List Nat) (w:World) (e:Ending) (w':World):Prop :=
 Ext w w'∧if r.1=0 then ∃ B k d,e=.returned (.tuple #[.slice B k d,.int .i64 0])∧r.2.length=k∧SL w' 1 (.slice B k d) k (zF r.2)∧(B=none→d=0)
  else e=.returned (.tuple #[.slice none 0 0,.int .i64 r.1])
def zCo (T1 T2:List Tok) (n:Nat) (Z:List Int):Int×List Nat:=((xZ (xK T1 T2) n Z []).1,qG (jJ (zAM (xZ (xK T1 T2) n Z []).2)))
def nilPtrK:(Tryz.prog.info? 197).bind (·.zero)=some (.pointer none):=by kernel_rfl
def nilPtrW:(Tryz.prog.info? 200).bind (·.zero)=some (.pointer none):=by kernel_rfl
def zDG {t1 t2:List Value} (h1:t1.length=17) (h2:t2.length=17):(t1++t2).toArray.size=34:=by simp[h1,h2]
def builtWr:Tryz.prog.built 203 []=some #[.slice none 0 0,.int .u64 0,.int .i64 0]:=by
 show _=_
 kernel_rfl
attribute [local irreducible] zF qG jJ zAM xZ
def zRN (T1 T2:List Tok) (f1:zBe T1) (f2:zBe T2) (t1 t2:List Value) (A:Option Addr) (n c:Nat) (Z:List Int) (hZ:Z.length=n*64) (m0:Int) (w:World) (hs:SL w 64 (.slice A n c) n (ints Z)) (hm:w.cell? ⟨0,0,none⟩=some (.int .i64 m0)) (h1:t1.length=17) (h2:t2.length=17)
 (o1:t1.toArray.all (·.oneCell')=true) (o2:t2.toArray.all (·.oneCell')=true)
 (C1: ∀ W,Ext w W→Calls Tryz.prog 102 #[.agg t1.toArray] W fun e W'=>e=.returned (.int .i64 0)∧Ext W W')
 (C2: ∀ W,Ext w W→Calls Tryz.prog 102 #[.agg t2.toArray] W fun e W'=>e=.returned (.int .i64 0)∧Ext W W')
 (N1: ∀ W,Ext w W→Calls Tryz.prog 184 #[.agg t1.toArray] W fun e W'=> ∃ gc,e=.returned (.pointer (some ⟨gc,0,none⟩))∧CoderS W' gc T1∧Ext W W')
 (N2: ∀ W,Ext w W→Calls Tryz.prog 184 #[.agg t2.toArray] W fun e W'=> ∃ gc,e=.returned (.pointer (some ⟨gc,0,none⟩))∧CoderS W' gc T2∧Ext W W') :
 Calls Tryz.prog 104 #[.agg (t1++t2).toArray,.slice A n c] w (zFw (zCo T1 T2 n Z) w):=by
 have HM:=zA (fun W (h:Ext w W)=>zFf T1 T2 t1 t2 W h1 h2 o1 o2 (fun W' h'=>C1 W' (h.trans h')) (fun W' h'=>C2 W' (h.trans h')) (fun W' h'=>N1 W' (h.trans h')) (fun W' h'=>N2 W' (h.trans h')));have hsz:=zA (zDG h1 h2);have hbd:=encZ_bd f1 f2 n Z
 have HEA:=zA (fun pc pw gk gw gc1 gc2 W0 W F (hsW:SL W 64 (.slice A n c) n (ints Z)) (hI:EncIn pc pw gk gw gc1 gc2 T1 T2 W0 W [] F) (hA: ∀ ad,A=some ad→0<n→ ¬F ad.block) =>
  zQO (encEat pc pw gk gw gc1 gc2 T1 T2 f1 f2 W0) A n c Z hZ W hsW [] F hI hA hbd)
 unfold zCo;unfold EachIs at HEA;have hmf: ∀ (fn:Fn) (first cap:Array Value) (w:World),(Instr.makeFunc fn first cap).run Tryz.prog w=.ok (.func fn first cap) w:=fun _ _ _ _=>rfl
 have HSA:Hid (∀ ad,A=some ad→0<n→ad.block<w.heap.size):=zA (fun ad e h0=>by
  obtain⟨A',c',e2, -, -, -,h5⟩:=hs;injection e2 with e3 _ _
  subst e3;obtain⟨ad',e4,h6, -⟩:=h5 h0;rw[e] at e4;injection e4 with e4
  subst e4
  exact h6)
 generalize xZ (xK T1 T2) n Z []=R at *;generalize (t1++t2).toArray=tt at *;obtain⟨x,L⟩:=R;dsimp only at HEA hbd ⊢;have HBY:=zA (fun gw r W (h:WrS W gw L r)=>zSI gw L r W h (by omega))
 have hpl:(jJ (zAM L)).length≤1000000000:=by
  rw[zCz]
  have:(zAM L).length≤L.length+7:=by
   unfold zAM;rw[wF3,wF5];omega
  omega
 have HLT:=zA (packB_lt (zAM L));generalize jJ (zAM L)=B at *;have HST:=zA (fun D d W (h:SL W 1 (.slice D B.length d) B.length (zF B)) (hD:D=none→d=0) (hx:Ext w W)=>stuff_any D B.length d B m0 W h hD HLT.out hpl (zAX hm hx));obtain⟨bl,hbl⟩: ∃ k,B.length=k:=⟨_,rfl⟩
 rw[hbl] at HST HBY;have HS0:=zA hs;clear C1 C2 N1 N2 h1 h2 o1 o2 hs hm hbd hpl hbl hZ
 by_cases hx0:x=0
 ·subst hx0;go_enter Tryz.func104,Tryz.ntmps104
  go_wp2_with (first
   | ((with_reducible apply gS 2);refine wBox rfl 44 (.tmp 0) rfl tt rfl ?_;intro w1 g hb1 hx1 hg1)
   | ((with_reducible apply gS 10);refine wLdB rfl 44 (.tmp 2) rfl g rfl hb1 _ Tryz.underlying44 rfl 34 qP hsz.out ?_)
   | (go_at_call 152;(with_reducible refine (HM.out _ hx1).mono ?_);rintro e w2 ⟨gk,gc1,gc2,rfl,hk2,hc21,hc22,hx2⟩;have hx2':=hx1.trans hx2)
   | ((with_reducible apply gS 6);refine wAlo' rfl (some 6) rfl 197 rfl _ nilPtrK ?_;intro w3 pc hb3 hx3 hg3;have hc3:=hb3.cell 0;have hz3:=hb3.frozen 0;have hx4:Ext w2 (w3.setCell ⟨pc,0,none⟩ (.pointer (some ⟨gk,0,none⟩))):=hx3.setCell hg3 _;have hb4:=hb3.set_ 0 (.pointer (some ⟨gk,0,none⟩)))
   | ((with_reducible apply gS 17);refine zB rfl (.agg #[.slice none 0 0,.int .u64 0,.int .i64 0]) (zOV rfl builtWr) ?_)
   | ((with_reducible apply gS 18);go_must (refine wBox rfl 203 (.tmp 17) rfl #[.slice none 0 0,.int .u64 0,.int .i64 0] rfl ?_;intro w5 gw hb5 hx5 hg5))
   | ((with_reducible apply gS 8);go_must (refine wAlo' rfl (some 8) rfl 200 rfl _ nilPtrW ?_;intro w6 pw hb6 hx6 hg6;have hc6:=hb6.cell 0;have hz6:=hb6.frozen 0;have hb7:=hb6.set_ 0 (.pointer (some ⟨gw,0,none⟩));have hx7:Ext (w3.setCell ⟨pc,0,none⟩ (.pointer (some ⟨gk,0,none⟩))) (w6.setCell ⟨pw,0,none⟩ (.pointer (some ⟨gw,0,none⟩))):=(hx5.trans hx6).setCell (wD1 hx5.size hg6) _;have hgw:w.heap.size≤gw:=wD1 (wD1 hx2'.size hx4.size) hg5;have hw7:Ext w (w6.setCell ⟨pw,0,none⟩ (.pointer (some ⟨gw,0,none⟩))):=(hx2'.trans hx4).trans hx7;have hI7:EncIn pc pw gk gw gc1 gc2 T1 T2 (w3.setCell ⟨pc,0,none⟩ (.pointer (some ⟨gk,0,none⟩))) (w6.setCell ⟨pw,0,none⟩ (.pointer (some ⟨gw,0,none⟩))) [] (fun x=>x=gw∨(none:Option Nat)=some x):=⟨hb4,hk2.ext hx4,hc21.ext hx4,hc22.ext hx4,hg5,hx7,hb7,none,(WrS.nil w5 gw hb5).ext (hx6.setCell hg6 _),fun x=>Iff.rfl⟩))
   | (go_at_call 145;(with_reducible refine (HEA.out _ _ _ _ _ _ _ _ _ (HS0.out.ext hw7) hI7 (fun ad e h0 k=>by have:=HSA.out ad e h0;have:=hx2'.size;have:=hx4.size;rcases k with k | k<;>first | omega | cases k)).mono ?_);rintro e w8 ⟨rfl,hu8,F8,hI8,hF8⟩;have hq8:w8.cell? ⟨pw,0,none⟩=some (.pointer (some ⟨gw,0,none⟩)):=hI8.q.cell 0;obtain⟨r8,hr8,hFr8⟩:=hI8.r)
   | (go_at_call 157;(with_reducible refine (HBY.out _ _ _ hr8).mono ?_);rintro e w9 ⟨D,d,rfl,hs9, -,hD9,hu9⟩;have hx9:Ext w w9:=hu9.ext (hu8.ext hw7 (fun y k=>k.elim (fun e=>e ▸ hgw) (fun e=>by cases e))) (fun y k=>k.elim (fun e=>e ▸ hgw) (fun e=>by have:=(hr8.row y e).1;omega)))
   | (go_at_call 35;(with_reducible refine (HST.out _ _ _ hs9 hD9 hx9).mono ?_);rintro e w10 ⟨D10,k10,d10,rfl,h101,h102,h103,hx10⟩))
  refine bodyPost_ret (results_tmp2 rfl _ _ _) rfl ?_;refine⟨hx9.trans hx10, ?_⟩;rw[if_pos rfl];exact⟨D10,k10,d10,rfl,h101,h102,h103⟩
 ·have hxb:(x !=0)=true:=by simpa using hx0
  have HX0:=zA hx0;clear hx0;go_enter Tryz.func104,Tryz.ntmps104
  go_wp2_with (first
   | ((with_reducible apply gS 2);refine wBox rfl 44 (.tmp 0) rfl tt rfl ?_;intro w1 g hb1 hx1 hg1)
   | ((with_reducible apply gS 10);refine wLdB rfl 44 (.tmp 2) rfl g rfl hb1 _ Tryz.underlying44 rfl 34 qP hsz.out ?_)
   | (go_at_call 152;(with_reducible refine (HM.out _ hx1).mono ?_);rintro e w2 ⟨gk,gc1,gc2,rfl,hk2,hc21,hc22,hx2⟩;have hx2':=hx1.trans hx2)
   | ((with_reducible apply gS 6);refine wAlo' rfl (some 6) rfl 197 rfl _ nilPtrK ?_;intro w3 pc hb3 hx3 hg3;have hc3:=hb3.cell 0;have hz3:=hb3.frozen 0;have hx4:Ext w2 (w3.setCell ⟨pc,0,none⟩ (.pointer (some ⟨gk,0,none⟩))):=hx3.setCell hg3 _;have hb4:=hb3.set_ 0 (.pointer (some ⟨gk,0,none⟩)))
   | ((with_reducible apply gS 17);refine zB rfl (.agg #[.slice none 0 0,.int .u64 0,.int .i64 0]) (zOV rfl builtWr) ?_)
   | ((with_reducible apply gS 18);go_must (refine wBox rfl 203 (.tmp 17) rfl #[.slice none 0 0,.int .u64 0,.int .i64 0] rfl ?_;intro w5 gw hb5 hx5 hg5))
   | ((with_reducible apply gS 8);go_must (refine wAlo' rfl (some 8) rfl 200 rfl _ nilPtrW ?_;intro w6 pw hb6 hx6 hg6;have hc6:=hb6.cell 0;have hz6:=hb6.frozen 0;have hb7:=hb6.set_ 0 (.pointer (some ⟨gw,0,none⟩));have hx7:Ext (w3.setCell ⟨pc,0,none⟩ (.pointer (some ⟨gk,0,none⟩))) (w6.setCell ⟨pw,0,none⟩ (.pointer (some ⟨gw,0,none⟩))):=(hx5.trans hx6).setCell (wD1 hx5.size hg6) _;have hgw:w.heap.size≤gw:=wD1 (wD1 hx2'.size hx4.size) hg5;have hw7:Ext w (w6.setCell ⟨pw,0,none⟩ (.pointer (some ⟨gw,0,none⟩))):=(hx2'.trans hx4).trans hx7;have hI7:EncIn pc pw gk gw gc1 gc2 T1 T2 (w3.setCell ⟨pc,0,none⟩ (.pointer (some ⟨gk,0,none⟩))) (w6.setCell ⟨pw,0,none⟩ (.pointer (some ⟨gw,0,none⟩))) [] (fun x=>x=gw∨(none:Option Nat)=some x):=⟨hb4,hk2.ext hx4,hc21.ext hx4,hc22.ext hx4,hg5,hx7,hb7,none,(WrS.nil w5 gw hb5).ext (hx6.setCell hg6 _),fun x=>Iff.rfl⟩))
   | (go_at_call 145;(with_reducible refine (HEA.out _ _ _ _ _ _ _ _ _ (HS0.out.ext hw7) hI7 (fun ad e h0 k=>by have:=HSA.out ad e h0;have:=hx2'.size;have:=hx4.size;rcases k with k | k<;>first | omega | cases k)).mono ?_);rintro e w8 ⟨rfl,hu8,F8,hI8,hF8⟩;have hq8:w8.cell? ⟨pw,0,none⟩=some (.pointer (some ⟨gw,0,none⟩)):=hI8.q.cell 0;obtain⟨r8,hr8,hFr8⟩:=hI8.r))
  refine bodyPost_ret (results_tmp2 rfl _ _ _) rfl ?_;refine⟨hu8.ext hw7 (fun y k=>k.elim (fun e=>e ▸ hgw) (fun e=>by cases e)), ?_⟩;rw[if_neg HX0.out];rfl
end
section
def qL (n:Nat) (Z:List Int):Int:=if 400<n then 2 else if zR Z (-2047) 2047=false then 1 else 0
attribute [local irreducible] bv yM
end
end Go.Proofs.YtkggcjdlpendfaaGreatDoor
