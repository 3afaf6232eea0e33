import Derived.Shelf.Small.Bits
import Derived.Shelf.Strconv.Itoa0
import Derived.Shelf.Strings.Search1
import Derived.Shelf.Strings.Search2
import Derived.Shelf.Strings.Search3
import Derived.Shelf.LaysM
import Derived.Shelf.Strings.Shaped
import Derived.Shelf.Strings.Prefix
import Derived.Shelf.Bytes.SlIndexSmall
import Derived.Ground.SlbNamesProg
import Derived.Shelf.Bytes.SlCountOne
import Derived.Shelf.Bytes.SlIndexAt
import Derived.Shelf.Bytes.SlSearch0
import Derived.Shelf.Bytes.SlSearch1
import Derived.Shelf.Bytes.SlSearch2
import Derived.Shelf.Bytes.SlIndexWhole
import Derived.Shelf.Bytes.SlCountWhole
import Derived.Shelf.Bytes.Small
import Derived.Shelf.Bytes.IndexByte
import Derived.Lib.BitFns
import Derived.Lib.ItoaNum
import Derived.Laws.MakeOwn
import Derived.Test.YtkggcjdlpendfaaGreatDoorMTopHurtUptoCard3
set_option linter.all false
set_option maxRecDepth 20000
set_option maxHeartbeats 8000000
namespace Go.Proofs
open Tryz
open Go.Shelf
def Tryz.lays125_ren:Go.Shelf.Ren:=⟨fun | 125=>221 | 128=>224 | 129=>225 | n=>n,fun | 46=>116 | 3=>3 | 51=>261 | 53=>201 | 4=>4 | 5=>5 | 9=>9 | n=>n,fun | n=>n⟩
def Tryz.lays125:Go.Proofs.Lays.n125 prog Tryz.lays125_ren:={
 mixed:=by kernel_rfl
 f125:=func221.trans (congrArg some (by kernel_rfl))
 f128:=func224.trans (congrArg some (by kernel_rfl))
 f129:=func225.trans (congrArg some (by kernel_rfl))
 t3:=underlying3
 a3:=isAgg3
 z3:=sizeOf3
 v3:=zeroValue3
 t4:=underlying4
 a4:=isAgg4
 z4:=sizeOf4
 v4:=zeroValue4
 t5:=underlying5
 a5:=isAgg5
 z5:=sizeOf5
 v5:=zeroValue5
 t9:=underlying9
 a9:=isAgg9
 z9:=sizeOf9
 v9:=zeroValue9
 t46:=underlying116
 a46:=isAgg116
 z46:=sizeOf116
 v46:=zeroValue116
 t51:=underlying261
 a51:=isAgg261
 z51:=sizeOf261
 v51:=zeroValue261
 t53:=underlying201
 a53:=isAgg201
 z53:=sizeOf201
 v53:=zeroValue201 }
def Tryz.bits_Len (x:Int) (w:World) (h0:0≤x) (h1:x≤18446744073709551615) :
 Calls prog 221 #[.int .u64 x] w λe w'=>e=.returned (.int .i64 (Lib.bitLen x.toNat))∧w'=w:=Any.bits_Len Tryz.lays125 x w h0 h1
open Go.RowKit Go.Lib in

open Go.RowKit Go.Lib in

open Go.RowKit Go.Lib in

open Go.RowKit Go.Lib in

open Go.RowKit Go.Lib in

open Go.RowKit Go.Lib in

open Go.RowKit Go.Lib in

open Go.RowKit Go.Lib in

open Go.RowKit Go.Lib in

open Go.RowKit Go.Lib in

open Go.RowKit Go.Lib in

def Tryz.lays185_ren:Go.Shelf.Ren:=⟨fun | 185=>178 | 187=>200 | 115=>85 | 253=>201 | 224=>202 | 254=>203 | 255=>213 | 291=>214 | n=>n,fun | 37=>45 | 3=>3 | 4=>4 | 0=>0 | 5=>5 | 46=>116 | 9=>9 | 146=>262 | 51=>261 | n=>n,fun | 1=>0 | n=>n⟩
def Tryz.lays185:Go.Proofs.Lays.n185 prog Tryz.lays185_ren:={
 mixed:=by kernel_rfl
 f115:=func85.trans (congrArg some (by kernel_rfl))
 f185:=func178.trans (congrArg some (by kernel_rfl))
 f187:=func200.trans (congrArg some (by kernel_rfl))
 f224:=func202.trans (congrArg some (by kernel_rfl))
 f253:=func201.trans (congrArg some (by kernel_rfl))
 f254:=func203.trans (congrArg some (by kernel_rfl))
 f255:=func213.trans (congrArg some (by kernel_rfl))
 f291:=func214.trans (congrArg some (by kernel_rfl))
 t0:=underlying0
 a0:=isAgg0
 z0:=sizeOf0
 v0:=zeroValue0
 t3:=underlying3
 a3:=isAgg3
 z3:=sizeOf3
 v3:=zeroValue3
 t4:=underlying4
 a4:=isAgg4
 z4:=sizeOf4
 v4:=zeroValue4
 t5:=underlying5
 a5:=isAgg5
 z5:=sizeOf5
 v5:=zeroValue5
 t9:=underlying9
 a9:=isAgg9
 z9:=sizeOf9
 v9:=zeroValue9
 t37:=underlying45
 a37:=isAgg45
 z37:=sizeOf45
 v37:=zeroValue45
 t46:=underlying116
 a46:=isAgg116
 z46:=sizeOf116
 v46:=zeroValue116
 t51:=underlying261
 a51:=isAgg261
 z51:=sizeOf261
 v51:=zeroValue261
 t146:=underlying262
 a146:=isAgg262
 z146:=sizeOf262
 v146:=zeroValue262
 g1:=by kernel_rfl }
open Go.RowKit Go.Lib in

open Go.RowKit Go.Lib in

open Go.RowKit Go.Lib in

open Go.RowKit Go.Lib in

open Go.RowKit Go.Lib in

def Tryz.laysSlB13_ren:Go.Shelf.Ren:=⟨fun | 13=>177 | 24=>198 | 25=>199 | 12=>178 | 31=>212 | 19=>200 | 20=>85 | 21=>201 | 22=>202 | 23=>203 | 29=>213 | 30=>214 | n=>n,fun | 22=>45 | 3=>3 | 4=>4 | 0=>0 | 5=>5 | 9=>9 | 33=>116 | 40=>262 | 39=>261 | n=>n,fun | 0=>0 | n=>n⟩
def Tryz.laysSlB13:Go.Proofs.SlLaysB.n13 prog Tryz.laysSlB13_ren:={
 mixed:=by kernel_rfl
 f13:=func177.trans (congrArg some (by kernel_rfl))
 f25:=func199.trans (congrArg some (by kernel_rfl))
 t0:=underlying0
 a0:=isAgg0
 z0:=sizeOf0
 v0:=zeroValue0
 t3:=underlying3
 a3:=isAgg3
 z3:=sizeOf3
 v3:=zeroValue3
 t4:=underlying4
 a4:=isAgg4
 z4:=sizeOf4
 v4:=zeroValue4
 t5:=underlying5
 a5:=isAgg5
 z5:=sizeOf5
 v5:=zeroValue5
 t22:=underlying45
 a22:=isAgg45
 z22:=sizeOf45
 v22:=zeroValue45 }
open Go.RowKit Go.Lib in

open Go.RowKit Go.Lib in

def Tryz.bytes_Count_one_at (a:Addr) (n c b2 o2 d:Nat) (xs:List Int) (cv:Int) (w:World) (hx:xs.length=n) (hc:∀i,i<n→w.cell? (a.add i)=some (.int .u8 (xs.getD i 0))) (hc2:w.cell? ⟨b2,o2,none⟩=some (.int .u8 cv)) :
 Calls prog 177 #[.slice (some a) n c,.slice (some ⟨b2,o2,none⟩) 1 d] w λe w'=>e=.returned (.int .i64 (Lib.countByte (Lib.bytesOf xs) cv.toNat.toUInt8))∧w'=w:=Any.bytes_Count_one_at Tryz.laysSlB13 a n c b2 o2 d xs cv w hx hc hc2
open Go.RowKit Go.Lib in

def Tryz.bytes_Count_one_nil (b2 o2 d:Nat) (cv:Int) (w:World) (hc2:w.cell? ⟨b2,o2,none⟩=some (.int .u8 cv)) :
 Calls prog 177 #[.slice none 0 0,.slice (some ⟨b2,o2,none⟩) 1 d] w λe w'=>e=.returned (.int .i64 0)∧w'=w:=Any.bytes_Count_one_nil Tryz.laysSlB13 b2 o2 d cv w hc2
open Go.RowKit Go.Lib in

open Go.RowKit Go.Lib in

open Go.Proofs Go.RowKit Go.Lib in

open Go.Proofs Go.RowKit Go.Lib in

open Go.RowKit Go.Lib in

open Go.RowKit Go.Lib in

open Go.RowKit Go.Lib in

open Go.Proofs Go.RowKit Go.Lib in

def Tryz.bytes_Index_at (a1 a2:Addr) (n c1 k c2:Nat) (xs ys:List Int) (m:Int) (w:World) (hx:xs.length=n) (hy:ys.length=k) (hr1:∀x∈xs,0≤x∧x<256) (hr2:∀y∈ys,0≤y∧y<256) (hc1:∀i,i<n→w.cell? (a1.add i)=some (.int .u8 (xs.getD i 0))) (hc2:∀i,i<k→w.cell? (a2.add i)=some (.int .u8 (ys.getD i 0))) (hcap:n≤c1) (hs:n<4294967281) (hk:k≤9223372036854775807) (hm:w.cell? ⟨0,0,none⟩=some (.int .i64 m)) :
 Calls prog 178 #[.slice (some a1) n c1,.slice (some a2) k c2] w λe w'=>e=.returned (.int .i64 (Lib.index (Lib.bytesOf xs) (Lib.bytesOf ys)))∧∃q,w'=w.drewN q:=Any.bytes_Index_at Tryz.lays185 a1 a2 n c1 k c2 xs ys m w hx hy hr1 hr2 hc1 hc2 hcap hs hk hm
open Go.Proofs Go.RowKit Go.Lib in

open Go.Proofs Go.RowKit Go.Lib in

def Tryz.laysSlC13_ren:Go.Shelf.Ren:=⟨fun | 13=>177 | 24=>198 | 25=>199 | 12=>178 | 31=>212 | 19=>200 | 20=>85 | 21=>201 | 22=>202 | 23=>203 | 29=>213 | 30=>214 | n=>n,fun | 22=>45 | 3=>3 | 4=>4 | 0=>0 | 5=>5 | 9=>9 | 33=>116 | 40=>262 | 39=>261 | n=>n,fun | 0=>0 | n=>n⟩
def Tryz.laysSlC13:Go.Proofs.SlLaysC.n13 prog Tryz.laysSlC13_ren:={
 mixed:=by kernel_rfl
 f12:=func178.trans (congrArg some (by kernel_rfl))
 f13:=func177.trans (congrArg some (by kernel_rfl))
 f19:=func200.trans (congrArg some (by kernel_rfl))
 f20:=func85.trans (congrArg some (by kernel_rfl))
 f21:=func201.trans (congrArg some (by kernel_rfl))
 f22:=func202.trans (congrArg some (by kernel_rfl))
 f23:=func203.trans (congrArg some (by kernel_rfl))
 f25:=func199.trans (congrArg some (by kernel_rfl))
 f29:=func213.trans (congrArg some (by kernel_rfl))
 f30:=func214.trans (congrArg some (by kernel_rfl))
 t0:=underlying0
 a0:=isAgg0
 z0:=sizeOf0
 v0:=zeroValue0
 t3:=underlying3
 a3:=isAgg3
 z3:=sizeOf3
 v3:=zeroValue3
 t4:=underlying4
 a4:=isAgg4
 z4:=sizeOf4
 v4:=zeroValue4
 t5:=underlying5
 a5:=isAgg5
 z5:=sizeOf5
 v5:=zeroValue5
 t9:=underlying9
 a9:=isAgg9
 z9:=sizeOf9
 v9:=zeroValue9
 t22:=underlying45
 a22:=isAgg45
 z22:=sizeOf45
 v22:=zeroValue45
 t33:=underlying116
 a33:=isAgg116
 z33:=sizeOf116
 v33:=zeroValue116
 t39:=underlying261
 a39:=isAgg261
 z39:=sizeOf261
 v39:=zeroValue261
 t40:=underlying262
 a40:=isAgg262
 z40:=sizeOf262
 v40:=zeroValue262
 g0:=by kernel_rfl }
open Go.RowKit Go.Lib in

def Tryz.bytes_Count_at (a1 a2:Addr) (n c1 k c2:Nat) (xs ys:List Int) (m:Int) (w:World) (hx:xs.length=n) (hy:ys.length=k) (hr1:∀x∈xs,0≤x∧x<256) (hr2:∀y∈ys,0≤y∧y<256) (hc1:∀i,i<n→w.cell? (a1.add i)=some (.int .u8 (xs.getD i 0))) (hc2:∀i,i<k→w.cell? (a2.add i)=some (.int .u8 (ys.getD i 0))) (hcap:n≤c1) (hs:n<4294967281) (hk:k≤9223372036854775807) (h2:2≤k) (hm:w.cell? ⟨0,0,none⟩=some (.int .i64 m)) :
 Calls prog 177 #[.slice (some a1) n c1,.slice (some a2) k c2] w λe w'=>e=.returned (.int .i64 (Lib.count (Lib.bytesOf xs) (Lib.bytesOf ys)))∧∃q,w'=w.drewN q:=Any.bytes_Count_at Tryz.laysSlC13 a1 a2 n c1 k c2 xs ys m w hx hy hr1 hr2 hc1 hc2 hcap hs hk h2 hm
open Go.RowKit Go.Lib in

def Tryz.bytes_Count_nil (p2:Option Addr) (k c2:Nat) (w:World) (h2:2≤k) (hk:k≤9223372036854775807) :
 Calls prog 177 #[.slice none 0 0,.slice p2 k c2] w λe w'=>e=.returned (.int .i64 0)∧w'=w:=Any.bytes_Count_nil Tryz.laysSlC13 p2 k c2 w h2 hk
end Go.Proofs
namespace Go.Proofs.YtkggcjdlpendfaaGreatDoor
open Go.RowKit Tryz
def zUG {P:Program} {f:FuncId} {args:Array Value} {w:World} {v:Value} (h:Calls P f args w λe w'=>e=.returned v∧w'=w):Calls P f args w λe w'=>e=.returned v∧w=w' :=
 h.mono λ_ _ ⟨a,b⟩=>⟨a,b.symm⟩
def szN (n:Int):Nat:=Lib.bitLen n.natAbs
def zER (n:Int) (h1: -4095≤n) (h2:n≤4095):szN n≤12∧n.natAbs<2 ^ szN n∧(n≠0→1≤szN n∧2 ^ (szN n-1)≤n.natAbs):=by
 have hb:n.natAbs<2 ^ 12:=by omega
 refine⟨Lib.bitLen_le _ 12 (by omega) hb, ?_,λh0=> ?_⟩
 ·by_cases h0:n=0
  ·subst h0;decide
  exact (Lib.bitLenAux_bounds 64 n.natAbs (by omega) (by omega)).2.2
 have:=Lib.bitLenAux_bounds 64 n.natAbs (by omega) (by omega);exact⟨this.1,this.2.1⟩
def vM (n:Int):Int×Int×Int:=if -4095≤n∧n≤4095 then (szN n,if n<0 then n+2 ^ szN n-1 else n,0) else (0,0,1)
def zQx (n:Int) (w:World):Calls prog 216 #[.int .i64 n] w λe w'=>e=.returned (.tuple #[.int .i64 (vM n).1,.int .i64 (vM n).2.1,.int .i64 (vM n).2.2])∧w=w':=by
 by_cases hin: -4095≤n∧n≤4095
 ·obtain⟨h1,h2⟩:=hin;obtain⟨g1,-,-⟩:=zER n h1 h2;have hl:=zA (λW=>zUG (Tryz.bits_Len n.natAbs W (by omega) (by omega)));have hf:vM n=((szN n:Int),(if n<0 then n+2 ^ szN n-1 else n),(0:Int)):=by unfold vM;rw[if_pos ⟨h1,h2⟩]
  rw[hf];have hsz:Lib.bitLen ((n.natAbs:Int)).toNat=szN n:=by simp[szN]
  have hmx:(n.natAbs:Int)=max n (-n):=by omega
  rw[hsz,hmx] at hl;clear hf hsz hmx;have p1:=zHD (szN n) 12 g1;have p2:=zCU (szN n);have p3:(2:Int) ^ 12=4096:=by decide
  rw[p3] at p1;clear p3;generalize szN n=s at *
  by_cases hn:n<0
  ·rw[if_pos hn];go_enter func216,ntmps216;go_wp2_with (go_at_call 221;refine (hl.out _).mono ?_;rintro e w' ⟨rfl,rfl⟩)
   refine bodyPost_ret (results_tmp3 rfl _ _ _) rfl ?_;refine⟨?_,rfl⟩;have e:n+((2:Int) ^ s-1)=n+2 ^ s-1:=by omega
   show Ending.returned (Value.tuple #[Value.int .i64 s,Value.int .i64 (n+((2:Int) ^ s-1)),Value.int .i64 0])=_
   rw[e]
  rw[if_neg hn];go_enter func216,ntmps216;go_wp2_with (go_at_call 221;refine (hl.out _).mono ?_;rintro e w' ⟨rfl,rfl⟩)
  refine bodyPost_ret (results_tmp3 rfl _ _ _) rfl ?_;exact⟨rfl,rfl⟩
 have hf:vM n=(0,0,1):=by unfold vM;rw[if_neg hin]
 rw[hf];clear hf
 by_cases hn:n≤ -4096
 ·have hd:decide (n≤ -4096)=true:=by simpa using hn
  clear hin;go_enter func216,ntmps216;go_wp2_with fail;refine bodyPost_ret (results_tmp3 rfl _ _ _) rfl ?_;exact⟨rfl,rfl⟩
 have hd:decide (n≤ -4096)=false:=by simpa using hn
 have h4:4096≤n:=by omega
 clear hin;go_enter func216,ntmps216;go_wp2_with fail;refine bodyPost_ret (results_tmp3 rfl _ _ _) rfl ?_;exact⟨rfl,rfl⟩
def zFH (s:Int×Int×Bool):Int×Int×Bool :=
 if s.2.2 then (if s.2.1=7 then (s.1+1,s.2.1,false) else if s.1=0 then (s.1,s.2.1+1,false) else (s.1-1,s.2.1+1,true))
 else (if s.1=7 then (s.1,s.2.1+1,true) else if s.2.1=0 then (s.1+1,s.2.1,true) else (s.1+1,s.2.1-1,false))
def zst:Nat→Int×Int×Bool
 | 0=>(0,0,true)
 | k+1=>zFH (zst k)
def vB (k:Nat):Int:=8*(zst k).1+(zst k).2.1
def zigL:List Int:=(List.range 64).map vB
def zst_bd (k:Nat) (h:k<64):0≤(zst k).1∧(zst k).1≤7∧0≤(zst k).2.1∧(zst k).2.1≤7 :=
 (by decide+kernel:∀j:Fin 64,0≤(zst j.val).1∧(zst j.val).1≤7∧0≤(zst j.val).2.1∧(zst j.val).2.1≤7) ⟨k,h⟩
def zDd:zigL.length=64:=by simp[zigL]
def zNk (k:Nat) (h:k<64):zigL.take (k+1)=zigL.take k++[vB k]:=by rw[wC1 (by rw[zDd];exact h)];simp[zigL]
def zRF (k:Nat) (h:k<zigL.length):zigL[k]=vB k:=by simp[zigL]
def zHx (k:Nat) (h:k<64):0≤vB k∧vB k<64:=by have:=zst_bd k h;unfold vB;omega
def qX (zs:List Int) (k:Nat):List Int:=(List.range k).foldl (λl i=>l.set (vB i).toNat (zs.getD i 0)) (List.replicate 64 0)
def zHY (zs:List Int) (k:Nat):qX zs (k+1)=(qX zs k).set (vB k).toNat (zs.getD k 0):=by unfold qX;rw[wG5,List.foldl_append];rfl
def uW (zs:List Int) (k:Nat):(qX zs k).length=64:=by
 induction k with
 | zero=>simp[qX]
 | succ k ih=>rw[zHY];simpa using ih
def zto (zs:List Int):List Int:=(List.range 64).map λi=>zs.getD (vB i).toNat 0
def vA (zs:List Int):(zto zs).length=64:=by simp[zto]
def zto_set (zs:List Int) (k:Nat) (h:k<64):((zto zs).take k++List.replicate (64-k) 0).set k (zs.getD (vB k).toNat 0)=(zto zs).take (k+1)++List.replicate (64-(k+1)) 0:=by
 have hl:((zto zs).take k).length=k:=by rw[wF1,vA];omega
 rw[wL4 _ _ (by omega),hl,wL5,wC1 (by rw[vA];exact h)];obtain⟨m,hm⟩:∃m,64-k=m+1:=⟨64-k-1,by omega⟩
 have hm2:64-(k+1)=m:=by omega
 rw[hm,hm2,wG1,wJ9];simp[zto]
def qZ (r n:Int):Tok:=(16*r+(vM n).1,(vM n).1,(vM n).2.1)
def long:Tok:=(240,0,0)
def zEq (s:List Tok×Nat) (n:Int):List Tok×Nat:=if n=0 then (s.1,s.2+1) else (s.1++List.replicate (s.2/16) long++[qZ ((s.2%16:Nat):Int) n],0)
def zBH (t0:Tok) (l:List Int) (k:Nat):List Tok×Nat:=(l.take k).foldl zEq ([t0],0)
def zOp (t0:Tok) (l:List Int):zBH t0 l 0=([t0],0):=rfl
def zJh (t0:Tok) (l:List Int) (k:Nat) (h:k<l.length):zBH t0 l (k+1)=zEq (zBH t0 l k) l[k]:=by unfold zBH;rw[wC1 h,List.foldl_append];rfl
def accT_bd (t0:Tok) (l:List Int):∀k,k≤l.length→k≤64→(zBH t0 l k).2≤k∧(zBH t0 l k).1.length≤1+64*k:=by
 intro k
 induction k with
 | zero=>intro _ _;simp[zOp]
 | succ k ih =>
   intro h1 h2;obtain⟨a,b⟩:=ih (by omega) (by omega);rw[zJh t0 l k (by omega)];unfold zEq;split
   ·simp;omega
   simp;omega
def zHp {s:List Tok×Nat} {n:Int} (h:n=0):zEq s n=(s.1,s.2+1):=by unfold zEq;rw[if_pos h]
def zJx {s:List Tok×Nat} {n:Int} (h:n≠0):zEq s n=(s.1++List.replicate (s.2/16) long++[qZ ((s.2%16:Nat):Int) n],0):=by unfold zEq;rw[if_neg h]
def yW (before:Int) (z:List Int):List Tok :=
 let s:=zBH (qZ 0 (z.getD 0 0-before)) (z.drop 1) 63
 if 0<s.2 then s.1++[(0,0,0)] else s.1
def zBl (k:Nat) (v:Int):Int:=if 0<k∧v<2 ^ (k-1) then v-(2 ^ k-1) else v
def back_in (k:Nat) (v:Nat) (w:World) (hk:k≤12) (h1:(v:Int)<2 ^ k):Calls prog 188 #[.int .i64 k,.int .i64 v] w λe w'=>e=.returned (.tuple #[.int .i64 (zBl k v),.int .i64 0])∧w=w':=by
 have p1:=zHD k 12 hk;rw[show (2:Int) ^ 12=4096 from by decide] at p1;have p2:=zCU k
 by_cases h0:k=0
 ·subst h0;have:v=0:=by simp at h1;omega
  subst this;go_enter func188,ntmps188;go_wp2_with fail;go_ret2;exact⟨rfl,rfl⟩
 obtain⟨j,rfl⟩:∃j,k=j+1:=⟨k-1,by omega⟩
 by_cases hv:(v:Int)<2 ^ j
 ·have hq:((v:Int)/2 ^ j ==0)=true:=by rw[Int.ediv_eq_zero_of_lt (by omega) hv];rfl
  have HF:=zA (show zBl (j+1) v=v-(2 ^ (j+1)-1) by unfold zBl;rw[if_pos ⟨by omega,hv⟩]);clear hv;go_enter func188,ntmps188;go_wp2_with fail;go_ret2;exact⟨by rw[HF.out];rfl,rfl⟩
 have hq:((v:Int)/2 ^ j ==0)=false:=by
  have p3:=zCU j;have:(1:Int)≤v/2 ^ j:=(Int.le_ediv_iff_mul_le (by omega)).2 (by omega);simp;omega
 have HF:=zA (show zBl (j+1) v=v by unfold zBl;rw[if_neg (by simp;omega)]);clear hv;go_enter func188,ntmps188;go_wp2_with fail;go_ret2;exact⟨by rw[HF.out];rfl,rfl⟩
def back_out (n v:Int) (w:World) (h:n<0∨(¬n<0∧12<n)∨(0≤n∧n≤12∧v<0)∨(0≤n∧n≤12∧0≤v∧2 ^ n.toNat≤v)):Calls prog 188 #[.int .i64 n,.int .i64 v] w λe w'=>e=.returned (.tuple #[.int .i64 0,.int .i64 1])∧w=w':=by
 rcases h with h | ⟨h1,h⟩ | ⟨h1,h2,h⟩ | ⟨h1,h2,h3,h⟩
 ·go_enter func188,ntmps188;go_wp2_with fail;go_ret2;exact⟨rfl,rfl⟩
 ·go_enter func188,ntmps188;go_wp2_with fail;go_ret2;exact⟨rfl,rfl⟩
 ·go_enter func188,ntmps188;go_wp2_with fail;go_ret2;exact⟨rfl,rfl⟩
 obtain⟨k,rfl⟩:∃k:Nat,n=k:=⟨n.toNat,by omega⟩
 have hk:k≤12:=by omega
 rw[wD7] at h;have p1:=zHD k 12 hk;rw[show (2:Int) ^ 12=4096 from by decide] at p1;have p2:=zCU k;go_enter func188,ntmps188;go_wp2_with fail;go_ret2;exact⟨rfl,rfl⟩
def xH (n v:Int):Int×Int:=if 0≤n∧n≤12∧0≤v∧v<2 ^ n.toNat then (zBl n.toNat v,0) else (0,1)
def zQd (n v:Int) (w:World):Calls prog 188 #[.int .i64 n,.int .i64 v] w λe w'=>e=.returned (.tuple #[.int .i64 (xH n v).1,.int .i64 (xH n v).2])∧w=w':=by
 unfold xH
 by_cases h:0≤n∧n≤12∧0≤v∧v<2 ^ n.toNat
 ·rw[if_pos h];obtain⟨h1,h2,h3,h4⟩:=h;obtain⟨k,rfl⟩:∃k:Nat,n=k:=⟨n.toNat,by omega⟩
  obtain⟨v,rfl⟩:∃k:Nat,v=k:=⟨v.toNat,by omega⟩
  rw[wD7] at h4 ⊢;exact back_in k v w (by omega) h4
 rw[if_neg h];exact back_out n v w (by omega)
def zigAt_inj:∀i j:Fin 64,vB i.val=vB j.val→i=j:=by decide+kernel
def zIo (z:List Int):∀(k i:Nat),k≤64→i<k→(qX z k).getD (vB i).toNat 0=z.getD i 0:=by
 intro k
 induction k with
 | zero=>intro i _ h;omega
 | succ k ih =>
   intro i hk hi;rw[zHY];have bi:=zHx i (by omega);have bk:=zHx k (by omega);have hl:=uW z k
   by_cases e:i=k
   ·subst e;simp[wH7,wL6,hl,show (vB i).toNat<64 by omega]
   have hne:(vB k).toNat≠(vB i).toNat:=by
    intro h;have:vB k=vB i:=by omega
    have:=zigAt_inj ⟨k,by omega⟩ ⟨i,by omega⟩ this;exact e (by simpa using (congrArg Fin.val this).symm)
   have:=ih i (by omega) (by omega);simpa [wH7,wL6,hne] using this
def zPn (z:List Int) (hz:z.length=64):zto (qX z 64)=z:=by
 refine wL7 (by rw[vA,hz]) λi h1 h2=> ?_
 have:=zIo z 64 i (by omega) (by rw[vA] at h1;exact h1);simp only[zto,wL8,wL9];rw[this];simp[wH7,h2]
def zBk (t:Tok):Bool:=decide ((xH t.2.1 t.2.2).2=0∧t.2.1=t.1%16∧t.2.1≤11∧0≤t.1∧t.1≤255∧(t.2.1=0→t.1=0∨t.1=240))
def zBa (before:Int) (t:Tok):Bool:=decide ((xH t.2.1 t.2.2).2=0∧t.1=t.2.1∧ -2047≤before+(xH t.2.1 t.2.2).1∧before+(xH t.2.1 t.2.2).1≤2047)
def zLO (n v:Int): -4095≤(xH n v).1∧(xH n v).1≤4095∧((xH n v).2=0∨(xH n v).2=1):=by
 unfold xH;split
 ·next h =>
  obtain⟨h1,h2,h3,h4⟩:=h;have p1:=zHD n.toNat 12 (by omega);rw[show (2:Int) ^ 12=4096 from by decide] at p1;have p2:=zCU n.toNat;refine⟨?_, ?_,.inl rfl⟩
  ·show -4095≤zBl _ _
   unfold zBl;split<;>omega
  show zBl _ _≤4095
  unfold zBl;split<;>omega
 simp
def backR_11 {n v:Int} (h:(xH n v).2=0) (h11:n≤11): -2047≤(xH n v).1∧(xH n v).1≤2047∧0≤n∧(n=0→(xH n v).1=0):=by
 unfold xH at h ⊢;split at h
 ·next hh =>
  rw[if_pos hh];obtain⟨h1,h2,h3,h4⟩:=hh;have p1:=zHD n.toNat 11 (by omega);rw[show (2:Int) ^ 11=2048 from by decide] at p1;have p2:=zCU n.toNat;refine⟨?_, ?_,h1, ?_⟩
  ·show -2047≤zBl _ _
   unfold zBl;split<;>omega
  ·show zBl _ _≤2047
   unfold zBl;split<;>omega
  intro e;subst e;simp at h4;unfold zBl;simp;omega
 simp at h
def zIr {t:Tok}:zBk t=true↔(xH t.2.1 t.2.2).2=0∧t.2.1=t.1%16∧t.2.1≤11∧0≤t.1∧t.1≤255∧(t.2.1=0→t.1=0∨t.1=240):=decide_eq_true_iff
def tokOk_def (t:Tok):zBk t=decide ((xH t.2.1 t.2.2).2=0∧t.2.1=t.1%16∧t.2.1≤11∧0≤t.1∧t.1≤255∧(t.2.1=0→t.1=0∨t.1=240)):=rfl
def zMu {before:Int} {t:Tok}:zBa before t=true↔(xH t.2.1 t.2.2).2=0∧t.1=t.2.1∧ -2047≤before+(xH t.2.1 t.2.2).1∧before+(xH t.2.1 t.2.2).1≤2047:=by simp[zBa]
section
variable {σ:Type}
def goB (next:σ→Tok×Int×σ) (i:Nat) (z:List Int) (all:List Tok) (s:σ):Int×List Int×List Tok×σ :=
 if h:i<64 then
  if (next s).2.1≠0 then ((next s).2.1,z,all,(next s).2.2)
  else if zBk (next s).1=false then (4,z,all,(next s).2.2)
  else if (next s).1.1=0 then (0,z,all++[(next s).1],(next s).2.2)
  else if 64<i+((next s).1.1/16).toNat+1 then (4,z,all,(next s).2.2)
  else goB next (i+((next s).1.1/16).toNat+1) (z.set (i+((next s).1.1/16).toNat) (xH (next s).1.2.1 (next s).1.2.2).1) (all++[(next s).1]) (next s).2.2
 else (0,z,all,s)
termination_by 64-i
variable {next:σ→Tok×Int×σ} {i:Nat} {z:List Int} {all:List Tok} {s s':σ} {t:Tok} {e:Int}
def goB_err (hi:i<64) (h:next s=(t,e,s')) (he:e≠0):goB next i z all s=(e,z,all,s'):=by unfold goB;rw[dif_pos hi,h,if_pos he]
def goB_bad (hi:i<64) (h:next s=(t,0,s')) (ht:zBk t=false):goB next i z all s=(4,z,all,s'):=by unfold goB;rw[dif_pos hi,h,if_neg (by simp),if_pos ht]
def zOK (hi:i<64) (h:next s=(t,0,s')) (ht:zBk t=true) (h0:t.1=0):goB next i z all s=(0,z,all++[t],s'):=by unfold goB;rw[dif_pos hi,h,if_neg (by simp),if_neg (by simp[ht]),if_pos h0]
def zOI (hi:i<64) (h:next s=(t,0,s')) (ht:zBk t=true) (h0:t.1≠0) (hf:64<i+(t.1/16).toNat+1):goB next i z all s=(4,z,all,s'):=by unfold goB;rw[dif_pos hi,h,if_neg (by simp),if_neg (by simp[ht]),if_neg h0,if_pos hf]
def zGH (hi:i<64) (h:next s=(t,0,s')) (ht:zBk t=true) (h0:t.1≠0) (hf:¬64<i+(t.1/16).toNat+1) :
 goB next i z all s=goB next (i+(t.1/16).toNat+1) (z.set (i+(t.1/16).toNat) (xH t.2.1 t.2.2).1) (all++[t]) s':=by rw[goB,dif_pos hi,h,if_neg (by simp),if_neg (by simp[ht]),if_neg h0,if_neg hf]
def zLN (hi:¬i<64):goB next i z all s=(0,z,all,s):=by unfold goB;rw[dif_neg hi]
def vD (next:Bool→σ→Tok×Int×σ) (before:Int) (s:σ):Int×List Int×List Tok×σ :=
 if (next true s).2.1≠0 then ((next true s).2.1,List.replicate 64 0,[],(next true s).2.2)
 else if zBa before (next true s).1=false then (4,List.replicate 64 0,[],(next true s).2.2)
 else
  let g:=goB (next false) 1 ((List.replicate 64 0).set 0 (before+(xH (next true s).1.2.1 (next true s).1.2.2).1)) [(next true s).1] (next true s).2.2
  if g.1≠0 then (g.1,List.replicate 64 0,[],g.2.2.2)
  else if yW before g.2.1=g.2.2.1 then (0,qX g.2.1 64,g.2.2.1,g.2.2.2)
  else (4,List.replicate 64 0,[],g.2.2.2)
variable {nextB:Bool→σ→Tok×Int×σ} {before:Int}
def zRe (h:nextB true s=(t,e,s')) (he:e≠0):vD nextB before s=(e,List.replicate 64 0,[],s'):=by unfold vD;rw[h,if_pos he]
def zRc (h:nextB true s=(t,0,s')) (ht:zBa before t=false):vD nextB before s=(4,List.replicate 64 0,[],s'):=by unfold vD;rw[h,if_neg (by simp),if_pos ht]
def blkZ_go (h:nextB true s=(t,0,s')) (ht:zBa before t=true) {g:Int×List Int×List Tok×σ} (hg:goB (nextB false) 1 ((List.replicate 64 0).set 0 (before+(xH t.2.1 t.2.2).1)) [t] s'=g) :
 vD nextB before s=if g.1≠0 then (g.1,List.replicate 64 0,[],g.2.2.2) else if yW before g.2.1=g.2.2.1 then (0,qX g.2.1 64,g.2.2.1,g.2.2.2) else (4,List.replicate 64 0,[],g.2.2.2):=by unfold vD;rw[h,if_neg (by simp),if_neg (by simp[ht])];simp only;rw[hg]
def finZ (before:Int) (g:Int×List Int×List Tok×σ):Int×List Int×List Tok×σ :=
 if g.1≠0 then (g.1,List.replicate 64 0,[],g.2.2.2) else if yW before g.2.1=g.2.2.1 then (0,qX g.2.1 64,g.2.2.1,g.2.2.2) else (4,List.replicate 64 0,[],g.2.2.2)
def zQn (h:nextB true s=(t,0,s')) (ht:zBa before t=true):vD nextB before s=finZ before (goB (nextB false) 1 ((List.replicate 64 0).set 0 (before+(xH t.2.1 t.2.2).1)) [t] s'):=blkZ_go h ht rfl
def finZ_err {x:Int} (hx:x≠0):finZ before (x,z,all,s)=(x,List.replicate 64 0,[],s):=if_pos hx
def zOt (h:yW before z=all):finZ before ((0:Int),z,all,s)=(0,qX z 64,all,s):=by unfold finZ;dsimp only;rw[if_neg (show ¬((0:Int)≠0) by simp),if_pos h]
def finZ_ne (h:yW before z≠all):finZ before ((0:Int),z,all,s)=(4,List.replicate 64 0,[],s):=by unfold finZ;dsimp only;rw[if_neg (show ¬((0:Int)≠0) by simp),if_neg h]
structure Half (z:List Int) (i:Nat):Prop where
 len:z.length=64
 lo:∀x∈z,-2047≤x∧x≤2047
 zero:∀j,i≤j→j<64→z[j]? =some 0
def Half.set {z:List Int} {i k:Nat} (h:Half z i) (hk:i≤k) (hk2:k<64) {x:Int} (h1: -2047≤x) (h2:x≤2047):Half (z.set k x) (k+1) :=
 ⟨by simp[h.len],λy hy=>by
  rcases wM0 hy with h3 | h3
  ·exact h.lo y h3
  ·rw[h3];exact⟨h1,h2⟩,λj hj hj2=>by
  rw[wM1 (by omega)];exact h.zero j (by omega) hj2⟩
def Half.same {z:List Int} {i k:Nat} (h:Half z i) (hk:i≤k) (hk2:k<64):z.set k 0=z:=by
 have:=h.zero k hk hk2;obtain⟨h1,h2⟩:=wB7.1 this
 exact wL7 (by simp) λj a b=>by
  by_cases e:j=k
  ·subst e;simp[h2]
  simp[wM2,show ¬k=j by omega]
def Half.init (x:Int) (h1: -2047≤x) (h2:x≤2047):Half ((List.replicate 64 0).set 0 x) 1 :=
 ⟨by simp,λy hy=>by
  rcases wM0 hy with h3 | h3
  ·simp at h3;omega
  ·omega,λj hj hj2=>by
  rw[wM1 (by omega),wM3,if_pos hj2]⟩
end
def xD (r:Bool) (T1 T2:List Tok) (D:List Bool) (first:Bool) (p:Nat):Tok×Int×Nat :=
 let s:=uU (if first then T1 else T2) D p
 if s.2.2≠0 then ((0,0,0),s.2.2,if r then (if s.2.2=3 then D.length else p+16) else p)
 else
  let wd:=if first then s.1 else s.1%16
  if 12<wd∨(first=false∧11<wd) then ((0,0,0),4,if r then s.2.1 else p)
  else if D.length<s.2.1+wd.toNat then ((0,0,0),3,if r then s.2.1 else p)
  else ((s.1,wd,((yK ((D.drop s.2.1).take wd.toNat):Nat):Int)),0,s.2.1+wd.toNat)
def zKu {r:Bool} {T1 T2:List Tok} {D:List Bool} {first:Bool} {p:Nat} (h:(uU (if first then T1 else T2) D p).2.2≠0):xD r T1 T2 D first p=((0,0,0),(uU (if first then T1 else T2) D p).2.2,if r then (if (uU (if first then T1 else T2) D p).2.2=3 then D.length else p+16) else p):=by unfold xD;dsimp only;rw[if_pos h]
def zJE {r:Bool} {T1 T2:List Tok} {D:List Bool} {first:Bool} {p p':Nat} {s wd:Int} (h:uU (if first then T1 else T2) D p=(s,p',0)) (hw:(if first then s else s%16)=wd) (hb:12<wd∨(first=false∧11<wd)):xD r T1 T2 D first p=((0,0,0),4,if r then p' else p):=by unfold xD;rw[h];dsimp only;rw[if_neg (by simp),hw,if_pos hb]
def zIf {r:Bool} {T1 T2:List Tok} {D:List Bool} {first:Bool} {p p':Nat} {s wd:Int} (h:uU (if first then T1 else T2) D p=(s,p',0)) (hw:(if first then s else s%16)=wd) (hb:¬(12<wd∨(first=false∧11<wd))) (hl:D.length<p'+wd.toNat):xD r T1 T2 D first p=((0,0,0),3,if r then p' else p):=by unfold xD;rw[h];dsimp only;rw[if_neg (by simp),hw,if_neg hb,if_pos hl]
def zGF {r:Bool} {T1 T2:List Tok} {D:List Bool} {first:Bool} {p p':Nat} {s wd:Int} (h:uU (if first then T1 else T2) D p=(s,p',0)) (hw:(if first then s else s%16)=wd) (hb:¬(12<wd∨(first=false∧11<wd))) (hl:¬D.length<p'+wd.toNat):xD r T1 T2 D first p=((s,wd,((yK ((D.drop p').take wd.toNat):Nat):Int)),0,p'+wd.toNat):=by unfold xD;rw[h];dsimp only;rw[if_neg (by simp),hw,if_neg hb,if_neg hl]
def zRT {T:List Tok} {D:List Bool} {p:Nat} (hT:∀t∈T,0≤t.1∧t.1≤255):0≤(uU T D p).1∧(uU T D p).1≤255:=by
 unfold uU;split
 ·next t ht=>exact hT t (wK3 ht)
 exact⟨by simp,by simp⟩
section
variable {σ:Type} {n1 n2:σ→Tok×Int×σ}
def goB_keep0 (next:σ→Tok×Int×σ):∀(k i:Nat) (z:List Int) (all:List Tok) (s:σ),64-i≤k→1≤i→(goB next i z all s).2.1.getD 0 0=z.getD 0 0:=by
 intro k
 induction k with
 | zero=>intro i z all s h _;rw[goB.eq_def,dif_neg (by omega)]
 | succ k ih =>
   intro i z all s h h1;rw[goB.eq_def]
   by_cases hi:i<64
   ·rw[dif_pos hi];split
    ·rfl
    split
    ·rfl
    split
    ·rfl
    split
    ·rfl
    rw[ih _ _ _ _ (by omega) (by omega)];rw[wH7,wM1 (by omega), ←wH7]
   rw[dif_neg hi]
def blkZ_head (next:Bool→σ→Tok×Int×σ) (before:Int) (s:σ) (h:(vD next before s).1=0): -2047≤(vD next before s).2.1.getD 0 0∧(vD next before s).2.1.getD 0 0≤2047:=by
 unfold vD at h ⊢
 by_cases he:(next true s).2.1≠0
 ·rw[if_pos he] at h;exact absurd h he
 rw[if_neg he] at h ⊢
 cases ht:zBa before (next true s).1 with
 | false=>simp[ht] at h
 | true =>
   rw[ht,if_neg (by simp)] at h;rw[if_neg (by simp)];dsimp only at h ⊢;have hk:=goB_keep0 (next false) 64 1 ((List.replicate 64 0).set 0 (before+(xH (next true s).1.2.1 (next true s).1.2.2).1)) [(next true s).1] (next true s).2.2 (by omega) (by omega);generalize goB (next false) 1 ((List.replicate 64 0).set 0 (before+(xH (next true s).1.2.1 (next true s).1.2.2).1)) [(next true s).1] (next true s).2.2=g at *;unfold zBa at ht;have ht:=of_decide_eq_true ht
   by_cases hg:g.1≠0
   ·rw[if_pos hg] at h;exact absurd h hg
   rw[if_neg hg] at h ⊢
   by_cases hz:yW before g.2.1=g.2.2.1
   ·rw[if_pos hz];dsimp only;have h0:=zIo g.2.1 64 0 (by omega) (by omega);rw[show (vB 0).toNat=0 by decide] at h0;rw[h0,hk,show ((List.replicate 64 (0:Int)).set 0 (before+(xH (next true s).1.2.1 (next true s).1.2.2).1)).getD 0 0=before+(xH (next true s).1.2.1 (next true s).1.2.2).1 from rfl];exact⟨ht.2.2.1,ht.2.2.2⟩
   rw[if_neg hz] at h;cases h
end
def zHi (cs:List Int):∀(k:Nat) (p:Nat×Nat),p∈zC cs k→p.1≤k∧(p.2+1)*2 ^ (k-p.1)≤jT cs k
 | 0,p,h=>by rw[zDS] at h;simp at h
 | k+1,p,h=>by
   rw[zEi] at h;have hn:jT cs (k+1)=2*jT cs k+(cs.getD k 0).toNat:=rfl;rcases wD3.1 h with h | h
   ·obtain⟨h1,h2⟩:=zHi cs k p h;refine⟨by omega, ?_⟩;rw[show k+1-p.1=(k-p.1)+1 by omega,wE0, ←wE4,hn];omega
   unfold uF at h;obtain⟨i,hi,rfl⟩:=wD2.1 h;have:=wF2.1 hi;refine⟨by simp, ?_⟩;simp only[wL5,Nat.pow_zero,wD8,hn];omega
def Before (p q:Nat×Nat):Prop:=p.1≤q.1∧(p.2+1)*2 ^ (q.1-p.1)≤q.2
def zIe (cs:List Int):∀k,(zC cs k).Pairwise Before
 | 0=>by rw[zDS];exact List.Pairwise.nil
 | k+1=>by
   rw[zEi,wL1];refine⟨zIe cs k, ?_,λa ha b hb=> ?_⟩
   ·unfold uF;rw[wL2];intro i j hi hj hij;simp only[wL8,wL9];unfold Before;refine⟨wA5 _, ?_⟩;simp only[wL5,Nat.pow_zero,wD8];omega
   obtain⟨h1,h2⟩:=zHi cs k a ha;unfold uF at hb;obtain⟨i,-,rfl⟩:=wD2.1 hb;refine⟨by simp only;omega, ?_⟩;simp only;rw[show k+1-a.1=(k-a.1)+1 by omega,wE0, ←wE4];omega
def zPO (cs xs:List Int) (hl:cs.length=16) (hz:zQ cs xs=0) (s:Int) (long code:Nat) (D R:List Bool) (p:Nat) (hf:qL (zH (zC cs 16) xs) s=some (s,(long:Int),(code:Int))) (hc:code<2 ^ long) (hp:p≤D.length) (hD:D.drop p=qD code long++R) :
 uU (zH (zC cs 16) xs) D p=(s,p+long,0):=by
 obtain⟨q1,q2,q3,q4,q5,q6⟩:=zAy hz
 have hcl:(zC cs 16).length=xs.length:=by
  have:=zDG cs (λz hz=>(yJ.1 q1 z hz).1) 16 (by omega);omega
 unfold qL at hf;obtain⟨-,i,hi,hti,-⟩:=wK7.1 hf
 have hDl:long+R.length=D.length-p:=by
  have:=congrArg List.length hD;rw[wE8,wE2,qH] at this;omega
 have hw:(zH (zC cs 16) xs).find? (zAt D p)=some (s,(long:Int),(code:Int)):=by
  rw[wK7];refine⟨?_,i,hi,hti,λj hj=> ?_⟩
  ·unfold zAt;simp only[wD7];rw[hD,wF8 (by rw[qH];omega),wC2 (by rw[qH];omega),zBF hc];simp;omega
  have hlen:(zH (zC cs 16) xs).length=(zC cs 16).length:=zDB _ _ (by omega);have e1:=zBT (zC cs 16) xs j (by omega) (by omega) (by omega);have e2:=zBT (zC cs 16) xs i (by omega) (by omega) hi;rw[hti] at e2;have hb:=wL2.1 (zIe cs 16) j i (by omega) (by omega) hj;obtain⟨hb1,hb2⟩:=hb;have e21:((zC cs 16)[i]'(by omega)).1=long:=by have:=congrArg (λt=>t.2.1) e2;simp only at this;omega
  have e22:((zC cs 16)[i]'(by omega)).2=code:=by have:=congrArg (λt=>t.2.2) e2;simp only at this;omega
  rw[e21] at hb1 hb2;rw[e22] at hb2;rw[e1];generalize (zC cs 16)[j]'(by omega)=u at *;unfold zAt;simp only[wD7,wC9,Bool.and_eq_false_imp,wB3,beq_eq_false_iff_ne];intro _ h2;rw[hD,wF8 (by rw[qH];omega),zPp,qH,zBF hc] at h2;have h3:code/2 ^ (long-u.1)=u.2:=by omega
  have h4:=Nat.lt_mul_div_succ code (wE9 (long-u.1));rw[h3,wE5] at h4;omega
 rw[zOz hw];simp
def zBJ (t:Tok):Prop:=0≤t.1∧t.1≤255∧0≤t.2.1∧t.2.1≤12∧0≤t.2.2∧t.2.2<2 ^ t.2.1.toNat
def zSA (n:Int):0≤(vM n).1∧(vM n).1≤12∧0≤(vM n).2.1∧(vM n).2.1<2 ^ (vM n).1.toNat:=by
 unfold vM;split
 ·next h =>
  obtain⟨s1,s2,s3⟩:=zER n h.1 h.2;have p:=zCU (szN n);have s2':(n.natAbs:Int)<2 ^ szN n:=by exact_mod_cast s2
  refine⟨by simp,by simp;omega, ?_, ?_⟩
  ·show 0≤(if n<0 then n+2 ^ szN n-1 else n)
   split<;>omega
  show (if n<0 then n+2 ^ szN n-1 else n)<2 ^ ((szN n:Nat):Int).toNat
  rw[wD7];split<;>omega
 simp
def tokZ_wf (r:Nat) (n:Int) (h:r≤15):zBJ (qZ (r:Int) n):=by obtain⟨a,b,c,d⟩:=zSA n;unfold zBJ qZ;dsimp only;exact⟨by omega,by omega,a,b,c,d⟩
def accT_wf (t0:Tok) (l:List Int) (h0:zBJ t0):∀k,k≤l.length→∀t∈(zBH t0 l k).1,zBJ t:=by
 intro k
 induction k with
 | zero=>intro _ t ht;rw[zOp] at ht;simp at ht;subst ht;exact h0
 | succ k ih =>
   intro hk t ht;have ih:=ih (by omega);rw[zJh t0 l k (by omega)] at ht;generalize zBH t0 l k=s at *
   by_cases hz:l[k]=0
   ·rw[zHp hz] at ht;exact ih t ht
   rw[zJx hz] at ht;simp only[wD3,wM4,wM5] at ht;rcases ht with (ht | ⟨-,rfl⟩) | rfl
   ·exact ih t ht
   ·unfold zBJ long;decide
   exact tokZ_wf _ _ (by omega)
def zEB (before:Int) (z:List Int) (hz:z.length=64):∀t∈yW before z,zBJ t:=by
 intro t ht;have h:=accT_wf (qZ 0 (z.getD 0 0-before)) (z.drop 1) (tokZ_wf 0 _ (by omega)) 63 (by simp;omega);unfold yW at ht;simp only at ht;split at ht
 ·rcases wD3.1 ht with h1 | h1
  ·exact h t h1
  simp at h1;subst h1;unfold zBJ;decide
 exact h t ht
def yP (Z:List Int) (k:Nat):List Int:=(Z.drop (k*64)).take 64
def vW (Z:List Int) (k:Nat):Int:=if k=0 then 0 else (yP Z (k-1)).getD 0 0
def uM (Z:List Int) (k:Nat):List Tok:=yW (vW Z k) (zto (yP Z k))
def zAP (T:List Tok):List (Tok×Bool):=T.zipIdx.map λp=>(p.1,p.2 ==0)
def zGP (T:List Tok):(zAP T).length=T.length:=by simp[zAP]
def zTv (T:List Tok) (j:Nat) (h:j<T.length):(zAP T).drop j=(T[j],j ==0)::(zAP T).drop (j+1):=by rw[wH0 (by rw[zGP];exact h)];simp[zAP]
def xM (Z:List Int) (n k:Nat):List (Tok×Bool):=(List.range' k (n-k)).flatMap λi=>zAP (uM Z i)
def zCn (Z:List Int) (n k:Nat) (h:k<n):xM Z n k=zAP (uM Z k)++xM Z n (k+1):=by unfold xM;rw[show n-k=(n-(k+1))+1 by omega,wM6,wG2]
def zEe (Z:List Int) (n:Nat):xM Z n n=[]:=by unfold xM;simp
section
variable {σ:Type}
def qB (step:σ→Tok→Bool→Int×σ):List (Tok×Bool)→σ→Int×σ
 | [],s=>(0,s)
 | (t,b)::r,s=>if (step s t b).1≠0 then step s t b else qB step r (step s t b).2
def xN (step:σ→Tok→Bool→Int×σ) (n:Nat) (Z:List Int) (s:σ):Int×σ :=
 if 400<n then (2,s) else if zR Z (-2047) 2047=false then (1,s) else qB step (xM Z n 0) s
def zDh {step:σ→Tok→Bool→Int×σ} {t:Tok} {b:Bool} {r:List (Tok×Bool)} {s:σ} (h:(step s t b).1≠0):qB step ((t,b)::r) s=step s t b:=by unfold qB;rw[if_pos h]
def zBC {step:σ→Tok→Bool→Int×σ} {t:Tok} {b:Bool} {r:List (Tok×Bool)} {s:σ} (h:(step s t b).1=0):qB step ((t,b)::r) s=qB step r (step s t b).2:=by rw[qB,if_neg (by simp[h])]
end
def zGL (Z:List Int) (n k:Nat) (hz:Z.length=n*64) (h:k<n):(yP Z k).length=64:=by unfold yP;rw[wF1,wE8];omega
def zEv {Z:List Int} {k:Nat} {x:Int} (h:x∈yP Z k):x∈Z:=wM7 (wH6 h)
def zSH (Z:List Int) (n:Nat) (hz:Z.length=n*64):zR Z (-2047) 2047=true↔ ∀k,k<n→zR (yP Z k) (-2047) 2047=true:=by
 constructor
 ·intro h k _;rw[yJ] at h ⊢;exact λx hx=>h x (zEv hx)
 intro h;rw[yJ];intro x hx;obtain⟨i,hi,rfl⟩:=wL3 hx;have h1:=yJ.1 (h (i/64) (by omega))
 have h2:(yP Z (i/64))[i%64]? =some Z[i]:=by
  unfold yP;rw[wB8 (by omega),wB4,show i/64*64+i%64=i by omega,wA2 hi]
 exact h1 _ (wM8 h2)
def zMj (n:Int) (h: -4095≤n∧n≤4095):xH (vM n).1 (vM n).2.1=(n,0):=by
 obtain⟨s1,s2,s3⟩:=zER n h.1 h.2;have p:=zCU (szN n);have s2':(n.natAbs:Int)<2 ^ szN n:=by exact_mod_cast s2
 unfold vM;rw[if_pos h];unfold xH;dsimp only
 by_cases h0:n=0
 ·subst h0;decide
 obtain⟨s4,s5⟩:=s3 h0;have s5':(2:Int) ^ (szN n-1)≤(n.natAbs:Int):=by exact_mod_cast s5
 have e2:(2:Int) ^ szN n=2 ^ (szN n-1)*2:=by rw[←Int.pow_succ];congr 1;omega
 rw[if_pos (by rw[wD7];split<;>omega),wD7];unfold zBl;refine Prod.ext ?_ rfl;dsimp only
 by_cases hn:n<0
 ·simp only[if_pos hn];rw[if_pos (by omega)];omega
 simp only[if_neg hn];rw[if_neg (by omega)]
def szN_11 (n:Int) (h: -2047≤n∧n≤2047):szN n≤11∧(n≠0→1≤szN n):=by
 obtain⟨s1,s2,s3⟩:=zER n (by omega) (by omega);refine⟨?_,λh0=>(s3 h0).1⟩
 by_cases h0:n=0
 ·subst h0;decide
 obtain⟨s4,s5⟩:=s3 h0;rcases wA3 11 (szN n) with h1 | h1
 ·have:=wF3 (n:=2) (by omega) (show 11≤szN n-1 by omega);rw[show 2 ^ 11=2048 from rfl] at this;omega
 exact h1
section
variable {σ:Type}
def zDR (next:σ→Tok×Int×σ):List Tok→σ→σ→Prop
 | [],s,s'=>s=s'
 | t::l,s,s'=>∃s1,next s=(t,0,s1)∧zDR next l s1 s'
def zIc {next:σ→Tok×Int×σ}:∀(a b:List Tok) (s s':σ),zDR next (a++b) s s'↔ ∃s1,zDR next a s s1∧zDR next b s1 s'
 | [],b,s,s'=>by simp[zDR]
 | t::a,b,s,s'=>by
   simp only[wE1,zDR,zIc a b];constructor
   ·rintro⟨s1,h,s2,h2,h3⟩;exact⟨s2,⟨s1,h,h2⟩,h3⟩
   rintro⟨s2,⟨s1,h,h2⟩,h3⟩;exact⟨s1,h,s2,h2,h3⟩
def vC:Nat→List Int→List Tok
 | run,[]=>if 0<run then [(0,0,0)] else []
 | run,n::l=>if n=0 then vC (run+1) l else List.replicate (run/16) long++qZ ((run%16:Nat):Int) n::vC 0 l
def zIL:∀(l:List Int) (acc:List Tok) (run:Nat),(if 0<(l.foldl zEq (acc,run)).2 then (l.foldl zEq (acc,run)).1++[(0,0,0)] else (l.foldl zEq (acc,run)).1)=acc++vC run l
 | [],acc,run=>by
   rw[vC]
   by_cases h:0<run
   ·rw[if_pos h];exact if_pos h
   rw[if_neg h,wG9];exact if_neg h
 | n::l,acc,run=>by
   rw[List.foldl_cons,vC]
   by_cases h:n=0
   ·rw[zHp h,if_pos h];exact zIL l acc (run+1)
   rw[zJx h,if_neg h,zIL l _ 0];simp
def zBR (before:Int) (z:List Int) (hz:z.length=64):yW before z=qZ 0 (z.getD 0 0-before)::vC 0 (z.drop 1):=by unfold yW zBH;rw[wC2 (by simp;omega)];exact zIL (z.drop 1) [qZ 0 (z.getD 0 0-before)] 0
def zNI:zBk long=true:=by decide
def zOR:zBk (0,0,0)=true:=by decide
def zMw (r:Nat) (n:Int) (hr:r≤15) (h: -2047≤n∧n≤2047) (h0:n≠0):zBk (qZ (r:Int) n)=true∧(qZ (r:Int) n).1≠0∧((qZ (r:Int) n).1/16).toNat=r∧(xH (qZ (r:Int) n).2.1 (qZ (r:Int) n).2.2).1=n:=by
 have hb:=zMj n (by omega);obtain⟨h1,h2⟩:=szN_11 n h;have h3:=h2 h0;have e:(vM n).1=(szN n:Int):=by unfold vM;rw[if_pos (by omega)]
 unfold qZ;refine⟨zIr.2 ⟨by dsimp only;rw[hb], ?_, ?_, ?_, ?_, ?_⟩, ?_, ?_,by dsimp only;rw[hb]⟩
 all_goals dsimp only
 all_goals rw[e]
 all_goals omega
def zOa (next:σ→Tok×Int×σ):∀(q j:Nat) (zc:List Int) (all:List Tok) (s s':σ),zDR next (List.replicate q long) s s'→j+16*q≤64→(0<q→j+16*q<64+1)→Half zc j→goB next j zc all s=goB next (j+16*q) zc (all++List.replicate q long) s'
 | 0,j,zc,all,s,s',h,_,_,_=>by
   obtain rfl:s=s':=h;simp
 | q+1,j,zc,all,s,s',h,h1,h2,hz=>by
   rw[wG1] at h;obtain⟨s1,hn,h⟩:=h;have e:=zGH (z:=zc) (all:=all) (show j<64 by omega) hn zNI (by decide) (show ¬64<j+(long.1/16).toNat+1 by rw[show (long.1/16).toNat=15 by decide];omega);rw[e,show (long.1/16).toNat=15 by decide,show (xH long.2.1 long.2.2).1=0 by decide,hz.same (by omega) (by omega)];rw[zOa next q (j+15+1) zc (all++[long]) s1 s' h (by omega) (λ_=>by omega) ⟨hz.len,hz.lo,λk a b=>hz.zero k (by omega) b⟩];rw[show j+15+1+16*q=j+16*(q+1) by omega,wI7,wG1];rfl
def zBM (z:List Int) (j:Nat):List Int:=z.take j++List.replicate (64-j) 0
def zUR {z:List Int} (hz:z.length=64) (hb:∀x∈z,-2047≤x∧x≤2047) {j:Nat} (hj:j≤64):Half (zBM z j) j:=by
 have hl:(z.take j).length=j:=by rw[wF1];omega
 refine⟨by unfold zBM;rw[wE2,hl,wM9];omega,λx hx=> ?_,λk h1 h2=> ?_⟩
 ·unfold zBM at hx;rcases wD3.1 hx with h | h
  ·exact hb x (wH6 h)
  have:=(wM4.1 h).2;omega
 unfold zBM;rw[wH9 (by omega),hl,wM3,if_pos (by omega)]
def zMe {z:List Int} (hz:z.length=64) {j k:Nat} (hk:k≤64) (h:∀i,j≤i→i<k→z[i]? =some 0) (hjk:j≤k):zBM z j=zBM z k:=by
 refine List.ext_getElem? λi=> ?_
 unfold zBM;have l1:(z.take j).length=j:=by rw[wF1];omega
 have l2:(z.take k).length=k:=by rw[wF1];omega
 rcases wA3 i j with h1 | h1
 ·rw[wH4 (by omega),wH4 (by omega),wB8 h1,wB8 (by omega)]
 rw[wH9 (by omega),l1,wM3];rcases wA3 i k with h2 | h2
 ·rw[wH4 (by omega),wB8 h2,h i h1 h2,if_pos (by omega)]
 rw[wH9 (by omega),l2,wM3]
 by_cases h3:i<64
 ·rw[if_pos (by omega),if_pos (by omega)]
 rw[if_neg (by omega),if_neg (by omega)]
def zMJ {z:List Int} (hz:z.length=64) {k:Nat} (hk:k<64):(zBM z k).set k (z[k]'(by omega))=zBM z (k+1):=by
 unfold zBM;have l1:(z.take k).length=k:=by rw[wF1];omega
 rw[wL4 _ _ (by omega),l1,wL5,show 64-k=(64-(k+1))+1 by omega,wG1,wJ9,wC1 (by omega),wI7];rfl
def soFar_all {z:List Int} (hz:z.length=64):zBM z 64=z:=by unfold zBM;rw[wC2 (by omega)];simp
def zIM (next:σ→Tok×Int×σ) (z:List Int) (hz:z.length=64) (hb:∀x∈z,-2047≤x∧x≤2047):∀(l:List Int) (run j:Nat) (all:List Tok) (s s':σ),z.drop (j+run)=l→j+run≤64→(∀i,j≤i→i<j+run→z[i]? =some 0) →
 zDR next (vC run l) s s'→goB next j (zBM z j) all s=(0,z,all++vC run l,s')
 | [],run,j,all,s,s',hd,hj,h0,h=>by
   have hjr:j+run=64:=by
    have:=congrArg List.length hd;rw[wE8] at this;simp at this;omega
   unfold vC at h ⊢;have e:zBM z j=z:=by rw[zMe hz (wA5 64) (λi a b=>h0 i a (by omega)) (by omega),soFar_all hz]
   by_cases hr:0<run
   ·rw[if_pos hr] at h ⊢;obtain⟨s1,hn,h⟩:=h;obtain rfl:s1=s':=h;rw[zOK (by omega) hn zOR rfl,e]
   rw[if_neg hr] at h ⊢;obtain rfl:s=s':=h;rw[zLN (by omega),e];simp
 | n::l,run,j,all,s,s',hd,hj,h0,h=>by
   have hlt:j+run<64:=by
    have:=congrArg List.length hd;rw[wE8] at this;simp at this;omega
   rw[wH0 (by omega)] at hd;injection hd with hd1 hd2
   rw[vC] at h ⊢
   by_cases hn:n=0
   ·rw[if_pos hn] at h ⊢;refine zIM next z hz hb l (run+1) j all s s' (by rw[←hd2];congr 1) (by omega) (λi a b=> ?_) h
    by_cases hi:i=j+run
    ·subst hi;rw[wA2 (by omega),hd1,hn]
    exact h0 i a (by omega)
   rw[if_neg hn] at h ⊢;obtain⟨s1,ha,s2,hs2,hc⟩:=(zIc _ _ _ _).1 h;have hzn:=hb n (by rw[←hd1];exact wC7 _);obtain⟨k1,k2,k3,k4⟩:=zMw (run%16) n (by omega) hzn hn;rw[zOa next (run/16) j (zBM z j) all s s1 ha (by omega) (λ_=>by omega) (zUR hz hb (by omega))];rw[zGH (by omega) hs2 k1 k2 (by rw[k3];omega),k3,k4,show j+16*(run/16)+run%16=j+run by omega]
   have e:(zBM z j).set (j+run) n=zBM z (j+run+1):=by
    rw[zMe hz (k:=j+run) (by omega) h0 (by omega), ←hd1];exact zMJ hz hlt
   rw[e,zIM next z hz hb l 0 (j+run+1) _ s2 s' hd2 (by omega) (λi a b=>by omega) hc];simp
def zSq (next:Bool→σ→Tok×Int×σ) (before:Int) (hbf: -2047≤before∧before≤2047) (z:List Int) (hz:z.length=64) (hb:∀x∈z,-2047≤x∧x≤2047) (s s1 s':σ)
 (h1:next true s=(qZ 0 (z.getD 0 0-before),0,s1)) (h2:zDR (next false) (vC 0 (z.drop 1)) s1 s') :
 vD next before s=(0,qX z 64,yW before z,s'):=by
 have hz0: -2047≤z.getD 0 0∧z.getD 0 0≤2047:=by
  rw[wH7,wA2 (by omega)];exact hb _ (wC7 _)
 have hbk:=zMj (z.getD 0 0-before) (by omega)
 have ht:zBa before (qZ 0 (z.getD 0 0-before))=true:=by
  rw[zMu];unfold qZ;dsimp only;rw[hbk];dsimp only;omega
 rw[zQn h1 ht]
 have e:before+(xH (qZ 0 (z.getD 0 0-before)).2.1 (qZ 0 (z.getD 0 0-before)).2.2).1=z.getD 0 0:=by
  unfold qZ;dsimp only;rw[hbk];dsimp only;omega
 rw[e]
 have e2:(List.replicate 64 (0:Int)).set 0 (z.getD 0 0)=zBM z 1:=by
  have:=zMJ hz (k:=0) (by omega);rw[←this];rw[wH7,wA2 (by omega)];rfl
 rw[e2,zIM (next false) z hz hb (z.drop 1) 0 1 _ s1 s' rfl (by omega) (λi a b=>by omega) h2, ←List.singleton_append.symm];rw[zBR before z hz];exact zOt (zBR before z hz)
end
def zUf:∀m:Fin 64,∃k:Fin 64,(vB k.val).toNat=m.val:=by decide+kernel
def zfrom_zto (b:List Int) (hb:b.length=64):qX (zto b) 64=b:=by
 refine wL7 (by rw[uW,hb]) λm h1 h2=> ?_
 rw[uW] at h1;obtain⟨k,hk⟩:=zUf ⟨m,h1⟩;have h:=zIo (zto b) 64 k.val (by omega) k.isLt;rw[hk] at h;dsimp only at h;rw[wH7,wA2 (by rw[uW];omega),wN0] at h;rw[h];unfold zto;simp[wH7,hk,h2]
def zCG {w:World} {base size n:Nat} {e:TypeId} {v:Value} {xs:List Value} (h:w.ownsRow base e size v n xs):∀g,v.ownBlock=some g→∃cs,w.heap[g]? =some (.cells cs e (0,0)):=by
 obtain⟨-,hh⟩:=h;intro g hg;rcases hh with ⟨rfl,-⟩ | ⟨k,cap,cur,rfl,-,hk,-⟩
 ·simp[Value.ownBlock] at hg
 have:k=g:=by simpa [Value.ownBlock] using hg
 subst this;exact⟨_,hk⟩
def zEs {w:World} {B1 B2 s1 s2 n1 n2:Nat} {e1 e2:TypeId} {v1 v2:Value} {x1 x2:List Value} (h1:w.ownsRow B1 e1 s1 v1 n1 x1) (h2:w.ownsRow B2 e2 s2 v2 n2 x2) (hne:e1≠e2):∀x,v1.ownBlock=some x→v2.ownBlock≠some x:=by
 intro x hx hy;obtain⟨cs,h3⟩:=zCG h1 x hx;obtain⟨ds,h4⟩:=zCG h2 x hy;rw[h3] at h4;injection h4 with h4
 injection h4 with _ h4
 exact hne h4
def jS {w:World} {B s n g:Nat} {e t:TypeId} {v:Value} {xs:List Value} {cs:Array Value} (h:w.ownsRow B e s v n xs) (hb:Blk w g t cs) (hne:e≠t):some g≠v.ownBlock:=by
 intro hx;obtain⟨ds,h3⟩:=zCG h g hx.symm;unfold Blk at hb;rw[h3] at hb;injection hb with hb
 injection hb with _ hb
 exact hne hb
def RowsS (w:World) (A:Option Addr) (n c:Nat) (L:List (List Int)):Prop :=
 ∃vs:List Value,SL w 1 (.slice A n c) n vs∧L.length=n∧∀(k:Nat) (l:List Int),L[k]? =some l→∃(B:Option Addr) (d:Nat),vs[k]? =some (Value.slice B l.length d)∧SL w 1 (.slice B l.length d) l.length (ints l)
def RowsS.ext {w w':World} {A:Option Addr} {n c:Nat} {L:List (List Int)} (h:RowsS w A n c L) (hx:Ext w w'):RowsS w' A n c L:=by obtain⟨vs,h1,h2,h3⟩:=h;refine⟨vs,h1.ext hx,h2,λk l hl=> ?_⟩;obtain⟨B,d,e,hs⟩:=h3 k l hl;exact⟨B,d,e,hs.ext hx⟩
def RowsS.len {w:World} {A:Option Addr} {n c:Nat} {L:List (List Int)} (h:RowsS w A n c L):L.length=n:=h.choose_spec.2.1
def RowsS.cap {w:World} {A:Option Addr} {n c:Nat} {L:List (List Int)} (h:RowsS w A n c L):n≤c∧c≤9223372036854775807:=by
 obtain⟨vs,⟨A',c',e,h1,h2,-⟩,-⟩:=h;injection e with e1 e2 e3
 subst e3;exact⟨h1,h2⟩
def RowsS.get {w:World} {A:Option Addr} {n c k:Nat} {L:List (List Int)} (h:RowsS w A n c L) (hk:k<n) :
 ∃ad l B d,A=some ad∧L[k]? =some l∧ad.block<w.heap.size∧w.cell? (ad.add k)=some (.slice B l.length d)∧SL w 1 (.slice B l.length d) l.length (ints l):=by
 obtain⟨vs,h1,h2,h3⟩:=h;obtain⟨ad,u,ha,hb,hu,hc⟩:=h1.at1 hk;have hl:L[k]? =some (L[k]'(by omega)):=wA2 (by omega);obtain⟨B,d,e,hs⟩:=h3 k _ hl;rw[e] at hu;injection hu with hu
 subst hu;exact⟨ad,_,B,d,ha,hl,hb,hc,hs⟩
def RowsS.nil (w:World):RowsS w none 0 0 []:=⟨[],SL.nil w 1,rfl,by simp⟩
def Meth (P:Program) (ty:TypeId) (v:Value) (name:String) (f:FuncId) (recv:Value):Prop :=
 (∀ w, (method (P.types.size + Made.depth) ty v name).run P w = .ok (f, recv) w) ∧ ∃ fn, P.funcs[f]? = some fn ∧ (fn.name == "runtime.NumGoroutine") = false ∧ fn.body.isSome = true
def zAn (P : Program) (f : FuncId) : Prop := ∃ fn, P.funcs[f]? = some fn ∧ (fn.name == "runtime.NumGoroutine") = false ∧ fn.body.isSome = true
section
variable {P:Program} {ops:Array Oper} {rest:List Oper} {o:Oper} {a:Act} {Q:Exit→Act→World→Prop}
def zDv (r:Operand) (name:String) (xs:Array Operand) (ts:Array TypeId) (ho:o.op=.call { callee:=.invoke r name,args:=xs,argTypes:=ts }) {ty:TypeId} {v:Value}
 (hr:a.eval r=.iface ty v) {f:FuncId} {recv:Value} (hm:Meth P ty v name f recv) (args:Array Value) (hx: #[recv]++xs.map a.eval=args) (w:World):(execOp a.eval o).run P w=.ok (.enter f args) w:=by
 obtain⟨h1,fn,hf,hname,hb⟩:=hm;obtain⟨c,hb⟩:=wB1.1 hb;have hn : ¬ fn.name = "runtime.NumGoroutine" := by simpa using hname
 subst hx;have e0:(#[Value.iface ty v]++Array.map a.eval xs)[0]? =some (.iface ty v):=by simp[Array.getElem?_append]
 have e1:(#[Value.iface ty v]++Array.map a.eval xs).extract 1 (#[Value.iface ty v]++Array.map a.eval xs).size=xs.map a.eval:=by simp
 simp only[execOp,ho,resolve,hr,invoke,Sem.run_bind,Sem.run_pure,Result.andThen_ok,e0,e1];simp[callMethod,callFunc,hf,hb,hn,h1,run_program]
def xL (x:Operand) (xs:Array Operand) (ts:Array TypeId) (ho:o.op=.call { callee:=.value x,args:=xs,argTypes:=ts }) {f:FuncId} {cap:Array Value} (hr:a.eval x=.func (.func f) #[] cap)
 (hm:zAn P f) (args:Array Value) (hx:xs.map a.eval++cap=args) (w:World):(execOp a.eval o).run P w=.ok (.enter f args) w:=by
 obtain⟨fn,hf,hname,hb⟩:=hm;obtain⟨c,hb⟩:=wB1.1 hb;have hn : ¬ fn.name = "runtime.NumGoroutine" := by simpa using hname
 subst hx;simp[execOp,ho,resolve,hr,Deferred.ofValue,invoke,callFunc,hf,hb,hn,run_program]
def xK {w:World} (hw:Region.wanted o (yielded ops a.tmps)=true) {f:FuncId} {args:Array Value} (hrun:∀w,(execOp a.eval o).run P w=.ok (.enter f args) w)
 (h:Calls P f args w λe w'=>∃v,e=.returned v∧wpList P ops Q rest (a.put o.dst v) w'):wpList P ops Q (o::rest) a w :=
 uS hw λK hK=>by
  unfold Oper.wp;rw[hrun];refine h.mono λe w' ⟨v,e1,h2⟩=> ?_
  subst e1;exact hK _ _ h2
end
def jV {o:Oper} {a:Act} {x:Operand} (ho:o.op=.load 22 x) {p:Addr} (hx:a.eval x=.pointer (some p)) {A:Option Addr} {n c:Nat} {w:World} (h:w.cell? p=some (.slice A n c)):(execOp a.eval o).run prog w=.ok (.value (.slice A n c)) w:=by
 have hr:(loadVar 22 p).run prog w=.ok (.slice A n c) w:=by
  have hi:(prog.info? 22).map (·.size)=some 1:=by kernel_rfl
  simp[loadVar,Sem.run_bind,isAgg,run_underlying underlying22,run_load,h]
 simp[execOp,ho,hx,Instr.loadAt,Instr.sureAddr,Sem.run_bind,hr]
def zIx {ops:Array Oper} {Q:Exit→Act→World→Prop} {rest:List Oper} {o:Oper} {a:Act} {w:World} (hg:o.guard=none) (x y:Operand) (ho:o.op=.store 22 x y) (g i:Nat) (A:Option Addr) (n c:Nat) (hx:a.eval x=.pointer (some ⟨g,i,none⟩)) (hy:a.eval y=.slice A n c)
 {t:TypeId} {cs:Array Value} (hB:Blk w g t cs) (hi:i<cs.size) (h:wpList prog ops Q rest (a.put o.dst undef) (w.setCell ⟨g,i,none⟩ (.slice A n c))):wpList prog ops Q (o::rest) a w :=
 wpList_plain hg λ_ hK=>by
  have hc:=(hB.cell i).trans (wD9 hi);have hf:=hB.frozen i;unfold Oper.wp execOp;simp only[ho,hx,hy];go_simp
  exact hK _ _ h
abbrev Four:=Int×Int×Int×Int
def jN (s:Four→Int) (t:Int→Int→Int→Four) (a b c:List Int):Nat→List Int
 | 0=>[]
 | k+1=>jN s t a b c k++[s (t (a.getD k 0) (b.getD k 0) (c.getD k 0))]
def uP (s:Four→Int) (t:Int→Int→Int→Four) (a b c:List Int):∀k,(jN s t a b c k).length=k
 | 0=>rfl
 | k+1=>by rw[jN,wE2,uP s t a b c k];rfl
def zCW (t:Int→Int→Int→Four) (L:List (List Int)):List (List Int) :=
 match L with
 | [a,b,c]=>[jN (·.1) t a b c a.length,jN (·.2.1) t a b c a.length,jN (·.2.2.1) t a b c a.length]
 | _=>L
def zGy (f:FuncId) (t:Int→Int→Int→Four):Prop:=∀(a b c:Int) (w:World),Calls prog f #[.int .i64 a,.int .i64 b,.int .i64 c] w λe w'=>e=.returned (.tuple #[.int .i64 (t a b c).1,.int .i64 (t a b c).2.1,.int .i64 (t a b c).2.2.1,.int .i64 (t a b c).2.2.2])∧Ext w w'
def uL:(prog.info? 22).map (·.size)=some 1:=by kernel_rfl
def row_at {w:World} {B:Option Addr} {d i:Nat} {l:List Int} (h:SL w 1 (.slice B l.length d) l.length (ints l)) (hi:i<l.length):∃ad,B=some ad∧ad.block<w.heap.size∧w.cell? (ad.add i)=some (.int .i64 (l.getD i 0)):=by
 obtain⟨ad,u,hB,hb,hk,hc⟩:=h.at1 hi;rw[ints,wB9,wA2 hi] at hk;injection hk with hk
 subst hk;refine⟨ad,hB,hb, ?_⟩;rw[hc,wH7,wA2 hi];rfl
def RowsF (w:World) (B:Nat) (A:Option Addr) (n c:Nat) (L:List (List Int)):Prop :=
 ∃vs:List Value,SL w 1 (.slice A n c) n vs∧L.length=n∧(∀ad,A=some ad→B≤ad.block)∧∀(k:Nat) (l:List Int),L[k]? =some l→∃(D:Option Addr) (d:Nat),vs[k]? =some (Value.slice D l.length d)∧SL w 1 (.slice D l.length d) l.length (ints l)∧∀ad,D=some ad→B≤ad.block
def RowsF.rows {w:World} {B n c:Nat} {A:Option Addr} {L:List (List Int)} (h:RowsF w B A n c L):RowsS w A n c L:=by obtain⟨vs,h1,h2,-,h3⟩:=h;exact⟨vs,h1,h2,λk l hl=>by obtain⟨D,d,e,hs,-⟩:=h3 k l hl;exact⟨D,d,e,hs⟩⟩
def RowsF.mono {w:World} {B B' n c:Nat} {A:Option Addr} {L:List (List Int)} (h:RowsF w B A n c L) (hB:B'≤B):RowsF w B' A n c L:=by obtain⟨vs,h1,h2,h4,h3⟩:=h;exact⟨vs,h1,h2,λad e=>wJ1 hB (h4 ad e),λk l hl=>by obtain⟨D,d,e,hs,hd⟩:=h3 k l hl;exact⟨D,d,e,hs,λad e=>wJ1 hB (hd ad e)⟩⟩
def RowsF.upd {S:Nat→Prop} {w w':World} {B n c:Nat} {A:Option Addr} {L:List (List Int)} (h:RowsF w B A n c L) (hu:Upd S w w') (hS:∀x,S x→x<B):RowsF w' B A n c L:=by
 obtain⟨vs,h1,h2,h4,h3⟩:=h
 exact⟨vs,h1.upd hu (λad e q=>by have:=h4 ad e;have:=hS _ q;omega),h2,h4,λk l hl=>by
  obtain⟨D,d,e,hs,hd⟩:=h3 k l hl
  exact⟨D,d,e,hs.upd hu (λad e q=>by have:=hd ad e;have:=hS _ q;omega),hd⟩⟩
def rows_mkF {w:World} {g B:Nat} {T:TypeId} {v0 v1 v2:Value} {a b c:List Int} (hg:Blk w g T #[v0,v1,v2]) (hB:B≤g) (h0:∃A d,v0=.slice A a.length d∧SL w 1 v0 a.length (ints a)∧∀ad,A=some ad→B≤ad.block) (h1:∃A d,v1=.slice A b.length d∧SL w 1 v1 b.length (ints b)∧∀ad,A=some ad→B≤ad.block) (h2:∃A d,v2=.slice A c.length d∧SL w 1 v2 c.length (ints c)∧∀ad,A=some ad→B≤ad.block) :
 RowsF w B (some ⟨g,0,none⟩) 3 3 [a,b,c]:=by
 refine⟨[v0,v1,v2],hg.sl (size:=1) rfl (by omega) (by omega),rfl,λad e=>by cases e;exact hB,λk l hl=> ?_⟩;rcases k with _ | _ | _ | k
 ·injection hl with hl;subst hl;obtain⟨A,d,rfl,hs,hd⟩:=h0;exact⟨A,d,rfl,hs,hd⟩
 ·injection hl with hl;subst hl;obtain⟨A,d,rfl,hs,hd⟩:=h1;exact⟨A,d,rfl,hs,hd⟩
 ·injection hl with hl;subst hl;obtain⟨A,d,rfl,hs,hd⟩:=h2;exact⟨A,d,rfl,hs,hd⟩
 simp at hl
def zLj {L:List (List Int)} (h:L.length=3):∃a b c,L=[a,b,c]:=by
 match L,h with
 | [a,b,c],_=>exact⟨a,b,c,rfl⟩
def zJZ (t:Int→Int→Int→Four) {L:List (List Int)} (h:L.length≠3):zCW t L=L:=by
 unfold zCW;split
 ·exact absurd rfl h
 rfl
def xC:List Int:=List.replicate 64 0
def built48:prog.built 33 []=some (bv xC):=by kernel_rfl
def jX:(prog.info? 33).bind (·.zero)=some (.agg (bv xC)):=by kernel_rfl
def zIV (k m:Nat) (hk:0<k):madeCells (bv (List.replicate k 0)) m=bv (List.replicate m 0):=by
 apply Array.ext
 ·rw[size_madeCells,zK,wM9]
 intro i h1 h2;have hm:i<m:=by simpa [size_madeCells] using h1
 have h64:i%k<k:=wN6 _ hk;simp[madeCells,bv,ints,h64]
def infoBlk:∃i,prog.info? 33=some i∧i.zero=some (.agg (bv xC))∧i.size=64∧i.bytes=512:=by
 have h1:=zJ;have h2:=jX;have h3:(prog.info? 33).map (·.bytes)=some 512:=by kernel_rfl
 cases hq:prog.info? 33 with
 | none=>rw[hq] at h1;cases h1
 | some i =>
   rw[hq] at h1 h2 h3;exact⟨i,rfl,by simpa using h2,by simpa using h1,by simpa using h3⟩
def zBq {ops:Array Oper} {rest:List Oper} {o:Oper} {a:Act} {w:World} {Q:Exit→Act→World→Prop} (hg:o.guard=none) (dst:Option Tmp) (hdst:o.dst=dst) (x y:Operand) (ho:o.op=.makeSlice 25 x y) (n:Nat) (hn:n≤100000)
 (hx:a.eval x=.int .i64 (n:Int)) (hy:a.eval y=.int .i64 (n:Int))
 (h:∀w1 g,Blk w1 g 33 (bv (List.replicate (n*64) 0))→Ext w w1→w.heap.size≤g→wpList prog ops Q rest (a.put dst (.slice (some ⟨g,0,none⟩) n n)) w1):wpList prog ops Q (o::rest) a w:=by
 subst hdst;obtain⟨i,hi,hz,hs,hb⟩:=infoBlk;have hr:=run_makeSlice (P:=prog) w 25 33 i (.agg (bv xC)) underlying25 hi hz .i64 .i64 (n:Int) (n:Int) (by omega) (wN7 _) (by rw[hs];omega) (by rw[hb];omega) (by omega);rw[wD7,hs,show (Value.agg (bv xC)).cells=bv (List.replicate 64 0) from rfl,zIV 64 _ (by omega)] at hr;refine wpList_plain hg λ_ hK=> ?_
 unfold Oper.wp execOp;simp only[ho,hx,hy,Sem.run_bind,hr,Result.andThen_ok,Sem.run_pure];exact hK _ _ (h _ _ (Blk.new w _ _) ((Ext.refl w).alloc _) (wA5 _))
def infoInt:∃i,prog.info? 3=some i∧i.zero=some (.int .i64 0)∧i.size=1∧i.bytes=8:=by
 have h1:(prog.info? 3).map (λi=>(i.zero,i.size,i.bytes))=some (some (.int .i64 0),1,8):=by kernel_rfl
 cases hq:prog.info? 3 with
 | none=>rw[hq] at h1;cases h1
 | some i =>
   rw[hq] at h1;simp at h1;exact⟨i,rfl,h1.1,h1.2.1,h1.2.2⟩
def uH {ops:Array Oper} {rest:List Oper} {o:Oper} {a:Act} {w:World} {Q:Exit→Act→World→Prop} (hg:o.guard=none) (dst:Option Tmp) (hdst:o.dst=dst) (x y:Operand) (ho:o.op=.makeSlice 22 x y) (n:Nat) (hn:n≤1000000)
 (hx:a.eval x=.int .i64 (n:Int)) (hy:a.eval y=.int .i64 (n:Int))
 (h:∀w1 g,Blk w1 g 3 (bv (List.replicate n 0))→Ext w w1→w.heap.size≤g→wpList prog ops Q rest (a.put dst (.slice (some ⟨g,0,none⟩) n n)) w1):wpList prog ops Q (o::rest) a w:=by
 subst hdst;obtain⟨i,hi,hz,hs,hb⟩:=infoInt;have hr:=run_makeSlice (P:=prog) w 22 3 i (.int .i64 0) underlying22 hi hz .i64 .i64 (n:Int) (n:Int) (by omega) (wN7 _) (by rw[hs];omega) (by rw[hb];omega) (by omega);rw[wD7,hs,show (Value.int .i64 0).cells=bv (List.replicate 1 0) from rfl,zIV 1 _ (by omega),wD8] at hr;refine wpList_plain hg λ_ hK=> ?_
 unfold Oper.wp execOp;simp only[ho,hx,hy,Sem.run_bind,hr,Result.andThen_ok,Sem.run_pure];exact hK _ _ (h _ _ (Blk.new w _ _) ((Ext.refl w).alloc _) (wA5 _))
