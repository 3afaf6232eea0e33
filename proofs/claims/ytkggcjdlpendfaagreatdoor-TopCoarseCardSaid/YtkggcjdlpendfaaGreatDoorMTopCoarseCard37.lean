/- Contracts of the functions that the law reaches, part 37. -/
import Derived.Test.YtkggcjdlpendfaaGreatDoorRows
import Derived.JoinedCond
import Derived.Test.YtkggcjdlpendfaaGreatDoorCards
import Derived.Test.YtkggcjdlpendfaaGreatDoorTie
import Derived.Deep.DeepHandedRow
import Derived.Lib.LaidTab
import Derived.Shelf.Vars
import Derived.Test.YtkggcjdlpendfaaGreatDoorMTopCoarseCard36
namespace Go.Proofs.YtkggcjdlpendfaaGreatDoor
set_option linter.unusedVariables false
set_option linter.unusedSimpArgs false
set_option maxRecDepth 20000
set_option maxHeartbeats 8000000
open Go.RowKit
theorem zQB (b:List Int) (hb: ∀ z∈b, -4≤z∧z≤4) (i:Nat): -4294967296≤zEz toC b i∧zEz toC b i≤4294967296:=by
 have h:=zMy 64 (zGL toC b i) 67108864 (fun k _=>by
  have hz: -4≤b.getD k 0∧b.getD k 0≤4:=by
   rw[wF2]
   cases hk:b[k]? with
   | none=>simp
   | some x=>exact hb x (wJ8 hk)
  have c1:=zEW (i%8) (k%8)
  have c2:=zEW (i/8) (k/8)
  have t1:=zHx (b.getD k 0) (toC (i%8) (k%8)) 4 4096 (by omega) hz.1 hz.2 c1.1 c1.2
  have t2:=zHx (b.getD k 0*toC (i%8) (k%8)) (toC (i/8) (k/8)) 16384 4096 (by omega) (by omega) (by omega) c2.1 c2.2
  unfold zGL
  omega)
 unfold zEz
 omega
theorem zPH (n:Int) (h: -4294967296≤n∧n≤4294967296): -64≤roundF n∧roundF n≤64:=by
 unfold roundF rnd rp
 split<;>omega
theorem zRA (n:Int) (h: -64≤n∧n≤64):zAs n 255=0:=by
 unfold zAs rnd rp qZ
 split<;>omega
theorem blkF_flat (b:List Int) (hb: ∀ z∈b, -4≤z∧z≤4):blkF b (List.replicate 64 255)=List.replicate 64 0:=by
 unfold blkF
 have h1:zN b (-40000) 40000=true:=yD.2 fun z hz=>by have:=hb z hz;omega
 have hw:(vD toC b).1=zDv toC b:=by unfold vD;rw[if_pos h1]
 rw[hw]
 have hm: ∀ z∈zDv toC b, -64≤z∧z≤64:=by
  intro z hz
  unfold zDv at hz
  rw[zPg,wL2] at hz
  obtain⟨i, -,rfl⟩:=wD6.1 hz
  exact zPH _ (zQB b hb i)
 have hl:=zLJ toC b
 generalize zDv toC b=zs at *
 unfold jF
 rw[if_pos (by decide),if_pos (yD.2 fun z hz=>by have:=hm z hz;omega)]
 refine wH6 (by simp[hl]) fun i h2 h3=> ?_
 simp only[List.getElem_zipWith,List.getElem_replicate]
 exact zRA _ (hm _ (wE1 _))
theorem zLq (X:List Int) (hX: ∀ z∈X, -4≤z∧z≤4): ∀ k,zBk (List.replicate 64 255) X k=List.replicate (k*64) 0
 | 0=>rfl
 | k+1=>by
   rw[zBk,zLq X hX k,blkF_flat (jV X k) (fun z hz=>hX z (wG6 (wG7 hz))),wQ0]
   congr 1
   omega
theorem cutZ_flat (xs:List Int) (a b:Nat) (a1:1≤a) (b1:1≤b) (hx:xs.length=a*b) (hv: ∀ x∈xs,124≤x∧x≤132): ∀ z∈zDE xs a b, -4≤z∧z≤4:=by
 intro z hz
 unfold zDE at hz
 obtain⟨j, -,rfl⟩:=wD6.1 hz
 unfold zIB
 generalize j/64/((a+7)/8)*8+j%64/8=r
 generalize j/64%((a+7)/8)*8+j%64%8=c
 have h1:min r (b-1)*a≤(b-1)*a:=wI5 _ (Nat.min_le_right _ _)
 have h2:(b-1)*a+a=a*b:=by rw[←wN3,Nat.succ_eq_add_one,Nat.sub_add_cancel b1,wI7]
 have h3:min r (b-1)*a+min c (a-1)<xs.length:=by omega
 rw[wF2,wA2 h3]
 have:=hv _ (wE1 h3)
 simp only[Option.getD_some]
 omega
theorem zPF (xs:List Int) (a b:Nat) (a1:1≤a) (a2:a≤64) (b1:1≤b) (b2:b≤64) (hx:xs.length=a*b) (hv: ∀ x∈xs,124≤x∧x≤132) :
 zX a b [xs] (List.replicate 64 255)=(0,yY a b,List.replicate (yY a b*64) 0):=by
 have hs:xJ a b=0:=by unfold xJ;rw[if_pos];simp[vF];omega
 have hc:vZ xs a b=0:=by
  unfold vZ
  rw[if_pos hs,if_pos (by rw[hx];push_cast;rfl),if_pos (yD.2 fun z hz=>by have:=hv z hz;omega)]
 have hp:zCt a b [xs]=0:=by unfold zCt;rw[if_pos hs,if_pos (by simp)];simp[zAX,hc]
 have hn:jI xs a b=yY a b:=by unfold jI;rw[if_pos hc];simp
 have hz:zAi xs a b=zDE xs a b:=by unfold zAi;rw[if_pos hc];simp
 unfold zX
 rw[if_pos hp,if_pos (by decide)]
 show (0,zAL a b [xs],zAj _ a b [xs])=_
 unfold zAL zAj
 simp only[wC8,wC9,List.sum_cons,List.sum_nil,wJ0,List.flatMap_nil,wG3,hn,hz,Nat.add_zero]
 rw[zLq _ (cutZ_flat xs a b a1 b1 hx hv)]
end Go.Proofs.YtkggcjdlpendfaaGreatDoor
namespace Go.Proofs.YtkggcjdlpendfaaGreatDoor.topCoarse
set_option linter.unusedVariables false
set_option linter.unusedSimpArgs false
set_option maxRecDepth 20000
set_option maxHeartbeats 8000000
open Go.RowKit
def val (l:List Int) (k:Nat):Int:=if l.length=0 then 128 else 128+(l.getD (k%l.length) 0%9-4)
theorem val_in (l:List Int) (k:Nat):124≤val l k∧val l k≤132:=by
 unfold val
 split
 ·omega
 ·have h1:=Int.emod_nonneg (l.getD (k%l.length) 0) (show (9:Int)≠0 by omega)
  have h2:=Int.emod_lt_of_pos (l.getD (k%l.length) 0) (show (0:Int)<9 by omega)
  omega
theorem side_of (z:Int): ∃ a:Nat,z%64+1=(a:Int)∧1≤a∧a≤64:=by
 have h1:=Int.emod_nonneg z (show (64:Int)≠0 by omega)
 have h2:=Int.emod_lt_of_pos z (show (0:Int)<64 by omega)
 exact⟨(z%64+1).toNat,by omega,by omega,by omega⟩
theorem ex_lenI {o:Oper} {a:Act} {x:Operand} (ho:o.op=.call { callee:=.builtin .len,args:= #[x],argTypes:= #[22] }) {A:Option Addr} {n c:Nat} (hx:a.eval x=.slice A n c) (w:World):(execOp a.eval o).run Tryz.prog w=.ok (.value (.int .i64 (n:Int))) w:=by
 simp[execOp,ho,resolve,invoke,builtin,hx,Result.andThen,Builtin.len_,goInt]
theorem ex_neq48 {o:Oper} {a:Act} {x y:Operand} {t2:TypeId} (ho:o.op=.binOp .neq 33 x y t2) (xs:List Int) (h:xs.length=64) (hx:a.eval x=.agg (bv xs)) (hy:a.eval y=.agg (bv xs)) (w:World):(execOp a.eval o).run Tryz.prog w=.ok (.value (.bool false)) w:=by
 simp[execOp,ho,hx,hy,zPn,run_neq48 w xs xs h h]
theorem built48z:Tryz.prog.built 33 []=some (bv zeros64):=by
 show _=_
 kernel_rfl
theorem rows_oneN {w:World} {g h n:Nat} {l:List Int} (hn:l.length=n) (h0:0<n) (hl:n≤100000000) (hb:Blk w g 3 (bv l)) (hc:Blk w h 22 (Value.slice (some ⟨g,0,none⟩) n n).cells):RowsS w (some ⟨h,0,none⟩) 1 1 [l]:=by
 subst hn
 exact zOU h0 hl hb hc
def zCn (F:Nat→Int) (N k:Nat):List Int:=(List.range k).map F++List.replicate (N-k) 0
theorem fillN_len (F:Nat→Int) (N k:Nat) (h:k≤N):(zCn F N k).length=N:=by simp[zCn];omega
theorem fillN_set (F:Nat→Int) (N k:Nat) (h:k<N):(zCn F N k).set k (F k)=zCn F N (k+1):=by
 unfold zCn
 have hl:((List.range k).map F).length=k:=by simp
 rw[List.set_append_right _ _ (by omega),hl,Nat.sub_self]
 obtain⟨j,hj⟩: ∃ j,N-k=j+1:=⟨N-k-1,by omega⟩
 have hj2:N-(k+1)=j:=by omega
 rw[hj,hj2,List.replicate_succ,List.set_cons_zero,List.range_succ,List.map_append]
 simp
theorem fillN_0 (F:Nat→Int) (N:Nat):zCn F N 0=List.replicate N 0:=by simp[zCn]
theorem fillN_all (F:Nat→Int) (N:Nat):zCn F N N=(List.range N).map F:=by simp[zCn]
theorem walk (v:Value) (l:List Int) (wide high:Int) (m0:Int) (w:World) (hm:w.cell? ⟨0,0,none⟩=some (.int .i64 m0)) (hv:SL w 1 v l.length (ints l)) :
 Calls Tryz.prog 3 #[v,.int .i64 wide,.int .i64 high] w fun e w'=>e=.returned (.bool true)∧Ext w w':=by
 obtain⟨a,ha,a1,a2⟩:=side_of wide
 obtain⟨b,hb,b1,b2⟩:=side_of high
 have HWK:=zA (fun W (h:Ext w W)=>works_any m0 W (zAS hm h))
 have HR1:=zA (fun W=>zJF wide 64 (by omega) (by omega) W)
 have HR2:=zA (fun W=>zJF high 64 (by omega) (by omega) W)
 have HA1:Hid (∀ W:World,(binOp .add 3 (.int .i64 (wide%64)) (.int .i64 1)).run Tryz.prog W=.ok (.int .i64 (a:Int)) W):=zA (fun W=>by rw[←ha];exact zCJ _ _ _ (IntWalk.i64_in _ (by omega)) W)
 have HB1:Hid (∀ W:World,(binOp .add 3 (.int .i64 (high%64)) (.int .i64 1)).run Tryz.prog W=.ok (.int .i64 (b:Int)) W):=zA (fun W=>by rw[←hb];exact zCJ _ _ _ (IntWalk.i64_in _ (by omega)) W)
 obtain⟨N,hN⟩: ∃ N,a*b=N:=⟨_,rfl⟩
 have hN1:N≤4096:=by rw[←hN];exact Nat.le_trans (Nat.mul_le_mul a2 b2) (by omega)
 have hN0:0<N:=by rw[←hN];exact Nat.mul_pos a1 b1
 have HMU:=zA (fun W=>zDG a b N hN (by omega) W)
 have HON:=zA (fun W=>zOA 255 W)
 have HBL:Hid (∀ W A' c' S,S.length=N→(∀ x∈S,124≤x∧x≤132)→RowsS W A' 1 c' [S]→Calls Tryz.prog 13 #[.agg (yX a b (.slice A' 1 c')),.agg (bv (List.replicate 64 255))] W fun e W'=> ∃ B d,e=.returned (.tuple #[.slice B (yY a b) d,.int .i64 0])∧SL W' 64 (.slice B (yY a b) d) (yY a b) (ints (List.replicate (yY a b*64) 0))∧Ext W W'):=zA (fun W A' c' S h1 h2 h3=>by
  have:=zBz a b [S] A' 1 c' (List.replicate 64 255) (by simp) W h3
  rw[zPF S a b a1 a2 b1 b2 (by omega) h2] at this
  exact this)
 have HM:=zA (show yY a b=(a+7)/8*((b+7)/8) from rfl)
 have hM64:yY a b≤64:=by rw[HM.out];exact Nat.le_trans (Nat.mul_le_mul (show (a+7)/8≤8 by omega) (show (b+7)/8≤8 by omega)) (by omega)
 have HPZ:=zA (fun v=>vC a b v)
 generalize yY a b=M at *
 generalize bv (List.replicate 64 255)=ov at *
 clear hm
 have hv':=hv
 obtain⟨A,c,rfl,hnc,hcm, -, -⟩:=hv'
 obtain⟨n,hn⟩: ∃ n,l.length=n:=⟨_,rfl⟩
 have HLN:=zA hn
 rw[hn] at hv hnc ⊢
 clear hn
 go_enter Tryz.func3,Tryz.ntmps3
 go_wp2_with (first
  | (go_at_call 11;(with_reducible refine (HWK.out _ (Ext.refl w)).mono ?_);rintro e w1 ⟨rfl,hx1⟩)
  | (go_at_call 12;(with_reducible refine (HR1.out _).mono ?_);rintro e w2 ⟨rfl,rfl⟩)
  | ((with_reducible apply gS 17);refine zB rfl (.int .i64 (a:Int)) (qE rfl rfl rfl HA1.out) ?_)
  | ((with_reducible apply gS 20);refine zB rfl (.int .i64 (b:Int)) (qE rfl rfl rfl HB1.out) ?_)
  | (go_at_call 12;(with_reducible refine (HR2.out _).mono ?_);rintro e w3 ⟨rfl,rfl⟩)
  | ((with_reducible apply gS 23);refine zB rfl (.int .i64 (N:Int)) (qE rfl rfl rfl HMU.out) ?_)
  | ((with_reducible apply gS 24);refine jK rfl (some 24) rfl _ _ rfl N (by omega) rfl rfl ?_;intro w4 gs hbs hx4 hgs))
 have hgsw:w.heap.size≤gs:=by have:=hx1.size;omega
 have hx14:=hx1.trans hx4
 clear hx1 hx4 hgs
 have HVI:=zA (val_in l)
 have HVF:=zA (fun k=>fillN_set (val l) N k)
 have HVL:=zA (fun k=>fillN_len (val l) N k)
 have HVD:Hid (∀ k,val l k=if l.length=0 then 128 else 128+(l.getD (k%l.length) 0%9-4)):=zA (fun k=>rfl)
 simp only[HLN.out] at HVD
 generalize val l=F at *
 go_loopw [27] (fun i wr=> ∃ k:Nat,k≤N∧i=.int .i64 (k:Int)∧Ext w wr∧Blk wr gs 3 (bv (zCn F N k))) (fun i _=>N-(intOf i).toNat)
 case atStart=>exact⟨0,by omega,rfl,hx14,by rw[fillN_0];exact hbs⟩
 case round =>
  clear hx14 hbs
  obtain⟨k,hk,rfl,hx,hb⟩:=hrel
  by_cases hlt:k<N
  ·have hl0:=HVL.out k hk
   obtain⟨old,hold⟩: ∃ u,wr.cell? ⟨gs,k,none⟩=some u:=by
    rw[hb.cell k]
    exact⟨_,qG _ k (by omega)⟩
   have hfr:=hb.frozen k
   have hb1:=hb.set_ k (.int .i64 128)
   rw[vH] at hb1
   have hx1:=hx.setCell (p:=⟨gs,k,none⟩) (by omega) (.int .i64 128)
   by_cases h0:n=0
   ·have HF:Hid (F k=128):=zA (by rw[HVD.out k,if_pos h0])
    have HVK:=zA (HVF.out k hlt)
    subst h0
    clear hl0
    go_wp2_with fail
    go_roundw
    case rel =>
     refine⟨k+1,by omega,by go_num,hx1, ?_⟩
     rw[←HVK.out,HF.out]
     exact hb1
    case measure=>simp[intOf];omega
   ·have hkn:k%n<n:=Nat.mod_lt _ (by omega)
    obtain⟨z,hz⟩: ∃ z,l[k%n]? =some z:=⟨_,List.getElem?_eq_getElem (by rw[HLN.out];exact hkn)⟩
    have HF:Hid (F k=128+(z%9-4)):=zA (by rw[HVD.out k,if_neg h0,List.getD_eq_getElem?_getD,hz];rfl)
    obtain⟨ad,u,hA,hab,hxu,hcu⟩:=(hv.ext hx1).at1 hkn
    have hu:u=.int .i64 z:=by
     unfold ints at hxu
     rw[List.getElem?_map,hz] at hxu
     exact (Option.some.inj hxu).symm
    subst hu hA
    have hsz1:k<(bv ((zCn F N k).set k 128)).size:=by rw[zJ,List.length_set,hl0];exact hlt
    have HC1:Hid (∀ W,Ext (wr.setCell ⟨gs,k,none⟩ (.int .i64 128)).drew W→W.cell? ⟨gs,k,none⟩=some (.int .i64 128)):=zA (fun W hW=>by
     rw[(hb1.drew.ext hW).cell k,qG _ k (by rw[List.length_set,hl0];exact hlt),List.getElem_set_self])
    have HC2:Hid (∀ W,Ext (wr.setCell ⟨gs,k,none⟩ (.int .i64 128)).drew W→W.cell? (ad.add (k%n*1))=some (.int .i64 z)):=zA (fun W hW=>by
     rw[Nat.mul_one]
     exact (hW.cell (by rw[yH];exact hab)).trans hcu)
    have h91:=Int.emod_nonneg z (show (9:Int)≠0 by omega)
    have h92:=Int.emod_lt_of_pos z (show (0:Int)<9 by omega)
    have hx1d:=hx1.drew
    have hb1d:=hb1.drew
    have HVK:=zA (HVF.out k hlt)
    clear hz hxu hcu hb1 hx1
    go_wp2_with fail
    generalize wr.setCell ⟨gs,k,none⟩ (.int .i64 128)=w5 at *
    refine uJ xX 15 (by kernel_rfl) (by kernel_rfl) ?_
    simp only[List.take_succ_cons,List.take_zero]
    refine zE (by rfl) (.slice (some ⟨gs,0,none⟩) N N) (zC rfl rfl) ?_
    simp only[Act.put,sA,sB,sC]
    refine zE (by rfl) (.int .i64 (k:Int)) (zC rfl rfl) ?_
    simp only[Act.put,sA,sB,sC]
    refine zE (by rfl) (.pointer (some ⟨gs,k,none⟩)) (vA Tryz.underlying22 qV rfl rfl rfl hlt) ?_
    simp only[Act.put,sA,sB,sC]
    refine yV (by rfl) (.int .i64 128) (fun W hW=>zQ rfl rfl (HC1.out W hW)) ?_
    simp only[Act.put,sA,sB,sC]
    refine zE (by rfl) (.slice (some ad) n c) (zC rfl rfl) ?_
    simp only[Act.put,sA,sB,sC]
    refine zE (by rfl) (.int .i64 (k:Int)) (zC rfl rfl) ?_
    simp only[Act.put,sA,sB,sC]
    refine zE (by rfl) (.slice (some ad) n c) (zC rfl rfl) ?_
    simp only[Act.put,sA,sB,sC]
    refine zE (by rfl) (.int .i64 (n:Int)) (ex_lenI rfl rfl) ?_
    simp only[Act.put,sA,sB,sC]
    refine zE (by rfl) (.int .i64 ((k%n:Nat):Int)) (zKf (i:=k) (d:=n) rfl rfl rfl (by omega) (by omega)) ?_
    simp only[Act.put,sA,sB,sC]
    refine zE (by rfl) (.pointer (some (ad.add (k%n*1)))) (jG Tryz.underlying22 qV rfl rfl rfl hkn) ?_
    simp only[Act.put,sA,sB,sC]
    refine yV (by rfl) (.int .i64 z) (fun W hW=>zQ rfl rfl (HC2.out W hW)) ?_
    simp only[Act.put,sA,sB,sC]
    refine zCR (by rfl) 12 Tryz.func12 rfl rfl _ _ rfl #[.int .i64 z,.int .i64 9] (by simp[Act.eval]) (.int .i64 (z%9)) (fun W h=>(zJF z 9 (by omega) (by omega) W).mono fun e w' ⟨h1,h2⟩=>⟨h1,h2 ▸ Ext.refl _⟩) ?_
    simp only[Act.put,sA,sB,sC]
    refine zE (by rfl) (.int .i64 (z%9-4)) (zHp rfl rfl rfl (by omega)) ?_
    simp only[Act.put,sA,sB,sC]
    refine zE (by rfl) (.int .i64 (128+(z%9-4))) (zKg rfl rfl rfl (by omega)) ?_
    simp only[Act.put,sA,sB,sC]
    refine zE (by rfl) (.pointer (some ⟨gs,k,none⟩)) (vA Tryz.underlying22 qV rfl rfl rfl hlt) ?_
    simp only[Act.put,sA,sB,sC]
    refine jA ?_
    intro w6 hx6
    try simp only[List.drop_succ_cons,List.drop_zero]
    have hb6:=hb1d.ext hx6
    have hx06:=hx1d.trans hx6
    refine uI rfl (.tmp 50) (.tmp 49) rfl gs k (128+(z%9-4)) rfl rfl hb6 hsz1 ?_
    have hb7:=hb6.set_ k (.int .i64 (128+(z%9-4)))
    rw[vH,List.set_set, ←HF.out,HVK.out] at hb7
    have hx7:=hx06.setCell (p:=⟨gs,k,none⟩) (by omega) (.int .i64 (128+(z%9-4)))
    rw[HF.out] at hb7
    simp only[Act.put]
    go_wp2_with fail
    go_roundw
    case rel=>exact⟨k+1,by omega,by go_num,hx7,hb7⟩
    case measure=>simp[intOf];omega
  ·have ek:k=N:=by omega
   rw[ek] at hb
   rw[fillN_all] at hb
   have hS1:((List.range N).map F).length=N:=by simp
   have hS2: ∀ x∈(List.range N).map F,124≤x∧x≤132:=fun x hx=>by
    obtain⟨j, -,rfl⟩:=List.mem_map.1 hx
    exact HVI.out j
   generalize (List.range N).map F=S at *
   have HBLS:=zA (fun W A' c' h=>HBL.out W A' c' S hS1 hS2 h)
   have HMM:=zA (fun W=>zDG ((a+7)/8) ((b+7)/8) M HM.out.symm (by omega) W)
   have hbo:=zA built48z
   have hs0:=zA (show (bv zeros64).size=64 by rw[zJ];rfl)
   have ho0:=zA (xB zeros64)
   have HZ48:=qN
   clear HBL HVF HVL HVD HVI ek
   go_wp2_with (first
    | ((with_reducible apply gS 56);refine wLit1 rfl 29 22 _ rfl (some 56) rfl Tryz.underlying29 1 uT zOF _ rfl rfl (by omega) (by omega) ?_;intro w5 gb hbb hx5 hgb;have hr5:=rows_oneN hS1 hN0 (by omega) (hb.ext hx5) hbb;have hx05:=hx.trans hx5;clear hbb)
    | ((with_reducible apply gS 57);refine zB rfl (.agg (yX a b (.slice (some ⟨gb,0,none⟩) 1 1))) (zLW rfl rfl rfl rfl) ?_)
    | (go_at_call 14;(with_reducible refine (HON.out _).mono ?_);rintro e w6 ⟨rfl,hx6⟩;have hr6:=hr5.ext hx6;have hx06:=hx05.trans hx6)
    | (go_at_call 13;(with_reducible refine (HBLS.out _ _ _ hr6).mono ?_);rintro e w7 ⟨B,d,rfl,hs7,hx7⟩;have hx07:=hx06.trans hx7)
    | ((with_reducible apply gS 68);refine xC (by rfl) (.int .i64 ((a+7:Nat):Int)) (zZ (i:=a) (d:=7) rfl rfl rfl (by omega)) ?_)
    | ((with_reducible apply gS 69);refine xC (by rfl) (.int .i64 (((a+7)/8:Nat):Int)) (zHl (i:=a+7) (d:=8) rfl rfl rfl (by omega) (by omega)) ?_)
    | ((with_reducible apply gS 71);refine xC (by rfl) (.int .i64 ((b+7:Nat):Int)) (zZ (i:=b) (d:=7) rfl rfl rfl (by omega)) ?_)
    | ((with_reducible apply gS 72);refine xC (by rfl) (.int .i64 (((b+7)/8:Nat):Int)) (zHl (i:=b+7) (d:=8) rfl rfl rfl (by omega) (by omega)) ?_)
    | ((with_reducible apply gS 73);refine xC (by rfl) (.int .i64 (M:Int)) (qE rfl rfl rfl HMM.out) ?_))
   clear hr5 hr6 hx5 hx6 hx7 hx05 hx06 hb
   go_loopw [78] (fun i wr=> ∃ k:Nat,k≤M∧i=.int .i64 (k:Int)∧Ext w7 wr) (fun i _=>M-(intOf i).toNat)
   case atStart=>exact⟨0,by omega,rfl,Ext.refl w7⟩
   case round =>
    obtain⟨j,hj,rfl,hx⟩:=hrel
    by_cases hlj:j<M
    ·obtain⟨ad,rfl,hab,hca⟩:=(hs7.ext hx).part hlj
     have e:((ints (List.replicate (M*64) 0)).drop (j*64)).take 64=ints zeros64:=by
      unfold ints zeros64
      rw[List.map_replicate,List.map_replicate,List.drop_replicate,List.take_replicate]
      congr 1
      omega
     rw[e] at hca
     have HCA:=zA hca
     clear hca e
     go_wp2_with (first
      | ((with_reducible apply gS 81);refine yL (by rfl) 33 (.tmp 80) rfl (ad.add (j*64)) rfl (ints zeros64) _ HCA.out Tryz.underlying33 rfl (by rw[zY];exact zF) ?_)
      | ((with_reducible apply gS 12);refine wAlo' rfl (some 12) rfl 33 rfl _ HZ48 ?_;intro w8 g8 hb8 hx8 hg8)
      | ((with_reducible apply gT 12 81);refine wStB rfl 33 (.tmp 12) (.tmp 81) rfl g8 (bv zeros64) rfl rfl hb8 64 zF hs0.out hs0.out ho0.out ?_;intro w9 hb9 hg9;have hx89:=hx8.grown hg9 hg8)
      | ((with_reducible apply gS 82);refine wLdB rfl 33 (.tmp 12) rfl g8 rfl hb9 _ Tryz.underlying33 rfl 64 zF hs0.out ?_)
      | ((with_reducible apply gS 83);refine qH (by rfl) 33 rfl _ hbo.out ?_)
      | ((with_reducible apply gS 84);refine zB rfl (.bool false) (ex_neq48 rfl zeros64 rfl rfl rfl) ?_))
     go_roundw
     case rel=>exact⟨j+1,by omega,by go_num,hx.trans hx89⟩
     case measure=>simp[intOf];omega
    ·have hj2:j=M:=by omega
     subst hj2
     go_wp2_with fail
     go_ret
     exact⟨rfl,hx07.trans hx⟩
end Go.Proofs.YtkggcjdlpendfaaGreatDoor.topCoarse
namespace Go.Proofs.YtkggcjdlpendfaaGreatDoor
set_option linter.unusedVariables false
set_option linter.unusedSimpArgs false
set_option maxRecDepth 20000
set_option maxHeartbeats 8000000
open Go.RowKit
section
open Go.RowKit Go.ChangeShapes Go.WideShapes Go.ChangeAt
theorem own:ownKnob Tryz.prog.godebug=none:=by kernel_rfl
theorem laidOut:laidOutB Tryz.prog=true:=by kernel_rfl
section
variable {H:Type} {enc:TypeId×Value→H} {P:Program}
theorem zGQ (hl:laidOutB P=true) {W W':World} (hb:Below W.heap.size W W'): ∀ {ts:List TypeId} {vs:List Value} {ds:List (DataW H)} {ps:List MemPlace},
 (∀ t∈ts,P.readableRec t=true∧t<P.types.size)→DataW.TrodAll enc P W 0 (fun _=>true) true ts vs ds ps→(∀ x∈ps,x.block<W.heap.size) →
 DataW.TrodAll enc P W' 0 (fun b=>decide (b<W.heap.size)) true ts vs ds ps
 | [],_,_,_,_,h,_=>by
   obtain⟨rfl,rfl,rfl⟩:=trodAll_nil h
   exact trodAll_mk0
 | t::ts,vs,ds,ps,hr,h,hlt=>by
   obtain⟨v,vs1,d,ds1,a,b,rfl,rfl,rfl,h1,h2⟩:=trodAll_cons h
   exact⟨a,b,Below.trod hl (hr t (by simp)).1 (hr t (by simp)).2 h1 hb (fun x hx=>hlt x (by simp[hx])),
    zGQ hl hb (fun t ht=>hr t (by simp[ht])) h2 (fun x hx=>hlt x (by simp[hx])),rfl⟩
theorem law_post {f:Func} {s:ChangeSpec} {W W':World} {args:Array Value} {ds gs:List (DataW H)} {before:List MemPlace}
 (hl:laidOutB P=true) (tb:TypeId) (htb:P.underlying tb=some .bool) (hft:f.resultTypes= #[tb]) (hvars:s.vars=[])
 (hr: ∀ t∈f.params.toList,P.readableRec t=true∧t<P.types.size)
 (hW:DataW.Whole enc P f.params.toList s.vars false W args.toList ds gs before)
 (hfn:s.fn H (ds++gs)={ results:=[.lit (.bool true)],args:=ds })
 (hb:Ext W W'):s.post enc P f false true false false W args (.bool true) W':=by
 have hlt: ∀ p∈before,p.block<W.heap.size:=fun p hp=>by simpa using hW.lt p hp
 have hW':=hW
 obtain⟨p,q,hA,hV,rfl,hfz,hnd⟩:=hW
 rw[hvars] at hV
 obtain⟨rfl,rfl⟩:=trodVars_none hV
 simp only[wG3] at hlt hW'
 refine⟨ds,[],p,[],p,[],hW', ?_, ?_, ?_, ?_,fun h=>by cases h⟩
 ·rw[hft,hfn]
  exact trodAll_cons_mk (shut_bool htb _) trodAll_mk0
 ·rw[hfn]
  exact zGQ hl hb hr hA hlt
 ·rw[hfn,hvars]
  rfl
 ·exact World.keptBut_mono (fun p hp=>⟨hp,Or.inr (Or.inl hp)⟩) (hb.frame (· ∈p))
end
end
section
open Go.ChangeShapes Go.WideShapes Go.ChangeAt Go.RowKit
theorem zPC {W:World} (h:W.ShapedOpen Tryz.prog): ∃ m,W.cell? ⟨0,0,none⟩=some (.int .i64 m) :=
 Go.Proofs.cell_of_shapedOpen_int (zero:= #[.int .i64 0]) (t:=3) h (of_decide_eq_true (by kernel_rfl)) (by kernel_rfl) rfl (by kernel_rfl) (by kernel_rfl) Tryz.underlying3
def zNj (cs:Array Value):Obj→Obj
 | .cells _ t frozen=>.cells cs t frozen
 | o=>o
noncomputable def zGn (os:Os):World :=
 { World.holding Tryz.prog os ⟨#[], #[],[]⟩ with
  heap:=((World.holding Tryz.prog os ⟨#[], #[],[]⟩).heap.modify 1 (zNj (Go.Pinned.utf8FirstZ.map fun n:Nat=>Value.int .u8 n).toArray)).modify 2
   (zNj (([128,191,160,191,128,159,144,191,128,143,0,0,0,0,0,0,0,0,0,0,0,0,0,0,0,0,0,0,0,0,0,0]:List Nat).map fun n:Nat=>Value.int .u8 n).toArray) }
end
end Go.Proofs.YtkggcjdlpendfaaGreatDoor
