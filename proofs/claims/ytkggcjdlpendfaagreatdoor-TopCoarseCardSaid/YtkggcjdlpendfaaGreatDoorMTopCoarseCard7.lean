/- Contracts of the functions that the law reaches, part 7. -/
import Derived.Deep.Cut
import Derived.StillTailTactics
import Derived.Test.YtkggcjdlpendfaaGreatDoorMTopCoarseCard6
namespace Go.Proofs.YtkggcjdlpendfaaGreatDoor
set_option linter.unusedVariables false
set_option linter.unusedSimpArgs false
set_option maxRecDepth 20000
set_option maxHeartbeats 8000000
open Go.RowKit
theorem zNP (z:Int) (w:World):Calls Tryz.prog 89 (#[.int .i64 z]++ #[]) w fun e w'=>e=.returned (.bool (!inB z 0 255))∧w=w':=by
 by_cases h:z<0
 ·have h':decide (z<0)=true:=by simpa using h
  have e:inB z 0 255=false:=zBa.2 (by omega)
  rw[e];clear e
  go_enter Tryz.func89,Tryz.ntmps89
  go_wp2_with fail
  go_ret
  exact⟨rfl,rfl⟩
 ·have h':decide (z<0)=false:=by simpa using h
  have e:(!inB z 0 255)=decide (255<z):=by rw[wE2];simp[inB];omega
  rw[e];clear e
  go_enter Tryz.func89,Tryz.ntmps89
  go_wp2_with fail
  go_ret
  exact⟨rfl,rfl⟩
theorem zIe:vJ Tryz.prog 89:=uZ Tryz.func89 (by kernel_rfl) rfl
def vZ (xs:List Int) (wd hi:Int):Int:=if xJ wd hi=0 then (if (xs.length:Int)=wd*hi then (if zN xs 0 255 then 0 else 1) else 4) else 1
theorem zLa (xs:List Int) (v:Value) (wd hi:Int) (w:World) (hv:SL w 1 v xs.length (ints xs)) (h:xJ wd hi≠0) :
 Calls Tryz.prog 40 #[v,.int .i64 wd,.int .i64 hi] w fun e w'=>e=.returned (.tuple #[.slice none 0 0,.int .i64 1])∧Ext w w':=by
 have HK:=zA (fun W=>uG wd hi W)
 rw[zFt h] at HK
 clear h
 have hbv: #[Value.int .i64 wd,Value.int .i64 hi]=qJ wd hi:=rfl
 have hts:=zA (vY wd hi)
 have ho:=zA (zAm wd hi)
 generalize qJ wd hi=av at *
 obtain⟨A,c,rfl,hc1,hc2, -, -⟩:=hv
 go_enter Tryz.func40,Tryz.ntmps40
 go_wp2_with (first
  | (refine wAlo' rfl (some 8) rfl 128 rfl _ zBT ?_;intro w1 g hb1 hx1 hg)
  | (refine wStB rfl 128 (.tmp 8) (.tmp 17) rfl _ _ rfl rfl hb1 2 xL hts.out rfl ho.out ?_;intro w2 hb2 hg2;have hx2:=hx1.grown hg2 (by omega))
  | (refine wLdB rfl 128 (.tmp 8) rfl _ rfl hb2 _ Tryz.underlying128 rfl 2 xL hts.out ?_)
  | (go_at_call 87;(with_reducible refine (HK.out _).mono ?_);rintro e w3 ⟨rfl,hx3⟩))
 go_ret2
 exact⟨rfl,hx2.trans hx3⟩
theorem zOH (xs:List Int) (v:Value) (wd hi:Nat) (w:World) (hv:SL w 1 v xs.length (ints xs)) (h0:xJ wd hi=0) (a2:wd≤64) (b2:hi≤64) (h:xs.length≠wd*hi) :
 Calls Tryz.prog 40 #[v,.int .i64 wd,.int .i64 hi] w fun e w'=>e=.returned (.tuple #[.slice none 0 0,.int .i64 4])∧Ext w w':=by
 have HK:=zA (fun W=>uG wd hi W)
 rw[h0] at HK
 clear h0
 have hm:wd*hi≤64*64:=wI3 a2 b2
 have hw1:IntKind.i64.wrap ((wd:Int)*(hi:Int))=(wd:Int)*(hi:Int):=by rw[←wD7];exact IntWalk.i64_in _ (by omega)
 have hne:((xs.length:Int) !=(wd:Int)*(hi:Int))=true:=by rw[←wD7];simp;omega
 have hbv: #[Value.int .i64 wd,Value.int .i64 hi]=qJ wd hi:=rfl
 have hts:=zA (vY wd hi)
 have ho:=zA (zAm wd hi)
 generalize qJ wd hi=av at *
 obtain⟨A,c,rfl,hc1,hc2, -, -⟩:=hv
 clear h hm
 go_enter Tryz.func40,Tryz.ntmps40
 go_wp2_with (first
  | (refine wAlo' rfl (some 8) rfl 128 rfl _ zBT ?_;intro w1 g hb1 hx1 hg)
  | (refine wStB rfl 128 (.tmp 8) (.tmp 17) rfl _ _ rfl rfl hb1 2 xL hts.out rfl ho.out ?_;intro w2 hb2 hg2;have hx2:=hx1.grown hg2 (by omega))
  | (refine wLdB rfl 128 (.tmp 8) rfl _ rfl hb2 _ Tryz.underlying128 rfl 2 xL hts.out ?_)
  | (go_at_call 87;(with_reducible refine (HK.out _).mono ?_);rintro e w3 ⟨rfl,hx3⟩))
 go_ret2
 exact⟨rfl,hx2.trans hx3⟩
theorem cut_out (xs:List Int) (v:Value) (wd hi:Nat) (w:World) (hv:SL w 1 v xs.length (ints xs)) (h0:xJ wd hi=0) (a2:wd≤64) (b2:hi≤64) (h:xs.length=wd*hi) (hq:zN xs 0 255=false) :
 Calls Tryz.prog 40 #[v,.int .i64 wd,.int .i64 hi] w fun e w'=>e=.returned (.tuple #[.slice none 0 0,.int .i64 1])∧Ext w w':=by
 have HK:=zA (fun W=>uG wd hi W)
 rw[h0] at HK
 clear h0
 have HCF:=zA (fun W (hs:SL W 1 v xs.length (ints xs))=>qY 89 #[] (fun z=> !inB z 0 255) zIe v xs W hs (fun z _=>zNP z W))
 simp only[zCb,hq] at HCF
 clear hq
 have hm:wd*hi≤64*64:=wI3 a2 b2
 have hw1:IntKind.i64.wrap ((wd:Int)*(hi:Int))=(wd:Int)*(hi:Int):=by rw[←wD7];exact IntWalk.i64_in _ (by omega)
 have hne:((xs.length:Int) !=(wd:Int)*(hi:Int))=false:=by rw[←wD7];simp;omega
 have hbv: #[Value.int .i64 wd,Value.int .i64 hi]=qJ wd hi:=rfl
 have hts:=zA (vY wd hi)
 have ho:=zA (zAm wd hi)
 generalize qJ wd hi=av at *
 have hv':=hv
 obtain⟨A,c,rfl,hc1,hc2, -, -⟩:=hv'
 clear h hm
 go_enter Tryz.func40,Tryz.ntmps40
 go_wp2_with (first
  | (refine wAlo' rfl (some 8) rfl 128 rfl _ zBT ?_;intro w1 g hb1 hx1 hg)
  | (refine wStB rfl 128 (.tmp 8) (.tmp 17) rfl _ _ rfl rfl hb1 2 xL hts.out rfl ho.out ?_;intro w2 hb2 hg2;have hx2:=hx1.grown hg2 (by omega))
  | (refine wLdB rfl 128 (.tmp 8) rfl _ rfl hb2 _ Tryz.underlying128 rfl 2 xL hts.out ?_)
  | (go_at_call 87;(with_reducible refine (HK.out _).mono ?_);rintro e w3 ⟨rfl,hx3⟩;have hx23:=hx2.trans hx3)
  | (go_at_call 88;(with_reducible refine (HCF.out _ (hv.ext hx23)).mono ?_);rintro e w4 ⟨rfl,rfl⟩))
 go_ret2
 exact⟨rfl,hx23⟩
def zIB (xs:List Int) (wd hi k i:Nat):Int:=xs.getD (min (k/((wd+7)/8)*8+i/8) (hi-1)*wd+min (k%((wd+7)/8)*8+i%8) (wd-1)) 0-128
def yY (wd hi:Nat):Nat:=(wd+7)/8*((hi+7)/8)
def zDE (xs:List Int) (wd hi:Nat):List Int:=(List.range (yY wd hi*64)).map fun j=>zIB xs wd hi (j/64) (j%64)
theorem zFU (xs:List Int) (wd hi:Nat):(zDE xs wd hi).length=yY wd hi*64:=by simp[zDE]
theorem cutZ_at (xs:List Int) (wd hi k i:Nat) (hi64:i<64) (h:k*64+i<yY wd hi*64):(zDE xs wd hi)[k*64+i]? =some (zIB xs wd hi k i):=by
 unfold zDE
 rw[wC0,List.getElem?_range h]
 show some (zIB xs wd hi ((k*64+i)/64) ((k*64+i)%64))=_
 rw[show (k*64+i)/64=k by omega,show (k*64+i)%64=i by omega]
def zDK (Z:List Int) (m:Nat):List Int:=Z.take m++List.replicate (Z.length-m) 0
theorem midZ_len (Z:List Int) (m:Nat) (h:m≤Z.length):(zDK Z m).length=Z.length:=by simp[zDK];omega
theorem midZ_zero (Z:List Int):zDK Z 0=List.replicate Z.length 0:=by simp[zDK]
theorem midZ_all (Z:List Int):zDK Z Z.length=Z:=by simp[zDK]
theorem midZ_set (Z:List Int) (m:Nat) (z:Int) (h:Z[m]? =some z):(zDK Z m).set m z=zDK Z (m+1):=by
 obtain⟨hm,hz⟩:=wC2.1 h
 unfold zDK
 have e:Z.length-m=(Z.length-(m+1))+1:=by omega
 have e2:Z.take (m+1)=Z.take m++[z]:=by rw[wD4,h];rfl
 rw[e2,e,wF8,wF6 _ _ (by simp;omega),wI4,show min m Z.length=m by omega,wF7,wF9,wG0]
 rfl
theorem cut_place (wd hi r c:Nat) (h1:1≤wd) (h2:1≤hi):min r (hi-1)*wd+min c (wd-1)<wd*hi:=by
 have a:min r (hi-1)≤hi-1:=Nat.min_le_right _ _
 have b:min c (wd-1)≤wd-1:=Nat.min_le_right _ _
 have c1:min r (hi-1)*wd≤(hi-1)*wd:=wI5 _ a
 obtain⟨h,rfl⟩: ∃ h,hi=h+1:=⟨hi-1,by omega⟩
 rw[wI6] at c1 ⊢
 rw[Nat.mul_succ,wI7 wd h]
 omega
theorem zOe (xs:List Int) (v:Value) (wd hi:Nat) (w:World) (hv:SL w 1 v xs.length (ints xs)) (h0:xJ wd hi=0) (a1:1≤wd) (a2:wd≤64) (b1:1≤hi) (b2:hi≤64) (h:xs.length=wd*hi) (hq:zN xs 0 255=true) :
 Calls Tryz.prog 40 #[v,.int .i64 wd,.int .i64 hi] w fun e w'=> ∃ g,e=.returned (.tuple #[.slice (some ⟨g,0,none⟩) (yY wd hi) (yY wd hi),.int .i64 0])∧Blk w' g 33 (bv (zDE xs wd hi))∧Ext w w'∧w.heap.size≤g:=by
 have HK:=zA (fun W=>uG wd hi W)
 rw[h0] at HK
 clear h0
 have HCF:=zA (fun W (hs:SL W 1 v xs.length (ints xs))=>qY 89 #[] (fun z=> !inB z 0 255) zIe v xs W hs (fun z _=>zNP z W))
 simp only[zCb,hq] at HCF
 have HQ:=zA hq
 clear hq
 have HM:=zA (fun W=>zFd wd hi W a1 a2 b1 b2)
 have HP:Hid (∀ k j,k<64→j<64→ ∃ r q:Nat,Hid (r=k/((wd+7)/8)*8+j/8∧q=k%((wd+7)/8)*8+j%8)∧ ∀ W,Calls Tryz.prog 91 #[.agg (qJ wd hi),.int .i64 (k:Int),.int .i64 (j:Int)] W fun e w' =>
  e=.returned (.tuple #[.int .i64 ((r:Nat):Int),.int .i64 ((q:Nat):Int)])∧Ext W w'):=zA fun k j hk hj=>⟨_,_,zA ⟨rfl,rfl⟩,fun W=>zLY wd hi k j W a1 a2 hk hj⟩
 have hm:wd*hi≤64*64:=wI3 a2 b2
 have hw1:IntKind.i64.wrap ((wd:Int)*(hi:Int))=(wd:Int)*(hi:Int):=by rw[←wD7];exact IntWalk.i64_in _ (by omega)
 have hne:((xs.length:Int) !=(wd:Int)*(hi:Int))=false:=by rw[←wD7];simp;omega
 have hbv: #[Value.int .i64 wd,Value.int .i64 hi]=qJ wd hi:=rfl
 have hts:=zA (vY wd hi)
 have ho:=zA (zAm wd hi)
 have hn64:yY wd hi≤64:=by have:(wd+7)/8*((hi+7)/8)≤8*8:=wI3 (by omega) (by omega);exact this
 have hcn:(wd+7)/8*((hi+7)/8)=yY wd hi:=rfl
 rw[hcn] at HM
 clear hcn
 have HZL:=zA (zFU xs wd hi)
 have HXL:=zA h
 generalize qJ wd hi=av at *
 have hv':=hv
 obtain⟨A,c,rfl,hc1,hc2, -, -⟩:=hv'
 clear h hm
 generalize hn:yY wd hi=n at *
 have HN:=zA hn
 clear hn
 go_enter Tryz.func40,Tryz.ntmps40
 go_wp2_with (first
  | (refine wAlo' rfl (some 8) rfl 128 rfl _ zBT ?_;intro w1 g hb1 hx1 hg)
  | (refine wStB rfl 128 (.tmp 8) (.tmp 17) rfl _ _ rfl rfl hb1 2 xL hts.out rfl ho.out ?_;intro w2 hb2 hg2;have hx2:=hx1.grown hg2 (by omega))
  | (refine wLdB rfl 128 (.tmp 8) rfl _ rfl hb2 _ Tryz.underlying128 rfl 2 xL hts.out ?_)
  | (go_at_call 87;(with_reducible refine (HK.out _).mono ?_);rintro e w3 ⟨rfl,hx3⟩;have hx23:=hx2.trans hx3;have hb3:=hb2.ext hx3)
  | (go_at_call 88;(with_reducible refine (HCF.out _ (hv.ext hx23)).mono ?_);rintro e w4 ⟨rfl,rfl⟩)
  | (refine wLdB rfl 128 (.tmp 8) rfl _ rfl hb3 _ Tryz.underlying128 rfl 2 xL hts.out ?_)
  | (go_at_call 90;(with_reducible refine (HM.out _).mono ?_);rintro e w5 ⟨rfl,hx5⟩;have hb5:=hb3.ext hx5;have hx35:=hx23.trans hx5)
  | (refine zDg rfl (some 36) rfl _ _ rfl n (by omega) rfl rfl ?_;intro w6 gz hbz hx6 hgz;have hb6:=hb5.ext hx6;have hx36:=hx35.trans hx6))
 have hgz0:w.heap.size≤gz:=by have:=hx35.size;omega
 have hbz0:Blk w6 gz 33 (bv (zDK (zDE xs wd hi) 0)):=by rw[midZ_zero,HZL.out];exact hbz
 generalize hZ:zDE xs wd hi=Z at *
 have HZ:=zA hZ
 clear hZ hbz hb2 hb3 hb5 hx1 hx2 hx3 hx5 hx6 hx23 hx35 hg2
 go_loopw [39] (fun i wr=> ∃ k:Nat,k≤n∧i=.int .i64 (k:Int)∧Blk wr gz 33 (bv (zDK Z (k*64)))∧Blk wr g 128 av∧Ext w wr) (fun i _=>n-(intOf i).toNat)
 case atStart=>exact⟨0,by omega,rfl,hbz0,hb6,hx36⟩
 case round =>
  clear hbz0 hb6 hx36
  obtain⟨k,hk,rfl,hbo,hba,hxo⟩:=hrel
  by_cases hlt:k<n
  ·go_wp2_with fail
   go_loopw [42] (fun i wr=> ∃ j:Nat,j≤64∧i=.int .i64 (j:Int)∧Blk wr gz 33 (bv (zDK Z (k*64+j)))∧Blk wr g 128 av∧Ext w wr) (fun i _=>64-(intOf i).toNat)
   case atStart=>exact⟨0,by omega,rfl,hbo,hba,hxo⟩
   case round =>
    clear hbo hba hxo
    obtain⟨j,hj,rfl,hbi,hbj,hxi⟩:=hrel
    by_cases hlj:j<64
    ·obtain⟨r,q,HRQ,hcall⟩:=HP.out k j (by omega) hlj
     have HCALL:=zA hcall
     clear hcall
     go_wp2_with (first
      | (refine wLdB rfl 128 (.tmp 8) rfl _ rfl hbj _ Tryz.underlying128 rfl 2 xL hts.out ?_)
      | (go_at_call 91;(with_reducible refine (HCALL.out _).mono ?_);rintro e w7 ⟨rfl,hx7⟩;have hbi7:=hbi.ext hx7;have hbj7:=hbj.ext hx7;have hxi7:=hxi.trans hx7))
     have hpl:=cut_place wd hi r q a1 b1
     have hm1:min r (hi-1)*wd≤64*64:=wI3 (by omega) a2
     obtain⟨p,hpx⟩: ∃ p,min r (hi-1)*wd+min q (wd-1)=p:=⟨_,rfl⟩
     have hp:p<xs.length:=by have:=HXL.out;omega
     obtain⟨ad,u,rfl,hadb,hxp,hcell⟩:=hv.at1 hp
     obtain⟨hpl',rfl⟩:=zBt _ _ _ hxp
     have hzb:=yD.1 HQ.out _ (wE1 hpl')
     have hval:zIB xs wd hi k j=xs[p]-128:=by
      unfold zIB
      rw[←HRQ.out.1, ←HRQ.out.2,hpx,wF2,wA2 hpl']
      rfl
     generalize xs[p]=z at *
     have hx7':=hxi7.drew
     have hcz: ∀ W,Ext w7.drew W→W.cell? (ad.add (p*1))=some (.int .i64 z):=fun W hW=>by
      rw[wE9,((hx7'.trans hW).cell (p:=ad.add p) (by rw[yH];exact hadb))]
      exact hcell
     refine uJ xX 20 (by kernel_rfl) (by kernel_rfl) ?_
     simp only[List.take,List.drop]
     refine zE (by rfl) (.slice (some ⟨gz,0,none⟩) n n) (zC rfl rfl) ?_
     simp only[Act.put,sA,sB,sC]
     refine zE (by rfl) (.int .i64 ((k:Nat):Int)) (zC rfl rfl) ?_
     simp only[Act.put,sA,sB,sC]
     refine zE (by rfl) (.int .i64 ((j:Nat):Int)) (zC rfl rfl) ?_
     simp only[Act.put,sA,sB,sC]
     refine zE (by rfl) (.slice (some ad) xs.length c) (zC rfl rfl) ?_
     simp only[Act.put,sA,sB,sC]
     refine zE (by rfl) (.int .i64 ((r:Nat):Int)) (zC rfl rfl) ?_
     simp only[Act.put,sA,sB,sC]
     refine zE (by rfl) (.int .i64 ((hi:Nat):Int)) (zC rfl rfl) ?_
     simp only[Act.put,sA,sB,sC]
     refine zE (by rfl) (.int .i64 ((hi-1:Nat):Int)) (xA (i:=hi) (d:=1) rfl rfl rfl (by omega) (by omega)) ?_
     simp only[Act.put,sA,sB,sC]
     refine zE (by rfl) (.int .i64 ((min r (hi-1):Nat):Int)) (zHs (i:=r) (d:=hi-1) rfl rfl rfl) ?_
     simp only[Act.put,sA,sB,sC]
     refine zE (by rfl) (.int .i64 ((wd:Nat):Int)) (zC rfl rfl) ?_
     simp only[Act.put,sA,sB,sC]
     refine zE (by rfl) (.int .i64 (((min r (hi-1))*wd:Nat):Int)) (zBd (i:=min r (hi-1)) (d:=wd) rfl rfl rfl (by omega)) ?_
     simp only[Act.put,sA,sB,sC]
     refine zE (by rfl) (.int .i64 ((q:Nat):Int)) (zC rfl rfl) ?_
     simp only[Act.put,sA,sB,sC]
     refine zE (by rfl) (.int .i64 ((wd:Nat):Int)) (zC rfl rfl) ?_
     simp only[Act.put,sA,sB,sC]
     refine zE (by rfl) (.int .i64 ((wd-1:Nat):Int)) (xA (i:=wd) (d:=1) rfl rfl rfl (by omega) (by omega)) ?_
     simp only[Act.put,sA,sB,sC]
     refine zE (by rfl) (.int .i64 ((min q (wd-1):Nat):Int)) (zHs (i:=q) (d:=wd-1) rfl rfl rfl) ?_
     simp only[Act.put,sA,sB,sC]
     refine zE (by rfl) (.int .i64 ((((min r (hi-1))*wd)+(min q (wd-1)):Nat):Int)) (zZ (i:=(min r (hi-1))*wd) (d:=min q (wd-1)) rfl rfl rfl (by omega)) ?_
     simp only[Act.put,sA,sB,sC]
     rw[hpx]
     refine zE (by rfl) (.pointer (some (ad.add (p*1)))) (jG Tryz.underlying22 qV rfl rfl rfl hp) ?_
     simp only[Act.put,sA,sB,sC]
     refine yV (by rfl) (.int .i64 z) (fun W hW=>zQ rfl rfl (hcz W hW)) ?_
     simp only[Act.put,sA,sB,sC]
     refine zE (by rfl) (.int .i64 (z-(((128:Nat):Int)))) (zHp (i:=z) (d:=((128:Nat):Int)) rfl rfl rfl (by omega)) ?_
     simp only[Act.put,sA,sB,sC]
     refine zE (by rfl) (.pointer (some ⟨gz,0+k*64,none⟩)) (zEH Tryz.underlying25 zF rfl rfl rfl hlt) ?_
     simp only[Act.put,sA,sB,sC]
     refine zE (by rfl) (.pointer (some ⟨gz,0+k*64+j*1,none⟩)) (zLc Tryz.underlying33 qV rfl rfl rfl hlj) ?_
     simp only[Act.put,sA,sB,sC]
     refine jA ?_
     intro W hW
     have hbi8:=(hbi7.drew).ext hW
     have hbj8:=(hbj7.drew).ext hW
     have hx8:=hx7'.trans hW
     have hlen:k*64+j<(bv (zDK Z (k*64+j))).size:=by rw[zJ,midZ_len _ _ (by rw[HZL.out];omega),HZL.out];omega
     refine uI rfl (.tmp 71) (.tmp 69) rfl gz (0+k*64+j*1) (z-128) rfl rfl hbi8 (by rw[wB2,wE9];exact hlen) ?_
     simp only[Act.put,sA,sB,sC]
     have hb9:=hbi8.set_ (0+k*64+j*1) (.int .i64 (z-128))
     rw[vH,wB2,wE9,midZ_set Z (k*64+j) (z-128) (by rw[←HZ.out,cutZ_at xs wd hi k j hlj (by have:=HN.out;omega),hval])] at hb9
     have hb10:=hbj8.far (p:=⟨gz,k*64+j,none⟩) (hbi8.ne_ hbj8 (by decide)).symm (.int .i64 (z-128))
     have hx9:=hx8.setCell (p:=⟨gz,k*64+j,none⟩) hgz0 (.int .i64 (z-128))
     rw[show 0+k*64+j*1=k*64+j by omega]
     generalize W.setCell ⟨gz,k*64+j,none⟩ (.int .i64 (z-128))=W9 at *
     go_wp2_with fail
     go_roundw
     case rel=>exact⟨j+1,by omega,by go_num,hb9,hb10,hx9⟩
     case measure=>simp[intOf];omega
    ·have ej:j=64:=by omega
     rw[ej]
     go_wp2_with fail
     go_roundw
     case rel=>exact⟨k+1,by omega,by go_num,by rw[ej] at hbi;rw[show (k+1)*64=k*64+64 by omega];exact hbi,hbj,hxi⟩
     case measure=>simp[intOf];omega
  ·have ek:k=n:=by omega
   rw[ek] at hbo
   rw[ek]
   go_wp2_with fail
   go_ret2
   refine⟨gz,rfl, ?_,hxo,hgz0⟩
   rw[←HZL.out,midZ_all] at hbo
   rw[HZ.out]
   exact hbo
theorem zKk:Elt Tryz.prog 25 33 64 512:=⟨Tryz.underlying25,by kernel_rfl,by decide⟩
theorem zero48':((Tryz.prog.info? 33).bind (·.zero)).isSome=true:=by rw[qN];rfl
theorem blk_sl1 {w:World} {g:Nat} {t:TypeId} {zs:List Int} (h:Blk w g t (bv zs)) (hz:zs.length=64):SL w 64 (.slice (some ⟨g,0,none⟩) 1 1) 1 (ints zs):=by
 have:=h.sl (size:=64) (n:=1) (c:=1) (by rw[zJ,hz]) (by omega) (by omega)
 simpa [bv] using this
def jI (xs:List Int) (wd hi:Int):Nat:=if vZ xs wd hi=0 then yY wd.toNat hi.toNat else 0
def zAi (xs:List Int) (wd hi:Int):List Int:=if vZ xs wd hi=0 then zDE xs wd.toNat hi.toNat else []
theorem cutRZ_len (xs:List Int) (wd hi:Int):(zAi xs wd hi).length=jI xs wd hi*64:=by
 unfold zAi jI
 split
 ·exact zFU _ _ _
 ·rfl
def zHq (xs:List Int) (wd hi:Int) (w:World) (e:Ending) (w':World):Prop :=
 ∃ A c,e=.returned (.tuple #[.slice A (jI xs wd hi) c,.int .i64 (vZ xs wd hi)])∧SL w' 64 (.slice A (jI xs wd hi) c) (jI xs wd hi) (ints (zAi xs wd hi))∧Ext w w'
theorem zKn {xs:List Int} {wd hi:Int} {w w':World} {e:Ending} {k:Int} (hk:vZ xs wd hi=k) (h0:k≠0) (h:e=.returned (.tuple #[.slice none 0 0,.int .i64 k])∧Ext w w'):zHq xs wd hi w e w':=by
 have hn:jI xs wd hi=0:=by unfold jI;rw[if_neg (by rw[hk];exact h0)]
 have hz:zAi xs wd hi=[]:=by unfold zAi;rw[if_neg (by rw[hk];exact h0)]
 unfold zHq
 rw[hn,hz,hk]
 exact⟨none,0,h.1,SL.nil _ _,h.2⟩
theorem zEk (xs:List Int) (wd hi:Int):(xJ wd hi≠0∧vZ xs wd hi=1)∨ ∃ a b:Nat,wd=(a:Int)∧hi=(b:Int)∧1≤a∧a≤64∧1≤b∧b≤64∧xJ wd hi=0 ∧
 ((xs.length≠a*b∧vZ xs wd hi=4)∨(xs.length=a*b∧zN xs 0 255=false∧vZ xs wd hi=1)∨(xs.length=a*b∧zN xs 0 255=true∧vZ xs wd hi=0)):=by
 by_cases h:xJ wd hi=0
 ·right
  obtain⟨a,b,ha,hb,h1,h2,h3,h4⟩:=zGN h
  refine⟨a,b,ha,hb,h1,h2,h3,h4,h, ?_⟩
  unfold vZ
  rw[if_pos h]
  subst ha hb
  by_cases hl:xs.length=a*b
  ·rw[if_pos (by rw[hl];push_cast;rfl)]
   cases hq:zN xs 0 255 with
   | false=>exact .inr (.inl ⟨hl,rfl,by simp⟩)
   | true=>exact .inr (.inr ⟨hl,rfl,by simp⟩)
  ·rw[if_neg (fun he=>hl (by exact_mod_cast he))]
   exact .inl ⟨hl,rfl⟩
 ·left
  refine⟨h, ?_⟩
  unfold vZ
  rw[if_neg h]
theorem cut_any (xs:List Int) (v:Value) (wd hi:Int) (w:World) (hv:SL w 1 v xs.length (ints xs)):Calls Tryz.prog 40 #[v,.int .i64 wd,.int .i64 hi] w (zHq xs wd hi w):=by
 rcases zEk xs wd hi with ⟨h,hE⟩ | ⟨a,b,rfl,rfl,h1,h2,h3,h4,h0,⟨hl,hE⟩ | ⟨hl,hq,hE⟩ | ⟨hl,hq,hE⟩⟩
 ·exact (zLa xs v wd hi w hv h).mono fun e w' h=>zKn hE (by decide) h
 ·exact (zOH xs v a b w hv h0 h2 h4 hl).mono fun e w' h=>zKn hE (by decide) h
 ·exact (cut_out xs v a b w hv h0 h2 h4 hl hq).mono fun e w' h=>zKn hE (by decide) h
 ·refine (zOe xs v a b w hv h0 h1 h2 h3 h4 hl hq).mono fun e w' ⟨g,he,hb,hx,hfr⟩=> ?_
  have hn:jI xs a b=yY a b:=by unfold jI;rw[if_pos hE];rfl
  have hz:zAi xs a b=zDE xs a b:=by unfold zAi;rw[if_pos hE];rfl
  unfold zHq
  rw[hn,hz,hE]
  refine⟨some ⟨g,0,none⟩,_,he, ?_,hx⟩
  have hc:yY a b≤8*8:=wI3 (by omega) (by omega)
  have:=hb.sl (size:=64) (n:=yY a b) (c:=yY a b) (by rw[zJ,zFU]) (by omega) (by omega)
  simpa [bv] using this
def CutFr (xs:List Int) (wd hi:Int) (w:World) (e:Ending) (w':World):Prop :=
 ∃ A c,e=.returned (.tuple #[.slice A (jI xs wd hi) c,.int .i64 (vZ xs wd hi)])∧SL w' 64 (.slice A (jI xs wd hi) c) (jI xs wd hi) (ints (zAi xs wd hi))∧Ext w w'∧ ∀ ad,A=some ad→w.heap.size≤ad.block
theorem zJN {xs:List Int} {wd hi:Int} {w w':World} {e:Ending} {k:Int} (hk:vZ xs wd hi=k) (h0:k≠0) (h:e=.returned (.tuple #[.slice none 0 0,.int .i64 k])∧Ext w w'):CutFr xs wd hi w e w':=by
 have hn:jI xs wd hi=0:=by unfold jI;rw[if_neg (by rw[hk];exact h0)]
 have hz:zAi xs wd hi=[]:=by unfold zAi;rw[if_neg (by rw[hk];exact h0)]
 unfold CutFr
 rw[hn,hz,hk]
 exact⟨none,0,h.1,SL.nil _ _,h.2,fun _ h=>by cases h⟩
theorem cut_anyF (xs:List Int) (v:Value) (wd hi:Int) (w:World) (hv:SL w 1 v xs.length (ints xs)):Calls Tryz.prog 40 #[v,.int .i64 wd,.int .i64 hi] w (CutFr xs wd hi w):=by
 rcases zEk xs wd hi with ⟨h,hE⟩ | ⟨a,b,rfl,rfl,h1,h2,h3,h4,h0,⟨hl,hE⟩ | ⟨hl,hq,hE⟩ | ⟨hl,hq,hE⟩⟩
 ·exact (zLa xs v wd hi w hv h).mono fun e w' h=>zJN hE (by decide) h
 ·exact (zOH xs v a b w hv h0 h2 h4 hl).mono fun e w' h=>zJN hE (by decide) h
 ·exact (cut_out xs v a b w hv h0 h2 h4 hl hq).mono fun e w' h=>zJN hE (by decide) h
 ·refine (zOe xs v a b w hv h0 h1 h2 h3 h4 hl hq).mono fun e w' ⟨g,he,hb,hx,hfr⟩=> ?_
  have hn:jI xs a b=yY a b:=by unfold jI;rw[if_pos hE];rfl
  have hz:zAi xs a b=zDE xs a b:=by unfold zAi;rw[if_pos hE];rfl
  unfold CutFr
  rw[hn,hz,hE]
  refine⟨some ⟨g,0,none⟩,_,he, ?_,hx,fun ad h=>by injection h with h;subst h;exact hfr⟩
  have hc:yY a b≤8*8:=wI3 (by omega) (by omega)
  have:=hb.sl (size:=64) (n:=yY a b) (c:=yY a b) (by rw[zJ,zFU]) (by omega) (by omega)
  simpa [bv] using this
def yX (wd hi:Int) (v:Value):Array Value:= #[.int .i64 wd,.int .i64 hi,v]
theorem vC (wd hi:Int) (v:Value):(yX wd hi v).size=3:=rfl
theorem jL:(Tryz.prog.info? 31).map (·.size)=some 3:=by kernel_rfl
theorem zAl {w:World} {g:Nat} {T:TypeId} {wd hi:Int} {v:Value} (h:Blk w g T (yX wd hi v)):w.cell? ⟨g,0,none⟩=some (.int .i64 wd)∧w.cell? ⟨g,1,none⟩=some (.int .i64 hi)∧w.cell? ⟨g,2,none⟩=some v:=by
 rw[h.cell,h.cell,h.cell]
 exact⟨rfl,rfl,rfl⟩
def zAX:List Int→Int
 | []=>0
 | e::r=>if e=0 then zAX r else e
theorem zGF: ∀ (l:List Int),(∀ e∈l,e=0)→zAX l=0
 | [],_=>rfl
 | e::r,h=>by
   have:=h e (by simp)
   unfold zAX
   rw[if_pos this]
   exact zGF r (fun x hx=>h x (by simp[hx]))
theorem zLT: ∀ (l:List Int) (k:Nat) (e:Int),(∀ x∈l.take k,x=0)→l[k]? =some e→e≠0→zAX l=e
 | [],k,e,_,h,_=>by simp at h
 | x::r,0,e,_,h,h0=>by
   simp at h
   subst h
   unfold zAX
   rw[if_neg h0]
 | x::r,k+1,e,ht,h,h0=>by
   have hx:x=0:=ht x (by simp)
   unfold zAX
   rw[if_pos hx]
   exact zLT r k e (fun y hy=>ht y (by simp[hy])) (by simpa using h) h0
def zCt (wd hi:Int) (L:List (List Int)):Int:=if xJ wd hi=0 then (if L.length=1∨L.length=3 then zAX (L.map fun l=>vZ l wd hi) else 1) else 1
theorem zLb {L:List (List Int)} {f:List Int→Int} {k:Nat} {l:List Int} (h: ∀ x∈L.take k,f x=0) (hl:L[k]? =some l) (h0:f l=0): ∀ x∈L.take (k+1),f x=0:=by
 intro x hx
 rw[wD4,hl] at hx
 rcases wE5.1 hx with h1 | h1
 ·exact h x h1
 ·simp at h1;subst h1;exact h0
theorem zMU {L:List (List Int)} {f:List Int→Int} {k:Nat} {l:List Int} {e:Int} (h: ∀ x∈L.take k,f x=0) (hl:L[k]? =some l) (he:f l=e) (h0:e≠0):zAX (L.map f)=e :=
 zLT _ k _ (fun y hy=>by
  rw[←wG8] at hy
  obtain⟨x,hx,rfl⟩:=wD6.1 hy
  exact h x hx) (by rw[wC0,hl];simp[he]) h0
theorem zQO (wd hi:Int) (L:List (List Int)) (A:Option Addr) (n c:Nat) (w:World) (hr:RowsS w A n c L) (h:xJ wd hi≠0) :
 Calls Tryz.prog 29 #[.agg (yX wd hi (.slice A n c))] w fun e w'=>e=.returned (.int .i64 1)∧Ext w w':=by
 have HM:=zA (fun W=>zEL wd hi W)
 rw[zFt h] at HM
 clear h
 have HC:=zA (fun W g (h:Blk W g 31 (yX wd hi (.slice A n c)))=>zAl h)
 generalize yX wd hi (.slice A n c)=pv at *
 generalize zCD wd hi=mz at *
 go_enter Tryz.func29,Tryz.ntmps29
 go_wp2_with (first
  | (refine wBox rfl 31 (.tmp 0) rfl pv rfl ?_;intro w1 g hb1 hx1 hg;obtain⟨c0,c1,c2⟩:=HC.out _ _ hb1)
  | (go_at_call 65;(with_reducible refine (HM.out _).mono ?_);rintro e w2 ⟨rfl,hx2⟩;have hb2:=hb1.ext hx2;have hx12:=hx1.trans hx2;clear c0 c1 c2;obtain⟨d0,d1,d2⟩:=HC.out _ _ hb2))
 go_ret
 exact⟨rfl,hx12⟩
theorem zQy (wd hi:Int) (L:List (List Int)) (A:Option Addr) (n c:Nat) (w:World) (hr:RowsS w A n c L) (h0:xJ wd hi=0) (h: ¬(L.length=1∨L.length=3)) :
 Calls Tryz.prog 29 #[.agg (yX wd hi (.slice A n c))] w fun e w'=>e=.returned (.int .i64 1)∧Ext w w':=by
 have HM:=zA (fun W=>zEL wd hi W)
 rw[h0] at HM
 clear h0
 have HC:=zA (fun W g (h:Blk W g 31 (yX wd hi (.slice A n c)))=>zAl h)
 rw[hr.len] at h
 have hn1:((n:Int) !=1)=true:=by simp;omega
 have hn3:((n:Int) !=3)=true:=by simp;omega
 clear h
 generalize yX wd hi (.slice A n c)=pv at *
 generalize zCD wd hi=mz at *
 go_enter Tryz.func29,Tryz.ntmps29
 go_wp2_with (first
  | (refine wBox rfl 31 (.tmp 0) rfl pv rfl ?_;intro w1 g hb1 hx1 hg;obtain⟨c0,c1,c2⟩:=HC.out _ _ hb1)
  | (go_at_call 65;(with_reducible refine (HM.out _).mono ?_);rintro e w2 ⟨rfl,hx2⟩;have hb2:=hb1.ext hx2;have hx12:=hx1.trans hx2;clear c0 c1 c2;obtain⟨d0,d1,d2⟩:=HC.out _ _ hb2))
 go_ret
 exact⟨rfl,hx12⟩
theorem fchk_in1 (wd hi:Int) (L:List (List Int)) (A:Option Addr) (n c:Nat) (w:World) (hr:RowsS w A n c L) (h0:xJ wd hi=0) (h:n=1) :
 Calls Tryz.prog 29 #[.agg (yX wd hi (.slice A n c))] w fun e w'=>e=.returned (.int .i64 (zAX (L.map fun l=>vZ l wd hi)))∧Ext w w':=by
 have HM:=zA (fun W=>zEL wd hi W)
 rw[h0] at HM
 clear h0
 have HC:=zA (fun W g (h:Blk W g 31 (yX wd hi (.slice A n c)))=>zAl h)
 have hn1:((n:Int) !=1)=false:=by simp;omega
 have hn9:n≤3:=by omega
 have HL:=zA hr.len
 clear h
 have HCUT:=zA (fun W v l (hv:SL W 1 v l.length (ints l))=>cut_any l v wd hi W hv)
 unfold zHq at HCUT
 generalize zCD wd hi=mz at *
 generalize yX wd hi (.slice A n c)=pv at *
 go_enter Tryz.func29,Tryz.ntmps29
 go_wp2_with (first
  | (refine wBox rfl 31 (.tmp 0) rfl pv rfl ?_;intro w1 g hb1 hx1 hg;obtain⟨c0,c1,c2⟩:=HC.out _ _ hb1)
  | (go_at_call 65;(with_reducible refine (HM.out _).mono ?_);rintro e w2 ⟨rfl,hx2⟩;have hb2:=hb1.ext hx2;have hx12:=hx1.trans hx2;clear c0 c1 c2;obtain⟨d0,d1,d2⟩:=HC.out _ _ hb2))
 clear d0 d1 d2
 go_loopw [33] (fun i wr=> ∃ (k:Nat),k≤n∧i=.int .i64 (k:Int)∧Hid (∀ x∈L.take k,vZ x wd hi=0)∧Blk wr g 31 pv∧Ext w wr) (fun i _=>n-(intOf i).toNat)
 case atStart=>exact⟨0,by omega,rfl,zA (by simp),hb2,hx12⟩
 case round =>
  clear hb2 hx12
  obtain⟨k,hk,rfl,HT,hb,hx⟩:=hrel
  by_cases hlt:k<n
  ·obtain⟨ad,l,B,d,rfl,hl,hab,hcell,hsl⟩:=(hr.ext hx).get hlt
   have HLK:=zA hl
   obtain⟨d0,d1,d2⟩:=HC.out _ _ hb
   clear hl
   have HCU:=zA (HCUT.out wr _ l hsl)
   by_cases hz:vZ l wd hi=0
   ·have HZ:=zA hz
    rw[hz] at HCU
    clear hz
    generalize jI l wd hi=rn at *
    go_wp2_with (go_at_call 40;(with_reducible refine (HCU.out).mono ?_);rintro e w4 ⟨A4,c4,rfl,hs4,hx4⟩)
    go_roundw
    case rel=>exact⟨k+1,by omega,by go_num,zA (zLb HT.out HLK.out HZ.out),hb.ext hx4,hx.trans hx4⟩
    case measure=>simp[intOf];omega
   ·have hz2:(vZ l wd hi !=0)=true:=by simpa using hz
    have HF:=zA (zMU HT.out HLK.out rfl hz)
    generalize vZ l wd hi=ce at *
    generalize jI l wd hi=rn at *
    clear hz
    go_wp2_with (go_at_call 40;(with_reducible refine (HCU.out).mono ?_);rintro e w4 ⟨A4,c4,rfl,hs4,hx4⟩)
    go_ret
    rw[HF.out]
    exact⟨rfl,hx.trans hx4⟩
  ·have ek:k=n:=by omega
   have HF:Hid (zAX (L.map fun l=>vZ l wd hi)=0):=zA (zGF _ (fun y hy=>by
    obtain⟨x,hx,rfl⟩:=wD6.1 hy
    exact HT.out x (by rw[ek, ←HL.out,wI8];exact hx)))
   go_wp2_with fail
   go_ret
   rw[HF.out]
   exact⟨rfl,hx⟩
theorem fchk_in3 (wd hi:Int) (L:List (List Int)) (A:Option Addr) (n c:Nat) (w:World) (hr:RowsS w A n c L) (h0:xJ wd hi=0) (h:n=3) :
 Calls Tryz.prog 29 #[.agg (yX wd hi (.slice A n c))] w fun e w'=>e=.returned (.int .i64 (zAX (L.map fun l=>vZ l wd hi)))∧Ext w w':=by
 have HM:=zA (fun W=>zEL wd hi W)
 rw[h0] at HM
 clear h0
 have HC:=zA (fun W g (h:Blk W g 31 (yX wd hi (.slice A n c)))=>zAl h)
 have hn1:((n:Int) !=1)=true:=by simp;omega
 have hn3:((n:Int) !=3)=false:=by simp;omega
 have hn9:n≤3:=by omega
 have HL:=zA hr.len
 clear h
 have HCUT:=zA (fun W v l (hv:SL W 1 v l.length (ints l))=>cut_any l v wd hi W hv)
 unfold zHq at HCUT
 generalize zCD wd hi=mz at *
 generalize yX wd hi (.slice A n c)=pv at *
 go_enter Tryz.func29,Tryz.ntmps29
 go_wp2_with (first
  | (refine wBox rfl 31 (.tmp 0) rfl pv rfl ?_;intro w1 g hb1 hx1 hg;obtain⟨c0,c1,c2⟩:=HC.out _ _ hb1)
  | (go_at_call 65;(with_reducible refine (HM.out _).mono ?_);rintro e w2 ⟨rfl,hx2⟩;have hb2:=hb1.ext hx2;have hx12:=hx1.trans hx2;clear c0 c1 c2;obtain⟨d0,d1,d2⟩:=HC.out _ _ hb2))
 clear d0 d1 d2
 go_loopw [33] (fun i wr=> ∃ (k:Nat),k≤n∧i=.int .i64 (k:Int)∧Hid (∀ x∈L.take k,vZ x wd hi=0)∧Blk wr g 31 pv∧Ext w wr) (fun i _=>n-(intOf i).toNat)
 case atStart=>exact⟨0,by omega,rfl,zA (by simp),hb2,hx12⟩
 case round =>
  clear hb2 hx12
  obtain⟨k,hk,rfl,HT,hb,hx⟩:=hrel
  by_cases hlt:k<n
  ·obtain⟨ad,l,B,d,rfl,hl,hab,hcell,hsl⟩:=(hr.ext hx).get hlt
   have HLK:=zA hl
   obtain⟨d0,d1,d2⟩:=HC.out _ _ hb
   clear hl
   have HCU:=zA (HCUT.out wr _ l hsl)
   by_cases hz:vZ l wd hi=0
   ·have HZ:=zA hz
    rw[hz] at HCU
    clear hz
    generalize jI l wd hi=rn at *
    go_wp2_with (go_at_call 40;(with_reducible refine (HCU.out).mono ?_);rintro e w4 ⟨A4,c4,rfl,hs4,hx4⟩)
    go_roundw
    case rel=>exact⟨k+1,by omega,by go_num,zA (zLb HT.out HLK.out HZ.out),hb.ext hx4,hx.trans hx4⟩
    case measure=>simp[intOf];omega
   ·have hz2:(vZ l wd hi !=0)=true:=by simpa using hz
    have HF:=zA (zMU HT.out HLK.out rfl hz)
    generalize vZ l wd hi=ce at *
    generalize jI l wd hi=rn at *
    clear hz
    go_wp2_with (go_at_call 40;(with_reducible refine (HCU.out).mono ?_);rintro e w4 ⟨A4,c4,rfl,hs4,hx4⟩)
    go_ret
    rw[HF.out]
    exact⟨rfl,hx.trans hx4⟩
  ·have ek:k=n:=by omega
   have HF:Hid (zAX (L.map fun l=>vZ l wd hi)=0):=zA (zGF _ (fun y hy=>by
    obtain⟨x,hx,rfl⟩:=wD6.1 hy
    exact HT.out x (by rw[ek, ←HL.out,wI8];exact hx)))
   go_wp2_with fail
   go_ret
   rw[HF.out]
   exact⟨rfl,hx⟩
theorem zJC (wd hi:Int) (L:List (List Int)) (A:Option Addr) (n c:Nat) (w:World) (hr:RowsS w A n c L) :
 Calls Tryz.prog 29 #[.agg (yX wd hi (.slice A n c))] w fun e w'=>e=.returned (.int .i64 (zCt wd hi L))∧Ext w w':=by
 unfold zCt
 by_cases h0:xJ wd hi=0
 ·rw[if_pos h0]
  by_cases h:L.length=1∨L.length=3
  ·rw[if_pos h]
   rw[hr.len] at h
   rcases h with h | h
   ·exact fchk_in1 wd hi L A n c w hr h0 h
   ·exact fchk_in3 wd hi L A n c w hr h0 h
  ·rw[if_neg h]
   exact zQy wd hi L A n c w hr h0 h
 ·rw[if_neg h0]
  exact zQO wd hi L A n c w hr h0
section
variable {o:Oper} {a:Act}
theorem zQP (W:World) (p:Addr) (A:Option Addr) (n c:Nat) (h:W.cell? p=some (.slice A n c)):(Instr.loadAt 45 (.pointer (some p))).run Tryz.prog W=.ok (.slice A n c) W:=by
 go_simp
theorem run_loadU (W:World) (p:Addr) (z:Int) (h:W.cell? p=some (.int .u8 z)):(Instr.loadAt 5 (.pointer (some p))).run Tryz.prog W=.ok (.int .u8 z) W:=by
 go_simp
theorem zCM {x:Operand} (ho:o.op=.load 45 x) {p:Addr} (hx:a.eval x=.pointer (some p)) {A:Option Addr} {n c:Nat} {w:World} (h:w.cell? p=some (.slice A n c)):(execOp a.eval o).run Tryz.prog w=.ok (.value (.slice A n c)) w:=by
 simp[execOp,ho,hx,zQP w p A n c h]
theorem zJB {x:Operand} (ho:o.op=.load 5 x) {p:Addr} (hx:a.eval x=.pointer (some p)) {z:Int} {w:World} (h:w.cell? p=some (.int .u8 z)):(execOp a.eval o).run Tryz.prog w=.ok (.value (.int .u8 z)) w:=by
 simp[execOp,ho,hx,run_loadU w p z h]
theorem zGt (y:Nat) (h:y<256) (W:World):(convert 5 3 (.int .u8 (y:Int))).run Tryz.prog W=.ok (.int .i64 (y:Int)) W:=by
 have e:IntKind.i64.wrap (y:Int)=(y:Int):=IntWalk.i64_in _ (by omega)
 go_simp
theorem zKV {P:Program} {x:Operand} {t u:TypeId} (ho:o.op=.convert t u x) {v v':Value} (hx:a.eval x=v) (hr: ∀ w,(convert t u v).run P w=.ok v' w) (w:World):(execOp a.eval o).run P w=.ok (.value v') w:=by
 simp[execOp,ho,hx,hr]
end
theorem SL.upd0 {S:Nat→Prop} {w w':World} {size n c:Nat} {A:Option Addr} {xs:List Value} (h:SL w size (.slice A n c) n xs) (hu:Upd S w w') (hS:0<n→ ∀ ad,A=some ad→ ¬S ad.block):SL w' size (.slice A n c) n xs:=by
 by_cases h0:0<n
 ·exact h.upd hu (hS h0)
 ·obtain⟨A',c',e1,h1,h2,h3,h4⟩:=h
  exact⟨A',c',e1,h1,h2,h3,fun hn=>absurd hn h0⟩
theorem uM {S:Nat→Prop} {w w':World} {base:Nat} {e:TypeId} {size n:Nat} {v:Value} {xs:List Value} (h:w.ownsRow base e size v n xs) (hu:Upd S w w') (hS: ∀ x,S x→x<base):w'.ownsRow base e size v n xs:=by
 obtain⟨hl,hh⟩:=h
 refine⟨hl, ?_⟩
 rcases hh with ⟨rfl,rfl⟩ | ⟨g,cap,cur,rfl,h1,hg,h2⟩
 ·exact .inl ⟨rfl,rfl⟩
 ·exact .inr ⟨g,cap,cur,rfl,h1,(hu.block g (Blk.lt (w:=w) (t:=e) (cs:=cur) hg) (fun hx=>by have:=hS g hx;omega)).trans hg,h2⟩
def blkF (b q:List Int):List Int:=(jF zAs (vD toC b).1 q 40000).1
theorem zOi (b q:List Int) (hq:q.length=64):(blkF b q).length=64:=zEZ zAs _ q 40000 (zCU toC b) hq
def zBk (q X:List Int):Nat→List Int
 | 0=>[]
 | k+1=>zBk q X k++blkF (jV X k) q
def zAj (q:List Int) (wd hi:Int) (R:List (List Int)):List Int:=R.flatMap fun l=>zBk q (zAi l wd hi) (jI l wd hi)
def zAL (wd hi:Int) (R:List (List Int)):Nat:=(R.map fun l=>jI l wd hi).sum
theorem zNz (q X:List Int) (hq:q.length=64): ∀ k,(zBk q X k).length=k*64
 | 0=>rfl
 | k+1=>by rw[zBk,wF1,zNz q X hq k,zOi _ _ hq];omega
theorem zPG (q:List Int) (wd hi:Int) (R:List (List Int)) (k:Nat) (l:List Int) (h:R[k]? =some l):zAj q wd hi (R.take (k+1))=zAj q wd hi (R.take k)++zBk q (zAi l wd hi) (jI l wd hi):=by
 unfold zAj
 rw[wD4,h,wI9]
 simp
theorem zPj (wd hi:Int) (R:List (List Int)) (k:Nat) (l:List Int) (h:R[k]? =some l):zAL wd hi (R.take (k+1))=zAL wd hi (R.take k)+jI l wd hi:=by
 unfold zAL
 rw[wD4,h,wH1,List.sum_append]
 simp
theorem zJW (q:List Int) (hq:q.length=64) (wd hi:Int): ∀ R:List (List Int),(zAj q wd hi R).length=zAL wd hi R*64
 | []=>rfl
 | l::R=>by
   have ih:=zJW q hq wd hi R
   unfold zAj zAL at ih ⊢
   rw[wJ0,wF1,ih,zNz q _ hq,wC8,List.sum_cons,wJ1]
theorem zNI (xs:List Int) (wd hi:Int):jI xs wd hi≤64:=by
 unfold jI
 split
 ·rename_i h
  rcases zEk xs wd hi with ⟨-,hE⟩ | ⟨a,b,rfl,rfl,h1,h2,h3,h4, -, -⟩
  ·rw[hE] at h;cases h
  ·unfold yY
   have:(a+7)/8≤8:=by omega
   have:(b+7)/8≤8:=by omega
   exact wI3 (by simpa using ‹(a+7)/8≤8›) (by simpa using this)
 ·omega
theorem zHF (wd hi:Int): ∀ (R:List (List Int)) (k:Nat),zAL wd hi (R.take k)≤k*64
 | _,0=>by simp[zAL]
 | [],k+1=>by simp[zAL]
 | l::R,k+1=>by
   have:=zHF wd hi R k
   have:=zNI l wd hi
   unfold zAL at *
   rw[wJ2,wC8,List.sum_cons]
   omega
def tto:Int→Int→Int→Four:=fun r g b=>uX toM [r,g,b]
theorem tto_by:zEy 39 tto:=fun a b c w=>zPw a b c w
theorem goesTo:zAP Tryz.prog 39:=⟨_,Tryz.func39,rfl,rfl⟩
theorem zIT: ∀ (l:List Int),zAX l=0→ ∀ e∈l,e=0
 | [],_,_,h=>by cases h
 | e::r,h,x,hx=>by
   unfold zAX at h
   by_cases h0:e=0
   ·rw[if_pos h0] at h
    rcases wJ3.1 hx with rfl | hx
    ·exact h0
    ·exact zIT r h x hx
   ·rw[if_neg h0] at h;exact absurd h h0
theorem picE_ok {wd hi:Int} {L:List (List Int)} (h:zCt wd hi L=0):(L.length=1∨L.length=3)∧ ∃ N,N≤1000000∧ ∀ l∈L,l.length=N:=by
 unfold zCt at h
 by_cases h0:xJ wd hi=0
 ·rw[if_pos h0] at h
  by_cases h1:L.length=1∨L.length=3
  ·rw[if_pos h1] at h
   obtain⟨a,b,rfl,rfl,a1,a2,b1,b2⟩:=zGN h0
   refine⟨h1,a*b,wD1 (wI3 a2 b2) (by omega),fun l hl=> ?_⟩
   have he:=zIT _ h (vZ l a b) (wD6.2 ⟨l,hl,rfl⟩)
   rcases zEk l a b with ⟨-,hE⟩ | ⟨a',b',ea,eb, -, -, -, -, -,⟨hl',hE⟩ | ⟨hl',hq,hE⟩ | ⟨hl',hq,hE⟩⟩
   ·rw[hE] at he;cases he
   ·rw[hE] at he;cases he
   ·rw[hE] at he;cases he
   ·obtain rfl:a=a':=by omega
    obtain rfl:b=b':=by omega
    exact hl'
  ·rw[if_neg h1] at h;cases h
 ·rw[if_neg h0] at h;cases h
def zX (wd hi:Int) (L:List (List Int)) (q:List Int):Int×Nat×List Int :=
 if zCt wd hi L=0 then (if zN q 1 255 then (0,zAL wd hi (zBM tto L),zAj q wd hi (zBM tto L)) else (1,0,[])) else (zCt wd hi L,0,[])
def FrmIs (z:Int×Nat×List Int) (w:World) (e:Ending) (w':World):Prop:= ∃ A c,e=.returned (.tuple #[.slice A z.2.1 c,.int .i64 z.1])∧SL w' 64 (.slice A z.2.1 c) z.2.1 (ints z.2.2)∧Ext w w'
theorem FrmIs.err {z:Int×Nat×List Int} {w w':World} {E:Int} (h:z=(E,0,[])) (hx:Ext w w'):FrmIs z w (.returned (.tuple #[.slice none 0 0,.int .i64 E])) w':=by
 subst h
 exact⟨none,0,rfl,SL.nil w' 64,hx⟩
end Go.Proofs.YtkggcjdlpendfaaGreatDoor
