/- Part 5. -/
import Derived.Deep.Cut
import Derived.StillTailTactics
import Derived.Shelf.Small.Bits
import Derived.Shelf.Strconv.Itoa0
import Derived.Shelf.Strings.Search1
import Derived.Shelf.Strings.Search2
import Derived.Shelf.Strings.Search3
import Derived.Shelf.LaysM
import Derived.Shelf.Strings.Shaped
import Derived.Shelf.Strings.Prefix
import Derived.Shelf.Bytes.SlIndexSmall
import Derived.Ground.SlbNamesProg
import Derived.Shelf.Bytes.SlCountOne
import Derived.Shelf.Bytes.SlIndexAt
import Derived.Shelf.Bytes.SlSearch0
import Derived.Shelf.Bytes.SlSearch1
import Derived.Shelf.Bytes.SlSearch2
import Derived.Shelf.Bytes.SlIndexWhole
import Derived.Shelf.Bytes.SlCountWhole
import Derived.Shelf.Bytes.Small
import Derived.Shelf.Bytes.IndexByte
import Derived.Lib.BitFns
import Derived.Lib.ItoaNum
import Derived.Test.YtkggcjdlpendfaaGreatDoorMTopAcrossCard4
namespace Go.Proofs.YtkggcjdlpendfaaGreatDoor
set_option linter.all false
set_option maxRecDepth 20000
set_option maxHeartbeats 8000000
open Go.RowKit
theorem zQw (xs:List Int) (v:Value) (wd hi:Nat) (w:World) (hv:SL w 1 v xs.length (ints xs)) (h0:xP wd hi=0) (a1:1≤wd) (a2:wd≤64) (b1:1≤hi) (b2:hi≤64) (h:xs.length=wd*hi) (hq:zM xs 0 255=true) :
 Calls Tryz.prog 40 #[v,.int .i64 wd,.int .i64 hi] w fun e w'=> ∃ g,e=.returned (.tuple #[.slice (some ⟨g,0,none⟩) (yH wd hi) (yH wd hi),.int .i64 0])∧Blk w' g 33 (bv (vH xs wd hi))∧Ext w w'∧w.heap.size≤g:=by
 have HK:=zA (fun W=>uX wd hi W)
 rw[h0] at HK
 clear h0
 have HCF:=zA (fun W (hs:SL W 1 v xs.length (ints xs))=>jN 89 #[] (fun z=> !inB z 0 255) zJn v xs W hs (fun z _=>zQP z W))
 simp only[zDJ,hq] at HCF
 have HQ:=zA hq
 clear hq
 have HM:=zA (fun W=>zHK wd hi W a1 a2 b1 b2)
 have HP:Hid (∀ k j,k<64→j<64→ ∃ r q:Nat,Hid (r=k/((wd+7)/8)*8+j/8∧q=k%((wd+7)/8)*8+j%8)∧ ∀ W,Calls Tryz.prog 91 #[.agg (qU wd hi),.int .i64 (k:Int),.int .i64 (j:Int)] W fun e w' =>
  e=.returned (.tuple #[.int .i64 ((r:Nat):Int),.int .i64 ((q:Nat):Int)])∧Ext W w'):=zA fun k j hk hj=>⟨_,_,zA ⟨rfl,rfl⟩,fun W=>zNl wd hi k j W a1 a2 hk hj⟩
 have hm:wd*hi≤64*64:=wI6 a2 b2
 have hw1:IntKind.i64.wrap ((wd:Int)*(hi:Int))=(wd:Int)*(hi:Int):=by rw[←wD7];exact IntWalk.i64_in _ (by omega)
 have hne:((xs.length:Int) !=(wd:Int)*(hi:Int))=false:=by rw[←wD7];simp;omega
 have hbv: #[Value.int .i64 wd,Value.int .i64 hi]=qU wd hi:=rfl
 have hts:=zA (uO wd hi)
 have ho:=zA (zBD wd hi)
 have hn64:yH wd hi≤64:=by have:(wd+7)/8*((hi+7)/8)≤8*8:=wI6 (by omega) (by omega);exact this
 have hcn:(wd+7)/8*((hi+7)/8)=yH wd hi:=rfl
 rw[hcn] at HM
 clear hcn
 have HZL:=zA (zFB xs wd hi)
 have HXL:=zA h
 generalize qU wd hi=av at *
 have hv':=hv
 obtain⟨A,c,rfl,hc1,hc2, -, -⟩:=hv'
 clear h hm
 generalize hn:yH wd hi=n at *
 have HN:=zA hn
 clear hn
 go_enter Tryz.func40,Tryz.ntmps40
 go_wp2_with (first
  | (refine wAlo' rfl (some 8) rfl 128 rfl _ zBr ?_;intro w1 g hb1 hx1 hg)
  | (refine wStB rfl 128 (.tmp 8) (.tmp 17) rfl _ _ rfl rfl hb1 2 xQ hts.out rfl ho.out ?_;intro w2 hb2 hg2;have hx2:=hx1.grown hg2 (by omega))
  | (refine wLdB rfl 128 (.tmp 8) rfl _ rfl hb2 _ Tryz.underlying128 rfl 2 xQ hts.out ?_)
  | (go_at_call 87;(with_reducible refine (HK.out _).mono ?_);rintro e w3 ⟨rfl,hx3⟩;have hx23:=hx2.trans hx3;have hb3:=hb2.ext hx3)
  | (go_at_call 88;(with_reducible refine (HCF.out _ (hv.ext hx23)).mono ?_);rintro e w4 ⟨rfl,rfl⟩)
  | (refine wLdB rfl 128 (.tmp 8) rfl _ rfl hb3 _ Tryz.underlying128 rfl 2 xQ hts.out ?_)
  | (go_at_call 90;(with_reducible refine (HM.out _).mono ?_);rintro e w5 ⟨rfl,hx5⟩;have hb5:=hb3.ext hx5;have hx35:=hx23.trans hx5)
  | (refine zER rfl (some 36) rfl _ _ rfl n (by omega) rfl rfl ?_;intro w6 gz hbz hx6 hgz;have hb6:=hb5.ext hx6;have hx36:=hx35.trans hx6))
 have hgz0:w.heap.size≤gz:=by have:=hx35.size;omega
 have hbz0:Blk w6 gz 33 (bv (zDd (vH xs wd hi) 0)):=by rw[midZ_zero,HZL.out];exact hbz
 generalize hZ:vH xs wd hi=Z at *
 have HZ:=zA hZ
 clear hZ hbz hb2 hb3 hb5 hx1 hx2 hx3 hx5 hx6 hx23 hx35 hg2
 go_loopw [39] (fun i wr=> ∃ k:Nat,k≤n∧i=.int .i64 (k:Int)∧Blk wr gz 33 (bv (zDd Z (k*64)))∧Blk wr g 128 av∧Ext w wr) (fun i _=>n-(intOf i).toNat)
 case atStart=>exact⟨0,by omega,rfl,hbz0,hb6,hx36⟩
 case round =>
  clear hbz0 hb6 hx36
  obtain⟨k,hk,rfl,hbo,hba,hxo⟩:=hrel
  by_cases hlt:k<n
  ·go_wp2_with fail
   go_loopw [42] (fun i wr=> ∃ j:Nat,j≤64∧i=.int .i64 (j:Int)∧Blk wr gz 33 (bv (zDd Z (k*64+j)))∧Blk wr g 128 av∧Ext w wr) (fun i _=>64-(intOf i).toNat)
   case atStart=>exact⟨0,by omega,rfl,hbo,hba,hxo⟩
   case round =>
    clear hbo hba hxo
    obtain⟨j,hj,rfl,hbi,hbj,hxi⟩:=hrel
    by_cases hlj:j<64
    ·obtain⟨r,q,HRQ,hcall⟩:=HP.out k j (by omega) hlj
     have HCALL:=zA hcall
     clear hcall
     go_wp2_with (first
      | (refine wLdB rfl 128 (.tmp 8) rfl _ rfl hbj _ Tryz.underlying128 rfl 2 xQ hts.out ?_)
      | (go_at_call 91;(with_reducible refine (HCALL.out _).mono ?_);rintro e w7 ⟨rfl,hx7⟩;have hbi7:=hbi.ext hx7;have hbj7:=hbj.ext hx7;have hxi7:=hxi.trans hx7))
     have hpl:=cut_place wd hi r q a1 b1
     have hm1:min r (hi-1)*wd≤64*64:=wI6 (by omega) a2
     obtain⟨p,hpx⟩: ∃ p,min r (hi-1)*wd+min q (wd-1)=p:=⟨_,rfl⟩
     have hp:p<xs.length:=by have:=HXL.out;omega
     obtain⟨ad,u,rfl,hadb,hxp,hcell⟩:=hv.at1 hp
     obtain⟨hpl',rfl⟩:=zCb _ _ _ hxp
     have hzb:=zY.1 HQ.out _ (wE2 hpl')
     have hval:zFh xs wd hi k j=xs[p]-128:=by
      unfold zFh
      rw[←HRQ.out.1, ←HRQ.out.2,hpx,wF4,wA2 hpl']
      rfl
     generalize xs[p]=z at *
     have hx7':=hxi7.drew
     have hcz: ∀ W,Ext w7.drew W→W.cell? (ad.add (p*1))=some (.int .i64 z):=fun W hW=>by
      rw[wF1,((hx7'.trans hW).cell (p:=ad.add p) (by rw[yK];exact hadb))]
      exact hcell
     refine uY qF 20 (by kernel_rfl) (by kernel_rfl) ?_
     simp only[List.take,List.drop]
     refine zE (by rfl) (.slice (some ⟨gz,0,none⟩) n n) (zC rfl rfl) ?_
     simp only[Act.put,sA,sB,sC]
     refine zE (by rfl) (.int .i64 ((k:Nat):Int)) (zC rfl rfl) ?_
     simp only[Act.put,sA,sB,sC]
     refine zE (by rfl) (.int .i64 ((j:Nat):Int)) (zC rfl rfl) ?_
     simp only[Act.put,sA,sB,sC]
     refine zE (by rfl) (.slice (some ad) xs.length c) (zC rfl rfl) ?_
     simp only[Act.put,sA,sB,sC]
     refine zE (by rfl) (.int .i64 ((r:Nat):Int)) (zC rfl rfl) ?_
     simp only[Act.put,sA,sB,sC]
     refine zE (by rfl) (.int .i64 ((hi:Nat):Int)) (zC rfl rfl) ?_
     simp only[Act.put,sA,sB,sC]
     refine zE (by rfl) (.int .i64 ((hi-1:Nat):Int)) (xG (i:=hi) (d:=1) rfl rfl rfl (by omega) (by omega)) ?_
     simp only[Act.put,sA,sB,sC]
     refine zE (by rfl) (.int .i64 ((min r (hi-1):Nat):Int)) (zJa (i:=r) (d:=hi-1) rfl rfl rfl) ?_
     simp only[Act.put,sA,sB,sC]
     refine zE (by rfl) (.int .i64 ((wd:Nat):Int)) (zC rfl rfl) ?_
     simp only[Act.put,sA,sB,sC]
     refine zE (by rfl) (.int .i64 (((min r (hi-1))*wd:Nat):Int)) (zBX (i:=min r (hi-1)) (d:=wd) rfl rfl rfl (by omega)) ?_
     simp only[Act.put,sA,sB,sC]
     refine zE (by rfl) (.int .i64 ((q:Nat):Int)) (zC rfl rfl) ?_
     simp only[Act.put,sA,sB,sC]
     refine zE (by rfl) (.int .i64 ((wd:Nat):Int)) (zC rfl rfl) ?_
     simp only[Act.put,sA,sB,sC]
     refine zE (by rfl) (.int .i64 ((wd-1:Nat):Int)) (xG (i:=wd) (d:=1) rfl rfl rfl (by omega) (by omega)) ?_
     simp only[Act.put,sA,sB,sC]
     refine zE (by rfl) (.int .i64 ((min q (wd-1):Nat):Int)) (zJa (i:=q) (d:=wd-1) rfl rfl rfl) ?_
     simp only[Act.put,sA,sB,sC]
     refine zE (by rfl) (.int .i64 ((((min r (hi-1))*wd)+(min q (wd-1)):Nat):Int)) (yC (i:=(min r (hi-1))*wd) (d:=min q (wd-1)) rfl rfl rfl (by omega)) ?_
     simp only[Act.put,sA,sB,sC]
     rw[hpx]
     refine zE (by rfl) (.pointer (some (ad.add (p*1)))) (qS Tryz.underlying22 qW rfl rfl rfl hp) ?_
     simp only[Act.put,sA,sB,sC]
     refine xB (by rfl) (.int .i64 z) (fun W hW=>zQ rfl rfl (hcz W hW)) ?_
     simp only[Act.put,sA,sB,sC]
     refine zE (by rfl) (.int .i64 (z-(((128:Nat):Int)))) (zMa (i:=z) (d:=((128:Nat):Int)) rfl rfl rfl (by omega)) ?_
     simp only[Act.put,sA,sB,sC]
     refine zE (by rfl) (.pointer (some ⟨gz,0+k*64,none⟩)) (zEw Tryz.underlying25 zG rfl rfl rfl hlt) ?_
     simp only[Act.put,sA,sB,sC]
     refine zE (by rfl) (.pointer (some ⟨gz,0+k*64+j*1,none⟩)) (zNW Tryz.underlying33 qW rfl rfl rfl hlj) ?_
     simp only[Act.put,sA,sB,sC]
     refine jJ ?_
     intro W hW
     have hbi8:=(hbi7.drew).ext hW
     have hbj8:=(hbj7.drew).ext hW
     have hx8:=hx7'.trans hW
     have hlen:k*64+j<(bv (zDd Z (k*64+j))).size:=by rw[zJ,midZ_len _ _ (by rw[HZL.out];omega),HZL.out];omega
     refine vU rfl (.tmp 71) (.tmp 69) rfl gz (0+k*64+j*1) (z-128) rfl rfl hbi8 (by rw[wB2,wF1];exact hlen) ?_
     simp only[Act.put,sA,sB,sC]
     have hb9:=hbi8.set_ (0+k*64+j*1) (.int .i64 (z-128))
     rw[vP,wB2,wF1,midZ_set Z (k*64+j) (z-128) (by rw[←HZ.out,cutZ_at xs wd hi k j hlj (by have:=HN.out;omega),hval])] at hb9
     have hb10:=hbj8.far (p:=⟨gz,k*64+j,none⟩) (hbi8.ne_ hbj8 (by decide)).symm (.int .i64 (z-128))
     have hx9:=hx8.setCell (p:=⟨gz,k*64+j,none⟩) hgz0 (.int .i64 (z-128))
     rw[show 0+k*64+j*1=k*64+j by omega]
     generalize W.setCell ⟨gz,k*64+j,none⟩ (.int .i64 (z-128))=W9 at *
     go_wp2_with fail
     go_roundw
     case rel=>exact⟨j+1,by omega,by go_num,hb9,hb10,hx9⟩
     case measure=>simp[intOf];omega
    ·have ej:j=64:=by omega
     rw[ej]
     go_wp2_with fail
     go_roundw
     case rel=>exact⟨k+1,by omega,by go_num,by rw[ej] at hbi;rw[show (k+1)*64=k*64+64 by omega];exact hbi,hbj,hxi⟩
     case measure=>simp[intOf];omega
  ·have ek:k=n:=by omega
   rw[ek] at hbo
   rw[ek]
   go_wp2_with fail
   go_ret2
   refine⟨gz,rfl, ?_,hxo,hgz0⟩
   rw[←HZL.out,midZ_all] at hbo
   rw[HZ.out]
   exact hbo
theorem zMT:Elt Tryz.prog 25 33 64 512:=⟨Tryz.underlying25,by kernel_rfl,by decide⟩
theorem zero48':((Tryz.prog.info? 33).bind (·.zero)).isSome=true:=by rw[qY];rfl
theorem blk_sl1 {w:World} {g:Nat} {t:TypeId} {zs:List Int} (h:Blk w g t (bv zs)) (hz:zs.length=64):SL w 64 (.slice (some ⟨g,0,none⟩) 1 1) 1 (ints zs):=by
 have:=h.sl (size:=64) (n:=1) (c:=1) (by rw[zJ,hz]) (by omega) (by omega)
 simpa [bv] using this
def jZ (xs:List Int) (wd hi:Int):Nat:=if uT xs wd hi=0 then yH wd.toNat hi.toNat else 0
def zBI (xs:List Int) (wd hi:Int):List Int:=if uT xs wd hi=0 then vH xs wd.toNat hi.toNat else []
theorem cutRZ_len (xs:List Int) (wd hi:Int):(zBI xs wd hi).length=jZ xs wd hi*64:=by
 unfold zBI jZ
 split
 ·exact zFB _ _ _
 ·rfl
def zJT (xs:List Int) (wd hi:Int) (w:World) (e:Ending) (w':World):Prop :=
 ∃ A c,e=.returned (.tuple #[.slice A (jZ xs wd hi) c,.int .i64 (uT xs wd hi)])∧SL w' 64 (.slice A (jZ xs wd hi) c) (jZ xs wd hi) (ints (zBI xs wd hi))∧Ext w w'
theorem zMb {xs:List Int} {wd hi:Int} {w w':World} {e:Ending} {k:Int} (hk:uT xs wd hi=k) (h0:k≠0) (h:e=.returned (.tuple #[.slice none 0 0,.int .i64 k])∧Ext w w'):zJT xs wd hi w e w':=by
 have hn:jZ xs wd hi=0:=by unfold jZ;rw[if_neg (by rw[hk];exact h0)]
 have hz:zBI xs wd hi=[]:=by unfold zBI;rw[if_neg (by rw[hk];exact h0)]
 unfold zJT
 rw[hn,hz,hk]
 exact⟨none,0,h.1,SL.nil _ _,h.2⟩
theorem zFT (xs:List Int) (wd hi:Int):(xP wd hi≠0∧uT xs wd hi=1)∨ ∃ a b:Nat,wd=(a:Int)∧hi=(b:Int)∧1≤a∧a≤64∧1≤b∧b≤64∧xP wd hi=0 ∧
 ((xs.length≠a*b∧uT xs wd hi=4)∨(xs.length=a*b∧zM xs 0 255=false∧uT xs wd hi=1)∨(xs.length=a*b∧zM xs 0 255=true∧uT xs wd hi=0)):=by
 by_cases h:xP wd hi=0
 ·right
  obtain⟨a,b,ha,hb,h1,h2,h3,h4⟩:=zHF h
  refine⟨a,b,ha,hb,h1,h2,h3,h4,h, ?_⟩
  unfold uT
  rw[if_pos h]
  subst ha hb
  by_cases hl:xs.length=a*b
  ·rw[if_pos (by rw[hl];push_cast;rfl)]
   cases hq:zM xs 0 255 with
   | false=>exact .inr (.inl ⟨hl,rfl,by simp⟩)
   | true=>exact .inr (.inr ⟨hl,rfl,by simp⟩)
  ·rw[if_neg (fun he=>hl (by exact_mod_cast he))]
   exact .inl ⟨hl,rfl⟩
 ·left
  refine⟨h, ?_⟩
  unfold uT
  rw[if_neg h]
theorem cut_any (xs:List Int) (v:Value) (wd hi:Int) (w:World) (hv:SL w 1 v xs.length (ints xs)):Calls Tryz.prog 40 #[v,.int .i64 wd,.int .i64 hi] w (zJT xs wd hi w):=by
 rcases zFT xs wd hi with ⟨h,hE⟩ | ⟨a,b,rfl,rfl,h1,h2,h3,h4,h0,⟨hl,hE⟩ | ⟨hl,hq,hE⟩ | ⟨hl,hq,hE⟩⟩
 ·exact (zNw xs v wd hi w hv h).mono fun e w' h=>zMb hE (by decide) h
 ·exact (zQv xs v a b w hv h0 h2 h4 hl).mono fun e w' h=>zMb hE (by decide) h
 ·exact (cut_out xs v a b w hv h0 h2 h4 hl hq).mono fun e w' h=>zMb hE (by decide) h
 ·refine (zQw xs v a b w hv h0 h1 h2 h3 h4 hl hq).mono fun e w' ⟨g,he,hb,hx,hfr⟩=> ?_
  have hn:jZ xs a b=yH a b:=by unfold jZ;rw[if_pos hE];rfl
  have hz:zBI xs a b=vH xs a b:=by unfold zBI;rw[if_pos hE];rfl
  unfold zJT
  rw[hn,hz,hE]
  refine⟨some ⟨g,0,none⟩,_,he, ?_,hx⟩
  have hc:yH a b≤8*8:=wI6 (by omega) (by omega)
  have:=hb.sl (size:=64) (n:=yH a b) (c:=yH a b) (by rw[zJ,zFB]) (by omega) (by omega)
  simpa [bv] using this
def CutFr (xs:List Int) (wd hi:Int) (w:World) (e:Ending) (w':World):Prop :=
 ∃ A c,e=.returned (.tuple #[.slice A (jZ xs wd hi) c,.int .i64 (uT xs wd hi)])∧SL w' 64 (.slice A (jZ xs wd hi) c) (jZ xs wd hi) (ints (zBI xs wd hi))∧Ext w w'∧ ∀ ad,A=some ad→w.heap.size≤ad.block
theorem zKf {xs:List Int} {wd hi:Int} {w w':World} {e:Ending} {k:Int} (hk:uT xs wd hi=k) (h0:k≠0) (h:e=.returned (.tuple #[.slice none 0 0,.int .i64 k])∧Ext w w'):CutFr xs wd hi w e w':=by
 have hn:jZ xs wd hi=0:=by unfold jZ;rw[if_neg (by rw[hk];exact h0)]
 have hz:zBI xs wd hi=[]:=by unfold zBI;rw[if_neg (by rw[hk];exact h0)]
 unfold CutFr
 rw[hn,hz,hk]
 exact⟨none,0,h.1,SL.nil _ _,h.2,fun _ h=>by cases h⟩
theorem cut_anyF (xs:List Int) (v:Value) (wd hi:Int) (w:World) (hv:SL w 1 v xs.length (ints xs)):Calls Tryz.prog 40 #[v,.int .i64 wd,.int .i64 hi] w (CutFr xs wd hi w):=by
 rcases zFT xs wd hi with ⟨h,hE⟩ | ⟨a,b,rfl,rfl,h1,h2,h3,h4,h0,⟨hl,hE⟩ | ⟨hl,hq,hE⟩ | ⟨hl,hq,hE⟩⟩
 ·exact (zNw xs v wd hi w hv h).mono fun e w' h=>zKf hE (by decide) h
 ·exact (zQv xs v a b w hv h0 h2 h4 hl).mono fun e w' h=>zKf hE (by decide) h
 ·exact (cut_out xs v a b w hv h0 h2 h4 hl hq).mono fun e w' h=>zKf hE (by decide) h
 ·refine (zQw xs v a b w hv h0 h1 h2 h3 h4 hl hq).mono fun e w' ⟨g,he,hb,hx,hfr⟩=> ?_
  have hn:jZ xs a b=yH a b:=by unfold jZ;rw[if_pos hE];rfl
  have hz:zBI xs a b=vH xs a b:=by unfold zBI;rw[if_pos hE];rfl
  unfold CutFr
  rw[hn,hz,hE]
  refine⟨some ⟨g,0,none⟩,_,he, ?_,hx,fun ad h=>by injection h with h;subst h;exact hfr⟩
  have hc:yH a b≤8*8:=wI6 (by omega) (by omega)
  have:=hb.sl (size:=64) (n:=yH a b) (c:=yH a b) (by rw[zJ,zFB]) (by omega) (by omega)
  simpa [bv] using this
def xE (wd hi:Int) (v:Value):Array Value:= #[.int .i64 wd,.int .i64 hi,v]
theorem vT (wd hi:Int) (v:Value):(xE wd hi v).size=3:=rfl
theorem jW:(Tryz.prog.info? 31).map (·.size)=some 3:=by kernel_rfl
theorem zAi {w:World} {g:Nat} {T:TypeId} {wd hi:Int} {v:Value} (h:Blk w g T (xE wd hi v)):w.cell? ⟨g,0,none⟩=some (.int .i64 wd)∧w.cell? ⟨g,1,none⟩=some (.int .i64 hi)∧w.cell? ⟨g,2,none⟩=some v:=by
 rw[h.cell,h.cell,h.cell]
 exact⟨rfl,rfl,rfl⟩
def zAn:List Int→Int
 | []=>0
 | e::r=>if e=0 then zAn r else e
theorem zHL: ∀ (l:List Int),(∀ e∈l,e=0)→zAn l=0
 | [],_=>rfl
 | e::r,h=>by
   have:=h e (by simp)
   unfold zAn
   rw[if_pos this]
   exact zHL r (fun x hx=>h x (by simp[hx]))
theorem zNd: ∀ (l:List Int) (k:Nat) (e:Int),(∀ x∈l.take k,x=0)→l[k]? =some e→e≠0→zAn l=e
 | [],k,e,_,h,_=>by simp at h
 | x::r,0,e,_,h,h0=>by
   simp at h
   subst h
   unfold zAn
   rw[if_neg h0]
 | x::r,k+1,e,ht,h,h0=>by
   have hx:x=0:=ht x (by simp)
   unfold zAn
   rw[if_pos hx]
   exact zNd r k e (fun y hy=>ht y (by simp[hy])) (by simpa using h) h0
def zDQ (wd hi:Int) (L:List (List Int)):Int:=if xP wd hi=0 then (if L.length=1∨L.length=3 then zAn (L.map fun l=>uT l wd hi) else 1) else 1
theorem zNG {L:List (List Int)} {f:List Int→Int} {k:Nat} {l:List Int} (h: ∀ x∈L.take k,f x=0) (hl:L[k]? =some l) (h0:f l=0): ∀ x∈L.take (k+1),f x=0:=by
 intro x hx
 rw[wD4,hl] at hx
 rcases wE6.1 hx with h1 | h1
 ·exact h x h1
 ·simp at h1;subst h1;exact h0
theorem zNb {L:List (List Int)} {f:List Int→Int} {k:Nat} {l:List Int} {e:Int} (h: ∀ x∈L.take k,f x=0) (hl:L[k]? =some l) (he:f l=e) (h0:e≠0):zAn (L.map f)=e :=
 zNd _ k _ (fun y hy=>by
  rw[←wH1] at hy
  obtain⟨x,hx,rfl⟩:=wD6.1 hy
  exact h x hx) (by rw[wC0,hl];simp[he]) h0
theorem zSu (wd hi:Int) (L:List (List Int)) (A:Option Addr) (n c:Nat) (w:World) (hr:RowsS w A n c L) (h:xP wd hi≠0) :
 Calls Tryz.prog 29 #[.agg (xE wd hi (.slice A n c))] w fun e w'=>e=.returned (.int .i64 1)∧Ext w w':=by
 have HM:=zA (fun W=>zEv wd hi W)
 rw[zGu h] at HM
 clear h
 have HC:=zA (fun W g (h:Blk W g 31 (xE wd hi (.slice A n c)))=>zAi h)
 generalize xE wd hi (.slice A n c)=pv at *
 generalize zCn wd hi=mz at *
 go_enter Tryz.func29,Tryz.ntmps29
 go_wp2_with (first
  | (refine wBox rfl 31 (.tmp 0) rfl pv rfl ?_;intro w1 g hb1 hx1 hg;obtain⟨c0,c1,c2⟩:=HC.out _ _ hb1)
  | (go_at_call 65;(with_reducible refine (HM.out _).mono ?_);rintro e w2 ⟨rfl,hx2⟩;have hb2:=hb1.ext hx2;have hx12:=hx1.trans hx2;clear c0 c1 c2;obtain⟨d0,d1,d2⟩:=HC.out _ _ hb2))
 go_ret
 exact⟨rfl,hx12⟩
theorem zSY (wd hi:Int) (L:List (List Int)) (A:Option Addr) (n c:Nat) (w:World) (hr:RowsS w A n c L) (h0:xP wd hi=0) (h: ¬(L.length=1∨L.length=3)) :
 Calls Tryz.prog 29 #[.agg (xE wd hi (.slice A n c))] w fun e w'=>e=.returned (.int .i64 1)∧Ext w w':=by
 have HM:=zA (fun W=>zEv wd hi W)
 rw[h0] at HM
 clear h0
 have HC:=zA (fun W g (h:Blk W g 31 (xE wd hi (.slice A n c)))=>zAi h)
 rw[hr.len] at h
 have hn1:((n:Int) !=1)=true:=by simp;omega
 have hn3:((n:Int) !=3)=true:=by simp;omega
 clear h
 generalize xE wd hi (.slice A n c)=pv at *
 generalize zCn wd hi=mz at *
 go_enter Tryz.func29,Tryz.ntmps29
 go_wp2_with (first
  | (refine wBox rfl 31 (.tmp 0) rfl pv rfl ?_;intro w1 g hb1 hx1 hg;obtain⟨c0,c1,c2⟩:=HC.out _ _ hb1)
  | (go_at_call 65;(with_reducible refine (HM.out _).mono ?_);rintro e w2 ⟨rfl,hx2⟩;have hb2:=hb1.ext hx2;have hx12:=hx1.trans hx2;clear c0 c1 c2;obtain⟨d0,d1,d2⟩:=HC.out _ _ hb2))
 go_ret
 exact⟨rfl,hx12⟩
theorem fchk_in1 (wd hi:Int) (L:List (List Int)) (A:Option Addr) (n c:Nat) (w:World) (hr:RowsS w A n c L) (h0:xP wd hi=0) (h:n=1) :
 Calls Tryz.prog 29 #[.agg (xE wd hi (.slice A n c))] w fun e w'=>e=.returned (.int .i64 (zAn (L.map fun l=>uT l wd hi)))∧Ext w w':=by
 have HM:=zA (fun W=>zEv wd hi W)
 rw[h0] at HM
 clear h0
 have HC:=zA (fun W g (h:Blk W g 31 (xE wd hi (.slice A n c)))=>zAi h)
 have hn1:((n:Int) !=1)=false:=by simp;omega
 have hn9:n≤3:=by omega
 have HL:=zA hr.len
 clear h
 have HCUT:=zA (fun W v l (hv:SL W 1 v l.length (ints l))=>cut_any l v wd hi W hv)
 unfold zJT at HCUT
 generalize zCn wd hi=mz at *
 generalize xE wd hi (.slice A n c)=pv at *
 go_enter Tryz.func29,Tryz.ntmps29
 go_wp2_with (first
  | (refine wBox rfl 31 (.tmp 0) rfl pv rfl ?_;intro w1 g hb1 hx1 hg;obtain⟨c0,c1,c2⟩:=HC.out _ _ hb1)
  | (go_at_call 65;(with_reducible refine (HM.out _).mono ?_);rintro e w2 ⟨rfl,hx2⟩;have hb2:=hb1.ext hx2;have hx12:=hx1.trans hx2;clear c0 c1 c2;obtain⟨d0,d1,d2⟩:=HC.out _ _ hb2))
 clear d0 d1 d2
 go_loopw [33] (fun i wr=> ∃ (k:Nat),k≤n∧i=.int .i64 (k:Int)∧Hid (∀ x∈L.take k,uT x wd hi=0)∧Blk wr g 31 pv∧Ext w wr) (fun i _=>n-(intOf i).toNat)
 case atStart=>exact⟨0,by omega,rfl,zA (by simp),hb2,hx12⟩
 case round =>
  clear hb2 hx12
  obtain⟨k,hk,rfl,HT,hb,hx⟩:=hrel
  by_cases hlt:k<n
  ·obtain⟨ad,l,B,d,rfl,hl,hab,hcell,hsl⟩:=(hr.ext hx).get hlt
   have HLK:=zA hl
   obtain⟨d0,d1,d2⟩:=HC.out _ _ hb
   clear hl
   have HCU:=zA (HCUT.out wr _ l hsl)
   by_cases hz:uT l wd hi=0
   ·have HZ:=zA hz
    rw[hz] at HCU
    clear hz
    generalize jZ l wd hi=rn at *
    go_wp2_with (go_at_call 40;(with_reducible refine (HCU.out).mono ?_);rintro e w4 ⟨A4,c4,rfl,hs4,hx4⟩)
    go_roundw
    case rel=>exact⟨k+1,by omega,by go_num,zA (zNG HT.out HLK.out HZ.out),hb.ext hx4,hx.trans hx4⟩
    case measure=>simp[intOf];omega
   ·have hz2:(uT l wd hi !=0)=true:=by simpa using hz
    have HF:=zA (zNb HT.out HLK.out rfl hz)
    generalize uT l wd hi=ce at *
    generalize jZ l wd hi=rn at *
    clear hz
    go_wp2_with (go_at_call 40;(with_reducible refine (HCU.out).mono ?_);rintro e w4 ⟨A4,c4,rfl,hs4,hx4⟩)
    go_ret
    rw[HF.out]
    exact⟨rfl,hx.trans hx4⟩
  ·have ek:k=n:=by omega
   have HF:Hid (zAn (L.map fun l=>uT l wd hi)=0):=zA (zHL _ (fun y hy=>by
    obtain⟨x,hx,rfl⟩:=wD6.1 hy
    exact HT.out x (by rw[ek, ←HL.out,wJ3];exact hx)))
   go_wp2_with fail
   go_ret
   rw[HF.out]
   exact⟨rfl,hx⟩
theorem fchk_in3 (wd hi:Int) (L:List (List Int)) (A:Option Addr) (n c:Nat) (w:World) (hr:RowsS w A n c L) (h0:xP wd hi=0) (h:n=3) :
 Calls Tryz.prog 29 #[.agg (xE wd hi (.slice A n c))] w fun e w'=>e=.returned (.int .i64 (zAn (L.map fun l=>uT l wd hi)))∧Ext w w':=by
 have HM:=zA (fun W=>zEv wd hi W)
 rw[h0] at HM
 clear h0
 have HC:=zA (fun W g (h:Blk W g 31 (xE wd hi (.slice A n c)))=>zAi h)
 have hn1:((n:Int) !=1)=true:=by simp;omega
 have hn3:((n:Int) !=3)=false:=by simp;omega
 have hn9:n≤3:=by omega
 have HL:=zA hr.len
 clear h
 have HCUT:=zA (fun W v l (hv:SL W 1 v l.length (ints l))=>cut_any l v wd hi W hv)
 unfold zJT at HCUT
 generalize zCn wd hi=mz at *
 generalize xE wd hi (.slice A n c)=pv at *
 go_enter Tryz.func29,Tryz.ntmps29
 go_wp2_with (first
  | (refine wBox rfl 31 (.tmp 0) rfl pv rfl ?_;intro w1 g hb1 hx1 hg;obtain⟨c0,c1,c2⟩:=HC.out _ _ hb1)
  | (go_at_call 65;(with_reducible refine (HM.out _).mono ?_);rintro e w2 ⟨rfl,hx2⟩;have hb2:=hb1.ext hx2;have hx12:=hx1.trans hx2;clear c0 c1 c2;obtain⟨d0,d1,d2⟩:=HC.out _ _ hb2))
 clear d0 d1 d2
 go_loopw [33] (fun i wr=> ∃ (k:Nat),k≤n∧i=.int .i64 (k:Int)∧Hid (∀ x∈L.take k,uT x wd hi=0)∧Blk wr g 31 pv∧Ext w wr) (fun i _=>n-(intOf i).toNat)
 case atStart=>exact⟨0,by omega,rfl,zA (by simp),hb2,hx12⟩
 case round =>
  clear hb2 hx12
  obtain⟨k,hk,rfl,HT,hb,hx⟩:=hrel
  by_cases hlt:k<n
  ·obtain⟨ad,l,B,d,rfl,hl,hab,hcell,hsl⟩:=(hr.ext hx).get hlt
   have HLK:=zA hl
   obtain⟨d0,d1,d2⟩:=HC.out _ _ hb
   clear hl
   have HCU:=zA (HCUT.out wr _ l hsl)
   by_cases hz:uT l wd hi=0
   ·have HZ:=zA hz
    rw[hz] at HCU
    clear hz
    generalize jZ l wd hi=rn at *
    go_wp2_with (go_at_call 40;(with_reducible refine (HCU.out).mono ?_);rintro e w4 ⟨A4,c4,rfl,hs4,hx4⟩)
    go_roundw
    case rel=>exact⟨k+1,by omega,by go_num,zA (zNG HT.out HLK.out HZ.out),hb.ext hx4,hx.trans hx4⟩
    case measure=>simp[intOf];omega
   ·have hz2:(uT l wd hi !=0)=true:=by simpa using hz
    have HF:=zA (zNb HT.out HLK.out rfl hz)
    generalize uT l wd hi=ce at *
    generalize jZ l wd hi=rn at *
    clear hz
    go_wp2_with (go_at_call 40;(with_reducible refine (HCU.out).mono ?_);rintro e w4 ⟨A4,c4,rfl,hs4,hx4⟩)
    go_ret
    rw[HF.out]
    exact⟨rfl,hx.trans hx4⟩
  ·have ek:k=n:=by omega
   have HF:Hid (zAn (L.map fun l=>uT l wd hi)=0):=zA (zHL _ (fun y hy=>by
    obtain⟨x,hx,rfl⟩:=wD6.1 hy
    exact HT.out x (by rw[ek, ←HL.out,wJ3];exact hx)))
   go_wp2_with fail
   go_ret
   rw[HF.out]
   exact⟨rfl,hx⟩
theorem zKN (wd hi:Int) (L:List (List Int)) (A:Option Addr) (n c:Nat) (w:World) (hr:RowsS w A n c L) :
 Calls Tryz.prog 29 #[.agg (xE wd hi (.slice A n c))] w fun e w'=>e=.returned (.int .i64 (zDQ wd hi L))∧Ext w w':=by
 unfold zDQ
 by_cases h0:xP wd hi=0
 ·rw[if_pos h0]
  by_cases h:L.length=1∨L.length=3
  ·rw[if_pos h]
   rw[hr.len] at h
   rcases h with h | h
   ·exact fchk_in1 wd hi L A n c w hr h0 h
   ·exact fchk_in3 wd hi L A n c w hr h0 h
  ·rw[if_neg h]
   exact zSY wd hi L A n c w hr h0 h
 ·rw[if_neg h0]
  exact zSu wd hi L A n c w hr h0
section
variable {o:Oper} {a:Act}
theorem zTM (W:World) (p:Addr) (A:Option Addr) (n c:Nat) (h:W.cell? p=some (.slice A n c)):(Instr.loadAt 45 (.pointer (some p))).run Tryz.prog W=.ok (.slice A n c) W:=by
 go_simp
theorem run_loadU (W:World) (p:Addr) (z:Int) (h:W.cell? p=some (.int .u8 z)):(Instr.loadAt 5 (.pointer (some p))).run Tryz.prog W=.ok (.int .u8 z) W:=by
 go_simp
theorem zCx {x:Operand} (ho:o.op=.load 45 x) {p:Addr} (hx:a.eval x=.pointer (some p)) {A:Option Addr} {n c:Nat} {w:World} (h:w.cell? p=some (.slice A n c)):(execOp a.eval o).run Tryz.prog w=.ok (.value (.slice A n c)) w:=by
 simp[execOp,ho,hx,zTM w p A n c h]
theorem zKS {x:Operand} (ho:o.op=.load 5 x) {p:Addr} (hx:a.eval x=.pointer (some p)) {z:Int} {w:World} (h:w.cell? p=some (.int .u8 z)):(execOp a.eval o).run Tryz.prog w=.ok (.value (.int .u8 z)) w:=by
 simp[execOp,ho,hx,run_loadU w p z h]
theorem zIh (y:Nat) (h:y<256) (W:World):(convert 5 3 (.int .u8 (y:Int))).run Tryz.prog W=.ok (.int .i64 (y:Int)) W:=by
 have e:IntKind.i64.wrap (y:Int)=(y:Int):=IntWalk.i64_in _ (by omega)
 go_simp
theorem zMc {P:Program} {x:Operand} {t u:TypeId} (ho:o.op=.convert t u x) {v v':Value} (hx:a.eval x=v) (hr: ∀ w,(convert t u v).run P w=.ok v' w) (w:World):(execOp a.eval o).run P w=.ok (.value v') w:=by
 simp[execOp,ho,hx,hr]
end
theorem SL.upd0 {S:Nat→Prop} {w w':World} {size n c:Nat} {A:Option Addr} {xs:List Value} (h:SL w size (.slice A n c) n xs) (hu:Upd S w w') (hS:0<n→ ∀ ad,A=some ad→ ¬S ad.block):SL w' size (.slice A n c) n xs:=by
 by_cases h0:0<n
 ·exact h.upd hu (hS h0)
 ·obtain⟨A',c',e1,h1,h2,h3,h4⟩:=h
  exact⟨A',c',e1,h1,h2,h3,fun hn=>absurd hn h0⟩
theorem zAE {S:Nat→Prop} {w w':World} {base:Nat} {e:TypeId} {size n:Nat} {v:Value} {xs:List Value} (h:w.ownsRow base e size v n xs) (hu:Upd S w w') (hS: ∀ x,S x→x<base):w'.ownsRow base e size v n xs:=by
 obtain⟨hl,hh⟩:=h
 refine⟨hl, ?_⟩
 rcases hh with ⟨rfl,rfl⟩ | ⟨g,cap,cur,rfl,h1,hg,h2⟩
 ·exact .inl ⟨rfl,rfl⟩
 ·exact .inr ⟨g,cap,cur,rfl,h1,(hu.block g (Blk.lt (w:=w) (t:=e) (cs:=cur) hg) (fun hx=>by have:=hS g hx;omega)).trans hg,h2⟩
def zDc (b q:List Int):List Int:=(jF zBw (vD toC b).1 q 40000).1
theorem zGy (b q:List Int) (hq:q.length=64):(zDc b q).length=64:=zEL zBw _ q 40000 (zBn toC b) hq
def jQ (q X:List Int):Nat→List Int
 | 0=>[]
 | k+1=>jQ q X k++zDc (qH X k) q
def zBB (q:List Int) (wd hi:Int) (R:List (List Int)):List Int:=R.flatMap fun l=>jQ q (zBI l wd hi) (jZ l wd hi)
def zAa (wd hi:Int) (R:List (List Int)):Nat:=(R.map fun l=>jZ l wd hi).sum
theorem zDu (q X:List Int) (hq:q.length=64): ∀ k,(jQ q X k).length=k*64
 | 0=>rfl
 | k+1=>by rw[jQ,wF3,zDu q X hq k,zGy _ _ hq];omega
theorem zRH (q:List Int) (wd hi:Int) (R:List (List Int)) (k:Nat) (l:List Int) (h:R[k]? =some l):zBB q wd hi (R.take (k+1))=zBB q wd hi (R.take k)++jQ q (zBI l wd hi) (jZ l wd hi):=by
 unfold zBB
 rw[wD4,h,wJ4]
 simp
theorem zRt (wd hi:Int) (R:List (List Int)) (k:Nat) (l:List Int) (h:R[k]? =some l):zAa wd hi (R.take (k+1))=zAa wd hi (R.take k)+jZ l wd hi:=by
 unfold zAa
 rw[wD4,h,wH4,wJ5]
 simp
theorem zKu (q:List Int) (hq:q.length=64) (wd hi:Int): ∀ R:List (List Int),(zBB q wd hi R).length=zAa wd hi R*64
 | []=>rfl
 | l::R=>by
   have ih:=zKu q hq wd hi R
   unfold zBB zAa at ih ⊢
   rw[wJ6,wF3,ih,zDu q _ hq,wC8,wJ7,wJ8]
theorem zPS (xs:List Int) (wd hi:Int):jZ xs wd hi≤64:=by
 unfold jZ
 split
 ·rename_i h
  rcases zFT xs wd hi with ⟨-,hE⟩ | ⟨a,b,rfl,rfl,h1,h2,h3,h4, -, -⟩
  ·rw[hE] at h;cases h
  ·unfold yH
   have:(a+7)/8≤8:=by omega
   have:(b+7)/8≤8:=by omega
   exact wI6 (by simpa using ‹(a+7)/8≤8›) (by simpa using this)
 ·omega
theorem zIl (wd hi:Int): ∀ (R:List (List Int)) (k:Nat),zAa wd hi (R.take k)≤k*64
 | _,0=>by simp[zAa]
 | [],k+1=>by simp[zAa]
 | l::R,k+1=>by
   have:=zIl wd hi R k
   have:=zPS l wd hi
   unfold zAa at *
   rw[wJ9,wC8,wJ7]
   omega
def tto:Int→Int→Int→Four:=fun r g b=>zAN toM [r,g,b]
theorem tto_by:zGG 39 tto:=fun a b c w=>zSO a b c w
theorem goesTo:zAd Tryz.prog 39:=⟨_,Tryz.func39,rfl,rfl⟩
theorem zJm: ∀ (l:List Int),zAn l=0→ ∀ e∈l,e=0
 | [],_,_,h=>by cases h
 | e::r,h,x,hx=>by
   unfold zAn at h
   by_cases h0:e=0
   ·rw[if_pos h0] at h
    rcases wK0.1 hx with rfl | hx
    ·exact h0
    ·exact zJm r h x hx
   ·rw[if_neg h0] at h;exact absurd h h0
theorem picE_ok {wd hi:Int} {L:List (List Int)} (h:zDQ wd hi L=0):(L.length=1∨L.length=3)∧ ∃ N,N≤1000000∧ ∀ l∈L,l.length=N:=by
 unfold zDQ at h
 by_cases h0:xP wd hi=0
 ·rw[if_pos h0] at h
  by_cases h1:L.length=1∨L.length=3
  ·rw[if_pos h1] at h
   obtain⟨a,b,rfl,rfl,a1,a2,b1,b2⟩:=zHF h0
   refine⟨h1,a*b,wD1 (wI6 a2 b2) (by omega),fun l hl=> ?_⟩
   have he:=zJm _ h (uT l a b) (wD6.2 ⟨l,hl,rfl⟩)
   rcases zFT l a b with ⟨-,hE⟩ | ⟨a',b',ea,eb, -, -, -, -, -,⟨hl',hE⟩ | ⟨hl',hq,hE⟩ | ⟨hl',hq,hE⟩⟩
   ·rw[hE] at he;cases he
   ·rw[hE] at he;cases he
   ·rw[hE] at he;cases he
   ·obtain rfl:a=a':=by omega
    obtain rfl:b=b':=by omega
    exact hl'
  ·rw[if_neg h1] at h;cases h
 ·rw[if_neg h0] at h;cases h
def yB (wd hi:Int) (L:List (List Int)) (q:List Int):Int×Nat×List Int :=
 if zDQ wd hi L=0 then (if zM q 1 255 then (0,zAa wd hi (zBx tto L),zBB q wd hi (zBx tto L)) else (1,0,[])) else (zDQ wd hi L,0,[])
def FrmIs (z:Int×Nat×List Int) (w:World) (e:Ending) (w':World):Prop:= ∃ A c,e=.returned (.tuple #[.slice A z.2.1 c,.int .i64 z.1])∧SL w' 64 (.slice A z.2.1 c) z.2.1 (ints z.2.2)∧Ext w w'
theorem FrmIs.err {z:Int×Nat×List Int} {w w':World} {E:Int} (h:z=(E,0,[])) (hx:Ext w w'):FrmIs z w (.returned (.tuple #[.slice none 0 0,.int .i64 E])) w':=by
 subst h
 exact⟨none,0,rfl,SL.nil w' 64,hx⟩
theorem zRE (wd hi:Int) (L:List (List Int)) (A:Option Addr) (n c:Nat) (q:List Int) (hq:q.length=64) (w:World) (hr:RowsS w A n c L) (hE:zDQ wd hi L≠0) :
 Calls Tryz.prog 13 #[.agg (xE wd hi (.slice A n c)),.agg (bv q)] w (FrmIs (yB wd hi L q) w):=by
 have HC:=zA (fun W (hx:Ext w W)=>zKN wd hi L A n c W (hr.ext hx))
 have HE:Hid (∀ W,Ext w W→FrmIs (yB wd hi L q) w (.returned (.tuple #[.slice none 0 0,.int .i64 (zDQ wd hi L)])) W):=zA (fun W hx=>FrmIs.err (by unfold yB;rw[if_neg hE]) hx)
 generalize yB wd hi L q=fz at *
 generalize zDQ wd hi L=E at *
 have hps:=zA (vT wd hi (.slice A n c))
 generalize xE wd hi (.slice A n c)=pv at *
 generalize bv q=qv at *
 clear hr
 go_enter Tryz.func13,Tryz.ntmps13
 go_wp2_with (first
  | ((with_reducible apply gS 2);refine wBox rfl 31 (.tmp 0) rfl pv rfl ?_;intro w1 g1 hb1 hx1 hg1)
  | ((with_reducible apply gS 3);refine wBox rfl 33 (.tmp 1) rfl qv rfl ?_;intro w2 g2 hb2 hx2 hg2;have hb12:=hb1.ext hx2;have hx12:=hx1.trans hx2)
  | ((with_reducible apply gS 14);refine wLdB rfl 31 (.tmp 2) rfl g1 rfl hb12 _ Tryz.underlying31 rfl 3 jW hps.out ?_)
  | (go_at_call 29;(with_reducible refine (HC.out _ hx12).mono ?_);rintro e w3 ⟨rfl,hx3⟩)
  | ((with_reducible apply gS 17);refine zB rfl (.bool false) (zAP rfl rfl rfl (by simpa using hE)) ?_)
  | ((with_reducible apply gS 21);refine zB rfl (.bool true) (zAL rfl rfl rfl (by simpa using hE)) ?_))
 go_ret2
 exact HE.out _ (hx12.trans hx3)
theorem zOj (wd hi:Int) (L:List (List Int)) (A:Option Addr) (n c:Nat) (q:List Int) (hq:q.length=64) (w:World) (hr:RowsS w A n c L) (hE:zDQ wd hi L=0) (hqq:zM q 1 255=false) :
 Calls Tryz.prog 13 #[.agg (xE wd hi (.slice A n c)),.agg (bv q)] w (FrmIs (yB wd hi L q) w):=by
 have HC:=zA (fun W (hx:Ext w W)=>zKN wd hi L A n c W (hr.ext hx))
 rw[hE] at HC
 have HE:Hid (∀ W,Ext w W→FrmIs (yB wd hi L q) w (.returned (.tuple #[.slice none 0 0,.int .i64 1])) W):=zA (fun W hx=>FrmIs.err (by unfold yB;rw[if_pos hE,hqq];rfl) hx)
 have HQ:=zA (fun W=>zBt q W hq)
 rw[hqq,if_neg (by decide)] at HQ
 generalize yB wd hi L q=fz at *
 have hps:=zA (vT wd hi (.slice A n c))
 have hqs:=zA ((zJ q).trans hq)
 generalize xE wd hi (.slice A n c)=pv at *
 generalize bv q=qv at *
 clear hr hE
 go_enter Tryz.func13,Tryz.ntmps13
 go_wp2_with (first
  | ((with_reducible apply gS 2);refine wBox rfl 31 (.tmp 0) rfl pv rfl ?_;intro w1 g1 hb1 hx1 hg1)
  | ((with_reducible apply gS 3);refine wBox rfl 33 (.tmp 1) rfl qv rfl ?_;intro w2 g2 hb2 hx2 hg2;have hb12:=hb1.ext hx2;have hx12:=hx1.trans hx2)
  | ((with_reducible apply gS 14);refine wLdB rfl 31 (.tmp 2) rfl g1 rfl hb12 _ Tryz.underlying31 rfl 3 jW hps.out ?_)
  | (go_at_call 29;(with_reducible refine (HC.out _ hx12).mono ?_);rintro e w3 ⟨rfl,hx3⟩;have hb23:=hb2.ext hx3;have hx13:=hx12.trans hx3)
  | ((with_reducible apply gS 18);refine wLdB rfl 33 (.tmp 3) rfl g2 rfl hb23 _ Tryz.underlying33 rfl 64 zG hqs.out ?_)
  | (go_at_call 15;(with_reducible refine (HQ.out _).mono ?_);rintro e w4 ⟨rfl,hx4⟩))
 go_ret2
 exact HE.out _ (hx13.trans hx4)
theorem zQA (wd hi:Int) (L:List (List Int)) (A:Option Addr) (n c:Nat) (q:List Int) (hq:q.length=64) (w:World) (hr:RowsS w A n c L) (hE:zDQ wd hi L=0) (hqq:zM q 1 255=true) :
 Calls Tryz.prog 13 #[.agg (xE wd hi (.slice A n c)),.agg (bv q)] w (FrmIs (yB wd hi L q) w):=by
 have HC:=zA (fun W (hx:Ext w W)=>zKN wd hi L A n c W (hr.ext hx))
 rw[hE] at HC
 obtain⟨hL,N,hN,hNl⟩:=picE_ok hE
 have HT:=zA (fun W (hx:Ext w W)=>zTO 39 tto tto_by goesTo A n c L N W hL hNl hN (hr.ext hx))
 have hR3:=zNu tto L hL
 have HZ:Hid (yB wd hi L q=(0,zAa wd hi (zBx tto L),zBB q wd hi (zBx tto L))):=zA (by unfold yB;rw[if_pos hE,hqq];rfl)
 have HQ:=zA (fun W=>zBt q W hq)
 rw[hqq,if_pos rfl] at HQ
 unfold TurnIs at HT
 have HCU:=zA (fun (l:List Int) v W (h:SL W 1 v l.length (ints l))=>cut_anyF l v wd hi W h)
 unfold CutFr at HCU
 have HWA:=zA (fun (b:List Int) W (h:b.length=64)=>zTK b W h)
 have HDW:=zA (fun (b:List Int) W (h:b.length=64)=>down_any b q W h hq)
 have HQL:=zA hq
 generalize zBx tto L=R at *
 generalize yB wd hi L q=fz at *
 have hps:=zA (vT wd hi (.slice A n c))
 have hqs:=zA ((zJ q).trans hq)
 have HPC:=zA (fun (W:World) g (h:Blk W g 31 (xE wd hi (.slice A n c)))=>zAi h)
 generalize xE wd hi (.slice A n c)=pv at *
 have HQV:Hid (bv q=bv q):=zA rfl
 generalize hqv:bv q=qv at *
 clear hr hE hL hNl hN HQV
 go_enter Tryz.func13,Tryz.ntmps13
 go_upto_region 8 with (first
  | ((with_reducible apply gS 2);refine wBox rfl 31 (.tmp 0) rfl pv rfl ?_;intro w1 g1 hb1 hx1 hg1)
  | ((with_reducible apply gS 3);refine wBox rfl 33 (.tmp 1) rfl qv rfl ?_;intro w2 g2 hb2 hx2 hg2;have hb12:=hb1.ext hx2;have hx12:=hx1.trans hx2)
  | ((with_reducible apply gS 14);refine wLdB rfl 31 (.tmp 2) rfl g1 rfl hb12 _ Tryz.underlying31 rfl 3 jW hps.out ?_)
  | (go_at_call 29;(with_reducible refine (HC.out _ hx12).mono ?_);rintro e w3 ⟨rfl,hx3⟩;have hb13:=hb12.ext hx3;have hb23:=hb2.ext hx3;have hx13:=hx12.trans hx3)
  | ((with_reducible apply gS 18);refine wLdB rfl 33 (.tmp 3) rfl g2 rfl hb23 _ Tryz.underlying33 rfl 64 zG hqs.out ?_)
  | (go_at_call 15;(with_reducible refine (HQ.out _).mono ?_);rintro e w4 ⟨rfl,hx4⟩;have hb14:=hb13.ext hx4;have hb24:=hb23.ext hx4;have hx14:=hx13.trans hx4;have hpc:=HPC.out _ _ hb14)
  | ((with_reducible apply gS 24);refine yY rfl (.slice A n c) (zEH rfl rfl hpc.2.2) ?_)
  | (go_at_call 38;(with_reducible refine (HT.out _ hx14).mono ?_);rintro e w5 ⟨TA,m,tc,rfl,hrows,hx5⟩;have hb15:=hb14.ext hx5;have hb25:=hb24.ext hx5;have hx15:=hx14.trans hx5))
 have hRm:=hrows.len
 have HRW:=zA hrows
 have hm3:m≤3:=by omega
 have own0:w5.ownsRow w5.heap.size 33 64 (.slice none 0 0) 0 (ints (zBB q wd hi (R.take 0))):=zAl _ _ _ _
 have hg1':g1<w5.heap.size:=hb15.lt
 have hg2':g2<w5.heap.size:=hb25.lt
 clear hrows hpc
 go_loopw [7,27] (fun ov iv wr=> ∃ (k:Nat) (OA:Option Addr) (on oc:Nat),k≤m∧iv=.int .i64 (k:Int)∧ov=.slice OA on oc∧Hid (on=zAa wd hi (R.take k))∧wr.ownsRow w5.heap.size 33 64 (.slice OA on oc) on (ints (zBB q wd hi (R.take k)))∧Blk wr g1 31 pv∧Blk wr g2 33 qv∧Ext w5 wr∧Ext w wr) (fun _ i _=>m-(intOf i).toNat)
 case atStart=>exact⟨0,none,0,0,by omega,rfl,rfl,zA rfl,own0,hb15,hb25,Ext.refl _,hx15⟩
 case round =>
  clear own0 hb15 hb25 hx15
  obtain⟨k,OA,on,oc,hk,rfl,rfl,hon,ho,hb1,hb2,hx5r,hx⟩:=hrel
  by_cases hkm:k<m
  ·obtain⟨ad,l,LA,ld,rfl,hRk,hab,hcell,hsl⟩:=HRW.out.get hkm
   have hcl:wr.cell? (ad.add (k*1))=some (.slice LA l.length ld):=by rw[wF1,(hx5r.cell (by rw[yK];exact hab)).trans hcell]
   have hsl':=hsl.ext hx5r
   have hfn:=zA (zRt wd hi R k l hRk)
   have hfz:=zA (zRH q wd hi R k l hRk)
   have hon64:on≤192:=by have:=zIl wd hi R k;rw[←hon.out] at this;omega
   have hcle:=zPS l wd hi
   have HCl:=zA (HCU.out l (.slice LA l.length ld) wr hsl')
   have hcz:=cutRZ_len l wd hi
   have hpc:=HPC.out _ _ hb1
   generalize jZ l wd hi=cn at *
   generalize zBI l wd hi=CZ at *
   generalize l.length=ll at *
   generalize uT l wd hi=ce at *
   clear hcell hsl hsl' hRk
   go_upto_region 12 with (first
    | ((with_reducible apply gS 29);refine zB rfl (.pointer (some (ad.add (k*1)))) (qS (i:=k) Tryz.underlying29 uK rfl rfl rfl hkm) ?_)
    | ((with_reducible apply gS 30);refine yY rfl (.slice LA ll ld) (jX rfl rfl hcl) ?_)
    | ((with_reducible apply gS 34);refine yY rfl (.int .i64 wd) (zQ rfl rfl hpc.1) ?_)
    | ((with_reducible apply gS 36);refine yY rfl (.int .i64 hi) (zQ rfl rfl hpc.2.1) ?_)
    | (go_at_call 40;(with_reducible refine HCl.out.mono ?_);rintro e w6 ⟨CA,cc,rfl,hcs,hx6,hfr⟩;have ho6:=yO ho hx6;have hb16:=hb1.ext hx6;have hb26:=hb2.ext hx6;have hx56:=hx5r.trans hx6;have hx06:=hx.trans hx6))
   have hne0: ∀ ad,CA=some ad→(Value.slice OA (on+0) oc).ownBlock≠some ad.block:=fun ad e q=>by have:=hfr ad e;have:=(ho.lt ad.block (by simpa using q)).2;omega
   have own1:w6.ownsRow w5.heap.size 33 64 (.slice OA on oc) (on+0) (ints (zBB q wd hi (R.take k)++jQ q CZ 0)):=by simpa [jQ] using ho6
   clear ho hb1 hb2 hx hcl hpc
   go_loopw [7,42] (fun ov iv wr=> ∃ (j:Nat) (OA:Option Addr) (oc:Nat),j≤cn∧iv=.int .i64 (j:Int)∧ov=.slice OA (on+j) oc∧wr.ownsRow w5.heap.size 33 64 (.slice OA (on+j) oc) (on+j) (ints (zBB q wd hi (R.take k)++jQ q CZ j))∧SL wr 64 (.slice CA cn cc) cn (ints CZ)∧(∀ ad,CA=some ad→(Value.slice OA (on+j) oc).ownBlock≠some ad.block)∧Blk wr g1 31 pv∧Blk wr g2 33 qv∧Ext w5 wr∧Ext w wr) (fun _ i _=>cn-(intOf i).toNat)
   case atStart=>exact⟨0,OA,oc,by omega,rfl,rfl,own1,hcs,hne0,hb16,hb26,hx56,hx06⟩
   case round =>
    clear own1 ho6 hb16 hb26 hx06 hx56 hx5r hcs hne0
    obtain⟨j,OA,oc,hj,rfl,rfl,ho,hcs,hne,hb1,hb2,hx5r,hx⟩:=hrel
    by_cases hjc:j<cn
    ·obtain⟨bd,hbd,hbb,hca⟩:=hcs.part hjc
     have hca':zAS wr (bd.add (j*64)) (ints (qH CZ j)):=by
      have e:((ints CZ).drop (j*64)).take 64=ints (qH CZ j):=by unfold ints qH;rw[List.map_drop.symm,List.map_take.symm]
      rw[←e]
      exact hca
     obtain rfl:=hbd
     have hpl:(qH CZ j).length=64:=by unfold qH;rw[wI8,wK1,hcz];omega
     have HMB:Hid (jQ q CZ (j+1)=jQ q CZ j++zDc (qH CZ j) q):=zA (by rw[jQ])
     have HBF:Hid (zDc (qH CZ j) q=(jF zBw (vD toC (qH CZ j)).1 q 40000).1):=zA rfl
     have hBL:=zGy (qH CZ j) q HQL.out
     generalize qH CZ j=P at *
     have HW:=zA (fun W=>HWA.out P W hpl)
     have hwl:=zBn toC P
     have HD:=zA (fun W=>HDW.out (vD toC P).1 W hwl)
     rw[←HBF.out] at HD
     generalize (vD toC P).1=P2 at *
     generalize (vD toC P).2=ew at *
     generalize (jF zBw P2 q 40000).2=ed at *
     generalize hP3:zDc P q=P3 at *
     clear hca hP3 HBF
     have s1:=zA ((zJ P).trans hpl)
     have s2:=zA ((zJ P2).trans hwl)
     have s3:=zA ((zJ P3).trans hBL)
     have o1:=zA (xK P)
     have o2:=zA (xK P2)
     have o3:=zA (xK P3)
     have hipl:(ints P).length=64:=by rw[yA,hpl]
     have hzs:Hid ((Value.agg (bv yG)).cells.size=64):=zA zero48c
     go_wp2_with (first
      | ((with_reducible apply gS 44);refine zB rfl (.pointer (some (bd.add (j*64)))) (qS (i:=j) Tryz.underlying25 zG rfl rfl rfl hjc) ?_)
      | ((with_reducible apply gS 45);refine yW (by rfl) 33 (.tmp 44) rfl (bd.add (j*64)) rfl (ints P) _ hca' Tryz.underlying33 rfl (by rw[hipl];exact zG) ?_)
      | ((with_reducible apply gS 13);refine wAlo' rfl (some 13) rfl 33 rfl _ qY ?_;intro w8 g8 hb8 hx8 hg8;have h18:=hb1.ext hx8;have h28:=hb2.ext hx8;have ho8:=yO ho hx8)
      | ((with_reducible apply gT 13 45);refine wStB rfl 33 (.tmp 13) (.tmp 45) rfl g8 (bv P) rfl rfl hb8 64 zG s1.out hzs.out o1.out ?_;intro w9 hb9 hg9;have hx9:=hx8.grown hg9 hg8)
      | ((with_reducible apply gS 47);refine wLdB rfl 33 (.tmp 13) rfl g8 rfl hb9 _ Tryz.underlying33 rfl 64 zG s1.out ?_)
      | (go_at_call 41;(with_reducible refine (HW.out _).mono ?_);rintro e w10 ⟨rfl,hx10⟩;have hb10:=hb9.ext hx10;have hxa:=hx9.trans hx10)
      | ((with_reducible apply gT 13 49);refine wStB rfl 33 (.tmp 13) (.tmp 49) rfl g8 (bv P2) rfl rfl hb10 64 zG s2.out s1.out o2.out ?_;intro w11 hb11 hg11;have hxb:=hxa.grown hg11 hg8;have hq11:=hb2.ext hxb)
      | ((with_reducible apply gS 52);refine wLdB rfl 33 (.tmp 13) rfl g8 rfl hb11 _ Tryz.underlying33 rfl 64 zG s2.out ?_)
      | ((with_reducible apply gS 53);refine wLdB rfl 33 (.tmp 3) rfl g2 rfl hq11 _ Tryz.underlying33 rfl 64 zG hqs.out ?_)
      | (go_at_call 42;(with_reducible refine (HD.out _).mono ?_);rintro e w12 ⟨rfl,hx12'⟩;have hb12':=hb11.ext hx12';have hxc:=hxb.trans hx12')
      | ((with_reducible apply gT 13 55);refine wStB rfl 33 (.tmp 13) (.tmp 55) rfl g8 (bv P3) rfl rfl hb12' 64 zG s3.out s2.out o3.out ?_;intro w13 hb13' hg13;have hxd:=hxc.grown hg13 hg8)
      | ((with_reducible apply gS 58);refine wLdB rfl 33 (.tmp 13) rfl g8 rfl hb13' _ Tryz.underlying33 rfl 64 zG s3.out ?_)
      | ((with_reducible apply gS 59);refine wLit1 rfl 25 33 (.tmp 58) rfl (some 59) rfl Tryz.underlying25 64 zG zero48' (.agg (bv P3)) rfl s3.out (by omega) (by omega) ?_;intro w14 g14 hb14' hx14' hg14;have hxe:=hxd.trans hx14';have ho14:=yO ho hxe)
      | ((with_reducible apply gS 60);refine wApf zMT rfl (.tmp 57) (.tmp 59) rfl w5.heap.size (.slice OA (on+j) oc) (on+j) (ints (zBB q wd hi (R.take k)++jQ q CZ j)) rfl ho14 _ 1 (ints P3) rfl (blk_sl1 hb14' hBL) (jC P3) (by omega) (by omega) (hx5r.trans hxe).size ?_;intro A15 c15 w15 ho15 hg15 hr15;have hug:=zN hg15))
     have hlo:=ho14.lt
     have hBx: ∀ y,(Value.slice OA (on+j) oc).ownBlock=some y→w5.heap.size≤y:=fun y hy=>(hlo y hy).1
     have hb1z:=hb1.ext hxe
     have hb2z:=hb2.ext hxe
     go_roundw
     case rel =>
      refine⟨j+1,A15,c15,by omega,by go_num,by rw[wA0], ?_, ?_⟩
      ·rw[HMB.out, ←wG2,zAF]
       exact ho15
      ·have hx5z:=Below.grown (hx5r.trans hxe) hg15 (hx5r.trans hxe).size (fun y hy=>hBx y hy)
       have hxz:=Below.grown (hx.trans hxe) hg15 (hx.trans hxe).size (fun y hy=>by have:=hBx y hy;have:=hx5r.size;have:=hg1';omega)
       refine⟨(hcs.ext hxe).upd0 hug (fun _ ad' e q=>hne ad' e q),fun ad' e q=> ?_,hug.blk hb1z (fun q=>by have:=hBx _ q;have:=hg1';omega),hug.blk hb2z (fun q=>by have:=hBx _ q;have:=hg2';omega),hx5z,hxz⟩
       rw[zBo] at q
       rcases hr15 with h | h
       ·rw[h] at q
        exact hne ad' e q
       ·rw[h] at q
        injection q with q
        injection e with e
        subst e
        have:=hxe.size
        omega
     case measure=>simp[intOf];omega
    ·obtain rfl:j=cn:=by omega
     go_wp2_with fail
     go_roundw
     case rel=>exact⟨k+1,OA,on+j,oc,by omega,by go_num,rfl,zA (by rw[hfn.out,hon.out]),by rw[hfz.out];exact ho,hb1,hb2,hx5r,hx⟩
     case measure=>simp[intOf];omega
  ·obtain rfl:k=m:=by omega
   rw[←hRm,wJ3] at hon ho
   go_wp2_with fail
   go_ret2
   rw[HZ.out]
   refine⟨OA,oc, ?_, ?_,hx⟩
   ·rw[←hon.out];rfl
   ·show SL wr 64 (.slice OA (zAa wd hi R) oc) (zAa wd hi R) _
    rw[←hon.out]
    exact (jK ho).1
theorem zDx (wd hi:Int) (L:List (List Int)) (A:Option Addr) (n c:Nat) (q:List Int) (hq:q.length=64) (w:World) (hr:RowsS w A n c L) :
 Calls Tryz.prog 13 #[.agg (xE wd hi (.slice A n c)),.agg (bv q)] w (FrmIs (yB wd hi L q) w):=by
 by_cases hE:zDQ wd hi L=0
 ·cases hqq:zM q 1 255 with
  | false=>exact zOj wd hi L A n c q hq w hr hE hqq
  | true=>exact zQA wd hi L A n c q hq w hr hE hqq
 ·exact zRE wd hi L A n c q hq w hr hE
theorem zRo (wd hi:Int) (L:List (List Int)) (q:List Int) (hq:q.length=64):(yB wd hi L q).2.2.length=(yB wd hi L q).2.1*64:=by
 unfold yB
 split
 ·split
  ·exact zKu q hq wd hi _
  ·rfl
 ·rfl
abbrev Tok:=Int×Int×Int
def qA (t:Tok):List Value:=[.int .i64 t.1,.int .i64 t.2.1,.int .i64 t.2.2]
def qM (T:List Tok):List Value:=T.flatMap qA
theorem zKb (T:List Tok):(qM T).length=T.length*3:=by
 induction T with
 | nil=>rfl
 | cons t T ih=>simp only[qM,wJ6,wF3] at ih ⊢;rw[ih];simp[qA];omega
theorem toks_at (T:List Tok) (k:Nat) (h:k<T.length) :
 (qM T)[k*3]? =some (.int .i64 T[k].1)∧(qM T)[k*3+1]? =some (.int .i64 T[k].2.1)∧(qM T)[k*3+2]? =some (.int .i64 T[k].2.2):=by
 induction T generalizing k with
 | nil=>simp at h
 | cons t T ih =>
   have e:qM (t::T)=qA t++qM T:=by simp[qM]
   rw[e]
   cases k with
   | zero=>simp[qA]
   | succ k =>
     have h2:k<T.length:=by simpa using h
     obtain⟨a,b,c⟩:=ih k h2
     refine⟨?_, ?_, ?_⟩
     ·rw[wG8 (by simp[qA];omega),show (k+1)*3-(qA t).length=k*3 by simp[qA];omega,a];simp
     ·rw[wG8 (by simp[qA];omega),show (k+1)*3+1-(qA t).length=k*3+1 by simp[qA];omega,b];simp
     ·rw[wG8 (by simp[qA];omega),show (k+1)*3+2-(qA t).length=k*3+2 by simp[qA];omega,c];simp
theorem zNm (ad:Addr) (i j:Nat) (hj:0<j):(⟨(ad.add i).block,(ad.add i).off+j,none⟩:Addr)=ad.add (i+j):=by
 unfold Addr.add
 rw[if_neg (show ¬i+j=0 by omega)]
 split
 ·next h=>subst h;simp
 ·simp;omega
theorem SL.tok {w:World} {A:Option Addr} {n c:Nat} {T:List Tok} {k:Nat} (h:SL w 3 (.slice A n c) n (qM T)) (hk:k<n) (hn:T.length=n) (hkl:k<T.length) :
 ∃ ad,A=some ad∧ad.block<w.heap.size∧w.cell? (ad.add (k*3))=some (.int .i64 T[k].1)∧w.cell? ⟨(ad.add (k*3)).block,(ad.add (k*3)).off+1,none⟩=some (.int .i64 T[k].2.1)∧w.cell? ⟨(ad.add (k*3)).block,(ad.add (k*3)).off+2,none⟩=some (.int .i64 T[k].2.2):=by
 obtain⟨A',c',e,_,_,h2,h3⟩:=h
 injection e with e1 e2 e3
 subst e1
 obtain⟨ad,ea,hb,hc⟩:=h3 (by omega)
 obtain⟨a,b,d⟩:=toks_at T k hkl
 exact⟨ad,ea,hb,hc _ _ a,by rw[zNm _ _ 1 (by omega)];exact hc _ _ b,by rw[zNm _ _ 2 (by omega)];exact hc _ _ d⟩
end Go.Proofs.YtkggcjdlpendfaaGreatDoor
namespace Go.Proofs
set_option linter.all false
set_option maxRecDepth 20000
set_option maxHeartbeats 8000000
open Go.Shelf
def Tryz.lays125_ren:Go.Shelf.Ren:=⟨fun | 125=>221 | 128=>224 | 129=>225 | n=>n,fun | 46=>116 | 3=>3 | 51=>261 | 53=>201 | 4=>4 | 5=>5 | 9=>9 | n=>n,fun | n=>n⟩
theorem Tryz.lays125:Go.Proofs.Lays.n125 Tryz.prog Tryz.lays125_ren:={
 mixed:=by kernel_rfl
 f125:=Tryz.func221.trans (congrArg some (by kernel_rfl))
 f128:=Tryz.func224.trans (congrArg some (by kernel_rfl))
 f129:=Tryz.func225.trans (congrArg some (by kernel_rfl))
 t3:=Tryz.underlying3
 a3:=Tryz.isAgg3
 z3:=Tryz.sizeOf3
 v3:=Tryz.zeroValue3
 t4:=Tryz.underlying4
 a4:=Tryz.isAgg4
 z4:=Tryz.sizeOf4
 v4:=Tryz.zeroValue4
 t5:=Tryz.underlying5
 a5:=Tryz.isAgg5
 z5:=Tryz.sizeOf5
 v5:=Tryz.zeroValue5
 t9:=Tryz.underlying9
 a9:=Tryz.isAgg9
 z9:=Tryz.sizeOf9
 v9:=Tryz.zeroValue9
 t46:=Tryz.underlying116
 a46:=Tryz.isAgg116
 z46:=Tryz.sizeOf116
 v46:=Tryz.zeroValue116
 t51:=Tryz.underlying261
 a51:=Tryz.isAgg261
 z51:=Tryz.sizeOf261
 v51:=Tryz.zeroValue261
 t53:=Tryz.underlying201
 a53:=Tryz.isAgg201
 z53:=Tryz.sizeOf201
 v53:=Tryz.zeroValue201 }
theorem Tryz.bits_Len (x:Int) (w:World) (h0:0≤x) (h1:x≤18446744073709551615) :
 Calls Tryz.prog 221 #[.int .u64 x] w fun e w'=>e=.returned (.int .i64 (Lib.bitLen x.toNat))∧w'=w:=Any.bits_Len Tryz.lays125 x w h0 h1
open Go.RowKit Go.Lib in

open Go.RowKit Go.Lib in

open Go.RowKit Go.Lib in

open Go.RowKit Go.Lib in

open Go.RowKit Go.Lib in

open Go.RowKit Go.Lib in

open Go.RowKit Go.Lib in

open Go.RowKit Go.Lib in

open Go.RowKit Go.Lib in

open Go.RowKit Go.Lib in

open Go.RowKit Go.Lib in

def Tryz.lays185_ren:Go.Shelf.Ren:=⟨fun | 185=>178 | 187=>200 | 115=>85 | 253=>201 | 224=>202 | 254=>203 | 255=>213 | 291=>214 | n=>n,fun | 37=>45 | 3=>3 | 4=>4 | 0=>0 | 5=>5 | 46=>116 | 9=>9 | 146=>262 | 51=>261 | n=>n,fun | 1=>0 | n=>n⟩
theorem Tryz.lays185:Go.Proofs.Lays.n185 Tryz.prog Tryz.lays185_ren:={
 mixed:=by kernel_rfl
 f115:=Tryz.func85.trans (congrArg some (by kernel_rfl))
 f185:=Tryz.func178.trans (congrArg some (by kernel_rfl))
 f187:=Tryz.func200.trans (congrArg some (by kernel_rfl))
 f224:=Tryz.func202.trans (congrArg some (by kernel_rfl))
 f253:=Tryz.func201.trans (congrArg some (by kernel_rfl))
 f254:=Tryz.func203.trans (congrArg some (by kernel_rfl))
 f255:=Tryz.func213.trans (congrArg some (by kernel_rfl))
 f291:=Tryz.func214.trans (congrArg some (by kernel_rfl))
 t0:=Tryz.underlying0
 a0:=Tryz.isAgg0
 z0:=Tryz.sizeOf0
 v0:=Tryz.zeroValue0
 t3:=Tryz.underlying3
 a3:=Tryz.isAgg3
 z3:=Tryz.sizeOf3
 v3:=Tryz.zeroValue3
 t4:=Tryz.underlying4
 a4:=Tryz.isAgg4
 z4:=Tryz.sizeOf4
 v4:=Tryz.zeroValue4
 t5:=Tryz.underlying5
 a5:=Tryz.isAgg5
 z5:=Tryz.sizeOf5
 v5:=Tryz.zeroValue5
 t9:=Tryz.underlying9
 a9:=Tryz.isAgg9
 z9:=Tryz.sizeOf9
 v9:=Tryz.zeroValue9
 t37:=Tryz.underlying45
 a37:=Tryz.isAgg45
 z37:=Tryz.sizeOf45
 v37:=Tryz.zeroValue45
 t46:=Tryz.underlying116
 a46:=Tryz.isAgg116
 z46:=Tryz.sizeOf116
 v46:=Tryz.zeroValue116
 t51:=Tryz.underlying261
 a51:=Tryz.isAgg261
 z51:=Tryz.sizeOf261
 v51:=Tryz.zeroValue261
 t146:=Tryz.underlying262
 a146:=Tryz.isAgg262
 z146:=Tryz.sizeOf262
 v146:=Tryz.zeroValue262
 g1:=by kernel_rfl }
open Go.RowKit Go.Lib in

open Go.RowKit Go.Lib in

open Go.RowKit Go.Lib in

open Go.RowKit Go.Lib in

open Go.RowKit Go.Lib in

def Tryz.laysSlB13_ren:Go.Shelf.Ren:=⟨fun | 13=>177 | 24=>198 | 25=>199 | 12=>178 | 31=>212 | 19=>200 | 20=>85 | 21=>201 | 22=>202 | 23=>203 | 29=>213 | 30=>214 | n=>n,fun | 22=>45 | 3=>3 | 4=>4 | 0=>0 | 5=>5 | 9=>9 | 33=>116 | 40=>262 | 39=>261 | n=>n,fun | 0=>0 | n=>n⟩
theorem Tryz.laysSlB13:Go.Proofs.SlLaysB.n13 Tryz.prog Tryz.laysSlB13_ren:={
 mixed:=by kernel_rfl
 f13:=Tryz.func177.trans (congrArg some (by kernel_rfl))
 f25:=Tryz.func199.trans (congrArg some (by kernel_rfl))
 t0:=Tryz.underlying0
 a0:=Tryz.isAgg0
 z0:=Tryz.sizeOf0
 v0:=Tryz.zeroValue0
 t3:=Tryz.underlying3
 a3:=Tryz.isAgg3
 z3:=Tryz.sizeOf3
 v3:=Tryz.zeroValue3
 t4:=Tryz.underlying4
 a4:=Tryz.isAgg4
 z4:=Tryz.sizeOf4
 v4:=Tryz.zeroValue4
 t5:=Tryz.underlying5
 a5:=Tryz.isAgg5
 z5:=Tryz.sizeOf5
 v5:=Tryz.zeroValue5
 t22:=Tryz.underlying45
 a22:=Tryz.isAgg45
 z22:=Tryz.sizeOf45
 v22:=Tryz.zeroValue45 }
open Go.RowKit Go.Lib in

open Go.RowKit Go.Lib in

theorem Tryz.bytes_Count_one_at (a:Addr) (n c b2 o2 d:Nat) (xs:List Int) (cv:Int) (w:World) (hx:xs.length=n) (hc: ∀ i,i<n→w.cell? (a.add i)=some (.int .u8 (xs.getD i 0))) (hc2:w.cell? ⟨b2,o2,none⟩=some (.int .u8 cv)) :
 Calls Tryz.prog 177 #[.slice (some a) n c,.slice (some ⟨b2,o2,none⟩) 1 d] w fun e w'=>e=.returned (.int .i64 (Lib.countByte (Lib.bytesOf xs) cv.toNat.toUInt8))∧w'=w:=Any.bytes_Count_one_at Tryz.laysSlB13 a n c b2 o2 d xs cv w hx hc hc2
open Go.RowKit Go.Lib in

theorem Tryz.bytes_Count_one_nil (b2 o2 d:Nat) (cv:Int) (w:World) (hc2:w.cell? ⟨b2,o2,none⟩=some (.int .u8 cv)) :
 Calls Tryz.prog 177 #[.slice none 0 0,.slice (some ⟨b2,o2,none⟩) 1 d] w fun e w'=>e=.returned (.int .i64 0)∧w'=w:=Any.bytes_Count_one_nil Tryz.laysSlB13 b2 o2 d cv w hc2
open Go.RowKit Go.Lib in

open Go.RowKit Go.Lib in

open Go.Proofs Go.RowKit Go.Lib in

open Go.Proofs Go.RowKit Go.Lib in

open Go.RowKit Go.Lib in

open Go.RowKit Go.Lib in

open Go.RowKit Go.Lib in

open Go.Proofs Go.RowKit Go.Lib in

theorem Tryz.bytes_Index_at (a1 a2:Addr) (n c1 k c2:Nat) (xs ys:List Int) (m:Int) (w:World) (hx:xs.length=n) (hy:ys.length=k) (hr1: ∀ x∈xs,0≤x∧x<256) (hr2: ∀ y∈ys,0≤y∧y<256) (hc1: ∀ i,i<n→w.cell? (a1.add i)=some (.int .u8 (xs.getD i 0))) (hc2: ∀ i,i<k→w.cell? (a2.add i)=some (.int .u8 (ys.getD i 0))) (hcap:n≤c1) (hs:n<4294967281) (hk:k≤9223372036854775807) (hm:w.cell? ⟨0,0,none⟩=some (.int .i64 m)) :
 Calls Tryz.prog 178 #[.slice (some a1) n c1,.slice (some a2) k c2] w fun e w'=>e=.returned (.int .i64 (Lib.index (Lib.bytesOf xs) (Lib.bytesOf ys)))∧ ∃ q,w'=w.drewN q:=Any.bytes_Index_at Tryz.lays185 a1 a2 n c1 k c2 xs ys m w hx hy hr1 hr2 hc1 hc2 hcap hs hk hm
open Go.Proofs Go.RowKit Go.Lib in

open Go.Proofs Go.RowKit Go.Lib in

def Tryz.laysSlC13_ren:Go.Shelf.Ren:=⟨fun | 13=>177 | 24=>198 | 25=>199 | 12=>178 | 31=>212 | 19=>200 | 20=>85 | 21=>201 | 22=>202 | 23=>203 | 29=>213 | 30=>214 | n=>n,fun | 22=>45 | 3=>3 | 4=>4 | 0=>0 | 5=>5 | 9=>9 | 33=>116 | 40=>262 | 39=>261 | n=>n,fun | 0=>0 | n=>n⟩
theorem Tryz.laysSlC13:Go.Proofs.SlLaysC.n13 Tryz.prog Tryz.laysSlC13_ren:={
 mixed:=by kernel_rfl
 f12:=Tryz.func178.trans (congrArg some (by kernel_rfl))
 f13:=Tryz.func177.trans (congrArg some (by kernel_rfl))
 f19:=Tryz.func200.trans (congrArg some (by kernel_rfl))
 f20:=Tryz.func85.trans (congrArg some (by kernel_rfl))
 f21:=Tryz.func201.trans (congrArg some (by kernel_rfl))
 f22:=Tryz.func202.trans (congrArg some (by kernel_rfl))
 f23:=Tryz.func203.trans (congrArg some (by kernel_rfl))
 f25:=Tryz.func199.trans (congrArg some (by kernel_rfl))
 f29:=Tryz.func213.trans (congrArg some (by kernel_rfl))
 f30:=Tryz.func214.trans (congrArg some (by kernel_rfl))
 t0:=Tryz.underlying0
 a0:=Tryz.isAgg0
 z0:=Tryz.sizeOf0
 v0:=Tryz.zeroValue0
 t3:=Tryz.underlying3
 a3:=Tryz.isAgg3
 z3:=Tryz.sizeOf3
 v3:=Tryz.zeroValue3
 t4:=Tryz.underlying4
 a4:=Tryz.isAgg4
 z4:=Tryz.sizeOf4
 v4:=Tryz.zeroValue4
 t5:=Tryz.underlying5
 a5:=Tryz.isAgg5
 z5:=Tryz.sizeOf5
 v5:=Tryz.zeroValue5
 t9:=Tryz.underlying9
 a9:=Tryz.isAgg9
 z9:=Tryz.sizeOf9
 v9:=Tryz.zeroValue9
 t22:=Tryz.underlying45
 a22:=Tryz.isAgg45
 z22:=Tryz.sizeOf45
 v22:=Tryz.zeroValue45
 t33:=Tryz.underlying116
 a33:=Tryz.isAgg116
 z33:=Tryz.sizeOf116
 v33:=Tryz.zeroValue116
 t39:=Tryz.underlying261
 a39:=Tryz.isAgg261
 z39:=Tryz.sizeOf261
 v39:=Tryz.zeroValue261
 t40:=Tryz.underlying262
 a40:=Tryz.isAgg262
 z40:=Tryz.sizeOf262
 v40:=Tryz.zeroValue262
 g0:=by kernel_rfl }
open Go.RowKit Go.Lib in

theorem Tryz.bytes_Count_at (a1 a2:Addr) (n c1 k c2:Nat) (xs ys:List Int) (m:Int) (w:World) (hx:xs.length=n) (hy:ys.length=k) (hr1: ∀ x∈xs,0≤x∧x<256) (hr2: ∀ y∈ys,0≤y∧y<256) (hc1: ∀ i,i<n→w.cell? (a1.add i)=some (.int .u8 (xs.getD i 0))) (hc2: ∀ i,i<k→w.cell? (a2.add i)=some (.int .u8 (ys.getD i 0))) (hcap:n≤c1) (hs:n<4294967281) (hk:k≤9223372036854775807) (h2:2≤k) (hm:w.cell? ⟨0,0,none⟩=some (.int .i64 m)) :
 Calls Tryz.prog 177 #[.slice (some a1) n c1,.slice (some a2) k c2] w fun e w'=>e=.returned (.int .i64 (Lib.count (Lib.bytesOf xs) (Lib.bytesOf ys)))∧ ∃ q,w'=w.drewN q:=Any.bytes_Count_at Tryz.laysSlC13 a1 a2 n c1 k c2 xs ys m w hx hy hr1 hr2 hc1 hc2 hcap hs hk h2 hm
open Go.RowKit Go.Lib in

theorem Tryz.bytes_Count_nil (p2:Option Addr) (k c2:Nat) (w:World) (h2:2≤k) (hk:k≤9223372036854775807) :
 Calls Tryz.prog 177 #[.slice none 0 0,.slice p2 k c2] w fun e w'=>e=.returned (.int .i64 0)∧w'=w:=Any.bytes_Count_nil Tryz.laysSlC13 p2 k c2 w h2 hk
end Go.Proofs
namespace Go.Proofs.YtkggcjdlpendfaaGreatDoor
set_option linter.all false
set_option maxRecDepth 20000
set_option maxHeartbeats 8000000
open Go.RowKit
theorem zSV {P:Program} {f:FuncId} {args:Array Value} {w:World} {v:Value} (h:Calls P f args w fun e w'=>e=.returned v∧w'=w):Calls P f args w fun e w'=>e=.returned v∧w=w' :=
 h.mono fun _ _ ⟨a,b⟩=>⟨a,b.symm⟩
def szN (n:Int):Nat:=Lib.bitLen n.natAbs
theorem zFQ (n:Int) (h1: -4095≤n) (h2:n≤4095):szN n≤12∧n.natAbs<2 ^ szN n∧(n≠0→1≤szN n∧2 ^ (szN n-1)≤n.natAbs):=by
 have hb:n.natAbs<2 ^ 12:=by omega
 refine⟨Lib.bitLen_le _ 12 (by omega) hb, ?_,fun h0=> ?_⟩
 ·by_cases h0:n=0
  ·subst h0;decide
  ·exact (Lib.bitLenAux_bounds 64 n.natAbs (by omega) (by omega)).2.2
 ·have:=Lib.bitLenAux_bounds 64 n.natAbs (by omega) (by omega)
  exact⟨this.1,this.2.1⟩
def vC (n:Int):Int×Int×Int:=if -4095≤n∧n≤4095 then (szN n,if n<0 then n+2 ^ szN n-1 else n,0) else (0,0,1)
theorem zPH (n:Int) (w:World):Calls Tryz.prog 216 #[.int .i64 n] w fun e w'=>e=.returned (.tuple #[.int .i64 (vC n).1,.int .i64 (vC n).2.1,.int .i64 (vC n).2.2])∧w=w':=by
 by_cases hin: -4095≤n∧n≤4095
 ·obtain⟨h1,h2⟩:=hin
  obtain⟨g1, -, -⟩:=zFQ n h1 h2
  have hl:=zA (fun W=>zSV (Tryz.bits_Len n.natAbs W (by omega) (by omega)))
  have hf:vC n=((szN n:Int),(if n<0 then n+2 ^ szN n-1 else n),(0:Int)):=by unfold vC;rw[if_pos ⟨h1,h2⟩]
  rw[hf]
  have hsz:Lib.bitLen ((n.natAbs:Int)).toNat=szN n:=by simp[szN]
  have hmx:(n.natAbs:Int)=max n (-n):=by omega
  rw[hsz,hmx] at hl
  clear hf hsz hmx
  have p1:=zGS (szN n) 12 g1
  have p2:=zBp (szN n)
  have p3:(2:Int) ^ 12=4096:=by decide
  rw[p3] at p1
  clear p3
  generalize szN n=s at *
  by_cases hn:n<0
  ·rw[if_pos hn]
   go_enter Tryz.func216,Tryz.ntmps216
   go_wp2_with (go_at_call 221;refine (hl.out _).mono ?_;rintro e w' ⟨rfl,rfl⟩)
   refine bodyPost_ret (results_tmp3 rfl _ _ _) rfl ?_
   refine⟨?_,rfl⟩
   have e:n+((2:Int) ^ s-1)=n+2 ^ s-1:=by omega
   show Ending.returned (Value.tuple #[Value.int .i64 s,Value.int .i64 (n+((2:Int) ^ s-1)),Value.int .i64 0])=_
   rw[e]
  ·rw[if_neg hn]
   go_enter Tryz.func216,Tryz.ntmps216
   go_wp2_with (go_at_call 221;refine (hl.out _).mono ?_;rintro e w' ⟨rfl,rfl⟩)
   refine bodyPost_ret (results_tmp3 rfl _ _ _) rfl ?_
   exact⟨rfl,rfl⟩
 ·have hf:vC n=(0,0,1):=by unfold vC;rw[if_neg hin]
  rw[hf]
  clear hf
  by_cases hn:n≤ -4096
  ·have hd:decide (n≤ -4096)=true:=by simpa using hn
   clear hin
   go_enter Tryz.func216,Tryz.ntmps216
   go_wp2_with fail
   refine bodyPost_ret (results_tmp3 rfl _ _ _) rfl ?_
   exact⟨rfl,rfl⟩
  ·have hd:decide (n≤ -4096)=false:=by simpa using hn
   have h4:4096≤n:=by omega
   clear hin
   go_enter Tryz.func216,Tryz.ntmps216
   go_wp2_with fail
   refine bodyPost_ret (results_tmp3 rfl _ _ _) rfl ?_
   exact⟨rfl,rfl⟩
def zEi (s:Int×Int×Bool):Int×Int×Bool :=
 if s.2.2 then (if s.2.1=7 then (s.1+1,s.2.1,false) else if s.1=0 then (s.1,s.2.1+1,false) else (s.1-1,s.2.1+1,true))
 else (if s.1=7 then (s.1,s.2.1+1,true) else if s.2.1=0 then (s.1+1,s.2.1,true) else (s.1+1,s.2.1-1,false))
def zst:Nat→Int×Int×Bool
 | 0=>(0,0,true)
 | k+1=>zEi (zst k)
def vE (k:Nat):Int:=8*(zst k).1+(zst k).2.1
def zigL:List Int:=(List.range 64).map vE
theorem zst_bd (k:Nat) (h:k<64):0≤(zst k).1∧(zst k).1≤7∧0≤(zst k).2.1∧(zst k).2.1≤7 :=
 (by decide+kernel: ∀ j:Fin 64,0≤(zst j.val).1∧(zst j.val).1≤7∧0≤(zst j.val).2.1∧(zst j.val).2.1≤7) ⟨k,h⟩
theorem zCr:zigL.length=64:=by simp[zigL]
theorem zMe (k:Nat) (h:k<64):zigL.take (k+1)=zigL.take k++[vE k]:=by
 rw[wC3 (by rw[zCr];exact h)]
 simp[zigL]
theorem zPm (k:Nat) (h:k<zigL.length):zigL[k]=vE k:=by simp[zigL]
theorem zHX (k:Nat) (h:k<64):0≤vE k∧vE k<64:=by
 have:=zst_bd k h
 unfold vE
 omega
def qL (zs:List Int) (k:Nat):List Int:=(List.range k).foldl (fun l i=>l.set (vE i).toNat (zs.getD i 0)) (List.replicate 64 0)
theorem zHR (zs:List Int) (k:Nat):qL zs (k+1)=(qL zs k).set (vE k).toNat (zs.getD k 0):=by
 unfold qL
 rw[wH3,List.foldl_append]
 rfl
theorem uG (zs:List Int) (k:Nat):(qL zs k).length=64:=by
 induction k with
 | zero=>simp[qL]
 | succ k ih=>rw[zHR];simpa using ih
def zto (zs:List Int):List Int:=(List.range 64).map fun i=>zs.getD (vE i).toNat 0
theorem vL (zs:List Int):(zto zs).length=64:=by simp[zto]
theorem zto_set (zs:List Int) (k:Nat) (h:k<64):((zto zs).take k++List.replicate (64-k) 0).set k (zs.getD (vE k).toNat 0)=(zto zs).take (k+1)++List.replicate (64-(k+1)) 0:=by
 have hl:((zto zs).take k).length=k:=by rw[wI8,vL];omega
 rw[wF8 _ _ (by omega),hl,wF9,wC3 (by rw[vL];exact h)]
 obtain⟨m,hm⟩: ∃ m,64-k=m+1:=⟨64-k-1,by omega⟩
 have hm2:64-(k+1)=m:=by omega
 rw[hm,hm2,wG0,wG1]
 simp[zto]
def vR (r n:Int):Tok:=(16*r+(vC n).1,(vC n).1,(vC n).2.1)
def long:Tok:=(240,0,0)
def zEC (s:List Tok×Nat) (n:Int):List Tok×Nat:=if n=0 then (s.1,s.2+1) else (s.1++List.replicate (s.2/16) long++[vR ((s.2%16:Nat):Int) n],0)
def zAq (t0:Tok) (l:List Int) (k:Nat):List Tok×Nat:=(l.take k).foldl zEC ([t0],0)
theorem zNP (t0:Tok) (l:List Int):zAq t0 l 0=([t0],0):=rfl
theorem zIr (t0:Tok) (l:List Int) (k:Nat) (h:k<l.length):zAq t0 l (k+1)=zEC (zAq t0 l k) l[k]:=by
 unfold zAq
 rw[wC3 h,List.foldl_append]
 rfl
theorem accT_bd (t0:Tok) (l:List Int): ∀ k,k≤l.length→k≤64→(zAq t0 l k).2≤k∧(zAq t0 l k).1.length≤1+64*k:=by
 intro k
 induction k with
 | zero=>intro _ _;simp[zNP]
 | succ k ih =>
   intro h1 h2
   obtain⟨a,b⟩:=ih (by omega) (by omega)
   rw[zIr t0 l k (by omega)]
   unfold zEC
   split
   ·simp;omega
   ·simp;omega
theorem zHD {s:List Tok×Nat} {n:Int} (h:n=0):zEC s n=(s.1,s.2+1):=by unfold zEC;rw[if_pos h]
theorem zIX {s:List Tok×Nat} {n:Int} (h:n≠0):zEC s n=(s.1++List.replicate (s.2/16) long++[vR ((s.2%16:Nat):Int) n],0):=by unfold zEC;rw[if_neg h]
def yI (before:Int) (z:List Int):List Tok :=
 let s:=zAq (vR 0 (z.getD 0 0-before)) (z.drop 1) 63
 if 0<s.2 then s.1++[(0,0,0)] else s.1
def zBH (t:Tok):Prop:=0≤t.1∧t.1≤255∧0≤t.2.1∧t.2.1≤12∧0≤t.2.2∧t.2.2<2 ^ t.2.1.toNat
theorem bitsZ_wf (n:Int):0≤(vC n).1∧(vC n).1≤12∧0≤(vC n).2.1∧(vC n).2.1<2 ^ (vC n).1.toNat:=by
 unfold vC
 split
 ·next h =>
  obtain⟨s1,s2,s3⟩:=zFQ n h.1 h.2
  have p:=zBp (szN n)
  have s2':(n.natAbs:Int)<2 ^ szN n:=by exact_mod_cast s2
  refine⟨by simp,by simp;omega, ?_, ?_⟩
  ·show 0≤(if n<0 then n+2 ^ szN n-1 else n)
   split<;>omega
  ·show (if n<0 then n+2 ^ szN n-1 else n)<2 ^ ((szN n:Nat):Int).toNat
   rw[wF0]
   split<;>omega
 ·simp
theorem tokZ_wf (r:Nat) (n:Int) (h:r≤15):zBH (vR (r:Int) n):=by
 obtain⟨a,b,c,d⟩:=bitsZ_wf n
 unfold zBH vR
 dsimp only
 exact⟨by omega,by omega,a,b,c,d⟩
theorem accT_wf (t0:Tok) (l:List Int) (h0:zBH t0): ∀ k,k≤l.length→ ∀ t∈(zAq t0 l k).1,zBH t:=by
 intro k
 induction k with
 | zero=>intro _ t ht;rw[zNP] at ht;simp at ht;subst ht;exact h0
 | succ k ih =>
   intro hk t ht
   have ih:=ih (by omega)
   rw[zIr t0 l k (by omega)] at ht
   generalize zAq t0 l k=s at *
   by_cases hz:l[k]=0
   ·rw[zHD hz] at ht;exact ih t ht
   ·rw[zIX hz] at ht
    simp only[wE6,wK2,wK3] at ht
    rcases ht with (ht | ⟨-,rfl⟩) | rfl
    ·exact ih t ht
    ·unfold zBH long;decide
    ·exact tokZ_wf _ _ (by omega)
theorem zEW (before:Int) (z:List Int) (hz:z.length=64): ∀ t∈yI before z,zBH t:=by
 intro t ht
 have h:=accT_wf (vR 0 (z.getD 0 0-before)) (z.drop 1) (tokZ_wf 0 _ (by omega)) 63 (by simp;omega)
 unfold yI at ht
 simp only at ht
 split at ht
 ·rcases wE6.1 ht with h1 | h1
  ·exact h t h1
  ·simp at h1;subst h1;unfold zBH;decide
 ·exact h t ht
def xC (Z:List Int) (k:Nat):List Int:=(Z.drop (k*64)).take 64
def uS (Z:List Int) (k:Nat):Int:=if k=0 then 0 else (xC Z (k-1)).getD 0 0
def zAp (Z:List Int) (k:Nat):List Tok:=yI (uS Z k) (zto (xC Z k))
def zAs (T:List Tok):List (Tok×Bool):=T.zipIdx.map fun p=>(p.1,p.2 ==0)
theorem zFZ (T:List Tok):(zAs T).length=T.length:=by simp[zAs]
theorem zSE (T:List Tok) (j:Nat) (h:j<T.length):(zAs T).drop j=(T[j],j ==0)::(zAs T).drop (j+1):=by
 rw[wG3 (by rw[zFZ];exact h)]
 simp[zAs]
def xT (Z:List Int) (n k:Nat):List (Tok×Bool):=(List.range' k (n-k)).flatMap fun i=>zAs (zAp Z i)
theorem zFI (Z:List Int) (n k:Nat) (h:k<n):xT Z n k=zAs (zAp Z k)++xT Z n (k+1):=by
 unfold xT
 rw[show n-k=(n-(k+1))+1 by omega,wK4,wJ6]
theorem zFx (Z:List Int) (n:Nat):xT Z n n=[]:=by unfold xT;simp
section
variable {σ:Type}
def qK (step:σ→Tok→Bool→Int×σ):List (Tok×Bool)→σ→Int×σ
 | [],s=>(0,s)
 | (t,b)::r,s=>if (step s t b).1≠0 then step s t b else qK step r (step s t b).2
def xW (step:σ→Tok→Bool→Int×σ) (n:Nat) (Z:List Int) (s:σ):Int×σ :=
 if 400<n then (2,s) else if zM Z (-2047) 2047=false then (1,s) else qK step (xT Z n 0) s
theorem zEN {step:σ→Tok→Bool→Int×σ} {t:Tok} {b:Bool} {r:List (Tok×Bool)} {s:σ} (h:(step s t b).1≠0):qK step ((t,b)::r) s=step s t b:=by unfold qK;rw[if_pos h]
theorem zCB {step:σ→Tok→Bool→Int×σ} {t:Tok} {b:Bool} {r:List (Tok×Bool)} {s:σ} (h:(step s t b).1=0):qK step ((t,b)::r) s=qK step r (step s t b).2:=by rw[qK,if_neg (by simp[h])]
end
theorem zIC (Z:List Int) (n k:Nat) (hz:Z.length=n*64) (h:k<n):(xC Z k).length=64:=by
 unfold xC
 rw[wI8,wK1]
 omega
theorem zJC {Z:List Int} {k:Nat} {x:Int} (h:x∈xC Z k):x∈Z:=wG9 (wH0 h)
theorem zQc (Z:List Int) (n:Nat) (hz:Z.length=n*64):zM Z (-2047) 2047=true↔ ∀ k,k<n→zM (xC Z k) (-2047) 2047=true:=by
 constructor
 ·intro h k _
  rw[zY] at h ⊢
  exact fun x hx=>h x (zJC hx)
 ·intro h
  rw[zY]
  intro x hx
  obtain⟨i,hi,rfl⟩:=wK5 hx
  have h1:=zY.1 (h (i/64) (by omega))
  have h2:(xC Z (i/64))[i%64]? =some Z[i]:=by
   unfold xC
   rw[wD0 (by omega),wB4,show i/64*64+i%64=i by omega,wA2 hi]
  exact h1 _ (wK6 h2)
end Go.Proofs.YtkggcjdlpendfaaGreatDoor
