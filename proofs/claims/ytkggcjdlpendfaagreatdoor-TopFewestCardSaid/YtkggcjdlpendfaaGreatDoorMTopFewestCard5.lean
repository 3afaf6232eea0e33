import Derived.Deep.Cut
import Derived.StillTailTactics
import Derived.Shelf.Small.Bits
import Derived.Shelf.Strconv.Itoa0
import Derived.Shelf.Strings.Search1
import Derived.Shelf.Strings.Search2
import Derived.Shelf.Strings.Search3
import Derived.Shelf.LaysM
import Derived.Shelf.Strings.Shaped
import Derived.Shelf.Strings.Prefix
import Derived.Shelf.Bytes.SlIndexSmall
import Derived.Ground.SlbNamesProg
import Derived.Shelf.Bytes.SlCountOne
import Derived.Shelf.Bytes.SlIndexAt
import Derived.Shelf.Bytes.SlSearch0
import Derived.Shelf.Bytes.SlSearch1
import Derived.Shelf.Bytes.SlSearch2
import Derived.Shelf.Bytes.SlIndexWhole
import Derived.Shelf.Bytes.SlCountWhole
import Derived.Shelf.Bytes.Small
import Derived.Shelf.Bytes.IndexByte
import Derived.Lib.BitFns
import Derived.Lib.ItoaNum
import Derived.Test.YtkggcjdlpendfaaGreatDoorMTopFewestCard4
set_option linter.all false
set_option maxRecDepth 20000
set_option maxHeartbeats 8000000
namespace Go.Proofs.YtkggcjdlpendfaaGreatDoor
open Go.RowKit
def zQH (xs:List Int) (v:Value) (wd hi:Nat) (w:World) (hv:SL w 1 v xs.length (ints xs)) (h0:xW wd hi=0) (a1:1≤wd) (a2:wd≤64) (b1:1≤hi) (b2:hi≤64) (h:xs.length=wd*hi) (hq:zR xs 0 255=true) :
 Calls Tryz.prog 40 #[v,.int .i64 wd,.int .i64 hi] w fun e w'=> ∃ g,e=.returned (.tuple #[.slice (some ⟨g,0,none⟩) (qD wd hi) (qD wd hi),.int .i64 0])∧Blk w' g 33 (bv (cutZ xs wd hi))∧Ext w w'∧w.heap.size≤g:=by
 have HK:=zA (fun W=>uZ wd hi W);rw[h0] at HK;clear h0;have HCF:=zA (fun W (hs:SL W 1 v xs.length (ints xs))=>jU 89 #[] (fun z=> !inB z 0 255) zJq v xs W hs (fun z _=>zPN z W));simp only[zDH,hq] at HCF;have HQ:=zA hq;clear hq;have HM:=zA (fun W=>zGi wd hi W a1 a2 b1 b2)
 have HP:Hid (∀ k j,k<64→j<64→ ∃ r q:Nat,Hid (r=k/((wd+7)/8)*8+j/8∧q=k%((wd+7)/8)*8+j%8)∧ ∀ W,Calls Tryz.prog 91 #[.agg (qX wd hi),.int .i64 (k:Int),.int .i64 (j:Int)] W fun e w' =>
  e=.returned (.tuple #[.int .i64 ((r:Nat):Int),.int .i64 ((q:Nat):Int)])∧Ext W w'):=zA fun k j hk hj=>⟨_,_,zA ⟨rfl,rfl⟩,fun W=>zNL wd hi k j W a1 a2 hk hj⟩
 have hm:wd*hi≤64*64:=wI6 a2 b2;have hw1:IntKind.i64.wrap ((wd:Int)*(hi:Int))=(wd:Int)*(hi:Int):=by rw[←wD7];exact IntWalk.i64_in _ (by omega)
 have hne:((xs.length:Int) !=(wd:Int)*(hi:Int))=false:=by rw[←wD7];simp;omega
 have hbv: #[Value.int .i64 wd,Value.int .i64 hi]=qX wd hi:=rfl;have hts:=zA (uQ wd hi);have ho:=zA (zBL wd hi);have hn64:qD wd hi≤64:=by have:(wd+7)/8*((hi+7)/8)≤8*8:=wI6 (by omega) (by omega);exact this
 have hcn:(wd+7)/8*((hi+7)/8)=qD wd hi:=rfl;rw[hcn] at HM;clear hcn;have HZL:=zA (zGv xs wd hi);have HXL:=zA h;generalize qX wd hi=av at *;have hv':=hv;obtain⟨A,c,rfl,hc1,hc2, -, -⟩:=hv';clear h hm;generalize hn:qD wd hi=n at *;have HN:=zA hn;clear hn;go_enter Tryz.func40,Tryz.ntmps40
 go_wp2_with (first
  | (refine wAlo' rfl (some 8) rfl 128 rfl _ zCA ?_;intro w1 g hb1 hx1 hg)
  | (refine wStB rfl 128 (.tmp 8) (.tmp 17) rfl _ _ rfl rfl hb1 2 xX hts.out rfl ho.out ?_;intro w2 hb2 hg2;have hx2:=hx1.grown hg2 (by omega))
  | (refine wLdB rfl 128 (.tmp 8) rfl _ rfl hb2 _ Tryz.underlying128 rfl 2 xX hts.out ?_)
  | (go_at_call 87;(with_reducible refine (HK.out _).mono ?_);rintro e w3 ⟨rfl,hx3⟩;have hx23:=hx2.trans hx3;have hb3:=hb2.ext hx3)
  | (go_at_call 88;(with_reducible refine (HCF.out _ (hv.ext hx23)).mono ?_);rintro e w4 ⟨rfl,rfl⟩)
  | (refine wLdB rfl 128 (.tmp 8) rfl _ rfl hb3 _ Tryz.underlying128 rfl 2 xX hts.out ?_)
  | (go_at_call 90;(with_reducible refine (HM.out _).mono ?_);rintro e w5 ⟨rfl,hx5⟩;have hb5:=hb3.ext hx5;have hx35:=hx23.trans hx5)
  | (refine zEa rfl (some 36) rfl _ _ rfl n (by omega) rfl rfl ?_;intro w6 gz hbz hx6 hgz;have hb6:=hb5.ext hx6;have hx36:=hx35.trans hx6))
 have hgz0:w.heap.size≤gz:=by have:=hx35.size;omega
 have hbz0:Blk w6 gz 33 (bv (zDq (cutZ xs wd hi) 0)):=by rw[midZ_zero,HZL.out];exact hbz
 generalize hZ:cutZ xs wd hi=Z at *;have HZ:=zA hZ;clear hZ hbz hb2 hb3 hb5 hx1 hx2 hx3 hx5 hx6 hx23 hx35 hg2
 go_loopw [39] (fun i wr=> ∃ k:Nat,k≤n∧i=.int .i64 (k:Int)∧Blk wr gz 33 (bv (zDq Z (k*64)))∧Blk wr g 128 av∧Ext w wr) (fun i _=>n-(intOf i).toNat)
 case atStart=>exact⟨0,by omega,rfl,hbz0,hb6,hx36⟩
 case round =>
  clear hbz0 hb6 hx36;obtain⟨k,hk,rfl,hbo,hba,hxo⟩:=hrel
  by_cases hlt:k<n
  ·go_wp2_with fail
   go_loopw [42] (fun i wr=> ∃ j:Nat,j≤64∧i=.int .i64 (j:Int)∧Blk wr gz 33 (bv (zDq Z (k*64+j)))∧Blk wr g 128 av∧Ext w wr) (fun i _=>64-(intOf i).toNat)
   case atStart=>exact⟨0,by omega,rfl,hbo,hba,hxo⟩
   case round =>
    clear hbo hba hxo;obtain⟨j,hj,rfl,hbi,hbj,hxi⟩:=hrel
    by_cases hlj:j<64
    ·obtain⟨r,q,HRQ,hcall⟩:=HP.out k j (by omega) hlj;have HCALL:=zA hcall;clear hcall
     go_wp2_with (first
      | (refine wLdB rfl 128 (.tmp 8) rfl _ rfl hbj _ Tryz.underlying128 rfl 2 xX hts.out ?_)
      | (go_at_call 91;(with_reducible refine (HCALL.out _).mono ?_);rintro e w7 ⟨rfl,hx7⟩;have hbi7:=hbi.ext hx7;have hbj7:=hbj.ext hx7;have hxi7:=hxi.trans hx7))
     have hpl:=cut_place wd hi r q a1 b1;have hm1:min r (hi-1)*wd≤64*64:=wI6 (by omega) a2;obtain⟨p,hpx⟩: ∃ p,min r (hi-1)*wd+min q (wd-1)=p:=⟨_,rfl⟩
     have hp:p<xs.length:=by have:=HXL.out;omega
     obtain⟨ad,u,rfl,hadb,hxp,hcell⟩:=hv.at1 hp;obtain⟨hpl',rfl⟩:=zBn _ _ _ hxp;have hzb:=yD.1 HQ.out _ (wE2 hpl')
     have hval:cutAt xs wd hi k j=xs[p]-128:=by
      unfold cutAt;rw[←HRQ.out.1, ←HRQ.out.2,hpx,wF4,wA2 hpl'];rfl
     generalize xs[p]=z at *;have hx7':=hxi7.drew
     have hcz: ∀ W,Ext w7.drew W→W.cell? (ad.add (p*1))=some (.int .i64 z):=fun W hW=>by
      rw[wF1,((hx7'.trans hW).cell (p:=ad.add p) (by rw[yN];exact hadb))];exact hcell
     refine zAi qS 20 (by kernel_rfl) (by kernel_rfl) ?_;simp only[List.take,List.drop];refine zI (by rfl) (.slice (some ⟨gz,0,none⟩) n n) (zC rfl rfl) ?_;simp only[sP,sB,sC];refine zI (by rfl) (.int .i64 ((k:Nat):Int)) (zC rfl rfl) ?_;simp only[sP,sB,sC];refine zI (by rfl) (.int .i64 ((j:Nat):Int)) (zC rfl rfl) ?_;simp only[sP,sB,sC];refine zI (by rfl) (.slice (some ad) xs.length c) (zC rfl rfl) ?_;simp only[sP,sB,sC];refine zI (by rfl) (.int .i64 ((r:Nat):Int)) (zC rfl rfl) ?_;simp only[sP,sB,sC];refine zI (by rfl) (.int .i64 ((hi:Nat):Int)) (zC rfl rfl) ?_;simp only[sP,sB,sC];refine zI (by rfl) (.int .i64 ((hi-1:Nat):Int)) (xH (i:=hi) (d:=1) rfl rfl rfl (by omega) (by omega)) ?_;simp only[sP,sB,sC];refine zI (by rfl) (.int .i64 ((min r (hi-1):Nat):Int)) (zEz (i:=r) (d:=hi-1) rfl rfl rfl) ?_;simp only[sP,sB,sC];refine zI (by rfl) (.int .i64 ((wd:Nat):Int)) (zC rfl rfl) ?_;simp only[sP,sB,sC];refine zI (by rfl) (.int .i64 (((min r (hi-1))*wd:Nat):Int)) (zCI (i:=min r (hi-1)) (d:=wd) rfl rfl rfl (by omega)) ?_;simp only[sP,sB,sC];refine zI (by rfl) (.int .i64 ((q:Nat):Int)) (zC rfl rfl) ?_;simp only[sP,sB,sC];refine zI (by rfl) (.int .i64 ((wd:Nat):Int)) (zC rfl rfl) ?_;simp only[sP,sB,sC];refine zI (by rfl) (.int .i64 ((wd-1:Nat):Int)) (xH (i:=wd) (d:=1) rfl rfl rfl (by omega) (by omega)) ?_;simp only[sP,sB,sC];refine zI (by rfl) (.int .i64 ((min q (wd-1):Nat):Int)) (zEz (i:=q) (d:=wd-1) rfl rfl rfl) ?_;simp only[sP,sB,sC];refine zI (by rfl) (.int .i64 ((((min r (hi-1))*wd)+(min q (wd-1)):Nat):Int)) (yH (i:=(min r (hi-1))*wd) (d:=min q (wd-1)) rfl rfl rfl (by omega)) ?_;simp only[sP,sB,sC];rw[hpx];refine zI (by rfl) (.pointer (some (ad.add (p*1)))) (vJ Tryz.underlying22 qW rfl rfl rfl hp) ?_;simp only[sP,sB,sC];refine xL (by rfl) (.int .i64 z) (fun W hW=>zV rfl rfl (hcz W hW)) ?_;simp only[sP,sB,sC];refine zI (by rfl) (.int .i64 (z-(((128:Nat):Int)))) (zMr (i:=z) (d:=((128:Nat):Int)) rfl rfl rfl (by omega)) ?_;simp only[sP,sB,sC];refine zI (by rfl) (.pointer (some ⟨gz,0+k*64,none⟩)) (zFW Tryz.underlying25 zH rfl rfl rfl hlt) ?_;simp only[sP,sB,sC];refine zI (by rfl) (.pointer (some ⟨gz,0+k*64+j*1,none⟩)) (zNK Tryz.underlying33 qW rfl rfl rfl hlj) ?_;simp only[sP,sB,sC];refine vH ?_;intro W hW;have hbi8:=(hbi7.drew).ext hW;have hbj8:=(hbj7.drew).ext hW;have hx8:=hx7'.trans hW;have hlen:k*64+j<(bv (zDq Z (k*64+j))).size:=by rw[zK,midZ_len _ _ (by rw[HZL.out];omega),HZL.out];omega
     refine uK rfl (.tmp 71) (.tmp 69) rfl gz (0+k*64+j*1) (z-128) rfl rfl hbi8 (by rw[wB2,wF1];exact hlen) ?_;simp only[Act.put,sA,sB,sC];have hb9:=hbi8.set_ (0+k*64+j*1) (.int .i64 (z-128));rw[jO,wB2,wF1,midZ_set Z (k*64+j) (z-128) (by rw[←HZ.out,cutZ_at xs wd hi k j hlj (by have:=HN.out;omega),hval])] at hb9;have hb10:=hbj8.far (p:=⟨gz,k*64+j,none⟩) (hbi8.ne_ hbj8 (by decide)).symm (.int .i64 (z-128));have hx9:=hx8.setCell (p:=⟨gz,k*64+j,none⟩) hgz0 (.int .i64 (z-128));rw[show 0+k*64+j*1=k*64+j by omega];generalize W.setCell ⟨gz,k*64+j,none⟩ (.int .i64 (z-128))=W9 at *;go_wp2_with fail;go_roundw
     case rel=>exact⟨j+1,by omega,by go_num,hb9,hb10,hx9⟩
     case measure=>simp[intOf];omega
    ·have ej:j=64:=by omega
     rw[ej];go_wp2_with fail;go_roundw
     case rel=>exact⟨k+1,by omega,by go_num,by rw[ej] at hbi;rw[show (k+1)*64=k*64+64 by omega];exact hbi,hbj,hxi⟩
     case measure=>simp[intOf];omega
  ·have ek:k=n:=by omega
   rw[ek] at hbo;rw[ek];go_wp2_with fail;go_ret2;refine⟨gz,rfl, ?_,hxo,hgz0⟩;rw[←HZL.out,midZ_all] at hbo;rw[HZ.out];exact hbo
def zMW:Elt Tryz.prog 25 33 64 512:=⟨Tryz.underlying25,by kernel_rfl,by decide⟩
def zero48':((Tryz.prog.info? 33).bind (·.zero)).isSome=true:=by rw[qU];rfl
def blk_sl1 {w:World} {g:Nat} {t:TypeId} {zs:List Int} (h:Blk w g t (bv zs)) (hz:zs.length=64):SL w 64 (.slice (some ⟨g,0,none⟩) 1 1) 1 (ints zs):=by
 have:=h.sl (size:=64) (n:=1) (c:=1) (by rw[zK,hz]) (by omega) (by omega);simpa [bv] using this
def vO (xs:List Int) (wd hi:Int):Nat:=if zAH xs wd hi=0 then qD wd.toNat hi.toNat else 0
def zCB (xs:List Int) (wd hi:Int):List Int:=if zAH xs wd hi=0 then cutZ xs wd.toNat hi.toNat else []
def cutRZ_len (xs:List Int) (wd hi:Int):(zCB xs wd hi).length=vO xs wd hi*64:=by
 unfold zCB vO;split
 ·exact zGv _ _ _
 ·rfl
def zJk (xs:List Int) (wd hi:Int) (w:World) (e:Ending) (w':World):Prop :=
 ∃ A c,e=.returned (.tuple #[.slice A (vO xs wd hi) c,.int .i64 (zAH xs wd hi)])∧SL w' 64 (.slice A (vO xs wd hi) c) (vO xs wd hi) (ints (zCB xs wd hi))∧Ext w w'
def zMh {xs:List Int} {wd hi:Int} {w w':World} {e:Ending} {k:Int} (hk:zAH xs wd hi=k) (h0:k≠0) (h:e=.returned (.tuple #[.slice none 0 0,.int .i64 k])∧Ext w w'):zJk xs wd hi w e w':=by
 have hn:vO xs wd hi=0:=by unfold vO;rw[if_neg (by rw[hk];exact h0)]
 have hz:zCB xs wd hi=[]:=by unfold zCB;rw[if_neg (by rw[hk];exact h0)]
 unfold zJk;rw[hn,hz,hk];exact⟨none,0,h.1,SL.nil _ _,h.2⟩
def zFo (xs:List Int) (wd hi:Int):(xW wd hi≠0∧zAH xs wd hi=1)∨ ∃ a b:Nat,wd=(a:Int)∧hi=(b:Int)∧1≤a∧a≤64∧1≤b∧b≤64∧xW wd hi=0 ∧
 ((xs.length≠a*b∧zAH xs wd hi=4)∨(xs.length=a*b∧zR xs 0 255=false∧zAH xs wd hi=1)∨(xs.length=a*b∧zR xs 0 255=true∧zAH xs wd hi=0)):=by
 by_cases h:xW wd hi=0
 ·right
  obtain⟨a,b,ha,hb,h1,h2,h3,h4⟩:=zHg h;refine⟨a,b,ha,hb,h1,h2,h3,h4,h, ?_⟩;unfold zAH;rw[if_pos h];subst ha hb
  by_cases hl:xs.length=a*b
  ·rw[if_pos (by rw[hl];push_cast;rfl)]
   cases hq:zR xs 0 255 with
   | false=>exact .inr (.inl ⟨hl,rfl,by simp⟩)
   | true=>exact .inr (.inr ⟨hl,rfl,by simp⟩)
  ·rw[if_neg (fun he=>hl (by exact_mod_cast he))];exact .inl ⟨hl,rfl⟩
 ·left
  refine⟨h, ?_⟩;unfold zAH;rw[if_neg h]
def cut_any (xs:List Int) (v:Value) (wd hi:Int) (w:World) (hv:SL w 1 v xs.length (ints xs)):Calls Tryz.prog 40 #[v,.int .i64 wd,.int .i64 hi] w (zJk xs wd hi w):=by
 rcases zFo xs wd hi with ⟨h,hE⟩ | ⟨a,b,rfl,rfl,h1,h2,h3,h4,h0,⟨hl,hE⟩ | ⟨hl,hq,hE⟩ | ⟨hl,hq,hE⟩⟩
 ·exact (zNM xs v wd hi w hv h).mono fun e w' h=>zMh hE (by decide) h
 ·exact (zPQ xs v a b w hv h0 h2 h4 hl).mono fun e w' h=>zMh hE (by decide) h
 ·exact (cut_out xs v a b w hv h0 h2 h4 hl hq).mono fun e w' h=>zMh hE (by decide) h
 ·refine (zQH xs v a b w hv h0 h1 h2 h3 h4 hl hq).mono fun e w' ⟨g,he,hb,hx,hfr⟩=> ?_
  have hn:vO xs a b=qD a b:=by unfold vO;rw[if_pos hE];rfl
  have hz:zCB xs a b=cutZ xs a b:=by unfold zCB;rw[if_pos hE];rfl
  unfold zJk;rw[hn,hz,hE];refine⟨some ⟨g,0,none⟩,_,he, ?_,hx⟩;have hc:qD a b≤8*8:=wI6 (by omega) (by omega);have:=hb.sl (size:=64) (n:=qD a b) (c:=qD a b) (by rw[zK,zGv]) (by omega) (by omega);simpa [bv] using this
def CutFr (xs:List Int) (wd hi:Int) (w:World) (e:Ending) (w':World):Prop :=
 ∃ A c,e=.returned (.tuple #[.slice A (vO xs wd hi) c,.int .i64 (zAH xs wd hi)])∧SL w' 64 (.slice A (vO xs wd hi) c) (vO xs wd hi) (ints (zCB xs wd hi))∧Ext w w'∧ ∀ ad,A=some ad→w.heap.size≤ad.block
def zKg {xs:List Int} {wd hi:Int} {w w':World} {e:Ending} {k:Int} (hk:zAH xs wd hi=k) (h0:k≠0) (h:e=.returned (.tuple #[.slice none 0 0,.int .i64 k])∧Ext w w'):CutFr xs wd hi w e w':=by
 have hn:vO xs wd hi=0:=by unfold vO;rw[if_neg (by rw[hk];exact h0)]
 have hz:zCB xs wd hi=[]:=by unfold zCB;rw[if_neg (by rw[hk];exact h0)]
 unfold CutFr;rw[hn,hz,hk];exact⟨none,0,h.1,SL.nil _ _,h.2,fun _ h=>by cases h⟩
def cut_anyF (xs:List Int) (v:Value) (wd hi:Int) (w:World) (hv:SL w 1 v xs.length (ints xs)):Calls Tryz.prog 40 #[v,.int .i64 wd,.int .i64 hi] w (CutFr xs wd hi w):=by
 rcases zFo xs wd hi with ⟨h,hE⟩ | ⟨a,b,rfl,rfl,h1,h2,h3,h4,h0,⟨hl,hE⟩ | ⟨hl,hq,hE⟩ | ⟨hl,hq,hE⟩⟩
 ·exact (zNM xs v wd hi w hv h).mono fun e w' h=>zKg hE (by decide) h
 ·exact (zPQ xs v a b w hv h0 h2 h4 hl).mono fun e w' h=>zKg hE (by decide) h
 ·exact (cut_out xs v a b w hv h0 h2 h4 hl hq).mono fun e w' h=>zKg hE (by decide) h
 ·refine (zQH xs v a b w hv h0 h1 h2 h3 h4 hl hq).mono fun e w' ⟨g,he,hb,hx,hfr⟩=> ?_
  have hn:vO xs a b=qD a b:=by unfold vO;rw[if_pos hE];rfl
  have hz:zCB xs a b=cutZ xs a b:=by unfold zCB;rw[if_pos hE];rfl
  unfold CutFr;rw[hn,hz,hE];refine⟨some ⟨g,0,none⟩,_,he, ?_,hx,fun ad h=>by injection h with h;subst h;exact hfr⟩;have hc:qD a b≤8*8:=wI6 (by omega) (by omega);have:=hb.sl (size:=64) (n:=qD a b) (c:=qD a b) (by rw[zK,zGv]) (by omega) (by omega);simpa [bv] using this
def xG (wd hi:Int) (v:Value):Array Value:= #[.int .i64 wd,.int .i64 hi,v]
def vX (wd hi:Int) (v:Value):(xG wd hi v).size=3:=rfl
def jT:(Tryz.prog.info? 31).map (·.size)=some 3:=by kernel_rfl
def zBH {w:World} {g:Nat} {T:TypeId} {wd hi:Int} {v:Value} (h:Blk w g T (xG wd hi v)):w.cell? ⟨g,0,none⟩=some (.int .i64 wd)∧w.cell? ⟨g,1,none⟩=some (.int .i64 hi)∧w.cell? ⟨g,2,none⟩=some v:=by
 rw[h.cell,h.cell,h.cell];exact⟨rfl,rfl,rfl⟩
def zBG:List Int→Int
 | []=>0
 | e::r=>if e=0 then zBG r else e
def zHj: ∀ (l:List Int),(∀ e∈l,e=0)→zBG l=0
 | [],_=>rfl
 | e::r,h=>by
   have:=h e (by simp);unfold zBG;rw[if_pos this];exact zHj r (fun x hx=>h x (by simp[hx]))
def zNG: ∀ (l:List Int) (k:Nat) (e:Int),(∀ x∈l.take k,x=0)→l[k]? =some e→e≠0→zBG l=e
 | [],k,e,_,h,_=>by simp at h
 | x::r,0,e,_,h,h0=>by
   simp at h;subst h;unfold zBG;rw[if_neg h0]
 | x::r,k+1,e,ht,h,h0=>by
   have hx:x=0:=ht x (by simp);unfold zBG;rw[if_pos hx];exact zNG r k e (fun y hy=>ht y (by simp[hy])) (by simpa using h) h0
def zET (wd hi:Int) (L:List (List Int)):Int:=if xW wd hi=0 then (if L.length=1∨L.length=3 then zBG (L.map fun l=>zAH l wd hi) else 1) else 1
def zNC {L:List (List Int)} {f:List Int→Int} {k:Nat} {l:List Int} (h: ∀ x∈L.take k,f x=0) (hl:L[k]? =some l) (h0:f l=0): ∀ x∈L.take (k+1),f x=0:=by
 intro x hx;rw[wD4,hl] at hx;rcases wE6.1 hx with h1 | h1
 ·exact h x h1
 ·simp at h1;subst h1;exact h0
def zNJ {L:List (List Int)} {f:List Int→Int} {k:Nat} {l:List Int} {e:Int} (h: ∀ x∈L.take k,f x=0) (hl:L[k]? =some l) (he:f l=e) (h0:e≠0):zBG (L.map f)=e :=
 zNG _ k _ (fun y hy=>by
  rw[←wH1] at hy;obtain⟨x,hx,rfl⟩:=wD6.1 hy
  exact h x hx) (by rw[wC0,hl];simp[he]) h0
def zSz (wd hi:Int) (L:List (List Int)) (A:Option Addr) (n c:Nat) (w:World) (hr:RowsS w A n c L) (h:xW wd hi≠0) :
 Calls Tryz.prog 29 #[.agg (xG wd hi (.slice A n c))] w fun e w'=>e=.returned (.int .i64 1)∧Ext w w':=by
 have HM:=zA (fun W=>zFK wd hi W);rw[zHb h] at HM;clear h;have HC:=zA (fun W g (h:Blk W g 31 (xG wd hi (.slice A n c)))=>zBH h);generalize xG wd hi (.slice A n c)=pv at *;generalize zCn wd hi=mz at *;go_enter Tryz.func29,Tryz.ntmps29
 go_wp2_with (first
  | (refine wBox rfl 31 (.tmp 0) rfl pv rfl ?_;intro w1 g hb1 hx1 hg;obtain⟨c0,c1,c2⟩:=HC.out _ _ hb1)
  | (go_at_call 65;(with_reducible refine (HM.out _).mono ?_);rintro e w2 ⟨rfl,hx2⟩;have hb2:=hb1.ext hx2;have hx12:=hx1.trans hx2;clear c0 c1 c2;obtain⟨d0,d1,d2⟩:=HC.out _ _ hb2))
 go_ret;exact⟨rfl,hx12⟩
def zSa (wd hi:Int) (L:List (List Int)) (A:Option Addr) (n c:Nat) (w:World) (hr:RowsS w A n c L) (h0:xW wd hi=0) (h: ¬(L.length=1∨L.length=3)) :
 Calls Tryz.prog 29 #[.agg (xG wd hi (.slice A n c))] w fun e w'=>e=.returned (.int .i64 1)∧Ext w w':=by
 have HM:=zA (fun W=>zFK wd hi W);rw[h0] at HM;clear h0;have HC:=zA (fun W g (h:Blk W g 31 (xG wd hi (.slice A n c)))=>zBH h);rw[hr.len] at h;have hn1:((n:Int) !=1)=true:=by simp;omega
 have hn3:((n:Int) !=3)=true:=by simp;omega
 clear h;generalize xG wd hi (.slice A n c)=pv at *;generalize zCn wd hi=mz at *;go_enter Tryz.func29,Tryz.ntmps29
 go_wp2_with (first
  | (refine wBox rfl 31 (.tmp 0) rfl pv rfl ?_;intro w1 g hb1 hx1 hg;obtain⟨c0,c1,c2⟩:=HC.out _ _ hb1)
  | (go_at_call 65;(with_reducible refine (HM.out _).mono ?_);rintro e w2 ⟨rfl,hx2⟩;have hb2:=hb1.ext hx2;have hx12:=hx1.trans hx2;clear c0 c1 c2;obtain⟨d0,d1,d2⟩:=HC.out _ _ hb2))
 go_ret;exact⟨rfl,hx12⟩
def fchk_in1 (wd hi:Int) (L:List (List Int)) (A:Option Addr) (n c:Nat) (w:World) (hr:RowsS w A n c L) (h0:xW wd hi=0) (h:n=1) :
 Calls Tryz.prog 29 #[.agg (xG wd hi (.slice A n c))] w fun e w'=>e=.returned (.int .i64 (zBG (L.map fun l=>zAH l wd hi)))∧Ext w w':=by
 have HM:=zA (fun W=>zFK wd hi W);rw[h0] at HM;clear h0;have HC:=zA (fun W g (h:Blk W g 31 (xG wd hi (.slice A n c)))=>zBH h);have hn1:((n:Int) !=1)=false:=by simp;omega
 have hn9:n≤3:=by omega
 have HL:=zA hr.len;clear h;have HCUT:=zA (fun W v l (hv:SL W 1 v l.length (ints l))=>cut_any l v wd hi W hv);unfold zJk at HCUT;generalize zCn wd hi=mz at *;generalize xG wd hi (.slice A n c)=pv at *;go_enter Tryz.func29,Tryz.ntmps29
 go_wp2_with (first
  | (refine wBox rfl 31 (.tmp 0) rfl pv rfl ?_;intro w1 g hb1 hx1 hg;obtain⟨c0,c1,c2⟩:=HC.out _ _ hb1)
  | (go_at_call 65;(with_reducible refine (HM.out _).mono ?_);rintro e w2 ⟨rfl,hx2⟩;have hb2:=hb1.ext hx2;have hx12:=hx1.trans hx2;clear c0 c1 c2;obtain⟨d0,d1,d2⟩:=HC.out _ _ hb2))
 clear d0 d1 d2
 go_loopw [33] (fun i wr=> ∃ (k:Nat),k≤n∧i=.int .i64 (k:Int)∧Hid (∀ x∈L.take k,zAH x wd hi=0)∧Blk wr g 31 pv∧Ext w wr) (fun i _=>n-(intOf i).toNat)
 case atStart=>exact⟨0,by omega,rfl,zA (by simp),hb2,hx12⟩
 case round =>
  clear hb2 hx12;obtain⟨k,hk,rfl,HT,hb,hx⟩:=hrel
  by_cases hlt:k<n
  ·obtain⟨ad,l,B,d,rfl,hl,hab,hcell,hsl⟩:=(hr.ext hx).get hlt;have HLK:=zA hl;obtain⟨d0,d1,d2⟩:=HC.out _ _ hb;clear hl;have HCU:=zA (HCUT.out wr _ l hsl)
   by_cases hz:zAH l wd hi=0
   ·have HZ:=zA hz;rw[hz] at HCU;clear hz;generalize vO l wd hi=rn at *;go_wp2_with (go_at_call 40;(with_reducible refine (HCU.out).mono ?_);rintro e w4 ⟨A4,c4,rfl,hs4,hx4⟩)
    go_roundw
    case rel=>exact⟨k+1,by omega,by go_num,zA (zNC HT.out HLK.out HZ.out),hb.ext hx4,hx.trans hx4⟩
    case measure=>simp[intOf];omega
   ·have hz2:(zAH l wd hi !=0)=true:=by simpa using hz
    have HF:=zA (zNJ HT.out HLK.out rfl hz);generalize zAH l wd hi=ce at *;generalize vO l wd hi=rn at *;clear hz;go_wp2_with (go_at_call 40;(with_reducible refine (HCU.out).mono ?_);rintro e w4 ⟨A4,c4,rfl,hs4,hx4⟩)
    go_ret;rw[HF.out];exact⟨rfl,hx.trans hx4⟩
  ·have ek:k=n:=by omega
   have HF:Hid (zBG (L.map fun l=>zAH l wd hi)=0):=zA (zHj _ (fun y hy=>by
    obtain⟨x,hx,rfl⟩:=wD6.1 hy
    exact HT.out x (by rw[ek, ←HL.out,wJ3];exact hx)))
   go_wp2_with fail;go_ret;rw[HF.out];exact⟨rfl,hx⟩
def fchk_in3 (wd hi:Int) (L:List (List Int)) (A:Option Addr) (n c:Nat) (w:World) (hr:RowsS w A n c L) (h0:xW wd hi=0) (h:n=3) :
 Calls Tryz.prog 29 #[.agg (xG wd hi (.slice A n c))] w fun e w'=>e=.returned (.int .i64 (zBG (L.map fun l=>zAH l wd hi)))∧Ext w w':=by
 have HM:=zA (fun W=>zFK wd hi W);rw[h0] at HM;clear h0;have HC:=zA (fun W g (h:Blk W g 31 (xG wd hi (.slice A n c)))=>zBH h);have hn1:((n:Int) !=1)=true:=by simp;omega
 have hn3:((n:Int) !=3)=false:=by simp;omega
 have hn9:n≤3:=by omega
 have HL:=zA hr.len;clear h;have HCUT:=zA (fun W v l (hv:SL W 1 v l.length (ints l))=>cut_any l v wd hi W hv);unfold zJk at HCUT;generalize zCn wd hi=mz at *;generalize xG wd hi (.slice A n c)=pv at *;go_enter Tryz.func29,Tryz.ntmps29
 go_wp2_with (first
  | (refine wBox rfl 31 (.tmp 0) rfl pv rfl ?_;intro w1 g hb1 hx1 hg;obtain⟨c0,c1,c2⟩:=HC.out _ _ hb1)
  | (go_at_call 65;(with_reducible refine (HM.out _).mono ?_);rintro e w2 ⟨rfl,hx2⟩;have hb2:=hb1.ext hx2;have hx12:=hx1.trans hx2;clear c0 c1 c2;obtain⟨d0,d1,d2⟩:=HC.out _ _ hb2))
 clear d0 d1 d2
 go_loopw [33] (fun i wr=> ∃ (k:Nat),k≤n∧i=.int .i64 (k:Int)∧Hid (∀ x∈L.take k,zAH x wd hi=0)∧Blk wr g 31 pv∧Ext w wr) (fun i _=>n-(intOf i).toNat)
 case atStart=>exact⟨0,by omega,rfl,zA (by simp),hb2,hx12⟩
 case round =>
  clear hb2 hx12;obtain⟨k,hk,rfl,HT,hb,hx⟩:=hrel
  by_cases hlt:k<n
  ·obtain⟨ad,l,B,d,rfl,hl,hab,hcell,hsl⟩:=(hr.ext hx).get hlt;have HLK:=zA hl;obtain⟨d0,d1,d2⟩:=HC.out _ _ hb;clear hl;have HCU:=zA (HCUT.out wr _ l hsl)
   by_cases hz:zAH l wd hi=0
   ·have HZ:=zA hz;rw[hz] at HCU;clear hz;generalize vO l wd hi=rn at *;go_wp2_with (go_at_call 40;(with_reducible refine (HCU.out).mono ?_);rintro e w4 ⟨A4,c4,rfl,hs4,hx4⟩)
    go_roundw
    case rel=>exact⟨k+1,by omega,by go_num,zA (zNC HT.out HLK.out HZ.out),hb.ext hx4,hx.trans hx4⟩
    case measure=>simp[intOf];omega
   ·have hz2:(zAH l wd hi !=0)=true:=by simpa using hz
    have HF:=zA (zNJ HT.out HLK.out rfl hz);generalize zAH l wd hi=ce at *;generalize vO l wd hi=rn at *;clear hz;go_wp2_with (go_at_call 40;(with_reducible refine (HCU.out).mono ?_);rintro e w4 ⟨A4,c4,rfl,hs4,hx4⟩)
    go_ret;rw[HF.out];exact⟨rfl,hx.trans hx4⟩
  ·have ek:k=n:=by omega
   have HF:Hid (zBG (L.map fun l=>zAH l wd hi)=0):=zA (zHj _ (fun y hy=>by
    obtain⟨x,hx,rfl⟩:=wD6.1 hy
    exact HT.out x (by rw[ek, ←HL.out,wJ3];exact hx)))
   go_wp2_with fail;go_ret;rw[HF.out];exact⟨rfl,hx⟩
def zKt (wd hi:Int) (L:List (List Int)) (A:Option Addr) (n c:Nat) (w:World) (hr:RowsS w A n c L) :
 Calls Tryz.prog 29 #[.agg (xG wd hi (.slice A n c))] w fun e w'=>e=.returned (.int .i64 (zET wd hi L))∧Ext w w':=by
 unfold zET
 by_cases h0:xW wd hi=0
 ·rw[if_pos h0]
  by_cases h:L.length=1∨L.length=3
  ·rw[if_pos h];rw[hr.len] at h;rcases h with h | h
   ·exact fchk_in1 wd hi L A n c w hr h0 h
   ·exact fchk_in3 wd hi L A n c w hr h0 h
  ·rw[if_neg h];exact zSa wd hi L A n c w hr h0 h
 ·rw[if_neg h0];exact zSz wd hi L A n c w hr h0
section
variable {o:Oper} {a:Act}
def zSB (W:World) (p:Addr) (A:Option Addr) (n c:Nat) (h:W.cell? p=some (.slice A n c)):(Instr.loadAt 45 (.pointer (some p))).run Tryz.prog W=.ok (.slice A n c) W:=by
 go_simp
def run_loadU (W:World) (p:Addr) (z:Int) (h:W.cell? p=some (.int .u8 z)):(Instr.loadAt 5 (.pointer (some p))).run Tryz.prog W=.ok (.int .u8 z) W:=by
 go_simp
def zCt {x:Operand} (ho:o.op=.load 45 x) {p:Addr} (hx:a.eval x=.pointer (some p)) {A:Option Addr} {n c:Nat} {w:World} (h:w.cell? p=some (.slice A n c)):(execOp a.eval o).run Tryz.prog w=.ok (.value (.slice A n c)) w:=by
 simp[execOp,ho,hx,zSB w p A n c h]
def zKp {x:Operand} (ho:o.op=.load 5 x) {p:Addr} (hx:a.eval x=.pointer (some p)) {z:Int} {w:World} (h:w.cell? p=some (.int .u8 z)):(execOp a.eval o).run Tryz.prog w=.ok (.value (.int .u8 z)) w:=by
 simp[execOp,ho,hx,run_loadU w p z h]
def zIJ (y:Nat) (h:y<256) (W:World):(convert 5 3 (.int .u8 (y:Int))).run Tryz.prog W=.ok (.int .i64 (y:Int)) W:=by
 have e:IntKind.i64.wrap (y:Int)=(y:Int):=IntWalk.i64_in _ (by omega);go_simp
def zMk {P:Program} {x:Operand} {t u:TypeId} (ho:o.op=.convert t u x) {v v':Value} (hx:a.eval x=v) (hr: ∀ w,(convert t u v).run P w=.ok v' w) (w:World):(execOp a.eval o).run P w=.ok (.value v') w:=by
 simp[execOp,ho,hx,hr]
end
def SL.upd0 {S:Nat→Prop} {w w':World} {size n c:Nat} {A:Option Addr} {xs:List Value} (h:SL w size (.slice A n c) n xs) (hu:Upd S w w') (hS:0<n→ ∀ ad,A=some ad→ ¬S ad.block):SL w' size (.slice A n c) n xs:=by
 by_cases h0:0<n
 ·exact h.upd hu (hS h0)
 ·obtain⟨A',c',e1,h1,h2,h3,h4⟩:=h;exact⟨A',c',e1,h1,h2,h3,fun hn=>absurd hn h0⟩
def zAK {S:Nat→Prop} {w w':World} {base:Nat} {e:TypeId} {size n:Nat} {v:Value} {xs:List Value} (h:w.ownsRow base e size v n xs) (hu:Upd S w w') (hS: ∀ x,S x→x<base):w'.ownsRow base e size v n xs:=by
 obtain⟨hl,hh⟩:=h;refine⟨hl, ?_⟩;rcases hh with ⟨rfl,rfl⟩ | ⟨g,cap,cur,rfl,h1,hg,h2⟩
 ·exact .inl ⟨rfl,rfl⟩
 ·exact .inr ⟨g,cap,cur,rfl,h1,(hu.block g (Blk.lt (w:=w) (t:=e) (cs:=cur) hg) (fun hx=>by have:=hS g hx;omega)).trans hg,h2⟩
def blkF (b q:List Int):List Int:=(vI zCN (uN toC b).1 q 40000).1
def zPX (b q:List Int) (hq:q.length=64):(blkF b q).length=64:=zFh zCN _ q 40000 (zCy toC b) hq
def zCx (q X:List Int):Nat→List Int
 | 0=>[]
 | k+1=>zCx q X k++blkF (uC X k) q
def zCG (q:List Int) (wd hi:Int) (R:List (List Int)):List Int:=R.flatMap fun l=>zCx q (zCB l wd hi) (vO l wd hi)
def zBE (wd hi:Int) (R:List (List Int)):Nat:=(R.map fun l=>vO l wd hi).sum
def zOv (q X:List Int) (hq:q.length=64): ∀ k,(zCx q X k).length=k*64
 | 0=>rfl
 | k+1=>by rw[zCx,wF3,zOv q X hq k,zPX _ _ hq];omega
def zRD (q:List Int) (wd hi:Int) (R:List (List Int)) (k:Nat) (l:List Int) (h:R[k]? =some l):zCG q wd hi (R.take (k+1))=zCG q wd hi (R.take k)++zCx q (zCB l wd hi) (vO l wd hi):=by
 unfold zCG;rw[wD4,h,wJ4];simp
def zRA (wd hi:Int) (R:List (List Int)) (k:Nat) (l:List Int) (h:R[k]? =some l):zBE wd hi (R.take (k+1))=zBE wd hi (R.take k)+vO l wd hi:=by
 unfold zBE;rw[wD4,h,wH4,wJ5];simp
def zLx (q:List Int) (hq:q.length=64) (wd hi:Int): ∀ R:List (List Int),(zCG q wd hi R).length=zBE wd hi R*64
 | []=>rfl
 | l::R=>by
   have ih:=zLx q hq wd hi R;unfold zCG zBE at ih ⊢;rw[wJ6,wF3,ih,zOv q _ hq,wC8,wJ7,wJ8]
def zPW (xs:List Int) (wd hi:Int):vO xs wd hi≤64:=by
 unfold vO;split
 ·rename_i h;rcases zFo xs wd hi with ⟨-,hE⟩ | ⟨a,b,rfl,rfl,h1,h2,h3,h4, -, -⟩
  ·rw[hE] at h;cases h
  ·unfold qD;have:(a+7)/8≤8:=by omega
   have:(b+7)/8≤8:=by omega
   exact wI6 (by simpa using ‹(a+7)/8≤8›) (by simpa using this)
 ·omega
def zIh (wd hi:Int): ∀ (R:List (List Int)) (k:Nat),zBE wd hi (R.take k)≤k*64
 | _,0=>by simp[zBE]
 | [],k+1=>by simp[zBE]
 | l::R,k+1=>by
   have:=zIh wd hi R k;have:=zPW l wd hi;unfold zBE at *;rw[wJ9,wC8,wJ7];omega
def tto:Int→Int→Int→Four:=fun r g b=>zAU toM [r,g,b]
def tto_by:zGU 39 tto:=fun a b c w=>zSS a b c w
def goesTo:zAp Tryz.prog 39:=⟨_,Tryz.func39,rfl,rfl⟩
def zJr: ∀ (l:List Int),zBG l=0→ ∀ e∈l,e=0
 | [],_,_,h=>by cases h
 | e::r,h,x,hx=>by
   unfold zBG at h
   by_cases h0:e=0
   ·rw[if_pos h0] at h;rcases wK0.1 hx with rfl | hx
    ·exact h0
    ·exact zJr r h x hx
   ·rw[if_neg h0] at h;exact absurd h h0
def picE_ok {wd hi:Int} {L:List (List Int)} (h:zET wd hi L=0):(L.length=1∨L.length=3)∧ ∃ N,N≤1000000∧ ∀ l∈L,l.length=N:=by
 unfold zET at h
 by_cases h0:xW wd hi=0
 ·rw[if_pos h0] at h
  by_cases h1:L.length=1∨L.length=3
  ·rw[if_pos h1] at h;obtain⟨a,b,rfl,rfl,a1,a2,b1,b2⟩:=zHg h0;refine⟨h1,a*b,wD1 (wI6 a2 b2) (by omega),fun l hl=> ?_⟩;have he:=zJr _ h (zAH l a b) (wD6.2 ⟨l,hl,rfl⟩);rcases zFo l a b with ⟨-,hE⟩ | ⟨a',b',ea,eb, -, -, -, -, -,⟨hl',hE⟩ | ⟨hl',hq,hE⟩ | ⟨hl',hq,hE⟩⟩
   ·rw[hE] at he;cases he
   ·rw[hE] at he;cases he
   ·rw[hE] at he;cases he
   ·obtain rfl:a=a':=by omega
    obtain rfl:b=b':=by omega
    exact hl'
  ·rw[if_neg h1] at h;cases h
 ·rw[if_neg h0] at h;cases h
def zN (wd hi:Int) (L:List (List Int)) (q:List Int):Int×Nat×List Int :=
 if zET wd hi L=0 then (if zR q 1 255 then (0,zBE wd hi (zBy tto L),zCG q wd hi (zBy tto L)) else (1,0,[])) else (zET wd hi L,0,[])
def FrmIs (z:Int×Nat×List Int) (w:World) (e:Ending) (w':World):Prop:= ∃ A c,e=.returned (.tuple #[.slice A z.2.1 c,.int .i64 z.1])∧SL w' 64 (.slice A z.2.1 c) z.2.1 (ints z.2.2)∧Ext w w'
def FrmIs.err {z:Int×Nat×List Int} {w w':World} {E:Int} (h:z=(E,0,[])) (hx:Ext w w'):FrmIs z w (.returned (.tuple #[.slice none 0 0,.int .i64 E])) w':=by
 subst h;exact⟨none,0,rfl,SL.nil w' 64,hx⟩
def zRf (wd hi:Int) (L:List (List Int)) (A:Option Addr) (n c:Nat) (q:List Int) (hq:q.length=64) (w:World) (hr:RowsS w A n c L) (hE:zET wd hi L≠0) :
 Calls Tryz.prog 13 #[.agg (xG wd hi (.slice A n c)),.agg (bv q)] w (FrmIs (zN wd hi L q) w):=by
 have HC:=zA (fun W (hx:Ext w W)=>zKt wd hi L A n c W (hr.ext hx));have HE:Hid (∀ W,Ext w W→FrmIs (zN wd hi L q) w (.returned (.tuple #[.slice none 0 0,.int .i64 (zET wd hi L)])) W):=zA (fun W hx=>FrmIs.err (by unfold zN;rw[if_neg hE]) hx);generalize zN wd hi L q=fz at *;generalize zET wd hi L=E at *;have hps:=zA (vX wd hi (.slice A n c));generalize xG wd hi (.slice A n c)=pv at *;generalize bv q=qv at *;clear hr;go_enter Tryz.func13,Tryz.ntmps13
 go_wp2_with (first
  | ((with_reducible apply gS 2);refine wBox rfl 31 (.tmp 0) rfl pv rfl ?_;intro w1 g1 hb1 hx1 hg1)
  | ((with_reducible apply gS 3);refine wBox rfl 33 (.tmp 1) rfl qv rfl ?_;intro w2 g2 hb2 hx2 hg2;have hb12:=hb1.ext hx2;have hx12:=hx1.trans hx2)
  | ((with_reducible apply gS 14);refine wLdB rfl 31 (.tmp 2) rfl g1 rfl hb12 _ Tryz.underlying31 rfl 3 jT hps.out ?_)
  | (go_at_call 29;(with_reducible refine (HC.out _ hx12).mono ?_);rintro e w3 ⟨rfl,hx3⟩)
  | ((with_reducible apply gS 17);refine zB rfl (.bool false) (jQ rfl rfl rfl (by simpa using hE)) ?_)
  | ((with_reducible apply gS 21);refine zB rfl (.bool true) (jZ rfl rfl rfl (by simpa using hE)) ?_))
 go_ret2;exact HE.out _ (hx12.trans hx3)
def zOd (wd hi:Int) (L:List (List Int)) (A:Option Addr) (n c:Nat) (q:List Int) (hq:q.length=64) (w:World) (hr:RowsS w A n c L) (hE:zET wd hi L=0) (hqq:zR q 1 255=false) :
 Calls Tryz.prog 13 #[.agg (xG wd hi (.slice A n c)),.agg (bv q)] w (FrmIs (zN wd hi L q) w):=by
 have HC:=zA (fun W (hx:Ext w W)=>zKt wd hi L A n c W (hr.ext hx));rw[hE] at HC;have HE:Hid (∀ W,Ext w W→FrmIs (zN wd hi L q) w (.returned (.tuple #[.slice none 0 0,.int .i64 1])) W):=zA (fun W hx=>FrmIs.err (by unfold zN;rw[if_pos hE,hqq];rfl) hx);have HQ:=zA (fun W=>zCb q W hq);rw[hqq,if_neg (by decide)] at HQ;generalize zN wd hi L q=fz at *;have hps:=zA (vX wd hi (.slice A n c));have hqs:=zA ((zK q).trans hq);generalize xG wd hi (.slice A n c)=pv at *;generalize bv q=qv at *;clear hr hE;go_enter Tryz.func13,Tryz.ntmps13
 go_wp2_with (first
  | ((with_reducible apply gS 2);refine wBox rfl 31 (.tmp 0) rfl pv rfl ?_;intro w1 g1 hb1 hx1 hg1)
  | ((with_reducible apply gS 3);refine wBox rfl 33 (.tmp 1) rfl qv rfl ?_;intro w2 g2 hb2 hx2 hg2;have hb12:=hb1.ext hx2;have hx12:=hx1.trans hx2)
  | ((with_reducible apply gS 14);refine wLdB rfl 31 (.tmp 2) rfl g1 rfl hb12 _ Tryz.underlying31 rfl 3 jT hps.out ?_)
  | (go_at_call 29;(with_reducible refine (HC.out _ hx12).mono ?_);rintro e w3 ⟨rfl,hx3⟩;have hb23:=hb2.ext hx3;have hx13:=hx12.trans hx3)
  | ((with_reducible apply gS 18);refine wLdB rfl 33 (.tmp 3) rfl g2 rfl hb23 _ Tryz.underlying33 rfl 64 zH hqs.out ?_)
  | (go_at_call 15;(with_reducible refine (HQ.out _).mono ?_);rintro e w4 ⟨rfl,hx4⟩))
 go_ret2;exact HE.out _ (hx13.trans hx4)
def zPj (wd hi:Int) (L:List (List Int)) (A:Option Addr) (n c:Nat) (q:List Int) (hq:q.length=64) (w:World) (hr:RowsS w A n c L) (hE:zET wd hi L=0) (hqq:zR q 1 255=true) :
 Calls Tryz.prog 13 #[.agg (xG wd hi (.slice A n c)),.agg (bv q)] w (FrmIs (zN wd hi L q) w):=by
 have HC:=zA (fun W (hx:Ext w W)=>zKt wd hi L A n c W (hr.ext hx));rw[hE] at HC;obtain⟨hL,N,hN,hNl⟩:=picE_ok hE;have HT:=zA (fun W (hx:Ext w W)=>zSP 39 tto tto_by goesTo A n c L N W hL hNl hN (hr.ext hx));have hR3:=zNI tto L hL;have HZ:Hid (zN wd hi L q=(0,zBE wd hi (zBy tto L),zCG q wd hi (zBy tto L))):=zA (by unfold zN;rw[if_pos hE,hqq];rfl);have HQ:=zA (fun W=>zCb q W hq);rw[hqq,if_pos rfl] at HQ;unfold TurnIs at HT;have HCU:=zA (fun (l:List Int) v W (h:SL W 1 v l.length (ints l))=>cut_anyF l v wd hi W h);unfold CutFr at HCU;have HWA:=zA (fun (b:List Int) W (h:b.length=64)=>zSl b W h);have HDW:=zA (fun (b:List Int) W (h:b.length=64)=>down_any b q W h hq);have HQL:=zA hq;generalize zBy tto L=R at *;generalize zN wd hi L q=fz at *;have hps:=zA (vX wd hi (.slice A n c));have hqs:=zA ((zK q).trans hq);have HPC:=zA (fun (W:World) g (h:Blk W g 31 (xG wd hi (.slice A n c)))=>zBH h);generalize xG wd hi (.slice A n c)=pv at *;have HQV:Hid (bv q=bv q):=zA rfl;generalize hqv:bv q=qv at *;clear hr hE hL hNl hN HQV;go_enter Tryz.func13,Tryz.ntmps13
 go_upto_region 8 with (first
  | ((with_reducible apply gS 2);refine wBox rfl 31 (.tmp 0) rfl pv rfl ?_;intro w1 g1 hb1 hx1 hg1)
  | ((with_reducible apply gS 3);refine wBox rfl 33 (.tmp 1) rfl qv rfl ?_;intro w2 g2 hb2 hx2 hg2;have hb12:=hb1.ext hx2;have hx12:=hx1.trans hx2)
  | ((with_reducible apply gS 14);refine wLdB rfl 31 (.tmp 2) rfl g1 rfl hb12 _ Tryz.underlying31 rfl 3 jT hps.out ?_)
  | (go_at_call 29;(with_reducible refine (HC.out _ hx12).mono ?_);rintro e w3 ⟨rfl,hx3⟩;have hb13:=hb12.ext hx3;have hb23:=hb2.ext hx3;have hx13:=hx12.trans hx3)
  | ((with_reducible apply gS 18);refine wLdB rfl 33 (.tmp 3) rfl g2 rfl hb23 _ Tryz.underlying33 rfl 64 zH hqs.out ?_)
  | (go_at_call 15;(with_reducible refine (HQ.out _).mono ?_);rintro e w4 ⟨rfl,hx4⟩;have hb14:=hb13.ext hx4;have hb24:=hb23.ext hx4;have hx14:=hx13.trans hx4;have hpc:=HPC.out _ _ hb14)
  | ((with_reducible apply gS 24);refine xC rfl (.slice A n c) (zEN rfl rfl hpc.2.2) ?_)
  | (go_at_call 38;(with_reducible refine (HT.out _ hx14).mono ?_);rintro e w5 ⟨TA,m,tc,rfl,hrows,hx5⟩;have hb15:=hb14.ext hx5;have hb25:=hb24.ext hx5;have hx15:=hx14.trans hx5))
 have hRm:=hrows.len;have HRW:=zA hrows;have hm3:m≤3:=by omega
 have own0:w5.ownsRow w5.heap.size 33 64 (.slice none 0 0) 0 (ints (zCG q wd hi (R.take 0))):=zAt _ _ _ _;have hg1':g1<w5.heap.size:=hb15.lt;have hg2':g2<w5.heap.size:=hb25.lt;clear hrows hpc
 go_loopw [7,27] (fun ov iv wr=> ∃ (k:Nat) (OA:Option Addr) (on oc:Nat),k≤m∧iv=.int .i64 (k:Int)∧ov=.slice OA on oc∧Hid (on=zBE wd hi (R.take k))∧wr.ownsRow w5.heap.size 33 64 (.slice OA on oc) on (ints (zCG q wd hi (R.take k)))∧Blk wr g1 31 pv∧Blk wr g2 33 qv∧Ext w5 wr∧Ext w wr) (fun _ i _=>m-(intOf i).toNat)
 case atStart=>exact⟨0,none,0,0,by omega,rfl,rfl,zA rfl,own0,hb15,hb25,Ext.refl _,hx15⟩
 case round =>
  clear own0 hb15 hb25 hx15;obtain⟨k,OA,on,oc,hk,rfl,rfl,hon,ho,hb1,hb2,hx5r,hx⟩:=hrel
  by_cases hkm:k<m
  ·obtain⟨ad,l,LA,ld,rfl,hRk,hab,hcell,hsl⟩:=HRW.out.get hkm;have hcl:wr.cell? (ad.add (k*1))=some (.slice LA l.length ld):=by rw[wF1,(hx5r.cell (by rw[yN];exact hab)).trans hcell]
   have hsl':=hsl.ext hx5r;have hfn:=zA (zRA wd hi R k l hRk);have hfz:=zA (zRD q wd hi R k l hRk);have hon64:on≤192:=by have:=zIh wd hi R k;rw[←hon.out] at this;omega
   have hcle:=zPW l wd hi;have HCl:=zA (HCU.out l (.slice LA l.length ld) wr hsl');have hcz:=cutRZ_len l wd hi;have hpc:=HPC.out _ _ hb1;generalize vO l wd hi=cn at *;generalize zCB l wd hi=CZ at *;generalize l.length=ll at *;generalize zAH l wd hi=ce at *;clear hcell hsl hsl' hRk
   go_upto_region 12 with (first
    | ((with_reducible apply gS 29);refine zB rfl (.pointer (some (ad.add (k*1)))) (vJ (i:=k) Tryz.underlying29 zAb rfl rfl rfl hkm) ?_)
    | ((with_reducible apply gS 30);refine xC rfl (.slice LA ll ld) (vU rfl rfl hcl) ?_)
    | ((with_reducible apply gS 34);refine xC rfl (.int .i64 wd) (zV rfl rfl hpc.1) ?_)
    | ((with_reducible apply gS 36);refine xC rfl (.int .i64 hi) (zV rfl rfl hpc.2.1) ?_)
    | (go_at_call 40;(with_reducible refine HCl.out.mono ?_);rintro e w6 ⟨CA,cc,rfl,hcs,hx6,hfr⟩;have ho6:=yR ho hx6;have hb16:=hb1.ext hx6;have hb26:=hb2.ext hx6;have hx56:=hx5r.trans hx6;have hx06:=hx.trans hx6))
   have hne0: ∀ ad,CA=some ad→(Value.slice OA (on+0) oc).ownBlock≠some ad.block:=fun ad e q=>by have:=hfr ad e;have:=(ho.lt ad.block (by simpa using q)).2;omega
   have own1:w6.ownsRow w5.heap.size 33 64 (.slice OA on oc) (on+0) (ints (zCG q wd hi (R.take k)++zCx q CZ 0)):=by simpa [zCx] using ho6
   clear ho hb1 hb2 hx hcl hpc
   go_loopw [7,42] (fun ov iv wr=> ∃ (j:Nat) (OA:Option Addr) (oc:Nat),j≤cn∧iv=.int .i64 (j:Int)∧ov=.slice OA (on+j) oc∧wr.ownsRow w5.heap.size 33 64 (.slice OA (on+j) oc) (on+j) (ints (zCG q wd hi (R.take k)++zCx q CZ j))∧SL wr 64 (.slice CA cn cc) cn (ints CZ)∧(∀ ad,CA=some ad→(Value.slice OA (on+j) oc).ownBlock≠some ad.block)∧Blk wr g1 31 pv∧Blk wr g2 33 qv∧Ext w5 wr∧Ext w wr) (fun _ i _=>cn-(intOf i).toNat)
   case atStart=>exact⟨0,OA,oc,by omega,rfl,rfl,own1,hcs,hne0,hb16,hb26,hx56,hx06⟩
   case round =>
    clear own1 ho6 hb16 hb26 hx06 hx56 hx5r hcs hne0;obtain⟨j,OA,oc,hj,rfl,rfl,ho,hcs,hne,hb1,hb2,hx5r,hx⟩:=hrel
    by_cases hjc:j<cn
    ·obtain⟨bd,hbd,hbb,hca⟩:=hcs.part hjc
     have hca':zAJ wr (bd.add (j*64)) (ints (uC CZ j)):=by
      have e:((ints CZ).drop (j*64)).take 64=ints (uC CZ j):=by unfold ints uC;rw[List.map_drop.symm,List.map_take.symm]
      rw[←e];exact hca
     obtain rfl:=hbd;have hpl:(uC CZ j).length=64:=by unfold uC;rw[wI8,wK1,hcz];omega
     have HMB:Hid (zCx q CZ (j+1)=zCx q CZ j++blkF (uC CZ j) q):=zA (by rw[zCx]);have HBF:Hid (blkF (uC CZ j) q=(vI zCN (uN toC (uC CZ j)).1 q 40000).1):=zA rfl;have hBL:=zPX (uC CZ j) q HQL.out;generalize uC CZ j=P at *;have HW:=zA (fun W=>HWA.out P W hpl);have hwl:=zCy toC P;have HD:=zA (fun W=>HDW.out (uN toC P).1 W hwl);rw[←HBF.out] at HD;generalize (uN toC P).1=P2 at *;generalize (uN toC P).2=ew at *;generalize (vI zCN P2 q 40000).2=ed at *;generalize hP3:blkF P q=P3 at *;clear hca hP3 HBF;have s1:=zA ((zK P).trans hpl);have s2:=zA ((zK P2).trans hwl);have s3:=zA ((zK P3).trans hBL);have o1:=zA (xE P);have o2:=zA (xE P2);have o3:=zA (xE P3);have hipl:(ints P).length=64:=by rw[yA,hpl]
     have hzs:Hid ((Value.agg (bv yO)).cells.size=64):=zA zero48c
     go_wp2_with (first
      | ((with_reducible apply gS 44);refine zB rfl (.pointer (some (bd.add (j*64)))) (vJ (i:=j) Tryz.underlying25 zH rfl rfl rfl hjc) ?_)
      | ((with_reducible apply gS 45);refine yI (by rfl) 33 (.tmp 44) rfl (bd.add (j*64)) rfl (ints P) _ hca' Tryz.underlying33 rfl (by rw[hipl];exact zH) ?_)
      | ((with_reducible apply gS 13);refine wAlo' rfl (some 13) rfl 33 rfl _ qU ?_;intro w8 g8 hb8 hx8 hg8;have h18:=hb1.ext hx8;have h28:=hb2.ext hx8;have ho8:=yR ho hx8)
      | ((with_reducible apply gT 13 45);refine wStB rfl 33 (.tmp 13) (.tmp 45) rfl g8 (bv P) rfl rfl hb8 64 zH s1.out hzs.out o1.out ?_;intro w9 hb9 hg9;have hx9:=hx8.grown hg9 hg8)
      | ((with_reducible apply gS 47);refine wLdB rfl 33 (.tmp 13) rfl g8 rfl hb9 _ Tryz.underlying33 rfl 64 zH s1.out ?_)
      | (go_at_call 41;(with_reducible refine (HW.out _).mono ?_);rintro e w10 ⟨rfl,hx10⟩;have hb10:=hb9.ext hx10;have hxa:=hx9.trans hx10)
      | ((with_reducible apply gT 13 49);refine wStB rfl 33 (.tmp 13) (.tmp 49) rfl g8 (bv P2) rfl rfl hb10 64 zH s2.out s1.out o2.out ?_;intro w11 hb11 hg11;have hxb:=hxa.grown hg11 hg8;have hq11:=hb2.ext hxb)
      | ((with_reducible apply gS 52);refine wLdB rfl 33 (.tmp 13) rfl g8 rfl hb11 _ Tryz.underlying33 rfl 64 zH s2.out ?_)
      | ((with_reducible apply gS 53);refine wLdB rfl 33 (.tmp 3) rfl g2 rfl hq11 _ Tryz.underlying33 rfl 64 zH hqs.out ?_)
      | (go_at_call 42;(with_reducible refine (HD.out _).mono ?_);rintro e w12 ⟨rfl,hx12'⟩;have hb12':=hb11.ext hx12';have hxc:=hxb.trans hx12')
      | ((with_reducible apply gT 13 55);refine wStB rfl 33 (.tmp 13) (.tmp 55) rfl g8 (bv P3) rfl rfl hb12' 64 zH s3.out s2.out o3.out ?_;intro w13 hb13' hg13;have hxd:=hxc.grown hg13 hg8)
      | ((with_reducible apply gS 58);refine wLdB rfl 33 (.tmp 13) rfl g8 rfl hb13' _ Tryz.underlying33 rfl 64 zH s3.out ?_)
      | ((with_reducible apply gS 59);refine wLit1 rfl 25 33 (.tmp 58) rfl (some 59) rfl Tryz.underlying25 64 zH zero48' (.agg (bv P3)) rfl s3.out (by omega) (by omega) ?_;intro w14 g14 hb14' hx14' hg14;have hxe:=hxd.trans hx14';have ho14:=yR ho hxe)
      | ((with_reducible apply gS 60);refine wApf zMW rfl (.tmp 57) (.tmp 59) rfl w5.heap.size (.slice OA (on+j) oc) (on+j) (ints (zCG q wd hi (R.take k)++zCx q CZ j)) rfl ho14 _ 1 (ints P3) rfl (blk_sl1 hb14' hBL) (qY P3) (by omega) (by omega) (hx5r.trans hxe).size ?_;intro A15 c15 w15 ho15 hg15 hr15;have hug:=zO hg15))
     have hlo:=ho14.lt;have hBx: ∀ y,(Value.slice OA (on+j) oc).ownBlock=some y→w5.heap.size≤y:=fun y hy=>(hlo y hy).1
     have hb1z:=hb1.ext hxe;have hb2z:=hb2.ext hxe;go_roundw
     case rel =>
      refine⟨j+1,A15,c15,by omega,by go_num,by rw[wA0], ?_, ?_⟩
      ·rw[HMB.out, ←wG2,uR];exact ho15
      ·have hx5z:=Below.grown (hx5r.trans hxe) hg15 (hx5r.trans hxe).size (fun y hy=>hBx y hy);have hxz:=Below.grown (hx.trans hxe) hg15 (hx.trans hxe).size (fun y hy=>by have:=hBx y hy;have:=hx5r.size;have:=hg1';omega);refine⟨(hcs.ext hxe).upd0 hug (fun _ ad' e q=>hne ad' e q),fun ad' e q=> ?_,hug.blk hb1z (fun q=>by have:=hBx _ q;have:=hg1';omega),hug.blk hb2z (fun q=>by have:=hBx _ q;have:=hg2';omega),hx5z,hxz⟩;rw[zBv] at q;rcases hr15 with h | h
       ·rw[h] at q;exact hne ad' e q
       ·rw[h] at q;injection q with q
        injection e with e
        subst e;have:=hxe.size;omega
     case measure=>simp[intOf];omega
    ·obtain rfl:j=cn:=by omega
     go_wp2_with fail;go_roundw
     case rel=>exact⟨k+1,OA,on+j,oc,by omega,by go_num,rfl,zA (by rw[hfn.out,hon.out]),by rw[hfz.out];exact ho,hb1,hb2,hx5r,hx⟩
     case measure=>simp[intOf];omega
  ·obtain rfl:k=m:=by omega
   rw[←hRm,wJ3] at hon ho;go_wp2_with fail;go_ret2;rw[HZ.out];refine⟨OA,oc, ?_, ?_,hx⟩
   ·rw[←hon.out];rfl
   ·show SL wr 64 (.slice OA (zBE wd hi R) oc) (zBE wd hi R) _
    rw[←hon.out];exact (jF ho).1
def zCj (wd hi:Int) (L:List (List Int)) (A:Option Addr) (n c:Nat) (q:List Int) (hq:q.length=64) (w:World) (hr:RowsS w A n c L) :
 Calls Tryz.prog 13 #[.agg (xG wd hi (.slice A n c)),.agg (bv q)] w (FrmIs (zN wd hi L q) w):=by
 by_cases hE:zET wd hi L=0
 ·cases hqq:zR q 1 255 with
  | false=>exact zOd wd hi L A n c q hq w hr hE hqq
  | true=>exact zPj wd hi L A n c q hq w hr hE hqq
 ·exact zRf wd hi L A n c q hq w hr hE
def zGC (wd hi:Int) (L:List (List Int)) (q:List Int) (hq:q.length=64):(zN wd hi L q).2.2.length=(zN wd hi L q).2.1*64:=by
 unfold zN;split
 ·split
  ·exact zLx q hq wd hi _
  ·rfl
 ·rfl
abbrev Tok:=Int×Int×Int
def xN (t:Tok):List Value:=[.int .i64 t.1,.int .i64 t.2.1,.int .i64 t.2.2]
def qC (T:List Tok):List Value:=T.flatMap xN
def zKc (T:List Tok):(qC T).length=T.length*3:=by
 induction T with
 | nil=>rfl
 | cons t T ih=>simp only[qC,wJ6,wF3] at ih ⊢;rw[ih];simp[xN];omega
def toks_at (T:List Tok) (k:Nat) (h:k<T.length) :
 (qC T)[k*3]? =some (.int .i64 T[k].1)∧(qC T)[k*3+1]? =some (.int .i64 T[k].2.1)∧(qC T)[k*3+2]? =some (.int .i64 T[k].2.2):=by
 induction T generalizing k with
 | nil=>simp at h
 | cons t T ih =>
   have e:qC (t::T)=xN t++qC T:=by simp[qC]
   rw[e]
   cases k with
   | zero=>simp[xN]
   | succ k =>
     have h2:k<T.length:=by simpa using h
     obtain⟨a,b,c⟩:=ih k h2;refine⟨?_, ?_, ?_⟩
     ·rw[wG8 (by simp[xN];omega),show (k+1)*3-(xN t).length=k*3 by simp[xN];omega,a];simp
     ·rw[wG8 (by simp[xN];omega),show (k+1)*3+1-(xN t).length=k*3+1 by simp[xN];omega,b];simp
     ·rw[wG8 (by simp[xN];omega),show (k+1)*3+2-(xN t).length=k*3+2 by simp[xN];omega,c];simp
def zNV (ad:Addr) (i j:Nat) (hj:0<j):(⟨(ad.add i).block,(ad.add i).off+j,none⟩:Addr)=ad.add (i+j):=by
 unfold Addr.add;rw[if_neg (show ¬i+j=0 by omega)];split
 ·next h=>subst h;simp
 ·simp;omega
def SL.tok {w:World} {A:Option Addr} {n c:Nat} {T:List Tok} {k:Nat} (h:SL w 3 (.slice A n c) n (qC T)) (hk:k<n) (hn:T.length=n) (hkl:k<T.length) :
 ∃ ad,A=some ad∧ad.block<w.heap.size∧w.cell? (ad.add (k*3))=some (.int .i64 T[k].1)∧w.cell? ⟨(ad.add (k*3)).block,(ad.add (k*3)).off+1,none⟩=some (.int .i64 T[k].2.1)∧w.cell? ⟨(ad.add (k*3)).block,(ad.add (k*3)).off+2,none⟩=some (.int .i64 T[k].2.2):=by
 obtain⟨A',c',e,_,_,h2,h3⟩:=h;injection e with e1 e2 e3
 subst e1;obtain⟨ad,ea,hb,hc⟩:=h3 (by omega);obtain⟨a,b,d⟩:=toks_at T k hkl;exact⟨ad,ea,hb,hc _ _ a,by rw[zNV _ _ 1 (by omega)];exact hc _ _ b,by rw[zNV _ _ 2 (by omega)];exact hc _ _ d⟩
end Go.Proofs.YtkggcjdlpendfaaGreatDoor
namespace Go.Proofs
open Go.Shelf
def Tryz.lays125_ren:Go.Shelf.Ren:=⟨fun | 125=>221 | 128=>224 | 129=>225 | n=>n,fun | 46=>116 | 3=>3 | 51=>261 | 53=>201 | 4=>4 | 5=>5 | 9=>9 | n=>n,fun | n=>n⟩
def Tryz.lays125:Go.Proofs.Lays.n125 Tryz.prog Tryz.lays125_ren:={
 mixed:=by kernel_rfl
 f125:=Tryz.func221.trans (congrArg some (by kernel_rfl))
 f128:=Tryz.func224.trans (congrArg some (by kernel_rfl))
 f129:=Tryz.func225.trans (congrArg some (by kernel_rfl))
 t3:=Tryz.underlying3
 a3:=Tryz.isAgg3
 z3:=Tryz.sizeOf3
 v3:=Tryz.zeroValue3
 t4:=Tryz.underlying4
 a4:=Tryz.isAgg4
 z4:=Tryz.sizeOf4
 v4:=Tryz.zeroValue4
 t5:=Tryz.underlying5
 a5:=Tryz.isAgg5
 z5:=Tryz.sizeOf5
 v5:=Tryz.zeroValue5
 t9:=Tryz.underlying9
 a9:=Tryz.isAgg9
 z9:=Tryz.sizeOf9
 v9:=Tryz.zeroValue9
 t46:=Tryz.underlying116
 a46:=Tryz.isAgg116
 z46:=Tryz.sizeOf116
 v46:=Tryz.zeroValue116
 t51:=Tryz.underlying261
 a51:=Tryz.isAgg261
 z51:=Tryz.sizeOf261
 v51:=Tryz.zeroValue261
 t53:=Tryz.underlying201
 a53:=Tryz.isAgg201
 z53:=Tryz.sizeOf201
 v53:=Tryz.zeroValue201 }
def Tryz.bits_Len (x:Int) (w:World) (h0:0≤x) (h1:x≤18446744073709551615) :
 Calls Tryz.prog 221 #[.int .u64 x] w fun e w'=>e=.returned (.int .i64 (Lib.bitLen x.toNat))∧w'=w:=Any.bits_Len Tryz.lays125 x w h0 h1
open Go.RowKit Go.Lib in

open Go.RowKit Go.Lib in

open Go.RowKit Go.Lib in

open Go.RowKit Go.Lib in

open Go.RowKit Go.Lib in

open Go.RowKit Go.Lib in

open Go.RowKit Go.Lib in

open Go.RowKit Go.Lib in

open Go.RowKit Go.Lib in

open Go.RowKit Go.Lib in

open Go.RowKit Go.Lib in

def Tryz.lays185_ren:Go.Shelf.Ren:=⟨fun | 185=>178 | 187=>200 | 115=>85 | 253=>201 | 224=>202 | 254=>203 | 255=>213 | 291=>214 | n=>n,fun | 37=>45 | 3=>3 | 4=>4 | 0=>0 | 5=>5 | 46=>116 | 9=>9 | 146=>262 | 51=>261 | n=>n,fun | 1=>0 | n=>n⟩
def Tryz.lays185:Go.Proofs.Lays.n185 Tryz.prog Tryz.lays185_ren:={
 mixed:=by kernel_rfl
 f115:=Tryz.func85.trans (congrArg some (by kernel_rfl))
 f185:=Tryz.func178.trans (congrArg some (by kernel_rfl))
 f187:=Tryz.func200.trans (congrArg some (by kernel_rfl))
 f224:=Tryz.func202.trans (congrArg some (by kernel_rfl))
 f253:=Tryz.func201.trans (congrArg some (by kernel_rfl))
 f254:=Tryz.func203.trans (congrArg some (by kernel_rfl))
 f255:=Tryz.func213.trans (congrArg some (by kernel_rfl))
 f291:=Tryz.func214.trans (congrArg some (by kernel_rfl))
 t0:=Tryz.underlying0
 a0:=Tryz.isAgg0
 z0:=Tryz.sizeOf0
 v0:=Tryz.zeroValue0
 t3:=Tryz.underlying3
 a3:=Tryz.isAgg3
 z3:=Tryz.sizeOf3
 v3:=Tryz.zeroValue3
 t4:=Tryz.underlying4
 a4:=Tryz.isAgg4
 z4:=Tryz.sizeOf4
 v4:=Tryz.zeroValue4
 t5:=Tryz.underlying5
 a5:=Tryz.isAgg5
 z5:=Tryz.sizeOf5
 v5:=Tryz.zeroValue5
 t9:=Tryz.underlying9
 a9:=Tryz.isAgg9
 z9:=Tryz.sizeOf9
 v9:=Tryz.zeroValue9
 t37:=Tryz.underlying45
 a37:=Tryz.isAgg45
 z37:=Tryz.sizeOf45
 v37:=Tryz.zeroValue45
 t46:=Tryz.underlying116
 a46:=Tryz.isAgg116
 z46:=Tryz.sizeOf116
 v46:=Tryz.zeroValue116
 t51:=Tryz.underlying261
 a51:=Tryz.isAgg261
 z51:=Tryz.sizeOf261
 v51:=Tryz.zeroValue261
 t146:=Tryz.underlying262
 a146:=Tryz.isAgg262
 z146:=Tryz.sizeOf262
 v146:=Tryz.zeroValue262
 g1:=by kernel_rfl }
open Go.RowKit Go.Lib in

open Go.RowKit Go.Lib in

open Go.RowKit Go.Lib in

open Go.RowKit Go.Lib in

open Go.RowKit Go.Lib in

def Tryz.laysSlB13_ren:Go.Shelf.Ren:=⟨fun | 13=>177 | 24=>198 | 25=>199 | 12=>178 | 31=>212 | 19=>200 | 20=>85 | 21=>201 | 22=>202 | 23=>203 | 29=>213 | 30=>214 | n=>n,fun | 22=>45 | 3=>3 | 4=>4 | 0=>0 | 5=>5 | 9=>9 | 33=>116 | 40=>262 | 39=>261 | n=>n,fun | 0=>0 | n=>n⟩
def Tryz.laysSlB13:Go.Proofs.SlLaysB.n13 Tryz.prog Tryz.laysSlB13_ren:={
 mixed:=by kernel_rfl
 f13:=Tryz.func177.trans (congrArg some (by kernel_rfl))
 f25:=Tryz.func199.trans (congrArg some (by kernel_rfl))
 t0:=Tryz.underlying0
 a0:=Tryz.isAgg0
 z0:=Tryz.sizeOf0
 v0:=Tryz.zeroValue0
 t3:=Tryz.underlying3
 a3:=Tryz.isAgg3
 z3:=Tryz.sizeOf3
 v3:=Tryz.zeroValue3
 t4:=Tryz.underlying4
 a4:=Tryz.isAgg4
 z4:=Tryz.sizeOf4
 v4:=Tryz.zeroValue4
 t5:=Tryz.underlying5
 a5:=Tryz.isAgg5
 z5:=Tryz.sizeOf5
 v5:=Tryz.zeroValue5
 t22:=Tryz.underlying45
 a22:=Tryz.isAgg45
 z22:=Tryz.sizeOf45
 v22:=Tryz.zeroValue45 }
open Go.RowKit Go.Lib in

open Go.RowKit Go.Lib in

def Tryz.bytes_Count_one_at (a:Addr) (n c b2 o2 d:Nat) (xs:List Int) (cv:Int) (w:World) (hx:xs.length=n) (hc: ∀ i,i<n→w.cell? (a.add i)=some (.int .u8 (xs.getD i 0))) (hc2:w.cell? ⟨b2,o2,none⟩=some (.int .u8 cv)) :
 Calls Tryz.prog 177 #[.slice (some a) n c,.slice (some ⟨b2,o2,none⟩) 1 d] w fun e w'=>e=.returned (.int .i64 (Lib.countByte (Lib.bytesOf xs) cv.toNat.toUInt8))∧w'=w:=Any.bytes_Count_one_at Tryz.laysSlB13 a n c b2 o2 d xs cv w hx hc hc2
open Go.RowKit Go.Lib in

def Tryz.bytes_Count_one_nil (b2 o2 d:Nat) (cv:Int) (w:World) (hc2:w.cell? ⟨b2,o2,none⟩=some (.int .u8 cv)) :
 Calls Tryz.prog 177 #[.slice none 0 0,.slice (some ⟨b2,o2,none⟩) 1 d] w fun e w'=>e=.returned (.int .i64 0)∧w'=w:=Any.bytes_Count_one_nil Tryz.laysSlB13 b2 o2 d cv w hc2
open Go.RowKit Go.Lib in

open Go.RowKit Go.Lib in

open Go.Proofs Go.RowKit Go.Lib in

open Go.Proofs Go.RowKit Go.Lib in

open Go.RowKit Go.Lib in

open Go.RowKit Go.Lib in

open Go.RowKit Go.Lib in

open Go.Proofs Go.RowKit Go.Lib in

def Tryz.bytes_Index_at (a1 a2:Addr) (n c1 k c2:Nat) (xs ys:List Int) (m:Int) (w:World) (hx:xs.length=n) (hy:ys.length=k) (hr1: ∀ x∈xs,0≤x∧x<256) (hr2: ∀ y∈ys,0≤y∧y<256) (hc1: ∀ i,i<n→w.cell? (a1.add i)=some (.int .u8 (xs.getD i 0))) (hc2: ∀ i,i<k→w.cell? (a2.add i)=some (.int .u8 (ys.getD i 0))) (hcap:n≤c1) (hs:n<4294967281) (hk:k≤9223372036854775807) (hm:w.cell? ⟨0,0,none⟩=some (.int .i64 m)) :
 Calls Tryz.prog 178 #[.slice (some a1) n c1,.slice (some a2) k c2] w fun e w'=>e=.returned (.int .i64 (Lib.index (Lib.bytesOf xs) (Lib.bytesOf ys)))∧ ∃ q,w'=w.drewN q:=Any.bytes_Index_at Tryz.lays185 a1 a2 n c1 k c2 xs ys m w hx hy hr1 hr2 hc1 hc2 hcap hs hk hm
open Go.Proofs Go.RowKit Go.Lib in

open Go.Proofs Go.RowKit Go.Lib in

def Tryz.laysSlC13_ren:Go.Shelf.Ren:=⟨fun | 13=>177 | 24=>198 | 25=>199 | 12=>178 | 31=>212 | 19=>200 | 20=>85 | 21=>201 | 22=>202 | 23=>203 | 29=>213 | 30=>214 | n=>n,fun | 22=>45 | 3=>3 | 4=>4 | 0=>0 | 5=>5 | 9=>9 | 33=>116 | 40=>262 | 39=>261 | n=>n,fun | 0=>0 | n=>n⟩
def Tryz.laysSlC13:Go.Proofs.SlLaysC.n13 Tryz.prog Tryz.laysSlC13_ren:={
 mixed:=by kernel_rfl
 f12:=Tryz.func178.trans (congrArg some (by kernel_rfl))
 f13:=Tryz.func177.trans (congrArg some (by kernel_rfl))
 f19:=Tryz.func200.trans (congrArg some (by kernel_rfl))
 f20:=Tryz.func85.trans (congrArg some (by kernel_rfl))
 f21:=Tryz.func201.trans (congrArg some (by kernel_rfl))
 f22:=Tryz.func202.trans (congrArg some (by kernel_rfl))
 f23:=Tryz.func203.trans (congrArg some (by kernel_rfl))
 f25:=Tryz.func199.trans (congrArg some (by kernel_rfl))
 f29:=Tryz.func213.trans (congrArg some (by kernel_rfl))
 f30:=Tryz.func214.trans (congrArg some (by kernel_rfl))
 t0:=Tryz.underlying0
 a0:=Tryz.isAgg0
 z0:=Tryz.sizeOf0
 v0:=Tryz.zeroValue0
 t3:=Tryz.underlying3
 a3:=Tryz.isAgg3
 z3:=Tryz.sizeOf3
 v3:=Tryz.zeroValue3
 t4:=Tryz.underlying4
 a4:=Tryz.isAgg4
 z4:=Tryz.sizeOf4
 v4:=Tryz.zeroValue4
 t5:=Tryz.underlying5
 a5:=Tryz.isAgg5
 z5:=Tryz.sizeOf5
 v5:=Tryz.zeroValue5
 t9:=Tryz.underlying9
 a9:=Tryz.isAgg9
 z9:=Tryz.sizeOf9
 v9:=Tryz.zeroValue9
 t22:=Tryz.underlying45
 a22:=Tryz.isAgg45
 z22:=Tryz.sizeOf45
 v22:=Tryz.zeroValue45
 t33:=Tryz.underlying116
 a33:=Tryz.isAgg116
 z33:=Tryz.sizeOf116
 v33:=Tryz.zeroValue116
 t39:=Tryz.underlying261
 a39:=Tryz.isAgg261
 z39:=Tryz.sizeOf261
 v39:=Tryz.zeroValue261
 t40:=Tryz.underlying262
 a40:=Tryz.isAgg262
 z40:=Tryz.sizeOf262
 v40:=Tryz.zeroValue262
 g0:=by kernel_rfl }
open Go.RowKit Go.Lib in

def Tryz.bytes_Count_at (a1 a2:Addr) (n c1 k c2:Nat) (xs ys:List Int) (m:Int) (w:World) (hx:xs.length=n) (hy:ys.length=k) (hr1: ∀ x∈xs,0≤x∧x<256) (hr2: ∀ y∈ys,0≤y∧y<256) (hc1: ∀ i,i<n→w.cell? (a1.add i)=some (.int .u8 (xs.getD i 0))) (hc2: ∀ i,i<k→w.cell? (a2.add i)=some (.int .u8 (ys.getD i 0))) (hcap:n≤c1) (hs:n<4294967281) (hk:k≤9223372036854775807) (h2:2≤k) (hm:w.cell? ⟨0,0,none⟩=some (.int .i64 m)) :
 Calls Tryz.prog 177 #[.slice (some a1) n c1,.slice (some a2) k c2] w fun e w'=>e=.returned (.int .i64 (Lib.count (Lib.bytesOf xs) (Lib.bytesOf ys)))∧ ∃ q,w'=w.drewN q:=Any.bytes_Count_at Tryz.laysSlC13 a1 a2 n c1 k c2 xs ys m w hx hy hr1 hr2 hc1 hc2 hcap hs hk h2 hm
open Go.RowKit Go.Lib in

def Tryz.bytes_Count_nil (p2:Option Addr) (k c2:Nat) (w:World) (h2:2≤k) (hk:k≤9223372036854775807) :
 Calls Tryz.prog 177 #[.slice none 0 0,.slice p2 k c2] w fun e w'=>e=.returned (.int .i64 0)∧w'=w:=Any.bytes_Count_nil Tryz.laysSlC13 p2 k c2 w h2 hk
end Go.Proofs
namespace Go.Proofs.YtkggcjdlpendfaaGreatDoor
open Go.RowKit
def zRu {P:Program} {f:FuncId} {args:Array Value} {w:World} {v:Value} (h:Calls P f args w fun e w'=>e=.returned v∧w'=w):Calls P f args w fun e w'=>e=.returned v∧w=w' :=
 h.mono fun _ _ ⟨a,b⟩=>⟨a,b.symm⟩
def szN (n:Int):Nat:=Lib.bitLen n.natAbs
def zCu (n:Int) (h1: -4095≤n) (h2:n≤4095):szN n≤12∧n.natAbs<2 ^ szN n∧(n≠0→1≤szN n∧2 ^ (szN n-1)≤n.natAbs):=by
 have hb:n.natAbs<2 ^ 12:=by omega
 refine⟨Lib.bitLen_le _ 12 (by omega) hb, ?_,fun h0=> ?_⟩
 ·by_cases h0:n=0
  ·subst h0;decide
  ·exact (Lib.bitLenAux_bounds 64 n.natAbs (by omega) (by omega)).2.2
 ·have:=Lib.bitLenAux_bounds 64 n.natAbs (by omega) (by omega);exact⟨this.1,this.2.1⟩
def szN_uniq (n:Int) (h1: -4095≤n) (h2:n≤4095) (k:Nat) (ha:n.natAbs<2 ^ k) (hb: ∀ j,j<k→2 ^ j≤n.natAbs):k=szN n:=by
 obtain⟨-,g2,g3⟩:=zCu n h1 h2;rcases Nat.lt_trichotomy k (szN n) with h | h | h
 ·by_cases h0:n=0
  ·subst h0;have:szN 0=0:=by decide
   omega
  ·have:=(g3 h0).2;have:=wI4 (n:=2) (by omega) (show k≤szN n-1 by omega);omega
 ·exact h
 ·have:=hb (szN n) h;omega
def qQ (n:Int):Int×Int×Int:=if -4095≤n∧n≤4095 then (szN n,if n<0 then n+2 ^ szN n-1 else n,0) else (0,0,1)
def zQY (n:Int) (w:World):Calls Tryz.prog 216 #[.int .i64 n] w fun e w'=>e=.returned (.tuple #[.int .i64 (qQ n).1,.int .i64 (qQ n).2.1,.int .i64 (qQ n).2.2])∧w=w':=by
 by_cases hin: -4095≤n∧n≤4095
 ·obtain⟨h1,h2⟩:=hin;obtain⟨g1, -, -⟩:=zCu n h1 h2;have hl:=zA (fun W=>zRu (Tryz.bits_Len n.natAbs W (by omega) (by omega)));have hf:qQ n=((szN n:Int),(if n<0 then n+2 ^ szN n-1 else n),(0:Int)):=by unfold qQ;rw[if_pos ⟨h1,h2⟩]
  rw[hf];have hsz:Lib.bitLen ((n.natAbs:Int)).toNat=szN n:=by simp[szN]
  have hmx:(n.natAbs:Int)=max n (-n):=by omega
  rw[hsz,hmx] at hl;clear hf hsz hmx;have p1:=zEQ (szN n) 12 g1;have p2:=zAx (szN n);have p3:(2:Int) ^ 12=4096:=by decide
  rw[p3] at p1;clear p3;generalize szN n=s at *
  by_cases hn:n<0
  ·rw[if_pos hn];go_enter Tryz.func216,Tryz.ntmps216;go_wp2_with (go_at_call 221;refine (hl.out _).mono ?_;rintro e w' ⟨rfl,rfl⟩)
   refine bodyPost_ret (results_tmp3 rfl _ _ _) rfl ?_;refine⟨?_,rfl⟩;have e:n+((2:Int) ^ s-1)=n+2 ^ s-1:=by omega
   show Ending.returned (Value.tuple #[Value.int .i64 s,Value.int .i64 (n+((2:Int) ^ s-1)),Value.int .i64 0])=_
   rw[e]
  ·rw[if_neg hn];go_enter Tryz.func216,Tryz.ntmps216;go_wp2_with (go_at_call 221;refine (hl.out _).mono ?_;rintro e w' ⟨rfl,rfl⟩)
   refine bodyPost_ret (results_tmp3 rfl _ _ _) rfl ?_;exact⟨rfl,rfl⟩
 ·have hf:qQ n=(0,0,1):=by unfold qQ;rw[if_neg hin]
  rw[hf];clear hf
  by_cases hn:n≤ -4096
  ·have hd:decide (n≤ -4096)=true:=by simpa using hn
   clear hin;go_enter Tryz.func216,Tryz.ntmps216;go_wp2_with fail;refine bodyPost_ret (results_tmp3 rfl _ _ _) rfl ?_;exact⟨rfl,rfl⟩
  ·have hd:decide (n≤ -4096)=false:=by simpa using hn
   have h4:4096≤n:=by omega
   clear hin;go_enter Tryz.func216,Tryz.ntmps216;go_wp2_with fail;refine bodyPost_ret (results_tmp3 rfl _ _ _) rfl ?_;exact⟨rfl,rfl⟩
def zOb (n:Int) (w:World):Calls Tryz.prog 186 #[.int .i64 n] w fun e w'=>e=.returned (.tuple #[.int .i64 (qQ n).1,.int .i64 (qQ n).2.1,.int .i64 (qQ n).2.2])∧w=w':=by
 by_cases hin: -4095≤n∧n≤4095
 ·have hb:=jS.2 hin;obtain⟨h1,h2⟩:=hin;have HS:=zA (zCu n h1 h2);have HU:=zA (szN_uniq n h1 h2);have hf:qQ n=((szN n:Int),(if n<0 then n+2 ^ szN n-1 else n),(0:Int)):=by unfold qQ;rw[if_pos ⟨h1,h2⟩]
  have HF:=zA hf;have HM:Hid ((n.natAbs:Int)=max n (-n)):=zA (by omega);clear hf;go_enter Tryz.func186,Tryz.ntmps186;go_wp2_with (go_at_call 54;refine (zAR _ _ _ _).mono ?_;rintro e w' ⟨rfl,rfl⟩)
  go_loop [5] (fun i=> ∃ k:Nat,k≤szN n∧i=.int .i64 k) (fun i=>13-(intOf i).toNat)
  case atStart=>exact⟨0,by omega,rfl⟩
  case round =>
   obtain⟨k,hk,rfl⟩:=hrel;have hk12:k≤12:=by have:=HS.out.1;omega
   have p1:=zEQ k 12 hk12;have p2:=zAx k;have p3:(2:Int) ^ 12=4096:=by decide
   rw[p3] at p1;clear p3
   by_cases hlt:(2:Int) ^ k≤max n (-n)
   ·have hks:k<szN n:=by
     rcases wA3 k (szN n) with h | h
     ·exact h
     ·have e:k=szN n:=by omega
      have h9:=HS.out.2.1;have h8:=HM.out;rw[←e] at h9;have h7:(n.natAbs:Int)<2 ^ k:=by exact_mod_cast h9
      omega
    go_wp2_with (go_at_call 128;refine (zIR _ _ (by omega)).mono ?_;rintro e w' ⟨rfl,rfl⟩)
    go_round
    case rel=>exact⟨k+1,by omega,by go_num⟩
    case measure=>simp[intOf];omega
   ·have hks:k=szN n:=by
     have h8:=HM.out;have h7:(n.natAbs:Int)<2 ^ k:=by omega
     have h6:n.natAbs<2 ^ k:=by exact_mod_cast h7
     rcases wA3 k (szN n) with h | h
     ·have h9:=HS.out.2.2
      by_cases h0:n=0
      ·subst h0;have:szN 0=0:=by decide
       omega
      ·have h5:=(h9 h0).2;have:=wI4 (n:=2) (by omega) (show k≤szN n-1 by omega);omega
     ·omega
    have HK:=zA hks;clear hks
    by_cases hn:n<0
    ·go_wp2_with (go_at_call 128;refine (zIR _ _ (by omega)).mono ?_;rintro e w' ⟨rfl,rfl⟩)
     refine bodyPost_ret (results_tmp3 rfl _ _ _) rfl ?_;refine⟨?_,rfl⟩;rw[HF.out, ←HK.out,if_pos hn];rfl
    ·go_wp2_with (go_at_call 128;refine (zIR _ _ (by omega)).mono ?_;rintro e w' ⟨rfl,rfl⟩)
     refine bodyPost_ret (results_tmp3 rfl _ _ _) rfl ?_;refine⟨?_,rfl⟩;rw[HF.out, ←HK.out,if_neg (by omega)];rfl
 ·have hb:inB n (-4095) 4095=false:=zAI.2 (by omega);have hf:qQ n=(0,0,1):=by unfold qQ;rw[if_neg hin]
  rw[hf];clear hf hin;go_enter Tryz.func186,Tryz.ntmps186;go_wp2_with (go_at_call 54;refine (zAR _ _ _ _).mono ?_;rintro e w' ⟨rfl,rfl⟩)
  refine bodyPost_ret (results_tmp3 rfl _ _ _) rfl ?_;exact⟨rfl,rfl⟩
def zEm (s:Int×Int×Bool):Int×Int×Bool :=
 if s.2.2 then (if s.2.1=7 then (s.1+1,s.2.1,false) else if s.1=0 then (s.1,s.2.1+1,false) else (s.1-1,s.2.1+1,true))
 else (if s.1=7 then (s.1,s.2.1+1,true) else if s.2.1=0 then (s.1+1,s.2.1,true) else (s.1+1,s.2.1-1,false))
def zst:Nat→Int×Int×Bool
 | 0=>(0,0,true)
 | k+1=>zEm (zst k)
def vK (k:Nat):Int:=8*(zst k).1+(zst k).2.1
def zigL:List Int:=(List.range 64).map vK
def zst_bd (k:Nat) (h:k<64):0≤(zst k).1∧(zst k).1≤7∧0≤(zst k).2.1∧(zst k).2.1≤7 :=
 (by decide+kernel: ∀ j:Fin 64,0≤(zst j.val).1∧(zst j.val).1≤7∧0≤(zst j.val).2.1∧(zst j.val).2.1≤7) ⟨k,h⟩
def zCQ:zigL.length=64:=by simp[zigL]
def zMw (k:Nat) (h:k<64):zigL.take (k+1)=zigL.take k++[vK k]:=by
 rw[wC3 (by rw[zCQ];exact h)];simp[zigL]
def zKj (k:Nat) (h:k<zigL.length):zigL[k]=vK k:=by simp[zigL]
def zHW (k:Nat) (h:k<64):0≤vK k∧vK k<64:=by
 have:=zst_bd k h;unfold vK;omega
def zEU (s k:Nat):List Int:=(List.range k).filterMap fun (j:Nat) =>
 let r:Int:=if s%2=0 then 7-(j:Int) else (j:Int)
 if 0≤(s:Int)-r∧(s:Int)-r≤7 then some (8*r+(s-r)) else none
def zrow_succ (s k:Nat):zEU s (k+1)=zEU s k++(if 0≤(s:Int)-(if s%2=0 then 7-(k:Int) else k)∧(s:Int)-(if s%2=0 then 7-(k:Int) else k)≤7 then [8*(if s%2=0 then 7-(k:Int) else k)+(s-(if s%2=0 then 7-(k:Int) else k))] else []):=by
 unfold zEU;rw[wH3,List.filterMap_append];congr 1
 simp only[List.filterMap_cons,List.filterMap_nil]
 by_cases h:0≤(s:Int)-(if s%2=0 then 7-(k:Int) else k)∧(s:Int)-(if s%2=0 then 7-(k:Int) else k)≤7
 ·rw[if_pos h,if_pos h]
 ·rw[if_neg h,if_neg h]
def zES (s:Nat):List Int:=(List.range s).flatMap fun s=>zEU s 8
def zall_succ (s:Nat):zES (s+1)=zES s++zEU s 8:=by
 unfold zES;rw[wH3,wJ4];simp
def zall_15:zES 15=zigL:=by decide+kernel
def zlen (s k:Nat) (hs:s≤15) (hk:k≤8):(zES s++zEU s k).length≤200 :=
 (by decide+kernel: ∀ (s:Fin 16) (k:Fin 9),(zES s.val++zEU s.val k.val).length≤200) ⟨s,by omega⟩ ⟨k,by omega⟩
def qR (zs:List Int) (k:Nat):List Int:=(List.range k).foldl (fun l i=>l.set (vK i).toNat (zs.getD i 0)) (List.replicate 64 0)
def zHT (zs:List Int) (k:Nat):qR zs (k+1)=(qR zs k).set (vK k).toNat (zs.getD k 0):=by
 unfold qR;rw[wH3,List.foldl_append];rfl
def uL (zs:List Int) (k:Nat):(qR zs k).length=64:=by
 induction k with
 | zero=>simp[qR]
 | succ k ih=>rw[zHT];simpa using ih
def zto (zs:List Int):List Int:=(List.range 64).map fun i=>zs.getD (vK i).toNat 0
def jK (zs:List Int):(zto zs).length=64:=by simp[zto]
def zto_set (zs:List Int) (k:Nat) (h:k<64):((zto zs).take k++List.replicate (64-k) 0).set k (zs.getD (vK k).toNat 0)=(zto zs).take (k+1)++List.replicate (64-(k+1)) 0:=by
 have hl:((zto zs).take k).length=k:=by rw[wI8,jK];omega
 rw[wF8 _ _ (by omega),hl,wF9,wC3 (by rw[jK];exact h)];obtain⟨m,hm⟩: ∃ m,64-k=m+1:=⟨64-k-1,by omega⟩
 have hm2:64-(k+1)=m:=by omega
 rw[hm,hm2,wG0,wG1];simp[zto]
def jH (r n:Int):Tok:=(16*r+(qQ n).1,(qQ n).1,(qQ n).2.1)
def long:Tok:=(240,0,0)
def zDy (s:List Tok×Nat) (n:Int):List Tok×Nat:=if n=0 then (s.1,s.2+1) else (s.1++List.replicate (s.2/16) long++[jH ((s.2%16:Nat):Int) n],0)
def vS (t0:Tok) (l:List Int) (k:Nat):List Tok×Nat:=(l.take k).foldl zDy ([t0],0)
def zIn (t0:Tok) (l:List Int):vS t0 l 0=([t0],0):=rfl
def zFd (t0:Tok) (l:List Int) (k:Nat) (h:k<l.length):vS t0 l (k+1)=zDy (vS t0 l k) l[k]:=by
 unfold vS;rw[wC3 h,List.foldl_append];rfl
def zMi (t0:Tok) (l:List Int): ∀ k,k≤l.length→k≤64→(vS t0 l k).2≤k∧(vS t0 l k).1.length≤1+64*k:=by
 intro k
 induction k with
 | zero=>intro _ _;simp[zIn]
 | succ k ih =>
   intro h1 h2;obtain⟨a,b⟩:=ih (by omega) (by omega);rw[zFd t0 l k (by omega)];unfold zDy;split
   ·simp;omega
   ·simp;omega
def zEd {s:List Tok×Nat} {n:Int} (h:n=0):zDy s n=(s.1,s.2+1):=by unfold zDy;rw[if_pos h]
def zGA {s:List Tok×Nat} {n:Int} (h:n≠0):zDy s n=(s.1++List.replicate (s.2/16) long++[jH ((s.2%16:Nat):Int) n],0):=by unfold zDy;rw[if_neg h]
def yC (before:Int) (z:List Int):List Tok :=
 let s:=vS (jH 0 (z.getD 0 0-before)) (z.drop 1) 63
 if 0<s.2 then s.1++[(0,0,0)] else s.1
end Go.Proofs.YtkggcjdlpendfaaGreatDoor
