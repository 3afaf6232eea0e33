/- Part 7. -/
import Derived.Maps.OwnSet
import Derived.Outline
import Derived.Test.YtkggcjdlpendfaaGreatDoorMTopAcrossCard6
namespace Go.Proofs.YtkggcjdlpendfaaGreatDoor
set_option linter.all false
set_option maxRecDepth 20000
set_option maxHeartbeats 8000000
open Go.RowKit
section
section
variable {σ:Type} {C:σ→Prop}
structure Eat (f:FuncId) (cap:Array Value) (Inv:World→σ→(Nat→Prop)→Prop) (step:σ→Tok→Bool→Int×σ) (C:σ→Prop):Prop where
 goes:zAd Tryz.prog f
 back: ∀ l s,C (qK step l s).2→C s
 ask: ∀ t b s F W,C (step s t b).2→zBH t→Inv W s F→Calls Tryz.prog f (#[.agg (qA t).toArray,.bool b]++cap) W fun e w'=>e=.returned (.int .i64 (step s t b).1)∧Upd F W w'∧ ∃ F',Inv w' (step s t b).2 F'∧ ∀ x,F' x→F x∨W.heap.size≤x
 keep: ∀ s F W W',Inv W s F→Ext W W'→Inv W' s F
 old: ∀ s F W x,Inv W s F→F x→x<W.heap.size
variable {f:FuncId} {cap:Array Value} {Inv:World→σ→(Nat→Prop)→Prop} {step:σ→Tok→Bool→Int×σ}
theorem Eat.ext (E:Eat f cap Inv step C) {s:σ} {F:Nat→Prop} {W W':World} (h:Inv W s F) (hx:Ext W W'):Inv W' s F:=E.keep s F W W' h hx
def EachIs (Inv:World→σ→(Nat→Prop)→Prop) (F:Nat→Prop) (w:World) (r:Int×σ) (e:Ending) (w':World):Prop :=
 e=.returned (.int .i64 r.1)∧Upd F w w'∧ ∃ F',Inv w' r.2 F'∧ ∀ x,F' x→F x∨w.heap.size≤x
theorem EachIs.mk {F F':Nat→Prop} {w w':World} {r:Int×σ} {n:Int} {s:σ} (hr:r=(n,s)) (hu:Upd F w w') (hi:Inv w' s F') (hF: ∀ x,F' x→F x∨w.heap.size≤x):EachIs Inv F w r (.returned (.int .i64 n)) w':=by
 subst hr
 exact⟨rfl,hu,F',hi,hF⟩
theorem zIN (zs:List Int):(ints zs).toArray=bv zs:=rfl
theorem SL.updq {S:Nat→Prop} {w w':World} {size n c:Nat} {A:Option Addr} {xs:List Value} (h:SL w size (.slice A n c) n xs) (hu:Upd S w w') (hS: ∀ ad,A=some ad→0<n→ ¬S ad.block):SL w' size (.slice A n c) n xs:=by
 obtain⟨A',c',e,h1,h2,h3,h4⟩:=h
 injection e with e1 e2 e3
 subst e1 e3
 refine⟨_,_,rfl,h1,h2,h3,fun h0=> ?_⟩
 obtain⟨ad,rfl,hb,hc⟩:=h4 h0
 refine⟨ad,rfl,wA1 hb hu.size,fun j u hj=> ?_⟩
 rw[←hc j u hj]
 unfold World.cell?
 rw[yK,hu.block _ hb (hS ad rfl h0)]
theorem zigAt_0:vE 0=0:=by decide
theorem zPC (zs:List Int):(zto zs).getD 0 0=zs.getD 0 0:=by
 have h:0<(zto zs).length:=by rw[vL];omega
 rw[wF4,wA2 h]
 simp[zto,zigAt_0]
theorem zKl {zs:List Int} {lo hi:Int} (h:zM zs lo hi=true) (k:Nat) (h1:lo≤0) (h2:0≤hi):lo≤zs.getD k 0∧zs.getD k 0≤hi:=by
 rw[wF4]
 cases hq:zs[k]? with
 | none=>exact⟨h1,h2⟩
 | some y=>exact zY.1 h y (wK6 hq)
theorem befAt_in {Z:List Int} {k:Nat} (h: ∀ j,j<k→zM (xC Z j) (-2047) 2047=true): -2047≤uS Z k∧uS Z k≤2047:=by
 unfold uS
 split
 ·omega
 ·exact zKl (h (k-1) (by omega)) 0 (by omega) (by omega)
theorem befAt_0 (Z:List Int):uS Z 0=0:=if_pos rfl
theorem zSM (Z:List Int) (k:Nat):uS Z (k+1)=(xC Z k).getD 0 0:=if_neg (by omega)
theorem zLa (Z:List Int) (k:Nat):zAp Z k=yI (uS Z k) (zto (xC Z k)):=rfl
attribute [local irreducible] yI zto bv qM zAq qK xT zAp uS xC
theorem zPD (E:Eat f cap Inv step C) (A:Option Addr) (n c:Nat) (Z:List Int) (hZ:Z.length=n*64) (w:World) (hs:SL w 64 (.slice A n c) n (ints Z)) (s:σ) (F:Nat→Prop) (hI:Inv w s F) (hA: ∀ ad,A=some ad→0<n→ ¬F ad.block) (hCR:C (xW step n Z s).2) :
 Calls Tryz.prog 145 #[.slice A n c,.func (.func f) #[] cap] w (EachIs Inv F w (xW step n Z s)):=by
 have hs':=hs
 obtain⟨A',c',he,hnc,hc2, -, -⟩:=hs'
 injection he with he1 he2 he3
 subst he1 he3
 by_cases hn:400<n
 ·have hR:xW step n Z s=(2,s):=if_pos hn
  have HR:=zA hR
  generalize xW step n Z s=R at *
  clear hR hs
  go_enter Tryz.func145,Tryz.ntmps145
  go_wp2_with fail
  go_ret
  exact EachIs.mk HR.out (Upd.refl _ _) hI (fun x h=>.inl h)
 ·have hR:xW step n Z s=if zM Z (-2047) 2047=false then (1,s) else qK step (xT Z n 0) s:=if_neg hn
  have HR:=zA hR
  have HCR:=zA hCR
  generalize xW step n Z s=R at *
  clear hR hCR
  have hn4:n≤400:=by omega
  have HZ:=zA hZ
  clear hn hZ
  have HAL:=zA (show (Tryz.prog.info? 33).bind (·.zero)=some (.agg (bv (List.replicate 64 0))) from qY)
  have hz0:=zA (show (Value.agg (bv (List.replicate 64 0))).cells.size=64 by rw[show (Value.agg (bv (List.replicate 64 0))).cells=bv (List.replicate 64 0) from rfl,zJ];rfl)
  generalize bv (List.replicate 64 0)=cz at *
  go_enter Tryz.func145,Tryz.ntmps145
  go_wp2_with fail
  go_loopw [22] (fun i wr=> ∃ k:Nat,k≤n∧i=.int .i64 (k:Int)∧Ext w wr∧Hid (∀ j,j<k→zM (xC Z j) (-2047) 2047=true)) (fun i _=>n-(intOf i).toNat)
  case atStart=>exact⟨0,by omega,rfl,Ext.refl w,zA (fun j h=>by omega)⟩
  case round =>
   obtain⟨k,hk,rfl,hx,HP⟩:=hrel
   by_cases hlt:k<n
   ·obtain⟨ad,rfl,hab,hca⟩:=(hs.ext hx).part hlt
    have hbl:=zIC Z n k HZ.out hlt
    have e:((ints Z).drop (k*64)).take 64=ints (xC Z k):=by simp[ints,xC,wH2,wH1]
    rw[e] at hca
    clear e
    have HCA:=zA hca
    have HB:=zA hbl
    have HSZ:=zA (show (bv (xC Z k)).size=64 by rw[zJ];exact hbl)
    have HO1:=zA (xK (xC Z k))
    have HBV:=zA (zIN (xC Z k))
    clear hca hbl
    cases hal:zM (xC Z k) (-2047) 2047 with
    | false =>
      have HT:=zA (fun W=>rtok_bad 0 (xC Z k) W HB.out (.inr ⟨by decide,hal⟩))
      have HRE:Hid (R=(1,s)):=zA (by
       rw[HR.out,if_pos]
       cases hq:zM Z (-2047) 2047 with
       | false=>rfl
       | true=>have:=(zQc Z n HZ.out).1 hq k hlt;rw[hal] at this;cases this)
      have HCB:Hid (∀ W,zAS W (ad.add (k*64)) (ints (xC Z k))→zAS W (ad.add (k*64)) (bv (xC Z k)).toList):=zA (fun W h=>by rw[←HBV.out];simpa using h)
      clear hal
      go_wp2_with (first
       | ((with_reducible apply gS 25);refine yW (by rfl) 33 (.tmp 24) rfl (ad.add (k*64)) rfl (ints (xC Z k)) _ HCA.out Tryz.underlying33 rfl (by rw[yA,HB.out];exact zG) ?_;rw[HBV.out])
       | ((with_reducible apply gS 6);refine wAlo' rfl (some 6) rfl 33 rfl _ HAL.out ?_;intro w1 g1 hb1 hx1 hg1)
       | ((with_reducible apply gT 6 25);refine wStB rfl 33 (.tmp 6) (.tmp 25) rfl _ _ rfl rfl hb1 64 zG HSZ.out hz0.out HO1.out ?_;intro w2 hb2 hg2)
       | ((with_reducible apply gS 27);refine wLdB rfl 33 (.tmp 6) rfl g1 rfl hb2 _ Tryz.underlying33 rfl 64 zG HSZ.out ?_)
       | (go_at_call 180;(with_reducible refine (HT.out _).mono ?_);rintro e w3 ⟨rfl,hx3⟩))
      go_ret
      have hx4:=(hx.trans (hx1.grown hg2 hg1)).trans hx3
      exact EachIs.mk HRE.out (zZ hx4) (E.ext hI hx4) (fun x h=>.inl h)
    | true =>
      have hzh:=zKl hal 0 (by omega) (by omega)
      rw[←zPC] at hzh
      have HT:=zA (fun W=>rtok_good 0 (xC Z k) W HB.out (by omega) (by omega) hal hzh.1 hzh.2)
      have HP':Hid (∀ j,j<k+1→zM (xC Z j) (-2047) 2047=true):=zA (fun j hj=>by
       rcases wA3 j k with h1 | h1
       ·exact HP.out j h1
       ·obtain rfl:j=k:=by omega
        exact hal)
      clear hal hzh HP
      generalize yI 0 (zto (xC Z k))=T0 at *
      go_wp2_with (first
       | ((with_reducible apply gS 25);refine yW (by rfl) 33 (.tmp 24) rfl (ad.add (k*64)) rfl (ints (xC Z k)) _ HCA.out Tryz.underlying33 rfl (by rw[yA,HB.out];exact zG) ?_;rw[HBV.out])
       | ((with_reducible apply gS 6);refine wAlo' rfl (some 6) rfl 33 rfl _ HAL.out ?_;intro w1 g1 hb1 hx1 hg1)
       | ((with_reducible apply gT 6 25);refine wStB rfl 33 (.tmp 6) (.tmp 25) rfl _ _ rfl rfl hb1 64 zG HSZ.out hz0.out HO1.out ?_;intro w2 hb2 hg2)
       | ((with_reducible apply gS 27);refine wLdB rfl 33 (.tmp 6) rfl g1 rfl hb2 _ Tryz.underlying33 rfl 64 zG HSZ.out ?_)
       | (go_at_call 180;(with_reducible refine (HT.out _).mono ?_);rintro e w3 ⟨D,d,rfl, -,hx3⟩))
      go_roundw
      case rel=>exact⟨k+1,by omega,by go_num,(hx.trans (hx1.grown hg2 hg1)).trans hx3,HP'⟩
      case measure=>simp[intOf];omega
   ·obtain rfl:n=k:=by omega
    have HR2:Hid (qK step (xT Z n 0) s=R):=zA (by rw[HR.out,if_neg];rw[(zQc Z n HZ.out).2 HP.out];simp)
    have HPA:Hid (∀ j,j<n→zM (xC Z j) (-2047) 2047=true):=zA HP.out
    have hI1:=E.ext hI hx
    have hs1:=hs.ext hx
    have hb0:=befAt_0 Z
    have HB0:=zA hb0
    clear HR hb0 hlt
    have hA1:Hid (∀ (F':Nat→Prop),(∀ x,F' x→F x∨w.heap.size≤x)→ ∀ ad,A=some ad→0<n→ ¬F' ad.block):=zA (fun F' h ad e h0 k=>by
     rcases h _ k with h1 | h1
     ·exact hA ad e h0 h1
     ·obtain⟨A'',c'',e2, -, -, -,h5⟩:=hs
      injection e2 with e3 _ _
      subst e3
      obtain⟨ad',e4,h6, -⟩:=h5 h0
      rw[e] at e4
      injection e4 with e4
      subst e4
      omega)
    have hu0:Upd F w wr:=zZ hx
    have hsw:=hx.size
    clear hx hI hA hs HP
    go_wp2_with fail
    obtain⟨wo,rfl⟩: ∃ wo:World,wo=wr:=⟨_,rfl⟩
    go_loopw [9,37] (fun b i wr=> ∃ (k:Nat) (q:σ) (G:Nat→Prop),k≤n∧i=.int .i64 (k:Int)∧b=.int .i64 (uS Z k)∧Upd F w wr∧w.heap.size≤wr.heap.size∧Inv wr q G∧Hid (∀ x,G x→F x∨w.heap.size≤x)∧SL wr 64 (.slice A n c) n (ints Z)∧Hid (qK step (xT Z n k) q=R)) (fun _ i _=>n-(intOf i).toNat)
    case atStart=>exact⟨0,s,F,by omega,rfl,by rw[HB0.out],hu0,hsw,hI1,zA (fun x h=>.inl h),hs1,HR2⟩
    case round =>
     clear hu0 hsw hI1 hs1 HR2
     obtain⟨k,q,G,hk,rfl,rfl,hu,hsw,hI,HG,hs,HR⟩:=hrel
     by_cases hlt:k<n
     ·have hAG: ∀ ad,A=some ad→0<n→ ¬G ad.block:=hA1.out G HG.out
      have HAG:=zA hAG
      clear hAG
      obtain⟨ad,rfl,hab,hca⟩:=hs.part hlt
      have hbl:=zIC Z n k HZ.out hlt
      have e:((ints Z).drop (k*64)).take 64=ints (xC Z k):=by simp[ints,xC,wH2,wH1]
      rw[e] at hca
      clear e
      have HCA:=zA hca
      have HB:=zA hbl
      have HSZ:=zA (show (bv (xC Z k)).size=64 by rw[zJ];exact hbl)
      have HO1:=zA (xK (xC Z k))
      have HBV:=zA (zIN (xC Z k))
      have hal:=HPA.out k hlt
      have hzh:=zKl hal 0 (by omega) (by omega)
      rw[←zPC] at hzh
      have hbf:=befAt_in (Z:=Z) (k:=k) (fun j hj=>HPA.out j (by omega))
      have HT:=zA (fun W=>zLg (uS Z k) (xC Z k) W HB.out hbf.1 hbf.2 hal hzh.1 hzh.2)
      rw[←zLa] at HT
      have HWF:Hid (∀ t∈zAp Z k,zBH t):=zA (by rw[zLa];exact zEW _ _ (vL _))
      have HR1:Hid (qK step ((zAs (zAp Z k)).drop 0++xT Z n (k+1)) q=R):=zA (by rw[wL5, ←zFI Z n k hlt];exact HR.out)
      have HBS:=zA (zSM Z k)
      have HB1:Hid ((bv (xC Z k))[0]? =some (.int .i64 ((xC Z k).getD 0 0))):=zA (by rw[jA _ 0 (by omega)];simp[wF4,hbl])
      obtain⟨T,hT⟩: ∃ T,T=zAp Z k:=⟨_,rfl⟩
      rw[←hT] at HT HWF HR1
      obtain⟨m,hm⟩: ∃ m,T.length=m:=⟨_,rfl⟩
      have HM:=zA hm
      rw[hm] at HT
      clear hT hm hca hbl hal hzh hbf HR
      generalize uS Z k=bf at *
      go_wp2_with (first
       | ((with_reducible apply gS 40);refine yW (by rfl) 33 (.tmp 39) rfl (ad.add (k*64)) rfl (ints (xC Z k)) _ HCA.out Tryz.underlying33 rfl (by rw[yA,HB.out];exact zG) ?_;rw[HBV.out])
       | ((with_reducible apply gS 11);refine wAlo' rfl (some 11) rfl 33 rfl _ HAL.out ?_;intro w1 g1 hb1 hx1 hg1)
       | ((with_reducible apply gT 11 40);refine wStB rfl 33 (.tmp 11) (.tmp 40) rfl _ _ rfl rfl hb1 64 zG HSZ.out hz0.out HO1.out ?_;intro w2 hb2 hg2;have hx2:=hx1.grown hg2 hg1)
       | ((with_reducible apply gS 43);refine wLdB rfl 33 (.tmp 11) rfl g1 rfl hb2 _ Tryz.underlying33 rfl 64 zG HSZ.out ?_)
       | (go_at_call 180;(with_reducible refine (HT.out _).mono ?_);rintro e w3 ⟨D,d,rfl,hs3,hf3,hx3⟩))
      have hG2: ∀ x,G x→x<wr.heap.size:=fun x h=>E.old q G wr x hI h
      have HG1:Hid (¬G g1):=zA (fun h=>by have:=hG2 g1 h;omega)
      have hx3':Ext wr w3:=hx2.trans hx3
      have hI3:=E.ext hI hx3'
      have hb3:=hb2.ext hx3
      have hu3:Upd F w w3:=hu.trans (zZ (S:=fun _=>False) hx3') (fun _ h=>h.elim)
      have hs3':=hs.ext hx3'
      have hsw3:w.heap.size≤w3.heap.size:=by have:=hx3'.size;omega
      have HD3:Hid (∀ ad,D=some ad→ ¬G ad.block):=zA (fun ad e h=>by have:=hf3 ad e;have:=hG2 _ h;have:=hx2.size;omega)
      have hs3c:=hs3
      obtain⟨D',d'',he3,hmd,hd2, -, -⟩:=hs3c
      injection he3 with q1 q2 q3
      subst q1 q3
      have hm1:m≤9223372036854775807:=by omega
      clear hu hsw hI hs hb1 hx1 hg1 hb2 hg2 hx2 hx3 hf3 hG2 hx3'
      clear q2
      go_loopw [49] (fun i wi=> ∃ (j:Nat) (p:σ) (G':Nat→Prop),j≤m∧i=.int .i64 (j:Int)∧Upd F w wi∧w.heap.size≤wi.heap.size∧Inv wi p G'∧Hid (∀ x,G' x→F x∨w.heap.size≤x)∧Hid (¬G' g1)∧Hid (∀ ad,D=some ad→ ¬G' ad.block)∧SL wi 64 (.slice (some ad) n c) n (ints Z)∧Blk wi g1 33 (bv (xC Z k))∧SL wi 3 (.slice D m d) m (qM T)∧Hid (qK step ((zAs T).drop j++xT Z n (k+1)) p=R)) (fun i _=>m-(intOf i).toNat)
      case atStart=>exact⟨0,q,G,by omega,rfl,hu3,hsw3,hI3,HG,HG1,HD3,hs3',hb3,hs3,HR1⟩
      case round =>
       clear hu3 hsw3 hI3 HG HG1 HD3 hs3' hb3 hs3 HR1
       obtain⟨wo2,rfl⟩: ∃ wo2:World,wo2=w3:=⟨_,rfl⟩
       obtain⟨j,p,G',hj,rfl,hu,hsw,hI,HG,HG1,HD,hs,hb,hst,HR⟩:=hrel
       by_cases hlj:j<m
       ·obtain⟨td,rfl,htb,htc⟩:=hst.part hlj
        have hjT:j<T.length:=by rw[HM.out];exact hlj
        rw[zIV T j hjT] at htc
        have HTC:=zA htc
        have HRj:Hid (qK step ((T[j],j ==0)::((zAs T).drop (j+1)++xT Z n (k+1))) p=R):=zA (by have:=HR.out;rw[zSE T j hjT,wL6] at this;exact this)
        have hwf:=HWF.out T[j] (wE2 hjT)
        obtain⟨b,hbq⟩: ∃ b,b=(j ==0):=⟨_,rfl⟩
        rw[←hbq] at HRj
        have hjb:((j:Int) ==0)=b:=by rw[hbq];cases j<;>simp<;>omega
        generalize T[j]=t at *
        have hC2:C (step p t b).2:=by
         by_cases h0:(step p t b).1=0
         ·have h:=HRj.out
          rw[zCB h0] at h
          have h2:=HCR.out
          rw[←h] at h2
          exact E.back _ _ h2
         ·have h:=HRj.out
          rw[zEN h0] at h
          rw[h]
          exact HCR.out
        have HAS:=zA (fun W (h:Inv W p G')=>E.ask t b p G' W hC2 hwf h)
        have hold: ∀ x,G' x→x<wr.heap.size:=fun x h=>E.old p G' wr x hI h
        have HOLD:=zA hold
        have HAD:Hid (¬G' ad.block):=zA (hA1.out G' HG.out ad rfl (by omega))
        clear hbq hwf hold htc HR hC2
        rcases hst2:step p t b with ⟨e2,s2⟩
        have HS2:=zA hst2
        rw[hst2] at HAS
        clear hst2
        dsimp only at HAS
        by_cases he2:e2=0
        ·subst he2
         have HRn:Hid (qK step ((zAs T).drop (j+1)++xT Z n (k+1)) s2=R):=zA (by have h:=HRj.out;rw[zCB (by rw[HS2.out])] at h;rw[HS2.out] at h;exact h)
         go_wp2_with (first
          | ((with_reducible apply gS 53);refine yW (by rfl) 149 (.tmp 52) rfl (td.add (j*3)) rfl (qA t) _ HTC.out Tryz.underlying149 rfl zKr ?_)
          | ((with_reducible apply gS 15);refine wAlo' rfl (some 15) rfl 149 rfl (.agg (qA (0,0,0)).toArray) (by kernel_rfl) ?_;intro w4 g15 hb4 hx4 hg4)
          | ((with_reducible apply gT 15 53);refine wStB rfl 149 (.tmp 15) (.tmp 53) rfl _ _ rfl rfl hb4 3 yV rfl rfl (vG t) ?_;intro w5 hb5 hg5;have hx5:Ext wr w5:=hx4.grown hg5 hg4;have hI5:=E.ext hI hx5;have hsw5:=hx5.size)
          | ((with_reducible apply gS 55);refine wLdB rfl 149 (.tmp 15) rfl g15 rfl hb5 _ Tryz.underlying149 rfl 3 yV rfl ?_)
          | ((with_reducible apply gS 58);refine xM (by rfl) (xN (.tmp 54) _ _ rfl rfl E.goes (#[.agg (qA t).toArray,.bool b]++cap) (by simp[Act.eval])) ?_;(with_reducible refine (HAS.out _ hI5).mono ?_);rintro e w6 ⟨rfl,hu6,G2,hI6,hG6⟩;refine⟨_,rfl, ?_⟩;have hsw6:=hu6.size))
         go_roundw
         case rel =>
          refine⟨j+1,s2,G2,by omega,by go_num, ?_,by omega,hI6,zA ?_,zA ?_,zA ?_,(hs.ext hx5).updq hu6 (fun ad' e' _ k=>by injection e' with e';rw[←e'] at k;exact HAD.out k),hu6.blk (hb.ext hx5) HG1.out,(hst.ext hx5).updq hu6 (fun ad' e' _=>HD.out ad' e'),HRn⟩
          ·exact (hu.trans (zZ (S:=fun _=>False) hx5) (fun _ h=>h.elim)).trans hu6 (fun x h=>HG.out x h)
          ·exact fun x h=>by
            rcases hG6 x h with h1 | h1
            ·exact HG.out x h1
            ·exact .inr (by omega)
          ·exact fun h=>by
            rcases hG6 _ h with h1 | h1
            ·exact HG1.out h1
            ·have:=(hb.ext hx5).lt;omega
          ·exact fun ad' e' h=>by
            rcases hG6 _ h with h1 | h1
            ·exact HD.out ad' e' h1
            ·injection e' with e';rw[←e'] at h1;have:=hx5.size;omega
         case measure=>simp[intOf];omega
        ·have hxb:(e2 !=0)=true:=by simpa using he2
         have HRE:Hid (R=(e2,s2)):=zA (by rw[←HRj.out,zEN (by rw[HS2.out];exact he2),HS2.out])
         clear he2
         go_wp2_with (first
          | ((with_reducible apply gS 53);refine yW (by rfl) 149 (.tmp 52) rfl (td.add (j*3)) rfl (qA t) _ HTC.out Tryz.underlying149 rfl zKr ?_)
          | ((with_reducible apply gS 15);refine wAlo' rfl (some 15) rfl 149 rfl (.agg (qA (0,0,0)).toArray) (by kernel_rfl) ?_;intro w4 g15 hb4 hx4 hg4)
          | ((with_reducible apply gT 15 53);refine wStB rfl 149 (.tmp 15) (.tmp 53) rfl _ _ rfl rfl hb4 3 yV rfl rfl (vG t) ?_;intro w5 hb5 hg5;have hx5:Ext wr w5:=hx4.grown hg5 hg4;have hI5:=E.ext hI hx5;have hsw5:=hx5.size)
          | ((with_reducible apply gS 55);refine wLdB rfl 149 (.tmp 15) rfl g15 rfl hb5 _ Tryz.underlying149 rfl 3 yV rfl ?_)
          | ((with_reducible apply gS 58);refine xM (by rfl) (xN (.tmp 54) _ _ rfl rfl E.goes (#[.agg (qA t).toArray,.bool b]++cap) (by simp[Act.eval])) ?_;(with_reducible refine (HAS.out _ hI5).mono ?_);rintro e w6 ⟨rfl,hu6,G2,hI6,hG6⟩;refine⟨_,rfl, ?_⟩;have hsw6:=hu6.size))
         go_ret
         refine EachIs.mk HRE.out ((hu.trans (zZ (S:=fun _=>False) hx5) (fun _ h=>h.elim)).trans hu6 (fun x h=>HG.out x h)) hI6 (fun x h=> ?_)
         rcases hG6 x h with h1 | h1
         ·exact HG.out x h1
         ·exact .inr (by omega)
       ·have hjm:j=m:=by omega
        have HRn:Hid (qK step (xT Z n (k+1)) p=R):=zA (by have h:=HR.out;rw[wG5 (by rw[zFZ,HM.out];omega),wL7] at h;exact h)
        have hc0:wr.cell? ⟨g1,0,none⟩=some (.int .i64 ((xC Z k).getD 0 0)):=(hb.cell 0).trans HB1.out
        go_wp2_with fail
        go_roundw
        case rel=>exact⟨k+1,p,G',by omega,by go_num,by rw[HBS.out,wF4],hu,hsw,hI,HG,hs,HRn⟩
        case measure=>simp[intOf];omega
     ·have hkn:k=n:=by omega
      have HRE:Hid (R=(0,q)):=zA (by rw[←HR.out,hkn,zFx];unfold qK;rfl)
      go_wp2_with fail
      go_ret
      exact EachIs.mk HRE.out hu hI HG.out
end
end
section
open Go.RowKit Go.Maps
def VR (v:Value):Option (DataW Value×List MemPlace):=some (.held v,[])
def MapG {ι:Type} (P:Program) (k:TypeId) (kl:ι→Lit) (ok:ι→Prop) (w:World) (b n:Nat) (g:ι→Option Value):Prop :=
 ∃ D:DataW Value,w.ownsMap P k VR b n D∧IsMap D∧ ∀ i,ok i→Maps.has D (kl i)=(g i).isSome∧ ∀ z,D.atKey (kl i) (.held z)=.held ((g i).getD z)
section
variable {ι:Type} {P:Program} {k:TypeId} {kl:ι→Lit} {ok:ι→Prop} {w w':World} {b n:Nat} {g:ι→Option Value}
theorem MapG.made (w:World):MapG P k kl ok (w.alloc (.map #[] 0)) w.heap.size 0 (fun _=>none) :=
 ⟨.map [],World.ownsMap_made _ _ _ _,isMap_empty,fun _ _=>⟨rfl,fun _=>rfl⟩⟩
theorem MapG.lt (h:MapG P k kl ok w b n g):b<w.heap.size:=by obtain⟨D,h1, -⟩:=h;exact h1.lt
theorem MapG.alloc (h:MapG P k kl ok w b n g) (o:Obj):MapG P k kl ok (w.alloc o) b n g:=by
 obtain⟨D,h1,h2⟩:=h;exact⟨D,h1.alloc o,h2⟩
theorem MapG.ext (h:MapG P k kl ok w b n g) (hx:Ext w w'):MapG P k kl ok w' b n g:=by
 obtain⟨D,⟨es,clock,hb,r⟩,h2⟩:=h
 refine⟨D,⟨es,clock,(hx.block b ?_).trans hb,r⟩,h2⟩
 exact World.ownsMap.lt (R:=VR) ⟨es,clock,hb,r⟩
theorem MapG.grown {row:Option Nat} (h:MapG P k kl ok w b n g) (hg:w.grownBy w' row) (hne:some b≠row):MapG P k kl ok w' b n g:=by
 obtain⟨D,h1,h2⟩:=h;exact⟨D,h1.kept hg hne,h2⟩
theorem MapG.below {B:Nat} (h:MapG P k kl ok w b n g) (hx:Below B w w') (hb:b<B):MapG P k kl ok w' b n g:=by
 obtain⟨D,⟨es,clock,h3,r⟩,h2⟩:=h
 exact⟨D,⟨es,clock,(hx.block b hb).trans h3,r⟩,h2⟩
theorem MapG.setCell (h:MapG P k kl ok w b n g) {a:Addr} (ha:b≠a.block) (u:Value):MapG P k kl ok (w.setCell a u) b n g:=by
 obtain⟨D,h1,h2⟩:=h;exact⟨D,h1.setCell ha u,h2⟩
variable {ops:Array Oper} {rest:List Oper} {o:Oper} {a:Act} {Q:Exit→Act→World→Prop}
theorem zCq (hw:Region.wanted o (yielded ops a.tmps)=true) (m x:Operand) (t e:TypeId) (hop:o.op=Op.lookup t m x false) (K:Keyed P k) (ht:P.underlying t=some (.map k e))
 (z:Value) (hz:(zeroValue e).run P w=.ok z w) (hm:a.eval m=.map (some b)) (h:MapG P k kl ok w b n g) (key:Value) (hx:a.eval x=key)
 (i:ι) (hi:ok i) (hk:keyOf P k key=some (kl i)) (u:Value) (hu:(g i).getD z=u) (hK:wpList P ops Q rest (a.put o.dst u) w):wpList P ops Q (o::rest) a w:=by
 refine uD hw fun K' hK'=> ?_
 obtain⟨D,h1, -,h2⟩:=h
 obtain⟨v,ps,hrun,hv⟩:=h1.lookup K ht hz (zd:=.held z) (zp:=[]) rfl hk
 rw[(h2 i hi).2 z,hu] at hv
 have:v=u:=by unfold VR at hv;injection hv with hv;injection hv with hv _;injection hv
 subst this
 unfold Oper.wp
 simp[execOp,hop,hm,hx,hrun,Result.andThen]
 exact hK' _ _ hK
theorem zBz (hw:Region.wanted o (yielded ops a.tmps)=true) (m x:Operand) (t e:TypeId) (hop:o.op=Op.lookup t m x true) (K:Keyed P k) (ht:P.underlying t=some (.map k e))
 (z:Value) (hz:(zeroValue e).run P w=.ok z w) (hm:a.eval m=.map (some b)) (h:MapG P k kl ok w b n g) (key:Value) (hx:a.eval x=key)
 (i:ι) (hi:ok i) (hk:keyOf P k key=some (kl i)) (u:Value) (hu:(g i).getD z=u) (c:Bool) (hc:(g i).isSome=c) (hK:wpList P ops Q rest (a.put o.dst (.tuple #[u,.bool c])) w):wpList P ops Q (o::rest) a w:=by
 refine uD hw fun K' hK'=> ?_
 obtain⟨D,h1, -,h2⟩:=h
 obtain⟨v,ps,hrun,hv⟩:=h1.look_ok K ht hz (zd:=.held z) (zp:=[]) rfl hk
 rw[(h2 i hi).2 z,hu] at hv
 rw[(h2 i hi).1,hc] at hrun
 have:v=u:=by unfold VR at hv;injection hv with hv;injection hv with hv _;injection hv
 subst this
 unfold Oper.wp
 simp[execOp,hop,hm,hx,hrun,Result.andThen]
 exact hK' _ _ hK
theorem zCT (hw:Region.wanted o (yielded ops a.tmps)=true) (m x y:Operand) (t e:TypeId) (hop:o.op=Op.mapUpdate t m x y) (K:Keyed P k) (ht:P.underlying t=some (.map k e))
 (hm:a.eval m=.map (some b)) (h:MapG P k kl ok w b n g) (hn:n<9223372036854775807) (key:Value) (hx:a.eval x=key) (v:Value) (hy:a.eval y=v)
 (i:ι) (hk:keyOf P k key=some (kl i)) (g':ι→Option Value) (h1:g' i=some v) (h2: ∀ j,ok j→kl j≠kl i→g' j=g j) (h3: ∀ j,ok j→kl j=kl i→j=i)
 (hK: ∀ w',MapG P k kl ok w' b (n+1) g'→w.grownBy w' (some b)→wpList P ops Q rest (a.put o.dst undef) w'):wpList P ops Q (o::rest) a w:=by
 refine uD hw fun K' hK'=> ?_
 obtain⟨D,d1,d3,d2⟩:=h
 obtain⟨w',hrun,r1,r2⟩:=d1.update K ht (by unfold maxLen;omega) hk (val:=v) (d:=.held v) (ps:=[]) rfl
 unfold Oper.wp
 simp[execOp,hop,hm,hx,hy,hrun,Result.andThen]
 refine hK' _ _ (hK w' ⟨_,r1,d3.put _ _,fun j hj=> ?_⟩ r2)
 by_cases e1:kl j=kl i
 ·obtain rfl:=h3 j hj e1
  rw[has_put_same d3 (K.key hk),h1]
  exact⟨rfl,fun z=>atKey_put_same d3 (K.key hk) _ _⟩
 ·rw[has_put_other e1,h2 j hj e1]
  exact⟨(d2 j hj).1,fun z=>by rw[atKey_put_other e1];exact (d2 j hj).2 z⟩
end
abbrev MapI (P:Program) (k:TypeId) (w:World) (b n:Nat) (g:Int→Option Value):Prop:=MapG P k (fun x:Int=>Lit.int .i64 x) (fun _=>True) w b n g
theorem zDF {P:Program} {k:TypeId} (hk:P.underlying k=some (.int .i64)) {a:Int} (h0: -9223372036854775808≤a) (h1:a≤9223372036854775807):keyOf P k (.int .i64 a)=some (.int .i64 a) :=
 keyOf_int_mk hk (WalkArith.wf_i64 ⟨by omega,by omega⟩)
theorem zHi {a w w':World} (h:Ext a w) {g:Nat} (hg:w.grownBy w' (some g)) (hB:a.heap.size≤g):Ext a w':=h.grown hg hB
end
def qB (n:Nat):Nat→List Bool
 | 0=>[]
 | k+1=>(n/2 ^ k%2 ==1)::qB n k
def yE:List Bool→Nat
 | []=>0
 | b::l=>b.toNat*2 ^ l.length+yE l
theorem qE (n k:Nat):(qB n k).length=k:=by
 induction k with
 | zero=>rfl
 | succ k ih=>simp[qB,ih]
theorem zBY (l:List Bool):yE l<2 ^ l.length:=by
 induction l with
 | nil=>simp[yE]
 | cons b l ih =>
   simp only[yE,wA8,wL8]
   cases b<;>simp<;>omega
theorem zEE (a b:List Bool):yE (a++b)=yE a*2 ^ b.length+yE b:=by
 induction a with
 | nil=>simp[yE]
 | cons x a ih =>
   simp only[wL6,yE,wF3,ih,Nat.pow_add,wJ8,wL9]
   omega
theorem numB_digs (n k:Nat):yE (qB n k)=n%2 ^ k:=by
 induction k with
 | zero=>simp[qB,yE,Nat.mod_one]
 | succ k ih =>
   simp only[qB,yE,qE,ih]
   have e:(n/2 ^ k%2 ==1).toNat=n/2 ^ k%2:=by
    rcases (show n/2 ^ k%2=0∨n/2 ^ k%2=1 by omega) with h | h<;>simp[h]
   rw[e,wL8,Nat.mod_mul,wJ2]
   omega
theorem zBc {n k:Nat} (h:n<2 ^ k):yE (qB n k)=n:=by rw[numB_digs,wM0 h]
theorem zKW {a b:List Bool} (hl:a.length=b.length) (h:yE a=yE b):a=b:=by
 induction a generalizing b with
 | nil=>cases b with | nil=>rfl | cons _ _=>simp at hl
 | cons x a ih =>
   cases b with
   | nil=>simp at hl
   | cons y b =>
     have hl':a.length=b.length:=by simpa using hl
     simp only[yE,hl'] at h
     have h1:=zBY a
     have h2:=zBY b
     rw[hl'] at h1
     have hxy:x=y:=by
      cases x<;>cases y<;>simp at h ⊢ <;>omega
     subst hxy
     rw[ih hl' (by omega)]
theorem digs_numB (l:List Bool):qB (yE l) l.length=l:=zKW (qE _ _) (zBc (zBY l))
theorem zNr (l:List Bool) (k:Nat):yE (l.drop k)=yE l%2 ^ (l.length-k):=by
 have h:=zEE (l.take k) (l.drop k)
 rw[wM1] at h
 have h2:=zBY (l.drop k)
 rw[wK1] at h h2
 rw[h,wJ2,wM2,wM0 h2]
theorem zMx (l:List Bool) (k:Nat):yE (l.take k)=yE l/2 ^ (l.length-k):=by
 have h:=zEE (l.take k) (l.drop k)
 rw[wM1] at h
 have h2:=zBY (l.drop k)
 rw[wK1] at h h2
 rw[h,wJ2,wM3 (wI5 _),wM4 h2,wM5]
theorem numB_mid (l:List Bool) (i k:Nat) (h:i+k≤l.length):yE ((l.drop i).take k)=yE l/2 ^ (l.length-(i+k))%2 ^ k:=by
 have e:(l.drop i).take k=(l.take (i+k)).drop i:=by rw[List.drop_take];congr 1;omega
 rw[e,zNr,zMx l,wI8]
 congr 2
 omega
theorem numB_snoc (l:List Bool) (b:Bool):yE (l++[b])=2*yE l+b.toNat:=by
 rw[zEE];simp[yE];omega
def jB (l:List Bool):List Nat:=(List.range (l.length/8)).map fun i=>yE ((l.drop (8*i)).take 8)
def uN (l:List Bool):List Bool:=l.drop (8*(l.length/8))
theorem zCV (l:List Bool):(jB l).length=l.length/8:=by simp[jB]
theorem zFb (l:List Bool):(uN l).length=l.length%8:=by simp[uN];omega
theorem zOq (l:List Bool): ∀ x∈jB l,x<256:=by
 intro x hx
 simp only[jB,wD6,wB7] at hx
 obtain⟨i,hi,rfl⟩:=hx
 have h:=zBY ((l.drop (8*i)).take 8)
 have h2:((l.drop (8*i)).take 8).length≤8:=List.length_take_le _ _
 have:=wI4 (n:=2) (by omega) h2
 omega
theorem zQj (l m:List Bool):jB (l++m)=jB l++jB (uN l++m):=by
 have e:(l++m).length/8=l.length/8+(uN l++m).length/8:=by
  rw[wF3,wF3,zFb];omega
 have key:(l++m).drop (8*(l.length/8))=uN l++m:=by
  rw[wM6 (by omega)];rfl
 unfold jB
 rw[e,List.range_add,wH4,wM7]
 congr 1
 ·apply wI3
  intro i hi
  have:=wB7.1 hi
  rw[wM6 (by omega),wM8 (by rw[wK1];omega)]
 ·apply wI3
  intro i _
  simp only[Function.comp]
  rw[wM9, ←wN0,key]
theorem zPl (l m:List Bool):uN (l++m)=uN (uN l++m):=by
 have key:(l++m).drop (8*(l.length/8))=uN l++m:=by
  rw[wM6 (by omega)];rfl
 rw[uN,uN, ←key,wN0]
 congr 1
 rw[wK1]
 rw[wF3]
 omega
def zAA (l:List Bool):List Bool:=l++List.replicate ((8-l.length%8)%8) true
theorem padB_len (l:List Bool):(zAA l).length%8=0:=by simp[zAA];omega
theorem zNQ (k:Nat):yE (List.replicate k true)=2 ^ k-1:=by
 induction k with
 | zero=>rfl
 | succ k ih =>
   rw[wG0,yE,ih,wL8]
   have:=wI5 k
   simp
   omega
theorem digs_ones (k:Nat):qB (2 ^ k-1) k=List.replicate k true:=by
 apply zKW (by simp[qE])
 rw[zNQ,zBc (by have:=wI5 k;omega)]
def zL (b:List Nat):List Bool:=b.flatMap fun x=>qB x 8
theorem zEl (b:List Nat):(zL b).length=8*b.length:=by
 induction b with
 | nil=>rfl
 | cons x b ih=>simp only[zL,wJ6,wF3,qE,wA8] at ih ⊢;omega
theorem digsOf_at (b:List Nat) (i:Nat) (h2:i<b.length):((zL b).drop (8*i)).take 8=qB b[i] 8:=by
 induction b generalizing i with
 | nil=>simp at h2
 | cons x b ih =>
   have e:zL (x::b)=qB x 8++zL b:=rfl
   rw[e]
   cases i with
   | zero=>simp[qE]
   | succ i =>
     rw[List.drop_append,wN1 (by rw[qE];omega),qE,wL7,show 8*(i+1)-8=8*i by omega]
     have h3:i<b.length:=by simpa using h2
     rw[ih i h3]
     simp
theorem zOp (a b:List Nat):zL (a++b)=zL a++zL b:=by simp[zL]
theorem zOy (l:List Bool) (h:l.length%8=0):zL (jB l)=l:=by
 have key: ∀ k,k≤l.length/8→zL ((List.range k).map fun i=>yE ((l.drop (8*i)).take 8))=l.take (8*k):=by
  intro k
  induction k with
  | zero=>intro _;simp[zL]
  | succ k ih =>
    intro hk
    rw[wH3,wH4,zOp,ih (by omega)]
    have e:(l.drop (8*k)).take 8=qB (yE ((l.drop (8*k)).take 8)) 8:=by
     have h1:((l.drop (8*k)).take 8).length=8:=by simp;omega
     have h2:=digs_numB ((l.drop (8*k)).take 8)
     rw[h1] at h2
     exact h2.symm
    simp only[wC8,wC9,zL,wJ6,List.flatMap_nil,wG6]
    rw[←e,show 8*(k+1)=8*k+8 by omega,List.take_add]
 unfold jB
 rw[key _ (wA5 _),wC4 (by omega)]
theorem zGF (l:List Bool) (k:Nat) (h:k<l.length):yE (l.take (k+1))=2*yE (l.take k)+l[k].toNat:=by
 rw[wC3 h,numB_snoc]
theorem numB_le (l:List Bool) (n:Nat) (h:l.length≤n):yE l<2 ^ n:=by
 have h1:=zBY l
 have:=wI4 (n:=2) (by omega) h
 omega
def yM (cs:List Int) (sl:Value):Array Value:=(ints cs++[sl]).toArray
theorem zO:(Tryz.prog.info? 42).map (·.size)=some 17:=by kernel_rfl
theorem zLY:(Tryz.prog.info? 40).map (·.size)=some 16:=by kernel_rfl
theorem zAO (cs:List Int) (sl:Value) (h:cs.length=16):(yM cs sl).size=17:=by simp[yM,yA,h]
theorem zEj {w:World} {g:Nat} {T:TypeId} {cs:List Int} {sl:Value} (h:Blk w g T (yM cs sl)):w.rangeAt g 0 (ints cs):=by
 intro j v hv
 rw[wB2,h.cell]
 unfold yM
 rw[wH5,wG7 (wC2.1 hv).1]
 exact hv
theorem zEK {w:World} {g:Nat} {T:TypeId} {cs:List Int} {sl:Value} (h:Blk w g T (yM cs sl)) (hl:cs.length=16):w.cell? ⟨g,16,none⟩=some sl:=by
 rw[h.cell]
 simp[yM,yA,hl]
theorem zFq (cs:Array Value) (i:Nat) (u:Value) (hi:i<16) (hu:cs[i]? =some u) (w:World):(Instr.index 40 (.agg cs) (.int .i64 (i:Int))).run Tryz.prog w=.ok u w :=
 zCC _ _ 16 cs i u Tryz.underlying40 _ Tryz.underlying3 zJH hi hu w
def zAh (cs:List Int) (k:Nat):Int:=(cs.take k).sum
theorem zJB (cs:List Int) (k:Nat) (h:k<cs.length):zAh cs (k+1)=zAh cs k+cs[k]:=by
 unfold zAh
 rw[wC3 h,wJ5]
 simp
def zBW (cs:List Int):Int×Bool:=if zM cs 0 256 then (zAh cs 16,decide (zAh cs 16≤256)) else (0,false)
theorem zNY (cs:List Int) (sl:Value) (w:World) (hl:cs.length=16) :
 Calls Tryz.prog 151 #[.agg (yM cs sl)] w fun e w'=>e=.returned (.tuple #[.int .i64 (zBW cs).1,.bool (zBW cs).2])∧Ext w w':=by
 have HL:=zA hl
 have HRG:=zA (fun W g (h:Blk W g 42 (yM cs sl))=>zEj h)
 have hcl:=zA ((yA cs).trans hl)
 have HIX:=zA (fun k (hk:k<cs.length) (h16:k<16)=>fun W=>zFq (bv cs) k (.int .i64 cs[k]) h16 (jA cs k hk) W)
 generalize yM cs sl=tv at *
 have hbv:(ints cs).toArray=bv cs:=rfl
 go_enter Tryz.func151,Tryz.ntmps151
 go_wp2_with (first
  | (refine wBox rfl 42 (.tmp 0) rfl tv rfl ?_;intro w1 g hb1 hx1 hg)
  | (refine wpList_load_mid rfl 40 (.tmp 7) rfl g 0 rfl (ints cs) _ (HRG.out _ _ hb1) Tryz.underlying40 rfl (by rw[hcl.out];exact zLY) ?_))
 go_loop [4,9] (fun v i=> ∃ k:Nat,k≤16∧i=.int .i64 (k:Int)∧v=.int .i64 (zAh cs k)∧(∀ z∈cs.take k,0≤z∧z≤256)∧0≤zAh cs k∧zAh cs k≤256*k) (fun _ i=>16-(intOf i).toNat)
 case atStart=>exact⟨0,by omega,rfl,rfl,by simp,by simp[zAh],by simp[zAh]⟩
 case round =>
  obtain⟨k,hk,rfl,rfl,hin,s1,s2⟩:=hrel
  by_cases hlt:k<16
  ·have hkl:k<cs.length:=by have:=HL.out;omega
   have hix:=HIX.out k hkl hlt
   have HS:=zA (zJB cs k hkl)
   have HIN:=zA hin
   clear hin
   cases hq:inB cs[k] 0 256 with
   | true =>
     obtain⟨q1,q2⟩:=vX.1 hq
     have HN:=zA (zGg HIN.out hkl ⟨q1,q2⟩)
     generalize zAh cs k=s at *
     go_wp2_with fail
     go_round
     case rel=>exact⟨k+1,by omega,by go_num,by rw[HS.out],HN.out,by rw[HS.out];omega,by rw[HS.out];omega⟩
     case measure=>simp[intOf];omega
   | false =>
     have HF:=zA (show zBW cs=(0,false) by unfold zBW;rw[zQT hkl hq];rfl)
     rcases Int.lt_or_le cs[k] 0 with h0 | h0
     ·have h0':decide (cs[k]<0)=true:=by simpa using h0
      clear hq
      go_wp2_with fail
      go_ret2
      exact⟨by rw[HF.out];rfl,hx1⟩
     ·have h0':decide (cs[k]<0)=false:=by simpa using h0
      have h1':decide (256<cs[k])=true:=by have:=zCI.1 hq;simp;omega
      clear hq
      go_wp2_with fail
      go_ret2
      exact⟨by rw[HF.out];rfl,hx1⟩
  ·have ek:k=16:=by omega
   have HF:=zA (show zBW cs=(zAh cs 16,decide (zAh cs 16≤256)) by
    unfold zBW
    rw[zY.2 (fun z hz=>hin z (by rwa [wC4 (by have:=HL.out;omega)]))]
    rfl)
   rw[ek]
   rw[ek] at s1 s2
   clear hin ek hk hlt
   go_wp2_with fail
   go_ret2
   exact⟨by rw[HF.out];rfl,hx1⟩
def jV (cs:List Int):Nat→Nat
 | 0=>0
 | k+1=>2*jV cs k+(cs.getD k 0).toNat
def okW (cs:List Int):Bool:=(List.range 16).all fun k=>decide (jV cs (k+1)+1≤2 ^ (k+1))
theorem okW_no {cs:List Int} {k:Nat} (hk:k<16) (h:2 ^ (k+1)<jV cs (k+1)+1):okW cs=false:=by
 rw[←wE1]
 intro h2
 have:=wB5.1 h2 k (wB7.2 hk)
 simp only[wB3] at this
 omega
def zCo (cs xs:List Int):Bool:=zM cs 0 256&&decide (zAh cs 16≤256)&&decide (zAh cs 16=xs.length)
def zV (cs xs:List Int):Int:=if zCo cs xs then (if zM xs 0 255 then (if decide xs.Nodup&&okW cs then 0 else 4) else 1) else 4
theorem zLp {cs xs:List Int} (h:zCo cs xs=false):zV cs xs=4:=by simp[zV,h]
theorem zLC {cs xs:List Int} (h:zCo cs xs=true) (h2:zM xs 0 255=false):zV cs xs=1:=by simp[zV,h,h2]
theorem zSZ {cs xs:List Int} (h:zCo cs xs=true) (h2:zM xs 0 255=true) (h3: ¬xs.Nodup):zV cs xs=4:=by simp[zV,h,h2,h3]
theorem zIu {cs xs:List Int} (h:zCo cs xs=true) (h2:zM xs 0 255=true) (h3:xs.Nodup):zV cs xs=if okW cs then 0 else 4:=by simp[zV,h,h2,h3]
theorem zFg {cs xs:List Int}:zCo cs xs=true↔zM cs 0 256=true∧zAh cs 16≤256∧zAh cs 16=xs.length:=by simp[zCo,and_assoc]
theorem zKx {xs:List Int} {k:Nat} (hk:k<xs.length):(xs.take (k+1)).Nodup↔(xs.take k).Nodup∧xs[k]∉xs.take k:=by
 rw[wC3 hk,wN2]
 constructor
 ·rintro⟨a, -,c⟩
  exact⟨a,fun h=>c _ h _ (by simp) rfl⟩
 ·rintro⟨a,b⟩
  refine⟨a,by simp,fun x hx y hy=> ?_⟩
  simp at hy
  subst hy
  rintro rfl
  exact b hx
theorem okW_yes {cs:List Int} (h: ∀ j,j<16→jV cs (j+1)+1≤2 ^ (j+1)):okW cs=true :=
 wB5.2 fun i hi=>by
  have:=h i (wB7.1 hi)
  simpa using this
theorem zLD (cs:List Int) (k n:Nat) (hk:k<cs.length) (h:cs[k]=(n:Int)):jV cs (k+1)=2*jV cs k+n:=by
 show 2*jV cs k+(cs.getD k 0).toNat=_
 simp[hk,h]
theorem elt_word:Elt Tryz.prog 88 94 3 24:=⟨Tryz.underlying88,by kernel_rfl,by omega⟩
theorem one_sl3' (w:World) (T:TypeId) (a b c:Value):SL (w.alloc (.cells #[a,b,c] T)) 3 (.slice (some ⟨w.heap.size,0,none⟩) 1 1) 1 [a,b,c]:=by
 have:=(Blk.new w T #[a,b,c]).sl (size:=3) (n:=1) (c:=1) rfl (by omega) (by omega)
 simpa using this
theorem int3_one (a b c:Int): ∀ u∈[Value.int .i64 a,.int .i64 b,.int .i64 c],u.oneCell'=true:=by
 intro u hu
 simp at hu
 rcases hu with rfl | rfl | rfl<;>rfl
theorem own_tok3 {w:World} {base:Nat} {e:TypeId} {v:Value} {T:List Tok} {a b c:Int} (h:w.ownsRow base e 3 v (T.length+1) (qM T++[.int .i64 a,.int .i64 b,.int .i64 c])):w.ownsRow base e 3 v (T++[(a,b,c)]).length (qM (T++[(a,b,c)])):=by
 simpa [qM,qA] using h
def uB (cs:List Int) (k j:Nat):List (Nat×Nat):=(List.range j).map fun i=>(k+1,2*jV cs k+i)
def zD (cs:List Int):Nat→List (Nat×Nat)
 | 0=>[]
 | k+1=>zD cs k++uB cs k (cs.getD k 0).toNat
theorem zOR (cs:List Int) (k j:Nat):uB cs k (j+1)=uB cs k j++[(k+1,2*jV cs k+j)]:=by
 unfold uB
 rw[wH3,wH4]
 rfl
theorem zGW (cs:List Int) (k j:Nat):(uB cs k j).length=j:=by simp[uB]
theorem zJt (cs:List Int) (k n:Nat) (hk:k<cs.length) (h:cs[k]=(n:Int)):zD cs (k+1)=zD cs k++uB cs k n:=by
 show zD cs k++uB cs k (cs.getD k 0).toNat=_
 simp[hk,h]
theorem zCd (cs:List Int) (h: ∀ z∈cs,0≤z): ∀ k,k≤cs.length→((zD cs k).length:Int)=zAh cs k:=by
 intro k
 induction k with
 | zero=>intro _;simp[zD,zAh]
 | succ k ih =>
   intro hk
   have h0:=h _ (wE2 (show k<cs.length by omega))
   rw[zJt cs k cs[k].toNat (by omega) (by omega),wF3,zGW,zJB cs k (by omega), ←ih (by omega)]
   omega
theorem zRD (cs:List Int) (j k:Nat) (h:j≤k):(zD cs j).length≤(zD cs k).length:=by
 induction k with
 | zero=>obtain rfl:j=0:=by omega
         exact wA5 _
 | succ k ih =>
   rcases wA3 k j with h2 | h2
   ·obtain rfl:j=k+1:=by omega
    exact wA5 _
   ·have:=ih h2
    show _≤(zD cs k++_).length
    rw[wF3]
    omega
def zK (l:List (Nat×Nat)) (xs:List Int):List Tok:=List.zipWith (fun p x=>((x,(p.1:Int),(p.2:Int)):Tok)) l xs
theorem zCP (l:List (Nat×Nat)) (xs:List Int) (h:l.length≤xs.length):(zK l xs).length=l.length:=by simp[zK];omega
theorem zipC_snoc (l:List (Nat×Nat)) (p:Nat×Nat) (xs:List Int) (h:l.length<xs.length):zK (l++[p]) xs=zK l xs++[(xs[l.length],(p.1:Int),(p.2:Int))]:=by
 induction l generalizing xs with
 | nil =>
   cases xs with
   | nil=>simp at h
   | cons x xs=>simp[zK]
 | cons q l ih =>
   cases xs with
   | nil=>simp at h
   | cons x xs =>
     have h':l.length<xs.length:=by simpa using h
     have:=ih xs h'
     simp only[zK,wL6,wN3] at this ⊢
     rw[this]
     simp
theorem zEd (cs:List Int) (hok:okW cs=true) (hl:cs.length=16): ∀ k,k≤16→ ∀ p∈zD cs k,1≤p.1∧p.1≤k∧p.2+1<2 ^ p.1+1:=by
 intro k
 induction k with
 | zero=>intro _ p hp;simp[zD] at hp
 | succ k ih =>
   intro hk p hp
   rcases wE6.1 (show p∈zD cs k++uB cs k (cs.getD k 0).toNat from hp) with h | h
   ·have:=ih (by omega) p h
    omega
   ·simp only[uB,wD6,wB7] at h
    obtain⟨i,hi,rfl⟩:=h
    have h1:=wB5.1 hok k (wB7.2 (by omega))
    simp only[wB3] at h1
    have h2:jV cs (k+1)=2*jV cs k+(cs.getD k 0).toNat:=rfl
    refine⟨by simp,by simp, ?_⟩
    simp only
    omega
theorem zCh (cs:List Int):zD cs 0=[]:=rfl
theorem zEA (cs:List Int) (k:Nat):zD cs (k+1)=zD cs k++uB cs k (cs.getD k 0).toNat:=rfl
attribute [irreducible] zD
section
open Go.RowKit Go.Maps
theorem zDD:Keyed Tryz.prog 3:=int_keyed Tryz.underlying3
theorem zero_bool (w:World):(zeroValue 4).run Tryz.prog w=.ok (.bool false) w:=by kernel_rfl
def zDz (l:List Int) (x:Int):Option Value:=if x∈l then some (.bool true) else none
theorem zSW (l:List Int) (x:Int):(zDz l x).getD (.bool false)=.bool (decide (x∈l)):=by
 unfold zDz;by_cases h:x∈l<;>simp[h]
theorem check_tot (cs xs:List Int) (sl:Value) (w:World) (hl:cs.length=16) (hs:SL w 1 sl xs.length (ints xs)) (h:zCo cs xs=false) :
 Calls Tryz.prog 102 #[.agg (yM cs sl)] w fun e w'=>e=.returned (.int .i64 4)∧Ext w w':=by
 have HT:=zA (fun W=>zNY cs sl W hl)
 have hlast:=zA (fun W g (h:Blk W g 42 (yM cs sl))=>zEK h hl)
 have hts:=zA (zAO cs sl hl)
 have hq:(zBW cs).2=false∨((zBW cs).2=true∧((zBW cs).1 !=(xs.length:Int))=true):=by
  unfold zCo at h
  unfold zBW
  cases h1:zM cs 0 256 with
  | false=>left;simp
  | true =>
    rw[h1] at h
    simp only[if_true]
    by_cases h2:zAh cs 16≤256
    ·right
     simp[h2] at h ⊢
     exact h
    ·left;simpa using h2
 generalize zBW cs=tz at *
 obtain⟨all,is⟩:=tz
 generalize yM cs sl=tv at *
 obtain⟨A,c,rfl,hc1,hc2, -, -⟩:=hs
 rcases hq with hq | ⟨hq,hq2⟩
 ·simp only at hq
  subst hq
  go_enter Tryz.func102,Tryz.ntmps102
  go_wp2_with (first
   | (refine wBox rfl 42 (.tmp 0) rfl tv rfl ?_;intro w1 g hb1 hx1 hg)
   | (refine wLdB rfl 42 (.tmp 1) rfl _ rfl hb1 _ Tryz.underlying42 rfl 17 zO hts.out ?_)
   | (go_at_call 151;(with_reducible refine (HT.out _).mono ?_);rintro e w2 ⟨rfl,hx2⟩))
  go_ret
  exact⟨rfl,hx1.trans hx2⟩
 ·simp only at hq hq2
  subst hq
  go_enter Tryz.func102,Tryz.ntmps102
  go_wp2_with (first
   | (refine wBox rfl 42 (.tmp 0) rfl tv rfl ?_;intro w1 g hb1 hx1 hg)
   | (refine wLdB rfl 42 (.tmp 1) rfl _ rfl hb1 _ Tryz.underlying42 rfl 17 zO hts.out ?_)
   | (go_at_call 151;(with_reducible refine (HT.out _).mono ?_);rintro e w2 ⟨rfl,hx2⟩;have hc16:=hlast.out _ _ (hb1.ext hx2)))
  go_ret
  exact⟨rfl,hx1.trans hx2⟩
theorem seenF_upd (xs:List Int) (k:Nat) (hk:k<xs.length):zDz (xs.take (k+1)) xs[k]=some (.bool true):=by
 unfold zDz
 rw[if_pos (by rw[wC3 hk];exact List.mem_append_right _ (by simp))]
theorem zRZ (xs:List Int) (k:Nat) (hk:k<xs.length) (j:Int) (hj:j≠xs[k]):zDz (xs.take (k+1)) j=zDz (xs.take k) j:=by
 unfold zDz
 have:j∈xs.take (k+1)↔j∈xs.take k:=by rw[wC3 hk,wE6];simp[hj]
 by_cases h:j∈xs.take k
 ·rw[if_pos h,if_pos (this.2 h)]
 ·rw[if_neg h,if_neg (fun h2=>h (this.1 h2))]
theorem check_in (cs xs:List Int) (sl:Value) (w:World) (hl:cs.length=16) (hs:SL w 1 sl xs.length (ints xs)) (h:zCo cs xs=true) :
 Calls Tryz.prog 102 #[.agg (yM cs sl)] w fun e w'=>e=.returned (.int .i64 (zV cs xs))∧Ext w w':=by
 have HT:=zA (fun W=>zNY cs sl W hl)
 have hlast:=zA (fun W g (h:Blk W g 42 (yM cs sl))=>zEK h hl)
 have hts:=zA (zAO cs sl hl)
 have HRG:=zA (fun W g (h:Blk W g 42 (yM cs sl))=>zEj h)
 have hcl:=zA ((yA cs).trans hl)
 have HIX:=zA (fun k (hk:k<cs.length) (h16:k<16)=>fun W=>zFq (ints cs).toArray k (.int .i64 cs[k]) h16 (jA cs k hk) W)
 obtain⟨q1,q2,q3⟩:=zFg.1 h
 have HZ1:=zA (fun h2=>zLC h h2)
 have HZ2:=zA (fun h2 h3=>zSZ h h2 h3)
 have HZ3:=zA (fun h2 h3=>zIu h h2 h3)
 have HT1:Hid (zBW cs=((xs.length:Int),true)):=zA (by unfold zBW;rw[q1,q3];simp;omega)
 rw[HT1.out] at HT
 have hlen:xs.length≤256:=by omega
 have HAL:=zA (zY.1 q1)
 have HL:=zA hl
 have hneq:((xs.length:Int) !=(xs.length:Int))=false:=by simp
 have hmm:= @run_makeMap Tryz.prog
 have hs':=hs
 obtain⟨A,c,rfl,hc1,hc2, -, -⟩:=hs'
 generalize yM cs (.slice A xs.length c)=tv at *
 clear h q1 q2 q3
 go_enter Tryz.func102,Tryz.ntmps102
 go_wp2_with (first
  | (refine wBox rfl 42 (.tmp 0) rfl tv rfl ?_;intro w1 g hb1 hx1 hg)
  | (refine wLdB rfl 42 (.tmp 1) rfl _ rfl hb1 _ Tryz.underlying42 rfl 17 zO hts.out ?_)
  | (go_at_call 151;(with_reducible refine (HT.out _).mono ?_);rintro e w2 ⟨rfl,hx2⟩;have hc16:=hlast.out _ _ (hb1.ext hx2);have hc16b:=hlast.out _ _ ((hb1.ext hx2).alloc (.map #[] 0))))
 have hb2:=hb1.ext hx2
 have hxm:=hx1.trans hx2
 have hgm:=hxm.size
 have hne:=hb2.lt
 clear hmm hb1 hx1 hx2 hc16 hc16b
 go_loopw [6,30] (fun tw i wr=> ∃ (k:Nat) (tb:Bool),k≤xs.length∧i=.int .i64 (k:Int)∧tw=.bool tb∧tb=(!decide (xs.take k).Nodup)∧(∀ z∈xs.take k,0≤z∧z≤255)∧MapI Tryz.prog 3 wr w2.heap.size k (zDz (xs.take k))∧Blk wr g 42 tv∧Ext w wr) (fun _ i _=>xs.length-(intOf i).toNat)
 case atStart=>exact⟨0,false,by omega,rfl,rfl,by simp,by simp,MapG.made _,hb2.alloc _,hxm.alloc _⟩
 case round =>
  clear hb2 hxm
  obtain⟨k,tb,hk,rfl,rfl,htb,hin,hm,hb,hx⟩:=hrel
  have HTB:=zA htb
  have HIN:=zA hin
  clear htb hin
  by_cases hlt:k<xs.length
  ·obtain⟨ad,u,rfl, -,hxk,hcell⟩:=(hs.ext hx).at1 hlt
   obtain⟨hkl,rfl⟩:=zCb _ _ _ hxk
   clear hxk
   cases hq:inB xs[k] 0 255 with
   | true =>
     obtain⟨q1,q2⟩:=vX.1 hq
     have h0':decide (xs[k]<0)=false:=by simpa using q1
     have h1':decide (256≤xs[k])=false:=by simp;omega
     have HN:=zA (zGg HIN.out hkl ⟨q1,q2⟩)
     have HND:=zA (zKx hkl)
     have HU:=zA (seenF_upd xs k hkl)
     have HO:=zA (zRZ xs k hkl)
     have HLK:=zA (zSW (xs.take k) xs[k])
     have hkey:=zA (zDF (P:=Tryz.prog) Tryz.underlying3 (a:=xs[k]) (by omega) (by omega))
     generalize xs[k]=x at *
     clear hq
     cases tb with
     | true =>
       go_wp2_with (at_mapUpdate;refine zCT (by rfl) _ _ _ 196 4 rfl zDD Tryz.underlying196 rfl hm (by omega) _ rfl _ rfl x hkey.out (zDz (xs.take (k+1))) HU.out (fun j _ hj=>HO.out j (fun e=>hj (by rw[e]))) (fun j _ hj=>by injection hj) ?_;intro w7 hm7 hg7)
       go_roundw
       case rel =>
        exact⟨k+1,true,by omega,by go_num,rfl,by have h1:=HTB.out;have h2:=HND.out;simp at h1 ⊢;rw[h2];simp[h1],HN.out,hm7,hb.grown hg7 (by simp;omega),zHi hx hg7 (by omega)⟩
       case measure=>simp[intOf];omega
     | false =>
       go_wp2_with (first
        | (at_lookup;refine zCq (by rfl) _ _ 196 4 rfl zDD Tryz.underlying196 _ (zero_bool _) rfl hm _ rfl x trivial hkey.out _ HLK.out ?_)
        | (at_mapUpdate;refine zCT (by rfl) _ _ _ 196 4 rfl zDD Tryz.underlying196 rfl hm (by omega) _ rfl _ rfl x hkey.out (zDz (xs.take (k+1))) HU.out (fun j _ hj=>HO.out j (fun e=>hj (by rw[e]))) (fun j _ hj=>by injection hj) ?_;intro w7 hm7 hg7))
       go_roundw
       case rel =>
        exact⟨k+1,decide (x∈xs.take k),by omega,by go_num,rfl,by have h1:=HTB.out;have h2:=HND.out;simp at h1;by_cases hm:x∈xs.take k<;>simp[h2,h1,hm],HN.out,hm7,hb.grown hg7 (by simp;omega),zHi hx hg7 (by omega)⟩
       case measure=>simp[intOf];omega
   | false =>
     have HF:=zA (HZ1.out (zQT hkl hq))
     rcases Int.lt_or_le xs[k] 0 with h0 | h0
     ·have h0':decide (xs[k]<0)=true:=by simpa using h0
      clear hq
      go_wp2_with fail
      go_ret
      exact⟨by rw[HF.out];rfl,hx⟩
     ·have h0':decide (xs[k]<0)=false:=by simpa using h0
      have h1':decide (256≤xs[k])=true:=by have:=zCI.1 hq;simp;omega
      clear hq
      go_wp2_with fail
      go_ret
      exact⟨by rw[HF.out];rfl,hx⟩
  ·have hkx:k=xs.length:=by omega
   have e1:xs.take k=xs:=wC4 (by omega)
   rw[e1] at HTB HIN
   have HA:=zA (zY.2 HIN.out)
   clear e1 hm
   go_wp2_with (refine wpList_load_mid rfl 40 (.tmp 49) rfl g 0 rfl (ints cs) _ (HRG.out _ _ hb) Tryz.underlying40 rfl (by rw[hcl.out];exact zLY) ?_)
   go_loop [9,51] (fun nx i=> ∃ k:Nat,k≤16∧i=.int .i64 (k:Int)∧nx=.int .i64 (jV cs k:Nat)∧jV cs k+1≤2 ^ k∧(∀ j,j<k→jV cs (j+1)+1≤2 ^ (j+1))∧(0<k→tb=false)) (fun _ i=>16-(intOf i).toNat)
   case atStart=>exact⟨0,by omega,rfl,rfl,by simp[jV],by intro j hj;omega,by omega⟩
   case round =>
    obtain⟨k,hk,rfl,rfl,hnx,hall,htw⟩:=hrel
    have HALL:=zA hall
    have HTW:=zA htw
    clear hall htw
    by_cases hlt2:k<16
    ·have hkl:k<cs.length:=by have:=HL.out;omega
     have hix:=HIX.out k hkl hlt2
     obtain⟨q1,q2⟩:=HAL.out _ (wE2 hkl)
     obtain⟨n,hn⟩: ∃ n:Nat,cs[k]=(n:Int):=⟨cs[k].toNat,by omega⟩
     have HNW:=zA (zLD cs k n hkl hn)
     have HNO:=zA (fun h=>okW_no (cs:=cs) hlt2 h)
     rw[hn] at hix q1 q2
     have hp:(2:Nat) ^ k≤65536:=by have:=wI4 (n:=2) (by omega) (show k≤16 by omega);simpa using this
     have HP:Hid (2 ^ (k+1)=2*2 ^ k):=zA (by rw[wL8];omega)
     rw[HNW.out,HP.out] at HNO
     have hp1:(1:Int)≤2 ^ (k+1):=zBp (k+1)
     have hp2:(2:Int) ^ (k+1)≤131072:=by have:=zGS (k+1) 17 (by omega);simpa using this
     have HPI:Hid ((2:Int) ^ (k+1)=((2*2 ^ k:Nat):Int)):=zA (by rw[←HP.out];simp)
     clear hn
     cases tb with
     | true =>
       have HF:=zA (HZ2.out HA.out (by have:=HTB.out;simpa using this))
       go_wp2_with fail
       go_ret
       exact⟨by rw[HF.out];rfl,hx⟩
     | false =>
       generalize jV cs k=N at *
       by_cases hbad:2*N+n+1≤2*2 ^ k
       ·have hd:decide ((2:Int) ^ (k+1)-1<(N:Int)*2+(n:Int))=false:=by have:=HPI.out;simp;omega
        go_wp2_with fail
        go_round
        case rel =>
         refine⟨k+1,by omega,by go_num,by rw[HNW.out];congr 1;omega,by rw[HNW.out,HP.out];omega, ?_,by simp⟩
         intro i hi
         by_cases hik:i=k
         ·subst hik;rw[HNW.out,HP.out];omega
         ·exact HALL.out i (by omega)
        case measure=>simp[intOf];omega
       ·have hd:decide ((2:Int) ^ (k+1)-1<(N:Int)*2+(n:Int))=true:=by have:=HPI.out;simp;omega
        have HF:=zA (HZ3.out HA.out (by have:=HTB.out;simpa using this))
        have HNO':=zA (HNO.out (by omega))
        go_wp2_with fail
        go_ret
        exact⟨by rw[HF.out,HNO'.out];rfl,hx⟩
    ·obtain rfl:k=16:=by omega
     obtain rfl:=HTW.out (by omega)
     have HF:=zA (HZ3.out HA.out (by have:=HTB.out;simpa using this))
     have HOK:=zA (okW_yes HALL.out)
     go_wp2_with fail
     go_ret
     exact⟨by rw[HF.out,HOK.out];rfl,hx⟩
theorem zBl (cs xs:List Int) (sl:Value) (w:World) (hl:cs.length=16) (hs:SL w 1 sl xs.length (ints xs)) :
 Calls Tryz.prog 102 #[.agg (yM cs sl)] w fun e w'=>e=.returned (.int .i64 (zV cs xs))∧Ext w w':=by
 cases h:zCo cs xs with
 | true=>exact check_in cs xs sl w hl hs h
 | false=>rw[zLp h];exact check_tot cs xs sl w hl hs h
end
theorem words_any (cs xs:List Int) (sl:Value) (w:World) (hl:cs.length=16) (hs:SL w 1 sl xs.length (ints xs)) (hal:zM cs 0 256=true) (hok:okW cs=true) (hsum:zAh cs 16=xs.length) (hx256:xs.length≤256) :
 Calls Tryz.prog 106 #[.agg (yM cs sl)] w fun e w'=> ∃ A c,e=.returned (.slice A xs.length c)∧SL w' 3 (.slice A xs.length c) xs.length (qM (zK (zD cs 16) xs))∧(∀ ad,A=some ad→w.heap.size≤ad.block)∧Ext w w':=by
 have hlast:=zA (fun W g (h:Blk W g 42 (yM cs sl))=>zEK h hl)
 have HRG:=zA (fun W g (h:Blk W g 42 (yM cs sl))=>zEj h)
 have hcl:=zA ((yA cs).trans hl)
 have HIX:=zA (fun k (hk:k<cs.length) (h16:k<16)=>fun W=>zFq (ints cs).toArray k (.int .i64 cs[k]) h16 (jA cs k hk) W)
 have HAL:=zA (zY.1 hal)
 have HL:=zA hl
 have HLEN:Hid ((zD cs 16).length=xs.length):=zA (by have:=zCd cs (fun z hz=>(HAL.out z hz).1) 16 (by omega);omega)
 have HOKS:=zA (fun k (hk:k<16)=>by simpa using wB5.1 hok k (wB7.2 hk))
 have hs':=hs
 obtain⟨A,c,rfl,hc1,hc2, -, -⟩:=hs'
 generalize yM cs (.slice A xs.length c)=tv at *
 clear hal hok hsum
 go_enter Tryz.func106,Tryz.ntmps106
 go_wp2_with (first
  | (refine wBox rfl 42 (.tmp 0) rfl tv rfl ?_;intro w1 g hb1 hx1 hg)
  | (refine wpList_load_mid rfl 40 (.tmp 7) rfl g 0 rfl (ints cs) _ (HRG.out _ _ hb1) Tryz.underlying40 rfl (by rw[hcl.out];exact zLY) ?_))
 have hs1:=hs.ext hx1
 have hgw:=hb1.lt
 have hsz1:=hx1.size
 go_loopw [3,4,9] (fun v nx i wr=> ∃ k:Nat,k≤16∧i=.int .i64 (k:Int)∧nx=.int .i64 (jV cs k:Nat)∧jV cs k+1≤2 ^ k∧OwnV wr w1.heap.size 94 3 v (zD cs k).length (qM (zK (zD cs k) xs))∧Ext w1 wr) (fun _ _ i _=>16-(intOf i).toNat)
 case atStart=>exact⟨0,by omega,rfl,rfl,by simp[jV],by rw[zCh];exact OwnV.nil _ _ _ _,Ext.refl _⟩
 case round =>
  obtain⟨k,hk,rfl,rfl,hnx,⟨B0,d0,rfl,hown⟩,hx⟩:=hrel
  by_cases hlt:k<16
  ·have hsd:decide ((k:Int)<16)=true:=by simp;omega
   have hkl:k<cs.length:=by have:=HL.out;omega
   have hix:=HIX.out k hkl hlt
   obtain⟨q1,q2⟩:=HAL.out _ (wE2 hkl)
   obtain⟨n,hn⟩: ∃ n:Nat,cs[k]=(n:Int):=⟨cs[k].toNat,by omega⟩
   have HNW:=zA (zLD cs k n hkl hn)
   have HCW:=zA (zJt cs k n hkl hn)
   have HOK:=zA (HOKS.out k hlt)
   have HMO:=zA (zRD cs (k+1) 16 (by omega))
   rw[hn] at hix q1 q2
   have hp:(2:Nat) ^ k≤65536:=by have:=wI4 (n:=2) (by omega) hk;simpa using this
   have HP:Hid (2 ^ (k+1)=2*2 ^ k):=zA (by rw[wL8];omega)
   have HRS:=zA (zOR cs k)
   have HR0:Hid (uB cs k 0=[]):=zA rfl
   have HRL:=zA (zGW cs k)
   have hbound:(zD cs k).length+n≤xs.length:=by have h1:=HMO.out;have h2:=HLEN.out;rw[HCW.out,wF3,HRL.out] at h1;omega
   generalize jV cs k=N at *
   generalize (2:Nat) ^ k=Pw at *
   clear hn hkl
   generalize zD cs k=C at *
   have HC0:Hid (zK (C++uB cs k 0) xs=zK C xs):=zA (by rw[HR0.out,wG6])
   go_wp2_with fail
   go_loopw [3,4,16] (fun v nx i wr=> ∃ j:Nat,j≤n∧i=.int .i64 (j:Int)∧nx=.int .i64 ((2*N+j:Nat):Int)∧OwnV wr w1.heap.size 94 3 v (C.length+j) (qM (zK (C++uB cs k j) xs))∧Ext w1 wr) (fun _ _ i _=>n-(intOf i).toNat)
   case atStart=>exact⟨0,by omega,rfl,vint (by omega),by rw[HC0.out];exact OwnV.mk hown,hx⟩
   case round =>
    clear hown hx
    obtain⟨j,hj,rfl,rfl,⟨B,d,rfl,hown⟩,hx⟩:=hrel
    have hclen:(C++uB cs k j).length=C.length+j:=by rw[wF3,HRL.out]
    have hzl:(zK (C++uB cs k j) xs).length=C.length+j:=by rw[zCP _ _ (by omega),hclen]
    have hcz:=zA hclen
    have HZL:=zA hzl
    clear hclen
    by_cases hlj:j<n
    ·have hix2:C.length+j<xs.length:=by omega
     have HZS:Hid (zK (C++uB cs k (j+1)) xs=zK (C++uB cs k j) xs++[(xs[C.length+j],((k+1:Nat):Int),((2*N+j:Nat):Int))]):=zA (by
      rw[HRS.out j, ←wG2,zipC_snoc _ _ _ (by rw[hcz.out];exact hix2)]
      simp only[hcz.out])
     obtain⟨ad,u,hA, -,hxk,hcell⟩:=(hs1.ext hx).at1 hix2
     obtain⟨hkl2,rfl⟩:=zCb _ _ _ hxk
     subst hA
     have hc16:=hlast.out _ _ (hb1.ext hx)
     generalize xs[C.length+j]=x at *
     generalize zK (C++uB cs k j) xs=T at *
     generalize hM:C.length+j=M at *
     have hM256:M<256:=by omega
     have HM:=zA hM
     clear hxk hM hzl
     go_wp2_with (at_builtin;go_must (refine zBu elt_word rfl _ _ rfl w1.heap.size _ _ _ rfl (hown.alloc _) _ 1 [.int .i64 _,.int .i64 _,.int .i64 _] rfl (one_sl3' _ _ _ _ _) (int3_one _ _ _) (by omega) (by omega) (by have:=hx.size;simp;omega) ?_);intro v' w7 hown7 hb7)
     go_roundw
     case rel =>
      refine⟨j+1,by omega,by go_num,vint (by omega), ?_,(hx.alloc _).trans' hb7⟩
      rw[HZS.out]
      have:=own_tok3 (T:=T) (by rw[HZL.out];exact hown7)
      rw[wF3,HZL.out, ←HM.out] at this
      simpa [wA0] using OwnV.mk this
     case measure=>simp[intOf];omega
    ·obtain rfl:j=n:=by omega
     clear hzl
     go_wp2_with fail
     go_roundw
     case rel=>exact⟨k+1,by omega,by go_num,by rw[HNW.out],by rw[HNW.out,HP.out];have:=HOK.out;rw[HNW.out,HP.out] at this;omega,by rw[HCW.out,hcz.out];exact OwnV.mk hown,hx⟩
     case measure=>simp[intOf];omega
  ·have ek:k=16:=by omega
   rw[ek] at hown ⊢
   rw[HLEN.out] at hown ⊢
   go_wp2_with fail
   go_ret
   obtain⟨hsl,hfs⟩:=jK hown
   exact⟨B0,d0,rfl,hsl,fun ad h=>by have:=hfs ad h;omega,hx1.trans hx⟩
theorem zBL {cs xs:List Int} (h:zV cs xs=0):zM cs 0 256=true∧zAh cs 16=xs.length∧xs.length≤256∧okW cs=true∧zM xs 0 255=true∧xs.Nodup:=by
 unfold zV at h
 split at h
 ·next h1 =>
  obtain⟨q1,q2,q3⟩:=zFg.1 h1
  split at h
  ·next h2 =>
   split at h
   ·next h3 =>
    simp only[wA9,wB3] at h3
    exact⟨q1,q3,by omega,h3.2,h2,h3.1⟩
   ·cases h
  ·cases h
 ·cases h
end Go.Proofs.YtkggcjdlpendfaaGreatDoor
