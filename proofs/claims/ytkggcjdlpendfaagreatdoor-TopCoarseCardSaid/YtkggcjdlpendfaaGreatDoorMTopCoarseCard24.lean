/- Contracts of the functions that the law reaches, part 24. -/
import Derived.Lib.Bytealg
import Derived.Test.YtkggcjdlpendfaaGreatDoorMTopCoarseCard23
namespace Go.Proofs.YtkggcjdlpendfaaGreatDoor
set_option linter.unusedVariables false
set_option linter.unusedSimpArgs false
set_option maxRecDepth 20000
set_option maxHeartbeats 8000000
open Go.RowKit
def zAF (next:Bool→Nat→Tok×Int×Nat):Nat→Int→Nat→List Int→Int×List Int×Nat
 | 0,_,p,acc=>(0,acc,p)
 | m+1,before,p,acc=>if (qW next before p).1≠0 then ((qW next before p).1,[],p) else zAF next m ((qW next before p).2.1.getD 0 0) (qW next before p).2.2.2 (acc++(qW next before p).2.1)
theorem zMG {next:Bool→Nat→Tok×Int×Nat} {m:Nat} {before:Int} {p:Nat} {acc:List Int} (h:(qW next before p).1≠0):zAF next (m+1) before p acc=((qW next before p).1,[],p):=by rw[zAF,if_pos h]
theorem zIp {next:Bool→Nat→Tok×Int×Nat} {m:Nat} {before:Int} {p:Nat} {acc:List Int} (h:(qW next before p).1=0):zAF next (m+1) before p acc=zAF next m ((qW next before p).2.1.getD 0 0) (qW next before p).2.2.2 (acc++(qW next before p).2.1):=by rw[zAF,if_neg (by simp[h])]
theorem zLz {next:Bool→Nat→Tok×Int×Nat}: ∀ (m:Nat) (before:Int) (p:Nat) (acc:List Int) (k:Nat),acc.length=k*64→(zAF next m before p acc).1=0→(zAF next m before p acc).2.1.length=(k+m)*64
 | 0,_,_,acc,k,h,_=>by rw[zAF];simpa using h
 | m+1,before,p,acc,k,h,h0=>by
   by_cases he:(qW next before p).1=0
   ·rw[zIp he] at h0 ⊢
    have:=zLz m _ _ (acc++(qW next before p).2.1) (k+1) (by rw[wF1,h,(zOJ next before p).1];omega) h0
    rw[this]
    congr 1
    omega
   ·rw[zMG he] at h0
    exact absurd h0 he
def zCm (D:List Bool) (r:Int×List Int×Nat):Int×List Int:=if r.1≠0 then (r.1,[]) else if 7<D.length-r.2.2∨false∈D.drop r.2.2 then (4,[]) else (0,r.2.1)
theorem ones_iff (L:List Bool):yA L=2 ^ L.length-1↔ ¬false∈L:=by
 rw[←zLS]
 constructor
 ·intro h hm
  have e:L=List.replicate L.length true:=zIy (by simp) h
  rw[e] at hm
  have:=(wJ5.1 hm).2
  cases this
 ·intro h
  have e:L=List.replicate L.length true:=by
   refine List.eq_replicate_iff.2 ⟨rfl,fun b hb=> ?_⟩
   cases b with
   | true=>rfl
   | false=>exact absurd hb h
  rw[←e]
def uB (r:Bool) (T1 T2:List Tok) (nn:Int) (bs:Option (List Nat)):Int×List Int :=
 if nn<0∨400<nn then (1,[]) else match bs with
  | none=>(4,[])
  | some pb=>zCm (zK pb) (zAF (yM r T1 T2 (zK pb)) nn.toNat 0 0 [])
def zCw (r:Int×List Int) (w:World) (e:Ending) (w':World):Prop :=
 Ext w w'∧if r.1=0 then ∃ B k d,e=.returned (.tuple #[.slice B k d,.int .i64 0])∧r.2.length=k*64∧SL w' 64 (.slice B k d) k (ints r.2)∧(B=none→d=0)
  else e=.returned (.tuple #[.slice none 0 0,.int .i64 r.1])
theorem zQe {r:Bool} {T1 T2:List Tok} {D:List Bool} {b:Bool} {p:Nat} (hT1: ∀ t∈T1,0≤t.1∧t.1≤255) (hT2: ∀ t∈T2,0≤t.1∧t.1≤255) (h:(yM r T1 T2 D b p).2.1=0) :
 I64 (yM r T1 T2 D b p).1.1∧I64 (yM r T1 T2 D b p).1.2.1∧I64 (yM r T1 T2 D b p).1.2.2:=by
 by_cases h0:(vO (if b then T1 else T2) D p).2.2≠0
 ·rw[zIZ h0] at h
  exact absurd h h0
 ·obtain⟨s,p',e⟩: ∃ s p',vO (if b then T1 else T2) D p=(s,p',0):=⟨_,_,Prod.ext rfl (Prod.ext rfl (by simpa using h0))⟩
  have hr:=zNT (T:=if b then T1 else T2) (D:=D) (p:=p) (by cases b<;>assumption)
  rw[e] at hr
  dsimp only at hr
  by_cases hb:12<(if b then s else s%16)∨(b=false∧11<(if b then s else s%16))
  ·rw[zGi e rfl hb] at h;cases h
  ·by_cases hl:D.length<p'+(if b then s else s%16).toNat
   ·rw[zGa e rfl hb hl] at h;cases h
   ·rw[zES e rfl hb hl]
    have h12:(if b then s else s%16)≤12:=Int.not_lt.1 fun k=>hb (.inl k)
    have h00:0≤(if b then s else s%16):=by cases b<;>simp<;>omega
    have hn:=zCl (D.drop p') (if b then s else s%16).toNat 12 (by omega)
    have h4:(2:Nat) ^ 12=4096:=by decide
    rw[h4] at hn
    unfold I64
    dsimp only
    refine⟨by omega,by omega,by omega⟩
section
open Go.RowKit Go.Maps Go.WideMaps
theorem numB_bit (D:List Bool) (p k:Nat) (h:p+k<D.length):yA ((D.drop p).take (k+1))=2*yA ((D.drop p).take k)+yA ((D.drop (p+k)).take 1):=by
 rw[zFL _ _ (by simp;omega)]
 congr 1
 have e:(D.drop (p+k)).take 1=[D[p+k]]:=by
  rw[wG1 h];rfl
 rw[e]
 simp[yA]
theorem zMH (w:World):(zeroValue 3).run Tryz.prog w=.ok (.int .i64 0) w:=by kernel_rfl
theorem zOO (gc gr:Nat) (T:List Tok) (A:Option Addr) (n c p:Nat) (bs:List Nat) (w0 w:World) (hc:CoderS w0 gc T) (hg:w0.heap.size≤gr) (hbw:Below gr w0 w) (hr:RdS w gr A n c p bs) (hgw:gr<w.heap.size) :
 Calls Tryz.prog 243 #[.pointer (some ⟨gc,0,none⟩),.pointer (some ⟨gr,0,none⟩)] w fun e w' =>
  e=.returned (.tuple #[.int .i64 (jE T (zK bs) p 16 1).1,.int .i64 (jE T (zK bs) p 16 1).2.2])∧RdS w' gr A n c (if (jE T (zK bs) p 16 1).2.2=0 then (jE T (zK bs) p 16 1).2.1 else if (jE T (zK bs) p 16 1).2.2=3 then 8*n else p+16) bs∧Upd (fun x=>x=gr) w w':=by
 have HD:Hid ((zK bs).length=8*n):=zA (by rw[zDp,hr.2.2.1])
 have HNB:=zA (numB_bit (zK bs) p)
 have HLT:=zA (fun i (h1:i≤24)=>zCl ((zK bs).drop p) i 24 h1)
 have HL1:=zA (fun q=>zCl ((zK bs).drop q) 1 1 (by omega))
 have HG0:Hid (∀ long,jE T (zK bs) p 0 long=(0,p,4)):=zA (fun long=>getGo_end)
 have HGO:Hid (∀ f long, ¬p+long≤8*n→jE T (zK bs) p (f+1) long=(0,p,3)):=zA (fun f long h=>getGo_out (by rw[HD.out];exact h))
 have HGY:Hid (∀ f long t,p+long≤8*n→T.find? (zBb (long:Int) (yA (((zK bs).drop p).take long):Nat))=some t→jE T (zK bs) p (f+1) long=(t.1,p+long,0)):=zA (fun f long t h hf=>getGo_yes (by rw[HD.out];exact h) hf)
 have HGN:Hid (∀ f long,p+long≤8*n→T.find? (zBb (long:Int) (yA (((zK bs).drop p).take long):Nat))=none→jE T (zK bs) p (f+1) long=jE T (zK bs) p f (long+1)):=zA (fun f long h hf=>getGo_no (by rw[HD.out];exact h) hf)
 obtain⟨ez,hez⟩: ∃ ez,ez=jE T (zK bs) p 16 1:=⟨_,rfl⟩
 have HEZ:=zA hez
 rw[←hez]
 obtain⟨ps,hps⟩: ∃ ps,ps=(if ez.2.2=0 then ez.2.1 else if ez.2.2=3 then 8*n else p+16):=⟨_,rfl⟩
 have HPS:=zA hps
 rw[←hps]
 clear hez hps
 have hp0:p≤8*n:=hr.2.2.2.2.2.2
 go_enter Tryz.func243,Tryz.ntmps243
 go_wp2_with fail
 go_loopw [6,7] (fun v i wr=> ∃ k:Nat,k≤16∧i=.int .i64 ((k+1:Nat):Int)∧v=.int .i64 ((yA (((zK bs).drop p).take k):Nat):Int)∧Hid (ez=jE T (zK bs) p (16-k) (k+1))∧RdS wr gr A n c (p+k) bs∧Upd (fun x=>x=gr) w wr) (fun _ i _=>17-(intOf i).toNat)
 case atStart=>exact⟨0,by omega,rfl,by simp[yA],HEZ,hr,Upd.refl _ _⟩
 case round =>
  clear HEZ hr
  obtain⟨k,hk,rfl,rfl,HEZ,hr,hu⟩:=hrel
  have hpk:p+k≤8*n:=hr.2.2.2.2.2.2
  by_cases hlt:k<16
  ·have HEK:Hid (ez=jE T (zK bs) p (15-k+1) (k+1)):=zA (by rw[HEZ.out,show 15-k+1=16-k by omega])
   clear HEZ
   by_cases hfit:p+k+1≤8*n
   ·have HYES:=zA (fun t h=>HEK.out.trans (HGY.out (15-k) (k+1) t (by omega) h))
    have HNO:=zA (fun h=>HEK.out.trans (HGN.out (15-k) (k+1) (by omega) h))
    have hcw:=hc.below hg (hbw.trans (hu.below (fun x hx=>by omega) (by omega)))
    have HG:Hid (∀ W,RdS W gr A n c (p+k) bs→Calls Tryz.prog 164 #[.pointer (some ⟨gr,0,none⟩),.int .i64 1] W fun e w'=>e=.returned (.tuple #[.int .i64 ((yA (((zK bs).drop (p+k)).take 1):Nat):Int),.bool true])∧RdS w' gr A n c (p+k+1) bs∧Upd (fun x=>x=gr) W w'):=zA (fun W h=>zHm gr A n c (p+k) bs 1 W h hfit (by omega))
    have HM2:=zA (HNB.out k (by rw[HD.out];omega))
    have hm0:=HLT.out k (by omega)
    have hm20:=HLT.out (k+1) (by omega)
    have hb0:=HL1.out (p+k)
    generalize yA (((zK bs).drop (p+k)).take 1)=b at *
    generalize yA (((zK bs).drop p).take k)=m at *
    generalize hm2:yA (((zK bs).drop p).take (k+1))=m2 at *
    have HMM:=zA hm2
    clear hm2
    have hb2:b<2:=by omega
    have hm:m<1099511627776:=by omega
    have hk64:IntKind.i64.wrap (((k+1:Nat):Int)+1)=((k+1+1:Nat):Int):=by rw[IntWalk.i64_in _ (by omega)];omega
    go_upto_region 8 with (go_at_call 164;(with_reducible refine (HG.out _ hr).mono ?_);rintro e w5 ⟨rfl,hr5,hu5⟩)
    refine wp_region_lit ?_
    refine zB rfl (.int .i64 ((m:Nat):Int)) (zC rfl rfl) ?_
    simp only[Act.put,sA,sB,sC]
    refine zB rfl (.int .i64 ((2*m:Nat):Int)) (zBe (k:=.i64) (m:=(m:Int)) (k':=.u64) (n:=1) rfl rfl rfl (zIV m hm)) ?_
    simp only[Act.put,sA,sB,sC]
    refine zB rfl (.int .i64 ((b:Nat):Int)) (zC rfl rfl) ?_
    simp only[Act.put,sA,sB,sC]
    refine zB rfl (.int .i64 ((m2:Nat):Int)) (by rw[HM2.out];exact zBe (k:=.i64) (m:=((2*m:Nat):Int)) (k':=.i64) (n:=((b:Nat):Int)) rfl rfl rfl (run_or2 m b hm hb2)) ?_
    simp only[Act.put,sA,sB,sC]
    refine zB rfl (.int .i64 ((m2:Nat):Int)) (zW rfl rfl) ?_
    simp only[Act.put,sA,sB,sC]
    have hcw5:CoderS w5 gc T:=hc.below hg (hbw.trans ((hu.trans hu5 (fun x hx=>.inl hx)).below (fun x hx=>by omega) (by omega)))
    have hu15:=hu.trans hu5 (fun x hx=>.inl hx)
    obtain⟨m1,mp,mn,hB,hm1,hmp⟩:=hcw5
    have c1:=hB.cell 1
    simp only[wH2,wM1,wM2] at c1
    have hok:okP (((k+1:Nat):Int),(m2:Int)):=⟨by simp only;omega,by simp only;omega⟩
    have HKEY:=zA (zII _ hok)
    have HCF:=zA (zMh T ((k+1:Nat):Int) (m2:Int))
    cases hf:T.find? (zBb ((k+1:Nat):Int) (m2:Int)) with
    | some t =>
      rw[hf] at HCF
      simp only[Option.map_some] at HCF
      have HZ2:=zA (HYES.out t hf)
      clear hf HYES HNO
      go_wp2_with (at_lookup;refine zBV (by rfl) _ _ 239 3 rfl keyed_pair Tryz.underlying239 _ (zMH _) rfl hmp _ rfl (((k+1:Nat):Int),(m2:Int)) hok HKEY.out (.int .i64 t.1) (by rw[HCF.out];rfl) true (by rw[HCF.out];rfl) ?_)
      go_ret2
      rw[HZ2.out]
      exact⟨rfl,by rw[HPS.out,HZ2.out,if_pos rfl];exact hr5,hu15⟩
    | none =>
      rw[hf] at HCF
      simp only[Option.map_none] at HCF
      have HZ2:=zA (HNO.out hf)
      clear hf HYES HNO
      go_wp2_with (at_lookup;refine zBV (by rfl) _ _ 239 3 rfl keyed_pair Tryz.underlying239 _ (zMH _) rfl hmp _ rfl (((k+1:Nat):Int),(m2:Int)) hok HKEY.out (.int .i64 0) (by rw[HCF.out];rfl) false (by rw[HCF.out];rfl) ?_)
      go_roundw
      case rel=>exact⟨k+1,by omega,by go_num,by rw[HMM.out],zA (by rw[HZ2.out,show 15-k=16-(k+1) by omega]),hr5,hu15⟩
      case measure=>simp[intOf];omega
   ·have HZ2:Hid (ez=(0,p,3)):=zA (HEK.out.trans (HGO.out (15-k) (k+1) (by omega)))
    have HG:Hid (∀ W,RdS W gr A n c (p+k) bs→Calls Tryz.prog 164 #[.pointer (some ⟨gr,0,none⟩),.int .i64 1] W fun e w'=>e=.returned (.tuple #[.int .i64 0,.bool false])∧Ext W w'):=zA (fun W h=>get_no gr A n c (p+k) bs 1 W h (by omega) (by omega))
    go_wp2_with (go_at_call 164;(with_reducible refine (HG.out _ hr).mono ?_);rintro e w5 ⟨rfl,hx5⟩)
    go_ret2
    rw[HZ2.out]
    exact⟨rfl,by rw[HPS.out,HZ2.out,if_neg (show ¬(3:Int)=0 by decide),if_pos rfl,show 8*n=p+k by omega];exact hr.ext hx5,hu.trans (Upd.of_ext (S:=fun x=>x=gr) hx5) (fun x hx=>.inl hx)⟩
  ·have ek:k=16:=by omega
   subst ek
   rw[HG0.out] at HEZ
   go_wp2_with fail
   go_ret2
   rw[HEZ.out]
   exact⟨rfl,by rw[HPS.out,HEZ.out,if_neg (show ¬(4:Int)=0 by decide),if_neg (show ¬(4:Int)=3 by decide)];exact hr,hu⟩
end
section
structure DecIn (gk gr gc1 gc2:Nat) (T1 T2:List Tok) (A:Option Addr) (n c:Nat) (bs:List Nat) (W0 W:World) (p:Nat):Prop where
 k:Blk W0 gk 236 #[.pointer (some ⟨gc1,0,none⟩),.pointer (some ⟨gc2,0,none⟩)]
 c1:CoderS W0 gc1 T1
 c2:CoderS W0 gc2 T2
 size:W0.heap.size=gr
 b:Ext W0 W
 r:RdS W gr A n c p bs
section
variable {gk gr gc1 gc2:Nat} {T1 T2:List Tok} {A:Option Addr} {n c:Nat} {bs:List Nat} {W0 W W':World} {p p':Nat}
theorem DecIn.lt (h:DecIn gk gr gc1 gc2 T1 T2 A n c bs W0 W p):gr<W.heap.size:=h.r.1.lt
theorem DecIn.ext (h:DecIn gk gr gc1 gc2 T1 T2 A n c bs W0 W p) (hx:Ext W W'):DecIn gk gr gc1 gc2 T1 T2 A n c bs W0 W' p :=
 ⟨h.k,h.c1,h.c2,h.size,h.b.trans hx,h.r.ext hx⟩
theorem DecIn.keep (h:DecIn gk gr gc1 gc2 T1 T2 A n c bs W0 W p) {B:Nat} (hB:gr<B) (hu:Upd (fun b=>B≤b) W W'):DecIn gk gr gc1 gc2 T1 T2 A n c bs W0 W' p :=
 ⟨h.k,h.c1,h.c2,h.size,hu.ext h.b (fun x hx=>by have:=h.size;omega),h.r.upd hu (fun x hx=>by omega)⟩
theorem DecIn.moved (h:DecIn gk gr gc1 gc2 T1 T2 A n c bs W0 W p) (hu:Upd (fun x=>x=gr) W W') (hr:RdS W' gr A n c p' bs):DecIn gk gr gc1 gc2 T1 T2 A n c bs W0 W' p' :=
 ⟨h.k,h.c1,h.c2,h.size,hu.ext h.b (fun x hx=>by have:=h.size;omega),hr⟩
end
theorem run_loadR (W:World) (p q:Addr) (h:W.cell? p=some (.pointer (some q))):(Instr.loadAt 211 (.pointer (some p))).run Tryz.prog W=.ok (.pointer (some q)) W:=by
 go_simp
theorem zCQ {o:Oper} {a:Act} {x:Operand} (ho:o.op=.load 211 x) {p q:Addr} (hx:a.eval x=.pointer (some p)) {w:World} (h:w.cell? p=some (.pointer (some q))):(execOp a.eval o).run Tryz.prog w=.ok (.value (.pointer (some q))) w:=by
 simp[execOp,ho,hx,run_loadR w p q h]
theorem goesOf:zAP Tryz.prog 154:=⟨_,Tryz.func154,by kernel_rfl,by kernel_rfl⟩
theorem goesGet:zAP Tryz.prog 243:=⟨_,Tryz.func243,by kernel_rfl,by kernel_rfl⟩
theorem zBn (x y:Int):Tryz.prog.built 149 [(0,.int .i64 x),(1,.int .i64 y)]=some #[.int .i64 x,.int .i64 y,.int .i64 0]:=by
 show _=_
 kernel_rfl
attribute [local irreducible] zK yA vO yM
theorem zPr (gk gr gc1 gc2:Nat) (T1 T2:List Tok) (A:Option Addr) (n c:Nat) (bs:List Nat) (W0:World) (hG: ∀ (b:Bool) p,p≤(zK bs).length→jE (if b then T1 else T2) (zK bs) p 16 1=vO (if b then T1 else T2) (zK bs) p)
 (hT1: ∀ t∈T1,0≤t.1∧t.1≤255) (hT2: ∀ t∈T2,0≤t.1∧t.1≤255) (b:Bool) (p:Nat) (w:World) (h:DecIn gk gr gc1 gc2 T1 T2 A n c bs W0 w p) :
 Calls Tryz.prog 242 #[.agg #[.pointer (some ⟨gk,0,none⟩),.pointer (some ⟨gr,0,none⟩)],.bool b] w fun e w' =>
  e=.returned (.tuple #[.agg (xV (yM true T1 T2 (zK bs) b p).1).toArray,.int .i64 (yM true T1 T2 (zK bs) b p).2.1])∧DecIn gk gr gc1 gc2 T1 T2 A n c bs W0 w' (yM true T1 T2 (zK bs) b p).2.2∧Upd (fun x=>x=gr) w w':=by
 have hp:p≤8*n:=h.r.2.2.2.2.2.2
 have hD:(zK bs).length=8*n:=by rw[zDp,h.r.2.2.1]
 have hgo:=hG b p (by omega)
 obtain⟨T,hT⟩: ∃ T,T=if b then T1 else T2:=⟨_,rfl⟩
 obtain⟨gc,hgc⟩: ∃ g,g=if b then gc1 else gc2:=⟨_,rfl⟩
 have hrng: ∀ t∈T,0≤t.1∧t.1≤255:=by rw[hT];cases b<;>assumption
 have hcs:CoderS W0 gc T:=by
  rw[hT,hgc]
  cases b with
  | true=>exact h.c1
  | false=>exact h.c2
 rw[←hT] at hgo
 have hsm:=zNT (D:=zK bs) (p:=p) hrng
 have HGET:=zA (fun W (hW:DecIn gk gr gc1 gc2 T1 T2 A n c bs W0 W p)=>zOO gc gr T A n c p bs W0 W hcs (by rw[h.size];exact wA5 _) (by have h9:Below W0.heap.size W0 W:=hW.b;rwa [h.size] at h9) hW.r hW.lt)
 rw[hgo] at HGET
 have HOF:=zA (fun W (hx:Ext w W)=>of_any gk gc1 gc2 b W (h.k.ext (h.b.trans hx)))
 rw[←hgc] at HOF
 have hgw:=h.lt
 have HX:=zA (fun W (hx:Ext w W)=>h.ext hx)
 have HN1:Hid ((vO T (zK bs) p).2.2≠0→yM true T1 T2 (zK bs) b p=((0,0,0),(vO T (zK bs) p).2.2,if (vO T (zK bs) p).2.2=3 then 8*n else p+16)):=zA (fun h0=>by rw[hT] at h0 ⊢;rw[zIZ h0,hD];rfl)
 have HN2:Hid (∀ s p' wd,vO T (zK bs) p=(s,p',0)→(if b then s else s%16)=wd→(12<wd∨(b=false∧11<wd))→yM true T1 T2 (zK bs) b p=((0,0,0),4,p')):=zA (fun s p' wd h1 h2 h3=>by rw[hT] at h1;rw[zGi h1 h2 h3];rfl)
 have HN3:Hid (∀ s p' wd,vO T (zK bs) p=(s,p',0)→(if b then s else s%16)=wd→ ¬(12<wd∨(b=false∧11<wd))→8*n<p'+wd.toNat→yM true T1 T2 (zK bs) b p=((0,0,0),3,p')):=zA (fun s p' wd h1 h2 h3 h4=>by rw[hT] at h1;rw[zGa h1 h2 h3 (by rw[hD];exact h4)];rfl)
 have HN4:Hid (∀ s p' wd,vO T (zK bs) p=(s,p',0)→(if b then s else s%16)=wd→ ¬(12<wd∨(b=false∧11<wd))→ ¬8*n<p'+wd.toNat→yM true T1 T2 (zK bs) b p=((s,wd,((yA (((zK bs).drop p').take wd.toNat):Nat):Int)),0,p'+wd.toNat)):=zA (fun s p' wd h1 h2 h3 h4=>by rw[hT] at h1;rw[zES h1 h2 h3 (by rw[hD];exact h4)])
 obtain⟨R,hR⟩: ∃ R,yM true T1 T2 (zK bs) b p=R:=⟨_,rfl⟩
 rw[hR] at HN1 HN2 HN3 HN4 ⊢
 obtain⟨sz,hsz⟩: ∃ sz,vO T (zK bs) p=sz:=⟨_,rfl⟩
 rw[hsz] at HGET HN1 HN2 HN3 HN4 hsm
 obtain⟨s,p',er⟩:=sz
 dsimp only at hsm HGET HN1
 obtain⟨sn,hsn⟩: ∃ q:Nat,s=(q:Int):=⟨s.toNat,by omega⟩
 subst hsn
 have hsn2:sn≤255:=by omega
 clear hG hT1 hT2 hgo hT hgc hrng hcs hD hR hsz hsm h hp
 have HZT:Hid (Tryz.prog.built 149 []=some (xV (0,0,0)).toArray):=zA (by kernel_rfl)
 obtain⟨PP,hPP⟩: ∃ PP,(if er=0 then p' else if er=3 then 8*n else p+16)=PP:=⟨_,rfl⟩
 rw[hPP] at HGET
 go_enter Tryz.func242,Tryz.ntmps242
 go_wp2_with (first
  | ((with_reducible apply gS 2);refine wBox rfl 214 (.tmp 0) rfl #[.pointer (some ⟨gk,0,none⟩),.pointer (some ⟨gr,0,none⟩)] rfl ?_;intro w1 g2 hb1 hx1 hg1)
  | ((with_reducible apply gS 4);refine wAlo' rfl (some 4) rfl 149 rfl _ zAE ?_;intro w2 g4 hb2 hx2 hg2))
 have hx12:=(hx1.trans hx2).drew
 have hI2:=HX.out _ hx12
 have hb12:=(hb1.ext hx2).drew
 have hb22:=hb2.drew
 have hne2: ¬g2=gr:=by omega
 have hne4: ¬g4=gr:=by have:=hx1.size;omega
 have hI:Upd (fun x=>x=gr) w2.drew w2.drew:=Upd.refl _ _
 refine qI (Upd (fun x=>x=gr) w2.drew) (by kernel_rfl) ?_
 refine zH (k:=0) (by kernel_rfl) rfl (by rfl) (.pointer (some ⟨g2,0,none⟩)) (fun w=>by go_simp) hI ?_
 simp only[Act.put,sA,sB,sC]
 refine xD (k:=1) (by kernel_rfl) rfl (by rfl) (.pointer (some ⟨gk,0,none⟩)) (fun W hW=>zJH rfl rfl ((hW.blk hb12 hne2).cell 0)) hI ?_
 simp only[Act.put,sA,sB,sC]
 refine zH (k:=2) (by kernel_rfl) rfl (by rfl) (.bool b) (zC rfl rfl) hI ?_
 simp only[Act.put,sA,sB,sC]
 refine zH (k:=4) (by kernel_rfl) rfl (by rfl) (.pointer (some ⟨g2,1,none⟩)) (fun w=>by go_simp) hI ?_
 simp only[Act.put,sA,sB,sC]
 refine xD (k:=5) (by kernel_rfl) rfl (by rfl) (.pointer (some ⟨gr,0,none⟩)) (fun W hW=>zCQ rfl rfl ((hW.blk hb12 hne2).cell 1)) hI ?_
 simp only[Act.put,sA,sB,sC]
 refine xY (k:=3) (by kernel_rfl) rfl ?_
 refine xH (by rfl) (xI _ _ _ rfl rfl goesOf #[.pointer (some ⟨gk,0,none⟩),.bool b] (by simp[Act.eval])) ?_
 refine (HOF.out _ hx12).mono ?_
 rintro e w3 ⟨rfl,rfl⟩
 refine⟨_,rfl,zU ⟨hI, ?_⟩⟩
 simp only[Act.put,sA,sB,sC]
 refine xY (k:=6) (by kernel_rfl) rfl ?_
 refine xH (by rfl) (xI _ _ _ rfl rfl goesGet #[.pointer (some ⟨gc,0,none⟩),.pointer (some ⟨gr,0,none⟩)] (by simp[Act.eval])) ?_
 refine (HGET.out _ hI2).mono ?_
 rintro e w5 ⟨rfl,hr5,hu5⟩
 refine⟨_,rfl,zU ⟨hu5, ?_⟩⟩
 simp only[Act.put,sA,sB,sC]
 refine zH (k:=7) (by kernel_rfl) rfl (by rfl) (.tuple #[.int .i64 (sn:Int),.int .i64 er]) (zC rfl rfl) hu5 ?_
 simp only[Act.put,sA,sB,sC]
 refine zH (k:=8) (by kernel_rfl) rfl (by rfl) (.int .i64 (sn:Int)) (yR rfl rfl rfl) hu5 ?_
 simp only[Act.put,sA,sB,sC]
 refine zH (k:=9) (by kernel_rfl) rfl (by rfl) (.int .i64 er) (yR rfl rfl rfl) hu5 ?_
 simp only[Act.put,sA,sB,sC]
 refine zH (k:=10) (by kernel_rfl) rfl (by rfl) (.int .i64 (sn:Int)) (zW rfl rfl) hu5 ?_
 simp only[Act.put,sA,sB,sC]
 refine zH (k:=11) (by kernel_rfl) rfl (by rfl) (.int .i64 er) (zW rfl rfl) hu5 ?_
 simp only[Act.put,sA,sB,sC]
 refine uE (by kernel_rfl) ?_
 have hI5:=hI2.moved hu5 hr5
 have hb15:=hu5.blk hb12 hne2
 have hb25:=hu5.blk hb22 hne4
 have hu05:Upd (fun x=>x=gr) w w5:=(zV (S:=fun x=>x=gr) hx12).trans hu5 (fun x hx=>.inl hx)
 have hs5:=hu5.size
 have hsw:=hx12.size
 have hsw1:=hx1.size
 clear hb1 hb2 hb12 hb22 hI hx12 hI2 hu5
 by_cases h0:er=0
 ·subst h0
  rw[if_pos rfl] at hPP
  subst hPP
  obtain⟨m16,hm16⟩: ∃ m,sn%16=m:=⟨_,rfl⟩
  have H27:Hid (∀ W,(binOp .and 3 (.int .i64 (sn:Int)) (.int .i64 15)).run Tryz.prog W=.ok (.int .i64 (m16:Int)) W):=zA (fun W=>by rw[run_and15, ←hm16];rfl)
  have hm2:m16<16:=by omega
  have hmI:(sn:Int)%16=(m16:Int):=by omega
  clear HN1 hm16
  cases b with
  | true =>
    have HN2:=zA (fun h=>HN2.out (sn:Int) p' (sn:Int) rfl rfl h)
    have HN3:=zA (fun h=>HN3.out (sn:Int) p' (sn:Int) rfl rfl h)
    have HN4:=zA (fun h=>HN4.out (sn:Int) p' (sn:Int) rfl rfl h)
    rw[wE8] at HN3 HN4
    clear hmI
    by_cases hw:12<sn
    ·have H34:Hid (decide ((12:Int)<(sn:Int))=true):=zA (by rw[wK3];omega)
     have hRR:=HN2.out (.inl (by omega))
     subst hRR
     clear HN2 HN3 HN4
     go_wp2_with (first
      | ((with_reducible apply gS 27);refine zB rfl (.int .i64 (m16:Int)) (qE rfl rfl rfl H27.out) ?_)
      | ((with_reducible apply gS 28);refine zB rfl (.agg #[.int .i64 (sn:Int),.int .i64 (m16:Int),.int .i64 0]) (uH rfl rfl rfl (zBn _ _)) ?_)
      | ((with_reducible apply gS 8);refine wAlo' rfl (some 8) rfl 149 rfl _ zAE ?_;intro w6 g8 hb6 hx6 hg8)
      | ((with_reducible apply gT 8 28);refine wStB rfl 149 (.tmp 8) (.tmp 28) rfl _ _ rfl rfl hb6 3 yQ rfl rfl (jO (_,_,_)) ?_;intro w7 hb7 hg7;have hx7:Ext w5 w7:=hx6.grown hg7 hg8;have hz7:=hb7.frozen 1;have q7:w7.cell? ⟨g8,1,none⟩=some (.int .i64 (m16:Int)):=hb7.cell 1;have hb8:Blk (w7.setCell ⟨g8,1,none⟩ (.int .i64 (sn:Int))) g8 149 #[.int .i64 (sn:Int),.int .i64 (sn:Int),.int .i64 0]:=hb7.set_ 1 (.int .i64 (sn:Int));have hu8:Upd (fun x=>w5.heap.size≤x) w5 (w7.setCell ⟨g8,1,none⟩ (.int .i64 (sn:Int))):=Upd.setCell (S:=fun x=>w5.heap.size≤x) (zV hx7) (p:=⟨g8,1,none⟩) hg8 _;have hI8:=hI5.keep hI5.lt hu8;have q8:(w7.setCell ⟨g8,1,none⟩ (.int .i64 (sn:Int))).cell? ⟨g8,1,none⟩=some (.int .i64 (sn:Int)):=hb8.cell 1;have hb18:=hu8.blk hb15 (fun k=>by have:=hb15.lt;omega);have q9:(w7.setCell ⟨g8,1,none⟩ (.int .i64 (sn:Int))).cell? ⟨g2,1,none⟩=some (.pointer (some ⟨gr,0,none⟩)):=hb18.cell 1;have hb28:=hu8.blk hb25 (fun k=>by have:=hb25.lt;omega);have hu08:=hu05.trans (S:=fun x=>x=gr) hu8 (fun x k=>.inr (by omega)))
      | ((with_reducible apply gS 34);refine zB rfl (.bool true) (xP rfl rfl rfl H34.out) ?_)
      | ((with_reducible apply gS 44);refine jR rfl 149 rfl _ HZT.out ?_)
      | ((with_reducible apply gT 4 44);refine wStB rfl 149 (.tmp 4) (.tmp 44) rfl _ _ rfl rfl hb28 3 yQ rfl rfl (jO _) ?_;intro w9 hb9 hg9))
     have hu9:Upd (fun x=>w.heap.size≤x) (w7.setCell ⟨g8,1,none⟩ (.int .i64 (sn:Int))) w9:=vQ (zL hg9) (fun x k=>by have:=Option.some.inj k;omega)
     refine yB rfl rfl _ rfl hb9 _ Tryz.underlying149 rfl 3 yQ rfl ⟨rfl,hI8.keep hgw hu9,hu08.trans hu9 (fun x k=>.inr k)⟩
    ·have H34:Hid (decide ((12:Int)<(sn:Int))=false):=zA (by rw[wK4];omega)
     have hnb: ¬((12:Int)<(sn:Int)∨(true=false∧(11:Int)<(sn:Int))):=fun k=>k.elim (fun k=>by omega) (fun k=>by cases k.1)
     by_cases hl:8*n<p'+sn
     ·have hRR:=HN3.out hnb hl
      subst hRR
      have HG9:=zA (fun W (h:RdS W gr A n c p' bs)=>get_no gr A n c p' bs sn W h hl (by omega))
      clear HN2 HN3 HN4 hnb
      go_wp2_with (first
       | ((with_reducible apply gS 27);refine zB rfl (.int .i64 (m16:Int)) (qE rfl rfl rfl H27.out) ?_)
       | ((with_reducible apply gS 28);refine zB rfl (.agg #[.int .i64 (sn:Int),.int .i64 (m16:Int),.int .i64 0]) (uH rfl rfl rfl (zBn _ _)) ?_)
       | ((with_reducible apply gS 8);refine wAlo' rfl (some 8) rfl 149 rfl _ zAE ?_;intro w6 g8 hb6 hx6 hg8)
       | ((with_reducible apply gT 8 28);refine wStB rfl 149 (.tmp 8) (.tmp 28) rfl _ _ rfl rfl hb6 3 yQ rfl rfl (jO (_,_,_)) ?_;intro w7 hb7 hg7;have hx7:Ext w5 w7:=hx6.grown hg7 hg8;have hz7:=hb7.frozen 1;have q7:w7.cell? ⟨g8,1,none⟩=some (.int .i64 (m16:Int)):=hb7.cell 1;have hb8:Blk (w7.setCell ⟨g8,1,none⟩ (.int .i64 (sn:Int))) g8 149 #[.int .i64 (sn:Int),.int .i64 (sn:Int),.int .i64 0]:=hb7.set_ 1 (.int .i64 (sn:Int));have hu8:Upd (fun x=>w5.heap.size≤x) w5 (w7.setCell ⟨g8,1,none⟩ (.int .i64 (sn:Int))):=Upd.setCell (S:=fun x=>w5.heap.size≤x) (zV hx7) (p:=⟨g8,1,none⟩) hg8 _;have hI8:=hI5.keep hI5.lt hu8;have q8:(w7.setCell ⟨g8,1,none⟩ (.int .i64 (sn:Int))).cell? ⟨g8,1,none⟩=some (.int .i64 (sn:Int)):=hb8.cell 1;have hb18:=hu8.blk hb15 (fun k=>by have:=hb15.lt;omega);have q9:(w7.setCell ⟨g8,1,none⟩ (.int .i64 (sn:Int))).cell? ⟨g2,1,none⟩=some (.pointer (some ⟨gr,0,none⟩)):=hb18.cell 1;have hb28:=hu8.blk hb25 (fun k=>by have:=hb25.lt;omega);have hu08:=hu05.trans (S:=fun x=>x=gr) hu8 (fun x k=>.inr (by omega)))
       | ((with_reducible apply gS 34);refine zB rfl (.bool false) (xP rfl rfl rfl H34.out) ?_)
       | (go_at_call 164;(with_reducible refine (HG9.out _ hI8.r).mono ?_);rintro e w10 ⟨rfl,hx10⟩;have hb10:=hb28.ext hx10;have hI10:=hI8.ext hx10)
       | ((with_reducible apply gS 55);refine jR rfl 149 rfl _ HZT.out ?_)
       | ((with_reducible apply gT 4 55);refine wStB rfl 149 (.tmp 4) (.tmp 55) rfl _ _ rfl rfl hb10 3 yQ rfl rfl (jO _) ?_;intro w9 hb9 hg9))
      have hu9:Upd (fun x=>w.heap.size≤x) w10 w9:=vQ (zL hg9) (fun x k=>by have:=Option.some.inj k;omega)
      refine yB rfl rfl _ rfl hb9 _ Tryz.underlying149 rfl 3 yQ rfl ⟨rfl,hI10.keep hgw hu9,(hu08.trans (zV (S:=fun _=>False) hx10) (fun x k=>k.elim)).trans hu9 (fun x k=>.inr k)⟩
     ·have hRR:=HN4.out hnb hl
      have HG9:=zA (fun W (h:RdS W gr A n c p' bs)=>zHm gr A n c p' bs sn W h (by omega) (by omega))
      clear HN2 HN3 HN4 hnb
      generalize yA (((zK bs).drop p').take sn)=nb at hRR HG9
      subst hRR
      go_wp2_with (first
       | ((with_reducible apply gS 27);refine zB rfl (.int .i64 (m16:Int)) (qE rfl rfl rfl H27.out) ?_)
       | ((with_reducible apply gS 28);refine zB rfl (.agg #[.int .i64 (sn:Int),.int .i64 (m16:Int),.int .i64 0]) (uH rfl rfl rfl (zBn _ _)) ?_)
       | ((with_reducible apply gS 8);refine wAlo' rfl (some 8) rfl 149 rfl _ zAE ?_;intro w6 g8 hb6 hx6 hg8)
       | ((with_reducible apply gT 8 28);refine wStB rfl 149 (.tmp 8) (.tmp 28) rfl _ _ rfl rfl hb6 3 yQ rfl rfl (jO (_,_,_)) ?_;intro w7 hb7 hg7;have hx7:Ext w5 w7:=hx6.grown hg7 hg8;have hz7:=hb7.frozen 1;have q7:w7.cell? ⟨g8,1,none⟩=some (.int .i64 (m16:Int)):=hb7.cell 1;have hb8:Blk (w7.setCell ⟨g8,1,none⟩ (.int .i64 (sn:Int))) g8 149 #[.int .i64 (sn:Int),.int .i64 (sn:Int),.int .i64 0]:=hb7.set_ 1 (.int .i64 (sn:Int));have hu8:Upd (fun x=>w5.heap.size≤x) w5 (w7.setCell ⟨g8,1,none⟩ (.int .i64 (sn:Int))):=Upd.setCell (S:=fun x=>w5.heap.size≤x) (zV hx7) (p:=⟨g8,1,none⟩) hg8 _;have hI8:=hI5.keep hI5.lt hu8;have q8:(w7.setCell ⟨g8,1,none⟩ (.int .i64 (sn:Int))).cell? ⟨g8,1,none⟩=some (.int .i64 (sn:Int)):=hb8.cell 1;have hb18:=hu8.blk hb15 (fun k=>by have:=hb15.lt;omega);have q9:(w7.setCell ⟨g8,1,none⟩ (.int .i64 (sn:Int))).cell? ⟨g2,1,none⟩=some (.pointer (some ⟨gr,0,none⟩)):=hb18.cell 1;have hb28:=hu8.blk hb25 (fun k=>by have:=hb25.lt;omega);have hu08:=hu05.trans (S:=fun x=>x=gr) hu8 (fun x k=>.inr (by omega)))
       | ((with_reducible apply gS 34);refine zB rfl (.bool false) (xP rfl rfl rfl H34.out) ?_)
       | (go_at_call 164;(with_reducible refine (HG9.out _ hI8.r).mono ?_);rintro e w10 ⟨rfl,hr10,hu10⟩;have hb10:=hu10.blk hb28 hne4;have hb810:=hu10.blk hb8 (fun k=>by omega);have hI10:=hI8.moved hu10 hr10;have hz10:=hb810.frozen 2;have q10:w10.cell? ⟨g8,2,none⟩=some (.int .i64 0):=hb810.cell 2;have hb811:Blk (w10.setCell ⟨g8,2,none⟩ (.int .i64 (nb:Int))) g8 149 #[.int .i64 (sn:Int),.int .i64 (sn:Int),.int .i64 (nb:Int)]:=hb810.set_ 2 (.int .i64 (nb:Int));have hb411:=hb10.far (p:=⟨g8,2,none⟩) (show g4≠g8 by have:=hb25.lt;omega) (.int .i64 (nb:Int));have hu11:Upd (fun x=>w.heap.size≤x) w10 (w10.setCell ⟨g8,2,none⟩ (.int .i64 (nb:Int))):=Upd.setCell (S:=fun x=>w.heap.size≤x) (Upd.refl _ _) (p:=⟨g8,2,none⟩) (show w.heap.size≤g8 by omega) _)
       | ((with_reducible apply gS 58);refine wLdB rfl 149 (.tmp 8) rfl g8 rfl hb811 _ Tryz.underlying149 rfl 3 yQ rfl ?_)
       | ((with_reducible apply gT 4 58);refine wStB rfl 149 (.tmp 4) (.tmp 58) rfl _ _ rfl rfl hb411 3 yQ rfl rfl (jO (_,_,_)) ?_;intro w9 hb9 hg9))
      have hu9:Upd (fun x=>w.heap.size≤x) (w10.setCell ⟨g8,2,none⟩ (.int .i64 (nb:Int))) w9:=vQ (zL hg9) (fun x k=>by have:=Option.some.inj k;omega)
      refine yB rfl rfl _ rfl hb9 _ Tryz.underlying149 rfl 3 yQ rfl ⟨rfl,(hI10.keep hgw hu11).keep hgw hu9,((hu08.trans hu10 (fun x k=>.inl k)).trans hu11 (fun x k=>.inr k)).trans hu9 (fun x k=>.inr k)⟩
  | false =>
    have HN2:=zA (fun h=>HN2.out (sn:Int) p' (m16:Int) rfl hmI h)
    have HN3:=zA (fun h=>HN3.out (sn:Int) p' (m16:Int) rfl hmI h)
    have HN4:=zA (fun h=>HN4.out (sn:Int) p' (m16:Int) rfl hmI h)
    rw[wE8] at HN3 HN4
    clear hmI
    by_cases hw:12<m16
    ·have H34:Hid (decide ((12:Int)<(m16:Int))=true):=zA (by rw[wK3];omega)
     have hRR:=HN2.out (.inl (by omega))
     subst hRR
     clear HN2 HN3 HN4
     go_wp2_with (first
      | ((with_reducible apply gS 27);refine zB rfl (.int .i64 (m16:Int)) (qE rfl rfl rfl H27.out) ?_)
      | ((with_reducible apply gS 28);refine zB rfl (.agg #[.int .i64 (sn:Int),.int .i64 (m16:Int),.int .i64 0]) (uH rfl rfl rfl (zBn _ _)) ?_)
      | ((with_reducible apply gS 8);refine wAlo' rfl (some 8) rfl 149 rfl _ zAE ?_;intro w6 g8 hb6 hx6 hg8)
      | ((with_reducible apply gT 8 28);refine wStB rfl 149 (.tmp 8) (.tmp 28) rfl _ _ rfl rfl hb6 3 yQ rfl rfl (jO (_,_,_)) ?_;intro w7 hb7 hg7;have hx7:Ext w5 w7:=hx6.grown hg7 hg8;have hb8:Blk w7 g8 149 #[.int .i64 (sn:Int),.int .i64 (m16:Int),.int .i64 0]:=hb7;have hu8:Upd (fun x=>w5.heap.size≤x) w5 w7:=zV hx7;have hI8:=hI5.keep hI5.lt hu8;have q8:w7.cell? ⟨g8,1,none⟩=some (.int .i64 (m16:Int)):=hb8.cell 1;have hb18:=hu8.blk hb15 (fun k=>by have:=hb15.lt;omega);have q9:w7.cell? ⟨g2,1,none⟩=some (.pointer (some ⟨gr,0,none⟩)):=hb18.cell 1;have hb28:=hu8.blk hb25 (fun k=>by have:=hb25.lt;omega);have hu08:=hu05.trans (S:=fun x=>x=gr) hu8 (fun x k=>.inr (by omega)))
      | ((with_reducible apply gS 34);refine zB rfl (.bool true) (xP rfl rfl rfl H34.out) ?_)
      | ((with_reducible apply gS 44);refine jR rfl 149 rfl _ HZT.out ?_)
      | ((with_reducible apply gT 4 44);refine wStB rfl 149 (.tmp 4) (.tmp 44) rfl _ _ rfl rfl hb28 3 yQ rfl rfl (jO _) ?_;intro w9 hb9 hg9))
     have hu9:Upd (fun x=>w.heap.size≤x) w7 w9:=vQ (zL hg9) (fun x k=>by have:=Option.some.inj k;omega)
     refine yB rfl rfl _ rfl hb9 _ Tryz.underlying149 rfl 3 yQ rfl ⟨rfl,hI8.keep hgw hu9,hu08.trans hu9 (fun x k=>.inr k)⟩
    ·have H34:Hid (decide ((12:Int)<(m16:Int))=false):=zA (by rw[wK4];omega)
     by_cases hw2:11<m16
     ·have H41:Hid (decide ((11:Int)<(m16:Int))=true):=zA (by rw[wK3];omega)
      have hRR:=HN2.out (.inr ⟨rfl,by omega⟩)
      subst hRR
      clear HN2 HN3 HN4
      go_wp2_with (first
       | ((with_reducible apply gS 27);refine zB rfl (.int .i64 (m16:Int)) (qE rfl rfl rfl H27.out) ?_)
       | ((with_reducible apply gS 28);refine zB rfl (.agg #[.int .i64 (sn:Int),.int .i64 (m16:Int),.int .i64 0]) (uH rfl rfl rfl (zBn _ _)) ?_)
       | ((with_reducible apply gS 8);refine wAlo' rfl (some 8) rfl 149 rfl _ zAE ?_;intro w6 g8 hb6 hx6 hg8)
       | ((with_reducible apply gT 8 28);refine wStB rfl 149 (.tmp 8) (.tmp 28) rfl _ _ rfl rfl hb6 3 yQ rfl rfl (jO (_,_,_)) ?_;intro w7 hb7 hg7;have hx7:Ext w5 w7:=hx6.grown hg7 hg8;have hb8:Blk w7 g8 149 #[.int .i64 (sn:Int),.int .i64 (m16:Int),.int .i64 0]:=hb7;have hu8:Upd (fun x=>w5.heap.size≤x) w5 w7:=zV hx7;have hI8:=hI5.keep hI5.lt hu8;have q8:w7.cell? ⟨g8,1,none⟩=some (.int .i64 (m16:Int)):=hb8.cell 1;have hb18:=hu8.blk hb15 (fun k=>by have:=hb15.lt;omega);have q9:w7.cell? ⟨g2,1,none⟩=some (.pointer (some ⟨gr,0,none⟩)):=hb18.cell 1;have hb28:=hu8.blk hb25 (fun k=>by have:=hb25.lt;omega);have hu08:=hu05.trans (S:=fun x=>x=gr) hu8 (fun x k=>.inr (by omega)))
       | ((with_reducible apply gS 34);refine zB rfl (.bool false) (xP rfl rfl rfl H34.out) ?_)
       | ((with_reducible apply gS 41);refine xC (by rfl) (.bool true) (xP rfl rfl rfl H41.out) ?_)
       | ((with_reducible apply gS 44);refine jR rfl 149 rfl _ HZT.out ?_)
       | ((with_reducible apply gT 4 44);refine wStB rfl 149 (.tmp 4) (.tmp 44) rfl _ _ rfl rfl hb28 3 yQ rfl rfl (jO _) ?_;intro w9 hb9 hg9))
      have hu9:Upd (fun x=>w.heap.size≤x) w7 w9:=vQ (zL hg9) (fun x k=>by have:=Option.some.inj k;omega)
      refine yB rfl rfl _ rfl hb9 _ Tryz.underlying149 rfl 3 yQ rfl ⟨rfl,hI8.keep hgw hu9,hu08.trans hu9 (fun x k=>.inr k)⟩
     ·have H41:Hid (decide ((11:Int)<(m16:Int))=false):=zA (by rw[wK4];omega)
      have hnb: ¬((12:Int)<(m16:Int)∨(false=false∧(11:Int)<(m16:Int))):=by rintro (k | ⟨-,k⟩)<;>omega
      by_cases hl:8*n<p'+m16
      ·have hRR:=HN3.out hnb hl
       subst hRR
       have HG9:=zA (fun W (h:RdS W gr A n c p' bs)=>get_no gr A n c p' bs m16 W h hl (by omega))
       clear HN2 HN3 HN4 hnb
       go_wp2_with (first
        | ((with_reducible apply gS 27);refine zB rfl (.int .i64 (m16:Int)) (qE rfl rfl rfl H27.out) ?_)
        | ((with_reducible apply gS 28);refine zB rfl (.agg #[.int .i64 (sn:Int),.int .i64 (m16:Int),.int .i64 0]) (uH rfl rfl rfl (zBn _ _)) ?_)
        | ((with_reducible apply gS 8);refine wAlo' rfl (some 8) rfl 149 rfl _ zAE ?_;intro w6 g8 hb6 hx6 hg8)
        | ((with_reducible apply gT 8 28);refine wStB rfl 149 (.tmp 8) (.tmp 28) rfl _ _ rfl rfl hb6 3 yQ rfl rfl (jO (_,_,_)) ?_;intro w7 hb7 hg7;have hx7:Ext w5 w7:=hx6.grown hg7 hg8;have hb8:Blk w7 g8 149 #[.int .i64 (sn:Int),.int .i64 (m16:Int),.int .i64 0]:=hb7;have hu8:Upd (fun x=>w5.heap.size≤x) w5 w7:=zV hx7;have hI8:=hI5.keep hI5.lt hu8;have q8:w7.cell? ⟨g8,1,none⟩=some (.int .i64 (m16:Int)):=hb8.cell 1;have hb18:=hu8.blk hb15 (fun k=>by have:=hb15.lt;omega);have q9:w7.cell? ⟨g2,1,none⟩=some (.pointer (some ⟨gr,0,none⟩)):=hb18.cell 1;have hb28:=hu8.blk hb25 (fun k=>by have:=hb25.lt;omega);have hu08:=hu05.trans (S:=fun x=>x=gr) hu8 (fun x k=>.inr (by omega)))
        | ((with_reducible apply gS 34);refine zB rfl (.bool false) (xP rfl rfl rfl H34.out) ?_)
        | ((with_reducible apply gS 41);refine xC (by rfl) (.bool false) (xP rfl rfl rfl H41.out) ?_)
        | (go_at_call 164;(with_reducible refine (HG9.out _ hI8.r).mono ?_);rintro e w10 ⟨rfl,hx10⟩;have hb10:=hb28.ext hx10;have hI10:=hI8.ext hx10)
        | ((with_reducible apply gS 55);refine jR rfl 149 rfl _ HZT.out ?_)
        | ((with_reducible apply gT 4 55);refine wStB rfl 149 (.tmp 4) (.tmp 55) rfl _ _ rfl rfl hb10 3 yQ rfl rfl (jO _) ?_;intro w9 hb9 hg9))
       have hu9:Upd (fun x=>w.heap.size≤x) w10 w9:=vQ (zL hg9) (fun x k=>by have:=Option.some.inj k;omega)
       refine yB rfl rfl _ rfl hb9 _ Tryz.underlying149 rfl 3 yQ rfl ⟨rfl,hI10.keep hgw hu9,(hu08.trans (zV (S:=fun _=>False) hx10) (fun x k=>k.elim)).trans hu9 (fun x k=>.inr k)⟩
      ·have hRR:=HN4.out hnb hl
       have HG9:=zA (fun W (h:RdS W gr A n c p' bs)=>zHm gr A n c p' bs m16 W h (by omega) (by omega))
       clear HN2 HN3 HN4 hnb
       generalize yA (((zK bs).drop p').take m16)=nb at hRR HG9
       subst hRR
       go_wp2_with (first
        | ((with_reducible apply gS 27);refine zB rfl (.int .i64 (m16:Int)) (qE rfl rfl rfl H27.out) ?_)
        | ((with_reducible apply gS 28);refine zB rfl (.agg #[.int .i64 (sn:Int),.int .i64 (m16:Int),.int .i64 0]) (uH rfl rfl rfl (zBn _ _)) ?_)
        | ((with_reducible apply gS 8);refine wAlo' rfl (some 8) rfl 149 rfl _ zAE ?_;intro w6 g8 hb6 hx6 hg8)
        | ((with_reducible apply gT 8 28);refine wStB rfl 149 (.tmp 8) (.tmp 28) rfl _ _ rfl rfl hb6 3 yQ rfl rfl (jO (_,_,_)) ?_;intro w7 hb7 hg7;have hx7:Ext w5 w7:=hx6.grown hg7 hg8;have hb8:Blk w7 g8 149 #[.int .i64 (sn:Int),.int .i64 (m16:Int),.int .i64 0]:=hb7;have hu8:Upd (fun x=>w5.heap.size≤x) w5 w7:=zV hx7;have hI8:=hI5.keep hI5.lt hu8;have q8:w7.cell? ⟨g8,1,none⟩=some (.int .i64 (m16:Int)):=hb8.cell 1;have hb18:=hu8.blk hb15 (fun k=>by have:=hb15.lt;omega);have q9:w7.cell? ⟨g2,1,none⟩=some (.pointer (some ⟨gr,0,none⟩)):=hb18.cell 1;have hb28:=hu8.blk hb25 (fun k=>by have:=hb25.lt;omega);have hu08:=hu05.trans (S:=fun x=>x=gr) hu8 (fun x k=>.inr (by omega)))
        | ((with_reducible apply gS 34);refine zB rfl (.bool false) (xP rfl rfl rfl H34.out) ?_)
        | ((with_reducible apply gS 41);refine xC (by rfl) (.bool false) (xP rfl rfl rfl H41.out) ?_)
        | (go_at_call 164;(with_reducible refine (HG9.out _ hI8.r).mono ?_);rintro e w10 ⟨rfl,hr10,hu10⟩;have hb10:=hu10.blk hb28 hne4;have hb810:=hu10.blk hb8 (fun k=>by omega);have hI10:=hI8.moved hu10 hr10;have hz10:=hb810.frozen 2;have q10:w10.cell? ⟨g8,2,none⟩=some (.int .i64 0):=hb810.cell 2;have hb811:Blk (w10.setCell ⟨g8,2,none⟩ (.int .i64 (nb:Int))) g8 149 #[.int .i64 (sn:Int),.int .i64 (m16:Int),.int .i64 (nb:Int)]:=hb810.set_ 2 (.int .i64 (nb:Int));have hb411:=hb10.far (p:=⟨g8,2,none⟩) (show g4≠g8 by have:=hb25.lt;omega) (.int .i64 (nb:Int));have hu11:Upd (fun x=>w.heap.size≤x) w10 (w10.setCell ⟨g8,2,none⟩ (.int .i64 (nb:Int))):=Upd.setCell (S:=fun x=>w.heap.size≤x) (Upd.refl _ _) (p:=⟨g8,2,none⟩) (show w.heap.size≤g8 by omega) _)
        | ((with_reducible apply gS 58);refine wLdB rfl 149 (.tmp 8) rfl g8 rfl hb811 _ Tryz.underlying149 rfl 3 yQ rfl ?_)
        | ((with_reducible apply gT 4 58);refine wStB rfl 149 (.tmp 4) (.tmp 58) rfl _ _ rfl rfl hb411 3 yQ rfl rfl (jO (_,_,_)) ?_;intro w9 hb9 hg9))
       have hu9:Upd (fun x=>w.heap.size≤x) (w10.setCell ⟨g8,2,none⟩ (.int .i64 (nb:Int))) w9:=vQ (zL hg9) (fun x k=>by have:=Option.some.inj k;omega)
       refine yB rfl rfl _ rfl hb9 _ Tryz.underlying149 rfl 3 yQ rfl ⟨rfl,(hI10.keep hgw hu11).keep hgw hu9,((hu08.trans hu10 (fun x k=>.inl k)).trans hu11 (fun x k=>.inr k)).trans hu9 (fun x k=>.inr k)⟩
 ·have hRR:=HN1.out h0
  have hbx:(er !=0)=true:=by simpa using h0
  rw[if_neg h0] at hPP
  rw[hPP] at hRR
  clear hPP h0 HN1 HN2 HN3 HN4
  subst hRR
  go_wp2_with (first
   | ((with_reducible apply gS 23);refine jR rfl 149 rfl _ HZT.out ?_)
   | ((with_reducible apply gT 4 23);refine wStB rfl 149 (.tmp 4) (.tmp 23) rfl _ _ rfl rfl hb25 3 yQ rfl rfl (jO _) ?_;intro w6 hb6 hg6))
  have hu6:Upd (fun x=>w.heap.size≤x) w5 w6:=vQ (zL hg6) (fun x k=>by have:=Option.some.inj k;omega)
  refine yB rfl rfl _ rfl hb6 _ Tryz.underlying149 rfl 3 yQ rfl ⟨rfl,hI5.keep hgw hu6,hu05.trans hu6 (fun x k=>.inr k)⟩
end
end Go.Proofs.YtkggcjdlpendfaaGreatDoor
