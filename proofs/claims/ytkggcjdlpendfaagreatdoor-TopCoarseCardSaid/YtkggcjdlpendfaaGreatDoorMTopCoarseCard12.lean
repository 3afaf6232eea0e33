/- Contracts of the functions that the law reaches, part 12. -/
import Derived.IntWalk
import Derived.WideKeyPair
import Derived.ChangeSlices
import Derived.Test.YtkggcjdlpendfaaGreatDoorMTopCoarseCard11
namespace Go.Proofs.YtkggcjdlpendfaaGreatDoor
set_option linter.unusedVariables false
set_option linter.unusedSimpArgs false
set_option maxRecDepth 20000
set_option maxHeartbeats 8000000
open Go.RowKit
theorem elt_u8:Elt Tryz.prog 45 5 1 1:=⟨Tryz.underlying45,by kernel_rfl,by omega⟩
theorem u8_one (x:Int): ∀ u∈[Value.int .u8 x],u.oneCell'=true:=by
 intro u hu
 simp at hu
 subst hu
 rfl
def WrS (w:World) (gw:Nat) (L:List Bool) (r:Option Nat):Prop :=
 ∃ A c,r=A.map (·.block)∧Blk w gw 203 #[.slice A (L.length/8) c,.int .u64 (yA (vU L):Nat),.int .i64 ((L.length%8:Nat):Int)] ∧
  w.ownsRow (gw+1) 5 1 (.slice A (L.length/8) c) (L.length/8) (zD (qP L))
theorem put_or (R0:List Bool) (value yU:Nat) (h0:R0.length<8) (hw:yU≤24) (hv:value<2 ^ yU) :
 bits .or .u64 (IntKind.u64.wrap ((yA R0:Int)*2 ^ yU)) (value:Int)=(yA (R0++xU value yU):Nat):=by
 have h1:=zAz R0
 have h2:(2:Nat) ^ R0.length≤2 ^ 7:=wI1 (by omega) (by omega)
 have h3:(2:Nat) ^ yU≤2 ^ 24:=wI1 (by omega) hw
 have h4:yA R0*2 ^ yU<2 ^ 7*2 ^ 24:=by
  have h5:yA R0*2 ^ yU≤yA R0*2 ^ 24:=Nat.mul_le_mul_left _ h3
  have:yA R0<2 ^ 7:=by omega
  omega
 have e1:IntKind.u64.wrap ((yA R0:Int)*2 ^ yU)=((yA R0*2 ^ yU:Nat):Int):=by
  rw[IntKind.wrap_u64]
  push_cast
  have:((yA R0*2 ^ yU:Nat):Int)<18446744073709551616:=by omega
  push_cast at this
  exact wL8 (by exact_mod_cast wL9 _) this
 rw[e1,u64_or_nat _ _ (by omega) (by omega)]
 congr 1
 rw[nat_join yU _ _ (by simp) hv,zDR,zBA hv,qB]
theorem put_and (R:List Bool) (hb:yA R<4294967296):bits .and .u64 (yA R:Int) (IntKind.u64.wrap (IntKind.u64.wrap (2 ^ (R.length%8))-1))=(yA (vU R):Nat):=by
 have hq:R.length%8<8:=by omega
 have h3:(2:Nat) ^ (R.length%8)≤2 ^ 8:=wI1 (by omega) (by omega)
 have h4:=wI2 (R.length%8)
 have e1:IntKind.u64.wrap (2 ^ (R.length%8))=((2 ^ (R.length%8):Nat):Int):=by
  rw[IntKind.wrap_u64]
  have:((2:Int) ^ (R.length%8))=((2 ^ (R.length%8):Nat):Int):=by push_cast;rfl
  rw[this]
  exact wL8 (by omega) (by omega)
 have e2:IntKind.u64.wrap (((2 ^ (R.length%8):Nat):Int)-1)=((2 ^ (R.length%8)-1:Nat):Int):=by
  rw[IntKind.wrap_u64,wL8 (by omega) (by omega)]
  omega
 rw[e1,e2,u64_and_nat _ _ (by omega) (by omega),wM0]
 unfold vU
 rw[zMK]
 rw[show R.length-8*(R.length/8)=R.length%8 by omega]
def manyOf (w:World) (gw:Nat):Nat:=match w.cell? ⟨gw,2,none⟩ with | some (.int _ n)=>n.toNat | _=>0
theorem many_of {w:World} {gw:Nat} {T:TypeId} {x y:Value} {k:IntKind} {n:Int} (h:Blk w gw T #[x,y,.int k n]):manyOf w gw=n.toNat:=by
 unfold manyOf
 rw[h.cell 2]
 rfl
theorem zFD {w:World} {gw n size:Nat} {e:TypeId} {v:Value} {xs:List Value} (h:w.ownsRow (gw+1) e size v n xs) (i:Nat) (u:Value):(w.setCell ⟨gw,i,none⟩ u).ownsRow (gw+1) e size v n xs:=by
 obtain⟨hl,hh⟩:=h
 refine⟨hl, ?_⟩
 rcases hh with ⟨rfl,rfl⟩ | ⟨g,cap,cur,rfl,h1,hg,h2⟩
 ·exact .inl ⟨rfl,rfl⟩
 ·exact .inr ⟨g,cap,cur,rfl,h1,(Below.heap_setCell w ⟨gw,i,none⟩ u g (by show g≠gw;omega)).trans hg,h2⟩
theorem zIJ (A:Option Addr) (n c:Nat):(Value.slice A n c).ownBlock=A.map (·.block):=by cases A<;>rfl
theorem zGC:zAG (fun a b:World=>a=b):=⟨fun _=>rfl,fun h k=>h.trans k⟩
theorem zQt (R:List Bool) (j:Nat) (h:j<R.length/8):(qP R).take (j+1)=(qP R).take j++[yA ((R.drop (8*j)).take 8)]:=by
 rw[wC3 (by rw[zCc];exact h)]
 simp[qP]
theorem own_ne {w:World} {gw n size:Nat} {e:TypeId} {v:Value} {xs:List Value} (h:w.ownsRow (gw+1) e size v n xs):some gw≠v.ownBlock:=fun hk=>by
 have:=(h.lt gw hk.symm).1
 omega
theorem zMF {w w':World} {base:Nat} {e:TypeId} {size n:Nat} {v:Value} {xs:List Value} (h:w.ownsRow base e size v n xs) (hb:Ext w w'):w'.ownsRow base e size v n xs:=by
 obtain⟨hl,hh⟩:=h
 refine⟨hl, ?_⟩
 rcases hh with ⟨rfl,rfl⟩ | ⟨g,cap,cur,rfl,h1,hg,h2⟩
 ·exact .inl ⟨rfl,rfl⟩
 ·exact .inr ⟨g,cap,cur,rfl,h1,(hb.block g (Blk.lt (w:=w) (t:=e) (cs:=cur) hg)).trans hg,h2⟩
theorem put_len (L:List Bool) (value yU:Nat):(L++xU value yU).length=L.length+yU:=by simp[qB]
theorem zLB (gw:Nat) (L:List Bool) (r:Option Nat) (value yU:Nat) (w:World) (h:WrS w gw L r) (hw:yU≤24) (hv:value<2 ^ yU) (hl:L.length≤1000000000000) :
 Calls Tryz.prog 156 #[.pointer (some ⟨gw,0,none⟩),.int .i64 (yU:Int),.int .i64 (value:Int)] w fun e w'=>e=.returned (.tuple #[]) ∧
  ∃ r',WrS w' gw (L++xU value yU) r'∧(r'=r∨ ∃ b,r'=some b∧w.heap.size≤b)∧Upd (fun b=>b=gw∨r=some b) w w':=by
 obtain⟨A,c,hr,hB,hown⟩:=h
 have HOR:=zA (put_or (vU L) value yU (by rw[zEd];omega) hw hv)
 have hRl:(vU L++xU value yU).length=L.length%8+yU:=by rw[wF1,zEd,qB]
 have HPA:=zA (zOc L (xU value yU))
 have HRA:=zA (zNv L (xU value yU))
 have HPL:=zA (put_len L value yU)
 have HR0:=zA (zAz (vU L))
 have hv24:value<16777216:=by have:=wI1 (n:=2) (by omega) hw;omega
 have hlt0:yA (vU L)<256:=by have:=zAz (vU L);rw[zEd] at this;have:=wI1 (n:=2) (by omega) (show L.length%8≤8 by omega);omega
 have hN0:L.length%8<8:=by omega
 have hn0b:L.length/8≤1000000000000:=by omega
 have hRb:yA (vU L++xU value yU)<4294967296:=by
  have:=zAz (vU L++xU value yU)
  rw[hRl] at this
  have:=wI1 (n:=2) (by omega) (show L.length%8+yU≤32 by omega)
  omega
 generalize hR:vU L++xU value yU=R at *
 generalize hm:L.length%8=m at *
 generalize hn:L.length/8=n0 at *
 generalize hT:qP L=T at *
 generalize hacc:yA (vU L)=acc at *
 have HR:=zA hR
 have Hm:=zA hm
 have Hn:=zA hn
 have c0:=hB.cell 0
 have c1:=hB.cell 1
 have c2:=hB.cell 2
 have f1:=hB.frozen 1
 have f2:=hB.frozen 2
 simp at c0 c1 c2
 have hgw:=hB.lt
 clear hR hm hn hT hacc hl hv
 have HRL:=zA hRl
 clear hRl
 go_enter Tryz.func156,Tryz.ntmps156
 go_wp2_with fail
 rw[HOR.out]
 have hBs:=(hB.set_ 1 (.int .u64 (yA R:Nat))).set_ 2 (.int .i64 ((m:Int)+yU))
 simp at hBs
 have hun:Upd (fun b=>b=gw∨r=some b) w ((w.setCell ⟨gw,1,none⟩ (.int .u64 (yA R:Nat))).setCell ⟨gw,2,none⟩ (.int .i64 ((m:Int)+yU))) :=
  ((Upd.refl _ w).setCell (.inl rfl) _).setCell (.inl rfl) _
 have hown2:((w.setCell ⟨gw,1,none⟩ (.int .u64 (yA R:Nat))).setCell ⟨gw,2,none⟩ (.int .i64 ((m:Int)+yU))).ownsRow (gw+1) 5 1 (.slice A n0 c) n0 (zD T):=zFD (zFD hown 1 _) 2 _
 generalize (w.setCell ⟨gw,1,none⟩ (.int .u64 (yA R:Nat))).setCell ⟨gw,2,none⟩ (.int .i64 ((m:Int)+yU))=w2 at *
 clear c0 c1 c2 f1 f2
 go_loopw [29] (fun _ wr=> ∃ (j:Nat) (A':Option Addr) (c':Nat),j≤R.length/8∧Blk wr gw 203 #[.slice A' (n0+j) c',.int .u64 (yA R:Nat),.int .i64 ((R.length-8*j:Nat):Int)] ∧
  wr.ownsRow (gw+1) 5 1 (.slice A' (n0+j) c') (n0+j) (zD (T++(qP R).take j))∧(A'.map (·.block)=r∨ ∃ b,A'.map (·.block)=some b∧w.heap.size≤b)∧Upd (fun b=>b=gw∨r=some b) w wr) (fun _ wr=>manyOf wr gw)
 case atStart=>exact⟨0,A,c,by omega,by have:=HRL.out;have e:((R.length-8*0:Nat):Int)=(m:Int)+yU:=by omega
                                       rw[e];exact hBs,by simpa using hown2,.inl hr.symm,hun⟩
 case round =>
  clear hBs hown2 hun hB hown
  obtain⟨j,A',c',hj,hB,hown,hrow,hu⟩:=hrel
  have c0:=hB.cell 0
  have c1:=hB.cell 1
  have c2:=hB.cell 2
  simp only[wH2,wM1,wM2] at c0 c1 c2
  by_cases hlt:j<R.length/8
  ·obtain⟨k,hk⟩: ∃ k:Nat,R.length-8*j=k+8:=⟨R.length-8*j-8,by omega⟩
   have HK:=zA hk
   rw[hk] at c2
   have hk8:k≤32:=by have:=HRL.out;omega
   have hj8:j≤4:=by have:=HRL.out;omega
   clear hk
   go_wp2_with fail
   have HC0:=zA (fun W (hW:Ext wr.drew W)=>by have:=(hB.drew.ext hW).cell 0;simpa using this)
   have HC1:=zA (fun W (hW:Ext wr.drew W)=>by have:=(hB.drew.ext hW).cell 1;simpa using this)
   have HC2:=zA (fun W (hW:Ext wr.drew W)=>by have:=(hB.drew.ext hW).cell 2;rw[HK.out] at this;simpa using this)
   clear c0 c1 c2
   have HWR:Hid (IntKind.i64.wrap (k:Int)=k):=zA (IntWalk.i64_in _ (by omega))
   have HPJ:=zA (zQt R j (by omega))
   have HQ:Hid (yA ((R.drop (8*j)).take 8)=yA R/2 ^ k%256):=zA (by
    rw[numB_mid R (8*j) 8 (by omega)]
    have:=HK.out
    rw[show R.length-(8*j+8)=k by omega])
   rw[HQ.out] at HPJ
   have HCV:Hid (IntKind.u8.wrap ((yA R:Int)/2 ^ k)=((yA R/2 ^ k%256:Nat):Int)):=zA (by rw[IntKind.wrap_u8'];simp)
   generalize yA R/2 ^ k%256=y at *
   refine zKq xX [0] [1,2,3,4,5,6,7,8,9,10,11,12,13,14,15,16] 17 [18,19,20] (by kernel_rfl) (by kernel_rfl) ?_
   iterate 1 (refine lp_ex rfl (by rfl) ?_;apply Exists.intro;refine⟨fun w=> ?_, ?_⟩; · (go_simp;with_reducible rfl)
              simp only[Act.put,sA,sB,sC])
   refine lp_nil ?_
   iterate 15 (refine lo_ex rfl (by rfl) ?_;apply Exists.intro;refine⟨fun w hw=> ?_, ?_⟩; · (have h0:=HC0.out w hw;have h1:=HC1.out w hw;have h2:=HC2.out w hw;have h3:=HWR.out;have h5:=HCV.out;go_simp;with_reducible rfl)
               simp only[Act.put,sA,sB,sC])
   refine lo_alone rfl (by kernel_rfl) (by rfl) (fun w3 hw3=> ?_)
   go_simp
   refine⟨(Ext.refl w3).alloc _, ?_⟩
   refine lo_nil ?_
   intro w4 hw4
   have hx4:Ext wr w4:=((((Ext.refl wr).drew).trans hw3).alloc (.cells #[.int .u8 (y:Int)] 5)).trans hw4
   have hB4:=hB.ext hx4
   have hown4:=zMF hown hx4
   have hone:=zA ((one_sl w3 5 (.int .u8 (y:Int))).ext hw4)
   have hz4:=hx4.size
   have hgw4:=hB4.lt
   clear HC0 HC1 HC2 HCV HWR hw3 hw4
   try simp only[List.filterMap_cons,List.filterMap_nil,wM2,wM1,wH2]
   go_wp2_with (at_builtin;go_must (refine wApf elt_u8 rfl _ _ rfl (gw+1) (.slice A' (n0+j) c') _ _ rfl hown4 _ 1 [.int .u8 _] rfl hone.out (u8_one _) (by omega) (by omega) (by omega) ?_);intro A7 c7 w7 hown7 hg7 hrow7;have hB7:=hB4.grown hg7 (own_ne hown4);have c0:=hB7.cell 0;have f0:=hB7.frozen 0;have c2:=hB7.cell 2;have f2:=hB7.frozen 2;rw[HK.out] at c2;simp only[wH2,wM1,wM2] at c0 c2)
   simp only[xE]
   go_wp2_with fail
   go_roundw
   case rel =>
    have hb8:=(hB7.set_ 0 (.slice A7 (n0+j+1) c7)).set_ 2 (.int .i64 (k:Int))
    simp only[wM3,wF9,wM4] at hb8
    refine⟨j+1,A7,c7,by omega, ?_, ?_, ?_, ?_⟩
    ·have e:((R.length-8*(j+1):Nat):Int)=(k:Int):=by have:=HK.out;omega
     rw[e]
     exact hb8
    ·rw[HPJ.out, ←wG0,zIa]
     exact zFD (zFD hown7 0 _) 2 _
    ·rw[zIJ] at hrow7
     rcases hrow7 with h7 | h7
     ·rw[h7];exact hrow
     ·exact .inr ⟨_,h7,by have:=hu.size;omega⟩
    ·have h8:=(hu.trans (Upd.of_ext (S:=fun _=>False) hx4) (fun x hx=>hx.elim)).grown hg7 (fun b hb=>by
      rw[zIJ] at hb
      rcases hrow with h9 | ⟨b',h9,h10⟩
      ·exact .inl (.inr (h9 ▸ hb))
      ·rw[h9] at hb
       injection hb with hb
       subst hb
       exact .inr h10)
     exact (h8.setCell (.inl rfl) _).setCell (.inl rfl) _
   case measure =>
    have hb8:=(hB7.set_ 0 (.slice A7 (n0+j+1) c7)).set_ 2 (.int .i64 (k:Int))
    simp only[wM3,wF9,wM4] at hb8
    rw[many_of hb8,many_of hB]
    have:=HK.out
    omega
  ·have hjj:j=R.length/8:=by omega
   have hk:R.length-8*j=R.length%8:=by omega
   rw[hk] at c2 hB
   have hk8:R.length%8<8:=by omega
   have HAN:=zA (put_and R hRb)
   generalize hq:R.length%8=q at *
   clear hk
   go_wp2_with fail
   refine uJ zGC 11 (by kernel_rfl) (by kernel_rfl) ?_
   simp only[wJ2,wM5]
   iterate 11 (refine zAf (by rfl) ?_;apply Exists.intro;refine⟨fun w hw=> ?_, ?_⟩; · (subst hw;go_simp;with_reducible rfl)
               simp only[Act.put,sA,sB,sC])
   refine jA ?_
   rintro w3 rfl
   rw[HAN.out]
   have f1:=hB.frozen 1
   try simp only[wM6,wK5]
   go_wp2_with fail
   go_end0
   have hb8:=hB.drew.set_ 1 (.int .u64 (yA (vU R):Nat))
   simp only[wM3,wF9,wM4] at hb8
   refine⟨rfl,A'.map (·.block),⟨A',c',rfl, ?_, ?_⟩,hrow,hu.drew.setCell (.inl rfl) _⟩
   ·have e1:(L++xU value yU).length/8=n0+j:=by have:=HPL.out;have:=Hm.out;have:=Hn.out;have:=HRL.out;omega
    have e2:(L++xU value yU).length%8=q:=by have:=HPL.out;have:=Hm.out;have:=Hn.out;have:=HRL.out;omega
    rw[e1,e2,HRA.out]
    exact hb8
   ·have e1:(L++xU value yU).length/8=n0+j:=by have:=HPL.out;have:=Hm.out;have:=Hn.out;have:=HRL.out;omega
    rw[e1,HPA.out]
    have e3:(qP R).take j=qP R:=wC4 (by rw[zCc];omega)
    rw[e3] at hown
    exact zFD (w:=wr.drew) hown 1 _
theorem zNH {w:World} {base:Nat} {e:TypeId} {size n c:Nat} {A:Option Addr} {xs:List Value} (h:w.ownsRow base e size (.slice A n c) n xs):SL w size (.slice A n c) n xs∧ ∀ ad,A=some ad→base≤ad.block:=by
 obtain⟨B,d,e1,h1,h2⟩:=zBN h
 injection e1 with e1 e2 e3
 subst e1 e3
 exact⟨h1,h2⟩
theorem WrS.nil (w:World) (gw:Nat) (h:Blk w gw 203 #[.slice none 0 0,.int .u64 0,.int .i64 0]):WrS w gw [] none :=
 ⟨none,0,rfl,h,World.ownsRow_nil _ _ _ _⟩
theorem WrS.ext {w w':World} {gw:Nat} {L:List Bool} {r:Option Nat} (h:WrS w gw L r) (hx:Ext w w'):WrS w' gw L r:=by
 obtain⟨A,c,h1,h2,h3⟩:=h
 exact⟨A,c,h1,h2.ext hx,zMF h3 hx⟩
theorem WrS.lt {w:World} {gw:Nat} {L:List Bool} {r:Option Nat} (h:WrS w gw L r):gw<w.heap.size:=by
 obtain⟨A,c,h1,h2,h3⟩:=h
 exact h2.lt
theorem WrS.row {w:World} {gw:Nat} {L:List Bool} {r:Option Nat} (h:WrS w gw L r): ∀ b,r=some b→gw<b∧b<w.heap.size:=by
 obtain⟨A,c,h1,h2,h3⟩:=h
 intro b hb
 subst h1
 have:=h3.lt b (by rw[zIJ];exact hb)
 omega
theorem WrS.drew {w:World} {gw:Nat} {L:List Bool} {r:Option Nat} (h:WrS w gw L r):WrS w.drew gw L r:=h
theorem zBc (C:List (Nat×Nat)) (xs:List Int) (k:Nat) (h1:k<C.length) (h2:k<xs.length) (h:k<(zM C xs).length):(zM C xs)[k]=(xs[k],((C[k]).1:Int),((C[k]).2:Int)):=by
 simp[zM]
def zAI (T:List Tok) (s:Int):Option Tok:=T.find? (fun t=>t.1 ==s)
def zDu (T:List Tok) (s:Int):List Bool:=match zAI T s with | some t=>xU t.2.2.toNat t.2.1.toNat | none=>[]
def zBp (T:List Tok):Prop:= ∀ s t,zAI T s=some t→ ∃ long code:Nat,t=(s,(long:Int),(code:Int))∧1≤long∧long≤16∧code<2 ^ long
theorem zHr (cs xs:List Int) (hl:cs.length=16) (h:yC cs xs=0):zBp (zM (zG cs 16) xs):=by
 obtain⟨q1,q2,q3,q4,q5,q6⟩:=zCB h
 have hfit:=zFX cs q4 hl 16 (by omega)
 intro s t ht
 have hm:=wM7 ht
 have hs:=List.find?_some ht
 simp only[beq_iff_eq] at hs
 unfold zM at hm
 obtain⟨i,hi,rfl⟩:=List.mem_iff_getElem.1 hm
 simp only[List.getElem_zipWith] at hs ⊢
 simp only[List.length_zipWith] at hi
 obtain⟨f1,f2,f3⟩:=hfit _ (wE1 (show i<(zG cs 16).length by omega))
 exact⟨_,_,by rw[hs],f1,f2,by omega⟩
theorem zFS {T:List Tok} {s:Int} {long code:Nat} (h:zAI T s=some (s,(long:Int),(code:Int))):zDu T s=xU code long:=by
 unfold zDu;rw[h];simp
theorem zLx {T:List Tok} (hf:zBp T) (s:Int):(zDu T s).length≤16:=by
 unfold zDu
 cases h:zAI T s with
 | none=>simp
 | some t =>
   obtain⟨long,code,rfl,h1,h2,h3⟩:=hf s t h
   simp[qB]
   omega
section
open Go.RowKit Go.Maps Go.WideMaps
def zDH (T:List Tok) (s:Int):Option Value:=(T.find? (fun t=>t.1 ==s)).map (fun t=>Value.agg #[.int .i64 t.1,.int .i64 t.2.1,.int .i64 t.2.2])
def zDO (T:List Tok) (p:Int×Int):Option Value:=(T.find? (fun t=>t.2.1 ==p.1&&t.2.2 ==p.2)).map (fun t=>Value.int .i64 t.1)
theorem zKy (T:List Tok) (t:Tok) (h: ∀ u∈T,u.1≠t.1):zDH (T++[t]) t.1=some (.agg #[.int .i64 t.1,.int .i64 t.2.1,.int .i64 t.2.2]):=by
 have h1:T.find? (fun u=>u.1 ==t.1)=none:=by
  rw[wM8]
  intro u hu
  simpa using h u hu
 unfold zDH
 rw[wM9,h1]
 simp
theorem zJt (T:List Tok) (t:Tok) (s:Int) (h:s≠t.1):zDH (T++[t]) s=zDH T s:=by
 have h1:[t].find? (fun u=>u.1 ==s)=none:=by
  rw[wM8]
  intro u hu
  have:u=t:=by simpa using hu
  subst this
  simpa using fun h2=>h h2.symm
 unfold zDH
 rw[wM9,h1,Option.or_none]
theorem zJd (T:List Tok) (t:Tok) (h: ∀ u∈T,u.2≠t.2):zDO (T++[t]) (t.2.1,t.2.2)=some (.int .i64 t.1):=by
 have h1:T.find? (fun u=>u.2.1 ==t.2.1&&u.2.2 ==t.2.2)=none:=by
  rw[wM8]
  intro u hu
  have:=h u hu
  simp only[wA9,beq_iff_eq]
  exact fun h2=>this (Prod.ext h2.1 h2.2)
 unfold zDO
 rw[wM9,h1]
 simp
theorem zIm (T:List Tok) (t:Tok) (p:Int×Int) (h:p≠t.2):zDO (T++[t]) p=zDO T p:=by
 have h1:[t].find? (fun u=>u.2.1 ==p.1&&u.2.2 ==p.2)=none:=by
  rw[wM8]
  intro u hu
  have:u=t:=by simpa using hu
  subst this
  simp only[wA9,beq_iff_eq]
  exact fun h2=>h (Prod.ext h2.1.symm h2.2.symm)
 unfold zDO
 rw[wM9,h1,Option.or_none]
theorem arrKey2:ArrKey Tryz.prog 260 3 2:=⟨Tryz.underlying260,by kernel_rfl,by kernel_rfl,by kernel_rfl⟩
theorem typesPos: ∃ m,Tryz.prog.types.size=m+1:=⟨Tryz.prog.types.size-1,by have:0<Tryz.prog.types.size:=of_decide_eq_true (by kernel_rfl);omega⟩
theorem keyed_pair:Keyed Tryz.prog 260:=Keyed.of_law (ArrKey.law arrKey2)
def klP (p:Int×Int):Lit:=.string (keyBytes [.int .i64 p.1,.int .i64 p.2])
def okP (p:Int×Int):Prop:=(-9223372036854775808≤p.1∧p.1≤9223372036854775807)∧(-9223372036854775808≤p.2∧p.2≤9223372036854775807)
theorem zII (p:Int×Int) (h:okP p):keyOf Tryz.prog 260 (.agg #[.int .i64 p.1,.int .i64 p.2])=some (klP p) :=
 keyOf_pair arrKey2 Tryz.underlying3 typesPos (WalkArith.wf_i64 h.1) (WalkArith.wf_i64 h.2)
theorem klP_inj {p q:Int×Int} (hp:okP p) (hq:okP q) (h:klP p=klP q):p=q:=by
 have h1:=zII p hp
 have h2:=zII q hq
 rw[←h] at h2
 have:=keyed_pair.inj h1 h2
 simp at this
 exact Prod.ext this.1 this.2
abbrev MapP (w:World) (b n:Nat) (g:Int×Int→Option Value):Prop:=MapG Tryz.prog 260 klP okP w b n g
def CoderS (w:World) (gc:Nat) (T:List Tok):Prop :=
 ∃ m1 m2 n,Blk w gc 241 #[.map (some m1),.map (some m2)]∧MapI Tryz.prog 3 w m1 n (zDH T)∧MapP w m2 n (zDO T)
theorem CoderS.ext {w w':World} {gc:Nat} {T:List Tok} (h:CoderS w gc T) (hx:Ext w w'):CoderS w' gc T:=by
 obtain⟨m1,m2,n,a,b,c⟩:=h
 exact⟨m1,m2,n,a.ext hx,b.ext hx,c.ext hx⟩
theorem CoderS.below {B:Nat} {w w':World} {gc:Nat} {T:List Tok} (h:CoderS w gc T) (hB:w.heap.size≤B) (hx:Below B w w'):CoderS w' gc T:=by
 obtain⟨m1,m2,n,a,b,c⟩:=h
 exact⟨m1,m2,n,a.below hx (wA1 a.lt hB),b.below hx (wA1 b.lt hB),c.below hx (wA1 c.lt hB)⟩
theorem zHa (cs:List Int): ∀ k,(zG cs k).Nodup∧ ∀ p∈zG cs k,p.1≤k:=by
 intro k
 induction k with
 | zero=>rw[zDS];simp
 | succ k ih =>
   rw[show zG cs (k+1)=zG cs k++vV cs k (cs.getD k 0).toNat from zEl cs k]
   have hrow: ∀ n,(vV cs k n).Nodup:=by
    intro n
    unfold vV
    refine List.Pairwise.map _ ?_ List.nodup_range
    intro a b hab h
    have:=(Prod.mk.inj h).2
    omega
   refine⟨List.nodup_append.2 ⟨ih.1,hrow _, ?_⟩, ?_⟩
   ·intro p hp q hq
    have h1:=ih.2 p hp
    simp only[vV,wD6,wB7] at hq
    obtain⟨i,_,rfl⟩:=hq
    rintro rfl
    simp at h1
    omega
   ·intro p hp
    rcases wE5.1 hp with h | h
    ·have:=ih.2 p h;omega
    ·simp only[vV,wD6,wB7] at h
     obtain⟨i,_,rfl⟩:=h
     simp
theorem zOo {α:Type} {l:List α} {k:Nat} {x:α} (h:x∈l.take k): ∃ j, ∃ hj:j<l.length,j<k∧x=l[j]:=by
 obtain⟨j,hj,rfl⟩:=List.mem_iff_getElem.1 h
 simp at hj
 exact⟨j,by omega,by omega,by simp⟩
theorem zOp {α:Type} {l:List α} (h:l.Nodup) {i j:Nat} (hi:i<l.length) (hj:j<l.length) (hij:i≠j):l[i]≠l[j]:=fun e=>hij ((List.getElem_inj h).1 e)
theorem zRI (cs xs:List Int) (hxs:xs.Nodup) (hl:(zG cs 16).length=xs.length) (k:Nat) (hk:k<(zM (zG cs 16) xs).length) :
 (∀ u∈(zM (zG cs 16) xs).take k,u.1≠((zM (zG cs 16) xs)[k]).1)∧(∀ u∈(zM (zG cs 16) xs).take k,u.2≠((zM (zG cs 16) xs)[k]).2):=by
 have hz:(zM (zG cs 16) xs).length=xs.length:=by rw[zDJ _ _ (by omega),hl]
 have hn:=(zHa cs 16).1
 generalize zG cs 16=C at *
 constructor
 ·intro u hu
  obtain⟨j,hj,hjk,rfl⟩:=zOo hu
  rw[zBc C xs j (by omega) (by omega),zBc C xs k (by omega) (by omega)]
  exact zOp hxs _ _ (by omega)
 ·intro u hu
  obtain⟨j,hj,hjk,rfl⟩:=zOo hu
  rw[zBc C xs j (by omega) (by omega),zBc C xs k (by omega) (by omega)]
  intro h
  have h1:=(Prod.mk.inj h).1
  have h2:=(Prod.mk.inj h).2
  exact zOp hn (i:=j) (j:=k) (by omega) (by omega) (by omega) (Prod.ext (by omega) (by omega))
theorem zKc (Z:List Tok) (k:Nat) (h:k<Z.length):Z.take (k+1)=Z.take k++[Z[k]]:=wC3 h
end
section
open Go.RowKit Go.Maps Go.WideMaps
theorem zCj (cs xs:List Int) (sl:Value) (w:World) (hl:cs.length=16) (hs:SL w 1 sl xs.length (ints xs)) (h:yC cs xs=0) :
 Calls Tryz.prog 184 #[.agg (yG cs sl)] w fun e w'=> ∃ gc,e=.returned (.pointer (some ⟨gc,0,none⟩))∧CoderS w' gc (zM (zG cs 16) xs)∧Ext w w':=by
 obtain⟨q1,q2,q3,q4,q5,q6⟩:=zCB h
 have HW:=zA (fun W h=>words_any cs xs sl W hl h q1 q4 q2 q3)
 have hts:=zA (uY cs sl hl)
 have hlen:(zG cs 16).length=xs.length:=by have:=zDw cs (fun z hz=>(yD.1 q1 z hz).1) 16 (by omega);omega
 have hZl:(zM (zG cs 16) xs).length=xs.length:=by rw[zDJ _ _ (by omega),hlen]
 have HAP:=zA (zRI cs xs q6 hlen)
 have HFIT:=zA (zFX cs q4 hl 16 (by omega))
 have HIN:=zA (yD.1 q5)
 have HAT:=zA (fun k (h1:k<(zG cs 16).length) (h2:k<xs.length) hk=>zBc (zG cs 16) xs k h1 h2 hk)
 have hmm:= @run_makeMap Tryz.prog
 generalize yG cs sl=tv at *
 have HBD:Hid (∀ k (hk:k<(zM (zG cs 16) xs).length),0≤((zM (zG cs 16) xs)[k]).1∧((zM (zG cs 16) xs)[k]).1≤255∧okP ((zM (zG cs 16) xs)[k]).2):=zA (fun k hk=>by
  have hk1:k<(zG cs 16).length:=by omega
  have hk2:k<xs.length:=by omega
  rw[HAT.out k hk1 hk2 hk]
  have h1:=HIN.out _ (wE1 hk2)
  obtain⟨f1,f2,f3⟩:=HFIT.out _ (wE1 hk1)
  have h2:=wI1 (n:=2) (by omega) f2
  refine⟨h1.1,h1.2,⟨by simp only;omega,by simp only;omega⟩,by simp only;omega,by simp only;omega⟩)
 clear HAT HIN HFIT hlen
 generalize zM (zG cs 16) xs=Z at *
 have HZL:=zA hZl
 clear h q1 q2 q4 q5 q6 hZl
 go_enter Tryz.func184,Tryz.ntmps184
 go_wp2_with (first
  | (refine wBox rfl 42 (.tmp 0) rfl tv rfl ?_;intro w1 g hb1 hx1 hg;have hs1:=hs.ext hx1)
  | (refine wBox rfl 241 (.tmp 8) rfl _ rfl ?_;intro w3 gc hbc hx3 hgc;have hb3:=((hb1.alloc (.map #[] 0)).alloc (.map #[] 0)).ext hx3;have hs3:=(hs1.ext (((Ext.refl w1).alloc (.map #[] 0)).alloc (.map #[] 0))).ext hx3)
  | (refine wLdB rfl 42 (.tmp 1) rfl _ rfl hb3 _ Tryz.underlying42 rfl 17 zO hts.out ?_)
  | (go_at_call 106;(with_reducible refine (HW.out _ hs3).mono ?_);rintro e w4 ⟨A,c,rfl,hsl,hfr,hx4⟩))
 have hm1:MapI Tryz.prog 3 w4 w1.heap.size 0 (zDH []):=(((MapG.made w1).alloc (.map #[] 0)).ext hx3).ext hx4
 have hm2:MapP w4 (w1.heap.size+1) 0 (zDO []):=by
  have:=(((MapG.made (P:=Tryz.prog) (k:=260) (kl:=klP) (ok:=okP) (w1.alloc (.map #[] 0))).ext hx3).ext hx4)
  rwa [World.size_alloc] at this
 have hbc4:=hbc.ext hx4
 have hxw:Ext w w4:=((((hx1.alloc (.map #[] 0)).alloc (.map #[] 0)).trans hx3).trans hx4)
 have hz1:=hx1.size
 have hz3:=hx3.size
 simp only[World.size_alloc] at hz3 hgc
 have hz4:=hx4.size
 have hc1:xs.length≤c∧c≤9223372036854775807:=by obtain⟨A',c',e,h1,h2, -⟩:=hsl;injection e with e1 e2 e3;subst e3;exact⟨h1,h2⟩
 obtain⟨hc1,hc2⟩:=hc1
 generalize hM:w1.heap.size=M at *
 clear hM hmm hb1 hb3 hs1 hs3 hbc hx1 hx3 hx4 hs
 go_loopw [13] (fun i wr=> ∃ k:Nat,k≤xs.length∧i=.int .i64 (k:Int)∧MapI Tryz.prog 3 wr M k (zDH (Z.take k))∧MapP wr (M+1) k (zDO (Z.take k))∧Upd (fun b=>b=M∨b=M+1) w4 wr) (fun i _=>xs.length-(intOf i).toNat)
 case atStart=>exact⟨0,by omega,rfl,hm1,hm2,Upd.refl _ _⟩
 case round =>
  clear hm1 hm2
  obtain⟨k,hk,rfl,hm1,hm2,hu⟩:=hrel
  by_cases hlt:k<xs.length
  ·have hkZ:k<Z.length:=by have:=HZL.out;omega
   have hslr:=hsl.upd hu (fun ad h=>by have:=hfr ad h;omega)
   obtain⟨ad,rfl,hbl,h1,h2,h3⟩:=hslr.tok hlt HZL.out hkZ
   have hbcr:=hu.blk hbc4 (by omega)
   obtain⟨a1,a2⟩:=HAP.out k hkZ
   obtain⟨b1,b2,b3⟩:=HBD.out k hkZ
   have HS1:=zA (zKy (Z.take k) Z[k] a1)
   have HS2:=zA (fun s=>zJt (Z.take k) Z[k] s)
   have HC1:=zA (zJd (Z.take k) Z[k] a2)
   have HC2:=zA (fun p=>zIm (Z.take k) Z[k] p)
   have HTS:=zA (zKc Z k hkZ)
   generalize Z[k]=t at *
   obtain⟨t1,t2,t3⟩:=t
   simp only at b1 b2
   clear a1 a2
   have hkey1:=zA (zCV (P:=Tryz.prog) Tryz.underlying3 (a:=t1) (by omega) (by omega))
   have hkey2:=zA (zII (t2,t3) b3)
   have HB3:=zA b3
   clear b3
   simp only at h1 h2 h3
   go_wp2_with fail
   have hn:=Blk.new wr 94 #[.int .i64 t1,.int .i64 t2,.int .i64 t3]
   have hxa:=Ext.alloc (Ext.refl wr) (.cells #[.int .i64 t1,.int .i64 t2,.int .i64 t3] 94)
   have hm1a:=hm1.alloc (.cells #[.int .i64 t1,.int .i64 t2,.int .i64 t3] 94)
   have hm2a:=hm2.alloc (.cells #[.int .i64 t1,.int .i64 t2,.int .i64 t3] 94)
   have hbca:=hbcr.ext hxa
   have hua:=hu.trans (Upd.of_ext (S:=fun _=>False) hxa) (fun x hx=>hx.elim)
   have hnz:wr.heap.size≠M∧wr.heap.size≠M+1:=by have:=hm1.lt;have:=hm2.lt;omega
   generalize hw2:wr.alloc (.cells #[.int .i64 t1,.int .i64 t2,.int .i64 t3] 94)=w5 at *
   generalize wr.heap.size=gn at *
   clear hw2 h1 h2 h3 hxa hm1 hm2 hbcr hu hslr
   have hcv: ∀ W,Blk W gn 94 #[.int .i64 t1,.int .i64 t2,.int .i64 t3]→W.cell? ⟨gn,0,none⟩=some (.int .i64 t1)∧W.cell? ⟨gn,1,none⟩=some (.int .i64 t2)∧W.cell? ⟨gn,2,none⟩=some (.int .i64 t3):=fun W h=>⟨h.cell 0,h.cell 1,h.cell 2⟩
   have hcc: ∀ W,Blk W gc 241 #[.map (some M),.map (some (M+1))]→W.cell? ⟨gc,0,none⟩=some (.map (some M))∧W.cell? ⟨gc,1,none⟩=some (.map (some (M+1))):=fun W h=>⟨h.cell 0,h.cell 1⟩
   have HCV:=zA hcv
   have HCC:=zA hcc
   clear hcv hcc
   obtain⟨n1,n2,n3⟩:=HCV.out _ hn
   obtain⟨g1,g2⟩:=HCC.out _ hbca
   refine uJ zGC 7 (by kernel_rfl) (by kernel_rfl) ?_
   simp only[wJ2,wM5]
   iterate 7 (refine zAf (by rfl) ?_;apply Exists.intro;refine⟨fun w hw=> ?_, ?_⟩; · (subst hw;go_simp;with_reducible rfl)
              simp only[Act.put,sA,sB,sC])
   refine jA ?_
   rintro w6 rfl
   try simp only[wM6,wK5]
   clear n1 n2 n3 g1 g2
   have hm1d:=hm1a.ext (w':=w5.drew) (Ext.refl w5).drew
   have hm2d:=hm2a.ext (w':=w5.drew) (Ext.refl w5).drew
   go_wp2_with (at_mapUpdate;refine zBs (by rfl) _ _ _ 238 94 rfl zCd Tryz.underlying238 rfl hm1d (by omega) _ rfl _ rfl t1 hkey1.out (zDH (Z.take k++[(t1,t2,t3)])) HS1.out (fun j _ hj=>HS2.out j (fun e=>hj (by rw[e]))) (fun j _ hj=>by injection hj) ?_;intro w7 hm7 hg7)
   have hn7:=hn.drew.grown hg7 (by simp;omega)
   have hb7:=hbca.drew.grown hg7 (by simp;omega)
   have hm27:=hm2d.grown hg7 (by simp)
   have hu7:=hua.drew.grown hg7 (fun b hb=>.inl (by injection hb with hb;exact .inl hb.symm))
   obtain⟨n1,n2,n3⟩:=HCV.out _ hn7
   obtain⟨g1,g2⟩:=HCC.out _ hb7
   clear hm1d hm2d hm1a hm2a hua hg7
   simp only[Act.put,sA,sB,sC]
   refine uJ zGC 11 (by kernel_rfl) (by kernel_rfl) ?_
   simp only[wJ2,wM5]
   iterate 11 (refine zAf (by rfl) ?_;apply Exists.intro;refine⟨fun w hw=> ?_, ?_⟩; · (subst hw;go_simp;with_reducible rfl)
               simp only[Act.put,sA,sB,sC])
   refine jA ?_
   rintro w8 rfl
   try simp only[wM6,wK5]
   clear n1 n2 n3 g1 g2
   have hm2e:=hm27.ext (w':=w7.drew) (Ext.refl w7).drew
   have hm1e:=hm7.ext (w':=w7.drew) (Ext.refl w7).drew
   go_wp2_with (at_mapUpdate;refine zBs (by rfl) _ _ _ 239 3 rfl keyed_pair Tryz.underlying239 rfl hm2e (by omega) _ rfl _ rfl (t2,t3) hkey2.out (zDO (Z.take k++[(t1,t2,t3)])) HC1.out (fun j hj0 hj=>HC2.out j (fun e=>hj (by rw[e]))) (fun j hj0 hj=>klP_inj hj0 HB3.out hj) ?_;intro w9 hm9 hg9)
   go_roundw
   case rel =>
    refine⟨k+1,by omega,by go_num, ?_, ?_, ?_⟩
    ·rw[HTS.out];exact hm1e.grown hg9 (by simp)
    ·rw[HTS.out];exact hm9
    ·exact hu7.drew.grown hg9 (fun b hb=>.inl (by injection hb with hb;exact .inr hb.symm))
   case measure=>simp[intOf];omega
  ·have ek:k=xs.length:=by omega
   have HF:Hid (Z.take k=Z):=zA (wC4 (by have:=HZL.out;omega))
   rw[HF.out] at hm1 hm2
   go_wp2_with fail
   go_ret
   exact⟨gc,rfl,⟨M,M+1,k,hu.blk hbc4 (by omega),hm1,hm2⟩,hu.ext hxw (by omega)⟩
end
theorem padB_zero {L:List Bool} (h:L.length%8=0):uS L=L:=by simp[uS,h]
theorem padB_digs {L:List Bool} {k:Nat} (h:L.length%8+k=8) (h2:0<L.length%8):uS L=L++xU (2 ^ k-1) k:=by
 rw[digs_ones]
 unfold uS
 congr 2
 omega
theorem zNp {w:World} {base:Nat} {e:TypeId} {size n d:Nat} {B:Option Addr} {xs:List Value} (h:w.ownsRow base e size (.slice B n d) n xs):B=none→d=0:=by
 rintro rfl
 obtain⟨-,hh⟩:=h
 rcases hh with ⟨e1, -⟩ | ⟨g,cap,cur,e1, -⟩
 ·injection e1
 ·injection e1 with e2
  cases e2
theorem zQV (gw:Nat) (L:List Bool) (r:Option Nat) (w:World) (h:WrS w gw L r) (hl:L.length≤1000000000000) :
 Calls Tryz.prog 157 #[.pointer (some ⟨gw,0,none⟩)] w fun e w'=> ∃ A c,e=.returned (.slice A (qP (uS L)).length c)∧SL w' 1 (.slice A (qP (uS L)).length c) (qP (uS L)).length (zD (qP (uS L))) ∧
  (∀ ad,A=some ad→gw<ad.block)∧(A=none→c=0)∧Upd (fun b=>b=gw∨r=some b) w w':=by
 by_cases hm0:L.length%8=0
 ·rw[padB_zero hm0]
  obtain⟨A,c,hr,hB,hown⟩:=h
  have HPL:=zA (zCc L)
  rw[hm0] at hB
  generalize qP L=T at *
  generalize L.length/8=n at *
  have c0:=hB.cell 0
  have c2:=hB.cell 2
  simp only[wH2,wM1,wM2] at c0 c2
  clear hm0
  go_enter Tryz.func157,Tryz.ntmps157
  go_wp2_with fail
  go_ret
  rw[HPL.out]
  obtain⟨h1,h2⟩:=zNH hown
  exact⟨A,c,rfl,h1,(fun ad h=>by have:=h2 ad h;omega),zNp hown,Upd.refl _ _⟩
 ·have hw:=h
  obtain⟨A,c,hr,hB,hown⟩:=h
  obtain⟨k,hk⟩: ∃ k,L.length%8+k=8:=⟨8-L.length%8,by omega⟩
  rw[padB_digs hk (by omega)]
  have hPk:=wI2 k
  have hP8:(2:Nat) ^ k≤2 ^ 8:=wI1 (by omega) (by omega)
  have HPUT:=zA (fun W (hW:WrS W gw L r)=>zLB gw L r (2 ^ k-1) k W hW (by omega) (by omega) hl)
  have HW1:Hid (IntKind.i64.wrap (8-((L.length%8:Nat):Int))=(k:Int)):=zA (by rw[IntWalk.i64_in _ (by omega)];omega)
  have HW2:Hid (IntKind.i64.wrap ((2:Int) ^ k)=((2 ^ k:Nat):Int)):=zA (by
   have:((2:Int) ^ k)=((2 ^ k:Nat):Int):=by push_cast;rfl
   rw[this,IntWalk.i64_in _ (by omega)])
  have HW3:Hid (IntKind.i64.wrap (((2 ^ k:Nat):Int)-1)=((2 ^ k-1:Nat):Int)):=zA (by rw[IntWalk.i64_in _ (by omega)];omega)
  have c0:=hB.cell 0
  have c2:=hB.cell 2
  simp only[wH2,wM1,wM2] at c0 c2
  have HL8:=zA (zCc (L++xU (2 ^ k-1) k))
  generalize L++xU (2 ^ k-1) k=L' at *
  generalize (2:Nat) ^ k-1=p1 at *
  generalize hP:(2:Nat) ^ k=P at *
  have hm1:0<L.length%8:=by omega
  generalize L.length%8=m at *
  clear hm0 hP hown hB hr
  go_enter Tryz.func157,Tryz.ntmps157
  go_wp2_with fail
  refine uJ zGC 13 (by kernel_rfl) (by kernel_rfl) ?_
  simp only[wJ2,wM5]
  iterate 13 (refine zAf (by rfl) ?_;apply Exists.intro;refine⟨fun w hw=> ?_, ?_⟩; · (subst hw;have h1:=HW1.out;have h2:=HW2.out;have h3:=HW3.out;go_simp;with_reducible rfl)
              simp only[Act.put,sA,sB,sC])
  refine jA ?_
  rintro w3 rfl
  try simp only[wM6,wK5]
  have hwd:=hw.drew
  clear c0 c2 HW1 HW2 HW3
  go_wp2_with (go_at_call 156;(with_reducible refine (HPUT.out _ hwd).mono ?_);rintro e w5 ⟨rfl,r',⟨A5,c5,hr5,hB5,hown5⟩,hrr,hu5⟩;have c0:=hB5.cell 0;simp only[wH2,wM1] at c0)
  go_ret
  obtain⟨h1,h2⟩:=zNH hown5
  rw[HL8.out]
  exact⟨A5,c5,rfl,h1,(fun ad h=>by have:=h2 ad h;omega),zNp hown5,(Upd.refl _ w).drew.trans hu5 (fun x hx=>.inl hx)⟩
section
open Go.RowKit Go.ChangeShapes Go.WideShapes Go.ChangeAt
section
variable {H:Type} {enc:TypeId×Value→H} {w:World} {base:Nat} {spare:Nat→Bool} {held:Bool}
theorem zQf {fuel:Nat} {cs:List Value} {x:DataW H×List MemPlace} (h:DataW.trod enc Tryz.prog w base spare held fuel 22 cs=some x) :
 ∃ (zs:List Int) (v:Value),cs=[v]∧SL w 1 v zs.length (ints zs)∧ ∀ z∈zs,inI64 z:=by
 rcases open_ints Tryz.underlying22 Tryz.underlying3 cellsInt h with ⟨rfl, -⟩ | ⟨a,len,cap,zs,rfl, -,hlc,hcm,hzl, -,hcell,hwf⟩
 ·exact⟨[],_,rfl,SL.nil w 1,by simp⟩
 ·have hlen:len≤zs.length:=by rw[hzl];split<;>omega
  refine⟨zs.take len,_,rfl, ?_,fun z hz=>zPk (hwf z (wG7 hz))⟩
  have hl:(zs.take len).length=len:=by rw[wI4];omega
  rw[hl]
  refine⟨some a,cap,rfl,hlc,by unfold maxLen at hcm;omega,by rw[zY,hl];omega,fun h0=>⟨a,rfl, ?_,fun j u hu=> ?_⟩⟩
  ·have:=hcell 0 (by omega)
   have h2:=World.block_lt_of_cell? w _ this
   rwa [yH] at h2
  ·obtain⟨hj,rfl⟩:=zBt _ _ _ hu
   have hj2:j<len:=by omega
   rw[hcell j (by omega)]
   simp[wF2,show j<zs.length by omega]
end
end
section
open Go.RowKit Go.Maps Go.WideMaps
theorem zLi (w:World):(zeroValue 94).run Tryz.prog w=.ok (.agg #[.int .i64 0,.int .i64 0,.int .i64 0]) w:=by kernel_rfl
theorem symF_some {T:List Tok} {s:Int} {t:Tok} (h:zAI T s=some t):zDH T s=some (.agg #[.int .i64 t.1,.int .i64 t.2.1,.int .i64 t.2.2]):=by
 unfold zDH;unfold zAI at h;rw[h];rfl
theorem symF_none {T:List Tok} {s:Int} (h:zAI T s=none):zDH T s=none:=by
 unfold zDH;unfold zAI at h;rw[h];rfl
theorem zPR (gc gw:Nat) (T:List Tok) (s:Int) (w:World) (hc:CoderS w gc T) (hf:zAI T s=none) (h0: -9223372036854775808≤s) (h1:s≤9223372036854775807) :
 Calls Tryz.prog 155 #[.pointer (some ⟨gc,0,none⟩),.pointer (some ⟨gw,0,none⟩),.int .i64 s] w fun e w'=>e=.returned (.bool false)∧Ext w w':=by
 obtain⟨m1,m2,n,hB,hm1,hm2⟩:=hc
 have c0:=hB.cell 0
 simp only[wH2,wM1] at c0
 have HS:=zA (symF_none hf)
 have hkey:=zA (zCV (P:=Tryz.prog) Tryz.underlying3 h0 h1)
 clear hf
 go_enter Tryz.func155,Tryz.ntmps155
 go_wp2_with (at_lookup;refine zBV (by rfl) _ _ 238 94 rfl zCd Tryz.underlying238 _ (zLi _) rfl hm1 _ rfl s trivial hkey.out (.agg #[.int .i64 0,.int .i64 0,.int .i64 0]) (by rw[HS.out];rfl) false (by rw[HS.out];rfl) ?_)
 go_ret
 exact⟨rfl,(Ext.refl w).alloc _⟩
theorem zOb (gc gw:Nat) (T:List Tok) (L:List Bool) (r:Option Nat) (s:Int) (long code:Nat) (w:World) (hc:CoderS w gc T) (hw:WrS w gw L r) (hf:zAI T s=some (s,(long:Int),(code:Int))) (h0: -9223372036854775808≤s) (h1:s≤9223372036854775807)
 (hlong:long≤24) (hcode:code<2 ^ long) (hl:L.length≤1000000000000) :
 Calls Tryz.prog 155 #[.pointer (some ⟨gc,0,none⟩),.pointer (some ⟨gw,0,none⟩),.int .i64 s] w fun e w'=>e=.returned (.bool true) ∧
  ∃ r',WrS w' gw (L++xU code long) r'∧(r'=r∨ ∃ b,r'=some b∧w.heap.size≤b)∧Upd (fun b=>b=gw∨r=some b) w w':=by
 obtain⟨m1,m2,n,hB,hm1,hm2⟩:=hc
 have c0:=hB.cell 0
 simp only[wH2,wM1] at c0
 have HS:=zA (symF_some hf)
 simp only at HS
 have HP:=zA (fun W (hW:WrS W gw L r)=>zLB gw L r code long W hW hlong hcode hl)
 have hkey:=zA (zCV (P:=Tryz.prog) Tryz.underlying3 h0 h1)
 clear hf hcode
 generalize xU code long=D at *
 go_enter Tryz.func155,Tryz.ntmps155
 go_wp2_with (first
  | (at_lookup;refine zBV (by rfl) _ _ 238 94 rfl zCd Tryz.underlying238 _ (zLi _) rfl hm1 _ rfl s trivial hkey.out (.agg #[.int .i64 s,.int .i64 (long:Int),.int .i64 (code:Int)]) (by rw[HS.out];rfl) true (by rw[HS.out];rfl) ?_)
  | (go_at_call 156;(with_reducible refine (HP.out _ (hw.ext ((Ext.refl w).alloc _))).mono ?_);rintro e w5 ⟨rfl,r',hW5,hrr,hu5⟩))
 go_ret
 exact⟨rfl,r',hW5,hrr.imp id (fun ⟨b,h1,h2⟩=>⟨b,h1,by rw[World.size_alloc] at h2;omega⟩),(Upd.of_ext (S:=fun b=>b=gw∨r=some b) ((Ext.refl w).alloc _)).trans hu5 (fun x hx=>.inl hx)⟩
end
end Go.Proofs.YtkggcjdlpendfaaGreatDoor
