/- Contracts of the functions that the law reaches, part 6. -/
import Derived.Test.YtkggcjdlpendfaaGreatDoorMTopCoarseCard5
namespace Go.Proofs.YtkggcjdlpendfaaGreatDoor
set_option linter.unusedVariables false
set_option linter.unusedSimpArgs false
set_option maxRecDepth 20000
set_option maxHeartbeats 8000000
open Go.RowKit
theorem zLm (gf:Nat) (eg:vJ Tryz.prog gf) (C:Nat→Nat→Int) (zs:List Int) (M:Int) (w:World) (hz:zs.length=64) (hM:0≤M) (hM2:M≤2000000000) (hzb: ∀ z∈zs, -M≤z∧z≤M)
 (hC: ∀ i k,i<8→k<8→ -4096≤C i k∧C i k≤4096)
 (hF: ∀ i k W,i<8→k<8→Calls Tryz.prog gf (#[.int .i64 (i:Nat),.int .i64 (k:Nat)]++ #[]) W fun e w'=>e=.returned (.int .i64 (C i k))∧Ext W w') :
 Calls Tryz.prog 143 #[.agg (bv zs),.func (.func gf) #[] #[]] w fun e w'=>e=.returned (.agg (bv (qQ C zs)))∧Ext w w':=by
 have HZ:=zA hz
 have HAT:=zA (fun k (hk:k<zs.length)=>qG zs k hk)
 have HZB:=zA hzb
 have HCB:=zA hC
 have HBD:=zA (zJe C zs M hM hzb hC)
 have HFF:=zA hF
 have HEG:=zA eg
 clear hzb hC hF eg
 generalize hc0:bv zs=cz at *
 clear hz hc0
 go_enter Tryz.func143,Tryz.ntmps143
 go_wp2_with (first
  | (refine wBox rfl 33 (.tmp 0) rfl cz rfl ?_;intro w1 gz hbz1 hx1 hgz)
  | (refine wAlo' rfl (some 4) rfl 33 rfl _ qN ?_;intro w2 go hbo2 hx2 hgo;have hbz2:=hbz1.ext hx2))
 have hne:go≠gz:=by have:=hbz1.lt;omega
 have hgo':w.heap.size≤go:=by have:=hx1.size;omega
 have hxx:=hx1.trans hx2
 clear hbz1 hx1 hx2
 go_loopw [8] (fun i wr=> ∃ row:Nat,row≤8∧i=.int .i64 (row:Int)∧Blk wr gz 33 cz∧Blk wr go 33 (bv (uC C zs row 0 0))∧Ext w wr) (fun i _=>8-(intOf i).toNat)
 case atStart=>exact⟨0,by omega,rfl,hbz2,by rw[zPS];exact hbo2,hxx⟩
 case round =>
  clear hbz2 hbo2 hxx
  obtain⟨row,hrow,rfl,hbz,hbo,hx⟩:=hrel
  by_cases hlr:row<8
  ·go_wp2_with fail
   go_loopw [11] (fun i wr=> ∃ j:Nat,j≤8∧i=.int .i64 (j:Int)∧Blk wr gz 33 cz∧Blk wr go 33 (bv (uC C zs row j 0))∧Ext w wr) (fun i _=>8-(intOf i).toNat)
   case atStart=>exact⟨0,by omega,rfl,hbz,hbo,hx⟩
   case round =>
    clear hbz hbo hx
    obtain⟨j,hj,rfl,hbz,hbo,hx⟩:=hrel
    by_cases hlj:j<8
    ·go_wp2_with fail
     go_loopw [14] (fun i wr=> ∃ k:Nat,k≤8∧i=.int .i64 (k:Int)∧Blk wr gz 33 cz∧Blk wr go 33 (bv (uC C zs row j k))∧Ext w wr) (fun i _=>8-(intOf i).toNat)
     case atStart=>exact⟨0,by omega,rfl,hbz,hbo,hx⟩
     case round =>
      clear hbz hbo hx
      obtain⟨k,hk,rfl,hbz,hbo,hx⟩:=hrel
      by_cases hlk:k<8
      ·have hcall:=zA (fun W=>HFF.out j k W hlj hlk)
       have hzl:8*row+k<zs.length:=by have:=HZ.out;omega
       have hlz': ∀ W,Blk W gz 33 cz→W.cell? ⟨gz,8*row+k,none⟩=some (.int .i64 zs[8*row+k]):=fun W h=>(h.cell _).trans (HAT.out _ hzl)
       have hlz:=hlz' wr hbz
       have hol:8*j+row<(uC C zs row j k).length:=by rw[partL_len];omega
       have hlo': ∀ W,Blk W go 33 (bv (uC C zs row j k))→W.cell? ⟨go,8*j+row,none⟩=some (.int .i64 (vT C zs j row k)):=fun W h=>(h.cell _).trans (by rw[qG _ _ hol,partL_at C zs row j k hlr hlj hol])
       have hlo:=hlo' wr hbo
       have hfr:=hbo.frozen (8*j+row)
       obtain⟨z1,z2⟩:=HZB.out _ (wE1 hzl)
       obtain⟨c1,c2⟩:=HCB.out j k hlj hlk
       obtain⟨m1,m2⟩:=zHx _ _ M 4096 hM z1 z2 c1 c2
       obtain⟨s1,s2⟩:=HBD.out j row k hlj hk
       have HS:=zA (zNg C zs j row k)
       have HD:Hid (zs.getD (8*row+k) 0=zs[8*row+k]):=zA (by simp[hzl])
       clear z1 z2 c1 c2
       generalize C j k=c at *
       generalize vT C zs j row k=s at *
       generalize zs[8*row+k]=z at *
       go_wp2_with fail
       have step: ∀ W,(Ext w W∧Blk W gz 33 cz∧Blk W go 33 (bv (uC C zs row j k)))→Calls Tryz.prog gf (#[.int .i64 (j:Nat),.int .i64 (k:Nat)]++ #[]) W fun e w'=>e=.returned (.int .i64 c)∧(Ext w w'∧Blk w' gz 33 cz∧Blk w' go 33 (bv (uC C zs row j k))) :=
        fun W ⟨h1,h2,h3⟩=>(hcall.out W).mono fun e w' ⟨he,hx⟩=>⟨he,h1.trans hx,h2.ext hx,h3.ext hx⟩
       refine zFr (C:=fun W=>Ext w W∧Blk W gz 33 cz∧Blk W go 33 (bv (uC C zs row j k))) rfl (by kernel_rfl) rfl rfl (by kernel_rfl) (by kernel_rfl) (by kernel_rfl) ⟨hx.drew,hbz.drew,hbo.drew⟩ (fun opsq=> ?_)
       simp only[List.dropLast_cons_cons,List.dropLast_singleton]
       refine zDW rfl _ rfl (.int .i64 (j:Int)) rfl ?_
       simp only[Act.put,sA,sB,sC]
       refine zED rfl .mul 3 _ _ _ rfl (.int .i64 8) (.int .i64 (j:Int)) rfl rfl (.int .i64 ((8*j:Nat):Int)) (zFH _ _ _ _ _) (zFk _ _ _ (by rw[IntWalk.i64_in _ (by omega)];omega)) ?_
       simp only[Act.put,sA,sB,sC]
       refine zDW rfl _ rfl (.int .i64 (row:Int)) rfl ?_
       simp only[Act.put,sA,sB,sC]
       refine zED rfl .add 3 _ _ _ rfl (.int .i64 ((8*j:Nat):Int)) (.int .i64 (row:Int)) rfl rfl (.int .i64 ((8*j+row:Nat):Int)) (zFH _ _ _ _ _) (zCJ _ _ _ (by rw[IntWalk.i64_in _ (by omega)];omega)) ?_
       simp only[Act.put,sA,sB,sC]
       refine q_addr rfl 33 _ _ rfl (.pointer (some ⟨go,0,none⟩)) (.int .i64 ((8*j+row:Nat):Int)) rfl rfl (.pointer (some ⟨go,8*j+row,none⟩)) (zFs _ _ (by omega)) ?_
       simp only[Act.put,sA,sB,sC]
       refine q_load rfl 3 _ rfl (.pointer (some ⟨go,8*j+row,none⟩)) rfl (.int .i64 s) (fun W hW=>zGq W _ _ (hlo' W hW.2.2)) ?_
       simp only[Act.put,sA,sB,sC]
       refine zDW rfl _ rfl (.int .i64 (row:Int)) rfl ?_
       simp only[Act.put,sA,sB,sC]
       refine zED rfl .mul 3 _ _ _ rfl (.int .i64 8) (.int .i64 (row:Int)) rfl rfl (.int .i64 ((8*row:Nat):Int)) (zFH _ _ _ _ _) (zFk _ _ _ (by rw[IntWalk.i64_in _ (by omega)];omega)) ?_
       simp only[Act.put,sA,sB,sC]
       refine zDW rfl _ rfl (.int .i64 (k:Int)) rfl ?_
       simp only[Act.put,sA,sB,sC]
       refine zED rfl .add 3 _ _ _ rfl (.int .i64 ((8*row:Nat):Int)) (.int .i64 (k:Int)) rfl rfl (.int .i64 ((8*row+k:Nat):Int)) (zFH _ _ _ _ _) (zCJ _ _ _ (by rw[IntWalk.i64_in _ (by omega)];omega)) ?_
       simp only[Act.put,sA,sB,sC]
       refine q_addr rfl 33 _ _ rfl (.pointer (some ⟨gz,0,none⟩)) (.int .i64 ((8*row+k:Nat):Int)) rfl rfl (.pointer (some ⟨gz,8*row+k,none⟩)) (zFs _ _ (by omega)) ?_
       simp only[Act.put,sA,sB,sC]
       refine q_load rfl 3 _ rfl (.pointer (some ⟨gz,8*row+k,none⟩)) rfl (.int .i64 z) (fun W hW=>zGq W _ _ (hlz' W hW.2.1)) ?_
       simp only[Act.put,sA,sB,sC]
       refine zDW rfl _ rfl (.func (.func gf) #[] #[]) rfl ?_
       simp only[Act.put,sA,sB,sC]
       refine zDW rfl _ rfl (.int .i64 (j:Int)) rfl ?_
       simp only[Act.put,sA,sB,sC]
       refine zDW rfl _ rfl (.int .i64 (k:Int)) rfl ?_
       simp only[Act.put,sA,sB,sC]
       refine q_callV rfl gf _ _ _ rfl rfl HEG.out #[.int .i64 (j:Int),.int .i64 (k:Int)] (by simp[Act.eval]) (.int .i64 c) step ?_
       simp only[Act.put,sA,sB,sC]
       refine zED rfl .mul 3 _ _ _ rfl (.int .i64 z) (.int .i64 c) rfl rfl (.int .i64 (z*c)) (zFH _ _ _ _ _) (zFk _ _ _ (IntWalk.i64_in _ (by omega))) ?_
       simp only[Act.put,sA,sB,sC]
       refine zED rfl .add 3 _ _ _ rfl (.int .i64 s) (.int .i64 (z*c)) rfl rfl (.int .i64 (s+z*c)) (zFH _ _ _ _ _) (zCJ _ _ _ (IntWalk.i64_in _ (by omega))) ?_
       simp only[Act.put,sA,sB,sC]
       refine q_addr rfl 33 _ _ rfl (.pointer (some ⟨go,0,none⟩)) (.int .i64 ((8*j+row:Nat):Int)) rfl rfl (.pointer (some ⟨go,8*j+row,none⟩)) (zFs _ _ (by omega)) ?_
       simp only[Act.put,sA,sB,sC]
       refine wpQuiet_nil ?_
       clear hx hbz hbo hlo hlz hfr
       intro w6 hw6
       obtain⟨hx,hbz,hbo⟩:=hw6
       have hlo:=hlo' w6 hbo
       have hfr:=hbo.frozen (8*j+row)
       refine zMQ _ _ rfl ⟨go,8*j+row,none⟩ (s+z*c) rfl rfl _ hlo hfr ?_
       simp only[Act.put,sA,sB,sC]
       clear step hlo' hlz'
       go_wp2_with fail
       go_roundw
       case rel =>
        refine⟨k+1,by omega,by go_num,hbz.far (p:=⟨go,8*j+row,none⟩) (by simpa using hne.symm) _, ?_,hx.setCell (by omega) _⟩
        have:=hbo.set_ (8*j+row) (.int .i64 (s+z*c))
        rw[vH] at this
        have e:=partL_set C zs row j k hlr hlj
        rw[HS.out,HD.out] at e
        rw[e] at this
        exact this
       case measure=>simp[intOf];omega
      ·obtain rfl:k=8:=by omega
       rw[zPB] at hbo
       go_wp2_with fail
       go_roundw
       case rel=>exact⟨j+1,by omega,by go_num,hbz,hbo,hx⟩
       case measure=>simp[intOf];omega
    ·obtain rfl:j=8:=by omega
     rw[partL_row] at hbo
     go_wp2_with fail
     go_roundw
     case rel=>exact⟨row+1,by omega,by go_num,hbz,hbo,hx⟩
     case measure=>simp[intOf];omega
  ·obtain rfl:row=8:=by omega
   rw[partL_end] at hbo
   have hs:Hid ((bv (qQ C zs)).size=64):=zA (by rw[zJ,zDi])
   have ho:=zA (xB (qQ C zs))
   generalize hcr:bv (qQ C zs)=cr at *
   have HC:=zA hcr
   clear hcr
   go_wp2_with (first
    | (refine wLdB rfl 33 (.tmp 4) rfl _ rfl hbo _ Tryz.underlying33 rfl 64 zF hs.out ?_)
    | (refine wStB rfl 33 (.tmp 4) (.tmp 39) rfl _ _ rfl rfl hbo 64 zF hs.out hs.out ho.out ?_;intro w7 hb7 hg7))
   exact zBL rfl rfl _ rfl hb7 _ Tryz.underlying33 rfl 64 zF hs.out ⟨by rw[HC.out],hx.grown hg7 hgo'⟩
theorem mid_set (F:Int→Int) (zs:List Int) (k:Nat) (hz:k<zs.length):((zs.take k).map F++zs.drop k).set k (F zs[k])=(zs.take (k+1)).map F++zs.drop (k+1):=by
 have hl:((zs.take k).map F).length=k:=by simp;omega
 rw[wF6 _ _ (by omega),hl,wF7,wG1 hz,wF9,wC3 hz,wH1]
 simp
theorem mid_len (F:Int→Int) (zs:List Int) (k:Nat) (hk:k≤zs.length):((zs.take k).map F++zs.drop k).length=zs.length:=by
 simp;omega
def wl:List Int:=[4096,4017,3784,3406,2896,2276,1567,799,0, -799, -1567, -2276, -2896, -3406, -3784, -4017, -4096, -4017, -3784, -3406, -2896, -2276, -1567, -799,0,799,1567,2276,2896,3406,3784,4017]
def wv (k:Nat):Int:=wl.getD k 0
def zDX (u x:Nat):Int:=if u=0 then 2896 else wv (u*(2*x+1)%32)
theorem wv_hi (k:Nat) (h1:16<k) (h2:k<32):wv (32-k)=wv k :=
 (by decide: ∀ j:Fin 32,16<j.val→wv (32-j.val)=wv j.val) ⟨k,h2⟩ h1
theorem wv_mid (k:Nat) (h1:8<k) (h2:k≤16): -wv (16-k)=wv k :=
 (by decide: ∀ j:Fin 17,8<j.val→ -wv (16-j.val)=wv j.val) ⟨k,by omega⟩ h1
theorem zLM (k:Nat) (h:k<32): -4096≤wv k∧wv k≤4096 :=
 (by decide: ∀ j:Fin 32, -4096≤wv j.val∧wv j.val≤4096) ⟨k,h⟩
theorem zQm: ∀ k,k≤8→(#[Value.int .i64 4096,.int .i64 4017,.int .i64 3784,.int .i64 3406,.int .i64 2896,.int .i64 2276,.int .i64 1567,.int .i64 799,.int .i64 0]:Array Value)[k]? =some (.int .i64 (wv k)):=by
 intro k hk
 have:k=0∨k=1∨k=2∨k=3∨k=4∨k=5∨k=6∨k=7∨k=8:=by omega
 rcases this with rfl | rfl | rfl | rfl | rfl | rfl | rfl | rfl | rfl<;>rfl
theorem zNE (k:Nat) (w:World) (hk:k≤8):Calls Tryz.prog 144 #[.int .i64 k] w fun e w'=>e=.returned (.int .i64 (wv k))∧Ext w w':=by
 have hq:=zQm k hk
 go_enter Tryz.func144,Tryz.ntmps144
 go_wp2_with fail
 go_ret
 exact⟨rfl,(Ext.refl w).alloc _⟩
theorem zNx (k:Nat) (w:World) (hk:k≤16):Calls Tryz.prog 144 #[.int .i64 k] w fun e w'=>e=.returned (.int .i64 (wv k))∧Ext w w':=by
 by_cases h8:k≤8
 ·exact zNE k w h8
 ·have hb:=zLM (16-k) (by omega)
  obtain⟨hb1,hb2⟩:=hb
  have hm:=zA (wv_mid k (by omega) hk)
  have hc:=zA (fun W=>zNE (16-k) W (by omega))
  rw[show ((16-k:Nat):Int)=16-(k:Int) by omega] at hc
  go_enter Tryz.func144,Tryz.ntmps144
  go_wp2_with fail
  refine (hc.out _).mono ?_
  rintro e w' ⟨rfl,hx⟩
  go_wp2_with fail
  go_ret
  exact⟨by rw[←hm.out];rfl,((Ext.refl w).alloc _).trans hx⟩
theorem turn_any (k:Nat) (w:World) (hk:k<32):Calls Tryz.prog 144 #[.int .i64 k] w fun e w'=>e=.returned (.int .i64 (wv k))∧Ext w w':=by
 by_cases h8:k≤16
 ·exact zNx k w h8
 ·have hm:=zA (wv_hi k (by omega) hk)
  have hc:=zA (fun W=>zNx (32-k) W (by omega))
  rw[show ((32-k:Nat):Int)=32-(k:Int) by omega] at hc
  go_enter Tryz.func144,Tryz.ntmps144
  go_wp2_with fail
  refine (hc.out _).mono ?_
  rintro e w' ⟨rfl,hx⟩
  go_wp2_with fail
  go_ret
  exact⟨by rw[←hm.out];rfl,((Ext.refl w).alloc _).trans hx⟩
theorem zMA (u x:Nat) (w:World) (hu:u≤7) (hx:x≤7):Calls Tryz.prog 93 #[.int .i64 u,.int .i64 x] w fun e w'=>e=.returned (.int .i64 (zDX u x))∧Ext w w':=by
 by_cases h0:u=0
 ·subst h0
  go_enter Tryz.func93,Tryz.ntmps93
  go_wp2_with fail
  go_ret
  exact⟨rfl,Ext.refl w⟩
 ·have hp:(u:Int)*(2*x+1)≤7*(2*x+1):=wD8 (by omega) (by omega)
  have hp2:0≤(u:Int)*(2*x+1):=Int.mul_nonneg (by omega) (by omega)
  have hm:(u:Int)*(2*x+1)%32=((u*(2*x+1)%32:Nat):Int):=by simp
  have hc:=zA (fun W=>turn_any (u*(2*x+1)%32) W (wF4 _ (by omega)))
  rw[←hm] at hc
  have hf:zDX u x=wv (u*(2*x+1)%32):=by unfold zDX;rw[if_neg h0]
  have HF:=zA hf
  have hne:((u:Int) ==0)=false:=by simpa using h0
  clear hm hf h0
  go_enter Tryz.func93,Tryz.ntmps93
  go_wp2_with fail
  refine (hc.out _).mono ?_
  rintro e w' ⟨rfl,hx⟩
  go_wp2_with fail
  go_ret
  exact⟨by rw[HF.out];rfl,hx⟩
def roundF (n:Int):Int:=rnd n 67108864
def zDv (C:Nat→Nat→Int) (zs:List Int):List Int:=(qQ C (qQ C zs)).map roundF
theorem zLJ (C:Nat→Nat→Int) (zs:List Int):(zDv C zs).length=64:=by simp[zDv,zDi]
theorem zMb (z:Int) (w:World):Calls Tryz.prog 142 (#[.int .i64 z]++ #[]) w fun e w'=>e=.returned (.bool (!inB z (-40000) 40000))∧w=w':=by
 by_cases h:z< -40000
 ·have h':decide (z< -40000)=true:=by simpa using h
  have e:(!inB z (-40000) 40000)=true:=by rw[zBa.2 (.inl h)];rfl
  rw[e];clear e
  go_enter Tryz.func142,Tryz.ntmps142
  go_wp2_with fail
  go_ret
  exact⟨rfl,rfl⟩
 ·have h':decide (z< -40000)=false:=by simpa using h
  have e:(!inB z (-40000) 40000)=decide (40000<z):=by rw[wE2,wE3,zBa];simp;omega
  rw[e];clear e
  go_enter Tryz.func142,Tryz.ntmps142
  go_wp2_with fail
  go_ret
  exact⟨rfl,rfl⟩
theorem zGe:vJ Tryz.prog 142:=uZ Tryz.func142 (by kernel_rfl) rfl
theorem wboth_in (gf:Nat) (eg:vJ Tryz.prog gf) (C:Nat→Nat→Int) (zs:List Int) (w:World) (hz:zs.length=64) (hal:zN zs (-40000) 40000=true)
 (hC: ∀ i k,i<8→k<8→ -4096≤C i k∧C i k≤4096)
 (hF: ∀ i k W,i<8→k<8→Calls Tryz.prog gf (#[.int .i64 (i:Nat),.int .i64 (k:Nat)]++ #[]) W fun e w'=>e=.returned (.int .i64 (C i k))∧Ext W w') :
 Calls Tryz.prog 92 #[.agg (bv zs),.func (.func gf) #[] #[]] w fun e w'=>e=.returned (.tuple #[.agg (bv (zDv C zs)),.int .i64 0])∧Ext w w':=by
 have hzb: ∀ z∈zs, -40000≤z∧z≤40000:=yD.1 hal
 have hb1:=zLf C zs 40000 (by omega) hzb hC
 have hb2:=zLf C (qQ C zs) (8*(40000*4096)) (by omega) hb1 hC
 have H1:=zA (fun W=>zLm gf eg C zs 40000 W hz (by omega) (by omega) hzb hC hF)
 have H2:=zA (fun W=>zLm gf eg C (qQ C zs) (8*(40000*4096)) W (zDi _ _) (by omega) (by omega) hb1 hC hF)
 have HSL:=zA (fun (W:World) g (h:Blk W g 33 (bv zs))=>h.bsl (c:=64) (by omega) (by omega))
 rw[hz] at HSL
 have HCF:=zA (fun W v (hs:SL W 1 v 64 (ints zs))=>qY 142 #[] (fun z=> !inB z (-40000) 40000) zGe v zs W (by rw[hz];exact hs) (fun z _=>zMb z W))
 simp only[zCb,hal] at HCF
 have HW:=zA (show zDv C zs=(qQ C (qQ C zs)).map roundF from rfl)
 have hsz:=zA ((zJ zs).trans hz)
 have hVl:=zDi C (qQ C zs)
 generalize hV:qQ C (qQ C zs)=V at *
 generalize qQ C zs=U at *
 have HVB:=zA hb2
 have HVL:=zA hVl
 have hsv:=zA ((zJ V).trans hVl)
 have hov:=zA (xB V)
 clear hV hb1 hb2 hzb hal hC hF eg hVl
 generalize bv zs=cz at *
 generalize bv U=cu at *
 generalize hcv:bv V=cv at *
 have HCV:=zA hcv
 clear hcv hz
 go_enter Tryz.func92,Tryz.ntmps92
 go_wp2_with (first
  | (refine wBox rfl 33 (.tmp 0) rfl cz rfl ?_;intro w1 gz hbz1 hx1 hgz)
  | (refine wAlo' rfl (some 4) rfl 33 rfl _ qN ?_;intro w2 gr hbr2 hx2 hgr;have hbz2:=hbz1.ext hx2;have hsl:=HSL.out _ _ hbz2)
  | (go_at_call 88;(with_reducible refine (HCF.out _ _ hsl).mono ?_);rintro e w' ⟨rfl,rfl⟩)
  | (refine wLdB rfl 33 (.tmp 2) rfl _ rfl hbz2 _ Tryz.underlying33 rfl 64 zF hsz.out ?_)
  | (go_at_call 143;(with_reducible refine (H1.out _).mono ?_);rintro e w3 ⟨rfl,hx3⟩)
  | (go_at_call 143;(with_reducible refine (H2.out _).mono ?_);rintro e w4 ⟨rfl,hx4⟩;have hbz4:=(hbz2.ext hx3).ext hx4;have hbr4:=(hbr2.ext hx3).ext hx4)
  | (refine wStB rfl 33 (.tmp 2) (.tmp 15) rfl _ _ rfl rfl hbz4 64 zF hsv.out hsz.out hov.out ?_;intro w5 hbz5 hg5;have hbr5:=hbr4.grown hg5 (by have:=hbz1.lt;simp;omega))
  | (refine wLdB rfl 33 (.tmp 2) rfl _ rfl hbz5 _ Tryz.underlying33 rfl 64 zF hsv.out ?_))
 have hne1:gz≠gr:=by have:=hbz1.lt;omega
 have hxx:Ext w w5:=(((hx1.trans hx2).trans hx3).trans hx4).grown hg5 hgz
 have hw02:w.heap.size≤gr:=by have:=hx1.size;omega
 clear hbz1 hbz2 hbz4 hbr2 hbr4 hx1 hx2 hx3 hx4 hg5 hsl
 go_loopw [17] (fun i wr=> ∃ k:Nat,k≤64∧i=.int .i64 k∧Blk wr gz 33 (bv ((V.take k).map roundF++V.drop k))∧Blk wr gr 33 (bv zeros64)∧Ext w wr) (fun i _=>64-(intOf i).toNat)
 case atStart=>exact⟨0,by omega,rfl,by rw[←HCV.out] at hbz5;simpa using hbz5,hbr5,hxx⟩
 case round =>
  obtain⟨k,hk,rfl,hb1,hb3,hxr⟩:=hrel
  by_cases hlt:k<64
  ·have hzl:k<V.length:=by have:=HVL.out;omega
   have hix:=fun W=>zEn cv k (.int .i64 V[k]) hlt (by rw[←HCV.out];exact qG V k hzl) W
   obtain⟨z1,z2⟩:=HVB.out V[k] (wE1 hzl)
   have HR:Hid (∀ W,Calls Tryz.prog 97 #[.int .i64 V[k],.int .i64 67108864] W fun e w'=>e=.returned (.int .i64 (roundF V[k]))∧W=w'):=zA (fun W=>zHD V[k] 67108864 W (by omega) (by omega) (by omega) (by omega))
   obtain⟨old,hold⟩: ∃ u,wr.cell? ⟨gz,k,none⟩=some u:=by
    rw[hb1.cell k]
    have hl:=mid_len roundF V k (by omega)
    exact⟨_,qG _ k (by omega)⟩
   have hfr:=hb1.frozen k
   clear z1 z2
   go_wp2_with (go_at_call 97;(with_reducible refine (HR.out _).mono ?_);rintro e w' ⟨rfl,rfl⟩)
   go_roundw
   case rel =>
    refine⟨k+1,by omega,by go_num, ?_,hb3.far (p:=⟨gz,k,none⟩) (by simpa using hne1.symm) _,hxr.setCell (by omega) _⟩
    have:=hb1.set_ k (.int .i64 (roundF V[k]))
    rw[vH,mid_set roundF V k hzl] at this
    exact this
   case measure=>simp[intOf];omega
  ·obtain rfl:k=64:=by omega
   have hfin:(V.take 64).map roundF++V.drop 64=V.map roundF:=by
    rw[wC4 (by have:=HVL.out;omega),wG2 (by have:=HVL.out;omega),wG3]
   have hlz:(bv (V.map roundF)).size=64:=by have:=HVL.out;rw[zJ];simp;omega
   rw[hfin] at hb1
   have hone:=xB (V.map roundF)
   generalize hcr:bv (V.map roundF)=cr at *
   have HCR:=zA hcr
   have hlz':=zA hlz
   have hone':=zA hone
   clear hfin hlz hone hcr
   go_wp2_with (first
    | (refine wLdB rfl 33 (.tmp 2) rfl _ rfl hb1 _ Tryz.underlying33 rfl 64 zF hlz'.out ?_)
    | (refine wStB rfl 33 (.tmp 4) (.tmp 26) rfl _ _ rfl rfl hb3 64 zF hlz'.out (by rw[zJ];rfl) hone'.out ?_;intro w7 hb7 hg7))
   refine yB rfl rfl _ rfl hb7 _ Tryz.underlying33 rfl 64 zF hlz'.out ⟨by rw[HW.out,HCR.out];rfl,hxr.grown hg7 hw02⟩
theorem wboth_out (gf:Nat) (zs:List Int) (w:World) (hz:zs.length=64) (hal:zN zs (-40000) 40000=false) :
 Calls Tryz.prog 92 #[.agg (bv zs),.func (.func gf) #[] #[]] w fun e w'=>e=.returned (.tuple #[.agg (bv zeros64),.int .i64 1])∧Ext w w':=by
 have HSL:=zA (fun (W:World) g (h:Blk W g 33 (bv zs))=>h.bsl (c:=64) (by omega) (by omega))
 rw[hz] at HSL
 have HCF:=zA (fun W v (hs:SL W 1 v 64 (ints zs))=>qY 142 #[] (fun z=> !inB z (-40000) 40000) zGe v zs W (by rw[hz];exact hs) (fun z _=>zMb z W))
 simp only[zCb,hal] at HCF
 have hs0:Hid ((bv zeros64).size=64):=zA (by rw[zJ];rfl)
 have ho0:=zA (xB zeros64)
 have hbt:=zA built48
 generalize bv zs=cz at *
 generalize hc0:bv zeros64=c0 at *
 have HC0:=zA hc0
 clear hz hal hc0
 go_enter Tryz.func92,Tryz.ntmps92
 go_wp2_with (first
  | (refine wBox rfl 33 (.tmp 0) rfl cz rfl ?_;intro w1 gz hbz1 hx1 hgz)
  | (refine wAlo' rfl (some 4) rfl 33 rfl _ qN ?_;intro w2 gr hbr2 hx2 hgr;have hbz2:=hbz1.ext hx2;have hsl:=HSL.out _ _ hbz2)
  | (go_at_call 88;(with_reducible refine (HCF.out _ _ hsl).mono ?_);rintro e w' ⟨rfl,rfl⟩)
  | (refine jR rfl 33 rfl _ hbt.out ?_)
  | (refine wStB rfl 33 (.tmp 4) (.tmp 10) rfl _ _ rfl rfl hbr2 64 zF hs0.out (by rw[show (Value.agg (bv zeros64)).cells=bv zeros64 from rfl,HC0.out];exact hs0.out) ho0.out ?_;intro w7 hb7 hg7))
 exact yB rfl rfl _ rfl hb7 _ Tryz.underlying33 rfl 64 zF hs0.out ⟨rfl,(hx1.trans hx2).grown hg7 (by have:=hx1.size;omega)⟩
def vD (C:Nat→Nat→Int) (zs:List Int):List Int×Int:=if zN zs (-40000) 40000 then (zDv C zs,0) else (zeros64,1)
theorem zCU (C:Nat→Nat→Int) (zs:List Int):(vD C zs).1.length=64:=by
 unfold vD
 split
 ·exact zLJ C zs
 ·rfl
theorem zLt (gf:Nat) (eg:vJ Tryz.prog gf) (C:Nat→Nat→Int) (zs:List Int) (w:World) (hz:zs.length=64)
 (hC: ∀ i k,i<8→k<8→ -4096≤C i k∧C i k≤4096)
 (hF: ∀ i k W,i<8→k<8→Calls Tryz.prog gf (#[.int .i64 (i:Nat),.int .i64 (k:Nat)]++ #[]) W fun e w'=>e=.returned (.int .i64 (C i k))∧Ext W w') :
 Calls Tryz.prog 92 #[.agg (bv zs),.func (.func gf) #[] #[]] w fun e w'=>e=.returned (.tuple #[.agg (bv (vD C zs).1),.int .i64 (vD C zs).2])∧Ext w w':=by
 unfold vD
 cases h:zN zs (-40000) 40000 with
 | true=>simpa using wboth_in gf eg C zs w hz h hC hF
 | false=>simpa using wboth_out gf zs w hz h
theorem zEW (i k:Nat): -4096≤zDX i k∧zDX i k≤4096:=by
 unfold zDX
 split
 ·omega
 ·exact zLM _ (wF4 _ (by omega))
theorem zNt:vJ Tryz.prog 93:=uZ Tryz.func93 (by kernel_rfl) rfl
def toC (i k:Nat):Int:=zDX i k
def frC (i k:Nat):Int:=zDX k i
theorem zQT (zs:List Int) (w:World) (hz:zs.length=64) :
 Calls Tryz.prog 41 #[.agg (bv zs)] w fun e w'=>e=.returned (.tuple #[.agg (bv (vD toC zs).1),.int .i64 (vD toC zs).2])∧Ext w w':=by
 have HB:=zA (fun W=>zLt 93 zNt toC zs W hz (fun i k _ _=>zEW i k) (fun i k W hi hk=>by simpa [toC] using zMA i k W (by omega) (by omega)))
 have hsz:=zA ((zJ zs).trans hz)
 have hsr:=zA ((zJ _).trans (zCU toC zs))
 have hor:=zA (xB (vD toC zs).1)
 generalize bv (vD toC zs).1=cr at *
 generalize (vD toC zs).2=er at *
 generalize bv zs=cz at *
 clear hz
 go_enter Tryz.func41,Tryz.ntmps41
 go_wp2_with (first
  | (refine wBox rfl 33 (.tmp 0) rfl cz rfl ?_;intro w1 gz hbz1 hx1 hgz)
  | (refine qX rfl 33 rfl _ qN ?_;intro w3 gr hbr3 hx3 hgr;have hbz3:=hbz1.ext hx3)
  | (refine wLdB rfl 33 (.tmp 1) rfl _ rfl hbz3 _ Tryz.underlying33 rfl 64 zF hsz.out ?_)
  | (go_at_call 92;(with_reducible refine (HB.out _).mono ?_);rintro e w4 ⟨rfl,hx4⟩;have hbr4:=hbr3.ext hx4)
  | (refine wStB rfl 33 (.tmp 2) (.tmp 6) rfl _ _ rfl rfl hbr4 64 zF hsr.out (by rw[show (Value.agg (bv zeros64)).cells=bv zeros64 from rfl,zJ];rfl) hor.out ?_;intro w7 hb7 hg7))
 exact yB rfl rfl _ rfl hb7 _ Tryz.underlying33 rfl 64 zF hsr.out ⟨rfl,((hx1.trans hx3).trans hx4).grown hg7 (by have:=hx1.size;omega)⟩
theorem from1_any (i k:Nat) (w:World) (hi:i<8) (hk:k<8):Calls Tryz.prog 167 (#[.int .i64 (i:Nat),.int .i64 (k:Nat)]++ #[]) w fun e w'=>e=.returned (.int .i64 (frC i k))∧Ext w w':=by
 have HB:Hid (∀ W,Calls Tryz.prog 93 #[.int .i64 (k:Nat),.int .i64 (i:Nat)] W fun e w'=>e=.returned (.int .i64 (frC i k))∧Ext W w'):=zA (fun W=>zMA k i W (by omega) (by omega))
 generalize frC i k=c at *
 go_enter Tryz.func167,Tryz.ntmps167
 go_wp2_with (go_at_call 93;(with_reducible refine (HB.out _).mono ?_);rintro e w4 ⟨rfl,hx4⟩)
 go_ret
 exact⟨rfl,hx4⟩
theorem zNB:vJ Tryz.prog 167:=uZ Tryz.func167 (by kernel_rfl) rfl
theorem zNU (zs:List Int) (w:World) (hz:zs.length=64) :
 Calls Tryz.prog 113 #[.agg (bv zs)] w fun e w'=>e=.returned (.tuple #[.agg (bv (vD frC zs).1),.int .i64 (vD frC zs).2])∧Ext w w':=by
 have HB:=zA (fun W=>zLt 167 zNB frC zs W hz (fun i k _ _=>zEW k i) (fun i k W hi hk=>from1_any i k W hi hk))
 have hsz:=zA ((zJ zs).trans hz)
 have hsr:=zA ((zJ _).trans (zCU frC zs))
 have hor:=zA (xB (vD frC zs).1)
 generalize bv (vD frC zs).1=cr at *
 generalize (vD frC zs).2=er at *
 generalize bv zs=cz at *
 clear hz
 go_enter Tryz.func113,Tryz.ntmps113
 go_wp2_with (first
  | (refine wBox rfl 33 (.tmp 0) rfl cz rfl ?_;intro w1 gz hbz1 hx1 hgz)
  | (refine qX rfl 33 rfl _ qN ?_;intro w3 gr hbr3 hx3 hgr;have hbz3:=hbz1.ext hx3)
  | (refine wLdB rfl 33 (.tmp 1) rfl _ rfl hbz3 _ Tryz.underlying33 rfl 64 zF hsz.out ?_)
  | (go_at_call 92;(with_reducible refine (HB.out _).mono ?_);rintro e w4 ⟨rfl,hx4⟩;have hbr4:=hbr3.ext hx4)
  | (refine wStB rfl 33 (.tmp 2) (.tmp 6) rfl _ _ rfl rfl hbr4 64 zF hsr.out (by rw[show (Value.agg (bv zeros64)).cells=bv zeros64 from rfl,zJ];rfl) hor.out ?_;intro w7 hb7 hg7))
 exact yB rfl rfl _ rfl hb7 _ Tryz.underlying33 rfl 64 zF hsr.out ⟨rfl,((hx1.trans hx3).trans hx4).grown hg7 (by have:=hx1.size;omega)⟩
theorem zFN (k m:Nat) (h:k≤m):(2:Int) ^ k≤2 ^ m:=by
 have:=wI1 (n:=2) (by omega) h
 exact_mod_cast this
theorem zBQ (k:Nat):(1:Int)≤2 ^ k:=by
 have:=wI2 k
 exact_mod_cast this
def zDo (F:Nat→Int) (i:Nat):List Int:=(List.range i).map F++List.replicate (64-i) 0
theorem fillL_len (F:Nat→Int) (i:Nat) (h:i≤64):(zDo F i).length=64:=by simp[zDo];omega
theorem fillL_set (F:Nat→Int) (i:Nat) (hi:i<64):(zDo F i).set i (F i)=zDo F (i+1):=by
 unfold zDo
 have hl:((List.range i).map F).length=i:=by simp
 rw[wF6 _ _ (by omega),hl,wF7]
 obtain⟨j,hj⟩: ∃ j,64-i=j+1:=⟨64-i-1,by omega⟩
 have hj2:64-(i+1)=j:=by omega
 rw[hj,hj2,wF8,wF9,wH0,wH1]
 simp
def upF (n d:Int):Int:=qZ (n*d) (-40000) 40000
def zAs (n d:Int):Int:=qZ (rnd n d) (-2047) 2047
theorem mul_bd (n d m:Int) (hn1: -m≤n) (hn2:n≤m) (hd1:1≤d) (hd2:d≤255) (hm:0≤m): -(m*255)≤n*d∧n*d≤m*255:=by
 have h1:n*d≤m*d:=wD8 hn2 (by omega)
 have h2:m*d≤m*255:=wD9 hd2 hm
 have h3: -m*d≤n*d:=wD8 hn1 (by omega)
 rw[Int.neg_mul] at h3
 omega
theorem zEZ (F:Int→Int→Int) (zs qs:List Int) (most:Int) (hz:zs.length=64) (hq:qs.length=64):(jF F zs qs most).1.length=64:=by
 unfold jF
 split<;>(try split)<;>simp[hz,hq,zeros64]
theorem up1_any (n d:Int) (w:World) (hn1: -2047≤n) (hn2:n≤2047) (hd1:1≤d) (hd2:d≤255) :
 Calls Tryz.prog 166 (#[.int .i64 n,.int .i64 d]++ #[]) w fun e w'=>e=.returned (.int .i64 (upF n d))∧w=w':=by
 obtain⟨h1,h2⟩:=mul_bd n d 2047 hn1 hn2 hd1 hd2 (by omega)
 go_enter Tryz.func166,Tryz.ntmps166
 go_wp2_with (go_at_call 96;refine (zFa _ _ _ (by omega) (by omega)).mono ?_;rintro e w' ⟨rfl,rfl⟩)
 go_ret
 exact⟨rfl,rfl⟩
theorem zQh:vJ Tryz.prog 166:=uZ Tryz.func166 (by kernel_rfl) rfl
theorem up_any (zs qs:List Int) (w:World) (hz:zs.length=64) (hq:qs.length=64) :
 Calls Tryz.prog 112 #[.agg (bv zs),.agg (bv qs)] w fun e w'=>e=.returned (.tuple #[.agg (bv (jF upF zs qs 2047).1),.int .i64 (jF upF zs qs 2047).2])∧Ext w w':=by
 have HB:=zA (fun W=>zOP 166 upF zQh zs qs 2047 W hz hq (by omega) (by omega) (fun n d W a b c e=>up1_any n d W a b c e))
 have hsz:=zA ((zJ zs).trans hz)
 have hsq:=zA ((zJ qs).trans hq)
 have hsr:=zA ((zJ _).trans (zEZ upF zs qs 2047 hz hq))
 have hor:=zA (xB (jF upF zs qs 2047).1)
 generalize bv (jF upF zs qs 2047).1=cr at *
 generalize (jF upF zs qs 2047).2=er at *
 generalize bv zs=cz at *
 generalize bv qs=cq at *
 clear hz hq
 go_enter Tryz.func112,Tryz.ntmps112
 go_wp2_with (first
  | (refine wBox rfl 33 (.tmp 0) rfl cz rfl ?_;intro w1 gz hbz1 hx1 hgz)
  | (refine wBox rfl 33 (.tmp 1) rfl cq rfl ?_;intro w2 gq hbq2 hx2 hgq;have hbz2:=hbz1.ext hx2)
  | (refine qX rfl 33 rfl _ qN ?_;intro w3 gr hbr3 hx3 hgr;have hbz3:=hbz2.ext hx3;have hbq3:=hbq2.ext hx3)
  | (refine wLdB rfl 33 (.tmp 2) rfl _ rfl hbz3 _ Tryz.underlying33 rfl 64 zF hsz.out ?_)
  | (refine wLdB rfl 33 (.tmp 3) rfl _ rfl hbq3 _ Tryz.underlying33 rfl 64 zF hsq.out ?_)
  | (go_at_call 94;refine (HB.out _).mono ?_;rintro e w4 ⟨rfl,hx4⟩;have hbr4:=hbr3.ext hx4)
  | (refine wStB rfl 33 (.tmp 4) (.tmp 9) rfl _ _ rfl rfl hbr4 64 zF hsr.out (by rw[show (Value.agg (bv zeros64)).cells=bv zeros64 from rfl,zJ];rfl) hor.out ?_;intro w7 hb7 hg7))
 exact yB rfl rfl _ rfl hb7 _ Tryz.underlying33 rfl 64 zF hsr.out ⟨rfl,(((hx1.trans hx2).trans hx3).trans hx4).grown hg7 (by have:=hx1.size;have:=hx2.size;omega)⟩
theorem down1_any (n d:Int) (w:World) (hn1: -40000≤n) (hn2:n≤40000) (hd1:1≤d) (hd2:d≤255) :
 Calls Tryz.prog 95 (#[.int .i64 n,.int .i64 d]++ #[]) w fun e w'=>e=.returned (.int .i64 (zAs n d))∧w=w':=by
 go_enter Tryz.func95,Tryz.ntmps95
 go_wp2_with (first | (go_at_call 97;refine (zHD n d _ (by omega) (by omega) (by omega) (by omega)).mono ?_;rintro e w' ⟨rfl,rfl⟩) | (go_at_call 96;refine (zFa _ _ _ (by omega) (by omega)).mono ?_;rintro e w' ⟨rfl,rfl⟩))
 go_ret
 exact⟨rfl,rfl⟩
theorem zNO:vJ Tryz.prog 95:=uZ Tryz.func95 (by kernel_rfl) rfl
theorem down_any (zs qs:List Int) (w:World) (hz:zs.length=64) (hq:qs.length=64) :
 Calls Tryz.prog 42 #[.agg (bv zs),.agg (bv qs)] w fun e w'=>e=.returned (.tuple #[.agg (bv (jF zAs zs qs 40000).1),.int .i64 (jF zAs zs qs 40000).2])∧Ext w w':=by
 have HB:=zA (fun W=>zOP 95 zAs zNO zs qs 40000 W hz hq (by omega) (by omega) (fun n d W a b c e=>down1_any n d W a b c e))
 have hsz:=zA ((zJ zs).trans hz)
 have hsq:=zA ((zJ qs).trans hq)
 have hsr:=zA ((zJ _).trans (zEZ zAs zs qs 40000 hz hq))
 have hor:=zA (xB (jF zAs zs qs 40000).1)
 generalize bv (jF zAs zs qs 40000).1=cr at *
 generalize (jF zAs zs qs 40000).2=er at *
 generalize bv zs=cz at *
 generalize bv qs=cq at *
 clear hz hq
 go_enter Tryz.func42,Tryz.ntmps42
 go_wp2_with (first
  | (refine wBox rfl 33 (.tmp 0) rfl cz rfl ?_;intro w1 gz hbz1 hx1 hgz)
  | (refine wBox rfl 33 (.tmp 1) rfl cq rfl ?_;intro w2 gq hbq2 hx2 hgq;have hbz2:=hbz1.ext hx2)
  | (refine qX rfl 33 rfl _ qN ?_;intro w3 gr hbr3 hx3 hgr;have hbz3:=hbz2.ext hx3;have hbq3:=hbq2.ext hx3)
  | (refine wLdB rfl 33 (.tmp 2) rfl _ rfl hbz3 _ Tryz.underlying33 rfl 64 zF hsz.out ?_)
  | (refine wLdB rfl 33 (.tmp 3) rfl _ rfl hbq3 _ Tryz.underlying33 rfl 64 zF hsq.out ?_)
  | (go_at_call 94;refine (HB.out _).mono ?_;rintro e w4 ⟨rfl,hx4⟩;have hbr4:=hbr3.ext hx4)
  | (refine wStB rfl 33 (.tmp 4) (.tmp 9) rfl _ _ rfl rfl hbr4 64 zF hsr.out (by rw[show (Value.agg (bv zeros64)).cells=bv zeros64 from rfl,zJ];rfl) hor.out ?_;intro w7 hb7 hg7))
 exact yB rfl rfl _ rfl hb7 _ Tryz.underlying33 rfl 64 zF hsr.out ⟨rfl,(((hx1.trans hx2).trans hx3).trans hx4).grown hg7 (by have:=hx1.size;have:=hx2.size;omega)⟩
theorem xL:(Tryz.prog.info? 128).map (·.size)=some 2:=by kernel_rfl
def qJ (wd hi:Int):Array Value:= #[.int .i64 wd,.int .i64 hi]
def xJ (wd hi:Int):Int:=if inB wd 1 64&&inB hi 1 64 then 0 else 1
theorem inB_val (n lo hi:Int):inB n lo hi=(!decide (n<lo)&& !decide (hi<n)):=by
 rw[wE2,vF]
 simp
theorem zFz {w:World} {g:Nat} {T:TypeId} {wd hi:Int} (h:Blk w g T (qJ wd hi)):w.cell? ⟨g,0,none⟩=some (.int .i64 wd)∧w.cell? ⟨g,1,none⟩=some (.int .i64 hi):=by
 rw[h.cell,h.cell]
 exact⟨rfl,rfl⟩
theorem uG (wd hi:Int) (w:World) :
 Calls Tryz.prog 87 #[.agg (qJ wd hi)] w fun e w'=>e=.returned (.int .i64 (xJ wd hi))∧Ext w w':=by
 have HC:=zA (fun W g (h:Blk W g 128 (qJ wd hi))=>zFz h)
 have e:xJ wd hi=if wd<1 then 1 else if 64<wd then 1 else if hi<1 then 1 else if 64<hi then 1 else 0:=by
  unfold xJ
  rw[inB_val,inB_val]
  by_cases h1:wd<1<;>by_cases h2:64<wd<;>by_cases h3:hi<1<;>by_cases h4:64<hi<;>simp[h1,h2,h3,h4]
 rw[e]
 clear e
 generalize qJ wd hi=av at *
 by_cases h1:wd<1
 ·rw[if_pos h1]
  go_enter Tryz.func87,Tryz.ntmps87
  go_wp2_with (refine wBox rfl 128 (.tmp 0) rfl av rfl ?_;intro w1 g hb1 hx1 hg;obtain⟨c0,c1⟩:=HC.out _ _ hb1)
  go_ret
  exact⟨rfl,hx1⟩
 ·rw[if_neg h1]
  by_cases h2:64<wd
  ·rw[if_pos h2]
   go_enter Tryz.func87,Tryz.ntmps87
   go_wp2_with (refine wBox rfl 128 (.tmp 0) rfl av rfl ?_;intro w1 g hb1 hx1 hg;obtain⟨c0,c1⟩:=HC.out _ _ hb1)
   go_ret
   exact⟨rfl,hx1⟩
  ·rw[if_neg h2]
   by_cases h3:hi<1
   ·rw[if_pos h3]
    go_enter Tryz.func87,Tryz.ntmps87
    go_wp2_with (refine wBox rfl 128 (.tmp 0) rfl av rfl ?_;intro w1 g hb1 hx1 hg;obtain⟨c0,c1⟩:=HC.out _ _ hb1)
    go_ret
    exact⟨rfl,hx1⟩
   ·rw[if_neg h3]
    by_cases h4:64<hi
    ·rw[if_pos h4]
     go_enter Tryz.func87,Tryz.ntmps87
     go_wp2_with (refine wBox rfl 128 (.tmp 0) rfl av rfl ?_;intro w1 g hb1 hx1 hg;obtain⟨c0,c1⟩:=HC.out _ _ hb1)
     go_ret
     exact⟨rfl,hx1⟩
    ·rw[if_neg h4]
     go_enter Tryz.func87,Tryz.ntmps87
     go_wp2_with (refine wBox rfl 128 (.tmp 0) rfl av rfl ?_;intro w1 g hb1 hx1 hg;obtain⟨c0,c1⟩:=HC.out _ _ hb1)
     go_ret
     exact⟨rfl,hx1⟩
theorem zJw (wd:Nat) (hi:Int) (w:World) (h1:1≤wd) (h2:wd≤64) :
 Calls Tryz.prog 141 #[.agg (qJ wd hi)] w fun e w'=>e=.returned (.int .i64 (((wd+7)/8:Nat):Int))∧Ext w w':=by
 have HC:=zA (fun W g (h:Blk W g 128 (qJ wd hi))=>zFz h)
 generalize qJ wd hi=av at *
 go_enter Tryz.func141,Tryz.ntmps141
 go_wp2_with (refine wBox rfl 128 (.tmp 0) rfl av rfl ?_;intro w1 g hb1 hx1 hg;obtain⟨c0,c1⟩:=HC.out _ _ hb1)
 go_ret
 refine⟨?_,hx1⟩
 congr 2
 go_num
theorem vY (wd hi:Int):(qJ wd hi).size=2:=rfl
theorem zFd (wd hi:Nat) (w:World) (h1:1≤wd) (h2:wd≤64) (h3:1≤hi) (h4:hi≤64) :
 Calls Tryz.prog 90 #[.agg (qJ wd hi)] w fun e w'=>e=.returned (.int .i64 (((wd+7)/8*((hi+7)/8):Nat):Int))∧Ext w w':=by
 have HC:=zA (fun W g (h:Blk W g 128 (qJ wd hi))=>zFz h)
 have HA:=zA (fun W=>zJw wd hi W h1 h2)
 have hts:=zA (vY wd hi)
 have hm:(wd+7)/8*((hi+7)/8)≤8*8:=wI3 (by omega) (by omega)
 generalize qJ wd hi=av at *
 go_enter Tryz.func90,Tryz.ntmps90
 go_wp2_with (refine wBox rfl 128 (.tmp 0) rfl av rfl ?_;intro w1 g hb1 hx1 hg)
 have hx1':=hx1.drew
 have hb1':=hb1.drew
 refine xW xX (by kernel_rfl) (by kernel_rfl) ?_
 refine zEo (by rfl) 128 (.tmp 1) rfl g rfl (fun w h=>hb1'.ext h) _ Tryz.underlying128 rfl 2 xL hts.out ?_
 simp only[Act.put,sA,sB,sC]
 refine zCR (by rfl) 141 Tryz.func141 rfl rfl _ _ rfl #[.agg av] (by simp[Act.eval]) (.int .i64 (((wd+7)/8:Nat):Int)) (fun W h=>HA.out W) ?_
 simp only[Act.put,sA,sB,sC]
 refine zAf (by rfl) ?_;apply Exists.intro;refine⟨fun w hw=> ?_, ?_⟩; · (go_simp;with_reducible rfl)
 simp only[Act.put,sA,sB,sC]
 refine zAf (by rfl) ?_;apply Exists.intro;refine⟨fun w hw=> ?_, ?_⟩; · (obtain⟨c0,c1⟩:=HC.out _ _ (hb1'.ext hw);go_simp;with_reducible rfl)
 simp only[Act.put,sA,sB,sC]
 refine uN (by rfl) .add 3 _ _ _ rfl (.int .i64 (hi:Int)) (.int .i64 ((8:Nat):Int)) rfl rfl (.int .i64 ((hi+8:Nat):Int)) (zBB _ _ _ _ _) (zFw _ _ (by omega)) ?_
 simp only[Act.put,sA,sB,sC]
 refine uN (by rfl) .sub 3 _ _ _ rfl (.int .i64 ((hi+8:Nat):Int)) (.int .i64 ((1:Nat):Int)) rfl rfl (.int .i64 ((hi+7:Nat):Int)) (zBB _ _ _ _ _) (zIr (hi+8) 1 (by omega) (by omega)) ?_
 simp only[Act.put,sA,sB,sC]
 refine uN (by rfl) .quo 3 _ _ _ rfl (.int .i64 ((hi+7:Nat):Int)) (.int .i64 ((8:Nat):Int)) rfl rfl (.int .i64 (((hi+7)/8:Nat):Int)) (zBB _ _ _ _ _) (zFq _ _ (by omega) (by omega)) ?_
 simp only[Act.put,sA,sB,sC]
 refine uN (by rfl) .mul 3 _ _ _ rfl (.int .i64 (((wd+7)/8:Nat):Int)) (.int .i64 (((hi+7)/8:Nat):Int)) rfl rfl (.int .i64 (((wd+7)/8*((hi+7)/8):Nat):Int)) (zBB _ _ _ _ _) (zDG _ _ _ rfl (by omega)) ?_
 simp only[Act.put,sA,sB,sC]
 generalize hmm:(wd+7)/8*((hi+7)/8)=m at *
 have HMM:=zA hmm
 clear hmm
 repeat (refine zAf (by rfl) ?_;apply Exists.intro;refine⟨fun w hw=> ?_, ?_⟩; · (go_simp;with_reducible rfl)
         simp only[Act.put,sA,sB,sC])
 refine jA ?_
 intro w3 hx3
 go_wp2_with fail
 go_ret
 rw[HMM.out]
 exact⟨rfl,hx1'.trans hx3⟩
theorem zLY (wd:Nat) (hi:Int) (b i:Nat) (w:World) (h1:1≤wd) (h2:wd≤64) (hb:b<64) (hi64:i<64) :
 Calls Tryz.prog 91 #[.agg (qJ wd hi),.int .i64 (b:Int),.int .i64 (i:Int)] w fun e w' =>
  e=.returned (.tuple #[.int .i64 ((b/((wd+7)/8)*8+i/8:Nat):Int),.int .i64 ((b%((wd+7)/8)*8+i%8:Nat):Int)])∧Ext w w':=by
 have HA:=zA (fun W=>zJw wd hi W h1 h2)
 have hts:=zA (vY wd hi)
 have hc:1≤(wd+7)/8∧(wd+7)/8≤8:=by omega
 generalize (wd+7)/8=c at *
 generalize qJ wd hi=av at *
 have q1:b/c≤b:=Nat.div_le_self _ _
 have q2:b%c<c:=wF4 _ (by omega)
 go_enter Tryz.func91,Tryz.ntmps91
 go_wp2_with (refine wBox rfl 128 (.tmp 0) rfl av rfl ?_;intro w1 g hb1 hx1 hg)
 have hx1':=hx1.drew
 have hb1':=hb1.drew
 refine xW xX (by kernel_rfl) (by kernel_rfl) ?_
 refine zAf (by rfl) ?_;apply Exists.intro;refine⟨fun w hw=> ?_, ?_⟩; · (go_simp;with_reducible rfl)
 simp only[Act.put,sA,sB,sC]
 refine zEo (by rfl) 128 (.tmp 3) rfl g rfl (fun w h=>hb1'.ext h) _ Tryz.underlying128 rfl 2 xL hts.out ?_
 simp only[Act.put,sA,sB,sC]
 refine zCR (by rfl) 141 Tryz.func141 rfl rfl _ _ rfl #[.agg av] (by simp[Act.eval]) (.int .i64 (c:Int)) (fun W h=>HA.out W) ?_
 simp only[Act.put,sA,sB,sC]
 refine uN (by rfl) .quo 3 _ _ _ rfl (.int .i64 ((b:Nat):Int)) (.int .i64 ((c:Nat):Int)) rfl rfl (.int .i64 ((b/c:Nat):Int)) (zBB _ _ _ _ _) (zFq _ _ (by omega) (by omega)) ?_
 simp only[Act.put,sA,sB,sC]
 refine uN (by rfl) .mul 3 _ _ _ rfl (.int .i64 ((b/c:Nat):Int)) (.int .i64 ((8:Nat):Int)) rfl rfl (.int .i64 ((b/c*8:Nat):Int)) (zBB _ _ _ _ _) (zDG _ _ _ rfl (by omega)) ?_
 simp only[Act.put,sA,sB,sC]
 refine zAf (by rfl) ?_;apply Exists.intro;refine⟨fun w hw=> ?_, ?_⟩; · (go_simp;with_reducible rfl)
 simp only[Act.put,sA,sB,sC]
 refine uN (by rfl) .quo 3 _ _ _ rfl (.int .i64 ((i:Nat):Int)) (.int .i64 ((8:Nat):Int)) rfl rfl (.int .i64 ((i/8:Nat):Int)) (zBB _ _ _ _ _) (zFq _ _ (by omega) (by omega)) ?_
 simp only[Act.put,sA,sB,sC]
 refine uN (by rfl) .add 3 _ _ _ rfl (.int .i64 ((b/c*8:Nat):Int)) (.int .i64 ((i/8:Nat):Int)) rfl rfl (.int .i64 ((b/c*8+i/8:Nat):Int)) (zBB _ _ _ _ _) (zFw _ _ (by omega)) ?_
 simp only[Act.put,sA,sB,sC]
 refine zAf (by rfl) ?_;apply Exists.intro;refine⟨fun w hw=> ?_, ?_⟩; · (go_simp;with_reducible rfl)
 simp only[Act.put,sA,sB,sC]
 refine zEo (by rfl) 128 (.tmp 3) rfl g rfl (fun w h=>hb1'.ext h) _ Tryz.underlying128 rfl 2 xL hts.out ?_
 simp only[Act.put,sA,sB,sC]
 refine zCR (by rfl) 141 Tryz.func141 rfl rfl _ _ rfl #[.agg av] (by simp[Act.eval]) (.int .i64 (c:Int)) (fun W h=>HA.out W) ?_
 simp only[Act.put,sA,sB,sC]
 refine uN (by rfl) .rem 3 _ _ _ rfl (.int .i64 ((b:Nat):Int)) (.int .i64 ((c:Nat):Int)) rfl rfl (.int .i64 ((b%c:Nat):Int)) (zBB _ _ _ _ _) (zFZ _ _ (by omega) (by omega)) ?_
 simp only[Act.put,sA,sB,sC]
 refine uN (by rfl) .mul 3 _ _ _ rfl (.int .i64 ((b%c:Nat):Int)) (.int .i64 ((8:Nat):Int)) rfl rfl (.int .i64 ((b%c*8:Nat):Int)) (zBB _ _ _ _ _) (zDG _ _ _ rfl (by omega)) ?_
 simp only[Act.put,sA,sB,sC]
 refine zAf (by rfl) ?_;apply Exists.intro;refine⟨fun w hw=> ?_, ?_⟩; · (go_simp;with_reducible rfl)
 simp only[Act.put,sA,sB,sC]
 refine uN (by rfl) .rem 3 _ _ _ rfl (.int .i64 ((i:Nat):Int)) (.int .i64 ((8:Nat):Int)) rfl rfl (.int .i64 ((i%8:Nat):Int)) (zBB _ _ _ _ _) (zFZ _ _ (by omega) (by omega)) ?_
 simp only[Act.put,sA,sB,sC]
 refine uN (by rfl) .add 3 _ _ _ rfl (.int .i64 ((b%c*8:Nat):Int)) (.int .i64 ((i%8:Nat):Int)) rfl rfl (.int .i64 ((b%c*8+i%8:Nat):Int)) (zBB _ _ _ _ _) (zFw _ _ (by omega)) ?_
 simp only[Act.put,sA,sB,sC]
 generalize hmm:b/c*8+i/8=m at *
 generalize hnn:b%c*8+i%8=n at *
 have HMM:=zA hmm
 have HNN:=zA hnn
 clear hmm hnn
 refine zAf (by rfl) ?_;apply Exists.intro;refine⟨fun w hw=> ?_, ?_⟩; · (go_simp;with_reducible rfl)
 simp only[Act.put,sA,sB,sC]
 refine zAf (by rfl) ?_;apply Exists.intro;refine⟨fun w hw=> ?_, ?_⟩; · (go_simp;with_reducible rfl)
 simp only[Act.put,sA,sB,sC]
 refine jA ?_
 intro w3 hx3
 go_wp2_with fail
 go_ret2
 rw[HMM.out,HNN.out]
 exact⟨rfl,hx1'.trans hx3⟩
theorem zBT:(Tryz.prog.info? 128).bind (·.zero)=some (.agg #[.int .i64 0,.int .i64 0]):=by kernel_rfl
theorem all_one (l:List Value) (h: ∀ u∈l,u.oneCell'=true):l.toArray.all (·.oneCell')=true :=
 wE4.2 (fun v hv=>h v (by simpa using hv))
theorem zAm (wd hi:Int):(qJ wd hi).all (·.oneCell')=true:=all_one [.int .i64 wd,.int .i64 hi] (by intro u hu;simp at hu;rcases hu with rfl | rfl<;>rfl)
theorem zGN {wd hi:Int} (h:xJ wd hi=0): ∃ a b:Nat,wd=(a:Int)∧hi=(b:Int)∧1≤a∧a≤64∧1≤b∧b≤64:=by
 unfold xJ at h
 cases h1:inB wd 1 64 with
 | false=>rw[h1] at h;cases h
 | true =>
   cases h2:inB hi 1 64 with
   | false=>rw[h1,h2] at h;cases h
   | true =>
     have:=vF.1 h1
     have:=vF.1 h2
     exact⟨wd.toNat,hi.toNat,by omega,by omega,by omega,by omega,by omega,by omega⟩
theorem zFt {wd hi:Int} (h:xJ wd hi≠0):xJ wd hi=1:=by
 unfold xJ at h ⊢
 split
 ·next h2=>rw[if_pos h2] at h;exact absurd rfl h
 ·rfl
def zCD (wd hi:Int):Int:=if xJ wd hi=0 then (((wd.toNat+7)/8*((hi.toNat+7)/8):Nat):Int) else 0
theorem zEL (wd hi:Int) (w:World) :
 Calls Tryz.prog 65 #[.int .i64 wd,.int .i64 hi] w fun e w'=>e=.returned (.tuple #[.int .i64 (zCD wd hi),.int .i64 (xJ wd hi)])∧Ext w w':=by
 have HK:=zA (fun W=>uG wd hi W)
 by_cases h:xJ wd hi=0
 ·have HM:Hid (∀ W,Calls Tryz.prog 90 #[.agg (qJ wd hi)] W fun e w'=>e=.returned (.int .i64 (zCD wd hi))∧Ext W w'):=zA (by
   intro W
   unfold zCD
   rw[if_pos h]
   obtain⟨a,b,rfl,rfl,a1,a2,b1,b2⟩:=zGN h
   exact zFd a b W a1 a2 b1 b2)
  generalize zCD wd hi=m at *
  rw[h] at HK ⊢
  clear h
  have hbv: #[Value.int .i64 wd,Value.int .i64 hi]=qJ wd hi:=rfl
  have hts:=zA (vY wd hi)
  have ho:=zA (zAm wd hi)
  generalize qJ wd hi=av at *
  go_enter Tryz.func65,Tryz.ntmps65
  go_wp2_with (first
   | (refine wAlo' rfl (some 6) rfl 128 rfl _ zBT ?_;intro w1 g hb1 hx1 hg)
   | (refine wStB rfl 128 (.tmp 6) (.tmp 10) rfl _ _ rfl rfl hb1 2 xL hts.out rfl ho.out ?_;intro w2 hb2 hg2;have hx2:=hx1.grown hg2 (by omega))
   | (refine wLdB rfl 128 (.tmp 6) rfl _ rfl hb2 _ Tryz.underlying128 rfl 2 xL hts.out ?_)
   | (go_at_call 87;(with_reducible refine (HK.out _).mono ?_);rintro e w3 ⟨rfl,hx3⟩;have hb3:=hb2.ext hx3)
   | (refine wLdB rfl 128 (.tmp 6) rfl _ rfl hb3 _ Tryz.underlying128 rfl 2 xL hts.out ?_)
   | (go_at_call 90;(with_reducible refine (HM.out _).mono ?_);rintro e w4 ⟨rfl,hx4⟩))
  go_ret2
  exact⟨rfl,(hx2.trans hx3).trans hx4⟩
 ·have e:zCD wd hi=0:=by unfold zCD;rw[if_neg h]
  rw[e]
  have h1:=zFt h
  rw[h1] at HK ⊢
  clear h h1 e
  have hbv: #[Value.int .i64 wd,Value.int .i64 hi]=qJ wd hi:=rfl
  have hts:=zA (vY wd hi)
  have ho:=zA (zAm wd hi)
  generalize qJ wd hi=av at *
  go_enter Tryz.func65,Tryz.ntmps65
  go_wp2_with (first
   | (refine wAlo' rfl (some 6) rfl 128 rfl _ zBT ?_;intro w1 g hb1 hx1 hg)
   | (refine wStB rfl 128 (.tmp 6) (.tmp 10) rfl _ _ rfl rfl hb1 2 xL hts.out rfl ho.out ?_;intro w2 hb2 hg2;have hx2:=hx1.grown hg2 (by omega))
   | (refine wLdB rfl 128 (.tmp 6) rfl _ rfl hb2 _ Tryz.underlying128 rfl 2 xL hts.out ?_)
   | (go_at_call 87;(with_reducible refine (HK.out _).mono ?_);rintro e w3 ⟨rfl,hx3⟩;have hb3:=hb2.ext hx3))
  go_ret2
  exact⟨rfl,hx2.trans hx3⟩
end Go.Proofs.YtkggcjdlpendfaaGreatDoor
