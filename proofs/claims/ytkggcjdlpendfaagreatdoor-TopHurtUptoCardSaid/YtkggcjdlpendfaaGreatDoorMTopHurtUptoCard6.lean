import Derived.Deep.Cut
import Derived.Test.YtkggcjdlpendfaaGreatDoorMTopHurtUptoCard5
set_option linter.all false
set_option maxRecDepth 20000
set_option maxHeartbeats 8000000
namespace Go.Proofs.YtkggcjdlpendfaaGreatDoor
open Go.RowKit Tryz
section
variable {P:Program} {md:Region.Mode} {ops:Array Oper} {R:World→World→Prop} {Q:Exit→Act→World→Prop} {rest:List Oper} {o:Oper} {k:Nat} {listed:Array Bool} {a:Act} {wc:World}
def lx_callX (hw:Region.wanted o (yielded ops a.tmps)=true) (f:FuncId) (x:Operand) (xs:Array Operand) (ts:Array TypeId)
 (ho:o.op=.call { callee:=.value x,args:=xs,argTypes:=ts }) (hf:a.eval x=.func (.func f) #[] #[]) (he:uN P f) (args:Array Value) (hx:xs.map a.eval=args) (v:Value)
 (hc:∀w,R wc w→Calls P f (args++ #[]) w λe w'=>e=.returned v∧R w w') (h:zAS P md ops R Q rest (k+1) (listed.setIfInBounds k true) (a.put o.dst v) wc):zAS P md ops R Q (o::rest) k listed a wc:=by
 refine lx_at hw v (λw hR=> ?_) h;have hrun:(execOp a.eval o).run P w=.ok (.enter f (args++ #[])) w:=by simp[execOp,ho,resolve,hx,hf,Deferred.ofValue,invoke];exact he args w
 unfold Oper.quietAt;rw[hrun];exact⟨rfl,hc w hR⟩
end
def zOr (gf:Nat) (eg:uN prog gf) (C:Nat→Nat→Int) (zs:List Int) (M:Int) (w:World) (hz:zs.length=64) (hM:0≤M) (hM2:M≤2000000000) (hzb:∀z∈zs,-M≤z∧z≤M)
 (hC:∀i k,i<8→k<8→ -4096≤C i k∧C i k≤4096)
 (hF:∀i k W,i<8→k<8→Calls prog gf (#[.int .i64 (i:Nat),.int .i64 (k:Nat)]++ #[]) W λe w'=>e=.returned (.int .i64 (C i k))∧Ext W w') :
 Calls prog 143 #[.agg (bv zs),.func (.func gf) #[] #[]] w λe w'=>e=.returned (.agg (bv (jH C zs)))∧Ext w w':=by
 have HZ:=zA hz;have HAT:=zA (λk (hk:k<zs.length)=>jQ zs k hk);have HZB:=zA hzb;have HCB:=zA hC;have HBD:=zA (zMs C zs M hM hzb hC);have HFF:=zA hF;have HEG:=zA eg;clear hzb hC hF eg;generalize hc0:bv zs=cz at *;clear hz hc0;go_enter func143,ntmps143
 go_wp2_with (first
  | (refine wBox rfl 33 (.tmp 0) rfl cz rfl ?_;intro w1 gz hbz1 hx1 hgz)
  | (refine wAlo' rfl (some 4) rfl 33 rfl _ jX ?_;intro w2 go hbo2 hx2 hgo;have hbz2:=hbz1.ext hx2))
 have hne:go≠gz:=by have:=hbz1.lt;omega
 have hgo':w.heap.size≤go:=by have:=hx1.size;omega
 have hxx:=hx1.trans hx2;clear hbz1 hx1 hx2
 go_loopw [8] (λi wr=>∃row:Nat,row≤8∧i=.int .i64 (row:Int)∧Blk wr gz 33 cz∧Blk wr go 33 (bv (zAJ C zs row 0 0))∧Ext w wr) (λi _=>8-(intOf i).toNat)
 case atStart=>exact⟨0,by omega,rfl,hbz2,by rw[zTe];exact hbo2,hxx⟩
 case round =>
  clear hbz2 hbo2 hxx;obtain⟨row,hrow,rfl,hbz,hbo,hx⟩:=hrel
  by_cases hlr:row<8
  ·go_wp2_with fail
   go_loopw [11] (λi wr=>∃j:Nat,j≤8∧i=.int .i64 (j:Int)∧Blk wr gz 33 cz∧Blk wr go 33 (bv (zAJ C zs row j 0))∧Ext w wr) (λi _=>8-(intOf i).toNat)
   case atStart=>exact⟨0,by omega,rfl,hbz,hbo,hx⟩
   case round =>
    clear hbz hbo hx;obtain⟨j,hj,rfl,hbz,hbo,hx⟩:=hrel
    by_cases hlj:j<8
    ·go_wp2_with fail
     go_loopw [14] (λi wr=>∃k:Nat,k≤8∧i=.int .i64 (k:Int)∧Blk wr gz 33 cz∧Blk wr go 33 (bv (zAJ C zs row j k))∧Ext w wr) (λi _=>8-(intOf i).toNat)
     case atStart=>exact⟨0,by omega,rfl,hbz,hbo,hx⟩
     case round =>
      clear hbz hbo hx;obtain⟨k,hk,rfl,hbz,hbo,hx⟩:=hrel
      by_cases hlk:k<8
      ·have hcall:=zA (λW=>HFF.out j k W hlj hlk);have hzl:8*row+k<zs.length:=by have:=HZ.out;omega
       have hlz':∀W,Blk W gz 33 cz→W.cell? ⟨gz,8*row+k,none⟩=some (.int .i64 zs[8*row+k]):=λW h=>(h.cell _).trans (HAT.out _ hzl)
       have hlz:=hlz' wr hbz;have hol:8*j+row<(zAJ C zs row j k).length:=by rw[partL_len];omega
       have hlo':∀W,Blk W go 33 (bv (zAJ C zs row j k))→W.cell? ⟨go,8*j+row,none⟩=some (.int .i64 (vV C zs j row k)):=λW h=>(h.cell _).trans (by rw[jQ _ _ hol,partL_at C zs row j k hlr hlj hol])
       have hlo:=hlo' wr hbo;have hfr:=hbo.frozen (8*j+row);obtain⟨z1,z2⟩:=HZB.out _ (wC7 hzl);obtain⟨c1,c2⟩:=HCB.out j k hlj hlk;obtain⟨m1,m2⟩:=term_bd _ _ M 4096 hM z1 z2 c1 c2;obtain⟨s1,s2⟩:=HBD.out j row k hlj hk;have HS:=zA (zSM C zs j row k);have HD:Hid (zs.getD (8*row+k) 0=zs[8*row+k]):=zA (by simp[hzl]);clear z1 z2 c1 c2;generalize C j k=c at *;generalize vV C zs j row k=s at *;generalize zs[8*row+k]=z at *;go_wp2_with fail;have step:∀W,Ext wr.drew W→Calls prog gf (#[.int .i64 (j:Nat),.int .i64 (k:Nat)]++ #[]) W λe w'=>e=.returned (.int .i64 c)∧Ext W w':=λW _=>hcall.out W
       have HLO:=zA (λW (h:Ext wr.drew W)=>hlo' W (hbo.drew.ext h));have HLZ:=zA (λW (h:Ext wr.drew W)=>hlz' W (hbz.drew.ext h));refine zAo qM 19 (by kernel_rfl) (by decide+kernel) ?_;simp only[wH1,wH2];refine zE (by rfl) (.int .i64 ((j:Nat):Int)) (zD rfl rfl) ?_;simp only[Act.put,sA,sB,sC];refine zE (by rfl) (.int .i64 ((8*j:Nat):Int)) (zCc (i:=8) (d:=j) rfl rfl rfl (by omega)) ?_;simp only[Act.put,sA,sB,sC];refine zE (by rfl) (.int .i64 ((row:Nat):Int)) (zD rfl rfl) ?_;simp only[Act.put,sA,sB,sC];refine zE (by rfl) (.int .i64 ((8*j+row:Nat):Int)) (yL (i:=8*j) (d:=row) rfl rfl rfl (by omega)) ?_;simp only[Act.put,sA,sB,sC];refine zE (by rfl) (.pointer (some ⟨go,8*j+row,none⟩)) (zJJ underlying33 jM rfl rfl rfl (by omega)) ?_;simp only[Act.put,sA,sB,sC];refine xA (by rfl) (.int .i64 (s)) (λW hW=>zS rfl rfl (HLO.out W hW)) ?_;simp only[Act.put,sA,sB,sC];refine zE (by rfl) (.int .i64 ((row:Nat):Int)) (zD rfl rfl) ?_;simp only[Act.put,sA,sB,sC];refine zE (by rfl) (.int .i64 ((8*row:Nat):Int)) (zCc (i:=8) (d:=row) rfl rfl rfl (by omega)) ?_;simp only[Act.put,sA,sB,sC];refine zE (by rfl) (.int .i64 ((k:Nat):Int)) (zD rfl rfl) ?_;simp only[Act.put,sA,sB,sC];refine zE (by rfl) (.int .i64 ((8*row+k:Nat):Int)) (yL (i:=8*row) (d:=k) rfl rfl rfl (by omega)) ?_;simp only[Act.put,sA,sB,sC];refine zE (by rfl) (.pointer (some ⟨gz,8*row+k,none⟩)) (zJJ underlying33 jM rfl rfl rfl (by omega)) ?_;simp only[Act.put,sA,sB,sC];refine xA (by rfl) (.int .i64 (z)) (λW hW=>zS rfl rfl (HLZ.out W hW)) ?_;simp only[Act.put,sA,sB,sC];refine zE (by rfl) (.func (.func gf) #[] #[]) (zD rfl rfl) ?_;simp only[Act.put,sA,sB,sC];refine zE (by rfl) (.int .i64 ((j:Nat):Int)) (zD rfl rfl) ?_;simp only[Act.put,sA,sB,sC];refine zE (by rfl) (.int .i64 ((k:Nat):Int)) (zD rfl rfl) ?_;simp only[Act.put,sA,sB,sC];refine lx_callX (by rfl) gf _ _ _ rfl rfl HEG.out #[.int .i64 (j:Int),.int .i64 (k:Int)] (by simp[Act.eval]) (.int .i64 c) step ?_;simp only[Act.put,sA,sB,sC];refine zE (by rfl) (.int .i64 (z*c)) (ex_mulI (i:=z) (d:=c) rfl rfl rfl (by omega)) ?_;simp only[Act.put,sA,sB,sC];refine zE (by rfl) (.int .i64 (s+(z*c))) (zVN (i:=s) (d:=z*c) rfl rfl rfl (by omega)) ?_;simp only[Act.put,sA,sB,sC];refine zE (by rfl) (.pointer (some ⟨go,8*j+row,none⟩)) (zJJ underlying33 jM rfl rfl rfl (by omega)) ?_;simp only[Act.put,sA,sB,sC];refine jU ?_;intro w6 hw6
       try simp only[wK1,wK2]
       have hx6:=hx.drew.trans hw6;have hbz6:=hbz.drew.ext hw6;have hbo6:=hbo.drew.ext hw6;clear hx hbz hbo hlo hlz hfr;have hx:=hx6;have hbz:=hbz6;have hbo:=hbo6;have hlo:=hlo' w6 hbo;have hfr:=hbo.frozen (8*j+row);clear HLO HLZ hx6 hbz6 hbo6 hw6;clear step hlo' hlz';go_wp2_with fail;go_roundw
       case rel =>
        refine⟨k+1,by omega,by go_num,hbz.far (p:=⟨go,8*j+row,none⟩) (by simpa using hne.symm) _, ?_,hx.setCell (by omega) _⟩;have:=hbo.set_ (8*j+row) (.int .i64 (s+z*c));rw[zAE] at this;have e:=partL_set C zs row j k hlr hlj;rw[HS.out,HD.out] at e;rw[e] at this;exact this
       case measure=>simp[intOf];omega
      obtain rfl:k=8:=by omega
      rw[zTN] at hbo;go_wp2_with fail;go_roundw
      case rel=>exact⟨j+1,by omega,by go_num,hbz,hbo,hx⟩
      case measure=>simp[intOf];omega
    obtain rfl:j=8:=by omega
    rw[partL_row] at hbo;go_wp2_with fail;go_roundw
    case rel=>exact⟨row+1,by omega,by go_num,hbz,hbo,hx⟩
    case measure=>simp[intOf];omega
  obtain rfl:row=8:=by omega
  rw[partL_end] at hbo;have hs:Hid ((bv (jH C zs)).size=64):=zA (by rw[zK,zED]);have ho:=zA (xR (jH C zs));generalize hcr:bv (jH C zs)=cr at *;have HC:=zA hcr;clear hcr
  go_wp2_with (first
   | (refine wLdB rfl 33 (.tmp 4) rfl _ rfl hbo _ underlying33 rfl 64 zJ hs.out ?_)
   | (refine wStB rfl 33 (.tmp 4) (.tmp 39) rfl _ _ rfl rfl hbo 64 zJ hs.out hs.out ho.out ?_;intro w7 hb7 hg7))
  exact zCS rfl rfl _ rfl hb7 _ underlying33 rfl 64 zJ hs.out ⟨by rw[HC.out],hx.grown hg7 hgo'⟩
def mid_set (F:Int→Int) (zs:List Int) (k:Nat) (hz:k<zs.length):((zs.take k).map F++zs.drop k).set k (F zs[k])=(zs.take (k+1)).map F++zs.drop (k+1):=by
 have hl:((zs.take k).map F).length=k:=by simp;omega
 rw[wL4 _ _ (by omega),hl,wL5,wH0 hz,wJ9,wC1 hz,wF5];simp
def mid_len (F:Int→Int) (zs:List Int) (k:Nat) (hk:k≤zs.length):((zs.take k).map F++zs.drop k).length=zs.length:=by simp;omega
def wl:List Int:=[4096,4017,3784,3406,2896,2276,1567,799,0,-799,-1567,-2276,-2896,-3406,-3784,-4017,-4096,-4017,-3784,-3406,-2896,-2276,-1567,-799,0,799,1567,2276,2896,3406,3784,4017]
def wv (k:Nat):Int:=wl.getD k 0
def zCA (u x:Nat):Int:=if u=0 then 2896 else wv (u*(2*x+1)%32)
def wv_hi (k:Nat) (h1:16<k) (h2:k<32):wv (32-k)=wv k :=
 (by decide:∀j:Fin 32,16<j.val→wv (32-j.val)=wv j.val) ⟨k,h2⟩ h1
def wv_mid (k:Nat) (h1:8<k) (h2:k≤16): -wv (16-k)=wv k :=
 (by decide:∀j:Fin 17,8<j.val→ -wv (16-j.val)=wv j.val) ⟨k,by omega⟩ h1
def zOq (k:Nat) (h:k<32): -4096≤wv k∧wv k≤4096 :=
 (by decide:∀j:Fin 32,-4096≤wv j.val∧wv j.val≤4096) ⟨k,h⟩
def zUj:∀k,k≤8→(#[Value.int .i64 4096,.int .i64 4017,.int .i64 3784,.int .i64 3406,.int .i64 2896,.int .i64 2276,.int .i64 1567,.int .i64 799,.int .i64 0]:Array Value)[k]? =some (.int .i64 (wv k)):=by
 intro k hk;have:k=0∨k=1∨k=2∨k=3∨k=4∨k=5∨k=6∨k=7∨k=8:=by omega
 rcases this with rfl | rfl | rfl | rfl | rfl | rfl | rfl | rfl | rfl<;>rfl
def zRX (k:Nat) (w:World) (hk:k≤8):Calls prog 144 #[.int .i64 k] w λe w'=>e=.returned (.int .i64 (wv k))∧Ext w w':=by have hq:=zUj k hk;go_enter func144,ntmps144;go_wp2_with fail;go_ret;exact⟨rfl,(Ext.refl w).alloc _⟩
def zQl (k:Nat) (w:World) (hk:k≤16):Calls prog 144 #[.int .i64 k] w λe w'=>e=.returned (.int .i64 (wv k))∧Ext w w':=by
 by_cases h8:k≤8
 ·exact zRX k w h8
 have hb:=zOq (16-k) (by omega);obtain⟨hb1,hb2⟩:=hb;have hm:=zA (wv_mid k (by omega) hk);have hc:=zA (λW=>zRX (16-k) W (by omega));rw[show ((16-k:Nat):Int)=16-(k:Int) by omega] at hc;go_enter func144,ntmps144;go_wp2_with fail;refine (hc.out _).mono ?_;rintro e w' ⟨rfl,hx⟩;go_wp2_with fail;go_ret;exact⟨by rw[←hm.out];rfl,((Ext.refl w).alloc _).trans hx⟩
def turn_any (k:Nat) (w:World) (hk:k<32):Calls prog 144 #[.int .i64 k] w λe w'=>e=.returned (.int .i64 (wv k))∧Ext w w':=by
 by_cases h8:k≤16
 ·exact zQl k w h8
 have hm:=zA (wv_hi k (by omega) hk);have hc:=zA (λW=>zQl (32-k) W (by omega));rw[show ((32-k:Nat):Int)=32-(k:Int) by omega] at hc;go_enter func144,ntmps144;go_wp2_with fail;refine (hc.out _).mono ?_;rintro e w' ⟨rfl,hx⟩;go_wp2_with fail;go_ret;exact⟨by rw[←hm.out];rfl,((Ext.refl w).alloc _).trans hx⟩
def zOy (u x:Nat) (w:World) (hu:u≤7) (hx:x≤7):Calls prog 93 #[.int .i64 u,.int .i64 x] w λe w'=>e=.returned (.int .i64 (zCA u x))∧Ext w w':=by
 by_cases h0:u=0
 ·subst h0;go_enter func93,ntmps93;go_wp2_with fail;go_ret;exact⟨rfl,Ext.refl w⟩
 have hp:(u:Int)*(2*x+1)≤7*(2*x+1):=wC3 (by omega) (by omega);have hp2:0≤(u:Int)*(2*x+1):=wO5 (by omega) (by omega);have hm:(u:Int)*(2*x+1)%32=((u*(2*x+1)%32:Nat):Int):=by simp
 have hc:=zA (λW=>turn_any (u*(2*x+1)%32) W (wN6 _ (by omega)));rw[←hm] at hc;have hf:zCA u x=wv (u*(2*x+1)%32):=by unfold zCA;rw[if_neg h0]
 have HF:=zA hf;have hne:((u:Int) ==0)=false:=by simpa using h0
 clear hm hf h0;go_enter func93,ntmps93;go_wp2_with fail;refine (hc.out _).mono ?_;rintro e w' ⟨rfl,hx⟩;go_wp2_with fail;go_ret;exact⟨by rw[HF.out];rfl,hx⟩
def roundF (n:Int):Int:=rnd n 67108864
def zFU (C:Nat→Nat→Int) (zs:List Int):List Int:=(jH C (jH C zs)).map roundF
def waveL_len (C:Nat→Nat→Int) (zs:List Int):(zFU C zs).length=64:=by simp[zFU,zED]
def zPI (z:Int) (w:World):Calls prog 142 (#[.int .i64 z]++ #[]) w λe w'=>e=.returned (.bool (!inB z (-40000) 40000))∧w=w':=by
 by_cases h:z< -40000
 ·have h':decide (z< -40000)=true:=by simpa using h
  have e:(!inB z (-40000) 40000)=true:=by rw[zCe.2 (.inl h)];rfl
  rw[e];clear e;go_enter func142,ntmps142;go_wp2_with fail;go_ret;exact⟨rfl,rfl⟩
 have h':decide (z< -40000)=false:=by simpa using h
 have e:(!inB z (-40000) 40000)=decide (40000<z):=by rw[wC8,wC9,zCe];simp;omega
 rw[e];clear e;go_enter func142,ntmps142;go_wp2_with fail;go_ret;exact⟨rfl,rfl⟩
def zJN:uN prog 142:=zAd func142 (by kernel_rfl) rfl
def wboth_in (gf:Nat) (eg:uN prog gf) (C:Nat→Nat→Int) (zs:List Int) (w:World) (hz:zs.length=64) (hal:zR zs (-40000) 40000=true)
 (hC:∀i k,i<8→k<8→ -4096≤C i k∧C i k≤4096)
 (hF:∀i k W,i<8→k<8→Calls prog gf (#[.int .i64 (i:Nat),.int .i64 (k:Nat)]++ #[]) W λe w'=>e=.returned (.int .i64 (C i k))∧Ext W w') :
 Calls prog 92 #[.agg (bv zs),.func (.func gf) #[] #[]] w λe w'=>e=.returned (.tuple #[.agg (bv (zFU C zs)),.int .i64 0])∧Ext w w':=by
 have hzb:∀z∈zs,-40000≤z∧z≤40000:=yJ.1 hal;have hb1:=zOW C zs 40000 (by omega) hzb hC;have hb2:=zOW C (jH C zs) (8*(40000*4096)) (by omega) hb1 hC;have H1:=zA (λW=>zOr gf eg C zs 40000 W hz (by omega) (by omega) hzb hC hF);have H2:=zA (λW=>zOr gf eg C (jH C zs) (8*(40000*4096)) W (zED _ _) (by omega) (by omega) hb1 hC hF);have HSL:=zA (λ(W:World) g (h:Blk W g 33 (bv zs))=>h.bsl (c:=64) (by omega) (by omega));rw[hz] at HSL;have HCF:=zA (λW v (hs:SL W 1 v 64 (ints zs))=>vH 142 #[] (λz=> !inB z (-40000) 40000) zJN v zs W (by rw[hz];exact hs) (λz _=>zPI z W));simp only[zDk,hal] at HCF;have HW:=zA (show zFU C zs=(jH C (jH C zs)).map roundF from rfl);have hsz:=zA ((zK zs).trans hz);have hVl:=zED C (jH C zs);generalize hV:jH C (jH C zs)=V at *;generalize jH C zs=U at *;have HVB:=zA hb2;have HVL:=zA hVl;have hsv:=zA ((zK V).trans hVl);have hov:=zA (xR V);clear hV hb1 hb2 hzb hal hC hF eg hVl;generalize bv zs=cz at *;generalize bv U=cu at *;generalize hcv:bv V=cv at *;have HCV:=zA hcv;clear hcv hz;go_enter func92,ntmps92
 go_wp2_with (first
  | (refine wBox rfl 33 (.tmp 0) rfl cz rfl ?_;intro w1 gz hbz1 hx1 hgz)
  | (refine wAlo' rfl (some 4) rfl 33 rfl _ jX ?_;intro w2 gr hbr2 hx2 hgr;have hbz2:=hbz1.ext hx2;have hsl:=HSL.out _ _ hbz2)
  | (go_at_call 88;(with_reducible refine (HCF.out _ _ hsl).mono ?_);rintro e w' ⟨rfl,rfl⟩)
  | (refine wLdB rfl 33 (.tmp 2) rfl _ rfl hbz2 _ underlying33 rfl 64 zJ hsz.out ?_)
  | (go_at_call 143;(with_reducible refine (H1.out _).mono ?_);rintro e w3 ⟨rfl,hx3⟩)
  | (go_at_call 143;(with_reducible refine (H2.out _).mono ?_);rintro e w4 ⟨rfl,hx4⟩;have hbz4:=(hbz2.ext hx3).ext hx4;have hbr4:=(hbr2.ext hx3).ext hx4)
  | (refine wStB rfl 33 (.tmp 2) (.tmp 15) rfl _ _ rfl rfl hbz4 64 zJ hsv.out hsz.out hov.out ?_;intro w5 hbz5 hg5;have hbr5:=hbr4.grown hg5 (by have:=hbz1.lt;simp;omega))
  | (refine wLdB rfl 33 (.tmp 2) rfl _ rfl hbz5 _ underlying33 rfl 64 zJ hsv.out ?_))
 have hne1:gz≠gr:=by have:=hbz1.lt;omega
 have hxx:Ext w w5:=(((hx1.trans hx2).trans hx3).trans hx4).grown hg5 hgz;have hw02:w.heap.size≤gr:=by have:=hx1.size;omega
 clear hbz1 hbz2 hbz4 hbr2 hbr4 hx1 hx2 hx3 hx4 hg5 hsl
 go_loopw [17] (λi wr=>∃k:Nat,k≤64∧i=.int .i64 k∧Blk wr gz 33 (bv ((V.take k).map roundF++V.drop k))∧Blk wr gr 33 (bv xC)∧Ext w wr) (λi _=>64-(intOf i).toNat)
 case atStart=>exact⟨0,by omega,rfl,by rw[←HCV.out] at hbz5;simpa using hbz5,hbr5,hxx⟩
 case round =>
  obtain⟨k,hk,rfl,hb1,hb3,hxr⟩:=hrel
  by_cases hlt:k<64
  ·have hzl:k<V.length:=by have:=HVL.out;omega
   have hix:=λW=>zGk cv k (.int .i64 V[k]) hlt (by rw[←HCV.out];exact jQ V k hzl) W
   obtain⟨z1,z2⟩:=HVB.out V[k] (wC7 hzl);have HR:Hid (∀W,Calls prog 97 #[.int .i64 V[k],.int .i64 67108864] W λe w'=>e=.returned (.int .i64 (roundF V[k]))∧W=w'):=zA (λW=>zIp V[k] 67108864 W (by omega) (by omega) (by omega) (by omega))
   obtain⟨old,hold⟩:∃u,wr.cell? ⟨gz,k,none⟩=some u:=by
    rw[hb1.cell k];have hl:=mid_len roundF V k (by omega);exact⟨_,jQ _ k (by omega)⟩
   have hfr:=hb1.frozen k;clear z1 z2;go_wp2_with (go_at_call 97;(with_reducible refine (HR.out _).mono ?_);rintro e w' ⟨rfl,rfl⟩)
   go_roundw
   case rel =>
    refine⟨k+1,by omega,by go_num, ?_,hb3.far (p:=⟨gz,k,none⟩) (by simpa using hne1.symm) _,hxr.setCell (by omega) _⟩;have:=hb1.set_ k (.int .i64 (roundF V[k]));rw[zAE,mid_set roundF V k hzl] at this;exact this
   case measure=>simp[intOf];omega
  obtain rfl:k=64:=by omega
  have hfin:(V.take 64).map roundF++V.drop 64=V.map roundF:=by
   rw[wC2 (by have:=HVL.out;omega),wN9 (by have:=HVL.out;omega),wG9]
  have hlz:(bv (V.map roundF)).size=64:=by have:=HVL.out;rw[zK];simp;omega
  rw[hfin] at hb1;have hone:=xR (V.map roundF);generalize hcr:bv (V.map roundF)=cr at *;have HCR:=zA hcr;have hlz':=zA hlz;have hone':=zA hone;clear hfin hlz hone hcr
  go_wp2_with (first
   | (refine wLdB rfl 33 (.tmp 2) rfl _ rfl hb1 _ underlying33 rfl 64 zJ hlz'.out ?_)
   | (refine wStB rfl 33 (.tmp 4) (.tmp 26) rfl _ _ rfl rfl hb3 64 zJ hlz'.out (by rw[zK];rfl) hone'.out ?_;intro w7 hb7 hg7))
  refine yN rfl rfl _ rfl hb7 _ underlying33 rfl 64 zJ hlz'.out ⟨by rw[HW.out,HCR.out];rfl,hxr.grown hg7 hw02⟩
def wboth_out (gf:Nat) (zs:List Int) (w:World) (hz:zs.length=64) (hal:zR zs (-40000) 40000=false) :
 Calls prog 92 #[.agg (bv zs),.func (.func gf) #[] #[]] w λe w'=>e=.returned (.tuple #[.agg (bv xC),.int .i64 1])∧Ext w w':=by
 have HSL:=zA (λ(W:World) g (h:Blk W g 33 (bv zs))=>h.bsl (c:=64) (by omega) (by omega));rw[hz] at HSL;have HCF:=zA (λW v (hs:SL W 1 v 64 (ints zs))=>vH 142 #[] (λz=> !inB z (-40000) 40000) zJN v zs W (by rw[hz];exact hs) (λz _=>zPI z W));simp only[zDk,hal] at HCF;have hs0:Hid ((bv xC).size=64):=zA (by rw[zK];rfl);have ho0:=zA (xR xC);have hbt:=zA built48;generalize bv zs=cz at *;generalize hc0:bv xC=c0 at *;have HC0:=zA hc0;clear hz hal hc0;go_enter func92,ntmps92
 go_wp2_with (first
  | (refine wBox rfl 33 (.tmp 0) rfl cz rfl ?_;intro w1 gz hbz1 hx1 hgz)
  | (refine wAlo' rfl (some 4) rfl 33 rfl _ jX ?_;intro w2 gr hbr2 hx2 hgr;have hbz2:=hbz1.ext hx2;have hsl:=HSL.out _ _ hbz2)
  | (go_at_call 88;(with_reducible refine (HCF.out _ _ hsl).mono ?_);rintro e w' ⟨rfl,rfl⟩)
  | (refine vY rfl 33 rfl _ hbt.out ?_)
  | (refine wStB rfl 33 (.tmp 4) (.tmp 10) rfl _ _ rfl rfl hbr2 64 zJ hs0.out (by rw[show (Value.agg (bv xC)).cells=bv xC from rfl,HC0.out];exact hs0.out) ho0.out ?_;intro w7 hb7 hg7))
 exact yN rfl rfl _ rfl hb7 _ underlying33 rfl 64 zJ hs0.out ⟨rfl,(hx1.trans hx2).grown hg7 (by have:=hx1.size;omega)⟩
def uB (C:Nat→Nat→Int) (zs:List Int):List Int×Int:=if zR zs (-40000) 40000 then (zFU C zs,0) else (xC,1)
def zCl (C:Nat→Nat→Int) (zs:List Int):(uB C zs).1.length=64:=by
 unfold uB;split
 ·exact waveL_len C zs
 rfl
def zPf (gf:Nat) (eg:uN prog gf) (C:Nat→Nat→Int) (zs:List Int) (w:World) (hz:zs.length=64)
 (hC:∀i k,i<8→k<8→ -4096≤C i k∧C i k≤4096)
 (hF:∀i k W,i<8→k<8→Calls prog gf (#[.int .i64 (i:Nat),.int .i64 (k:Nat)]++ #[]) W λe w'=>e=.returned (.int .i64 (C i k))∧Ext W w') :
 Calls prog 92 #[.agg (bv zs),.func (.func gf) #[] #[]] w λe w'=>e=.returned (.tuple #[.agg (bv (uB C zs).1),.int .i64 (uB C zs).2])∧Ext w w':=by
 unfold uB
 cases h:zR zs (-40000) 40000 with
 | true=>simpa using wboth_in gf eg C zs w hz h hC hF
 | false=>simpa using wboth_out gf zs w hz h
def zOs (i k:Nat): -4096≤zCA i k∧zCA i k≤4096:=by
 unfold zCA;split
 ·omega
 exact zOq _ (wN6 _ (by omega))
def zSB:uN prog 93:=zAd func93 (by kernel_rfl) rfl
def toC (i k:Nat):Int:=zCA i k
def frC (i k:Nat):Int:=zCA k i
def zUx (zs:List Int) (w:World) (hz:zs.length=64) :
 Calls prog 41 #[.agg (bv zs)] w λe w'=>e=.returned (.tuple #[.agg (bv (uB toC zs).1),.int .i64 (uB toC zs).2])∧Ext w w':=by
 have HB:=zA (λW=>zPf 93 zSB toC zs W hz (λi k _ _=>zOs i k) (λi k W hi hk=>by simpa [toC] using zOy i k W (by omega) (by omega)));have hsz:=zA ((zK zs).trans hz);have hsr:=zA ((zK _).trans (zCl toC zs));have hor:=zA (xR (uB toC zs).1);generalize bv (uB toC zs).1=cr at *;generalize (uB toC zs).2=er at *;generalize bv zs=cz at *;clear hz;go_enter func41,ntmps41
 go_wp2_with (first
  | (refine wBox rfl 33 (.tmp 0) rfl cz rfl ?_;intro w1 gz hbz1 hx1 hgz)
  | (refine vF rfl 33 rfl _ jX ?_;intro w3 gr hbr3 hx3 hgr;have hbz3:=hbz1.ext hx3)
  | (refine wLdB rfl 33 (.tmp 1) rfl _ rfl hbz3 _ underlying33 rfl 64 zJ hsz.out ?_)
  | (go_at_call 92;(with_reducible refine (HB.out _).mono ?_);rintro e w4 ⟨rfl,hx4⟩;have hbr4:=hbr3.ext hx4)
  | (refine wStB rfl 33 (.tmp 2) (.tmp 6) rfl _ _ rfl rfl hbr4 64 zJ hsr.out (by rw[show (Value.agg (bv xC)).cells=bv xC from rfl,zK];rfl) hor.out ?_;intro w7 hb7 hg7))
 exact yN rfl rfl _ rfl hb7 _ underlying33 rfl 64 zJ hsr.out ⟨rfl,((hx1.trans hx3).trans hx4).grown hg7 (by have:=hx1.size;omega)⟩
def from1_any (i k:Nat) (w:World) (hi:i<8) (hk:k<8):Calls prog 167 (#[.int .i64 (i:Nat),.int .i64 (k:Nat)]++ #[]) w λe w'=>e=.returned (.int .i64 (frC i k))∧Ext w w':=by
 have HB:Hid (∀W,Calls prog 93 #[.int .i64 (k:Nat),.int .i64 (i:Nat)] W λe w'=>e=.returned (.int .i64 (frC i k))∧Ext W w'):=zA (λW=>zOy k i W (by omega) (by omega));generalize frC i k=c at *;go_enter func167,ntmps167;go_wp2_with (go_at_call 93;(with_reducible refine (HB.out _).mono ?_);rintro e w4 ⟨rfl,hx4⟩)
 go_ret;exact⟨rfl,hx4⟩
def zQs:uN prog 167:=zAd func167 (by kernel_rfl) rfl
def zRA (zs:List Int) (w:World) (hz:zs.length=64) :
 Calls prog 113 #[.agg (bv zs)] w λe w'=>e=.returned (.tuple #[.agg (bv (uB frC zs).1),.int .i64 (uB frC zs).2])∧Ext w w':=by
 have HB:=zA (λW=>zPf 167 zQs frC zs W hz (λi k _ _=>zOs k i) (λi k W hi hk=>from1_any i k W hi hk));have hsz:=zA ((zK zs).trans hz);have hsr:=zA ((zK _).trans (zCl frC zs));have hor:=zA (xR (uB frC zs).1);generalize bv (uB frC zs).1=cr at *;generalize (uB frC zs).2=er at *;generalize bv zs=cz at *;clear hz;go_enter func113,ntmps113
 go_wp2_with (first
  | (refine wBox rfl 33 (.tmp 0) rfl cz rfl ?_;intro w1 gz hbz1 hx1 hgz)
  | (refine vF rfl 33 rfl _ jX ?_;intro w3 gr hbr3 hx3 hgr;have hbz3:=hbz1.ext hx3)
  | (refine wLdB rfl 33 (.tmp 1) rfl _ rfl hbz3 _ underlying33 rfl 64 zJ hsz.out ?_)
  | (go_at_call 92;(with_reducible refine (HB.out _).mono ?_);rintro e w4 ⟨rfl,hx4⟩;have hbr4:=hbr3.ext hx4)
  | (refine wStB rfl 33 (.tmp 2) (.tmp 6) rfl _ _ rfl rfl hbr4 64 zJ hsr.out (by rw[show (Value.agg (bv xC)).cells=bv xC from rfl,zK];rfl) hor.out ?_;intro w7 hb7 hg7))
 exact yN rfl rfl _ rfl hb7 _ underlying33 rfl 64 zJ hsr.out ⟨rfl,((hx1.trans hx3).trans hx4).grown hg7 (by have:=hx1.size;omega)⟩
def zFc (F:Nat→Int) (i:Nat):List Int:=(List.range i).map F++List.replicate (64-i) 0
def fillL_len (F:Nat→Int) (i:Nat) (h:i≤64):(zFc F i).length=64:=by simp[zFc];omega
def fillL_set (F:Nat→Int) (i:Nat) (hi:i<64):(zFc F i).set i (F i)=zFc F (i+1):=by
 unfold zFc;have hl:((List.range i).map F).length=i:=by simp
 rw[wL4 _ _ (by omega),hl,wL5];obtain⟨j,hj⟩:∃j,64-i=j+1:=⟨64-i-1,by omega⟩
 have hj2:64-(i+1)=j:=by omega
 rw[hj,hj2,wG1,wJ9,wG5,wF5];simp
def upF (n d:Int):Int:=jY (n*d) (-40000) 40000
def zBO (n d:Int):Int:=jY (rnd n d) (-2047) 2047
def mul_bd (n d m:Int) (hn1: -m≤n) (hn2:n≤m) (hd1:1≤d) (hd2:d≤255) (hm:0≤m): -(m*255)≤n*d∧n*d≤m*255:=by have h1:n*d≤m*d:=wC3 hn2 (by omega);have h2:m*d≤m*255:=wC4 hd2 hm;have h3: -m*d≤n*d:=wC3 hn1 (by omega);rw[Int.neg_mul] at h3;omega
def zGY (F:Int→Int→Int) (zs qs:List Int) (most:Int) (hz:zs.length=64) (hq:qs.length=64):(vN F zs qs most).1.length=64:=by unfold vN;split<;>(try split)<;>simp[hz,hq,xC]
def up1_any (n d:Int) (w:World) (hn1: -2047≤n) (hn2:n≤2047) (hd1:1≤d) (hd2:d≤255) :
 Calls prog 166 (#[.int .i64 n,.int .i64 d]++ #[]) w λe w'=>e=.returned (.int .i64 (upF n d))∧w=w':=by
 obtain⟨h1,h2⟩:=mul_bd n d 2047 hn1 hn2 hd1 hd2 (by omega);go_enter func166,ntmps166;go_wp2_with (go_at_call 96;refine (zHt _ _ _ (by omega) (by omega)).mono ?_;rintro e w' ⟨rfl,rfl⟩)
 go_ret;exact⟨rfl,rfl⟩
def zUM:uN prog 166:=zAd func166 (by kernel_rfl) rfl
def up_any (zs qs:List Int) (w:World) (hz:zs.length=64) (hq:qs.length=64) :
 Calls prog 112 #[.agg (bv zs),.agg (bv qs)] w λe w'=>e=.returned (.tuple #[.agg (bv (vN upF zs qs 2047).1),.int .i64 (vN upF zs qs 2047).2])∧Ext w w':=by
 have HB:=zA (λW=>zSQ 166 upF zUM zs qs 2047 W hz hq (by omega) (by omega) (λn d W a b c e=>up1_any n d W a b c e));have hsz:=zA ((zK zs).trans hz);have hsq:=zA ((zK qs).trans hq);have hsr:=zA ((zK _).trans (zGY upF zs qs 2047 hz hq));have hor:=zA (xR (vN upF zs qs 2047).1);generalize bv (vN upF zs qs 2047).1=cr at *;generalize (vN upF zs qs 2047).2=er at *;generalize bv zs=cz at *;generalize bv qs=cq at *;clear hz hq;go_enter func112,ntmps112
 go_wp2_with (first
  | (refine wBox rfl 33 (.tmp 0) rfl cz rfl ?_;intro w1 gz hbz1 hx1 hgz)
  | (refine wBox rfl 33 (.tmp 1) rfl cq rfl ?_;intro w2 gq hbq2 hx2 hgq;have hbz2:=hbz1.ext hx2)
  | (refine vF rfl 33 rfl _ jX ?_;intro w3 gr hbr3 hx3 hgr;have hbz3:=hbz2.ext hx3;have hbq3:=hbq2.ext hx3)
  | (refine wLdB rfl 33 (.tmp 2) rfl _ rfl hbz3 _ underlying33 rfl 64 zJ hsz.out ?_)
  | (refine wLdB rfl 33 (.tmp 3) rfl _ rfl hbq3 _ underlying33 rfl 64 zJ hsq.out ?_)
  | (go_at_call 94;refine (HB.out _).mono ?_;rintro e w4 ⟨rfl,hx4⟩;have hbr4:=hbr3.ext hx4)
  | (refine wStB rfl 33 (.tmp 4) (.tmp 9) rfl _ _ rfl rfl hbr4 64 zJ hsr.out (by rw[show (Value.agg (bv xC)).cells=bv xC from rfl,zK];rfl) hor.out ?_;intro w7 hb7 hg7))
 exact yN rfl rfl _ rfl hb7 _ underlying33 rfl 64 zJ hsr.out ⟨rfl,(((hx1.trans hx2).trans hx3).trans hx4).grown hg7 (by have:=hx1.size;have:=hx2.size;omega)⟩
def down1_any (n d:Int) (w:World) (hn1: -40000≤n) (hn2:n≤40000) (hd1:1≤d) (hd2:d≤255) :
 Calls prog 95 (#[.int .i64 n,.int .i64 d]++ #[]) w λe w'=>e=.returned (.int .i64 (zBO n d))∧w=w':=by
 go_enter func95,ntmps95;go_wp2_with (first | (go_at_call 97;refine (zIp n d _ (by omega) (by omega) (by omega) (by omega)).mono ?_;rintro e w' ⟨rfl,rfl⟩) | (go_at_call 96;refine (zHt _ _ _ (by omega) (by omega)).mono ?_;rintro e w' ⟨rfl,rfl⟩))
 go_ret;exact⟨rfl,rfl⟩
def zSV:uN prog 95:=zAd func95 (by kernel_rfl) rfl
def down_any (zs qs:List Int) (w:World) (hz:zs.length=64) (hq:qs.length=64) :
 Calls prog 42 #[.agg (bv zs),.agg (bv qs)] w λe w'=>e=.returned (.tuple #[.agg (bv (vN zBO zs qs 40000).1),.int .i64 (vN zBO zs qs 40000).2])∧Ext w w':=by
 have HB:=zA (λW=>zSQ 95 zBO zSV zs qs 40000 W hz hq (by omega) (by omega) (λn d W a b c e=>down1_any n d W a b c e));have hsz:=zA ((zK zs).trans hz);have hsq:=zA ((zK qs).trans hq);have hsr:=zA ((zK _).trans (zGY zBO zs qs 40000 hz hq));have hor:=zA (xR (vN zBO zs qs 40000).1);generalize bv (vN zBO zs qs 40000).1=cr at *;generalize (vN zBO zs qs 40000).2=er at *;generalize bv zs=cz at *;generalize bv qs=cq at *;clear hz hq;go_enter func42,ntmps42
 go_wp2_with (first
  | (refine wBox rfl 33 (.tmp 0) rfl cz rfl ?_;intro w1 gz hbz1 hx1 hgz)
  | (refine wBox rfl 33 (.tmp 1) rfl cq rfl ?_;intro w2 gq hbq2 hx2 hgq;have hbz2:=hbz1.ext hx2)
  | (refine vF rfl 33 rfl _ jX ?_;intro w3 gr hbr3 hx3 hgr;have hbz3:=hbz2.ext hx3;have hbq3:=hbq2.ext hx3)
  | (refine wLdB rfl 33 (.tmp 2) rfl _ rfl hbz3 _ underlying33 rfl 64 zJ hsz.out ?_)
  | (refine wLdB rfl 33 (.tmp 3) rfl _ rfl hbq3 _ underlying33 rfl 64 zJ hsq.out ?_)
  | (go_at_call 94;refine (HB.out _).mono ?_;rintro e w4 ⟨rfl,hx4⟩;have hbr4:=hbr3.ext hx4)
  | (refine wStB rfl 33 (.tmp 4) (.tmp 9) rfl _ _ rfl rfl hbr4 64 zJ hsr.out (by rw[show (Value.agg (bv xC)).cells=bv xC from rfl,zK];rfl) hor.out ?_;intro w7 hb7 hg7))
 exact yN rfl rfl _ rfl hb7 _ underlying33 rfl 64 zJ hsr.out ⟨rfl,(((hx1.trans hx2).trans hx3).trans hx4).grown hg7 (by have:=hx1.size;have:=hx2.size;omega)⟩
def qC:(prog.info? 128).map (·.size)=some 2:=by kernel_rfl
def jJ (wd hi:Int):Array Value:= #[.int .i64 wd,.int .i64 hi]
def xX (wd hi:Int):Int:=if inB wd 1 64&&inB hi 1 64 then 0 else 1
def inB_val (n lo hi:Int):inB n lo hi=(!decide (n<lo)&& !decide (hi<n)):=by rw[wC8,uJ];simp
def zIN {w:World} {g:Nat} {T:TypeId} {wd hi:Int} (h:Blk w g T (jJ wd hi)):w.cell? ⟨g,0,none⟩=some (.int .i64 wd)∧w.cell? ⟨g,1,none⟩=some (.int .i64 hi):=by rw[h.cell,h.cell];exact⟨rfl,rfl⟩
def zAO (wd hi:Int) (w:World) :
 Calls prog 87 #[.agg (jJ wd hi)] w λe w'=>e=.returned (.int .i64 (xX wd hi))∧Ext w w':=by
 have HC:=zA (λW g (h:Blk W g 128 (jJ wd hi))=>zIN h)
 have e:xX wd hi=if wd<1 then 1 else if 64<wd then 1 else if hi<1 then 1 else if 64<hi then 1 else 0:=by
  unfold xX;rw[inB_val,inB_val]
  by_cases h1:wd<1<;>by_cases h2:64<wd<;>by_cases h3:hi<1<;>by_cases h4:64<hi<;>simp[h1,h2,h3,h4]
 rw[e];clear e;generalize jJ wd hi=av at *
 by_cases h1:wd<1
 ·rw[if_pos h1];go_enter func87,ntmps87;go_wp2_with (refine wBox rfl 128 (.tmp 0) rfl av rfl ?_;intro w1 g hb1 hx1 hg;obtain⟨c0,c1⟩:=HC.out _ _ hb1)
  go_ret;exact⟨rfl,hx1⟩
 rw[if_neg h1]
 by_cases h2:64<wd
 ·rw[if_pos h2];go_enter func87,ntmps87;go_wp2_with (refine wBox rfl 128 (.tmp 0) rfl av rfl ?_;intro w1 g hb1 hx1 hg;obtain⟨c0,c1⟩:=HC.out _ _ hb1)
  go_ret;exact⟨rfl,hx1⟩
 rw[if_neg h2]
 by_cases h3:hi<1
 ·rw[if_pos h3];go_enter func87,ntmps87;go_wp2_with (refine wBox rfl 128 (.tmp 0) rfl av rfl ?_;intro w1 g hb1 hx1 hg;obtain⟨c0,c1⟩:=HC.out _ _ hb1)
  go_ret;exact⟨rfl,hx1⟩
 rw[if_neg h3]
 by_cases h4:64<hi
 ·rw[if_pos h4];go_enter func87,ntmps87;go_wp2_with (refine wBox rfl 128 (.tmp 0) rfl av rfl ?_;intro w1 g hb1 hx1 hg;obtain⟨c0,c1⟩:=HC.out _ _ hb1)
  go_ret;exact⟨rfl,hx1⟩
 rw[if_neg h4];go_enter func87,ntmps87;go_wp2_with (refine wBox rfl 128 (.tmp 0) rfl av rfl ?_;intro w1 g hb1 hx1 hg;obtain⟨c0,c1⟩:=HC.out _ _ hb1)
 go_ret;exact⟨rfl,hx1⟩
def zNM (wd:Nat) (hi:Int) (w:World) (h1:1≤wd) (h2:wd≤64) :
 Calls prog 141 #[.agg (jJ wd hi)] w λe w'=>e=.returned (.int .i64 (((wd+7)/8:Nat):Int))∧Ext w w':=by
 have HC:=zA (λW g (h:Blk W g 128 (jJ wd hi))=>zIN h);generalize jJ wd hi=av at *;go_enter func141,ntmps141;go_wp2_with (refine wBox rfl 128 (.tmp 0) rfl av rfl ?_;intro w1 g hb1 hx1 hg;obtain⟨c0,c1⟩:=HC.out _ _ hb1)
 go_ret;refine⟨?_,hx1⟩;congr 2
 go_num
def zAG (wd hi:Int):(jJ wd hi).size=2:=rfl
def zID (wd hi:Nat) (w:World) (h1:1≤wd) (h2:wd≤64) (h3:1≤hi) (h4:hi≤64) :
 Calls prog 90 #[.agg (jJ wd hi)] w λe w'=>e=.returned (.int .i64 (((wd+7)/8*((hi+7)/8):Nat):Int))∧Ext w w':=by
 have HC:=zA (λW g (h:Blk W g 128 (jJ wd hi))=>zIN h);have HA:=zA (λW=>zNM wd hi W h1 h2);have hts:=zA (zAG wd hi);have hm:(wd+7)/8*((hi+7)/8)≤8*8:=wO6 (by omega) (by omega);generalize jJ wd hi=av at *;go_enter func90,ntmps90;go_wp2_with (refine wBox rfl 128 (.tmp 0) rfl av rfl ?_;intro w1 g hb1 hx1 hg)
 have hx1':=hx1.drew;have hb1':=hb1.drew;refine xU qM (by kernel_rfl) (by kernel_rfl) ?_;refine zGq (by rfl) 128 (.tmp 1) rfl g rfl (λw h=>hb1'.ext h) _ underlying128 rfl 2 qC hts.out ?_;simp only[Act.put,sA,sB,sC];refine zEY (by rfl) 141 func141 rfl rfl _ _ rfl #[.agg av] (by simp[Act.eval]) (.int .i64 (((wd+7)/8:Nat):Int)) (λW h=>HA.out W) ?_;simp only[sP,sB,sC];refine zBZ (by rfl) ?_;apply Exists.intro;refine⟨λw hw=> ?_, ?_⟩; · (go_simp;with_reducible rfl)
 simp only[Act.put,sA,sB,sC];refine zBZ (by rfl) ?_;apply Exists.intro;refine⟨λw hw=> ?_, ?_⟩; · (obtain⟨c0,c1⟩:=HC.out _ _ (hb1'.ext hw);go_simp;with_reducible rfl)
 simp only[Act.put,sA,sB,sC];refine zAU (by rfl) .add 3 _ _ _ rfl (.int .i64 (hi:Int)) (.int .i64 ((8:Nat):Int)) rfl rfl (.int .i64 ((hi+8:Nat):Int)) (zBy _ _ _ _ _) (zIR _ _ (by omega)) ?_;simp only[Act.put,sA,sB,sC];refine zAU (by rfl) .sub 3 _ _ _ rfl (.int .i64 ((hi+8:Nat):Int)) (.int .i64 ((1:Nat):Int)) rfl rfl (.int .i64 ((hi+7:Nat):Int)) (zBy _ _ _ _ _) (zIO (hi+8) 1 (by omega) (by omega)) ?_;simp only[Act.put,sA,sB,sC];refine zAU (by rfl) .quo 3 _ _ _ rfl (.int .i64 ((hi+7:Nat):Int)) (.int .i64 ((8:Nat):Int)) rfl rfl (.int .i64 (((hi+7)/8:Nat):Int)) (zBy _ _ _ _ _) (zIT _ _ (by omega) (by omega)) ?_;simp only[Act.put,sA,sB,sC];refine zAU (by rfl) .mul 3 _ _ _ rfl (.int .i64 (((wd+7)/8:Nat):Int)) (.int .i64 (((hi+7)/8:Nat):Int)) rfl rfl (.int .i64 (((wd+7)/8*((hi+7)/8):Nat):Int)) (zBy _ _ _ _ _) (zFr _ _ _ rfl (by omega)) ?_;simp only[Act.put,sA,sB,sC];generalize hmm:(wd+7)/8*((hi+7)/8)=m at *;have HMM:=zA hmm;clear hmm
 repeat (refine zBZ (by rfl) ?_;apply Exists.intro;refine⟨λw hw=> ?_, ?_⟩; · (go_simp;with_reducible rfl)
         simp only[Act.put,sA,sB,sC])
 refine jU ?_;intro w3 hx3;go_wp2_with fail;go_ret;rw[HMM.out];exact⟨rfl,hx1'.trans hx3⟩
def zPL (wd:Nat) (hi:Int) (b i:Nat) (w:World) (h1:1≤wd) (h2:wd≤64) (hb:b<64) (hi64:i<64) :
 Calls prog 91 #[.agg (jJ wd hi),.int .i64 (b:Int),.int .i64 (i:Int)] w λe w' =>
  e=.returned (.tuple #[.int .i64 ((b/((wd+7)/8)*8+i/8:Nat):Int),.int .i64 ((b%((wd+7)/8)*8+i%8:Nat):Int)])∧Ext w w':=by
 have HA:=zA (λW=>zNM wd hi W h1 h2);have hts:=zA (zAG wd hi);have hc:1≤(wd+7)/8∧(wd+7)/8≤8:=by omega
 generalize (wd+7)/8=c at *;generalize jJ wd hi=av at *;have q1:b/c≤b:=Nat.div_le_self _ _;have q2:b%c<c:=wN6 _ (by omega);go_enter func91,ntmps91;go_wp2_with (refine wBox rfl 128 (.tmp 0) rfl av rfl ?_;intro w1 g hb1 hx1 hg)
 have hx1':=hx1.drew;have hb1':=hb1.drew;refine xU qM (by kernel_rfl) (by kernel_rfl) ?_;refine zBZ (by rfl) ?_;apply Exists.intro;refine⟨λw hw=> ?_, ?_⟩; · (go_simp;with_reducible rfl)
 simp only[Act.put,sA,sB,sC];refine zGq (by rfl) 128 (.tmp 3) rfl g rfl (λw h=>hb1'.ext h) _ underlying128 rfl 2 qC hts.out ?_;simp only[Act.put,sA,sB,sC];refine zEY (by rfl) 141 func141 rfl rfl _ _ rfl #[.agg av] (by simp[Act.eval]) (.int .i64 (c:Int)) (λW h=>HA.out W) ?_;simp only[sP,sB,sC];refine zAU (by rfl) .quo 3 _ _ _ rfl (.int .i64 ((b:Nat):Int)) (.int .i64 ((c:Nat):Int)) rfl rfl (.int .i64 ((b/c:Nat):Int)) (zBy _ _ _ _ _) (zIT _ _ (by omega) (by omega)) ?_;simp only[Act.put,sA,sB,sC];refine zAU (by rfl) .mul 3 _ _ _ rfl (.int .i64 ((b/c:Nat):Int)) (.int .i64 ((8:Nat):Int)) rfl rfl (.int .i64 ((b/c*8:Nat):Int)) (zBy _ _ _ _ _) (zFr _ _ _ rfl (by omega)) ?_;simp only[Act.put,sA,sB,sC];refine zBZ (by rfl) ?_;apply Exists.intro;refine⟨λw hw=> ?_, ?_⟩; · (go_simp;with_reducible rfl)
 simp only[Act.put,sA,sB,sC];refine zAU (by rfl) .quo 3 _ _ _ rfl (.int .i64 ((i:Nat):Int)) (.int .i64 ((8:Nat):Int)) rfl rfl (.int .i64 ((i/8:Nat):Int)) (zBy _ _ _ _ _) (zIT _ _ (by omega) (by omega)) ?_;simp only[Act.put,sA,sB,sC];refine zAU (by rfl) .add 3 _ _ _ rfl (.int .i64 ((b/c*8:Nat):Int)) (.int .i64 ((i/8:Nat):Int)) rfl rfl (.int .i64 ((b/c*8+i/8:Nat):Int)) (zBy _ _ _ _ _) (zIR _ _ (by omega)) ?_;simp only[Act.put,sA,sB,sC];refine zBZ (by rfl) ?_;apply Exists.intro;refine⟨λw hw=> ?_, ?_⟩; · (go_simp;with_reducible rfl)
 simp only[Act.put,sA,sB,sC];refine zGq (by rfl) 128 (.tmp 3) rfl g rfl (λw h=>hb1'.ext h) _ underlying128 rfl 2 qC hts.out ?_;simp only[Act.put,sA,sB,sC];refine zEY (by rfl) 141 func141 rfl rfl _ _ rfl #[.agg av] (by simp[Act.eval]) (.int .i64 (c:Int)) (λW h=>HA.out W) ?_;simp only[sP,sB,sC];refine zAU (by rfl) .rem 3 _ _ _ rfl (.int .i64 ((b:Nat):Int)) (.int .i64 ((c:Nat):Int)) rfl rfl (.int .i64 ((b%c:Nat):Int)) (zBy _ _ _ _ _) (zHo _ _ (by omega) (by omega)) ?_;simp only[Act.put,sA,sB,sC];refine zAU (by rfl) .mul 3 _ _ _ rfl (.int .i64 ((b%c:Nat):Int)) (.int .i64 ((8:Nat):Int)) rfl rfl (.int .i64 ((b%c*8:Nat):Int)) (zBy _ _ _ _ _) (zFr _ _ _ rfl (by omega)) ?_;simp only[Act.put,sA,sB,sC];refine zBZ (by rfl) ?_;apply Exists.intro;refine⟨λw hw=> ?_, ?_⟩; · (go_simp;with_reducible rfl)
 simp only[Act.put,sA,sB,sC];refine zAU (by rfl) .rem 3 _ _ _ rfl (.int .i64 ((i:Nat):Int)) (.int .i64 ((8:Nat):Int)) rfl rfl (.int .i64 ((i%8:Nat):Int)) (zBy _ _ _ _ _) (zHo _ _ (by omega) (by omega)) ?_;simp only[Act.put,sA,sB,sC];refine zAU (by rfl) .add 3 _ _ _ rfl (.int .i64 ((b%c*8:Nat):Int)) (.int .i64 ((i%8:Nat):Int)) rfl rfl (.int .i64 ((b%c*8+i%8:Nat):Int)) (zBy _ _ _ _ _) (zIR _ _ (by omega)) ?_;simp only[Act.put,sA,sB,sC];generalize hmm:b/c*8+i/8=m at *;generalize hnn:b%c*8+i%8=n at *;have HMM:=zA hmm;have HNN:=zA hnn;clear hmm hnn;refine zBZ (by rfl) ?_;apply Exists.intro;refine⟨λw hw=> ?_, ?_⟩; · (go_simp;with_reducible rfl)
 simp only[Act.put,sA,sB,sC];refine zBZ (by rfl) ?_;apply Exists.intro;refine⟨λw hw=> ?_, ?_⟩; · (go_simp;with_reducible rfl)
 simp only[Act.put,sA,sB,sC];refine jU ?_;intro w3 hx3;go_wp2_with fail;go_ret2;rw[HMM.out,HNN.out];exact⟨rfl,hx1'.trans hx3⟩
def zCO:(prog.info? 128).bind (·.zero)=some (.agg #[.int .i64 0,.int .i64 0]):=by kernel_rfl
def all_one (l:List Value) (h:∀u∈l,u.oneCell'=true):l.toArray.all (·.oneCell')=true :=
 wD1.2 (λv hv=>h v (by simpa using hv))
def zBY (wd hi:Int):(jJ wd hi).all (·.oneCell')=true:=all_one [.int .i64 wd,.int .i64 hi] (by intro u hu;simp at hu;rcases hu with rfl | rfl<;>rfl)
def zGE {wd hi:Int} (h:xX wd hi=0):∃a b:Nat,wd=(a:Int)∧hi=(b:Int)∧1≤a∧a≤64∧1≤b∧b≤64:=by
 unfold xX at h
 cases h1:inB wd 1 64 with
 | false=>rw[h1] at h;cases h
 | true =>
   cases h2:inB hi 1 64 with
   | false=>rw[h1,h2] at h;cases h
   | true =>
     have:=uJ.1 h1;have:=uJ.1 h2;exact⟨wd.toNat,hi.toNat,by omega,by omega,by omega,by omega,by omega,by omega⟩
def zIA {wd hi:Int} (h:xX wd hi≠0):xX wd hi=1:=by
 unfold xX at h ⊢;split
 ·next h2=>rw[if_pos h2] at h;exact absurd rfl h
 rfl
def zDT (wd hi:Int):Int:=if xX wd hi=0 then (((wd.toNat+7)/8*((hi.toNat+7)/8):Nat):Int) else 0
def zFv (wd hi:Int) (w:World) :
 Calls prog 65 #[.int .i64 wd,.int .i64 hi] w λe w'=>e=.returned (.tuple #[.int .i64 (zDT wd hi),.int .i64 (xX wd hi)])∧Ext w w':=by
 have HK:=zA (λW=>zAO wd hi W)
 by_cases h:xX wd hi=0
 ·have HM:Hid (∀W,Calls prog 90 #[.agg (jJ wd hi)] W λe w'=>e=.returned (.int .i64 (zDT wd hi))∧Ext W w'):=zA (by
   intro W;unfold zDT;rw[if_pos h];obtain⟨a,b,rfl,rfl,a1,a2,b1,b2⟩:=zGE h
   exact zID a b W a1 a2 b1 b2)
  generalize zDT wd hi=m at *;rw[h] at HK ⊢;clear h;have hbv: #[Value.int .i64 wd,Value.int .i64 hi]=jJ wd hi:=rfl;have hts:=zA (zAG wd hi);have ho:=zA (zBY wd hi);generalize jJ wd hi=av at *;go_enter func65,ntmps65
  go_wp2_with (first
   | (refine wAlo' rfl (some 6) rfl 128 rfl _ zCO ?_;intro w1 g hb1 hx1 hg)
   | (refine wStB rfl 128 (.tmp 6) (.tmp 10) rfl _ _ rfl rfl hb1 2 qC hts.out rfl ho.out ?_;intro w2 hb2 hg2;have hx2:=hx1.grown hg2 (by omega))
   | (refine wLdB rfl 128 (.tmp 6) rfl _ rfl hb2 _ underlying128 rfl 2 qC hts.out ?_)
   | (go_at_call 87;(with_reducible refine (HK.out _).mono ?_);rintro e w3 ⟨rfl,hx3⟩;have hb3:=hb2.ext hx3)
   | (refine wLdB rfl 128 (.tmp 6) rfl _ rfl hb3 _ underlying128 rfl 2 qC hts.out ?_)
   | (go_at_call 90;(with_reducible refine (HM.out _).mono ?_);rintro e w4 ⟨rfl,hx4⟩))
  go_ret2;exact⟨rfl,(hx2.trans hx3).trans hx4⟩
 have e:zDT wd hi=0:=by unfold zDT;rw[if_neg h]
 rw[e];have h1:=zIA h;rw[h1] at HK ⊢;clear h h1 e;have hbv: #[Value.int .i64 wd,Value.int .i64 hi]=jJ wd hi:=rfl;have hts:=zA (zAG wd hi);have ho:=zA (zBY wd hi);generalize jJ wd hi=av at *;go_enter func65,ntmps65
 go_wp2_with (first
  | (refine wAlo' rfl (some 6) rfl 128 rfl _ zCO ?_;intro w1 g hb1 hx1 hg)
  | (refine wStB rfl 128 (.tmp 6) (.tmp 10) rfl _ _ rfl rfl hb1 2 qC hts.out rfl ho.out ?_;intro w2 hb2 hg2;have hx2:=hx1.grown hg2 (by omega))
  | (refine wLdB rfl 128 (.tmp 6) rfl _ rfl hb2 _ underlying128 rfl 2 qC hts.out ?_)
  | (go_at_call 87;(with_reducible refine (HK.out _).mono ?_);rintro e w3 ⟨rfl,hx3⟩;have hb3:=hb2.ext hx3))
 go_ret2;exact⟨rfl,hx2.trans hx3⟩
def zSG (z:Int) (w:World):Calls prog 89 (#[.int .i64 z]++ #[]) w λe w'=>e=.returned (.bool (!inB z 0 255))∧w=w':=by
 by_cases h:z<0
 ·have h':decide (z<0)=true:=by simpa using h
  have e:inB z 0 255=false:=zCe.2 (by omega);rw[e];clear e;go_enter func89,ntmps89;go_wp2_with fail;go_ret;exact⟨rfl,rfl⟩
 have h':decide (z<0)=false:=by simpa using h
 have e:(!inB z 0 255)=decide (255<z):=by rw[wC8];simp[inB];omega
 rw[e];clear e;go_enter func89,ntmps89;go_wp2_with fail;go_ret;exact⟨rfl,rfl⟩
def zKm:uN prog 89:=zAd func89 (by kernel_rfl) rfl
def zAD (xs:List Int) (wd hi:Int):Int:=if xX wd hi=0 then (if (xs.length:Int)=wd*hi then (if zR xs 0 255 then 0 else 1) else 4) else 1
def zPg (xs:List Int) (v:Value) (wd hi:Int) (w:World) (hv:SL w 1 v xs.length (ints xs)) (h:xX wd hi≠0) :
 Calls prog 40 #[v,.int .i64 wd,.int .i64 hi] w λe w'=>e=.returned (.tuple #[.slice none 0 0,.int .i64 1])∧Ext w w':=by
 have HK:=zA (λW=>zAO wd hi W);rw[zIA h] at HK;clear h;have hbv: #[Value.int .i64 wd,Value.int .i64 hi]=jJ wd hi:=rfl;have hts:=zA (zAG wd hi);have ho:=zA (zBY wd hi);generalize jJ wd hi=av at *;obtain⟨A,c,rfl,hc1,hc2,-,-⟩:=hv;go_enter func40,ntmps40
 go_wp2_with (first
  | (refine wAlo' rfl (some 8) rfl 128 rfl _ zCO ?_;intro w1 g hb1 hx1 hg)
  | (refine wStB rfl 128 (.tmp 8) (.tmp 17) rfl _ _ rfl rfl hb1 2 qC hts.out rfl ho.out ?_;intro w2 hb2 hg2;have hx2:=hx1.grown hg2 (by omega))
  | (refine wLdB rfl 128 (.tmp 8) rfl _ rfl hb2 _ underlying128 rfl 2 qC hts.out ?_)
  | (go_at_call 87;(with_reducible refine (HK.out _).mono ?_);rintro e w3 ⟨rfl,hx3⟩))
 go_ret2;exact⟨rfl,hx2.trans hx3⟩
def zSL (xs:List Int) (v:Value) (wd hi:Nat) (w:World) (hv:SL w 1 v xs.length (ints xs)) (h0:xX wd hi=0) (a2:wd≤64) (b2:hi≤64) (h:xs.length≠wd*hi) :
 Calls prog 40 #[v,.int .i64 wd,.int .i64 hi] w λe w'=>e=.returned (.tuple #[.slice none 0 0,.int .i64 4])∧Ext w w':=by
 have HK:=zA (λW=>zAO wd hi W);rw[h0] at HK;clear h0;have hm:wd*hi≤64*64:=wO6 a2 b2;have hw1:IntKind.i64.wrap ((wd:Int)*(hi:Int))=(wd:Int)*(hi:Int):=by rw[←wB5];exact IntWalk.i64_in _ (by omega)
 have hne:((xs.length:Int) !=(wd:Int)*(hi:Int))=true:=by rw[←wB5];simp;omega
 have hbv: #[Value.int .i64 wd,Value.int .i64 hi]=jJ wd hi:=rfl;have hts:=zA (zAG wd hi);have ho:=zA (zBY wd hi);generalize jJ wd hi=av at *;obtain⟨A,c,rfl,hc1,hc2,-,-⟩:=hv;clear h hm;go_enter func40,ntmps40
 go_wp2_with (first
  | (refine wAlo' rfl (some 8) rfl 128 rfl _ zCO ?_;intro w1 g hb1 hx1 hg)
  | (refine wStB rfl 128 (.tmp 8) (.tmp 17) rfl _ _ rfl rfl hb1 2 qC hts.out rfl ho.out ?_;intro w2 hb2 hg2;have hx2:=hx1.grown hg2 (by omega))
  | (refine wLdB rfl 128 (.tmp 8) rfl _ rfl hb2 _ underlying128 rfl 2 qC hts.out ?_)
  | (go_at_call 87;(with_reducible refine (HK.out _).mono ?_);rintro e w3 ⟨rfl,hx3⟩))
 go_ret2;exact⟨rfl,hx2.trans hx3⟩
def cut_out (xs:List Int) (v:Value) (wd hi:Nat) (w:World) (hv:SL w 1 v xs.length (ints xs)) (h0:xX wd hi=0) (a2:wd≤64) (b2:hi≤64) (h:xs.length=wd*hi) (hq:zR xs 0 255=false) :
 Calls prog 40 #[v,.int .i64 wd,.int .i64 hi] w λe w'=>e=.returned (.tuple #[.slice none 0 0,.int .i64 1])∧Ext w w':=by
 have HK:=zA (λW=>zAO wd hi W);rw[h0] at HK;clear h0;have HCF:=zA (λW (hs:SL W 1 v xs.length (ints xs))=>vH 89 #[] (λz=> !inB z 0 255) zKm v xs W hs (λz _=>zSG z W));simp only[zDk,hq] at HCF;clear hq;have hm:wd*hi≤64*64:=wO6 a2 b2;have hw1:IntKind.i64.wrap ((wd:Int)*(hi:Int))=(wd:Int)*(hi:Int):=by rw[←wB5];exact IntWalk.i64_in _ (by omega)
 have hne:((xs.length:Int) !=(wd:Int)*(hi:Int))=false:=by rw[←wB5];simp;omega
 have hbv: #[Value.int .i64 wd,Value.int .i64 hi]=jJ wd hi:=rfl;have hts:=zA (zAG wd hi);have ho:=zA (zBY wd hi);generalize jJ wd hi=av at *;have hv':=hv;obtain⟨A,c,rfl,hc1,hc2,-,-⟩:=hv';clear h hm;go_enter func40,ntmps40
 go_wp2_with (first
  | (refine wAlo' rfl (some 8) rfl 128 rfl _ zCO ?_;intro w1 g hb1 hx1 hg)
  | (refine wStB rfl 128 (.tmp 8) (.tmp 17) rfl _ _ rfl rfl hb1 2 qC hts.out rfl ho.out ?_;intro w2 hb2 hg2;have hx2:=hx1.grown hg2 (by omega))
  | (refine wLdB rfl 128 (.tmp 8) rfl _ rfl hb2 _ underlying128 rfl 2 qC hts.out ?_)
  | (go_at_call 87;(with_reducible refine (HK.out _).mono ?_);rintro e w3 ⟨rfl,hx3⟩;have hx23:=hx2.trans hx3)
  | (go_at_call 88;(with_reducible refine (HCF.out _ (hv.ext hx23)).mono ?_);rintro e w4 ⟨rfl,rfl⟩))
 go_ret2;exact⟨rfl,hx23⟩
def zKU (xs:List Int) (wd hi k i:Nat):Int:=xs.getD (min (k/((wd+7)/8)*8+i/8) (hi-1)*wd+min (k%((wd+7)/8)*8+i%8) (wd-1)) 0-128
def zT (wd hi:Nat):Nat:=(wd+7)/8*((hi+7)/8)
def zBD (xs:List Int) (wd hi:Nat):List Int:=(List.range (zT wd hi*64)).map λj=>zKU xs wd hi (j/64) (j%64)
def zFl (xs:List Int) (wd hi:Nat):(zBD xs wd hi).length=zT wd hi*64:=by simp[zBD]
def cutZ_at (xs:List Int) (wd hi k i:Nat) (hi64:i<64) (h:k*64+i<zT wd hi*64):(zBD xs wd hi)[k*64+i]? =some (zKU xs wd hi k i):=by
 unfold zBD;rw[wB9,wO7 h];show some (zKU xs wd hi ((k*64+i)/64) ((k*64+i)%64))=_
 rw[show (k*64+i)/64=k by omega,show (k*64+i)%64=i by omega]
def zES (Z:List Int) (m:Nat):List Int:=Z.take m++List.replicate (Z.length-m) 0
def midZ_len (Z:List Int) (m:Nat) (h:m≤Z.length):(zES Z m).length=Z.length:=by simp[zES];omega
def midZ_zero (Z:List Int):zES Z 0=List.replicate Z.length 0:=by simp[zES]
def midZ_all (Z:List Int):zES Z Z.length=Z:=by simp[zES]
def midZ_set (Z:List Int) (m:Nat) (z:Int) (h:Z[m]? =some z):(zES Z m).set m z=zES Z (m+1):=by
 obtain⟨hm,hz⟩:=wB7.1 h;unfold zES;have e:Z.length-m=(Z.length-(m+1))+1:=by omega
 have e2:Z.take (m+1)=Z.take m++[z]:=by rw[wN4,h];rfl
 rw[e2,e,wG1,wL4 _ _ (by simp;omega),wF1,show min m Z.length=m by omega,wL5,wJ9,wI7];rfl
def cut_place (wd hi r c:Nat) (h1:1≤wd) (h2:1≤hi):min r (hi-1)*wd+min c (wd-1)<wd*hi:=by
 have a:min r (hi-1)≤hi-1:=wO8 _ _;have b:min c (wd-1)≤wd-1:=wO8 _ _;have c1:min r (hi-1)*wd≤(hi-1)*wd:=wO9 _ a;obtain⟨h,rfl⟩:∃h,hi=h+1:=⟨hi-1,by omega⟩
 rw[wH8] at c1 ⊢;rw[Nat.mul_succ,wE5 wd h];omega
def zRm (xs:List Int) (v:Value) (wd hi:Nat) (w:World) (hv:SL w 1 v xs.length (ints xs)) (h0:xX wd hi=0) (a1:1≤wd) (a2:wd≤64) (b1:1≤hi) (b2:hi≤64) (h:xs.length=wd*hi) (hq:zR xs 0 255=true) :
 Calls prog 40 #[v,.int .i64 wd,.int .i64 hi] w λe w'=>∃g,e=.returned (.tuple #[.slice (some ⟨g,0,none⟩) (zT wd hi) (zT wd hi),.int .i64 0])∧Blk w' g 33 (bv (zBD xs wd hi))∧Ext w w'∧w.heap.size≤g:=by
 have HK:=zA (λW=>zAO wd hi W);rw[h0] at HK;clear h0;have HCF:=zA (λW (hs:SL W 1 v xs.length (ints xs))=>vH 89 #[] (λz=> !inB z 0 255) zKm v xs W hs (λz _=>zSG z W));simp only[zDk,hq] at HCF;have HQ:=zA hq;clear hq;have HM:=zA (λW=>zID wd hi W a1 a2 b1 b2)
 have HP:Hid (∀k j,k<64→j<64→∃r q:Nat,Hid (r=k/((wd+7)/8)*8+j/8∧q=k%((wd+7)/8)*8+j%8)∧∀W,Calls prog 91 #[.agg (jJ wd hi),.int .i64 (k:Int),.int .i64 (j:Int)] W λe w' =>
  e=.returned (.tuple #[.int .i64 ((r:Nat):Int),.int .i64 ((q:Nat):Int)])∧Ext W w'):=zA λk j hk hj=>⟨_,_,zA ⟨rfl,rfl⟩,λW=>zPL wd hi k j W a1 a2 hk hj⟩
 have hm:wd*hi≤64*64:=wO6 a2 b2;have hw1:IntKind.i64.wrap ((wd:Int)*(hi:Int))=(wd:Int)*(hi:Int):=by rw[←wB5];exact IntWalk.i64_in _ (by omega)
 have hne:((xs.length:Int) !=(wd:Int)*(hi:Int))=false:=by rw[←wB5];simp;omega
 have hbv: #[Value.int .i64 wd,Value.int .i64 hi]=jJ wd hi:=rfl;have hts:=zA (zAG wd hi);have ho:=zA (zBY wd hi);have hn64:zT wd hi≤64:=by have:(wd+7)/8*((hi+7)/8)≤8*8:=wO6 (by omega) (by omega);exact this
 have hcn:(wd+7)/8*((hi+7)/8)=zT wd hi:=rfl;rw[hcn] at HM;clear hcn;have HZL:=zA (zFl xs wd hi);have HXL:=zA h;generalize jJ wd hi=av at *;have hv':=hv;obtain⟨A,c,rfl,hc1,hc2,-,-⟩:=hv';clear h hm;generalize hn:zT wd hi=n at *;have HN:=zA hn;clear hn;go_enter func40,ntmps40
 go_wp2_with (first
  | (refine wAlo' rfl (some 8) rfl 128 rfl _ zCO ?_;intro w1 g hb1 hx1 hg)
  | (refine wStB rfl 128 (.tmp 8) (.tmp 17) rfl _ _ rfl rfl hb1 2 qC hts.out rfl ho.out ?_;intro w2 hb2 hg2;have hx2:=hx1.grown hg2 (by omega))
  | (refine wLdB rfl 128 (.tmp 8) rfl _ rfl hb2 _ underlying128 rfl 2 qC hts.out ?_)
  | (go_at_call 87;(with_reducible refine (HK.out _).mono ?_);rintro e w3 ⟨rfl,hx3⟩;have hx23:=hx2.trans hx3;have hb3:=hb2.ext hx3)
  | (go_at_call 88;(with_reducible refine (HCF.out _ (hv.ext hx23)).mono ?_);rintro e w4 ⟨rfl,rfl⟩)
  | (refine wLdB rfl 128 (.tmp 8) rfl _ rfl hb3 _ underlying128 rfl 2 qC hts.out ?_)
  | (go_at_call 90;(with_reducible refine (HM.out _).mono ?_);rintro e w5 ⟨rfl,hx5⟩;have hb5:=hb3.ext hx5;have hx35:=hx23.trans hx5)
  | (refine zBq rfl (some 36) rfl _ _ rfl n (by omega) rfl rfl ?_;intro w6 gz hbz hx6 hgz;have hb6:=hb5.ext hx6;have hx36:=hx35.trans hx6))
 have hgz0:w.heap.size≤gz:=by have:=hx35.size;omega
 have hbz0:Blk w6 gz 33 (bv (zES (zBD xs wd hi) 0)):=by rw[midZ_zero,HZL.out];exact hbz
 generalize hZ:zBD xs wd hi=Z at *;have HZ:=zA hZ;clear hZ hbz hb2 hb3 hb5 hx1 hx2 hx3 hx5 hx6 hx23 hx35 hg2
 go_loopw [39] (λi wr=>∃k:Nat,k≤n∧i=.int .i64 (k:Int)∧Blk wr gz 33 (bv (zES Z (k*64)))∧Blk wr g 128 av∧Ext w wr) (λi _=>n-(intOf i).toNat)
 case atStart=>exact⟨0,by omega,rfl,hbz0,hb6,hx36⟩
 case round =>
  clear hbz0 hb6 hx36;obtain⟨k,hk,rfl,hbo,hba,hxo⟩:=hrel
  by_cases hlt:k<n
  ·go_wp2_with fail
   go_loopw [42] (λi wr=>∃j:Nat,j≤64∧i=.int .i64 (j:Int)∧Blk wr gz 33 (bv (zES Z (k*64+j)))∧Blk wr g 128 av∧Ext w wr) (λi _=>64-(intOf i).toNat)
   case atStart=>exact⟨0,by omega,rfl,hbo,hba,hxo⟩
   case round =>
    clear hbo hba hxo;obtain⟨j,hj,rfl,hbi,hbj,hxi⟩:=hrel
    by_cases hlj:j<64
    ·obtain⟨r,q,HRQ,hcall⟩:=HP.out k j (by omega) hlj;have HCALL:=zA hcall;clear hcall
     go_wp2_with (first
      | (refine wLdB rfl 128 (.tmp 8) rfl _ rfl hbj _ underlying128 rfl 2 qC hts.out ?_)
      | (go_at_call 91;(with_reducible refine (HCALL.out _).mono ?_);rintro e w7 ⟨rfl,hx7⟩;have hbi7:=hbi.ext hx7;have hbj7:=hbj.ext hx7;have hxi7:=hxi.trans hx7))
     have hpl:=cut_place wd hi r q a1 b1;have hm1:min r (hi-1)*wd≤64*64:=wO6 (by omega) a2;obtain⟨p,hpx⟩:∃p,min r (hi-1)*wd+min q (wd-1)=p:=⟨_,rfl⟩
     have hp:p<xs.length:=by have:=HXL.out;omega
     obtain⟨ad,u,rfl,hadb,hxp,hcell⟩:=hv.at1 hp;obtain⟨hpl',rfl⟩:=zCB _ _ _ hxp;have hzb:=yJ.1 HQ.out _ (wC7 hpl')
     have hval:zKU xs wd hi k j=xs[p]-128:=by
      unfold zKU;rw[←HRQ.out.1, ←HRQ.out.2,hpx,wH7,wA2 hpl'];rfl
     generalize xs[p]=z at *;have hx7':=hxi7.drew
     have hcz:∀W,Ext w7.drew W→W.cell? (ad.add (p*1))=some (.int .i64 z):=λW hW=>by
      rw[wD8,((hx7'.trans hW).cell (p:=ad.add p) (by rw[yH];exact hadb))];exact hcell
     refine zAo qM 20 (by kernel_rfl) (by kernel_rfl) ?_;simp only[List.take,List.drop];refine zE (by rfl) (.slice (some ⟨gz,0,none⟩) n n) (zD rfl rfl) ?_;simp only[sP,sB,sC];refine zE (by rfl) (.int .i64 ((k:Nat):Int)) (zD rfl rfl) ?_;simp only[sP,sB,sC];refine zE (by rfl) (.int .i64 ((j:Nat):Int)) (zD rfl rfl) ?_;simp only[sP,sB,sC];refine zE (by rfl) (.slice (some ad) xs.length c) (zD rfl rfl) ?_;simp only[sP,sB,sC];refine zE (by rfl) (.int .i64 ((r:Nat):Int)) (zD rfl rfl) ?_;simp only[sP,sB,sC];refine zE (by rfl) (.int .i64 ((hi:Nat):Int)) (zD rfl rfl) ?_;simp only[sP,sB,sC];refine zE (by rfl) (.int .i64 ((hi-1:Nat):Int)) (xP (i:=hi) (d:=1) rfl rfl rfl (by omega) (by omega)) ?_;simp only[sP,sB,sC];refine zE (by rfl) (.int .i64 ((min r (hi-1):Nat):Int)) (zKb (i:=r) (d:=hi-1) rfl rfl rfl) ?_;simp only[sP,sB,sC];refine zE (by rfl) (.int .i64 ((wd:Nat):Int)) (zD rfl rfl) ?_;simp only[sP,sB,sC];refine zE (by rfl) (.int .i64 (((min r (hi-1))*wd:Nat):Int)) (zCc (i:=min r (hi-1)) (d:=wd) rfl rfl rfl (by omega)) ?_;simp only[sP,sB,sC];refine zE (by rfl) (.int .i64 ((q:Nat):Int)) (zD rfl rfl) ?_;simp only[sP,sB,sC];refine zE (by rfl) (.int .i64 ((wd:Nat):Int)) (zD rfl rfl) ?_;simp only[sP,sB,sC];refine zE (by rfl) (.int .i64 ((wd-1:Nat):Int)) (xP (i:=wd) (d:=1) rfl rfl rfl (by omega) (by omega)) ?_;simp only[sP,sB,sC];refine zE (by rfl) (.int .i64 ((min q (wd-1):Nat):Int)) (zKb (i:=q) (d:=wd-1) rfl rfl rfl) ?_;simp only[sP,sB,sC];refine zE (by rfl) (.int .i64 ((((min r (hi-1))*wd)+(min q (wd-1)):Nat):Int)) (yL (i:=(min r (hi-1))*wd) (d:=min q (wd-1)) rfl rfl rfl (by omega)) ?_;simp only[sP,sB,sC];rw[hpx];refine zE (by rfl) (.pointer (some (ad.add (p*1)))) (qP underlying22 jM rfl rfl rfl hp) ?_;simp only[sP,sB,sC];refine xA (by rfl) (.int .i64 z) (λW hW=>zS rfl rfl (hcz W hW)) ?_;simp only[sP,sB,sC];refine zE (by rfl) (.int .i64 (z-(((128:Nat):Int)))) (zNu (i:=z) (d:=((128:Nat):Int)) rfl rfl rfl (by omega)) ?_;simp only[sP,sB,sC];refine zE (by rfl) (.pointer (some ⟨gz,0+k*64,none⟩)) (zFs underlying25 zJ rfl rfl rfl hlt) ?_;simp only[sP,sB,sC];refine zE (by rfl) (.pointer (some ⟨gz,0+k*64+j*1,none⟩)) (zPW underlying33 jM rfl rfl rfl hlj) ?_;simp only[sP,sB,sC];refine jU ?_;intro W hW;have hbi8:=(hbi7.drew).ext hW;have hbj8:=(hbj7.drew).ext hW;have hx8:=hx7'.trans hW;have hlen:k*64+j<(bv (zES Z (k*64+j))).size:=by rw[zK,midZ_len _ _ (by rw[HZL.out];omega),HZL.out];omega
     refine zAc rfl (.tmp 71) (.tmp 69) rfl gz (0+k*64+j*1) (z-128) rfl rfl hbi8 (by rw[wB2,wD8];exact hlen) ?_;simp only[Act.put,sA,sB,sC];have hb9:=hbi8.set_ (0+k*64+j*1) (.int .i64 (z-128));rw[zAE,wB2,wD8,midZ_set Z (k*64+j) (z-128) (by rw[←HZ.out,cutZ_at xs wd hi k j hlj (by have:=HN.out;omega),hval])] at hb9;have hb10:=hbj8.far (p:=⟨gz,k*64+j,none⟩) (hbi8.ne_ hbj8 (by decide)).symm (.int .i64 (z-128));have hx9:=hx8.setCell (p:=⟨gz,k*64+j,none⟩) hgz0 (.int .i64 (z-128));rw[show 0+k*64+j*1=k*64+j by omega];generalize W.setCell ⟨gz,k*64+j,none⟩ (.int .i64 (z-128))=W9 at *;go_wp2_with fail;go_roundw
     case rel=>exact⟨j+1,by omega,by go_num,hb9,hb10,hx9⟩
     case measure=>simp[intOf];omega
    have ej:j=64:=by omega
    rw[ej];go_wp2_with fail;go_roundw
    case rel=>exact⟨k+1,by omega,by go_num,by rw[ej] at hbi;rw[show (k+1)*64=k*64+64 by omega];exact hbi,hbj,hxi⟩
    case measure=>simp[intOf];omega
  have ek:k=n:=by omega
  rw[ek] at hbo;rw[ek];go_wp2_with fail;go_ret2;refine⟨gz,rfl, ?_,hxo,hgz0⟩;rw[←HZL.out,midZ_all] at hbo;rw[HZ.out];exact hbo
def zFd:Elt prog 25 33 64 512:=⟨underlying25,by kernel_rfl,by decide⟩
def zero48':((prog.info? 33).bind (·.zero)).isSome=true:=by rw[jX];rfl
def blk_sl1 {w:World} {g:Nat} {t:TypeId} {zs:List Int} (h:Blk w g t (bv zs)) (hz:zs.length=64):SL w 64 (.slice (some ⟨g,0,none⟩) 1 1) 1 (ints zs):=by have:=h.sl (size:=64) (n:=1) (c:=1) (by rw[zK,hz]) (by omega) (by omega);simpa [bv] using this
def vT (xs:List Int) (wd hi:Int):Nat:=if zAD xs wd hi=0 then zT wd.toNat hi.toNat else 0
def zBc (xs:List Int) (wd hi:Int):List Int:=if zAD xs wd hi=0 then zBD xs wd.toNat hi.toNat else []
def cutRZ_len (xs:List Int) (wd hi:Int):(zBc xs wd hi).length=vT xs wd hi*64:=by
 unfold zBc vT;split
 ·exact zFl _ _ _
 rfl
def zKZ (xs:List Int) (wd hi:Int) (w:World) (e:Ending) (w':World):Prop :=
 ∃A c,e=.returned (.tuple #[.slice A (vT xs wd hi) c,.int .i64 (zAD xs wd hi)])∧SL w' 64 (.slice A (vT xs wd hi) c) (vT xs wd hi) (ints (zBc xs wd hi))∧Ext w w'
def zOB {xs:List Int} {wd hi:Int} {w w':World} {e:Ending} {k:Int} (hk:zAD xs wd hi=k) (h0:k≠0) (h:e=.returned (.tuple #[.slice none 0 0,.int .i64 k])∧Ext w w'):zKZ xs wd hi w e w':=by
 have hn:vT xs wd hi=0:=by unfold vT;rw[if_neg (by rw[hk];exact h0)]
 have hz:zBc xs wd hi=[]:=by unfold zBc;rw[if_neg (by rw[hk];exact h0)]
 unfold zKZ;rw[hn,hz,hk];exact⟨none,0,h.1,SL.nil _ _,h.2⟩
def zEt (xs:List Int) (wd hi:Int):(xX wd hi≠0∧zAD xs wd hi=1)∨∃a b:Nat,wd=(a:Int)∧hi=(b:Int)∧1≤a∧a≤64∧1≤b∧b≤64∧xX wd hi=0 ∧
 ((xs.length≠a*b∧zAD xs wd hi=4)∨(xs.length=a*b∧zR xs 0 255=false∧zAD xs wd hi=1)∨(xs.length=a*b∧zR xs 0 255=true∧zAD xs wd hi=0)):=by
 by_cases h:xX wd hi=0
 ·right
  obtain⟨a,b,ha,hb,h1,h2,h3,h4⟩:=zGE h;refine⟨a,b,ha,hb,h1,h2,h3,h4,h, ?_⟩;unfold zAD;rw[if_pos h];subst ha hb
  by_cases hl:xs.length=a*b
  ·rw[if_pos (by rw[hl];push_cast;rfl)]
   cases hq:zR xs 0 255 with
   | false=>exact .inr (.inl ⟨hl,rfl,by simp⟩)
   | true=>exact .inr (.inr ⟨hl,rfl,by simp⟩)
  rw[if_neg (λhe=>hl (by exact_mod_cast he))];exact .inl ⟨hl,rfl⟩
 left
 refine⟨h, ?_⟩;unfold zAD;rw[if_neg h]
def cut_any (xs:List Int) (v:Value) (wd hi:Int) (w:World) (hv:SL w 1 v xs.length (ints xs)):Calls prog 40 #[v,.int .i64 wd,.int .i64 hi] w (zKZ xs wd hi w):=by
 rcases zEt xs wd hi with ⟨h,hE⟩ | ⟨a,b,rfl,rfl,h1,h2,h3,h4,h0,⟨hl,hE⟩ | ⟨hl,hq,hE⟩ | ⟨hl,hq,hE⟩⟩
 ·exact (zPg xs v wd hi w hv h).mono λe w' h=>zOB hE (by decide) h
 ·exact (zSL xs v a b w hv h0 h2 h4 hl).mono λe w' h=>zOB hE (by decide) h
 ·exact (cut_out xs v a b w hv h0 h2 h4 hl hq).mono λe w' h=>zOB hE (by decide) h
 refine (zRm xs v a b w hv h0 h1 h2 h3 h4 hl hq).mono λe w' ⟨g,he,hb,hx,hfr⟩=> ?_
 have hn:vT xs a b=zT a b:=by unfold vT;rw[if_pos hE];rfl
 have hz:zBc xs a b=zBD xs a b:=by unfold zBc;rw[if_pos hE];rfl
 unfold zKZ;rw[hn,hz,hE];refine⟨some ⟨g,0,none⟩,_,he, ?_,hx⟩;have hc:zT a b≤8*8:=wO6 (by omega) (by omega);have:=hb.sl (size:=64) (n:=zT a b) (c:=zT a b) (by rw[zK,zFl]) (by omega) (by omega);simpa [bv] using this
def CutFr (xs:List Int) (wd hi:Int) (w:World) (e:Ending) (w':World):Prop :=
 ∃A c,e=.returned (.tuple #[.slice A (vT xs wd hi) c,.int .i64 (zAD xs wd hi)])∧SL w' 64 (.slice A (vT xs wd hi) c) (vT xs wd hi) (ints (zBc xs wd hi))∧Ext w w'∧∀ad,A=some ad→w.heap.size≤ad.block
def zLq {xs:List Int} {wd hi:Int} {w w':World} {e:Ending} {k:Int} (hk:zAD xs wd hi=k) (h0:k≠0) (h:e=.returned (.tuple #[.slice none 0 0,.int .i64 k])∧Ext w w'):CutFr xs wd hi w e w':=by
 have hn:vT xs wd hi=0:=by unfold vT;rw[if_neg (by rw[hk];exact h0)]
 have hz:zBc xs wd hi=[]:=by unfold zBc;rw[if_neg (by rw[hk];exact h0)]
 unfold CutFr;rw[hn,hz,hk];exact⟨none,0,h.1,SL.nil _ _,h.2,λ_ h=>by cases h⟩
def cut_anyF (xs:List Int) (v:Value) (wd hi:Int) (w:World) (hv:SL w 1 v xs.length (ints xs)):Calls prog 40 #[v,.int .i64 wd,.int .i64 hi] w (CutFr xs wd hi w):=by
 rcases zEt xs wd hi with ⟨h,hE⟩ | ⟨a,b,rfl,rfl,h1,h2,h3,h4,h0,⟨hl,hE⟩ | ⟨hl,hq,hE⟩ | ⟨hl,hq,hE⟩⟩
 ·exact (zPg xs v wd hi w hv h).mono λe w' h=>zLq hE (by decide) h
 ·exact (zSL xs v a b w hv h0 h2 h4 hl).mono λe w' h=>zLq hE (by decide) h
 ·exact (cut_out xs v a b w hv h0 h2 h4 hl hq).mono λe w' h=>zLq hE (by decide) h
 refine (zRm xs v a b w hv h0 h1 h2 h3 h4 hl hq).mono λe w' ⟨g,he,hb,hx,hfr⟩=> ?_
 have hn:vT xs a b=zT a b:=by unfold vT;rw[if_pos hE];rfl
 have hz:zBc xs a b=zBD xs a b:=by unfold zBc;rw[if_pos hE];rfl
 unfold CutFr;rw[hn,hz,hE];refine⟨some ⟨g,0,none⟩,_,he, ?_,hx,λad h=>by injection h with h;subst h;exact hfr⟩;have hc:zT a b≤8*8:=wO6 (by omega) (by omega);have:=hb.sl (size:=64) (n:=zT a b) (c:=zT a b) (by rw[zK,zFl]) (by omega) (by omega);simpa [bv] using this
def yX (wd hi:Int) (v:Value):Array Value:= #[.int .i64 wd,.int .i64 hi,v]
def jB (wd hi:Int) (v:Value):(yX wd hi v).size=3:=rfl
def qY:(prog.info? 31).map (·.size)=some 3:=by kernel_rfl
def zAM {w:World} {g:Nat} {T:TypeId} {wd hi:Int} {v:Value} (h:Blk w g T (yX wd hi v)):w.cell? ⟨g,0,none⟩=some (.int .i64 wd)∧w.cell? ⟨g,1,none⟩=some (.int .i64 hi)∧w.cell? ⟨g,2,none⟩=some v:=by rw[h.cell,h.cell,h.cell];exact⟨rfl,rfl,rfl⟩
def zBE:List Int→Int
 | []=>0
 | e::r=>if e=0 then zBE r else e
def zHZ:∀(l:List Int),(∀e∈l,e=0)→zBE l=0
 | [],_=>rfl
 | e::r,h=>by
   have:=h e (by simp);unfold zBE;rw[if_pos this];exact zHZ r (λx hx=>h x (by simp[hx]))
def zPr:∀(l:List Int) (k:Nat) (e:Int),(∀x∈l.take k,x=0)→l[k]? =some e→e≠0→zBE l=e
 | [],k,e,_,h,_=>by simp at h
 | x::r,0,e,_,h,h0=>by
   simp at h;subst h;unfold zBE;rw[if_neg h0]
 | x::r,k+1,e,ht,h,h0=>by
   have hx:x=0:=ht x (by simp);unfold zBE;rw[if_pos hx];exact zPr r k e (λy hy=>ht y (by simp[hy])) (by simpa using h) h0
def zDM (wd hi:Int) (L:List (List Int)):Int:=if xX wd hi=0 then (if L.length=1∨L.length=3 then zBE (L.map λl=>zAD l wd hi) else 1) else 1
def zPT {L:List (List Int)} {f:List Int→Int} {k:Nat} {l:List Int} (h:∀x∈L.take k,f x=0) (hl:L[k]? =some l) (h0:f l=0):∀x∈L.take (k+1),f x=0:=by
 intro x hx;rw[wN4,hl] at hx;rcases wD3.1 hx with h1 | h1
 ·exact h x h1
 simp at h1;subst h1;exact h0
def zPj {L:List (List Int)} {f:List Int→Int} {k:Nat} {l:List Int} {e:Int} (h:∀x∈L.take k,f x=0) (hl:L[k]? =some l) (he:f l=e) (h0:e≠0):zBE (L.map f)=e :=
 zPr _ k _ (λy hy=>by
  rw[←wO0] at hy;obtain⟨x,hx,rfl⟩:=wD2.1 hy
  exact h x hx) (by rw[wB9,hl];simp[he]) h0
