import Derived.Test.YtlmpnfhmpjldaaaGreatDoorP4
import Derived.Test.YtlmpnfhmpjldaaaGreatDoorP1
import Derived.Test.YtlmpnfhmpjldaaaGreatDoorP2
import Derived.Test.YtlmpnfhmpjldaaaGreatDoorP3
import Derived.Lib.AppendStr
set_option linter.unusedVariables false
namespace Go.Proofs.YtlmpnfhmpjldaaaGreatDoor
open Go.Vc Go.RowKit
set_option maxRecDepth 400000
open IntKind (i64)
open Lib (indexByte)
open _root_.List (length_append length_cons length_drop take_length)
open _root_.Nat (le_refl le_trans zero_le)
open _root_.Option (getD_some)
section
variable {w w':World} {B base:Nat} {s:qE} {R C0 cw ch W H:Nat} {m:qa} {P:List UInt8}
theorem q9m (h:RScn w B s R C0 cw ch) (hBw:B<=w.heap.size) (hW2:C0*cw<=16384) (hH2:R*ch<=16384) (hA:C0*cw*(R*ch)<=67108864) {K:qa->Int->Ub}
  (hK:∀m Q w',qki (4*(C0*cw*(R*ch))) Q->Q.length=4*(C0*cw*(R*ch))->MatM w' w.heap.size m (C0*cw) (R*ch) (qm8 Q (C0*cw) 0 cw 0 ch)->Uc w w'->K m 0 w'):qo5 s w K:=by
 refine q0l _ ?_;have lim:=h.lim;refine nwb λw1 h1 hB1 hs1=>nwb λw2 h2 hB2 hs2=>?_;have B2:=bT hB1 hB2;have h12:=h1.ext hB2;have z1:=hB1.size;have z2:=hB2.size;have cl:∀{wx},Blk wx w.heap.size xx (qE.rep.cells s)->wx.cell? ((⟨w.heap.size,0,none⟩:Addr).add 0)=some (Ua R)/\wx.cell? ((⟨w.heap.size,0,none⟩:Addr).add 1)=some (Ua C0)/\wx.cell? ((⟨w.heap.size,0,none⟩:Addr).add 2)=some (Ua cw)/\wx.cell? ((⟨w.heap.size,0,none⟩:Addr).add 3)=some (Ua ch):=λhx=>
  ⟨by rw [<-h.rows];exact hx.cells 0 _ rfl,by rw [<-h.cols];exact hx.cells 1 _ rfl,by rw [<-h.ecw];exact hx.cells 2 _ rfl,by rw [<-h.ech];exact hx.cells 3 _ rfl⟩
 obtain ⟨k0,k1,k2,k3⟩:=cl h12;refine jpO λJ1 hJ1=>jpO λJ14 hJ14=>?_;refine lI (x:=(R:Int)) k0 (qf6 (cF (by rw [dTq (by omega)];rfl) ?_));refine lI (x:=(C0:Int)) k1 (qf6 (cF (by rw [dTq (by omega)];rfl) ?_));refine lI (x:=(cw:Int)) k2 (qf6 (cF (by rw [dTq (by omega)];rfl) ?_));refine lI (x:=(ch:Int)) k3 (qf6 ?_);rw [dTq (by omega)];refine hJ14 _ _ (cF rfl (hJ1 _ _ ?_));refine lI (x:=(C0:Int)) k1 (lI (x:=(cw:Int)) k2 (lI (x:=(R:Int)) k0 (lI (x:=(ch:Int)) k3 ?_)));rw [(q09 (a:=C0) (b:=cw) (by omega) (by omega)).1,(q09 (a:=R) (b:=ch) (by omega) (by omega)).1];have w1':1<=C0*cw:=Nat.mul_pos (by omega) (by omega);have hh1:1<=R*ch:=Nat.mul_pos (by omega) (by omega);have emul:4*(C0*cw)*(R*ch)=4*(C0*cw*(R*ch)):=Nat.mul_assoc _ _ _;obtain ⟨W,hW⟩:∃W,W=C0*cw:=⟨_,rfl⟩;obtain ⟨H,hH⟩:∃H,H=R*ch:=⟨_,rfl⟩;rw [<-hW] at hW2 hA w1' emul hK ⊢;rw [<-hH] at hH2 hA hh1 emul hK ⊢;refine zad w1' hW2 hh1 hH2 hA λt gm w4 ht hta hgm hB4=>jd rfl λw6 h6 hB6 hs6=>cF rfl ?_;have B26:=bT hB4 hB6;have B6:=bT B2 B26;have z4:=hB4.size;have z6:=hB6.size;have htb:t.blk=some gm:=by unfold Slc.blk;rw [hta];rfl
 have gl4:=(ht.lt gm htb).2;have lm:w4.heap.size<w6.heap.size:=h6.lt;have h16:=h12.ext B26;have h26:=h2.ext B26;have hM6:MatM w6 w2.heap.size ⟨(W:Int),(H:Int),t⟩ W H (List.replicate (4*W*H) 0):=⟨rfl,rfl,ht.ext hB6,by rw [List.length_replicate],⟨w1',hW2,hh1,hH2,by rw [emul];omega⟩⟩;obtain ⟨m,hm⟩:∃m:qa,m=⟨(W:Int),(H:Int),t⟩:=⟨_,rfl⟩;have hmb:m.P.blk=some gm:=by rw [hm];exact htb
 rw [<-hm] at h6 hM6;have kb:∀{b:Nat} {ty:TypeId} {vs:List Value} {wx},Blk w6 b ty vs->b≠gm->Chg (λk=>m.P.blk=some k) w6 wx->Blk wx b ty vs:=λhb hne hc=>hb.chg hc λe=>by rw [hmb] at e;cases e;exact hne rfl
 have km:∀{wx},Chg (λk=>m.P.blk=some k) w6 wx->Blk wx w4.heap.size jv (qa.rep.cells m):=λhc=>kb h6 (by omega) hc;have ks:∀{wx},Chg (λk=>m.P.blk=some k) w6 wx->Blk wx w.heap.size xx (qE.rep.cells s):=λhc=>kb h16 (by omega) hc;have kt:∀{wx},Chg (λk=>m.P.blk=some k) w6 wx->Blk wx w1.heap.size jv [(Ua 0),(Ua 0),(.slice none 0 0)]:=λhc=>kb h26 (by omega) hc;have kS:∀{wx},Chg (λk=>m.P.blk=some k) w6 wx->RScn wx B s R C0 cw ch:=λhc=>(h.ext B6).keep hc λk hk=>by rw [hmb] at hk;cases hk;omega
 have mw:m.W=(W:Int):=by rw [hm]
 have mh:m.H=(H:Int):=by rw [hm]
 have cmW:∀{wx},Chg (λk=>m.P.blk=some k) w6 wx->wx.cell? ((⟨w4.heap.size,0,none⟩:Addr).add 0)=some (Ua W):=λhc=>by rw [<-mw];exact (km hc).cells 0 _ rfl
 have cmH:∀{wx},Chg (λk=>m.P.blk=some k) w6 wx->wx.cell? ((⟨w4.heap.size,0,none⟩:Addr).add 1)=some (Ua H):=λhc=>by rw [<-mh];exact (km hc).cells 1 _ rfl
 have xt:∀{wa wb:World},Chg (λk=>m.P.blk=some k) w6 wa->Uc wa wb->Chg (λk=>m.P.blk=some k) w6 wb:=λhc hB=>hc.trans (Chg.of_ext (S:=λk=>m.P.blk=some k) hB) λ_ _ h=>h;have tt:∀{wa wb:World},Chg (λk=>m.P.blk=some k) w6 wa->Chg (λk=>m.P.blk=some k) wa wb->Chg (λk=>m.P.blk=some k) w6 wb:=λhc hB=>hc.trans hB λ_ _ h=>h;refine lpR (λ(st:Int×Unit) w7=>∃(y:Nat) (P7:List UInt8),st.1=(y:Int)/\y<=H/\MatM w7 w2.heap.size m W H P7/\qki (4*(y*W)) P7/\Chg (λk=>m.P.blk=some k) w6 w7) (λst=>H-st.1.toNat) ⟨0,_,rfl,zero_le _,hM6,λj hj=>by omega,Chg.refl _ _⟩ ?_;rintro ⟨i,u⟩ w7 ⟨y,P7,hi,hy,hM7,hb7,hc7⟩ I2 hI2;dsimp only at hi ⊢;subst hi;refine lI (x:=(H:Int)) (cmH hc7) (cO (λe=>?_) λe=>?_)
 ·have hyn:y<H:=by have:=oTq e;omega
  refine lpR (λ(st:Int×Unit) w8=>∃(x:Nat) (P8:List UInt8),st.1=(x:Int)/\x<=W/\MatM w8 w2.heap.size m W H P8/\qki (4*(y*W+x)) P8/\Chg (λk=>m.P.blk=some k) w6 w8) (λst=>W-st.1.toNat) ⟨0,_,rfl,zero_le _,hM7,hb7,hc7⟩ ?_;rintro ⟨i2,u2⟩ w8 ⟨x,P8,hi2,hx,hM8,hb8,hc8⟩ I3 hI3;dsimp only at hi2 ⊢;subst hi2;refine lI (x:=(W:Int)) (cmW hc8) (cO (λe=>?_) λe=>?_)
  ·have hxn:x<W:=by have:=oTq e;omega
   refine jpO λJ4 hJ4=>?_;have key:∀(ba:Nat) wz,Chg (λk=>m.P.blk=some k) w6 wz->MatM wz w2.heap.size m W H P8->Blk wz ba zb (qg.rep.cells ⟨0,0,0⟩)->J4 (⟨ba,0,none⟩,()) wz:=by
    intro ba wz hcz hMz hba;refine hJ4 _ _ ?_;have hcd:=xt hcz (bdw wz);refine qy (r:=qa.rep) (x:=m) (km hcd).cells (qy (r:=qg.rep) (x:=⟨0,0,0⟩) hba.drew.cells (zbv λwa hBa=>⟨(km (xt hcd hBa)).cells,?_⟩));refine zg5 ((hMz.ext (bdw wz)).ext hBa) hxn hyn hb8 λwb Pb hMb hbb hcb=>?_;rw [qQ (x:=(x:Int)+1) (by omega)];exact hI3 _ _ ⟨x+1,Pb,by simp,hxn,hMb,by rw [show 4*(y*W+(x+1))=4*(y*W+x)+4 by omega];exact hbb,tt (xt hcd hBa) hcb⟩ (by dsimp only;omega)
   have hcd:=xt hc8 (bdw w8);have hMd:=hM8.ext (bdw w8);generalize w8.drew=w9 at hcd hMd ⊢;have cS:∀{wx},Uc w9 wx->q6 wx ⟨w.heap.size,0,none⟩ (qE.rep.cells s):=λhB=>(ks (xt hcd hB)).cells;have c2:∀{wx},Uc w9 wx->wx.cell? ((⟨w.heap.size,0,none⟩:Addr).add 2)=some (Ua cw):=λhB=>(cl (ks (xt hcd hB))).2.2.1;have c3:∀{wx},Uc w9 wx->wx.cell? ((⟨w.heap.size,0,none⟩:Addr).add 3)=some (Ua ch):=λhB=>(cl (ks (xt hcd hB))).2.2.2;have B:=Below.refl w9.heap.size w9;refine qy (r:=qE.rep) (x:=s) (cS B) (lI (x:=(ch:Int)) (c3 B) ⟨by omega,lI (x:=(cw:Int)) (c2 B) ⟨by omega,?_⟩⟩);have d1:i64.wrap ((y:Int).tdiv (ch:Int))=((y/ch:Nat):Int):=by
    rw [show (y:Int).tdiv (ch:Int)=((y/ch:Nat):Int) from rfl];have:=Nat.div_le_self y ch;generalize y/ch=q at this ⊢;exact qQ (by omega)
   have d2:i64.wrap ((x:Int).tdiv (cw:Int))=((x/cw:Nat):Int):=by
    rw [show (x:Int).tdiv (cw:Int)=((x/cw:Nat):Int) from rfl];have:=Nat.div_le_self x cw;generalize x/cw=q at this ⊢;exact qQ (by omega)
   simp only [d1,d2];have hrow:y/ch<R:=Nat.div_lt_of_lt_mul (by rw [hH] at hyn;exact Nat.lt_of_lt_of_eq hyn (Nat.mul_comm _ _));have hcol:x/cw<C0:=Nat.div_lt_of_lt_mul (by rw [hW] at hxn;exact Nat.lt_of_lt_of_eq hxn (Nat.mul_comm _ _));have fin:∀(xa ba:Nat) wz,Blk wz xa zb [(.int .u8 0),(.int .u8 0),(.int .u8 0)]->Blk wz ba zb [(.int .u8 0),(.int .u8 0),(.int .u8 0)]->xa≠ba->Uc w9 wz->w9.heap.size<=xa->w9.heap.size<=ba ->
     stK ⟨xa,0,none⟩ (qg.rep.cells ⟨229,229,229⟩) wz λwy=>stK ⟨ba,0,none⟩ (qg.rep.cells ⟨0,0,0⟩) wy λwv=>J4 (⟨ba,0,none⟩,()) wv:=by
    intro xa ba wz hxa hba ne Bz lx lb;refine jH hxa rfl λwy hxy hcy hsy=>jH (hba.chg hcy ne.symm) rfl λwv hv hcv hsv=>?_;have Bv:=b1o (b1o Bz hcy lx) hcv lb;exact key ba wv (xt hcd Bv) (hMd.ext Bv) hv
   clear hJ4 key
   repeat' first
    | exact fin _ _ _ hp hs (Nat.ne_of_lt ne) B lp le
    | exact fin _ _ _ hs hp (Nat.ne_of_gt ne) B le lp
    | refine ⟨c2 B,c3 B,cS B,?_⟩
    | (
      refine qzg (kS (xt hcd B)) hrow hcol λyw b=>?_
      try replace hs:=hs.ext b
      try replace hp:=hp.ext b
      replace B:=bT B b)
    | (
      refine zjg λyw b=>?_
      try replace hs:=hs.ext b
      try replace hp:=hp.ext b
      replace B:=bT B b)
    | (
      try have hp:=hs
      try have lp:=le
      try have ne:=hp.lt
      refine nwb λyw hs b z=>?_;have le:=B.size
      try replace hp:=hp.ext b
      replace B:=bT B b)
    | refine ⟨?_,?_⟩
  ·obtain rfl:x=W:=by have:=oFq e;omega
   rw [qQ (x:=(y:Int)+1) (by omega)];exact hI2 _ _ ⟨y+1,P8,by simp,hyn,hM8,by rw [show (y+1)*x=y*x+x from Nat.succ_mul y x];exact hb8,hc8⟩ (by dsimp only;omega)
 obtain rfl:y=H:=by have:=oFq e;omega
 have hbQ:qki (4*(W*y)) P7:=by rw [Nat.mul_comm W];exact hb7
 have hlQ:P7.length=4*(W*y):=hM7.len.trans (Nat.mul_assoc _ _ _);refine lpR (λ(st:Int×Unit) w8=>st.1=0/\w8=w7) (λ_=>0) ⟨rfl,rfl⟩ ?_;rintro ⟨i,u⟩ w8 ⟨rfl,rfl⟩ I5 hI5;refine lSl (x:=s.Places) ((ks hc7).cells 5 _ rfl) (cF (by rw [h.pl];rfl) ?_);clear hI5 hI2;refine lpR (λ(st:Int×Unit) w9=>∃r:Nat,st.1=(r:Int)/\r<=R/\Uc w8 w9) (λst=>R-st.1.toNat) ⟨0,rfl,zero_le _,Below.refl _ _⟩ ?_;rintro ⟨i,u⟩ w9 ⟨r,hi,hr,hB9⟩ I6 hI6;dsimp only at hi ⊢;subst hi;have hc9:=xt hc7 hB9;refine lI (x:=(R:Int)) (cl (ks hc9)).1 (cO (λe=>?_) λe=>?_)
 ·have hrn:r<R:=by have:=oTq e;omega
  refine lpR (λ(st:Int×Unit) wa=>∃c:Nat,st.1=(c:Int)/\c<=C0/\Uc w8 wa) (λst=>C0-st.1.toNat) ⟨0,rfl,zero_le _,hB9⟩ ?_;rintro ⟨i2,u2⟩ wa ⟨c,hi2,hc,hBa⟩ I7 hI7;dsimp only at hi2 ⊢;subst hi2;have hca:=xt hc7 hBa;refine lI (x:=(C0:Int)) (cl (ks hca)).2.1 (cO (λe=>?_) λe=>?_)
  ·have hcn:c<C0:=by have:=oTq e;omega
   refine qy (r:=qa.rep) (x:=m) (km hca).cells (qy (r:=qE.rep) (x:=s) (ks hca).cells (zac (kS hca) hrn hcn λwb hBb=>?_));rw [qQ (x:=(c:Int)+1) (by omega)];exact hI7 _ _ ⟨c+1,by simp,hcn,bT hBa hBb⟩ (by dsimp only;omega)
  ·rw [qQ (x:=(r:Int)+1) (by omega)];exact hI6 _ _ ⟨r+1,by simp,hrn,hBa⟩ (by dsimp only;omega)
 refine lpR (λ(st:Int×Unit) wa=>st.1=0/\wa=w9) (λ_=>0) ⟨rfl,rfl⟩ ?_;rintro ⟨i,u⟩ wa ⟨rfl,rfl⟩ I8 hI8;refine lSl (x:=s.Places) ((ks hc9).cells 5 _ rfl) (cF (by rw [h.pl];rfl) ?_);clear hI8 hI6;obtain ⟨q0,q1,q2⟩:=h.cur;have hMa:=hM7.ext hB9;have hs9:=ks hc9;have f9:∀{wx},Blk wx w.heap.size xx (qE.rep.cells s)->wx.cell? ((⟨w.heap.size,0,none⟩:Addr).add 9)=some (Ua 0):=λhx=>by rw [<-q1];exact hx.cells 9 _ rfl
 have f10:∀{wx},Blk wx w.heap.size xx (qE.rep.cells s)->wx.cell? ((⟨w.heap.size,0,none⟩:Addr).add 10)=some (Ua 0):=λhx=>by rw [<-q2];exact hx.cells 10 _ rfl
 refine jpO λJ9 hJ9=>jpO λJ13 hJ13=>?_;refine jw (x:=true) (by rw [<-q0];exact hs9.cells 8 _ rfl) (cF rfl (lI (x:=0) (f9 hs9) (lI (x:=(R:Int)) (cl hs9).1 ?_)));rw [qQ (x:=(R:Int)-1) (by omega)];refine qf6 (cF (by rw [dTq (by omega)];rfl) (lI (x:=0) (f10 hs9) (lI (x:=(C0:Int)) (cl hs9).2.1 ?_)));rw [qQ (x:=(C0:Int)-1) (by omega)];refine qf6 ?_;rw [dTq (by omega)];refine hJ13 _ _ (cF rfl (hJ9 _ _ ?_));clear hJ13 hJ9;have hcw:cw<=W:=by rw [hW];exact Nat.le_mul_of_pos_left _ (by omega)
 have hch:ch<=y:=by rw [hH];exact Nat.le_mul_of_pos_left _ (by omega)
 have hlim:=hM7.lim;refine lpR (λ(st:Int×Unit) wb=>∃k:Nat,st.1=(k:Int)/\k<=ch/\MatM wb w2.heap.size m W y (qm8 P7 W 0 cw 0 k)/\Chg (λk=>m.P.blk=some k) w6 wb) (λst=>ch-st.1.toNat) ⟨0,rfl,zero_le _,hMa,hc9⟩ ?_;rintro ⟨i,u⟩ wb ⟨k,hi,hk,hMb,hcb⟩ I10 hI10;dsimp only at hi ⊢;subst hi;refine lI (x:=(ch:Int)) (cl (ks hcb)).2.2.2 (cO (λe=>?_) λe=>?_)
 ·have hkn:k<ch:=by have:=oTq e;omega
  refine lpR (λ(st:Int×Unit) wc=>∃j:Nat,st.1=(j:Int)/\j<=cw/\MatM wc w2.heap.size m W y (q1e (qm8 P7 W 0 cw 0 k) W (0+k) 0 j)/\Chg (λk=>m.P.blk=some k) w6 wc) (λst=>cw-st.1.toNat) ⟨0,rfl,zero_le _,hMb,hcb⟩ ?_;rintro ⟨i2,u2⟩ wc ⟨j,hi2,hj,hMc,hcc⟩ I11 hI11;dsimp only at hi2 ⊢;subst hi2;refine lI (x:=(cw:Int)) (cl (ks hcc)).2.2.1 (cO (λe=>?_) λe=>?_)
  ·have hjn:j<cw:=by have:=oTq e;omega
   obtain ⟨o,ho⟩:∃o,o=4*((0+k)*W+(0+j)):=⟨_,rfl⟩;have hin:=qpe (W:=W) (H:=y) (x:=0+j) (y:=0+k) (by omega) (by omega);refine lI (x:=0) (f9 (ks hcc)) (lI (x:=(ch:Int)) (cl (ks hcc)).2.2.2 (lI (x:=(W:Int)) (cmW hcc) (lI (x:=0) (f10 (ks hcc)) (lI (x:=(cw:Int)) (cl (ks hcc)).2.2.1 ?_))));refine lpR (λ(st:Int×Unit) wd=>∃t:Nat,st.1=(t:Int)/\t<=3/\MatM wd w2.heap.size m W y (q5e (q1e (qm8 P7 W 0 cw 0 k) W (0+k) 0 j) o t)/\Chg (λk=>m.P.blk=some k) w6 wd) (λst=>3-st.1.toNat) ⟨0,rfl,by omega,hMc,hcc⟩ ?_;rintro ⟨i3,u3⟩ wd ⟨t,hi3,ht,hMd,hcd⟩ I12 hI12;dsimp only at hi3 ⊢;subst hi3;refine cO (λe=>?_) λe=>?_
   ·have htn:t<3:=by have:=oTq e;omega
    have hmd:=km (xt hcd (bdw wd));refine lSl (x:=m.P) (hmd.cells 2 _ rfl) (lSl (x:=m.P) (hmd.cells 2 _ rfl) ?_);have eidx:i64.wrap (i64.wrap ((4:Int)*i64.wrap (i64.wrap (i64.wrap (i64.wrap (i64.wrap ((0:Int)*(ch:Int))+(k:Int))*(W:Int))+i64.wrap ((0:Int)*(cw:Int)))+(j:Int)))+(t:Int))=((o+t:Nat):Int):=by
     rw [Int.zero_mul,Int.zero_mul,qQ (x:=0) (by omega),Int.zero_add,qQ (x:=(k:Int)) (by omega),show (k:Int)*(W:Int)=((k*W:Nat):Int) by simp,Int.add_zero];rw [Nat.zero_add,Nat.zero_add] at ho hin;generalize k*W=q at ho hin ⊢;rw [qQ (x:=((q:Nat):Int)) (by omega),qQ (x:=((q:Nat):Int)) (by omega),qQ (x:=((q:Nat):Int)+(j:Int)) (by omega),qQ (x:=(4:Int)*(((q:Nat):Int)+(j:Int))) (by omega),qQ (by omega)];omega
    rw [eidx];have hl9:=hMd.len;have ho9:=hMd.own.drew;have hot:o+t<(q5e (q1e (qm8 P7 W 0 cw 0 k) W (0+k) 0 j) o t).length:=by rw [hl9];omega
    obtain ⟨v,hv,hvs⟩:=qh9 (xs:=q5e (q1e (qm8 P7 W 0 cw 0 k) W (0+k) 0 j) o t) (k:=o+t) hot;refine ho9.rd.ix (E:=qu) (i:=((o+t:Nat):Int)) (k:=1) rfl (by omega) (by omega) λhcell=>?_;rw [hvs] at hcell;refine zk7 (b:=v) hcell ?_;refine ho9.rd.ix (E:=qu) (i:=((o+t:Nat):Int)) (k:=1) rfl (by omega) (by omega) λ_=>?_;rw [zlr];refine ho9.st0 (x:=v) hv (y:=255-v) rfl λwe ho10 hg10 hs10=>?_;rw [qQ (x:=(t:Int)+1) (by omega)];have hce:Chg (λk=>m.P.blk=some k) wd we:=(Chg.of_ext (bdw wd)).trans (Chg.of_grown (S:=λk=>m.P.blk=some k) hg10 λk hk=>hk) λ_ _ h=>h;refine hI12 _ _ ⟨t+1,by simp,by omega,⟨hMd.hw,hMd.hh,?_,by rw [Vq,<-Vq _ o t];exact hl9,hMd.lim⟩,tt hcd hce⟩ (by dsimp only;omega);show Go.Vc.Own qu we _ m.P (List.set _ (o+t) (255-List.getD _ (o+t) 0));rw [List.getD_eq_getElem?_getD,hv];exact ho10
   ·obtain rfl:t=3:=by have:=oFq e;omega
    rw [qQ (x:=(j:Int)+1) (by omega)];rw [ho] at hMd;exact hI11 _ _ ⟨j+1,by simp,hjn,hMd,hcd⟩ (by dsimp only;omega)
  ·obtain rfl:j=cw:=by have:=oFq e;omega
   rw [qQ (x:=(k:Int)+1) (by omega)];exact hI10 _ _ ⟨k+1,by simp,hkn,hMc,hcc⟩ (by dsimp only;omega)
 ·obtain rfl:k=ch:=by have:=oFq e;omega
  refine qy (r:=qa.rep) (x:=m) (km hcb).cells ?_;have h2b:=kt hcb;refine zn (r:=qa.rep) (x:=m) h2b rfl rfl λwf hcf hsf=>?_;refine hK m P7 wf hbQ hlQ ⟨hMb.hw,hMb.hh,(hMb.own.chg hcf (qF hMb.own h2b (by decide))).base (by omega),hMb.len,hMb.lim⟩ ?_;refine b1o (B6.trans (hcb.below B6.size λi hi e=>?_)) hcf (by omega);rw [hmb] at e;cases e;omega
end
section
variable {w w':World} {base g:Nat} {c:qo}
theorem YX {v lo hi:Int} {K:Bool->Ub} (hK:K (decide (lo<=v/\v<=hi)) w):Vp v lo hi w K:=by
 refine q6m _ _ _ ?_;refine cO (λe=>?_) λe=>?_
 ·have e:=oTq e;have:decide (v<=hi)=decide (lo<=v/\v<=hi):=decide_eq_decide.2 ⟨λh=>⟨by omega,h⟩,λh=>h.2⟩;rw [this];exact hK
 ·have e:=oFq e;rw [dFq (λh=>e (by omega))] at hK;exact hK
theorem qoh {c:qo} {K:Int->Ub} (h1:okC c->∀w',Uc w w'->K 0 w') (h2:¬okC c->∀w',Uc w w'->K 1 w'):qjv c w K:=by
 refine qzx _ ?_;refine nwb λw1 hb1 hB1 hs1=>?_;refine lI (x:=c.Rows) (hb1.cells 0 _ rfl) (YX (cO (λe=>h2 (λhh=>by have:=hh.1;rw [dTq this] at e;cases e) w1 hB1) λe1=>?_));refine lI (x:=c.Cols) (hb1.cells 1 _ rfl) (YX (cO (λe=>h2 (λhh=>by have:=hh.2.1;rw [dTq this] at e;cases e) w1 hB1) λe2=>?_));refine lI (x:=c.CellW) (hb1.cells 2 _ rfl) (YX (cO (λe=>h2 (λhh=>by have:=hh.2.2.1;rw [dTq this] at e;cases e) w1 hB1) λe3=>?_));refine lI (x:=c.CellH) (hb1.cells 3 _ rfl) (YX (cO (λe=>h2 (λhh=>by have:=hh.2.2.2.1;rw [dTq this] at e;cases e) w1 hB1) λe4=>?_));refine lI (x:=c.Back) (hb1.cells 4 _ rfl) (YX (cO (λe=>h2 (λhh=>by have:=hh.2.2.2.2.1;rw [dTq this] at e;cases e) w1 hB1) λe5=>?_));refine lI (x:=c.Quota) (hb1.cells 5 _ rfl) (YX (cO (λe=>h2 (λhh=>by have:=hh.2.2.2.2.2;rw [dTq this] at e;cases e) w1 hB1) λe6=>?_));have nt:∀{b:Bool},(!b)=false->b=true:=by intro b;cases b<;>simp
 exact h1 ⟨oTq (nt e1),oTq (nt e2),oTq (nt e3),oTq (nt e4),oTq (nt e5),oTq (nt e6)⟩ w1 hB1
theorem q5y (hok:okC c) {K:Option Addr->Int->Ub} (hK:∀s f0 f1 tg tq pb w',RS w' s f0 f1 tg tq pb c->Uc w w'->K (some ⟨s,0,none⟩) 0 w'):qmp c w K:=by
 refine qql _ ?_;refine nwb λw1 hc1 hB1 hs1=>?_;refine qy (r:=qo.rep) (x:=c) hc1.cells ?_;refine qoh (λ_ w2 hB2=>cF rfl ?_) λhbad=>absurd hok hbad;have hc2:=(hc1.ext hB2).drew;have B2:Uc w w2.drew:=(bT hB1 hB2).drew;have z2:=B2.size;refine lI (x:=c.Rows) (hc2.cells 0 _ rfl) ⟨?_,?_⟩
 ·refine qvp λw3 hB3=>⟨(hc2.ext hB3).cells 0 _ rfl,?_⟩;have hc3:=hc2.ext hB3;have B3:=bT B2 hB3;refine nwb λw4 hp4 hB4 hs4=>⟨(hc3.ext hB4).cells 0 _ rfl,?_⟩;have hc4:=hc3.ext hB4;have B4:=bT B3 hB4;have z3:=B3.size;have z4:=B4.size;refine nwb λw5 hb5 hB5 hs5=>?_;have hc5:=hc4.ext hB5;have B5:=bT B4 hB5;refine zlh (base:=w.heap.size) hok hc5 hb5 (hp4.ext hB5) z4 λf0 f1 tg tq w6 hR hB=>?_;exact hK _ _ _ _ _ _ _ hR (B5.trans hB)
 ·refine nwb λw3 hp3 hB3 hs3=>⟨(hc2.ext hB3).cells 0 _ rfl,?_⟩;have hc3:=hc2.ext hB3;have B3:=bT B2 hB3;refine qvp λw4 hB4=>⟨(hc3.ext hB4).cells 0 _ rfl,?_⟩;have hc4:=hc3.ext hB4;have B4:=bT B3 hB4;have z3:=B3.size;have z4:=B4.size;refine nwb λw5 hb5 hB5 hs5=>?_;have hc5:=hc4.ext hB5;have B5:=bT B4 hB5;refine zlh (base:=w.heap.size) hok hc5 hb5 ((hp3.ext hB4).ext hB5) z4 λf0 f1 tg tq w6 hR hB=>?_;exact hK _ _ _ _ _ _ _ hR (B5.trans hB)
end
def zni (q:Int) (g:Nat):List Value:=[(Ua q),(.pointer (some ⟨g,0,none⟩)),(.slice none 0 0),(.pointer none)]++List.replicate 4 (.int .u8 0)++List.replicate 18 (Ua 0)
structure RTm (w:World) (tg sg eg st pg:Nat) (f0 f1:RFoot) (tt:Nat) (tq:Slc) (pb:Nat) (c:qo):Prop where
 blk:Blk w tg quh [(Ua c.Rows),(Ua c.Cols),(Ua c.CellW),(Ua c.CellH),(Ua c.Back),(Ua c.Quota),(.pointer (some ⟨sg,0,none⟩)),(.pointer (some ⟨eg,0,none⟩)),(.pointer (some ⟨pg,0,none⟩)),(.pointer none),(.slice none 0 0),(.bool false),(.slice none 0 0)]
 rs:RS w sg f0 f1 tt tq pb c
 en:Blk w eg qnv (zni c.Quota st)
 st:Blk w st YJ [(Ua c.Quota),(Ua 0),(Ua 0),(.slice none 0 0)]
section
variable {w w':World} {tg sg eg st pg:Nat} {f0 f1:RFoot} {tt:Nat} {tq:Slc} {pb:Nat} {c:qo}
theorem RTm.ext (h:RTm w tg sg eg st pg f0 f1 tt tq pb c) (hB:Uc w w'):RTm w' tg sg eg st pg f0 f1 tt tq pb c:=⟨h.blk.ext hB,h.rs.ext hB,h.en.ext hB,h.st.ext hB⟩
theorem q93 (hbad:¬okC c) {K:Option Addr->Int->Ub} (hK:∀w',Uc w w'->K none 1 w'):qmp c w K:=by
 refine qql _ ?_;refine nwb λw1 hc1 hB1 hs1=>qy (r:=qo.rep) (x:=c) hc1.cells ?_;exact qoh (λh=>absurd h hbad) λ_ w2 hB2=>cT rfl (hK _ (bT hB1 hB2))
theorem zbr (hbad:¬okC c) {K:Option Addr->Int->Ub} (hK:∀w',Uc w w'->K none 1 w'):qmq c w K:=by
 refine qsn _ ?_;refine nwb λw1 hc1 hB1 hs1=>qy (r:=qo.rep) (x:=c) hc1.cells ?_;exact q93 hbad λw2 hB2=>cT rfl (hK _ (bT hB1 hB2))
theorem q8m (hok:okC c) {K:Option Addr->Int->Ub} (hK:∀tg sg eg st pg f0 f1 tt tq pb w',RTm w' tg sg eg st pg f0 f1 tt tq pb c->Uc w w'->K (some ⟨tg,0,none⟩) 0 w'):qmq c w K:=by
 refine qsn _ ?_;refine nwb λw1 hc1 hB1 hs1=>qy (r:=qo.rep) (x:=c) hc1.cells ?_;refine q5y hok λs f0 f1 tt tq pb w2 hR hB2=>cF rfl (lI (x:=c.Quota) ((hc1.ext hB2).cells 5 _ rfl) ?_);have B2:=bT hB1 hB2;obtain ⟨o1,o2,o3,o4,o5,o6⟩:=hok;refine q37 _ ?_;refine q34 _ ?_;refine jpO λJ1 hJ1=>cF (dFq (by omega)) (cF (dFq (by omega)) (hJ1 _ _ ?_));refine nwb λw3 h3 hB3 hs3=>cF rfl (nwb λw4 h4 hB4 hs4=>?_);have B24:=bT hB3 hB4;refine qy (r:=qo.rep) (x:=c) ((hc1.ext hB2).ext B24).cells (nwb λw5 h5 hB5 hs5=>nwb λw6 h6 hB6 hs6=>?_);have B46:=bT hB5 hB6;exact hK _ _ _ _ _ _ _ _ _ _ w6 ⟨h6,(hR.ext B24).ext B46,h4.ext B46,(h3.ext hB4).ext B46⟩ (bT B2 (bT B24 B46))
theorem qvf {a:Addr} (hc:∀{wx},Uc w wx->wx.cell? (a.add 0)=some (.slice none 0 0)) {v:qD} {K:Slc->Ub} (hK:∀w',Uc w w'->K ⟨none,0,0⟩ w'):yF (some a) v w K:=by
 refine qls _ _ ?_;refine nwb λw1 h1 hB1 hs1=>?_;refine lpR (λ(st:Slc×Int×Unit) w2=>st=(⟨none,0,0⟩,0,())/\w2=w1) (λ_=>0) ⟨rfl,rfl⟩ ?_;rintro _ w2 ⟨rfl,rfl⟩ I hI;exact qw (lSl (x:=⟨none,0,0⟩) (hc hB1) (cF rfl (hK w2 hB1)))
theorem zcu (h:RS w sg f0 f1 tt tq pb c) (hok:okC c):w.cell? ((⟨f0.g,0,none⟩:Addr).add 0)=some (Ua c.Rows)/\w.cell? ((⟨f0.g,0,none⟩:Addr).add 1)=some (Ua c.Cols)/\w.cell? ((⟨f0.g,0,none⟩:Addr).add 3)=some (.slice f0.ls.a f0.ls.n f0.ls.c)/\w.cell? ((⟨f0.g,0,none⟩:Addr).add 5)=some (Ua 0):=by
 obtain ⟨o1,o2,o3,o4,o5,o6⟩:=hok;obtain ⟨b,r⟩:=h.g0;have e1:((c.Rows.toNat:Nat):Int)=c.Rows:=by omega
 have e2:((c.Cols.toNat:Nat):Int)=c.Cols:=by omega
 exact ⟨by rw [<-e1];exact r.blk.cells 0 _ rfl,by rw [<-e2];exact r.blk.cells 1 _ rfl,r.blk.cells 3 _ rfl,r.blk.cells 5 _ rfl⟩
theorem za4 (h:RTm w tg sg eg st pg f0 f1 tt tq pb c) (hok:okC c) {K:vf->Ub} (hK:∀w',Uc w w'->K ⟨⟨false,0,c.Rows,c.Cols,0,0⟩,c.CellW,c.CellH⟩ w'):VI (some ⟨tg,0,none⟩) w K:=by
 refine qqh _ ?_;refine nwb λw1 h1 hB1 hs1=>?_;have hd:=(h.ext hB1).ext (bdw w1);have hdd:=hd.ext (bdw w1.drew);obtain ⟨g0,g1,g3,g5⟩:=zcu hdd.rs hok;simp only [onPtr_some];refine qK (x:=some ⟨sg,0,none⟩) (hd.blk.cells 6 _ rfl) (qK (x:=some ⟨sg,0,none⟩) (hd.blk.cells 6 _ rfl) ?_);simp only [onPtr_some];refine lI (x:=0) (hd.rs.blk.cells 2 _ rfl) ⟨⟨by decide,by decide⟩,qK (x:=some ⟨f0.g,0,none⟩) (hd.rs.blk.cell 0 rfl) (qK (x:=some ⟨sg,0,none⟩) (hdd.blk.cells 6 _ rfl) ?_)⟩;simp only [onPtr_some];refine lI (x:=0) (hdd.rs.blk.cells 2 _ rfl) (lI (x:=0) g5 (lI (x:=c.Rows) g0 (lI (x:=c.Cols) g1 (qK (x:=some ⟨sg,0,none⟩) (hdd.blk.cells 6 _ rfl) ?_))));simp only [onPtr_some];refine lI (x:=0) (hdd.rs.blk.cells 3 _ rfl) (qK (x:=some ⟨sg,0,none⟩) (hdd.blk.cells 6 _ rfl) ?_);simp only [onPtr_some];refine lI (x:=0) (by rw [zR];exact hdd.rs.blk.cells 4 _ rfl) (lI (x:=c.CellW) (hdd.blk.cells 2 _ rfl) (lI (x:=c.CellH) (hdd.blk.cells 3 _ rfl) ?_));refine zn (r:=vf.rep) (x:=⟨⟨false,0,c.Rows,c.Cols,0,0⟩,c.CellW,c.CellH⟩) h1.drew.drew rfl rfl λw2 hc2 hs2=>hK w2 ?_;exact b1o (bT (bT hB1 (bdw w1)) (bdw w1.drew)) hc2 (le_refl _)
theorem q7o (h:RTm w tg sg eg st pg f0 f1 tt tq pb c) (hok:okC c) {R C0 cw ch:Nat} (hR:c.Rows=R) (hC:c.Cols=C0) (hcw:c.CellW=cw) (hch:c.CellH=ch) {K:qE->Ub} (hK:∀s w',RScn w' w'.heap.size s R C0 cw ch->Uc w w'->K s w'):Kk (some ⟨tg,0,none⟩) w K:=by
 refine qm4 _ ?_;refine nwb λw1 h1 hB1 hs1=>?_;have h1d:=h.ext (bT hB1 (bdw w1));refine qw (qK (x:=some ⟨sg,0,none⟩) (h1d.blk.cells 6 _ rfl) (qw (qK (x:=some ⟨sg,0,none⟩) (h1d.blk.cells 6 _ rfl) (qw (lI (x:=0) (h1d.rs.blk.cells 2 _ rfl) (qw ⟨⟨by decide,by decide⟩,qK (x:=some ⟨f0.g,0,none⟩) (h1d.rs.blk.cell 0 rfl) ?_⟩))))));refine za4 h1d hok λw2 hB2=>jd rfl λw4 h4 hB4 hs4=>?_;have B4:=bT (bT (bT hB1 (bdw w1)) (bT hB2 hB4)) (bdw w4);have z1:=hB1.size;have z2:=hB2.size;have e1:w1.drew.heap.size=w1.heap.size:=rfl;have T0:=h.ext B4;have h14:=(((h1.drew.ext hB2).ext hB4)).drew;have h4d:=h4.drew;have l1:=h14.lt;generalize w4.drew=w0 at B4 T0 h14 h4d l1 ⊢;have T:∀{wx},Uc w0 wx->RTm wx tg sg eg st pg f0 f1 tt tq pb c:=λhB=>T0.ext hB;have G:∀{wx},Uc w0 wx->_:=λ{wx} (hB:Uc w0 wx)=>zcu (T hB).rs hok;have a36:∀{wx},Uc w0 wx->wx.cell? (((⟨tg,0,none⟩:Addr).add 0).add 2)=some (Ua c.CellW):=λhB=>by rw [zR];exact (T hB).blk.cells 2 _ rfl
 have a41:∀{wx},Uc w0 wx->wx.cell? (((⟨tg,0,none⟩:Addr).add 0).add 3)=some (Ua c.CellH):=λhB=>by rw [zR];exact (T hB).blk.cells 3 _ rfl
 have a49:∀{wx},Uc w0 wx->wx.cell? ((⟨tg,0,none⟩:Addr).add 7)=some (.pointer (some ⟨eg,0,none⟩)):=λhB=>(T hB).blk.cells 7 _ rfl;have a62:∀{wx},Uc w0 wx->wx.cell? ((⟨tg,0,none⟩:Addr).add 6)=some (.pointer (some ⟨sg,0,none⟩)):=λhB=>(T hB).blk.cells 6 _ rfl;have a66:∀{wx},Uc w0 wx->wx.cell? (((⟨sg,0,none⟩:Addr).add 3).add 0)=some (Ua 0):=λhB=>by rw [zR];exact (T hB).rs.blk.cells 3 _ rfl
 have a74:∀{wx},Uc w0 wx->wx.cell? (((⟨sg,0,none⟩:Addr).add 3).add 1)=some (Ua 0):=λhB=>by rw [zR];exact (T hB).rs.blk.cells 4 _ rfl
 have a53:∀{wx},Uc w0 wx->q6 wx ((⟨w2.heap.size,0,none⟩:Addr).add 0) (qD.rep.cells ⟨false,0,c.Rows,c.Cols,0,0⟩):=λhB=>(h4d.ext hB).sub 0 _ rfl;have o2:∀{wx wy},Uc w0 wx->Uc wx wy->wy.cell? (((⟨eg,0,none⟩:Addr).add 2).add 0)=some (.slice none 0 0):=λhB hB'=>by rw [zR];exact (T (bT hB hB')).en.cells 2 _ rfl
 have B:=Below.refl w0.heap.size w0;refine qw (lI (x:=c.Rows) (G B).1 (qw (lI (x:=c.Cols) (G B).2.1 (qw (lI (x:=c.CellW) (a36 B) (qw (lI (x:=c.CellH) (a41 B) (qw (lSl (x:=f0.ls) (G B).2.2.1 (qw (qK (x:=some ⟨eg,0,none⟩) (a49 B) (qw (qy (r:=qD.rep) (x:=⟨false,0,c.Rows,c.Cols,0,0⟩) (a53 B) ?_)))))))))))));refine qw (lI (x:=0) (G B).2.2.2 (qw (qK (x:=some ⟨sg,0,none⟩) (a62 B) (qw (lI (x:=0) (a66 B) (qw (qK (x:=some ⟨sg,0,none⟩) (a62 B) (qw (lI (x:=0) (a74 B) ?_)))))))));refine ⟨?_,?_⟩
 all_goals first
  | (
    refine qvf (o2 B) λw5 b5=>⟨a74 b5,a62 b5,a66 b5,a62 b5,(G b5).2.2.2,(G b5).2.2.1,a41 b5,a36 b5,(G b5).2.1,(G b5).1,nwb λw6 h6 b6 z6=>?_⟩;have hs:=h6;have le:=b5.size;have b:=bT b5 b6;refine ⟨a74 b,a62 b,a66 b,a62 b,(G b).2.2.2,a53 b,a49 b,(G b).2.2.1,a41 b,a36 b,(G b).2.1,(G b).1,?_⟩)
  | (
    refine nwb λw6 h6 b6 z6=>⟨a74 b6,a62 b6,a66 b6,a62 b6,(G b6).2.2.2,a53 b6,a49 b6,(G b6).2.2.1,a41 b6,a36 b6,(G b6).2.1,(G b6).1,qvf (o2 b6) λw5 b5=>?_⟩;have hs:=h6.ext b5;have le:=le_refl w0.heap.size;have b:=bT b6 b5;refine ⟨a74 b,a62 b,a66 b,a62 b,(G b).2.2.2,(G b).2.2.1,a41 b,a36 b,(G b).2.1,(G b).1,?_⟩)
 all_goals
  refine jH hs rfl λwy hy cy sy=>?_;have by_:=b1o b cy le;refine qw (qK (x:=some ⟨sg,0,none⟩) (a62 by_) (qp8 (T by_).rs ?_));rw [show (rmP 25 true).1=true by decide,qH];refine qB hy (by show 0+8+1<=11;omega) λwz hz gz sz=>?_;have bz:=b1o by_ (Chg.gg gz) le;refine lpR (λ(st:Int×Unit) wa=>st.1=0/\wa=wz) (λ_=>0) ⟨rfl,rfl⟩ ?_;rintro ⟨i,u⟩ wa ⟨rfl,rfl⟩ I hI;refine qw (qK (x:=some ⟨eg,0,none⟩) (a49 bz) (qw (qK (x:=some ⟨st,0,none⟩) ((T bz).en.cells 1 _ rfl) (qw (lSl (x:=⟨none,0,0⟩) ((T bz).st.cells 3 _ rfl) (cF rfl ?_))))));refine qy (r:=qE.rep) (x:=⟨c.Rows,c.Cols,c.CellW,c.CellH,f0.ls,⟨none,0,0⟩,⟨none,0,0⟩,0,true,0,0⟩) hz.cells ?_;refine zn (r:=qE.rep) (x:=⟨c.Rows,c.Cols,c.CellW,c.CellH,f0.ls,⟨none,0,0⟩,⟨none,0,0⟩,0,true,0,0⟩) (h14.ext bz) rfl rfl λwf cf sf=>?_;have bf:=b1o (bT B4 bz) cf (le_refl _);refine hK _ wf ⟨hR,hC,hcw,hch,rfl,⟨rfl,rfl,rfl⟩,?_,?_,?_⟩ bf
  ·obtain ⟨o1,o2,o3,o4,o5,o6⟩:=hok;omega
  ·obtain ⟨b0,r⟩:=(h.ext bf).rs.g0;obtain ⟨ls,ho,hl⟩:=r.row;have hL:(gs0 c.Rows.toNat c.Cols.toNat c.Back.toNat).L=List.replicate R (List.replicate C0 vj):=by
    obtain ⟨o1,o2,o3,o4,o5,o6⟩:=hok;show List.replicate c.Rows.toNat (y1 c.Cols.toNat ⟨0,0,0⟩)=_;rw [hR,hC];unfold y1;rw [if_neg (by omega)];rfl
   rw [hL] at hl;refine ⟨ls,ho.rd,by rw [hl.1,List.length_replicate],λi q hq=>?_⟩;have hi:i<R:=by have:=(List.getElem?_eq_some_iff.1 hq).1;rw [hl.1,List.length_replicate] at this;exact this
   have:=hl.2 i q (List.replicate C0 vj) hq (by rw [List.getElem?_replicate,if_pos hi]);exact ⟨this.rd,λa ha=>(this.lt a.block (slk.2 ⟨a,ha,rfl⟩)).2⟩
  ·obtain ⟨b0,r⟩:=(h.ext bf).rs.g0;obtain ⟨ls,ho,hl⟩:=r.row;exact λa ha=>(ho.lt a.block (slk.2 ⟨a,ha,rfl⟩)).2
theorem qwf (h:RTm w tg sg eg st pg f0 f1 tt tq pb c) (hok:okC c) {R C0 cw ch:Nat} (hR:c.Rows=R) (hC:c.Cols=C0) (hcw:c.CellW=cw) (hch:c.CellH=ch) (hW2:C0*cw<=16384) (hH2:R*ch<=16384) (hA:C0*cw*(R*ch)<=67108864) {K:qa->Int->Ub}
  (hK:∀m Q w',qki (4*(C0*cw*(R*ch))) Q->Q.length=4*(C0*cw*(R*ch))->MatM w' w.heap.size m (C0*cw) (R*ch) (qm8 Q (C0*cw) 0 cw 0 ch)->Uc w w'->K m 0 w'):yS (some ⟨tg,0,none⟩) w K:=by
 refine qfv _ ?_;refine nwb λw1 h1 hB1 hs1=>q7o (h.ext hB1) hok hR hC hcw hch λs w2 hS hB2=>?_;refine q9m hS (le_refl _) hW2 hH2 hA λm Q w3 hb hl hM hB3=>?_;have h13:=(h1.ext hB2).ext hB3;have z1:=h1.lt;have z2:=hB2.size;refine zn (r:=qa.rep) (x:=m) h13 rfl rfl λw4 hc4 hs4=>hK m Q w4 hb hl ⟨hM.hw,hM.hh,(hM.own.chg hc4 (qF hM.own h13 (by decide))).base (by omega),hM.len,hM.lim⟩ (b1o (bT (bT hB1 hB2) hB3) hc4 (le_refl _))
end
section
variable {σ:Type} {H:Hnd σ} {w w':World} {base:Nat} {F F':PF} {p p':PS} {fv:Value} {S S':Nat->Prop} {s s':σ} {c:Int}
theorem JX {K:Bool->Ub} (hK:K (qzo c) w):xG c w K:=by
 refine qkx _ ?_;unfold qzo at hK;refine cO (λe=>?_) λe=>?_
 ·rw [e,Bool.true_and] at hK;refine cO (λe2=>?_) λe2=>?_
  ·rw [e2,Bool.true_and] at hK;refine cO (λe3=>?_) λe3=>?_
   ·rw [e3,Bool.true_and] at hK;exact hK
   ·rw [e3,Bool.false_and] at hK;exact hK
  ·rw [e2,Bool.false_and] at hK;exact hK
 ·rw [e,Bool.false_and] at hK;exact hK
theorem PH.chars (hH:HndOk H base fv) (h:PH H w base F p fv S s) {r lo hi:Int} (hb:Blk w' F.cg qak [.int .i32 r,.int .i64 0,.int .u8 lo,.int .u8 hi]) (hc:Chg (λk=>k=F.cg) w w'):PhT H base w F S F S p fv s w':=by
 have hp:=h.par;obtain ⟨r0,l0,h0,hch⟩:=hp.ch;refine h.own hH ⟨hp.blk.chg hc (λe=>hp.ne_pg F.cg (.inl rfl) e.symm),⟨r,lo,hi,hb⟩,hp.hg,hp.qi.chg hc (qF hp.qi hch (by decide)),hp.qp.chg hc (qF hp.qp hch (by decide)),hp.qd.chg hc (qF hp.qd hch (by decide)),hp.ne,hp.ok⟩ (hc.mono λk _ e=>.inr (.inl e)) (λk hk=>.inl hk) rfl
theorem PH.ldCh (h:PH H w base F p fv S s) {K:Option Addr->Prop} (hK:K (some ⟨F.cg,0,none⟩)):ldP ((⟨F.pg,0,none⟩:Addr).add 2) w K:=qK (x:=some ⟨F.cg,0,none⟩) (h.par.blk.cells 2 _ rfl) hK
theorem qp0 (hH:HndOk H base fv) (h:PH H w base F p fv S s) {K:Slc->Ub} (hK:∀w',PhT H base w F S F S p fv s w'->K ⟨none,0,0⟩ w'):kU (some ⟨F.cg,0,none⟩) w K:=by
 refine qj1 _ ?_;obtain ⟨r0,l0,h0,hch⟩:=h.par.ch;refine qgy _ ?_;simp only [onPtr_some];refine lI (x:=0) (hch.cells 1 _ rfl) ?_;refine qB hch (by show 0+4<=4;omega) λw1 hb hg hs=>cF rfl (hK w1 ?_);exact h.chars hH (r:=0) (lo:=0) (hi:=0) hb (Go.Vc.Chg.gg hg)
theorem q9p (hH:HndOk H base fv) (h:PH H w base F p fv S s) (hc:0<=c/\c<128) {K:Slc->Ub} (hK:∀q w',Rd q5f w' q [c]->(∀a,q.a=some a->¬S a.block/\¬JM F a.block/\a.block<w'.heap.size)->PhT H base w F S F S p fv s w'->K q w'):JV (some ⟨F.cg,0,none⟩) c w K:=by
 refine qma _ _ ?_;obtain ⟨r0,l0,h0,hch⟩:=h.par.ch;simp only [onPtr_some];refine lI (x:=0) (hch.cells 1 _ rfl) (cT rfl ?_);refine qgu _ _ ?_;simp only [onPtr_some];refine qB hch (by show 0+4<=4;omega) λw1 hb hg hs=>?_;have h1:=h.chars hH (r:=0) (lo:=128) (hi:=191) hb (Go.Vc.Chg.gg hg);refine jpO λJ1 hJ1=>cT (dTq hc.2) ?_;refine nwb λw2 hb2 hB2 hs2=>?_;have e:IntKind.i32.wrap c=c:=by
  obtain ⟨m,hm⟩:∃m:Nat,c=m:=⟨c.toNat,by omega⟩;rw [hm];exact xk .i32 (by show _<2^31;omega)
 rw [e] at hb2;refine hK _ w2 (Ze (E:=q5f) hb2 rfl) (λa ha=>?_) (h1.trans (h1.m.ext hH hB2));cases ha;exact ⟨λhs=>by have:=(hH.lt h1.m.m _ hs).2;exact Nat.lt_irrefl _ this,λhs=>by have:=(h1.m.par.below _ hs).2;exact Nat.lt_irrefl _ this,hb2.lt⟩
theorem qpr {K:Ub} (hK:K w):jj (some ⟨F.pg,0,none⟩) ⟨none,0,0⟩ w K:=by
 refine Jh _ _ ?_;refine lpR (λ(st:Int×Unit) w2=>st.1=0/\w2=w) (λ_=>0) ⟨rfl,rfl⟩ ?_;rintro ⟨i,u⟩ w2 ⟨rfl,rfl⟩ I hI;exact cF rfl hK
theorem zge (hH:HndOk H base fv) (h:PH H w base F p fv S s) {q:Slc} (hq:Rd q5f w q [c]) (hok:H.ok s (qv9 c)) {K:Ub} (hK:∀S' s' w',PhT H base w F S F S' p fv s' w'->H.R s (qv9 c) s'->K w'):jj (some ⟨F.pg,0,none⟩) q w K:=by
 refine Jh _ _ ?_;simp only [onPtr_some];have hn:q.n=1:=hq.n;refine lpR (λ(st:Int×Unit) w2=>(st.1=0/\w2=w)\/(st.1=1/\∃S' s',PhT H base w F S F S' p fv s' w2/\H.R s (qv9 c) s')) (λst=>1-st.1.toNat) (.inl ⟨rfl,rfl⟩) ?_;rintro ⟨i,u⟩ w2 (⟨rfl,rfl⟩ | ⟨rfl,S2,s2,h2,hr2⟩) I hI
 ·refine cT (by rw [hn];rfl) ?_;refine hq.ix (i:=0) rfl (by decide) (by simp) λhc=>lI (x:=c) (by simpa using hc 0 _ rfl) ?_;refine qqn hH h 1 c 0 (by omega) hok λS' s' w' hT hr=>hI _ _ (.inr ⟨by show i64.wrap (0+1)=1;decide,S',s',hT,hr⟩) (by show 1-(i64.wrap (0+1)).toNat<1-(0:Int).toNat;decide)
 ·exact cF (by rw [hn];rfl) (hK S2 s2 w2 h2 hr2)
theorem zio (h:PsOk p) (x:Int):PsOk (p.begin_ x):=⟨zero_le _,zero_le _,h.dl,⟨Int.le_refl 0,by show (0:Int)<=65535;omega⟩,⟨Int.le_refl 0,by show (0:Int)<=255;omega⟩,λy hy=>by cases hy⟩
theorem YG (hH:HndOk H base fv) (h:PH H w base F p fv S s) (x:Int) {K:Ub} (hK:∀F' w',PhT H base w F S F' S (p.begin_ x) fv s w'->K w'):jN (some ⟨F.pg,0,none⟩) x w K:=by
 refine qeo _ _ ?_;simp only [onPtr_some];have ok:=h.par.ok;have z5:(0:Int)<=0/\(0:Int)<=65535:=by omega
 have z2:(0:Int)<=0/\(0:Int)<=255:=by omega
 refine h.st hH (i:=0) { p with st:=x } (by decide) rfl rfl rfl rfl ⟨ok.il,ok.pl,ok.dl,ok.la,ok.pv,ok.pr⟩ λw1 h1=>?_;refine h1.m.st hH (i:=3) { p with st:=x,priv:=0 } (by decide) rfl rfl rfl rfl ⟨ok.il,ok.pl,ok.dl,ok.la,z2,ok.pr⟩ λw2 h2=>?_;refine h2.m.st hH (i:=5) { p with st:=x,priv:=0,wrong:=false } (by decide) rfl rfl rfl rfl ⟨ok.il,ok.pl,ok.dl,ok.la,z2,ok.pr⟩ λw3 h3=>?_;refine h3.m.st hH (i:=6) { p with st:=x,priv:=0,wrong:=false,first:=true } (by decide) rfl rfl rfl rfl ⟨ok.il,ok.pl,ok.dl,ok.la,z2,ok.pr⟩ λw4 h4=>?_;refine h4.m.st hH (i:=8) { p with st:=x,priv:=0,wrong:=false,first:=true,some_:=false } (by decide) rfl rfl rfl rfl ⟨ok.il,ok.pl,ok.dl,ok.la,z2,ok.pr⟩ λw5 h5=>?_;refine h5.m.st hH (i:=9) { p with st:=x,priv:=0,wrong:=false,first:=true,some_:=false,last:=0 } (by decide) rfl rfl rfl rfl ⟨ok.il,ok.pl,ok.dl,z5,z2,ok.pr⟩ λw6 h6=>?_;have h06:=((((h1.trans h2).trans h3).trans h4).trans h5).trans h6;have h07:=h06.trans (h06.m.drew hH);generalize w6.drew=w7 at h07 ⊢;have hp:=h07.m.par;refine lSl (x:=F.qi) (hp.blk.cells 4 _ rfl) ?_;refine hp.qi.rd.slK (l:=0) (m:=0) rfl (.inl ⟨rfl,rfl⟩) (.inr rfl) (le_refl _) (zero_le _) λ_=>?_;refine lSl (x:=F.qp) (hp.blk.cells 7 _ rfl) ?_;refine hp.qp.rd.slK (l:=0) (m:=0) rfl (.inl ⟨rfl,rfl⟩) (.inr rfl) (le_refl _) (zero_le _) λ_=>?_;obtain ⟨q1,e1,o1,b1⟩:=qx5 hp.qi;obtain ⟨q2,e2,o2,b2⟩:=qx5 hp.qp;rw [e1,e2];rw [qH];refine qB hp.blk (by show 0+4+1<=12;omega) λw8 hb8 hg8 hs8=>?_;rw [qH];refine qB hb8 (by show 0+7+1<=(putL _ _ _).length;rw [KT];show 8<=12;omega) λw9 hb9 hg9 hs9=>?_;refine hK { F with qi:=q1,qp:=q2 } w9 (h07.trans (h07.m.put hH hb9 ((Go.Vc.Chg.gg hg8).trans (Go.Vc.Chg.gg hg9) λi _ hi=>hi) rfl rfl o1 o2 hp.qd b1 b2 (λ_ h=>h) (zio ok x)))
theorem qhl (hH:HndOk H base fv) (h:PH H w base F p fv S s) {b:Int} (hb:0<=b/\b<=255) (hok:jy H s (p.close b)) {K:Ub} (hK:∀S' s' w',PhT H base w F S F S' p fv s' w'->Jw H s (p.close b) s'->K w'):x5 (some ⟨F.pg,0,none⟩) b w K:=by
 refine qfz _ _ ?_;simp only [onPtr_some];unfold PS.close at hok hK;refine lI (x:=p.st) (h.par.blk.cells 0 _ rfl) ?_;refine cO (λe=>?_) λe=>?_
 ·have e:p.st=5:=eq_of_beq e;rw [if_pos e] at hok hK;exact qqn hH h 8 0 b hb hok.1 λS' s' w' hT hr=>hK S' s' w' hT ⟨s',hr,rfl⟩
 have e:¬p.st=5:=beq_eq_false_iff_ne.1 e;rw [if_neg e] at hok hK;refine cO (λe=>?_) λe=>?_
 ·have e:p.st=6:=eq_of_beq e;rw [if_pos e] at hok hK;exact qqn hH h 11 0 b hb hok.1 λS' s' w' hT hr=>hK S' s' w' hT ⟨s',hr,rfl⟩
 have e:¬p.st=6:=beq_eq_false_iff_ne.1 e;rw [if_neg e] at hok hK;exact hK S s w (PhT.refl h) rfl
theorem q8e (hH:HndOk H base fv) (h:PH H w base F p fv S s) (hc:0<=c/\c<128) (hok:jy H s (p.ground c).2) {K:Ub} (hK:∀S' s' w',PhT H base w F S F S' p fv s' w'->Jw H s (p.ground c).2 s'->K w'):vz (some ⟨F.pg,0,none⟩) c w K:=by
 refine qbc _ _ ?_;simp only [onPtr_some];unfold PS.ground at hok hK;dsimp only at hok hK;refine JX (cO (λe=>?_) λe=>?_)
 ·rw [if_pos e] at hok hK;refine h.ldCh (qp0 hH h λw2 h2=>qpr ?_);exact qqn hH h2.m 2 0 c (by omega) hok.1 λS' s' w' hT hr=>hK S' s' w' (h2.trans hT) ⟨s',hr,rfl⟩
 rw [if_neg (by rw [e];decide)] at hok hK;refine cO (λe2=>?_) λe2=>?_
 ·have e2:c=127:=eq_of_beq e2;rw [if_pos e2] at hok hK;exact h.ldCh (qp0 hH h λw2 h2=>qpr (hK S s w2 h2 rfl))
 ·have e2:¬c=127:=beq_eq_false_iff_ne.1 e2;rw [if_neg e2] at hok hK;refine h.ldCh (q9p hH h hc λq w2 hq hqn h2=>?_);exact zge hH h2.m hq hok.1 λS' s' w' hT hr=>hK S' s' w' (h2.trans hT) ⟨s',hr,rfl⟩
theorem zle {c:Int} (hc:0<=c/\c<256):c=((UInt8.ofNat c.toNat).toNat:Int):=by
 have:(UInt8.ofNat c.toNat).toNat=c.toNat:=by
  rw [UInt8.toNat_ofNat'];omega
 rw [this];omega
theorem que (hH:HndOk H base fv) (h:PH H w base F p fv S s) (hc:0<=c/\c<128) {K:Ub} (hK:∀F' w',PhT H base w F S F' S (p.keep c) fv s w'->K w'):vq (some ⟨F.pg,0,none⟩) c w K:=by
 refine qh7 _ _ ?_;simp only [onPtr_some];have ok:=h.par.ok;have hp:=h.par;unfold PS.keep at hK;refine lSl (x:=F.qi) (hp.blk.cells 4 _ rfl) ?_;have hn:F.qi.n=p.inter.length:=hp.qi.rd.n;rw [hn];refine cO (λe=>?_) λe=>?_
 ·have e:p.inter.length=2:=by have:=eq_of_beq e;omega
  rw [if_pos e] at hK;exact h.st hH (i:=5) { p with wrong:=true } (by decide) rfl rfl rfl rfl ⟨ok.il,ok.pl,ok.dl,ok.la,ok.pv,ok.pr⟩ λw1 h1=>hK F w1 h1
 ·have e:¬p.inter.length=2:=λh2=>by rw [h2] at e;exact absurd e (by decide)
  rw [if_neg e] at hK;refine lSl (x:=F.qi) (hp.blk.cells 4 _ rfl) ?_;refine zm3 (c:=UInt8.ofNat c.toNat) (zle (by omega)) hp.qi h.base_le (by have:=ok.il;omega) λq w2 ho hc2 hq=>?_;have hni:=hp.ne_pg;have hb2:=hp.blk.chg hc2 λe=>hni _ (.inr (.inl e)) rfl;rw [qH];refine qB hb2 (by show 0+4+1<=12;omega) λw3 hb3 hg3 hs3=>?_;have z2:=hc2.size;have c3:Chg (λk=>F.qi.blk=some k\/k=F.pg) w w3:=(hc2.mono λk _ e=>.inl e).trans (Go.Vc.Chg.gg hg3) λk _ e=>.inr e;obtain ⟨r0,l0,h0,hch⟩:=hp.ch;have nq:∀k,F.qi.blk=some k->k≠F.cg:=qF hp.qi hch (by decide);have hq':∀k,q.blk=some k->F.qi.blk=some k\/w.heap.size<=k:=λk hk=>by
   rcases hq with e | ⟨j,e,hj⟩
   ·exact .inl (e ▸ hk)
   ·rw [e] at hk;cases hk;exact .inr hj
  refine hK { F with qi:=q } w3 (h.own hH ⟨hb3,⟨r0,l0,h0,hch.chg c3 (λhh=>hh.elim (λe=>nq _ e rfl) λe=>hni _ (.inl rfl) e)⟩,hp.hg,ho.chg (Go.Vc.Chg.gg hg3) λk hk e=>?_,hp.qp.chg c3 ?_,hp.qd.chg c3 ?_,λk hk hk'=>?_,?_⟩ (c3.mono λk _ hk=>?_) (λk hk=>?_) rfl)
  ·rcases hq' k hk with h1 | h1
   ·exact hni k (.inr (.inl h1)) e
   ·have:=hp.blk.lt;omega
  ·rintro k hk (e | e)
   ·exact Ko hp.qi hp.qp (by decide) k e hk
   ·exact hni k (.inr (.inr (.inl hk))) e
  ·rintro k hk (e | e)
   ·exact hp.ne k e hk
   ·exact hni k (.inr (.inr (.inr hk))) e
  ·rcases hq' k hk with h1 | h1
   ·exact hp.ne k h1 hk'
   ·have:=(hp.qd.lt k hk').2;omega
  ·exact ⟨by show (p.inter++_).length<=2;rw [length_append];have:=ok.il;simp;omega,ok.pl,ok.dl,ok.la,ok.pv,ok.pr⟩
  ·rcases hk with hk | hk
   ·exact .inr (.inr (.inl hk))
   ·exact .inl hk
  ·rcases hk with hk | hk | hk | hk | hk
   ·exact .inl (.inl hk)
   ·exact .inl (.inr (.inl hk))
   ·rcases hq' k hk with h1 | h1
    ·exact .inl (.inr (.inr (.inl h1)))
    ·exact .inr h1
   ·exact .inl (.inr (.inr (.inr (.inl hk))))
   ·exact .inl (.inr (.inr (.inr (.inr hk))))
theorem q08 (hH:HndOk H base fv) (h:PH H w base F p fv S s) (x:Int) {K:Ub} (hK:∀w',PhT H base w F S F S { p with st:=x } fv s w'->K w'):stK ((⟨F.pg,0,none⟩:Addr).add 0) [.int .i64 x] w K :=
 h.st hH (i:=0) { p with st:=x } (by decide) rfl rfl rfl rfl ⟨h.par.ok.il,h.par.ok.pl,h.par.ok.dl,h.par.ok.la,h.par.ok.pv,h.par.ok.pr⟩ hK
theorem zci (hH:HndOk H base fv) (h:PH H w base F p fv S s) (hok:∀r,p.opens c=some r->jy H s r.2) {K:Bool->Ub} (h1:∀r F' S' s' w',p.opens c=some r->PhT H base w F S F' S' r.1 fv s' w'->Jw H s r.2 s'->K true w') (h0:p.opens c=none->K false w):Ql (some ⟨F.pg,0,none⟩) c w K:=by
 refine qfs _ _ ?_;simp only [onPtr_some];unfold PS.opens at hok h1 h0;refine jpO λJ1 hJ1=>?_;refine cO (λe=>?_) λe=>?_
 ·rw [if_pos (eq_of_beq e)] at hok h1 h0;exact YG hH h 2 λF' w' hT=>h1 _ F' S s w' rfl hT rfl
 rw [if_neg (beq_eq_false_iff_ne.1 e)] at hok h1 h0;refine cO (λe=>?_) λe=>?_
 ·rw [if_pos (eq_of_beq e)] at hok h1 h0;exact YG hH h 3 λF' w' hT=>h1 _ F' S s w' rfl hT rfl
 rw [if_neg (beq_eq_false_iff_ne.1 e)] at hok h1 h0;refine cO (λe=>?_) λe=>?_
 ·rw [if_pos (eq_of_beq e)] at hok h1 h0;have hd:=h.drew hH;generalize w.drew=w1 at hd ⊢;have hp:=hd.m.par;refine lSl (x:=F.qd) (hp.blk.cells 10 _ rfl) ?_;refine hp.qd.rd.slK (l:=0) (m:=0) rfl (.inl ⟨rfl,rfl⟩) (.inr rfl) (le_refl _) (zero_le _) λ_=>?_;obtain ⟨q1,e1,o1,b1⟩:=qx5 hp.qd;rw [e1,qH];refine qB hp.blk (by show 0+0+1<=12;omega) λw8 hb8 hg8 hs8=>?_;rw [qH];refine qB hb8 (by show 0+10+1<=(putL _ _ _).length;rw [KT];show 11<=12;omega) λw9 hb9 hg9 hs9=>?_;have ok:=hp.ok;exact h1 _ { F with qd:=q1 } S s w9 rfl (hd.trans (hd.m.put (p':={ p with st:=4,data:=[] }) hH hb9 ((Go.Vc.Chg.gg hg8).trans (Go.Vc.Chg.gg hg9) λi _ hi=>hi) rfl rfl hp.qi hp.qp o1 (λ_ h=>h) (λ_ h=>h) b1 ⟨ok.il,ok.pl,zero_le _,ok.la,ok.pv,ok.pr⟩)) rfl
 rw [if_neg (beq_eq_false_iff_ne.1 e)] at hok h1 h0;refine cO (λe=>?_) λe=>?_
 ·rw [if_pos (eq_of_beq e)] at hok h1 h0;refine q08 hH h 6 λw1 hT1=>?_;exact qqn hH hT1.m 9 0 0 (by omega) (hok _ rfl).1 λS' s' w' hT hr=>h1 _ F S' s' w' rfl (hT1.trans hT) ⟨s',hr,rfl⟩
 rw [if_neg (beq_eq_false_iff_ne.1 e)] at hok h1 h0;have hx:(c=88\/c=94)->J1 () w:=λhx=>by
  rw [if_pos hx] at h1;exact hJ1 _ _ (q08 hH h 7 λw1 hT1=>h1 _ F S s w1 rfl hT1 rfl)
 refine cO (λe=>hx (.inl (eq_of_beq e))) λe=>cO (λe2=>hx (.inr (eq_of_beq e2))) λe2=>?_;rw [if_neg (λhh=>hh.elim (beq_eq_false_iff_ne.1 e) (beq_eq_false_iff_ne.1 e2))] at h0;exact h0 rfl
theorem qn5 (hH:HndOk H base fv) (h:PH H w base F p fv S s) (hc:0<=c/\c<128) (hok:jy H s (p.escape c).2) {K:Ub} (hK:∀F' S' s' w',PhT H base w F S F' S' (p.escape c).1 fv s' w'->Jw H s (p.escape c).2 s'->K w'):xD (some ⟨F.pg,0,none⟩) c w K:=by
 refine qab _ _ ?_;simp only [onPtr_some];unfold PS.escape at hok hK;refine JX (cO (λe=>?_) λe=>?_)
 ·rw [if_pos e] at hok hK;exact qqn hH h 2 0 c (by omega) hok.1 λS' s' w' hT hr=>hK F S' s' w' hT ⟨s',hr,rfl⟩
 rw [if_neg (by rw [e];decide)] at hok hK;refine cF (dFq (by omega)) ?_;refine cO (λe=>?_) λe=>?_
 ·rw [if_pos (oTq e)] at hok hK;exact que hH h hc λF' w' hT=>hK F' S s w' hT rfl
 rw [if_neg (oFq e)] at hok hK;refine cO (λe=>?_) λe=>?_
 ·rw [if_pos (eq_of_beq e)] at hok hK;exact hK F S s w (PhT.refl h) rfl
 rw [if_neg (beq_eq_false_iff_ne.1 e)] at hok hK;refine jpO λJ1 hJ1=>?_;have key:jy H s (p.escEnd c).2->(∀F' S' s' w',PhT H base w F S F' S' (p.escEnd c).1 fv s' w'->Jw H s (p.escEnd c).2 s'->K w')->J1 (true,()) w:=by
  intro hok hK;refine hJ1 _ _ (cT rfl ?_);unfold PS.escEnd at hok hK;refine q08 hH h 0 λw1 hT1=>?_;have hp:=hT1.m.par;refine jw (x:=p.wrong) (hp.blk.cells 5 _ rfl) ?_;cases hw:p.wrong
  ·rw [hw,if_neg (by decide)] at hok;refine cT rfl ?_;have hd:=hT1.m.drew hH;generalize w1.drew=w2 at hd ⊢;have hp2:=hd.m.par;refine qmm (x:=fv) (hp2.blk.cells 11 _ rfl) (lSl (x:=F.qi) (hp2.blk.cells 4 _ rfl) ?_);refine ZD hp2.qi.rd ⟨hp2.blk.cells 11 _ rfl,?_⟩;refine qjw hH hd.m (v:=⟨3,0,c,0,p.inter,[],[]⟩) (q:=⟨none,0,0⟩) (d:=⟨none,0,0⟩) hok.1 (znq rfl rfl ⟨hc.1,by show c<=255;omega⟩ ⟨Int.le_refl 0,by show (0:Int)<=255;omega⟩ h.par.ok.il) λS' s' w' hT hr=>hK F S' s' w' ((hT1.trans hd).trans hT) (by rw [if_neg (by rw [hw];decide)];exact ⟨s',hr,rfl⟩)
  ·exact cF rfl (hK F S s w1 hT1 (by rw [if_pos hw];rfl))
 refine lSl (x:=F.qi) (h.par.blk.cells 4 _ rfl) ?_;have hn:F.qi.n=p.inter.length:=h.par.qi.rd.n;rw [hn];refine cO (λe=>?_) λe=>?_
 ·have e:=oTq e;have hne:p.inter≠[]:=λh2=>by rw [h2] at e;exact absurd e (by decide)
  rw [if_pos hne] at hok hK;exact key hok hK
 ·have e:=oFq e;have hnil:p.inter=[]:=List.eq_nil_of_length_eq_zero (by omega);rw [if_neg (λhh=>hh hnil)] at hok hK;refine zci hH h (λr hr=>by rw [hr] at hok;exact hok) (λr F' S' s' w' hr hT hR=>?_) λhr=>?_
  ·rw [hr] at hK;exact hJ1 _ _ (cF rfl (hK F' S' s' w' hT hR))
  ·rw [hr] at hok hK;exact key hok hK
end
section
variable {σ:Type} {H:Hnd σ} {w w':World} {base:Nat} {F F':PF} {p p':PS} {fv:Value} {S S':Nat->Prop} {s s':σ} {c:Int}
theorem zjy (h:PsOk p):PsOk p.next:=by
 unfold PS.next;refine ⟨h.il,?_,h.dl,⟨Int.le_refl 0,by show (0:Int)<=65535;omega⟩,h.pv,?_⟩
 ·show (if p.params.length<16 then p.params++[p.last] else p.params).length<=16;split
  ·rw [length_append];simp;omega
  ·exact h.pl
 ·show ∀x∈(if p.params.length<16 then p.params++[p.last] else p.params),0<=x/\x<=65535;split
  ·intro x hx;rcases List.mem_append.1 hx with h1 | h1
   ·exact h.pr x h1
   ·rw [List.mem_singleton] at h1;rw [h1];exact h.la
  ·exact h.pr
theorem qt1 (hH:HndOk H base fv) (h:PH H w base F p fv S s) {K:Ub} (hK:∀F' w',PhT H base w F S F' S p.next fv s w'->K w'):vp (some ⟨F.pg,0,none⟩) w K:=by
 refine qgp _ ?_;simp only [onPtr_some];have hok:=zjy h.par.ok;have ok:=h.par.ok;unfold PS.next at hK hok;refine jpO λJ1 hJ1=>?_;have hp:=h.par;refine lSl (x:=F.qp) (hp.blk.cells 7 _ rfl) ?_;have hn:F.qp.n=p.params.length:=hp.qp.rd.n;rw [hn];refine cO (λe=>?_) λe=>?_
 ·have e:p.params.length<16:=by have:=oTq e;omega
  rw [if_pos e] at hK hok;have hd:=h.drew hH;generalize w.drew=w1 at hd ⊢;have hp:=hd.m.par;refine lSl (x:=F.qp) (hp.blk.cells 7 _ rfl) (lI (x:=p.last) (hp.blk.cells 9 _ rfl) ?_);refine nwb λw2 hb2 hB2 hs2=>?_;have h2:=hd.trans (hd.m.ext hH hB2);have hp2:=h2.m.par;refine ⟨hp2.blk.cells 7 _ rfl,?_⟩;refine jz qew hp2.qp (Ze (E:=jG) hb2 rfl) h2.m.base_le (by rw [qmi];simp;omega) (by simp only [maxLen];simp;omega) λq w3 ho hg hq=>?_;have hc3:Chg (λk=>F.qp.blk=some k) w2 w3:=Chg.of_grown hg λk hk=>hk;have hni:=hp2.ne_pg;have hb3:=hp2.blk.chg hc3 λe=>hni _ (.inr (.inr (.inl e))) rfl;rw [qH];refine qB hb3 (by show 0+7+1<=12;omega) λw4 hb4 hg4 hs4=>?_;have z3:=hc3.size;have c4:Chg (λk=>F.qp.blk=some k\/k=F.pg) w2 w4:=(hc3.mono λk _ e=>.inl e).trans (Go.Vc.Chg.gg hg4) λk _ e=>.inr e;obtain ⟨r0,l0,h0,hch⟩:=hp2.ch;have nq:∀k,F.qp.blk=some k->k≠F.cg:=qF hp2.qp hch (by decide);have hq':∀k,q.blk=some k->F.qp.blk=some k\/w2.heap.size<=k:=λk hk=>by
   rcases hq with e | e
   ·exact .inl (e ▸ hk)
   ·rw [e] at hk;cases hk;exact .inr (le_refl _)
  have h4:PhT H base w F S { F with qp:=q } S { p with params:=p.params++[p.last] } fv s w4:=by
   refine h2.trans (h2.m.own hH ⟨hb4,⟨r0,l0,h0,hch.chg c4 (λhh=>hh.elim (λe=>nq _ e rfl) λe=>hni _ (.inl rfl) e)⟩,hp2.hg,hp2.qi.chg c4 ?_,ho.chg (Go.Vc.Chg.gg hg4) λk hk e=>?_,hp2.qd.chg c4 ?_,hp2.ne,⟨ok.il,hok.pl,ok.dl,ok.la,ok.pv,hok.pr⟩⟩ (c4.mono λk _ hk=>?_) (λk hk=>?_) rfl)
   ·rintro k hk (e | e)
    ·exact Ko hp2.qp hp2.qi (by decide) k e hk
    ·exact hni k (.inr (.inl hk)) e
   ·rcases hq' k hk with h1 | h1
    ·exact hni k (.inr (.inr (.inl h1))) e
    ·have:=hp2.blk.lt;omega
   ·rintro k hk (e | e)
    ·exact Ko hp2.qp hp2.qd (by decide) k e hk
    ·exact hni k (.inr (.inr (.inr hk))) e
   ·rcases hk with hk | hk
    ·exact .inr (.inr (.inr (.inl hk)))
    ·exact .inl hk
   ·rcases hk with hk | hk | hk | hk | hk
    ·exact .inl (.inl hk)
    ·exact .inl (.inr (.inl hk))
    ·exact .inl (.inr (.inr (.inl hk)))
    ·rcases hq' k hk with h1 | h1
     ·exact .inl (.inr (.inr (.inr (.inl h1))))
     ·exact .inr h1
    ·exact .inl (.inr (.inr (.inr (.inr hk))))
  refine hJ1 _ _ (h4.m.st hH (i:=9) { p with params:=p.params++[p.last],last:=0 } (by decide) rfl rfl rfl rfl hok λw5 h5=>hK _ w5 (h4.trans h5))
 ·have e:¬p.params.length<16:=λh2=>oFq e (by omega);rw [if_neg e] at hK hok;exact hJ1 _ _ (h.st hH (i:=9) { p with last:=0 } (by decide) rfl rfl rfl rfl hok λw5 h5=>hK F w5 h5)
theorem zbg (hH:HndOk H base fv) (h:PH H w base F p fv S s) (hc:0<=c/\c<128) (hok:jy H s (p.final c).2) {K:Ub} (hK:∀F' S' s' w',PhT H base w F S F' S' (p.final c).1 fv s' w'->Jw H s (p.final c).2 s'->K w'):yN (some ⟨F.pg,0,none⟩) c w K:=by
 refine qf2 _ _ ?_;simp only [onPtr_some];unfold PS.final at hok hK;dsimp only at hok hK;refine jpO λJ1 hJ1=>?_;have key:∀k:Int,k=(if p.st=3 then 6 else 4)->J1 (k,()) w:=by
  rintro k hk;refine hJ1 _ _ ?_;refine jpO λJ2 hJ2=>?_;have key2:∀w1,PhT H base w F S F S { p with st:=if p.st≠3 then 0 else if p.wrong then 7 else 5 } fv s w1->J2 () w1:=by
   intro w1 h1;refine hJ2 _ _ ?_;refine jw (x:=p.wrong) (h1.m.par.blk.cells 5 _ rfl) ?_;cases hw:p.wrong
   ·have hwn:¬p.wrong=true:=by rw [hw];decide
    simp only [if_neg hwn] at hok hK h1;refine cF rfl ?_;refine jpO λJ3 hJ3=>?_;have key3:∀(p2:PS) F2 w2,PhT H base w F S F2 S p2 fv s w2->p2.priv=p.priv->p2.inter=p.inter->(if p.some_ then ({ p with st:=if p.st≠3 then 0 else 5 }:PS).next else { p with st:=if p.st≠3 then 0 else 5 })=p2->J3 () w2:=by
     intro p2 F2 w2 h2 e1 e2 e3;rw [e3] at hok hK;refine hJ3 _ _ ?_;have hpg:=h2.pg;rw [<-hpg];have hd:=h2.trans (h2.m.drew hH);generalize w2.drew=w3 at hd ⊢;have hp:=hd.m.par;refine qmm (x:=fv) (hp.blk.cells 11 _ rfl) (lI (x:=p2.priv) (hp.blk.cells 3 _ rfl) (lSl (x:=F2.qp) (hp.blk.cells 7 _ rfl) (lSl (x:=F2.qi) (hp.blk.cells 4 _ rfl) ?_)));have fin:∀(q:Slc) w4,Go.Vc.Own jG w4 w3.heap.size q p2.params->Uc w3 w4->(∀K':Ub,(∀S' s' w',PhT H base w F S F2 S' p2 fv s' w'->H.R s ⟨k,0,c,p2.priv,p2.inter,p2.params,[]⟩ s'->K' w')->jm C fv [agE ⟨k,0,c,p2.priv,p2.inter,p2.params,[]⟩ q ⟨none,0,0⟩] [] w4 K'):=by
      intro q w4 ho hB K' hK';have h4:=hd.trans (hd.m.ext hH hB);refine qjw hH h4.m (v:=⟨k,0,c,p2.priv,p2.inter,p2.params,[]⟩) (q:=q) (d:=⟨none,0,0⟩) ?_ ⟨ho.rd,(λa ha=>?_),Rd.nil _ _,(λa ha=>by cases ha),hp.ok.pr,hp.ok.pl,⟨hc.1,by show c<=255;omega⟩,hp.ok.pv,hp.ok.il,zero_le _⟩ λS' s' w' hT hr=>hK' S' s' w' (h4.trans hT) hr
      ·have:=hok.1;rw [hk,e1,e2];exact this
      ·have h5:=ho.lt a.block (slk.2 ⟨a,ha,rfl⟩);exact ⟨λhs=>by have:=(hH.lt hd.m.m _ hs).2;omega,h5.2⟩
     refine ⟨?_,?_⟩
     ·refine qvs hp.qp.rd (by have:=hp.ok.pl;omega) λq w4 ho hB=>?_;have hp4:=hp.ext hB;refine ⟨hp4.blk.cells 4 _ rfl,hp4.blk.cells 3 _ rfl,hp4.blk.cells 11 _ rfl,?_⟩;refine ZD hp4.qi.rd ⟨hp4.blk.cells 7 _ rfl,hp4.blk.cells 3 _ rfl,hp4.blk.cells 11 _ rfl,?_⟩;exact fin q w4 ho hB K λS' s' w' hT hr=>hK F2 S' s' w' hT ⟨s',by rw [hk,e1,e2] at hr;exact hr,rfl⟩
     ·refine ZD hp.qi.rd ⟨hp.blk.cells 7 _ rfl,hp.blk.cells 3 _ rfl,hp.blk.cells 11 _ rfl,?_⟩;refine qvs hp.qp.rd (by have:=hp.ok.pl;omega) λq w4 ho hB=>?_;have hp4:=hp.ext hB;refine ⟨hp4.blk.cells 4 _ rfl,hp4.blk.cells 3 _ rfl,hp4.blk.cells 11 _ rfl,?_⟩;exact fin q w4 ho hB K λS' s' w' hT hr=>hK F2 S' s' w' hT ⟨s',by rw [hk,e1,e2] at hr;exact hr,rfl⟩
    refine jw (x:=p.some_) (h1.m.par.blk.cells 8 _ rfl) ?_;cases hs:p.some_
    ·exact cF rfl (key3 _ F w1 h1 rfl rfl (if_neg (by rw [hs];decide)))
    ·exact cT rfl (qt1 hH h1.m λF2 w2 h2=>key3 _ F2 w2 (h1.trans h2) rfl rfl (if_pos hs))
   ·simp only [if_pos hw] at hok hK h1;exact cT rfl (hK F S s w1 h1 rfl)
  refine cO (λe=>?_) λe=>?_
  ·have e:k=4:=eq_of_beq e;have h3:p.st≠3:=λh3=>by rw [if_pos h3] at hk;omega
   refine q08 hH h 0 λw1 h1=>key2 w1 ?_;rw [if_pos h3];exact h1
  ·have e:¬k=4:=beq_eq_false_iff_ne.1 e;have h3:p.st=3:=by
    by_cases h3:p.st=3
    ·exact h3
    ·rw [if_neg h3] at hk;exact absurd hk e
   refine jw (x:=p.wrong) (h.par.blk.cells 5 _ rfl) ?_;cases hw:p.wrong
   ·refine cF rfl (q08 hH h 5 λw1 h1=>key2 w1 ?_);rw [if_neg (λhh=>hh h3),if_neg (by rw [hw];decide)];exact h1
   ·refine cT rfl (q08 hH h 7 λw1 h1=>key2 w1 ?_);rw [if_neg (λhh=>hh h3),if_pos hw];exact h1
 refine lI (x:=p.st) (h.par.blk.cells 0 _ rfl) ?_;refine cO (λe=>?_) λe=>?_
 ·exact key 6 (by rw [if_pos (eq_of_beq e)])
 ·exact key 4 (by rw [if_neg (beq_eq_false_iff_ne.1 e)])
end
section
variable {σ:Type} {H:Hnd σ} {w w':World} {base:Nat} {F F':PF} {p p':PS} {fv:Value} {S S':Nat->Prop} {s s':σ} {c:Int}
theorem quj (hH:HndOk H base fv) (h:PH H w base F p fv S s) (hc:0<=c/\c<128) (hok:jy H s (p.head c).2) {K:Ub} (hK:∀F' S' s' w',PhT H base w F S F' S' (p.head c).1 fv s' w'->Jw H s (p.head c).2 s'->K w'):k8 (some ⟨F.pg,0,none⟩) c w K:=by
 refine qdn _ _ ?_;simp only [onPtr_some];refine jw (x:=p.first) (h.par.blk.cells 6 _ rfl) ?_;refine jpO λJ1 hJ1=>?_;unfold PS.head at hok hK;dsimp only at hok hK;obtain ⟨fb,hfb⟩:∃fb,fb=(p.first && (qzo c || c==127)):=⟨_,rfl⟩;rw [<-hfb] at hok hK;have key:∀w1,PhT H base w F S F S { p with first:=fb } fv s w1->J1 () w1:=by
  intro w1 h1;refine hJ1 _ _ ?_;have ok:=h1.m.par.ok;refine JX (cO (λe=>?_) λe=>?_)
  ·rw [if_pos e] at hok hK;refine lI (x:=p.st) (h1.m.par.blk.cells 0 _ rfl) (cO (λe=>?_) λe=>?_)
   ·have e:p.st=2:=eq_of_beq e;rw [if_pos e] at hok hK;exact qqn hH h1.m 2 0 c (by omega) hok.1 λS' s' w' hT hr=>hK F S' s' w' (h1.trans hT) ⟨s',hr,rfl⟩
   ·have e:¬p.st=2:=beq_eq_false_iff_ne.1 e;rw [if_neg e] at hok hK;exact hK F S s w1 h1 rfl
  rw [if_neg (by rw [e];decide)] at hok hK;refine cF (dFq (by omega)) ?_;refine cO (λe=>?_) λe=>?_
  ·rw [if_pos (oTq e)] at hok hK;exact que hH h1.m hc λF' w' hT=>hK F' S s w' (h1.trans hT) rfl
  have e47:=oFq e;rw [if_neg e47] at hok hK;refine cO (λe=>?_) λe=>?_
  ·rw [if_pos (eq_of_beq e)] at hok hK;exact hK F S s w1 h1 rfl
  rw [if_neg (beq_eq_false_iff_ne.1 e)] at hok hK;have hn:F.qi.n=p.inter.length:=h1.m.par.qi.rd.n;have wrg:∀(X:Ub),(∀w2,PhT H base w F S F S { p with first:=fb,wrong:=p.wrong || decide (p.inter≠[]) } fv s w2->X w2) ->
    ldB ((⟨F.pg,0,none⟩:Addr).add 5) w1 λt61=>cond t61 (stK ((⟨F.pg,0,none⟩:Addr).add 5) [(.bool true)] w1 λw9=>X w9) (zF ((⟨F.pg,0,none⟩:Addr).add 4) w1 λt66=>stK ((⟨F.pg,0,none⟩:Addr).add 5) [(.bool (decide (((t66.n:Nat):Int)>(0:Int))))] w1 λw10=>X w10):=by
   intro X hX;refine jw (x:=p.wrong) (h1.m.par.blk.cells 5 _ rfl) ?_;have st:∀b:Bool,b=(p.wrong || decide (p.inter≠[]))->stK ((⟨F.pg,0,none⟩:Addr).add 5) [(.bool b)] w1 λw9=>X w9:=by
    rintro b hb;rw [<-hb] at hX;exact h1.m.st hH (i:=5) { p with first:=fb,wrong:=b } (by decide) rfl rfl rfl rfl ⟨ok.il,ok.pl,ok.dl,ok.la,ok.pv,ok.pr⟩ λw2 h2=>hX w2 (h1.trans h2)
   cases hw:p.wrong
   ·refine cF rfl (lSl (x:=F.qi) (h1.m.par.blk.cells 4 _ rfl) (st _ ?_));rw [hw,Bool.false_or,hn];by_cases hi:p.inter=[]
    ·rw [hi];rfl
    ·rw [dTq hi,dTq];have:=List.length_pos_iff.2 hi;omega
   ·exact cT rfl (st _ (by rw [hw,Bool.true_or]))
  refine cO (λe=>?_) λe=>?_
  ·have e57:=oTq e;rw [if_pos e57] at hok hK;refine jpO λJ2 hJ2=>?_;refine wrg (λw2=>J2 () w2) λw2 h2=>hJ2 _ _ ?_;have ok2:=h2.m.par.ok;refine h2.m.st hH (i:=8) { p with first:=fb,wrong:=p.wrong || decide (p.inter≠[]),some_:=true } (by decide) rfl rfl rfl rfl ⟨ok2.il,ok2.pl,ok2.dl,ok2.la,ok2.pv,ok2.pr⟩ λw3 h3=>?_;refine lI (x:=p.last) (h3.m.par.blk.cells 9 _ rfl) ?_;have hla:=ok.la;have w1':IntKind.u8.wrap (c-48)=c-48:=by
    obtain ⟨m,hm⟩:∃m:Nat,c-48=m:=⟨(c-48).toNat,by omega⟩;rw [hm];exact xk .u8 (by show _<2^8;omega)
   have hla:0<=p.last/\p.last<=65535:=hla;rw [w1',qQ (x:=c-48) (by omega),qQ (x:=10*p.last) (by omega),qQ (x:=10*p.last+(c-48)) (by omega)];refine h3.m.st hH (i:=9) { p with first:=fb,wrong:=p.wrong || decide (p.inter≠[]),some_:=true,last:=if 65535<10*p.last+(c-48) then 65535 else 10*p.last+(c-48) } (by decide) rfl rfl rfl rfl ?_ λw4 h4=>hK F S s w4 (h2.trans (h3.trans h4)) rfl;refine ⟨ok2.il,ok2.pl,ok2.dl,?_,ok2.pv,ok2.pr⟩;show 0<=(if 65535<10*p.last+(c-48) then 65535 else 10*p.last+(c-48))/\(if 65535<10*p.last+(c-48) then 65535 else 10*p.last+(c-48))<=65535;split<;>omega
  have e57:=oFq e;rw [if_neg e57] at hok hK;refine cO (λe=>?_) λe=>?_
  ·have e59:c=59:=eq_of_beq e;rw [if_pos e59] at hok hK;refine jpO λJ3 hJ3=>?_;refine wrg (λw2=>J3 () w2) λw2 h2=>hJ3 _ _ ?_;have ok2:=h2.m.par.ok;refine h2.m.st hH (i:=8) { p with first:=fb,wrong:=p.wrong || decide (p.inter≠[]),some_:=true } (by decide) rfl rfl rfl rfl ⟨ok2.il,ok2.pl,ok2.dl,ok2.la,ok2.pv,ok2.pr⟩ λw3 h3=>?_;exact qt1 hH h3.m λF4 w4 h4=>hK F4 S s w4 (h2.trans (h3.trans h4)) rfl
  have e59:¬c=59:=beq_eq_false_iff_ne.1 e;rw [if_neg e59] at hok hK;refine jpO λJ4 hJ4=>?_;have end_:∀b:Bool,b=decide (60<=c/\c<=63/\p.first=true)->J4 (b,()) w1:=by
   intro b hb;refine hJ4 _ _ (cO (λe=>?_) λe=>?_)
   ·have e:b=true:=e;rw [e] at hb;have hb:=oTq hb.symm;rw [if_pos hb] at hok hK;exact h1.m.st hH (i:=3) { p with first:=fb,priv:=c } (by decide) rfl rfl rfl rfl ⟨ok.il,ok.pl,ok.dl,ok.la,⟨hc.1,by show c<=255;omega⟩,ok.pr⟩ λw2 h2=>hK F S s w2 (h1.trans h2) rfl
   ·have e:b=false:=e;rw [e] at hb;have hb:=oFq hb.symm;rw [if_neg hb] at hok hK;refine cO (λe=>?_) λe=>?_
    ·rw [if_pos (oTq e)] at hok hK;exact h1.m.st hH (i:=5) { p with first:=fb,wrong:=true } (by decide) rfl rfl rfl rfl ⟨ok.il,ok.pl,ok.dl,ok.la,ok.pv,ok.pr⟩ λw2 h2=>hK F S s w2 (h1.trans h2) rfl
    ·rw [if_neg (oFq e)] at hok hK;exact zbg hH h1.m hc hok λF' S' s' w' hT hr=>hK F' S' s' w' (h1.trans hT) hr
  refine cO (λe=>?_) λe=>?_
  ·have e:=oTq e;refine cO (λe2=>?_) λe2=>?_
   ·have e2:=oTq e2;refine end_ _ ?_;cases p.first
    ·rw [dFq];rintro ⟨_,_,h⟩;cases h
    ·rw [dTq];exact ⟨e,e2,rfl⟩
   ·have e2:=oFq e2;exact end_ _ (by rw [dFq];rintro ⟨_,h,_⟩;exact e2 h)
  ·have e:=oFq e;exact end_ _ (by rw [dFq];rintro ⟨h,_,_⟩;exact e h)
 have ok:=h.par.ok;have st:∀b:Bool,b=fb->stK ((⟨F.pg,0,none⟩:Addr).add 6) [(.bool b)] w λw9=>J1 () w9:=by
  rintro b rfl;exact h.st hH (i:=6) { p with first:=b } (by decide) rfl rfl rfl rfl ⟨ok.il,ok.pl,ok.dl,ok.la,ok.pv,ok.pr⟩ λw2 h2=>key w2 h2
 cases hf:p.first
 ·refine cF rfl (st _ ?_);rw [hfb,hf,Bool.false_and]
 ·refine cT rfl (JX (cO (λe=>?_) λe=>?_))
  ·exact st _ (by rw [hfb,hf,e];rfl)
  ·exact st _ (by rw [hfb,hf,e];rfl)
theorem qvo (hH:HndOk H base fv) (h:PH H w base F p fv S s) (hok:H.ok s (qg3 5 p.data)) {K:Ub} (hK:∀S' s' w',PhT H base w F S F S' p fv s' w'->H.R s (qg3 5 p.data) s'->K w'):vn (some ⟨F.pg,0,none⟩) w K:=by
 refine qgm _ ?_;simp only [onPtr_some];have hd:=h.drew hH;generalize w.drew=w1 at hd ⊢;have hp:=hd.m.par;refine qmm (x:=fv) (hp.blk.cells 11 _ rfl) (lSl (x:=F.qd) (hp.blk.cells 10 _ rfl) ?_);refine qkq hp.qd.rd (by have:=hp.ok.dl;omega) λq w2 ho hB=>?_;have h2:=hd.trans (hd.m.ext hH hB);refine ⟨h2.m.par.blk.cells 11 _ rfl,?_⟩;refine qjw hH h2.m (v:=qg3 5 p.data) (q:=⟨none,0,0⟩) (d:=q) hok ⟨Rd.nil _ _,(λa ha=>by cases ha),ho.rd,(λa ha=>?_),(λx hx=>by cases hx),zero_le _,⟨Int.le_refl 0,by show (0:Int)<=255;omega⟩,⟨Int.le_refl 0,by show (0:Int)<=255;omega⟩,zero_le _,by show p.data.length<=_;have:=hp.ok.dl;omega⟩ λS' s' w' hT hr=>hK S' s' w' (h2.trans hT) hr;have h5:=ho.lt a.block (slk.2 ⟨a,ha,rfl⟩);exact ⟨λhs=>by have:=(hH.lt hd.m.m _ hs).2;omega,h5.2⟩
theorem ze6 (hH:HndOk H base fv) (h:PH H w base F p fv S s) {q:Slc} {bs:List UInt8} (hq:Rd qu w q bs) (hl:bs.length<=1000000) (hok:H.ok s (qg3 (if p.st=6 then 10 else 7) bs)) {K:Ub} (hK:∀S' s' w',PhT H base w F S F S' p fv s' w'->H.R s (qg3 (if p.st=6 then 10 else 7) bs) s'->K w'):xl (some ⟨F.pg,0,none⟩) q w K:=by
 refine qd1 _ _ ?_;simp only [onPtr_some];refine jpO λJ1 hJ1=>?_;have key:∀k:Int,k=(if p.st=6 then 10 else 7)->J1 (k,()) w:=by
  rintro k hk;rw [<-hk] at hok hK;refine hJ1 _ _ ?_;have hd:=h.drew hH;have hq1:Rd qu w.drew q bs:=hq.drew;generalize w.drew=w1 at hd hq1 ⊢;have hp:=hd.m.par;refine qmm (x:=fv) (hp.blk.cells 11 _ rfl) ?_;refine qkq hq1 (by omega) λq2 w2 ho hB=>?_;have h2:=hd.trans (hd.m.ext hH hB);refine ⟨h2.m.par.blk.cells 11 _ rfl,?_⟩;refine qjw hH h2.m (v:=qg3 k bs) (q:=⟨none,0,0⟩) (d:=q2) hok ⟨Rd.nil _ _,(λa ha=>by cases ha),ho.rd,(λa ha=>?_),(λx hx=>by cases hx),zero_le _,⟨Int.le_refl 0,by show (0:Int)<=255;omega⟩,⟨Int.le_refl 0,by show (0:Int)<=255;omega⟩,zero_le _,hl⟩ λS' s' w' hT hr=>hK S' s' w' (h2.trans hT) hr;have h5:=ho.lt a.block (slk.2 ⟨a,ha,rfl⟩);exact ⟨λhs=>by have:=(hH.lt hd.m.m _ hs).2;omega,h5.2⟩
 refine lI (x:=p.st) (h.par.blk.cells 0 _ rfl) (cO (λe=>?_) λe=>?_)
 ·exact key 10 (by rw [if_pos (eq_of_beq e)])
 ·exact key 7 (by rw [if_neg (beq_eq_false_iff_ne.1 e)])
theorem q6n (hH:HndOk H base fv) (h:PH H w base F p fv S s) (hc:0<=c/\c<128) (hok:jy H s (p.text c).2) {K:Ub} (hK:∀F' S' s' w',PhT H base w F S F' S' (p.text c).1 fv s' w'->Jw H s (p.text c).2 s'->K w'):y9 (some ⟨F.pg,0,none⟩) c w K:=by
 refine qdr _ _ ?_;simp only [onPtr_some];unfold PS.text at hok hK;refine cO (λe=>?_) λe=>?_
 ·rw [if_pos (eq_of_beq e)] at hok hK;refine qvo hH h hok.1 λS1 s1 w1 h1 hr=>?_;exact q08 hH h1.m 0 λw2 h2=>hK F S1 s1 w2 (h1.trans h2) ⟨s1,hr,rfl⟩
 rw [if_neg (beq_eq_false_iff_ne.1 e)] at hok hK;refine jpO λJ1 hJ1=>?_;have hp:=h.par;have ok:=hp.ok;have key:∀b:Bool,b=decide (32<=c/\c≠127/\p.data.length<1024)->J1 (b,()) w:=by
  intro b hb;refine hJ1 _ _ (cO (λe=>?_) λe=>?_)
  ·have e:b=true:=e;rw [e] at hb;have hb:=oTq hb.symm;rw [if_pos hb] at hok hK;refine lSl (x:=F.qd) (hp.blk.cells 10 _ rfl) ?_;refine zm3 (c:=UInt8.ofNat c.toNat) (zle (by omega)) hp.qd h.base_le (by omega) λq w2 ho hc2 hq=>?_;have hni:=hp.ne_pg;have hb2:=hp.blk.chg hc2 λe=>hni _ (.inr (.inr (.inr e))) rfl;rw [qH];refine qB hb2 (by show 0+10+1<=12;omega) λw3 hb3 hg3 hs3=>?_;have z2:=hc2.size;have c3:Chg (λk=>F.qd.blk=some k\/k=F.pg) w w3:=(hc2.mono λk _ e=>.inl e).trans (Go.Vc.Chg.gg hg3) λk _ e=>.inr e;obtain ⟨r0,l0,h0,hch⟩:=hp.ch;have nq:∀k,F.qd.blk=some k->k≠F.cg:=qF hp.qd hch (by decide);have hq':∀k,q.blk=some k->F.qd.blk=some k\/w.heap.size<=k:=λk hk=>by
    rcases hq with e | ⟨j,e,hj⟩
    ·exact .inl (e ▸ hk)
    ·rw [e] at hk;cases hk;exact .inr hj
   refine hK { F with qd:=q } S s w3 (h.own hH ⟨hb3,⟨r0,l0,h0,hch.chg c3 (λhh=>hh.elim (λe=>nq _ e rfl) λe=>hni _ (.inl rfl) e)⟩,hp.hg,hp.qi.chg c3 ?_,hp.qp.chg c3 ?_,ho.chg (Go.Vc.Chg.gg hg3) λk hk e=>?_,λk hk hk'=>?_,?_⟩ (c3.mono λk _ hk=>?_) (λk hk=>?_) rfl) rfl
   ·rintro k hk (e | e)
    ·exact hp.ne k hk e
    ·exact hni k (.inr (.inl hk)) e
   ·rintro k hk (e | e)
    ·exact Ko hp.qd hp.qp (by decide) k e hk
    ·exact hni k (.inr (.inr (.inl hk))) e
   ·rcases hq' k hk with h1 | h1
    ·exact hni k (.inr (.inr (.inr h1))) e
    ·have:=hp.blk.lt;omega
   ·rcases hq' k hk' with h1 | h1
    ·exact hp.ne k hk h1
    ·have:=(hp.qi.lt k hk).2;omega
   ·exact ⟨ok.il,ok.pl,by show (p.data++_).length<=1024;rw [length_append];simp;omega,ok.la,ok.pv,ok.pr⟩
   ·rcases hk with hk | hk
    ·exact .inr (.inr (.inr (.inr hk)))
    ·exact .inl hk
   ·rcases hk with hk | hk | hk | hk | hk
    ·exact .inl (.inl hk)
    ·exact .inl (.inr (.inl hk))
    ·exact .inl (.inr (.inr (.inl hk)))
    ·exact .inl (.inr (.inr (.inr (.inl hk))))
    ·rcases hq' k hk with h1 | h1
     ·exact .inl (.inr (.inr (.inr (.inr h1))))
     ·exact .inr h1
  ·have e:b=false:=e;rw [e] at hb;have hb:=oFq hb.symm;rw [if_neg hb] at hok hK;exact hK F S s w (PhT.refl h) rfl
 have hn:F.qd.n=p.data.length:=hp.qd.rd.n;refine cO (λe=>?_) λe=>?_
 ·have e:=oTq e;refine cO (λe2=>?_) λe2=>?_
  ·have e2:c≠127:=by simpa using e2
   refine lSl (x:=F.qd) (hp.blk.cells 10 _ rfl) (key _ ?_);rw [hn];by_cases hd:p.data.length<1024
   ·rw [dTq (p:=32<=c/\c≠127/\p.data.length<1024) ⟨e,e2,hd⟩,dTq (p:=((p.data.length:Nat):Int)<1024) (by omega)]
   ·rw [dFq (p:=32<=c/\c≠127/\p.data.length<1024) (λhh=>hd hh.2.2),dFq (p:=((p.data.length:Nat):Int)<1024) (by omega)]
  ·have e2:c=127:=by simpa using e2
   exact key _ (by rw [dFq];rintro ⟨_,h,_⟩;exact h e2)
 ·have e:=oFq e;exact key _ (by rw [dFq];rintro ⟨h,_,_⟩;exact e h)
theorem q36 (hH:HndOk H base fv) (h:PH H w base F p fv S s) (hc:0<=c/\c<128) (hok:jy H s (p.plain c).2) {K:Ub} (hK:∀F' S' s' w',PhT H base w F S F' S' (p.plain c).1 fv s' w'->Jw H s (p.plain c).2 s'->K w'):yZ (some ⟨F.pg,0,none⟩) c w K:=by
 refine qe9 _ _ ?_;simp only [onPtr_some];unfold PS.plain at hok hK;refine lI (x:=p.st) (h.par.blk.cells 0 _ rfl) ?_;refine cO (λe=>?_) λe=>?_
 ·rw [if_pos (eq_of_beq e)] at hok hK;exact qn5 hH h hc hok hK
 rw [if_neg (beq_eq_false_iff_ne.1 e)] at hok hK;refine cO (λe=>?_) λe2=>?_
 ·rw [if_pos (.inl (eq_of_beq e))] at hok hK;exact quj hH h hc hok hK
 refine cO (λe=>?_) λe3=>?_
 ·rw [if_pos (.inr (eq_of_beq e))] at hok hK;exact quj hH h hc hok hK
 rw [if_neg (λhh=>hh.elim (beq_eq_false_iff_ne.1 e2) (beq_eq_false_iff_ne.1 e3))] at hok hK;refine cO (λe=>?_) λe=>?_
 ·rw [if_pos (eq_of_beq e)] at hok hK;exact q6n hH h hc hok hK
 rw [if_neg (beq_eq_false_iff_ne.1 e)] at hok hK;have nop:(p.st=5\/p.st=6\/p.st=7)->K w:=λhh=>by
  rw [if_pos hh] at hK;exact hK F S s w (PhT.refl h) rfl
 refine cO (λe=>nop (.inl (eq_of_beq e))) λe5=>?_;refine cO (λe=>nop (.inr (.inl (eq_of_beq e)))) λe6=>?_;refine cO (λe=>nop (.inr (.inr (eq_of_beq e)))) λe7=>?_;rw [if_neg (λhh=>hh.elim (beq_eq_false_iff_ne.1 e5) λhh=>hh.elim (beq_eq_false_iff_ne.1 e6) (beq_eq_false_iff_ne.1 e7))] at hok hK;exact q8e hH h hc hok λS' s' w' hT hr=>hK F S' s' w' hT hr
theorem zjd (hH:HndOk H base fv) (h:PH H w base F p fv S s) (b:Bool) {K:Ub} (hK:∀w',PhT H base w F S F S { p with ends:=b } fv s w'->K w'):stK ((⟨F.pg,0,none⟩:Addr).add 1) [.bool b] w K :=
 h.st hH (i:=1) { p with ends:=b } (by decide) rfl rfl rfl rfl ⟨h.par.ok.il,h.par.ok.pl,h.par.ok.dl,h.par.ok.la,h.par.ok.pv,h.par.ok.pr⟩ hK
theorem zbw (hH:HndOk H base fv) (h:PH H w base F p fv S s) (hc:0<=c/\c<128) (hok:jy H s (p.ended c).2) {K:Ub} (hK:∀F' S' s' w',PhT H base w F S F' S' (p.ended c).1 fv s' w'->Jw H s (p.ended c).2 s'->K w'):Qj (some ⟨F.pg,0,none⟩) c w K:=by
 refine qe7 _ _ ?_;simp only [onPtr_some];have hdef:p.ended c=(λp1:PS=>if c=92 then ({ p1 with st:=0 },(if p1.st=4 then [qg3 5 p1.data] else [])++p1.close 1) else if c=27 then (p1.begin_ 1,p1.close 0) else if c=24\/c=26 then ({ p1.begin_ 1 with st:=0 },p1.close 0++[evK 2 c]) else (((p1.begin_ 1).escape c).1,p1.close 0++((p1.begin_ 1).escape c).2)) { p with ends:=false }:=rfl;rw [hdef] at hok hK;refine zjd hH h false λw1 h1=>?_;obtain ⟨p1,hp1⟩:∃p1:PS,p1={ p with ends:=false }:=⟨_,rfl⟩;rw [<-hp1] at h1 hok hK;dsimp only at hok hK;have est:p.st=p1.st:=by rw [hp1]
 refine cO (λe=>?_) λe=>?_
 ·rw [if_pos (eq_of_beq e)] at hok hK;refine jpO λJ1 hJ1=>?_;have key:∀S2 s2 w2,PhT H base w F S F S2 p1 fv s2 w2->Jw H s (if p1.st=4 then [qg3 5 p1.data] else []) s2->J1 () w2:=by
   intro S2 s2 w2 h2 hr2;refine hJ1 _ _ (qhl hH h2.m (by omega) (jy.right hok hr2) λS3 s3 w3 h3 hr3=>?_);exact q08 hH h3.m 0 λw4 h4=>hK F S3 s3 w4 (h2.trans (h3.trans h4)) (Jw.append hr2 hr3)
  refine lI (x:=p1.st) (h1.m.par.blk.cells 0 _ rfl) (cO (λe=>?_) λe=>?_)
  ·have e:p1.st=4:=eq_of_beq e;have hok1:=jy.left hok;rw [if_pos e] at hok1;exact qvo hH h1.m hok1.1 λS2 s2 w2 h2 hr=>key S2 s2 w2 (h1.trans h2) (by rw [if_pos e];exact ⟨s2,hr,rfl⟩)
  ·have e:¬p1.st=4:=beq_eq_false_iff_ne.1 e;exact key S s w1 h1 (by rw [if_neg e];rfl)
 ·rw [if_neg (beq_eq_false_iff_ne.1 e)] at hok hK;have okc:jy H s (p1.close 0):=by
   revert hok;split
   ·exact id
   ·split
    ·exact jy.left
    ·exact jy.left
  refine qhl hH h1.m (by omega) okc λS2 s2 w2 h2 hr2=>?_;refine YG hH h2.m 1 λF3 w3 h3=>?_;have h03:=h1.trans (h2.trans h3);have epg:=h3.pg;rw [<-epg];refine jpO λJ2 hJ2=>?_;have key:(c=24\/c=26)->c≠27->J2 () w3:=by
   intro hh h27;rw [if_neg h27,if_pos hh] at hok hK;refine hJ2 _ _ (q08 hH h03.m 0 λw4 h4=>?_);refine qqn hH h4.m 2 0 c (by omega) (jy.right hok hr2).1 λS5 s5 w5 h5 hr5=>hK F3 S5 s5 w5 (h03.trans (h4.trans h5)) (Jw.append hr2 ⟨s5,hr5,rfl⟩)
  refine cO (λe=>?_) λe27=>?_
  ·rw [if_pos (eq_of_beq e)] at hok hK;exact hK F3 S2 s2 w3 h03 hr2
  have e27:¬c=27:=beq_eq_false_iff_ne.1 e27;refine cO (λe=>key (.inl (eq_of_beq e)) e27) λe24=>cO (λe=>key (.inr (eq_of_beq e)) e27) λe26=>?_;have n2:¬(c=24\/c=26):=λhh=>hh.elim (beq_eq_false_iff_ne.1 e24) (beq_eq_false_iff_ne.1 e26);rw [if_neg e27,if_neg n2] at hok hK;exact qn5 hH h03.m hc (jy.right hok hr2) λF4 S4 s4 w4 h4 hr4=>hK F4 S4 s4 w4 (h03.trans h4) (Jw.append hr2 hr4)
theorem q9d (hH:HndOk H base fv) (h:PH H w base F p fv S s) (hc:0<=c/\c<128) (hok:jy H s (p.step c).2) {K:Ub} (hK:∀F' S' s' w',PhT H base w F S F' S' (p.step c).1 fv s' w'->Jw H s (p.step c).2 s'->K w'):Zc (some ⟨F.pg,0,none⟩) c w K:=by
 refine qhx _ _ ?_;simp only [onPtr_some];unfold PS.step at hok hK;refine jpO λJ1 hJ1=>?_;refine jw (x:=p.ends) (h.par.blk.cells 1 _ rfl) ?_;cases hen:p.ends
 ·rw [if_neg (by rw [hen];decide)] at hok hK;refine cF rfl ?_;refine jpO λJ3 hJ3=>?_;have key:∀b:Bool,b=decide (c≠24/\c≠26/\c≠27)->J3 (b,()) w:=by
   intro b hb;refine hJ3 _ _ (cO (λe=>?_) λe=>?_)
   ·have e:b=true:=e;rw [e] at hb;rw [if_pos (oTq hb.symm)] at hok hK;exact q36 hH h hc hok hK
   ·have e:b=false:=e;rw [e] at hb;rw [if_neg (oFq hb.symm)] at hok hK;refine hJ1 _ _ (jpO λJ2 hJ2=>?_);have key2:∀w1,PhT H base w F S F S p fv s w1->J2 () w1:=by
     intro w1 h1;refine hJ2 _ _ (cO (λe=>?_) λe=>?_)
     ·have e:c≠27:=by simpa using e
      rw [if_pos e] at hok hK;refine qhl hH h1.m (by omega) (jy.left hok) λS2 s2 w2 h2 hr2=>?_;refine q08 hH h2.m 0 λw3 h3=>?_;exact qqn hH h3.m 2 0 c (by omega) (jy.right hok hr2).1 λS4 s4 w4 h4 hr4=>hK F S4 s4 w4 (h1.trans (h2.trans (h3.trans h4))) (Jw.append hr2 ⟨s4,hr4,rfl⟩)
     ·have e:¬c≠27:=by simpa using e
      rw [if_neg e] at hok hK;refine lI (x:=p.st) (h1.m.par.blk.cells 0 _ rfl) (cO (λe=>?_) λe=>?_)
      ·rw [if_pos (oTq e)] at hok hK;exact zjd hH h1.m true λw2 h2=>hK F S s w2 (h1.trans h2) rfl
      ·rw [if_neg (oFq e)] at hok hK;exact YG hH h1.m 1 λF2 w2 h2=>hK F2 S s w2 (h1.trans h2) rfl
    refine lI (x:=p.st) (h.par.blk.cells 0 _ rfl) (cO (λe=>?_) λe=>?_)
    ·exact h.ldCh (qp0 hH h λw1 h1=>qpr (key2 w1 h1))
    ·exact key2 w (PhT.refl h)
  refine cO (λe=>?_) λe=>?_
  ·have e:c≠24:=by simpa using e
   refine cO (λe2=>?_) λe2=>?_
   ·have e2:c≠26:=by simpa using e2
    refine key _ ?_;by_cases h27:c=27
    ·rw [h27];decide
    ·rw [dTq ⟨e,e2,h27⟩];simpa using h27
   ·have e2:c=26:=by simpa using e2
    exact key _ (by rw [e2];decide)
  ·have e:c=24:=by simpa using e
   exact key _ (by rw [e];decide)
 ·rw [if_pos hen] at hok hK;exact cT rfl (zbw hH h hc hok hK)
end
theorem zgp {α:Type} {f:α->Bool}:∀{l:List α},(∀x∈l,f x=true)->(l.takeWhile f).length=l.length
 | [],_=>rfl
 | a::l,h=>by
  rw [List.takeWhile_cons_of_pos (h a List.mem_cons_self),length_cons,length_cons,zgp λx hx=>h x (List.mem_cons_of_mem _ hx)]
theorem zk9 {α:Type} {f:α->Bool}:∀{l:List α} {m:Nat} {x:α},(∀y∈l.take m,f y=true)->l[m]?=some x->f x=false->(l.takeWhile f).length=m
 | [],m,x,_,h,_=>by cases h
 | a::l,0,x,_,h,hf=>by
  have h:a=x:=Option.some.inj h;rw [List.takeWhile_cons_of_neg (by rw [h,hf];decide)];rfl
 | a::l,m+1,x,ha,h,hf=>by
  rw [List.takeWhile_cons_of_pos (ha a (by simp)),length_cons,zk9 (l:=l) (m:=m) (λy hy=>ha y (by rw [List.take_succ_cons];exact List.mem_cons_of_mem _ hy)) h hf]
namespace PS
theorem runN_le (p:PS) (bs:List UInt8):p.runN bs<=bs.length:=by
 unfold runN;split
 ·exact zero_le _
 ·exact (List.takeWhile_sublist _).length_le
theorem qtl:∀(f:Nat) (p:PS) (bs:List UInt8),bs.length<=f->ze8 (f+1) p bs=ze8 f p bs
 | 0,p,bs,h=>by
  rw [List.eq_nil_of_length_eq_zero (by omega:bs.length=0)];rfl
 | f+1,p,[],h=>rfl
 | f+1,p,b::bs,h=>by
  have hl:bs.length<=f:=by simp at h;omega
  show (if 0<p.runN (b::bs) then _ else _)=(if 0<p.runN (b::bs) then _ else _);split
  ·rename_i hr;have hd:((b::bs).drop (p.runN (b::bs))).length<=f:=by rw [length_drop,length_cons];omega
   rw [qtl f p _ hd]
  ·dsimp only;rw [qtl f _ bs hl]
theorem zdq {f:Nat} {p:PS} {bs:List UInt8} (h:bs.length<=f):ze8 f p bs=p.eachB bs:=by
 induction f with
 | zero=>rw [List.eq_nil_of_length_eq_zero (by omega:bs.length=0)];rfl
 | succ f ih =>
  by_cases hf:bs.length=f+1
  ·unfold eachB;rw [hf]
  ·rw [qtl f p bs (by omega),ih (by omega)]
theorem eachB_run {p:PS} {b:UInt8} {bs:List UInt8} (h:0<p.runN (b::bs)):p.eachB (b::bs)=((p.eachB ((b::bs).drop (p.runN (b::bs)))).1,qg3 (if p.st=6 then 10 else 7) ((b::bs).take (p.runN (b::bs)))::(p.eachB ((b::bs).drop (p.runN (b::bs)))).2):=by
 have hd:((b::bs).drop (p.runN (b::bs))).length<=bs.length:=by rw [length_drop,length_cons];omega
 rw [<-zdq hd];show (if 0<p.runN (b::bs) then _ else _)=_;rw [if_pos h]
theorem eachB_step {p:PS} {b:UInt8} {bs:List UInt8} (h:¬0<p.runN (b::bs)):p.eachB (b::bs)=(((p.step b.toNat).1.eachB bs).1,(p.step b.toNat).2++((p.step b.toNat).1.eachB bs).2):=by
 rw [<-zdq (le_refl bs.length)];show (if 0<p.runN (b::bs) then _ else _)=_;rw [if_neg h]
end PS
section
variable {σ:Type} {H:Hnd σ} {w w':World} {base:Nat} {F F':PF} {p p':PS} {fv:Value} {S S':Nat->Prop} {s s':σ} {c:Int}
theorem zbc {x:UInt8} {K:Bool->Ub} (hK:K (qsu x.toNat) w):V7 (x.toNat:Int) w K:=by
 refine qei _ ?_;unfold qsu at hK;refine cO (λe=>?_) λe=>?_
 ·rw [e,Bool.true_or] at hK;exact hK
 rw [e,Bool.false_or] at hK;refine cO (λe=>?_) λe=>?_
 ·rw [e,Bool.true_or] at hK;exact hK
 rw [e,Bool.false_or] at hK;refine cO (λe=>?_) λe=>?_
 ·rw [e,Bool.true_or] at hK;exact hK
 rw [e,Bool.false_or] at hK;exact hK
theorem q91 (hH:HndOk H base fv) (h:PH H w base F p fv S s) {q:Slc} {bs:List UInt8} (hq:Rd qu w q bs) (hl:bs.length<=1000000) (hok:0<p.runN bs->H.ok s (qg3 (if p.st=6 then 10 else 7) (bs.take (p.runN bs)))) {K:Int->Ub}
  (h0:p.runN bs=0->K 0 w) (h1:0<p.runN bs->∀S' s' w',PhT H base w F S F S' p fv s' w'->H.R s (qg3 (if p.st=6 then 10 else 7) (bs.take (p.runN bs))) s'->K (p.runN bs:Nat) w'):ZS (some ⟨F.pg,0,none⟩) q w K:=by
 refine qjh _ _ ?_;simp only [onPtr_some];refine jpO λJ1 hJ1=>?_;have off:(p.ends=true\/p.st≠5/\p.st≠6)->K 0 w:=λhh=>h0 (by unfold PS.runN;rw [if_pos hh]);have key:¬(p.ends=true\/p.st≠5/\p.st≠6)->J1 () w:=by
  intro hh;have en:p.runN bs=(bs.takeWhile λb=>!qsu b.toNat).length:=by unfold PS.runN;rw [if_neg hh]
  refine hJ1 _ _ ?_;have tail:∀n:Nat,n=p.runN bs->n<=bs.length->qX (σ:=Int×Unit) (λs_1 w3=>cond (decide (s_1.1>(0:Int))) (slK q none (some s_1.1) 1 λt35=>xl (some ⟨F.pg,0,none⟩) t35 w3 λw4=>K s_1.1 w4) (K s_1.1 w3)) λJ2=>J2 ((n:Int),()) w:=by
   intro n hn hnl;refine jpO λJ2 hJ2=>hJ2 _ _ ?_;by_cases hp:0<n
   ·refine cT (dTq (by show (n:Int)>0;omega)) ?_;refine hq.slK (l:=0) (m:=n) rfl (.inl ⟨rfl,rfl⟩) (.inr rfl) (zero_le _) hnl λhr=>?_;rw [List.drop_zero] at hr;subst hn;exact ze6 hH h hr (by rw [List.length_take];omega) (hok hp) λS' s' w' hT hR=>h1 hp S' s' w' hT hR
   ·refine cF (dFq (by show ¬(n:Int)>0;omega)) ?_;have:n=0:=by omega
    subst this;exact h0 hn.symm
  refine Xt _ _ ?_;rw [hq.n];refine lpR (λ(st:Int×Unit) w1=>w1=w/\∃i:Nat,st.1=i/\i<=bs.length/\∀y∈bs.take i,(!qsu y.toNat)=true) (λst=>bs.length-st.1.toNat) ⟨rfl,0,rfl,by omega,λy hy=>by cases hy⟩ ?_;rintro ⟨i,u⟩ w1 ⟨rfl,m,hi,hm,hno⟩ I hI;dsimp only at hi ⊢;subst hi;by_cases hlt:m<bs.length
  ·refine cT (dTq (by omega)) ?_;obtain ⟨x,hx,hxs⟩:=Go.Vc.get_of (xs:=bs) (k:=m) hlt;refine hq.ix (i:=(m:Int)) (k:=1) rfl (by omega) (by omega) λhcell=>?_;rw [hxs] at hcell;refine zk7 (b:=x) hcell (callR_plain (by kernel_rfl) ?_);refine Calls.mono (zbc (x:=x) (K:=λt16 w2=>cond t16 (qX (σ:=Int×Unit) (λs_1 w3=>cond (decide (s_1.1>(0:Int))) (slK q none (some s_1.1) 1 λt35=>xl (some ⟨F.pg,0,none⟩) t35 w3 λw4=>K s_1.1 w4) (K s_1.1 w3)) λJ2=>cond (decide ((m:Int)<(0:Int))) (J2 (((bs.length:Nat):Int),()) w2) (J2 ((m:Int),()) w2)) (I ((i64.wrap ((m:Int)+(1:Int))),()) w2)) ?_) ?_
   ·cases hxl:qsu x.toNat with
    | true =>
     refine cT rfl ?_;rw [dFq (by omega)];exact tail m (by rw [en];exact (zk9 hno hx (by rw [hxl];rfl)).symm) hm
    | false =>
     refine cF rfl ?_;rw [qQ (by omega)];refine hI _ _ ⟨rfl,m+1,rfl,by omega,?_⟩ (by simp;omega);intro y hy;rw [List.take_add_one,hx] at hy;rcases List.mem_append.1 hy with h2 | h2
     ·exact hno y h2
     ·have h2:y=x:=by simpa using h2
      rw [h2,hxl];rfl
   ·rintro e w' ⟨r,rfl,hk⟩;exact ⟨r,rfl,hk⟩
  ·refine cF (dFq (by omega)) ?_;obtain rfl:m=bs.length:=by omega
   rw [take_length] at hno;show qX _ (λJ2=>cond (decide ((-1:Int)<0)) _ _);rw [show decide ((-1:Int)<0)=true from rfl];exact tail bs.length (by rw [en];exact (zgp hno).symm) (le_refl _)
 refine jw (x:=p.ends) (h.par.blk.cells 1 _ rfl) (cO (λe=>off (.inl e)) λe=>?_);have e:p.ends=false:=e;refine lI (x:=p.st) (h.par.blk.cells 0 _ rfl) (cO (λe5=>?_) λe5=>?_)
 ·have e5:p.st≠5:=by simpa using e5
  refine lI (x:=p.st) (h.par.blk.cells 0 _ rfl) (cO (λe6=>?_) λe6=>?_)
  ·have e6:p.st≠6:=by simpa using e6
   exact off (.inr ⟨e5,e6⟩)
  ·have e6:p.st=6:=by simpa using e6
   exact key (λhh=>hh.elim (λh=>by rw [e] at h;cases h) λh=>h.2 e6)
 ·have e5:p.st=5:=by simpa using e5
  exact key (λhh=>hh.elim (λh=>by rw [e] at h;cases h) λh=>h.1 e5)
def znu:Value:=.func (.func JZ) #[] #[]
theorem zmz {a:Addr} {v:Value} {w:World} {K:Ub} (h1:v.cells.toList=[v]) (h2:q4s v=true) (h:stK a [v] w K):stR a v w K:=by
 unfold stR;have hs:v.cells.size=1:=by rw [<-Array.length_toList,h1];rfl
 rw [hs,h1];show qfg true (qfg (q4s v && true) _);rw [h2];exact h
theorem ParsM.say (h:ParsM w base F p fv) (v:Value) {K:Ub} (hK:∀w',ParsM w' base F p v->Chg (λk=>k=F.pg) w w'->K w'):stK ((⟨F.pg,0,none⟩:Addr).add 11) [v] w K:=by
 rw [qH];refine qB h.blk (by show 0+11+1<=12;omega) λw1 hb hg hs=>hK w1 ?_ (Chg.gg hg);have hni:=h.ne_pg;have c1:Chg (λk=>k=F.pg) w w1:=Chg.gg hg;obtain ⟨r0,l0,h0,hch⟩:=h.ch;exact ⟨hb,⟨r0,l0,h0,hch.chg c1 (hni _ (.inl rfl))⟩,h.hg,h.qi.chg c1 λk hk=>hni k (.inr (.inl hk)),h.qp.chg c1 λk hk=>hni k (.inr (.inr (.inl hk))),h.qd.chg c1 λk hk=>hni k (.inr (.inr (.inr hk))),h.ne,h.ok⟩
theorem q7l {fv0:Value} (hH:HndOk H base fv) (f1:fv.cells.toList=[fv]) (f2:q4s fv=true) (hp:ParsM w base F p fv0) (hm:H.M w S s) (dj:∀k,JM F k->¬S k) {q:Slc} {bs:List UInt8} (hq:Rd qu w q bs) (hl:bs.length<=1000000) (hb:∀b∈bs,b.toNat<128)
  (hqn:∀a,q.a=some a->¬JM F a.block/\¬S a.block/\a.block<w.heap.size) (hok:jy H s (p.eachB bs).2) {K:Ub}
  (hK:∀F' S' s' w',ParsM w' base F' (p.eachB bs).1 znu->H.M w' S' s'->(∀k,JM F' k->¬S' k)->Jw H s (p.eachB bs).2 s'->(∀k,(JM F' k\/S' k)->(JM F k\/S k)\/w.heap.size<=k)->Chg (λk=>JM F k\/S k) w w'->F'.pg=F.pg->K w'):QX (some ⟨F.pg,0,none⟩) q fv w K:=by
 refine qhe _ _ _ ?_;simp only [onPtr_some];refine zmz f1 f2 (hp.say fv λw1 hp1 hc1=>?_);have hs1:=hc1.size;have cp1:Chg (JM F) w w1:=hc1.mono λk _ e=>.inl e;have h1:PH H w1 base F p fv S s:=⟨hp1,hH.keep hm cp1 (λk hk hp=>dj k hp hk) hp.far (λk hk=>(hp.below k hk).1),dj⟩;have hq1:Rd qu w1 q bs:=hq.chg cp1 λa ha=>(hqn a ha).1;refine lpR (λ(st:Slc×Unit) w2=>∃(rest:List UInt8) (evs:List EvP) (p2:PS) (F2:PF) (S2:Nat->Prop) (s2:σ),Rd qu w2 st.1 rest/\rest.length<=bs.length/\(∀b∈rest,b.toNat<128)/\(∀a,st.1.a=some a->¬JM F2 a.block/\¬S2 a.block/\a.block<w2.heap.size)/\PhT H base w1 F S F2 S2 p2 fv s2 w2/\Jw H s evs s2/\p.eachB bs=((p2.eachB rest).1,evs++(p2.eachB rest).2))
  (λst=>st.1.n) ⟨bs,[],p,F,S,s,hq1,le_refl _,hb,(λa ha=>⟨(hqn a ha).1,(hqn a ha).2.1,by have:=(hqn a ha).2.2;omega⟩),PhT.refl h1,rfl,rfl⟩ ?_
 rintro ⟨q2,u⟩ w2 ⟨rest,evs,p2,F2,S2,s2,hr2,hrl,hrb,hqn2,hT2,hR2,heq⟩ I hI;dsimp only at hr2 hqn2 ⊢;have hn2:=hr2.n;have epg:=hT2.pg;cases rest with
 | nil =>
  refine cF (by rw [hn2];rfl) ?_;rw [<-epg];have hfin:p2.eachB []=(p2,[]):=rfl;rw [hfin,List.append_nil] at heq;refine hT2.m.par.say znu λw3 hp3 hc3=>?_;have cp3:Chg (JM F2) w2 w3:=hc3.mono λk _ e=>.inl e;rw [heq] at hK;have z2:=hT2.chg.size;refine hK F2 S2 s2 w3 hp3 (hH.keep hT2.m.m cp3 (λk hk hp=>hT2.m.dj k hp hk) hT2.m.par.far (λk hk=>(hT2.m.par.below k hk).1)) hT2.m.dj hR2 (λk hk=>?_) ?_ hT2.pg
  ·rcases hT2.old k hk with h3 | h3
   ·exact .inl h3
   ·right;omega
  ·refine ((cp1.mono λk _ hk=>.inl hk).trans hT2.chg λi _ hi=>hi).trans cp3 λi hi hk=>?_;rcases hT2.old i (.inl hk) with h3 | h3
   ·exact h3
   ·have hlt:=(h1.par.below F.pg (.inl rfl)).2;exfalso;omega
 | cons b rest =>
  refine cT (by rw [hn2];simp<;>omega) ?_;rw [<-epg];rw [heq] at hok;have hok2:=jy.right hok hR2;refine q91 hH hT2.m hr2 (by omega) (λhpos=>?_) (λhz=>?_) λhpos S3 s3 w3 hT3 hR3=>?_
  ·rw [PS.eachB_run hpos] at hok2;exact hok2.1
  ·
   have hz:¬0<p2.runN (b::rest):=by omega
   refine cF rfl ?_;refine hr2.ix (i:=0) (k:=1) rfl (by decide) (by simp) λhc=>?_;have hc:q6 w2 (q2.at_ qu.k 0) [.int .u8 (b.toNat:Int)]:=hc;refine zk7 (b:=b) hc ?_;rw [PS.eachB_step hz] at heq hok2;refine q9d hH hT2.m ⟨by omega,by have:=hrb b List.mem_cons_self;omega⟩ (jy.left hok2) λF3 S3 s3 w3 hT3 hR3=>?_;have hr3:Rd qu w3 q2 (b::rest):=hr2.chg hT3.chg λa ha hh=>hh.elim (hqn2 a ha).1 (hqn2 a ha).2.1;refine hr3.slK (l:=1) (m:=(b::rest).length) rfl (.inr rfl) (.inl ⟨rfl,rfl⟩) (by simp) (le_refl _) λhr4=>?_;rw [take_length,List.drop_succ_cons,List.drop_zero] at hr4;have z3:=hT3.chg.size;refine hI _ _ ⟨rest,evs++(p2.step b.toNat).2,(p2.step b.toNat).1,F3,S3,s3,hr4,by simp at hrl;omega,(λy hy=>hrb y (List.mem_cons_of_mem _ hy)),(λa ha=>?_),hT2.trans hT3,Jw.append hR2 hR3,by rw [heq,List.append_assoc]⟩ ?_
   ·obtain ⟨a0,ha0,e⟩:=cut_block ha;obtain ⟨n1,n2,n3⟩:=hqn2 a0 ha0;rw [e];refine ⟨λhh=>?_,λhh=>?_,by omega⟩
    ·rcases hT3.old _ (.inl hh) with (h5 | h5) | h5
     ·exact n1 h5
     ·exact n2 h5
     ·omega
    ·rcases hT3.old _ (.inr hh) with (h5 | h5) | h5
     ·exact n1 h5
     ·exact n2 h5
     ·omega
   ·have:=hr4.n;show (b::rest).length-1<q2.n;rw [hn2];simp
  ·
   refine cT (dTq (by show ((p2.runN (b::rest):Nat):Int)>0;omega)) ?_;have hle:=PS.runN_le p2 (b::rest);have hr3:Rd qu w3 q2 (b::rest):=hr2.chg hT3.chg λa ha hh=>hh.elim (hqn2 a ha).1 (hqn2 a ha).2.1;refine hr3.slK (l:=p2.runN (b::rest)) (m:=(b::rest).length) rfl (.inr rfl) (.inl ⟨rfl,rfl⟩) hle (le_refl _) λhr4=>?_;rw [take_length] at hr4;have z3:=hT3.chg.size;refine hI _ _ ⟨(b::rest).drop (p2.runN (b::rest)),evs++[qg3 (if p2.st=6 then 10 else 7) ((b::rest).take (p2.runN (b::rest)))],p2,F2,S3,s3,hr4,by rw [length_drop];omega,(λy hy=>hrb y (List.mem_of_mem_drop hy)),(λa ha=>?_),hT2.trans hT3,Jw.append hR2 ⟨s3,hR3,rfl⟩,by rw [heq,PS.eachB_run hpos,List.append_assoc];rfl⟩ ?_
   ·obtain ⟨a0,ha0,e⟩:=cut_block ha;obtain ⟨n1,n2,n3⟩:=hqn2 a0 ha0;rw [e];refine ⟨λhh=>?_,λhh=>?_,by omega⟩
    ·rcases hT3.old _ (.inl hh) with (h5 | h5) | h5
     ·exact n1 h5
     ·exact n2 h5
     ·omega
    ·rcases hT3.old _ (.inr hh) with (h5 | h5) | h5
     ·exact n1 h5
     ·exact n2 h5
     ·omega
   ·show (b::rest).length-p2.runN (b::rest)<q2.n;rw [hn2];omega
end
theorem StOk.mono {n m:Nat} {S:St} (h:StOk n S) (hm:n<=m):StOk m S :=
 ⟨h.q0,h.q1,h.used,h.fits,le_trans h.len hm,h.clk0,by have:=h.clk;omega,h.srt,λp hp=>⟨(h.keys p hp).1,by have:=(h.keys p hp).2;omega⟩,h.stamps,h.borns,h.st1,h.bo1⟩
def zmj (k:qb) (p:Pl):KR:=⟨q89 k 0 [],p.Rows,p.Cols,k.Stay !=1⟩
def zn5 (E:KE) (p:Pl):KE:={ E with T:=(E.T.filter λo=>!qqw p o)++[p] }
def yd (E:KE) (k:qb) (id:Int) (v:qs):KE×KR×Bool :=
 if (qd8 E.S k id v).2=0 then
  (if q21 (qd8 E.S k id v).1 then (zn5 E (qd8 E.S k id v).1,zmj k (qd8 E.S k id v).1,true) else (E,qcq k 1 [],false))
 else (E,qcq k (qd8 E.S k id v).2 [],false)
section
variable {w w':World} {base g n:Nat} {F F':KF} {E E':KE}
theorem Tab.below4 (h:Tab w) (hB:Below 4 w w'):Tab w':=var?_below (g:=3) hB (by kernel_rfl) (by decide) h
theorem EngT.belowB (h:EngM w base g F E n) {n':Nat} (hT:EngT base g w F F' E' n' w'):Below base w w':=hT.chg.below (le_trans h.hg (Nat.le_of_lt h.blk.lt)) λi hi hs=>by have:=(h.below i hs).1;omega
theorem Tab.stepK (hTab:Tab w) (h:EngM w base g F E n) (hb:4<=base) {n':Nat} (hT:EngT base g w F F' E' n' w'):Tab w':=hTab.below4 ((EngT.belowB h hT).mono hb)
theorem EngM.up (h:EngM w base g F E n) {m:Nat} (hm:n<=m):EngM w base g F E m:=h.mono hm (h.ok.mono hm)
theorem EngT.up {F1:KF} {E1:KE} {n1:Nat} (h:EngT base g w F F1 E1 n1 w') {m:Nat} (hm:n1<=m):EngT base g w F F1 E1 m w':=⟨h.m.up hm,h.old,h.chg,h.ls⟩
theorem qw0 (h:EngM w base g F E n) (hn:n<=90000) (hT:Tab w) (h4:4<=base) {k:qb} (hw:qg9 (toL k)) (id:Int) (v:qs) {K:qc->Bool->Ub}
  (hK:∀r F' w',qi1 w' r (yd E k id v).2.1->EngT base g w F F' (yd E k id v).1 (n+1) w'->(∀j,r.Reply.blk=some j->w.heap.size<=j/\¬kF g F' j)->K r (yd E k id v).2.2 w'):kV (some ⟨g,0,none⟩) k id v w K:=by
 refine qeu _ _ _ _ ?_;simp only [onPtr_some];refine nwb λw1 hk1 hB1 hs1=>nwb λw2 hv2 hB2 hs2=>nwb λw3 ht3 hB3 hs3=>?_;have hk3:=(hk1.ext hB2).ext hB3;have hv3:=hv2.ext hB3;have B3:=vG hB1 hB2 hB3;refine qy (r:=qb.rep) (x:=k) hk3.cells (qy (r:=qs.rep) (x:=v) hv3.cells ?_);refine zcj (h.ext B3) k id v λw4 hB4=>?_;unfold yd at hK;generalize (qd8 E.S k id v).1=p at *;generalize (qd8 E.S k id v).2=x at *;refine jd (vs:=qf.rep.cells p) rfl λw6 hp6 hB6 hs6=>?_;have B6:=vG B3 hB4 hB6;have hk6:=(hk3.ext hB4).ext hB6;have ht6:=(ht3.ext hB4).ext hB6;have h6:EngT base g w F F E (n+1) w6:=(EngT.of_ext h B6).up (by omega);have z1:=hB1.size;have z2:=hB2.size;have z3:=hB3.size;have z4:=hB4.size;have z6:=hB6.size;have nLS:∀{b:Nat},w.heap.size<=b->¬F.LS b:=λhb hk=>by have:=(h.below _ (.inr (.inr (.inr hk)))).2;omega
 have tys:qI≠zL/\qI≠zG/\qI≠jp/\qI≠qL/\qI≠za:=by decide
 have lt3:=ht3.lt;have lt6:=ht6.lt;have lk6:=hk6.lt;refine jpO λJ hJ=>?_;have bad:∀y:Int,y≠0->(∀r F' w',qi1 w' r (qcq k y [])->EngT base g w F F' E (n+1) w'->(∀j,r.Reply.blk=some j->w.heap.size<=j/\¬kF g F' j)->K r false w')->J (y,()) w6:=by
  intro y hy hK;refine hJ _ _ (cT (by simpa using hy) (qy (r:=qb.rep) (x:=k) hk6.cells ?_));refine Q9 (hT.ext B6) hw y [] (by simp) λq w8 hq hB8 hqb=>?_;have h8:=h6.ext hB8;have ht8:=ht6.ext hB8;refine zn (r:=qc.rep) (x:=⟨q,0,0,false⟩) ht8 rfl rfl λw9 hc9 hs9=>?_;exact hK _ F w9 ⟨hq.chg hc9 λa ha e=>by have:=hqb a.block (slk.2 ⟨a,ha,rfl⟩);omega,rfl,rfl,rfl⟩ (h8.other ht8 tys (nLS (by omega)) (by omega) hc9) (λj hj=>⟨by have:=hqb j hj;omega,λhs=>by have:=(h6.m.below _ hs).2;have:=hqb j hj;omega⟩)
 by_cases hx:x=0
 ·rw [if_pos hx] at hK;refine cT (by simpa using hx) (qK (x:=some ⟨F.tg,0,none⟩) (h6.m.drew.blk.cells 2 _ rfl) ?_);refine qy (r:=qf.rep) (x:=p) hp6.drew.cells ?_;have h6d:=h6.ext (vL w6);refine q9i h6d.m.tb (by have:=h.tl;omega) (le_trans h6d.m.hg (Nat.le_of_lt h6d.m.blk.lt)) p (λhm w7 hB7=>?_) λhm q' w7 ht' hq' hc7=>?_
  ·rw [if_neg (by rw [hm];decide)] at hK;have hB67:Uc w6 w7:=zv (vL w6) hB7;refine hJ _ _ (cT rfl (qy (r:=qb.rep) (x:=k) (hk6.ext hB67).cells ?_));refine Q9 (hT.ext (zv B6 hB67)) hw 1 [] (by simp) λq w8 hq hB8 hqb=>?_;have h8:=(h6.ext hB67).ext hB8;have ht8:=(ht6.ext hB67).ext hB8;refine zn (r:=qc.rep) (x:=⟨q,0,0,false⟩) ht8 rfl rfl λw9 hc9 hs9=>?_;have z7:=hB67.size;exact hK _ F w9 ⟨hq.chg hc9 λa ha e=>by have:=hqb a.block (slk.2 ⟨a,ha,rfl⟩);omega,rfl,rfl,rfl⟩ (h8.other ht8 tys (nLS (by omega)) (by omega) hc9) (λj hj=>⟨by have:=hqb j hj;omega,λhs=>by have:=((h6.ext hB67).m.below _ hs).2;have:=hqb j hj;omega⟩)
  ·rw [if_pos hm] at hK;have hll:((E.T.filter λo=>!qqw p o)++[p]).length<=n+1:=by
    rw [length_append,List.length_singleton];have:=List.length_filter_le (λo=>!qqw p o) E.T;have:=h.tl;omega
   have h7:=h6d.trans (EngT.tab h6d.m ht' hq' hc7 hll);have hT7:=hT.stepK h h4 h7;have z7:=hc7.size;have e6:w6.drew.heap.size=w6.heap.size:=rfl;have tgl:F.tg<w.heap.size:=h.tb.blk.lt;have hk7:=hk6.drew.chg hc7 λe=>by omega
   have ht7:=ht6.drew.chg hc7 λe=>by omega
   have hp7:=hp6.drew.chg hc7 λe=>by omega
   refine hJ _ _ (cF rfl (qy (r:=qb.rep) (x:=k) hk7.cells ?_));refine Q9 hT7 hw 0 [] (by simp) λq w10 hq hB10 hqb=>?_;refine jd (vs:=qc.rep.cells ⟨q,0,0,false⟩) rfl λw12 ho12 hB12 hs12=>?_;have B712:=zv hB10 hB12;have hk12:=(hk7.ext B712).drew;have hp12:=(hp7.ext B712).drew;have ht12:=(ht7.ext B712).drew;have h12:=(h7.ext B712).ext (vL w12);have hq12:=(hq.ext hB12).drew;refine lI (x:=p.Rows) (hp12.cells 5 _ rfl) (lI (x:=p.Cols) (hp12.cells 6 _ rfl) (lI (x:=k.Stay) (hk12.cells 21 _ rfl) ?_));have z10:=hB10.size;have z12:=hB12.size;have lk7:=hk7.lt;have lp7:=hp7.lt;have lt7:=ht7.lt;show stK ⟨w10.heap.size,1,none⟩ _ _ _;refine qB ho12.drew (by show (1+1:Nat)<=4;omega) λw13 ho13 hg13 hs13=>?_;have hc13:Chg (λi=>i=w10.heap.size) w12.drew w13:=Chg.of_grown hg13 λk hk=>by cases hk;rfl
   have ho13:Blk w13 w10.heap.size qI (qc.rep.cells ⟨q,p.Rows,0,false⟩):=ho13;have hk13:=hk12.chg hc13 λe=>by omega
   have hp13:=hp12.chg hc13 λe=>by omega
   have ht13:=ht12.chg hc13 λe=>by omega
   refine ⟨hk13.cells 21 _ rfl,hp13.cells 6 _ rfl,?_⟩;show stK ⟨w10.heap.size,2,none⟩ _ _ _;refine qB ho13 (by show (2+1:Nat)<=4;omega) λw14 ho14 hg14 hs14=>?_;have hc14:Chg (λi=>i=w10.heap.size) w13 w14:=Chg.of_grown hg14 λk hk=>by cases hk;rfl
   have ho14:Blk w14 w10.heap.size qI (qc.rep.cells ⟨q,p.Rows,p.Cols,false⟩):=ho14;refine ⟨(hk13.chg hc14 λe=>by omega).cells 21 _ rfl,?_⟩;show stK ⟨w10.heap.size,3,none⟩ _ _ _;refine qB ho14 (by show (3+1:Nat)<=4;omega) λw15 ho15 hg15 hs15=>?_;have hc15:Chg (λi=>i=w10.heap.size) w14 w15:=Chg.of_grown hg15 λk hk=>by cases hk;rfl
   have ho15:Blk w15 w10.heap.size qI (qc.rep.cells ⟨q,p.Rows,p.Cols,k.Stay !=1⟩):=ho15;have hcc:Chg (λi=>i=w10.heap.size) w12.drew w15:=(hc13.trans hc14 λi _ hi=>hi).trans hc15 λi _ hi=>hi;have ht15:=ht12.chg hcc λe=>by omega
   have h15:=h12.other ho12.drew tys (nLS (by omega)) (by omega) hcc;have hq15:Rd qu w15 q (q89 k 0 []):=qme hq12 hcc λhp a ha e=>by
    have:=zdi hq hp a ha;omega
   refine qy (r:=qc.rep) (x:=⟨q,p.Rows,p.Cols,k.Stay !=1⟩) ho15.cells ?_;refine zn (r:=qc.rep) (x:=⟨q,p.Rows,p.Cols,k.Stay !=1⟩) ht15 rfl rfl λw16 hc16 hs16=>?_;exact hK _ _ w16 ⟨hq15.chg hc16 λa ha e=>by have:=hqb a.block (slk.2 ⟨a,ha,rfl⟩);omega,rfl,rfl,rfl⟩ (h15.other ht15 tys (nLS (by omega)) (by omega) hc16) (λj hj=>⟨by have:=hqb j hj;omega,λhs=>by have:=(h7.m.below _ hs).2;have:=hqb j hj;omega⟩)
 ·rw [if_neg hx] at hK;exact cF (by simpa using hx) (bad x hx hK)
end
theorem q18 (n:Int):∀(f:Nat) (S:St) (G:List Int),(S.roomF n f G).2.length<=G.length+f
 | 0,S,G=>by show G.length<=_;omega
 | f+1,S,G=>by
  unfold St.roomF;split
  ·have:=q18 n f (S.drop (y6 S.L)) (G++[y6 S.L]);rw [length_append,List.length_singleton] at this;omega
  ·show G.length<=_;omega
def q0o (S:St) (id:Int):St:=if id=0 then { S with res:=0 } else ({ S with res:=0 }:St).drop id
theorem zhq (S:St) (id:Int):∀p∈(q0o S id).L,p∈S.L:=by
 intro p hp;unfold q0o at hp;split at hp
 ·exact hp
 ·exact ((qlc _ _ _).1 hp).2
theorem zg1 (S:St) (id:Int):(q0o S id).L.length<=S.L.length:=by
 unfold q0o;split
 ·exact le_refl _
 ·exact List.length_filter_le _ _
theorem qz6 (S:St) (id:Int) (n:Nat):∀p∈(S.putPre id n).1.L,p∈S.L:=λp hp=>zhq S id p (qsy _ _ _ _ p hp)
theorem zb1 (S:St) (id:Int) (n:Nat):(S.putPre id n).2.length<=S.L.length:=by
 have h:=q18 (n:Int) (q0o S id).L.length (q0o S id) [];have h2:=zg1 S id;show ((q0o S id).roomF n (q0o S id).L.length []).2.length<=_;simp only [List.length_nil] at h;omega
def idK (E:KE) (k:qb) (bs:List UInt8):Int:=Y5 (E.S.putPre k.Id bs.length).1.L k.Id
def qob (E:KE) (k:qb) (W H:Int) (bs:List UInt8) (P:Slc):KE :=
 { E with S:=(E.S.putPre k.Id bs.length).1.putAt (idK E k bs) k.Number W H P bs,T:=qz0 E.T ((E.S.putPre k.Id bs.length).2++[idK E k bs]) }
def vW (E:KE) (k:qb) (bs:List UInt8):qb:=if k.Id=0/\k.Number≠0 then { k with Id:=idK E k bs } else k
def qnz (E:KE) (k:qb) (W H:Int) (bs:List UInt8) (P:Slc) (v:qs):KE×KR :=
 if qdq E.S k.Id k.Number W H bs.length≠0 then (E,qcq k (qdq E.S k.Id k.Number W H bs.length) [])
 else if k.Action≠84 then (qob E k W H bs P,qcq (vW E k bs) 0 [])
 else ((yd (qob E k W H bs P) (vW E k bs) (idK E k bs) v).1,(yd (qob E k W H bs P) (vW E k bs) (idK E k bs) v).2.1)
theorem zdg {k:qb} (hw:qg9 (toL k)) {id:Int} (h:-9223372036854775808<=id/\id<=9223372036854775807):qg9 (toL { k with Id:=id }):=by
 have e:toL { k with Id:=id }=(toL k).set 8 id:=rfl;intro i;rw [e,List.getElem?_set];by_cases hi:8=i
 ·rw [if_pos hi];rw [if_pos (by rw [q4y];omega)];exact h
 ·rw [if_neg hi];exact hw i
section
variable {w w':World} {base g n:Nat} {F F':KF} {E E':KE}
theorem zcw {S:St} (h:StOk n S) (id:Int):StOk n (q0o S id):=by
 unfold q0o;split
 ·exact qpg h 0
 ·exact qmn (qpg h 0) id
def qe2 (t:TypeId):Prop:=t≠zL/\t≠zG/\t≠jp/\t≠qL/\t≠za
instance (t:TypeId):Decidable (qe2 t):=by unfold qe2;infer_instance
theorem EngM.far (h:EngM w base g F E n) {T:Nat->Prop} (hc:Chg T w w') (hT:∀k,T k->(∃t vs,Blk w k t vs/\qe2 t)/\¬F.LS k):EngM w' base g F E n:=by
 have nt:∀{b:Nat} {t:TypeId} {vs:List Value},Blk w b t vs->¬qe2 t->¬T b:=λ{b t vs} hb hn hTb=>by
  obtain ⟨⟨t',vs',hb',ht'⟩,_⟩:=hT _ hTb;by_cases e:t'=t
  ·exact hn (e ▸ ht')
  ·exact hb'.ne_t hb e rfl
 refine ⟨h.blk.chg hc (nt h.blk (by decide)),h.hg,h.st.keep hc (nt h.st.blk (by decide)) (λe=>?_) (λp hp k hk e=>?_),h.ok,h.hs,h.tb.chg hc ?_,h.tl,
  λC s hl=>⟨(h.lo C s hl).1.chg hc λk hk e=>(hT k e).2 hk,(h.lo C s hl).2⟩,h.nl,h.dg,h.ds,h.dt,h.di⟩
 ·obtain ⟨⟨t',vs',hb',_⟩,_⟩:=hT _ e;exact h.st.map.ne_blk hb' rfl
 ·obtain ⟨cs,hcs⟩:=((h.st.img p hp).blk k hk).2;exact nt hcs (by decide) e
 ·rintro k (hk | hk) e
  ·exact nt h.tb.blk (by decide) (hk ▸ e)
  ·obtain ⟨cs,hcs⟩:=h.tb.own.blk_t hk;exact nt hcs (by decide) e
theorem EngT.far {F1:KF} {E1:KE} {n1:Nat} {w1 w2:World} (h:EngT base g w F F1 E1 n1 w1) {T:Nat->Prop} (hc:Chg T w1 w2) (hT:∀k,T k->(∃t vs,Blk w1 k t vs/\qe2 t)/\¬F1.LS k) (hw:∀k,T k->w.heap.size<=k) :
  EngT base g w F F1 E1 n1 w2:=⟨h.m.far hc hT,h.old,h.chg.trans hc λk hk e=>by have:=hw k e;omega,h.ls⟩
theorem EngM.not_in4 (h:EngM w base g F E n) {b:Nat} {t:TypeId} {vs:List Value} (hb:Blk w b t vs) (ht:t≠zL/\t≠zG/\t≠jp/\t≠qL) (hLS:¬F.LS b):¬kF g F b:=by
 obtain ⟨t1,t2,t3,t4⟩:=ht;rintro (e | (e | e) | (e | e) | e)
 ·exact hb.ne_t h.blk t1 e
 ·exact hb.ne_t h.st.blk t2 e
 ·exact h.st.map.ne_blk hb e.symm
 ·exact hb.ne_t h.tb.blk t3 e
 ·exact qF h.tb.own hb (λe=>t4 e.symm) b e rfl
 ·exact hLS e
theorem EngM.not_in (h:EngM w base g F E n) {b:Nat} {t:TypeId} {vs:List Value} (hb:Blk w b t vs) (ht:qe2 t) (hLS:¬F.LS b):¬kF g F b:=by
 obtain ⟨t1,t2,t3,t4,t5⟩:=ht;rintro (e | (e | e) | (e | e) | e)
 ·exact hb.ne_t h.blk t1 e
 ·exact hb.ne_t h.st.blk t2 e
 ·exact h.st.map.ne_blk hb e.symm
 ·exact hb.ne_t h.tb.blk t3 e
 ·exact qF h.tb.own hb (λe=>t4 e.symm) b e rfl
 ·exact hLS e
theorem zfa (h:EngM w base g F E n) (hn:n<=900) (hT:Tab w) (h4:4<=base) {k:qb} (hw:qg9 (toL k)) {m:qa} {bs:List UInt8} (hP:Rd qu w m.P bs) (hPg:∀a,m.P.a=some a->¬kF g F a.block) (v:qs) {K:qc->Ub}
  (hK:∀P r F' w',qi1 w' r (qnz E k m.W m.H bs P v).2->EngT base g w F F' (qnz E k m.W m.H bs P v).1 (n+2) w'->(∀j,r.Reply.blk=some j->w.heap.size<=j/\¬kF g F' j)->(∀j,P.blk=some j->w.heap.size<=j)->K r w'):Za (some ⟨g,0,none⟩) k m v w K:=by
 refine qhu _ _ _ _ ?_;simp only [onPtr_some];refine nwb λw1 hk1 hB1 hs1=>nwb λw2 hm2 hB2 hs2=>nwb λw3 hv3 hB3 hs3=>nwb λw4 ht4 hB4 hs4=>?_;have B4:=zv (vG hB1 hB2 hB3) hB4;have hk4:=((hk1.ext hB2).ext hB3).ext hB4;have hm4:=(hm2.ext hB3).ext hB4;have hv4:=hv3.ext hB4;have h4':=(h.ext B4).drew;have B4d:=B4.drew;have z1:=hB1.size;have z2:=hB2.size;have z3:=hB3.size;have z4:=hB4.size;have lk4:=hk4.lt;have lv4:=hv4.lt;have lt4:=ht4.lt;have nE:∀{b:Nat},w.heap.size<=b->¬kF g F b:=λhb hk=>by have:=(h.below _ hk).2;omega
 have nLS:∀{b:Nat},w.heap.size<=b->¬F.LS b:=λhb hk=>nE hb (.inr (.inr (.inr hk)));have tys:qI≠zL/\qI≠zG/\qI≠jp/\qI≠qL/\qI≠za:=by decide
 have tyk:qV≠zL/\qV≠zG/\qV≠jp/\qV≠qL/\qV≠za:=by decide
 refine qK (x:=some ⟨F.sg,0,none⟩) (h4'.blk.cells 1 _ rfl) ?_;refine lI (x:=k.Id) (hk4.drew.cells 8 _ rfl) (lI (x:=k.Number) (hk4.drew.cells 9 _ rfl) (qy (r:=qa.rep) (x:=m) hm4.drew.cells ?_));refine zgl h4'.st h.ok (by omega) (le_trans h4'.hg (Nat.le_of_lt h4'.blk.lt)) (hP.ext B4d) (λ_ a ha hs=>hPg a ha (.inr (.inl hs))) (λw5 he _ hB5=>?_) λP q w5 he hst hok hq hc5 hPb=>?_
 ·
  have B5:=zv B4d hB5;refine cT (by simpa using he) (qy (r:=qb.rep) (x:=k) (hk4.drew.ext hB5).cells ?_);refine Q9 (hT.ext B5) hw _ [] (by simp) λq w6 hq hB6 hqb=>?_;have ht6:=(ht4.drew.ext hB5).ext hB6;have h6:EngT base g w F F E (n+2) w6:=(EngT.of_ext h (zv B5 hB6)).up (by omega);refine zn (r:=qc.rep) (x:=⟨q,0,0,false⟩) ht6 rfl rfl λw7 hc7 hs7=>?_;have e4:w4.drew.heap.size=w4.heap.size:=rfl;have z5:=hB5.size;refine hK ⟨none,0,0⟩ _ F w7 ?_ ?_ (λj hj=>⟨by have:=hqb j hj;omega,λhs=>by have:=(h.below _ hs).2;have:=hqb j hj;omega⟩) λj hj=>by cases hj
  ·unfold qnz;rw [if_pos he];exact ⟨hq.chg hc7 λa ha e=>by have:=hqb a.block (slk.2 ⟨a,ha,rfl⟩);omega,rfl,rfl,rfl⟩
  ·unfold qnz;rw [if_pos he];exact h6.other ht6 tys (nLS (by omega)) (by omega) hc7
 ·
  refine cF rfl ?_;have e4:w4.drew.heap.size=w4.heap.size:=rfl;have hPw:∀j,P.blk=some j->w.heap.size<=j:=λj hj=>by have:=hPb j hj;omega
  have hle:=zb1 E.S k.Id bs.length;have hol:=h.ok.len;have hpk:StOk n (E.S.putPre k.Id bs.length).1:=qlt _ _ (zcw h.ok k.Id);have h5:=(EngT.of_ext h B4d).trans (EngT.store h4' hst hok (by omega) hc5 (λj hj=>by
   obtain ⟨p,hp,hb⟩:=hj;obtain ⟨a,b⟩:=p;rcases (Qk hpk.srt _ _ a b).1 hp with ⟨rfl,rfl⟩ | ⟨_,hp'⟩
   ·exact .inr (hPb j hb)
   ·exact .inl ⟨(a,b),qz6 _ _ _ _ hp',hb⟩))
  have hid:=hok.keys (Y5 (E.S.putPre k.Id bs.length).1.L k.Id,⟨⟨k.Number,⟨m.W,m.H,P⟩,(E.S.putPre k.Id bs.length).1.clock+1,(E.S.putPre k.Id bs.length).1.clock+1⟩,bs⟩) ((Qk hpk.srt _ _ _ _).2 (.inl ⟨rfl,rfl⟩));dsimp only at hid;have z5:=hc5.size;have hk5:=hk4.drew.chg hc5 λe=>nE (le_refl _) (.inr (.inl e));have hv5:=hv4.drew.chg hc5 λe=>nE (by omega:w.heap.size<=w2.heap.size) (.inr (.inl e));have ht5:=ht4.drew.chg hc5 λe=>nE (by omega:w.heap.size<=w3.heap.size) (.inr (.inl e));refine qa5 (E:=jG) qew hq (y:=Y5 (E.S.putPre k.Id bs.length).1.L k.Id) rfl z5 (by rw [qmi];omega) (by unfold maxLen;omega) λr w9 ho9 hc9 hr9=>?_;have h9:=h5.far hc9 (λj hj=>⟨by obtain ⟨cs,hcs⟩:=hq.blk_t hj;exact ⟨_,cs,hcs,by decide⟩,nLS (by have:=(hq.lt j hj).1;omega)⟩) λj hj=>by have:=(hq.lt j hj).1;omega
  have nq:∀{j:Nat},j<w4.heap.size->¬q.blk=some j:=λhj e=>by have:=(hq.lt _ e).1;omega
  have hk9:=hk5.chg hc9 (nq lk4);have hv9:=hv5.chg hc9 (nq lv4);have ht9:=ht5.chg hc9 (nq lt4);refine q3j h9.m (by omega) ho9.rd (λa ha=>qF ho9 h9.m.tb.blk (by decide) a.block (slk.2 ⟨a,ha,rfl⟩)) λq' w10 h10=>?_;have hk10:=hk9.chg h10.chg (nE (le_refl _));have hv10:=hv9.chg h10.chg (nE (by omega:w.heap.size<=w2.heap.size));have ht10:=ht9.chg h10.chg (nE (by omega:w.heap.size<=w3.heap.size));have hE10:EngT base g w F { F with q:=q' } (qob E k m.W m.H bs P) (n+1) w10:=h9.trans h10;have ek:qnz E k m.W m.H bs P v=if k.Action≠84 then (qob E k m.W m.H bs P,qcq (vW E k bs) 0 []) else ((yd (qob E k m.W m.H bs P) (vW E k bs) (idK E k bs) v).1,(yd (qob E k m.W m.H bs P) (vW E k bs) (idK E k bs) v).2.1):=by
   unfold qnz;rw [if_neg (λhh=>hh he)]
  refine jpO λJ1 hJ1=>?_;have j1:∀wx,Blk wx w.heap.size qV (qb.rep.cells (vW E k bs))->Blk wx w2.heap.size zS (qs.rep.cells v)->Blk wx w3.heap.size qI [(.slice none 0 0),(Ua 0),(Ua 0),(.bool false)]->EngT base g w F { F with q:=q' } (qob E k m.W m.H bs P) (n+1) wx->J1 (()) wx:=by
   intro w11 hk11 hv11 ht11 h11;refine hJ1 _ _ ?_;have hT11:=hT.stepK h h4 h11;have hwn:qg9 (toL (vW E k bs)):=by
    unfold vW;split
    ·exact zdg hw (by unfold idK;omega)
    ·exact hw
   have ea:(vW E k bs).Action=k.Action:=by
    unfold vW;split<;>rfl
   have lt11:=ht11.lt;refine lI (x:=(vW E k bs).Action) (hk11.cells 0 _ rfl) ?_;rw [ea];by_cases hac:k.Action=84
   ·rw [if_neg (λhh=>hh hac)] at ek;refine cF (by simpa using hac) (qy (r:=qb.rep) (x:=vW E k bs) hk11.cells (qy (r:=qs.rep) (x:=v) hv11.cells ?_));refine qw0 h11.m (by omega) hT11 h4 hwn (idK E k bs) v λr F14 w14 hr14 h14 hrb=>?_;have hE14:=h11.trans h14;have n3:¬kF g { F with q:=q' } w3.heap.size:=h11.m.not_in ht11 tys (nLS (by omega));have ht14:=ht11.chg h14.chg n3;refine jd (vs:=qc.rep.cells r) rfl λw16 ho16 hB16 hs16=>?_;refine qy (r:=qc.rep) (x:=r) ho16.cells ?_;have ht16:=ht14.ext hB16;refine zn (r:=qc.rep) (x:=r) ht16 rfl rfl λw17 hc17 hs17=>?_;have nF14:¬F14.LS w3.heap.size:=λhk=>by
     rcases h14.ls _ hk with hk | hk
     ·exact nLS (by omega:w.heap.size<=w3.heap.size) hk
     ·omega
    refine hK P r F14 w17 ?_ ?_ (λj hj=>⟨by have:=(hrb j hj).1;have:=h11.chg.size;omega,(hrb j hj).2⟩) hPw
    ·rw [ek];have hr16:=hr14.ext hB16;exact ⟨hr16.1.chg hc17 λa ha e=>by have:=(hrb a.block (slk.2 ⟨a,ha,rfl⟩)).1;omega,hr16.2⟩
    ·rw [ek];exact (hE14.ext hB16).other ht16 tys nF14 (by omega) hc17
   ·rw [if_pos hac] at ek;refine cT (by simpa using hac) (qy (r:=qb.rep) (x:=vW E k bs) hk11.cells ?_);refine Q9 hT11 hwn 0 [] (by simp) λq2 w12 hq2 hB12 hqb2=>?_;have ht12:=ht11.ext hB12;refine zn (r:=qc.rep) (x:=⟨q2,0,0,false⟩) ht12 rfl rfl λw13 hc13 hs13=>?_;refine hK P _ _ w13 ?_ (?_:EngT base g w F { F with q:=q' } _ (n+2) w13) (λj hj=>⟨by have:=hqb2 j hj;have:=h11.chg.size;omega,λhs=>by have:=(h11.m.below _ hs).2;have:=hqb2 j hj;omega⟩) hPw
    ·rw [ek];exact ⟨hq2.chg hc13 λa ha e=>by have:=hqb2 a.block (slk.2 ⟨a,ha,rfl⟩);omega,rfl,rfl,rfl⟩
    ·rw [ek];exact ((h11.ext hB12).up (by omega)).other ht12 tys (nLS (by omega)) (by omega) hc13
  refine jpO λJ2 hJ2=>?_;have j2:∀b:Bool,(b=true↔k.Id=0/\k.Number≠0)->J2 (b,()) w10:=by
   intro b hb;refine hJ2 _ _ ?_;cases b
   ·refine cF rfl (j1 w10 ?_ hv10 ht10 hE10);have:vW E k bs=k:=by unfold vW;rw [if_neg (λhh=>by have:=hb.2 hh;cases this)]
    rw [this];exact hk10
   ·refine cT rfl ?_;show stK ⟨w.heap.size,8,none⟩ _ _ _;refine qB hk10 (by show (8+1:Nat)<=22;omega) λw11 hk11 hg11 hs11=>?_;have hc11:Chg (λi=>i=w.heap.size) w10 w11:=Chg.of_grown hg11 λk hk=>by cases hk;rfl
    refine j1 w11 ?_ (hv10.chg hc11 λe=>by omega) (ht10.chg hc11 λe=>by omega) (hE10.other hk10 tyk (nLS (le_refl _)) (le_refl _) hc11);have:vW E k bs={ k with Id:=idK E k bs }:=by unfold vW;rw [if_pos (hb.1 rfl)]
    rw [this];exact hk11
  refine lI (x:=k.Id) (hk10.cells 8 _ rfl) (cO (λe=>?_) λe=>?_)
  ·have e:=eq_of_beq e;refine lI (x:=k.Number) (hk10.cells 9 _ rfl) (j2 _ ⟨λhh=>⟨e,by simpa using hh⟩,λhh=>by simpa using hh.2⟩)
  ·exact j2 _ ⟨λhh=>(by cases hh),λhh=>absurd hh.1 (beq_eq_false_iff_ne.1 e)⟩
end
def zlq:List UInt8:=[69,66,65,68,80,78,71]
def qyw (k:qb) (x:Int):List UInt8:=if k.Format=100/\(x=2\/x=3\/x=4\/x=8\/x=1) then zlq else []
def q0i (E:KE) (C:LdK) (s:LdS) (k:qb) (P:Slc) (v:qs):KE×KR :=
 if ((qre C s).1:Int)≠0\/k.Action=113 then (E.idle,qcq k ((qre C s).1:Int) (qyw k ((qre C s).1:Int)))
 else qnz E.idle k ((qre C s).2.1:Int) ((qre C s).2.2.1:Int) (qre C s).2.2.2 P v
section
variable {w w':World} {base g n:Nat} {F F':KF} {E E':KE}
theorem EngT.load (h:EngM w base g F E n) {C:LdK} {s s':LdS} (hl:E.ld=some (C,s)) {S':Nat->Prop} (ha:LdA w' base F.lg F.gd C s' S') (hS:∀k,S' k->F.LS k\/w.heap.size<=k) (hc:Chg F.LS w w') :
  EngT base g w F { F with LS:=S' } { E with ld:=some (C,s') } n w':=by
 have old:∀k,k<w.heap.size->¬F.LS k->¬S' k:=λk hk hn hs=>by
  rcases hS k hs with h1 | h1
  ·exact hn h1
  ·omega
 have hb:Blk w' g zL (qty { F with LS:=S' } { E with ld:=some (C,s') }):=by
  have h1:=h.blk.chg hc h.dg;have e:qty { F with LS:=S' } { E with ld:=some (C,s') }=qty F E:=by
   unfold qty;rw [hl];rfl
  rw [e];exact h1
 refine ⟨⟨hb,h.hg,h.st.keep hc h.ds.1 h.ds.2 (λp hp k hk e=>h.di k ⟨p,hp,hk⟩ e),h.ok,h.hs,h.tb.chg hc h.dt,h.tl,λC1 s1 h1=>?_,(λh1=>by cases h1),old _ h.blk.lt h.dg,⟨old _ h.st.blk.lt h.ds.1,old _ h.st.map.lt h.ds.2⟩,λk hk=>old _ (h.tb.lt k hk).2 (h.dt k hk),λk hk=>?_⟩,?_,hc.mono λk _ hk=>.inr (.inr (.inr hk)),hS⟩
 ·cases h1;exact ⟨ha,(h.lo C s hl).2⟩
 ·obtain ⟨p,hp,hb⟩:=hk;exact old _ ((h.st.img p hp).lt k hb).2 (h.di k ⟨p,hp,hb⟩)
 ·rintro k (hk | hk | hk | hk)
  ·exact .inl (.inl hk)
  ·exact .inl (.inr (.inl hk))
  ·exact .inl (.inr (.inr (.inl hk)))
  ·rcases hS k hk with h1 | h1
   ·exact .inl (.inr (.inr (.inr h1)))
   ·exact .inr h1
theorem zcf (k:qb) (x:Int):(qyw k x).length<=100000:=by
 unfold qyw;split
 ·show (7:Nat)<=_;omega
 ·show (0:Nat)<=_;omega
theorem zhx (h:EngM w base g F E n) (hn:n<=900) (hT:Tab w) (h4:4<=base) {C:LdK} {s:LdS} (hl:E.ld=some (C,s)) (hsm:s.b.length<=32000) {k:qb} (hw:qg9 (toL k)) (v:qs) {K:qc->Ub}
  (hK:∀P r F' w',qi1 w' r (q0i E C s k P v).2->EngT base g w F F' (q0i E C s k P v).1 (n+2) w'->(∀j,r.Reply.blk=some j->w.heap.size<=j/\¬kF g F' j)->(∀j,P.blk=some j->w.heap.size<=j)->K r w'):ZU (some ⟨g,0,none⟩) k v w K:=by
 refine qi9 _ _ _ ?_;simp only [onPtr_some];refine nwb λw1 hk1 hB1 hs1=>nwb λw2 hv2 hB2 hs2=>nwb λw3 ht3 hB3 hs3=>?_;have B3:=vG hB1 hB2 hB3;have hk3:=(hk1.ext hB2).ext hB3;have hv3:=hv2.ext hB3;have h3:=h.ext B3;have z1:=hB1.size;have z2:=hB2.size;have z3:=hB3.size;have lk3:=hk3.lt;have lv3:=hv3.lt;have lt3:=ht3.lt;have nE:∀{b:Nat},w.heap.size<=b->¬kF g F b:=λhb hk=>by have:=(h.below _ hk).2;omega
 have nLS:∀{b:Nat},w.heap.size<=b->¬F.LS b:=λhb hk=>nE hb (.inr (.inr (.inr hk)));have tys:qe2 qI:=by decide
 have tyk:qe2 qV:=by decide
 refine qK (x:=some ⟨F.lg,0,none⟩) (by have:=h3.blk.cells 3 _ rfl;rw [hl] at this;exact this) ?_;obtain ⟨hld,hcf⟩:=h3.lo C s hl;refine zep hld (le_trans h3.hg (Nat.le_of_lt h3.blk.lt)) hcf hsm λm S' w4 hld4 hm4 hmS hS' hc4=>?_;have h4e:=(EngT.of_ext h B3).trans (EngT.load h3 hl hld4 hS' hc4);have hk4:=hk3.chg hc4 (nLS (le_refl _));have hv4:=hv3.chg hc4 (nLS (by omega));have ht4:=ht3.chg hc4 (nLS (by omega));have z4:=hc4.size;refine jd (vs:=qa.rep.cells m) rfl λw6 hm6 hB6 hs6=>?_;have hk6:=hk4.ext hB6;have hv6:=hv4.ext hB6;have ht6:=ht4.ext hB6;have h6:=h4e.ext hB6;have hmo6:=hm4.2.2.ext hB6;have z6:=hB6.size;obtain ⟨hmW,hmH,hmo⟩:=hm4;obtain ⟨x,hx⟩:∃x:Int,x=((qre C s).1:Int):=⟨_,rfl⟩;rw [<-hx];refine jpO λJ1 hJ1=>?_;have j1:J1 (ze (qyw k x),()) w6:=by
  refine hJ1 _ _ (jpO λJ2 hJ2=>?_);refine q2w h6.m λF7 w7 h7 hq7 htg7=>?_;have nS6:∀{b:Nat} {t:TypeId} {vs:List Value},w.heap.size<=b->b<w3.heap.size->Blk w6 b t vs->qe2 t->¬kF g { F with LS:=S' } b:=λh1 h2 hb ht=>h6.m.not_in hb ht λhs=>by
   rcases hS' _ hs with h5 | h5
   ·exact nLS h1 h5
   ·omega
  have hE7:=h6.trans h7;have hk7:=hk6.chg h7.chg (nS6 (le_refl _) (by omega) hk6 (by decide));have hv7:=hv6.chg h7.chg (nS6 (by omega) (by omega) hv6 (by decide));have ht7:=ht6.chg h7.chg (nS6 (by omega) (by omega) ht6 (by decide));have hm7:Blk w7 w4.heap.size qz (qa.rep.cells m):=hm6.chg h7.chg (h6.m.not_in hm6 (by decide) λhs=>by
   have:=(hld4.lt _ hs).2;omega)
  have hT7:=hT.stepK h h4 hE7;have nLS7:∀{b:Nat},w.heap.size<=b->b<w3.heap.size->¬F7.LS b:=λh1 h2 hs=>by
   have:∀j,¬F7.LS j:=h7.m.nl rfl;exact this _ hs
  have lt7:=ht7.lt;refine jpO λJ3 hJ3=>?_;have j3:J3 (decide (x≠0\/k.Action=113),()) w7:=by
   refine hJ3 _ _ ?_;by_cases hb:x≠0\/k.Action=113
   ·rw [dTq hb];refine cT rfl (qy (r:=qb.rep) (x:=k) hk7.cells ?_);refine Q9 hT7 hw x (qyw k x) (zcf k x) λq w8 hq hB8 hqb=>?_;have ht8:=ht7.ext hB8;refine zn (r:=qc.rep) (x:=⟨q,0,0,false⟩) ht8 rfl rfl λw9 hc9 hs9=>?_;have ek:q0i E C s k ⟨none,0,0⟩ v=(E.idle,qcq k x (qyw k x)):=by
     unfold q0i;rw [<-hx,if_pos hb]
    have z7:=h7.chg.size;refine hK ⟨none,0,0⟩ _ F7 w9 ?_ ?_ (λj hj=>⟨by have:=hqb j hj;omega,λhs=>by have:=(h7.m.below _ hs).2;have:=hqb j hj;omega⟩) λj hj=>by cases hj
    ·rw [ek];exact ⟨hq.chg hc9 λa ha e=>by have:=hqb a.block (slk.2 ⟨a,ha,rfl⟩);omega,rfl,rfl,rfl⟩
    ·rw [ek];exact ((hE7.ext hB8).up (by omega)).other ht8 tys (nLS7 (by omega) (by omega)) (by omega) hc9
   ·rw [dFq hb];refine cF rfl (hJ2 _ _ ?_);refine qy (r:=qb.rep) (x:=k) hk7.cells (qy (r:=qa.rep) (x:=m) hm7.cells (qy (r:=qs.rep) (x:=v) hv7.cells ?_));have hmo7:=hmo6.chg h7.chg λj hj hs=>by
     obtain ⟨cs,hcs⟩:=hmo6.blk_t hj;exact h6.m.not_in4 hcs (by decide) (hmS j hj) hs
    refine zfa h7.m hn hT7 h4 hw hmo7.rd (λa ha hs=>?_) v λP r F9 w9 hr hE9 hrb hPb=>?_
    ·have hj:m.P.blk=some a.block:=slk.2 ⟨a,ha,rfl⟩;obtain ⟨cs,hcs⟩:=hmo7.blk_t hj;exact h7.m.not_in4 hcs (by decide) (h7.m.nl rfl _) hs
    ·have n3:¬kF g F7 w2.heap.size:=h7.m.not_in ht7 tys (nLS7 (by omega) (by omega));have ht9:=ht7.chg hE9.chg n3;have ek:∀P,q0i E C s k P v=qnz E.idle k m.W m.H (qre C s).2.2.2 P v:=by
      intro P;unfold q0i;rw [<-hx,if_neg hb,hmW,hmH]
     refine zn (r:=qc.rep) (x:=r) ht9 rfl rfl λw10 hc10 hs10=>?_;have z7:=h7.chg.size;have nF9:¬F9.LS w2.heap.size:=λhs=>by
      rcases hE9.ls _ hs with h1 | h1
      ·exact nLS7 (by omega) (by omega) h1
      ·omega
     refine hK P r F9 w10 ?_ ?_ (λj hj=>⟨by have:=(hrb j hj).1;omega,(hrb j hj).2⟩) λj hj=>by have:=hPb j hj;omega
     ·rw [ek];exact ⟨hr.1.chg hc10 λa ha e=>by have:=(hrb a.block (slk.2 ⟨a,ha,rfl⟩)).1;omega,hr.2⟩
     ·rw [ek];exact (hE7.trans hE9).other ht9 tys nF9 (by omega) hc10
  by_cases hx0:x=0
  ·refine cF (by simpa using hx0) (lI (x:=k.Action) (hk7.cells 0 _ rfl) ?_);have e:(k.Action==113)=decide (x≠0\/k.Action=113):=by
    by_cases ha:k.Action=113
    ·rw [dTq (.inr ha)];exact beq_iff_eq.2 ha
    ·rw [dFq (λhh=>hh.elim (λh=>h hx0) ha)];exact beq_eq_false_iff_ne.2 ha
   rw [e];exact j3
  ·rw [dTq (.inl hx0)] at j3;exact cT (by simpa using hx0) j3
 have e1:(⟨#[69,66,65,68,80,78,71]⟩:ByteArray)=ze zlq:=rfl;have e2:(⟨#[]⟩:ByteArray)=ze []:=rfl;rw [e1,e2];unfold qyw at j1;refine lI (x:=k.Format) (hk6.cells 5 _ rfl) (cO (λf=>?_) λf=>?_)
 ·have f:=eq_of_beq f;have yes:(x=2\/x=3\/x=4\/x=8\/x=1)->J1 (ze zlq,()) w6:=λh=>by rw [if_pos ⟨f,h⟩] at j1;exact j1
  refine cO (λa=>cT a (yes (.inl (eq_of_beq a)))) λa=>?_;refine cO (λb=>cT b (yes (.inr (.inl (eq_of_beq b))))) λb=>?_;refine cO (λc=>cT c (yes (.inr (.inr (.inl (eq_of_beq c)))))) λc=>?_;refine cO (λd=>cT d (yes (.inr (.inr (.inr (.inl (eq_of_beq d))))))) λd=>?_;refine cO (λe=>yes (.inr (.inr (.inr (.inr (eq_of_beq e)))))) λe=>?_;rw [if_neg (λhh=>by rcases hh.2 with h | h | h | h | h<;>simp [h] at a b c d e)] at j1;exact j1
 ·rw [if_neg (λhh=>(beq_eq_false_iff_ne.1 f) hh.1)] at j1;exact j1
end
def QW (f k:qb):qb:=if k.Quiet≠0 then { f with Quiet:=k.Quiet } else f
def qo7 (E:KE) (C:LdK) (s:LdS) (ts:List UInt8):KE:={ E with ld:=some (C,ZF C s ts) }
def qf5 (E:KE) (C:LdK) (s:LdS) (k:qb) (ts:List UInt8) (P:Slc) (v:qs):KE×KR :=
 if (ZF C s ts).err≠0 then ((qo7 E C s ts).idle,qcq (QW E.first k) (((ZF C s ts).err:Nat):Int) [])
 else if ((qo7 E C s ts).reserve 0).2≠0 then (((qo7 E C s ts).reserve 0).1.idle,qcq (QW E.first k) ((qo7 E C s ts).reserve 0).2 [])
 else if k.More=1 then (((qo7 E C s ts).reserve 0).1,kr0)
 else q0i ((qo7 E C s ts).reserve 0).1 C (ZF C s ts) (QW E.first k) P v
theorem za0 (E:KE) (m:Int):(E.reserve m).1.ld=E.ld:=by
 unfold KE.reserve;split
 ·rfl
 ·split<;>rfl
theorem q90 {f k:qb} (hf:qg9 (toL f)) (hk:qg9 (toL k)):qg9 (toL (QW f k)):=by
 unfold QW;split
 ·have e:toL { f with Quiet:=k.Quiet }=(toL f).set 4 k.Quiet:=rfl;intro i;rw [e,List.getElem?_set];by_cases hi:4=i
  ·rw [if_pos hi,if_pos (by rw [q4y];omega)];exact hk 4
  ·rw [if_neg hi];exact hf i
 ·exact hf
section
variable {w w':World} {base g n:Nat} {F F':KF} {E E':KE}
theorem ze3 (h:EngM w base g F E n) (hn:n<=900) (hT:Tab w) (h4:4<=base) {C:LdK} {s:LdS} (hl:E.ld=some (C,s)) (hov:s.over=false) {text:Slc} {ts:List UInt8} (hpot:qnf s+3*ts.length<=120000) (ht:Rd qu w text ts) (htS:∀k,text.blk=some k->ts≠[]->¬F.LS k)
  {k:qb} (hwf:qg9 (toL E.first)) (hwk:qg9 (toL k)) (v:qs) {K:qc->Ub}
  (hK:∀P r F' w',qi1 w' r (qf5 E C s k ts P v).2->EngT base g w F F' (qf5 E C s k ts P v).1 (n+2) w'->(∀j,r.Reply.blk=some j->w.heap.size<=j/\¬kF g F' j)->(∀j,P.blk=some j->w.heap.size<=j)->K r w'):vl (some ⟨g,0,none⟩) k text v w K:=by
 refine qh8 _ _ _ _ ?_;simp only [onPtr_some];refine nwb λw1 hk1 hB1 hs1=>nwb λw2 hv2 hB2 hs2=>nwb λw3 ht3 hB3 hs3=>?_;have B3:=vG hB1 hB2 hB3;have h3:=h.ext B3;refine qy (r:=qb.rep) (x:=E.first) (h3.blk.sub 4 _ rfl) ?_;refine jd (vs:=qb.rep.cells E.first) rfl λw5 hf5 hB5 hs5=>?_;have B5:=zv B3 hB5;have hk5:=((hk1.ext hB2).ext hB3).ext hB5;have hv5:=(hv2.ext hB3).ext hB5;have ht5:=ht3.ext hB5;have z1:=hB1.size;have z2:=hB2.size;have z3:=hB3.size;have z5:=hB5.size;have lf5:=hf5.lt;have nE:∀{b:Nat},w.heap.size<=b->¬kF g F b:=λhb hk=>by have:=(h.below _ hk).2;omega
 have nLS:∀{b:Nat},w.heap.size<=b->¬F.LS b:=λhb hk=>nE hb (.inr (.inr (.inr hk)));have tys:qe2 qI:=by decide
 have hwq:=q90 hwf hwk;refine jpO λJ1 hJ1=>?_;have j1:∀wx,Uc w wx->w5.heap.size<=wx.heap.size->Blk wx w3.heap.size qV (qb.rep.cells (QW E.first k))->Blk wx w.heap.size qV (qb.rep.cells k)->Blk wx w1.heap.size zS (qs.rep.cells v)->Blk wx w2.heap.size qI [(.slice none 0 0),(Ua 0),(Ua 0),(.bool false)]->J1 (()) wx:=by
  intro w6 B6 z56 hf6 hk6 hv6 ht6;refine hJ1 _ _ ?_;have h6:=h.ext B6;refine qK (x:=some ⟨F.lg,0,none⟩) (by have:=h6.blk.cells 3 _ rfl;rw [hl] at this;exact this) ?_;obtain ⟨hld,hcf⟩:=h6.lo C s hl;refine zex hld (le_trans h6.hg (Nat.le_of_lt h6.blk.lt)) hov (ht.ext B6) htS hpot λS' w7 hld7 hov7 hpot7 hS' hc7=>?_;have h7:=(EngT.of_ext h B6).trans (EngT.load h6 hl hld7 hS' hc7);have lf6:=hf6.lt;have z7:=hc7.size;have hf7:=hf6.chg hc7 (nLS (by omega));have hk7:=hk6.chg hc7 (nLS (le_refl _));have hv7:=hv6.chg hc7 (nLS (by omega));have ht7:=ht6.chg hc7 (nLS (by omega));have hT7:=hT.stepK h h4 h7;refine jpO λJ2 hJ2=>?_;have bad:∀(x:Int) (E2:KE) (F8:KF) (w8:World),x≠0->EngT base g w F F8 E2 n w8->w7.heap.size<=w8.heap.size->(∀j,F8.LS j->S' j)->Blk w8 w3.heap.size qV (qb.rep.cells (QW E.first k))->Blk w8 w2.heap.size qI [(.slice none 0 0),(Ua 0),(Ua 0),(.bool false)] ->
    (∀P,qf5 E C s k ts P v=(E2.idle,qcq (QW E.first k) x []))->J2 (x,()) w8:=by
   intro x E2 F8 w8 hx h8 z78 hLS8 hf8 ht8 em;refine hJ2 _ _ (cT (by simpa using hx) ?_);have nS:∀{b:Nat},w.heap.size<=b->b<w5.heap.size->¬F8.LS b:=λh1 h2 hs=>by
    rcases hS' _ (hLS8 _ hs) with h5 | h5
    ·exact nLS h1 h5
    ·omega
   refine q2w h8.m λF9 w9 h9 hq9 htg9=>?_;have hE9:=h8.trans h9;have hf9:=hf8.chg h9.chg (h8.m.not_in hf8 (by decide) (nS (by omega) (by omega)));have ht9:=ht8.chg h9.chg (h8.m.not_in ht8 (by decide) (nS (by omega) (by omega)));have z9:=h9.chg.size;refine qy (r:=qb.rep) (x:=QW E.first k) hf9.cells ?_;refine Q9 (hT.stepK h h4 hE9) hwq x [] (by simp) λq w10 hq hB10 hqb=>?_;have ht10:=ht9.ext hB10;refine zn (r:=qc.rep) (x:=⟨q,0,0,false⟩) ht10 rfl rfl λw11 hc11 hs11=>?_;refine hK ⟨none,0,0⟩ _ F9 w11 ?_ ?_ (λj hj=>⟨by have:=hqb j hj;omega,λhs=>by have:=(hE9.m.below _ hs).2;have:=hqb j hj;omega⟩) λj hj=>by cases hj
   ·rw [em];exact ⟨hq.chg hc11 λa ha e=>by have:=hqb a.block (slk.2 ⟨a,ha,rfl⟩);omega,rfl,rfl,rfl⟩
   ·rw [em];exact ((hE9.ext hB10).up (by omega)).other ht10 tys (λhs=>h9.m.nl rfl _ hs) (by omega) hc11
  by_cases he:(ZF C s ts).err=0
  ·refine cT (by rw [he];rfl) ?_;have hz7:EngM w7 base g { F with LS:=S' } (qo7 E C s ts) n:=h7.m;refine qzs hz7 (by omega) 0 λF8 w8 h8 hlg8 hgd8 hLS8=>?_;have hE8:=h7.trans h8;have z8:=h8.chg.size;have nS:∀{b:Nat},w.heap.size<=b->b<w5.heap.size->¬S' b:=λh1 h2 hs=>by
    rcases hS' _ hs with h5 | h5
    ·exact nLS h1 h5
    ·omega
   have hf8:=hf7.chg h8.chg (hz7.not_in hf7 (by decide) (nS (by omega) (by omega)));have hk8:=hk7.chg h8.chg (hz7.not_in hk7 (by decide) (nS (le_refl _) (by omega)));have hv8:=hv7.chg h8.chg (hz7.not_in hv7 (by decide) (nS (by omega) (by omega)));have ht8:=ht7.chg h8.chg (hz7.not_in ht7 (by decide) (nS (by omega) (by omega)));by_cases hx:((qo7 E C s ts).reserve 0).2=0
   ·rw [hx];refine hJ2 _ _ (cF rfl (lI (x:=k.More) (hk8.cells 11 _ rfl) ?_));have nF8:∀{b:Nat},w.heap.size<=b->b<w5.heap.size->¬F8.LS b:=λh1 h2 hs=>nS h1 h2 (by rw [hLS8] at hs;exact hs);by_cases hm:k.More=1
    ·refine cT (by simpa using hm) ?_;refine zn (r:=qc.rep) (x:=⟨⟨none,0,0⟩,0,0,false⟩) ht8 rfl rfl λw9 hc9 hs9=>?_;have em:∀P,qf5 E C s k ts P v=(((qo7 E C s ts).reserve 0).1,kr0):=λP=>by
      unfold qf5;rw [if_neg (λhh=>hh he),if_neg (λhh=>hh hx),if_pos hm]
     refine hK ⟨none,0,0⟩ _ F8 w9 ?_ ?_ (λj hj=>by cases hj) λj hj=>by cases hj
     ·rw [em];exact qi1.nil _
     ·rw [em];exact (hE8.up (by omega)).other ht8 tys (nF8 (by omega) (by omega)) (by omega) hc9
    ·refine cF (by simpa using hm) (qy (r:=qb.rep) (x:=QW E.first k) hf8.cells (qy (r:=qs.rep) (x:=v) hv8.cells ?_));have hl8:((qo7 E C s ts).reserve 0).1.ld=some (C,ZF C s ts):=za0 _ _;have hbl:(ZF C s ts).b.length<=32000:=by
      unfold qnf at hpot7 hpot;omega
     refine zhx h8.m hn (hT.stepK h h4 hE8) h4 hl8 hbl hwq v λP r F9 w9 hr h9 hrb hPb=>?_;have ht9:=ht8.chg h9.chg (h8.m.not_in ht8 (by decide) (nF8 (by omega) (by omega)));have lt8:=ht8.lt;refine zn (r:=qc.rep) (x:=r) ht9 rfl rfl λw10 hc10 hs10=>?_;have em:qf5 E C s k ts P v=q0i ((qo7 E C s ts).reserve 0).1 C (ZF C s ts) (QW E.first k) P v:=by
      unfold qf5;rw [if_neg (λhh=>hh he),if_neg (λhh=>hh hx),if_neg hm]
     refine hK P r F9 w10 ?_ ?_ (λj hj=>⟨by have:=(hrb j hj).1;omega,(hrb j hj).2⟩) λj hj=>by have:=hPb j hj;omega
     ·rw [em];exact ⟨hr.1.chg hc10 λa ha e=>by have:=(hrb a.block (slk.2 ⟨a,ha,rfl⟩)).1;omega,hr.2⟩
     ·rw [em];refine (hE8.trans h9).other ht9 tys (λhs=>?_) (by omega) hc10;rcases h9.ls _ hs with h1 | h1
      ·exact nF8 (by omega) (by omega) h1
      ·omega
   ·refine bad _ _ F8 w8 hx hE8 z8 (λj hj=>by rw [hLS8] at hj;exact hj) hf8 ht8 λP=>?_;unfold qf5;rw [if_neg (λhh=>hh he),if_pos hx]
  ·have hne:(((ZF C s ts).err:Nat):Int)≠0:=by omega
   refine cF (by simpa using he) ?_;refine bad _ (qo7 E C s ts) { F with LS:=S' } w7 hne h7 (le_refl _) (λj hj=>hj) hf7 ht7 λP=>?_;unfold qf5;rw [if_pos he]
 refine lI (x:=k.Quiet) (hk5.cells 4 _ rfl) ?_;by_cases hq:k.Quiet=0
 ·refine cF (by simpa using hq) (j1 w5 B5 (le_refl _) ?_ hk5 hv5 ht5);have:QW E.first k=E.first:=by unfold QW;rw [if_neg (λhh=>hh hq)]
  rw [this];exact hf5
 ·refine cT (by simpa using hq) (lI (x:=k.Quiet) (hk5.cells 4 _ rfl) ?_);show stK ⟨w3.heap.size,4,none⟩ _ _ _;refine qB hf5 (by show (4+1:Nat)<=22;omega) λw6 hf6 hg6 hs6=>?_;have hc6:Chg (λi=>i=w3.heap.size) w5 w6:=Chg.of_grown hg6 λk hk=>by cases hk;rfl
  have:QW E.first k={ E.first with Quiet:=k.Quiet }:=by unfold QW;rw [if_pos hq]
  refine j1 w6 (B5.trans (hc6.below B5.size λi hi e=>by omega)) (by omega) ?_ (hk5.chg hc6 λe=>by omega) (hv5.chg hc6 λe=>by omega) (ht5.chg hc6 λe=>by omega);rw [this];exact hf6
end
def q0r (E:KE) (k:qb):LdK:=⟨k,E.quota.toNat,(yA k).2⟩
def zho (E:KE) (k:qb):KE:={ E with ld:=some (q0r E k,ld0),first:=k }
def qku (E:KE) (k:qb) (ts:List UInt8) (P:Slc) (v:qs):KE×KR :=
 if qwj k E.quota≠0 then (E,qcq k ((qwj k E.quota:Nat):Int) []) else qf5 (zho E k) (q0r E k) ld0 k ts P v
theorem zcb (F:KF) (E:KE) (k:qb):putL (qty F E) 4 (qb.rep.cells k)=qty F { E with first:=k }:=by kernel_rfl
theorem zji (F:KF) (E:KE) (lg gd:Nat) (LS:Nat->Prop) (x:LdK×LdS):putL (qty F E) 3 [.pointer (some ⟨lg,0,none⟩)]=qty { F with lg:=lg,gd:=gd,LS:=LS } { E with ld:=some x }:=rfl
theorem q9b (F:KF) (E:KE):(qty F E).length=26:=rfl
section
variable {w w':World} {base g n:Nat} {F F':KF} {E E':KE}
theorem LdA.weak {B lg gd:Nat} {C:LdK} {s:LdS} {S:Nat->Prop} (h:LdA w B lg gd C s S) (hb:base<=B):LdA w base lg gd C s S:=by
 obtain ⟨⟨p,h1,h2⟩,h3,h4,h5,h6,h7⟩:=h;refine ⟨⟨p,h1,?_⟩,h3,h4,h5,h6,λk hk=>⟨le_trans hb (h7 k hk).1,(h7 k hk).2⟩⟩;rcases h2 with h2 | ⟨x,a,b,c,d,e⟩
 ·exact .inl h2
 ·exact .inr ⟨x,a.base hb,b.base hb,c,d,e⟩
theorem q9k (h:EngM w base g F E n) (hn:n<=900) (hT:Tab w) (h4:4<=base) (hl:E.ld=none) (hq:E.quota<=100000) {text:Slc} {ts:List UInt8} (hts:ts.length<=40000) (ht:Rd qu w text ts) (htg:∀j,text.blk=some j->ts≠[]->¬kF g F j)
  {k:qb} (hwk:qg9 (toL k)) (hraw:k.Format≠100/\k.Zip≠122) (v:qs) {K:qc->Ub}
  (hK:∀P r F' w',qi1 w' r (qku E k ts P v).2->EngT base g w F F' (qku E k ts P v).1 (n+2) w'->(∀j,r.Reply.blk=some j->w.heap.size<=j/\¬kF g F' j)->(∀j,P.blk=some j->w.heap.size<=j)->K r w'):Qn (some ⟨g,0,none⟩) k text v w K:=by
 refine qf7 _ _ _ _ ?_;simp only [onPtr_some];refine nwb λw1 hk1 hB1 hs1=>nwb λw2 hv2 hB2 hs2=>nwb λw3 ht3 hB3 hs3=>?_;have B3:=(vG hB1 hB2 hB3).drew;have hk3:=((hk1.ext hB2).ext hB3).drew;have hv3:=(hv2.ext hB3).drew;have ht3:=ht3.drew;have h3:=h.ext B3;have z1:=hB1.size;have z2:=hB2.size;have z3:=hB3.size;have lt3:=ht3.lt;have e3:w3.drew.heap.size=w3.heap.size:=rfl;have gl:=h.blk.lt;have nE:∀{b:Nat},w.heap.size<=b->¬kF g F b:=λhb hk=>by have:=(h.below _ hk).2;omega
 have nLS:∀{b:Nat},w.heap.size<=b->¬F.LS b:=λhb hk=>nE hb (.inr (.inr (.inr hk)));have tys:qe2 qI:=by decide
 refine qy (r:=qb.rep) (x:=k) hk3.cells (lI (x:=E.quota) (h3.blk.cells 0 _ rfl) ?_);refine zd2 (λhe w4 hB4=>?_) λhe lg gd w4 hld hB4=>?_
 ·refine cT (by simp;omega) (qy (r:=qb.rep) (x:=k) (hk3.ext hB4).cells ?_);have B4:=zv B3 hB4;refine Q9 (hT.ext B4) hwk _ [] (by simp) λq w5 hq hB5 hqb=>?_;have ht5:=(ht3.ext hB4).ext hB5;have em:∀P,qku E k ts P v=(E,qcq k ((qwj k E.quota:Nat):Int) []):=λP=>by unfold qku;rw [if_pos he]
  have z4:=hB4.size;refine zn (r:=qc.rep) (x:=⟨q,0,0,false⟩) ht5 rfl rfl λw6 hc6 hs6=>?_;refine hK ⟨none,0,0⟩ _ F w6 ?_ ?_ (λj hj=>⟨by have:=hqb j hj;omega,λhs=>by have:=(h.below _ hs).2;have:=hqb j hj;omega⟩) λj hj=>by cases hj
  ·rw [em];exact ⟨hq.chg hc6 λa ha e=>by have:=hqb a.block (slk.2 ⟨a,ha,rfl⟩);omega,rfl,rfl,rfl⟩
  ·rw [em];exact ((EngT.of_ext h (zv B4 hB5)).up (by omega)).other ht5 tys (nLS (by omega)) (by omega) hc6
 ·refine cF rfl ?_;have B4:=(zv B3 hB4).drew;have h4e:=h.ext B4;have hk4:=(hk3.ext hB4).drew;have hv4:=(hv3.ext hB4).drew;have ht4:=(ht3.ext hB4).drew;have z4:=hB4.size;have e4:w4.drew.heap.size=w4.heap.size:=rfl;refine qy (r:=qb.rep) (x:=k) hk4.cells ?_;show stK ⟨g,3,none⟩ _ _ _;refine qB h4e.blk (by rw [q9b];show (3+1:Nat)<=26;omega) λw7 hb7 hg7 hs7=>?_;have hc7:Chg (λi=>i=g) w4.drew w7:=Chg.of_grown hg7 λk hk=>by cases hk;rfl
  have hk7:=hk4.chg hc7 λe=>by omega
  refine ⟨hk7.cells,?_⟩;show stK ⟨g,4,none⟩ _ _ _;have e22:(qb.rep.cells k).length=22:=rfl
  let F1:KF:={ F with lg:=lg,gd:=gd,LS:=λi=>i=lg\/i=gd }
  have hb7':Blk w7 g zL (qty F1 { E with ld:=some (q0r E k,ld0) }):=by
   rw [zji F E lg gd (λi=>i=lg\/i=gd) (q0r E k,ld0)] at hb7;exact hb7
  refine qB hb7' (by rw [e22,q9b];omega) λw8 hb8 hg8 hs8=>?_;have hc8:Chg (λi=>i=g) w7 w8:=Chg.of_grown hg8 λk hk=>by cases hk;rfl
  have hb8':Blk w8 g zL (qty F1 (zho E k)):=by
   rw [zcb] at hb8;exact hb8
  have hc:Chg (λi=>i=g) w4.drew w8:=hc7.trans hc8 λi _ hi=>hi;have hk8:=hk4.chg hc λe=>by omega
  have hv8:=hv4.chg hc λe=>by omega
  have ht8:=ht4.chg hc λe=>by omega
  have llt:∀j,(j=lg\/j=gd)->w3.heap.size<=j/\j<w4.heap.size:=λj hj=>by have:=hld.lt j hj;omega
  have hld8:LdA w8 base lg gd (q0r E k) ld0 (λi=>i=lg\/i=gd):=by
   have h1:LdA w4.drew w3.drew.heap.size lg gd (q0r E k) ld0 (λi=>i=lg\/i=gd):=hld.ext (vL w4);exact (h1.chg hc λj hj e=>by have:=llt j hj;omega).weak (by have:=h.hg;omega)
  have hq0:0<=E.quota:=by
   rcases Int.lt_or_le E.quota 0 with hlt | hge
   ·exfalso;unfold qwj at he;rw [if_pos (.inl hlt)] at he;cases he
   ·exact hge
  have hcf:CfgOk (q0r E k):=⟨by show qwj k ((E.quota.toNat:Nat):Int)=0;rw [show ((E.quota.toNat:Nat):Int)=E.quota by omega];exact he,rfl,by show E.quota.toNat<=100000;omega,hraw⟩;have old:∀{j:Nat},j<w.heap.size->¬(j=lg\/j=gd):=λhj e=>by have:=llt _ e;omega
  have h8:EngT base g w F F1 (zho E k) n w8:=by
   refine ⟨⟨hb8',h.hg,h4e.st.keep hc (λe=>h.g_sg e.symm) (λe=>h.g_sr e.symm) (λp hp k hk e=>h4e.img_g hp hk e),h.ok,h.hs,h4e.tb.chg hc ?_,h.tl,(λC s h1=>?_),(λh1=>by cases h1),old gl,⟨old h.st.blk.lt,old h.st.map.lt⟩,(λj hj=>old (h.tb.lt j hj).2),λj hj=>?_⟩,?_,?_,λj hj=>.inr (by have:=llt j hj;omega)⟩
   ·rintro j (hj | hj) e
    ·exact h.g_tg (e.symm.trans hj)
    ·exact h.g_q j hj e
   ·cases h1;exact ⟨hld8,hcf⟩
   ·obtain ⟨p,hp,hb⟩:=hj;exact old ((h.st.img p hp).lt j hb).2
   ·rintro j (hj | hj | hj | hj)
    ·exact .inl (.inl hj)
    ·exact .inl (.inr (.inl hj))
    ·exact .inl (.inr (.inr (.inl hj)))
    ·exact .inr (by have:=llt j hj;omega)
   ·exact (Chg.of_ext (S:=kF g F) B4).trans hc λi _ hi=>.inl hi
  have ht8w:Rd qu w8 text ts:=by
   refine qme (ht.ext B4) hc λhp a ha e=>?_;exact htg a.block (slk.2 ⟨a,ha,rfl⟩) (λh0=>by rw [h0] at hp;cases hp) (.inl e)
  refine qy (r:=qb.rep) (x:=k) hk8.cells (qy (r:=qs.rep) (x:=v) hv8.cells ?_);refine ze3 h8.m hn (hT.stepK h h4 h8) h4 (C:=q0r E k) (s:=ld0) rfl rfl (by show qnf ld0+_<=_;have:qnf ld0=0:=rfl;omega) ht8w (λj hj hne hs=>?_) hwk hwk v λP r F9 w9 hr h9 hrb hPb=>?_
  ·obtain ⟨a,ha,hab⟩:=slk.1 hj;have:=zdi ht (List.length_pos_iff.2 hne) a ha;exact old (hab ▸ this) hs
  ·have z8:=h8.chg.size;have lt8:=ht8.lt;have n2:¬F1.LS w2.heap.size:=λhs=>by have:=llt _ hs;omega
   have ht9:=ht8.chg h9.chg (h8.m.not_in ht8 tys n2);refine zn (r:=qc.rep) (x:=r) ht9 rfl rfl λw10 hc10 hs10=>?_;have em:qku E k ts P v=qf5 (zho E k) (q0r E k) ld0 k ts P v:=by
    unfold qku;rw [if_neg (λhh=>hh he)]
   refine hK P r F9 w10 ?_ ?_ (λj hj=>⟨by have:=(hrb j hj).1;omega,(hrb j hj).2⟩) λj hj=>by have:=hPb j hj;omega
   ·rw [em];exact ⟨hr.1.chg hc10 λa ha e=>by have:=(hrb a.block (slk.2 ⟨a,ha,rfl⟩)).1;omega,hr.2⟩
   ·rw [em];refine (h8.trans h9).other ht9 tys (λhs=>?_) (by omega) hc10;rcases h9.ls _ hs with h1 | h1
    ·exact n2 h1
    ·omega
end
def Xy (c:UInt8) (l:List UInt8):List UInt8:=l.takeWhile λb=>b !=c
def Yu (c:UInt8) (l:List UInt8):List UInt8:=(l.dropWhile λb=>b !=c).drop 1
theorem zn0 (c:UInt8):∀l:List UInt8,(c∈l/\l=Xy c l++c::Yu c l/\∀b∈Xy c l,b≠c)\/((∀b∈l,b≠c)/\Xy c l=l/\Yu c l=[])
 | []=>.inr ⟨by simp,rfl,rfl⟩
 | b::l=>by
  by_cases hb:b=c
  ·subst hb;left;simp [Xy,Yu]
  ·have e1:Xy c (b::l)=b::Xy c l:=by simp [Xy,hb]
   have e2:Yu c (b::l)=Yu c l:=by simp [Yu,hb]
   rw [e1,e2];rcases zn0 c l with ⟨h1,h2,h3⟩ | ⟨h1,h2,h3⟩
   ·left;refine ⟨by simp [h1],by rw [List.cons_append,<-h2],λx hx=>?_⟩;rcases List.mem_cons.1 hx with rfl | hx
    ·exact hb
    ·exact h3 x hx
   ·right;refine ⟨λx hx=>?_,by rw [h2],h3⟩;rcases List.mem_cons.1 hx with rfl | hx
    ·exact hb
    ·exact h1 x hx
theorem qzt:∀(l:List UInt8) (c:UInt8),(∀b∈l,b≠c)->indexByte l c=-1
 | [],c,_=>by simp [indexByte]
 | b::x,c,h=>by
  have h1:=qzt x c λb hb=>h b (by simp [hb]);have h2:b≠c:=h b (by simp);simp [indexByte,h2,h1]
theorem ze9 (c:UInt8) (l:List UInt8):(Xy c l).length<=l.length:=List.Sublist.length_le (List.takeWhile_sublist _)
theorem q2e (c:UInt8) (l:List UInt8):(Yu c l).length<=l.length:=by
 unfold Yu;have:=List.Sublist.length_le (List.dropWhile_sublist (l:=l) (λb=>b !=c));rw [length_drop];omega
section
variable {w:World}
theorem qwi {s:Slc} {bs:List UInt8} (c:UInt8) {g o:Nat} (hs:Rd qu w s bs) (hsa:s.a=some ⟨g,o,none⟩) {sep:Slc} (hsep:Rd qu w sep [c]) (hl:bs.length<=1000000) {K:Int->Ub}
  (hK:K (indexByte bs c) w):qdv s sep w K:=by
 refine qtf _ _ ?_;have hn:=hs.n;have hsn1:sep.n=1:=hsep.n;refine cF (by rw [hsn1];rfl) (cT (by rw [hsn1];rfl) ?_);refine hsep.ix (k:=1) rfl (by omega) (by rw [List.length_singleton];decide) λhcell=>?_;refine lI (x:=(c.toNat:Int)) (by simpa using hcell 0 _ rfl) ?_;have hc:Calls PG 417 #[.slice (some ⟨g,o,none⟩) s.n s.c,.int .u8 (c.toNat:Int)] w λe w'=>e=.returned (Ua (indexByte (Lib.bytesOf (bs.map λb=>(b.toNat:Int))) ((c.toNat:Int)).toNat.toUInt8))/\w'=w :=
  Tryz.bytes_IndexByte g o s.n s.c (bs.map λb=>(b.toNat:Int)) (c.toNat:Int) w (by simp;omega) (λi hi=>by
   have hil:i<bs.length:=by omega
   have:=hs.at_ i bs[i] (by simp [hil]) 0 (.int .u8 (bs[i].toNat:Int)) rfl;simp only [Slc.at_,hsa,getD_some,add_zero] at this;rw [qH,show i*qu.k=i from Nat.mul_one i] at this;rw [this,List.getD_eq_getElem?_getD,List.getElem?_map,List.getElem?_eq_getElem hil];rfl)
 have hbytes:Lib.bytesOf (bs.map λb=>(b.toNat:Int))=bs:=by
  unfold Lib.bytesOf;rw [List.map_map]
  conv=>rhs;rw [<-List.map_id bs]
  exact List.map_congr_left λb _=>by simp
 rw [hbytes,show ((c.toNat:Int)).toNat.toUInt8=c by simp] at hc;have he:s=⟨some ⟨g,o,none⟩,s.n,s.c⟩:=by cases s;cases hsa;rfl
 rw [he];refine Calls.mono hc ?_;rintro e w' ⟨rfl,rfl⟩;exact ⟨_,rfl,hK⟩
theorem zhr {s:Slc} {bs:List UInt8} (c:UInt8) {g o:Nat} (hs:Rd qu w s bs) (hsa:s.a=some ⟨g,o,none⟩) {sep:Slc} (hsep:Rd qu w sep [c]) (hl:bs.length<=1000000) {K:Slc->Slc->Bool->Ub}
  (hK:∀p q b w',Uc w w'->Rd qu w' p (Xy c bs)->Rd qu w' q (Yu c bs)->p.a.isSome=true->K p q b w'):qlb s sep w K:=by
 refine qw2 _ _ ?_;refine qwi c hs hsa hsep hl ?_;have hsn1:sep.n=1:=hsep.n;rcases zn0 c bs with ⟨h1,h2,h3⟩ | ⟨h1,h2,h3⟩
 ·have hix:indexByte bs c=(Xy c bs).length:=by
   conv=>lhs;rw [h2]
   exact q50 _ _ _ h3
  have hlen:bs.length=(Xy c bs).length+((Yu c bs).length+1):=by
   conv=>lhs;rw [h2]
   rw [length_append,length_cons]
  rw [hix];refine cT (by simp) ?_;refine hs.slK (E:=qu) (k:=1) (l:=0) (m:=(Xy c bs).length) rfl (.inl ⟨rfl,rfl⟩) (.inr rfl) (by omega) (by omega) λhp=>?_;rw [hsn1,i64_in (by omega)];refine hs.slK (E:=qu) (k:=1) (l:=(Xy c bs).length+1) (m:=bs.length) rfl (.inr (by simp)) (.inl ⟨rfl,rfl⟩) (by omega) (le_refl _) λhq=>?_;have e12:∀x y:List UInt8,bs=x++c::y->(bs.take x.length).drop 0=x/\(bs.take bs.length).drop (x.length+1)=y:=by
   intro x y h;rw [take_length,h];exact ⟨by simp,by simp⟩
  obtain ⟨e1,e2⟩:=e12 _ _ h2;rw [e1] at hp;rw [e2] at hq;have hcut:∀l m k,(cut s.a l m k).isSome=true:=λl m k=>by unfold cut;rw [hsa];split<;>rfl
  exact hK _ _ _ _ (vL w) hp.drew hq.drew (hcut _ _ _)
 ·rw [qzt bs c h1];refine cF (by decide) ?_;refine hK _ _ _ _ (Below.refl _ w) (by rw [h2];exact hs) (by rw [h3];exact Rd.nil _ _) (by rw [hsa];rfl)
theorem quy {s:Slc} {bs:List UInt8} (hs:Rd qu w s bs) (hl:bs.length<=1000000) {K:Slc->Ub} (hK:∀q w',Rd qu w' q bs->(∀j,q.blk=some j->w.heap.size<=j)->Uc w w'->K q w'):Zh s w K:=by
 cases ha:s.a with
 | some a=>exact zb6 hs (by rw [ha];rfl) hl λq w' ho hB=>hK q w' ho.rd (λj hj=>(ho.lt j hj).1) hB
 | none =>
  refine qeq _ ?_;refine cT (by rw [ha];rfl) ?_;have hn:=hs.n;have hbs:bs=[]:=by
   cases bs with
   | nil=>rfl
   | cons b bs=>exact absurd (hs.some_ (by simp)) (by rw [ha];simp)
  subst hbs;exact hK _ _ (Rd.nil _ _) (λj hj=>by cases hj) (Below.refl _ w)
theorem q7f {s:Slc} {bs:List UInt8} {g o:Nat} (hs:Rd qu w s bs) (hsa:s.a=some ⟨g,o,none⟩) (hl:bs.length<=1000000) {K:Slc->Slc->Ub}
  (hK:∀p q w',Uc w w'->Rd qu w' p (Xy 59 bs)->Rd qu w' q (Yu 59 bs)->(∀j,p.blk=some j->w.heap.size<=j)->(∀j,q.blk=some j->w.heap.size<=j)->K p q w'):qg2 s w K:=by
 refine qv5 _ ?_;refine q9f (bs:=[59]) rfl rfl (by decide) λsep w1 hsep _ hB1 hs1 _=>?_;refine zhr 59 (hs.ext hB1) hsa hsep hl λp q b w2 hB2 hp hq hpa=>?_;have B2:=zv hB1 hB2;refine quy hp (by have:=ze9 59 bs;omega) λp2 w3 hp2 hpf hB3=>?_;have B3:=zv B2 hB3;refine quy (hq.ext hB3) (by have:=q2e 59 bs;omega) λq2 w4 hq2 hqf hB4=>?_;have z2:=B2.size;have z3:=B3.size;exact hK p2 q2 w4 (zv B3 hB4) (hp2.ext hB4) hq2 (λj hj=>by have:=hpf j hj;omega) (λj hj=>by have:=hqf j hj;omega)
end
def zh3 (G:Value) (f:Int->Bool):Prop:=∀(w1:World) (id:Int) (K:Bool->Ub),K (f id) w1->jm C G [.int .i64 id] [Kind.bool] w1 K
theorem za7:zh3 (.func (.func Jk) #[] #[]) λid=>decide (id>549755813888):=by
 intro w1 id K hK;have h:JU id w1 K:=by
  refine qb6 _ ?_;exact hK
 refine Q8 (by kernel_rfl) (Calls.mono h ?_);rintro e w' ⟨r,rfl,hk⟩;exact ⟨r,rfl,hk⟩
def qh2 (T:List Pl) (f:Int->Bool) (S:St) (id:Int):St:=if f id && !(T.any λp=>p.Image==id) then S.drop id else S
def zbl (T:List Pl) (f:Int->Bool) (S:St) (ids:List Int):St:=ids.foldl (qh2 T f) S
def vd (E:KE) (f:Int->Bool) (ids:List Int):KE:={ E with S:=zbl E.T f E.S ids }
theorem q7b (E:KE) (f:Int->Bool) (ids:List Int) (x:Int):vd E f (ids++[x])={ E with S:=qh2 E.T f (vd E f ids).S x }:=by
 unfold vd zbl;rw [List.foldl_append];rfl
section
variable {w w':World} {base g n:Nat} {F F':KF} {E E':KE}
theorem EngT.drop1 (h:EngM w base g F E n) {id:Int} (hst:StM w' base F.sg F.sr (E.S.drop id)) (hc:Chg (onS F.sg F.sr) w w'):EngT base g w F F { E with S:=E.S.drop id } n w' :=
 EngT.store h hst (qmn h.ok id) (le_refl _) hc λk hk=>by
  obtain ⟨p,hp,hb⟩:=hk;exact .inl ⟨p,((qlc _ _ _).1 hp).2,hb⟩
theorem q9o (h:EngM w base g F E n) (hn:n<=100000) {ids:Slc} {L:List Int} (hr:Rd jG w ids L) (hne:∀a,ids.a=some a->¬onS F.sg F.sr a.block) {G:Value} {f:Int->Bool} (hG:zh3 G f) {K:Ub}
  (hK:∀w',EngT base g w F F (vd E f L) n w'->K w'):Qt (some ⟨g,0,none⟩) ids G w K:=by
 refine qfl _ _ _ ?_;have hl:ids.n=L.length:=hr.n;have hlm:L.length<=9223372036854775807:=by rw [<-hl];exact le_trans hr.nc hr.cm
 refine lpR (λ(st:Int×Unit) w1=>∃k:Nat,st.1=(k:Int)/\k<=L.length/\EngT base g w F F (vd E f (L.take k)) n w1/\Rd jG w1 ids L) (λst=>L.length-st.1.toNat)
  ⟨0,rfl,zero_le _,EngT.refl h,hr⟩ ?_
 rintro ⟨i,u⟩ w1 ⟨k,hi,hk,h1,hr1⟩ I hI;dsimp only at hi ⊢;subst hi;refine cO (λe=>?_) λe=>?_
 ·have e:=oTq e;have hlt:k<L.length:=by omega
  obtain ⟨x,hx⟩:∃x,L[k]?=some x:=⟨_,List.getElem?_eq_getElem hlt⟩;have tk:L.take (k+1)=L.take k++[x]:=by rw [List.take_add_one,hx];rfl
  refine hr1.ix (E:=jG) (i:=(k:Int)) rfl (by omega) (by omega) λhc=>?_;have e1:L[(k:Int).toNat]'(by omega)=x:=(List.getElem?_eq_some_iff.1 (by simpa using hx)).2;rw [e1] at hc;refine lI (x:=x) (by simpa using hc 0 _ rfl) ?_;rw [qQ (x:=(k:Int)+1) (by omega)];refine jpO λJ hJ=>?_;have nxt:∀w2,EngT base g w1 F F { (vd E f (L.take k)) with S:=qh2 E.T f (vd E f (L.take k)).S x } n w2->Rd jG w2 ids L->I ((k:Int)+1,()) w2:=by
   intro w2 h2 hr2;refine hI _ _ ⟨k+1,by simp,by omega,?_,hr2⟩ (by dsimp only;omega);rw [tk,q7b];exact h1.trans h2
  refine hG w1 x _ ?_;refine cO (λhf=>?_) λhf=>?_
  ·simp only [onPtr_some];refine qK (x:=some ⟨F.tg,0,none⟩) (h1.m.blk.cells 2 _ rfl) ?_;refine zau h1.m.tb (le_trans h1.m.tl hn) x λw2 hB2=>hJ _ _ ?_;have eT:(vd E f (L.take k)).T=E.T:=rfl;rw [eT];have h2:=EngT.of_ext h1.m hB2;refine cO (λha=>?_) λha=>?_
   ·simp only [onPtr_some];refine qK (x:=some ⟨F.sg,0,none⟩) (h2.m.blk.cells 1 _ rfl) ?_;refine qsx h2.m.st h2.m.ok x λw3 hst hc3=>?_;refine nxt w3 ?_ (qme (hr1.ext hB2) hc3 λ_ a ha=>hne a ha);have es:qh2 E.T f (vd E f (L.take k)).S x=(vd E f (L.take k)).S.drop x:=by
     unfold qh2;dsimp only at ha;rw [hf,ha];rfl
    rw [es];exact h2.trans (EngT.drop1 h2.m hst hc3)
   ·refine nxt w2 ?_ (hr1.ext hB2);have es:qh2 E.T f (vd E f (L.take k)).S x=(vd E f (L.take k)).S:=by
     unfold qh2;dsimp only at ha;rw [hf,ha];rfl
    rw [es];exact h2
  ·refine hJ _ _ (cF rfl (nxt w1 ?_ hr1));have es:qh2 E.T f (vd E f (L.take k)).S x=(vd E f (L.take k)).S:=by
    unfold qh2;rw [hf];rfl
   rw [es];exact EngT.refl h1.m
 ·have e:=oFq e;have hkl:k=L.length:=by omega
  rw [hkl,take_length] at h1;exact hK w1 h1
theorem zbm (h:EngM w base g F E n) (hn:n<=100000) {l:Slc} {L:List Pl} {b:Nat} (hr:Go.Vc.Own qS w b l L) (hne:∀k,l.blk=some k->¬kF g F k) {K:Ub}
  (hK:∀w',EngT base g w F F (vd E (λid=>decide (id>549755813888)) (L.map (·.Image))) n w'->K w'):yR (some ⟨g,0,none⟩) l w K:=by
 refine qej _ _ ?_;have hl:l.n=L.length:=hr.rd.n;have hlm:L.length<=9223372036854775807:=by rw [<-hl];exact le_trans hr.rd.nc hr.rd.cm
 refine lpR (λ(st:Int×Unit) w1=>∃k:Nat,st.1=(k:Int)/\k<=L.length/\EngT base g w F F (vd E (λid=>decide (id>549755813888)) ((L.map (·.Image)).take k)) n w1/\Go.Vc.Own qS w1 b l L) (λst=>L.length-st.1.toNat)
  ⟨0,rfl,zero_le _,EngT.refl h,hr⟩ ?_
 rintro ⟨i,u⟩ w1 ⟨k,hi,hk,h1,hr1⟩ I hI;dsimp only at hi ⊢;subst hi;refine cO (λe=>?_) λe=>?_
 ·have e:=oTq e;have hlt:k<L.length:=by omega
  obtain ⟨p,hp⟩:∃p,L[k]?=some p:=⟨_,List.getElem?_eq_getElem hlt⟩;have tk:(L.map (·.Image)).take (k+1)=(L.map (·.Image)).take k++[p.Image]:=by rw [List.take_add_one,List.getElem?_map,hp];rfl
  refine hr1.rd.ix (E:=qS) (i:=(k:Int)) rfl (by omega) (by omega) λhx=>?_;have hx:q6 w1 (l.at_ qS.k (k:Int).toNat) (qf.rep.cells p):=by
   simp only [Int.toNat_natCast] at hx ⊢;have e1:L[k]'hlt=p:=(List.getElem?_eq_some_iff.1 hp).2;rw [e1] at hx;exact hx
  refine qy (r:=qf.rep) (x:=p) hx ?_;refine jd (vs:=qf.rep.cells p) rfl λw2 hb2 hB2 hs2=>?_;refine lI (x:=p.Image) (hb2.cells 0 _ rfl) ?_;refine nwb λw3 hb3 hB3 hs3=>?_;have B3:=zv hB2 hB3;have h3:=EngT.of_ext h1.m B3;refine q9o h3.m hn (Ze (E:=jG) (y:=p.Image) hb3 rfl) (λa ha hs=>?_) za7 λw4 h4=>?_
  ·cases ha;have:=(h1.m.below w2.heap.size (.inr (.inl hs))).2;have:=hB2.size;omega
  ·have h14:=h3.trans h4;rw [qQ (x:=(k:Int)+1) (by omega)];refine hI _ _ ⟨k+1,by simp,by omega,?_,?_⟩ (by dsimp only;omega)
   ·rw [tk];have e5:vd E (λid=>decide (id>549755813888)) ((L.map (·.Image)).take k++[p.Image])=vd (vd E (λid=>decide (id>549755813888)) ((L.map (·.Image)).take k)) (λid=>decide (id>549755813888)) [p.Image]:=by
     unfold vd zbl;rw [List.foldl_append]
    rw [e5];exact h1.trans h14
   ·exact (hr1.ext B3).chg h4.chg λj hj hs=>hne j hj hs
 ·have e:=oFq e;have hkl:k=L.length:=by omega
  rw [hkl,List.take_of_length_le (by rw [List.length_map];omega)] at h1;exact hK w1 h1
def zgk (E:KE) (alt:Bool) (first:Int):KE:=vd { E with T:=E.T.filter λp=>!q2b alt first p } (λid=>decide (id>549755813888)) ((E.T.filter (q2b alt first)).map (·.Image))
theorem zf6 (h:EngM w base g F E n) {w1:World} {q':Slc} {r:Slc} {T:Type} {El':El T} {xs:List T} (hr:Go.Vc.Own El' w1 w.heap.size r xs) (hne:∀k,r.blk=some k->q'.blk≠some k):∀k,r.blk=some k->¬kF g { F with q:=q' } k:=by
 intro k hk hs;have hlt:=hr.lt k hk;have old:kF g F k->False:=λh3=>by
  have:=(h.below k h3).2;omega
 rcases hs with e | e | (e | e) | e
 ·exact old (.inl e)
 ·exact old (.inr (.inl e))
 ·exact old (.inr (.inr (.inl (.inl e))))
 ·exact hne k hk e
 ·exact old (.inr (.inr (.inr e)))
theorem qsf (h:EngM w base g F E n) (hn:n<=100000) (alt:Bool) (first:Int) {K:Ub} (hK:∀F' w',EngT base g w F F' (zgk E alt first) n w'->K w'):kN (some ⟨g,0,none⟩) alt first w K:=by
 refine qfc _ _ _ ?_;simp only [onPtr_some];refine qK (x:=some ⟨F.tg,0,none⟩) (h.blk.cells 2 _ rfl) ?_;refine q3m h.tb (le_trans h.tl hn) (le_trans h.hg (Nat.le_of_lt h.blk.lt)) alt first λr q' w1 hr ht hq hne hc=>?_;have h1:=EngT.tab h ht hq hc (le_trans (List.length_filter_le _ _) h.tl);refine zbm h1.m hn hr (λk hk hs=>?_) λw2 h2=>hK _ w2 (h1.trans h2);exact zf6 h hr hne k hk hs
end
open Classical in
noncomputable def zl5 (S:St) (n:Int):Int×Bool:=if h:∃r:Int×Bool,qdo S.L n r.1 r.2 then h.choose else (0,false)
theorem zj2 {m:Nat} {S:St} (hk:StOk m S) {n b:Int} {ok:Bool} (h:qdo S.L n b ok):zl5 S n=(b,ok):=by
 have hx:∃r:Int×Bool,qdo S.L n r.1 r.2:=⟨(b,ok),h⟩;unfold zl5;rw [dif_pos hx];obtain ⟨h1,h2⟩:=qdo.one hk hx.choose_spec h;exact Prod.ext h1 h2
noncomputable def kd (S:St) (k:qb):Int×Bool:=if k.Id=0 then zl5 S k.Number else (k.Id,(zA S.L k.Id).isSome)
noncomputable def q6l (E:KE) (k:qb) (v:qs):KE×KR :=
 if (kd E.S k).2=false then (E,qcq k 7 [])
 else if (yd E { k with Id:=(kd E.S k).1 } (kd E.S k).1 v).2.2 then
  ({ (yd E { k with Id:=(kd E.S k).1 } (kd E.S k).1 v).1 with S:=(yd E { k with Id:=(kd E.S k).1 } (kd E.S k).1 v).1.S.use (kd E.S k).1 },(yd E { k with Id:=(kd E.S k).1 } (kd E.S k).1 v).2.1)
 else ((yd E { k with Id:=(kd E.S k).1 } (kd E.S k).1 v).1,(yd E { k with Id:=(kd E.S k).1 } (kd E.S k).1 v).2.1)
section
variable {w w':World} {base g n:Nat} {F F':KF} {E E':KE}
theorem zh4 {m:Nat} {S:St} (hk:StOk m S) (hm:m<=1000) {n b:Int} {ok:Bool} (h:qdo S.L n b ok):-9223372036854775808<=b/\b<=9223372036854775807:=by
 rcases h with ⟨_,rfl,_⟩ | ⟨_,x,hx,_⟩
 ·omega
 ·have:=hk.keys _ hx;dsimp only at this;omega
theorem zbk (h:EngM w base g F E n) (hn:n<=1000) (k:qb) (hwk:qg9 (toL k)) {K:Int->Bool->Ub}
  (hK:∀w',Uc w w'->(-9223372036854775808<=(kd E.S k).1/\(kd E.S k).1<=9223372036854775807)->K (kd E.S k).1 (kd E.S k).2 w'):Qc (some ⟨g,0,none⟩) k w K:=by
 refine qfu _ _ ?_;simp only [onPtr_some];refine nwb λw1 hk1 hB1 hs1=>?_;have h1:=(h.ext hB1).drew;have hk1d:=hk1.drew;have B1:=hB1.drew;unfold kd at hK;refine lI (x:=k.Id) (hk1.cells 8 _ rfl) (cO (λe=>?_) λe=>?_)
 ·rw [if_pos (eq_of_beq e)] at hK;refine qK (x:=some ⟨F.sg,0,none⟩) (h1.blk.cells 1 _ rfl) (lI (x:=k.Number) (hk1d.cells 9 _ rfl) ?_);refine q8b h1.st h.ok k.Number λb ok w2 hN hB2=>?_;rw [zj2 h.ok hN] at hK;exact hK w2 (zv B1 hB2) (zh4 h.ok hn hN)
 ·rw [if_neg (beq_eq_false_iff_ne.1 e)] at hK;have hid:-9223372036854775808<=k.Id/\k.Id<=9223372036854775807:=hwk 8;refine qK (x:=some ⟨F.sg,0,none⟩) (h1.blk.cells 1 _ rfl) (lI (x:=k.Id) (hk1d.cells 8 _ rfl) ⟨?_,?_⟩)
  ·refine qxs h1.st k.Id λw2 hB2=>?_;refine nwb λw3 hx3 hB3 hs3=>?_;have hk3:=(hk1d.ext hB2).ext hB3;have h3:=(h1.ext hB2).ext hB3;refine ⟨hk3.cells 8 _ rfl,h3.blk.cells 1 _ rfl,?_⟩;refine qB hx3 (le_refl _) λw4 hx4 hg4 hs4=>?_;have hc4:Chg (λi=>i=w2.heap.size) w3 w4:=Chg.of_grown hg4 λk hk=>by cases hk;rfl
   have z2:=hB2.size;have lk:=hk1d.lt;have z1:w.heap.size<=w1.drew.heap.size:=B1.size;refine lI (x:=k.Id) ((hk3.chg hc4 λe=>by omega).cells 8 _ rfl) ?_;exact hK w4 (b1o (vG B1 hB2 hB3) hc4 (by omega)) hid
  ·refine nwb λw2 hx2 hB2 hs2=>?_;have hk2:=hk1d.ext hB2;have h2:=h1.ext hB2;refine ⟨hk2.cells 8 _ rfl,h2.blk.cells 1 _ rfl,?_⟩;refine qxs h2.st k.Id λw3 hB3=>?_;refine qB (hx2.ext hB3) (le_refl _) λw4 hx4 hg4 hs4=>?_;have hc4:Chg (λi=>i=w1.drew.heap.size) w3 w4:=Chg.of_grown hg4 λk hk=>by cases hk;rfl
   have lk:=hk1d.lt;have z1:w.heap.size<=w1.drew.heap.size:=B1.size;refine lI (x:=k.Id) (((hk2.ext hB3).chg hc4 λe=>by omega).cells 8 _ rfl) ?_;exact hK w4 (b1o (vG B1 hB2 hB3) hc4 (by omega)) hid
theorem zcq {m:Nat} {S:St} (hk:StOk m S) (id:Int):∀k,yl (S.use id) k->yl S k:=by
 rintro k ⟨p,hp,hb⟩;unfold St.use at hp;split at hp
 ·rename_i x hx;obtain ⟨a,b⟩:=p;rcases (Qk hk.srt _ _ a b).1 hp with ⟨rfl,rfl⟩ | ⟨_,hp'⟩
  ·exact ⟨(a,x),(xH hk.srt).1 hx,hb⟩
  ·exact ⟨(a,b),hp',hb⟩
 ·exact ⟨p,hp,hb⟩
theorem zeb (h:EngM w base g F E n) (hn:n<=900) (hT:Tab w) (h4:4<=base) {k:qb} (hwk:qg9 (toL k)) (v:qs) {K:qc->Ub}
  (hK:∀r F' w',qi1 w' r (q6l E k v).2->EngT base g w F F' (q6l E k v).1 (n+2) w'->(∀j,r.Reply.blk=some j->w.heap.size<=j/\¬kF g F' j)->K r w'):QS (some ⟨g,0,none⟩) k v w K:=by
 refine qhb _ _ _ ?_;simp only [onPtr_some];refine nwb λw1 hk1 hB1 hs1=>nwb λw2 hv2 hB2 hs2=>nwb λw3 ht3 hB3 hs3=>?_;have B3:=vG hB1 hB2 hB3;have hk3:=(hk1.ext hB2).ext hB3;have hv3:=hv2.ext hB3;have h3:=h.ext B3;have nE:∀{b:Nat},w.heap.size<=b->¬kF g F b:=λhb hk=>by have:=(h.below _ hk).2;omega
 have nLS:∀{b:Nat},w.heap.size<=b->¬F.LS b:=λhb hk=>nE hb (.inr (.inr (.inr hk)));have tys:qe2 qI:=by decide
 have z1:=hB1.size;have z2:=hB2.size;have z3:=hB3.size;have lt3:=ht3.lt;refine qy (r:=qb.rep) (x:=k) hk3.cells ?_;refine zbk h3 (by omega) k hwk λw4 hB4 hid=>?_;unfold q6l at hK;generalize (kd E.S k).1=id at *;generalize (kd E.S k).2=is_ at *;have B4:=zv B3 hB4;have hk4:=hk3.ext hB4;have hv4:=hv3.ext hB4;have ht4:=ht3.ext hB4;have z4:=hB4.size;cases is_
 ·simp only [if_true] at hK;refine cT rfl (qy (r:=qb.rep) (x:=k) hk4.cells ?_);refine Q9 (hT.ext B4) hwk 7 [] (by simp) λq w5 hq hB5 hqb=>?_;have ht5:=ht4.ext hB5;refine zn (r:=qc.rep) (x:=⟨q,0,0,false⟩) ht5 rfl rfl λw6 hc6 hs6=>?_;exact hK _ F w6 ⟨hq.chg hc6 λa ha e=>by have:=hqb a.block (slk.2 ⟨a,ha,rfl⟩);omega,rfl,rfl,rfl⟩ (((EngT.of_ext h (zv B4 hB5)).up (by omega)).other ht5 tys (nLS (by omega)) (by omega) hc6) (λj hj=>⟨by have:=hqb j hj;omega,λhs=>by have:=(h.below _ hs).2;have:=hqb j hj;omega⟩)
 ·rw [if_neg (by decide)] at hK;refine cF rfl ?_;show stK ⟨w.heap.size,8,none⟩ _ _ _;refine qB hk4 (by show (8+1:Nat)<=22;omega) λw5 hk5 hg5 hs5=>?_;have hc5:Chg (λi=>i=w.heap.size) w4 w5:=Chg.of_grown hg5 λk hk=>by cases hk;rfl
  have hk5:Blk w5 w.heap.size qV (qb.rep.cells { k with Id:=id }):=hk5;have B5:=b1o B4 hc5 (le_refl _);have hv5:=hv4.chg hc5 λe=>by omega
  have ht5:=ht4.chg hc5 λe=>by omega
  have h5:=EngT.of_ext h B5;have lv5:=hv5.lt;have lt5:=ht5.lt;refine qy (r:=qb.rep) (x:={ k with Id:=id }) hk5.cells (qy (r:=qs.rep) (x:=v) hv5.cells ?_);refine qw0 h5.m (by omega) (hT.ext B5) h4 (zdg hwk hid) id v λr F6 w6 hr6 h6 hrb=>?_;generalize yd E { k with Id:=id } id v=R at *;obtain ⟨E6,R6,ok⟩:=R;dsimp only at hr6 h6 hK ⊢;have hE6:=h5.trans h6;have ht6:=ht5.chg h6.chg (nE (by omega));refine jd (vs:=qc.rep.cells r) rfl λw8 ho8 hB8 hs8=>?_;have h8:=hE6.ext hB8;have ht8:=ht6.ext hB8;have hr8:=hr6.ext hB8;have z5:=B5.size;have z8:=hB8.size;have z6:=h6.chg.size;have nF6:∀{b:Nat},w.heap.size<=b->b<w5.heap.size->¬F6.LS b:=λh1 h2 hs=>by
   rcases h6.ls _ hs with h7 | h7
   ·exact nLS h1 h7
   ·omega
  cases ok
  ·rw [if_neg (by decide)] at hK;refine cF rfl (qy (r:=qc.rep) (x:=r) ho8.cells ?_);refine zn (r:=qc.rep) (x:=r) ht8 rfl rfl λw9 hc9 hs9=>?_;exact hK r F6 w9 ⟨hr8.1.chg hc9 λa ha e=>by have:=(hrb a.block (slk.2 ⟨a,ha,rfl⟩)).1;omega,hr8.2⟩ ((h8.up (by omega)).other ht8 tys (nF6 (by omega) (by omega)) (by omega) hc9) (λj hj=>⟨by have:=(hrb j hj).1;omega,(hrb j hj).2⟩)
  ·rw [if_pos rfl] at hK;refine cT rfl (qK (x:=some ⟨F6.sg,0,none⟩) (h8.m.blk.cells 1 _ rfl) ?_);refine zg6 h8.m.st h8.m.ok (by omega) id λw9 hst hc9=>?_;have h9:=h8.trans (EngT.store h8.m hst (zmn h8.m.ok id) (by omega) hc9 λj hj=>.inl (zcq h8.m.ok id j hj));have nS:∀{b:Nat} {t:TypeId} {vs:List Value},Blk w8 b t vs->t≠zG->¬onS F6.sg F6.sr b:=λhb ht hs=>by
    rcases hs with e | e
    ·exact hb.ne_t h8.m.st.blk ht e
    ·exact h8.m.st.map.ne_blk hb e.symm
   have ho9:=ho8.chg hc9 (nS ho8 (by decide));have ht9:=ht8.chg hc9 (nS ht8 (by decide));have z9:=hc9.size;refine qy (r:=qc.rep) (x:=r) ho9.cells ?_;refine zn (r:=qc.rep) (x:=r) ht9 rfl rfl λw10 hc10 hs10=>?_;refine hK r F6 w10 ⟨?_,hr8.2⟩ (h9.other ht9 tys (nF6 (by omega) (by omega)) (by omega) hc10) (λj hj=>⟨by have:=(hrb j hj).1;omega,(hrb j hj).2⟩);have hr9:Rd qu w9 r.Reply R6.reply:=hr8.1.chg hc9 λa ha hs=>?_
   ·exact hr9.chg hc10 λa ha e=>by have:=(hrb a.block (slk.2 ⟨a,ha,rfl⟩)).1;omega
   ·exact (hrb a.block (slk.2 ⟨a,ha,rfl⟩)).2 (.inr (.inl hs))
end
def Sml (L:List Int):Prop:=∀x∈L,-4294967296<=x/\x<=4294967295
theorem Sml.set {L:List Int} (h:Sml L) (j:Nat) {x:Int} (hx:-4294967296<=x/\x<=4294967295):Sml (L.set j x):=λy hy=>by
 rcases List.mem_or_eq_of_mem_set hy with h1 | rfl
 ·exact h y h1
 ·exact hx
theorem zhs {v:List UInt8} {n:Nat} (h:Vn v=some n):n<=4294967295:=by
 unfold Vn at h;split at h
 ·cases h
 ·obtain ⟨m,_,h2⟩:=Option.bind_eq_some_iff.1 h;split at h2
  ·cases h2;assumption
  ·cases h2
theorem zfk {v:List UInt8} {m:Int} (h:qj4 v=some m):-4294967296<=m/\m<=4294967295:=by
 have key:∀x:Int,zfi x=true->-4294967296<=x/\x<=4294967295:=λx hx=>by
  unfold zfi at hx;simp only [Bool.and_eq_true,decide_eq_true_eq] at hx;omega
 unfold qj4 at h;split at h
 all_goals
  obtain ⟨n,_,h2⟩:=Option.bind_eq_some_iff.1 h;split at h2
  ·rename_i hnear;injection h2 with h2
   rw [<-h2];exact key _ hnear
  ·cases h2
theorem zi1 {k k':List Int} {s:List UInt8} (hk:Sml k/\k.length=22) (h:qnl k s=some k'):Sml k'/\k'.length=22:=by
 have st:∀(j:Nat) {x:Int},(-4294967296<=x/\x<=4294967295)->Sml (k.set j x)/\(k.set j x).length=22:=λj x hx=>⟨hk.1.set j hx,by rw [List.length_set];exact hk.2⟩;unfold qnl at h;split at h
 ·split at h
  ·cases h
  ·split at h
   ·obtain ⟨m,hm,rfl⟩:=Option.map_eq_some_iff.1 h;exact st _ (zfk hm)
   ·split at h
    ·rename_i j _;unfold za6 at h;split at h
     ·rename_i b;split at h
      ·cases h;have:=b.toNat_lt;exact st _ (by omega)
      ·cases h
     ·cases h
    ·split at h
     ·obtain ⟨m,hm,rfl⟩:=Option.map_eq_some_iff.1 h;obtain ⟨a,ha,hb⟩:=Option.bind_eq_some_iff.1 hm;have:=zhs ha;injection hb with hb
      exact st _ (by omega)
     ·cases h;exact hk
 ·cases h
theorem q8r:∀(l:List (List UInt8)) (k k':List Int),(Sml k/\k.length=22)->l.foldlM qnl k=some k'->Sml k'/\k'.length=22
 | [],k,k',hk,h=>by
  cases h;exact hk
 | s::l,k,k',hk,h=>by
  rw [List.foldlM_cons] at h;obtain ⟨k1,h1,h2⟩:=Option.bind_eq_some_iff.1 h;exact q8r l k1 k' (zi1 hk h1) h2
theorem q12:Sml QV/\QV.length=22:=by
 refine ⟨?_,rfl⟩;intro x hx;simp [QV] at hx;omega
theorem zer (b:List UInt8):Sml (ZN b).1/\(ZN b).1.length=22:=by
 have hz:Sml qbe/\qbe.length=22:=by
  refine ⟨λx hx=>?_,rfl⟩;unfold qbe at hx;have:=List.eq_of_mem_replicate hx;omega
 unfold ZN;split
 ·exact hz
 ·split
  ·exact q12
  ·split
   ·rename_i k hk;exact q8r _ _ _ q12 hk
   ·exact hz
theorem zbd (b:List UInt8):qg9 (toL (ofL (ZN b).1)):=by
 obtain ⟨h1,h2⟩:=zer b;rw [zin h2];intro i;cases hx:(ZN b).1[i]? with
 | none=>simp
 | some x =>
  have:=h1 x (List.mem_of_getElem? hx);simp only [getD_some];omega
noncomputable def goK (E:KE) (k:qb) (ts:List UInt8) (P:Slc) (v:qs):KE×KR :=
 if k.Action=112 then q6l E k v else qku E k ts P v
def yJ (c:List UInt8):qb:=ofL (ZN (Xy 59 c)).1
structure CmdOk (r:List UInt8):Prop where
 ok:(ZN (Xy 59 r)).2=0
 raw:(yJ r).Format≠100/\(yJ r).Zip≠122
 act:(yJ r).Action=116\/(yJ r).Action=84\/(yJ r).Action=113\/(yJ r).Action=112
noncomputable def doK (E:KE) (r:List UInt8) (P:Slc) (v:qs):KE×KR:=goK E (yJ r) (Yu 59 r) P v
section
variable {w w':World} {base g n:Nat} {F F':KF} {E E':KE}
theorem zj7 {s:Slc} {b:UInt8} {r:List UInt8} (h:Rd qu w s (b::r)) {a:Addr} (ha:s.a=some a):a.spot=none:=by
 have h1:=h.at_ 0 b rfl 0 (.int .u8 (b.toNat:Int)) rfl;have e:((s.at_ qu.k 0).add 0).spot=a.spot:=by
  unfold Slc.at_;rw [ha];rfl
 cases hs:a.spot with
 | none=>rfl
 | some x =>
  exfalso;unfold World.cell? at h1;rw [e,hs] at h1;split at h1
  ·cases h1
  ·cases h1
theorem zki (h:EngM w base g F E n) (hn:n<=900) (hT:Tab w) (h4:4<=base) (hq:E.quota<=100000) {c:Slc} {bs:List UInt8} (hbs:bs.length<=39999) (hc:Rd qu w c (71::bs))
  (hl:E.ld=none) (hok:CmdOk bs) (v:qs) {K:qc->Ub}
  (hK:∀P r F' w',qi1 w' r (doK E bs P v).2->EngT base g w F F' (doK E bs P v).1 (n+2) w'->(∀j,r.Reply.blk=some j->w.heap.size<=j/\¬kF g F' j)->(∀j,P.blk=some j->w.heap.size<=j)->K r w'):xE (some ⟨g,0,none⟩) c v w K:=by
 refine qlo _ _ _ ?_;refine nwb λw1 hv1 hB1 hs1=>nwb λw2 ht2 hB2 hs2=>?_;have B2:=zv hB1 hB2;have hv2:=hv1.ext hB2;have z1:=hB1.size;have z2:=hB2.size;have lt2:=ht2.lt;have lv2:=hv2.lt;have nE:∀{b:Nat},w.heap.size<=b->¬kF g F b:=λhb hk=>by have:=(h.below _ hk).2;omega
 have nLS:∀{b:Nat},w.heap.size<=b->¬F.LS b:=λhb hk=>nE hb (.inr (.inr (.inr hk)));have tys:qe2 qI:=by decide
 have fin:∀(P:Slc) (r:qc) (R:KR) (F':KF) (E':KE) (wz:World) (vs:List Value),vs.length=4->Blk wz w1.heap.size qI vs->EngT base g w F F' E' (n+2) wz->qi1 wz r R->¬F'.LS w1.heap.size ->
   (∀j,r.Reply.blk=some j->w1.heap.size<j/\¬kF g F' j)->(∀j,P.blk=some j->w.heap.size<=j)->doK E bs P v=(E',R)->stK ⟨w1.heap.size,0,none⟩ (qc.rep.cells r) wz λw12=>ldS qc.rep ⟨w1.heap.size,0,none⟩ w12 λr_1=>K r_1 w12:=by
  intro P r R F' E' wz vs hvs hb hE hr hls hf hPb hd;refine zn (r:=qc.rep) (x:=r) hb rfl (by rw [hvs];rfl) λw9 hc9 hs9=>?_;refine hK P r F' w9 ?_ ?_ (λj hj=>⟨by have:=(hf j hj).1;omega,(hf j hj).2⟩) hPb
  ·rw [hd];exact ⟨hr.1.chg hc9 λa ha e=>by have:=(hf a.block (slk.2 ⟨a,ha,rfl⟩)).1;omega,hr.2⟩
  ·rw [hd];exact hE.other hb tys hls (by omega) hc9
 have hcn:=hc.n;have hc2:=hc.ext B2;have h2:EngT base g w F F E (n+2) w2:=(EngT.of_ext h B2).up (by omega);refine jpO λJ1 hJ1=>?_;rw [length_cons] at hcn;refine cF (by rw [hcn];simp;omega) ?_;refine hc2.ix (E:=qu) (i:=0) rfl (by decide) (by simp) λhcell=>?_;refine lI (x:=((71:UInt8).toNat:Int)) (by simpa using hcell 0 _ rfl) ?_;refine cF rfl (hJ1 _ _ ?_);refine hc2.slK (E:=qu) (k:=1) (l:=1) (m:=bs.length+1) rfl (.inr rfl) (.inl ⟨rfl,by rw [length_cons]⟩) (by omega) (by rw [length_cons];omega) λhc3=>?_;have er:((71::bs).take (bs.length+1)).drop 1=bs:=by simp
 rw [er] at hc3;obtain ⟨a,ha⟩:∃a,c.a=some a:=Option.isSome_iff_exists.1 (hc.some_ (by simp));have hsp:=zj7 hc ha;have hca3:∃o,cut c.a 1 c.c qu.k=some ⟨a.block,o,none⟩:=by
  rw [ha];obtain ⟨ab,ao,asp⟩:=a;dsimp only at hsp;subst hsp;unfold cut;split
  ·exact ⟨_,rfl⟩
  ·exact ⟨_,rfl⟩
 obtain ⟨o,ho⟩:=hca3;refine q7f hc3 (g:=a.block) (o:=o) ho (by omega) λp q w4 hB4 hp hq4 hpf hqf=>?_;refine zb0 hp λw5 hB5=>?_;have hwk:qg9 (toL (yJ bs)):=zbd (Xy 59 bs);have hdo:∀P,doK E bs P v=goK E (yJ bs) (Yu 59 bs) P v:=λP=>rfl;have htl:=q2e 59 bs;have hts:(Yu 59 bs).length<=40000:=by omega
 obtain ⟨hx,hraw,hact⟩:=hok;rw [hx];have ek:ofL (ZN (Xy 59 bs)).1=yJ bs:=rfl;rw [ek];generalize yJ bs=k at *;generalize Yu 59 bs=ts at *;refine jd (vs:=qb.rep.cells k) rfl λw7 hk7 hB7 hs7=>?_;have B27:Uc w2 w7:=vG hB4 hB5 hB7;have B7:=zv B2 B27;have hv7:=hv2.ext B27;have ht7:=ht2.ext B27;have h7:=EngT.of_ext h B7;have hq7:=(hq4.ext hB5).ext hB7;have z4:=hB4.size;have z5:=hB5.size;have z7:=hB7.size;have z27:=B27.size;refine cF rfl (jpO λJ2 hJ2=>?_);have qe:∀j,q.blk=some j->¬kF g F j:=λj hj=>nE (by have:=hqf j hj;omega);simp only [onPtr_some];have h7m:=h7.m;refine qK (x:=none) (by have:=h7m.blk.cells 3 _ rfl;rw [hl] at this;exact this) (cF rfl (hJ2 _ _ ?_));have hTz:=hT.stepK h h4 h7;have nl1:∀j,¬F.LS j:=h7m.nl hl;have nF:∀{F2:KF} {E2:KE} {w2':World},EngT base g w7 F F2 E2 (n+2) w2'->¬F2.LS w1.heap.size:=λhT hs=>by
  rcases hT.ls _ hs with h3 | h3
  ·exact nl1 _ h3
  ·omega
 have keep:∀{F2:KF} {E2:KE} {w2':World} {m:Nat},EngT base g w7 F F2 E2 m w2'->Blk w2' w1.heap.size qI [(.slice none 0 0),(Ua 0),(Ua 0),(.bool false)]:=λhT=>ht7.chg hT.chg (h7m.not_in ht7 tys (nl1 _));refine jpO λJ3 hJ3=>?_;refine lI (x:=k.Action) (hk7.cells 0 _ rfl) ?_;refine jpO λJ4 hJ4=>?_;have j4:k.Action≠112->J4 () w7:=by
  intro hw;refine hJ4 _ _ (qy (r:=qb.rep) (x:=k) hk7.cells (qy (r:=qs.rep) (x:=v) hv7.cells ?_));refine q9k h7m hn hTz h4 hl hq hts hq7 (λj hj hne=>qe j hj) hwk hraw v λP r2 F9 w9 hr9 h9 hrb hPb=>?_;refine fin P r2 _ F9 _ w9 _ rfl (keep h9) (h7.trans h9) hr9 (nF h9) (λj hj=>⟨by have:=(hrb j hj).1;omega,(hrb j hj).2⟩) (λj hj=>by have:=hPb j hj;omega) ?_;rw [hdo];unfold goK;rw [if_neg hw]
 refine cO (λe=>j4 (by have:=eq_of_beq e;omega)) λe=>?_;have n1:=beq_eq_false_iff_ne.1 e;refine cO (λe=>j4 (by have:=eq_of_beq e;omega)) λe=>?_;have n2:=beq_eq_false_iff_ne.1 e;refine cO (λe=>j4 (by have:=eq_of_beq e;omega)) λe=>?_;have n3:=beq_eq_false_iff_ne.1 e;have hp2:k.Action=112:=by omega
 refine cT (by rw [hp2];rfl) ?_;refine qy (r:=qb.rep) (x:=k) hk7.cells (qy (r:=qs.rep) (x:=v) hv7.cells ?_);refine zeb h7m hn hTz h4 hwk v λr2 F9 w9 hr9 h9 hrb=>?_;refine fin ⟨none,0,0⟩ r2 _ F9 _ w9 _ rfl (keep h9) (h7.trans h9) hr9 (nF h9) (λj hj=>⟨by have:=(hrb j hj).1;omega,(hrb j hj).2⟩) (λj hj=>by cases hj) ?_;rw [hdo];unfold goK;rw [if_pos hp2]
end
def znx:qb:=⟨0,0,0,0,0,0,0,0,0,0,0,0,0,0,0,0,0,0,0,0,0,0⟩
def zga (q:Int):KE:=⟨q,⟨q,0,0,0,[]⟩,[],none,znx⟩
section
variable {w w':World} {base g n:Nat} {F F':KF} {E E':KE}
theorem zd4 {q:Int} {K:Option Addr->Int->Ub} (hE:Kd q=1->K none 1 w)
  (hK:Kd q=0->∀g F w',w.heap.size<=g->EngM w' w.heap.size g F (zga q) 0->Uc w w'->K (some ⟨g,0,none⟩) 0 w'):qkc q w K:=by
 refine qyo _ ?_;refine zb2 (base:=w.heap.size) (λh=>cT rfl (hE h)) λsg sr w1 he hsg hsr hst hB1=>?_;refine cF rfl ?_;refine qxb ?_;unfold qro;refine nwb λw2 ht2 hB2 hs2=>?_;refine nwb λw3 hg3 hB3 hs3=>?_;have B3:=vG hB1 hB2 hB3;have z1:=hB1.size;have z2:=hB2.size;have z3:=hB3.size;refine hK he w2.heap.size ⟨sg,sr,w1.heap.size,⟨none,0,0⟩,0,0,λ_=>False⟩ w3 (by omega) ⟨hg3,by omega,(hst.ext hB2).ext hB3,zml he,⟨hsg,hsr⟩,⟨ht2.ext hB3,by omega,Go.Vc.Own.nil _ _ _⟩,le_refl _,(λC s h=>by cases h),(λ_ k h=>h),(λh=>h),⟨λh=>h,λh=>h⟩,(λk _ h=>h),λk _ h=>h⟩ B3
theorem q3w (h:EngM w base g F E n) {K:Option Addr->Ub} (hK:∀g' r' w',w.heap.size<=g'->w.heap.size<=r'->StM w' base g' r' E.S->Uc w w'->K (some ⟨g',0,none⟩) w'):yO (some ⟨g,0,none⟩) w K:=by
 refine qfd _ ?_;simp only [onPtr_some];exact qK (x:=some ⟨F.sg,0,none⟩) (h.blk.cells 1 _ rfl) (zf7 h.st hK)
theorem q0m (h:EngM w base g F E n) (hn:n<=100000) {K:Option Addr->Ub} (hK:∀g' q' w',PlTM w' w.heap.size g' q' E.T->Uc w w'->K (some ⟨g',0,none⟩) w'):y7 (some ⟨g,0,none⟩) w K:=by
 refine qdx _ ?_;simp only [onPtr_some];refine qK (x:=some ⟨F.tg,0,none⟩) (h.blk.cells 2 _ rfl) ?_;refine qjq _ ?_;simp only [onPtr_some];refine lSl (x:=F.q) (h.tb.blk.cells 0 _ rfl) ?_;refine qrl h.tb.own.rd (le_trans h.tl hn) λr w1 hr hB1=>?_;refine nwb λw2 hb hB2 hs2=>?_;exact hK _ r w2 ⟨hb,hB1.size,hr.ext hB2⟩ (zv hB1 hB2)
end
section
variable {w w':World} {base g n:Nat} {F F':KF} {E E':KE}
def q7k (b:UInt8):Value:=.int .u8 (b.toNat:Int)
def q5n (w:World) (g:Nat) (bs:List UInt8):Prop:=w.heap[g]?=some (.cells (bs.map q7k).toArray za (bs.length,bs.length+1))
theorem q5n.lt {bs:List UInt8} (h:q5n w g bs):g<w.heap.size:=(Array.getElem?_eq_some_iff.1 h).1
theorem q5n.cell {bs:List UInt8} (h:q5n w g bs) {j:Nat} {b:UInt8} (hb:bs[j]?=some b):w.cell? ⟨g,j,none⟩=some (q7k b):=by
 unfold q5n at h;simp [World.cell?,h,hb]
theorem q5n.rd {bs:List UInt8} (h:q5n w g bs) (hl:bs.length<=1000000):Rd qu w ⟨some ⟨g,0,none⟩,bs.length,bs.length⟩ bs:=by
 refine ⟨rfl,le_refl _,by show bs.length<=maxLen;simp only [maxLen];omega,λ_=>rfl,λi x hx j v hv=>?_⟩;have hj:j=0:=by
  have:=(List.getElem?_eq_some_iff.1 hv).1;simp [qu] at this;exact this
 subst hj;have e:v=q7k x:=by simpa [qu,q7k] using hv.symm
 rw [e];show w.cell? (((⟨g,0,none⟩:Addr).add (i*qu.k)).add 0)=_;rw [add_zero,qH,Nat.zero_add,show i*qu.k=i from Nat.mul_one i];exact h.cell hx
def Cmd (w:World) (base:Nat) (c:Slc) (bs:List UInt8):Prop:=Go.Vc.Own qu w base c bs\/∃g,base<=g/\c=⟨some ⟨g,0,none⟩,bs.length,bs.length⟩/\q5n w g bs
theorem Cmd.rd {c:Slc} {bs:List UInt8} (h:Cmd w base c bs) (hl:bs.length<=1000000):Rd qu w c bs:=by
 rcases h with h | ⟨g,_,rfl,h⟩
 ·exact h.rd
 ·exact h.rd hl
theorem zd0 {vs:List Value} {m:Nat} {bs:List UInt8} {K:Slc->Ub} (hv:vs=bs.map q7k) (hn:m=bs.length)
  (hK:∀s w',Cmd w' w.heap.size s bs->Uc w w'->K s w') :
  nw za vs w λt w1=>jq PG (convert qm qm (.slice (some t) m m)) Kind.slice w1 K:=by
 subst hn hv;refine ⟨⟨some ⟨w.heap.size,0,none⟩,bs.length,bs.length⟩,_,Lib.run_convert_bytes_const w qm za _ _ _ (by kernel_rfl) (by kernel_rfl),hK _ _ (.inr ⟨_,le_refl _,rfl,?_⟩) ((Below.refl _ w).alloc (le_refl _) _)⟩;show (w.alloc _).heap[w.heap.size]?=_;rw [heap_alloc_new];simp
theorem EngM.chgS {S:Nat->Prop} (h:EngM w base g F E n) (hc:Chg S w w') (hS:∀k,kF g F k->¬S k) (hi:∀k,yl E.S k->¬S k):EngM w' base g F E n :=
 ⟨h.blk.chg hc (hS _ (.inl rfl)),h.hg,h.st.keep hc (hS _ (.inr (.inl (.inl rfl)))) (hS _ (.inr (.inl (.inr rfl)))) (λp hp k hk=>hi k ⟨p,hp,hk⟩),h.ok,h.hs,h.tb.chg hc λk hk=>hS k (.inr (.inr (.inl hk))),h.tl,
  λC s hl=>⟨(h.lo C s hl).1.chg hc λk hk=>hS k (.inr (.inr (.inr hk))),(h.lo C s hl).2⟩,h.nl,h.dg,h.ds,h.dt,h.di⟩
end
structure TmF where
 tg:Nat
 sg:Nat
 SF:ScF
 eg:Nat
 KF:KF
 pg:Nat
 cq:Slc
 rq:Slc
structure TS where
 c:qo
 S:Sc
 E:KE
 n:Nat
 cmd:List UInt8
 long:Bool
 rep:List UInt8
 f0:Int
 f1:Int
def zlf (F:TmF) (T:TS):List Value:=[.int .i64 T.c.Rows,.int .i64 T.c.Cols,.int .i64 T.c.CellW,.int .i64 T.c.CellH,.int .i64 T.c.Back,.int .i64 T.c.Quota,.pointer (some ⟨F.sg,0,none⟩),.pointer (some ⟨F.eg,0,none⟩),.pointer (some ⟨F.pg,0,none⟩),.pointer none,.slice F.cq.a F.cq.n F.cq.c,.bool T.long,.slice F.rq.a F.rq.n F.rq.c,.int .i64 T.f0,.int .i64 T.f1]
def Yp (F:TmF) (k:Nat):Prop:=k=F.tg\/scS F.sg F.SF k\/kF F.eg F.KF k\/F.cq.blk=some k\/F.rq.blk=some k
structure TermM (w:World) (base:Nat) (F:TmF) (T:TS):Prop where
 blk:Blk w F.tg qhp (zlf F T)
 hg:base<=F.tg
 sc:ScM w base F.sg F.SF T.S
 en:EngM w base F.eg F.KF T.E T.n
 cq:Go.Vc.Own qu w base F.cq T.cmd
 rq:Go.Vc.Own qu w base F.rq T.rep
 dse:∀k,scS F.sg F.SF k->¬kF F.eg F.KF k
 dsi:∀k,scS F.sg F.SF k->¬yl T.E.S k
 dc:∀k,F.cq.blk=some k->¬scS F.sg F.SF k/\¬kF F.eg F.KF k/\¬yl T.E.S k/\F.rq.blk≠some k
 dr:∀k,F.rq.blk=some k->¬scS F.sg F.SF k/\¬kF F.eg F.KF k/\¬yl T.E.S k
 dt:¬scS F.sg F.SF F.tg/\¬kF F.eg F.KF F.tg
 ld:T.E.ld=none
 tab:Tab w
 b4:4<=base
section
variable {w w':World} {base:Nat} {F F':TmF} {T T':TS}
theorem qpm {w:World} {base g n:Nat} {F:KF} {E:KE} (h:EngM w base g F E n) {k:Nat} (hk:yl E.S k):base<=k/\∃cs,Blk w k za cs:=by
 obtain ⟨p,hp,hb⟩:=hk;exact (h.st.img p hp).blk k hb
theorem TermM.img_tg (h:TermM w base F T):¬yl T.E.S F.tg:=λhk=>by
 obtain ⟨_,cs,hb⟩:=qpm h.en hk;exact h.blk.ne_t hb (by decide) rfl
theorem TermM.below (h:TermM w base F T):∀k,Yp F k->base<=k/\k<w.heap.size:=by
 rintro k (rfl | hk | hk | hk | hk)
 ·exact ⟨h.hg,h.blk.lt⟩
 ·exact h.sc.below k hk
 ·exact h.en.below k hk
 ·exact h.cq.lt k hk
 ·exact h.rq.lt k hk
theorem TermM.far (h:TermM w base F T):far (Yp F) w:=by
 rintro k cs (rfl | hk | hk | hk | hk) hb
 ·exact h.blk.ne_t hb (by decide) rfl
 ·exact h.sc.notC k cs hk hb
 ·rcases hk with rfl | (rfl | rfl) | (rfl | hk) | hk
  ·exact h.en.blk.ne_t hb (by decide) rfl
  ·exact h.en.st.blk.ne_t hb (by decide) rfl
  ·exact h.en.st.map.ne_blk hb rfl
  ·exact h.en.tb.blk.ne_t hb (by decide) rfl
  ·exact qF h.en.tb.own hb (by decide) k hk rfl
  ·exact h.en.nl h.ld k hk
 ·exact qF h.cq hb (by decide) k hk rfl
 ·exact qF h.rq hb (by decide) k hk rfl
theorem TermM.keep {X:Nat->Prop} (h:TermM w base F T) (hc:Chg X w w') (hX:∀k,Yp F k->¬X k) (hi:∀k,yl T.E.S k->¬X k) (hf:Go.Proofs.YtlmpnfhmpjldaaaGreatDoor.far X w) (ht:Tab w'):TermM w' base F T :=
 ⟨h.blk.chg hc (hX _ (.inl rfl)),h.hg,h.sc.keep hc (λk hk=>hX k (.inr (.inl hk))) hf,h.en.chgS hc (λk hk=>hX k (.inr (.inr (.inl hk)))) hi,h.cq.chg hc λk hk=>hX k (.inr (.inr (.inr (.inl hk)))),h.rq.chg hc λk hk=>hX k (.inr (.inr (.inr (.inr hk)))),
  h.dse,h.dsi,h.dc,h.dr,h.dt,h.ld,ht,h.b4⟩
theorem TermM.ext (h:TermM w base F T) (hB:Uc w w'):TermM w' base F T:=h.keep (Chg.of_ext (S:=λ_=>False) hB) (λ_ _ h=>h) (λ_ _ h=>h) (λ_ _ h=>h.elim) (h.tab.ext hB)
theorem TermM.drew (h:TermM w base F T):TermM w.drew base F T:=h.ext ((Below.refl _ w).drew)
theorem TermM.base_le (h:TermM w base F T):base<=w.heap.size:=le_trans h.hg (Nat.le_of_lt h.blk.lt)
structure TmT (base:Nat) (w:World) (F F':TmF) (T':TS) (w':World):Prop where
 m:TermM w' base F' T'
 old:∀k,Yp F' k->Yp F k\/w.heap.size<=k
 chg:Chg (Yp F) w w'
 tg:F'.tg=F.tg
 pg:F'.pg=F.pg
theorem TmT.trans {w1 w2:World} {F1 F2:TmF} {T1 T2:TS} (h:TmT base w F F1 T1 w1) (h2:TmT base w1 F1 F2 T2 w2):TmT base w F F2 T2 w2:=by
 have hs:=h.chg.size;refine ⟨h2.m,λk hk=>?_,h.chg.trans h2.chg λi hi hk=>?_,h2.tg.trans h.tg,h2.pg.trans h.pg⟩
 ·rcases h2.old k hk with h3 | h3
  ·exact h.old k h3
  ·right;omega
 ·rcases h.old i hk with h3 | h3
  ·exact h3
  ·omega
theorem TmT.of_ext (h:TermM w base F T) (hB:Uc w w'):TmT base w F F T w':=⟨h.ext hB,λk hk=>.inl hk,Chg.of_ext hB,rfl,rfl⟩
theorem TmT.drew {F1:TmF} {T1:TS} {w1:World} (h:TmT base w F F1 T1 w1):TmT base w F F1 T1 w1.drew:=h.trans (TmT.of_ext h.m ((Below.refl _ w1).drew))
theorem TmT.ext {F1:TmF} {T1:TS} {w1 w2:World} (h:TmT base w F F1 T1 w1) (hB:Uc w1 w2):TmT base w F F1 T1 w2:=h.trans (TmT.of_ext h.m hB)
theorem TermM.belowB (h:TermM w base F T) (hT:TmT base w F F' T' w'):Below base w w':=hT.chg.below h.base_le λi hi hs=>by have:=(h.below i hs).1;omega
theorem qhr {X:Nat->Prop} (h:TermM w base F T) (hc:Chg X w w') (hX:∀k,X k->base<=k):Tab w':=h.tab.below4 ((hc.below h.base_le λi hi hs=>by have:=hX i hs;omega).mono (by have:=h.b4;omega))
theorem TermM.put (h:TermM w base F T) {F':TmF} {T':TS} (hb:Blk w' F.tg qhp (zlf F' T')) (hc:Chg (λk=>k=F.tg) w w') (e1:F'.tg=F.tg) (e2:F'.sg=F.sg) (e3:F'.SF=F.SF) (e4:F'.eg=F.eg) (e5:F'.KF=F.KF) (e0:F'.pg=F.pg) (s1:T'.S=T.S) (s2:T'.E=T.E) (s3:T'.n=T.n)
  (cq:Go.Vc.Own qu w base F'.cq T'.cmd) (rq:Go.Vc.Own qu w base F'.rq T'.rep) (bc:∀k,F'.cq.blk=some k->F.cq.blk=some k) (br:∀k,F'.rq.blk=some k->F.rq.blk=some k):TmT base w F F' T' w':=by
 obtain ⟨tg,sg,SF',eg,KF',pg,cq',rq'⟩:=F';obtain ⟨c',S',E',n',cmd',long',rep',f0',f1'⟩:=T';dsimp only at *;subst e1 e2 e3 e4 e5 s1 s2 s3;have ht:Tab w':=qhr h hc λk e=>by rw [e];exact h.hg
 refine ⟨⟨hb,h.hg,h.sc.keep hc (λk hk e=>h.dt.1 (e ▸ hk)) (λk cs e hk=>by subst e;exact h.blk.ne_t hk (by decide) rfl),h.en.chgS hc (λk hk e=>h.dt.2 (e ▸ hk)) (λk hk e=>h.img_tg (e ▸ hk)),cq.chg hc (qF cq h.blk (by decide)),rq.chg hc (qF rq h.blk (by decide)),
  h.dse,h.dsi,λk hk=>⟨(h.dc k (bc k hk)).1,(h.dc k (bc k hk)).2.1,(h.dc k (bc k hk)).2.2.1,λe=>(h.dc k (bc k hk)).2.2.2 (br k e)⟩,λk hk=>h.dr k (br k hk),h.dt,h.ld,ht,h.b4⟩,λk hk=>.inl ?_,hc.mono λk _ e=>.inl e,rfl,e0⟩
 rcases hk with hk | hk | hk | hk | hk
 ·exact .inl hk
 ·exact .inr (.inl hk)
 ·exact .inr (.inr (.inl hk))
 ·exact .inr (.inr (.inr (.inl (bc k hk))))
 ·exact .inr (.inr (.inr (.inr (br k hk))))
theorem TermM.screen (h:TermM w base F T) {SF':ScF} {S':Sc} (hT:ScT base F.sg w F.SF SF' S' w'):TmT base w F { F with SF:=SF' } { T with S:=S' } w':=by
 have hc:=hT.chg;have ht:Tab w':=qhr h hc λk hk=>(h.sc.below k hk).1;have nx:∀{X:Nat->Prop},(∀k,scS F.sg F.SF k->¬X k)->(∀k,X k->k<w.heap.size)->∀k,scS F.sg SF' k->¬X k:=λh1 h2 k hk hx=>by
  rcases hT.old k hk with h3 | h3
  ·exact h1 k h3 hx
  ·have:=h2 k hx;omega
 refine ⟨⟨h.blk.chg hc λhk=>h.dt.1 hk,h.hg,hT.m,h.en.chgS hc (λk hk hs=>h.dse k hs hk) (λk hk hs=>h.dsi k hs hk),h.cq.chg hc λk hk=>(h.dc k hk).1,h.rq.chg hc λk hk=>(h.dr k hk).1,
  nx h.dse λk hk=>(h.en.below k hk).2,nx h.dsi λk hk=>by obtain ⟨_,cs,hb⟩:=qpm h.en hk;exact hb.lt,λk hk=>⟨λhs=>?_,(h.dc k hk).2⟩,λk hk=>⟨λhs=>?_,(h.dr k hk).2⟩,⟨λhs=>?_,h.dt.2⟩,h.ld,ht,h.b4⟩,λk hk=>?_,hc.mono λk _ hk=>.inr (.inl hk),rfl,rfl⟩
 ·exact nx (X:=λj=>j=k) (λj hj e=>(h.dc k hk).1 (e ▸ hj)) (λj e=>by rw [e];exact (h.cq.lt k hk).2) k hs rfl
 ·exact nx (X:=λj=>j=k) (λj hj e=>(h.dr k hk).1 (e ▸ hj)) (λj e=>by rw [e];exact (h.rq.lt k hk).2) k hs rfl
 ·exact nx (X:=λj=>j=F.tg) (λj hj e=>h.dt.1 (e ▸ hj)) (λj e=>by rw [e];exact h.blk.lt) F.tg hs rfl
 ·rcases hk with hk | hk | hk | hk | hk
  ·exact .inl (.inl hk)
  ·rcases hT.old k hk with h3 | h3
   ·exact .inl (.inr (.inl h3))
   ·exact .inr h3
  ·exact .inl (.inr (.inr (.inl hk)))
  ·exact .inl (.inr (.inr (.inr (.inl hk))))
  ·exact .inl (.inr (.inr (.inr (.inr hk))))
theorem TermM.engine (h:TermM w base F T) {KF':KF} {E':KE} {n':Nat} (hT:EngT base F.eg w F.KF KF' E' n' w') (hi:∀k,yl E'.S k->yl T.E.S k\/w.heap.size<=k) (hl:E'.ld=none):TmT base w F { F with KF:=KF' } { T with E:=E',n:=n' } w':=by
 have hc:=hT.chg;have ht:Tab w':=qhr h hc λk hk=>(h.en.below k hk).1;have fe:Go.Proofs.YtlmpnfhmpjldaaaGreatDoor.far (kF F.eg F.KF) w:=λk cs hk=>h.far k cs (.inr (.inr (.inl hk)));have nx:∀{k},k<w.heap.size->¬kF F.eg F.KF k->¬kF F.eg KF' k:=λh1 h2 hs=>by
  rcases hT.old _ hs with h3 | h3
  ·exact h2 h3
  ·omega
 have ni:∀{k},k<w.heap.size->¬yl T.E.S k->¬yl E'.S k:=λh1 h2 hs=>by
  rcases hi _ hs with h3 | h3
  ·exact h2 h3
  ·omega
 refine ⟨⟨h.blk.chg hc λhk=>h.dt.2 hk,h.hg,h.sc.keep hc (λk hk hs=>h.dse k hk hs) fe,hT.m,h.cq.chg hc λk hk=>(h.dc k hk).2.1,h.rq.chg hc λk hk=>(h.dr k hk).2.1,
  λk hk=>nx (h.sc.below k hk).2 (h.dse k hk),λk hk=>ni (h.sc.below k hk).2 (h.dsi k hk),λk hk=>⟨(h.dc k hk).1,nx (h.cq.lt k hk).2 (h.dc k hk).2.1,ni (h.cq.lt k hk).2 (h.dc k hk).2.2.1,(h.dc k hk).2.2.2⟩,
  λk hk=>⟨(h.dr k hk).1,nx (h.rq.lt k hk).2 (h.dr k hk).2.1,ni (h.rq.lt k hk).2 (h.dr k hk).2.2⟩,⟨h.dt.1,nx h.blk.lt h.dt.2⟩,hl,ht,h.b4⟩,λk hk=>?_,hc.mono λk _ hk=>.inr (.inr (.inl hk)),rfl,rfl⟩
 rcases hk with hk | hk | hk | hk | hk
 ·exact .inl (.inl hk)
 ·exact .inl (.inr (.inl hk))
 ·rcases hT.old k hk with h3 | h3
  ·exact .inl (.inr (.inr (.inl h3)))
  ·exact .inr h3
 ·exact .inl (.inr (.inr (.inr (.inl hk))))
 ·exact .inl (.inr (.inr (.inr (.inr hk))))
theorem TermM.replied (h:TermM w base F T) {q:Slc} {xs:List UInt8} (ho:Go.Vc.Own qu w' base q (T.rep++xs)) (hc:Chg (λk=>F.rq.blk=some k) w w') (hq:q.blk=F.rq.blk\/q.blk=some w.heap.size) {K:Ub}
  (hK:∀w2,TmT base w F { F with rq:=q } { T with rep:=T.rep++xs } w2->K w2):stK ((⟨F.tg,0,none⟩:Addr).add 12) [(.slice q.a q.n q.c)] w' K:=by
 have hs:=hc.size;have hb:=h.blk.chg hc (qF h.rq h.blk (by decide) _ · rfl);rw [qH];refine qB hb (by show 0+12+1<=15;omega) λw2 hb2 hg2 hs2=>hK w2 ?_;have c2:Chg (λk=>F.rq.blk=some k\/k=F.tg) w w2:=(hc.mono λk _ e=>.inl e).trans (Chg.gg hg2) λk _ e=>.inr e;have hq':∀k,q.blk=some k->F.rq.blk=some k\/w.heap.size<=k:=λk hk=>by
  rcases hq with e | e
  ·exact .inl (e ▸ hk)
  ·rw [e] at hk;cases hk;exact .inr (le_refl _)
 have nt:F.rq.blk≠some F.tg:=λe=>qF h.rq h.blk (by decide) _ e rfl;refine ⟨⟨hb2,h.hg,h.sc.keep c2 ?_ ?_,h.en.chgS c2 ?_ ?_,h.cq.chg c2 ?_,ho.chg (Chg.gg hg2) ?_,h.dse,h.dsi,λk hk=>?_,λk hk=>?_,h.dt,h.ld,qhr h c2 ?_,h.b4⟩,λk hk=>?_,c2.mono λk _ hk=>?_,rfl,rfl⟩
 ·rintro k hk (e | e)
  ·exact (h.dr k e).1 hk
  ·exact h.dt.1 (e ▸ hk)
 ·rintro k cs (e | e) hb
  ·exact qF h.rq hb (by decide) k e rfl
  ·subst e;exact h.blk.ne_t hb (by decide) rfl
 ·rintro k hk (e | e)
  ·exact (h.dr k e).2.1 hk
  ·exact h.dt.2 (e ▸ hk)
 ·rintro k hk (e | e)
  ·exact (h.dr k e).2.2 hk
  ·exact h.img_tg (e ▸ hk)
 ·rintro k hk (e | e)
  ·exact (h.dc k hk).2.2.2 e
  ·exact qF h.cq h.blk (by decide) k hk e
 ·intro k hk e;rcases hq' k hk with h1 | h1
  ·exact nt (e ▸ h1)
  ·have:=h.blk.lt;omega
 ·refine ⟨(h.dc k hk).1,(h.dc k hk).2.1,(h.dc k hk).2.2.1,λe=>?_⟩;rcases hq' k e with h1 | h1
  ·exact (h.dc k hk).2.2.2 h1
  ·have:=(h.cq.lt k hk).2;omega
 ·rcases hq' k hk with h1 | h1
  ·exact h.dr k h1
  ·refine ⟨λhs=>?_,λhs=>?_,λhs=>?_⟩
   ·have:=(h.sc.below k hs).2;omega
   ·have:=(h.en.below k hs).2;omega
   ·obtain ⟨_,cs,hb⟩:=qpm h.en hs;have:=hb.lt;omega
 ·rintro k (e | e)
  ·exact (h.rq.lt k e).1
  ·rw [e];exact h.hg
 ·rcases hk with hk | hk | hk | hk | hk
  ·exact .inl (.inl hk)
  ·exact .inl (.inr (.inl hk))
  ·exact .inl (.inr (.inr (.inl hk)))
  ·exact .inl (.inr (.inr (.inr (.inl hk))))
  ·rcases hq' k hk with h1 | h1
   ·exact .inl (.inr (.inr (.inr (.inr h1))))
   ·exact .inr h1
 ·rcases hk with e | e
  ·exact .inr (.inr (.inr (.inr e)))
  ·exact .inl e
end
section
variable {w w':World} {base:Nat} {F F':TmF} {T T':TS} {g:Nat} {SF:ScF} {S:Sc}
theorem zf5 (h:ScM w base g SF S) {K:Int->Ub} (hK:∀w',Uc w w'->K S.g.top w'):QN (some ⟨g,0,none⟩) w K:=by
 refine qh0 _ ?_;exact qqq h (q2j h.drew.gM (hK _ (zq w)))
theorem qzd (h:ScM w base g SF S) {K:Int->Int->Ub} (hK:∀w',Uc w w'->K S.g.rows S.g.cols w'):kP (some ⟨g,0,none⟩) w K:=by
 refine qf0 _ ?_;exact qpc h (hK _ ((Below.refl _ w).drew.drew))
def yL (T:TS):qs:=⟨⟨T.S.alt,T.S.g.top,T.S.g.rows,T.S.g.cols,T.S.c.Row,T.S.c.Col⟩,T.c.CellW,T.c.CellH⟩
theorem qto (h:TermM w base F T) {K:qs->Ub} (hK:∀w',Uc w w'->K (yL T) w'):vy (some ⟨F.tg,0,none⟩) w K:=by
 refine qmy _ ?_;simp only [onPtr_some];refine nwb λw1 h1 hB1 hs1=>?_;have m1:=h.ext hB1;refine qK (x:=some ⟨F.sg,0,none⟩) (m1.blk.cells 6 _ rfl) (qzd m1.sc λw2 hB2=>?_);have B2:=bT hB1 hB2;have m2:=h.ext B2;refine qK (x:=some ⟨F.sg,0,none⟩) (m2.blk.cells 6 _ rfl) (qu0 m2.sc λw3 hB3=>?_);have B3:=bT B2 hB3;refine jd (vs:=qA.rep.cells T.S.c) rfl λw4 h4 hB4 hs4=>?_;have B4:=bT B3 hB4;have m4:=(h.ext B4).drew;have h4d:=h4.drew;refine qK (x:=some ⟨F.sg,0,none⟩) (m4.blk.cells 6 _ rfl) (qK (x:=some ⟨F.sg,0,none⟩) (m4.blk.cells 6 _ rfl) ?_);refine lI (x:=T.S.c.Row) (h4d.cells 0 _ rfl) (lI (x:=T.S.c.Col) (h4d.cells 1 _ rfl) ?_);refine lI (x:=T.c.CellW) (by rw [zR];exact m4.blk.cells 2 _ rfl) (lI (x:=T.c.CellH) (by rw [zR];exact m4.blk.cells 3 _ rfl) ?_);refine q82 m4.sc ⟨by rw [zR];exact m4.blk.cells 3 _ rfl,by rw [zR];exact m4.blk.cells 2 _ rfl,h4d.cells 1 _ rfl,h4d.cells 0 _ rfl,m4.blk.cells 6 _ rfl,zf5 m4.sc λw7 hB7=>?_⟩;have m7:=m4.ext hB7;have h47:=h4d.ext hB7;refine ⟨by rw [zR];exact m7.blk.cells 3 _ rfl,by rw [zR];exact m7.blk.cells 2 _ rfl,h47.cells 1 _ rfl,h47.cells 0 _ rfl,?_⟩;have h17:=(((((h1.ext hB2).ext hB3).ext hB4).drew).ext hB7);have B7:=bT (bT B4 (bdw w4)) hB7;exact zn (r:=qs.rep) (x:=yL T) h17 rfl rfl λw8 hc8 hs8=>hK w8 (b1o B7 hc8 (le_refl _))
theorem q4g (h:ScM w base g SF S) {K:Slc->Ub} (hK:∀q w',q.n=S.areas.length->ScT base g w SF { SF with ar:=⟨none,0,0⟩ } { S with areas:=[] } w'->K q w'):vT (some ⟨g,0,none⟩) w K:=by
 refine qb9 _ ?_;simp only [onPtr_some];refine lSl (x:=SF.ar) (h.blk.cells 41 _ rfl) ?_;show stK ⟨g,41,none⟩ _ _ _;have hlen:(qC.rep.cells (scX SF S)).length=42:=rfl;refine qB h.blk (by rw [hlen];show (41+1:Nat)<=42;omega) λw1 hb1 hg1 hs1=>?_;have hc:Chg (λi=>i=g) w w1:=Chg.of_grown hg1 λk hk=>by cases hk;rfl
 have hC:∀k cs,k=g->¬Blk w k qR cs:=λk cs hk hcs=>h.notC k cs (.inl hk) hcs;refine hK SF.ar w1 h.ar.rd.n ⟨⟨hb1,h.hg,h.g0.chg hc (λk hk=>h.of_g k (.inl hk)) hC,h.g1.chg hc (λk hk=>h.of_g k (.inr (.inl hk))) hC,h.st.keep hc (h.of_g _ (.inr (.inr (.inl rfl)))) (h.of_g _ (.inr (.inr (.inr (.inl rfl))))),h.hst,h.mo.chg hc (h.of_g _ (.inr (.inr (.inr (.inr (.inl rfl)))))),h.pr.chg hc (h.of_g _ (.inr (.inr (.inr (.inr (.inr (.inl rfl))))))),h.hm,h.dm,Go.Vc.Own.nil _ _ _,h.dg,h.ok.areas _⟩,?_,hc.mono λk _ e=>.inl e⟩;rintro k (hk | hk | hk | hk | hk | hk | hk | hk)
 ·exact .inl (.inl hk)
 ·exact .inl (.inr (.inl hk))
 ·exact .inl (.inr (.inr (.inl hk)))
 ·exact .inl (.inr (.inr (.inr (.inl hk))))
 ·exact .inl (.inr (.inr (.inr (.inr (.inl hk)))))
 ·exact .inl (.inr (.inr (.inr (.inr (.inr (.inl hk))))))
 ·exact .inl (.inr (.inr (.inr (.inr (.inr (.inr (.inl hk)))))))
 ·cases hk
theorem qrq {f:Value} {LS:List (List qU)} (hn:LS.length<=2000)
  (hf:∀(i:Nat) w2 (K:Slc->Bool->Ub),Uc w w2->(∀xs,LS[i]?=some xs->∀q w3,Go.Vc.Own zi w3 w2.heap.size q xs->Uc w2 w3->K q true w3)->(LS.length<=i->∀q w3,Uc w2 w3->K q false w3)->jm C f [.int .i64 i] [Kind.slice,Kind.bool] w2 K)
  {K:Slc->Ub} (hK:∀q ls w',Go.Vc.Own slE w' w.heap.size q ls->Lines w' w.heap.size ls LS->Uc w w'->K q w'):YS f w K:=by
 refine qwl _ ?_;refine lpR (λ(st:Slc×Int×Unit) w1=>∃(k:Nat) (ls:List Slc),st.2.1=k/\k<=LS.length/\Go.Vc.Own slE w1 w.heap.size st.1 ls/\Lines w1 w.heap.size ls (LS.take k)/\Uc w w1) (λst=>LS.length-st.2.1.toNat) ⟨0,[],rfl,zero_le _,Go.Vc.Own.nil _ _ _,Lines.nil _ _,Below.refl _ _⟩ ?_;rintro ⟨q,i,u⟩ w1 ⟨k,ls,hi,hk,ho,hl,hB⟩ I hI;dsimp only at hi ho ⊢;subst hi;refine hf k w1 _ hB (λxs hx t w2 ht hB2=>?_) λhge t w2 hB2=>?_
 ·refine cF rfl ?_;have hkl:k<LS.length:=(List.getElem?_eq_some_iff.1 hx).1;have hll:ls.length=k:=by rw [hl.1,List.length_take];omega
  have B2:=bT hB hB2;have ho2:=ho.ext hB2;have hl2:=hl.ext hB2;refine qa5 (E:=slE) qlx (y:=t) ho2 rfl B2.size (by rw [hll,show qlx.i.bytes=24 by kernel_rfl];omega) (by rw [hll];simp [maxLen];omega) λr w3 hr hc3 hrb=>?_;have hne:∀k',q.blk=some k'->¬∃cs,Blk w2 k' qR cs:=λk' hk' ⟨cs,hcs⟩=>qF ho2 hcs (by decide) k' hk' rfl;have B3:Uc w w3:=B2.trans (hc3.below B2.size λj hj e=>by have:=(ho2.lt j e).1;omega);refine hI _ _ ⟨k+1,ls++[t],by show i64.wrap ((k:Int)+1)=_;rw [qQ (by omega)];simp,hkl,hr,⟨by rw [length_append,hll,List.length_take,List.length_singleton];omega,λj s ys hj hy=>?_⟩,B3⟩ (by show LS.length-(i64.wrap ((k:Int)+1)).toNat<LS.length-((k:Nat):Int).toNat;rw [qQ (by omega)];omega);by_cases hjk:j<k
  ·rw [List.getElem?_append_left (by omega)] at hj;rw [List.getElem?_take_of_lt (by omega)] at hy;have h4:=hl2.2 j s ys hj (by rw [List.getElem?_take_of_lt hjk];exact hy);exact h4.chg hc3 λk' hk' e=>by
    obtain ⟨cs,hcs⟩:=h4.blk_t hk';exact hne k' e ⟨cs,hcs⟩
  ·have hj2:j<(ls++[t]).length:=(List.getElem?_eq_some_iff.1 hj).1;rw [length_append,List.length_singleton,hll] at hj2;have hje:j=k:=by omega
   subst hje;rw [List.getElem?_append_right (by omega),hll,Nat.sub_self] at hj;obtain rfl:t=s:=by simpa using hj
   rw [List.getElem?_take_of_lt (by omega),hx] at hy;obtain rfl:=Option.some.inj hy;exact (ht.base (by have:=hB.size;omega)).chg hc3 λk' hk' e=>by
    obtain ⟨cs,hcs⟩:=ht.blk_t hk';exact hne k' e ⟨cs,hcs⟩
 ·have hke:k=LS.length:=by omega
  refine cT rfl (hK q ls w2 (ho.ext hB2) ?_ (bT hB hB2));have:=hl.ext hB2;rw [hke,take_length] at this;exact this
end
section
variable {w w':World} {base:Nat} {F F':TmF} {T T':TS}
theorem qhw (h:TermM w base F T) {K:Slc->Ub} (hK:∀q ls w',Go.Vc.Own slE w' w.heap.size q ls->Lines w' w.heap.size ls T.S.g.L->Uc w w'->K q w'):je (some ⟨F.tg,0,none⟩) w K:=by
 refine qk2 _ ?_;simp only [onPtr_some];have hG:=h.sc.gOk;refine qK (x:=some ⟨F.sg,0,none⟩) (h.blk.cells 6 _ rfl) (q3d h.sc λf' w1 hg hf hsc hB1=>?_);have z1:=hB1.size;refine qrq (LS:=T.S.g.L) (by rw [hG.len];have:=hG.rows;omega) (λi w2 K2 hB2 h1 h2=>?_) λq ls w2 ho hl hB2=>hK q ls w2 (ho.base z1) ⟨hl.1,λj s xs hj hx=>(hl.2 j s xs hj hx).base z1⟩ (bT hB1 hB2);refine callR_plain (by kernel_rfl) (show Ke (some ⟨f'.g,0,none⟩) (i:Int) w2 K2 from ?_);refine zbo (hg.ext hB2) hG.len (λxs hx=>by have:=(hG.L xs hx).2.1;have:=hG.cols;omega) (λs xs w3 h0 hx ho hB3=>h1 xs (by simpa using hx) s w3 ho hB3) λhn=>h2 (by rw [hG.len];omega) _ _ (Below.refl _ _)
theorem zao (h:TermM w base F T) {K:Slc->Ub} (hK:∀q ls w',Go.Vc.Own slE w' w.heap.size q ls->Lines w' w.heap.size ls T.S.g.old->Uc w w'->K q w') (hol:T.S.g.old.length<=2000):VH (some ⟨F.tg,0,none⟩) w K:=by
 refine qpf _ ?_;simp only [onPtr_some];have hG:=h.sc.gOk;refine qK (x:=some ⟨F.sg,0,none⟩) (h.blk.cells 6 _ rfl) (q3d h.sc λf' w1 hg hf hsc hB1=>?_);have z1:=hB1.size;refine qrq (LS:=T.S.g.old) hol (λi w2 K2 hB2 h1 h2=>?_) λq ls w2 ho hl hB2=>hK q ls w2 (ho.base z1) ⟨hl.1,λj s xs hj hx=>(hl.2 j s xs hj hx).base z1⟩ (bT hB1 hB2);refine callR_plain (by kernel_rfl) (show VS (some ⟨f'.g,0,none⟩) (i:Int) w2 K2 from ?_);refine zfc (hg.ext hB2) (by have:=hG.most;omega) (λxs hx=>by have:=(hG.old xs hx).1;omega) (λs xs w3 h0 hx ho hB3=>h1 xs (by simpa using hx) s w3 ho hB3) λhn s w3 ho hB3=>h2 (by omega) s w3 hB3
theorem q1z (h:TermM w base F T) {K:Slc->Ub} (hK:∀q w',Rd qu w' q T.rep->TmT base w F { F with rq:=⟨none,0,0⟩ } { T with rep:=[] } w'->K q w'):xe (some ⟨F.tg,0,none⟩) w K:=by
 refine qid _ ?_;simp only [onPtr_some];refine lSl (x:=F.rq) (h.blk.cells 12 _ rfl) (q11 (q86 h.rq) λq hq hn=>?_);rw [qH];refine qB h.blk (by show 0+12+1<=15;omega) λw2 hb2 hg2 hs2=>?_;have hc:=Chg.gg hg2;have hq2:=hq.chg hc λk hk e=>by
  obtain ⟨cs,hcs⟩:=(hq.blk k hk).2;subst e;exact h.blk.ne_t hcs (by decide) rfl
 exact hK q w2 hq2.rd (h.put hb2 hc rfl rfl rfl rfl rfl rfl rfl rfl rfl h.cq (Go.Vc.Own.nil _ _ _) (λk hk=>hk) λk hk=>by cases hk)
theorem qld (h:TermM w base F T) {K:Slc->Ub} (hK:∀q F' w',Rd qu w' q T.rep->TmT base w F F' { T with rep:=[] } w'->K q w'):xe (some ⟨F.tg,0,none⟩) w K:=q1z h λq w'=>hK q _ w'
theorem qj6 (h:TermM w base F T) {n:Int} {priv:Bool} {K:Bool->Ub} (hK:K (T.S.modeP n priv).1 w):vJ (some ⟨F.tg,0,none⟩) n priv w K:=by
 refine qni _ _ _ ?_;simp only [onPtr_some];exact qK (x:=some ⟨F.sg,0,none⟩) (h.blk.cells 6 _ rfl) (ze5 h.sc hK)
def q6t (v:EvP):Ev:=⟨v.k,v.r,v.b,v.pv,v.i,v.ps⟩
structure TPM (w:World) (base:Nat) (F:TmF) (PF:PF) (p:PS) (T:TS):Prop where
 tm:TermM w base F T
 pm:∃fv,ParsM w base PF p fv
 e:PF.pg=F.pg
 dj:∀k,JM PF k->¬Yp F k
 ni:T.E.S.L=[]
theorem ScM.based {base' g:Nat} {SF:ScF} {S:Sc} (h:ScM w base g SF S) (hb:base'<=base):ScM w base' g SF S :=
 ⟨h.blk,le_trans hb h.hg,h.g0.base hb,h.g1.base hb,h.st,⟨le_trans hb h.hst.1,le_trans hb h.hst.2⟩,h.mo,h.pr,⟨le_trans hb h.hm.1,le_trans hb h.hm.2⟩,h.dm,h.ar.base hb,h.dg,h.ok⟩
theorem EngM.based {base' g n:Nat} {KF:KF} {E:KE} (h:EngM w base g KF E n) (hl:E.ld=none) (hb:base'<=base):EngM w base' g KF E n :=
 ⟨h.blk,le_trans hb h.hg,⟨h.st.blk,h.st.map,λp hp=>(h.st.img p hp).base hb⟩,h.ok,⟨le_trans hb h.hs.1,le_trans hb h.hs.2⟩,⟨h.tb.blk,le_trans hb h.tb.hg,h.tb.own.base hb⟩,h.tl,(λC s e=>by rw [hl] at e;cases e),h.nl,h.dg,h.ds,h.dt,h.di⟩
def Xs (c:qo):TS:=⟨c,zg2 c.Rows.toNat c.Cols.toNat c.Back.toNat,zga c.Quota,0,[],false,[],0,0⟩
theorem zdm {c:qo} (hc:okC c) (hq:Kd c.Quota=0) (hT:Tab w) (h16:4<=w.heap.size) {K:Option Addr->Int->Ub} (hK:∀F PF w',TPM w' w.heap.size F PF ps0 (Xs c)->Uc w w'->(F.cq.c=0/\PF.qi.c=0/\PF.qp.c=0/\PF.qd.c=0)->K (some ⟨F.tg,0,none⟩) 0 w'):Ki c w K:=by
 refine qok _ ?_;refine nwb λw1 h1 hB1 hs1=>qy (r:=qo.rep) (x:=c) h1.cells (q22 (λhb=>absurd hc hb) λ_ sg SF w2 hsc hB2=>cF rfl ?_);refine lI (x:=c.Quota) ((h1.ext hB2).cells 5 _ rfl) (zd4 (λhe=>by rw [hq] at he;cases he) λ_ eg KF w3 hge hen hB3=>?_);have h13:=((h1.ext hB2).ext hB3).drew;refine qy (r:=qo.rep) (x:=c) h13.cells ?_;refine qxa ?_;unfold qrk;refine q4h ?_;unfold qzk;refine nwb λw4 h4 hB4 hs4=>nwb λw5 h5 hB5 hs5=>?_;have B45:Below w3.drew.heap.size w3.drew w5:=bT hB4 hB5;refine ⟨(h13.ext B45).cells,nwb λw6 h6 hB6 hs6=>?_⟩;have B36:Uc w3 w6:=bT (bT (bdw w3) B45) hB6;have B26:=bT hB3 B36;have B12:=bT hB1 hB2;have B06:=bT B12 B26;have z1:=hB1.size;have z2:=hB2.size;have z3:=hB3.size;have z4:w3.heap.size<=w4.heap.size:=hB4.size;have z5:=hB5.size;have e3:w3.drew.heap.size=w3.heap.size:=rfl;rw [e3] at h4 hs4;have hsc6:=(hsc.ext B26).based (base':=w.heap.size) z1;have hen6:=(hen.ext B36).based (base':=w.heap.size) rfl (by omega);have sb:∀k,scS sg SF k->k<w2.heap.size:=λk hk=>(hsc.below k hk).2;have eb:∀k,kF eg KF k->w2.heap.size<=k/\k<w3.heap.size:=λk hk=>hen.below k hk;have ib:∀k,¬yl (zga c.Quota).S k:=λk hk=>by obtain ⟨p,hp,_⟩:=hk;cases hp
 refine hK ⟨w5.heap.size,sg,SF,eg,KF,w4.heap.size,⟨none,0,0⟩,⟨none,0,0⟩⟩ ⟨w4.heap.size,w3.heap.size,⟨none,0,0⟩,⟨none,0,0⟩,⟨none,0,0⟩⟩ w6 ⟨⟨h6,by show w.heap.size<=w5.heap.size;omega,hsc6,hen6,Go.Vc.Own.nil _ _ _,Go.Vc.Own.nil _ _ _,λk hk hk2=>?_,λk hk hk2=>ib k hk2,(λk hk=>by cases hk),(λk hk=>by cases hk),⟨λhk=>?_,λhk=>?_⟩,rfl,hT.ext B06,h16⟩,
  ⟨_,(h5.ext hB6),⟨0,0,0,(h4.ext hB5).ext hB6⟩,⟨by show w.heap.size<=w4.heap.size;omega,by show w.heap.size<=w3.heap.size;omega⟩,Go.Vc.Own.nil _ _ _,Go.Vc.Own.nil _ _ _,Go.Vc.Own.nil _ _ _,(λk hk=>by cases hk),⟨by decide,by decide,by decide,by decide,by decide,by decide⟩⟩,rfl,?_,rfl⟩ B06 ⟨rfl,rfl,rfl,rfl⟩
 ·have:=sb k hk;have:=eb k hk2;omega
 ·have:=sb _ hk;dsimp only at this;omega
 ·have:=(eb _ hk).2;dsimp only at this;omega
 ·rintro k (rfl | rfl | hk | hk | hk) hs
  ·rcases hs with hs | hs | hs | hs | hs
   ·have:w4.heap.size=w5.heap.size:=hs;omega
   ·have:=sb _ hs;dsimp only at this;omega
   ·have:=(eb _ hs).2;dsimp only at this;omega
   ·cases hs
   ·cases hs
  ·rcases hs with hs | hs | hs | hs | hs
   ·have:w3.heap.size=w5.heap.size:=hs;omega
   ·have:=sb _ hs;dsimp only at this;omega
   ·have:=(eb _ hs).2;dsimp only at this;omega
   ·cases hs
   ·cases hs
  ·cases hk
  ·cases hk
  ·cases hk
theorem zb9 {c:qo} (hc:okC c) (hq:Kd c.Quota=0) (hT:Tab w) (h16:4<=w.heap.size) {K:Option Addr->Int->Ub} (hK:∀F PF w',TPM w' w.heap.size F PF ps0 (Xs c)->Uc w w'->K (some ⟨F.tg,0,none⟩) 0 w'):Ki c w K:=zdm hc hq hT h16 λF PF w' h hB _=>hK F PF w' h hB
end
section
variable {w w':World} {base:Nat} {F F':TmF} {T T':TS}
theorem zch {b b':Nat} {ls:List Slc} {xss:List (List qU)} (h:Lines w b ls xss) (hb:b'<=b):Lines w b' ls xss:=⟨h.1,λj s xs hj hx=>(h.2 j s xs hj hx).base hb⟩
theorem q8t {f:Value} {K:Ub} (hK:K w):zt ⟨none,0,0⟩ f w K:=by
 refine ji _ _ ?_;refine xC _ _ _ ?_;refine lpR (λ(st:Int×Int×Unit) w1=>st=(0,20,())/\w1=w) (λ_=>0) ⟨rfl,rfl⟩ ?_;rintro _ w1 ⟨rfl,rfl⟩ I hI;refine cF rfl ?_;refine jM _ _ _ _ ?_;refine lpR (λ(st:Int×Unit) w2=>st.1=1/\w2=w1) (λ_=>0) ⟨rfl,rfl⟩ ?_;rintro ⟨i,u⟩ w2 ⟨rfl,rfl⟩ I2 hI2;refine cF rfl ?_;refine lpR (λ(st:Int×Unit) w3=>st.1=20/\w3=w2) (λ_=>0) ⟨rfl,rfl⟩ ?_;rintro ⟨i,u⟩ w3 ⟨rfl,rfl⟩ I3 hI3;exact cF rfl hK
theorem q9r (h:TermM w base F T) (hP:T.E.T=[]) {v:qD} {K:Slc->Ub} (hK:∀w',Uc w w'->K ⟨none,0,0⟩ w'):zd (some ⟨F.eg,0,none⟩) v w K:=by
 refine Ji _ _ ?_;refine nwb λw1 h1 hB1 hs1=>?_;simp only [onPtr_some];have m1:=(h.ext hB1).drew;refine qK (x:=some ⟨F.KF.tg,0,none⟩) (m1.en.blk.cells 2 _ rfl) (qy (r:=qD.rep) (x:=v) h1.drew.cells ?_);refine J0 _ _ ?_;refine nwb λw2 h2 hB2 hs2=>?_;simp only [onPtr_some];have m2:=m1.ext hB2;refine lSl (x:=F.KF.q) (m2.en.tb.blk.cells 0 _ rfl) ?_;have hn:=m2.en.tb.own.rd.n;rw [hP] at hn;refine lpR (λ(st:Slc×Int×Unit) w3=>st=(⟨none,0,0⟩,0,())/\w3=w2) (λ_=>0) ⟨rfl,rfl⟩ ?_;rintro _ w3 ⟨rfl,rfl⟩ I hI;refine cF (by rw [hn];rfl) (q8t (hK _ (bT (bT hB1 (bdw w1)) hB2)))
theorem qn3 (h:TermM w base F T) {K:Option Addr->Ub} (hK:∀g' r' w',StM w' base g' r' T.E.S->Uc w w'->K (some ⟨g',0,none⟩) w'):vV (some ⟨F.tg,0,none⟩) w K:=by
 refine qi8 _ ?_;simp only [onPtr_some];exact qK (x:=some ⟨F.eg,0,none⟩) (h.blk.cells 7 _ rfl) (q3w h.en λg' r' w' _ _ hst hB=>hK g' r' w' hst hB)
end
end Go.Proofs.YtlmpnfhmpjldaaaGreatDoor
