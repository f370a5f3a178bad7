import Derived.Test.YtokfefnmpjohpaaGreatDoorP1
import Derived.Lib.SlBytesConst
import Derived.Test.YtokfefnmpjohpaaGreatDoorShA
import Derived.MapKept
import Derived.Maps.Own
import Derived.Shelf.SlIterI.Nil
import Derived.Shelf.SortM.Plain
import Derived.Shelf.SortM.SortNone
import Derived.Maps.RangeRun
set_option linter.unusedVariables false
namespace Go.Proofs.YtokfefnmpjohpaaGreatDoor
open Go.Vc Go.RowKit
set_option maxRecDepth 400000
open _root_.Int (toNat_natCast)
open IntKind (i64)
open _root_.Nat (le_refl le_trans mul_one zero_le)
def wht:List UInt8:=[229,229,229,255]
def zcs:List UInt8:=[0,0,0,255]
def at0:qu:=⟨0,0,0⟩
section
variable {w w':World}
theorem qlx (c:qs) {K:qh->Ub} (hK:∀w',Uc w w'->K ⟨c.e0,c.e1,c.e2,255⟩ w'):zh c w K:=by
 refine qph _ ?_;refine nwb λw1 h1 hB1 hs1=>nwb λw2 h2 hB2 hs2=>?_;have h12:=h1.ext hB2;refine ⟨⟨by decide,by decide⟩,lI (x:=c.e0) (h12.cells 0 _ rfl) ⟨⟨by decide,by decide⟩,lI (x:=c.e1) (h12.cells 1 _ rfl) ⟨⟨by decide,by decide⟩,lI (x:=c.e2) (h12.cells 2 _ rfl) ?_⟩⟩⟩;refine zw (r:=qh.rep) (x:=⟨c.e0,c.e1,c.e2,255⟩) h2 rfl rfl λw3 hc3 hs3=>hK w3 ?_;exact b1o (bT hB1 hB2) hc3 hB1.size
theorem q1n {K:qs->Ub} (hK:∀w',Uc w w'->K ⟨229,229,229⟩ w'):XM 15066597 w K:=by
 refine qoz _ ?_;refine nwb λw1 h1 hB1 hs1=>⟨by decide,by decide,?_⟩;refine zw (r:=qs.rep) (x:=⟨229,229,229⟩) h1 (by kernel_rfl) rfl λw3 hc3 hs3=>hK w3 ?_;exact b1o hB1 hc3 (le_refl _)
theorem qps (fore:Bool) {K:qs->Ub} (hK:∀w',Uc w w'->K (if fore then ⟨229,229,229⟩ else ⟨0,0,0⟩) w'):VJ 0 fore w K:=by
 refine qrc _ _ ?_;refine nwb λw1 h1 hB1 hs1=>?_;refine jpO λJ1 hJ1=>jpO λJ2 hJ2=>?_;refine qrf _ ?_;refine cT rfl (cF rfl (cT rfl (hJ2 _ _ ?_)));cases fore
 ·refine cT rfl ?_;refine zw (r:=qs.rep) (x:=⟨0,0,0⟩) h1 rfl rfl λw3 hc3 hs3=>hK w3 (b1o hB1 hc3 (le_refl _))
 ·refine cF rfl (cT rfl (q1n λw2 hB2=>?_));refine zw (r:=qs.rep) (x:=⟨229,229,229⟩) (h1.ext hB2) rfl rfl λw3 hc3 hs3=>hK w3 (b1o (bT hB1 hB2) hc3 (le_refl _))
theorem qm6 {K:qs->qs->Ub} (hK:∀w',Uc w w'->K ⟨229,229,229⟩ ⟨0,0,0⟩ w'):X8 at0 w K:=by
 refine qpd _ ?_;refine nwb λw1 h1 hB1 hs1=>nwb λw2 h2 hB2 hs2=>nwb λw3 h3 hB3 hs3=>?_;have h13:=(h1.ext hB2).ext hB3;have z1:=hB1.size;have z2:=hB2.size;have l1:=h1.lt;have l2:=h2.lt;refine lI (x:=0) (h13.drew.cells 0 _ rfl) (lI (x:=0) (h13.drew.cells 1 _ rfl) ?_);refine qps true λw4 hB4=>⟨(h13.drew.ext hB4).cells 1 _ rfl,qps false λw5 hB5=>?_⟩;have B35:Uc w3 w5:=bT (bT (bdw w3) hB4) hB5;have h15:=h13.ext B35;have h25:=(h2.ext hB3).ext B35;have h35:=h3.ext B35;refine xf h25 rfl λw6 h6 hc6 hs6=>?_;have h36:=h35.chg hc6 (by omega);refine xf h36 rfl λw7 h7 hc7 hs7=>?_;have h17:=(h15.chg hc6 (by omega)).chg hc7 (by omega);have h27:=h6.chg hc7 (by omega);have B7:Uc w w7:=b1o (b1o (bT (bT (bT hB1 hB2) hB3) B35) hc6 z1) hc7 (by omega);refine jpO λJ1 hJ1=>?_;refine lI (x:=0) (h17.cells 2 _ rfl) (cF (by kernel_rfl) (hJ1 _ _ ?_));refine jpO λJ2 hJ2=>?_;refine lI (x:=0) (h17.cells 2 _ rfl) (cF (by kernel_rfl) (hJ2 _ _ ?_));refine jpO λJ3 hJ3=>?_;refine lI (x:=0) (h17.cells 2 _ rfl) (cF (by kernel_rfl) (hJ3 _ _ ?_));refine qw (r:=qs.rep) (x:=⟨229,229,229⟩) h27.drew.cells (qw (r:=qs.rep) (x:=⟨0,0,0⟩) h7.drew.cells ?_);refine xf h27.drew rfl λw8 h8 hc8 hs8=>?_;have h78:=h7.drew.chg hc8 (by omega);refine ⟨h78.cells,xf h78 rfl λw9 h9 hc9 hs9=>?_⟩;refine qw (r:=qs.rep) (x:=⟨229,229,229⟩) (h8.chg hc9 (by omega)).cells (qw (r:=qs.rep) (x:=⟨0,0,0⟩) h9.cells ?_);exact hK w9 (b1o (b1o (bT B7 (bdw w7)) hc8 z1) hc9 (by omega))
theorem q3n {α:Type} {xs:List α} {k:Nat} (hk:k<xs.length):∃x,xs[k]?=some x/\∀h,xs[((k:Int)).toNat]'h=x:=⟨xs[k],List.getElem?_eq_getElem hk,λ_=>rfl⟩
abbrev Cel:=qX
def Ye:Cel:=⟨0,0,at0⟩
def xJ (L:List (List Cel)) (row col:Nat):Cel:=(L.getD row []).getD col Ye
structure ScnM (w:World) (B:Nat) (s:qo) (R C cw ch:Nat) (L:List (List Cel)):Prop where
 rows:s.Rows=R
 cols:s.Cols=C
 ecw:s.CellW=cw
 ech:s.CellH=ch
 lim:1<=R/\R<=1000/\1<=C/\C<=1000/\1<=cw/\cw<=64/\1<=ch/\ch<=64
 ls:∃ls,Rd slE w s.Lines ls/\ls.length=L.length/\∀(i:Nat) q xs,ls[i]?=some q->L[i]?=some xs->Rd zl w q xs/\∀a,q.a=some a->a.block<B
 lo:∀a,s.Lines.a=some a->a.block<B
theorem ScnM.keep {B:Nat} {s:qo} {R C cw ch:Nat} {L:List (List Cel)} {S:Nat->Prop} (h:ScnM w B s R C cw ch L) (hc:Chg S w w') (hS:∀k,S k->B<=k):ScnM w' B s R C cw ch L:=by
 obtain ⟨ls,h1,h2,h3⟩:=h.ls;exact ⟨h.rows,h.cols,h.ecw,h.ech,h.lim,⟨ls,h1.chg hc λa ha hs=>by have:=h.lo a ha;have:=hS _ hs;omega,h2,λi q xs hq hx=>⟨(h3 i q xs hq hx).1.chg hc λa ha hs=>by have:=(h3 i q xs hq hx).2 a ha;have:=hS _ hs;omega,(h3 i q xs hq hx).2⟩⟩,h.lo⟩
theorem ScnM.ext {B:Nat} {s:qo} {R C cw ch:Nat} {L:List (List Cel)} (h:ScnM w B s R C cw ch L) (hB:Uc w w'):ScnM w' B s R C cw ch L:=h.keep (Chg.of_ext (S:=λ_=>False) hB) λ_ h=>h.elim
theorem qz8 {B:Nat} {s:qo} {R C cw ch:Nat} {L:List (List Cel)} (h:ScnM w B s R C cw ch L) (row col:Nat) {K:Cel->Ub} (hK:∀w',Uc w w'->K (xJ L row col) w'):Zk s row col w K:=by
 refine qgm _ _ _ ?_;refine nwb λw1 h1 hB1 hs1=>nwb λw2 h2 hB2 hs2=>?_;have h12:=h1.ext hB2;have B2:=bT hB1 hB2;have hs:=h.ext B2;obtain ⟨ls,l1,l2,l3⟩:=hs.ls;have hn:=l1.n;have out:∀v:Cel,v=xJ L row col->stK ⟨w1.heap.size,0,none⟩ (qX.rep.cells v) w2 λw4=>ldS qX.rep ⟨w1.heap.size,0,none⟩ w4 λr=>K r w4:=by
  rintro v rfl;exact zw (r:=qX.rep) (x:=xJ L row col) h2 rfl rfl λw3 hc3 hs3=>hK w3 (b1o B2 hc3 hB1.size)
 refine jpO λJ1 hJ1=>?_;refine lSl (x:=s.Lines) (h12.cells 4 _ rfl) (cO (λe=>?_) λe=>?_)
 ·have e:=oTq e;refine out Ye ?_;unfold xJ;rw [show L.getD row []=[] by rw [List.getD_eq_getElem?_getD,List.getElem?_eq_none (by omega)];rfl];rfl
 have e:=oFq e;have hr:row<ls.length:=by omega
 have hrL:row<L.length:=by omega
 obtain ⟨q,hq,hqs⟩:=q3n (xs:=ls) (k:=row) hr;have hx:L[row]?=some L[row]:=List.getElem?_eq_getElem hrL;have hl:=(l3 row q _ hq hx).1;have eL:L.getD row []=L[row]:=by rw [List.getD_eq_getElem?_getD,hx];rfl
 have ixr:∀{X:Slc->Prop},X q->ixK s.Lines row 1 λt17=>jg t17 w2 X:=by
  intro X hX;refine l1.ix (i:=(row:Int)) (k:=1) rfl (by omega) (by omega) λhc=>?_;rw [hqs] at hc;exact lSl (x:=q) (by simpa using hc 0 _ rfl) hX
 refine lSl (x:=s.Lines) (h12.cells 4 _ rfl) (ixr ?_);have hqn:=hl.n;refine cO (λe2=>?_) λe2=>?_
 ·have e2:=oTq e2;refine out Ye ?_;unfold xJ;rw [eL,List.getD_eq_getElem?_getD,List.getElem?_eq_none (by omega)];rfl
 have e2:=oFq e2;refine hJ1 _ _ (lSl (x:=s.Lines) (h12.cells 4 _ rfl) (ixr ?_));have hc2:col<L[row].length:=by omega
 obtain ⟨v,hv,hvs⟩:=get_of (xs:=L[row]) (k:=col) hc2;refine hl.ix (i:=(col:Int)) (k:=5) rfl (by omega) (by omega) λhc=>?_;rw [hvs] at hc;refine qw (r:=qX.rep) (x:=v) hc ?_;refine out v ?_;unfold xJ;rw [eL,List.getD_eq_getElem?_getD,hv];rfl
def zam (g:List UInt8->Nat->Nat->Cel->List UInt8) (L:List (List Cel)) (row:Nat) (P:List UInt8):Nat->List UInt8
 | 0=>P
 | j+1=>g (zam g L row P j) row j (xJ L row j)
def qpx (g:List UInt8->Nat->Nat->Cel->List UInt8) (L:List (List Cel)) (C:Nat) (P:List UInt8):Nat->List UInt8
 | 0=>P
 | i+1=>zam g L i (qpx g L C P i) C
theorem qqk {B base:Nat} {s:qo} {R C cw ch W H:Nat} {L:List (List Cel)} {m:qa} {P:List UInt8} {g:List UInt8->Nat->Nat->Cel->List UInt8} {fv:Value} (h:ScnM w B s R C cw ch L) (hM:MatM w base m W H P) (hb:B<=base)
  (hf:∀{w1:World} {P1:List UInt8} (row col:Nat) {K:Ub},row<R->col<C->MatM w1 base m W H P1->Chg (λk=>m.P.blk=some k) w w1->(∀w2,MatM w2 base m W H (g P1 row col (xJ L row col))->Chg (λk=>m.P.blk=some k) w1 w2->K w2) ->
   jd Go.Proofs.YtokfefnmpjohpaaGreatDoor.C fv [(Ua row),(Ua col),(.agg #[(.int .i32 (xJ L row col).R),(Ua (xJ L row col).Kind),(Ua (xJ L row col).A.Fg),(Ua (xJ L row col).A.Bg),(Ua (xJ L row col).A.Flags)])] [] w1 K)
  {K:Ub} (hK:∀w',MatM w' base m W H (qpx g L C P R)->Chg (λk=>m.P.blk=some k) w w'->K w'):vE s fv w K:=by
 refine qgp _ _ ?_;refine nwb λw1 h1 hB1 hs1=>?_;obtain ⟨gm,ha,hbm⟩:=hM.some_;have gl:=(hM.own.lt gm hbm);have l1:=h1.lt;have lim:=h.lim;refine lI (x:=(R:Int)) (by rw [<-h.rows];exact h1.cells 0 _ rfl) ?_;have keepS:∀{w3},Chg (λk=>m.P.blk=some k) w1 w3->Blk w3 w.heap.size za (qo.rep.cells s):=λhc=>h1.chg hc λe=>by rw [hbm] at e;cases e;omega
 have keepL:∀{w3},Chg (λk=>m.P.blk=some k) w1 w3->ScnM w3 B s R C cw ch L:=λhc=>(h.ext hB1).keep hc λk e=>by rw [hbm] at e;cases e;omega
 have c01:Chg (λk=>m.P.blk=some k) w w1:=Chg.of_ext hB1;refine lpR (λ(st:Int×Unit) w2=>∃i:Nat,st.1=(i:Int)/\i<=R/\MatM w2 base m W H (qpx g L C P i)/\Chg (λk=>m.P.blk=some k) w1 w2) (λst=>R-st.1.toNat) ⟨0,rfl,zero_le _,hM.ext hB1,Chg.refl _ _⟩ ?_;rintro ⟨i0,u⟩ w2 ⟨i,hi,hiR,hM2,hc2⟩ I hI;dsimp only at hi ⊢;subst hi;refine cO (λe=>?_) λe=>?_
 ·have hlt:i<R:=by have:=oTq e;omega
  refine lI (x:=(C:Int)) (by rw [<-h.cols];exact (keepS hc2).cells 1 _ rfl) ?_;refine lpR (λ(st:Int×Unit) w3=>∃j:Nat,st.1=(j:Int)/\j<=C/\MatM w3 base m W H (zam g L i (qpx g L C P i) j)/\Chg (λk=>m.P.blk=some k) w1 w3) (λst=>C-st.1.toNat) ⟨0,rfl,zero_le _,hM2,hc2⟩ ?_;rintro ⟨j0,u2⟩ w3 ⟨j,hj,hjC,hM3,hc3⟩ I2 hI2;dsimp only at hj ⊢;subst hj;refine cO (λe=>?_) λe=>?_
  ·have hjt:j<C:=by have:=oTq e;omega
   refine qw (r:=qo.rep) (x:=s) (keepS hc3).cells ?_;refine qz8 (keepL hc3) i j λw4 hB4=>?_;have hc4:Chg (λk=>m.P.blk=some k) w1 w4:=hc3.trans (Chg.of_ext hB4) λ_ _ h=>h;refine hf i j hlt hjt (hM3.ext hB4) (c01.trans hc4 λ_ _ h=>h) λw5 hM5 hc5=>?_;rw [qP (x:=(j:Int)+1) (by omega)];exact hI2 _ _ ⟨j+1,by simp,by omega,hM5,hc4.trans hc5 λ_ _ h=>h⟩ (by dsimp only;omega)
  ·have:j=C:=by have:=oFq e;omega
   subst this;rw [qP (x:=(i:Int)+1) (by omega)];exact hI _ _ ⟨i+1,by simp,by omega,hM3,hc3⟩ (by dsimp only;omega)
 ·have:i=R:=by have:=oFq e;omega
  subst this;exact hK w2 hM2 (c01.trans hc2 λ_ _ h=>h)
end
theorem zgd:zdg wht ⟨229,229,229,255⟩:=⟨rfl,rfl⟩
theorem zd6:zdg zcs ⟨0,0,0,255⟩:=⟨rfl,rfl⟩
def zcr (L:List (List Cel)):Prop:=∀r c,(xJ L r c).A=at0
def qxi (W H cw ch:Nat) (P:List UInt8) (row col:Nat) (c:Cel):List UInt8:=qxa P W H ((col*cw:Nat):Int) ((row*ch:Nat):Int) cw ch zcs
section
variable {w w':World} {B base:Nat} {s:qo} {R C0 cw ch W H:Nat} {L:List (List Cel)} {m:qa} {P:List UInt8}
theorem q1i {a b:Nat} (ha:a<=1000) (hb:b<=64):i64.wrap ((a:Int)*(b:Int))=((a*b:Nat):Int)/\a*b<=64000:=by
 have h:a*b<=1000*64:=Nat.mul_le_mul ha hb;rw [show (a:Int)*(b:Int)=((a*b:Nat):Int) by simp];exact ⟨qP (by omega),h⟩
theorem qxp (h:ScnM w B s R C0 cw ch L) (hb:zcr L) (hM:MatM w base m W H P) (hB:B<=base) {K:qa->Ub} (hK:∀w',MatM w' base m W H (qpx (qxi W H cw ch) L C0 P R)->Chg (λk=>m.P.blk=some k) w w'->K m w'):vV ⟨s⟩ m w K:=by
 refine qbg _ _ ?_;refine nwb λw1 h1 hB1 hs1=>nwb λw2 h2 hB2 hs2=>nwb λw3 h3 hB3 hs3=>?_;have B3:=bT (bT hB1 hB2) hB3;have h13:=(h1.ext hB2).ext hB3;have h23:=h2.ext hB3;obtain ⟨gm,ha,hbm⟩:=hM.some_;have gl:=hM.own.lt gm hbm;have lim:=h.lim;refine qw (r:=qo.rep) (x:=s) (h13.sub 0 _ rfl) ?_;have kp:∀{b:Nat} {t:TypeId} {vs:List Value} {wa wb:World},Blk wa b t vs->Chg (λk=>m.P.blk=some k) wa wb->w.heap.size<=b->Blk wb b t vs:=λhb hc hle=>hb.chg hc λe=>by rw [hbm] at e;cases e;omega
 refine qqk (g:=qxi W H cw ch) (h.ext B3) (hM.ext B3) hB (λ{w4 P4} row col {K4} hr hc hM4 hc4 hK4=>?_) λw4 hM4 hc4=>?_
 ·have hl1:=kp h13 hc4 (le_refl _);have hm1:=kp h23 hc4 hB1.size;refine Go.Vc.callR_plain (by kernel_rfl) ?_;refine Calls.mono (show Z1 (row:Int) (col:Int) (xJ L row col) ⟨w1.heap.size,0,none⟩ ⟨w.heap.size,0,none⟩ w4 K4 from ?_) ?_
  ·refine YC _ _ _ _ _ ?_;refine nwb λw5 h5 hB5 hs5=>?_;refine qw (r:=qu.rep) (x:=at0) (by have:=h5.sub 2 (qu.rep.cells (xJ L row col).A) rfl;rw [hb] at this;exact this) ?_;refine qm6 λw6 hB6=>?_;refine nwb λw7 h7 hB7 hs7=>nwb λw8 h8 hB8 hs8=>?_;have h78:=h7.ext hB8;refine xf h78 rfl λw9 h9 hc9 hs9=>?_;have h89:=h8.chg hc9 (by have:=h7.lt;omega);refine xf h89 rfl λw10 h10 hc10 hs10=>?_;have B68:=bT (bT hB5 hB6) (bT hB7 hB8);have B10:Uc w4 w10:=b1o (b1o B68 hc9 (bT hB5 hB6).size) hc10 (by have:=(bT (bT hB5 hB6) hB7).size;omega);have B10d:=bT B10 (bdw w10);have hlx:=hl1.ext B10d;have hmx:=hm1.ext B10d;refine qw (r:=qa.rep) (x:=m) hmx.cells ?_;have c2:∀{wx},Blk wx w.heap.size j6 (qE.rep.cells ⟨s⟩)->wx.cell? (((⟨w.heap.size,0,none⟩:Addr).add 0).add 2)=some (Ua cw):=λhx=>by rw [<-h.ecw,j8];exact hx.cells 2 _ rfl
   have c3:∀{wx},Blk wx w.heap.size j6 (qE.rep.cells ⟨s⟩)->wx.cell? (((⟨w.heap.size,0,none⟩:Addr).add 0).add 3)=some (Ua ch):=λhx=>by rw [<-h.ech,j8];exact hx.cells 3 _ rfl
   refine lI (x:=(cw:Int)) (c2 hlx) (lI (x:=(ch:Int)) (c3 hlx) (lI (x:=(cw:Int)) (c2 hlx) (lI (x:=(ch:Int)) (c3 hlx) ?_)));refine qw (r:=qs.rep) (x:=⟨0,0,0⟩) h10.drew.cells ?_;refine qlx _ λw11 hB11=>?_;have B11:=bT B10d hB11;have hl11:=hl1.ext B11;have hm11:=hm1.ext B11;refine ⟨c3 hl11,c2 hl11,c3 hl11,c2 hl11,hm11.cells,?_⟩;obtain ⟨e1,b1⟩:=q1i (a:=col) (b:=cw) (by omega) (by omega);obtain ⟨e2,b2⟩:=q1i (a:=row) (b:=ch) (by omega) (by omega);rw [e1,e2];exact qqy (hM4.ext B11) (by omega) (by omega) (by omega) (by omega) zd6 λw12 hM12 hc12=>hK4 w12 hM12 ((Chg.of_ext B11).trans hc12 λ_ _ h=>h)
  ·rintro e w' ⟨rfl,hk⟩;exact ⟨rfl,hk⟩
 ·have hm4:=kp h23 hc4 hB1.size;have h34:=kp h3 hc4 (by have:=(bT hB1 hB2).size;omega);refine qw (r:=qa.rep) (x:=m) hm4.cells ?_;refine zw (r:=qa.rep) (x:=m) h34 rfl rfl λw5 hc5 hs5=>?_;have z4:=hc4.size;have l3:=(bT hB1 hB2).size;have l4:=h3.lt;have c5:Chg (λk=>k=w2.heap.size) w4 w5:=hc5;refine hK w5 ⟨hM4.hw,hM4.hh,hM4.own.chg c5 (λk hk e=>by rw [hbm] at hk;cases hk;omega),hM4.len,hM4.lim⟩ ?_;refine (Chg.of_ext (S:=λk=>m.P.blk=some k) B3).trans (S':=λk=>m.P.blk=some k\/k=w2.heap.size) ((hc4.mono λ_ _ h=>.inl h).trans c5 λ_ _ e=>.inr e) λi hi e=>?_;rcases e with e | e
  ·exact e
  ·omega
end
def zcz (lay:List UInt8->Int->Int->Int->Int->List UInt8->List UInt8) (P:List UInt8) (r:Int) (wx hx:Nat):List UInt8 :=
 if r>32 then
  if (wx+1)/2>2/\(hx+1)/2>2 then lay (lay P ((wx/4:Nat):Int) ((hx/4:Nat):Int) (((wx+1)/2:Nat):Int) (((hx+1)/2:Nat):Int) wht) ((wx/4+r.toNat%((wx+1)/2):Nat):Int) ((hx/4+r.toNat/256%((hx+1)/2):Nat):Int) 1 1 zcs
  else lay P ((wx/4:Nat):Int) ((hx/4:Nat):Int) (((wx+1)/2:Nat):Int) (((hx+1)/2:Nat):Int) wht
 else P
section
variable {w w':World} {B base:Nat} {s:qo} {R C0 cw ch W H:Nat} {L:List (List Cel)} {m:qa} {P:List UInt8}
def agC (c:qh):Value:=.agg #[(.int .u8 c.e0),(.int .u8 c.e1),(.int .u8 c.e2),(.int .u8 c.e3)]
theorem za9 {lay:List UInt8->Int->Int->Int->Int->List UInt8->List UInt8} {fv:Value} (r:Int) (hr:0<=r/\r<=1114111) (wx hx:Nat) (hw:1<=wx/\wx<=128) (hh:1<=hx/\hx<=64) (hM:MatM w base m W H P)
  (hf:∀{w1:World} {P1:List UInt8} (x y bw bh:Int) (c:qh) (cb:List UInt8) {K:Ub},0<=x/\x<=1000->0<=y/\y<=1000->0<=bw/\bw<=1000->0<=bh/\bh<=1000->zdg cb c->MatM w1 base m W H P1->Chg (λk=>m.P.blk=some k) w w1->(∀w2,MatM w2 base m W H (lay P1 x y bw bh cb)->Chg (λk=>m.P.blk=some k) w1 w2->K w2) ->
   jd Go.Proofs.YtokfefnmpjohpaaGreatDoor.C fv [(Ua x),(Ua y),(Ua bw),(Ua bh),agC c] [] w1 K)
  {K:Ub} (hK:∀w',MatM w' base m W H (zcz lay P r wx hx)->Chg (λk=>m.P.blk=some k) w w'->K w'):qhr r wx hx at0 fv w K:=by
 refine quy _ _ _ _ _ ?_;obtain ⟨gm,ha,hbm⟩:=hM.some_;have gl:=hM.own.lt gm hbm;refine nwb λw1 h1 hB1 hs1=>?_;refine qw (r:=qu.rep) (x:=at0) h1.cells (qm6 λw2 hB2=>?_);refine nwb λw3 h3 hB3 hs3=>nwb λw4 h4 hB4 hs4=>?_;refine xf (h3.ext hB4) rfl λw5 h5 hc5 hs5=>?_;have l3:=h3.lt;have h45:=h4.chg hc5 (by omega);refine xf h45 rfl λw6 h6 hc6 hs6=>?_;have z1:=hB1.size;have z2:=hB2.size;have z3:=hB3.size;have l4:=h4.lt;have l1:=h1.lt;have hf6:=h5.chg hc6 (by omega);have h16:=((((h1.ext hB2).ext hB3).ext hB4).chg hc5 (by omega)).chg hc6 (by omega);have B6:Uc w w6:=b1o (b1o (bT (bT hB1 hB2) (bT hB3 hB4)) hc5 (by omega)) hc6 (by omega);have kp:∀{b:Nat} {t:TypeId} {vs:List Value} {wa wb:World},Blk wa b t vs->Chg (λk=>m.P.blk=some k) wa wb->w.heap.size<=b->Blk wb b t vs:=λhb hc hle=>hb.chg hc λe=>by rw [hbm] at e;cases e;omega
 refine jpO λJ1 hJ1=>?_;have key:∀(fo ba:Nat) w7,w.heap.size<=fo->w.heap.size<=ba->Blk w7 fo q6 (qh.rep.cells ⟨229,229,229,255⟩)->Blk w7 ba q6 (qh.rep.cells ⟨0,0,0,255⟩)->Blk w7 w.heap.size jv (qu.rep.cells at0)->Uc w w7->J1 (⟨fo,0,none⟩,⟨ba,0,none⟩,()) w7:=by
  intro fo ba w7 lf lb hfo hba h17 B7;refine hJ1 _ _ ?_;dsimp only;refine jpO λJ2 hJ2=>?_;have fin:∀w8,MatM w8 base m W H (zcz lay P r wx hx)->Chg (λk=>m.P.blk=some k) w7 w8->J2 () w8:=by
   intro w8 hM8 hc8;have h18:=kp h17 hc8 (le_refl _);refine hJ2 _ _ (jpO λJ3 hJ3=>?_);refine lI (x:=0) (h18.cells 2 _ rfl) (cF (by kernel_rfl) (hJ3 _ _ ?_));exact lI (x:=0) (h18.cells 2 _ rfl) (cF (by kernel_rfl) (hK w8 hM8 ((Chg.of_ext B7).trans hc8 λ_ _ h=>h)))
  have c07:Chg (λk=>m.P.blk=some k) w w7:=Chg.of_ext B7;unfold zcz at fin;refine cO (λe=>?_) λe=>?_
  ·have e:=oTq e;rw [if_pos e] at fin;refine ⟨by decide,by decide,by decide,by decide,?_⟩;refine qw (r:=qh.rep) (x:=⟨229,229,229,255⟩) hfo.cells ?_;have e1:i64.wrap ((wx:Int).tdiv 4)=((wx/4:Nat):Int):=by
    rw [show (wx:Int).tdiv 4=((wx/4:Nat):Int) from rfl];exact qP (by omega)
   have e2:i64.wrap ((hx:Int).tdiv 4)=((hx/4:Nat):Int):=by
    rw [show (hx:Int).tdiv 4=((hx/4:Nat):Int) from rfl];exact qP (by omega)
   have e3:i64.wrap ((i64.wrap ((wx:Int)+1)).tdiv 2)=(((wx+1)/2:Nat):Int):=by
    rw [qP (x:=(wx:Int)+1) (by omega),show ((wx:Int)+1)=((wx+1:Nat):Int) by simp,show ((wx+1:Nat):Int).tdiv 2=(((wx+1)/2:Nat):Int) from rfl];exact qP (by omega)
   have e4:i64.wrap ((i64.wrap ((hx:Int)+1)).tdiv 2)=(((hx+1)/2:Nat):Int):=by
    rw [qP (x:=(hx:Int)+1) (by omega),show ((hx:Int)+1)=((hx+1:Nat):Int) by simp,show ((hx+1:Nat):Int).tdiv 2=(((hx+1)/2:Nat):Int) from rfl];exact qP (by omega)
   simp only [e1,e2,e3,e4];refine hf _ _ _ _ ⟨229,229,229,255⟩ wht (by omega) (by omega) (by omega) (by omega) zgd (hM.ext B7) c07 λw8 hM8 hc8=>?_;refine jpO λJ4 hJ4=>?_;have key4:∀b:Bool,b=decide ((wx+1)/2>2/\(hx+1)/2>2)->J4 (b,()) w8:=by
    intro b hb;refine hJ4 _ _ (cO (λe=>?_) λe=>?_)
    ·have e:b=true:=e;rw [e] at hb;have hb:=oTq hb.symm;rw [if_pos hb] at fin;refine ⟨by omega,by decide,by omega,?_⟩;have hba8:=(kp hba hc8 lb).drew;refine qw (r:=qh.rep) (x:=⟨0,0,0,255⟩) hba8.cells ?_;obtain ⟨rn,hrn⟩:∃rn:Nat,r=rn:=⟨r.toNat,by omega⟩;subst hrn;simp only [toNat_natCast] at fin;have e5:i64.wrap (rn:Int)=(rn:Int):=qP (by omega);have m1:(rn:Int).tmod (((wx+1)/2:Nat):Int)=((rn%((wx+1)/2):Nat):Int):=rfl;have m2:(rn:Int).tdiv 256=((rn/256:Nat):Int):=rfl;have e6:i64.wrap ((rn/256:Nat):Int)=((rn/256:Nat):Int):=qP (by omega);have m3:((rn/256:Nat):Int).tmod (((hx+1)/2:Nat):Int)=((rn/256%((hx+1)/2):Nat):Int):=rfl;have lt1:rn%((wx+1)/2)<(wx+1)/2:=Nat.mod_lt _ (by omega);have lt2:rn/256%((hx+1)/2)<(hx+1)/2:=Nat.mod_lt _ (by omega);rw [e5,m1,m2,e6,m3];have a1:((wx/4:Nat):Int)+((rn%((wx+1)/2):Nat):Int)=((wx/4+rn%((wx+1)/2):Nat):Int):=by simp
     have a2:((hx/4:Nat):Int)+((rn/256%((hx+1)/2):Nat):Int)=((hx/4+rn/256%((hx+1)/2):Nat):Int):=by simp
     rw [a1,a2];generalize rn%((wx+1)/2)=q1 at *;generalize rn/256%((hx+1)/2)=q2 at *;rw [qP (x:=((wx/4+q1:Nat):Int)) (by omega),qP (x:=((hx/4+q2:Nat):Int)) (by omega)];have B8d:Chg (λk=>m.P.blk=some k) w8 w8.drew:=Chg.of_ext (bdw w8);refine hf _ _ _ _ ⟨0,0,0,255⟩ zcs (by omega) (by omega) (by omega) (by omega) zd6 (hM8.ext (bdw w8)) ((c07.trans hc8 λ_ _ h=>h).trans B8d λ_ _ h=>h) λw9 hM9 hc9=>?_;exact fin w9 hM9 ((hc8.trans B8d λ_ _ h=>h).trans hc9 λ_ _ h=>h)
    ·have e:b=false:=e;rw [e] at hb;have hb:=oFq hb.symm;rw [if_neg hb] at fin;exact fin w8 hM8 hc8
   refine cO (λe=>?_) λe=>?_
   ·have e:=oTq e;refine key4 _ ?_;by_cases h2:(hx+1)/2>2
    ·rw [dTq (p:=(wx+1)/2>2/\_) ⟨by omega,h2⟩,dTq (by omega)]
    ·rw [dFq (p:=(wx+1)/2>2/\_) (λhh=>h2 hh.2),dFq (by omega)]
   ·have e:=oFq e;exact key4 _ (by rw [dFq];rintro ⟨h,_⟩;omega)
  ·have e:=oFq e;rw [if_neg e] at fin;exact fin w7 (hM.ext B7) (Chg.refl _ _)
 have hfd:=hf6.drew;have hbd:=h6.drew;refine qw (r:=qs.rep) (x:=⟨229,229,229⟩) hfd.cells (qw (r:=qs.rep) (x:=⟨0,0,0⟩) hbd.cells ?_);have h1d:=h16.drew;have Bd:=bT B6 (bdw w6);have sz6:w6.drew.heap.size=w6.heap.size:=rfl;have z6:=B6.size;generalize w6.drew=w7 at hfd hbd h1d Bd sz6 ⊢;have ca:∀{wx},Uc w7 wx->qx wx ⟨w2.heap.size,0,none⟩ (qs.rep.cells ⟨229,229,229⟩):=λhB=>(hfd.ext hB).cells;have cb:∀{wx},Uc w7 wx->qx wx ⟨w3.heap.size,0,none⟩ (qs.rep.cells ⟨0,0,0⟩):=λhB=>(hbd.ext hB).cells;have two:∀(fo ba:Nat) wx,w7.heap.size<=fo->w7.heap.size<=ba->fo≠ba->Blk wx fo q6 [(.int .u8 0),(.int .u8 0),(.int .u8 0),(.int .u8 0)]->Blk wx ba q6 [(.int .u8 0),(.int .u8 0),(.int .u8 0),(.int .u8 0)]->Uc w7 wx ->
   stK ⟨fo,0,none⟩ (qh.rep.cells ⟨229,229,229,255⟩) wx λwy=>stK ⟨ba,0,none⟩ (qh.rep.cells ⟨0,0,0,255⟩) wy λwz=>J1 (⟨fo,0,none⟩,⟨ba,0,none⟩,()) wz:=by
  intro fo ba wx lf lb ne hfo hba hB;refine xf hfo rfl λwy hy hcy hsy=>?_;refine xf (hba.chg hcy λe=>ne e.symm) rfl λwz hz hcz hsz=>?_;have l17:=h1d.lt;refine key fo ba wz (by omega) (by omega) (hy.chg hcz ne) hz (((h1d.ext hB).chg hcy (by omega)).chg hcz (by omega)) (b1o (b1o (bT Bd hB) hcy (by omega)) hcz (by omega))
 have sol1:∀{wx} {X:qh->Ub},(∀wy,Uc wx wy->X ⟨229,229,229,255⟩ wy)->zh ⟨229,229,229⟩ wx X:=λh=>qlx _ h;have sol2:∀{wx} {X:qh->Ub},(∀wy,Uc wx wy->X ⟨0,0,0,255⟩ wy)->zh ⟨0,0,0⟩ wx X:=λh=>qlx _ h;have nf:∀{wa:World} (_:Uc w7 wa) {X:Addr->Ub},(∀wb,Blk wb wa.heap.size q6 [(.int .u8 0),(.int .u8 0),(.int .u8 0),(.int .u8 0)]->Uc wa wb->Uc w7 wb->X ⟨wa.heap.size,0,none⟩ wb) ->
   nw q6 [(.int .u8 0),(.int .u8 0),(.int .u8 0),(.int .u8 0)] wa λt wb=>qx wb ⟨w3.heap.size,0,none⟩ (qs.rep.cells ⟨0,0,0⟩)/\qx wb ⟨w2.heap.size,0,none⟩ (qs.rep.cells ⟨229,229,229⟩)/\X t wb :=
  λhB _ h=>nwb λwb hb hBb hsb=>⟨cb (bT hB hBb),ca (bT hB hBb),h wb hb hBb (bT hB hBb)⟩
 have r0:Uc w7 w7:=Below.refl _ w7;refine ⟨sol1 λwa Ba=>⟨cb Ba,?_,?_,?_⟩,nf r0 λwa ha' Ba' Ba=>⟨?_,?_⟩,nf r0 λwa ha' Ba' Ba=>⟨?_,?_⟩⟩
 ·refine sol2 λwb Bb'=>?_;have Bb:=bT Ba Bb';refine ⟨nf Bb λwc hc Bc' Bc=>nf Bc λwd hd Bd' Bd=>?_,nf Bb λwc hc Bc' Bc=>nf Bc λwd hd Bd' Bd=>?_⟩
  ·exact two _ _ wd Bb.size Bc.size (by have:=hc.lt;omega) (hc.ext Bd') hd Bd
  ·exact two _ _ wd Bc.size Bb.size (by have:=hc.lt;omega) hd (hc.ext Bd') Bd
 ·refine nf Ba λwc hc Bc' Bc=>⟨sol2 λwb Bb'=>nf (bT Bc Bb') λwd hd Bd' Bd=>?_,nf Bc λwd hd Bd' Bd=>sol2 λwb Bb'=>?_⟩
  ·exact two _ _ wd Ba.size (bT Bc Bb').size (by have:=hc.lt;have:=Bb'.size;omega) ((hc.ext Bb').ext Bd') hd Bd
  ·exact two _ _ wb Ba.size Bc.size (by have:=hc.lt;omega) ((hc.ext Bd').ext Bb') (hd.ext Bb') (bT Bd Bb')
 ·refine nf Ba λwc hc Bc' Bc=>⟨sol2 λwb Bb'=>nf (bT Bc Bb') λwd hd Bd' Bd=>?_,nf Bc λwd hd Bd' Bd=>sol2 λwb Bb'=>?_⟩
  ·exact two _ _ wd (bT Bc Bb').size Ba.size (by have:=hc.lt;have:=Bb'.size;omega) hd ((hc.ext Bb').ext Bd') Bd
  ·exact two _ _ wb Bc.size Ba.size (by have:=hc.lt;omega) (hd.ext Bb') ((hc.ext Bd').ext Bb') (bT Bd Bb')
 ·refine sol1 λwb Bb'=>⟨cb (bT Ba Bb'),sol2 λwc Bc'=>nf (bT (bT Ba Bb') Bc') λwd hd Bd' Bd=>?_,nf (bT Ba Bb') λwd hd Bd' Bd=>sol2 λwc Bc'=>?_⟩
  ·exact two _ _ wd r0.size (bT (bT Ba Bb') Bc').size (by have:=ha'.lt;have:=(bT Bb' Bc').size;omega) (((ha'.ext Bb').ext Bc').ext Bd') hd Bd
  ·exact two _ _ wc r0.size (bT Ba Bb').size (by have:=ha'.lt;have:=Bb'.size;omega) (((ha'.ext Bb').ext Bd').ext Bc') (hd.ext Bc') (bT Bd Bc')
 ·refine nf Ba λwd hd Bd' Bd=>sol1 λwb Bb'=>⟨cb (bT Bd Bb'),sol2 λwc Bc'=>?_⟩;exact two _ _ wc r0.size Ba.size (by have:=ha'.lt;omega) (((ha'.ext Bd').ext Bb').ext Bc') ((hd.ext Bb').ext Bc') (bT (bT Bd Bb') Bc')
 ·refine sol1 λwb Bb'=>⟨cb (bT Ba Bb'),sol2 λwc Bc'=>nf (bT (bT Ba Bb') Bc') λwd hd Bd' Bd=>?_,nf (bT Ba Bb') λwd hd Bd' Bd=>sol2 λwc Bc'=>?_⟩
  ·exact two _ _ wd (bT (bT Ba Bb') Bc').size r0.size (by have:=ha'.lt;have:=(bT Bb' Bc').size;omega) hd (((ha'.ext Bb').ext Bc').ext Bd') Bd
  ·exact two _ _ wc (bT Ba Bb').size r0.size (by have:=ha'.lt;have:=Bb'.size;omega) (hd.ext Bc') (((ha'.ext Bb').ext Bd').ext Bc') (bT Bd Bc')
 ·refine nf Ba λwd hd Bd' Bd=>sol1 λwb Bb'=>⟨cb (bT Bd Bb'),sol2 λwc Bc'=>?_⟩;exact two _ _ wc Ba.size r0.size (by have:=ha'.lt;omega) ((hd.ext Bb').ext Bc') (((ha'.ext Bd').ext Bb').ext Bc') (bT (bT Bd Bb') Bc')
end
def qxl (W H cw ch C0:Nat) (P:List UInt8) (row col:Nat) (c:Cel):List UInt8 :=
 if c.R=0 then P else if c.Kind=2 then P
 else zcz (λP x y bw bh k=>qxa P W H (((col*cw:Nat):Int)+x) (((row*ch:Nat):Int)+y) bw bh k) P c.R (if c.Kind=1/\col+1<C0 then cw*2 else cw) ch
def za2 (L:List (List Cel)):Prop:=∀r c,0<=(xJ L r c).R/\(xJ L r c).R<=1114111
section
variable {w w':World} {B base:Nat} {s:qo} {R C0 cw ch W H:Nat} {L:List (List Cel)} {m:qa} {P:List UInt8}
theorem q1r (h:ScnM w B s R C0 cw ch L) (hb:zcr L) (hch:za2 L) (hM:MatM w base m W H P) (hB:B<=base) {K:qa->Ub} (hK:∀w',MatM w' base m W H (qpx (qxl W H cw ch C0) L C0 P R)->Chg (λk=>m.P.blk=some k) w w'->K m w'):yE ⟨s⟩ m w K:=by
 refine qcz _ _ ?_;refine nwb λw1 h1 hB1 hs1=>nwb λw2 h2 hB2 hs2=>nwb λw3 h3 hB3 hs3=>?_;have B3:=bT (bT hB1 hB2) hB3;have h13:=(h1.ext hB2).ext hB3;have h23:=h2.ext hB3;obtain ⟨gm,ha,hbm⟩:=hM.some_;have gl:=hM.own.lt gm hbm;have lim:=h.lim;refine qw (r:=qo.rep) (x:=s) (h13.sub 0 _ rfl) ?_;have kp:∀{b:Nat} {t:TypeId} {vs:List Value} {wa wb:World},Blk wa b t vs->Chg (λk=>m.P.blk=some k) wa wb->w.heap.size<=b->Blk wb b t vs:=λhb hc hle=>hb.chg hc λe=>by rw [hbm] at e;cases e;omega
 refine qqk (g:=qxl W H cw ch C0) (h.ext B3) (hM.ext B3) hB (λ{w4 P4} row col {K4} hr hc hM4 hc4 hK4=>?_) λw4 hM4 hc4=>?_
 ·have hl1:=kp h13 hc4 (le_refl _);have hm1:=kp h23 hc4 hB1.size;refine Go.Vc.callR_plain (by kernel_rfl) ?_;refine Calls.mono (show Jc (row:Int) (col:Int) (xJ L row col) ⟨w.heap.size,0,none⟩ ⟨w1.heap.size,0,none⟩ w4 K4 from ?_) ?_
  ·refine YP _ _ _ _ _ ?_;refine nwb λw5 h5 hB5 hs5=>nwb λw6 h6 hB6 hs6=>nwb λw7 h7 hB7 hs7=>?_;have B7:=bT (bT hB5 hB6) hB7;have h57:=(h5.ext hB6).ext hB7;have h67:=h6.ext hB7;have hl7:=hl1.ext B7;have hm7:=hm1.ext B7;have hM7:=hM4.ext B7;obtain ⟨c,hcc⟩:∃c,c=xJ L row col:=⟨_,rfl⟩;have hA:=hb row col;have hR:=hch row col;rw [<-hcc] at h7 hK4 hA hR;refine jpO λJ1 hJ1=>?_;unfold qxl at hK4;refine lI (x:=c.R) (h7.cells 0 _ rfl) (cO (λe=>?_) λe=>?_)
   ·rw [if_pos (eq_of_beq e)] at hK4;exact hK4 w7 hM7 (Chg.of_ext B7)
   rw [if_neg (beq_eq_false_iff_ne.1 e)] at hK4;refine lI (x:=c.Kind) (h7.cells 1 _ rfl) (cO (λe=>?_) λe=>?_)
   ·rw [if_pos (eq_of_beq e)] at hK4;exact hK4 w7 hM7 (Chg.of_ext B7)
   rw [if_neg (beq_eq_false_iff_ne.1 e)] at hK4;refine hJ1 _ _ ?_;have c2:∀{wx},Blk wx w.heap.size jr (qE.rep.cells ⟨s⟩)->wx.cell? (((⟨w.heap.size,0,none⟩:Addr).add 0).add 2)=some (Ua cw):=λhx=>by rw [<-h.ecw,j8];exact hx.cells 2 _ rfl
   have c3:∀{wx},Blk wx w.heap.size jr (qE.rep.cells ⟨s⟩)->wx.cell? (((⟨w.heap.size,0,none⟩:Addr).add 0).add 3)=some (Ua ch):=λhx=>by rw [<-h.ech,j8];exact hx.cells 3 _ rfl
   have c1:∀{wx},Blk wx w.heap.size jr (qE.rep.cells ⟨s⟩)->wx.cell? (((⟨w.heap.size,0,none⟩:Addr).add 0).add 1)=some (Ua C0):=λhx=>by rw [<-h.cols,j8];exact hx.cells 1 _ rfl
   refine lI (x:=(cw:Int)) (c2 hl7) ?_;refine jpO λJ2 hJ2=>?_;have key:∀cx:Nat,1<=cx/\cx<=128->cx=(if c.Kind=1/\col+1<C0 then cw*2 else cw)->J2 ((cx:Int),()) w7:=by
    intro cx hcx ecx;rw [<-ecx] at hK4;refine hJ2 _ _ ?_;refine lI (x:=c.R) (h7.cells 0 _ rfl) (lI (x:=(ch:Int)) (c3 hl7) ?_);refine qw (r:=qu.rep) (x:=at0) (by have:=h7.sub 2 (qu.rep.cells c.A) rfl;rw [hA] at this;exact this) ?_;refine za9 (lay:=λP x y bw bh k=>qxa P W H (((col*cw:Nat):Int)+x) (((row*ch:Nat):Int)+y) bw bh k) c.R hR cx ch hcx (by omega) hM7 (λ{w8 P8} x y bw bh k kb {K8} hx hy hbw hbh hk hM8 hc8 hK8=>?_) λw8 hM8 hc8=>hK4 w8 hM8 ((Chg.of_ext B7).trans hc8 λ_ _ h=>h);refine Go.Vc.callR_plain (by kernel_rfl) ?_;have z5:=hB5.size;have z6:=hB6.size;have l4:=hc4.size;have l3:=B3.size;have hle:w.heap.size<=w4.heap.size:=by omega
    refine Calls.mono (show QN x y bw bh k ⟨w1.heap.size,0,none⟩ ⟨w5.heap.size,0,none⟩ ⟨w.heap.size,0,none⟩ ⟨w4.heap.size,0,none⟩ w8 K8 from ?_) ?_
    ·refine VG _ _ _ _ _ _ _ _ _ ?_;refine nwb λw9 h9 hB9 hs9=>?_;have hl9:=(kp hl7 hc8 (le_refl _)).ext hB9;have hm9:=(kp hm7 hc8 hB1.size).ext hB9;have hr9:=(kp h57 hc8 hle).ext hB9;have hcl9:=(kp h67 hc8 (by omega)).ext hB9;refine qw (r:=qa.rep) (x:=m) hm9.cells (lI (x:=(col:Int)) (by simpa using hcl9.cell 0 rfl) (lI (x:=(cw:Int)) (c2 hl9) (lI (x:=(row:Int)) (by simpa using hr9.cell 0 rfl) (lI (x:=(ch:Int)) (c3 hl9) ?_))));refine qw (r:=qh.rep) (x:=k) h9.cells ?_;obtain ⟨e1,b1⟩:=q1i (a:=col) (b:=cw) (by omega) (by omega);obtain ⟨e2,b2⟩:=q1i (a:=row) (b:=ch) (by omega) (by omega);rw [e1,e2,qP (x:=((col*cw:Nat):Int)+x) (by omega),qP (x:=((row*ch:Nat):Int)+y) (by omega)];exact qqy (hM8.ext hB9) (by omega) (by omega) (by omega) (by omega) hk λw10 hM10 hc10=>hK8 w10 hM10 ((Chg.of_ext hB9).trans hc10 λ_ _ h=>h)
    ·rintro e w' ⟨rfl,hk⟩;exact ⟨rfl,hk⟩
   refine jpO λJ3 hJ3=>?_;have key3:∀b:Bool,b=decide (c.Kind=1/\col+1<C0)->J3 (b,()) w7:=by
    intro b hbb;refine hJ3 _ _ (cO (λe=>?_) λe=>?_)
    ·have e:b=true:=e;rw [e] at hbb;have hbb:=oTq hbb.symm;rw [qP (x:=(cw:Int)*2) (by omega),show (cw:Int)*2=((cw*2:Nat):Int) by simp];exact key _ (by omega) (by rw [if_pos hbb])
    ·have e:b=false:=e;rw [e] at hbb;have hbb:=oFq hbb.symm;exact key _ (by omega) (by rw [if_neg hbb])
   refine lI (x:=c.Kind) (h7.cells 1 _ rfl) (cO (λe=>?_) λe=>?_)
   ·have e:c.Kind=1:=eq_of_beq e;refine lI (x:=(col:Int)) (by simpa using h67.cell 0 rfl) (lI (x:=(C0:Int)) (c1 hl7) (key3 _ ?_));rw [qP (x:=(col:Int)+1) (by omega)];by_cases hcC:col+1<C0
    ·rw [dTq (p:=c.Kind=1/\col+1<C0) ⟨e,hcC⟩,dTq (by omega)]
    ·rw [dFq (p:=c.Kind=1/\col+1<C0) (λhh=>hcC hh.2),dFq (by omega)]
   ·have e:¬c.Kind=1:=beq_eq_false_iff_ne.1 e;exact key3 _ (by rw [dFq];rintro ⟨h,_⟩;exact e h)
  ·rintro e w' ⟨rfl,hk⟩;exact ⟨rfl,hk⟩
 ·have hm4:=kp h23 hc4 hB1.size;have h34:=kp h3 hc4 (by have:=(bT hB1 hB2).size;omega);refine qw (r:=qa.rep) (x:=m) hm4.cells ?_;refine zw (r:=qa.rep) (x:=m) h34 rfl rfl λw5 hc5 hs5=>?_;have z4:=hc4.size;have l3:=(bT hB1 hB2).size;have l4:=h3.lt;refine hK w5 ⟨hM4.hw,hM4.hh,hM4.own.chg hc5 (λk hk e=>by rw [hbm] at hk;cases hk;omega),hM4.len,hM4.lim⟩ ?_;refine (Chg.of_ext (S:=λk=>m.P.blk=some k) B3).trans (S':=λk=>m.P.blk=some k\/k=w2.heap.size) ((hc4.mono λ_ _ h=>.inl h).trans hc5 λ_ _ e=>.inr e) λi hi e=>?_;rcases e with e | e
  ·exact e
  ·omega
end
section
variable {w:World}
theorem q7p {W H:Nat} {K:Bool->Ub} (hW1:1<=W) (hW2:W<=16384) (hH1:1<=H) (hH2:H<=16384) (hA:W*H<=67108864) (hK:K true w):Jo (W:Int) (H:Int) w K:=by
 refine KO _ _ ?_;refine cF (q85 (by omega)) (cT (dTq (by omega)) (cT (dTq (by omega)) (cT (dTq (by omega)) (cT (dTq (by omega)) ?_))));rw [show (W:Int)*(H:Int)=((W*H:Nat):Int) by simp,qP (by omega),dTq (by omega)];exact hK
theorem qwu {W H:Nat} {K:qa->Int->Ub} (hW1:1<=W) (hW2:W<=16384) (hH1:1<=H) (hH2:H<=16384) (hA:W*H<=67108864)
  (hK:∀(t:Slc) (gm:Nat) w',Go.Vc.Own qn w' w.heap.size t (List.replicate (4*W*H) 0)->t.a=some ⟨gm,0,none⟩->w.heap.size<=gm->Uc w w'->K ⟨W,H,t⟩ 0 w'):qao (W:Int) (H:Int) w K:=by
 refine qts _ _ ?_;refine nwb λw1 h1 hB1 hs1=>q7p hW1 hW2 hH1 hH2 hA (cF rfl ?_);have e:i64.wrap ((i64.wrap ((4:Int)*(W:Int)))*(H:Int))=((4*W*H:Nat):Int):=by
  have h4:4*W*H=4*(W*H):=Nat.mul_assoc _ _ _;rw [qP (x:=(4:Int)*(W:Int)) (by omega),show (4:Int)*(W:Int)*(H:Int)=((4*W*H:Nat):Int) by simp,qP (by omega)]
 rw [e];have h4:4*W*H=4*(W*H):=Nat.mul_assoc _ _ _;refine q5h ze (x0:=(0:UInt8)) rfl (n:=4*W*H) rfl rfl (by rw [km];omega) (by unfold maxLen;omega) λw4 ho hB4=>?_;refine zw (r:=qa.rep) (x:=⟨W,H,⟨some ⟨w1.heap.size,0,none⟩,4*W*H,4*W*H⟩⟩) (h1.ext hB4) rfl rfl λw5 hc5 hs5=>?_;refine hK _ w1.heap.size w5 ((ho.chg hc5 λk hk e=>?_).base (by omega)) rfl (by omega) (b1o (bT hB1 hB4) hc5 (le_refl _));have:=(ho.lt k hk).1;omega
end
def zf2 (P:List UInt8) (o:Nat):List UInt8:=P.set o (255-P.getD o 0)
def q8p (P:List UInt8) (o:Nat):Nat->List UInt8
 | 0=>P
 | i+1=>zf2 (q8p P o i) (o+i)
def q6t (P:List UInt8) (W y x0:Nat):Nat->List UInt8
 | 0=>P
 | k+1=>q8p (q6t P W y x0 k) (4*(y*W+(x0+k))) 3
def q3k (P:List UInt8) (W x0 nx y0:Nat):Nat->List UInt8
 | 0=>P
 | k+1=>q6t (q3k P W x0 nx y0 k) W (y0+k) x0 nx
def qjh (P:List UInt8) (W R C0 cw ch:Nat) (on:Bool) (row col:Int):List UInt8 :=
 if on=true/\(0<=row/\row<R)/\(0<=col/\col<C0) then q3k P W (col.toNat*cw) cw (row.toNat*ch) ch else P
theorem qik (P:List UInt8) (o:Nat):∀i,(q8p P o i).length=P.length
 | 0=>rfl
 | i+1=>by show (List.set _ _ _).length=_;rw [List.length_set,qik P o i]
section
variable {w w':World} {B base:Nat} {s:qo} {R C0 cw ch W H:Nat} {L:List (List Cel)} {m:qa} {P:List UInt8}
theorem xj {v lo hi:Int} {K:Bool->Ub} (hK:K (decide (lo<=v/\v<=hi)) w):zH v lo hi w K:=by
 refine ql4 _ _ _ ?_;refine cO (λe=>?_) λe=>?_
 ·have e:=oTq e;rw [show decide (lo<=v/\v<=hi)=decide (v<=hi) by simp;intro _;exact e] at hK;exact hK
 ·have e:=oFq e;rw [show decide (lo<=v/\v<=hi)=false by simp;omega] at hK;exact hK
theorem qvs (h:ScnM w B s R C0 cw ch L) (hW:W=C0*cw) (hH:H=R*ch) (br:-1000000<=s.Row/\s.Row<=1000000) (bc:-1000000<=s.Col/\s.Col<=1000000) (hM:MatM w base m W H P) {K:qa->Ub}
  (hK:∀w',MatM w' base m W H (qjh P W R C0 cw ch s.Cursor s.Row s.Col)->Chg (λk=>m.P.blk=some k) w w'->K m w'):yn ⟨s⟩ m w K:=by
 refine qda _ _ ?_;refine nwb λw1 h1 hB1 hs1=>nwb λw2 h2 hB2 hs2=>nwb λw3 h3 hB3 hs3=>?_;have h13:=(h1.ext hB2).ext hB3;have h23:=h2.ext hB3;refine qw (r:=qo.rep) (x:=s) (h13.sub 0 _ rfl) ?_;refine nwb λw4 h4 hB4 hs4=>xf h4 rfl λw5 h5 hc5 hs5=>?_;have l3:=h3.lt;have l2:=h23.lt;have z12:=(bT hB1 hB2).size;have z4:=hB4.size;have B5:Uc w w5:=b1o (bT (bT (bT hB1 hB2) hB3) hB4) hc5 (by omega);have h25:=(h23.ext hB4).chg hc5 (by omega);have h35:=(h3.ext hB4).chg hc5 (by omega);obtain ⟨gm,ha,hbm⟩:=hM.some_;have gl:=hM.own.lt gm hbm;have lim:=h.lim;have hM5:=hM.ext B5;have kp:∀{b:Nat} {t:TypeId} {vs:List Value} {wa wb:World},Blk wa b t vs->Chg (λk=>m.P.blk=some k) wa wb->w.heap.size<=b->Blk wb b t vs:=λhb hc hle=>hb.chg hc λe=>by rw [hbm] at e;cases e;omega
 have fin:∀w6 P6,MatM w6 base m W H P6->Chg (λk=>m.P.blk=some k) w5 w6->P6=qjh P W R C0 cw ch s.Cursor s.Row s.Col ->
   ldS qa.rep ⟨w1.heap.size,0,none⟩ w6 λt93=>stK ⟨w2.heap.size,0,none⟩ (qa.rep.cells t93) w6 λw11=>ldS qa.rep ⟨w2.heap.size,0,none⟩ w11 λr=>K r w11:=by
  rintro w6 P6 hM6 hc6 rfl;refine qw (r:=qa.rep) (x:=m) (kp h25 hc6 hB1.size).cells ?_;refine zw (r:=qa.rep) (x:=m) (kp h35 hc6 z12) rfl rfl λw7 hc7 hs7=>?_;have z6:=hc6.size;refine hK w7 ⟨hM6.hw,hM6.hh,hM6.own.chg hc7 (λk hk e=>by rw [hbm] at hk;cases hk;omega),hM6.len,hM6.lim⟩ ?_;refine (Chg.of_ext (S:=λk=>m.P.blk=some k) B5).trans (S':=λk=>m.P.blk=some k\/k=w2.heap.size) ((hc6.mono λ_ _ h=>.inl h).trans hc7 λ_ _ e=>.inr e) λi hi e=>?_;rcases e with e | e
  ·exact e
  ·omega
 refine jpO λJ1 hJ1=>?_;have go:s.Cursor=true->(0<=s.Row/\s.Row<(R:Int))->(0<=s.Col/\s.Col<(C0:Int))->∀w6,Uc w5 w6->J1 () w6:=by
  intro hon hrow hcol w6 hB6;refine hJ1 _ _ ?_;have h56:=h5.ext hB6;have hM6:=hM5.ext hB6;obtain ⟨r,hr⟩:∃r:Nat,s.Row=r:=⟨s.Row.toNat,by omega⟩;obtain ⟨c,hc⟩:∃c:Nat,s.Col=c:=⟨s.Col.toNat,by omega⟩;obtain ⟨e1,b1⟩:=q1i (a:=r) (b:=ch) (by omega) (by omega);obtain ⟨e2,b2⟩:=q1i (a:=c) (b:=cw) (by omega) (by omega);have lr:∀{wx},Blk wx w3.heap.size za (qo.rep.cells s)->wx.cell? ((⟨w3.heap.size,0,none⟩:Addr).add 9)=some (Ua r):=λhx=>by rw [<-hr];exact hx.cells 9 _ rfl
  have lc:∀{wx},Blk wx w3.heap.size za (qo.rep.cells s)->wx.cell? ((⟨w3.heap.size,0,none⟩:Addr).add 10)=some (Ua c):=λhx=>by rw [<-hc];exact hx.cells 10 _ rfl
  have lh:∀{wx},Blk wx w3.heap.size za (qo.rep.cells s)->wx.cell? ((⟨w3.heap.size,0,none⟩:Addr).add 3)=some (Ua ch):=λhx=>by rw [<-h.ech];exact hx.cells 3 _ rfl
  have lw:∀{wx},Blk wx w3.heap.size za (qo.rep.cells s)->wx.cell? ((⟨w3.heap.size,0,none⟩:Addr).add 2)=some (Ua cw):=λhx=>by rw [<-h.ecw];exact hx.cells 2 _ rfl
  have er:i64.wrap (i64.wrap ((r:Int)+1)*(ch:Int))=((r*ch+ch:Nat):Int):=by
   rw [qP (x:=(r:Int)+1) (by omega),show ((r:Int)+1)*(ch:Int)=((r*ch+ch:Nat):Int) by rw [Int.add_mul];simp];exact qP (by omega)
  have ec:i64.wrap (i64.wrap ((c:Int)+1)*(cw:Int))=((c*cw+cw:Nat):Int):=by
   rw [qP (x:=(c:Int)+1) (by omega),show ((c:Int)+1)*(cw:Int)=((c*cw+cw:Nat):Int) by rw [Int.add_mul];simp];exact qP (by omega)
  have inr:r*ch+ch<=H:=by
   rw [hH];have:(r+1)*ch<=R*ch:=Nat.mul_le_mul_right ch (by omega);rw [Nat.add_mul] at this;omega
  have inc:c*cw+cw<=W:=by
   rw [hW];have:(c+1)*cw<=C0*cw:=Nat.mul_le_mul_right cw (by omega);rw [Nat.add_mul] at this;omega
  obtain ⟨y0,hy0⟩:∃y0,y0=r*ch:=⟨_,rfl⟩;obtain ⟨x0,hx0⟩:∃x0,x0=c*cw:=⟨_,rfl⟩;refine lI (x:=(r:Int)) (lr h56) (lI (x:=(ch:Int)) (lh h56) ?_);rw [e1,<-hy0];rw [<-hy0] at er inr b1;rw [<-hx0] at ec inc b2;have c06:Chg (λk=>m.P.blk=some k) w5 w6:=Chg.of_ext hB6;have hlen:=hM.len;have hlim:=hM.lim;refine lpR (λ(st:Int×Unit) w7=>∃k:Nat,st.1=((y0+k:Nat):Int)/\k<=ch/\MatM w7 base m W H (q3k P W x0 cw y0 k)/\Chg (λk=>m.P.blk=some k) w6 w7) (λst=>ch-(st.1.toNat-y0)) ⟨0,rfl,zero_le _,hM6,Chg.refl _ _⟩ ?_;rintro ⟨i,u⟩ w7 ⟨k,hi,hk,hM7,hc7⟩ I hI;dsimp only at hi ⊢;subst hi;have h57:=kp h56 hc7 (by omega);refine lI (x:=(r:Int)) (lr h57) (lI (x:=(ch:Int)) (lh h57) ?_);rw [er];refine cO (λe=>?_) λe=>?_
  ·have hkn:k<ch:=by have:=oTq e;omega
   refine lI (x:=(c:Int)) (lc h57) (lI (x:=(cw:Int)) (lw h57) ?_);rw [e2,<-hx0];refine lpR (λ(st:Int×Unit) w8=>∃j:Nat,st.1=((x0+j:Nat):Int)/\j<=cw/\MatM w8 base m W H (q6t (q3k P W x0 cw y0 k) W (y0+k) x0 j)/\Chg (λk=>m.P.blk=some k) w6 w8) (λst=>cw-(st.1.toNat-x0)) ⟨0,rfl,zero_le _,hM7,hc7⟩ ?_;rintro ⟨i2,u2⟩ w8 ⟨j,hi2,hj,hM8,hc8⟩ I2 hI2;dsimp only at hi2 ⊢;subst hi2;have h58:=kp h56 hc8 (by omega);refine lI (x:=(c:Int)) (lc h58) (lI (x:=(cw:Int)) (lw h58) ?_);rw [ec];refine cO (λe=>?_) λe=>?_
   ·have hjn:j<cw:=by have:=oTq e;omega
    have hin:=qxr (W:=W) (H:=H) (x:=x0+j) (y:=y0+k) (by omega) (by omega);obtain ⟨o,ho⟩:∃o,o=4*((y0+k)*W+(x0+j)):=⟨_,rfl⟩;refine lpR (λ(st:Int×Unit) w9=>∃t:Nat,st.1=(t:Int)/\t<=3/\MatM w9 base m W H (q8p (q6t (q3k P W x0 cw y0 k) W (y0+k) x0 j) o t)/\Chg (λk=>m.P.blk=some k) w6 w9) (λst=>3-st.1.toNat) ⟨0,rfl,by omega,hM8,hc8⟩ ?_;rintro ⟨i3,u3⟩ w9 ⟨t,hi3,ht,hM9,hc9⟩ I3 hI3;dsimp only at hi3 ⊢;subst hi3;refine cO (λe=>?_) λe=>?_
    ·have htn:t<3:=by have:=oTq e;omega
     have hm9:=(kp (h25.ext hB6) hc9 hB1.size).drew;refine lSl (x:=m.P) (hm9.cells 2 _ rfl) (lI (x:=(W:Int)) (by rw [<-hM.hw];exact hm9.cells 0 _ rfl) (lSl (x:=m.P) (hm9.cells 2 _ rfl) (lI (x:=(W:Int)) (by rw [<-hM.hw];exact hm9.cells 0 _ rfl) ?_)));have eidx:i64.wrap (i64.wrap ((4:Int)*i64.wrap (i64.wrap (((y0+k:Nat):Int)*(W:Int))+((x0+j:Nat):Int)))+(t:Int))=((o+t:Nat):Int):=by
      have e1:((y0+k:Nat):Int)*(W:Int)=(((y0+k)*W:Nat):Int):=by simp
      rw [e1,ho];generalize (y0+k)*W=q at hin ⊢;rw [qP (x:=((q:Nat):Int)) (by omega),qP (x:=((q:Nat):Int)+((x0+j:Nat):Int)) (by omega),qP (x:=(4:Int)*(((q:Nat):Int)+((x0+j:Nat):Int))) (by omega),qP (by omega)];omega
     rw [eidx];have hl9:=hM9.len;have ho9:=hM9.own.drew;have hot:o+t<(q8p (q6t (q3k P W x0 cw y0 k) W (y0+k) x0 j) o t).length:=by rw [hl9];omega
     obtain ⟨v,hv,hvs⟩:=q3n (xs:=q8p (q6t (q3k P W x0 cw y0 k) W (y0+k) x0 j) o t) (k:=o+t) hot;refine ho9.rd.ix (i:=((o+t:Nat):Int)) (k:=1) rfl (by omega) (by omega) λhcell=>?_;rw [hvs] at hcell;refine zfx (b:=v) hcell ?_;refine ho9.rd.ix (i:=((o+t:Nat):Int)) (k:=1) rfl (by omega) (by omega) λ_=>?_;have ev:IntKind.u8.wrap ((255:Int)-(v.toNat:Int))=((255-v).toNat:Int):=by
      have h8:=v.toNat_lt;have e1:(255-v).toNat=255-v.toNat:=by
       rw [UInt8.toNat_sub_of_le]
       ·rfl
       ·rw [UInt8.le_iff_toNat_le];show v.toNat<=255;omega
      rw [e1,show (255:Int)-(v.toNat:Int)=((255-v.toNat:Nat):Int) by omega];exact xh .u8 (by show _<2^8;omega)
     rw [ev];refine ho9.st0 (x:=v) hv (y:=255-v) rfl λw10 ho10 hg10 hs10=>?_;rw [qP (x:=(t:Int)+1) (by omega)];have hc10:Chg (λk=>m.P.blk=some k) w9 w10:=(Chg.of_ext (bdw w9)).trans (Chg.of_grown (S:=λk=>m.P.blk=some k) hg10 λk hk=>hk) λ_ _ h=>h;refine hI3 _ _ ⟨t+1,by simp,by omega,⟨hM9.hw,hM9.hh,?_,by rw [qik,<-qik _ o t];exact hl9,hM9.lim⟩,hc9.trans hc10 λ_ _ h=>h⟩ (by dsimp only;omega);show Go.Vc.Own qn w10 base m.P (List.set _ (o+t) (255-List.getD _ (o+t) 0));rw [List.getD_eq_getElem?_getD,hv];exact ho10
    ·have:t=3:=by have:=oFq e;omega
     subst this;rw [qP (x:=((x0+j:Nat):Int)+1) (by omega)];refine hI2 _ _ ⟨j+1,by simp;omega,by omega,?_,hc9⟩ (by dsimp only;omega);rw [ho] at hM9;exact hM9
   ·have:j=cw:=by have:=oFq e;omega
    subst this;rw [qP (x:=((y0+k:Nat):Int)+1) (by omega)];exact hI _ _ ⟨k+1,by simp;omega,by omega,hM8,hc8⟩ (by dsimp only;omega)
  ·have:k=ch:=by have:=oFq e;omega
   subst this;refine fin w7 _ hM7 (c06.trans hc7 λ_ _ h=>h) ?_;unfold qjh;rw [if_pos ⟨hon,hrow,hcol⟩,hr,hc,toNat_natCast,toNat_natCast,<-hy0,<-hx0]
 have no:¬(s.Cursor=true/\(0<=s.Row/\s.Row<(R:Int))/\(0<=s.Col/\s.Col<(C0:Int)))->P=qjh P W R C0 cw ch s.Cursor s.Row s.Col:=λhn=>by unfold qjh;rw [if_neg hn]
 refine jY (x:=s.Cursor) (h5.cells 8 _ rfl) (cO (λe=>?_) λe=>?_)
 ·have e:s.Cursor=false:=by simpa using e
  exact fin w5 P hM5 (Chg.refl _ _) (no λhh=>by rw [e] at hh;cases hh.1)
 have eon:s.Cursor=true:=by simpa using e
 refine lI (x:=s.Row) (h5.cells 9 _ rfl) (lI (x:=(R:Int)) (by rw [<-h.rows];exact h5.cells 0 _ rfl) ?_);rw [qP (x:=(R:Int)-1) (by omega)];refine xj (cO (λe=>?_) λe=>?_)
 ·have e:¬(0<=s.Row/\s.Row<=(R:Int)-1):=λhh=>by simp at e;omega
  exact fin w5 P hM5 (Chg.refl _ _) (no λhh=>e ⟨hh.2.1.1,by omega⟩)
 have er:0<=s.Row/\s.Row<=(R:Int)-1:=by simpa using e
 refine lI (x:=s.Col) (h5.cells 10 _ rfl) (lI (x:=(C0:Int)) (by rw [<-h.cols];exact h5.cells 1 _ rfl) ?_);rw [qP (x:=(C0:Int)-1) (by omega)];refine xj (cO (λe=>?_) λe=>?_)
 ·have e:¬(0<=s.Col/\s.Col<=(C0:Int)-1):=λhh=>by simp at e;omega
  exact fin w5 P hM5 (Chg.refl _ _) (no λhh=>e ⟨hh.2.2.1,by omega⟩)
 have ec:0<=s.Col/\s.Col<=(C0:Int)-1:=by simpa using e
 exact go eon ⟨er.1,by omega⟩ ⟨ec.1,by omega⟩ w5 (Below.refl _ _)
end
structure EvP where
 k:Int
 r:Int
 b:Int
 pv:Int
 i:List UInt8
 ps:List Int
 d:List UInt8
structure PS where
 st:Int
 ends:Bool
 priv:Int
 inter:List UInt8
 wrong:Bool
 first:Bool
 params:List Int
 some_:Bool
 last:Int
 data:List UInt8
def ps0:PS:=⟨0,false,0,[],false,true,[],false,0,[]⟩
def evK (k b:Int):EvP:=⟨k,0,b,0,[],[],[]⟩
def qpj (r:Int):EvP:=⟨1,r,0,0,[],[],[]⟩
def Qz (k:Int) (d:List UInt8):EvP:=⟨k,0,0,0,[],[],d⟩
def qsi (c:Int):Bool:=decide (c<32) && (c !=24 && (c !=26 && c !=27))
def qdo (c:Int):Bool:=c==24 || (c==26 || (c==27 || c==127))
namespace PS
def begin_ (p:PS) (s:Int):PS:={ p with st:=s,priv:=0,wrong:=false,first:=true,some_:=false,last:=0,inter:=[],params:=[] }
def close (p:PS) (b:Int):List EvP:=if p.st=5 then [evK 8 b] else if p.st=6 then [evK 11 b] else []
def ground (p:PS) (c:Int):PS×List EvP:=(p,if qsi c then [evK 2 c] else if c=127 then [] else [qpj c])
def keep (p:PS) (c:Int):PS:=if p.inter.length=2 then { p with wrong:=true } else { p with inter:=p.inter++[UInt8.ofNat c.toNat] }
def opens (p:PS) (c:Int):Option (PS×List EvP) :=
 if c=91 then some (p.begin_ 2,[])
 else if c=80 then some (p.begin_ 3,[])
 else if c=93 then some ({ p with st:=4,data:=[] },[])
 else if c=95 then some ({ p with st:=6 },[evK 9 0])
 else if c=88\/c=94 then some ({ p with st:=7 },[])
 else none
def escEnd (p:PS) (c:Int):PS×List EvP:=({ p with st:=0 },if p.wrong then [] else [⟨3,0,c,0,p.inter,[],[]⟩])
def escape (p:PS) (c:Int):PS×List EvP :=
 if qsi c then (p,[evK 2 c])
 else if c<=47 then (p.keep c,[])
 else if c=127 then (p,[])
 else if p.inter≠[] then p.escEnd c
 else (p.opens c).getD (p.escEnd c)
def next (p:PS):PS:={ p with params:=if p.params.length<16 then p.params++[p.last] else p.params,last:=0 }
def final (p:PS) (c:Int):PS×List EvP :=
 let p1:PS:={ p with st:=if p.st≠3 then 0 else if p.wrong then 7 else 5 }
 if p.wrong then (p1,[])
 else
  let p2:=if p.some_ then p1.next else p1
  (p2,[⟨if p.st=3 then 6 else 4,0,c,p.priv,p.inter,p2.params,[]⟩])
def head (p0:PS) (c:Int):PS×List EvP :=
 let p:PS:={ p0 with first:=p0.first && (qsi c || c==127) }
 if qsi c then (p,if p.st=2 then [evK 2 c] else [])
 else if c<=47 then (p.keep c,[])
 else if c=127 then (p,[])
 else if c<=57 then ({ p with wrong:=p.wrong || decide (p.inter≠[]),some_:=true,last:=if 65535<10*p.last+(c-48) then 65535 else 10*p.last+(c-48) },[])
 else if c=59 then (({ p with wrong:=p.wrong || decide (p.inter≠[]),some_:=true }:PS).next,[])
 else if 60<=c/\c<=63/\p0.first=true then ({ p with priv:=c },[])
 else if c<=63 then ({ p with wrong:=true },[])
 else p.final c
def text (p:PS) (c:Int):PS×List EvP :=
 if c=7 then ({ p with st:=0 },[Qz 5 p.data])
 else if 32<=c/\c≠127/\p.data.length<1024 then ({ p with data:=p.data++[UInt8.ofNat c.toNat] },[])
 else (p,[])
def plain (p:PS) (c:Int):PS×List EvP :=
 if p.st=1 then p.escape c else if p.st=2\/p.st=3 then p.head c else if p.st=4 then p.text c else if p.st=5\/p.st=6\/p.st=7 then (p,[]) else p.ground c
def ended (p0:PS) (c:Int):PS×List EvP :=
 let p:PS:={ p0 with ends:=false }
 if c=92 then ({ p with st:=0 },(if p.st=4 then [Qz 5 p.data] else [])++p.close 1)
 else
  let p1:=p.begin_ 1
  if c=27 then (p1,p.close 0)
  else if c=24\/c=26 then ({ p1 with st:=0 },p.close 0++[evK 2 c])
  else ((p1.escape c).1,p.close 0++(p1.escape c).2)
def step (p:PS) (c:Int):PS×List EvP :=
 if p.ends then p.ended c
 else if c≠24/\c≠26/\c≠27 then p.plain c
 else if c≠27 then ({ p with st:=0 },p.close 0++[evK 2 c])
 else if p.st>=4 then ({ p with ends:=true },[])
 else (p.begin_ 1,[])
def runN (p:PS) (bs:List UInt8):Nat:=if p.ends=true\/p.st≠5/\p.st≠6 then 0 else (bs.takeWhile λb=>!qdo b.toNat).length
def q8e:Nat->PS->List UInt8->PS×List EvP
 | 0,p,_=>(p,[])
 | _,p,[]=>(p,[])
 | f+1,p,b::bs =>
  if 0<p.runN (b::bs) then
   let r:=q8e f p ((b::bs).drop (p.runN (b::bs)))
   (r.1,Qz (if p.st=6 then 10 else 7) ((b::bs).take (p.runN (b::bs)))::r.2)
  else
   let s:=p.step b.toNat
   let r:=q8e f s.1 bs
   (r.1,s.2++r.2)
def eachB (p:PS) (bs:List UInt8):PS×List EvP:=q8e bs.length p bs
end PS
structure PF where
 pg:Nat
 cg:Nat
 qi:Slc
 qp:Slc
 qd:Slc
def q3d (F:PF) (p:PS) (fv:Value):List Value:=[.int .i64 p.st,.bool p.ends,.pointer (some ⟨F.cg,0,none⟩),.int .u8 p.priv,.slice F.qi.a F.qi.n F.qi.c,.bool p.wrong,.bool p.first,.slice F.qp.a F.qp.n F.qp.c,.bool p.some_,.int .i64 p.last,.slice F.qd.a F.qd.n F.qd.c,fv]
def Qx (F:PF) (k:Nat):Prop:=k=F.pg\/k=F.cg\/F.qi.blk=some k\/F.qp.blk=some k\/F.qd.blk=some k
structure PsOk (p:PS):Prop where
 il:p.inter.length<=2
 pl:p.params.length<=16
 dl:p.data.length<=1024
 la:0<=p.last/\p.last<=65535
 pv:0<=p.priv/\p.priv<=255
 pr:∀x∈p.params,0<=x/\x<=65535
structure ParsM (w:World) (base:Nat) (F:PF) (p:PS) (fv:Value):Prop where
 blk:Blk w F.pg QS (q3d F p fv)
 ch:∃r lo hi,Blk w F.cg VV [.int .i32 r,.int .i64 0,.int .u8 lo,.int .u8 hi]
 hg:base<=F.pg/\base<=F.cg
 qi:Go.Vc.Own qn w base F.qi p.inter
 qp:Go.Vc.Own zX w base F.qp p.params
 qd:Go.Vc.Own qn w base F.qd p.data
 ne:∀k,F.qi.blk=some k->F.qd.blk≠some k
 ok:PsOk p
def far (T:Nat->Prop) (w:World):Prop:=∀k cs,T k->¬Blk w k qT cs
structure Hnd (σ:Type) where
 M:World->(Nat->Prop)->σ->Prop
 R:σ->EvP->σ->Prop
 ok:σ->EvP->Prop
structure EvW (w:World) (S:Nat->Prop) (p d:Slc) (v:EvP):Prop where
 ps:Rd zX w p v.ps
 pf:∀a,p.a=some a->¬S a.block/\a.block<w.heap.size
 ds:Rd qn w d v.d
 df:∀a,d.a=some a->¬S a.block/\a.block<w.heap.size
 rng:∀x∈v.ps,0<=x/\x<=65535
 pl:v.ps.length<=16
 b:0<=v.b/\v.b<=255
 pv:0<=v.pv/\v.pv<=255
 il:v.i.length<=2
 dl:v.d.length<=1000000
def agE (v:EvP) (p d:Slc):Value:=.agg #[.int .i64 v.k,.int .i32 v.r,.int .u8 v.b,.int .u8 v.pv,.string (qU v.i),.slice p.a p.n p.c,.slice d.a d.n d.c]
structure HndOk {σ:Type} (H:Hnd σ) (base:Nat) (fv:Value):Prop where
 keep:∀{w w' S s T},H.M w S s->Chg T w w'->(∀k,S k->¬T k)->far T w->(∀k,T k->base<=k)->H.M w' S s
 lt:∀{w S s},H.M w S s->∀k,S k->base<=k/\k<w.heap.size
 call:∀{w S s v p d} {K:Ub},H.M w S s->H.ok s v->EvW w S p d v->(∀w' S' s',H.M w' S' s'->H.R s v s'->Chg S w w'->(∀k,S' k->S k\/w.heap.size<=k)->K w')->jd C fv [agE v p d] [] w K
def Z9 {σ:Type} (H:Hnd σ):σ->List EvP->σ->Prop
 | s,[],s'=>s'=s
 | s,e::es,s'=>∃m,H.R s e m/\Z9 H m es s'
def jf {σ:Type} (H:Hnd σ):σ->List EvP->Prop
 | _,[]=>True
 | s,e::es=>H.ok s e/\∀m,H.R s e m->jf H m es
theorem Z9.append {σ:Type} {H:Hnd σ}:∀{a b:List EvP} {s m s':σ},Z9 H s a m->Z9 H m b s'->Z9 H s (a++b) s'
 | [],b,s,m,s',h,h2=>by cases h;exact h2
 | e::a,b,s,m,s',⟨x,h1,h⟩,h2=>⟨x,h1,Z9.append h h2⟩
theorem jf.left {σ:Type} {H:Hnd σ}:∀{a b:List EvP} {s:σ},jf H s (a++b)->jf H s a
 | [],b,s,h=>trivial
 | e::a,b,s,h=>⟨h.1,λm hm=>jf.left (h.2 m hm)⟩
theorem jf.right {σ:Type} {H:Hnd σ}:∀{a b:List EvP} {s m:σ},jf H s (a++b)->Z9 H s a m->jf H m b
 | [],b,s,m,h,hr=>by cases hr;exact h
 | e::a,b,s,m,h,⟨x,h1,hr⟩=>jf.right (h.2 x h1) hr
section
variable {w w':World} {base:Nat} {F F':PF} {p p':PS} {fv:Value}
theorem ParsM.below (h:ParsM w base F p fv):∀k,Qx F k->base<=k/\k<w.heap.size:=by
 obtain ⟨r,lo,hi,hc⟩:=h.ch;rintro k (rfl | rfl | hk | hk | hk)
 ·exact ⟨h.hg.1,h.blk.lt⟩
 ·exact ⟨h.hg.2,hc.lt⟩
 ·exact h.qi.lt k hk
 ·exact h.qp.lt k hk
 ·exact h.qd.lt k hk
theorem ParsM.chg {T:Nat->Prop} (h:ParsM w base F p fv) (hc:Chg T w w') (hT:∀k,Qx F k->¬T k):ParsM w' base F p fv:=by
 obtain ⟨r,lo,hi,hch⟩:=h.ch;exact ⟨h.blk.chg hc (hT _ (.inl rfl)),⟨r,lo,hi,hch.chg hc (hT _ (.inr (.inl rfl)))⟩,h.hg,h.qi.chg hc λk hk=>hT k (.inr (.inr (.inl hk))),h.qp.chg hc λk hk=>hT k (.inr (.inr (.inr (.inl hk)))),h.qd.chg hc λk hk=>hT k (.inr (.inr (.inr (.inr hk)))),h.ne,h.ok⟩
theorem ParsM.ext (h:ParsM w base F p fv) (hB:Uc w w'):ParsM w' base F p fv:=h.chg (Chg.of_ext (S:=λ_=>False) hB) λ_ _ h=>h
theorem ParsM.far (h:ParsM w base F p fv):far (Qx F) w:=by
 obtain ⟨r,lo,hi,hch⟩:=h.ch;rintro k cs (rfl | rfl | hk | hk | hk) hb
 ·exact h.blk.ne_t hb (by decide) rfl
 ·exact hch.ne_t hb (by decide) rfl
 ·obtain ⟨c,hc⟩:=h.qi.blk_t hk;exact hc.ne_t hb (by decide) rfl
 ·obtain ⟨c,hc⟩:=h.qp.blk_t hk;exact hc.ne_t hb (by decide) rfl
 ·obtain ⟨c,hc⟩:=h.qd.blk_t hk;exact hc.ne_t hb (by decide) rfl
theorem ParsM.ne_pg (h:ParsM w base F p fv):∀k,(k=F.cg\/F.qi.blk=some k\/F.qp.blk=some k\/F.qd.blk=some k)->k≠F.pg:=by
 obtain ⟨r,lo,hi,hch⟩:=h.ch;rintro k (rfl | hk | hk | hk)
 ·exact hch.ne_t h.blk (by decide)
 ·exact qA h.qi h.blk (by decide) k hk
 ·exact qA h.qp h.blk (by decide) k hk
 ·exact qA h.qd h.blk (by decide) k hk
theorem ParsM.put (h:ParsM w base F p fv) (hb:Blk w' F.pg QS (q3d F' p' fv)) (hc:Chg (λk=>k=F.pg) w w') (e1:F'.pg=F.pg) (e2:F'.cg=F.cg)
  (qi:Go.Vc.Own qn w base F'.qi p'.inter) (qp:Go.Vc.Own zX w base F'.qp p'.params) (qd:Go.Vc.Own qn w base F'.qd p'.data) (ne:∀k,F'.qi.blk=some k->F'.qd.blk≠some k) (ok:PsOk p'):ParsM w' base F' p' fv:=by
 obtain ⟨r,lo,hi,hch⟩:=h.ch;refine ⟨by rw [e1];exact hb,⟨r,lo,hi,?_⟩,by rw [e1,e2];exact h.hg,qi.chg hc (qA qi h.blk (by decide)),qp.chg hc (qA qp h.blk (by decide)),qd.chg hc (qA qd h.blk (by decide)),ne,ok⟩;rw [e2];exact hch.chg hc (h.ne_pg _ (.inl rfl))
end
section
variable {σ:Type} {H:Hnd σ} {w w':World} {base:Nat} {F F':PF} {p p':PS} {fv:Value} {S S':Nat->Prop} {s s':σ}
structure PH (H:Hnd σ) (w:World) (base:Nat) (F:PF) (p:PS) (fv:Value) (S:Nat->Prop) (s:σ):Prop where
 par:ParsM w base F p fv
 m:H.M w S s
 dj:∀k,Qx F k->¬S k
structure PhT (H:Hnd σ) (base:Nat) (w:World) (F:PF) (S:Nat->Prop) (F':PF) (S':Nat->Prop) (p':PS) (fv:Value) (s':σ) (w':World):Prop where
 m:PH H w' base F' p' fv S' s'
 old:∀k,(Qx F' k\/S' k)->(Qx F k\/S k)\/w.heap.size<=k
 chg:Chg (λk=>Qx F k\/S k) w w'
 pg:F'.pg=F.pg
theorem PhT.refl (h:PH H w base F p fv S s):PhT H base w F S F S p fv s w:=⟨h,λk hk=>.inl hk,Chg.refl _ _,rfl⟩
theorem PhT.trans {w1 w2:World} {F1 F2:PF} {S1 S2:Nat->Prop} {p1 p2:PS} {s1 s2:σ} (h:PhT H base w F S F1 S1 p1 fv s1 w1) (h2:PhT H base w1 F1 S1 F2 S2 p2 fv s2 w2):PhT H base w F S F2 S2 p2 fv s2 w2:=by
 have hs:=h.chg.size;refine ⟨h2.m,λk hk=>?_,h.chg.trans h2.chg λi hi hk=>?_,h2.pg.trans h.pg⟩
 ·rcases h2.old k hk with h3 | h3
  ·exact h.old k h3
  ·right;omega
 ·rcases h.old i hk with h3 | h3
  ·exact h3
  ·omega
theorem PH.ext (hH:HndOk H base fv) (h:PH H w base F p fv S s) (hB:Uc w w'):PhT H base w F S F S p fv s w' :=
 ⟨⟨h.par.ext hB,hH.keep h.m (Chg.of_ext (S:=λ_=>False) hB) (λ_ _ h=>h) (λ_ _ h=>h.elim) (λ_ h=>h.elim),h.dj⟩,λk hk=>.inl hk,Chg.of_ext hB,rfl⟩
theorem PH.drew (hH:HndOk H base fv) (h:PH H w base F p fv S s):PhT H base w F S F S p fv s w.drew:=h.ext hH ((Below.refl _ w).drew)
theorem PH.base_le (h:PH H w base F p fv S s):base<=w.heap.size:=le_trans h.par.hg.1 (Nat.le_of_lt h.par.blk.lt)
theorem PH.own (hH:HndOk H base fv) (h:PH H w base F p fv S s) (hp:ParsM w' base F' p' fv) (hc:Chg (Qx F) w w') (ho:∀k,Qx F' k->Qx F k\/w.heap.size<=k) (e:F'.pg=F.pg):PhT H base w F S F' S p' fv s w':=by
 refine ⟨⟨hp,hH.keep h.m hc (λk hk hp=>h.dj k hp hk) h.par.far (λk hk=>(h.par.below k hk).1),λk hk hs=>?_⟩,λk hk=>?_,hc.mono λk _ hk=>.inl hk,e⟩
 ·rcases ho k hk with h1 | h1
  ·exact h.dj k h1 hs
  ·have:=(hH.lt h.m k hs).2;omega
 ·rcases hk with hk | hk
  ·rcases ho k hk with h1 | h1
   ·exact .inl (.inl h1)
   ·exact .inr h1
  ·exact .inl (.inr hk)
theorem PH.put (hH:HndOk H base fv) (h:PH H w base F p fv S s) (hb:Blk w' F.pg QS (q3d F' p' fv)) (hc:Chg (λk=>k=F.pg) w w') (e1:F'.pg=F.pg) (e2:F'.cg=F.cg)
  (qi:Go.Vc.Own qn w base F'.qi p'.inter) (qp:Go.Vc.Own zX w base F'.qp p'.params) (qd:Go.Vc.Own qn w base F'.qd p'.data) (bi:∀k,F'.qi.blk=some k->F.qi.blk=some k) (bp:∀k,F'.qp.blk=some k->F.qp.blk=some k) (bd:∀k,F'.qd.blk=some k->F.qd.blk=some k) (ok:PsOk p'):PhT H base w F S F' S p' fv s w':=by
 refine h.own hH (h.par.put hb hc e1 e2 qi qp qd (λk hk hk'=>h.par.ne k (bi k hk) (bd k hk')) ok) (hc.mono λk _ e=>.inl e) ?_ e1;rintro k (hk | hk | hk | hk | hk)
 ·exact .inl (.inl (hk.trans e1))
 ·exact .inl (.inr (.inl (hk.trans e2)))
 ·exact .inl (.inr (.inr (.inl (bi k hk))))
 ·exact .inl (.inr (.inr (.inr (.inl (bp k hk)))))
 ·exact .inl (.inr (.inr (.inr (.inr (bd k hk)))))
theorem PH.st (hH:HndOk H base fv) (h:PH H w base F p fv S s) {i:Nat} {v:Value} (p':PS) (hi:i<12) (he:(q3d F p fv).set i v=q3d F p' fv) (ei:p'.inter=p.inter) (ep:p'.params=p.params) (ed:p'.data=p.data) (ok:PsOk p') {K:Ub}
  (hK:∀w',PhT H base w F S F S p' fv s w'->K w'):stK ((⟨F.pg,0,none⟩:Addr).add i) [v] w K:=by
 rw [qB];refine qz h.par.blk (by show 0+i+1<=12;omega) λw1 hb hg hs=>hK w1 ?_;have e:putL (q3d F p fv) (0+i) [v]=q3d F p' fv:=by rw [Nat.zero_add,<-he];rfl
 rw [e] at hb;exact h.put hH hb (Go.Vc.Chg.gg hg) rfl rfl (by rw [ei];exact h.par.qi) (by rw [ep];exact h.par.qp) (by rw [ed];exact h.par.qd) (λ_ h=>h) (λ_ h=>h) (λ_ h=>h) ok
theorem qjk {a:Addr} {w:World} {K:Value->Prop} {x:Value} (h:w.cell? a=some x) (hK:K x):ldR a w K:=⟨x,h,hK⟩
theorem qhc (hH:HndOk H base fv) (h:PH H w base F p fv S s) {v:EvP} {q d:Slc} (hok:H.ok s v) (hv:EvW w S q d v) {K:Ub} (hK:∀S' s' w',PhT H base w F S F S' p fv s' w'->H.R s v s'->K w'):jd C fv [agE v q d] [] w K :=
 hH.call h.m hok hv λw' S' s' hm hr hc ho=>hK S' s' w' ⟨⟨h.par.chg hc (λk hk=>h.dj k hk),hm,λk hk hs=>(ho k hs).elim (h.dj k hk) λhle=>by have:=(h.par.below k hk).2;omega⟩,
  λk hk=>hk.elim (λhk=>.inl (.inl hk)) λhk=>(ho k hk).elim (λh1=>.inl (.inr h1)) .inr,hc.mono λk _ hk=>.inr hk,rfl⟩ hr
theorem zf0 {w:World} {S:Nat->Prop} {v:EvP} (e1:v.ps=[]) (e2:v.d=[]) (hb:0<=v.b/\v.b<=255) (hp:0<=v.pv/\v.pv<=255) (hi:v.i.length<=2):EvW w S ⟨none,0,0⟩ ⟨none,0,0⟩ v :=
 ⟨by rw [e1];exact Rd.nil _ _,(λa h=>by cases h),by rw [e2];exact Rd.nil _ _,(λa h=>by cases h),(by rw [e1];intro x hx;cases hx),by rw [e1];exact zero_le _,hb,hp,hi,by rw [e2];exact zero_le _⟩
theorem qnk (hH:HndOk H base fv) (h:PH H w base F p fv S s) (k r b:Int) (hb:0<=b/\b<=255) (hok:H.ok s ⟨k,r,b,0,[],[],[]⟩) {K:Ub} (hK:∀S' s' w',PhT H base w F S F S' p fv s' w'->H.R s ⟨k,r,b,0,[],[],[]⟩ s'->K w') :
  ldR ((⟨F.pg,0,none⟩:Addr).add 11) w λt=>jd C t [(.agg #[(Ua k),(.int .i32 r),(.int .u8 b),(.int .u8 0),(.string (⟨#[]⟩:ByteArray)),(.slice none 0 0),(.slice none 0 0)])] [] w K :=
 qjk (x:=fv) (h.par.blk.cells 11 _ rfl) (qhc hH h (v:=⟨k,r,b,0,[],[],[]⟩) (q:=⟨none,0,0⟩) (d:=⟨none,0,0⟩) hok (zf0 rfl rfl hb ⟨Int.le_refl 0,by show (0:Int)<=255;omega⟩ (zero_le _)) hK)
end
theorem qtd {T:Type} {E:El T} {w:World} {base:Nat} {q:Slc} {xs:List T} (h:Go.Vc.Own E w base q xs):∃r:Slc,(⟨cut q.a 0 q.c E.k,0-0,q.c-0⟩:Slc)=r/\Go.Vc.Own E w base r []/\∀k,r.blk=some k->q.blk=some k:=by
 rcases h.form with ⟨rfl,rfl⟩ | ⟨g,cur,hs,hg,hb,h1,h2,h3,h4⟩
 ·exact ⟨⟨none,0,0⟩,rfl,Go.Vc.Own.nil _ _ _,λk hk=>hk⟩
 ·refine ⟨⟨some ⟨g,0,none⟩,0,q.c⟩,?_,Go.Vc.Own.of_blk (xs:=[]) hg hb (zero_le _) h2 h3 (by simp [QD]),λk hk=>by rw [hs];exact hk⟩;rw [hs];unfold cut;dsimp only;split
  ·rfl
  ·show (⟨some ((⟨g,0,none⟩:Addr).add (0*E.k)),0,_⟩:Slc)=_;rw [qB];simp
theorem qqj {s:Slc} {xs:List Int} {w:World} {K:Slc->Ub} (h:Rd zX w s xs) (hl:xs.length<=100000) (hK:∀r w',Go.Vc.Own zX w' w.heap.size r xs->Uc w w'->K r w'):x7 s w K:=by
 refine YN _ ?_;cases ha:s.a with
 | none =>
  have:=h.none_nil ha;subst this;exact cT rfl (hK _ _ (Go.Vc.Own.nil _ _ _) (Below.refl _ _))
 | some a =>
  refine cF rfl ?_;refine nwb λw1 hb1 hB1 hs1=>?_;refine jN qc5 (qdj (E:=zX) hb1 (le_refl _)) (h.ext hB1) (by omega) (by rw [qja];simp;omega) (by simp only [maxLen];simp;omega) λr w2 ho hg hq=>?_;rw [List.nil_append] at ho;exact hK r w2 ho (hB1.grown hg (by omega) λg hg=>by cases hg;exact le_refl _)
def zsc:qo:=⟨0,0,0,0,⟨none,0,0⟩,⟨none,0,0⟩,none,0,false,0,0⟩
def scA (s:qo):Value:=.agg #[(Ua s.Rows),(Ua s.Cols),(Ua s.CellW),(Ua s.CellH),(.slice s.Lines.a s.Lines.n s.Lines.c),(.slice s.Places.a s.Places.n s.Places.c),(.map s.Images),(Ua s.Top),(.bool s.Cursor),(Ua s.Row),(Ua s.Col)]
def scI (s:qo) (b:Bool):Value:=.agg #[(Ua s.Rows),(Ua s.Cols),(Ua s.CellW),(Ua s.CellH),(.slice s.Lines.a s.Lines.n s.Lines.c),(.slice s.Places.a s.Places.n s.Places.c),(.map s.Images),(Ua s.Top),(.bool s.Cursor),(Ua s.Row),(Ua s.Col),(.bool b)]
theorem qiv {l:Value} {t:TypeId} {r:Rep} {x:r.T} {b:Bool} {w:World} {K:r.T->Bool->Ub} (hp:qe7 PG (Instr.typeAssert l xI t true)=some (.tuple #[(Kind.struct r).enc x,Kind.bool.enc b])) (hK:K x b w) :
  qcj PG (Instr.typeAssert l xI t true) (Kind.struct r) Kind.bool w K:=⟨x,b,w,Zw _ hp w,hK⟩
section
variable {w w':World} {B base:Nat} {s:qo} {R C0 cw ch W H:Nat} {L:List (List Cel)} {m:qa} {P:List UInt8}
theorem zb8 {K:ByteArray->Ub} (hK:∀s,K s w):kC (.iface j6 (scA s)) w K:=by
 refine yX _ ?_;refine qiv (r:=zD.rep) (x:=⟨zsc,false⟩) (b:=false) (by kernel_rfl) (cF rfl ?_);refine qiv (r:=qE.rep) (x:=⟨s⟩) (b:=true) (by kernel_rfl) ?_;exact qiv (r:=qE.rep) (x:=⟨zsc⟩) (b:=false) (by kernel_rfl) (cT rfl (hK _))
theorem q5z {b:Bool} {K:ByteArray->Ub} (hK:∀s,K s w):kC (.iface js (scI s b)) w K:=by
 refine yX _ ?_;exact qiv (r:=zD.rep) (x:=⟨s,b⟩) (b:=true) (by kernel_rfl) (cT rfl (hK _))
theorem zcm {K:ByteArray->Ub} (hK:∀s,K s w):kC (.iface jr (scA s)) w K:=by
 refine yX _ ?_;refine qiv (r:=zD.rep) (x:=⟨zsc,false⟩) (b:=false) (by kernel_rfl) (cF rfl ?_);refine qiv (r:=qE.rep) (x:=⟨zsc⟩) (b:=false) (by kernel_rfl) ?_;exact qiv (r:=qE.rep) (x:=⟨s⟩) (b:=true) (by kernel_rfl) (cF rfl (cT rfl (hK _)))
theorem zci {K:ByteArray->Ub} (hK:∀s,K s w):kC (.iface ki (scA s)) w K:=by
 refine yX _ ?_;refine qiv (r:=zD.rep) (x:=⟨zsc,false⟩) (b:=false) (by kernel_rfl) (cF rfl ?_);refine qiv (r:=qE.rep) (x:=⟨zsc⟩) (b:=false) (by kernel_rfl) ?_;refine qiv (r:=qE.rep) (x:=⟨zsc⟩) (b:=false) (by kernel_rfl) (cF rfl (cF rfl ?_));exact qiv (r:=qE.rep) (x:=⟨s⟩) (b:=true) (by kernel_rfl) (cT rfl (hK _))
theorem zfp (w : World) : (method (PG.types.size + Made.depth) j6 (scA s) "Paint").run PG w = .ok (518, scA s) w := Zw _ (by kernel_rfl) w
theorem zfs (b : Bool) (w : World) : (method (PG.types.size + Made.depth) js (scI s b) "Paint").run PG w = .ok (528, scI s b) w := Zw _ (by kernel_rfl) w
theorem zfq (w : World) : (method (PG.types.size + Made.depth) jr (scA s) "Paint").run PG w = .ok (535, scA s) w := Zw _ (by kernel_rfl) w
theorem zeh (w : World) : (method (PG.types.size + Made.depth) ki (scA s) "Paint").run PG w = .ok (539, scA s) w := Zw _ (by kernel_rfl) w
def mA (m:qa):Value:=.agg #[(Ua m.W),(Ua m.H),(.slice m.P.a m.P.n m.P.c)]
theorem zc6 {K : qa -> Ub} (h : vV ⟨s⟩ m w K) : qqv C (.iface j6 (scA s)) "Paint" [mA m] [(Kind.struct qa.rep)] w K := ⟨_, _, _, _, rfl, zfp w, by kernel_rfl, h⟩
theorem zc3 {b : Bool} {K : qa -> Ub} (h : yq ⟨s, b⟩ m w K) : qqv C (.iface js (scI s b)) "Paint" [mA m] [(Kind.struct qa.rep)] w K := ⟨_, _, _, _, rfl, zfs b w, by kernel_rfl, h⟩
theorem zdo {K : qa -> Ub} (h : yE ⟨s⟩ m w K) : qqv C (.iface jr (scA s)) "Paint" [mA m] [(Kind.struct qa.rep)] w K := ⟨_, _, _, _, rfl, zfq w, by kernel_rfl, h⟩
theorem zc7 {K : qa -> Ub} (h : yn ⟨s⟩ m w K) : qqv C (.iface ki (scA s)) "Paint" [mA m] [(Kind.struct qa.rep)] w K := ⟨_, _, _, _, rfl, zeh w, by kernel_rfl, h⟩
end
section
variable {w w':World}
def qaw (x:Int):Prop:=0<=x/\x<=255
theorem zbu {s d:Int} (hs:qaw s) (hd:qaw d):IntKind.u8.wrap (i64.wrap ((i64.wrap ((i64.wrap ((i64.wrap ((i64.wrap s)*(i64.wrap 255)))+(i64.wrap ((i64.wrap d)*(i64.wrap ((255:Int)-(i64.wrap 255)))))))+(127:Int))).tdiv (255:Int)))=s:=by
 obtain ⟨h1,h2⟩:=hs;obtain ⟨h3,h4⟩:=hd;have e0:i64.wrap ((255:Int)-(i64.wrap 255))=0:=by decide
 have e1:i64.wrap (255:Int)=255:=by decide
 rw [e0,e1,qP (x:=s) (by omega),qP (x:=d) (by omega),Int.mul_zero,qP (x:=s*255) (by omega),qP (x:=(0:Int)) (by omega),Int.add_zero,qP (x:=s*255) (by omega),qP (x:=s*255+127) (by omega)];have e2:(s*255+127).tdiv 255=s:=by
  rw [Int.tdiv_eq_ediv_of_nonneg (by omega)];omega
 rw [e2,qP (by omega)];exact IntWalk.u8_in _ (by omega)
def zct (s:qh):Nat->List Value
 | 0=>[(.int .u8 0),(.int .u8 0),(.int .u8 0),(.int .u8 255)]
 | 1=>[(.int .u8 s.e0),(.int .u8 0),(.int .u8 0),(.int .u8 255)]
 | 2=>[(.int .u8 s.e0),(.int .u8 s.e1),(.int .u8 0),(.int .u8 255)]
 | _=>[(.int .u8 s.e0),(.int .u8 s.e1),(.int .u8 s.e2),(.int .u8 255)]
theorem zas (s:qh):∀k,(zct s k).length=4
 | 0=>rfl
 | 1=>rfl
 | 2=>rfl
 | _+3=>rfl
theorem q8d {d s:qh} (hd:qaw d.e0/\qaw d.e1/\qaw d.e2) (hs:qaw s.e0/\qaw s.e1/\qaw s.e2) (h3:s.e3=255) {K:qh->Ub} (hK:∀w',Uc w w'->K ⟨s.e0,s.e1,s.e2,255⟩ w'):vB d s w K:=by
 refine qrn _ _ ?_;refine nwb λw1 b1 B1 s1=>nwb λw2 b2 B2 s2=>nwb λw3 b3 B3 s3=>nwb λw4 b4 B4 s4=>?_;have BB:=bT (bT B1 B2) (bT B3 B4);have z1:=B1.size;have z2:=B2.size;have z3:=B3.size;refine xf b4 rfl λw5 b5 c5 s5=>?_;have k1:∀{wx},Chg (λk=>k=w3.heap.size) w4 wx->Blk wx w.heap.size q6 (qh.rep.cells d)/\Blk wx w1.heap.size q6 (qh.rep.cells s)/\Blk wx w2.heap.size q6 [(.int .u8 0),(.int .u8 0),(.int .u8 0),(.int .u8 0)]:=λhc=>⟨(((b1.ext B2).ext B3).ext B4).chg hc (by omega),((b2.ext B3).ext B4).chg hc (by omega),(b3.ext B4).chg hc (by omega)⟩;obtain ⟨q1,q2,q3⟩:=k1 c5;refine ⟨⟨by decide,by decide⟩,lI (x:=255) (by rw [<-h3];exact q2.cells 3 _ rfl) ?_⟩;refine lpR (λ(st:Int×Unit) w6=>∃k:Nat,st.1=(k:Int)/\k<=3/\Blk w6 w3.heap.size q6 (zct s k)/\Chg (λk=>k=w3.heap.size) w4 w6) (λst=>3-st.1.toNat) ⟨0,rfl,by omega,b5,c5⟩ ?_;rintro ⟨i,u⟩ w6 ⟨k,hi,hk,b6,c6⟩ I hI;dsimp only at hi ⊢;subst hi;obtain ⟨q1,q2,q3⟩:=k1 c6;refine cO (λe=>?_) λe=>?_
 ·have e:=oTq e;have ekn:i64.wrap ((k:Int)+1)=((k+1:Nat):Int):=by rw [qP (by omega)];omega
  have rd:∀{x y:Int} {wx},qaw x->qaw y->(qh.rep.cells s)[k]?=some (.int .u8 x)->(qh.rep.cells d)[k]?=some (.int .u8 y)->zct s (k+1)=putL (zct s k) k [.int .u8 x]->wx=w6.drew ->
    ixA (⟨w1.heap.size,0,none⟩:Addr) 4 (k:Int) 1 λt17=>ldI .u8 t17 wx λt18=>ixA (⟨w.heap.size,0,none⟩:Addr) 4 (k:Int) 1 λt23=>ldI .u8 t23 wx λt24=>(255:Int)≠0/\ixA (⟨w3.heap.size,0,none⟩:Addr) 4 (k:Int) 1 λt33=>
    stK t33 [(.int .u8 (IntKind.u8.wrap (i64.wrap ((i64.wrap ((i64.wrap ((i64.wrap ((i64.wrap t18)*(i64.wrap 255)))+(i64.wrap ((i64.wrap t24)*(i64.wrap ((255:Int)-(i64.wrap 255)))))))+(127:Int))).tdiv (255:Int)))))] wx λw7=>
    I ((i64.wrap ((k:Int)+(1:Int))),()) w7:=by
   rintro x y wx hx hy hcs hcd hout rfl;refine ⟨⟨by omega,by omega⟩,lI (x:=x) (by rw [toNat_natCast,mul_one];exact q2.drew.cells k _ hcs) ⟨⟨by omega,by omega⟩,lI (x:=y) (by rw [toNat_natCast,mul_one];exact q1.drew.cells k _ hcd) ⟨by decide,⟨by omega,by omega⟩,?_⟩⟩⟩;rw [zbu hx hy,toNat_natCast,mul_one,qB];refine qz b6.drew (by rw [zas,List.length_singleton];omega) λw7 b7 g7 s7=>?_;rw [Nat.zero_add,<-hout] at b7;rw [ekn];exact hI _ _ ⟨k+1,rfl,by omega,b7,(c6.trans (Chg.of_ext (S:=λk=>k=w3.heap.size) (bdw w6)) λ_ _ h=>h).trans (Go.Vc.Chg.gg g7) λ_ _ h=>h⟩ (by show 3-((k+1:Nat):Int).toNat<3-((k:Nat):Int).toNat;omega)
  have hk3:k=0\/k=1\/k=2:=by omega
  rcases hk3 with rfl | rfl | rfl
  ·exact rd hs.1 hd.1 rfl rfl rfl rfl
  ·exact rd hs.2.1 hd.2.1 rfl rfl rfl rfl
  ·exact rd hs.2.2 hd.2.2 rfl rfl rfl rfl
 ·have e:=oFq e;obtain rfl:k=3:=by omega
  refine qw (r:=qh.rep) (x:=⟨s.e0,s.e1,s.e2,255⟩) b6.cells ?_;refine zw (r:=qh.rep) (x:=⟨s.e0,s.e1,s.e2,255⟩) q3 rfl rfl λw7 c7 s7=>hK w7 ?_;have B6:Uc w w6:=b1o BB c6 (by omega);exact b1o B6 c7 (by omega)
theorem qrv {a n side:Int} (ha:0<=a) (hn:1<=n) (hs:a+n<=side) (hb:side<=1000000) {K:Int->Int->Ub} (hK:K a (a+n) w):yZ a n side w K:=by
 refine qrg _ _ _ ?_;refine jpO λJ1 hJ1=>cF (dFq (by omega)) (cF (dFq (by omega)) (hJ1 _ _ ?_));have e1:(if (1048576:Int)<n then (1048576:Int) else n)=n:=if_neg (by omega);have e2:(if (0:Int)>a then (0:Int) else a)=a:=if_neg (by omega);rw [e1,e2];refine jpO λJ2 hJ2=>cF (dFq (by omega)) ?_;rw [qP (x:=side-a) (by omega),qP (x:=a+n) (by omega)];refine cO (λe=>hJ2 _ _ hK) λe=>?_;have e:=oFq e;have:side=a+n:=by omega
 rw [this];exact hJ2 _ _ hK
def Zy (P:List UInt8) (o:Nat):qh:=⟨((P.getD o 0).toNat:Int),((P.getD (o+1) 0).toNat:Int),((P.getD (o+2) 0).toNat:Int),((P.getD (o+3) 0).toNat:Int)⟩
theorem qxg {m:qa} {P:List UInt8} {W x y:Nat} (hP:Rd qn w m.P P) (hsp:∀a,m.P.a=some a->a.spot=none) (hW:m.W=W) (hin:4*(y*W+x)+4<=P.length) (hl:P.length<=1000000000) {K:qh->Ub} (hK:∀w',Uc w w'->K (Zy P (4*(y*W+x))) w'):vH m (x:Int) (y:Int) w K:=by
 refine qvg _ _ _ ?_;refine nwb λw1 b1 B1 s1=>nwb λw2 b2 B2 s2=>?_;have b12:=b1.ext B2;have BB:=bT B1 B2;have z1:=B1.size;refine lSl (x:=m.P) (b12.cells 2 _ rfl) (lI (x:=(W:Int)) (by rw [<-hW];exact b12.cells 0 _ rfl) ?_);have eidx:i64.wrap ((4:Int)*(i64.wrap ((i64.wrap ((y:Int)*(W:Int)))+(x:Int))))=((4*(y*W+x):Nat):Int):=by
  have e1:(y:Int)*(W:Int)=((y*W:Nat):Int):=by simp
  rw [e1];generalize y*W=q at hin ⊢;rw [qP (x:=((q:Nat):Int)) (by omega),qP (x:=((q:Nat):Int)+(x:Int)) (by omega),qP (by omega)];omega
 rw [eidx];obtain ⟨o,ho⟩:∃o,o=4*(y*W+x):=⟨_,rfl⟩;rw [<-ho] at hin hK ⊢;have hr2:=hP.ext BB;refine hr2.slK (l:=o) (m:=P.length) rfl (.inr rfl) (.inl ⟨rfl,rfl⟩) (by omega) (le_refl _) λhr3=>?_;rw [List.take_length] at hr3;have hlen:(P.drop o).length=P.length-o:=List.length_drop;obtain ⟨a,ha⟩:=Option.isSome_iff_exists.1 (hr3.some_ (by omega));have ha':cut m.P.a o m.P.c qn.k=some a:=ha;rw [ha'];simp only [onPtr_some];refine ⟨by show 4<=P.length-o;omega,?_⟩;have hc:qx w2 a (qh.rep.cells (Zy P o)):=by
  intro j v hv;have hj:j<4:=(List.getElem?_eq_some_iff.1 hv).1;have hx:(P.drop o)[j]?=some (P.getD (o+j) 0):=by
   rw [List.getElem?_drop,List.getD_eq_getElem?_getD,List.getElem?_eq_getElem (by omega)];rfl
  have h4:=hr3.at_ j _ hx 0 (.int .u8 ((P.getD (o+j) 0).toNat:Int)) rfl;have e1:((⟨cut m.P.a o m.P.c qn.k,P.length-o,m.P.c-o⟩:Slc).at_ qn.k j).add 0=a.add j:=by
   rw [add_zero];unfold Slc.at_;rw [ha'];show a.add (j*1)=a.add j;rw [mul_one]
  rw [e1] at h4;rw [h4];have hj4:j=0\/j=1\/j=2\/j=3:=by omega
  rcases hj4 with rfl | rfl | rfl | rfl<;>exact hv
 refine qw (r:=qh.rep) (x:=Zy P o) hc ?_;exact zw (r:=qh.rep) (x:=Zy P o) b2 rfl rfl λw3 c3 s3=>hK w3 (b1o BB c3 (by omega))
theorem qdx {m:qa} {P:List UInt8} {W H:Nat} (hP:m.P.n=P.length) (hW:m.W=W) (hH:m.H=H) (hlen:P.length=4*W*H) (h1:1<=W/\W<=1000) (h2:1<=H/\H<=1000) {K:Bool->Ub} (hK:∀w',Uc w w'->K true w'):kH m w K:=by
 refine qb0 _ ?_;refine nwb λw1 b1 B1 s1=>lI (x:=(W:Int)) (by rw [<-hW];exact b1.cells 0 _ rfl) (lI (x:=(H:Int)) (by rw [<-hH];exact b1.cells 1 _ rfl) ?_);refine KO _ _ ?_;have hm:W*H<=1000*1000:=Nat.mul_le_mul h1.2 h2.2;have e1:(W:Int)*(H:Int)=((W*H:Nat):Int):=by simp
 rw [e1,qP (x:=((W*H:Nat):Int)) (by omega),dTq (p:=((W*H:Nat):Int)<=67108864) (by omega)];refine cF (by simp;omega) (cT (dTq (by omega)) (cT (dTq (by omega)) (cT (dTq (by omega)) (cT (dTq (by omega)) (cT rfl ?_)))));refine lSl (x:=m.P) (b1.cells 2 _ rfl) (lI (x:=(W:Int)) (by rw [<-hW];exact b1.cells 0 _ rfl) (lI (x:=(H:Int)) (by rw [<-hH];exact b1.cells 1 _ rfl) ?_));have e2:i64.wrap ((i64.wrap ((4:Int)*(W:Int)))*(H:Int))=((4*W*H:Nat):Int):=by
  rw [qP (x:=(4:Int)*(W:Int)) (by omega)];have e3:(4:Int)*(W:Int)*(H:Int)=((4*W*H:Nat):Int):=by simp
  rw [e3,qP (by rw [Nat.mul_assoc];omega)]
 rw [e2,hP,hlen];rw [beq_self_eq_true];exact hK w1 B1
end
abbrev Pl:=qf
def wi (x:Int):Int:=i64.wrap x
def zgl (a b:Pl):Bool:=(a.Image==b.Image) && ((a.Id==b.Id) && ((a.Alt==b.Alt) && ((a.Line==b.Line) && ((a.Col==b.Col) && ((a.Rows==b.Rows) && ((a.Cols==b.Cols) && ((a.X==b.X) && ((a.Y==b.Y) && ((a.W==b.W) && ((a.H==b.H) && ((a.DX==b.DX) && ((a.DY==b.DY) && ((a.Z==b.Z) && true)))))))))))))
def q4j (p:Pl) (line rows from_ past:Int):Bool:=decide (rows>0) && (decide (past>from_) && (decide (wi (p.Line+p.Rows)>line) && (decide (wi (p.Line-line)<rows) && (decide (p.Col<past) && decide (wi (p.Col+p.Cols)>from_)))))
def btw (v lo hi:Int):Bool:=decide (v>=lo) && decide (v<=hi)
def qw5 (p:Pl):Bool:=decide (p.Image>=0) && (btw p.Id 0 4294967295 && (decide (p.Line>=0) && (decide (p.Line<=1125899906842624) && (btw p.Col 0 1000 && (btw p.Rows 1 1048576 && (btw p.Cols 1 1048576 && (decide (p.X>=0) && (decide (p.Y>=0) && (btw p.W 1 16384 && (btw p.H 1 16384 && (btw p.DX 0 64 && (btw p.DY 0 64 && btw p.Z (-1073741824) 1073741824))))))))))))
structure PlTM (w:World) (base g:Nat) (q:Slc) (T:List Pl):Prop where
 blk:Blk w g jp [.slice q.a q.n q.c]
 hg:base<=g
 own:Go.Vc.Own qQ w base q T
def plS (g:Nat) (q:Slc) (k:Nat):Prop:=k=g\/q.blk=some k
section
variable {w w':World} {base g:Nat} {q:Slc} {T:List Pl}
theorem PlTM.ext (h:PlTM w base g q T) (hb:Uc w w'):PlTM w' base g q T:=⟨h.blk.ext hb,h.hg,h.own.ext hb⟩
theorem PlTM.drew (h:PlTM w base g q T):PlTM w.drew base g q T:=⟨h.blk,h.hg,h.own⟩
theorem PlTM.chg {S:Nat->Prop} (h:PlTM w base g q T) (hc:Chg S w w') (hS:∀k,plS g q k->¬S k):PlTM w' base g q T:=⟨h.blk.chg hc (hS _ (.inl rfl)),h.hg,h.own.chg hc λk hk=>hS _ (.inr hk)⟩
theorem PlTM.lt (h:PlTM w base g q T):∀k,plS g q k->base<=k/\k<w.heap.size:=by
 rintro k (rfl | hk)
 ·exact ⟨h.hg,h.blk.lt⟩
 ·exact h.own.lt k hk
theorem PlTM.ne (h:PlTM w base g q T):∀k,q.blk=some k->k≠g:=qA h.own h.blk (by decide)
theorem jE {v lo hi:Int} {K:Bool->Ub} (hK:K (btw v lo hi) w):zN v lo hi w K:=by
 refine qlr _ _ _ ?_;unfold btw at hK;refine cO (λe=>?_) λe=>?_
 ·rw [e,Bool.true_and] at hK;exact hK
 ·rw [e,Bool.false_and] at hK;exact hK
theorem j7 {a b:Bool} {K:Bool->Ub} {X:Prop} (hK:K (a && b) w) (h:K b w->X):cond a X (K false w):=by
 cases a
 ·exact hK
 ·exact h hK
theorem q4t {p:Pl} {K:Bool->Ub} (hK:∀w',Uc w w'->K (qw5 p) w'):qg1 p w K:=by
 refine qr9 _ ?_;refine nwb λw1 hb hB1 hs1=>?_;have hK:=hK w1 hB1;unfold qw5 at hK;refine lI (x:=p.Image) (hb.cells 0 _ rfl) (j7 hK λhK=>?_);refine lI (x:=p.Id) (hb.cells 1 _ rfl) (jE (j7 hK λhK=>?_));refine lI (x:=p.Line) (hb.cells 3 _ rfl) (j7 hK λhK=>?_);refine lI (x:=p.Line) (hb.cells 3 _ rfl) (j7 hK λhK=>?_);refine lI (x:=p.Col) (hb.cells 4 _ rfl) (jE (j7 hK λhK=>?_));refine lI (x:=p.Rows) (hb.cells 5 _ rfl) (jE (j7 hK λhK=>?_));refine lI (x:=p.Cols) (hb.cells 6 _ rfl) (jE (j7 hK λhK=>?_));refine lI (x:=p.X) (hb.cells 7 _ rfl) (j7 hK λhK=>?_);refine lI (x:=p.Y) (hb.cells 8 _ rfl) (j7 hK λhK=>?_);refine lI (x:=p.W) (hb.cells 9 _ rfl) (jE (j7 hK λhK=>?_));refine lI (x:=p.H) (hb.cells 10 _ rfl) (jE (j7 hK λhK=>?_));refine lI (x:=p.DX) (hb.cells 11 _ rfl) (jE (j7 hK λhK=>?_));refine lI (x:=p.DY) (hb.cells 12 _ rfl) (jE (j7 hK λhK=>?_));exact lI (x:=p.Z) (hb.cells 13 _ rfl) (jE hK)
theorem q38 {p:Pl} {line rows from_ past:Int} {K:Bool->Ub} (hK:∀w',Uc w w'->K (q4j p line rows from_ past) w'):Q2 p line rows from_ past w K:=by
 refine qea _ _ _ _ _ ?_;refine nwb λw1 hb hB1 hs1=>?_;have hK:=hK w1 hB1;unfold q4j at hK;refine j7 hK λhK=>j7 hK λhK=>?_;refine lI (x:=p.Line) (hb.cells 3 _ rfl) (lI (x:=p.Rows) (hb.cells 5 _ rfl) (j7 hK λhK=>?_));refine lI (x:=p.Line) (hb.cells 3 _ rfl) (j7 hK λhK=>?_);refine lI (x:=p.Col) (hb.cells 4 _ rfl) (j7 hK λhK=>?_);exact lI (x:=p.Col) (hb.cells 4 _ rfl) (lI (x:=p.Cols) (hb.cells 6 _ rfl) hK)
end
theorem zp {w w1 w2:World} (h1:Uc w w1) (h2:Uc w1 w2):Uc w w2:=h1.trans (h2.mono h1.size)
theorem kT {w w1 w2 w3:World} (h1:Uc w w1) (h2:Uc w1 w2) (h3:Uc w2 w3):Uc w w3:=zp (zp h1 h2) h3
section
variable {w w':World} {base g:Nat} {q:Slc} {T:List Pl}
def qsj (w:World) (G:Value) (f:Pl->Bool):Prop:=∀(w1:World) (p:Pl) (K:Bool->Ub),Uc w w1->(∀w2,Uc w1 w2->K (f p) w2)->jd C G [.agg (qf.rep.cells p).toArray] [Kind.bool] w1 K
theorem qha {G:Value} {f:Pl->Bool} (h:PlTM w base g q T) (hl:T.length<=100000) (hbase:base<=w.heap.size) (hG:qsj w G f) {K:Slc->Ub}
  (hK:∀r q' w',Go.Vc.Own qQ w' w.heap.size r (T.filter f)->PlTM w' base g q' (T.filter λp=>!f p)->(∀k,q'.blk=some k->w.heap.size<=k)->(∀k,r.blk=some k->q'.blk≠some k)->Chg (λk=>k=g) w w'->K r w') :
  xR (some ⟨g,0,none⟩) G w K:=by
 refine qgv _ _ ?_;simp only [onPtr_some];refine lSl (x:=q) (h.blk.cells 0 _ rfl) ?_;have hn:q.n=T.length:=h.own.rd.n;refine lpR (λ(st:Slc×Slc×Int×Unit) w1=>∃k:Nat,st.2.2.1=(k:Int)/\k<=T.length/\Go.Vc.Own qQ w1 w.heap.size st.1 ((T.take k).filter f)/\Go.Vc.Own qQ w1 w.heap.size st.2.1 ((T.take k).filter λp=>!f p) /\
   (∀k,st.1.blk=some k->st.2.1.blk≠some k)/\Uc w w1) (λst=>T.length-st.2.2.1.toNat) ⟨0,rfl,zero_le _,Own.nil _ _ _,Own.nil _ _ _,(λk hk=>by cases hk),Below.refl _ _⟩ ?_
 rintro ⟨r,l,i,u⟩ w1 ⟨k,hi,hk,hr,hle,hne,hB⟩ I hI;dsimp only at hi hr hle hne ⊢;subst hi;have h1:=h.ext hB;refine cO (λe=>?_) λe=>?_
 ·have e:=oTq e;have hlt:k<T.length:=by omega
  obtain ⟨p,hp⟩:∃p,T[k]?=some p:=⟨_,List.getElem?_eq_getElem hlt⟩;refine h1.own.rd.ix (E:=qQ) (i:=(k:Int)) rfl (by omega) (by omega) λhx=>?_;have hx:qx w1 (q.at_ qQ.k (k:Int).toNat) (qf.rep.cells p):=by
   simp only [toNat_natCast] at hx ⊢;have e1:T[k]'hlt=p:=(List.getElem?_eq_some_iff.1 hp).2;rw [e1] at hx;exact hx
  refine qw (r:=qf.rep) (x:=p) hx ?_;refine jQ (vs:=qf.rep.cells p) rfl λw3 hb3 hB3 hs3=>?_;refine qw (r:=qf.rep) (x:=p) hb3.cells ?_;have B3:=zp hB hB3;refine hG w3 p _ B3 λw4 hB4=>?_;have B4:=zp B3 hB4;have hr4:=(hr.ext hB3).ext hB4;have hl4:=(hle.ext hB3).ext hB4;have hb4:=hb3.ext hB4;have z4:=B4.size;have tk:T.take (k+1)=T.take k++[p]:=by rw [List.take_add_one,hp];rfl
  have lf:∀g:Pl->Bool,((T.take k).filter g).length<=k:=λg=>le_trans (List.length_filter_le _ _) (by simp;omega);have by112:jH.i.bytes=112:=ZG;refine cO (λhf=>?_) λhf=>?_
  ·refine qw (r:=qf.rep) (x:=p) hb4.cells ?_;have:=lf f;refine qdc (E:=qQ) jH hr4 (y:=p) rfl z4 (by rw [by112];omega) (by unfold maxLen;omega) λr' w5 ho5 hc5 hrb=>?_;have hl5:=hl4.chg hc5 λk hk e=>hne k e hk;rw [qP (x:=(k:Int)+1) (by omega)];refine hI _ _ ⟨k+1,by simp,by omega,?_,?_,λk hk=>?_,?_⟩ (by dsimp only;omega)
   ·rw [tk,List.filter_append,show [p].filter f=[p] by simp [hf]];exact ho5
   ·rw [tk,List.filter_append,show [p].filter (λp=>!f p)=[] by simp [hf],List.append_nil];exact hl5
   ·rcases hrb k hk with h | h
    ·exact hne k h
    ·intro e;have:=(hl4.lt k e).2;omega
   ·exact B4.trans (hc5.below (by omega) λi hi e=>by have:=(hr4.lt i e).1;omega)
  ·refine qw (r:=qf.rep) (x:=p) hb4.cells ?_;have:=lf λp=>!f p;refine qdc (E:=qQ) jH hl4 (y:=p) rfl z4 (le_trans (Nat.mul_le_mul_right _ (Nat.succ_le_succ (lf _))) (by rw [by112];omega)) (le_trans (Nat.succ_le_succ (lf _)) (by unfold maxLen;omega)) λr' w5 ho5 hc5 hrb=>?_;have hr5:=hr4.chg hc5 λk hk e=>hne k hk e;rw [qP (x:=(k:Int)+1) (by omega)];refine hI _ _ ⟨k+1,by simp,by omega,?_,?_,λk hk e=>?_,?_⟩ (by dsimp only;omega)
   ·rw [tk,List.filter_append,show [p].filter f=[] by simp [hf],List.append_nil];exact hr5
   ·rw [tk,List.filter_append,show [p].filter (λp=>!f p)=[p] by simp [hf]];exact ho5
   ·rcases hrb k e with h | h
    ·exact hne k hk h
    ·have:=(hr4.lt k hk).2;omega
   ·exact B4.trans (hc5.below (by omega) λi hi e=>by have:=(hl4.lt i e).1;omega)
 ·have e:=oFq e;have hkT:k=T.length:=by omega
  subst hkT;rw [List.take_length] at hr hle;rw [show (⟨g,0,none⟩:Addr).add 0=⟨g,0,none⟩ from rfl];refine qz h1.blk (by simp) λw2 hb2 hg2 hs2=>?_;have hc2:Chg (λi=>i=g) w1 w2:=Chg.of_grown hg2 λk hk=>by cases hk;rfl
  have hgl:=h.blk.lt;have nr:∀k,r.blk=some k->¬k=g:=λk hk e=>by have:=(hr.lt k hk).1;omega
  have nl:∀k,l.blk=some k->¬k=g:=λk hk e=>by have:=(hle.lt k hk).1;omega
  exact hK r l w2 (hr.chg hc2 nr) ⟨hb2,h.hg,(hle.chg hc2 nl).base hbase⟩ (λk hk=>(hle.lt k hk).1) hne ((Chg.of_ext (S:=λk=>k=g) hB).trans hc2 λi _ hi=>hi)
end
theorem yY {k:Nat} {first caps:Array Value} {args:List Value} {ks:List Kind} {w:World} {K:Go.Vc.Cur ks} (hp:C.plain k=true) (h:qm C.P k (first.toList++args++caps.toList) ks w K):jd C (.func (.func k) first caps) args ks w K:=by
 unfold jd qjc;simp only [hp];exact h
section
variable {w w':World} {base g:Nat} {q:Slc} {T:List Pl}
theorem q8c {b:Nat} {x:Int} (hb:Blk w b zA [.int .i64 x]):qsj w (.func (.func JL) #[] #[.pointer (some ⟨b,0,none⟩)]) (λp=>p.Image==x):=by
 intro w1 p K hB hK;have h:XZ p ⟨b,0,none⟩ w1 K:=by
  refine qdm _ _ ?_;refine nwb λw2 hp hB2 hs2=>?_;refine lI (x:=p.Image) (hp.cells 0 _ rfl) (lI (x:=x) ?_ (hK w2 hB2));simpa using ((hb.ext hB).ext hB2).cells 0 _ rfl
 refine yY (by kernel_rfl) (Calls.mono h ?_);rintro e w' ⟨r,rfl,hk⟩;exact ⟨r,rfl,hk⟩
theorem zbt {b:Nat} {x:Int} (hb:Blk w b zA [.int .i64 x]):qsj w (.func (.func KC) #[] #[.pointer (some ⟨b,0,none⟩)]) (λp=>p.Image==x):=by
 intro w1 p K hB hK;have h:Vs p ⟨b,0,none⟩ w1 K:=by
  refine qfb _ _ ?_;refine nwb λw2 hp hB2 hs2=>?_;refine lI (x:=p.Image) (hp.cells 0 _ rfl) (lI (x:=x) ?_ (hK w2 hB2));simpa using ((hb.ext hB).ext hB2).cells 0 _ rfl
 refine yY (by kernel_rfl) (Calls.mono h ?_);rintro e w' ⟨r,rfl,hk⟩;exact ⟨r,rfl,hk⟩
def qwp (alt:Bool) (first:Int) (p:Pl):Bool:=(p.Alt==alt) && decide (wi (p.Line+p.Rows)<=first)
theorem q2y {b b2:Nat} {alt:Bool} {first:Int} (hb:Blk w b qn5 [.bool alt]) (hb2:Blk w b2 qz5 [.int .i64 first]):qsj w (.func (.func ZK) #[] #[.pointer (some ⟨b,0,none⟩),.pointer (some ⟨b2,0,none⟩)]) (qwp alt first):=by
 intro w1 p K hB hK;have h:JG p ⟨b,0,none⟩ ⟨b2,0,none⟩ w1 K:=by
  refine qbf _ _ _ ?_;refine nwb λw2 hp hB2 hs2=>?_;refine jY (x:=p.Alt) (hp.cells 2 _ rfl) (jY (x:=alt) (by simpa using ((hb.ext hB).ext hB2).cells 0 _ rfl) ?_);have hk:=hK w2 hB2;unfold qwp at hk;refine j7 hk λhk=>?_;exact lI (x:=p.Line) (hp.cells 3 _ rfl) (lI (x:=p.Rows) (hp.cells 5 _ rfl) (lI (x:=first) (by simpa using ((hb2.ext hB).ext hB2).cells 0 _ rfl) hk))
 refine yY (by kernel_rfl) (Calls.mono h ?_);rintro e w' ⟨r,rfl,hk⟩;exact ⟨r,rfl,hk⟩
def qon (p o:Pl):Bool:=(p.Id !=0) && zgl { p with Image:=o.Image,Id:=o.Id } p
theorem q88 {b:Nat} {p:Pl} (hb:Blk w b qC (qf.rep.cells p)):qsj w (.func (.func Ky) #[] #[.pointer (some ⟨b,0,none⟩)]) (qon p):=by
 intro w1 o K hB hK;have h:Vg o ⟨b,0,none⟩ w1 K:=by
  refine qfk _ _ ?_;refine nwb λw2 ho hB2 hs2=>?_;have hb2:=(hb.ext hB).ext hB2;refine qw (r:=qf.rep) (x:=p) hb2.cells ?_;refine jQ (vs:=qf.rep.cells p) rfl λw3 hl3 hB3 hs3=>?_;have ho3:=(ho.ext hB3).drew;have hl3d:=hl3.drew;refine lI (x:=o.Image) (ho3.cells 0 _ rfl) (lI (x:=o.Id) (ho3.cells 1 _ rfl) ?_);show stK ⟨w2.heap.size,0,none⟩ _ _ _;refine qz hl3d (by show (0+1:Nat)<=14;omega) λw4 hl4 hg4 hs4=>?_;have hc4:Chg (λi=>i=w2.heap.size) w3.drew w4:=Chg.of_grown hg4 λk hk=>by cases hk;rfl
  have nlo:∀{k:Nat},k<w2.heap.size->¬k=w2.heap.size:=λh e=>by omega
  have ho4:=ho3.chg hc4 (nlo ho.lt);have hb3:=(hb2.ext hB3).drew;have hb4:=hb3.chg hc4 (nlo hb2.lt);refine ⟨ho4.cells 1 _ rfl,?_⟩;show stK ⟨w2.heap.size,1,none⟩ _ _ _;have hl4':Blk w4 w2.heap.size qC (qf.rep.cells { p with Image:=o.Image }):=hl4;refine qz hl4' (by show (1+1:Nat)<=14;omega) λw5 hl5 hg5 hs5=>?_;have hc5:Chg (λi=>i=w2.heap.size) w4 w5:=Chg.of_grown hg5 λk hk=>by cases hk;rfl
  have hb5:=hb4.chg hc5 (nlo hb2.lt);have hl5':Blk w5 w2.heap.size qC (qf.rep.cells { p with Image:=o.Image,Id:=o.Id }):=hl5;have z2:w1.heap.size<=w2.heap.size:=hB2.size;have B5:Uc w1 w5:=((zp hB2 hB3).drew.trans (hc4.below (by show w1.heap.size<=w3.heap.size;omega) λi hi e=>by omega)).trans (hc5.below (by rw [hs4];show w1.heap.size<=w3.heap.size;omega) λi hi e=>by omega);have hk:=hK w5 B5;unfold qon at hk;refine lI (x:=p.Id) (by have:=hb5.cells 1 _ rfl;simpa using this) (j7 hk λhk=>?_);exact qw (r:=qf.rep) (x:={ p with Image:=o.Image,Id:=o.Id }) hl5'.cells (qw (r:=qf.rep) (x:=p) hb5.cells hk)
 refine yY (by kernel_rfl) (Calls.mono h ?_);rintro e w' ⟨r,rfl,hk⟩;exact ⟨r,rfl,hk⟩
theorem vj (w:World):Uc w w.drew:=(Below.refl _ w).drew
theorem q1t (h:PlTM w base g q T) (hl:T.length<=100000) (hbase:base<=w.heap.size) (x:Int) {K:Int->Ub}
  (hK:∀n q' w',PlTM w' base g q' (T.filter λp=>!(p.Image==x))->(∀k,q'.blk=some k->w.heap.size<=k)->Chg (λk=>k=g) w w'->K n w'):Zl (some ⟨g,0,none⟩) x w K:=by
 refine qgr _ _ ?_;refine nwb λw1 hb hB1 hs1=>?_;refine qha (h.ext hB1) hl (le_trans hbase hB1.size) (q8c hb) λr q' w2 hr ht hq hne hc=>?_;exact hK _ q' w2 ht (λk hk=>le_trans hB1.size (hq k hk)) ((Chg.of_ext (S:=λk=>k=g) hB1).trans hc λi _ hi=>hi)
theorem qxn (h:PlTM w base g q T) (hl:T.length<=100000) (hbase:base<=w.heap.size) (alt:Bool) (first:Int) {K:Slc->Ub}
  (hK:∀r q' w',Go.Vc.Own qQ w' w.heap.size r (T.filter (qwp alt first))->PlTM w' base g q' (T.filter λp=>!qwp alt first p)->(∀k,q'.blk=some k->w.heap.size<=k)->(∀k,r.blk=some k->q'.blk≠some k)->Chg (λk=>k=g) w w'->K r w'):Q4 (some ⟨g,0,none⟩) alt first w K:=by
 refine qdn _ _ _ ?_;refine nwb λw1 hb hB1 hs1=>nwb λw2 hb2 hB2 hs2=>?_;have B2:=zp hB1 hB2;refine qha ((h.ext hB1).ext hB2) hl (le_trans hbase B2.size) (q2y (hb.ext hB2) hb2) λr q' w3 hr ht hq hne hc=>?_;exact hK r q' w3 (hr.base B2.size) ht (λk hk=>le_trans B2.size (hq k hk)) hne ((Chg.of_ext (S:=λk=>k=g) B2).trans hc λi _ hi=>hi)
theorem q4c (h:PlTM w base g q T) (hl:T.length<=99999) (hbase:base<=w.heap.size) (p:Pl) {K:Int->Ub}
  (hE:qw5 p=false->∀w',Uc w w'->K 1 w')
  (hK:qw5 p=true->∀q' w',PlTM w' base g q' ((T.filter λo=>!qon p o)++[p])->(∀k,q'.blk=some k->w.heap.size<=k)->Chg (λk=>k=g) w w'->K 0 w'):Jl (some ⟨g,0,none⟩) p w K:=by
 refine qin _ _ ?_;refine nwb λw1 hb1 hB1 hs1=>?_;refine qw (r:=qf.rep) (x:=p) hb1.cells (q4t λw2 hB2=>?_);have B2:=zp hB1 hB2;have hb2:=hb1.ext hB2;cases hm:qw5 p
 ·exact cT rfl (hE hm _ B2)
 ·refine cF rfl ?_;have h2:=(h.ext hB1).ext hB2;have bg:g<w.heap.size:=h.blk.lt;refine qha h2 (by omega) (le_trans hbase B2.size) (q88 hb2) λr q' w3 hr ht hq hne hc=>?_;simp only [onPtr_some];have htd:=ht.drew;have hb3:Blk w3.drew w.heap.size qC (qf.rep.cells p):=(hb2.chg hc λe=>by omega).drew;have hll:(T.filter λo=>!qon p o).length<=T.length:=List.length_filter_le _ _;refine lSl (x:=q') (htd.blk.cells 0 _ rfl) (qw (r:=qf.rep) (x:=p) hb3.cells ?_);have z3:=hc.size;have z2:=B2.size;refine nwb λw4 hb4 hB4 hs4=>⟨(htd.blk.ext hB4).cells 0 _ rfl,?_⟩;refine jN jH (htd.own.ext hB4) (ZU (E:=qQ) (y:=p) hb4 rfl) (by show base<=w4.heap.size;have:=hB4.size;have e:w3.drew.heap.size=w3.heap.size:=rfl;omega) (by
    show ((T.filter λo=>!qon p o).length+1)*jH.i.bytes<=_;rw [ZG];omega) (by
    show (T.filter λo=>!qon p o).length+1<=maxLen;unfold maxLen;omega) λr5 w5 ho5 hg5 hr5=>?_
  rw [show (⟨g,0,none⟩:Addr).add 0=⟨g,0,none⟩ from rfl];have hblk5:Blk w5 g jp [.slice q'.a q'.n q'.c]:=(htd.blk.ext hB4).grown hg5 λe=>(htd.ext hB4).ne g e.symm rfl;refine qz hblk5 (by simp) λw6 hb6 hg6 hs6=>?_;have hc6:Chg (λi=>i=g) w5 w6:=Chg.of_grown hg6 λk hk=>by cases hk;rfl
  have hrb:∀k,r5.blk=some k->w2.heap.size<=k:=by
   intro k hk;rcases hr5 with e | e
   ·rw [e] at hk;exact hq k hk
   ·rw [e] at hk;cases hk;have e:w3.drew.heap.size=w3.heap.size:=rfl;omega
  have ho6:=ho5.chg hc6 λk hk e=>by have:=hrb k hk;omega
  have hc5:Chg (λk=>k=g) w w5:=by
   refine (Chg.of_ext (S:=λk=>k=g) B2).trans ((hc.trans (Chg.of_ext (S:=λk=>k=g) (zp (vj w3) hB4)) λi _ hi=>hi).trans (Chg.of_grown (S:=λk=>q'.blk=some k) hg5 λk hk=>hk) ?_) λi _ hi=>hi;intro i hi e;have:=hq i e;omega
  exact hK hm r5 w6 ⟨hb6,h.hg,ho6⟩ (λk hk=>le_trans B2.size (hrb k hk)) (hc5.trans hc6 λi _ hi=>hi)
theorem q2o (h:PlTM w base g q T) (hl:T.length<=100000) (x:Int) {K:Bool->Ub} (hK:∀w',Uc w w'->K (T.any λp=>p.Image==x) w'):ZT (some ⟨g,0,none⟩) x w K:=by
 refine qiy _ _ ?_;refine nwb λw1 hb hB1 hs1=>?_;simp only [onPtr_some];have h1:=h.ext hB1;refine lSl (x:=q) (h1.blk.cells 0 _ rfl) ?_;refine kh _ _ ?_;refine kJ _ _ ?_;have hn:q.n=T.length:=h.own.rd.n;have hG:=zbt hb;refine lpR (λ(st:Int×Unit) w2=>∃k:Nat,st.1=(k:Int)/\k<=T.length/\Uc w1 w2/\(T.take k).any (λp=>p.Image==x)=false) (λst=>T.length-st.1.toNat) ⟨0,rfl,zero_le _,Below.refl _ _,rfl⟩ ?_;rintro ⟨i,u⟩ w2 ⟨k,hi,hk,hB2,hany⟩ I hI;dsimp only at hi ⊢;subst hi;have h2:=h1.ext hB2;have B2:=zp hB1 hB2;refine cO (λe=>?_) λe=>?_
 ·have e:=oTq e;have hlt:k<T.length:=by omega
  obtain ⟨p,hp⟩:∃p,T[k]?=some p:=⟨_,List.getElem?_eq_getElem hlt⟩;refine h2.own.rd.ix (E:=qQ) (i:=(k:Int)) rfl (by omega) (by omega) λhx=>?_;have hx:qx w2 (q.at_ qQ.k (k:Int).toNat) (qf.rep.cells p):=by
   simp only [toNat_natCast] at hx ⊢;have e1:T[k]'hlt=p:=(List.getElem?_eq_some_iff.1 hp).2;rw [e1] at hx;exact hx
  refine qw (r:=qf.rep) (x:=p) hx ?_;refine hG w2 p _ hB2 λw3 hB3=>?_;have tk:T.take (k+1)=T.take k++[p]:=by rw [List.take_add_one,hp];rfl
  refine cO (λhf=>?_) λhf=>?_
  ·rw [dTq (by omega)];have:(T.any λp=>p.Image==x)=true:=List.any_eq_true.2 ⟨p,List.mem_of_getElem? hp,hf⟩;rw [<-this];exact hK w3 (zp B2 hB3)
  ·rw [qP (x:=(k:Int)+1) (by omega)];refine hI _ _ ⟨k+1,by simp,by omega,zp hB2 hB3,?_⟩ (by dsimp only;omega);rw [tk,List.any_append,hany];simp [hf]
 ·have e:=oFq e;have hkT:k=T.length:=by omega
  subst hkT;rw [List.take_length] at hany;rw [dFq (by omega),<-hany];exact hK w2 B2
end
end Go.Proofs.YtokfefnmpjohpaaGreatDoor
namespace Go.Vc
open Go.RowKit
open Builtin (delete_)
open IntKind (i64)
open _root_.List (mem_append mem_cons mem_map mem_singleton)
open _root_.Option (map_eq_some_iff)
structure Ent (V:Type) where
 k:Int
 v:V
 b:Nat
section
variable {V:Type} (enc:V->Value)
def Ent.val (e:Ent V):MapEntry:={ key:=.int .i64 e.k,val:=enc e.v,born:=e.b }
structure MapE (w:World) (r:Nat) (E:List (Ent V)) (clock:Nat):Prop where
 heap:w.heap[r]?=some (.map (E.map (Ent.val enc)).toArray clock)
 keys:E.Pairwise λx y=>x.k≠y.k
 stamps:E.Pairwise λx y=>x.b<y.b
 lt:∀e∈E,e.b<clock
 wf:∀e∈E,-9223372036854775808<=e.k/\e.k<=9223372036854775807
def Srt (L:List (Int×V)):Prop:=L.Pairwise λp q=>p.1<q.1
def zt (L:List (Int×V)) (k:Int):Option V:=(L.find? λp=>p.1==k).map (·.2)
def delL (L:List (Int×V)) (k:Int):List (Int×V):=L.filter λp=>p.1 !=k
def ko (L:List (Int×V)) (k:Int) (v:V):List (Int×V):=match L with
 | []=>[(k,v)]
 | p::r=>if k<p.1 then (k,v)::p::r else if k=p.1 then (k,v)::r else p::ko r k v
def vi (E:List (Ent V)):List (Int×V):=E.map λe=>(e.k,e.v)
def zG (w:World) (r:Nat) (L:List (Int×V)):Prop:=∃E clock,MapE enc w r E clock/\(vi E).Perm L/\Srt L
variable {enc}
theorem MapE.lt_heap {w:World} {r:Nat} {E:List (Ent V)} {clock:Nat} (h:MapE enc w r E clock):r<w.heap.size:=(Array.getElem?_eq_some_iff.1 h.heap).1
theorem zG.lt {w:World} {r:Nat} {L:List (Int×V)} (h:zG enc w r L):r<w.heap.size:=by
 obtain ⟨E,c,h,_⟩:=h;exact h.lt_heap
theorem zG.keep {w w':World} {r:Nat} {L:List (Int×V)} (h:zG enc w r L) (hk:w'.heap[r]?=w.heap[r]?):zG enc w' r L:=by
 obtain ⟨E,c,h,hp⟩:=h;exact ⟨E,c,⟨hk.trans h.heap,h.keys,h.stamps,h.lt,h.wf⟩,hp⟩
theorem zG.chg {S:Nat->Prop} {w w':World} {r:Nat} {L:List (Int×V)} (h:zG enc w r L) (hc:Chg S w w') (hS:¬S r):zG enc w' r L:=h.keep (hc.block r h.lt hS)
theorem zG.ext {w w':World} {r:Nat} {L:List (Int×V)} (h:zG enc w r L) (hb:Uc w w'):zG enc w' r L:=h.keep (hb.block r h.lt)
theorem zG.new (w:World):zG enc (w.alloc (.map #[] 0)) w.heap.size ([]:List (Int×V)):=by
 refine ⟨[],0,⟨?_,.nil,.nil,(λe he=>by cases he),(λe he=>by cases he)⟩,.refl _,.nil⟩;show (w.heap.push _)[w.heap.size]?=_;simp
theorem zG.ne_blk {w:World} {r g:Nat} {L:List (Int×V)} {t:TypeId} {vs:List Value} (h:zG enc w r L) (hb:Blk w g t vs):r≠g:=by
 rintro rfl;obtain ⟨E,c,h,_⟩:=h;have h1:=h.heap;unfold Blk at hb;rw [hb] at h1;cases h1
theorem zG.ne_own {T:Type} {El':El T} {w:World} {r base:Nat} {L:List (Int×V)} {s:Slc} {xs:List T} (h:zG enc w r L) (ho:Own El' w base s xs):∀k,s.blk=some k->k≠r:=λk hk e=>by
 obtain ⟨cs,hcs⟩:=ho.blk_t hk;exact h.ne_blk hcs e.symm
def Y7:List (Ent V)->Int->Option (Nat×V)
 | [],_=>none
 | e::r,k=>if k=e.k then some (0,e.v) else (Y7 r k).map λp=>(p.1+1,p.2)
theorem qp0 (k:Int):∀(E:List (Ent V)) (i:Nat),Instr.findNow (.int .i64) (Ua k) (E.map (Ent.val enc)) i=some ((Y7 E k).map λp=>(i+p.1,enc p.2))
 | [],i=>rfl
 | e::r,i=>by
  rw [List.map_cons,Instr.findNow];have hs:Instr.sameNow (.int .i64) (Ua k) (Ent.val enc e).key=some (k==e.k):=by
   show (if (i64=i64) then some (k==e.k) else none)=_;rw [if_pos rfl]
  rw [hs,Y7];by_cases h:k=e.k
  ·rw [if_pos h,show (k==e.k)=true from beq_iff_eq.2 h];rfl
  ·rw [if_neg h,show (k==e.k)=false from beq_eq_false_iff_ne.2 h];dsimp only;rw [qp0 k r (i+1)];cases Y7 r k with
   | none=>rfl
   | some p =>
    show some (some (i+1+p.1,enc p.2))=some (some (i+(p.1+1),enc p.2));rw [show i+1+p.1=i+(p.1+1) by omega]
theorem qou {k:Int} {v:V}:∀{E:List (Ent V)} {i:Nat},Y7 E k=some (i,v)->∃e,E[i]?=some e/\e.k=k/\e.v=v
 | e::r,i,h=>by
  rw [Y7] at h;by_cases hk:k=e.k
  ·rw [if_pos hk] at h;cases h;exact ⟨e,rfl,hk.symm,rfl⟩
  ·rw [if_neg hk] at h;obtain ⟨p,hp,e'⟩:=map_eq_some_iff.1 h;cases e';obtain ⟨x,hx,h1,h2⟩:=qou (E:=r) (i:=p.1) (by rw [hp]);exact ⟨x,hx,h1,h2⟩
theorem qjg {k:Int}:∀{E:List (Ent V)},Y7 E k=none->∀e∈E,e.k≠k
 | [],_,e,he=>by cases he
 | x::r,h,e,he=>by
  rw [Y7] at h;by_cases hk:k=x.k
  ·rw [if_pos hk] at h;cases h
  ·rw [if_neg hk] at h;have h:=Option.map_eq_none_iff.1 h;rcases mem_cons.1 he with rfl | he
   ·exact λe=>hk e.symm
   ·exact qjg h e he
theorem xG {L:List (Int×V)} (hs:Srt L) {k:Int} {v:V}:zt L k=some v↔(k,v)∈L:=by
 unfold zt;rw [map_eq_some_iff];constructor
 ·rintro ⟨p,hp,rfl⟩;have h1:=List.find?_some hp;have h2:=List.mem_of_find?_eq_some hp;have:p.1=k:=by simpa using h1
  rw [<-this];exact h2
 ·intro hm;cases hf:L.find? (λp=>p.1==k) with
  | none =>
   have:=List.find?_eq_none.1 hf (k,v) hm;simp at this
  | some q =>
   have h1:q.1=k:=by simpa using List.find?_some hf
   have h2:=List.mem_of_find?_eq_some hf;refine ⟨q,rfl,?_⟩;obtain ⟨qk,qv⟩:=q;subst h1;have:∀{M:List (Int×V)},Srt M->∀{a b c},(a,b)∈M->(a,c)∈M->b=c:=by
    intro M hM
    induction hM with
    | nil=>intro a b c h;cases h
    | cons hx _ ih =>
     intro a b c hb hc;rcases mem_cons.1 hb with e | hb
     ·rcases mem_cons.1 hc with e' | hc
      ·have:=e.trans e'.symm;cases this;rfl
      ·have:=hx _ hc;rw [<-e] at this;exact absurd this (Int.lt_irrefl _)
     ·rcases mem_cons.1 hc with e' | hc
      ·have:=hx _ hb;rw [<-e'] at this;exact absurd this (Int.lt_irrefl _)
      ·exact ih hb hc
   exact this hs h2 hm
theorem qv4 {E:List (Ent V)} {L:List (Int×V)} (hp:(vi E).Perm L) (hs:Srt L) (k:Int):(Y7 E k).map (·.2)=zt L k:=by
 cases hi:Y7 E k with
 | none =>
  cases hg:zt L k with
  | none=>rfl
  | some v =>
   have:=hp.mem_iff.2 ((xG hs).1 hg);obtain ⟨e,he,e2⟩:=mem_map.1 this;have e2:=congrArg Prod.fst e2;exact absurd e2 (qjg hi e he)
 | some p =>
  obtain ⟨i,v⟩:=p;obtain ⟨e,he,h1,h2⟩:=qou hi;refine ((xG hs).2 (hp.mem_iff.1 (mem_map.2 ⟨e,List.mem_of_getElem? he,?_⟩))).symm;rw [h1,h2]
def qzx (w:World) (r:Nat) (o:Obj):World:={ w with heap:=w.heap.setIfInBounds r o }
theorem qn9 (w:World) (r:Nat) (o:Obj):Chg (λk=>k=r) w (qzx w r o) :=
 ⟨rfl,rfl,rfl,by show w.heap.size<=(w.heap.setIfInBounds r o).size;simp,λk _ hk=>by show (w.heap.setIfInBounds r o)[k]?=_;rw [Array.getElem?_setIfInBounds_ne (λe=>hk e.symm)]⟩
theorem qpl {w:World} {r:Nat} (o:Obj) (h:r<w.heap.size):(qzx w r o).heap[r]?=some o:=by
 show (w.heap.setIfInBounds r o)[r]?=_;simp [h]
theorem qjf (w:World) (r:Nat) (o:Obj):(qzx w r o).heap.size=w.heap.size:=by show (w.heap.setIfInBounds r o).size=_;simp
theorem Srt.nodup {L:List (Int×V)} (h:Srt L):L.Nodup:=h.imp λ{a b} hab e=>by rw [e] at hab;exact Int.lt_irrefl _ hab
theorem qzi {E:List (Ent V)} (h:E.Pairwise λx y=>x.k≠y.k):(vi E).Nodup:=List.pairwise_map.2 (h.imp λ{a b} hab e=>hab (congrArg Prod.fst e))
theorem yI {L:List (Int×V)} (hs:Srt L) (k:Int) (v:V):∀a b,(a,b)∈ko L k v↔(a=k/\b=v)\/(a≠k/\(a,b)∈L):=by
 induction hs with
 | nil =>
  intro a b;simp [ko]
 | @cons p L' hp hs' ih =>
  intro a b;obtain ⟨pk,pv⟩:=p;rw [ko];dsimp only at hp ⊢;have hgt:∀{a b},(a,b)∈L'->pk<a:=λh=>hp _ h;by_cases h1:k<pk
  ·rw [if_pos h1];simp only [mem_cons,Prod.mk.injEq];constructor
   ·rintro (h | h | h)
    ·exact .inl h
    ·exact .inr ⟨by omega,.inl h⟩
    ·exact .inr ⟨by have:=hgt h;omega,.inr h⟩
   ·rintro (h | ⟨_,h | h⟩)
    ·exact .inl h
    ·exact .inr (.inl h)
    ·exact .inr (.inr h)
  ·rw [if_neg h1];by_cases h2:k=pk
   ·rw [if_pos h2];simp only [mem_cons,Prod.mk.injEq];constructor
    ·rintro (h | h)
     ·exact .inl h
     ·exact .inr ⟨by have:=hgt h;omega,.inr h⟩
    ·rintro (h | ⟨hne,h | h⟩)
     ·exact .inl h
     ·omega
     ·exact .inr h
   ·rw [if_neg h2];simp only [mem_cons,Prod.mk.injEq,ih];constructor
    ·rintro (h | h | ⟨hne,h⟩)
     ·exact .inr ⟨by omega,.inl h⟩
     ·exact .inl h
     ·exact .inr ⟨hne,.inr h⟩
    ·rintro (h | ⟨hne,h | h⟩)
     ·exact .inr (.inl h)
     ·exact .inl h
     ·exact .inr (.inr ⟨hne,h⟩)
theorem qc8 {L:List (Int×V)} (hs:Srt L) (k:Int) (v:V):Srt (ko L k v):=by
 induction hs with
 | nil=>exact List.pairwise_singleton _ _
 | @cons p L' hp hs' ih =>
  obtain ⟨pk,pv⟩:=p;rw [ko];dsimp only at hp ⊢;by_cases h1:k<pk
  ·rw [if_pos h1];refine .cons (λq hq=>?_) (.cons hp hs');rcases mem_cons.1 hq with rfl | hq
   ·exact h1
   ·exact Int.lt_trans h1 (hp q hq)
  ·rw [if_neg h1];by_cases h2:k=pk
   ·rw [if_pos h2];exact .cons (λq hq=>by rw [h2];exact hp q hq) hs'
   ·rw [if_neg h2];refine .cons (λq hq=>?_) ih;obtain ⟨a,b⟩:=q;rcases (yI hs' k v a b).1 hq with ⟨rfl,_⟩ | ⟨_,hm⟩
    ·show pk<a;omega
    ·exact hp _ hm
theorem qug {L:List (Int×V)} (hs:Srt L) (k:Int):Srt (delL L k):=hs.filter _
theorem qij {L:List (Int×V)} (k a:Int) (b:V):(a,b)∈delL L k↔a≠k/\(a,b)∈L:=by
 simp [delL,and_comm]
def qrr (E:List (Ent V)) (i:Nat) (v:V):List (Ent V):=E.modify i λe=>{ e with v:=v }
theorem q16 {k:Int} {v v0:V}:∀{E:List (Ent V)} {i:Nat},E.Pairwise (λx y=>x.k≠y.k)->Y7 E k=some (i,v0)->∀a b,(a,b)∈vi (qrr E i v)↔(a=k/\b=v)\/(a≠k/\(a,b)∈vi E)
 | e::r,i,hp,h,a,b=>by
  rw [Y7] at h;cases hp with
  | cons hpe hpr =>
  by_cases hk:k=e.k
  ·rw [if_pos hk] at h;cases h;show (a,b)∈(e.k,v)::vi r↔_\/(_/\(a,b)∈(e.k,e.v)::vi r);simp only [mem_cons,Prod.mk.injEq];have hne:∀{a b},(a,b)∈vi r->a≠k:=λ{a b} hm e'=>by
    obtain ⟨x,hx,ex⟩:=mem_map.1 hm;have:=congrArg Prod.fst ex;exact hpe x hx (by rw [<-hk,<-e'];exact this.symm)
   constructor
   ·rintro (⟨h1,h2⟩ | h)
    ·exact .inl ⟨by omega,h2⟩
    ·exact .inr ⟨hne h,.inr h⟩
   ·rintro (⟨h1,h2⟩ | ⟨h1,⟨h2,_⟩ | h⟩)
    ·exact .inl ⟨by omega,h2⟩
    ·omega
    ·exact .inr h
  ·rw [if_neg hk] at h;obtain ⟨p,hp',e'⟩:=map_eq_some_iff.1 h;cases e';have ih:=q16 (E:=r) (i:=p.1) hpr (by rw [hp']) a b (v:=v) (k:=k);show (a,b)∈(e.k,e.v)::vi (qrr r p.1 v)↔_\/(_/\(a,b)∈(e.k,e.v)::vi r);simp only [mem_cons,Prod.mk.injEq,ih];constructor
   ·rintro (⟨h1,h2⟩ | h | ⟨h1,h2⟩)
    ·exact .inr ⟨by omega,.inl ⟨h1,h2⟩⟩
    ·exact .inl h
    ·exact .inr ⟨h1,.inr h2⟩
   ·rintro (h | ⟨h1,h | h⟩)
    ·exact .inr (.inl h)
    ·exact .inl h
    ·exact .inr (.inr ⟨h1,h⟩)
theorem qwn {k:Int} {v0:V}:∀{E:List (Ent V)} {i:Nat},E.Pairwise (λx y=>x.k≠y.k)->Y7 E k=some (i,v0)->E.eraseIdx i=E.filter λe=>e.k !=k
 | e::r,i,hp,h=>by
  rw [Y7] at h;cases hp with
  | cons hpe hpr =>
  by_cases hk:k=e.k
  ·rw [if_pos hk] at h;cases h;rw [List.eraseIdx_cons_zero,List.filter_cons,if_neg (by simp [hk])];refine (List.filter_eq_self.2 λx hx=>?_).symm;have:=hpe x hx;simp only [bne_iff_ne,ne_eq];rw [hk];exact λe=>this e.symm
  ·rw [if_neg hk] at h;obtain ⟨p,hp',e'⟩:=map_eq_some_iff.1 h;cases e';rw [List.eraseIdx_cons_succ,List.filter_cons,if_pos (by simpa using λe=>hk e.symm),qwn (E:=r) (i:=p.1) hpr (by rw [hp'])]
theorem q05 {k:Int} {E:List (Ent V)} (h:Y7 E k=none):E.filter (λe=>e.k !=k)=E:=List.filter_eq_self.2 λx hx=>by simpa using qjg h x hx
section
variable {P:Program} {t kt et:TypeId} {w:World} {r:Nat} {E:List (Ent V)} {clock:Nat}
theorem k7 (hk:P.underlying kt=some (.int .i64)) (b:Bool) (k:Int):(Instr.checkKey b 10000 kt (Ua k)).run P w=.ok () w:=by
 show (Instr.checkKey b (9999+1) kt (Ua k)).run P w=_;rw [Instr.checkKey];simp only [Sem.run_bind,run_underlying hk,Result.andThen_ok,Sem.run_pure]
theorem xE {es:Array MapEntry} (h:w.heap[r]?=some (.map es clock)):(getObj r).run P w=.ok (.map es clock) w:=by simp [getObj,Sem.run,h]
theorem qew {es:Array MapEntry} (o:Obj) (h:w.heap[r]?=some (.map es clock)):(setObj r o).run P w=.ok () (qzx w r o):=by simp [setObj,Sem.run,h,qzx]
theorem qaq (hk:P.underlying kt=some (.int .i64)) (k:Int):(Instr.findKey kt (Ua k) (E.map (Ent.val enc))).run P w=.ok ((Y7 E k).map λp=>(p.1,enc p.2)) w:=by
 have:=qp0 (enc:=enc) k E 0;simp only [Nat.zero_add] at this;simp [Instr.findKey,run_underlying hk,this]
theorem MapE.lookup (h:MapE enc w r E clock) (ht:P.underlying t=some (.map kt et)) (hk:P.underlying kt=some (.int .i64)) {z:Value} (hz:∀w,(zeroValue et).run P w=.ok z w) (k:Int) :
  (Instr.lookup t (.map (some r)) (Ua k) false).run P w=.ok (((Y7 E k).map λp=>enc p.2).getD z) w:=by
 have hf:=qaq (P:=P) (kt:=kt) (w:=w) (enc:=enc) (E:=E) hk k;cases hi:Y7 E k with
 | none =>
  rw [hi] at hf;simp [Instr.lookup,run_underlying ht,xE h.heap,k7 hk,hf,hz]
 | some p =>
  rw [hi] at hf;simp [Instr.lookup,run_underlying ht,xE h.heap,k7 hk,hf]
theorem MapE.lookup_ok (h:MapE enc w r E clock) (ht:P.underlying t=some (.map kt et)) (hk:P.underlying kt=some (.int .i64)) {z:Value} (hz:∀w,(zeroValue et).run P w=.ok z w) (k:Int) :
  (Instr.lookup t (.map (some r)) (Ua k) true).run P w=.ok (.tuple #[((Y7 E k).map λp=>enc p.2).getD z,.bool (Y7 E k).isSome]) w:=by
 have hf:=qaq (P:=P) (kt:=kt) (w:=w) (enc:=enc) (E:=E) hk k;cases hi:Y7 E k with
 | none =>
  rw [hi] at hf;simp [Instr.lookup,run_underlying ht,xE h.heap,k7 hk,hf,hz]
 | some p =>
  rw [hi] at hf;simp [Instr.lookup,run_underlying ht,xE h.heap,k7 hk,hf]
end
end
section
variable {V:Type} {enc:V->Value} {P:Program} {t kt et:TypeId} {w:World} {r:Nat} {L:List (Int×V)}
theorem qo5 {E:List (Ent V)} (hp:(vi E).Perm L):E.length=L.length:=by rw [<-hp.length_eq];simp [vi]
theorem zG.lookup (h:zG enc w r L) (ht:P.underlying t=some (.map kt et)) (hk:P.underlying kt=some (.int .i64)) {z:Value} (hz:∀w,(zeroValue et).run P w=.ok z w) (k:Int) :
  (Instr.lookup t (.map (some r)) (Ua k) false).run P w=.ok (((zt L k).map enc).getD z) w:=by
 obtain ⟨E,c,hE,hp,hs⟩:=h;rw [hE.lookup ht hk hz k,<-qv4 hp hs k];simp only [Option.map_map];rfl
theorem zG.lookup_ok (h:zG enc w r L) (ht:P.underlying t=some (.map kt et)) (hk:P.underlying kt=some (.int .i64)) {z:Value} (hz:∀w,(zeroValue et).run P w=.ok z w) (k:Int) :
  (Instr.lookup t (.map (some r)) (Ua k) true).run P w=.ok (.tuple #[((zt L k).map enc).getD z,.bool (zt L k).isSome]) w:=by
 obtain ⟨E,c,hE,hp,hs⟩:=h;rw [hE.lookup_ok ht hk hz k,<-qv4 hp hs k];simp only [Option.map_map,Option.isSome_map];rfl
theorem zG.srt (h:zG enc w r L):Srt L:=by obtain ⟨_,_,_,_,hs⟩:=h;exact hs
theorem zG.update (h:zG enc w r L) (ht:P.underlying t=some (.map kt et)) (hk:P.underlying kt=some (.int .i64)) {k:Int} (hk1:-9223372036854775808<=k/\k<=9223372036854775807) (v:V) :
  ∃w',(Instr.mapUpdate t (.map (some r)) (Ua k) (enc v)).run P w=.ok () w'/\zG enc w' r (ko L k v)/\Chg (λk=>k=r) w w'/\w'.heap.size=w.heap.size:=by
 obtain ⟨E,c,hE,hp,hs⟩:=h;have hf:=qaq (P:=P) (kt:=kt) (w:=w) (enc:=enc) (E:=E) hk k;have hkeys:∀{E':List (Ent V)},(∀a b,(a,b)∈vi E'↔(a=k/\b=v)\/(a≠k/\(a,b)∈vi E))->(E'.Pairwise λx y=>x.k≠y.k)->(vi E').Perm (ko L k v):=λ{E'} hm hk' =>
  (List.perm_ext_iff_of_nodup (qzi hk') (qc8 hs k v).nodup).2 λp=>by
   obtain ⟨a,b⟩:=p;rw [hm a b,yI hs k v a b,hp.mem_iff]
 cases hi:Y7 E k with
 | none =>
  rw [hi] at hf;have hno:=qjg hi;refine ⟨qzx w r (.map ((E++[(⟨k,v,c⟩:Ent V)]).map (Ent.val enc)).toArray (c+1)),?_,⟨E++[(⟨k,v,c⟩:Ent V)],c+1,⟨qpl _ hE.lt_heap,?_,?_,?_,?_⟩,hkeys (λa b=>?_) ?_,qc8 hs k v⟩,qn9 _ _ _,qjf _ _ _⟩
  ·have hpush:(E.map (Ent.val enc)).toArray.push { key:=.int .i64 k,val:=enc v,born:=c }=((E++[(⟨k,v,c⟩:Ent V)]).map (Ent.val enc)).toArray:=by simp [Ent.val]
   rw [<-hpush];simp [Instr.mapUpdate,run_underlying ht,xE hE.heap,k7 hk,hf,qew _ hE.heap]
  ·refine List.pairwise_append.2 ⟨hE.keys,List.pairwise_singleton _ _,λx hx y hy=>?_⟩;rw [mem_singleton] at hy;subst hy;exact hno x hx
  ·refine List.pairwise_append.2 ⟨hE.stamps,List.pairwise_singleton _ _,λx hx y hy=>?_⟩;rw [mem_singleton] at hy;subst hy;exact hE.lt x hx
  ·intro e he;rcases mem_append.1 he with he | he
   ·have:=hE.lt e he;omega
   ·rw [mem_singleton] at he;subst he;exact Nat.lt_succ_self _
  ·intro e he;rcases mem_append.1 he with he | he
   ·exact hE.wf e he
   ·rw [mem_singleton] at he;subst he;exact hk1
  ·have e1:vi (E++[(⟨k,v,c⟩:Ent V)])=vi E++[(k,v)]:=by simp [vi]
   rw [e1,mem_append,mem_singleton,Prod.mk.injEq];constructor
   ·rintro (h | h)
    ·refine .inr ⟨λe=>?_,h⟩;obtain ⟨x,hx,ex⟩:=mem_map.1 h;exact hno x hx (by rw [<-e];exact congrArg Prod.fst ex)
    ·exact .inl h
   ·rintro (h | ⟨_,h⟩)
    ·exact .inr h
    ·exact .inl h
  ·refine List.pairwise_append.2 ⟨hE.keys,List.pairwise_singleton _ _,λx hx y hy=>?_⟩;rw [mem_singleton] at hy;subst hy;exact hno x hx
 | some p =>
  obtain ⟨i,v0⟩:=p;rw [hi] at hf;obtain ⟨e,he,hek,hev⟩:=qou hi;have hil:i<E.length:=(List.getElem?_eq_some_iff.1 he).1;have hm:=q16 (v:=v) hE.keys hi;have hmod:∀{Q:Ent V->Prop},(∀x∈E,Q x->Q { x with v:=v })->(∀x∈E,Q x)->∀x∈qrr E i v,Q x:=λ{Q} h1 h2 x hx=>by
   unfold qrr at hx;obtain ⟨j,hj⟩:=List.getElem?_of_mem hx;rw [List.getElem?_modify] at hj;obtain ⟨y,hy,hxy⟩:=map_eq_some_iff.1 hj;have hym:=List.mem_of_getElem? hy;by_cases hij:i=j
   ·rw [if_pos hij] at hxy;rw [<-hxy];exact h1 y hym (h2 y hym)
   ·rw [if_neg hij] at hxy;rw [<-hxy];exact h2 y hym
  have hmap:∀{A:Type} (f:Ent V->A),(∀x,f { x with v:=v }=f x)->(qrr E i v).map f=E.map f:=λ{A} f hf'=>by
   refine List.ext_getElem? λj=>?_;unfold qrr;rw [List.getElem?_map,List.getElem?_modify,List.getElem?_map];cases E[j]? with
   | none=>rfl
   | some x =>
    show some (f (if i=j then { x with v:=v } else x))=some (f x);by_cases hij:i=j
    ·rw [if_pos hij,hf' x]
    ·rw [if_neg hij]
  have hks:(qrr E i v).Pairwise λx y=>x.k≠y.k:=by
   have h1:=hE.keys;rw [<-List.pairwise_map (f:=λe:Ent V=>e.k) (R:=λa b=>a≠b)] at h1 ⊢
   rwa [hmap (λe=>e.k) (λ_=>rfl)]
  have hst:(qrr E i v).Pairwise λx y=>x.b<y.b:=by
   have h1:=hE.stamps;rw [<-List.pairwise_map (f:=λe:Ent V=>e.b) (R:=λa b=>a<b)] at h1 ⊢
   rwa [hmap (λe=>e.b) (λ_=>rfl)]
  have harr:(E.map (Ent.val enc)).toArray.modify i (λx=>{ x with key:=.int .i64 k,val:=enc v })=((qrr E i v).map (Ent.val enc)).toArray:=by
   apply Array.ext';refine List.ext_getElem? λj=>?_;rw [Array.getElem?_toList,Array.getElem?_modify];unfold qrr;rw [List.getElem?_toArray,List.getElem?_map,List.getElem?_map,List.getElem?_modify];by_cases hij:i=j
   ·subst hij;rw [if_pos rfl,he];show some _=some (Ent.val enc (if i=i then { e with v:=v } else e));rw [if_pos rfl];simp [Ent.val,hek]
   ·rw [if_neg hij];cases E[j]? with
    | none=>rfl
    | some x=>show some (Ent.val enc x)=some (Ent.val enc (if i=j then { x with v:=v } else x));rw [if_neg hij]
  refine ⟨qzx w r (.map ((qrr E i v).map (Ent.val enc)).toArray c),?_,⟨qrr E i v,c,⟨qpl _ hE.lt_heap,hks,hst,hmod (Q:=λe=>e.b<c) (λ_ _ h=>h) hE.lt,hmod (Q:=λe=>-9223372036854775808<=e.k/\e.k<=9223372036854775807) (λ_ _ h=>h) hE.wf⟩,hkeys hm hks,qc8 hs k v⟩,qn9 _ _ _,qjf _ _ _⟩;have hold:((((E.map (Ent.val enc)).toArray[i]?).map (·.key)).getD (Ua k))=.int .i64 k:=by
   rw [List.getElem?_toArray,List.getElem?_map,he];show Value.int .i64 e.k=_;rw [hek]
  have hstay:(Instr.keyThatStays (Ua k) (Ua k)).run P w=.ok (Ua k) w:=by
   unfold Instr.keyThatStays;have:Instr.sameBits 10000 (Ua k) (Ua k)=true:=by
    show Instr.sameBits (9999+1) (Ua k) (Ua k)=true;rw [Instr.sameBits];simp
   rw [if_pos this];rfl
  rw [<-harr];unfold Instr.mapUpdate;simp only [Sem.run_bind,run_underlying ht,Result.andThen_ok,xE hE.heap,k7 hk,hf,hold,hstay,Option.map_some];exact qew _ hE.heap
theorem qkv {A B:Type} (f:A->B):∀(l:List A) (i:Nat),(l.map f).eraseIdx i=(l.eraseIdx i).map f
 | [],_=>rfl
 | _::_,0=>rfl
 | a::l,i+1=>by simp [List.eraseIdx,qkv f l i]
theorem zG.delete (h:zG enc w r L) (ht:P.underlying t=some (.map kt et)) (hk:P.underlying kt=some (.int .i64)) (k:Int) (ty:TypeId) :
  ∃w',(delete_ #[t,kt] ty #[.map (some r),.int .i64 k]).run P w=.ok (.tuple #[]) w'/\zG enc w' r (delL L k)/\Chg (λk=>k=r) w w'/\w'.heap.size=w.heap.size:=by
 obtain ⟨E,c,hE,hp,hs⟩:=h;have hf:=qaq (P:=P) (kt:=kt) (w:=w) (enc:=enc) (E:=E) hk k;have hfil:zG enc (qzx w r (.map ((E.filter λe=>e.k !=k).map (Ent.val enc)).toArray c)) r (delL L k):=by
  refine ⟨E.filter λe=>e.k !=k,c,⟨qpl _ hE.lt_heap,hE.keys.filter _,hE.stamps.filter _,λe he=>hE.lt e ((List.mem_filter.1 he).1),λe he=>hE.wf e ((List.mem_filter.1 he).1)⟩,?_,qug hs k⟩;have e1:vi (E.filter λe=>e.k !=k)=(vi E).filter λp=>p.1 !=k:=by
   unfold vi;rw [List.filter_map];rfl
  rw [e1];exact hp.filter _
 cases hi:Y7 E k with
 | none =>
  rw [hi] at hf;rw [q05 hi] at hfil;refine ⟨_,?_,hfil,qn9 _ _ _,qjf _ _ _⟩;simp [delete_,run_underlying ht,xE hE.heap,k7 hk,hf,qew _ hE.heap]
 | some p =>
  obtain ⟨i,v0⟩:=p;rw [hi] at hf;rw [<-qwn hE.keys hi] at hfil;refine ⟨_,?_,hfil,qn9 _ _ _,qjf _ _ _⟩;have harr:(E.map (Ent.val enc)).toArray.eraseIdxIfInBounds i=((E.eraseIdx i).map (Ent.val enc)).toArray:=by
   simp [qkv]
  rw [<-harr];simp [delete_,run_underlying ht,xE hE.heap,k7 hk,hf,qew _ hE.heap]
theorem zG.len (h:zG enc w r L) (ht:P.underlying t=some (.map kt et)) (ty:TypeId):(Builtin.len_ #[t] ty #[.map (some r)]).run P w=.ok (Ua (L.length:Int)) w:=by
 obtain ⟨E,c,hE,hp,hs⟩:=h;rw [<-qo5 hp];simp [Builtin.len_,run_underlying ht,xE hE.heap]
 try rfl
end
end Go.Vc
set_option maxRecDepth 100000
namespace Go.Proofs
open Go.RowKit Go.Maps Go.Sort Go.Shelf Go.Vc
open _root_.List (map_map)
def Tryz.keysA_ren:Go.Shelf.Ren:=⟨λ| 7=>30 | 10=>66 | n=>n,λ| 23=>77 | 26=>3 | 3=>79 | 28=>75 | 0=>0 | 27=>74 | 33=>136 | 4=>4 | n=>n,λ| n=>n⟩
theorem Tryz.keysA:Go.Proofs.SlLaysZI.n7 Tryz.prog Tryz.keysA_ren:={
 mixed:=by kernel_rfl
 f7:=⟨Tryz.f30.name,by decide,Tryz.func30.trans (congrArg some (by kernel_rfl))⟩
 f10:=⟨Tryz.f66.name,by decide,Tryz.func66.trans (congrArg some (by kernel_rfl))⟩
 t0:=Tryz.underlying0
 a0:=Tryz.isAgg0
 z0:=Tryz.sizeOf0
 v0:=Tryz.zeroValue0
 t4:=Tryz.underlying4
 a4:=Tryz.isAgg4
 z4:=Tryz.sizeOf4
 v4:=Tryz.zeroValue4
 t23:=Tryz.underlying77
 a23:=Tryz.isAgg77
 z23:=Tryz.sizeOf77
 v23:=Tryz.zeroValue77
 t26:=Tryz.underlying3
 a26:=Tryz.isAgg3
 z26:=Tryz.sizeOf3
 v26:=Tryz.zeroValue3
 t27:=Tryz.underlying74
 a27:=Tryz.isAgg74
 z27:=Tryz.sizeOf74
 v27:=Tryz.zeroValue74
 t28:=Tryz.underlying75
 a28:=Tryz.isAgg75
 z28:=Tryz.sizeOf75
 v28:=Tryz.zeroValue75
 t33:=Tryz.underlying136
 a33:=Tryz.isAgg136
 z33:=Tryz.sizeOf136
 v33:=Tryz.zeroValue136 }
def Tryz.sortedA_ren:Go.Shelf.Ren:=⟨λ| 6=>29 | 8=>64 | 9=>65 | 11=>120 | 13=>122 | 12=>121 | 23=>199 | 24=>200 | 14=>190 | 15=>191 | 16=>192 | 17=>193 | 18=>194 | 19=>195 | 20=>196 | 21=>197 | 22=>198 | 25=>284 | 26=>285 | 27=>286 | 28=>287 | 29=>288 | 30=>289 | 31=>349 | n=>n,λ| 26=>3 | 28=>75 | 24=>22 | 0=>0 | 3=>3 | 37=>129 | 48=>128 | 50=>285 | 4=>4 | 40=>277 | 39=>276 | 45=>281 | 5=>5 | 9=>9 | 51=>330 | 55=>334 | 57=>379 | 58=>223 | 33=>136 | n=>n,λ| n=>n⟩
theorem Tryz.sortedA:Go.Proofs.SlLaysZI.n6 Tryz.prog Tryz.sortedA_ren:={
 mixed:=by kernel_rfl
 f6:=⟨Tryz.f29.name,by decide,Tryz.func29.trans (congrArg some (by kernel_rfl))⟩
 f8:=⟨Tryz.f64.name,by decide,Tryz.func64.trans (congrArg some (by kernel_rfl))⟩
 f11:=⟨Tryz.f120.name,by decide,Tryz.func120.trans (congrArg some (by kernel_rfl))⟩
 t0:=Tryz.underlying0
 a0:=Tryz.isAgg0
 z0:=Tryz.sizeOf0
 v0:=Tryz.zeroValue0
 t24:=Tryz.underlying22
 a24:=Tryz.isAgg22
 z24:=Tryz.sizeOf22
 v24:=Tryz.zeroValue22
 t26:=Tryz.underlying3
 a26:=Tryz.isAgg3
 z26:=Tryz.sizeOf3
 v26:=Tryz.zeroValue3
 t28:=Tryz.underlying75
 a28:=Tryz.isAgg75
 z28:=Tryz.sizeOf75
 v28:=Tryz.zeroValue75
 i26:=by kernel_rfl }
def Tryz.sortA_ren:Go.Shelf.Ren:=⟨λ| 5=>65 | 8=>122 | 7=>121 | 19=>199 | 20=>200 | 10=>190 | 11=>191 | 12=>192 | 13=>193 | 14=>194 | 15=>195 | 16=>196 | 17=>197 | 18=>198 | 30=>284 | 31=>285 | 32=>286 | 33=>287 | 34=>288 | 35=>289 | 40=>349 | n=>n,λ| 23=>22 | 25=>3 | 3=>3 | 32=>129 | 22=>22 | 0=>0 | 44=>128 | 46=>285 | 4=>4 | 36=>277 | 35=>276 | 41=>281 | 5=>5 | 9=>9 | 53=>330 | 57=>334 | 63=>379 | 64=>223 | n=>n,λ| n=>n⟩
theorem Tryz.sortA:Go.Proofs.SlLaysM.n5 Tryz.prog Tryz.sortA_ren:={
 mixed:=by kernel_rfl
 f5:=⟨Tryz.f65.name,by decide,Tryz.func65.trans (congrArg some (by kernel_rfl))⟩
 f7:=⟨Tryz.f121.name,by decide,Tryz.func121.trans (congrArg some (by kernel_rfl))⟩
 f8:=Tryz.func122.trans (congrArg some (by kernel_rfl))
 f10:=⟨Tryz.f190.name,by decide,Tryz.func190.trans (congrArg some (by kernel_rfl))⟩
 f11:=⟨Tryz.f191.name,by decide,Tryz.func191.trans (congrArg some (by kernel_rfl))⟩
 f12:=⟨Tryz.f192.name,by decide,Tryz.func192.trans (congrArg some (by kernel_rfl))⟩
 f13:=⟨Tryz.f193.name,by decide,Tryz.func193.trans (congrArg some (by kernel_rfl))⟩
 f14:=⟨Tryz.f194.name,by decide,Tryz.func194.trans (congrArg some (by kernel_rfl))⟩
 f15:=⟨Tryz.f195.name,by decide,Tryz.func195.trans (congrArg some (by kernel_rfl))⟩
 f16:=⟨Tryz.f196.name,by decide,Tryz.func196.trans (congrArg some (by kernel_rfl))⟩
 f17:=⟨Tryz.f197.name,by decide,Tryz.func197.trans (congrArg some (by kernel_rfl))⟩
 f18:=⟨Tryz.f198.name,by decide,Tryz.func198.trans (congrArg some (by kernel_rfl))⟩
 f19:=Tryz.func199.trans (congrArg some (by kernel_rfl))
 f20:=Tryz.func200.trans (congrArg some (by kernel_rfl))
 f30:=⟨Tryz.f284.name,by decide,Tryz.func284.trans (congrArg some (by kernel_rfl))⟩
 f31:=Tryz.func285.trans (congrArg some (by kernel_rfl))
 f32:=Tryz.func286.trans (congrArg some (by kernel_rfl))
 f33:=⟨Tryz.f287.name,by decide,Tryz.func287.trans (congrArg some (by kernel_rfl))⟩
 f34:=⟨Tryz.f288.name,by decide,Tryz.func288.trans (congrArg some (by kernel_rfl))⟩
 f35:=⟨Tryz.f289.name,by decide,Tryz.func289.trans (congrArg some (by kernel_rfl))⟩
 f40:=⟨Tryz.f349.name,by decide,Tryz.func349.trans (congrArg some (by kernel_rfl))⟩
 t0:=Tryz.underlying0
 a0:=Tryz.isAgg0
 z0:=Tryz.sizeOf0
 v0:=Tryz.zeroValue0
 t3:=Tryz.underlying3
 a3:=Tryz.isAgg3
 z3:=Tryz.sizeOf3
 v3:=Tryz.zeroValue3
 t4:=Tryz.underlying4
 a4:=Tryz.isAgg4
 z4:=Tryz.sizeOf4
 v4:=Tryz.zeroValue4
 t5:=Tryz.underlying5
 a5:=Tryz.isAgg5
 z5:=Tryz.sizeOf5
 v5:=Tryz.zeroValue5
 t9:=Tryz.underlying9
 a9:=Tryz.isAgg9
 z9:=Tryz.sizeOf9
 v9:=Tryz.zeroValue9
 t22:=Tryz.underlying22
 a22:=Tryz.isAgg22
 z22:=Tryz.sizeOf22
 v22:=Tryz.zeroValue22
 t23:=Tryz.underlying22
 a23:=Tryz.isAgg22
 z23:=Tryz.sizeOf22
 v23:=Tryz.zeroValue22
 t25:=Tryz.underlying3
 a25:=Tryz.isAgg3
 z25:=Tryz.sizeOf3
 v25:=Tryz.zeroValue3
 t32:=Tryz.underlying129
 a32:=Tryz.isAgg129
 z32:=Tryz.sizeOf129
 v32:=Tryz.zeroValue129
 t35:=Tryz.underlying276
 a35:=Tryz.isAgg276
 z35:=Tryz.sizeOf276
 v35:=Tryz.zeroValue276
 t36:=Tryz.underlying277
 a36:=Tryz.isAgg277
 z36:=Tryz.sizeOf277
 v36:=Tryz.zeroValue277
 t41:=Tryz.underlying281
 a41:=Tryz.isAgg281
 z41:=Tryz.sizeOf281
 v41:=Tryz.zeroValue281
 t44:=Tryz.underlying128
 a44:=Tryz.isAgg128
 z44:=Tryz.sizeOf128
 v44:=Tryz.zeroValue128
 t46:=Tryz.underlying285
 a46:=Tryz.isAgg285
 z46:=Tryz.sizeOf285
 v46:=Tryz.zeroValue285
 t53:=Tryz.underlying330
 a53:=Tryz.isAgg330
 z53:=Tryz.sizeOf330
 v53:=Tryz.zeroValue330
 t57:=Tryz.underlying334
 a57:=Tryz.isAgg334
 z57:=Tryz.sizeOf334
 v57:=Tryz.zeroValue334
 t63:=Tryz.underlying379
 a63:=Tryz.isAgg379
 z63:=Tryz.sizeOf379
 v63:=Tryz.zeroValue379
 t64:=Tryz.underlying223
 a64:=Tryz.isAgg223
 z64:=Tryz.sizeOf223
 v64:=Tryz.zeroValue223 }
theorem Tryz.sortsA (m:Nat):AnyZI.SortsIn Tryz.prog Tryz.sortedA_ren Fence.wide m :=
 ⟨λblk off cap ss W hH hblk hsz=>callsIn_wide.2 (AnyM.slices_Sort_int Tryz.sortA blk off cap ss W hH hblk hsz),
  λp cap W=>callsIn_wide.2 (AnyM.slices_Sort_int_none Tryz.sortA p cap W)⟩
namespace YtokfefnmpjohpaaGreatDoor
section
variable {V:Type} {enc:V->Value} {w:World} {r:Nat} {L:List (Int×V)}
def qx2:Value->Option (DataW Unit×List MemPlace):=λ_=>some (.nil,[])
theorem zbc {c:Nat} {E:List (Ent V)} (hE:MapE enc w r E c) {e:Ent V} (he:e∈E):WideElems.rd Tryz.prog 3 qx2 (Ent.val enc e)=some (.int .i64 e.k,.nil):=by
 have h1:=keyOf_int_mk (P:=Tryz.prog) (k:=3) (q:=.i64) Tryz.underlying3 (a:=e.k) (by
  have:=hE.wf e he;simp [Lit.wf,IntKind.min,IntKind.max,IntKind.signed,IntKind.bits];omega)
 unfold WideElems.rd;show (keyOf Tryz.prog 3 (.int .i64 e.k)).bind _=_;rw [h1];rfl
theorem q5s {c:Nat} {E:List (Ent V)} (hE:MapE enc w r E c) (hl:E.length<=maxLen) :
  ∃D0:DataW Unit,w.ownsMap Tryz.prog 3 qx2 r E.length D0/\Maps.size D0=E.length/\(intKeys D0).Perm (E.map (·.k)):=by
 have hmap:(E.map (Ent.val enc)).map (WideElems.rg Tryz.prog 3 qx2)=E.map λe=>(Lit.int .i64 e.k,(.nil:DataW Unit)):=by
  rw [map_map];refine List.map_congr_left λe he=>?_;show (WideElems.rd Tryz.prog 3 qx2 (Ent.val enc e)).getD _=_;rw [zbc hE he];rfl
 refine ⟨_,⟨_,c,hE.heap,⟨by simpa using hl,⟨?_,?_,?_⟩,?_⟩,by simp,rfl⟩,?_,?_⟩
 ·intro x hx;obtain ⟨e,he,rfl⟩:=List.mem_map.1 hx;exact hE.lt e he
 ·rw [List.toList_toArray,map_map];exact List.pairwise_map.2 (hE.stamps.imp λ{a b} h (e:a.b=b.b)=>by rw [e] at h;exact Nat.lt_irrefl _ h)
 ·rw [List.toList_toArray,map_map];exact List.pairwise_map.2 (hE.keys.imp λ{a b} h (e:Value.int .i64 a.k=.int .i64 b.k)=>h (by injection e))
 ·intro x hx;obtain ⟨e,he,rfl⟩:=List.mem_map.1 hx;exact ⟨_,zbc hE he⟩
 ·show (List.foldr DataW.insert [] _).length=_;rw [List.toList_toArray,hmap,(Go.WideShapes.sorted_perm _).length_eq,List.length_map]
 ·show (List.map (λp:Lit×DataW Unit=>Go.intOf p.fst) (List.foldr DataW.insert [] _)).Perm _;rw [List.toList_toArray,hmap];refine ((Go.WideShapes.sorted_perm _).map _).trans ?_;rw [map_map];exact .refl _
theorem qw4 (hM:zG enc w r L) (hl:L.length<=maxLen) {B:Nat} (hB:w.cell? ⟨B,0,none⟩=some (.map (some r))) (n:Nat) (hn:1<=n) :
  SeqGives Fence.wide n Tryz.prog 66 #[.pointer (some ⟨B,0,none⟩)] encZ (λss=>ss.Perm (L.map (·.1))) L.length w:=by
 obtain ⟨E,c,hE,hp,hs⟩:=hM;have hlen:=qo5 hp;obtain ⟨D0,hD,hsz,hpk⟩:=q5s hE (by omega);have hBl:B<w.heap.size:=by
  unfold World.cell? at hB;cases h:w.heap[B]? with
  | none=>rw [h] at hB;cases hB
  | some o=>exact (Array.getElem?_eq_some_iff.1 h).1
 have h:=AnyZI.keys_gives (ρ:=Tryz.keysA_ren) { Tryz.keysA with } Fence.wide n trivial rfl hn B r E.length D0 w hBl hB hD;rw [hsz,hlen] at h;have hpp:(E.map (·.k)).Perm (L.map (·.1)):=by
  have:=hp.map (·.1);unfold vi at this
  rwa [map_map] at this
 intro l J W hW hJ hY h0;refine (h l J W hW hJ hY h0).mono ?_;rintro e W' ⟨hv,xs,hxs,hJx⟩;exact ⟨hv,xs,(hxs.trans hpk).trans hpp,hJx⟩
theorem qwx {m:Option Nat} {w:World} {K:Value->Ub}
  (hK:K (.func (.func 66) #[] #[.pointer (some ⟨w.heap.size,0,none⟩)]) (w.alloc (.cells #[.map m] 77))):zE m w K:=by
 have h:=callsIn_wide.1 (AnyZI.keys_in Tryz.keysA Fence.wide 5 trivial rfl m w);refine Calls.mono (R:=λe w'=>e=.returned (.func (.func 66) #[] #[.pointer (some ⟨w.heap.size,0,none⟩)])/\w'=w.alloc (.cells #[.map m] 77)) h ?_;rintro e w' ⟨rfl,rfl⟩;exact ⟨_,rfl,hK⟩
theorem q1y {ss:List Int} (hs:Srt L) (hp:ss.Perm (L.map (·.1))):ss.mergeSort (λx y=>decide (x<=y))=L.map (·.1):=by
 have h1:(ss.mergeSort λx y=>decide (x<=y)).Pairwise λx y=>x<=y:=by
  have:=List.pairwise_mergeSort (le:=λx y:Int=>decide (x<=y)) (λa b c h1 h2=>by simp only [decide_eq_true_eq] at *;omega) (λa b=>by simp only [Bool.or_eq_true,decide_eq_true_eq];omega) ss;exact this.imp λh=>by simpa using h
 have h2:(L.map (·.1)).Pairwise λx y=>x<=y:=List.pairwise_map.2 (hs.imp λh=>Int.le_of_lt h);exact ((List.mergeSort_perm ss _).trans hp).eq_of_pairwise (λa b _ _ h1 h2=>Int.le_antisymm h1 h2) h1 h2
theorem q0t:∀xs:List Int,QD zX xs=xs.map encZ
 | []=>rfl
 | x::xs=>by
  have ih:=q0t xs;unfold QD at ih ⊢;rw [List.flatMap_cons,ih,List.map_cons];rfl
theorem qld {w:World} {base:Nat} {v:Value} {xs:List Int} (h:w.ownsRow base 3 1 v xs.length (xs.map encZ)):∃q:Slc,v=.slice q.a q.n q.c/\Go.Vc.Own zX w base q xs:=by
 have hf:=q0t xs;have hv:∃q:Slc,v=.slice q.a q.n q.c:=by
  rcases h.2 with ⟨rfl,_⟩ | ⟨g,cap,cur,rfl,_⟩
  ·exact ⟨⟨none,0,0⟩,rfl⟩
  ·exact ⟨⟨_,_,_⟩,rfl⟩
 obtain ⟨q,rfl⟩:=hv;refine ⟨q,rfl,?_⟩;unfold Go.Vc.Own;rw [hf];exact h
theorem qzw {B:Nat} {K:Slc->Ub} (hM:zG enc w r L) (hl:L.length<=1000000) (hB:w.cell? ⟨B,0,none⟩=some (.map (some r)))
  (hK:∀q w',Go.Vc.Own zX w' w.heap.size q (L.map (·.1))->Uc w w'->K q w'):kO (.func (.func 66) #[] #[.pointer (some ⟨B,0,none⟩)]) w K:=by
 have h:=callsIn_wide.1 (AnyZI.sorted_in Tryz.sortedA Fence.wide 5 trivial trivial trivial trivial rfl (by omega) (Tryz.sortsA _) (enters_of Tryz.func65 (by kernel_rfl) rfl) 66 #[.pointer (some ⟨B,0,none⟩)] trivial (enters_of Tryz.func66 (by kernel_rfl) rfl) _ L.length (by unfold maxLen;omega) (by omega) w (qw4 hM (by unfold maxLen;omega) hB 2 (by omega)));refine Calls.mono h ?_;rintro e w' ⟨v,ss,rfl,hS,hrow,_,hb⟩;rw [q1y hM.srt hS] at hrow;rw [show ss.length=(L.map (·.1)).length from hS.length_eq] at hrow;obtain ⟨q,rfl,hq⟩:=qld hrow;exact ⟨q,rfl,hK q w' hq hb⟩
theorem qxy {B:Nat} {K:Slc->Ub} (hM:zG enc w r L) (hl:L.length<=1000000) (hB:w.cell? ⟨B,0,none⟩=some (.map (some r)))
  (hK:∀q w' ss,ss.Perm (L.map (·.1))->Go.Vc.Own zX w' w.heap.size q ss->Uc w w'->K q w'):XQ (.func (.func 66) #[] #[.pointer (some ⟨B,0,none⟩)]) w K:=by
 have h:=callsIn_wide.1 (AnyZI.collect_in (ρ:=Tryz.sortedA_ren) { Tryz.sortedA with } Fence.wide 5 trivial trivial rfl (by omega) 66 #[.pointer (some ⟨B,0,none⟩)] trivial (enters_of Tryz.func66 (by kernel_rfl) rfl) _ L.length (by unfold maxLen;omega) (by omega) w (qw4 hM (by unfold maxLen;omega) hB 3 (by omega)));refine Calls.mono h ?_;rintro e w' ⟨v,ss,rfl,hS,hrow,_,hb⟩;obtain ⟨q,rfl,hq⟩:=qld hrow;exact ⟨q,rfl,hK q w' ss hS hq hb⟩
end
end YtokfefnmpjohpaaGreatDoor
end Go.Proofs
namespace Go.Vc
open Go.RowKit
open Go.ChangeMaps (setBlock)
open _root_.List (mem_cons mem_filter mem_map)
open _root_.Nat (le_refl)
section
variable {V:Type} (enc:V->Value)
def qmu (w:World) (r it:Nat) (L todo:List (Int×V)):Prop :=
 ∃E c since x6 c0,MapE enc w r E c/\(vi E).Perm L/\Srt L/\w.heap[it]?=some (.mapIter (some r) since x6 c0)/\(∀e∈E,e.b<since)/\since<=c0/\since<=c /\
  (vi (E.filter λe=>!x6.contains e.b)).Perm todo
variable {enc}
variable {P:Program} {t kt et:TypeId} {w:World} {r it:Nat} {L todo:List (Int×V)}
theorem qmu.map (h:qmu enc w r it L todo):zG enc w r L:=by
 obtain ⟨E,c,_,_,_,h1,h2,h3,_⟩:=h;exact ⟨E,c,h1,h2,h3⟩
theorem qmu.keep {w':World} (h:qmu enc w r it L todo) (hr:w'.heap[r]?=w.heap[r]?) (hi:w'.heap[it]?=w.heap[it]?):qmu enc w' r it L todo:=by
 obtain ⟨E,c,since,x6,c0,h1,h2,h3,h4,h5⟩:=h;exact ⟨E,c,since,x6,c0,⟨hr.trans h1.heap,h1.keys,h1.stamps,h1.lt,h1.wf⟩,h2,h3,hi.trans h4,h5⟩
theorem qmu.it_lt (h:qmu enc w r it L todo):it<w.heap.size:=by
 obtain ⟨E,c,since,x6,c0,h1,h2,h3,h4,h5⟩:=h;exact (Array.getElem?_eq_some_iff.1 h4).1
theorem qmu.ext {w':World} (h:qmu enc w r it L todo) (hb:Uc w w'):qmu enc w' r it L todo:=h.keep (hb.block r h.map.lt) (hb.block it h.it_lt)
theorem q3o (hM:zG enc w r L) (ht:P.underlying t=some (.map kt et)) {K:Addr->Ub}
  (hK:∀w',qmu enc w' r w.heap.size L L->Uc w w'->w'.heap.size=w.heap.size+1->K ⟨w.heap.size,0,none⟩ w'):q4a P t (.map (some r)) w K:=by
 obtain ⟨E,c,hE,hp,hs⟩:=hM;have hB:Uc w (w.alloc (.mapIter (some r) c #[] c)):=(Below.refl _ w).alloc (le_refl _) _;refine ⟨_,w.alloc (.mapIter (some r) c #[] c),?_,hK _ ⟨E,c,c,#[],c,⟨(hB.block r hE.lt_heap).trans hE.heap,hE.keys,hE.stamps,hE.lt,hE.wf⟩,hp,hs,?_,hE.lt,le_refl _,le_refl _,?_⟩ hB (by show (w.heap.push _).size=_;simp)⟩
 ·simp [Instr.range,run_underlying ht,xE hE.heap,newObj,Sem.run]
 ·show (w.heap.push _)[w.heap.size]?=_;simp
 ·rw [List.filter_eq_self.2 (λx _=>by simp)];exact hp
theorem qs1 {E:List (Ent V)} {x6:Array Nat} {x:MapEntry} (h:x∈(leftOf (E.map (Ent.val enc)).toArray x6).toList):∃e∈E.filter (λe=>!x6.contains e.b),Ent.val enc e=x:=by
 unfold leftOf at h;rw [Array.toList_filter] at h;obtain ⟨h1,h2⟩:=mem_filter.1 h;obtain ⟨e,he,rfl⟩:=mem_map.1 h1;exact ⟨e,mem_filter.2 ⟨he,h2⟩,rfl⟩
theorem q78 {E:List (Ent V)} {x6:Array Nat}:(leftOf (E.map (Ent.val enc)).toArray x6).size=(E.filter (λe=>!x6.contains e.b)).length:=by
 unfold leftOf;rw [<-Array.length_toList,Array.toList_filter,List.filter_map,List.length_map];rfl
theorem qsm {E:List (Ent V)} (h:E.Pairwise λx y=>x.k≠y.k):E.Nodup:=h.imp λhab e=>hab (congrArg Ent.k e)
theorem zet {E:List (Ent V)} (h:E.Pairwise λx y=>x.b<y.b):∀{x y},x∈E->y∈E->x.b=y.b->x=y:=by
 induction E with
 | nil=>intro x y hx;cases hx
 | cons a E ih =>
  have hp:=List.pairwise_cons.1 h;intro x y hx hy e;rcases mem_cons.1 hx with rfl | hx
  ·rcases mem_cons.1 hy with rfl | hy
   ·rfl
   ·have:=hp.1 y hy;omega
  ·rcases mem_cons.1 hy with e' | hy
   ·rw [e'] at e;have:=hp.1 x hx;omega
   ·exact ih hp.2 hx hy e
theorem q09 {E:List (Ent V)} (h1:E.Pairwise λx y=>x.k≠y.k) (h2:E.Pairwise λx y=>x.b<y.b) {x6:Array Nat} {e:Ent V} (he:e∈E.filter λe=>!x6.contains e.b) :
  (E.filter λx=>!x6.contains x.b).Perm (e::E.filter λx=>!(x6.push e.b).contains x.b):=by
 have hin:=(mem_filter.1 he).1;have hno:e ∉ E.filter λx=>!(x6.push e.b).contains x.b:=λh=>by simp at h
 refine (List.perm_ext_iff_of_nodup ((qsm h1).filter _) (List.nodup_cons.2 ⟨hno,(qsm h1).filter _⟩)).2 λx=>?_;rw [mem_cons,mem_filter,mem_filter];simp only [Array.contains_eq_mem,Array.mem_push,Bool.not_eq_true',decide_eq_false_iff_not];constructor
 ·rintro ⟨hx,hs⟩;by_cases hxe:x=e
  ·exact .inl hxe
  ·refine .inr ⟨hx,λh=>?_⟩;rcases h with h | h
   ·exact hs h
   ·exact hxe (zet h2 hx hin h)
 ·rintro (rfl | ⟨hx,h⟩)
  ·have:=(mem_filter.1 he).2;simp only [Array.contains_eq_mem,Bool.not_eq_true',decide_eq_false_iff_not] at this;exact ⟨hin,this⟩
  ·exact ⟨hx,λhs=>h (.inl hs)⟩
theorem q8t (hM:qmu enc w r it L todo) (ty:TypeId) {K0:Ub} {K1:Value->Value->Ub} (h0:todo=[]->K0 w)
  (h1:∀k v w' todo',todo.Perm ((k,v)::todo')->qmu enc w' r it L todo'->Chg (λi=>i=it) w w'->w'.heap.size=w.heap.size ->
   ((Instr.entry (.pointer (some ⟨it,0,none⟩))).run P w'=.ok (.tuple #[.int .i64 k,enc v]) w')->K1 (Ua k) (enc v) w') :
  zan P (.pointer (some ⟨it,0,none⟩)) false ty w K0 K1:=by
 obtain ⟨E,c,since,x6,c0,hE,hp,hs,hi,hlt,hsc,hsk,htd⟩:=hM;have hne:it≠r:=by
  rintro rfl;have:=hE.heap;rw [hi] at this;cases this
 rcases run_next_at (P:=P) w ty it r since c0 x6 _ c hi hE.heap (λx hx=>by
   obtain ⟨e,he,rfl⟩:=mem_map.1 hx;exact hlt e he) hsc with ⟨hz,hrun⟩ | ⟨x,hx,w1,hw1,hrun⟩
 ·refine .inl ⟨w,hrun,h0 ?_⟩;rw [q78] at hz;rw [List.eq_nil_of_length_eq_zero hz] at htd;exact htd.symm.eq_nil
 ·obtain ⟨e,he,rfl⟩:=qs1 hx;have hin:=(mem_filter.1 he).1;have hi1:w1.heap[it]?=some (.mapIter (some r) since x6 c0):=by rcases hw1 with rfl | rfl<;>exact hi
  have hE1:w1.heap[r]?=some (.map (E.map (Ent.val enc)).toArray c):=by rcases hw1 with rfl | rfl<;>exact hE.heap
  have hsz:w1.heap.size=w.heap.size:=by rcases hw1 with rfl | rfl<;>rfl
  have hset:=Go.MapKept.heap_set (o':=.mapIter (some r) since (x6.push e.b) c) hi1;have hr2:(setBlock w1 it (.mapIter (some r) since (x6.push e.b) c)).heap[r]?=some (.map (E.map (Ent.val enc)).toArray c):=(hset.2 r (λe1=>hne e1.symm)).trans hE1;have hfp:=q09 hE.keys hE.stamps he;refine .inr ⟨.int .i64 e.k,enc e.v,_,hrun,h1 e.k e.v _ (vi (E.filter λx=>!(x6.push e.b).contains x.b)) ?_ ⟨E,c,since,x6.push e.b,c,⟨hr2,hE.keys,hE.stamps,hE.lt,hE.wf⟩,hp,hs,hset.1,hlt,hsk,hsk,.refl _⟩ ?_ ?_ ?_⟩
  ·refine htd.symm.trans ?_;exact hfp.map λe=>(e.k,e.v)
  ·refine ⟨?_,?_,?_,?_,λk hk hn=>?_⟩
   ·rcases hw1 with rfl | rfl<;>rfl
   ·rcases hw1 with rfl | rfl<;>rfl
   ·rcases hw1 with rfl | rfl<;>rfl
   ·rcases hw1 with rfl | rfl<;>simp [setBlock]
   ·rcases hw1 with rfl | rfl<;>exact hset.2 k hn
  ·rcases hw1 with rfl | rfl<;>simp [setBlock]
  ·refine run_entry_at _ it r since x6 _ c (Ent.val enc e) hset.1 hr2 (mem_map.2 ⟨e,hin,rfl⟩) ?_;rw [List.toList_toArray,List.map_map];exact List.pairwise_map.2 (hE.stamps.imp λ{a b} h (e:a.b=b.b)=>by rw [e] at h;exact Nat.lt_irrefl _ h)
theorem qvy (hM:zG enc w r L) (t:TypeId) :
  ∃w',(Extern.MapsClone.clone #[.iface t (.map (some r))]).run P w=.ok (.iface t (.map (some w.heap.size))) w'/\zG enc w' w.heap.size L/\Uc w w'/\w'.heap.size=w.heap.size+1:=by
 obtain ⟨E,c,hE,hp,hs⟩:=hM;have hB:Uc w (w.alloc (.map (E.map (Ent.val enc)).toArray c)):=(Below.refl _ w).alloc (le_refl _) _;refine ⟨_,?_,⟨E,c,⟨?_,hE.keys,hE.stamps,hE.lt,hE.wf⟩,hp,hs⟩,hB,by show (w.heap.push _).size=_;simp⟩
 ·have e:Extern.MapsClone.clone #[.iface t (.map (some r))]=(getObj r >>= λo=>match o with
   | .map entries clock=>(newObj (.map entries clock) >>= λn=>pure (.iface t (.map (some n))))
   | _ => stuck "maps.clone: a map expected") := rfl
  rw [e];simp [xE hE.heap,newObj,Sem.run]
 ·show (w.heap.push _)[w.heap.size]?=_;simp
theorem qlo {xT k e:TypeId} {v:Value} (h:P.underlying t=some (.map k e)):(Instr.typeAssert (.iface t v) xT t false).run P w=.ok v w:=by
 simp [Instr.typeAssert,run_underlying h]
end
end Go.Vc
namespace Go.Proofs.YtokfefnmpjohpaaGreatDoor
open Go.Vc Go.RowKit
set_option maxRecDepth 100000
open IntKind (i64)
open _root_.List (mem_append mem_cons mem_cons_of_mem mem_singleton)
open _root_.Nat (le_refl)
theorem qm1 {w:World} {T:Type} {E:El T} {b g:Nat} {s:Slc} {xs:List T} {t:TypeId} {vs:List Value} (h:Go.Vc.Own E w b s xs) (h':Blk w g t vs) (hne:E.t≠t):∀k,s.blk=some k->k≠g:=λk hk=>by
 obtain ⟨cs,hcs⟩:=h.blk_t hk;exact hcs.ne_t h' hne
theorem qv8 {T:Type} {E:El T} {w:World} {s:Slc} {xs:List T} (h:Rd E w s xs) (hp:0<xs.length):∀a,s.a=some a->a.block<w.heap.size:=λa ha=>by
 have:=h.lt hp;simpa [Slc.at_,ha] using this
theorem YU {T:Type} {E:El T} {Sx:Nat->Prop} {w w':World} {s:Slc} {xs:List T} (h:Rd E w s xs) (hc:Chg Sx w w') (hg:0<xs.length->∀a,s.a=some a->¬Sx a.block):Rd E w' s xs:=by
 cases xs with
 | nil=>exact ⟨h.n,h.nc,h.cm,h.some_,λi x hx=>by simp at hx⟩
 | cons x xs=>exact h.chg hc (hg (by simp))
structure Hold (w:World) (base:Nat) (s:Slc) (xs:List UInt8):Prop where
 rd:Rd qn w s xs
 blk:∀k,s.blk=some k->base<=k/\∃cs,Blk w k qL cs
theorem q0h {w:World} {base:Nat} {s:Slc} {xs:List UInt8} (h:Go.Vc.Own qn w base s xs):Hold w base s xs:=⟨h.rd,λk hk=>⟨(h.lt k hk).1,h.blk_t hk⟩⟩
theorem Hold.base {w:World} {base base':Nat} {s:Slc} {xs:List UInt8} (h:Hold w base s xs) (hb:base'<=base):Hold w base' s xs:=⟨h.rd,λk hk=>⟨Nat.le_trans hb (h.blk k hk).1,(h.blk k hk).2⟩⟩
theorem Hold.chg {Sx:Nat->Prop} {w w':World} {base:Nat} {s:Slc} {xs:List UInt8} (h:Hold w base s xs) (hc:Chg Sx w w') (hg:∀k,s.blk=some k->¬Sx k):Hold w' base s xs :=
 ⟨h.rd.chg hc λa ha=>hg _ (slk.2 ⟨a,ha,rfl⟩),λk hk=>by
  obtain ⟨h1,cs,h2⟩:=h.blk k hk;exact ⟨h1,cs,h2.chg hc (hg k hk)⟩⟩
theorem Hold.ext {w w':World} {base:Nat} {s:Slc} {xs:List UInt8} (h:Hold w base s xs) (hb:Uc w w'):Hold w' base s xs :=
 ⟨h.rd.ext hb,λk hk=>by
  obtain ⟨h1,cs,h2⟩:=h.blk k hk;exact ⟨h1,cs,h2.ext hb⟩⟩
theorem Hold.drew {w:World} {base:Nat} {s:Slc} {xs:List UInt8} (h:Hold w base s xs):Hold w.drew base s xs:=⟨h.rd.drew,h.blk⟩
theorem Hold.lt {w:World} {base:Nat} {s:Slc} {xs:List UInt8} (h:Hold w base s xs):∀k,s.blk=some k->base<=k/\k<w.heap.size:=λk hk=>by
 obtain ⟨h1,cs,h2⟩:=h.blk k hk;exact ⟨h1,h2.lt⟩
theorem Hold.ne_b {w:World} {base g:Nat} {s:Slc} {xs:List UInt8} {t:TypeId} {vs:List Value} (h:Hold w base s xs) (h':Blk w g t vs) (hne:qL≠t):∀k,s.blk=some k->k≠g:=λk hk=>by
 obtain ⟨_,cs,h2⟩:=h.blk k hk;exact h2.ne_t h' hne
theorem Hold.ne_o {w:World} {base b':Nat} {s s':Slc} {xs:List UInt8} {T':Type} {E':El T'} {ys:List T'} (h:Hold w base s xs) (h':Go.Vc.Own E' w b' s' ys) (hne:qL≠E'.t):∀k,s.blk=some k->s'.blk≠some k:=λk hk e=>by
 obtain ⟨_,cs,h2⟩:=h.blk k hk;obtain ⟨cs',hcs'⟩:=h'.blk_t e;exact h2.ne_t hcs' hne rfl
theorem Hold.ne_m {V:Type} {enc:V->Value} {w:World} {base r:Nat} {s:Slc} {xs:List UInt8} {L:List (Int×V)} (h:Hold w base s xs) (hM:zG enc w r L):∀k,s.blk=some k->k≠r:=λk hk=>by
 obtain ⟨_,cs,h2⟩:=h.blk k hk;exact λe=>hM.ne_blk h2 e.symm
abbrev qo6:qD:=⟨0,⟨0,0,⟨none,0,0⟩⟩,0,0⟩
structure Im where
 v:qD
 bs:List UInt8
def Im.enc (x:Im):Value:=.agg (qD.rep.cells x.v).toArray
structure St where
 quota:Int
 res:Int
 used:Int
 clock:Int
 L:List (Int×Im)
def St.cells (S:St) (r:Nat):List Value:=[(Ua S.quota),(Ua S.res),(Ua S.used),(Ua S.clock),(.map (some r))]
structure StM (w:World) (base g r:Nat) (S:St):Prop where
 blk:Blk w g zz (S.cells r)
 map:zG Im.enc w r S.L
 img:∀p∈S.L,Hold w base p.2.v.m.P p.2.bs
theorem qzc:PG.underlying qF=some (.map zA jb):=by kernel_rfl
theorem q23:PG.underlying zA=some (.int .i64):=by kernel_rfl
theorem zf9:∀w,(zeroValue jb).run PG w=.ok (Im.enc ⟨qo6,[]⟩) w:=Tryz.zeroValue79
section
variable {w w':World} {base g r:Nat} {S:St}
theorem StM.keep {Sx:Nat->Prop} (h:StM w base g r S) (hc:Chg Sx w w') (hg:¬Sx g) (hr:¬Sx r) (hi:∀p∈S.L,∀k,p.2.v.m.P.blk=some k->¬Sx k):StM w' base g r S :=
 ⟨h.blk.chg hc hg,h.map.chg hc hr,λp hp=>(h.img p hp).chg hc (hi p hp)⟩
theorem StM.ext (h:StM w base g r S) (hb:Uc w w'):StM w' base g r S:=⟨h.blk.ext hb,h.map.ext hb,λp hp=>(h.img p hp).ext hb⟩
theorem StM.drew (h:StM w base g r S):StM w.drew base g r S:=⟨h.blk,h.map.keep rfl,λp hp=>(h.img p hp).drew⟩
theorem StM.ne (h:StM w base g r S):r≠g:=h.map.ne_blk h.blk
theorem StM.img_ne (h:StM w base g r S) {p:Int×Im} (hp:p∈S.L) {k:Nat} (hk:p.2.v.m.P.blk=some k):k≠g/\k≠r :=
 ⟨(h.img p hp).ne_b h.blk (by decide) k hk,(h.img p hp).ne_m h.map k hk⟩
theorem qol {L:List (Int×Im)} (h:zG Im.enc w r L) (id:Int) {K:qD->Bool->Ub} (hK:K (((zt L id).map Im.v).getD qo6) (zt L id).isSome w) :
  qcj PG (Instr.lookup qF (.map (some r)) (Ua id) true) (Kind.struct qD.rep) Kind.bool w K:=by
 refine ⟨_,_,w,?_,hK⟩;rw [h.lookup_ok qzc q23 zf9 id];cases zt L id<;>rfl
theorem qru {L:List (Int×Im)} (h:zG Im.enc w r L) (id:Int) {K:qD->Ub} (hK:K (((zt L id).map Im.v).getD qo6) w) :
  zJ PG (Instr.lookup qF (.map (some r)) (Ua id) false) (Kind.struct qD.rep) w K:=by
 refine ⟨_,w,?_,hK⟩;rw [h.lookup qzc q23 zf9 id];cases zt L id<;>rfl
theorem qJ {a:Addr} {K:Addr->Prop} (h:K a):qG (some a) K:=h
theorem qej {v:qD} {K:Addr->Ub}
  (hK:∀w',Blk w' w.heap.size jb (qD.rep.cells v)->Uc w w'->w'.heap.size=w.heap.size+1->K ⟨w.heap.size,0,none⟩ w') :
  nw jb [(Ua 0),(Ua 0),(Ua 0),(.slice none 0 0),(Ua 0),(Ua 0)] w λa w1=>stK a (qD.rep.cells v) w1 λw2=>K a w2 :=
 jQ rfl hK
theorem zcv (h:StM w base g r S) (id:Int) {K:Bool->Ub} (hK:∀w',Uc w w'->K (zt S.L id).isSome w'):X1 (some ⟨g,0,none⟩) id w K:=by
 refine qkb _ _ ?_;refine qJ (xx (x:=some r) (h.blk.cells 4 _ rfl) (qol h.map id ?_));exact qej λw' _ hB _=>hK w' hB
theorem qul (h:StM w base g r S) (id:Int) {K:qa->Bool->Ub} (hK:∀w',Uc w w'->K (((zt S.L id).map Im.v).getD qo6).m (zt S.L id).isSome w'):xn (some ⟨g,0,none⟩) id w K:=by
 refine KB _ _ ?_;generalize hv:((zt S.L id).map Im.v).getD qo6=v at hK;refine nwb λw1 hb1 hB1 hs1=>?_;have h1:=h.ext hB1;refine qJ (xx (x:=some r) (h1.blk.cells 4 _ rfl) (qol h1.map id ?_));rw [hv];refine qej λw2 hb2 hB2 hs2=>?_;refine qw (x:=v.m) (hb2.sub 1 _ rfl) ?_;have hb1':=hb1.ext hB2;refine qz hb1' (by simp [qa.rep]) λw3 hb3 hg3 hs3=>?_;have hb3:Blk w3 w.heap.size qt (qa.rep.cells v.m):=hb3;refine qw (x:=v.m) hb3.cells (hK w3 ?_);have hc:Chg (λk=>k=w.heap.size) w w3:=(Chg.of_ext (hB1.trans (hB2.mono (by omega)))).trans (Go.Vc.Chg.gg hg3) λi _ hi=>hi;exact hc.ext λi hi e=>by omega
end
def JK (L:List (Int×Im)):Nat:=(L.map λp=>p.2.bs.length).sum
structure StOk (n:Nat) (S:St):Prop where
 q0:0<=S.quota
 q1:S.quota<=1073741824
 used:S.used=JK S.L
 fits:S.used<=S.quota
 len:S.L.length<=n
 clk0:0<=S.clock
 clk:S.clock<=n
 srt:Srt S.L
 keys:∀p∈S.L,0<p.1/\p.1<=1099511627776+n
 stamps:∀p∈S.L,0<p.2.v.stamp/\p.2.v.stamp<=S.clock
 borns:∀p∈S.L,0<p.2.v.born/\p.2.v.born<=S.clock
 st1:∀p∈S.L,∀q∈S.L,p.2.v.stamp=q.2.v.stamp->p=q
 bo1:∀p∈S.L,∀q∈S.L,p.2.v.born=q.2.v.born->p=q
theorem qw0:JK []=0:=rfl
theorem xN (p:Int×Im) (L:List (Int×Im)):JK (p::L)=p.2.bs.length+JK L:=rfl
theorem q8r {L:List (Int×Im)} {p:Int×Im} (h:p∈L):p.2.bs.length<=JK L:=by
 induction L with
 | nil=>cases h
 | cons a L ih =>
  rw [xN];rcases mem_cons.1 h with rfl | h
  ·omega
  ·have:=ih h;omega
theorem qwm {L:List (Int×Im)} {k:Int} (h:∀p∈L,p.1≠k):Go.Vc.delL L k=L:=List.filter_eq_self.2 λp hp=>by simpa using h p hp
theorem qpn {L:List (Int×Im)} {k:Int} (h:zt L k=none):∀p∈L,p.1≠k:=λp hp e=>by
 unfold zt at h;rw [Option.map_eq_none_iff,List.find?_eq_none] at h;exact h p hp (by simpa using e)
theorem q7d {L:List (Int×Im)} (hs:Srt L) {k:Int} {x:Im} (h:(k,x)∈L):JK (Go.Vc.delL L k)+x.bs.length=JK L:=by
 induction L with
 | nil=>cases h
 | cons a L ih =>
  have hp:=List.pairwise_cons.1 hs;unfold Go.Vc.delL;rw [List.filter_cons];rcases mem_cons.1 h with rfl | h
  ·have:(List.filter (λp:Int×Im=>p.1 !=k) L)=L:=qwm λp hq=>by have:=hp.1 p hq;simp at this;omega
   simp only [bne_self_eq_false,Bool.false_eq_true,if_false,this,xN];omega
  ·have h1:=hp.1 _ h;have:(a.1 !=k)=true:=by simp only [bne_iff_ne];simp at h1;omega
   rw [if_pos this,xN,xN];have:=ih hp.2 h;unfold Go.Vc.delL at this;omega
theorem qvx {L:List (Int×Im)} (k:Int):(Go.Vc.delL L k).length<=L.length:=List.length_filter_le _ _
theorem qml {L:List (Int×Im)} {k:Int} {x:Im} (h:(k,x)∈L):(Go.Vc.delL L k).length<L.length:=by
 unfold Go.Vc.delL;exact List.length_filter_lt_length_iff_exists.2 ⟨_,h,by simp⟩
theorem V9 {L:List (Int×Im)} {k:Int} {p:Int×Im} (h:p∈Go.Vc.delL L k):p∈L:=(List.mem_filter.1 h).1
def qvk (L:List (Int×Im)) (k:Int):Nat:=((zt L k).map λx=>x.bs.length).getD 0
theorem zc1 {L:List (Int×Im)} (hs:Srt L) (k:Int):qvk L k<=JK L:=by
 unfold qvk;cases h:zt L k with
 | none=>exact Nat.zero_le _
 | some x=>exact q8r ((xG hs).1 h)
theorem q2m {L:List (Int×Im)} (hs:Srt L) (k:Int):JK (Go.Vc.delL L k)+qvk L k=JK L:=by
 unfold qvk;cases h:zt L k with
 | none=>rw [qwm (qpn h)];rfl
 | some x=>exact q7d hs ((xG hs).1 h)
def St.drop (S:St) (k:Int):St:={ S with used:=S.used-(qvk S.L k:Int),L:=Go.Vc.delL S.L k }
theorem qi9 {n:Nat} {S:St} (h:StOk n S) (k:Int):StOk n (S.drop k):=by
 have h1:=q2m h.srt k;have h2:=h.used;have h3:=h.fits;exact ⟨h.q0,h.q1,by show S.used-(qvk S.L k:Int)=(JK (Go.Vc.delL S.L k):Int);omega,by show S.used-(qvk S.L k:Int)<=S.quota;omega,
  Nat.le_trans (qvx k) h.len,h.clk0,h.clk,qug h.srt k,λp hp=>h.keys p (V9 hp),λp hp=>h.stamps p (V9 hp),λp hp=>h.borns p (V9 hp),
  λp hp q hq=>h.st1 p (V9 hp) q (V9 hq),λp hp q hq=>h.bo1 p (V9 hp) q (V9 hq)⟩
def qvp:(Int×Im)->List (Int×Im)->Int×Im
 | p,[]=>p
 | p,q::r=>if q.2.v.stamp<p.2.v.stamp then qvp q r else qvp p r
theorem qn4:∀(L:List (Int×Im)) (p:Int×Im),qvp p L∈p::L
 | [],p=>by simp [qvp]
 | q::r,p=>by
  unfold qvp;split
  ·exact mem_cons_of_mem _ (qn4 r q)
  ·rcases mem_cons.1 (qn4 r p) with e | e
   ·rw [e];exact List.mem_cons_self
   ·exact mem_cons_of_mem _ (mem_cons_of_mem _ e)
theorem qy2:∀(L:List (Int×Im)) (p:Int×Im),∀x∈p::L,(qvp p L).2.v.stamp<=x.2.v.stamp
 | [],p=>λx hx=>by
  rw [mem_singleton] at hx;subst hx;exact Int.le_refl _
 | q::r,p=>λx hx=>by
  unfold qvp;split
  ·rename_i hlt;have h1:=qy2 r q;rcases mem_cons.1 hx with rfl | hx
   ·have:=h1 q List.mem_cons_self;omega
   ·exact h1 x hx
  ·rename_i hlt;have h1:=qy2 r p;rcases mem_cons.1 hx with rfl | hx
   ·exact h1 x List.mem_cons_self
   ·rcases mem_cons.1 hx with rfl | hx
    ·have:=h1 p List.mem_cons_self;omega
    ·exact h1 x (mem_cons_of_mem _ hx)
def ya:List (Int×Im)->Int
 | []=>0
 | p::r=>(qvp p r).1
theorem q49 {n:Nat} {S:St} (h:StOk n S) {p:Int×Im} (hp:p∈S.L) (hmin:∀q∈S.L,p.2.v.stamp<=q.2.v.stamp):ya S.L=p.1:=by
 cases hL:S.L with
 | nil=>rw [hL] at hp;cases hp
 | cons a r =>
  rw [hL] at hp hmin;have h1:=qn4 r a;have h2:=qy2 r a p hp;have h3:=hmin _ h1;have:=h.st1 p (by rw [hL];exact hp) _ (by rw [hL];exact h1) (by omega);show (qvp a r).1=p.1;rw [<-this]
theorem qmm {L:List (Int×Im)} (h:L≠[]):∃x,(ya L,x)∈L:=by
 cases L with
 | nil=>exact absurd rfl h
 | cons a r=>exact ⟨(qvp a r).2,qn4 r a⟩
def St.roomF (n:Int):Nat->St->List Int->St×List Int
 | 0,S,G=>(S,G)
 | f+1,S,G=>if S.used>S.quota-n/\0<S.L.length then St.roomF n f (S.drop (ya S.L)) (G++[ya S.L]) else (S,G)
def St.room (S:St) (n:Int):St×List Int:=S.roomF n S.L.length []
theorem quc (n:Int):∀(f:Nat) (S:St) (G:List Int),S.L.length<=f->S.roomF n (f+1) G=S.roomF n f G
 | 0,S,G,h=>by
  show (if S.used>S.quota-n/\0<S.L.length then _ else (S,G))=(S,G);rw [if_neg (by omega)]
 | f+1,S,G,h=>by
  show (if S.used>S.quota-n/\0<S.L.length then St.roomF n (f+1) (S.drop (ya S.L)) (G++[ya S.L]) else (S,G))=(if S.used>S.quota-n/\0<S.L.length then St.roomF n f (S.drop (ya S.L)) (G++[ya S.L]) else (S,G));by_cases hc:S.used>S.quota-n/\0<S.L.length
  ·rw [if_pos hc,if_pos hc];refine quc n f _ _ ?_;obtain ⟨x,hx⟩:=qmm (L:=S.L) (by intro e;rw [e] at hc;simp at hc);have:=qml hx;show (Go.Vc.delL S.L (ya S.L)).length<=f;omega
  ·rw [if_neg hc,if_neg hc]
theorem q89 (n:Int) {f:Nat} {S:St} {G:List Int} (h:S.L.length<=f):S.roomF n f G=S.roomF n S.L.length G:=by
 induction f with
 | zero=>rw [show S.L.length=0 by omega]
 | succ f ih =>
  by_cases hf:S.L.length=f+1
  ·rw [hf]
  ·rw [quc n f S G (by omega),ih (by omega)]
theorem qg2 {m:Nat} (n:Int):∀(f:Nat) {S:St} {G:List Int},StOk m S->StOk m (S.roomF n f G).1
 | 0,_,_,h=>h
 | f+1,S,G,h=>by
  unfold St.roomF;split
  ·exact qg2 n f (qi9 h _)
  ·exact h
theorem qod (n:Int):∀(f:Nat) (S:St) (G:List Int),(S.roomF n f G).1.quota=S.quota/\(S.roomF n f G).1.res=S.res/\(S.roomF n f G).1.clock=S.clock
 | 0,_,_=>⟨rfl,rfl,rfl⟩
 | f+1,S,G=>by
  unfold St.roomF;split
  ·exact qod n f _ _
  ·exact ⟨rfl,rfl,rfl⟩
theorem qs0 {m:Nat} {n:Int} (hn:0<=n):∀(f:Nat) {S:St} {G:List Int},StOk m S->n<=S.quota->S.L.length<=f->(S.roomF n f G).1.used<=S.quota-n
 | 0,S,G,h,hq,hl=>by
  show S.used<=S.quota-n;have:=h.used;rw [List.eq_nil_of_length_eq_zero (by omega:S.L.length=0),qw0] at this;omega
 | f+1,S,G,h,hq,hl=>by
  unfold St.roomF;by_cases hc:S.used>S.quota-n/\0<S.L.length
  ·rw [if_pos hc];obtain ⟨x,hx⟩:=qmm (L:=S.L) (by intro e;rw [e] at hc;simp at hc);have:=qml hx;exact qs0 hn f (qi9 h _) hq (by show (Go.Vc.delL S.L (ya S.L)).length<=f;omega)
  ·rw [if_neg hc];by_cases hz:S.L.length=0
   ·have:=h.used;rw [List.eq_nil_of_length_eq_zero hz,qw0] at this;show S.used<=_;omega
   ·show S.used<=_;omega
section
variable {w:World} {base g r n:Nat} {S:St}
theorem qym {m:Sem Unit} {w w':World} {K:Option Value->Ub} (h:m.run PG w=.ok () w') (hK:K none w'):qjp PG m w K:=⟨w',h,hK⟩
abbrev onS (g r:Nat):Nat->Prop:=λk=>k=g\/k=r
theorem StM.own_blk (h:StM w base g r S):∀p∈S.L,∀k,p.2.v.m.P.blk=some k->¬onS g r k:=λp hp k hk e=>by
 have:=h.img_ne hp hk;rcases e with e | e
 ·exact this.1 e
 ·exact this.2 e
theorem zc2 (h:StM w base g r S) (id:Int):(((zt S.L id).map Im.v).getD qo6).m.P.n=qvk S.L id:=by
 unfold qvk;cases hl:zt S.L id with
 | none=>rfl
 | some x=>exact (h.img _ ((xG h.map.srt).1 hl)).rd.n
theorem qns (h:StM w base g r S) {K:Ub} (hK:∀w',StM w' base g r { S with res:=0 }->Chg (onS g r) w w'->w'.heap.size=w.heap.size->K w'):xV (some ⟨g,0,none⟩) w K:=by
 refine qbk _ ?_;refine qJ ?_;rw [qB];refine qz h.blk (by simp [St.cells]) λw1 hb1 hg1 hs1=>?_;have hc:Chg (onS g r) w w1:=(Go.Vc.Chg.gg hg1).mono λi _ hi=>.inl hi;refine hK w1 ⟨hb1,h.map.chg (Go.Vc.Chg.gg hg1) h.ne,λp hp=>(h.img p hp).chg hc (h.own_blk p hp)⟩ hc hs1
theorem qox (h:StM w base g r S) (hk:StOk n S) (id:Int) {K:Bool->Ub}
  (hK:∀w',StM w' base g r (S.drop id)->Chg (onS g r) w w'->K (zt S.L id).isSome w'):xF (some ⟨g,0,none⟩) id w K:=by
 refine qgo _ _ ?_;refine qJ (xx (x:=some r) (h.blk.cells 4 _ rfl) (qol h.map id ?_));have hn:=zc2 h id;generalize hv:((zt S.L id).map Im.v).getD qo6=v at hn;refine qej λw1 hb1 hB1 hs1=>?_;have h1:=h.ext hB1;refine qJ (lI (x:=S.used) (h1.blk.drew.cells 2 _ rfl) ?_);refine lSl (x:=v.m.P) (by rw [j8];exact hb1.drew.cells 3 _ rfl) ?_;refine qJ ?_;rw [qB,hn];refine qz h1.blk.drew (by simp [St.cells]) λw2 hb2 hg2 hs2=>?_;have hu:=hk.used;have hz:=zc1 hk.srt id;have hq:=hk.fits;have hq1:=hk.q1;rw [qP (by omega)] at hb2;have hb2:Blk w2 g zz (({ S with used:=S.used-(qvk S.L id:Int) }:St).cells r):=hb2;have hm2:zG Im.enc w2 r S.L:=h1.drew.map.chg (Go.Vc.Chg.gg hg2) h.ne;refine qJ (xx (x:=some r) (hb2.cells 4 _ rfl) ?_);obtain ⟨w3,hr3,hm3,hc3,hs3⟩:=hm2.delete qzc q23 id qfi;refine ⟨_,w3,hr3,hK w3 ⟨?_,hm3,λp hp=>?_⟩ ?_⟩
 ·exact hb2.chg hc3 λe=>h.ne e.symm
 ·have hp':p∈S.L:=V9 hp;exact (((h1.img p hp').drew).chg (Go.Vc.Chg.gg hg2) λk hk=>(h.img_ne hp' hk).1).chg hc3 λk hk=>(h.img_ne hp' hk).2
 ·have c1:Chg (onS g r) w w1:=Chg.of_ext hB1;have c2:Chg (onS g r) w1 w1.drew:=Chg.of_ext (Below.refl _ w1).drew;exact ((c1.trans c2 λi _ hi=>hi).trans (Go.Vc.Chg.gg hg2) λi _ hi=>.inl hi).trans hc3 λi _ hi=>.inr hi
def St.use (S:St) (id:Int):St:=match zt S.L id with
 | some x=>{ S with clock:=S.clock+1,L:=ko S.L id { x with v:={ x.v with stamp:=S.clock+1 } } }
 | none=>S
theorem zba (h:StM w base g r S) (hk:StOk n S) (hn:n<=1000) (id:Int) {K:Bool->Ub}
  (hK:∀w',StM w' base g r (S.use id)->Chg (onS g r) w w'->K (zt S.L id).isSome w'):Jh (some ⟨g,0,none⟩) id w K:=by
 refine qif _ _ ?_;refine qJ (xx (x:=some r) (h.blk.cells 4 _ rfl) (qol h.map id ?_));have huse:S.use id=match zt S.L id with
  | some x=>{ S with clock:=S.clock+1,L:=ko S.L id { x with v:={ x.v with stamp:=S.clock+1 } } }
  | none=>S:=rfl
 cases hl:zt S.L id with
 | none =>
  rw [hl] at hK huse;rw [huse] at hK;refine qej λw1 hb1 hB1 hs1=>?_;exact cF rfl (hK w1 (h.ext hB1) (Chg.of_ext hB1))
 | some x =>
  rw [hl] at hK huse;rw [huse] at hK;have hx:=(xG hk.srt).1 hl;refine qej λw1 hb1 hB1 hs1=>?_;have hb1:Blk w1 w.heap.size jb (qD.rep.cells x.v):=hb1;have h1:=h.ext hB1;refine cT rfl ?_;have hc0:=hk.clk0;have hc1:=hk.clk;refine qJ (lI (x:=S.clock) (h1.blk.cells 3 _ rfl) (qJ ?_));rw [qB];refine qz h1.blk (by simp [St.cells]) λw2 hb2 hg2 hs2=>?_;rw [qP (by omega)] at hb2;have hb2:Blk w2 g zz (({ S with clock:=S.clock+1 }:St).cells r):=hb2;have hm2:zG Im.enc w2 r S.L:=h1.map.chg (Go.Vc.Chg.gg hg2) h.ne;have hbx2:=hb1.chg (Go.Vc.Chg.gg hg2) λe=>by have:=h.blk.lt;omega
  refine qJ (lI (x:=S.clock+1) (hb2.cells 3 _ rfl) ?_);rw [qB];refine qz hbx2 (by simp [qD.rep]) λw3 hb3 hg3 hs3=>?_;have hb3:Blk w3 w.heap.size jb (qD.rep.cells { x.v with stamp:=S.clock+1 }):=hb3;have hgl:=h.blk.lt;have hrl:=h.map.lt;have hb23:=hb2.chg (Go.Vc.Chg.gg hg3) λe=>by omega
  have hm3:zG Im.enc w3 r S.L:=hm2.chg (Go.Vc.Chg.gg hg3) λe=>by omega
  refine qJ (xx (x:=some r) (hb23.drew.cells 4 _ rfl) ?_);refine qw (x:={ x.v with stamp:=S.clock+1 }) hb3.drew.cells ?_;obtain ⟨w4,hr4,hm4,hc4,hs4⟩:=(hm3.keep (w':=w3.drew) rfl).update qzc q23 (k:=id) (by have:=hk.keys _ hx;simp at this;omega) (enc:=Im.enc) { x with v:={ x.v with stamp:=S.clock+1 } };have cAll:Chg (onS g r) w w4:=by
   have c1:Chg (onS g r) w w1:=Chg.of_ext hB1;have c3:Chg (λk=>k=g\/k=w.heap.size) w1 w3:=((Go.Vc.Chg.gg hg2).mono (S':=λk=>k=g\/k=w.heap.size) λi _ hi=>.inl hi).trans (Go.Vc.Chg.gg hg3) λi _ hi=>.inr hi;have c5:Chg (onS g r) w3 w4:=((Chg.of_ext (S:=onS g r) (Below.refl _ w3).drew)).trans hc4 λi _ hi=>.inr hi;refine (c1.trans c3 λi hi e=>?_).trans c5 λi _ hi=>hi;rcases e with e | e
   ·exact .inl e
   ·omega
  refine qym hr4 (hK w4 ⟨?_,hm4,λp hp=>?_⟩ cAll)
  ·exact hb23.drew.chg hc4 λe=>h.ne e.symm
  ·obtain ⟨a,b⟩:=p;rcases (yI hk.srt _ _ a b).1 hp with ⟨rfl,rfl⟩ | ⟨_,hp'⟩
   ·exact (h.img _ hx).chg cAll (h.own_blk _ hx)
   ·exact (h.img _ hp').chg cAll (h.own_blk _ hp')
end
def vOf (L:List (Int×Im)) (k:Int):qD:=((zt L k).map Im.v).getD qo6
def qbj (L:List (Int×Im)) (n b:Int) (ok:Bool):Prop :=
 (ok=false/\b=0/\∀p∈L,¬(n≠0/\p.2.v.number=n))\/(ok=true/\∃x,(b,x)∈L/\n≠0/\x.v.number=n/\∀p∈L,p.2.v.number=n->p.2.v.born<=x.v.born)
theorem qbj.one {m:Nat} {S:St} (hk:StOk m S) {n b b':Int} {ok ok':Bool} (h:qbj S.L n b ok) (h':qbj S.L n b' ok'):b=b'/\ok=ok':=by
 rcases h with ⟨rfl,rfl,h⟩ | ⟨rfl,x,hx,hn,hxn,hm⟩
 ·rcases h' with ⟨rfl,rfl,_⟩ | ⟨rfl,x',hx',hn',hxn',_⟩
  ·exact ⟨rfl,rfl⟩
  ·exact absurd ⟨hn',hxn'⟩ (h _ hx')
 ·rcases h' with ⟨rfl,rfl,h'⟩ | ⟨rfl,x',hx',hn',hxn',hm'⟩
  ·exact absurd ⟨hn,hxn⟩ (h' _ hx)
  ·have h1:=hm _ hx' hxn';have h2:=hm' _ hx hxn;have:=hk.bo1 _ hx _ hx' (by simp at h1 h2 ⊢;omega);exact ⟨congrArg Prod.fst this,rfl⟩
section
variable {w:World} {base g r n:Nat} {S:St}
theorem zbd (h:StM w base g r S) (hk:StOk n S) (hn:n<=1000) {K:Slc->Ub}
  (hK:∀q w',Go.Vc.Own zX w' w.heap.size q (S.L.map (·.1))->Uc w w'->K q w'):Jk (some ⟨g,0,none⟩) w K:=by
 refine qg0 _ ?_;refine qJ (xx (x:=some r) (h.blk.cells 4 _ rfl) (qwx ?_));have hB:Uc w (w.alloc (.cells #[.map (some r)] 77)):=(Below.refl _ w).alloc (le_refl _) _;have hb:Blk (w.alloc (.cells #[.map (some r)] 77)) w.heap.size 77 [.map (some r)]:=Blk.new w 77 [.map (some r)];have hl:=hk.len;refine qzw (L:=S.L) (h.map.ext hB) (by omega) (hb.cell 0 rfl) λq w' ho hB'=>?_;have hs:(w.alloc (.cells #[.map (some r)] 77)).heap.size=w.heap.size+1:=by show (w.heap.push _).size=_;simp
 exact hK q w' (ho.base (by omega)) (hB.trans (hB'.mono (by omega)))
def Y5 (D:List (Int×Im)) (n b bo:Int):Prop :=
 (b=0/\bo=0/\∀p∈D,¬(n≠0/\p.2.v.number=n))\/(∃x,(b,x)∈D/\n≠0/\x.v.number=n/\x.v.born=bo/\0<bo/\∀p∈D,p.2.v.number=n->p.2.v.born<=bo)
theorem Y5.yes {D:List (Int×Im)} {n b bo k:Int} {x:Im} (h:Y5 D n b bo) (hn:n≠0) (hx:x.v.number=n) (hb:x.v.born>bo) (h0:0<=bo):Y5 (D++[(k,x)]) n k x.v.born:=by
 refine .inr ⟨x,by simp,hn,hx,rfl,by omega,λp hp hpn=>?_⟩;rcases mem_append.1 hp with hp | hp
 ·rcases h with ⟨_,_,h⟩ | ⟨_,_,_,_,_,_,h⟩
  ·exact absurd ⟨hn,hpn⟩ (h p hp)
  ·have:=h p hp hpn;omega
 ·rw [mem_singleton] at hp;subst hp;exact Int.le_refl _
theorem Y5.no {D:List (Int×Im)} {n b bo k:Int} {x:Im} (h:Y5 D n b bo) (hx:¬(n≠0/\x.v.number=n/\x.v.born>bo)) (h1:0<x.v.born):Y5 (D++[(k,x)]) n b bo:=by
 rcases h with ⟨rfl,rfl,h⟩ | ⟨y,hy,hn,hyn,hyb,h0,h⟩
 ·refine .inl ⟨rfl,rfl,λp hp=>?_⟩;rcases mem_append.1 hp with hp | hp
  ·exact h p hp
  ·rw [mem_singleton] at hp;subst hp;exact λ⟨a,b⟩=>hx ⟨a,b,h1⟩
 ·refine .inr ⟨y,List.mem_append_left _ hy,hn,hyn,hyb,h0,λp hp hpn=>?_⟩;rcases mem_append.1 hp with hp | hp
  ·exact h p hp hpn
  ·rw [mem_singleton] at hp;subst hp;show x.v.born<=bo;exact Int.not_lt.1 λc=>hx ⟨hn,hpn,c⟩
theorem Y5.nonneg {D:List (Int×Im)} {n b bo:Int} (h:Y5 D n b bo):0<=bo:=by
 rcases h with ⟨_,rfl,_⟩ | ⟨_,_,_,_,_,h,_⟩
 ·exact Int.le_refl _
 ·omega
theorem Y5.res {D L:List (Int×Im)} {n b bo:Int} (h:Y5 D n b bo) (hp:D.Perm L):qbj L n b (decide (bo>0)):=by
 rcases h with ⟨rfl,rfl,h⟩ | ⟨y,hy,hn,hyn,hyb,h0,h⟩
 ·exact .inl ⟨rfl,rfl,λp hp'=>h p (hp.mem_iff.2 hp')⟩
 ·refine .inr ⟨dTq h0,y,hp.mem_iff.1 hy,hn,hyn,λp hp' hpn=>?_⟩;rw [hyb];exact h p (hp.mem_iff.2 hp') hpn
theorem q11 {m:Nat} (h:StM w base g r S) (hk:StOk m S) (n:Int) {K:Int->Bool->Ub}
  (hK:∀b ok w',qbj S.L n b ok->Uc w w'->K b ok w'):yP (some ⟨g,0,none⟩) n w K:=by
 refine qcg _ _ ?_;unfold vT;refine qJ (xx (x:=some r) (h.blk.cells 4 _ rfl) ?_);refine q3o h.map qzc λw1 hI1 hB1 hs1=>?_;refine qmp (Inv:=λk (s:Int×Int×Unit) w2=>∃D todo:List (Int×Im),k=todo.length/\qmu Im.enc w2 r w.heap.size S.L todo/\(D++todo).Perm S.L/\Y5 D n s.1 s.2.1/\Chg (λi=>i=w.heap.size) w w2/\w.heap.size<w2.heap.size) S.L.length
  ⟨[],S.L,rfl,hI1,.refl _,.inl ⟨rfl,rfl,λp hp=>by cases hp⟩,Chg.of_ext hB1,by omega⟩ ?_
 rintro k ⟨b,bo,⟨⟩⟩ w2 ⟨D,todo,rfl,hI,hp,hN,hc,hlt⟩ I hI';refine q8t hI qfi (λe=>?_) λk1 v1 w3 todo' hp1 hI3 hc3 hs3 hent=>?_
 ·subst e;rw [List.append_nil] at hp;exact hK _ _ w2 (hN.res hp) (hc.ext λi hi e=>by omega)
 ·have hxL:(k1,v1)∈S.L:=hp.mem_iff.1 (List.mem_append_right _ (hp1.mem_iff.2 List.mem_cons_self));refine ⟨k1,v1.v,w3,hent,?_⟩;refine qej λw4 hb4 hB4 hs4=>?_;have hc4:Chg (λi=>i=w.heap.size) w w4:=(hc.trans hc3 λi _ hi=>hi).trans (Chg.of_ext hB4) λi _ hi=>hi;have hI4:=hI3.ext hB4;have hlen:todo'.length<todo.length:=by rw [hp1.length_eq];simp
  have hpn:((D++[(k1,v1)])++todo').Perm S.L:=by
   refine List.Perm.trans ?_ hp;rw [List.append_assoc];exact hp1.symm.append_left D
  have hbo:=hN.nonneg;have hvb:=(hk.borns _ hxL).1;refine jpO λJ hJ=>?_;have fin:∀c:Bool,(c=true↔n≠0/\v1.v.number=n/\v1.v.born>bo)->J (c,()) w4:=λc hcc=>by
   refine hJ _ _ ?_;cases c with
   | true =>
    obtain ⟨h1,h2,h3⟩:=hcc.1 rfl;refine cT rfl (lI (x:=v1.v.born) (hb4.drew.cells 5 _ rfl) ?_);exact hI' _ _ _ ⟨_,_,rfl,hI4.keep rfl rfl,hpn,hN.yes h1 h2 h3 hbo,hc4.trans (Chg.of_ext (Below.refl _ w4).drew) λi _ hi=>hi,by show w.heap.size<w4.heap.size;omega⟩ hlen
   | false =>
    refine cF rfl ?_;exact hI' _ _ _ ⟨_,_,rfl,hI4,hpn,hN.no (λhc=>by have:=hcc.2 hc;cases this) hvb,hc4,by omega⟩ hlen
  refine cO (λe1=>?_) λe1=>?_
  ·have e1:=bne_iff_ne.1 e1;refine lI (x:=v1.v.number) (hb4.cells 0 _ rfl) ?_;refine cO (λe2=>?_) λe2=>?_
   ·have e2:=eq_of_beq e2;refine lI (x:=v1.v.born) (hb4.cells 5 _ rfl) (fin _ ?_);rw [decide_eq_true_iff];exact ⟨λh=>⟨e1,e2,h⟩,λh=>h.2.2⟩
   ·refine fin _ ⟨(λh=>by cases h),λh=>?_⟩;rw [h.2.1] at e2;simp at e2
  ·refine fin _ ⟨(λh=>by cases h),λh=>?_⟩;simp at e1;exact absurd e1 h.1
end
abbrev qzl (L:List (Int×Im)) (k:Int):Int:=(vOf L k).stamp
section
variable {w:World} {base g r n:Nat} {S:St}
theorem qne {x y:Int} {K:Int->Ub} (hK:∀c:Int,(c<0↔x<y)->K c w):kN x y w K:=by
 refine qd2 _ _ ?_;refine KH _ ?_;refine KH _ ?_;refine cF (by simp) (cF (by simp) (cO (λh=>?_) λh=>cO (λh'=>?_) λh'=>?_))
 ·exact hK _ ⟨λ_=>oTq h,λ_=>by decide⟩
 ·have:=oFq h;exact hK _ ⟨λh=>absurd h (by decide),λh=>absurd h this⟩
 ·have:=oFq h;exact hK _ ⟨λh=>absurd h (by decide),λh=>absurd h this⟩
theorem q2q {bx:Nat} (h:StM w base g r S) (hb:Blk w bx yU [(.pointer (some ⟨g,0,none⟩))]) (a b:Int) {K:Int->Ub}
  (hK:∀c:Int,(c<0↔qzl S.L a<qzl S.L b)->K c w.drew):yO a b ⟨bx,0,none⟩ w K:=by
 refine qby _ _ _ ?_;have hd:=h.drew;have e1:World.cell? w.drew ⟨bx,0,none⟩=some (.pointer (some ⟨g,0,none⟩)):=hb.drew.cell 0 rfl;have e2:World.cell? w.drew ((⟨g,0,none⟩:Addr).add 4)=some (.map (some r)):=hd.blk.cells 4 _ rfl;refine qM (x:=some ⟨g,0,none⟩) e1 (qJ (xx (x:=some r) e2 ?_));refine qM (x:=some ⟨g,0,none⟩) e1 (qJ (xx (x:=some r) e2 ?_));refine ⟨qru hd.map a ⟨e2,e1,qru hd.map b ⟨e2,e1,qne hK⟩⟩,?_⟩;exact qru hd.map b ⟨e2,e1,qru hd.map a ⟨e2,e1,qne hK⟩⟩
theorem zbv {bx:Nat} {x:Slc} {xs:List Int} (h:StM w base g r S) (hb:Blk w bx yU [(.pointer (some ⟨g,0,none⟩))]) (hx:Rd zX w x xs) (hne:0<xs.length) (hlen:xs.length<=1000000) {K:Int->Ub}
  (hK:∀m w',m∈xs->(∀k∈xs,qzl S.L m<=qzl S.L k)->Uc w w'->K m w'):kG x (.func (.func JT) #[] #[(.pointer (some ⟨bx,0,none⟩))]) w K:=by
 refine VK _ _ ?_;rw [hx.n];refine jpO λJ hJ=>?_;refine cF (dFq (by omega)) (hJ _ _ ?_);refine hx.ix (i:=0) rfl (by omega) (by omega) λh0=>?_;refine lI (x:=xs[((0:Int)).toNat]) (by simpa using h0 0 _ rfl) ?_;refine lpR (Inv:=λ(s:Int×Int×Unit) w2=>∃j:Nat,s.2.1=(j:Int)/\1<=j/\j<=xs.length/\s.1∈xs/\(∀k∈xs.take j,qzl S.L s.1<=qzl S.L k)/\Uc w w2) (μ:=λs=>xs.length-s.2.1.toNat) ?_ ?_
 ·refine ⟨1,rfl,le_refl _,hne,List.getElem_mem _,λk hk=>?_,Below.refl _ w⟩;cases xs with
  | nil=>simp at hne
  | cons a xs =>
   simp at hk;subst hk;exact Int.le_refl _
 ·rintro ⟨m,i,⟨⟩⟩ w2 ⟨j,hj,hj1,hj2,hm,hmin,hB⟩ I hI;have hj:i=(j:Int):=hj;subst hj;refine cO (λhlt=>?_) λhge=>?_
  ·have hlt:j<xs.length:=by have:=oTq hlt;omega
   have hx2:=hx.ext hB;refine hx2.ix (i:=(j:Int)) rfl (by omega) (by omega) λhc=>?_;refine lI (x:=xs[((j:Int)).toNat]) (by simpa using hc 0 _ rfl) ?_;have ej:xs[((j:Int)).toNat]'(by omega)=xs[j]:=by simp
   refine Go.Vc.callR_plain (by kernel_rfl) ?_;have hcall:yO (xs[((j:Int)).toNat]) m ⟨bx,0,none⟩ w2 (λt26 w3=>cond (decide (t26<(0:Int)))
     (ixK x (j:Int) 1 λt30=>ldI .i64 t30 w3 λt31=>I (t31,(i64.wrap ((j:Int)+(1:Int))),()) w3)
     (I (m,(i64.wrap ((j:Int)+(1:Int))),()) w3)):=by
    refine q2q (h.ext hB) (hb.ext hB) _ _ λc hc'=>?_;rw [qP (by omega)];have hBd:=hB.drew;have htake:∀k∈xs.take (j+1),k∈xs.take j\/k=xs[j]:=λk hk=>by
     rw [List.take_add_one,List.getElem?_eq_getElem hlt] at hk;rcases mem_append.1 hk with hk | hk
     ·exact .inl hk
     ·exact .inr (by simpa using hk)
    refine cO (λhneg=>?_) λhnn=>?_
    ·have hneg:=hc'.1 (oTq hneg);refine (hx.ext hBd).ix (i:=(j:Int)) rfl (by omega) (by omega) λhd=>?_;refine lI (x:=xs[((j:Int)).toNat]) (by simpa using hd 0 _ rfl) ?_;refine hI _ _ ⟨j+1,by simp,by omega,by omega,List.getElem_mem _,λk hk=>?_,hBd⟩ (by show xs.length-((j:Int)+1).toNat<xs.length-((j:Int)).toNat;omega);rcases htake k hk with hk | rfl
     ·have:=hmin k hk;show qzl S.L _<=_;simp only at hneg this ⊢;omega
     ·simp
    ·have hnn:¬_:=λhh=>absurd (hc'.2 hh) (oFq hnn);refine hI _ _ ⟨j+1,by simp,by omega,by omega,hm,λk hk=>?_,hBd⟩ (by show xs.length-((j:Int)+1).toNat<xs.length-((j:Int)).toNat;omega);rcases htake k hk with hk | rfl
     ·exact hmin k hk
     ·rw [ej] at hnn;exact Int.not_lt.1 hnn
   exact hcall
  ·have hge:¬_:=oFq hge;refine hK m w2 hm (λk hk=>hmin k ?_) hB;rw [List.take_of_length_le (by omega)];exact hk
end
section
variable {w:World} {base g r n:Nat} {S:St}
theorem zgn {w:World} {b:Nat} {s:Slc} {xs:List Int} {v:Int} {K:Slc->Ub} (hown:Go.Vc.Own zX w b s xs) (hb:b<=w.heap.size) (hl:xs.length<=1000000)
  (hK:∀r w',Go.Vc.Own zX w' b r (xs++[v])->Chg (λk=>s.blk=some k) w w'->(r.blk=s.blk\/∃k,r.blk=some k/\w.heap.size<=k)->K r w') :
  nw zA [(Ua v)] w λt w1=>apK PG #[jP,jP] jP s (⟨(some t),1,1⟩:Slc) w1 K:=by
 refine nwb λw1 hb1 hB1 hs1=>?_;have hr:Rd zX w1 ⟨some ⟨w.heap.size,0,none⟩,1,1⟩ [v]:=ZU (E:=zX) hb1 rfl;refine jN qc5 (hown.ext hB1) hr (by omega) (by rw [qja];simp;omega) (by simp [maxLen];omega) λq w2 ho hg hq=>hK q w2 ho ((Chg.of_ext (S:=λk=>s.blk=some k) hB1).trans (Chg.of_grown hg λk hk=>hk) λi _ hi=>hi) ?_;rcases hq with e | e
 ·exact .inl e
 ·exact .inr ⟨_,e,by omega⟩
theorem qzq {L:List (Int×Im)} (hs:Srt L) {p:Int×Im} (hp:p∈L):vOf L p.1=p.2.v:=by
 unfold vOf;rw [(xG hs).2 hp];rfl
theorem qqu {m:Nat} {n:Int} (h:StM w base g r S) (hk:StOk m S) (hm:m<=1000) (hn:0<=n) (hq:n<=S.quota) {K:Slc->Ub}
  (hK:∀q w',StM w' base g r (S.room n).1->Go.Vc.Own zX w' w.heap.size q (S.room n).2->Chg (onS g r) w w'->K q w'):vu (some ⟨g,0,none⟩) n w K:=by
 refine qf6 _ _ ?_;refine nwb λw1 hb1 hB1 hs1=>?_;have hglt:=h.blk.lt;have hrlt:=h.map.lt;refine qmp (Inv:=λk (s:Slc×Unit) w2=>∃S1 G,k=S1.L.length/\StM w2 base g r S1/\StOk m S1/\S1.quota=S.quota/\S1.roomF n S1.L.length G=S.room n/\G.length+S1.L.length<=m/\Go.Vc.Own zX w2 w.heap.size s.1 G/\Blk w2 w.heap.size yU [(.pointer (some ⟨g,0,none⟩))]/\Chg (λi=>onS g r i\/i=w.heap.size) w w2/\w.heap.size<w2.heap.size) S.L.length
  ⟨S,[],rfl,h.ext hB1,hk,rfl,rfl,by have:=hk.len;simpa using this,Go.Vc.Own.nil _ _ _,hb1,Chg.of_ext hB1,by omega⟩ ?_
 rintro k ⟨gone,⟨⟩⟩ w2 ⟨S1,G,rfl,hS,hk1,hqq,hroom,hGl,hO,hb2,hc2,hlt2⟩ I hI;have hq1:=hk1.q1;have hq0:=hk1.q0;have hO:Go.Vc.Own zX w2 w.heap.size gone G:=hO;have hchg:∀{w3:World},Chg (λi=>onS g r i\/i=w.heap.size) w w3->Chg (onS g r) w w3:=λhc=>hc.mono λi hi e=>e.resolve_right (by omega);refine jpO λJ hJ=>?_;have e1:World.cell? w2.drew ⟨w.heap.size,0,none⟩=some (.pointer (some ⟨g,0,none⟩)):=hb2.drew.cell 0 rfl;refine qM (x:=some ⟨g,0,none⟩) e1 (qJ (lI (x:=S1.used) (hS.drew.blk.cells 2 _ rfl) ?_));refine qM (x:=some ⟨g,0,none⟩) e1 (qJ (lI (x:=S1.quota) (hS.drew.blk.cells 0 _ rfl) ?_));rw [qP (by omega)];have hBd:=(Below.refl w2.heap.size w2).drew;have stop:¬(S1.used>S1.quota-n/\0<S1.L.length)->K gone w2.drew:=λhno=>by
  have hend:S1.roomF n S1.L.length G=(S1,G):=by
   cases hL:S1.L.length with
   | zero=>rfl
   | succ f =>
    unfold St.roomF;rw [if_neg hno]
  rw [hend] at hroom;refine hK gone w2.drew ?_ ?_ (hchg (hc2.trans (Chg.of_ext hBd) λi _ hi=>hi))
  ·rw [<-hroom];exact hS.drew
  ·rw [<-hroom];exact hO.drew
 refine cO (λhgt=>?_) λhgt=>?_
 ·have hgt:=oTq hgt;refine qM (x:=some ⟨g,0,none⟩) e1 (qJ (xx (x:=some r) (hS.drew.blk.cells 4 _ rfl) ?_));refine ⟨(S1.L.length:Int),w2.drew,hS.drew.map.len qzc zA,?_⟩;refine cO (λhpos=>?_) λhpos=>?_
  ·have hpos:=oTq hpos;refine hJ _ _ ?_;refine qM (x:=some ⟨g,0,none⟩) e1 (qJ (xx (x:=some r) (hS.drew.blk.cells 4 _ rfl) (qwx ?_)));have hBa:Uc w2 (w2.drew.alloc (.cells #[.map (some r)] 77)):=hBd.alloc (le_refl _) _;have hba:Blk (w2.drew.alloc (.cells #[.map (some r)] 77)) w2.heap.size 77 [.map (some r)]:=Blk.new w2.drew 77 [.map (some r)];have hsa:(w2.drew.alloc (.cells #[.map (some r)] 77)).heap.size=w2.heap.size+1:=by show (w2.heap.push _).size=_;simp
   have hl:=hk1.len;refine qxy (L:=S1.L) (hS.map.ext hBa) (by omega) (hba.cell 0 rfl) λq w4 ss hss ho4 hB4=>?_;have hB24:Uc w2 w4:=hBa.trans (hB4.mono (by omega));have hS4:=hS.ext hB24;have hssl:ss.length=S1.L.length:=by rw [hss.length_eq,List.length_map]
   refine zbv hS4 (hb2.ext hB24) ho4.rd (by omega) (by omega) λmn w5 hmn hmin hB5=>?_;have hS5:=hS4.ext hB5;have hB25:=hB24.trans (hB5.mono hB24.size);have hb5:=hb2.ext hB25;have heq:ya S1.L=mn:=by
    obtain ⟨p,hp,rfl⟩:=List.mem_map.1 (hss.mem_iff.1 hmn);refine q49 hk1 hp λp' hp'=>?_;have:=hmin p'.1 (hss.mem_iff.2 (List.mem_map.2 ⟨p',hp',rfl⟩));unfold qzl at this
    rwa [qzq hk1.srt hp,qzq hk1.srt hp'] at this
   refine qM (x:=some ⟨g,0,none⟩) (hb5.cell 0 rfl) ?_;refine qox hS5 hk1 mn λw6 hS6 hc6=>?_;have hO5:=hO.ext hB25;have hO6:=hO5.chg hc6 λk hk e=>by
    rcases e with e | e
    ·exact qm1 hO5 hS5.blk (by decide) k hk e
    ·exact hS5.map.ne_own hO5 k hk e
   have hs5:=hB25.size;have hs6:=hc6.size;have hb6:=hb5.chg hc6 λe=>by rcases e with e | e<;>omega
   refine zgn hO6 (by omega) (by omega) λq7 w7 ho7 hc7 _=>?_;have hS7:StM w7 base g r (S1.drop mn):=hS6.keep hc7 (λe=>qm1 hO6 hS6.blk (by decide) g e rfl) (λe=>hS6.map.ne_own hO6 r e rfl) λp hp k hk e=>(hS6.img p hp).ne_o hO6 (by decide) k hk e;have hb7:=hb6.chg hc7 λe=>qm1 hO6 hb6 (by decide) _ e rfl;obtain ⟨x,hx⟩:=qmm (L:=S1.L) (by intro e;rw [e] at hpos;simp at hpos);rw [heq] at hx;have hdl:=qml hx;have hc27:Chg (λi=>onS g r i\/i=w.heap.size) w w7:=by
    refine ((hc2.trans (Chg.of_ext hB25) λi _ hi=>hi).trans hc6 λi _ hi=>.inl hi).trans hc7 λi hi e=>?_;have:=(hO6.lt i e).1;omega
   refine hI _ _ _ ⟨S1.drop mn,G++[mn],rfl,hS7,qi9 hk1 mn,hqq,?_,?_,ho7,hb7,hc27,by have:=hc7.size;omega⟩ hdl
   ·rw [<-hroom];cases hL:S1.L.length with
    | zero=>omega
    | succ f =>
     have:S1.roomF n (f+1) G=(S1.drop (ya S1.L)).roomF n f (G++[ya S1.L]):=by
      show (if S1.used>S1.quota-n/\0<S1.L.length then St.roomF n f (S1.drop (ya S1.L)) (G++[ya S1.L]) else (S1,G))=_;rw [if_pos ⟨hgt,by omega⟩]
     rw [this,heq,q89 n (f:=f) (by show (Go.Vc.delL S1.L mn).length<=f;omega)]
   ·have:(S1.drop mn).L.length<S1.L.length:=hdl;simp;omega
  ·have hpos:=oFq hpos;exact stop λhc=>hpos (by omega)
 ·have hgt:=oFq hgt;exact stop λhc=>hgt hc.1
def St.reserve (S:St) (n:Int):St×List Int×Int :=
 if n<0 then (S,[],1) else if n>S.quota then (S,[],6) else ((({ S with res:=n }:St).room n).1,(({ S with res:=n }:St).room n).2,0)
theorem ql1 {m:Nat} (h:StOk m S) (n:Int):StOk m { S with res:=n }:=⟨h.q0,h.q1,h.used,h.fits,h.len,h.clk0,h.clk,h.srt,h.keys,h.stamps,h.borns,h.st1,h.bo1⟩
theorem qr8 {m:Nat} (h:StOk m S) (n:Int):StOk m (S.reserve n).1:=by
 unfold St.reserve;split
 ·exact h
 ·split
  ·exact h
  ·exact qg2 n _ (ql1 h n)
theorem qxm {m:Nat} {n:Int} (h:StM w base g r S) (hk:StOk m S) (hm:m<=1000) {K:Slc->Int->Ub}
  (hK:∀q w',StM w' base g r (S.reserve n).1->Go.Vc.Own zX w' w.heap.size q (S.reserve n).2.1->Chg (onS g r) w w'->K q (S.reserve n).2.2 w'):vR (some ⟨g,0,none⟩) n w K:=by
 refine qa8 _ _ ?_;unfold St.reserve at hK;refine cO (λe=>?_) λe=>?_
 ·have e:=oTq e;rw [if_pos e] at hK;exact hK _ w h (Go.Vc.Own.nil _ _ _) (Chg.refl _ _)
 ·have e:=oFq e;rw [if_neg e] at hK;refine qJ (lI (x:=S.quota) (h.blk.cells 0 _ rfl) ?_);refine cO (λe2=>?_) λe2=>?_
  ·have e2:=oTq e2;rw [if_pos e2] at hK;exact hK _ w h (Go.Vc.Own.nil _ _ _) (Chg.refl _ _)
  ·have e2:=oFq e2;rw [if_neg e2] at hK;refine qJ ?_;rw [qB];refine qz h.blk (by simp [St.cells]) λw1 hb1 hg1 hs1=>?_;have hc:Chg (onS g r) w w1:=(Go.Vc.Chg.gg hg1).mono λi _ hi=>.inl hi;have h1:StM w1 base g r { S with res:=n }:=⟨hb1,h.map.chg (Go.Vc.Chg.gg hg1) h.ne,λp hp=>(h.img p hp).chg hc (h.own_blk p hp)⟩;refine qqu h1 (ql1 hk n) hm (by omega) (by show n<=S.quota;omega) λq w2 hS2 ho2 hc2=>?_;exact hK q w2 hS2 (ho2.base (by omega)) (hc.trans hc2 λi _ hi=>hi)
end
def qht (W H:Int):Bool:=(W==0 && H==0) || (decide (1<=W) && decide (W<=16384) && decide (1<=H) && decide (H<=16384) && decide (W*H<=67108864))
def qs6 (W H:Int) (n:Nat):Bool:=qht W H && ((n:Int)==4*W*H)
def qhe (n:Int):Bool:=decide (0<=n) && decide (n<=4294967295)
theorem qk2 {n:Int} {w:World} {K:Bool->Ub} (hK:K (qhe n) w):Qc n w K:=by
 refine qj5 _ ?_;unfold qhe at hK;refine cO (λh=>?_) λh=>?_
 ·rw [show decide (0<=n)=true from h,Bool.true_and] at hK;exact hK
 ·rw [show decide (0<=n)=false from h,Bool.false_and] at hK;exact hK
theorem q0n {W H:Int} (h1:1<=W) (h2:W<=16384) (h3:1<=H) (h4:H<=16384):1<=W*H/\W*H<=268435456:=by
 have a:=Int.mul_le_mul h1 h3 (by omega) (by omega);have b:=Int.mul_le_mul h2 h4 (by omega) (by omega);omega
theorem q02 {W H:Int} {w:World} {K:Bool->Ub} (hK:K (qht W H) w):Jo W H w K:=by
 refine KO _ _ ?_;have tail:qht W H=(decide (1<=W) && decide (W<=16384) && decide (1<=H) && decide (H<=16384) && decide (W*H<=67108864))->cond (decide (W>=(1:Int)))
     (cond (decide (W<=(16384:Int)))
       (cond (decide (H>=(1:Int)))
        (cond (decide (H<=(16384:Int)))
          (K (decide ((i64.wrap (W*H))<=(67108864:Int))) w)
          (K false w))
        (K false w))
       (K false w))
     (K false w):=λe=>by
  rw [e] at hK;refine cO (λh1=>?_) λh1=>?_
  ·have g1:=oTq h1;rw [show decide (1<=W)=true from h1] at hK;refine cO (λh2=>?_) λh2=>?_
   ·have g2:=oTq h2;rw [h2] at hK;refine cO (λh3=>?_) λh3=>?_
    ·have g3:=oTq h3;rw [show decide (1<=H)=true from h3] at hK;refine cO (λh4=>?_) λh4=>?_
     ·have g4:=oTq h4;rw [h4] at hK;have:=q0n g1 g2 g3 g4;rw [qP (by omega)];simpa using hK
     ·rw [h4] at hK;simpa using hK
    ·rw [show decide (1<=H)=false from h3] at hK;simpa using hK
   ·rw [h2] at hK;simpa using hK
  ·rw [show decide (1<=W)=false from h1] at hK;simpa using hK
 refine cO (λh1=>?_) λh1=>?_
 ·refine cO (λh2=>?_) λh2=>?_
  ·unfold qht at hK;rw [h1,h2] at hK;simpa using hK
  ·exact tail (by unfold qht;rw [h1,h2];rfl)
 ·exact tail (by unfold qht;rw [h1];rfl)
theorem q4h {W H:Int} (h:qht W H=true):0<=W/\W<=16384/\0<=H/\H<=16384/\0<=W*H/\W*H<=67108864:=by
 unfold qht at h;simp only [Bool.or_eq_true,Bool.and_eq_true,beq_iff_eq,decide_eq_true_eq] at h;rcases h with ⟨rfl,rfl⟩ | ⟨⟨⟨⟨h1,h2⟩,h3⟩,h4⟩,h5⟩
 ·decide
 ·have:=q0n h1 h2 h3 h4;omega
section
variable {w:World} {base g r n:Nat} {S:St}
theorem q4o {m:qa} {K:Bool->Ub} (hK:∀w',Uc w w'->K (qs6 m.W m.H m.P.n) w'):kH m w K:=by
 refine qb0 _ ?_;refine nwb λw1 hb1 hB1 hs1=>?_;refine lI (x:=m.W) (hb1.cells 0 _ rfl) (lI (x:=m.H) (hb1.cells 1 _ rfl) (q02 ?_));have hK:=hK w1 hB1;unfold qs6 at hK;refine cO (λh=>?_) λh=>?_
 ·rw [h,Bool.true_and] at hK;have hb:=q4h h;refine lSl (x:=m.P) (hb1.cells 2 _ rfl) (lI (x:=m.W) (hb1.cells 0 _ rfl) (lI (x:=m.H) (hb1.cells 1 _ rfl) ?_));have h4:(4:Int)*m.W*m.H=4*(m.W*m.H):=Int.mul_assoc _ _ _;rw [qP (x:=4*m.W) (by omega),qP (by omega)];exact hK
 ·rw [h,Bool.false_and] at hK;exact hK
def qnx (L:List (Int×Im)):Nat->Int->Int
 | 0,k=>k
 | f+1,k=>if (zt L k).isSome then qnx L f (k+1) else k
def qbl (S:St) (id num W H:Int) (n:Nat):Int:=if qs6 W H n && !(W==0) && qhe id && qhe num then (if (n:Int)>S.quota then 6 else 0) else 1
def St.putPre (S:St) (id:Int) (n:Nat):St×List Int:=(if id=0 then ({ S with res:=0 }:St) else ({ S with res:=0 }:St).drop id).room n
def Vy (L:List (Int×Im)) (id:Int):Int:=if id=0 then qnx L 2000 1099511627776 else id
def St.putAt (S:St) (i num W H:Int) (P:Slc) (bs:List UInt8):St:={ S with clock:=S.clock+1,used:=S.used+bs.length,L:=ko S.L i ⟨⟨num,⟨W,H,P⟩,S.clock+1,S.clock+1⟩,bs⟩ }
theorem qlz {L:List (Int×Im)}:∀(f:Nat) {k:Int} {j:Nat},j<f->zt L (k+j)=none->zt L (qnx L f k)=none/\k<=qnx L f k/\qnx L f k<=k+j
 | 0,k,j,h,_=>by omega
 | f+1,k,j,h,hn=>by
  unfold qnx;by_cases hs:(zt L k).isSome
  ·rw [if_pos hs];cases j with
   | zero =>
    simp at hn;rw [hn] at hs;cases hs
   | succ j =>
    have:=qlz f (k:=k+1) (j:=j) (by omega) (by rw [show k+1+(j:Int)=k+((j+1:Nat):Int) by omega];exact hn);exact ⟨this.1,by omega,by omega⟩
  ·rw [if_neg hs];exact ⟨by simpa using hs,Int.le_refl _,by omega⟩
theorem qyf (h:StOk n S):zt S.L (1099511627776+((n+1:Nat):Int))=none:=by
 cases hl:zt S.L (1099511627776+((n+1:Nat):Int)) with
 | none=>rfl
 | some x =>
  have:=h.keys _ ((xG h.srt).1 hl);simp at this;omega
theorem qz4 (h:StOk n S) (hn:n<=1000) {id:Int} (hid:qhe id=true):0<Vy S.L id/\Vy S.L id<=1099511627776+((n+1:Nat):Int):=by
 unfold qhe at hid;simp only [Bool.and_eq_true,decide_eq_true_eq] at hid;unfold Vy;split
 ·have:=qlz 2000 (k:=1099511627776) (j:=n+1) (by omega) (qyf h);omega
 ·omega
theorem q4q (h:StOk n S) (hn:n<=1000) {id:Int} (hno:id≠0->zt S.L id=none):zt S.L (Vy S.L id)=none:=by
 unfold Vy;split
 ·exact (qlz 2000 (k:=1099511627776) (j:=n+1) (by omega) (qyf h)).1
 ·rename_i hne;exact hno hne
theorem q74 {L:List (Int×Im)} {k:Int} {x:Im} (h:zt L k=none):JK (ko L k x)=JK L+x.bs.length:=by
 have hno:=qpn h
 induction L with
 | nil=>simp [ko,JK]
 | cons a L ih =>
  unfold ko;split
  ·rw [xN];simp only;omega
  ·rename_i hlt;rw [if_neg λe=>hno a List.mem_cons_self e.symm,xN,xN];have h2:zt L k=none:=by
    cases hl:zt L k with
    | none=>rfl
    | some y =>
     exfalso;unfold zt at hl;obtain ⟨q,hq,_⟩:=Option.map_eq_some_iff.1 hl;have h3:=List.find?_some hq;exact hno q (mem_cons_of_mem _ (List.mem_of_find?_eq_some hq)) (by simpa using h3)
   rw [ih h2 λp hp=>hno p (mem_cons_of_mem _ hp)];omega
theorem q4l {L:List (Int×Im)} (k:Int) (x:Im):(ko L k x).length<=L.length+1:=by
 induction L with
 | nil=>simp [ko]
 | cons a L ih =>
  unfold ko;split
  ·simp
  ·split
   ·simp
   ·simp;omega
theorem q80 (h:StOk n S) {i num W H:Int} {P:Slc} {bs:List UInt8} (hi:zt S.L i=none) (hi1:0<i/\i<=1099511627776+((n+1:Nat):Int)) (hf:S.used+bs.length<=S.quota):StOk (n+1) (S.putAt i num W H P bs):=by
 have hm:=yI h.srt i (⟨⟨num,⟨W,H,P⟩,S.clock+1,S.clock+1⟩,bs⟩:Im);have hu:=h.used;have hc:=h.clk;have hc0:=h.clk0;have hsz:=q74 (x:=(⟨⟨num,⟨W,H,P⟩,S.clock+1,S.clock+1⟩,bs⟩:Im)) hi;refine ⟨h.q0,h.q1,?_,hf,?_,by show 0<=S.clock+1;omega,by show S.clock+1<=_;omega,qc8 h.srt _ _,?_,?_,?_,?_,?_⟩
 ·show S.used+(bs.length:Int)=(JK (ko _ _ _):Int);rw [hsz];simp;omega
 ·have:=q4l (L:=S.L) i (⟨⟨num,⟨W,H,P⟩,S.clock+1,S.clock+1⟩,bs⟩:Im);have:=h.len;show (ko _ _ _).length<=_;omega
 ·rintro ⟨a,b⟩ hp;rcases (hm a b).1 hp with ⟨rfl,rfl⟩ | ⟨_,hp⟩
  ·exact hi1
  ·have:=h.keys _ hp;simp at this ⊢;omega
 ·rintro ⟨a,b⟩ hp;show 0<b.v.stamp/\b.v.stamp<=S.clock+1;rcases (hm a b).1 hp with ⟨rfl,rfl⟩ | ⟨_,hp⟩
  ·exact ⟨by show 0<S.clock+1;omega,Int.le_refl _⟩
  ·have:=h.stamps _ hp;simp at this;omega
 ·rintro ⟨a,b⟩ hp;show 0<b.v.born/\b.v.born<=S.clock+1;rcases (hm a b).1 hp with ⟨rfl,rfl⟩ | ⟨_,hp⟩
  ·exact ⟨by show 0<S.clock+1;omega,Int.le_refl _⟩
  ·have:=h.borns _ hp;simp at this;omega
 ·rintro ⟨a,b⟩ hp ⟨a',b'⟩ hp' (e:b.v.stamp=b'.v.stamp);rcases (hm a b).1 hp with ⟨rfl,rfl⟩ | ⟨_,hq⟩
  ·rcases (hm a' b').1 hp' with ⟨rfl,rfl⟩ | ⟨_,hp'⟩
   ·rfl
   ·have:=h.stamps _ hp';simp at this e;omega
  ·rcases (hm a' b').1 hp' with ⟨rfl,rfl⟩ | ⟨_,hp'⟩
   ·have:=h.stamps _ hq;simp at this e;omega
   ·exact h.st1 _ hq _ hp' e
 ·rintro ⟨a,b⟩ hp ⟨a',b'⟩ hp' (e:b.v.born=b'.v.born);rcases (hm a b).1 hp with ⟨rfl,rfl⟩ | ⟨_,hq⟩
  ·rcases (hm a' b').1 hp' with ⟨rfl,rfl⟩ | ⟨_,hp'⟩
   ·rfl
   ·have:=h.borns _ hp';simp at this e;omega
  ·rcases (hm a' b').1 hp' with ⟨rfl,rfl⟩ | ⟨_,hp'⟩
   ·have:=h.borns _ hq;simp at this e;omega
   ·exact h.bo1 _ hq _ hp' e
end
section
variable {w:World} {base g r n:Nat} {S:St}
theorem qv7 {base:Nat} {s:Slc} {xs:List UInt8} {K:Slc->Ub} (h:Hold w base s xs) (hK:∀q:Slc,Hold w base q xs->q.n=xs.length->K q w):jz s w K:=by
 refine Yq _ ?_;have hn:=h.rd.n;refine h.rd.slK3 (l:=0) (m:=xs.length) (k:=1) rfl (.inl ⟨rfl,rfl⟩) (by rw [hn]) (by rw [hn]) (Nat.zero_le _) (le_refl _) λhr=>?_;rw [List.take_of_length_le (le_refl _),List.drop_zero] at hr;refine hK _ ⟨hr,λk hk=>?_⟩ (by show xs.length-0=_;omega);obtain ⟨a,ha,hak⟩:=slk.1 hk;obtain ⟨b,hb,hab⟩:=Go.Vc.cut_block ha;exact h.blk k (slk.2 ⟨b,hb,by omega⟩)
theorem q95 {i num:Int} {m:qa} {bs:List UInt8} {mb:Nat} {w6:World} {K:Ub} (h:StM w6 base g r S) (hk:StOk n S) (hn:n<=1000) (hbase:base<=w6.heap.size)
  (hb:Blk w6 mb qt (qa.rep.cells m)) (hP:Rd qn w6 m.P bs) (hPg:0<bs.length->∀a,m.P.a=some a->a.block≠g) (hf:S.used+bs.length<=S.quota)
  (hi1:0<i/\i<=1099511627776+((n+1:Nat):Int))
  (hK:∀P w',StM w' base g r (S.putAt i num m.W m.H P bs)->Chg (λk=>onS g r k\/k=mb) w6 w'->(∀k,P.blk=some k->w6.heap.size<=k)->K w') :
    qG (some ⟨g,0,none⟩) λt60=>
    ldI .i64 (t60.add 3) w6 λt62=>
    qG (some ⟨g,0,none⟩) λt64=>
    stK (t64.add 3) [(Ua (i64.wrap (t62+(1:Int))))] w6 λw7=>
    jg ((⟨mb,0,none⟩:Addr).add 2) w7 λt67=>
    zT t67 w7 λt68 w8=>
    jz t68 w8 λt69 w9=>
    stK ((⟨mb,0,none⟩:Addr).add 2) [(.slice t69.a t69.n t69.c)] w9 λw10=>
    qG (some ⟨g,0,none⟩) λt72=>
    ldM (t72.add 4) w10.drew λt74=>
    ldS qa.rep (⟨mb,0,none⟩:Addr) w10.drew λ(t77:qa) =>
    qG (some ⟨g,0,none⟩) λt79=>
    ldI .i64 (t79.add 3) w10.drew λt81=>
    qG (some ⟨g,0,none⟩) λt83=>
    ldI .i64 (t83.add 3) w10.drew λt85=>
    qjp PG (Instr.mapUpdate qF (.map t74) (Ua i) (.agg #[(Ua num),(Ua t77.W),(Ua t77.H),(.slice t77.P.a t77.P.n t77.P.c),(Ua t81),(Ua t85)])) w10.drew λ_ w11=>
    qG (some ⟨g,0,none⟩) λt88=>
    ldI .i64 (t88.add 2) w11.drew λt90=>
    jg ((⟨mb,0,none⟩:Addr).add 2) w11.drew λt92=>
    qG (some ⟨g,0,none⟩) λt95=>
    stK (t95.add 2) [(Ua (i64.wrap (t90+((t92.n:Nat):Int))))] w11.drew λw12=>
    K w12:=by
 have hc0:=hk.clk0;have hc1:=hk.clk;have hu:=hk.used;have hq1:=hk.q1;have hgl:=h.blk.lt;have hrl:=h.map.lt;have hmg:mb≠g:=hb.ne_t h.blk (by decide);have hmr:r≠mb:=h.map.ne_blk hb;refine qJ (lI (x:=S.clock) (h.blk.cells 3 _ rfl) (qJ ?_));rw [qB,qP (by omega)];refine qz h.blk (by simp [St.cells]) λw7 hb7 hg7 hs7=>?_;have hb7:Blk w7 g zz (({ S with clock:=S.clock+1 }:St).cells r):=hb7;have c7:Chg (λk=>onS g r k\/k=mb) w6 w7:=(Go.Vc.Chg.gg hg7).mono λi _ hi=>.inl (.inl hi);have hm7:zG Im.enc w7 r S.L:=h.map.chg (Go.Vc.Chg.gg hg7) h.ne;have hbm7:=hb.chg (Go.Vc.Chg.gg hg7) hmg;have hP7:Rd qn w7 m.P bs:=YU hP (Go.Vc.Chg.gg hg7) λhp a ha e=>hPg hp a ha e;refine lSl (x:=m.P) (hbm7.cells 2 _ rfl) ?_;refine qh2 hP7 (by omega) λq8 w8 ho8 hB8=>?_;refine qv7 (q0h ho8) λq9 hq9 hqn=>?_;rw [qB];have hs8:=hB8.size;have hbm8:=hbm7.ext hB8;have hb8:=hb7.ext hB8;have hm8:=hm7.ext hB8;refine qz hbm8 (by simp [qa.rep]) λw10 hb10 hg10 hs10=>?_;have hb10:Blk w10 mb qt (qa.rep.cells { m with P:=q9 }):=hb10;have hbg10:=hb8.chg (Go.Vc.Chg.gg hg10) λe=>hmg e.symm;have hm10:zG Im.enc w10 r S.L:=hm8.chg (Go.Vc.Chg.gg hg10) hmr;have hq10:Hold w10 w7.heap.size q9 bs:=hq9.chg (Go.Vc.Chg.gg hg10) λk hk e=>hq9.ne_b hbm8 (by decide) k hk e;refine qJ (xx (x:=some r) (hbg10.drew.cells 4 _ rfl) ?_);refine qw (x:=({ m with P:=q9 }:qa)) hb10.drew.cells ?_;refine qJ (lI (x:=S.clock+1) (hbg10.drew.cells 3 _ rfl) ?_);refine qJ (lI (x:=S.clock+1) (hbg10.drew.cells 3 _ rfl) ?_);obtain ⟨w11,hr11,hm11,hc11,hs11⟩:=(hm10.keep (w':=w10.drew) rfl).update qzc q23 (k:=i) (by omega) (enc:=Im.enc) ⟨⟨num,⟨m.W,m.H,q9⟩,S.clock+1,S.clock+1⟩,bs⟩;refine qym hr11 ?_;have hbg11:=hbg10.drew.chg hc11 λe=>h.ne e.symm;have hb11:=hb10.drew.chg hc11 λe=>hmr e.symm;have hq11:=hq10.drew.chg hc11 λk hk e=>hq10.ne_m hm10 k hk e;refine qJ (lI (x:=S.used) (hbg11.drew.cells 2 _ rfl) ?_);refine lSl (x:=q9) (hb11.drew.cells 2 _ rfl) ?_;refine qJ ?_;rw [qB,hqn,qP (by omega)];refine qz hbg11.drew (by simp [St.cells]) λw12 hb12 hg12 hs12=>?_;have c8:Chg (λk=>onS g r k\/k=mb) w6 w10:=(c7.trans (Chg.of_ext hB8) λi _ hi=>hi).trans (Go.Vc.Chg.gg hg10) λi _ hi=>.inr hi;have c11:Chg (λk=>onS g r k\/k=mb) w6 w11:=(c8.trans (Chg.of_ext (Below.refl _ w10).drew) λi _ hi=>hi).trans hc11 λi _ hi=>.inl (.inr hi);have c12:Chg (λk=>onS g r k\/k=mb) w6 w12:=(c11.trans (Chg.of_ext (Below.refl _ w11).drew) λi _ hi=>hi).trans (Go.Vc.Chg.gg hg12) λi _ hi=>.inl (.inl hi);refine hK q9 w12 ⟨hb12,(hm11.keep (w':=w11.drew) rfl).chg (Go.Vc.Chg.gg hg12) h.ne,λp hp=>?_⟩ c12 (λk hk=>by have:=(hq9.lt k hk).1;omega);obtain ⟨a,b⟩:=p;rcases (yI hk.srt _ _ a b).1 hp with ⟨rfl,rfl⟩ | ⟨_,hp'⟩
 ·exact (hq11.drew.chg (Go.Vc.Chg.gg hg12) λk hk e=>hq11.ne_b hbg11 (by decide) k hk e).base (by omega)
 ·refine (h.img _ hp').chg c12 λk hk e=>?_;rcases e with e | e
  ·exact h.own_blk _ hp' k hk e
  ·exact (h.img _ hp').ne_b hb (by decide) k hk e
theorem zar {id num:Int} {m:qa} {bs:List UInt8} (h:StM w base g r S) (hk:StOk n S) (hn:n<=1000) (hbase:base<=w.heap.size)
  (hP:Rd qn w m.P bs) (hPg:0<bs.length->∀a,m.P.a=some a->¬onS g r a.block) {K:Int->Slc->Int->Ub}
  (hE:∀w',qbl S id num m.W m.H bs.length≠0->StM w' base g r S->Uc w w'->K 0 ⟨none,0,0⟩ (qbl S id num m.W m.H bs.length) w')
  (hK:∀P q w',qbl S id num m.W m.H bs.length=0->StM w' base g r ((S.putPre id bs.length).1.putAt (Vy (S.putPre id bs.length).1.L id) num m.W m.H P bs)->StOk (n+1) ((S.putPre id bs.length).1.putAt (Vy (S.putPre id bs.length).1.L id) num m.W m.H P bs) ->
   Go.Vc.Own zX w' w.heap.size q (S.putPre id bs.length).2->Chg (onS g r) w w'->(∀k,P.blk=some k->w.heap.size<=k)->K (Vy (S.putPre id bs.length).1.L id) q 0 w') :
  ZX (some ⟨g,0,none⟩) id num m w K:=by
 refine qib _ _ _ _ ?_;have hPn:=hP.n;have hgl:=h.blk.lt;have hrl:=h.map.lt;refine nwb λw1 hb1 hB1 hs1=>?_;refine jpO λJ1 hJ1=>jpO λJ5 hJ5=>?_;have good:∀w2,Uc w w2->Blk w2 w.heap.size qt (qa.rep.cells m)->(qhe id=true)->(bs.length:Int)<=S.quota->qbl S id num m.W m.H bs.length=0->J1 () w2:=λw2 hB2 hb2 hnum hq he=>by
  refine hJ1 _ _ ?_;have h2:=h.ext hB2;have hs2:=hB2.size;have hl2:=hb2.lt;refine qns h2 λw3 h3 hc3 hs3=>?_;have hk3:StOk n { S with res:=0 }:=ql1 hk 0;have hb3:=hb2.chg hc3 λe=>by rcases e with e | e<;>omega
  refine jpO λJ2 hJ2=>?_;have next:∀w4 (S1:St),S1=(if id=0 then ({ S with res:=0 }:St) else ({ S with res:=0 }:St).drop id)->StM w4 base g r S1->StOk n S1->S1.quota=S.quota->(id≠0->zt S1.L id=none)->Chg (onS g r) w3 w4->J2 () w4:=λw4 S1 hS1 h4 hk4 hqq hno hc4=>by
   refine hJ2 _ _ ?_;have hb4:=hb3.chg hc4 λe=>by rcases e with e | e<;>omega
   refine lSl (x:=m.P) (hb4.cells 2 _ rfl) ?_;rw [hPn];refine qqu h4 hk4 hn (by omega) (by omega) λq5 w5 h5 ho5 hc5=>?_;have hpre:S.putPre id bs.length=S1.room bs.length:=by unfold St.putPre;rw [hS1]
   rw [hpre] at hK;have hk5:StOk n (S1.room bs.length).1:=qg2 _ _ hk4;have hfit:(S1.room bs.length).1.used<=S1.quota-bs.length:=qs0 (by omega) _ hk4 (by omega) (le_refl _);have hfld:=(qod (bs.length:Int) S1.L.length S1 []).1;have hfld:(S1.room bs.length).1.quota=S1.quota:=hfld;have hno5:id≠0->zt (S1.room bs.length).1.L id=none:=λe=>by
    have hno:=hno e;have key:∀(f:Nat) (S':St) (G:List Int),zt S'.L id=none->zt (S'.roomF bs.length f G).1.L id=none:=by
     intro f
     induction f with
     | zero=>exact λ_ _ h=>h
     | succ f ih =>
      intro S' G h;unfold St.roomF;split
      ·refine ih _ _ ?_;show zt (Go.Vc.delL S'.L _) id=none;cases hl:zt (Go.Vc.delL S'.L (ya S'.L)) id with
       | none=>rfl
       | some x =>
        exfalso;unfold zt at hl;obtain ⟨p,hp,_⟩:=Option.map_eq_some_iff.1 hl;have h3:=List.find?_some hp;exact qpn h _ (V9 (List.mem_of_find?_eq_some hp)) (by simpa using h3)
      ·exact h
    exact key _ _ _ hno
   have c45:Chg (onS g r) w2 w5:=(hc3.trans hc4 λi _ hi=>hi).trans hc5 λi _ hi=>hi;have hb5:=hb4.chg hc5 λe=>by rcases e with e | e<;>omega
   have hP5:Rd qn w5 m.P bs:=YU (hP.ext hB2) c45 hPg;have hs3':=hc3.size;have hs4:=hc4.size;have hs5:=hc5.size;refine jpO λJ3 hJ3=>?_;have last:∀w6,Uc w5 w6->J3 (Vy (S1.room bs.length).1.L id,()) w6:=λw6 hB6=>by
    refine hJ3 _ _ ?_;have h6:=h5.ext hB6;have hs6:=hB6.size;refine q95 (m:=m) (bs:=bs) h6 hk5 hn (by omega) (hb5.ext hB6) (hP5.ext hB6) (λhp a ha e=>hPg hp a ha (.inl e)) (by omega) (qz4 hk5 hn hnum) λP w7 h7 hc7 hPb=>?_;have hoq:=ho5.ext hB6;refine hK P q5 w7 he h7 (q80 hk5 (q4q hk5 hn hno5) (qz4 hk5 hn hnum) (by omega)) ?_ ?_ (λk hk=>by have:=hPb k hk;omega)
    ·refine (hoq.chg hc7 λk hk e=>?_).base (by omega);rcases e with (e | e) | e
     ·exact qm1 hoq h6.blk (by decide) k hk e
     ·exact h6.map.ne_own hoq k hk e
     ·have:=(hoq.lt k hk).1;omega
    ·have c:Chg (λk=>onS g r k\/k=w.heap.size) w w7:=(((Chg.of_ext hB2).trans (c45.mono (S':=λk=>onS g r k\/k=w.heap.size) λi _ hi=>.inl hi) λi _ hi=>hi).trans (Chg.of_ext hB6) λi _ hi=>hi).trans hc7 λi _ hi=>hi;exact c.mono λi hi e=>e.resolve_right (by omega)
   refine cO (λe0=>?_) λe0=>?_
   ·have e0:=eq_of_beq e0;subst e0;have hfree:=qyf hk5;refine lpR (Inv:=λ(s:Int×Unit) w6=>∃j:Nat,s.1=1099511627776+(j:Int)/\j<=n+1/\qnx (S1.room bs.length).1.L (2000-j) s.1=Vy (S1.room bs.length).1.L 0/\Uc w5 w6) (μ:=λs=>(1099511627776+2000-s.1).toNat) ⟨0,by omega,by omega,rfl,Below.refl _ _⟩ ?_;rintro ⟨k,⟨⟩⟩ w6 ⟨j,hj,hj1,hj2,hB6⟩ I hI;have hj:k=1099511627776+(j:Int):=hj;refine zcv (h5.ext hB6) k λw7 hB7=>?_;have hB57:=hB6.trans (hB7.mono hB6.size);have e2:2000-j=(2000-(j+1))+1:=by omega
    have hj2:qnx (S1.room bs.length).1.L (2000-j) k=Vy (S1.room bs.length).1.L 0:=hj2;rw [e2] at hj2;unfold qnx at hj2;refine cO (λhs=>?_) λhs=>?_
    ·rw [if_pos hs] at hj2;have hjn:j≠n+1:=λe=>by
      rw [hj,e,hfree] at hs;cases hs
     rw [qP (by omega)];exact hI _ _ ⟨j+1,by show k+1=_;omega,by omega,hj2,hB57⟩ (by show (1099511627776+2000-(k+1)).toNat<(1099511627776+2000-k).toNat;omega)
    ·rw [if_neg (by rw [hs];decide)] at hj2;rw [hj2];exact last w7 hB57
   ·have e0:id≠0:=λe=>by rw [e] at e0;simp at e0
    have hnid:Vy (S1.room bs.length).1.L id=id:=by unfold Vy;rw [if_neg e0]
    rw [<-hnid];have:=last w5 (Below.refl _ _);rw [hnid] at this ⊢;exact this
  refine cO (λe0=>?_) λe0=>?_
  ·have e0:=bne_iff_ne.1 e0;refine qox h3 hk3 id λw4 h4 hc4=>?_;refine next w4 _ (by rw [if_neg e0]) h4 (qi9 hk3 id) rfl (λ_=>?_) hc4;cases hl:zt (({ S with res:=0 }:St).drop id).L id with
   | none=>rfl
   | some x =>
    have:=((qij id id x).1 ((xG (qug hk.srt id)).1 hl)).1;exact absurd rfl this
  ·have e0:id=0:=by simpa using e0
   exact next w3 _ (by rw [if_pos e0]) h3 hk3 rfl (λe=>absurd e0 e) (Chg.refl _ _)
 have fin:∀(c:Bool) (w2:World),Uc w w2->Blk w2 w.heap.size qt (qa.rep.cells m)->c=(!(qs6 m.W m.H bs.length && !(m.W==0) && qhe id && qhe num))->J5 (c,()) w2:=λc w2 hB2 hb2 hc=>by
  refine hJ5 _ _ ?_;have h2:=h.ext hB2;cases hg:(qs6 m.W m.H bs.length && !(m.W==0) && qhe id && qhe num) with
  | false =>
   have he:qbl S id num m.W m.H bs.length=1:=by unfold qbl;rw [hg];rfl
   rw [he] at hE;rw [hg] at hc;exact cT hc (hE w2 (by decide) h2 hB2)
  | true =>
   rw [hg] at hc;have he:qbl S id num m.W m.H bs.length=if (bs.length:Int)>S.quota then 6 else 0:=by unfold qbl;rw [hg];rfl
   refine cF hc ?_;have hBd:=hB2.drew;refine lSl (x:=m.P) (hb2.drew.cells 2 _ rfl) (qJ (lI (x:=S.quota) (h2.drew.blk.cells 0 _ rfl) ?_));rw [hPn];refine cO (λhgt=>?_) λhgt=>?_
   ·have hgt:=oTq hgt;rw [if_pos hgt] at he;rw [he] at hE;exact hE w2.drew (by decide) h2.drew hBd
   ·have hgt:=oFq hgt;rw [if_neg hgt] at he;refine good w2.drew hBd hb2.drew ?_ (by omega) he;simp only [Bool.and_eq_true] at hg;exact hg.1.2
 refine qw (x:=m) hb1.cells ?_;refine q4o λw2 hB2=>?_;have hB12:Uc w w2:=hB1.trans (hB2.mono (by omega));have hb2:=hb1.ext hB2;rw [hPn];refine cO (λe1=>?_) λe1=>?_
 ·refine fin _ _ hB12 hb2 ?_;simp at e1;rw [e1];rfl
 ·simp at e1;refine lI (x:=m.W) (hb2.cells 0 _ rfl) ?_;refine cO (λe2=>fin _ _ hB12 hb2 (by rw [e2];simp)) λe2=>?_;refine qk2 ?_;refine cO (λe3=>fin _ _ hB12 hb2 (by simp at e3;rw [e3];simp)) λe3=>?_;simp at e3;refine qk2 ?_;exact fin _ _ hB12 hb2 (by rw [e1,e2,e3];simp)
end
end Go.Proofs.YtokfefnmpjohpaaGreatDoor
