import Derived.Test.YtokfefnmpjohpaaGreatDoorP2
import Derived.Test.YtokfefnmpjohpaaGreatDoorP1
import Derived.Laws.Runes
import Derived.Test.YtokfefnmpjohpaaGreatDoorShA
import Derived.Maps.RangeRun
import Derived.Lib.Bytealg
import Derived.Lib.ItoaNum
import Derived.Lib.Join
import Derived.Lib.SlBytesConst
set_option linter.unusedVariables false
namespace Go.Proofs.YtokfefnmpjohpaaGreatDoor
open Go.Vc Go.RowKit
set_option maxRecDepth 400000
open IntKind (i64)
open Lib (itoa)
open _root_.List (length_append length_cons length_nil)
open _root_.Nat (le_refl le_trans)
theorem ZV.base {w:World} {base base' r most:Nat} {s:Slc} {old:List (List qO)} (h:ZV w base r s most old) (hb:base'<=base):ZV w base' r s most old:=by
 obtain ⟨at_,gone,ls,xss,h1,ho,hl,hbr,e,hm,ha⟩:=h;exact ⟨at_,gone,ls,xss,h1,ho.base hb,⟨hl.1,λi s xs e1 e2=>(hl.2 i s xs e1 e2).base hb⟩,by omega,e,hm,ha⟩
theorem GridM.base {w:World} {base base':Nat} {f:Foot} {S:GS} (h:GridM w base f S) (hb:base'<=base):GridM w base' f S:=by
 obtain ⟨ls,ho,hl⟩:=h.row;exact ⟨h.blk,by have:=h.hg;omega,⟨ls,ho.base hb,⟨hl.1,λi s xs e1 e2=>(hl.2 i s xs e1 e2).base hb⟩⟩,h.ring.base hb,h.ne⟩
theorem zd3 {w:World} {g r:Nat} {B:List Bool} (h:StopsM w g r B) {k:Nat} {cs:List Value} (hb:Blk w k zu cs):k≠g/\k≠r:=⟨hb.ne_t h.blk (by decide),Ka h.map hb⟩
theorem q3m (X:qu):putL (qu.rep.cells X) (0+13) [(Ua 0),(Ua 0),(.bool false),(Ua 0),(Ua 0),(Ua 0),(.bool false),(.int .u8 0),(.int .u8 0),(Ua 0),(.bool false),(Ua 0),(Ua 0),(.bool false),(Ua 0),(Ua 0),(Ua 0),(.bool false),(.int .u8 0),(.int .u8 0),(Ua 0),(.bool false)]=qu.rep.cells { X with saved:=⟨qhw,qhw⟩ }:=by
 kernel_rfl
structure ScR (w:World) (base g:Nat) (X:qu) (f0 f1:Foot) (G0 G1:GS) (ar:Slc) (az:List zX):Prop where
 blk:Blk w g zu (qu.rep.cells X)
 gr:X.grids=⟨some ⟨f0.g,0,none⟩,some ⟨f1.g,0,none⟩⟩
 xa:X.areas=ar
 hg:base<=g
 g0:GridM w base f0 G0
 g1:GridM w base f1 G1
 ar:Go.Vc.Own qmf w base ar az
 dg:∀k,xo f0 k->¬xo f1 k
section
variable {w w':World} {base g:Nat} {F F':ScF} {S S':Sc} {X X':qu} {f0 f1:Foot} {G0 G1:GS} {ar:Slc} {az:List zX}
theorem ScR.step (h:ScR w base g X f0 f1 G0 G1 ar az) (hc:Chg (λk=>k=g) w w') (hb:Blk w' g zu (qu.rep.cells X')) (e1:X'.grids=X.grids) (e2:X'.areas=X.areas):ScR w' base g X' f0 f1 G0 G1 ar az:=by
 have hC:∀k cs,k=g->¬Blk w k qT cs:=λk cs hk hcs=>by subst hk;exact h.blk.ne_t hcs (by decide) rfl
 refine ⟨hb,e1.trans h.gr,e2.trans h.xa,h.hg,h.g0.chg hc (λk hk e=>?_) hC,h.g1.chg hc (λk hk e=>?_) hC,h.ar.chg hc λk hk e=>?_,h.dg⟩
 ·subst e;have:=qs8 h.g0 hk h.blk;revert this;decide
 ·subst e;have:=qs8 h.g1 hk h.blk;revert this;decide
 ·obtain ⟨cs,hcs⟩:=h.ar.blk_t hk;rw [e] at hcs;exact h.blk.ne_t hcs (by decide) rfl
theorem ScR.ext (h:ScR w base g X f0 f1 G0 G1 ar az) (hB:Uc w w'):ScR w' base g X f0 f1 G0 G1 ar az :=
 ⟨h.blk.ext hB,h.gr,h.xa,h.hg,h.g0.ext hB,h.g1.ext hB,h.ar.ext hB,h.dg⟩
theorem ScR.fin (h:ScR w base g (scX F S) F.f0 F.f1 S.g0 S.g1 F.ar S.areas) (hst:StopsM w F.tg F.tr S.stops) (hstb:base<=F.tg/\base<=F.tr) (hmo:jc qyu w F.mm S.modes) (hpr:jc qyu w F.mp S.priv) (hmb:base<=F.mm/\base<=F.mp) (hdm:F.mm≠F.mp/\F.tr≠F.mm/\F.tr≠F.mp) (ok:ScOk S):ScM w base g F S :=
 ⟨h.blk,h.hg,h.g0,h.g1,hst,hstb,hmo,hpr,hmb,hdm,h.ar,h.dg,ok⟩
theorem q5w {K:Int->Int->Ub} (h:ScR w base g X f0 f1 G0 G1 ar az) (hn:X.now=0) (hK:K G0.rows G0.cols w.drew.drew):jd (some ⟨g,0,none⟩) w K:=by
 refine ZK _ ?_;refine Ko _ ?_;simp only [onPtr_some];have h1:=h.ext (zn w);refine lI (x:=0) (by rw [<-hn];exact h1.blk.cells 2 _ rfl) ?_;refine ⟨⟨by decide,by decide⟩,qK (x:=some ⟨f0.g,0,none⟩) ?_ (qve h1.g0 hK)⟩;have e:=congrArg vZ.e0 h.gr;have e:X.grids.e0=some ⟨f0.g,0,none⟩:=e;rw [<-e];exact h1.blk.cells 0 _ rfl
theorem Zf {T:Nat->Prop} {a b c:World} (h:Chg T a b) (k:Chg T b c):Chg T a c:=h.trans k λi _ hi=>hi
def qz1 (G0 G1:GS) (az:List zX):Sc:=⟨G0,G1,false,qcc,qhw,qhw,[],k8 (k8 [] 7 true) 25 true,0,G0.rows,Vh [] G0.cols,-1,az⟩
set_option maxHeartbeats 400000 in
theorem q29 {K:Ub} (h:ScR w base g X f0 f1 G0 G1 ar az) (hG0:GOk G0) (hG1:GOk G1) (hr:G1.rows=G0.rows) (hc:G1.cols=G0.cols) (hb:base<=w.heap.size)
  (hK:∀tg tr mm mp w',w.heap.size<=tg->w.heap.size<=tr->w.heap.size<=mm->w.heap.size<=mp->ScM w' base g ⟨f0,f1,tg,tr,mm,mp,ar⟩ (qz1 G0 G1 az)->Chg (λk=>k=g) w w'->K w'):yk (some ⟨g,0,none⟩) w K:=by
 refine qcj _ ?_;simp only [onPtr_some];rw [q4];refine qw h.blk (by simp [qu.rep]) λw1 hb1 hg1 hs1=>?_;have h1:ScR w1 base g { X with now:=0 } f0 f1 G0 G1 ar az:=h.step (Chg.gg hg1) (X':={ X with now:=0 }) hb1 rfl rfl;have c1:Chg (λk=>k=g) w w1:=Chg.gg hg1;refine q5w h1 rfl ?_;have hB2:Uc w1 w1.drew.drew:=zt (zn w1) (zn w1.drew);have h2:=h1.ext hB2;have c2:=Zf c1 (Chg.of_ext hB2);generalize w1.drew.drew=w2 at h2 c2 ⊢;clear hb1 hg1 hs1 h1 c1 hB2;have s2:=c2.size;refine q80 _ (λw' _ hbad=>absurd hbad (by have:=hG0.cols;omega)) λtg tr w3 _ _ htg htr hst hB3=>?_;rw [show ((G0.cols:Nat):Int).toNat=G0.cols from Int.toNat_natCast _] at hst;have h3:=h2.ext hB3;have c3:=Zf c2 (Chg.of_ext hB3);have s3:=hB3.size;clear c2;have hgt:=zd3 hst h3.blk;rw [q4];refine qw h3.blk (by simp [qu.rep]) λw4 hb4 hg4 hs4=>?_;have h4:ScR w4 base g { X with now:=0,stops:=some ⟨tg,0,none⟩ } f0 f1 G0 G1 ar az:=h3.step (Chg.gg hg4) (X':={ X with now:=0,stops:=some ⟨tg,0,none⟩ }) hb4 rfl rfl;have c4:=Zf c3 (Chg.gg hg4);have st4:StopsM w4 tg tr (Vh [] G0.cols):=hst.keep (Chg.gg hg4) (λe=>hgt.1 e.symm) λe=>hgt.2 e.symm;have hgr4:tg<w4.heap.size/\tr<w4.heap.size:=⟨st4.blk.lt,st4.map.lt⟩;clear hst h3 c3 hb4 hg4;refine q50 λw5 hB5=>?_;have h5:=h4.ext hB5;have c5:=Zf c4 (Chg.of_ext hB5);have st5:=st4.keep (Chg.of_ext (S:=λ_=>False) hB5) (λe=>e) λe=>e;rw [q4];refine qw h5.blk (by simp [qu.rep,qI.rep]) λw6 hb6' hg6 hs6=>?_;have hb6:Blk w6 g zu (qu.rep.cells ⟨X.grids,0,qcc,X.saved,X.modes,X.private_,X.top,X.past,some ⟨tg,0,none⟩,X.char,X.areas⟩):=hb6';clear hb6';rw [q4];refine qw hb6 (by simp [qu.rep]) λw7 hb7' hg7 hs7=>?_;have hb7:Blk w7 g zu (qu.rep.cells ⟨X.grids,0,qcc,⟨qhw,qhw⟩,X.modes,X.private_,X.top,X.past,some ⟨tg,0,none⟩,X.char,X.areas⟩):=by rw [q3m] at hb7';exact hb7'
 clear hb7';rw [q4];refine qw hb7 (by simp [qu.rep]) λw8 hb8' hg8 hs8=>?_;have hb8:Blk w8 g zu (qu.rep.cells ⟨X.grids,0,qcc,⟨qhw,qhw⟩,X.modes,X.private_,X.top,X.past,some ⟨tg,0,none⟩,-1,X.areas⟩):=hb8';clear hb8';rw [q4];refine qw hb8 (by simp [qu.rep]) λw9 hb9' hg9 hs9=>?_;have hb9:Blk w9 g zu (qu.rep.cells ⟨X.grids,0,qcc,⟨qhw,qhw⟩,X.modes,X.private_,0,X.past,some ⟨tg,0,none⟩,-1,X.areas⟩):=hb9';clear hb9';rw [q4];refine qw hb9 (by simp [qu.rep]) λw10 hb10' hg10 hs10=>?_;have hb10:Blk w10 g zu (qu.rep.cells ⟨X.grids,0,qcc,⟨qhw,qhw⟩,X.modes,X.private_,0,G0.rows,some ⟨tg,0,none⟩,-1,X.areas⟩):=hb10';clear hb10';have c510:Chg (λk=>k=g) w5 w10:=Zf (Zf (Zf (Zf (Chg.gg hg6) (Chg.gg hg7)) (Chg.gg hg8)) (Chg.gg hg9)) (Chg.gg hg10);have h10:ScR w10 base g ⟨X.grids,0,qcc,⟨qhw,qhw⟩,X.modes,X.private_,0,G0.rows,some ⟨tg,0,none⟩,-1,X.areas⟩ f0 f1 G0 G1 ar az:=h5.step c510 (X':=⟨X.grids,0,qcc,⟨qhw,qhw⟩,X.modes,X.private_,0,G0.rows,some ⟨tg,0,none⟩,-1,X.areas⟩) hb10 rfl rfl;have c10:=Zf c5 c510;have st10:=st5.keep c510 (λe=>hgt.1 e.symm) λe=>hgt.2 e.symm;clear hb6 hg6 hb7 hg7 hb8 hg8 hb9 hg9 hb10 hg10 c510 h5 c5 st5 h4 c4 st4;refine qcg _ ?_;unfold Jm nwM;dsimp only;have hB11:Uc w10 (w10.alloc (.map #[] 0)):=(Below.refl _ w10).alloc (le_refl _) _;have hs11:(w10.alloc (.map #[] 0)).heap.size=w10.heap.size+1:=by simp
 have m1:jc qyu (w10.alloc (.map #[] 0)) w10.heap.size []:=jc.new w10;generalize w10.alloc (.map #[] 0)=w11 at hB11 hs11 m1 ⊢;have hB12:Uc w11 (w11.alloc (.map #[] 0)):=(Below.refl _ w11).alloc (le_refl _) _;have hs12:(w11.alloc (.map #[] 0)).heap.size=w11.heap.size+1:=by simp
 have m2:jc qyu (w11.alloc (.map #[] 0)) w11.heap.size []:=jc.new w11;generalize w11.alloc (.map #[] 0)=w12 at hB12 hs12 m2 ⊢;have m1':=m1.ext hB12;refine qxp (n:=7) (b:=true) m2 (by decide) λw13 m3 hc13 hs13=>?_;refine qxp (n:=25) (b:=true) m3 (by decide) λw14 m4 hc14 hs14=>?_;have hc24:Chg (λk=>k=w11.heap.size) w12 w14:=hc13.trans hc14 λi _ hi=>hi;have m1'':=m1'.chg hc24 (by omega);have hB14:Uc w10 w14:=xq (zt hB11 hB12) hc24 (by omega);have h14:=h10.ext hB14;have c14:=Zf c10 (Chg.of_ext hB14);have st14:=st10.keep (Chg.of_ext (S:=λ_=>False) hB14) (λe=>e) λe=>e;simp only [onPtr_some];rw [q4];refine qw h14.blk (by simp [qu.rep]) λw15 hb15 hg15 hs15=>?_;rw [q4];refine qw hb15 (by simp [qu.rep,putL]) λw16 hb16 hg16 hs16=>?_;have c46:Chg (λk=>k=g) w14 w16:=Zf (Chg.gg hg15) (Chg.gg hg16);have s10:=c10.size;have htr10:=st10.map.lt;have hgl:=h10.blk.lt;refine hK tg tr w10.heap.size w11.heap.size w16 (by omega) (by omega) (by omega) (by omega) ?_ (Zf c14 c46);have hX:ScR w16 base g (scX ⟨f0,f1,tg,tr,w10.heap.size,w11.heap.size,ar⟩ (qz1 G0 G1 az)) f0 f1 G0 G1 ar az:=by
  refine h14.step c46 (X':=scX ⟨f0,f1,tg,tr,w10.heap.size,w11.heap.size,ar⟩ (qz1 G0 G1 az)) ?_ ?_ ?_
  ·have e1:X.grids=⟨some ⟨f0.g,0,none⟩,some ⟨f1.g,0,none⟩⟩:=h.gr;have e2:X.areas=ar:=h.xa;rw [e1,e2] at hb16;exact hb16
  ·exact h.gr.symm
  ·exact h.xa.symm
 refine hX.fin (st14.keep c46 (λe=>hgt.1 e.symm) λe=>hgt.2 e.symm) ⟨by dsimp only;omega,by dsimp only;omega⟩ (m1''.chg c46 (by omega)) (m4.chg c46 (by omega)) ⟨by dsimp only;omega,by dsimp only;omega⟩ ⟨by dsimp only;omega,by dsimp only;omega,by dsimp only;omega⟩ ?_;have b1:=hG0.rows;have b2:=hG0.cols;exact ⟨hG0,hG1,hr,hc,⟨Int.le_refl 0,by show (0:Int)<(G0.rows:Int);omega⟩,⟨Int.le_refl 0,by show (0:Int)<(G0.cols:Int);omega⟩,.inl rfl,.inl rfl,.inl rfl,⟨by show (0:Int)<=0;omega,by show (0:Int)<(G0.rows:Int);omega,by show (G0.rows:Int)<=G0.rows;omega⟩,λhh=>by
  show (0:Int)+2<=(G0.rows:Int);have hh:2<=G0.rows:=hh;omega,by show (Vh [] G0.cols).length=G0.cols;exact resz_length _ _⟩
def okC (c:qL):Prop:=(1<=c.Rows/\c.Rows<=1000)/\(1<=c.Cols/\c.Cols<=1000)/\(1<=c.CellW/\c.CellW<=64)/\(1<=c.CellH/\c.CellH<=64)/\(0<=c.Back/\c.Back<=16384)/\(0<=c.Quota/\c.Quota<=1073741824)
theorem qyp {c:qL} {K:Int->Ub} (h1:okC c->∀w',Uc w w'->K 0 w') (h2:¬okC c->∀w',Uc w w'->K 1 w'):YC c w K:=by
 refine qpn _ ?_;refine nwb λw1 hb1 hB1 hs1=>?_;refine lI (x:=c.Rows) (hb1.cells 0 _ rfl) (k7 (cO (λe1=>?_) λe=>h2 (λhh=>oFq e hh.1) w1 hB1));refine lI (x:=c.Cols) (hb1.cells 1 _ rfl) (k7 (cO (λe2=>?_) λe=>h2 (λhh=>oFq e hh.2.1) w1 hB1));refine lI (x:=c.CellW) (hb1.cells 2 _ rfl) (k7 (cO (λe3=>?_) λe=>h2 (λhh=>oFq e hh.2.2.1) w1 hB1));refine lI (x:=c.CellH) (hb1.cells 3 _ rfl) (k7 (cO (λe4=>?_) λe=>h2 (λhh=>oFq e hh.2.2.2.1) w1 hB1));refine lI (x:=c.Back) (hb1.cells 4 _ rfl) (k7 (cO (λe5=>?_) λe=>h2 (λhh=>oFq e hh.2.2.2.2.1) w1 hB1));refine lI (x:=c.Quota) (hb1.cells 5 _ rfl) (k7 (cO (λe6=>?_) λe=>h2 (λhh=>oFq e hh.2.2.2.2.2) w1 hB1));exact h1 ⟨oTq e1,oTq e2,oTq e3,oTq e4,oTq e5,oTq e6⟩ w1 hB1
def zda (rows cols back:Nat):Sc:=qz1 (gs0 rows cols back) (gs0 rows cols 0) []
theorem q9o {c:qL} {K:Option Addr->Int->Ub} (hK1:¬okC c->∀w',Uc w w'->K none 1 w')
  (hK2:okC c->∀g F w',ScM w' w.heap.size g F (zda c.Rows.toNat c.Cols.toNat c.Back.toNat)->Uc w w'->K (some ⟨g,0,none⟩) 0 w'):qe4 c w K:=by
 refine qsg _ ?_;refine nwb λw1 hb1 hB1 hs1=>?_;refine qx (r:=qL.rep) (x:=c) hb1.cells ?_;refine qyp (λhok w2 hB2=>cF rfl ?_) λhok w2 hB2=>cT rfl (hK1 hok w2 (zt hB1 hB2));obtain ⟨o1,o2,o3,o4,o5,o6⟩:=hok;refine nwb λw3 hb3 hB3 hs3=>?_;have B3:=zt (zt hB1 hB2) hB3;have hc3:=(hb1.ext hB2).ext hB3;have s3:=B3.size;have s2:=hB2.size;refine lI (x:=c.Rows) (hc3.drew.cells 0 _ rfl) (lI (x:=c.Cols) (hc3.drew.cells 1 _ rfl) (lI (x:=c.Back) (hc3.drew.cells 4 _ rfl) ?_));have ng:¬qbj c.Rows c.Cols c.Back:=by unfold qbj;omega
 have ng0:¬qbj c.Rows c.Cols 0:=by unfold qbj;omega
 refine qxz (λhbad=>absurd hbad ng) λ_ f0 w4 g0 hB4=>?_;have z3:w3.drew.heap.size=w3.heap.size:=rfl;have B34:Uc w3 w4:=zt (zn w3) hB4;have hb4:=hb3.ext B34;have hc4:=hc3.ext B34;have s4:=B34.size;refine ⟨⟨by decide,by decide⟩,?_⟩;rw [q4,q4];refine qw hb4 (by simp) λw5 hb5 hg5 hs5=>?_;have c5:Chg (λk=>k=w2.heap.size) w4 w5:=Chg.gg hg5;have hC5:∀k cs,k=w2.heap.size->¬Blk w4 k qT cs:=λk cs hk hcs=>by subst hk;exact hb4.ne_t hcs (by decide) rfl
 have g0':=g0.chg c5 (λk hk e=>by have:=(g0.below k hk).1;omega) hC5;have hc5:=hc4.chg c5 (by omega);refine lI (x:=c.Rows) (hc5.drew.cells 0 _ rfl) (lI (x:=c.Cols) (hc5.drew.cells 1 _ rfl) ?_);refine qxz (λhbad=>absurd hbad ng0) λ_ f1 w6 g1 hB6=>?_;have z5:w5.drew.heap.size=w5.heap.size:=rfl;have B56:Uc w5 w6:=zt (zn w5) hB6;have hb6:=hb5.ext B56;have g0'':=g0'.ext B56;have s6:=B56.size;refine ⟨⟨by decide,by decide⟩,?_⟩;rw [q4,q4];refine qw hb6 (by simp [putL]) λw7 hb7 hg7 hs7=>?_;have c7:Chg (λk=>k=w2.heap.size) w6 w7:=Chg.gg hg7;have hC7:∀k cs,k=w2.heap.size->¬Blk w6 k qT cs:=λk cs hk hcs=>by subst hk;exact hb6.ne_t hcs (by decide) rfl
 have q0:=g0''.chg c7 (λk hk e=>by have:=(g0''.below k hk).1;omega) hC7;have q1:=g1.chg c7 (λk hk e=>by have:=(g1.below k hk).1;omega) hC7;have B7:Uc w w7:=by
  have b1:=zt B3 B34;have b2:=b1.trans (c5.below (B:=w.heap.size) b1.size λi hi e=>by omega);have b3:=zt b2 B56;exact b3.trans (c7.below (B:=w.heap.size) b3.size λi hi e=>by omega)
 have hR:ScR w7 w.heap.size w2.heap.size ⟨⟨some ⟨f0.g,0,none⟩,some ⟨f1.g,0,none⟩⟩,0,⟨0,0,false,⟨0,0,0⟩,false,⟨0,0⟩,0⟩,⟨qhw,qhw⟩,none,none,0,0,none,0,⟨none,0,0⟩⟩ f0 f1 (gs0 c.Rows.toNat c.Cols.toNat c.Back.toNat) (gs0 c.Rows.toNat c.Cols.toNat (0:Int).toNat) ⟨none,0,0⟩ []:=by
  refine ⟨hb7,rfl,rfl,by omega,q0.base (by omega),q1.base (by omega),Go.Vc.Own.nil _ _ _,λk hk hk'=>?_⟩;have h1:=(g0.below k hk).2;have h2:=(g1.below k hk').1;omega
 have hG0:GOk (gs0 c.Rows.toNat c.Cols.toNat c.Back.toNat):=GOk.new (by omega) (by omega) (by omega);have hG1:GOk (gs0 c.Rows.toNat c.Cols.toNat (0:Int).toNat):=GOk.new (by omega) (by omega) (by decide);refine q29 hR hG0 hG1 rfl rfl B7.size λtg tr mm mp w8 h1 h2 h3 h4 hM hc=>?_;exact hK2 ⟨o1,o2,o3,o4,o5,o6⟩ _ _ w8 hM (B7.trans (hc.below B7.size λi hi e=>by omega))
end
def zfd (x:Int):Prop:=-9223372036854775808<=x/\x<=9223372036854775807
structure ParM (w:World) (g:Nat) (F:ScF) (p:Slc) (ps:List Int):Prop where
 rd:Rd zw w p ps
 off:ps=[]\/∀a,p.a=some a->¬scS g F a.block/\a.block<w.heap.size
 rng:∀x∈ps,zfd x
 len:ps.length<=100000
section
variable {w w':World} {base g:Nat} {F F':ScF} {S S':Sc} {p:Slc} {ps:List Int}
theorem ParM.ext (h:ParM w g F p ps) (hB:Uc w w'):ParM w' g F p ps:=by
 have:=hB.size;exact ⟨h.rd.ext hB,h.off.imp (λe=>e) λe a ha=>⟨(e a ha).1,by have:=(e a ha).2;omega⟩,h.rng,h.len⟩
theorem ScM.ldRow (h:ScM w base g F S) {K:Int->Prop} (hK:K S.c.Row):ldI .i64 (((⟨g,0,none⟩:Addr).add 3).add 0) w K:=lI (x:=S.c.Row) (by simp only [q4];exact h.blk.cell 3 rfl) hK
theorem ScM.ldCol (h:ScM w base g F S) {K:Int->Prop} (hK:K S.c.Col):ldI .i64 (((⟨g,0,none⟩:Addr).add 3).add 1) w K:=lI (x:=S.c.Col) (by simp only [q4];exact h.blk.cell 4 rfl) hK
theorem ScM.ldOrg (h:ScM w base g F S) {K:Bool->Prop} (hK:K S.c.Origin):ldB (((⟨g,0,none⟩:Addr).add 3).add 6) w K:=xP (x:=S.c.Origin) (by simp only [q4];exact h.blk.cell 9 rfl) hK
theorem ScM.ldTop (h:ScM w base g F S) {K:Int->Prop} (hK:K S.top):ldI .i64 ((⟨g,0,none⟩:Addr).add 37) w K:=lI (x:=S.top) (by simp only [q4];exact h.blk.cell 37 rfl) hK
theorem ScM.cCol (h:ScM w base g F S):w.cell? (((⟨g,0,none⟩:Addr).add 3).add 1)=some (Ua S.c.Col):=by simp only [q4];exact h.blk.cell 4 rfl
theorem qm5 (h:ParM w g F p ps) {i:Nat} {none:Int} {K:Int->Ub} (hK:K (qus ps i none) w):yL p i none w K:=by
 refine qos _ _ _ ?_;refine jpO λJ1 hJ1=>?_;have hn:=h.rd.n;unfold qus at hK;refine cO (λe=>?_) λe=>?_
 ·have e:=oTq e;rw [List.getElem?_eq_none (by omega)] at hK;exact hK
 ·have e:=oFq e;have hi:i<ps.length:=by omega
  rw [List.getElem?_eq_getElem hi] at hK;refine h.rd.ix rfl (by omega) (by omega) λhc=>?_;have hc':w.cell? (p.at_ zw.k (i:Int).toNat)=some (Ua ps[i]):=by simpa using hc 0 _ rfl
  refine lI (x:=ps[i]) hc' ?_;dsimp only at hK;refine cO (λe1=>?_) λe1=>?_
  ·have e1:ps[i]=0:=eq_of_beq e1;rw [if_pos e1] at hK;exact hK
  ·have e1:¬ps[i]=0:=beq_eq_false_iff_ne.1 e1;rw [if_neg e1] at hK;exact hJ1 _ _ (h.rd.ix rfl (by omega) (by omega) λ_=>lI (x:=ps[i]) hc' hK)
theorem ScM.w64n (n:Int):zfd (w64 n):=by
 have h:w64 n=(n+9223372036854775808)%18446744073709551616-9223372036854775808:=by
  unfold w64 IntKind.wrap;simp [IntKind.bits,IntKind.signed]
  try omega
 unfold zfd;omega
end
theorem or2 {K:Bool×Unit->Ub} {c a b:Int} {w:World} (h1:c=a\/c=b->K (true,()) w) (h2:¬(c=a\/c=b)->K (false,()) w):qX K λJ=>cond (c==a) (J ((c==a),()) w) (J ((c==b),()) w):=by
 intro J hJ;refine cO (λe=>?_) λe=>?_
 ·rw [e];exact hJ _ _ (h1 (.inl (eq_of_beq e)))
 ·cases e2:(c==b)
  ·exact hJ _ _ (h2 λhh=>hh.elim (beq_eq_false_iff_ne.1 e) (beq_eq_false_iff_ne.1 e2))
  ·exact hJ _ _ (h1 (.inr (eq_of_beq e2)))
theorem or3 {K:Bool×Unit->Ub} {c a b d:Int} {w:World} (h1:c=a\/c=b\/c=d->K (true,()) w) (h2:¬(c=a\/c=b\/c=d)->K (false,()) w):qX K λJ=>cond (c==a) (J ((c==a),()) w) (cond (c==b) (J ((c==b),()) w) (J ((c==d),()) w)):=by
 intro J hJ;refine cO (λe=>?_) λe=>?_
 ·rw [e];exact hJ _ _ (h1 (.inl (eq_of_beq e)))
 ·exact or2 (K:=K) (λh=>h1 (.inr h)) (λh=>h2 λhh=>hh.elim (beq_eq_false_iff_ne.1 e) h) J hJ
theorem or4 {K:Bool×Unit->Ub} {c a b d f:Int} {w:World} (h1:c=a\/c=b\/c=d\/c=f->K (true,()) w) (h2:¬(c=a\/c=b\/c=d\/c=f)->K (false,()) w):qX K λJ=>cond (c==a) (J ((c==a),()) w) (cond (c==b) (J ((c==b),()) w) (cond (c==d) (J ((c==d),()) w) (J ((c==f),()) w))):=by
 intro J hJ;refine cO (λe=>?_) λe=>?_
 ·rw [e];exact hJ _ _ (h1 (.inl (eq_of_beq e)))
 ·exact or3 (K:=K) (λh=>h1 (.inr h)) (λh=>h2 λhh=>hh.elim (beq_eq_false_iff_ne.1 e) h) J hJ
theorem or5 {K:Bool×Unit->Ub} {c a b d f k:Int} {w:World} (h1:c=a\/c=b\/c=d\/c=f\/c=k->K (true,()) w) (h2:¬(c=a\/c=b\/c=d\/c=f\/c=k)->K (false,()) w):qX K λJ=>cond (c==a) (J ((c==a),()) w) (cond (c==b) (J ((c==b),()) w) (cond (c==d) (J ((c==d),()) w) (cond (c==f) (J ((c==f),()) w) (J ((c==k),()) w)))):=by
 intro J hJ;refine cO (λe=>?_) λe=>?_
 ·rw [e];exact hJ _ _ (h1 (.inl (eq_of_beq e)))
 ·exact or4 (K:=K) (λh=>h1 (.inr h)) (λh=>h2 λhh=>hh.elim (beq_eq_false_iff_ne.1 e) h) J hJ
namespace Sc
def modeP (S:Sc) (n:Int) (priv:Bool):Bool×Bool :=
 if priv=false then (S.mode n,decide (n=4\/n=20))
 else if n=6 then (S.c.Origin,true)
 else if n=47\/n=1047\/n=1049 then (S.alt,true)
 else if n=1\/n=7\/n=25\/n=1000\/n=2004 then (S.pmode n,true)
 else (false,false)
def placeRow (S:Sc):Int:=if S.c.Origin then (if 0>w64 (S.c.Row-S.top) then 0 else w64 (S.c.Row-S.top)) else S.c.Row
def placeP (S:Sc):List UInt8:=itoa (w64 (S.placeRow+1))++[59]++itoa (w64 (S.c.Col+1))
def bareR (S:Sc) (p:List Int) (c:Int):List UInt8 :=
 let zero:=qus p 0 0
 if c=110 then (if zero=5 then [27,91]++[48,110] else if zero=6 then [27,91]++(S.placeP++[82]) else [])
 else if c=99 then (if zero=0 then [27,91]++[63,54,50,59,52,99] else [])
 else []
end Sc
structure Ev where
 Kind:Int
 R:Int
 B:Int
 Private:Int
 Inter:List UInt8
 Params:List Int
namespace Sc
end Sc
section
variable {w w':World} {base g:Nat} {F F':ScF} {S S':Sc} {p:Slc} {ps:List Int}
theorem zav (h:ScM w base g F S) {n:Int} {priv:Bool} {K:Bool->Bool->Ub} (hK:K (S.modeP n priv).1 (S.modeP n priv).2 w):yO (some ⟨g,0,none⟩) n priv w K:=by
 refine qdn _ _ _ ?_;simp only [onPtr_some];unfold Sc.modeP at hK;cases priv
 ·rw [if_pos rfl] at hK;refine cT rfl (kM (x:=some F.mm) (by rw [q4];exact h.blk.cell 35 rfl) (qkn h.mo ?_));refine cO (λe=>?_) λe=>?_
  ·have e:n=4:=eq_of_beq e;rw [dTq (.inl e)] at hK;exact hK
  ·have e:¬n=4:=beq_eq_false_iff_ne.1 e;have e2:(n==20)=decide (n=4\/n=20):=by
    by_cases e3:n=20
    ·rw [dTq (.inr e3)];exact beq_iff_eq.2 e3
    ·rw [dFq (λhh=>hh.elim e e3)];exact beq_eq_false_iff_ne.2 e3
   rw [e2];exact hK
 ·rw [if_neg (by decide)] at hK;refine cF rfl ?_;refine cO (λe=>?_) λe=>?_
  ·rw [if_pos (eq_of_beq e)] at hK;exact h.ldOrg hK
  rw [if_neg (beq_eq_false_iff_ne.1 e)] at hK;refine or3 (λe=>cT rfl ?_) λe=>cF rfl ?_
  ·rw [if_pos e] at hK;exact q3f h hK
  rw [if_neg e] at hK;refine or5 (λe=>cT rfl ?_) λe=>cF rfl ?_
  ·rw [if_pos e] at hK;exact kM (x:=some F.mp) (by rw [q4];exact h.blk.cell 36 rfl) (qkn h.pr hK)
  ·rw [if_neg e] at hK;exact hK
theorem qyz (h:ScM w base g F S) (hT:Tab w) {K:ByteArray->Ub} (hK:∀w',Uc w w'->S.placeP.length<=50->K (qS S.placeP) w'):kg (some ⟨g,0,none⟩) w K:=by
 refine qch _ ?_;simp only [onPtr_some];refine h.ldRow (jpO λJ1 hJ1=>?_);have key:J1 (S.placeRow,()) w:=by
  refine hJ1 _ _ ?_;have hd:=(ScT.refl h).drew;refine hd.m.ldCol ?_;refine qqn (hT.ext (zn w)) (ScM.w64n _).1 (ScM.w64n _).2 λw2 hB2=>?_;have h2:=hd.ext hB2;have B2:=zt (zn w) hB2;have l1:=qo8 (ScM.w64n (S.placeRow+1)).1 (ScM.w64n (S.placeRow+1)).2;have l2:=qo8 (ScM.w64n (S.c.Col+1)).1 (ScM.w64n (S.c.Col+1)).2;have e59:(⟨#[59]⟩:ByteArray)=qS [59]:=rfl;show _/\(((qS (itoa (w64 (S.placeRow+1)))).size+_:Nat):Int)<=_/\_;refine ⟨h2.m.cCol,?_,?_⟩
  ·rw [e59,qD,qD];simp only [length_cons,length_nil];omega
  refine qqn ((hT.ext (zn w)).ext hB2) (ScM.w64n _).1 (ScM.w64n _).2 λw3 hB3=>?_;rw [e59,jh];have B3:=zt B2 hB3;show (((qS (itoa (w64 (S.placeRow+1))++[59])).size+(qS (itoa (w64 (S.c.Col+1)))).size:Nat):Int)<=_/\K (qS (itoa (w64 (S.placeRow+1))++[59])++qS (itoa (w64 (S.c.Col+1)))) w3;rw [jh];refine ⟨?_,hK w3 B3 ?_⟩
  ·rw [qD,qD,length_append];simp only [length_cons,length_nil];omega
  ·unfold Sc.placeP;rw [length_append,length_append];simp only [length_cons,length_nil];omega
 unfold Sc.placeRow at key;refine h.ldOrg (cO (λe=>?_) λe=>?_)
 ·rw [if_pos e] at key;exact h.ldTop key
 ·rw [if_neg (by rw [e];decide)] at key;exact key
theorem qnt {bs:List UInt8} (hl:bs.length<=1000) {K:Slc->Ub} (hK:∀q w',Rd qm w' q ([27,91]++bs)->Uc w w'->K q w'):xp (qS bs) w K:=by
 refine qot _ ?_;have e:(⟨#[27,91]⟩:ByteArray)=qS [27,91]:=rfl;rw [e,jh,qD,qD];refine ⟨by simp only [length_cons,length_nil];omega,?_⟩;exact qf3 (by simp only [length_append,length_cons,length_nil];omega) λq w' hq _ hB _=>hK q w' hq hB
end
theorem qqx {s:Slc} {xs:List Slc} {w:World} {K:Slc->Ub} (h:Rd slE w s xs) (hl:xs.length<=1000000)
  (hK:∀r w',Go.Vc.Own slE w' w.heap.size r xs->Uc w w'->K r w'):zT s w K:=by
 refine Qe _ ?_;refine cO (λe=>?_) (λe=>?_)
 ·have:s.a=none:=by cases ha:s.a with
   | none=>rfl
   | some a=>rw [ha] at e;cases e
  rw [h.none_nil this] at hK;exact hK _ _ (Go.Vc.Own.nil _ _ _) (Below.refl _ _)
 ·refine nwb λw1 hb1 hB1 hs1=>?_;refine jx qkd (Yp (E:=slE) hb1 (le_refl _)) (h.ext hB1) (by omega) (by rw [q30];simp;omega) (by simp [maxLen];omega) λr w2 ho2 hg2 hr2=>?_;exact hK r w2 (by simpa using ho2) (hB1.grown hg2 (by omega) λg hg=>by cases hg;exact le_refl _)
section
variable {w w':World} {base g:Nat} {F F':ScF} {S S':Sc} {p:Slc} {ps:List Int} {f:Foot} {G:GS}
theorem q4h {K:Option Addr->Ub} (h:GridM w base f G) (hL:G.L.length<=1000) (hm:G.most<=100000) (hb:base<=w.heap.size)
  (hK:∀f' w',GridM w' base f' G->(∀k,xo f' k->w.heap.size<=k)->Uc w w'->K (some ⟨f'.g,0,none⟩) w'):X7 (some ⟨f.g,0,none⟩) w K:=by
 refine qle _ ?_;simp only [onPtr_some];obtain ⟨ls,ho,hl⟩:=h.row;have hll:=hl.1;refine qx (r:=kA.rep) (x:=⟨some ⟨f.r,0,none⟩,G.rows,G.cols,f.ls,G.top⟩) h.blk.cells ?_;refine nwb λw1 hx1 hB1 hs1=>qd2 hx1 rfl λw2 hx2 hc2 hs2=>?_;have hB2:Uc w w2:=xq hB1 hc2 (le_refl _);have h2:=h.ext hB2;refine qK (x:=some ⟨f.r,0,none⟩) (by rw [q4];exact h2.blk.cell 0 rfl) ?_;obtain ⟨at_,gone,rls,xss,hrb0,hro0,hrl,hbr,eold,hmost,hat⟩:=h.ring;have hrb:=hrb0.ext hB2;have hro:=hro0.ext hB2;refine KB _ ?_;simp only [onPtr_some];refine qx (r:=zh.rep) (x:=⟨G.most,f.rs,at_,gone⟩) hrb.cells ?_;refine nwb λw3 hy3 hB3 hs3=>qd2 hy3 rfl λw4 hy4 hc4 hs4=>?_;have hB4':Uc w2 w4:=xq hB3 hc4 (le_refl _);have hrb4:=hrb.ext hB4';refine lSl (x:=f.rs) (by rw [q4];exact hrb4.cell 1 rfl) ?_;have hro4:=hro.ext hB4';have hrll:=hrl.1;refine qqx hro4.rd (by omega) λq w5 hq5 hB5=>?_;have hy5:=hy4.ext hB5;simp only [q4];refine qw hy5 (by simp [zh.rep]) λw6 hy6 hg6 hs6=>?_;have z1:=hB1.size;have z5:=hB5.size;have hx4:=hx2.ext hB4';have hx5:=hx4.ext hB5;have hx6:=hx5.chg (Chg.gg hg6) (by omega);have hB6:Uc w2 w6:=xq (zt hB4' hB5) (Chg.gg hg6) (le_refl _);have hq6:=hq5.chg (Chg.gg hg6) λk hk e=>by have:=(hq5.lt k hk).1;omega
 refine qw hx6 (by simp [kA.rep]) λw7 hx7 hg7 hs7=>?_;have c7:Chg (λk=>k=w.heap.size) w6 w7:=Chg.gg hg7;have hy7:=hy6.chg c7 (by omega);have hq7:=hq6.chg c7 λk hk e=>by have:=(hq6.lt k hk).1;omega
 have hB7:Uc w w7:=xq (zt hB2 hB6) c7 (le_refl _);have h7:=h.ext hB7;refine lSl (x:=f.ls) (h7.blk.cell 3 rfl) ?_;have ho7:=ho.ext hB7;refine qqx ho7.rd (by omega) λt w8 ht8 hB8=>?_;have hx8:=hx7.ext hB8;refine qw hx8 (by simp [kA.rep,putL]) λw9 hx9 hg9 hs9=>?_;have c9:Chg (λk=>k=w.heap.size) w8 w9:=Chg.gg hg9;have z8:=hB8.size;have z7:=hB7.size;have hy9:=(hy7.ext hB8).chg c9 (by omega);have hq9:=(hq7.ext hB8).chg c9 λk hk e=>by have:=(hq7.lt k hk).1;omega
 have ht9:=ht8.chg c9 λk hk e=>by have:=(ht8.lt k hk).1;omega
 have hB9:Uc w w9:=xq (zt hB7 hB8) c9 (le_refl _);have hl9:=hl.ext hB9;have hrl9:=hrl.ext hB9;have z6:=hB6.size;have z2:=hB2.size;refine hK ⟨w.heap.size,w2.heap.size,t,q⟩ w9 ⟨hx9,hb,⟨ls,ht9.base (by omega),hl9⟩,⟨at_,gone,rls,xss,hy9,hq9.base (by omega),hrl9,by show base<=w2.heap.size;omega,eold,hmost,hat⟩,λk hk hk'=>?_⟩ ?_ hB9
 ·have h1:=(ht8.lt k hk).1;have h2:=(hq7.lt k hk').2;omega
 ·rintro k (rfl | rfl | hk | hk)
  ·exact le_refl _
  ·show w.heap.size<=w2.heap.size;omega
  ·have:=(ht8.lt k hk).1;omega
  ·have:=(hq5.lt k hk).1;have:=hB4'.size;omega
theorem q9d (h:ScM w base g F S) {K:Option Addr->Ub} (hK:∀f' w',GridM w' base f' S.g->(∀k,xo f' k->w.heap.size<=k)->ScM w' base g F S->Uc w w'->K (some ⟨f'.g,0,none⟩) w'):y1 (some ⟨g,0,none⟩) w K:=by
 refine qej _ ?_;refine qn5 h ?_;have hd:=h.drew;have hG:=h.gOk;refine q4h hd.gM (by rw [hG.len];exact hG.rows.2) (by have:=hG.most;omega) hd.base_le λf' w' hg hf hB=>?_;exact hK f' w' hg hf (hd.ext hB) (zt (zn w) hB)
theorem qtm {n:Int} {K:ByteArray->Ub} (hK:K (qS (Utf8.encode n).data.toList) w):jv PG (convert qN zo (.int .u8 n)) Kind.string w K:=by
 rw [zdw] at hK;exact ⟨_,w,run_convert_int_string w qN zo .u8 n (by kernel_rfl) (by kernel_rfl),hK⟩
theorem qtf (n:Int) (h:0<=n/\n<=255):(Utf8.encode n).data.toList.length<=4:=by
 have hv:Utf8.valid n=true:=by
  unfold Utf8.valid;simp;omega
 by_cases h2:n<128
 ·unfold Utf8.encode;simp only [hv,if_true];rw [if_pos (by omega)];simp
 ·have:=(encode_facts n hv (by omega)).2.1;simpa using this
structure EvM (w:World) (g:Nat) (F:ScF) (e:za) (v:Ev):Prop where
 k:e.Kind=v.Kind
 r:e.R=v.R
 b:e.B=v.B
 p:e.Private=v.Private
 i:e.Inter=qS v.Inter
 ps:ParM w g F e.Params v.Params
 br:0<=v.B/\v.B<=255
 pr:0<=v.Private/\v.Private<=255
 il:v.Inter.length<=100000
end
section
variable {w w':World} {base g:Nat} {F F':ScF} {S S':Sc} {p:Slc} {ps:List Int}
namespace Sc
end Sc
namespace Sc
def indexes (S:Sc):Nat->Sc
 | 0=>S
 | n+1=>(S.indexes n).index
def moveP (S:Sc) (rows cols:Int):Sc :=
 let S1:=if 0<=rows/\rows<=1000 then S.indexes rows.toNat else S
 if 0<=cols/\cols<=1000 then S1.to S1.c.Row (w64 (S1.c.Col+cols)) else S1
end Sc
theorem q9x (h:ScM w base g F S) {rows cols:Int} {K:Ub} (hK:∀F' w',ScT base g w F F' (S.moveP rows cols) w'->K w'):j9 (some ⟨g,0,none⟩) rows cols w K:=by
 refine qdl _ _ _ ?_;simp only [onPtr_some];unfold Sc.moveP at hK;dsimp only at hK;refine jpO λJ1 hJ1=>?_;have key:∀(S1:Sc) F1 w1,ScT base g w F F1 S1 w1->(∀F' w',ScT base g w F F' (if 0<=cols/\cols<=1000 then S1.to S1.c.Row (w64 (S1.c.Col+cols)) else S1) w'->K w')->J1 () w1:=by
  intro S1 F1 w1 hT1 hK;refine hJ1 _ _ (k7 (cO (λe=>?_) λe=>?_))
  ·rw [if_pos (oTq e)] at hK;have hd:=hT1.drew;exact hd.m.ldRow (hd.m.ldCol (qs2 hd.m λw3 hT3=>hK _ _ (hd.trans hT3)))
  ·rw [if_neg (oFq e)] at hK;exact hK _ _ hT1
 refine k7 (cO (λe=>?_) λe=>?_)
 ·have e:=oTq e;rw [if_pos e] at hK;refine lpR (λ(st:Int×Unit) w2=>∃(k:Nat) (F2:ScF),st.1=(k:Int)/\(k:Int)<=rows/\ScT base g w F F2 (S.indexes k) w2) (λst=>rows.toNat-st.1.toNat) ⟨0,F,rfl,by omega,ScT.refl h⟩ ?_;rintro ⟨i,u⟩ w2 ⟨k,F2,hi,hk,hT2⟩ I hI;dsimp only at hi ⊢;subst hi;refine cO (λe=>?_) λe=>?_
  ·have e:=oTq e;refine qmo hT2.m λF3 w3 hT3=>?_;rw [qP (x:=(k:Int)+1) (by omega)];exact hI _ _ ⟨k+1,F3,by simp,by omega,hT2.trans hT3⟩ (by dsimp only;omega)
  ·have e:=oFq e;have hkr:k=rows.toNat:=by omega
   rw [<-hkr] at hK;exact key _ _ _ hT2 hK
 ·rw [if_neg (oFq e)] at hK;exact key _ _ _ (ScT.refl h) hK
end
def same (G G':GS):Prop:=G'.most=G.most/\G'.rows=G.rows/\G'.cols=G.cols
structure Fr (n:Nat) (S S':Sc):Prop where
 alt:S'.alt=S.alt
 s0:S'.s0=S.s0
 s1:S'.s1=S.s1
 g0:same S.g0 S'.g0
 g1:same S.g1 S'.g1
 ar:S'.areas.length<=S.areas.length+n
variable {S S' S'':Sc} {n k0:Nat}
section
variable {w w':World} {base g:Nat} {F F':ScF} {S S':Sc} {c:qL} {s tg pb:Nat} {tq:Slc}
theorem q35 (h:ScM w base g F S) {K:Int->Int->Ub} (hK:K (i64.wrap (S.g0.top-S.g0.old.length)) S.g1.top w.drew.drew):vx (some ⟨g,0,none⟩) w K:=by
 refine qa0 _ ?_;simp only [onPtr_some];have hd:=h.drew;refine ⟨⟨by decide,by decide⟩,qK (x:=some ⟨F.f0.g,0,none⟩) (hd.blk.cell 0 rfl) ?_⟩;refine ⟨⟨by decide,by decide⟩,qK (x:=some ⟨F.f1.g,0,none⟩) (hd.blk.cell 1 rfl) ?_⟩;exact q3d hd.g0 ⟨hd.drew.blk.cell 1 rfl,qxo hd.drew.g1 hK⟩
end
abbrev Pl:=qf
def wi (x:Int):Int:=i64.wrap x
def zii (a b:Pl):Bool:=(a.Image==b.Image) && ((a.Id==b.Id) && ((a.Alt==b.Alt) && ((a.Line==b.Line) && ((a.Col==b.Col) && ((a.Rows==b.Rows) && ((a.Cols==b.Cols) && ((a.X==b.X) && ((a.Y==b.Y) && ((a.W==b.W) && ((a.H==b.H) && ((a.DX==b.DX) && ((a.DY==b.DY) && ((a.Z==b.Z) && true)))))))))))))
def btw (v lo hi:Int):Bool:=decide (v>=lo) && decide (v<=hi)
def qtk (p:Pl):Bool:=decide (p.Image>=0) && (btw p.Id 0 4294967295 && (decide (p.Line>=0) && (decide (p.Line<=1125899906842624) && (btw p.Col 0 1000 && (btw p.Rows 1 1048576 && (btw p.Cols 1 1048576 && (decide (p.X>=0) && (decide (p.Y>=0) && (btw p.W 1 16384 && (btw p.H 1 16384 && (btw p.DX 0 64 && (btw p.DY 0 64 && btw p.Z (-1073741824) 1073741824))))))))))))
structure PlTM (w:World) (base g:Nat) (q:Slc) (T:List Pl):Prop where
 blk:Blk w g jm [.slice q.a q.n q.c]
 hg:base<=g
 own:Go.Vc.Own qY w base q T
def plS (g:Nat) (q:Slc) (k:Nat):Prop:=k=g\/q.blk=some k
section
variable {w w':World} {base g:Nat} {q:Slc} {T:List Pl}
theorem PlTM.ext (h:PlTM w base g q T) (hb:Uc w w'):PlTM w' base g q T:=⟨h.blk.ext hb,h.hg,h.own.ext hb⟩
theorem PlTM.drew (h:PlTM w base g q T):PlTM w.drew base g q T:=⟨h.blk,h.hg,h.own⟩
theorem PlTM.chg {S:Nat->Prop} (h:PlTM w base g q T) (hc:Chg S w w') (hS:∀k,plS g q k->¬S k):PlTM w' base g q T:=⟨h.blk.chg hc (hS _ (.inl rfl)),h.hg,h.own.chg hc λk hk=>hS _ (.inr hk)⟩
theorem PlTM.lt (h:PlTM w base g q T):∀k,plS g q k->base<=k/\k<w.heap.size:=by
 rintro k (rfl | hk)
 ·exact ⟨h.hg,h.blk.lt⟩
 ·exact h.own.lt k hk
theorem PlTM.ne (h:PlTM w base g q T):∀k,q.blk=some k->k≠g:=qF h.own h.blk (by decide)
theorem jN {v lo hi:Int} {K:Bool->Ub} (hK:K (btw v lo hi) w):zV v lo hi w K:=by
 refine qnh _ _ _ ?_;unfold btw at hK;refine cO (λe=>?_) λe=>?_
 ·rw [e,Bool.true_and] at hK;exact hK
 ·rw [e,Bool.false_and] at hK;exact hK
theorem xX {a b:Bool} {K:Bool->Ub} {X:Prop} (hK:K (a && b) w) (h:K b w->X):cond a X (K false w):=by
 cases a
 ·exact hK
 ·exact h hK
theorem q4n {p:Pl} {K:Bool->Ub} (hK:∀w',Uc w w'->K (qtk p) w'):qj9 p w K:=by
 refine qvm _ ?_;refine nwb λw1 hb hB1 hs1=>?_;have hK:=hK w1 hB1;unfold qtk at hK;refine lI (x:=p.Image) (hb.cells 0 _ rfl) (xX hK λhK=>?_);refine lI (x:=p.Id) (hb.cells 1 _ rfl) (jN (xX hK λhK=>?_));refine lI (x:=p.Line) (hb.cells 3 _ rfl) (xX hK λhK=>?_);refine lI (x:=p.Line) (hb.cells 3 _ rfl) (xX hK λhK=>?_);refine lI (x:=p.Col) (hb.cells 4 _ rfl) (jN (xX hK λhK=>?_));refine lI (x:=p.Rows) (hb.cells 5 _ rfl) (jN (xX hK λhK=>?_));refine lI (x:=p.Cols) (hb.cells 6 _ rfl) (jN (xX hK λhK=>?_));refine lI (x:=p.X) (hb.cells 7 _ rfl) (xX hK λhK=>?_);refine lI (x:=p.Y) (hb.cells 8 _ rfl) (xX hK λhK=>?_);refine lI (x:=p.W) (hb.cells 9 _ rfl) (jN (xX hK λhK=>?_));refine lI (x:=p.H) (hb.cells 10 _ rfl) (jN (xX hK λhK=>?_));refine lI (x:=p.DX) (hb.cells 11 _ rfl) (jN (xX hK λhK=>?_));refine lI (x:=p.DY) (hb.cells 12 _ rfl) (jN (xX hK λhK=>?_));exact lI (x:=p.Z) (hb.cells 13 _ rfl) (jN hK)
end
theorem zq {w w1 w2:World} (h1:Uc w w1) (h2:Uc w1 w2):Uc w w2:=h1.trans (h2.mono h1.size)
theorem vi {w w1 w2 w3:World} (h1:Uc w w1) (h2:Uc w1 w2) (h3:Uc w2 w3):Uc w w3:=zq (zq h1 h2) h3
section
variable {w w':World} {base g:Nat} {q:Slc} {T:List Pl}
def qud (w:World) (G:Value) (f:Pl->Bool):Prop:=∀(w1:World) (p:Pl) (K:Bool->Ub),Uc w w1->(∀w2,Uc w1 w2->K (f p) w2)->jl C G [.agg (qf.rep.cells p).toArray] [Kind.bool] w1 K
theorem qiu {G:Value} {f:Pl->Bool} (h:PlTM w base g q T) (hl:T.length<=100000) (hbase:base<=w.heap.size) (hG:qud w G f) {K:Slc->Ub}
  (hK:∀r q' w',Go.Vc.Own qY w' w.heap.size r (T.filter f)->PlTM w' base g q' (T.filter λp=>!f p)->(∀k,q'.blk=some k->w.heap.size<=k)->(∀k,r.blk=some k->q'.blk≠some k)->Chg (λk=>k=g) w w'->K r w') :
  ke (some ⟨g,0,none⟩) G w K:=by
 refine qh1 _ _ ?_;simp only [onPtr_some];refine lSl (x:=q) (h.blk.cells 0 _ rfl) ?_;have hn:q.n=T.length:=h.own.rd.n;refine lpR (λ(st:Slc×Slc×Int×Unit) w1=>∃k:Nat,st.2.2.1=(k:Int)/\k<=T.length/\Go.Vc.Own qY w1 w.heap.size st.1 ((T.take k).filter f)/\Go.Vc.Own qY w1 w.heap.size st.2.1 ((T.take k).filter λp=>!f p) /\
   (∀k,st.1.blk=some k->st.2.1.blk≠some k)/\Uc w w1) (λst=>T.length-st.2.2.1.toNat) ⟨0,rfl,Nat.zero_le _,Own.nil _ _ _,Own.nil _ _ _,(λk hk=>by cases hk),Below.refl _ _⟩ ?_
 rintro ⟨r,l,i,u⟩ w1 ⟨k,hi,hk,hr,hle,hne,hB⟩ I hI;dsimp only at hi hr hle hne ⊢;subst hi;have h1:=h.ext hB;refine cO (λe=>?_) λe=>?_
 ·have e:=oTq e;have hlt:k<T.length:=by omega
  obtain ⟨p,hp⟩:∃p,T[k]?=some p:=⟨_,List.getElem?_eq_getElem hlt⟩;refine h1.own.rd.ix (E:=qY) (i:=(k:Int)) rfl (by omega) (by omega) λhx=>?_;have hx:qy w1 (q.at_ qY.k (k:Int).toNat) (qf.rep.cells p):=by
   simp only [Int.toNat_natCast] at hx ⊢;have e1:T[k]'hlt=p:=(List.getElem?_eq_some_iff.1 hp).2;rw [e1] at hx;exact hx
  refine qx (r:=qf.rep) (x:=p) hx ?_;refine ko (vs:=qf.rep.cells p) rfl λw3 hb3 hB3 hs3=>?_;refine qx (r:=qf.rep) (x:=p) hb3.cells ?_;have B3:=zq hB hB3;refine hG w3 p _ B3 λw4 hB4=>?_;have B4:=zq B3 hB4;have hr4:=(hr.ext hB3).ext hB4;have hl4:=(hle.ext hB3).ext hB4;have hb4:=hb3.ext hB4;have z4:=B4.size;have tk:T.take (k+1)=T.take k++[p]:=by rw [List.take_add_one,hp];rfl
  have lf:∀g:Pl->Bool,((T.take k).filter g).length<=k:=λg=>le_trans (List.length_filter_le _ _) (by simp;omega);have by112:jO.i.bytes=112:=JH;refine cO (λhf=>?_) λhf=>?_
  ·refine qx (r:=qf.rep) (x:=p) hb4.cells ?_;have:=lf f;refine YZ (E:=qY) jO hr4 (y:=p) rfl z4 (by rw [by112];omega) (by unfold maxLen;omega) λr' w5 ho5 hc5 hrb=>?_;have hl5:=hl4.chg hc5 λk hk e=>hne k e hk;rw [qP (x:=(k:Int)+1) (by omega)];refine hI _ _ ⟨k+1,by simp,by omega,?_,?_,λk hk=>?_,?_⟩ (by dsimp only;omega)
   ·rw [tk,List.filter_append,show [p].filter f=[p] by simp [hf]];exact ho5
   ·rw [tk,List.filter_append,show [p].filter (λp=>!f p)=[] by simp [hf],List.append_nil];exact hl5
   ·rcases hrb k hk with h | h
    ·exact hne k h
    ·intro e;have:=(hl4.lt k e).2;omega
   ·exact B4.trans (hc5.below (by omega) λi hi e=>by have:=(hr4.lt i e).1;omega)
  ·refine qx (r:=qf.rep) (x:=p) hb4.cells ?_;have:=lf λp=>!f p;refine YZ (E:=qY) jO hl4 (y:=p) rfl z4 (le_trans (Nat.mul_le_mul_right _ (Nat.succ_le_succ (lf _))) (by rw [by112];omega)) (le_trans (Nat.succ_le_succ (lf _)) (by unfold maxLen;omega)) λr' w5 ho5 hc5 hrb=>?_;have hr5:=hr4.chg hc5 λk hk e=>hne k hk e;rw [qP (x:=(k:Int)+1) (by omega)];refine hI _ _ ⟨k+1,by simp,by omega,?_,?_,λk hk e=>?_,?_⟩ (by dsimp only;omega)
   ·rw [tk,List.filter_append,show [p].filter f=[] by simp [hf],List.append_nil];exact hr5
   ·rw [tk,List.filter_append,show [p].filter (λp=>!f p)=[p] by simp [hf]];exact ho5
   ·rcases hrb k e with h | h
    ·exact hne k hk h
    ·have:=(hr4.lt k hk).2;omega
   ·exact B4.trans (hc5.below (by omega) λi hi e=>by have:=(hl4.lt i e).1;omega)
 ·have e:=oFq e;have hkT:k=T.length:=by omega
  subst hkT;rw [List.take_length] at hr hle;rw [show (⟨g,0,none⟩:Addr).add 0=⟨g,0,none⟩ from rfl];refine qw h1.blk (by simp) λw2 hb2 hg2 hs2=>?_;have hc2:Chg (λi=>i=g) w1 w2:=Chg.of_grown hg2 λk hk=>by cases hk;rfl
  have hgl:=h.blk.lt;have nr:∀k,r.blk=some k->¬k=g:=λk hk e=>by have:=(hr.lt k hk).1;omega
  have nl:∀k,l.blk=some k->¬k=g:=λk hk e=>by have:=(hle.lt k hk).1;omega
  exact hK r l w2 (hr.chg hc2 nr) ⟨hb2,h.hg,(hle.chg hc2 nl).base hbase⟩ (λk hk=>(hle.lt k hk).1) hne ((Chg.of_ext (S:=λk=>k=g) hB).trans hc2 λi _ hi=>hi)
end
theorem Jj {k:Nat} {first caps:Array Value} {args:List Value} {ks:List Kind} {w:World} {K:Go.Vc.Cur ks} (hp:C.plain k=true) (h:qj C.P k (first.toList++args++caps.toList) ks w K):jl C (.func (.func k) first caps) args ks w K:=by
 unfold jl qks;simp only [hp];exact h
section
variable {w w':World} {base g:Nat} {q:Slc} {T:List Pl}
theorem q9r {b:Nat} {x:Int} (hb:Blk w b zd [.int .i64 x]):qud w (.func (.func X0) #[] #[.pointer (some ⟨b,0,none⟩)]) (λp=>p.Image==x):=by
 intro w1 p K hB hK;have h:K3 p ⟨b,0,none⟩ w1 K:=by
  refine qd3 _ _ ?_;refine nwb λw2 hp hB2 hs2=>?_;refine lI (x:=p.Image) (hp.cells 0 _ rfl) (lI (x:=x) ?_ (hK w2 hB2));simpa using ((hb.ext hB).ext hB2).cells 0 _ rfl
 refine Jj (by kernel_rfl) (Calls.mono h ?_);rintro e w' ⟨r,rfl,hk⟩;exact ⟨r,rfl,hk⟩
theorem zc3 {b:Nat} {x:Int} (hb:Blk w b zd [.int .i64 x]):qud w (.func (.func KQ) #[] #[.pointer (some ⟨b,0,none⟩)]) (λp=>p.Image==x):=by
 intro w1 p K hB hK;have h:VP p ⟨b,0,none⟩ w1 K:=by
  refine qgt _ _ ?_;refine nwb λw2 hp hB2 hs2=>?_;refine lI (x:=p.Image) (hp.cells 0 _ rfl) (lI (x:=x) ?_ (hK w2 hB2));simpa using ((hb.ext hB).ext hB2).cells 0 _ rfl
 refine Jj (by kernel_rfl) (Calls.mono h ?_);rintro e w' ⟨r,rfl,hk⟩;exact ⟨r,rfl,hk⟩
def qw4 (alt:Bool) (first:Int) (p:Pl):Bool:=(p.Alt==alt) && decide (wi (p.Line+p.Rows)<=first)
theorem q5y {b b2:Nat} {alt:Bool} {first:Int} (hb:Blk w b qs9 [.bool alt]) (hb2:Blk w b2 q4b [.int .i64 first]):qud w (.func (.func Jz) #[] #[.pointer (some ⟨b,0,none⟩),.pointer (some ⟨b2,0,none⟩)]) (qw4 alt first):=by
 intro w1 p K hB hK;have h:X1 p ⟨b,0,none⟩ ⟨b2,0,none⟩ w1 K:=by
  refine qce _ _ _ ?_;refine nwb λw2 hp hB2 hs2=>?_;refine xP (x:=p.Alt) (hp.cells 2 _ rfl) (xP (x:=alt) (by simpa using ((hb.ext hB).ext hB2).cells 0 _ rfl) ?_);have hk:=hK w2 hB2;unfold qw4 at hk;refine xX hk λhk=>?_;exact lI (x:=p.Line) (hp.cells 3 _ rfl) (lI (x:=p.Rows) (hp.cells 5 _ rfl) (lI (x:=first) (by simpa using ((hb2.ext hB).ext hB2).cells 0 _ rfl) hk))
 refine Jj (by kernel_rfl) (Calls.mono h ?_);rintro e w' ⟨r,rfl,hk⟩;exact ⟨r,rfl,hk⟩
def qpm (p o:Pl):Bool:=(p.Id !=0) && zii { p with Image:=o.Image,Id:=o.Id } p
theorem zdc {b:Nat} {p:Pl} (hb:Blk w b qA (qf.rep.cells p)):qud w (.func (.func KV) #[] #[.pointer (some ⟨b,0,none⟩)]) (qpm p):=by
 intro w1 o K hB hK;have h:Vz o ⟨b,0,none⟩ w1 K:=by
  refine qe9 _ _ ?_;refine nwb λw2 ho hB2 hs2=>?_;have hb2:=(hb.ext hB).ext hB2;refine qx (r:=qf.rep) (x:=p) hb2.cells ?_;refine ko (vs:=qf.rep.cells p) rfl λw3 hl3 hB3 hs3=>?_;have ho3:=(ho.ext hB3).drew;have hl3d:=hl3.drew;refine lI (x:=o.Image) (ho3.cells 0 _ rfl) (lI (x:=o.Id) (ho3.cells 1 _ rfl) ?_);show stK ⟨w2.heap.size,0,none⟩ _ _ _;refine qw hl3d (by show (0+1:Nat)<=14;omega) λw4 hl4 hg4 hs4=>?_;have hc4:Chg (λi=>i=w2.heap.size) w3.drew w4:=Chg.of_grown hg4 λk hk=>by cases hk;rfl
  have nlo:∀{k:Nat},k<w2.heap.size->¬k=w2.heap.size:=λh e=>by omega
  have ho4:=ho3.chg hc4 (nlo ho.lt);have hb3:=(hb2.ext hB3).drew;have hb4:=hb3.chg hc4 (nlo hb2.lt);refine ⟨ho4.cells 1 _ rfl,?_⟩;show stK ⟨w2.heap.size,1,none⟩ _ _ _;have hl4':Blk w4 w2.heap.size qA (qf.rep.cells { p with Image:=o.Image }):=hl4;refine qw hl4' (by show (1+1:Nat)<=14;omega) λw5 hl5 hg5 hs5=>?_;have hc5:Chg (λi=>i=w2.heap.size) w4 w5:=Chg.of_grown hg5 λk hk=>by cases hk;rfl
  have hb5:=hb4.chg hc5 (nlo hb2.lt);have hl5':Blk w5 w2.heap.size qA (qf.rep.cells { p with Image:=o.Image,Id:=o.Id }):=hl5;have z2:w1.heap.size<=w2.heap.size:=hB2.size;have B5:Uc w1 w5:=((zq hB2 hB3).drew.trans (hc4.below (by show w1.heap.size<=w3.heap.size;omega) λi hi e=>by omega)).trans (hc5.below (by rw [hs4];show w1.heap.size<=w3.heap.size;omega) λi hi e=>by omega);have hk:=hK w5 B5;unfold qpm at hk;refine lI (x:=p.Id) (by have:=hb5.cells 1 _ rfl;simpa using this) (xX hk λhk=>?_);exact qx (r:=qf.rep) (x:={ p with Image:=o.Image,Id:=o.Id }) hl5'.cells (qx (r:=qf.rep) (x:=p) hb5.cells hk)
 refine Jj (by kernel_rfl) (Calls.mono h ?_);rintro e w' ⟨r,rfl,hk⟩;exact ⟨r,rfl,hk⟩
theorem kB (w:World):Uc w w.drew:=(Below.refl _ w).drew
theorem qpp {s:Slc} (hs:Rd qY w s T) (hl:T.length<=100000) {K:Slc->Ub} (hK:∀r w',Go.Vc.Own qY w' w.heap.size r T->Uc w w'->K r w'):zI s w K:=by
 refine vT _ ?_;cases ha:s.a with
 | none =>
  refine cT rfl ?_;have hT:T=[]:=by
   cases T with
   | nil=>rfl
   | cons p r =>
    have:=hs.some_ (by simp);rw [ha] at this;cases this
  rw [hT] at hK;exact hK _ w (Own.nil _ _ _) (Below.refl _ _)
 | some a =>
  refine cF rfl (nwb λw1 hb hB hs1=>?_);have hz:=hB.size;refine jx jO (Yp (E:=qY) hb (le_refl _)) (hs.ext hB) hz (by rw [JH];simp;omega) (by simp;unfold maxLen;omega) λr w2 ho hg hr=>?_;exact hK r w2 (by simpa using ho) (hB.grown hg hz λk hk=>by cases hk;exact le_refl _)
theorem q15 (h:PlTM w base g q T) (hl:T.length<=100000) (hbase:base<=w.heap.size) (x:Int) {K:Int->Ub}
  (hK:∀n q' w',PlTM w' base g q' (T.filter λp=>!(p.Image==x))->(∀k,q'.blk=some k->w.heap.size<=k)->Chg (λk=>k=g) w w'->K n w'):Zq (some ⟨g,0,none⟩) x w K:=by
 refine qhl _ _ ?_;refine nwb λw1 hb hB1 hs1=>?_;refine qiu (h.ext hB1) hl (le_trans hbase hB1.size) (q9r hb) λr q' w2 hr ht hq hne hc=>?_;exact hK _ q' w2 ht (λk hk=>le_trans hB1.size (hq k hk)) ((Chg.of_ext (S:=λk=>k=g) hB1).trans hc λi _ hi=>hi)
theorem qy8 (h:PlTM w base g q T) (hl:T.length<=100000) (hbase:base<=w.heap.size) (alt:Bool) (first:Int) {K:Slc->Ub}
  (hK:∀r q' w',Go.Vc.Own qY w' w.heap.size r (T.filter (qw4 alt first))->PlTM w' base g q' (T.filter λp=>!qw4 alt first p)->(∀k,q'.blk=some k->w.heap.size<=k)->(∀k,r.blk=some k->q'.blk≠some k)->Chg (λk=>k=g) w w'->K r w'):Q4 (some ⟨g,0,none⟩) alt first w K:=by
 refine qfa _ _ _ ?_;refine nwb λw1 hb hB1 hs1=>nwb λw2 hb2 hB2 hs2=>?_;have B2:=zq hB1 hB2;refine qiu ((h.ext hB1).ext hB2) hl (le_trans hbase B2.size) (q5y (hb.ext hB2) hb2) λr q' w3 hr ht hq hne hc=>?_;exact hK r q' w3 (hr.base B2.size) ht (λk hk=>le_trans B2.size (hq k hk)) hne ((Chg.of_ext (S:=λk=>k=g) B2).trans hc λi _ hi=>hi)
theorem q6v (h:PlTM w base g q T) (hl:T.length<=99999) (hbase:base<=w.heap.size) (p:Pl) {K:Int->Ub}
  (hE:qtk p=false->∀w',Uc w w'->K 1 w')
  (hK:qtk p=true->∀q' w',PlTM w' base g q' ((T.filter λo=>!qpm p o)++[p])->(∀k,q'.blk=some k->w.heap.size<=k)->Chg (λk=>k=g) w w'->K 0 w'):JD (some ⟨g,0,none⟩) p w K:=by
 refine qj2 _ _ ?_;refine nwb λw1 hb1 hB1 hs1=>?_;refine qx (r:=qf.rep) (x:=p) hb1.cells (q4n λw2 hB2=>?_);have B2:=zq hB1 hB2;have hb2:=hb1.ext hB2;cases hm:qtk p
 ·exact cT rfl (hE hm _ B2)
 ·refine cF rfl ?_;have h2:=(h.ext hB1).ext hB2;have bg:g<w.heap.size:=h.blk.lt;refine qiu h2 (by omega) (le_trans hbase B2.size) (zdc hb2) λr q' w3 hr ht hq hne hc=>?_;simp only [onPtr_some];have htd:=ht.drew;have hb3:Blk w3.drew w.heap.size qA (qf.rep.cells p):=(hb2.chg hc λe=>by omega).drew;have hll:(T.filter λo=>!qpm p o).length<=T.length:=List.length_filter_le _ _;refine lSl (x:=q') (htd.blk.cells 0 _ rfl) (qx (r:=qf.rep) (x:=p) hb3.cells ?_);have z3:=hc.size;have z2:=B2.size;refine nwb λw4 hb4 hB4 hs4=>⟨(htd.blk.ext hB4).cells 0 _ rfl,?_⟩;refine jx jO (htd.own.ext hB4) (yg (E:=qY) (y:=p) hb4 rfl) (by show base<=w4.heap.size;have:=hB4.size;have e:w3.drew.heap.size=w3.heap.size:=rfl;omega) (by
    show ((T.filter λo=>!qpm p o).length+1)*jO.i.bytes<=_;rw [JH];omega) (by
    show (T.filter λo=>!qpm p o).length+1<=maxLen;unfold maxLen;omega) λr5 w5 ho5 hg5 hr5=>?_
  rw [show (⟨g,0,none⟩:Addr).add 0=⟨g,0,none⟩ from rfl];have hblk5:Blk w5 g jm [.slice q'.a q'.n q'.c]:=(htd.blk.ext hB4).grown hg5 λe=>(htd.ext hB4).ne g e.symm rfl;refine qw hblk5 (by simp) λw6 hb6 hg6 hs6=>?_;have hc6:Chg (λi=>i=g) w5 w6:=Chg.of_grown hg6 λk hk=>by cases hk;rfl
  have hrb:∀k,r5.blk=some k->w2.heap.size<=k:=by
   intro k hk;rcases hr5 with e | e
   ·rw [e] at hk;exact hq k hk
   ·rw [e] at hk;cases hk;have e:w3.drew.heap.size=w3.heap.size:=rfl;omega
  have ho6:=ho5.chg hc6 λk hk e=>by have:=hrb k hk;omega
  have hc5:Chg (λk=>k=g) w w5:=by
   refine (Chg.of_ext (S:=λk=>k=g) B2).trans ((hc.trans (Chg.of_ext (S:=λk=>k=g) (zq (kB w3) hB4)) λi _ hi=>hi).trans (Chg.of_grown (S:=λk=>q'.blk=some k) hg5 λk hk=>hk) ?_) λi _ hi=>hi;intro i hi e;have:=hq i e;omega
  exact hK hm r5 w6 ⟨hb6,h.hg,ho6⟩ (λk hk=>le_trans B2.size (hrb k hk)) (hc5.trans hc6 λi _ hi=>hi)
theorem q63 (h:PlTM w base g q T) (hl:T.length<=100000) (x:Int) {K:Bool->Ub} (hK:∀w',Uc w w'->K (T.any λp=>p.Image==x) w'):ZW (some ⟨g,0,none⟩) x w K:=by
 refine qjh _ _ ?_;refine nwb λw1 hb hB1 hs1=>?_;simp only [onPtr_some];have h1:=h.ext hB1;refine lSl (x:=q) (h1.blk.cells 0 _ rfl) ?_;refine ku _ _ ?_;refine kQ _ _ ?_;have hn:q.n=T.length:=h.own.rd.n;have hG:=zc3 hb;refine lpR (λ(st:Int×Unit) w2=>∃k:Nat,st.1=(k:Int)/\k<=T.length/\Uc w1 w2/\(T.take k).any (λp=>p.Image==x)=false) (λst=>T.length-st.1.toNat) ⟨0,rfl,Nat.zero_le _,Below.refl _ _,rfl⟩ ?_;rintro ⟨i,u⟩ w2 ⟨k,hi,hk,hB2,hany⟩ I hI;dsimp only at hi ⊢;subst hi;have h2:=h1.ext hB2;have B2:=zq hB1 hB2;refine cO (λe=>?_) λe=>?_
 ·have e:=oTq e;have hlt:k<T.length:=by omega
  obtain ⟨p,hp⟩:∃p,T[k]?=some p:=⟨_,List.getElem?_eq_getElem hlt⟩;refine h2.own.rd.ix (E:=qY) (i:=(k:Int)) rfl (by omega) (by omega) λhx=>?_;have hx:qy w2 (q.at_ qY.k (k:Int).toNat) (qf.rep.cells p):=by
   simp only [Int.toNat_natCast] at hx ⊢;have e1:T[k]'hlt=p:=(List.getElem?_eq_some_iff.1 hp).2;rw [e1] at hx;exact hx
  refine qx (r:=qf.rep) (x:=p) hx ?_;refine hG w2 p _ hB2 λw3 hB3=>?_;have tk:T.take (k+1)=T.take k++[p]:=by rw [List.take_add_one,hp];rfl
  refine cO (λhf=>?_) λhf=>?_
  ·rw [dTq (by omega)];have:(T.any λp=>p.Image==x)=true:=List.any_eq_true.2 ⟨p,List.mem_of_getElem? hp,hf⟩;rw [<-this];exact hK w3 (zq B2 hB3)
  ·rw [qP (x:=(k:Int)+1) (by omega)];refine hI _ _ ⟨k+1,by simp,by omega,zq hB2 hB3,?_⟩ (by dsimp only;omega);rw [tk,List.any_append,hany];simp [hf]
 ·have e:=oFq e;have hkT:k=T.length:=by omega
  subst hkT;rw [List.take_length] at hany;rw [dFq (by omega),<-hany];exact hK w2 B2
theorem q4i (h:PlTM w base g q T) (hl:T.length<=100000) {K:Slc->Ub} (hK:∀r w',Go.Vc.Own qY w' w.heap.size r T->Uc w w'->K r w'):Jg (some ⟨g,0,none⟩) w K:=by
 refine qkh _ ?_;simp only [onPtr_some];refine lSl (x:=q) (h.blk.cells 0 _ rfl) ?_;exact qpp h.own.rd hl hK
end
end Go.Proofs.YtokfefnmpjohpaaGreatDoor
namespace Go.Vc
open Go.RowKit
open Go.ChangeMaps (setBlock)
open _root_.List (mem_cons mem_filter mem_map)
open _root_.Nat (le_refl)
section
variable {V:Type} (enc:V->Value)
def qoc (w:World) (r it:Nat) (L todo:List (Int×V)):Prop :=
 ∃E c since xF c0,MapE enc w r E c/\(vt E).Perm L/\Srt L/\w.heap[it]?=some (.mapIter (some r) since xF c0)/\(∀e∈E,e.b<since)/\since<=c0/\since<=c /\
  (vt (E.filter λe=>!xF.contains e.b)).Perm todo
variable {enc}
variable {P:Program} {t kt et:TypeId} {w:World} {r it:Nat} {L todo:List (Int×V)}
theorem qoc.map (h:qoc enc w r it L todo):jc enc w r L:=by
 obtain ⟨E,c,_,_,_,h1,h2,h3,_⟩:=h;exact ⟨E,c,h1,h2,h3⟩
theorem qoc.keep {w':World} (h:qoc enc w r it L todo) (hr:w'.heap[r]?=w.heap[r]?) (hi:w'.heap[it]?=w.heap[it]?):qoc enc w' r it L todo:=by
 obtain ⟨E,c,since,xF,c0,h1,h2,h3,h4,h5⟩:=h;exact ⟨E,c,since,xF,c0,⟨hr.trans h1.heap,h1.keys,h1.stamps,h1.lt,h1.wf⟩,h2,h3,hi.trans h4,h5⟩
theorem qoc.it_lt (h:qoc enc w r it L todo):it<w.heap.size:=by
 obtain ⟨E,c,since,xF,c0,h1,h2,h3,h4,h5⟩:=h;exact (Array.getElem?_eq_some_iff.1 h4).1
theorem qoc.ext {w':World} (h:qoc enc w r it L todo) (hb:Uc w w'):qoc enc w' r it L todo:=h.keep (hb.block r h.map.lt) (hb.block it h.it_lt)
theorem q5j (hM:jc enc w r L) (ht:P.underlying t=some (.map kt et)) {K:Addr->Ub}
  (hK:∀w',qoc enc w' r w.heap.size L L->Uc w w'->w'.heap.size=w.heap.size+1->K ⟨w.heap.size,0,none⟩ w'):q4k P t (.map (some r)) w K:=by
 obtain ⟨E,c,hE,hp,hs⟩:=hM;have hB:Uc w (w.alloc (.mapIter (some r) c #[] c)):=(Below.refl _ w).alloc (le_refl _) _;refine ⟨_,w.alloc (.mapIter (some r) c #[] c),?_,hK _ ⟨E,c,c,#[],c,⟨(hB.block r hE.lt_heap).trans hE.heap,hE.keys,hE.stamps,hE.lt,hE.wf⟩,hp,hs,?_,hE.lt,le_refl _,le_refl _,?_⟩ hB (by show (w.heap.push _).size=_;simp)⟩
 ·simp [Instr.range,run_underlying ht,xZ hE.heap,newObj,Sem.run]
 ·show (w.heap.push _)[w.heap.size]?=_;simp
 ·rw [List.filter_eq_self.2 (λx _=>by simp)];exact hp
theorem qvp {E:List (Ent V)} {xF:Array Nat} {x:MapEntry} (h:x∈(leftOf (E.map (Ent.val enc)).toArray xF).toList):∃e∈E.filter (λe=>!xF.contains e.b),Ent.val enc e=x:=by
 unfold leftOf at h;rw [Array.toList_filter] at h;obtain ⟨h1,h2⟩:=mem_filter.1 h;obtain ⟨e,he,rfl⟩:=mem_map.1 h1;exact ⟨e,mem_filter.2 ⟨he,h2⟩,rfl⟩
theorem za7 {E:List (Ent V)} {xF:Array Nat}:(leftOf (E.map (Ent.val enc)).toArray xF).size=(E.filter (λe=>!xF.contains e.b)).length:=by
 unfold leftOf;rw [<-Array.length_toList,Array.toList_filter,List.filter_map,List.length_map];rfl
theorem qts {E:List (Ent V)} (h:E.Pairwise λx y=>x.k≠y.k):E.Nodup:=h.imp λhab e=>hab (congrArg Ent.k e)
theorem zhq {E:List (Ent V)} (h:E.Pairwise λx y=>x.b<y.b):∀{x y},x∈E->y∈E->x.b=y.b->x=y:=by
 induction E with
 | nil=>intro x y hx;cases hx
 | cons a E ih =>
  have hp:=List.pairwise_cons.1 h;intro x y hx hy e;rcases mem_cons.1 hx with rfl | hx
  ·rcases mem_cons.1 hy with rfl | hy
   ·rfl
   ·have:=hp.1 y hy;omega
  ·rcases mem_cons.1 hy with e' | hy
   ·rw [e'] at e;have:=hp.1 x hx;omega
   ·exact ih hp.2 hx hy e
theorem q0n {E:List (Ent V)} (h1:E.Pairwise λx y=>x.k≠y.k) (h2:E.Pairwise λx y=>x.b<y.b) {xF:Array Nat} {e:Ent V} (he:e∈E.filter λe=>!xF.contains e.b) :
  (E.filter λx=>!xF.contains x.b).Perm (e::E.filter λx=>!(xF.push e.b).contains x.b):=by
 have hin:=(mem_filter.1 he).1;have hno:e ∉ E.filter λx=>!(xF.push e.b).contains x.b:=λh=>by simp at h
 refine (List.perm_ext_iff_of_nodup ((qts h1).filter _) (List.nodup_cons.2 ⟨hno,(qts h1).filter _⟩)).2 λx=>?_;rw [mem_cons,mem_filter,mem_filter];simp only [Array.contains_eq_mem,Array.mem_push,Bool.not_eq_true',decide_eq_false_iff_not];constructor
 ·rintro ⟨hx,hs⟩;by_cases hxe:x=e
  ·exact .inl hxe
  ·refine .inr ⟨hx,λh=>?_⟩;rcases h with h | h
   ·exact hs h
   ·exact hxe (zhq h2 hx hin h)
 ·rintro (rfl | ⟨hx,h⟩)
  ·have:=(mem_filter.1 he).2;simp only [Array.contains_eq_mem,Bool.not_eq_true',decide_eq_false_iff_not] at this;exact ⟨hin,this⟩
  ·exact ⟨hx,λhs=>h (.inl hs)⟩
theorem zal (hM:qoc enc w r it L todo) (ty:TypeId) {K0:Ub} {K1:Value->Value->Ub} (h0:todo=[]->K0 w)
  (h1:∀k v w' todo',todo.Perm ((k,v)::todo')->qoc enc w' r it L todo'->Chg (λi=>i=it) w w'->w'.heap.size=w.heap.size ->
   ((Instr.entry (.pointer (some ⟨it,0,none⟩))).run P w'=.ok (.tuple #[.int .i64 k,enc v]) w')->K1 (Ua k) (enc v) w') :
  zbz P (.pointer (some ⟨it,0,none⟩)) false ty w K0 K1:=by
 obtain ⟨E,c,since,xF,c0,hE,hp,hs,hi,hlt,hsc,hsk,htd⟩:=hM;have hne:it≠r:=by
  rintro rfl;have:=hE.heap;rw [hi] at this;cases this
 rcases run_next_at (P:=P) w ty it r since c0 xF _ c hi hE.heap (λx hx=>by
   obtain ⟨e,he,rfl⟩:=mem_map.1 hx;exact hlt e he) hsc with ⟨hz,hrun⟩ | ⟨x,hx,w1,hw1,hrun⟩
 ·refine .inl ⟨w,hrun,h0 ?_⟩;rw [za7] at hz;rw [List.eq_nil_of_length_eq_zero hz] at htd;exact htd.symm.eq_nil
 ·obtain ⟨e,he,rfl⟩:=qvp hx;have hin:=(mem_filter.1 he).1;have hi1:w1.heap[it]?=some (.mapIter (some r) since xF c0):=by rcases hw1 with rfl | rfl<;>exact hi
  have hE1:w1.heap[r]?=some (.map (E.map (Ent.val enc)).toArray c):=by rcases hw1 with rfl | rfl<;>exact hE.heap
  have hsz:w1.heap.size=w.heap.size:=by rcases hw1 with rfl | rfl<;>rfl
  have hset:=Go.MapKept.heap_set (o':=.mapIter (some r) since (xF.push e.b) c) hi1;have hr2:(setBlock w1 it (.mapIter (some r) since (xF.push e.b) c)).heap[r]?=some (.map (E.map (Ent.val enc)).toArray c):=(hset.2 r (λe1=>hne e1.symm)).trans hE1;have hfp:=q0n hE.keys hE.stamps he;refine .inr ⟨.int .i64 e.k,enc e.v,_,hrun,h1 e.k e.v _ (vt (E.filter λx=>!(xF.push e.b).contains x.b)) ?_ ⟨E,c,since,xF.push e.b,c,⟨hr2,hE.keys,hE.stamps,hE.lt,hE.wf⟩,hp,hs,hset.1,hlt,hsk,hsk,.refl _⟩ ?_ ?_ ?_⟩
  ·refine htd.symm.trans ?_;exact hfp.map λe=>(e.k,e.v)
  ·refine ⟨?_,?_,?_,?_,λk hk hn=>?_⟩
   ·rcases hw1 with rfl | rfl<;>rfl
   ·rcases hw1 with rfl | rfl<;>rfl
   ·rcases hw1 with rfl | rfl<;>rfl
   ·rcases hw1 with rfl | rfl<;>simp [setBlock]
   ·rcases hw1 with rfl | rfl<;>exact hset.2 k hn
  ·rcases hw1 with rfl | rfl<;>simp [setBlock]
  ·refine run_entry_at _ it r since xF _ c (Ent.val enc e) hset.1 hr2 (mem_map.2 ⟨e,hin,rfl⟩) ?_;rw [List.toList_toArray,List.map_map];exact List.pairwise_map.2 (hE.stamps.imp λ{a b} h (e:a.b=b.b)=>by rw [e] at h;exact Nat.lt_irrefl _ h)
theorem qwq (hM:jc enc w r L) (t:TypeId) :
  ∃w',(Extern.MapsClone.clone #[.iface t (.map (some r))]).run P w=.ok (.iface t (.map (some w.heap.size))) w'/\jc enc w' w.heap.size L/\Uc w w'/\w'.heap.size=w.heap.size+1:=by
 obtain ⟨E,c,hE,hp,hs⟩:=hM;have hB:Uc w (w.alloc (.map (E.map (Ent.val enc)).toArray c)):=(Below.refl _ w).alloc (le_refl _) _;refine ⟨_,?_,⟨E,c,⟨?_,hE.keys,hE.stamps,hE.lt,hE.wf⟩,hp,hs⟩,hB,by show (w.heap.push _).size=_;simp⟩
 ·have e:Extern.MapsClone.clone #[.iface t (.map (some r))]=(getObj r >>= λo=>match o with
   | .map entries clock=>(newObj (.map entries clock) >>= λn=>pure (.iface t (.map (some n))))
   | _ => stuck "maps.clone: a map expected") := rfl
  rw [e];simp [xZ hE.heap,newObj,Sem.run]
 ·show (w.heap.push _)[w.heap.size]?=_;simp
theorem qm1 {xT k e:TypeId} {v:Value} (h:P.underlying t=some (.map k e)):(Instr.typeAssert (.iface t v) xT t false).run P w=.ok v w:=by
 simp [Instr.typeAssert,run_underlying h]
end
end Go.Vc
namespace Go.Proofs.YtokfefnmpjohpaaGreatDoor
open Go.Vc Go.RowKit
set_option maxRecDepth 100000
open IntKind (i64)
open _root_.List (mem_append mem_cons mem_cons_of_mem mem_cons_self mem_singleton)
open _root_.Nat (le_refl zero_le)
theorem qiv {w:World} {T:Type} {E:El T} {b g:Nat} {s:Slc} {xs:List T} {t:TypeId} {vs:List Value} (h:Go.Vc.Own E w b s xs) (h':Blk w g t vs) (hne:E.t≠t):∀k,s.blk=some k->k≠g:=λk hk=>by
 obtain ⟨cs,hcs⟩:=h.blk_t hk;exact hcs.ne_t h' hne
theorem q0y {T:Type} {E:El T} {w:World} {s:Slc} {xs:List T} (h:Rd E w s xs) (hp:0<xs.length):∀a,s.a=some a->a.block<w.heap.size:=λa ha=>by
 have:=h.lt hp;simpa [Slc.at_,ha] using this
theorem qfw {T:Type} {E:El T} {Sx:Nat->Prop} {w w':World} {s:Slc} {xs:List T} (h:Rd E w s xs) (hc:Chg Sx w w') (hg:0<xs.length->∀a,s.a=some a->¬Sx a.block):Rd E w' s xs:=by
 cases xs with
 | nil=>exact ⟨h.n,h.nc,h.cm,h.some_,λi x hx=>by simp at hx⟩
 | cons x xs=>exact h.chg hc (hg (by simp))
structure Hold (w:World) (base:Nat) (s:Slc) (xs:List UInt8):Prop where
 rd:Rd qm w s xs
 blk:∀k,s.blk=some k->base<=k/\∃cs,Blk w k qN cs
theorem q0m {w:World} {base:Nat} {s:Slc} {xs:List UInt8} (h:Go.Vc.Own qm w base s xs):Hold w base s xs:=⟨h.rd,λk hk=>⟨(h.lt k hk).1,h.blk_t hk⟩⟩
theorem Hold.base {w:World} {base base':Nat} {s:Slc} {xs:List UInt8} (h:Hold w base s xs) (hb:base'<=base):Hold w base' s xs:=⟨h.rd,λk hk=>⟨Nat.le_trans hb (h.blk k hk).1,(h.blk k hk).2⟩⟩
theorem Hold.chg {Sx:Nat->Prop} {w w':World} {base:Nat} {s:Slc} {xs:List UInt8} (h:Hold w base s xs) (hc:Chg Sx w w') (hg:∀k,s.blk=some k->¬Sx k):Hold w' base s xs :=
 ⟨h.rd.chg hc λa ha=>hg _ (slk.2 ⟨a,ha,rfl⟩),λk hk=>by
  obtain ⟨h1,cs,h2⟩:=h.blk k hk;exact ⟨h1,cs,h2.chg hc (hg k hk)⟩⟩
theorem Hold.ext {w w':World} {base:Nat} {s:Slc} {xs:List UInt8} (h:Hold w base s xs) (hb:Uc w w'):Hold w' base s xs :=
 ⟨h.rd.ext hb,λk hk=>by
  obtain ⟨h1,cs,h2⟩:=h.blk k hk;exact ⟨h1,cs,h2.ext hb⟩⟩
theorem Hold.drew {w:World} {base:Nat} {s:Slc} {xs:List UInt8} (h:Hold w base s xs):Hold w.drew base s xs:=⟨h.rd.drew,h.blk⟩
theorem Hold.lt {w:World} {base:Nat} {s:Slc} {xs:List UInt8} (h:Hold w base s xs):∀k,s.blk=some k->base<=k/\k<w.heap.size:=λk hk=>by
 obtain ⟨h1,cs,h2⟩:=h.blk k hk;exact ⟨h1,h2.lt⟩
theorem Hold.ne_b {w:World} {base g:Nat} {s:Slc} {xs:List UInt8} {t:TypeId} {vs:List Value} (h:Hold w base s xs) (h':Blk w g t vs) (hne:qN≠t):∀k,s.blk=some k->k≠g:=λk hk=>by
 obtain ⟨_,cs,h2⟩:=h.blk k hk;exact h2.ne_t h' hne
theorem Hold.ne_o {w:World} {base b':Nat} {s s':Slc} {xs:List UInt8} {T':Type} {E':El T'} {ys:List T'} (h:Hold w base s xs) (h':Go.Vc.Own E' w b' s' ys) (hne:qN≠E'.t):∀k,s.blk=some k->s'.blk≠some k:=λk hk e=>by
 obtain ⟨_,cs,h2⟩:=h.blk k hk;obtain ⟨cs',hcs'⟩:=h'.blk_t e;exact h2.ne_t hcs' hne rfl
theorem Hold.ne_m {V:Type} {enc:V->Value} {w:World} {base r:Nat} {s:Slc} {xs:List UInt8} {L:List (Int×V)} (h:Hold w base s xs) (hM:jc enc w r L):∀k,s.blk=some k->k≠r:=λk hk=>by
 obtain ⟨_,cs,h2⟩:=h.blk k hk;exact λe=>hM.ne_blk h2 e.symm
abbrev qup:q6:=⟨0,⟨0,0,⟨none,0,0⟩⟩,0,0⟩
structure Im where
 v:q6
 bs:List UInt8
def Im.enc (x:Im):Value:=.agg (q6.rep.cells x.v).toArray
structure St where
 quota:Int
 res:Int
 used:Int
 clock:Int
 L:List (Int×Im)
def St.cells (S:St) (r:Nat):List Value:=[(Ua S.quota),(Ua S.res),(Ua S.used),(Ua S.clock),(.map (some r))]
structure StM (w:World) (base g r:Nat) (S:St):Prop where
 blk:Blk w g zD (S.cells r)
 map:jc Im.enc w r S.L
 img:∀p∈S.L,Hold w base p.2.v.m.P p.2.bs
theorem q3x:PG.underlying qC=some (.map zd je):=by kernel_rfl
theorem zb7:PG.underlying zd=some (.int .i64):=by kernel_rfl
theorem zh5:∀w,(zeroValue je).run PG w=.ok (Im.enc ⟨qup,[]⟩) w:=Tryz.zeroValue79
section
variable {w w':World} {base g r:Nat} {S:St}
theorem StM.keep {Sx:Nat->Prop} (h:StM w base g r S) (hc:Chg Sx w w') (hg:¬Sx g) (hr:¬Sx r) (hi:∀p∈S.L,∀k,p.2.v.m.P.blk=some k->¬Sx k):StM w' base g r S :=
 ⟨h.blk.chg hc hg,h.map.chg hc hr,λp hp=>(h.img p hp).chg hc (hi p hp)⟩
theorem StM.ext (h:StM w base g r S) (hb:Uc w w'):StM w' base g r S:=⟨h.blk.ext hb,h.map.ext hb,λp hp=>(h.img p hp).ext hb⟩
theorem StM.drew (h:StM w base g r S):StM w.drew base g r S:=⟨h.blk,h.map.keep rfl,λp hp=>(h.img p hp).drew⟩
theorem StM.ne (h:StM w base g r S):r≠g:=h.map.ne_blk h.blk
theorem StM.img_ne (h:StM w base g r S) {p:Int×Im} (hp:p∈S.L) {k:Nat} (hk:p.2.v.m.P.blk=some k):k≠g/\k≠r :=
 ⟨(h.img p hp).ne_b h.blk (by decide) k hk,(h.img p hp).ne_m h.map k hk⟩
theorem qs3 {L:List (Int×Im)} (h:jc Im.enc w r L) (id:Int) {K:q6->Bool->Ub} (hK:K (((zp L id).map Im.v).getD qup) (zp L id).isSome w) :
  qha PG (Instr.lookup qC (.map (some r)) (Ua id) true) (Kind.struct q6.rep) Kind.bool w K:=by
 refine ⟨_,_,w,?_,hK⟩;rw [h.lookup_ok q3x zb7 zh5 id];cases zp L id<;>rfl
theorem qs1 {L:List (Int×Im)} (h:jc Im.enc w r L) (id:Int) {K:q6->Ub} (hK:K (((zp L id).map Im.v).getD qup) w) :
  jv PG (Instr.lookup qC (.map (some r)) (Ua id) false) (Kind.struct q6.rep) w K:=by
 refine ⟨_,w,?_,hK⟩;rw [h.lookup q3x zb7 zh5 id];cases zp L id<;>rfl
theorem qH {a:Addr} {K:Addr->Prop} (h:K a):qE (some a) K:=h
theorem qku {v:q6} {K:Addr->Ub}
  (hK:∀w',Blk w' w.heap.size je (q6.rep.cells v)->Uc w w'->w'.heap.size=w.heap.size+1->K ⟨w.heap.size,0,none⟩ w') :
  nw je [(Ua 0),(Ua 0),(Ua 0),(.slice none 0 0),(Ua 0),(Ua 0)] w λa w1=>stK a (q6.rep.cells v) w1 λw2=>K a w2 :=
 ko rfl hK
theorem zey (h:StM w base g r S) (id:Int) {K:Bool->Ub} (hK:∀w',Uc w w'->K (zp S.L id).isSome w'):XC (some ⟨g,0,none⟩) id w K:=by
 refine qld _ _ ?_;refine qH (kM (x:=some r) (h.blk.cells 4 _ rfl) (qs3 h.map id ?_));exact qku λw' _ hB _=>hK w' hB
theorem qoa (h:StM w base g r S) (id:Int) {K:qa->Bool->Ub} (hK:∀w',Uc w w'->K (((zp S.L id).map Im.v).getD qup).m (zp S.L id).isSome w'):xw (some ⟨g,0,none⟩) id w K:=by
 refine qjb _ _ ?_;generalize hv:((zp S.L id).map Im.v).getD qup=v at hK;refine nwb λw1 hb1 hB1 hs1=>?_;have h1:=h.ext hB1;refine qH (kM (x:=some r) (h1.blk.cells 4 _ rfl) (qs3 h1.map id ?_));rw [hv];refine qku λw2 hb2 hB2 hs2=>?_;refine qx (x:=v.m) (hb2.sub 1 _ rfl) ?_;have hb1':=hb1.ext hB2;refine qw hb1' (by simp [qa.rep]) λw3 hb3 hg3 hs3=>?_;have hb3:Blk w3 w.heap.size qq (qa.rep.cells v.m):=hb3;refine qx (x:=v.m) hb3.cells (hK w3 ?_);have hc:Chg (λk=>k=w.heap.size) w w3:=(Chg.of_ext (hB1.trans (hB2.mono (by omega)))).trans (Go.Vc.Chg.gg hg3) λi _ hi=>hi;exact hc.ext λi hi e=>by omega
end
def Jy (L:List (Int×Im)):Nat:=(L.map λp=>p.2.bs.length).sum
structure StOk (n:Nat) (S:St):Prop where
 q0:0<=S.quota
 q1:S.quota<=1073741824
 used:S.used=Jy S.L
 fits:S.used<=S.quota
 len:S.L.length<=n
 clk0:0<=S.clock
 clk:S.clock<=n
 srt:Srt S.L
 keys:∀p∈S.L,0<p.1/\p.1<=1099511627776+n
 stamps:∀p∈S.L,0<p.2.v.stamp/\p.2.v.stamp<=S.clock
 borns:∀p∈S.L,0<p.2.v.born/\p.2.v.born<=S.clock
 st1:∀p∈S.L,∀q∈S.L,p.2.v.stamp=q.2.v.stamp->p=q
 bo1:∀p∈S.L,∀q∈S.L,p.2.v.born=q.2.v.born->p=q
theorem qxb:Jy []=0:=rfl
theorem xz (p:Int×Im) (L:List (Int×Im)):Jy (p::L)=p.2.bs.length+Jy L:=rfl
theorem qw0 {L:List (Int×Im)} {p:Int×Im} (h:p∈L):p.2.bs.length<=Jy L:=by
 induction L with
 | nil=>cases h
 | cons a L ih =>
  rw [xz];rcases mem_cons.1 h with rfl | h
  ·omega
  ·have:=ih h;omega
theorem qx8 {L:List (Int×Im)} {k:Int} (h:∀p∈L,p.1≠k):Go.Vc.delL L k=L:=List.filter_eq_self.2 λp hp=>by simpa using h p hp
theorem qqr {L:List (Int×Im)} {k:Int} (h:zp L k=none):∀p∈L,p.1≠k:=λp hp e=>by
 unfold zp at h;rw [Option.map_eq_none_iff,List.find?_eq_none] at h;exact h p hp (by simpa using e)
theorem zag {L:List (Int×Im)} (hs:Srt L) {k:Int} {x:Im} (h:(k,x)∈L):Jy (Go.Vc.delL L k)+x.bs.length=Jy L:=by
 induction L with
 | nil=>cases h
 | cons a L ih =>
  have hp:=List.pairwise_cons.1 hs;unfold Go.Vc.delL;rw [List.filter_cons];rcases mem_cons.1 h with rfl | h
  ·have:(List.filter (λp:Int×Im=>p.1 !=k) L)=L:=qx8 λp hq=>by have:=hp.1 p hq;simp at this;omega
   simp only [bne_self_eq_false,Bool.false_eq_true,if_false,this,xz];omega
  ·have h1:=hp.1 _ h;have:(a.1 !=k)=true:=by simp only [bne_iff_ne];simp at h1;omega
   rw [if_pos this,xz,xz];have:=ih hp.2 h;unfold Go.Vc.delL at this;omega
theorem qv6 {L:List (Int×Im)} (k:Int):(Go.Vc.delL L k).length<=L.length:=List.length_filter_le _ _
theorem qm6 {L:List (Int×Im)} {k:Int} {x:Im} (h:(k,x)∈L):(Go.Vc.delL L k).length<L.length:=by
 unfold Go.Vc.delL;exact List.length_filter_lt_length_iff_exists.2 ⟨_,h,by simp⟩
theorem kR {L:List (Int×Im)} {k:Int} {p:Int×Im} (h:p∈Go.Vc.delL L k):p∈L:=(List.mem_filter.1 h).1
def qv5 (L:List (Int×Im)) (k:Int):Nat:=((zp L k).map λx=>x.bs.length).getD 0
theorem zev {L:List (Int×Im)} (hs:Srt L) (k:Int):qv5 L k<=Jy L:=by
 unfold qv5;cases h:zp L k with
 | none=>exact zero_le _
 | some x=>exact qw0 ((zG hs).1 h)
theorem q42 {L:List (Int×Im)} (hs:Srt L) (k:Int):Jy (Go.Vc.delL L k)+qv5 L k=Jy L:=by
 unfold qv5;cases h:zp L k with
 | none=>rw [qx8 (qqr h)];rfl
 | some x=>exact zag hs ((zG hs).1 h)
def St.drop (S:St) (k:Int):St:={ S with used:=S.used-(qv5 S.L k:Int),L:=Go.Vc.delL S.L k }
theorem qbp {n:Nat} {S:St} (h:StOk n S) (k:Int):StOk n (S.drop k):=by
 have h1:=q42 h.srt k;have h2:=h.used;have h3:=h.fits;exact ⟨h.q0,h.q1,by show S.used-(qv5 S.L k:Int)=(Jy (Go.Vc.delL S.L k):Int);omega,by show S.used-(qv5 S.L k:Int)<=S.quota;omega,
  Nat.le_trans (qv6 k) h.len,h.clk0,h.clk,qtg h.srt k,λp hp=>h.keys p (kR hp),λp hp=>h.stamps p (kR hp),λp hp=>h.borns p (kR hp),
  λp hp q hq=>h.st1 p (kR hp) q (kR hq),λp hp q hq=>h.bo1 p (kR hp) q (kR hq)⟩
def qv2:(Int×Im)->List (Int×Im)->Int×Im
 | p,[]=>p
 | p,q::r=>if q.2.v.stamp<p.2.v.stamp then qv2 q r else qv2 p r
theorem qo5:∀(L:List (Int×Im)) (p:Int×Im),qv2 p L∈p::L
 | [],p=>by simp [qv2]
 | q::r,p=>by
  unfold qv2;split
  ·exact mem_cons_of_mem _ (qo5 r q)
  ·rcases mem_cons.1 (qo5 r p) with e | e
   ·rw [e];exact mem_cons_self
   ·exact mem_cons_of_mem _ (mem_cons_of_mem _ e)
theorem qzv:∀(L:List (Int×Im)) (p:Int×Im),∀x∈p::L,(qv2 p L).2.v.stamp<=x.2.v.stamp
 | [],p=>λx hx=>by
  rw [mem_singleton] at hx;subst hx;exact Int.le_refl _
 | q::r,p=>λx hx=>by
  unfold qv2;split
  ·rename_i hlt;have h1:=qzv r q;rcases mem_cons.1 hx with rfl | hx
   ·have:=h1 q mem_cons_self;omega
   ·exact h1 x hx
  ·rename_i hlt;have h1:=qzv r p;rcases mem_cons.1 hx with rfl | hx
   ·exact h1 x mem_cons_self
   ·rcases mem_cons.1 hx with rfl | hx
    ·have:=h1 p mem_cons_self;omega
    ·exact h1 x (mem_cons_of_mem _ hx)
def eldest:List (Int×Im)->Int
 | []=>0
 | p::r=>(qv2 p r).1
theorem qvy {n:Nat} {S:St} (h:StOk n S) {p:Int×Im} (hp:p∈S.L) (hmin:∀q∈S.L,p.2.v.stamp<=q.2.v.stamp):eldest S.L=p.1:=by
 cases hL:S.L with
 | nil=>rw [hL] at hp;cases hp
 | cons a r =>
  rw [hL] at hp hmin;have h1:=qo5 r a;have h2:=qzv r a p hp;have h3:=hmin _ h1;have:=h.st1 p (by rw [hL];exact hp) _ (by rw [hL];exact h1) (by omega);show (qv2 a r).1=p.1;rw [<-this]
theorem qnl {L:List (Int×Im)} (h:L≠[]):∃x,(eldest L,x)∈L:=by
 cases L with
 | nil=>exact absurd rfl h
 | cons a r=>exact ⟨(qv2 a r).2,qo5 r a⟩
def St.roomF (n:Int):Nat->St->List Int->St×List Int
 | 0,S,G=>(S,G)
 | f+1,S,G=>if S.used>S.quota-n/\0<S.L.length then St.roomF n f (S.drop (eldest S.L)) (G++[eldest S.L]) else (S,G)
def St.room (S:St) (n:Int):St×List Int:=S.roomF n S.L.length []
theorem qtz (n:Int):∀(f:Nat) (S:St) (G:List Int),S.L.length<=f->S.roomF n (f+1) G=S.roomF n f G
 | 0,S,G,h=>by
  show (if S.used>S.quota-n/\0<S.L.length then _ else (S,G))=(S,G);rw [if_neg (by omega)]
 | f+1,S,G,h=>by
  show (if S.used>S.quota-n/\0<S.L.length then St.roomF n (f+1) (S.drop (eldest S.L)) (G++[eldest S.L]) else (S,G))=(if S.used>S.quota-n/\0<S.L.length then St.roomF n f (S.drop (eldest S.L)) (G++[eldest S.L]) else (S,G));by_cases hc:S.used>S.quota-n/\0<S.L.length
  ·rw [if_pos hc,if_pos hc];refine qtz n f _ _ ?_;obtain ⟨x,hx⟩:=qnl (L:=S.L) (by intro e;rw [e] at hc;simp at hc);have:=qm6 hx;show (Go.Vc.delL S.L (eldest S.L)).length<=f;omega
  ·rw [if_neg hc,if_neg hc]
theorem zc4 (n:Int) {f:Nat} {S:St} {G:List Int} (h:S.L.length<=f):S.roomF n f G=S.roomF n S.L.length G:=by
 induction f with
 | zero=>rw [show S.L.length=0 by omega]
 | succ f ih =>
  by_cases hf:S.L.length=f+1
  ·rw [hf]
  ·rw [qtz n f S G (by omega),ih (by omega)]
theorem KU {m:Nat} (n:Int):∀(f:Nat) {S:St} {G:List Int},StOk m S->StOk m (S.roomF n f G).1
 | 0,_,_,h=>h
 | f+1,S,G,h=>by
  unfold St.roomF;split
  ·exact KU n f (qbp h _)
  ·exact h
theorem VZ (n:Int):∀(f:Nat) (S:St) (G:List Int),(S.roomF n f G).1.quota=S.quota/\(S.roomF n f G).1.res=S.res/\(S.roomF n f G).1.clock=S.clock
 | 0,_,_=>⟨rfl,rfl,rfl⟩
 | f+1,S,G=>by
  unfold St.roomF;split
  ·exact VZ n f _ _
  ·exact ⟨rfl,rfl,rfl⟩
theorem qmt {m:Nat} {n:Int} (hn:0<=n):∀(f:Nat) {S:St} {G:List Int},StOk m S->n<=S.quota->S.L.length<=f->(S.roomF n f G).1.used<=S.quota-n
 | 0,S,G,h,hq,hl=>by
  show S.used<=S.quota-n;have:=h.used;rw [List.eq_nil_of_length_eq_zero (by omega:S.L.length=0),qxb] at this;omega
 | f+1,S,G,h,hq,hl=>by
  unfold St.roomF;by_cases hc:S.used>S.quota-n/\0<S.L.length
  ·rw [if_pos hc];obtain ⟨x,hx⟩:=qnl (L:=S.L) (by intro e;rw [e] at hc;simp at hc);have:=qm6 hx;exact qmt hn f (qbp h _) hq (by show (Go.Vc.delL S.L (eldest S.L)).length<=f;omega)
  ·rw [if_neg hc];by_cases hz:S.L.length=0
   ·have:=h.used;rw [List.eq_nil_of_length_eq_zero hz,qxb] at this;show S.used<=_;omega
   ·show S.used<=_;omega
section
variable {w:World} {base g r n:Nat} {S:St}
theorem q7l {m:Sem Unit} {w w':World} {K:Option Value->Ub} (h:m.run PG w=.ok () w') (hK:K none w'):qoy PG m w K:=⟨w',h,hK⟩
abbrev onS (g r:Nat):Nat->Prop:=λk=>k=g\/k=r
theorem StM.own_blk (h:StM w base g r S):∀p∈S.L,∀k,p.2.v.m.P.blk=some k->¬onS g r k:=λp hp k hk e=>by
 have:=h.img_ne hp hk;rcases e with e | e
 ·exact this.1 e
 ·exact this.2 e
theorem zfs (h:StM w base g r S) (id:Int):(((zp S.L id).map Im.v).getD qup).m.P.n=qv5 S.L id:=by
 unfold qv5;cases hl:zp S.L id with
 | none=>rfl
 | some x=>exact (h.img _ ((zG h.map.srt).1 hl)).rd.n
theorem qpo (h:StM w base g r S) {K:Ub} (hK:∀w',StM w' base g r { S with res:=0 }->Chg (onS g r) w w'->w'.heap.size=w.heap.size->K w'):kf (some ⟨g,0,none⟩) w K:=by
 refine qcr _ ?_;refine qH ?_;rw [q4];refine qw h.blk (by simp [St.cells]) λw1 hb1 hg1 hs1=>?_;have hc:Chg (onS g r) w w1:=(Go.Vc.Chg.gg hg1).mono λi _ hi=>.inl hi;refine hK w1 ⟨hb1,h.map.chg (Go.Vc.Chg.gg hg1) h.ne,λp hp=>(h.img p hp).chg hc (h.own_blk p hp)⟩ hc hs1
theorem qqe (h:StM w base g r S) (hk:StOk n S) (id:Int) {K:Bool->Ub}
  (hK:∀w',StM w' base g r (S.drop id)->Chg (onS g r) w w'->K (zp S.L id).isSome w'):xY (some ⟨g,0,none⟩) id w K:=by
 refine qid _ _ ?_;refine qH (kM (x:=some r) (h.blk.cells 4 _ rfl) (qs3 h.map id ?_));have hn:=zfs h id;generalize hv:((zp S.L id).map Im.v).getD qup=v at hn;refine qku λw1 hb1 hB1 hs1=>?_;have h1:=h.ext hB1;refine qH (lI (x:=S.used) (h1.blk.drew.cells 2 _ rfl) ?_);refine lSl (x:=v.m.P) (by rw [jR];exact hb1.drew.cells 3 _ rfl) ?_;refine qH ?_;rw [q4,hn];refine qw h1.blk.drew (by simp [St.cells]) λw2 hb2 hg2 hs2=>?_;have hu:=hk.used;have hz:=zev hk.srt id;have hq:=hk.fits;have hq1:=hk.q1;rw [qP (by omega)] at hb2;have hb2:Blk w2 g zD (({ S with used:=S.used-(qv5 S.L id:Int) }:St).cells r):=hb2;have hm2:jc Im.enc w2 r S.L:=h1.drew.map.chg (Go.Vc.Chg.gg hg2) h.ne;refine qH (kM (x:=some r) (hb2.cells 4 _ rfl) ?_);obtain ⟨w3,hr3,hm3,hc3,hs3⟩:=hm2.delete q3x zb7 id qge;refine ⟨_,w3,hr3,hK w3 ⟨?_,hm3,λp hp=>?_⟩ ?_⟩
 ·exact hb2.chg hc3 λe=>h.ne e.symm
 ·have hp':p∈S.L:=kR hp;exact (((h1.img p hp').drew).chg (Go.Vc.Chg.gg hg2) λk hk=>(h.img_ne hp' hk).1).chg hc3 λk hk=>(h.img_ne hp' hk).2
 ·have c1:Chg (onS g r) w w1:=Chg.of_ext hB1;have c2:Chg (onS g r) w1 w1.drew:=Chg.of_ext (Below.refl _ w1).drew;exact ((c1.trans c2 λi _ hi=>hi).trans (Go.Vc.Chg.gg hg2) λi _ hi=>.inl hi).trans hc3 λi _ hi=>.inr hi
def St.use (S:St) (id:Int):St:=match zp S.L id with
 | some x=>{ S with clock:=S.clock+1,L:=k8 S.L id { x with v:={ x.v with stamp:=S.clock+1 } } }
 | none=>S
theorem zbo (h:StM w base g r S) (hk:StOk n S) (hn:n<=1000) (id:Int) {K:Bool->Ub}
  (hK:∀w',StM w' base g r (S.use id)->Chg (onS g r) w w'->K (zp S.L id).isSome w'):Jc (some ⟨g,0,none⟩) id w K:=by
 refine qir _ _ ?_;refine qH (kM (x:=some r) (h.blk.cells 4 _ rfl) (qs3 h.map id ?_));have huse:S.use id=match zp S.L id with
  | some x=>{ S with clock:=S.clock+1,L:=k8 S.L id { x with v:={ x.v with stamp:=S.clock+1 } } }
  | none=>S:=rfl
 cases hl:zp S.L id with
 | none =>
  rw [hl] at hK huse;rw [huse] at hK;refine qku λw1 hb1 hB1 hs1=>?_;exact cF rfl (hK w1 (h.ext hB1) (Chg.of_ext hB1))
 | some x =>
  rw [hl] at hK huse;rw [huse] at hK;have hx:=(zG hk.srt).1 hl;refine qku λw1 hb1 hB1 hs1=>?_;have hb1:Blk w1 w.heap.size je (q6.rep.cells x.v):=hb1;have h1:=h.ext hB1;refine cT rfl ?_;have hc0:=hk.clk0;have hc1:=hk.clk;refine qH (lI (x:=S.clock) (h1.blk.cells 3 _ rfl) (qH ?_));rw [q4];refine qw h1.blk (by simp [St.cells]) λw2 hb2 hg2 hs2=>?_;rw [qP (by omega)] at hb2;have hb2:Blk w2 g zD (({ S with clock:=S.clock+1 }:St).cells r):=hb2;have hm2:jc Im.enc w2 r S.L:=h1.map.chg (Go.Vc.Chg.gg hg2) h.ne;have hbx2:=hb1.chg (Go.Vc.Chg.gg hg2) λe=>by have:=h.blk.lt;omega
  refine qH (lI (x:=S.clock+1) (hb2.cells 3 _ rfl) ?_);rw [q4];refine qw hbx2 (by simp [q6.rep]) λw3 hb3 hg3 hs3=>?_;have hb3:Blk w3 w.heap.size je (q6.rep.cells { x.v with stamp:=S.clock+1 }):=hb3;have hgl:=h.blk.lt;have hrl:=h.map.lt;have hb23:=hb2.chg (Go.Vc.Chg.gg hg3) λe=>by omega
  have hm3:jc Im.enc w3 r S.L:=hm2.chg (Go.Vc.Chg.gg hg3) λe=>by omega
  refine qH (kM (x:=some r) (hb23.drew.cells 4 _ rfl) ?_);refine qx (x:={ x.v with stamp:=S.clock+1 }) hb3.drew.cells ?_;obtain ⟨w4,hr4,hm4,hc4,hs4⟩:=(hm3.keep (w':=w3.drew) rfl).update q3x zb7 (k:=id) (by have:=hk.keys _ hx;simp at this;omega) (enc:=Im.enc) { x with v:={ x.v with stamp:=S.clock+1 } };have cAll:Chg (onS g r) w w4:=by
   have c1:Chg (onS g r) w w1:=Chg.of_ext hB1;have c3:Chg (λk=>k=g\/k=w.heap.size) w1 w3:=((Go.Vc.Chg.gg hg2).mono (S':=λk=>k=g\/k=w.heap.size) λi _ hi=>.inl hi).trans (Go.Vc.Chg.gg hg3) λi _ hi=>.inr hi;have c5:Chg (onS g r) w3 w4:=((Chg.of_ext (S:=onS g r) (Below.refl _ w3).drew)).trans hc4 λi _ hi=>.inr hi;refine (c1.trans c3 λi hi e=>?_).trans c5 λi _ hi=>hi;rcases e with e | e
   ·exact .inl e
   ·omega
  refine q7l hr4 (hK w4 ⟨?_,hm4,λp hp=>?_⟩ cAll)
  ·exact hb23.drew.chg hc4 λe=>h.ne e.symm
  ·obtain ⟨a,b⟩:=p;rcases (zB hk.srt _ _ a b).1 hp with ⟨rfl,rfl⟩ | ⟨_,hp'⟩
   ·exact (h.img _ hx).chg cAll (h.own_blk _ hx)
   ·exact (h.img _ hp').chg cAll (h.own_blk _ hp')
end
def zap (L:List (Int×Im)) (k:Int):List UInt8:=((zp L k).map Im.bs).getD []
def vOf (L:List (Int×Im)) (k:Int):q6:=((zp L k).map Im.v).getD qup
def qcq (L:List (Int×Im)) (n b:Int) (ok:Bool):Prop :=
 (ok=false/\b=0/\∀p∈L,¬(n≠0/\p.2.v.number=n))\/(ok=true/\∃x,(b,x)∈L/\n≠0/\x.v.number=n/\∀p∈L,p.2.v.number=n->p.2.v.born<=x.v.born)
theorem qcq.one {m:Nat} {S:St} (hk:StOk m S) {n b b':Int} {ok ok':Bool} (h:qcq S.L n b ok) (h':qcq S.L n b' ok'):b=b'/\ok=ok':=by
 rcases h with ⟨rfl,rfl,h⟩ | ⟨rfl,x,hx,hn,hxn,hm⟩
 ·rcases h' with ⟨rfl,rfl,_⟩ | ⟨rfl,x',hx',hn',hxn',_⟩
  ·exact ⟨rfl,rfl⟩
  ·exact absurd ⟨hn',hxn'⟩ (h _ hx')
 ·rcases h' with ⟨rfl,rfl,h'⟩ | ⟨rfl,x',hx',hn',hxn',hm'⟩
  ·exact absurd ⟨hn,hxn⟩ (h' _ hx)
  ·have h1:=hm _ hx' hxn';have h2:=hm' _ hx hxn;have:=hk.bo1 _ hx _ hx' (by simp at h1 h2 ⊢;omega);exact ⟨congrArg Prod.fst this,rfl⟩
section
variable {w:World} {base g r n:Nat} {S:St}
theorem StM.bsRd (h:StM w base g r S) (id:Int):Rd qm w (vOf S.L id).m.P (zap S.L id):=by
 unfold vOf zap;cases hl:zp S.L id with
 | none=>exact Rd.nil _ _
 | some x=>exact (h.img _ ((zG h.map.srt).1 hl)).rd
theorem zfz (h:StOk n S) (id:Int):(zap S.L id).length<=1073741824:=by
 have h1:=h.used;have h2:=h.fits;have h3:=h.q1;unfold zap;cases hl:zp S.L id with
 | none=>exact zero_le _
 | some x =>
  have:=qw0 ((zG h.srt).1 hl);show x.bs.length<=_;simp at this;omega
theorem qto (h:StM w base g r S) (hk:StOk n S) (id:Int) {K:qa->Bool->Ub}
  (hK:∀P w',Go.Vc.Own qm w' w.heap.size P (zap S.L id)->Uc w w'->K ⟨(vOf S.L id).m.W,(vOf S.L id).m.H,P⟩ (zp S.L id).isSome w'):zK (some ⟨g,0,none⟩) id w K:=by
 refine qit _ _ ?_;refine nwb λw1 hb1 hB1 hs1=>?_;have h1:=h.ext hB1;refine qoa h1 id λw2 hB2=>?_;have h2:=h1.ext hB2;have hrd:=h2.bsRd id;have hle:=zfz hk id;have hsz2:=hB2.size;unfold vOf at hrd hK;generalize ((zp S.L id).map Im.v).getD qup=v at hrd hK ⊢;refine nwb λw3 hb3 hB3 hs3=>?_;refine qw hb3 (by simp [qa.rep]) λw4 hb4 hg4 hs4=>?_;have hb4:Blk w4 w2.heap.size qq (qa.rep.cells v.m):=hb4;refine lSl (x:=v.m.P) (hb4.cells 2 _ rfl) ?_;have hB24:Uc w2 w4:=hB3.grown hg4 (by omega) λk hk=>by cases hk;exact le_refl _
 refine qa5 (hrd.ext hB24) (by omega) λq w5 ho5 hB5=>?_;rw [q4];have hb5:=hb4.ext hB5;refine qw hb5 (by simp [qa.rep]) λw6 hb6 hg6 hs6=>?_;have hb6:Blk w6 w2.heap.size qq (qa.rep.cells { v.m with P:=q }):=hb6;refine qx (x:={ v.m with P:=q }) hb6.cells ?_;have hsz5:=hB5.size;have hb16:Blk w6 w.heap.size qq [(Ua 0),(Ua 0),(.slice none 0 0)]:=(((hb1.ext hB2).ext hB24).ext hB5).chg (Go.Vc.Chg.gg hg6) λe=>by omega
 refine qw hb16 (by simp [qa.rep]) λw7 hb7 hg7 hs7=>?_;have hb7:Blk w7 w.heap.size qq (qa.rep.cells { v.m with P:=q }):=hb7;refine qx (x:={ v.m with P:=q }) hb7.cells ?_;have ho7:Go.Vc.Own qm w7 w.heap.size q (zap S.L id):=((ho5.chg (Go.Vc.Chg.gg hg6) λk hk=>qiv ho5 hb5 (by decide) k hk).chg (Go.Vc.Chg.gg hg7) λk hk e=>by
  have:=(ho5.lt k hk).1;omega).base (by omega)
 refine hK q w7 ho7 ?_;have c:Chg (λk=>w.heap.size<=k) w w7:=((((Chg.of_ext hB1).trans (Chg.of_ext hB2) λi _ hi=>hi).trans (Chg.of_ext hB24) λi _ hi=>hi).trans (Chg.of_ext hB5) λi _ hi=>hi).trans (((Go.Vc.Chg.gg hg6).mono (S':=λk=>w.heap.size<=k) λi _ hi=>by omega).trans (Go.Vc.Chg.gg hg7) λi _ hi=>by omega) λi _ hi=>hi;exact c.ext λi hi e=>by omega
theorem q23 (h:StM w base g r S) (hk:StOk n S) (hn:n<=1000) {K:Slc->Ub}
  (hK:∀q w',Go.Vc.Own zw w' w.heap.size q (S.L.map (·.1))->Uc w w'->K q w'):yr (some ⟨g,0,none⟩) w K:=by
 refine qi5 _ ?_;refine qH (kM (x:=some r) (h.blk.cells 4 _ rfl) (qw9 ?_));have hB:Uc w (w.alloc (.cells #[.map (some r)] 77)):=(Below.refl _ w).alloc (le_refl _) _;have hb:Blk (w.alloc (.cells #[.map (some r)] 77)) w.heap.size 77 [.map (some r)]:=Blk.new w 77 [.map (some r)];have hl:=hk.len;refine q0v (L:=S.L) (h.map.ext hB) (by omega) (hb.cell 0 rfl) λq w' ho hB'=>?_;have hs:(w.alloc (.cells #[.map (some r)] 77)).heap.size=w.heap.size+1:=by show (w.heap.push _).size=_;simp
 exact hK q w' (ho.base (by omega)) (hB.trans (hB'.mono (by omega)))
def YE (D:List (Int×Im)) (n b bo:Int):Prop :=
 (b=0/\bo=0/\∀p∈D,¬(n≠0/\p.2.v.number=n))\/(∃x,(b,x)∈D/\n≠0/\x.v.number=n/\x.v.born=bo/\0<bo/\∀p∈D,p.2.v.number=n->p.2.v.born<=bo)
theorem YE.yes {D:List (Int×Im)} {n b bo k:Int} {x:Im} (h:YE D n b bo) (hn:n≠0) (hx:x.v.number=n) (hb:x.v.born>bo) (h0:0<=bo):YE (D++[(k,x)]) n k x.v.born:=by
 refine .inr ⟨x,by simp,hn,hx,rfl,by omega,λp hp hpn=>?_⟩;rcases mem_append.1 hp with hp | hp
 ·rcases h with ⟨_,_,h⟩ | ⟨_,_,_,_,_,_,h⟩
  ·exact absurd ⟨hn,hpn⟩ (h p hp)
  ·have:=h p hp hpn;omega
 ·rw [mem_singleton] at hp;subst hp;exact Int.le_refl _
theorem YE.no {D:List (Int×Im)} {n b bo k:Int} {x:Im} (h:YE D n b bo) (hx:¬(n≠0/\x.v.number=n/\x.v.born>bo)) (h1:0<x.v.born):YE (D++[(k,x)]) n b bo:=by
 rcases h with ⟨rfl,rfl,h⟩ | ⟨y,hy,hn,hyn,hyb,h0,h⟩
 ·refine .inl ⟨rfl,rfl,λp hp=>?_⟩;rcases mem_append.1 hp with hp | hp
  ·exact h p hp
  ·rw [mem_singleton] at hp;subst hp;exact λ⟨a,b⟩=>hx ⟨a,b,h1⟩
 ·refine .inr ⟨y,List.mem_append_left _ hy,hn,hyn,hyb,h0,λp hp hpn=>?_⟩;rcases mem_append.1 hp with hp | hp
  ·exact h p hp hpn
  ·rw [mem_singleton] at hp;subst hp;show x.v.born<=bo;exact Int.not_lt.1 λc=>hx ⟨hn,hpn,c⟩
theorem YE.nonneg {D:List (Int×Im)} {n b bo:Int} (h:YE D n b bo):0<=bo:=by
 rcases h with ⟨_,rfl,_⟩ | ⟨_,_,_,_,_,h,_⟩
 ·exact Int.le_refl _
 ·omega
theorem YE.res {D L:List (Int×Im)} {n b bo:Int} (h:YE D n b bo) (hp:D.Perm L):qcq L n b (decide (bo>0)):=by
 rcases h with ⟨rfl,rfl,h⟩ | ⟨y,hy,hn,hyn,hyb,h0,h⟩
 ·exact .inl ⟨rfl,rfl,λp hp'=>h p (hp.mem_iff.2 hp')⟩
 ·refine .inr ⟨dTq h0,y,hp.mem_iff.1 hy,hn,hyn,λp hp' hpn=>?_⟩;rw [hyb];exact h p (hp.mem_iff.2 hp') hpn
theorem q3y {m:Nat} (h:StM w base g r S) (hk:StOk m S) (n:Int) {K:Int->Bool->Ub}
  (hK:∀b ok w',qcq S.L n b ok->Uc w w'->K b ok w'):y9 (some ⟨g,0,none⟩) n w K:=by
 refine qc5 _ _ ?_;unfold ym;refine qH (kM (x:=some r) (h.blk.cells 4 _ rfl) ?_);refine q5j h.map q3x λw1 hI1 hB1 hs1=>?_;refine qpd (Inv:=λk (s:Int×Int×Unit) w2=>∃D todo:List (Int×Im),k=todo.length/\qoc Im.enc w2 r w.heap.size S.L todo/\(D++todo).Perm S.L/\YE D n s.1 s.2.1/\Chg (λi=>i=w.heap.size) w w2/\w.heap.size<w2.heap.size) S.L.length
  ⟨[],S.L,rfl,hI1,.refl _,.inl ⟨rfl,rfl,λp hp=>by cases hp⟩,Chg.of_ext hB1,by omega⟩ ?_
 rintro k ⟨b,bo,⟨⟩⟩ w2 ⟨D,todo,rfl,hI,hp,hN,hc,hlt⟩ I hI';refine zal hI qge (λe=>?_) λk1 v1 w3 todo' hp1 hI3 hc3 hs3 hent=>?_
 ·subst e;rw [List.append_nil] at hp;exact hK _ _ w2 (hN.res hp) (hc.ext λi hi e=>by omega)
 ·have hxL:(k1,v1)∈S.L:=hp.mem_iff.1 (List.mem_append_right _ (hp1.mem_iff.2 mem_cons_self));refine ⟨k1,v1.v,w3,hent,?_⟩;refine qku λw4 hb4 hB4 hs4=>?_;have hc4:Chg (λi=>i=w.heap.size) w w4:=(hc.trans hc3 λi _ hi=>hi).trans (Chg.of_ext hB4) λi _ hi=>hi;have hI4:=hI3.ext hB4;have hlen:todo'.length<todo.length:=by rw [hp1.length_eq];simp
  have hpn:((D++[(k1,v1)])++todo').Perm S.L:=by
   refine List.Perm.trans ?_ hp;rw [List.append_assoc];exact hp1.symm.append_left D
  have hbo:=hN.nonneg;have hvb:=(hk.borns _ hxL).1;refine jpO λJ hJ=>?_;have fin:∀c:Bool,(c=true↔n≠0/\v1.v.number=n/\v1.v.born>bo)->J (c,()) w4:=λc hcc=>by
   refine hJ _ _ ?_;cases c with
   | true =>
    obtain ⟨h1,h2,h3⟩:=hcc.1 rfl;refine cT rfl (lI (x:=v1.v.born) (hb4.drew.cells 5 _ rfl) ?_);exact hI' _ _ _ ⟨_,_,rfl,hI4.keep rfl rfl,hpn,hN.yes h1 h2 h3 hbo,hc4.trans (Chg.of_ext (Below.refl _ w4).drew) λi _ hi=>hi,by show w.heap.size<w4.heap.size;omega⟩ hlen
   | false =>
    refine cF rfl ?_;exact hI' _ _ _ ⟨_,_,rfl,hI4,hpn,hN.no (λhc=>by have:=hcc.2 hc;cases this) hvb,hc4,by omega⟩ hlen
  refine cO (λe1=>?_) λe1=>?_
  ·have e1:=bne_iff_ne.1 e1;refine lI (x:=v1.v.number) (hb4.cells 0 _ rfl) ?_;refine cO (λe2=>?_) λe2=>?_
   ·have e2:=eq_of_beq e2;refine lI (x:=v1.v.born) (hb4.cells 5 _ rfl) (fin _ ?_);rw [decide_eq_true_iff];exact ⟨λh=>⟨e1,e2,h⟩,λh=>h.2.2⟩
   ·refine fin _ ⟨(λh=>by cases h),λh=>?_⟩;rw [h.2.1] at e2;simp at e2
  ·refine fin _ ⟨(λh=>by cases h),λh=>?_⟩;simp at e1;exact absurd e1 h.1
end
abbrev q38 (L:List (Int×Im)) (k:Int):Int:=(vOf L k).stamp
section
variable {w:World} {base g r n:Nat} {S:St}
theorem qoj {x y:Int} {K:Int->Ub} (hK:∀c:Int,(c<0↔x<y)->K c w):va x y w K:=by
 refine qfx _ _ ?_;refine Ve _ ?_;refine Ve _ ?_;refine cF (by simp) (cF (by simp) (cO (λh=>?_) λh=>cO (λh'=>?_) λh'=>?_))
 ·exact hK _ ⟨λ_=>oTq h,λ_=>by decide⟩
 ·have:=oFq h;exact hK _ ⟨λh=>absurd h (by decide),λh=>absurd h this⟩
 ·have:=oFq h;exact hK _ ⟨λh=>absurd h (by decide),λh=>absurd h this⟩
theorem q4g {bx:Nat} (h:StM w base g r S) (hb:Blk w bx Ql [(.pointer (some ⟨g,0,none⟩))]) (a b:Int) {K:Int->Ub}
  (hK:∀c:Int,(c<0↔q38 S.L a<q38 S.L b)->K c w.drew):yR a b ⟨bx,0,none⟩ w K:=by
 refine qeg _ _ _ ?_;have hd:=h.drew;have e1:World.cell? w.drew ⟨bx,0,none⟩=some (.pointer (some ⟨g,0,none⟩)):=hb.drew.cell 0 rfl;have e2:World.cell? w.drew ((⟨g,0,none⟩:Addr).add 4)=some (.map (some r)):=hd.blk.cells 4 _ rfl;refine qK (x:=some ⟨g,0,none⟩) e1 (qH (kM (x:=some r) e2 ?_));refine qK (x:=some ⟨g,0,none⟩) e1 (qH (kM (x:=some r) e2 ?_));refine ⟨qs1 hd.map a ⟨e2,e1,qs1 hd.map b ⟨e2,e1,qoj hK⟩⟩,?_⟩;exact qs1 hd.map b ⟨e2,e1,qs1 hd.map a ⟨e2,e1,qoj hK⟩⟩
theorem zd9 {bx:Nat} {x:Slc} {xs:List Int} (h:StM w base g r S) (hb:Blk w bx Ql [(.pointer (some ⟨g,0,none⟩))]) (hx:Rd zw w x xs) (hne:0<xs.length) (hlen:xs.length<=1000000) {K:Int->Ub}
  (hK:∀m w',m∈xs->(∀k∈xs,q38 S.L m<=q38 S.L k)->Uc w w'->K m w'):kL x (.func (.func Xa) #[] #[(.pointer (some ⟨bx,0,none⟩))]) w K:=by
 refine Yk _ _ ?_;rw [hx.n];refine jpO λJ hJ=>?_;refine cF (dFq (by omega)) (hJ _ _ ?_);refine hx.ix (i:=0) rfl (by omega) (by omega) λh0=>?_;refine lI (x:=xs[((0:Int)).toNat]) (by simpa using h0 0 _ rfl) ?_;refine lpR (Inv:=λ(s:Int×Int×Unit) w2=>∃j:Nat,s.2.1=(j:Int)/\1<=j/\j<=xs.length/\s.1∈xs/\(∀k∈xs.take j,q38 S.L s.1<=q38 S.L k)/\Uc w w2) (μ:=λs=>xs.length-s.2.1.toNat) ?_ ?_
 ·refine ⟨1,rfl,le_refl _,hne,List.getElem_mem _,λk hk=>?_,Below.refl _ w⟩;cases xs with
  | nil=>simp at hne
  | cons a xs =>
   simp at hk;subst hk;exact Int.le_refl _
 ·rintro ⟨m,i,⟨⟩⟩ w2 ⟨j,hj,hj1,hj2,hm,hmin,hB⟩ I hI;have hj:i=(j:Int):=hj;subst hj;refine cO (λhlt=>?_) λhge=>?_
  ·have hlt:j<xs.length:=by have:=oTq hlt;omega
   have hx2:=hx.ext hB;refine hx2.ix (i:=(j:Int)) rfl (by omega) (by omega) λhc=>?_;refine lI (x:=xs[((j:Int)).toNat]) (by simpa using hc 0 _ rfl) ?_;have ej:xs[((j:Int)).toNat]'(by omega)=xs[j]:=by simp
   refine Go.Vc.callR_plain (by kernel_rfl) ?_;have hcall:yR (xs[((j:Int)).toNat]) m ⟨bx,0,none⟩ w2 (λt26 w3=>cond (decide (t26<(0:Int)))
     (ixK x (j:Int) 1 λt30=>ldI .i64 t30 w3 λt31=>I (t31,(i64.wrap ((j:Int)+(1:Int))),()) w3)
     (I (m,(i64.wrap ((j:Int)+(1:Int))),()) w3)):=by
    refine q4g (h.ext hB) (hb.ext hB) _ _ λc hc'=>?_;rw [qP (by omega)];have hBd:=hB.drew;have htake:∀k∈xs.take (j+1),k∈xs.take j\/k=xs[j]:=λk hk=>by
     rw [List.take_add_one,List.getElem?_eq_getElem hlt] at hk;rcases mem_append.1 hk with hk | hk
     ·exact .inl hk
     ·exact .inr (by simpa using hk)
    refine cO (λhneg=>?_) λhnn=>?_
    ·have hneg:=hc'.1 (oTq hneg);refine (hx.ext hBd).ix (i:=(j:Int)) rfl (by omega) (by omega) λhd=>?_;refine lI (x:=xs[((j:Int)).toNat]) (by simpa using hd 0 _ rfl) ?_;refine hI _ _ ⟨j+1,by simp,by omega,by omega,List.getElem_mem _,λk hk=>?_,hBd⟩ (by show xs.length-((j:Int)+1).toNat<xs.length-((j:Int)).toNat;omega);rcases htake k hk with hk | rfl
     ·have:=hmin k hk;show q38 S.L _<=_;simp only at hneg this ⊢;omega
     ·simp
    ·have hnn:¬_:=λhh=>absurd (hc'.2 hh) (oFq hnn);refine hI _ _ ⟨j+1,by simp,by omega,by omega,hm,λk hk=>?_,hBd⟩ (by show xs.length-((j:Int)+1).toNat<xs.length-((j:Int)).toNat;omega);rcases htake k hk with hk | rfl
     ·exact hmin k hk
     ·rw [ej] at hnn;exact Int.not_lt.1 hnn
   exact hcall
  ·have hge:¬_:=oFq hge;refine hK m w2 hm (λk hk=>hmin k ?_) hB;rw [List.take_of_length_le (by omega)];exact hk
end
section
variable {w:World} {base g r n:Nat} {S:St}
theorem ziv {w:World} {b:Nat} {s:Slc} {xs:List Int} {v:Int} {K:Slc->Ub} (hown:Go.Vc.Own zw w b s xs) (hb:b<=w.heap.size) (hl:xs.length<=1000000)
  (hK:∀r w',Go.Vc.Own zw w' b r (xs++[v])->Chg (λk=>s.blk=some k) w w'->(r.blk=s.blk\/∃k,r.blk=some k/\w.heap.size<=k)->K r w') :
  nw zd [(Ua v)] w λt w1=>apK PG #[qU,qU] qU s (⟨(some t),1,1⟩:Slc) w1 K:=by
 refine nwb λw1 hb1 hB1 hs1=>?_;have hr:Rd zw w1 ⟨some ⟨w.heap.size,0,none⟩,1,1⟩ [v]:=yg (E:=zw) hb1 rfl;refine jx zR (hown.ext hB1) hr (by omega) (by rw [ZL];simp;omega) (by simp [maxLen];omega) λq w2 ho hg hq=>hK q w2 ho ((Chg.of_ext (S:=λk=>s.blk=some k) hB1).trans (Chg.of_grown hg λk hk=>hk) λi _ hi=>hi) ?_;rcases hq with e | e
 ·exact .inl e
 ·exact .inr ⟨_,e,by omega⟩
theorem q10 {L:List (Int×Im)} (hs:Srt L) {p:Int×Im} (hp:p∈L):vOf L p.1=p.2.v:=by
 unfold vOf;rw [(zG hs).2 hp];rfl
theorem qr5 {m:Nat} {n:Int} (h:StM w base g r S) (hk:StOk m S) (hm:m<=1000) (hn:0<=n) (hq:n<=S.quota) {K:Slc->Ub}
  (hK:∀q w',StM w' base g r (S.room n).1->Go.Vc.Own zw w' w.heap.size q (S.room n).2->Chg (onS g r) w w'->K q w'):vP (some ⟨g,0,none⟩) n w K:=by
 refine qhn _ _ ?_;refine nwb λw1 hb1 hB1 hs1=>?_;have hglt:=h.blk.lt;have hrlt:=h.map.lt;refine qpd (Inv:=λk (s:Slc×Unit) w2=>∃S1 G,k=S1.L.length/\StM w2 base g r S1/\StOk m S1/\S1.quota=S.quota/\S1.roomF n S1.L.length G=S.room n/\G.length+S1.L.length<=m/\Go.Vc.Own zw w2 w.heap.size s.1 G/\Blk w2 w.heap.size Ql [(.pointer (some ⟨g,0,none⟩))]/\Chg (λi=>onS g r i\/i=w.heap.size) w w2/\w.heap.size<w2.heap.size) S.L.length
  ⟨S,[],rfl,h.ext hB1,hk,rfl,rfl,by have:=hk.len;simpa using this,Go.Vc.Own.nil _ _ _,hb1,Chg.of_ext hB1,by omega⟩ ?_
 rintro k ⟨gone,⟨⟩⟩ w2 ⟨S1,G,rfl,hS,hk1,hqq,hroom,hGl,hO,hb2,hc2,hlt2⟩ I hI;have hq1:=hk1.q1;have hq0:=hk1.q0;have hO:Go.Vc.Own zw w2 w.heap.size gone G:=hO;have hchg:∀{w3:World},Chg (λi=>onS g r i\/i=w.heap.size) w w3->Chg (onS g r) w w3:=λhc=>hc.mono λi hi e=>e.resolve_right (by omega);refine jpO λJ hJ=>?_;have e1:World.cell? w2.drew ⟨w.heap.size,0,none⟩=some (.pointer (some ⟨g,0,none⟩)):=hb2.drew.cell 0 rfl;refine qK (x:=some ⟨g,0,none⟩) e1 (qH (lI (x:=S1.used) (hS.drew.blk.cells 2 _ rfl) ?_));refine qK (x:=some ⟨g,0,none⟩) e1 (qH (lI (x:=S1.quota) (hS.drew.blk.cells 0 _ rfl) ?_));rw [qP (by omega)];have hBd:=(Below.refl w2.heap.size w2).drew;have stop:¬(S1.used>S1.quota-n/\0<S1.L.length)->K gone w2.drew:=λhno=>by
  have hend:S1.roomF n S1.L.length G=(S1,G):=by
   cases hL:S1.L.length with
   | zero=>rfl
   | succ f =>
    unfold St.roomF;rw [if_neg hno]
  rw [hend] at hroom;refine hK gone w2.drew ?_ ?_ (hchg (hc2.trans (Chg.of_ext hBd) λi _ hi=>hi))
  ·rw [<-hroom];exact hS.drew
  ·rw [<-hroom];exact hO.drew
 refine cO (λhgt=>?_) λhgt=>?_
 ·have hgt:=oTq hgt;refine qK (x:=some ⟨g,0,none⟩) e1 (qH (kM (x:=some r) (hS.drew.blk.cells 4 _ rfl) ?_));refine ⟨(S1.L.length:Int),w2.drew,hS.drew.map.len q3x zd,?_⟩;refine cO (λhpos=>?_) λhpos=>?_
  ·have hpos:=oTq hpos;refine hJ _ _ ?_;refine qK (x:=some ⟨g,0,none⟩) e1 (qH (kM (x:=some r) (hS.drew.blk.cells 4 _ rfl) (qw9 ?_)));have hBa:Uc w2 (w2.drew.alloc (.cells #[.map (some r)] 77)):=hBd.alloc (le_refl _) _;have hba:Blk (w2.drew.alloc (.cells #[.map (some r)] 77)) w2.heap.size 77 [.map (some r)]:=Blk.new w2.drew 77 [.map (some r)];have hsa:(w2.drew.alloc (.cells #[.map (some r)] 77)).heap.size=w2.heap.size+1:=by show (w2.heap.push _).size=_;simp
   have hl:=hk1.len;refine qy6 (L:=S1.L) (hS.map.ext hBa) (by omega) (hba.cell 0 rfl) λq w4 ss hss ho4 hB4=>?_;have hB24:Uc w2 w4:=hBa.trans (hB4.mono (by omega));have hS4:=hS.ext hB24;have hssl:ss.length=S1.L.length:=by rw [hss.length_eq,List.length_map]
   refine zd9 hS4 (hb2.ext hB24) ho4.rd (by omega) (by omega) λmn w5 hmn hmin hB5=>?_;have hS5:=hS4.ext hB5;have hB25:=hB24.trans (hB5.mono hB24.size);have hb5:=hb2.ext hB25;have heq:eldest S1.L=mn:=by
    obtain ⟨p,hp,rfl⟩:=List.mem_map.1 (hss.mem_iff.1 hmn);refine qvy hk1 hp λp' hp'=>?_;have:=hmin p'.1 (hss.mem_iff.2 (List.mem_map.2 ⟨p',hp',rfl⟩));unfold q38 at this
    rwa [q10 hk1.srt hp,q10 hk1.srt hp'] at this
   refine qK (x:=some ⟨g,0,none⟩) (hb5.cell 0 rfl) ?_;refine qqe hS5 hk1 mn λw6 hS6 hc6=>?_;have hO5:=hO.ext hB25;have hO6:=hO5.chg hc6 λk hk e=>by
    rcases e with e | e
    ·exact qiv hO5 hS5.blk (by decide) k hk e
    ·exact hS5.map.ne_own hO5 k hk e
   have hs5:=hB25.size;have hs6:=hc6.size;have hb6:=hb5.chg hc6 λe=>by rcases e with e | e<;>omega
   refine ziv hO6 (by omega) (by omega) λq7 w7 ho7 hc7 _=>?_;have hS7:StM w7 base g r (S1.drop mn):=hS6.keep hc7 (λe=>qiv hO6 hS6.blk (by decide) g e rfl) (λe=>hS6.map.ne_own hO6 r e rfl) λp hp k hk e=>(hS6.img p hp).ne_o hO6 (by decide) k hk e;have hb7:=hb6.chg hc7 λe=>qiv hO6 hb6 (by decide) _ e rfl;obtain ⟨x,hx⟩:=qnl (L:=S1.L) (by intro e;rw [e] at hpos;simp at hpos);rw [heq] at hx;have hdl:=qm6 hx;have hc27:Chg (λi=>onS g r i\/i=w.heap.size) w w7:=by
    refine ((hc2.trans (Chg.of_ext hB25) λi _ hi=>hi).trans hc6 λi _ hi=>.inl hi).trans hc7 λi hi e=>?_;have:=(hO6.lt i e).1;omega
   refine hI _ _ _ ⟨S1.drop mn,G++[mn],rfl,hS7,qbp hk1 mn,hqq,?_,?_,ho7,hb7,hc27,by have:=hc7.size;omega⟩ hdl
   ·rw [<-hroom];cases hL:S1.L.length with
    | zero=>omega
    | succ f =>
     have:S1.roomF n (f+1) G=(S1.drop (eldest S1.L)).roomF n f (G++[eldest S1.L]):=by
      show (if S1.used>S1.quota-n/\0<S1.L.length then St.roomF n f (S1.drop (eldest S1.L)) (G++[eldest S1.L]) else (S1,G))=_;rw [if_pos ⟨hgt,by omega⟩]
     rw [this,heq,zc4 n (f:=f) (by show (Go.Vc.delL S1.L mn).length<=f;omega)]
   ·have:(S1.drop mn).L.length<S1.L.length:=hdl;simp;omega
  ·have hpos:=oFq hpos;exact stop λhc=>hpos (by omega)
 ·have hgt:=oFq hgt;exact stop λhc=>hgt hc.1
def St.reserve (S:St) (n:Int):St×List Int×Int :=
 if n<0 then (S,[],1) else if n>S.quota then (S,[],6) else ((({ S with res:=n }:St).room n).1,(({ S with res:=n }:St).room n).2,0)
theorem Vm {m:Nat} (h:StOk m S) (n:Int):StOk m { S with res:=n }:=⟨h.q0,h.q1,h.used,h.fits,h.len,h.clk0,h.clk,h.srt,h.keys,h.stamps,h.borns,h.st1,h.bo1⟩
theorem qua {m:Nat} (h:StOk m S) (n:Int):StOk m (S.reserve n).1:=by
 unfold St.reserve;split
 ·exact h
 ·split
  ·exact h
  ·exact KU n _ (Vm h n)
theorem qzi {m:Nat} {n:Int} (h:StM w base g r S) (hk:StOk m S) (hm:m<=1000) {K:Slc->Int->Ub}
  (hK:∀q w',StM w' base g r (S.reserve n).1->Go.Vc.Own zw w' w.heap.size q (S.reserve n).2.1->Chg (onS g r) w w'->K q (S.reserve n).2.2 w'):ye (some ⟨g,0,none⟩) n w K:=by
 refine qct _ _ ?_;unfold St.reserve at hK;refine cO (λe=>?_) λe=>?_
 ·have e:=oTq e;rw [if_pos e] at hK;exact hK _ w h (Go.Vc.Own.nil _ _ _) (Chg.refl _ _)
 ·have e:=oFq e;rw [if_neg e] at hK;refine qH (lI (x:=S.quota) (h.blk.cells 0 _ rfl) ?_);refine cO (λe2=>?_) λe2=>?_
  ·have e2:=oTq e2;rw [if_pos e2] at hK;exact hK _ w h (Go.Vc.Own.nil _ _ _) (Chg.refl _ _)
  ·have e2:=oFq e2;rw [if_neg e2] at hK;refine qH ?_;rw [q4];refine qw h.blk (by simp [St.cells]) λw1 hb1 hg1 hs1=>?_;have hc:Chg (onS g r) w w1:=(Go.Vc.Chg.gg hg1).mono λi _ hi=>.inl hi;have h1:StM w1 base g r { S with res:=n }:=⟨hb1,h.map.chg (Go.Vc.Chg.gg hg1) h.ne,λp hp=>(h.img p hp).chg hc (h.own_blk p hp)⟩;refine qr5 h1 (Vm hk n) hm (by omega) (by show n<=S.quota;omega) λq w2 hS2 ho2 hc2=>?_;exact hK q w2 hS2 (ho2.base (by omega)) (hc.trans hc2 λi _ hi=>hi)
end
def qi9 (W H:Int):Bool:=(W==0 && H==0) || (decide (1<=W) && decide (W<=16384) && decide (1<=H) && decide (H<=16384) && decide (W*H<=67108864))
def qp0 (W H:Int) (n:Nat):Bool:=qi9 W H && ((n:Int)==4*W*H)
def qan (n:Int):Bool:=decide (0<=n) && decide (n<=4294967295)
theorem ql5 {n:Int} {w:World} {K:Bool->Ub} (hK:K (qan n) w):Qd n w K:=by
 refine qk2 _ ?_;unfold qan at hK;refine cO (λh=>?_) λh=>?_
 ·rw [show decide (0<=n)=true from h,Bool.true_and] at hK;exact hK
 ·rw [show decide (0<=n)=false from h,Bool.false_and] at hK;exact hK
theorem q1z {W H:Int} (h1:1<=W) (h2:W<=16384) (h3:1<=H) (h4:H<=16384):1<=W*H/\W*H<=268435456:=by
 have a:=Int.mul_le_mul h1 h3 (by omega) (by omega);have b:=Int.mul_le_mul h2 h4 (by omega) (by omega);omega
theorem q1p {W H:Int} {w:World} {K:Bool->Ub} (hK:K (qi9 W H) w):ZP W H w K:=by
 refine qhe _ _ ?_;have tail:qi9 W H=(decide (1<=W) && decide (W<=16384) && decide (1<=H) && decide (H<=16384) && decide (W*H<=67108864))->cond (decide (W>=(1:Int)))
     (cond (decide (W<=(16384:Int)))
       (cond (decide (H>=(1:Int)))
        (cond (decide (H<=(16384:Int)))
          (K (decide ((i64.wrap (W*H))<=(67108864:Int))) w)
          (K false w))
        (K false w))
       (K false w))
     (K false w):=λe=>by
  rw [e] at hK;refine cO (λh1=>?_) λh1=>?_
  ·have g1:=oTq h1;rw [show decide (1<=W)=true from h1] at hK;refine cO (λh2=>?_) λh2=>?_
   ·have g2:=oTq h2;rw [h2] at hK;refine cO (λh3=>?_) λh3=>?_
    ·have g3:=oTq h3;rw [show decide (1<=H)=true from h3] at hK;refine cO (λh4=>?_) λh4=>?_
     ·have g4:=oTq h4;rw [h4] at hK;have:=q1z g1 g2 g3 g4;rw [qP (by omega)];simpa using hK
     ·rw [h4] at hK;simpa using hK
    ·rw [show decide (1<=H)=false from h3] at hK;simpa using hK
   ·rw [h2] at hK;simpa using hK
  ·rw [show decide (1<=W)=false from h1] at hK;simpa using hK
 refine cO (λh1=>?_) λh1=>?_
 ·refine cO (λh2=>?_) λh2=>?_
  ·unfold qi9 at hK;rw [h1,h2] at hK;simpa using hK
  ·exact tail (by unfold qi9;rw [h1,h2];rfl)
 ·exact tail (by unfold qi9;rw [h1];rfl)
theorem q5q {W H:Int} (h:qi9 W H=true):0<=W/\W<=16384/\0<=H/\H<=16384/\0<=W*H/\W*H<=67108864:=by
 unfold qi9 at h;simp only [Bool.or_eq_true,Bool.and_eq_true,beq_iff_eq,decide_eq_true_eq] at h;rcases h with ⟨rfl,rfl⟩ | ⟨⟨⟨⟨h1,h2⟩,h3⟩,h4⟩,h5⟩
 ·decide
 ·have:=q1z h1 h2 h3 h4;omega
section
variable {w:World} {base g r n:Nat} {S:St}
theorem q6k {m:qa} {K:Bool->Ub} (hK:∀w',Uc w w'->K (qp0 m.W m.H m.P.n) w'):qc1 m w K:=by
 refine qqu _ ?_;refine nwb λw1 hb1 hB1 hs1=>?_;refine lI (x:=m.W) (hb1.cells 0 _ rfl) (lI (x:=m.H) (hb1.cells 1 _ rfl) (q1p ?_));have hK:=hK w1 hB1;unfold qp0 at hK;refine cO (λh=>?_) λh=>?_
 ·rw [h,Bool.true_and] at hK;have hb:=q5q h;refine lSl (x:=m.P) (hb1.cells 2 _ rfl) (lI (x:=m.W) (hb1.cells 0 _ rfl) (lI (x:=m.H) (hb1.cells 1 _ rfl) ?_));have h4:(4:Int)*m.W*m.H=4*(m.W*m.H):=Int.mul_assoc _ _ _;rw [qP (x:=4*m.W) (by omega),qP (by omega)];exact hK
 ·rw [h,Bool.false_and] at hK;exact hK
def qnu (L:List (Int×Im)):Nat->Int->Int
 | 0,k=>k
 | f+1,k=>if (zp L k).isSome then qnu L f (k+1) else k
def Vi (S:St) (id num W H:Int) (n:Nat):Int:=if qp0 W H n && !(W==0) && qan id && qan num then (if (n:Int)>S.quota then 6 else 0) else 1
def St.putPre (S:St) (id:Int) (n:Nat):St×List Int:=(if id=0 then ({ S with res:=0 }:St) else ({ S with res:=0 }:St).drop id).room n
def Xr (L:List (Int×Im)) (id:Int):Int:=if id=0 then qnu L 2000 1099511627776 else id
def St.putAt (S:St) (i num W H:Int) (P:Slc) (bs:List UInt8):St:={ S with clock:=S.clock+1,used:=S.used+bs.length,L:=k8 S.L i ⟨⟨num,⟨W,H,P⟩,S.clock+1,S.clock+1⟩,bs⟩ }
theorem qmq {L:List (Int×Im)}:∀(f:Nat) {k:Int} {j:Nat},j<f->zp L (k+j)=none->zp L (qnu L f k)=none/\k<=qnu L f k/\qnu L f k<=k+j
 | 0,k,j,h,_=>by omega
 | f+1,k,j,h,hn=>by
  unfold qnu;by_cases hs:(zp L k).isSome
  ·rw [if_pos hs];cases j with
   | zero =>
    simp at hn;rw [hn] at hs;cases hs
   | succ j =>
    have:=qmq f (k:=k+1) (j:=j) (by omega) (by rw [show k+1+(j:Int)=k+((j+1:Nat):Int) by omega];exact hn);exact ⟨this.1,by omega,by omega⟩
  ·rw [if_neg hs];exact ⟨by simpa using hs,Int.le_refl _,by omega⟩
theorem qzu (h:StOk n S):zp S.L (1099511627776+((n+1:Nat):Int))=none:=by
 cases hl:zp S.L (1099511627776+((n+1:Nat):Int)) with
 | none=>rfl
 | some x =>
  have:=h.keys _ ((zG h.srt).1 hl);simp at this;omega
theorem q26 (h:StOk n S) (hn:n<=1000) {id:Int} (hid:qan id=true):0<Xr S.L id/\Xr S.L id<=1099511627776+((n+1:Nat):Int):=by
 unfold qan at hid;simp only [Bool.and_eq_true,decide_eq_true_eq] at hid;unfold Xr;split
 ·have:=qmq 2000 (k:=1099511627776) (j:=n+1) (by omega) (qzu h);omega
 ·omega
theorem q52 (h:StOk n S) (hn:n<=1000) {id:Int} (hno:id≠0->zp S.L id=none):zp S.L (Xr S.L id)=none:=by
 unfold Xr;split
 ·exact (qmq 2000 (k:=1099511627776) (j:=n+1) (by omega) (qzu h)).1
 ·rename_i hne;exact hno hne
theorem q9m {L:List (Int×Im)} {k:Int} {x:Im} (h:zp L k=none):Jy (k8 L k x)=Jy L+x.bs.length:=by
 have hno:=qqr h
 induction L with
 | nil=>simp [k8,Jy]
 | cons a L ih =>
  unfold k8;split
  ·rw [xz];simp only;omega
  ·rename_i hlt;rw [if_neg λe=>hno a mem_cons_self e.symm,xz,xz];have h2:zp L k=none:=by
    cases hl:zp L k with
    | none=>rfl
    | some y =>
     exfalso;unfold zp at hl;obtain ⟨q,hq,_⟩:=Option.map_eq_some_iff.1 hl;have h3:=List.find?_some hq;exact hno q (mem_cons_of_mem _ (List.mem_of_find?_eq_some hq)) (by simpa using h3)
   rw [ih h2 λp hp=>hno p (mem_cons_of_mem _ hp)];omega
theorem q56 {L:List (Int×Im)} (k:Int) (x:Im):(k8 L k x).length<=L.length+1:=by
 induction L with
 | nil=>simp [k8]
 | cons a L ih =>
  unfold k8;split
  ·simp
  ·split
   ·simp
   ·simp;omega
theorem zcv (h:StOk n S) {i num W H:Int} {P:Slc} {bs:List UInt8} (hi:zp S.L i=none) (hi1:0<i/\i<=1099511627776+((n+1:Nat):Int)) (hf:S.used+bs.length<=S.quota):StOk (n+1) (S.putAt i num W H P bs):=by
 have hm:=zB h.srt i (⟨⟨num,⟨W,H,P⟩,S.clock+1,S.clock+1⟩,bs⟩:Im);have hu:=h.used;have hc:=h.clk;have hc0:=h.clk0;have hsz:=q9m (x:=(⟨⟨num,⟨W,H,P⟩,S.clock+1,S.clock+1⟩,bs⟩:Im)) hi;refine ⟨h.q0,h.q1,?_,hf,?_,by show 0<=S.clock+1;omega,by show S.clock+1<=_;omega,qdg h.srt _ _,?_,?_,?_,?_,?_⟩
 ·show S.used+(bs.length:Int)=(Jy (k8 _ _ _):Int);rw [hsz];simp;omega
 ·have:=q56 (L:=S.L) i (⟨⟨num,⟨W,H,P⟩,S.clock+1,S.clock+1⟩,bs⟩:Im);have:=h.len;show (k8 _ _ _).length<=_;omega
 ·rintro ⟨a,b⟩ hp;rcases (hm a b).1 hp with ⟨rfl,rfl⟩ | ⟨_,hp⟩
  ·exact hi1
  ·have:=h.keys _ hp;simp at this ⊢;omega
 ·rintro ⟨a,b⟩ hp;show 0<b.v.stamp/\b.v.stamp<=S.clock+1;rcases (hm a b).1 hp with ⟨rfl,rfl⟩ | ⟨_,hp⟩
  ·exact ⟨by show 0<S.clock+1;omega,Int.le_refl _⟩
  ·have:=h.stamps _ hp;simp at this;omega
 ·rintro ⟨a,b⟩ hp;show 0<b.v.born/\b.v.born<=S.clock+1;rcases (hm a b).1 hp with ⟨rfl,rfl⟩ | ⟨_,hp⟩
  ·exact ⟨by show 0<S.clock+1;omega,Int.le_refl _⟩
  ·have:=h.borns _ hp;simp at this;omega
 ·rintro ⟨a,b⟩ hp ⟨a',b'⟩ hp' (e:b.v.stamp=b'.v.stamp);rcases (hm a b).1 hp with ⟨rfl,rfl⟩ | ⟨_,hq⟩
  ·rcases (hm a' b').1 hp' with ⟨rfl,rfl⟩ | ⟨_,hp'⟩
   ·rfl
   ·have:=h.stamps _ hp';simp at this e;omega
  ·rcases (hm a' b').1 hp' with ⟨rfl,rfl⟩ | ⟨_,hp'⟩
   ·have:=h.stamps _ hq;simp at this e;omega
   ·exact h.st1 _ hq _ hp' e
 ·rintro ⟨a,b⟩ hp ⟨a',b'⟩ hp' (e:b.v.born=b'.v.born);rcases (hm a b).1 hp with ⟨rfl,rfl⟩ | ⟨_,hq⟩
  ·rcases (hm a' b').1 hp' with ⟨rfl,rfl⟩ | ⟨_,hp'⟩
   ·rfl
   ·have:=h.borns _ hp';simp at this e;omega
  ·rcases (hm a' b').1 hp' with ⟨rfl,rfl⟩ | ⟨_,hp'⟩
   ·have:=h.borns _ hq;simp at this e;omega
   ·exact h.bo1 _ hq _ hp' e
end
section
variable {w:World} {base g r n:Nat} {S:St}
theorem qxg {base:Nat} {s:Slc} {xs:List UInt8} {K:Slc->Ub} (h:Hold w base s xs) (hK:∀q:Slc,Hold w base q xs->q.n=xs.length->K q w):jB s w K:=by
 refine Yw _ ?_;have hn:=h.rd.n;refine h.rd.slK3 (l:=0) (m:=xs.length) (k:=1) rfl (.inl ⟨rfl,rfl⟩) (by rw [hn]) (by rw [hn]) (zero_le _) (le_refl _) λhr=>?_;rw [List.take_of_length_le (le_refl _),List.drop_zero] at hr;refine hK _ ⟨hr,λk hk=>?_⟩ (by show xs.length-0=_;omega);obtain ⟨a,ha,hak⟩:=slk.1 hk;obtain ⟨b,hb,hab⟩:=Go.Vc.cut_block ha;exact h.blk k (slk.2 ⟨b,hb,by omega⟩)
theorem zb3 {i num:Int} {m:qa} {bs:List UInt8} {mb:Nat} {w6:World} {K:Ub} (h:StM w6 base g r S) (hk:StOk n S) (hn:n<=1000) (hbase:base<=w6.heap.size)
  (hb:Blk w6 mb qq (qa.rep.cells m)) (hP:Rd qm w6 m.P bs) (hPg:0<bs.length->∀a,m.P.a=some a->a.block≠g) (hf:S.used+bs.length<=S.quota)
  (hi1:0<i/\i<=1099511627776+((n+1:Nat):Int))
  (hK:∀P w',StM w' base g r (S.putAt i num m.W m.H P bs)->Chg (λk=>onS g r k\/k=mb) w6 w'->(∀k,P.blk=some k->w6.heap.size<=k)->K w') :
    qE (some ⟨g,0,none⟩) λt60=>
    ldI .i64 (t60.add 3) w6 λt62=>
    qE (some ⟨g,0,none⟩) λt64=>
    stK (t64.add 3) [(Ua (i64.wrap (t62+(1:Int))))] w6 λw7=>
    jy ((⟨mb,0,none⟩:Addr).add 2) w7 λt67=>
    zN t67 w7 λt68 w8=>
    jB t68 w8 λt69 w9=>
    stK ((⟨mb,0,none⟩:Addr).add 2) [(.slice t69.a t69.n t69.c)] w9 λw10=>
    qE (some ⟨g,0,none⟩) λt72=>
    ldM (t72.add 4) w10.drew λt74=>
    ldS qa.rep (⟨mb,0,none⟩:Addr) w10.drew λ(t77:qa) =>
    qE (some ⟨g,0,none⟩) λt79=>
    ldI .i64 (t79.add 3) w10.drew λt81=>
    qE (some ⟨g,0,none⟩) λt83=>
    ldI .i64 (t83.add 3) w10.drew λt85=>
    qoy PG (Instr.mapUpdate qC (.map t74) (Ua i) (.agg #[(Ua num),(Ua t77.W),(Ua t77.H),(.slice t77.P.a t77.P.n t77.P.c),(Ua t81),(Ua t85)])) w10.drew λ_ w11=>
    qE (some ⟨g,0,none⟩) λt88=>
    ldI .i64 (t88.add 2) w11.drew λt90=>
    jy ((⟨mb,0,none⟩:Addr).add 2) w11.drew λt92=>
    qE (some ⟨g,0,none⟩) λt95=>
    stK (t95.add 2) [(Ua (i64.wrap (t90+((t92.n:Nat):Int))))] w11.drew λw12=>
    K w12:=by
 have hc0:=hk.clk0;have hc1:=hk.clk;have hu:=hk.used;have hq1:=hk.q1;have hgl:=h.blk.lt;have hrl:=h.map.lt;have hmg:mb≠g:=hb.ne_t h.blk (by decide);have hmr:r≠mb:=h.map.ne_blk hb;refine qH (lI (x:=S.clock) (h.blk.cells 3 _ rfl) (qH ?_));rw [q4,qP (by omega)];refine qw h.blk (by simp [St.cells]) λw7 hb7 hg7 hs7=>?_;have hb7:Blk w7 g zD (({ S with clock:=S.clock+1 }:St).cells r):=hb7;have c7:Chg (λk=>onS g r k\/k=mb) w6 w7:=(Go.Vc.Chg.gg hg7).mono λi _ hi=>.inl (.inl hi);have hm7:jc Im.enc w7 r S.L:=h.map.chg (Go.Vc.Chg.gg hg7) h.ne;have hbm7:=hb.chg (Go.Vc.Chg.gg hg7) hmg;have hP7:Rd qm w7 m.P bs:=qfw hP (Go.Vc.Chg.gg hg7) λhp a ha e=>hPg hp a ha e;refine lSl (x:=m.P) (hbm7.cells 2 _ rfl) ?_;refine qa5 hP7 (by omega) λq8 w8 ho8 hB8=>?_;refine qxg (q0m ho8) λq9 hq9 hqn=>?_;rw [q4];have hs8:=hB8.size;have hbm8:=hbm7.ext hB8;have hb8:=hb7.ext hB8;have hm8:=hm7.ext hB8;refine qw hbm8 (by simp [qa.rep]) λw10 hb10 hg10 hs10=>?_;have hb10:Blk w10 mb qq (qa.rep.cells { m with P:=q9 }):=hb10;have hbg10:=hb8.chg (Go.Vc.Chg.gg hg10) λe=>hmg e.symm;have hm10:jc Im.enc w10 r S.L:=hm8.chg (Go.Vc.Chg.gg hg10) hmr;have hq10:Hold w10 w7.heap.size q9 bs:=hq9.chg (Go.Vc.Chg.gg hg10) λk hk e=>hq9.ne_b hbm8 (by decide) k hk e;refine qH (kM (x:=some r) (hbg10.drew.cells 4 _ rfl) ?_);refine qx (x:=({ m with P:=q9 }:qa)) hb10.drew.cells ?_;refine qH (lI (x:=S.clock+1) (hbg10.drew.cells 3 _ rfl) ?_);refine qH (lI (x:=S.clock+1) (hbg10.drew.cells 3 _ rfl) ?_);obtain ⟨w11,hr11,hm11,hc11,hs11⟩:=(hm10.keep (w':=w10.drew) rfl).update q3x zb7 (k:=i) (by omega) (enc:=Im.enc) ⟨⟨num,⟨m.W,m.H,q9⟩,S.clock+1,S.clock+1⟩,bs⟩;refine q7l hr11 ?_;have hbg11:=hbg10.drew.chg hc11 λe=>h.ne e.symm;have hb11:=hb10.drew.chg hc11 λe=>hmr e.symm;have hq11:=hq10.drew.chg hc11 λk hk e=>hq10.ne_m hm10 k hk e;refine qH (lI (x:=S.used) (hbg11.drew.cells 2 _ rfl) ?_);refine lSl (x:=q9) (hb11.drew.cells 2 _ rfl) ?_;refine qH ?_;rw [q4,hqn,qP (by omega)];refine qw hbg11.drew (by simp [St.cells]) λw12 hb12 hg12 hs12=>?_;have c8:Chg (λk=>onS g r k\/k=mb) w6 w10:=(c7.trans (Chg.of_ext hB8) λi _ hi=>hi).trans (Go.Vc.Chg.gg hg10) λi _ hi=>.inr hi;have c11:Chg (λk=>onS g r k\/k=mb) w6 w11:=(c8.trans (Chg.of_ext (Below.refl _ w10).drew) λi _ hi=>hi).trans hc11 λi _ hi=>.inl (.inr hi);have c12:Chg (λk=>onS g r k\/k=mb) w6 w12:=(c11.trans (Chg.of_ext (Below.refl _ w11).drew) λi _ hi=>hi).trans (Go.Vc.Chg.gg hg12) λi _ hi=>.inl (.inl hi);refine hK q9 w12 ⟨hb12,(hm11.keep (w':=w11.drew) rfl).chg (Go.Vc.Chg.gg hg12) h.ne,λp hp=>?_⟩ c12 (λk hk=>by have:=(hq9.lt k hk).1;omega);obtain ⟨a,b⟩:=p;rcases (zB hk.srt _ _ a b).1 hp with ⟨rfl,rfl⟩ | ⟨_,hp'⟩
 ·exact (hq11.drew.chg (Go.Vc.Chg.gg hg12) λk hk e=>hq11.ne_b hbg11 (by decide) k hk e).base (by omega)
 ·refine (h.img _ hp').chg c12 λk hk e=>?_;rcases e with e | e
  ·exact h.own_blk _ hp' k hk e
  ·exact (h.img _ hp').ne_b hb (by decide) k hk e
theorem zdp {id num:Int} {m:qa} {bs:List UInt8} (h:StM w base g r S) (hk:StOk n S) (hn:n<=1000) (hbase:base<=w.heap.size)
  (hP:Rd qm w m.P bs) (hPg:0<bs.length->∀a,m.P.a=some a->¬onS g r a.block) {K:Int->Slc->Int->Ub}
  (hE:∀w',Vi S id num m.W m.H bs.length≠0->StM w' base g r S->Uc w w'->K 0 ⟨none,0,0⟩ (Vi S id num m.W m.H bs.length) w')
  (hK:∀P q w',Vi S id num m.W m.H bs.length=0->StM w' base g r ((S.putPre id bs.length).1.putAt (Xr (S.putPre id bs.length).1.L id) num m.W m.H P bs)->StOk (n+1) ((S.putPre id bs.length).1.putAt (Xr (S.putPre id bs.length).1.L id) num m.W m.H P bs) ->
   Go.Vc.Own zw w' w.heap.size q (S.putPre id bs.length).2->Chg (onS g r) w w'->(∀k,P.blk=some k->w.heap.size<=k)->K (Xr (S.putPre id bs.length).1.L id) q 0 w') :
  ZZ (some ⟨g,0,none⟩) id num m w K:=by
 refine qjx _ _ _ _ ?_;have hPn:=hP.n;have hgl:=h.blk.lt;have hrl:=h.map.lt;refine nwb λw1 hb1 hB1 hs1=>?_;refine jpO λJ1 hJ1=>jpO λJ5 hJ5=>?_;have good:∀w2,Uc w w2->Blk w2 w.heap.size qq (qa.rep.cells m)->(qan id=true)->(bs.length:Int)<=S.quota->Vi S id num m.W m.H bs.length=0->J1 () w2:=λw2 hB2 hb2 hnum hq he=>by
  refine hJ1 _ _ ?_;have h2:=h.ext hB2;have hs2:=hB2.size;have hl2:=hb2.lt;refine qpo h2 λw3 h3 hc3 hs3=>?_;have hk3:StOk n { S with res:=0 }:=Vm hk 0;have hb3:=hb2.chg hc3 λe=>by rcases e with e | e<;>omega
  refine jpO λJ2 hJ2=>?_;have next:∀w4 (S1:St),S1=(if id=0 then ({ S with res:=0 }:St) else ({ S with res:=0 }:St).drop id)->StM w4 base g r S1->StOk n S1->S1.quota=S.quota->(id≠0->zp S1.L id=none)->Chg (onS g r) w3 w4->J2 () w4:=λw4 S1 hS1 h4 hk4 hqq hno hc4=>by
   refine hJ2 _ _ ?_;have hb4:=hb3.chg hc4 λe=>by rcases e with e | e<;>omega
   refine lSl (x:=m.P) (hb4.cells 2 _ rfl) ?_;rw [hPn];refine qr5 h4 hk4 hn (by omega) (by omega) λq5 w5 h5 ho5 hc5=>?_;have hpre:S.putPre id bs.length=S1.room bs.length:=by unfold St.putPre;rw [hS1]
   rw [hpre] at hK;have hk5:StOk n (S1.room bs.length).1:=KU _ _ hk4;have hfit:(S1.room bs.length).1.used<=S1.quota-bs.length:=qmt (by omega) _ hk4 (by omega) (le_refl _);have hfld:=(VZ (bs.length:Int) S1.L.length S1 []).1;have hfld:(S1.room bs.length).1.quota=S1.quota:=hfld;have hno5:id≠0->zp (S1.room bs.length).1.L id=none:=λe=>by
    have hno:=hno e;have key:∀(f:Nat) (S':St) (G:List Int),zp S'.L id=none->zp (S'.roomF bs.length f G).1.L id=none:=by
     intro f
     induction f with
     | zero=>exact λ_ _ h=>h
     | succ f ih =>
      intro S' G h;unfold St.roomF;split
      ·refine ih _ _ ?_;show zp (Go.Vc.delL S'.L _) id=none;cases hl:zp (Go.Vc.delL S'.L (eldest S'.L)) id with
       | none=>rfl
       | some x =>
        exfalso;unfold zp at hl;obtain ⟨p,hp,_⟩:=Option.map_eq_some_iff.1 hl;have h3:=List.find?_some hp;exact qqr h _ (kR (List.mem_of_find?_eq_some hp)) (by simpa using h3)
      ·exact h
    exact key _ _ _ hno
   have c45:Chg (onS g r) w2 w5:=(hc3.trans hc4 λi _ hi=>hi).trans hc5 λi _ hi=>hi;have hb5:=hb4.chg hc5 λe=>by rcases e with e | e<;>omega
   have hP5:Rd qm w5 m.P bs:=qfw (hP.ext hB2) c45 hPg;have hs3':=hc3.size;have hs4:=hc4.size;have hs5:=hc5.size;refine jpO λJ3 hJ3=>?_;have last:∀w6,Uc w5 w6->J3 (Xr (S1.room bs.length).1.L id,()) w6:=λw6 hB6=>by
    refine hJ3 _ _ ?_;have h6:=h5.ext hB6;have hs6:=hB6.size;refine zb3 (m:=m) (bs:=bs) h6 hk5 hn (by omega) (hb5.ext hB6) (hP5.ext hB6) (λhp a ha e=>hPg hp a ha (.inl e)) (by omega) (q26 hk5 hn hnum) λP w7 h7 hc7 hPb=>?_;have hoq:=ho5.ext hB6;refine hK P q5 w7 he h7 (zcv hk5 (q52 hk5 hn hno5) (q26 hk5 hn hnum) (by omega)) ?_ ?_ (λk hk=>by have:=hPb k hk;omega)
    ·refine (hoq.chg hc7 λk hk e=>?_).base (by omega);rcases e with (e | e) | e
     ·exact qiv hoq h6.blk (by decide) k hk e
     ·exact h6.map.ne_own hoq k hk e
     ·have:=(hoq.lt k hk).1;omega
    ·have c:Chg (λk=>onS g r k\/k=w.heap.size) w w7:=(((Chg.of_ext hB2).trans (c45.mono (S':=λk=>onS g r k\/k=w.heap.size) λi _ hi=>.inl hi) λi _ hi=>hi).trans (Chg.of_ext hB6) λi _ hi=>hi).trans hc7 λi _ hi=>hi;exact c.mono λi hi e=>e.resolve_right (by omega)
   refine cO (λe0=>?_) λe0=>?_
   ·have e0:=eq_of_beq e0;subst e0;have hfree:=qzu hk5;refine lpR (Inv:=λ(s:Int×Unit) w6=>∃j:Nat,s.1=1099511627776+(j:Int)/\j<=n+1/\qnu (S1.room bs.length).1.L (2000-j) s.1=Xr (S1.room bs.length).1.L 0/\Uc w5 w6) (μ:=λs=>(1099511627776+2000-s.1).toNat) ⟨0,by omega,by omega,rfl,Below.refl _ _⟩ ?_;rintro ⟨k,⟨⟩⟩ w6 ⟨j,hj,hj1,hj2,hB6⟩ I hI;have hj:k=1099511627776+(j:Int):=hj;refine zey (h5.ext hB6) k λw7 hB7=>?_;have hB57:=hB6.trans (hB7.mono hB6.size);have e2:2000-j=(2000-(j+1))+1:=by omega
    have hj2:qnu (S1.room bs.length).1.L (2000-j) k=Xr (S1.room bs.length).1.L 0:=hj2;rw [e2] at hj2;unfold qnu at hj2;refine cO (λhs=>?_) λhs=>?_
    ·rw [if_pos hs] at hj2;have hjn:j≠n+1:=λe=>by
      rw [hj,e,hfree] at hs;cases hs
     rw [qP (by omega)];exact hI _ _ ⟨j+1,by show k+1=_;omega,by omega,hj2,hB57⟩ (by show (1099511627776+2000-(k+1)).toNat<(1099511627776+2000-k).toNat;omega)
    ·rw [if_neg (by rw [hs];decide)] at hj2;rw [hj2];exact last w7 hB57
   ·have e0:id≠0:=λe=>by rw [e] at e0;simp at e0
    have hnid:Xr (S1.room bs.length).1.L id=id:=by unfold Xr;rw [if_neg e0]
    rw [<-hnid];have:=last w5 (Below.refl _ _);rw [hnid] at this ⊢;exact this
  refine cO (λe0=>?_) λe0=>?_
  ·have e0:=bne_iff_ne.1 e0;refine qqe h3 hk3 id λw4 h4 hc4=>?_;refine next w4 _ (by rw [if_neg e0]) h4 (qbp hk3 id) rfl (λ_=>?_) hc4;cases hl:zp (({ S with res:=0 }:St).drop id).L id with
   | none=>rfl
   | some x =>
    have:=((Zb id id x).1 ((zG (qtg hk.srt id)).1 hl)).1;exact absurd rfl this
  ·have e0:id=0:=by simpa using e0
   exact next w3 _ (by rw [if_pos e0]) h3 hk3 rfl (λe=>absurd e0 e) (Chg.refl _ _)
 have fin:∀(c:Bool) (w2:World),Uc w w2->Blk w2 w.heap.size qq (qa.rep.cells m)->c=(!(qp0 m.W m.H bs.length && !(m.W==0) && qan id && qan num))->J5 (c,()) w2:=λc w2 hB2 hb2 hc=>by
  refine hJ5 _ _ ?_;have h2:=h.ext hB2;cases hg:(qp0 m.W m.H bs.length && !(m.W==0) && qan id && qan num) with
  | false =>
   have he:Vi S id num m.W m.H bs.length=1:=by unfold Vi;rw [hg];rfl
   rw [he] at hE;rw [hg] at hc;exact cT hc (hE w2 (by decide) h2 hB2)
  | true =>
   rw [hg] at hc;have he:Vi S id num m.W m.H bs.length=if (bs.length:Int)>S.quota then 6 else 0:=by unfold Vi;rw [hg];rfl
   refine cF hc ?_;have hBd:=hB2.drew;refine lSl (x:=m.P) (hb2.drew.cells 2 _ rfl) (qH (lI (x:=S.quota) (h2.drew.blk.cells 0 _ rfl) ?_));rw [hPn];refine cO (λhgt=>?_) λhgt=>?_
   ·have hgt:=oTq hgt;rw [if_pos hgt] at he;rw [he] at hE;exact hE w2.drew (by decide) h2.drew hBd
   ·have hgt:=oFq hgt;rw [if_neg hgt] at he;refine good w2.drew hBd hb2.drew ?_ (by omega) he;simp only [Bool.and_eq_true] at hg;exact hg.1.2
 refine qx (x:=m) hb1.cells ?_;refine q6k λw2 hB2=>?_;have hB12:Uc w w2:=hB1.trans (hB2.mono (by omega));have hb2:=hb1.ext hB2;rw [hPn];refine cO (λe1=>?_) λe1=>?_
 ·refine fin _ _ hB12 hb2 ?_;simp at e1;rw [e1];rfl
 ·simp at e1;refine lI (x:=m.W) (hb2.cells 0 _ rfl) ?_;refine cO (λe2=>fin _ _ hB12 hb2 (by rw [e2];simp)) λe2=>?_;refine ql5 ?_;refine cO (λe3=>fin _ _ hB12 hb2 (by simp at e3;rw [e3];simp)) λe3=>?_;simp at e3;refine ql5 ?_;exact fin _ _ hB12 hb2 (by rw [e1,e2,e3];simp)
end
section
variable {w:World} {base g r n:Nat} {S:St}
def Vl (q:Int):Int:=if q<0\/q>1073741824 then 1 else 0
theorem zhc {q:Int} (h:Vl q=0):StOk 0 ⟨q,0,0,0,[]⟩:=by
 unfold Vl at h;split at h
 ·cases h
 ·rename_i h;exact ⟨by show 0<=q;omega,by show q<=_;omega,rfl,by show 0<=q;omega,le_refl _,Int.le_refl _,Int.le_refl _,.nil,(λp hp=>by cases hp),(λp hp=>by cases hp),(λp hp=>by cases hp),(λp hp=>by cases hp),(λp hp=>by cases hp)⟩
theorem q4r {q:Int} {w:World} {base:Nat} {K:Option Addr->Int->Ub} (hE:Vl q=1->K none 1 w)
  (hK:∀g r w',Vl q=0->w.heap.size<=g->w.heap.size<=r->StM w' base g r ⟨q,0,0,0,[]⟩->Uc w w'->K (some ⟨g,0,none⟩) 0 w'):qj1 q w K:=by
 refine qt4 _ ?_;refine jpO λJ hJ=>?_;refine cO (λh=>hE (by unfold Vl;rw [if_pos (.inl (oTq h))])) λh=>?_;refine cO (λh'=>hE (by unfold Vl;rw [if_pos (.inr (oTq h'))])) λh'=>?_;have h:=oFq h;have h':=oFq h';refine hJ _ _ ?_;unfold nwM;have hB1:Uc w (w.alloc (.map #[] 0)):=(Below.refl _ w).alloc (le_refl _) _;have hs1:(w.alloc (.map #[] 0)).heap.size=w.heap.size+1:=by show (w.heap.push _).size=_;simp
 refine nwb λw2 hb2 hB2 hs2=>?_;refine hK _ w.heap.size w2 (by unfold Vl;rw [if_neg (by omega)]) (by omega) (le_refl _) ⟨hb2,(jc.new w).ext hB2,λp hp=>by cases hp⟩ (hB1.trans (hB2.mono (by omega)))
theorem qtn {L:List (Int×Im)} (h:jc Im.enc w r L) {K:Option Nat->Ub} (hK:∀r' w',w.heap.size<=r'->jc Im.enc w' r' L->Uc w w'->K (some r') w') :
  zF (some r) w K:=by
 refine xM _ ?_;refine cF rfl ?_;obtain ⟨w1,hr1,hm1,hB1,hs1⟩:=qwq (P:=PG) h qC;refine ⟨.iface qC (.map (some w.heap.size)),w1,?_,?_⟩
 ·show (callFunc 189 #[.iface qC (.map (some r))]).run PG w=_;rw [run_callFunc_extern (P:=PG) (f:=189) Tryz.func189 (by kernel_rfl) (by kernel_rfl) (by kernel_rfl) (e:=Extern.MapsClone.clone) (by kernel_rfl),hr1];rfl
 ·exact ⟨some w.heap.size,w1,qm1 q3x,hK _ w1 (le_refl _) hm1 hB1⟩
theorem zai (h:StM w base g r S) {K:Option Addr->Ub}
  (hK:∀g' r' w',w.heap.size<=g'->w.heap.size<=r'->StM w' base g' r' S->Uc w w'->K (some ⟨g',0,none⟩) w'):Zo (some ⟨g,0,none⟩) w K:=by
 refine qhp _ ?_;refine qH (qx (x:=(⟨S.quota,S.res,S.used,S.clock,some r⟩:xm)) h.blk.cells ?_);refine ko (t:=zD) (vs:=xm.rep.cells ⟨S.quota,S.res,S.used,S.clock,some r⟩) rfl λw2 hb2 hB2 hs2=>?_;have h2:=h.ext hB2;refine qH (kM (x:=some r) (h2.blk.cells 4 _ rfl) ?_);refine qtn h2.map λr' w3 hr3 hm3 hB3=>?_;rw [q4];have hb3:=hb2.ext hB3;refine qw hb3 (by simp [xm.rep]) λw4 hb4 hg4 hs4=>?_;have hc:Chg (λk=>k=w.heap.size) w w4:=((Chg.of_ext hB2).trans (Chg.of_ext hB3) λi _ hi=>hi).trans (Go.Vc.Chg.gg hg4) λi _ hi=>hi;have hgl:=h.blk.lt;have hs3:=hB3.size;refine hK w.heap.size r' w4 (le_refl _) (by omega) ⟨hb4,hm3.chg (Go.Vc.Chg.gg hg4) (hm3.ne_blk hb3),λp hp=>((h2.img p hp).ext hB3).chg (Go.Vc.Chg.gg hg4) λk hk e=>((h2.img p hp).ext hB3).ne_b hb3 (by decide) k hk e⟩ (hc.ext λi hi e=>by omega)
theorem zcj {L:List (Int×Im)} (hs:Srt L) {k:Int} {x y:Im} (h:(k,x)∈L) (hxy:y.bs=x.bs):Jy (k8 L k y)=Jy L/\(k8 L k y).length=L.length:=by
 induction L with
 | nil=>cases h
 | cons a L ih =>
  have hp:=List.pairwise_cons.1 hs;unfold k8;rcases mem_cons.1 h with e | h
  ·subst e;rw [if_neg (by simp),if_pos rfl];exact ⟨by rw [xz,xz,hxy],by simp⟩
  ·have h1:=hp.1 _ h;simp at h1;rw [if_neg (by omega),if_neg (by omega)];have:=ih hp.2 h;exact ⟨by rw [xz,xz,this.1],by simp [this.2]⟩
theorem zgm (h:StOk n S) (id:Int):StOk (n+1) (S.use id):=by
 have hc:=h.clk;have hc0:=h.clk0;unfold St.use;cases hl:zp S.L id with
 | none =>
  exact ⟨h.q0,h.q1,h.used,h.fits,Nat.le_succ_of_le h.len,h.clk0,by show S.clock<=_;omega,h.srt,(λp hp=>by have:=h.keys p hp;omega),h.stamps,h.borns,h.st1,h.bo1⟩
 | some x =>
  have hx:=(zG h.srt).1 hl;have hm:=zB h.srt id ({ x with v:={ x.v with stamp:=S.clock+1 } }:Im);have hsz:=zcj h.srt hx (y:=({ x with v:={ x.v with stamp:=S.clock+1 } }:Im)) rfl;refine ⟨h.q0,h.q1,?_,h.fits,?_,by show 0<=S.clock+1;omega,by show S.clock+1<=_;omega,qdg h.srt _ _,?_,?_,?_,?_,?_⟩
  ·show S.used=(Jy (k8 _ _ _):Int);rw [hsz.1];exact h.used
  ·have:=h.len;show (k8 _ _ _).length<=_;rw [hsz.2];omega
  ·rintro ⟨a,b⟩ hp;rcases (hm a b).1 hp with ⟨rfl,rfl⟩ | ⟨_,hq⟩
   ·have:=h.keys _ hx;simp at this ⊢;omega
   ·have:=h.keys _ hq;simp at this ⊢;omega
  ·rintro ⟨a,b⟩ hp;show 0<b.v.stamp/\b.v.stamp<=S.clock+1;rcases (hm a b).1 hp with ⟨rfl,rfl⟩ | ⟨_,hq⟩
   ·exact ⟨by show 0<S.clock+1;omega,Int.le_refl _⟩
   ·have:=h.stamps _ hq;simp at this;omega
  ·rintro ⟨a,b⟩ hp;show 0<b.v.born/\b.v.born<=S.clock+1;rcases (hm a b).1 hp with ⟨rfl,rfl⟩ | ⟨_,hq⟩
   ·have:=h.borns _ hx;simp at this ⊢;omega
   ·have:=h.borns _ hq;simp at this;omega
  ·rintro ⟨a,b⟩ hp ⟨a',b'⟩ hp' (e:b.v.stamp=b'.v.stamp);rcases (hm a b).1 hp with ⟨rfl,rfl⟩ | ⟨_,hq⟩
   ·rcases (hm a' b').1 hp' with ⟨rfl,rfl⟩ | ⟨_,hq'⟩
    ·rfl
    ·have:=h.stamps _ hq';simp at this e;omega
   ·rcases (hm a' b').1 hp' with ⟨rfl,rfl⟩ | ⟨_,hq'⟩
    ·have:=h.stamps _ hq;simp at this e;omega
    ·exact h.st1 _ hq _ hq' e
  ·rintro ⟨a,b⟩ hp ⟨a',b'⟩ hp' (e:b.v.born=b'.v.born);rcases (hm a b).1 hp with ⟨rfl,rfl⟩ | ⟨hna,hq⟩
   ·rcases (hm a' b').1 hp' with ⟨rfl,rfl⟩ | ⟨hnb,hq'⟩
    ·rfl
    ·have:=congrArg Prod.fst (h.bo1 _ hx _ hq' e);exact absurd this.symm hnb
   ·rcases (hm a' b').1 hp' with ⟨rfl,rfl⟩ | ⟨_,hq'⟩
    ·have:=congrArg Prod.fst (h.bo1 _ hq _ hx e);exact absurd this hna
    ·exact h.bo1 _ hq _ hq' e
end
end Go.Proofs.YtokfefnmpjohpaaGreatDoor
set_option maxRecDepth 20000
namespace Go.Proofs.YtokfefnmpjohpaaGreatDoor
open Go.Vc
open Lib (indexByte)
def Qy:List Int:=[116,100,0,97,0,32,0,0,0,0,0,0,0,0,0,0,0,0,0,0,0,0]
def Ys:List Int:=List.replicate 22 0
def qb8:List UInt8:=[97,116,111,100]
def qmd:List UInt8:=[113,102,115,118,105,73,112,109,120,121,119,104,88,89,114,99,67]
def qf5 (c:UInt8):Option Nat:=if indexByte qb8 c<0 then none else some (indexByte qb8 c).toNat
def qki (j:Nat):Nat:=if j=16 then 21 else j+4
def qop (c:UInt8):Option Nat:=if indexByte qmd c<0 then none else some (qki (indexByte qmd c).toNat)
def qu4:Nat->List UInt8->Option Nat
 | n,[]=>some n
 | n,b::r=>if b<48\/57<b then none else qu4 (10*n+(b.toNat-48)) r
def KK (v:List UInt8):Option Nat:=if v=[]\/10<v.length then none else (qu4 0 v).bind λn=>if n<=4294967295 then some n else none
def zaz (m:Int):Bool:=decide (-1073741824<=m) && decide (m<1073741824)
def qis (v:List UInt8):Option Int:=match v with
 | 45::r=>(KK r).bind λn=>if zaz (-(n:Int)) then some (-(n:Int)) else none
 | v=>(KK v).bind λn=>if zaz (n:Int) then some (n:Int) else none
def qc6 (c:UInt8):Bool:=(decide (65<=c) && decide (c<=90)) || (decide (97<=c) && decide (c<=122))
def zff (b:UInt8):Bool:=decide (33<=b) && decide (b<=126)
def q6f (k:List Int) (j:Nat) (v:List UInt8):Option (List Int):=match v with
 | [b]=>if zff b then some (k.set j (b.toNat:Int)) else none
 | _=>none
def qlg (k:List Int) (s:List UInt8):Option (List Int):=match s with
 | c::e::v =>
  if e≠61\/qc6 c=false then none
  else if c=122 then (qis v).map λm=>k.set 20 m
  else match qf5 c with
   | some j=>q6f k j v
   | none=>match qop c with
    | some j=>(KK v).map λn=>k.set j (n:Int)
    | none=>some k
 | _=>none
def zQ:List UInt8->List (List UInt8)
 | []=>[[]]
 | b::r=>if b=44 then []::zQ r else match zQ r with
  | h::t=>(b::h)::t
  | []=>[[b]]
def y4 (b:List UInt8):List Int×Int:=if 512<b.length then (Ys,5) else if b=[] then (Qy,0) else match (zQ b).foldlM qlg Qy with
 | some k=>(k,0)
 | none=>(Ys,3)
def qeb (l:List (List UInt8)):List UInt8:=Lib.join l [44]
theorem q4c (x:List UInt8) (l:List (List UInt8)) (h:l≠[]):qeb (x::l)=x++44::qeb l:=by
 unfold qeb Lib.join;cases l with
 | nil=>exact absurd rfl h
 | cons y l=>simp [List.intercalate,List.intersperse]
theorem za4 (x:List UInt8):qeb [x]=x:=by simp [qeb,Lib.join,List.intercalate,List.intersperse]
theorem q8z:qeb []=[]:=rfl
def qs4 (k:List Int) (word:List UInt8):Bool :=
 (decide (k[8]?.getD 0=0) && decide (k[9]?.getD 0=0)) || (decide (k[4]?.getD 0=1) && decide (word=[79,75])) || decide ((2:Int)<=k[4]?.getD 0) || decide (k[8]?.getD 0<0) || decide (k[9]?.getD 0<0) || decide (k[10]?.getD 0<0)
def xA (c:UInt8) (n:Int):List (List UInt8):=if n=0 then [] else [c::61::Lib.itoa n]
def YX (k:List Int):List (List UInt8):=xA 105 (k[8]?.getD 0)++xA 73 (k[9]?.getD 0)++xA 112 (k[10]?.getD 0)
def qne (k:List Int) (word:List UInt8):List UInt8:=if qs4 k word then [] else [27,95,71]++qeb (YX k)++[59]++word++[27,92]
end Go.Proofs.YtokfefnmpjohpaaGreatDoor
namespace Go.Proofs.YtokfefnmpjohpaaGreatDoor
open Go.Vc Go.RowKit
set_option maxRecDepth 400000
open IntKind (i64)
open Lib (countByte indexByte)
open _root_.List (length_append length_cons length_map)
open _root_.Nat (le_refl mul_one zero_add)
def qxc (i:Nat) (x:Int):Value:=if i<4 then .int .u8 x else .int .i64 x
def qi0:Nat->List Int->List Value
 | _,[]=>[]
 | i,x::r=>qxc i x::qi0 (i+1) r
def qcz (L:List Int):List Value:=qi0 0 L
def toL (k:qb):List Int:=[k.Action,k.Medium,k.Zip,k.What,k.Quiet,k.Format,k.W,k.H,k.Id,k.Number,k.Place,k.More,k.X,k.Y,k.PW,k.PH,k.DX,k.DY,k.Rows,k.Cols,k.Z,k.Stay]
def ofL (L:List Int):qb:=⟨L.getD 0 0,L.getD 1 0,L.getD 2 0,L.getD 3 0,L.getD 4 0,L.getD 5 0,L.getD 6 0,L.getD 7 0,L.getD 8 0,L.getD 9 0,L.getD 10 0,L.getD 11 0,L.getD 12 0,L.getD 13 0,L.getD 14 0,L.getD 15 0,L.getD 16 0,L.getD 17 0,L.getD 18 0,L.getD 19 0,L.getD 20 0,L.getD 21 0⟩
theorem qzx (k:qb):(toL k).length=22:=rfl
theorem zax (k:qb):qb.rep.cells k=qcz (toL k):=rfl
theorem zbf {L:List Int} (h:L.length=22):toL (ofL L)=L:=by
 refine List.ext_getElem? λi=>?_;by_cases hi:i<22
 ·have e:∀j,j<22->L[j]?=some (L.getD j 0):=λj hj=>by rw [List.getD_eq_getElem?_getD,List.getElem?_eq_getElem (by omega)];rfl
  rw [e i hi];have:i=0\/i=1\/i=2\/i=3\/i=4\/i=5\/i=6\/i=7\/i=8\/i=9\/i=10\/i=11\/i=12\/i=13\/i=14\/i=15\/i=16\/i=17\/i=18\/i=19\/i=20\/i=21:=by omega
  rcases this with rfl | rfl | rfl | rfl | rfl | rfl | rfl | rfl | rfl | rfl | rfl | rfl | rfl | rfl | rfl | rfl | rfl | rfl | rfl | rfl | rfl | rfl<;>rfl
 ·rw [List.getElem?_eq_none (by rw [qzx];omega),List.getElem?_eq_none (by omega)]
theorem qp8 {L:List Int} (h:L.length=22):qb.rep.cells (ofL L)=qcz L:=by rw [zax,zbf h]
theorem qvh:∀(L:List Int) (i j:Nat) (v:Int),(qi0 i L).set j (qxc (i+j) v)=qi0 i (L.set j v)
 | [],i,j,v=>rfl
 | x::r,i,0,v=>rfl
 | x::r,i,j+1,v=>by
  rw [qi0,List.set_cons_succ,List.set_cons_succ,qi0,show i+(j+1)=i+1+j by omega,qvh r (i+1) j v]
theorem vN (L:List Int):(qcz L).length=L.length:=by
 have:∀(L:List Int) (i:Nat),(qi0 i L).length=L.length:=by
  intro L
  induction L with
  | nil=>intro i;rfl
  | cons x r ih=>intro i;rw [qi0,length_cons,ih,length_cons]
 exact this L 0
structure KM (w:World) (g:Nat) (L:List Int):Prop where
 blk:Blk w g qM (qcz L)
 len:L.length=22
theorem q5t {P:UInt8->Prop} (h:∀n,n<256->P (UInt8.ofNat n)) (c:UInt8):P c:=by
 have:=h c.toNat c.toNat_lt
 rwa [UInt8.ofNat_toNat] at this
theorem qux (c:UInt8):indexByte qb8 c<0\/∃j:Nat,indexByte qb8 c=j/\j<4/\qf5 c=some j:=by
 refine q5t (P:=λc=>indexByte qb8 c<0\/∃j:Nat,indexByte qb8 c=j/\j<4/\qf5 c=some j) (λn hn=>?_) c;by_cases h:indexByte qb8 (UInt8.ofNat n)<0
 ·exact .inl h
 ·refine .inr ⟨(indexByte qb8 (UInt8.ofNat n)).toNat,by omega,?_,?_⟩
  ·have:∀n,n<256->indexByte qb8 (UInt8.ofNat n)<4:=by decide +kernel
   have:=this n hn;omega
  ·unfold qf5;rw [if_neg (by omega)]
theorem qxm (c:UInt8):indexByte qmd c<0\/∃j:Nat,indexByte qmd c=j/\j<17/\qop c=some (qki j):=by
 refine q5t (P:=λc=>indexByte qmd c<0\/∃j:Nat,indexByte qmd c=j/\j<17/\qop c=some (qki j)) (λn hn=>?_) c;by_cases h:indexByte qmd (UInt8.ofNat n)<0
 ·exact .inl h
 ·refine .inr ⟨(indexByte qmd (UInt8.ofNat n)).toNat,by omega,?_,?_⟩
  ·have:∀n,n<256->indexByte qmd (UInt8.ofNat n)<17:=by decide +kernel
   have:=this n hn;omega
  ·unfold qop;rw [if_neg (by omega)]
section
variable {w:World} {g:Nat}
theorem qtq (c:UInt8) {i:Int} (hi:i=c.toNat) {K:Option Addr->Ub} (hK:∀w',Uc w w'->K ((qf5 c).map λj=>⟨g,j,none⟩) w'):Qb (some ⟨g,0,none⟩) i w K:=by
 refine qla _ _ ?_;refine qhf (bs:=qb8) hi ?_;rcases qux c with h | ⟨j,hj,hlt,hs⟩
 ·refine cT (by simpa using h) ?_;have:=hK w (Below.refl _ _);unfold qf5 at this
  rwa [if_pos h] at this
 ·rw [hj];refine cF (by simp) (jG (jG (jG (jG ?_))));refine nwb λw2 hb hB hs2=>⟨⟨by omega,by omega⟩,?_⟩;have hK':=hK w2 ((Below.refl _ w).drew.trans hB);rw [hs] at hK';refine qK (x:=some ⟨g,j,none⟩) ?_ hK';rw [mul_one,Int.toNat_natCast,q4,zero_add];have:j=0\/j=1\/j=2\/j=3:=by omega
  rcases this with rfl | rfl | rfl | rfl<;>exact hb.cell _ (by simp [q4])
theorem qpb (c:UInt8) {i:Int} (hi:i=c.toNat) {K:Option Addr->Ub} (hK:∀w',Uc w w'->K ((qop c).map λj=>⟨g,j,none⟩) w'):vJ (some ⟨g,0,none⟩) i w K:=by
 refine qh9 _ _ ?_;refine qhf (bs:=qmd) hi ?_;rcases qxm c with h | ⟨j,hj,hlt,hs⟩
 ·refine cT (by simpa using h) ?_;have:=hK w (Below.refl _ _);unfold qop at this
  rwa [if_pos h] at this
 ·rw [hj];refine cF (by simp) ?_;refine jG (jG (jG (jG (jG (jG (jG (jG (jG (jG (jG (jG (jG (jG (jG (jG (jG ?_))))))))))))))));refine nwb λw2 hb hB hs2=>⟨⟨by omega,by omega⟩,?_⟩;have hK':=hK w2 ((Below.refl _ w).drew.trans hB);rw [hs] at hK';refine qK (x:=some ⟨g,qki j,none⟩) ?_ hK';rw [mul_one,Int.toNat_natCast,q4,zero_add];have:j=0\/j=1\/j=2\/j=3\/j=4\/j=5\/j=6\/j=7\/j=8\/j=9\/j=10\/j=11\/j=12\/j=13\/j=14\/j=15\/j=16:=by omega
  rcases this with rfl | rfl | rfl | rfl | rfl | rfl | rfl | rfl | rfl | rfl | rfl | rfl | rfl | rfl | rfl | rfl | rfl<;>exact hb.cell _ (by simp [q4,qki])
theorem zig {b:UInt8} (n:Nat) (hn:n<256):decide ((b.toNat:Int)>=(n:Int))=decide (UInt8.ofNat n<=b):=by
 have:(UInt8.ofNat n).toNat=n:=by simp;omega
 by_cases h:n<=b.toNat
 ·rw [dTq (by omega),dTq (by show (UInt8.ofNat n).toNat<=b.toNat;omega)]
 ·rw [dFq (by omega),dFq (by show ¬(UInt8.ofNat n).toNat<=b.toNat;omega)]
theorem zid {b:UInt8} (n:Nat) (hn:n<256):decide ((b.toNat:Int)<=(n:Int))=decide (b<=UInt8.ofNat n):=by
 have:(UInt8.ofNat n).toNat=n:=by simp;omega
 by_cases h:b.toNat<=n
 ·rw [dTq (by omega),dTq (by show b.toNat<=(UInt8.ofNat n).toNat;omega)]
 ·rw [dFq (by omega),dFq (by show ¬b.toNat<=(UInt8.ofNat n).toNat;omega)]
theorem qz3 (b:UInt8) {i:Int} (hi:i=b.toNat) {K:Bool->Ub} (hK:K (zff b) w):qal i w K:=by
 subst hi;refine qny _ ?_;unfold zff at hK;have e1:decide ((b.toNat:Int)>=33)=decide ((33:UInt8)<=b):=zig 33 (by omega);have e2:decide ((b.toNat:Int)<=126)=decide (b<=(126:UInt8)):=zid 126 (by omega);refine cO (λh=>?_) λh=>?_
 ·rw [e2];rw [e1] at h;rw [show decide ((33:UInt8)<=b)=true from h] at hK;exact hK
 ·rw [e1] at h;rw [show decide ((33:UInt8)<=b)=false from h] at hK;exact hK
theorem zae {b:UInt8} (h:¬(b<48\/57<b)):i64.wrap (IntKind.u8.wrap ((b.toNat:Int)-48))=((b.toNat-48:Nat):Int)/\b.toNat-48<10:=by
 have h1:48<=b.toNat:=by
  have:¬b.toNat<48:=λhh=>h (.inl (show b.toNat<(48:UInt8).toNat from hh));omega
 have h2:b.toNat<=57:=by
  have:¬57<b.toNat:=λhh=>h (.inr (show (57:UInt8).toNat<b.toNat from hh));omega
 rw [show ((b.toNat:Int)-48)=((b.toNat-48:Nat):Int) by omega,jE .u8 (by show _<2^8;omega),jE .i64 (by show _<2^63;omega)];exact ⟨rfl,by omega⟩
theorem qnr (v:List UInt8) {K:Int->Bool->Ub} (hK:∀(n:Nat) ok,n<10000000000->(ok=true->KK v=some n)->(ok=false->KK v=none)->K n ok w):qbf (qS v) w K:=by
 refine qut _ ?_;refine jpO λJ hJ=>?_;have hno:KK v=none->K 0 false w:=λh=>hK 0 false (by omega) (λe=>by cases e) λ_=>h;refine cO (λh=>hno ?_) λh=>?_
 ·rw [vz] at h;have:v=[]:=by simpa [ByteArray.toList_eq] using h
  unfold KK;rw [if_pos (.inl this)]
 have hne:v≠[]:=by
  rw [vz] at h;simpa [ByteArray.toList_eq] using h
 rw [qD];refine cO (λh=>hno ?_) λh10=>?_
 ·have h:(10:Int)<v.length:=oTq h;unfold KK;rw [if_pos (.inr (by omega))]
 have h10:=oFq h10;have hlen:v.length<=10:=by omega
 have hread:KK v=(qu4 0 v).bind λn=>if n<=4294967295 then some n else none:=by unfold KK;rw [if_neg (by intro hh;rcases hh with hh | hh;exact hne hh;omega)]
 refine hJ _ _ ?_;refine lpR (λ(s:Int×Int×Unit) w2=>w2=w/\∃k m:Nat,s.2.1=k/\s.1=m/\k<=v.length/\m<10^k/\qu4 0 v=qu4 m (v.drop k)) (λs=>v.length-s.2.1.toNat) ⟨rfl,0,0,rfl,rfl,Nat.zero_le _,by omega,rfl⟩ ?_;rintro ⟨a,b,u⟩ _ ⟨rfl,k,m,hb,ha,hk,hm,hr⟩ I hI;dsimp only at ha hb ⊢;subst ha hb;have hp10:∀j,j<=10->10^j<=10000000000:=λj hj=>Nat.pow_le_pow_right (by omega) hj;by_cases hlt:k<v.length
 ·refine cT (by simp [qD];omega) (jpO λJ3 hJ3=>?_);have hx:v[k]?=some v[k]:=by simp [hlt]
  rw [List.drop_eq_getElem_cons hlt,qu4] at hr;refine qmp rfl hx ?_;have hnone:(v[k]<48\/57<v[k])->KK v=none:=λhh=>by rw [hread,hr,if_pos hh];rfl
  refine cO (λh=>hno (hnone (.inl ?_))) λh1=>?_
  ·have h:=oTq h;show (v[k]).toNat<(48:UInt8).toNat;have:(48:UInt8).toNat=48:=rfl;omega
  refine qmp rfl hx ?_;refine cO (λh=>hno (hnone (.inr ?_))) λh2=>?_
  ·have h:=oTq h;show (57:UInt8).toNat<(v[k]).toNat;have:(57:UInt8).toNat=57:=rfl;omega
  have h1:=oFq h1;have h2:=oFq h2;have hd:¬(v[k]<48\/57<v[k]):=by
   rintro (hh | hh)
   ·have:(v[k]).toNat<(48:UInt8).toNat:=hh;have:(48:UInt8).toNat=48:=rfl;omega
   ·have:(57:UInt8).toNat<(v[k]).toNat:=hh;have:(57:UInt8).toNat=57:=rfl;omega
  obtain ⟨hv1,hv2⟩:=zae hd;rw [if_neg hd] at hr;refine hJ3 _ _ (qmp rfl hx ?_);rw [hv1];have hb10:=hp10 (k+1) (by omega);have hmk:m<10^k:=hm;have hps:10^(k+1)=10^k*10:=Nat.pow_succ _ _;rw [show (10:Int)*(m:Int)=((10*m:Nat):Int) by omega,jE .i64 (by show _<2^63;omega),show ((10*m:Nat):Int)+((v[k].toNat-48:Nat):Int)=((10*m+(v[k].toNat-48):Nat):Int) by omega,jE .i64 (by show _<2^63;omega),i64_in (by omega)];exact hI _ _ ⟨rfl,k+1,_,by simp,rfl,by omega,by omega,hr⟩ (by simp;omega)
 ·refine cF (by simp [qD];omega) ?_;obtain rfl:k=v.length:=by omega
  rw [List.drop_of_length_le (le_refl _),qu4] at hr;have:=hp10 v.length hlen;refine hK m _ (by omega) (λh=>?_) λh=>?_
  ·have h:(m:Int)<=4294967295:=oTq h;rw [hread,hr,Option.bind_some,if_pos (by omega)]
  ·have h:¬(m:Int)<=4294967295:=oFq h;rw [hread,hr,Option.bind_some,if_neg (by omega)]
theorem q6q (v:List UInt8) (c:UInt8) {K:Bool->Ub} (hK:K (decide (v.head?=some c)) w):jM (qS v) (qS [c]) w K:=by
 refine QU _ _ ?_;cases v with
 | nil=>exact cF (by simp [qD]) (by simpa using hK)
 | cons b r =>
  refine cT (by simp [qD];omega) ?_;refine qtb (h:=1) (l:=0) (.inl ⟨rfl,rfl⟩) (.inr (by simp [qD])) (by omega) (by simp) ?_;have e:((qS (((b::r).take 1).drop 0)).toList==(qS [c]).toList)=decide ((b::r).head?=some c):=by
   rw [vz,vz];by_cases h:b=c
   ·subst h;simp
   ·rw [dFq (by simpa using h)];simpa using h
  rw [e];exact hK
theorem qv4 (v:List UInt8) (c:UInt8) {K:ByteArray->Bool->Ub} (h1:∀r,v=c::r->K (qS r) true w) (h0:(∀r,v≠c::r)->K (qS v) false w):QB (qS v) (qS [c]) w K:=by
 refine qgh _ _ ?_;refine QG _ _ ?_;refine q6q v c ?_;cases v with
 | nil=>exact cT (by simp) (h0 λr=>by simp)
 | cons b r =>
  by_cases h:b=c
  ·subst h;refine cF (by simp) (qtb (l:=1) (h:=(b::r).length) (.inr (by simp [qD])) (.inl ⟨rfl,rfl⟩) (by simp) (le_refl _) ?_);simpa using h1 r rfl
  ·exact cT (by simpa using h) (h0 λr' e=>h (by cases e;rfl))
theorem q5a (v:List UInt8) {K:Int->Bool->Ub} (hK:∀(n:Int) ok,(ok=true->qis v=some n)->(ok=false->qis v=none)->K n ok w):qfd (qS v) w K:=by
 refine qsa _ ?_;have key:∀(r:List UInt8) (f:Nat->Int) (below:Bool),(qis v=(KK r).bind λn=>if zaz (f n) then some (f n) else none)->∀(n:Nat) (ok:Bool),(ok=true->KK r=some n)->(ok=false->KK r=none) ->
   (cond ok (cond (decide (f n>=((-1073741824):Int))) (K (f n) (decide (f n<(1073741824:Int))) w) (K (f n) false w)) (K (f n) false w)):=by
  intro r f below hd n ok h1 h0;refine cO (λhok=>?_) λhok=>?_
  ·have hr:=h1 hok;rw [hr,Option.bind_some] at hd;unfold zaz at hd;refine cO (λha=>?_) λha=>?_
   ·have ha:=oTq ha;refine hK _ _ (λhb=>?_) λhb=>?_
    ·have hb:=oTq hb;rw [hd,dTq (by omega),dTq (by omega)];rfl
    ·have hb:=oFq hb;rw [hd,dFq (p:=f n<1073741824) (by omega),Bool.and_false];rfl
   ·have ha:=oFq ha;refine hK _ _ (λhb=>by cases hb) λ_=>?_;rw [hd,dFq (p:=-1073741824<=f n) (by omega),Bool.false_and];rfl
  ·have hr:=h0 hok;rw [hr] at hd;exact hK _ _ (λhb=>by cases hb) λ_=>hd
 refine qv4 v 45 (λr hv=>?_) λhv=>?_
 ·refine qnr r λn ok hn h1 h0=>jpO λJ hJ=>cT rfl (hJ _ _ ?_);rw [i64_in (by omega),show (0:Int)-(n:Int)=-(n:Int) by omega];exact key r (λn=>-(n:Int)) true (by rw [hv];rfl) n ok h1 h0
 ·refine qnr v λn ok hn h1 h0=>jpO λJ hJ=>cF rfl (hJ _ _ ?_);refine key v (λn=>(n:Int)) false ?_ n ok h1 h0;unfold qis;split
  ·rename_i r;exact absurd rfl (hv r)
  ·rfl
end
theorem q4j (c:UInt8):(decide (jX .or .u8 (c.toNat:Int) 32>=97) && decide (jX .or .u8 (c.toNat:Int) 32<=122))=qc6 c:=by
 refine q5t (P:=λc=>(decide (jX .or .u8 (c.toNat:Int) 32>=97) && decide (jX .or .u8 (c.toNat:Int) 32<=122))=qc6 c) (λn hn=>?_) c;have e:jX .or .u8 (((UInt8.ofNat n).toNat:Nat):Int) ((32:Nat):Int)=(((UInt8.ofNat n).toNat ||| 32:Nat):Int):=qzn .u8 (by show _<2^8;exact (UInt8.ofNat n).toNat_lt) (by decide);have e':jX .or .u8 (((UInt8.ofNat n).toNat:Nat):Int) 32=(((UInt8.ofNat n).toNat ||| 32:Nat):Int):=e;rw [e'];have key:∀n,n<256->(decide ((((UInt8.ofNat n).toNat ||| 32:Nat):Int)>=97) && decide ((((UInt8.ofNat n).toNat ||| 32:Nat):Int)<=122))=qc6 (UInt8.ofNat n):=by decide +kernel
 exact key n hn
section
variable {w:World} {g:Nat} {L:List Int}
theorem KM.ext {w':World} (h:KM w g L) (hb:Uc w w'):KM w' g L:=⟨h.blk.ext hb,h.len⟩
theorem KM.st (h:KM w g L) {j:Nat} (hj:j<22) {v:Int} {u:Value} (hu:u=qxc j v) {K:Ub} (hK:∀w',KM w' g (L.set j v)->Chg (λk=>k=g) w w'->w'.heap.size=w.heap.size->K w'):stK ⟨g,j,none⟩ [u] w K:=by
 subst hu;refine qw h.blk (by rw [vN,h.len,List.length_singleton];omega) λw' hb hg hs=>hK w' ⟨?_,by rw [List.length_set];exact h.len⟩ (Go.Vc.Chg.gg hg) hs;have:putL (qcz L) j [qxc j v]=qcz (L.set j v):=by
  have:=qvh L 0 j v;rw [zero_add] at this;exact this
 rwa [this] at hb
theorem qur {α β:Type} (o:Option α) (f:α->β):(o.map f).isNone=o.isNone:=by cases o<;>rfl
theorem q86 {j:Nat} (h:j<17):qki j<22/\¬qki j<4:=by unfold qki;split<;>omega
theorem KM.drew (h:KM w g L):KM w.drew g L:=⟨h.blk.drew,h.len⟩
theorem zb9 (h:KM w g L) (s:List UInt8) {K:Bool->Ub} (hK:∀b w' L',KM w' g L'->Chg (λk=>k=g) w w'->(b=true->qlg L s=some L')->(b=false->qlg L s=none)->K b w'):Vt (some ⟨g,0,none⟩) (qS s) w K:=by
 refine qns _ _ ?_;have hno:∀{w':World} {L':List Int},KM w' g L'->Chg (λk=>k=g) w w'->qlg L s=none->K false w':=λhk hc hn=>hK false _ _ hk hc (λe=>by cases e) λ_=>hn;have hyes:∀{w':World} {L':List Int},KM w' g L'->Chg (λk=>k=g) w w'->qlg L s=some L'->K true w':=λhk hc hn=>hK true _ _ hk hc (λ_=>hn) λe=>by cases e
 have c0:Chg (λk=>k=g) w w:=Chg.refl _ _;refine jpO λJ1 hJ1=>?_;rcases s with _ | ⟨c,_ | ⟨e,v⟩⟩
 ·exact cT (by simp [qD]) (hno h c0 rfl)
 ·exact cT (by simp [qD]) (hno h c0 rfl)
 ·refine cF (by simp [qD];omega) ?_;refine qmp (k:=1) (b:=e) rfl rfl ?_;by_cases he:e=61
  case neg =>
   refine cT ?_ (hno h c0 ?_)
   ·have:e.toNat≠61:=λhh=>he (UInt8.toNat_inj.1 hh);simp;omega
   ·unfold qlg;dsimp only;rw [if_pos (.inl he)]
  subst he;refine cF (by decide) (hJ1 _ _ ?_);refine qmp (k:=0) (b:=c) rfl rfl ?_;refine qtb (l:=2) (h:=(c::61::v).length) (.inr rfl) (.inl ⟨rfl,rfl⟩) (by simp) (le_refl _) ?_;rw [List.take_length];show qX _ _;have hv:(c::(61:UInt8)::v).drop 2=v:=rfl;rw [hv];have hd:=h.drew;have cd:Chg (λk=>k=g) w w.drew:=Chg.of_ext (Below.refl _ w).drew;refine jpO λJ2 hJ2=>?_;have hj2:J2 (qc6 c,()) w.drew->cond (decide (jX .or .u8 (c.toNat:Int) (32:Int)>=(97:Int))) (J2 ((decide (jX .or .u8 (c.toNat:Int) (32:Int)<=(122:Int))),()) w.drew) (J2 (false,()) w.drew):=by
   intro hj;rw [<-q4j] at hj;refine cO (λha=>?_) λha=>?_
   ·rw [ha,Bool.true_and] at hj;exact hj
   ·rw [ha,Bool.false_and] at hj;exact hj
  refine hj2 (hJ2 _ _ ?_);dsimp only;cases hl:qc6 c with
  | false =>
   refine cT rfl (hno hd cd ?_);unfold qlg;dsimp only;rw [if_pos (.inr hl)]
  | true =>
   have hone:qlg L (c::61::v)=if c=122 then (qis v).map λm=>L.set 20 m
     else match qf5 c with
      | some j=>q6f L j v
      | none=>match qop c with
       | some j=>(KK v).map λn=>L.set j (n:Int)
       | none=>some L:=by
    unfold qlg;dsimp only;rw [if_neg (by rw [hl];simp)]
    all_goals rfl
   refine cF rfl ?_;by_cases hz:c=122
   ·subst hz;rw [if_pos rfl] at hone;refine cT (by decide) (q5a v λn ok h1 h0=>jG ?_);rw [q4,zero_add];refine hd.st (j:=20) (by omega) (v:=n) rfl λw4 hk4 hc4 hs4=>?_;have hc:=cd.trans hc4 λi _ hi=>hi;cases ok with
    | true=>exact hyes hk4 hc (by rw [hone,h1 rfl];rfl)
    | false=>exact hno hk4 hc (by rw [hone,h0 rfl];rfl)
   rw [if_neg hz] at hone;refine cF ?_ ?_
   ·have:c.toNat≠122:=λhh=>hz (UInt8.toNat_inj.1 hh);simp;omega
   refine qtq c rfl λw5 hB5=>?_;rw [qur];have h5:=hd.ext hB5;have c5:=cd.trans (Chg.of_ext (S:=λk=>k=g) hB5) λi _ hi=>hi;cases hs:qf5 c with
   | some j =>
    rw [hs] at hone;have hj4:j<4:=by
     rcases qux c with hh | ⟨j',_,hh,e⟩
     ·unfold qf5 at hs;rw [if_pos hh] at hs;cases hs
     ·rw [hs] at e;cases e;exact hh
    refine cT rfl (jpO λJ3 hJ3=>?_);rcases v with _ | ⟨b,_ | ⟨b',v'⟩⟩
    ·exact cF (by simp [qD]) (hJ3 _ _ (cF rfl (hno h5 c5 hone)))
    rotate_left
    ·exact cF (by simp [qD];omega) (hJ3 _ _ (cF rfl (hno h5 c5 hone)))
    ·refine cT (by simp [qD]) (qmp (k:=0) (b:=b) rfl rfl (qz3 b rfl (hJ3 _ _ ?_)));cases hvb:zff b with
     | false =>
      refine cF rfl (hno h5 c5 ?_);rw [hone];show q6f L j [b]=_;unfold q6f;dsimp only;rw [hvb];rfl
     | true =>
      refine cT rfl (qmp (k:=0) (b:=b) rfl rfl ?_);refine qtq c rfl λw7 hB7=>?_;rw [hs];have h7:=h5.drew.ext hB7;have c7:=(c5.trans (Chg.of_ext (S:=λk=>k=g) (Below.refl _ w5).drew) λi _ hi=>hi).trans (Chg.of_ext (S:=λk=>k=g) hB7) λi _ hi=>hi;refine jG (h7.st (j:=j) (by omega) (v:=(b.toNat:Int)) (by unfold qxc;rw [if_pos hj4]) λw8 hk8 hc8 hs8=>?_);refine hyes hk8 (c7.trans hc8 λi _ hi=>hi) ?_;rw [hone];show q6f L j [b]=_;unfold q6f;dsimp only;rw [hvb];rfl
   | none =>
    rw [hs] at hone;refine cF rfl ?_;refine qpb c rfl λw10 hB10=>?_;rw [qur];have h10:=h5.ext hB10;have c10:=c5.trans (Chg.of_ext (S:=λk=>k=g) hB10) λi _ hi=>hi;cases hn:qop c with
    | none =>
     rw [hn] at hone;exact cF rfl (hyes h10 c10 hone)
    | some j =>
     rw [hn] at hone;have hj:j<22/\¬j<4:=by
      rcases qxm c with hh | ⟨j',_,hh,e⟩
      ·unfold qop at hn;rw [if_pos hh] at hn;cases hn
      ·rw [hn] at e;cases e;exact q86 hh
     refine cT rfl (qpb c rfl λw11 hB11=>?_);rw [hn];have h11:=h10.ext hB11;have c11:=c10.trans (Chg.of_ext (S:=λk=>k=g) hB11) λi _ hi=>hi;refine qnr v λn ok hnn h1 h0=>jG (h11.st (j:=j) hj.1 (v:=(n:Int)) (by unfold qxc;rw [if_neg hj.2]) λw13 hk13 hc13 hs13=>?_);have hc:=c11.trans hc13 λi _ hi=>hi;cases ok with
     | true=>exact hyes hk13 hc (by rw [hone];dsimp only;rw [h1 rfl];rfl)
     | false=>exact hno hk13 hc (by rw [hone];dsimp only;rw [h0 rfl];rfl)
end
theorem Zi:∀(s:List UInt8),(indexByte s 44=-1/\zQ s=[s]/\countByte s 44=0)\/∃(x r:List UInt8),s=x++44::r/\indexByte s 44=x.length/\zQ s=x::zQ r/\countByte s 44=countByte r 44+1
 | []=>.inl ⟨rfl,rfl,rfl⟩
 | b::s=>by
  by_cases hb:b=44
  ·subst hb;refine .inr ⟨[],s,rfl,by simp [indexByte],by simp [zQ],by simp [countByte]⟩
  ·rcases Zi s with ⟨h1,h2,h3⟩ | ⟨x,r,h0,h1,h2,h3⟩
   ·refine .inl ⟨by simp [indexByte,hb,h1],by rw [zQ,if_neg hb,h2],?_⟩;unfold countByte at h3 ⊢;rw [List.count_cons_of_ne hb];exact h3
   ·refine .inr ⟨b::x,r,by rw [h0];rfl,?_,by rw [zQ,if_neg hb,h2],?_⟩
    ·have:¬(x.length:Int)=-1:=by omega
     simp [indexByte,hb,h1,this]
    ·unfold countByte at h3 ⊢;rw [List.count_cons_of_ne hb];exact h3
theorem quh (s:List UInt8):(zQ s).length=countByte s 44+1:=by
 have:∀n (s:List UInt8),s.length=n->(zQ s).length=countByte s 44+1:=by
  intro n
  induction n using Nat.strongRecOn with
  | _ n ih =>
   intro s hs;rcases Zi s with ⟨h1,h2,h3⟩ | ⟨x,r,h0,h1,h2,h3⟩
   ·rw [h2,h3];rfl
   ·rw [h2,h3,length_cons,ih r.length (by rw [<-hs,h0];simp;omega) r rfl]
 exact this _ s rfl
section
variable {w:World}
theorem zac (s:List UInt8) (c:UInt8) {K:Int->Ub} (hK:K (indexByte s c) w):qhc (qS s) (qS [c]) w K:=by
 refine Calls.mono (Tryz.strings_Index_one (qS s) c w) ?_;rintro e w' ⟨rfl,rfl⟩;exact ⟨_,rfl,hK⟩
theorem za6 (s:List UInt8) (c:UInt8) {K:Int->Ub} (hK:K (countByte s c) w):qg7 (qS s) (qS [c]) w K:=by
 refine Calls.mono (Tryz.strings_Count_one (qS s) c w) ?_;rintro e w' ⟨rfl,rfl⟩;exact ⟨_,rfl,hK⟩
theorem q4p (s:List UInt8) (hl:s.length<=1000000) {K:Slc->Ub} (hK:∀q w',Rd xS w' q ((zQ s).map qS)->Uc w w'->(∀k,q.blk=some k->w.heap.size<=k)->K q w'):Vk (qS s) (qS [44]) w K:=by
 refine qmm _ _ ?_;refine qhz _ _ _ _ ?_;refine cF (by decide) (cF (by rw [vz];simp [ByteArray.toList_eq]) ?_);refine jpO λJ1 hJ1=>?_;refine cT (by decide) (za6 s 44 (hJ1 _ _ ?_));dsimp only;have hn:=quh s;have hcle:countByte s 44<=s.length:=List.count_le_length;obtain ⟨n,hnn⟩:∃n,countByte s 44+1=n:=⟨_,rfl⟩;rw [i64_in (x:=((countByte s 44:Nat):Int)+1) (by omega),qD,i64_in (x:=((s.length:Nat):Int)+1) (by omega),show ((countByte s 44:Nat):Int)+1=(n:Int) by omega];have emin:(if ((s.length:Nat):Int)+1<(n:Int) then ((s.length:Nat):Int)+1 else (n:Int))=(n:Int):=if_neg (by omega);rw [emin];refine qz5 (E:=xS) qgn (x0:=ByteArray.empty) (by kernel_rfl) (n:=n) rfl rfl (by rw [qn1];omega) (by unfold maxLen;omega) λw3 ho hB3=>?_;rw [i64_in (x:=(n:Int)-1) (by omega)];generalize hq:(⟨some ⟨w.heap.size,0,none⟩,n,n⟩:Slc)=q at ho ⊢;refine jpO λJ2 hJ2=>?_;have hqa:q.a=some ⟨w.heap.size,0,none⟩:=by rw [<-hq]
 have hqn:q.n=n:=by rw [<-hq]
 have hqc:q.c=n:=by rw [<-hq]
 refine lpR (λ(st:ByteArray×Int×Unit) w6=>∃(k:Nat) (rest:List UInt8),st.2.1=k/\st.1=qS rest/\k<n/\countByte rest 44+1+k=n/\rest.length<=s.length/\Go.Vc.Own xS w6 w.heap.size q (((zQ s).map qS).take k++List.replicate (n-k) ByteArray.empty)/\(zQ s).drop k=zQ rest/\Uc w w6)
  (λst=>n-st.2.1.toNat) ⟨0,s,rfl,rfl,by omega,by omega,le_refl _,by simpa using ho,rfl,hB3⟩ ?_
 rintro ⟨t,i,u⟩ w6 ⟨k,rest,hi,ht,hk,hcnt,hrl,ho6,hdrop,hB6⟩ I hI;dsimp only at hi ht ⊢;subst hi ht;have hsome:=ho6.rd.some_ (by simp;omega);have hlen6:(((zQ s).map qS).take k++List.replicate (n-k) ByteArray.empty).length=n:=by simp;omega
 have hset:∀(x:List UInt8) (r:List (List UInt8)),(zQ s).drop k=x::r->(((zQ s).map qS).take k++List.replicate (n-k) ByteArray.empty).set k (qS x)=((zQ s).map qS).take (k+1)++List.replicate (n-(k+1)) ByteArray.empty:=by
  intro x r hx;have hl2:(((zQ s).map qS).take k).length=k:=by simp;omega
  rw [List.set_append_right _ _ (by omega),hl2,Nat.sub_self,show n-k=(n-(k+1))+1 by omega,List.replicate_succ,List.set_cons_zero,List.take_add_one,List.append_assoc];congr 1;have:((zQ s).map qS)[k]?=some (qS x):=by
   rw [List.getElem?_map];have:(zQ s)[k]?=some x:=by
    have:=congrArg (λl=>l[0]?) hx;simpa using this
   rw [this];rfl
  rw [this];rfl
 have hixx:(((zQ s).map qS).take k++List.replicate (n-k) ByteArray.empty)[k]?=some ByteArray.empty:=by
  have hl2:(((zQ s).map qS).take k).length=k:=by simp;omega
  rw [List.getElem?_append_right (by omega),hl2,Nat.sub_self,List.getElem?_replicate,if_pos (by omega)]
 by_cases hlt:k+1<n
 ·refine cT (by simp;omega) (zac rest 44 ?_);rcases Zi rest with ⟨h1,h2,h3⟩ | ⟨x,r,h0,h1,h2,h3⟩
  ·omega
  ·have hxl:x.length+1+r.length=rest.length:=by rw [h0];simp;omega
   rw [h1];refine cF (by simp) ?_;rw [i64_in (by omega)];refine qtb (l:=0) (h:=x.length) (.inl ⟨rfl,rfl⟩) (.inr (by simp)) (by omega) (by rw [h0];simp) ?_;have ex:(rest.take x.length).drop 0=x:=by rw [h0];simp
   rw [ex];refine qze (by rw [hqa];rfl) (by omega) (by omega) ?_;rw [Int.toNat_natCast];refine ho6.st0 (E:=xS) (i:=k) (x:=ByteArray.empty) (y:=qS x) hixx rfl λw8 ho8 hg8 hs8=>?_;rw [hset x (zQ r) (by rw [hdrop,h2])] at ho8;refine qtb (l:=x.length+1) (h:=rest.length) (.inr ?_) (.inl ⟨rfl,rfl⟩) (by rw [h0];simp) (le_refl _) ?_
   ·rw [qD,show (([44]:List UInt8).length:Int)=1 from rfl,i64_in (by omega)];simp
   have er:(rest.take rest.length).drop (x.length+1)=r:=by rw [List.take_length,h0];simp
   rw [er,i64_in (by omega)];have hrlen:r.length<rest.length:=by rw [h0];simp;omega
   have hqb:q.blk=some w.heap.size:=by unfold Slc.blk;rw [hqa];rfl
   refine hI _ _ ⟨k+1,r,by simp,rfl,hlt,by omega,by omega,ho8,?_,hB6.grown hg8 hB6.size λj hj=>by rw [hqb] at hj;cases hj;exact le_refl _⟩ (by simp;omega);have:(zQ s).drop (k+1)=((zQ s).drop k).drop 1:=by rw [List.drop_drop]
   rw [this,hdrop,h2];rfl
 ·obtain rfl:n=k+1:=by omega
  refine cF (by simp) (hJ2 _ _ ?_);dsimp only;have hlast:zQ rest=[rest]:=by
   rcases Zi rest with ⟨h1,h2,h3⟩ | ⟨x,r,h0,h1,h2,h3⟩
   ·exact h2
   ·omega
  refine qze (by rw [hqa];rfl) (by omega) (by omega) ?_;rw [Int.toNat_natCast];refine ho6.st0 (E:=xS) (i:=k) (x:=ByteArray.empty) (y:=qS rest) hixx rfl λw8 ho8 hg8 hs8=>?_;rw [hset rest [] (by rw [hdrop,hlast]),Nat.sub_self,List.replicate_zero,List.append_nil,List.take_of_length_le (by simp;omega)] at ho8;rw [i64_in (by omega)];have hqb:q.blk=some w.heap.size:=by unfold Slc.blk;rw [hqa];rfl
  have hl8:((zQ s).map qS).length=k+1:=by simp;omega
  refine ho8.rd.slK (E:=xS) (k:=1) (l:=0) (m:=k+1) rfl (.inl ⟨rfl,rfl⟩) (.inr (by simp)) (by omega) (by omega) λhrd=>?_;rw [List.take_of_length_le (by omega),List.drop_zero] at hrd;refine hK _ w8 hrd (hB6.grown hg8 hB6.size λj hj=>by rw [hqb] at hj;cases hj;exact le_refl _) λj hj=>?_;obtain ⟨a,ha,rfl⟩:=slk.1 hj;obtain ⟨b,hb,e⟩:=Go.Vc.cut_block ha;rw [hqa] at hb;cases hb;rw [e];exact le_refl _
end
theorem q36:Ys.length=22:=rfl
section
variable {w:World}
theorem q2n {K:qb->Ub} (hK:∀w',Uc w w'->K (ofL Qy) w'):qgi w K:=by
 refine qsd ?_;unfold qlt;refine nwb λw1 hb1 hB1 hs1=>?_;refine qw hb1 (by decide) λw2 hb2 hg2 hs2=>?_;have hb2:Blk w2 w.heap.size qM (qb.rep.cells (ofL Qy)):=hb2;refine qx (x:=ofL Qy) hb2.cells (hK w2 (hB1.grown hg2 (by omega) λk hk=>by cases hk;exact le_refl _))
theorem q6z {b:Slc} {bs:List UInt8} (hrd:Rd qm w b bs) {K:qb->Int->Ub} (hK:∀w',Uc w w'->K (ofL (y4 bs).1) (y4 bs).2 w'):qeu b w K:=by
 refine qsq _ ?_;have hn:=hrd.n;refine nwb λw1 hb1 hB1 hs1=>?_;have hb1:Blk w1 w.heap.size qM (qcz Ys):=hb1;refine q2n λw2 hB2=>?_;have hb2:=hb1.ext hB2;have s2:=hB2.size;refine ko (t:=qM) (vs:=qb.rep.cells (ofL Qy)) rfl λw4 hb4 hB4 hs4=>?_;have hz4:KM w4 w.heap.size Ys:=⟨hb2.ext hB4,rfl⟩;have hk4:KM w4 w2.heap.size Qy:=⟨hb4,rfl⟩;have hB14:Uc w w4:=(hB1.trans (hB2.mono (by omega))).trans (hB4.mono (by omega));have hend:∀{w5:World} {L:List Int} {vs:List Value} {e:Int},L.length=22->vs=qcz L->y4 bs=(L,e)->KM w5 w.heap.size Ys->Uc w w5 ->
   stK ⟨w.heap.size,0,none⟩ vs w5 λw6=>ldS qb.rep ⟨w.heap.size,0,none⟩ w6 λr=>K r e w6:=by
  intro w5 L vs e hl hvs hp hz hB5;subst hvs;refine qw hz.blk (by rw [vN,vN,hl,hz.len];omega) λw6 hb6 hg6 hs6=>?_;have e6:putL (qcz Ys) 0 (qcz L)=qb.rep.cells (ofL L):=by
   rw [qp8 hl];refine List.ext_getElem? λm=>?_;rw [Kg _ _ 0 m (by rw [vN,vN,hl,q36];omega)];by_cases hm:m<22
   ·rw [if_pos (by rw [vN,hl];omega)];rfl
   ·rw [if_neg (by rw [vN,hl];omega),List.getElem?_eq_none (by rw [vN,q36];omega),List.getElem?_eq_none (by rw [vN,hl];omega)]
  rw [e6] at hb6;refine qx (x:=ofL L) hb6.cells ?_;have:=hK w6 (hB5.grown hg6 hB5.size λk hk=>by cases hk;exact le_refl _);rw [hp] at this;exact this
 refine cO (λh=>?_) λh=>?_
 ·have h:(512:Int)<b.n:=oTq h;exact hend (L:=Ys) rfl rfl (by unfold y4;rw [if_pos (by omega)]) hz4 hB14
 have h:¬(512:Int)<b.n:=oFq h;refine cO (λh0=>?_) λh0=>?_
 ·have h0:(b.n:Int)=0:=by simpa using h0
  have hnil:bs=[]:=List.eq_nil_of_length_eq_zero (by omega);refine qx (x:=ofL Qy) (hb4.cells) ?_;exact hend (L:=Qy) rfl rfl (by unfold y4;rw [if_neg (by omega),if_pos hnil]) hz4 hB14
 have h0:¬(b.n:Int)=0:=by simpa using h0
 have hne:bs≠[]:=λe=>by subst e;simp at hn;omega
 have hrd4:=hrd.ext hB14;refine yK hrd4 (q4p bs (by omega) λq w8 hq hB8 hqb=>?_);have s4:=hB14.size;have hz8:=hz4.ext hB8;have hk8:=hk4.ext hB8;have hqn:=hq.n;rw [length_map] at hqn;have hfold:y4 bs=match (zQ bs).foldlM qlg Qy with | some k=>(k,0) | none=>(Ys,3):=by unfold y4;rw [if_neg (by omega),if_neg hne];all_goals (cases List.foldlM qlg Qy (zQ bs)<;>rfl)
 have hlen:(zQ bs).length<=1000:=by
  rw [quh];have:countByte bs 44<=bs.length:=List.count_le_length;omega
 refine lpR (λ(s:Int×Unit) w9=>∃(k:Nat) (L:List Int),s.1=k/\k<=(zQ bs).length/\KM w9 w2.heap.size L/\KM w9 w.heap.size Ys/\Rd xS w9 q ((zQ bs).map qS)/\Uc w w9/\(zQ bs).foldlM qlg Qy=((zQ bs).drop k).foldlM qlg L)
  (λs=>(zQ bs).length-s.1.toNat) ⟨0,Qy,rfl,Nat.zero_le _,hk8,hz8,hq,hB14.trans (hB8.mono (by omega)),rfl⟩ ?_
 rintro ⟨i,u⟩ w9 ⟨k,L,hi,hk,hk9,hz9,hq9,hB9,hf⟩ I hI;dsimp only at hi ⊢;subst hi;by_cases hlt:k<(zQ bs).length
 ·refine cT (by simp;omega) ?_;refine hq9.ix (k:=1) rfl (by omega) (by simp;omega) λhcell=>?_;obtain ⟨x,hx,hx'⟩:=Go.Vc.get_of (xs:=(zQ bs).map qS) (k:=k) (by simpa using hlt);rw [hx' _] at hcell;have hxe:x=qS (zQ bs)[k]:=by
   rw [List.getElem?_map,List.getElem?_eq_getElem hlt] at hx;exact (Option.some.inj hx).symm
  refine qn3 (x:=x) (by simpa using hcell 0 _ rfl) ?_;rw [hxe];rw [List.drop_eq_getElem_cons hlt,List.foldlM_cons] at hf;refine zb9 hk9 _ λok w10 L' hk10 hc10 h1 h0=>?_;have hne1:w.heap.size≠w2.heap.size:=by omega
  have hz10:KM w10 w.heap.size Ys:=⟨hz9.blk.chg hc10 hne1,rfl⟩;have hB10:Uc w w10:=hB9.trans (hc10.below hB9.size λi hi e=>by omega);cases ok with
  | false =>
   refine cT rfl (hend (L:=Ys) rfl rfl ?_ hz10 hB10);rw [hfold,hf,h0 rfl];rfl
  | true =>
   refine cF rfl ?_;rw [i64_in (by omega)];refine hI _ _ ⟨k+1,L',by simp,by omega,hk10,hz10,hq9.chg hc10 λa ha e=>?_,hB10,?_⟩ (by simp;omega)
   ·have:=hqb a.block (slk.2 ⟨a,ha,rfl⟩);have s4':=hB4.size;omega
   ·rw [hf,h1 rfl];rfl
 ·refine cF (by simp;omega) ?_;rw [List.drop_of_length_le (by omega)] at hf;have hc9:=hk9.blk.cells;rw [<-qp8 hk9.len] at hc9;refine qx (x:=ofL L) hc9 ?_;rw [qp8 hk9.len];exact hend (L:=L) hk9.len rfl (by rw [hfold,hf];rfl) hz9 hB9
end
theorem qyi (m:Nat):∀(l:List (List UInt8)),(∀x∈l,x.length<=m)->(qeb l).length<=l.length*(m+1)
 | [],_=>by simp [q8z]
 | [x],h=>by
  have:=h x (by simp);rw [za4];simp;omega
 | x::y::l,h=>by
  have h1:=h x (by simp);have h2:=qyi m (y::l) λz hz=>h z (by simp [hz]);have e:(x::y::l).length*(m+1)=(y::l).length*(m+1)+(m+1):=by rw [length_cons,Nat.succ_mul]
  rw [e,q4c x (y::l) (by simp),length_append,length_cons];omega
section
variable {w:World}
theorem zad {base:Nat} {q:Slc} {l:List (List UInt8)} (hq:Go.Vc.Own xS w base q (l.map qS)) (hn:l.length<=100000) (hl:(qeb l).length<=1000000) {K:ByteArray->Ub} (hK:∀w',Uc w w'->K (qS (qeb l)) w'):qjq q (qS [44]) w K:=by
 have hlen:(l.map qS).map (·.data.toList)=l:=by
  rw [List.map_map]
  conv=>rhs;rw [<-List.map_id l]
  exact List.map_congr_left λx _=>rfl
 rcases hq.form with ⟨rfl,hz⟩ | ⟨g,cur,hs,hg,hb,h1,h2,h3,h4⟩
 ·have hnil:l=[]:=by simpa using hz
  subst hnil;refine Calls.mono (Tryz.strings_Join_none none 0 (qS [44]) w) ?_;rintro e w' ⟨rfl,rfl⟩;exact ⟨_,rfl,hK w' (Below.refl _ _)⟩
 ·have hc:Calls PG 327 #[.slice (some ⟨g,0,none⟩) (l.map qS).length q.c,.string (qS [44])] w λe w'=>e=.returned (.string ⟨(Lib.join ((l.map qS).map (·.data.toList)) [44]).toArray⟩)/\Uc w w' :=
   Tryz.strings_Join g 0 q.c (l.map qS) (qS [44]) w (λj x hx=>by
    have:=hq.rd.at_ j x hx 0 (.string x) rfl;rw [hs] at this;simpa [Slc.at_,q4,show xS.k=1 from rfl] using this) hb.lt (by simp;omega) (by omega) (by rw [hlen];show (qeb l).length<=_;omega)
  rw [hs];refine Calls.mono hc ?_;rintro e w' ⟨rfl,hB⟩;rw [hlen];exact ⟨_,rfl,hK w' hB⟩
theorem zd0 {base:Nat} {s:Slc} {l:List (List UInt8)} {x:List UInt8} {K:Slc->Ub} (hown:Go.Vc.Own xS w base s (l.map qS)) (hb:base<=w.heap.size) (hl:l.length<=1000)
  (hK:∀r w',Go.Vc.Own xS w' base r ((l++[x]).map qS)->Chg (λk=>s.blk=some k) w w'->(∀k,r.blk=some k->s.blk=some k\/w.heap.size<=k)->K r w') :
  nw zo [(.string (qS x))] w λa w1=>apK PG #[kE,kE] kE s ⟨some a,1,1⟩ w1 λr w2=>K r w2:=by
 refine YZ (E:=xS) (y:=qS x) qgn hown rfl hb (by rw [qn1,length_map];omega) (by rw [length_map];unfold maxLen;omega) λr w' ho hc hr=>hK r w' ?_ hc hr;rw [List.map_append];exact ho
end
section
variable {w:World}
theorem q2k {vs:List Value} {n:Nat} {bs:List UInt8} {K:Slc->Ub} (hv:vs=bs.map λb=>Value.int .u8 (b.toNat:Int)) (hn:n=bs.length) (hl:bs.length<=1000000)
  (hK:∀s w',Rd qm w' s bs->s.blk=some w.heap.size->Uc w w'->w'.heap.size=w.heap.size+1->s.a=some ⟨w.heap.size,0,none⟩->K s w') :
  nw qN vs w λt w1=>jv PG (convert qg qg (.slice (some t) n n)) Kind.slice w1 K:=by
 subst hn hv;refine ⟨⟨some ⟨w.heap.size,0,none⟩,bs.length,bs.length⟩,_,Lib.run_convert_bytes_const w qg qN _ _ _ (by kernel_rfl) (by kernel_rfl),hK _ _ ⟨rfl,le_refl _,by show bs.length<=maxLen;simp only [maxLen];omega,λ_=>rfl,λi x hx j v hj=>?_⟩ rfl ((Below.refl _ w).alloc (le_refl _) _) (by simp) rfl⟩;have hj0:j=0:=by
  have:=(List.getElem?_eq_some_iff.1 hj).1;simp [qm] at this;exact this
 subst hj0;have hv:v=.int .u8 (x.toNat:Int):=by
  simp [qm] at hj;exact hj.symm
 subst hv;have hi:i<bs.length:=(List.getElem?_eq_some_iff.1 hx).1;show World.cell? _ (((⟨w.heap.size,0,none⟩:Addr).add (i*1)).add 0)=_;rw [add_zero,q4,mul_one,zero_add];have hnew:∀o:Obj,(w.alloc o).heap[w.heap.size]?=some o:=λo=>by
  show (w.heap.push o)[w.heap.size]?=_;simp
 unfold World.cell?;dsimp only;rw [hnew];show (bs.map λb=>Value.int .u8 (b.toNat:Int)).toArray[i]?=_;rw [List.getElem?_toArray,List.getElem?_map,hx];rfl
theorem q2m:∀(x:List UInt8) (c:UInt8) (r:List UInt8),(∀b∈x,b≠c)->indexByte (x++c::r) c=x.length
 | [],c,r,_=>by simp [indexByte]
 | b::x,c,r,h=>by
  have h1:=q2m x c r λb hb=>h b (by simp [hb]);have h2:b≠c:=h b (by simp);have h3:¬(x.length:Int)=-1:=by omega
  simp [indexByte,h2,h1,h3]
theorem q4e {s:Slc} {bs:List UInt8} (hs:Rd qm w s bs) (ha:s.a.isSome=true) (hl:bs.length<=1000000) {K:Slc->Ub} (hK:∀q w',Go.Vc.Own qm w' w.heap.size q bs->Uc w w'->K q w'):QI s w K:=by
 refine qdu _ ?_;refine cF (by cases h:s.a with | none=>rw [h] at ha;cases ha | some a=>rfl) ?_;refine nwb λw1 hb1 hB1 hs1=>?_;refine jx (E:=qm) zc (Yp hb1 (le_refl _)) (hs.ext hB1) (by omega) (by rw [xL];simp;omega) (by simp;unfold maxLen;omega) λq w2 ho hg hr=>hK q w2 ho (hB1.grown hg (by omega) λk hk=>by cases hk;exact le_refl _)
theorem q1h {L:List Int} {wd:List UInt8}:qs4 L wd=((decide (L[8]?.getD 0=0) && decide (L[9]?.getD 0=0)) || (decide (L[4]?.getD 0=1) && decide (wd=[79,75])) || decide ((2:Int)<=L[4]?.getD 0) || decide (L[8]?.getD 0<0) || decide (L[9]?.getD 0<0) || decide (L[10]?.getD 0<0)):=rfl
theorem zfm (wd:List UInt8):((qS wd).toList==(⟨#[79,75]⟩:ByteArray).toList)=decide (wd=[79,75]):=by
 rw [vz,show (⟨#[79,75]⟩:ByteArray)=qS [79,75] from rfl,vz];by_cases h:wd=[79,75]
 ·rw [h];rfl
 ·rw [dFq h];simpa using h
theorem qdc (c:UInt8) {n:Int} (h0:-9223372036854775808<=n) (h1:n<=9223372036854775807):(xA c n).length<=1/\∀x∈xA c n,x.length<=22:=by
 have:=qo8 h0 h1;unfold xA;split
 ·simp
 ·refine ⟨by simp,λx hx=>?_⟩;rw [List.mem_singleton] at hx;subst hx;simp;omega
def VX (L:List Int):Prop:=∀i:Nat,-9223372036854775808<=L[i]?.getD 0/\L[i]?.getD 0<=9223372036854775807
theorem qyd {L:List Int} (hw:VX L):(YX L).length<=3/\(qeb (YX L)).length<=100:=by
 have a:=qdc 105 (hw 8).1 (hw 8).2;have b:=qdc 73 (hw 9).1 (hw 9).2;have c:=qdc 112 (hw 10).1 (hw 10).2;have h3:(YX L).length<=3:=by unfold YX;rw [length_append,length_append];omega
 have:=qyi 22 (YX L) λx hx=>by
  unfold YX at hx;rcases List.mem_append.1 hx with hx | hx
  ·rcases List.mem_append.1 hx with hx | hx
   ·exact a.2 x hx
   ·exact b.2 x hx
  ·exact c.2 x hx
 exact ⟨h3,by omega⟩
theorem q48 {k:qb} (hT:Tab w) (hw:VX (toL k)) (wd:List UInt8) (hwl:wd.length<=100000) {K:Slc->Ub} (hK:∀q w',Rd qm w' q (qne (toL k) wd)->Uc w w'->(∀j,q.blk=some j->w.heap.size<=j)->K q w'):qfl k (qS wd) w K:=by
 refine qsh _ _ ?_;refine nwb λw1 hb1 hB1 hs1=>?_;obtain ⟨L,hL⟩:∃L,toL k=L:=⟨_,rfl⟩;rw [hL] at hw hK;have h4:L[4]?.getD 0=k.Quiet:=by rw [<-hL];rfl
 have h8:L[8]?.getD 0=k.Id:=by rw [<-hL];rfl
 have h9:L[9]?.getD 0=k.Number:=by rw [<-hL];rfl
 have h10:L[10]?.getD 0=k.Place:=by rw [<-hL];rfl
 have ld:∀{w2:World},Blk w2 w.heap.size qM (qb.rep.cells k)->w2.cell? ((⟨w.heap.size,0,none⟩:Addr).add 4)=some (Ua k.Quiet)/\w2.cell? ((⟨w.heap.size,0,none⟩:Addr).add 8)=some (Ua k.Id)/\w2.cell? ((⟨w.heap.size,0,none⟩:Addr).add 9)=some (Ua k.Number)/\w2.cell? ((⟨w.heap.size,0,none⟩:Addr).add 10)=some (Ua k.Place) :=
  λhb=>⟨hb.cells 4 _ rfl,hb.cells 8 _ rfl,hb.cells 9 _ rfl,hb.cells 10 _ rfl⟩
 obtain ⟨l4,l8,l9,l10⟩:=ld hb1;have hno:qs4 L wd=true->K ⟨none,0,0⟩ w1:=λh=>hK _ w1 (by unfold qne;rw [if_pos h];exact Rd.nil _ _) hB1 (λj hj=>by cases hj);rw [q1h,h4,h8,h9,h10] at hno;refine lI l4 ?_;refine jpO λJ1 hJ1=>jpO λJ3 hJ3=>jpO λJ4 hJ4=>?_;have hmain:qs4 L wd=false->J1 () w1:=by
  intro hn;refine hJ1 _ _ ?_;refine lI l8 (lI l9 (lI l10 ?_));refine nwb λw3 hb3 hB3 hs3=>?_;have hB13:=hB1.trans (hB3.mono (by omega));have rI:∀i:Nat,i<=3->List (List UInt8):=λi _=>([xA 105 k.Id,xA 73 k.Number,xA 112 k.Place].take i).flatten;have hrI:YX L=([xA 105 k.Id,xA 73 k.Number,xA 112 k.Place].take 3).flatten:=by unfold YX;rw [h8,h9,h10];simp
  have hw8:=hw 8;have hw9:=hw 9;have hw10:=hw 10;rw [h8] at hw8;rw [h9] at hw9;rw [h10] at hw10;refine lpR (λ(s:Slc×Int×Unit) w4=>∃i:Nat,s.2.1=i/\i<=3/\Blk w4 w1.heap.size jj [(.string (qS [105,61])),(Ua k.Id),(.string (qS [73,61])),(Ua k.Number),(.string (qS [112,61])),(Ua k.Place)]/\Uc w w4/\w3.heap.size<=w4.heap.size/\Go.Vc.Own xS w4 w3.heap.size s.1 ((([xA 105 k.Id,xA 73 k.Number,xA 112 k.Place].take i).flatten).map qS))
   (λs=>3-s.2.1.toNat) ⟨0,rfl,by omega,hb3,hB13,le_refl _,Go.Vc.Own.nil _ _ _⟩ ?_
  rintro ⟨q,i,u⟩ w4 ⟨m,hi,hm,hb4,hB4,hs4,ho4⟩ I hI;dsimp only at hi ho4 ⊢;subst hi;by_cases hlt:m<3
  ·refine cT (by simp;omega) ⟨⟨by omega,by omega⟩,?_⟩;obtain ⟨c,n,hcn,hnw,hcells⟩:∃(c:UInt8) (n:Int),[xA 105 k.Id,xA 73 k.Number,xA 112 k.Place][m]?=some (xA c n)/\(-9223372036854775808<=n/\n<=9223372036854775807) /\
     qy w4 ((⟨w1.heap.size,0,none⟩:Addr).add (((m:Int)).toNat*2)) (zg.rep.cells ⟨qS [c,61],n⟩):=by
    have:m=0\/m=1\/m=2:=by omega
    rcases this with rfl | rfl | rfl
    ·exact ⟨105,k.Id,rfl,hw8,hb4.sub 0 _ rfl⟩
    ·exact ⟨73,k.Number,rfl,hw9,hb4.sub 2 _ rfl⟩
    ·exact ⟨112,k.Place,rfl,hw10,hb4.sub 4 _ rfl⟩
   have htk:(([xA 105 k.Id,xA 73 k.Number,xA 112 k.Place].take (m+1)).flatten)=(([xA 105 k.Id,xA 73 k.Number,xA 112 k.Place].take m).flatten)++xA c n:=by
    rw [List.take_add_one,hcn,List.flatten_append];simp
   refine qx (x:=(⟨qS [c,61],n⟩:zg)) hcells ?_;refine ko (t:=jj) (vs:=zg.rep.cells ⟨qS [c,61],n⟩) rfl λw6 hb6 hB6 hs6=>?_;refine lI (x:=n) (hb6.cells 1 _ rfl) ?_;have ho6:=ho4.ext hB6;have hb46:=hb4.ext hB6;have hB46:=hB4.trans (hB6.mono hB4.size);have e4:=hB4.size;rw [i64_in (by omega)];refine cO (λhne=>?_) λhe=>?_
   ·have hne:n≠0:=by simpa using hne
    have hit:xA c n=[c::61::Lib.itoa n]:=by unfold xA;rw [if_neg hne]
    have hb6d:Blk w6.drew w4.heap.size jj (zg.rep.cells ⟨qS [c,61],n⟩):=hb6.drew;refine qn3 (x:=qS [c,61]) (hb6d.cells 0 _ rfl) (lI (x:=n) (hb6d.cells 1 _ rfl) ?_);refine qqn (hT.ext hB46.drew) hnw.1 hnw.2 λw7 hB7=>?_;have hil:=qo8 hnw.1 hnw.2;refine ⟨(hb6d.ext hB7).cells 0 _ rfl,by rw [qD,qD];simp;omega,?_⟩;rw [jh];show nw zo [(.string (qS (c::61::Lib.itoa n)))] w7 _;have e7:w6.heap.size<=w7.heap.size:=hB7.size;have ho7:Go.Vc.Own xS w7 w3.heap.size q _:=ho6.drew.ext hB7;have hb47:=hb46.drew.ext hB7;have hlen:(([xA 105 k.Id,xA 73 k.Number,xA 112 k.Place].take m).flatten).length<=1000:=by
     have a:=(qdc 105 hw8.1 hw8.2).1;have b:=(qdc 73 hw9.1 hw9.2).1;have:m=0\/m=1\/m=2:=by omega
     rcases this with rfl | rfl | rfl<;>simp<;>omega
    refine zd0 ho7 (by omega) hlen λr w9 ho9 hc9 hr9=>?_;have hne1:∀j,q.blk=some j->w3.heap.size<=j:=λj hj=>(ho7.lt j hj).1;refine hI _ _ ⟨m+1,by simp,by omega,hb47.chg hc9 λe=>?_,(hB46.drew.trans (hB7.mono (by show _<=w6.heap.size;omega))).trans (hc9.below (by omega) λi hi e=>?_),by have:=hc9.size;omega,?_⟩ (by simp;omega)
    ·have:=hne1 _ e;omega
    ·have:=hne1 _ e;omega
    ·dsimp only;rw [htk,hit];exact ho9
   ·have he:n=0:=by simpa using he
    have hit:xA c n=[]:=by unfold xA;rw [if_pos he]
    refine hI _ _ ⟨m+1,by simp,by omega,hb46,hB46,by omega,?_⟩ (by simp;omega);dsimp only;rw [htk,hit,List.append_nil];exact ho6
  ·refine cF (by simp;omega) ?_;obtain rfl:m=3:=by omega
   rw [<-hrI] at ho4;obtain ⟨hl1,hl2⟩:=qyd hw;refine zad (l:=YX L) ho4 (by omega) (by omega) λw10 hB10=>?_;have e1:(⟨#[27,95,71]⟩:ByteArray)=qS [27,95,71]:=rfl;have e2:(⟨#[59]⟩:ByteArray)=qS [59]:=rfl;have e3:(⟨#[27,92]⟩:ByteArray)=qS [27,92]:=rfl;rw [e1,e2,e3];simp only [jh,qD,length_append,length_cons,List.length_nil];refine ⟨by omega,by omega,by omega,by omega,?_⟩;have hrep:qne L wd=[27,95,71]++qeb (YX L)++[59]++wd++[27,92]:=by unfold qne;rw [if_neg (by rw [hn];simp)]
   rw [<-hrep];refine qf3 (by rw [hrep];simp;omega) λr w11 hr11 hrb hB11 _=>?_;have e4:=hB4.size;have e10:=hB10.size;exact hK r w11 hr11 ((hB4.trans (hB10.mono (by omega))).trans (hB11.mono (by omega))) (λj hj=>by have:=hrb j hj;omega)
 rw [q1h,h4,h8,h9,h10] at hmain;have hJ4':¬(k.Id=0/\k.Number=0)->¬k.Id<0->¬k.Number<0->¬k.Place<0->J4 () w1:=by
  intro hid a b c;refine hJ4 _ _ ?_;have hid':(decide (k.Id=0) && decide (k.Number=0))=false:=by
   cases h:(decide (k.Id=0) && decide (k.Number=0)) with
   | false=>rfl
   | true=>exact absurd (by simpa using h) hid
  rw [hid',dFq a,dFq b,dFq c] at hno hmain;simp only [Bool.false_or,Bool.or_false] at hno hmain;refine cO (λhq=>?_) λhq=>?_
  ·have hq:k.Quiet=1:=by simpa using hq
   rw [hq] at hno hmain ⊢;rw [zfm];by_cases hwd:wd=[79,75]
   ·rw [dTq hwd] at *;exact cF rfl (hJ3 _ _ (cT (by decide) (hno (by decide))))
   ·rw [dFq hwd] at *;exact cT rfl (hJ3 _ _ (cF (by decide) (hmain (by decide))))
  ·have hq:¬k.Quiet=1:=by simpa using hq
   rw [dFq hq,Bool.false_and,Bool.false_or] at hno hmain;refine hJ3 _ _ (cO (λh1=>hno ?_) λh1=>hmain ?_)
   ·have h1:k.Quiet>=1:=oTq h1;exact dTq (by omega)
   ·have h1:¬k.Quiet>=1:=oFq h1;exact dFq (by omega)
 have tail:¬(k.Id=0/\k.Number=0)->ldI .i64 ((⟨w.heap.size,0,none⟩:Addr).add 8) w1 λt22=>cond (decide (t22<(0:Int))) (K (⟨none,0,0⟩:Slc) w1) (ldI .i64 ((⟨w.heap.size,0,none⟩:Addr).add 9) w1 λt27=>cond (decide (t27<(0:Int))) (K (⟨none,0,0⟩:Slc) w1) (ldI .i64 ((⟨w.heap.size,0,none⟩:Addr).add 10) w1 λt32=>cond (decide (t32<(0:Int))) (K (⟨none,0,0⟩:Slc) w1) (J4 (()) w1))):=by
  intro hid;refine lI l8 (cO (λh=>hno ?_) λha=>?_)
  ·rw [h];simp
  refine lI l9 (cO (λh=>hno ?_) λhb=>?_)
  ·rw [h];simp
  refine lI l10 (cO (λh=>hno ?_) λhc=>?_)
  ·rw [h];simp
  exact hJ4' hid (oFq ha) (oFq hb) (oFq hc)
 refine lI l8 (cO (λh0=>?_) λh0=>?_)
 ·have h0:k.Id=0:=by simpa using h0
  refine lI l9 (cO (λh1=>hno ?_) λh1=>?_)
  ·have h1:k.Number=0:=by simpa using h1
   rw [h0,h1];simp
  ·have h1:¬k.Number=0:=by simpa using h1
   exact tail λhh=>h1 hh.2
 ·have h0:¬k.Id=0:=by simpa using h0
  exact tail λhh=>h0 hh.1
end
end Go.Proofs.YtokfefnmpjohpaaGreatDoor
namespace Go.Vc
def ziq (ls:List UInt8) (k:Nat):Nat:=if k=0 then 0 else ls.countP λx=>x.toNat==k
def zg7:List UInt8:=List.replicate 144 8++List.replicate 112 9++List.replicate 24 7++List.replicate 8 8
end Go.Vc
namespace Go.Proofs.YtokfefnmpjohpaaGreatDoor
open Go.Vc Go.RowKit
structure TF where
 g:Nat
 so:Slc
 co:Slc
 lo:Slc
set_option maxRecDepth 400000
def tp (o:Option TF):Option Addr:=o.map λf=>⟨f.g,0,none⟩
theorem qhh:(List.range 10).map (ziq zg7)=[0,0,0,0,0,0,0,24,152,112]:=by decide +kernel
section
variable {w:World} {base:Nat}
theorem quz (n:Nat):IntKind.u8.wrap (n:Int)=(((UInt8.ofNat n).toNat:Nat):Int):=by
 rw [zdi];show (((UInt8.ofNat ((n:Int)%256).toNat).toNat:Nat):Int)=_;rw [UInt8.toNat_ofNat',UInt8.toNat_ofNat'];omega
end
end Go.Proofs.YtokfefnmpjohpaaGreatDoor
namespace Go.Proofs.YtokfefnmpjohpaaGreatDoor
open Go.Vc
def zat (m:List UInt8) (k:Nat) (c:List UInt8):List UInt8:=m.take k++c++m.drop (k+4)
def q2q (k:List UInt8):List UInt8:=k.take 4++List.replicate (4-k.length) 0
end Go.Proofs.YtokfefnmpjohpaaGreatDoor
namespace Go.Proofs.YtokfefnmpjohpaaGreatDoor
open Go.Vc Go.RowKit
set_option maxRecDepth 400000
open IntKind (i64)
theorem zc5 {zs vs:List Value} (hl:vs.length=zs.length):putL zs 0 vs=vs:=by
 refine List.ext_getElem? λm=>?_;rw [Kg vs zs 0 m (by omega)];by_cases hm:m<vs.length
 ·rw [if_pos (by omega)];rfl
 ·rw [if_neg (by omega),List.getElem?_eq_none (by omega),List.getElem?_eq_none (by omega)]
theorem x5 {g:Nat} {t:TypeId} {vs us:List Value} {w:World} {K:Ub} (h:Blk w g t vs) (hl:us.length=vs.length) (hK:∀w',Blk w' g t us->Chg (λk=>k=g) w w'->w'.heap.size=w.heap.size->K w'):stK ⟨g,0,none⟩ us w K :=
 qw h (by omega) λw' hb hg hs=>hK w' (by rw [zc5 hl] at hb;exact hb) (Go.Vc.Chg.gg hg) hs
theorem zM {r:Rep} {g:Nat} {t:TypeId} {vs us:List Value} {x:r.T} {w:World} {K:r.T->Ub} (h:Blk w g t vs) (hus:r.cells x=us) (hl:us.length=vs.length) (hK:∀w',Chg (λk=>k=g) w w'->w'.heap.size=w.heap.size->K x w') :
  stK ⟨g,0,none⟩ us w λw'=>ldS r ⟨g,0,none⟩ w' λy=>K y w' :=
 x5 h hl λw' hb hc hs=>qx (x:=x) (by rw [hus];exact hb.cells) (hK w' hc hs)
theorem bdw (w:World):Uc w w.drew:=(Below.refl _ w).drew
theorem b1o {w w1 w2:World} {g:Nat} (h:Uc w w1) (hc:Chg (λk=>k=g) w1 w2) (hg:w.heap.size<=g):Uc w w2 :=
 h.trans (hc.below h.size λi hi e=>by omega)
theorem bT {w w1 w2:World} (h:Uc w w1) (h2:Uc w1 w2):Uc w w2:=h.trans (h2.mono h.size)
theorem q6m {w:World} {s:Slc} {xs:List UInt8} (h:Rd qm w s xs) {i:Nat} {x:UInt8} (hx:xs[i]?=some x):w.cell? (s.at_ 1 i)=some (.int .u8 (x.toNat:Int)):=by
 have:=h.at_ i x hx 0 _ rfl;have h2:w.cell? (s.at_ qm.k i)=some (.int .u8 (x.toNat:Int)):=by simpa using this
 exact h2
theorem zbm {a b:Int} (h:a≠b):(a==b)=false:=by simpa using h
theorem qu8 {a b:Int} (h:a≠b):(a !=b)=true:=by simpa using h
theorem w8 (y:UInt8):i64.wrap ((y.toNat:Nat):Int)=((y.toNat:Nat):Int):=qP (by have:=y.toNat_lt;omega)
end Go.Proofs.YtokfefnmpjohpaaGreatDoor
