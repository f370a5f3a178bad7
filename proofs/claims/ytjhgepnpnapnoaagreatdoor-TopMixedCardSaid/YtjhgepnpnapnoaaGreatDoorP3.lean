import Derived.Test.YtjhgepnpnapnoaaGreatDoorP2
import Derived.Test.YtjhgepnpnapnoaaGreatDoorP1
import Derived.Laws.Runes
import Derived.Test.YtjhgepnpnapnoaaGreatDoorShA
import Derived.Maps.RangeRun
import Derived.Lib.Bytealg
import Derived.Lib.ItoaNum
import Derived.Lib.Join
import Derived.Lib.SlBytesConst
set_option linter.unusedVariables false
open Go.IntKind (i64 u8)
namespace Go.Proofs.YtjhgepnpnapnoaaGreatDoor
open Go.Vc Go.RowKit
set_option maxRecDepth 400000
open Lib (itoa)
open _root_.List (length_append length_cons length_nil)
open _root_.Nat (le_refl le_trans)
theorem Xl.base {w:World} {base base' r most:Nat} {s:Slc} {old:List (List qZ)} (h:Xl w base r s most old) (hb:base'<=base):Xl w base' r s most old:=by
 obtain ⟨b,a,f,c,g,j,d,k,e,l,m⟩:=h;exact ⟨b,a,f,c,g,j.base hb,⟨d.1,λi s n o p=>(d.2 i s n o p).base hb⟩,by omega,e,l,m⟩
theorem GridM.base {w:World} {base base':Nat} {f:Foot} {S:GS} (h:GridM w base f S) (hb:base'<=base):GridM w base' f S:=by
 obtain ⟨b,c,a⟩:=h.row;exact ⟨h.blk,by have:=h.hg;omega,⟨b,c.base hb,⟨a.1,λi s d e g=>(a.2 i s d e g).base hb⟩⟩,h.ring.base hb,h.ne⟩
theorem zj1 {w:World} {g r:Nat} {B:List Bool} (h:StopsM w g r B) {k:Nat} {cs:List Value} (hb:Blk w k zL cs):k≠g/\k≠r:=⟨hb.ne_t h.blk (by decide),VN h.map hb⟩
theorem q78 (X:qE):putL (qE.rep.cells X) (0+13) [(Ua 0),(Ua 0),(.bool false),(Ua 0),(Ua 0),(Ua 0),(.bool false),(.int .u8 0),(.int .u8 0),(Ua 0),(.bool false),(Ua 0),(Ua 0),(.bool false),(Ua 0),(Ua 0),(Ua 0),(.bool false),(.int .u8 0),(.int .u8 0),(Ua 0),(.bool false)]=qE.rep.cells { X with saved:=⟨ql9,ql9⟩ }:=by
 kernel_rfl
structure ScR (w:World) (base g:Nat) (X:qE) (f0 f1:Foot) (G0 G1:GS) (ar:Slc) (az:List jz):Prop where
 blk:Blk w g zL (qE.rep.cells X)
 gr:X.grids=⟨some ⟨f0.g,0,none⟩,some ⟨f1.g,0,none⟩⟩
 xa:X.areas=ar
 hg:base<=g
 g0:GridM w base f0 G0
 g1:GridM w base f1 G1
 ar:Go.Vc.Own qp8 w base ar az
 dg:∀k,kg f0 k->¬kg f1 k
section
variable {w w':World} {base g:Nat} {F F':ScF} {S S':Sc} {X X':qE} {f0 f1:Foot} {G0 G1:GS} {ar:Slc} {az:List jz}
theorem ScR.step (h:ScR w base g X f0 f1 G0 G1 ar az) (hc:Chg (λk=>k=g) w w') (hb:Blk w' g zL (qE.rep.cells X')) (e1:X'.grids=X.grids) (e2:X'.areas=X.areas):ScR w' base g X' f0 f1 G0 G1 ar az:=by
 have d:∀k c,k=g->¬Blk w k zi c:=λk c b a=>by subst b;exact h.blk.ne_t a (by decide) rfl
 refine ⟨hb,e1.trans h.gr,e2.trans h.xa,h.hg,h.g0.chg hc (λk b e=>?_) d,h.g1.chg hc (λk b e=>?_) d,h.ar.chg hc λk b e=>?_,h.dg⟩
 ·subst e;have:=qye h.g0 b h.blk;revert this;decide
 ·subst e;have:=qye h.g1 b h.blk;revert this;decide
 ·obtain ⟨c,a⟩:=h.ar.blk_t b;rw [e] at a;exact h.blk.ne_t a (by decide) rfl
theorem ScR.ext (h:ScR w base g X f0 f1 G0 G1 ar az) (hB:Uc w w'):ScR w' base g X f0 f1 G0 G1 ar az :=
 ⟨h.blk.ext hB,h.gr,h.xa,h.hg,h.g0.ext hB,h.g1.ext hB,h.ar.ext hB,h.dg⟩
theorem ScR.fin (h:ScR w base g (scX F S) F.f0 F.f1 S.g0 S.g1 F.ar S.areas) (hst:StopsM w F.tg F.tr S.stops) (hstb:base<=F.tg/\base<=F.tr) (hmo:jf q1d w F.mm S.modes) (hpr:jf q1d w F.mp S.priv) (hmb:base<=F.mm/\base<=F.mp) (hdm:F.mm≠F.mp/\F.tr≠F.mm/\F.tr≠F.mp) (ok:ScOk S):ScM w base g F S :=
 ⟨h.blk,h.hg,h.g0,h.g1,hst,hstb,hmo,hpr,hmb,hdm,h.ar,h.dg,ok⟩
theorem zcq {K:Int->Int->Ub} (h:ScR w base g X f0 f1 G0 G1 ar az) (hn:X.now=0) (hK:K G0.rows G0.cols w.drew.drew):jJ (some ⟨g,0,none⟩) w K:=by
 refine JY _ ?_;refine YK _ ?_;have a:=h.ext (zH w);refine lI (x:=0) (by rw [<-hn];exact a.blk.cells 2 _ rfl) ?_;refine ⟨⟨by decide,by decide⟩,qS ?_ (qz3 a.g0 hK)⟩;have e:=congrArg Qn.e0 h.gr;have e:X.grids.e0=some ⟨f0.g,0,none⟩:=e;rw [<-e];exact a.blk.cells 0 _ rfl
theorem JA {T:Nat->Prop} {a b c:World} (h:Chg T a b) (k:Chg T b c):Chg T a c:=h.trans k λi _ d=>d
def q5x (G0 G1:GS) (az:List jz):Sc:=⟨G0,G1,false,qc1,ql9,ql9,[],kD (kD [] 7 true) 25 true,0,G0.rows,YV [] G0.cols,-1,az⟩
set_option maxHeartbeats 400000 in
theorem q6s {K:Ub} (h:ScR w base g X f0 f1 G0 G1 ar az) (hG0:GOk G0) (hG1:GOk G1) (hr:G1.rows=G0.rows) (hc:G1.cols=G0.cols) (hb:base<=w.heap.size)
  (hK:∀tg tr mm mp w',w.heap.size<=tg->w.heap.size<=tr->w.heap.size<=mm->w.heap.size<=mp->ScM w' base g ⟨f0,f1,tg,tr,mm,mp,ar⟩ (q5x G0 G1 az)->Chg (λk=>k=g) w w'->K w'):Qx (some ⟨g,0,none⟩) w K:=by
 refine qfg _ ?_;simp only [onPtr_some];rw [qC];refine qD h.blk (by simp [qE.rep]) λC J D al=>?_;have h1:ScR C base g { X with now:=0 } f0 f1 G0 G1 ar az:=h.step (Chg.gg D) (X':={ X with now:=0 }) J rfl rfl;have c1:Chg (λk=>k=g) w C:=Chg.gg D;refine zcq h1 rfl ?_;have E:Uc C C.drew.drew:=zM (zH C) (zH C.drew);have h2:=h1.ext E;have c2:=JA c1 (Chg.of_ext E);generalize C.drew.drew=w2 at h2 c2 ⊢;clear J D al h1 c1 E;have s2:=c2.size;refine zec _ (λw' _ L=>absurd L (by have:=hG0.cols;omega)) λtg tr w3 _ _ ay a1 p F=>?_;have h3:=h2.ext F;have c3:=JA c2 (Chg.of_ext F);have s3:=F.size;clear c2;have d:=zj1 p h3.blk;rw [qC];refine qD h3.blk (by simp [qE.rep]) λw4 M q a2=>?_;have h4:=h3.step (Chg.gg q) (X':={ X with now:=0,stops:=some ⟨tg,0,none⟩ }) M rfl rfl;have c4:=JA c3 (Chg.gg q);have r:StopsM w4 tg tr (YV [] G0.cols):=p.keep (Chg.gg q) (λe=>d.1 e.symm) λe=>d.2 e.symm;have ap:tg<w4.heap.size/\tr<w4.heap.size:=⟨r.blk.lt,r.map.lt⟩;clear p h3 c3 M q;refine zbt λw5 G=>?_;have h5:=h4.ext G;have c5:=JA c4 (Chg.of_ext G);have N:=r.keep (Chg.of_ext (S:=λ_=>False) G) (λe=>e) λe=>e;rw [qC];refine qD h5.blk (by simp [qE.rep,qQ.rep]) λw6 s O a3=>?_;have P:Blk w6 g zL (qE.rep.cells ⟨X.grids,0,qc1,X.saved,X.modes,X.private_,X.top,X.past,some ⟨tg,0,none⟩,X.char,X.areas⟩):=s;clear s;rw [qC];refine qD P (by simp [qE.rep]) λw7 f Q a4=>?_;have R:Blk w7 g zL (qE.rep.cells ⟨X.grids,0,qc1,⟨ql9,ql9⟩,X.modes,X.private_,X.top,X.past,some ⟨tg,0,none⟩,X.char,X.areas⟩):=by rw [q78] at f;exact f
 clear f;rw [qC];refine qD R (by simp [qE.rep]) λw8 t T a5=>?_;have U:Blk w8 g zL (qE.rep.cells ⟨X.grids,0,qc1,⟨ql9,ql9⟩,X.modes,X.private_,X.top,X.past,some ⟨tg,0,none⟩,-1,X.areas⟩):=t;clear t;rw [qC];refine qD U (by simp [qE.rep]) λw9 u V a6=>?_;have W:Blk w9 g zL (qE.rep.cells ⟨X.grids,0,qc1,⟨ql9,ql9⟩,X.modes,X.private_,0,X.past,some ⟨tg,0,none⟩,-1,X.areas⟩):=u;clear u;rw [qC];refine qD W (by simp [qE.rep]) λa j v aq=>?_;have x:=j;clear j;have c:Chg (λk=>k=g) w5 a:=JA (JA (JA (JA (Chg.gg O) (Chg.gg Q)) (Chg.gg T)) (Chg.gg V)) (Chg.gg v);have Y:=h5.step c (X':=⟨X.grids,0,qc1,⟨ql9,ql9⟩,X.modes,X.private_,0,G0.rows,some ⟨tg,0,none⟩,-1,X.areas⟩) x rfl rfl;have Z:=JA c5 c;have y:=N.keep c (λe=>d.1 e.symm) λe=>d.2 e.symm;clear P O R Q U T W V x v c h5 c5 N h4 c4 r;refine qgi _ ?_;unfold Kh nwM;dsimp only;have z:Uc a (a.alloc (.map #[] 0)):=(Below.refl _ a).alloc (le_refl _) _;have aa:(a.alloc (.map #[] 0)).heap.size=a.heap.size+1:=by simp
 have m1:jf q1d (a.alloc (.map #[] 0)) a.heap.size []:=jf.new a;generalize a.alloc (.map #[] 0)=w11 at z aa m1 ⊢;have l:Uc w11 (w11.alloc (.map #[] 0)):=(Below.refl _ w11).alloc (le_refl _) _;have ab:(w11.alloc (.map #[] 0)).heap.size=w11.heap.size+1:=by simp
 have m2:jf q1d (w11.alloc (.map #[] 0)) w11.heap.size []:=jf.new w11;generalize w11.alloc (.map #[] 0)=w12 at l ab m2 ⊢;have am:=m1.ext l;refine qu0 (n:=7) (b:=true) m2 (by decide) λa7 m3 ac au=>?_;refine qu0 (n:=25) (b:=true) m3 (by decide) λH m4 ad av=>?_;have A:Chg (λk=>k=w11.heap.size) w12 H:=ac.trans ad λi _ hi=>hi;have ae:=am.chg A (by omega);have m:Uc a H:=ki (zM z l) A (by omega);have af:=Y.ext m;have an:=JA Z (Chg.of_ext m);have ah:=y.keep (Chg.of_ext (S:=λ_=>False) m) (λe=>e) λe=>e;simp only [onPtr_some];rw [qC];refine qD af.blk (by simp [qE.rep]) λa8 ai aj aw=>?_;rw [qC];refine qD ai (by simp [qE.rep,putL]) λI B ak ax=>?_;have o:Chg (λk=>k=g) H I:=JA (Chg.gg aj) (Chg.gg ak);have a9:=Z.size;have ao:=y.map.lt;have ba:=Y.blk.lt;refine hK tg tr a.heap.size w11.heap.size I (by omega) (by omega) (by omega) (by omega) ?_ (JA an o);have hX:ScR I base g (scX ⟨f0,f1,tg,tr,a.heap.size,w11.heap.size,ar⟩ (q5x G0 G1 az)) f0 f1 G0 G1 ar az:=by
  refine af.step o ?_ ?_ ?_
  ·have e1:X.grids=⟨some ⟨f0.g,0,none⟩,some ⟨f1.g,0,none⟩⟩:=h.gr;have e2:X.areas=ar:=h.xa;rw [e1,e2] at B;exact B
  ·exact h.gr.symm
  ·exact h.xa.symm
 refine hX.fin (ah.keep o (λe=>d.1 e.symm) λe=>d.2 e.symm) ⟨by dsimp only;omega,by dsimp only;omega⟩ (ae.chg o (by omega)) (m4.chg o (by omega)) ⟨by dsimp only;omega,by dsimp only;omega⟩ ⟨by dsimp only;omega,by dsimp only;omega,by dsimp only;omega⟩ ?_;have b1:=hG0.rows;have b2:=hG0.cols;exact ⟨hG0,hG1,hr,hc,⟨Int.le_refl 0,by show (0:Int)<(G0.rows:Int);omega⟩,⟨Int.le_refl 0,by show (0:Int)<(G0.cols:Int);omega⟩,.inl rfl,.inl rfl,.inl rfl,⟨by show (0:Int)<=0;omega,by show (0:Int)<(G0.rows:Int);omega,by show (G0.rows:Int)<=G0.rows;omega⟩,λhh=>by
  show (0:Int)+2<=(G0.rows:Int);have hh:2<=G0.rows:=hh;omega,by show (YV [] G0.cols).length=G0.cols;exact resz_length _ _⟩
def okC (c:qY):Prop:=(1<=c.Rows/\c.Rows<=1000)/\(1<=c.Cols/\c.Cols<=1000)/\(1<=c.CellW/\c.CellW<=64)/\(1<=c.CellH/\c.CellH<=64)/\(0<=c.Back/\c.Back<=16384)/\(0<=c.Quota/\c.Quota<=1073741824)
theorem q4h {c:qY} {K:Int->Ub} (h1:okC c->∀w',Uc w w'->K 0 w') (h2:¬okC c->∀w',Uc w w'->K 1 w'):qdg c w K:=by
 refine quf _ ?_;refine nwb λf b a g=>?_;refine lI (b.cells 0 _ rfl) (vK (cO (λh=>?_) λe=>h2 (λd=>oFq e d.1) f a));refine lI (b.cells 1 _ rfl) (vK (cO (λi=>?_) λe=>h2 (λd=>oFq e d.2.1) f a));refine lI (b.cells 2 _ rfl) (vK (cO (λj=>?_) λe=>h2 (λd=>oFq e d.2.2.1) f a));refine lI (b.cells 3 _ rfl) (vK (cO (λk=>?_) λe=>h2 (λd=>oFq e d.2.2.2.1) f a));refine lI (b.cells 4 _ rfl) (vK (cO (λl=>?_) λe=>h2 (λd=>oFq e d.2.2.2.2.1) f a));refine lI (b.cells 5 _ rfl) (vK (cO (λm=>?_) λe=>h2 (λd=>oFq e d.2.2.2.2.2) f a));exact h1 ⟨oTq h,oTq i,oTq j,oTq k,oTq l,oTq m⟩ f a
def zis (rows cols back:Nat):Sc:=q5x (gs0 rows cols back) (gs0 rows cols 0) []
theorem zfo {c:qY} {K:Option Addr->Int->Ub} (hK1:¬okC c->∀w',Uc w w'->K none 1 w')
  (hK2:okC c->∀g F w',ScM w' w.heap.size g F (zis c.Rows.toNat c.Cols.toNat c.Back.toNat)->Uc w w'->K (some ⟨g,0,none⟩) 0 w'):qi7 c w K:=by
 refine qxl _ ?_;refine nwb λw1 p q aa=>?_;refine qz (r:=qY.rep) (x:=c) p.cells ?_;refine q4h (λm n a=>cF rfl ?_) λm n a=>cT rfl (hK1 m n (zM q a));obtain ⟨o1,o2,o3,o4,o5,o6⟩:=m;refine nwb λC D s ab=>?_;have B3:=zM (zM q a) s;have f:=(p.ext a).ext s;have s2:=a.size;refine lI (x:=c.Rows) (f.drew.cells 0 _ rfl) (lI (x:=c.Cols) (f.drew.cells 1 _ rfl) (lI (x:=c.Back) (f.drew.cells 4 _ rfl) ?_));have ng:¬qe9 c.Rows c.Cols c.Back:=by unfold qe9;omega
 have E:¬qe9 c.Rows c.Cols 0:=by unfold qe9;omega
 refine q3q (λb=>absurd b ng) λ_ f0 w4 G H=>?_;have z3:C.drew.heap.size=C.heap.size:=rfl;have h:Uc C w4:=zM (zH C) H;have t:=D.ext h;have I:=f.ext h;have s4:=h.size;refine ⟨⟨by decide,by decide⟩,?_⟩;rw [qC,qC];refine qD t (by simp) λu J L ac=>?_;have M:=Chg.gg L;have N:∀k v,k=n.heap.size->¬Blk w4 k zi v:=λk v d o=>by subst d;exact t.ne_t o (by decide) rfl
 have O:=G.chg M (λk d e=>by have:=(G.below k d).1;omega) N;have y:=I.chg M (by omega);refine lI (x:=c.Rows) (y.drew.cells 0 _ rfl) (lI (x:=c.Cols) (y.drew.cells 1 _ rfl) ?_);refine q3q (λb=>absurd b E) λ_ f1 P Q R=>?_;have z5:u.drew.heap.size=u.heap.size:=rfl;have j:Uc u P:=zM (zH u) R;have z:=J.ext j;have l:=O.ext j;have s6:=j.size;refine ⟨⟨by decide,by decide⟩,?_⟩;rw [qC,qC];refine qD z (by simp [putL]) λS T U ad=>?_;have V:=Chg.gg U;have A:∀k v,k=n.heap.size->¬Blk P k zi v:=λk v d o=>by subst d;exact z.ne_t o (by decide) rfl
 have q0:=l.chg V (λk d e=>by have:=(l.below k d).1;omega) A;have q1:=Q.chg V (λk d e=>by have:=(Q.below k d).1;omega) A;have W:Uc w S:=by
  have b1:=zM B3 h;have b2:=b1.trans (M.below b1.size λi hi e=>by omega);have b3:=zM b2 j;exact b3.trans (V.below b3.size λi hi e=>by omega)
 have hR:ScR S w.heap.size n.heap.size ⟨⟨some ⟨f0.g,0,none⟩,some ⟨f1.g,0,none⟩⟩,0,⟨0,0,false,⟨0,0,0⟩,false,⟨0,0⟩,0⟩,⟨ql9,ql9⟩,none,none,0,0,none,0,⟨none,0,0⟩⟩ f0 f1 (gs0 c.Rows.toNat c.Cols.toNat c.Back.toNat) (gs0 c.Rows.toNat c.Cols.toNat (0:Int).toNat) ⟨none,0,0⟩ []:=by
  refine ⟨T,rfl,rfl,by omega,q0.base (by omega),q1.base (by omega),Go.Vc.Own.nil _ _ _,λk d X=>?_⟩;have h1:=(G.below k d).2;have h2:=(Q.below k X).1;omega
 have Y:GOk (gs0 c.Rows.toNat c.Cols.toNat c.Back.toNat):=GOk.new (by omega) (by omega) (by omega);have Z:GOk (gs0 c.Rows.toNat c.Cols.toNat (0:Int).toNat):=GOk.new (by omega) (by omega) (by decide);refine q6s hR Y Z rfl rfl W.size λtg tr mm mp w8 h1 h2 h3 h4 hM hc=>?_;exact hK2 ⟨o1,o2,o3,o4,o5,o6⟩ _ _ w8 hM (W.trans (hc.below W.size λi hi e=>by omega))
end
def zeo (x:Int):Prop:=-9223372036854775808<=x/\x<=9223372036854775807
structure ParM (w:World) (g:Nat) (F:ScF) (p:Slc) (ps:List Int):Prop where
 rd:Rd jr w p ps
 off:ps=[]\/∀a,p.a=some a->¬scS g F a.block/\a.block<w.heap.size
 rng:∀x∈ps,zeo x
 len:ps.length<=100000
section
variable {w w':World} {base g:Nat} {F F':ScF} {S S':Sc} {p:Slc} {ps:List Int}
theorem ParM.ext (h:ParM w g F p ps) (hB:Uc w w'):ParM w' g F p ps:=by
 have:=hB.size;exact ⟨h.rd.ext hB,h.off.imp (λe=>e) λe a b=>⟨(e a b).1,by have:=(e a b).2;omega⟩,h.rng,h.len⟩
theorem ScM.ldRow (h:ScM w base g F S) {K:Int->Prop} (hK:K S.c.Row):ldI .i64 (((⟨g,0,none⟩:Addr).add 3).add 0) w K:=lI (by simp only [qC];exact h.blk.cell 3 rfl) hK
theorem ScM.ldCol (h:ScM w base g F S) {K:Int->Prop} (hK:K S.c.Col):ldI .i64 (((⟨g,0,none⟩:Addr).add 3).add 1) w K:=lI (by simp only [qC];exact h.blk.cell 4 rfl) hK
theorem ScM.ldOrg (h:ScM w base g F S) {K:Bool->Prop} (hK:K S.c.Origin):Go.Vc.ldB (((⟨g,0,none⟩:Addr).add 3).add 6) w K:=jw (by simp only [qC];exact h.blk.cell 9 rfl) hK
theorem ScM.ldTop (h:ScM w base g F S) {K:Int->Prop} (hK:K S.top):ldI .i64 ((⟨g,0,none⟩:Addr).add 37) w K:=lI (by simp only [qC];exact h.blk.cell 37 rfl) hK
theorem ScM.cCol (h:ScM w base g F S):w.cell? (((⟨g,0,none⟩:Addr).add 3).add 1)=some (Ua S.c.Col):=by exact h.blk.cell 4 rfl
theorem qjf (h:ParM w g F p ps) {i:Nat} {none:Int} {K:Int->Ub} (hK:K (qzc ps i none) w):Za p i none w K:=by
 refine qtm _ _ _ ?_;refine jpO λj c=>?_;have l:=h.rd.n;unfold qzc at hK;refine cO (λe=>?_) λe=>?_
 ·have e:=oTq e;rw [List.getElem?_eq_none (by omega)] at hK;exact hK
 ·have e:=oFq e;have d:i<ps.length:=by omega
  rw [List.getElem?_eq_getElem d] at hK;refine h.rd.ix rfl (by omega) (by omega) λf=>?_;have b:w.cell? (p.at_ jr.k (i:Int).toNat)=some (Ua ps[i]):=by simpa using f 0 _ rfl
  refine lI b ?_;dsimp only at hK;refine cO (λa=>?_) λa=>?_
  ·have a:=eq_of_beq a;rw [if_pos a] at hK;exact hK
  ·have a:=beq_eq_false_iff_ne.1 a;rw [if_neg a] at hK;exact c _ _ (h.rd.ix rfl (by omega) (by omega) λ_=>lI b hK)
theorem ScM.w64n (n:Int):zeo (w64 n):=by
 have h:w64 n=(n+9223372036854775808)%18446744073709551616-9223372036854775808:=by
  unfold w64 IntKind.wrap;simp [IntKind.bits,IntKind.signed]
  try omega
 unfold zeo;omega
end
theorem or2 {K:Bool×Unit->Ub} {c a b:Int} {w:World} (h1:c=a\/c=b->K (true,()) w) (h2:¬(c=a\/c=b)->K (false,()) w):zf K λJ=>cond (c==a) (J ((c==a),()) w) (J ((c==b),()) w):=by
 intro J d;refine cO (λe=>?_) λe=>?_
 ·rw [e];exact d _ _ (h1 (.inl (eq_of_beq e)))
 ·cases e2:(c==b)
  ·exact d _ _ (h2 λf=>f.elim (beq_eq_false_iff_ne.1 e) (beq_eq_false_iff_ne.1 e2))
  ·exact d _ _ (h1 (.inr (eq_of_beq e2)))
theorem or3 {K:Bool×Unit->Ub} {c a b d:Int} {w:World} (h1:c=a\/c=b\/c=d->K (true,()) w) (h2:¬(c=a\/c=b\/c=d)->K (false,()) w):zf K λJ=>cond (c==a) (J ((c==a),()) w) (cond (c==b) (J ((c==b),()) w) (J ((c==d),()) w)):=by
 intro J f;refine cO (λe=>?_) λe=>?_
 ·rw [e];exact f _ _ (h1 (.inl (eq_of_beq e)))
 ·exact or2 (λh=>h1 (.inr h)) (λh=>h2 λg=>g.elim (beq_eq_false_iff_ne.1 e) h) J f
theorem or4 {K:Bool×Unit->Ub} {c a b d f:Int} {w:World} (h1:c=a\/c=b\/c=d\/c=f->K (true,()) w) (h2:¬(c=a\/c=b\/c=d\/c=f)->K (false,()) w):zf K λJ=>cond (c==a) (J ((c==a),()) w) (cond (c==b) (J ((c==b),()) w) (cond (c==d) (J ((c==d),()) w) (J ((c==f),()) w))):=by
 intro J g;refine cO (λe=>?_) λe=>?_
 ·rw [e];exact g _ _ (h1 (.inl (eq_of_beq e)))
 ·exact or3 (λh=>h1 (.inr h)) (λh=>h2 λi=>i.elim (beq_eq_false_iff_ne.1 e) h) J g
theorem or5 {K:Bool×Unit->Ub} {c a b d f k:Int} {w:World} (h1:c=a\/c=b\/c=d\/c=f\/c=k->K (true,()) w) (h2:¬(c=a\/c=b\/c=d\/c=f\/c=k)->K (false,()) w):zf K λJ=>cond (c==a) (J ((c==a),()) w) (cond (c==b) (J ((c==b),()) w) (cond (c==d) (J ((c==d),()) w) (cond (c==f) (J ((c==f),()) w) (J ((c==k),()) w)))):=by
 intro J g;refine cO (λe=>?_) λe=>?_
 ·rw [e];exact g _ _ (h1 (.inl (eq_of_beq e)))
 ·exact or4 (λh=>h1 (.inr h)) (λh=>h2 λi=>i.elim (beq_eq_false_iff_ne.1 e) h) J g
section
variable {w w':World} {base g:Nat} {F F':ScF} {S S':Sc} {p:Slc} {ps:List Int}
theorem ScM.one (h:ScM w base g F S) {k0:Nat} (hk:∀t cs,¬Blk w k0 t cs) (hin:scS g F k0) (hc:Chg (λk=>k=k0) w w') (ex:scX F S'=scX F S) (e0:S'.g0=S.g0) (e1:S'.g1=S.g1) (ea:S'.areas=S.areas)
  (hst:StopsM w' F.tg F.tr S'.stops) (hmo:jf q1d w' F.mm S'.modes) (hpr:jf q1d w' F.mp S'.priv) (ok:ScOk S'):ScT base g w F F S' w':=by
 have d:∀k cs,k=k0->¬Blk w k zi cs:=λk cs e=>by subst e;exact hk _ _
 have b:∀{k t cs},Blk w k t cs->¬k=k0:=λa e=>by subst e;exact hk _ _ a
 refine ⟨⟨?_,h.hg,?_,?_,hst,h.hst,hmo,hpr,h.hm,h.dm,?_,h.dg,ok⟩,λk hk=>.inl hk,hc.mono λi f e=>by subst e;exact hin⟩
 ·rw [ex];exact h.blk.chg hc (b h.blk)
 ·rw [e0];refine h.g0.chg hc (λk hk=>?_) d;obtain ⟨t,cs,a,_⟩:=h.g0.ty k hk;exact b a
 ·rw [e1];refine h.g1.chg hc (λk hk=>?_) d;obtain ⟨t,cs,a,_⟩:=h.g1.ty k hk;exact b a
 ·rw [ea];refine h.ar.chg hc λk hk=>?_;obtain ⟨cs,c⟩:=h.ar.blk_t hk;exact b c
theorem zdc {V:Type} {enc:V->Value} {r:Nat} {L:List (Int×V)} (h:jf enc w r L):∀t cs,¬Blk w r t cs:=λt cs a=>h.ne_blk a rfl
theorem ScM.setPr (h:ScM w base g F S) {n:Int} (hn:zeo n) {b:Bool} {K:Option Value->Ub} (hK:∀w',ScT base g w F F { S with priv:=kD S.priv n b } w'->K none w'):qma PG (Instr.mapUpdate zp (.map (some F.mp)) (Ua n) (.bool b)) w K:=by
 refine qu0 h.pr hn λw' c a d=>hK w' ?_;exact h.one (zdc h.pr) (.inr (.inr (.inr (.inr (.inr (.inr (.inl rfl))))))) a rfl rfl rfl rfl (h.st.keep a (λe=>zdc h.pr _ _ (e ▸ h.st.blk)) h.dm.2.2) (h.mo.chg a h.dm.1) c
  ⟨h.ok.g0,h.ok.g1,h.ok.rows,h.ok.cols,h.ok.row,h.ok.col,h.ok.shift,h.ok.sh0,h.ok.sh1,h.ok.top,h.ok.marg,h.ok.stops⟩
theorem zhx {a:Addr} {w:World} {K:Value->Prop} {x:Value} (h:w.cell? a=some x) (hK:K x):ldR a w K:=⟨x,h,hK⟩
end
namespace Sc
def modeP (S:Sc) (n:Int) (priv:Bool):Bool×Bool :=
 if priv=false then (S.mode n,decide (n=4\/n=20))
 else if n=6 then (S.c.Origin,true)
 else if n=47\/n=1047\/n=1049 then (S.alt,true)
 else if n=1\/n=7\/n=25\/n=1000\/n=2004 then (S.pmode n,true)
 else (false,false)
def placeRow (S:Sc):Int:=if S.c.Origin then (if 0>w64 (S.c.Row-S.top) then 0 else w64 (S.c.Row-S.top)) else S.c.Row
def placeP (S:Sc):List UInt8:=itoa (w64 (S.placeRow+1))++[59]++itoa (w64 (S.c.Col+1))
def bareR (S:Sc) (p:List Int) (c:Int):List UInt8 :=
 let zero:=qzc p 0 0
 if c=110 then (if zero=5 then [27,91]++[48,110] else if zero=6 then [27,91]++(S.placeP++[82]) else [])
 else if c=99 then (if zero=0 then [27,91]++[63,54,50,59,52,99] else [])
 else []
end Sc
structure Ev where
 Kind:Int
 R:Int
 B:Int
 Private:Int
 Inter:List UInt8
 Params:List Int
namespace Sc
end Sc
section
variable {w w':World} {base g:Nat} {F F':ScF} {S S':Sc} {p:Slc} {ps:List Int}
theorem zd9 (h:ScM w base g F S) {n:Int} {priv:Bool} {K:Bool->Bool->Ub} (hK:K (S.modeP n priv).1 (S.modeP n priv).2 w):QZ (some ⟨g,0,none⟩) n priv w K:=by
 refine qg7 _ _ _ ?_;unfold Sc.modeP at hK;cases priv
 ·refine cT rfl (km (by rw [qC];exact h.blk.cell 35 rfl) (qoy h.mo ?_));refine cO (λe=>?_) λe=>?_
  ·have e:=eq_of_beq e;rw [dTq (.inl e)] at hK;exact hK
  ·have e:=beq_eq_false_iff_ne.1 e;have a:(n==20)=decide (n=4\/n=20):=by
    by_cases e3:n=20
    ·rw [dTq (.inr e3)];exact beq_iff_eq.2 e3
    ·rw [dFq (λb=>b.elim e e3)];exact beq_eq_false_iff_ne.2 e3
   rw [a];exact hK
 ·refine cF rfl ?_;refine cO (λe=>?_) λe=>?_
  ·rw [if_pos (eq_of_beq e)] at hK;exact h.ldOrg hK
  rw [if_neg (beq_eq_false_iff_ne.1 e)] at hK;refine or3 (λe=>cT rfl ?_) λe=>cF rfl ?_
  ·rw [if_pos e] at hK;exact q8v h hK
  rw [if_neg e] at hK;refine or5 (λe=>cT rfl ?_) λe=>cF rfl ?_
  ·rw [if_pos e] at hK;exact km (by rw [qC];exact h.blk.cell 36 rfl) (qoy h.pr hK)
  ·rw [if_neg e] at hK;exact hK
theorem q5k (h:ScM w base g F S) (hT:Tab w) {K:ByteArray->Ub} (hK:∀w',Uc w w'->S.placeP.length<=50->K (qX S.placeP) w'):vp (some ⟨g,0,none⟩) w K:=by
 refine qf1 _ ?_;refine h.ldRow (jpO λl f=>?_);have a:l (S.placeRow,()) w:=by
  refine f _ _ ?_;have j:=(ScT.refl h).drew;refine j.m.ldCol ?_;refine quu (hT.ext (zH w)) (ScM.w64n _).1 (ScM.w64n _).2 λq b=>?_;have n:=j.ext b;have o:=zM (zH w) b;have r:=qt2 (ScM.w64n (S.placeRow+1)).1 (ScM.w64n (S.placeRow+1)).2;have s:=qt2 (ScM.w64n (S.c.Col+1)).1 (ScM.w64n (S.c.Col+1)).2;have d:(⟨#[59]⟩:ByteArray)=qX [59]:=rfl;refine ⟨n.m.cCol,?_,?_⟩
  ·rw [d,qT,qT];simp only [length_cons,length_nil];omega
  refine quu ((hT.ext (zH w)).ext b) (ScM.w64n _).1 (ScM.w64n _).2 λk i=>?_;rw [d,jH];have p:=zM o i;refine ⟨?_,hK k p ?_⟩
  ·rw [qT,qT,length_append];simp only [length_cons,length_nil];omega
  ·unfold Sc.placeP;rw [length_append,length_append];simp only [length_cons,length_nil];omega
 unfold Sc.placeRow at a;refine h.ldOrg (cO (λe=>?_) λe=>?_)
 ·rw [if_pos e] at a;exact h.ldTop a
 ·rw [if_neg (by rw [e];decide)] at a;exact a
theorem qrr {bs:List UInt8} (hl:bs.length<=1000) {K:Slc->Ub} (hK:∀q w',Rd qo w' q ([27,91]++bs)->Uc w w'->K q w'):kh (qX bs) w K:=by
 refine qtv _ ?_;have e:(⟨#[27,91]⟩:ByteArray)=qX [27,91]:=rfl;rw [e,jH,qT,qT];refine ⟨by simp only [length_cons,length_nil];omega,?_⟩;exact qkb (by simp only [length_append,length_cons,length_nil];omega) λq w' a _ b _=>hK q w' a b
end
theorem qv3 {s:Slc} {xs:List Slc} {w:World} {K:Slc->Ub} (h:Rd slE w s xs) (hl:xs.length<=1000000)
  (hK:∀r w',Go.Vc.Own slE w' w.heap.size r xs->Uc w w'->K r w'):jt s w K:=by
 refine Zz _ ?_;refine cO (λe=>?_) (λe=>?_)
 ·have:s.a=none:=by cases ha:s.a with
   | none=>rfl
   | some a=>rw [ha] at e;cases e
  rw [h.none_nil this] at hK;exact hK _ _ (Go.Vc.Own.nil _ _ _) (Below.refl _ _)
 ·refine nwb λm c b i=>?_;refine jW qom (qb3 c (le_refl _)) (h.ext b) (by omega) (by rw [q64];simp;omega) (by simp [maxLen];omega) λr j d f k=>?_;exact hK r j (by simpa using d) (b.grown f (by omega) λg l=>by cases l;exact le_refl _)
section
variable {w w':World} {base g:Nat} {F F':ScF} {S S':Sc} {p:Slc} {ps:List Int} {f:Foot} {G:GS}
theorem q95 {K:Option Addr->Ub} (h:GridM w base f G) (hL:G.L.length<=1000) (hm:G.most<=100000) (hb:base<=w.heap.size)
  (hK:∀f' w',GridM w' base f' G->(∀k,kg f' k->w.heap.size<=k)->Uc w w'->K (some ⟨f'.g,0,none⟩) w'):V2 (some ⟨f.g,0,none⟩) w K:=by
 refine qpx _ ?_;obtain ⟨ls,ho,hl⟩:=h.row;have ar:=hl.1;refine qz (r:=vS.rep) (x:=⟨some ⟨f.r,0,none⟩,G.rows,G.cols,f.ls,G.top⟩) h.blk.cells ?_;refine nwb λw1 N y au=>qh2 N rfl λv O P av=>?_;have c:Uc w v:=ki y P (le_refl _);have h2:=h.ext c;refine qS (by rw [qC];exact h2.blk.cell 0 rfl) ?_;obtain ⟨z,m,Q,R,A,B,C,aw,D,n,S⟩:=h.ring;have E:=A.ext c;have T:=B.ext c;refine Yl _ ?_;refine qz (r:=zw.rep) (x:=⟨G.most,f.rs,z,m⟩) E.cells ?_;refine nwb λw3 U V ax=>qh2 U rfl λw4 W X ay=>?_;have a:Uc v w4:=ki V X (le_refl _);have F:=E.ext a;refine lSl (x:=f.rs) (by rw [qC];exact F.cell 1 rfl) ?_;have H:=T.ext a;have aq:=C.1;refine qv3 H.rd (by omega) λq w5 o i=>?_;have Y:=W.ext i;simp only [qC];refine qD Y (by simp [zw.rep]) λw6 Z p az=>?_;have z5:=i.size;have aa:=O.ext a;have ab:=aa.ext i;have ac:=ab.chg (Chg.gg p) (by omega);have I:Uc v w6:=ki (zM a i) (Chg.gg p) (le_refl _);have J:=o.chg (Chg.gg p) λk b e=>by have:=(o.lt k b).1;omega
 refine qD ac (by simp [vS.rep]) λw7 ad ae a1=>?_;have c7:=Chg.gg ae;have af:=Z.chg c7 (by omega);have s:=J.chg c7 λk b e=>by have:=(J.lt k b).1;omega
 have j:Uc w w7:=ki (zM c I) c7 (le_refl _);have h7:=h.ext j;refine lSl (x:=f.ls) (h7.blk.cell 3 rfl) ?_;have ah:=ho.ext j;refine qv3 ah.rd (by omega) λt w8 l d=>?_;have ai:=ad.ext d;refine qD ai (by simp [vS.rep,putL]) λw9 aj ak a2=>?_;have c9:=Chg.gg ak;have al:=(af.ext d).chg c9 (by omega);have am:=(s.ext d).chg c9 λk b e=>by have:=(s.lt k b).1;omega
 have an:=l.chg c9 λk b e=>by have:=(l.lt k b).1;omega
 have u:Uc w w9:=ki (zM j d) c9 (le_refl _);have ao:=hl.ext u;have M:=C.ext u;have z2:=c.size;refine hK ⟨w.heap.size,v.heap.size,t,q⟩ w9 ⟨aj,hb,⟨ls,an.base (by omega),ao⟩,⟨z,m,Q,R,al,am.base (by omega),M,by show base<=v.heap.size;omega,D,n,S⟩,λk b ap=>?_⟩ ?_ u
 ·have h1:=(l.lt k b).1;have h2:=(s.lt k ap).2;omega
 ·rintro k (rfl | rfl | b | b)
  ·exact le_refl _
  ·omega
  ·have:=(l.lt k b).1;omega
  ·have:=(o.lt k b).1;have:=a.size;omega
theorem q27 (h:ScM w base g F S) {K:Option Addr->Ub} (hK:∀f' w',GridM w' base f' S.g->(∀k,kg f' k->w.heap.size<=k)->ScM w' base g F S->Uc w w'->K (some ⟨f'.g,0,none⟩) w'):vI (some ⟨g,0,none⟩) w K:=by
 refine qh1 _ ?_;refine qsp h ?_;have a:=h.drew;have b:=h.gOk;refine q95 a.gM (by rw [b.len];exact b.rows.2) (by have:=b.most;omega) a.base_le λf' w' d e c=>?_;exact hK f' w' d e (a.ext c) (zM (zH w) c)
theorem qjn {n:Int} {K:ByteArray->Ub} (hK:K (qX (Utf8.encode n).data.toList) w):zO PG (convert qF zk (.int .u8 n)) Kind.string w K:=by
 exact ⟨_,w,run_convert_int_string w qF zk .u8 n (by kernel_rfl) (by kernel_rfl),hK⟩
theorem qi9 (n:Int) (h:0<=n/\n<=255):(Utf8.encode n).data.toList.length<=4:=by
 have a:Utf8.valid n=true:=by
  unfold Utf8.valid;simp;omega
 by_cases h2:n<128
 ·unfold Utf8.encode;simp only [a,if_true];rw [if_pos (by omega)];simp
 ·have:=(encode_facts n a (by omega)).2.1;simpa using this
structure EvM (w:World) (g:Nat) (F:ScF) (e:ze) (v:Ev):Prop where
 k:e.Kind=v.Kind
 r:e.R=v.R
 b:e.B=v.B
 p:e.Private=v.Private
 i:e.Inter=qX v.Inter
 ps:ParM w g F e.Params v.Params
 br:0<=v.B/\v.B<=255
 pr:0<=v.Private/\v.Private<=255
 il:v.Inter.length<=100000
end
section
variable {w w':World} {base g:Nat} {F F':ScF} {S S':Sc} {p:Slc} {ps:List Int}
namespace Sc
end Sc
namespace Sc
def indexes (S:Sc):Nat->Sc
 | 0=>S
 | n+1=>(S.indexes n).index
def moveP (S:Sc) (rows cols:Int):Sc :=
 let S1:=if 0<=rows/\rows<=1000 then S.indexes rows.toNat else S
 if 0<=cols/\cols<=1000 then S1.to S1.c.Row (w64 (S1.c.Col+cols)) else S1
end Sc
theorem q30 (h:ScM w base g F S) {rows cols:Int} {K:Ub} (hK:∀F' w',ScT base g w F F' (S.moveP rows cols) w'->K w'):zS (some ⟨g,0,none⟩) rows cols w K:=by
 refine qhu _ _ _ ?_;unfold Sc.moveP at hK;refine jpO λv n=>?_;have f:∀(d:Sc) r o,ScT base g w F r d o->(∀F' w',ScT base g w F F' (if 0<=cols/\cols<=1000 then d.to d.c.Row (w64 (d.c.Col+cols)) else d) w'->K w')->v () o:=by
  intro d r o j hK;refine n _ _ (vK (cO (λe=>?_) λe=>?_))
  ·rw [if_pos (oTq e)] at hK;have l:=j.drew;exact l.m.ldRow (l.m.ldCol (qsu l.m λy a=>hK _ _ (l.trans a)))
  ·rw [if_neg (oFq e)] at hK;exact hK _ _ j
 refine vK (cO (λe=>?_) λe=>?_)
 ·have e:=oTq e;rw [if_pos e] at hK;refine lpR (λ(p:Int×Unit) w2=>∃(k:Nat) (s:ScF),p.1=(k:Int)/\(k:Int)<=rows/\ScT base g w F s (S.indexes k) w2) (λp=>rows.toNat-p.1.toNat) ⟨0,F,rfl,by omega,ScT.refl h⟩ ?_;rintro ⟨i,u⟩ w2 ⟨k,s,t,A,b⟩ I hI;subst t;refine cO (λe=>?_) λe=>?_
  ·have e:=oTq e;refine qsb b.m λz y a=>?_;rw [qM (by omega)];exact hI _ _ ⟨k+1,z,by simp,by omega,b.trans a⟩ (by dsimp only;omega)
  ·have e:=oFq e;have q:k=rows.toNat:=by omega
   rw [<-q] at hK;exact f _ _ _ b hK
 ·rw [if_neg (oFq e)] at hK;exact f _ _ _ (ScT.refl h) hK
end
def same (G G':GS):Prop:=G'.most=G.most/\G'.rows=G.rows/\G'.cols=G.cols
structure Fr (n:Nat) (S S':Sc):Prop where
 alt:S'.alt=S.alt
 s0:S'.s0=S.s0
 s1:S'.s1=S.s1
 g0:same S.g0 S'.g0
 g1:same S.g1 S'.g1
 ar:S'.areas.length<=S.areas.length+n
variable {S S' S'':Sc} {n k0:Nat}
section
variable {w w':World} {base g:Nat} {F F':ScF} {S S':Sc} {c:qY} {s tg pb:Nat} {tq:Slc}
theorem q8y (h:ScM w base g F S) {K:Int->Int->Ub} (hK:K (i64.wrap (S.g0.top-S.g0.old.length)) S.g1.top w.drew.drew):yR (some ⟨g,0,none⟩) w K:=by
 refine qd3 _ ?_;have a:=h.drew;refine ⟨⟨by decide,by decide⟩,qS (a.blk.cell 0 rfl) ?_⟩;refine ⟨⟨by decide,by decide⟩,qS (a.blk.cell 1 rfl) ?_⟩;exact q7u a.g0 ⟨a.drew.blk.cell 1 rfl,q3d a.drew.g1 hK⟩
end
abbrev Pl:=qm
def wi (x:Int):Int:=i64.wrap x
def zo7 (a b:Pl):Bool:=(a.Image==b.Image) && ((a.Id==b.Id) && ((a.Alt==b.Alt) && ((a.Line==b.Line) && ((a.Col==b.Col) && ((a.Rows==b.Rows) && ((a.Cols==b.Cols) && ((a.X==b.X) && ((a.Y==b.Y) && ((a.W==b.W) && ((a.H==b.H) && ((a.DX==b.DX) && ((a.DY==b.DY) && ((a.Z==b.Z) && true)))))))))))))
def za1 (p:Pl) (line rows from_ past:Int):Bool:=decide (rows>0) && (decide (past>from_) && (decide (wi (p.Line+p.Rows)>line) && (decide (wi (p.Line-line)<rows) && (decide (p.Col<past) && decide (wi (p.Col+p.Cols)>from_)))))
def btw (v lo hi:Int):Bool:=decide (v>=lo) && decide (v<=hi)
def q3i (p:Pl):Bool:=decide (p.Image>=0) && (btw p.Id 0 4294967295 && (decide (p.Line>=0) && (decide (p.Line<=1125899906842624) && (btw p.Col 0 1000 && (btw p.Rows 1 1048576 && (btw p.Cols 1 1048576 && (decide (p.X>=0) && (decide (p.Y>=0) && (btw p.W 1 16384 && (btw p.H 1 16384 && (btw p.DX 0 64 && (btw p.DY 0 64 && btw p.Z (-1073741824) 1073741824))))))))))))
structure PlTM (w:World) (base g:Nat) (q:Slc) (T:List Pl):Prop where
 blk:Blk w g jL [.slice q.a q.n q.c]
 hg:base<=g
 own:Go.Vc.Own qR w base q T
def plS (g:Nat) (q:Slc) (k:Nat):Prop:=k=g\/q.blk=some k
section
variable {w w':World} {base g:Nat} {q:Slc} {T:List Pl}
theorem PlTM.ext (h:PlTM w base g q T) (hb:Uc w w'):PlTM w' base g q T:=⟨h.blk.ext hb,h.hg,h.own.ext hb⟩
theorem PlTM.drew (h:PlTM w base g q T):PlTM w.drew base g q T:=⟨h.blk,h.hg,h.own⟩
theorem PlTM.chg {S:Nat->Prop} (h:PlTM w base g q T) (hc:Chg S w w') (hS:∀k,plS g q k->¬S k):PlTM w' base g q T:=⟨h.blk.chg hc (hS _ (.inl rfl)),h.hg,h.own.chg hc λk a=>hS _ (.inr a)⟩
theorem PlTM.lt (h:PlTM w base g q T):∀k,plS g q k->base<=k/\k<w.heap.size:=by
 rintro k (rfl | hk)
 ·exact ⟨h.hg,h.blk.lt⟩
 ·exact h.own.lt k hk
theorem PlTM.ne (h:PlTM w base g q T):∀k,q.blk=some k->k≠g:=qI h.own h.blk (by decide)
theorem x8 {v lo hi:Int} {K:Bool->Ub} (hK:K (btw v lo hi) w):jy v lo hi w K:=by
 refine qr7 _ _ _ ?_;unfold btw at hK;refine cO (λe=>?_) λe=>?_
 ·rw [e] at hK;exact hK
 ·rw [e] at hK;exact hK
theorem xj {a b:Bool} {K:Bool->Ub} {X:Prop} (hK:K (a && b) w) (h:K b w->X):cond a X (K false w):=by
 cases a
 ·exact hK
 ·exact h hK
theorem zcg {p:Pl} {K:Bool->Ub} (hK:∀w',Uc w w'->K (q3i p) w'):qob p w K:=by
 refine qzb _ ?_;refine nwb λc a b d=>?_;have hK:=hK c b;refine lI (a.cells 0 _ rfl) (xj hK λhK=>?_);refine lI (a.cells 1 _ rfl) (x8 (xj hK λhK=>?_));refine lI (a.cells 3 _ rfl) (xj hK λhK=>?_);refine lI (a.cells 3 _ rfl) (xj hK λhK=>?_);refine lI (a.cells 4 _ rfl) (x8 (xj hK λhK=>?_));refine lI (a.cells 5 _ rfl) (x8 (xj hK λhK=>?_));refine lI (a.cells 6 _ rfl) (x8 (xj hK λhK=>?_));refine lI (a.cells 7 _ rfl) (xj hK λhK=>?_);refine lI (a.cells 8 _ rfl) (xj hK λhK=>?_);refine lI (a.cells 9 _ rfl) (x8 (xj hK λhK=>?_));refine lI (a.cells 10 _ rfl) (x8 (xj hK λhK=>?_));refine lI (a.cells 11 _ rfl) (x8 (xj hK λhK=>?_));refine lI (a.cells 12 _ rfl) (x8 (xj hK λhK=>?_));exact lI (a.cells 13 _ rfl) (x8 hK)
theorem zbz {p:Pl} {line rows from_ past:Int} {K:Bool->Ub} (hK:∀w',Uc w w'->K (za1 p line rows from_ past) w'):ZZ p line rows from_ past w K:=by
 refine qiy _ _ _ _ _ ?_;refine nwb λc a b d=>?_;have hK:=hK c b;refine xj hK λhK=>xj hK λhK=>?_;refine lI (a.cells 3 _ rfl) (lI (a.cells 5 _ rfl) (xj hK λhK=>?_));refine lI (a.cells 3 _ rfl) (xj hK λhK=>?_);refine lI (a.cells 4 _ rfl) (xj hK λhK=>?_);exact lI (a.cells 4 _ rfl) (lI (a.cells 6 _ rfl) hK)
end
theorem zC {w w1 w2:World} (h1:Uc w w1) (h2:Uc w1 w2):Uc w w2:=h1.trans (h2.mono h1.size)
theorem vN {w w1 w2 w3:World} (h1:Uc w w1) (h2:Uc w1 w2) (h3:Uc w2 w3):Uc w w3:=zC (zC h1 h2) h3
section
variable {w w':World} {base g:Nat} {q:Slc} {T:List Pl}
def qy8 (w:World) (G:Value) (f:Pl->Bool):Prop:=∀(w1:World) (p:Pl) (K:Bool->Ub),Uc w w1->(∀w2,Uc w1 w2->K (f p) w2)->j7 C G [.agg (qm.rep.cells p).toArray] [Kind.bool] w1 K
theorem qny {G:Value} {f:Pl->Bool} (h:PlTM w base g q T) (hl:T.length<=100000) (hbase:base<=w.heap.size) (hG:qy8 w G f) {K:Slc->Ub}
  (hK:∀r q' w',Go.Vc.Own qR w' w.heap.size r (T.filter f)->PlTM w' base g q' (T.filter λp=>!f p)->(∀k,q'.blk=some k->w.heap.size<=k)->(∀k,r.blk=some k->q'.blk≠some k)->Chg (λk=>k=g) w w'->K r w') :
  kW (some ⟨g,0,none⟩) G w K:=by
 refine qlq _ _ ?_;simp only [onPtr_some];refine lSl (x:=q) (h.blk.cells 0 _ rfl) ?_;have hn:q.n=T.length:=h.own.rd.n;refine lpR (λ(st:Slc×Slc×Int×Unit) w1=>∃k:Nat,st.2.2.1=(k:Int)/\k<=T.length/\Go.Vc.Own qR w1 w.heap.size st.1 ((T.take k).filter f)/\Go.Vc.Own qR w1 w.heap.size st.2.1 ((T.take k).filter λp=>!f p) /\
   (∀k,st.1.blk=some k->st.2.1.blk≠some k)/\Uc w w1) (λst=>T.length-st.2.2.1.toNat) ⟨0,rfl,Nat.zero_le _,Own.nil _ _ _,Own.nil _ _ _,(λk hk=>by cases hk),Below.refl _ _⟩ ?_
 rintro ⟨r,l,i,u⟩ w1 ⟨k,hi,hk,hr,hle,hne,hB⟩ I hI;dsimp only at hi hr hle hne ⊢;subst hi;have h1:=h.ext hB;refine cO (λe=>?_) λe=>?_
 ·have e:=oTq e;have hlt:k<T.length:=by omega
  obtain ⟨p,hp⟩:∃p,T[k]?=some p:=⟨_,List.getElem?_eq_getElem hlt⟩;refine h1.own.rd.ix (E:=qR) (i:=(k:Int)) rfl (by omega) (by omega) λhx=>?_;have hx:qG w1 (q.at_ qR.k (k:Int).toNat) (qm.rep.cells p):=by
   simp only [Int.toNat_natCast] at hx ⊢;have e1:T[k]'hlt=p:=(List.getElem?_eq_some_iff.1 hp).2;rw [e1] at hx;exact hx
  refine qz (r:=qm.rep) (x:=p) hx ?_;refine jS rfl λw3 hb3 hB3 hs3=>?_;refine qz (r:=qm.rep) (x:=p) hb3.cells ?_;have B3:=zC hB hB3;refine hG w3 p _ B3 λw4 hB4=>?_;have B4:=zC B3 hB4;have hr4:=(hr.ext hB3).ext hB4;have hl4:=(hle.ext hB3).ext hB4;have hb4:=hb3.ext hB4;have z4:=B4.size;have tk:T.take (k+1)=T.take k++[p]:=by rw [List.take_add_one,hp];rfl
  have lf:∀g:Pl->Bool,((T.take k).filter g).length<=k:=λg=>le_trans (List.length_filter_le _ _) (by simp;omega);have by112:jY.i.bytes=112:=Q4;refine cO (λhf=>?_) λhf=>?_
  ·refine qz (r:=qm.rep) (x:=p) hb4.cells ?_;have:=lf f;refine qgq (E:=qR) jY hr4 (y:=p) rfl z4 (by rw [by112];omega) (by unfold maxLen;omega) λr' w5 ho5 hc5 hrb=>?_;have hl5:=hl4.chg hc5 λk hk e=>hne k e hk;rw [qM (x:=(k:Int)+1) (by omega)];refine hI _ _ ⟨k+1,by simp,by omega,?_,?_,λk hk=>?_,?_⟩ (by dsimp only;omega)
   ·rw [tk,List.filter_append,show [p].filter f=[p] by simp [hf]];exact ho5
   ·rw [tk,List.filter_append,show [p].filter (λp=>!f p)=[] by simp [hf],List.append_nil];exact hl5
   ·rcases hrb k hk with h | h
    ·exact hne k h
    ·intro e;have:=(hl4.lt k e).2;omega
   ·exact B4.trans (hc5.below (by omega) λi hi e=>by have:=(hr4.lt i e).1;omega)
  ·refine qz (r:=qm.rep) (x:=p) hb4.cells ?_;have:=lf λp=>!f p;refine qgq (E:=qR) jY hl4 (y:=p) rfl z4 (le_trans (Nat.mul_le_mul_right _ (Nat.succ_le_succ (lf _))) (by rw [by112];omega)) (le_trans (Nat.succ_le_succ (lf _)) (by unfold maxLen;omega)) λr' w5 ho5 hc5 hrb=>?_;have hr5:=hr4.chg hc5 λk hk e=>hne k hk e;rw [qM (x:=(k:Int)+1) (by omega)];refine hI _ _ ⟨k+1,by simp,by omega,?_,?_,λk hk e=>?_,?_⟩ (by dsimp only;omega)
   ·rw [tk,List.filter_append,show [p].filter f=[] by simp [hf],List.append_nil];exact hr5
   ·rw [tk,List.filter_append,show [p].filter (λp=>!f p)=[p] by simp [hf]];exact ho5
   ·rcases hrb k e with h | h
    ·exact hne k hk h
    ·have:=(hr4.lt k hk).2;omega
   ·exact B4.trans (hc5.below (by omega) λi hi e=>by have:=(hl4.lt i e).1;omega)
 ·have e:=oFq e;have hkT:k=T.length:=by omega
  subst hkT;rw [List.take_length] at hr hle;refine qD h1.blk (by simp) λw2 hb2 hg2 hs2=>?_;have hc2:Chg (λi=>i=g) w1 w2:=Chg.of_grown hg2 λk hk=>by cases hk;rfl
  have hgl:=h.blk.lt;have nr:∀k,r.blk=some k->¬k=g:=λk hk e=>by have:=(hr.lt k hk).1;omega
  have nl:∀k,l.blk=some k->¬k=g:=λk hk e=>by have:=(hle.lt k hk).1;omega
  exact hK r l w2 (hr.chg hc2 nr) ⟨hb2,h.hg,(hle.chg hc2 nl).base hbase⟩ (λk hk=>(hle.lt k hk).1) hne ((Chg.of_ext (S:=λk=>k=g) hB).trans hc2 λi _ hi=>hi)
end
theorem yG {k:Nat} {first caps:Array Value} {args:List Value} {ks:List Kind} {w:World} {K:Go.Vc.Cur ks} (hp:C.plain k=true) (h:qw C.P k (first.toList++args++caps.toList) ks w K):j7 C (.func (.func k) first caps) args ks w K:=by
 unfold j7 qpd;simp only [hp];exact h
section
variable {w w':World} {base g:Nat} {q:Slc} {T:List Pl}
theorem zfx {b:Nat} {x:Int} (hb:Blk w b zJ [.int .i64 x]):qy8 w (.func (.func KI) #[] #[.pointer (some ⟨b,0,none⟩)]) (λp=>p.Image==x):=by
 intro c p K d f;have h:YM p ⟨b,0,none⟩ c K:=by
  refine qhd _ _ ?_;refine nwb λg i a j=>?_;refine lI (i.cells 0 _ rfl) (lI ?_ (f g a));simpa using ((hb.ext d).ext a).cells 0 _ rfl
 refine yG (by kernel_rfl) (Calls.mono h ?_);rintro e l ⟨r,rfl,k⟩;exact ⟨r,rfl,k⟩
theorem zh6 {b:Nat} {x:Int} (hb:Blk w b zJ [.int .i64 x]):qy8 w (.func (.func VR) #[] #[.pointer (some ⟨b,0,none⟩)]) (λp=>p.Image==x):=by
 intro c p K d f;have h:qar p ⟨b,0,none⟩ c K:=by
  refine qko _ _ ?_;refine nwb λg i a j=>?_;refine lI (i.cells 0 _ rfl) (lI ?_ (f g a));simpa using ((hb.ext d).ext a).cells 0 _ rfl
 refine yG (by kernel_rfl) (Calls.mono h ?_);rintro e l ⟨r,rfl,k⟩;exact ⟨r,rfl,k⟩
def q3k (alt:Bool) (first:Int) (p:Pl):Bool:=(p.Alt==alt) && decide (wi (p.Line+p.Rows)<=first)
theorem zbu {b b2:Nat} {alt:Bool} {first:Int} (hb:Blk w b qx8 [.bool alt]) (hb2:Blk w b2 q8n [.int .i64 first]):qy8 w (.func (.func Kk) #[] #[.pointer (some ⟨b,0,none⟩),.pointer (some ⟨b2,0,none⟩)]) (q3k alt first):=by
 intro g p K f i;have h:K5 p ⟨b,0,none⟩ ⟨b2,0,none⟩ g K:=by
  refine qf8 _ _ _ ?_;refine nwb λj d a k=>?_;refine jw (d.cells 2 _ rfl) (jw (by simpa using ((hb.ext f).ext a).cells 0 _ rfl) ?_);have c:=i j a;refine xj c λc=>?_;exact lI (d.cells 3 _ rfl) (lI (d.cells 5 _ rfl) (lI (by simpa using ((hb2.ext f).ext a).cells 0 _ rfl) c))
 refine yG (by kernel_rfl) (Calls.mono h ?_);rintro e l ⟨r,rfl,c⟩;exact ⟨r,rfl,c⟩
def qte (p o:Pl):Bool:=(p.Id !=0) && zo7 { p with Image:=o.Image,Id:=o.Id } p
theorem zi1 {b:Nat} {p:Pl} (hb:Blk w b qJ (qm.rep.cells p)):qy8 w (.func (.func Y6) #[] #[.pointer (some ⟨b,0,none⟩)]) (qte p):=by
 intro n o K L M;have h:qaq o ⟨b,0,none⟩ n K:=by
  refine qjw _ _ ?_;refine nwb λc J f N=>?_;have d:=(hb.ext L).ext f;refine qz d.cells ?_;refine jS rfl λz A g O=>?_;have j:=(J.ext g).drew;have q:=A.drew;refine lI (j.cells 0 _ rfl) (lI (j.cells 1 _ rfl) ?_);refine qD q (by show (0+1:Nat)<=14;omega) λw4 B C D=>?_;have l:Chg (λi=>i=c.heap.size) z.drew w4:=Chg.of_grown C λk a=>by cases a;rfl
  have m:∀{k:Nat},k<c.heap.size->¬k=c.heap.size:=λh e=>by omega
  have E:=j.chg l (m J.lt);have F:=(d.ext g).drew;have G:=F.chg l (m d.lt);refine ⟨E.cells 1 _ rfl,?_⟩;have s:=B;refine qD s (by show (1+1:Nat)<=14;omega) λy H I P=>?_;have t:Chg (λi=>i=c.heap.size) w4 y:=Chg.of_grown I λk a=>by cases a;rfl
  have u:=G.chg t (m d.lt);have v:=H;have Q:=((zC f g).drew.trans (l.below (by show n.heap.size<=z.heap.size;omega) λi R e=>by omega)).trans (t.below (by rw [D];show n.heap.size<=z.heap.size;omega) λi R e=>by omega);have a:=M y Q;refine lI (by have:=u.cells 1 _ rfl;simpa using this) (xj a λa=>?_);exact qz (x:={ p with Image:=o.Image,Id:=o.Id }) v.cells (qz u.cells a)
 refine yG (by kernel_rfl) (Calls.mono h ?_);rintro e T ⟨r,rfl,a⟩;exact ⟨r,rfl,a⟩
theorem kj (w:World):Uc w w.drew:=(Below.refl _ w).drew
theorem qsk {s:Slc} (hs:Rd qR w s T) (hl:T.length<=100000) {K:Slc->Ub} (hK:∀r w',Go.Vc.Own qR w' w.heap.size r T->Uc w w'->K r w'):jd s w K:=by
 refine Qh _ ?_;cases ha:s.a with
 | none =>
  have d:T=[]:=by
   cases T with
   | nil=>rfl
   | cons p r =>
    have:=hs.some_ (by simp);rw [ha] at this;cases this
  rw [d] at hK;exact hK _ w (Own.nil _ _ _) (Below.refl _ _)
 | some a =>
  refine cF rfl (nwb λl e b f=>?_);have c:=b.size;refine jW jY (qb3 e (le_refl _)) (hs.ext b) c (by rw [Q4];simp;omega) (by simp;unfold maxLen;omega) λr g h i m=>?_;exact hK r g (by simpa using h) (b.grown i c λk j=>by cases j;exact le_refl _)
theorem q86 (h:PlTM w base g q T) (hl:T.length<=100000) (hbase:base<=w.heap.size) (x:Int) {K:Int->Ub}
  (hK:∀n q' w',PlTM w' base g q' (T.filter λp=>!(p.Image==x))->(∀k,q'.blk=some k->w.heap.size<=k)->Chg (λk=>k=g) w w'->K n w'):JF (some ⟨g,0,none⟩) x w K:=by
 refine qmb _ _ ?_;refine nwb λs b a c=>?_;refine qny (h.ext a) hl (le_trans hbase a.size) (zfx b) λr q' d t e f j l=>?_;exact hK _ q' d e (λk m=>le_trans a.size (f k m)) ((Chg.of_ext a).trans l λi _ o=>o)
theorem q5t (h:PlTM w base g q T) (hl:T.length<=100000) (hbase:base<=w.heap.size) (alt:Bool) (first:Int) {K:Slc->Ub}
  (hK:∀r q' w',Go.Vc.Own qR w' w.heap.size r (T.filter (q3k alt first))->PlTM w' base g q' (T.filter λp=>!q3k alt first p)->(∀k,q'.blk=some k->w.heap.size<=k)->(∀k,r.blk=some k->q'.blk≠some k)->Chg (λk=>k=g) w w'->K r w'):ZI (some ⟨g,0,none⟩) alt first w K:=by
 refine qkw _ _ _ ?_;refine nwb λx f b j=>nwb λy d a l=>?_;have c:=zC b a;refine qny ((h.ext b).ext a) hl (le_trans hbase c.size) (zbu (f.ext a) d) λr q' m n o s e t=>?_;exact hK r q' m (n.base c.size) o (λk u=>le_trans c.size (s k u)) e ((Chg.of_ext c).trans t λi _ v=>v)
theorem zam (h:PlTM w base g q T) (hl:T.length<=99999) (hbase:base<=w.heap.size) (p:Pl) {K:Int->Ub}
  (hE:q3i p=false->∀w',Uc w w'->K 1 w')
  (hK:q3i p=true->∀q' w',PlTM w' base g q' ((T.filter λo=>!qte p o)++[p])->(∀k,q'.blk=some k->w.heap.size<=k)->Chg (λk=>k=g) w w'->K 0 w'):Kd (some ⟨g,0,none⟩) p w K:=by
 refine qnz _ _ ?_;refine nwb λw1 t u U=>?_;refine qz t.cells (zcg λV j=>?_);have v:=zC u j;have z:=t.ext j;cases hm:q3i p
 ·exact cT rfl (hE hm _ v)
 ·have W:=(h.ext u).ext j;have bg:=h.blk.lt;refine qny W (by omega) (le_trans hbase v.size) (zi1 z) λr q' m hr X P Y D=>?_;simp only [onPtr_some];have f:=X.drew;have F:=(z.chg D λe=>by omega).drew;have Z:(T.filter λo=>!qte p o).length<=T.length:=List.length_filter_le _ _;refine lSl (f.blk.cells 0 _ rfl) (qz F.cells ?_);have z3:=D.size;have z2:=v.size;refine nwb λw4 G b aa=>⟨(f.blk.ext b).cells 0 _ rfl,?_⟩;refine jW jY (f.own.ext b) (y9 G rfl) (by show base<=w4.heap.size;have:=b.size;have e:m.drew.heap.size=m.heap.size:=rfl;omega) (by
    show ((T.filter λo=>!qte p o).length+1)*jY.i.bytes<=_;rw [Q4];omega) (by
    show (T.filter λo=>!qte p o).length+1<=maxLen;unfold maxLen;omega) λQ H I A J=>?_
  have l:=(f.blk.ext b).grown A λe=>(f.ext b).ne g e.symm rfl;refine qD l (by simp) λR L M ab=>?_;have B:Chg (λi=>i=g) H R:=Chg.of_grown M λk d=>by cases d;rfl
  have C:∀k,Q.blk=some k->V.heap.size<=k:=by
   intro k d;rcases J with e | e
   ·rw [e] at d;exact P k d
   ·rw [e] at d;cases d;have e:m.drew.heap.size=m.heap.size:=rfl;omega
  have N:=I.chg B λk d e=>by have:=C k d;omega
  have O:Chg (λk=>k=g) w H:=by
   refine (Chg.of_ext v).trans ((D.trans (Chg.of_ext (zC (kj m) b)) λi _ s=>s).trans (Chg.of_grown A λk d=>d) ?_) λi _ s=>s;intro i s e;have:=P i e;omega
  exact hK hm Q R ⟨L,h.hg,N⟩ (λk d=>le_trans v.size (C k d)) (O.trans B λi _ s=>s)
theorem za9 (h:PlTM w base g q T) (hl:T.length<=100000) (x:Int) {K:Bool->Ub} (hK:∀w',Uc w w'->K (T.any λp=>p.Image==x) w'):X3 (some ⟨g,0,none⟩) x w K:=by
 refine qok _ _ ?_;refine nwb λw1 hb hB1 hs1=>?_;have h1:=h.ext hB1;refine lSl (h1.blk.cells 0 _ rfl) ?_;refine vA _ _ ?_;refine ym _ _ ?_;have hn:=h.own.rd.n;have hG:=zh6 hb;refine lpR (λ(st:Int×Unit) w2=>∃k:Nat,st.1=(k:Int)/\k<=T.length/\Uc w1 w2/\(T.take k).any (λp=>p.Image==x)=false) (λst=>T.length-st.1.toNat) ⟨0,rfl,Nat.zero_le _,Below.refl _ _,rfl⟩ ?_;rintro ⟨i,u⟩ w2 ⟨k,hi,hk,hB2,hany⟩ I hI;subst hi;have h2:=h1.ext hB2;have B2:=zC hB1 hB2;refine cO (λe=>?_) λe=>?_
 ·have e:=oTq e;have hlt:k<T.length:=by omega
  obtain ⟨p,hp⟩:∃p,T[k]?=some p:=⟨_,List.getElem?_eq_getElem hlt⟩;refine h2.own.rd.ix rfl (by omega) (by omega) λhx=>?_;have hx:qG w2 (q.at_ qR.k (k:Int).toNat) (qm.rep.cells p):=by
   simp only [Int.toNat_natCast] at hx ⊢;have e1:=(List.getElem?_eq_some_iff.1 hp).2;rw [e1] at hx;exact hx
  refine qz hx ?_;refine hG w2 p _ hB2 λw3 hB3=>?_;have tk:T.take (k+1)=T.take k++[p]:=by rw [List.take_add_one,hp];rfl
  refine cO (λhf=>?_) λhf=>?_
  ·rw [dTq (by omega)];have:(T.any λp=>p.Image==x)=true:=List.any_eq_true.2 ⟨p,List.mem_of_getElem? hp,hf⟩;rw [<-this];exact hK w3 (zC B2 hB3)
  ·rw [qM (by omega)];refine hI _ _ ⟨k+1,by simp,by omega,zC hB2 hB3,?_⟩ (by dsimp only;omega);rw [tk,List.any_append,hany];simp [hf]
 ·have e:=oFq e;have hkT:k=T.length:=by omega
  subst hkT;rw [List.take_length] at hany;rw [dFq (by omega),<-hany];exact hK w2 B2
theorem qy6 (h:PlTM w base g q T) (hl:T.length<=100000) {K:Slc->Ub} (hK:∀r w',Go.Vc.Own qR w' w.heap.size r T->Uc w w'->K r w'):QB (some ⟨g,0,none⟩) w K:=by
 refine qoh _ ?_;refine lSl (h.blk.cells 0 _ rfl) ?_;exact qsk h.own.rd hl hK
end
end Go.Proofs.YtjhgepnpnapnoaaGreatDoor
namespace Go.Vc
open Go.RowKit
open Go.ChangeMaps (setBlock)
open _root_.List (mem_cons mem_filter mem_map)
open _root_.Nat (le_refl)
section
variable {V:Type} (enc:V->Value)
def qs6 (w:World) (r it:Nat) (L todo:List (Int×V)):Prop :=
 ∃E c since Zw c0,MapE enc w r E c/\(yD E).Perm L/\Srt L/\w.heap[it]?=some (.mapIter (some r) since Zw c0)/\(∀e∈E,e.b<since)/\since<=c0/\since<=c /\
  (yD (E.filter λe=>!Zw.contains e.b)).Perm todo
variable {enc}
variable {P:Program} {t kt et:TypeId} {w:World} {r it:Nat} {L todo:List (Int×V)}
theorem qs6.map (h:qs6 enc w r it L todo):jf enc w r L:=by
 obtain ⟨E,c,_,_,_,a,b,d,_⟩:=h;exact ⟨E,c,a,b,d⟩
theorem qs6.keep {w':World} (h:qs6 enc w r it L todo) (hr:w'.heap[r]?=w.heap[r]?) (hi:w'.heap[it]?=w.heap[it]?):qs6 enc w' r it L todo:=by
 obtain ⟨E,c,a,Zw,d,b,e,f,g,i⟩:=h;exact ⟨E,c,a,Zw,d,⟨hr.trans b.heap,b.keys,b.stamps,b.lt,b.wf⟩,e,f,hi.trans g,i⟩
theorem qs6.it_lt (h:qs6 enc w r it L todo):it<w.heap.size:=by
 obtain ⟨E,c,a,Zw,d,e,f,g,b,i⟩:=h;exact (Array.getElem?_eq_some_iff.1 b).1
theorem qs6.ext {w':World} (h:qs6 enc w r it L todo) (hb:Uc w w'):qs6 enc w' r it L todo:=h.keep (hb.block r h.map.lt) (hb.block it h.it_lt)
theorem zb7 (hM:jf enc w r L) (ht:P.underlying t=some (.map kt et)) {K:Addr->Ub}
  (hK:∀w',qs6 enc w' r w.heap.size L L->Uc w w'->w'.heap.size=w.heap.size+1->K ⟨w.heap.size,0,none⟩ w'):zb0 P t (.map (some r)) w K:=by
 obtain ⟨E,c,a,b,e⟩:=hM;have d:Uc w (w.alloc (.mapIter (some r) c #[] c)):=(Below.refl _ w).alloc (le_refl _) _;refine ⟨_,w.alloc (.mapIter (some r) c #[] c),?_,hK _ ⟨E,c,c,#[],c,⟨(d.block r a.lt_heap).trans a.heap,a.keys,a.stamps,a.lt,a.wf⟩,b,e,?_,a.lt,le_refl _,le_refl _,?_⟩ d (by show (w.heap.push _).size=_;simp)⟩
 ·simp [Instr.range,run_underlying ht,ve a.heap,Sem.run]
 ·show (w.heap.push _)[w.heap.size]?=_;simp
 ·rw [List.filter_eq_self.2 (λx _=>by simp)];exact b
theorem qyk {E:List (Ent V)} {Zw:Array Nat} {x:MapEntry} (h:x∈(leftOf (E.map (Ent.val enc)).toArray Zw).toList):∃e∈E.filter (λe=>!Zw.contains e.b),Ent.val enc e=x:=by
 unfold leftOf at h;rw [Array.toList_filter] at h;obtain ⟨a,c⟩:=mem_filter.1 h;obtain ⟨e,d,rfl⟩:=mem_map.1 a;exact ⟨e,mem_filter.2 ⟨d,c⟩,rfl⟩
theorem zfr {E:List (Ent V)} {Zw:Array Nat}:(leftOf (E.map (Ent.val enc)).toArray Zw).size=(E.filter (λe=>!Zw.contains e.b)).length:=by
 unfold leftOf;rw [<-Array.length_toList,Array.toList_filter,List.filter_map,List.length_map];rfl
theorem q1b {E:List (Ent V)} (h:E.Pairwise λx y=>x.k≠y.k):E.Nodup:=h.imp λa e=>a (congrArg Ent.k e)
theorem zog {E:List (Ent V)} (h:E.Pairwise λx y=>x.b<y.b):∀{x y},x∈E->y∈E->x.b=y.b->x=y:=by
 induction E with
 | nil=>intro x y c;cases c
 | cons a E g =>
  have f:=List.pairwise_cons.1 h;intro x y c d e;rcases mem_cons.1 c with rfl | c
  ·rcases mem_cons.1 d with rfl | d
   ·rfl
   ·have:=f.1 y d;omega
  ·rcases mem_cons.1 d with i | d
   ·rw [i] at e;have:=f.1 x c;omega
   ·exact g f.2 c d e
theorem q8f {E:List (Ent V)} (h1:E.Pairwise λx y=>x.k≠y.k) (h2:E.Pairwise λx y=>x.b<y.b) {Zw:Array Nat} {e:Ent V} (he:e∈E.filter λe=>!Zw.contains e.b) :
  (E.filter λx=>!Zw.contains x.b).Perm (e::E.filter λx=>!(Zw.push e.b).contains x.b):=by
 have a:=(mem_filter.1 he).1;have d:e ∉ E.filter λx=>!(Zw.push e.b).contains x.b:=λh=>by simp at h
 refine (List.perm_ext_iff_of_nodup ((q1b h1).filter _) (List.nodup_cons.2 ⟨d,(q1b h1).filter _⟩)).2 λx=>?_;rw [mem_cons,mem_filter,mem_filter];simp only [Array.contains_eq_mem,Array.mem_push,Bool.not_eq_true',decide_eq_false_iff_not];constructor
 ·rintro ⟨c,f⟩;by_cases hxe:x=e
  ·exact .inl hxe
  ·refine .inr ⟨c,λh=>?_⟩;rcases h with h | h
   ·exact f h
   ·exact hxe (zog h2 c a h)
 ·rintro (rfl | ⟨c,h⟩)
  ·have:=(mem_filter.1 he).2;simp only [Array.contains_eq_mem,Bool.not_eq_true',decide_eq_false_iff_not] at this;exact ⟨a,this⟩
  ·exact ⟨c,λf=>h (.inl f)⟩
theorem ze6 (hM:qs6 enc w r it L todo) (ty:TypeId) {K0:Ub} {K1:Value->Value->Ub} (h0:todo=[]->K0 w)
  (h1:∀k v w' todo',todo.Perm ((k,v)::todo')->qs6 enc w' r it L todo'->Chg (λi=>i=it) w w'->w'.heap.size=w.heap.size ->
   ((Instr.entry (.pointer (some ⟨it,0,none⟩))).run P w'=.ok (.tuple #[.int .i64 k,enc v]) w')->K1 (Ua k) (enc v) w') :
  zg8 P (.pointer (some ⟨it,0,none⟩)) false ty w K0 K1:=by
 obtain ⟨E,c,d,Zw,B,g,C,D,p,l,q,m,j⟩:=hM;have s:it≠r:=by
  rintro rfl;have:=g.heap;rw [p] at this;cases this
 rcases run_next_at w ty it r d B Zw _ c p g.heap (λx t=>by
   obtain ⟨e,o,rfl⟩:=mem_map.1 t;exact l e o) q with ⟨hz,hrun⟩ | ⟨x,t,w1,hw1,hrun⟩
 ·refine .inl ⟨w,hrun,h0 ?_⟩;rw [zfr] at hz;rw [List.eq_nil_of_length_eq_zero hz] at j;exact j.symm.eq_nil
 ·obtain ⟨e,o,rfl⟩:=qyk t;have u:=(mem_filter.1 o).1;have y:w1.heap[it]?=some (.mapIter (some r) d Zw B):=by rcases hw1 with rfl | rfl<;>exact p
  have z:w1.heap[r]?=some (.map (E.map (Ent.val enc)).toArray c):=by rcases hw1 with rfl | rfl<;>exact g.heap
  have F:w1.heap.size=w.heap.size:=by rcases hw1 with rfl | rfl<;>rfl
  have f:=Go.MapKept.heap_set (o':=.mapIter (some r) d (Zw.push e.b) c) y;have n:=(f.2 r (λG=>s G.symm)).trans z;have A:=q8f g.keys g.stamps o;refine .inr ⟨.int .i64 e.k,enc e.v,_,hrun,h1 e.k e.v _ (yD (E.filter λx=>!(Zw.push e.b).contains x.b)) ?_ ⟨E,c,d,Zw.push e.b,c,⟨n,g.keys,g.stamps,g.lt,g.wf⟩,C,D,f.1,l,m,m,.refl _⟩ ?_ ?_ ?_⟩
  ·refine j.symm.trans ?_;exact A.map λe=>(e.k,e.v)
  ·refine ⟨?_,?_,?_,?_,λk I H=>?_⟩
   ·rcases hw1 with rfl | rfl<;>rfl
   ·rcases hw1 with rfl | rfl<;>rfl
   ·rcases hw1 with rfl | rfl<;>rfl
   ·rcases hw1 with rfl | rfl<;>simp [setBlock]
   ·rcases hw1 with rfl | rfl<;>exact f.2 k H
  ·rcases hw1 with rfl | rfl<;>simp [setBlock]
  ·refine run_entry_at _ it r d Zw _ c (Ent.val enc e) f.1 n (mem_map.2 ⟨e,u,rfl⟩) ?_;rw [List.map_map];exact List.pairwise_map.2 (g.stamps.imp λ{a b} h (e:a.b=b.b)=>by rw [e] at h;exact Nat.lt_irrefl _ h)
theorem q12 (hM:jf enc w r L) (t:TypeId) :
  ∃w',(Extern.MapsClone.clone #[.iface t (.map (some r))]).run P w=.ok (.iface t (.map (some w.heap.size))) w'/\jf enc w' w.heap.size L/\Uc w w'/\w'.heap.size=w.heap.size+1:=by
 obtain ⟨E,c,b,d,f⟩:=hM;have g:Uc w (w.alloc (.map (E.map (Ent.val enc)).toArray c)):=(Below.refl _ w).alloc (le_refl _) _;refine ⟨_,?_,⟨E,c,⟨?_,b.keys,b.stamps,b.lt,b.wf⟩,d,f⟩,g,by show (w.heap.push _).size=_;simp⟩
 ·have e:Extern.MapsClone.clone #[.iface t (.map (some r))]=(getObj r >>= λo=>match o with
   | .map entries clock=>(newObj (.map entries clock) >>= λn=>pure (.iface t (.map (some n))))
   | _ => stuck "maps.clone: a map expected") := rfl
  rw [e];simp [ve b.heap,Sem.run]
 ·show (w.heap.push _)[w.heap.size]?=_;simp
theorem qr2 {xT k e:TypeId} {v:Value} (h:P.underlying t=some (.map k e)):(Instr.typeAssert (.iface t v) xT t false).run P w=.ok v w:=by
 simp [Instr.typeAssert,run_underlying h]
end
end Go.Vc
namespace Go.Proofs.YtjhgepnpnapnoaaGreatDoor
open Go.Vc Go.RowKit
set_option maxRecDepth 100000
open _root_.List (mem_append mem_cons mem_cons_of_mem mem_cons_self mem_singleton)
open _root_.Nat (le_refl zero_le)
theorem qn1 {w:World} {T:Type} {E:El T} {b g:Nat} {s:Slc} {xs:List T} {t:TypeId} {vs:List Value} (h:Go.Vc.Own E w b s xs) (h':Blk w g t vs) (hne:E.t≠t):∀k,s.blk=some k->k≠g:=λk c=>by
 obtain ⟨d,a⟩:=h.blk_t c;exact a.ne_t h' hne
theorem q82 {T:Type} {E:El T} {w:World} {s:Slc} {xs:List T} (h:Rd E w s xs) (hp:0<xs.length):∀a,s.a=some a->a.block<w.heap.size:=λa b=>by
 have:=h.lt hp;simpa [Slc.at_,b] using this
theorem qo9 {T:Type} {E:El T} {Sx:Nat->Prop} {w w':World} {s:Slc} {xs:List T} (h:Rd E w s xs) (hc:Chg Sx w w') (hg:0<xs.length->∀a,s.a=some a->¬Sx a.block):Rd E w' s xs:=by
 cases xs with
 | nil=>exact ⟨h.n,h.nc,h.cm,h.some_,λi x b=>by simp at b⟩
 | cons x xs=>exact h.chg hc (hg (by simp))
structure Hold (w:World) (base:Nat) (s:Slc) (xs:List UInt8):Prop where
 rd:Rd qo w s xs
 blk:∀k,s.blk=some k->base<=k/\∃cs,Blk w k qF cs
theorem q6j {w:World} {base:Nat} {s:Slc} {xs:List UInt8} (h:Go.Vc.Own qo w base s xs):Hold w base s xs:=⟨h.rd,λk a=>⟨(h.lt k a).1,h.blk_t a⟩⟩
theorem Hold.base {w:World} {base base':Nat} {s:Slc} {xs:List UInt8} (h:Hold w base s xs) (hb:base'<=base):Hold w base' s xs:=⟨h.rd,λk a=>⟨Nat.le_trans hb (h.blk k a).1,(h.blk k a).2⟩⟩
theorem Hold.chg {Sx:Nat->Prop} {w w':World} {base:Nat} {s:Slc} {xs:List UInt8} (h:Hold w base s xs) (hc:Chg Sx w w') (hg:∀k,s.blk=some k->¬Sx k):Hold w' base s xs :=
 ⟨h.rd.chg hc λa c=>hg _ (slk.2 ⟨a,c,rfl⟩),λk b=>by
  obtain ⟨d,e,f⟩:=h.blk k b;exact ⟨d,e,f.chg hc (hg k b)⟩⟩
theorem Hold.ext {w w':World} {base:Nat} {s:Slc} {xs:List UInt8} (h:Hold w base s xs) (hb:Uc w w'):Hold w' base s xs :=
 ⟨h.rd.ext hb,λk a=>by
  obtain ⟨b,c,d⟩:=h.blk k a;exact ⟨b,c,d.ext hb⟩⟩
theorem Hold.drew {w:World} {base:Nat} {s:Slc} {xs:List UInt8} (h:Hold w base s xs):Hold w.drew base s xs:=⟨h.rd.drew,h.blk⟩
theorem Hold.lt {w:World} {base:Nat} {s:Slc} {xs:List UInt8} (h:Hold w base s xs):∀k,s.blk=some k->base<=k/\k<w.heap.size:=λk a=>by
 obtain ⟨b,d,c⟩:=h.blk k a;exact ⟨b,c.lt⟩
theorem Hold.ne_b {w:World} {base g:Nat} {s:Slc} {xs:List UInt8} {t:TypeId} {vs:List Value} (h:Hold w base s xs) (h':Blk w g t vs) (hne:qF≠t):∀k,s.blk=some k->k≠g:=λk a=>by
 obtain ⟨_,c,b⟩:=h.blk k a;exact b.ne_t h' hne
theorem Hold.ne_o {w:World} {base b':Nat} {s s':Slc} {xs:List UInt8} {T':Type} {E':El T'} {ys:List T'} (h:Hold w base s xs) (h':Go.Vc.Own E' w b' s' ys) (hne:qF≠E'.t):∀k,s.blk=some k->s'.blk≠some k:=λk b e=>by
 obtain ⟨_,f,c⟩:=h.blk k b;obtain ⟨d,a⟩:=h'.blk_t e;exact c.ne_t a hne rfl
theorem Hold.ne_m {V:Type} {enc:V->Value} {w:World} {base r:Nat} {s:Slc} {xs:List UInt8} {L:List (Int×V)} (h:Hold w base s xs) (hM:jf enc w r L):∀k,s.blk=some k->k≠r:=λk a=>by
 obtain ⟨_,c,b⟩:=h.blk k a;exact λe=>hM.ne_blk b e.symm
abbrev quc:qL:=⟨0,⟨0,0,⟨none,0,0⟩⟩,0,0⟩
structure Im where
 v:qL
 bs:List UInt8
def Im.enc (x:Im):Value:=.agg (qL.rep.cells x.v).toArray
structure St where
 quota:Int
 res:Int
 used:Int
 clock:Int
 L:List (Int×Im)
def St.cells (S:St) (r:Nat):List Value:=[(Ua S.quota),(Ua S.res),(Ua S.used),(Ua S.clock),(.map (some r))]
structure StM (w:World) (base g r:Nat) (S:St):Prop where
 blk:Blk w g zU (S.cells r)
 map:jf Im.enc w r S.L
 img:∀p∈S.L,Hold w base p.2.v.m.P p.2.bs
theorem q8s:PG.underlying qO=some (.map zJ jx):=by kernel_rfl
theorem zao:PG.underlying zJ=some (.int .i64):=by kernel_rfl
theorem zom:∀w,(zeroValue jx).run PG w=.ok (Im.enc ⟨quc,[]⟩) w:=Tryz.zeroValue71
section
variable {w w':World} {base g r:Nat} {S:St}
theorem StM.keep {Sx:Nat->Prop} (h:StM w base g r S) (hc:Chg Sx w w') (hg:¬Sx g) (hr:¬Sx r) (hi:∀p∈S.L,∀k,p.2.v.m.P.blk=some k->¬Sx k):StM w' base g r S :=
 ⟨h.blk.chg hc hg,h.map.chg hc hr,λp a=>(h.img p a).chg hc (hi p a)⟩
theorem StM.ext (h:StM w base g r S) (hb:Uc w w'):StM w' base g r S:=⟨h.blk.ext hb,h.map.ext hb,λp a=>(h.img p a).ext hb⟩
theorem StM.drew (h:StM w base g r S):StM w.drew base g r S:=⟨h.blk,h.map.keep rfl,λp a=>(h.img p a).drew⟩
theorem StM.ne (h:StM w base g r S):r≠g:=h.map.ne_blk h.blk
theorem StM.img_ne (h:StM w base g r S) {p:Int×Im} (hp:p∈S.L) {k:Nat} (hk:p.2.v.m.P.blk=some k):k≠g/\k≠r :=
 ⟨(h.img p hp).ne_b h.blk (by decide) k hk,(h.img p hp).ne_m h.map k hk⟩
theorem qo4 {L:List (Int×Im)} (h:jf Im.enc w r L) (id:Int) {K:qL->Bool->Ub} (hK:K (((zy L id).map Im.v).getD quc) (zy L id).isSome w) :
  qep PG (Instr.lookup qO (.map (some r)) (Ua id) true) (Kind.struct qL.rep) Kind.bool w K:=by
 refine ⟨_,_,w,?_,hK⟩;rw [h.lookup_ok q8s zao zom id];cases zy L id<;>rfl
theorem qx9 {L:List (Int×Im)} (h:jf Im.enc w r L) (id:Int) {K:qL->Ub} (hK:K (((zy L id).map Im.v).getD quc) w) :
  zO PG (Instr.lookup qO (.map (some r)) (Ua id) false) (Kind.struct qL.rep) w K:=by
 refine ⟨_,w,?_,hK⟩;rw [h.lookup q8s zao zom id];cases zy L id<;>rfl
theorem qU {a:Addr} {K:Addr->Prop} (h:K a):qH (some a) K:=h
theorem qey {v:qL} {K:Addr->Ub}
  (hK:∀w',Blk w' w.heap.size jx (qL.rep.cells v)->Uc w w'->w'.heap.size=w.heap.size+1->K ⟨w.heap.size,0,none⟩ w') :
  nw jx [(Ua 0),(Ua 0),(Ua 0),(.slice none 0 0),(Ua 0),(Ua 0)] w λa w1=>stK a (qL.rep.cells v) w1 λw2=>K a w2 :=
 jS rfl hK
theorem zlb (h:StM w base g r S) (id:Int) {K:Bool->Ub} (hK:∀w',Uc w w'->K (zy S.L id).isSome w'):V1 (some ⟨g,0,none⟩) id w K:=by
 refine qpt _ _ ?_;refine qU (km (h.blk.cells 4 _ rfl) (qo4 h.map id ?_));exact qey λw' _ a _=>hK w' a
theorem qui (h:StM w base g r S) (id:Int) {K:qf->Bool->Ub} (hK:∀w',Uc w w'->K (((zy S.L id).map Im.v).getD quc).m (zy S.L id).isSome w'):xD (some ⟨g,0,none⟩) id w K:=by
 refine Ys _ _ ?_;generalize hv:((zy S.L id).map Im.v).getD quc=v at hK;refine nwb λy f b q=>?_;have o:=h.ext b;refine qU (km (o.blk.cells 4 _ rfl) (qo4 o.map id ?_));rw [hv];refine qey λz j c s=>?_;refine qz (j.sub 1 _ rfl) ?_;have d:=f.ext c;refine qD d (by simp [qf.rep]) λl a n t=>?_;refine qz a.cells (hK l ?_);have u:=(Chg.of_ext (b.trans (c.mono (by omega)))).trans (Go.Vc.Chg.gg n) λi _ p=>p;exact u.ext λi p e=>by omega
end
def KL (L:List (Int×Im)):Nat:=(L.map λp=>p.2.bs.length).sum
structure StOk (n:Nat) (S:St):Prop where
 q0:0<=S.quota
 q1:S.quota<=1073741824
 used:S.used=KL S.L
 fits:S.used<=S.quota
 len:S.L.length<=n
 clk0:0<=S.clock
 clk:S.clock<=n
 srt:Srt S.L
 keys:∀p∈S.L,0<p.1/\p.1<=1099511627776+n
 stamps:∀p∈S.L,0<p.2.v.stamp/\p.2.v.stamp<=S.clock
 borns:∀p∈S.L,0<p.2.v.born/\p.2.v.born<=S.clock
 st1:∀p∈S.L,∀q∈S.L,p.2.v.stamp=q.2.v.stamp->p=q
 bo1:∀p∈S.L,∀q∈S.L,p.2.v.born=q.2.v.born->p=q
theorem q2u:KL []=0:=rfl
theorem vg (p:Int×Im) (L:List (Int×Im)):KL (p::L)=p.2.bs.length+KL L:=rfl
theorem q2i {L:List (Int×Im)} {p:Int×Im} (h:p∈L):p.2.bs.length<=KL L:=by
 induction L with
 | nil=>cases h
 | cons a L b =>
  rw [vg];rcases mem_cons.1 h with rfl | h
  ·omega
  ·have:=b h;omega
theorem q38 {L:List (Int×Im)} {k:Int} (h:∀p∈L,p.1≠k):Go.Vc.delL L k=L:=List.filter_eq_self.2 λp a=>by simpa using h p a
theorem qvx {L:List (Int×Im)} {k:Int} (h:zy L k=none):∀p∈L,p.1≠k:=λp a e=>by
 unfold zy at h;rw [Option.map_eq_none_iff,List.find?_eq_none] at h;exact h p a (by simpa using e)
theorem zgf {L:List (Int×Im)} (hs:Srt L) {k:Int} {x:Im} (h:(k,x)∈L):KL (Go.Vc.delL L k)+x.bs.length=KL L:=by
 induction L with
 | nil=>cases h
 | cons a L c =>
  have b:=List.pairwise_cons.1 hs;unfold Go.Vc.delL;rw [List.filter_cons];rcases mem_cons.1 h with rfl | h
  ·have:(List.filter (λp:Int×Im=>p.1 !=k) L)=L:=q38 λp d=>by have:=b.1 p d;omega
   simp only [bne_self_eq_false,Bool.false_eq_true,if_false,this,vg];omega
  ·have e:=b.1 _ h;have:(a.1 !=k)=true:=by simp only [bne_iff_ne];omega
   rw [if_pos this,vg,vg];have:=c b.2 h;unfold Go.Vc.delL at this;omega
theorem q1r {L:List (Int×Im)} (k:Int):(Go.Vc.delL L k).length<=L.length:=List.length_filter_le _ _
theorem qsc {L:List (Int×Im)} {k:Int} {x:Im} (h:(k,x)∈L):(Go.Vc.delL L k).length<L.length:=by
 exact List.length_filter_lt_length_iff_exists.2 ⟨_,h,by simp⟩
theorem qbn {L:List (Int×Im)} {k:Int} {p:Int×Im} (h:p∈Go.Vc.delL L k):p∈L:=(List.mem_filter.1 h).1
def q1j (L:List (Int×Im)) (k:Int):Nat:=((zy L k).map λx=>x.bs.length).getD 0
theorem zmd {L:List (Int×Im)} (hs:Srt L) (k:Int):q1j L k<=KL L:=by
 unfold q1j;cases h:zy L k with
 | none=>exact zero_le _
 | some x=>exact q2i ((xF hs).1 h)
theorem zb5 {L:List (Int×Im)} (hs:Srt L) (k:Int):KL (Go.Vc.delL L k)+q1j L k=KL L:=by
 unfold q1j;cases h:zy L k with
 | none=>rw [q38 (qvx h)];rfl
 | some x=>exact zgf hs ((xF hs).1 h)
def St.drop (S:St) (k:Int):St:={ S with used:=S.used-(q1j S.L k:Int),L:=Go.Vc.delL S.L k }
theorem qpc {n:Nat} {S:St} (h:StOk n S) (k:Int):StOk n (S.drop k):=by
 have c:=zb5 h.srt k;have d:=h.used;have e:=h.fits;exact ⟨h.q0,h.q1,by show S.used-(q1j S.L k:Int)=(KL (Go.Vc.delL S.L k):Int);omega,by show S.used-(q1j S.L k:Int)<=S.quota;omega,
  Nat.le_trans (q1r k) h.len,h.clk0,h.clk,qzv h.srt k,λp a=>h.keys p (qbn a),λp a=>h.stamps p (qbn a),λp a=>h.borns p (qbn a),
  λp a q b=>h.st1 p (qbn a) q (qbn b),λp a q b=>h.bo1 p (qbn a) q (qbn b)⟩
def q1i:(Int×Im)->List (Int×Im)->Int×Im
 | p,[]=>p
 | p,q::r=>if q.2.v.stamp<p.2.v.stamp then q1i q r else q1i p r
theorem qts:∀(L:List (Int×Im)) (p:Int×Im),q1i p L∈p::L
 | [],p=>by simp [q1i]
 | q::r,p=>by
  unfold q1i;split
  ·exact mem_cons_of_mem _ (qts r q)
  ·rcases mem_cons.1 (qts r p) with e | e
   ·rw [e];exact mem_cons_self
   ·exact mem_cons_of_mem _ (mem_cons_of_mem _ e)
theorem q4t:∀(L:List (Int×Im)) (p:Int×Im),∀x∈p::L,(q1i p L).2.v.stamp<=x.2.v.stamp
 | [],p=>λx a=>by
  rw [mem_singleton] at a;subst a;exact Int.le_refl _
 | q::r,p=>λx a=>by
  unfold q1i;split
  ·have b:=q4t r q;rcases mem_cons.1 a with rfl | a
   ·have:=b q mem_cons_self;omega
   ·exact b x a
  ·have b:=q4t r p;rcases mem_cons.1 a with rfl | a
   ·exact b x mem_cons_self
   ·rcases mem_cons.1 a with rfl | a
    ·have:=b p mem_cons_self;omega
    ·exact b x (mem_cons_of_mem _ a)
def Qz:List (Int×Im)->Int
 | []=>0
 | p::r=>(q1i p r).1
theorem zct {n:Nat} {S:St} (h:StOk n S) {p:Int×Im} (hp:p∈S.L) (hmin:∀q∈S.L,p.2.v.stamp<=q.2.v.stamp):Qz S.L=p.1:=by
 cases hL:S.L with
 | nil=>rw [hL] at hp;cases hp
 | cons a r =>
  rw [hL] at hp hmin;have b:=qts r a;have c:=q4t r a p hp;have d:=hmin _ b;have:=h.st1 p (by rw [hL];exact hp) _ (by rw [hL];exact b) (by omega);show (q1i a r).1=p.1;rw [<-this]
theorem qq6 {L:List (Int×Im)} (h:L≠[]):∃x,(Qz L,x)∈L:=by
 cases L with
 | nil=>exact absurd rfl h
 | cons a r=>exact ⟨(q1i a r).2,qts r a⟩
def St.roomF (n:Int):Nat->St->List Int->St×List Int
 | 0,S,G=>(S,G)
 | f+1,S,G=>if S.used>S.quota-n/\0<S.L.length then St.roomF n f (S.drop (Qz S.L)) (G++[Qz S.L]) else (S,G)
def St.room (S:St) (n:Int):St×List Int:=S.roomF n S.L.length []
theorem qyy (n:Int):∀(f:Nat) (S:St) (G:List Int),S.L.length<=f->S.roomF n (f+1) G=S.roomF n f G
 | 0,S,G,h=>by
  show (if S.used>S.quota-n/\0<S.L.length then _ else (S,G))=(S,G);rw [if_neg (by omega)]
 | f+1,S,G,h=>by
  show (if S.used>S.quota-n/\0<S.L.length then St.roomF n (f+1) (S.drop (Qz S.L)) (G++[Qz S.L]) else (S,G))=(if S.used>S.quota-n/\0<S.L.length then St.roomF n f (S.drop (Qz S.L)) (G++[Qz S.L]) else (S,G));by_cases hc:S.used>S.quota-n/\0<S.L.length
  ·rw [if_pos hc,if_pos hc];refine qyy n f _ _ ?_;obtain ⟨x,a⟩:=qq6 (L:=S.L) (by intro e;rw [e] at hc;simp at hc);have:=qsc a;show (Go.Vc.delL S.L (Qz S.L)).length<=f;omega
  ·rw [if_neg hc,if_neg hc]
theorem ziu (n:Int) {f:Nat} {S:St} {G:List Int} (h:S.L.length<=f):S.roomF n f G=S.roomF n S.L.length G:=by
 induction f with
 | zero=>rw [show S.L.length=0 by omega]
 | succ f a =>
  by_cases hf:S.L.length=f+1
  ·rw [hf]
  ·rw [qyy n f S G (by omega),a (by omega)]
theorem qcv {m:Nat} (n:Int):∀(f:Nat) {S:St} {G:List Int},StOk m S->StOk m (S.roomF n f G).1
 | 0,_,_,h=>h
 | f+1,S,G,h=>by
  unfold St.roomF;split
  ·exact qcv n f (qpc h _)
  ·exact h
theorem qsw (n:Int):∀(f:Nat) (S:St) (G:List Int),(S.roomF n f G).1.quota=S.quota/\(S.roomF n f G).1.res=S.res/\(S.roomF n f G).1.clock=S.clock
 | 0,_,_=>⟨rfl,rfl,rfl⟩
 | f+1,S,G=>by
  unfold St.roomF;split
  ·exact qsw n f _ _
  ·exact ⟨rfl,rfl,rfl⟩
theorem qzk {m:Nat} {n:Int} (hn:0<=n):∀(f:Nat) {S:St} {G:List Int},StOk m S->n<=S.quota->S.L.length<=f->(S.roomF n f G).1.used<=S.quota-n
 | 0,S,G,h,hq,hl=>by
  show S.used<=S.quota-n;have:=h.used;rw [List.eq_nil_of_length_eq_zero (by omega:S.L.length=0),q2u] at this;omega
 | f+1,S,G,h,hq,hl=>by
  unfold St.roomF;by_cases hc:S.used>S.quota-n/\0<S.L.length
  ·rw [if_pos hc];obtain ⟨x,a⟩:=qq6 (L:=S.L) (by intro e;rw [e] at hc;simp at hc);have:=qsc a;exact qzk hn f (qpc h _) hq (by show (Go.Vc.delL S.L (Qz S.L)).length<=f;omega)
  ·rw [if_neg hc];by_cases hz:S.L.length=0
   ·have:=h.used;rw [List.eq_nil_of_length_eq_zero hz,q2u] at this;show S.used<=_;omega
   ·show S.used<=_;omega
section
variable {w:World} {base g r n:Nat} {S:St}
theorem q4w {m:Sem Unit} {w w':World} {K:Option Value->Ub} (h:m.run PG w=.ok () w') (hK:K none w'):qma PG m w K:=⟨w',h,hK⟩
abbrev onS (g r:Nat):Nat->Prop:=λk=>k=g\/k=r
theorem StM.own_blk (h:StM w base g r S):∀p∈S.L,∀k,p.2.v.m.P.blk=some k->¬onS g r k:=λp a k b e=>by
 have:=h.img_ne a b;rcases e with e | e
 ·exact this.1 e
 ·exact this.2 e
theorem zk7 (h:StM w base g r S) (id:Int):(((zy S.L id).map Im.v).getD quc).m.P.n=q1j S.L id:=by
 unfold q1j;cases hl:zy S.L id with
 | none=>rfl
 | some x=>exact (h.img _ ((xF h.map.srt).1 hl)).rd.n
theorem qt6 (h:StM w base g r S) {K:Ub} (hK:∀w',StM w' base g r { S with res:=0 }->Chg (onS g r) w w'->w'.heap.size=w.heap.size->K w'):vr (some ⟨g,0,none⟩) w K:=by
 refine qfr _ ?_;refine qU ?_;refine qD h.blk (by simp [St.cells]) λd b a c=>?_;have e:Chg (onS g r) w d:=(Go.Vc.Chg.gg a).mono λi _ j=>.inl j;refine hK d ⟨b,h.map.chg (Go.Vc.Chg.gg a) h.ne,λp f=>(h.img p f).chg e (h.own_blk p f)⟩ e c
theorem qvo (h:StM w base g r S) (hk:StOk n S) (id:Int) {K:Bool->Ub}
  (hK:∀w',StM w' base g r (S.drop id)->Chg (onS g r) w w'->K (zy S.L id).isSome w'):kZ (some ⟨g,0,none⟩) id w K:=by
 refine ql6 _ _ ?_;refine qU (km (h.blk.cells 4 _ rfl) (qo4 h.map id ?_));have y:=zk7 h id;generalize hv:((zy S.L id).map Im.v).getD quc=v at y;refine qey λl q f B=>?_;have o:=h.ext f;refine qU (lI (o.blk.drew.cells 2 _ rfl) ?_);refine lSl (by rw [jU];exact q.drew.cells 3 _ rfl) ?_;refine qU ?_;rw [y];refine qD o.blk.drew (by simp [St.cells]) λz a b C=>?_;have I:=hk.used;have J:=zmd hk.srt id;have M:=hk.fits;have D:=hk.q1;rw [qM (by omega)] at a;have s:=o.drew.map.chg (Go.Vc.Chg.gg b) h.ne;refine qU (km (a.cells 4 _ rfl) ?_);obtain ⟨A,t,u,c,E⟩:=s.delete q8s zao id qjy;refine ⟨_,A,t,hK A ⟨?_,u,λp F=>?_⟩ ?_⟩
 ·exact a.chg c λe=>h.ne e.symm
 ·have d:=qbn F;exact (((o.img p d).drew).chg (Go.Vc.Chg.gg b) λk hk=>(h.img_ne d hk).1).chg c λk hk=>(h.img_ne d hk).2
 ·have G:Chg (onS g r) w l:=Chg.of_ext f;have H:Chg (onS g r) l l.drew:=Chg.of_ext (Below.refl _ l).drew;exact ((G.trans H λi _ j=>j).trans (Go.Vc.Chg.gg b) λi _ j=>.inl j).trans c λi _ j=>.inr j
def St.use (S:St) (id:Int):St:=match zy S.L id with
 | some x=>{ S with clock:=S.clock+1,L:=kD S.L id { x with v:={ x.v with stamp:=S.clock+1 } } }
 | none=>S
theorem zio (h:StM w base g r S) (hk:StOk n S) (hn:n<=1000) (id:Int) {K:Bool->Ub}
  (hK:∀w',StM w' base g r (S.use id)->Chg (onS g r) w w'->K (zy S.L id).isSome w'):Kb (some ⟨g,0,none⟩) id w K:=by
 refine qm2 _ _ ?_;refine qU (km (x:=some r) (h.blk.cells 4 _ rfl) (qo4 h.map id ?_));have c:S.use id=match zy S.L id with
  | some x=>{ S with clock:=S.clock+1,L:=kD S.L id { x with v:={ x.v with stamp:=S.clock+1 } } }
  | none=>S:=rfl
 cases hl:zy S.L id with
 | none =>
  rw [hl] at hK c;rw [c] at hK;refine qey λy l d C=>?_;exact cF rfl (hK y (h.ext d) (Chg.of_ext d))
 | some x =>
  rw [hl] at hK c;rw [c] at hK;have D:=(xF hk.srt).1 hl;refine qey λy l d C=>?_;have E:=h.ext d;refine cT rfl ?_;have M:=hk.clk0;have N:=hk.clk;refine qU (lI (x:=S.clock) (E.blk.cells 3 _ rfl) (qU ?_));rw [qC];refine qD E.blk (by simp [St.cells]) λJ f q O=>?_;rw [qM (by omega)] at f;have F:jf Im.enc J r S.L:=E.map.chg (Go.Vc.Chg.gg q) h.ne;have z:=l.chg (Go.Vc.Chg.gg q) λe=>by have:=h.blk.lt;omega
  refine qU (lI (x:=S.clock+1) (f.cells 3 _ rfl) ?_);rw [qC];refine qD z (by simp [qL.rep]) λu s t P=>?_;have Q:=h.blk.lt;have R:=h.map.lt;have m:=f.chg (Go.Vc.Chg.gg t) λe=>by omega
  have G:jf Im.enc u r S.L:=F.chg (Go.Vc.Chg.gg t) λe=>by omega
  refine qU (km (x:=some r) (m.drew.cells 4 _ rfl) ?_);refine qz (x:={ x.v with stamp:=S.clock+1 }) s.drew.cells ?_;obtain ⟨w4,H,I,A,T⟩:=(G.keep (w':=u.drew) rfl).update q8s zao (k:=id) (by have:=hk.keys _ D;simp at this;omega) (enc:=Im.enc) { x with v:={ x.v with stamp:=S.clock+1 } };have j:Chg (onS g r) w w4:=by
   have U:Chg (onS g r) w y:=Chg.of_ext d;have V:=((Go.Vc.Chg.gg q).mono (S':=λk=>k=g\/k=w.heap.size) λi _ o=>.inl o).trans (Go.Vc.Chg.gg t) λi _ o=>.inr o;have W:=((Chg.of_ext (S:=onS g r) (Below.refl _ u).drew)).trans A λi _ o=>.inr o;refine (U.trans V λi o e=>?_).trans W λi _ o=>o;rcases e with e | e
   ·exact .inl e
   ·omega
  refine q4w H (hK w4 ⟨?_,I,λp X=>?_⟩ j)
  ·exact m.drew.chg A λe=>h.ne e.symm
  ·obtain ⟨a,b⟩:=p;rcases (y4 hk.srt _ _ a b).1 X with ⟨rfl,rfl⟩ | ⟨_,B⟩
   ·exact (h.img _ D).chg j (h.own_blk _ D)
   ·exact (h.img _ B).chg j (h.own_blk _ B)
end
def q06 (L:List (Int×Im)) (k:Int):List UInt8:=((zy L k).map Im.bs).getD []
def vOf (L:List (Int×Im)) (k:Int):qL:=((zy L k).map Im.v).getD quc
def qfx (L:List (Int×Im)) (n b:Int) (ok:Bool):Prop :=
 (ok=false/\b=0/\∀p∈L,¬(n≠0/\p.2.v.number=n))\/(ok=true/\∃x,(b,x)∈L/\n≠0/\x.v.number=n/\∀p∈L,p.2.v.number=n->p.2.v.born<=x.v.born)
theorem qfx.one {m:Nat} {S:St} (hk:StOk m S) {n b b':Int} {ok ok':Bool} (h:qfx S.L n b ok) (h':qfx S.L n b' ok'):b=b'/\ok=ok':=by
 rcases h with ⟨rfl,rfl,h⟩ | ⟨rfl,x,f,i,d,j⟩
 ·rcases h' with ⟨rfl,rfl,_⟩ | ⟨rfl,k,c,e,a,_⟩
  ·exact ⟨rfl,rfl⟩
  ·exact absurd ⟨e,a⟩ (h _ c)
 ·rcases h' with ⟨rfl,rfl,h'⟩ | ⟨rfl,k,c,e,a,g⟩
  ·exact absurd ⟨i,d⟩ (h' _ f)
  ·have l:=j _ c a;have o:=g _ f d;have:=hk.bo1 _ f _ c (by simp at l o ⊢;omega);exact ⟨congrArg Prod.fst this,rfl⟩
section
variable {w:World} {base g r n:Nat} {S:St}
theorem StM.bsRd (h:StM w base g r S) (id:Int):Rd qo w (vOf S.L id).m.P (q06 S.L id):=by
 unfold vOf q06;cases hl:zy S.L id with
 | none=>exact Rd.nil _ _
 | some x=>exact (h.img _ ((xF h.map.srt).1 hl)).rd
theorem zlh (h:StOk n S) (id:Int):(q06 S.L id).length<=1073741824:=by
 have a:=h.used;have b:=h.fits;have c:=h.q1;unfold q06;cases hl:zy S.L id with
 | none=>exact zero_le _
 | some x =>
  have:=q2i ((xF h.srt).1 hl);show x.bs.length<=_;simp at this;omega
theorem q0w (h:StM w base g r S) (hk:StOk n S) (id:Int) {K:qf->Bool->Ub}
  (hK:∀P w',Go.Vc.Own qo w' w.heap.size P (q06 S.L id)->Uc w w'->K ⟨(vOf S.L id).m.W,(vOf S.L id).m.H,P⟩ (zy S.L id).isSome w'):vU (some ⟨g,0,none⟩) id w K:=by
 refine qn0 _ _ ?_;refine nwb λZ C u Q=>?_;have J:=h.ext u;refine qui J id λD d=>?_;have R:=J.ext d;have l:=R.bsRd id;have T:=zlh hk id;have M:=d.size;unfold vOf at l hK;generalize ((zy S.L id).map Im.v).getD quc=v at l hK ⊢;refine nwb λw3 E F U=>?_;refine qD E (by simp [qf.rep]) λw4 f G V=>?_;have f:Blk w4 D.heap.size qx (qf.rep.cells v.m):=f;refine lSl (x:=v.m.P) (f.cells 2 _ rfl) ?_;have a:Uc D w4:=F.grown G (by omega) λk hk=>by cases hk;exact le_refl _
 refine Xp (l.ext a) (by omega) λq w5 o j=>?_;rw [qC];have y:=f.ext j;refine qD y (by simp [qf.rep]) λN p s X=>?_;refine qz (x:={ v.m with P:=q }) p.cells ?_;have O:=j.size;have z:=(((C.ext d).ext a).ext j).chg (Go.Vc.Chg.gg s) λe=>by omega
 refine qD z (by simp [qf.rep]) λB t A Y=>?_;refine qz (x:={ v.m with P:=q }) t.cells ?_;have I:Go.Vc.Own qo B w.heap.size q (q06 S.L id):=((o.chg (Go.Vc.Chg.gg s) λk hk=>qn1 o y (by decide) k hk).chg (Go.Vc.Chg.gg A) λk hk e=>by
  have:=(o.lt k hk).1;omega).base (by omega)
 refine hK q B I ?_;have c:=((((Chg.of_ext u).trans (Chg.of_ext d) λi _ b=>b).trans (Chg.of_ext a) λi _ b=>b).trans (Chg.of_ext j) λi _ b=>b).trans (((Go.Vc.Chg.gg s).mono (S':=λk=>w.heap.size<=k) λi _ b=>by omega).trans (Go.Vc.Chg.gg A) λi _ b=>by omega) λi _ b=>b;exact c.ext λi b e=>by omega
theorem qto (h:StM w base g r S) (hk:StOk n S) (hn:n<=1000) {K:Slc->Ub}
  (hK:∀q w',Go.Vc.Own jr w' w.heap.size q (S.L.map (·.1))->Uc w w'->K q w'):ku (some ⟨g,0,none⟩) w K:=by
 refine qnl _ ?_;refine qU (km (h.blk.cells 4 _ rfl) (q3w ?_));have b:Uc w (w.alloc (.cells #[.map (some r)] 69)):=(Below.refl _ w).alloc (le_refl _) _;have c:=Blk.new w 69 [.map (some r)];have e:=hk.len;refine q7l (h.map.ext b) (by omega) (c.cell 0 rfl) λq w' d a=>?_;have f:(w.alloc (.cells #[.map (some r)] 69)).heap.size=w.heap.size+1:=by show (w.heap.push _).size=_;simp
 exact hK q w' (d.base (by omega)) (b.trans (a.mono (by omega)))
def qdp (D:List (Int×Im)) (n b bo:Int):Prop :=
 (b=0/\bo=0/\∀p∈D,¬(n≠0/\p.2.v.number=n))\/(∃x,(b,x)∈D/\n≠0/\x.v.number=n/\x.v.born=bo/\0<bo/\∀p∈D,p.2.v.number=n->p.2.v.born<=bo)
theorem qdp.yes {D:List (Int×Im)} {n b bo k:Int} {x:Im} (h:qdp D n b bo) (hn:n≠0) (hx:x.v.number=n) (hb:x.v.born>bo) (h0:0<=bo):qdp (D++[(k,x)]) n k x.v.born:=by
 refine .inr ⟨x,by simp,hn,hx,rfl,by omega,λp a c=>?_⟩;rcases mem_append.1 a with a | a
 ·rcases h with ⟨_,_,h⟩ | ⟨_,_,_,_,_,_,h⟩
  ·exact absurd ⟨hn,c⟩ (h p a)
  ·have:=h p a c;omega
 ·rw [mem_singleton] at a;subst a;exact Int.le_refl _
theorem qdp.no {D:List (Int×Im)} {n b bo k:Int} {x:Im} (h:qdp D n b bo) (hx:¬(n≠0/\x.v.number=n/\x.v.born>bo)) (h1:0<x.v.born):qdp (D++[(k,x)]) n b bo:=by
 rcases h with ⟨rfl,rfl,h⟩ | ⟨y,j,i,f,g,l,h⟩
 ·refine .inl ⟨rfl,rfl,λp d=>?_⟩;rcases mem_append.1 d with d | d
  ·exact h p d
  ·rw [mem_singleton] at d;subst d;exact λ⟨a,b⟩=>hx ⟨a,b,h1⟩
 ·refine .inr ⟨y,List.mem_append_left _ j,i,f,g,l,λp d e=>?_⟩;rcases mem_append.1 d with d | d
  ·exact h p d e
  ·rw [mem_singleton] at d;subst d;exact Int.not_lt.1 λc=>hx ⟨i,e,c⟩
theorem qdp.nonneg {D:List (Int×Im)} {n b bo:Int} (h:qdp D n b bo):0<=bo:=by
 rcases h with ⟨_,rfl,_⟩ | ⟨_,_,_,_,_,h,_⟩
 ·exact Int.le_refl _
 ·omega
theorem qdp.res {D L:List (Int×Im)} {n b bo:Int} (h:qdp D n b bo) (hp:D.Perm L):qfx L n b (decide (bo>0)):=by
 rcases h with ⟨rfl,rfl,h⟩ | ⟨y,f,g,c,d,i,h⟩
 ·exact .inl ⟨rfl,rfl,λp a=>h p (hp.mem_iff.2 a)⟩
 ·refine .inr ⟨dTq i,y,hp.mem_iff.1 f,g,c,λp a e=>?_⟩;rw [d];exact h p (hp.mem_iff.2 a) e
theorem q6e {m:Nat} (h:StM w base g r S) (hk:StOk m S) (n:Int) {K:Int->Bool->Ub}
  (hK:∀b ok w',qfx S.L n b ok->Uc w w'->K b ok w'):QS (some ⟨g,0,none⟩) n w K:=by
 refine qg1 _ _ ?_;unfold Qw;refine qU (km (h.blk.cells 4 _ rfl) ?_);refine zb7 h.map q8s λw1 N O V=>?_;refine qsz (Inv:=λk (s:Int×Int×Unit) w2=>∃D a:List (Int×Im),k=a.length/\qs6 Im.enc w2 r w.heap.size S.L a/\(D++a).Perm S.L/\qdp D n s.1 s.2.1/\Chg (λi=>i=w.heap.size) w w2/\w.heap.size<w2.heap.size) S.L.length
  ⟨[],S.L,rfl,N,.refl _,.inl ⟨rfl,rfl,λp t=>by cases t⟩,Chg.of_ext O,by omega⟩ ?_
 rintro k ⟨b,bo,⟨⟩⟩ w2 ⟨D,a,rfl,W,t,H,M,X⟩ I hI';refine ze6 W qjy (λe=>?_) λk1 f Y d l P Q Z A=>?_
 ·subst e;rw [List.append_nil] at t;exact hK _ _ w2 (H.res t) (M.ext λi u e=>by omega)
 ·have R:=t.mem_iff.1 (List.mem_append_right _ (l.mem_iff.2 mem_cons_self));refine ⟨k1,f.v,Y,A,?_⟩;refine qey λw4 o B aa=>?_;have C:=(M.trans Q λi _ u=>u).trans (Chg.of_ext B) λi _ u=>u;have E:=P.ext B;have j:d.length<a.length:=by rw [l.length_eq];simp
  have F:((D++[(k1,f)])++d).Perm S.L:=by
   refine List.Perm.trans ?_ t;rw [List.append_assoc];exact l.symm.append_left D
  have T:=H.nonneg;have U:=(hk.borns _ R).1;refine jpO λJ hJ=>?_;have q:∀c:Bool,(c=true↔n≠0/\f.v.number=n/\f.v.born>bo)->J (c,()) w4:=λc G=>by
   refine hJ _ _ ?_;cases c with
   | true =>
    obtain ⟨h1,h2,h3⟩:=G.1 rfl;refine cT rfl (lI (o.drew.cells 5 _ rfl) ?_);exact hI' _ _ _ ⟨_,_,rfl,E.keep rfl rfl,F,H.yes h1 h2 h3 T,C.trans (Chg.of_ext (Below.refl _ w4).drew) λi _ u=>u,by show w.heap.size<w4.heap.size;omega⟩ j
   | false =>
    exact hI' _ _ _ ⟨_,_,rfl,E,F,H.no (λM=>by have:=G.2 M;cases this) U,C,by omega⟩ j
  refine cO (λy=>?_) λy=>?_
  ·have y:=bne_iff_ne.1 y;refine lI (o.cells 0 _ rfl) ?_;refine cO (λz=>?_) λz=>?_
   ·have z:=eq_of_beq z;refine lI (o.cells 5 _ rfl) (q _ ?_);rw [decide_eq_true_iff];exact ⟨λh=>⟨y,z,h⟩,λh=>h.2.2⟩
   ·refine q _ ⟨(λh=>by cases h),λh=>?_⟩;rw [h.2.1] at z;simp at z
  ·refine q _ ⟨(λh=>by cases h),λh=>?_⟩;simp at y;exact absurd y h.1
end
abbrev q84 (L:List (Int×Im)) (k:Int):Int:=(vOf L k).stamp
section
variable {w:World} {base g r n:Nat} {S:St}
theorem qtw {x y:Int} {K:Int->Ub} (hK:∀c:Int,(c<0↔x<y)->K c w):yv x y w K:=by
 refine qj5 _ _ ?_;refine Yx _ ?_;refine Yx _ ?_;refine cF (by simp) (cF (by simp) (cO (λh=>?_) λh=>cO (λa=>?_) λa=>?_))
 ·exact hK _ ⟨λ_=>oTq h,λ_=>by decide⟩
 ·have:=oFq h;exact hK _ ⟨λh=>absurd h (by decide),λh=>absurd h this⟩
 ·have:=oFq h;exact hK _ ⟨λh=>absurd h (by decide),λh=>absurd h this⟩
theorem zbp {bx:Nat} (h:StM w base g r S) (hb:Blk w bx Zr [(.pointer (some ⟨g,0,none⟩))]) (a b:Int) {K:Int->Ub}
  (hK:∀c:Int,(c<0↔q84 S.L a<q84 S.L b)->K c w.drew):Zg a b ⟨bx,0,none⟩ w K:=by
 refine qht _ _ _ ?_;have f:=h.drew;have d:=hb.drew.cell 0 rfl;have e:=f.blk.cells 4 _ rfl;refine qS d (qU (km e ?_));refine qS d (qU (km e ?_));refine ⟨qx9 f.map a ⟨e,d,qx9 f.map b ⟨e,d,qtw hK⟩⟩,?_⟩;exact qx9 f.map b ⟨e,d,qx9 f.map a ⟨e,d,qtw hK⟩⟩
theorem zhd {bx:Nat} {x:Slc} {xs:List Int} (h:StM w base g r S) (hb:Blk w bx Zr [(.pointer (some ⟨g,0,none⟩))]) (hx:Rd jr w x xs) (hne:0<xs.length) (hlen:xs.length<=1000000) {K:Int->Ub}
  (hK:∀m w',m∈xs->(∀k∈xs,q84 S.L m<=q84 S.L k)->Uc w w'->K m w'):ya x (.func (.func Ve) #[] #[(.pointer (some ⟨bx,0,none⟩))]) w K:=by
 refine qbe _ _ ?_;rw [hx.n];refine jpO λJ F=>?_;refine cF (dFq (by omega)) (F _ _ ?_);refine hx.ix rfl (by omega) (by omega) λG=>?_;refine lI (by simpa using G 0 _ rfl) ?_;refine lpR (Inv:=λ(s:Int×Int×Unit) w2=>∃j:Nat,s.2.1=(j:Int)/\1<=j/\j<=xs.length/\s.1∈xs/\(∀k∈xs.take j,q84 S.L s.1<=q84 S.L k)/\Uc w w2) (μ:=λs=>xs.length-s.2.1.toNat) ?_ ?_
 ·refine ⟨1,rfl,le_refl _,hne,List.getElem_mem _,λk b=>?_,Below.refl _ w⟩;cases xs with
  | nil=>simp at hne
  | cons a xs =>
   simp at b;subst b;exact Int.le_refl _
 ·rintro ⟨m,i,⟨⟩⟩ w2 ⟨j,y,H,M,E,d,t⟩ I hI;have y:=y;subst y;refine cO (λo=>?_) λu=>?_
  ·have o:j<xs.length:=by have:=oTq o;omega
   have z:=hx.ext t;refine z.ix rfl (by omega) (by omega) λN=>?_;refine lI (by simpa using N 0 _ rfl) ?_;have O:xs[((j:Int)).toNat]'(by omega)=xs[j]:=by simp
   have p:Zg (xs[((j:Int)).toNat]) m ⟨bx,0,none⟩ w2 (λA B=>cond (decide (A<(0:Int)))
     (ixK x (j:Int) 1 λC=>ldI .i64 C B λD=>I (D,(i64.wrap ((j:Int)+(1:Int))),()) B)
     (I (m,(i64.wrap ((j:Int)+(1:Int))),()) B)):=by
    refine zbp (h.ext t) (hb.ext t) _ _ λc v=>?_;rw [qM (by omega)];have q:=t.drew;have e:∀k∈xs.take (j+1),k∈xs.take j\/k=xs[j]:=λk b=>by
     rw [List.take_add_one,List.getElem?_eq_getElem o] at b;rcases mem_append.1 b with b | b
     ·exact .inl b
     ·exact .inr (by simpa using b)
    refine cO (λf=>?_) λl=>?_
    ·have f:=v.1 (oTq f);refine (hx.ext q).ix rfl (by omega) (by omega) λP=>?_;refine lI (x:=xs[((j:Int)).toNat]) (by simpa using P 0 _ rfl) ?_;refine hI _ _ ⟨j+1,by simp,by omega,by omega,List.getElem_mem _,λk b=>?_,q⟩ (by show xs.length-((j:Int)+1).toNat<xs.length-((j:Int)).toNat;omega);rcases e k b with b | rfl
     ·have:=d k b;simp only at f this ⊢;omega
     ·simp
    ·have l:¬_:=λQ=>absurd (v.2 Q) (oFq l);refine hI _ _ ⟨j+1,by simp,by omega,by omega,E,λk b=>?_,q⟩ (by show xs.length-((j:Int)+1).toNat<xs.length-((j:Int)).toNat;omega);rcases e k b with b | rfl
     ·exact d k b
     ·exact Int.not_lt.1 l
   exact p
  ·have u:¬_:=oFq u;refine hK m w2 E (λk b=>d k ?_) t;rw [List.take_of_length_le (by omega)];exact b
end
section
variable {w:World} {base g r n:Nat} {S:St}
theorem zpc {w:World} {b:Nat} {s:Slc} {xs:List Int} {v:Int} {K:Slc->Ub} (hown:Go.Vc.Own jr w b s xs) (hb:b<=w.heap.size) (hl:xs.length<=1000000)
  (hK:∀r w',Go.Vc.Own jr w' b r (xs++[v])->Chg (λk=>s.blk=some k) w w'->(r.blk=s.blk\/∃k,r.blk=some k/\w.heap.size<=k)->K r w') :
  nw zJ [(Ua v)] w λt w1=>apK PG #[jB,jB] jB s (⟨(some t),1,1⟩:Slc) w1 K:=by
 refine nwb λw1 c a d=>?_;have f:=y9 (E:=jr) c rfl;refine jW qb1 (hown.ext a) f (by omega) (by rw [qhb];simp;omega) (by simp [maxLen];omega) λq g h j l=>hK q g h ((Chg.of_ext a).trans (Chg.of_grown j λk m=>m) λi _ n=>n) ?_;rcases l with e | e
 ·exact .inl e
 ·exact .inr ⟨_,e,by omega⟩
theorem q9f {L:List (Int×Im)} (hs:Srt L) {p:Int×Im} (hp:p∈L):vOf L p.1=p.2.v:=by
 unfold vOf;rw [(xF hs).2 hp];rfl
theorem qws {m:Nat} {n:Int} (h:StM w base g r S) (hk:StOk m S) (hm:m<=1000) (hn:0<=n) (hq:n<=S.quota) {K:Slc->Ub}
  (hK:∀q w',StM w' base g r (S.room n).1->Go.Vc.Own jr w' w.heap.size q (S.room n).2->Chg (onS g r) w w'->K q w'):yZ (some ⟨g,0,none⟩) n w K:=by
 refine ql8 _ _ ?_;refine nwb λw1 ab H aq=>?_;have am:=h.blk.lt;have an:=h.map.lt;refine qsz (Inv:=λk (s:Slc×Unit) w2=>∃a G,k=a.L.length/\StM w2 base g r a/\StOk m a/\a.quota=S.quota/\a.roomF n a.L.length G=S.room n/\G.length+a.L.length<=m/\Go.Vc.Own jr w2 w.heap.size s.1 G/\Blk w2 w.heap.size Zr [(.pointer (some ⟨g,0,none⟩))]/\Chg (λi=>onS g r i\/i=w.heap.size) w w2/\w.heap.size<w2.heap.size) S.L.length
  ⟨S,[],rfl,h.ext H,hk,rfl,rfl,by have:=hk.len;simpa using this,Go.Vc.Own.nil _ _ _,ab,Chg.of_ext H,by omega⟩ ?_
 rintro k ⟨gone,⟨⟩⟩ w2 ⟨a,G,rfl,z,d,ac,c,ar,hO,B,M,ao⟩ I hI;have au:=d.q1;have av:=d.q0;have N:∀{w3:World},Chg (λi=>onS g r i\/i=w.heap.size) w w3->Chg (onS g r) w w3:=λhc=>hc.mono λi C e=>e.resolve_right (by omega);refine jpO λJ hJ=>?_;have e1:=B.drew.cell 0 rfl;refine qS e1 (qU (lI (x:=a.used) (z.drew.blk.cells 2 _ rfl) ?_));refine qS e1 (qU (lI (x:=a.quota) (z.drew.blk.cells 0 _ rfl) ?_));rw [qM (by omega)];have O:=(Below.refl w2.heap.size w2).drew;have A:=λad=>by
  have P:a.roomF n a.L.length G=(a,G):=by
   cases hL:a.L.length with
   | zero=>rfl
   | succ f =>
    unfold St.roomF;rw [if_neg ad]
  rw [P] at c;refine hK gone w2.drew ?_ ?_ (N (M.trans (Chg.of_ext O) λi _ C=>C))
  ·rw [<-c];exact z.drew
  ·rw [<-c];exact hO.drew
 refine cO (λj=>?_) λj=>?_
 ·have j:=oTq j;refine qS e1 (qU (km (x:=some r) (z.drew.blk.cells 4 _ rfl) ?_));refine ⟨(a.L.length:Int),w2.drew,z.drew.map.len q8s zJ,?_⟩;refine cO (λb=>?_) λb=>?_
  ·have b:=oTq b;refine hJ _ _ ?_;refine qS e1 (qU (km (x:=some r) (z.drew.blk.cells 4 _ rfl) (q3w ?_)));have Q:Uc w2 (w2.drew.alloc (.cells #[.map (some r)] 69)):=O.alloc (le_refl _) _;have ae:=Blk.new w2.drew 69 [.map (some r)];have aw:(w2.drew.alloc (.cells #[.map (some r)] 69)).heap.size=w2.heap.size+1:=by show (w2.heap.push _).size=_;simp
   have hl:=d.len;refine q4c (L:=a.L) (z.map.ext Q) (by omega) (ae.cell 0 rfl) λq w4 ss D af ah=>?_;have l:Uc w2 w4:=Q.trans (ah.mono (by omega));have R:=z.ext l;have ap:ss.length=a.L.length:=by rw [D.length_eq,List.length_map]
   refine zhd R (B.ext l) af.rd (by omega) (by omega) λmn w5 ai T U=>?_;have E:=R.ext U;have o:=l.trans (U.mono l.size);have V:=B.ext o;have W:Qz a.L=mn:=by
    obtain ⟨p,hp,rfl⟩:=List.mem_map.1 (D.mem_iff.1 ai);refine zct d hp λp' X=>?_;have:=T p'.1 (D.mem_iff.2 (List.mem_map.2 ⟨p',X,rfl⟩));unfold q84 at this
    rwa [q9f d.srt hp,q9f d.srt X] at this
   refine qS (x:=some ⟨g,0,none⟩) (V.cell 0 rfl) ?_;refine qvo E d mn λw6 u v=>?_;have F:=hO.ext o;have t:=F.chg v λk hk e=>by
    rcases e with e | e
    ·exact qn1 F E.blk (by decide) k hk e
    ·exact E.map.ne_own F k hk e
   have ax:=o.size;have ay:=v.size;have Y:=V.chg v λe=>by rcases e with e | e<;>omega
   refine zpc t (by omega) (by omega) λq7 w7 aj y _=>?_;have ak:=u.keep y (λe=>qn1 t u.blk (by decide) g e rfl) (λe=>u.map.ne_own t r e rfl) λp hp k hk e=>(u.img p hp).ne_o t (by decide) k hk e;have al:=Y.chg y λe=>qn1 t Y (by decide) _ e rfl;obtain ⟨x,hx⟩:=qq6 (L:=a.L) (by intro e;rw [e] at b;simp at b);rw [W] at hx;have Z:=qsc hx;have aa:Chg (λi=>onS g r i\/i=w.heap.size) w w7:=by
    refine ((M.trans (Chg.of_ext o) λi _ C=>C).trans v λi _ C=>.inl C).trans y λi C e=>?_;have:=(t.lt i e).1;omega
   refine hI _ _ _ ⟨a.drop mn,G++[mn],rfl,ak,qpc d mn,ac,?_,?_,aj,al,aa,by have:=y.size;omega⟩ Z
   ·rw [<-c];cases hL:a.L.length with
    | zero=>omega
    | succ f =>
     have:a.roomF n (f+1) G=(a.drop (Qz a.L)).roomF n f (G++[Qz a.L]):=by
      show (if a.used>a.quota-n/\0<a.L.length then St.roomF n f (a.drop (Qz a.L)) (G++[Qz a.L]) else (a,G))=_;rw [if_pos ⟨j,by omega⟩]
     rw [this,W,ziu n (f:=f) (by show (Go.Vc.delL a.L mn).length<=f;omega)]
   ·have:(a.drop mn).L.length<a.L.length:=Z;simp;omega
  ·have b:=oFq b;exact A λhc=>b (by omega)
 ·have j:=oFq j;exact A λhc=>j hc.1
def St.reserve (S:St) (n:Int):St×List Int×Int :=
 if n<0 then (S,[],1) else if n>S.quota then (S,[],6) else ((({ S with res:=n }:St).room n).1,(({ S with res:=n }:St).room n).2,0)
theorem qsh {m:Nat} (h:StOk m S) (n:Int):StOk m { S with res:=n }:=⟨h.q0,h.q1,h.used,h.fits,h.len,h.clk0,h.clk,h.srt,h.keys,h.stamps,h.borns,h.st1,h.bo1⟩
theorem qzf {m:Nat} (h:StOk m S) (n:Int):StOk m (S.reserve n).1:=by
 unfold St.reserve;split
 ·exact h
 ·split
  ·exact h
  ·exact qcv n _ (qsh h n)
theorem q4l {m:Nat} {n:Int} (h:StM w base g r S) (hk:StOk m S) (hm:m<=1000) {K:Slc->Int->Ub}
  (hK:∀q w',StM w' base g r (S.reserve n).1->Go.Vc.Own jr w' w.heap.size q (S.reserve n).2.1->Chg (onS g r) w w'->K q (S.reserve n).2.2 w'):Qt (some ⟨g,0,none⟩) n w K:=by
 refine qfi _ _ ?_;unfold St.reserve at hK;refine cO (λe=>?_) λe=>?_
 ·have e:=oTq e;rw [if_pos e] at hK;exact hK _ w h (Go.Vc.Own.nil _ _ _) (Chg.refl _ _)
 ·have e:=oFq e;rw [if_neg e] at hK;refine qU (lI (h.blk.cells 0 _ rfl) ?_);refine cO (λa=>?_) λa=>?_
  ·have a:=oTq a;rw [if_pos a] at hK;exact hK _ w h (Go.Vc.Own.nil _ _ _) (Chg.refl _ _)
  ·have a:=oFq a;rw [if_neg a] at hK;refine qU ?_;refine qD h.blk (by simp [St.cells]) λl c b t=>?_;have o:Chg (onS g r) w l:=(Go.Vc.Chg.gg b).mono λi _ d=>.inl d;have u:StM l base g r { S with res:=n }:=⟨c,h.map.chg (Go.Vc.Chg.gg b) h.ne,λp s=>(h.img p s).chg o (h.own_blk p s)⟩;refine qws u (qsh hk n) hm (by omega) (by show n<=S.quota;omega) λq v f j k=>?_;exact hK q v f (j.base (by omega)) (o.trans k λi _ d=>d)
end
def qm5 (W H:Int):Bool:=(W==0 && H==0) || (decide (1<=W) && decide (W<=16384) && decide (1<=H) && decide (H<=16384) && decide (W*H<=67108864))
def qyl (W H:Int) (n:Nat):Bool:=qm5 W H && ((n:Int)==4*W*H)
def qmj (n:Int):Bool:=decide (0<=n) && decide (n<=4294967295)
theorem qqt {n:Int} {w:World} {K:Bool->Ub} (hK:K (qmj n) w):Z6 n w K:=by
 refine qp1 _ ?_;unfold qmj at hK;refine cO (λh=>?_) λh=>?_
 ·rw [show decide (0<=n)=true from h] at hK;exact hK
 ·rw [show decide (0<=n)=false from h] at hK;exact hK
theorem q7g {W H:Int} (h1:1<=W) (h2:W<=16384) (h3:1<=H) (h4:H<=16384):1<=W*H/\W*H<=268435456:=by
 have a:=Int.mul_le_mul h1 h3 (by omega) (by omega);have b:=Int.mul_le_mul h2 h4 (by omega) (by omega);omega
theorem q70 {W H:Int} {w:World} {K:Bool->Ub} (hK:K (qm5 W H) w):XH W H w K:=by
 refine YX _ _ ?_;have b:qm5 W H=(decide (1<=W) && decide (W<=16384) && decide (1<=H) && decide (H<=16384) && decide (W*H<=67108864))->cond (decide (W>=(1:Int)))
     (cond (decide (W<=(16384:Int)))
       (cond (decide (H>=(1:Int)))
        (cond (decide (H<=(16384:Int)))
          (K (decide ((i64.wrap (W*H))<=(67108864:Int))) w)
          (K false w))
        (K false w))
       (K false w))
     (K false w):=λe=>by
  rw [e] at hK;refine cO (λa=>?_) λa=>?_
  ·have g:=oTq a;rw [show decide (1<=W)=true from a] at hK;refine cO (λc=>?_) λc=>?_
   ·have h:=oTq c;rw [c] at hK;refine cO (λd=>?_) λd=>?_
    ·have i:=oTq d;rw [show decide (1<=H)=true from d] at hK;refine cO (λf=>?_) λf=>?_
     ·have j:=oTq f;rw [f] at hK;have:=q7g g h i j;rw [qM (by omega)];simpa using hK
     ·rw [f] at hK;simpa using hK
    ·rw [show decide (1<=H)=false from d] at hK;simpa using hK
   ·rw [c] at hK;simpa using hK
  ·rw [show decide (1<=W)=false from a] at hK;simpa using hK
 refine cO (λa=>?_) λa=>?_
 ·refine cO (λc=>?_) λc=>?_
  ·unfold qm5 at hK;rw [a,c] at hK;simpa using hK
  ·exact b (by unfold qm5;rw [a,c];rfl)
 ·exact b (by unfold qm5;rw [a];rfl)
theorem zat {W H:Int} (h:qm5 W H=true):0<=W/\W<=16384/\0<=H/\H<=16384/\0<=W*H/\W*H<=67108864:=by
 unfold qm5 at h;simp only [Bool.or_eq_true,Bool.and_eq_true,beq_iff_eq,decide_eq_true_eq] at h;rcases h with ⟨rfl,rfl⟩ | ⟨⟨⟨⟨a,b⟩,h3⟩,h4⟩,h5⟩
 ·decide
 ·have:=q7g a b h3 h4;omega
section
variable {w:World} {base g r n:Nat} {S:St}
theorem zas {m:qf} {K:Bool->Ub} (hK:∀w',Uc w w'->K (qyl m.W m.H m.P.n) w'):ye m w K:=by
 refine qhy _ ?_;refine nwb λc a b d=>?_;refine lI (a.cells 0 _ rfl) (lI (a.cells 1 _ rfl) (q70 ?_));have hK:=hK c b;unfold qyl at hK;refine cO (λh=>?_) λh=>?_
 ·rw [h] at hK;have e:=zat h;refine lSl (a.cells 2 _ rfl) (lI (a.cells 0 _ rfl) (lI (a.cells 1 _ rfl) ?_));have f:(4:Int)*m.W*m.H=4*(m.W*m.H):=Int.mul_assoc _ _ _;rw [qM (x:=4*m.W) (by omega),qM (by omega)];exact hK
 ·rw [h] at hK;exact hK
def qs5 (L:List (Int×Im)):Nat->Int->Int
 | 0,k=>k
 | f+1,k=>if (zy L k).isSome then qs5 L f (k+1) else k
def qad (S:St) (id num W H:Int) (n:Nat):Int:=if qyl W H n && !(W==0) && qmj id && qmj num then (if (n:Int)>S.quota then 6 else 0) else 1
def St.putPre (S:St) (id:Int) (n:Nat):St×List Int:=(if id=0 then ({ S with res:=0 }:St) else ({ S with res:=0 }:St).drop id).room n
def Yo (L:List (Int×Im)) (id:Int):Int:=if id=0 then qs5 L 2000 1099511627776 else id
def St.putAt (S:St) (i num W H:Int) (P:Slc) (bs:List UInt8):St:={ S with clock:=S.clock+1,used:=S.used+bs.length,L:=kD S.L i ⟨⟨num,⟨W,H,P⟩,S.clock+1,S.clock+1⟩,bs⟩ }
theorem qrj {L:List (Int×Im)}:∀(f:Nat) {k:Int} {j:Nat},j<f->zy L (k+j)=none->zy L (qs5 L f k)=none/\k<=qs5 L f k/\qs5 L f k<=k+j
 | 0,k,j,h,_=>by omega
 | f+1,k,j,h,hn=>by
  unfold qs5;by_cases hs:(zy L k).isSome
  ·rw [if_pos hs];cases j with
   | zero =>
    simp at hn;rw [hn] at hs;cases hs
   | succ j =>
    have:=qrj f (j:=j) (by omega) (by rw [show k+1+(j:Int)=k+((j+1:Nat):Int) by omega];exact hn);exact ⟨this.1,by omega,by omega⟩
  ·rw [if_neg hs];exact ⟨by simpa using hs,Int.le_refl _,by omega⟩
theorem q5n (h:StOk n S):zy S.L (1099511627776+((n+1:Nat):Int))=none:=by
 cases hl:zy S.L (1099511627776+((n+1:Nat):Int)) with
 | none=>rfl
 | some x =>
  have:=h.keys _ ((xF h.srt).1 hl);omega
theorem q9l (h:StOk n S) (hn:n<=1000) {id:Int} (hid:qmj id=true):0<Yo S.L id/\Yo S.L id<=1099511627776+((n+1:Nat):Int):=by
 unfold qmj at hid;simp only [Bool.and_eq_true,decide_eq_true_eq] at hid;unfold Yo;split
 ·have:=qrj 2000 (by omega) (q5n h);omega
 ·omega
theorem zb3 (h:StOk n S) (hn:n<=1000) {id:Int} (hno:id≠0->zy S.L id=none):zy S.L (Yo S.L id)=none:=by
 unfold Yo;split
 ·exact (qrj 2000 (by omega) (q5n h)).1
 ·rename_i a;exact hno a
theorem zfd {L:List (Int×Im)} {k:Int} {x:Im} (h:zy L k=none):KL (kD L k x)=KL L+x.bs.length:=by
 have b:=qvx h
 induction L with
 | nil=>simp [kD,KL]
 | cons a L d =>
  unfold kD;split
  ·rw [vg];simp only;omega
  ·rw [if_neg λe=>b a mem_cons_self e.symm,vg,vg];have g:zy L k=none:=by
    cases hl:zy L k with
    | none=>rfl
    | some y =>
     exfalso;obtain ⟨q,c,_⟩:=Option.map_eq_some_iff.1 hl;have i:=List.find?_some c;exact b q (mem_cons_of_mem _ (List.mem_of_find?_eq_some c)) (by simpa using i)
   rw [d g λp j=>b p (mem_cons_of_mem _ j)];omega
theorem q91 {L:List (Int×Im)} (k:Int) (x:Im):(kD L k x).length<=L.length+1:=by
 induction L with
 | nil=>simp [kD]
 | cons a L b =>
  unfold kD;split
  ·simp
  ·split
   ·simp
   ·simp;omega
theorem zhw (h:StOk n S) {i num W H:Int} {P:Slc} {bs:List UInt8} (hi:zy S.L i=none) (hi1:0<i/\i<=1099511627776+((n+1:Nat):Int)) (hf:S.used+bs.length<=S.quota):StOk (n+1) (S.putAt i num W H P bs):=by
 have f:=y4 h.srt i (⟨⟨num,⟨W,H,P⟩,S.clock+1,S.clock+1⟩,bs⟩:Im);have o:=h.used;have p:=h.clk;have m:=h.clk0;have l:=zfd (x:=(⟨⟨num,⟨W,H,P⟩,S.clock+1,S.clock+1⟩,bs⟩:Im)) hi;refine ⟨h.q0,h.q1,?_,hf,?_,by show 0<=S.clock+1;omega,by show S.clock+1<=_;omega,qhf h.srt _ _,?_,?_,?_,?_,?_⟩
 ·show S.used+(bs.length:Int)=(KL (kD _ _ _):Int);rw [l];simp;omega
 ·have:=q91 (L:=S.L) i (⟨⟨num,⟨W,H,P⟩,S.clock+1,S.clock+1⟩,bs⟩:Im);have:=h.len;show (kD _ _ _).length<=_;omega
 ·rintro ⟨a,b⟩ d;rcases (f a b).1 d with ⟨rfl,rfl⟩ | ⟨_,d⟩
  ·exact hi1
  ·have:=h.keys _ d;omega
 ·rintro ⟨a,b⟩ d;show 0<b.v.stamp/\b.v.stamp<=S.clock+1;rcases (f a b).1 d with ⟨rfl,rfl⟩ | ⟨_,d⟩
  ·exact ⟨by show 0<S.clock+1;omega,Int.le_refl _⟩
  ·have:=h.stamps _ d;simp at this;omega
 ·rintro ⟨a,b⟩ d;show 0<b.v.born/\b.v.born<=S.clock+1;rcases (f a b).1 d with ⟨rfl,rfl⟩ | ⟨_,d⟩
  ·exact ⟨by show 0<S.clock+1;omega,Int.le_refl _⟩
  ·have:=h.borns _ d;simp at this;omega
 ·rintro ⟨a,b⟩ d ⟨j,g⟩ c (e:b.v.stamp=g.v.stamp);rcases (f a b).1 d with ⟨rfl,rfl⟩ | ⟨_,k⟩
  ·rcases (f j g).1 c with ⟨rfl,rfl⟩ | ⟨_,c⟩
   ·rfl
   ·have:=h.stamps _ c;simp at this e;omega
  ·rcases (f j g).1 c with ⟨rfl,rfl⟩ | ⟨_,c⟩
   ·have:=h.stamps _ k;simp at this e;omega
   ·exact h.st1 _ k _ c e
 ·rintro ⟨a,b⟩ d ⟨j,g⟩ c (e:b.v.born=g.v.born);rcases (f a b).1 d with ⟨rfl,rfl⟩ | ⟨_,k⟩
  ·rcases (f j g).1 c with ⟨rfl,rfl⟩ | ⟨_,c⟩
   ·rfl
   ·have:=h.borns _ c;simp at this e;omega
  ·rcases (f j g).1 c with ⟨rfl,rfl⟩ | ⟨_,c⟩
   ·have:=h.borns _ k;simp at this e;omega
   ·exact h.bo1 _ k _ c e
end
section
variable {w:World} {base g r n:Nat} {S:St}
theorem q3j {base:Nat} {s:Slc} {xs:List UInt8} {K:Slc->Ub} (h:Hold w base s xs) (hK:∀q:Slc,Hold w base q xs->q.n=xs.length->K q w):xl s w K:=by
 refine qdk _ ?_;have c:=h.rd.n;refine h.rd.slK3 rfl (.inl ⟨rfl,rfl⟩) (by rw [c]) (by rw [c]) (zero_le _) (le_refl _) λd=>?_;rw [List.take_of_length_le (le_refl _)] at d;refine hK _ ⟨d,λk e=>?_⟩ (by show xs.length-0=_;omega);obtain ⟨a,f,g⟩:=slk.1 e;obtain ⟨b,i,j⟩:=Go.Vc.cut_block f;exact h.blk k (slk.2 ⟨b,i,by omega⟩)
theorem zhr {i num:Int} {m:qf} {bs:List UInt8} {mb:Nat} {w6:World} {K:Ub} (h:StM w6 base g r S) (hk:StOk n S) (hn:n<=1000) (hbase:base<=w6.heap.size)
  (hb:Blk w6 mb qx (qf.rep.cells m)) (hP:Rd qo w6 m.P bs) (hPg:0<bs.length->∀a,m.P.a=some a->a.block≠g) (hf:S.used+bs.length<=S.quota)
  (hi1:0<i/\i<=1099511627776+((n+1:Nat):Int))
  (hK:∀P w',StM w' base g r (S.putAt i num m.W m.H P bs)->Chg (λk=>onS g r k\/k=mb) w6 w'->(∀k,P.blk=some k->w6.heap.size<=k)->K w') :
    qH (some ⟨g,0,none⟩) λt60=>
    ldI .i64 (t60.add 3) w6 λt62=>
    qH (some ⟨g,0,none⟩) λt64=>
    stK (t64.add 3) [(Ua (i64.wrap (t62+(1:Int))))] w6 λw7=>
    zW ((⟨mb,0,none⟩:Addr).add 2) w7 λt67=>
    zI t67 w7 λt68 w8=>
    xl t68 w8 λt69 w9=>
    stK ((⟨mb,0,none⟩:Addr).add 2) [(.slice t69.a t69.n t69.c)] w9 λw10=>
    qH (some ⟨g,0,none⟩) λt72=>
    ldM (t72.add 4) w10.drew λt74=>
    ldS qf.rep (⟨mb,0,none⟩:Addr) w10.drew λ(t77:qf) =>
    qH (some ⟨g,0,none⟩) λt79=>
    ldI .i64 (t79.add 3) w10.drew λt81=>
    qH (some ⟨g,0,none⟩) λt83=>
    ldI .i64 (t83.add 3) w10.drew λt85=>
    qma PG (Instr.mapUpdate qO (.map t74) (Ua i) (.agg #[(Ua num),(Ua t77.W),(Ua t77.H),(.slice t77.P.a t77.P.n t77.P.c),(Ua t81),(Ua t85)])) w10.drew λ_ w11=>
    qH (some ⟨g,0,none⟩) λt88=>
    ldI .i64 (t88.add 2) w11.drew λt90=>
    zW ((⟨mb,0,none⟩:Addr).add 2) w11.drew λt92=>
    qH (some ⟨g,0,none⟩) λt95=>
    stK (t95.add 2) [(Ua (i64.wrap (t90+((t92.n:Nat):Int))))] w11.drew λw12=>
    K w12:=by
 have ad:=hk.clk0;have ae:=hk.clk;have hu:=hk.used;have af:=hk.q1;have F:mb≠g:=hb.ne_t h.blk (by decide);have G:r≠mb:=h.map.ne_blk hb;refine qU (lI (x:=S.clock) (h.blk.cells 3 _ rfl) (qU ?_));rw [qC,qM (by omega)];refine qD h.blk (by simp [St.cells]) λw7 B u aj=>?_;have B:Blk w7 g zU (({ S with clock:=S.clock+1 }:St).cells r):=B;have c7:Chg (λk=>onS g r k\/k=mb) w6 w7:=(Go.Vc.Chg.gg u).mono λi _ q=>.inl (.inl q);have Q:=h.map.chg (Go.Vc.Chg.gg u) h.ne;have v:=hb.chg (Go.Vc.Chg.gg u) F;have R:=qo9 hP (Go.Vc.Chg.gg u) λT a ha e=>hPg T a ha e;refine lSl (x:=m.P) (v.cells 2 _ rfl) ?_;refine Xp R (by omega) λq8 w8 U s=>?_;refine q3j (q6j U) λE C V=>?_;rw [qC];have w:=v.ext s;have X:=B.ext s;have Y:=Q.ext s;refine qD w (by simp [qf.rep]) λw10 j l aa=>?_;have d:=X.chg (Go.Vc.Chg.gg l) λe=>F e.symm;have y:=Y.chg (Go.Vc.Chg.gg l) G;have z:=C.chg (Go.Vc.Chg.gg l) λk hk e=>C.ne_b w (by decide) k hk e;refine qU (km (x:=some r) (d.drew.cells 4 _ rfl) ?_);refine qz (x:=({ m with P:=E }:qf)) j.drew.cells ?_;refine qU (lI (x:=S.clock+1) (d.drew.cells 3 _ rfl) ?_);refine qU (lI (x:=S.clock+1) (d.drew.cells 3 _ rfl) ?_);obtain ⟨w11,I,J,o,ab⟩:=(y.keep (w':=w10.drew) rfl).update q8s zao (k:=i) (by omega) (enc:=Im.enc) ⟨⟨num,⟨m.W,m.H,E⟩,S.clock+1,S.clock+1⟩,bs⟩;refine q4w I ?_;have f:=d.drew.chg o λe=>h.ne e.symm;have M:=j.drew.chg o λe=>G e.symm;have A:=z.drew.chg o λk hk e=>z.ne_m y k hk e;refine qU (lI (x:=S.used) (f.drew.cells 2 _ rfl) ?_);refine lSl (x:=E) (M.drew.cells 2 _ rfl) ?_;refine qU ?_;rw [qC,V,qM (by omega)];refine qD f.drew (by simp [St.cells]) λw12 N t ac=>?_;have c8:=(c7.trans (Chg.of_ext s) λi _ q=>q).trans (Go.Vc.Chg.gg l) λi _ q=>.inr q;have Z:=(c8.trans (Chg.of_ext (Below.refl _ w10).drew) λi _ q=>q).trans o λi _ q=>.inl (.inr q);have O:=(Z.trans (Chg.of_ext (Below.refl _ w11).drew) λi _ q=>q).trans (Go.Vc.Chg.gg t) λi _ q=>.inl (.inl q);refine hK E w12 ⟨N,(J.keep (w':=w11.drew) rfl).chg (Go.Vc.Chg.gg t) h.ne,λp T=>?_⟩ O (λk hk=>by have:=(C.lt k hk).1;omega);obtain ⟨a,b⟩:=p;rcases (y4 hk.srt _ _ a b).1 T with ⟨rfl,rfl⟩ | ⟨_,D⟩
 ·exact (A.drew.chg (Go.Vc.Chg.gg t) λk hk e=>A.ne_b f (by decide) k hk e).base (by omega)
 ·refine (h.img _ D).chg O λk hk e=>?_;rcases e with e | e
  ·exact h.own_blk _ D k hk e
  ·exact (h.img _ D).ne_b hb (by decide) k hk e
theorem q7i {id num:Int} {m:qf} {bs:List UInt8} (h:StM w base g r S) (hk:StOk n S) (hn:n<=1000) (hbase:base<=w.heap.size)
  (hP:Rd qo w m.P bs) (hPg:0<bs.length->∀a,m.P.a=some a->¬onS g r a.block) {K:Int->Slc->Int->Ub}
  (hE:∀w',qad S id num m.W m.H bs.length≠0->StM w' base g r S->Uc w w'->K 0 ⟨none,0,0⟩ (qad S id num m.W m.H bs.length) w')
  (hK:∀P q w',qad S id num m.W m.H bs.length=0->StM w' base g r ((S.putPre id bs.length).1.putAt (Yo (S.putPre id bs.length).1.L id) num m.W m.H P bs)->StOk (n+1) ((S.putPre id bs.length).1.putAt (Yo (S.putPre id bs.length).1.L id) num m.W m.H P bs) ->
   Go.Vc.Own jr w' w.heap.size q (S.putPre id bs.length).2->Chg (onS g r) w w'->(∀k,P.blk=some k->w.heap.size<=k)->K (Yo (S.putPre id bs.length).1.L id) q 0 w') :
  QA (some ⟨g,0,none⟩) id num m w K:=by
 refine qmz _ _ _ _ ?_;have hPn:=hP.n;have hgl:=h.blk.lt;have hrl:=h.map.lt;refine nwb λw1 hb1 hB1 hs1=>?_;refine jpO λJ1 hJ1=>jpO λJ5 hJ5=>?_;have good:∀w2,Uc w w2->Blk w2 w.heap.size qx (qf.rep.cells m)->(qmj id=true)->(bs.length:Int)<=S.quota->qad S id num m.W m.H bs.length=0->J1 () w2:=λw2 hB2 hb2 hnum hq he=>by
  refine hJ1 _ _ ?_;have h2:=h.ext hB2;have hs2:=hB2.size;have hl2:=hb2.lt;refine qt6 h2 λw3 h3 hc3 hs3=>?_;have hk3:StOk n { S with res:=0 }:=qsh hk 0;have hb3:=hb2.chg hc3 λe=>by rcases e with e | e<;>omega
  refine jpO λJ2 hJ2=>?_;have next:∀w4 (S1:St),S1=(if id=0 then ({ S with res:=0 }:St) else ({ S with res:=0 }:St).drop id)->StM w4 base g r S1->StOk n S1->S1.quota=S.quota->(id≠0->zy S1.L id=none)->Chg (onS g r) w3 w4->J2 () w4:=λw4 S1 hS1 h4 hk4 hqq hno hc4=>by
   refine hJ2 _ _ ?_;have hb4:=hb3.chg hc4 λe=>by rcases e with e | e<;>omega
   refine lSl (x:=m.P) (hb4.cells 2 _ rfl) ?_;rw [hPn];refine qws h4 hk4 hn (by omega) (by omega) λq5 w5 h5 ho5 hc5=>?_;have hpre:S.putPre id bs.length=S1.room bs.length:=by unfold St.putPre;rw [hS1]
   rw [hpre] at hK;have hk5:StOk n (S1.room bs.length).1:=qcv _ _ hk4;have hfit:(S1.room bs.length).1.used<=S1.quota-bs.length:=qzk (by omega) _ hk4 (by omega) (le_refl _);have hfld:=(qsw (bs.length:Int) S1.L.length S1 []).1;have hfld:(S1.room bs.length).1.quota=S1.quota:=hfld;have hno5:id≠0->zy (S1.room bs.length).1.L id=none:=λe=>by
    have hno:=hno e;have key:∀(f:Nat) (S':St) (G:List Int),zy S'.L id=none->zy (S'.roomF bs.length f G).1.L id=none:=by
     intro f
     induction f with
     | zero=>exact λ_ _ h=>h
     | succ f ih =>
      intro S' G h;unfold St.roomF;split
      ·refine ih _ _ ?_;show zy (Go.Vc.delL S'.L _) id=none;cases hl:zy (Go.Vc.delL S'.L (Qz S'.L)) id with
       | none=>rfl
       | some x =>
        exfalso;unfold zy at hl;obtain ⟨p,hp,_⟩:=Option.map_eq_some_iff.1 hl;have h3:=List.find?_some hp;exact qvx h _ (qbn (List.mem_of_find?_eq_some hp)) (by simpa using h3)
      ·exact h
    exact key _ _ _ hno
   have c45:Chg (onS g r) w2 w5:=(hc3.trans hc4 λi _ hi=>hi).trans hc5 λi _ hi=>hi;have hb5:=hb4.chg hc5 λe=>by rcases e with e | e<;>omega
   have hP5:Rd qo w5 m.P bs:=qo9 (hP.ext hB2) c45 hPg;have hs3':=hc3.size;have hs4:=hc4.size;have hs5:=hc5.size;refine jpO λJ3 hJ3=>?_;have last:∀w6,Uc w5 w6->J3 (Yo (S1.room bs.length).1.L id,()) w6:=λw6 hB6=>by
    refine hJ3 _ _ ?_;have h6:=h5.ext hB6;have hs6:=hB6.size;refine zhr (m:=m) (bs:=bs) h6 hk5 hn (by omega) (hb5.ext hB6) (hP5.ext hB6) (λhp a ha e=>hPg hp a ha (.inl e)) (by omega) (q9l hk5 hn hnum) λP w7 h7 hc7 hPb=>?_;have hoq:=ho5.ext hB6;refine hK P q5 w7 he h7 (zhw hk5 (zb3 hk5 hn hno5) (q9l hk5 hn hnum) (by omega)) ?_ ?_ (λk hk=>by have:=hPb k hk;omega)
    ·refine (hoq.chg hc7 λk hk e=>?_).base (by omega);rcases e with (e | e) | e
     ·exact qn1 hoq h6.blk (by decide) k hk e
     ·exact h6.map.ne_own hoq k hk e
     ·have:=(hoq.lt k hk).1;omega
    ·have c:=(((Chg.of_ext hB2).trans (c45.mono (S':=λk=>onS g r k\/k=w.heap.size) λi _ hi=>.inl hi) λi _ hi=>hi).trans (Chg.of_ext hB6) λi _ hi=>hi).trans hc7 λi _ hi=>hi;exact c.mono λi hi e=>e.resolve_right (by omega)
   refine cO (λe0=>?_) λe0=>?_
   ·have e0:=eq_of_beq e0;subst e0;have hfree:=q5n hk5;refine lpR (Inv:=λ(s:Int×Unit) w6=>∃j:Nat,s.1=1099511627776+(j:Int)/\j<=n+1/\qs5 (S1.room bs.length).1.L (2000-j) s.1=Yo (S1.room bs.length).1.L 0/\Uc w5 w6) (μ:=λs=>(1099511627776+2000-s.1).toNat) ⟨0,by omega,by omega,rfl,Below.refl _ _⟩ ?_;rintro ⟨k,⟨⟩⟩ w6 ⟨j,hj,hj1,hj2,hB6⟩ I hI;have hj:k=1099511627776+(j:Int):=hj;refine zlb (h5.ext hB6) k λw7 hB7=>?_;have hB57:=hB6.trans (hB7.mono hB6.size);have e2:2000-j=(2000-(j+1))+1:=by omega
    rw [e2] at hj2;unfold qs5 at hj2;refine cO (λhs=>?_) λhs=>?_
    ·rw [if_pos hs] at hj2;have hjn:j≠n+1:=λe=>by
      rw [hj,e,hfree] at hs;cases hs
     rw [qM (by omega)];exact hI _ _ ⟨j+1,by show k+1=_;omega,by omega,hj2,hB57⟩ (by show (1099511627776+2000-(k+1)).toNat<(1099511627776+2000-k).toNat;omega)
    ·rw [if_neg (by rw [hs];decide)] at hj2;rw [hj2];exact last w7 hB57
   ·have e0:id≠0:=λe=>by rw [e] at e0;simp at e0
    have hnid:Yo (S1.room bs.length).1.L id=id:=by unfold Yo;rw [if_neg e0]
    rw [<-hnid];have:=last w5 (Below.refl _ _);rw [hnid] at this ⊢;exact this
  refine cO (λe0=>?_) λe0=>?_
  ·have e0:=bne_iff_ne.1 e0;refine qvo h3 hk3 id λw4 h4 hc4=>?_;refine next w4 _ (by rw [if_neg e0]) h4 (qpc hk3 id) rfl (λ_=>?_) hc4;cases hl:zy (({ S with res:=0 }:St).drop id).L id with
   | none=>rfl
   | some x =>
    have:=((qm3 id id x).1 ((xF (qzv hk.srt id)).1 hl)).1;exact absurd rfl this
  ·have e0:id=0:=by simpa using e0
   exact next w3 _ (by rw [if_pos e0]) h3 hk3 rfl (λe=>absurd e0 e) (Chg.refl _ _)
 have fin:∀(c:Bool) (w2:World),Uc w w2->Blk w2 w.heap.size qx (qf.rep.cells m)->c=(!(qyl m.W m.H bs.length && !(m.W==0) && qmj id && qmj num))->J5 (c,()) w2:=λc w2 hB2 hb2 hc=>by
  refine hJ5 _ _ ?_;have h2:=h.ext hB2;cases hg:(qyl m.W m.H bs.length && !(m.W==0) && qmj id && qmj num) with
  | false =>
   have he:qad S id num m.W m.H bs.length=1:=by unfold qad;rw [hg];rfl
   rw [he] at hE;rw [hg] at hc;exact cT hc (hE w2 (by decide) h2 hB2)
  | true =>
   rw [hg] at hc;have he:qad S id num m.W m.H bs.length=if (bs.length:Int)>S.quota then 6 else 0:=by unfold qad;rw [hg];rfl
   refine cF hc ?_;have hBd:=hB2.drew;refine lSl (x:=m.P) (hb2.drew.cells 2 _ rfl) (qU (lI (x:=S.quota) (h2.drew.blk.cells 0 _ rfl) ?_));rw [hPn];refine cO (λhgt=>?_) λhgt=>?_
   ·have hgt:=oTq hgt;rw [if_pos hgt] at he;rw [he] at hE;exact hE w2.drew (by decide) h2.drew hBd
   ·have hgt:=oFq hgt;rw [if_neg hgt] at he;refine good w2.drew hBd hb2.drew ?_ (by omega) he;simp only [Bool.and_eq_true] at hg;exact hg.1.2
 refine qz (x:=m) hb1.cells ?_;refine zas λw2 hB2=>?_;have hB12:Uc w w2:=hB1.trans (hB2.mono (by omega));have hb2:=hb1.ext hB2;rw [hPn];refine cO (λe1=>?_) λe1=>?_
 ·refine fin _ _ hB12 hb2 ?_;simp at e1;rw [e1];rfl
 ·simp at e1;refine lI (x:=m.W) (hb2.cells 0 _ rfl) ?_;refine cO (λe2=>fin _ _ hB12 hb2 (by rw [e2];simp)) λe2=>?_;refine qqt ?_;refine cO (λe3=>fin _ _ hB12 hb2 (by simp at e3;rw [e3];simp)) λe3=>?_;simp at e3;refine qqt ?_;exact fin _ _ hB12 hb2 (by rw [e1,e2,e3];simp)
end
section
variable {w:World} {base g r n:Nat} {S:St}
def YT (q:Int):Int:=if q<0\/q>1073741824 then 1 else 0
theorem zmy {q:Int} (h:YT q=0):StOk 0 ⟨q,0,0,0,[]⟩:=by
 unfold YT at h;split at h
 ·cases h
 ·exact ⟨by show 0<=q;omega,by show q<=_;omega,rfl,by show 0<=q;omega,le_refl _,Int.le_refl _,Int.le_refl _,.nil,(λp a=>by cases a),(λp a=>by cases a),(λp a=>by cases a),(λp a=>by cases a),(λp a=>by cases a)⟩
theorem zar {q:Int} {w:World} {base:Nat} {K:Option Addr->Int->Ub} (hE:YT q=1->K none 1 w)
  (hK:∀g r w',YT q=0->w.heap.size<=g->w.heap.size<=r->StM w' base g r ⟨q,0,0,0,[]⟩->Uc w w'->K (some ⟨g,0,none⟩) 0 w'):qns q w K:=by
 refine qz5 _ ?_;refine jpO λJ e=>?_;refine cO (λh=>hE (by unfold YT;rw [if_pos (.inl (oTq h))])) λh=>?_;refine cO (λb=>hE (by unfold YT;rw [if_pos (.inr (oTq b))])) λb=>?_;have h:=oFq h;have b:=oFq b;refine e _ _ ?_;unfold nwM;have c:Uc w (w.alloc (.map #[] 0)):=(Below.refl _ w).alloc (le_refl _) _;have f:(w.alloc (.map #[] 0)).heap.size=w.heap.size+1:=by show (w.heap.push _).size=_;simp
 refine nwb λi d a j=>?_;refine hK _ w.heap.size i (by unfold YT;rw [if_neg (by omega)]) (by omega) (le_refl _) ⟨d,(jf.new w).ext a,λp k=>by cases k⟩ (c.trans (a.mono (by omega)))
theorem q02 {L:List (Int×Im)} (h:jf Im.enc w r L) {K:Option Nat->Ub} (hK:∀r' w',w.heap.size<=r'->jf Im.enc w' r' L->Uc w w'->K (some r') w') :
  zZ (some r) w K:=by
 refine kS _ ?_;obtain ⟨a,b,c,d,g⟩:=q12 h qO;refine ⟨.iface qO (.map (some w.heap.size)),a,?_,?_⟩
 ·rw [run_callFunc_extern Tryz.func197 (by kernel_rfl) (by kernel_rfl) (by kernel_rfl) (by kernel_rfl),b];rfl
 ·exact ⟨some w.heap.size,a,qr2 q8s,hK _ a (le_refl _) c d⟩
theorem zdz (h:StM w base g r S) {K:Option Addr->Ub}
  (hK:∀g' r' w',w.heap.size<=g'->w.heap.size<=r'->StM w' base g' r' S->Uc w w'->K (some ⟨g',0,none⟩) w'):JW (some ⟨g,0,none⟩) w K:=by
 refine qlo _ ?_;refine qU (qz (x:=(⟨S.quota,S.res,S.used,S.clock,some r⟩:xZ)) h.blk.cells ?_);refine jS rfl λB m d q=>?_;have j:=h.ext d;refine qU (km (j.blk.cells 4 _ rfl) ?_);refine q02 j.map λr' C s f a=>?_;rw [qC];have b:=m.ext a;refine qD b (by simp [xZ.rep]) λw4 n c u=>?_;have v:=((Chg.of_ext d).trans (Chg.of_ext a) λi _ l=>l).trans (Go.Vc.Chg.gg c) λi _ l=>l;refine hK w.heap.size r' w4 (le_refl _) (by omega) ⟨n,f.chg (Go.Vc.Chg.gg c) (f.ne_blk b),λp o=>((j.img p o).ext a).chg (Go.Vc.Chg.gg c) λk A e=>((j.img p o).ext a).ne_b b (by decide) k A e⟩ (v.ext λi l e=>by omega)
theorem zh0 {L:List (Int×Im)} (hs:Srt L) {k:Int} {x y:Im} (h:(k,x)∈L) (hxy:y.bs=x.bs):KL (kD L k y)=KL L/\(kD L k y).length=L.length:=by
 induction L with
 | nil=>cases h
 | cons a L c =>
  have b:=List.pairwise_cons.1 hs;unfold kD;rcases mem_cons.1 h with e | h
  ·subst e;rw [if_neg (by simp),if_pos rfl];exact ⟨by rw [vg,vg,hxy],by simp⟩
  ·have d:=b.1 _ h;rw [if_neg (by omega),if_neg (by omega)];have:=c b.2 h;exact ⟨by rw [vg,vg,this.1],by simp [this.2]⟩
theorem zoa (h:StOk n S) (id:Int):StOk (n+1) (S.use id):=by
 have r:=h.clk;have q:=h.clk0;unfold St.use;cases hl:zy S.L id with
 | none =>
  exact ⟨h.q0,h.q1,h.used,h.fits,Nat.le_succ_of_le h.len,h.clk0,by show S.clock<=_;omega,h.srt,(λp d=>by have:=h.keys p d;omega),h.stamps,h.borns,h.st1,h.bo1⟩
 | some x =>
  have j:=(xF h.srt).1 hl;have g:=y4 h.srt id ({ x with v:={ x.v with stamp:=S.clock+1 } }:Im);have k:=zh0 h.srt j (y:=({ x with v:={ x.v with stamp:=S.clock+1 } }:Im)) rfl;refine ⟨h.q0,h.q1,?_,h.fits,?_,by show 0<=S.clock+1;omega,by show S.clock+1<=_;omega,qhf h.srt _ _,?_,?_,?_,?_,?_⟩
  ·rw [k.1];exact h.used
  ·have:=h.len;rw [k.2];omega
  ·rintro ⟨a,b⟩ d;rcases (g a b).1 d with ⟨rfl,rfl⟩ | ⟨_,f⟩
   ·have:=h.keys _ j;omega
   ·have:=h.keys _ f;omega
  ·rintro ⟨a,b⟩ d;show 0<b.v.stamp/\b.v.stamp<=S.clock+1;rcases (g a b).1 d with ⟨rfl,rfl⟩ | ⟨_,f⟩
   ·exact ⟨by show 0<S.clock+1;omega,Int.le_refl _⟩
   ·have:=h.stamps _ f;simp at this;omega
  ·rintro ⟨a,b⟩ d;show 0<b.v.born/\b.v.born<=S.clock+1;rcases (g a b).1 d with ⟨rfl,rfl⟩ | ⟨_,f⟩
   ·have:=h.borns _ j;simp at this ⊢;omega
   ·have:=h.borns _ f;simp at this;omega
  ·rintro ⟨a,b⟩ d ⟨l,i⟩ hp' (e:b.v.stamp=i.v.stamp);rcases (g a b).1 d with ⟨rfl,rfl⟩ | ⟨_,f⟩
   ·rcases (g l i).1 hp' with ⟨rfl,rfl⟩ | ⟨_,c⟩
    ·rfl
    ·have:=h.stamps _ c;simp at this e;omega
   ·rcases (g l i).1 hp' with ⟨rfl,rfl⟩ | ⟨_,c⟩
    ·have:=h.stamps _ f;simp at this e;omega
    ·exact h.st1 _ f _ c e
  ·rintro ⟨a,b⟩ d ⟨l,i⟩ hp' (e:b.v.born=i.v.born);rcases (g a b).1 d with ⟨rfl,rfl⟩ | ⟨m,f⟩
   ·rcases (g l i).1 hp' with ⟨rfl,rfl⟩ | ⟨o,c⟩
    ·rfl
    ·have:=congrArg Prod.fst (h.bo1 _ j _ c e);exact absurd this.symm o
   ·rcases (g l i).1 hp' with ⟨rfl,rfl⟩ | ⟨_,c⟩
    ·have:=congrArg Prod.fst (h.bo1 _ f _ j e);exact absurd this m
    ·exact h.bo1 _ f _ c e
end
end Go.Proofs.YtjhgepnpnapnoaaGreatDoor
set_option maxRecDepth 20000
namespace Go.Proofs.YtjhgepnpnapnoaaGreatDoor
open Go.Vc
open Lib (indexByte)
def xx:List Int:=[116,100,0,97,0,32,0,0,0,0,0,0,0,0,0,0,0,0,0,0,0,0]
def qcr:List Int:=List.replicate 22 0
def qfo:List UInt8:=[97,116,111,100]
def qp2:List UInt8:=[113,102,115,118,105,73,112,109,120,121,119,104,88,89,114,99,67]
def qkv (c:UInt8):Option Nat:=if indexByte qfo c<0 then none else some (indexByte qfo c).toNat
def qmt (j:Nat):Nat:=if j=16 then 21 else j+4
def qst (c:UInt8):Option Nat:=if indexByte qp2 c<0 then none else some (qmt (indexByte qp2 c).toNat)
def qzr:Nat->List UInt8->Option Nat
 | n,[]=>some n
 | n,b::r=>if b<48\/57<b then none else qzr (10*n+(b.toNat-48)) r
def Yy (v:List UInt8):Option Nat:=if v=[]\/10<v.length then none else (qzr 0 v).bind λn=>if n<=4294967295 then some n else none
def zej (m:Int):Bool:=decide (-1073741824<=m) && decide (m<1073741824)
def qon (v:List UInt8):Option Int:=match v with
 | 45::r=>(Yy r).bind λn=>if zej (-(n:Int)) then some (-(n:Int)) else none
 | v=>(Yy v).bind λn=>if zej (n:Int) then some (n:Int) else none
def qh9 (c:UInt8):Bool:=(decide (65<=c) && decide (c<=90)) || (decide (97<=c) && decide (c<=122))
def zkx (b:UInt8):Bool:=decide (33<=b) && decide (b<=126)
def zci (k:List Int) (j:Nat) (v:List UInt8):Option (List Int):=match v with
 | [b]=>if zkx b then some (k.set j (b.toNat:Int)) else none
 | _=>none
def qpz (k:List Int) (s:List UInt8):Option (List Int):=match s with
 | c::e::v =>
  if e≠61\/qh9 c=false then none
  else if c=122 then (qon v).map λm=>k.set 20 m
  else match qkv c with
   | some j=>zci k j v
   | none=>match qst c with
    | some j=>(Yy v).map λn=>k.set j (n:Int)
    | none=>some k
 | _=>none
def jp:List UInt8->List (List UInt8)
 | []=>[[]]
 | b::r=>if b=44 then []::jp r else match jp r with
  | h::t=>(b::h)::t
  | []=>[[b]]
def JM (b:List UInt8):List Int×Int:=if 512<b.length then (qcr,5) else if b=[] then (xx,0) else match (jp b).foldlM qpz xx with
 | some k=>(k,0)
 | none=>(qcr,3)
def qhk (l:List (List UInt8)):List UInt8:=Lib.join l [44]
theorem zbg (x:List UInt8) (l:List (List UInt8)) (h:l≠[]):qhk (x::l)=x++44::qhk l:=by
 unfold qhk Lib.join;cases l with
 | nil=>exact absurd rfl h
 | cons y l=>simp [List.intersperse]
theorem zeg (x:List UInt8):qhk [x]=x:=by simp [qhk,Lib.join,List.intersperse]
theorem zfv:qhk []=[]:=rfl
def qyb (k:List Int) (word:List UInt8):Bool :=
 (decide (k[8]?.getD 0=0) && decide (k[9]?.getD 0=0)) || (decide (k[4]?.getD 0=1) && decide (word=[79,75])) || decide ((2:Int)<=k[4]?.getD 0) || decide (k[8]?.getD 0<0) || decide (k[9]?.getD 0<0) || decide (k[10]?.getD 0<0)
def k8 (c:UInt8) (n:Int):List (List UInt8):=if n=0 then [] else [c::61::Lib.itoa n]
def qdi (k:List Int):List (List UInt8):=k8 105 (k[8]?.getD 0)++k8 73 (k[9]?.getD 0)++k8 112 (k[10]?.getD 0)
def qu4 (k:List Int) (word:List UInt8):List UInt8:=if qyb k word then [] else [27,95,71]++qhk (qdi k)++[59]++word++[27,92]
end Go.Proofs.YtjhgepnpnapnoaaGreatDoor
namespace Go.Proofs.YtjhgepnpnapnoaaGreatDoor
open Go.Vc Go.RowKit
set_option maxRecDepth 400000
open Lib (countByte indexByte)
open _root_.List (length_append length_cons length_map)
open _root_.Nat (le_refl mul_one zero_add)
def q29 (i:Nat) (x:Int):Value:=if i<4 then .int .u8 x else .int .i64 x
def qor:Nat->List Int->List Value
 | _,[]=>[]
 | i,x::r=>q29 i x::qor (i+1) r
def qf3 (L:List Int):List Value:=qor 0 L
def toL (k:qh):List Int:=[k.Action,k.Medium,k.Zip,k.What,k.Quiet,k.Format,k.W,k.H,k.Id,k.Number,k.Place,k.More,k.X,k.Y,k.PW,k.PH,k.DX,k.DY,k.Rows,k.Cols,k.Z,k.Stay]
def ofL (L:List Int):qh:=⟨L.getD 0 0,L.getD 1 0,L.getD 2 0,L.getD 3 0,L.getD 4 0,L.getD 5 0,L.getD 6 0,L.getD 7 0,L.getD 8 0,L.getD 9 0,L.getD 10 0,L.getD 11 0,L.getD 12 0,L.getD 13 0,L.getD 14 0,L.getD 15 0,L.getD 16 0,L.getD 17 0,L.getD 18 0,L.getD 19 0,L.getD 20 0,L.getD 21 0⟩
theorem q5q (k:qh):(toL k).length=22:=rfl
theorem zf0 (k:qh):qh.rep.cells k=qf3 (toL k):=rfl
theorem zhb {L:List Int} (h:L.length=22):toL (ofL L)=L:=by
 refine List.ext_getElem? λi=>?_;by_cases hi:i<22
 ·have e:∀j,j<22->L[j]?=some (L.getD j 0):=λj a=>by rw [List.getD_eq_getElem?_getD,List.getElem?_eq_getElem (by omega)];rfl
  rw [e i hi];have:i=0\/i=1\/i=2\/i=3\/i=4\/i=5\/i=6\/i=7\/i=8\/i=9\/i=10\/i=11\/i=12\/i=13\/i=14\/i=15\/i=16\/i=17\/i=18\/i=19\/i=20\/i=21:=by omega
  rcases this with rfl | rfl | rfl | rfl | rfl | rfl | rfl | rfl | rfl | rfl | rfl | rfl | rfl | rfl | rfl | rfl | rfl | rfl | rfl | rfl | rfl | rfl<;>rfl
 ·rw [List.getElem?_eq_none (by rw [q5q];omega),List.getElem?_eq_none (by omega)]
theorem qu9 {L:List Int} (h:L.length=22):qh.rep.cells (ofL L)=qf3 L:=by rw [zf0,zhb h]
theorem qyt:∀(L:List Int) (i j:Nat) (v:Int),(qor i L).set j (q29 (i+j) v)=qor i (L.set j v)
 | [],i,j,v=>rfl
 | x::r,i,0,v=>rfl
 | x::r,i,j+1,v=>by
  rw [qor,List.set_cons_succ,List.set_cons_succ,qor,show i+(j+1)=i+1+j by omega,qyt r (i+1) j v]
theorem yF (L:List Int):(qf3 L).length=L.length:=by
 have:∀(L:List Int) (i:Nat),(qor i L).length=L.length:=by
  intro L
  induction L with
  | nil=>intro i;rfl
  | cons x r a=>intro i;rw [qor,length_cons,a,length_cons]
 exact this L 0
structure KM (w:World) (g:Nat) (L:List Int):Prop where
 blk:Blk w g zg (qf3 L)
 len:L.length=22
theorem za4 {P:UInt8->Prop} (h:∀n,n<256->P (UInt8.ofNat n)) (c:UInt8):P c:=by
 have:=h c.toNat c.toNat_lt
 rwa [UInt8.ofNat_toNat] at this
theorem qy7 (c:UInt8):indexByte qfo c<0\/∃j:Nat,indexByte qfo c=j/\j<4/\qkv c=some j:=by
 refine za4 (P:=λc=>indexByte qfo c<0\/∃j:Nat,indexByte qfo c=j/\j<4/\qkv c=some j) (λn a=>?_) c;by_cases h:indexByte qfo (UInt8.ofNat n)<0
 ·exact .inl h
 ·refine .inr ⟨(indexByte qfo (UInt8.ofNat n)).toNat,by omega,?_,?_⟩
  ·have:∀n,n<256->indexByte qfo (UInt8.ofNat n)<4:=by decide +kernel
   have:=this n a;omega
  ·unfold qkv;rw [if_neg (by omega)]
theorem q4b (c:UInt8):indexByte qp2 c<0\/∃j:Nat,indexByte qp2 c=j/\j<17/\qst c=some (qmt j):=by
 refine za4 (P:=λc=>indexByte qp2 c<0\/∃j:Nat,indexByte qp2 c=j/\j<17/\qst c=some (qmt j)) (λn a=>?_) c;by_cases h:indexByte qp2 (UInt8.ofNat n)<0
 ·exact .inl h
 ·refine .inr ⟨(indexByte qp2 (UInt8.ofNat n)).toNat,by omega,?_,?_⟩
  ·have:∀n,n<256->indexByte qp2 (UInt8.ofNat n)<17:=by decide +kernel
   have:=this n a;omega
  ·unfold qst;rw [if_neg (by omega)]
section
variable {w:World} {g:Nat}
theorem qzd (c:UInt8) {i:Int} (hi:i=c.toNat) {K:Option Addr->Ub} (hK:∀w',Uc w w'->K ((qkv c).map λj=>⟨g,j,none⟩) w'):Zq (some ⟨g,0,none⟩) i w K:=by
 refine qpp _ _ ?_;refine qk0 (bs:=qfo) hi ?_;rcases qy7 c with h | ⟨j,b,d,e⟩
 ·refine cT (by simpa using h) ?_;have:=hK w (Below.refl _ _);unfold qkv at this
  rwa [if_pos h] at this
 ·rw [b];refine cF (by simp) (xr (xr (xr (xr ?_))));refine nwb λf k l m=>⟨⟨by omega,by omega⟩,?_⟩;have a:=hK f ((Below.refl _ w).drew.trans l);rw [e] at a;refine qS ?_ a;have:j=0\/j=1\/j=2\/j=3:=by omega
  rcases this with rfl | rfl | rfl | rfl<;>exact k.cell _ (by simp [qC])
theorem qta (c:UInt8) {i:Int} (hi:i=c.toNat) {K:Option Addr->Ub} (hK:∀w',Uc w w'->K ((qst c).map λj=>⟨g,j,none⟩) w'):Qb (some ⟨g,0,none⟩) i w K:=by
 refine qlg _ _ ?_;refine qk0 (bs:=qp2) hi ?_;rcases q4b c with h | ⟨j,b,d,e⟩
 ·refine cT (by simpa using h) ?_;have:=hK w (Below.refl _ _);unfold qst at this
  rwa [if_pos h] at this
 ·rw [b];refine cF (by simp) ?_;refine xr (xr (xr (xr (xr (xr (xr (xr (xr (xr (xr (xr (xr (xr (xr (xr (xr ?_))))))))))))))));refine nwb λf k l m=>⟨⟨by omega,by omega⟩,?_⟩;have a:=hK f ((Below.refl _ w).drew.trans l);rw [e] at a;refine qS ?_ a;have:j=0\/j=1\/j=2\/j=3\/j=4\/j=5\/j=6\/j=7\/j=8\/j=9\/j=10\/j=11\/j=12\/j=13\/j=14\/j=15\/j=16:=by omega
  rcases this with rfl | rfl | rfl | rfl | rfl | rfl | rfl | rfl | rfl | rfl | rfl | rfl | rfl | rfl | rfl | rfl | rfl<;>exact k.cell _ (by simp [qC,qmt])
theorem zo1 {b:UInt8} (n:Nat) (hn:n<256):decide ((b.toNat:Int)>=(n:Int))=decide (UInt8.ofNat n<=b):=by
 have:(UInt8.ofNat n).toNat=n:=by simp;omega
 by_cases h:n<=b.toNat
 ·rw [dTq (by omega),dTq (by show (UInt8.ofNat n).toNat<=b.toNat;omega)]
 ·rw [dFq (by omega),dFq (by show ¬(UInt8.ofNat n).toNat<=b.toNat;omega)]
theorem zoz {b:UInt8} (n:Nat) (hn:n<256):decide ((b.toNat:Int)<=(n:Int))=decide (b<=UInt8.ofNat n):=by
 have:(UInt8.ofNat n).toNat=n:=by simp;omega
 by_cases h:b.toNat<=n
 ·rw [dTq (by omega),dTq (by show b.toNat<=(UInt8.ofNat n).toNat;omega)]
 ·rw [dFq (by omega),dFq (by show ¬b.toNat<=(UInt8.ofNat n).toNat;omega)]
theorem q4d (b:UInt8) {i:Int} (hi:i=b.toNat) {K:Bool->Ub} (hK:K (zkx b) w):qdo i w K:=by
 subst hi;refine qul _ ?_;unfold zkx at hK;have a:decide ((b.toNat:Int)>=33)=decide ((33:UInt8)<=b):=zo1 33 (by omega);have c:decide ((b.toNat:Int)<=126)=decide (b<=(126:UInt8)):=zoz 126 (by omega);refine cO (λh=>?_) λh=>?_
 ·rw [c];rw [a] at h;rw [show decide ((33:UInt8)<=b)=true from h] at hK;exact hK
 ·rw [a] at h;rw [show decide ((33:UInt8)<=b)=false from h] at hK;exact hK
theorem zgo {b:UInt8} (h:¬(b<48\/57<b)):i64.wrap (u8.wrap ((b.toNat:Int)-48))=((b.toNat-48:Nat):Int)/\b.toNat-48<10:=by
 have c:48<=b.toNat:=by
  have:¬b.toNat<48:=λa=>h (.inl (show b.toNat<(48:UInt8).toNat from a));omega
 have d:b.toNat<=57:=by
  have:¬57<b.toNat:=λa=>h (.inr (show (57:UInt8).toNat<b.toNat from a));omega
 rw [show ((b.toNat:Int)-48)=((b.toNat-48:Nat):Int) by omega,xN .u8 (by show _<2^8;omega),xN .i64 (by show _<2^63;omega)];exact ⟨rfl,by omega⟩
theorem qq2 (v:List UInt8) {K:Int->Bool->Ub} (hK:∀(n:Nat) ok,n<10000000000->(ok=true->Yy v=some n)->(ok=false->Yy v=none)->K n ok w):qfb (qX v) w K:=by
 refine q0f _ ?_;refine jpO λJ E=>?_;have g:=λh=>hK 0 false (by omega) (λe=>by cases e) λ_=>h;refine cO (λh=>g ?_) λh=>?_
 ·rw [Qa] at h;have:v=[]:=by simpa using h
  unfold Yy;rw [if_pos (.inl this)]
 have q:v≠[]:=by
  rw [Qa] at h;simpa using h
 rw [qT];refine cO (λh=>g ?_) λo=>?_
 ·have h:(10:Int)<v.length:=oTq h;unfold Yy;rw [if_pos (.inr (by omega))]
 have o:=oFq o;have p:v.length<=10:=by omega
 have c:Yy v=(qzr 0 v).bind λn=>if n<=4294967295 then some n else none:=by unfold Yy;rw [if_neg (by intro f;rcases f with f | f;exact q f;omega)]
 refine E _ _ ?_;refine lpR (λ(s:Int×Int×Unit) w2=>w2=w/\∃k m:Nat,s.2.1=k/\s.1=m/\k<=v.length/\m<10^k/\qzr 0 v=qzr m (v.drop k)) (λs=>v.length-s.2.1.toNat) ⟨rfl,0,0,rfl,rfl,Nat.zero_le _,by omega,rfl⟩ ?_;rintro ⟨a,b,u⟩ _ ⟨rfl,k,m,y,z,N,F,l⟩ I hI;dsimp only at z y ⊢;subst z y;have i:∀j,j<=10->10^j<=10000000000:=λj G=>Nat.pow_le_pow_right (by omega) G;by_cases hlt:k<v.length
 ·refine cT (by simp [qT];omega) (jpO λO r=>?_);have t:v[k]?=some v[k]:=by simp [hlt]
  rw [List.drop_eq_getElem_cons hlt,qzr] at l;refine qro rfl t ?_;have d:(v[k]<48\/57<v[k])->Yy v=none:=λf=>by rw [c,l,if_pos f];rfl
  refine cO (λh=>g (d (.inl ?_))) λA=>?_
  ·have h:=oTq h;show (v[k]).toNat<(48:UInt8).toNat;have:(48:UInt8).toNat=48:=rfl;omega
  refine qro rfl t ?_;refine cO (λh=>g (d (.inr ?_))) λB=>?_
  ·have h:=oTq h;show (57:UInt8).toNat<(v[k]).toNat;have:(57:UInt8).toNat=57:=rfl;omega
  have A:=oFq A;have B:=oFq B;have C:¬(v[k]<48\/57<v[k]):=by
   rintro (f | f)
   ·have:(v[k]).toNat<(48:UInt8).toNat:=f;have:(48:UInt8).toNat=48:=rfl;omega
   ·have:(57:UInt8).toNat<(v[k]).toNat:=f;have:(57:UInt8).toNat=57:=rfl;omega
  obtain ⟨x,H⟩:=zgo C;rw [if_neg C] at l;refine r _ _ (qro rfl t ?_);rw [x];have D:=i (k+1) (by omega);have L:m<10^k:=F;rw [show (10:Int)*(m:Int)=((10*m:Nat):Int) by omega,xN .i64 (by show _<2^63;omega),show ((10*m:Nat):Int)+((v[k].toNat-48:Nat):Int)=((10*m+(v[k].toNat-48):Nat):Int) by omega,xN .i64 (by show _<2^63;omega),i64_in (by omega)];exact hI _ _ ⟨rfl,k+1,_,by simp,rfl,by omega,by omega,l⟩ (by simp;omega)
 ·refine cF (by simp [qT];omega) ?_;obtain rfl:k=v.length:=by omega
  rw [List.drop_of_length_le (le_refl _),qzr] at l;have:=i v.length p;refine hK m _ (by omega) (λh=>?_) λh=>?_
  ·have h:(m:Int)<=4294967295:=oTq h;rw [c,l,Option.bind_some,if_pos (by omega)]
  ·have h:=oFq h;rw [c,l,Option.bind_some,if_neg (by omega)]
theorem zbr (v:List UInt8) (c:UInt8) {K:Bool->Ub} (hK:K (decide (v.head?=some c)) w):xB (qX v) (qX [c]) w K:=by
 refine Jn _ _ ?_;cases v with
 | nil=>exact cF (by simp [qT]) (by simpa using hK)
 | cons b r =>
  refine cT (by simp [qT];omega) ?_;refine q0b (h:=1) (.inl ⟨rfl,rfl⟩) (.inr (by simp [qT])) (by omega) (by simp) ?_;have e:((qX (((b::r).take 1).drop 0)).toList==(qX [c]).toList)=decide ((b::r).head?=some c):=by
   rw [Qa,Qa];by_cases h:b=c
   ·subst h;simp
   ·rw [dFq (by simpa using h)];simpa using h
  rw [e];exact hK
theorem q1o (v:List UInt8) (c:UInt8) {K:ByteArray->Bool->Ub} (h1:∀r,v=c::r->K (qX r) true w) (h0:(∀r,v≠c::r)->K (qX v) false w):ZH (qX v) (qX [c]) w K:=by
 refine qiq _ _ ?_;refine Jb _ _ ?_;refine zbr v c ?_;cases v with
 | nil=>exact cT (by simp) (h0 λr=>by simp)
 | cons b r =>
  by_cases h:b=c
  ·subst h;refine cF (by simp) (q0b (l:=1) (.inr (by simp [qT])) (.inl ⟨rfl,rfl⟩) (by simp) (le_refl _) ?_);simpa using h1 r rfl
  ·exact cT (by simpa using h) (h0 λa e=>h (by cases e;rfl))
theorem zbc (v:List UInt8) {K:Int->Bool->Ub} (hK:∀(n:Int) ok,(ok=true->qon v=some n)->(ok=false->qon v=none)->K n ok w):qkq (qX v) w K:=by
 refine qxn _ ?_;have e:∀(r:List UInt8) (f:Nat->Int) (b:Bool),(qon v=(Yy r).bind λn=>if zej (f n) then some (f n) else none)->∀(n:Nat) (ok:Bool),(ok=true->Yy r=some n)->(ok=false->Yy r=none) ->
   (cond ok (cond (decide (f n>=((-1073741824):Int))) (K (f n) (decide (f n<(1073741824:Int))) w) (K (f n) false w)) (K (f n) false w)):=by
  intro r f b c n ok g h;refine cO (λd=>?_) λd=>?_
  ·have j:=g d;rw [j,Option.bind_some] at c;unfold zej at c;refine cO (λi=>?_) λi=>?_
   ·have i:=oTq i;refine hK _ _ (λa=>?_) λa=>?_
    ·have a:=oTq a;rw [c,dTq (by omega),dTq (by omega)];rfl
    ·have a:=oFq a;rw [c,dFq (p:=f n<1073741824) (by omega),Bool.and_false];rfl
   ·have i:=oFq i;refine hK _ _ (λa=>by cases a) λ_=>?_;rw [c,dFq (by omega)];rfl
  ·have j:=h d;rw [j] at c;exact hK _ _ (λa=>by cases a) λ_=>c
 refine q1o v 45 (λr k=>?_) λk=>?_
 ·refine qq2 r λn ok m g h=>jpO λJ l=>cT rfl (l _ _ ?_);rw [i64_in (by omega),show (0:Int)-(n:Int)=-(n:Int) by omega];exact e r (λn=>-(n:Int)) true (by rw [k];rfl) n ok g h
 ·refine qq2 v λn ok m g h=>jpO λJ l=>cF rfl (l _ _ ?_);refine e v (λn=>(n:Int)) false ?_ n ok g h;unfold qon;split
  ·rename_i r;exact absurd rfl (k r)
  ·rfl
end
theorem zbm (c:UInt8):(decide (jN .or .u8 (c.toNat:Int) 32>=97) && decide (jN .or .u8 (c.toNat:Int) 32<=122))=qh9 c:=by
 refine za4 (P:=λc=>(decide (jN .or .u8 (c.toNat:Int) 32>=97) && decide (jN .or .u8 (c.toNat:Int) 32<=122))=qh9 c) (λn b=>?_) c;have e:jN .or .u8 (((UInt8.ofNat n).toNat:Nat):Int) ((32:Nat):Int)=(((UInt8.ofNat n).toNat ||| 32:Nat):Int):=zc5 .u8 (by show _<2^8;exact (UInt8.ofNat n).toNat_lt) (by decide);have d:jN .or .u8 (((UInt8.ofNat n).toNat:Nat):Int) 32=(((UInt8.ofNat n).toNat ||| 32:Nat):Int):=e;rw [d];have a:∀n,n<256->(decide ((((UInt8.ofNat n).toNat ||| 32:Nat):Int)>=97) && decide ((((UInt8.ofNat n).toNat ||| 32:Nat):Int)<=122))=qh9 (UInt8.ofNat n):=by decide +kernel
 exact a n b
section
variable {w:World} {g:Nat} {L:List Int}
theorem KM.ext {w':World} (h:KM w g L) (hb:Uc w w'):KM w' g L:=⟨h.blk.ext hb,h.len⟩
theorem KM.st (h:KM w g L) {j:Nat} (hj:j<22) {v:Int} {u:Value} (hu:u=q29 j v) {K:Ub} (hK:∀w',KM w' g (L.set j v)->Chg (λk=>k=g) w w'->w'.heap.size=w.heap.size->K w'):stK ⟨g,j,none⟩ [u] w K:=by
 subst hu;refine qD h.blk (by rw [yF,h.len,List.length_singleton];omega) λw' a b c=>hK w' ⟨?_,by rw [List.length_set];exact h.len⟩ (Go.Vc.Chg.gg b) c;have:putL (qf3 L) j [q29 j v]=qf3 (L.set j v):=by
  have:=qyt L 0 j v;rw [zero_add] at this;exact this
 rwa [this] at a
theorem q0l {α β:Type} (o:Option α) (f:α->β):(o.map f).isNone=o.isNone:=by cases o<;>rfl
theorem zf4 {j:Nat} (h:j<17):qmt j<22/\¬qmt j<4:=by unfold qmt;split<;>omega
theorem KM.drew (h:KM w g L):KM w.drew g L:=⟨h.blk.drew,h.len⟩
theorem zjm (h:KM w g L) (s:List UInt8) {K:Bool->Ub} (hK:∀b w' L',KM w' g L'->Chg (λk=>k=g) w w'->(b=true->qpz L s=some L')->(b=false->qpz L s=none)->K b w'):qac (some ⟨g,0,none⟩) (qX s) w K:=by
 refine qrf _ _ ?_;have d:∀{w':World} {L':List Int},KM w' g L'->Chg (λk=>k=g) w w'->qpz L s=none->K false w':=λI r p=>hK false _ _ I r (λe=>by cases e) λ_=>p;have o:∀{w':World} {L':List Int},KM w' g L'->Chg (λk=>k=g) w w'->qpz L s=some L'->K true w':=λI r p=>hK true _ _ I r (λ_=>p) λe=>by cases e
 have J:Chg (λk=>k=g) w w:=Chg.refl _ _;refine jpO λJ1 M=>?_;rcases s with _ | ⟨c,_ | ⟨e,v⟩⟩
 ·exact cT (by simp [qT]) (d h J rfl)
 ·exact cT (by simp [qT]) (d h J rfl)
 ·refine cF (by simp [qT];omega) ?_;refine qro (k:=1) (b:=e) rfl rfl ?_;by_cases he:e=61
  case neg =>
   refine cT ?_ (d h J ?_)
   ·have:e.toNat≠61:=λq=>he (UInt8.toNat_inj.1 q);simp;omega
   ·unfold qpz;dsimp only;rw [if_pos (.inl he)]
  subst he;refine cF (by decide) (M _ _ ?_);refine qro (k:=0) (b:=c) rfl rfl ?_;refine q0b (l:=2) (.inr rfl) (.inl ⟨rfl,rfl⟩) (by simp) (le_refl _) ?_;rw [List.take_length];show zf _ _;have hv:(c::(61:UInt8)::v).drop 2=v:=rfl;rw [hv];have N:=h.drew;have O:Chg (λk=>k=g) w w.drew:=Chg.of_ext (Below.refl _ w).drew;refine jpO λP Q=>?_;have R:P (qh9 c,()) w.drew->cond (decide (jN .or .u8 (c.toNat:Int) (32:Int)>=(97:Int))) (P ((decide (jN .or .u8 (c.toNat:Int) (32:Int)<=(122:Int))),()) w.drew) (P (false,()) w.drew):=by
   intro t;rw [<-zbm] at t;refine cO (λT=>?_) λT=>?_
   ·rw [T,Bool.true_and] at t;exact t
   ·rw [T,Bool.false_and] at t;exact t
  refine R (Q _ _ ?_);dsimp only;cases hl:qh9 c with
  | false =>
   refine cT rfl (d N O ?_);unfold qpz;dsimp only;rw [if_pos (.inr hl)]
  | true =>
   have a:qpz L (c::61::v)=if c=122 then (qon v).map λm=>L.set 20 m
     else match qkv c with
      | some j=>zci L j v
      | none=>match qst c with
       | some j=>(Yy v).map λn=>L.set j (n:Int)
       | none=>some L:=by
    unfold qpz;dsimp only;rw [if_neg (by rw [hl];simp)]
    all_goals rfl
   refine cF rfl ?_;by_cases hz:c=122
   ·subst hz;refine cT (by decide) (zbc v λn U V W=>xr ?_);rw [qC,zero_add];refine N.st (j:=20) (by omega) (v:=n) rfl λw4 A X ae=>?_;have r:=O.trans X λi _ f=>f;cases U with
    | true=>exact o A r (by rw [a,V rfl];rfl)
    | false=>exact d A r (by rw [a,W rfl];rfl)
   rw [if_neg hz] at a;refine cF ?_ ?_
   ·have:c.toNat≠122:=λq=>hz (UInt8.toNat_inj.1 q);simp;omega
   refine qzd c rfl λw5 B=>?_;rw [q0l];have C:=N.ext B;have D:=O.trans (Chg.of_ext (S:=λk=>k=g) B) λi _ f=>f;cases hs:qkv c with
   | some j =>
    rw [hs] at a;have Y:j<4:=by
     rcases qy7 c with q | ⟨j',_,q,e⟩
     ·unfold qkv at hs;rw [if_pos q] at hs;cases hs
     ·rw [hs] at e;cases e;exact q
    refine cT rfl (jpO λJ3 z=>?_);rcases v with _ | ⟨b,_ | ⟨b',v'⟩⟩
    ·exact cF (by simp [qT]) (z _ _ (cF rfl (d C D a)))
    rotate_left
    ·exact cF (by simp [qT];omega) (z _ _ (cF rfl (d C D a)))
    ·refine cT (by simp [qT]) (qro (k:=0) (b:=b) rfl rfl (q4d b rfl (z _ _ ?_)));cases hvb:zkx b with
     | false =>
      refine cF rfl (d C D ?_);rw [a];show zci L j [b]=_;unfold zci;dsimp only;rw [hvb];rfl
     | true =>
      refine cT rfl (qro (k:=0) (b:=b) rfl rfl ?_);refine qzd c rfl λw7 E=>?_;rw [hs];have h7:=C.drew.ext E;have c7:=(D.trans (Chg.of_ext (S:=λk=>k=g) (Below.refl _ w5).drew) λi _ f=>f).trans (Chg.of_ext (S:=λk=>k=g) E) λi _ f=>f;refine xr (h7.st (j:=j) (by omega) (v:=(b.toNat:Int)) (by unfold q29;rw [if_pos Y]) λw8 Z aa af=>?_);refine o Z (c7.trans aa λi _ f=>f) ?_;rw [a];show zci L j [b]=_;unfold zci;dsimp only;rw [hvb];rfl
   | none =>
    rw [hs] at a;refine cF rfl ?_;refine qta c rfl λah u=>?_;rw [q0l];have F:=C.ext u;have G:=D.trans (Chg.of_ext (S:=λk=>k=g) u) λi _ f=>f;cases p:qst c with
    | none =>
     rw [p] at a;exact cF rfl (o F G a)
    | some j =>
     rw [p] at a;have t:j<22/\¬j<4:=by
      rcases q4b c with q | ⟨j',_,q,e⟩
      ·unfold qst at p;rw [if_pos q] at p;cases p
      ·rw [p] at e;cases e;exact zf4 q
     refine cT rfl (qta c rfl λai x=>?_);rw [p];have ab:=F.ext x;have ac:=G.trans (Chg.of_ext (S:=λk=>k=g) x) λi _ f=>f;refine qq2 v λn U aj V W=>xr (ab.st (j:=j) t.1 (v:=(n:Int)) (by unfold q29;rw [if_neg t.2]) λak y H ad=>?_);have r:=ac.trans H λi _ f=>f;cases U with
     | true=>exact o y r (by rw [a];dsimp only;rw [V rfl];rfl)
     | false=>exact d y r (by rw [a];dsimp only;rw [W rfl];rfl)
end
theorem J9:∀(s:List UInt8),(indexByte s 44=-1/\jp s=[s]/\countByte s 44=0)\/∃(x r:List UInt8),s=x++44::r/\indexByte s 44=x.length/\jp s=x::jp r/\countByte s 44=countByte r 44+1
 | []=>.inl ⟨rfl,rfl,rfl⟩
 | b::s=>by
  by_cases hb:b=44
  ·subst hb;refine .inr ⟨[],s,rfl,by simp [indexByte],by simp [jp],by simp [countByte]⟩
  ·rcases J9 s with ⟨c,d,a⟩ | ⟨x,r,e,c,d,a⟩
   ·refine .inl ⟨by simp [indexByte,hb,c],by rw [jp,if_neg hb,d],?_⟩;unfold countByte at a ⊢;rw [List.count_cons_of_ne hb];exact a
   ·refine .inr ⟨b::x,r,by rw [e];rfl,?_,by rw [jp,if_neg hb,d],?_⟩
    ·have:¬(x.length:Int)=-1:=by omega
     simp [indexByte,hb,c]
    ·unfold countByte at a ⊢;rw [List.count_cons_of_ne hb];exact a
theorem q03 (s:List UInt8):(jp s).length=countByte s 44+1:=by
 have:∀n (s:List UInt8),s.length=n->(jp s).length=countByte s 44+1:=by
  intro n
  induction n using Nat.strongRecOn with
  | _ n ih =>
   intro s c;rcases J9 s with ⟨d,a,b⟩ | ⟨x,r,e,d,a,b⟩
   ·rw [a,b];rfl
   ·rw [a,b,length_cons,ih r.length (by rw [<-c,e];simp;omega) r rfl]
 exact this _ s rfl
section
variable {w:World}
theorem zfh (s:List UInt8) (c:UInt8) {K:Int->Ub} (hK:K (indexByte s c) w):qk7 (qX s) (qX [c]) w K:=by
 refine Calls.mono (Tryz.strings_Index_one (qX s) c w) ?_;rintro e a ⟨rfl,rfl⟩;exact ⟨_,rfl,hK⟩
theorem zf5 (s:List UInt8) (c:UInt8) {K:Int->Ub} (hK:K (countByte s c) w):qk6 (qX s) (qX [c]) w K:=by
 refine Calls.mono (Tryz.strings_Count_one (qX s) c w) ?_;rintro e a ⟨rfl,rfl⟩;exact ⟨_,rfl,hK⟩
theorem zba (s:List UInt8) (hl:s.length<=1000000) {K:Slc->Ub} (hK:∀q w',Rd kY w' q ((jp s).map qX)->Uc w w'->(∀k,q.blk=some k->w.heap.size<=k)->K q w'):YQ (qX s) (qX [44]) w K:=by
 refine qrs _ _ ?_;refine qlp _ _ _ _ ?_;refine cF (by decide) (cF (by rw [Qa];simp [ByteArray.toList_eq]) ?_);refine jpO λJ1 hJ1=>?_;refine cT (by decide) (zf5 s 44 (hJ1 _ _ ?_));dsimp only;have hn:=q03 s;have hcle:countByte s 44<=s.length:=List.count_le_length;obtain ⟨n,hnn⟩:∃n,countByte s 44+1=n:=⟨_,rfl⟩;rw [i64_in (x:=((countByte s 44:Nat):Int)+1) (by omega),qT,i64_in (x:=((s.length:Nat):Int)+1) (by omega),show ((countByte s 44:Nat):Int)+1=(n:Int) by omega];have emin:(if ((s.length:Nat):Int)+1<(n:Int) then ((s.length:Nat):Int)+1 else (n:Int))=(n:Int):=if_neg (by omega);rw [emin];refine qyc (E:=kY) qja (x0:=ByteArray.empty) (by kernel_rfl) (n:=n) rfl rfl (by rw [qs8];omega) (by unfold maxLen;omega) λw3 ho hB3=>?_;rw [i64_in (x:=(n:Int)-1) (by omega)];generalize hq:(⟨some ⟨w.heap.size,0,none⟩,n,n⟩:Slc)=q at ho ⊢;refine jpO λJ2 hJ2=>?_;have hqa:q.a=some ⟨w.heap.size,0,none⟩:=by rw [<-hq]
 have hqn:q.n=n:=by rw [<-hq]
 refine lpR (λ(st:ByteArray×Int×Unit) w6=>∃(k:Nat) (rest:List UInt8),st.2.1=k/\st.1=qX rest/\k<n/\countByte rest 44+1+k=n/\rest.length<=s.length/\Go.Vc.Own kY w6 w.heap.size q (((jp s).map qX).take k++List.replicate (n-k) ByteArray.empty)/\(jp s).drop k=jp rest/\Uc w w6)
  (λst=>n-st.2.1.toNat) ⟨0,s,rfl,rfl,by omega,by omega,le_refl _,by simpa using ho,rfl,hB3⟩ ?_
 rintro ⟨t,i,u⟩ w6 ⟨k,rest,hi,ht,hk,hcnt,hrl,ho6,hdrop,hB6⟩ I hI;dsimp only at hi ht ⊢;subst hi ht;have hlen6:(((jp s).map qX).take k++List.replicate (n-k) ByteArray.empty).length=n:=by simp;omega
 have hset:∀(x:List UInt8) (r:List (List UInt8)),(jp s).drop k=x::r->(((jp s).map qX).take k++List.replicate (n-k) ByteArray.empty).set k (qX x)=((jp s).map qX).take (k+1)++List.replicate (n-(k+1)) ByteArray.empty:=by
  intro x r hx;have hl2:(((jp s).map qX).take k).length=k:=by simp;omega
  rw [List.set_append_right _ _ (by omega),hl2,Nat.sub_self,show n-k=(n-(k+1))+1 by omega,List.replicate_succ,List.set_cons_zero,List.take_add_one,List.append_assoc];congr 1;have:((jp s).map qX)[k]?=some (qX x):=by
   rw [List.getElem?_map];have:(jp s)[k]?=some x:=by
    have:=congrArg (λl=>l[0]?) hx;simpa using this
   rw [this];rfl
  rw [this];rfl
 have hixx:(((jp s).map qX).take k++List.replicate (n-k) ByteArray.empty)[k]?=some ByteArray.empty:=by
  have hl2:(((jp s).map qX).take k).length=k:=by simp;omega
  rw [List.getElem?_append_right (by omega),hl2,Nat.sub_self,List.getElem?_replicate,if_pos (by omega)]
 by_cases hlt:k+1<n
 ·refine cT (by simp;omega) (zfh rest 44 ?_);rcases J9 rest with ⟨h1,h2,h3⟩ | ⟨x,r,h0,h1,h2,h3⟩
  ·omega
  ·have hxl:x.length+1+r.length=rest.length:=by rw [h0];simp;omega
   rw [h1];refine cF (by simp) ?_;rw [i64_in (by omega)];refine q0b (l:=0) (h:=x.length) (.inl ⟨rfl,rfl⟩) (.inr (by simp)) (by omega) (by rw [h0];simp) ?_;have ex:(rest.take x.length).drop 0=x:=by rw [h0];simp
   rw [ex];refine q4z (by rw [hqa];rfl) (by omega) (by omega) ?_;rw [Int.toNat_natCast];refine ho6.st0 (E:=kY) (i:=k) (x:=ByteArray.empty) (y:=qX x) hixx rfl λw8 ho8 hg8 hs8=>?_;rw [hset x (jp r) (by rw [hdrop,h2])] at ho8;refine q0b (l:=x.length+1) (h:=rest.length) (.inr ?_) (.inl ⟨rfl,rfl⟩) (by rw [h0];simp) (le_refl _) ?_
   ·rw [qT,show (([44]:List UInt8).length:Int)=1 from rfl,i64_in (by omega)];simp
   have er:(rest.take rest.length).drop (x.length+1)=r:=by rw [List.take_length,h0];simp
   rw [er,i64_in (by omega)];have hrlen:r.length<rest.length:=by rw [h0];simp;omega
   have hqb:q.blk=some w.heap.size:=by unfold Slc.blk;rw [hqa];rfl
   refine hI _ _ ⟨k+1,r,by simp,rfl,hlt,by omega,by omega,ho8,?_,hB6.grown hg8 hB6.size λj hj=>by rw [hqb] at hj;cases hj;exact le_refl _⟩ (by simp;omega);have:(jp s).drop (k+1)=((jp s).drop k).drop 1:=by rw [List.drop_drop]
   rw [this,hdrop,h2];rfl
 ·obtain rfl:n=k+1:=by omega
  refine cF (by simp) (hJ2 _ _ ?_);dsimp only;have hlast:jp rest=[rest]:=by
   rcases J9 rest with ⟨h1,h2,h3⟩ | ⟨x,r,h0,h1,h2,h3⟩
   ·exact h2
   ·omega
  refine q4z (by rw [hqa];rfl) (by omega) (by omega) ?_;rw [Int.toNat_natCast];refine ho6.st0 (E:=kY) (i:=k) (x:=ByteArray.empty) (y:=qX rest) hixx rfl λw8 ho8 hg8 hs8=>?_;rw [hset rest [] (by rw [hdrop,hlast]),Nat.sub_self,List.replicate_zero,List.append_nil,List.take_of_length_le (by simp;omega)] at ho8;rw [i64_in (by omega)];have hqb:q.blk=some w.heap.size:=by unfold Slc.blk;rw [hqa];rfl
  have hl8:((jp s).map qX).length=k+1:=by simp;omega
  refine ho8.rd.slK (E:=kY) (k:=1) (l:=0) (m:=k+1) rfl (.inl ⟨rfl,rfl⟩) (.inr (by simp)) (by omega) (by omega) λhrd=>?_;rw [List.take_of_length_le (by omega),List.drop_zero] at hrd;refine hK _ w8 hrd (hB6.grown hg8 hB6.size λj hj=>by rw [hqb] at hj;cases hj;exact le_refl _) λj hj=>?_;obtain ⟨a,ha,rfl⟩:=slk.1 hj;obtain ⟨b,hb,e⟩:=Go.Vc.cut_block ha;rw [hqa] at hb;cases hb;rw [e];exact le_refl _
end
theorem q8x:qcr.length=22:=rfl
section
variable {w:World}
theorem qoi {K:qh->Ub} (hK:∀w',Uc w w'->K (ofL xx) w'):Ke w K:=by
 refine qx5 ?_;refine nwb λi b c f=>?_;refine qD b (by decide) λe a d g=>?_;refine qz (x:=ofL xx) a.cells (hK e (c.grown d (by omega) λk h=>by cases h;exact le_refl _))
theorem zca {b:Slc} {bs:List UInt8} (hrd:Rd qo w b bs) {K:qh->Int->Ub} (hK:∀w',Uc w w'->K (ofL (JM bs).1) (JM bs).2 w'):qi1 b w K:=by
 refine qx2 _ ?_;have hn:=hrd.n;refine nwb λw1 v W al=>?_;refine qoi λX y=>?_;have Y:=v.ext y;have s2:=y.size;refine jS (t:=zg) (vs:=qh.rep.cells (ofL xx)) rfl λw4 F z am=>?_;have A:KM w4 w.heap.size qcr:=⟨Y.ext z,rfl⟩;have Z:KM w4 X.heap.size xx:=⟨F,rfl⟩;have c:Uc w w4:=(W.trans (y.mono (by omega))).trans (z.mono (by omega));have d:∀{U:World} {L:List Int} {vs:List Value} {e:Int},L.length=22->vs=qf3 L->JM bs=(L,e)->KM U w.heap.size qcr->Uc w U ->
   stK ⟨w.heap.size,0,none⟩ vs U λV=>ldS qh.rep ⟨w.heap.size,0,none⟩ V λr=>K r e V:=by
  intro U L vs e E aa hp hz G;subst aa;refine qD hz.blk (by rw [yF,yF,E,hz.len];omega) λV H ab an=>?_;have e6:putL (qf3 qcr) 0 (qf3 L)=qh.rep.cells (ofL L):=by
   rw [qu9 E];refine List.ext_getElem? λm=>?_;rw [Yp _ _ 0 m (by rw [yF,yF,E,q8x];omega)];by_cases hm:m<22
   ·rw [if_pos (by rw [yF,E];omega)];rfl
   ·rw [if_neg (by rw [yF,E];omega),List.getElem?_eq_none (by rw [yF,q8x];omega),List.getElem?_eq_none (by rw [yF,E];omega)]
  rw [e6] at H;refine qz (x:=ofL L) H.cells ?_;have:=hK V (G.grown ab G.size λk hk=>by cases hk;exact le_refl _);rw [hp] at this;exact this
 refine cO (λh=>?_) λh=>?_
 ·have h:(512:Int)<b.n:=oTq h;exact d (L:=qcr) rfl rfl (by unfold JM;rw [if_pos (by omega)]) A c
 have h:¬(512:Int)<b.n:=oFq h;refine cO (λB=>?_) λB=>?_
 ·have B:(b.n:Int)=0:=by simpa using B
  have J:bs=[]:=List.eq_nil_of_length_eq_zero (by omega);refine qz (x:=ofL xx) (F.cells) ?_;exact d (L:=xx) rfl rfl (by unfold JM;rw [if_neg (by omega),if_pos J]) A c
 have B:¬(b.n:Int)=0:=by simpa using B
 have ac:bs≠[]:=λe=>by subst e;simp at hn;omega
 have M:=hrd.ext c;refine kw M (zba bs (by omega) λq w8 hq C ad=>?_);have s4:=c.size;have ae:=A.ext C;have af:=Z.ext C;have ah:=hq.n;rw [length_map] at ah;have f:JM bs=match (jp bs).foldlM qpz xx with | some k=>(k,0) | none=>(qcr,3):=by unfold JM;rw [if_neg (by omega),if_neg ac]
 have ak:(jp bs).length<=1000:=by
  rw [q03];have:countByte bs 44<=bs.length:=List.count_le_length;omega
 refine lpR (λ(s:Int×Unit) w9=>∃(k:Nat) (L:List Int),s.1=k/\k<=(jp bs).length/\KM w9 X.heap.size L/\KM w9 w.heap.size qcr/\Rd kY w9 q ((jp bs).map qX)/\Uc w w9/\(jp bs).foldlM qpz xx=((jp bs).drop k).foldlM qpz L)
  (λs=>(jp bs).length-s.1.toNat) ⟨0,xx,rfl,Nat.zero_le _,af,ae,hq,c.trans (C.mono (by omega)),rfl⟩ ?_
 rintro ⟨i,u⟩ w9 ⟨k,L,hi,hk,g,N,O,D,P⟩ I hI;dsimp only at hi ⊢;subst hi;by_cases hlt:k<(jp bs).length
 ·refine cT (by simp;omega) ?_;refine O.ix (k:=1) rfl (by omega) (by simp;omega) λj=>?_;obtain ⟨x,hx,ai⟩:=Go.Vc.get_of (xs:=(jp bs).map qX) (k:=k) (by simpa using hlt);rw [ai _] at j;have aj:x=qX (jp bs)[k]:=by
   rw [List.getElem?_map,List.getElem?_eq_getElem hlt] at hx;exact (Option.some.inj hx).symm
  refine qgu (x:=x) (by simpa using j 0 _ rfl) ?_;rw [aj];rw [List.drop_eq_getElem_cons hlt,List.foldlM_cons] at P;refine zjm g _ λok Q L' R l h1 B=>?_;have S:w.heap.size≠X.heap.size:=by omega
  have o:KM Q w.heap.size qcr:=⟨N.blk.chg l S,rfl⟩;have p:Uc w Q:=D.trans (l.below D.size λi hi e=>by omega);cases ok with
  | false =>
   refine cT rfl (d (L:=qcr) rfl rfl ?_ o p);rw [f,P,B rfl];rfl
  | true =>
   refine cF rfl ?_;rw [i64_in (by omega)];refine hI _ _ ⟨k+1,L',by simp,by omega,R,o,O.chg l λa ha e=>?_,p,?_⟩ (by simp;omega)
   ·have:=ad a.block (slk.2 ⟨a,ha,rfl⟩);have ao:=z.size;omega
   ·rw [P,h1 rfl];rfl
 ·refine cF (by simp;omega) ?_;rw [List.drop_of_length_le (by omega)] at P;have T:=g.blk.cells;rw [<-qu9 g.len] at T;refine qz (x:=ofL L) T ?_;rw [qu9 g.len];exact d (L:=L) g.len rfl (by rw [f,P];rfl) N D
end
theorem q3c (m:Nat):∀(l:List (List UInt8)),(∀x∈l,x.length<=m)->(qhk l).length<=l.length*(m+1)
 | [],_=>by simp [zfv]
 | [x],h=>by
  have:=h x (by simp);rw [zeg];simp;omega
 | x::y::l,h=>by
  have b:=h x (by simp);have c:=q3c m (y::l) λz a=>h z (by simp [a]);have e:(x::y::l).length*(m+1)=(y::l).length*(m+1)+(m+1):=by rw [length_cons,Nat.succ_mul]
  rw [e,zbg x (y::l) (by simp),length_append,length_cons];omega
section
variable {w:World}
theorem ze2 {base:Nat} {q:Slc} {l:List (List UInt8)} (hq:Go.Vc.Own kY w base q (l.map qX)) (hn:l.length<=100000) (hl:(qhk l).length<=1000000) {K:ByteArray->Ub} (hK:∀w',Uc w w'->K (qX (qhk l)) w'):qn2 q (qX [44]) w K:=by
 have a:(l.map qX).map (·.data.toList)=l:=by
  rw [List.map_map]
  conv=>rhs;rw [<-List.map_id l]
  exact List.map_congr_left λx _=>rfl
 rcases hq.form with ⟨rfl,f⟩ | ⟨g,cur,d,o,h,p,r,s,t⟩
 ·have b:l=[]:=by simpa using f
  subst b;refine Calls.mono (Tryz.strings_Join_none none 0 (qX [44]) w) ?_;rintro e w' ⟨rfl,rfl⟩;exact ⟨_,rfl,hK w' (Below.refl _ _)⟩
 ·have i:Calls PG 336 #[.slice (some ⟨g,0,none⟩) (l.map qX).length q.c,.string (qX [44])] w λe w'=>e=.returned (.string ⟨(Lib.join ((l.map qX).map (·.data.toList)) [44]).toArray⟩)/\Uc w w' :=
   Tryz.strings_Join g 0 q.c (l.map qX) (qX [44]) w (λj x m=>by
    have:=hq.rd.at_ j x m 0 (.string x) rfl;rw [d] at this;simpa [Slc.at_,qC,show kY.k=1 from rfl] using this) h.lt (by simp;omega) (by omega) (by rw [a];show (qhk l).length<=_;omega)
  rw [d];refine Calls.mono i ?_;rintro e w' ⟨rfl,n⟩;rw [a];exact ⟨_,rfl,hK w' n⟩
theorem zhi {base:Nat} {s:Slc} {l:List (List UInt8)} {x:List UInt8} {K:Slc->Ub} (hown:Go.Vc.Own kY w base s (l.map qX)) (hb:base<=w.heap.size) (hl:l.length<=1000)
  (hK:∀r w',Go.Vc.Own kY w' base r ((l++[x]).map qX)->Chg (λk=>s.blk=some k) w w'->(∀k,r.blk=some k->s.blk=some k\/w.heap.size<=k)->K r w') :
  nw zk [(.string (qX x))] w λa w1=>apK PG #[vV,vV] vV s ⟨some a,1,1⟩ w1 λr w2=>K r w2:=by
 refine qgq (E:=kY) (y:=qX x) qja hown rfl hb (by rw [qs8,length_map];omega) (by rw [length_map];unfold maxLen;omega) λr w' b c d=>hK r w' ?_ c d;rw [List.map_append];exact b
end
section
variable {w:World}
theorem q7r {vs:List Value} {n:Nat} {bs:List UInt8} {K:Slc->Ub} (hv:vs=bs.map λb=>Value.int .u8 (b.toNat:Int)) (hn:n=bs.length) (hl:bs.length<=1000000)
  (hK:∀s w',Rd qo w' s bs->s.blk=some w.heap.size->Uc w w'->w'.heap.size=w.heap.size+1->s.a=some ⟨w.heap.size,0,none⟩->K s w') :
  nw qF vs w λt w1=>zO PG (convert qj qj (.slice (some t) n n)) Kind.slice w1 K:=by
 subst hn hv;refine ⟨⟨some ⟨w.heap.size,0,none⟩,bs.length,bs.length⟩,_,Lib.run_convert_bytes_const w qj qF _ _ _ (by kernel_rfl) (by kernel_rfl),hK _ _ ⟨rfl,le_refl _,by show bs.length<=maxLen;simp only [maxLen];omega,λ_=>rfl,λi x f j v d=>?_⟩ rfl ((Below.refl _ w).alloc (le_refl _) _) (by simp) rfl⟩;have e:j=0:=by
  have:=(List.getElem?_eq_some_iff.1 d).1;simp [qo] at this;exact this
 subst e;have hv:v=.int .u8 (x.toNat:Int):=by
  simp [qo] at d;exact d.symm
 subst hv;have g:i<bs.length:=(List.getElem?_eq_some_iff.1 f).1;show World.cell? _ (((⟨w.heap.size,0,none⟩:Addr).add (i*1)).add 0)=_;rw [add_zero,qC,mul_one,zero_add];have c:∀o:Obj,(w.alloc o).heap[w.heap.size]?=some o:=λo=>by
  show (w.heap.push o)[w.heap.size]?=_;simp
 unfold World.cell?;dsimp only;rw [c];show (bs.map λb=>Value.int .u8 (b.toNat:Int)).toArray[i]?=_;rw [List.getElem?_toArray,List.getElem?_map,f];rfl
theorem q81:∀(x:List UInt8) (c:UInt8) (r:List UInt8),(∀b∈x,b≠c)->indexByte (x++c::r) c=x.length
 | [],c,r,_=>by simp [indexByte]
 | b::x,c,r,h=>by
  have a:=q81 x c r λb d=>h b (by simp [d]);have e:b≠c:=h b (by simp);have f:¬(x.length:Int)=-1:=by omega
  simp [indexByte,e,a,f]
theorem q9w {s:Slc} {bs:List UInt8} (hs:Rd qo w s bs) (ha:s.a.isSome=true) (hl:bs.length<=1000000) {K:Slc->Ub} (hK:∀q w',Go.Vc.Own qo w' w.heap.size q bs->Uc w w'->K q w'):Jf s w K:=by
 refine qh6 _ ?_;refine cF (by cases h:s.a with | none=>rw [h] at ha;cases ha | some a=>rfl) ?_;refine nwb λj c b d=>?_;refine jW (E:=qo) qN (qb3 c (le_refl _)) (hs.ext b) (by omega) (by rw [jV];simp;omega) (by simp;unfold maxLen;omega) λq e f g l=>hK q e f (b.grown g (by omega) λk i=>by cases i;exact le_refl _)
theorem q9k {L:List Int} {wd:List UInt8}:qyb L wd=((decide (L[8]?.getD 0=0) && decide (L[9]?.getD 0=0)) || (decide (L[4]?.getD 0=1) && decide (wd=[79,75])) || decide ((2:Int)<=L[4]?.getD 0) || decide (L[8]?.getD 0<0) || decide (L[9]?.getD 0<0) || decide (L[10]?.getD 0<0)):=rfl
theorem zj7 (wd:List UInt8):((qX wd).toList==(⟨#[79,75]⟩:ByteArray).toList)=decide (wd=[79,75]):=by
 rw [Qa,show (⟨#[79,75]⟩:ByteArray)=qX [79,75] from rfl,Qa];by_cases h:wd=[79,75]
 ·rw [h];rfl
 ·rw [dFq h];simpa using h
theorem qgm (c:UInt8) {n:Int} (h0:-9223372036854775808<=n) (h1:n<=9223372036854775807):(k8 c n).length<=1/\∀x∈k8 c n,x.length<=22:=by
 have:=qt2 h0 h1;unfold k8;split
 ·simp
 ·refine ⟨by simp,λx a=>?_⟩;rw [List.mem_singleton] at a;subst a;simp;omega
def YW (L:List Int):Prop:=∀i:Nat,-9223372036854775808<=L[i]?.getD 0/\L[i]?.getD 0<=9223372036854775807
theorem zfg {L:List Int} (hw:YW L):(qdi L).length<=3/\(qhk (qdi L)).length<=100:=by
 have a:=qgm 105 (hw 8).1 (hw 8).2;have b:=qgm 73 (hw 9).1 (hw 9).2;have c:=qgm 112 (hw 10).1 (hw 10).2;have e:(qdi L).length<=3:=by unfold qdi;rw [length_append,length_append];omega
 have:=q3c 22 (qdi L) λx d=>by
  unfold qdi at d;rcases List.mem_append.1 d with d | d
  ·rcases List.mem_append.1 d with d | d
   ·exact a.2 x d
   ·exact b.2 x d
  ·exact c.2 x d
 exact ⟨e,by omega⟩
theorem zag {k:qh} (hT:Tab w) (hw:YW (toL k)) (wd:List UInt8) (hwl:wd.length<=100000) {K:Slc->Ub} (hK:∀q w',Rd qo w' q (qu4 (toL k) wd)->Uc w w'->(∀j,q.blk=some j->w.heap.size<=j)->K q w'):qjq k (qX wd) w K:=by
 refine qx0 _ _ ?_;refine nwb λw1 hb1 hB1 hs1=>?_;obtain ⟨L,hL⟩:∃L,toL k=L:=⟨_,rfl⟩;rw [hL] at hw hK;have h4:L[4]?.getD 0=k.Quiet:=by rw [<-hL];rfl
 have h8:L[8]?.getD 0=k.Id:=by rw [<-hL];rfl
 have h9:L[9]?.getD 0=k.Number:=by rw [<-hL];rfl
 have h10:L[10]?.getD 0=k.Place:=by rw [<-hL];rfl
 have ld:∀{w2:World},Blk w2 w.heap.size zg (qh.rep.cells k)->w2.cell? ((⟨w.heap.size,0,none⟩:Addr).add 4)=some (Ua k.Quiet)/\w2.cell? ((⟨w.heap.size,0,none⟩:Addr).add 8)=some (Ua k.Id)/\w2.cell? ((⟨w.heap.size,0,none⟩:Addr).add 9)=some (Ua k.Number)/\w2.cell? ((⟨w.heap.size,0,none⟩:Addr).add 10)=some (Ua k.Place) :=
  λhb=>⟨hb.cells 4 _ rfl,hb.cells 8 _ rfl,hb.cells 9 _ rfl,hb.cells 10 _ rfl⟩
 obtain ⟨l4,l8,l9,l10⟩:=ld hb1;have hno:qyb L wd=true->K ⟨none,0,0⟩ w1:=λh=>hK _ w1 (by unfold qu4;rw [if_pos h];exact Rd.nil _ _) hB1 (λj hj=>by cases hj);rw [q9k,h4,h8,h9,h10] at hno;refine lI l4 ?_;refine jpO λJ1 hJ1=>jpO λJ3 hJ3=>jpO λJ4 hJ4=>?_;have hmain:qyb L wd=false->J1 () w1:=by
  intro hn;refine hJ1 _ _ ?_;refine lI l8 (lI l9 (lI l10 ?_));refine nwb λw3 hb3 hB3 hs3=>?_;have hB13:=hB1.trans (hB3.mono (by omega));have rI:∀i:Nat,i<=3->List (List UInt8):=λi _=>([k8 105 k.Id,k8 73 k.Number,k8 112 k.Place].take i).flatten;have hrI:qdi L=([k8 105 k.Id,k8 73 k.Number,k8 112 k.Place].take 3).flatten:=by unfold qdi;rw [h8,h9,h10];simp
  have hw8:=hw 8;have hw9:=hw 9;have hw10:=hw 10;rw [h8] at hw8;rw [h9] at hw9;rw [h10] at hw10;refine lpR (λ(s:Slc×Int×Unit) w4=>∃i:Nat,s.2.1=i/\i<=3/\Blk w4 w1.heap.size jD [(.string (qX [105,61])),(Ua k.Id),(.string (qX [73,61])),(Ua k.Number),(.string (qX [112,61])),(Ua k.Place)]/\Uc w w4/\w3.heap.size<=w4.heap.size/\Go.Vc.Own kY w4 w3.heap.size s.1 ((([k8 105 k.Id,k8 73 k.Number,k8 112 k.Place].take i).flatten).map qX))
   (λs=>3-s.2.1.toNat) ⟨0,rfl,by omega,hb3,hB13,le_refl _,Go.Vc.Own.nil _ _ _⟩ ?_
  rintro ⟨q,i,u⟩ w4 ⟨m,hi,hm,hb4,hB4,hs4,ho4⟩ I hI;dsimp only at hi ho4 ⊢;subst hi;by_cases hlt:m<3
  ·refine cT (by simp;omega) ⟨⟨by omega,by omega⟩,?_⟩;obtain ⟨c,n,hcn,hnw,hcells⟩:∃(c:UInt8) (n:Int),[k8 105 k.Id,k8 73 k.Number,k8 112 k.Place][m]?=some (k8 c n)/\(-9223372036854775808<=n/\n<=9223372036854775807) /\
     qG w4 ((⟨w1.heap.size,0,none⟩:Addr).add (((m:Int)).toNat*2)) (zv.rep.cells ⟨qX [c,61],n⟩):=by
    have:m=0\/m=1\/m=2:=by omega
    rcases this with rfl | rfl | rfl
    ·exact ⟨105,k.Id,rfl,hw8,hb4.sub 0 _ rfl⟩
    ·exact ⟨73,k.Number,rfl,hw9,hb4.sub 2 _ rfl⟩
    ·exact ⟨112,k.Place,rfl,hw10,hb4.sub 4 _ rfl⟩
   have htk:(([k8 105 k.Id,k8 73 k.Number,k8 112 k.Place].take (m+1)).flatten)=(([k8 105 k.Id,k8 73 k.Number,k8 112 k.Place].take m).flatten)++k8 c n:=by
    rw [List.take_add_one,hcn,List.flatten_append];simp
   refine qz (x:=(⟨qX [c,61],n⟩:zv)) hcells ?_;refine jS (t:=jD) (vs:=zv.rep.cells ⟨qX [c,61],n⟩) rfl λw6 hb6 hB6 hs6=>?_;refine lI (x:=n) (hb6.cells 1 _ rfl) ?_;have ho6:=ho4.ext hB6;have hb46:=hb4.ext hB6;have hB46:=hB4.trans (hB6.mono hB4.size);have e4:=hB4.size;rw [i64_in (by omega)];refine cO (λhne=>?_) λhe=>?_
   ·have hne:n≠0:=by simpa using hne
    have hit:k8 c n=[c::61::Lib.itoa n]:=by unfold k8;rw [if_neg hne]
    have hb6d:Blk w6.drew w4.heap.size jD (zv.rep.cells ⟨qX [c,61],n⟩):=hb6.drew;refine qgu (x:=qX [c,61]) (hb6d.cells 0 _ rfl) (lI (x:=n) (hb6d.cells 1 _ rfl) ?_);refine quu (hT.ext hB46.drew) hnw.1 hnw.2 λw7 hB7=>?_;have hil:=qt2 hnw.1 hnw.2;refine ⟨(hb6d.ext hB7).cells 0 _ rfl,by rw [qT,qT];simp;omega,?_⟩;rw [jH];show nw zk [(.string (qX (c::61::Lib.itoa n)))] w7 _;have e7:w6.heap.size<=w7.heap.size:=hB7.size;have ho7:Go.Vc.Own kY w7 w3.heap.size q _:=ho6.drew.ext hB7;have hb47:=hb46.drew.ext hB7;have hlen:(([k8 105 k.Id,k8 73 k.Number,k8 112 k.Place].take m).flatten).length<=1000:=by
     have a:=(qgm 105 hw8.1 hw8.2).1;have b:=(qgm 73 hw9.1 hw9.2).1;have:m=0\/m=1\/m=2:=by omega
     rcases this with rfl | rfl | rfl<;>simp<;>omega
    refine zhi ho7 (by omega) hlen λr w9 ho9 hc9 hr9=>?_;have hne1:∀j,q.blk=some j->w3.heap.size<=j:=λj hj=>(ho7.lt j hj).1;refine hI _ _ ⟨m+1,by simp,by omega,hb47.chg hc9 λe=>?_,(hB46.drew.trans (hB7.mono (by show _<=w6.heap.size;omega))).trans (hc9.below (by omega) λi hi e=>?_),by have:=hc9.size;omega,?_⟩ (by simp;omega)
    ·have:=hne1 _ e;omega
    ·have:=hne1 _ e;omega
    ·dsimp only;rw [htk,hit];exact ho9
   ·have he:n=0:=by simpa using he
    have hit:k8 c n=[]:=by unfold k8;rw [if_pos he]
    refine hI _ _ ⟨m+1,by simp,by omega,hb46,hB46,by omega,?_⟩ (by simp;omega);dsimp only;rw [htk,hit,List.append_nil];exact ho6
  ·refine cF (by simp;omega) ?_;obtain rfl:m=3:=by omega
   rw [<-hrI] at ho4;obtain ⟨hl1,hl2⟩:=zfg hw;refine ze2 (l:=qdi L) ho4 (by omega) (by omega) λw10 hB10=>?_;have e1:(⟨#[27,95,71]⟩:ByteArray)=qX [27,95,71]:=rfl;have e2:(⟨#[59]⟩:ByteArray)=qX [59]:=rfl;have e3:(⟨#[27,92]⟩:ByteArray)=qX [27,92]:=rfl;rw [e1,e2,e3];simp only [jH,qT,length_append,length_cons,List.length_nil];refine ⟨by omega,by omega,by omega,by omega,?_⟩;have hrep:qu4 L wd=[27,95,71]++qhk (qdi L)++[59]++wd++[27,92]:=by unfold qu4;rw [if_neg (by rw [hn];simp)]
   rw [<-hrep];refine qkb (by rw [hrep];simp;omega) λr w11 hr11 hrb hB11 _=>?_;have e4:=hB4.size;have e10:=hB10.size;exact hK r w11 hr11 ((hB4.trans (hB10.mono (by omega))).trans (hB11.mono (by omega))) (λj hj=>by have:=hrb j hj;omega)
 rw [q9k,h4,h8,h9,h10] at hmain;have hJ4':¬(k.Id=0/\k.Number=0)->¬k.Id<0->¬k.Number<0->¬k.Place<0->J4 () w1:=by
  intro hid a b c;refine hJ4 _ _ ?_;have hid':(decide (k.Id=0) && decide (k.Number=0))=false:=by
   cases h:(decide (k.Id=0) && decide (k.Number=0)) with
   | false=>rfl
   | true=>exact absurd (by simpa using h) hid
  rw [hid',dFq a,dFq b,dFq c] at hno hmain;simp only [Bool.false_or,Bool.or_false] at hno hmain;refine cO (λhq=>?_) λhq=>?_
  ·have hq:k.Quiet=1:=by simpa using hq
   rw [hq] at hno hmain ⊢;rw [zj7];by_cases hwd:wd=[79,75]
   ·rw [dTq hwd] at *;exact cF rfl (hJ3 _ _ (cT (by decide) (hno (by decide))))
   ·rw [dFq hwd] at *;exact cT rfl (hJ3 _ _ (cF (by decide) (hmain (by decide))))
  ·have hq:¬k.Quiet=1:=by simpa using hq
   rw [dFq hq,Bool.false_and,Bool.false_or] at hno hmain;refine hJ3 _ _ (cO (λh1=>hno ?_) λh1=>hmain ?_)
   ·have h1:k.Quiet>=1:=oTq h1;exact dTq (by omega)
   ·have h1:¬k.Quiet>=1:=oFq h1;exact dFq (by omega)
 have tail:¬(k.Id=0/\k.Number=0)->ldI .i64 ((⟨w.heap.size,0,none⟩:Addr).add 8) w1 λt22=>cond (decide (t22<(0:Int))) (K (⟨none,0,0⟩:Slc) w1) (ldI .i64 ((⟨w.heap.size,0,none⟩:Addr).add 9) w1 λt27=>cond (decide (t27<(0:Int))) (K (⟨none,0,0⟩:Slc) w1) (ldI .i64 ((⟨w.heap.size,0,none⟩:Addr).add 10) w1 λt32=>cond (decide (t32<(0:Int))) (K (⟨none,0,0⟩:Slc) w1) (J4 (()) w1))):=by
  intro hid;refine lI l8 (cO (λh=>hno ?_) λha=>?_)
  ·rw [h];simp
  refine lI l9 (cO (λh=>hno ?_) λhb=>?_)
  ·rw [h];simp
  refine lI l10 (cO (λh=>hno ?_) λhc=>?_)
  ·rw [h];simp
  exact hJ4' hid (oFq ha) (oFq hb) (oFq hc)
 refine lI l8 (cO (λh0=>?_) λh0=>?_)
 ·have h0:k.Id=0:=by simpa using h0
  refine lI l9 (cO (λh1=>hno ?_) λh1=>?_)
  ·have h1:k.Number=0:=by simpa using h1
   rw [h0,h1];simp
  ·have h1:¬k.Number=0:=by simpa using h1
   exact tail λhh=>h1 hh.2
 ·have h0:¬k.Id=0:=by simpa using h0
  exact tail λhh=>h0 hh.1
end
end Go.Proofs.YtjhgepnpnapnoaaGreatDoor
namespace Go.Vc
def zpe (ls:List UInt8) (k:Nat):Nat:=if k=0 then 0 else ls.countP λx=>x.toNat==k
structure Cfg where
 mode:Nat
 last:Bool
 left:Nat
 sg:List UInt8
 ds:List UInt8
 hist:List UInt8
def zn8:List UInt8:=List.replicate 144 8++List.replicate 112 9++List.replicate 24 7++List.replicate 8 8
end Go.Vc
namespace Go.Proofs.YtjhgepnpnapnoaaGreatDoor
open Go.Vc Go.RowKit
structure TF where
 g:Nat
 so:Slc
 co:Slc
 lo:Slc
set_option maxRecDepth 400000
def tp (o:Option TF):Option Addr:=o.map λf=>⟨f.g,0,none⟩
end Go.Proofs.YtjhgepnpnapnoaaGreatDoor
namespace Go.Vc
section
variable {B:List UInt8}
def mu (B:List UInt8) (c:Cfg) (a:Nat):Nat:=2*(8*B.length-a)+(if c.mode=2 then 1 else 0)
end
end Go.Vc
namespace Go.Proofs.YtjhgepnpnapnoaaGreatDoor
open Go.Vc Go.RowKit
set_option maxRecDepth 400000
theorem qln:(List.range 10).map (zpe zn8)=[0,0,0,0,0,0,0,24,152,112]:=by decide +kernel
section
variable {w:World} {base:Nat}
theorem q0g (n:Nat):u8.wrap (n:Int)=(((UInt8.ofNat n).toNat:Nat):Int):=by
 rw [zht];show (((UInt8.ofNat ((n:Int)%256).toNat).toNat:Nat):Int)=_;rw [UInt8.toNat_ofNat',UInt8.toNat_ofNat'];omega
end
end Go.Proofs.YtjhgepnpnapnoaaGreatDoor
namespace Go.Proofs.YtjhgepnpnapnoaaGreatDoor
open Go.Vc
def qlv (m:List UInt8) (k:Nat) (c:List UInt8):List UInt8:=m.take k++c++m.drop (k+4)
def q8k (k:List UInt8):List UInt8:=k.take 4++List.replicate (4-k.length) 0
end Go.Proofs.YtjhgepnpnapnoaaGreatDoor
namespace Go.Proofs.YtjhgepnpnapnoaaGreatDoor
open Go.Vc Go.RowKit
set_option maxRecDepth 400000
theorem qhz {zs vs:List Value} (hl:vs.length=zs.length):putL zs 0 vs=vs:=by
 refine List.ext_getElem? λm=>?_;rw [Yp vs zs 0 m (by omega)];by_cases hm:m<vs.length
 ·rw [if_pos (by omega)];rfl
 ·rw [if_neg (by omega),List.getElem?_eq_none (by omega),List.getElem?_eq_none (by omega)]
theorem xR {g:Nat} {t:TypeId} {vs us:List Value} {w:World} {K:Ub} (h:Blk w g t vs) (hl:us.length=vs.length) (hK:∀w',Blk w' g t us->Chg (λk=>k=g) w w'->w'.heap.size=w.heap.size->K w'):stK ⟨g,0,none⟩ us w K :=
 qD h (by omega) λw' a b c=>hK w' (by rw [qhz hl] at a;exact a) (Go.Vc.Chg.gg b) c
theorem zN {r:Rep} {g:Nat} {t:TypeId} {vs us:List Value} {x:r.T} {w:World} {K:r.T->Ub} (h:Blk w g t vs) (hus:r.cells x=us) (hl:us.length=vs.length) (hK:∀w',Chg (λk=>k=g) w w'->w'.heap.size=w.heap.size->K x w') :
  stK ⟨g,0,none⟩ us w λw'=>ldS r ⟨g,0,none⟩ w' λy=>K y w' :=
 xR h hl λw' a b c=>qz (x:=x) (by rw [hus];exact a.cells) (hK w' b c)
theorem bdw (w:World):Uc w w.drew:=(Below.refl _ w).drew
theorem b1o {w w1 w2:World} {g:Nat} (h:Uc w w1) (hc:Chg (λk=>k=g) w1 w2) (hg:w.heap.size<=g):Uc w w2 :=
 h.trans (hc.below h.size λi a e=>by omega)
theorem bT {w w1 w2:World} (h:Uc w w1) (h2:Uc w1 w2):Uc w w2:=h.trans (h2.mono h.size)
theorem zac {w:World} {s:Slc} {xs:List UInt8} (h:Rd qo w s xs) {i:Nat} {x:UInt8} (hx:xs[i]?=some x):w.cell? (s.at_ 1 i)=some (.int .u8 (x.toNat:Int)):=by
 have:=h.at_ i x hx 0 _ rfl;have a:w.cell? (s.at_ qo.k i)=some (.int .u8 (x.toNat:Int)):=by simpa using this
 exact a
theorem zhh {a b:Int} (h:a≠b):(a==b)=false:=by simpa using h
theorem qza {a b:Int} (h:a≠b):(a !=b)=true:=by simpa using h
theorem w8 (y:UInt8):i64.wrap ((y.toNat:Nat):Int)=((y.toNat:Nat):Int):=qM (by have:=y.toNat_lt;omega)
end Go.Proofs.YtjhgepnpnapnoaaGreatDoor
