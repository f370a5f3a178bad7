import Derived.Test.YtlmpnfhmpjldaaaGreatDoorP1
import Derived.Lib.SlBytesConst
import Derived.Test.YtlmpnfhmpjldaaaGreatDoorShA
import Derived.MapKept
import Derived.Maps.Own
import Derived.Shelf.SlIterI.Nil
import Derived.Shelf.SortM.Plain
import Derived.Shelf.SortM.SortNone
import Derived.Maps.RangeRun
set_option linter.unusedVariables false
namespace Go.Proofs.YtlmpnfhmpjldaaaGreatDoor
open Go.Vc Go.RowKit
open _root_.Int (toNat_natCast)
open IntKind (i64)
open _root_.Nat (le_refl le_trans mul_one zero_le)
structure Foot where
 g:Nat
 r:Nat
 ls:Slc
 rs:Slc
structure GS where
 rows:Nat
 cols:Nat
 most:Nat
 L:List (List qU)
 old:List (List qU)
 top:Int
def x6 (f:Foot) (k:Nat):Prop:=k=f.g\/k=f.r\/f.ls.blk=some k\/f.rs.blk=some k
structure GridM (w:World) (base:Nat) (f:Foot) (S:GS):Prop where
 blk:Blk w f.g yh [.pointer (some ⟨f.r,0,none⟩),.int .i64 S.rows,.int .i64 S.cols,.slice f.ls.a f.ls.n f.ls.c,.int .i64 S.top]
 hg:base<=f.g
 row:∃ls,Go.Vc.Own slE w base f.ls ls/\Lines w base ls S.L
 ring:Ja w base f.r f.rs S.most S.old
 ne:∀k,f.ls.blk=some k->f.rs.blk≠some k
structure Foot.to (f f':Foot) (n:Nat):Prop where
 g:f'.g=f.g
 r:f'.r=f.r
 ls:f'.ls.blk=f.ls.blk\/∀k,f'.ls.blk=some k->n<=k
 rs:f'.rs.blk=f.rs.blk\/∀k,f'.rs.blk=some k->n<=k
theorem Foot.to.refl (f:Foot) (n:Nat):f.to f n:=⟨rfl,rfl,.inl rfl,.inl rfl⟩
theorem Foot.to.old {f f':Foot} {n:Nat} (h:f.to f' n):∀k,x6 f' k->x6 f k\/n<=k:=by
 rintro k (rfl | rfl | hk | hk)
 ·exact .inl (.inl h.g)
 ·exact .inl (.inr (.inl h.r))
 ·rcases h.ls with e | e
  ·exact .inl (.inr (.inr (.inl (by rw [<-e];exact hk))))
  ·exact .inr (e k hk)
 ·rcases h.rs with e | e
  ·exact .inl (.inr (.inr (.inr (by rw [<-e];exact hk))))
  ·exact .inr (e k hk)
theorem Foot.to.trans {f f' f'':Foot} {n n':Nat} (h:f.to f' n) (h':f'.to f'' n') (hn:n<=n'):f.to f'' n:=by
 refine ⟨h'.g.trans h.g,h'.r.trans h.r,?_,?_⟩
 ·rcases h'.ls with e | e
  ·rcases h.ls with e' | e'
   ·exact .inl (e.trans e')
   ·exact .inr λk hk=>e' k (by rw [<-e];exact hk)
  ·exact .inr λk hk=>le_trans hn (e k hk)
 ·rcases h'.rs with e | e
  ·rcases h.rs with e' | e'
   ·exact .inl (e.trans e')
   ·exact .inr λk hk=>e' k (by rw [<-e];exact hk)
  ·exact .inr λk hk=>le_trans hn (e k hk)
section
variable {w w':World} {base r most:Nat} {s:Slc} {old:List (List qU)} {f:Foot} {S:GS}
theorem Ja.chg {T:Nat->Prop} (h:Ja w base r s most old) (hc:Chg T w w') (hT:∀k,qii r s k->¬T k) (hC:∀k cs,T k->¬Blk w k qR cs):Ja w' base r s most old:=by
 obtain ⟨at_,gone,ls,xss,hb,ho,hl,hbr,e,hm,ha⟩:=h;exact ⟨at_,gone,ls,xss,hb.chg hc (hT r (.inl rfl)),ho.chg hc λg hg=>hT g (.inr hg),hl.chg hc hC,hbr,e,hm,ha⟩
theorem Ja.ext (h:Ja w base r s most old) (hb:Uc w w'):Ja w' base r s most old :=
 h.chg (Chg.of_ext (S:=λ_=>False) hb) (λ_ _ h=>h) (λ_ _ h=>h.elim)
theorem GridM.chg {T:Nat->Prop} (h:GridM w base f S) (hc:Chg T w w') (hT:∀k,x6 f k->¬T k) (hC:∀k cs,T k->¬Blk w k qR cs):GridM w' base f S:=by
 obtain ⟨ls,ho,hl⟩:=h.row;exact ⟨h.blk.chg hc (hT _ (.inl rfl)),h.hg,⟨ls,ho.chg hc λg hg=>hT g (.inr (.inr (.inl hg))),hl.chg hc hC⟩,
  h.ring.chg hc (λk hk=>hT k (by rcases hk with hk | hk;exact .inr (.inl hk);exact .inr (.inr (.inr hk)))) hC,h.ne⟩
theorem GridM.ext (h:GridM w base f S) (hb:Uc w w'):GridM w' base f S :=
 h.chg (Chg.of_ext (S:=λ_=>False) hb) (λ_ _ h=>h) (λ_ _ h=>h.elim)
theorem GridM.drew (h:GridM w base f S):GridM w.drew base f S:=h.ext ((Below.refl _ w).drew)
theorem Ja.below (h:Ja w base r s most old):∀k,qii r s k->base<=k/\k<w.heap.size:=by
 obtain ⟨at_,gone,ls,xss,hb,ho,hl,hbr,e,hm,ha⟩:=h;rintro k (rfl | hk)
 ·exact ⟨hbr,hb.lt⟩
 ·exact ho.lt k hk
theorem GridM.below (h:GridM w base f S):∀k,x6 f k->base<=k/\k<w.heap.size:=by
 obtain ⟨ls,ho,hl⟩:=h.row;rintro k (rfl | rfl | hk | hk)
 ·exact ⟨h.hg,h.blk.lt⟩
 ·exact h.ring.below _ (.inl rfl)
 ·exact ho.lt k hk
 ·exact h.ring.below _ (.inr hk)
theorem Ja.notC (h:Ja w base r s most old):∀k cs,qii r s k->¬Blk w k qR cs:=by
 obtain ⟨at_,gone,ls,xss,hb,ho,hl,hbr,e,hm,ha⟩:=h;rintro k cs (rfl | hk) hc
 ·exact hc.ne_t hb (by decide) rfl
 ·obtain ⟨cs',hcs'⟩:=ho.blk_t hk;exact hc.ne_t hcs' (by decide) rfl
theorem GridM.notC (h:GridM w base f S):∀k cs,x6 f k->¬Blk w k qR cs:=by
 obtain ⟨ls,ho,hl⟩:=h.row;rintro k cs (rfl | rfl | hk | hk) hc
 ·exact hc.ne_t h.blk (by decide) rfl
 ·exact h.ring.notC _ cs (.inl rfl) hc
 ·obtain ⟨cs',hcs'⟩:=ho.blk_t hk;exact hc.ne_t hcs' (by decide) rfl
 ·exact h.ring.notC _ cs (.inr hk) hc
theorem GridM.g_ne (h:GridM w base f S):f.g≠f.r/\(∀k,f.ls.blk=some k->k≠f.g/\k≠f.r)/\(∀k,f.rs.blk=some k->k≠f.g/\k≠f.r):=by
 obtain ⟨ls,ho,hl⟩:=h.row;obtain ⟨at_,gone,ls',xss,hb,ho',hl',hbr,e,hm,ha⟩:=h.ring;refine ⟨h.blk.ne_t hb (by decide),λk hk=>?_,λk hk=>?_⟩
 ·obtain ⟨cs,hcs⟩:=ho.blk_t hk;exact ⟨hcs.ne_t h.blk (by decide),hcs.ne_t hb (by decide)⟩
 ·obtain ⟨cs,hcs⟩:=ho'.blk_t hk;exact ⟨hcs.ne_t h.blk (by decide),hcs.ne_t hb (by decide)⟩
end
section
variable {w:World} {base:Nat} {f:Foot} {S:GS}
theorem qyg {row:Int} {K:Bool->Ub} (h:GridM w base f S) (hK:K (decide (0<=row/\row<S.rows)) w):yV (some ⟨f.g,0,none⟩) row w K:=by
 refine qru _ _ ?_;simp only [onPtr_some];refine cO (λh0=>?_) (λh0=>?_)
 ·have h0:0<=row:=oTq h0;refine lI (x:=(S.rows:Int)) (h.blk.cells 1 _ rfl) ?_;have:decide (row<(S.rows:Int))=decide (0<=row/\row<S.rows):=by simp [h0]
  rw [this];exact hK
 ·have h0:=oFq h0;have:decide (0<=row/\row<(S.rows:Int))=false:=by simp;omega
  rw [this] at hK;exact hK
theorem q2j {K:Int->Ub} (h:GridM w base f S) (hK:K S.top w):Z2 (some ⟨f.g,0,none⟩) w K:=by
 refine qpw _ ?_;simp only [onPtr_some];exact lI (x:=S.top) (h.blk.cells 4 _ rfl) hK
theorem qz9 {K:Int->Int->Ub} (h:GridM w base f S) (hK:K S.rows S.cols w.drew):Ka (some ⟨f.g,0,none⟩) w K:=by
 refine qmz _ ?_;simp only [onPtr_some];exact lI (x:=(S.rows:Int)) (h.blk.drew.cells 1 _ rfl) (lI (x:=(S.cols:Int)) (h.blk.drew.cells 2 _ rfl) hK)
theorem zam {K:Int->Ub} (h:GridM w base f S) (hK:K S.old.length w):Kp (some ⟨f.g,0,none⟩) w K:=by
 refine qm7 _ ?_;simp only [onPtr_some];refine qK (x:=some ⟨f.r,0,none⟩) (h.blk.cells 0 _ rfl) ?_;exact q5b h.ring hK
theorem q85 {K:Int->Ub} (h:GridM w base f S) (hK:K (i64.wrap (S.top-S.old.length)) w.drew):JP (some ⟨f.g,0,none⟩) w K:=by
 refine qlm _ ?_;simp only [onPtr_some];refine lI (x:=S.top) (h.blk.drew.cells 4 _ rfl) ?_;refine zam h.drew ?_;exact ⟨h.blk.drew.cells 4 _ rfl,hK⟩
theorem zbo {row:Int} {K:Slc->Bool->Ub} (h:GridM w base f S) (hL:S.L.length=S.rows) (hw:∀xs∈S.L,xs.length<=1000000)
  (hK1:∀s xs w',0<=row->S.L[row.toNat]?=some xs->Go.Vc.Own zi w' w.heap.size s xs->Uc w w'->K s true w') (hK2:¬(0<=row/\row<S.rows)->K ⟨none,0,0⟩ false w):Ke (some ⟨f.g,0,none⟩) row w K:=by
 refine qnm _ _ ?_;refine qyg h ?_;simp only [onPtr_some];obtain ⟨ls,ho,hl⟩:=h.row;by_cases hr:0<=row/\row<(S.rows:Int)
 ·rw [dTq hr];refine cF rfl ?_;refine lSl (x:=f.ls) (h.blk.cells 3 _ rfl) ?_;have hll:=hl.1;refine ho.rd.ix rfl hr.1 (by omega) λhc=>?_;refine lSl (x:=ls[row.toNat]'(by omega)) (by simpa using hc 0 _ rfl) ?_;have hx:S.L[row.toNat]?=some (S.L[row.toNat]'(by omega)):=List.getElem?_eq_getElem _;have hown:=hl.2 _ _ _ (List.getElem?_eq_getElem (by omega:row.toNat<ls.length)) hx;exact YQ hown.rd (hw _ (List.mem_of_getElem? hx)) λs w' ho' hB=>hK1 s _ w' hr.1 hx ho' hB
 ·rw [dFq hr];exact cT rfl (hK2 hr)
theorem zfc {i:Int} {K:Slc->Bool->Ub} (h:GridM w base f S) (hm:S.most<=100000) (hw:∀xs∈S.old,xs.length<=1000000)
  (hK1:∀s xs w',0<=i->S.old[i.toNat]?=some xs->Go.Vc.Own zi w' w.heap.size s xs->Uc w w'->K s true w') (hK2:(i<0\/i>=S.old.length)->∀s w',Go.Vc.Own zi w' w.heap.size s []->Uc w w'->K s false w'):VS (some ⟨f.g,0,none⟩) i w K:=by
 refine qp7 _ _ ?_;simp only [onPtr_some];refine qK (x:=some ⟨f.r,0,none⟩) (h.blk.cells 0 _ rfl) ?_;refine q69 h.ring hm (λt xs h0 hx ht=>?_) (λhn=>?_)
 ·exact YQ ht.drew.rd (hw _ (List.mem_of_getElem? hx)) λs w' ho' hB=>hK1 s xs w' h0 hx ho' ((Below.refl _ w).drew.trans hB)
 ·exact YQ (Rd.nil zi w) (by simp) λs w' ho' hB=>hK2 hn s w' ho' hB
end
set_option maxRecDepth 400000
def wht:List UInt8:=[229,229,229,255]
def q41:List UInt8:=[0,0,0,255]
def at0:qt:=⟨0,0,0⟩
section
variable {w w':World}
theorem qp9 (c:qg) {K:qh->Ub} (hK:∀w',Uc w w'->K ⟨c.e0,c.e1,c.e2,255⟩ w'):zp c w K:=by
 refine qs4 _ ?_;refine nwb λw1 h1 hB1 hs1=>nwb λw2 h2 hB2 hs2=>?_;have h12:=h1.ext hB2;refine ⟨⟨by decide,by decide⟩,lI (x:=c.e0) (h12.cells 0 _ rfl) ⟨⟨by decide,by decide⟩,lI (x:=c.e1) (h12.cells 1 _ rfl) ⟨⟨by decide,by decide⟩,lI (x:=c.e2) (h12.cells 2 _ rfl) ?_⟩⟩⟩;refine zn (r:=qh.rep) (x:=⟨c.e0,c.e1,c.e2,255⟩) h2 rfl rfl λw3 hc3 hs3=>hK w3 ?_;exact b1o (bT hB1 hB2) hc3 hB1.size
theorem q60 {K:qg->Ub} (hK:∀w',Uc w w'->K ⟨229,229,229⟩ w'):KC 15066597 w K:=by
 refine qs2 _ ?_;refine nwb λw1 h1 hB1 hs1=>⟨by decide,by decide,?_⟩;refine zn (r:=qg.rep) (x:=⟨229,229,229⟩) h1 (by kernel_rfl) rfl λw3 hc3 hs3=>hK w3 ?_;exact b1o hB1 hc3 (le_refl _)
theorem qu8 (fore:Bool) {K:qg->Ub} (hK:∀w',Uc w w'->K (if fore then ⟨229,229,229⟩ else ⟨0,0,0⟩) w'):YD 0 fore w K:=by
 refine qv4 _ _ ?_;refine nwb λw1 h1 hB1 hs1=>?_;refine jpO λJ1 hJ1=>jpO λJ2 hJ2=>?_;refine qv7 _ ?_;refine cT rfl (cF rfl (cT rfl (hJ2 _ _ ?_)));cases fore
 ·refine cT rfl ?_;refine zn (r:=qg.rep) (x:=⟨0,0,0⟩) h1 rfl rfl λw3 hc3 hs3=>hK w3 (b1o hB1 hc3 (le_refl _))
 ·refine cF rfl (cT rfl (q60 λw2 hB2=>?_));refine zn (r:=qg.rep) (x:=⟨229,229,229⟩) (h1.ext hB2) rfl rfl λw3 hc3 hs3=>hK w3 (b1o (bT hB1 hB2) hc3 (le_refl _))
theorem qst {K:qg->qg->Ub} (hK:∀w',Uc w w'->K ⟨229,229,229⟩ ⟨0,0,0⟩ w'):K7 at0 w K:=by
 refine qts _ ?_;refine nwb λw1 h1 hB1 hs1=>nwb λw2 h2 hB2 hs2=>nwb λw3 h3 hB3 hs3=>?_;have h13:=(h1.ext hB2).ext hB3;have z1:=hB1.size;have z2:=hB2.size;have l1:=h1.lt;have l2:=h2.lt;refine lI (x:=0) (h13.drew.cells 0 _ rfl) (lI (x:=0) (h13.drew.cells 1 _ rfl) ?_);refine qu8 true λw4 hB4=>⟨(h13.drew.ext hB4).cells 1 _ rfl,qu8 false λw5 hB5=>?_⟩;have B35:Uc w3 w5:=bT (bT (bdw w3) hB4) hB5;have h15:=h13.ext B35;have h25:=(h2.ext hB3).ext B35;have h35:=h3.ext B35;refine jH h25 rfl λw6 h6 hc6 hs6=>?_;have h36:=h35.chg hc6 (by omega);refine jH h36 rfl λw7 h7 hc7 hs7=>?_;have h17:=(h15.chg hc6 (by omega)).chg hc7 (by omega);have h27:=h6.chg hc7 (by omega);have B7:Uc w w7:=b1o (b1o (bT (bT (bT hB1 hB2) hB3) B35) hc6 z1) hc7 (by omega);refine jpO λJ1 hJ1=>?_;refine lI (x:=0) (h17.cells 2 _ rfl) (cF (by kernel_rfl) (hJ1 _ _ ?_));refine jpO λJ2 hJ2=>?_;refine lI (x:=0) (h17.cells 2 _ rfl) (cF (by kernel_rfl) (hJ2 _ _ ?_));refine jpO λJ3 hJ3=>?_;refine lI (x:=0) (h17.cells 2 _ rfl) (cF (by kernel_rfl) (hJ3 _ _ ?_));refine qy (r:=qg.rep) (x:=⟨229,229,229⟩) h27.drew.cells (qy (r:=qg.rep) (x:=⟨0,0,0⟩) h7.drew.cells ?_);refine jH h27.drew rfl λw8 h8 hc8 hs8=>?_;have h78:=h7.drew.chg hc8 (by omega);refine ⟨h78.cells,jH h78 rfl λw9 h9 hc9 hs9=>?_⟩;refine qy (r:=qg.rep) (x:=⟨229,229,229⟩) (h8.chg hc9 (by omega)).cells (qy (r:=qg.rep) (x:=⟨0,0,0⟩) h9.cells ?_);exact hK w9 (b1o (b1o (bT B7 (bdw w7)) hc8 z1) hc9 (by omega))
theorem qh9 {α:Type} {xs:List α} {k:Nat} (hk:k<xs.length):∃x,xs[k]?=some x/\∀h,xs[((k:Int)).toNat]'h=x:=⟨xs[k],List.getElem?_eq_getElem hk,λ_=>rfl⟩
abbrev Cel:=qP
def vj:Cel:=⟨0,0,at0⟩
def xq (L:List (List Cel)) (row col:Nat):Cel:=(L.getD row []).getD col vj
structure ScnM (w:World) (B:Nat) (s:qx) (R C cw ch:Nat) (L:List (List Cel)):Prop where
 rows:s.Rows=R
 cols:s.Cols=C
 ecw:s.CellW=cw
 ech:s.CellH=ch
 lim:1<=R/\R<=1000/\1<=C/\C<=1000/\1<=cw/\cw<=64/\1<=ch/\ch<=64
 ls:∃ls,Rd slE w s.Lines ls/\ls.length=L.length/\∀(i:Nat) q xs,ls[i]?=some q->L[i]?=some xs->Rd zi w q xs/\∀a,q.a=some a->a.block<B
 lo:∀a,s.Lines.a=some a->a.block<B
theorem ScnM.keep {B:Nat} {s:qx} {R C cw ch:Nat} {L:List (List Cel)} {S:Nat->Prop} (h:ScnM w B s R C cw ch L) (hc:Chg S w w') (hS:∀k,S k->B<=k):ScnM w' B s R C cw ch L:=by
 obtain ⟨ls,h1,h2,h3⟩:=h.ls;exact ⟨h.rows,h.cols,h.ecw,h.ech,h.lim,⟨ls,h1.chg hc λa ha hs=>by have:=h.lo a ha;have:=hS _ hs;omega,h2,λi q xs hq hx=>⟨(h3 i q xs hq hx).1.chg hc λa ha hs=>by have:=(h3 i q xs hq hx).2 a ha;have:=hS _ hs;omega,(h3 i q xs hq hx).2⟩⟩,h.lo⟩
theorem ScnM.ext {B:Nat} {s:qx} {R C cw ch:Nat} {L:List (List Cel)} (h:ScnM w B s R C cw ch L) (hB:Uc w w'):ScnM w' B s R C cw ch L:=h.keep (Chg.of_ext (S:=λ_=>False) hB) λ_ h=>h.elim
theorem q6w {B:Nat} {s:qx} {R C cw ch:Nat} {L:List (List Cel)} (h:ScnM w B s R C cw ch L) (row col:Nat) {K:Cel->Ub} (hK:∀w',Uc w w'->K (xq L row col) w'):ZJ s row col w K:=by
 refine qjr _ _ _ ?_;refine nwb λw1 h1 hB1 hs1=>nwb λw2 h2 hB2 hs2=>?_;have h12:=h1.ext hB2;have B2:=bT hB1 hB2;have hs:=h.ext B2;obtain ⟨ls,l1,l2,l3⟩:=hs.ls;have hn:=l1.n;have out:∀v:Cel,v=xq L row col->stK ⟨w1.heap.size,0,none⟩ (qP.rep.cells v) w2 λw4=>ldS qP.rep ⟨w1.heap.size,0,none⟩ w4 λr=>K r w4:=by
  rintro v rfl;exact zn (r:=qP.rep) (x:=xq L row col) h2 rfl rfl λw3 hc3 hs3=>hK w3 (b1o B2 hc3 hB1.size)
 refine jpO λJ1 hJ1=>?_;refine lSl (x:=s.Lines) (h12.cells 4 _ rfl) (cO (λe=>?_) λe=>?_)
 ·have e:=oTq e;refine out vj ?_;unfold xq;rw [show L.getD row []=[] by rw [List.getD_eq_getElem?_getD,List.getElem?_eq_none (by omega)];rfl];rfl
 have e:=oFq e;have hr:row<ls.length:=by omega
 have hrL:row<L.length:=by omega
 obtain ⟨q,hq,hqs⟩:=qh9 (xs:=ls) (k:=row) hr;have hx:L[row]?=some L[row]:=List.getElem?_eq_getElem hrL;have hl:=(l3 row q _ hq hx).1;have eL:L.getD row []=L[row]:=by rw [List.getD_eq_getElem?_getD,hx];rfl
 have ixr:∀{X:Slc->Prop},X q->ixK s.Lines row 1 λt17=>zF t17 w2 X:=by
  intro X hX;refine l1.ix (i:=(row:Int)) (k:=1) rfl (by omega) (by omega) λhc=>?_;rw [hqs] at hc;exact lSl (x:=q) (by simpa using hc 0 _ rfl) hX
 refine lSl (x:=s.Lines) (h12.cells 4 _ rfl) (ixr ?_);have hqn:=hl.n;refine cO (λe2=>?_) λe2=>?_
 ·have e2:=oTq e2;refine out vj ?_;unfold xq;rw [eL,List.getD_eq_getElem?_getD,List.getElem?_eq_none (by omega)];rfl
 have e2:=oFq e2;refine hJ1 _ _ (lSl (x:=s.Lines) (h12.cells 4 _ rfl) (ixr ?_));have hc2:col<L[row].length:=by omega
 obtain ⟨v,hv,hvs⟩:=get_of (xs:=L[row]) (k:=col) hc2;refine hl.ix (i:=(col:Int)) (k:=5) rfl (by omega) (by omega) λhc=>?_;rw [hvs] at hc;refine qy (r:=qP.rep) (x:=v) hc ?_;refine out v ?_;unfold xq;rw [eL,List.getD_eq_getElem?_getD,hv];rfl
def q3i (g:List UInt8->Nat->Nat->Cel->List UInt8) (L:List (List Cel)) (row:Nat) (P:List UInt8):Nat->List UInt8
 | 0=>P
 | j+1=>g (q3i g L row P j) row j (xq L row j)
def qaj (g:List UInt8->Nat->Nat->Cel->List UInt8) (L:List (List Cel)) (C:Nat) (P:List UInt8):Nat->List UInt8
 | 0=>P
 | i+1=>q3i g L i (qaj g L C P i) C
theorem qvn {B base:Nat} {s:qx} {R C cw ch W H:Nat} {L:List (List Cel)} {m:qa} {P:List UInt8} {g:List UInt8->Nat->Nat->Cel->List UInt8} {fv:Value} (h:ScnM w B s R C cw ch L) (hM:MatM w base m W H P) (hb:B<=base)
  (hf:∀{w1:World} {P1:List UInt8} (row col:Nat) {K:Ub},row<R->col<C->MatM w1 base m W H P1->Chg (λk=>m.P.blk=some k) w w1->(∀w2,MatM w2 base m W H (g P1 row col (xq L row col))->Chg (λk=>m.P.blk=some k) w1 w2->K w2) ->
   jm Go.Proofs.YtlmpnfhmpjldaaaGreatDoor.C fv [(Ua row),(Ua col),(.agg #[(.int .i32 (xq L row col).R),(Ua (xq L row col).Kind),(Ua (xq L row col).A.Fg),(Ua (xq L row col).A.Bg),(Ua (xq L row col).A.Flags)])] [] w1 K)
  {K:Ub} (hK:∀w',MatM w' base m W H (qaj g L C P R)->Chg (λk=>m.P.blk=some k) w w'->K w'):vQ s fv w K:=by
 refine qjj _ _ ?_;refine nwb λw1 h1 hB1 hs1=>?_;obtain ⟨gm,ha,hbm⟩:=hM.some_;have gl:=(hM.own.lt gm hbm);have l1:=h1.lt;have lim:=h.lim;refine lI (x:=(R:Int)) (by rw [<-h.rows];exact h1.cells 0 _ rfl) ?_;have keepS:∀{w3},Chg (λk=>m.P.blk=some k) w1 w3->Blk w3 w.heap.size zf (qx.rep.cells s):=λhc=>h1.chg hc λe=>by rw [hbm] at e;cases e;omega
 have keepL:∀{w3},Chg (λk=>m.P.blk=some k) w1 w3->ScnM w3 B s R C cw ch L:=λhc=>(h.ext hB1).keep hc λk e=>by rw [hbm] at e;cases e;omega
 have c01:Chg (λk=>m.P.blk=some k) w w1:=Chg.of_ext hB1;refine lpR (λ(st:Int×Unit) w2=>∃i:Nat,st.1=(i:Int)/\i<=R/\MatM w2 base m W H (qaj g L C P i)/\Chg (λk=>m.P.blk=some k) w1 w2) (λst=>R-st.1.toNat) ⟨0,rfl,zero_le _,hM.ext hB1,Chg.refl _ _⟩ ?_;rintro ⟨i0,u⟩ w2 ⟨i,hi,hiR,hM2,hc2⟩ I hI;dsimp only at hi ⊢;subst hi;refine cO (λe=>?_) λe=>?_
 ·have hlt:i<R:=by have:=oTq e;omega
  refine lI (x:=(C:Int)) (by rw [<-h.cols];exact (keepS hc2).cells 1 _ rfl) ?_;refine lpR (λ(st:Int×Unit) w3=>∃j:Nat,st.1=(j:Int)/\j<=C/\MatM w3 base m W H (q3i g L i (qaj g L C P i) j)/\Chg (λk=>m.P.blk=some k) w1 w3) (λst=>C-st.1.toNat) ⟨0,rfl,zero_le _,hM2,hc2⟩ ?_;rintro ⟨j0,u2⟩ w3 ⟨j,hj,hjC,hM3,hc3⟩ I2 hI2;dsimp only at hj ⊢;subst hj;refine cO (λe=>?_) λe=>?_
  ·have hjt:j<C:=by have:=oTq e;omega
   refine qy (r:=qx.rep) (x:=s) (keepS hc3).cells ?_;refine q6w (keepL hc3) i j λw4 hB4=>?_;have hc4:Chg (λk=>m.P.blk=some k) w1 w4:=hc3.trans (Chg.of_ext hB4) λ_ _ h=>h;refine hf i j hlt hjt (hM3.ext hB4) (c01.trans hc4 λ_ _ h=>h) λw5 hM5 hc5=>?_;rw [qQ (x:=(j:Int)+1) (by omega)];exact hI2 _ _ ⟨j+1,by simp,by omega,hM5,hc4.trans hc5 λ_ _ h=>h⟩ (by dsimp only;omega)
  ·have:j=C:=by have:=oFq e;omega
   subst this;rw [qQ (x:=(i:Int)+1) (by omega)];exact hI _ _ ⟨i+1,by simp,by omega,hM3,hc3⟩ (by dsimp only;omega)
 ·have:i=R:=by have:=oFq e;omega
  subst this;exact hK w2 hM2 (c01.trans hc2 λ_ _ h=>h)
end
theorem zng:zkb wht ⟨229,229,229,255⟩:=⟨rfl,rfl⟩
theorem zlb:zkb q41 ⟨0,0,0,255⟩:=⟨rfl,rfl⟩
def ze7 (L:List (List Cel)):Prop:=∀r c,(xq L r c).A=at0
def QB (W H cw ch:Nat) (P:List UInt8) (row col:Nat) (c:Cel):List UInt8:=qux P W H ((col*cw:Nat):Int) ((row*ch:Nat):Int) cw ch q41
section
variable {w w':World} {B base:Nat} {s:qx} {R C0 cw ch W H:Nat} {L:List (List Cel)} {m:qa} {P:List UInt8}
theorem q09 {a b:Nat} (ha:a<=1000) (hb:b<=64):i64.wrap ((a:Int)*(b:Int))=((a*b:Nat):Int)/\a*b<=64000:=by
 have h:a*b<=1000*64:=Nat.mul_le_mul ha hb;rw [show (a:Int)*(b:Int)=((a*b:Nat):Int) by simp];exact ⟨qQ (by omega),h⟩
theorem q4l (h:ScnM w B s R C0 cw ch L) (hb:ze7 L) (hM:MatM w base m W H P) (hB:B<=base) {K:qa->Ub} (hK:∀w',MatM w' base m W H (qaj (QB W H cw ch) L C0 P R)->Chg (λk=>m.P.blk=some k) w w'->K m w'):yy ⟨s⟩ m w K:=by
 refine qdy _ _ ?_;refine nwb λw1 h1 hB1 hs1=>nwb λw2 h2 hB2 hs2=>nwb λw3 h3 hB3 hs3=>?_;have B3:=bT (bT hB1 hB2) hB3;have h13:=(h1.ext hB2).ext hB3;have h23:=h2.ext hB3;obtain ⟨gm,ha,hbm⟩:=hM.some_;have gl:=hM.own.lt gm hbm;have lim:=h.lim;refine qy (r:=qx.rep) (x:=s) (h13.sub 0 _ rfl) ?_;have kp:∀{b:Nat} {t:TypeId} {vs:List Value} {wa wb:World},Blk wa b t vs->Chg (λk=>m.P.blk=some k) wa wb->w.heap.size<=b->Blk wb b t vs:=λhb hc hle=>hb.chg hc λe=>by rw [hbm] at e;cases e;omega
 refine qvn (g:=QB W H cw ch) (h.ext B3) (hM.ext B3) hB (λ{w4 P4} row col {K4} hr hc hM4 hc4 hK4=>?_) λw4 hM4 hc4=>?_
 ·have hl1:=kp h13 hc4 (le_refl _);have hm1:=kp h23 hc4 hB1.size;refine Go.Vc.callR_plain (by kernel_rfl) ?_;refine Calls.mono (show Jm (row:Int) (col:Int) (xq L row col) ⟨w1.heap.size,0,none⟩ ⟨w.heap.size,0,none⟩ w4 K4 from ?_) ?_
  ·refine qac _ _ _ _ _ ?_;refine nwb λw5 h5 hB5 hs5=>?_;refine qy (r:=qt.rep) (x:=at0) (by have:=h5.sub 2 (qt.rep.cells (xq L row col).A) rfl;rw [hb] at this;exact this) ?_;refine qst λw6 hB6=>?_;refine nwb λw7 h7 hB7 hs7=>nwb λw8 h8 hB8 hs8=>?_;have h78:=h7.ext hB8;refine jH h78 rfl λw9 h9 hc9 hs9=>?_;have h89:=h8.chg hc9 (by have:=h7.lt;omega);refine jH h89 rfl λw10 h10 hc10 hs10=>?_;have B68:=bT (bT hB5 hB6) (bT hB7 hB8);have B10:Uc w4 w10:=b1o (b1o B68 hc9 (bT hB5 hB6).size) hc10 (by have:=(bT (bT hB5 hB6) hB7).size;omega);have B10d:=bT B10 (bdw w10);have hlx:=hl1.ext B10d;have hmx:=hm1.ext B10d;refine qy (r:=qa.rep) (x:=m) hmx.cells ?_;have c2:∀{wx},Blk wx w.heap.size jK (qN.rep.cells ⟨s⟩)->wx.cell? (((⟨w.heap.size,0,none⟩:Addr).add 0).add 2)=some (Ua cw):=λhx=>by rw [<-h.ecw,zR];exact hx.cells 2 _ rfl
   have c3:∀{wx},Blk wx w.heap.size jK (qN.rep.cells ⟨s⟩)->wx.cell? (((⟨w.heap.size,0,none⟩:Addr).add 0).add 3)=some (Ua ch):=λhx=>by rw [<-h.ech,zR];exact hx.cells 3 _ rfl
   refine lI (x:=(cw:Int)) (c2 hlx) (lI (x:=(ch:Int)) (c3 hlx) (lI (x:=(cw:Int)) (c2 hlx) (lI (x:=(ch:Int)) (c3 hlx) ?_)));refine qy (r:=qg.rep) (x:=⟨0,0,0⟩) h10.drew.cells ?_;refine qp9 _ λw11 hB11=>?_;have B11:=bT B10d hB11;have hl11:=hl1.ext B11;have hm11:=hm1.ext B11;refine ⟨c3 hl11,c2 hl11,c3 hl11,c2 hl11,hm11.cells,?_⟩;obtain ⟨e1,b1⟩:=q09 (a:=col) (b:=cw) (by omega) (by omega);obtain ⟨e2,b2⟩:=q09 (a:=row) (b:=ch) (by omega) (by omega);rw [e1,e2];exact qt6 (hM4.ext B11) (by omega) (by omega) (by omega) (by omega) zlb λw12 hM12 hc12=>hK4 w12 hM12 ((Chg.of_ext B11).trans hc12 λ_ _ h=>h)
  ·rintro e w' ⟨rfl,hk⟩;exact ⟨rfl,hk⟩
 ·have hm4:=kp h23 hc4 hB1.size;have h34:=kp h3 hc4 (by have:=(bT hB1 hB2).size;omega);refine qy (r:=qa.rep) (x:=m) hm4.cells ?_;refine zn (r:=qa.rep) (x:=m) h34 rfl rfl λw5 hc5 hs5=>?_;have z4:=hc4.size;have l3:=(bT hB1 hB2).size;have l4:=h3.lt;have c5:Chg (λk=>k=w2.heap.size) w4 w5:=hc5;refine hK w5 ⟨hM4.hw,hM4.hh,hM4.own.chg c5 (λk hk e=>by rw [hbm] at hk;cases hk;omega),hM4.len,hM4.lim⟩ ?_;refine (Chg.of_ext (S:=λk=>m.P.blk=some k) B3).trans (S':=λk=>m.P.blk=some k\/k=w2.heap.size) ((hc4.mono λ_ _ h=>.inl h).trans c5 λ_ _ e=>.inr e) λi hi e=>?_;rcases e with e | e
  ·exact e
  ·omega
end
def zj4 (lay:List UInt8->Int->Int->Int->Int->List UInt8->List UInt8) (P:List UInt8) (r:Int) (wx hx:Nat):List UInt8 :=
 if r>32 then
  if (wx+1)/2>2/\(hx+1)/2>2 then lay (lay P ((wx/4:Nat):Int) ((hx/4:Nat):Int) (((wx+1)/2:Nat):Int) (((hx+1)/2:Nat):Int) wht) ((wx/4+r.toNat%((wx+1)/2):Nat):Int) ((hx/4+r.toNat/256%((hx+1)/2):Nat):Int) 1 1 q41
  else lay P ((wx/4:Nat):Int) ((hx/4:Nat):Int) (((wx+1)/2:Nat):Int) (((hx+1)/2:Nat):Int) wht
 else P
section
variable {w w':World} {B base:Nat} {s:qx} {R C0 cw ch W H:Nat} {L:List (List Cel)} {m:qa} {P:List UInt8}
def agC (c:qh):Value:=.agg #[(.int .u8 c.e0),(.int .u8 c.e1),(.int .u8 c.e2),(.int .u8 c.e3)]
theorem zg4 {lay:List UInt8->Int->Int->Int->Int->List UInt8->List UInt8} {fv:Value} (r:Int) (hr:0<=r/\r<=1114111) (wx hx:Nat) (hw:1<=wx/\wx<=128) (hh:1<=hx/\hx<=64) (hM:MatM w base m W H P)
  (hf:∀{w1:World} {P1:List UInt8} (x y bw bh:Int) (c:qh) (cb:List UInt8) {K:Ub},0<=x/\x<=1000->0<=y/\y<=1000->0<=bw/\bw<=1000->0<=bh/\bh<=1000->zkb cb c->MatM w1 base m W H P1->Chg (λk=>m.P.blk=some k) w w1->(∀w2,MatM w2 base m W H (lay P1 x y bw bh cb)->Chg (λk=>m.P.blk=some k) w1 w2->K w2) ->
   jm Go.Proofs.YtlmpnfhmpjldaaaGreatDoor.C fv [(Ua x),(Ua y),(Ua bw),(Ua bh),agC c] [] w1 K)
  {K:Ub} (hK:∀w',MatM w' base m W H (zj4 lay P r wx hx)->Chg (λk=>m.P.blk=some k) w w'->K w'):qk4 r wx hx at0 fv w K:=by
 refine qy6 _ _ _ _ _ ?_;obtain ⟨gm,ha,hbm⟩:=hM.some_;have gl:=hM.own.lt gm hbm;refine nwb λw1 h1 hB1 hs1=>?_;refine qy (r:=qt.rep) (x:=at0) h1.cells (qst λw2 hB2=>?_);refine nwb λw3 h3 hB3 hs3=>nwb λw4 h4 hB4 hs4=>?_;refine jH (h3.ext hB4) rfl λw5 h5 hc5 hs5=>?_;have l3:=h3.lt;have h45:=h4.chg hc5 (by omega);refine jH h45 rfl λw6 h6 hc6 hs6=>?_;have z1:=hB1.size;have z2:=hB2.size;have z3:=hB3.size;have l4:=h4.lt;have l1:=h1.lt;have hf6:=h5.chg hc6 (by omega);have h16:=((((h1.ext hB2).ext hB3).ext hB4).chg hc5 (by omega)).chg hc6 (by omega);have B6:Uc w w6:=b1o (b1o (bT (bT hB1 hB2) (bT hB3 hB4)) hc5 (by omega)) hc6 (by omega);have kp:∀{b:Nat} {t:TypeId} {vs:List Value} {wa wb:World},Blk wa b t vs->Chg (λk=>m.P.blk=some k) wa wb->w.heap.size<=b->Blk wb b t vs:=λhb hc hle=>hb.chg hc λe=>by rw [hbm] at e;cases e;omega
 refine jpO λJ1 hJ1=>?_;have key:∀(fo ba:Nat) w7,w.heap.size<=fo->w.heap.size<=ba->Blk w7 fo qJ (qh.rep.cells ⟨229,229,229,255⟩)->Blk w7 ba qJ (qh.rep.cells ⟨0,0,0,255⟩)->Blk w7 w.heap.size zH (qt.rep.cells at0)->Uc w w7->J1 (⟨fo,0,none⟩,⟨ba,0,none⟩,()) w7:=by
  intro fo ba w7 lf lb hfo hba h17 B7;refine hJ1 _ _ ?_;dsimp only;refine jpO λJ2 hJ2=>?_;have fin:∀w8,MatM w8 base m W H (zj4 lay P r wx hx)->Chg (λk=>m.P.blk=some k) w7 w8->J2 () w8:=by
   intro w8 hM8 hc8;have h18:=kp h17 hc8 (le_refl _);refine hJ2 _ _ (jpO λJ3 hJ3=>?_);refine lI (x:=0) (h18.cells 2 _ rfl) (cF (by kernel_rfl) (hJ3 _ _ ?_));exact lI (x:=0) (h18.cells 2 _ rfl) (cF (by kernel_rfl) (hK w8 hM8 ((Chg.of_ext B7).trans hc8 λ_ _ h=>h)))
  have c07:Chg (λk=>m.P.blk=some k) w w7:=Chg.of_ext B7;unfold zj4 at fin;refine cO (λe=>?_) λe=>?_
  ·have e:=oTq e;rw [if_pos e] at fin;refine ⟨by decide,by decide,by decide,by decide,?_⟩;refine qy (r:=qh.rep) (x:=⟨229,229,229,255⟩) hfo.cells ?_;have e1:i64.wrap ((wx:Int).tdiv 4)=((wx/4:Nat):Int):=by
    rw [show (wx:Int).tdiv 4=((wx/4:Nat):Int) from rfl];exact qQ (by omega)
   have e2:i64.wrap ((hx:Int).tdiv 4)=((hx/4:Nat):Int):=by
    rw [show (hx:Int).tdiv 4=((hx/4:Nat):Int) from rfl];exact qQ (by omega)
   have e3:i64.wrap ((i64.wrap ((wx:Int)+1)).tdiv 2)=(((wx+1)/2:Nat):Int):=by
    rw [qQ (x:=(wx:Int)+1) (by omega),show ((wx:Int)+1)=((wx+1:Nat):Int) by simp,show ((wx+1:Nat):Int).tdiv 2=(((wx+1)/2:Nat):Int) from rfl];exact qQ (by omega)
   have e4:i64.wrap ((i64.wrap ((hx:Int)+1)).tdiv 2)=(((hx+1)/2:Nat):Int):=by
    rw [qQ (x:=(hx:Int)+1) (by omega),show ((hx:Int)+1)=((hx+1:Nat):Int) by simp,show ((hx+1:Nat):Int).tdiv 2=(((hx+1)/2:Nat):Int) from rfl];exact qQ (by omega)
   simp only [e1,e2,e3,e4];refine hf _ _ _ _ ⟨229,229,229,255⟩ wht (by omega) (by omega) (by omega) (by omega) zng (hM.ext B7) c07 λw8 hM8 hc8=>?_;refine jpO λJ4 hJ4=>?_;have key4:∀b:Bool,b=decide ((wx+1)/2>2/\(hx+1)/2>2)->J4 (b,()) w8:=by
    intro b hb;refine hJ4 _ _ (cO (λe=>?_) λe=>?_)
    ·have e:b=true:=e;rw [e] at hb;have hb:=oTq hb.symm;rw [if_pos hb] at fin;refine ⟨by omega,by decide,by omega,?_⟩;have hba8:=(kp hba hc8 lb).drew;refine qy (r:=qh.rep) (x:=⟨0,0,0,255⟩) hba8.cells ?_;obtain ⟨rn,hrn⟩:∃rn:Nat,r=rn:=⟨r.toNat,by omega⟩;subst hrn;simp only [toNat_natCast] at fin;have e5:i64.wrap (rn:Int)=(rn:Int):=qQ (by omega);have m1:(rn:Int).tmod (((wx+1)/2:Nat):Int)=((rn%((wx+1)/2):Nat):Int):=rfl;have m2:(rn:Int).tdiv 256=((rn/256:Nat):Int):=rfl;have e6:i64.wrap ((rn/256:Nat):Int)=((rn/256:Nat):Int):=qQ (by omega);have m3:((rn/256:Nat):Int).tmod (((hx+1)/2:Nat):Int)=((rn/256%((hx+1)/2):Nat):Int):=rfl;have lt1:rn%((wx+1)/2)<(wx+1)/2:=Nat.mod_lt _ (by omega);have lt2:rn/256%((hx+1)/2)<(hx+1)/2:=Nat.mod_lt _ (by omega);rw [e5,m1,m2,e6,m3];have a1:((wx/4:Nat):Int)+((rn%((wx+1)/2):Nat):Int)=((wx/4+rn%((wx+1)/2):Nat):Int):=by simp
     have a2:((hx/4:Nat):Int)+((rn/256%((hx+1)/2):Nat):Int)=((hx/4+rn/256%((hx+1)/2):Nat):Int):=by simp
     rw [a1,a2];generalize rn%((wx+1)/2)=q1 at *;generalize rn/256%((hx+1)/2)=q2 at *;rw [qQ (x:=((wx/4+q1:Nat):Int)) (by omega),qQ (x:=((hx/4+q2:Nat):Int)) (by omega)];have B8d:Chg (λk=>m.P.blk=some k) w8 w8.drew:=Chg.of_ext (bdw w8);refine hf _ _ _ _ ⟨0,0,0,255⟩ q41 (by omega) (by omega) (by omega) (by omega) zlb (hM8.ext (bdw w8)) ((c07.trans hc8 λ_ _ h=>h).trans B8d λ_ _ h=>h) λw9 hM9 hc9=>?_;exact fin w9 hM9 ((hc8.trans B8d λ_ _ h=>h).trans hc9 λ_ _ h=>h)
    ·have e:b=false:=e;rw [e] at hb;have hb:=oFq hb.symm;rw [if_neg hb] at fin;exact fin w8 hM8 hc8
   refine cO (λe=>?_) λe=>?_
   ·have e:=oTq e;refine key4 _ ?_;by_cases h2:(hx+1)/2>2
    ·rw [dTq (p:=(wx+1)/2>2/\_) ⟨by omega,h2⟩,dTq (by omega)]
    ·rw [dFq (p:=(wx+1)/2>2/\_) (λhh=>h2 hh.2),dFq (by omega)]
   ·have e:=oFq e;exact key4 _ (by rw [dFq];rintro ⟨h,_⟩;omega)
  ·have e:=oFq e;rw [if_neg e] at fin;exact fin w7 (hM.ext B7) (Chg.refl _ _)
 have hfd:=hf6.drew;have hbd:=h6.drew;refine qy (r:=qg.rep) (x:=⟨229,229,229⟩) hfd.cells (qy (r:=qg.rep) (x:=⟨0,0,0⟩) hbd.cells ?_);have h1d:=h16.drew;have Bd:=bT B6 (bdw w6);have sz6:w6.drew.heap.size=w6.heap.size:=rfl;have z6:=B6.size;generalize w6.drew=w7 at hfd hbd h1d Bd sz6 ⊢;have ca:∀{wx},Uc w7 wx->q6 wx ⟨w2.heap.size,0,none⟩ (qg.rep.cells ⟨229,229,229⟩):=λhB=>(hfd.ext hB).cells;have cb:∀{wx},Uc w7 wx->q6 wx ⟨w3.heap.size,0,none⟩ (qg.rep.cells ⟨0,0,0⟩):=λhB=>(hbd.ext hB).cells;have two:∀(fo ba:Nat) wx,w7.heap.size<=fo->w7.heap.size<=ba->fo≠ba->Blk wx fo qJ [(.int .u8 0),(.int .u8 0),(.int .u8 0),(.int .u8 0)]->Blk wx ba qJ [(.int .u8 0),(.int .u8 0),(.int .u8 0),(.int .u8 0)]->Uc w7 wx ->
   stK ⟨fo,0,none⟩ (qh.rep.cells ⟨229,229,229,255⟩) wx λwy=>stK ⟨ba,0,none⟩ (qh.rep.cells ⟨0,0,0,255⟩) wy λwz=>J1 (⟨fo,0,none⟩,⟨ba,0,none⟩,()) wz:=by
  intro fo ba wx lf lb ne hfo hba hB;refine jH hfo rfl λwy hy hcy hsy=>?_;refine jH (hba.chg hcy λe=>ne e.symm) rfl λwz hz hcz hsz=>?_;have l17:=h1d.lt;refine key fo ba wz (by omega) (by omega) (hy.chg hcz ne) hz (((h1d.ext hB).chg hcy (by omega)).chg hcz (by omega)) (b1o (b1o (bT Bd hB) hcy (by omega)) hcz (by omega))
 have sol1:∀{wx} {X:qh->Ub},(∀wy,Uc wx wy->X ⟨229,229,229,255⟩ wy)->zp ⟨229,229,229⟩ wx X:=λh=>qp9 _ h;have sol2:∀{wx} {X:qh->Ub},(∀wy,Uc wx wy->X ⟨0,0,0,255⟩ wy)->zp ⟨0,0,0⟩ wx X:=λh=>qp9 _ h;have nf:∀{wa:World} (_:Uc w7 wa) {X:Addr->Ub},(∀wb,Blk wb wa.heap.size qJ [(.int .u8 0),(.int .u8 0),(.int .u8 0),(.int .u8 0)]->Uc wa wb->Uc w7 wb->X ⟨wa.heap.size,0,none⟩ wb) ->
   nw qJ [(.int .u8 0),(.int .u8 0),(.int .u8 0),(.int .u8 0)] wa λt wb=>q6 wb ⟨w3.heap.size,0,none⟩ (qg.rep.cells ⟨0,0,0⟩)/\q6 wb ⟨w2.heap.size,0,none⟩ (qg.rep.cells ⟨229,229,229⟩)/\X t wb :=
  λhB _ h=>nwb λwb hb hBb hsb=>⟨cb (bT hB hBb),ca (bT hB hBb),h wb hb hBb (bT hB hBb)⟩
 have r0:Uc w7 w7:=Below.refl _ w7;refine ⟨sol1 λwa Ba=>⟨cb Ba,?_,?_,?_⟩,nf r0 λwa ha' Ba' Ba=>⟨?_,?_⟩,nf r0 λwa ha' Ba' Ba=>⟨?_,?_⟩⟩
 ·refine sol2 λwb Bb'=>?_;have Bb:=bT Ba Bb';refine ⟨nf Bb λwc hc Bc' Bc=>nf Bc λwd hd Bd' Bd=>?_,nf Bb λwc hc Bc' Bc=>nf Bc λwd hd Bd' Bd=>?_⟩
  ·exact two _ _ wd Bb.size Bc.size (by have:=hc.lt;omega) (hc.ext Bd') hd Bd
  ·exact two _ _ wd Bc.size Bb.size (by have:=hc.lt;omega) hd (hc.ext Bd') Bd
 ·refine nf Ba λwc hc Bc' Bc=>⟨sol2 λwb Bb'=>nf (bT Bc Bb') λwd hd Bd' Bd=>?_,nf Bc λwd hd Bd' Bd=>sol2 λwb Bb'=>?_⟩
  ·exact two _ _ wd Ba.size (bT Bc Bb').size (by have:=hc.lt;have:=Bb'.size;omega) ((hc.ext Bb').ext Bd') hd Bd
  ·exact two _ _ wb Ba.size Bc.size (by have:=hc.lt;omega) ((hc.ext Bd').ext Bb') (hd.ext Bb') (bT Bd Bb')
 ·refine nf Ba λwc hc Bc' Bc=>⟨sol2 λwb Bb'=>nf (bT Bc Bb') λwd hd Bd' Bd=>?_,nf Bc λwd hd Bd' Bd=>sol2 λwb Bb'=>?_⟩
  ·exact two _ _ wd (bT Bc Bb').size Ba.size (by have:=hc.lt;have:=Bb'.size;omega) hd ((hc.ext Bb').ext Bd') Bd
  ·exact two _ _ wb Bc.size Ba.size (by have:=hc.lt;omega) (hd.ext Bb') ((hc.ext Bd').ext Bb') (bT Bd Bb')
 ·refine sol1 λwb Bb'=>⟨cb (bT Ba Bb'),sol2 λwc Bc'=>nf (bT (bT Ba Bb') Bc') λwd hd Bd' Bd=>?_,nf (bT Ba Bb') λwd hd Bd' Bd=>sol2 λwc Bc'=>?_⟩
  ·exact two _ _ wd r0.size (bT (bT Ba Bb') Bc').size (by have:=ha'.lt;have:=(bT Bb' Bc').size;omega) (((ha'.ext Bb').ext Bc').ext Bd') hd Bd
  ·exact two _ _ wc r0.size (bT Ba Bb').size (by have:=ha'.lt;have:=Bb'.size;omega) (((ha'.ext Bb').ext Bd').ext Bc') (hd.ext Bc') (bT Bd Bc')
 ·refine nf Ba λwd hd Bd' Bd=>sol1 λwb Bb'=>⟨cb (bT Bd Bb'),sol2 λwc Bc'=>?_⟩;exact two _ _ wc r0.size Ba.size (by have:=ha'.lt;omega) (((ha'.ext Bd').ext Bb').ext Bc') ((hd.ext Bb').ext Bc') (bT (bT Bd Bb') Bc')
 ·refine sol1 λwb Bb'=>⟨cb (bT Ba Bb'),sol2 λwc Bc'=>nf (bT (bT Ba Bb') Bc') λwd hd Bd' Bd=>?_,nf (bT Ba Bb') λwd hd Bd' Bd=>sol2 λwc Bc'=>?_⟩
  ·exact two _ _ wd (bT (bT Ba Bb') Bc').size r0.size (by have:=ha'.lt;have:=(bT Bb' Bc').size;omega) hd (((ha'.ext Bb').ext Bc').ext Bd') Bd
  ·exact two _ _ wc (bT Ba Bb').size r0.size (by have:=ha'.lt;have:=Bb'.size;omega) (hd.ext Bc') (((ha'.ext Bb').ext Bd').ext Bc') (bT Bd Bc')
 ·refine nf Ba λwd hd Bd' Bd=>sol1 λwb Bb'=>⟨cb (bT Bd Bb'),sol2 λwc Bc'=>?_⟩;exact two _ _ wc Ba.size r0.size (by have:=ha'.lt;omega) ((hd.ext Bb').ext Bc') (((ha'.ext Bd').ext Bb').ext Bc') (bT (bT Bd Bb') Bc')
end
def qzm (W H cw ch C0:Nat) (P:List UInt8) (row col:Nat) (c:Cel):List UInt8 :=
 if c.R=0 then P else if c.Kind=2 then P
 else zj4 (λP x y bw bh k=>qux P W H (((col*cw:Nat):Int)+x) (((row*ch:Nat):Int)+y) bw bh k) P c.R (if c.Kind=1/\col+1<C0 then cw*2 else cw) ch
def q7s (L:List (List Cel)):Prop:=∀r c,0<=(xq L r c).R/\(xq L r c).R<=1114111
section
variable {w w':World} {B base:Nat} {s:qx} {R C0 cw ch W H:Nat} {L:List (List Cel)} {m:qa} {P:List UInt8}
theorem q5u (h:ScnM w B s R C0 cw ch L) (hb:ze7 L) (hch:q7s L) (hM:MatM w base m W H P) (hB:B<=base) {K:qa->Ub} (hK:∀w',MatM w' base m W H (qaj (qzm W H cw ch C0) L C0 P R)->Chg (λk=>m.P.blk=some k) w w'->K m w'):Qq ⟨s⟩ m w K:=by
 refine qe4 _ _ ?_;refine nwb λw1 h1 hB1 hs1=>nwb λw2 h2 hB2 hs2=>nwb λw3 h3 hB3 hs3=>?_;have B3:=bT (bT hB1 hB2) hB3;have h13:=(h1.ext hB2).ext hB3;have h23:=h2.ext hB3;obtain ⟨gm,ha,hbm⟩:=hM.some_;have gl:=hM.own.lt gm hbm;have lim:=h.lim;refine qy (r:=qx.rep) (x:=s) (h13.sub 0 _ rfl) ?_;have kp:∀{b:Nat} {t:TypeId} {vs:List Value} {wa wb:World},Blk wa b t vs->Chg (λk=>m.P.blk=some k) wa wb->w.heap.size<=b->Blk wb b t vs:=λhb hc hle=>hb.chg hc λe=>by rw [hbm] at e;cases e;omega
 refine qvn (g:=qzm W H cw ch C0) (h.ext B3) (hM.ext B3) hB (λ{w4 P4} row col {K4} hr hc hM4 hc4 hK4=>?_) λw4 hM4 hc4=>?_
 ·have hl1:=kp h13 hc4 (le_refl _);have hm1:=kp h23 hc4 hB1.size;refine Go.Vc.callR_plain (by kernel_rfl) ?_;refine Calls.mono (show Xh (row:Int) (col:Int) (xq L row col) ⟨w.heap.size,0,none⟩ ⟨w1.heap.size,0,none⟩ w4 K4 from ?_) ?_
  ·refine qb5 _ _ _ _ _ ?_;refine nwb λw5 h5 hB5 hs5=>nwb λw6 h6 hB6 hs6=>nwb λw7 h7 hB7 hs7=>?_;have B7:=bT (bT hB5 hB6) hB7;have h57:=(h5.ext hB6).ext hB7;have h67:=h6.ext hB7;have hl7:=hl1.ext B7;have hm7:=hm1.ext B7;have hM7:=hM4.ext B7;obtain ⟨c,hcc⟩:∃c,c=xq L row col:=⟨_,rfl⟩;have hA:=hb row col;have hR:=hch row col;rw [<-hcc] at h7 hK4 hA hR;refine jpO λJ1 hJ1=>?_;unfold qzm at hK4;refine lI (x:=c.R) (h7.cells 0 _ rfl) (cO (λe=>?_) λe=>?_)
   ·rw [if_pos (eq_of_beq e)] at hK4;exact hK4 w7 hM7 (Chg.of_ext B7)
   rw [if_neg (beq_eq_false_iff_ne.1 e)] at hK4;refine lI (x:=c.Kind) (h7.cells 1 _ rfl) (cO (λe=>?_) λe=>?_)
   ·rw [if_pos (eq_of_beq e)] at hK4;exact hK4 w7 hM7 (Chg.of_ext B7)
   rw [if_neg (beq_eq_false_iff_ne.1 e)] at hK4;refine hJ1 _ _ ?_;have c2:∀{wx},Blk wx w.heap.size jE (qN.rep.cells ⟨s⟩)->wx.cell? (((⟨w.heap.size,0,none⟩:Addr).add 0).add 2)=some (Ua cw):=λhx=>by rw [<-h.ecw,zR];exact hx.cells 2 _ rfl
   have c3:∀{wx},Blk wx w.heap.size jE (qN.rep.cells ⟨s⟩)->wx.cell? (((⟨w.heap.size,0,none⟩:Addr).add 0).add 3)=some (Ua ch):=λhx=>by rw [<-h.ech,zR];exact hx.cells 3 _ rfl
   have c1:∀{wx},Blk wx w.heap.size jE (qN.rep.cells ⟨s⟩)->wx.cell? (((⟨w.heap.size,0,none⟩:Addr).add 0).add 1)=some (Ua C0):=λhx=>by rw [<-h.cols,zR];exact hx.cells 1 _ rfl
   refine lI (x:=(cw:Int)) (c2 hl7) ?_;refine jpO λJ2 hJ2=>?_;have key:∀cx:Nat,1<=cx/\cx<=128->cx=(if c.Kind=1/\col+1<C0 then cw*2 else cw)->J2 ((cx:Int),()) w7:=by
    intro cx hcx ecx;rw [<-ecx] at hK4;refine hJ2 _ _ ?_;refine lI (x:=c.R) (h7.cells 0 _ rfl) (lI (x:=(ch:Int)) (c3 hl7) ?_);refine qy (r:=qt.rep) (x:=at0) (by have:=h7.sub 2 (qt.rep.cells c.A) rfl;rw [hA] at this;exact this) ?_;refine zg4 (lay:=λP x y bw bh k=>qux P W H (((col*cw:Nat):Int)+x) (((row*ch:Nat):Int)+y) bw bh k) c.R hR cx ch hcx (by omega) hM7 (λ{w8 P8} x y bw bh k kb {K8} hx hy hbw hbh hk hM8 hc8 hK8=>?_) λw8 hM8 hc8=>hK4 w8 hM8 ((Chg.of_ext B7).trans hc8 λ_ _ h=>h);refine Go.Vc.callR_plain (by kernel_rfl) ?_;have z5:=hB5.size;have z6:=hB6.size;have l4:=hc4.size;have l3:=B3.size;have hle:w.heap.size<=w4.heap.size:=by omega
    refine Calls.mono (show Zg x y bw bh k ⟨w1.heap.size,0,none⟩ ⟨w5.heap.size,0,none⟩ ⟨w.heap.size,0,none⟩ ⟨w4.heap.size,0,none⟩ w8 K8 from ?_) ?_
    ·refine YM _ _ _ _ _ _ _ _ _ ?_;refine nwb λw9 h9 hB9 hs9=>?_;have hl9:=(kp hl7 hc8 (le_refl _)).ext hB9;have hm9:=(kp hm7 hc8 hB1.size).ext hB9;have hr9:=(kp h57 hc8 hle).ext hB9;have hcl9:=(kp h67 hc8 (by omega)).ext hB9;refine qy (r:=qa.rep) (x:=m) hm9.cells (lI (x:=(col:Int)) (by simpa using hcl9.cell 0 rfl) (lI (x:=(cw:Int)) (c2 hl9) (lI (x:=(row:Int)) (by simpa using hr9.cell 0 rfl) (lI (x:=(ch:Int)) (c3 hl9) ?_))));refine qy (r:=qh.rep) (x:=k) h9.cells ?_;obtain ⟨e1,b1⟩:=q09 (a:=col) (b:=cw) (by omega) (by omega);obtain ⟨e2,b2⟩:=q09 (a:=row) (b:=ch) (by omega) (by omega);rw [e1,e2,qQ (x:=((col*cw:Nat):Int)+x) (by omega),qQ (x:=((row*ch:Nat):Int)+y) (by omega)];exact qt6 (hM8.ext hB9) (by omega) (by omega) (by omega) (by omega) hk λw10 hM10 hc10=>hK8 w10 hM10 ((Chg.of_ext hB9).trans hc10 λ_ _ h=>h)
    ·rintro e w' ⟨rfl,hk⟩;exact ⟨rfl,hk⟩
   refine jpO λJ3 hJ3=>?_;have key3:∀b:Bool,b=decide (c.Kind=1/\col+1<C0)->J3 (b,()) w7:=by
    intro b hbb;refine hJ3 _ _ (cO (λe=>?_) λe=>?_)
    ·have e:b=true:=e;rw [e] at hbb;have hbb:=oTq hbb.symm;rw [qQ (x:=(cw:Int)*2) (by omega),show (cw:Int)*2=((cw*2:Nat):Int) by simp];exact key _ (by omega) (by rw [if_pos hbb])
    ·have e:b=false:=e;rw [e] at hbb;have hbb:=oFq hbb.symm;exact key _ (by omega) (by rw [if_neg hbb])
   refine lI (x:=c.Kind) (h7.cells 1 _ rfl) (cO (λe=>?_) λe=>?_)
   ·have e:c.Kind=1:=eq_of_beq e;refine lI (x:=(col:Int)) (by simpa using h67.cell 0 rfl) (lI (x:=(C0:Int)) (c1 hl7) (key3 _ ?_));rw [qQ (x:=(col:Int)+1) (by omega)];by_cases hcC:col+1<C0
    ·rw [dTq (p:=c.Kind=1/\col+1<C0) ⟨e,hcC⟩,dTq (by omega)]
    ·rw [dFq (p:=c.Kind=1/\col+1<C0) (λhh=>hcC hh.2),dFq (by omega)]
   ·have e:¬c.Kind=1:=beq_eq_false_iff_ne.1 e;exact key3 _ (by rw [dFq];rintro ⟨h,_⟩;exact e h)
  ·rintro e w' ⟨rfl,hk⟩;exact ⟨rfl,hk⟩
 ·have hm4:=kp h23 hc4 hB1.size;have h34:=kp h3 hc4 (by have:=(bT hB1 hB2).size;omega);refine qy (r:=qa.rep) (x:=m) hm4.cells ?_;refine zn (r:=qa.rep) (x:=m) h34 rfl rfl λw5 hc5 hs5=>?_;have z4:=hc4.size;have l3:=(bT hB1 hB2).size;have l4:=h3.lt;refine hK w5 ⟨hM4.hw,hM4.hh,hM4.own.chg hc5 (λk hk e=>by rw [hbm] at hk;cases hk;omega),hM4.len,hM4.lim⟩ ?_;refine (Chg.of_ext (S:=λk=>m.P.blk=some k) B3).trans (S':=λk=>m.P.blk=some k\/k=w2.heap.size) ((hc4.mono λ_ _ h=>.inl h).trans hc5 λ_ _ e=>.inr e) λi hi e=>?_;rcases e with e | e
  ·exact e
  ·omega
theorem q1r (hp:s.Places.n=0) (above:Bool) (hM:MatM w base m W H P) {K:qa->Ub} (hK:∀w',MatM w' base m W H P->Uc w w'->K m w'):x7 ⟨s,above⟩ m w K:=by
 refine Jg _ _ ?_;refine nwb λw1 h1 hB1 hs1=>nwb λw2 h2 hB2 hs2=>nwb λw3 h3 hB3 hs3=>?_;have B3:=bT (bT hB1 hB2) hB3;have h13:=(h1.ext hB2).ext hB3;have h23:=h2.ext hB3;refine lSl (x:=s.Places) (by rw [zR];exact h13.cells 5 _ rfl) ?_;refine lpR (λ(st:Int×Unit) w4=>st.1=0/\w4=w3) (λ_=>0) ⟨rfl,rfl⟩ ?_;rintro ⟨i,u⟩ w4 ⟨rfl,rfl⟩ I hI;refine cF (by rw [hp];rfl) ?_;refine qy (r:=qa.rep) (x:=m) h23.cells ?_;refine zn (r:=qa.rep) (x:=m) h3 rfl rfl λw5 hc5 hs5=>?_;have B5:Uc w w5:=b1o B3 hc5 (by have:=(bT hB1 hB2).size;omega);exact hK w5 (hM.ext B5) B5
end
section
variable {w:World}
theorem zgc {W H:Nat} {K:Bool->Ub} (hW1:1<=W) (hW2:W<=16384) (hH1:1<=H) (hH2:H<=16384) (hA:W*H<=67108864) (hK:K true w):JD (W:Int) (H:Int) w K:=by
 refine VJ _ _ ?_;refine cF (zbi (by omega)) (cT (dTq (by omega)) (cT (dTq (by omega)) (cT (dTq (by omega)) (cT (dTq (by omega)) ?_))));rw [show (W:Int)*(H:Int)=((W*H:Nat):Int) by simp,qQ (by omega),dTq (by omega)];exact hK
theorem q1x {W H:Nat} {K:qa->Int->Ub} (hW1:1<=W) (hW2:W<=16384) (hH1:1<=H) (hH2:H<=16384) (hA:W*H<=67108864)
  (hK:∀(t:Slc) (gm:Nat) w',Go.Vc.Own qu w' w.heap.size t (List.replicate (4*W*H) 0)->t.a=some ⟨gm,0,none⟩->w.heap.size<=gm->Uc w w'->K ⟨W,H,t⟩ 0 w'):qc9 (W:Int) (H:Int) w K:=by
 refine qy2 _ _ ?_;refine nwb λw1 h1 hB1 hs1=>zgc hW1 hW2 hH1 hH2 hA (cF rfl ?_);have e:i64.wrap ((i64.wrap ((4:Int)*(W:Int)))*(H:Int))=((4*W*H:Nat):Int):=by
  have h4:4*W*H=4*(W*H):=Nat.mul_assoc _ _ _;rw [qQ (x:=(4:Int)*(W:Int)) (by omega),show (4:Int)*(W:Int)*(H:Int)=((4*W*H:Nat):Int) by simp,qQ (by omega)]
 rw [e];have h4:4*W*H=4*(W*H):=Nat.mul_assoc _ _ _;refine q5d zh (x0:=(0:UInt8)) rfl (n:=4*W*H) rfl rfl (by rw [xX];omega) (by unfold maxLen;omega) λw4 ho hB4=>?_;refine zn (r:=qa.rep) (x:=⟨W,H,⟨some ⟨w1.heap.size,0,none⟩,4*W*H,4*W*H⟩⟩) (h1.ext hB4) rfl rfl λw5 hc5 hs5=>?_;refine hK _ w1.heap.size w5 ((ho.chg hc5 λk hk e=>?_).base (by omega)) rfl (by omega) (b1o (bT hB1 hB4) hc5 (le_refl _));have:=(ho.lt k hk).1;omega
end
def zna (P:List UInt8) (o:Nat):List UInt8:=P.set o (255-P.getD o 0)
def q5e (P:List UInt8) (o:Nat):Nat->List UInt8
 | 0=>P
 | i+1=>zna (q5e P o i) (o+i)
def q1e (P:List UInt8) (W y x0:Nat):Nat->List UInt8
 | 0=>P
 | k+1=>q5e (q1e P W y x0 k) (4*(y*W+(x0+k))) 3
def qm8 (P:List UInt8) (W x0 nx y0:Nat):Nat->List UInt8
 | 0=>P
 | k+1=>q1e (qm8 P W x0 nx y0 k) W (y0+k) x0 nx
def qc8 (P:List UInt8) (W R C0 cw ch:Nat) (on:Bool) (row col:Int):List UInt8 :=
 if on=true/\(0<=row/\row<R)/\(0<=col/\col<C0) then qm8 P W (col.toNat*cw) cw (row.toNat*ch) ch else P
theorem Vq (P:List UInt8) (o:Nat):∀i,(q5e P o i).length=P.length
 | 0=>rfl
 | i+1=>by show (List.set _ _ _).length=_;rw [List.length_set,Vq P o i]
section
variable {w w':World} {B base:Nat} {s:qx} {R C0 cw ch W H:Nat} {L:List (List Cel)} {m:qa} {P:List UInt8}
theorem x8 {v lo hi:Int} {K:Bool->Ub} (hK:K (decide (lo<=v/\v<=hi)) w):zQ v lo hi w K:=by
 refine qpn _ _ _ ?_;refine cO (λe=>?_) λe=>?_
 ·have e:=oTq e;rw [show decide (lo<=v/\v<=hi)=decide (v<=hi) by simp;intro _;exact e] at hK;exact hK
 ·have e:=oFq e;rw [show decide (lo<=v/\v<=hi)=false by simp;omega] at hK;exact hK
theorem q1j (h:ScnM w B s R C0 cw ch L) (hW:W=C0*cw) (hH:H=R*ch) (br:-1000000<=s.Row/\s.Row<=1000000) (bc:-1000000<=s.Col/\s.Col<=1000000) (hM:MatM w base m W H P) {K:qa->Ub}
  (hK:∀w',MatM w' base m W H (qc8 P W R C0 cw ch s.Cursor s.Row s.Col)->Chg (λk=>m.P.blk=some k) w w'->K m w'):yQ ⟨s⟩ m w K:=by
 refine qe1 _ _ ?_;refine nwb λw1 h1 hB1 hs1=>nwb λw2 h2 hB2 hs2=>nwb λw3 h3 hB3 hs3=>?_;have h13:=(h1.ext hB2).ext hB3;have h23:=h2.ext hB3;refine qy (r:=qx.rep) (x:=s) (h13.sub 0 _ rfl) ?_;refine nwb λw4 h4 hB4 hs4=>jH h4 rfl λw5 h5 hc5 hs5=>?_;have l3:=h3.lt;have l2:=h23.lt;have z12:=(bT hB1 hB2).size;have z4:=hB4.size;have B5:Uc w w5:=b1o (bT (bT (bT hB1 hB2) hB3) hB4) hc5 (by omega);have h25:=(h23.ext hB4).chg hc5 (by omega);have h35:=(h3.ext hB4).chg hc5 (by omega);obtain ⟨gm,ha,hbm⟩:=hM.some_;have gl:=hM.own.lt gm hbm;have lim:=h.lim;have hM5:=hM.ext B5;have kp:∀{b:Nat} {t:TypeId} {vs:List Value} {wa wb:World},Blk wa b t vs->Chg (λk=>m.P.blk=some k) wa wb->w.heap.size<=b->Blk wb b t vs:=λhb hc hle=>hb.chg hc λe=>by rw [hbm] at e;cases e;omega
 have fin:∀w6 P6,MatM w6 base m W H P6->Chg (λk=>m.P.blk=some k) w5 w6->P6=qc8 P W R C0 cw ch s.Cursor s.Row s.Col ->
   ldS qa.rep ⟨w1.heap.size,0,none⟩ w6 λt93=>stK ⟨w2.heap.size,0,none⟩ (qa.rep.cells t93) w6 λw11=>ldS qa.rep ⟨w2.heap.size,0,none⟩ w11 λr=>K r w11:=by
  rintro w6 P6 hM6 hc6 rfl;refine qy (r:=qa.rep) (x:=m) (kp h25 hc6 hB1.size).cells ?_;refine zn (r:=qa.rep) (x:=m) (kp h35 hc6 z12) rfl rfl λw7 hc7 hs7=>?_;have z6:=hc6.size;refine hK w7 ⟨hM6.hw,hM6.hh,hM6.own.chg hc7 (λk hk e=>by rw [hbm] at hk;cases hk;omega),hM6.len,hM6.lim⟩ ?_;refine (Chg.of_ext (S:=λk=>m.P.blk=some k) B5).trans (S':=λk=>m.P.blk=some k\/k=w2.heap.size) ((hc6.mono λ_ _ h=>.inl h).trans hc7 λ_ _ e=>.inr e) λi hi e=>?_;rcases e with e | e
  ·exact e
  ·omega
 refine jpO λJ1 hJ1=>?_;have go:s.Cursor=true->(0<=s.Row/\s.Row<(R:Int))->(0<=s.Col/\s.Col<(C0:Int))->∀w6,Uc w5 w6->J1 () w6:=by
  intro hon hrow hcol w6 hB6;refine hJ1 _ _ ?_;have h56:=h5.ext hB6;have hM6:=hM5.ext hB6;obtain ⟨r,hr⟩:∃r:Nat,s.Row=r:=⟨s.Row.toNat,by omega⟩;obtain ⟨c,hc⟩:∃c:Nat,s.Col=c:=⟨s.Col.toNat,by omega⟩;obtain ⟨e1,b1⟩:=q09 (a:=r) (b:=ch) (by omega) (by omega);obtain ⟨e2,b2⟩:=q09 (a:=c) (b:=cw) (by omega) (by omega);have lr:∀{wx},Blk wx w3.heap.size zf (qx.rep.cells s)->wx.cell? ((⟨w3.heap.size,0,none⟩:Addr).add 9)=some (Ua r):=λhx=>by rw [<-hr];exact hx.cells 9 _ rfl
  have lc:∀{wx},Blk wx w3.heap.size zf (qx.rep.cells s)->wx.cell? ((⟨w3.heap.size,0,none⟩:Addr).add 10)=some (Ua c):=λhx=>by rw [<-hc];exact hx.cells 10 _ rfl
  have lh:∀{wx},Blk wx w3.heap.size zf (qx.rep.cells s)->wx.cell? ((⟨w3.heap.size,0,none⟩:Addr).add 3)=some (Ua ch):=λhx=>by rw [<-h.ech];exact hx.cells 3 _ rfl
  have lw:∀{wx},Blk wx w3.heap.size zf (qx.rep.cells s)->wx.cell? ((⟨w3.heap.size,0,none⟩:Addr).add 2)=some (Ua cw):=λhx=>by rw [<-h.ecw];exact hx.cells 2 _ rfl
  have er:i64.wrap (i64.wrap ((r:Int)+1)*(ch:Int))=((r*ch+ch:Nat):Int):=by
   rw [qQ (x:=(r:Int)+1) (by omega),show ((r:Int)+1)*(ch:Int)=((r*ch+ch:Nat):Int) by rw [Int.add_mul];simp];exact qQ (by omega)
  have ec:i64.wrap (i64.wrap ((c:Int)+1)*(cw:Int))=((c*cw+cw:Nat):Int):=by
   rw [qQ (x:=(c:Int)+1) (by omega),show ((c:Int)+1)*(cw:Int)=((c*cw+cw:Nat):Int) by rw [Int.add_mul];simp];exact qQ (by omega)
  have inr:r*ch+ch<=H:=by
   rw [hH];have:(r+1)*ch<=R*ch:=Nat.mul_le_mul_right ch (by omega);rw [Nat.add_mul] at this;omega
  have inc:c*cw+cw<=W:=by
   rw [hW];have:(c+1)*cw<=C0*cw:=Nat.mul_le_mul_right cw (by omega);rw [Nat.add_mul] at this;omega
  obtain ⟨y0,hy0⟩:∃y0,y0=r*ch:=⟨_,rfl⟩;obtain ⟨x0,hx0⟩:∃x0,x0=c*cw:=⟨_,rfl⟩;refine lI (x:=(r:Int)) (lr h56) (lI (x:=(ch:Int)) (lh h56) ?_);rw [e1,<-hy0];rw [<-hy0] at er inr b1;rw [<-hx0] at ec inc b2;have c06:Chg (λk=>m.P.blk=some k) w5 w6:=Chg.of_ext hB6;have hlen:=hM.len;have hlim:=hM.lim;refine lpR (λ(st:Int×Unit) w7=>∃k:Nat,st.1=((y0+k:Nat):Int)/\k<=ch/\MatM w7 base m W H (qm8 P W x0 cw y0 k)/\Chg (λk=>m.P.blk=some k) w6 w7) (λst=>ch-(st.1.toNat-y0)) ⟨0,rfl,zero_le _,hM6,Chg.refl _ _⟩ ?_;rintro ⟨i,u⟩ w7 ⟨k,hi,hk,hM7,hc7⟩ I hI;dsimp only at hi ⊢;subst hi;have h57:=kp h56 hc7 (by omega);refine lI (x:=(r:Int)) (lr h57) (lI (x:=(ch:Int)) (lh h57) ?_);rw [er];refine cO (λe=>?_) λe=>?_
  ·have hkn:k<ch:=by have:=oTq e;omega
   refine lI (x:=(c:Int)) (lc h57) (lI (x:=(cw:Int)) (lw h57) ?_);rw [e2,<-hx0];refine lpR (λ(st:Int×Unit) w8=>∃j:Nat,st.1=((x0+j:Nat):Int)/\j<=cw/\MatM w8 base m W H (q1e (qm8 P W x0 cw y0 k) W (y0+k) x0 j)/\Chg (λk=>m.P.blk=some k) w6 w8) (λst=>cw-(st.1.toNat-x0)) ⟨0,rfl,zero_le _,hM7,hc7⟩ ?_;rintro ⟨i2,u2⟩ w8 ⟨j,hi2,hj,hM8,hc8⟩ I2 hI2;dsimp only at hi2 ⊢;subst hi2;have h58:=kp h56 hc8 (by omega);refine lI (x:=(c:Int)) (lc h58) (lI (x:=(cw:Int)) (lw h58) ?_);rw [ec];refine cO (λe=>?_) λe=>?_
   ·have hjn:j<cw:=by have:=oTq e;omega
    have hin:=qpe (W:=W) (H:=H) (x:=x0+j) (y:=y0+k) (by omega) (by omega);obtain ⟨o,ho⟩:∃o,o=4*((y0+k)*W+(x0+j)):=⟨_,rfl⟩;refine lpR (λ(st:Int×Unit) w9=>∃t:Nat,st.1=(t:Int)/\t<=3/\MatM w9 base m W H (q5e (q1e (qm8 P W x0 cw y0 k) W (y0+k) x0 j) o t)/\Chg (λk=>m.P.blk=some k) w6 w9) (λst=>3-st.1.toNat) ⟨0,rfl,by omega,hM8,hc8⟩ ?_;rintro ⟨i3,u3⟩ w9 ⟨t,hi3,ht,hM9,hc9⟩ I3 hI3;dsimp only at hi3 ⊢;subst hi3;refine cO (λe=>?_) λe=>?_
    ·have htn:t<3:=by have:=oTq e;omega
     have hm9:=(kp (h25.ext hB6) hc9 hB1.size).drew;refine lSl (x:=m.P) (hm9.cells 2 _ rfl) (lI (x:=(W:Int)) (by rw [<-hM.hw];exact hm9.cells 0 _ rfl) (lSl (x:=m.P) (hm9.cells 2 _ rfl) (lI (x:=(W:Int)) (by rw [<-hM.hw];exact hm9.cells 0 _ rfl) ?_)));have eidx:i64.wrap (i64.wrap ((4:Int)*i64.wrap (i64.wrap (((y0+k:Nat):Int)*(W:Int))+((x0+j:Nat):Int)))+(t:Int))=((o+t:Nat):Int):=by
      have e1:((y0+k:Nat):Int)*(W:Int)=(((y0+k)*W:Nat):Int):=by simp
      rw [e1,ho];generalize (y0+k)*W=q at hin ⊢;rw [qQ (x:=((q:Nat):Int)) (by omega),qQ (x:=((q:Nat):Int)+((x0+j:Nat):Int)) (by omega),qQ (x:=(4:Int)*(((q:Nat):Int)+((x0+j:Nat):Int))) (by omega),qQ (by omega)];omega
     rw [eidx];have hl9:=hM9.len;have ho9:=hM9.own.drew;have hot:o+t<(q5e (q1e (qm8 P W x0 cw y0 k) W (y0+k) x0 j) o t).length:=by rw [hl9];omega
     obtain ⟨v,hv,hvs⟩:=qh9 (xs:=q5e (q1e (qm8 P W x0 cw y0 k) W (y0+k) x0 j) o t) (k:=o+t) hot;refine ho9.rd.ix (i:=((o+t:Nat):Int)) (k:=1) rfl (by omega) (by omega) λhcell=>?_;rw [hvs] at hcell;refine zk7 (b:=v) hcell ?_;refine ho9.rd.ix (i:=((o+t:Nat):Int)) (k:=1) rfl (by omega) (by omega) λ_=>?_;have ev:IntKind.u8.wrap ((255:Int)-(v.toNat:Int))=((255-v).toNat:Int):=by
      have h8:=v.toNat_lt;have e1:(255-v).toNat=255-v.toNat:=by
       rw [UInt8.toNat_sub_of_le]
       ·rfl
       ·rw [UInt8.le_iff_toNat_le];show v.toNat<=255;omega
      rw [e1,show (255:Int)-(v.toNat:Int)=((255-v.toNat:Nat):Int) by omega];exact xk .u8 (by show _<2^8;omega)
     rw [ev];refine ho9.st0 (x:=v) hv (y:=255-v) rfl λw10 ho10 hg10 hs10=>?_;rw [qQ (x:=(t:Int)+1) (by omega)];have hc10:Chg (λk=>m.P.blk=some k) w9 w10:=(Chg.of_ext (bdw w9)).trans (Chg.of_grown (S:=λk=>m.P.blk=some k) hg10 λk hk=>hk) λ_ _ h=>h;refine hI3 _ _ ⟨t+1,by simp,by omega,⟨hM9.hw,hM9.hh,?_,by rw [Vq,<-Vq _ o t];exact hl9,hM9.lim⟩,hc9.trans hc10 λ_ _ h=>h⟩ (by dsimp only;omega);show Go.Vc.Own qu w10 base m.P (List.set _ (o+t) (255-List.getD _ (o+t) 0));rw [List.getD_eq_getElem?_getD,hv];exact ho10
    ·have:t=3:=by have:=oFq e;omega
     subst this;rw [qQ (x:=((x0+j:Nat):Int)+1) (by omega)];refine hI2 _ _ ⟨j+1,by simp;omega,by omega,?_,hc9⟩ (by dsimp only;omega);rw [ho] at hM9;exact hM9
   ·have:j=cw:=by have:=oFq e;omega
    subst this;rw [qQ (x:=((y0+k:Nat):Int)+1) (by omega)];exact hI _ _ ⟨k+1,by simp;omega,by omega,hM8,hc8⟩ (by dsimp only;omega)
  ·have:k=ch:=by have:=oFq e;omega
   subst this;refine fin w7 _ hM7 (c06.trans hc7 λ_ _ h=>h) ?_;unfold qc8;rw [if_pos ⟨hon,hrow,hcol⟩,hr,hc,toNat_natCast,toNat_natCast,<-hy0,<-hx0]
 have no:¬(s.Cursor=true/\(0<=s.Row/\s.Row<(R:Int))/\(0<=s.Col/\s.Col<(C0:Int)))->P=qc8 P W R C0 cw ch s.Cursor s.Row s.Col:=λhn=>by unfold qc8;rw [if_neg hn]
 refine jw (x:=s.Cursor) (h5.cells 8 _ rfl) (cO (λe=>?_) λe=>?_)
 ·have e:s.Cursor=false:=by simpa using e
  exact fin w5 P hM5 (Chg.refl _ _) (no λhh=>by rw [e] at hh;cases hh.1)
 have eon:s.Cursor=true:=by simpa using e
 refine lI (x:=s.Row) (h5.cells 9 _ rfl) (lI (x:=(R:Int)) (by rw [<-h.rows];exact h5.cells 0 _ rfl) ?_);rw [qQ (x:=(R:Int)-1) (by omega)];refine x8 (cO (λe=>?_) λe=>?_)
 ·have e:¬(0<=s.Row/\s.Row<=(R:Int)-1):=λhh=>by simp at e;omega
  exact fin w5 P hM5 (Chg.refl _ _) (no λhh=>e ⟨hh.2.1.1,by omega⟩)
 have er:0<=s.Row/\s.Row<=(R:Int)-1:=by simpa using e
 refine lI (x:=s.Col) (h5.cells 10 _ rfl) (lI (x:=(C0:Int)) (by rw [<-h.cols];exact h5.cells 1 _ rfl) ?_);rw [qQ (x:=(C0:Int)-1) (by omega)];refine x8 (cO (λe=>?_) λe=>?_)
 ·have e:¬(0<=s.Col/\s.Col<=(C0:Int)-1):=λhh=>by simp at e;omega
  exact fin w5 P hM5 (Chg.refl _ _) (no λhh=>e ⟨hh.2.2.1,by omega⟩)
 have ec:0<=s.Col/\s.Col<=(C0:Int)-1:=by simpa using e
 exact go eon ⟨er.1,by omega⟩ ⟨ec.1,by omega⟩ w5 (Below.refl _ _)
end
structure EvP where
 k:Int
 r:Int
 b:Int
 pv:Int
 i:List UInt8
 ps:List Int
 d:List UInt8
structure PS where
 st:Int
 ends:Bool
 priv:Int
 inter:List UInt8
 wrong:Bool
 first:Bool
 params:List Int
 some_:Bool
 last:Int
 data:List UInt8
def ps0:PS:=⟨0,false,0,[],false,true,[],false,0,[]⟩
def evK (k b:Int):EvP:=⟨k,0,b,0,[],[],[]⟩
def qv9 (r:Int):EvP:=⟨1,r,0,0,[],[],[]⟩
def qg3 (k:Int) (d:List UInt8):EvP:=⟨k,0,0,0,[],[],d⟩
def qzo (c:Int):Bool:=decide (c<32) && (c !=24 && (c !=26 && c !=27))
def qsu (c:Int):Bool:=c==24 || (c==26 || (c==27 || c==127))
namespace PS
def begin_ (p:PS) (s:Int):PS:={ p with st:=s,priv:=0,wrong:=false,first:=true,some_:=false,last:=0,inter:=[],params:=[] }
def close (p:PS) (b:Int):List EvP:=if p.st=5 then [evK 8 b] else if p.st=6 then [evK 11 b] else []
def ground (p:PS) (c:Int):PS×List EvP:=(p,if qzo c then [evK 2 c] else if c=127 then [] else [qv9 c])
def keep (p:PS) (c:Int):PS:=if p.inter.length=2 then { p with wrong:=true } else { p with inter:=p.inter++[UInt8.ofNat c.toNat] }
def opens (p:PS) (c:Int):Option (PS×List EvP) :=
 if c=91 then some (p.begin_ 2,[])
 else if c=80 then some (p.begin_ 3,[])
 else if c=93 then some ({ p with st:=4,data:=[] },[])
 else if c=95 then some ({ p with st:=6 },[evK 9 0])
 else if c=88\/c=94 then some ({ p with st:=7 },[])
 else none
def escEnd (p:PS) (c:Int):PS×List EvP:=({ p with st:=0 },if p.wrong then [] else [⟨3,0,c,0,p.inter,[],[]⟩])
def escape (p:PS) (c:Int):PS×List EvP :=
 if qzo c then (p,[evK 2 c])
 else if c<=47 then (p.keep c,[])
 else if c=127 then (p,[])
 else if p.inter≠[] then p.escEnd c
 else (p.opens c).getD (p.escEnd c)
def next (p:PS):PS:={ p with params:=if p.params.length<16 then p.params++[p.last] else p.params,last:=0 }
def final (p:PS) (c:Int):PS×List EvP :=
 let p1:PS:={ p with st:=if p.st≠3 then 0 else if p.wrong then 7 else 5 }
 if p.wrong then (p1,[])
 else
  let p2:=if p.some_ then p1.next else p1
  (p2,[⟨if p.st=3 then 6 else 4,0,c,p.priv,p.inter,p2.params,[]⟩])
def head (p0:PS) (c:Int):PS×List EvP :=
 let p:PS:={ p0 with first:=p0.first && (qzo c || c==127) }
 if qzo c then (p,if p.st=2 then [evK 2 c] else [])
 else if c<=47 then (p.keep c,[])
 else if c=127 then (p,[])
 else if c<=57 then ({ p with wrong:=p.wrong || decide (p.inter≠[]),some_:=true,last:=if 65535<10*p.last+(c-48) then 65535 else 10*p.last+(c-48) },[])
 else if c=59 then (({ p with wrong:=p.wrong || decide (p.inter≠[]),some_:=true }:PS).next,[])
 else if 60<=c/\c<=63/\p0.first=true then ({ p with priv:=c },[])
 else if c<=63 then ({ p with wrong:=true },[])
 else p.final c
def text (p:PS) (c:Int):PS×List EvP :=
 if c=7 then ({ p with st:=0 },[qg3 5 p.data])
 else if 32<=c/\c≠127/\p.data.length<1024 then ({ p with data:=p.data++[UInt8.ofNat c.toNat] },[])
 else (p,[])
def plain (p:PS) (c:Int):PS×List EvP :=
 if p.st=1 then p.escape c else if p.st=2\/p.st=3 then p.head c else if p.st=4 then p.text c else if p.st=5\/p.st=6\/p.st=7 then (p,[]) else p.ground c
def ended (p0:PS) (c:Int):PS×List EvP :=
 let p:PS:={ p0 with ends:=false }
 if c=92 then ({ p with st:=0 },(if p.st=4 then [qg3 5 p.data] else [])++p.close 1)
 else
  let p1:=p.begin_ 1
  if c=27 then (p1,p.close 0)
  else if c=24\/c=26 then ({ p1 with st:=0 },p.close 0++[evK 2 c])
  else ((p1.escape c).1,p.close 0++(p1.escape c).2)
def step (p:PS) (c:Int):PS×List EvP :=
 if p.ends then p.ended c
 else if c≠24/\c≠26/\c≠27 then p.plain c
 else if c≠27 then ({ p with st:=0 },p.close 0++[evK 2 c])
 else if p.st>=4 then ({ p with ends:=true },[])
 else (p.begin_ 1,[])
def runN (p:PS) (bs:List UInt8):Nat:=if p.ends=true\/p.st≠5/\p.st≠6 then 0 else (bs.takeWhile λb=>!qsu b.toNat).length
def ze8:Nat->PS->List UInt8->PS×List EvP
 | 0,p,_=>(p,[])
 | _,p,[]=>(p,[])
 | f+1,p,b::bs =>
  if 0<p.runN (b::bs) then
   let r:=ze8 f p ((b::bs).drop (p.runN (b::bs)))
   (r.1,qg3 (if p.st=6 then 10 else 7) ((b::bs).take (p.runN (b::bs)))::r.2)
  else
   let s:=p.step b.toNat
   let r:=ze8 f s.1 bs
   (r.1,s.2++r.2)
def eachB (p:PS) (bs:List UInt8):PS×List EvP:=ze8 bs.length p bs
end PS
structure PF where
 pg:Nat
 cg:Nat
 qi:Slc
 qp:Slc
 qd:Slc
def q9w (F:PF) (p:PS) (fv:Value):List Value:=[.int .i64 p.st,.bool p.ends,.pointer (some ⟨F.cg,0,none⟩),.int .u8 p.priv,.slice F.qi.a F.qi.n F.qi.c,.bool p.wrong,.bool p.first,.slice F.qp.a F.qp.n F.qp.c,.bool p.some_,.int .i64 p.last,.slice F.qd.a F.qd.n F.qd.c,fv]
def JM (F:PF) (k:Nat):Prop:=k=F.pg\/k=F.cg\/F.qi.blk=some k\/F.qp.blk=some k\/F.qd.blk=some k
structure PsOk (p:PS):Prop where
 il:p.inter.length<=2
 pl:p.params.length<=16
 dl:p.data.length<=1024
 la:0<=p.last/\p.last<=65535
 pv:0<=p.priv/\p.priv<=255
 pr:∀x∈p.params,0<=x/\x<=65535
structure ParsM (w:World) (base:Nat) (F:PF) (p:PS) (fv:Value):Prop where
 blk:Blk w F.pg Z1 (q9w F p fv)
 ch:∃r lo hi,Blk w F.cg qak [.int .i32 r,.int .i64 0,.int .u8 lo,.int .u8 hi]
 hg:base<=F.pg/\base<=F.cg
 qi:Go.Vc.Own qu w base F.qi p.inter
 qp:Go.Vc.Own jG w base F.qp p.params
 qd:Go.Vc.Own qu w base F.qd p.data
 ne:∀k,F.qi.blk=some k->F.qd.blk≠some k
 ok:PsOk p
def far (T:Nat->Prop) (w:World):Prop:=∀k cs,T k->¬Blk w k qR cs
structure Hnd (σ:Type) where
 M:World->(Nat->Prop)->σ->Prop
 R:σ->EvP->σ->Prop
 ok:σ->EvP->Prop
structure EvW (w:World) (S:Nat->Prop) (p d:Slc) (v:EvP):Prop where
 ps:Rd jG w p v.ps
 pf:∀a,p.a=some a->¬S a.block/\a.block<w.heap.size
 ds:Rd qu w d v.d
 df:∀a,d.a=some a->¬S a.block/\a.block<w.heap.size
 rng:∀x∈v.ps,0<=x/\x<=65535
 pl:v.ps.length<=16
 b:0<=v.b/\v.b<=255
 pv:0<=v.pv/\v.pv<=255
 il:v.i.length<=2
 dl:v.d.length<=1000000
def agE (v:EvP) (p d:Slc):Value:=.agg #[.int .i64 v.k,.int .i32 v.r,.int .u8 v.b,.int .u8 v.pv,.string (ze v.i),.slice p.a p.n p.c,.slice d.a d.n d.c]
structure HndOk {σ:Type} (H:Hnd σ) (base:Nat) (fv:Value):Prop where
 keep:∀{w w' S s T},H.M w S s->Chg T w w'->(∀k,S k->¬T k)->far T w->(∀k,T k->base<=k)->H.M w' S s
 lt:∀{w S s},H.M w S s->∀k,S k->base<=k/\k<w.heap.size
 call:∀{w S s v p d} {K:Ub},H.M w S s->H.ok s v->EvW w S p d v->(∀w' S' s',H.M w' S' s'->H.R s v s'->Chg S w w'->(∀k,S' k->S k\/w.heap.size<=k)->K w')->jm C fv [agE v p d] [] w K
def Jw {σ:Type} (H:Hnd σ):σ->List EvP->σ->Prop
 | s,[],s'=>s'=s
 | s,e::es,s'=>∃m,H.R s e m/\Jw H m es s'
def jy {σ:Type} (H:Hnd σ):σ->List EvP->Prop
 | _,[]=>True
 | s,e::es=>H.ok s e/\∀m,H.R s e m->jy H m es
theorem Jw.append {σ:Type} {H:Hnd σ}:∀{a b:List EvP} {s m s':σ},Jw H s a m->Jw H m b s'->Jw H s (a++b) s'
 | [],b,s,m,s',h,h2=>by cases h;exact h2
 | e::a,b,s,m,s',⟨x,h1,h⟩,h2=>⟨x,h1,Jw.append h h2⟩
theorem jy.left {σ:Type} {H:Hnd σ}:∀{a b:List EvP} {s:σ},jy H s (a++b)->jy H s a
 | [],b,s,h=>trivial
 | e::a,b,s,h=>⟨h.1,λm hm=>jy.left (h.2 m hm)⟩
theorem jy.right {σ:Type} {H:Hnd σ}:∀{a b:List EvP} {s m:σ},jy H s (a++b)->Jw H s a m->jy H m b
 | [],b,s,m,h,hr=>by cases hr;exact h
 | e::a,b,s,m,h,⟨x,h1,hr⟩=>jy.right (h.2 x h1) hr
section
variable {w w':World} {base:Nat} {F F':PF} {p p':PS} {fv:Value}
theorem ParsM.below (h:ParsM w base F p fv):∀k,JM F k->base<=k/\k<w.heap.size:=by
 obtain ⟨r,lo,hi,hc⟩:=h.ch;rintro k (rfl | rfl | hk | hk | hk)
 ·exact ⟨h.hg.1,h.blk.lt⟩
 ·exact ⟨h.hg.2,hc.lt⟩
 ·exact h.qi.lt k hk
 ·exact h.qp.lt k hk
 ·exact h.qd.lt k hk
theorem ParsM.chg {T:Nat->Prop} (h:ParsM w base F p fv) (hc:Chg T w w') (hT:∀k,JM F k->¬T k):ParsM w' base F p fv:=by
 obtain ⟨r,lo,hi,hch⟩:=h.ch;exact ⟨h.blk.chg hc (hT _ (.inl rfl)),⟨r,lo,hi,hch.chg hc (hT _ (.inr (.inl rfl)))⟩,h.hg,h.qi.chg hc λk hk=>hT k (.inr (.inr (.inl hk))),h.qp.chg hc λk hk=>hT k (.inr (.inr (.inr (.inl hk)))),h.qd.chg hc λk hk=>hT k (.inr (.inr (.inr (.inr hk)))),h.ne,h.ok⟩
theorem ParsM.ext (h:ParsM w base F p fv) (hB:Uc w w'):ParsM w' base F p fv:=h.chg (Chg.of_ext (S:=λ_=>False) hB) λ_ _ h=>h
theorem ParsM.far (h:ParsM w base F p fv):far (JM F) w:=by
 obtain ⟨r,lo,hi,hch⟩:=h.ch;rintro k cs (rfl | rfl | hk | hk | hk) hb
 ·exact h.blk.ne_t hb (by decide) rfl
 ·exact hch.ne_t hb (by decide) rfl
 ·obtain ⟨c,hc⟩:=h.qi.blk_t hk;exact hc.ne_t hb (by decide) rfl
 ·obtain ⟨c,hc⟩:=h.qp.blk_t hk;exact hc.ne_t hb (by decide) rfl
 ·obtain ⟨c,hc⟩:=h.qd.blk_t hk;exact hc.ne_t hb (by decide) rfl
theorem ParsM.ne_pg (h:ParsM w base F p fv):∀k,(k=F.cg\/F.qi.blk=some k\/F.qp.blk=some k\/F.qd.blk=some k)->k≠F.pg:=by
 obtain ⟨r,lo,hi,hch⟩:=h.ch;rintro k (rfl | hk | hk | hk)
 ·exact hch.ne_t h.blk (by decide)
 ·exact qF h.qi h.blk (by decide) k hk
 ·exact qF h.qp h.blk (by decide) k hk
 ·exact qF h.qd h.blk (by decide) k hk
theorem ParsM.put (h:ParsM w base F p fv) (hb:Blk w' F.pg Z1 (q9w F' p' fv)) (hc:Chg (λk=>k=F.pg) w w') (e1:F'.pg=F.pg) (e2:F'.cg=F.cg)
  (qi:Go.Vc.Own qu w base F'.qi p'.inter) (qp:Go.Vc.Own jG w base F'.qp p'.params) (qd:Go.Vc.Own qu w base F'.qd p'.data) (ne:∀k,F'.qi.blk=some k->F'.qd.blk≠some k) (ok:PsOk p'):ParsM w' base F' p' fv:=by
 obtain ⟨r,lo,hi,hch⟩:=h.ch;refine ⟨by rw [e1];exact hb,⟨r,lo,hi,?_⟩,by rw [e1,e2];exact h.hg,qi.chg hc (qF qi h.blk (by decide)),qp.chg hc (qF qp h.blk (by decide)),qd.chg hc (qF qd h.blk (by decide)),ne,ok⟩;rw [e2];exact hch.chg hc (h.ne_pg _ (.inl rfl))
end
section
variable {σ:Type} {H:Hnd σ} {w w':World} {base:Nat} {F F':PF} {p p':PS} {fv:Value} {S S':Nat->Prop} {s s':σ}
structure PH (H:Hnd σ) (w:World) (base:Nat) (F:PF) (p:PS) (fv:Value) (S:Nat->Prop) (s:σ):Prop where
 par:ParsM w base F p fv
 m:H.M w S s
 dj:∀k,JM F k->¬S k
structure PhT (H:Hnd σ) (base:Nat) (w:World) (F:PF) (S:Nat->Prop) (F':PF) (S':Nat->Prop) (p':PS) (fv:Value) (s':σ) (w':World):Prop where
 m:PH H w' base F' p' fv S' s'
 old:∀k,(JM F' k\/S' k)->(JM F k\/S k)\/w.heap.size<=k
 chg:Chg (λk=>JM F k\/S k) w w'
 pg:F'.pg=F.pg
theorem PhT.refl (h:PH H w base F p fv S s):PhT H base w F S F S p fv s w:=⟨h,λk hk=>.inl hk,Chg.refl _ _,rfl⟩
theorem PhT.trans {w1 w2:World} {F1 F2:PF} {S1 S2:Nat->Prop} {p1 p2:PS} {s1 s2:σ} (h:PhT H base w F S F1 S1 p1 fv s1 w1) (h2:PhT H base w1 F1 S1 F2 S2 p2 fv s2 w2):PhT H base w F S F2 S2 p2 fv s2 w2:=by
 have hs:=h.chg.size;refine ⟨h2.m,λk hk=>?_,h.chg.trans h2.chg λi hi hk=>?_,h2.pg.trans h.pg⟩
 ·rcases h2.old k hk with h3 | h3
  ·exact h.old k h3
  ·right;omega
 ·rcases h.old i hk with h3 | h3
  ·exact h3
  ·omega
theorem PH.ext (hH:HndOk H base fv) (h:PH H w base F p fv S s) (hB:Uc w w'):PhT H base w F S F S p fv s w' :=
 ⟨⟨h.par.ext hB,hH.keep h.m (Chg.of_ext (S:=λ_=>False) hB) (λ_ _ h=>h) (λ_ _ h=>h.elim) (λ_ h=>h.elim),h.dj⟩,λk hk=>.inl hk,Chg.of_ext hB,rfl⟩
theorem PH.drew (hH:HndOk H base fv) (h:PH H w base F p fv S s):PhT H base w F S F S p fv s w.drew:=h.ext hH ((Below.refl _ w).drew)
theorem PH.base_le (h:PH H w base F p fv S s):base<=w.heap.size:=le_trans h.par.hg.1 (Nat.le_of_lt h.par.blk.lt)
theorem PH.own (hH:HndOk H base fv) (h:PH H w base F p fv S s) (hp:ParsM w' base F' p' fv) (hc:Chg (JM F) w w') (ho:∀k,JM F' k->JM F k\/w.heap.size<=k) (e:F'.pg=F.pg):PhT H base w F S F' S p' fv s w':=by
 refine ⟨⟨hp,hH.keep h.m hc (λk hk hp=>h.dj k hp hk) h.par.far (λk hk=>(h.par.below k hk).1),λk hk hs=>?_⟩,λk hk=>?_,hc.mono λk _ hk=>.inl hk,e⟩
 ·rcases ho k hk with h1 | h1
  ·exact h.dj k h1 hs
  ·have:=(hH.lt h.m k hs).2;omega
 ·rcases hk with hk | hk
  ·rcases ho k hk with h1 | h1
   ·exact .inl (.inl h1)
   ·exact .inr h1
  ·exact .inl (.inr hk)
theorem PH.put (hH:HndOk H base fv) (h:PH H w base F p fv S s) (hb:Blk w' F.pg Z1 (q9w F' p' fv)) (hc:Chg (λk=>k=F.pg) w w') (e1:F'.pg=F.pg) (e2:F'.cg=F.cg)
  (qi:Go.Vc.Own qu w base F'.qi p'.inter) (qp:Go.Vc.Own jG w base F'.qp p'.params) (qd:Go.Vc.Own qu w base F'.qd p'.data) (bi:∀k,F'.qi.blk=some k->F.qi.blk=some k) (bp:∀k,F'.qp.blk=some k->F.qp.blk=some k) (bd:∀k,F'.qd.blk=some k->F.qd.blk=some k) (ok:PsOk p'):PhT H base w F S F' S p' fv s w':=by
 refine h.own hH (h.par.put hb hc e1 e2 qi qp qd (λk hk hk'=>h.par.ne k (bi k hk) (bd k hk')) ok) (hc.mono λk _ e=>.inl e) ?_ e1;rintro k (hk | hk | hk | hk | hk)
 ·exact .inl (.inl (hk.trans e1))
 ·exact .inl (.inr (.inl (hk.trans e2)))
 ·exact .inl (.inr (.inr (.inl (bi k hk))))
 ·exact .inl (.inr (.inr (.inr (.inl (bp k hk)))))
 ·exact .inl (.inr (.inr (.inr (.inr (bd k hk)))))
theorem PH.st (hH:HndOk H base fv) (h:PH H w base F p fv S s) {i:Nat} {v:Value} (p':PS) (hi:i<12) (he:(q9w F p fv).set i v=q9w F p' fv) (ei:p'.inter=p.inter) (ep:p'.params=p.params) (ed:p'.data=p.data) (ok:PsOk p') {K:Ub}
  (hK:∀w',PhT H base w F S F S p' fv s w'->K w'):stK ((⟨F.pg,0,none⟩:Addr).add i) [v] w K:=by
 rw [qH];refine qB h.par.blk (by show 0+i+1<=12;omega) λw1 hb hg hs=>hK w1 ?_;have e:putL (q9w F p fv) (0+i) [v]=q9w F p' fv:=by rw [Nat.zero_add,<-he];rfl
 rw [e] at hb;exact h.put hH hb (Go.Vc.Chg.gg hg) rfl rfl (by rw [ei];exact h.par.qi) (by rw [ep];exact h.par.qp) (by rw [ed];exact h.par.qd) (λ_ h=>h) (λ_ h=>h) (λ_ h=>h) ok
theorem qmm {a:Addr} {w:World} {K:Value->Prop} {x:Value} (h:w.cell? a=some x) (hK:K x):ldR a w K:=⟨x,h,hK⟩
theorem qjw (hH:HndOk H base fv) (h:PH H w base F p fv S s) {v:EvP} {q d:Slc} (hok:H.ok s v) (hv:EvW w S q d v) {K:Ub} (hK:∀S' s' w',PhT H base w F S F S' p fv s' w'->H.R s v s'->K w'):jm C fv [agE v q d] [] w K :=
 hH.call h.m hok hv λw' S' s' hm hr hc ho=>hK S' s' w' ⟨⟨h.par.chg hc (λk hk=>h.dj k hk),hm,λk hk hs=>(ho k hs).elim (h.dj k hk) λhle=>by have:=(h.par.below k hk).2;omega⟩,
  λk hk=>hk.elim (λhk=>.inl (.inl hk)) λhk=>(ho k hk).elim (λh1=>.inl (.inr h1)) .inr,hc.mono λk _ hk=>.inr hk,rfl⟩ hr
theorem znq {w:World} {S:Nat->Prop} {v:EvP} (e1:v.ps=[]) (e2:v.d=[]) (hb:0<=v.b/\v.b<=255) (hp:0<=v.pv/\v.pv<=255) (hi:v.i.length<=2):EvW w S ⟨none,0,0⟩ ⟨none,0,0⟩ v :=
 ⟨by rw [e1];exact Rd.nil _ _,(λa h=>by cases h),by rw [e2];exact Rd.nil _ _,(λa h=>by cases h),(by rw [e1];intro x hx;cases hx),by rw [e1];exact zero_le _,hb,hp,hi,by rw [e2];exact zero_le _⟩
theorem qqn (hH:HndOk H base fv) (h:PH H w base F p fv S s) (k r b:Int) (hb:0<=b/\b<=255) (hok:H.ok s ⟨k,r,b,0,[],[],[]⟩) {K:Ub} (hK:∀S' s' w',PhT H base w F S F S' p fv s' w'->H.R s ⟨k,r,b,0,[],[],[]⟩ s'->K w') :
  ldR ((⟨F.pg,0,none⟩:Addr).add 11) w λt=>jm C t [(.agg #[(Ua k),(.int .i32 r),(.int .u8 b),(.int .u8 0),(.string (⟨#[]⟩:ByteArray)),(.slice none 0 0),(.slice none 0 0)])] [] w K :=
 qmm (x:=fv) (h.par.blk.cells 11 _ rfl) (qjw hH h (v:=⟨k,r,b,0,[],[],[]⟩) (q:=⟨none,0,0⟩) (d:=⟨none,0,0⟩) hok (znq rfl rfl hb ⟨Int.le_refl 0,by show (0:Int)<=255;omega⟩ (zero_le _)) hK)
end
theorem qx5 {T:Type} {E:El T} {w:World} {base:Nat} {q:Slc} {xs:List T} (h:Go.Vc.Own E w base q xs):∃r:Slc,(⟨cut q.a 0 q.c E.k,0-0,q.c-0⟩:Slc)=r/\Go.Vc.Own E w base r []/\∀k,r.blk=some k->q.blk=some k:=by
 rcases h.form with ⟨rfl,rfl⟩ | ⟨g,cur,hs,hg,hb,h1,h2,h3,h4⟩
 ·exact ⟨⟨none,0,0⟩,rfl,Go.Vc.Own.nil _ _ _,λk hk=>hk⟩
 ·refine ⟨⟨some ⟨g,0,none⟩,0,q.c⟩,?_,Go.Vc.Own.of_blk (xs:=[]) hg hb (zero_le _) h2 h3 (by simp [Zi]),λk hk=>by rw [hs];exact hk⟩;rw [hs];unfold cut;dsimp only;split
  ·rfl
  ·show (⟨some ((⟨g,0,none⟩:Addr).add (0*E.k)),0,_⟩:Slc)=_;rw [qH];simp
theorem qvs {s:Slc} {xs:List Int} {w:World} {K:Slc->Ub} (h:Rd jG w s xs) (hl:xs.length<=100000) (hK:∀r w',Go.Vc.Own jG w' w.heap.size r xs->Uc w w'->K r w'):xO s w K:=by
 refine qbz _ ?_;cases ha:s.a with
 | none =>
  have:=h.none_nil ha;subst this;exact cT rfl (hK _ _ (Go.Vc.Own.nil _ _ _) (Below.refl _ _))
 | some a =>
  refine cF rfl ?_;refine nwb λw1 hb1 hB1 hs1=>?_;refine jz qew (YZ (E:=jG) hb1 (le_refl _)) (h.ext hB1) (by omega) (by rw [qmi];simp;omega) (by simp only [maxLen];simp;omega) λr w2 ho hg hq=>?_;rw [List.nil_append] at ho;exact hK r w2 ho (hB1.grown hg (by omega) λg hg=>by cases hg;exact le_refl _)
def zsc:qx:=⟨0,0,0,0,⟨none,0,0⟩,⟨none,0,0⟩,none,0,false,0,0⟩
def scA (s:qx):Value:=.agg #[(Ua s.Rows),(Ua s.Cols),(Ua s.CellW),(Ua s.CellH),(.slice s.Lines.a s.Lines.n s.Lines.c),(.slice s.Places.a s.Places.n s.Places.c),(.map s.Images),(Ua s.Top),(.bool s.Cursor),(Ua s.Row),(Ua s.Col)]
def scI (s:qx) (b:Bool):Value:=.agg #[(Ua s.Rows),(Ua s.Cols),(Ua s.CellW),(Ua s.CellH),(.slice s.Lines.a s.Lines.n s.Lines.c),(.slice s.Places.a s.Places.n s.Places.c),(.map s.Images),(Ua s.Top),(.bool s.Cursor),(Ua s.Row),(Ua s.Col),(.bool b)]
theorem qj2 {l:Value} {t:TypeId} {r:Rep} {x:r.T} {b:Bool} {w:World} {K:r.T->Bool->Ub} (hp:qgg PG (Instr.typeAssert l kh t true)=some (.tuple #[(Kind.struct r).enc x,Kind.bool.enc b])) (hK:K x b w) :
  qfb PG (Instr.typeAssert l kh t true) (Kind.struct r) Kind.bool w K:=⟨x,b,w,Jq _ hp w,hK⟩
section
variable {w w':World} {B base:Nat} {s:qx} {R C0 cw ch W H:Nat} {L:List (List Cel)} {m:qa} {P:List UInt8}
theorem zjl {K:ByteArray->Ub} (hK:∀s,K s w):va (.iface jK (scA s)) w K:=by
 refine QA _ ?_;refine qj2 (r:=zO.rep) (x:=⟨zsc,false⟩) (b:=false) (by kernel_rfl) (cF rfl ?_);refine qj2 (r:=qN.rep) (x:=⟨s⟩) (b:=true) (by kernel_rfl) ?_;exact qj2 (r:=qN.rep) (x:=⟨zsc⟩) (b:=false) (by kernel_rfl) (cT rfl (hK _))
theorem zc6 {b:Bool} {K:ByteArray->Ub} (hK:∀s,K s w):va (.iface xh (scI s b)) w K:=by
 refine QA _ ?_;exact qj2 (r:=zO.rep) (x:=⟨s,b⟩) (b:=true) (by kernel_rfl) (cT rfl (hK _))
theorem zjk {K:ByteArray->Ub} (hK:∀s,K s w):va (.iface jE (scA s)) w K:=by
 refine QA _ ?_;refine qj2 (r:=zO.rep) (x:=⟨zsc,false⟩) (b:=false) (by kernel_rfl) (cF rfl ?_);refine qj2 (r:=qN.rep) (x:=⟨zsc⟩) (b:=false) (by kernel_rfl) ?_;exact qj2 (r:=qN.rep) (x:=⟨s⟩) (b:=true) (by kernel_rfl) (cF rfl (cT rfl (hK _)))
theorem zku {K:ByteArray->Ub} (hK:∀s,K s w):va (.iface kJ (scA s)) w K:=by
 refine QA _ ?_;refine qj2 (r:=zO.rep) (x:=⟨zsc,false⟩) (b:=false) (by kernel_rfl) (cF rfl ?_);refine qj2 (r:=qN.rep) (x:=⟨zsc⟩) (b:=false) (by kernel_rfl) ?_;refine qj2 (r:=qN.rep) (x:=⟨zsc⟩) (b:=false) (by kernel_rfl) (cF rfl (cF rfl ?_));exact qj2 (r:=qN.rep) (x:=⟨s⟩) (b:=true) (by kernel_rfl) (cT rfl (hK _))
theorem zlv (w : World) : (method (PG.types.size + Made.depth) jK (scA s) "Paint").run PG w = .ok (594, scA s) w := Jq _ (by kernel_rfl) w
theorem zl4 (b : Bool) (w : World) : (method (PG.types.size + Made.depth) xh (scI s b) "Paint").run PG w = .ok (604, scI s b) w := Jq _ (by kernel_rfl) w
theorem zl9 (w : World) : (method (PG.types.size + Made.depth) jE (scA s) "Paint").run PG w = .ok (611, scA s) w := Jq _ (by kernel_rfl) w
theorem zmk (w : World) : (method (PG.types.size + Made.depth) kJ (scA s) "Paint").run PG w = .ok (615, scA s) w := Jq _ (by kernel_rfl) w
def mA (m:qa):Value:=.agg #[(Ua m.W),(Ua m.H),(.slice m.P.a m.P.n m.P.c)]
theorem zj5 {K : qa -> Ub} (h : yy ⟨s⟩ m w K) : qxe C (.iface jK (scA s)) "Paint" [mA m] [(Kind.struct qa.rep)] w K := ⟨_, _, _, _, rfl, zlv w, by kernel_rfl, h⟩
theorem zdf {b : Bool} {K : qa -> Ub} (h : x7 ⟨s, b⟩ m w K) : qxe C (.iface xh (scI s b)) "Paint" [mA m] [(Kind.struct qa.rep)] w K := ⟨_, _, _, _, rfl, zl4 b w, by kernel_rfl, h⟩
theorem zkj {K : qa -> Ub} (h : Qq ⟨s⟩ m w K) : qxe C (.iface jE (scA s)) "Paint" [mA m] [(Kind.struct qa.rep)] w K := ⟨_, _, _, _, rfl, zl9 w, by kernel_rfl, h⟩
theorem zj9 {K : qa -> Ub} (h : yQ ⟨s⟩ m w K) : qxe C (.iface kJ (scA s)) "Paint" [mA m] [(Kind.struct qa.rep)] w K := ⟨_, _, _, _, rfl, zmk w, by kernel_rfl, h⟩
end
section
variable {w w':World}
def qcp (x:Int):Prop:=0<=x/\x<=255
theorem zg0 {s d:Int} (hs:qcp s) (hd:qcp d):IntKind.u8.wrap (i64.wrap ((i64.wrap ((i64.wrap ((i64.wrap ((i64.wrap s)*(i64.wrap 255)))+(i64.wrap ((i64.wrap d)*(i64.wrap ((255:Int)-(i64.wrap 255)))))))+(127:Int))).tdiv (255:Int)))=s:=by
 obtain ⟨h1,h2⟩:=hs;obtain ⟨h3,h4⟩:=hd;have e0:i64.wrap ((255:Int)-(i64.wrap 255))=0:=by decide
 have e1:i64.wrap (255:Int)=255:=by decide
 rw [e0,e1,qQ (x:=s) (by omega),qQ (x:=d) (by omega),Int.mul_zero,qQ (x:=s*255) (by omega),qQ (x:=(0:Int)) (by omega),Int.add_zero,qQ (x:=s*255) (by omega),qQ (x:=s*255+127) (by omega)];have e2:(s*255+127).tdiv 255=s:=by
  rw [Int.tdiv_eq_ediv_of_nonneg (by omega)];omega
 rw [e2,qQ (by omega)];exact IntWalk.u8_in _ (by omega)
def zjz (s:qh):Nat->List Value
 | 0=>[(.int .u8 0),(.int .u8 0),(.int .u8 0),(.int .u8 255)]
 | 1=>[(.int .u8 s.e0),(.int .u8 0),(.int .u8 0),(.int .u8 255)]
 | 2=>[(.int .u8 s.e0),(.int .u8 s.e1),(.int .u8 0),(.int .u8 255)]
 | _=>[(.int .u8 s.e0),(.int .u8 s.e1),(.int .u8 s.e2),(.int .u8 255)]
theorem zhp (s:qh):∀k,(zjz s k).length=4
 | 0=>rfl
 | 1=>rfl
 | 2=>rfl
 | _+3=>rfl
theorem zek {d s:qh} (hd:qcp d.e0/\qcp d.e1/\qcp d.e2) (hs:qcp s.e0/\qcp s.e1/\qcp s.e2) (h3:s.e3=255) {K:qh->Ub} (hK:∀w',Uc w w'->K ⟨s.e0,s.e1,s.e2,255⟩ w'):yb d s w K:=by
 refine qvt _ _ ?_;refine nwb λw1 b1 B1 s1=>nwb λw2 b2 B2 s2=>nwb λw3 b3 B3 s3=>nwb λw4 b4 B4 s4=>?_;have BB:=bT (bT B1 B2) (bT B3 B4);have z1:=B1.size;have z2:=B2.size;have z3:=B3.size;refine jH b4 rfl λw5 b5 c5 s5=>?_;have k1:∀{wx},Chg (λk=>k=w3.heap.size) w4 wx->Blk wx w.heap.size qJ (qh.rep.cells d)/\Blk wx w1.heap.size qJ (qh.rep.cells s)/\Blk wx w2.heap.size qJ [(.int .u8 0),(.int .u8 0),(.int .u8 0),(.int .u8 0)]:=λhc=>⟨(((b1.ext B2).ext B3).ext B4).chg hc (by omega),((b2.ext B3).ext B4).chg hc (by omega),(b3.ext B4).chg hc (by omega)⟩;obtain ⟨q1,q2,q3⟩:=k1 c5;refine ⟨⟨by decide,by decide⟩,lI (x:=255) (by rw [<-h3];exact q2.cells 3 _ rfl) ?_⟩;refine lpR (λ(st:Int×Unit) w6=>∃k:Nat,st.1=(k:Int)/\k<=3/\Blk w6 w3.heap.size qJ (zjz s k)/\Chg (λk=>k=w3.heap.size) w4 w6) (λst=>3-st.1.toNat) ⟨0,rfl,by omega,b5,c5⟩ ?_;rintro ⟨i,u⟩ w6 ⟨k,hi,hk,b6,c6⟩ I hI;dsimp only at hi ⊢;subst hi;obtain ⟨q1,q2,q3⟩:=k1 c6;refine cO (λe=>?_) λe=>?_
 ·have e:=oTq e;have ekn:i64.wrap ((k:Int)+1)=((k+1:Nat):Int):=by rw [qQ (by omega)];omega
  have rd:∀{x y:Int} {wx},qcp x->qcp y->(qh.rep.cells s)[k]?=some (.int .u8 x)->(qh.rep.cells d)[k]?=some (.int .u8 y)->zjz s (k+1)=putL (zjz s k) k [.int .u8 x]->wx=w6.drew ->
    ixA (⟨w1.heap.size,0,none⟩:Addr) 4 (k:Int) 1 λt17=>ldI .u8 t17 wx λt18=>ixA (⟨w.heap.size,0,none⟩:Addr) 4 (k:Int) 1 λt23=>ldI .u8 t23 wx λt24=>(255:Int)≠0/\ixA (⟨w3.heap.size,0,none⟩:Addr) 4 (k:Int) 1 λt33=>
    stK t33 [(.int .u8 (IntKind.u8.wrap (i64.wrap ((i64.wrap ((i64.wrap ((i64.wrap ((i64.wrap t18)*(i64.wrap 255)))+(i64.wrap ((i64.wrap t24)*(i64.wrap ((255:Int)-(i64.wrap 255)))))))+(127:Int))).tdiv (255:Int)))))] wx λw7=>
    I ((i64.wrap ((k:Int)+(1:Int))),()) w7:=by
   rintro x y wx hx hy hcs hcd hout rfl;refine ⟨⟨by omega,by omega⟩,lI (x:=x) (by rw [toNat_natCast,mul_one];exact q2.drew.cells k _ hcs) ⟨⟨by omega,by omega⟩,lI (x:=y) (by rw [toNat_natCast,mul_one];exact q1.drew.cells k _ hcd) ⟨by decide,⟨by omega,by omega⟩,?_⟩⟩⟩;rw [zg0 hx hy,toNat_natCast,mul_one,qH];refine qB b6.drew (by rw [zhp,List.length_singleton];omega) λw7 b7 g7 s7=>?_;rw [Nat.zero_add,<-hout] at b7;rw [ekn];exact hI _ _ ⟨k+1,rfl,by omega,b7,(c6.trans (Chg.of_ext (S:=λk=>k=w3.heap.size) (bdw w6)) λ_ _ h=>h).trans (Go.Vc.Chg.gg g7) λ_ _ h=>h⟩ (by show 3-((k+1:Nat):Int).toNat<3-((k:Nat):Int).toNat;omega)
  have hk3:k=0\/k=1\/k=2:=by omega
  rcases hk3 with rfl | rfl | rfl
  ·exact rd hs.1 hd.1 rfl rfl rfl rfl
  ·exact rd hs.2.1 hd.2.1 rfl rfl rfl rfl
  ·exact rd hs.2.2 hd.2.2 rfl rfl rfl rfl
 ·have e:=oFq e;obtain rfl:k=3:=by omega
  refine qy (r:=qh.rep) (x:=⟨s.e0,s.e1,s.e2,255⟩) b6.cells ?_;refine zn (r:=qh.rep) (x:=⟨s.e0,s.e1,s.e2,255⟩) q3 rfl rfl λw7 c7 s7=>hK w7 ?_;have B6:Uc w w6:=b1o BB c6 (by omega);exact b1o B6 c7 (by omega)
theorem qwx {a n side:Int} (ha:0<=a) (hn:1<=n) (hs:a+n<=side) (hb:side<=1000000) {K:Int->Int->Ub} (hK:K a (a+n) w):QE a n side w K:=by
 refine qvx _ _ _ ?_;refine jpO λJ1 hJ1=>cF (dFq (by omega)) (cF (dFq (by omega)) (hJ1 _ _ ?_));have e1:(if (1048576:Int)<n then (1048576:Int) else n)=n:=if_neg (by omega);have e2:(if (0:Int)>a then (0:Int) else a)=a:=if_neg (by omega);rw [e1,e2];refine jpO λJ2 hJ2=>cF (dFq (by omega)) ?_;rw [qQ (x:=side-a) (by omega),qQ (x:=a+n) (by omega)];refine cO (λe=>hJ2 _ _ hK) λe=>?_;have e:=oFq e;have:side=a+n:=by omega
 rw [this];exact hJ2 _ _ hK
def ZW (P:List UInt8) (o:Nat):qh:=⟨((P.getD o 0).toNat:Int),((P.getD (o+1) 0).toNat:Int),((P.getD (o+2) 0).toNat:Int),((P.getD (o+3) 0).toNat:Int)⟩
theorem q23 {m:qa} {P:List UInt8} {W x y:Nat} (hP:Rd qu w m.P P) (hsp:∀a,m.P.a=some a->a.spot=none) (hW:m.W=W) (hin:4*(y*W+x)+4<=P.length) (hl:P.length<=1000000000) {K:qh->Ub} (hK:∀w',Uc w w'->K (ZW P (4*(y*W+x))) w'):ye m (x:Int) (y:Int) w K:=by
 refine q1i _ _ _ ?_;refine nwb λw1 b1 B1 s1=>nwb λw2 b2 B2 s2=>?_;have b12:=b1.ext B2;have BB:=bT B1 B2;have z1:=B1.size;refine lSl (x:=m.P) (b12.cells 2 _ rfl) (lI (x:=(W:Int)) (by rw [<-hW];exact b12.cells 0 _ rfl) ?_);have eidx:i64.wrap ((4:Int)*(i64.wrap ((i64.wrap ((y:Int)*(W:Int)))+(x:Int))))=((4*(y*W+x):Nat):Int):=by
  have e1:(y:Int)*(W:Int)=((y*W:Nat):Int):=by simp
  rw [e1];generalize y*W=q at hin ⊢;rw [qQ (x:=((q:Nat):Int)) (by omega),qQ (x:=((q:Nat):Int)+(x:Int)) (by omega),qQ (by omega)];omega
 rw [eidx];obtain ⟨o,ho⟩:∃o,o=4*(y*W+x):=⟨_,rfl⟩;rw [<-ho] at hin hK ⊢;have hr2:=hP.ext BB;refine hr2.slK (l:=o) (m:=P.length) rfl (.inr rfl) (.inl ⟨rfl,rfl⟩) (by omega) (le_refl _) λhr3=>?_;rw [List.take_length] at hr3;have hlen:(P.drop o).length=P.length-o:=List.length_drop;obtain ⟨a,ha⟩:=Option.isSome_iff_exists.1 (hr3.some_ (by omega));have ha':cut m.P.a o m.P.c qu.k=some a:=ha;rw [ha'];simp only [onPtr_some];refine ⟨by show 4<=P.length-o;omega,?_⟩;have hc:q6 w2 a (qh.rep.cells (ZW P o)):=by
  intro j v hv;have hj:j<4:=(List.getElem?_eq_some_iff.1 hv).1;have hx:(P.drop o)[j]?=some (P.getD (o+j) 0):=by
   rw [List.getElem?_drop,List.getD_eq_getElem?_getD,List.getElem?_eq_getElem (by omega)];rfl
  have h4:=hr3.at_ j _ hx 0 (.int .u8 ((P.getD (o+j) 0).toNat:Int)) rfl;have e1:((⟨cut m.P.a o m.P.c qu.k,P.length-o,m.P.c-o⟩:Slc).at_ qu.k j).add 0=a.add j:=by
   rw [add_zero];unfold Slc.at_;rw [ha'];show a.add (j*1)=a.add j;rw [mul_one]
  rw [e1] at h4;rw [h4];have hj4:j=0\/j=1\/j=2\/j=3:=by omega
  rcases hj4 with rfl | rfl | rfl | rfl<;>exact hv
 refine qy (r:=qh.rep) (x:=ZW P o) hc ?_;exact zn (r:=qh.rep) (x:=ZW P o) b2 rfl rfl λw3 c3 s3=>hK w3 (b1o BB c3 (by omega))
theorem qgd {m:qa} {P:List UInt8} {W H:Nat} (hP:m.P.n=P.length) (hW:m.W=W) (hH:m.H=H) (hlen:P.length=4*W*H) (h1:1<=W/\W<=1000) (h2:1<=H/\H<=1000) {K:Bool->Ub} (hK:∀w',Uc w w'->K true w'):vh m w K:=by
 refine qe3 _ ?_;refine nwb λw1 b1 B1 s1=>lI (x:=(W:Int)) (by rw [<-hW];exact b1.cells 0 _ rfl) (lI (x:=(H:Int)) (by rw [<-hH];exact b1.cells 1 _ rfl) ?_);refine VJ _ _ ?_;have hm:W*H<=1000*1000:=Nat.mul_le_mul h1.2 h2.2;have e1:(W:Int)*(H:Int)=((W*H:Nat):Int):=by simp
 rw [e1,qQ (x:=((W*H:Nat):Int)) (by omega),dTq (p:=((W*H:Nat):Int)<=67108864) (by omega)];refine cF (by simp;omega) (cT (dTq (by omega)) (cT (dTq (by omega)) (cT (dTq (by omega)) (cT (dTq (by omega)) (cT rfl ?_)))));refine lSl (x:=m.P) (b1.cells 2 _ rfl) (lI (x:=(W:Int)) (by rw [<-hW];exact b1.cells 0 _ rfl) (lI (x:=(H:Int)) (by rw [<-hH];exact b1.cells 1 _ rfl) ?_));have e2:i64.wrap ((i64.wrap ((4:Int)*(W:Int)))*(H:Int))=((4*W*H:Nat):Int):=by
  rw [qQ (x:=(4:Int)*(W:Int)) (by omega)];have e3:(4:Int)*(W:Int)*(H:Int)=((4*W*H:Nat):Int):=by simp
  rw [e3,qQ (by rw [Nat.mul_assoc];omega)]
 rw [e2,hP,hlen];rw [beq_self_eq_true];exact hK w1 B1
end
abbrev Pl:=qf
def wi (x:Int):Int:=i64.wrap x
def zol (a b:Pl):Bool:=(a.Image==b.Image) && ((a.Id==b.Id) && ((a.Alt==b.Alt) && ((a.Line==b.Line) && ((a.Col==b.Col) && ((a.Rows==b.Rows) && ((a.Cols==b.Cols) && ((a.X==b.X) && ((a.Y==b.Y) && ((a.W==b.W) && ((a.H==b.H) && ((a.DX==b.DX) && ((a.DY==b.DY) && ((a.Z==b.Z) && true)))))))))))))
def q9h (p:Pl) (line rows from_ past:Int):Bool:=decide (rows>0) && (decide (past>from_) && (decide (wi (p.Line+p.Rows)>line) && (decide (wi (p.Line-line)<rows) && (decide (p.Col<past) && decide (wi (p.Col+p.Cols)>from_)))))
def btw (v lo hi:Int):Bool:=decide (v>=lo) && decide (v<=hi)
def q21 (p:Pl):Bool:=decide (p.Image>=0) && (btw p.Id 0 4294967295 && (decide (p.Line>=0) && (decide (p.Line<=1125899906842624) && (btw p.Col 0 1000 && (btw p.Rows 1 1048576 && (btw p.Cols 1 1048576 && (decide (p.X>=0) && (decide (p.Y>=0) && (btw p.W 1 16384 && (btw p.H 1 16384 && (btw p.DX 0 64 && (btw p.DY 0 64 && btw p.Z (-1073741824) 1073741824))))))))))))
structure PlTM (w:World) (base g:Nat) (q:Slc) (T:List Pl):Prop where
 blk:Blk w g jp [.slice q.a q.n q.c]
 hg:base<=g
 own:Go.Vc.Own qS w base q T
def plS (g:Nat) (q:Slc) (k:Nat):Prop:=k=g\/q.blk=some k
section
variable {w w':World} {base g:Nat} {q:Slc} {T:List Pl}
theorem PlTM.ext (h:PlTM w base g q T) (hb:Uc w w'):PlTM w' base g q T:=⟨h.blk.ext hb,h.hg,h.own.ext hb⟩
theorem PlTM.drew (h:PlTM w base g q T):PlTM w.drew base g q T:=⟨h.blk,h.hg,h.own⟩
theorem PlTM.chg {S:Nat->Prop} (h:PlTM w base g q T) (hc:Chg S w w') (hS:∀k,plS g q k->¬S k):PlTM w' base g q T:=⟨h.blk.chg hc (hS _ (.inl rfl)),h.hg,h.own.chg hc λk hk=>hS _ (.inr hk)⟩
theorem PlTM.lt (h:PlTM w base g q T):∀k,plS g q k->base<=k/\k<w.heap.size:=by
 rintro k (rfl | hk)
 ·exact ⟨h.hg,h.blk.lt⟩
 ·exact h.own.lt k hk
theorem PlTM.ne (h:PlTM w base g q T):∀k,q.blk=some k->k≠g:=qF h.own h.blk (by decide)
theorem jW {v lo hi:Int} {K:Bool->Ub} (hK:K (btw v lo hi) w):zY v lo hi w K:=by
 refine qp3 _ _ _ ?_;unfold btw at hK;refine cO (λe=>?_) λe=>?_
 ·rw [e,Bool.true_and] at hK;exact hK
 ·rw [e,Bool.false_and] at hK;exact hK
theorem jI {a b:Bool} {K:Bool->Ub} {X:Prop} (hK:K (a && b) w) (h:K b w->X):cond a X (K false w):=by
 cases a
 ·exact hK
 ·exact h hK
theorem zbu {p:Pl} {K:Bool->Ub} (hK:∀w',Uc w w'->K (q21 p) w'):qj7 p w K:=by
 refine qzp _ ?_;refine nwb λw1 hb hB1 hs1=>?_;have hK:=hK w1 hB1;unfold q21 at hK;refine lI (x:=p.Image) (hb.cells 0 _ rfl) (jI hK λhK=>?_);refine lI (x:=p.Id) (hb.cells 1 _ rfl) (jW (jI hK λhK=>?_));refine lI (x:=p.Line) (hb.cells 3 _ rfl) (jI hK λhK=>?_);refine lI (x:=p.Line) (hb.cells 3 _ rfl) (jI hK λhK=>?_);refine lI (x:=p.Col) (hb.cells 4 _ rfl) (jW (jI hK λhK=>?_));refine lI (x:=p.Rows) (hb.cells 5 _ rfl) (jW (jI hK λhK=>?_));refine lI (x:=p.Cols) (hb.cells 6 _ rfl) (jW (jI hK λhK=>?_));refine lI (x:=p.X) (hb.cells 7 _ rfl) (jI hK λhK=>?_);refine lI (x:=p.Y) (hb.cells 8 _ rfl) (jI hK λhK=>?_);refine lI (x:=p.W) (hb.cells 9 _ rfl) (jW (jI hK λhK=>?_));refine lI (x:=p.H) (hb.cells 10 _ rfl) (jW (jI hK λhK=>?_));refine lI (x:=p.DX) (hb.cells 11 _ rfl) (jW (jI hK λhK=>?_));refine lI (x:=p.DY) (hb.cells 12 _ rfl) (jW (jI hK λhK=>?_));exact lI (x:=p.Z) (hb.cells 13 _ rfl) (jW hK)
theorem zbn {p:Pl} {line rows from_ past:Int} {K:Bool->Ub} (hK:∀w',Uc w w'->K (q9h p line rows from_ past) w'):QQ p line rows from_ past w K:=by
 refine qg0 _ _ _ _ _ ?_;refine nwb λw1 hb hB1 hs1=>?_;have hK:=hK w1 hB1;unfold q9h at hK;refine jI hK λhK=>jI hK λhK=>?_;refine lI (x:=p.Line) (hb.cells 3 _ rfl) (lI (x:=p.Rows) (hb.cells 5 _ rfl) (jI hK λhK=>?_));refine lI (x:=p.Line) (hb.cells 3 _ rfl) (jI hK λhK=>?_);refine lI (x:=p.Col) (hb.cells 4 _ rfl) (jI hK λhK=>?_);exact lI (x:=p.Col) (hb.cells 4 _ rfl) (lI (x:=p.Cols) (hb.cells 6 _ rfl) hK)
end
theorem zv {w w1 w2:World} (h1:Uc w w1) (h2:Uc w1 w2):Uc w w2:=h1.trans (h2.mono h1.size)
theorem vG {w w1 w2 w3:World} (h1:Uc w w1) (h2:Uc w1 w2) (h3:Uc w2 w3):Uc w w3:=zv (zv h1 h2) h3
section
variable {w w':World} {base g:Nat} {q:Slc} {T:List Pl}
def qyt (w:World) (G:Value) (f:Pl->Bool):Prop:=∀(w1:World) (p:Pl) (K:Bool->Ub),Uc w w1->(∀w2,Uc w1 w2->K (f p) w2)->jm C G [.agg (qf.rep.cells p).toArray] [Kind.bool] w1 K
theorem qk3 {G:Value} {f:Pl->Bool} (h:PlTM w base g q T) (hl:T.length<=100000) (hbase:base<=w.heap.size) (hG:qyt w G f) {K:Slc->Ub}
  (hK:∀r q' w',Go.Vc.Own qS w' w.heap.size r (T.filter f)->PlTM w' base g q' (T.filter λp=>!f p)->(∀k,q'.blk=some k->w.heap.size<=k)->(∀k,r.blk=some k->q'.blk≠some k)->Chg (λk=>k=g) w w'->K r w') :
  kw (some ⟨g,0,none⟩) G w K:=by
 refine qi3 _ _ ?_;simp only [onPtr_some];refine lSl (x:=q) (h.blk.cells 0 _ rfl) ?_;have hn:q.n=T.length:=h.own.rd.n;refine lpR (λ(st:Slc×Slc×Int×Unit) w1=>∃k:Nat,st.2.2.1=(k:Int)/\k<=T.length/\Go.Vc.Own qS w1 w.heap.size st.1 ((T.take k).filter f)/\Go.Vc.Own qS w1 w.heap.size st.2.1 ((T.take k).filter λp=>!f p) /\
   (∀k,st.1.blk=some k->st.2.1.blk≠some k)/\Uc w w1) (λst=>T.length-st.2.2.1.toNat) ⟨0,rfl,zero_le _,Own.nil _ _ _,Own.nil _ _ _,(λk hk=>by cases hk),Below.refl _ _⟩ ?_
 rintro ⟨r,l,i,u⟩ w1 ⟨k,hi,hk,hr,hle,hne,hB⟩ I hI;dsimp only at hi hr hle hne ⊢;subst hi;have h1:=h.ext hB;refine cO (λe=>?_) λe=>?_
 ·have e:=oTq e;have hlt:k<T.length:=by omega
  obtain ⟨p,hp⟩:∃p,T[k]?=some p:=⟨_,List.getElem?_eq_getElem hlt⟩;refine h1.own.rd.ix (E:=qS) (i:=(k:Int)) rfl (by omega) (by omega) λhx=>?_;have hx:q6 w1 (q.at_ qS.k (k:Int).toNat) (qf.rep.cells p):=by
   simp only [toNat_natCast] at hx ⊢;have e1:T[k]'hlt=p:=(List.getElem?_eq_some_iff.1 hp).2;rw [e1] at hx;exact hx
  refine qy (r:=qf.rep) (x:=p) hx ?_;refine jd (vs:=qf.rep.cells p) rfl λw3 hb3 hB3 hs3=>?_;refine qy (r:=qf.rep) (x:=p) hb3.cells ?_;have B3:=zv hB hB3;refine hG w3 p _ B3 λw4 hB4=>?_;have B4:=zv B3 hB4;have hr4:=(hr.ext hB3).ext hB4;have hl4:=(hle.ext hB3).ext hB4;have hb4:=hb3.ext hB4;have z4:=B4.size;have tk:T.take (k+1)=T.take k++[p]:=by rw [List.take_add_one,hp];rfl
  have lf:∀g:Pl->Bool,((T.take k).filter g).length<=k:=λg=>le_trans (List.length_filter_le _ _) (by simp;omega);have by112:j6.i.bytes=112:=yK;refine cO (λhf=>?_) λhf=>?_
  ·refine qy (r:=qf.rep) (x:=p) hb4.cells ?_;have:=lf f;refine qa5 (E:=qS) j6 hr4 (y:=p) rfl z4 (by rw [by112];omega) (by unfold maxLen;omega) λr' w5 ho5 hc5 hrb=>?_;have hl5:=hl4.chg hc5 λk hk e=>hne k e hk;rw [qQ (x:=(k:Int)+1) (by omega)];refine hI _ _ ⟨k+1,by simp,by omega,?_,?_,λk hk=>?_,?_⟩ (by dsimp only;omega)
   ·rw [tk,List.filter_append,show [p].filter f=[p] by simp [hf]];exact ho5
   ·rw [tk,List.filter_append,show [p].filter (λp=>!f p)=[] by simp [hf],List.append_nil];exact hl5
   ·rcases hrb k hk with h | h
    ·exact hne k h
    ·intro e;have:=(hl4.lt k e).2;omega
   ·exact B4.trans (hc5.below (by omega) λi hi e=>by have:=(hr4.lt i e).1;omega)
  ·refine qy (r:=qf.rep) (x:=p) hb4.cells ?_;have:=lf λp=>!f p;refine qa5 (E:=qS) j6 hl4 (y:=p) rfl z4 (le_trans (Nat.mul_le_mul_right _ (Nat.succ_le_succ (lf _))) (by rw [by112];omega)) (le_trans (Nat.succ_le_succ (lf _)) (by unfold maxLen;omega)) λr' w5 ho5 hc5 hrb=>?_;have hr5:=hr4.chg hc5 λk hk e=>hne k hk e;rw [qQ (x:=(k:Int)+1) (by omega)];refine hI _ _ ⟨k+1,by simp,by omega,?_,?_,λk hk e=>?_,?_⟩ (by dsimp only;omega)
   ·rw [tk,List.filter_append,show [p].filter f=[] by simp [hf],List.append_nil];exact hr5
   ·rw [tk,List.filter_append,show [p].filter (λp=>!f p)=[p] by simp [hf]];exact ho5
   ·rcases hrb k e with h | h
    ·exact hne k hk h
    ·have:=(hr4.lt k hk).2;omega
   ·exact B4.trans (hc5.below (by omega) λi hi e=>by have:=(hl4.lt i e).1;omega)
 ·have e:=oFq e;have hkT:k=T.length:=by omega
  subst hkT;rw [List.take_length] at hr hle;rw [show (⟨g,0,none⟩:Addr).add 0=⟨g,0,none⟩ from rfl];refine qB h1.blk (by simp) λw2 hb2 hg2 hs2=>?_;have hc2:Chg (λi=>i=g) w1 w2:=Chg.of_grown hg2 λk hk=>by cases hk;rfl
  have hgl:=h.blk.lt;have nr:∀k,r.blk=some k->¬k=g:=λk hk e=>by have:=(hr.lt k hk).1;omega
  have nl:∀k,l.blk=some k->¬k=g:=λk hk e=>by have:=(hle.lt k hk).1;omega
  exact hK r l w2 (hr.chg hc2 nr) ⟨hb2,h.hg,(hle.chg hc2 nl).base hbase⟩ (λk hk=>(hle.lt k hk).1) hne ((Chg.of_ext (S:=λk=>k=g) hB).trans hc2 λi _ hi=>hi)
end
theorem Q8 {k:Nat} {first caps:Array Value} {args:List Value} {ks:List Kind} {w:World} {K:Go.Vc.Cur ks} (hp:C.plain k=true) (h:qj C.P k (first.toList++args++caps.toList) ks w K):jm C (.func (.func k) first caps) args ks w K:=by
 unfold jm qmj;simp only [hp];exact h
section
variable {w w':World} {base g:Nat} {q:Slc} {T:List Pl}
theorem zd9 {b:Nat} {x:Int} (hb:Blk w b zz [.int .i64 x]):qyt w (.func (.func XO) #[] #[.pointer (some ⟨b,0,none⟩)]) (λp=>p.Image==x):=by
 intro w1 p K hB hK;have h:VF p ⟨b,0,none⟩ w1 K:=by
  refine qf1 _ _ ?_;refine nwb λw2 hp hB2 hs2=>?_;refine lI (x:=p.Image) (hp.cells 0 _ rfl) (lI (x:=x) ?_ (hK w2 hB2));simpa using ((hb.ext hB).ext hB2).cells 0 _ rfl
 refine Q8 (by kernel_rfl) (Calls.mono h ?_);rintro e w' ⟨r,rfl,hk⟩;exact ⟨r,rfl,hk⟩
theorem zgq {b:Nat} {x:Int} (hb:Blk w b zz [.int .i64 x]):qyt w (.func (.func KV) #[] #[.pointer (some ⟨b,0,none⟩)]) (λp=>p.Image==x):=by
 intro w1 p K hB hK;have h:Y3 p ⟨b,0,none⟩ w1 K:=by
  refine qhi _ _ ?_;refine nwb λw2 hp hB2 hs2=>?_;refine lI (x:=p.Image) (hp.cells 0 _ rfl) (lI (x:=x) ?_ (hK w2 hB2));simpa using ((hb.ext hB).ext hB2).cells 0 _ rfl
 refine Q8 (by kernel_rfl) (Calls.mono h ?_);rintro e w' ⟨r,rfl,hk⟩;exact ⟨r,rfl,hk⟩
def q2b (alt:Bool) (first:Int) (p:Pl):Bool:=(p.Alt==alt) && decide (wi (p.Line+p.Rows)<=first)
theorem q9z {b b2:Nat} {alt:Bool} {first:Int} (hb:Blk w b qce [.bool alt]) (hb2:Blk w b2 q61 [.int .i64 first]):qyt w (.func (.func JI) #[] #[.pointer (some ⟨b,0,none⟩),.pointer (some ⟨b2,0,none⟩)]) (q2b alt first):=by
 intro w1 p K hB hK;have h:XH p ⟨b,0,none⟩ ⟨b2,0,none⟩ w1 K:=by
  refine qd6 _ _ _ ?_;refine nwb λw2 hp hB2 hs2=>?_;refine jw (x:=p.Alt) (hp.cells 2 _ rfl) (jw (x:=alt) (by simpa using ((hb.ext hB).ext hB2).cells 0 _ rfl) ?_);have hk:=hK w2 hB2;unfold q2b at hk;refine jI hk λhk=>?_;exact lI (x:=p.Line) (hp.cells 3 _ rfl) (lI (x:=p.Rows) (hp.cells 5 _ rfl) (lI (x:=first) (by simpa using ((hb2.ext hB).ext hB2).cells 0 _ rfl) hk))
 refine Q8 (by kernel_rfl) (Calls.mono h ?_);rintro e w' ⟨r,rfl,hk⟩;exact ⟨r,rfl,hk⟩
def qqw (p o:Pl):Bool:=(p.Id !=0) && zol { p with Image:=o.Image,Id:=o.Id } p
theorem zja {b:Nat} {p:Pl} (hb:Blk w b qL (qf.rep.cells p)):qyt w (.func (.func V3) #[] #[.pointer (some ⟨b,0,none⟩)]) (qqw p):=by
 intro w1 o K hB hK;have h:VV o ⟨b,0,none⟩ w1 K:=by
  refine qge _ _ ?_;refine nwb λw2 ho hB2 hs2=>?_;have hb2:=(hb.ext hB).ext hB2;refine qy (r:=qf.rep) (x:=p) hb2.cells ?_;refine jd (vs:=qf.rep.cells p) rfl λw3 hl3 hB3 hs3=>?_;have ho3:=(ho.ext hB3).drew;have hl3d:=hl3.drew;refine lI (x:=o.Image) (ho3.cells 0 _ rfl) (lI (x:=o.Id) (ho3.cells 1 _ rfl) ?_);show stK ⟨w2.heap.size,0,none⟩ _ _ _;refine qB hl3d (by show (0+1:Nat)<=14;omega) λw4 hl4 hg4 hs4=>?_;have hc4:Chg (λi=>i=w2.heap.size) w3.drew w4:=Chg.of_grown hg4 λk hk=>by cases hk;rfl
  have nlo:∀{k:Nat},k<w2.heap.size->¬k=w2.heap.size:=λh e=>by omega
  have ho4:=ho3.chg hc4 (nlo ho.lt);have hb3:=(hb2.ext hB3).drew;have hb4:=hb3.chg hc4 (nlo hb2.lt);refine ⟨ho4.cells 1 _ rfl,?_⟩;show stK ⟨w2.heap.size,1,none⟩ _ _ _;have hl4':Blk w4 w2.heap.size qL (qf.rep.cells { p with Image:=o.Image }):=hl4;refine qB hl4' (by show (1+1:Nat)<=14;omega) λw5 hl5 hg5 hs5=>?_;have hc5:Chg (λi=>i=w2.heap.size) w4 w5:=Chg.of_grown hg5 λk hk=>by cases hk;rfl
  have hb5:=hb4.chg hc5 (nlo hb2.lt);have hl5':Blk w5 w2.heap.size qL (qf.rep.cells { p with Image:=o.Image,Id:=o.Id }):=hl5;have z2:w1.heap.size<=w2.heap.size:=hB2.size;have B5:Uc w1 w5:=((zv hB2 hB3).drew.trans (hc4.below (by show w1.heap.size<=w3.heap.size;omega) λi hi e=>by omega)).trans (hc5.below (by rw [hs4];show w1.heap.size<=w3.heap.size;omega) λi hi e=>by omega);have hk:=hK w5 B5;unfold qqw at hk;refine lI (x:=p.Id) (by have:=hb5.cells 1 _ rfl;simpa using this) (jI hk λhk=>?_);exact qy (r:=qf.rep) (x:={ p with Image:=o.Image,Id:=o.Id }) hl5'.cells (qy (r:=qf.rep) (x:=p) hb5.cells hk)
 refine Q8 (by kernel_rfl) (Calls.mono h ?_);rintro e w' ⟨r,rfl,hk⟩;exact ⟨r,rfl,hk⟩
theorem vL (w:World):Uc w w.drew:=(Below.refl _ w).drew
theorem qrl {s:Slc} (hs:Rd qS w s T) (hl:T.length<=100000) {K:Slc->Ub} (hK:∀r w',Go.Vc.Own qS w' w.heap.size r T->Uc w w'->K r w'):zM s w K:=by
 refine ym _ ?_;cases ha:s.a with
 | none =>
  refine cT rfl ?_;have hT:T=[]:=by
   cases T with
   | nil=>rfl
   | cons p r =>
    have:=hs.some_ (by simp);rw [ha] at this;cases this
  rw [hT] at hK;exact hK _ w (Own.nil _ _ _) (Below.refl _ _)
 | some a =>
  refine cF rfl (nwb λw1 hb hB hs1=>?_);have hz:=hB.size;refine jz j6 (YZ (E:=qS) hb (le_refl _)) (hs.ext hB) hz (by rw [yK];simp;omega) (by simp;unfold maxLen;omega) λr w2 ho hg hr=>?_;exact hK r w2 (by simpa using ho) (hB.grown hg hz λk hk=>by cases hk;exact le_refl _)
theorem q8i (h:PlTM w base g q T) (hl:T.length<=100000) (hbase:base<=w.heap.size) (x:Int) {K:Int->Ub}
  (hK:∀n q' w',PlTM w' base g q' (T.filter λp=>!(p.Image==x))->(∀k,q'.blk=some k->w.heap.size<=k)->Chg (λk=>k=g) w w'->K n w'):Z9 (some ⟨g,0,none⟩) x w K:=by
 refine qja _ _ ?_;refine nwb λw1 hb hB1 hs1=>?_;refine qk3 (h.ext hB1) hl (le_trans hbase hB1.size) (zd9 hb) λr q' w2 hr ht hq hne hc=>?_;exact hK _ q' w2 ht (λk hk=>le_trans hB1.size (hq k hk)) ((Chg.of_ext (S:=λk=>k=g) hB1).trans hc λi _ hi=>hi)
theorem q3m (h:PlTM w base g q T) (hl:T.length<=100000) (hbase:base<=w.heap.size) (alt:Bool) (first:Int) {K:Slc->Ub}
  (hK:∀r q' w',Go.Vc.Own qS w' w.heap.size r (T.filter (q2b alt first))->PlTM w' base g q' (T.filter λp=>!q2b alt first p)->(∀k,q'.blk=some k->w.heap.size<=k)->(∀k,r.blk=some k->q'.blk≠some k)->Chg (λk=>k=g) w w'->K r w'):QT (some ⟨g,0,none⟩) alt first w K:=by
 refine qgi _ _ _ ?_;refine nwb λw1 hb hB1 hs1=>nwb λw2 hb2 hB2 hs2=>?_;have B2:=zv hB1 hB2;refine qk3 ((h.ext hB1).ext hB2) hl (le_trans hbase B2.size) (q9z (hb.ext hB2) hb2) λr q' w3 hr ht hq hne hc=>?_;exact hK r q' w3 (hr.base B2.size) ht (λk hk=>le_trans B2.size (hq k hk)) hne ((Chg.of_ext (S:=λk=>k=g) B2).trans hc λi _ hi=>hi)
theorem q9i (h:PlTM w base g q T) (hl:T.length<=99999) (hbase:base<=w.heap.size) (p:Pl) {K:Int->Ub}
  (hE:q21 p=false->∀w',Uc w w'->K 1 w')
  (hK:q21 p=true->∀q' w',PlTM w' base g q' ((T.filter λo=>!qqw p o)++[p])->(∀k,q'.blk=some k->w.heap.size<=k)->Chg (λk=>k=g) w w'->K 0 w'):Xe (some ⟨g,0,none⟩) p w K:=by
 refine qmc _ _ ?_;refine nwb λw1 hb1 hB1 hs1=>?_;refine qy (r:=qf.rep) (x:=p) hb1.cells (zbu λw2 hB2=>?_);have B2:=zv hB1 hB2;have hb2:=hb1.ext hB2;cases hm:q21 p
 ·exact cT rfl (hE hm _ B2)
 ·refine cF rfl ?_;have h2:=(h.ext hB1).ext hB2;have bg:g<w.heap.size:=h.blk.lt;refine qk3 h2 (by omega) (le_trans hbase B2.size) (zja hb2) λr q' w3 hr ht hq hne hc=>?_;simp only [onPtr_some];have htd:=ht.drew;have hb3:Blk w3.drew w.heap.size qL (qf.rep.cells p):=(hb2.chg hc λe=>by omega).drew;have hll:(T.filter λo=>!qqw p o).length<=T.length:=List.length_filter_le _ _;refine lSl (x:=q') (htd.blk.cells 0 _ rfl) (qy (r:=qf.rep) (x:=p) hb3.cells ?_);have z3:=hc.size;have z2:=B2.size;refine nwb λw4 hb4 hB4 hs4=>⟨(htd.blk.ext hB4).cells 0 _ rfl,?_⟩;refine jz j6 (htd.own.ext hB4) (Ze (E:=qS) (y:=p) hb4 rfl) (by show base<=w4.heap.size;have:=hB4.size;have e:w3.drew.heap.size=w3.heap.size:=rfl;omega) (by
    show ((T.filter λo=>!qqw p o).length+1)*j6.i.bytes<=_;rw [yK];omega) (by
    show (T.filter λo=>!qqw p o).length+1<=maxLen;unfold maxLen;omega) λr5 w5 ho5 hg5 hr5=>?_
  rw [show (⟨g,0,none⟩:Addr).add 0=⟨g,0,none⟩ from rfl];have hblk5:Blk w5 g jp [.slice q'.a q'.n q'.c]:=(htd.blk.ext hB4).grown hg5 λe=>(htd.ext hB4).ne g e.symm rfl;refine qB hblk5 (by simp) λw6 hb6 hg6 hs6=>?_;have hc6:Chg (λi=>i=g) w5 w6:=Chg.of_grown hg6 λk hk=>by cases hk;rfl
  have hrb:∀k,r5.blk=some k->w2.heap.size<=k:=by
   intro k hk;rcases hr5 with e | e
   ·rw [e] at hk;exact hq k hk
   ·rw [e] at hk;cases hk;have e:w3.drew.heap.size=w3.heap.size:=rfl;omega
  have ho6:=ho5.chg hc6 λk hk e=>by have:=hrb k hk;omega
  have hc5:Chg (λk=>k=g) w w5:=by
   refine (Chg.of_ext (S:=λk=>k=g) B2).trans ((hc.trans (Chg.of_ext (S:=λk=>k=g) (zv (vL w3) hB4)) λi _ hi=>hi).trans (Chg.of_grown (S:=λk=>q'.blk=some k) hg5 λk hk=>hk) ?_) λi _ hi=>hi;intro i hi e;have:=hq i e;omega
  exact hK hm r5 w6 ⟨hb6,h.hg,ho6⟩ (λk hk=>le_trans B2.size (hrb k hk)) (hc5.trans hc6 λi _ hi=>hi)
theorem zau (h:PlTM w base g q T) (hl:T.length<=100000) (x:Int) {K:Bool->Ub} (hK:∀w',Uc w w'->K (T.any λp=>p.Image==x) w'):JH (some ⟨g,0,none⟩) x w K:=by
 refine qln _ _ ?_;refine nwb λw1 hb hB1 hs1=>?_;simp only [onPtr_some];have h1:=h.ext hB1;refine lSl (x:=q) (h1.blk.cells 0 _ rfl) ?_;refine kH _ _ ?_;refine vk _ _ ?_;have hn:q.n=T.length:=h.own.rd.n;have hG:=zgq hb;refine lpR (λ(st:Int×Unit) w2=>∃k:Nat,st.1=(k:Int)/\k<=T.length/\Uc w1 w2/\(T.take k).any (λp=>p.Image==x)=false) (λst=>T.length-st.1.toNat) ⟨0,rfl,zero_le _,Below.refl _ _,rfl⟩ ?_;rintro ⟨i,u⟩ w2 ⟨k,hi,hk,hB2,hany⟩ I hI;dsimp only at hi ⊢;subst hi;have h2:=h1.ext hB2;have B2:=zv hB1 hB2;refine cO (λe=>?_) λe=>?_
 ·have e:=oTq e;have hlt:k<T.length:=by omega
  obtain ⟨p,hp⟩:∃p,T[k]?=some p:=⟨_,List.getElem?_eq_getElem hlt⟩;refine h2.own.rd.ix (E:=qS) (i:=(k:Int)) rfl (by omega) (by omega) λhx=>?_;have hx:q6 w2 (q.at_ qS.k (k:Int).toNat) (qf.rep.cells p):=by
   simp only [toNat_natCast] at hx ⊢;have e1:T[k]'hlt=p:=(List.getElem?_eq_some_iff.1 hp).2;rw [e1] at hx;exact hx
  refine qy (r:=qf.rep) (x:=p) hx ?_;refine hG w2 p _ hB2 λw3 hB3=>?_;have tk:T.take (k+1)=T.take k++[p]:=by rw [List.take_add_one,hp];rfl
  refine cO (λhf=>?_) λhf=>?_
  ·rw [dTq (by omega)];have:(T.any λp=>p.Image==x)=true:=List.any_eq_true.2 ⟨p,List.mem_of_getElem? hp,hf⟩;rw [<-this];exact hK w3 (zv B2 hB3)
  ·rw [qQ (x:=(k:Int)+1) (by omega)];refine hI _ _ ⟨k+1,by simp,by omega,zv hB2 hB3,?_⟩ (by dsimp only;omega);rw [tk,List.any_append,hany];simp [hf]
 ·have e:=oFq e;have hkT:k=T.length:=by omega
  subst hkT;rw [List.take_length] at hany;rw [dFq (by omega),<-hany];exact hK w2 B2
theorem zag (h:PlTM w base g q T) (hl:T.length<=100000) {K:Slc->Ub} (hK:∀r w',Go.Vc.Own qS w' w.heap.size r T->Uc w w'->K r w'):Js (some ⟨g,0,none⟩) w K:=by
 refine ql9 _ ?_;simp only [onPtr_some];refine lSl (x:=q) (h.blk.cells 0 _ rfl) ?_;exact qrl h.own.rd hl hK
end
end Go.Proofs.YtlmpnfhmpjldaaaGreatDoor
namespace Go.Vc
open Go.RowKit
open Builtin (delete_)
open IntKind (i64)
open _root_.List (mem_append mem_cons mem_map mem_singleton)
open _root_.Option (map_eq_some_iff)
structure Ent (V:Type) where
 k:Int
 v:V
 b:Nat
section
variable {V:Type} (enc:V->Value)
def Ent.val (e:Ent V):MapEntry:={ key:=.int .i64 e.k,val:=enc e.v,born:=e.b }
structure MapE (w:World) (r:Nat) (E:List (Ent V)) (clock:Nat):Prop where
 heap:w.heap[r]?=some (.map (E.map (Ent.val enc)).toArray clock)
 keys:E.Pairwise λx y=>x.k≠y.k
 stamps:E.Pairwise λx y=>x.b<y.b
 lt:∀e∈E,e.b<clock
 wf:∀e∈E,-9223372036854775808<=e.k/\e.k<=9223372036854775807
def Srt (L:List (Int×V)):Prop:=L.Pairwise λp q=>p.1<q.1
def zA (L:List (Int×V)) (k:Int):Option V:=(L.find? λp=>p.1==k).map (·.2)
def delL (L:List (Int×V)) (k:Int):List (Int×V):=L.filter λp=>p.1 !=k
def kC (L:List (Int×V)) (k:Int) (v:V):List (Int×V):=match L with
 | []=>[(k,v)]
 | p::r=>if k<p.1 then (k,v)::p::r else if k=p.1 then (k,v)::r else p::kC r k v
def vM (E:List (Ent V)):List (Int×V):=E.map λe=>(e.k,e.v)
def zP (w:World) (r:Nat) (L:List (Int×V)):Prop:=∃E clock,MapE enc w r E clock/\(vM E).Perm L/\Srt L
variable {enc}
theorem MapE.lt_heap {w:World} {r:Nat} {E:List (Ent V)} {clock:Nat} (h:MapE enc w r E clock):r<w.heap.size:=(Array.getElem?_eq_some_iff.1 h.heap).1
theorem zP.lt {w:World} {r:Nat} {L:List (Int×V)} (h:zP enc w r L):r<w.heap.size:=by
 obtain ⟨E,c,h,_⟩:=h;exact h.lt_heap
theorem zP.keep {w w':World} {r:Nat} {L:List (Int×V)} (h:zP enc w r L) (hk:w'.heap[r]?=w.heap[r]?):zP enc w' r L:=by
 obtain ⟨E,c,h,hp⟩:=h;exact ⟨E,c,⟨hk.trans h.heap,h.keys,h.stamps,h.lt,h.wf⟩,hp⟩
theorem zP.chg {S:Nat->Prop} {w w':World} {r:Nat} {L:List (Int×V)} (h:zP enc w r L) (hc:Chg S w w') (hS:¬S r):zP enc w' r L:=h.keep (hc.block r h.lt hS)
theorem zP.ext {w w':World} {r:Nat} {L:List (Int×V)} (h:zP enc w r L) (hb:Uc w w'):zP enc w' r L:=h.keep (hb.block r h.lt)
theorem zP.new (w:World):zP enc (w.alloc (.map #[] 0)) w.heap.size ([]:List (Int×V)):=by
 refine ⟨[],0,⟨?_,.nil,.nil,(λe he=>by cases he),(λe he=>by cases he)⟩,.refl _,.nil⟩;show (w.heap.push _)[w.heap.size]?=_;simp
theorem zP.ne_blk {w:World} {r g:Nat} {L:List (Int×V)} {t:TypeId} {vs:List Value} (h:zP enc w r L) (hb:Blk w g t vs):r≠g:=by
 rintro rfl;obtain ⟨E,c,h,_⟩:=h;have h1:=h.heap;unfold Blk at hb;rw [hb] at h1;cases h1
theorem zP.ne_own {T:Type} {El':El T} {w:World} {r base:Nat} {L:List (Int×V)} {s:Slc} {xs:List T} (h:zP enc w r L) (ho:Own El' w base s xs):∀k,s.blk=some k->k≠r:=λk hk e=>by
 obtain ⟨cs,hcs⟩:=ho.blk_t hk;exact h.ne_blk hcs e.symm
def qa3:List (Ent V)->Int->Option (Nat×V)
 | [],_=>none
 | e::r,k=>if k=e.k then some (0,e.v) else (qa3 r k).map λp=>(p.1+1,p.2)
theorem qvh (k:Int):∀(E:List (Ent V)) (i:Nat),Instr.findNow (.int .i64) (Ua k) (E.map (Ent.val enc)) i=some ((qa3 E k).map λp=>(i+p.1,enc p.2))
 | [],i=>rfl
 | e::r,i=>by
  rw [List.map_cons,Instr.findNow];have hs:Instr.sameNow (.int .i64) (Ua k) (Ent.val enc e).key=some (k==e.k):=by
   show (if (i64=i64) then some (k==e.k) else none)=_;rw [if_pos rfl]
  rw [hs,qa3];by_cases h:k=e.k
  ·rw [if_pos h,show (k==e.k)=true from beq_iff_eq.2 h];rfl
  ·rw [if_neg h,show (k==e.k)=false from beq_eq_false_iff_ne.2 h];dsimp only;rw [qvh k r (i+1)];cases qa3 r k with
   | none=>rfl
   | some p =>
    show some (some (i+1+p.1,enc p.2))=some (some (i+(p.1+1),enc p.2));rw [show i+1+p.1=i+(p.1+1) by omega]
theorem qtt {k:Int} {v:V}:∀{E:List (Ent V)} {i:Nat},qa3 E k=some (i,v)->∃e,E[i]?=some e/\e.k=k/\e.v=v
 | e::r,i,h=>by
  rw [qa3] at h;by_cases hk:k=e.k
  ·rw [if_pos hk] at h;cases h;exact ⟨e,rfl,hk.symm,rfl⟩
  ·rw [if_neg hk] at h;obtain ⟨p,hp,e'⟩:=map_eq_some_iff.1 h;cases e';obtain ⟨x,hx,h1,h2⟩:=qtt (E:=r) (i:=p.1) (by rw [hp]);exact ⟨x,hx,h1,h2⟩
theorem qmo {k:Int}:∀{E:List (Ent V)},qa3 E k=none->∀e∈E,e.k≠k
 | [],_,e,he=>by cases he
 | x::r,h,e,he=>by
  rw [qa3] at h;by_cases hk:k=x.k
  ·rw [if_pos hk] at h;cases h
  ·rw [if_neg hk] at h;have h:=Option.map_eq_none_iff.1 h;rcases mem_cons.1 he with rfl | he
   ·exact λe=>hk e.symm
   ·exact qmo h e he
theorem xH {L:List (Int×V)} (hs:Srt L) {k:Int} {v:V}:zA L k=some v↔(k,v)∈L:=by
 unfold zA;rw [map_eq_some_iff];constructor
 ·rintro ⟨p,hp,rfl⟩;have h1:=List.find?_some hp;have h2:=List.mem_of_find?_eq_some hp;have:p.1=k:=by simpa using h1
  rw [<-this];exact h2
 ·intro hm;cases hf:L.find? (λp=>p.1==k) with
  | none =>
   have:=List.find?_eq_none.1 hf (k,v) hm;simp at this
  | some q =>
   have h1:q.1=k:=by simpa using List.find?_some hf
   have h2:=List.mem_of_find?_eq_some hf;refine ⟨q,rfl,?_⟩;obtain ⟨qk,qv⟩:=q;subst h1;have:∀{M:List (Int×V)},Srt M->∀{a b c},(a,b)∈M->(a,c)∈M->b=c:=by
    intro M hM
    induction hM with
    | nil=>intro a b c h;cases h
    | cons hx _ ih =>
     intro a b c hb hc;rcases mem_cons.1 hb with e | hb
     ·rcases mem_cons.1 hc with e' | hc
      ·have:=e.trans e'.symm;cases this;rfl
      ·have:=hx _ hc;rw [<-e] at this;exact absurd this (Int.lt_irrefl _)
     ·rcases mem_cons.1 hc with e' | hc
      ·have:=hx _ hb;rw [<-e'] at this;exact absurd this (Int.lt_irrefl _)
      ·exact ih hb hc
   exact this hs h2 hm
theorem q3a {E:List (Ent V)} {L:List (Int×V)} (hp:(vM E).Perm L) (hs:Srt L) (k:Int):(qa3 E k).map (·.2)=zA L k:=by
 cases hi:qa3 E k with
 | none =>
  cases hg:zA L k with
  | none=>rfl
  | some v =>
   have:=hp.mem_iff.2 ((xH hs).1 hg);obtain ⟨e,he,e2⟩:=mem_map.1 this;have e2:=congrArg Prod.fst e2;exact absurd e2 (qmo hi e he)
 | some p =>
  obtain ⟨i,v⟩:=p;obtain ⟨e,he,h1,h2⟩:=qtt hi;refine ((xH hs).2 (hp.mem_iff.1 (mem_map.2 ⟨e,List.mem_of_getElem? he,?_⟩))).symm;rw [h1,h2]
def q6g (w:World) (r:Nat) (o:Obj):World:={ w with heap:=w.heap.setIfInBounds r o }
theorem qqk (w:World) (r:Nat) (o:Obj):Chg (λk=>k=r) w (q6g w r o) :=
 ⟨rfl,rfl,rfl,by show w.heap.size<=(w.heap.setIfInBounds r o).size;simp,λk _ hk=>by show (w.heap.setIfInBounds r o)[k]?=_;rw [Array.getElem?_setIfInBounds_ne (λe=>hk e.symm)]⟩
theorem qth {w:World} {r:Nat} (o:Obj) (h:r<w.heap.size):(q6g w r o).heap[r]?=some o:=by
 show (w.heap.setIfInBounds r o)[r]?=_;simp [h]
theorem qml (w:World) (r:Nat) (o:Obj):(q6g w r o).heap.size=w.heap.size:=by show (w.heap.setIfInBounds r o).size=_;simp
theorem Srt.nodup {L:List (Int×V)} (h:Srt L):L.Nodup:=h.imp λ{a b} hab e=>by rw [e] at hab;exact Int.lt_irrefl _ hab
theorem q74 {E:List (Ent V)} (h:E.Pairwise λx y=>x.k≠y.k):(vM E).Nodup:=List.pairwise_map.2 (h.imp λ{a b} hab e=>hab (congrArg Prod.fst e))
theorem Qk {L:List (Int×V)} (hs:Srt L) (k:Int) (v:V):∀a b,(a,b)∈kC L k v↔(a=k/\b=v)\/(a≠k/\(a,b)∈L):=by
 induction hs with
 | nil =>
  intro a b;simp [kC]
 | @cons p L' hp hs' ih =>
  intro a b;obtain ⟨pk,pv⟩:=p;rw [kC];dsimp only at hp ⊢;have hgt:∀{a b},(a,b)∈L'->pk<a:=λh=>hp _ h;by_cases h1:k<pk
  ·rw [if_pos h1];simp only [mem_cons,Prod.mk.injEq];constructor
   ·rintro (h | h | h)
    ·exact .inl h
    ·exact .inr ⟨by omega,.inl h⟩
    ·exact .inr ⟨by have:=hgt h;omega,.inr h⟩
   ·rintro (h | ⟨_,h | h⟩)
    ·exact .inl h
    ·exact .inr (.inl h)
    ·exact .inr (.inr h)
  ·rw [if_neg h1];by_cases h2:k=pk
   ·rw [if_pos h2];simp only [mem_cons,Prod.mk.injEq];constructor
    ·rintro (h | h)
     ·exact .inl h
     ·exact .inr ⟨by have:=hgt h;omega,.inr h⟩
    ·rintro (h | ⟨hne,h | h⟩)
     ·exact .inl h
     ·omega
     ·exact .inr h
   ·rw [if_neg h2];simp only [mem_cons,Prod.mk.injEq,ih];constructor
    ·rintro (h | h | ⟨hne,h⟩)
     ·exact .inr ⟨by omega,.inl h⟩
     ·exact .inl h
     ·exact .inr ⟨hne,.inr h⟩
    ·rintro (h | ⟨hne,h | h⟩)
     ·exact .inr (.inl h)
     ·exact .inl h
     ·exact .inr (.inr ⟨hne,h⟩)
theorem qfp {L:List (Int×V)} (hs:Srt L) (k:Int) (v:V):Srt (kC L k v):=by
 induction hs with
 | nil=>exact List.pairwise_singleton _ _
 | @cons p L' hp hs' ih =>
  obtain ⟨pk,pv⟩:=p;rw [kC];dsimp only at hp ⊢;by_cases h1:k<pk
  ·rw [if_pos h1];refine .cons (λq hq=>?_) (.cons hp hs');rcases mem_cons.1 hq with rfl | hq
   ·exact h1
   ·exact Int.lt_trans h1 (hp q hq)
  ·rw [if_neg h1];by_cases h2:k=pk
   ·rw [if_pos h2];exact .cons (λq hq=>by rw [h2];exact hp q hq) hs'
   ·rw [if_neg h2];refine .cons (λq hq=>?_) ih;obtain ⟨a,b⟩:=q;rcases (Qk hs' k v a b).1 hq with ⟨rfl,_⟩ | ⟨_,hm⟩
    ·show pk<a;omega
    ·exact hp _ hm
theorem qxi {L:List (Int×V)} (hs:Srt L) (k:Int):Srt (delL L k):=hs.filter _
theorem qlc {L:List (Int×V)} (k a:Int) (b:V):(a,b)∈delL L k↔a≠k/\(a,b)∈L:=by
 simp [delL,and_comm]
def qv8 (E:List (Ent V)) (i:Nat) (v:V):List (Ent V):=E.modify i λe=>{ e with v:=v }
theorem q70 {k:Int} {v v0:V}:∀{E:List (Ent V)} {i:Nat},E.Pairwise (λx y=>x.k≠y.k)->qa3 E k=some (i,v0)->∀a b,(a,b)∈vM (qv8 E i v)↔(a=k/\b=v)\/(a≠k/\(a,b)∈vM E)
 | e::r,i,hp,h,a,b=>by
  rw [qa3] at h;cases hp with
  | cons hpe hpr =>
  by_cases hk:k=e.k
  ·rw [if_pos hk] at h;cases h;show (a,b)∈(e.k,v)::vM r↔_\/(_/\(a,b)∈(e.k,e.v)::vM r);simp only [mem_cons,Prod.mk.injEq];have hne:∀{a b},(a,b)∈vM r->a≠k:=λ{a b} hm e'=>by
    obtain ⟨x,hx,ex⟩:=mem_map.1 hm;have:=congrArg Prod.fst ex;exact hpe x hx (by rw [<-hk,<-e'];exact this.symm)
   constructor
   ·rintro (⟨h1,h2⟩ | h)
    ·exact .inl ⟨by omega,h2⟩
    ·exact .inr ⟨hne h,.inr h⟩
   ·rintro (⟨h1,h2⟩ | ⟨h1,⟨h2,_⟩ | h⟩)
    ·exact .inl ⟨by omega,h2⟩
    ·omega
    ·exact .inr h
  ·rw [if_neg hk] at h;obtain ⟨p,hp',e'⟩:=map_eq_some_iff.1 h;cases e';have ih:=q70 (E:=r) (i:=p.1) hpr (by rw [hp']) a b (v:=v) (k:=k);show (a,b)∈(e.k,e.v)::vM (qv8 r p.1 v)↔_\/(_/\(a,b)∈(e.k,e.v)::vM r);simp only [mem_cons,Prod.mk.injEq,ih];constructor
   ·rintro (⟨h1,h2⟩ | h | ⟨h1,h2⟩)
    ·exact .inr ⟨by omega,.inl ⟨h1,h2⟩⟩
    ·exact .inl h
    ·exact .inr ⟨h1,.inr h2⟩
   ·rintro (h | ⟨h1,h | h⟩)
    ·exact .inr (.inl h)
    ·exact .inl h
    ·exact .inr (.inr ⟨h1,h⟩)
theorem q24 {k:Int} {v0:V}:∀{E:List (Ent V)} {i:Nat},E.Pairwise (λx y=>x.k≠y.k)->qa3 E k=some (i,v0)->E.eraseIdx i=E.filter λe=>e.k !=k
 | e::r,i,hp,h=>by
  rw [qa3] at h;cases hp with
  | cons hpe hpr =>
  by_cases hk:k=e.k
  ·rw [if_pos hk] at h;cases h;rw [List.eraseIdx_cons_zero,List.filter_cons,if_neg (by simp [hk])];refine (List.filter_eq_self.2 λx hx=>?_).symm;have:=hpe x hx;simp only [bne_iff_ne,ne_eq];rw [hk];exact λe=>this e.symm
  ·rw [if_neg hk] at h;obtain ⟨p,hp',e'⟩:=map_eq_some_iff.1 h;cases e';rw [List.eraseIdx_cons_succ,List.filter_cons,if_pos (by simpa using λe=>hk e.symm),q24 (E:=r) (i:=p.1) hpr (by rw [hp'])]
theorem q6a {k:Int} {E:List (Ent V)} (h:qa3 E k=none):E.filter (λe=>e.k !=k)=E:=List.filter_eq_self.2 λx hx=>by simpa using qmo h x hx
section
variable {P:Program} {t kt et:TypeId} {w:World} {r:Nat} {E:List (Ent V)} {clock:Nat}
theorem kM (hk:P.underlying kt=some (.int .i64)) (b:Bool) (k:Int):(Instr.checkKey b 10000 kt (Ua k)).run P w=.ok () w:=by
 show (Instr.checkKey b (9999+1) kt (Ua k)).run P w=_;rw [Instr.checkKey];simp only [Sem.run_bind,run_underlying hk,Result.andThen_ok,Sem.run_pure]
theorem kf {es:Array MapEntry} (h:w.heap[r]?=some (.map es clock)):(getObj r).run P w=.ok (.map es clock) w:=by simp [getObj,Sem.run,h]
theorem qhk {es:Array MapEntry} (o:Obj) (h:w.heap[r]?=some (.map es clock)):(setObj r o).run P w=.ok () (q6g w r o):=by simp [setObj,Sem.run,h,q6g]
theorem qc5 (hk:P.underlying kt=some (.int .i64)) (k:Int):(Instr.findKey kt (Ua k) (E.map (Ent.val enc))).run P w=.ok ((qa3 E k).map λp=>(p.1,enc p.2)) w:=by
 have:=qvh (enc:=enc) k E 0;simp only [Nat.zero_add] at this;simp [Instr.findKey,run_underlying hk,this]
theorem MapE.lookup (h:MapE enc w r E clock) (ht:P.underlying t=some (.map kt et)) (hk:P.underlying kt=some (.int .i64)) {z:Value} (hz:∀w,(zeroValue et).run P w=.ok z w) (k:Int) :
  (Instr.lookup t (.map (some r)) (Ua k) false).run P w=.ok (((qa3 E k).map λp=>enc p.2).getD z) w:=by
 have hf:=qc5 (P:=P) (kt:=kt) (w:=w) (enc:=enc) (E:=E) hk k;cases hi:qa3 E k with
 | none =>
  rw [hi] at hf;simp [Instr.lookup,run_underlying ht,kf h.heap,kM hk,hf,hz]
 | some p =>
  rw [hi] at hf;simp [Instr.lookup,run_underlying ht,kf h.heap,kM hk,hf]
theorem MapE.lookup_ok (h:MapE enc w r E clock) (ht:P.underlying t=some (.map kt et)) (hk:P.underlying kt=some (.int .i64)) {z:Value} (hz:∀w,(zeroValue et).run P w=.ok z w) (k:Int) :
  (Instr.lookup t (.map (some r)) (Ua k) true).run P w=.ok (.tuple #[((qa3 E k).map λp=>enc p.2).getD z,.bool (qa3 E k).isSome]) w:=by
 have hf:=qc5 (P:=P) (kt:=kt) (w:=w) (enc:=enc) (E:=E) hk k;cases hi:qa3 E k with
 | none =>
  rw [hi] at hf;simp [Instr.lookup,run_underlying ht,kf h.heap,kM hk,hf,hz]
 | some p =>
  rw [hi] at hf;simp [Instr.lookup,run_underlying ht,kf h.heap,kM hk,hf]
end
end
section
variable {V:Type} {enc:V->Value} {P:Program} {t kt et:TypeId} {w:World} {r:Nat} {L:List (Int×V)}
theorem qsz {E:List (Ent V)} (hp:(vM E).Perm L):E.length=L.length:=by rw [<-hp.length_eq];simp [vM]
theorem zP.lookup (h:zP enc w r L) (ht:P.underlying t=some (.map kt et)) (hk:P.underlying kt=some (.int .i64)) {z:Value} (hz:∀w,(zeroValue et).run P w=.ok z w) (k:Int) :
  (Instr.lookup t (.map (some r)) (Ua k) false).run P w=.ok (((zA L k).map enc).getD z) w:=by
 obtain ⟨E,c,hE,hp,hs⟩:=h;rw [hE.lookup ht hk hz k,<-q3a hp hs k];simp only [Option.map_map];rfl
theorem zP.lookup_ok (h:zP enc w r L) (ht:P.underlying t=some (.map kt et)) (hk:P.underlying kt=some (.int .i64)) {z:Value} (hz:∀w,(zeroValue et).run P w=.ok z w) (k:Int) :
  (Instr.lookup t (.map (some r)) (Ua k) true).run P w=.ok (.tuple #[((zA L k).map enc).getD z,.bool (zA L k).isSome]) w:=by
 obtain ⟨E,c,hE,hp,hs⟩:=h;rw [hE.lookup_ok ht hk hz k,<-q3a hp hs k];simp only [Option.map_map,Option.isSome_map];rfl
theorem zP.srt (h:zP enc w r L):Srt L:=by obtain ⟨_,_,_,_,hs⟩:=h;exact hs
theorem zP.update (h:zP enc w r L) (ht:P.underlying t=some (.map kt et)) (hk:P.underlying kt=some (.int .i64)) {k:Int} (hk1:-9223372036854775808<=k/\k<=9223372036854775807) (v:V) :
  ∃w',(Instr.mapUpdate t (.map (some r)) (Ua k) (enc v)).run P w=.ok () w'/\zP enc w' r (kC L k v)/\Chg (λk=>k=r) w w'/\w'.heap.size=w.heap.size:=by
 obtain ⟨E,c,hE,hp,hs⟩:=h;have hf:=qc5 (P:=P) (kt:=kt) (w:=w) (enc:=enc) (E:=E) hk k;have hkeys:∀{E':List (Ent V)},(∀a b,(a,b)∈vM E'↔(a=k/\b=v)\/(a≠k/\(a,b)∈vM E))->(E'.Pairwise λx y=>x.k≠y.k)->(vM E').Perm (kC L k v):=λ{E'} hm hk' =>
  (List.perm_ext_iff_of_nodup (q74 hk') (qfp hs k v).nodup).2 λp=>by
   obtain ⟨a,b⟩:=p;rw [hm a b,Qk hs k v a b,hp.mem_iff]
 cases hi:qa3 E k with
 | none =>
  rw [hi] at hf;have hno:=qmo hi;refine ⟨q6g w r (.map ((E++[(⟨k,v,c⟩:Ent V)]).map (Ent.val enc)).toArray (c+1)),?_,⟨E++[(⟨k,v,c⟩:Ent V)],c+1,⟨qth _ hE.lt_heap,?_,?_,?_,?_⟩,hkeys (λa b=>?_) ?_,qfp hs k v⟩,qqk _ _ _,qml _ _ _⟩
  ·have hpush:(E.map (Ent.val enc)).toArray.push { key:=.int .i64 k,val:=enc v,born:=c }=((E++[(⟨k,v,c⟩:Ent V)]).map (Ent.val enc)).toArray:=by simp [Ent.val]
   rw [<-hpush];simp [Instr.mapUpdate,run_underlying ht,kf hE.heap,kM hk,hf,qhk _ hE.heap]
  ·refine List.pairwise_append.2 ⟨hE.keys,List.pairwise_singleton _ _,λx hx y hy=>?_⟩;rw [mem_singleton] at hy;subst hy;exact hno x hx
  ·refine List.pairwise_append.2 ⟨hE.stamps,List.pairwise_singleton _ _,λx hx y hy=>?_⟩;rw [mem_singleton] at hy;subst hy;exact hE.lt x hx
  ·intro e he;rcases mem_append.1 he with he | he
   ·have:=hE.lt e he;omega
   ·rw [mem_singleton] at he;subst he;exact Nat.lt_succ_self _
  ·intro e he;rcases mem_append.1 he with he | he
   ·exact hE.wf e he
   ·rw [mem_singleton] at he;subst he;exact hk1
  ·have e1:vM (E++[(⟨k,v,c⟩:Ent V)])=vM E++[(k,v)]:=by simp [vM]
   rw [e1,mem_append,mem_singleton,Prod.mk.injEq];constructor
   ·rintro (h | h)
    ·refine .inr ⟨λe=>?_,h⟩;obtain ⟨x,hx,ex⟩:=mem_map.1 h;exact hno x hx (by rw [<-e];exact congrArg Prod.fst ex)
    ·exact .inl h
   ·rintro (h | ⟨_,h⟩)
    ·exact .inr h
    ·exact .inl h
  ·refine List.pairwise_append.2 ⟨hE.keys,List.pairwise_singleton _ _,λx hx y hy=>?_⟩;rw [mem_singleton] at hy;subst hy;exact hno x hx
 | some p =>
  obtain ⟨i,v0⟩:=p;rw [hi] at hf;obtain ⟨e,he,hek,hev⟩:=qtt hi;have hil:i<E.length:=(List.getElem?_eq_some_iff.1 he).1;have hm:=q70 (v:=v) hE.keys hi;have hmod:∀{Q:Ent V->Prop},(∀x∈E,Q x->Q { x with v:=v })->(∀x∈E,Q x)->∀x∈qv8 E i v,Q x:=λ{Q} h1 h2 x hx=>by
   unfold qv8 at hx;obtain ⟨j,hj⟩:=List.getElem?_of_mem hx;rw [List.getElem?_modify] at hj;obtain ⟨y,hy,hxy⟩:=map_eq_some_iff.1 hj;have hym:=List.mem_of_getElem? hy;by_cases hij:i=j
   ·rw [if_pos hij] at hxy;rw [<-hxy];exact h1 y hym (h2 y hym)
   ·rw [if_neg hij] at hxy;rw [<-hxy];exact h2 y hym
  have hmap:∀{A:Type} (f:Ent V->A),(∀x,f { x with v:=v }=f x)->(qv8 E i v).map f=E.map f:=λ{A} f hf'=>by
   refine List.ext_getElem? λj=>?_;unfold qv8;rw [List.getElem?_map,List.getElem?_modify,List.getElem?_map];cases E[j]? with
   | none=>rfl
   | some x =>
    show some (f (if i=j then { x with v:=v } else x))=some (f x);by_cases hij:i=j
    ·rw [if_pos hij,hf' x]
    ·rw [if_neg hij]
  have hks:(qv8 E i v).Pairwise λx y=>x.k≠y.k:=by
   have h1:=hE.keys;rw [<-List.pairwise_map (f:=λe:Ent V=>e.k) (R:=λa b=>a≠b)] at h1 ⊢
   rwa [hmap (λe=>e.k) (λ_=>rfl)]
  have hst:(qv8 E i v).Pairwise λx y=>x.b<y.b:=by
   have h1:=hE.stamps;rw [<-List.pairwise_map (f:=λe:Ent V=>e.b) (R:=λa b=>a<b)] at h1 ⊢
   rwa [hmap (λe=>e.b) (λ_=>rfl)]
  have harr:(E.map (Ent.val enc)).toArray.modify i (λx=>{ x with key:=.int .i64 k,val:=enc v })=((qv8 E i v).map (Ent.val enc)).toArray:=by
   apply Array.ext';refine List.ext_getElem? λj=>?_;rw [Array.getElem?_toList,Array.getElem?_modify];unfold qv8;rw [List.getElem?_toArray,List.getElem?_map,List.getElem?_map,List.getElem?_modify];by_cases hij:i=j
   ·subst hij;rw [if_pos rfl,he];show some _=some (Ent.val enc (if i=i then { e with v:=v } else e));rw [if_pos rfl];simp [Ent.val,hek]
   ·rw [if_neg hij];cases E[j]? with
    | none=>rfl
    | some x=>show some (Ent.val enc x)=some (Ent.val enc (if i=j then { x with v:=v } else x));rw [if_neg hij]
  refine ⟨q6g w r (.map ((qv8 E i v).map (Ent.val enc)).toArray c),?_,⟨qv8 E i v,c,⟨qth _ hE.lt_heap,hks,hst,hmod (Q:=λe=>e.b<c) (λ_ _ h=>h) hE.lt,hmod (Q:=λe=>-9223372036854775808<=e.k/\e.k<=9223372036854775807) (λ_ _ h=>h) hE.wf⟩,hkeys hm hks,qfp hs k v⟩,qqk _ _ _,qml _ _ _⟩;have hold:((((E.map (Ent.val enc)).toArray[i]?).map (·.key)).getD (Ua k))=.int .i64 k:=by
   rw [List.getElem?_toArray,List.getElem?_map,he];show Value.int .i64 e.k=_;rw [hek]
  have hstay:(Instr.keyThatStays (Ua k) (Ua k)).run P w=.ok (Ua k) w:=by
   unfold Instr.keyThatStays;have:Instr.sameBits 10000 (Ua k) (Ua k)=true:=by
    show Instr.sameBits (9999+1) (Ua k) (Ua k)=true;rw [Instr.sameBits];simp
   rw [if_pos this];rfl
  rw [<-harr];unfold Instr.mapUpdate;simp only [Sem.run_bind,run_underlying ht,Result.andThen_ok,kf hE.heap,kM hk,hf,hold,hstay,Option.map_some];exact qhk _ hE.heap
theorem qoq {A B:Type} (f:A->B):∀(l:List A) (i:Nat),(l.map f).eraseIdx i=(l.eraseIdx i).map f
 | [],_=>rfl
 | _::_,0=>rfl
 | a::l,i+1=>by simp [List.eraseIdx,qoq f l i]
theorem zP.delete (h:zP enc w r L) (ht:P.underlying t=some (.map kt et)) (hk:P.underlying kt=some (.int .i64)) (k:Int) (ty:TypeId) :
  ∃w',(delete_ #[t,kt] ty #[.map (some r),.int .i64 k]).run P w=.ok (.tuple #[]) w'/\zP enc w' r (delL L k)/\Chg (λk=>k=r) w w'/\w'.heap.size=w.heap.size:=by
 obtain ⟨E,c,hE,hp,hs⟩:=h;have hf:=qc5 (P:=P) (kt:=kt) (w:=w) (enc:=enc) (E:=E) hk k;have hfil:zP enc (q6g w r (.map ((E.filter λe=>e.k !=k).map (Ent.val enc)).toArray c)) r (delL L k):=by
  refine ⟨E.filter λe=>e.k !=k,c,⟨qth _ hE.lt_heap,hE.keys.filter _,hE.stamps.filter _,λe he=>hE.lt e ((List.mem_filter.1 he).1),λe he=>hE.wf e ((List.mem_filter.1 he).1)⟩,?_,qxi hs k⟩;have e1:vM (E.filter λe=>e.k !=k)=(vM E).filter λp=>p.1 !=k:=by
   unfold vM;rw [List.filter_map];rfl
  rw [e1];exact hp.filter _
 cases hi:qa3 E k with
 | none =>
  rw [hi] at hf;rw [q6a hi] at hfil;refine ⟨_,?_,hfil,qqk _ _ _,qml _ _ _⟩;simp [delete_,run_underlying ht,kf hE.heap,kM hk,hf,qhk _ hE.heap]
 | some p =>
  obtain ⟨i,v0⟩:=p;rw [hi] at hf;rw [<-q24 hE.keys hi] at hfil;refine ⟨_,?_,hfil,qqk _ _ _,qml _ _ _⟩;have harr:(E.map (Ent.val enc)).toArray.eraseIdxIfInBounds i=((E.eraseIdx i).map (Ent.val enc)).toArray:=by
   simp [qoq]
  rw [<-harr];simp [delete_,run_underlying ht,kf hE.heap,kM hk,hf,qhk _ hE.heap]
theorem zP.len (h:zP enc w r L) (ht:P.underlying t=some (.map kt et)) (ty:TypeId):(Builtin.len_ #[t] ty #[.map (some r)]).run P w=.ok (Ua (L.length:Int)) w:=by
 obtain ⟨E,c,hE,hp,hs⟩:=h;rw [<-qsz hp];simp [Builtin.len_,run_underlying ht,kf hE.heap]
 try rfl
end
end Go.Vc
set_option maxRecDepth 100000
namespace Go.Proofs
open Go.RowKit Go.Maps Go.Sort Go.Shelf Go.Vc
open _root_.List (map_map)
def Tryz.keysA_ren:Go.Shelf.Ren:=⟨λ| 7=>81 | 10=>134 | n=>n,λ| 23=>196 | 26=>3 | 3=>206 | 28=>203 | 0=>0 | 27=>202 | 33=>187 | 4=>4 | n=>n,λ| n=>n⟩
theorem Tryz.keysA:Go.Proofs.SlLaysZI.n7 Tryz.prog Tryz.keysA_ren:={
 mixed:=by kernel_rfl
 f7:=⟨Tryz.f81.name,by decide,Tryz.func81.trans (congrArg some (by kernel_rfl))⟩
 f10:=⟨Tryz.f134.name,by decide,Tryz.func134.trans (congrArg some (by kernel_rfl))⟩
 t0:=Tryz.underlying0
 a0:=Tryz.isAgg0
 z0:=Tryz.sizeOf0
 v0:=Tryz.zeroValue0
 t4:=Tryz.underlying4
 a4:=Tryz.isAgg4
 z4:=Tryz.sizeOf4
 v4:=Tryz.zeroValue4
 t23:=Tryz.underlying196
 a23:=Tryz.isAgg196
 z23:=Tryz.sizeOf196
 v23:=Tryz.zeroValue196
 t26:=Tryz.underlying3
 a26:=Tryz.isAgg3
 z26:=Tryz.sizeOf3
 v26:=Tryz.zeroValue3
 t27:=Tryz.underlying202
 a27:=Tryz.isAgg202
 z27:=Tryz.sizeOf202
 v27:=Tryz.zeroValue202
 t28:=Tryz.underlying203
 a28:=Tryz.isAgg203
 z28:=Tryz.sizeOf203
 v28:=Tryz.zeroValue203
 t33:=Tryz.underlying187
 a33:=Tryz.isAgg187
 z33:=Tryz.sizeOf187
 v33:=Tryz.zeroValue187 }
def Tryz.sortedA_ren:Go.Shelf.Ren:=⟨λ| 6=>80 | 8=>132 | 9=>133 | 11=>187 | 13=>189 | 12=>188 | 23=>260 | 24=>261 | 14=>251 | 15=>252 | 16=>253 | 17=>254 | 18=>255 | 19=>256 | 20=>257 | 21=>258 | 22=>259 | 25=>349 | 26=>350 | 27=>351 | 28=>352 | 29=>353 | 30=>354 | 31=>411 | n=>n,λ| 26=>3 | 28=>203 | 24=>70 | 0=>0 | 3=>3 | 37=>335 | 48=>390 | 50=>392 | 4=>4 | 40=>383 | 39=>382 | 45=>387 | 5=>5 | 9=>9 | 51=>438 | 55=>442 | 57=>484 | 58=>127 | 33=>187 | n=>n,λ| n=>n⟩
theorem Tryz.sortedA:Go.Proofs.SlLaysZI.n6 Tryz.prog Tryz.sortedA_ren:={
 mixed:=by kernel_rfl
 f6:=⟨Tryz.f80.name,by decide,Tryz.func80.trans (congrArg some (by kernel_rfl))⟩
 f8:=⟨Tryz.f132.name,by decide,Tryz.func132.trans (congrArg some (by kernel_rfl))⟩
 f11:=⟨Tryz.f187.name,by decide,Tryz.func187.trans (congrArg some (by kernel_rfl))⟩
 t0:=Tryz.underlying0
 a0:=Tryz.isAgg0
 z0:=Tryz.sizeOf0
 v0:=Tryz.zeroValue0
 t24:=Tryz.underlying70
 a24:=Tryz.isAgg70
 z24:=Tryz.sizeOf70
 v24:=Tryz.zeroValue70
 t26:=Tryz.underlying3
 a26:=Tryz.isAgg3
 z26:=Tryz.sizeOf3
 v26:=Tryz.zeroValue3
 t28:=Tryz.underlying203
 a28:=Tryz.isAgg203
 z28:=Tryz.sizeOf203
 v28:=Tryz.zeroValue203
 i26:=by kernel_rfl }
def Tryz.sortA_ren:Go.Shelf.Ren:=⟨λ| 5=>133 | 8=>189 | 7=>188 | 19=>260 | 20=>261 | 10=>251 | 11=>252 | 12=>253 | 13=>254 | 14=>255 | 15=>256 | 16=>257 | 17=>258 | 18=>259 | 30=>349 | 31=>350 | 32=>351 | 33=>352 | 34=>353 | 35=>354 | 40=>411 | n=>n,λ| 23=>70 | 25=>3 | 3=>3 | 32=>335 | 22=>70 | 0=>0 | 44=>390 | 46=>392 | 4=>4 | 36=>383 | 35=>382 | 41=>387 | 5=>5 | 9=>9 | 53=>438 | 57=>442 | 63=>484 | 64=>127 | n=>n,λ| n=>n⟩
theorem Tryz.sortA:Go.Proofs.SlLaysM.n5 Tryz.prog Tryz.sortA_ren:={
 mixed:=by kernel_rfl
 f5:=⟨Tryz.f133.name,by decide,Tryz.func133.trans (congrArg some (by kernel_rfl))⟩
 f7:=⟨Tryz.f188.name,by decide,Tryz.func188.trans (congrArg some (by kernel_rfl))⟩
 f8:=Tryz.func189.trans (congrArg some (by kernel_rfl))
 f10:=⟨Tryz.f251.name,by decide,Tryz.func251.trans (congrArg some (by kernel_rfl))⟩
 f11:=⟨Tryz.f252.name,by decide,Tryz.func252.trans (congrArg some (by kernel_rfl))⟩
 f12:=⟨Tryz.f253.name,by decide,Tryz.func253.trans (congrArg some (by kernel_rfl))⟩
 f13:=⟨Tryz.f254.name,by decide,Tryz.func254.trans (congrArg some (by kernel_rfl))⟩
 f14:=⟨Tryz.f255.name,by decide,Tryz.func255.trans (congrArg some (by kernel_rfl))⟩
 f15:=⟨Tryz.f256.name,by decide,Tryz.func256.trans (congrArg some (by kernel_rfl))⟩
 f16:=⟨Tryz.f257.name,by decide,Tryz.func257.trans (congrArg some (by kernel_rfl))⟩
 f17:=⟨Tryz.f258.name,by decide,Tryz.func258.trans (congrArg some (by kernel_rfl))⟩
 f18:=⟨Tryz.f259.name,by decide,Tryz.func259.trans (congrArg some (by kernel_rfl))⟩
 f19:=Tryz.func260.trans (congrArg some (by kernel_rfl))
 f20:=Tryz.func261.trans (congrArg some (by kernel_rfl))
 f30:=⟨Tryz.f349.name,by decide,Tryz.func349.trans (congrArg some (by kernel_rfl))⟩
 f31:=Tryz.func350.trans (congrArg some (by kernel_rfl))
 f32:=Tryz.func351.trans (congrArg some (by kernel_rfl))
 f33:=⟨Tryz.f352.name,by decide,Tryz.func352.trans (congrArg some (by kernel_rfl))⟩
 f34:=⟨Tryz.f353.name,by decide,Tryz.func353.trans (congrArg some (by kernel_rfl))⟩
 f35:=⟨Tryz.f354.name,by decide,Tryz.func354.trans (congrArg some (by kernel_rfl))⟩
 f40:=⟨Tryz.f411.name,by decide,Tryz.func411.trans (congrArg some (by kernel_rfl))⟩
 t0:=Tryz.underlying0
 a0:=Tryz.isAgg0
 z0:=Tryz.sizeOf0
 v0:=Tryz.zeroValue0
 t3:=Tryz.underlying3
 a3:=Tryz.isAgg3
 z3:=Tryz.sizeOf3
 v3:=Tryz.zeroValue3
 t4:=Tryz.underlying4
 a4:=Tryz.isAgg4
 z4:=Tryz.sizeOf4
 v4:=Tryz.zeroValue4
 t5:=Tryz.underlying5
 a5:=Tryz.isAgg5
 z5:=Tryz.sizeOf5
 v5:=Tryz.zeroValue5
 t9:=Tryz.underlying9
 a9:=Tryz.isAgg9
 z9:=Tryz.sizeOf9
 v9:=Tryz.zeroValue9
 t22:=Tryz.underlying70
 a22:=Tryz.isAgg70
 z22:=Tryz.sizeOf70
 v22:=Tryz.zeroValue70
 t23:=Tryz.underlying70
 a23:=Tryz.isAgg70
 z23:=Tryz.sizeOf70
 v23:=Tryz.zeroValue70
 t25:=Tryz.underlying3
 a25:=Tryz.isAgg3
 z25:=Tryz.sizeOf3
 v25:=Tryz.zeroValue3
 t32:=Tryz.underlying335
 a32:=Tryz.isAgg335
 z32:=Tryz.sizeOf335
 v32:=Tryz.zeroValue335
 t35:=Tryz.underlying382
 a35:=Tryz.isAgg382
 z35:=Tryz.sizeOf382
 v35:=Tryz.zeroValue382
 t36:=Tryz.underlying383
 a36:=Tryz.isAgg383
 z36:=Tryz.sizeOf383
 v36:=Tryz.zeroValue383
 t41:=Tryz.underlying387
 a41:=Tryz.isAgg387
 z41:=Tryz.sizeOf387
 v41:=Tryz.zeroValue387
 t44:=Tryz.underlying390
 a44:=Tryz.isAgg390
 z44:=Tryz.sizeOf390
 v44:=Tryz.zeroValue390
 t46:=Tryz.underlying392
 a46:=Tryz.isAgg392
 z46:=Tryz.sizeOf392
 v46:=Tryz.zeroValue392
 t53:=Tryz.underlying438
 a53:=Tryz.isAgg438
 z53:=Tryz.sizeOf438
 v53:=Tryz.zeroValue438
 t57:=Tryz.underlying442
 a57:=Tryz.isAgg442
 z57:=Tryz.sizeOf442
 v57:=Tryz.zeroValue442
 t63:=Tryz.underlying484
 a63:=Tryz.isAgg484
 z63:=Tryz.sizeOf484
 v63:=Tryz.zeroValue484
 t64:=Tryz.underlying127
 a64:=Tryz.isAgg127
 z64:=Tryz.sizeOf127
 v64:=Tryz.zeroValue127 }
theorem Tryz.sortsA (m:Nat):AnyZI.SortsIn Tryz.prog Tryz.sortedA_ren Fence.wide m :=
 ⟨λblk off cap ss W hH hblk hsz=>callsIn_wide.2 (AnyM.slices_Sort_int Tryz.sortA blk off cap ss W hH hblk hsz),
  λp cap W=>callsIn_wide.2 (AnyM.slices_Sort_int_none Tryz.sortA p cap W)⟩
namespace YtlmpnfhmpjldaaaGreatDoor
section
variable {V:Type} {enc:V->Value} {w:World} {r:Nat} {L:List (Int×V)}
def q3u:Value->Option (DataW Unit×List MemPlace):=λ_=>some (.nil,[])
theorem zip {c:Nat} {E:List (Ent V)} (hE:MapE enc w r E c) {e:Ent V} (he:e∈E):WideElems.rd Tryz.prog 3 q3u (Ent.val enc e)=some (.int .i64 e.k,.nil):=by
 have h1:=keyOf_int_mk (P:=Tryz.prog) (k:=3) (q:=.i64) Tryz.underlying3 (a:=e.k) (by
  have:=hE.wf e he;simp [Lit.wf,IntKind.min,IntKind.max,IntKind.signed,IntKind.bits];omega)
 unfold WideElems.rd;show (keyOf Tryz.prog 3 (.int .i64 e.k)).bind _=_;rw [h1];rfl
theorem zdl {c:Nat} {E:List (Ent V)} (hE:MapE enc w r E c) (hl:E.length<=maxLen) :
  ∃D0:DataW Unit,w.ownsMap Tryz.prog 3 q3u r E.length D0/\Maps.size D0=E.length/\(intKeys D0).Perm (E.map (·.k)):=by
 have hmap:(E.map (Ent.val enc)).map (WideElems.rg Tryz.prog 3 q3u)=E.map λe=>(Lit.int .i64 e.k,(.nil:DataW Unit)):=by
  rw [map_map];refine List.map_congr_left λe he=>?_;show (WideElems.rd Tryz.prog 3 q3u (Ent.val enc e)).getD _=_;rw [zip hE he];rfl
 refine ⟨_,⟨_,c,hE.heap,⟨by simpa using hl,⟨?_,?_,?_⟩,?_⟩,by simp,rfl⟩,?_,?_⟩
 ·intro x hx;obtain ⟨e,he,rfl⟩:=List.mem_map.1 hx;exact hE.lt e he
 ·rw [List.toList_toArray,map_map];exact List.pairwise_map.2 (hE.stamps.imp λ{a b} h (e:a.b=b.b)=>by rw [e] at h;exact Nat.lt_irrefl _ h)
 ·rw [List.toList_toArray,map_map];exact List.pairwise_map.2 (hE.keys.imp λ{a b} h (e:Value.int .i64 a.k=.int .i64 b.k)=>h (by injection e))
 ·intro x hx;obtain ⟨e,he,rfl⟩:=List.mem_map.1 hx;exact ⟨_,zip hE he⟩
 ·show (List.foldr DataW.insert [] _).length=_;rw [List.toList_toArray,hmap,(Go.WideShapes.sorted_perm _).length_eq,List.length_map]
 ·show (List.map (λp:Lit×DataW Unit=>Go.intOf p.fst) (List.foldr DataW.insert [] _)).Perm _;rw [List.toList_toArray,hmap];refine ((Go.WideShapes.sorted_perm _).map _).trans ?_;rw [map_map];exact .refl _
theorem q2c (hM:zP enc w r L) (hl:L.length<=maxLen) {B:Nat} (hB:w.cell? ⟨B,0,none⟩=some (.map (some r))) (n:Nat) (hn:1<=n) :
  SeqGives Fence.wide n Tryz.prog 134 #[.pointer (some ⟨B,0,none⟩)] encZ (λss=>ss.Perm (L.map (·.1))) L.length w:=by
 obtain ⟨E,c,hE,hp,hs⟩:=hM;have hlen:=qsz hp;obtain ⟨D0,hD,hsz,hpk⟩:=zdl hE (by omega);have hBl:B<w.heap.size:=by
  unfold World.cell? at hB;cases h:w.heap[B]? with
  | none=>rw [h] at hB;cases hB
  | some o=>exact (Array.getElem?_eq_some_iff.1 h).1
 have h:=AnyZI.keys_gives (ρ:=Tryz.keysA_ren) { Tryz.keysA with } Fence.wide n trivial rfl hn B r E.length D0 w hBl hB hD;rw [hsz,hlen] at h;have hpp:(E.map (·.k)).Perm (L.map (·.1)):=by
  have:=hp.map (·.1);unfold vM at this
  rwa [map_map] at this
 intro l J W hW hJ hY h0;refine (h l J W hW hJ hY h0).mono ?_;rintro e W' ⟨hv,xs,hxs,hJx⟩;exact ⟨hv,xs,(hxs.trans hpk).trans hpp,hJx⟩
theorem q1t {m:Option Nat} {w:World} {K:Value->Ub}
  (hK:K (.func (.func 134) #[] #[.pointer (some ⟨w.heap.size,0,none⟩)]) (w.alloc (.cells #[.map m] 196))):zN m w K:=by
 have h:=callsIn_wide.1 (AnyZI.keys_in Tryz.keysA Fence.wide 5 trivial rfl m w);refine Calls.mono (R:=λe w'=>e=.returned (.func (.func 134) #[] #[.pointer (some ⟨w.heap.size,0,none⟩)])/\w'=w.alloc (.cells #[.map m] 196)) h ?_;rintro e w' ⟨rfl,rfl⟩;exact ⟨_,rfl,hK⟩
theorem q6v {ss:List Int} (hs:Srt L) (hp:ss.Perm (L.map (·.1))):ss.mergeSort (λx y=>decide (x<=y))=L.map (·.1):=by
 have h1:(ss.mergeSort λx y=>decide (x<=y)).Pairwise λx y=>x<=y:=by
  have:=List.pairwise_mergeSort (le:=λx y:Int=>decide (x<=y)) (λa b c h1 h2=>by simp only [decide_eq_true_eq] at *;omega) (λa b=>by simp only [Bool.or_eq_true,decide_eq_true_eq];omega) ss;exact this.imp λh=>by simpa using h
 have h2:(L.map (·.1)).Pairwise λx y=>x<=y:=List.pairwise_map.2 (hs.imp λh=>Int.le_of_lt h);exact ((List.mergeSort_perm ss _).trans hp).eq_of_pairwise (λa b _ _ h1 h2=>Int.le_antisymm h1 h2) h1 h2
theorem q7n:∀xs:List Int,Zi jG xs=xs.map encZ
 | []=>rfl
 | x::xs=>by
  have ih:=q7n xs;unfold Zi at ih ⊢;rw [List.flatMap_cons,ih,List.map_cons];rfl
theorem qph {w:World} {base:Nat} {v:Value} {xs:List Int} (h:w.ownsRow base 3 1 v xs.length (xs.map encZ)):∃q:Slc,v=.slice q.a q.n q.c/\Go.Vc.Own jG w base q xs:=by
 have hf:=q7n xs;have hv:∃q:Slc,v=.slice q.a q.n q.c:=by
  rcases h.2 with ⟨rfl,_⟩ | ⟨g,cap,cur,rfl,_⟩
  ·exact ⟨⟨none,0,0⟩,rfl⟩
  ·exact ⟨⟨_,_,_⟩,rfl⟩
 obtain ⟨q,rfl⟩:=hv;refine ⟨q,rfl,?_⟩;unfold Go.Vc.Own;rw [hf];exact h
theorem q6z {B:Nat} {K:Slc->Ub} (hM:zP enc w r L) (hl:L.length<=1000000) (hB:w.cell? ⟨B,0,none⟩=some (.map (some r)))
  (hK:∀q w',Go.Vc.Own jG w' w.heap.size q (L.map (·.1))->Uc w w'->K q w'):vo (.func (.func 134) #[] #[.pointer (some ⟨B,0,none⟩)]) w K:=by
 have h:=callsIn_wide.1 (AnyZI.sorted_in Tryz.sortedA Fence.wide 5 trivial trivial trivial trivial rfl (by omega) (Tryz.sortsA _) (enters_of Tryz.func133 (by kernel_rfl) rfl) 134 #[.pointer (some ⟨B,0,none⟩)] trivial (enters_of Tryz.func134 (by kernel_rfl) rfl) _ L.length (by unfold maxLen;omega) (by omega) w (q2c hM (by unfold maxLen;omega) hB 2 (by omega)));refine Calls.mono h ?_;rintro e w' ⟨v,ss,rfl,hS,hrow,_,hb⟩;rw [q6v hM.srt hS] at hrow;rw [show ss.length=(L.map (·.1)).length from hS.length_eq] at hrow;obtain ⟨q,rfl,hq⟩:=qph hrow;exact ⟨q,rfl,hK q w' hq hb⟩
theorem q4u {B:Nat} {K:Slc->Ub} (hM:zP enc w r L) (hl:L.length<=1000000) (hB:w.cell? ⟨B,0,none⟩=some (.map (some r)))
  (hK:∀q w' ss,ss.Perm (L.map (·.1))->Go.Vc.Own jG w' w.heap.size q ss->Uc w w'->K q w'):VC (.func (.func 134) #[] #[.pointer (some ⟨B,0,none⟩)]) w K:=by
 have h:=callsIn_wide.1 (AnyZI.collect_in (ρ:=Tryz.sortedA_ren) { Tryz.sortedA with } Fence.wide 5 trivial trivial rfl (by omega) 134 #[.pointer (some ⟨B,0,none⟩)] trivial (enters_of Tryz.func134 (by kernel_rfl) rfl) _ L.length (by unfold maxLen;omega) (by omega) w (q2c hM (by unfold maxLen;omega) hB 3 (by omega)));refine Calls.mono h ?_;rintro e w' ⟨v,ss,rfl,hS,hrow,_,hb⟩;obtain ⟨q,rfl,hq⟩:=qph hrow;exact ⟨q,rfl,hK q w' ss hS hq hb⟩
end
end YtlmpnfhmpjldaaaGreatDoor
end Go.Proofs
namespace Go.Vc
open Go.RowKit
open Go.ChangeMaps (setBlock)
open _root_.List (mem_cons mem_filter mem_map)
open _root_.Nat (le_refl)
section
variable {V:Type} (enc:V->Value)
def qqx (w:World) (r it:Nat) (L todo:List (Int×V)):Prop :=
 ∃E c since kj c0,MapE enc w r E c/\(vM E).Perm L/\Srt L/\w.heap[it]?=some (.mapIter (some r) since kj c0)/\(∀e∈E,e.b<since)/\since<=c0/\since<=c /\
  (vM (E.filter λe=>!kj.contains e.b)).Perm todo
variable {enc}
variable {P:Program} {t kt et:TypeId} {w:World} {r it:Nat} {L todo:List (Int×V)}
theorem qqx.map (h:qqx enc w r it L todo):zP enc w r L:=by
 obtain ⟨E,c,_,_,_,h1,h2,h3,_⟩:=h;exact ⟨E,c,h1,h2,h3⟩
theorem qqx.keep {w':World} (h:qqx enc w r it L todo) (hr:w'.heap[r]?=w.heap[r]?) (hi:w'.heap[it]?=w.heap[it]?):qqx enc w' r it L todo:=by
 obtain ⟨E,c,since,kj,c0,h1,h2,h3,h4,h5⟩:=h;exact ⟨E,c,since,kj,c0,⟨hr.trans h1.heap,h1.keys,h1.stamps,h1.lt,h1.wf⟩,h2,h3,hi.trans h4,h5⟩
theorem qqx.it_lt (h:qqx enc w r it L todo):it<w.heap.size:=by
 obtain ⟨E,c,since,kj,c0,h1,h2,h3,h4,h5⟩:=h;exact (Array.getElem?_eq_some_iff.1 h4).1
theorem qqx.ext {w':World} (h:qqx enc w r it L todo) (hb:Uc w w'):qqx enc w' r it L todo:=h.keep (hb.block r h.map.lt) (hb.block it h.it_lt)
theorem zb5 (hM:zP enc w r L) (ht:P.underlying t=some (.map kt et)) {K:Addr->Ub}
  (hK:∀w',qqx enc w' r w.heap.size L L->Uc w w'->w'.heap.size=w.heap.size+1->K ⟨w.heap.size,0,none⟩ w'):zba P t (.map (some r)) w K:=by
 obtain ⟨E,c,hE,hp,hs⟩:=hM;have hB:Uc w (w.alloc (.mapIter (some r) c #[] c)):=(Below.refl _ w).alloc (le_refl _) _;refine ⟨_,w.alloc (.mapIter (some r) c #[] c),?_,hK _ ⟨E,c,c,#[],c,⟨(hB.block r hE.lt_heap).trans hE.heap,hE.keys,hE.stamps,hE.lt,hE.wf⟩,hp,hs,?_,hE.lt,le_refl _,le_refl _,?_⟩ hB (by show (w.heap.push _).size=_;simp)⟩
 ·simp [Instr.range,run_underlying ht,kf hE.heap,newObj,Sem.run]
 ·show (w.heap.push _)[w.heap.size]?=_;simp
 ·rw [List.filter_eq_self.2 (λx _=>by simp)];exact hp
theorem qxq {E:List (Ent V)} {kj:Array Nat} {x:MapEntry} (h:x∈(leftOf (E.map (Ent.val enc)).toArray kj).toList):∃e∈E.filter (λe=>!kj.contains e.b),Ent.val enc e=x:=by
 unfold leftOf at h;rw [Array.toList_filter] at h;obtain ⟨h1,h2⟩:=mem_filter.1 h;obtain ⟨e,he,rfl⟩:=mem_map.1 h1;exact ⟨e,mem_filter.2 ⟨he,h2⟩,rfl⟩
theorem zfe {E:List (Ent V)} {kj:Array Nat}:(leftOf (E.map (Ent.val enc)).toArray kj).size=(E.filter (λe=>!kj.contains e.b)).length:=by
 unfold leftOf;rw [<-Array.length_toList,Array.toList_filter,List.filter_map,List.length_map];rfl
theorem qz2 {E:List (Ent V)} (h:E.Pairwise λx y=>x.k≠y.k):E.Nodup:=h.imp λhab e=>hab (congrArg Ent.k e)
theorem zmt {E:List (Ent V)} (h:E.Pairwise λx y=>x.b<y.b):∀{x y},x∈E->y∈E->x.b=y.b->x=y:=by
 induction E with
 | nil=>intro x y hx;cases hx
 | cons a E ih =>
  have hp:=List.pairwise_cons.1 h;intro x y hx hy e;rcases mem_cons.1 hx with rfl | hx
  ·rcases mem_cons.1 hy with rfl | hy
   ·rfl
   ·have:=hp.1 y hy;omega
  ·rcases mem_cons.1 hy with e' | hy
   ·rw [e'] at e;have:=hp.1 x hx;omega
   ·exact ih hp.2 hx hy e
theorem q83 {E:List (Ent V)} (h1:E.Pairwise λx y=>x.k≠y.k) (h2:E.Pairwise λx y=>x.b<y.b) {kj:Array Nat} {e:Ent V} (he:e∈E.filter λe=>!kj.contains e.b) :
  (E.filter λx=>!kj.contains x.b).Perm (e::E.filter λx=>!(kj.push e.b).contains x.b):=by
 have hin:=(mem_filter.1 he).1;have hno:e ∉ E.filter λx=>!(kj.push e.b).contains x.b:=λh=>by simp at h
 refine (List.perm_ext_iff_of_nodup ((qz2 h1).filter _) (List.nodup_cons.2 ⟨hno,(qz2 h1).filter _⟩)).2 λx=>?_;rw [mem_cons,mem_filter,mem_filter];simp only [Array.contains_eq_mem,Array.mem_push,Bool.not_eq_true',decide_eq_false_iff_not];constructor
 ·rintro ⟨hx,hs⟩;by_cases hxe:x=e
  ·exact .inl hxe
  ·refine .inr ⟨hx,λh=>?_⟩;rcases h with h | h
   ·exact hs h
   ·exact hxe (zmt h2 hx hin h)
 ·rintro (rfl | ⟨hx,h⟩)
  ·have:=(mem_filter.1 he).2;simp only [Array.contains_eq_mem,Bool.not_eq_true',decide_eq_false_iff_not] at this;exact ⟨hin,this⟩
  ·exact ⟨hx,λhs=>h (.inl hs)⟩
theorem zee (hM:qqx enc w r it L todo) (ty:TypeId) {K0:Ub} {K1:Value->Value->Ub} (h0:todo=[]->K0 w)
  (h1:∀k v w' todo',todo.Perm ((k,v)::todo')->qqx enc w' r it L todo'->Chg (λi=>i=it) w w'->w'.heap.size=w.heap.size ->
   ((Instr.entry (.pointer (some ⟨it,0,none⟩))).run P w'=.ok (.tuple #[.int .i64 k,enc v]) w')->K1 (Ua k) (enc v) w') :
  zi5 P (.pointer (some ⟨it,0,none⟩)) false ty w K0 K1:=by
 obtain ⟨E,c,since,kj,c0,hE,hp,hs,hi,hlt,hsc,hsk,htd⟩:=hM;have hne:it≠r:=by
  rintro rfl;have:=hE.heap;rw [hi] at this;cases this
 rcases run_next_at (P:=P) w ty it r since c0 kj _ c hi hE.heap (λx hx=>by
   obtain ⟨e,he,rfl⟩:=mem_map.1 hx;exact hlt e he) hsc with ⟨hz,hrun⟩ | ⟨x,hx,w1,hw1,hrun⟩
 ·refine .inl ⟨w,hrun,h0 ?_⟩;rw [zfe] at hz;rw [List.eq_nil_of_length_eq_zero hz] at htd;exact htd.symm.eq_nil
 ·obtain ⟨e,he,rfl⟩:=qxq hx;have hin:=(mem_filter.1 he).1;have hi1:w1.heap[it]?=some (.mapIter (some r) since kj c0):=by rcases hw1 with rfl | rfl<;>exact hi
  have hE1:w1.heap[r]?=some (.map (E.map (Ent.val enc)).toArray c):=by rcases hw1 with rfl | rfl<;>exact hE.heap
  have hsz:w1.heap.size=w.heap.size:=by rcases hw1 with rfl | rfl<;>rfl
  have hset:=Go.MapKept.heap_set (o':=.mapIter (some r) since (kj.push e.b) c) hi1;have hr2:(setBlock w1 it (.mapIter (some r) since (kj.push e.b) c)).heap[r]?=some (.map (E.map (Ent.val enc)).toArray c):=(hset.2 r (λe1=>hne e1.symm)).trans hE1;have hfp:=q83 hE.keys hE.stamps he;refine .inr ⟨.int .i64 e.k,enc e.v,_,hrun,h1 e.k e.v _ (vM (E.filter λx=>!(kj.push e.b).contains x.b)) ?_ ⟨E,c,since,kj.push e.b,c,⟨hr2,hE.keys,hE.stamps,hE.lt,hE.wf⟩,hp,hs,hset.1,hlt,hsk,hsk,.refl _⟩ ?_ ?_ ?_⟩
  ·refine htd.symm.trans ?_;exact hfp.map λe=>(e.k,e.v)
  ·refine ⟨?_,?_,?_,?_,λk hk hn=>?_⟩
   ·rcases hw1 with rfl | rfl<;>rfl
   ·rcases hw1 with rfl | rfl<;>rfl
   ·rcases hw1 with rfl | rfl<;>rfl
   ·rcases hw1 with rfl | rfl<;>simp [setBlock]
   ·rcases hw1 with rfl | rfl<;>exact hset.2 k hn
  ·rcases hw1 with rfl | rfl<;>simp [setBlock]
  ·refine run_entry_at _ it r since kj _ c (Ent.val enc e) hset.1 hr2 (mem_map.2 ⟨e,hin,rfl⟩) ?_;rw [List.toList_toArray,List.map_map];exact List.pairwise_map.2 (hE.stamps.imp λ{a b} h (e:a.b=b.b)=>by rw [e] at h;exact Nat.lt_irrefl _ h)
theorem q0f (hM:zP enc w r L) (t:TypeId) :
  ∃w',(Extern.MapsClone.clone #[.iface t (.map (some r))]).run P w=.ok (.iface t (.map (some w.heap.size))) w'/\zP enc w' w.heap.size L/\Uc w w'/\w'.heap.size=w.heap.size+1:=by
 obtain ⟨E,c,hE,hp,hs⟩:=hM;have hB:Uc w (w.alloc (.map (E.map (Ent.val enc)).toArray c)):=(Below.refl _ w).alloc (le_refl _) _;refine ⟨_,?_,⟨E,c,⟨?_,hE.keys,hE.stamps,hE.lt,hE.wf⟩,hp,hs⟩,hB,by show (w.heap.push _).size=_;simp⟩
 ·have e:Extern.MapsClone.clone #[.iface t (.map (some r))]=(getObj r >>= λo=>match o with
   | .map entries clock=>(newObj (.map entries clock) >>= λn=>pure (.iface t (.map (some n))))
   | _ => stuck "maps.clone: a map expected") := rfl
  rw [e];simp [kf hE.heap,newObj,Sem.run]
 ·show (w.heap.push _)[w.heap.size]?=_;simp
theorem qou {xT k e:TypeId} {v:Value} (h:P.underlying t=some (.map k e)):(Instr.typeAssert (.iface t v) xT t false).run P w=.ok v w:=by
 simp [Instr.typeAssert,run_underlying h]
end
end Go.Vc
namespace Go.Proofs.YtlmpnfhmpjldaaaGreatDoor
open Go.Vc Go.RowKit
set_option maxRecDepth 100000
open IntKind (i64)
open _root_.List (mem_append mem_cons mem_cons_of_mem mem_singleton)
open _root_.Nat (le_refl)
theorem qrm {w:World} {T:Type} {E:El T} {b g:Nat} {s:Slc} {xs:List T} {t:TypeId} {vs:List Value} (h:Go.Vc.Own E w b s xs) (h':Blk w g t vs) (hne:E.t≠t):∀k,s.blk=some k->k≠g:=λk hk=>by
 obtain ⟨cs,hcs⟩:=h.blk_t hk;exact hcs.ne_t h' hne
theorem zdi {T:Type} {E:El T} {w:World} {s:Slc} {xs:List T} (h:Rd E w s xs) (hp:0<xs.length):∀a,s.a=some a->a.block<w.heap.size:=λa ha=>by
 have:=h.lt hp;simpa [Slc.at_,ha] using this
theorem qme {T:Type} {E:El T} {Sx:Nat->Prop} {w w':World} {s:Slc} {xs:List T} (h:Rd E w s xs) (hc:Chg Sx w w') (hg:0<xs.length->∀a,s.a=some a->¬Sx a.block):Rd E w' s xs:=by
 cases xs with
 | nil=>exact ⟨h.n,h.nc,h.cm,h.some_,λi x hx=>by simp at hx⟩
 | cons x xs=>exact h.chg hc (hg (by simp))
structure Hold (w:World) (base:Nat) (s:Slc) (xs:List UInt8):Prop where
 rd:Rd qu w s xs
 blk:∀k,s.blk=some k->base<=k/\∃cs,Blk w k za cs
theorem q86 {w:World} {base:Nat} {s:Slc} {xs:List UInt8} (h:Go.Vc.Own qu w base s xs):Hold w base s xs:=⟨h.rd,λk hk=>⟨(h.lt k hk).1,h.blk_t hk⟩⟩
theorem Hold.base {w:World} {base base':Nat} {s:Slc} {xs:List UInt8} (h:Hold w base s xs) (hb:base'<=base):Hold w base' s xs:=⟨h.rd,λk hk=>⟨Nat.le_trans hb (h.blk k hk).1,(h.blk k hk).2⟩⟩
theorem Hold.chg {Sx:Nat->Prop} {w w':World} {base:Nat} {s:Slc} {xs:List UInt8} (h:Hold w base s xs) (hc:Chg Sx w w') (hg:∀k,s.blk=some k->¬Sx k):Hold w' base s xs :=
 ⟨h.rd.chg hc λa ha=>hg _ (slk.2 ⟨a,ha,rfl⟩),λk hk=>by
  obtain ⟨h1,cs,h2⟩:=h.blk k hk;exact ⟨h1,cs,h2.chg hc (hg k hk)⟩⟩
theorem Hold.ext {w w':World} {base:Nat} {s:Slc} {xs:List UInt8} (h:Hold w base s xs) (hb:Uc w w'):Hold w' base s xs :=
 ⟨h.rd.ext hb,λk hk=>by
  obtain ⟨h1,cs,h2⟩:=h.blk k hk;exact ⟨h1,cs,h2.ext hb⟩⟩
theorem Hold.drew {w:World} {base:Nat} {s:Slc} {xs:List UInt8} (h:Hold w base s xs):Hold w.drew base s xs:=⟨h.rd.drew,h.blk⟩
theorem Hold.lt {w:World} {base:Nat} {s:Slc} {xs:List UInt8} (h:Hold w base s xs):∀k,s.blk=some k->base<=k/\k<w.heap.size:=λk hk=>by
 obtain ⟨h1,cs,h2⟩:=h.blk k hk;exact ⟨h1,h2.lt⟩
theorem Hold.ne_b {w:World} {base g:Nat} {s:Slc} {xs:List UInt8} {t:TypeId} {vs:List Value} (h:Hold w base s xs) (h':Blk w g t vs) (hne:za≠t):∀k,s.blk=some k->k≠g:=λk hk=>by
 obtain ⟨_,cs,h2⟩:=h.blk k hk;exact h2.ne_t h' hne
theorem Hold.ne_o {w:World} {base b':Nat} {s s':Slc} {xs:List UInt8} {T':Type} {E':El T'} {ys:List T'} (h:Hold w base s xs) (h':Go.Vc.Own E' w b' s' ys) (hne:za≠E'.t):∀k,s.blk=some k->s'.blk≠some k:=λk hk e=>by
 obtain ⟨_,cs,h2⟩:=h.blk k hk;obtain ⟨cs',hcs'⟩:=h'.blk_t e;exact h2.ne_t hcs' hne rfl
theorem Hold.ne_m {V:Type} {enc:V->Value} {w:World} {base r:Nat} {s:Slc} {xs:List UInt8} {L:List (Int×V)} (h:Hold w base s xs) (hM:zP enc w r L):∀k,s.blk=some k->k≠r:=λk hk=>by
 obtain ⟨_,cs,h2⟩:=h.blk k hk;exact λe=>hM.ne_blk h2 e.symm
abbrev qtg:qM:=⟨0,⟨0,0,⟨none,0,0⟩⟩,0,0⟩
structure Im where
 v:qM
 bs:List UInt8
def Im.enc (x:Im):Value:=.agg (qM.rep.cells x.v).toArray
structure St where
 quota:Int
 res:Int
 used:Int
 clock:Int
 L:List (Int×Im)
def St.cells (S:St) (r:Nat):List Value:=[(Ua S.quota),(Ua S.res),(Ua S.used),(Ua S.clock),(.map (some r))]
structure StM (w:World) (base g r:Nat) (S:St):Prop where
 blk:Blk w g zG (S.cells r)
 map:zP Im.enc w r S.L
 img:∀p∈S.L,Hold w base p.2.v.m.P p.2.bs
theorem q8l:PG.underlying qO=some (.map zz jl):=by kernel_rfl
theorem zco:PG.underlying zz=some (.int .i64):=by kernel_rfl
theorem znb:∀w,(zeroValue jl).run PG w=.ok (Im.enc ⟨qtg,[]⟩) w:=Tryz.zeroValue206
section
variable {w w':World} {base g r:Nat} {S:St}
theorem StM.keep {Sx:Nat->Prop} (h:StM w base g r S) (hc:Chg Sx w w') (hg:¬Sx g) (hr:¬Sx r) (hi:∀p∈S.L,∀k,p.2.v.m.P.blk=some k->¬Sx k):StM w' base g r S :=
 ⟨h.blk.chg hc hg,h.map.chg hc hr,λp hp=>(h.img p hp).chg hc (hi p hp)⟩
theorem StM.ext (h:StM w base g r S) (hb:Uc w w'):StM w' base g r S:=⟨h.blk.ext hb,h.map.ext hb,λp hp=>(h.img p hp).ext hb⟩
theorem StM.drew (h:StM w base g r S):StM w.drew base g r S:=⟨h.blk,h.map.keep rfl,λp hp=>(h.img p hp).drew⟩
theorem StM.ne (h:StM w base g r S):r≠g:=h.map.ne_blk h.blk
theorem StM.img_ne (h:StM w base g r S) {p:Int×Im} (hp:p∈S.L) {k:Nat} (hk:p.2.v.m.P.blk=some k):k≠g/\k≠r :=
 ⟨(h.img p hp).ne_b h.blk (by decide) k hk,(h.img p hp).ne_m h.map k hk⟩
theorem qsh {L:List (Int×Im)} (h:zP Im.enc w r L) (id:Int) {K:qM->Bool->Ub} (hK:K (((zA L id).map Im.v).getD qtg) (zA L id).isSome w) :
  qfb PG (Instr.lookup qO (.map (some r)) (Ua id) true) (Kind.struct qM.rep) Kind.bool w K:=by
 refine ⟨_,_,w,?_,hK⟩;rw [h.lookup_ok q8l zco znb id];cases zA L id<;>rfl
theorem qwu {L:List (Int×Im)} (h:zP Im.enc w r L) (id:Int) {K:qM->Ub} (hK:K (((zA L id).map Im.v).getD qtg) w) :
  jq PG (Instr.lookup qO (.map (some r)) (Ua id) false) (Kind.struct qM.rep) w K:=by
 refine ⟨_,w,?_,hK⟩;rw [h.lookup q8l zco znb id];cases zA L id<;>rfl
theorem qw {a:Addr} {K:Addr->Prop} (h:K a):qG (some a) K:=h
theorem qud (h:StM w base g r S) {K:Int->Ub} (hK:K S.used w):vY (some ⟨g,0,none⟩) w K:=by
 refine qjl _ ?_;exact qw (lI (x:=S.used) (h.blk.cells 2 _ rfl) hK)
theorem qgf {v:qM} {K:Addr->Ub}
  (hK:∀w',Blk w' w.heap.size jl (qM.rep.cells v)->Uc w w'->w'.heap.size=w.heap.size+1->K ⟨w.heap.size,0,none⟩ w') :
  nw jl [(Ua 0),(Ua 0),(Ua 0),(.slice none 0 0),(Ua 0),(Ua 0)] w λa w1=>stK a (qM.rep.cells v) w1 λw2=>K a w2 :=
 jd rfl hK
theorem zjn (h:StM w base g r S) (id:Int) {K:Bool->Ub} (hK:∀w',Uc w w'->K (zA S.L id).isSome w'):Kg (some ⟨g,0,none⟩) id w K:=by
 refine qm2 _ _ ?_;refine qw (xP (x:=some r) (h.blk.cells 4 _ rfl) (qsh h.map id ?_));exact qgf λw' _ hB _=>hK w' hB
theorem qxs (h:StM w base g r S) (id:Int) {K:qa->Bool->Ub} (hK:∀w',Uc w w'->K (((zA S.L id).map Im.v).getD qtg).m (zA S.L id).isSome w'):xB (some ⟨g,0,none⟩) id w K:=by
 refine KZ _ _ ?_;generalize hv:((zA S.L id).map Im.v).getD qtg=v at hK;refine nwb λw1 hb1 hB1 hs1=>?_;have h1:=h.ext hB1;refine qw (xP (x:=some r) (h1.blk.cells 4 _ rfl) (qsh h1.map id ?_));rw [hv];refine qgf λw2 hb2 hB2 hs2=>?_;refine qy (x:=v.m) (hb2.sub 1 _ rfl) ?_;have hb1':=hb1.ext hB2;refine qB hb1' (by simp [qa.rep]) λw3 hb3 hg3 hs3=>?_;have hb3:Blk w3 w.heap.size qz (qa.rep.cells v.m):=hb3;refine qy (x:=v.m) hb3.cells (hK w3 ?_);have hc:Chg (λk=>k=w.heap.size) w w3:=(Chg.of_ext (hB1.trans (hB2.mono (by omega)))).trans (Go.Vc.Chg.gg hg3) λi _ hi=>hi;exact hc.ext λi hi e=>by omega
end
def XX (L:List (Int×Im)):Nat:=(L.map λp=>p.2.bs.length).sum
structure StOk (n:Nat) (S:St):Prop where
 q0:0<=S.quota
 q1:S.quota<=1073741824
 used:S.used=XX S.L
 fits:S.used<=S.quota
 len:S.L.length<=n
 clk0:0<=S.clock
 clk:S.clock<=n
 srt:Srt S.L
 keys:∀p∈S.L,0<p.1/\p.1<=1099511627776+n
 stamps:∀p∈S.L,0<p.2.v.stamp/\p.2.v.stamp<=S.clock
 borns:∀p∈S.L,0<p.2.v.born/\p.2.v.born<=S.clock
 st1:∀p∈S.L,∀q∈S.L,p.2.v.stamp=q.2.v.stamp->p=q
 bo1:∀p∈S.L,∀q∈S.L,p.2.v.born=q.2.v.born->p=q
theorem q2f:XX []=0:=rfl
theorem ke (p:Int×Im) (L:List (Int×Im)):XX (p::L)=p.2.bs.length+XX L:=rfl
theorem zft {L:List (Int×Im)} {p:Int×Im} (h:p∈L):p.2.bs.length<=XX L:=by
 induction L with
 | nil=>cases h
 | cons a L ih =>
  rw [ke];rcases mem_cons.1 h with rfl | h
  ·omega
  ·have:=ih h;omega
theorem q3l {L:List (Int×Im)} {k:Int} (h:∀p∈L,p.1≠k):Go.Vc.delL L k=L:=List.filter_eq_self.2 λp hp=>by simpa using h p hp
theorem qs5 {L:List (Int×Im)} {k:Int} (h:zA L k=none):∀p∈L,p.1≠k:=λp hp e=>by
 unfold zA at h;rw [Option.map_eq_none_iff,List.find?_eq_none] at h;exact h p hp (by simpa using e)
theorem zen {L:List (Int×Im)} (hs:Srt L) {k:Int} {x:Im} (h:(k,x)∈L):XX (Go.Vc.delL L k)+x.bs.length=XX L:=by
 induction L with
 | nil=>cases h
 | cons a L ih =>
  have hp:=List.pairwise_cons.1 hs;unfold Go.Vc.delL;rw [List.filter_cons];rcases mem_cons.1 h with rfl | h
  ·have:(List.filter (λp:Int×Im=>p.1 !=k) L)=L:=q3l λp hq=>by have:=hp.1 p hq;simp at this;omega
   simp only [bne_self_eq_false,Bool.false_eq_true,if_false,this,ke];omega
  ·have h1:=hp.1 _ h;have:(a.1 !=k)=true:=by simp only [bne_iff_ne];simp at h1;omega
   rw [if_pos this,ke,ke];have:=ih hp.2 h;unfold Go.Vc.delL at this;omega
theorem q1p {L:List (Int×Im)} (k:Int):(Go.Vc.delL L k).length<=L.length:=List.length_filter_le _ _
theorem qpa {L:List (Int×Im)} {k:Int} {x:Im} (h:(k,x)∈L):(Go.Vc.delL L k).length<L.length:=by
 unfold Go.Vc.delL;exact List.length_filter_lt_length_iff_exists.2 ⟨_,h,by simp⟩
theorem YK {L:List (Int×Im)} {k:Int} {p:Int×Im} (h:p∈Go.Vc.delL L k):p∈L:=(List.mem_filter.1 h).1
def q1a (L:List (Int×Im)) (k:Int):Nat:=((zA L k).map λx=>x.bs.length).getD 0
theorem zk5 {L:List (Int×Im)} (hs:Srt L) (k:Int):q1a L k<=XX L:=by
 unfold q1a;cases h:zA L k with
 | none=>exact Nat.zero_le _
 | some x=>exact zft ((xH hs).1 h)
theorem zca {L:List (Int×Im)} (hs:Srt L) (k:Int):XX (Go.Vc.delL L k)+q1a L k=XX L:=by
 unfold q1a;cases h:zA L k with
 | none=>rw [q3l (qs5 h)];rfl
 | some x=>exact zen hs ((xH hs).1 h)
def St.drop (S:St) (k:Int):St:={ S with used:=S.used-(q1a S.L k:Int),L:=Go.Vc.delL S.L k }
theorem qmn {n:Nat} {S:St} (h:StOk n S) (k:Int):StOk n (S.drop k):=by
 have h1:=zca h.srt k;have h2:=h.used;have h3:=h.fits;exact ⟨h.q0,h.q1,by show S.used-(q1a S.L k:Int)=(XX (Go.Vc.delL S.L k):Int);omega,by show S.used-(q1a S.L k:Int)<=S.quota;omega,
  Nat.le_trans (q1p k) h.len,h.clk0,h.clk,qxi h.srt k,λp hp=>h.keys p (YK hp),λp hp=>h.stamps p (YK hp),λp hp=>h.borns p (YK hp),
  λp hp q hq=>h.st1 p (YK hp) q (YK hq),λp hp q hq=>h.bo1 p (YK hp) q (YK hq)⟩
def q1l:(Int×Im)->List (Int×Im)->Int×Im
 | p,[]=>p
 | p,q::r=>if q.2.v.stamp<p.2.v.stamp then q1l q r else q1l p r
theorem qsm:∀(L:List (Int×Im)) (p:Int×Im),q1l p L∈p::L
 | [],p=>by simp [q1l]
 | q::r,p=>by
  unfold q1l;split
  ·exact mem_cons_of_mem _ (qsm r q)
  ·rcases mem_cons.1 (qsm r p) with e | e
   ·rw [e];exact List.mem_cons_self
   ·exact mem_cons_of_mem _ (mem_cons_of_mem _ e)
theorem q5a:∀(L:List (Int×Im)) (p:Int×Im),∀x∈p::L,(q1l p L).2.v.stamp<=x.2.v.stamp
 | [],p=>λx hx=>by
  rw [mem_singleton] at hx;subst hx;exact Int.le_refl _
 | q::r,p=>λx hx=>by
  unfold q1l;split
  ·rename_i hlt;have h1:=q5a r q;rcases mem_cons.1 hx with rfl | hx
   ·have:=h1 q List.mem_cons_self;omega
   ·exact h1 x hx
  ·rename_i hlt;have h1:=q5a r p;rcases mem_cons.1 hx with rfl | hx
   ·exact h1 x List.mem_cons_self
   ·rcases mem_cons.1 hx with rfl | hx
    ·have:=h1 p List.mem_cons_self;omega
    ·exact h1 x (mem_cons_of_mem _ hx)
def y6:List (Int×Im)->Int
 | []=>0
 | p::r=>(q1l p r).1
theorem zcl {n:Nat} {S:St} (h:StOk n S) {p:Int×Im} (hp:p∈S.L) (hmin:∀q∈S.L,p.2.v.stamp<=q.2.v.stamp):y6 S.L=p.1:=by
 cases hL:S.L with
 | nil=>rw [hL] at hp;cases hp
 | cons a r =>
  rw [hL] at hp hmin;have h1:=qsm r a;have h2:=q5a r a p hp;have h3:=hmin _ h1;have:=h.st1 p (by rw [hL];exact hp) _ (by rw [hL];exact h1) (by omega);show (q1l a r).1=p.1;rw [<-this]
theorem qpq {L:List (Int×Im)} (h:L≠[]):∃x,(y6 L,x)∈L:=by
 cases L with
 | nil=>exact absurd rfl h
 | cons a r=>exact ⟨(q1l a r).2,qsm r a⟩
def St.roomF (n:Int):Nat->St->List Int->St×List Int
 | 0,S,G=>(S,G)
 | f+1,S,G=>if S.used>S.quota-n/\0<S.L.length then St.roomF n f (S.drop (y6 S.L)) (G++[y6 S.L]) else (S,G)
def St.room (S:St) (n:Int):St×List Int:=S.roomF n S.L.length []
theorem qyh (n:Int):∀(f:Nat) (S:St) (G:List Int),S.L.length<=f->S.roomF n (f+1) G=S.roomF n f G
 | 0,S,G,h=>by
  show (if S.used>S.quota-n/\0<S.L.length then _ else (S,G))=(S,G);rw [if_neg (by omega)]
 | f+1,S,G,h=>by
  show (if S.used>S.quota-n/\0<S.L.length then St.roomF n (f+1) (S.drop (y6 S.L)) (G++[y6 S.L]) else (S,G))=(if S.used>S.quota-n/\0<S.L.length then St.roomF n f (S.drop (y6 S.L)) (G++[y6 S.L]) else (S,G));by_cases hc:S.used>S.quota-n/\0<S.L.length
  ·rw [if_pos hc,if_pos hc];refine qyh n f _ _ ?_;obtain ⟨x,hx⟩:=qpq (L:=S.L) (by intro e;rw [e] at hc;simp at hc);have:=qpa hx;show (Go.Vc.delL S.L (y6 S.L)).length<=f;omega
  ·rw [if_neg hc,if_neg hc]
theorem zit (n:Int) {f:Nat} {S:St} {G:List Int} (h:S.L.length<=f):S.roomF n f G=S.roomF n S.L.length G:=by
 induction f with
 | zero=>rw [show S.L.length=0 by omega]
 | succ f ih =>
  by_cases hf:S.L.length=f+1
  ·rw [hf]
  ·rw [qyh n f S G (by omega),ih (by omega)]
theorem qlt {m:Nat} (n:Int):∀(f:Nat) {S:St} {G:List Int},StOk m S->StOk m (S.roomF n f G).1
 | 0,_,_,h=>h
 | f+1,S,G,h=>by
  unfold St.roomF;split
  ·exact qlt n f (qmn h _)
  ·exact h
theorem qrs (n:Int):∀(f:Nat) (S:St) (G:List Int),(S.roomF n f G).1.quota=S.quota/\(S.roomF n f G).1.res=S.res/\(S.roomF n f G).1.clock=S.clock
 | 0,_,_=>⟨rfl,rfl,rfl⟩
 | f+1,S,G=>by
  unfold St.roomF;split
  ·exact qrs n f _ _
  ·exact ⟨rfl,rfl,rfl⟩
theorem qxj {m:Nat} {n:Int} (hn:0<=n):∀(f:Nat) {S:St} {G:List Int},StOk m S->n<=S.quota->S.L.length<=f->(S.roomF n f G).1.used<=S.quota-n
 | 0,S,G,h,hq,hl=>by
  show S.used<=S.quota-n;have:=h.used;rw [List.eq_nil_of_length_eq_zero (by omega:S.L.length=0),q2f] at this;omega
 | f+1,S,G,h,hq,hl=>by
  unfold St.roomF;by_cases hc:S.used>S.quota-n/\0<S.L.length
  ·rw [if_pos hc];obtain ⟨x,hx⟩:=qpq (L:=S.L) (by intro e;rw [e] at hc;simp at hc);have:=qpa hx;exact qxj hn f (qmn h _) hq (by show (Go.Vc.delL S.L (y6 S.L)).length<=f;omega)
  ·rw [if_neg hc];by_cases hz:S.L.length=0
   ·have:=h.used;rw [List.eq_nil_of_length_eq_zero hz,q2f] at this;show S.used<=_;omega
   ·show S.used<=_;omega
section
variable {w:World} {base g r n:Nat} {S:St}
theorem q35 {m:Sem Unit} {w w':World} {K:Option Value->Ub} (h:m.run PG w=.ok () w') (hK:K none w'):qng PG m w K:=⟨w',h,hK⟩
abbrev onS (g r:Nat):Nat->Prop:=λk=>k=g\/k=r
theorem StM.own_blk (h:StM w base g r S):∀p∈S.L,∀k,p.2.v.m.P.blk=some k->¬onS g r k:=λp hp k hk e=>by
 have:=h.img_ne hp hk;rcases e with e | e
 ·exact this.1 e
 ·exact this.2 e
theorem zjv (h:StM w base g r S) (id:Int):(((zA S.L id).map Im.v).getD qtg).m.P.n=q1a S.L id:=by
 unfold q1a;cases hl:zA S.L id with
 | none=>rfl
 | some x=>exact (h.img _ ((xH h.map.srt).1 hl)).rd.n
theorem qrr (h:StM w base g r S) {K:Ub} (hK:∀w',StM w' base g r { S with res:=0 }->Chg (onS g r) w w'->w'.heap.size=w.heap.size->K w'):k6 (some ⟨g,0,none⟩) w K:=by
 refine qd9 _ ?_;refine qw ?_;rw [qH];refine qB h.blk (by simp [St.cells]) λw1 hb1 hg1 hs1=>?_;have hc:Chg (onS g r) w w1:=(Go.Vc.Chg.gg hg1).mono λi _ hi=>.inl hi;refine hK w1 ⟨hb1,h.map.chg (Go.Vc.Chg.gg hg1) h.ne,λp hp=>(h.img p hp).chg hc (h.own_blk p hp)⟩ hc hs1
theorem qsx (h:StM w base g r S) (hk:StOk n S) (id:Int) {K:Bool->Ub}
  (hK:∀w',StM w' base g r (S.drop id)->Chg (onS g r) w w'->K (zA S.L id).isSome w'):kg (some ⟨g,0,none⟩) id w K:=by
 refine qiu _ _ ?_;refine qw (xP (x:=some r) (h.blk.cells 4 _ rfl) (qsh h.map id ?_));have hn:=zjv h id;generalize hv:((zA S.L id).map Im.v).getD qtg=v at hn;refine qgf λw1 hb1 hB1 hs1=>?_;have h1:=h.ext hB1;refine qw (lI (x:=S.used) (h1.blk.drew.cells 2 _ rfl) ?_);refine lSl (x:=v.m.P) (by rw [zR];exact hb1.drew.cells 3 _ rfl) ?_;refine qw ?_;rw [qH,hn];refine qB h1.blk.drew (by simp [St.cells]) λw2 hb2 hg2 hs2=>?_;have hu:=hk.used;have hz:=zk5 hk.srt id;have hq:=hk.fits;have hq1:=hk.q1;rw [qQ (by omega)] at hb2;have hb2:Blk w2 g zG (({ S with used:=S.used-(q1a S.L id:Int) }:St).cells r):=hb2;have hm2:zP Im.enc w2 r S.L:=h1.drew.map.chg (Go.Vc.Chg.gg hg2) h.ne;refine qw (xP (x:=some r) (hb2.cells 4 _ rfl) ?_);obtain ⟨w3,hr3,hm3,hc3,hs3⟩:=hm2.delete q8l zco id qg7;refine ⟨_,w3,hr3,hK w3 ⟨?_,hm3,λp hp=>?_⟩ ?_⟩
 ·exact hb2.chg hc3 λe=>h.ne e.symm
 ·have hp':p∈S.L:=YK hp;exact (((h1.img p hp').drew).chg (Go.Vc.Chg.gg hg2) λk hk=>(h.img_ne hp' hk).1).chg hc3 λk hk=>(h.img_ne hp' hk).2
 ·have c1:Chg (onS g r) w w1:=Chg.of_ext hB1;have c2:Chg (onS g r) w1 w1.drew:=Chg.of_ext (Below.refl _ w1).drew;exact ((c1.trans c2 λi _ hi=>hi).trans (Go.Vc.Chg.gg hg2) λi _ hi=>.inl hi).trans hc3 λi _ hi=>.inr hi
def St.use (S:St) (id:Int):St:=match zA S.L id with
 | some x=>{ S with clock:=S.clock+1,L:=kC S.L id { x with v:={ x.v with stamp:=S.clock+1 } } }
 | none=>S
theorem zg6 (h:StM w base g r S) (hk:StOk n S) (hn:n<=1000) (id:Int) {K:Bool->Ub}
  (hK:∀w',StM w' base g r (S.use id)->Chg (onS g r) w w'->K (zA S.L id).isSome w'):JF (some ⟨g,0,none⟩) id w K:=by
 refine qlk _ _ ?_;refine qw (xP (x:=some r) (h.blk.cells 4 _ rfl) (qsh h.map id ?_));have huse:S.use id=match zA S.L id with
  | some x=>{ S with clock:=S.clock+1,L:=kC S.L id { x with v:={ x.v with stamp:=S.clock+1 } } }
  | none=>S:=rfl
 cases hl:zA S.L id with
 | none =>
  rw [hl] at hK huse;rw [huse] at hK;refine qgf λw1 hb1 hB1 hs1=>?_;exact cF rfl (hK w1 (h.ext hB1) (Chg.of_ext hB1))
 | some x =>
  rw [hl] at hK huse;rw [huse] at hK;have hx:=(xH hk.srt).1 hl;refine qgf λw1 hb1 hB1 hs1=>?_;have hb1:Blk w1 w.heap.size jl (qM.rep.cells x.v):=hb1;have h1:=h.ext hB1;refine cT rfl ?_;have hc0:=hk.clk0;have hc1:=hk.clk;refine qw (lI (x:=S.clock) (h1.blk.cells 3 _ rfl) (qw ?_));rw [qH];refine qB h1.blk (by simp [St.cells]) λw2 hb2 hg2 hs2=>?_;rw [qQ (by omega)] at hb2;have hb2:Blk w2 g zG (({ S with clock:=S.clock+1 }:St).cells r):=hb2;have hm2:zP Im.enc w2 r S.L:=h1.map.chg (Go.Vc.Chg.gg hg2) h.ne;have hbx2:=hb1.chg (Go.Vc.Chg.gg hg2) λe=>by have:=h.blk.lt;omega
  refine qw (lI (x:=S.clock+1) (hb2.cells 3 _ rfl) ?_);rw [qH];refine qB hbx2 (by simp [qM.rep]) λw3 hb3 hg3 hs3=>?_;have hb3:Blk w3 w.heap.size jl (qM.rep.cells { x.v with stamp:=S.clock+1 }):=hb3;have hgl:=h.blk.lt;have hrl:=h.map.lt;have hb23:=hb2.chg (Go.Vc.Chg.gg hg3) λe=>by omega
  have hm3:zP Im.enc w3 r S.L:=hm2.chg (Go.Vc.Chg.gg hg3) λe=>by omega
  refine qw (xP (x:=some r) (hb23.drew.cells 4 _ rfl) ?_);refine qy (x:={ x.v with stamp:=S.clock+1 }) hb3.drew.cells ?_;obtain ⟨w4,hr4,hm4,hc4,hs4⟩:=(hm3.keep (w':=w3.drew) rfl).update q8l zco (k:=id) (by have:=hk.keys _ hx;simp at this;omega) (enc:=Im.enc) { x with v:={ x.v with stamp:=S.clock+1 } };have cAll:Chg (onS g r) w w4:=by
   have c1:Chg (onS g r) w w1:=Chg.of_ext hB1;have c3:Chg (λk=>k=g\/k=w.heap.size) w1 w3:=((Go.Vc.Chg.gg hg2).mono (S':=λk=>k=g\/k=w.heap.size) λi _ hi=>.inl hi).trans (Go.Vc.Chg.gg hg3) λi _ hi=>.inr hi;have c5:Chg (onS g r) w3 w4:=((Chg.of_ext (S:=onS g r) (Below.refl _ w3).drew)).trans hc4 λi _ hi=>.inr hi;refine (c1.trans c3 λi hi e=>?_).trans c5 λi _ hi=>hi;rcases e with e | e
   ·exact .inl e
   ·omega
  refine q35 hr4 (hK w4 ⟨?_,hm4,λp hp=>?_⟩ cAll)
  ·exact hb23.drew.chg hc4 λe=>h.ne e.symm
  ·obtain ⟨a,b⟩:=p;rcases (Qk hk.srt _ _ a b).1 hp with ⟨rfl,rfl⟩ | ⟨_,hp'⟩
   ·exact (h.img _ hx).chg cAll (h.own_blk _ hx)
   ·exact (h.img _ hp').chg cAll (h.own_blk _ hp')
end
def vOf (L:List (Int×Im)) (k:Int):qM:=((zA L k).map Im.v).getD qtg
def qdo (L:List (Int×Im)) (n b:Int) (ok:Bool):Prop :=
 (ok=false/\b=0/\∀p∈L,¬(n≠0/\p.2.v.number=n))\/(ok=true/\∃x,(b,x)∈L/\n≠0/\x.v.number=n/\∀p∈L,p.2.v.number=n->p.2.v.born<=x.v.born)
theorem qdo.one {m:Nat} {S:St} (hk:StOk m S) {n b b':Int} {ok ok':Bool} (h:qdo S.L n b ok) (h':qdo S.L n b' ok'):b=b'/\ok=ok':=by
 rcases h with ⟨rfl,rfl,h⟩ | ⟨rfl,x,hx,hn,hxn,hm⟩
 ·rcases h' with ⟨rfl,rfl,_⟩ | ⟨rfl,x',hx',hn',hxn',_⟩
  ·exact ⟨rfl,rfl⟩
  ·exact absurd ⟨hn',hxn'⟩ (h _ hx')
 ·rcases h' with ⟨rfl,rfl,h'⟩ | ⟨rfl,x',hx',hn',hxn',hm'⟩
  ·exact absurd ⟨hn,hxn⟩ (h' _ hx)
  ·have h1:=hm _ hx' hxn';have h2:=hm' _ hx hxn;have:=hk.bo1 _ hx _ hx' (by simp at h1 h2 ⊢;omega);exact ⟨congrArg Prod.fst this,rfl⟩
section
variable {w:World} {base g r n:Nat} {S:St}
theorem q7h (h:StM w base g r S) (hk:StOk n S) (hn:n<=1000) {K:Slc->Ub}
  (hK:∀q w',Go.Vc.Own jG w' w.heap.size q (S.L.map (·.1))->Uc w w'->K q w'):yD (some ⟨g,0,none⟩) w K:=by
 refine qly _ ?_;refine qw (xP (x:=some r) (h.blk.cells 4 _ rfl) (q1t ?_));have hB:Uc w (w.alloc (.cells #[.map (some r)] 196)):=(Below.refl _ w).alloc (le_refl _) _;have hb:Blk (w.alloc (.cells #[.map (some r)] 196)) w.heap.size 196 [.map (some r)]:=Blk.new w 196 [.map (some r)];have hl:=hk.len;refine q6z (L:=S.L) (h.map.ext hB) (by omega) (hb.cell 0 rfl) λq w' ho hB'=>?_;have hs:(w.alloc (.cells #[.map (some r)] 196)).heap.size=w.heap.size+1:=by show (w.heap.push _).size=_;simp
 exact hK q w' (ho.base (by omega)) (hB.trans (hB'.mono (by omega)))
def qbi (D:List (Int×Im)) (n b bo:Int):Prop :=
 (b=0/\bo=0/\∀p∈D,¬(n≠0/\p.2.v.number=n))\/(∃x,(b,x)∈D/\n≠0/\x.v.number=n/\x.v.born=bo/\0<bo/\∀p∈D,p.2.v.number=n->p.2.v.born<=bo)
theorem qbi.yes {D:List (Int×Im)} {n b bo k:Int} {x:Im} (h:qbi D n b bo) (hn:n≠0) (hx:x.v.number=n) (hb:x.v.born>bo) (h0:0<=bo):qbi (D++[(k,x)]) n k x.v.born:=by
 refine .inr ⟨x,by simp,hn,hx,rfl,by omega,λp hp hpn=>?_⟩;rcases mem_append.1 hp with hp | hp
 ·rcases h with ⟨_,_,h⟩ | ⟨_,_,_,_,_,_,h⟩
  ·exact absurd ⟨hn,hpn⟩ (h p hp)
  ·have:=h p hp hpn;omega
 ·rw [mem_singleton] at hp;subst hp;exact Int.le_refl _
theorem qbi.no {D:List (Int×Im)} {n b bo k:Int} {x:Im} (h:qbi D n b bo) (hx:¬(n≠0/\x.v.number=n/\x.v.born>bo)) (h1:0<x.v.born):qbi (D++[(k,x)]) n b bo:=by
 rcases h with ⟨rfl,rfl,h⟩ | ⟨y,hy,hn,hyn,hyb,h0,h⟩
 ·refine .inl ⟨rfl,rfl,λp hp=>?_⟩;rcases mem_append.1 hp with hp | hp
  ·exact h p hp
  ·rw [mem_singleton] at hp;subst hp;exact λ⟨a,b⟩=>hx ⟨a,b,h1⟩
 ·refine .inr ⟨y,List.mem_append_left _ hy,hn,hyn,hyb,h0,λp hp hpn=>?_⟩;rcases mem_append.1 hp with hp | hp
  ·exact h p hp hpn
  ·rw [mem_singleton] at hp;subst hp;show x.v.born<=bo;exact Int.not_lt.1 λc=>hx ⟨hn,hpn,c⟩
theorem qbi.nonneg {D:List (Int×Im)} {n b bo:Int} (h:qbi D n b bo):0<=bo:=by
 rcases h with ⟨_,rfl,_⟩ | ⟨_,_,_,_,_,h,_⟩
 ·exact Int.le_refl _
 ·omega
theorem qbi.res {D L:List (Int×Im)} {n b bo:Int} (h:qbi D n b bo) (hp:D.Perm L):qdo L n b (decide (bo>0)):=by
 rcases h with ⟨rfl,rfl,h⟩ | ⟨y,hy,hn,hyn,hyb,h0,h⟩
 ·exact .inl ⟨rfl,rfl,λp hp'=>h p (hp.mem_iff.2 hp')⟩
 ·refine .inr ⟨dTq h0,y,hp.mem_iff.1 hy,hn,hyn,λp hp' hpn=>?_⟩;rw [hyb];exact h p (hp.mem_iff.2 hp') hpn
theorem q8b {m:Nat} (h:StM w base g r S) (hk:StOk m S) (n:Int) {K:Int->Bool->Ub}
  (hK:∀b ok w',qdo S.L n b ok->Uc w w'->K b ok w'):yX (some ⟨g,0,none⟩) n w K:=by
 refine qez _ _ ?_;unfold yx;refine qw (xP (x:=some r) (h.blk.cells 4 _ rfl) ?_);refine zb5 h.map q8l λw1 hI1 hB1 hs1=>?_;refine qrt (Inv:=λk (s:Int×Int×Unit) w2=>∃D todo:List (Int×Im),k=todo.length/\qqx Im.enc w2 r w.heap.size S.L todo/\(D++todo).Perm S.L/\qbi D n s.1 s.2.1/\Chg (λi=>i=w.heap.size) w w2/\w.heap.size<w2.heap.size) S.L.length
  ⟨[],S.L,rfl,hI1,.refl _,.inl ⟨rfl,rfl,λp hp=>by cases hp⟩,Chg.of_ext hB1,by omega⟩ ?_
 rintro k ⟨b,bo,⟨⟩⟩ w2 ⟨D,todo,rfl,hI,hp,hN,hc,hlt⟩ I hI';refine zee hI qg7 (λe=>?_) λk1 v1 w3 todo' hp1 hI3 hc3 hs3 hent=>?_
 ·subst e;rw [List.append_nil] at hp;exact hK _ _ w2 (hN.res hp) (hc.ext λi hi e=>by omega)
 ·have hxL:(k1,v1)∈S.L:=hp.mem_iff.1 (List.mem_append_right _ (hp1.mem_iff.2 List.mem_cons_self));refine ⟨k1,v1.v,w3,hent,?_⟩;refine qgf λw4 hb4 hB4 hs4=>?_;have hc4:Chg (λi=>i=w.heap.size) w w4:=(hc.trans hc3 λi _ hi=>hi).trans (Chg.of_ext hB4) λi _ hi=>hi;have hI4:=hI3.ext hB4;have hlen:todo'.length<todo.length:=by rw [hp1.length_eq];simp
  have hpn:((D++[(k1,v1)])++todo').Perm S.L:=by
   refine List.Perm.trans ?_ hp;rw [List.append_assoc];exact hp1.symm.append_left D
  have hbo:=hN.nonneg;have hvb:=(hk.borns _ hxL).1;refine jpO λJ hJ=>?_;have fin:∀c:Bool,(c=true↔n≠0/\v1.v.number=n/\v1.v.born>bo)->J (c,()) w4:=λc hcc=>by
   refine hJ _ _ ?_;cases c with
   | true =>
    obtain ⟨h1,h2,h3⟩:=hcc.1 rfl;refine cT rfl (lI (x:=v1.v.born) (hb4.drew.cells 5 _ rfl) ?_);exact hI' _ _ _ ⟨_,_,rfl,hI4.keep rfl rfl,hpn,hN.yes h1 h2 h3 hbo,hc4.trans (Chg.of_ext (Below.refl _ w4).drew) λi _ hi=>hi,by show w.heap.size<w4.heap.size;omega⟩ hlen
   | false =>
    refine cF rfl ?_;exact hI' _ _ _ ⟨_,_,rfl,hI4,hpn,hN.no (λhc=>by have:=hcc.2 hc;cases this) hvb,hc4,by omega⟩ hlen
  refine cO (λe1=>?_) λe1=>?_
  ·have e1:=bne_iff_ne.1 e1;refine lI (x:=v1.v.number) (hb4.cells 0 _ rfl) ?_;refine cO (λe2=>?_) λe2=>?_
   ·have e2:=eq_of_beq e2;refine lI (x:=v1.v.born) (hb4.cells 5 _ rfl) (fin _ ?_);rw [decide_eq_true_iff];exact ⟨λh=>⟨e1,e2,h⟩,λh=>h.2.2⟩
   ·refine fin _ ⟨(λh=>by cases h),λh=>?_⟩;rw [h.2.1] at e2;simp at e2
  ·refine fin _ ⟨(λh=>by cases h),λh=>?_⟩;simp at e1;exact absurd e1 h.1
end
abbrev q8j (L:List (Int×Im)) (k:Int):Int:=(vOf L k).stamp
section
variable {w:World} {base g r n:Nat} {S:St}
theorem qqo {x y:Int} {K:Int->Ub} (hK:∀c:Int,(c<0↔x<y)->K c w):vu x y w K:=by
 refine qgz _ _ ?_;refine V9 _ ?_;refine V9 _ ?_;refine cF (by simp) (cF (by simp) (cO (λh=>?_) λh=>cO (λh'=>?_) λh'=>?_))
 ·exact hK _ ⟨λ_=>oTq h,λ_=>by decide⟩
 ·have:=oFq h;exact hK _ ⟨λh=>absurd h (by decide),λh=>absurd h this⟩
 ·have:=oFq h;exact hK _ ⟨λh=>absurd h (by decide),λh=>absurd h this⟩
theorem zb4 {bx:Nat} (h:StM w base g r S) (hb:Blk w bx QD [(.pointer (some ⟨g,0,none⟩))]) (a b:Int) {K:Int->Ub}
  (hK:∀c:Int,(c<0↔q8j S.L a<q8j S.L b)->K c w.drew):Qe a b ⟨bx,0,none⟩ w K:=by
 refine qec _ _ _ ?_;have hd:=h.drew;have e1:World.cell? w.drew ⟨bx,0,none⟩=some (.pointer (some ⟨g,0,none⟩)):=hb.drew.cell 0 rfl;have e2:World.cell? w.drew ((⟨g,0,none⟩:Addr).add 4)=some (.map (some r)):=hd.blk.cells 4 _ rfl;refine qK (x:=some ⟨g,0,none⟩) e1 (qw (xP (x:=some r) e2 ?_));refine qK (x:=some ⟨g,0,none⟩) e1 (qw (xP (x:=some r) e2 ?_));refine ⟨qwu hd.map a ⟨e2,e1,qwu hd.map b ⟨e2,e1,qqo hK⟩⟩,?_⟩;exact qwu hd.map b ⟨e2,e1,qwu hd.map a ⟨e2,e1,qqo hK⟩⟩
theorem zi2 {bx:Nat} {x:Slc} {xs:List Int} (h:StM w base g r S) (hb:Blk w bx QD [(.pointer (some ⟨g,0,none⟩))]) (hx:Rd jG w x xs) (hne:0<xs.length) (hlen:xs.length<=1000000) {K:Int->Ub}
  (hK:∀m w',m∈xs->(∀k∈xs,q8j S.L m<=q8j S.L k)->Uc w w'->K m w'):vg x (.func (.func X7) #[] #[(.pointer (some ⟨bx,0,none⟩))]) w K:=by
 refine YI _ _ ?_;rw [hx.n];refine jpO λJ hJ=>?_;refine cF (dFq (by omega)) (hJ _ _ ?_);refine hx.ix (i:=0) rfl (by omega) (by omega) λh0=>?_;refine lI (x:=xs[((0:Int)).toNat]) (by simpa using h0 0 _ rfl) ?_;refine lpR (Inv:=λ(s:Int×Int×Unit) w2=>∃j:Nat,s.2.1=(j:Int)/\1<=j/\j<=xs.length/\s.1∈xs/\(∀k∈xs.take j,q8j S.L s.1<=q8j S.L k)/\Uc w w2) (μ:=λs=>xs.length-s.2.1.toNat) ?_ ?_
 ·refine ⟨1,rfl,le_refl _,hne,List.getElem_mem _,λk hk=>?_,Below.refl _ w⟩;cases xs with
  | nil=>simp at hne
  | cons a xs =>
   simp at hk;subst hk;exact Int.le_refl _
 ·rintro ⟨m,i,⟨⟩⟩ w2 ⟨j,hj,hj1,hj2,hm,hmin,hB⟩ I hI;have hj:i=(j:Int):=hj;subst hj;refine cO (λhlt=>?_) λhge=>?_
  ·have hlt:j<xs.length:=by have:=oTq hlt;omega
   have hx2:=hx.ext hB;refine hx2.ix (i:=(j:Int)) rfl (by omega) (by omega) λhc=>?_;refine lI (x:=xs[((j:Int)).toNat]) (by simpa using hc 0 _ rfl) ?_;have ej:xs[((j:Int)).toNat]'(by omega)=xs[j]:=by simp
   refine Go.Vc.callR_plain (by kernel_rfl) ?_;have hcall:Qe (xs[((j:Int)).toNat]) m ⟨bx,0,none⟩ w2 (λt26 w3=>cond (decide (t26<(0:Int)))
     (ixK x (j:Int) 1 λt30=>ldI .i64 t30 w3 λt31=>I (t31,(i64.wrap ((j:Int)+(1:Int))),()) w3)
     (I (m,(i64.wrap ((j:Int)+(1:Int))),()) w3)):=by
    refine zb4 (h.ext hB) (hb.ext hB) _ _ λc hc'=>?_;rw [qQ (by omega)];have hBd:=hB.drew;have htake:∀k∈xs.take (j+1),k∈xs.take j\/k=xs[j]:=λk hk=>by
     rw [List.take_add_one,List.getElem?_eq_getElem hlt] at hk;rcases mem_append.1 hk with hk | hk
     ·exact .inl hk
     ·exact .inr (by simpa using hk)
    refine cO (λhneg=>?_) λhnn=>?_
    ·have hneg:=hc'.1 (oTq hneg);refine (hx.ext hBd).ix (i:=(j:Int)) rfl (by omega) (by omega) λhd=>?_;refine lI (x:=xs[((j:Int)).toNat]) (by simpa using hd 0 _ rfl) ?_;refine hI _ _ ⟨j+1,by simp,by omega,by omega,List.getElem_mem _,λk hk=>?_,hBd⟩ (by show xs.length-((j:Int)+1).toNat<xs.length-((j:Int)).toNat;omega);rcases htake k hk with hk | rfl
     ·have:=hmin k hk;show q8j S.L _<=_;simp only at hneg this ⊢;omega
     ·simp
    ·have hnn:¬_:=λhh=>absurd (hc'.2 hh) (oFq hnn);refine hI _ _ ⟨j+1,by simp,by omega,by omega,hm,λk hk=>?_,hBd⟩ (by show xs.length-((j:Int)+1).toNat<xs.length-((j:Int)).toNat;omega);rcases htake k hk with hk | rfl
     ·exact hmin k hk
     ·rw [ej] at hnn;exact Int.not_lt.1 hnn
   exact hcall
  ·have hge:¬_:=oFq hge;refine hK m w2 hm (λk hk=>hmin k ?_) hB;rw [List.take_of_length_le (by omega)];exact hk
end
section
variable {w:World} {base g r n:Nat} {S:St}
theorem zn8 {w:World} {b:Nat} {s:Slc} {xs:List Int} {v:Int} {K:Slc->Ub} (hown:Go.Vc.Own jG w b s xs) (hb:b<=w.heap.size) (hl:xs.length<=1000000)
  (hK:∀r w',Go.Vc.Own jG w' b r (xs++[v])->Chg (λk=>s.blk=some k) w w'->(r.blk=s.blk\/∃k,r.blk=some k/\w.heap.size<=k)->K r w') :
  nw zz [(Ua v)] w λt w1=>apK PG #[xf,xf] xf s (⟨(some t),1,1⟩:Slc) w1 K:=by
 refine nwb λw1 hb1 hB1 hs1=>?_;have hr:Rd jG w1 ⟨some ⟨w.heap.size,0,none⟩,1,1⟩ [v]:=Ze (E:=jG) hb1 rfl;refine jz qew (hown.ext hB1) hr (by omega) (by rw [qmi];simp;omega) (by simp [maxLen];omega) λq w2 ho hg hq=>hK q w2 ho ((Chg.of_ext (S:=λk=>s.blk=some k) hB1).trans (Chg.of_grown hg λk hk=>hk) λi _ hi=>hi) ?_;rcases hq with e | e
 ·exact .inl e
 ·exact .inr ⟨_,e,by omega⟩
theorem q8d {L:List (Int×Im)} (hs:Srt L) {p:Int×Im} (hp:p∈L):vOf L p.1=p.2.v:=by
 unfold vOf;rw [(xH hs).2 hp];rfl
theorem qt8 {m:Nat} {n:Int} (h:StM w base g r S) (hk:StOk m S) (hm:m<=1000) (hn:0<=n) (hq:n<=S.quota) {K:Slc->Ub}
  (hK:∀q w',StM w' base g r (S.room n).1->Go.Vc.Own jG w' w.heap.size q (S.room n).2->Chg (onS g r) w w'->K q w'):vP (some ⟨g,0,none⟩) n w K:=by
 refine qjs _ _ ?_;refine nwb λw1 hb1 hB1 hs1=>?_;have hglt:=h.blk.lt;have hrlt:=h.map.lt;refine qrt (Inv:=λk (s:Slc×Unit) w2=>∃S1 G,k=S1.L.length/\StM w2 base g r S1/\StOk m S1/\S1.quota=S.quota/\S1.roomF n S1.L.length G=S.room n/\G.length+S1.L.length<=m/\Go.Vc.Own jG w2 w.heap.size s.1 G/\Blk w2 w.heap.size QD [(.pointer (some ⟨g,0,none⟩))]/\Chg (λi=>onS g r i\/i=w.heap.size) w w2/\w.heap.size<w2.heap.size) S.L.length
  ⟨S,[],rfl,h.ext hB1,hk,rfl,rfl,by have:=hk.len;simpa using this,Go.Vc.Own.nil _ _ _,hb1,Chg.of_ext hB1,by omega⟩ ?_
 rintro k ⟨gone,⟨⟩⟩ w2 ⟨S1,G,rfl,hS,hk1,hqq,hroom,hGl,hO,hb2,hc2,hlt2⟩ I hI;have hq1:=hk1.q1;have hq0:=hk1.q0;have hO:Go.Vc.Own jG w2 w.heap.size gone G:=hO;have hchg:∀{w3:World},Chg (λi=>onS g r i\/i=w.heap.size) w w3->Chg (onS g r) w w3:=λhc=>hc.mono λi hi e=>e.resolve_right (by omega);refine jpO λJ hJ=>?_;have e1:World.cell? w2.drew ⟨w.heap.size,0,none⟩=some (.pointer (some ⟨g,0,none⟩)):=hb2.drew.cell 0 rfl;refine qK (x:=some ⟨g,0,none⟩) e1 (qw (lI (x:=S1.used) (hS.drew.blk.cells 2 _ rfl) ?_));refine qK (x:=some ⟨g,0,none⟩) e1 (qw (lI (x:=S1.quota) (hS.drew.blk.cells 0 _ rfl) ?_));rw [qQ (by omega)];have hBd:=(Below.refl w2.heap.size w2).drew;have stop:¬(S1.used>S1.quota-n/\0<S1.L.length)->K gone w2.drew:=λhno=>by
  have hend:S1.roomF n S1.L.length G=(S1,G):=by
   cases hL:S1.L.length with
   | zero=>rfl
   | succ f =>
    unfold St.roomF;rw [if_neg hno]
  rw [hend] at hroom;refine hK gone w2.drew ?_ ?_ (hchg (hc2.trans (Chg.of_ext hBd) λi _ hi=>hi))
  ·rw [<-hroom];exact hS.drew
  ·rw [<-hroom];exact hO.drew
 refine cO (λhgt=>?_) λhgt=>?_
 ·have hgt:=oTq hgt;refine qK (x:=some ⟨g,0,none⟩) e1 (qw (xP (x:=some r) (hS.drew.blk.cells 4 _ rfl) ?_));refine ⟨(S1.L.length:Int),w2.drew,hS.drew.map.len q8l zz,?_⟩;refine cO (λhpos=>?_) λhpos=>?_
  ·have hpos:=oTq hpos;refine hJ _ _ ?_;refine qK (x:=some ⟨g,0,none⟩) e1 (qw (xP (x:=some r) (hS.drew.blk.cells 4 _ rfl) (q1t ?_)));have hBa:Uc w2 (w2.drew.alloc (.cells #[.map (some r)] 196)):=hBd.alloc (le_refl _) _;have hba:Blk (w2.drew.alloc (.cells #[.map (some r)] 196)) w2.heap.size 196 [.map (some r)]:=Blk.new w2.drew 196 [.map (some r)];have hsa:(w2.drew.alloc (.cells #[.map (some r)] 196)).heap.size=w2.heap.size+1:=by show (w2.heap.push _).size=_;simp
   have hl:=hk1.len;refine q4u (L:=S1.L) (hS.map.ext hBa) (by omega) (hba.cell 0 rfl) λq w4 ss hss ho4 hB4=>?_;have hB24:Uc w2 w4:=hBa.trans (hB4.mono (by omega));have hS4:=hS.ext hB24;have hssl:ss.length=S1.L.length:=by rw [hss.length_eq,List.length_map]
   refine zi2 hS4 (hb2.ext hB24) ho4.rd (by omega) (by omega) λmn w5 hmn hmin hB5=>?_;have hS5:=hS4.ext hB5;have hB25:=hB24.trans (hB5.mono hB24.size);have hb5:=hb2.ext hB25;have heq:y6 S1.L=mn:=by
    obtain ⟨p,hp,rfl⟩:=List.mem_map.1 (hss.mem_iff.1 hmn);refine zcl hk1 hp λp' hp'=>?_;have:=hmin p'.1 (hss.mem_iff.2 (List.mem_map.2 ⟨p',hp',rfl⟩));unfold q8j at this
    rwa [q8d hk1.srt hp,q8d hk1.srt hp'] at this
   refine qK (x:=some ⟨g,0,none⟩) (hb5.cell 0 rfl) ?_;refine qsx hS5 hk1 mn λw6 hS6 hc6=>?_;have hO5:=hO.ext hB25;have hO6:=hO5.chg hc6 λk hk e=>by
    rcases e with e | e
    ·exact qrm hO5 hS5.blk (by decide) k hk e
    ·exact hS5.map.ne_own hO5 k hk e
   have hs5:=hB25.size;have hs6:=hc6.size;have hb6:=hb5.chg hc6 λe=>by rcases e with e | e<;>omega
   refine zn8 hO6 (by omega) (by omega) λq7 w7 ho7 hc7 _=>?_;have hS7:StM w7 base g r (S1.drop mn):=hS6.keep hc7 (λe=>qrm hO6 hS6.blk (by decide) g e rfl) (λe=>hS6.map.ne_own hO6 r e rfl) λp hp k hk e=>(hS6.img p hp).ne_o hO6 (by decide) k hk e;have hb7:=hb6.chg hc7 λe=>qrm hO6 hb6 (by decide) _ e rfl;obtain ⟨x,hx⟩:=qpq (L:=S1.L) (by intro e;rw [e] at hpos;simp at hpos);rw [heq] at hx;have hdl:=qpa hx;have hc27:Chg (λi=>onS g r i\/i=w.heap.size) w w7:=by
    refine ((hc2.trans (Chg.of_ext hB25) λi _ hi=>hi).trans hc6 λi _ hi=>.inl hi).trans hc7 λi hi e=>?_;have:=(hO6.lt i e).1;omega
   refine hI _ _ _ ⟨S1.drop mn,G++[mn],rfl,hS7,qmn hk1 mn,hqq,?_,?_,ho7,hb7,hc27,by have:=hc7.size;omega⟩ hdl
   ·rw [<-hroom];cases hL:S1.L.length with
    | zero=>omega
    | succ f =>
     have:S1.roomF n (f+1) G=(S1.drop (y6 S1.L)).roomF n f (G++[y6 S1.L]):=by
      show (if S1.used>S1.quota-n/\0<S1.L.length then St.roomF n f (S1.drop (y6 S1.L)) (G++[y6 S1.L]) else (S1,G))=_;rw [if_pos ⟨hgt,by omega⟩]
     rw [this,heq,zit n (f:=f) (by show (Go.Vc.delL S1.L mn).length<=f;omega)]
   ·have:(S1.drop mn).L.length<S1.L.length:=hdl;simp;omega
  ·have hpos:=oFq hpos;exact stop λhc=>hpos (by omega)
 ·have hgt:=oFq hgt;exact stop λhc=>hgt hc.1
def St.reserve (S:St) (n:Int):St×List Int×Int :=
 if n<0 then (S,[],1) else if n>S.quota then (S,[],6) else ((({ S with res:=n }:St).room n).1,(({ S with res:=n }:St).room n).2,0)
theorem qpg {m:Nat} (h:StOk m S) (n:Int):StOk m { S with res:=n }:=⟨h.q0,h.q1,h.used,h.fits,h.len,h.clk0,h.clk,h.srt,h.keys,h.stamps,h.borns,h.st1,h.bo1⟩
theorem qyk {m:Nat} (h:StOk m S) (n:Int):StOk m (S.reserve n).1:=by
 unfold St.reserve;split
 ·exact h
 ·split
  ·exact h
  ·exact qlt n _ (qpg h n)
theorem q3n {m:Nat} {n:Int} (h:StM w base g r S) (hk:StOk m S) (hm:m<=1000) {K:Slc->Int->Ub}
  (hK:∀q w',StM w' base g r (S.reserve n).1->Go.Vc.Own jG w' w.heap.size q (S.reserve n).2.1->Chg (onS g r) w w'->K q (S.reserve n).2.2 w'):y8 (some ⟨g,0,none⟩) n w K:=by
 refine qd4 _ _ ?_;unfold St.reserve at hK;refine cO (λe=>?_) λe=>?_
 ·have e:=oTq e;rw [if_pos e] at hK;exact hK _ w h (Go.Vc.Own.nil _ _ _) (Chg.refl _ _)
 ·have e:=oFq e;rw [if_neg e] at hK;refine qw (lI (x:=S.quota) (h.blk.cells 0 _ rfl) ?_);refine cO (λe2=>?_) λe2=>?_
  ·have e2:=oTq e2;rw [if_pos e2] at hK;exact hK _ w h (Go.Vc.Own.nil _ _ _) (Chg.refl _ _)
  ·have e2:=oFq e2;rw [if_neg e2] at hK;refine qw ?_;rw [qH];refine qB h.blk (by simp [St.cells]) λw1 hb1 hg1 hs1=>?_;have hc:Chg (onS g r) w w1:=(Go.Vc.Chg.gg hg1).mono λi _ hi=>.inl hi;have h1:StM w1 base g r { S with res:=n }:=⟨hb1,h.map.chg (Go.Vc.Chg.gg hg1) h.ne,λp hp=>(h.img p hp).chg hc (h.own_blk p hp)⟩;refine qt8 h1 (qpg hk n) hm (by omega) (by show n<=S.quota;omega) λq w2 hS2 ho2 hc2=>?_;exact hK q w2 hS2 (ho2.base (by omega)) (hc.trans hc2 λi _ hi=>hi)
end
def qkg (W H:Int):Bool:=(W==0 && H==0) || (decide (1<=W) && decide (W<=16384) && decide (1<=H) && decide (H<=16384) && decide (W*H<=67108864))
def qxp (W H:Int) (n:Nat):Bool:=qkg W H && ((n:Int)==4*W*H)
def qkh (n:Int):Bool:=decide (0<=n) && decide (n<=4294967295)
theorem qoa {n:Int} {w:World} {K:Bool->Ub} (hK:K (qkh n) w):QF n w K:=by
 refine qna _ ?_;unfold qkh at hK;refine cO (λh=>?_) λh=>?_
 ·rw [show decide (0<=n)=true from h,Bool.true_and] at hK;exact hK
 ·rw [show decide (0<=n)=false from h,Bool.false_and] at hK;exact hK
theorem q8a {W H:Int} (h1:1<=W) (h2:W<=16384) (h3:1<=H) (h4:H<=16384):1<=W*H/\W*H<=268435456:=by
 have a:=Int.mul_le_mul h1 h3 (by omega) (by omega);have b:=Int.mul_le_mul h2 h4 (by omega) (by omega);omega
theorem q6d {W H:Int} {w:World} {K:Bool->Ub} (hK:K (qkg W H) w):JD W H w K:=by
 refine VJ _ _ ?_;have tail:qkg W H=(decide (1<=W) && decide (W<=16384) && decide (1<=H) && decide (H<=16384) && decide (W*H<=67108864))->cond (decide (W>=(1:Int)))
     (cond (decide (W<=(16384:Int)))
       (cond (decide (H>=(1:Int)))
        (cond (decide (H<=(16384:Int)))
          (K (decide ((i64.wrap (W*H))<=(67108864:Int))) w)
          (K false w))
        (K false w))
       (K false w))
     (K false w):=λe=>by
  rw [e] at hK;refine cO (λh1=>?_) λh1=>?_
  ·have g1:=oTq h1;rw [show decide (1<=W)=true from h1] at hK;refine cO (λh2=>?_) λh2=>?_
   ·have g2:=oTq h2;rw [h2] at hK;refine cO (λh3=>?_) λh3=>?_
    ·have g3:=oTq h3;rw [show decide (1<=H)=true from h3] at hK;refine cO (λh4=>?_) λh4=>?_
     ·have g4:=oTq h4;rw [h4] at hK;have:=q8a g1 g2 g3 g4;rw [qQ (by omega)];simpa using hK
     ·rw [h4] at hK;simpa using hK
    ·rw [show decide (1<=H)=false from h3] at hK;simpa using hK
   ·rw [h2] at hK;simpa using hK
  ·rw [show decide (1<=W)=false from h1] at hK;simpa using hK
 refine cO (λh1=>?_) λh1=>?_
 ·refine cO (λh2=>?_) λh2=>?_
  ·unfold qkg at hK;rw [h1,h2] at hK;simpa using hK
  ·exact tail (by unfold qkg;rw [h1,h2];rfl)
 ·exact tail (by unfold qkg;rw [h1];rfl)
theorem za8 {W H:Int} (h:qkg W H=true):0<=W/\W<=16384/\0<=H/\H<=16384/\0<=W*H/\W*H<=67108864:=by
 unfold qkg at h;simp only [Bool.or_eq_true,Bool.and_eq_true,beq_iff_eq,decide_eq_true_eq] at h;rcases h with ⟨rfl,rfl⟩ | ⟨⟨⟨⟨h1,h2⟩,h3⟩,h4⟩,h5⟩
 ·decide
 ·have:=q8a h1 h2 h3 h4;omega
section
variable {w:World} {base g r n:Nat} {S:St}
theorem zab {m:qa} {K:Bool->Ub} (hK:∀w',Uc w w'->K (qxp m.W m.H m.P.n) w'):vh m w K:=by
 refine qe3 _ ?_;refine nwb λw1 hb1 hB1 hs1=>?_;refine lI (x:=m.W) (hb1.cells 0 _ rfl) (lI (x:=m.H) (hb1.cells 1 _ rfl) (q6d ?_));have hK:=hK w1 hB1;unfold qxp at hK;refine cO (λh=>?_) λh=>?_
 ·rw [h,Bool.true_and] at hK;have hb:=za8 h;refine lSl (x:=m.P) (hb1.cells 2 _ rfl) (lI (x:=m.W) (hb1.cells 0 _ rfl) (lI (x:=m.H) (hb1.cells 1 _ rfl) ?_));have h4:(4:Int)*m.W*m.H=4*(m.W*m.H):=Int.mul_assoc _ _ _;rw [qQ (x:=4*m.W) (by omega),qQ (by omega)];exact hK
 ·rw [h,Bool.false_and] at hK;exact hK
def qse (L:List (Int×Im)):Nat->Int->Int
 | 0,k=>k
 | f+1,k=>if (zA L k).isSome then qse L f (k+1) else k
def qdq (S:St) (id num W H:Int) (n:Nat):Int:=if qxp W H n && !(W==0) && qkh id && qkh num then (if (n:Int)>S.quota then 6 else 0) else 1
def St.putPre (S:St) (id:Int) (n:Nat):St×List Int:=(if id=0 then ({ S with res:=0 }:St) else ({ S with res:=0 }:St).drop id).room n
def Y5 (L:List (Int×Im)) (id:Int):Int:=if id=0 then qse L 2000 1099511627776 else id
def St.putAt (S:St) (i num W H:Int) (P:Slc) (bs:List UInt8):St:={ S with clock:=S.clock+1,used:=S.used+bs.length,L:=kC S.L i ⟨⟨num,⟨W,H,P⟩,S.clock+1,S.clock+1⟩,bs⟩ }
theorem qpu {L:List (Int×Im)}:∀(f:Nat) {k:Int} {j:Nat},j<f->zA L (k+j)=none->zA L (qse L f k)=none/\k<=qse L f k/\qse L f k<=k+j
 | 0,k,j,h,_=>by omega
 | f+1,k,j,h,hn=>by
  unfold qse;by_cases hs:(zA L k).isSome
  ·rw [if_pos hs];cases j with
   | zero =>
    simp at hn;rw [hn] at hs;cases hs
   | succ j =>
    have:=qpu f (k:=k+1) (j:=j) (by omega) (by rw [show k+1+(j:Int)=k+((j+1:Nat):Int) by omega];exact hn);exact ⟨this.1,by omega,by omega⟩
  ·rw [if_neg hs];exact ⟨by simpa using hs,Int.le_refl _,by omega⟩
theorem q5g (h:StOk n S):zA S.L (1099511627776+((n+1:Nat):Int))=none:=by
 cases hl:zA S.L (1099511627776+((n+1:Nat):Int)) with
 | none=>rfl
 | some x =>
  have:=h.keys _ ((xH h.srt).1 hl);simp at this;omega
theorem q54 (h:StOk n S) (hn:n<=1000) {id:Int} (hid:qkh id=true):0<Y5 S.L id/\Y5 S.L id<=1099511627776+((n+1:Nat):Int):=by
 unfold qkh at hid;simp only [Bool.and_eq_true,decide_eq_true_eq] at hid;unfold Y5;split
 ·have:=qpu 2000 (k:=1099511627776) (j:=n+1) (by omega) (q5g h);omega
 ·omega
theorem q9s (h:StOk n S) (hn:n<=1000) {id:Int} (hno:id≠0->zA S.L id=none):zA S.L (Y5 S.L id)=none:=by
 unfold Y5;split
 ·exact (qpu 2000 (k:=1099511627776) (j:=n+1) (by omega) (q5g h)).1
 ·rename_i hne;exact hno hne
theorem zfo {L:List (Int×Im)} {k:Int} {x:Im} (h:zA L k=none):XX (kC L k x)=XX L+x.bs.length:=by
 have hno:=qs5 h
 induction L with
 | nil=>simp [kC,XX]
 | cons a L ih =>
  unfold kC;split
  ·rw [ke];simp only;omega
  ·rename_i hlt;rw [if_neg λe=>hno a List.mem_cons_self e.symm,ke,ke];have h2:zA L k=none:=by
    cases hl:zA L k with
    | none=>rfl
    | some y =>
     exfalso;unfold zA at hl;obtain ⟨q,hq,_⟩:=Option.map_eq_some_iff.1 hl;have h3:=List.find?_some hq;exact hno q (mem_cons_of_mem _ (List.mem_of_find?_eq_some hq)) (by simpa using h3)
   rw [ih h2 λp hp=>hno p (mem_cons_of_mem _ hp)];omega
theorem zce {L:List (Int×Im)} (k:Int) (x:Im):(kC L k x).length<=L.length+1:=by
 induction L with
 | nil=>simp [kC]
 | cons a L ih =>
  unfold kC;split
  ·simp
  ·split
   ·simp
   ·simp;omega
theorem zjh (h:StOk n S) {i num W H:Int} {P:Slc} {bs:List UInt8} (hi:zA S.L i=none) (hi1:0<i/\i<=1099511627776+((n+1:Nat):Int)) (hf:S.used+bs.length<=S.quota):StOk (n+1) (S.putAt i num W H P bs):=by
 have hm:=Qk h.srt i (⟨⟨num,⟨W,H,P⟩,S.clock+1,S.clock+1⟩,bs⟩:Im);have hu:=h.used;have hc:=h.clk;have hc0:=h.clk0;have hsz:=zfo (x:=(⟨⟨num,⟨W,H,P⟩,S.clock+1,S.clock+1⟩,bs⟩:Im)) hi;refine ⟨h.q0,h.q1,?_,hf,?_,by show 0<=S.clock+1;omega,by show S.clock+1<=_;omega,qfp h.srt _ _,?_,?_,?_,?_,?_⟩
 ·show S.used+(bs.length:Int)=(XX (kC _ _ _):Int);rw [hsz];simp;omega
 ·have:=zce (L:=S.L) i (⟨⟨num,⟨W,H,P⟩,S.clock+1,S.clock+1⟩,bs⟩:Im);have:=h.len;show (kC _ _ _).length<=_;omega
 ·rintro ⟨a,b⟩ hp;rcases (hm a b).1 hp with ⟨rfl,rfl⟩ | ⟨_,hp⟩
  ·exact hi1
  ·have:=h.keys _ hp;simp at this ⊢;omega
 ·rintro ⟨a,b⟩ hp;show 0<b.v.stamp/\b.v.stamp<=S.clock+1;rcases (hm a b).1 hp with ⟨rfl,rfl⟩ | ⟨_,hp⟩
  ·exact ⟨by show 0<S.clock+1;omega,Int.le_refl _⟩
  ·have:=h.stamps _ hp;simp at this;omega
 ·rintro ⟨a,b⟩ hp;show 0<b.v.born/\b.v.born<=S.clock+1;rcases (hm a b).1 hp with ⟨rfl,rfl⟩ | ⟨_,hp⟩
  ·exact ⟨by show 0<S.clock+1;omega,Int.le_refl _⟩
  ·have:=h.borns _ hp;simp at this;omega
 ·rintro ⟨a,b⟩ hp ⟨a',b'⟩ hp' (e:b.v.stamp=b'.v.stamp);rcases (hm a b).1 hp with ⟨rfl,rfl⟩ | ⟨_,hq⟩
  ·rcases (hm a' b').1 hp' with ⟨rfl,rfl⟩ | ⟨_,hp'⟩
   ·rfl
   ·have:=h.stamps _ hp';simp at this e;omega
  ·rcases (hm a' b').1 hp' with ⟨rfl,rfl⟩ | ⟨_,hp'⟩
   ·have:=h.stamps _ hq;simp at this e;omega
   ·exact h.st1 _ hq _ hp' e
 ·rintro ⟨a,b⟩ hp ⟨a',b'⟩ hp' (e:b.v.born=b'.v.born);rcases (hm a b).1 hp with ⟨rfl,rfl⟩ | ⟨_,hq⟩
  ·rcases (hm a' b').1 hp' with ⟨rfl,rfl⟩ | ⟨_,hp'⟩
   ·rfl
   ·have:=h.borns _ hp';simp at this e;omega
  ·rcases (hm a' b').1 hp' with ⟨rfl,rfl⟩ | ⟨_,hp'⟩
   ·have:=h.borns _ hq;simp at this e;omega
   ·exact h.bo1 _ hq _ hp' e
end
end Go.Proofs.YtlmpnfhmpjldaaaGreatDoor
