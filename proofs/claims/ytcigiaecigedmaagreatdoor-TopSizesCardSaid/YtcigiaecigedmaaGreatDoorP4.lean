import Derived.Test.YtcigiaecigedmaaGreatDoorP3
import Derived.Test.YtcigiaecigedmaaGreatDoorP2
import Derived.Test.YtcigiaecigedmaaGreatDoorP1
import Derived.Test.YtcigiaecigedmaaGreatDoorShA
import Derived.Lib.Bytealg
import Derived.Lib.ItoaNum
import Derived.Lib.Join
import Derived.Lib.SlBytesConst
import Derived.Lib.AppendStr
set_option linter.unusedVariables false
namespace Go.Proofs.YtcigiaecigedmaaGreatDoor
open Go.Vc Go.RowKit
set_option maxRecDepth 400000
open IntKind (i64)
open _root_.Nat (le_refl)
structure ScW (w:World) (base g:Nat) (F:ScF) (S:Sc):Prop where
 blk:Blk w g qa1 (qab.rep.cells (scX F S))
 hg:base<=g
 g0:GridM w base F.f0 S.g0
 g1:GridM w base F.f1 S.g1
 st:StopsM w F.tg F.tr S.stops
 hst:base<=F.tg/\base<=F.tr
 mo:MapM encO w F.mm S.modes
 pr:MapM encO w F.mp S.priv
 hm:base<=F.mm/\base<=F.mp
 dm:F.mm≠F.mp/\F.tr≠F.mm/\F.tr≠F.mp
 ar:Go.Vc.Own qgh w base F.ar S.areas
 dg:∀k,gridS F.f0 k->¬gridS F.f1 k
theorem ScM.toW {w:World} {base g:Nat} {F:ScF} {S:Sc} (h:ScM w base g F S):ScW w base g F S:=⟨h.blk,h.hg,h.g0,h.g1,h.st,h.hst,h.mo,h.pr,h.hm,h.dm,h.ar,h.dg⟩
theorem ScW.toM {w:World} {base g:Nat} {F:ScF} {S:Sc} (h:ScW w base g F S) (ok:ScOk S):ScM w base g F S:=⟨h.blk,h.hg,h.g0,h.g1,h.st,h.hst,h.mo,h.pr,h.hm,h.dm,h.ar,h.dg,ok⟩
section
variable {w w':World} {base g:Nat} {F F':ScF} {S S':Sc} {p:Slc} {ps:List Int}
theorem ScW.of_g (h:ScW w base g F S):∀k,(gridS F.f0 k\/gridS F.f1 k\/k=F.tg\/k=F.tr\/k=F.mm\/k=F.mp\/F.ar.blk=some k)->k≠g:=by
 rintro k (hk | hk | rfl | rfl | rfl | rfl | hk) rfl
 ·have:=qs2 h.g0 hk h.blk;revert this;decide
 ·have:=qs2 h.g1 hk h.blk;revert this;decide
 ·exact h.blk.ne_t h.st.blk (by decide) rfl
 ·exact qb7 h.st.map h.blk rfl
 ·exact qb7 h.mo h.blk rfl
 ·exact qb7 h.pr h.blk rfl
 ·obtain ⟨cs,hcs⟩:=h.ar.blk_t hk;exact h.blk.ne_t hcs (by decide) rfl
theorem ScW.gridF (h:ScW w base g F S) (alt:Bool):∃G,GridM w base (F.f alt) G:=by
 cases alt
 ·exact ⟨_,h.g0⟩
 ·exact ⟨_,h.g1⟩
theorem ScW.of_grid (h:ScW w base g F S) (alt:Bool):∀k,gridS (F.f alt) k->k≠g/\¬gridS (F.f (!alt)) k/\k≠F.tg/\k≠F.tr/\k≠F.mm/\k≠F.mp/\F.ar.blk≠some k:=by
 intro k hk;obtain ⟨G,hG⟩:=h.gridF alt;obtain ⟨t,cs,hb,ht⟩:=hG.ty k hk;refine ⟨h.of_g k (by cases alt;exact .inl hk;exact .inr (.inl hk)),?_,?_,qb7 h.st.map hb,qb7 h.mo hb,qb7 h.pr hb,?_⟩
 ·cases alt
  ·exact h.dg k hk
  ·exact fun hk'=>h.dg k hk' hk
 ·rintro rfl;exact hb.ne_t h.st.blk (by rcases ht with rfl | rfl | rfl<;>decide) rfl
 ·intro e;obtain ⟨cs',hcs⟩:=h.ar.blk_t e;exact hb.ne_t hcs (by rcases ht with rfl | rfl | rfl<;>decide) rfl
theorem ScW.notC (h:ScW w base g F S):∀k cs,scS g F k->¬Blk w k qao cs:=by
 rintro k cs (rfl | hk | hk | rfl | rfl | rfl | rfl | hk) hb
 ·exact h.blk.ne_t hb (by decide) rfl
 ·exact h.g0.notC k cs hk hb
 ·exact h.g1.notC k cs hk hb
 ·exact h.st.blk.ne_t hb (by decide) rfl
 ·exact qb7 h.st.map hb rfl
 ·exact qb7 h.mo hb rfl
 ·exact qb7 h.pr hb rfl
 ·obtain ⟨cs',hcs⟩:=h.ar.blk_t hk;exact hcs.ne_t hb (by decide) rfl
theorem ScW.below (h:ScW w base g F S):∀k,scS g F k->base<=k/\k<w.heap.size:=by
 rintro k (rfl | hk | hk | rfl | rfl | rfl | rfl | hk)
 ·exact ⟨h.hg,h.blk.lt⟩
 ·exact h.g0.below k hk
 ·exact h.g1.below k hk
 ·exact ⟨h.hst.1,h.st.blk.lt⟩
 ·exact ⟨h.hst.2,h.st.map.lt⟩
 ·exact ⟨h.hm.1,h.mo.lt⟩
 ·exact ⟨h.hm.2,h.pr.lt⟩
 ·exact h.ar.lt k hk
theorem ScW.keep {T:Nat->Prop} (h:ScW w base g F S) (hc:Chg T w w') (hT:∀k,scS g F k->¬T k) (hC:∀k cs,T k->¬Blk w k qao cs):ScW w' base g F S :=
 ⟨h.blk.chg hc (hT _ (.inl rfl)),h.hg,h.g0.chg hc (fun k hk=>hT k (.inr (.inl hk))) hC,h.g1.chg hc (fun k hk=>hT k (.inr (.inr (.inl hk)))) hC,
  h.st.keep hc (hT _ (.inr (.inr (.inr (.inl rfl))))) (hT _ (.inr (.inr (.inr (.inr (.inl rfl)))))),h.hst,h.mo.chg hc (hT _ (.inr (.inr (.inr (.inr (.inr (.inl rfl))))))),
  h.pr.chg hc (hT _ (.inr (.inr (.inr (.inr (.inr (.inr (.inl rfl)))))))),h.hm,h.dm,h.ar.chg hc fun k hk=>hT k (.inr (.inr (.inr (.inr (.inr (.inr (.inr hk))))))),h.dg⟩
theorem ScW.ext (h:ScW w base g F S) (hB:Below w.heap.size w w'):ScW w' base g F S:=h.keep (Chg.of_ext (S:=fun _=>False) hB) (fun _ _ h=>h) fun _ _ h=>h.elim
theorem ScW.drew (h:ScW w base g F S):ScW w.drew base g F S:=h.ext ((Below.refl _ w).drew)
theorem ScW.struct (h:ScW w base g F S) (hc:Chg (fun k=>k=g) w w') (hb:Blk w' g qa1 (qab.rep.cells (scX F S'))) (e0:S'.g0=S.g0) (e1:S'.g1=S.g1) (es:S'.stops=S.stops) (em:S'.modes=S.modes) (ep:S'.priv=S.priv) (ea:S'.areas=S.areas):ScW w' base g F S':=by
 have hC:∀k cs,k=g->¬Blk w k qao cs:=fun k cs hk hcs=>h.notC k cs (.inl hk) hcs;refine ⟨hb,h.hg,?_,?_,?_,h.hst,?_,?_,h.hm,h.dm,?_,h.dg⟩
 ·rw [e0];exact h.g0.chg hc (fun k hk=>h.of_g k (.inl hk)) hC
 ·rw [e1];exact h.g1.chg hc (fun k hk=>h.of_g k (.inr (.inl hk))) hC
 ·rw [es];exact h.st.keep hc (h.of_g _ (.inr (.inr (.inl rfl)))) (h.of_g _ (.inr (.inr (.inr (.inl rfl)))))
 ·rw [em];exact h.mo.chg hc (h.of_g _ (.inr (.inr (.inr (.inr (.inl rfl))))))
 ·rw [ep];exact h.pr.chg hc (h.of_g _ (.inr (.inr (.inr (.inr (.inr (.inl rfl)))))))
 ·rw [ea];exact h.ar.chg hc fun k hk=>h.of_g k (.inr (.inr (.inr (.inr (.inr (.inr hk))))))
theorem ScW.gkM (h:ScW w base g F S) (k:Bool):GridM w base (F.f k) (S.gk k):=by
 cases k
 ·exact h.g0
 ·exact h.g1
theorem ScW.regrid (h:ScW w base g F S) (k:Bool) {f':Foot} {G':GS} (hg:GridM w' base f' G') (hto:(F.f k).to f' w.heap.size) (hc:Chg (gridS (F.f k)) w w'):ScW w' base g (F.put k f') (S.putG k G'):=by
 have hC:∀i cs,gridS (F.f k) i->¬Blk w i qao cs:=fun i cs hk hcs=>h.notC i cs (by cases k;exact .inr (.inl hk);exact .inr (.inr (.inl hk))) hcs;have hp:=h.of_grid k;have hstep:∀i,gridS f' i->gridS (F.f k) i\/w.heap.size<=i:=hto.old;have hgf:=hto.g;have hblk:=h.blk.chg hc fun e=>(hp g e).1 rfl;have hst:=h.st.keep hc (fun e=>(hp _ e).2.2.1 rfl) (fun e=>(hp _ e).2.2.2.1 rfl);have hmo:=h.mo.chg hc (fun e=>(hp _ e).2.2.2.2.1 rfl);have hpr:=h.pr.chg hc (fun e=>(hp _ e).2.2.2.2.2.1 rfl);have har:=h.ar.chg hc fun i hk e=>(hp i e).2.2.2.2.2.2 hk;cases k
 ·refine ⟨?_,h.hg,hg,h.g1.chg hc (fun i hk e=>(hp i e).2.1 hk) hC,hst,h.hst,hmo,hpr,h.hm,h.dm,har,fun i hk hk'=>?_⟩
  ·have e2:scX (F.put false f') (S.putG false G')=scX F S:=by
    have hgf:f'.g=F.f0.g:=hgf;unfold scX ScF.put Sc.putG;simp only [Bool.false_eq_true,if_false];rw [hgf]
   rw [e2];exact hblk
  ·rcases hstep i hk with h2 | h2
   ·exact h.dg i h2 hk'
   ·have:=(h.g1.below i hk').2;omega
 ·refine ⟨?_,h.hg,h.g0.chg hc (fun i hk e=>(hp i e).2.1 hk) hC,hg,hst,h.hst,hmo,hpr,h.hm,h.dm,har,fun i hk hk'=>?_⟩
  ·have e2:scX (F.put true f') (S.putG true G')=scX F S:=by
    have hgf:f'.g=F.f1.g:=hgf;unfold scX ScF.put Sc.putG;simp only [if_true];rw [hgf]
   rw [e2];exact hblk
  ·rcases hstep i hk' with h2 | h2
   ·exact h.dg i hk h2
   ·have:=(h.g0.below i hk).2;omega
structure ScV (base g:Nat) (w:World) (F F':ScF) (S':Sc) (w':World):Prop where
 m:ScW w' base g F' S'
 old:∀k,scS g F' k->scS g F k\/w.heap.size<=k
 chg:Chg (scS g F) w w'
theorem ScV.toT {S1:Sc} {F1:ScF} (h:ScV base g w F F1 S1 w') (ok:ScOk S1):ScT base g w F F1 S1 w':=⟨h.m.toM ok,h.old,h.chg⟩
theorem ScV.trans {w1 w2:World} {F1 F2:ScF} {S1 S2:Sc} (h:ScV base g w F F1 S1 w1) (h2:ScV base g w1 F1 F2 S2 w2):ScV base g w F F2 S2 w2:=by
 have hs:=h.chg.size;refine ⟨h2.m,fun k hk=>?_,h.chg.trans h2.chg fun i hi hk=>?_⟩
 ·rcases h2.old k hk with h3 | h3
  ·exact h.old k h3
  ·exact .inr (by omega)
 ·rcases h.old i hk with h3 | h3
  ·exact h3
  ·omega
theorem ScV.refl (h:ScW w base g F S):ScV base g w F F S w:=⟨h,fun k hk=>.inl hk,Chg.refl _ _⟩
theorem ScV.ext {w1 w2:World} {F1:ScF} {S1:Sc} (h:ScV base g w F F1 S1 w1) (hB:Below w1.heap.size w1 w2):ScV base g w F F1 S1 w2 :=
 h.trans ⟨h.m.ext hB,fun k hk=>.inl hk,Chg.of_ext hB⟩
theorem ScV.drew {F1:ScF} {S1:Sc} (h:ScV base g w F F1 S1 w'):ScV base g w F F1 S1 w'.drew:=h.ext ((Below.refl _ w').drew)
theorem ScV.mk_struct (h:ScW w base g F S) (hc:Chg (fun k=>k=g) w w') (hb:Blk w' g qa1 (qab.rep.cells (scX F S'))) (e0:S'.g0=S.g0) (e1:S'.g1=S.g1) (es:S'.stops=S.stops) (em:S'.modes=S.modes) (ep:S'.priv=S.priv) (ea:S'.areas=S.areas):ScV base g w F F S' w' :=
 ⟨h.struct hc hb e0 e1 es em ep ea,fun k hk=>.inl hk,hc.mono fun i hi e=>.inl e⟩
theorem ScV.mk_regrid (h:ScW w base g F S) (k:Bool) {f':Foot} {G':GS} (hg:GridM w' base f' G') (hto:(F.f k).to f' w.heap.size) (hc:Chg (gridS (F.f k)) w w'):ScV base g w F (F.put k f') (S.putG k G') w':=by
 refine ⟨h.regrid k hg hto hc,fun i hk=>?_,hc.mono fun i hi e=>?_⟩
 ·have hstep:=hto.old;revert hk hstep;unfold ScF.put ScF.f;cases k
  ·rintro (rfl | hk | hk | hk) hstep
   ·exact .inl (.inl rfl)
   ·rcases hstep i hk with h2 | h2
    ·exact .inl (.inr (.inl h2))
    ·exact .inr h2
   ·exact .inl (.inr (.inr (.inl hk)))
   ·exact .inl (.inr (.inr (.inr hk)))
  ·rintro (rfl | hk | hk | hk) hstep
   ·exact .inl (.inl rfl)
   ·exact .inl (.inr (.inl hk))
   ·rcases hstep i hk with h2 | h2
    ·exact .inl (.inr (.inr (.inl h2)))
    ·exact .inr h2
   ·exact .inl (.inr (.inr (.inr hk)))
 ·revert e;unfold ScF.f;cases k
  ·exact fun e=>.inr (.inl e)
  ·exact fun e=>.inr (.inr (.inl e))
def satS (s:Sav) (rows cols:Int):Sav:={ s with c:={ s.c with Row:=cutP s.c.Row 0 (w64 (rows-1)),Col:=cutP s.c.Col 0 (w64 (cols-1)),Wrap:=false } }
namespace Sc
def so (S:Sc) (k:Bool):Sav:=if k then S.s1 else S.s0
def resizeG2 (S:Sc) (rows cols:Int):Sc :=
 (S.putG S.alt (qbx (S.gk S.alt) rows.toNat cols.toNat S.c.Row)).putG (!S.alt) (qbx (S.gk !S.alt) rows.toNat cols.toNat (cutP (S.so !S.alt).c.Row 0 (w64 ((S.gk !S.alt).rows-1))))
def resizeP (S:Sc) (rows cols:Int):Sc :=
 let S1:=(S.resizeG2 rows cols).to (if S.c.Row>=rows then rows-1 else S.c.Row) S.c.Col
 { S1 with s0:=satS S1.s0 rows cols,s1:=satS S1.s1 rows cols,top:=0,past:=rows,stops:=resz S.stops cols.toNat }
end Sc
theorem zgm {row col:Int} {K:World->Prop} (h:ScW w base g F S) (hK:∀w',ScV base g w F F (S.to row col) w'->K w'):qan (some ⟨g,0,none⟩) row col w K:=by
 refine qmw _ _ _ ?_;unfold qjb;refine qf9 _ ?_;unfold qem;refine qip _ ?_;unfold qgm;simp only [onPtr_some];have hb:=h.drew.blk;refine lI (x:=if S.alt then 1 else 0) (hb.cells 2 _ rfl) ?_;have key:gridS F.f0 F.f0.g->True:=fun _=>trivial;have tail:qct (some ⟨(F.f S.alt).g,0,none⟩) w.drew fun t8 t8_1 w2=>qbt row 0 (i64.wrap (t8-1)) w2 fun t11 w3=>qbt col 0 (i64.wrap (t8_1-1)) w3 fun t14 w4 =>
   stK (((⟨g,0,none⟩:Addr).add 3).add 0) [(.int .i64 t11)] w4 fun w5=>stK (((⟨g,0,none⟩:Addr).add 3).add 1) [(.int .i64 t14)] w5 fun w6=>stK (((⟨g,0,none⟩:Addr).add 3).add 2) [(.bool false)] w6 fun w7=>K w7:=by
  have hg:GridM w.drew base (F.f S.alt) S.g:=by
   unfold Sc.g ScF.f;cases S.alt
   ·exact h.drew.g0
   ·exact h.drew.g1
  refine qok hg (qdt (qdt ?_));have hT:=(ScV.refl h).drew.drew;simp only [qae];refine qah hT.m.blk (by simp [qab.rep]) fun w4 hb4 hg4 hs4=>?_;refine qah hb4 (by simp [qab.rep,putL]) fun w5 hb5 hg5 hs5=>?_;refine qah hb5 (by simp [qab.rep,putL]) fun w6 hb6 hg6 hs6=>?_;have hc:Chg (fun k=>k=g) w.drew.drew w6:=((Chg.gg hg4).trans (Chg.gg hg5) fun i _ hi=>hi).trans (Chg.gg hg6) fun i _ hi=>hi;exact hK w6 (hT.trans (ScV.mk_struct hT.m hc (S':=S.to row col) hb6 rfl rfl rfl rfl rfl rfl))
 revert tail;cases hS:S.alt
 ·intro tail;exact ⟨⟨by decide,by decide⟩,qar (x:=some ⟨F.f0.g,0,none⟩) (hb.cells 0 _ rfl) tail⟩
 ·intro tail;exact ⟨⟨by decide,by decide⟩,qar (x:=some ⟨F.f1.g,0,none⟩) (hb.cells 1 _ rfl) tail⟩
theorem ScW.cOther (h:ScW w base g F S):w.cell? (((⟨g,0,none⟩:Addr).add 0).add ((i64.wrap ((1:Int)-(if S.alt then 1 else 0))).toNat*1))=some (.pointer (some ⟨(F.f !S.alt).g,0,none⟩)):=by
 cases hS:S.alt
 ·exact h.blk.cells 1 _ rfl
 ·exact h.blk.cells 0 _ rfl
theorem ScW.cSaved (h:ScW w base g F S):w.cell? (((((⟨g,0,none⟩:Addr).add 13).add ((i64.wrap ((1:Int)-(if S.alt then 1 else 0))).toNat*11)).add 0).add 0)=some (.int .i64 (S.so !S.alt).c.Row):=by
 unfold Sc.so;cases hS:S.alt
 ·simp only [qae];exact h.blk.cell 24 rfl
 ·simp only [qae];exact h.blk.cell 13 rfl
theorem zgh (b:Bool):(0:Int)<=i64.wrap ((1:Int)-(if b then 1 else 0))/\i64.wrap ((1:Int)-(if b then 1 else 0))<((2:Nat):Int):=by cases b<;>decide
theorem ScW.setStops (h:ScW w base g F S) {B:List Bool} (hst:StopsM w' F.tg F.tr B) (hc:Chg (fun k=>k=F.tg\/k=F.tr) w w'):ScV base g w F F { S with stops:=B } w':=by
 have e1:=h.st.blk;have e2:=qpu h.st.map;have nb:∀{k t cs},Blk w k t cs->t≠qgk->¬(k=F.tg\/k=F.tr):=by
  intro k t cs hb ht e;rcases e with e | e
  ·subst e;exact hb.ne_t e1 ht rfl
  ·subst e;exact e2 _ _ hb
 have hC:∀k cs,(k=F.tg\/k=F.tr)->¬Blk w k qao cs:=fun k cs e hb=>nb hb (by decide) e;have mp:∀{m L},MapM encO w m L->m≠F.tg:=fun hm e=>by rw [e] at hm;exact qpu hm _ _ e1
 refine ⟨⟨h.blk.chg hc (nb h.blk (by decide)),h.hg,h.g0.chg hc (fun k hk=>?_) hC,h.g1.chg hc (fun k hk=>?_) hC,hst,h.hst,h.mo.chg hc ?_,h.pr.chg hc ?_,h.hm,h.dm,h.ar.chg hc fun k hk=>?_,h.dg⟩,fun k hk=>.inl hk,hc.mono fun i hi e=>?_⟩
 ·obtain ⟨t,cs,hb,ht⟩:=h.g0.ty k hk;exact nb hb (by rcases ht with rfl | rfl | rfl<;>decide)
 ·obtain ⟨t,cs,hb,ht⟩:=h.g1.ty k hk;exact nb hb (by rcases ht with rfl | rfl | rfl<;>decide)
 ·rintro (e | e)
  ·exact mp h.mo e
  ·exact h.dm.2.1 e.symm
 ·rintro (e | e)
  ·exact mp h.pr e
  ·exact h.dm.2.2 e.symm
 ·obtain ⟨cs,hcs⟩:=h.ar.blk_t hk;exact nb hcs (by decide)
 ·rcases e with e | e
  ·exact .inr (.inr (.inr (.inl e)))
  ·exact .inr (.inr (.inr (.inr (.inl e))))
theorem q8n {rows cols:Int} (h:ScW w base g F S) (k:Bool) {i:Int} (hi:i=if k then 1 else 0) {K:World->Prop} (hK:∀w',ScV base g w F F (if k then { S with s1:=satS S.s1 rows cols } else { S with s0:=satS S.s0 rows cols }) w'->K w') :
  ixA (
     (⟨g,0,none⟩:Addr).add 13) 2 i 11 fun t85 =>
     ldI .i64 ((t85.add 0).add 0) w.drew fun t93 =>
     ldI .i64 ((t85.add 0).add 1) w.drew fun t100 =>
     qbt t93 0 (i64.wrap (rows-(1:Int))) w.drew fun t96 w9 =>
     World.cell? w9 ((t85.add 0).add 1)=some (.int .i64 t100) /\
     qbt t100 0 (i64.wrap (cols-(1:Int))) w9 fun t103 w10 =>
     stK ((t85.add 0).add 0) [(.int .i64 t96)] w10 fun w11 =>
     stK ((t85.add 0).add 1) [(.int .i64 t103)] w11 fun w12 =>
     stK ((t85.add 0).add 2) [(.bool false)] w12 fun w13=>K w13:=by
 subst hi;have hd:=(ScV.refl h).drew;cases k
 ·refine ⟨by decide,?_⟩;show ldI .i64 (((((⟨g,0,none⟩:Addr).add 13).add (0*11)).add 0).add 0) _ _;simp only [qae];refine lI (x:=S.s0.c.Row) (hd.m.blk.cell 13 rfl) (lI (x:=S.s0.c.Col) (hd.m.blk.cell 14 rfl) ?_);refine qdt ⟨hd.m.blk.cell 14 rfl,qdt ?_⟩;refine qah hd.m.blk (by simp [qab.rep]) fun w4 hb4 hg4 hs4=>?_;refine qah hb4 (by simp [qab.rep,putL]) fun w5 hb5 hg5 hs5=>?_;refine qah hb5 (by simp [qab.rep,putL]) fun w6 hb6 hg6 hs6=>?_;have hc:Chg (fun k=>k=g) w.drew w6:=((Chg.gg hg4).trans (Chg.gg hg5) fun i _ hi=>hi).trans (Chg.gg hg6) fun i _ hi=>hi;exact hK w6 (hd.trans (ScV.mk_struct hd.m hc (S':={ S with s0:=satS S.s0 rows cols }) hb6 rfl rfl rfl rfl rfl rfl))
 ·refine ⟨by decide,?_⟩;show ldI .i64 (((((⟨g,0,none⟩:Addr).add 13).add (1*11)).add 0).add 0) _ _;simp only [qae];refine lI (x:=S.s1.c.Row) (hd.m.blk.cell 24 rfl) (lI (x:=S.s1.c.Col) (hd.m.blk.cell 25 rfl) ?_);refine qdt ⟨hd.m.blk.cell 25 rfl,qdt ?_⟩;refine qah hd.m.blk (by simp [qab.rep]) fun w4 hb4 hg4 hs4=>?_;refine qah hb4 (by simp [qab.rep,putL]) fun w5 hb5 hg5 hs5=>?_;refine qah hb5 (by simp [qab.rep,putL]) fun w6 hb6 hg6 hs6=>?_;have hc:Chg (fun k=>k=g) w.drew w6:=((Chg.gg hg4).trans (Chg.gg hg5) fun i _ hi=>hi).trans (Chg.gg hg6) fun i _ hi=>hi;exact hK w6 (hd.trans (ScV.mk_struct hd.m hc (S':={ S with s1:=satS S.s1 rows cols }) hb6 rfl rfl rfl rfl rfl rfl))
theorem qkv (G:GS) (rows cols:Nat) (row:Int):(qbx G rows cols row).rows=rows/\(qbx G rows cols row).cols=cols/\(qbx G rows cols row).most=G.most:=by
 refine ⟨rfl,?_,?_⟩
 ·show (qb6 G rows cols row).cols=cols;unfold qb6;split
  ·unfold qcr;split
   ·rfl
   ·split<;>rfl
  ·rfl
 ·show (qb6 G rows cols row).most=G.most;unfold qb6;split
  ·unfold qcr;split
   ·rfl
   ·split<;>rfl
  ·rfl
theorem ScOk.resizeP (h:ScOk S) {rows cols:Int} (hr:1<=rows/\rows<=1000) (hc:1<=cols/\cols<=1000):ScOk (S.resizeP rows cols):=by
 have hx:∀k row,GOk (qbx (S.gk k) rows.toNat cols.toNat row):=fun k row=>(h.gkOk k).resize (by omega) (by omega);have e1:w64 (rows-1)=rows-1:=qck (by omega);have e2:w64 (cols-1)=cols-1:=qck (by omega);obtain ⟨A,hA⟩:∃A,A=qbx (S.gk S.alt) rows.toNat cols.toNat S.c.Row:=⟨_,rfl⟩;obtain ⟨B,hB⟩:∃B,B=qbx (S.gk !S.alt) rows.toNat cols.toNat (cutP (S.so !S.alt).c.Row 0 (w64 ((S.gk !S.alt).rows-1))):=⟨_,rfl⟩;have hA1:GOk A:=by rw [hA];exact hx _ _
 have hB1:GOk B:=by rw [hB];exact hx _ _
 have a2:A.rows=rows.toNat/\A.cols=cols.toNat:=by rw [hA];exact ⟨(qkv _ _ _ _).1,(qkv _ _ _ _).2.1⟩
 have b2:B.rows=rows.toNat/\B.cols=cols.toNat:=by rw [hB];exact ⟨(qkv _ _ _ _).1,(qkv _ _ _ _).2.1⟩
 have eG:S.resizeG2 rows cols=(S.putG S.alt A).putG (!S.alt) B:=by unfold Sc.resizeG2;rw [hA,hB]
 have key:∀(G0 G1 G:GS) (S1:Sc),S1=S.resizeG2 rows cols->S1.g0=G0->S1.g1=G1->S1.g=G->GOk G0->GOk G1->(G0.rows=rows.toNat/\G0.cols=cols.toNat)->(G1.rows=rows.toNat/\G1.cols=cols.toNat)->(G.rows=rows.toNat/\G.cols=cols.toNat)->ScOk (S.resizeP rows cols):=by
  intro G0 G1 G S1 h1 h2 h3 h4 o0 o1 r0 r1 r;have f0:(S.resizeP rows cols).g0=G0:=by rw [<-h2,h1];rfl
  have f1:(S.resizeP rows cols).g1=G1:=by rw [<-h3,h1];rfl
  have q1:w64 ((G.rows:Int)-1)=rows-1:=by rw [r.1];rw [qck (by omega)];omega
  have q2:w64 ((G.cols:Int)-1)=cols-1:=by rw [r.2];rw [qck (by omega)];omega
  have i1:=qkt (v:=if S.c.Row>=rows then rows-1 else S.c.Row) (lo:=0) (hi:=rows-1) (by omega);have i2:=qkt (v:=S.c.Col) (lo:=0) (hi:=cols-1) (by omega);have fr:(S.resizeP rows cols).c.Row=cutP (if S.c.Row>=rows then rows-1 else S.c.Row) 0 (w64 ((G.rows:Int)-1)):=by rw [<-h4,h1];rfl
  have fc:(S.resizeP rows cols).c.Col=cutP S.c.Col 0 (w64 ((G.cols:Int)-1)):=by rw [<-h4,h1];rfl
  have p0:∀k G,(S.putG k G).c=S.c/\(S.putG k G).s0=S.s0/\(S.putG k G).s1=S.s1:=fun k G=>by cases k<;>exact ⟨rfl,rfl,rfl⟩
  have p1:∀(T:Sc) k G,(T.putG k G).c=T.c/\(T.putG k G).s0=T.s0/\(T.putG k G).s1=T.s1:=fun T k G=>by cases k<;>exact ⟨rfl,rfl,rfl⟩
  rw [q1] at fr;rw [q2] at fc;refine ⟨by rw [f0];exact o0,by rw [f1];exact o1,by rw [f0,f1];omega,by rw [f0,f1];omega,by rw [fr,f0];omega,by rw [fc,f0];omega,?_,?_,?_,?_,?_,?_⟩
  ·show (S.resizeG2 rows cols).c.Shift=0\/(S.resizeG2 rows cols).c.Shift=1;rw [eG,(p1 _ _ _).1,(p0 _ _).1];exact h.shift
  ·show (S.resizeG2 rows cols).s0.c.Shift=0\/(S.resizeG2 rows cols).s0.c.Shift=1;rw [eG,(p1 _ _ _).2.1,(p0 _ _).2.1];exact h.sh0
  ·show (S.resizeG2 rows cols).s1.c.Shift=0\/(S.resizeG2 rows cols).s1.c.Shift=1;rw [eG,(p1 _ _ _).2.2,(p0 _ _).2.2];exact h.sh1
  ·rw [f0];exact ⟨Int.le_refl 0,by show (0:Int)<rows;omega,by show rows<=(G0.rows:Int);omega⟩
  ·intro _;rw [f0] at *;show (0:Int)+2<=rows;omega
  ·rw [f0];show (resz S.stops cols.toNat).length=_;rw [resz_length];omega
 have eg:((S.putG S.alt A).putG (!S.alt) B).g=A:=by
  unfold Sc.g Sc.putG;cases hS:S.alt<;>simp
 cases hS:S.alt
 ·rw [hS] at eG;exact key A B A _ rfl (by rw [eG];rfl) (by rw [eG];rfl) (by rw [eG];rw [hS] at eg;exact eg) hA1 hB1 a2 b2 a2
 ·rw [hS] at eG;exact key B A A _ rfl (by rw [eG];rfl) (by rw [eG];rfl) (by rw [eG];rw [hS] at eg;exact eg) hB1 hA1 b2 a2 a2
theorem qft (S:Sc) (k:Bool) (G:GS):(S.putG k G).alt=S.alt/\(S.putG k G).c=S.c/\(S.putG k G).so=S.so/\(S.putG k G).stops=S.stops:=by cases k<;>exact ⟨rfl,rfl,rfl,rfl⟩
theorem q4d (S:Sc) (k:Bool) (G:GS):(S.putG k G).gk (!k)=S.gk !k:=by cases k<;>rfl
theorem zdw (F:ScF) (k:Bool) (f:Foot):(F.put k f).f (!k)=F.f !k:=by cases k<;>rfl
theorem g_gk (S:Sc):S.g=S.gk S.alt:=rfl
theorem q7c (h:ScM w base g F S) {rows cols:Int} {K:Int->World->Prop} (hbad:¬((1<=rows/\rows<=1000)/\(1<=cols/\cols<=1000))->K 1 w)
  (hK:(1<=rows/\rows<=1000)/\(1<=cols/\cols<=1000)->∀F' w',ScT base g w F F' (S.resizeP rows cols) w'->K 0 w'):qg1 (some ⟨g,0,none⟩) rows cols w K:=by
 refine qsd _ _ _ ?_;unfold qk9;simp only [onPtr_some];refine jpO fun J1 hJ1=>?_;refine qej ?_;cases e1:decide (1<=rows/\rows<=1000)
 ·exact cT rfl (hbad fun hh=>oFq e1 hh.1)
 refine cF rfl (qej ?_);cases e2:decide (1<=cols/\cols<=1000)
 ·exact cT rfl (hbad fun hh=>oFq e2 hh.2)
 refine cF rfl (hJ1 _ _ ?_);have hr:=oTq e1;have hc:=oTq e2;have ok:=h.ok;have hK:=hK ⟨hr,hc⟩;have hW:=h.toW;have hin:=zgh S.alt;refine lI (x:=if S.alt then 1 else 0) (by rw [qae];exact hW.blk.cell 2 rfl) ⟨hin,?_⟩;refine qar (x:=some ⟨(F.f !S.alt).g,0,none⟩) hW.cOther ?_;refine qok (hW.gkM !S.alt) ?_;have hd:=(ScV.refl hW).drew.drew;have hdm:ScM w.drew.drew base g F S:=hd.m.toM ok;refine hdm.ldRow (qgi hdm ⟨hdm.drew.cRow,?_⟩);have hd3:=hd.drew;have hG:=ok.gOk;have g3:GridM w.drew.drew.drew base (F.f S.alt) (S.gk S.alt):=hd3.m.gkM S.alt;have okA:=ok.gkOk S.alt;have okB:=ok.gkOk !S.alt;refine q1f g3 okA.len okA.rows.2 (fun xs hx=>by have:=(okA.L xs hx).2.1;have:=okA.cols.2;omega) (by have:=okA.most;omega) (hdm.drew.base_le) (fun hbad=>?_) fun f1 w4 _ hg1 hto1 hc1=>?_
 ·exact absurd hbad (fun hb=>by
   have hrow:=ok.rowg;rw [g_gk] at hrow;rcases hb with hb | hb | hb
   ·exact hb hr
   ·exact hb hc
   ·exact hb hrow)
 have hT4:=hd3.trans (ScV.mk_regrid hd3.m S.alt hg1 hto1 hc1);obtain ⟨S1,hS1⟩:∃S1,S1=S.putG S.alt (qbx (S.gk S.alt) rows.toNat cols.toNat S.c.Row):=⟨_,rfl⟩;obtain ⟨F1,hF1⟩:∃F1,F1=F.put S.alt f1:=⟨_,rfl⟩;rw [<-hS1,<-hF1] at hT4;have a1:S1.alt=S.alt/\S1.c=S.c/\S1.so=S.so/\S1.stops=S.stops:=by rw [hS1];exact qft _ _ _
 have hF1o:F1.f (!S.alt)=F.f !S.alt:=by rw [hF1];exact zdw _ _ _
 have hS1o:S1.gk (!S.alt)=S.gk !S.alt:=by rw [hS1];exact q4d _ _ _
 have hd4:=hT4.drew;refine ⟨hin,?_⟩;have co:∀{w5},ScW w5 base g F1 S1->w5.cell? (((⟨g,0,none⟩:Addr).add 0).add ((i64.wrap ((1:Int)-(if S.alt then 1 else 0))).toNat*1))=some (.pointer (some ⟨(F.f !S.alt).g,0,none⟩)):=by
  intro w5 h5;have:=h5.cOther;rw [a1.1,hF1o] at this;exact this
 have cs:∀{w5},ScW w5 base g F1 S1->w5.cell? (((((⟨g,0,none⟩:Addr).add 13).add ((i64.wrap ((1:Int)-(if S.alt then 1 else 0))).toNat*11)).add 0).add 0)=some (.int .i64 (S.so !S.alt).c.Row):=by
  intro w5 h5;have:=h5.cSaved;rw [a1.1,a1.2.2.1] at this;exact this
 refine qar (x:=some ⟨(F.f !S.alt).g,0,none⟩) (co hd4.m) ⟨hin,?_⟩;refine lI (x:=(S.so !S.alt).c.Row) (cs hd4.m) (qdt ⟨co hd4.m,?_⟩);have g4:GridM w4.drew base (F.f !S.alt) (S.gk !S.alt):=by
  have:=hd4.m.gkM !S.alt;rw [hF1o,hS1o] at this;exact this
 have b4:base<=w4.drew.heap.size:=by have:=(hd4.m.below g (.inl rfl));omega
 have cuti:=qkt (v:=(S.so !S.alt).c.Row) (lo:=0) (hi:=((S.gk !S.alt).rows:Int)-1) (by have:=okB.rows;omega);have ecut:w64 (((S.gk !S.alt).rows:Int)-1)=((S.gk !S.alt).rows:Int)-1:=qck (by have:=okB.rows;omega);refine q1f g4 okB.len okB.rows.2 (fun xs hx=>by have:=(okB.L xs hx).2.1;have:=okB.cols.2;omega) (by have:=okB.most;omega) b4 (fun hbad=>?_) fun f2 w6 _ hg2 hto2 hc2=>?_
 ·exact absurd hbad (fun hb=>by
   rcases hb with hb | hb | hb
   ·exact hb hr
   ·exact hb hc
   ·refine hb ?_;show 0<=cutP _ _ (w64 _)/\cutP _ _ (w64 _)<_;rw [ecut];omega)
 have hT6:=hd4.trans (ScV.mk_regrid hd4.m (!S.alt) hg2 (by rw [hF1o];exact hto2) (by rw [hF1o];exact hc2));have eS2:S1.putG (!S.alt) (qbx (S.gk !S.alt) rows.toNat cols.toNat (cutP (S.so !S.alt).c.Row 0 (w64 (((S.gk !S.alt).rows:Int)-1))))=S.resizeG2 rows cols:=by rw [hS1];rfl
 have hT6:ScV base g w F _ (S.resizeG2 rows cols) w6:=eS2 ▸ hT6;obtain ⟨F2,hF2⟩:∃F2,F2=F1.put (!S.alt) f2:=⟨_,rfl⟩;rw [<-hF2] at hT6;have hc6:(S.resizeG2 rows cols).c=S.c:=by unfold Sc.resizeG2;rw [(qft _ _ _).2.1,(qft _ _ _).2.1]
 refine lI (x:=S.c.Col) (by rw [<-hc6];simp only [qae];exact hT6.m.blk.cell 4 rfl) ?_;refine zgm hT6.m fun w7 hT7=>?_;have h7:=hT6.trans hT7;obtain ⟨T,hTT⟩:∃T,T=(S.resizeG2 rows cols).to (if S.c.Row>=rows then rows-1 else S.c.Row) S.c.Col:=⟨_,rfl⟩;rw [<-hTT] at h7;have eP:S.resizeP rows cols={ T with s0:=satS T.s0 rows cols,s1:=satS T.s1 rows cols,top:=0,past:=rows,stops:=resz T.stops cols.toNat }:=by
  have est:T.stops=S.stops:=by
   rw [hTT];show (S.resizeG2 rows cols).stops=_;unfold Sc.resizeG2;rw [(qft _ _ _).2.2.2,(qft _ _ _).2.2.2]
  rw [est,hTT];rfl
 have est:T.stops=S.stops:=by
  rw [hTT];show (S.resizeG2 rows cols).stops=_;unfold Sc.resizeG2;rw [(qft _ _ _).2.2.2,(qft _ _ _).2.2.2]
 have okP:=ok.resizeP hr hc;rw [eP] at hK okP;refine lpR (fun (st:Int×Unit) w2=>(st.1=0/\ScV base g w F F2 T w2)\/(st.1=1/\ScV base g w F F2 { T with s0:=satS T.s0 rows cols } w2)\/(st.1=2/\ScV base g w F F2 { T with s0:=satS T.s0 rows cols,s1:=satS T.s1 rows cols } w2)) (fun st=>2-st.1.toNat) (.inl ⟨rfl,h7⟩) ?_;rintro ⟨i,u⟩ w8 (⟨rfl,hV⟩ | ⟨rfl,hV⟩ | ⟨rfl,hV⟩) I hI
 ·refine cT rfl ?_;exact q8n hV.m false rfl fun w9 hT9=>hI _ _ (.inr (.inl ⟨by show i64.wrap (0+1)=1;decide,hV.trans hT9⟩)) (by show 2-(i64.wrap (0+1)).toNat<2-(0:Int).toNat;decide)
 ·refine cT rfl ?_;exact q8n hV.m true rfl fun w9 hT9=>hI _ _ (.inr (.inr ⟨by show i64.wrap (1+1)=2;decide,hV.trans hT9⟩)) (by show 2-(i64.wrap (1+1)).toNat<2-(1:Int).toNat;decide)
 ·refine cF rfl ?_;simp only [qae];refine qah hV.m.blk (by simp [qab.rep]) fun w9 hb9 hg9 hs9=>?_;refine qah hb9 (by simp [qab.rep,putL]) fun w10 hb10 hg10 hs10=>?_;have cc:Chg (fun k=>k=g) w8 w10:=qcg (Chg.gg hg9) (Chg.gg hg10);have hV10:=hV.trans (ScV.mk_struct hV.m cc (S':={ T with s0:=satS T.s0 rows cols,s1:=satS T.s1 rows cols,top:=0,past:=rows }) hb10 rfl rfl rfl rfl rfl rfl);refine qar (x:=some ⟨F2.tg,0,none⟩) (hV10.m.blk.cell 39 rfl) ?_;have hsl:=ok.slen;have hstl:T.stops.length<=1000:=by rw [est];exact hsl.2
  refine q0c hV10.m.st hstl cols (fun hbad=>absurd hbad (by omega)) fun w11 _ _ hst hcs=>?_;exact hK F2 w11 ((hV10.trans (hV10.m.setStops hst hcs)).toT okP)
namespace Sc
end Sc
end
def same (G G':GS):Prop:=G'.most=G.most/\G'.rows=G.rows/\G'.cols=G.cols
theorem same.refl (G:GS):same G G:=⟨rfl,rfl,rfl⟩
theorem same.trans {G G' G'':GS} (h:same G G') (k:same G' G''):same G G'':=⟨k.1.trans h.1,k.2.1.trans h.2.1,k.2.2.trans h.2.2⟩
structure Fr (n:Nat) (S S':Sc):Prop where
 alt:S'.alt=S.alt
 s0:S'.s0=S.s0
 s1:S'.s1=S.s1
 g0:same S.g0 S'.g0
 g1:same S.g1 S'.g1
 ar:S'.areas.length<=S.areas.length+n
structure Fm (n:Nat) (S S':Sc):Prop where
 m0:S'.g0.most=S.g0.most
 m1:S'.g1.most=S.g1.most
 ar:S'.areas.length<=S.areas.length+n
variable {S S' S'':Sc} {n k0:Nat}
theorem Fr.refl (S:Sc) (n:Nat):Fr n S S:=⟨rfl,rfl,rfl,same.refl _,same.refl _,by omega⟩
theorem Fr.trans (h:Fr n S S') (k:Fr k0 S' S''):Fr (n+k0) S S'':=⟨k.alt.trans h.alt,k.s0.trans h.s0,k.s1.trans h.s1,h.g0.trans k.g0,h.g1.trans k.g1,by have:=h.ar;have:=k.ar;omega⟩
theorem Fr.of (e1:S'.alt=S.alt) (e2:S'.s0=S.s0) (e3:S'.s1=S.s1) (e4:S'.g0=S.g0) (e5:S'.g1=S.g1) (e6:S'.areas=S.areas):Fr 0 S S':=⟨e1,e2,e3,e4 ▸ same.refl _,e5 ▸ same.refl _,by rw [e6];omega⟩
theorem q7p (S:Sc) {G:GS} (h:same S.g G):Fr 0 S (S.withG G):=by
 unfold Sc.withG;unfold Sc.g at h;cases hS:S.alt<;>rw [hS] at h<;>simp only [Bool.false_eq_true,if_false,if_true] at h ⊢
 ·exact ⟨hS.symm ▸ rfl,rfl,rfl,h,same.refl _,by show S.areas.length<=_;omega⟩
 ·exact ⟨hS.symm ▸ rfl,rfl,rfl,same.refl _,h,by show S.areas.length<=_;omega⟩
theorem fr_to (S:Sc) (r c:Int):Fr 0 S (S.to r c):=Fr.of rfl rfl rfl rfl rfl rfl
theorem q8c (S:Sc):Fr 0 S S.dry:=Fr.of rfl rfl rfl rfl rfl rfl
theorem q8w (G:GS) (top past n:Int) (a:Attr):same G (qcr G top past n a):=by
 unfold qcr;split
 ·exact same.refl _
 ·split<;>exact ⟨rfl,rfl,rfl⟩
theorem zdv (S:Sc) (t p n:Int):Fr 0 S (S.scroll t p n):=q7p S (q8w _ _ _ _ _)
theorem zg2 (S:Sc):Fr 0 S S.index:=by
 unfold Sc.index;split
 ·exact (q8c S).trans (zdv _ _ _ _)
 ·exact (q8c S).trans (fr_to _ _ _)
theorem zej (S:Sc) (f:List Cell->List Cell):Fr 0 S (S.change f):=by
 unfold Sc.change;split
 ·exact q7p S ⟨rfl,rfl,rfl⟩
 ·exact Fr.refl _ _
theorem q5n (S:Sc) (r w:Int) (b:Bool):Fr 0 S (S.laid r w b):=by
 unfold Sc.laid;dsimp only;have h:=zej S (S.putL r w);split
 ·exact h.trans (k0:=0) (Fr.of rfl rfl rfl rfl rfl rfl)
 ·exact h.trans (k0:=0) (Fr.of rfl rfl rfl rfl rfl rfl)
theorem za9 (S:Sc):Fr 0 S S.next:=(fr_to S S.c.Row 0).trans (zg2 _)
theorem zh6 (S:Sc) (b:Bool):Fr 0 S (S.layX b):=by
 unfold Sc.layX;split
 ·exact za9 S
 ·exact Fr.refl _ _
theorem zhw (S:Sc) (c:Nat) (r w:Int) (b:Bool):Fr 0 S (S.layY c r w b):=by
 unfold Sc.layY;split
 ·split
  ·exact Fr.refl _ _
  ·split
   ·exact (za9 S).trans (q5n _ _ _ _)
   ·exact (Fr.of (S:=S) (S':=S.setCol (w64 (c-w))) rfl rfl rfl rfl rfl rfl).trans (q5n _ _ _ _)
 ·exact q5n _ _ _ _
theorem zi4 (S:Sc) (r:Int):Fr 0 S (S.lay r):=by
 unfold Sc.lay;split
 ·exact Fr.refl _ _
 ·have h1:Fr 0 S { S with char:=r }:=Fr.of rfl rfl rfl rfl rfl rfl;exact ((h1.trans (zh6 _ _)).trans (q8c _)).trans (zhw _ _ _ _ _)
theorem zg1 (S:Sc) (r:Int):Fr 0 S (S.print r):=by
 unfold Sc.print;split<;>exact zi4 _ _
theorem zc0 (S:Sc) (rows cols:Int):Fm 0 S (S.resizeP rows cols):=by
 have e:∀(S:Sc) (k:Bool) (G:GS),G.most=(S.gk k).most->(S.putG k G).g0.most=S.g0.most/\(S.putG k G).g1.most=S.g1.most/\(S.putG k G).areas=S.areas:=by
  intro S k G h;cases k
  ·exact ⟨h,rfl,rfl⟩
  ·exact ⟨rfl,h,rfl⟩
 have h1:=e S S.alt (qbx (S.gk S.alt) rows.toNat cols.toNat S.c.Row) (qkv _ _ _ _).2.2;have h2:=e (S.putG S.alt (qbx (S.gk S.alt) rows.toNat cols.toNat S.c.Row)) (!S.alt) (qbx (S.gk !S.alt) rows.toNat cols.toNat (cutP (S.so !S.alt).c.Row 0 (w64 ((S.gk !S.alt).rows-1)))) (by rw [q4d];exact (qkv _ _ _ _).2.2);exact ⟨h2.1.trans h1.1,h2.2.1.trans h1.2.1,by show (S.resizeG2 rows cols).areas.length<=_;unfold Sc.resizeG2;rw [h2.2.2,h1.2.2];omega⟩
section
variable {w w':World} {base g:Nat} {F F':ScF} {S S':Sc} {p:Slc} {ps:List Int}
end
section
variable {w w':World} {base g:Nat} {F F':ScF} {S S':Sc} {p:Slc} {ps:List Int}
end
section
variable {w w' w1 w2:World} {base:Nat} {S:GS}
end
set_option maxRecDepth 100000
section
variable {w w':World} {base g:Nat} {q:Slc} {B:List Bool}
end
set_option maxRecDepth 400000
section
variable {w w':World} {base g:Nat} {F F':ScF} {S S':Sc} {c:qau}
end
section
variable {w w':World} {base g:Nat} {F F':ScF} {S S':Sc} {c:qau} {s tg pb:Nat} {tq:Slc}
theorem q95 (h:ScM w base g F S) {K:Int->Int->World->Prop} (hK:K (i64.wrap (S.g0.top-S.g0.old.length)) S.g1.top w.drew.drew):qg2 (some ⟨g,0,none⟩) w K:=by
 refine qsr _ ?_;unfold qle;simp only [onPtr_some];have hd:=h.drew;refine ⟨⟨by decide,by decide⟩,qar (x:=some ⟨F.f0.g,0,none⟩) (hd.blk.cell 0 rfl) ?_⟩;refine ⟨⟨by decide,by decide⟩,qar (x:=some ⟨F.f1.g,0,none⟩) (hd.blk.cell 1 rfl) ?_⟩;exact q9m hd.g0 ⟨hd.drew.blk.cell 1 rfl,qvp hd.drew.g1 hK⟩
end
abbrev Pl:=qa9
structure PlTM (w:World) (base g:Nat) (q:Slc) (T:List Pl):Prop where
 blk:Blk w g qxn [.slice q.a q.n q.c]
 hg:base<=g
 own:Go.Vc.Own q7b w base q T
def plS (g:Nat) (q:Slc) (k:Nat):Prop:=k=g\/q.blk=some k
section
variable {w w':World} {base g:Nat} {q:Slc} {T:List Pl}
theorem PlTM.ext (h:PlTM w base g q T) (hb:Below w.heap.size w w'):PlTM w' base g q T:=⟨h.blk.ext hb,h.hg,h.own.ext hb⟩
theorem PlTM.chg {S:Nat->Prop} (h:PlTM w base g q T) (hc:Chg S w w') (hS:∀k,plS g q k->¬S k):PlTM w' base g q T:=⟨h.blk.chg hc (hS _ (.inl rfl)),h.hg,h.own.chg hc fun k hk=>hS _ (.inr hk)⟩
theorem PlTM.lt (h:PlTM w base g q T):∀k,plS g q k->base<=k/\k<w.heap.size:=by
 rintro k (rfl | hk)
 ·exact ⟨h.hg,h.blk.lt⟩
 ·exact h.own.lt k hk
end
theorem q7t {w w1 w2:World} (h1:Below w.heap.size w w1) (h2:Below w1.heap.size w1 w2):Below w.heap.size w w2:=h1.trans (h2.mono h1.size)
theorem zgd {w w1 w2 w3:World} (h1:Below w.heap.size w w1) (h2:Below w1.heap.size w1 w2) (h3:Below w2.heap.size w2 w3):Below w.heap.size w w3:=q7t (q7t h1 h2) h3
section
variable {w w':World} {base g:Nat} {q:Slc} {T:List Pl}
end
section
variable {w w':World} {base g:Nat} {q:Slc} {T:List Pl}
end
set_option maxRecDepth 100000
def sizeL (L:List (Int×Im)):Nat:=(L.map fun p=>p.2.bs.length).sum
structure StOk (n:Nat) (S:St):Prop where
 q0:0<=S.quota
 q1:S.quota<=1073741824
 used:S.used=sizeL S.L
 fits:S.used<=S.quota
 len:S.L.length<=n
 clk0:0<=S.clock
 clk:S.clock<=n
 srt:Srt S.L
 keys:∀p∈S.L,0<p.1/\p.1<=1099511627776+n
 stamps:∀p∈S.L,0<p.2.v.stamp/\p.2.v.stamp<=S.clock
 borns:∀p∈S.L,0<p.2.v.born/\p.2.v.born<=S.clock
 st1:∀p∈S.L,∀q∈S.L,p.2.v.stamp=q.2.v.stamp->p=q
 bo1:∀p∈S.L,∀q∈S.L,p.2.v.born=q.2.v.born->p=q
def eldP:(Int×Im)->List (Int×Im)->Int×Im
 | p,[]=>p
 | p,q::r=>if q.2.v.stamp<p.2.v.stamp then eldP q r else eldP p r
def zjf:List (Int×Im)->Int
 | []=>0
 | p::r=>(eldP p r).1
section
variable {w:World} {base g r n:Nat} {S:St}
abbrev onS (g r:Nat):Nat->Prop:=fun k=>k=g\/k=r
end
section
variable {w:World} {base g r n:Nat} {S:St}
theorem zhb (h:StM w base g r S) (hk:StOk n S) (hn:n<=1000) {K:Slc->World->Prop}
  (hK:∀q w',Go.Vc.Own E_int w' w.heap.size q (S.L.map (·.1))->Below w.heap.size w w'->K q w'):qlf (some ⟨g,0,none⟩) w K:=by
 refine qyl _ ?_;unfold qqi;refine qwv (qef (x:=some r) (h.blk.cells 4 _ rfl) (zfb ?_));have hB:Below w.heap.size w (w.alloc (.cells #[.map (some r)] 79)):=(Below.refl _ w).alloc (le_refl _) _;have hb:Blk (w.alloc (.cells #[.map (some r)] 79)) w.heap.size 79 [.map (some r)]:=Blk.new w 79 [.map (some r)];have hl:=hk.len;refine q9p (L:=S.L) (h.map.ext hB) (by omega) (hb.cell 0 rfl) fun q w' ho hB'=>?_;have hs:(w.alloc (.cells #[.map (some r)] 79)).heap.size=w.heap.size+1:=by show (w.heap.push _).size=_;simp
 exact hK q w' (ho.base (by omega)) (hB.trans (hB'.mono (by omega)))
end
section
variable {w:World} {base g r n:Nat} {S:St}
end
section
variable {w:World} {base g r n:Nat} {S:St}
end
section
variable {w:World} {base g r n:Nat} {S:St}
end
section
variable {w:World} {base g r n:Nat} {S:St}
theorem zem {base:Nat} {s:Slc} {xs:List UInt8} {K:Slc->World->Prop} (h:Hold w base s xs) (hK:∀q:Slc,Hold w base q xs->q.n=xs.length->K q w):qge s w K:=by
 refine qre _ ?_;unfold qj0;have hn:=h.rd.n;refine h.rd.slK3 (l:=0) (m:=xs.length) (k:=1) rfl (.inl ⟨rfl,rfl⟩) (by rw [hn]) (by rw [hn]) (Nat.zero_le _) (le_refl _) fun hr=>?_;rw [List.take_of_length_le (le_refl _),List.drop_zero] at hr;refine hK _ ⟨hr,fun k hk=>?_⟩ (by show xs.length-0=_;omega);obtain ⟨a,ha,hak⟩:=slk.1 hk;obtain ⟨b,hb,hab⟩:=qh4 ha;exact h.blk k (slk.2 ⟨b,hb,by omega⟩)
end
section
variable {w:World} {base g r n:Nat} {S:St}
def qki (q:Int):Int:=if q<0\/q>1073741824 then 1 else 0
theorem zit {q:Int} (h:qki q=0):StOk 0 ⟨q,0,0,0,[]⟩:=by
 unfold qki at h;split at h
 ·cases h
 ·rename_i h;exact ⟨by show 0<=q;omega,by show q<=_;omega,rfl,by show 0<=q;omega,le_refl _,Int.le_refl _,Int.le_refl _,.nil,(fun p hp=>by cases hp),(fun p hp=>by cases hp),(fun p hp=>by cases hp),(fun p hp=>by cases hp),(fun p hp=>by cases hp)⟩
theorem zcu {q:Int} {w:World} {base:Nat} {K:Option Addr->Int->World->Prop} (hE:qki q=1->K none 1 w)
  (hK:∀g r w',qki q=0->w.heap.size<=g->w.heap.size<=r->StM w' base g r ⟨q,0,0,0,[]⟩->Below w.heap.size w w'->K (some ⟨g,0,none⟩) 0 w'):qv8 q w K:=by
 refine q5p _ ?_;unfold q1e;refine jpO fun J hJ=>?_;refine cO (fun h=>hE (by unfold qki;rw [if_pos (.inl (oTq h))])) fun h=>?_;refine cO (fun h'=>hE (by unfold qki;rw [if_pos (.inr (oTq h'))])) fun h'=>?_;have h:=oFq h;have h':=oFq h';refine hJ _ _ ?_;unfold nwM;have hB1:Below w.heap.size w (w.alloc (.map #[] 0)):=(Below.refl _ w).alloc (le_refl _) _;have hs1:(w.alloc (.map #[] 0)).heap.size=w.heap.size+1:=by show (w.heap.push _).size=_;simp
 refine nwb fun w2 hb2 hB2 hs2=>?_;refine hK _ w.heap.size w2 (by unfold qki;rw [if_neg (by omega)]) (by omega) (le_refl _) ⟨hb2,(MapM.new w).ext hB2,fun p hp=>by cases hp⟩ (hB1.trans (hB2.mono (by omega)))
theorem q5w {L:List (Int×Im)} (h:MapM Im.enc w r L) {K:Option Nat->World->Prop} (hK:∀r' w',w.heap.size<=r'->MapM Im.enc w' r' L->Below w.heap.size w w'->K (some r') w') :
  qby (some r) w K:=by
 refine qez _ ?_;unfold qcq;refine cF rfl ?_;obtain ⟨w1,hr1,hm1,hB1,hs1⟩:=q66 (P:=PG) h qco;refine ⟨.iface qco (.map (some w.heap.size)),w1,?_,?_⟩
 ·show (callFunc 204 #[.iface qco (.map (some r))]).run PG w=_;rw [run_callFunc_extern (P:=PG) (f:=204) Tryz.func204 (by kernel_rfl) (by kernel_rfl) (by kernel_rfl) (e:=Extern.MapsClone.clone) (by kernel_rfl),hr1];rfl
 ·exact ⟨some w.heap.size,w1,q0p tmap,hK _ w1 (le_refl _) hm1 hB1⟩
theorem zft (h:StM w base g r S) {K:Option Addr->World->Prop}
  (hK:∀g' r' w',w.heap.size<=g'->w.heap.size<=r'->StM w' base g' r' S->Below w.heap.size w w'->K (some ⟨g',0,none⟩) w'):qjr (some ⟨g,0,none⟩) w K:=by
 refine qxm _ ?_;unfold qph;refine qwv (qaq (x:=(⟨S.quota,S.res,S.used,S.clock,some r⟩:qdy)) h.blk.cells ?_);refine qt1 (t:=qkx) (vs:=qdy.rep.cells ⟨S.quota,S.res,S.used,S.clock,some r⟩) rfl fun w2 hb2 hB2 hs2=>?_;have h2:=h.ext hB2;refine qwv (qef (x:=some r) (h2.blk.cells 4 _ rfl) ?_);refine q5w h2.map fun r' w3 hr3 hm3 hB3=>?_;rw [qae];have hb3:=hb2.ext hB3;refine qah hb3 (by simp [qdy.rep]) fun w4 hb4 hg4 hs4=>?_;have hc:Chg (fun k=>k=w.heap.size) w w4:=((Chg.of_ext hB2).trans (Chg.of_ext hB3) fun i _ hi=>hi).trans (Chg.gg hg4) fun i _ hi=>hi;have hgl:=h.blk.lt;have hs3:=hB3.size;refine hK w.heap.size r' w4 (le_refl _) (by omega) ⟨hb4,hm3.chg (Chg.gg hg4) (hm3.ne_blk hb3),fun p hp=>((h2.img p hp).ext hB3).chg (Chg.gg hg4) fun k hk e=>((h2.img p hp).ext hB3).ne_b hb3 (by decide) k hk e⟩ (hc.ext fun i hi e=>by omega)
end
end Go.Proofs.YtcigiaecigedmaaGreatDoor
set_option maxRecDepth 20000
namespace Go.Proofs.YtcigiaecigedmaaGreatDoor
open Go.Vc
def near (m:Int):Bool:=decide (-1073741824<=m) && decide (m<1073741824)
end Go.Proofs.YtcigiaecigedmaaGreatDoor
namespace Go.Proofs.YtcigiaecigedmaaGreatDoor
open Go.Vc Go.RowKit
set_option maxRecDepth 400000
def toL (k:qcn):List Int:=[k.Action,k.Medium,k.Zip,k.What,k.Quiet,k.Format,k.W,k.H,k.Id,k.Number,k.Place,k.More,k.X,k.Y,k.PW,k.PH,k.DX,k.DY,k.Rows,k.Cols,k.Z,k.Stay]
section
variable {w:World} {g:Nat}
end
section
variable {w:World} {g:Nat} {L:List Int}
end
section
variable {w:World}
end
section
variable {w:World}
end
section
variable {w:World}
end
section
variable {w:World}
def Wide (L:List Int):Prop:=∀i:Nat,-9223372036854775808<=L[i]?.getD 0/\L[i]?.getD 0<=9223372036854775807
end
end Go.Proofs.YtcigiaecigedmaaGreatDoor
namespace Go.Proofs.YtcigiaecigedmaaGreatDoor
open Go.Vc

end Go.Proofs.YtcigiaecigedmaaGreatDoor
namespace Go.Vc
def cntK (ls:List UInt8) (k:Nat):Nat:=if k=0 then 0 else ls.countP fun x=>x.toNat==k
def zir:List UInt8:=List.replicate 144 8++List.replicate 112 9++List.replicate 24 7++List.replicate 8 8
end Go.Vc
namespace Go.Proofs.YtcigiaecigedmaaGreatDoor
open Go.Vc Go.RowKit
section
variable {w w':World} {g:Nat} {s:Slc} {bs:List UInt8} {at_:Nat}
end
def ints (l:List Nat):List Int:=List.map (fun n:Nat=>((n:Nat):Int)) l
structure TF where
 g:Nat
 so:Slc
 co:Slc
 lo:Slc
section
variable {w w':World} {base:Nat} {f:TF} {ls:List UInt8}
end
section
variable {w:World} {base g:Nat} {s:Slc} {bs ls:List UInt8} {at_:Nat} {f:TF}
end
set_option maxRecDepth 400000
section
variable {w w':World} {base:Nat} {f:TF} {ls:List UInt8}
end
def tp (o:Option TF):Option Addr:=o.map fun f=>⟨f.g,0,none⟩
section
variable {w w':World} {base:Nat}
end
section
variable {w w':World} {base:Nat} {r:Nat} {rs:Slc} {at_:Nat}
end
section
variable {w w':World} {base:Nat} {r:Nat} {rs:Slc} {at_:Nat}
end
section
variable {w w':World} {base:Nat} {r:Nat} {rs:Slc} {at_:Nat}
end
section
variable {w w':World} {base:Nat} {r:Nat} {rs:Slc} {at_:Nat}
end
section
variable {w w':World} {base:Nat} {r:Nat} {rs:Slc} {at_:Nat}
end
end Go.Proofs.YtcigiaecigedmaaGreatDoor
namespace Go.Vc
section
variable {B:List UInt8} {k:Nat}
end
section
variable {B:List UInt8}
end
end Go.Vc
namespace Go.Proofs.YtcigiaecigedmaaGreatDoor
open Go.Vc Go.RowKit
set_option maxRecDepth 400000
section
variable {w w':World} {base:Nat} {r:Nat} {rs:Slc} {at_:Nat}
end
section
variable {w:World} {base:Nat}
end
section
variable {w:World} {base:Nat}
end
section
variable {w w':World} {base g V n:Nat}
end
section
variable {w:World}
end
section
variable {w:World}
end
theorem cntF:(List.range 10).map (cntK zir)=[0,0,0,0,0,0,0,24,152,112]:=by decide +kernel
section
variable {B:List UInt8} {a:Nat}
end
section
variable {w:World}
end
section
variable {w:World}
end
end Go.Proofs.YtcigiaecigedmaaGreatDoor
namespace Go.Vc

end Go.Vc
namespace Go.Proofs.YtcigiaecigedmaaGreatDoor
open Go.Vc Go.RowKit
set_option maxRecDepth 400000
section
variable {w:World} {base:Nat}
end
section
variable {w:World} {base:Nat}
end
end Go.Proofs.YtcigiaecigedmaaGreatDoor
namespace Go.Proofs.YtcigiaecigedmaaGreatDoor
open Go.Vc
def set4 (m:List UInt8) (k:Nat) (c:List UInt8):List UInt8:=m.take k++c++m.drop (k+4)
def kind4 (k:List UInt8):List UInt8:=k.take 4++List.replicate (4-k.length) 0
end Go.Proofs.YtcigiaecigedmaaGreatDoor
namespace Go.Proofs.YtcigiaecigedmaaGreatDoor
open Go.Vc Go.RowKit
set_option maxRecDepth 400000
open Builtin (copy_)
open IntKind (i64)
open _root_.List (length_take)
open _root_.Nat (mul_one)
section
variable {w:World}
end
theorem zgt {zs vs:List Value} (hl:vs.length=zs.length):putL zs 0 vs=vs:=by
 refine List.ext_getElem? fun m=>?_;rw [qmo vs zs 0 m (by omega)];by_cases hm:m<vs.length
 ·rw [if_pos (by omega)];rfl
 ·rw [if_neg (by omega),List.getElem?_eq_none (by omega),List.getElem?_eq_none (by omega)]
theorem qfz {g:Nat} {t:TypeId} {vs us:List Value} {w:World} {K:World->Prop} (h:Blk w g t vs) (hl:us.length=vs.length) (hK:∀w',Blk w' g t us->Chg (fun k=>k=g) w w'->w'.heap.size=w.heap.size->K w'):stK ⟨g,0,none⟩ us w K :=
 qah h (by omega) fun w' hb hg hs=>hK w' (by rw [zgt hl] at hb;exact hb) (Chg.gg hg) hs
theorem qfu {r:Rep} {g:Nat} {t:TypeId} {vs us:List Value} {x:r.T} {w:World} {K:r.T->World->Prop} (h:Blk w g t vs) (hus:r.cells x=us) (hl:us.length=vs.length) (hK:∀w',Chg (fun k=>k=g) w w'->w'.heap.size=w.heap.size->K x w') :
  stK ⟨g,0,none⟩ us w fun w'=>ldS r ⟨g,0,none⟩ w' fun y=>K y w' :=
 qfz h hl fun w' hb hc hs=>qaq (x:=x) (by rw [hus];exact hb.cells) (hK w' hc hs)
theorem bdw (w:World):Below w.heap.size w w.drew:=(Below.refl _ w).drew
theorem b1o {w w1 w2:World} {g:Nat} (h:Below w.heap.size w w1) (hc:Chg (fun k=>k=g) w1 w2) (hg:w.heap.size<=g):Below w.heap.size w w2 :=
 h.trans (hc.below h.size fun i hi e=>by omega)
theorem bT {w w1 w2:World} (h:Below w.heap.size w w1) (h2:Below w1.heap.size w1 w2):Below w.heap.size w w2:=h.trans (h2.mono h.size)
section
variable {w:World}
end
section
variable {w:World}
end
theorem zis {w:World} {s:Slc} {xs:List UInt8} (h:Rd qal w s xs) {i:Nat} {x:UInt8} (hx:xs[i]?=some x):w.cell? (s.at_ 1 i)=some (.int .u8 (x.toNat:Int)):=by
 have:=h.at_ i x hx 0 _ rfl;have h2:w.cell? (s.at_ qal.k i)=some (.int .u8 (x.toNat:Int)):=by simpa using this
 exact h2
theorem zio {a b:Int} (h:a≠b):(a==b)=false:=by simpa using h
section
variable {w:World}
end
theorem w8 (y:UInt8):i64.wrap ((y.toNat:Nat):Int)=((y.toNat:Nat):Int):=w64i (by have:=y.toNat_lt;omega)
section
variable {w:World}
end
structure B64 where
 w:List Nat
 f:Nat
 last:Bool
 bad:Bool
def valN (w:List Nat):Nat:=w.foldl (fun a x=>64*a+x) 0
structure B64Ok (s:B64):Prop where
 n:s.w.length+s.f<4
 v:∀x∈s.w,x<64
 two:0<s.f->2<=s.w.length
def zja (s:B64):List Value:=[.int .u32 (valN s.w:Int),.int .i64 ((s.w.length+s.f:Nat):Int),.int .i64 (s.f:Int),.bool s.last,.bool s.bad]
def DecB (w:World) (g:Nat) (s:B64):Prop:=Blk w g q1x (zja s)
section
variable {w:World} {g:Nat} {s:B64}
end
def qcl (l:List UInt8):List Value:=l.map fun b=>Value.int .u8 (b.toNat:Int)
theorem q27 (l:List UInt8):flat qal l=qcl l:=by
 unfold flat qcl
 induction l with
 | nil=>rfl
 | cons x r ih=>rw [List.flatMap_cons,ih];rfl
theorem qix (l:List UInt8):(qcl l).length=l.length:=by simp [qcl]
theorem q9w (l:List UInt8):∀v∈qcl l,oneB v=true:=by
 intro v hv;unfold qcl at hv;obtain ⟨b,_,rfl⟩:=List.mem_map.1 hv;rfl
theorem zcg {w:World} {a:Addr} {l:List UInt8} (h:∀(i:Nat) x,l[i]?=some x->w.cell? (a.add i)=some (.int .u8 (x.toNat:Int))):(loadCells a l.length).run PG w=.ok (qcl l).toArray w:=by
 have:=run_loadCells_list (P:=PG) w a (qcl l) (fun j v hj=>by
  unfold qcl at hj;rw [List.getElem?_map] at hj;cases hb:l[j]? with
  | none=>rw [hb] at hj;cases hj
  | some b =>
   rw [hb] at hj;cases hj;exact h j b hb)
 rwa [qix] at this
theorem copyB {w:World} {g o dn dc n:Nat} {t:TypeId} {cur:List Value} {x:Slc} {ys:List UInt8} {K:Int->World->Prop} (hb:Blk w g t cur) (hx:Rd qal w x ys) (hn:n=min ys.length dn) (hf:o+n<=cur.length)
  (hK:∀w',Blk w' g t (putL cur o (qcl (ys.take n)))->Chg (fun k=>k=g) w w'->w'.heap.size=w.heap.size->K (n:Int) w') :
  runK1 PG (copy_ #[qaj,qaj] qbz #[.slice (some ⟨g,o,none⟩) dn dc,.slice x.a x.n x.c]) (Kind.int .i64) w K:=by
 have htl:(ys.take n).length=n:=by rw [length_take];omega
 have hst:(storeCells ⟨g,o,none⟩ (qcl (ys.take n)) 0).run PG w=.ok () (wr w ⟨g,o,none⟩ (qcl (ys.take n))) :=
  qrw (qcl (ys.take n)) 0 w (q9w _) (fun j hj=>by
   rw [qix,htl] at hj;rw [Nat.zero_add,qae];refine ⟨⟨cur[o+j]'(by omega),hb.cell (o+j) (List.getElem?_eq_getElem (by omega))⟩,hb.frozen _⟩)
 refine ⟨(n:Int),wr w ⟨g,o,none⟩ (qcl (ys.take n)),?_,hK _ (zfk hb) (Chg.gg (q7q w ⟨g,o,none⟩ _)) (size_wr _ _ _)⟩;have hu:PG.underlying qaj=some (.slice qa7):=by kernel_rfl
 have hi:=qd7.hi;have hs:qd7.i.size=1:=qd7.hs;have hi':PG.info? qa7=some qd7.i:=hi;have hxn:=hx.n;have hmin:Nat.min ys.length dn=n:=hn.symm;cases ha:x.a with
 | none =>
  have hy:=hx.none_nil ha;subst hy;have hn0:n=0:=by rw [hn];simp
  subst hn0;simp [copy_,run_underlying hu,Builtin.lenOf,Builtin.firstCells,sizeOf,typeInfo,hi',hxn,storeCells,wr,qc9,qcl,Kind.enc,goInt]
 | some a =>
  have hload:=zcg (w:=w) (a:=a) (l:=ys.take n) (fun i y hy=>by
   have hi2:i<n:=by rw [<-htl];exact (List.getElem?_eq_some_iff.1 hy).1
   rw [List.getElem?_take_of_lt hi2] at hy;have:=zis hx hy;simp only [Slc.at_,ha,Option.getD_some,mul_one] at this;exact this)
  rw [htl] at hload;simp [copy_,run_underlying hu,Builtin.lenOf,Builtin.firstCells,sizeOf,typeInfo,hi',hs,hxn,hmin,hload,hst,Kind.enc,goInt]
theorem zbk {w:World} {b g c:Nat} {xs:List UInt8} {s:Slc} (h:Go.Vc.Own qal w b s xs) (hs:s.a=some ⟨g,0,none⟩):∃cur,Blk w g qa7 cur/\cur.length=s.c/\cur.take xs.length=qcl xs/\xs.length<=s.c/\s.c<=maxLen/\b<=g/\s.n=xs.length:=by
 rcases h.form with ⟨rfl,rfl⟩ | ⟨g',cur,e,hg,hb,h1,h2,h3,h4⟩
 ·cases hs
 ·rw [e] at hs;have hg':g'=g:=congrArg Addr.block (Option.some.inj hs);subst hg';refine ⟨cur,hb,by rw [h3];exact mul_one _,?_,h1,h2,hg,by rw [e]⟩;rw [<-q27,<-h4];show _=cur.take (xs.length*1);rw [mul_one]
theorem zhk {w w':World} {b g:Nat} {xs ys:List UInt8} {s:Slc} {cur:List Value} {k:Nat} (h:Go.Vc.Own qal w b s xs) (hs:s.a=some ⟨g,0,none⟩) (hc:Blk w g qa7 cur) (hk:k+ys.length<=xs.length) (hw:Blk w' g qa7 (putL cur k (qcl ys))) :
  Go.Vc.Own qal w' b s (xs.take k++ys++xs.drop (k+ys.length)):=by
 obtain ⟨cur',hb,hl,ht,h1,h2,h3,h4⟩:=zbk (c:=0) h hs;have e:cur'=cur:=by
  unfold Blk at hb hc;rw [hb] at hc;injection hc with hc
  injection hc with hc _ _
  simpa using hc
 subst e;have hlen:(xs.take k++ys++xs.drop (k+ys.length)).length=xs.length:=by simp;omega
 obtain ⟨a,n,c⟩:=s;dsimp only at hs hl h1 h2 h4;subst hs h4;have:=Go.Vc.Own.of_blk (E:=qal) (xs:=xs.take k++ys++xs.drop (k+ys.length)) (c:=c) h3 hw (by omega) h2 (by rw [qfg,hl];exact (mul_one _).symm) (by
  rw [q27,hlen];show (putL cur' k (qcl ys)).take (xs.length*1)=_;rw [mul_one];refine List.ext_getElem? fun m=>?_;by_cases hm:m<xs.length
  ·rw [List.getElem?_take_of_lt hm,qmo _ _ _ _ (by rw [qix];omega),qix];have hcm:cur'[m]?=(qcl xs)[m]?:=by rw [<-ht,List.getElem?_take_of_lt hm]
   have hbm:∀l:List UInt8,(qcl l)[m]?=(l[m]?).map fun b=>Value.int .u8 (b.toNat:Int):=fun l=>by unfold qcl;rw [List.getElem?_map]
   by_cases hin:k<=m/\m<k+ys.length
   ·rw [if_pos hin,hbm,List.append_assoc,List.getElem?_append_right (by rw [length_take];omega),length_take,Nat.min_eq_left (by omega),List.getElem?_append_left (by omega)];unfold qcl;rw [List.getElem?_map]
   ·rw [if_neg hin,hcm,hbm,hbm];congr 1;by_cases hmk:m<k
    ·rw [List.append_assoc,List.getElem?_append_left (by rw [length_take];omega),List.getElem?_take_of_lt hmk]
    ·rw [List.append_assoc,List.getElem?_append_right (by rw [length_take];omega),length_take,Nat.min_eq_left (by omega),List.getElem?_append_right (by omega),List.getElem?_drop];congr 1;omega
  ·rw [List.getElem?_eq_none (by rw [length_take];omega),List.getElem?_eq_none (by rw [qix];omega)])
 rw [hlen] at this;exact this
section
variable {w:World}
end
structure LdK where
 k:qcn
 most:Nat
 need:Nat
structure LdS where
 d:B64
 b:List UInt8
 err:Nat
 over:Bool
def zih (gd:Nat) (C:LdK) (p:Slc) (held err:Nat) (over:Bool):List Value:=.pointer (some ⟨gd,0,none⟩)::(qcn.rep.cells C.k++[.int .i64 (C.most:Int),.int .i64 (C.need:Int),.slice p.a p.n p.c,.int .i64 (held:Int),.int .i64 (err:Int),.bool over])
def PcS (w:World) (B:Nat) (S:Nat->Prop) (p:Slc) (bs:List UInt8):Prop :=
 (bs=[]/\p=⟨none,0,0⟩)\/∃x,Go.Vc.Own zcy w B p [x]/\Go.Vc.Own qal w B x bs/\bs≠[]/\(∀k,p.blk=some k->S k)/\(∀k,x.blk=some k->S k)
structure LdA (w:World) (B g gd:Nat) (C:LdK) (s:LdS) (S:Nat->Prop):Prop where
 ex:∃p:Slc,Blk w g q5g (zih gd C p s.b.length s.err s.over)/\PcS w B S p s.b
 d:DecB w gd s.d
 ok:B64Ok s.d
 sg:S g
 sd:S gd
 lt:∀k,S k->B<=k/\k<w.heap.size
section
variable {w:World} {B g gd:Nat} {C:LdK} {s:LdS} {S:Nat->Prop}
theorem PcS.chg {w':World} {p:Slc} {bs:List UInt8} {T:Nat->Prop} (h:PcS w B S p bs) (hc:Chg T w w') (hT:∀k,S k->¬T k):PcS w' B S p bs:=by
 rcases h with h | ⟨x,h1,h2,h3,h4,h5⟩
 ·exact .inl h
 ·exact .inr ⟨x,h1.chg hc fun k hk=>hT k (h4 k hk),h2.chg hc fun k hk=>hT k (h5 k hk),h3,h4,h5⟩
theorem LdA.chg {w':World} {T:Nat->Prop} (h:LdA w B g gd C s S) (hc:Chg T w w') (hT:∀k,S k->¬T k):LdA w' B g gd C s S:=by
 obtain ⟨⟨p,h1,h2⟩,h3,h4,h5,h6,h7⟩:=h;exact ⟨⟨p,h1.chg hc (hT g h5),h2.chg hc hT⟩,Blk.chg h3 hc (hT gd h6),h4,h5,h6,fun k hk=>⟨(h7 k hk).1,Nat.lt_of_lt_of_le (h7 k hk).2 hc.size⟩⟩
theorem LdA.ext {w':World} (h:LdA w B g gd C s S) (hB:Below w.heap.size w w'):LdA w' B g gd C s S:=h.chg (Chg.of_ext (S:=fun _=>False) hB) fun k _ hf=>hf
end
section
variable {w:World} {g b:Nat} {p t d:Slc}
end
section
variable {w:World}
end
end Go.Proofs.YtcigiaecigedmaaGreatDoor
namespace Go.Proofs.YtcigiaecigedmaaGreatDoor
open Go.Vc
set_option maxRecDepth 400000

end Go.Proofs.YtcigiaecigedmaaGreatDoor
namespace Go.Proofs.YtcigiaecigedmaaGreatDoor
open Go.Vc Go.RowKit
set_option maxRecDepth 400000
section
variable {w0:World} {g b:Nat} {p t d:Slc} {W H bn bf ba bb bs bm gm:Nat} {tm:Slc}
end
section
variable {w w':World} {g:Nat} {s:Slc} {bs:List UInt8} {at_:Nat}
end
section
variable {w:World} {base tg:Nat} {lo co:Slc} {ls:List UInt8}
end
section
variable {w w':World} {base g rg:Nat} {s out:Slc} {bs hist:List UInt8} {most at_:Nat}
end
section
variable {w:World} {base g rg:Nat} {s out:Slc} {bs:List UInt8} {most at_:Nat}
end
section
variable {w w':World} {base g rg:Nat} {s out out':Slc} {bs hist ls:List UInt8} {most at_:Nat} {t:Nat×Slc×Slc}
end
section
variable {w w':World} {base g rg:Nat} {s out:Slc} {bs hist ls:List UInt8} {most at_ B:Nat}
end
section
variable {w w':World} {base g rg:Nat} {s out:Slc} {bs:List UInt8} {most at_:Nat}
end
section
variable {w w':World} {base g rg:Nat} {s out:Slc} {bs:List UInt8} {most at_:Nat}
end
section
variable {w:World}
end
section
variable {w:World}
end
end Go.Proofs.YtcigiaecigedmaaGreatDoor
namespace Go.Proofs.YtcigiaecigedmaaGreatDoor
open Go.Vc
set_option maxRecDepth 400000

end Go.Proofs.YtcigiaecigedmaaGreatDoor
namespace Go.Proofs.YtcigiaecigedmaaGreatDoor
open Go.Vc Go.RowKit
set_option maxRecDepth 400000
open IntKind (i64)
open _root_.Nat (add_mul le_refl le_trans mul_one zero_le)
section
variable {w:World}
theorem ze7 {W H:Nat} {K:Bool->World->Prop} (hW1:1<=W) (hW2:W<=16384) (hH1:1<=H) (hH2:H<=16384) (hA:W*H<=67108864) (hK:K true w):qt9 (W:Int) (H:Int) w K:=by
 refine q4r _ _ ?_;unfold qzp;refine cF (zio (by omega)) (cT (dTq (by omega)) (cT (dTq (by omega)) (cT (dTq (by omega)) (cT (dTq (by omega)) ?_))));rw [show (W:Int)*(H:Int)=((W*H:Nat):Int) by simp,w64i (by omega),dTq (by omega)];exact hK
theorem zee {W H:Nat} {K:qaa->Int->World->Prop} (hW1:1<=W) (hW2:W<=16384) (hH1:1<=H) (hH2:H<=16384) (hA:W*H<=67108864)
  (hK:∀(t:Slc) (gm:Nat) w',Go.Vc.Own qal w' w.heap.size t (List.replicate (4*W*H) 0)->t.a=some ⟨gm,0,none⟩->w.heap.size<=gm->Below w.heap.size w w'->K ⟨W,H,t⟩ 0 w'):qwu (W:Int) (H:Int) w K:=by
 refine q50 _ _ ?_;unfold q1i;refine nwb fun w1 h1 hB1 hs1=>ze7 hW1 hW2 hH1 hH2 hA (cF rfl ?_);have e:i64.wrap ((i64.wrap ((4:Int)*(W:Int)))*(H:Int))=((4*W*H:Nat):Int):=by
  have h4:4*W*H=4*(W*H):=Nat.mul_assoc _ _ _;rw [w64i (x:=(4:Int)*(W:Int)) (by omega),show (4:Int)*(W:Int)*(H:Int)=((4*W*H:Nat):Int) by simp,w64i (by omega)]
 rw [e];have h4:4*W*H=4*(W*H):=Nat.mul_assoc _ _ _;refine zh8 qd7 (x0:=(0:UInt8)) rfl (n:=4*W*H) rfl rfl (by rw [qp9];omega) (by unfold maxLen;omega) fun w4 ho hB4=>?_;refine qfu (r:=qaa.rep) (x:=⟨W,H,⟨some ⟨w1.heap.size,0,none⟩,4*W*H,4*W*H⟩⟩) (h1.ext hB4) rfl rfl fun w5 hc5 hs5=>?_;refine hK _ w1.heap.size w5 ((ho.chg hc5 fun k hk e=>?_).base (by omega)) rfl (by omega) (b1o (bT hB1 hB4) hc5 (le_refl _));have:=(ho.lt k hk).1;omega
end
section
variable {w:World}
end
section
variable {w:World}
end
section
variable {w:World} {B g gd:Nat} {C:LdK} {s:LdS} {S:Nat->Prop}
end
section
variable {w:World} {B g gd:Nat} {C:LdK} {s:LdS} {S:Nat->Prop}
def potL (s:LdS):Nat:=4*s.b.length+3*(s.d.w.length+s.d.f)
def q8z (k:qcn):Nat×Nat :=
 if k.Medium≠100\/(k.Zip≠0/\k.Zip≠122) then (8,0)
 else if k.Format=100 then (0,0)
 else if k.Format≠24/\k.Format≠32 then (8,0)
 else if k.W<1\/k.W>16384\/k.H<1\/k.H>16384 then (1,0)
 else (0,k.Format.toNat/8*k.W.toNat*k.H.toNat)
end
def newP (k:qcn) (room:Int):Nat :=
 if room<0\/room>1073741824 then 1
 else if (q8z k).1≠0 then (q8z k).1
 else if k.Format≠100/\4*k.W*k.H>room then 6 else 0
section
variable {w:World}
end
structure CfgOk (C:LdK):Prop where
 nw:newP C.k (C.most:Int)=0
 need:C.need=(q8z C.k).2
 most:C.most<=100000
section
variable {w:World} {B g gd:Nat} {C:LdK} {s:LdS} {S:Nat->Prop}
end
section
variable {w:World} {B g gd:Nat} {C:LdK} {s:LdS} {S:Nat->Prop}
end
structure KE where
 quota:Int
 S:St
 T:List Pl
 ld:Option (LdK×LdS)
 first:qcn
structure KF where
 sg:Nat
 sr:Nat
 tg:Nat
 q:Slc
 lg:Nat
 gd:Nat
 LS:Nat->Prop
def engC (F:KF) (E:KE):List Value:=.int .i64 E.quota::.pointer (some ⟨F.sg,0,none⟩)::.pointer (some ⟨F.tg,0,none⟩)::.pointer (if E.ld.isSome then some ⟨F.lg,0,none⟩ else none)::qcn.rep.cells E.first
def imgS (S:St) (k:Nat):Prop:=∃p∈S.L,p.2.v.m.P.blk=some k
structure EngM (w:World) (base g:Nat) (F:KF) (E:KE) (n:Nat):Prop where
 blk:Blk w g qvk (engC F E)
 hg:base<=g
 st:StM w base F.sg F.sr E.S
 ok:StOk n E.S
 hs:base<=F.sg/\base<=F.sr
 tb:PlTM w base F.tg F.q E.T
 tl:E.T.length<=n
 lo:∀C s,E.ld=some (C,s)->LdA w base F.lg F.gd C s F.LS/\CfgOk C
 nl:E.ld=none->∀k,¬F.LS k
 dg:¬F.LS g
 ds:¬F.LS F.sg/\¬F.LS F.sr
 dt:∀k,plS F.tg F.q k->¬F.LS k
 di:∀k,imgS E.S k->¬F.LS k
def engS (g:Nat) (F:KF) (k:Nat):Prop:=k=g\/onS F.sg F.sr k\/plS F.tg F.q k\/F.LS k
namespace KE
end KE
section
variable {w w':World} {base g n:Nat} {F F':KF} {E E':KE}
theorem EngM.below (h:EngM w base g F E n):∀k,engS g F k->base<=k/\k<w.heap.size:=by
 rintro k (rfl | (rfl | rfl) | hk | hk)
 ·exact ⟨h.hg,h.blk.lt⟩
 ·exact ⟨h.hs.1,h.st.blk.lt⟩
 ·exact ⟨h.hs.2,h.st.map.lt⟩
 ·exact h.tb.lt k hk
 ·cases hl:E.ld with
  | none=>exact absurd hk (h.nl hl k)
  | some x=>exact (h.lo x.1 x.2 hl).1.lt k hk
theorem EngM.ext (h:EngM w base g F E n) (hB:Below w.heap.size w w'):EngM w' base g F E n :=
 ⟨h.blk.ext hB,h.hg,h.st.ext hB,h.ok,h.hs,h.tb.ext hB,h.tl,fun C s hl=>⟨(h.lo C s hl).1.ext hB,(h.lo C s hl).2⟩,h.nl,h.dg,h.ds,h.dt,h.di⟩
end
section
variable {w w':World} {base g n:Nat} {F F':KF} {E E':KE}
end
section
variable {w w':World} {base g n:Nat} {F F':KF} {E E':KE}
end
section
variable {w w':World} {base g n:Nat} {F F':KF} {E E':KE}
theorem Tab.below4 (h:Tab w) (hB:Below 4 w w'):Tab w':=var?_below (g:=3) hB (by kernel_rfl) (by decide) h
end
section
variable {w w':World} {base g n:Nat} {F F':KF} {E E':KE}
end
section
variable {w w':World} {base g n:Nat} {F F':KF} {E E':KE}
end
section
variable {w w':World} {base g n:Nat} {F F':KF} {E E':KE}
end
section
variable {w w':World} {base g n:Nat} {F F':KF} {E E':KE}
end
section
variable {w:World}
end
section
variable {w w':World} {base g n:Nat} {F F':KF} {E E':KE}
end
open Classical in
section
variable {w w':World} {base g n:Nat} {F F':KF} {E E':KE}
end
section
variable {w w':World} {base g n:Nat} {F F':KF} {E E':KE}
end
section
variable {w w':World} {base g n:Nat} {F F':KF} {E E':KE}
end
section
variable {w w':World} {base g n:Nat} {F F':KF} {E E':KE}
end
def HasI (S:St) (id:Int):Prop:=∃x,(id,x)∈S.L
def Here (T:List Pl) (S:St):Prop:=∀p∈T,HasI S p.Image
def LdOk (B:Nat) (E:KE):Prop:=∀C s,E.ld=some (C,s)->s.over=false/\Wide (toL E.first)/\potL s<=B/\(s.b.length:Int)+E.S.used<=E.quota
structure Inv (B:Nat) (E:KE):Prop where
 here:Here E.T E.S
 q:E.S.quota=E.quota
 ld:LdOk B E
section
variable {B n:Nat} {E:KE} {W H:Int} {bs:List UInt8}
end
def keys0:qcn:=⟨0,0,0,0,0,0,0,0,0,0,0,0,0,0,0,0,0,0,0,0,0,0⟩
def newE (q:Int):KE:=⟨q,⟨q,0,0,0,[]⟩,[],none,keys0⟩
section
variable {w w':World} {base g n:Nat} {F F':KF} {E E':KE}
theorem zdk {q:Int} {K:Option Addr->Int->World->Prop} (hE:qki q=1->K none 1 w)
  (hK:qki q=0->∀g F w',w.heap.size<=g->EngM w' w.heap.size g F (newE q) 0->Below w.heap.size w w'->K (some ⟨g,0,none⟩) 0 w'):qv1 q w K:=by
 refine q5j _ ?_;unfold q0f;refine zcu (base:=w.heap.size) (fun h=>cT rfl (hE h)) fun sg sr w1 he hsg hsr hst hB1=>?_;refine cF rfl ?_;refine q52 ?_;unfold q00;refine nwb fun w2 ht2 hB2 hs2=>?_;refine nwb fun w3 hg3 hB3 hs3=>?_;have B3:=zgd hB1 hB2 hB3;have z1:=hB1.size;have z2:=hB2.size;have z3:=hB3.size;refine hK he w2.heap.size ⟨sg,sr,w1.heap.size,⟨none,0,0⟩,0,0,fun _=>False⟩ w3 (by omega) ⟨hg3,by omega,(hst.ext hB2).ext hB3,zit he,⟨hsg,hsr⟩,⟨ht2.ext hB3,by omega,Go.Vc.Own.nil _ _ _⟩,le_refl _,(fun C s h=>by cases h),(fun _ k h=>h),(fun h=>h),⟨fun h=>h,fun h=>h⟩,(fun k _ h=>h),fun k _ h=>h⟩ B3
theorem q8d (h:EngM w base g F E n) {K:Option Addr->World->Prop} (hK:∀g' r' w',w.heap.size<=g'->w.heap.size<=r'->StM w' base g' r' E.S->Below w.heap.size w w'->K (some ⟨g',0,none⟩) w'):qiv (some ⟨g,0,none⟩) w K:=by
 refine qu4 _ ?_;unfold qm9;simp only [onPtr_some];exact qar (x:=some ⟨F.sg,0,none⟩) (h.blk.cells 1 _ rfl) (zft h.st hK)
end
section
variable {w w':World} {base g n:Nat} {F F':KF} {E E':KE}
end
section
variable {w w':World} {base g n:Nat} {F F':KF} {E E':KE}
end
section
variable {w w':World} {base g n:Nat} {F F':KF} {E E':KE}
def cellB (b:UInt8):Value:=.int .u8 (b.toNat:Int)
def RowM (w:World) (g:Nat) (bs:List UInt8):Prop:=w.heap[g]?=some (.cells (bs.map cellB).toArray qa7 (bs.length,bs.length+1))
theorem RowM.lt {bs:List UInt8} (h:RowM w g bs):g<w.heap.size:=(Array.getElem?_eq_some_iff.1 h).1
theorem RowM.cell {bs:List UInt8} (h:RowM w g bs) {j:Nat} {b:UInt8} (hb:bs[j]?=some b):w.cell? ⟨g,j,none⟩=some (cellB b):=by
 unfold RowM at h;simp [World.cell?,h,hb]
theorem RowM.rd {bs:List UInt8} (h:RowM w g bs) (hl:bs.length<=1000000):Rd qal w ⟨some ⟨g,0,none⟩,bs.length,bs.length⟩ bs:=by
 refine ⟨rfl,le_refl _,by show bs.length<=maxLen;simp only [maxLen];omega,fun _=>rfl,fun i x hx j v hv=>?_⟩;have hj:j=0:=by
  have:=(List.getElem?_eq_some_iff.1 hv).1;simp [qal] at this;exact this
 subst hj;have e:v=cellB x:=by simpa [qal,cellB] using hv.symm
 rw [e];show w.cell? (((⟨g,0,none⟩:Addr).add (i*qal.k)).add 0)=_;rw [add_zero,qae,Nat.zero_add,show i*qal.k=i from mul_one i];exact h.cell hx
def Cmd (w:World) (base:Nat) (c:Slc) (bs:List UInt8):Prop:=Go.Vc.Own qal w base c bs\/∃g,base<=g/\c=⟨some ⟨g,0,none⟩,bs.length,bs.length⟩/\RowM w g bs
theorem Cmd.rd {c:Slc} {bs:List UInt8} (h:Cmd w base c bs) (hl:bs.length<=1000000):Rd qal w c bs:=by
 rcases h with h | ⟨g,_,rfl,h⟩
 ·exact h.rd
 ·exact h.rd hl
theorem zd8 {vs:List Value} {m:Nat} {bs:List UInt8} {K:Slc->World->Prop} (hv:vs=bs.map cellB) (hn:m=bs.length)
  (hK:∀s w',Cmd w' w.heap.size s bs->Below w.heap.size w w'->K s w') :
  nw qa7 vs w fun t w1=>runK1 PG (convert qaj qaj (.slice (some t) m m)) Kind.slice w1 K:=by
 subst hn hv;refine ⟨⟨some ⟨w.heap.size,0,none⟩,bs.length,bs.length⟩,_,Lib.run_convert_bytes_const w qaj qa7 _ _ _ (by kernel_rfl) (by kernel_rfl),hK _ _ (.inr ⟨_,le_refl _,rfl,?_⟩) ((Below.refl _ w).alloc (le_refl _) _)⟩;show (w.alloc _).heap[w.heap.size]?=_;rw [heap_alloc_new];simp
theorem EngM.chgS {S:Nat->Prop} (h:EngM w base g F E n) (hc:Chg S w w') (hS:∀k,engS g F k->¬S k) (hi:∀k,imgS E.S k->¬S k):EngM w' base g F E n :=
 ⟨h.blk.chg hc (hS _ (.inl rfl)),h.hg,h.st.keep hc (hS _ (.inr (.inl (.inl rfl)))) (hS _ (.inr (.inl (.inr rfl)))) (fun p hp k hk=>hi k ⟨p,hp,hk⟩),h.ok,h.hs,h.tb.chg hc fun k hk=>hS k (.inr (.inr (.inl hk))),h.tl,
  fun C s hl=>⟨(h.lo C s hl).1.chg hc fun k hk=>hS k (.inr (.inr (.inr hk))),(h.lo C s hl).2⟩,h.nl,h.dg,h.ds,h.dt,h.di⟩
end
structure TmF where
 tg:Nat
 sg:Nat
 SF:ScF
 eg:Nat
 KF:KF
 pg:Nat
 cq:Slc
 rq:Slc
structure TS where
 c:qau
 S:Sc
 E:KE
 n:Nat
 cmd:List UInt8
 long:Bool
 rep:List UInt8
 f0:Int
 f1:Int
def termC (F:TmF) (T:TS):List Value:=[.int .i64 T.c.Rows,.int .i64 T.c.Cols,.int .i64 T.c.CellW,.int .i64 T.c.CellH,.int .i64 T.c.Back,.int .i64 T.c.Quota,.pointer (some ⟨F.sg,0,none⟩),.pointer (some ⟨F.eg,0,none⟩),.pointer (some ⟨F.pg,0,none⟩),.pointer none,.slice F.cq.a F.cq.n F.cq.c,.bool T.long,.slice F.rq.a F.rq.n F.rq.c,.int .i64 T.f0,.int .i64 T.f1]
def termS (F:TmF) (k:Nat):Prop:=k=F.tg\/scS F.sg F.SF k\/engS F.eg F.KF k\/F.cq.blk=some k\/F.rq.blk=some k
structure TermM (w:World) (base:Nat) (F:TmF) (T:TS):Prop where
 blk:Blk w F.tg qt0 (termC F T)
 hg:base<=F.tg
 sc:ScM w base F.sg F.SF T.S
 en:EngM w base F.eg F.KF T.E T.n
 cq:Go.Vc.Own qal w base F.cq T.cmd
 rq:Go.Vc.Own qal w base F.rq T.rep
 dse:∀k,scS F.sg F.SF k->¬engS F.eg F.KF k
 dsi:∀k,scS F.sg F.SF k->¬imgS T.E.S k
 dc:∀k,F.cq.blk=some k->¬scS F.sg F.SF k/\¬engS F.eg F.KF k/\¬imgS T.E.S k/\F.rq.blk≠some k
 dr:∀k,F.rq.blk=some k->¬scS F.sg F.SF k/\¬engS F.eg F.KF k/\¬imgS T.E.S k
 dt:¬scS F.sg F.SF F.tg/\¬engS F.eg F.KF F.tg
 ld:T.E.ld=none
 tab:Tab w
 b4:4<=base
section
variable {w w':World} {base:Nat} {F F':TmF} {T T':TS}
theorem q8a {w:World} {base g n:Nat} {F:KF} {E:KE} (h:EngM w base g F E n) {k:Nat} (hk:imgS E.S k):base<=k/\∃cs,Blk w k qa7 cs:=by
 obtain ⟨p,hp,hb⟩:=hk;exact (h.st.img p hp).blk k hb
theorem TermM.img_tg (h:TermM w base F T):¬imgS T.E.S F.tg:=fun hk=>by
 obtain ⟨_,cs,hb⟩:=q8a h.en hk;exact h.blk.ne_t hb (by decide) rfl
theorem TermM.below (h:TermM w base F T):∀k,termS F k->base<=k/\k<w.heap.size:=by
 rintro k (rfl | hk | hk | hk | hk)
 ·exact ⟨h.hg,h.blk.lt⟩
 ·exact h.sc.below k hk
 ·exact h.en.below k hk
 ·exact h.cq.lt k hk
 ·exact h.rq.lt k hk
theorem TermM.keep {X:Nat->Prop} (h:TermM w base F T) (hc:Chg X w w') (hX:∀k,termS F k->¬X k) (hi:∀k,imgS T.E.S k->¬X k) (hf:Go.Proofs.YtcigiaecigedmaaGreatDoor.far X w) (ht:Tab w'):TermM w' base F T :=
 ⟨h.blk.chg hc (hX _ (.inl rfl)),h.hg,h.sc.keep hc (fun k hk=>hX k (.inr (.inl hk))) hf,h.en.chgS hc (fun k hk=>hX k (.inr (.inr (.inl hk)))) hi,h.cq.chg hc fun k hk=>hX k (.inr (.inr (.inr (.inl hk)))),h.rq.chg hc fun k hk=>hX k (.inr (.inr (.inr (.inr hk)))),
  h.dse,h.dsi,h.dc,h.dr,h.dt,h.ld,ht,h.b4⟩
theorem TermM.ext (h:TermM w base F T) (hB:Below w.heap.size w w'):TermM w' base F T:=h.keep (Chg.of_ext (S:=fun _=>False) hB) (fun _ _ h=>h) (fun _ _ h=>h) (fun _ _ h=>h.elim) (h.tab.ext hB)
theorem TermM.drew (h:TermM w base F T):TermM w.drew base F T:=h.ext ((Below.refl _ w).drew)
theorem TermM.base_le (h:TermM w base F T):base<=w.heap.size:=le_trans h.hg (Nat.le_of_lt h.blk.lt)
structure TmT (base:Nat) (w:World) (F F':TmF) (T':TS) (w':World):Prop where
 m:TermM w' base F' T'
 old:∀k,termS F' k->termS F k\/w.heap.size<=k
 chg:Chg (termS F) w w'
 tg:F'.tg=F.tg
 pg:F'.pg=F.pg
theorem TmT.trans {w1 w2:World} {F1 F2:TmF} {T1 T2:TS} (h:TmT base w F F1 T1 w1) (h2:TmT base w1 F1 F2 T2 w2):TmT base w F F2 T2 w2:=by
 have hs:=h.chg.size;refine ⟨h2.m,fun k hk=>?_,h.chg.trans h2.chg fun i hi hk=>?_,h2.tg.trans h.tg,h2.pg.trans h.pg⟩
 ·rcases h2.old k hk with h3 | h3
  ·exact h.old k h3
  ·right;omega
 ·rcases h.old i hk with h3 | h3
  ·exact h3
  ·omega
theorem TmT.of_ext (h:TermM w base F T) (hB:Below w.heap.size w w'):TmT base w F F T w':=⟨h.ext hB,fun k hk=>.inl hk,Chg.of_ext hB,rfl,rfl⟩
theorem TmT.drew {F1:TmF} {T1:TS} {w1:World} (h:TmT base w F F1 T1 w1):TmT base w F F1 T1 w1.drew:=h.trans (TmT.of_ext h.m ((Below.refl _ w1).drew))
theorem TmT.ext {F1:TmF} {T1:TS} {w1 w2:World} (h:TmT base w F F1 T1 w1) (hB:Below w1.heap.size w1 w2):TmT base w F F1 T1 w2:=h.trans (TmT.of_ext h.m hB)
theorem TermM.belowB (h:TermM w base F T) (hT:TmT base w F F' T' w'):Below base w w':=hT.chg.below h.base_le fun i hi hs=>by have:=(h.below i hs).1;omega
theorem q1q {X:Nat->Prop} (h:TermM w base F T) (hc:Chg X w w') (hX:∀k,X k->base<=k):Tab w':=h.tab.below4 ((hc.below h.base_le fun i hi hs=>by have:=hX i hs;omega).mono (by have:=h.b4;omega))
theorem TermM.put (h:TermM w base F T) {F':TmF} {T':TS} (hb:Blk w' F.tg qt0 (termC F' T')) (hc:Chg (fun k=>k=F.tg) w w') (e1:F'.tg=F.tg) (e2:F'.sg=F.sg) (e3:F'.SF=F.SF) (e4:F'.eg=F.eg) (e5:F'.KF=F.KF) (e0:F'.pg=F.pg) (s1:T'.S=T.S) (s2:T'.E=T.E) (s3:T'.n=T.n)
  (cq:Go.Vc.Own qal w base F'.cq T'.cmd) (rq:Go.Vc.Own qal w base F'.rq T'.rep) (bc:∀k,F'.cq.blk=some k->F.cq.blk=some k) (br:∀k,F'.rq.blk=some k->F.rq.blk=some k):TmT base w F F' T' w':=by
 obtain ⟨tg,sg,SF',eg,KF',pg,cq',rq'⟩:=F';obtain ⟨c',S',E',n',cmd',long',rep',f0',f1'⟩:=T';dsimp only at *;subst e1 e2 e3 e4 e5 s1 s2 s3;have ht:Tab w':=q1q h hc fun k e=>by rw [e];exact h.hg
 refine ⟨⟨hb,h.hg,h.sc.keep hc (fun k hk e=>h.dt.1 (e ▸ hk)) (fun k cs e hk=>by subst e;exact h.blk.ne_t hk (by decide) rfl),h.en.chgS hc (fun k hk e=>h.dt.2 (e ▸ hk)) (fun k hk e=>h.img_tg (e ▸ hk)),cq.chg hc (qbo cq h.blk (by decide)),rq.chg hc (qbo rq h.blk (by decide)),
  h.dse,h.dsi,fun k hk=>⟨(h.dc k (bc k hk)).1,(h.dc k (bc k hk)).2.1,(h.dc k (bc k hk)).2.2.1,fun e=>(h.dc k (bc k hk)).2.2.2 (br k e)⟩,fun k hk=>h.dr k (br k hk),h.dt,h.ld,ht,h.b4⟩,fun k hk=>.inl ?_,hc.mono fun k _ e=>.inl e,rfl,e0⟩
 rcases hk with hk | hk | hk | hk | hk
 ·exact .inl hk
 ·exact .inr (.inl hk)
 ·exact .inr (.inr (.inl hk))
 ·exact .inr (.inr (.inr (.inl (bc k hk))))
 ·exact .inr (.inr (.inr (.inr (br k hk))))
theorem TermM.screen (h:TermM w base F T) {SF':ScF} {S':Sc} (hT:ScT base F.sg w F.SF SF' S' w'):TmT base w F { F with SF:=SF' } { T with S:=S' } w':=by
 have hc:=hT.chg;have ht:Tab w':=q1q h hc fun k hk=>(h.sc.below k hk).1;have nx:∀{X:Nat->Prop},(∀k,scS F.sg F.SF k->¬X k)->(∀k,X k->k<w.heap.size)->∀k,scS F.sg SF' k->¬X k:=fun h1 h2 k hk hx=>by
  rcases hT.old k hk with h3 | h3
  ·exact h1 k h3 hx
  ·have:=h2 k hx;omega
 refine ⟨⟨h.blk.chg hc fun hk=>h.dt.1 hk,h.hg,hT.m,h.en.chgS hc (fun k hk hs=>h.dse k hs hk) (fun k hk hs=>h.dsi k hs hk),h.cq.chg hc fun k hk=>(h.dc k hk).1,h.rq.chg hc fun k hk=>(h.dr k hk).1,
  nx h.dse fun k hk=>(h.en.below k hk).2,nx h.dsi fun k hk=>by obtain ⟨_,cs,hb⟩:=q8a h.en hk;exact hb.lt,fun k hk=>⟨fun hs=>?_,(h.dc k hk).2⟩,fun k hk=>⟨fun hs=>?_,(h.dr k hk).2⟩,⟨fun hs=>?_,h.dt.2⟩,h.ld,ht,h.b4⟩,fun k hk=>?_,hc.mono fun k _ hk=>.inr (.inl hk),rfl,rfl⟩
 ·exact nx (X:=fun j=>j=k) (fun j hj e=>(h.dc k hk).1 (e ▸ hj)) (fun j e=>by rw [e];exact (h.cq.lt k hk).2) k hs rfl
 ·exact nx (X:=fun j=>j=k) (fun j hj e=>(h.dr k hk).1 (e ▸ hj)) (fun j e=>by rw [e];exact (h.rq.lt k hk).2) k hs rfl
 ·exact nx (X:=fun j=>j=F.tg) (fun j hj e=>h.dt.1 (e ▸ hj)) (fun j e=>by rw [e];exact h.blk.lt) F.tg hs rfl
 ·rcases hk with hk | hk | hk | hk | hk
  ·exact .inl (.inl hk)
  ·rcases hT.old k hk with h3 | h3
   ·exact .inl (.inr (.inl h3))
   ·exact .inr h3
  ·exact .inl (.inr (.inr (.inl hk)))
  ·exact .inl (.inr (.inr (.inr (.inl hk))))
  ·exact .inl (.inr (.inr (.inr (.inr hk))))
theorem TermM.replied (h:TermM w base F T) {q:Slc} {xs:List UInt8} (ho:Go.Vc.Own qal w' base q (T.rep++xs)) (hc:Chg (fun k=>F.rq.blk=some k) w w') (hq:q.blk=F.rq.blk\/q.blk=some w.heap.size) {K:World->Prop}
  (hK:∀w2,TmT base w F { F with rq:=q } { T with rep:=T.rep++xs } w2->K w2):stK ((⟨F.tg,0,none⟩:Addr).add 12) [(.slice q.a q.n q.c)] w' K:=by
 have hs:=hc.size;have hb:=h.blk.chg hc (qbo h.rq h.blk (by decide) _ · rfl);rw [qae];refine qah hb (by show 0+12+1<=15;omega) fun w2 hb2 hg2 hs2=>hK w2 ?_;have c2:Chg (fun k=>F.rq.blk=some k\/k=F.tg) w w2:=(hc.mono fun k _ e=>.inl e).trans (Chg.gg hg2) fun k _ e=>.inr e;have hq':∀k,q.blk=some k->F.rq.blk=some k\/w.heap.size<=k:=fun k hk=>by
  rcases hq with e | e
  ·exact .inl (e ▸ hk)
  ·rw [e] at hk;cases hk;exact .inr (le_refl _)
 have nt:F.rq.blk≠some F.tg:=fun e=>qbo h.rq h.blk (by decide) _ e rfl;refine ⟨⟨hb2,h.hg,h.sc.keep c2 ?_ ?_,h.en.chgS c2 ?_ ?_,h.cq.chg c2 ?_,ho.chg (Chg.gg hg2) ?_,h.dse,h.dsi,fun k hk=>?_,fun k hk=>?_,h.dt,h.ld,q1q h c2 ?_,h.b4⟩,fun k hk=>?_,c2.mono fun k _ hk=>?_,rfl,rfl⟩
 ·rintro k hk (e | e)
  ·exact (h.dr k e).1 hk
  ·exact h.dt.1 (e ▸ hk)
 ·rintro k cs (e | e) hb
  ·exact qbo h.rq hb (by decide) k e rfl
  ·subst e;exact h.blk.ne_t hb (by decide) rfl
 ·rintro k hk (e | e)
  ·exact (h.dr k e).2.1 hk
  ·exact h.dt.2 (e ▸ hk)
 ·rintro k hk (e | e)
  ·exact (h.dr k e).2.2 hk
  ·exact h.img_tg (e ▸ hk)
 ·rintro k hk (e | e)
  ·exact (h.dc k hk).2.2.2 e
  ·exact qbo h.cq h.blk (by decide) k hk e
 ·intro k hk e;rcases hq' k hk with h1 | h1
  ·exact nt (e ▸ h1)
  ·have:=h.blk.lt;omega
 ·refine ⟨(h.dc k hk).1,(h.dc k hk).2.1,(h.dc k hk).2.2.1,fun e=>?_⟩;rcases hq' k e with h1 | h1
  ·exact (h.dc k hk).2.2.2 h1
  ·have:=(h.cq.lt k hk).2;omega
 ·rcases hq' k hk with h1 | h1
  ·exact h.dr k h1
  ·refine ⟨fun hs=>?_,fun hs=>?_,fun hs=>?_⟩
   ·have:=(h.sc.below k hs).2;omega
   ·have:=(h.en.below k hs).2;omega
   ·obtain ⟨_,cs,hb⟩:=q8a h.en hs;have:=hb.lt;omega
 ·rintro k (e | e)
  ·exact (h.rq.lt k e).1
  ·rw [e];exact h.hg
 ·rcases hk with hk | hk | hk | hk | hk
  ·exact .inl (.inl hk)
  ·exact .inl (.inr (.inl hk))
  ·exact .inl (.inr (.inr (.inl hk)))
  ·exact .inl (.inr (.inr (.inr (.inl hk))))
  ·rcases hq' k hk with h1 | h1
   ·exact .inl (.inr (.inr (.inr (.inr h1))))
   ·exact .inr h1
 ·rcases hk with e | e
  ·exact .inr (.inr (.inr (.inr e)))
  ·exact .inl e
end
def fillR (P:List UInt8) (W py:Nat) (c:List UInt8) (x0:Nat):Nat->List UInt8
 | 0=>P
 | k+1=>set4 (fillR P W py c x0 k) (4*(py*W+(x0+k))) c
def fillQ (P:List UInt8) (W:Nat) (c:List UInt8) (x0 nx y0:Nat):Nat->List UInt8
 | 0=>P
 | k+1=>fillR (fillQ P W c x0 nx y0 k) W (y0+k) c x0 nx
def lo0 (x:Int):Nat:=(if 0>x then 0 else x).toNat
def hiN (x wx:Int) (W:Nat):Nat:=(if (W:Int)<x+wx then (W:Int) else x+wx).toNat
def fillP (P:List UInt8) (W H:Nat) (x y wx hx:Int) (c:List UInt8):List UInt8:=fillQ P W c (lo0 x) (hiN x wx W-lo0 x) (lo0 y) (hiN y hx H-lo0 y)
theorem q9q {m c:List UInt8} {k:Nat} (hk:k+4<=m.length) (hc:c.length=4):(set4 m k c).length=m.length:=by
 unfold set4;simp only [List.length_append,List.length_take,List.length_drop];omega
theorem q83 {W H x y:Nat} (hx:x<W) (hy:y<H):4*(y*W+x)+4<=4*W*H:=by
 have h1:(y+1)*W<=H*W:=Nat.mul_le_mul_right W hy;rw [add_mul] at h1;have h2:4*W*H=4*(H*W):=by rw [Nat.mul_assoc,Nat.mul_comm W H]
 omega
theorem qtk {W H py:Nat} {c:List UInt8} {x0:Nat} {P:List UInt8} (hP:P.length=4*W*H) (hc:c.length=4) (hy:py<H):∀n,x0+n<=W->(fillR P W py c x0 n).length=4*W*H
 | 0,_=>hP
 | n+1,h=>by
  have ih:=qtk (x0:=x0) hP hc hy n (by omega);show (set4 _ _ _).length=_;rw [q9q (by rw [ih];exact q83 (x:=x0+n) (y:=py) (by omega) hy) hc,ih]
theorem qug {W H:Nat} {c:List UInt8} {x0 nx y0:Nat} {P:List UInt8} (hP:P.length=4*W*H) (hc:c.length=4) (hx:x0+nx<=W\/nx=0):∀n,(y0+n<=H\/n=0)->(fillQ P W c x0 nx y0 n).length=4*W*H
 | 0,_=>hP
 | n+1,h=>by
  have ih:=qug (y0:=y0) hP hc hx n (by omega);rcases hx with hx | rfl
  ·exact qtk ih hc (by omega) nx hx
  ·exact ih
theorem hi_le (x wx:Int) (W:Nat):lo0 x+(hiN x wx W-lo0 x)<=W\/hiN x wx W-lo0 x=0:=by
 unfold hiN lo0;split<;>split<;>omega
def colC (c:List UInt8) (r:qag):Prop:=c.length=4/\qag.rep.cells r=qcl c
structure MatM (w:World) (base:Nat) (m:qaa) (W H:Nat) (P:List UInt8):Prop where
 hw:m.W=W
 hh:m.H=H
 own:Go.Vc.Own qal w base m.P P
 len:P.length=4*W*H
 lim:1<=W/\W<=16384/\1<=H/\H<=16384/\4*W*H<=268435456
section
variable {w w':World} {base W H:Nat} {m:qaa} {P:List UInt8}
theorem MatM.ext (h:MatM w base m W H P) (hB:Below w.heap.size w w'):MatM w' base m W H P:=⟨h.hw,h.hh,h.own.ext hB,h.len,h.lim⟩
theorem MatM.some_ (h:MatM w base m W H P):∃g,m.P.a=some ⟨g,0,none⟩/\m.P.blk=some g:=by
 rcases h.own.form with ⟨_,e⟩ | ⟨g,cur,hs,_⟩
 ·have h1:=h.len;rw [e] at h1;have:=h.lim;have h2:1*1<=W*H:=Nat.mul_le_mul this.1 this.2.2.1;rw [Nat.mul_assoc] at h1;simp at h1;omega
 ·exact ⟨g,by rw [hs],by rw [hs];rfl⟩
theorem q2r (h:MatM w base m W H P) {x y wx hx:Int} (bx:-100000000<=x/\x<=100000000) (by_:-100000000<=y/\y<=100000000) (bw:-100000000<=wx/\wx<=100000000) (bh:-100000000<=hx/\hx<=100000000) {c:qag} {cb:List UInt8} (hc:colC cb c) {K:World->Prop}
  (hK:∀w',MatM w' base m W H (fillP P W H x y wx hx cb)->Chg (fun k=>m.P.blk=some k) w w'->K w'):qo1 m x y wx hx c w K:=by
 refine q36 _ _ _ _ _ _ ?_;unfold qza;obtain ⟨gm,ha,hbm⟩:=h.some_;have hlim:=h.lim;refine nwb fun w1 hm1 hB1 hs1=>nwb fun w2 hc2 hB2 hs2=>?_;have hB12:=bT hB1 hB2;have gl:=(h.own.lt gm hbm).2;have hm2:=hm1.ext hB2;have hm2l:=hm2.lt;have hc2l:=hc2.lt;have el:qag.rep.cells c=qcl cb:=hc.2;have ewx:i64.wrap (x+wx)=x+wx:=w64i (by omega);have ehx:i64.wrap (y+hx)=y+hx:=w64i (by omega);obtain ⟨x0,hx0⟩:∃x0,x0=lo0 x:=⟨_,rfl⟩;obtain ⟨nx,hnx⟩:∃nx,nx=hiN x wx W-lo0 x:=⟨_,rfl⟩;obtain ⟨y0,hy0⟩:∃y0,y0=lo0 y:=⟨_,rfl⟩;obtain ⟨ny,hny⟩:∃ny,ny=hiN y hx H-lo0 y:=⟨_,rfl⟩;have lx:(x0:Int)=(if 0>x then 0 else x):=by rw [hx0];unfold lo0;split<;>omega
 have ly:(y0:Int)=(if 0>y then 0 else y):=by rw [hy0];unfold lo0;split<;>omega
 have cx:∀k:Nat,((x0:Int)+k<(if (W:Int)<x+wx then (W:Int) else x+wx))↔k<nx:=by
  intro k;rw [hnx];unfold hiN;rw [<-hx0];split<;>omega
 have cy:∀k:Nat,((y0:Int)+k<(if (H:Int)<y+hx then (H:Int) else y+hx))↔k<ny:=by
  intro k;rw [hny];unfold hiN;rw [<-hy0];split<;>omega
 have wx':=hi_le x wx W;have hx':=hi_le y hx H;rw [<-hnx,<-hx0] at wx';rw [<-hny,<-hy0] at hx';have hfin:fillP P W H x y wx hx cb=fillQ P W cb x0 nx y0 ny:=by unfold fillP;rw [hx0,hnx,hy0,hny]
 rw [hfin] at hK;have ld:∀{w3},Chg (fun k=>k=gm) w2 w3->Blk w3 w.heap.size qa2 (qaa.rep.cells m)/\Blk w3 w1.heap.size qat (qag.rep.cells c):=fun hc3=>⟨hm2.chg hc3 (by omega),hc2.chg hc3 (by have:=hB1.size;omega)⟩;rw [show (if (0:Int)>y then (0:Int) else y)=(y0:Int) from ly.symm];refine lpR (fun (st:Int×Unit) w3=>∃k:Nat,st.1=(y0:Int)+k/\(k<=ny)/\Go.Vc.Own qal w3 base m.P (fillQ P W cb x0 nx y0 k)/\Chg (fun k=>k=gm) w2 w3) (fun st=>ny-(st.1-(y0:Int)).toNat) ⟨0,by omega,zero_le _,h.own.ext hB12,Chg.refl _ _⟩ ?_;rintro ⟨i,u⟩ w3 ⟨k,hi,hk,ho3,hc3⟩ I hI;dsimp only at hi ⊢;subst hi;obtain ⟨hmm,hcc⟩:=ld hc3;refine lI (x:=(H:Int)) (by rw [<-h.hh];exact hmm.cells 1 _ rfl) ?_;rw [ehx];refine cO (fun e=>?_) fun e=>?_
 ·have hkn:k<ny:=(cy k).1 (oTq e);have hyH:y0+ny<=H:=hx'.resolve_right (by omega);have hlen:(fillQ P W cb x0 nx y0 k).length=4*W*H:=qug h.len hc.1 wx' k (by omega);rw [show (if (0:Int)>x then (0:Int) else x)=(x0:Int) from lx.symm];refine lpR (fun (st:Int×Unit) w4=>∃j:Nat,st.1=(x0:Int)+j/\j<=nx/\Go.Vc.Own qal w4 base m.P (fillR (fillQ P W cb x0 nx y0 k) W (y0+k) cb x0 j)/\Chg (fun k=>k=gm) w2 w4) (fun st=>nx-(st.1-(x0:Int)).toNat) ⟨0,by omega,zero_le _,ho3,hc3⟩ ?_;rintro ⟨i2,u2⟩ w4 ⟨j,hi2,hj,ho4,hc4⟩ I2 hI2;dsimp only at hi2 ⊢;subst hi2;obtain ⟨hmm4,hcc4⟩:=ld hc4;refine lI (x:=(W:Int)) (by rw [<-h.hw];exact hmm4.cells 0 _ rfl) ?_;rw [ewx];refine cO (fun e=>?_) fun e=>?_
  ·have hjn:j<nx:=(cx j).1 (oTq e);have hxW:x0+nx<=W:=wx'.resolve_right (by omega);have hl4:(fillR (fillQ P W cb x0 nx y0 k) W (y0+k) cb x0 j).length=4*W*H:=qtk hlen hc.1 (by omega) j (by omega);have hin:=q83 (W:=W) (H:=H) (x:=x0+j) (y:=y0+k) (by omega) (by omega);refine lSl (x:=m.P) (hmm4.drew.cells 2 _ rfl) (lI (x:=(W:Int)) (by rw [<-h.hw];exact hmm4.drew.cells 0 _ rfl) ?_);have eidx:i64.wrap ((4:Int)*i64.wrap (i64.wrap (((y0:Int)+(k:Int))*(W:Int))+((x0:Int)+(j:Int))))=((4*((y0+k)*W+(x0+j)):Nat):Int):=by
    have e1:((y0:Int)+(k:Int))*(W:Int)=(((y0+k)*W:Nat):Int):=by simp
    rw [e1];generalize (y0+k)*W=q at hin ⊢;rw [w64i (x:=((q:Nat):Int)) (by omega),w64i (x:=((q:Nat):Int)+((x0:Int)+(j:Int))) (by omega),w64i (by omega)];omega
   rw [eidx];obtain ⟨o,hoo⟩:∃o,o=4*((y0+k)*W+(x0+j)):=⟨_,rfl⟩;rw [<-hoo] at hin ⊢;have ho5:Go.Vc.Own qal w4.drew base m.P (fillR (fillQ P W cb x0 nx y0 k) W (y0+k) cb x0 j):=ho4.drew;refine ho5.rd.slK (l:=o) (m:=(fillR (fillQ P W cb x0 nx y0 k) W (y0+k) cb x0 j).length) rfl (.inr rfl) (.inl ⟨rfl,rfl⟩) (by omega) (le_refl _) fun _=>?_;obtain ⟨cur,hcur,hcl,hct,hc1,hc2',hc3',hc4'⟩:=zbk (c:=0) ho5 ha;have hcut:cut m.P.a o m.P.c qal.k=some ⟨gm,o,none⟩:=by
    unfold cut;rw [if_neg (by omega),ha];show some ((⟨gm,0,none⟩:Addr).add (o*1))=_;rw [qae,mul_one,Nat.zero_add]
   rw [hcut];have hrc:Rd qal w4.drew ⟨some ⟨w1.heap.size,0,none⟩,4,4⟩ cb:=by
    refine ⟨hc.1.symm,le_refl _,by simp [maxLen],fun _=>rfl,fun i y hy=>?_⟩;have hbc':=hcc4.drew.cells i (.int .u8 (y.toNat:Int)) (by rw [el];unfold qcl;rw [List.getElem?_map,hy];rfl);intro j v hj
    match j,hj with
    | 0,hj =>
     cases hj;show w4.drew.cell? (((⟨w1.heap.size,0,none⟩:Addr).add (i*1)).add 0)=_;rw [add_zero,mul_one];exact hbc'
    | j+1,hj=>simp [qal] at hj
   show runK1 PG (Builtin.copy_ #[qaj,qaj] qbz #[(.slice (some ⟨gm,o,none⟩) ((fillR (fillQ P W cb x0 nx y0 k) W (y0+k) cb x0 j).length-o) (m.P.c-o)),(.slice (some ((⟨w1.heap.size,0,none⟩:Addr).add (0*1))) 4 4)]) (Kind.int .i64) w4.drew _;rw [Nat.zero_mul,add_zero];refine copyB (x:=⟨some ⟨w1.heap.size,0,none⟩,4,4⟩) (ys:=cb) (n:=4) hcur hrc (by rw [hc.1];omega) (by omega) fun w6 hb6 hc6 hs6=>?_;rw [List.take_of_length_le (by rw [hc.1];omega)] at hb6;have ho6:=zhk (ys:=cb) (k:=o) ho5 ha hcur (by rw [hc.1];omega) hb6;rw [w64i (x:=(x0:Int)+(j:Int)+1) (by omega)];refine hI2 _ _ ⟨j+1,by simp;omega,by omega,?_,(hc4.trans (Chg.of_ext (S:=fun k=>k=gm) (bdw w4)) fun _ _ h=>h).trans hc6 fun _ _ h=>h⟩ (by dsimp only;omega);show Go.Vc.Own qal w6 base m.P (set4 (fillR (fillQ P W cb x0 nx y0 k) W (y0+k) cb x0 j) (4*((y0+k)*W+(x0+j))) cb);rw [<-hoo];have e4:cb.length=4:=hc.1;unfold set4;rw [<-e4];exact ho6
  ·have hjn:¬j<nx:=fun hh=>oFq e ((cx j).2 hh);have:j=nx:=by omega
   subst this;rw [w64i (x:=(y0:Int)+(k:Int)+1) (by omega)];exact hI _ _ ⟨k+1,by simp;omega,by omega,ho4,hc4⟩ (by dsimp only;omega)
 ·have hkn:¬k<ny:=fun hh=>oFq e ((cy k).2 hh);have:k=ny:=by omega
  subst this;refine hK w3 ⟨h.hw,h.hh,ho3,qug h.len hc.1 wx' k hx',h.lim⟩ ?_;refine (Chg.of_ext (S:=fun k=>m.P.blk=some k) hB12).trans (hc3.mono fun k' _ e=>?_) fun _ _ h=>h;show m.P.blk=some k';rw [e];exact hbm
end
def wht:List UInt8:=[229,229,229,255]
def blk3:List UInt8:=[0,0,0,255]
def at0:qac:=⟨0,0,0⟩
section
variable {w w':World}
theorem qx1 (c:qad) {K:qag->World->Prop} (hK:∀w',Below w.heap.size w w'->K ⟨c.e0,c.e1,c.e2,255⟩ w'):qbd c w K:=by
 refine q3y _ ?_;unfold qxd;refine nwb fun w1 h1 hB1 hs1=>nwb fun w2 h2 hB2 hs2=>?_;have h12:=h1.ext hB2;refine ⟨⟨by decide,by decide⟩,lI (x:=c.e0) (h12.cells 0 _ rfl) ⟨⟨by decide,by decide⟩,lI (x:=c.e1) (h12.cells 1 _ rfl) ⟨⟨by decide,by decide⟩,lI (x:=c.e2) (h12.cells 2 _ rfl) ?_⟩⟩⟩;refine qfu (r:=qag.rep) (x:=⟨c.e0,c.e1,c.e2,255⟩) h2 rfl rfl fun w3 hc3 hs3=>hK w3 ?_;exact b1o (bT hB1 hB2) hc3 hB1.size
theorem zad {K:qad->World->Prop} (hK:∀w',Below w.heap.size w w'->K ⟨229,229,229⟩ w'):qmf 15066597 w K:=by
 refine q3h _ ?_;unfold qw7;refine nwb fun w1 h1 hB1 hs1=>⟨by decide,by decide,?_⟩;refine qfu (r:=qad.rep) (x:=⟨229,229,229⟩) h1 (by kernel_rfl) rfl fun w3 hc3 hs3=>hK w3 ?_;exact b1o hB1 hc3 (le_refl _)
theorem q16 (fore:Bool) {K:qad->World->Prop} (hK:∀w',Below w.heap.size w w'->K (if fore then ⟨229,229,229⟩ else ⟨0,0,0⟩) w'):qoh 0 fore w K:=by
 refine q4j _ _ ?_;unfold qy8;refine nwb fun w1 h1 hB1 hs1=>?_;refine jpO fun J1 hJ1=>jpO fun J2 hJ2=>?_;refine q32 _ ?_;unfold qzb;refine cT rfl (cF rfl (cT rfl (hJ2 _ _ ?_)));cases fore
 ·refine cT rfl ?_;refine qfu (r:=qad.rep) (x:=⟨0,0,0⟩) h1 rfl rfl fun w3 hc3 hs3=>hK w3 (b1o hB1 hc3 (le_refl _))
 ·refine cF rfl (cT rfl (zad fun w2 hB2=>?_));refine qfu (r:=qad.rep) (x:=⟨229,229,229⟩) (h1.ext hB2) rfl rfl fun w3 hc3 hs3=>hK w3 (b1o (bT hB1 hB2) hc3 (le_refl _))
theorem q0t {K:qad->qad->World->Prop} (hK:∀w',Below w.heap.size w w'->K ⟨229,229,229⟩ ⟨0,0,0⟩ w'):qmd at0 w K:=by
 refine q3e _ ?_;unfold qxv;refine nwb fun w1 h1 hB1 hs1=>nwb fun w2 h2 hB2 hs2=>nwb fun w3 h3 hB3 hs3=>?_;have h13:=(h1.ext hB2).ext hB3;have z1:=hB1.size;have z2:=hB2.size;have l1:=h1.lt;have l2:=h2.lt;refine lI (x:=0) (h13.drew.cells 0 _ rfl) (lI (x:=0) (h13.drew.cells 1 _ rfl) ?_);refine q16 true fun w4 hB4=>⟨(h13.drew.ext hB4).cells 1 _ rfl,q16 false fun w5 hB5=>?_⟩;have B35:Below w3.heap.size w3 w5:=bT (bT (bdw w3) hB4) hB5;have h15:=h13.ext B35;have h25:=(h2.ext hB3).ext B35;have h35:=h3.ext B35;refine qfz h25 rfl fun w6 h6 hc6 hs6=>?_;have h36:=h35.chg hc6 (by omega);refine qfz h36 rfl fun w7 h7 hc7 hs7=>?_;have h17:=(h15.chg hc6 (by omega)).chg hc7 (by omega);have h27:=h6.chg hc7 (by omega);have B7:Below w.heap.size w w7:=b1o (b1o (bT (bT (bT hB1 hB2) hB3) B35) hc6 z1) hc7 (by omega);refine jpO fun J1 hJ1=>?_;refine lI (x:=0) (h17.cells 2 _ rfl) (cF (by kernel_rfl) (hJ1 _ _ ?_));refine jpO fun J2 hJ2=>?_;refine lI (x:=0) (h17.cells 2 _ rfl) (cF (by kernel_rfl) (hJ2 _ _ ?_));refine jpO fun J3 hJ3=>?_;refine lI (x:=0) (h17.cells 2 _ rfl) (cF (by kernel_rfl) (hJ3 _ _ ?_));refine qaq (r:=qad.rep) (x:=⟨229,229,229⟩) h27.drew.cells (qaq (r:=qad.rep) (x:=⟨0,0,0⟩) h7.drew.cells ?_);refine qfz h27.drew rfl fun w8 h8 hc8 hs8=>?_;have h78:=h7.drew.chg hc8 (by omega);refine ⟨h78.cells,qfz h78 rfl fun w9 h9 hc9 hs9=>?_⟩;refine qaq (r:=qad.rep) (x:=⟨229,229,229⟩) (h8.chg hc9 (by omega)).cells (qaq (r:=qad.rep) (x:=⟨0,0,0⟩) h9.cells ?_);exact hK w9 (b1o (b1o (bT B7 (bdw w7)) hc8 z1) hc9 (by omega))
theorem qta {α:Type} {xs:List α} {k:Nat} (hk:k<xs.length):∃x,xs[k]?=some x/\∀h,xs[((k:Int)).toNat]'h=x:=⟨xs[k],List.getElem?_eq_getElem hk,fun _=>rfl⟩
abbrev Cel:=qax
def cell0:Cel:=⟨0,0,at0⟩
def qcw (L:List (List Cel)) (row col:Nat):Cel:=(L.getD row []).getD col cell0
structure ScnM (w:World) (B:Nat) (s:qaf) (R C cw ch:Nat) (L:List (List Cel)):Prop where
 rows:s.Rows=R
 cols:s.Cols=C
 ecw:s.CellW=cw
 ech:s.CellH=ch
 lim:1<=R/\R<=1000/\1<=C/\C<=1000/\1<=cw/\cw<=64/\1<=ch/\ch<=64
 ls:∃ls,Rd slE w s.Lines ls/\ls.length=L.length/\∀(i:Nat) q xs,ls[i]?=some q->L[i]?=some xs->Rd cellE w q xs/\∀a,q.a=some a->a.block<B
 lo:∀a,s.Lines.a=some a->a.block<B
theorem ScnM.keep {B:Nat} {s:qaf} {R C cw ch:Nat} {L:List (List Cel)} {S:Nat->Prop} (h:ScnM w B s R C cw ch L) (hc:Chg S w w') (hS:∀k,S k->B<=k):ScnM w' B s R C cw ch L:=by
 obtain ⟨ls,h1,h2,h3⟩:=h.ls;exact ⟨h.rows,h.cols,h.ecw,h.ech,h.lim,⟨ls,h1.chg hc fun a ha hs=>by have:=h.lo a ha;have:=hS _ hs;omega,h2,fun i q xs hq hx=>⟨(h3 i q xs hq hx).1.chg hc fun a ha hs=>by have:=(h3 i q xs hq hx).2 a ha;have:=hS _ hs;omega,(h3 i q xs hq hx).2⟩⟩,h.lo⟩
theorem ScnM.ext {B:Nat} {s:qaf} {R C cw ch:Nat} {L:List (List Cel)} (h:ScnM w B s R C cw ch L) (hB:Below w.heap.size w w'):ScnM w' B s R C cw ch L:=h.keep (Chg.of_ext (S:=fun _=>False) hB) fun _ h=>h.elim
theorem zaz {B:Nat} {s:qaf} {R C cw ch:Nat} {L:List (List Cel)} (h:ScnM w B s R C cw ch L) (row col:Nat) {K:Cel->World->Prop} (hK:∀w',Below w.heap.size w w'->K (qcw L row col) w'):qkc s row col w K:=by
 refine qxk _ _ _ ?_;unfold qpj;refine nwb fun w1 h1 hB1 hs1=>nwb fun w2 h2 hB2 hs2=>?_;have h12:=h1.ext hB2;have B2:=bT hB1 hB2;have hs:=h.ext B2;obtain ⟨ls,l1,l2,l3⟩:=hs.ls;have hn:=l1.n;have out:∀v:Cel,v=qcw L row col->stK ⟨w1.heap.size,0,none⟩ (qax.rep.cells v) w2 fun w4=>ldS qax.rep ⟨w1.heap.size,0,none⟩ w4 fun r=>K r w4:=by
  rintro v rfl;exact qfu (r:=qax.rep) (x:=qcw L row col) h2 rfl rfl fun w3 hc3 hs3=>hK w3 (b1o B2 hc3 hB1.size)
 refine jpO fun J1 hJ1=>?_;refine lSl (x:=s.Lines) (h12.cells 4 _ rfl) (cO (fun e=>?_) fun e=>?_)
 ·have e:=oTq e;refine out cell0 ?_;unfold qcw;rw [show L.getD row []=[] by rw [List.getD_eq_getElem?_getD,List.getElem?_eq_none (by omega)];rfl];rfl
 have e:=oFq e;have hr:row<ls.length:=by omega
 have hrL:row<L.length:=by omega
 obtain ⟨q,hq,hqs⟩:=qta (xs:=ls) (k:=row) hr;have hx:L[row]?=some L[row]:=List.getElem?_eq_getElem hrL;have hl:=(l3 row q _ hq hx).1;have eL:L.getD row []=L[row]:=by rw [List.getD_eq_getElem?_getD,hx];rfl
 have ixr:∀{X:Slc->Prop},X q->ixK s.Lines row 1 fun t17=>ldSl t17 w2 X:=by
  intro X hX;refine l1.ix (i:=(row:Int)) (k:=1) rfl (by omega) (by omega) fun hc=>?_;rw [hqs] at hc;exact lSl (x:=q) (by simpa using hc 0 _ rfl) hX
 refine lSl (x:=s.Lines) (h12.cells 4 _ rfl) (ixr ?_);have hqn:=hl.n;refine cO (fun e2=>?_) fun e2=>?_
 ·have e2:=oTq e2;refine out cell0 ?_;unfold qcw;rw [eL,List.getD_eq_getElem?_getD,List.getElem?_eq_none (by omega)];rfl
 have e2:=oFq e2;refine hJ1 _ _ (lSl (x:=s.Lines) (h12.cells 4 _ rfl) (ixr ?_));have hc2:col<L[row].length:=by omega
 obtain ⟨v,hv,hvs⟩:=get_of (xs:=L[row]) (k:=col) hc2;refine hl.ix (i:=(col:Int)) (k:=5) rfl (by omega) (by omega) fun hc=>?_;rw [hvs] at hc;refine qaq (r:=qax.rep) (x:=v) hc ?_;refine out v ?_;unfold qcw;rw [eL,List.getD_eq_getElem?_getD,hv];rfl
def eachC (g:List UInt8->Nat->Nat->Cel->List UInt8) (L:List (List Cel)) (row:Nat) (P:List UInt8):Nat->List UInt8
 | 0=>P
 | j+1=>g (eachC g L row P j) row j (qcw L row j)
def eachP (g:List UInt8->Nat->Nat->Cel->List UInt8) (L:List (List Cel)) (C:Nat) (P:List UInt8):Nat->List UInt8
 | 0=>P
 | i+1=>eachC g L i (eachP g L C P i) C
theorem q18 {B base:Nat} {s:qaf} {R C cw ch W H:Nat} {L:List (List Cel)} {m:qaa} {P:List UInt8} {g:List UInt8->Nat->Nat->Cel->List UInt8} {fv:Value} (h:ScnM w B s R C cw ch L) (hM:MatM w base m W H P) (hb:B<=base)
  (hf:∀{w1:World} {P1:List UInt8} (row col:Nat) {K:World->Prop},row<R->col<C->MatM w1 base m W H P1->Chg (fun k=>m.P.blk=some k) w w1->(∀w2,MatM w2 base m W H (g P1 row col (qcw L row col))->Chg (fun k=>m.P.blk=some k) w1 w2->K w2) ->
   callR Go.Proofs.YtcigiaecigedmaaGreatDoor.C fv [(.int .i64 row),(.int .i64 col),(.agg #[(.int .i32 (qcw L row col).R),(.int .i64 (qcw L row col).Kind),(.int .i64 (qcw L row col).A.Fg),(.int .i64 (qcw L row col).A.Bg),(.int .i64 (qcw L row col).A.Flags)])] [] w1 K)
  {K:World->Prop} (hK:∀w',MatM w' base m W H (eachP g L C P R)->Chg (fun k=>m.P.blk=some k) w w'->K w'):qgt s fv w K:=by
 refine qw6 _ _ ?_;unfold qpo;refine nwb fun w1 h1 hB1 hs1=>?_;obtain ⟨gm,ha,hbm⟩:=hM.some_;have gl:=(hM.own.lt gm hbm);have l1:=h1.lt;have lim:=h.lim;refine lI (x:=(R:Int)) (by rw [<-h.rows];exact h1.cells 0 _ rfl) ?_;have keepS:∀{w3},Chg (fun k=>m.P.blk=some k) w1 w3->Blk w3 w.heap.size qa5 (qaf.rep.cells s):=fun hc=>h1.chg hc fun e=>by rw [hbm] at e;cases e;omega
 have keepL:∀{w3},Chg (fun k=>m.P.blk=some k) w1 w3->ScnM w3 B s R C cw ch L:=fun hc=>(h.ext hB1).keep hc fun k e=>by rw [hbm] at e;cases e;omega
 have c01:Chg (fun k=>m.P.blk=some k) w w1:=Chg.of_ext hB1;refine lpR (fun (st:Int×Unit) w2=>∃i:Nat,st.1=(i:Int)/\i<=R/\MatM w2 base m W H (eachP g L C P i)/\Chg (fun k=>m.P.blk=some k) w1 w2) (fun st=>R-st.1.toNat) ⟨0,rfl,zero_le _,hM.ext hB1,Chg.refl _ _⟩ ?_;rintro ⟨i0,u⟩ w2 ⟨i,hi,hiR,hM2,hc2⟩ I hI;dsimp only at hi ⊢;subst hi;refine cO (fun e=>?_) fun e=>?_
 ·have hlt:i<R:=by have:=oTq e;omega
  refine lI (x:=(C:Int)) (by rw [<-h.cols];exact (keepS hc2).cells 1 _ rfl) ?_;refine lpR (fun (st:Int×Unit) w3=>∃j:Nat,st.1=(j:Int)/\j<=C/\MatM w3 base m W H (eachC g L i (eachP g L C P i) j)/\Chg (fun k=>m.P.blk=some k) w1 w3) (fun st=>C-st.1.toNat) ⟨0,rfl,zero_le _,hM2,hc2⟩ ?_;rintro ⟨j0,u2⟩ w3 ⟨j,hj,hjC,hM3,hc3⟩ I2 hI2;dsimp only at hj ⊢;subst hj;refine cO (fun e=>?_) fun e=>?_
  ·have hjt:j<C:=by have:=oTq e;omega
   refine qaq (r:=qaf.rep) (x:=s) (keepS hc3).cells ?_;refine zaz (keepL hc3) i j fun w4 hB4=>?_;have hc4:Chg (fun k=>m.P.blk=some k) w1 w4:=hc3.trans (Chg.of_ext hB4) fun _ _ h=>h;refine hf i j hlt hjt (hM3.ext hB4) (c01.trans hc4 fun _ _ h=>h) fun w5 hM5 hc5=>?_;rw [w64i (x:=(j:Int)+1) (by omega)];exact hI2 _ _ ⟨j+1,by simp,by omega,hM5,hc4.trans hc5 fun _ _ h=>h⟩ (by dsimp only;omega)
  ·have:j=C:=by have:=oFq e;omega
   subst this;rw [w64i (x:=(i:Int)+1) (by omega)];exact hI _ _ ⟨i+1,by simp,by omega,hM3,hc3⟩ (by dsimp only;omega)
 ·have:i=R:=by have:=oFq e;omega
  subst this;exact hK w2 hM2 (c01.trans hc2 fun _ _ h=>h)
end
theorem wht_c:colC wht ⟨229,229,229,255⟩:=⟨rfl,rfl⟩
theorem blk_c:colC blk3 ⟨0,0,0,255⟩:=⟨rfl,rfl⟩
def Bare (L:List (List Cel)):Prop:=∀r c,(qcw L r c).A=at0
def za5 (W H cw ch:Nat) (P:List UInt8) (row col:Nat) (c:Cel):List UInt8:=fillP P W H ((col*cw:Nat):Int) ((row*ch:Nat):Int) cw ch blk3
section
variable {w w':World} {B base:Nat} {s:qaf} {R C0 cw ch W H:Nat} {L:List (List Cel)} {m:qaa} {P:List UInt8}
theorem mulw {a b:Nat} (ha:a<=1000) (hb:b<=64):i64.wrap ((a:Int)*(b:Int))=((a*b:Nat):Int)/\a*b<=64000:=by
 have h:a*b<=1000*64:=Nat.mul_le_mul ha hb;rw [show (a:Int)*(b:Int)=((a*b:Nat):Int) by simp];exact ⟨w64i (by omega),h⟩
theorem q71 (h:ScnM w B s R C0 cw ch L) (hb:Bare L) (hM:MatM w base m W H P) (hB:B<=base) {K:qaa->World->Prop} (hK:∀w',MatM w' base m W H (eachP (za5 W H cw ch) L C0 P R)->Chg (fun k=>m.P.blk=some k) w w'->K m w'):qhy ⟨s⟩ m w K:=by
 refine qtq _ _ ?_;unfold ql8;refine nwb fun w1 h1 hB1 hs1=>nwb fun w2 h2 hB2 hs2=>nwb fun w3 h3 hB3 hs3=>?_;have B3:=bT (bT hB1 hB2) hB3;have h13:=(h1.ext hB2).ext hB3;have h23:=h2.ext hB3;obtain ⟨gm,ha,hbm⟩:=hM.some_;have gl:=hM.own.lt gm hbm;have lim:=h.lim;refine qaq (r:=qaf.rep) (x:=s) (h13.sub 0 _ rfl) ?_;have kp:∀{b:Nat} {t:TypeId} {vs:List Value} {wa wb:World},Blk wa b t vs->Chg (fun k=>m.P.blk=some k) wa wb->w.heap.size<=b->Blk wb b t vs:=fun hb hc hle=>hb.chg hc fun e=>by rw [hbm] at e;cases e;omega
 refine q18 (g:=za5 W H cw ch) (h.ext B3) (hM.ext B3) hB (fun {w4 P4} row col {K4} hr hc hM4 hc4 hK4=>?_) fun w4 hM4 hc4=>?_
 ·have hl1:=kp h13 hc4 (le_refl _);have hm1:=kp h23 hc4 hB1.size;refine qcm (by kernel_rfl) ?_;refine Calls.mono (show qk2 (row:Int) (col:Int) (qcw L row col) ⟨w1.heap.size,0,none⟩ ⟨w.heap.size,0,none⟩ w4 K4 from ?_) ?_
  ·refine qrc _ _ _ _ _ ?_;unfold qjz;refine nwb fun w5 h5 hB5 hs5=>?_;refine qaq (r:=qac.rep) (x:=at0) (by have:=h5.sub 2 (qac.rep.cells (qcw L row col).A) rfl;rw [hb] at this;exact this) ?_;refine q0t fun w6 hB6=>?_;refine nwb fun w7 h7 hB7 hs7=>nwb fun w8 h8 hB8 hs8=>?_;have h78:=h7.ext hB8;refine qfz h78 rfl fun w9 h9 hc9 hs9=>?_;have h89:=h8.chg hc9 (by have:=h7.lt;omega);refine qfz h89 rfl fun w10 h10 hc10 hs10=>?_;have B68:=bT (bT hB5 hB6) (bT hB7 hB8);have B10:Below w4.heap.size w4 w10:=b1o (b1o B68 hc9 (bT hB5 hB6).size) hc10 (by have:=(bT (bT hB5 hB6) hB7).size;omega);have B10d:=bT B10 (bdw w10);have hlx:=hl1.ext B10d;have hmx:=hm1.ext B10d;refine qaq (r:=qaa.rep) (x:=m) hmx.cells ?_;have c2:∀{wx},Blk wx w.heap.size qcx (qam.rep.cells ⟨s⟩)->wx.cell? (((⟨w.heap.size,0,none⟩:Addr).add 0).add 2)=some (.int .i64 cw):=fun hx=>by rw [<-h.ecw,qch];exact hx.cells 2 _ rfl
   have c3:∀{wx},Blk wx w.heap.size qcx (qam.rep.cells ⟨s⟩)->wx.cell? (((⟨w.heap.size,0,none⟩:Addr).add 0).add 3)=some (.int .i64 ch):=fun hx=>by rw [<-h.ech,qch];exact hx.cells 3 _ rfl
   refine lI (x:=(cw:Int)) (c2 hlx) (lI (x:=(ch:Int)) (c3 hlx) (lI (x:=(cw:Int)) (c2 hlx) (lI (x:=(ch:Int)) (c3 hlx) ?_)));refine qaq (r:=qad.rep) (x:=⟨0,0,0⟩) h10.drew.cells ?_;refine qx1 _ fun w11 hB11=>?_;have B11:=bT B10d hB11;have hl11:=hl1.ext B11;have hm11:=hm1.ext B11;refine ⟨c3 hl11,c2 hl11,c3 hl11,c2 hl11,hm11.cells,?_⟩;obtain ⟨e1,b1⟩:=mulw (a:=col) (b:=cw) (by omega) (by omega);obtain ⟨e2,b2⟩:=mulw (a:=row) (b:=ch) (by omega) (by omega);rw [e1,e2];exact q2r (hM4.ext B11) (by omega) (by omega) (by omega) (by omega) blk_c fun w12 hM12 hc12=>hK4 w12 hM12 ((Chg.of_ext B11).trans hc12 fun _ _ h=>h)
  ·rintro e w' ⟨rfl,hk⟩;exact ⟨rfl,hk⟩
 ·have hm4:=kp h23 hc4 hB1.size;have h34:=kp h3 hc4 (by have:=(bT hB1 hB2).size;omega);refine qaq (r:=qaa.rep) (x:=m) hm4.cells ?_;refine qfu (r:=qaa.rep) (x:=m) h34 rfl rfl fun w5 hc5 hs5=>?_;have z4:=hc4.size;have l3:=(bT hB1 hB2).size;have l4:=h3.lt;have c5:Chg (fun k=>k=w2.heap.size) w4 w5:=hc5;refine hK w5 ⟨hM4.hw,hM4.hh,hM4.own.chg c5 (fun k hk e=>by rw [hbm] at hk;cases hk;omega),hM4.len,hM4.lim⟩ ?_;refine (Chg.of_ext (S:=fun k=>m.P.blk=some k) B3).trans (S':=fun k=>m.P.blk=some k\/k=w2.heap.size) ((hc4.mono fun _ _ h=>.inl h).trans c5 fun _ _ e=>.inr e) fun i hi e=>?_;rcases e with e | e
  ·exact e
  ·omega
end
def boxG (lay:List UInt8->Int->Int->Int->Int->List UInt8->List UInt8) (P:List UInt8) (r:Int) (wx hx:Nat):List UInt8 :=
 if r>32 then
  if (wx+1)/2>2/\(hx+1)/2>2 then lay (lay P ((wx/4:Nat):Int) ((hx/4:Nat):Int) (((wx+1)/2:Nat):Int) (((hx+1)/2:Nat):Int) wht) ((wx/4+r.toNat%((wx+1)/2):Nat):Int) ((hx/4+r.toNat/256%((hx+1)/2):Nat):Int) 1 1 blk3
  else lay P ((wx/4:Nat):Int) ((hx/4:Nat):Int) (((wx+1)/2:Nat):Int) (((hx+1)/2:Nat):Int) wht
 else P
section
variable {w w':World} {B base:Nat} {s:qaf} {R C0 cw ch W H:Nat} {L:List (List Cel)} {m:qaa} {P:List UInt8}
def agC (c:qag):Value:=.agg #[(.int .u8 c.e0),(.int .u8 c.e1),(.int .u8 c.e2),(.int .u8 c.e3)]
theorem zg7 {lay:List UInt8->Int->Int->Int->Int->List UInt8->List UInt8} {fv:Value} (r:Int) (hr:0<=r/\r<=1114111) (wx hx:Nat) (hw:1<=wx/\wx<=128) (hh:1<=hx/\hx<=64) (hM:MatM w base m W H P)
  (hf:∀{w1:World} {P1:List UInt8} (x y bw bh:Int) (c:qag) (cb:List UInt8) {K:World->Prop},0<=x/\x<=1000->0<=y/\y<=1000->0<=bw/\bw<=1000->0<=bh/\bh<=1000->colC cb c->MatM w1 base m W H P1->Chg (fun k=>m.P.blk=some k) w w1->(∀w2,MatM w2 base m W H (lay P1 x y bw bh cb)->Chg (fun k=>m.P.blk=some k) w1 w2->K w2) ->
   callR Go.Proofs.YtcigiaecigedmaaGreatDoor.C fv [(.int .i64 x),(.int .i64 y),(.int .i64 bw),(.int .i64 bh),agC c] [] w1 K)
  {K:World->Prop} (hK:∀w',MatM w' base m W H (boxG lay P r wx hx)->Chg (fun k=>m.P.blk=some k) w w'->K w'):qwi r wx hx at0 fv w K:=by
 refine q5r _ _ _ _ _ ?_;unfold q07;obtain ⟨gm,ha,hbm⟩:=hM.some_;have gl:=hM.own.lt gm hbm;refine nwb fun w1 h1 hB1 hs1=>?_;refine qaq (r:=qac.rep) (x:=at0) h1.cells (q0t fun w2 hB2=>?_);refine nwb fun w3 h3 hB3 hs3=>nwb fun w4 h4 hB4 hs4=>?_;refine qfz (h3.ext hB4) rfl fun w5 h5 hc5 hs5=>?_;have l3:=h3.lt;have h45:=h4.chg hc5 (by omega);refine qfz h45 rfl fun w6 h6 hc6 hs6=>?_;have z1:=hB1.size;have z2:=hB2.size;have z3:=hB3.size;have l4:=h4.lt;have l1:=h1.lt;have hf6:=h5.chg hc6 (by omega);have h16:=((((h1.ext hB2).ext hB3).ext hB4).chg hc5 (by omega)).chg hc6 (by omega);have B6:Below w.heap.size w w6:=b1o (b1o (bT (bT hB1 hB2) (bT hB3 hB4)) hc5 (by omega)) hc6 (by omega);have kp:∀{b:Nat} {t:TypeId} {vs:List Value} {wa wb:World},Blk wa b t vs->Chg (fun k=>m.P.blk=some k) wa wb->w.heap.size<=b->Blk wb b t vs:=fun hb hc hle=>hb.chg hc fun e=>by rw [hbm] at e;cases e;omega
 refine jpO fun J1 hJ1=>?_;have key:∀(fo ba:Nat) w7,w.heap.size<=fo->w.heap.size<=ba->Blk w7 fo qat (qag.rep.cells ⟨229,229,229,255⟩)->Blk w7 ba qat (qag.rep.cells ⟨0,0,0,255⟩)->Blk w7 w.heap.size qa4 (qac.rep.cells at0)->Below w.heap.size w w7->J1 (⟨fo,0,none⟩,⟨ba,0,none⟩,()) w7:=by
  intro fo ba w7 lf lb hfo hba h17 B7;refine hJ1 _ _ ?_;dsimp only;refine jpO fun J2 hJ2=>?_;have fin:∀w8,MatM w8 base m W H (boxG lay P r wx hx)->Chg (fun k=>m.P.blk=some k) w7 w8->J2 () w8:=by
   intro w8 hM8 hc8;have h18:=kp h17 hc8 (le_refl _);refine hJ2 _ _ (jpO fun J3 hJ3=>?_);refine lI (x:=0) (h18.cells 2 _ rfl) (cF (by kernel_rfl) (hJ3 _ _ ?_));exact lI (x:=0) (h18.cells 2 _ rfl) (cF (by kernel_rfl) (hK w8 hM8 ((Chg.of_ext B7).trans hc8 fun _ _ h=>h)))
  have c07:Chg (fun k=>m.P.blk=some k) w w7:=Chg.of_ext B7;unfold boxG at fin;refine cO (fun e=>?_) fun e=>?_
  ·have e:=oTq e;rw [if_pos e] at fin;refine ⟨by decide,by decide,by decide,by decide,?_⟩;refine qaq (r:=qag.rep) (x:=⟨229,229,229,255⟩) hfo.cells ?_;have e1:i64.wrap ((wx:Int).tdiv 4)=((wx/4:Nat):Int):=by
    rw [show (wx:Int).tdiv 4=((wx/4:Nat):Int) from rfl];exact w64i (by omega)
   have e2:i64.wrap ((hx:Int).tdiv 4)=((hx/4:Nat):Int):=by
    rw [show (hx:Int).tdiv 4=((hx/4:Nat):Int) from rfl];exact w64i (by omega)
   have e3:i64.wrap ((i64.wrap ((wx:Int)+1)).tdiv 2)=(((wx+1)/2:Nat):Int):=by
    rw [w64i (x:=(wx:Int)+1) (by omega),show ((wx:Int)+1)=((wx+1:Nat):Int) by simp,show ((wx+1:Nat):Int).tdiv 2=(((wx+1)/2:Nat):Int) from rfl];exact w64i (by omega)
   have e4:i64.wrap ((i64.wrap ((hx:Int)+1)).tdiv 2)=(((hx+1)/2:Nat):Int):=by
    rw [w64i (x:=(hx:Int)+1) (by omega),show ((hx:Int)+1)=((hx+1:Nat):Int) by simp,show ((hx+1:Nat):Int).tdiv 2=(((hx+1)/2:Nat):Int) from rfl];exact w64i (by omega)
   simp only [e1,e2,e3,e4];refine hf _ _ _ _ ⟨229,229,229,255⟩ wht (by omega) (by omega) (by omega) (by omega) wht_c (hM.ext B7) c07 fun w8 hM8 hc8=>?_;refine jpO fun J4 hJ4=>?_;have key4:∀b:Bool,b=decide ((wx+1)/2>2/\(hx+1)/2>2)->J4 (b,()) w8:=by
    intro b hb;refine hJ4 _ _ (cO (fun e=>?_) fun e=>?_)
    ·have e:b=true:=e;rw [e] at hb;have hb:=oTq hb.symm;rw [if_pos hb] at fin;refine ⟨by omega,by decide,by omega,?_⟩;have hba8:=(kp hba hc8 lb).drew;refine qaq (r:=qag.rep) (x:=⟨0,0,0,255⟩) hba8.cells ?_;obtain ⟨rn,hrn⟩:∃rn:Nat,r=rn:=⟨r.toNat,by omega⟩;subst hrn;simp only [Int.toNat_natCast] at fin;have e5:i64.wrap (rn:Int)=(rn:Int):=w64i (by omega);have m1:(rn:Int).tmod (((wx+1)/2:Nat):Int)=((rn%((wx+1)/2):Nat):Int):=rfl;have m2:(rn:Int).tdiv 256=((rn/256:Nat):Int):=rfl;have e6:i64.wrap ((rn/256:Nat):Int)=((rn/256:Nat):Int):=w64i (by omega);have m3:((rn/256:Nat):Int).tmod (((hx+1)/2:Nat):Int)=((rn/256%((hx+1)/2):Nat):Int):=rfl;have lt1:rn%((wx+1)/2)<(wx+1)/2:=Nat.mod_lt _ (by omega);have lt2:rn/256%((hx+1)/2)<(hx+1)/2:=Nat.mod_lt _ (by omega);rw [e5,m1,m2,e6,m3];have a1:((wx/4:Nat):Int)+((rn%((wx+1)/2):Nat):Int)=((wx/4+rn%((wx+1)/2):Nat):Int):=by simp
     have a2:((hx/4:Nat):Int)+((rn/256%((hx+1)/2):Nat):Int)=((hx/4+rn/256%((hx+1)/2):Nat):Int):=by simp
     rw [a1,a2];generalize rn%((wx+1)/2)=q1 at *;generalize rn/256%((hx+1)/2)=q2 at *;rw [w64i (x:=((wx/4+q1:Nat):Int)) (by omega),w64i (x:=((hx/4+q2:Nat):Int)) (by omega)];have B8d:Chg (fun k=>m.P.blk=some k) w8 w8.drew:=Chg.of_ext (bdw w8);refine hf _ _ _ _ ⟨0,0,0,255⟩ blk3 (by omega) (by omega) (by omega) (by omega) blk_c (hM8.ext (bdw w8)) ((c07.trans hc8 fun _ _ h=>h).trans B8d fun _ _ h=>h) fun w9 hM9 hc9=>?_;exact fin w9 hM9 ((hc8.trans B8d fun _ _ h=>h).trans hc9 fun _ _ h=>h)
    ·have e:b=false:=e;rw [e] at hb;have hb:=oFq hb.symm;rw [if_neg hb] at fin;exact fin w8 hM8 hc8
   refine cO (fun e=>?_) fun e=>?_
   ·have e:=oTq e;refine key4 _ ?_;by_cases h2:(hx+1)/2>2
    ·rw [dTq (p:=(wx+1)/2>2/\_) ⟨by omega,h2⟩,dTq (by omega)]
    ·rw [dFq (p:=(wx+1)/2>2/\_) (fun hh=>h2 hh.2),dFq (by omega)]
   ·have e:=oFq e;exact key4 _ (by rw [dFq];rintro ⟨h,_⟩;omega)
  ·have e:=oFq e;rw [if_neg e] at fin;exact fin w7 (hM.ext B7) (Chg.refl _ _)
 have hfd:=hf6.drew;have hbd:=h6.drew;refine qaq (r:=qad.rep) (x:=⟨229,229,229⟩) hfd.cells (qaq (r:=qad.rep) (x:=⟨0,0,0⟩) hbd.cells ?_);have h1d:=h16.drew;have Bd:=bT B6 (bdw w6);have sz6:w6.drew.heap.size=w6.heap.size:=rfl;have z6:=B6.size;generalize w6.drew=w7 at hfd hbd h1d Bd sz6 ⊢;have ca:∀{wx},Below w7.heap.size w7 wx->qai wx ⟨w2.heap.size,0,none⟩ (qad.rep.cells ⟨229,229,229⟩):=fun hB=>(hfd.ext hB).cells;have cb:∀{wx},Below w7.heap.size w7 wx->qai wx ⟨w3.heap.size,0,none⟩ (qad.rep.cells ⟨0,0,0⟩):=fun hB=>(hbd.ext hB).cells;have two:∀(fo ba:Nat) wx,w7.heap.size<=fo->w7.heap.size<=ba->fo≠ba->Blk wx fo qat [(.int .u8 0),(.int .u8 0),(.int .u8 0),(.int .u8 0)]->Blk wx ba qat [(.int .u8 0),(.int .u8 0),(.int .u8 0),(.int .u8 0)]->Below w7.heap.size w7 wx ->
   stK ⟨fo,0,none⟩ (qag.rep.cells ⟨229,229,229,255⟩) wx fun wy=>stK ⟨ba,0,none⟩ (qag.rep.cells ⟨0,0,0,255⟩) wy fun wz=>J1 (⟨fo,0,none⟩,⟨ba,0,none⟩,()) wz:=by
  intro fo ba wx lf lb ne hfo hba hB;refine qfz hfo rfl fun wy hy hcy hsy=>?_;refine qfz (hba.chg hcy fun e=>ne e.symm) rfl fun wz hz hcz hsz=>?_;have l17:=h1d.lt;refine key fo ba wz (by omega) (by omega) (hy.chg hcz ne) hz (((h1d.ext hB).chg hcy (by omega)).chg hcz (by omega)) (b1o (b1o (bT Bd hB) hcy (by omega)) hcz (by omega))
 have sol1:∀{wx} {X:qag->World->Prop},(∀wy,Below wx.heap.size wx wy->X ⟨229,229,229,255⟩ wy)->qbd ⟨229,229,229⟩ wx X:=fun h=>qx1 _ h;have sol2:∀{wx} {X:qag->World->Prop},(∀wy,Below wx.heap.size wx wy->X ⟨0,0,0,255⟩ wy)->qbd ⟨0,0,0⟩ wx X:=fun h=>qx1 _ h;have nf:∀{wa:World} (_:Below w7.heap.size w7 wa) {X:Addr->World->Prop},(∀wb,Blk wb wa.heap.size qat [(.int .u8 0),(.int .u8 0),(.int .u8 0),(.int .u8 0)]->Below wa.heap.size wa wb->Below w7.heap.size w7 wb->X ⟨wa.heap.size,0,none⟩ wb) ->
   nw qat [(.int .u8 0),(.int .u8 0),(.int .u8 0),(.int .u8 0)] wa fun t wb=>qai wb ⟨w3.heap.size,0,none⟩ (qad.rep.cells ⟨0,0,0⟩)/\qai wb ⟨w2.heap.size,0,none⟩ (qad.rep.cells ⟨229,229,229⟩)/\X t wb :=
  fun hB _ h=>nwb fun wb hb hBb hsb=>⟨cb (bT hB hBb),ca (bT hB hBb),h wb hb hBb (bT hB hBb)⟩
 have r0:Below w7.heap.size w7 w7:=Below.refl _ w7;refine ⟨sol1 fun wa Ba=>⟨cb Ba,?_,?_,?_⟩,nf r0 fun wa ha' Ba' Ba=>⟨?_,?_⟩,nf r0 fun wa ha' Ba' Ba=>⟨?_,?_⟩⟩
 ·refine sol2 fun wb Bb'=>?_;have Bb:=bT Ba Bb';refine ⟨nf Bb fun wc hc Bc' Bc=>nf Bc fun wd hd Bd' Bd=>?_,nf Bb fun wc hc Bc' Bc=>nf Bc fun wd hd Bd' Bd=>?_⟩
  ·exact two _ _ wd Bb.size Bc.size (by have:=hc.lt;omega) (hc.ext Bd') hd Bd
  ·exact two _ _ wd Bc.size Bb.size (by have:=hc.lt;omega) hd (hc.ext Bd') Bd
 ·refine nf Ba fun wc hc Bc' Bc=>⟨sol2 fun wb Bb'=>nf (bT Bc Bb') fun wd hd Bd' Bd=>?_,nf Bc fun wd hd Bd' Bd=>sol2 fun wb Bb'=>?_⟩
  ·exact two _ _ wd Ba.size (bT Bc Bb').size (by have:=hc.lt;have:=Bb'.size;omega) ((hc.ext Bb').ext Bd') hd Bd
  ·exact two _ _ wb Ba.size Bc.size (by have:=hc.lt;omega) ((hc.ext Bd').ext Bb') (hd.ext Bb') (bT Bd Bb')
 ·refine nf Ba fun wc hc Bc' Bc=>⟨sol2 fun wb Bb'=>nf (bT Bc Bb') fun wd hd Bd' Bd=>?_,nf Bc fun wd hd Bd' Bd=>sol2 fun wb Bb'=>?_⟩
  ·exact two _ _ wd (bT Bc Bb').size Ba.size (by have:=hc.lt;have:=Bb'.size;omega) hd ((hc.ext Bb').ext Bd') Bd
  ·exact two _ _ wb Bc.size Ba.size (by have:=hc.lt;omega) (hd.ext Bb') ((hc.ext Bd').ext Bb') (bT Bd Bb')
 ·refine sol1 fun wb Bb'=>⟨cb (bT Ba Bb'),sol2 fun wc Bc'=>nf (bT (bT Ba Bb') Bc') fun wd hd Bd' Bd=>?_,nf (bT Ba Bb') fun wd hd Bd' Bd=>sol2 fun wc Bc'=>?_⟩
  ·exact two _ _ wd r0.size (bT (bT Ba Bb') Bc').size (by have:=ha'.lt;have:=(bT Bb' Bc').size;omega) (((ha'.ext Bb').ext Bc').ext Bd') hd Bd
  ·exact two _ _ wc r0.size (bT Ba Bb').size (by have:=ha'.lt;have:=Bb'.size;omega) (((ha'.ext Bb').ext Bd').ext Bc') (hd.ext Bc') (bT Bd Bc')
 ·refine nf Ba fun wd hd Bd' Bd=>sol1 fun wb Bb'=>⟨cb (bT Bd Bb'),sol2 fun wc Bc'=>?_⟩;exact two _ _ wc r0.size Ba.size (by have:=ha'.lt;omega) (((ha'.ext Bd').ext Bb').ext Bc') ((hd.ext Bb').ext Bc') (bT (bT Bd Bb') Bc')
 ·refine sol1 fun wb Bb'=>⟨cb (bT Ba Bb'),sol2 fun wc Bc'=>nf (bT (bT Ba Bb') Bc') fun wd hd Bd' Bd=>?_,nf (bT Ba Bb') fun wd hd Bd' Bd=>sol2 fun wc Bc'=>?_⟩
  ·exact two _ _ wd (bT (bT Ba Bb') Bc').size r0.size (by have:=ha'.lt;have:=(bT Bb' Bc').size;omega) hd (((ha'.ext Bb').ext Bc').ext Bd') Bd
  ·exact two _ _ wc (bT Ba Bb').size r0.size (by have:=ha'.lt;have:=Bb'.size;omega) (hd.ext Bc') (((ha'.ext Bb').ext Bd').ext Bc') (bT Bd Bc')
 ·refine nf Ba fun wd hd Bd' Bd=>sol1 fun wb Bb'=>⟨cb (bT Bd Bb'),sol2 fun wc Bc'=>?_⟩;exact two _ _ wc Ba.size r0.size (by have:=ha'.lt;omega) ((hd.ext Bb').ext Bc') (((ha'.ext Bd').ext Bb').ext Bc') (bT (bT Bd Bb') Bc')
end
def q7l (W H cw ch C0:Nat) (P:List UInt8) (row col:Nat) (c:Cel):List UInt8 :=
 if c.R=0 then P else if c.Kind=2 then P
 else boxG (fun P x y bw bh k=>fillP P W H (((col*cw:Nat):Int)+x) (((row*ch:Nat):Int)+y) bw bh k) P c.R (if c.Kind=1/\col+1<C0 then cw*2 else cw) ch
def Chars (L:List (List Cel)):Prop:=∀r c,0<=(qcw L r c).R/\(qcw L r c).R<=1114111
section
variable {w w':World} {B base:Nat} {s:qaf} {R C0 cw ch W H:Nat} {L:List (List Cel)} {m:qaa} {P:List UInt8}
theorem zal (h:ScnM w B s R C0 cw ch L) (hb:Bare L) (hch:Chars L) (hM:MatM w base m W H P) (hB:B<=base) {K:qaa->World->Prop} (hK:∀w',MatM w' base m W H (eachP (q7l W H cw ch C0) L C0 P R)->Chg (fun k=>m.P.blk=some k) w w'->K m w'):qif ⟨s⟩ m w K:=by
 refine qu8 _ _ ?_;unfold qm1;refine nwb fun w1 h1 hB1 hs1=>nwb fun w2 h2 hB2 hs2=>nwb fun w3 h3 hB3 hs3=>?_;have B3:=bT (bT hB1 hB2) hB3;have h13:=(h1.ext hB2).ext hB3;have h23:=h2.ext hB3;obtain ⟨gm,ha,hbm⟩:=hM.some_;have gl:=hM.own.lt gm hbm;have lim:=h.lim;refine qaq (r:=qaf.rep) (x:=s) (h13.sub 0 _ rfl) ?_;have kp:∀{b:Nat} {t:TypeId} {vs:List Value} {wa wb:World},Blk wa b t vs->Chg (fun k=>m.P.blk=some k) wa wb->w.heap.size<=b->Blk wb b t vs:=fun hb hc hle=>hb.chg hc fun e=>by rw [hbm] at e;cases e;omega
 refine q18 (g:=q7l W H cw ch C0) (h.ext B3) (hM.ext B3) hB (fun {w4 P4} row col {K4} hr hc hM4 hc4 hK4=>?_) fun w4 hM4 hc4=>?_
 ·have hl1:=kp h13 hc4 (le_refl _);have hm1:=kp h23 hc4 hB1.size;refine qcm (by kernel_rfl) ?_;refine Calls.mono (show qls (row:Int) (col:Int) (qcw L row col) ⟨w.heap.size,0,none⟩ ⟨w1.heap.size,0,none⟩ w4 K4 from ?_) ?_
  ·refine qso _ _ _ _ _ ?_;unfold qk6;refine nwb fun w5 h5 hB5 hs5=>nwb fun w6 h6 hB6 hs6=>nwb fun w7 h7 hB7 hs7=>?_;have B7:=bT (bT hB5 hB6) hB7;have h57:=(h5.ext hB6).ext hB7;have h67:=h6.ext hB7;have hl7:=hl1.ext B7;have hm7:=hm1.ext B7;have hM7:=hM4.ext B7;obtain ⟨c,hcc⟩:∃c,c=qcw L row col:=⟨_,rfl⟩;have hA:=hb row col;have hR:=hch row col;rw [<-hcc] at h7 hK4 hA hR;refine jpO fun J1 hJ1=>?_;unfold q7l at hK4;refine lI (x:=c.R) (h7.cells 0 _ rfl) (cO (fun e=>?_) fun e=>?_)
   ·rw [if_pos (eq_of_beq e)] at hK4;exact hK4 w7 hM7 (Chg.of_ext B7)
   rw [if_neg (beq_eq_false_iff_ne.1 e)] at hK4;refine lI (x:=c.Kind) (h7.cells 1 _ rfl) (cO (fun e=>?_) fun e=>?_)
   ·rw [if_pos (eq_of_beq e)] at hK4;exact hK4 w7 hM7 (Chg.of_ext B7)
   rw [if_neg (beq_eq_false_iff_ne.1 e)] at hK4;refine hJ1 _ _ ?_;have c2:∀{wx},Blk wx w.heap.size qcp (qam.rep.cells ⟨s⟩)->wx.cell? (((⟨w.heap.size,0,none⟩:Addr).add 0).add 2)=some (.int .i64 cw):=fun hx=>by rw [<-h.ecw,qch];exact hx.cells 2 _ rfl
   have c3:∀{wx},Blk wx w.heap.size qcp (qam.rep.cells ⟨s⟩)->wx.cell? (((⟨w.heap.size,0,none⟩:Addr).add 0).add 3)=some (.int .i64 ch):=fun hx=>by rw [<-h.ech,qch];exact hx.cells 3 _ rfl
   have c1:∀{wx},Blk wx w.heap.size qcp (qam.rep.cells ⟨s⟩)->wx.cell? (((⟨w.heap.size,0,none⟩:Addr).add 0).add 1)=some (.int .i64 C0):=fun hx=>by rw [<-h.cols,qch];exact hx.cells 1 _ rfl
   refine lI (x:=(cw:Int)) (c2 hl7) ?_;refine jpO fun J2 hJ2=>?_;have key:∀cx:Nat,1<=cx/\cx<=128->cx=(if c.Kind=1/\col+1<C0 then cw*2 else cw)->J2 ((cx:Int),()) w7:=by
    intro cx hcx ecx;rw [<-ecx] at hK4;refine hJ2 _ _ ?_;refine lI (x:=c.R) (h7.cells 0 _ rfl) (lI (x:=(ch:Int)) (c3 hl7) ?_);refine qaq (r:=qac.rep) (x:=at0) (by have:=h7.sub 2 (qac.rep.cells c.A) rfl;rw [hA] at this;exact this) ?_;refine zg7 (lay:=fun P x y bw bh k=>fillP P W H (((col*cw:Nat):Int)+x) (((row*ch:Nat):Int)+y) bw bh k) c.R hR cx ch hcx (by omega) hM7 (fun {w8 P8} x y bw bh k kb {K8} hx hy hbw hbh hk hM8 hc8 hK8=>?_) fun w8 hM8 hc8=>hK4 w8 hM8 ((Chg.of_ext B7).trans hc8 fun _ _ h=>h);refine qcm (by kernel_rfl) ?_;have z5:=hB5.size;have z6:=hB6.size;have l4:=hc4.size;have l3:=B3.size;have hle:w.heap.size<=w4.heap.size:=by omega
    refine Calls.mono (show qj7 x y bw bh k ⟨w1.heap.size,0,none⟩ ⟨w5.heap.size,0,none⟩ ⟨w.heap.size,0,none⟩ ⟨w4.heap.size,0,none⟩ w8 K8 from ?_) ?_
    ·refine qqx _ _ _ _ _ _ _ _ _ ?_;unfold qjm;refine nwb fun w9 h9 hB9 hs9=>?_;have hl9:=(kp hl7 hc8 (le_refl _)).ext hB9;have hm9:=(kp hm7 hc8 hB1.size).ext hB9;have hr9:=(kp h57 hc8 hle).ext hB9;have hcl9:=(kp h67 hc8 (by omega)).ext hB9;refine qaq (r:=qaa.rep) (x:=m) hm9.cells (lI (x:=(col:Int)) (by simpa using hcl9.cell 0 rfl) (lI (x:=(cw:Int)) (c2 hl9) (lI (x:=(row:Int)) (by simpa using hr9.cell 0 rfl) (lI (x:=(ch:Int)) (c3 hl9) ?_))));refine qaq (r:=qag.rep) (x:=k) h9.cells ?_;obtain ⟨e1,b1⟩:=mulw (a:=col) (b:=cw) (by omega) (by omega);obtain ⟨e2,b2⟩:=mulw (a:=row) (b:=ch) (by omega) (by omega);rw [e1,e2,w64i (x:=((col*cw:Nat):Int)+x) (by omega),w64i (x:=((row*ch:Nat):Int)+y) (by omega)];exact q2r (hM8.ext hB9) (by omega) (by omega) (by omega) (by omega) hk fun w10 hM10 hc10=>hK8 w10 hM10 ((Chg.of_ext hB9).trans hc10 fun _ _ h=>h)
    ·rintro e w' ⟨rfl,hk⟩;exact ⟨rfl,hk⟩
   refine jpO fun J3 hJ3=>?_;have key3:∀b:Bool,b=decide (c.Kind=1/\col+1<C0)->J3 (b,()) w7:=by
    intro b hbb;refine hJ3 _ _ (cO (fun e=>?_) fun e=>?_)
    ·have e:b=true:=e;rw [e] at hbb;have hbb:=oTq hbb.symm;rw [w64i (x:=(cw:Int)*2) (by omega),show (cw:Int)*2=((cw*2:Nat):Int) by simp];exact key _ (by omega) (by rw [if_pos hbb])
    ·have e:b=false:=e;rw [e] at hbb;have hbb:=oFq hbb.symm;exact key _ (by omega) (by rw [if_neg hbb])
   refine lI (x:=c.Kind) (h7.cells 1 _ rfl) (cO (fun e=>?_) fun e=>?_)
   ·have e:c.Kind=1:=eq_of_beq e;refine lI (x:=(col:Int)) (by simpa using h67.cell 0 rfl) (lI (x:=(C0:Int)) (c1 hl7) (key3 _ ?_));rw [w64i (x:=(col:Int)+1) (by omega)];by_cases hcC:col+1<C0
    ·rw [dTq (p:=c.Kind=1/\col+1<C0) ⟨e,hcC⟩,dTq (by omega)]
    ·rw [dFq (p:=c.Kind=1/\col+1<C0) (fun hh=>hcC hh.2),dFq (by omega)]
   ·have e:¬c.Kind=1:=beq_eq_false_iff_ne.1 e;exact key3 _ (by rw [dFq];rintro ⟨h,_⟩;exact e h)
  ·rintro e w' ⟨rfl,hk⟩;exact ⟨rfl,hk⟩
 ·have hm4:=kp h23 hc4 hB1.size;have h34:=kp h3 hc4 (by have:=(bT hB1 hB2).size;omega);refine qaq (r:=qaa.rep) (x:=m) hm4.cells ?_;refine qfu (r:=qaa.rep) (x:=m) h34 rfl rfl fun w5 hc5 hs5=>?_;have z4:=hc4.size;have l3:=(bT hB1 hB2).size;have l4:=h3.lt;refine hK w5 ⟨hM4.hw,hM4.hh,hM4.own.chg hc5 (fun k hk e=>by rw [hbm] at hk;cases hk;omega),hM4.len,hM4.lim⟩ ?_;refine (Chg.of_ext (S:=fun k=>m.P.blk=some k) B3).trans (S':=fun k=>m.P.blk=some k\/k=w2.heap.size) ((hc4.mono fun _ _ h=>.inl h).trans hc5 fun _ _ e=>.inr e) fun i hi e=>?_;rcases e with e | e
  ·exact e
  ·omega
theorem qzk (hp:s.Places.n=0) (above:Bool) (hM:MatM w base m W H P) {K:qaa->World->Prop} (hK:∀w',MatM w' base m W H P->Below w.heap.size w w'->K m w'):qh8 ⟨s,above⟩ m w K:=by
 refine qu2 _ _ ?_;unfold qns;refine nwb fun w1 h1 hB1 hs1=>nwb fun w2 h2 hB2 hs2=>nwb fun w3 h3 hB3 hs3=>?_;have B3:=bT (bT hB1 hB2) hB3;have h13:=(h1.ext hB2).ext hB3;have h23:=h2.ext hB3;refine lSl (x:=s.Places) (by rw [qch];exact h13.cells 5 _ rfl) ?_;refine lpR (fun (st:Int×Unit) w4=>st.1=0/\w4=w3) (fun _=>0) ⟨rfl,rfl⟩ ?_;rintro ⟨i,u⟩ w4 ⟨rfl,rfl⟩ I hI;refine cF (by rw [hp];rfl) ?_;refine qaq (r:=qaa.rep) (x:=m) h23.cells ?_;refine qfu (r:=qaa.rep) (x:=m) h3 rfl rfl fun w5 hc5 hs5=>?_;have B5:Below w.heap.size w w5:=b1o B3 hc5 (by have:=(bT hB1 hB2).size;omega);exact hK w5 (hM.ext B5) B5
end
def invAt (P:List UInt8) (o:Nat):List UInt8:=P.set o (255-P.getD o 0)
def inv3 (P:List UInt8) (o:Nat):Nat->List UInt8
 | 0=>P
 | i+1=>invAt (inv3 P o i) (o+i)
def curR (P:List UInt8) (W y x0:Nat):Nat->List UInt8
 | 0=>P
 | k+1=>inv3 (curR P W y x0 k) (4*(y*W+(x0+k))) 3
def curQ (P:List UInt8) (W x0 nx y0:Nat):Nat->List UInt8
 | 0=>P
 | k+1=>curR (curQ P W x0 nx y0 k) W (y0+k) x0 nx
def qxl (P:List UInt8) (W R C0 cw ch:Nat) (on:Bool) (row col:Int):List UInt8 :=
 if on=true/\(0<=row/\row<R)/\(0<=col/\col<C0) then curQ P W (col.toNat*cw) cw (row.toNat*ch) ch else P
theorem qwb (P:List UInt8) (o:Nat):∀i,(inv3 P o i).length=P.length
 | 0=>rfl
 | i+1=>by show (List.set _ _ _).length=_;rw [List.length_set,qwb P o i]
section
variable {w w':World} {B base:Nat} {s:qaf} {R C0 cw ch W H:Nat} {L:List (List Cel)} {m:qaa} {P:List UInt8}
theorem qfl {v lo hi:Int} {K:Bool->World->Prop} (hK:K (decide (lo<=v/\v<=hi)) w):qc6 v lo hi w K:=by
 refine q1b _ _ _ ?_;unfold qtj;refine cO (fun e=>?_) fun e=>?_
 ·have e:=oTq e;rw [show decide (lo<=v/\v<=hi)=decide (v<=hi) by simp;intro _;exact e] at hK;exact hK
 ·have e:=oFq e;rw [show decide (lo<=v/\v<=hi)=false by simp;omega] at hK;exact hK
theorem q65 (h:ScnM w B s R C0 cw ch L) (hW:W=C0*cw) (hH:H=R*ch) (br:-1000000<=s.Row/\s.Row<=1000000) (bc:-1000000<=s.Col/\s.Col<=1000000) (hM:MatM w base m W H P) {K:qaa->World->Prop}
  (hK:∀w',MatM w' base m W H (qxl P W R C0 cw ch s.Cursor s.Row s.Col)->Chg (fun k=>m.P.blk=some k) w w'->K m w'):qin ⟨s⟩ m w K:=by
 refine quw _ _ ?_;unfold qnj;refine nwb fun w1 h1 hB1 hs1=>nwb fun w2 h2 hB2 hs2=>nwb fun w3 h3 hB3 hs3=>?_;have h13:=(h1.ext hB2).ext hB3;have h23:=h2.ext hB3;refine qaq (r:=qaf.rep) (x:=s) (h13.sub 0 _ rfl) ?_;refine nwb fun w4 h4 hB4 hs4=>qfz h4 rfl fun w5 h5 hc5 hs5=>?_;have l3:=h3.lt;have l2:=h23.lt;have z12:=(bT hB1 hB2).size;have z4:=hB4.size;have B5:Below w.heap.size w w5:=b1o (bT (bT (bT hB1 hB2) hB3) hB4) hc5 (by omega);have h25:=(h23.ext hB4).chg hc5 (by omega);have h35:=(h3.ext hB4).chg hc5 (by omega);obtain ⟨gm,ha,hbm⟩:=hM.some_;have gl:=hM.own.lt gm hbm;have lim:=h.lim;have hM5:=hM.ext B5;have kp:∀{b:Nat} {t:TypeId} {vs:List Value} {wa wb:World},Blk wa b t vs->Chg (fun k=>m.P.blk=some k) wa wb->w.heap.size<=b->Blk wb b t vs:=fun hb hc hle=>hb.chg hc fun e=>by rw [hbm] at e;cases e;omega
 have fin:∀w6 P6,MatM w6 base m W H P6->Chg (fun k=>m.P.blk=some k) w5 w6->P6=qxl P W R C0 cw ch s.Cursor s.Row s.Col ->
   ldS qaa.rep ⟨w1.heap.size,0,none⟩ w6 fun t93=>stK ⟨w2.heap.size,0,none⟩ (qaa.rep.cells t93) w6 fun w11=>ldS qaa.rep ⟨w2.heap.size,0,none⟩ w11 fun r=>K r w11:=by
  rintro w6 P6 hM6 hc6 rfl;refine qaq (r:=qaa.rep) (x:=m) (kp h25 hc6 hB1.size).cells ?_;refine qfu (r:=qaa.rep) (x:=m) (kp h35 hc6 z12) rfl rfl fun w7 hc7 hs7=>?_;have z6:=hc6.size;refine hK w7 ⟨hM6.hw,hM6.hh,hM6.own.chg hc7 (fun k hk e=>by rw [hbm] at hk;cases hk;omega),hM6.len,hM6.lim⟩ ?_;refine (Chg.of_ext (S:=fun k=>m.P.blk=some k) B5).trans (S':=fun k=>m.P.blk=some k\/k=w2.heap.size) ((hc6.mono fun _ _ h=>.inl h).trans hc7 fun _ _ e=>.inr e) fun i hi e=>?_;rcases e with e | e
  ·exact e
  ·omega
 refine jpO fun J1 hJ1=>?_;have go:s.Cursor=true->(0<=s.Row/\s.Row<(R:Int))->(0<=s.Col/\s.Col<(C0:Int))->∀w6,Below w5.heap.size w5 w6->J1 () w6:=by
  intro hon hrow hcol w6 hB6;refine hJ1 _ _ ?_;have h56:=h5.ext hB6;have hM6:=hM5.ext hB6;obtain ⟨r,hr⟩:∃r:Nat,s.Row=r:=⟨s.Row.toNat,by omega⟩;obtain ⟨c,hc⟩:∃c:Nat,s.Col=c:=⟨s.Col.toNat,by omega⟩;obtain ⟨e1,b1⟩:=mulw (a:=r) (b:=ch) (by omega) (by omega);obtain ⟨e2,b2⟩:=mulw (a:=c) (b:=cw) (by omega) (by omega);have lr:∀{wx},Blk wx w3.heap.size qa5 (qaf.rep.cells s)->wx.cell? ((⟨w3.heap.size,0,none⟩:Addr).add 9)=some (.int .i64 r):=fun hx=>by rw [<-hr];exact hx.cells 9 _ rfl
  have lc:∀{wx},Blk wx w3.heap.size qa5 (qaf.rep.cells s)->wx.cell? ((⟨w3.heap.size,0,none⟩:Addr).add 10)=some (.int .i64 c):=fun hx=>by rw [<-hc];exact hx.cells 10 _ rfl
  have lh:∀{wx},Blk wx w3.heap.size qa5 (qaf.rep.cells s)->wx.cell? ((⟨w3.heap.size,0,none⟩:Addr).add 3)=some (.int .i64 ch):=fun hx=>by rw [<-h.ech];exact hx.cells 3 _ rfl
  have lw:∀{wx},Blk wx w3.heap.size qa5 (qaf.rep.cells s)->wx.cell? ((⟨w3.heap.size,0,none⟩:Addr).add 2)=some (.int .i64 cw):=fun hx=>by rw [<-h.ecw];exact hx.cells 2 _ rfl
  have er:i64.wrap (i64.wrap ((r:Int)+1)*(ch:Int))=((r*ch+ch:Nat):Int):=by
   rw [w64i (x:=(r:Int)+1) (by omega),show ((r:Int)+1)*(ch:Int)=((r*ch+ch:Nat):Int) by rw [Int.add_mul];simp];exact w64i (by omega)
  have ec:i64.wrap (i64.wrap ((c:Int)+1)*(cw:Int))=((c*cw+cw:Nat):Int):=by
   rw [w64i (x:=(c:Int)+1) (by omega),show ((c:Int)+1)*(cw:Int)=((c*cw+cw:Nat):Int) by rw [Int.add_mul];simp];exact w64i (by omega)
  have inr:r*ch+ch<=H:=by
   rw [hH];have:(r+1)*ch<=R*ch:=Nat.mul_le_mul_right ch (by omega);rw [add_mul] at this;omega
  have inc:c*cw+cw<=W:=by
   rw [hW];have:(c+1)*cw<=C0*cw:=Nat.mul_le_mul_right cw (by omega);rw [add_mul] at this;omega
  obtain ⟨y0,hy0⟩:∃y0,y0=r*ch:=⟨_,rfl⟩;obtain ⟨x0,hx0⟩:∃x0,x0=c*cw:=⟨_,rfl⟩;refine lI (x:=(r:Int)) (lr h56) (lI (x:=(ch:Int)) (lh h56) ?_);rw [e1,<-hy0];rw [<-hy0] at er inr b1;rw [<-hx0] at ec inc b2;have c06:Chg (fun k=>m.P.blk=some k) w5 w6:=Chg.of_ext hB6;have hlen:=hM.len;have hlim:=hM.lim;refine lpR (fun (st:Int×Unit) w7=>∃k:Nat,st.1=((y0+k:Nat):Int)/\k<=ch/\MatM w7 base m W H (curQ P W x0 cw y0 k)/\Chg (fun k=>m.P.blk=some k) w6 w7) (fun st=>ch-(st.1.toNat-y0)) ⟨0,rfl,zero_le _,hM6,Chg.refl _ _⟩ ?_;rintro ⟨i,u⟩ w7 ⟨k,hi,hk,hM7,hc7⟩ I hI;dsimp only at hi ⊢;subst hi;have h57:=kp h56 hc7 (by omega);refine lI (x:=(r:Int)) (lr h57) (lI (x:=(ch:Int)) (lh h57) ?_);rw [er];refine cO (fun e=>?_) fun e=>?_
  ·have hkn:k<ch:=by have:=oTq e;omega
   refine lI (x:=(c:Int)) (lc h57) (lI (x:=(cw:Int)) (lw h57) ?_);rw [e2,<-hx0];refine lpR (fun (st:Int×Unit) w8=>∃j:Nat,st.1=((x0+j:Nat):Int)/\j<=cw/\MatM w8 base m W H (curR (curQ P W x0 cw y0 k) W (y0+k) x0 j)/\Chg (fun k=>m.P.blk=some k) w6 w8) (fun st=>cw-(st.1.toNat-x0)) ⟨0,rfl,zero_le _,hM7,hc7⟩ ?_;rintro ⟨i2,u2⟩ w8 ⟨j,hi2,hj,hM8,hc8⟩ I2 hI2;dsimp only at hi2 ⊢;subst hi2;have h58:=kp h56 hc8 (by omega);refine lI (x:=(c:Int)) (lc h58) (lI (x:=(cw:Int)) (lw h58) ?_);rw [ec];refine cO (fun e=>?_) fun e=>?_
   ·have hjn:j<cw:=by have:=oTq e;omega
    have hin:=q83 (W:=W) (H:=H) (x:=x0+j) (y:=y0+k) (by omega) (by omega);obtain ⟨o,ho⟩:∃o,o=4*((y0+k)*W+(x0+j)):=⟨_,rfl⟩;refine lpR (fun (st:Int×Unit) w9=>∃t:Nat,st.1=(t:Int)/\t<=3/\MatM w9 base m W H (inv3 (curR (curQ P W x0 cw y0 k) W (y0+k) x0 j) o t)/\Chg (fun k=>m.P.blk=some k) w6 w9) (fun st=>3-st.1.toNat) ⟨0,rfl,by omega,hM8,hc8⟩ ?_;rintro ⟨i3,u3⟩ w9 ⟨t,hi3,ht,hM9,hc9⟩ I3 hI3;dsimp only at hi3 ⊢;subst hi3;refine cO (fun e=>?_) fun e=>?_
    ·have htn:t<3:=by have:=oTq e;omega
     have hm9:=(kp (h25.ext hB6) hc9 hB1.size).drew;refine lSl (x:=m.P) (hm9.cells 2 _ rfl) (lI (x:=(W:Int)) (by rw [<-hM.hw];exact hm9.cells 0 _ rfl) (lSl (x:=m.P) (hm9.cells 2 _ rfl) (lI (x:=(W:Int)) (by rw [<-hM.hw];exact hm9.cells 0 _ rfl) ?_)));have eidx:i64.wrap (i64.wrap ((4:Int)*i64.wrap (i64.wrap (((y0+k:Nat):Int)*(W:Int))+((x0+j:Nat):Int)))+(t:Int))=((o+t:Nat):Int):=by
      have e1:((y0+k:Nat):Int)*(W:Int)=(((y0+k)*W:Nat):Int):=by simp
      rw [e1,ho];generalize (y0+k)*W=q at hin ⊢;rw [w64i (x:=((q:Nat):Int)) (by omega),w64i (x:=((q:Nat):Int)+((x0+j:Nat):Int)) (by omega),w64i (x:=(4:Int)*(((q:Nat):Int)+((x0+j:Nat):Int))) (by omega),w64i (by omega)];omega
     rw [eidx];have hl9:=hM9.len;have ho9:=hM9.own.drew;have hot:o+t<(inv3 (curR (curQ P W x0 cw y0 k) W (y0+k) x0 j) o t).length:=by rw [hl9];omega
     obtain ⟨v,hv,hvs⟩:=qta (xs:=inv3 (curR (curQ P W x0 cw y0 k) W (y0+k) x0 j) o t) (k:=o+t) hot;refine ho9.rd.ix (i:=((o+t:Nat):Int)) (k:=1) rfl (by omega) (by omega) fun hcell=>?_;rw [hvs] at hcell;refine ldB8 (b:=v) hcell ?_;refine ho9.rd.ix (i:=((o+t:Nat):Int)) (k:=1) rfl (by omega) (by omega) fun _=>?_;have ev:IntKind.u8.wrap ((255:Int)-(v.toNat:Int))=((255-v).toNat:Int):=by
      have h8:=v.toNat_lt;have e1:(255-v).toNat=255-v.toNat:=by
       rw [UInt8.toNat_sub_of_le]
       ·rfl
       ·rw [UInt8.le_iff_toNat_le];show v.toNat<=255;omega
      rw [e1,show (255:Int)-(v.toNat:Int)=((255-v.toNat:Nat):Int) by omega];exact qml .u8 (by show _<2^8;omega)
     rw [ev];refine ho9.st0 (x:=v) hv (y:=255-v) rfl fun w10 ho10 hg10 hs10=>?_;rw [w64i (x:=(t:Int)+1) (by omega)];have hc10:Chg (fun k=>m.P.blk=some k) w9 w10:=(Chg.of_ext (bdw w9)).trans (Chg.of_grown (S:=fun k=>m.P.blk=some k) hg10 fun k hk=>hk) fun _ _ h=>h;refine hI3 _ _ ⟨t+1,by simp,by omega,⟨hM9.hw,hM9.hh,?_,by rw [qwb,<-qwb _ o t];exact hl9,hM9.lim⟩,hc9.trans hc10 fun _ _ h=>h⟩ (by dsimp only;omega);show Go.Vc.Own qal w10 base m.P (List.set _ (o+t) (255-List.getD _ (o+t) 0));rw [List.getD_eq_getElem?_getD,hv];exact ho10
    ·have:t=3:=by have:=oFq e;omega
     subst this;rw [w64i (x:=((x0+j:Nat):Int)+1) (by omega)];refine hI2 _ _ ⟨j+1,by simp;omega,by omega,?_,hc9⟩ (by dsimp only;omega);rw [ho] at hM9;exact hM9
   ·have:j=cw:=by have:=oFq e;omega
    subst this;rw [w64i (x:=((y0+k:Nat):Int)+1) (by omega)];exact hI _ _ ⟨k+1,by simp;omega,by omega,hM8,hc8⟩ (by dsimp only;omega)
  ·have:k=ch:=by have:=oFq e;omega
   subst this;refine fin w7 _ hM7 (c06.trans hc7 fun _ _ h=>h) ?_;unfold qxl;rw [if_pos ⟨hon,hrow,hcol⟩,hr,hc,Int.toNat_natCast,Int.toNat_natCast,<-hy0,<-hx0]
 have no:¬(s.Cursor=true/\(0<=s.Row/\s.Row<(R:Int))/\(0<=s.Col/\s.Col<(C0:Int)))->P=qxl P W R C0 cw ch s.Cursor s.Row s.Col:=fun hn=>by unfold qxl;rw [if_neg hn]
 refine qhx (x:=s.Cursor) (h5.cells 8 _ rfl) (cO (fun e=>?_) fun e=>?_)
 ·have e:s.Cursor=false:=by simpa using e
  exact fin w5 P hM5 (Chg.refl _ _) (no fun hh=>by rw [e] at hh;cases hh.1)
 have eon:s.Cursor=true:=by simpa using e
 refine lI (x:=s.Row) (h5.cells 9 _ rfl) (lI (x:=(R:Int)) (by rw [<-h.rows];exact h5.cells 0 _ rfl) ?_);rw [w64i (x:=(R:Int)-1) (by omega)];refine qfl (cO (fun e=>?_) fun e=>?_)
 ·have e:¬(0<=s.Row/\s.Row<=(R:Int)-1):=fun hh=>by simp at e;omega
  exact fin w5 P hM5 (Chg.refl _ _) (no fun hh=>e ⟨hh.2.1.1,by omega⟩)
 have er:0<=s.Row/\s.Row<=(R:Int)-1:=by simpa using e
 refine lI (x:=s.Col) (h5.cells 10 _ rfl) (lI (x:=(C0:Int)) (by rw [<-h.cols];exact h5.cells 1 _ rfl) ?_);rw [w64i (x:=(C0:Int)-1) (by omega)];refine qfl (cO (fun e=>?_) fun e=>?_)
 ·have e:¬(0<=s.Col/\s.Col<=(C0:Int)-1):=fun hh=>by simp at e;omega
  exact fin w5 P hM5 (Chg.refl _ _) (no fun hh=>e ⟨hh.2.2.1,by omega⟩)
 have ec:0<=s.Col/\s.Col<=(C0:Int)-1:=by simpa using e
 exact go eon ⟨er.1,by omega⟩ ⟨ec.1,by omega⟩ w5 (Below.refl _ _)
end
def zsc:qaf:=⟨0,0,0,0,⟨none,0,0⟩,⟨none,0,0⟩,none,0,false,0,0⟩
def scA (s:qaf):Value:=.agg #[(.int .i64 s.Rows),(.int .i64 s.Cols),(.int .i64 s.CellW),(.int .i64 s.CellH),(.slice s.Lines.a s.Lines.n s.Lines.c),(.slice s.Places.a s.Places.n s.Places.c),(.map s.Images),(.int .i64 s.Top),(.bool s.Cursor),(.int .i64 s.Row),(.int .i64 s.Col)]
def scI (s:qaf) (b:Bool):Value:=.agg #[(.int .i64 s.Rows),(.int .i64 s.Cols),(.int .i64 s.CellW),(.int .i64 s.CellH),(.slice s.Lines.a s.Lines.n s.Lines.c),(.slice s.Places.a s.Places.n s.Places.c),(.map s.Images),(.int .i64 s.Top),(.bool s.Cursor),(.int .i64 s.Row),(.int .i64 s.Col),(.bool b)]
theorem ta_of {l:Value} {t:TypeId} {r:Rep} {x:r.T} {b:Bool} {w:World} {K:r.T->Bool->World->Prop} (hp:qp3 PG (Instr.typeAssert l qd4 t true)=some (.tuple #[(Kind.struct r).enc x,Kind.bool.enc b])) (hK:K x b w) :
  runK2 PG (Instr.typeAssert l qd4 t true) (Kind.struct r) Kind.bool w K:=⟨x,b,w,qi2 _ hp w,hK⟩
section
variable {w w':World} {B base:Nat} {s:qaf} {R C0 cw ch W H:Nat} {L:List (List Cel)} {m:qaa} {P:List UInt8}
theorem zhr {K:ByteArray->World->Prop} (hK:∀s,K s w):qex (.iface qcx (scA s)) w K:=by
 refine qia _ ?_;unfold qhf;refine ta_of (r:=qb4.rep) (x:=⟨zsc,false⟩) (b:=false) (by kernel_rfl) (cF rfl ?_);refine ta_of (r:=qam.rep) (x:=⟨s⟩) (b:=true) (by kernel_rfl) ?_;exact ta_of (r:=qam.rep) (x:=⟨zsc⟩) (b:=false) (by kernel_rfl) (cT rfl (hK _))
theorem zbl {b:Bool} {K:ByteArray->World->Prop} (hK:∀s,K s w):qex (.iface qds (scI s b)) w K:=by
 refine qia _ ?_;unfold qhf;exact ta_of (r:=qb4.rep) (x:=⟨s,b⟩) (b:=true) (by kernel_rfl) (cT rfl (hK _))
theorem zhl {K:ByteArray->World->Prop} (hK:∀s,K s w):qex (.iface qcp (scA s)) w K:=by
 refine qia _ ?_;unfold qhf;refine ta_of (r:=qb4.rep) (x:=⟨zsc,false⟩) (b:=false) (by kernel_rfl) (cF rfl ?_);refine ta_of (r:=qam.rep) (x:=⟨zsc⟩) (b:=false) (by kernel_rfl) ?_;exact ta_of (r:=qam.rep) (x:=⟨s⟩) (b:=true) (by kernel_rfl) (cF rfl (cT rfl (hK _)))
theorem zhq {K:ByteArray->World->Prop} (hK:∀s,K s w):qex (.iface qel (scA s)) w K:=by
 refine qia _ ?_;unfold qhf;refine ta_of (r:=qb4.rep) (x:=⟨zsc,false⟩) (b:=false) (by kernel_rfl) (cF rfl ?_);refine ta_of (r:=qam.rep) (x:=⟨zsc⟩) (b:=false) (by kernel_rfl) ?_;refine ta_of (r:=qam.rep) (x:=⟨zsc⟩) (b:=false) (by kernel_rfl) (cF rfl (cF rfl ?_));exact ta_of (r:=qam.rep) (x:=⟨s⟩) (b:=true) (by kernel_rfl) (cT rfl (hK _))
theorem zi8 (w : World) : (method (PG.types.size + Made.depth) qcx (scA s) "Paint").run PG w = .ok (525, scA s) w := qi2 _ (by kernel_rfl) w
theorem zik (b : Bool) (w : World) : (method (PG.types.size + Made.depth) qds (scI s b) "Paint").run PG w = .ok (535, scI s b) w := qi2 _ (by kernel_rfl) w
theorem ziw (w : World) : (method (PG.types.size + Made.depth) qcp (scA s) "Paint").run PG w = .ok (542, scA s) w := qi2 _ (by kernel_rfl) w
theorem zix (w : World) : (method (PG.types.size + Made.depth) qel (scA s) "Paint").run PG w = .ok (546, scA s) w := qi2 _ (by kernel_rfl) w
def mA (m:qaa):Value:=.agg #[(.int .i64 m.W),(.int .i64 m.H),(.slice m.P.a m.P.n m.P.c)]
theorem zib {K : qaa -> World -> Prop} (h : qhy ⟨s⟩ m w K) : callI C (.iface qcx (scA s)) "Paint" [mA m] [(Kind.struct qaa.rep)] w K := ⟨_, _, _, _, rfl, zi8 w, by kernel_rfl, h⟩
theorem zbx {b : Bool} {K : qaa -> World -> Prop} (h : qh8 ⟨s, b⟩ m w K) : callI C (.iface qds (scI s b)) "Paint" [mA m] [(Kind.struct qaa.rep)] w K := ⟨_, _, _, _, rfl, zik b w, by kernel_rfl, h⟩
theorem zhm {K : qaa -> World -> Prop} (h : qif ⟨s⟩ m w K) : callI C (.iface qcp (scA s)) "Paint" [mA m] [(Kind.struct qaa.rep)] w K := ⟨_, _, _, _, rfl, ziw w, by kernel_rfl, h⟩
theorem zho {K : qaa -> World -> Prop} (h : qin ⟨s⟩ m w K) : callI C (.iface qel (scA s)) "Paint" [mA m] [(Kind.struct qaa.rep)] w K := ⟨_, _, _, _, rfl, zix w, by kernel_rfl, h⟩
structure LayOk (w0:World) (base:Nat) (m:qaa) (W H:Nat) (v:Value):Prop where
 nm:∀{w2:World} {K:ByteArray->World->Prop},(∀s,K s w2)->qex v w2 K
 pt : ∀ {w2 : World} {P2 : List UInt8} {K : qaa -> World -> Prop}, Chg (fun k => m.P.blk = some k) w0 w2 -> MatM w2 base m W H P2 -> (∀ w3 P3, Chg (fun k => m.P.blk = some k) w2 w3 -> MatM w3 base m W H P3 -> K m w3) -> callI C v "Paint" [mA m] [(Kind.struct qaa.rep)] w2 K
theorem q86 {b n:Nat} {ls:List Value} {t:TypeId} (hb:Blk w b t ls) (hn:ls.length=n) (hn2:n<=1000) (hM:MatM w base m W H P) (hbn:m.P.blk≠some b) (hl:∀(i:Nat) v,ls[i]?=some v->LayOk w base m W H v) {K:qaa->World->Prop}
  (hK:∀w' P',MatM w' base m W H P'->Chg (fun k=>m.P.blk=some k) w w'->K m w'):qoj m ⟨some ⟨b,0,none⟩,n,n⟩ w K:=by
 refine q0i _ _ ?_;unfold qtm;refine nwb fun w1 h1 hB1 hs1=>nwb fun w2 h2 hB2 hs2=>?_;have B2:=bT hB1 hB2;obtain ⟨gm,ha,hbm⟩:=hM.some_;have gl:=hM.own.lt gm hbm;have bl:=hb.lt;refine lpR (fun (st:Int×Unit) w3=>∃(i:Nat) (P3:List UInt8),st.1=i/\i<=n/\MatM w3 base m W H P3/\Blk w3 w.heap.size qa2 (qaa.rep.cells m)/\(∃zs,Blk w3 w1.heap.size qa2 zs/\zs.length=3)/\Blk w3 b t ls/\Chg (fun k=>m.P.blk=some k) w w3) (fun st=>n-st.1.toNat) ⟨0,P,rfl,zero_le _,hM.ext B2,h1.ext hB2,⟨_,h2,rfl⟩,hb.ext B2,Chg.of_ext B2⟩ ?_;rintro ⟨i,u⟩ w3 ⟨k,P3,hi,hk,hM3,hm3,⟨zs,hz3,hzl⟩,hb3,hc3⟩ I hI;dsimp only at hi ⊢;subst hi;refine cO (fun e=>?_) fun e=>?_
 ·have e:=oTq e;have hkn:k<n:=by omega
  obtain ⟨v,hv⟩:∃v,ls[k]?=some v:=⟨ls[k],List.getElem?_eq_getElem (by omega)⟩;have hlv:=hl k v hv;refine zfe (s:=⟨some ⟨b,0,none⟩,n,n⟩) rfl (by omega) (by show (k:Int)<(n:Int);omega) ?_;refine qs3 (x:=v) (by show w3.cell? ((⟨b,0,none⟩:Addr).add (((k:Nat):Int).toNat*1))=some v;rw [Int.toNat_natCast,mul_one];exact hb3.cells k v hv) ?_;refine jpO fun J2 hJ2=>?_;have key:J2 (true,()) w3:=by
   refine hJ2 _ _ (cT rfl ?_);refine qaq (r:=qaa.rep) (x:=m) hm3.cells ?_;refine hlv.pt hc3 hM3 fun w4 P4 hc4 hM4=>?_;have hm4:Blk w4 w.heap.size qa2 (qaa.rep.cells m):=hm3.chg hc4 (by rw [hbm];intro e;cases e;omega);have hz4:Blk w4 w1.heap.size qa2 zs:=hz3.chg hc4 (by rw [hbm];intro e;cases e;omega);have hb4:Blk w4 b t ls:=hb3.chg hc4 (fun e=>hbn e);refine qfz hm4 rfl fun w5 hm5 hc5 hs5=>?_;have hM5:MatM w5 base m W H P4:=⟨hM4.hw,hM4.hh,hM4.own.chg hc5 (fun k hk e=>by rw [hbm] at hk;cases hk;omega),hM4.len,hM4.lim⟩;refine hI _ _ ⟨k+1,P4,by show i64.wrap ((k:Int)+1)=_;rw [w64i (by have:=hb.lt;omega)];simp,by omega,hM5,hm5,⟨zs,hz4.chg hc5 (by omega),hzl⟩,hb4.chg hc5 (by omega),?_⟩ (by show n-(i64.wrap ((k:Int)+1)).toNat<n-((k:Nat):Int).toNat;rw [w64i (by omega)];omega);exact (hc3.trans hc4 fun _ _ h=>h).trans hc5 fun i hi e=>by omega
  refine hlv.nm fun sn=>?_;refine cO (fun _=>key) fun _=>lSl (x:=m.P) (hm3.cells 2 _ rfl) ?_;have hp:0<m.P.n:=by
   rw [hM3.own.rd.n,hM3.len];have:=hM3.lim;exact Nat.mul_pos (Nat.mul_pos (by decide) (by omega)) (by omega)
  rw [dTq (by omega)];exact key
 ·refine qaq (r:=qaa.rep) (x:=m) hm3.cells ?_;refine qfu (r:=qaa.rep) (x:=m) hz3 rfl (by rw [hzl];rfl) fun w5 hc5 hs5=>?_;refine hK w5 P3 ⟨hM3.hw,hM3.hh,hM3.own.chg hc5 (fun k hk e=>by rw [hbm] at hk;cases hk;omega),hM3.len,hM3.lim⟩ (hc3.trans hc5 fun i hi e=>by omega)
theorem zdr (h:ScnM w B s R C0 cw ch L) (hbr:Bare L) (hch:Chars L) (hp:s.Places.n=0) (br:-1000000<=s.Row/\s.Row<=1000000) (bc:-1000000<=s.Col/\s.Col<=1000000) (hBw:B<=w.heap.size) (hW2:C0*cw<=16384) (hH2:R*ch<=16384) (hA:C0*cw*(R*ch)<=67108864)
  {K:qaa->Int->World->Prop} (hK:∀m w',m.W=((C0*cw:Nat):Int)->m.H=((R*ch:Nat):Int)->Below w.heap.size w w'->K m 0 w'):qtz s w K:=by
 refine q33 _ ?_;unfold qzc;have lim:=h.lim;refine nwb fun w1 h1 hB1 hs1=>nwb fun w2 h2 hB2 hs2=>?_;have B2:=bT hB1 hB2;have h12:=h1.ext hB2;refine jpO fun J1 hJ1=>jpO fun J2 hJ2=>?_;refine lI (x:=(R:Int)) (by rw [<-h.rows];exact h12.cells 0 _ rfl) (qfl (cF (by rw [dTq (by omega)];rfl) ?_));refine lI (x:=(C0:Int)) (by rw [<-h.cols];exact h12.cells 1 _ rfl) (qfl (cF (by rw [dTq (by omega)];rfl) ?_));refine lI (x:=(cw:Int)) (by rw [<-h.ecw];exact h12.cells 2 _ rfl) (qfl (cF (by rw [dTq (by omega)];rfl) ?_));refine lI (x:=(ch:Int)) (by rw [<-h.ech];exact h12.cells 3 _ rfl) (qfl ?_);rw [dTq (by omega)];refine hJ2 _ _ (cF rfl (hJ1 _ _ ?_));refine lI (x:=(C0:Int)) (by rw [<-h.cols];exact h12.cells 1 _ rfl) (lI (x:=(cw:Int)) (by rw [<-h.ecw];exact h12.cells 2 _ rfl) ?_);refine lI (x:=(R:Int)) (by rw [<-h.rows];exact h12.cells 0 _ rfl) (lI (x:=(ch:Int)) (by rw [<-h.ech];exact h12.cells 3 _ rfl) ?_);rw [(mulw (a:=C0) (b:=cw) (by omega) (by omega)).1,(mulw (a:=R) (b:=ch) (by omega) (by omega)).1];have w1':1<=C0*cw:=Nat.mul_pos (by omega) (by omega);have hh1:1<=R*ch:=Nat.mul_pos (by omega) (by omega);refine zee w1' hW2 hh1 hH2 hA fun t gm w4 ht hta hgm hB4=>?_;have B4:=bT B2 hB4;refine nwb fun w5 h5 hB5 hs5=>?_;refine qfz h5 rfl fun w6 h6 hc6 hs6=>?_;have l12:=B2.size;have l4:=hB4.size;have B6:Below w.heap.size w w6:=b1o (bT B4 hB5) hc6 (by omega);have B26:Below w2.heap.size w2 w6:=b1o (bT hB4 hB5) hc6 (by omega);refine cF rfl (qaq (r:=qaa.rep) (x:=⟨_,_,t⟩) h6.cells ?_);have h16:Blk w6 w.heap.size qa5 (qaf.rep.cells s):=h12.ext B26;have h26:=h2.ext B26;refine qaq (r:=qaf.rep) (x:=s) h16.cells (qaq (r:=qaf.rep) (x:=s) h16.cells (qaq (r:=qaf.rep) (x:=s) h16.cells (qaq (r:=qaf.rep) (x:=s) h16.cells (qaq (r:=qaf.rep) (x:=s) h16.cells ?_))));refine nwb fun w7 h7 hB7 hs7=>?_;have ht6:Go.Vc.Own qal w7 w2.heap.size t (List.replicate (4*(C0*cw)*(R*ch)) 0):=((ht.ext hB5).chg hc6 fun k hk e=>by have h8:=(ht.lt k hk).2;omega).ext hB7;have h4a:4*(C0*cw)*(R*ch)<=268435456:=by rw [Nat.mul_assoc];omega
 have hM:MatM w7 w2.heap.size ⟨((C0*cw:Nat):Int),((R*ch:Nat):Int),t⟩ (C0*cw) (R*ch) (List.replicate (4*(C0*cw)*(R*ch)) 0):=⟨rfl,rfl,ht6,by rw [List.length_replicate],⟨w1',hW2,hh1,hH2,h4a⟩⟩;have B7:=bT B6 hB7;have hs7:=h.ext B7;have htb:t.blk=some gm:=by unfold Slc.blk;rw [hta];rfl
 have gl7:=(ht6.lt gm htb).2;have gl4:=(ht.lt gm htb).2;have kp:∀{wx},Chg (fun k=>t.blk=some k) w7 wx->ScnM wx B s R C0 cw ch L:=fun hc=>hs7.keep hc fun k hk=>by rw [htb] at hk;cases hk;omega
 refine q86 (n:=5) (m:=⟨((C0*cw:Nat):Int),((R*ch:Nat):Int),t⟩) h7 rfl (by decide) hM (by show t.blk≠_;rw [htb];intro e;cases e;omega) (fun i v hv=>?_) fun w8 P8 hM8 hc8=>?_
 ·match i,hv with
  | 0,hv =>
   obtain rfl:=Option.some.inj hv;exact ⟨fun hK=>zhr hK,fun hc hM hK=>zib (q71 (kp hc) hbr hM (by omega) fun w3 hM3 hc3=>hK w3 _ hc3 hM3)⟩
  | 1,hv =>
   obtain rfl:=Option.some.inj hv;exact ⟨fun hK=>zbl (s:=s) (b:=false) hK,fun hc hM hK=>zbx (qzk hp false hM fun w3 hM3 hB3=>hK w3 _ (Chg.of_ext hB3) hM3)⟩
  | 2,hv =>
   obtain rfl:=Option.some.inj hv;exact ⟨fun hK=>zhl hK,fun hc hM hK=>zhm (zal (kp hc) hbr hch hM (by omega) fun w3 hM3 hc3=>hK w3 _ hc3 hM3)⟩
  | 3,hv =>
   obtain rfl:=Option.some.inj hv;exact ⟨fun hK=>zbl (s:=s) (b:=true) hK,fun hc hM hK=>zbx (qzk hp true hM fun w3 hM3 hB3=>hK w3 _ (Chg.of_ext hB3) hM3)⟩
  | 4,hv =>
   obtain rfl:=Option.some.inj hv;exact ⟨fun hK=>zhq hK,fun hc hM hK=>zho (q65 (kp hc) rfl rfl br bc hM fun w3 hM3 hc3=>hK w3 _ hc3 hM3)⟩
  | i+5,hv=>simp at hv
 have h28:Blk w8 w1.heap.size qa2 [(.int .i64 0),(.int .i64 0),(.slice none 0 0)]:=(h26.ext hB7).chg hc8 (by show t.blk≠_;rw [htb];intro e;cases e;omega);refine qfu (r:=qaa.rep) (x:=⟨((C0*cw:Nat):Int),((R*ch:Nat):Int),t⟩) h28 rfl rfl fun w9 hc9 hs9=>hK _ w9 rfl rfl ?_;have B8:Below w.heap.size w w8:=B7.trans (hc8.below B7.size fun k hk e=>by rw [show t.blk=some k from e] at htb;cases htb;omega);exact b1o B8 hc9 hB1.size
end
section
variable {w w':World} {base:Nat} {F F':TmF} {T T':TS} {g:Nat} {SF:ScF} {S:Sc}
theorem ze2 (h:ScM w base g SF S) {K:Int->World->Prop} (hK:∀w',Below w.heap.size w w'->K S.g.top w'):qi8 (some ⟨g,0,none⟩) w K:=by
 refine qwg _ ?_;unfold qn0;exact qgi h (qvp h.drew.gM (hK _ (qav w)))
theorem zcc (h:ScM w base g SF S) {K:Int->Int->World->Prop} (hK:∀w',Below w.heap.size w w'->K S.g.rows S.g.cols w'):qii (some ⟨g,0,none⟩) w K:=by
 refine qur _ ?_;unfold qm7;exact qcz h (hK _ ((Below.refl _ w).drew.drew))
def tview (T:TS):qce:=⟨⟨T.S.alt,T.S.g.top,T.S.g.rows,T.S.g.cols,T.S.c.Row,T.S.c.Col⟩,T.c.CellW,T.c.CellH⟩
theorem zdh (h:TermM w base F T) {K:qce->World->Prop} (hK:∀w',Below w.heap.size w w'->K (tview T) w'):qmg (some ⟨F.tg,0,none⟩) w K:=by
 refine qz6 _ ?_;unfold qr3;simp only [onPtr_some];refine nwb fun w1 h1 hB1 hs1=>?_;have m1:=h.ext hB1;refine qar (x:=some ⟨F.sg,0,none⟩) (m1.blk.cells 6 _ rfl) (zcc m1.sc fun w2 hB2=>?_);have B2:=bT hB1 hB2;have m2:=h.ext B2;refine qar (x:=some ⟨F.sg,0,none⟩) (m2.blk.cells 6 _ rfl) (q98 m2.sc fun w3 hB3=>?_);have B3:=bT B2 hB3;refine qt1 (vs:=qak.rep.cells T.S.c) rfl fun w4 h4 hB4 hs4=>?_;have B4:=bT B3 hB4;have m4:=(h.ext B4).drew;have h4d:=h4.drew;refine qar (x:=some ⟨F.sg,0,none⟩) (m4.blk.cells 6 _ rfl) (qar (x:=some ⟨F.sg,0,none⟩) (m4.blk.cells 6 _ rfl) ?_);refine lI (x:=T.S.c.Row) (h4d.cells 0 _ rfl) (lI (x:=T.S.c.Col) (h4d.cells 1 _ rfl) ?_);refine lI (x:=T.c.CellW) (by rw [qch];exact m4.blk.cells 2 _ rfl) (lI (x:=T.c.CellH) (by rw [qch];exact m4.blk.cells 3 _ rfl) ?_);refine q3i m4.sc ⟨by rw [qch];exact m4.blk.cells 3 _ rfl,by rw [qch];exact m4.blk.cells 2 _ rfl,h4d.cells 1 _ rfl,h4d.cells 0 _ rfl,m4.blk.cells 6 _ rfl,ze2 m4.sc fun w7 hB7=>?_⟩;have m7:=m4.ext hB7;have h47:=h4d.ext hB7;refine ⟨by rw [qch];exact m7.blk.cells 3 _ rfl,by rw [qch];exact m7.blk.cells 2 _ rfl,h47.cells 1 _ rfl,h47.cells 0 _ rfl,?_⟩;have h17:=(((((h1.ext hB2).ext hB3).ext hB4).drew).ext hB7);have B7:=bT (bT B4 (bdw w4)) hB7;exact qfu (r:=qce.rep) (x:=tview T) h17 rfl rfl fun w8 hc8 hs8=>hK w8 (b1o B7 hc8 (le_refl _))
theorem q76 (h:ScM w base g SF S) {K:Slc->World->Prop} (hK:∀q w',q.n=S.areas.length->ScT base g w SF { SF with ar:=⟨none,0,0⟩ } { S with areas:=[] } w'->K q w'):qg8 (some ⟨g,0,none⟩) w K:=by
 refine qsz _ ?_;unfold qk8;simp only [onPtr_some];refine lSl (x:=SF.ar) (h.blk.cells 41 _ rfl) ?_;show stK ⟨g,41,none⟩ _ _ _;have hlen:(qab.rep.cells (scX SF S)).length=42:=rfl;refine qah h.blk (by rw [hlen];show (41+1:Nat)<=42;omega) fun w1 hb1 hg1 hs1=>?_;have hc:Chg (fun i=>i=g) w w1:=Chg.of_grown hg1 fun k hk=>by cases hk;rfl
 have hC:∀k cs,k=g->¬Blk w k qao cs:=fun k cs hk hcs=>h.notC k cs (.inl hk) hcs;refine hK SF.ar w1 h.ar.rd.n ⟨⟨hb1,h.hg,h.g0.chg hc (fun k hk=>h.of_g k (.inl hk)) hC,h.g1.chg hc (fun k hk=>h.of_g k (.inr (.inl hk))) hC,h.st.keep hc (h.of_g _ (.inr (.inr (.inl rfl)))) (h.of_g _ (.inr (.inr (.inr (.inl rfl))))),h.hst,h.mo.chg hc (h.of_g _ (.inr (.inr (.inr (.inr (.inl rfl)))))),h.pr.chg hc (h.of_g _ (.inr (.inr (.inr (.inr (.inr (.inl rfl))))))),h.hm,h.dm,Go.Vc.Own.nil _ _ _,h.dg,h.ok.areas _⟩,?_,hc.mono fun k _ e=>.inl e⟩;rintro k (hk | hk | hk | hk | hk | hk | hk | hk)
 ·exact .inl (.inl hk)
 ·exact .inl (.inr (.inl hk))
 ·exact .inl (.inr (.inr (.inl hk)))
 ·exact .inl (.inr (.inr (.inr (.inl hk))))
 ·exact .inl (.inr (.inr (.inr (.inr (.inl hk)))))
 ·exact .inl (.inr (.inr (.inr (.inr (.inr (.inl hk))))))
 ·exact .inl (.inr (.inr (.inr (.inr (.inr (.inr (.inl hk)))))))
 ·cases hk
def Still (T:TS):Prop:=T.S.areas=[]/\i64.wrap (T.S.g0.top-T.S.g0.old.length)=T.f0/\T.S.g1.top=T.f1
theorem q09 (h:TermM w base F T) (hA:Still T) {K:World->Prop} (hK:∀F' w',TmT base w F F' T w'->K w'):qbp (some ⟨F.tg,0,none⟩) w K:=by
 refine qyv _ ?_;unfold qqq;simp only [onPtr_some];refine qar (x:=some ⟨F.sg,0,none⟩) (h.blk.cells 6 _ rfl) (q76 h.sc fun q w1 hq hT=>?_);have t1:=h.screen hT;have e:({ T with S:={ T.S with areas:=[] } }:TS)=T:=by
  have e1:({ T.S with areas:=[] }:Sc)=T.S:=by rw [<-hA.1]
  rw [e1]
 rw [e] at t1;refine lpR (fun (st:Int×Unit) w2=>st.1=0/\w2=w1) (fun _=>0) ⟨rfl,rfl⟩ ?_;rintro ⟨i,u⟩ w2 ⟨rfl,rfl⟩ I hI;refine cF (by rw [hq,hA.1];rfl) ?_;refine qar (x:=some ⟨F.sg,0,none⟩) (t1.m.blk.cells 6 _ rfl) (q95 t1.m.sc ?_);have t2:=t1.drew.drew;refine qt1 (vs:=[.int .i64 (i64.wrap (T.S.g0.top-T.S.g0.old.length)),.int .i64 T.S.g1.top]) rfl fun w8 h8 hB8 hs8=>?_;have t8:=(t2.ext hB8).drew;refine qaq (r:=qfd.rep) (x:=⟨i64.wrap (T.S.g0.top-T.S.g0.old.length),T.S.g1.top⟩) h8.drew.cells (qaq (r:=qfd.rep) (x:=⟨T.f0,T.f1⟩) (t8.m.blk.sub 13 _ rfl) ?_);refine cF ?_ (hK _ _ t8);show (!((_==T.f0) && ((_==T.f1) && true)))=false;rw [hA.2.1,hA.2.2];simp
theorem q0g {f:Value} {LS:List (List Cell)} (hn:LS.length<=2000)
  (hf:∀(i:Nat) w2 (K:Slc->Bool->World->Prop),Below w.heap.size w w2->(∀xs,LS[i]?=some xs->∀q w3,Go.Vc.Own cellE w3 w2.heap.size q xs->Below w2.heap.size w2 w3->K q true w3)->(LS.length<=i->∀q w3,Below w2.heap.size w2 w3->K q false w3)->callR C f [.int .i64 i] [Kind.slice,Kind.bool] w2 K)
  {K:Slc->World->Prop} (hK:∀q ls w',Go.Vc.Own slE w' w.heap.size q ls->Lines w' w.heap.size ls LS->Below w.heap.size w w'->K q w'):qom f w K:=by
 refine q4t _ ?_;unfold qze;refine lpR (fun (st:Slc×Int×Unit) w1=>∃(k:Nat) (ls:List Slc),st.2.1=k/\k<=LS.length/\Go.Vc.Own slE w1 w.heap.size st.1 ls/\Lines w1 w.heap.size ls (LS.take k)/\Below w.heap.size w w1) (fun st=>LS.length-st.2.1.toNat) ⟨0,[],rfl,zero_le _,Go.Vc.Own.nil _ _ _,Lines.nil _ _,Below.refl _ _⟩ ?_;rintro ⟨q,i,u⟩ w1 ⟨k,ls,hi,hk,ho,hl,hB⟩ I hI;dsimp only at hi ho ⊢;subst hi;refine hf k w1 _ hB (fun xs hx t w2 ht hB2=>?_) fun hge t w2 hB2=>?_
 ·refine cF rfl ?_;have hkl:k<LS.length:=(List.getElem?_eq_some_iff.1 hx).1;have hll:ls.length=k:=by rw [hl.1,List.length_take];omega
  have B2:=bT hB hB2;have ho2:=ho.ext hB2;have hl2:=hl.ext hB2;refine q75 (E:=slE) qq3 (y:=t) ho2 rfl B2.size (by rw [hll,show qq3.i.bytes=24 by kernel_rfl];omega) (by rw [hll];simp [maxLen];omega) fun r w3 hr hc3 hrb=>?_;have hne:∀k',q.blk=some k'->¬∃cs,Blk w2 k' qao cs:=fun k' hk' ⟨cs,hcs⟩=>qbo ho2 hcs (by decide) k' hk' rfl;have B3:Below w.heap.size w w3:=B2.trans (hc3.below B2.size fun j hj e=>by have:=(ho2.lt j e).1;omega);refine hI _ _ ⟨k+1,ls++[t],by show i64.wrap ((k:Int)+1)=_;rw [w64i (by omega)];simp,hkl,hr,⟨by rw [List.length_append,hll,List.length_take,List.length_singleton];omega,fun j s ys hj hy=>?_⟩,B3⟩ (by show LS.length-(i64.wrap ((k:Int)+1)).toNat<LS.length-((k:Nat):Int).toNat;rw [w64i (by omega)];omega);by_cases hjk:j<k
  ·rw [List.getElem?_append_left (by omega)] at hj;rw [List.getElem?_take_of_lt (by omega)] at hy;have h4:=hl2.2 j s ys hj (by rw [List.getElem?_take_of_lt hjk];exact hy);exact h4.chg hc3 fun k' hk' e=>by
    obtain ⟨cs,hcs⟩:=h4.blk_t hk';exact hne k' e ⟨cs,hcs⟩
  ·have hj2:j<(ls++[t]).length:=(List.getElem?_eq_some_iff.1 hj).1;rw [List.length_append,List.length_singleton,hll] at hj2;have hje:j=k:=by omega
   subst hje;rw [List.getElem?_append_right (by omega),hll,Nat.sub_self] at hj;obtain rfl:t=s:=by simpa using hj
   rw [List.getElem?_take_of_lt (by omega),hx] at hy;obtain rfl:=Option.some.inj hy;exact (ht.base (by have:=hB.size;omega)).chg hc3 fun k' hk' e=>by
    obtain ⟨cs,hcs⟩:=ht.blk_t hk';exact hne k' e ⟨cs,hcs⟩
 ·have hke:k=LS.length:=by omega
  refine cT rfl (hK q ls w2 (ho.ext hB2) ?_ (bT hB hB2));have:=hl.ext hB2;rw [hke,List.take_length] at this;exact this
end
section
variable {w w':World} {base:Nat} {F F':TmF} {T T':TS}
theorem qea (h:TermM w base F T) {K:Slc->World->Prop} (hK:∀q ls w',Go.Vc.Own slE w' w.heap.size q ls->Lines w' w.heap.size ls T.S.g.L->Below w.heap.size w w'->K q w'):qb3 (some ⟨F.tg,0,none⟩) w K:=by
 refine qx0 _ ?_;unfold qqs;simp only [onPtr_some];have hG:=h.sc.gOk;refine qar (x:=some ⟨F.sg,0,none⟩) (h.blk.cells 6 _ rfl) (q6y h.sc fun f' w1 hg hf hsc hB1=>?_);have z1:=hB1.size;refine q0g (LS:=T.S.g.L) (by rw [hG.len];have:=hG.rows;omega) (fun i w2 K2 hB2 h1 h2=>?_) fun q ls w2 ho hl hB2=>hK q ls w2 (ho.base z1) ⟨hl.1,fun j s xs hj hx=>(hl.2 j s xs hj hx).base z1⟩ (bT hB1 hB2);refine qcm (by kernel_rfl) (show qmn (some ⟨f'.g,0,none⟩) (i:Int) w2 K2 from ?_);refine zby (hg.ext hB2) hG.len (fun xs hx=>by have:=(hG.L xs hx).2.1;have:=hG.cols;omega) (fun s xs w3 h0 hx ho hB3=>h1 xs (by simpa using hx) s w3 ho hB3) fun hn=>h2 (by rw [hG.len];omega) _ _ (Below.refl _ _)
theorem zc2 (h:TermM w base F T) {K:Slc->World->Prop} (hK:∀q ls w',Go.Vc.Own slE w' w.heap.size q ls->Lines w' w.heap.size ls T.S.g.old->Below w.heap.size w w'->K q w') (hol:T.S.g.old.length<=2000):qo0 (some ⟨F.tg,0,none⟩) w K:=by
 refine q1j _ ?_;unfold qt5;simp only [onPtr_some];have hG:=h.sc.gOk;refine qar (x:=some ⟨F.sg,0,none⟩) (h.blk.cells 6 _ rfl) (q6y h.sc fun f' w1 hg hf hsc hB1=>?_);have z1:=hB1.size;refine q0g (LS:=T.S.g.old) hol (fun i w2 K2 hB2 h1 h2=>?_) fun q ls w2 ho hl hB2=>hK q ls w2 (ho.base z1) ⟨hl.1,fun j s xs hj hx=>(hl.2 j s xs hj hx).base z1⟩ (bT hB1 hB2);refine qcm (by kernel_rfl) (show qoq (some ⟨f'.g,0,none⟩) (i:Int) w2 K2 from ?_);refine zed (hg.ext hB2) (by have:=hG.most;omega) (fun xs hx=>by have:=(hG.old xs hx).1;omega) (fun s xs w3 h0 hx ho hB3=>h1 xs (by simpa using hx) s w3 ho hB3) fun hn s w3 ho hB3=>h2 (by omega) s w3 hB3
theorem q5c (h:TermM w base F T) {K:Slc->World->Prop} (hK:∀q F' w',Rd qal w' q T.rep->TmT base w F F' { T with rep:=[] } w'->K q w'):qjf (some ⟨F.tg,0,none⟩) w K:=by
 refine qwl _ ?_;unfold qn4;simp only [onPtr_some];refine lSl (x:=F.rq) (h.blk.cells 12 _ rfl) (zem (zf4 h.rq) fun q hq hn=>?_);rw [qae];refine qah h.blk (by show 0+12+1<=15;omega) fun w2 hb2 hg2 hs2=>?_;have hc:=Chg.gg hg2;have hq2:=hq.chg hc fun k hk e=>by
  obtain ⟨cs,hcs⟩:=(hq.blk k hk).2;subst e;exact h.blk.ne_t hcs (by decide) rfl
 exact hK q { F with rq:=⟨none,0,0⟩ } w2 hq2.rd (h.put hb2 hc rfl rfl rfl rfl rfl rfl rfl rfl rfl h.cq (Go.Vc.Own.nil _ _ _) (fun k hk=>hk) fun k hk=>by cases hk)
theorem qme (h:TermM w base F T) {rows cols:Int} {K:Bool->World->Prop} (hbad:¬((1<=rows/\rows<=1000)/\(1<=cols/\cols<=1000))->K false w)
  (hok:(1<=rows/\rows<=1000)/\(1<=cols/\cols<=1000)->Still { T with S:=T.S.resizeP rows cols }/\∀F' w',TmT base w F F' { T with S:=T.S.resizeP rows cols } w'->K true w'):qdf (some ⟨F.tg,0,none⟩) rows cols w K:=by
 refine qxo _ _ _ ?_;unfold qpa;simp only [onPtr_some];refine qar (x:=some ⟨F.sg,0,none⟩) (h.blk.cells 6 _ rfl) (q7c h.sc (fun hb=>cT rfl (hbad hb)) fun ho SF' w1 hT=>cF rfl ?_);have t1:=h.screen hT;exact q09 t1.m (hok ho).1 fun F2 w2 t2=>(hok ho).2 F2 w2 (t1.trans t2)
theorem zan (h:TermM w base F T) {n:Int} {priv:Bool} {K:Bool->World->Prop} (hK:K (T.S.modeP n priv).1 w):qmp (some ⟨F.tg,0,none⟩) n priv w K:=by
 refine qzy _ _ _ ?_;unfold qrx;simp only [onPtr_some];exact qar (x:=some ⟨F.sg,0,none⟩) (h.blk.cells 6 _ rfl) (q6o h.sc hK)
def evOf (v:EvP):Ev:=⟨v.k,v.r,v.b,v.pv,v.i,v.ps⟩
def evT (T:TS) (v:EvP):TS:={ T with S:=T.S.doS (evOf v),rep:=T.rep++T.S.doR (evOf v) }
theorem q79 {v:EvP} {p d:Slc} (h:TermM w base F T) (hk:v.k=1\/v.k=4) (hv:EvW w (termS F) p d v) (hst:Still (evT T v)) (hA:T.S.areas.length<=1000) (hrl:T.rep.length<=1000000) (hrd:(T.S.doR (evOf v)).length<=1000000) {K:World->Prop}
  (hK:∀F' w',TmT base w F F' (evT T v) w'->K w'):qlm (some ⟨F.tg,0,none⟩) ⟨v.k,v.r,v.b,v.pv,strB v.i,p,d⟩ w K:=by
 refine qx8 _ _ ?_;unfold qqp;simp only [onPtr_some];refine nwb fun w1 h1 hB1 hs1=>?_;refine lI (x:=v.k) (h1.cells 0 _ rfl) ?_;refine jpO fun J1 hJ1=>?_;have key:J1 () w1:=by
  refine hJ1 _ _ ?_;have t1:=(TmT.of_ext h hB1).drew;have m1:=t1.m;have h1d:=h1.drew;refine lSl (x:=F.rq) (m1.blk.cells 12 _ rfl) (qar (x:=some ⟨F.sg,0,none⟩) (m1.blk.cells 6 _ rfl) (qaq (r:=qbf.rep) (x:=⟨v.k,v.r,v.b,v.pv,strB v.i,p,d⟩) h1d.cells ?_));have z1:=hB1.size;have hv1:EvM w1.drew F.sg F.SF ⟨v.k,v.r,v.b,v.pv,strB v.i,p,d⟩ (evOf v):=⟨rfl,rfl,rfl,rfl,rfl,⟨(hv.ps.ext hB1).drew,.inr fun a ha=>⟨fun hs=>(hv.pf a ha).1 (.inr (.inl hs)),by have:=(hv.pf a ha).2;show a.block<w1.heap.size;omega⟩,fun x hx=>by have:=hv.rng x hx;unfold in64;omega,by have:=hv.pl;show v.ps.length<=100000;omega⟩,hv.b,hv.pv,by have:=hv.il;show v.i.length<=100000;omega⟩;refine zdu m1.sc hv1 m1.tab (by have:=m1.b4;omega) (by have:=hv.pl;show T.S.areas.length+v.ps.length<=700000000;omega) fun q SF' w3 hq hT=>?_;have t3:=m1.screen hT;have m3:=t3.m;refine ⟨m3.blk.cells 12 _ rfl,?_⟩;refine qde qd7 (ty:=qaj) (xs:=T.rep) (ys:=T.S.doR (evOf v)) m3.rq hq m3.base_le (by rw [qp9];omega) (by simp [maxLen];omega) fun r w4 hr hg hrb=>?_;refine m3.replied (xs:=T.S.doR (evOf v)) hr (Chg.of_grown hg fun k hk=>hk) hrb fun w5 t5=>?_;exact q09 t5.m hst fun F6 w6 t6=>hK F6 w6 (t1.trans (t3.trans (t5.trans t6)))
 have n:∀j:Int,j≠1->j≠4->(v.k==j)=false:=fun j h1 h4=>beq_eq_false_iff_ne.2 (by omega);exact cF (n 6 (by decide) (by decide)) (cF (n 7 (by decide) (by decide)) (cF (n 8 (by decide) (by decide)) (cF (n 9 (by decide) (by decide)) (cF (n 10 (by decide) (by decide)) (cF (n 11 (by decide) (by decide)) (cF (n 3 (by decide) (by decide)) key))))))
def TH (base tg pg:Nat):Hnd TS where
 M w S s:=∃F,F.tg=tg/\F.pg=pg/\TermM w base F s/\S=termS F/\s.E.S.L=[]
 R s v s':=s'=evT s v
 ok s v:=(v.k=1\/v.k=4)/\Still (evT s v)/\s.S.areas.length<=1000/\s.rep.length<=1000000/\(s.S.doR (evOf v)).length<=1000000
theorem th_ok (base tg pg:Nat):HndOk (TH base tg pg) base (.func (.func qqt) #[.pointer (some ⟨tg,0,none⟩)] #[]) where
 keep:=by
  rintro w w' S s X ⟨F,e1,e2,hm,rfl,hi⟩ hc hS hf hb;exact ⟨F,e1,e2,hm.keep hc hS (fun k hk=>by obtain ⟨p,hp,_⟩:=hk;rw [hi] at hp;cases hp) hf (q1q hm hc hb),rfl,hi⟩
 lt:=by
  rintro w S s ⟨F,e1,e2,hm,rfl,hi⟩;exact hm.below
 call:=by
  rintro w S s v p d K ⟨F,e1,e2,hm,rfl,hi⟩ ⟨hk,hst,hA,hrl,hrd⟩ hv hK;subst e1;refine qcm (by kernel_rfl) (show qlm (some ⟨F.tg,0,none⟩) ⟨v.k,v.r,v.b,v.pv,strB v.i,p,d⟩ w K from ?_);exact q79 hm hk hv hst hA hrl hrd fun F' w' t=>hK w' (termS F') (evT s v) ⟨F',t.tg,t.pg.trans e2,t.m,rfl,hi⟩ rfl t.chg t.old
structure TPM (w:World) (base:Nat) (F:TmF) (PF:PF) (p:PS) (T:TS):Prop where
 tm:TermM w base F T
 pm:∃fv,ParsM w base PF p fv
 e:PF.pg=F.pg
 dj:∀k,parS PF k->¬termS F k
 ni:T.E.S.L=[]
theorem q2u {PF:PF} {p:PS} (h:TPM w base F PF p T) {q:Slc} {bs:List UInt8} (hq:Rd qal w q bs) (hl:bs.length<=1000000) (hb:∀b∈bs,b.toNat<128) (hqn:∀a,q.a=some a->¬parS PF a.block/\¬termS F a.block/\a.block<w.heap.size)
  (hok:qbq (TH base F.tg F.pg) T (p.eachB bs).2) {K:World->Prop} (hK:∀F' PF' T' w',TPM w' base F' PF' (p.eachB bs).1 T'->Runs (TH base F.tg F.pg) T (p.eachB bs).2 T'->F'.tg=F.tg->Chg (fun k=>parS PF k\/termS F k) w w'->K w'):qh9 (some ⟨F.tg,0,none⟩) q w K:=by
 refine qzt _ _ ?_;unfold qr1;simp only [onPtr_some];refine qar (x:=some ⟨F.pg,0,none⟩) (h.tm.blk.cells 8 _ rfl) ?_;rw [<-h.e];obtain ⟨fv0,hp⟩:=h.pm;have hM:(TH base F.tg F.pg).M w (termS F) T:=⟨F,rfl,rfl,h.tm,rfl,h.ni⟩;refine zaf (th_ok base F.tg F.pg) rfl rfl hp hM h.dj hq hl hb hqn hok fun PF' S' T' w' hp' hM' dj hR hold hc e=>?_;obtain ⟨F',e1,e2,hm,rfl,hi⟩:=hM';exact hK F' PF' T' w' ⟨hm,⟨_,hp'⟩,e.trans (h.e.trans e2.symm),dj,hi⟩ hR e1 hc
theorem ScM.based {base' g:Nat} {SF:ScF} {S:Sc} (h:ScM w base g SF S) (hb:base'<=base):ScM w base' g SF S :=
 ⟨h.blk,le_trans hb h.hg,h.g0.base hb,h.g1.base hb,h.st,⟨le_trans hb h.hst.1,le_trans hb h.hst.2⟩,h.mo,h.pr,⟨le_trans hb h.hm.1,le_trans hb h.hm.2⟩,h.dm,h.ar.base hb,h.dg,h.ok⟩
theorem EngM.based {base' g n:Nat} {KF:KF} {E:KE} (h:EngM w base g KF E n) (hl:E.ld=none) (hb:base'<=base):EngM w base' g KF E n :=
 ⟨h.blk,le_trans hb h.hg,⟨h.st.blk,h.st.map,fun p hp=>(h.st.img p hp).base hb⟩,h.ok,⟨le_trans hb h.hs.1,le_trans hb h.hs.2⟩,⟨h.tb.blk,le_trans hb h.tb.hg,h.tb.own.base hb⟩,h.tl,(fun C s e=>by rw [hl] at e;cases e),h.nl,h.dg,h.ds,h.dt,h.di⟩
def newTm (c:qau):TS:=⟨c,newSc c.Rows.toNat c.Cols.toNat c.Back.toNat,newE c.Quota,0,[],false,[],0,0⟩
theorem zb8 {c:qau} (hc:okC c) (hq:qki c.Quota=0) (hT:Tab w) (h16:4<=w.heap.size) {K:Option Addr->Int->World->Prop} (hK:∀F PF w',TPM w' w.heap.size F PF ps0 (newTm c)->Below w.heap.size w w'->K (some ⟨F.tg,0,none⟩) 0 w'):qys c w K:=by
 refine q67 _ ?_;unfold q23;refine nwb fun w1 h1 hB1 hs1=>qaq (r:=qau.rep) (x:=c) h1.cells (zei (fun hb=>absurd hc hb) fun _ sg SF w2 hsc hB2=>cF rfl ?_);refine lI (x:=c.Quota) ((h1.ext hB2).cells 5 _ rfl) (zdk (fun he=>by rw [hq] at he;cases he) fun _ eg KF w3 hge hen hB3=>?_);have h13:=((h1.ext hB2).ext hB3).drew;refine qaq (r:=qau.rep) (x:=c) h13.cells ?_;refine q5v ?_;unfold q0b;refine q8l ?_;unfold q4m;refine nwb fun w4 h4 hB4 hs4=>nwb fun w5 h5 hB5 hs5=>?_;have B45:Below w3.drew.heap.size w3.drew w5:=bT hB4 hB5;refine ⟨(h13.ext B45).cells,nwb fun w6 h6 hB6 hs6=>?_⟩;have B36:Below w3.heap.size w3 w6:=bT (bT (bdw w3) B45) hB6;have B26:=bT hB3 B36;have B12:=bT hB1 hB2;have B06:=bT B12 B26;have z1:=hB1.size;have z2:=hB2.size;have z3:=hB3.size;have z4:w3.heap.size<=w4.heap.size:=hB4.size;have z5:=hB5.size;have e3:w3.drew.heap.size=w3.heap.size:=rfl;rw [e3] at h4 hs4;have hsc6:=(hsc.ext B26).based (base':=w.heap.size) z1;have hen6:=(hen.ext B36).based (base':=w.heap.size) rfl (by omega);have sb:∀k,scS sg SF k->k<w2.heap.size:=fun k hk=>(hsc.below k hk).2;have eb:∀k,engS eg KF k->w2.heap.size<=k/\k<w3.heap.size:=fun k hk=>hen.below k hk;have ib:∀k,¬imgS (newE c.Quota).S k:=fun k hk=>by obtain ⟨p,hp,_⟩:=hk;cases hp
 refine hK ⟨w5.heap.size,sg,SF,eg,KF,w4.heap.size,⟨none,0,0⟩,⟨none,0,0⟩⟩ ⟨w4.heap.size,w3.heap.size,⟨none,0,0⟩,⟨none,0,0⟩,⟨none,0,0⟩⟩ w6 ⟨⟨h6,by show w.heap.size<=w5.heap.size;omega,hsc6,hen6,Go.Vc.Own.nil _ _ _,Go.Vc.Own.nil _ _ _,fun k hk hk2=>?_,fun k hk hk2=>ib k hk2,(fun k hk=>by cases hk),(fun k hk=>by cases hk),⟨fun hk=>?_,fun hk=>?_⟩,rfl,hT.ext B06,h16⟩,
  ⟨_,(h5.ext hB6),⟨0,0,0,(h4.ext hB5).ext hB6⟩,⟨by show w.heap.size<=w4.heap.size;omega,by show w.heap.size<=w3.heap.size;omega⟩,Go.Vc.Own.nil _ _ _,Go.Vc.Own.nil _ _ _,Go.Vc.Own.nil _ _ _,(fun k hk=>by cases hk),⟨by decide,by decide,by decide,by decide,by decide,by decide⟩⟩,rfl,?_,rfl⟩ B06
 ·have:=sb k hk;have:=eb k hk2;omega
 ·have:=sb _ hk;dsimp only at this;omega
 ·have:=(eb _ hk).2;dsimp only at this;omega
 ·rintro k (rfl | rfl | hk | hk | hk) hs
  ·rcases hs with hs | hs | hs | hs | hs
   ·have:w4.heap.size=w5.heap.size:=hs;omega
   ·have:=sb _ hs;dsimp only at this;omega
   ·have:=(eb _ hs).2;dsimp only at this;omega
   ·cases hs
   ·cases hs
  ·rcases hs with hs | hs | hs | hs | hs
   ·have:w3.heap.size=w5.heap.size:=hs;omega
   ·have:=sb _ hs;dsimp only at this;omega
   ·have:=(eb _ hs).2;dsimp only at this;omega
   ·cases hs
   ·cases hs
  ·cases hk
  ·cases hk
  ·cases hk
end
section
variable {w w':World} {base:Nat} {F F':TmF} {T T':TS}
theorem qo2 {K:Nat->World->Prop} (hK:∀w',Below w.heap.size w w'->K w.heap.size w'):nwM w K:=hK _ ((Below.refl _ w).alloc (le_refl _) _)
theorem qnx {b b':Nat} {ls:List Slc} {xss:List (List Cell)} (h:Lines w b ls xss) (hb:b'<=b):Lines w b' ls xss:=⟨h.1,fun j s xs hj hx=>(h.2 j s xs hj hx).base hb⟩
theorem zav {f:Value} {K:World->Prop} (hK:K w):qb2 ⟨none,0,0⟩ f w K:=by
 refine qe4 _ _ ?_;unfold qcu;refine qjp _ _ _ ?_;unfold qek;refine lpR (fun (st:Int×Int×Unit) w1=>st=(0,20,())/\w1=w) (fun _=>0) ⟨rfl,rfl⟩ ?_;rintro _ w1 ⟨rfl,rfl⟩ I hI;refine cF rfl ?_;refine qgz _ _ _ _ ?_;unfold qdo;refine lpR (fun (st:Int×Unit) w2=>st.1=1/\w2=w1) (fun _=>0) ⟨rfl,rfl⟩ ?_;rintro ⟨i,u⟩ w2 ⟨rfl,rfl⟩ I2 hI2;refine cF rfl ?_;refine lpR (fun (st:Int×Unit) w3=>st.1=20/\w3=w2) (fun _=>0) ⟨rfl,rfl⟩ ?_;rintro ⟨i,u⟩ w3 ⟨rfl,rfl⟩ I3 hI3;exact cF rfl hK
theorem qdv (h:TermM w base F T) (hP:T.E.T=[]) {v:qap} {K:Slc->World->Prop} (hK:∀w',Below w.heap.size w w'->K ⟨none,0,0⟩ w'):qbe (some ⟨F.eg,0,none⟩) v w K:=by
 refine qux _ _ ?_;unfold qm0;refine nwb fun w1 h1 hB1 hs1=>?_;simp only [onPtr_some];have m1:=(h.ext hB1).drew;refine qar (x:=some ⟨F.KF.tg,0,none⟩) (m1.en.blk.cells 2 _ rfl) (qaq (r:=qap.rep) (x:=v) h1.drew.cells ?_);refine qv0 _ _ ?_;unfold qoz;refine nwb fun w2 h2 hB2 hs2=>?_;simp only [onPtr_some];have m2:=m1.ext hB2;refine lSl (x:=F.KF.q) (m2.en.tb.blk.cells 0 _ rfl) ?_;have hn:=m2.en.tb.own.rd.n;rw [hP] at hn;refine lpR (fun (st:Slc×Int×Unit) w3=>st=(⟨none,0,0⟩,0,())/\w3=w2) (fun _=>0) ⟨rfl,rfl⟩ ?_;rintro _ w3 ⟨rfl,rfl⟩ I hI;refine cF (by rw [hn];rfl) (zav (hK _ (bT (bT hB1 (bdw w1)) hB2)))
theorem q7d (h:TermM w base F T) {K:Option Addr->World->Prop} (hK:∀g' r' w',StM w' base g' r' T.E.S->Below w.heap.size w w'->K (some ⟨g',0,none⟩) w'):qkm (some ⟨F.tg,0,none⟩) w K:=by
 refine qxg _ ?_;unfold qpn;simp only [onPtr_some];exact qar (x:=some ⟨F.eg,0,none⟩) (h.blk.cells 7 _ rfl) (q8d h.en fun g' r' w' _ _ hst hB=>hK g' r' w' hst hB)
theorem zck (h:TermM w base F T) (hn:T.n<=900) (hE:T.E.S.L=[]) (hP:T.E.T=[]) {cw ch:Nat} (ecw:T.c.CellW=cw) (ech:T.c.CellH=ch) (lim:1<=cw/\cw<=64/\1<=ch/\ch<=64) {f:Value} {K:qaf->World->Prop}
  (hK:∀s w',ScnM w' w'.heap.size s T.S.g.rows T.S.g.cols cw ch T.S.g.L->s.Places.n=0->s.Row=T.S.c.Row->s.Col=T.S.c.Col->Below w.heap.size w w'->K s w'):qlp (some ⟨F.tg,0,none⟩) f w K:=by
 refine qyh _ _ ?_;unfold qq7;refine nwb fun w1 h1 hB1 hs1=>zdh (h.ext hB1) fun w2 hB2=>?_;refine qt1 (vs:=qce.rep.cells (tview T)) rfl fun w4 h4 hB4 hs4=>?_;have B4:=bT (bT hB1 hB2) hB4;have z1:=hB1.size;have z2:=hB2.size;have z4:=hB4.size;have hm0:=(h.ext B4).drew;have hv0:=h4.drew;have ht0:=((h1.ext hB2).ext hB4).drew;have B04:=bT B4 (bdw w4);have hG:=h.sc.gOk;refine jpO fun J1 hJ1=>?_;have c1:∀{wx},Below w4.drew.heap.size w4.drew wx->wx.cell? (((⟨w2.heap.size,0,none⟩:Addr).add 0).add 1)=some (.int .i64 T.S.g.top):=fun hB=>by rw [qch];exact (hv0.ext hB).cells 1 _ rfl
 have c2:∀{wx},Below w4.drew.heap.size w4.drew wx->wx.cell? (((⟨w2.heap.size,0,none⟩:Addr).add 0).add 2)=some (.int .i64 T.S.g.rows):=fun hB=>by rw [qch];exact (hv0.ext hB).cells 2 _ rfl
 have c3:∀{wx},Below w4.drew.heap.size w4.drew wx->wx.cell? (((⟨w2.heap.size,0,none⟩:Addr).add 0).add 3)=some (.int .i64 T.S.g.cols):=fun hB=>by rw [qch];exact (hv0.ext hB).cells 3 _ rfl
 have c4:∀{wx},Below w4.drew.heap.size w4.drew wx->wx.cell? (((⟨w2.heap.size,0,none⟩:Addr).add 0).add 4)=some (.int .i64 T.S.c.Row):=fun hB=>by rw [qch];exact (hv0.ext hB).cells 4 _ rfl
 have c5:∀{wx},Below w4.drew.heap.size w4.drew wx->wx.cell? (((⟨w2.heap.size,0,none⟩:Addr).add 0).add 5)=some (.int .i64 T.S.c.Col):=fun hB=>by rw [qch];exact (hv0.ext hB).cells 5 _ rfl
 have c6:∀{wx},Below w4.drew.heap.size w4.drew wx->wx.cell? ((⟨w2.heap.size,0,none⟩:Addr).add 6)=some (.int .i64 T.c.CellW):=fun hB=>(hv0.ext hB).cells 6 _ rfl;have c7:∀{wx},Below w4.drew.heap.size w4.drew wx->wx.cell? ((⟨w2.heap.size,0,none⟩:Addr).add 7)=some (.int .i64 T.c.CellH):=fun hB=>(hv0.ext hB).cells 7 _ rfl;have cs:∀{wx},Below w4.drew.heap.size w4.drew wx->qai wx ((⟨w2.heap.size,0,none⟩:Addr).add 0) (qap.rep.cells (tview T).View):=fun hB=>(hv0.ext hB).sub 0 _ rfl;have ct:∀{wx},Below w4.drew.heap.size w4.drew wx->wx.cell? ((⟨F.tg,0,none⟩:Addr).add 7)=some (.pointer (some ⟨F.eg,0,none⟩)):=fun hB=>(hm0.ext hB).blk.cells 7 _ rfl;have B0:=Below.refl w4.drew.heap.size w4.drew;have fin:∀(sb mp:Nat) (q:Slc) (ls:List Slc) (wx:World),Blk wx sb qa5 [(.int .i64 0),(.int .i64 0),(.int .i64 0),(.int .i64 0),(.slice none 0 0),(.slice none 0 0),(.map none),(.int .i64 0),(.bool false),(.int .i64 0),(.int .i64 0)]->Below w4.drew.heap.size w4.drew wx->w4.drew.heap.size<=sb->Go.Vc.Own slE wx w4.drew.heap.size q ls->Lines wx w4.drew.heap.size ls T.S.g.L ->
   stK ⟨sb,0,none⟩ [(.int .i64 T.S.g.rows),(.int .i64 T.S.g.cols),(.int .i64 T.c.CellW),(.int .i64 T.c.CellH),(.slice q.a q.n q.c),(.slice none 0 0),(.map (some mp)),(.int .i64 T.S.g.top),(.bool false),(.int .i64 T.S.c.Row),(.int .i64 T.S.c.Col)] wx fun wy=>J1 (⟨sb,0,none⟩,()) wy:=by
  intro sb mp q ls wx hs hBx hle ho hl;refine qfz hs rfl fun wy hy hcy hsy=>hJ1 _ _ ?_;have By:=b1o hBx hcy hle;have oy:=ho.chg hcy (qbo ho hs (by decide));have ly:=hl.chg hcy fun k cs e hk=>by subst e;exact hs.ne_t hk (by decide) rfl
  have my:=hm0.ext By;refine zan my ?_;rw [qae];refine qah hy (by show 0+8+1<=11;omega) fun wz hz hgz hsz=>?_;have hcz:=Chg.gg hgz;have Bz:=b1o By hcz hle;have oz:=oy.chg hcz (qbo oy hy (by decide));have lz:=ly.chg hcz fun k cs e hk=>by subst e;exact hy.ne_t hk (by decide) rfl
  refine q7d (hm0.ext Bz) fun g' r' w8 hst hB8=>?_;refine zhb hst h.en.ok (by omega) fun iq w9 hiq hB9=>?_;have hin:=hiq.rd.n;rw [hE] at hin;refine lpR (fun (st:Int×Unit) wb=>st.1=0/\wb=w9) (fun _=>0) ⟨rfl,rfl⟩ ?_;rintro ⟨i,u⟩ wb ⟨rfl,rfl⟩ I hI;refine cF (by rw [hin];rfl) ?_;have B9:=bT (bT Bz hB8) hB9;have hs9:=(hz.ext hB8).ext hB9;have o9:=(oz.ext hB8).ext hB9;have l9:=(lz.ext hB8).ext hB9;have ht9:=ht0.ext B9;refine qaq (r:=qaf.rep) (x:=⟨T.S.g.rows,T.S.g.cols,T.c.CellW,T.c.CellH,q,⟨none,0,0⟩,some mp,T.S.g.top,(T.S.modeP 25 true).1,T.S.c.Row,T.S.c.Col⟩) hs9.cells ?_;refine qfu (r:=qaf.rep) (x:=⟨T.S.g.rows,T.S.g.cols,T.c.CellW,T.c.CellH,q,⟨none,0,0⟩,some mp,T.S.g.top,(T.S.modeP 25 true).1,T.S.c.Row,T.S.c.Col⟩) ht9 rfl rfl fun w5 hc5 hs5=>?_;have o5:=o9.chg hc5 (qbo o9 ht9 (by decide));have l5:=l9.chg hc5 fun k cs e hk=>by subst e;exact ht9.ne_t hk (by decide) rfl
  refine hK _ w5 ⟨rfl,rfl,ecw,ech,⟨hG.rows.1,hG.rows.2,hG.cols.1,hG.cols.2,lim⟩,⟨ls,o5.rd,l5.1,fun j s xs hj hx=>⟨(l5.2 j s xs hj hx).rd,fun a ha=>((l5.2 j s xs hj hx).lt a.block (slk.2 ⟨a,ha,rfl⟩)).2⟩⟩,fun a ha=>(o5.lt a.block (slk.2 ⟨a,ha,rfl⟩)).2⟩ rfl rfl rfl ?_;exact b1o (bT B04 B9) hc5 (le_refl _)
 simp only [onPtr_some];refine lI (x:=(T.S.g.rows:Int)) (c2 B0) (lI (x:=(T.S.g.cols:Int)) (c3 B0) (lI (x:=T.c.CellW) (c6 B0) (lI (x:=T.c.CellH) (c7 B0) ?_)));refine qar (x:=some ⟨F.eg,0,none⟩) (ct B0) (qaq (r:=qap.rep) (x:=(tview T).View) (cs B0) ?_);refine lI (x:=T.S.g.top) (c1 B0) (lI (x:=T.S.c.Row) (c4 B0) (lI (x:=T.S.c.Col) (c5 B0) ?_));refine ⟨?_,?_⟩
 ·refine qea (hm0.ext B0) fun q14 ls14 w14 hq14 hl14 b14=>?_;have B14:=bT B0 b14;have hl14:=qnx hl14 B0.size;have hq14:=hq14.base B0.size;refine ⟨c5 B14,c4 B14,c1 B14,cs B14,ct B14,c7 B14,c6 B14,c3 B14,c2 B14,?_⟩;refine ⟨?_,?_⟩
  ·refine qdv (hm0.ext B14) hP fun w15 b15=>?_;have B15:=bT B14 b15;have hq15:=hq14.ext b15;have hl15:=hl14.ext b15;refine ⟨c5 B15,c4 B15,c1 B15,c7 B15,c6 B15,c3 B15,c2 B15,?_⟩;refine ⟨?_,?_⟩
   ·refine qo2 fun w16 b16=>?_;have B16:=bT B15 b16;have hq16:=hq15.ext b16;have hl16:=hl15.ext b16;refine ⟨c5 B16,c4 B16,c1 B16,cs B16,ct B16,c7 B16,c6 B16,c3 B16,c2 B16,?_⟩;refine nwb fun w17 hs17 b17 z17=>?_;have B17:=bT B16 b17;have hq17:=hq16.ext b17;have hl17:=hl16.ext b17;refine ⟨c5 B17,c4 B17,c1 B17,cs B17,ct B17,c7 B17,c6 B17,c3 B17,c2 B17,?_⟩;exact fin w16.heap.size w15.heap.size _ _ _ hs17 B17 B16.size hq17 hl17
   ·refine nwb fun w19 hs19 b19 z19=>?_;have B19:=bT B15 b19;have hq19:=hq15.ext b19;have hl19:=hl15.ext b19;refine ⟨c5 B19,c4 B19,c1 B19,cs B19,ct B19,c7 B19,c6 B19,c3 B19,c2 B19,?_⟩;refine qo2 fun w20 b20=>?_;have B20:=bT B19 b20;have hq20:=hq19.ext b20;have hl20:=hl19.ext b20;have hs20:=hs19.ext b20;refine ⟨c5 B20,c4 B20,c1 B20,cs B20,ct B20,c7 B20,c6 B20,c3 B20,c2 B20,?_⟩;exact fin w15.heap.size w19.heap.size _ _ _ hs20 B20 B15.size hq20 hl20
  ·refine ⟨?_,?_⟩
   ·refine qo2 fun w22 b22=>?_;have B22:=bT B14 b22;have hq22:=hq14.ext b22;have hl22:=hl14.ext b22;refine ⟨c5 B22,c4 B22,c1 B22,cs B22,ct B22,c7 B22,c6 B22,c3 B22,c2 B22,?_⟩;refine ⟨?_,?_⟩
    ·refine qdv (hm0.ext B22) hP fun w23 b23=>?_;have B23:=bT B22 b23;have hq23:=hq22.ext b23;have hl23:=hl22.ext b23;refine ⟨c5 B23,c4 B23,c1 B23,c7 B23,c6 B23,c3 B23,c2 B23,?_⟩;refine nwb fun w24 hs24 b24 z24=>?_;have B24:=bT B23 b24;have hq24:=hq23.ext b24;have hl24:=hl23.ext b24;refine ⟨c5 B24,c4 B24,c1 B24,cs B24,ct B24,c7 B24,c6 B24,c3 B24,c2 B24,?_⟩;exact fin w23.heap.size w14.heap.size _ _ _ hs24 B24 B23.size hq24 hl24
    ·refine nwb fun w26 hs26 b26 z26=>?_;have B26:=bT B22 b26;have hq26:=hq22.ext b26;have hl26:=hl22.ext b26;refine ⟨c5 B26,c4 B26,c1 B26,cs B26,ct B26,c7 B26,c6 B26,c3 B26,c2 B26,?_⟩;refine qdv (hm0.ext B26) hP fun w27 b27=>?_;have B27:=bT B26 b27;have hq27:=hq26.ext b27;have hl27:=hl26.ext b27;have hs27:=hs26.ext b27;refine ⟨c5 B27,c4 B27,c1 B27,c7 B27,c6 B27,c3 B27,c2 B27,?_⟩;exact fin w22.heap.size w14.heap.size _ _ _ hs27 B27 B22.size hq27 hl27
   ·refine nwb fun w29 hs29 b29 z29=>?_;have B29:=bT B14 b29;have hq29:=hq14.ext b29;have hl29:=hl14.ext b29;refine ⟨c5 B29,c4 B29,c1 B29,cs B29,ct B29,c7 B29,c6 B29,c3 B29,c2 B29,?_⟩;refine ⟨?_,?_⟩
    ·refine qdv (hm0.ext B29) hP fun w30 b30=>?_;have B30:=bT B29 b30;have hq30:=hq29.ext b30;have hl30:=hl29.ext b30;have hs30:=hs29.ext b30;refine ⟨c5 B30,c4 B30,c1 B30,c7 B30,c6 B30,c3 B30,c2 B30,?_⟩;refine qo2 fun w31 b31=>?_;have B31:=bT B30 b31;have hq31:=hq30.ext b31;have hl31:=hl30.ext b31;have hs31:=hs30.ext b31;refine ⟨c5 B31,c4 B31,c1 B31,cs B31,ct B31,c7 B31,c6 B31,c3 B31,c2 B31,?_⟩;exact fin w14.heap.size w30.heap.size _ _ _ hs31 B31 B14.size hq31 hl31
    ·refine qo2 fun w33 b33=>?_;have B33:=bT B29 b33;have hq33:=hq29.ext b33;have hl33:=hl29.ext b33;have hs33:=hs29.ext b33;refine ⟨c5 B33,c4 B33,c1 B33,cs B33,ct B33,c7 B33,c6 B33,c3 B33,c2 B33,?_⟩;refine qdv (hm0.ext B33) hP fun w34 b34=>?_;have B34:=bT B33 b34;have hq34:=hq33.ext b34;have hl34:=hl33.ext b34;have hs34:=hs33.ext b34;refine ⟨c5 B34,c4 B34,c1 B34,c7 B34,c6 B34,c3 B34,c2 B34,?_⟩;exact fin w14.heap.size w29.heap.size _ _ _ hs34 B34 B14.size hq34 hl34
 ·refine ⟨?_,?_⟩
  ·refine qo2 fun w36 b36=>?_;have B36:=bT B0 b36;refine ⟨c5 B36,c4 B36,c1 B36,cs B36,ct B36,c7 B36,c6 B36,c3 B36,c2 B36,?_⟩;refine ⟨?_,?_⟩
   ·refine qea (hm0.ext B36) fun q37 ls37 w37 hq37 hl37 b37=>?_;have B37:=bT B36 b37;have hl37:=qnx hl37 B36.size;have hq37:=hq37.base B36.size;refine ⟨c5 B37,c4 B37,c1 B37,cs B37,ct B37,c7 B37,c6 B37,c3 B37,c2 B37,?_⟩;refine ⟨?_,?_⟩
    ·refine qdv (hm0.ext B37) hP fun w38 b38=>?_;have B38:=bT B37 b38;have hq38:=hq37.ext b38;have hl38:=hl37.ext b38;refine ⟨c5 B38,c4 B38,c1 B38,c7 B38,c6 B38,c3 B38,c2 B38,?_⟩;refine nwb fun w39 hs39 b39 z39=>?_;have B39:=bT B38 b39;have hq39:=hq38.ext b39;have hl39:=hl38.ext b39;refine ⟨c5 B39,c4 B39,c1 B39,cs B39,ct B39,c7 B39,c6 B39,c3 B39,c2 B39,?_⟩;exact fin w38.heap.size w4.drew.heap.size _ _ _ hs39 B39 B38.size hq39 hl39
    ·refine nwb fun w41 hs41 b41 z41=>?_;have B41:=bT B37 b41;have hq41:=hq37.ext b41;have hl41:=hl37.ext b41;refine ⟨c5 B41,c4 B41,c1 B41,cs B41,ct B41,c7 B41,c6 B41,c3 B41,c2 B41,?_⟩;refine qdv (hm0.ext B41) hP fun w42 b42=>?_;have B42:=bT B41 b42;have hq42:=hq41.ext b42;have hl42:=hl41.ext b42;have hs42:=hs41.ext b42;refine ⟨c5 B42,c4 B42,c1 B42,c7 B42,c6 B42,c3 B42,c2 B42,?_⟩;exact fin w37.heap.size w4.drew.heap.size _ _ _ hs42 B42 B37.size hq42 hl42
   ·refine nwb fun w44 hs44 b44 z44=>?_;have B44:=bT B36 b44;refine ⟨c5 B44,c4 B44,c1 B44,cs B44,ct B44,c7 B44,c6 B44,c3 B44,c2 B44,?_⟩;refine qea (hm0.ext B44) fun q45 ls45 w45 hq45 hl45 b45=>?_;have B45:=bT B44 b45;have hl45:=qnx hl45 B44.size;have hq45:=hq45.base B44.size;have hs45:=hs44.ext b45;refine ⟨c5 B45,c4 B45,c1 B45,cs B45,ct B45,c7 B45,c6 B45,c3 B45,c2 B45,?_⟩;refine qdv (hm0.ext B45) hP fun w46 b46=>?_;have B46:=bT B45 b46;have hq46:=hq45.ext b46;have hl46:=hl45.ext b46;have hs46:=hs45.ext b46;refine ⟨c5 B46,c4 B46,c1 B46,c7 B46,c6 B46,c3 B46,c2 B46,?_⟩;exact fin w36.heap.size w4.drew.heap.size _ _ _ hs46 B46 B36.size hq46 hl46
  ·refine nwb fun w48 hs48 b48 z48=>?_;have B48:=bT B0 b48;refine ⟨c5 B48,c4 B48,c1 B48,cs B48,ct B48,c7 B48,c6 B48,c3 B48,c2 B48,?_⟩;refine ⟨?_,?_⟩
   ·refine qea (hm0.ext B48) fun q49 ls49 w49 hq49 hl49 b49=>?_;have B49:=bT B48 b49;have hl49:=qnx hl49 B48.size;have hq49:=hq49.base B48.size;have hs49:=hs48.ext b49;refine ⟨c5 B49,c4 B49,c1 B49,cs B49,ct B49,c7 B49,c6 B49,c3 B49,c2 B49,?_⟩;refine ⟨?_,?_⟩
    ·refine qdv (hm0.ext B49) hP fun w50 b50=>?_;have B50:=bT B49 b50;have hq50:=hq49.ext b50;have hl50:=hl49.ext b50;have hs50:=hs49.ext b50;refine ⟨c5 B50,c4 B50,c1 B50,c7 B50,c6 B50,c3 B50,c2 B50,?_⟩;refine qo2 fun w51 b51=>?_;have B51:=bT B50 b51;have hq51:=hq50.ext b51;have hl51:=hl50.ext b51;have hs51:=hs50.ext b51;refine ⟨c5 B51,c4 B51,c1 B51,cs B51,ct B51,c7 B51,c6 B51,c3 B51,c2 B51,?_⟩;exact fin w4.drew.heap.size w50.heap.size _ _ _ hs51 B51 B0.size hq51 hl51
    ·refine qo2 fun w53 b53=>?_;have B53:=bT B49 b53;have hq53:=hq49.ext b53;have hl53:=hl49.ext b53;have hs53:=hs49.ext b53;refine ⟨c5 B53,c4 B53,c1 B53,cs B53,ct B53,c7 B53,c6 B53,c3 B53,c2 B53,?_⟩;refine qdv (hm0.ext B53) hP fun w54 b54=>?_;have B54:=bT B53 b54;have hq54:=hq53.ext b54;have hl54:=hl53.ext b54;have hs54:=hs53.ext b54;refine ⟨c5 B54,c4 B54,c1 B54,c7 B54,c6 B54,c3 B54,c2 B54,?_⟩;exact fin w4.drew.heap.size w49.heap.size _ _ _ hs54 B54 B0.size hq54 hl54
   ·refine qo2 fun w56 b56=>?_;have B56:=bT B48 b56;have hs56:=hs48.ext b56;refine ⟨c5 B56,c4 B56,c1 B56,cs B56,ct B56,c7 B56,c6 B56,c3 B56,c2 B56,?_⟩;refine qea (hm0.ext B56) fun q57 ls57 w57 hq57 hl57 b57=>?_;have B57:=bT B56 b57;have hl57:=qnx hl57 B56.size;have hq57:=hq57.base B56.size;have hs57:=hs56.ext b57;refine ⟨c5 B57,c4 B57,c1 B57,cs B57,ct B57,c7 B57,c6 B57,c3 B57,c2 B57,?_⟩;refine qdv (hm0.ext B57) hP fun w58 b58=>?_;have B58:=bT B57 b58;have hq58:=hq57.ext b58;have hl58:=hl57.ext b58;have hs58:=hs57.ext b58;refine ⟨c5 B58,c4 B58,c1 B58,c7 B58,c6 B58,c3 B58,c2 B58,?_⟩;exact fin w4.drew.heap.size w48.heap.size _ _ _ hs58 B58 B0.size hq58 hl58
theorem q5q (h:TermM w base F T) (hn:T.n<=900) (hE:T.E.S.L=[]) (hP:T.E.T=[]) {cw ch:Nat} (ecw:T.c.CellW=cw) (ech:T.c.CellH=ch) (lim:1<=cw/\cw<=64/\1<=ch/\ch<=64) (hbr:Bare T.S.g.L) (hch:Chars T.S.g.L)
  (hW2:T.S.g.cols*cw<=16384) (hH2:T.S.g.rows*ch<=16384) (hA:T.S.g.cols*cw*(T.S.g.rows*ch)<=67108864) (br:-1000000<=T.S.c.Row/\T.S.c.Row<=1000000) (bc:-1000000<=T.S.c.Col/\T.S.c.Col<=1000000) {K:qaa->Int->World->Prop}
  (hK:∀m w',m.W=((T.S.g.cols*cw:Nat):Int)->m.H=((T.S.g.rows*ch:Nat):Int)->Below w.heap.size w w'->K m 0 w'):qhw (some ⟨F.tg,0,none⟩) w K:=by
 refine qt3 _ ?_;unfold qlu;refine nwb fun w1 h1 hB1 hs1=>?_;simp only [onPtr_some];have m1:=h.ext hB1;refine qar (x:=some ⟨F.eg,0,none⟩) (m1.blk.cells 7 _ rfl) ?_;refine zck m1 hn hE hP ecw ech lim fun s w2 hs hp er ec hB2=>?_;refine zdr hs hbr hch hp (by rw [er];exact br) (by rw [ec];exact bc) (le_refl _) hW2 hH2 hA fun m w3 hw hh hB3=>?_;have h13:=(h1.ext hB2).ext hB3;exact qfu (r:=qaa.rep) (x:=m) h13 rfl rfl fun w4 hc4 hs4=>hK m w4 hw hh (b1o (bT (bT hB1 hB2) hB3) hc4 (le_refl _))
end
end Go.Proofs.YtcigiaecigedmaaGreatDoor
