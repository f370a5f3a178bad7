import Derived.Test.YtcigiaecigedmaaGreatDoorP2
import Derived.Test.YtcigiaecigedmaaGreatDoorP1
import Derived.Laws.Runes
set_option linter.unusedVariables false
namespace Go.Proofs.YtcigiaecigedmaaGreatDoor
open Go.Vc Go.RowKit
open _root_.Int (toNat_natCast)
open IntKind (i64)
open Lib (itoa)
open _root_.List (length_append length_cons length_map length_nil length_take mem_append take_length)
open _root_.Nat (le_refl zero_le)
theorem zdq {xs:List Cell} (h:Plain xs) (hl:xs.length<=1000):qa6 xs xs.length=xs:=by
 have e:min 1000 (max 0 ((xs.length:Nat):Int))=xs.length:=by omega
 unfold qa6;dsimp only;rw [e,if_pos (Int.le_refl _),qdu h,toNat_natCast,take_length,qdu h]
theorem zep {xs:List Cell} (h:Plain xs) {n:Nat} (hl:xs.length<=n) (hn:n<=1000):qa6 xs n=xs++List.replicate (n-xs.length) (qb8 a0):=by
 have e:min 1000 (max 0 (n:Int))=n:=by omega
 unfold qa6;dsimp only;rw [e,qdu h];split
 ·have:n=xs.length:=by omega
  subst this;rw [toNat_natCast,take_length,qdu h,Nat.sub_self];simp
 ·rw [show ((n:Int)-xs.length).toNat=n-xs.length by omega];rfl
theorem zdj {xs:List Cell} (h:Plain xs) {n:Nat} (hl:n<=xs.length) (hn:n<=1000):qa6 xs n=xs.take n:=by
 have e:min 1000 (max 0 (n:Int))=n:=by omega
 unfold qa6;dsimp only;rw [e,qdu h,if_pos (by omega),toNat_natCast,qdu (qky h n)]
theorem zbq {n:Nat} (h:n<=1000) (a:Attr):newL n a=List.replicate n (qb8 a):=by
 rw [newL,if_neg (by omega)];simp
section
variable {w:World} {base:Nat} {f:Foot} {S:GS}
end
theorem q74 {most:Nat} {old:List (List Cell)} {x:List Cell} (h:old.length<=most):(pushL most old x).length<=most:=by
 unfold pushL;split
 ·exact h
 ·split
  ·simp;omega
  ·simp;omega
theorem q5s {most:Nat} (xs:List (List Cell)):∀{old:List (List Cell)},old.length<=most->(qi3 most old xs).length<=most:=by
 induction xs with
 | nil=>intro old h;exact h
 | cons x r ih=>intro old h;exact ih (q74 h)
theorem zau {S:GS} {top past n:Int} {a:Attr} (h:S.old.length<=S.most):(qcr S top past n a).old.length<=S.most:=by
 unfold qcr;split
 ·exact h
 ·split
  ·exact q5s _ h
  ·exact h
structure GOk (S:GS):Prop where
 len:S.L.length=S.rows
 rows:1<=S.rows/\S.rows<=1000
 cols:1<=S.cols/\S.cols<=1000
 L:∀xs∈S.L,qfr xs=true/\xs.length=S.cols/\okR xs
 old:∀xs∈S.old,xs.length<=1000/\okR xs
 olen:S.old.length<=S.most
 most:S.most<=16384
theorem zdt (xs:List Cell) (n:Int):qfr (qa6 xs n)=true:=by
 unfold qa6;dsimp only;split
 ·exact q4o _
 ·exact q58 (q4o _) _ _
theorem qnp {n:Nat} (h:n<=1000) (a:Attr):qfr (newL n a)=true/\(newL n a).length=n/\okR (newL n a):=by
 refine ⟨zel _ _,q9l h a,?_⟩;rw [zbq h];exact qsh _ _
theorem q3u {xs:List Cell} {n:Nat} (h0:n<=1000) (h:okR xs):qfr (qa6 xs n)=true/\(qa6 xs n).length=n/\okR (qa6 xs n):=by
 refine ⟨zdt _ _,?_,zhv h _⟩;rw [q93];omega
theorem zfr {most:Nat} {old:List (List Cell)} {x y:List Cell} (h:y∈pushL most old x):y∈old\/y=x:=by
 unfold pushL at h;split at h
 ·exact .inl h
 ·split at h
  ·rcases mem_append.1 h with h | h
   ·exact .inl h
   ·exact .inr (List.mem_singleton.1 h)
  ·rcases mem_append.1 h with h | h
   ·exact .inl (List.mem_of_mem_tail h)
   ·exact .inr (List.mem_singleton.1 h)
theorem q9u {most:Nat} (xs:List (List Cell)):∀{old:List (List Cell)} {y:List Cell},y∈qi3 most old xs->y∈old\/y∈xs:=by
 induction xs with
 | nil=>intro old y h;exact .inl h
 | cons x r ih =>
  intro old y h;rcases ih (old:=pushL most old x) h with h | h
  ·rcases zfr h with h | h
   ·exact .inl h
   ·exact .inr (by simp [h])
  ·exact .inr (by simp [h])
section
variable {S:GS}
theorem GOk.set (h:GOk S) (i:Nat) {xs:List Cell} (hx:qfr xs=true/\xs.length=S.cols/\okR xs):GOk { S with L:=S.L.set i xs }:=by
 refine ⟨by show (S.L.set i xs).length=_;rw [List.length_set];exact h.len,h.rows,h.cols,fun ys hy=>?_,h.old,h.olen,h.most⟩;rcases List.mem_or_eq_of_mem_set hy with hy | hy
 ·exact h.L ys hy
 ·rw [hy];exact hx
theorem GOk.clear (h:GOk S) (a:Attr):GOk { S with L:=List.replicate S.rows (newL S.cols a) }:=by
 refine ⟨by simp,h.rows,h.cols,fun ys hy=>?_,h.old,h.olen,h.most⟩;rw [List.eq_of_mem_replicate hy];exact qnp h.cols.2 a
theorem GOk.forget (h:GOk S):GOk { S with old:=[] }:=⟨h.len,h.rows,h.cols,h.L,(fun xs hx=>by cases hx),zero_le _,h.most⟩
theorem q9x {cols:Nat} {L:List (List Cell)} {top past n:Int} {a:Attr} {xs:List Cell} (h:xs∈qpw cols L top past n a):xs∈L\/xs=newL cols a:=by
 unfold qpw at h;dsimp only at h;split at h
 ·simp only [mem_append] at h;rcases h with ((h | h) | h) | h
  ·exact .inl (List.mem_of_mem_take h)
  ·exact .inl (List.mem_of_mem_take (List.mem_of_mem_drop h))
  ·exact .inr (List.eq_of_mem_replicate h)
  ·exact .inl (List.mem_of_mem_drop h)
 ·simp only [mem_append] at h;rcases h with ((h | h) | h) | h
  ·exact .inl (List.mem_of_mem_take h)
  ·exact .inr (List.eq_of_mem_replicate h)
  ·exact .inl (List.mem_of_mem_take (List.mem_of_mem_drop h))
  ·exact .inl (List.mem_of_mem_drop h)
theorem GOk.scroll (h:GOk S) (top past n:Int) (a:Attr):GOk (qcr S top past n a):=by
 obtain ⟨hl,hr,hc,hm⟩:=qhp (top:=top) (past:=past) (n:=n) (a:=a) h.len;have hold:=zau (top:=top) (past:=past) (n:=n) (a:=a) h.olen;refine ⟨by rw [hl,hr],by rw [hr];exact h.rows,by rw [hc];exact h.cols,fun xs hx=>?_,fun xs hx=>?_,by rw [hm];exact hold,by rw [hm];exact h.most⟩
 ·rw [hc];have:xs∈S.L\/xs=newL S.cols a:=by
   unfold qcr at hx;split at hx
   ·exact .inl hx
   ·split at hx<;>exact q9x hx
  rcases this with hx | rfl
  ·exact h.L xs hx
  ·exact qnp h.cols.2 a
 ·have:xs∈S.old\/xs∈S.L:=by
   unfold qcr at hx;split at hx
   ·exact .inl hx
   ·split at hx
    ·rcases q9u _ hx with hx | hx
     ·exact .inl hx
     ·exact .inr (List.mem_of_mem_take hx)
    ·exact .inl hx
  rcases this with hx | hx
  ·exact h.old xs hx
  ·obtain ⟨_,h2,h3⟩:=h.L xs hx;exact ⟨by rw [h2];exact h.cols.2,h3⟩
theorem GOk.resize (h:GOk S) {rows cols:Nat} {row:Int} (hr:1<=rows/\rows<=1000) (hc:1<=cols/\cols<=1000):GOk (qbx S rows cols row):=by
 have h1:GOk (qm8 S cols):=by
  refine ⟨by show (S.L.map _).length=S.rows;rw [length_map];exact h.len,h.rows,hc,fun xs hx=>?_,h.old,h.olen,h.most⟩;obtain ⟨ys,hy,rfl⟩:=List.mem_map.1 hx;exact q3u hc.2 (h.L ys hy).2.2
 have h2:GOk (qb6 S rows cols row):=by
  unfold qb6;split
  ·exact h1.scroll _ _ _ _
  ·exact h1
 have e:(qb6 S rows cols row).rows=S.rows/\(qb6 S rows cols row).cols=cols:=by
  unfold qb6;split
  ·have:=qhp (top:=0) (past:=S.rows) (n:=row+1-rows) (a:=⟨0,0,0⟩) h1.len;exact ⟨this.2.1,this.2.2.1⟩
  ·exact ⟨rfl,rfl⟩
 unfold qbx;generalize qb6 S rows cols row=S2 at *;refine ⟨?_,hr,by show 1<=S2.cols/\S2.cols<=1000;exact h2.cols,fun xs hx=>?_,h2.old,h2.olen,h2.most⟩
 ·show (S2.L.take rows++List.replicate (rows-S.rows) (newL cols ⟨0,0,0⟩)).length=rows;have:=h2.len;simp;omega
 ·have hx:xs∈S2.L.take rows++List.replicate (rows-S.rows) (newL cols ⟨0,0,0⟩):=hx;rcases mem_append.1 hx with hx | hx
  ·exact h2.L xs (List.mem_of_mem_take hx)
  ·rw [List.eq_of_mem_replicate hx];show _/\_=S2.cols/\_;rw [e.2];exact qnp hc.2 _
theorem GOk.new {rows cols most:Nat} (hr:1<=rows/\rows<=1000) (hc:1<=cols/\cols<=1000) (hm:most<=16384):GOk (gs0 rows cols most):=by
 refine ⟨by simp [gs0],hr,hc,fun xs hx=>?_,(fun xs hx=>by cases hx),zero_le _,hm⟩;rw [List.eq_of_mem_replicate hx];exact qnp hc.2 _
end
theorem GridM.ty {w:World} {base:Nat} {f:Foot} {S:GS} (h:GridM w base f S):∀k,gridS f k->∃t cs,Blk w k t cs/\(t=qec\/t=qa0\/t=qa8):=by
 obtain ⟨ls,ho,hl⟩:=h.row;obtain ⟨at_,gone,ls',xss,hb,ho',hl',hbr,e,hm,ha⟩:=h.ring;rintro k (rfl | rfl | hk | hk)
 ·exact ⟨_,_,h.blk,.inl rfl⟩
 ·exact ⟨_,_,hb,.inr (.inl rfl)⟩
 ·obtain ⟨cs,hcs⟩:=ho.blk_t hk;exact ⟨_,_,hcs,.inr (.inr rfl)⟩
 ·obtain ⟨cs,hcs⟩:=ho'.blk_t hk;exact ⟨_,_,hcs,.inr (.inr rfl)⟩
set_option maxRecDepth 400000
def encO:Bool->Value:=fun b=>.bool b
structure ScF where
 f0:Foot
 f1:Foot
 tg:Nat
 tr:Nat
 mm:Nat
 mp:Nat
 ar:Slc
def ScF.f (F:ScF) (alt:Bool):Foot:=if alt then F.f1 else F.f0
def ScF.put (F:ScF) (alt:Bool) (f:Foot):ScF:=if alt then { F with f1:=f } else { F with f0:=f }
def scX (F:ScF) (S:Sc):qab:=⟨⟨some ⟨F.f0.g,0,none⟩,some ⟨F.f1.g,0,none⟩⟩,if S.alt then 1 else 0,S.c,⟨S.s0,S.s1⟩,some F.mm,some F.mp,S.top,S.past,some ⟨F.tg,0,none⟩,S.char,F.ar⟩
def scS (g:Nat) (F:ScF) (k:Nat):Prop:=k=g\/gridS F.f0 k\/gridS F.f1 k\/k=F.tg\/k=F.tr\/k=F.mm\/k=F.mp\/F.ar.blk=some k
structure ScOk (S:Sc):Prop where
 g0:GOk S.g0
 g1:GOk S.g1
 rows:S.g1.rows=S.g0.rows
 cols:S.g1.cols=S.g0.cols
 row:0<=S.c.Row/\S.c.Row<(S.g0.rows:Int)
 col:0<=S.c.Col/\S.c.Col<(S.g0.cols:Int)
 shift:S.c.Shift=0\/S.c.Shift=1
 sh0:S.s0.c.Shift=0\/S.s0.c.Shift=1
 sh1:S.s1.c.Shift=0\/S.s1.c.Shift=1
 top:0<=S.top/\S.top<S.past/\S.past<=(S.g0.rows:Int)
 marg:2<=S.g0.rows->S.top+2<=S.past
 stops:S.stops.length=S.g0.cols
structure ScM (w:World) (base g:Nat) (F:ScF) (S:Sc):Prop where
 blk:Blk w g qa1 (qab.rep.cells (scX F S))
 hg:base<=g
 g0:GridM w base F.f0 S.g0
 g1:GridM w base F.f1 S.g1
 st:StopsM w F.tg F.tr S.stops
 hst:base<=F.tg/\base<=F.tr
 mo:MapM encO w F.mm S.modes
 pr:MapM encO w F.mp S.priv
 hm:base<=F.mm/\base<=F.mp
 dm:F.mm≠F.mp/\F.tr≠F.mm/\F.tr≠F.mp
 ar:Go.Vc.Own qgh w base F.ar S.areas
 dg:∀k,gridS F.f0 k->¬gridS F.f1 k
 ok:ScOk S
section
variable {w w':World} {base g:Nat} {F:ScF} {S S':Sc}
theorem qs2 {f:Foot} {G:GS} (h:GridM w base f G) {k:Nat} (hk:gridS f k) {t:TypeId} {cs:List Value} (hb:Blk w k t cs):t=qec\/t=qa0\/t=qa8:=by
 obtain ⟨t',cs',hb',ht⟩:=h.ty k hk;by_cases e:t=t'
 ·rw [e];exact ht
 ·exact absurd rfl (hb.ne_t hb' e)
theorem qb7 {V:Type} {enc:V->Value} {r:Nat} {L:List (Int×V)} (h:MapM enc w r L) {k:Nat} {t:TypeId} {cs:List Value} (hb:Blk w k t cs):k≠r:=fun e=>h.ne_blk hb e.symm
theorem ScM.of_g (h:ScM w base g F S):∀k,(gridS F.f0 k\/gridS F.f1 k\/k=F.tg\/k=F.tr\/k=F.mm\/k=F.mp\/F.ar.blk=some k)->k≠g:=by
 rintro k (hk | hk | rfl | rfl | rfl | rfl | hk) rfl
 ·have:=qs2 h.g0 hk h.blk;revert this;decide
 ·have:=qs2 h.g1 hk h.blk;revert this;decide
 ·exact h.blk.ne_t h.st.blk (by decide) rfl
 ·exact qb7 h.st.map h.blk rfl
 ·exact qb7 h.mo h.blk rfl
 ·exact qb7 h.pr h.blk rfl
 ·obtain ⟨cs,hcs⟩:=h.ar.blk_t hk;exact h.blk.ne_t hcs (by decide) rfl
theorem ScM.gridF (h:ScM w base g F S) (alt:Bool):∃G,GridM w base (F.f alt) G:=by
 cases alt
 ·exact ⟨_,h.g0⟩
 ·exact ⟨_,h.g1⟩
theorem ScM.of_grid (h:ScM w base g F S) (alt:Bool):∀k,gridS (F.f alt) k->k≠g/\¬gridS (F.f (!alt)) k/\k≠F.tg/\k≠F.tr/\k≠F.mm/\k≠F.mp/\F.ar.blk≠some k:=by
 intro k hk;obtain ⟨G,hG⟩:=h.gridF alt;obtain ⟨t,cs,hb,ht⟩:=hG.ty k hk;refine ⟨h.of_g k (by cases alt;exact .inl hk;exact .inr (.inl hk)),?_,?_,qb7 h.st.map hb,qb7 h.mo hb,qb7 h.pr hb,?_⟩
 ·cases alt
  ·exact h.dg k hk
  ·exact fun hk'=>h.dg k hk' hk
 ·rintro rfl;exact hb.ne_t h.st.blk (by rcases ht with rfl | rfl | rfl<;>decide) rfl
 ·intro e;obtain ⟨cs',hcs⟩:=h.ar.blk_t e;exact hb.ne_t hcs (by rcases ht with rfl | rfl | rfl<;>decide) rfl
theorem ScM.notC (h:ScM w base g F S):∀k cs,scS g F k->¬Blk w k qao cs:=by
 rintro k cs (rfl | hk | hk | rfl | rfl | rfl | rfl | hk) hb
 ·exact h.blk.ne_t hb (by decide) rfl
 ·exact h.g0.notC k cs hk hb
 ·exact h.g1.notC k cs hk hb
 ·exact h.st.blk.ne_t hb (by decide) rfl
 ·exact qb7 h.st.map hb rfl
 ·exact qb7 h.mo hb rfl
 ·exact qb7 h.pr hb rfl
 ·obtain ⟨cs',hcs⟩:=h.ar.blk_t hk;exact hcs.ne_t hb (by decide) rfl
theorem ScM.keep {T:Nat->Prop} (h:ScM w base g F S) (hc:Chg T w w') (hT:∀k,scS g F k->¬T k) (hC:∀k cs,T k->¬Blk w k qao cs):ScM w' base g F S :=
 ⟨h.blk.chg hc (hT _ (.inl rfl)),h.hg,h.g0.chg hc (fun k hk=>hT k (.inr (.inl hk))) hC,h.g1.chg hc (fun k hk=>hT k (.inr (.inr (.inl hk)))) hC,
  h.st.keep hc (hT _ (.inr (.inr (.inr (.inl rfl))))) (hT _ (.inr (.inr (.inr (.inr (.inl rfl)))))),h.hst,h.mo.chg hc (hT _ (.inr (.inr (.inr (.inr (.inr (.inl rfl))))))),
  h.pr.chg hc (hT _ (.inr (.inr (.inr (.inr (.inr (.inr (.inl rfl)))))))),h.hm,h.dm,h.ar.chg hc fun k hk=>hT k (.inr (.inr (.inr (.inr (.inr (.inr (.inr hk))))))),h.dg,h.ok⟩
theorem ScM.ext (h:ScM w base g F S) (hB:Below w.heap.size w w'):ScM w' base g F S:=h.keep (Chg.of_ext (S:=fun _=>False) hB) (fun _ _ h=>h) fun _ _ h=>h.elim
theorem ScM.drew (h:ScM w base g F S):ScM w.drew base g F S:=h.ext ((Below.refl _ w).drew)
theorem ScM.below (h:ScM w base g F S):∀k,scS g F k->base<=k/\k<w.heap.size:=by
 rintro k (rfl | hk | hk | rfl | rfl | rfl | rfl | hk)
 ·exact ⟨h.hg,h.blk.lt⟩
 ·exact h.g0.below k hk
 ·exact h.g1.below k hk
 ·exact ⟨h.hst.1,h.st.blk.lt⟩
 ·exact ⟨h.hst.2,h.st.map.lt⟩
 ·exact ⟨h.hm.1,h.mo.lt⟩
 ·exact ⟨h.hm.2,h.pr.lt⟩
 ·exact h.ar.lt k hk
theorem ScM.struct (h:ScM w base g F S) (hc:Chg (fun k=>k=g) w w') (hb:Blk w' g qa1 (qab.rep.cells (scX F S'))) (e0:S'.g0=S.g0) (e1:S'.g1=S.g1) (es:S'.stops=S.stops) (em:S'.modes=S.modes) (ep:S'.priv=S.priv) (ea:S'.areas=S.areas) (ok:ScOk S'):ScM w' base g F S':=by
 have hC:∀k cs,k=g->¬Blk w k qao cs:=fun k cs hk hcs=>h.notC k cs (.inl hk) hcs;refine ⟨hb,h.hg,?_,?_,?_,h.hst,?_,?_,h.hm,h.dm,?_,h.dg,ok⟩
 ·rw [e0];exact h.g0.chg hc (fun k hk=>h.of_g k (.inl hk)) hC
 ·rw [e1];exact h.g1.chg hc (fun k hk=>h.of_g k (.inr (.inl hk))) hC
 ·rw [es];exact h.st.keep hc (h.of_g _ (.inr (.inr (.inl rfl)))) (h.of_g _ (.inr (.inr (.inr (.inl rfl)))))
 ·rw [em];exact h.mo.chg hc (h.of_g _ (.inr (.inr (.inr (.inr (.inl rfl))))))
 ·rw [ep];exact h.pr.chg hc (h.of_g _ (.inr (.inr (.inr (.inr (.inr (.inl rfl)))))))
 ·rw [ea];exact h.ar.chg hc fun k hk=>h.of_g k (.inr (.inr (.inr (.inr (.inr (.inr hk))))))
theorem ScM.grid (h:ScM w base g F S) {f':Foot} {G':GS} (hg:GridM w' base f' G') (hto:(F.f S.alt).to f' w.heap.size) (hc:Chg (gridS (F.f S.alt)) w w') (ok:ScOk (S.withG G')):ScM w' base g (F.put S.alt f') (S.withG G'):=by
 have hC:∀k cs,gridS (F.f S.alt) k->¬Blk w k qao cs:=fun k cs hk hcs=>h.notC k cs (by cases hS:S.alt<;>rw [hS] at hk;exact .inr (.inl hk);exact .inr (.inr (.inl hk))) hcs;have hp:=h.of_grid S.alt;have hstep:∀k,gridS f' k->gridS (F.f S.alt) k\/w.heap.size<=k:=hto.old;have hgf:=hto.g;have hblk:=h.blk.chg hc fun e=>(hp g e).1 rfl;have hst:=h.st.keep hc (fun e=>(hp _ e).2.2.1 rfl) (fun e=>(hp _ e).2.2.2.1 rfl);have hmo:=h.mo.chg hc (fun e=>(hp _ e).2.2.2.2.1 rfl);have hpr:=h.pr.chg hc (fun e=>(hp _ e).2.2.2.2.2.1 rfl);have har:=h.ar.chg hc fun k hk e=>(hp k e).2.2.2.2.2.2 hk;cases hS:S.alt
 ·rw [hS] at hp hstep hgf hc hC;have e1:S.withG G'={ S with g0:=G' }:=by unfold Sc.withG;rw [hS];rfl
  rw [e1] at ok ⊢;refine ⟨?_,h.hg,hg,h.g1.chg hc (fun k hk e=>(hp k e).2.1 hk) hC,hst,h.hst,hmo,hpr,h.hm,h.dm,har,fun k hk hk'=>?_,ok⟩
  ·have e2:scX (F.put false f') { S with g0:=G' }=scX F S:=by
    unfold scX ScF.put;dsimp only;rw [if_neg (by decide)];dsimp only;rw [hgf];rfl
   rw [e2];exact hblk
  ·rcases hstep k hk with h2 | h2
   ·exact h.dg k h2 hk'
   ·have:=(h.g1.below k hk').2;omega
 ·rw [hS] at hp hstep hgf hc hC;have e1:S.withG G'={ S with g1:=G' }:=by unfold Sc.withG;rw [hS];rfl
  rw [e1] at ok ⊢;refine ⟨?_,h.hg,h.g0.chg hc (fun k hk e=>(hp k e).2.1 hk) hC,hg,hst,h.hst,hmo,hpr,h.hm,h.dm,har,fun k hk hk'=>?_,ok⟩
  ·have e2:scX (F.put true f') { S with g1:=G' }=scX F S:=by
    unfold scX ScF.put;dsimp only;rw [if_pos rfl];dsimp only;rw [hgf];rfl
   rw [e2];exact hblk
  ·rcases hstep k hk' with h2 | h2
   ·exact h.dg k hk h2
   ·have:=(h.g0.below k hk).2;omega
structure ScT (base g:Nat) (w:World) (F F':ScF) (S':Sc) (w':World):Prop where
 m:ScM w' base g F' S'
 old:∀k,scS g F' k->scS g F k\/w.heap.size<=k
 chg:Chg (scS g F) w w'
theorem ScT.refl (h:ScM w base g F S):ScT base g w F F S w:=⟨h,fun k hk=>.inl hk,Chg.refl _ _⟩
theorem ScT.trans {w1 w2:World} {F1 F2:ScF} {S1 S2:Sc} (h:ScT base g w F F1 S1 w1) (h2:ScT base g w1 F1 F2 S2 w2):ScT base g w F F2 S2 w2:=by
 have hs:=h.chg.size;refine ⟨h2.m,fun k hk=>?_,h.chg.trans h2.chg fun i hi hk=>?_⟩
 ·rcases h2.old k hk with h3 | h3
  ·exact h.old k h3
  ·exact .inr (by omega)
 ·rcases h.old i hk with h3 | h3
  ·exact h3
  ·omega
theorem ScT.ext {w1 w2:World} {F1:ScF} {S1:Sc} (h:ScT base g w F F1 S1 w1) (hB:Below w1.heap.size w1 w2):ScT base g w F F1 S1 w2 :=
 h.trans ⟨h.m.ext hB,fun k hk=>.inl hk,Chg.of_ext hB⟩
theorem ScT.of_ext (h:ScM w base g F S) (hB:Below w.heap.size w w'):ScT base g w F F S w':=(ScT.refl h).ext hB
theorem ScT.drew {F1:ScF} {S1:Sc} (h:ScT base g w F F1 S1 w'):ScT base g w F F1 S1 w'.drew:=h.ext ((Below.refl _ w').drew)
theorem ScT.mk_struct (h:ScM w base g F S) (hc:Chg (fun k=>k=g) w w') (hb:Blk w' g qa1 (qab.rep.cells (scX F S'))) (e0:S'.g0=S.g0) (e1:S'.g1=S.g1) (es:S'.stops=S.stops) (em:S'.modes=S.modes) (ep:S'.priv=S.priv) (ea:S'.areas=S.areas) (ok:ScOk S'):ScT base g w F F S' w' :=
 ⟨h.struct hc hb e0 e1 es em ep ea ok,fun k hk=>.inl hk,hc.mono fun i hi e=>.inl e⟩
theorem ScT.mk_grid (h:ScM w base g F S) {f':Foot} {G':GS} (hg:GridM w' base f' G') (hto:(F.f S.alt).to f' w.heap.size) (hc:Chg (gridS (F.f S.alt)) w w') (ok:ScOk (S.withG G')):ScT base g w F (F.put S.alt f') (S.withG G') w':=by
 refine ⟨h.grid hg hto hc ok,fun k hk=>?_,hc.mono fun i hi e=>?_⟩
 ·have hstep:=hto.old;revert hk hstep;unfold ScF.put ScF.f;cases S.alt
  ·rintro (rfl | hk | hk | hk) hstep
   ·exact .inl (.inl rfl)
   ·rcases hstep k hk with h2 | h2
    ·exact .inl (.inr (.inl h2))
    ·exact .inr h2
   ·exact .inl (.inr (.inr (.inl hk)))
   ·exact .inl (.inr (.inr (.inr hk)))
  ·rintro (rfl | hk | hk | hk) hstep
   ·exact .inl (.inl rfl)
   ·exact .inl (.inr (.inl hk))
   ·rcases hstep k hk with h2 | h2
    ·exact .inl (.inr (.inr (.inl h2)))
    ·exact .inr h2
   ·exact .inl (.inr (.inr (.inr hk)))
 ·revert e;unfold ScF.f;cases S.alt
  ·exact fun e=>.inr (.inl e)
  ·exact fun e=>.inr (.inr (.inl e))
theorem ScM.gOk (h:ScM w base g F S):GOk S.g:=by
 unfold Sc.g;cases S.alt
 ·exact h.ok.g0
 ·exact h.ok.g1
theorem ScM.gM (h:ScM w base g F S):GridM w base (F.f S.alt) S.g:=by
 unfold Sc.g ScF.f;cases S.alt
 ·exact h.g0
 ·exact h.g1
theorem ScOk.grows (h:ScOk S):S.g.rows=S.g0.rows/\S.g.cols=S.g0.cols:=by
 unfold Sc.g;cases S.alt
 ·exact ⟨rfl,rfl⟩
 ·exact ⟨h.rows,h.cols⟩
theorem ScOk.gOk (h:ScOk S):GOk S.g:=by
 unfold Sc.g;cases S.alt
 ·exact h.g0
 ·exact h.g1
end
theorem qav (w:World):Below w.heap.size w w.drew:=(Below.refl _ w).drew
theorem qaz {w w1 w2:World} (h:Below w.heap.size w w1) (h2:Below w1.heap.size w1 w2):Below w.heap.size w w2:=h.trans (h2.mono h.size)
theorem zcl {zs vs:List Value} (hl:vs.length=zs.length):putL zs 0 vs=vs:=by
 refine List.ext_getElem? fun m=>?_;rw [qmo vs zs 0 m (by omega)];by_cases hm:m<vs.length
 ·rw [if_pos (by omega)];rfl
 ·rw [if_neg (by omega),List.getElem?_eq_none (by omega),List.getElem?_eq_none (by omega)]
theorem qfo {g:Nat} {t:TypeId} {vs us:List Value} {w:World} {K:World->Prop} (h:Blk w g t vs) (hl:us.length=vs.length) (hK:∀w',Blk w' g t us->Chg (fun k=>k=g) w w'->w'.heap.size=w.heap.size->K w'):stK ⟨g,0,none⟩ us w K :=
 qah h (by omega) fun w' hb hg hs=>hK w' (by rw [zcl hl] at hb;exact hb) (Chg.gg hg) hs
theorem qy3 {r:Rep} {g:Nat} {t:TypeId} {vs us:List Value} {x:r.T} {w:World} {K:r.T->World->Prop} (h:Blk w g t vs) (hus:r.cells x=us) (hl:us.length=vs.length) (hK:∀w',Chg (fun k=>k=g) w w'->w'.heap.size=w.heap.size->K x w') :
  stK ⟨g,0,none⟩ us w fun w'=>ldS r ⟨g,0,none⟩ w' fun y=>K y w' :=
 qfo h hl fun w' hb hc hs=>qaq (x:=x) (by rw [hus];exact hb.cells) (hK w' hc hs)
theorem qbj {w w1 w2:World} {g:Nat} (h:Below w.heap.size w w1) (hc:Chg (fun k=>k=g) w1 w2) (hg:w.heap.size<=g):Below w.heap.size w w2 :=
 h.trans (hc.below h.size fun i hi e=>by omega)
theorem qkt {v lo hi:Int} (h:lo<=hi):lo<=cutP v lo hi/\cutP v lo hi<=hi:=by
 unfold cutP;split<;>split at *<;>omega
theorem qck {x:Int} (h:-9223372036854775808<=x/\x<=9223372036854775807):w64 x=x:=w64i h
section
variable {S:Sc}
theorem ScOk.cur (h:ScOk S) {c:Cur} (hr:0<=c.Row/\c.Row<(S.g.rows:Int)) (hc:0<=c.Col/\c.Col<(S.g.cols:Int)) (hs:c.Shift=0\/c.Shift=1):ScOk { S with c:=c }:=by
 obtain ⟨e1,e2⟩:=h.grows;rw [e1] at hr;rw [e2] at hc;exact ⟨h.g0,h.g1,h.rows,h.cols,hr,hc,hs,h.sh0,h.sh1,h.top,h.marg,h.stops⟩
theorem ScOk.rowg (h:ScOk S):0<=S.c.Row/\S.c.Row<(S.g.rows:Int):=by rw [h.grows.1];exact h.row
theorem ScOk.colg (h:ScOk S):0<=S.c.Col/\S.c.Col<(S.g.cols:Int):=by rw [h.grows.2];exact h.col
theorem ScOk.bnd (h:ScOk S):1<=S.g.rows/\S.g.rows<=1000/\1<=S.g.cols/\S.g.cols<=1000:=⟨h.gOk.rows.1,h.gOk.rows.2,h.gOk.cols.1,h.gOk.cols.2⟩
theorem ScOk.to (h:ScOk S) (row col:Int):ScOk (S.to row col):=by
 have hb:=h.bnd;have e1:w64 ((S.g.rows:Int)-1)=(S.g.rows:Int)-1:=qck (by omega);have e2:w64 ((S.g.cols:Int)-1)=(S.g.cols:Int)-1:=qck (by omega);have h1:=qkt (v:=row) (lo:=0) (hi:=(S.g.rows:Int)-1) (by omega);have h2:=qkt (v:=col) (lo:=0) (hi:=(S.g.cols:Int)-1) (by omega);unfold Sc.to;rw [e1,e2];exact h.cur (by show 0<=cutP _ _ _/\_;dsimp only;omega) (by show 0<=cutP _ _ _/\_;dsimp only;omega) h.shift
theorem ScOk.dry (h:ScOk S):ScOk S.dry:=h.cur h.rowg h.colg h.shift
theorem ScOk.withG (h:ScOk S) {G:GS} (hG:GOk G) (hr:G.rows=S.g.rows) (hc:G.cols=S.g.cols):ScOk (S.withG G):=by
 obtain ⟨e1,e2⟩:=h.grows;unfold Sc.withG;split
 ·exact ⟨h.g0,hG,hr.trans e1,hc.trans e2,h.row,h.col,h.shift,h.sh0,h.sh1,h.top,h.marg,h.stops⟩
 ·have hr':=hr.trans e1;have hc':=hc.trans e2;refine ⟨hG,h.g1,by show S.g1.rows=G.rows;rw [hr',h.rows],by show S.g1.cols=G.cols;rw [hc',h.cols],?_,?_,h.shift,h.sh0,h.sh1,?_,?_,?_⟩
  ·show 0<=S.c.Row/\S.c.Row<(G.rows:Int);rw [hr'];exact h.row
  ·show 0<=S.c.Col/\S.c.Col<(G.cols:Int);rw [hc'];exact h.col
  ·show 0<=S.top/\S.top<S.past/\S.past<=(G.rows:Int);rw [hr'];exact h.top
  ·show 2<=G.rows->_;rw [hr'];exact h.marg
  ·show S.stops.length=G.cols;rw [hc'];exact h.stops
theorem ScOk.scroll (h:ScOk S) (top past n:Int):ScOk (S.scroll top past n):=by
 have hl:=qhp (top:=top) (past:=past) (n:=n) (a:=S.blank) h.gOk.len;exact h.withG (h.gOk.scroll top past n S.blank) hl.2.1 hl.2.2.1
theorem q5y (S:Sc) (G:GS):(S.withG G).g=G:=by
 unfold Sc.withG Sc.g;cases h:S.alt<;>simp
theorem q5f (S:Sc) (G:GS):(S.withG G).c=S.c:=by unfold Sc.withG;split<;>rfl
theorem ScOk.save (h:ScOk S):ScOk S.save:=by
 unfold Sc.save Sc.withS;split
 ·exact ⟨h.g0,h.g1,h.rows,h.cols,h.row,h.col,h.shift,h.sh0,h.shift,h.top,h.marg,h.stops⟩
 ·exact ⟨h.g0,h.g1,h.rows,h.cols,h.row,h.col,h.shift,h.shift,h.sh1,h.top,h.marg,h.stops⟩
end
section
variable {w:World} {base g:Nat} {F:ScF} {S:Sc}
theorem qdt {v lo hi:Int} {K:Int->World->Prop} (hK:K (cutP v lo hi) w):qbt v lo hi w K:=by
 refine q44 _ _ _ ?_;unfold qzd;exact hK
theorem qej {v lo hi:Int} {K:Bool->World->Prop} (hK:K (decide (lo<=v/\v<=hi)) w):qcb v lo hi w K:=by
 refine qz5 _ _ _ ?_;unfold qr0;refine cO (fun e=>?_) fun e=>?_
 ·have e:=oTq e;rw [show decide (lo<=v/\v<=hi)=decide (v<=hi) by simp;intro _;exact e] at hK;exact hK
 ·have e:=oFq e;rw [show decide (lo<=v/\v<=hi)=false by simp;omega] at hK;exact hK
theorem qgi {K:Option Addr->World->Prop} (h:ScM w base g F S) (hK:K (some ⟨(F.f S.alt).g,0,none⟩) w.drew):qa3 (some ⟨g,0,none⟩) w K:=by
 refine qip _ ?_;unfold qgm;simp only [onPtr_some];have hb:=h.drew.blk;refine lI (x:=if S.alt then 1 else 0) (hb.cells 2 _ rfl) ?_;revert hK;have hx:(scX F S).grids=⟨some ⟨F.f0.g,0,none⟩,some ⟨F.f1.g,0,none⟩⟩:=rfl;cases hS:S.alt
 ·intro hK;exact ⟨⟨by decide,by decide⟩,qar (x:=some ⟨F.f0.g,0,none⟩) (hb.cells 0 _ rfl) hK⟩
 ·intro hK;exact ⟨⟨by decide,by decide⟩,qar (x:=some ⟨F.f1.g,0,none⟩) (hb.cells 1 _ rfl) hK⟩
theorem qcz {K:Int->Int->World->Prop} (h:ScM w base g F S) (hK:K S.g.rows S.g.cols w.drew.drew):qay (some ⟨g,0,none⟩) w K:=by
 refine qf9 _ ?_;unfold qem;exact qgi h (qok h.drew.gM hK)
theorem qss {K:Attr->World->Prop} (h:ScM w base g F S) (hK:∀w',Below w.heap.size w w'->K S.blank w'):qbl (some ⟨g,0,none⟩) w K:=by
 refine qti _ ?_;unfold ql7;simp only [onPtr_some];refine nwb fun w1 h1 hB1 hs1=>?_;refine lI (x:=S.c.A.Bg) ((h.ext hB1).blk.cells 7 _ rfl) ?_;refine qfo h1 rfl fun w2 h2 hc2 hs2=>?_;exact qaq (r:=qac.rep) (x:=S.blank) h2.cells (hK w2 (qbj hB1 hc2 (le_refl _)))
theorem qci {row col:Int} {K:World->Prop} (h:ScM w base g F S) (hK:∀w',ScT base g w F F (S.to row col) w'->K w'):qan (some ⟨g,0,none⟩) row col w K:=by
 refine qmw _ _ _ ?_;unfold qjb;refine qcz h (qdt (qdt ?_));simp only [onPtr_some];have hT:=(ScT.refl h).drew.drew;rw [qae,qae];refine qah hT.m.blk (by simp [qab.rep]) fun w4 hb4 hg4 hs4=>?_;rw [qae];refine qah hb4 (by simp [qab.rep,putL]) fun w5 hb5 hg5 hs5=>?_;rw [qae];refine qah hb5 (by simp [qab.rep,putL]) fun w6 hb6 hg6 hs6=>?_;have hc:Chg (fun k=>k=g) w.drew.drew w6:=((Chg.gg hg4).trans (Chg.gg hg5) fun i _ hi=>hi).trans (Chg.gg hg6) fun i _ hi=>hi;exact hK w6 (hT.trans (ScT.mk_struct hT.m hc (S':=S.to row col) hb6 rfl rfl rfl rfl rfl rfl (h.ok.to row col)))
end
section
variable {w:World} {base g:Nat} {F:ScF} {S:Sc}
theorem ScM.base_le (h:ScM w base g F S):base<=w.heap.size:=by
 have:=h.below g (.inl rfl);omega
theorem q22 {top past n:Int} {K:Int->World->Prop} (h:ScM w base g F S) (hn:-9223372036854775808<=n/\n<=9223372036854775807) (hK:∀v F' w',ScT base g w F F' (S.scroll top past n) w'->K v w'):qbw (some ⟨(F.f S.alt).g,0,none⟩) top past n S.blank w K:=by
 have hG:=h.gOk;refine q0l h.gM hG.len hG.rows.2 (by have:=hG.most;omega) h.base_le hn fun f' w' hg hto hc=>?_;exact hK _ _ w' (ScT.mk_grid h hg hto hc (h.ok.scroll top past n))
theorem q5o {n top past:Int} {K:Int->World->Prop} (h:ScM w base g F S) (ht:top=S.top) (hp:past=S.past) (hn:-9223372036854775808<=n/\n<=9223372036854775807) (hK:∀v F' w',ScT base g w F F' (S.scroll S.top S.past n) w'->K v w') :
  qa3 (some ⟨g,0,none⟩) w fun t18 w2=>World.cell? w2 ((⟨g,0,none⟩:Addr).add 38)=some (.int .i64 past)/\World.cell? w2 ((⟨g,0,none⟩:Addr).add 37)=some (.int .i64 top) /\
   qbl (some ⟨g,0,none⟩) w2 fun t28 w3=>World.cell? w3 ((⟨g,0,none⟩:Addr).add 38)=some (.int .i64 past)/\World.cell? w3 ((⟨g,0,none⟩:Addr).add 37)=some (.int .i64 top) /\
    qbw t18 top past n t28 w3 K:=by
 subst ht hp;refine qgi h ⟨h.drew.blk.cells 38 _ rfl,h.drew.blk.cells 37 _ rfl,?_⟩;refine qss h.drew fun w3 hB3=>?_;have h3:=h.drew.ext hB3;refine ⟨h3.blk.cells 38 _ rfl,h3.blk.cells 37 _ rfl,?_⟩;refine q22 h3 hn fun v F' w' hT=>hK v F' w' ?_;exact ((ScT.refl h).drew.ext hB3).trans hT
theorem ScT.dry (h:ScM w base g F S) {w':World} (hb:Blk w' g qa1 (putL (qab.rep.cells (scX F S)) 5 [.bool false])) (hg:w.grownBy w' (some g)):ScT base g w F F S.dry w' :=
 ScT.mk_struct h (Chg.gg hg) hb rfl rfl rfl rfl rfl rfl h.ok.dry
theorem qog {K:World->Prop} (h:ScM w base g F S) (hK:∀F' w',ScT base g w F F' S.index w'->K w'):qbn (some ⟨g,0,none⟩) w K:=by
 refine qth _ ?_;unfold ql9;simp only [onPtr_some];rw [qae,qae];refine qah h.blk (by simp [qab.rep]) fun w1 hb1 hg1 hs1=>?_;have hT1:ScT base g w F F S.dry w1:=ScT.dry h hb1 hg1;have hd:=hT1.drew;refine lI (x:=S.c.Row) (hd.m.blk.cells 3 _ rfl) (lI (x:=S.past) (hd.m.blk.cells 38 _ rfl) ?_);have hdd:=hd.drew;unfold Sc.index at hK;refine cO (fun e=>?_) fun e=>?_
 ·have e:S.c.Row=w64 (S.past-1):=eq_of_beq e;rw [if_pos e] at hK;refine lI (x:=S.top) (hdd.m.blk.cells 37 _ rfl) (lI (x:=S.past) (hdd.m.blk.cells 38 _ rfl) ?_);exact q5o hdd.m rfl rfl (by decide) fun v F' w' hT=>hK F' w' (hdd.trans hT)
 ·have e:¬S.c.Row=w64 (S.past-1):=beq_eq_false_iff_ne.1 e;rw [if_neg e] at hK;refine lI (x:=S.c.Row) (hdd.m.blk.cells 3 _ rfl) (lI (x:=S.c.Col) (hdd.m.blk.cells 4 _ rfl) ?_);exact qci hdd.m fun w' hT=>hK F w' (hdd.trans hT)
theorem q7o {K:World->Prop} (h:ScM w base g F S) (hK:∀F' w',ScT base g w F F' S.reverse w'->K w'):qf8 (some ⟨g,0,none⟩) w K:=by
 refine qrg _ ?_;unfold qjv;simp only [onPtr_some];rw [qae,qae];refine qah h.blk (by simp [qab.rep]) fun w1 hb1 hg1 hs1=>?_;have hT1:ScT base g w F F S.dry w1:=ScT.dry h hb1 hg1;have hd:=hT1.drew;refine lI (x:=S.c.Row) (hd.m.blk.cells 3 _ rfl) (lI (x:=S.top) (hd.m.blk.cells 37 _ rfl) ?_);have hdd:=hd.drew;unfold Sc.reverse at hK;refine cO (fun e=>?_) fun e=>?_
 ·have e:S.c.Row=S.top:=eq_of_beq e;rw [if_pos e] at hK;refine lI (x:=S.top) (hdd.m.blk.cells 37 _ rfl) (lI (x:=S.past) (hdd.m.blk.cells 38 _ rfl) ?_);exact q5o hdd.m rfl rfl (by decide) fun v F' w' hT=>hK F' w' (hdd.trans hT)
 ·have e:¬S.c.Row=S.top:=beq_eq_false_iff_ne.1 e;rw [if_neg e] at hK;refine lI (x:=S.c.Row) (hdd.m.blk.cells 3 _ rfl) (lI (x:=S.c.Col) (hdd.m.blk.cells 4 _ rfl) ?_);exact qci hdd.m fun w' hT=>hK F w' (hdd.trans hT)
theorem q56 {K:World->Prop} (h:ScM w base g F S) (hK:∀w',ScT base g w F F S.home w'->K w'):qe3 (some ⟨g,0,none⟩) w K:=by
 refine qu1 _ ?_;unfold qmx;simp only [onPtr_some];refine qhx (x:=S.c.Origin) (by rw [qae];exact h.blk.cells 9 _ rfl) ?_;unfold Sc.home at hK;refine cO (fun e=>?_) fun e=>?_
 ·have e:S.c.Origin=true:=e;rw [if_pos e] at hK;exact lI (x:=S.top) (h.blk.cells 37 _ rfl) (qci h hK)
 ·have e:S.c.Origin=false:=e;rw [if_neg (by rw [e];decide)] at hK;exact qci h hK
theorem zhf {n:Int} {K:World->Prop} (h:ScM w base g F S) (hK:∀w',ScT base g w F F (S.up n) w'->K w'):qkn (some ⟨g,0,none⟩) n w K:=by
 refine qxj _ _ ?_;unfold qpk;simp only [onPtr_some];refine jpO fun J1 hJ1=>?_;have hd:=(ScT.refl h).drew;refine lI (x:=S.c.Row) (hd.m.blk.cells 3 _ rfl) (lI (x:=S.top) (hd.m.blk.cells 37 _ rfl) ?_);have key:∀v,v=(if S.c.Row>=S.top then S.top else 0)->J1 (v,()) w.drew:=by
  rintro v rfl;refine hJ1 _ _ ?_;have hdd:=hd.drew;refine lI (x:=S.c.Row) (hdd.m.blk.cells 3 _ rfl) (lI (x:=S.c.Col) (hdd.m.blk.cells 4 _ rfl) ?_);exact qci hdd.m fun w' hT=>hK w' (hdd.trans hT)
 refine cO (fun e=>?_) fun e=>?_
 ·have e:=oTq e;exact lI (x:=S.top) (hd.m.blk.cells 37 _ rfl) (key _ (by rw [if_pos e]))
 ·have e:=oFq e;exact key _ (by rw [if_neg e])
theorem zeg {n:Int} {K:World->Prop} (h:ScM w base g F S) (hK:∀w',ScT base g w F F (S.down n) w'->K w'):qiu (some ⟨g,0,none⟩) n w K:=by
 refine qu9 _ _ ?_;unfold qm5;refine qcz h ?_;simp only [onPtr_some];refine jpO fun J1 hJ1=>?_;have hd:=(ScT.refl h).drew.drew.drew;refine lI (x:=S.c.Row) (hd.m.blk.cells 3 _ rfl) (lI (x:=S.past) (hd.m.blk.cells 38 _ rfl) ?_);have key:∀v,v=(if S.c.Row<S.past then S.past else (S.g.rows:Int))->J1 (v,()) w.drew.drew.drew:=by
  rintro v rfl;refine hJ1 _ _ ?_;have hdd:=hd.drew;refine lI (x:=S.c.Row) (hdd.m.blk.cells 3 _ rfl) (lI (x:=S.c.Col) (hdd.m.blk.cells 4 _ rfl) ?_);exact qci hdd.m fun w' hT=>hK w' (hdd.trans hT)
 refine cO (fun e=>?_) fun e=>?_
 ·have e:=oTq e;exact lI (x:=S.past) (hd.m.blk.cells 38 _ rfl) (key _ (by rw [if_pos e]))
 ·have e:=oFq e;exact key _ (by rw [if_neg e])
theorem qyg {K:Cur->World->Prop} (hK:∀w',Below w.heap.size w w'->K qgs w'):qht w K:=by
 refine q13 ?_;unfold qve;refine nwb fun w1 h1 hB1 hs1=>?_;exact qy3 (r:=qak.rep) (x:=qgs) h1 rfl rfl fun w2 hc2 hs2=>hK w2 (qbj hB1 hc2 (le_refl _))
theorem q0h {S:Sc} (h:ScM w base g F S):qai w ((⟨g,0,none⟩:Addr).add 3) (qak.rep.cells S.c):=by
 rw [qae];intro j v hj;have:(qab.rep.cells (scX F S))[3+j]?=some v:=by
  match j,hj with
  | 0,hj=>exact hj
  | 1,hj=>exact hj
  | 2,hj=>exact hj
  | 3,hj=>exact hj
  | 4,hj=>exact hj
  | 5,hj=>exact hj
  | 6,hj=>exact hj
  | 7,hj=>exact hj
  | 8,hj=>exact hj
  | 9,hj=>exact hj
  | j+10,hj=>cases hj
 have h2:=h.blk.cells (3+j) v this;rw [qae] at h2 ⊢;rw [show 0+3+j=0+(3+j) by omega];exact h2
theorem q98 {K:Cur->World->Prop} (h:ScM w base g F S) (hK:∀w',Below w.heap.size w w'->K S.c w'):qg4 (some ⟨g,0,none⟩) w K:=by
 refine qsn _ ?_;unfold qk3;simp only [onPtr_some];refine nwb fun w1 h1 hB1 hs1=>?_;refine qaq (r:=qak.rep) (x:=S.c) (q0h (h.ext hB1)) ?_;exact qy3 (r:=qak.rep) (x:=S.c) h1 rfl rfl fun w2 hc2 hs2=>hK w2 (qbj hB1 hc2 (le_refl _))
theorem q3i {K:Bool->World->Prop} (h:ScM w base g F S) (hK:K S.alt w):qd0 (some ⟨g,0,none⟩) w K:=by
 refine qvv _ ?_;unfold qo3;simp only [onPtr_some];refine lI (x:=if S.alt then 1 else 0) (h.blk.cells 2 _ rfl) ?_;cases hS:S.alt<;>rw [hS] at hK<;>exact hK
theorem qz7 {K:World->Prop} (h:ScM w base g F S) (hK:∀w',ScT base g w F F S.save w'->K w'):qdp (some ⟨g,0,none⟩) w K:=by
 refine qu6 _ ?_;unfold qng;simp only [onPtr_some];have hd:=(ScT.refl h).drew;refine lI (x:=if S.alt then 1 else 0) (hd.m.blk.cells 2 _ rfl) ?_;refine qaq (r:=qak.rep) (x:=S.c) (q0h hd.m) ?_;have ok:=h.ok.save;cases hS:S.alt
 ·have e1:S.save={ S with s0:=⟨S.c,true⟩ }:=by unfold Sc.save Sc.withS;rw [hS];rfl
  rw [e1] at hK ok;refine ⟨⟨by decide,by decide⟩,?_⟩;rw [qae,qae];refine qah hd.m.blk (by simp [qab.rep]) fun w4 hb4 hg4 hs4=>?_;refine hK w4 (hd.trans (ScT.mk_struct hd.m (Chg.gg hg4) (S':={ S with s0:=⟨S.c,true⟩ }) ?_ rfl rfl rfl rfl rfl rfl ok));exact hb4
 ·have e1:S.save={ S with s1:=⟨S.c,true⟩ }:=by unfold Sc.save Sc.withS;rw [hS];rfl
  rw [e1] at hK ok;refine ⟨⟨by decide,by decide⟩,?_⟩;rw [qae,qae];refine qah hd.m.blk (by simp [qab.rep]) fun w4 hb4 hg4 hs4=>?_;refine hK w4 (hd.trans (ScT.mk_struct hd.m (Chg.gg hg4) (S':={ S with s1:=⟨S.c,true⟩ }) ?_ rfl rfl rfl rfl rfl rfl ok));exact hb4
end
def spanE:El qdb where
 cells:=qdb.rep.cells
 t:=qqb
 k:=2
 pos:=by decide
 len _:=rfl
 one x v hv:=by
  simp only [qdb.rep,List.mem_cons,List.mem_nil_iff,or_false] at hv;rcases hv with rfl | rfl<;>rfl
def runE':El Int where
 cells x:=[.int .i32 x]
 t:=qeu
 k:=1
 pos:=by decide
 len _:=rfl
 one x v hv:=by
  simp only [List.mem_cons,List.mem_nil_iff,or_false] at hv;rcases hv with rfl
  rfl
def spans (l:List (Int×Int)):List qdb:=l.map fun p=>⟨p.1,p.2⟩
def inS (r:Int) (p:qdb):Bool:=decide (p.lo<=r) && decide (r<=p.hi)
theorem q6s (r:Int) (l:List (Int×Int)):(spans l).any (inS r)=inW r l:=by
 unfold spans inW;rw [List.any_map];rfl
section
variable {w:World}
theorem zbd {r:Int} {l:Slc} {xs:List qdb} {K:Bool->World->Prop} (hl:Rd spanE w l xs) (hxs:xs.length<=1000) (hK:∀w',Below w.heap.size w w'->K (xs.any (inS r)) w'):qx9 r l w K:=by
 refine zaj _ _ ?_;unfold q6l;refine lpR (fun (st:Int×Unit) w1=>∃k:Nat,st.1=(k:Int)/\k<=xs.length/\(xs.take k).any (inS r)=false/\Below w.heap.size w w1) (fun st=>xs.length-st.1.toNat) ⟨0,rfl,zero_le _,rfl,Below.refl _ _⟩ ?_;rintro ⟨i,u⟩ w1 ⟨k,hi,hk,hno,hB1⟩ I hI;dsimp only at hi ⊢;subst hi;rw [hl.n];refine cO (fun e=>?_) fun e=>?_
 ·have e:=oTq e;have hkl:k<xs.length:=by omega
  have hl1:=hl.ext hB1;have hm:=hl1.cm;have hn:=hl1.n;have hnc:=hl1.nc;have hx:xs[k]?=some xs[k]:=List.getElem?_eq_getElem hkl;refine hl1.ix (i:=(k:Int)) rfl (by omega) (by omega) fun hc=>?_;rw [toNat_natCast];refine qaq (r:=qdb.rep) (x:=xs[k]) (hl1.at_ k _ hx) ?_;refine nwb fun w2 h2 hB2 hs2=>qfo h2 rfl fun w3 h3 hc3 hs3=>?_;have hB3:Below w.heap.size w w3:=qaz hB1 (qbj hB2 hc3 (le_refl _));have step:inS r xs[k]=false->I (i64.wrap ((k:Int)+1),()) w3:=by
   intro hf;rw [w64i (by omega)];refine hI _ _ ⟨k+1,by simp,by omega,?_,hB3⟩ (by dsimp only;omega);rw [List.take_add_one,hx,List.any_append,hno];simpa using hf
  have found:inS r xs[k]=true->K true w3:=by
   intro ht;have:=hK w3 hB3;rw [show xs.any (inS r)=true from List.any_eq_true.2 ⟨_,List.getElem_mem hkl,ht⟩] at this;exact this
  refine lI (x:=xs[k].lo) (h3.cells 0 _ rfl) (cO (fun e1=>?_) fun e1=>?_)
  ·have e1:xs[k].lo<=r:=oTq e1;refine lI (x:=xs[k].hi) (h3.cells 1 _ rfl) (cO (fun e2=>?_) fun e2=>?_)
   ·exact found (by unfold inS;rw [dTq e1,e2];rfl)
   ·exact step (by unfold inS;rw [dTq e1,e2];rfl)
  ·exact step (by unfold inS;rw [show decide (xs[k].lo<=r)=false from e1];rfl)
 ·have e:=oFq e;obtain rfl:k=xs.length:=by omega
  rw [take_length] at hno;have:=hK w1 hB1;rw [hno] at this;exact this
theorem zd9 {K:Slc->World->Prop} (hK:∀s w',Rd spanE w' s (spans thinL)->Below w.heap.size w w'->K s w'):qy1 w K:=by
 refine q7f ?_;unfold q19;exact nwb fun w1 h1 hB1 hs1=>hK _ w1 (qi5 (E:=spanE) (ys:=spans thinL) h1 (by simp [spans,thinL,maxLen]) rfl) hB1
theorem zfh {K:Slc->World->Prop} (hK:∀s w',Rd spanE w' s (spans wideL)->Below w.heap.size w w'->K s w'):qyr w K:=by
 refine q7g ?_;unfold q2p;exact nwb fun w1 h1 hB1 hs1=>hK _ w1 (qi5 (E:=spanE) (ys:=spans wideL) h1 (by simp [spans,wideL,maxLen]) rfl) hB1
theorem zgx {r:Int} {K:Bool->World->Prop} (hK:K (isW r) w):quh r w K:=by
 refine q2y _ ?_;unfold q06;unfold isW at hK;refine cO (fun e1=>?_) fun e1=>?_
 ·have h1:(0:Int)<=r:=oTq e1;rw [dTq h1] at hK;refine cO (fun e2=>?_) fun e2=>?_
  ·rw [e2] at hK;refine cO (fun e3=>?_) fun e3=>?_
   ·rw [e3] at hK;exact hK
   ·rw [e3] at hK;exact hK
  ·rw [e2] at hK;exact hK
 ·rw [show decide ((0:Int)<=r)=false from e1] at hK;exact hK
theorem zdd {r:Int} {K:Int->World->Prop} (hK:∀w',Below w.heap.size w w'->K (qhi r) w'):qws r w K:=by
 refine q5e _ ?_;unfold q0o;unfold qhi at hK;refine jpO fun J1 hJ1=>zgx ?_;refine cO (fun e=>?_) fun e=>?_
 ·have e:isW r=false:=by simpa using e
  rw [if_pos (.inl e)] at hK;exact hJ1 _ _ (cT rfl (hK w (Below.refl _ _)))
 ·have e:isW r=true:=by simpa using e
  refine zd9 fun s w1 hs hB1=>zbd hs (by simp [spans,thinL]) fun w2 hB2=>?_;rw [q6s];refine hJ1 _ _ ?_;have hB02:=qaz hB1 hB2;refine cO (fun e2=>?_) fun e2=>?_
  ·have e2:inW r thinL=true:=e2;rw [if_pos (.inr e2)] at hK;exact hK w2 hB02
  ·have e2:inW r thinL=false:=e2;rw [if_neg (by rw [e,e2];simp)] at hK;refine zfh fun s w3 hs hB3=>zbd hs (by simp [spans,wideL]) fun w4 hB4=>?_;rw [q6s];have hB04:=qaz (qaz hB02 hB3) hB4;refine cO (fun e3=>?_) fun e3=>?_
   ·rw [if_pos e3] at hK;exact hK w4 hB04
   ·rw [if_neg (by rw [e3];decide)] at hK;exact hK w4 hB04
theorem zgj {r:Int} (h:qhi r≠0):0<=r/\r<=1114111:=by
 unfold qhi at h;by_cases e:isW r=false
 ·rw [if_pos (.inl e)] at h;exact absurd rfl h
 ·have e:isW r=true:=by simpa using e
  unfold isW at e;simp only [Bool.and_eq_true,decide_eq_true_eq] at e;exact e.1
theorem zeq (r:Int):qhi r=0\/qhi r=1\/qhi r=2:=by
 unfold qhi;split
 ·exact .inl rfl
 ·split
  ·exact .inr (.inr rfl)
  ·exact .inr (.inl rfl)
theorem q81 {set b:Int} {K:Int->World->Prop} (hb:0<=b/\b<=255) (hK:∀w',Below w.heap.size w w'->K (qtp set b) w'):qrs set b w K:=by
 refine q3t _ _ ?_;unfold qwx;unfold qtp at hK;have hw:IntKind.i32.wrap b=b:=by
  obtain ⟨n,rfl⟩:∃n:Nat,b=n:=⟨b.toNat,by omega⟩;exact qml .i32 (by show _<2^31;omega)
 rw [hw];refine jpO fun J1 hJ1=>?_;have no:¬(set=48/\95<=b/\b<=126)->∀v:Bool,v=false->J1 (v,()) w:=by
  rintro hn v rfl;rw [if_neg hn] at hK;exact hJ1 _ _ (cF rfl (hK w (Below.refl _ _)))
 refine cO (fun e=>?_) fun e=>?_
 ·have e:set=48:=eq_of_beq e;refine cO (fun e1=>?_) fun e1=>?_
  ·have e1:=oTq e1;by_cases h2:b<=126
   ·rw [dTq h2];rw [if_pos ⟨e,e1,h2⟩] at hK;refine hJ1 _ _ (cT rfl ?_);refine q5a ?_;unfold q1d;refine nwb fun w1 h1 hB1 hs1=>?_;have hr:Rd runE' w1 ⟨some ⟨w.heap.size,0,none⟩,32,32⟩ qqu:=qi5 (E:=runE') (ys:=qqu) h1 (by simp [qqu,maxLen]) rfl;obtain ⟨n,hn⟩:∃n:Nat,b-95=n:=⟨(b-95).toNat,by omega⟩;rw [hn,show IntKind.u8.wrap (n:Int)=n from qml .u8 (by show _<2^8;omega)];have hnl:n<qqu.length:=by show n<32;omega
    refine hr.ix (i:=(n:Int)) rfl (by omega) (by show (n:Int)<((32:Nat):Int);omega) fun _=>?_;have hx:qqu[n]?=some qqu[n]:=List.getElem?_eq_getElem hnl;rw [toNat_natCast];refine lI (x:=qqu[n]) (by simpa using hr.at_ n _ hx 0 _ rfl) ?_;have:=hK w1 hB1;rw [hn,toNat_natCast,List.getD_eq_getElem?_getD,hx] at this;exact this
   ·exact no (fun hh=>h2 hh.2.2) _ (dFq h2)
  ·have e1:=oFq e1;exact no (fun hh=>e1 hh.2.1) _ rfl
 ·have e:¬set=48:=beq_eq_false_iff_ne.1 e;exact no (fun hh=>e hh.1) _ rfl
end
section
variable {w:World} {base g:Nat} {F:ScF} {S:Sc}
theorem ScOk.changed (h:ScOk S) {f:List Cell->List Cell} (hok:∀xs,okR xs->okR (f xs)) {row:Int} (hr:0<=row/\row<(S.g.rows:Int)):ScOk (S.withG { S.g with L:=S.g.L.set row.toNat (qa6 (f (S.g.L.getD row.toNat [])) S.g.cols) }):=by
 have hG:=h.gOk;refine h.withG (hG.set row.toNat ?_) rfl rfl;refine q3u hG.cols.2 (hok _ ?_);have hl:row.toNat<S.g.L.length:=by rw [hG.len];omega
 rw [List.getD_eq_getElem?_getD,List.getElem?_eq_getElem hl];exact (hG.L _ (List.getElem_mem hl)).2.2
theorem q2n {fv:Value} {f:List Cell->List Cell} {row:Int} {K:Bool->World->Prop} (h:ScM w base g F S) (hr:0<=row/\row<(S.g.rows:Int)) (hlen:∀xs,(f xs).length=xs.length) (hok:∀xs,okR xs->okR (f xs))
  (hf:∀(l:Slc) (xs:List Cell) (K':Slc->World->Prop),Rd cellE w.drew l xs->xs.length<=10000->(∀s w2,Go.Vc.Own cellE w2 w.drew.heap.size s (f xs)->Below w.drew.heap.size w.drew w2->K' s w2)->callR C fv [.slice l.a l.n l.c] [Kind.slice] w.drew K')
  (hK:∀F' w',ScT base g w F F' (S.withG { S.g with L:=S.g.L.set row.toNat (qa6 (f (S.g.L.getD row.toNat [])) S.g.cols) }) w'->K true w'):qeg (some ⟨(F.f S.alt).g,0,none⟩) row fv w K:=by
 refine qnq _ _ _ ?_;unfold qje;simp only [onPtr_some];have h3:=h.gM;have hG:=h.gOk;have hbase:=h.base_le;refine jpO fun J hJ=>?_;refine qha h3 ?_;rw [dTq hr];refine cT rfl ?_;refine lSl (x:=(F.f S.alt).ls) (h3.drew.blk.cells 3 _ rfl) ?_;refine lSl (x:=(F.f S.alt).ls) (h3.drew.blk.cells 3 _ rfl) ?_;obtain ⟨ls,ho,hl⟩:=h3.row;have hll:=hl.1;have hgl:=hG.len;refine ho.drew.rd.ix rfl hr.1 (by omega) fun hc=>?_;have hlk:ls[row.toNat]?=some (ls[row.toNat]'(by omega)):=List.getElem?_eq_getElem _;have hxk:S.g.L[row.toNat]?=some (S.g.L[row.toNat]'(by omega)):=List.getElem?_eq_getElem _;refine lSl (x:=ls[row.toNat]'(by omega)) (by simpa using hc 0 _ rfl) ?_;refine lI (x:=(S.g.cols:Int)) (h3.drew.blk.cells 2 _ rfl) ?_;have hwk:(S.g.L[row.toNat]'(by omega)).length<=10000:=by
  have:=(hG.L _ (List.mem_of_getElem? hxk)).2.1;have:=hG.cols.2;omega
 refine hf _ _ _ (hl.2 _ _ _ hlk hxk).drew.rd hwk fun t w4 ht hB4=>?_;have hB34:Below w.heap.size w w4:=(qav w).trans hB4;have h4:=h3.ext hB34;refine ⟨h4.blk.cells 2 _ rfl,h4.blk.cells 3 _ rfl,?_⟩;refine qqe ht.rd (by rw [hlen];exact hwk) fun u w5 hu hB5=>?_;have hB35:Below w.heap.size w w5:=hB34.trans (hB5.mono hB34.size);have h5:=h3.ext hB35;refine ⟨h5.blk.cells 3 _ rfl,?_⟩;have ho5:=ho.ext hB35;have hs4:=hB34.size;refine ho5.rd.ix rfl hr.1 (by omega) fun _=>?_;refine ho5.st0 (x:=ls[row.toNat]'(by omega)) hlk (y:=u) rfl fun w6 ho6 hg6 hs6=>?_;obtain ⟨h6,hc6⟩:=h5.setLine (i:=row.toNat) (hl.ext hB35) (hu.base (by omega)) ho6 hg6;refine hJ _ _ (qha h6 ?_);rw [dTq hr];have ok:=h.ok.changed hok hr;rw [List.getD_eq_getElem?_getD,hxk] at hK ok;have hTe:=ScT.of_ext h hB35;refine hK _ w6 (hTe.trans (ScT.mk_grid hTe.m h6 (Foot.to.refl _ _) (hc6.mono fun i _ hi=>.inr (.inr (.inl hi))) ok))
end
section
variable {S:Sc}
theorem zf7 (S:Sc) (top past n:Int):(S.scroll top past n).g=qcr S.g top past n S.blank:=q5y _ _
theorem zcv (h:ScOk S):S.index.g.cols=S.g.cols/\S.index.g.rows=S.g.rows:=by
 unfold Sc.index;split
 ·rw [zf7];have hl:=qhp (top:=S.dry.top) (past:=S.dry.past) (n:=1) (a:=S.dry.blank) h.dry.gOk.len;exact ⟨hl.2.2.1,hl.2.1⟩
 ·exact ⟨rfl,rfl⟩
theorem q6d (h:ScOk S):S.next.g.cols=S.g.cols/\S.next.g.rows=S.g.rows:=zcv (h.to S.c.Row 0)
theorem ScOk.setCol (h:ScOk S) {col:Int} (hc:0<=col/\col<(S.g.cols:Int)):ScOk (S.setCol col):=h.cur h.rowg hc h.shift
theorem zge (S:Sc) (r w:Int) (xs:List Cell):(S.putL r w xs).length=xs.length:=by
 unfold Sc.putL;rw [q90];split
 ·exact qwn _ _ _ _
 ·rfl
theorem q8t (S:Sc) {r:Int} (hr:0<=r/\r<=1114111) (w:Int) (xs:List Cell) (h:okR xs):okR (S.putL r w xs):=by
 unfold Sc.putL;refine zhh ?_ (by omega);split
 ·exact zbc h _ _ _
 ·exact h
theorem q8u (S:Sc) (f:List Cell->List Cell):(S.change f).c=S.c:=by
 unfold Sc.change;split
 ·exact q5f _ _
 ·rfl
theorem q9s (S:Sc) (f:List Cell->List Cell):(S.change f).g.cols=S.g.cols/\(S.change f).g.rows=S.g.rows:=by
 unfold Sc.change;split
 ·rw [q5y];exact ⟨rfl,rfl⟩
 ·exact ⟨rfl,rfl⟩
theorem ScOk.change (h:ScOk S) {f:List Cell->List Cell} (hok:∀xs,okR xs->okR (f xs)):ScOk (S.change f):=by
 unfold Sc.change;rw [if_pos h.rowg];exact h.changed hok h.rowg
theorem ScOk.char (h:ScOk S) (r:Int):ScOk { S with char:=r }:=⟨h.g0,h.g1,h.rows,h.cols,h.row,h.col,h.shift,h.sh0,h.sh1,h.top,h.marg,h.stops⟩
theorem ScOk.laid (h:ScOk S) {r wd:Int} (hr:0<=r/\r<=1114111) (hw:1<=wd/\wd<=2) (wrap:Bool):ScOk (S.laid r wd wrap):=by
 have h1:=h.change (q8t S hr wd);have hb:=h.bnd;have hc:=h.colg;obtain ⟨e1,e2⟩:=q9s S (S.putL r wd);have ec:=q8u S (S.putL r wd);unfold Sc.laid;dsimp only;have ew:w64 (S.c.Col+wd)=S.c.Col+wd:=qck (by omega);have ew2:w64 ((S.g.cols:Int)-1)=(S.g.cols:Int)-1:=qck (by omega);rw [ew,ew2];have hrow:=h1.rowg;have hsh:=h1.shift;split
 ·exact h1.cur hrow (by dsimp only;rw [e1];omega) hsh
 ·rename_i hlt;have hlt:¬S.c.Col+wd>=(S.g.cols:Int):=hlt;exact h1.cur hrow (by dsimp only;rw [e1];omega) hsh
end
structure Bx (w:World) (bs br bw g:Nat) (r wd:Int):Prop where
 s:Blk w bs qgw [.pointer (some ⟨g,0,none⟩)]
 r:Blk w br qeu [.int .i32 r]
 w:Blk w bw qbz [.int .i64 wd]
theorem Bx.chg {w w':World} {bs br bw g:Nat} {r wd:Int} {T:Nat->Prop} (h:Bx w bs br bw g r wd) (hc:Chg T w w') (h1:¬T bs) (h2:¬T br) (h3:¬T bw):Bx w' bs br bw g r wd:=⟨h.s.chg hc h1,h.r.chg hc h2,h.w.chg hc h3⟩
theorem Bx.ext {w w':World} {bs br bw g:Nat} {r wd:Int} (h:Bx w bs br bw g r wd) (hB:Below w.heap.size w w'):Bx w' bs br bw g r wd:=⟨h.s.ext hB,h.r.ext hB,h.w.ext hB⟩
structure LayS (base g:Nat) (w0:World) (F0:ScF) (bs br bw:Nat) (r wd:Int) (F:ScF) (S:Sc) (w:World):Prop where
 t:ScT base g w0 F0 F S w
 bx:Bx w bs br bw g r wd
 ne:∀k,scS g F k->k≠bs/\k≠br/\k≠bw
section
variable {w0 w w':World} {base g bs br bw:Nat} {F0 F F':ScF} {S S':Sc} {r wd:Int}
theorem LayS.step (h:LayS base g w0 F0 bs br bw r wd F S w) (hT:ScT base g w F F' S' w'):LayS base g w0 F0 bs br bw r wd F' S' w':=by
 refine ⟨h.t.trans hT,h.bx.chg hT.chg (fun e=>(h.ne _ e).1 rfl) (fun e=>(h.ne _ e).2.1 rfl) (fun e=>(h.ne _ e).2.2 rfl),fun k hk=>?_⟩;rcases hT.old k hk with h1 | h1
 ·exact h.ne k h1
 ·have b1:=h.bx.s.lt;have b2:=h.bx.r.lt;have b3:=h.bx.w.lt;omega
theorem LayS.drew (h:LayS base g w0 F0 bs br bw r wd F S w):LayS base g w0 F0 bs br bw r wd F S w.drew:=h.step (ScT.refl h.t.m).drew
theorem qq9 {r:Nat} {L:List (Int×Bool)} (h:MapM encO w r L) {k:Int} {K:Bool->World->Prop} (hK:K ((lookL L k).getD false) w):runK1 PG (Instr.lookup qas (.map (some r)) (.int .i64 k) false) Kind.bool w K:=by
 refine ⟨(lookL L k).getD false,w,?_,hK⟩;rw [h.lookup tmapT tintT zfn k];cases lookL L k<;>rfl
theorem qyz (h:ScM w base g F S):qai w (((⟨g,0,none⟩:Addr).add 3).add 3) (qac.rep.cells S.c.A):=by
 have h1:=q0h h;intro j v hj;have:(qak.rep.cells S.c)[3+j]?=some v:=by
  match j,hj with
  | 0,hj=>exact hj
  | 1,hj=>exact hj
  | 2,hj=>exact hj
  | j+3,hj=>cases hj
 have h2:=h1 (3+j) v this;simp only [qae] at h2 ⊢;rw [show 0+3+3+j=0+3+(3+j) by omega];exact h2
theorem zci:C.plain qg0=true:=by kernel_rfl
theorem zey {l:Slc} {xs:List Cell} {K:Slc->World->Prop} (h:ScM w base g F S) (hx:Bx w bs br bw g r wd) (hl:Rd cellE w l xs) (hlen:xs.length<=10000)
  (hK:∀s w',Go.Vc.Own cellE w' w.heap.size s (S.putL r wd xs)->Below w.heap.size w w'->K s w') :
  callR C (.func (.func qg0) #[] #[.pointer (some ⟨bs,0,none⟩),.pointer (some ⟨bw,0,none⟩),.pointer (some ⟨br,0,none⟩)]) [.slice l.a l.n l.c] [Kind.slice] w K:=by
 have hh:qm6 l ⟨bs,0,none⟩ ⟨bw,0,none⟩ ⟨br,0,none⟩ w K:=by
  refine qto _ _ _ _ ?_;unfold ql5;refine jpO fun J1 hJ1=>?_;have key:∀s w1,Rd cellE w1 s (if S.mode 4 then insL xs S.c.Col wd S.c.A else xs)->Below w.heap.size w w1->J1 (s,()) w1:=by
   intro s w1 hs hB1;refine hJ1 _ _ ?_;have h1:=(h.ext hB1).drew;have x1:=(hx.ext hB1).ext (qav w1);refine qar (x:=some ⟨g,0,none⟩) (by simpa using x1.s.cells 0 _ rfl) ?_;simp only [onPtr_some];refine lI (x:=S.c.Col) (by simp only [qae];exact h1.blk.cell 4 rfl) ?_;refine lI (x:=r) (by simpa using x1.r.cells 0 _ rfl) (lI (x:=wd) (by simpa using x1.w.cells 0 _ rfl) ?_);refine qar (x:=some ⟨g,0,none⟩) (by simpa using x1.s.cells 0 _ rfl) ?_;simp only [onPtr_some];refine qaq (r:=qac.rep) (x:=S.c.A) (qyz h1) ?_;refine zco (hs.ext (qav w1)) (by split;rw [qwn];exact hlen;exact hlen) fun t w2 ht hB2=>?_;have hB02:Below w.heap.size w w2:=qaz (qaz hB1 (qav w1)) hB2;exact hK t w2 (ht.base (qaz hB1 (qav w1)).size) hB02
  refine qar (x:=some ⟨g,0,none⟩) (by simpa using hx.s.cells 0 _ rfl) ?_;simp only [onPtr_some];refine qef (x:=some F.mm) (h.blk.cells 35 _ rfl) (qq9 h.mo ?_);have hd:=h.drew;have xd:=hx.ext (qav w);show cond (S.mode 4) _ _;cases hm:S.mode 4
  ·exact key l w (by rw [hm];exact hl) (Below.refl _ _)
  ·refine cT rfl ?_;refine qar (x:=some ⟨g,0,none⟩) (by simpa using xd.s.cells 0 _ rfl) ?_;simp only [onPtr_some];refine lI (x:=S.c.Col) (by simp only [qae];exact hd.blk.cell 4 rfl) ?_;refine lI (x:=wd) (by simpa using xd.w.cells 0 _ rfl) ?_;refine qar (x:=some ⟨g,0,none⟩) (by simpa using xd.s.cells 0 _ rfl) ?_;simp only [onPtr_some];refine qaq (r:=qac.rep) (x:=S.c.A) (qyz hd) ?_;refine q2h (hl.ext (qav w)) hlen fun t w2 ht hB2=>?_;exact key t w2 (by rw [hm];exact ht.rd) (qaz (qav w) hB2)
 refine qcm zci (Calls.mono hh ?_);rintro e w' ⟨t,rfl,hk⟩;exact ⟨t,rfl,hk⟩
end
section
variable {w0 w w':World} {base g bs br bw:Nat} {F0 F F':ScF} {S S':Sc} {r wd:Int}
theorem q3p {K:World->Prop} (h:ScM w base g F S) (hK:∀F' w',ScT base g w F F' (S.lay r) w'->K w'):qd1 (some ⟨g,0,none⟩) r w K:=by
 refine qv9 _ _ ?_;unfold qn7;refine nwb fun w1 hs1 hB1 z1=>nwb fun w2 hr2 hB2 z2=>?_;refine lI (x:=r) (by simpa using hr2.cells 0 _ rfl) (zdd fun w3 hB3=>?_);refine nwb fun w4 hw4 hB4 z4=>qfo hw4 rfl fun w5 hw5 hc5 z5=>?_;have z3:=hB3.size;have hB04:Below w.heap.size w w4:=qaz (qaz (qaz hB1 hB2) hB3) hB4;have hB05:Below w.heap.size w w5:=qbj hB04 hc5 (by omega);have x4s:=((hs1.ext hB2).ext hB3).ext hB4;have x4r:=(hr2.ext hB3).ext hB4;obtain ⟨wd,hwd⟩:∃wd,wd=qhi r:=⟨_,rfl⟩;rw [<-hwd] at hw5;have hB5:Bx w5 w.heap.size w1.heap.size w3.heap.size g r wd:=⟨x4s.chg hc5 (by omega),x4r.chg hc5 (by omega),hw5⟩;have hT5:ScT base g w F F S w5:=ScT.of_ext h hB05;have L5:LayS base g w F w.heap.size w1.heap.size w3.heap.size r wd F S w5:=⟨hT5,hB5,fun k hk=>by have:=(h.below k hk).2;omega⟩;refine qar (x:=some ⟨g,0,none⟩) (by simpa using L5.bx.s.cells 0 _ rfl) ?_;refine qcz L5.t.m ?_;have L6:=L5.drew.drew;generalize w5.drew.drew=w6 at L6 ⊢;clear L5 hT5 hB5 x4s x4r hw5 hc5 hB4 hw4 hr2 hs1 hB1 hB2 hB3 hB04 hB05;refine lI (x:=wd) (by simpa using L6.bx.w.cells 0 _ rfl) ?_;unfold Sc.lay at hK;rw [<-hwd] at hK;refine cO (fun e=>?_) fun e=>?_
 ·have e:wd=0:=eq_of_beq e;rw [if_pos e] at hK;exact hK F w6 L6.t
 have e:¬wd=0:=beq_eq_false_iff_ne.1 e;rw [if_neg e] at hK;have hrr:=zgj (r:=r) (by rw [<-hwd];exact e);have hw12:1<=wd/\wd<=2:=by
  rcases zeq r with h1 | h1 | h1
  ·exact absurd (hwd.trans h1) e
  ·omega
  ·omega
 refine qar (x:=some ⟨g,0,none⟩) (by simpa using L6.bx.s.cells 0 _ rfl) ?_;refine lI (x:=r) (by simpa using L6.bx.r.cells 0 _ rfl) ?_;simp only [onPtr_some];rw [qae];refine qah L6.t.m.blk (by simp [qab.rep]) fun w7 hb7 hg7 hs7=>?_;obtain ⟨S1,hS1⟩:∃S1:Sc,S1={ S with char:=r }:=⟨_,rfl⟩;have hT7:ScT base g w6 F F S1 w7:=by
  rw [hS1];exact ScT.mk_struct L6.t.m (Chg.gg hg7) hb7 rfl rfl rfl rfl rfl rfl (L6.t.m.ok.char r)
 have L7:=L6.step hT7;have hcols1:S1.g.cols=S.g.cols:=by rw [hS1];rfl
 have hpm:S1.pmode 7=S.pmode 7:=by rw [hS1];rfl
 rw [<-hS1] at hK;obtain ⟨wrap,hwrap⟩:∃wrap,wrap=S.pmode 7:=⟨_,rfl⟩;rw [<-hwrap] at hK;clear hb7 hg7 hs7 hT7 L6;refine qar (x:=some ⟨g,0,none⟩) (by simpa using L7.bx.s.cells 0 _ rfl) ?_;simp only [onPtr_some];refine qef (x:=some F.mp) (by rw [qae];exact L7.t.m.blk.cell 36 rfl) (qq9 L7.t.m.pr ?_);rw [show (lookL S1.priv 7).getD false=wrap by rw [hwrap,<-hpm];rfl];obtain ⟨Sx,hSx⟩:∃Sx,Sx=S1.layX wrap:=⟨_,rfl⟩;rw [<-hSx] at hK;unfold Sc.layX at hSx;unfold Sc.layY at hK;have hok1:=L7.t.m.ok;have hcx:Sx.g.cols=S.g.cols:=by
  rw [hSx];split
  ·rw [(q6d hok1).1,hcols1]
  ·exact hcols1
 have hb1:=h.ok.bnd;refine jpO fun J1 hJ1=>?_;have key1:∀F1 w9,LayS base g w F w.heap.size w1.heap.size w3.heap.size r wd F1 Sx w9->J1 () w9:=by
  intro F1 w9 L9;refine hJ1 _ _ ?_;refine qar (x:=some ⟨g,0,none⟩) (by simpa using L9.bx.s.cells 0 _ rfl) ?_;simp only [onPtr_some];rw [qae,qae];refine qah L9.t.m.blk (by simp [qab.rep]) fun w10 hb10 hg10 hs10=>?_;have L10:=L9.step (ScT.dry L9.t.m hb10 hg10);clear hb10 hg10 hs10 L9;obtain ⟨S2,hS2⟩:∃S2,S2=Sx.dry:=⟨_,rfl⟩;rw [<-hS2] at L10 hK;have hc2:S2.g.cols=S.g.cols:=by rw [hS2];exact hcx
  refine jpO fun J2 hJ2=>?_;have key2:∀(S3:Sc) F2 w11,LayS base g w F w.heap.size w1.heap.size w3.heap.size r wd F2 S3 w11->S3.g.cols=S.g.cols->S3.c.Wrap=false->(∀F' w',ScT base g w F F' (S3.laid r wd wrap) w'->K w')->J2 () w11:=by
   intro S3 F2 w11 L11 hc3 hwr3 hK3;refine hJ2 _ _ ?_;have Ld:=L11.drew;refine qar (x:=some ⟨g,0,none⟩) (by simpa using Ld.bx.s.cells 0 _ rfl) (qar (x:=some ⟨g,0,none⟩) (by simpa using Ld.bx.s.cells 0 _ rfl) ?_);simp only [onPtr_some];refine lI (x:=S3.c.Row) (by simp only [qae];exact Ld.t.m.blk.cell 3 rfl) ?_;refine qgi Ld.t.m ?_;have Ldd:=Ld.drew;refine ⟨by simp only [qae];exact Ldd.t.m.blk.cell 3 rfl,by simpa using Ldd.bx.s.cells 0 _ rfl,?_⟩;have hok3:=L11.t.m.ok;refine q2n (f:=S3.putL r wd) Ldd.t.m hok3.rowg (zge S3 r wd) (q8t S3 hrr wd) (fun l xs K' hl hlen hk=>?_) fun F4 w13 hT13=>?_
   ·exact zey Ldd.drew.t.m Ldd.drew.bx hl hlen hk
   have L13:=Ldd.step hT13;have ech:S3.withG { S3.g with L:=S3.g.L.set S3.c.Row.toNat (qa6 (S3.putL r wd (S3.g.L.getD S3.c.Row.toNat [])) S3.g.cols) }=S3.change (S3.putL r wd):=by
    unfold Sc.change;rw [if_pos hok3.rowg]
   rw [ech] at L13;clear hT13 L11 Ld Ldd ech;obtain ⟨S4,hS4⟩:∃S4,S4=S3.change (S3.putL r wd):=⟨_,rfl⟩;rw [<-hS4] at L13;have hc4:S4.c=S3.c:=by rw [hS4];exact q8u _ _
   have L14:=L13.drew;refine qar (x:=some ⟨g,0,none⟩) (by simpa using L14.bx.s.cells 0 _ rfl) ?_;simp only [onPtr_some];refine lI (x:=S4.c.Col) (by simp only [qae];exact L14.t.m.blk.cell 4 rfl) ?_;refine lI (x:=wd) (by simpa using L14.bx.w.cells 0 _ rfl) ?_;rw [qae,qae];refine qah L14.t.m.blk (by simp [qab.rep]) fun w15 hb15 hg15 hs15=>?_;have hc15:=Chg.gg hg15;have x15:Bx w15 w.heap.size w1.heap.size w3.heap.size g r wd:=L14.bx.chg hc15 (fun e=>(L14.ne g (.inl rfl)).1 e.symm) (fun e=>(L14.ne g (.inl rfl)).2.1 e.symm) (fun e=>(L14.ne g (.inl rfl)).2.2 e.symm);have hb15:Blk w15 g qa1 (qab.rep.cells (scX F4 (S4.setCol (w64 (S4.c.Col+wd))))):=hb15;refine qar (x:=some ⟨g,0,none⟩) (by simpa using x15.s.cells 0 _ rfl) ?_;simp only [onPtr_some];refine lI (x:=w64 (S4.c.Col+wd)) (by exact hb15.cell 4 rfl) ?_;have hokl:=hok3.laid hrr hw12 wrap;have elaid:S3.laid r wd wrap=(if w64 (S4.c.Col+wd)>=(S.g.cols:Int) then { S4.setCol (w64 (S4.c.Col+wd)) with c:={ (S4.setCol (w64 (S4.c.Col+wd))).c with Col:=w64 ((S.g.cols:Int)-1),Wrap:=wrap } } else S4.setCol (w64 (S4.c.Col+wd))):=by
    unfold Sc.laid;dsimp only;rw [<-hS4,<-hc4,hc3];rfl
   rw [elaid] at hK3 hokl;refine cO (fun e2=>?_) fun e2=>?_
   ·have e2:w64 (S4.c.Col+wd)>=(S.g.cols:Int):=oTq e2;rw [if_pos e2] at hK3 hokl;have xd:=x15.ext (qav w15);refine qar (x:=some ⟨g,0,none⟩) (by simpa using xd.s.cells 0 _ rfl) (qar (x:=some ⟨g,0,none⟩) (by simpa using xd.s.cells 0 _ rfl) ?_);simp only [onPtr_some];rw [qae,qae];refine qah hb15.drew (by simp [qab.rep]) fun w16 hb16 hg16 hs16=>?_;have hc16:=Chg.gg hg16;have x16:=xd.chg hc16 (fun e=>(L14.ne g (.inl rfl)).1 e.symm) (fun e=>(L14.ne g (.inl rfl)).2.1 e.symm) (fun e=>(L14.ne g (.inl rfl)).2.2 e.symm);refine ⟨by simpa using x16.s.cells 0 _ rfl,?_⟩;rw [qae];refine qah hb16 (by simp [qab.rep,putL]) fun w17 hb17 hg17 hs17=>?_;have hcd:Chg (fun k=>k=g) w15 w15.drew:=Chg.of_ext (qav w15);have hc17:Chg (fun k=>k=g) w13.drew w17:=((hc15.trans hcd fun i _ hi=>hi).trans hc16 fun i _ hi=>hi).trans (Chg.gg hg17) fun i _ hi=>hi;exact hK3 F4 w17 (L14.t.trans (ScT.mk_struct L14.t.m hc17 hb17 rfl rfl rfl rfl rfl rfl hokl))
   ·have e2:¬w64 (S4.c.Col+wd)>=(S.g.cols:Int):=oFq e2;rw [if_neg e2] at hK3 hokl;exact hK3 F4 w15 (L14.t.trans (ScT.mk_struct L14.t.m hc15 hb15 rfl rfl rfl rfl rfl rfl hokl))
  have Ld:=L10.drew;refine qar (x:=some ⟨g,0,none⟩) (by simpa using Ld.bx.s.cells 0 _ rfl) ?_;simp only [onPtr_some];refine lI (x:=S2.c.Col) (by simp only [qae];exact Ld.t.m.blk.cell 4 rfl) ?_;refine lI (x:=wd) (by simpa using Ld.bx.w.cells 0 _ rfl) ?_;have hwr2:S2.c.Wrap=false:=by rw [hS2];rfl
  refine cO (fun e2=>?_) fun e2=>?_
  ·have e2:w64 (S2.c.Col+wd)>(S.g.cols:Int):=oTq e2;rw [if_pos e2] at hK;refine lI (x:=wd) (by simpa using Ld.bx.w.cells 0 _ rfl) ?_;refine cO (fun e3=>?_) fun e3=>?_
   ·have e3:wd>(S.g.cols:Int):=oTq e3;rw [if_pos e3] at hK;exact hK F1 _ Ld.t
   ·have e3:¬wd>(S.g.cols:Int):=oFq e3;rw [if_neg e3] at hK;cases hwv:wrap
    ·rw [hwv] at hK key2;rw [if_neg (by decide)] at hK;refine cF rfl ?_;refine qar (x:=some ⟨g,0,none⟩) (by simpa using Ld.bx.s.cells 0 _ rfl) ?_;refine lI (x:=wd) (by simpa using Ld.bx.w.cells 0 _ rfl) ?_;simp only [onPtr_some];rw [qae,qae];refine qah Ld.t.m.blk (by simp [qab.rep]) fun w19 hb19 hg19 hs19=>?_;have ew:w64 ((S.g.cols:Int)-wd)=(S.g.cols:Int)-wd:=qck (by omega);have hokc:ScOk (S2.setCol (w64 ((S.g.cols:Int)-wd))):=Ld.t.m.ok.setCol (by rw [ew,hc2];omega);have L19:=Ld.step (ScT.mk_struct Ld.t.m (Chg.gg hg19) (S':=S2.setCol (w64 ((S.g.cols:Int)-wd))) hb19 rfl rfl rfl rfl rfl rfl hokc);exact key2 _ _ _ L19 hc2 hwr2 hK
    ·rw [hwv] at hK key2;rw [if_pos rfl] at hK;refine cT rfl ?_;have Ldd:=Ld.drew;refine qar (x:=some ⟨g,0,none⟩) (by simpa using Ldd.bx.s.cells 0 _ rfl) (qar (x:=some ⟨g,0,none⟩) (by simpa using Ldd.bx.s.cells 0 _ rfl) ?_);simp only [onPtr_some];refine lI (x:=S2.c.Row) (by simp only [qae];exact Ldd.t.m.blk.cell 3 rfl) ?_;refine qci Ldd.t.m fun w17 hT17=>?_;have L17:=Ldd.step hT17;refine qar (x:=some ⟨g,0,none⟩) (by simpa using L17.bx.s.cells 0 _ rfl) ?_;refine qog L17.t.m fun F5 w18 hT18=>?_;have L18:=L17.step hT18;have hn:=q6d L10.t.m.ok;refine key2 S2.next _ _ L18 (hn.1.trans hc2) ?_ hK;unfold Sc.next Sc.index;split
     ·show (Sc.scroll _ _ _ _).c.Wrap=false;unfold Sc.scroll;rw [q5f];rfl
     ·rfl
  ·have e2:¬w64 (S2.c.Col+wd)>(S.g.cols:Int):=oFq e2;rw [if_neg e2] at hK;exact key2 S2 _ _ Ld hc2 hwr2 hK
 refine jpO fun J3 hJ3=>?_;refine qar (x:=some ⟨g,0,none⟩) (by simpa using L7.bx.s.cells 0 _ rfl) ?_;simp only [onPtr_some];refine qhx (x:=S1.c.Wrap) (by simp only [qae];exact L7.t.m.blk.cell 5 rfl) ?_;have key3:∀b:Bool,(b=true↔S1.c.Wrap=true/\wrap=true)->J3 (b,()) w7:=by
  intro b hb;refine hJ3 _ _ ?_;refine cO (fun e=>?_) fun e=>?_
  ·have e:=hb.1 e;rw [if_pos e] at hSx;have Ld:=L7.drew;refine qar (x:=some ⟨g,0,none⟩) (by simpa using Ld.bx.s.cells 0 _ rfl) (qar (x:=some ⟨g,0,none⟩) (by simpa using Ld.bx.s.cells 0 _ rfl) ?_);simp only [onPtr_some];refine lI (x:=S1.c.Row) (by simp only [qae];exact Ld.t.m.blk.cell 3 rfl) ?_;refine qci Ld.t.m fun w17 hT17=>?_;have L17:=Ld.step hT17;refine qar (x:=some ⟨g,0,none⟩) (by simpa using L17.bx.s.cells 0 _ rfl) ?_;refine qog L17.t.m fun F5 w18 hT18=>?_;have L18:=L17.step hT18;rw [hSx] at key1;exact key1 _ _ L18
  ·have e:¬(S1.c.Wrap=true/\wrap=true):=fun hh=>by rw [hb.2 hh] at e;cases e
   rw [if_neg e] at hSx;rw [hSx] at key1;exact key1 _ _ L7
 refine cO (fun e=>key3 _ ?_) fun e=>key3 _ ?_
 ·exact ⟨fun hh=>⟨e,hh⟩,fun hh=>hh.2⟩
 ·exact ⟨(fun hh=>by cases hh),fun hh=>absurd hh.1 (by rw [e];decide)⟩
theorem zfa (h:ScM w base g F S) {K:Int->Prop} (hK:K (S.set2 S.c.Shift)):ixA (((⟨g,0,none⟩:Addr).add 3).add 7) 2 S.c.Shift 1 fun t=>ldI .u8 t w K:=by
 have hs:=h.ok.shift;unfold Sc.set2 at hK;rcases hs with e | e
 ·rw [e] at hK ⊢;exact ⟨⟨by decide,by decide⟩,lI (x:=S.c.Sets.e0) (by simp only [qae];exact h.blk.cell 10 rfl) hK⟩
 ·rw [e] at hK ⊢;exact ⟨⟨by decide,by decide⟩,lI (x:=S.c.Sets.e1) (by simp only [qae];exact h.blk.cell 11 rfl) hK⟩
theorem zb9 {K:World->Prop} (h:ScM w base g F S) (hK:∀F' w',ScT base g w F F' (S.print r) w'->K w'):qhr (some ⟨g,0,none⟩) r w K:=by
 refine qui _ _ ?_;unfold qlw;simp only [onPtr_some];refine jpO fun J1 hJ1=>?_;unfold Sc.print at hK;have key:∀b:Bool,(b=true↔0<=r/\r<128)->J1 (b,()) w:=by
  intro b hb;refine hJ1 _ _ ?_;refine cO (fun e=>?_) fun e=>?_
  ·have e:=hb.1 e;rw [if_pos e] at hK;have hd:=(ScT.refl h).drew;refine lI (x:=S.c.Shift) (by simp only [qae];exact hd.m.blk.cell 12 rfl) (zfa hd.m ?_);obtain ⟨n,rfl⟩:∃n:Nat,r=n:=⟨r.toNat,by omega⟩;rw [show IntKind.u8.wrap (n:Int)=n from qml .u8 (by show _<2^8;omega)];refine q81 (by omega) fun w2 hB2=>?_;have h2:=hd.ext hB2;exact q3p h2.m fun F' w' hT=>hK F' w' (h2.trans hT)
  ·have e:¬(0<=r/\r<128):=fun hh=>by rw [hb.2 hh] at e;cases e
   rw [if_neg e] at hK;exact q3p h hK
 refine cO (fun e=>key _ ?_) fun e=>key _ ?_
 ·have e:r>=0:=oTq e;exact ⟨fun hh=>⟨e,oTq hh⟩,fun hh=>dTq hh.2⟩
 ·have e:¬r>=0:=oFq e;exact ⟨(fun hh=>by cases hh),fun hh=>absurd hh.1 e⟩
end
section
variable {w w':World} {base g:Nat} {F F':ScF} {S S':Sc}
theorem ScM.remake (h:ScM w base g F S) (hc:Chg (fun k=>k=g) w w') (hb:Blk w' g qa1 (qab.rep.cells (scX F' S'))) (f0:F'.f0=F.f0) (f1:F'.f1=F.f1) (e0:S'.g0=S.g0) (e1:S'.g1=S.g1)
  (hst:StopsM w F'.tg F'.tr S'.stops) (hstb:base<=F'.tg/\base<=F'.tr) (hmo:MapM encO w F'.mm S'.modes) (hpr:MapM encO w F'.mp S'.priv) (hmb:base<=F'.mm/\base<=F'.mp) (hdm:F'.mm≠F'.mp/\F'.tr≠F'.mm/\F'.tr≠F'.mp)
  (har:Go.Vc.Own qgh w base F'.ar S'.areas) (ok:ScOk S'):ScM w' base g F' S':=by
 have hC:∀k cs,k=g->¬Blk w k qao cs:=fun k cs hk hcs=>h.notC k cs (.inl hk) hcs;refine ⟨hb,h.hg,?_,?_,hst.keep hc ?_ ?_,hstb,hmo.chg hc ?_,hpr.chg hc ?_,hmb,hdm,har.chg hc fun k hk e=>?_,?_,ok⟩
 ·rw [e0,f0];exact h.g0.chg hc (fun k hk=>h.of_g k (.inl hk)) hC
 ·rw [e1,f1];exact h.g1.chg hc (fun k hk=>h.of_g k (.inr (.inl hk))) hC
 ·exact hst.blk.ne_t h.blk (by decide)
 ·exact fun e=>qb7 hst.map h.blk e.symm
 ·exact fun e=>qb7 hmo h.blk e.symm
 ·exact fun e=>qb7 hpr h.blk e.symm
 ·obtain ⟨cs,hcs⟩:=har.blk_t hk;rw [e] at hcs;exact h.blk.ne_t hcs (by decide) rfl
 ·rw [f0,f1];exact h.dg
theorem qmt {r:Nat} {L:List (Int×Bool)} (h:MapM encO w r L) {n:Int} (hn:-9223372036854775808<=n/\n<=9223372036854775807) {b:Bool} {K:Option Value->World->Prop}
  (hK:∀w',MapM encO w' r (putL' L n b)->Chg (fun k=>k=r) w w'->w'.heap.size=w.heap.size->K none w'):runU PG (Instr.mapUpdate qas (.map (some r)) (.int .i64 n) (.bool b)) w K:=by
 obtain ⟨w',h1,h2,h3,h4⟩:=h.update tmapT tintT hn b;exact ⟨w',h1,hK w' h2 h3 h4⟩
theorem ScOk.fillRow (h:ScOk S) (row from_ to:Int):ScOk (S.fillRow row from_ to):=by
 unfold Sc.fillRow;split
 ·rename_i hr;exact h.changed (f:=fun xs=>eraP xs from_ to S.blank) (fun xs hx=>zh5 hx _ _ _) hr
 ·exact h
theorem zfp {row from_ to:Int} {K:Bool->World->Prop} (h:ScM w base g F S) (hK:∀b F' w',ScT base g w F F' (S.fillRow row from_ to) w'->K b w'):qit (some ⟨(F.f S.alt).g,0,none⟩) row from_ to S.blank w K:=by
 have hG:=h.gOk;have ok:=h.ok.fillRow row from_ to;unfold Sc.fillRow at hK ok;refine zcn h.gM hG.len (fun xs hx=>by have:=(hG.L xs hx).2.1;have:=hG.cols.2;omega) h.base_le (fun w' hr hg hc=>?_) fun w' hr hB=>?_
 ·rw [if_pos hr] at hK ok;exact hK _ _ w' (ScT.mk_grid h hg (Foot.to.refl _ _) hc ok)
 ·rw [if_neg hr] at hK ok;exact hK _ F w' (ScT.of_ext h hB)
theorem q8k (S:Sc) (row from_ to:Int):(S.fillRow row from_ to).c=S.c/\(S.fillRow row from_ to).alt=S.alt/\(S.fillRow row from_ to).areas=S.areas/\(S.fillRow row from_ to).top=S.top:=by
 unfold Sc.fillRow Sc.withG;split
 ·split<;>exact ⟨rfl,rfl,rfl,rfl⟩
 ·exact ⟨rfl,rfl,rfl,rfl⟩
theorem qyp (S:Sc) (row from_ to:Int):∀n,(S.fills row from_ to n).c=S.c/\(S.fills row from_ to n).alt=S.alt/\(S.fills row from_ to n).areas=S.areas
 | 0=>⟨rfl,rfl,rfl⟩
 | n+1=>by
  have h1:=qyp S row from_ to n;have h2:=q8k (S.fills row from_ to n) (w64 (row+n)) from_ to;exact ⟨h2.1.trans h1.1,h2.2.1.trans h1.2.1,h2.2.2.1.trans h1.2.2⟩
theorem ScOk.areas (h:ScOk S) (l:List qbs):ScOk { S with areas:=l }:=⟨h.g0,h.g1,h.rows,h.cols,h.row,h.col,h.shift,h.sh0,h.sh1,h.top,h.marg,h.stops⟩
theorem qwk (S:Sc) (row rows from_ to:Int):(S.erase row rows from_ to).areas.length<=S.areas.length+1:=by
 unfold Sc.erase;split
 ·omega
 ·dsimp only;rw [length_append,(qyp S row from_ to _).2.2];simp
theorem q6f {a:qbs} {vs:List Value} {K:World->Prop} (h:ScM w base g F S) (ha:S.areas.length<=1000000000) (hv:qbs.rep.cells a=vs) (hK:∀q w',ScT base g w F { F with ar:=q } { S with areas:=S.areas++[a] } w'->K w') :
  nw qd3 vs w fun t w9=>World.cell? w9 ((⟨g,0,none⟩:Addr).add 41)=some (.slice F.ar.a F.ar.n F.ar.c) /\
   apK PG #[qba,qba] qba F.ar (⟨(some t),1,1⟩:Slc) w9 fun t50 w10=>stK ((⟨g,0,none⟩:Addr).add 41) [(.slice t50.a t50.n t50.c)] w10 K:=by
 refine nwb fun w9 h9 hB9 hs9=>⟨(h.ext hB9).blk.cells 41 _ rfl,?_⟩;have h9':=h.ext hB9;refine qde qr9 h9'.ar (qkj (E:=qgh) h9 hv) h9'.base_le (by rw [q12];simp only [List.length_singleton];omega) (by simp only [List.length_singleton];unfold maxLen;omega) fun q w10 ho10 hg10 hq10=>?_;have hc10:Chg (fun k=>F.ar.blk=some k) w9 w10:=Chg.of_grown hg10 fun k hk=>hk;have hb10:=h9'.blk.chg hc10 fun e=>h9'.of_g g (.inr (.inr (.inr (.inr (.inr (.inr e)))))) rfl;rw [qae];refine qah hb10 (by simp [qab.rep]) fun w11 hb11 hg11 hs11=>?_;have hne:∀k,(k=g\/gridS F.f0 k\/gridS F.f1 k\/k=F.tg\/k=F.tr\/k=F.mm\/k=F.mp)->¬F.ar.blk=some k:=by
  rintro k (rfl | hk | hk | rfl | rfl | rfl | rfl) e
  ·exact h9'.of_g k (.inr (.inr (.inr (.inr (.inr (.inr e)))))) rfl
  ·exact (h9'.of_grid false k hk).2.2.2.2.2.2 e
  ·exact (h9'.of_grid true k hk).2.2.2.2.2.2 e
  ·obtain ⟨cs,hcs⟩:=h9'.ar.blk_t e;exact hcs.ne_t h9'.st.blk (by decide) rfl
  ·obtain ⟨cs,hcs⟩:=h9'.ar.blk_t e;exact qb7 h9'.st.map hcs rfl
  ·obtain ⟨cs,hcs⟩:=h9'.ar.blk_t e;exact qb7 h9'.mo hcs rfl
  ·obtain ⟨cs,hcs⟩:=h9'.ar.blk_t e;exact qb7 h9'.pr hcs rfl
 have hC:∀k cs,F.ar.blk=some k->¬Blk w9 k qao cs:=fun k cs e hcs=>h9'.notC k cs (.inr (.inr (.inr (.inr (.inr (.inr (.inr e))))))) hcs;have hc11:=Chg.gg hg11;have c2:∀k cs,k=g->¬Blk w10 k qao cs:=fun k cs hk hcs=>by subst hk;exact hb10.ne_t hcs (by decide) rfl
 have hg0:=(h9'.g0.chg hc10 (fun k hk=>hne k (.inr (.inl hk))) hC).chg hc11 (fun k hk=>h.of_g k (.inl hk)) c2;have hg1:=(h9'.g1.chg hc10 (fun k hk=>hne k (.inr (.inr (.inl hk)))) hC).chg hc11 (fun k hk=>h.of_g k (.inr (.inl hk))) c2;have hst:=(h9'.st.keep hc10 (hne _ (.inr (.inr (.inr (.inl rfl))))) (hne _ (.inr (.inr (.inr (.inr (.inl rfl))))))).keep hc11 (h.of_g _ (.inr (.inr (.inl rfl)))) (h.of_g _ (.inr (.inr (.inr (.inl rfl)))));have hmo:=(h9'.mo.chg hc10 (hne _ (.inr (.inr (.inr (.inr (.inr (.inl rfl)))))))).chg hc11 (h.of_g _ (.inr (.inr (.inr (.inr (.inl rfl))))));have hpr:=(h9'.pr.chg hc10 (hne _ (.inr (.inr (.inr (.inr (.inr (.inr rfl)))))))).chg hc11 (h.of_g _ (.inr (.inr (.inr (.inr (.inr (.inl rfl)))))));have hqg:∀k,q.blk=some k->k≠g:=by
  intro k hk e;obtain ⟨cs,hcs⟩:=ho10.blk_t hk;rw [e] at hcs;exact hb10.ne_t hcs (by decide) rfl
 refine hK q w11 ⟨⟨hb11,h.hg,hg0,hg1,hst,h.hst,hmo,hpr,h.hm,h.dm,ho10.chg hc11 hqg,h.dg,h.ok.areas _⟩,?_,?_⟩
 ·rintro k (rfl | hk | hk | hk | hk | hk | hk | hk)
  ·exact .inl (.inl rfl)
  ·exact .inl (.inr (.inl hk))
  ·exact .inl (.inr (.inr (.inl hk)))
  ·exact .inl (.inr (.inr (.inr (.inl hk))))
  ·exact .inl (.inr (.inr (.inr (.inr (.inl hk)))))
  ·exact .inl (.inr (.inr (.inr (.inr (.inr (.inl hk))))))
  ·exact .inl (.inr (.inr (.inr (.inr (.inr (.inr (.inl hk)))))))
  ·have hk:q.blk=some k:=hk;rcases hq10 with h1 | h1
   ·exact .inl (.inr (.inr (.inr (.inr (.inr (.inr (.inr (by rw [<-h1];exact hk))))))))
   ·rw [h1] at hk;injection hk with hk
    have:=hB9.size;exact .inr (by omega)
 ·exact ((Chg.of_ext (S:=scS g F) hB9).trans (hc10.mono fun i hi e=>.inr (.inr (.inr (.inr (.inr (.inr (.inr e))))))) fun i hi e=>e).trans (hc11.mono fun i hi e=>.inl e) fun i hi e=>e
theorem qgn {row rows from_ to:Int} {K:World->Prop} (h:ScM w base g F S) (ha:S.areas.length<=1000000000) (hr:rows<=9223372036854775806) (hK:∀F' w',ScT base g w F F' (S.erase row rows from_ to) w'->K w'):qbm (some ⟨g,0,none⟩) row rows from_ to w K:=by
 refine qtb _ _ _ _ _ ?_;unfold ql3;refine jpO fun J1 hJ1=>?_;unfold Sc.erase at hK;refine cO (fun e=>?_) fun e1=>cO (fun e=>?_) fun e2=>hJ1 _ _ ?_
 ·have e:rows<1:=oTq e;rw [if_pos (.inl e)] at hK;exact hK F w (ScT.refl h)
 ·have e:from_>=to:=oTq e;rw [if_pos (.inr e)] at hK;exact hK F w (ScT.refl h)
 have e1:¬rows<1:=oFq e1;have e2:¬from_>=to:=oFq e2;rw [if_neg (fun hh=>hh.elim e1 e2)] at hK;refine lpR (fun (st:Int×Unit) w2=>∃(k:Nat) (F2:ScF),st.1=(k:Int)/\(k:Int)<=rows/\ScT base g w F F2 (S.fills row from_ to k) w2) (fun st=>rows.toNat-st.1.toNat) ⟨0,F,rfl,by omega,ScT.refl h⟩ ?_;rintro ⟨i,u⟩ w2 ⟨k,F2,hi,hk,hT2⟩ I hI;dsimp only at hi ⊢;subst hi;refine cO (fun e=>?_) fun e=>?_
 ·have e:=oTq e;refine qgi hT2.m ?_;have hd:=hT2.drew;refine qss hd.m fun w4 hB4=>?_;have h4:=hd.ext hB4;refine zfp h4.m fun b F5 w5 hT5=>?_;rw [w64i (x:=(k:Int)+1) (by omega)];exact hI _ _ ⟨k+1,F5,by simp,by omega,h4.trans hT5⟩ (by dsimp only;omega)
 ·have e:=oFq e;have hkr:k=rows.toNat:=by omega
  rw [<-hkr] at hK;have hf:=qyp S row from_ to k;simp only [onPtr_some];have hd:=hT2.drew;refine lSl (x:=F2.ar) (hd.m.blk.cells 41 _ rfl) ?_;refine q3i hd.m ⟨hd.m.blk.cells 41 _ rfl,?_⟩;refine qgi hd.m ?_;have hdd:=hd.drew;refine ⟨hdd.m.blk.cells 41 _ rfl,?_⟩;refine qvp hdd.m.gM ⟨hdd.m.blk.cells 41 _ rfl,?_⟩;rw [hf.2.1] at *;exact q6f hdd.m (by rw [hf.2.2];exact ha) rfl fun q w' hT=>hK _ w' (hdd.trans hT)
end
section
variable {w w':World} {base g:Nat} {F F':ScF} {S S':Sc}
theorem qnd {w:World} {b:Nat} {t:TypeId} {vs us:List Value} (h:Blk w b t vs) (o:Nat) (hu:(vs.drop o).take us.length=us):qai w ⟨b,o,none⟩ us:=by
 intro j v hj;have h1:vs[o+j]?=some v:=by
  have hjl:j<us.length:=(List.getElem?_eq_some_iff.1 hj).1;rw [<-hu,List.getElem?_take_of_lt hjl,List.getElem?_drop] at hj;exact hj
 have h2:=h.cells (o+j) v h1;rw [qae] at h2 ⊢;rw [Nat.zero_add] at h2;exact h2
theorem ScOk.sv (h:ScOk S):S.sv.c.Shift=0\/S.sv.c.Shift=1:=by
 unfold Sc.sv;split
 ·exact h.sh1
 ·exact h.sh0
theorem ScOk.restore (h:ScOk S):ScOk S.restore:=by
 have hb:=h.bnd;have e1:w64 ((S.g.rows:Int)-1)=(S.g.rows:Int)-1:=qck (by omega);have e2:w64 ((S.g.cols:Int)-1)=(S.g.cols:Int)-1:=qck (by omega);unfold Sc.restore;dsimp only;rw [e1,e2];obtain ⟨x,hx⟩:∃x:Cur,x=if S.sv.is then S.sv.c else qgs:=⟨_,rfl⟩
 rw [<-hx];have h1:=qkt (v:=x.Row) (lo:=0) (hi:=(S.g.rows:Int)-1) (by omega);have h2:=qkt (v:=x.Col) (lo:=0) (hi:=(S.g.cols:Int)-1) (by omega);refine h.cur (by dsimp only;omega) (by dsimp only;omega) ?_;show x.Shift=0\/x.Shift=1;rw [hx];split
 ·exact h.sv
 ·exact .inl rfl
theorem qs7 {K:World->Prop} (h:ScM w base g F S) (hK:∀w',ScT base g w F F S.restore w'->K w'):qc3 (some ⟨g,0,none⟩) w K:=by
 refine qrf _ ?_;unfold qj1;simp only [onPtr_some];have hd:=(ScT.refl h).drew;have hok:=h.ok.restore;refine lI (x:=if S.alt then 1 else 0) (hd.m.blk.cells 2 _ rfl) ?_;have hix:(0:Int)<=(if S.alt then 1 else 0)/\(if S.alt then (1:Int) else 0)<((2:Nat):Int):=by split<;>exact ⟨by decide,by decide⟩
 refine ⟨hix,?_⟩;have hsv:∀{w1},Blk w1 g qa1 (qab.rep.cells (scX F S))->qai w1 (((⟨g,0,none⟩:Addr).add 13).add ((if S.alt then (1:Int) else 0).toNat*11)) (qbr.rep.cells S.sv):=by
  intro w1 hb;unfold Sc.sv;cases hS:S.alt
  ·rw [qae,qae];exact qnd hb 13 rfl
  ·rw [qae,qae];exact qnd hb 24 rfl
 refine qaq (r:=qbr.rep) (x:=S.sv) (hsv hd.m.blk) ?_;refine nwb fun w1 hx1 hB1 hs1=>?_;have h1:=hd.ext hB1;refine ⟨hsv h1.m.blk,h1.m.blk.cells 2 _ rfl,qfo hx1 rfl fun w2 hx2 hc2 hs2=>?_⟩;have hB2:Below w.drew.heap.size w.drew w2:=qbj hB1 hc2 (le_refl _);have h2:=hd.ext hB2;refine jpO fun J1 hJ1=>?_;obtain ⟨x,hx⟩:∃x:Cur,x=if S.sv.is then S.sv.c else qgs:=⟨_,rfl⟩
 have key:∀(w3:World) (b:Bool),Below w.drew.heap.size w.drew w3->Blk w3 w.drew.heap.size qny (qbr.rep.cells ⟨x,b⟩)->J1 () w3:=by
  intro w3 b hB3 hx3;refine hJ1 _ _ ?_;have h3:=hd.ext hB3;refine qcz h3.m ?_;have h4:=h3.drew.drew;have hx4:Blk w3.drew.drew w.drew.heap.size qny (qbr.rep.cells ⟨x,b⟩):=hx3;refine qaq (r:=qak.rep) (x:=x) (by rw [qae];exact qnd hx4 0 rfl) ?_;rw [qae];refine qah h4.m.blk (by simp [qab.rep,qak.rep]) fun w5 hb5 hg5 hs5=>?_;have hgx:g≠w.drew.heap.size:=by
   have:=(h.below g (.inl rfl)).2;exact fun e=>by
    have:g=w.heap.size:=e;omega
  have hx5:=hx4.chg (Chg.gg hg5) (fun e=>hgx e.symm);have hxd:=hx5.drew;refine lI (x:=x.Row) (by simp only [qae];exact hxd.cell 0 rfl) (lI (x:=x.Col) (by simp only [qae];exact hxd.cell 1 rfl) ?_);refine qdt ⟨by simp only [qae];exact hxd.cell 1 rfl,qdt ?_⟩;rw [qae,qae];refine qah hb5.drew (by simp [qab.rep,qak.rep,putL]) fun w6 hb6 hg6 hs6=>?_;refine qah hb6 (by simp [qab.rep,qak.rep,putL]) fun w7 hb7 hg7 hs7=>?_;have hcd:Chg (fun k=>k=g) w5 w5.drew:=Chg.of_ext (qav w5);have hc7:Chg (fun k=>k=g) w3.drew.drew w7:=(((Chg.gg hg5).trans hcd fun i _ hi=>hi).trans (Chg.gg hg6) fun i _ hi=>hi).trans (Chg.gg hg7) fun i _ hi=>hi;refine hK w7 (h4.trans (ScT.mk_struct h4.m hc7 (S':=S.restore) ?_ rfl rfl rfl rfl rfl rfl hok));have e:S.restore={ S with c:={ x with Row:=cutP x.Row 0 (w64 ((S.g.rows:Int)-1)),Col:=cutP x.Col 0 (w64 ((S.g.cols:Int)-1)) } }:=by
   unfold Sc.restore;rw [<-hx]
  rw [e];exact hb7
 refine qhx (x:=S.sv.is) (by simp only [qae];exact hx2.cell 10 rfl) ?_;cases hi:S.sv.is
 ·refine cT rfl (qyg fun w10 hB10=>?_);have hx10:=hx2.ext hB10;rw [qae];refine qah hx10 (by simp [qbr.rep,qak.rep]) fun w11 hb11 hg11 hs11=>?_;have hB11:Below w.drew.heap.size w.drew w11:=qbj (qaz hB2 hB10) (Chg.gg hg11) (le_refl _);refine key w11 false hB11 ?_;rw [hi,if_neg (by decide)] at hx;rw [hx];have hc:S.sv=⟨S.sv.c,false⟩:=by rw [<-hi]
  rw [hc] at hb11;exact hb11
 ·refine cF rfl (key w2 true hB2 ?_);rw [hi,if_pos rfl] at hx;have hc:S.sv=⟨S.sv.c,true⟩:=by rw [<-hi]
  rw [hc] at hx2;rw [hx];exact hx2
theorem ScOk.plain (h:ScOk S):ScOk S.plain:=⟨h.g0,h.g1,h.rows,h.cols,h.row,h.col,h.shift,h.sh0,h.sh1,h.top,h.marg,h.stops⟩
theorem zdb {K:World->Prop} (h:ScM w base g F S) (hK:∀F' w',ScT base g w F F' S.plain w'->K w'):qeq (some ⟨g,0,none⟩) w K:=by
 refine qjt _ ?_;unfold qhb nwM;dsimp only;have hbase:=h.base_le;have hB1:Below w.heap.size w (w.alloc (.map #[] 0)):=(Below.refl _ w).alloc (le_refl _) _;have hs1:(w.alloc (.map #[] 0)).heap.size=w.heap.size+1:=by simp
 have m1:MapM encO (w.alloc (.map #[] 0)) w.heap.size []:=MapM.new w;generalize w.alloc (.map #[] 0)=w1 at hB1 hs1 m1 ⊢;have hB2:Below w1.heap.size w1 (w1.alloc (.map #[] 0)):=(Below.refl _ w1).alloc (le_refl _) _;have hs2:(w1.alloc (.map #[] 0)).heap.size=w1.heap.size+1:=by simp
 have m2:MapM encO (w1.alloc (.map #[] 0)) w1.heap.size []:=MapM.new w1;generalize w1.alloc (.map #[] 0)=w2 at hB2 hs2 m2 ⊢;have m1':=m1.ext hB2;refine qmt (n:=7) (b:=true) m2 (by decide) fun w3 m3 hc3 hs3=>?_;refine qmt (n:=25) (b:=true) m3 (by decide) fun w4 m4 hc4 hs4=>?_;have hc24:Chg (fun k=>k=w1.heap.size) w2 w4:=hc3.trans hc4 fun i _ hi=>hi;have m1'':=m1'.chg hc24 (by omega);have hB4:Below w.heap.size w w4:=qbj (qaz hB1 hB2) hc24 (by omega);have hT4:=ScT.of_ext h hB4;simp only [onPtr_some];rw [qae];refine qah hT4.m.blk (by simp [qab.rep]) fun w5 hb5 hg5 hs5=>?_;rw [qae];refine qah hb5 (by simp [qab.rep,putL]) fun w6 hb6 hg6 hs6=>?_;have hc6:Chg (fun k=>k=g) w4 w6:=(Chg.gg hg5).trans (Chg.gg hg6) fun i _ hi=>hi;have htr:=h.below F.tr (.inr (.inr (.inr (.inr (.inl rfl)))));have hM:=hT4.m.remake (F':={ F with mm:=w.heap.size,mp:=w1.heap.size }) (S':=S.plain) hc6 hb6 rfl rfl rfl rfl hT4.m.st h.hst m1'' m4 ⟨hbase,by dsimp only;omega⟩ ⟨by dsimp only;omega,by dsimp only;omega,by dsimp only;omega⟩ hT4.m.ar h.ok.plain;refine hK _ w6 ⟨hM,?_,?_⟩
 ·rintro k (rfl | hk | hk | hk | hk | hk | hk | hk)
  ·exact .inl (.inl rfl)
  ·exact .inl (.inr (.inl hk))
  ·exact .inl (.inr (.inr (.inl hk)))
  ·exact .inl (.inr (.inr (.inr (.inl hk))))
  ·exact .inl (.inr (.inr (.inr (.inr (.inl hk)))))
  ·have hk:k=w.heap.size:=hk;exact .inr (by omega)
  ·have hk:k=w1.heap.size:=hk;exact .inr (by omega)
  ·exact .inl (.inr (.inr (.inr (.inr (.inr (.inr (.inr hk)))))))
 ·exact (Chg.of_ext (S:=scS g F) hB4).trans (hc6.mono fun i hi e=>.inl e) fun i hi e=>e
end
theorem RingM.base {w:World} {base base' r most:Nat} {s:Slc} {old:List (List Cell)} (h:RingM w base r s most old) (hb:base'<=base):RingM w base' r s most old:=by
 obtain ⟨at_,gone,ls,xss,h1,ho,hl,hbr,e,hm,ha⟩:=h;exact ⟨at_,gone,ls,xss,h1,ho.base hb,⟨hl.1,fun i s xs e1 e2=>(hl.2 i s xs e1 e2).base hb⟩,by omega,e,hm,ha⟩
theorem GridM.base {w:World} {base base':Nat} {f:Foot} {S:GS} (h:GridM w base f S) (hb:base'<=base):GridM w base' f S:=by
 obtain ⟨ls,ho,hl⟩:=h.row;exact ⟨h.blk,by have:=h.hg;omega,⟨ls,ho.base hb,⟨hl.1,fun i s xs e1 e2=>(hl.2 i s xs e1 e2).base hb⟩⟩,h.ring.base hb,h.ne⟩
theorem zgr {w:World} {g r:Nat} {B:List Bool} (h:StopsM w g r B) {k:Nat} {cs:List Value} (hb:Blk w k qa1 cs):k≠g/\k≠r:=⟨hb.ne_t h.blk (by decide),qb7 h.map hb⟩
theorem q17 (X:qab):putL (qab.rep.cells X) (0+13) [(.int .i64 0),(.int .i64 0),(.bool false),(.int .i64 0),(.int .i64 0),(.int .i64 0),(.bool false),(.int .u8 0),(.int .u8 0),(.int .i64 0),(.bool false),(.int .i64 0),(.int .i64 0),(.bool false),(.int .i64 0),(.int .i64 0),(.int .i64 0),(.bool false),(.int .u8 0),(.int .u8 0),(.int .i64 0),(.bool false)]=qab.rep.cells { X with saved:=⟨sav0,sav0⟩ }:=by
 kernel_rfl
structure ScR (w:World) (base g:Nat) (X:qab) (f0 f1:Foot) (G0 G1:GS) (ar:Slc) (az:List qbs):Prop where
 blk:Blk w g qa1 (qab.rep.cells X)
 gr:X.grids=⟨some ⟨f0.g,0,none⟩,some ⟨f1.g,0,none⟩⟩
 xa:X.areas=ar
 hg:base<=g
 g0:GridM w base f0 G0
 g1:GridM w base f1 G1
 ar:Go.Vc.Own qgh w base ar az
 dg:∀k,gridS f0 k->¬gridS f1 k
section
variable {w w':World} {base g:Nat} {F F':ScF} {S S':Sc} {X X':qab} {f0 f1:Foot} {G0 G1:GS} {ar:Slc} {az:List qbs}
theorem ScM.toR (h:ScM w base g F S):ScR w base g (scX F S) F.f0 F.f1 S.g0 S.g1 F.ar S.areas:=⟨h.blk,rfl,rfl,h.hg,h.g0,h.g1,h.ar,h.dg⟩
theorem ScR.step (h:ScR w base g X f0 f1 G0 G1 ar az) (hc:Chg (fun k=>k=g) w w') (hb:Blk w' g qa1 (qab.rep.cells X')) (e1:X'.grids=X.grids) (e2:X'.areas=X.areas):ScR w' base g X' f0 f1 G0 G1 ar az:=by
 have hC:∀k cs,k=g->¬Blk w k qao cs:=fun k cs hk hcs=>by subst hk;exact h.blk.ne_t hcs (by decide) rfl
 refine ⟨hb,e1.trans h.gr,e2.trans h.xa,h.hg,h.g0.chg hc (fun k hk e=>?_) hC,h.g1.chg hc (fun k hk e=>?_) hC,h.ar.chg hc fun k hk e=>?_,h.dg⟩
 ·subst e;have:=qs2 h.g0 hk h.blk;revert this;decide
 ·subst e;have:=qs2 h.g1 hk h.blk;revert this;decide
 ·obtain ⟨cs,hcs⟩:=h.ar.blk_t hk;rw [e] at hcs;exact h.blk.ne_t hcs (by decide) rfl
theorem ScR.ext (h:ScR w base g X f0 f1 G0 G1 ar az) (hB:Below w.heap.size w w'):ScR w' base g X f0 f1 G0 G1 ar az :=
 ⟨h.blk.ext hB,h.gr,h.xa,h.hg,h.g0.ext hB,h.g1.ext hB,h.ar.ext hB,h.dg⟩
theorem ScR.fin (h:ScR w base g (scX F S) F.f0 F.f1 S.g0 S.g1 F.ar S.areas) (hst:StopsM w F.tg F.tr S.stops) (hstb:base<=F.tg/\base<=F.tr) (hmo:MapM encO w F.mm S.modes) (hpr:MapM encO w F.mp S.priv) (hmb:base<=F.mm/\base<=F.mp) (hdm:F.mm≠F.mp/\F.tr≠F.mm/\F.tr≠F.mp) (ok:ScOk S):ScM w base g F S :=
 ⟨h.blk,h.hg,h.g0,h.g1,hst,hstb,hmo,hpr,hmb,hdm,h.ar,h.dg,ok⟩
theorem zc3 {K:Int->Int->World->Prop} (h:ScR w base g X f0 f1 G0 G1 ar az) (hn:X.now=0) (hK:K G0.rows G0.cols w.drew.drew):qay (some ⟨g,0,none⟩) w K:=by
 refine qf9 _ ?_;unfold qem;refine qip _ ?_;unfold qgm;simp only [onPtr_some];have h1:=h.ext (qav w);refine lI (x:=0) (by rw [<-hn];exact h1.blk.cells 2 _ rfl) ?_;refine ⟨⟨by decide,by decide⟩,qar (x:=some ⟨f0.g,0,none⟩) ?_ (qok h1.g0 hK)⟩;have e:=congrArg qew.e0 h.gr;have e:X.grids.e0=some ⟨f0.g,0,none⟩:=e;rw [<-e];exact h1.blk.cells 0 _ rfl
theorem qcg {T:Nat->Prop} {a b c:World} (h:Chg T a b) (k:Chg T b c):Chg T a c:=h.trans k fun i _ hi=>hi
def q4h (G0 G1:GS) (az:List qbs):Sc:=⟨G0,G1,false,qgs,sav0,sav0,[],putL' (putL' [] 7 true) 25 true,0,G0.rows,resz [] G0.cols,-1,az⟩
set_option maxHeartbeats 400000 in
theorem q2w {K:World->Prop} (h:ScR w base g X f0 f1 G0 G1 ar az) (hG0:GOk G0) (hG1:GOk G1) (hr:G1.rows=G0.rows) (hc:G1.cols=G0.cols) (hb:base<=w.heap.size)
  (hK:∀tg tr mm mp w',w.heap.size<=tg->w.heap.size<=tr->w.heap.size<=mm->w.heap.size<=mp->ScM w' base g ⟨f0,f1,tg,tr,mm,mp,ar⟩ (q4h G0 G1 az)->Chg (fun k=>k=g) w w'->K w'):qdm (some ⟨g,0,none⟩) w K:=by
 refine qtt _ ?_;unfold ql2;simp only [onPtr_some];rw [qae];refine qah h.blk (by simp [qab.rep]) fun w1 hb1 hg1 hs1=>?_;have h1:ScR w1 base g { X with now:=0 } f0 f1 G0 G1 ar az:=h.step (Chg.gg hg1) (X':={ X with now:=0 }) hb1 rfl rfl;have c1:Chg (fun k=>k=g) w w1:=Chg.gg hg1;refine zc3 h1 rfl ?_;have hB2:Below w1.heap.size w1 w1.drew.drew:=qaz (qav w1) (qav w1.drew);have h2:=h1.ext hB2;have c2:=qcg c1 (Chg.of_ext hB2);generalize w1.drew.drew=w2 at h2 c2 ⊢;clear hb1 hg1 hs1 h1 c1 hB2;have s2:=c2.size;refine zfl _ (fun w' _ hbad=>absurd hbad (by have:=hG0.cols;omega)) fun tg tr w3 _ _ htg htr hst hB3=>?_;rw [show ((G0.cols:Nat):Int).toNat=G0.cols from toNat_natCast _] at hst;have h3:=h2.ext hB3;have c3:=qcg c2 (Chg.of_ext hB3);have s3:=hB3.size;clear c2;have hgt:=zgr hst h3.blk;rw [qae];refine qah h3.blk (by simp [qab.rep]) fun w4 hb4 hg4 hs4=>?_;have h4:ScR w4 base g { X with now:=0,stops:=some ⟨tg,0,none⟩ } f0 f1 G0 G1 ar az:=h3.step (Chg.gg hg4) (X':={ X with now:=0,stops:=some ⟨tg,0,none⟩ }) hb4 rfl rfl;have c4:=qcg c3 (Chg.gg hg4);have st4:StopsM w4 tg tr (resz [] G0.cols):=hst.keep (Chg.gg hg4) (fun e=>hgt.1 e.symm) fun e=>hgt.2 e.symm;have hgr4:tg<w4.heap.size/\tr<w4.heap.size:=⟨st4.blk.lt,st4.map.lt⟩;clear hst h3 c3 hb4 hg4;refine qyg fun w5 hB5=>?_;have h5:=h4.ext hB5;have c5:=qcg c4 (Chg.of_ext hB5);have st5:=st4.keep (Chg.of_ext (S:=fun _=>False) hB5) (fun e=>e) fun e=>e;rw [qae];refine qah h5.blk (by simp [qab.rep,qak.rep]) fun w6 hb6' hg6 hs6=>?_;have hb6:Blk w6 g qa1 (qab.rep.cells ⟨X.grids,0,qgs,X.saved,X.modes,X.private_,X.top,X.past,some ⟨tg,0,none⟩,X.char,X.areas⟩):=hb6';clear hb6';rw [qae];refine qah hb6 (by simp [qab.rep]) fun w7 hb7' hg7 hs7=>?_;have hb7:Blk w7 g qa1 (qab.rep.cells ⟨X.grids,0,qgs,⟨sav0,sav0⟩,X.modes,X.private_,X.top,X.past,some ⟨tg,0,none⟩,X.char,X.areas⟩):=by rw [q17] at hb7';exact hb7'
 clear hb7';rw [qae];refine qah hb7 (by simp [qab.rep]) fun w8 hb8' hg8 hs8=>?_;have hb8:Blk w8 g qa1 (qab.rep.cells ⟨X.grids,0,qgs,⟨sav0,sav0⟩,X.modes,X.private_,X.top,X.past,some ⟨tg,0,none⟩,-1,X.areas⟩):=hb8';clear hb8';rw [qae];refine qah hb8 (by simp [qab.rep]) fun w9 hb9' hg9 hs9=>?_;have hb9:Blk w9 g qa1 (qab.rep.cells ⟨X.grids,0,qgs,⟨sav0,sav0⟩,X.modes,X.private_,0,X.past,some ⟨tg,0,none⟩,-1,X.areas⟩):=hb9';clear hb9';rw [qae];refine qah hb9 (by simp [qab.rep]) fun w10 hb10' hg10 hs10=>?_;have hb10:Blk w10 g qa1 (qab.rep.cells ⟨X.grids,0,qgs,⟨sav0,sav0⟩,X.modes,X.private_,0,G0.rows,some ⟨tg,0,none⟩,-1,X.areas⟩):=hb10';clear hb10';have c510:Chg (fun k=>k=g) w5 w10:=qcg (qcg (qcg (qcg (Chg.gg hg6) (Chg.gg hg7)) (Chg.gg hg8)) (Chg.gg hg9)) (Chg.gg hg10);have h10:ScR w10 base g ⟨X.grids,0,qgs,⟨sav0,sav0⟩,X.modes,X.private_,0,G0.rows,some ⟨tg,0,none⟩,-1,X.areas⟩ f0 f1 G0 G1 ar az:=h5.step c510 (X':=⟨X.grids,0,qgs,⟨sav0,sav0⟩,X.modes,X.private_,0,G0.rows,some ⟨tg,0,none⟩,-1,X.areas⟩) hb10 rfl rfl;have c10:=qcg c5 c510;have st10:=st5.keep c510 (fun e=>hgt.1 e.symm) fun e=>hgt.2 e.symm;clear hb6 hg6 hb7 hg7 hb8 hg8 hb9 hg9 hb10 hg10 c510 h5 c5 st5 h4 c4 st4;refine qjt _ ?_;unfold qhb nwM;dsimp only;have hB11:Below w10.heap.size w10 (w10.alloc (.map #[] 0)):=(Below.refl _ w10).alloc (le_refl _) _;have hs11:(w10.alloc (.map #[] 0)).heap.size=w10.heap.size+1:=by simp
 have m1:MapM encO (w10.alloc (.map #[] 0)) w10.heap.size []:=MapM.new w10;generalize w10.alloc (.map #[] 0)=w11 at hB11 hs11 m1 ⊢;have hB12:Below w11.heap.size w11 (w11.alloc (.map #[] 0)):=(Below.refl _ w11).alloc (le_refl _) _;have hs12:(w11.alloc (.map #[] 0)).heap.size=w11.heap.size+1:=by simp
 have m2:MapM encO (w11.alloc (.map #[] 0)) w11.heap.size []:=MapM.new w11;generalize w11.alloc (.map #[] 0)=w12 at hB12 hs12 m2 ⊢;have m1':=m1.ext hB12;refine qmt (n:=7) (b:=true) m2 (by decide) fun w13 m3 hc13 hs13=>?_;refine qmt (n:=25) (b:=true) m3 (by decide) fun w14 m4 hc14 hs14=>?_;have hc24:Chg (fun k=>k=w11.heap.size) w12 w14:=hc13.trans hc14 fun i _ hi=>hi;have m1'':=m1'.chg hc24 (by omega);have hB14:Below w10.heap.size w10 w14:=qbj (qaz hB11 hB12) hc24 (by omega);have h14:=h10.ext hB14;have c14:=qcg c10 (Chg.of_ext hB14);have st14:=st10.keep (Chg.of_ext (S:=fun _=>False) hB14) (fun e=>e) fun e=>e;simp only [onPtr_some];rw [qae];refine qah h14.blk (by simp [qab.rep]) fun w15 hb15 hg15 hs15=>?_;rw [qae];refine qah hb15 (by simp [qab.rep,putL]) fun w16 hb16 hg16 hs16=>?_;have c46:Chg (fun k=>k=g) w14 w16:=qcg (Chg.gg hg15) (Chg.gg hg16);have s10:=c10.size;have htr10:=st10.map.lt;have hgl:=h10.blk.lt;refine hK tg tr w10.heap.size w11.heap.size w16 (by omega) (by omega) (by omega) (by omega) ?_ (qcg c14 c46);have hX:ScR w16 base g (scX ⟨f0,f1,tg,tr,w10.heap.size,w11.heap.size,ar⟩ (q4h G0 G1 az)) f0 f1 G0 G1 ar az:=by
  refine h14.step c46 (X':=scX ⟨f0,f1,tg,tr,w10.heap.size,w11.heap.size,ar⟩ (q4h G0 G1 az)) ?_ ?_ ?_
  ·have e1:X.grids=⟨some ⟨f0.g,0,none⟩,some ⟨f1.g,0,none⟩⟩:=h.gr;have e2:X.areas=ar:=h.xa;rw [e1,e2] at hb16;exact hb16
  ·exact h.gr.symm
  ·exact h.xa.symm
 refine hX.fin (st14.keep c46 (fun e=>hgt.1 e.symm) fun e=>hgt.2 e.symm) ⟨by dsimp only;omega,by dsimp only;omega⟩ (m1''.chg c46 (by omega)) (m4.chg c46 (by omega)) ⟨by dsimp only;omega,by dsimp only;omega⟩ ⟨by dsimp only;omega,by dsimp only;omega,by dsimp only;omega⟩ ?_;have b1:=hG0.rows;have b2:=hG0.cols;exact ⟨hG0,hG1,hr,hc,⟨Int.le_refl 0,by show (0:Int)<(G0.rows:Int);omega⟩,⟨Int.le_refl 0,by show (0:Int)<(G0.cols:Int);omega⟩,.inl rfl,.inl rfl,.inl rfl,⟨by show (0:Int)<=0;omega,by show (0:Int)<(G0.rows:Int);omega,by show (G0.rows:Int)<=G0.rows;omega⟩,fun hh=>by
  show (0:Int)+2<=(G0.rows:Int);have hh:2<=G0.rows:=hh;omega,by show (resz [] G0.cols).length=G0.cols;exact resz_length _ _⟩
theorem zda {K:World->Prop} (h:ScM w base g F S) (hK:∀F' w',ScT base g w F F' S.fresh w'->K w'):qdm (some ⟨g,0,none⟩) w K:=by
 refine q2w h.toR h.ok.g0 h.ok.g1 h.ok.rows h.ok.cols h.base_le fun tg tr mm mp w' h1 h2 h3 h4 hM hc=>?_;refine hK _ w' ⟨hM,?_,hc.mono fun i hi e=>.inl e⟩;rintro k (rfl | hk | hk | hk | hk | hk | hk | hk)
 ·exact .inl (.inl rfl)
 ·exact .inl (.inr (.inl hk))
 ·exact .inl (.inr (.inr (.inl hk)))
 ·have hk:k=tg:=hk;exact .inr (by omega)
 ·have hk:k=tr:=hk;exact .inr (by omega)
 ·have hk:k=mm:=hk;exact .inr (by omega)
 ·have hk:k=mp:=hk;exact .inr (by omega)
 ·exact .inl (.inr (.inr (.inr (.inr (.inr (.inr (.inr hk)))))))
def okC (c:qau):Prop:=(1<=c.Rows/\c.Rows<=1000)/\(1<=c.Cols/\c.Cols<=1000)/\(1<=c.CellW/\c.CellW<=64)/\(1<=c.CellH/\c.CellH<=64)/\(0<=c.Back/\c.Back<=16384)/\(0<=c.Quota/\c.Quota<=1073741824)
theorem q8p {c:qau} {K:Int->World->Prop} (h1:okC c->∀w',Below w.heap.size w w'->K 0 w') (h2:¬okC c->∀w',Below w.heap.size w w'->K 1 w'):qpv c w K:=by
 refine q1u _ ?_;unfold qvq;refine nwb fun w1 hb1 hB1 hs1=>?_;refine lI (x:=c.Rows) (hb1.cells 0 _ rfl) (qej (cO (fun e1=>?_) fun e=>h2 (fun hh=>oFq e hh.1) w1 hB1));refine lI (x:=c.Cols) (hb1.cells 1 _ rfl) (qej (cO (fun e2=>?_) fun e=>h2 (fun hh=>oFq e hh.2.1) w1 hB1));refine lI (x:=c.CellW) (hb1.cells 2 _ rfl) (qej (cO (fun e3=>?_) fun e=>h2 (fun hh=>oFq e hh.2.2.1) w1 hB1));refine lI (x:=c.CellH) (hb1.cells 3 _ rfl) (qej (cO (fun e4=>?_) fun e=>h2 (fun hh=>oFq e hh.2.2.2.1) w1 hB1));refine lI (x:=c.Back) (hb1.cells 4 _ rfl) (qej (cO (fun e5=>?_) fun e=>h2 (fun hh=>oFq e hh.2.2.2.2.1) w1 hB1));refine lI (x:=c.Quota) (hb1.cells 5 _ rfl) (qej (cO (fun e6=>?_) fun e=>h2 (fun hh=>oFq e hh.2.2.2.2.2) w1 hB1));exact h1 ⟨oTq e1,oTq e2,oTq e3,oTq e4,oTq e5,oTq e6⟩ w1 hB1
def newSc (rows cols back:Nat):Sc:=q4h (gs0 rows cols back) (gs0 rows cols 0) []
theorem zei {c:qau} {K:Option Addr->Int->World->Prop} (hK1:¬okC c->∀w',Below w.heap.size w w'->K none 1 w')
  (hK2:okC c->∀g F w',ScM w' w.heap.size g F (newSc c.Rows.toNat c.Cols.toNat c.Back.toNat)->Below w.heap.size w w'->K (some ⟨g,0,none⟩) 0 w'):qt7 c w K:=by
 refine q34 _ ?_;unfold qzo;refine nwb fun w1 hb1 hB1 hs1=>?_;refine qaq (r:=qau.rep) (x:=c) hb1.cells ?_;refine q8p (fun hok w2 hB2=>cF rfl ?_) fun hok w2 hB2=>cT rfl (hK1 hok w2 (qaz hB1 hB2));obtain ⟨o1,o2,o3,o4,o5,o6⟩:=hok;refine nwb fun w3 hb3 hB3 hs3=>?_;have B3:=qaz (qaz hB1 hB2) hB3;have hc3:=(hb1.ext hB2).ext hB3;have s3:=B3.size;have s2:=hB2.size;refine lI (x:=c.Rows) (hc3.drew.cells 0 _ rfl) (lI (x:=c.Cols) (hc3.drew.cells 1 _ rfl) (lI (x:=c.Back) (hc3.drew.cells 4 _ rfl) ?_));have ng:¬qmz c.Rows c.Cols c.Back:=by unfold qmz;omega
 have ng0:¬qmz c.Rows c.Cols 0:=by unfold qmz;omega
 refine q6u (fun hbad=>absurd hbad ng) fun _ f0 w4 g0 hB4=>?_;have z3:w3.drew.heap.size=w3.heap.size:=rfl;have B34:Below w3.heap.size w3 w4:=qaz (qav w3) hB4;have hb4:=hb3.ext B34;have hc4:=hc3.ext B34;have s4:=B34.size;refine ⟨⟨by decide,by decide⟩,?_⟩;rw [qae,qae];refine qah hb4 (by simp) fun w5 hb5 hg5 hs5=>?_;have c5:Chg (fun k=>k=w2.heap.size) w4 w5:=Chg.gg hg5;have hC5:∀k cs,k=w2.heap.size->¬Blk w4 k qao cs:=fun k cs hk hcs=>by subst hk;exact hb4.ne_t hcs (by decide) rfl
 have g0':=g0.chg c5 (fun k hk e=>by have:=(g0.below k hk).1;omega) hC5;have hc5:=hc4.chg c5 (by omega);refine lI (x:=c.Rows) (hc5.drew.cells 0 _ rfl) (lI (x:=c.Cols) (hc5.drew.cells 1 _ rfl) ?_);refine q6u (fun hbad=>absurd hbad ng0) fun _ f1 w6 g1 hB6=>?_;have z5:w5.drew.heap.size=w5.heap.size:=rfl;have B56:Below w5.heap.size w5 w6:=qaz (qav w5) hB6;have hb6:=hb5.ext B56;have g0'':=g0'.ext B56;have s6:=B56.size;refine ⟨⟨by decide,by decide⟩,?_⟩;rw [qae,qae];refine qah hb6 (by simp [putL]) fun w7 hb7 hg7 hs7=>?_;have c7:Chg (fun k=>k=w2.heap.size) w6 w7:=Chg.gg hg7;have hC7:∀k cs,k=w2.heap.size->¬Blk w6 k qao cs:=fun k cs hk hcs=>by subst hk;exact hb6.ne_t hcs (by decide) rfl
 have q0:=g0''.chg c7 (fun k hk e=>by have:=(g0''.below k hk).1;omega) hC7;have q1:=g1.chg c7 (fun k hk e=>by have:=(g1.below k hk).1;omega) hC7;have B7:Below w.heap.size w w7:=by
  have b1:=qaz B3 B34;have b2:=b1.trans (c5.below (B:=w.heap.size) b1.size fun i hi e=>by omega);have b3:=qaz b2 B56;exact b3.trans (c7.below (B:=w.heap.size) b3.size fun i hi e=>by omega)
 have hR:ScR w7 w.heap.size w2.heap.size ⟨⟨some ⟨f0.g,0,none⟩,some ⟨f1.g,0,none⟩⟩,0,⟨0,0,false,⟨0,0,0⟩,false,⟨0,0⟩,0⟩,⟨sav0,sav0⟩,none,none,0,0,none,0,⟨none,0,0⟩⟩ f0 f1 (gs0 c.Rows.toNat c.Cols.toNat c.Back.toNat) (gs0 c.Rows.toNat c.Cols.toNat (0:Int).toNat) ⟨none,0,0⟩ []:=by
  refine ⟨hb7,rfl,rfl,by omega,q0.base (by omega),q1.base (by omega),Go.Vc.Own.nil _ _ _,fun k hk hk'=>?_⟩;have h1:=(g0.below k hk).2;have h2:=(g1.below k hk').1;omega
 have hG0:GOk (gs0 c.Rows.toNat c.Cols.toNat c.Back.toNat):=GOk.new (by omega) (by omega) (by omega);have hG1:GOk (gs0 c.Rows.toNat c.Cols.toNat (0:Int).toNat):=GOk.new (by omega) (by omega) (by decide);refine q2w hR hG0 hG1 rfl rfl B7.size fun tg tr mm mp w8 h1 h2 h3 h4 hM hc=>?_;exact hK2 ⟨o1,o2,o3,o4,o5,o6⟩ _ _ w8 hM (B7.trans (hc.below B7.size fun i hi e=>by omega))
end
def in64 (x:Int):Prop:=-9223372036854775808<=x/\x<=9223372036854775807
structure ParM (w:World) (g:Nat) (F:ScF) (p:Slc) (ps:List Int):Prop where
 rd:Rd E_int w p ps
 off:ps=[]\/∀a,p.a=some a->¬scS g F a.block/\a.block<w.heap.size
 rng:∀x∈ps,in64 x
 len:ps.length<=100000
section
variable {w w':World} {base g:Nat} {F F':ScF} {S S':Sc} {p:Slc} {ps:List Int}
theorem Rd.nil_any {T:Type} {E:El T} {w w':World} {s:Slc} (h:Rd E w s []):Rd E w' s []:=⟨h.n,h.nc,h.cm,h.some_,fun i x hx=>by cases hx⟩
theorem ParM.step (h:ParM w g F p ps) (hT:ScT base g w F F' S' w'):ParM w' g F' p ps:=by
 rcases h.off with e | e
 ·subst e;exact ⟨Rd.nil_any h.rd,.inl rfl,h.rng,h.len⟩
 ·refine ⟨h.rd.chg hT.chg fun a ha=>(e a ha).1,.inr fun a ha=>⟨fun hs=>?_,?_⟩,h.rng,h.len⟩
  ·rcases hT.old _ hs with h1 | h1
   ·exact (e a ha).1 h1
   ·have:=(e a ha).2;omega
  ·have:=(e a ha).2;have:=hT.chg.size;omega
theorem ParM.ext (h:ParM w g F p ps) (hB:Below w.heap.size w w'):ParM w' g F p ps:=by
 have:=hB.size;exact ⟨h.rd.ext hB,h.off.imp (fun e=>e) fun e a ha=>⟨(e a ha).1,by have:=(e a ha).2;omega⟩,h.rng,h.len⟩
theorem ScM.ldRow (h:ScM w base g F S) {K:Int->Prop} (hK:K S.c.Row):ldI .i64 (((⟨g,0,none⟩:Addr).add 3).add 0) w K:=lI (x:=S.c.Row) (by simp only [qae];exact h.blk.cell 3 rfl) hK
theorem ScM.ldCol (h:ScM w base g F S) {K:Int->Prop} (hK:K S.c.Col):ldI .i64 (((⟨g,0,none⟩:Addr).add 3).add 1) w K:=lI (x:=S.c.Col) (by simp only [qae];exact h.blk.cell 4 rfl) hK
theorem ScM.ldOrg (h:ScM w base g F S) {K:Bool->Prop} (hK:K S.c.Origin):ldB (((⟨g,0,none⟩:Addr).add 3).add 6) w K:=qhx (x:=S.c.Origin) (by simp only [qae];exact h.blk.cell 9 rfl) hK
theorem ScM.ldTop (h:ScM w base g F S) {K:Int->Prop} (hK:K S.top):ldI .i64 ((⟨g,0,none⟩:Addr).add 37) w K:=lI (x:=S.top) (by simp only [qae];exact h.blk.cell 37 rfl) hK
theorem ScM.ldPast (h:ScM w base g F S) {K:Int->Prop} (hK:K S.past):ldI .i64 ((⟨g,0,none⟩:Addr).add 38) w K:=lI (x:=S.past) (by simp only [qae];exact h.blk.cell 38 rfl) hK
theorem ScM.ldStops (h:ScM w base g F S) {K:Option Addr->Prop} (hK:K (some ⟨F.tg,0,none⟩)):ldP ((⟨g,0,none⟩:Addr).add 39) w K:=qar (x:=some ⟨F.tg,0,none⟩) (by simp only [qae];exact h.blk.cell 39 rfl) hK
theorem ScM.cRow (h:ScM w base g F S):w.cell? (((⟨g,0,none⟩:Addr).add 3).add 0)=some (.int .i64 S.c.Row):=by simp only [qae];exact h.blk.cell 3 rfl
theorem ScM.cCol (h:ScM w base g F S):w.cell? (((⟨g,0,none⟩:Addr).add 3).add 1)=some (.int .i64 S.c.Col):=by simp only [qae];exact h.blk.cell 4 rfl
theorem ScM.cPast (h:ScM w base g F S):w.cell? ((⟨g,0,none⟩:Addr).add 38)=some (.int .i64 S.past):=by simp only [qae];exact h.blk.cell 38 rfl
theorem ScM.stDry (h:ScM w base g F S) {K:World->Prop} (hK:∀w',ScT base g w F F S.dry w'->K w'):stK (((⟨g,0,none⟩:Addr).add 3).add 2) [.bool false] w K:=by
 rw [qae,qae];exact qah h.blk (by simp [qab.rep]) fun w1 hb1 hg1 hs1=>hK w1 (ScT.dry h hb1 hg1)
theorem qkp (h:ParM w g F p ps) {i:Nat} {none:Int} {K:Int->World->Prop} (hK:K (qdl ps i none) w):qdn p i none w K:=by
 refine q1v _ _ _ ?_;unfold qvs;refine jpO fun J1 hJ1=>?_;have hn:=h.rd.n;unfold qdl at hK;refine cO (fun e=>?_) fun e=>?_
 ·have e:=oTq e;rw [List.getElem?_eq_none (by omega)] at hK;exact hK
 ·have e:=oFq e;have hi:i<ps.length:=by omega
  rw [List.getElem?_eq_getElem hi] at hK;refine h.rd.ix rfl (by omega) (by omega) fun hc=>?_;have hc':w.cell? (p.at_ E_int.k (i:Int).toNat)=some (.int .i64 ps[i]):=by simpa using hc 0 _ rfl
  refine lI (x:=ps[i]) hc' ?_;dsimp only at hK;refine cO (fun e1=>?_) fun e1=>?_
  ·have e1:ps[i]=0:=eq_of_beq e1;rw [if_pos e1] at hK;exact hK
  ·have e1:¬ps[i]=0:=beq_eq_false_iff_ne.1 e1;rw [if_neg e1] at hK;exact hJ1 _ _ (h.rd.ix rfl (by omega) (by omega) fun _=>lI (x:=ps[i]) hc' hK)
theorem q3r (h:ParM w g F p ps) (i:Nat) {d:Int} (hd:in64 d):in64 (qdl ps i d):=by
 unfold qdl;split
 ·rename_i v hv;split
  ·exact hd
  ·exact h.rng v (List.mem_of_getElem? hv)
 ·exact hd
theorem q4v (h:ScM w base g F S) {n:Int} {K:Int->World->Prop} (hK:∀w',Below w.heap.size w w'->K (S.asked n) w'):qet (some ⟨g,0,none⟩) n w K:=by
 refine qty _ _ ?_;unfold ql1;simp only [onPtr_some];unfold Sc.asked at hK;refine h.ldOrg (cO (fun e=>?_) fun e=>?_)
 ·rw [if_pos e] at hK;exact h.drew.ldTop (h.drew.ldTop (h.drew.ldPast (qdt (hK _ (qav w)))))
 ·rw [if_neg (by rw [e];decide)] at hK;exact hK _ (Below.refl _ _)
theorem ScOk.marginsOf (h:ScOk S) {t q:Int} (ht:0<=t) (hq:q<=(S.g.rows:Int)) (h2:t+2<=q):ScOk { S with top:=t,past:=q }:=by
 obtain ⟨e1,e2⟩:=h.grows;rw [e1] at hq;exact ⟨h.g0,h.g1,h.rows,h.cols,h.row,h.col,h.shift,h.sh0,h.sh1,⟨ht,by show t<q;omega,hq⟩,fun _=>h2,h.stops⟩
theorem q8r (h:ScM w base g F S) (hp:ParM w g F p ps) {K:World->Prop} (hK:∀w',ScT base g w F F (S.margins ps) w'->K w'):qga (some ⟨g,0,none⟩) p w K:=by
 refine qrb _ _ ?_;unfold qjy;have hd:=(ScT.refl h).drew.drew;have hp1:=(hp.ext (qav w)).ext (qav w.drew);refine qcz h ?_;refine qkp (i:=0) hp1 (qdt (qkp (i:=1) hp1 (qdt ?_)));have hb:=h.ok.bnd;obtain ⟨t,ht⟩:∃t,t=cutP (w64 (qdl ps 0 1-1)) 0 S.g.rows:=⟨_,rfl⟩;obtain ⟨q,hq⟩:∃q,q=cutP (qdl ps 1 S.g.rows) 0 S.g.rows:=⟨_,rfl⟩;have i1:=qkt (v:=w64 (qdl ps 0 1-1)) (lo:=0) (hi:=(S.g.rows:Int)) (by omega);have i2:=qkt (v:=qdl ps 1 S.g.rows) (lo:=0) (hi:=(S.g.rows:Int)) (by omega);unfold Sc.margins at hK;dsimp only at hK;rw [<-ht,<-hq] at hK;rw [<-ht] at i1;rw [<-hq] at i2;have ht':cutP (i64.wrap (qdl ps 0 1-1)) 0 S.g.rows=t:=ht.symm;rw [ht',<-hq];show cond (decide (w64 (q-t)<2)) _ _;have e0:w64 (q-t)=q-t:=qck (by omega);rw [e0];rw [e0] at hK;refine cO (fun e=>?_) fun e=>?_
 ·have e:=oTq e;rw [if_pos e] at hK;exact hK _ hd
 ·have e:=oFq e;rw [if_neg e] at hK;simp only [onPtr_some];rw [qae];refine qah hd.m.blk (by simp [qab.rep]) fun w4 hb4 hg4 hs4=>?_;rw [qae];refine qah hb4 (by simp [qab.rep,putL]) fun w5 hb5 hg5 hs5=>?_;have hc:Chg (fun k=>k=g) w.drew.drew w5:=(Chg.gg hg4).trans (Chg.gg hg5) fun i _ hi=>hi;have hT5:=ScT.mk_struct hd.m hc (S':={ S with top:=t,past:=q }) hb5 rfl rfl rfl rfl rfl rfl (h.ok.marginsOf i1.1 i2.2 (by omega));exact q56 hT5.m fun w6 hT6=>hK w6 ((hd.trans hT5).trans hT6)
theorem zdc (h:ScM w base g F S) {n:Int} {K:World->Prop} (hK:∀F' w',ScT base g w F F' (S.again n) w'->K w'):qhk (some ⟨g,0,none⟩) n w K:=by
 refine qs5 _ _ ?_;unfold qly;refine qcz h ?_;have hd:=(ScT.refl h).drew.drew;simp only [onPtr_some];refine lI (x:=S.char) (by rw [qae];exact hd.m.blk.cell 40 rfl) ?_;unfold Sc.again at hK;have hb:=h.ok.bnd;refine cO (fun e=>?_) fun e=>?_
 ·have e:S.char>=0:=oTq e;rw [if_pos e] at hK;obtain ⟨N,hN⟩:∃N,N=(if w64 ((S.g.rows:Int)*S.g.cols)<n then w64 ((S.g.rows:Int)*S.g.cols) else n):=⟨_,rfl⟩;rw [<-hN] at hK;have hmul:(S.g.rows:Int)*S.g.cols<=1000*1000:=Int.mul_le_mul (by omega) (by omega) (by omega) (by omega);have hmul0:0<=(S.g.rows:Int)*S.g.cols:=Int.mul_nonneg (by omega) (by omega);have hw:w64 ((S.g.rows:Int)*S.g.cols)=(S.g.rows:Int)*S.g.cols:=qck (by omega);have hNle:N<=1000000:=by rw [hN,hw];split<;>omega
  refine lpR (fun (st:Int×Unit) w2=>∃(k:Nat) (F2:ScF),st.1=(k:Int)/\((k:Int)<=N\/k=0)/\ScT base g w F F2 (S.lays S.char k) w2) (fun st=>N.toNat-st.1.toNat) ⟨0,F,rfl,.inr rfl,hd⟩ ?_;rintro ⟨i,u⟩ w2 ⟨k,F2,hi,hk,hT2⟩ I hI;dsimp only at hi ⊢;subst hi;show cond (decide ((k:Int)<(if w64 ((S.g.rows:Int)*S.g.cols)<n then w64 ((S.g.rows:Int)*S.g.cols) else n))) _ _;rw [<-hN];refine cO (fun e=>?_) fun e=>?_
  ·have e:=oTq e;refine q3p hT2.m fun F3 w3 hT3=>?_;rw [w64i (x:=(k:Int)+1) (by omega)];exact hI _ _ ⟨k+1,F3,by simp,by omega,hT2.trans hT3⟩ (by dsimp only;omega)
  ·have e:=oFq e;have hkr:k=N.toNat:=by omega
   rw [<-hkr] at hK;exact hK F2 w2 hT2
 ·have e:¬0<=S.char:=oFq e;rw [if_neg e] at hK;exact hK F _ hd
theorem q97 (h:ScM w base g F S) {K:World->Prop} (hK:∀F' w',ScT base g w F F' S.forget w'->K w'):qcv (some ⟨(F.f S.alt).g,0,none⟩) w K:=by
 refine q1l h.gM fun w' hg hc=>?_;exact hK _ w' (ScT.mk_grid h hg ⟨rfl,rfl,.inl rfl,.inr fun k hk=>by cases hk⟩ hc (h.ok.withG (h.gOk.forget) rfl rfl))
theorem q70 (h:ScM w base g F S) {how:Int} {K:World->Prop} (ha:S.areas.length<=900000000) (hK:∀F' w',ScT base g w F F' (S.display how) w'->K w'):qgf (some ⟨g,0,none⟩) how w K:=by
 refine qrd _ _ ?_;unfold qkk;refine qcz h ?_;have hd:=(ScT.refl h).drew.drew.drew;simp only [onPtr_some];refine hd.m.ldRow (hd.m.ldCol ?_);have hb:=h.ok.bnd;have hrw:=h.ok.rowg;unfold Sc.display at hK;dsimp only at hK;refine jpO fun J1 hJ1=>?_;refine cO (fun e=>?_) fun e=>?_
 ·have e:how=0:=eq_of_beq e;rw [if_pos e] at hK;refine qgn hd.m (by omega) (by decide) fun F1 w1 hT1=>?_;have e1:w64 ((S.g.rows:Int)-S.c.Row)=(S.g.rows:Int)-S.c.Row:=qck (by omega);have e2:w64 (w64 ((S.g.rows:Int)-S.c.Row)-1)=(S.g.rows:Int)-S.c.Row-1:=by rw [e1];exact qck (by omega)
  refine qgn hT1.m (by have:=qwk S S.c.Row 1 S.c.Col S.g.cols;omega) (by show w64 (w64 _-1)<=_;rw [e2];omega) fun F2 w2 hT2=>?_;refine hJ1 _ _ (hT2.m.stDry fun w3 hT3=>hK _ w3 (((hd.trans hT1).trans hT2).trans hT3))
 have e:¬how=0:=beq_eq_false_iff_ne.1 e;rw [if_neg e] at hK;refine cO (fun e=>?_) fun e=>?_
 ·have e:how=1:=eq_of_beq e;rw [if_pos e] at hK;refine qgn hd.m (by omega) (by omega) fun F1 w1 hT1=>?_;refine qgn hT1.m (by have:=qwk S 0 S.c.Row 0 S.g.cols;omega) (by decide) fun F2 w2 hT2=>?_;refine hJ1 _ _ (hT2.m.stDry fun w3 hT3=>hK _ w3 (((hd.trans hT1).trans hT2).trans hT3))
 have e:¬how=1:=beq_eq_false_iff_ne.1 e;rw [if_neg e] at hK;refine cO (fun e=>?_) fun e=>?_
 ·have e:how=2:=eq_of_beq e;rw [if_pos e] at hK;refine qgn hd.m (by omega) (by omega) fun F1 w1 hT1=>?_;refine hJ1 _ _ (hT1.m.stDry fun w3 hT3=>hK _ w3 ((hd.trans hT1).trans hT3))
 have e:¬how=2:=beq_eq_false_iff_ne.1 e;rw [if_neg e] at hK;refine cO (fun e=>?_) fun e=>?_
 ·have e:how=3:=eq_of_beq e;rw [if_pos e] at hK;refine qgi hd.m ?_;exact q97 hd.drew.m fun F1 w1 hT1=>hK _ w1 (hd.drew.trans hT1)
 ·have e:¬how=3:=beq_eq_false_iff_ne.1 e;rw [if_neg e] at hK;exact hK F _ hd
theorem zam (h:ScM w base g F S) {how:Int} {K:World->Prop} (ha:S.areas.length<=900000000) (hK:∀F' w',ScT base g w F F' (S.inLine how) w'->K w'):qg3 (some ⟨g,0,none⟩) how w K:=by
 refine qsg _ _ ?_;unfold qk4;refine qcz h ?_;have hd:=(ScT.refl h).drew.drew;simp only [onPtr_some];unfold Sc.inLine at hK;refine jpO fun J1 hJ1=>?_;have key:∀a b:Int,(∀F' w',ScT base g w F F' (S.erase S.c.Row 1 a b).dry w'->K w')->J1 (a,b,()) w.drew.drew:=by
  intro a b hK;refine hJ1 _ _ (hd.m.ldRow ?_);exact qgn hd.m (by omega) (by decide) fun F1 w1 hT1=>hT1.m.stDry fun w3 hT3=>hK _ w3 ((hd.trans hT1).trans hT3)
 refine cO (fun e=>?_) fun e=>?_
 ·have e:how=0:=eq_of_beq e;rw [if_pos e] at hK;exact hd.m.ldCol (key _ _ hK)
 have e:¬how=0:=beq_eq_false_iff_ne.1 e;rw [if_neg e] at hK;refine cO (fun e=>?_) fun e=>?_
 ·have e:how=1:=eq_of_beq e;rw [if_pos e] at hK;exact hd.m.ldCol (key _ _ hK)
 have e:¬how=1:=beq_eq_false_iff_ne.1 e;rw [if_neg e] at hK;refine cO (fun e=>?_) fun e=>?_
 ·have e:how=2:=eq_of_beq e;rw [if_pos e] at hK;exact key _ _ hK
 ·have e:¬how=2:=beq_eq_false_iff_ne.1 e;rw [if_neg e] at hK;exact hK F _ hd
theorem ScM.w64n (n:Int):in64 (w64 n):=by
 have h:w64 n=(n+9223372036854775808)%18446744073709551616-9223372036854775808:=by
  unfold w64 IntKind.wrap;simp [IntKind.bits,IntKind.signed]
  try omega
 unfold in64;omega
theorem q4g (h:ScM w base g F S) {c n:Int} (hn:in64 n) {K:World->Prop} (hK:∀F' w',ScT base g w F F' (S.lines c n) w'->K w'):qeo (some ⟨g,0,none⟩) c n w K:=by
 refine qtx _ _ _ ?_;unfold qma;have hd:=(ScT.refl h).drew;have hdd:=hd.drew;simp only [onPtr_some];unfold Sc.lines at hK;refine jpO fun J1 hJ1=>?_;refine hd.m.ldRow (hd.m.ldTop (cO (fun e=>?_) fun e1=>?_))
 ·rw [if_pos (.inl (oTq e))] at hK;exact hK F _ hd
 refine hd.m.ldRow (hd.m.ldPast (cO (fun e=>?_) fun e2=>?_))
 ·rw [if_pos (.inr (oTq e))] at hK;exact hK F _ hd
 rw [if_neg (fun hh=>hh.elim (oFq e1) (oFq e2))] at hK;dsimp only at hK;refine hJ1 _ _ (jpO fun J2 hJ2=>?_);have key:∀m,in64 m->m=(if c=76 then w64 (0-n) else n)->J2 (m,()) w.drew:=by
  intro m hm em;rw [<-em] at hK;refine hJ2 _ _ ?_;refine hdd.m.ldRow (hdd.m.ldPast ?_);refine qgi hdd.m ⟨hdd.m.drew.cPast,hdd.m.drew.cRow,?_⟩;refine qss hdd.m.drew fun w4 hB4=>?_;have h4:=hdd.drew.ext hB4;refine ⟨h4.m.cPast,h4.m.cRow,?_⟩;refine q22 h4.m hm fun v F5 w5 hT5=>?_;have h5:=h4.trans hT5;have hcr:(S.scroll S.c.Row S.past m).c=S.c:=q5f _ _;refine h5.m.ldRow ?_;rw [hcr];exact qci h5.m fun w6 hT6=>hK _ w6 (h5.trans hT6)
 refine cO (fun e=>?_) fun e=>?_
 ·have e:c=76:=eq_of_beq e;exact key _ (ScM.w64n _) (by rw [if_pos e];rfl)
 ·have e:¬c=76:=beq_eq_false_iff_ne.1 e;exact key _ hn (by rw [if_neg e])
end
theorem or2 {K:Bool×Unit->World->Prop} {c a b:Int} {w:World} (h1:c=a\/c=b->K (true,()) w) (h2:¬(c=a\/c=b)->K (false,()) w):joinP K fun J=>cond (c==a) (J ((c==a),()) w) (J ((c==b),()) w):=by
 intro J hJ;refine cO (fun e=>?_) fun e=>?_
 ·rw [e];exact hJ _ _ (h1 (.inl (eq_of_beq e)))
 ·cases e2:(c==b)
  ·exact hJ _ _ (h2 fun hh=>hh.elim (beq_eq_false_iff_ne.1 e) (beq_eq_false_iff_ne.1 e2))
  ·exact hJ _ _ (h1 (.inr (eq_of_beq e2)))
theorem or2' {K:Bool×Unit->World->Prop} {c a b:Int} {w:World} (h1:c=a\/c=b->K (true,()) w) (h2:¬(c=a\/c=b)->K (false,()) w):joinP K fun J=>cond (c==a) (J (true,()) w) (J ((c==b),()) w):=by
 intro J hJ;refine cO (fun e=>?_) fun e=>?_
 ·exact hJ _ _ (h1 (.inl (eq_of_beq e)))
 ·cases e2:(c==b)
  ·exact hJ _ _ (h2 fun hh=>hh.elim (beq_eq_false_iff_ne.1 e) (beq_eq_false_iff_ne.1 e2))
  ·exact hJ _ _ (h1 (.inr (eq_of_beq e2)))
theorem or3 {K:Bool×Unit->World->Prop} {c a b d:Int} {w:World} (h1:c=a\/c=b\/c=d->K (true,()) w) (h2:¬(c=a\/c=b\/c=d)->K (false,()) w):joinP K fun J=>cond (c==a) (J ((c==a),()) w) (cond (c==b) (J ((c==b),()) w) (J ((c==d),()) w)):=by
 intro J hJ;refine cO (fun e=>?_) fun e=>?_
 ·rw [e];exact hJ _ _ (h1 (.inl (eq_of_beq e)))
 ·exact or2 (K:=K) (fun h=>h1 (.inr h)) (fun h=>h2 fun hh=>hh.elim (beq_eq_false_iff_ne.1 e) h) J hJ
theorem or4 {K:Bool×Unit->World->Prop} {c a b d f:Int} {w:World} (h1:c=a\/c=b\/c=d\/c=f->K (true,()) w) (h2:¬(c=a\/c=b\/c=d\/c=f)->K (false,()) w):joinP K fun J=>cond (c==a) (J ((c==a),()) w) (cond (c==b) (J ((c==b),()) w) (cond (c==d) (J ((c==d),()) w) (J ((c==f),()) w))):=by
 intro J hJ;refine cO (fun e=>?_) fun e=>?_
 ·rw [e];exact hJ _ _ (h1 (.inl (eq_of_beq e)))
 ·exact or3 (K:=K) (fun h=>h1 (.inr h)) (fun h=>h2 fun hh=>hh.elim (beq_eq_false_iff_ne.1 e) h) J hJ
theorem or5 {K:Bool×Unit->World->Prop} {c a b d f k:Int} {w:World} (h1:c=a\/c=b\/c=d\/c=f\/c=k->K (true,()) w) (h2:¬(c=a\/c=b\/c=d\/c=f\/c=k)->K (false,()) w):joinP K fun J=>cond (c==a) (J ((c==a),()) w) (cond (c==b) (J ((c==b),()) w) (cond (c==d) (J ((c==d),()) w) (cond (c==f) (J ((c==f),()) w) (J ((c==k),()) w)))):=by
 intro J hJ;refine cO (fun e=>?_) fun e=>?_
 ·rw [e];exact hJ _ _ (h1 (.inl (eq_of_beq e)))
 ·exact or4 (K:=K) (fun h=>h1 (.inr h)) (fun h=>h2 fun hh=>hh.elim (beq_eq_false_iff_ne.1 e) h) J hJ
section
variable {w w':World} {base g:Nat} {F F':ScF} {S S':Sc} {p:Slc} {ps:List Int}
theorem ScM.one (h:ScM w base g F S) {k0:Nat} (hk:∀t cs,¬Blk w k0 t cs) (hin:scS g F k0) (hc:Chg (fun k=>k=k0) w w') (ex:scX F S'=scX F S) (e0:S'.g0=S.g0) (e1:S'.g1=S.g1) (ea:S'.areas=S.areas)
  (hst:StopsM w' F.tg F.tr S'.stops) (hmo:MapM encO w' F.mm S'.modes) (hpr:MapM encO w' F.mp S'.priv) (ok:ScOk S'):ScT base g w F F S' w':=by
 have hC:∀k cs,k=k0->¬Blk w k qao cs:=fun k cs e=>by subst e;exact hk _ _
 have nb:∀{k t cs},Blk w k t cs->¬k=k0:=fun hb e=>by subst e;exact hk _ _ hb
 refine ⟨⟨?_,h.hg,?_,?_,hst,h.hst,hmo,hpr,h.hm,h.dm,?_,h.dg,ok⟩,fun k hk=>.inl hk,hc.mono fun i hi e=>by subst e;exact hin⟩
 ·rw [ex];exact h.blk.chg hc (nb h.blk)
 ·rw [e0];refine h.g0.chg hc (fun k hk=>?_) hC;obtain ⟨t,cs,hb,_⟩:=h.g0.ty k hk;exact nb hb
 ·rw [e1];refine h.g1.chg hc (fun k hk=>?_) hC;obtain ⟨t,cs,hb,_⟩:=h.g1.ty k hk;exact nb hb
 ·rw [ea];refine h.ar.chg hc fun k hk=>?_;obtain ⟨cs,hcs⟩:=h.ar.blk_t hk;exact nb hcs
theorem qpu {V:Type} {enc:V->Value} {r:Nat} {L:List (Int×V)} (h:MapM enc w r L):∀t cs,¬Blk w r t cs:=fun t cs hb=>h.ne_blk hb rfl
theorem ScM.setPr (h:ScM w base g F S) {n:Int} (hn:in64 n) {b:Bool} {K:Option Value->World->Prop} (hK:∀w',ScT base g w F F { S with priv:=putL' S.priv n b } w'->K none w'):runU PG (Instr.mapUpdate qas (.map (some F.mp)) (.int .i64 n) (.bool b)) w K:=by
 refine qmt h.pr hn fun w' hm hc hs=>hK w' ?_;exact h.one (qpu h.pr) (.inr (.inr (.inr (.inr (.inr (.inr (.inl rfl))))))) hc rfl rfl rfl rfl (h.st.keep hc (fun e=>qpu h.pr _ _ (e ▸ h.st.blk)) h.dm.2.2) (h.mo.chg hc h.dm.1) hm
  ⟨h.ok.g0,h.ok.g1,h.ok.rows,h.ok.cols,h.ok.row,h.ok.col,h.ok.shift,h.ok.sh0,h.ok.sh1,h.ok.top,h.ok.marg,h.ok.stops⟩
theorem ScM.setMo (h:ScM w base g F S) {n:Int} (hn:in64 n) {b:Bool} {K:Option Value->World->Prop} (hK:∀w',ScT base g w F F { S with modes:=putL' S.modes n b } w'->K none w'):runU PG (Instr.mapUpdate qas (.map (some F.mm)) (.int .i64 n) (.bool b)) w K:=by
 refine qmt h.mo hn fun w' hm hc hs=>hK w' ?_;exact h.one (qpu h.mo) (.inr (.inr (.inr (.inr (.inr (.inl rfl)))))) hc rfl rfl rfl rfl (h.st.keep hc (fun e=>qpu h.mo _ _ (e ▸ h.st.blk)) h.dm.2.1) hm (h.pr.chg hc (fun e=>h.dm.1 e.symm))
  ⟨h.ok.g0,h.ok.g1,h.ok.rows,h.ok.cols,h.ok.row,h.ok.col,h.ok.shift,h.ok.sh0,h.ok.sh1,h.ok.top,h.ok.marg,h.ok.stops⟩
theorem ScM.setSt (h:ScM w base g F S) {B:List Bool} (hl:B.length=S.stops.length) (hst:StopsM w' F.tg F.tr B) (hc:Chg (fun k=>k=F.tr) w w'):ScT base g w F F { S with stops:=B } w' :=
 h.one (qpu h.st.map) (.inr (.inr (.inr (.inr (.inl rfl))))) hc rfl rfl rfl rfl hst (h.mo.chg hc (fun e=>h.dm.2.1 e.symm)) (h.pr.chg hc (fun e=>h.dm.2.2 e.symm))
  ⟨h.ok.g0,h.ok.g1,h.ok.rows,h.ok.cols,h.ok.row,h.ok.col,h.ok.shift,h.ok.sh0,h.ok.sh1,h.ok.top,h.ok.marg,hl.trans h.ok.stops⟩
theorem ScOk.slen (h:ScOk S):1<=S.stops.length/\S.stops.length<=1000:=by
 have:=h.bnd;have:=h.grows.2;have:=h.stops;omega
theorem q85:C.plain qfw=true:=by kernel_rfl
theorem zdx:C.plain qf1=true:=by kernel_rfl
theorem zec:C.plain qf2=true:=by kernel_rfl
theorem zi2 {a:Addr} {w:World} {K:Value->Prop} {x:Value} (h:w.cell? a=some x) (hK:K x):ldR a w K:=⟨x,h,hK⟩
def cellF (S:Sc) (c n:Int) (xs:List Cell):List Cell:=if c=80 then delL xs S.c.Col n S.blank else insL xs S.c.Col n S.blank
theorem zab {bc bs bn:Nat} {l:Slc} {xs:List Cell} {c n:Int} {K:Slc->World->Prop} (h:ScM w base g F S) (hs:Blk w bs qgw [.pointer (some ⟨g,0,none⟩)]) (hn:Blk w bn qbz [.int .i64 n])
  (hc:Blk w bc qcc [.func (.func (if c=80 then qf2 else qf1)) #[] #[]]) (hl:Rd cellE w l xs) (hlen:xs.length<=10000)
  (hK:∀s w',Go.Vc.Own cellE w' w.heap.size s (cellF S c n xs)->Below w.heap.size w w'->K s w') :
  callR C (.func (.func qfw) #[] #[.pointer (some ⟨bc,0,none⟩),.pointer (some ⟨bs,0,none⟩),.pointer (some ⟨bn,0,none⟩)]) [.slice l.a l.n l.c] [Kind.slice] w K:=by
 have hh:qlb l ⟨bc,0,none⟩ ⟨bs,0,none⟩ ⟨bn,0,none⟩ w K:=by
  refine qrp _ _ _ _ ?_;unfold qkb;have hd:=(ScT.refl h).drew;have hs1:=hs.drew;have hn1:=hn.drew;have hc1:=hc.drew;refine zi2 (by simpa using hc1.cells 0 _ rfl) ?_;refine qar (x:=some ⟨g,0,none⟩) (by simpa using hs1.cells 0 _ rfl) ?_;simp only [onPtr_some];refine hd.m.ldCol (lI (x:=n) (by simpa using hn1.cells 0 _ rfl) (qar (x:=some ⟨g,0,none⟩) (by simpa using hs1.cells 0 _ rfl) ?_));refine qss hd.m fun w1 hB1=>?_;have h1:=hd.ext hB1;refine ⟨by simpa using (hn1.ext hB1).cells 0 _ rfl,h1.m.cCol,by simpa using (hs1.ext hB1).cells 0 _ rfl,by simpa using (hc1.ext hB1).cells 0 _ rfl,?_⟩;have hBw:Below w.heap.size w w1:=qaz (qav w) hB1;unfold cellF at hK;by_cases e:c=80
  ·rw [if_pos e];simp only [if_pos e] at hK;have hi:qj5 l S.c.Col n S.blank w1 K:=q9v (hl.ext hBw) hlen fun s w2 ho hB2=>hK s w2 (ho.base hBw.size) (qaz hBw hB2);refine qcm zec (Calls.mono hi ?_);rintro ex w' ⟨t,rfl,hk⟩;exact ⟨t,rfl,hk⟩
  ·rw [if_neg e];simp only [if_neg e] at hK;have hi:qgr l S.c.Col n S.blank w1 K:=q2h (hl.ext hBw) hlen fun s w2 ho hB2=>hK s w2 (ho.base hBw.size) (qaz hBw hB2);refine qcm zdx (Calls.mono hi ?_);rintro ex w' ⟨t,rfl,hk⟩;exact ⟨t,rfl,hk⟩
 refine qcm q85 (Calls.mono hh ?_);rintro e w' ⟨t,rfl,hk⟩;exact ⟨t,rfl,hk⟩
theorem qyi (h:ScM w base g F S) {c n:Int} {K:World->Prop} (ha:S.areas.length<=900000000) (hK:∀F' w',ScT base g w F F' (S.cells c n) w'->K w'):qdi (some ⟨g,0,none⟩) c n w K:=by
 refine qtc _ _ _ ?_;unfold qmb;refine nwb fun w1 hb1 hB1 hs1=>nwb fun w2 hb2 hB2 hs2=>?_;have hT2:=ScT.of_ext h (qaz hB1 hB2);have hs:=hb1.ext hB2;refine qar (x:=some ⟨g,0,none⟩) (by simpa using hs.cells 0 _ rfl) ?_;simp only [onPtr_some];refine hT2.m.stDry fun w3 hT3=>?_;have h3:=hT2.trans hT3;have hlt:∀k,scS g F k->k<w.heap.size:=fun k hk=>(h.below k hk).2;have hs3:=hs.chg hT3.chg fun e=>by have:=hlt _ e;omega
 have hn3:=hb2.chg hT3.chg fun e=>by have:=hlt _ e;omega
 unfold Sc.cells at hK;dsimp only at hK;refine cO (fun e=>?_) fun e=>?_
 ·have e:c=88:=eq_of_beq e;rw [if_pos e] at hK;refine qar (x:=some ⟨g,0,none⟩) (by simpa using hs3.cells 0 _ rfl) ?_;refine qcz h3.m ?_;have hd:=h3.drew.drew.drew;have hs4:=hs3.drew.drew.drew;have hn4:=hn3.drew.drew.drew;refine qar (x:=some ⟨g,0,none⟩) (by simpa using hs4.cells 0 _ rfl) (qar (x:=some ⟨g,0,none⟩) (by simpa using hs4.cells 0 _ rfl) ?_);simp only [onPtr_some];refine hd.m.ldRow (qar (x:=some ⟨g,0,none⟩) (by simpa using hs4.cells 0 _ rfl) ?_);simp only [onPtr_some];refine hd.m.ldCol (qar (x:=some ⟨g,0,none⟩) (by simpa using hs4.cells 0 _ rfl) ?_);simp only [onPtr_some];refine hd.m.ldCol (lI (x:=n) (by simpa using hn4.cells 0 _ rfl) ?_);have har:S.dry.areas.length<=1000000000:=by show S.areas.length<=_;omega
  exact qgn hd.m har (by decide) fun F5 w5 hT5=>hK _ w5 (hd.trans hT5)
 ·have e:¬c=88:=beq_eq_false_iff_ne.1 e;rw [if_neg e] at hK;refine nwb fun w6 hb6 hB6 hs6=>?_;have h6:=h3.ext hB6;have hs6':=hs3.ext hB6;have hn6:=hn3.ext hB6;have hz3:=h3.chg.size;have hz2:=hT3.chg.size;refine qfo hb6 rfl fun w7 hb7 hc7 hs7=>?_;have hB7:Below w3.heap.size w3 w7:=qbj hB6 hc7 (le_refl _);have h7:=h3.ext hB7;have hs7':=hs3.ext hB7;have hn7:=hn3.ext hB7;refine jpO fun J1 hJ1=>?_;have key:∀w8,Below w3.heap.size w3 w8->Blk w8 w3.heap.size qcc [.func (.func (if c=80 then qf2 else qf1)) #[] #[]]->J1 () w8:=by
   intro w8 hB8 hb8;refine hJ1 _ _ ?_;have hd:=(h3.ext hB8).drew;have hs8:=(hs3.ext hB8).drew;have hn8:=(hn3.ext hB8).drew;have hc8:=hb8.drew;refine qar (x:=some ⟨g,0,none⟩) (by simpa using hs8.cells 0 _ rfl) (qar (x:=some ⟨g,0,none⟩) (by simpa using hs8.cells 0 _ rfl) ?_);simp only [onPtr_some];refine hd.m.ldRow (qgi hd.m ?_);have hdd:=hd.drew;have hs9:=hs8.drew;have hn9:=hn8.drew;have hc9:=hc8.drew;refine ⟨hdd.m.cRow,by simpa using hs9.cells 0 _ rfl,?_⟩;have hr:0<=S.dry.c.Row/\S.dry.c.Row<(S.dry.g.rows:Int):=h.ok.rowg;have ech:S.dry.change (fun xs=>if c=80 then delL xs S.c.Col n S.blank else insL xs S.c.Col n S.blank)=S.dry.withG { S.dry.g with L:=S.dry.g.L.set S.dry.c.Row.toNat (qa6 (cellF S.dry c n (S.dry.g.L.getD S.dry.c.Row.toNat [])) S.dry.g.cols) }:=by
    unfold Sc.change;rw [if_pos hr];rfl
   rw [ech] at hK;refine q2n (f:=cellF S.dry c n) hdd.m hr (fun xs=>?_) (fun xs hx=>?_) (fun l xs K' hl hlen hk=>?_) fun F10 w10 hT10=>hK _ w10 (hdd.trans hT10)
   ·unfold cellF;split
    ·exact zah _ _ _ _
    ·exact qwn _ _ _ _
   ·unfold cellF;split
    ·exact zh1 hx _ _ _
    ·exact zbc hx _ _ _
   ·exact zab hdd.drew.m hs9.drew hn9.drew hc9.drew hl hlen hk
  refine cO (fun e=>?_) fun e=>?_
  ·have e:c=80:=eq_of_beq e;refine qfo hb7 rfl fun w8 hb8 hc8 hs8=>key w8 (qbj hB7 hc8 (le_refl _)) (by rw [if_pos e];exact hb8)
  ·have e:¬c=80:=beq_eq_false_iff_ne.1 e;exact key w7 hB7 (by rw [if_neg e];exact hb7)
theorem zd0 (h:ScM w base g F S) (hp:ParM w g F p ps) {c n:Int} (hn:in64 n) {K:World->Prop} (hK:∀w',ScT base g w F F (S.move ps c n) w'->K w'):qic (some ⟨g,0,none⟩) p c n w K:=by
 refine qu0 _ _ _ _ ?_;unfold qnn;simp only [onPtr_some];unfold Sc.move at hK;dsimp only at hK;refine jpO fun J1 hJ1=>?_;have key:∀(S1:Sc) w1,ScT base g w F F S1 w1->(∀w',ScT base g w F F (if c=69\/c=70 then S1.to S1.c.Row 0 else S1) w'->K w')->J1 () w1:=by
  intro S1 w1 hT1 hK;refine hJ1 _ _ ?_;refine or2' (fun e=>cT rfl ?_) fun e=>cF rfl ?_
  ·rw [if_pos e] at hK;exact hT1.m.ldRow (qci hT1.m fun w3 hT3=>hK _ (hT1.trans hT3))
  ·rw [if_neg e] at hK;exact hK _ hT1
 have hd:=(ScT.refl h).drew;refine or2 (fun e=>cT rfl ?_) fun e=>cF rfl ?_
 ·rw [if_pos e] at hK;exact zhf h fun w1 hT1=>key _ _ hT1 hK
 rw [if_neg e] at hK;refine or3 (fun e=>cT rfl ?_) fun e=>cF rfl ?_
 ·rw [if_pos e] at hK;exact zeg h fun w1 hT1=>key _ _ hT1 hK
 rw [if_neg e] at hK;refine or2 (fun e=>cT rfl ?_) fun e=>cF rfl ?_
 ·rw [if_pos e] at hK;exact hd.m.ldRow (hd.m.ldCol (qci hd.m fun w1 hT1=>key _ _ (hd.trans hT1) hK))
 rw [if_neg e] at hK;refine cO (fun e=>?_) fun e=>?_
 ·rw [if_pos (eq_of_beq e)] at hK;exact hd.m.ldRow (hd.m.ldCol (qci hd.m fun w1 hT1=>key _ _ (hd.trans hT1) hK))
 rw [if_neg (beq_eq_false_iff_ne.1 e)] at hK;refine or2 (fun e=>cT rfl ?_) fun e=>cF rfl ?_
 ·rw [if_pos e] at hK;exact h.ldRow (qci h fun w1 hT1=>key _ _ hT1 hK)
 rw [if_neg e] at hK;refine cO (fun e=>?_) fun e=>?_
 ·rw [if_pos (eq_of_beq e)] at hK;refine hd.m.ldCol (q4v hd.m fun w1 hB1=>?_);have h1:=hd.ext hB1;exact ⟨h1.m.cCol,qci h1.m fun w2 hT2=>key _ _ (h1.trans hT2) hK⟩
 rw [if_neg (beq_eq_false_iff_ne.1 e)] at hK;refine or2 (fun e=>cT rfl ?_) fun e=>cF rfl ?_
 ·rw [if_pos e] at hK;refine q4v h fun w1 hB1=>?_;have h1:=ScT.of_ext h hB1;exact qkp (i:=1) (hp.ext hB1) (qci h1.m fun w2 hT2=>key _ _ (h1.trans hT2) hK)
 rw [if_neg e] at hK;have hsl:=h.ok.slen;refine cO (fun e=>?_) fun e=>?_
 ·rw [if_pos (eq_of_beq e)] at hK;refine hd.m.ldRow (hd.m.ldStops (hd.m.ldCol ?_));refine q35 hd.m.st hsl _ _ hn.2 fun w1 hB1=>?_;have h1:=hd.ext hB1;exact ⟨h1.m.cRow,qci h1.m fun w2 hT2=>key _ _ (h1.trans hT2) hK⟩
 rw [if_neg (beq_eq_false_iff_ne.1 e)] at hK;refine cO (fun e=>?_) fun e=>?_
 ·rw [if_pos (eq_of_beq e)] at hK;refine hd.m.ldRow (hd.m.ldStops (hd.m.ldCol ?_));refine zb2 hd.m.st hsl _ _ hn.2 fun w1 hB1=>?_;have h1:=hd.ext hB1;exact ⟨h1.m.cRow,qci h1.m fun w2 hT2=>key _ _ (h1.trans hT2) hK⟩
 ·rw [if_neg (beq_eq_false_iff_ne.1 e)] at hK;exact key _ _ (ScT.refl h) hK
end
section
variable {w w':World} {base g:Nat} {F F':ScF} {S S':Sc} {p:Slc} {ps:List Int}
theorem ScOk.alt (h:ScOk S) (b:Bool):ScOk { S with alt:=b }:=⟨h.g0,h.g1,h.rows,h.cols,h.row,h.col,h.shift,h.sh0,h.sh1,h.top,h.marg,h.stops⟩
theorem q4a (S:Sc):S.save.areas=S.areas:=by unfold Sc.save Sc.withS;split<;>rfl
theorem q2d (h:ScM w base g F S) {b all:Bool} {K:World->Prop} (ha:S.areas.length<=900000000) (hK:∀F' w',ScT base g w F F' (S.show_ b all) w'->K w'):qfa (some ⟨g,0,none⟩) (if b then 1 else 0) all w K:=by
 refine qum _ _ _ ?_;unfold qnb;simp only [onPtr_some];refine lI (x:=if S.alt then 1 else 0) (by rw [qae];exact h.blk.cell 2 rfl) ?_;unfold Sc.show_ at hK;refine cO (fun e=>?_) fun e=>?_
 ·have e:S.alt=b:=by
   revert e;cases S.alt<;>cases b<;>decide
  rw [if_pos e] at hK;exact hK F w (ScT.refl h)
 have e:¬S.alt=b:=by
  revert e;cases S.alt<;>cases b<;>decide
 rw [if_neg e] at hK;dsimp only at hK;refine jpO fun J1 hJ1=>?_;have key:∀(S1:Sc) w1,S1.areas=S.areas->S1=(if all=true/\b=true then S.save else S)->ScT base g w F F S1 w1->J1 () w1:=by
  intro S1 w1 har hS1 hT1;rw [<-hS1] at hK;refine hJ1 _ _ ?_;rw [qae];refine qah hT1.m.blk (by simp [qab.rep]) fun w2 hb2 hg2 hs2=>?_;have hT2:ScT base g w1 F F { S1 with alt:=b } w2:=ScT.mk_struct hT1.m (Chg.gg hg2) (S':={ S1 with alt:=b }) hb2 rfl rfl rfl rfl rfl rfl (hT1.m.ok.alt b);have h2:=hT1.trans hT2;have har2:({ S1 with alt:=b }:Sc).areas.length<=900000000:=by show S1.areas.length<=_;rw [har];exact ha
  refine jpO fun J2 hJ2=>?_;cases all
  ·refine cF rfl (hJ2 _ _ (cF rfl (cF rfl ?_)));rw [if_neg (by simp),if_neg (by simp)] at hK;exact hK _ _ h2
  ·refine cT rfl ?_;cases b
   ·refine hJ2 _ _ (cF rfl (cT rfl ?_));rw [if_neg (by simp),if_pos rfl] at hK;exact qs7 h2.m fun w3 hT3=>hK _ _ (h2.trans hT3)
   ·refine hJ2 _ _ (cT rfl ?_);rw [if_pos ⟨rfl,rfl⟩] at hK;refine qcz h2.m ?_;have h3:=h2.drew.drew;refine h3.m.stDry fun w4 hT4=>?_;have h4:=h3.trans hT4;have hbnd:=h2.m.ok.bnd;refine qgn h4.m (by show ({ S1 with alt:=true }:Sc).areas.length<=_;omega) (by omega) fun F5 w5 hT5=>hK _ _ (h4.trans hT5)
 cases all
 ·exact cF rfl (key S w rfl (by rw [if_neg (by simp)]) (ScT.refl h))
 ·refine cT rfl ?_;cases b
  ·exact cF rfl (key S w rfl (by rw [if_neg (by simp)]) (ScT.refl h))
  ·exact cT rfl (qz7 h fun w1 hT1=>key _ _ (q4a S) (by rw [if_pos ⟨rfl,rfl⟩]) hT1)
theorem ScOk.origin (h:ScOk S) (b:Bool):ScOk { S with c:={ S.c with Origin:=b } }:=h.cur h.rowg h.colg h.shift
theorem zef (h:ScM w base g F S) {n:Int} (hn:in64 n) {b:Bool} {K:World->Prop} (ha:S.areas.length<=900000000) (hK:∀F' w',ScT base g w F F' (S.turn n b) w'->K w'):qe6 (some ⟨g,0,none⟩) n b w K:=by
 refine qu5 _ _ _ ?_;unfold qms;simp only [onPtr_some];unfold Sc.turn at hK;refine jpO fun J1 hJ1=>?_;have key:J1 (if b then 1 else 0,()) w:=by
  refine hJ1 _ _ ?_;refine cO (fun e=>?_) fun e=>?_
  ·rw [if_pos (eq_of_beq e)] at hK;rw [qae,qae];refine qah h.blk (by simp [qab.rep]) fun w2 hb2 hg2 hs2=>?_;have hT2:ScT base g w F F { S with c:={ S.c with Origin:=b } } w2:=ScT.mk_struct h (Chg.gg hg2) (S':={ S with c:={ S.c with Origin:=b } }) hb2 rfl rfl rfl rfl rfl rfl (h.ok.origin b);exact q56 hT2.m fun w3 hT3=>hK _ _ (hT2.trans hT3)
  rw [if_neg (beq_eq_false_iff_ne.1 e)] at hK;refine or5 (fun e=>cT rfl ?_) fun e=>cF rfl ?_
  ·rw [if_pos e] at hK;refine qef (x:=some F.mp) (by rw [qae];exact h.blk.cell 36 rfl) ?_;exact h.setPr hn fun w2 hT2=>hK _ _ hT2
  rw [if_neg e] at hK;refine or2 (fun e=>cT rfl ?_) fun e=>cF rfl ?_
  ·rw [if_pos e] at hK;exact q2d h ha hK
  rw [if_neg e] at hK;refine cO (fun e=>?_) fun e=>?_
  ·rw [if_pos (eq_of_beq e)] at hK;exact q2d h ha hK
  ·rw [if_neg (beq_eq_false_iff_ne.1 e)] at hK;exact hK _ _ (ScT.refl h)
 cases b
 ·exact cF rfl key
 ·exact cT rfl key
theorem q4n (S:Sc) (b all:Bool):(S.show_ b all).areas.length<=S.areas.length+1:=by
 unfold Sc.show_;split
 ·omega
 ·dsimp only;split
  ·refine Nat.le_trans (qwk _ _ _ _ _) ?_;show S.save.areas.length+1<=_;rw [q4a];omega
  ·split
   ·show S.areas.length<=_;omega
   ·show S.areas.length<=_;omega
theorem zb4 (S:Sc) (n:Int) (b:Bool):(S.turn n b).areas.length<=S.areas.length+1:=by
 unfold Sc.turn;split
 ·show S.areas.length<=_;omega
 ·split
  ·show S.areas.length<=_;omega
  ·split
   ·exact q4n _ _ _
   ·split
    ·exact q4n _ _ _
    ·omega
theorem qwc (b:Bool):∀(l:List Int) (S:Sc),(S.turns b l).areas.length<=S.areas.length+l.length
 | [],S=>by show S.areas.length<=_;omega
 | n::l,S=>by
  have h1:=qwc b l (S.turn n b);have h2:=zb4 S n b;have h3:S.turns b (n::l)=(S.turn n b).turns b l:=rfl;rw [h3,length_cons];omega
theorem zc9 (S:Sc) (b:Bool) (l:List Int) (n:Int):S.turns b (l++[n])=(S.turns b l).turn n b:=by
 unfold Sc.turns;rw [List.foldl_append];rfl
theorem ScOk.softOf (h:ScOk S):ScOk S.soft:=by
 have hb:=h.bnd;obtain ⟨e1,e2⟩:=h.grows;exact ⟨h.g0,h.g1,h.rows,h.cols,h.row,h.col,.inl rfl,.inl rfl,.inl rfl,⟨Int.le_refl 0,by show (0:Int)<(S.g.rows:Int);omega,by show (S.g.rows:Int)<=S.g0.rows;omega⟩,fun hh=>by
  show (0:Int)+2<=(S.g.rows:Int);have hh:2<=S.g0.rows:=hh;omega,h.stops⟩
theorem zer (h:ScM w base g F S) {K:World->Prop} (hK:∀F' w',ScT base g w F F' S.soft w'->K w'):qim (some ⟨g,0,none⟩) w K:=by
 refine qva _ ?_;unfold qmv;refine qcz h ?_;refine zdb (ScT.refl h).drew.drew.m fun F1 w1 hT1=>?_;have h1:=(ScT.refl h).drew.drew.trans hT1;simp only [onPtr_some];rw [qae];refine qah h1.m.blk (by simp [qab.rep]) fun w2 hb2 hg2 hs2=>?_;rw [qae];refine qah hb2 (by simp [qab.rep,putL]) fun w3 hb3' hg3 hs3=>?_;obtain ⟨X,hX⟩:∃X:qab,X={ scX F1 S.plain with top:=0,past:=S.g.rows }:=⟨_,rfl⟩;have hb3:Blk w3 g qa1 (qab.rep.cells X):=by rw [hX];exact hb3'
 rw [qae];refine qah hb3 (by simp [qab.rep]) fun w4 hb4' hg4 hs4=>?_;rw [q17] at hb4';have c4:Chg (fun k=>k=g) w1 w4:=qcg (qcg (Chg.gg hg2) (Chg.gg hg3)) (Chg.gg hg4);refine qyg fun w5 hB5=>nwb fun w6 hx6 hB6 hs6=>qfo hx6 rfl fun w7 hx7 hc7 hs7=>?_;have hB57:Below w4.heap.size w4 w7:=qbj (qaz hB5 hB6) hc7 hB5.size;have hb7:=(hb4'.ext hB57).drew;have hx8:=hx7.drew;refine qaq (r:=qd9.rep) (x:=⟨66,66⟩) (by rw [qae];exact qnd hx8 7 rfl) (lI (x:=0) (by rw [qae];exact hx8.cell 9 rfl) ?_);have hgw:g<w4.heap.size:=hb4'.lt;have s5:=hB5.size;have hne:w5.heap.size≠g:=by omega
 simp only [qae];refine qah hb7 (by simp [qab.rep]) fun w9 hb9 hg9 hs9=>?_;have hx9:=hx8.chg (Chg.gg hg9) hne;refine ⟨hx9.cell 9 rfl,qnd hx9 7 rfl,?_⟩;refine qah hb9 (by simp [qab.rep,putL,qd9.rep]) fun w10 hb10 hg10 hs10=>?_;have hx10:=hx9.chg (Chg.gg hg10) hne;refine ⟨hx10.cell 9 rfl,?_⟩;refine qah hb10 (by simp [qab.rep,putL,qd9.rep]) fun w11 hb11 hg11 hs11=>?_;refine qah hb11 (by simp [qab.rep,putL,qd9.rep]) fun w12 hb12 hg12 hs12=>?_;have c12:Chg (fun k=>k=g) w1 w12:=by
  have a1:=qcg c4 (Chg.of_ext (S:=fun k=>k=g) hB57);have a2:=qcg a1 (Chg.of_ext (S:=fun k=>k=g) (qav w7));exact qcg (qcg (qcg (qcg a2 (Chg.gg hg9)) (Chg.gg hg10)) (Chg.gg hg11)) (Chg.gg hg12)
 refine hK F1 w12 (h1.trans (ScT.mk_struct h1.m c12 (S':=S.soft) ?_ rfl rfl rfl rfl rfl rfl h.ok.softOf));rw [hX] at hb12;exact hb12
theorem q8h (h:ScM w base g F S) {c:Int} {K:World->Prop} (hK:∀F' w',ScT base g w F F' (S.control c) w'->K w'):qgc (some ⟨g,0,none⟩) c w K:=by
 refine qrn _ _ ?_;unfold qkd;simp only [onPtr_some];unfold Sc.control at hK;have hd:=(ScT.refl h).drew;refine jpO fun J1 hJ1=>?_;have cr:∀(S1:Sc) F1 w1,ScT base g w F F1 S1 w1->(∀F' w',ScT base g w F F' (S1.to S1.c.Row 0) w'->K w')->J1 () w1:=by
  intro S1 F1 w1 hT1 hK;exact hJ1 _ _ (hT1.m.ldRow (qci hT1.m fun w2 hT2=>hK _ _ (hT1.trans hT2)))
 refine cO (fun e=>?_) fun e=>?_
 ·rw [if_pos (eq_of_beq e)] at hK;exact hd.m.ldRow (hd.m.ldCol (qci hd.m fun w1 hT1=>hK _ _ (hd.trans hT1)))
 rw [if_neg (beq_eq_false_iff_ne.1 e)] at hK;refine cO (fun e=>?_) fun e=>?_
 ·rw [if_pos (eq_of_beq e)] at hK;refine hd.m.ldRow (hd.m.ldStops (hd.m.ldCol ?_));refine q35 hd.m.st h.ok.slen _ _ (by decide) fun w1 hB1=>?_;have h1:=hd.ext hB1;exact ⟨h1.m.cRow,qci h1.m fun w2 hT2=>hK _ _ (h1.trans hT2)⟩
 rw [if_neg (beq_eq_false_iff_ne.1 e)] at hK;refine jpO fun J2 hJ2=>?_;have nl:(c=10\/c=11\/c=12)->qbn (some ⟨g,0,none⟩) w fun w9=>ldM ((⟨g,0,none⟩:Addr).add 35) w9 fun t53=>runK1 PG (Instr.lookup qas (.map t53) (.int .i64 20) false) Kind.bool w9 fun (t54:Bool) w10=>cond (!t54) (K w10) (J1 (()) w10):=by
  intro hc;rw [if_pos hc] at hK;refine qog h fun F1 w1 hT1=>?_;refine qef (x:=some F1.mm) (by rw [qae];exact hT1.m.blk.cell 35 rfl) (qq9 hT1.m.mo ?_);have hm:(lookL S.index.modes 20).getD false=S.index.mode 20:=rfl;rw [hm];cases e:S.index.mode 20
  ·rw [if_neg (by rw [e];decide)] at hK;exact cT rfl (hK _ _ hT1)
  ·rw [if_pos e] at hK;exact cF rfl (cr _ _ _ hT1 hK)
 refine cO (fun e=>?_) fun e1=>?_
 ·exact cT e (nl (.inl (eq_of_beq e)))
 refine cO (fun e=>?_) fun e2=>?_
 ·exact cT e (nl (.inr (.inl (eq_of_beq e))))
 refine cO (fun e=>?_) fun e3=>?_
 ·exact nl (.inr (.inr (eq_of_beq e)))
 rw [if_neg (fun hh=>by rcases hh with hh | hh | hh;exact beq_eq_false_iff_ne.1 e1 hh;exact beq_eq_false_iff_ne.1 e2 hh;exact beq_eq_false_iff_ne.1 e3 hh)] at hK;refine hJ2 _ _ ?_;have sh:∀v,(v=0\/v=1)->c=15-v->(∀F' w',ScT base g w F F' { S with c:={ S.c with Shift:=15-c } } w'->K w')->stK (((⟨g,0,none⟩:Addr).add 3).add 9) [(.int .i64 (i64.wrap (IntKind.u8.wrap ((15:Int)-c))))] w K:=by
  intro v hv hc hK;have e1:i64.wrap (IntKind.u8.wrap ((15:Int)-c))=v:=by
   rw [hc];rcases hv with rfl | rfl<;>decide
  rw [e1,qae,qae];refine qah h.blk (by simp [qab.rep]) fun w2 hb2 hg2 hs2=>?_;have e2:15-c=v:=by omega
  rw [e2] at hK;exact hK _ _ (ScT.mk_struct h (Chg.gg hg2) (S':={ S with c:={ S.c with Shift:=v } }) hb2 rfl rfl rfl rfl rfl rfl (h.ok.cur h.ok.rowg h.ok.colg hv))
 refine cO (fun e=>?_) fun e=>?_
 ·rw [if_pos (eq_of_beq e)] at hK;exact cr _ _ _ (ScT.refl h) hK
 rw [if_neg (beq_eq_false_iff_ne.1 e)] at hK;refine cO (fun e=>?_) fun e4=>?_
 ·rw [if_pos (.inl (eq_of_beq e))] at hK;exact cT e (sh 1 (.inr rfl) (by have:c=14:=eq_of_beq e;omega) hK)
 refine cO (fun e=>?_) fun e5=>?_
 ·rw [if_pos (.inr (eq_of_beq e))] at hK;exact sh 0 (.inl rfl) (by have:c=15:=eq_of_beq e;omega) hK
 ·rw [if_neg (fun hh=>hh.elim (beq_eq_false_iff_ne.1 e4) (beq_eq_false_iff_ne.1 e5))] at hK;exact hK _ _ (ScT.refl h)
end
def Sc.putG (S:Sc) (k:Bool) (G:GS):Sc:=if k then { S with g1:=G } else { S with g0:=G }
def Sc.gk (S:Sc) (k:Bool):GS:=if k then S.g1 else S.g0
section
variable {w w':World} {base g:Nat} {F F':ScF} {S S':Sc} {p:Slc} {ps:List Int}
theorem ScM.gkM (h:ScM w base g F S) (k:Bool):GridM w base (F.f k) (S.gk k):=by
 cases k
 ·exact h.g0
 ·exact h.g1
theorem ScOk.gkOk (h:ScOk S) (k:Bool):GOk (S.gk k):=by
 cases k
 ·exact h.g0
 ·exact h.g1
theorem ScOk.putG (h:ScOk S) (k:Bool) {G:GS} (hG:GOk G) (hr:G.rows=S.g0.rows) (hc:G.cols=S.g0.cols):ScOk (S.putG k G):=by
 cases k
 ·refine ⟨hG,h.g1,by show S.g1.rows=G.rows;rw [hr,h.rows],by show S.g1.cols=G.cols;rw [hc,h.cols],?_,?_,h.shift,h.sh0,h.sh1,?_,?_,?_⟩
  ·show 0<=S.c.Row/\S.c.Row<(G.rows:Int);rw [hr];exact h.row
  ·show 0<=S.c.Col/\S.c.Col<(G.cols:Int);rw [hc];exact h.col
  ·show 0<=S.top/\S.top<S.past/\S.past<=(G.rows:Int);rw [hr];exact h.top
  ·show 2<=G.rows->_;rw [hr];exact h.marg
  ·show S.stops.length=G.cols;rw [hc];exact h.stops
 ·exact ⟨h.g0,hG,hr,hc,h.row,h.col,h.shift,h.sh0,h.sh1,h.top,h.marg,h.stops⟩
theorem ScM.regrid (h:ScM w base g F S) (k:Bool) {f':Foot} {G':GS} (hg:GridM w' base f' G') (hto:(F.f k).to f' w.heap.size) (hc:Chg (gridS (F.f k)) w w') (ok:ScOk (S.putG k G')):ScM w' base g (F.put k f') (S.putG k G'):=by
 have hC:∀i cs,gridS (F.f k) i->¬Blk w i qao cs:=fun i cs hk hcs=>h.notC i cs (by cases k;exact .inr (.inl hk);exact .inr (.inr (.inl hk))) hcs;have hp:=h.of_grid k;have hstep:∀i,gridS f' i->gridS (F.f k) i\/w.heap.size<=i:=hto.old;have hgf:=hto.g;have hblk:=h.blk.chg hc fun e=>(hp g e).1 rfl;have hst:=h.st.keep hc (fun e=>(hp _ e).2.2.1 rfl) (fun e=>(hp _ e).2.2.2.1 rfl);have hmo:=h.mo.chg hc (fun e=>(hp _ e).2.2.2.2.1 rfl);have hpr:=h.pr.chg hc (fun e=>(hp _ e).2.2.2.2.2.1 rfl);have har:=h.ar.chg hc fun i hk e=>(hp i e).2.2.2.2.2.2 hk;cases k
 ·refine ⟨?_,h.hg,hg,h.g1.chg hc (fun i hk e=>(hp i e).2.1 hk) hC,hst,h.hst,hmo,hpr,h.hm,h.dm,har,fun i hk hk'=>?_,ok⟩
  ·have e2:scX (F.put false f') (S.putG false G')=scX F S:=by
    have hgf:f'.g=F.f0.g:=hgf;unfold scX ScF.put Sc.putG;simp only [Bool.false_eq_true,if_false];rw [hgf]
   rw [e2];exact hblk
  ·rcases hstep i hk with h2 | h2
   ·exact h.dg i h2 hk'
   ·have:=(h.g1.below i hk').2;omega
 ·refine ⟨?_,h.hg,h.g0.chg hc (fun i hk e=>(hp i e).2.1 hk) hC,hg,hst,h.hst,hmo,hpr,h.hm,h.dm,har,fun i hk hk'=>?_,ok⟩
  ·have e2:scX (F.put true f') (S.putG true G')=scX F S:=by
    have hgf:f'.g=F.f1.g:=hgf;unfold scX ScF.put Sc.putG;simp only [if_true];rw [hgf]
   rw [e2];exact hblk
  ·rcases hstep i hk' with h2 | h2
   ·exact h.dg i hk h2
   ·have:=(h.g0.below i hk).2;omega
theorem ScT.mk_regrid (h:ScM w base g F S) (k:Bool) {f':Foot} {G':GS} (hg:GridM w' base f' G') (hto:(F.f k).to f' w.heap.size) (hc:Chg (gridS (F.f k)) w w') (ok:ScOk (S.putG k G')):ScT base g w F (F.put k f') (S.putG k G') w':=by
 refine ⟨h.regrid k hg hto hc ok,fun i hk=>?_,hc.mono fun i hi e=>?_⟩
 ·have hstep:=hto.old;revert hk hstep;unfold ScF.put ScF.f;cases k
  ·rintro (rfl | hk | hk | hk) hstep
   ·exact .inl (.inl rfl)
   ·rcases hstep i hk with h2 | h2
    ·exact .inl (.inr (.inl h2))
    ·exact .inr h2
   ·exact .inl (.inr (.inr (.inl hk)))
   ·exact .inl (.inr (.inr (.inr hk)))
  ·rintro (rfl | hk | hk | hk) hstep
   ·exact .inl (.inl rfl)
   ·exact .inl (.inr (.inl hk))
   ·rcases hstep i hk with h2 | h2
    ·exact .inl (.inr (.inr (.inl h2)))
    ·exact .inr h2
   ·exact .inl (.inr (.inr (.inr hk)))
 ·revert e;unfold ScF.f;cases k
  ·exact fun e=>.inr (.inl e)
  ·exact fun e=>.inr (.inr (.inl e))
theorem ScF.put_self (F:ScF) (k:Bool):F.put k (F.f k)=F:=by cases k<;>rfl
theorem za7 (S:Sc) (k:Bool) (G:GS):(S.putG k G).gk k=G:=by cases k<;>rfl
theorem zeu (S:Sc) (k:Bool) (G G':GS):(S.putG k G).putG k G'=S.putG k G':=by cases k<;>rfl
theorem f_put (F:ScF) (k:Bool) (f:Foot):(F.put k f).f k=f:=by cases k<;>rfl
theorem q6h (S:Sc) (k:Bool):S.clear0 k={ S.putG k { S.gk k with L:=List.replicate (S.gk k).rows (newL (S.gk k).cols ⟨0,0,0⟩),old:=[] } with areas:=S.areas++[⟨k,(S.gk k).top,(S.gk k).rows,0,(S.gk k).cols⟩] }:=by cases k<;>rfl
theorem q4p (S:Sc) (k:Bool) (G:GS):(S.putG k G).areas=S.areas:=by cases k<;>rfl
theorem q0j (h:ScM w base g F S) (k:Bool) {a:Option Addr} (ea:a=some ⟨(F.f k).g,0,none⟩) {b:Bool} (eb:b=k) (ha:S.areas.length<=900000000) {K:World->Prop} (hK:∀F' w',(∀j,(F'.f j).g=(F.f j).g)->ScT base g w F F' (S.clear0 k) w'->K w') :
  qct a w fun t16_2 t16_3 w9 =>
     qdx a (⟨0,0,0⟩:qac) w9 fun w10 =>
     qcv a w10 fun w11 =>
     ldSl ((⟨g,0,none⟩:Addr).add 41) w11.drew fun t28_1 =>
     qc5 a w11.drew fun t32_1 w12 =>
     World.cell? w12 ((⟨g,0,none⟩:Addr).add 41)=some (.slice t28_1.a t28_1.n t28_1.c) /\
     nw qd3 [(.bool b),(.int .i64 t32_1),(.int .i64 t16_2),(.int .i64 0),(.int .i64 t16_3)] w12 fun t36_1 w13 =>
     World.cell? w13 ((⟨g,0,none⟩:Addr).add 41)=some (.slice t28_1.a t28_1.n t28_1.c) /\
     apK PG #[qba,qba] qba t28_1 (⟨(some t36_1),1,1⟩:Slc) w13 fun t37_1 w14 =>
     stK ((⟨g,0,none⟩:Addr).add 41) [(.slice t37_1.a t37_1.n t37_1.c)] w14 K:=by
 subst ea eb;have ok:=h.ok;have hG:=ok.gkOk b;have e:(S.gk b).rows=S.g0.rows/\(S.gk b).cols=S.g0.cols:=by
  cases b
  ·exact ⟨rfl,rfl⟩
  ·exact ⟨ok.rows,ok.cols⟩
 refine qok (h.gkM b) ?_;have hd:=(ScT.refl h).drew;refine q2c (hd.m.gkM b) (by have:=hG.rows;omega) hd.m.base_le fun f1 w1 hg1 hto1 hc1=>?_;have hT1:=ScT.mk_regrid hd.m b hg1 hto1 hc1 (ok.putG b (hG.clear _) e.1 e.2);have h1:=hd.trans hT1;have hgk:=h1.m.gkM b;rw [f_put,za7] at hgk;have eg1:f1.g=(F.f b).g:=hto1.g;rw [<-eg1];refine q1l hgk fun w2 hg2 hc2=>?_;have hT2:=ScT.mk_regrid h1.m b (f':={ f1 with rs:=⟨none,0,0⟩ }) (G':={ S.gk b with L:=List.replicate (S.gk b).rows (newL (S.gk b).cols ⟨0,0,0⟩),old:=[] }) hg2 (by rw [f_put];exact ⟨rfl,rfl,.inl rfl,.inr fun k hk=>by cases hk⟩) (by rw [f_put];exact hc2) (h1.m.ok.putG b (hG.clear _).forget (by rw [show (S.putG b { S.gk b with L:=List.replicate (S.gk b).rows (newL (S.gk b).cols ⟨0,0,0⟩) }).g0.rows=S.g0.rows from by cases b<;>rfl];exact e.1) (by rw [show (S.putG b { S.gk b with L:=List.replicate (S.gk b).rows (newL (S.gk b).cols ⟨0,0,0⟩) }).g0.cols=S.g0.cols from by cases b<;>rfl];exact e.2));have h2:=(h1.trans hT2).drew;rw [zeu] at h2;have hgk2:=h2.m.gkM b;rw [f_put,za7] at hgk2;refine lSl (x:=((F.put b f1).put b { f1 with rs:=⟨none,0,0⟩ }).ar) (by rw [qae];exact h2.m.blk.cell 41 rfl) ?_;refine qvp (f:={ f1 with rs:=⟨none,0,0⟩ }) hgk2 ⟨by rw [qae];exact h2.m.blk.cell 41 rfl,?_⟩;refine q6f (a:=⟨b,(S.gk b).top,(S.gk b).rows,0,(S.gk b).cols⟩) h2.m (by rw [q4p];omega) rfl fun q w3 hT3=>?_;have h3:=h2.trans hT3;rw [q4p] at h3;rw [q6h] at hK;refine hK _ w3 (fun j=>?_) h3;cases b<;>cases j<;>first | rfl | exact eg1
theorem q8g (S:Sc) (k:Bool):(S.clear0 k).areas.length=S.areas.length+1:=by rw [q6h];simp
theorem zdf (h:ScM w base g F S) (ha:S.areas.length<=800000000) {K:World->Prop} (hK:∀F' w',ScT base g w F F' S.reset w'->K w'):qhu (some ⟨g,0,none⟩) w K:=by
 refine qtv _ ?_;unfold qlz;simp only [onPtr_some];refine qaq (r:=qew.rep) (x:=⟨some ⟨F.f0.g,0,none⟩,some ⟨F.f1.g,0,none⟩⟩) (by rw [qae];exact qnd h.blk 0 rfl) ?_;refine lpR (fun (st:Int×Unit) w2=>∃F2,(∀j,(F2.f j).g=(F.f j).g)/\((st.1=0/\ScT base g w F F2 S w2)\/(st.1=1/\ScT base g w F F2 (S.clear0 false) w2)\/(st.1=2/\ScT base g w F F2 ((S.clear0 false).clear0 true) w2))) (fun st=>2-st.1.toNat) ⟨F,fun _=>rfl,.inl ⟨rfl,ScT.refl h⟩⟩ ?_;rintro ⟨i,u⟩ w2 ⟨F2,hf,⟨rfl,hT⟩ | ⟨rfl,hT⟩ | ⟨rfl,hT⟩⟩ I hI
 ·refine cT rfl (cT rfl ?_);refine q0j hT.m false (by rw [hf false];rfl) rfl (by omega) fun F3 w3 hf3 hT3=>?_;exact hI _ _ ⟨F3,fun j=>(hf3 j).trans (hf j),.inr (.inl ⟨by show i64.wrap (0+1)=1;decide,hT.trans hT3⟩)⟩ (by show 2-(i64.wrap (0+1)).toNat<2-(0:Int).toNat;decide)
 ·refine cT rfl (cF rfl (cT rfl ?_));refine q0j hT.m true (by rw [hf true];rfl) rfl (by rw [q8g];omega) fun F3 w3 hf3 hT3=>?_;exact hI _ _ ⟨F3,fun j=>(hf3 j).trans (hf j),.inr (.inr ⟨by show i64.wrap (1+1)=2;decide,hT.trans hT3⟩)⟩ (by show 2-(i64.wrap (1+1)).toNat<2-(1:Int).toNat;decide)
 ·refine cF rfl ?_;exact zda hT.m fun F3 w3 hT3=>hK F3 w3 (hT.trans hT3)
def qhn (cols:Nat):List Cell:=(newL cols ⟨0,0,0⟩).map fun c=>({ c with R:=69 }:Cell)
def eCell (c:Cell):Cell:={ c with R:=69 }
theorem q87 {l:List Cell} {k:Nat} (hk:k<l.length):((l.take k).map eCell++l.drop k).set k (eCell l[k])=(l.take (k+1)).map eCell++l.drop (k+1):=by
 rw [List.set_append_right _ _ (by rw [length_map,length_take];omega)];have e:((l.take k).map eCell).length=k:=by rw [length_map,length_take];omega
 rw [e,Nat.sub_self,List.drop_eq_getElem_cons hk,List.set_cons_zero,List.take_succ_eq_append_getElem hk,List.map_append];rw [List.append_assoc];rfl
theorem zha (cols:Nat):okR (qhn cols):=by
 intro c hc;obtain ⟨d,_,rfl⟩:=List.mem_map.1 hc;exact ⟨show (-9223372036854775808:Int)<=69 by decide,show (69:Int)<=9223372036854775807 by decide⟩
theorem zf8 (cols:Nat) (h:cols<=1000):(qhn cols).length=cols:=by
 unfold qhn;rw [length_map];exact (qnp h _).2.1
theorem zhx {α:Type} {L:List α} {x:α} {k:Nat} (hk:k<L.length):(List.replicate k x++L.drop k).set k x=List.replicate (k+1) x++L.drop (k+1):=by
 rw [List.set_append_right _ _ (by simp)];rw [List.drop_eq_getElem_cons hk];simp only [List.length_replicate,Nat.sub_self,List.set_cons_zero];rw [List.replicate_succ'];simp
def fullG (G:GS) (xs:List Cell) (k:Nat):GS:={ G with L:=List.replicate k xs++G.L.drop k }
theorem zcd (S:Sc):S.withG S.g=S:=by
 obtain ⟨g0,g1,alt,c,s0,s1,modes,priv,top,past,stops,char,areas⟩:=S;cases alt<;>rfl
theorem ScOk.full1 (h:ScOk S):ScOk { S with top:=0,past:=S.g.rows }:=by
 have hb:=h.bnd;obtain ⟨e1,e2⟩:=h.grows;exact ⟨h.g0,h.g1,h.rows,h.cols,h.row,h.col,h.shift,h.sh0,h.sh1,⟨Int.le_refl 0,by show (0:Int)<(S.g.rows:Int);omega,by show (S.g.rows:Int)<=S.g0.rows;omega⟩,fun hh=>by
  show (0:Int)+2<=(S.g.rows:Int);have hh:2<=S.g0.rows:=hh;omega,h.stops⟩
theorem zd4 (h:ScM w base g F S) {K:World->Prop} (hK:∀w',ScT base g w F F S.full w'->K w'):qil (some ⟨g,0,none⟩) w K:=by
 refine qvb _ ?_;unfold qne;refine qcz h ?_;have hd:=(ScT.refl h).drew.drew;have hb:=h.ok.bnd;refine q31 fun l w1 ho1 hB1=>?_;have h1:=hd.ext hB1;obtain ⟨xs,hxs⟩:∃xs,xs=newL S.g.cols ⟨0,0,0⟩:=⟨_,rfl⟩;have hxl:xs.length=S.g.cols:=by rw [hxs];exact (qnp hb.2.2.2 _).2.1
 rw [<-hxs] at ho1;have z1:w.drew.drew.heap.size=w.heap.size:=rfl;have hfr:xs.map eCell=qhn S.g.cols:=by rw [hxs];rfl
 have hfl:=zf8 S.g.cols hb.2.2.2;have hL:=h.gOk.len;refine lpR (fun (st:Int×Unit) w2=>∃k:Nat,st.1=(k:Int)/\k<=xs.length/\Below w.drew.drew.heap.size w.drew.drew w2/\Go.Vc.Own cellE w2 w.drew.drew.heap.size l ((xs.take k).map eCell++xs.drop k)) (fun st=>xs.length-st.1.toNat) ⟨0,rfl,by omega,hB1,by simpa using ho1⟩ ?_;rintro ⟨i,u⟩ w2 ⟨k,hi,hk,hB2,ho2⟩ I hI;dsimp only at hi ⊢;subst hi;have hn:=ho2.rd.n;have hlen:((xs.take k).map eCell++xs.drop k).length=xs.length:=by simp;omega
 rw [hlen] at hn;refine cO (fun e=>?_) fun e=>?_
 ·have e:=oTq e;have hkl:k<xs.length:=by omega
  have hx:((xs.take k).map eCell++xs.drop k)[k]?=some xs[k]:=by
   rw [List.getElem?_append_right (by simp;omega),List.getElem?_drop];simp only [length_map,length_take,Nat.min_eq_left hk,Nat.sub_self,Nat.add_zero];exact List.getElem?_eq_getElem hkl
  refine ho2.rd.ix (i:=(k:Int)) rfl (by omega) (by rw [hlen];omega) fun _=>?_;rw [toNat_natCast];refine ho2.st (j:=0) hx (y:=eCell xs[k]) (us:=[.int .i32 69]) (by decide) rfl fun w3 ho3 hg3 hs3=>?_;rw [q87 hkl] at ho3;rw [w64i (x:=(k:Int)+1) (by omega)];have c3:Chg (fun j=>l.blk=some j) w2 w3:=Chg.of_grown hg3 fun j hj=>hj;exact hI _ _ ⟨k+1,by simp,by omega,hB2.trans (c3.below hB2.size fun j hj e=>by have:=(ho2.lt j e).1;omega),ho3⟩ (by dsimp only;omega)
 ·have e:=oFq e;have hkx:k=xs.length:=by omega
  subst hkx;rw [take_length,List.drop_length,List.append_nil,hfr] at ho2;have h2:=hd.ext hB2;obtain ⟨R,hR⟩:∃R,R=qa6 (qhn S.g.cols) S.g.cols:=⟨_,rfl⟩;have e0:S.withG (fullG S.g R 0)=S:=zcd S;clear hI;refine lpR (fun (st:Int×Unit) w3=>∃k:Nat,st.1=(k:Int)/\k<=S.g.rows/\ScT base g w F F (S.withG (fullG S.g R k)) w3/\Rd cellE w3 l (qhn S.g.cols)) (fun st=>S.g.rows-st.1.toNat) ⟨0,rfl,by omega,by rw [e0];exact h2,ho2.rd⟩ ?_;rintro ⟨i,u⟩ w3 ⟨k,hi,hk,hT3,hr3⟩ I hI;dsimp only at hi ⊢;subst hi;have hg3:(S.withG (fullG S.g R k)).g=fullG S.g R k:=q5y _ _;have ha3:(S.withG (fullG S.g R k)).alt=S.alt:=by unfold Sc.withG;split<;>rfl
  refine cO (fun e=>?_) fun e=>?_
  ·have e:=oTq e;refine qgi hT3.m ?_;have hd3:=hT3.drew;have hgok:=hd3.m.gOk;have hll:=hgok.len;refine zdm (xs:=qhn S.g.cols) hd3.m.gM hr3.drew (by omega) hll hd3.m.base_le (fun w4 _ hg4 hc4=>?_) fun hbad=>?_
   ·rw [hg3] at hg4;rw [toNat_natCast] at hg4;have hkL:k<S.g.L.length:=by omega
    have eG:({ fullG S.g R k with L:=(fullG S.g R k).L.set k (qa6 (qhn S.g.cols) (fullG S.g R k).cols) }:GS)=fullG S.g R (k+1):=by
     show ({ fullG S.g R k with L:=(List.replicate k R++S.g.L.drop k).set k (qa6 (qhn S.g.cols) S.g.cols) }:GS)=_;rw [<-hR,zhx hkL];rfl
    rw [eG] at hg4;have ok1:GOk (fullG S.g R (k+1)):=by
     rw [<-eG];rw [hg3] at hgok;exact hgok.set k (q3u hgok.cols.2 (zha _))
    have hT4:=ScT.mk_grid hd3.m hg4 (Foot.to.refl _ _) hc4 (hd3.m.ok.withG ok1 (by rw [hg3];rfl) (by rw [hg3];rfl));rw [ScF.put_self] at hT4;have e4:(S.withG (fullG S.g R k)).withG (fullG S.g R (k+1))=S.withG (fullG S.g R (k+1)):=by
     unfold Sc.withG;cases hS:S.alt<;>simp
    rw [e4] at hT4;rw [w64i (x:=(k:Int)+1) (by omega)];refine hI _ _ ⟨k+1,by simp,by omega,hd3.trans hT4,?_⟩ (by dsimp only;omega);refine hr3.drew.chg hc4 fun a ha hs=>?_;have hlb:=(ho2.lt a.block (by unfold Slc.blk;rw [ha];rfl)).1;have:=(h.below a.block (by
     have hs:gridS (F.f (S.withG (fullG S.g R k)).alt) a.block:=hs;rw [ha3] at hs;cases hS:S.alt<;>rw [hS] at hs
     ·exact .inr (.inl hs)
     ·exact .inr (.inr (.inl hs)))).2
    have z:w.drew.drew.heap.size=w.heap.size:=rfl;omega
   ·rw [hg3] at hbad;exact absurd ⟨by omega,by show (k:Int)<(S.g.rows:Int);omega⟩ hbad
  ·have e:=oFq e;have hkr:k=S.g.rows:=by omega
   subst hkr;have eF:fullG S.g R S.g.rows={ S.g with L:=List.replicate S.g.rows (qa6 (qhn S.g.cols) S.g.cols) }:=by
    show ({ S.g with L:=List.replicate S.g.rows R++S.g.L.drop S.g.rows }:GS)=_;rw [List.drop_eq_nil_of_le (by omega),List.append_nil,hR]
   rw [eF] at hT3 hg3;simp only [onPtr_some];rw [qae];refine qah hT3.m.blk (by simp [qab.rep]) fun w4 hb4 hg4 hs4=>?_;rw [qae];refine qah hb4 (by simp [qab.rep,putL]) fun w5 hb5 hg5 hs5=>?_;have hc:Chg (fun k=>k=g) w3 w5:=qcg (Chg.gg hg4) (Chg.gg hg5);have ok5:=hT3.m.ok.full1;rw [hg3] at ok5;have hT5:=ScT.mk_struct hT3.m hc (S':={ S.withG { S.g with L:=List.replicate S.g.rows (qa6 (qhn S.g.cols) S.g.cols) } with top:=0,past:=S.g.rows }) hb5 rfl rfl rfl rfl rfl rfl ok5;refine qci hT5.m fun w6 hT6=>hK w6 ((hT3.trans hT5).trans hT6)
theorem q9t (h:ScM w base g F S) {c:Int} (ha:S.areas.length<=800000000) {K:World->Prop} (hK:∀F' w',ScT base g w F F' (S.single c) w'->K w'):qhc (some ⟨g,0,none⟩) c w K:=by
 refine qsl _ _ ?_;unfold qk7;simp only [onPtr_some];unfold Sc.single at hK;have hd:=(ScT.refl h).drew;refine cO (fun e=>?_) fun e=>?_
 ·rw [if_pos (eq_of_beq e)] at hK;exact h.ldRow (qci h fun w1 hT1=>qog hT1.m fun F2 w2 hT2=>hK _ _ (hT1.trans hT2))
 rw [if_neg (beq_eq_false_iff_ne.1 e)] at hK;refine cO (fun e=>?_) fun e=>?_
 ·rw [if_pos (eq_of_beq e)] at hK;exact qog h hK
 rw [if_neg (beq_eq_false_iff_ne.1 e)] at hK;refine cO (fun e=>?_) fun e=>?_
 ·rw [if_pos (eq_of_beq e)] at hK;exact q7o h hK
 rw [if_neg (beq_eq_false_iff_ne.1 e)] at hK;refine cO (fun e=>?_) fun e=>?_
 ·rw [if_pos (eq_of_beq e)] at hK;refine hd.m.ldStops (hd.m.ldCol ?_);refine zd5 hd.m.st hd.m.ok.slen.2 _ fun w2 hst hc hs=>hK _ _ (hd.trans (hd.m.setSt (setB_length _ _ _) hst hc))
 rw [if_neg (beq_eq_false_iff_ne.1 e)] at hK;refine cO (fun e=>?_) fun e=>?_
 ·rw [if_pos (eq_of_beq e)] at hK;exact qz7 h fun w1 hT1=>hK _ _ hT1
 rw [if_neg (beq_eq_false_iff_ne.1 e)] at hK;refine cO (fun e=>?_) fun e=>?_
 ·rw [if_pos (eq_of_beq e)] at hK;exact qs7 h fun w1 hT1=>hK _ _ hT1
 rw [if_neg (beq_eq_false_iff_ne.1 e)] at hK;refine cO (fun e=>?_) fun e=>?_
 ·rw [if_pos (eq_of_beq e)] at hK;exact zdf h ha hK
 ·rw [if_neg (beq_eq_false_iff_ne.1 e)] at hK;exact hK _ _ (ScT.refl h)
theorem ScOk.setSet (h:ScOk S) (i c:Int):ScOk (S.setSet i c):=by
 unfold Sc.setSet;split<;>exact h.cur h.rowg h.colg h.shift
theorem q46 (h:ScM w base g F S) {i c:Int} (hi:i=0\/i=1) {K:World->Prop} (hK:∀w',ScT base g w F F (S.setSet i c) w'->K w'):ixA (((⟨g,0,none⟩:Addr).add 3).add 7) 2 i 1 fun t24=>stK t24 [(.int .u8 c)] w.drew K:=by
 have hd:=(ScT.refl h).drew;have hok:=h.ok.setSet i c;rcases hi with rfl | rfl
 ·have e:S.setSet 0 c={ S with c:={ S.c with Sets:=⟨c,S.c.Sets.e1⟩ } }:=by unfold Sc.setSet;rw [if_pos rfl]
  rw [e] at hK hok;refine ⟨⟨by decide,by decide⟩,?_⟩;simp only [qae];refine qah hd.m.blk (by simp [qab.rep]) fun w2 hb2 hg2 hs2=>hK w2 (hd.trans (ScT.mk_struct hd.m (Chg.gg hg2) (S':={ S with c:={ S.c with Sets:=⟨c,S.c.Sets.e1⟩ } }) hb2 rfl rfl rfl rfl rfl rfl hok))
 ·have e:S.setSet 1 c={ S with c:={ S.c with Sets:=⟨S.c.Sets.e0,c⟩ } }:=by unfold Sc.setSet;rw [if_neg (by decide)]
  rw [e] at hK hok;refine ⟨⟨by decide,by decide⟩,?_⟩;simp only [qae];refine qah hd.m.blk (by simp [qab.rep]) fun w2 hb2 hg2 hs2=>hK w2 (hd.trans (ScT.mk_struct hd.m (Chg.gg hg2) (S':={ S with c:={ S.c with Sets:=⟨S.c.Sets.e0,c⟩ } }) hb2 rfl rfl rfl rfl rfl rfl hok))
theorem qg6 {a b:List UInt8} (h:(a==b)=true):a=b:=eq_of_beq h
theorem qfc {a b:List UInt8} (h:(a==b)=false):¬a=b:=beq_eq_false_iff_ne.1 h
theorem q9k (h:ScM w base g F S) {bs:List UInt8} {c:Int} (ha:S.areas.length<=800000000) {K:World->Prop} (hK:∀F' w',ScT base g w F F' (S.escape bs c) w'->K w'):qg9 (some ⟨g,0,none⟩) (strB bs) c w K:=by
 refine qsq _ _ _ ?_;unfold qld;have l40:(⟨#[40]⟩:ByteArray).toList=[40]:=by kernel_rfl
 have l41:(⟨#[41]⟩:ByteArray).toList=[41]:=by kernel_rfl
 have l35:(⟨#[35]⟩:ByteArray).toList=[35]:=by kernel_rfl
 have l0:(⟨#[]⟩:ByteArray).toList=[]:=by kernel_rfl
 rw [l40,l41,l35,l0,qp8];unfold Sc.escape at hK;simp only [onPtr_some];refine jpO fun J1 hJ1=>?_;have set1:∀v:UInt8,(v=40\/v=41)->bs=[v]->J1 (true,()) w:=by
  rintro v hv rfl;refine hJ1 _ _ (cT rfl ?_);have hin:[v]=[40]\/[v]=[41]:=by rcases hv with rfl | rfl;exact .inl rfl;exact .inr rfl
  rw [if_pos hin] at hK;refine or2' (fun e=>cT rfl ?_) fun e=>cF rfl ?_
  ·rw [if_pos e] at hK;refine zi1 (k:=0) rfl rfl ?_;rcases hv with rfl | rfl
   ·rw [if_pos rfl] at hK;rw [show IntKind.u8.wrap (((40:UInt8).toNat:Int)-40)=0 by decide];exact q46 h (.inl rfl) fun w' hT=>hK _ _ hT
   ·rw [if_neg (by decide)] at hK;rw [show IntKind.u8.wrap (((41:UInt8).toNat:Int)-40)=1 by decide];exact q46 h (.inr rfl) fun w' hT=>hK _ _ hT
  ·rw [if_neg e] at hK;exact hK _ _ (ScT.refl h)
 refine cO (fun e=>?_) fun e1=>?_
 ·rw [e];exact set1 40 (.inl rfl) (qg6 e)
 cases e2:(bs==[41])
 rotate_left
 ·exact set1 41 (.inr rfl) (qg6 e2)
 rw [if_neg (fun hh=>hh.elim (qfc e1) (qfc e2))] at hK;refine hJ1 _ _ (cF rfl ?_);refine cO (fun e=>?_) fun e=>?_
 ·rw [if_pos (qg6 e)] at hK;refine cO (fun e=>?_) fun e=>?_
  ·rw [if_pos (eq_of_beq e)] at hK;exact zd4 h fun w' hT=>hK _ _ hT
  ·rw [if_neg (beq_eq_false_iff_ne.1 e)] at hK;exact hK _ _ (ScT.refl h)
 rw [if_neg (qfc e)] at hK;refine cO (fun e=>?_) fun e=>?_
 ·rw [if_pos (qg6 e)] at hK;exact q9t h ha hK
 ·rw [if_neg (qfc e)] at hK;exact hK _ _ (ScT.refl h)
end
def flagP (n:Int):Int:=if n=1 then 1 else if n=2 then 2 else if n=3 then 4 else if n=4 then 8 else if n=5 then 16 else if n=7 then 32 else if n=8 then 64 else if n=9 then 128 else 0
def attrS (a:Attr) (n:Int):Attr :=
 if n=0 then ⟨0,0,0⟩
 else if 1<=n/\n<=9 then { a with Flags:=bitsR .or .i64 a.Flags (flagP n) }
 else if n=22 then { a with Flags:=bitsR .andNot .i64 (bitsR .andNot .i64 a.Flags 1) (flagP (w64 (n-20))) }
 else if 23<=n/\n<=29 then { a with Flags:=bitsR .andNot .i64 a.Flags (flagP (w64 (n-20))) }
 else if 40<=n/\n<=47 then { a with Bg:=w64 (w64 (16777216+w64 (n-10))-30) }
 else if 30<=n/\n<=37 then { a with Fg:=w64 (w64 (16777216+n)-30) }
 else if 100<=n/\n<=107 then { a with Bg:=w64 (w64 (16777224+w64 (n-10))-90) }
 else if 90<=n/\n<=97 then { a with Fg:=w64 (w64 (16777224+n)-90) }
 else if n=39 then { a with Fg:=0 }
 else if n=49 then { a with Bg:=0 }
 else a
def setC (bg:Bool) (a:Attr) (v:Int):Attr:=if bg then { a with Bg:=v } else { a with Fg:=v }
def byteP (v:Int):Bool:=decide (0<=v/\v<=255)
def farA (bg:Bool) (a:Attr) (l:List Int):Attr×List Int :=
 if 2<=l.length/\l.getD 0 0=5 then (if byteP (l.getD 1 0) then setC bg a (w64 (16777216+l.getD 1 0)) else a,l.drop 2)
 else if 4<=l.length/\l.getD 0 0=2 then (if (byteP (l.getD 1 0) && byteP (l.getD 2 0) && byteP (l.getD 3 0))=true then setC bg a (w64 (w64 (w64 (33554432+w64 (l.getD 1 0*2^16))+w64 (l.getD 2 0*2^8))+l.getD 3 0)) else a,l.drop 4)
 else (a,[])
def qiy:Nat->Attr->List Int->Attr
 | 0,a,_=>a
 | k+1,a,[]=>a
 | k+1,a,n::l=>if n=48 then qiy k (farA true a l).1 (farA true a l).2 else if n=38 then qiy k (farA false a l).1 (farA false a l).2 else qiy k (attrS a n) l
def q08 (a:Attr) (ps:List Int):Attr:=if ps=[] then ⟨0,0,0⟩ else qiy ps.length a ps
theorem q3o (bg:Bool) (a:Attr) (l:List Int):(farA bg a l).2.length<=l.length:=by
 unfold farA;split
 ·simp
 ·split<;>simp
theorem qqd:∀(k:Nat) (a:Attr) (l:List Int) (m:Nat),l.length<=k->l.length<=m->qiy k a l=qiy m a l
 | 0,a,l,m,h1,h2=>by
  have:l=[]:=List.eq_nil_of_length_eq_zero (by omega);subst this;cases m<;>rfl
 | k+1,a,[],m,h1,h2=>by cases m<;>rfl
 | k+1,a,n::l,0,h1,h2=>by simp at h2
 | k+1,a,n::l,m+1,h1,h2=>by
  simp only [length_cons] at h1 h2;have f1:=q3o true a l;have f2:=q3o false a l;simp only [qiy];rw [qqd k (farA true a l).1 _ m (by omega) (by omega),qqd k (farA false a l).1 _ m (by omega) (by omega),qqd k (attrS a n) l m (by omega) (by omega)]
section
variable {w w':World}
theorem q6w {n:Int} {K:Int->World->Prop} (hK:K (flagP n) w):qqc n w K:=by
 refine q5k _ ?_;unfold q0u;unfold flagP at hK;refine cO (fun e=>?_) fun e=>?_
 ·rw [if_pos (eq_of_beq e)] at hK;exact hK
 rw [if_neg (beq_eq_false_iff_ne.1 e)] at hK;refine cO (fun e=>?_) fun e=>?_
 ·rw [if_pos (eq_of_beq e)] at hK;exact hK
 rw [if_neg (beq_eq_false_iff_ne.1 e)] at hK;refine cO (fun e=>?_) fun e=>?_
 ·rw [if_pos (eq_of_beq e)] at hK;exact hK
 rw [if_neg (beq_eq_false_iff_ne.1 e)] at hK;refine cO (fun e=>?_) fun e=>?_
 ·rw [if_pos (eq_of_beq e)] at hK;exact hK
 rw [if_neg (beq_eq_false_iff_ne.1 e)] at hK;refine cO (fun e=>?_) fun e=>?_
 ·rw [if_pos (eq_of_beq e)] at hK;exact hK
 rw [if_neg (beq_eq_false_iff_ne.1 e)] at hK;refine cO (fun e=>?_) fun e=>?_
 ·rw [if_pos (eq_of_beq e)] at hK;exact hK
 rw [if_neg (beq_eq_false_iff_ne.1 e)] at hK;refine cO (fun e=>?_) fun e=>?_
 ·rw [if_pos (eq_of_beq e)] at hK;exact hK
 rw [if_neg (beq_eq_false_iff_ne.1 e)] at hK;refine cO (fun e=>?_) fun e=>?_
 ·rw [if_pos (eq_of_beq e)] at hK;exact hK
 ·rw [if_neg (beq_eq_false_iff_ne.1 e)] at hK;exact hK
theorem qvf {v:Int} {K:Bool->World->Prop} (hK:K (byteP v) w):qhj v w K:=by
 refine q4w _ ?_;unfold qzl;unfold byteP at hK;refine cO (fun e=>?_) fun e=>?_
 ·have e:0<=v:=oTq e;rw [show decide (0<=v/\v<=255)=decide (v<=255) by simp [e]] at hK;exact hK
 ·have e:¬0<=v:=oFq e;rw [show decide (0<=v/\v<=255)=false by simp;omega] at hK;exact hK
def ofs (bg:Bool):Nat:=if bg then 1 else 0
theorem qhs {p:Slc} {l:List Int} (h:Rd E_int w p l) {i:Nat} (hi:i<l.length) {K:Int->Prop} (hK:K (l.getD i 0)):ixK p (i:Int) 1 fun t=>ldI .i64 t w K:=by
 refine h.ix rfl (by omega) (by omega) fun hc=>?_;have e:l.getD i 0=l[i]:=by rw [List.getD_eq_getElem?_getD,List.getElem?_eq_getElem hi];rfl
 rw [e] at hK;exact lI (x:=l[i]) (by simpa using hc 0 _ rfl) hK
theorem qw4 {p:Slc} {l:List Int} (h:Rd E_int w p l) {k:Nat} (hk:k<=l.length) {K:Slc->Prop} (hK:∀q,Rd E_int w q (l.drop k)->(q.a=none\/∃a b,q.a=some a/\p.a=some b/\a.block=b.block)->K q):slK p (some (k:Int)) none 1 K:=by
 refine h.slK rfl (l:=k) (m:=l.length) (.inr rfl) (.inl ⟨rfl,rfl⟩) hk (le_refl _) fun hr=>?_;rw [take_length] at hr;refine hK _ hr ?_;cases hp:p.a with
 | none=>exact .inl (by simp [cut])
 | some b =>
  by_cases hc:p.c=k
  ·exact .inr ⟨b,b,by simp only [cut];rw [if_pos hc],rfl,rfl⟩
  ·exact .inr ⟨b.add (k*E_int.k),b,by simp only [cut];rw [if_neg hc];rfl,rfl,by simp⟩
theorem qx5 {b:Nat} {a:Attr} {bg:Bool} {v:Int} (h:Blk w b qa4 (qac.rep.cells a)) {K:World->Prop} (hK:∀w',Blk w' b qa4 (qac.rep.cells (setC bg a v))->Chg (fun k=>k=b) w w'->K w'):stK ⟨b,ofs bg,none⟩ [.int .i64 v] w K:=by
 cases bg
 ·exact qah (o:=0) h (by simp [qac.rep]) fun w' hb hg hs=>hK w' hb (Chg.gg hg)
 ·exact qah (o:=1) h (by simp [qac.rep]) fun w' hb hg hs=>hK w' hb (Chg.gg hg)
theorem zgs {p:Slc} {l:List Int} {b:Nat} {a:Attr} {bg:Bool} (h:Rd E_int w p l) (hb:Blk w b qa4 (qac.rep.cells a)) (hne:∀c,p.a=some c->l≠[]->c.block≠b) {K:Slc->World->Prop}
  (hK:∀q w',Rd E_int w' q (farA bg a l).2->(q.a=none\/∃x y,q.a=some x/\p.a=some y/\x.block=y.block)->Blk w' b qa4 (qac.rep.cells (farA bg a l).1)->Chg (fun k=>k=b) w w'->K q w'):qsv (some ⟨b,ofs bg,none⟩) p w K:=by
 refine q64 _ _ ?_;unfold q2j;have hn:=h.n;unfold farA at hK;have keep:∀{w'},l≠[]->Chg (fun k=>k=b) w w'->Rd E_int w' p l:=fun hl hc=>h.chg hc fun c hc' e=>hne c hc' hl e;refine jpO fun J1 hJ1=>?_;have two:¬(2<=l.length/\l.getD 0 0=5)->∀v:Bool,v=false->J1 (v,()) w:=by
  rintro hno v rfl;rw [if_neg hno] at hK;refine hJ1 _ _ (cF rfl ?_);refine jpO fun J2 hJ2=>?_;have none_:¬(4<=l.length/\l.getD 0 0=2)->∀v:Bool,v=false->J2 (v,()) w:=by
   rintro hno v rfl;rw [if_neg hno] at hK;exact hJ2 _ _ (cF rfl (hK _ w (Rd.nil _ _) (.inl rfl) hb (Chg.refl _ _)))
  refine cO (fun e=>?_) fun e=>?_
  ·have e:=oTq e;have hl4:4<=l.length:=by omega
   refine qhs h (i:=0) (by omega) ?_;by_cases e2:l.getD 0 0=2
   ·rw [beq_iff_eq.2 e2];rw [if_pos ⟨hl4,e2⟩] at hK;have hl0:l≠[]:=fun e=>by rw [e] at hl4;simp at hl4
    refine hJ2 _ _ (cT rfl (jpO fun J3 hJ3=>?_));have key:∀v,v=(byteP (l.getD 1 0) && byteP (l.getD 2 0) && byteP (l.getD 3 0))->J3 (v,()) w:=by
     intro v hv;rw [<-hv] at hK;refine hJ3 _ _ ?_;cases v
     ·rw [if_neg (by decide)] at hK;exact cF rfl (qw4 h hl4 fun q hq hqa=>hK q w hq hqa hb (Chg.refl _ _))
     ·rw [if_pos rfl] at hK;refine cT rfl ?_;refine qhs h.drew (i:=1) (by omega) ⟨by decide,?_⟩;refine qhs h.drew (i:=2) (by omega) ⟨by decide,?_⟩;refine qhs h.drew (i:=3) (by omega) ?_;rw [onPtr_some];refine qx5 (bg:=bg) hb.drew fun w2 hb2 hc2=>?_;have c2:Chg (fun k=>k=b) w w2:=(Chg.of_ext (qav w)).trans hc2 fun i _ hi=>hi;exact qw4 (keep hl0 c2) hl4 fun q hq hqa=>hK q w2 hq hqa hb2 c2
    refine qhs h (i:=1) (by omega) (qvf ?_);cases v1:byteP (l.getD 1 0)
    ·exact cF rfl (key _ (by rw [v1];rfl))
    refine cT rfl (qhs h (i:=2) (by omega) (qvf ?_));cases v2:byteP (l.getD 2 0)
    ·exact cF rfl (key _ (by rw [v1,v2];rfl))
    refine cT rfl (qhs h (i:=3) (by omega) (qvf ?_));exact key _ (by rw [v1,v2];rfl)
   ·exact none_ (fun hh=>e2 hh.2) _ (beq_eq_false_iff_ne.2 e2)
  ·have e:=oFq e;exact none_ (fun hh=>by omega) _ rfl
 refine cO (fun e=>?_) fun e=>?_
 ·have e:=oTq e;have hl2:2<=l.length:=by omega
  refine qhs h (i:=0) (by omega) ?_;by_cases e2:l.getD 0 0=5
  ·rw [beq_iff_eq.2 e2];rw [if_pos ⟨hl2,e2⟩] at hK;have hl0:l≠[]:=fun e=>by rw [e] at hl2;simp at hl2
   refine hJ1 _ _ (cT rfl ?_);refine qhs h (i:=1) (by omega) (qvf ?_);cases v1:byteP (l.getD 1 0)
   ·rw [if_neg (by rw [v1];decide)] at hK;exact cF rfl (qw4 h hl2 fun q hq hqa=>hK q w hq hqa hb (Chg.refl _ _))
   ·rw [if_pos v1] at hK;refine cT rfl (qhs h (i:=1) (by omega) ?_);rw [onPtr_some];refine qx5 (bg:=bg) hb fun w2 hb2 hc2=>?_;exact qw4 (keep hl0 hc2) hl2 fun q hq hqa=>hK q w2 hq hqa hb2 hc2
  ·exact two (fun hh=>e2 hh.2) _ (beq_eq_false_iff_ne.2 e2)
 ·have e:=oFq e;exact two (fun hh=>by omega) _ rfl
theorem rng2 {a b n:Int} {X Y:Prop} (h1:a<=n/\n<=b->X) (h2:¬(a<=n/\n<=b)->Y):cond (decide (n>=a)) (cond (decide (n<=b)) X Y) Y:=by
 refine cO (fun e=>?_) fun e=>?_
 ·have e:a<=n:=oTq e;refine cO (fun e2=>?_) fun e2=>?_
  ·exact h1 ⟨e,oTq e2⟩
  ·exact h2 fun hh=>oFq e2 hh.2
 ·exact h2 fun hh=>oFq e hh.1
theorem zb3 {p:Slc} {ps:List Int} {a:Attr} (h:Rd E_int w p ps) {K:Attr->World->Prop} (hK:∀w',Below w.heap.size w w'->K (q08 a ps) w'):qub a p w K:=by
 refine q4s _ _ ?_;unfold qy9;refine nwb fun w1 hA1 hB1 hs1=>nwb fun w2 hT2 hB2 hs2=>?_;have hA2:=hA1.ext hB2;have B2:=qaz hB1 hB2;have hn:=h.n;unfold q08 at hK;refine cO (fun e=>?_) fun e=>?_
 ·have e:(p.n:Int)=0:=eq_of_beq e;have e0:ps=[]:=List.eq_nil_of_length_eq_zero (by omega);rw [if_pos e0] at hK;exact qy3 (r:=qac.rep) (x:=⟨0,0,0⟩) hT2 rfl rfl fun w3 hc3 hs3=>hK w3 (qbj B2 hc3 (by omega))
 have e:¬(p.n:Int)=0:=beq_eq_false_iff_ne.1 e;have e0:ps≠[]:=fun e1=>e (by rw [hn,e1];rfl);rw [if_neg e0] at hK;have hlt:∀c,p.a=some c->ps≠[]->c.block<w.heap.size:=by
  intro c hc _;have:=h.lt (i:=0) (List.length_pos_iff.2 e0);simp only [Slc.at_,hc] at this;exact this
 refine lpR (fun (st:Slc×Unit) w4=>∃(a':Attr) (l:List Int),Rd E_int w4 st.1 l/\qiy l.length a' l=qiy ps.length a ps/\Blk w4 w.heap.size qa4 (qac.rep.cells a')/\Blk w4 w1.heap.size qa4 (qac.rep.cells ⟨0,0,0⟩)/\Below w.heap.size w w4/\(∀c,st.1.a=some c->l≠[]->c.block<w.heap.size)) (fun st=>st.1.n) ⟨a,ps,h.ext B2,rfl,hA2,hT2,B2,hlt⟩ ?_;rintro ⟨s,u⟩ w4 ⟨a',l,hr,hap,hA,hT,hB,hsl⟩ I hI;dsimp only at hI hr hsl ⊢;have hsn:=hr.n;cases l with
 | nil =>
  refine cF (by rw [hsn];rfl) ?_;refine qaq (r:=qac.rep) (x:=a') hA.cells ?_;refine qy3 (r:=qac.rep) (x:=a') hT rfl rfl fun w5 hc5 hs5=>?_;have:=hK w5 (qbj hB hc5 (by omega));rw [<-hap] at this;exact this
 | cons n l =>
  refine cT (by rw [hsn];simp) ?_;refine qhs hr (i:=0) (by simp) ?_;have en:(n::l).getD 0 0=n:=rfl;rw [en];refine qw4 hr (k:=1) (by simp) fun q hq hqa=>?_;have el:(n::l).drop 1=l:=rfl;rw [el] at hq;have hql:∀c,q.a=some c->c.block<w.heap.size:=by
   intro c hc;rcases hqa with h1 | ⟨x,y,h1,h2,h3⟩
   ·rw [h1] at hc;cases hc
   ·rw [h1] at hc;cases hc;rw [h3];exact hsl y h2 (by simp)
  have hqn:=hq.n;simp only [length_cons,qiy] at hap hsn;have next:∀(a'':Attr) (w5:World),(n≠48->n≠38->a''=attrS a' n)->n≠48->n≠38->Blk w5 w.heap.size qa4 (qac.rep.cells a'')->Chg (fun k=>k=w.heap.size) w4 w5->I (q,()) w5:=by
   intro a'' w5 ha h48 h38 hA5 hc5;have ha:=ha h48 h38;subst ha;rw [if_neg h48,if_neg h38] at hap;refine hI _ _ ⟨_,l,hq.chg hc5 fun c hc e=>by have:=hql c hc;omega,hap,hA5,hT.chg hc5 (by omega),qbj hB hc5 (le_refl _),fun c hc _=>hql c hc⟩ (by dsimp only;omega)
  have farn:∀(bg:Bool),(if bg then n=48 else n=38)->qsv (some ⟨w.heap.size,ofs bg,none⟩) q w4 fun t121 w6=>I (t121,()) w6:=by
   intro bg hbg;refine zgs (bg:=bg) hq hA (fun c hc _ e=>by have:=hql c hc;omega) fun q2 w5 hq2 hqa2 hA5 hc5=>?_;have hap2:qiy l.length (farA bg a' l).1 (farA bg a' l).2=qiy ps.length a ps:=by
    cases bg
    ·have hbg:n=38:=hbg;rw [if_neg (by omega),if_pos hbg] at hap;exact hap
    ·have hbg:n=48:=hbg;rw [if_pos hbg] at hap;exact hap
   have hfl:=q3o bg a' l;rw [qqd l.length _ _ (farA bg a' l).2.length hfl (le_refl _)] at hap2;have hq2n:=hq2.n;refine hI _ _ ⟨_,_,hq2,hap2,hA5,hT.chg hc5 (by omega),qbj hB hc5 (le_refl _),fun c hc _=>?_⟩ (by dsimp only;omega);rcases hqa2 with h1 | ⟨x,y,h1,h2,h3⟩
   ·rw [h1] at hc;cases hc
   ·rw [h1] at hc;cases hc;rw [h3];exact hql y h2
  clear hI hap;simp only [qae];refine jpO fun J2 hJ2=>jpO fun J3 hJ3=>jpO fun J4 hJ4=>jpO fun J5 hJ5=>?_;refine cO (fun e=>?_) fun n0=>?_
  ·have e:n=0:=eq_of_beq e;refine qfo hA rfl fun w5 hA5 hc5 hs5=>next ⟨0,0,0⟩ w5 (fun _ _=>?_) (by omega) (by omega) hA5 hc5;unfold attrS;rw [if_pos e]
  have n0:¬n=0:=beq_eq_false_iff_ne.1 n0;refine jpO fun J6 hJ6=>?_;refine rng2 (fun e=>?_) fun n1=>hJ6 _ _ ?_
  ·have hd:=hA.drew;refine lI (x:=a'.Flags) (hd.cell 2 rfl) (q6w ⟨hd.cell 2 rfl,?_⟩);refine qah (o:=2) hd (by simp [qac.rep]) fun w5 hb5 hg5 hs5=>next { a' with Flags:=bitsR .or .i64 a'.Flags (flagP n) } w5 (fun _ _=>?_) (by omega) (by omega) hb5 ((Chg.of_ext (qav w4)).trans (Chg.gg hg5) fun i _ hi=>hi);unfold attrS;rw [if_neg n0,if_pos e]
  have five:∀(f:Int) w5,Blk w5 w.heap.size qa4 (qac.rep.cells { a' with Flags:=f })->Chg (fun k=>k=w.heap.size) w4 w5->(attrS a' n={ a' with Flags:=bitsR .andNot .i64 f (flagP (w64 (n-20))) })->n≠48->n≠38->J5 () w5:=by
   intro f w5 hb5 hc5 hat h48 h38;refine hJ5 _ _ ?_;have hd:=hb5.drew;refine lI (x:=f) (hd.cell 2 rfl) (q6w ⟨hd.cell 2 rfl,?_⟩);refine qah (o:=2) hd (by simp [qac.rep]) fun w6 hb6 hg6 hs6=>next { a' with Flags:=bitsR .andNot .i64 f (flagP (w64 (n-20))) } w6 (fun _ _=>hat.symm) h48 h38 hb6 ((hc5.trans (Chg.of_ext (qav w5)) fun i _ hi=>hi).trans (Chg.gg hg6) fun i _ hi=>hi)
  refine cO (fun e=>?_) fun n22=>?_
  ·have e:n=22:=eq_of_beq e;refine lI (x:=a'.Flags) (hA.cell 2 rfl) ?_;refine qah (o:=2) hA (by simp [qac.rep]) fun w5 hb5 hg5 hs5=>five (bitsR .andNot .i64 a'.Flags 1) w5 hb5 (Chg.gg hg5) ?_ (by omega) (by omega);unfold attrS;rw [if_neg n0,if_neg n1,if_pos e]
  have n22:¬n=22:=beq_eq_false_iff_ne.1 n22;have col:∀(bg:Bool) (v:Int),attrS a' n=setC bg a' v->n≠48->n≠38->stK ⟨w.heap.size,ofs bg,none⟩ [.int .i64 v] w4 fun w5=>I (q,()) w5:=by
   intro bg v hat h48 h38;exact qx5 (bg:=bg) hA fun w5 hb5 hc5=>next _ w5 (fun _ _=>hat.symm) h48 h38 hb5 hc5
  refine jpO fun J7 hJ7=>?_;refine rng2 (fun e=>?_) fun n23=>hJ7 _ _ ?_
  ·refine five a'.Flags w4 hA (Chg.refl _ _) ?_ (by omega) (by omega);unfold attrS;rw [if_neg n0,if_neg n1,if_neg n22,if_pos e]
  refine jpO fun J8 hJ8=>?_;refine rng2 (fun e=>?_) fun n40=>hJ8 _ _ ?_
  ·refine hJ4 _ _ (col true (w64 (w64 (16777216+w64 (n-10))-30)) ?_ (by omega) (by omega));unfold attrS;rw [if_neg n0,if_neg n1,if_neg n22,if_neg n23,if_pos e];rfl
  refine jpO fun J9 hJ9=>?_;refine rng2 (fun e=>?_) fun n30=>hJ9 _ _ ?_
  ·refine hJ4 _ _ (col false (w64 (w64 (16777216+n)-30)) ?_ (by omega) (by omega));unfold attrS;rw [if_neg n0,if_neg n1,if_neg n22,if_neg n23,if_neg n40,if_pos e];rfl
  refine jpO fun J10 hJ10=>?_;refine rng2 (fun e=>?_) fun n100=>hJ10 _ _ ?_
  ·refine hJ3 _ _ (col true (w64 (w64 (16777224+w64 (n-10))-90)) ?_ (by omega) (by omega));unfold attrS;rw [if_neg n0,if_neg n1,if_neg n22,if_neg n23,if_neg n40,if_neg n30,if_pos e];rfl
  refine jpO fun J11 hJ11=>?_;refine rng2 (fun e=>?_) fun n90=>hJ11 _ _ ?_
  ·refine hJ3 _ _ (col false (w64 (w64 (16777224+n)-90)) ?_ (by omega) (by omega));unfold attrS;rw [if_neg n0,if_neg n1,if_neg n22,if_neg n23,if_neg n40,if_neg n30,if_neg n100,if_pos e];rfl
  refine cO (fun e=>?_) fun n39=>?_
  ·have e:n=39:=eq_of_beq e;refine col false 0 ?_ (by omega) (by omega);unfold attrS;rw [if_neg n0,if_neg n1,if_neg n22,if_neg n23,if_neg n40,if_neg n30,if_neg n100,if_neg n90,if_pos e];rfl
  have n39:¬n=39:=beq_eq_false_iff_ne.1 n39;refine cO (fun e=>?_) fun n49=>?_
  ·have e:n=49:=eq_of_beq e;refine col true 0 ?_ (by omega) (by omega);unfold attrS;rw [if_neg n0,if_neg n1,if_neg n22,if_neg n23,if_neg n40,if_neg n30,if_neg n100,if_neg n90,if_neg n39,if_pos e];rfl
  have n49:¬n=49:=beq_eq_false_iff_ne.1 n49;refine cO (fun e=>?_) fun n48=>?_
  ·exact hJ2 _ _ (farn true (eq_of_beq e))
  refine cO (fun e=>?_) fun n38=>?_
  ·exact hJ2 _ _ (farn false (eq_of_beq e))
  refine next a' w4 (fun _ _=>?_) (beq_eq_false_iff_ne.1 n48) (beq_eq_false_iff_ne.1 n38) hA (Chg.refl _ _);unfold attrS;rw [if_neg n0,if_neg n1,if_neg n22,if_neg n23,if_neg n40,if_neg n30,if_neg n100,if_neg n90,if_neg n39,if_neg n49]
end
namespace Sc
def modeP (S:Sc) (n:Int) (priv:Bool):Bool×Bool :=
 if priv=false then (S.mode n,decide (n=4\/n=20))
 else if n=6 then (S.c.Origin,true)
 else if n=47\/n=1047\/n=1049 then (S.alt,true)
 else if n=1\/n=7\/n=25\/n=1000\/n=2004 then (S.pmode n,true)
 else (false,false)
def stateP (S:Sc) (n:Int):Int:=if (S.modeP n true).1 then 1 else if (S.modeP n true).2 then 2 else 0
def placeRow (S:Sc):Int:=if S.c.Origin then (if 0>w64 (S.c.Row-S.top) then 0 else w64 (S.c.Row-S.top)) else S.c.Row
def placeP (S:Sc):List UInt8:=itoa (w64 (S.placeRow+1))++[59]++itoa (w64 (S.c.Col+1))
def bareR (S:Sc) (p:List Int) (c:Int):List UInt8 :=
 let zero:=qdl p 0 0
 if c=110 then (if zero=5 then [27,91]++[48,110] else if zero=6 then [27,91]++(S.placeP++[82]) else [])
 else if c=99 then (if zero=0 then [27,91]++[63,54,50,59,52,99] else [])
 else []
end Sc
def q43 (p:Int) (inter:List UInt8) (b:Int):List UInt8:=((Utf8.encode p).data.toList++inter)++(Utf8.encode b).data.toList
structure Ev where
 Kind:Int
 R:Int
 B:Int
 Private:Int
 Inter:List UInt8
 Params:List Int
namespace Sc
def tailR (S:Sc) (e:Ev):List UInt8:=if e.Private≠0\/e.Inter≠[] then [] else S.bareR e.Params e.B
def tailS (S:Sc) (e:Ev):Sc:=if e.Private≠0\/e.Inter≠[] then S else S.bare (q08 S.c.A e.Params) e.Params e.B
def seqR (S:Sc) (e:Ev):List UInt8 :=
 let k:=q43 e.Private e.Inter e.B
 let n:=qdl e.Params 0 0
 if k=[0,33,112] then S.soft.tailR e
 else if k=[63,104]\/k=[63,108] then (S.turns (e.B==104) e.Params).tailR e
 else if k=[63,110]/\n=6 then [27,91]++(([63]++S.placeP)++[82])
 else if k=[62,99]/\n=0 then [27,91]++[62,49,59,49,59,48,99]
 else if k=[63,36,112] then [27,91]++(((([63]++itoa n)++[59])++itoa (S.stateP n))++[36,121])
 else S.tailR e
def seqS (S:Sc) (e:Ev):Sc :=
 let k:=q43 e.Private e.Inter e.B
 let n:=qdl e.Params 0 0
 if k=[0,33,112] then S.soft.tailS e
 else if k=[63,104]\/k=[63,108] then (S.turns (e.B==104) e.Params).tailS e
 else if k=[63,110]/\n=6 then S
 else if k=[62,99]/\n=0 then S
 else if k=[63,36,112] then S
 else S.tailS e
def doR (S:Sc) (e:Ev):List UInt8:=if e.Kind=1\/e.Kind=2\/e.Kind=3 then [] else if e.Kind=4 then S.seqR e else []
def doS (S:Sc) (e:Ev):Sc :=
 if e.Kind=1 then S.print e.R
 else if e.Kind=2 then S.control e.B
 else if e.Kind=3 then S.escape e.Inter e.B
 else if e.Kind=4 then S.seqS e
 else S
end Sc
section
variable {w w':World} {base g:Nat} {F F':ScF} {S S':Sc} {p:Slc} {ps:List Int}
theorem Tab.below (h:Tab w) (hB:Below 4 w w'):Tab w':=var?_below (g:=3) hB (by kernel_rfl) (by decide) h
theorem Tab.step (h:Tab w) (hM:ScM w base g F S) (hb:4<=base) (hT:ScT base g w F F' S' w'):Tab w':=by
 refine h.below (hT.chg.below (B:=4) ?_ fun i hi hs=>?_)
 ·have:=hM.base_le;omega
 ·have:=(hM.below i hs).1;omega
theorem q6o (h:ScM w base g F S) {n:Int} {priv:Bool} {K:Bool->Bool->World->Prop} (hK:K (S.modeP n priv).1 (S.modeP n priv).2 w):qe8 (some ⟨g,0,none⟩) n priv w K:=by
 refine qut _ _ _ ?_;unfold qm2;simp only [onPtr_some];unfold Sc.modeP at hK;cases priv
 ·rw [if_pos rfl] at hK;refine cT rfl (qef (x:=some F.mm) (by rw [qae];exact h.blk.cell 35 rfl) (qq9 h.mo ?_));refine cO (fun e=>?_) fun e=>?_
  ·have e:n=4:=eq_of_beq e;rw [dTq (.inl e)] at hK;exact hK
  ·have e:¬n=4:=beq_eq_false_iff_ne.1 e;have e2:(n==20)=decide (n=4\/n=20):=by
    by_cases e3:n=20
    ·rw [dTq (.inr e3)];exact beq_iff_eq.2 e3
    ·rw [dFq (fun hh=>hh.elim e e3)];exact beq_eq_false_iff_ne.2 e3
   rw [e2];exact hK
 ·rw [if_neg (by decide)] at hK;refine cF rfl ?_;refine cO (fun e=>?_) fun e=>?_
  ·rw [if_pos (eq_of_beq e)] at hK;exact h.ldOrg hK
  rw [if_neg (beq_eq_false_iff_ne.1 e)] at hK;refine or3 (fun e=>cT rfl ?_) fun e=>cF rfl ?_
  ·rw [if_pos e] at hK;exact q3i h hK
  rw [if_neg e] at hK;refine or5 (fun e=>cT rfl ?_) fun e=>cF rfl ?_
  ·rw [if_pos e] at hK;exact qef (x:=some F.mp) (by rw [qae];exact h.blk.cell 36 rfl) (qq9 h.pr hK)
  ·rw [if_neg e] at hK;exact hK
theorem zb1 (h:ScM w base g F S) {n:Int} {K:Int->World->Prop} (hK:K (S.stateP n) w):qhg (some ⟨g,0,none⟩) n w K:=by
 refine qtr _ _ ?_;unfold ql4;unfold Sc.stateP at hK;refine q6o h ?_;refine cO (fun e=>?_) fun e=>?_
 ·rw [if_pos e] at hK;exact hK
 rw [if_neg (by rw [e];decide)] at hK;refine cO (fun e=>?_) fun e=>?_
 ·rw [if_pos e] at hK;exact hK
 ·rw [if_neg (by rw [e];decide)] at hK;exact hK
theorem q01 (h:ScM w base g F S) (hT:Tab w) {K:ByteArray->World->Prop} (hK:∀w',Below w.heap.size w w'->S.placeP.length<=50->K (strB S.placeP) w'):qep (some ⟨g,0,none⟩) w K:=by
 refine qs9 _ ?_;unfold qlr;simp only [onPtr_some];refine h.ldRow (jpO fun J1 hJ1=>?_);have key:J1 (S.placeRow,()) w:=by
  refine hJ1 _ _ ?_;have hd:=(ScT.refl h).drew;refine hd.m.ldCol ?_;refine qvr (hT.ext (qav w)) (ScM.w64n _).1 (ScM.w64n _).2 fun w2 hB2=>?_;have h2:=hd.ext hB2;have B2:=qaz (qav w) hB2;have l1:=qy6 (ScM.w64n (S.placeRow+1)).1 (ScM.w64n (S.placeRow+1)).2;have l2:=qy6 (ScM.w64n (S.c.Col+1)).1 (ScM.w64n (S.c.Col+1)).2;have e59:(⟨#[59]⟩:ByteArray)=strB [59]:=rfl;show _/\(((strB (itoa (w64 (S.placeRow+1)))).size+_:Nat):Int)<=_/\_;refine ⟨h2.m.cCol,?_,?_⟩
  ·rw [e59,qbi,qbi];simp only [length_cons,length_nil];omega
  refine qvr ((hT.ext (qav w)).ext hB2) (ScM.w64n _).1 (ScM.w64n _).2 fun w3 hB3=>?_;rw [e59,qd2];have B3:=qaz B2 hB3;show (((strB (itoa (w64 (S.placeRow+1))++[59])).size+(strB (itoa (w64 (S.c.Col+1)))).size:Nat):Int)<=_/\K (strB (itoa (w64 (S.placeRow+1))++[59])++strB (itoa (w64 (S.c.Col+1)))) w3;rw [qd2];refine ⟨?_,hK w3 B3 ?_⟩
  ·rw [qbi,qbi,length_append];simp only [length_cons,length_nil];omega
  ·unfold Sc.placeP;rw [length_append,length_append];simp only [length_cons,length_nil];omega
 unfold Sc.placeRow at key;refine h.ldOrg (cO (fun e=>?_) fun e=>?_)
 ·rw [if_pos e] at key;exact h.ldTop key
 ·rw [if_neg (by rw [e];decide)] at key;exact key
theorem qk0 {bs:List UInt8} (hl:bs.length<=1000) {K:Slc->World->Prop} (hK:∀q w',Rd qal w' q ([27,91]++bs)->Below w.heap.size w w'->K q w'):qdh (strB bs) w K:=by
 refine q1z _ ?_;unfold qvt;have e:(⟨#[27,91]⟩:ByteArray)=strB [27,91]:=rfl;rw [e,qd2,qbi,qbi];refine ⟨by simp only [length_cons,length_nil];omega,?_⟩;exact q8e (by simp only [length_append,length_cons,length_nil];omega) fun q w' hq _ hB _=>hK q w' hq hB
theorem zao (S:Sc) (b:Bool) (l:List Int) (n:Int):S.modes1 b (l++[n])=(if n=4\/n=20 then { S.modes1 b l with modes:=putL' (S.modes1 b l).modes n b } else S.modes1 b l):=by
 unfold Sc.modes1;rw [List.foldl_append];rfl
theorem q40 (h:ScM w base g F S) (hp:ParM w g F p ps) {on:Bool} {K:Slc->World->Prop} (hK:∀F' w',ScT base g w F F' (S.modes1 on ps) w'->K ⟨none,0,0⟩ w') :
  loopP (σ:=Int×Unit) (fun I5 s_5 w31 =>
   cond (decide (s_5.1<((p.n:Nat):Int)))
    (
     ixK p s_5.1 1 fun t85 =>
     ldI .i64 t85 w31 fun t86 =>
     joinP (σ:=Bool×Unit) (fun s_6 w32 =>
      cond s_6.1
       (
       ldM ((⟨g,0,none⟩:Addr).add 35) w32 fun t96 =>
       runU PG (Instr.mapUpdate qas (.map t96) (.int .i64 t86) (.bool on)) w32 fun _ w33 =>
       I5 ((i64.wrap (s_5.1+(1:Int))),()) w33)
       (I5 ((i64.wrap (s_5.1+(1:Int))),()) w32)) fun J6 =>
     cond (t86==(4:Int))
      (J6 (true,()) w31)
      (J6 ((t86==(20:Int)),()) w31))
    (K (⟨none,0,0⟩:Slc) w31)) (0,()) w:=by
 have hn:=hp.rd.n;have hlen:=hp.len;refine lpR (fun (st:Int×Unit) w2=>∃(k:Nat) (F2:ScF),st.1=(k:Int)/\k<=ps.length/\ScT base g w F F2 (S.modes1 on (ps.take k)) w2) (fun st=>ps.length-st.1.toNat) ⟨0,F,rfl,by omega,by rw [List.take_zero];exact ScT.refl h⟩ ?_;rintro ⟨i,u⟩ w2 ⟨k,F2,hi,hk,hT2⟩ I hI;dsimp only at hi ⊢;subst hi;refine cO (fun e=>?_) fun e=>?_
 ·have e:=oTq e;have hkl:k<ps.length:=by omega
  have hp2:=hp.step hT2;refine qhs hp2.rd (i:=k) hkl ?_;obtain ⟨x,hx⟩:∃x,x=ps.getD k 0:=⟨_,rfl⟩;rw [<-hx];have hxk:ps[k]=x:=by rw [hx,List.getD_eq_getElem?_getD,List.getElem?_eq_getElem hkl];rfl
  have hsn:=zao S on (ps.take k) x;rw [<-hxk,<-List.take_succ_eq_append_getElem hkl,hxk] at hsn;have hxr:in64 x:=by rw [<-hxk];exact hp.rng _ (List.getElem_mem hkl)
  rw [w64i (x:=(k:Int)+1) (by omega)];refine or2' (fun e=>cT rfl ?_) fun e=>cF rfl ?_
  ·rw [if_pos e] at hsn;refine qef (x:=some F2.mm) (by rw [qae];exact hT2.m.blk.cell 35 rfl) (hT2.m.setMo hxr fun w3 hT3=>?_);refine hI _ _ ⟨k+1,F2,by simp,by omega,?_⟩ (by dsimp only;omega);rw [hsn];exact hT2.trans hT3
  ·rw [if_neg e] at hsn;refine hI _ _ ⟨k+1,F2,by simp,by omega,?_⟩ (by dsimp only;omega);rw [hsn];exact hT2
 ·have e:=oFq e;have hkr:k=ps.length:=by omega
  subst hkr;rw [take_length] at hT2;exact hK _ _ hT2
theorem ScOk.setA (h:ScOk S) (a:Attr):ScOk { S with c:={ S.c with A:=a } }:=h.cur h.rowg h.colg h.shift
theorem q6x (h:ScM w base g F S) {n:Int} (hn:in64 n) {K:Slc->World->Prop} (hK:∀F' w',ScT base g w F F' (S.scroll S.top S.past n).dry w'->K ⟨none,0,0⟩ w') :
  ldI .i64 ((⟨g,0,none⟩:Addr).add 37) w.drew fun t145=>ldI .i64 ((⟨g,0,none⟩:Addr).add 38) w.drew fun t149 =>
  qa3 (some ⟨g,0,none⟩) w.drew fun t141 w4 =>
  World.cell? w4 ((⟨g,0,none⟩:Addr).add 38)=some (.int .i64 t149) /\
  World.cell? w4 ((⟨g,0,none⟩:Addr).add 37)=some (.int .i64 t145) /\
  qbl (some ⟨g,0,none⟩) w4 fun t153 w5 =>
  World.cell? w5 ((⟨g,0,none⟩:Addr).add 38)=some (.int .i64 t149) /\
  World.cell? w5 ((⟨g,0,none⟩:Addr).add 37)=some (.int .i64 t145) /\
  qbw t141 t145 t149 n t153 w5 fun t154 w6 =>
  stK (((⟨g,0,none⟩:Addr).add 3).add 2) [(.bool false)] w6 fun w7 =>
  K (⟨none,0,0⟩:Slc) w7:=by
 have hd:=(ScT.refl h).drew;refine hd.m.ldTop (hd.m.ldPast ?_);refine q5o hd.m rfl rfl hn fun v F6 w6 hT6=>?_;exact hT6.m.stDry fun w7 hT7=>hK _ _ ((hd.trans hT6).trans hT7)
theorem zeh (h:ScM w base g F S) (hp:ParM w g F p ps) (hT:Tab w) {c:Int} (ha:S.areas.length<=800000000) {K:Slc->World->Prop}
  (hK:∀q F' w',Rd qal w' q (S.bareR ps c)->ScT base g w F F' (S.bare (q08 S.c.A ps) ps c) w'->K q w'):qik (some ⟨g,0,none⟩) p c w K:=by
 refine quy _ _ _ ?_;unfold qnl;refine qkp (i:=0) hp (qkp (i:=0) hp ?_);simp only [onPtr_some];obtain ⟨n,hn⟩:∃n,n=qdl ps 0 1:=⟨_,rfl⟩;obtain ⟨z,hz⟩:∃z,z=qdl ps 0 0:=⟨_,rfl⟩;have hni:in64 n:=by rw [hn];exact q3r hp 0 (by unfold in64;omega)
 have hzi:in64 z:=by rw [hz];exact q3r hp 0 (by unfold in64;omega)
 unfold Sc.bareR Sc.bare at hK;dsimp only at hK;rw [<-hn,<-hz] at hK ⊢;refine jpO fun J1 hJ1=>?_;have no:∀{F' S' w'},(∀q F' w',Rd qal w' q []->ScT base g w F F' S' w'->K q w')->ScT base g w F F' S' w'->K ⟨none,0,0⟩ w':=fun hK hT=>hK _ _ _ (Rd.nil _ _) hT;refine cO (fun e=>?_) fun c110=>?_
 ·have e:c=110:=eq_of_beq e;simp only [if_pos e,if_pos (Or.inl e:c=110\/c=99)] at hK;refine cO (fun e=>?_) fun e5=>?_
  ·rw [if_pos (eq_of_beq e)] at hK;exact qk0 (bs:=[48,110]) (by decide) fun q w1 hq hB1=>hK q F w1 hq (ScT.of_ext h hB1)
  rw [if_neg (beq_eq_false_iff_ne.1 e5)] at hK;refine cO (fun e=>?_) fun e6=>?_
  ·rw [if_pos (eq_of_beq e)] at hK;refine q01 h hT fun w1 hB1 hpl=>?_;have e82:(⟨#[82]⟩:ByteArray)=strB [82]:=rfl;rw [e82,qd2,qbi,qbi];refine ⟨by simp only [length_cons,length_nil];omega,?_⟩;exact qk0 (by simp only [length_append,length_cons,length_nil];omega) fun q w2 hq hB2=>hK q F w2 hq (ScT.of_ext h (qaz hB1 hB2))
  ·rw [if_neg (beq_eq_false_iff_ne.1 e6)] at hK;exact no hK (ScT.refl h)
 have c110:¬c=110:=beq_eq_false_iff_ne.1 c110;rw [if_neg c110] at hK;refine cO (fun e=>?_) fun c99=>?_
 ·have e:c=99:=eq_of_beq e;simp only [if_pos e,if_pos (Or.inr e:c=110\/c=99)] at hK;refine cO (fun e=>?_) fun e5=>?_
  ·rw [if_pos (eq_of_beq e)] at hK;exact qk0 (bs:=[63,54,50,59,52,99]) (by decide) fun q w1 hq hB1=>hK q F w1 hq (ScT.of_ext h hB1)
  ·rw [if_neg (beq_eq_false_iff_ne.1 e5)] at hK;exact no hK (ScT.refl h)
 have c99:¬c=99:=beq_eq_false_iff_ne.1 c99;rw [if_neg c99] at hK;simp only [if_neg (fun hh=>hh.elim c110 c99:¬(c=110\/c=99))] at hK;have hK:∀F' w',ScT base g w F F' _ w'->K ⟨none,0,0⟩ w':=fun F' w' hT=>no hK hT;refine cO (fun e=>?_) fun e=>?_
 ·rw [if_pos (eq_of_beq e)] at hK;refine qaq (r:=qac.rep) (x:=S.c.A) (qyz h) ?_;refine zb3 hp.rd fun w1 hB1=>?_;have h1:=ScT.of_ext h hB1;simp only [qae];refine qah h1.m.blk (by simp [qab.rep,qac.rep]) fun w2 hb2 hg2 hs2=>?_;exact hK _ _ (h1.trans (ScT.mk_struct h1.m (Chg.gg hg2) (S':={ S with c:={ S.c with A:=q08 S.c.A ps } }) hb2 rfl rfl rfl rfl rfl rfl (h.ok.setA _)))
 rw [if_neg (beq_eq_false_iff_ne.1 e)] at hK;refine cO (fun e=>?_) fun e=>?_
 ·rw [if_pos (eq_of_beq e)] at hK;exact q8r h hp fun w1 hT1=>hK _ _ hT1
 rw [if_neg (beq_eq_false_iff_ne.1 e)] at hK;refine cO (fun e=>?_) fun e=>?_
 ·rw [if_pos (eq_of_beq e)] at hK;exact qz7 h fun w1 hT1=>hK _ _ hT1
 rw [if_neg (beq_eq_false_iff_ne.1 e)] at hK;refine cO (fun e=>?_) fun e=>?_
 ·rw [if_pos (eq_of_beq e)] at hK;exact qs7 h fun w1 hT1=>hK _ _ hT1
 rw [if_neg (beq_eq_false_iff_ne.1 e)] at hK;refine jpO fun J2 hJ2=>?_;refine cO (fun e=>?_) fun c104=>?_
 ·refine cT e ?_;rw [if_pos (.inl (eq_of_beq e))] at hK;have ed:decide (c=104)=(c==104):=by rw [e,dTq (eq_of_beq e)]
  rw [ed] at hK;exact q40 h hp hK
 refine cO (fun e=>?_) fun c108=>?_
 ·rw [if_pos (.inr (eq_of_beq e))] at hK;have ed:decide (c=104)=(c==104):=by rw [c104,dFq (beq_eq_false_iff_ne.1 c104)]
  rw [ed] at hK;exact q40 h hp hK
 rw [if_neg (fun hh=>hh.elim (beq_eq_false_iff_ne.1 c104) (beq_eq_false_iff_ne.1 c108))] at hK;refine hJ2 _ _ ?_;have hd:=(ScT.refl h).drew;refine cO (fun e=>?_) fun e=>?_
 ·rw [if_pos (eq_of_beq e)] at hK;refine cO (fun e=>?_) fun e=>?_
  ·rw [if_pos (eq_of_beq e)] at hK;refine hd.m.ldStops (hd.m.ldCol ?_);exact zat hd.m.st _ fun w2 hst hc hs=>hK _ _ (hd.trans (hd.m.setSt (setB_length _ _ _) hst hc))
  rw [if_neg (beq_eq_false_iff_ne.1 e)] at hK;refine cO (fun e=>?_) fun e=>?_
  ·rw [if_pos (eq_of_beq e)] at hK;refine h.ldStops ?_;exact zcp h.st fun w2 hst hc hs=>hK _ _ (h.setSt (by simp) hst hc)
  ·rw [if_neg (beq_eq_false_iff_ne.1 e)] at hK;exact hK _ _ (ScT.refl h)
 rw [if_neg (beq_eq_false_iff_ne.1 e)] at hK;refine cO (fun e=>?_) fun e=>?_
 ·rw [if_pos (eq_of_beq e)] at hK;exact zdc h hK
 rw [if_neg (beq_eq_false_iff_ne.1 e)] at hK;refine cO (fun e=>?_) fun e=>?_
 ·rw [if_pos (eq_of_beq e)] at hK;exact q70 h (by omega) hK
 rw [if_neg (beq_eq_false_iff_ne.1 e)] at hK;refine cO (fun e=>?_) fun e=>?_
 ·rw [if_pos (eq_of_beq e)] at hK;exact zam h (by omega) hK
 rw [if_neg (beq_eq_false_iff_ne.1 e)] at hK;refine jpO fun J3 hJ3=>?_;refine cO (fun e=>?_) fun e64=>?_
 ·rw [if_pos (.inl (eq_of_beq e))] at hK;exact cT e (qyi h (by omega) hK)
 refine cO (fun e=>?_) fun e80=>?_
 ·rw [if_pos (.inr (.inl (eq_of_beq e)))] at hK;exact cT e (qyi h (by omega) hK)
 refine cO (fun e=>?_) fun e88=>?_
 ·rw [if_pos (.inr (.inr (eq_of_beq e)))] at hK;exact qyi h (by omega) hK
 rw [if_neg (fun hh=>by rcases hh with hh | hh | hh;exact beq_eq_false_iff_ne.1 e64 hh;exact beq_eq_false_iff_ne.1 e80 hh;exact beq_eq_false_iff_ne.1 e88 hh)] at hK;refine hJ3 _ _ (jpO fun J4 hJ4=>?_);refine cO (fun e=>?_) fun e76=>?_
 ·rw [if_pos (.inl (eq_of_beq e))] at hK;exact cT e (q4g h hni hK)
 refine cO (fun e=>?_) fun e77=>?_
 ·rw [if_pos (.inr (eq_of_beq e))] at hK;exact q4g h hni hK
 rw [if_neg (fun hh=>hh.elim (beq_eq_false_iff_ne.1 e76) (beq_eq_false_iff_ne.1 e77))] at hK;refine hJ4 _ _ ?_;refine cO (fun e=>?_) fun e=>?_
 ·rw [if_pos (eq_of_beq e)] at hK;exact hJ1 _ _ (q6x h (ScM.w64n _) hK)
 rw [if_neg (beq_eq_false_iff_ne.1 e)] at hK;refine cO (fun e=>?_) fun e=>?_
 ·rw [if_pos (eq_of_beq e)] at hK;exact hJ1 _ _ (q6x h (ScM.w64n _) hK)
 ·rw [if_neg (beq_eq_false_iff_ne.1 e)] at hK;exact zd0 h hp hni fun w1 hT1=>hK _ _ hT1
end
theorem q28 {s:Slc} {xs:List Slc} {w:World} {K:Slc->World->Prop} (h:Rd slE w s xs) (hl:xs.length<=1000000)
  (hK:∀r w',Go.Vc.Own slE w' w.heap.size r xs->Below w.heap.size w w'->K r w'):qcd s w K:=by
 refine qjo _ ?_;unfold qen;refine cO (fun e=>?_) (fun e=>?_)
 ·have:s.a=none:=by cases ha:s.a with
   | none=>rfl
   | some a=>rw [ha] at e;cases e
  rw [h.none_nil this] at hK;exact hK _ _ (Go.Vc.Own.nil _ _ _) (Below.refl _ _)
 ·refine nwb fun w1 hb1 hB1 hs1=>?_;refine qde qq3 (qvm (E:=slE) hb1 (le_refl _)) (h.ext hB1) (by omega) (by rw [by116];simp;omega) (by simp [maxLen];omega) fun r w2 ho2 hg2 hr2=>?_;exact hK r w2 (by simpa using ho2) (hB1.grown hg2 (by omega) fun g hg=>by cases hg;exact le_refl _)
section
variable {w w':World} {base g:Nat} {F F':ScF} {S S':Sc} {p:Slc} {ps:List Int} {f:Foot} {G:GS}
theorem zce {K:Option Addr->World->Prop} (h:GridM w base f G) (hL:G.L.length<=1000) (hm:G.most<=100000) (hb:base<=w.heap.size)
  (hK:∀f' w',GridM w' base f' G->(∀k,gridS f' k->w.heap.size<=k)->Below w.heap.size w w'->K (some ⟨f'.g,0,none⟩) w'):qmq (some ⟨f.g,0,none⟩) w K:=by
 refine qzu _ ?_;unfold qrv;simp only [onPtr_some];obtain ⟨ls,ho,hl⟩:=h.row;have hll:=hl.1;refine qaq (r:=qfh.rep) (x:=⟨some ⟨f.r,0,none⟩,G.rows,G.cols,f.ls,G.top⟩) h.blk.cells ?_;refine nwb fun w1 hx1 hB1 hs1=>qfo hx1 rfl fun w2 hx2 hc2 hs2=>?_;have hB2:Below w.heap.size w w2:=qbj hB1 hc2 (le_refl _);have h2:=h.ext hB2;refine qar (x:=some ⟨f.r,0,none⟩) (by rw [qae];exact h2.blk.cell 0 rfl) ?_;obtain ⟨at_,gone,rls,xss,hrb0,hro0,hrl,hbr,eold,hmost,hat⟩:=h.ring;have hrb:=hrb0.ext hB2;have hro:=hro0.ext hB2;refine qo6 _ ?_;unfold qh3;simp only [onPtr_some];refine qaq (r:=qbk.rep) (x:=⟨G.most,f.rs,at_,gone⟩) hrb.cells ?_;refine nwb fun w3 hy3 hB3 hs3=>qfo hy3 rfl fun w4 hy4 hc4 hs4=>?_;have hB4':Below w2.heap.size w2 w4:=qbj hB3 hc4 (le_refl _);have hrb4:=hrb.ext hB4';refine lSl (x:=f.rs) (by rw [qae];exact hrb4.cell 1 rfl) ?_;have hro4:=hro.ext hB4';have hrll:=hrl.1;refine q28 hro4.rd (by omega) fun q w5 hq5 hB5=>?_;have hy5:=hy4.ext hB5;simp only [qae];refine qah hy5 (by simp [qbk.rep]) fun w6 hy6 hg6 hs6=>?_;have z1:=hB1.size;have z5:=hB5.size;have hx4:=hx2.ext hB4';have hx5:=hx4.ext hB5;have hx6:=hx5.chg (Chg.gg hg6) (by omega);have hB6:Below w2.heap.size w2 w6:=qbj (qaz hB4' hB5) (Chg.gg hg6) (le_refl _);have hq6:=hq5.chg (Chg.gg hg6) fun k hk e=>by have:=(hq5.lt k hk).1;omega
 refine qah hx6 (by simp [qfh.rep]) fun w7 hx7 hg7 hs7=>?_;have c7:Chg (fun k=>k=w.heap.size) w6 w7:=Chg.gg hg7;have hy7:=hy6.chg c7 (by omega);have hq7:=hq6.chg c7 fun k hk e=>by have:=(hq6.lt k hk).1;omega
 have hB7:Below w.heap.size w w7:=qbj (qaz hB2 hB6) c7 (le_refl _);have h7:=h.ext hB7;refine lSl (x:=f.ls) (h7.blk.cell 3 rfl) ?_;have ho7:=ho.ext hB7;refine q28 ho7.rd (by omega) fun t w8 ht8 hB8=>?_;have hx8:=hx7.ext hB8;refine qah hx8 (by simp [qfh.rep,putL]) fun w9 hx9 hg9 hs9=>?_;have c9:Chg (fun k=>k=w.heap.size) w8 w9:=Chg.gg hg9;have z8:=hB8.size;have z7:=hB7.size;have hy9:=(hy7.ext hB8).chg c9 (by omega);have hq9:=(hq7.ext hB8).chg c9 fun k hk e=>by have:=(hq7.lt k hk).1;omega
 have ht9:=ht8.chg c9 fun k hk e=>by have:=(ht8.lt k hk).1;omega
 have hB9:Below w.heap.size w w9:=qbj (qaz hB7 hB8) c9 (le_refl _);have hl9:=hl.ext hB9;have hrl9:=hrl.ext hB9;have z6:=hB6.size;have z2:=hB2.size;refine hK ⟨w.heap.size,w2.heap.size,t,q⟩ w9 ⟨hx9,hb,⟨ls,ht9.base (by omega),hl9⟩,⟨at_,gone,rls,xss,hy9,hq9.base (by omega),hrl9,by show base<=w2.heap.size;omega,eold,hmost,hat⟩,fun k hk hk'=>?_⟩ ?_ hB9
 ·have h1:=(ht8.lt k hk).1;have h2:=(hq7.lt k hk').2;omega
 ·rintro k (rfl | rfl | hk | hk)
  ·exact le_refl _
  ·show w.heap.size<=w2.heap.size;omega
  ·have:=(ht8.lt k hk).1;omega
  ·have:=(hq5.lt k hk).1;have:=hB4'.size;omega
theorem q6y (h:ScM w base g F S) {K:Option Addr->World->Prop} (hK:∀f' w',GridM w' base f' S.g->(∀k,gridS f' k->w.heap.size<=k)->ScM w' base g F S->Below w.heap.size w w'->K (some ⟨f'.g,0,none⟩) w'):qfb (some ⟨g,0,none⟩) w K:=by
 refine qup _ ?_;unfold qno;refine qgi h ?_;have hd:=h.drew;have hG:=h.gOk;refine zce hd.gM (by rw [hG.len];exact hG.rows.2) (by have:=hG.most;omega) hd.base_le fun f' w' hg hf hB=>?_;exact hK f' w' hg hf (hd.ext hB) (qaz (qav w) hB)
theorem q4b {n:Int} {K:ByteArray->World->Prop} (hK:K (strB (Utf8.encode n).data.toList) w):runK1 PG (convert qa7 qb1 (.int .u8 n)) Kind.string w K:=by
 rw [zf2] at hK;exact ⟨_,w,run_convert_int_string w qa7 qb1 .u8 n (by kernel_rfl) (by kernel_rfl),hK⟩
theorem q48 (n:Int) (h:0<=n/\n<=255):(Utf8.encode n).data.toList.length<=4:=by
 have hv:Utf8.valid n=true:=by
  unfold Utf8.valid;simp;omega
 by_cases h2:n<128
 ·unfold Utf8.encode;simp only [hv,if_true];rw [if_pos (by omega)];simp
 ·have:=(encode_facts n hv (by omega)).2.1;simpa using this
theorem zch (h:ScM w base g F S) (hp:ParM w g F p ps) {be:Nat} {B:Int} {on:Bool} (hon:on=(B==104)) (hbe:¬scS g F be) (hb:w.cell? ⟨be,2,none⟩=some (.int .u8 B)) (ha:S.areas.length+ps.length<=900000000) {K:World->Prop} (hK:∀F' w',ScT base g w F F' (S.turns on ps) w'->K w') :
  loopP (σ:=Int×Unit) (fun I4 s_4 w10 =>
      cond (decide (s_4.1<((p.n:Nat):Int)))
       (
        ixK p s_4.1 1 fun t35 =>
        ldI .i64 t35 w10 fun t36 =>
        ldI .u8 ((⟨be,0,none⟩:Addr).add 2) w10 fun t40 =>
        qe6 (some ⟨g,0,none⟩) t36 (t40==(104:Int)) w10 fun w11 =>
        I4 ((i64.wrap (s_4.1+(1:Int))),()) w11)
       (K w10)) (0,()) w:=by
 subst hon;have hn:=hp.rd.n;have hlen:=hp.len;refine lpR (fun (st:Int×Unit) w2=>∃(k:Nat) (F2:ScF),st.1=(k:Int)/\k<=ps.length/\ScT base g w F F2 (S.turns (B==104) (ps.take k)) w2) (fun st=>ps.length-st.1.toNat) ⟨0,F,rfl,by omega,by rw [List.take_zero];exact ScT.refl h⟩ ?_;rintro ⟨i,u⟩ w2 ⟨k,F2,hi,hk,hT2⟩ I hI;dsimp only at hi ⊢;subst hi;refine cO (fun e=>?_) fun e=>?_
 ·have e:=oTq e;have hkl:k<ps.length:=by omega
  have hp2:=hp.step hT2;refine qhs hp2.rd (i:=k) hkl ?_;obtain ⟨x,hx⟩:∃x,x=ps.getD k 0:=⟨_,rfl⟩;rw [<-hx];have hxk:ps[k]=x:=by rw [hx,List.getD_eq_getElem?_getD,List.getElem?_eq_getElem hkl];rfl
  have hsn:=zc9 S (B==104) (ps.take k) x;rw [<-hxk,<-List.take_succ_eq_append_getElem hkl,hxk] at hsn;have hxr:in64 x:=by rw [<-hxk];exact hp.rng _ (List.getElem_mem hkl)
  rw [w64i (x:=(k:Int)+1) (by omega)];have hlt:=World.block_lt_of_cell? w _ hb;have hb2:w2.cell? ⟨be,2,none⟩=some (.int .u8 B):=by
   rw [<-hb];exact World.cell?_of_block (hT2.chg.block be hlt hbe)
  refine lI (x:=B) (by rw [qae];exact hb2) ?_;have har:=qwc (B==104) (ps.take k) S;rw [length_take] at har;refine zef hT2.m hxr (by omega) fun F3 w3 hT3=>?_;refine hI _ _ ⟨k+1,F3,by simp,by omega,?_⟩ (by dsimp only;omega);rw [hsn];exact hT2.trans hT3
 ·have e:=oFq e;have hkr:k=ps.length:=by omega
  subst hkr;rw [take_length] at hT2;exact hK _ _ hT2
structure EvM (w:World) (g:Nat) (F:ScF) (e:qbf) (v:Ev):Prop where
 k:e.Kind=v.Kind
 r:e.R=v.R
 b:e.B=v.B
 p:e.Private=v.Private
 i:e.Inter=strB v.Inter
 ps:ParM w g F e.Params v.Params
 br:0<=v.B/\v.B<=255
 pr:0<=v.Private/\v.Private<=255
 il:v.Inter.length<=100000
theorem q7k {e:qbf} {v:Ev} (h:ScM w base g F S) (hv:EvM w g F e v) (hT:Tab w) (h1b:4<=base) (ha:S.areas.length+v.Params.length<=700000000) {K:Slc->World->Prop}
  (hK:∀q F' w',Rd qal w' q (S.seqR v)->ScT base g w F F' (S.seqS v) w'->K q w'):qfp (some ⟨g,0,none⟩) e w K:=by
 refine qq2 _ _ ?_;unfold qjh;obtain ⟨ek,er,eb,ep,ei,epar,edat⟩:=e;obtain ⟨h1,h2,h3,h4,h5,hp,hbr,hpr,hil⟩:=hv;dsimp only at h1 h2 h3 h4 h5 hp;subst h3 h4 h5;refine nwb fun w1 hx1 hB1 hs1=>?_;have hT1:=(ScT.of_ext h hB1).drew;have B1:=qaz hB1 (qav w1);have hp1:=hp.ext B1;have t1:=hT.ext B1;have hx:=hx1.drew;generalize w1.drew=w2 at hT1 B1 hp1 t1 hx ⊢;have hxn:¬scS g F w.heap.size:=fun hs=>by have:=(h.below _ hs).2;omega
 refine lSl (x:=epar) (by simpa using hx.cells 5 _ rfl) (lSl (x:=epar) (by simpa using hx.cells 5 _ rfl) ?_);refine qkp (i:=0) hp1 ⟨by simpa using hx.cells 5 _ rfl,?_⟩;obtain ⟨n,hn⟩:∃n,n=qdl v.Params 0 0:=⟨_,rfl⟩;have hni:in64 n:=by rw [hn];exact q3r hp 0 (by unfold in64;omega)
 rw [<-hn];refine jpO fun J1 hJ1=>?_;have tail:∀(S1:Sc) F1 w3,ScT base g w2 F F1 S1 w3->S1.areas.length<=700000000->(∀q F' w',Rd qal w' q (S1.tailR v)->ScT base g w F F' (S1.tailS v) w'->K q w')->J1 () w3:=by
  intro S1 F1 w3 hT3 har hK;refine hJ1 _ _ ?_;have hx3:=hx.chg hT3.chg hxn;have h3:=hT1.trans hT3;unfold Sc.tailR Sc.tailS at hK;refine jpO fun J2 hJ2=>?_;refine lI (x:=v.Private) (by simpa using hx3.cells 3 _ rfl) ?_;refine cO (fun e=>?_) fun e=>?_
  ·have e:v.Private≠0:=by simpa using e
   rw [if_pos (.inl e),if_pos (.inl e)] at hK;exact hK _ _ _ (Rd.nil _ _) h3
  have e:v.Private=0:=by simpa using e
  refine q3g (x:=strB v.Inter) (by simpa using hx3.cells 4 _ rfl) ?_;rw [qp8,show (⟨#[]⟩:ByteArray).toList=[] by kernel_rfl];by_cases ei:v.Inter=[]
  ·refine cF (by rw [ei];rfl) (hJ2 _ _ ?_);rw [if_neg (fun hh=>hh.elim (fun h=>h e) fun h=>h ei),if_neg (fun hh=>hh.elim (fun h=>h e) fun h=>h ei)] at hK;refine lI (x:=v.B) (by simpa using hx3.cells 2 _ rfl) ?_;have hp3:=hp1.step hT3;exact zeh hT3.m hp3 (t1.step hT1.m h1b hT3) (by omega) fun q F4 w4 hq hT4=>hK q F4 w4 hq (h3.trans hT4)
  ·have ein:(v.Inter==([]:List UInt8))=false:=by rw [beq_eq_false_iff_ne];exact ei
   refine cT (by rw [ein];rfl) ?_;rw [if_pos (.inr ei),if_pos (.inr ei)] at hK;exact hK _ _ _ (Rd.nil _ _) h3
 refine lI (x:=v.Private) (by simpa using hx.cells 3 _ rfl) ?_;refine q4b ?_;refine q3g (x:=strB v.Inter) (by simpa using hx.cells 4 _ rfl) ?_;have el:=q48 v.Private hpr;have el2:=q48 v.B hbr;refine ⟨by rw [qbi,qbi];omega,?_⟩;refine lI (x:=v.B) (by simpa using hx.cells 2 _ rfl) ?_;refine q4b ⟨by rw [qd2,qbi,qbi,length_append];omega,?_⟩;rw [qd2,qd2,qp8];have ekey:(Utf8.encode v.Private).data.toList++v.Inter++(Utf8.encode v.B).data.toList=q43 v.Private v.Inter v.B:=rfl;rw [ekey];have l1:(⟨#[0,33,112]⟩:ByteArray).toList=[0,33,112]:=by kernel_rfl
 have l2:(⟨#[63,110]⟩:ByteArray).toList=[63,110]:=by kernel_rfl
 have l3:(⟨#[62,99]⟩:ByteArray).toList=[62,99]:=by kernel_rfl
 have l4:(⟨#[63,36,112]⟩:ByteArray).toList=[63,36,112]:=by kernel_rfl
 have l5:(⟨#[63,104]⟩:ByteArray).toList=[63,104]:=by kernel_rfl
 have l6:(⟨#[63,108]⟩:ByteArray).toList=[63,108]:=by kernel_rfl
 rw [l1,l2,l3,l4,l5,l6];unfold Sc.seqR Sc.seqS at hK;dsimp only at hK;rw [<-hn] at hK;obtain ⟨k,hk⟩:∃k,k=q43 v.Private v.Inter v.B:=⟨_,rfl⟩;rw [<-hk] at hK ⊢;clear ekey el el2 hk;refine cO (fun e=>?_) fun e1=>?_
 ·have e:=qg6 e;rw [if_pos e,if_pos e] at hK;exact zer hT1.m fun F3 w3 hT3=>tail S.soft F3 w3 hT3 (by show S.areas.length<=_;omega) hK
 have e1:=qfc e1;rw [if_neg e1,if_neg e1] at hK;refine jpO fun J3 hJ3=>?_;have hcl:k=[63,104]\/k=[63,108]->J3 (true,()) w2:=by
  intro hh;rw [if_pos hh,if_pos hh] at hK;refine hJ3 _ _ (cT rfl ?_);have har:=qwc (v.B==104) v.Params S;exact zch (B:=v.B) hT1.m hp1 rfl hxn (hx.cell 2 rfl) (by omega) fun F3 w3 hT3=>tail _ F3 w3 hT3 (by omega) hK
 have hcn:¬(k=[63,104]\/k=[63,108])->J3 (false,()) w2:=by
  intro hh;rw [if_neg hh,if_neg hh] at hK;refine hJ3 _ _ (cF rfl ?_);have nokey:∀{X:List UInt8->Prop},True:=trivial;refine cO (fun e=>?_) fun e2=>?_
  ·have e:k=[63,110]:=qg6 e;refine cO (fun e6=>?_) fun e6=>?_
   ·have e6:n=6:=eq_of_beq e6;rw [if_pos ⟨e,e6⟩,if_pos ⟨e,e6⟩] at hK;refine q01 hT1.m t1 fun w3 hB3 hpl=>?_;have e63:(⟨#[63]⟩:ByteArray)=strB [63]:=rfl;have e82:(⟨#[82]⟩:ByteArray)=strB [82]:=rfl;rw [e63,e82,qd2,qd2,qbi,qbi,qbi,qbi];simp only [length_append,length_cons,length_nil];refine ⟨by omega,by omega,?_⟩;exact qk0 (by simp only [length_append,length_cons,length_nil];omega) fun q w4 hq hB4=>hK q F w4 hq (hT1.ext (qaz hB3 hB4))
   ·have e6:¬n=6:=beq_eq_false_iff_ne.1 e6;have x1:¬(k=[63,110]/\n=6):=fun hh=>e6 hh.2;have x2:¬(k=[62,99]/\n=0):=fun hh=>absurd (e.symm.trans hh.1) (by decide);have x3:¬k=[63,36,112]:=fun hh=>absurd (e.symm.trans hh) (by decide);rw [if_neg x1,if_neg x2,if_neg x3,if_neg x1,if_neg x2,if_neg x3] at hK;exact tail S F w2 (ScT.refl hT1.m) (by omega) hK
  have e2:¬k=[63,110]:=qfc e2;have x1:¬(k=[63,110]/\n=6):=fun hh=>e2 hh.1;rw [if_neg x1,if_neg x1] at hK;refine cO (fun e=>?_) fun e3=>?_
  ·have e:k=[62,99]:=qg6 e;refine cO (fun e6=>?_) fun e6=>?_
   ·have e6:n=0:=eq_of_beq e6;rw [if_pos ⟨e,e6⟩,if_pos ⟨e,e6⟩] at hK;exact qk0 (bs:=[62,49,59,49,59,48,99]) (by decide) fun q w4 hq hB4=>hK q F w4 hq (hT1.ext hB4)
   ·have e6:¬n=0:=beq_eq_false_iff_ne.1 e6;have x2:¬(k=[62,99]/\n=0):=fun hh=>e6 hh.2;have x3:¬k=[63,36,112]:=fun hh=>absurd (e.symm.trans hh) (by decide);rw [if_neg x2,if_neg x3,if_neg x2,if_neg x3] at hK;exact tail S F w2 (ScT.refl hT1.m) (by omega) hK
  have e3:¬k=[62,99]:=qfc e3;have x2:¬(k=[62,99]/\n=0):=fun hh=>e3 hh.1;rw [if_neg x2,if_neg x2] at hK;refine cO (fun e=>?_) fun e4=>?_
  ·have e:k=[63,36,112]:=qg6 e;rw [if_pos e,if_pos e] at hK;have ln:=qy6 hni.1 hni.2;have hst:0<=S.stateP n/\S.stateP n<=2:=by unfold Sc.stateP;split;omega;split<;>omega
   have ln2:=qy6 (n:=S.stateP n) (by omega) (by omega);refine qvr t1 hni.1 hni.2 fun w3 hB3=>?_;have e63:(⟨#[63]⟩:ByteArray)=strB [63]:=rfl;have e59:(⟨#[59]⟩:ByteArray)=strB [59]:=rfl;have ee:(⟨#[36,121]⟩:ByteArray)=strB [36,121]:=rfl;rw [e63,e59,ee,qd2,qd2,qbi,qbi,qbi,qbi];simp only [length_append,length_cons,length_nil];refine ⟨by omega,by omega,?_⟩;have h3:=hT1.ext hB3;refine zb1 h3.m ?_;refine qvr (t1.ext hB3) (by omega) (by omega) fun w4 hB4=>?_;rw [qd2,qd2,qbi,qbi,qbi,qbi];simp only [length_append,length_cons,length_nil];refine ⟨by omega,by omega,?_⟩;exact qk0 (by simp only [length_append,length_cons,length_nil];omega) fun q w5 hq hB5=>hK q F w5 hq (h3.ext (qaz hB4 hB5))
  ·have x3:¬k=[63,36,112]:=qfc e4;rw [if_neg x3,if_neg x3] at hK;exact tail S F w2 (ScT.refl hT1.m) (by omega) hK
 refine cO (fun e=>?_) fun e5=>?_
 ·rw [e];exact hcl (.inl (qg6 e))
 ·cases e6:(k==[63,108])
  ·exact hcn fun hh=>hh.elim (qfc e5) (qfc e6)
  ·exact hcl (.inr (qg6 e6))
theorem zdu {e:qbf} {v:Ev} (h:ScM w base g F S) (hv:EvM w g F e v) (hT:Tab w) (h1b:4<=base) (ha:S.areas.length+v.Params.length<=700000000) {K:Slc->World->Prop}
  (hK:∀q F' w',Rd qal w' q (S.doR v)->ScT base g w F F' (S.doS v) w'->K q w'):qj3 (some ⟨g,0,none⟩) e w K:=by
 refine qwz _ _ ?_;unfold qpq;refine nwb fun w1 hx hB1 hs1=>?_;have h1:=ScT.of_ext h hB1;unfold Sc.doR Sc.doS at hK;have v1:=hv.k;have v2:=hv.r;have v3:=hv.b;have v4:=hv.i;refine lI (x:=v.Kind) (by rw [<-v1];simpa using hx.cells 0 _ rfl) ?_;have no:∀{S1 w' F1},(∀q F' w',Rd qal w' q []->ScT base g w F F' S1 w'->K q w')->ScT base g w F F1 S1 w'->K ⟨none,0,0⟩ w':=fun hK hT=>hK _ _ _ (Rd.nil _ _) hT;refine cO (fun e=>?_) fun e1=>?_
 ·have e:v.Kind=1:=eq_of_beq e;rw [if_pos (.inl e),if_pos e] at hK;refine lI (x:=v.R) (by rw [<-v2];simpa using hx.cells 1 _ rfl) ?_;exact zb9 h1.m fun F2 w2 hT2=>no hK (h1.trans hT2)
 have e1:¬v.Kind=1:=beq_eq_false_iff_ne.1 e1;refine cO (fun e=>?_) fun e2=>?_
 ·have e:v.Kind=2:=eq_of_beq e;rw [if_pos (.inr (.inl e)),if_neg e1,if_pos e] at hK;refine lI (x:=v.B) (by rw [<-v3];simpa using hx.cells 2 _ rfl) ?_;exact q8h h1.m fun F2 w2 hT2=>no hK (h1.trans hT2)
 have e2:¬v.Kind=2:=beq_eq_false_iff_ne.1 e2;refine cO (fun e=>?_) fun e3=>?_
 ·have e:v.Kind=3:=eq_of_beq e;rw [if_pos (.inr (.inr e)),if_neg e1,if_neg e2,if_pos e] at hK;refine q3g (x:=strB v.Inter) (by rw [<-v4];simpa using hx.cells 4 _ rfl) ?_;refine lI (x:=v.B) (by rw [<-v3];simpa using hx.cells 2 _ rfl) ?_;exact q9k h1.m (by omega) fun F2 w2 hT2=>no hK (h1.trans hT2)
 have e3:¬v.Kind=3:=beq_eq_false_iff_ne.1 e3;rw [if_neg (fun hh=>by rcases hh with hh | hh | hh;exact e1 hh;exact e2 hh;exact e3 hh),if_neg e1,if_neg e2,if_neg e3] at hK;refine cO (fun e=>?_) fun e4=>?_
 ·have e:v.Kind=4:=eq_of_beq e;rw [if_pos e,if_pos e] at hK;refine qaq (r:=qbf.rep) (x:=_) hx.cells ?_;refine q7k h1.m ⟨hv.k,hv.r,hv.b,hv.p,hv.i,hv.ps.ext hB1,hv.br,hv.pr,hv.il⟩ (hT.ext hB1) h1b ha fun q F2 w2 hq hT2=>hK q F2 w2 hq (h1.trans hT2)
 ·have e4:¬v.Kind=4:=beq_eq_false_iff_ne.1 e4;rw [if_neg e4,if_neg e4] at hK;exact no hK h1
end
end Go.Proofs.YtcigiaecigedmaaGreatDoor
