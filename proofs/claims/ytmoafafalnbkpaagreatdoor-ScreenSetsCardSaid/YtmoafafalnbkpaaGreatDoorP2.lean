/- Program-generic: maps with int keys in memory, as sorted lists of keys and values. No program in sight. Program-generic: what the operations on maps with int keys come to. No program in sight. Tab stops, plain: which columns are stops, as a list of truth values; the answers as numbers. No program in sight. The kit's contracts for maps.Keys, slices.Collect, slices.Sorted over int keys, laid at this program, and what they come to for a map that holds a sorted list. The program's tab stops: their memory, and what each operation comes to. The program's tab stops: Resize, New. slices.Backward over ints: its closure's contract; the range over it in Stops.Back. The program's tab stops: Back, which goes over slices.Backward. A screen, plain: what each of its functions makes of it. The laws of lines, walked: what each answers. The laws of lines, walked: LineTexts, LineShifts. Plain laws of grids: what Scroll, Resize make, line by line; rows of one character. Plain laws of grids: what stays true of a grid that is played with. A screen in memory: what it is, and how it stays. The screen walked: cut, g, size, blank, to, home, index, reverse, up, down, save. The screen walked: scrolls, index, reverse, home, up, down, save, restore, Cursor, Margins. The screen walked: widths, the drawing set, a line changed. The screen walked: a character laid. The screen walked: lay, print. The screen walked: erase, restore, plain, fresh. The screen walked: restore, plain, fresh, New. The screen walked: fresh, New, Check. The screen walked: parameters; asked, margins, again, display, inLine, cells, lines, move. -/
import Derived.Test.YtmoafafalnbkpaaGreatDoorP1
import Derived.MapKept
import Derived.Maps.Own
import Derived.Shelf.SlIterI.Nil
import Derived.Shelf.SortM.Plain
import Derived.Shelf.SortM.SortNone
import Derived.Test.YtmoafafalnbkpaaGreatDoorShA
import Derived.RangeFuncBox
import Derived.RangeFuncLeaves
import Derived.RangeFuncFrom
import Derived.RangeFuncWrites
import Derived.Shelf.Abstract
import Derived.WalkKit
import Derived.OwnWalkIn
import Derived.TacticsInMore
import Derived.LoopNIn
import Derived.LoopIn
import Derived.BigFrameIn
import Derived.BigRegionIn
import Derived.BigGuardIn
import Derived.BigGuardPartIn
import Derived.Scope
set_option linter.unusedVariables false
set_option linter.unusedVariables false
namespace Go.Vc
open Go.RowKit
structure Ent (V : Type) where
  k : Int
  v : V
  b : Nat
section
variable {V : Type} (enc : V → Value)
def Ent.val (e : Ent V) : MapEntry := { key := .int .i64 e.k, val := enc e.v, born := e.b }
/-- The map at r has just these entries, in the order of their making. -/
structure MapE (w : World) (r : Nat) (E : List (Ent V)) (clock : Nat) : Prop where
  heap : w.heap[r]? = some (.map (E.map (Ent.val enc)).toArray clock)
  keys : E.Pairwise fun x y => x.k ≠ y.k
  stamps : E.Pairwise fun x y => x.b < y.b
  lt : ∀ e ∈ E, e.b < clock
  wf : ∀ e ∈ E, -9223372036854775808 ≤ e.k ∧ e.k ≤ 9223372036854775807

/-! ### Sorted lists of keys and values -/
def Srt (L : List (Int × V)) : Prop := L.Pairwise fun p q => p.1 < q.1
def lookL (L : List (Int × V)) (k : Int) : Option V := (L.find? fun p => p.1 == k).map (·.2)
def delL (L : List (Int × V)) (k : Int) : List (Int × V) := L.filter fun p => p.1 != k
def putL' (L : List (Int × V)) (k : Int) (v : V) : List (Int × V) := match L with
  | [] => [(k, v)]
  | p :: r => if k < p.1 then (k, v) :: p :: r else if k = p.1 then (k, v) :: r else p :: putL' r k v
def pairs (E : List (Ent V)) : List (Int × V) := E.map fun e => (e.k, e.v)
/-- The map at r holds what the sorted list says. -/
def MapM (w : World) (r : Nat) (L : List (Int × V)) : Prop := ∃ E clock, MapE enc w r E clock ∧ (pairs E).Perm L ∧ Srt L

variable {enc}
theorem MapE.lt_heap {w : World} {r : Nat} {E : List (Ent V)} {clock : Nat} (h : MapE enc w r E clock) : r < w.heap.size := (Array.getElem?_eq_some_iff.1 h.heap).1
theorem MapM.lt {w : World} {r : Nat} {L : List (Int × V)} (h : MapM enc w r L) : r < w.heap.size := by
  obtain ⟨E, c, h, _⟩ := h
  exact h.lt_heap
theorem MapM.keep {w w' : World} {r : Nat} {L : List (Int × V)} (h : MapM enc w r L) (hk : w'.heap[r]? = w.heap[r]?) : MapM enc w' r L := by
  obtain ⟨E, c, h, hp⟩ := h
  exact ⟨E, c, ⟨hk.trans h.heap, h.keys, h.stamps, h.lt, h.wf⟩, hp⟩
theorem MapM.chg {S : Nat → Prop} {w w' : World} {r : Nat} {L : List (Int × V)} (h : MapM enc w r L) (hc : Chg S w w') (hS : ¬ S r) : MapM enc w' r L := h.keep (hc.block r h.lt hS)
theorem MapM.ext {w w' : World} {r : Nat} {L : List (Int × V)} (h : MapM enc w r L) (hb : Below w.heap.size w w') : MapM enc w' r L := h.keep (hb.block r h.lt)
theorem MapM.new (w : World) : MapM enc (w.alloc (.map #[] 0)) w.heap.size ([] : List (Int × V)) := by
  refine ⟨[], 0, ⟨?_, .nil, .nil, (fun e he => by cases he), (fun e he => by cases he)⟩, .refl _, .nil⟩
  show (w.heap.push _)[w.heap.size]? = _
  simp
theorem MapM.ne_blk {w : World} {r g : Nat} {L : List (Int × V)} {t : TypeId} {vs : List Value} (h : MapM enc w r L) (hb : Blk w g t vs) : r ≠ g := by
  rintro rfl
  obtain ⟨E, c, h, _⟩ := h
  have h1 := h.heap
  unfold Blk at hb
  rw [hb] at h1
  cases h1
/-! ### Looking for a key -/
def idxE : List (Ent V) → Int → Option (Nat × V)
  | [], _ => none
  | e :: r, k => if k = e.k then some (0, e.v) else (idxE r k).map fun p => (p.1 + 1, p.2)
theorem findNow_idx (k : Int) : ∀ (E : List (Ent V)) (i : Nat), Instr.findNow (.int .i64) (.int .i64 k) (E.map (Ent.val enc)) i = some ((idxE E k).map fun p => (i + p.1, enc p.2))
  | [], i => rfl
  | e :: r, i => by
    rw [List.map_cons, Instr.findNow]
    have hs : Instr.sameNow (.int .i64) (.int .i64 k) (Ent.val enc e).key = some (k == e.k) := by
      show (if (IntKind.i64 = IntKind.i64) then some (k == e.k) else none) = _
      rw [if_pos rfl]
    rw [hs, idxE]
    by_cases h : k = e.k
    · rw [if_pos h, show (k == e.k) = true from beq_iff_eq.2 h]
      rfl
    · rw [if_neg h, show (k == e.k) = false from beq_eq_false_iff_ne.2 h]
      dsimp only
      rw [findNow_idx k r (i + 1)]
      cases idxE r k with
      | none => rfl
      | some p =>
        show some (some (i + 1 + p.1, enc p.2)) = some (some (i + (p.1 + 1), enc p.2))
        rw [show i + 1 + p.1 = i + (p.1 + 1) by omega]
theorem idxE_some {k : Int} {v : V} : ∀ {E : List (Ent V)} {i : Nat}, idxE E k = some (i, v) → ∃ e, E[i]? = some e ∧ e.k = k ∧ e.v = v
  | e :: r, i, h => by
    rw [idxE] at h
    by_cases hk : k = e.k
    · rw [if_pos hk] at h
      cases h
      exact ⟨e, rfl, hk.symm, rfl⟩
    · rw [if_neg hk] at h
      obtain ⟨p, hp, e'⟩ := Option.map_eq_some_iff.1 h
      cases e'
      obtain ⟨x, hx, h1, h2⟩ := idxE_some (E := r) (i := p.1) (by rw [hp])
      exact ⟨x, hx, h1, h2⟩
theorem idxE_none {k : Int} : ∀ {E : List (Ent V)}, idxE E k = none → ∀ e ∈ E, e.k ≠ k
  | [], _, e, he => by cases he
  | x :: r, h, e, he => by
    rw [idxE] at h
    by_cases hk : k = x.k
    · rw [if_pos hk] at h; cases h
    · rw [if_neg hk] at h
      have h := Option.map_eq_none_iff.1 h
      rcases List.mem_cons.1 he with rfl | he
      · exact fun e => hk e.symm
      · exact idxE_none h e he
theorem lookL_some {L : List (Int × V)} (hs : Srt L) {k : Int} {v : V} : lookL L k = some v ↔ (k, v) ∈ L := by
  unfold lookL
  rw [Option.map_eq_some_iff]
  constructor
  · rintro ⟨p, hp, rfl⟩
    have h1 := List.find?_some hp
    have h2 := List.mem_of_find?_eq_some hp
    have : p.1 = k := by simpa using h1
    rw [← this]
    exact h2
  · intro hm
    cases hf : L.find? (fun p => p.1 == k) with
    | none =>
      have := List.find?_eq_none.1 hf (k, v) hm
      simp at this
    | some q =>
      have h1 : q.1 = k := by simpa using List.find?_some hf
      have h2 := List.mem_of_find?_eq_some hf
      refine ⟨q, rfl, ?_⟩
      obtain ⟨qk, qv⟩ := q
      subst h1
      -- keys are told apart
      have : ∀ {M : List (Int × V)}, Srt M → ∀ {a b c}, (a, b) ∈ M → (a, c) ∈ M → b = c := by
        intro M hM
        induction hM with
        | nil => intro a b c h; cases h
        | cons hx _ ih =>
          intro a b c hb hc
          rcases List.mem_cons.1 hb with e | hb
          · rcases List.mem_cons.1 hc with e' | hc
            · have := e.trans e'.symm
              cases this; rfl
            · have := hx _ hc
              rw [← e] at this
              exact absurd this (Int.lt_irrefl _)
          · rcases List.mem_cons.1 hc with e' | hc
            · have := hx _ hb
              rw [← e'] at this
              exact absurd this (Int.lt_irrefl _)
            · exact ih hb hc
      exact this hs h2 hm
theorem lookL_idx {E : List (Ent V)} {L : List (Int × V)} (hp : (pairs E).Perm L) (hs : Srt L) (k : Int) : (idxE E k).map (·.2) = lookL L k := by
  cases hi : idxE E k with
  | none =>
    cases hg : lookL L k with
    | none => rfl
    | some v =>
      have := hp.mem_iff.2 ((lookL_some hs).1 hg)
      obtain ⟨e, he, e2⟩ := List.mem_map.1 this
      have e2 := congrArg Prod.fst e2
      exact absurd e2 (idxE_none hi e he)
  | some p =>
    obtain ⟨i, v⟩ := p
    obtain ⟨e, he, h1, h2⟩ := idxE_some hi
    refine ((lookL_some hs).2 (hp.mem_iff.1 (List.mem_map.2 ⟨e, List.mem_of_getElem? he, ?_⟩))).symm
    rw [h1, h2]

/-! ### The operations -/
def putM (w : World) (r : Nat) (o : Obj) : World := { w with heap := w.heap.setIfInBounds r o }
theorem putM_chg (w : World) (r : Nat) (o : Obj) : Chg (fun k => k = r) w (putM w r o) :=
  ⟨rfl, rfl, rfl, by show w.heap.size ≤ (w.heap.setIfInBounds r o).size; simp, fun k _ hk => by show (w.heap.setIfInBounds r o)[k]? = _; rw [Array.getElem?_setIfInBounds_ne (fun e => hk e.symm)]⟩
theorem putM_heap {w : World} {r : Nat} (o : Obj) (h : r < w.heap.size) : (putM w r o).heap[r]? = some o := by
  show (w.heap.setIfInBounds r o)[r]? = _
  simp [h]
theorem putM_size (w : World) (r : Nat) (o : Obj) : (putM w r o).heap.size = w.heap.size := by show (w.heap.setIfInBounds r o).size = _; simp

theorem Srt.nodup {L : List (Int × V)} (h : Srt L) : L.Nodup := h.imp fun {a b} hab e => by rw [e] at hab; exact Int.lt_irrefl _ hab
theorem pairs_nodup {E : List (Ent V)} (h : E.Pairwise fun x y => x.k ≠ y.k) : (pairs E).Nodup := List.pairwise_map.2 (h.imp fun {a b} hab e => hab (congrArg Prod.fst e))
theorem mem_putL {L : List (Int × V)} (hs : Srt L) (k : Int) (v : V) : ∀ a b, (a, b) ∈ putL' L k v ↔ (a = k ∧ b = v) ∨ (a ≠ k ∧ (a, b) ∈ L) := by
  induction hs with
  | nil =>
    intro a b
    simp [putL']
  | @cons p L' hp hs' ih =>
    intro a b
    obtain ⟨pk, pv⟩ := p
    rw [putL']
    dsimp only at hp ⊢
    have hgt : ∀ {a b}, (a, b) ∈ L' → pk < a := fun h => hp _ h
    by_cases h1 : k < pk
    · rw [if_pos h1]
      simp only [List.mem_cons, Prod.mk.injEq]
      constructor
      · rintro (h | h | h)
        · exact .inl h
        · exact .inr ⟨by omega, .inl h⟩
        · exact .inr ⟨by have := hgt h; omega, .inr h⟩
      · rintro (h | ⟨_, h | h⟩)
        · exact .inl h
        · exact .inr (.inl h)
        · exact .inr (.inr h)
    · rw [if_neg h1]
      by_cases h2 : k = pk
      · rw [if_pos h2]
        simp only [List.mem_cons, Prod.mk.injEq]
        constructor
        · rintro (h | h)
          · exact .inl h
          · exact .inr ⟨by have := hgt h; omega, .inr h⟩
        · rintro (h | ⟨hne, h | h⟩)
          · exact .inl h
          · omega
          · exact .inr h
      · rw [if_neg h2]
        simp only [List.mem_cons, Prod.mk.injEq, ih]
        constructor
        · rintro (h | h | ⟨hne, h⟩)
          · exact .inr ⟨by omega, .inl h⟩
          · exact .inl h
          · exact .inr ⟨hne, .inr h⟩
        · rintro (h | ⟨hne, h | h⟩)
          · exact .inr (.inl h)
          · exact .inl h
          · exact .inr (.inr ⟨hne, h⟩)
theorem srt_putL {L : List (Int × V)} (hs : Srt L) (k : Int) (v : V) : Srt (putL' L k v) := by
  induction hs with
  | nil => exact List.pairwise_singleton _ _
  | @cons p L' hp hs' ih =>
    obtain ⟨pk, pv⟩ := p
    rw [putL']
    dsimp only at hp ⊢
    by_cases h1 : k < pk
    · rw [if_pos h1]
      refine .cons (fun q hq => ?_) (.cons hp hs')
      rcases List.mem_cons.1 hq with rfl | hq
      · exact h1
      · exact Int.lt_trans h1 (hp q hq)
    · rw [if_neg h1]
      by_cases h2 : k = pk
      · rw [if_pos h2]
        exact .cons (fun q hq => by rw [h2]; exact hp q hq) hs'
      · rw [if_neg h2]
        refine .cons (fun q hq => ?_) ih
        obtain ⟨a, b⟩ := q
        rcases (mem_putL hs' k v a b).1 hq with ⟨rfl, _⟩ | ⟨_, hm⟩
        · show pk < a; omega
        · exact hp _ hm
theorem srt_delL {L : List (Int × V)} (hs : Srt L) (k : Int) : Srt (delL L k) := hs.filter _
theorem mem_delL {L : List (Int × V)} (k a : Int) (b : V) : (a, b) ∈ delL L k ↔ a ≠ k ∧ (a, b) ∈ L := by
  simp [delL, and_comm]
def setE (E : List (Ent V)) (i : Nat) (v : V) : List (Ent V) := E.modify i fun e => { e with v := v }
theorem mem_setE {k : Int} {v v0 : V} : ∀ {E : List (Ent V)} {i : Nat}, E.Pairwise (fun x y => x.k ≠ y.k) → idxE E k = some (i, v0) → ∀ a b, (a, b) ∈ pairs (setE E i v) ↔ (a = k ∧ b = v) ∨ (a ≠ k ∧ (a, b) ∈ pairs E)
  | e :: r, i, hp, h, a, b => by
    rw [idxE] at h
    cases hp with
    | cons hpe hpr =>
    by_cases hk : k = e.k
    · rw [if_pos hk] at h
      cases h
      show (a, b) ∈ (e.k, v) :: pairs r ↔ _ ∨ (_ ∧ (a, b) ∈ (e.k, e.v) :: pairs r)
      simp only [List.mem_cons, Prod.mk.injEq]
      have hne : ∀ {a b}, (a, b) ∈ pairs r → a ≠ k := fun {a b} hm e' => by
        obtain ⟨x, hx, ex⟩ := List.mem_map.1 hm
        have := congrArg Prod.fst ex
        exact hpe x hx (by rw [← hk, ← e']; exact this.symm)
      constructor
      · rintro (⟨h1, h2⟩ | h)
        · exact .inl ⟨by omega, h2⟩
        · exact .inr ⟨hne h, .inr h⟩
      · rintro (⟨h1, h2⟩ | ⟨h1, ⟨h2, _⟩ | h⟩)
        · exact .inl ⟨by omega, h2⟩
        · omega
        · exact .inr h
    · rw [if_neg hk] at h
      obtain ⟨p, hp', e'⟩ := Option.map_eq_some_iff.1 h
      cases e'
      have ih := mem_setE (E := r) (i := p.1) hpr (by rw [hp']) a b (v := v) (k := k)
      show (a, b) ∈ (e.k, e.v) :: pairs (setE r p.1 v) ↔ _ ∨ (_ ∧ (a, b) ∈ (e.k, e.v) :: pairs r)
      simp only [List.mem_cons, Prod.mk.injEq, ih]
      constructor
      · rintro (⟨h1, h2⟩ | h | ⟨h1, h2⟩)
        · exact .inr ⟨by omega, .inl ⟨h1, h2⟩⟩
        · exact .inl h
        · exact .inr ⟨h1, .inr h2⟩
      · rintro (h | ⟨h1, h | h⟩)
        · exact .inr (.inl h)
        · exact .inl h
        · exact .inr (.inr ⟨h1, h⟩)
theorem erase_idx {k : Int} {v0 : V} : ∀ {E : List (Ent V)} {i : Nat}, E.Pairwise (fun x y => x.k ≠ y.k) → idxE E k = some (i, v0) → E.eraseIdx i = E.filter fun e => e.k != k
  | e :: r, i, hp, h => by
    rw [idxE] at h
    cases hp with
    | cons hpe hpr =>
    by_cases hk : k = e.k
    · rw [if_pos hk] at h
      cases h
      rw [List.eraseIdx_cons_zero, List.filter_cons, if_neg (by simp [hk])]
      refine (List.filter_eq_self.2 fun x hx => ?_).symm
      have := hpe x hx
      simp only [bne_iff_ne, ne_eq]
      rw [hk]
      exact fun e => this e.symm
    · rw [if_neg hk] at h
      obtain ⟨p, hp', e'⟩ := Option.map_eq_some_iff.1 h
      cases e'
      rw [List.eraseIdx_cons_succ, List.filter_cons, if_pos (by simpa using fun e => hk e.symm), erase_idx (E := r) (i := p.1) hpr (by rw [hp'])]
theorem filter_none {k : Int} {E : List (Ent V)} (h : idxE E k = none) : E.filter (fun e => e.k != k) = E := List.filter_eq_self.2 fun x hx => by simpa using idxE_none h x hx
section
variable {P : Program} {t kt et : TypeId} {w : World} {r : Nat} {E : List (Ent V)} {clock : Nat}
theorem run_checkKey (hk : P.underlying kt = some (.int .i64)) (b : Bool) (k : Int) : (Instr.checkKey b 10000 kt (.int .i64 k)).run P w = .ok () w := by
  show (Instr.checkKey b (9999 + 1) kt (.int .i64 k)).run P w = _
  rw [Instr.checkKey]
  simp only [Sem.run_bind, run_underlying hk, Result.andThen_ok, Sem.run_pure]
theorem run_getMap {es : Array MapEntry} (h : w.heap[r]? = some (.map es clock)) : (getObj r).run P w = .ok (.map es clock) w := by simp [getObj, Sem.run, h]
theorem run_setMap {es : Array MapEntry} (o : Obj) (h : w.heap[r]? = some (.map es clock)) : (setObj r o).run P w = .ok () (putM w r o) := by simp [setObj, Sem.run, h, putM]
theorem run_findKey (hk : P.underlying kt = some (.int .i64)) (k : Int) : (Instr.findKey kt (.int .i64 k) (E.map (Ent.val enc))).run P w = .ok ((idxE E k).map fun p => (p.1, enc p.2)) w := by
  have := findNow_idx (enc := enc) k E 0
  simp only [Nat.zero_add] at this
  simp [Instr.findKey, run_underlying hk, this]
theorem MapE.lookup (h : MapE enc w r E clock) (ht : P.underlying t = some (.map kt et)) (hk : P.underlying kt = some (.int .i64)) {z : Value} (hz : ∀ w, (zeroValue et).run P w = .ok z w) (k : Int) :
    (Instr.lookup t (.map (some r)) (.int .i64 k) false).run P w = .ok (((idxE E k).map fun p => enc p.2).getD z) w := by
  have hf := run_findKey (P := P) (kt := kt) (w := w) (enc := enc) (E := E) hk k
  cases hi : idxE E k with
  | none =>
    rw [hi] at hf
    simp [Instr.lookup, run_underlying ht, run_getMap h.heap, run_checkKey hk, hf, hz]
  | some p =>
    rw [hi] at hf
    simp [Instr.lookup, run_underlying ht, run_getMap h.heap, run_checkKey hk, hf]
end
end
end Go.Vc

set_option linter.unusedVariables false
namespace Go.Vc
open Go.RowKit
section
variable {V : Type} {enc : V → Value} {P : Program} {t kt et : TypeId} {w : World} {r : Nat} {L : List (Int × V)}
theorem mapE_size {E : List (Ent V)} (hp : (pairs E).Perm L) : E.length = L.length := by rw [← hp.length_eq]; simp [pairs]
theorem MapM.lookup (h : MapM enc w r L) (ht : P.underlying t = some (.map kt et)) (hk : P.underlying kt = some (.int .i64)) {z : Value} (hz : ∀ w, (zeroValue et).run P w = .ok z w) (k : Int) :
    (Instr.lookup t (.map (some r)) (.int .i64 k) false).run P w = .ok (((lookL L k).map enc).getD z) w := by
  obtain ⟨E, c, hE, hp, hs⟩ := h
  rw [hE.lookup ht hk hz k, ← lookL_idx hp hs k]
  simp only [Option.map_map]
  rfl
theorem MapM.srt (h : MapM enc w r L) : Srt L := by obtain ⟨_, _, _, _, hs⟩ := h; exact hs
theorem MapM.update (h : MapM enc w r L) (ht : P.underlying t = some (.map kt et)) (hk : P.underlying kt = some (.int .i64)) {k : Int} (hk1 : -9223372036854775808 ≤ k ∧ k ≤ 9223372036854775807) (v : V) :
    ∃ w', (Instr.mapUpdate t (.map (some r)) (.int .i64 k) (enc v)).run P w = .ok () w' ∧ MapM enc w' r (putL' L k v) ∧ Chg (fun k => k = r) w w' ∧ w'.heap.size = w.heap.size := by
  obtain ⟨E, c, hE, hp, hs⟩ := h
  have hf := run_findKey (P := P) (kt := kt) (w := w) (enc := enc) (E := E) hk k
  have hkeys : ∀ {E' : List (Ent V)}, (∀ a b, (a, b) ∈ pairs E' ↔ (a = k ∧ b = v) ∨ (a ≠ k ∧ (a, b) ∈ pairs E)) → (E'.Pairwise fun x y => x.k ≠ y.k) → (pairs E').Perm (putL' L k v) := fun {E'} hm hk' =>
    (List.perm_ext_iff_of_nodup (pairs_nodup hk') (srt_putL hs k v).nodup).2 fun p => by
      obtain ⟨a, b⟩ := p
      rw [hm a b, mem_putL hs k v a b, hp.mem_iff]
  cases hi : idxE E k with
  | none =>
    rw [hi] at hf
    have hno := idxE_none hi
    refine ⟨putM w r (.map ((E ++ [(⟨k, v, c⟩ : Ent V)]).map (Ent.val enc)).toArray (c + 1)), ?_, ⟨E ++ [(⟨k, v, c⟩ : Ent V)], c + 1, ⟨putM_heap _ hE.lt_heap, ?_, ?_, ?_, ?_⟩, hkeys (fun a b => ?_) ?_, srt_putL hs k v⟩, putM_chg _ _ _, putM_size _ _ _⟩
    · have hpush : (E.map (Ent.val enc)).toArray.push { key := .int .i64 k, val := enc v, born := c } = ((E ++ [(⟨k, v, c⟩ : Ent V)]).map (Ent.val enc)).toArray := by simp [Ent.val]
      rw [← hpush]
      simp [Instr.mapUpdate, run_underlying ht, run_getMap hE.heap, run_checkKey hk, hf, run_setMap _ hE.heap]
    · refine List.pairwise_append.2 ⟨hE.keys, List.pairwise_singleton _ _, fun x hx y hy => ?_⟩
      rw [List.mem_singleton] at hy
      subst hy
      exact hno x hx
    · refine List.pairwise_append.2 ⟨hE.stamps, List.pairwise_singleton _ _, fun x hx y hy => ?_⟩
      rw [List.mem_singleton] at hy
      subst hy
      exact hE.lt x hx
    · intro e he
      rcases List.mem_append.1 he with he | he
      · have := hE.lt e he; omega
      · rw [List.mem_singleton] at he
        subst he
        exact Nat.lt_succ_self _
    · intro e he
      rcases List.mem_append.1 he with he | he
      · exact hE.wf e he
      · rw [List.mem_singleton] at he
        subst he
        exact hk1
    · have e1 : pairs (E ++ [(⟨k, v, c⟩ : Ent V)]) = pairs E ++ [(k, v)] := by simp [pairs]
      rw [e1, List.mem_append, List.mem_singleton, Prod.mk.injEq]
      constructor
      · rintro (h | h)
        · refine .inr ⟨fun e => ?_, h⟩
          obtain ⟨x, hx, ex⟩ := List.mem_map.1 h
          exact hno x hx (by rw [← e]; exact congrArg Prod.fst ex)
        · exact .inl h
      · rintro (h | ⟨_, h⟩)
        · exact .inr h
        · exact .inl h
    · refine List.pairwise_append.2 ⟨hE.keys, List.pairwise_singleton _ _, fun x hx y hy => ?_⟩
      rw [List.mem_singleton] at hy
      subst hy
      exact hno x hx
  | some p =>
    obtain ⟨i, v0⟩ := p
    rw [hi] at hf
    obtain ⟨e, he, hek, hev⟩ := idxE_some hi
    have hil : i < E.length := (List.getElem?_eq_some_iff.1 he).1
    have hm := mem_setE (v := v) hE.keys hi
    have hmod : ∀ {Q : Ent V → Prop}, (∀ x ∈ E, Q x → Q { x with v := v }) → (∀ x ∈ E, Q x) → ∀ x ∈ setE E i v, Q x := fun {Q} h1 h2 x hx => by
      unfold setE at hx
      obtain ⟨j, hj⟩ := List.getElem?_of_mem hx
      rw [List.getElem?_modify] at hj
      obtain ⟨y, hy, hxy⟩ := Option.map_eq_some_iff.1 hj
      have hym := List.mem_of_getElem? hy
      by_cases hij : i = j
      · rw [if_pos hij] at hxy
        rw [← hxy]
        exact h1 y hym (h2 y hym)
      · rw [if_neg hij] at hxy
        rw [← hxy]
        exact h2 y hym
    have hmap : ∀ {A : Type} (f : Ent V → A), (∀ x, f { x with v := v } = f x) → (setE E i v).map f = E.map f := fun {A} f hf' => by
      refine List.ext_getElem? fun j => ?_
      unfold setE
      rw [List.getElem?_map, List.getElem?_modify, List.getElem?_map]
      cases E[j]? with
      | none => rfl
      | some x =>
        show some (f (if i = j then { x with v := v } else x)) = some (f x)
        by_cases hij : i = j
        · rw [if_pos hij, hf' x]
        · rw [if_neg hij]
    have hks : (setE E i v).Pairwise fun x y => x.k ≠ y.k := by
      have h1 := hE.keys
      rw [← List.pairwise_map (f := fun e : Ent V => e.k) (R := fun a b => a ≠ b)] at h1 ⊢
      rwa [hmap (fun e => e.k) (fun _ => rfl)]
    have hst : (setE E i v).Pairwise fun x y => x.b < y.b := by
      have h1 := hE.stamps
      rw [← List.pairwise_map (f := fun e : Ent V => e.b) (R := fun a b => a < b)] at h1 ⊢
      rwa [hmap (fun e => e.b) (fun _ => rfl)]
    have harr : (E.map (Ent.val enc)).toArray.modify i (fun x => { x with key := .int .i64 k, val := enc v }) = ((setE E i v).map (Ent.val enc)).toArray := by
      apply Array.ext'
      refine List.ext_getElem? fun j => ?_
      rw [Array.getElem?_toList, Array.getElem?_modify]
      unfold setE
      rw [List.getElem?_toArray, List.getElem?_map, List.getElem?_map, List.getElem?_modify]
      by_cases hij : i = j
      · subst hij
        rw [if_pos rfl, he]
        show some _ = some (Ent.val enc (if i = i then { e with v := v } else e))
        rw [if_pos rfl]
        simp [Ent.val, hek]
      · rw [if_neg hij]
        cases E[j]? with
        | none => rfl
        | some x => show some (Ent.val enc x) = some (Ent.val enc (if i = j then { x with v := v } else x)); rw [if_neg hij]
    refine ⟨putM w r (.map ((setE E i v).map (Ent.val enc)).toArray c), ?_, ⟨setE E i v, c, ⟨putM_heap _ hE.lt_heap, hks, hst, hmod (Q := fun e => e.b < c) (fun _ _ h => h) hE.lt, hmod (Q := fun e => -9223372036854775808 ≤ e.k ∧ e.k ≤ 9223372036854775807) (fun _ _ h => h) hE.wf⟩, hkeys hm hks, srt_putL hs k v⟩, putM_chg _ _ _, putM_size _ _ _⟩
    have hold : ((((E.map (Ent.val enc)).toArray[i]?).map (·.key)).getD (.int .i64 k)) = .int .i64 k := by
      rw [List.getElem?_toArray, List.getElem?_map, he]
      show Value.int .i64 e.k = _
      rw [hek]
    have hstay : (Instr.keyThatStays (.int .i64 k) (.int .i64 k)).run P w = .ok (.int .i64 k) w := by
      unfold Instr.keyThatStays
      have : Instr.sameBits 10000 (.int .i64 k) (.int .i64 k) = true := by
        show Instr.sameBits (9999 + 1) (.int .i64 k) (.int .i64 k) = true
        rw [Instr.sameBits]
        simp
      rw [if_pos this]
      rfl
    rw [← harr]
    unfold Instr.mapUpdate
    simp only [Sem.run_bind, run_underlying ht, Result.andThen_ok, run_getMap hE.heap, run_checkKey hk, hf, hold, hstay, Option.map_some]
    exact run_setMap _ hE.heap
theorem eraseIdx_map' {A B : Type} (f : A → B) : ∀ (l : List A) (i : Nat), (l.map f).eraseIdx i = (l.eraseIdx i).map f
  | [], _ => rfl
  | _ :: _, 0 => rfl
  | a :: l, i + 1 => by simp [List.eraseIdx, eraseIdx_map' f l i]
theorem MapM.delete (h : MapM enc w r L) (ht : P.underlying t = some (.map kt et)) (hk : P.underlying kt = some (.int .i64)) (k : Int) (ty : TypeId) :
    ∃ w', (Builtin.delete_ #[t, kt] ty #[.map (some r), .int .i64 k]).run P w = .ok (.tuple #[]) w' ∧ MapM enc w' r (delL L k) ∧ Chg (fun k => k = r) w w' ∧ w'.heap.size = w.heap.size := by
  obtain ⟨E, c, hE, hp, hs⟩ := h
  have hf := run_findKey (P := P) (kt := kt) (w := w) (enc := enc) (E := E) hk k
  have hfil : MapM enc (putM w r (.map ((E.filter fun e => e.k != k).map (Ent.val enc)).toArray c)) r (delL L k) := by
    refine ⟨E.filter fun e => e.k != k, c, ⟨putM_heap _ hE.lt_heap, hE.keys.filter _, hE.stamps.filter _, fun e he => hE.lt e ((List.mem_filter.1 he).1), fun e he => hE.wf e ((List.mem_filter.1 he).1)⟩, ?_, srt_delL hs k⟩
    have e1 : pairs (E.filter fun e => e.k != k) = (pairs E).filter fun p => p.1 != k := by
      unfold pairs
      rw [List.filter_map]
      rfl
    rw [e1]
    exact hp.filter _
  cases hi : idxE E k with
  | none =>
    rw [hi] at hf
    rw [filter_none hi] at hfil
    refine ⟨_, ?_, hfil, putM_chg _ _ _, putM_size _ _ _⟩
    simp [Builtin.delete_, run_underlying ht, run_getMap hE.heap, run_checkKey hk, hf, run_setMap _ hE.heap]
  | some p =>
    obtain ⟨i, v0⟩ := p
    rw [hi] at hf
    rw [← erase_idx hE.keys hi] at hfil
    refine ⟨_, ?_, hfil, putM_chg _ _ _, putM_size _ _ _⟩
    have harr : (E.map (Ent.val enc)).toArray.eraseIdxIfInBounds i = ((E.eraseIdx i).map (Ent.val enc)).toArray := by
      simp [eraseIdx_map']
    rw [← harr]
    simp [Builtin.delete_, run_underlying ht, run_getMap hE.heap, run_checkKey hk, hf, run_setMap _ hE.heap]
theorem MapM.clear (h : MapM enc w r L) (ht : P.underlying t = some (.map kt et)) (ty : TypeId) :
    ∃ w', (Builtin.clear_ #[t] ty #[.map (some r)]).run P w = .ok (.tuple #[]) w' ∧ MapM enc w' r [] ∧ Chg (fun k => k = r) w w' ∧ w'.heap.size = w.heap.size := by
  obtain ⟨E, c, hE, hp, hs⟩ := h
  refine ⟨putM w r (.map #[] c), ?_, ⟨[], c, ⟨putM_heap _ hE.lt_heap, .nil, .nil, (fun e he => by cases he), (fun e he => by cases he)⟩, .refl _, .nil⟩, putM_chg _ _ _, putM_size _ _ _⟩
  simp [Builtin.clear_, run_underlying ht, run_getMap hE.heap, run_setMap _ hE.heap]
end
end Go.Vc

set_option linter.unusedVariables false
namespace Go.Proofs.YtmoafafalnbkpaaGreatDoor
open Go.Vc Go.RowKit
def keysF : Int → List Bool → List (Int × Unit)
  | _, [] => []
  | i, b :: r => if b then (i, ()) :: keysF (i + 1) r else keysF (i + 1) r
/-- The stops as the program's map holds them. -/
def keysB (B : List Bool) : List (Int × Unit) := keysF 0 B
theorem mem_keysF : ∀ {B : List Bool} {i a : Int} {u : Unit}, (a, u) ∈ keysF i B ↔ ∃ j : Nat, a = i + j ∧ B[j]? = some true
  | [], i, a, u => by simp [keysF]
  | b :: r, i, a, u => by
    have ih := mem_keysF (B := r) (i := i + 1) (a := a) (u := u)
    have key : (∃ j : Nat, a = i + 1 + j ∧ r[j]? = some true) ↔ ∃ j : Nat, a = i + ((j + 1 : Nat) : Int) ∧ (b :: r)[j + 1]? = some true := by
      simp only [List.getElem?_cons_succ]
      constructor
      · rintro ⟨j, h, h'⟩; exact ⟨j, by omega, h'⟩
      · rintro ⟨j, h, h'⟩; exact ⟨j, by omega, h'⟩
    rw [keysF]
    cases b with
    | true =>
      rw [if_pos rfl, List.mem_cons, ih, key]
      constructor
      · rintro (h | ⟨j, h, h'⟩)
        · exact ⟨0, by cases h; simp, rfl⟩
        · exact ⟨j + 1, h, h'⟩
      · rintro ⟨j, h, h'⟩
        cases j with
        | zero => exact .inl (by rw [h]; simp)
        | succ j => exact .inr ⟨j, h, h'⟩
    | false =>
      rw [if_neg (by simp), ih, key]
      constructor
      · rintro ⟨j, h, h'⟩; exact ⟨j + 1, h, h'⟩
      · rintro ⟨j, h, h'⟩
        cases j with
        | zero => simp at h'
        | succ j => exact ⟨j, h, h'⟩
theorem srt_keysF : ∀ (B : List Bool) (i : Int), Srt (keysF i B)
  | [], i => .nil
  | b :: r, i => by
    rw [keysF]
    cases b with
    | true =>
      rw [if_pos rfl]
      refine List.pairwise_cons.2 ⟨fun p hp => ?_, srt_keysF r (i + 1)⟩
      obtain ⟨a, u⟩ := p
      obtain ⟨j, h, _⟩ := mem_keysF.1 hp
      show i < a
      omega
    | false => rw [if_neg (by simp)]; exact srt_keysF r (i + 1)
theorem mem_keysB {B : List Bool} {a : Int} {u : Unit} : (a, u) ∈ keysB B ↔ ∃ j : Nat, a = j ∧ B[j]? = some true := by
  unfold keysB
  rw [mem_keysF]
  simp
theorem srt_keysB (B : List Bool) : Srt (keysB B) := srt_keysF B 0
theorem srt_ext {L M : List (Int × Unit)} (h : Srt L) (h' : Srt M) (hm : ∀ a, (a, ()) ∈ L ↔ (a, ()) ∈ M) : L = M := by
  have hp : L.Perm M := (List.perm_ext_iff_of_nodup h.nodup h'.nodup).2 fun p => by obtain ⟨a, u⟩ := p; exact hm a
  refine hp.eq_of_pairwise (le := fun p q : Int × Unit => p.1 ≤ q.1) (fun a b _ _ h1 h2 => ?_) (h.imp fun h => Int.le_of_lt h) (h'.imp fun h => Int.le_of_lt h)
  obtain ⟨a, u⟩ := a
  obtain ⟨b, v⟩ := b
  have : a = b := Int.le_antisymm h1 h2
  subst this
  rfl
def isStop (B : List Bool) (k : Int) : Bool := decide (0 ≤ k) && ((B[k.toNat]?).getD false)
theorem isStop_iff {B : List Bool} {k : Int} : isStop B k = true ↔ ∃ j : Nat, k = j ∧ B[j]? = some true := by
  unfold isStop
  rw [Bool.and_eq_true, decide_eq_true_eq]
  constructor
  · rintro ⟨h0, h⟩
    refine ⟨k.toNat, by omega, ?_⟩
    cases hb : B[k.toNat]? with
    | none => rw [hb] at h; cases h
    | some b => rw [hb] at h; exact congrArg some h
  · rintro ⟨j, rfl, h⟩
    refine ⟨by omega, ?_⟩
    rw [show ((j : Int)).toNat = j by omega, h]
    rfl
theorem look_keys (B : List Bool) (k : Int) : (lookL (keysB B) k).isSome = isStop B k := by
  cases hl : lookL (keysB B) k with
  | some u =>
    have := mem_keysB.1 ((lookL_some (srt_keysB B)).1 hl)
    rw [isStop_iff.2 this]
    rfl
  | none =>
    cases hs : isStop B k with
    | false => rfl
    | true =>
      have := (lookL_some (srt_keysB B)).2 (mem_keysB.2 (isStop_iff.1 hs) : (k, ()) ∈ _)
      rw [this] at hl
      cases hl
theorem put_keys {B : List Bool} {k : Nat} (hk : k < B.length) : putL' (keysB B) (k : Int) () = keysB (B.set k true) := by
  refine srt_ext (srt_putL (srt_keysB B) _ _) (srt_keysB _) fun a => ?_
  rw [mem_putL (srt_keysB B), mem_keysB, mem_keysB]
  constructor
  · rintro (⟨rfl, _⟩ | ⟨hne, j, rfl, h⟩)
    · exact ⟨k, rfl, by simp [hk]⟩
    · exact ⟨j, rfl, by rw [List.getElem?_set_ne (fun e => hne (by rw [e]))]; exact h⟩
  · rintro ⟨j, rfl, h⟩
    by_cases e : k = j
    · exact .inl ⟨by rw [e], rfl⟩
    · rw [List.getElem?_set_ne e] at h
      exact .inr ⟨by omega, j, rfl, h⟩
theorem del_keys {B : List Bool} {k : Nat} : Go.Vc.delL (keysB B) (k : Int) = keysB (B.set k false) := by
  refine srt_ext (srt_delL (srt_keysB B) _) (srt_keysB _) fun a => ?_
  rw [mem_delL, mem_keysB, mem_keysB]
  constructor
  · rintro ⟨hne, j, rfl, h⟩
    exact ⟨j, rfl, by rw [List.getElem?_set_ne (fun e => hne (by rw [e]))]; exact h⟩
  · rintro ⟨j, rfl, h⟩
    by_cases e : k = j
    · subst e
      rw [List.getElem?_set] at h
      split at h
      · split at h
        · cases h
        · cases h
      · rename_i hh; exact absurd rfl hh
    · rw [List.getElem?_set_ne e] at h
      exact ⟨by omega, j, rfl, h⟩
theorem del_none {B : List Bool} {k : Int} (h : isStop B k = false) : Go.Vc.delL (keysB B) k = keysB B := by
  refine srt_ext (srt_delL (srt_keysB B) _) (srt_keysB _) fun a => ?_
  rw [mem_delL]
  constructor
  · rintro ⟨_, h⟩; exact h
  · intro h'
    refine ⟨fun e => ?_, h'⟩
    subst e
    rw [isStop_iff.2 (mem_keysB.1 h')] at h
    cases h
/-- What a new column is. -/
def dflt (j : Nat) : Bool := decide (0 < j) && decide (j % 8 = 0)
/-- n columns of B's, new ones behind. -/
def resz (B : List Bool) (n : Nat) : List Bool := (List.range n).map fun j => (B[j]?).getD (dflt j)
@[simp] theorem resz_length (B : List Bool) (n : Nat) : (resz B n).length = n := by simp [resz]
theorem resz_get {B : List Bool} {n j : Nat} : (resz B n)[j]? = if j < n then some ((B[j]?).getD (dflt j)) else none := by
  unfold resz
  rw [List.getElem?_map]
  by_cases h : j < n
  · rw [if_pos h, List.getElem?_range h]; rfl
  · rw [if_neg h, List.getElem?_eq_none (by simpa using h)]; rfl
theorem resz_self (B : List Bool) : resz B B.length = B := by
  refine List.ext_getElem? fun j => ?_
  rw [resz_get]
  split
  · rename_i h; rw [List.getElem?_eq_getElem h]; rfl
  · rename_i h; rw [List.getElem?_eq_none (by omega)]
theorem mem_resz {B : List Bool} {n : Nat} {a : Int} {u : Unit} : (a, u) ∈ keysB (resz B n) ↔ ∃ j : Nat, a = j ∧ j < n ∧ (B[j]?).getD (dflt j) = true := by
  rw [mem_keysB]
  constructor
  · rintro ⟨j, h, h'⟩
    rw [resz_get] at h'
    split at h'
    · rename_i hj; exact ⟨j, h, hj, by simpa using h'⟩
    · cases h'
  · rintro ⟨j, h, hj, h'⟩
    exact ⟨j, h, by rw [resz_get, if_pos hj, h']⟩
theorem resz_one {B : List Bool} (h : B.length ≤ 1) : keysB (resz B 1) = keysB B := by
  refine srt_ext (srt_keysB _) (srt_keysB _) fun a => ?_
  rw [mem_resz, mem_keysB]
  constructor
  · rintro ⟨j, rfl, hj, h'⟩
    obtain rfl : j = 0 := by omega
    refine ⟨0, rfl, ?_⟩
    cases hb : B[0]? with
    | none => rw [hb] at h'; cases h'
    | some b => rw [hb] at h'; exact congrArg some h'
  · rintro ⟨j, rfl, h'⟩
    have : j < B.length := (List.getElem?_eq_some_iff.1 h').1
    exact ⟨j, rfl, by omega, by rw [h']; rfl⟩
theorem resz_step {B : List Bool} {n : Nat} (h : B.length ≤ n) : (dflt n = true → putL' (keysB (resz B n)) (n : Int) () = keysB (resz B (n + 1))) ∧ (dflt n = false → keysB (resz B n) = keysB (resz B (n + 1))) := by
  have hn : B[n]? = none := List.getElem?_eq_none h
  constructor
  · intro hd
    refine srt_ext (srt_putL (srt_keysB _) _ _) (srt_keysB _) fun a => ?_
    rw [mem_putL (srt_keysB _), mem_resz, mem_resz]
    constructor
    · rintro (⟨rfl, _⟩ | ⟨hne, j, rfl, hj, h'⟩)
      · exact ⟨n, rfl, by omega, by rw [hn]; exact hd⟩
      · exact ⟨j, rfl, by omega, h'⟩
    · rintro ⟨j, rfl, hj, h'⟩
      by_cases e : j = n
      · exact .inl ⟨by rw [e], rfl⟩
      · exact .inr ⟨by omega, j, rfl, by omega, h'⟩
  · intro hd
    refine srt_ext (srt_keysB _) (srt_keysB _) fun a => ?_
    rw [mem_resz, mem_resz]
    constructor
    · rintro ⟨j, rfl, hj, h'⟩; exact ⟨j, rfl, by omega, h'⟩
    · rintro ⟨j, rfl, hj, h'⟩
      refine ⟨j, rfl, ?_, h'⟩
      have : j ≠ n := fun e => by subst e; rw [hn] at h'; rw [show (none : Option Bool).getD (dflt j) = dflt j from rfl, hd] at h'; cases h'
      omega
theorem resz_cut {B : List Bool} {n m : Nat} (h : n ≤ m) : (keysB (resz B m)).filter (fun p => decide (p.1 < (n : Int))) = keysB (resz B n) := by
  refine srt_ext ((srt_keysB _).filter _) (srt_keysB _) fun a => ?_
  rw [List.mem_filter, mem_resz, mem_resz]
  constructor
  · rintro ⟨⟨j, rfl, hj, h'⟩, hlt⟩
    have := of_decide_eq_true hlt
    exact ⟨j, rfl, by simp at this; omega, h'⟩
  · rintro ⟨j, rfl, hj, h'⟩
    exact ⟨⟨j, rfl, by omega, h'⟩, by simp; omega⟩
/-! ### The answers -/
def keysI (B : List Bool) : List Int := (keysB B).map (·.1)
def nearB (B : List Bool) (col : Int) : Int := min (max col 0) ((B.length : Int) - 1)
def inB (B : List Bool) (col : Int) : Bool := decide (0 ≤ col) && decide (col < B.length)
/-- The n-th behind a column, among these columns; else d. -/
def nth (ks : List Int) (n d : Int) : Int := (ks[(n - 1).toNat]?).getD d
def nextB (B : List Bool) (col n : Int) : Int := if n < 1 ∨ inB B col = false then nearB B col else nth ((keysI B).filter fun k => decide (col < k)) n ((B.length : Int) - 1)
def backB (B : List Bool) (col n : Int) : Int := if n < 1 ∨ inB B col = false then nearB B col else nth ((keysI B).reverse.filter fun k => decide (k < col)) n 0
/-- The program's way: one after the other. -/
def scan (p : Int → Bool) (d : Int) : List Int → Int → Int
  | [], _ => d
  | k :: r, n => if p k then (if n = 1 then k else scan p d r (n - 1)) else scan p d r n
theorem scan_nth (p : Int → Bool) (d : Int) : ∀ (ks : List Int) (n : Int), 1 ≤ n → scan p d ks n = nth (ks.filter p) n d
  | [], n, h => by simp [scan, nth]
  | k :: r, n, h => by
    rw [scan, List.filter_cons]
    split
    · split
      · rename_i e; subst e; simp [nth]
      · rename_i e
        rw [scan_nth p d r (n - 1) (by omega)]
        unfold nth
        rw [show (n - 1).toNat = (n - 1 - 1).toNat + 1 by omega, List.getElem?_cons_succ]
    · exact scan_nth p d r n h
/-! ### One behind the other is n at once -/
theorem ncond {B : List Bool} {c n : Int} (h : 1 ≤ n) (h' : inB B c = true) : ¬(n < 1 ∨ inB B c = false) := fun hh => hh.elim (fun e => by omega) fun e => by rw [h'] at e; cases e
theorem next_eq {B : List Bool} {c n : Int} (h : 1 ≤ n) (h' : inB B c = true) : nextB B c n = nth ((keysI B).filter fun k => decide (c < k)) n ((B.length : Int) - 1) := if_neg (ncond h h')
theorem back_eq {B : List Bool} {c n : Int} (h : 1 ≤ n) (h' : inB B c = true) : backB B c n = nth ((keysI B).reverse.filter fun k => decide (k < c)) n 0 := if_neg (ncond h h')
end Go.Proofs.YtmoafafalnbkpaaGreatDoor

set_option maxRecDepth 100000
set_option linter.unusedVariables false
namespace Go.Proofs
open Go.RowKit Go.Maps Go.Sort Go.Shelf Go.Vc
def Tryz.keysA_ren : Go.Shelf.Ren := ⟨fun | 7 => 142 | 10 => 171 | n => n, fun | 23 => 81 | 26 => 3 | 3 => 4 | 28 => 192 | 0 => 0 | 27 => 191 | 33 => 95 | 4 => 4 | n => n, fun | n => n⟩
theorem Tryz.keysA : Go.Proofs.SlLaysZI.n7 Tryz.prog Tryz.keysA_ren := {
  mixed := by kernel_rfl
  f7 := ⟨Tryz.f142.name, by decide, Tryz.func142.trans (congrArg some (by kernel_rfl))⟩
  f10 := ⟨Tryz.f171.name, by decide, Tryz.func171.trans (congrArg some (by kernel_rfl))⟩
  t0 := Tryz.underlying0
  a0 := Tryz.isAgg0
  z0 := Tryz.sizeOf0
  v0 := Tryz.zeroValue0
  t4 := Tryz.underlying4
  a4 := Tryz.isAgg4
  z4 := Tryz.sizeOf4
  v4 := Tryz.zeroValue4
  t23 := Tryz.underlying81
  a23 := Tryz.isAgg81
  z23 := Tryz.sizeOf81
  v23 := Tryz.zeroValue81
  t26 := Tryz.underlying3
  a26 := Tryz.isAgg3
  z26 := Tryz.sizeOf3
  v26 := Tryz.zeroValue3
  t27 := Tryz.underlying191
  a27 := Tryz.isAgg191
  z27 := Tryz.sizeOf191
  v27 := Tryz.zeroValue191
  t28 := Tryz.underlying192
  a28 := Tryz.isAgg192
  z28 := Tryz.sizeOf192
  v28 := Tryz.zeroValue192
  t33 := Tryz.underlying95
  a33 := Tryz.isAgg95
  z33 := Tryz.sizeOf95
  v33 := Tryz.zeroValue95 }
def Tryz.sortedA_ren : Go.Shelf.Ren := ⟨fun | 6 => 141 | 8 => 169 | 9 => 170 | 11 => 185 | 13 => 187 | 12 => 186 | 23 => 210 | 24 => 191 | 14 => 201 | 15 => 202 | 16 => 203 | 17 => 204 | 18 => 205 | 19 => 206 | 20 => 207 | 21 => 208 | 22 => 209 | 25 => 214 | 26 => 215 | 27 => 216 | 28 => 217 | 29 => 218 | 30 => 219 | 31 => 221 | n => n, fun | 26 => 3 | 28 => 192 | 24 => 32 | 0 => 0 | 3 => 3 | 37 => 226 | 48 => 236 | 50 => 221 | 4 => 4 | 40 => 242 | 39 => 241 | 45 => 246 | 5 => 5 | 9 => 9 | 51 => 253 | 55 => 206 | 57 => 260 | 58 => 54 | 33 => 95 | n => n, fun | n => n⟩
theorem Tryz.sortedA : Go.Proofs.SlLaysZI.n6 Tryz.prog Tryz.sortedA_ren := {
  mixed := by kernel_rfl
  f6 := ⟨Tryz.f141.name, by decide, Tryz.func141.trans (congrArg some (by kernel_rfl))⟩
  f8 := ⟨Tryz.f169.name, by decide, Tryz.func169.trans (congrArg some (by kernel_rfl))⟩
  f11 := ⟨Tryz.f185.name, by decide, Tryz.func185.trans (congrArg some (by kernel_rfl))⟩
  t0 := Tryz.underlying0
  a0 := Tryz.isAgg0
  z0 := Tryz.sizeOf0
  v0 := Tryz.zeroValue0
  t24 := Tryz.underlying32
  a24 := Tryz.isAgg32
  z24 := Tryz.sizeOf32
  v24 := Tryz.zeroValue32
  t26 := Tryz.underlying3
  a26 := Tryz.isAgg3
  z26 := Tryz.sizeOf3
  v26 := Tryz.zeroValue3
  t28 := Tryz.underlying192
  a28 := Tryz.isAgg192
  z28 := Tryz.sizeOf192
  v28 := Tryz.zeroValue192
  i26 := by kernel_rfl }
def Tryz.sortA_ren : Go.Shelf.Ren := ⟨fun | 5 => 170 | 8 => 187 | 7 => 186 | 19 => 210 | 20 => 191 | 10 => 201 | 11 => 202 | 12 => 203 | 13 => 204 | 14 => 205 | 15 => 206 | 16 => 207 | 17 => 208 | 18 => 209 | 30 => 214 | 31 => 215 | 32 => 216 | 33 => 217 | 34 => 218 | 35 => 219 | 40 => 221 | n => n, fun | 23 => 32 | 25 => 3 | 3 => 3 | 32 => 226 | 22 => 32 | 0 => 0 | 44 => 236 | 46 => 221 | 4 => 4 | 36 => 242 | 35 => 241 | 41 => 246 | 5 => 5 | 9 => 9 | 53 => 253 | 57 => 206 | 63 => 260 | 64 => 54 | n => n, fun | n => n⟩
theorem Tryz.sortA : Go.Proofs.SlLaysM.n5 Tryz.prog Tryz.sortA_ren := {
  mixed := by kernel_rfl
  f5 := ⟨Tryz.f170.name, by decide, Tryz.func170.trans (congrArg some (by kernel_rfl))⟩
  f7 := ⟨Tryz.f186.name, by decide, Tryz.func186.trans (congrArg some (by kernel_rfl))⟩
  f8 := Tryz.func187.trans (congrArg some (by kernel_rfl))
  f10 := ⟨Tryz.f201.name, by decide, Tryz.func201.trans (congrArg some (by kernel_rfl))⟩
  f11 := ⟨Tryz.f202.name, by decide, Tryz.func202.trans (congrArg some (by kernel_rfl))⟩
  f12 := ⟨Tryz.f203.name, by decide, Tryz.func203.trans (congrArg some (by kernel_rfl))⟩
  f13 := ⟨Tryz.f204.name, by decide, Tryz.func204.trans (congrArg some (by kernel_rfl))⟩
  f14 := ⟨Tryz.f205.name, by decide, Tryz.func205.trans (congrArg some (by kernel_rfl))⟩
  f15 := ⟨Tryz.f206.name, by decide, Tryz.func206.trans (congrArg some (by kernel_rfl))⟩
  f16 := ⟨Tryz.f207.name, by decide, Tryz.func207.trans (congrArg some (by kernel_rfl))⟩
  f17 := ⟨Tryz.f208.name, by decide, Tryz.func208.trans (congrArg some (by kernel_rfl))⟩
  f18 := ⟨Tryz.f209.name, by decide, Tryz.func209.trans (congrArg some (by kernel_rfl))⟩
  f19 := Tryz.func210.trans (congrArg some (by kernel_rfl))
  f20 := Tryz.func191.trans (congrArg some (by kernel_rfl))
  f30 := ⟨Tryz.f214.name, by decide, Tryz.func214.trans (congrArg some (by kernel_rfl))⟩
  f31 := Tryz.func215.trans (congrArg some (by kernel_rfl))
  f32 := Tryz.func216.trans (congrArg some (by kernel_rfl))
  f33 := ⟨Tryz.f217.name, by decide, Tryz.func217.trans (congrArg some (by kernel_rfl))⟩
  f34 := ⟨Tryz.f218.name, by decide, Tryz.func218.trans (congrArg some (by kernel_rfl))⟩
  f35 := ⟨Tryz.f219.name, by decide, Tryz.func219.trans (congrArg some (by kernel_rfl))⟩
  f40 := ⟨Tryz.f221.name, by decide, Tryz.func221.trans (congrArg some (by kernel_rfl))⟩
  t0 := Tryz.underlying0
  a0 := Tryz.isAgg0
  z0 := Tryz.sizeOf0
  v0 := Tryz.zeroValue0
  t3 := Tryz.underlying3
  a3 := Tryz.isAgg3
  z3 := Tryz.sizeOf3
  v3 := Tryz.zeroValue3
  t4 := Tryz.underlying4
  a4 := Tryz.isAgg4
  z4 := Tryz.sizeOf4
  v4 := Tryz.zeroValue4
  t5 := Tryz.underlying5
  a5 := Tryz.isAgg5
  z5 := Tryz.sizeOf5
  v5 := Tryz.zeroValue5
  t9 := Tryz.underlying9
  a9 := Tryz.isAgg9
  z9 := Tryz.sizeOf9
  v9 := Tryz.zeroValue9
  t22 := Tryz.underlying32
  a22 := Tryz.isAgg32
  z22 := Tryz.sizeOf32
  v22 := Tryz.zeroValue32
  t23 := Tryz.underlying32
  a23 := Tryz.isAgg32
  z23 := Tryz.sizeOf32
  v23 := Tryz.zeroValue32
  t25 := Tryz.underlying3
  a25 := Tryz.isAgg3
  z25 := Tryz.sizeOf3
  v25 := Tryz.zeroValue3
  t32 := Tryz.underlying226
  a32 := Tryz.isAgg226
  z32 := Tryz.sizeOf226
  v32 := Tryz.zeroValue226
  t35 := Tryz.underlying241
  a35 := Tryz.isAgg241
  z35 := Tryz.sizeOf241
  v35 := Tryz.zeroValue241
  t36 := Tryz.underlying242
  a36 := Tryz.isAgg242
  z36 := Tryz.sizeOf242
  v36 := Tryz.zeroValue242
  t41 := Tryz.underlying246
  a41 := Tryz.isAgg246
  z41 := Tryz.sizeOf246
  v41 := Tryz.zeroValue246
  t44 := Tryz.underlying236
  a44 := Tryz.isAgg236
  z44 := Tryz.sizeOf236
  v44 := Tryz.zeroValue236
  t46 := Tryz.underlying221
  a46 := Tryz.isAgg221
  z46 := Tryz.sizeOf221
  v46 := Tryz.zeroValue221
  t53 := Tryz.underlying253
  a53 := Tryz.isAgg253
  z53 := Tryz.sizeOf253
  v53 := Tryz.zeroValue253
  t57 := Tryz.underlying206
  a57 := Tryz.isAgg206
  z57 := Tryz.sizeOf206
  v57 := Tryz.zeroValue206
  t63 := Tryz.underlying260
  a63 := Tryz.isAgg260
  z63 := Tryz.sizeOf260
  v63 := Tryz.zeroValue260
  t64 := Tryz.underlying54
  a64 := Tryz.isAgg54
  z64 := Tryz.sizeOf54
  v64 := Tryz.zeroValue54 }
theorem Tryz.sortsA (m : Nat) : AnyZI.SortsIn Tryz.prog Tryz.sortedA_ren Fence.wide m :=
  ⟨fun blk off cap ss W hH hblk hsz => callsIn_wide.2 (AnyM.slices_Sort_int Tryz.sortA blk off cap ss W hH hblk hsz),
   fun p cap W => callsIn_wide.2 (AnyM.slices_Sort_int_none Tryz.sortA p cap W)⟩

namespace YtmoafafalnbkpaaGreatDoor
section
variable {V : Type} {enc : V → Value} {w : World} {r : Nat} {L : List (Int × V)}
/-- A map as the kit reads it: the keys alone. -/
def noRead : Value → Option (DataW Unit × List MemPlace) := fun _ => some (.nil, [])
theorem rd_ent {c : Nat} {E : List (Ent V)} (hE : MapE enc w r E c) {e : Ent V} (he : e ∈ E) : WideElems.rd Tryz.prog 3 noRead (Ent.val enc e) = some (.int .i64 e.k, .nil) := by
  have h1 := keyOf_int_mk (P := Tryz.prog) (k := 3) (q := .i64) Tryz.underlying3 (a := e.k) (by
    have := hE.wf e he
    simp [Lit.wf, IntKind.min, IntKind.max, IntKind.signed, IntKind.bits]
    omega)
  unfold WideElems.rd
  show (keyOf Tryz.prog 3 (.int .i64 e.k)).bind _ = _
  rw [h1]
  rfl
theorem owns_of {c : Nat} {E : List (Ent V)} (hE : MapE enc w r E c) (hl : E.length ≤ maxLen) :
    ∃ D0 : DataW Unit, w.ownsMap Tryz.prog 3 noRead r E.length D0 ∧ Maps.size D0 = E.length ∧ (intKeys D0).Perm (E.map (·.k)) := by
  have hmap : (E.map (Ent.val enc)).map (WideElems.rg Tryz.prog 3 noRead) = E.map fun e => (Lit.int .i64 e.k, (.nil : DataW Unit)) := by
    rw [List.map_map]
    refine List.map_congr_left fun e he => ?_
    show (WideElems.rd Tryz.prog 3 noRead (Ent.val enc e)).getD _ = _
    rw [rd_ent hE he]
    rfl
  refine ⟨_, ⟨_, c, hE.heap, ⟨by simpa using hl, ⟨?_, ?_, ?_⟩, ?_⟩, by simp, rfl⟩, ?_, ?_⟩
  · intro x hx
    obtain ⟨e, he, rfl⟩ := List.mem_map.1 hx
    exact hE.lt e he
  · rw [List.toList_toArray, List.map_map]
    exact List.pairwise_map.2 (hE.stamps.imp fun {a b} h (e : a.b = b.b) => by rw [e] at h; exact Nat.lt_irrefl _ h)
  · rw [List.toList_toArray, List.map_map]
    exact List.pairwise_map.2 (hE.keys.imp fun {a b} h (e : Value.int .i64 a.k = .int .i64 b.k) => h (by injection e))
  · intro x hx
    obtain ⟨e, he, rfl⟩ := List.mem_map.1 hx
    exact ⟨_, rd_ent hE he⟩
  · show (List.foldr DataW.insert [] _).length = _
    rw [List.toList_toArray, hmap, (Go.WideShapes.sorted_perm _).length_eq, List.length_map]
  · show (List.map (fun p : Lit × DataW Unit => Go.intOf p.fst) (List.foldr DataW.insert [] _)).Perm _
    rw [List.toList_toArray, hmap]
    refine ((Go.WideShapes.sorted_perm _).map _).trans ?_
    rw [List.map_map]
    exact .refl _
theorem keys_give (hM : MapM enc w r L) (hl : L.length ≤ maxLen) {B : Nat} (hB : w.cell? ⟨B, 0, none⟩ = some (.map (some r))) (n : Nat) (hn : 1 ≤ n) :
    SeqGives Fence.wide n Tryz.prog 171 #[.pointer (some ⟨B, 0, none⟩)] encZ (fun ss => ss.Perm (L.map (·.1))) L.length w := by
  obtain ⟨E, c, hE, hp, hs⟩ := hM
  have hlen := mapE_size hp
  obtain ⟨D0, hD, hsz, hpk⟩ := owns_of hE (by omega)
  have hBl : B < w.heap.size := by
    unfold World.cell? at hB
    cases h : w.heap[B]? with
    | none => rw [h] at hB; cases hB
    | some o => exact (Array.getElem?_eq_some_iff.1 h).1
  have h := AnyZI.keys_gives (ρ := Tryz.keysA_ren) { Tryz.keysA with } Fence.wide n trivial rfl hn B r E.length D0 w hBl hB hD
  rw [hsz, hlen] at h
  have hpp : (E.map (·.k)).Perm (L.map (·.1)) := by
    have := hp.map (·.1)
    unfold pairs at this
    rwa [List.map_map] at this
  intro l J W hW hJ hY h0
  refine (h l J W hW hJ hY h0).mono ?_
  rintro e W' ⟨hv, xs, hxs, hJx⟩
  exact ⟨hv, xs, (hxs.trans hpk).trans hpp, hJx⟩
theorem Keys_spec {m : Option Nat} {w : World} {K : Value → World → Prop}
    (hK : K (.func (.func 171) #[] #[.pointer (some ⟨w.heap.size, 0, none⟩)]) (w.alloc (.cells #[.map m] 81))) : c_maps_Keys_map_int_bool_int_bool m w K := by
  have h := callsIn_wide.1 (AnyZI.keys_in Tryz.keysA Fence.wide 5 trivial rfl m w)
  refine Calls.mono (R := fun e w' => e = .returned (.func (.func 171) #[] #[.pointer (some ⟨w.heap.size, 0, none⟩)]) ∧ w' = w.alloc (.cells #[.map m] 81)) h ?_
  rintro e w' ⟨rfl, rfl⟩
  exact ⟨_, rfl, hK⟩
theorem srt_keys {ss : List Int} (hs : Srt L) (hp : ss.Perm (L.map (·.1))) : ss.mergeSort (fun x y => decide (x ≤ y)) = L.map (·.1) := by
  have h1 : (ss.mergeSort fun x y => decide (x ≤ y)).Pairwise fun x y => x ≤ y := by
    have := List.pairwise_mergeSort (le := fun x y : Int => decide (x ≤ y)) (fun a b c h1 h2 => by simp only [decide_eq_true_eq] at *; omega) (fun a b => by simp only [Bool.or_eq_true, decide_eq_true_eq]; omega) ss
    exact this.imp fun h => by simpa using h
  have h2 : (L.map (·.1)).Pairwise fun x y => x ≤ y := List.pairwise_map.2 (hs.imp fun h => Int.le_of_lt h)
  exact ((List.mergeSort_perm ss _).trans hp).eq_of_pairwise (fun a b _ _ h1 h2 => Int.le_antisymm h1 h2) h1 h2
theorem flat_int : ∀ xs : List Int, flat E_int xs = xs.map encZ
  | [] => rfl
  | x :: xs => by
    have ih := flat_int xs
    unfold flat at ih ⊢
    rw [List.flatMap_cons, ih, List.map_cons]
    rfl
theorem own_of_row {w : World} {base : Nat} {v : Value} {xs : List Int} (h : w.ownsRow base 3 1 v xs.length (xs.map encZ)) : ∃ q : Slc, v = .slice q.a q.n q.c ∧ Go.Vc.Own E_int w base q xs := by
  have hf := flat_int xs
  have hv : ∃ q : Slc, v = .slice q.a q.n q.c := by
    rcases h.2 with ⟨rfl, _⟩ | ⟨g, cap, cur, rfl, _⟩
    · exact ⟨⟨none, 0, 0⟩, rfl⟩
    · exact ⟨⟨_, _, _⟩, rfl⟩
  obtain ⟨q, rfl⟩ := hv
  refine ⟨q, rfl, ?_⟩
  unfold Go.Vc.Own
  rw [hf]
  exact h
theorem Sorted_spec {B : Nat} {K : Slc → World → Prop} (hM : MapM enc w r L) (hl : L.length ≤ 1000000) (hB : w.cell? ⟨B, 0, none⟩ = some (.map (some r)))
    (hK : ∀ q w', Go.Vc.Own E_int w' w.heap.size q (L.map (·.1)) → Below w.heap.size w w' → K q w') : c_slices_Sorted_int (.func (.func 171) #[] #[.pointer (some ⟨B, 0, none⟩)]) w K := by
  have h := callsIn_wide.1 (AnyZI.sorted_in Tryz.sortedA Fence.wide 5 trivial trivial trivial trivial rfl (by omega) (Tryz.sortsA _) (enters_of Tryz.func170 (by kernel_rfl) rfl) 171 #[.pointer (some ⟨B, 0, none⟩)] trivial (enters_of Tryz.func171 (by kernel_rfl) rfl) _ L.length (by unfold maxLen; omega) (by omega) w (keys_give hM (by unfold maxLen; omega) hB 2 (by omega)))
  refine Calls.mono h ?_
  rintro e w' ⟨v, ss, rfl, hS, hrow, _, hb⟩
  rw [srt_keys hM.srt hS] at hrow
  rw [show ss.length = (L.map (·.1)).length from hS.length_eq] at hrow
  obtain ⟨q, rfl, hq⟩ := own_of_row hrow
  exact ⟨q, rfl, hK q w' hq hb⟩
end
end YtmoafafalnbkpaaGreatDoor
end Go.Proofs

set_option linter.unusedVariables false
namespace Go.Proofs.YtmoafafalnbkpaaGreatDoor
open Go.Vc Go.RowKit
set_option maxRecDepth 100000
def encT : Unit → Value := fun _ => .bool true
/-- The stops at g, with their map at r. -/
structure StopsM (w : World) (g r : Nat) (B : List Bool) : Prop where
  blk : Blk w g ty_tabs_Stops [.int .i64 (B.length : Int), .map (some r)]
  map : MapM encT w r (keysB B)
theorem tmapT : PG.underlying ty_map_int_bool = some (.map ty_int ty_bool) := by kernel_rfl
theorem tintT : PG.underlying ty_int = some (.int .i64) := by kernel_rfl
theorem zboolT : ∀ w, (zeroValue ty_bool).run PG w = .ok (.bool false) w := Tryz.zeroValue4
theorem onPtr_some' {a : Addr} {K : Addr → Prop} (h : K a) : onPtr (some a) K := h
theorem i64_of {x : Int} (h : -9223372036854775808 ≤ x ∧ x ≤ 9223372036854775807) : IntKind.i64.wrap x = x := wrap64_id h

section
variable {w w' : World} {g r : Nat} {B : List Bool}
theorem StopsM.keep {Sx : Nat → Prop} (h : StopsM w g r B) (hc : Chg Sx w w') (hg : ¬ Sx g) (hr : ¬ Sx r) : StopsM w' g r B := ⟨h.blk.chg hc hg, h.map.chg hc hr⟩
theorem StopsM.ext (h : StopsM w g r B) (hb : Below w.heap.size w w') : StopsM w' g r B := ⟨h.blk.ext hb, h.map.ext hb⟩
theorem StopsM.ne (h : StopsM w g r B) : r ≠ g := h.map.ne_blk h.blk
theorem keys_le (B : List Bool) : (keysB B).length ≤ B.length := by
  unfold keysB
  have : ∀ (B : List Bool) (i : Int), (keysF i B).length ≤ B.length := by
    intro B
    induction B with
    | nil => intro i; simp [keysF]
    | cons b r ih =>
      intro i
      rw [keysF]
      have := ih (i + 1)
      split <;> simp <;> omega
  exact this B 0
theorem tis_spec (h : StopsM w g r B) (col : Int) {K : Bool → World → Prop} (hK : K (inB B col) w) : c_tabs_Stops_is (some ⟨g, 0, none⟩) col w K := by
  refine call_tabs_Stops_is _ _ ?_
  unfold sh_tabs_Stops_is
  unfold inB at hK
  refine cond_of (fun h0 => ?_) fun h0 => ?_
  · refine onPtr_some' (ldI_of (x := (B.length : Int)) (h.blk.cells 0 _ rfl) ?_)
    rw [show decide (0 ≤ col) = true from h0] at hK
    exact hK
  · rw [show decide (0 ≤ col) = false from h0] at hK
    exact hK
theorem tnear_spec (h : StopsM w g r B) (hl : B.length ≤ 1000) (col : Int) {K : Int → World → Prop} (hK : K (nearB B col) w) : c_tabs_Stops_near (some ⟨g, 0, none⟩) col w K := by
  refine call_tabs_Stops_near _ _ ?_
  unfold sh_tabs_Stops_near
  refine onPtr_some' (ldI_of (x := (B.length : Int)) (h.blk.cells 0 _ rfl) ?_)
  rw [i64_of (by omega)]
  have e : (if (B.length : Int) - 1 < (if (0 : Int) > col then (0 : Int) else col) then (B.length : Int) - 1 else (if (0 : Int) > col then (0 : Int) else col)) = nearB B col := by
    unfold nearB
    split <;> split at * <;> omega
  rw [e]
  exact hK
theorem tAll_spec (h : StopsM w g r B) (hl : B.length ≤ 1000) {K : Slc → World → Prop}
    (hK : ∀ q w', Go.Vc.Own E_int w' w.heap.size q (keysI B) → Below w.heap.size w w' → K q w') : c_tabs_Stops_All (some ⟨g, 0, none⟩) w K := by
  refine call_tabs_Stops_All _ ?_
  unfold sh_tabs_Stops_All
  refine onPtr_some' (ldM_of (x := some r) (h.blk.cells 1 _ rfl) (Keys_spec ?_))
  have hB : Below w.heap.size w (w.alloc (.cells #[.map (some r)] 81)) := (Below.refl _ w).alloc (Nat.le_refl _) _
  have hs : (w.alloc (.cells #[.map (some r)] 81)).heap.size = w.heap.size + 1 := by show (w.heap.push _).size = _; simp
  have hb : Blk (w.alloc (.cells #[.map (some r)] 81)) w.heap.size 81 [.map (some r)] := Blk.new w 81 [.map (some r)]
  have := keys_le B
  refine Sorted_spec (h.map.ext hB) (by omega) (hb.cell 0 rfl) fun q w' hq hB' => ?_
  exact hK q w' (hq.base (by omega)) (hB.trans (hB'.mono (by omega)))
def setB (B : List Bool) (col : Int) (b : Bool) : List Bool := if inB B col then B.set col.toNat b else B
@[simp] theorem setB_length (B : List Bool) (col : Int) (b : Bool) : (setB B col b).length = B.length := by unfold setB; split <;> simp
theorem inB_nat {col : Int} (h : inB B col = true) : ∃ k : Nat, col = k ∧ k < B.length := by
  unfold inB at h
  simp at h
  exact ⟨col.toNat, by omega, by omega⟩
theorem isStop_in {col : Int} (h : inB B col = false) : isStop B col = false := by
  cases hs : isStop B col with
  | false => rfl
  | true =>
    obtain ⟨j, rfl, hj⟩ := isStop_iff.1 hs
    have := (List.getElem?_eq_some_iff.1 hj).1
    unfold inB at h
    simp at h
    omega
theorem StopsM.put (h : StopsM w g r B) (B' : List Bool) (hl : B'.length = B.length) (hc : Chg (fun k => k = r) w w') (hm : MapM encT w' r (keysB B')) : StopsM w' g r B' :=
  ⟨by rw [hl]; exact h.blk.chg hc (fun e => h.ne e.symm), hm⟩
theorem update_spec {L : List (Int × Unit)} (h : MapM encT w r L) {col : Int} (hc : -9223372036854775808 ≤ col ∧ col ≤ 9223372036854775807) {K : Option Value → World → Prop}
    (hK : ∀ w', MapM encT w' r (putL' L col ()) → Chg (fun k => k = r) w w' → w'.heap.size = w.heap.size → K none w') : runU PG (Instr.mapUpdate ty_map_int_bool (.map (some r)) (.int .i64 col) (.bool true)) w K := by
  obtain ⟨w', h1, h2, h3, h4⟩ := h.update tmapT tintT hc ()
  exact ⟨w', h1, hK w' h2 h3 h4⟩
theorem delete_spec {L : List (Int × Unit)} (h : MapM encT w r L) (col : Int) {K : Value → World → Prop}
    (hK : ∀ v w', MapM encT w' r (Go.Vc.delL L col) → Chg (fun k => k = r) w w' → w'.heap.size = w.heap.size → K v w') : runK1 PG (Builtin.delete_ #[ty_map_int_bool, ty_int] ty_unit #[(.map (some r)), (.int .i64 col)]) Kind.raw w K := by
  obtain ⟨w', h1, h2, h3, h4⟩ := h.delete tmapT tintT col ty_unit
  exact ⟨.tuple #[], w', h1, hK _ w' h2 h3 h4⟩
theorem tSet_spec (h : StopsM w g r B) (hl : B.length ≤ 1000) (col : Int) {K : Bool → World → Prop}
    (hK : ∀ w', StopsM w' g r (setB B col true) → Chg (fun k => k = r) w w' → w'.heap.size = w.heap.size → K (inB B col) w') : c_tabs_Stops_Set (some ⟨g, 0, none⟩) col w K := by
  refine call_tabs_Stops_Set _ _ ?_
  unfold sh_tabs_Stops_Set
  refine joinP_of fun J hJ => ?_
  refine tis_spec h col ?_
  refine cond_of (fun hi => ?_) fun hi => ?_
  · obtain ⟨k, rfl, hk⟩ := inB_nat hi
    refine onPtr_some' (ldM_of (x := some r) (h.blk.cells 1 _ rfl) (update_spec h.map (by omega) fun w' hm hc hs => hJ _ _ ?_))
    have e : setB B k true = B.set k true := by unfold setB; rw [if_pos hi, Int.toNat_natCast]
    have h' : StopsM w' g r (setB B k true) := h.put _ (by simp) hc (by rw [e, ← put_keys hk]; exact hm)
    refine tis_spec h' k ?_
    have e2 : inB (setB B k true) k = inB B k := by unfold inB; rw [setB_length]
    rw [e2]
    exact hK w' h' hc hs
  · refine hJ _ _ (tis_spec h col (hK w ?_ (Chg.refl _ _) rfl))
    unfold setB
    rw [if_neg (by rw [hi]; simp)]
    exact h
theorem tClear_spec (h : StopsM w g r B) (col : Int) {K : Bool → World → Prop}
    (hK : ∀ w', StopsM w' g r (setB B col false) → Chg (fun k => k = r) w w' → w'.heap.size = w.heap.size → K (isStop B col) w') : c_tabs_Stops_Clear (some ⟨g, 0, none⟩) col w K := by
  refine call_tabs_Stops_Clear _ _ ?_
  unfold sh_tabs_Stops_Clear
  refine onPtr_some' (ldM_of (x := some r) (h.blk.cells 1 _ rfl) ?_)
  refine ⟨isStop B col, w, ?_, ?_⟩
  · rw [h.map.lookup tmapT tintT zboolT col, ← look_keys]
    cases lookL (keysB B) col <;> rfl
  · refine onPtr_some' (ldM_of (x := some r) (h.blk.cells 1 _ rfl) (delete_spec h.map col fun v w' hm hc hs => hK w' ?_ hc hs))
    refine h.put _ (by simp) hc ?_
    unfold setB
    by_cases hi : inB B col = true
    · obtain ⟨k, rfl, hk⟩ := inB_nat hi
      rw [if_pos hi, Int.toNat_natCast, ← del_keys]
      exact hm
    · rw [if_neg hi, ← del_none (isStop_in (by simpa using hi))]
      exact hm
theorem keys_none (n : Nat) : keysB (List.replicate n false) = [] := by
  cases h : keysB (List.replicate n false) with
  | nil => rfl
  | cons p L =>
    obtain ⟨a, u⟩ := p
    have hm : (a, u) ∈ keysB (List.replicate n false) := by rw [h]; exact List.mem_cons_self
    obtain ⟨j, _, hj⟩ := mem_keysB.1 hm
    rw [List.getElem?_replicate] at hj
    split at hj <;> simp at hj
theorem tNone_spec (h : StopsM w g r B) {K : World → Prop}
    (hK : ∀ w', StopsM w' g r (List.replicate B.length false) → Chg (fun k => k = r) w w' → w'.heap.size = w.heap.size → K w') : c_tabs_Stops_None (some ⟨g, 0, none⟩) w K := by
  refine call_tabs_Stops_None _ ?_
  unfold sh_tabs_Stops_None
  refine onPtr_some' (ldM_of (x := some r) (h.blk.cells 1 _ rfl) ?_)
  obtain ⟨w', h1, h2, h3, h4⟩ := h.map.clear tmapT ty_unit
  exact ⟨.tuple #[], w', h1, hK w' (h.put _ (by simp) h3 (by rw [keys_none]; exact h2)) h3 h4⟩
theorem tNext_spec (h : StopsM w g r B) (hl : 1 ≤ B.length ∧ B.length ≤ 1000) (col n : Int) (hnm : n ≤ 9223372036854775807) {K : Int → World → Prop}
    (hK : ∀ w', Below w.heap.size w w' → K (nextB B col n) w') : c_tabs_Stops_Next (some ⟨g, 0, none⟩) col n w K := by
  refine call_tabs_Stops_Next _ _ _ ?_
  unfold sh_tabs_Stops_Next
  refine joinP_of fun J1 hJ1 => ?_
  refine joinP_of fun J3 hJ3 => ?_
  have hnear : (n < 1 ∨ inB B col = false) → J3 (true, ()) w := fun hc => hJ3 _ _ (cond_t rfl (tnear_spec h hl.2 col (by have := hK w (Below.refl _ _); unfold nextB at this; rwa [if_pos hc] at this)))
  refine cond_of (fun hn => hnear (.inl (of_decide_eq_true hn))) fun hn => ?_
  have hn := of_decide_eq_false hn
  refine tis_spec h col ?_
  cases hi : inB B col with
  | false => exact hnear (.inr hi)
  | true =>
    refine hJ3 _ _ (cond_f rfl (hJ1 _ _ ?_))
    refine tAll_spec h hl.2 fun q w1 hq hB1 => ?_
    have hK1 := hK w1 hB1
    rw [next_eq (by omega) hi, ← scan_nth _ _ _ _ (by omega)] at hK1
    have hkl := keys_le B
    have hlen : (keysI B).length = (keysB B).length := by simp [keysI]
    refine loopP_rule (fun (s : Int × Int × Unit) w2 => w2 = w1 ∧ ∃ k : Nat, s.2.1 = k ∧ k ≤ (keysI B).length ∧ 1 ≤ s.1 ∧ s.1 ≤ n ∧ scan (fun k => decide (col < k)) ((B.length : Int) - 1) (keysI B) n = scan (fun k => decide (col < k)) ((B.length : Int) - 1) ((keysI B).drop k) s.1)
      (fun s => (keysI B).length - s.2.1.toNat) ⟨rfl, 0, rfl, Nat.zero_le _, by show 1 ≤ n; omega, Int.le_refl _, rfl⟩ ?_
    rintro ⟨m, i, u⟩ _ ⟨rfl, k, hki, hk, hm1, hmn, hsc⟩ I hI
    dsimp only at hki hm1 hmn hsc ⊢
    subst hki
    have hqn := hq.rd.n
    by_cases hlt : k < (keysI B).length
    · refine cond_t (by simp; omega) ?_
      refine hq.rd.ix (k := 1) rfl (by omega) (by omega) fun hcell => ?_
      obtain ⟨x, hx, hx'⟩ := Go.Vc.get_of hlt
      rw [hx' _] at hcell
      refine ldI_of (x := x) (by simpa using hcell 0 _ rfl) ?_
      have hd : (keysI B).drop k = x :: (keysI B).drop (k + 1) := by rw [List.drop_eq_getElem_cons hlt]; congr 1; exact hx' hlt
      rw [hd, scan] at hsc
      rw [i64_of (x := (k : Int) + 1) (by omega), i64_of (x := m - 1) (by omega)]
      refine cond_of (fun hle => ?_) fun hle => ?_
      · have hle := of_decide_eq_true hle
        rw [if_neg (by simp; omega)] at hsc
        exact hI _ _ ⟨rfl, k + 1, by simp, by omega, hm1, hmn, hsc⟩ (by simp; omega)
      · have hle := of_decide_eq_false hle
        rw [if_pos (by simp; omega)] at hsc
        refine cond_of (fun hz => ?_) fun hz => ?_
        · have hz : m - 1 = 0 := by simpa using hz
          rw [if_pos (by omega)] at hsc
          rw [hsc] at hK1
          exact hK1
        · have hz : ¬ m - 1 = 0 := by simpa using hz
          rw [if_neg (by omega)] at hsc
          exact hI _ _ ⟨rfl, k + 1, by simp, by omega, by show 1 ≤ m - 1; omega, by show m - 1 ≤ n; omega, hsc⟩ (by simp; omega)
    · refine cond_f (by simp; omega) ?_
      rw [List.drop_of_length_le (by omega), scan] at hsc
      rw [hsc] at hK1
      refine onPtr_some' (ldI_of (x := (B.length : Int)) ((h.ext hB1).blk.cells 0 _ rfl) ?_)
      rw [i64_of (by omega)]
      exact hK1
end
end Go.Proofs.YtmoafafalnbkpaaGreatDoor

set_option linter.unusedVariables false
namespace Go.Proofs.YtmoafafalnbkpaaGreatDoor
open Go.Vc Go.RowKit
set_option maxRecDepth 100000
section
variable {w w' : World} {g r : Nat} {B : List Bool}
theorem All_gen {x : Int} {L : List (Int × Unit)} (hb : Blk w g ty_tabs_Stops [.int .i64 x, .map (some r)]) (hm : MapM encT w r L) (hl : L.length ≤ 1000) {K : Slc → World → Prop}
    (hK : ∀ q w', Go.Vc.Own E_int w' w.heap.size q (L.map (·.1)) → Below w.heap.size w w' → K q w') : c_tabs_Stops_All (some ⟨g, 0, none⟩) w K := by
  refine call_tabs_Stops_All _ ?_
  unfold sh_tabs_Stops_All
  refine onPtr_some' (ldM_of (x := some r) (hb.cells 1 _ rfl) (Keys_spec ?_))
  have hB : Below w.heap.size w (w.alloc (.cells #[.map (some r)] 81)) := (Below.refl _ w).alloc (Nat.le_refl _) _
  have hs : (w.alloc (.cells #[.map (some r)] 81)).heap.size = w.heap.size + 1 := by show (w.heap.push _).size = _; simp
  have hb : Blk (w.alloc (.cells #[.map (some r)] 81)) w.heap.size 81 [.map (some r)] := Blk.new w 81 [.map (some r)]
  refine Sorted_spec (hm.ext hB) (by omega) (hb.cell 0 rfl) fun q w' hq hB' => ?_
  exact hK q w' (hq.base (by omega)) (hB.trans (hB'.mono (by omega)))
theorem dflt_eq {m : Nat} (h : 1 ≤ m) : ((m : Int).tmod 8 == 0) = dflt m := by
  unfold dflt
  rw [show ((m : Int).tmod 8) = ((m % 8 : Nat) : Int) by rw [Int.ofNat_tmod]; rfl]
  rw [decide_eq_true (by omega), Bool.true_and]
  by_cases e : m % 8 = 0
  · rw [e]; rfl
  · rw [decide_eq_false e]
    simp
    omega
theorem tResize_spec (h : StopsM w g r B) (hl : B.length ≤ 1000) (cols : Int) {K : Int → World → Prop} (hE : (cols < 1 ∨ 1000 < cols) → K 1 w)
    (hK : ∀ w', 1 ≤ cols → cols ≤ 1000 → StopsM w' g r (resz B cols.toNat) → Chg (fun k => k = g ∨ k = r) w w' → K 0 w') : c_tabs_Stops_Resize (some ⟨g, 0, none⟩) cols w K := by
  refine call_tabs_Stops_Resize _ _ ?_
  unfold sh_tabs_Stops_Resize
  refine joinP_of fun J hJ => ?_
  refine cond_of (fun h1 => hE (.inl (of_decide_eq_true h1))) fun h1 => ?_
  refine cond_of (fun h2 => hE (.inr (of_decide_eq_true h2))) fun h2 => ?_
  have h1 := of_decide_eq_false h1
  have h2 := of_decide_eq_false h2
  obtain ⟨n, rfl⟩ : ∃ n : Nat, cols = n := ⟨cols.toNat, by omega⟩
  rw [Int.toNat_natCast] at hK
  refine hJ _ _ ?_
  refine onPtr_some' (ldI_of (x := (B.length : Int)) (h.blk.cells 0 _ rfl) ?_)
  -- new columns
  refine loopP_rule (fun (s : Int × Unit) w2 => ∃ m : Nat, s.1 = m ∧ 1 ≤ m ∧ B.length ≤ m ∧ (m ≤ n ∨ m ≤ B.length ∨ m = 1) ∧ Blk w2 g ty_tabs_Stops [.int .i64 (B.length : Int), .map (some r)] ∧ MapM encT w2 r (keysB (resz B m)) ∧ Chg (fun k => k = r) w w2)
    (fun s => n - s.1.toNat) ?_ ?_
  · have hm0 : ∃ m : Nat, (if (1 : Int) > (B.length : Int) then (1 : Int) else (B.length : Int)) = m ∧ 1 ≤ m ∧ B.length ≤ m ∧ (m ≤ B.length ∨ m = 1) ∧ keysB (resz B m) = keysB B := by
      split
      · exact ⟨1, rfl, Nat.le_refl _, by omega, .inr rfl, resz_one (by omega)⟩
      · exact ⟨B.length, rfl, by omega, Nat.le_refl _, .inl (Nat.le_refl _), by rw [resz_self]⟩
    obtain ⟨m, e, hm1, hm2, hm3, hm4⟩ := hm0
    exact ⟨m, e, hm1, hm2, .inr hm3, h.blk, by rw [hm4]; exact h.map, Chg.refl _ _⟩
  rintro ⟨i, u⟩ w2 ⟨m, hi, hm1, hm2, hm3, hb2, hmp2, hc2⟩ I hI
  dsimp only at hi ⊢
  subst hi
  have hne := hmp2.ne_blk hb2
  by_cases hlt : m < n
  · refine cond_t (by simp; omega) ⟨by decide, ?_⟩
    rw [dflt_eq hm1, i64_of (by omega)]
    refine cond_of (fun hd => ?_) fun hd => ?_
    · refine onPtr_some' (ldM_of (x := some r) (hb2.cells 1 _ rfl) (update_spec hmp2 (by omega) fun w3 hm hc hs => hI _ _ ⟨m + 1, by simp, by omega, by omega, .inl (by omega), hb2.chg hc (fun e => hne e.symm), ?_, hc2.trans hc fun i _ hi => hi⟩ (by simp; omega)))
      rw [← (resz_step hm2).1 hd]
      exact hm
    · refine hI _ _ ⟨m + 1, by simp, by omega, by omega, .inl (by omega), hb2, ?_, hc2⟩ (by simp; omega)
      rw [← (resz_step hm2).2 hd]
      exact hmp2
  · refine cond_f (by simp; omega) ?_
    have hmle : (keysB (resz B m)).length ≤ 1000 := by
      have := keys_le (resz B m)
      rw [resz_length] at this
      omega
    refine All_gen hb2 hmp2 hmle fun q w4 hq hB4 => ?_
    obtain ⟨P, hP⟩ : ∃ P, keysB (resz B m) = P := ⟨_, rfl⟩
    have hsP : Srt P := by rw [← hP]; exact srt_keysB _
    rw [hP] at hmp2 hq hmle
    have hcut : P.filter (fun p => decide (p.1 < (n : Int))) = keysB (resz B n) := by rw [← hP]; exact resz_cut (by omega)
    have hqn := hq.rd.n
    rw [List.length_map] at hqn
    have hlt2 := hb2.lt
    have hlr := hmp2.lt
    refine loopP_rule (fun (s : Int × Unit) w5 => ∃ k : Nat, s.1 = k ∧ k ≤ P.length ∧ Blk w5 g ty_tabs_Stops [.int .i64 (B.length : Int), .map (some r)] ∧ Go.Vc.Own E_int w5 w2.heap.size q (P.map (·.1)) ∧ Chg (fun k => k = r) w2 w5 ∧
        ∃ L, MapM encT w5 r L ∧ ∀ a, (a, ()) ∈ L ↔ (a, ()) ∈ P ∧ (a < n ∨ a ∉ (P.map (·.1)).take k))
      (fun s => P.length - s.1.toNat) ⟨0, rfl, Nat.zero_le _, hb2.ext hB4, hq, Chg.of_ext hB4, P, hmp2.ext hB4, fun a => by simp⟩ ?_
    rintro ⟨i, u⟩ w5 ⟨k, hi, hk, hb5, hq5, hc5, L, hL, hmem⟩ I2 hI2
    dsimp only at hi ⊢
    subst hi
    have hne5 := hL.ne_blk hb5
    by_cases hlk : k < P.length
    · refine cond_t (by simp; omega) ?_
      refine hq5.rd.ix (k := 1) rfl (by omega) (by simp; omega) fun hcell => ?_
      obtain ⟨x, hx, hx'⟩ := Go.Vc.get_of (xs := P.map (·.1)) (k := k) (by simpa using hlk)
      rw [hx' _] at hcell
      refine ldI_of (x := x) (by simpa using hcell 0 _ rfl) ?_
      have htk : (P.map (·.1)).take (k + 1) = (P.map (·.1)).take k ++ [x] := by rw [List.take_add_one, hx]; rfl
      rw [i64_of (by omega)]
      refine cond_of (fun hge => ?_) fun hge => ?_
      · have hge := of_decide_eq_true hge
        refine onPtr_some' (ldM_of (x := some r) (hb5.cells 1 _ rfl) (delete_spec hL x fun v w6 hm6 hc6 hs6 => hI2 _ _ ⟨k + 1, by simp, by omega, hb5.chg hc6 (fun e => hne5 e.symm), hq5.chg hc6 (fun j hj e => ?_), hc5.trans hc6 fun i _ hi => hi, _, hm6, fun a => ?_⟩ (by simp; omega)))
        · have := (hq5.lt j hj).1
          omega
        · rw [mem_delL, hmem a, htk, List.mem_append, List.mem_singleton]
          constructor
          · rintro ⟨hne, hp, ho⟩
            exact ⟨hp, ho.imp id fun ho hh => hh.elim ho hne⟩
          · rintro ⟨hp, ho⟩
            refine ⟨fun e => ?_, hp, ho.imp id fun ho hh => ho (.inl hh)⟩
            rcases ho with ho | ho
            · omega
            · exact ho (.inr e)
      · have hge := of_decide_eq_false hge
        refine hI2 _ _ ⟨k + 1, by simp, by omega, hb5, hq5, hc5, L, hL, fun a => ?_⟩ (by simp; omega)
        rw [hmem a, htk, List.mem_append, List.mem_singleton]
        constructor
        · rintro ⟨hp, ho⟩
          refine ⟨hp, ?_⟩
          by_cases e : a = x
          · exact .inl (by omega)
          · exact ho.imp id fun ho hh => hh.elim ho e
        · rintro ⟨hp, ho⟩
          exact ⟨hp, ho.imp id fun ho hh => ho (.inl hh)⟩
    · refine cond_f (by simp; omega) (onPtr_some' ?_)
      rw [add_zero]
      refine stK_blk hb5 (by simp) fun w7 hb7 hg7 hs7 => ?_
      have hL' : L = keysB (resz B n) := by
        rw [← hcut]
        refine srt_ext hL.srt (hsP.filter _) fun a => ?_
        rw [hmem a, List.mem_filter, List.take_of_length_le (by simp; omega)]
        constructor
        · rintro ⟨hp, ho⟩
          refine ⟨hp, ?_⟩
          rcases ho with ho | ho
          · simpa using ho
          · exact absurd (List.mem_map.2 ⟨_, hp, rfl⟩) ho
        · rintro ⟨hp, ho⟩
          exact ⟨hp, .inl (by simpa using ho)⟩
      rw [hL'] at hL
      refine hK w7 (by omega) (by omega) ⟨by rw [resz_length]; exact hb7, hL.chg (Go.Vc.Chg.gg hg7) hne5⟩ ?_
      exact ((chg_one hc2 (S := fun k => k = g ∨ k = r) (.inr rfl)).trans (chg_one hc5 (S := fun k => k = g ∨ k = r) (.inr rfl)) fun i _ hi => hi).trans (chg_one (Go.Vc.Chg.gg hg7) (S := fun k => k = g ∨ k = r) (.inl rfl)) fun i _ hi => hi
theorem tNew_spec (cols : Int) {w : World} {K : Option Addr → Int → World → Prop} (hE : ∀ w', Below w.heap.size w w' → (cols < 1 ∨ 1000 < cols) → K none 1 w')
    (hK : ∀ g r w', 1 ≤ cols → cols ≤ 1000 → w.heap.size ≤ g → w.heap.size ≤ r → StopsM w' g r (resz [] cols.toNat) → Below w.heap.size w w' → K (some ⟨g, 0, none⟩) 0 w') : c_tabs_New cols w K := by
  refine call_tabs_New _ ?_
  unfold sh_tabs_New nwM
  have hB1 : Below w.heap.size w (w.alloc (.map #[] 0)) := (Below.refl _ w).alloc (Nat.le_refl _) _
  have hs1 : (w.alloc (.map #[] 0)).heap.size = w.heap.size + 1 := by show (w.heap.push _).size = _; simp
  refine nw_blk fun w2 hb2 hB2 hs2 => ?_
  have h2 : StopsM w2 (w.alloc (.map #[] 0)).heap.size w.heap.size [] := ⟨hb2, (MapM.new w).ext hB2⟩
  have hB12 := hB1.trans (hB2.mono (by omega))
  refine tResize_spec h2 (by simp) cols (fun hc => cond_t rfl (hE w2 hB12 hc)) fun w3 h1 h2' h3 hc3 => cond_f rfl ?_
  refine hK _ _ w3 h1 h2' (by omega) (Nat.le_refl _) h3 (hB12.trans (hc3.below (by omega) fun i hi e => ?_))
  rcases e with e | e <;> omega
end
end Go.Proofs.YtmoafafalnbkpaaGreatDoor

set_option linter.unusedVariables false
namespace Go.Proofs.YtmoafafalnbkpaaGreatDoor
open Go.RowKit Go.Shelf
attribute [local go_sem] Oper.semAt_some
def upto {α : Type} (f : Nat → α) (k : Nat) : List α := (List.range k).map f
theorem upto_succ {α : Type} (f : Nat → α) (k : Nat) : upto f (k + 1) = upto f k ++ [f k] := by simp [upto, List.range_succ]
theorem upto_length {α : Type} (f : Nat → α) (k : Nat) : (upto f k).length = k := by simp [upto]
/-- What comes k-th, from the end. -/
def bkf (zs : List Int) (len k : Nat) : Int × Int := ((len : Int) - 1 - k, zs[len - 1 - k]?.getD 0)

/-- These two blocks are as they were. -/
structure Kp2 (Bs b : Nat) (A B : World) : Prop where
  h1 : B.heap[Bs]? = A.heap[Bs]?
  h2 : B.heap[b]? = A.heap[b]?
theorem Kp2.refl (Bs b : Nat) (A : World) : Kp2 Bs b A A := ⟨rfl, rfl⟩
theorem Kp2.trans {Bs b : Nat} {A B C : World} (h : Kp2 Bs b A B) (k : Kp2 Bs b B C) : Kp2 Bs b A C := ⟨k.h1.trans h.h1, k.h2.trans h.h2⟩
theorem Kp2.box {Bs b : Nat} {A B : World} (h : Kp2 Bs b A B) : B.cell? ⟨Bs, 0, none⟩ = A.cell? ⟨Bs, 0, none⟩ := World.cell?_of_block h.h1
theorem Kp2.row {Bs b : Nat} {A B : World} (h : Kp2 Bs b A B) (i : Nat) : B.cell? ⟨b, i, none⟩ = A.cell? ⟨b, i, none⟩ := World.cell?_of_block h.h2
theorem Kp2.below {Bs b : Nat} {A B : World} (h : Below A.heap.size A B) (h1 : Bs < A.heap.size) (h2 : b < A.heap.size) : Kp2 Bs b A B := ⟨h.block _ h1, h.block _ h2⟩
set_option maxRecDepth 100000 in
set_option maxHeartbeats 2000000 in
theorem back1_in (F : Fence) (n : Nat) (h27 : F.fn 195) (hro : F.round = none) (hn : 1 ≤ n) (l Bs b off len cap : Nat) (zs : List Int) (hreach : len ≤ 1000000) (J Jx : List (Int × Int) → World → Prop)
    (hY : ∀ pre x W, J pre W → pre.length < len → YieldAt F (n - 1) Tryz.prog l #[.int .i64 x.1, .int .i64 x.2] W fun e W' =>
      (e = .returned (.bool true) ∧ J (pre ++ [x]) W' ∧ Kp2 Bs b W W') ∨ (e = .returned (.bool false) ∧ Jx (pre ++ [x]) W'))
    (W : World) (hBs : W.cell? ⟨Bs, 0, none⟩ = some (.slice (some ⟨b, off, none⟩) len cap)) (hc : ∀ j, j < len → W.cell? ⟨b, off + j, none⟩ = some (.int .i64 (zs[j]?.getD 0))) (h0 : J [] W) :
    CallsIn F n Tryz.prog 195 #[.func (.yield l) #[] #[], .pointer (some ⟨Bs, 0, none⟩)] W fun e W' => (∃ v, e = .returned v) ∧
      ((∃ ys, ys = upto (bkf zs len) len ∧ J ys W') ∨ (∃ pre, (∃ k, k ≤ len ∧ pre = upto (bkf zs len) k) ∧ Jx pre W')) := by
  refine callsIn_of_wp Tryz.func195 rfl h27 ?_ hro
  simp only [Tryz.ntmps195, List.size_toArray, List.length_cons, List.length_nil, Nat.reduceAdd, Nat.reduceSub, Array.replicate_succ, Array.replicate_zero, List.push_toArray, List.append_toArray, List.nil_append, List.cons_append]
  gi_wp2
  gi_loopw [3] (fun i wr => ∃ k : Nat, k ≤ len ∧ i = .int .i64 ((len : Int) - 1 - k) ∧ J (upto (bkf zs len) k) wr ∧ Kp2 Bs b W wr)
    (fun i _ => (intOf i + 1).toNat)
  case atStart => exact ⟨0, Nat.zero_le _, by simp, h0, Kp2.refl _ _ _⟩
  case round =>
    obtain ⟨k, hk, rfl, hJs, hnx⟩ := hrel
    have hcx : k < len → wr.cell? ⟨b, off + (len - 1 - k), none⟩ = some (.int .i64 (zs[len - 1 - k]?.getD 0)) := fun h => (hnx.row (off + (len - 1 - k))).trans (hc _ (by omega))
    have hbx : wr.cell? ⟨Bs, 0, none⟩ = some (.slice (some ⟨b, off, none⟩) len cap) := hnx.box.trans hBs
    by_cases hlt : k < len
    · obtain ⟨m, hm⟩ : ∃ m : Nat, len - 1 - k = m := ⟨_, rfl⟩
      have hmi : (len : Int) - 1 - k = (m : Int) := by omega
      obtain ⟨fn, tmps, assign, body, hy, hR⟩ := hY _ ((m : Int), zs[m]?.getD 0) wr hJs (by rw [upto_length]; exact hlt)
      dsimp only at hy
      have hcx' := hcx hlt
      rw [hm] at hcx'
      have hml : m < len := by omega
      rw [hmi]
      have hfx : bkf zs len k = ((m : Int), zs[m]?.getD 0) := by unfold bkf; rw [hm, hmi]
      gi_wp2
      refine hR.mono ?_
      rintro e W3 (⟨rfl, hJ3, hk3⟩ | ⟨rfl, hJx3⟩)
      · gi_wp2
        go_roundw
        case rel => exact ⟨k + 1, by omega, by congr 1; omega, by rw [upto_succ, hfx]; exact hJ3, hnx.trans hk3⟩
        case measure => simp [intOf]
      · gi_wp2
        refine bodyPost_ret (results_none rfl _ _ _) rfl ?_
        exact ⟨⟨_, rfl⟩, .inr ⟨_, ⟨k + 1, by omega, by rw [upto_succ, hfx]⟩, hJx3⟩⟩
    · obtain rfl : k = len := by omega
      have e1 : (k : Int) - 1 - k = -1 := by omega
      rw [e1]
      gi_wp2
      go_end0
      exact ⟨⟨_, rfl⟩, .inl ⟨_, rfl, hJs⟩⟩

set_option maxRecDepth 100000 in
set_option maxHeartbeats 1000000 in
theorem back1_nil_in (F : Fence) (n : Nat) (h27 : F.fn 195) (hro : F.round = none) (l Bs : Nat) (J : List (Int × Int) → World → Prop) (W : World) (hBs : W.cell? ⟨Bs, 0, none⟩ = some (.slice none 0 0)) (h0 : J [] W) :
    CallsIn F n Tryz.prog 195 #[.func (.yield l) #[] #[], .pointer (some ⟨Bs, 0, none⟩)] W fun e W' => (∃ v, e = .returned v) ∧ J [] W' := by
  refine callsIn_of_wp Tryz.func195 rfl h27 ?_ hro
  simp only [Tryz.ntmps195, List.size_toArray, List.length_cons, List.length_nil, Nat.reduceAdd, Nat.reduceSub, Array.replicate_succ, Array.replicate_zero, List.push_toArray, List.append_toArray, List.nil_append, List.cons_append]
  gi_wp2
  gi_loopw [3] (fun i wr => i = .int .i64 (-1) ∧ J [] wr) (fun _ _ => 0)
  case atStart => exact ⟨rfl, h0⟩
  case round =>
    obtain ⟨rfl, hJs⟩ := hrel
    gi_wp2
    go_end0
    exact ⟨⟨_, rfl⟩, hJs⟩
set_option maxHeartbeats 1000000 in
theorem backward_in (F : Fence) (n : Nat) (h23 : F.fn 181) (hro : F.round = none) (a : Option Addr) (len cap : Nat) (w : World) :
    CallsIn F n Tryz.prog 181 #[.slice a len cap] w fun e w' => e = .returned (.func (.func 195) #[] #[.pointer (some ⟨w.heap.size, 0, none⟩)]) ∧ w' = w.alloc (.cells #[.slice a len cap] 32) := by
  refine callsIn_of_wp Tryz.func181 rfl h23 ?_ hro
  simp only [Tryz.ntmps181, List.size_toArray, List.length_cons, List.length_nil, Nat.reduceAdd, Nat.reduceSub, Array.replicate_succ, Array.replicate_zero, List.push_toArray, List.append_toArray, List.nil_append, List.cons_append]
  gi_wp2
  go_ret
  exact ⟨rfl, rfl⟩
/-- The slice value sv holds the ints zs, in the block b; or it is nil and there are none. -/
def Ints (b : Nat) (W : World) (sv : Value) (zs : List Int) : Prop :=
  (sv = .slice none 0 0 ∧ zs = []) ∨ ∃ off cap, sv = .slice (some ⟨b, off, none⟩) zs.length cap ∧ ∀ j, j < zs.length → W.cell? ⟨b, off + j, none⟩ = some (.int .i64 (zs[j]?.getD 0))
theorem Ints.keep {Bs b : Nat} {A B : World} (h : Kp2 Bs b A B) {sv : Value} {zs : List Int} : Ints b A sv zs → Ints b B sv zs
  | .inl e => .inl e
  | .inr ⟨off, cap, e, hc⟩ => .inr ⟨off, cap, e, fun j hj => (h.row _).trans (hc j hj)⟩
theorem back_stops (F : Fence) (n : Nat) (h27 : F.fn 195) (hro : F.round = none) (hn : 1 ≤ n) (Bs b : Nat) (sv : Value) (zs : List Int) (hreach : zs.length ≤ 1000000) (w : World) (hBs : Bs < w.heap.size) (hb : b < w.heap.size)
    (hc : w.cell? ⟨Bs, 0, none⟩ = some sv) (hI : Ints b w sv zs) :
    SeqStopsK F n Tryz.prog 195 #[.pointer (some ⟨Bs, 0, none⟩)] (fun x : Int × Int => #[Value.int .i64 x.1, Value.int .i64 x.2]) (Kp2 Bs b) (fun ys => ys = upto (bkf zs zs.length) zs.length)
      (fun pre => ∃ k, k ≤ zs.length ∧ pre = upto (bkf zs zs.length) k) zs.length w := fun l J Jx W hW _ _ hY h0 => by
  have hk := Kp2.below hW hBs hb
  have hc' := hk.box.trans hc
  rcases hI.keep hk with ⟨rfl, rfl⟩ | ⟨off, cap, rfl, hcs⟩
  · exact (back1_nil_in F n h27 hro l Bs J W hc' h0).mono fun e W' ⟨he, hj⟩ => ⟨he, .inl ⟨_, rfl, hj⟩⟩
  · exact back1_in F n h27 hro hn l Bs b off zs.length cap zs hreach J Jx hY W hc' hcs h0
end Go.Proofs.YtmoafafalnbkpaaGreatDoor

set_option linter.unusedVariables false
namespace Go.Proofs.YtmoafafalnbkpaaGreatDoor
open Go.Vc Go.RowKit Go.Shelf
set_option maxRecDepth 100000
attribute [local go_sem] Oper.semAt_some
theorem scan_app (p : Int → Bool) (d : Int) {n n' : Int} {pre : List Int} {x : Int} (h : ∀ rest, scan p d (pre ++ rest) n = scan p d rest n') :
    (p x = false → ∀ rest, scan p d ((pre ++ [x]) ++ rest) n = scan p d rest n') ∧ (p x = true → n' = 1 → ∀ rest, scan p d ((pre ++ [x]) ++ rest) n = x) ∧ (p x = true → n' ≠ 1 → ∀ rest, scan p d ((pre ++ [x]) ++ rest) n = scan p d rest (n' - 1)) := by
  refine ⟨fun hp rest => ?_, fun hp hn rest => ?_, fun hp hn rest => ?_⟩ <;> rw [List.append_assoc, h, List.singleton_append, scan, hp]
  · rfl
  · rw [if_pos rfl, if_pos hn]
  · rw [if_pos rfl, if_neg hn]
theorem upto_back (zs : List Int) : ∀ k, k ≤ zs.length → (upto (bkf zs zs.length) k).map (·.2) = zs.reverse.take k
  | 0, _ => rfl
  | k + 1, hk => by
    rw [upto_succ, List.map_append, upto_back zs k (by omega), List.take_add_one]
    congr 1
    rw [List.getElem?_reverse (by omega)]
    unfold bkf
    rw [List.getElem?_eq_getElem (by omega)]
    rfl
section
variable {w w' : World} {g r : Nat} {B : List Bool}
/-- What stays true of the loop's own variables. -/
def BkI (w : World) (col n : Int) (pre : List (Int × Int)) (W : World) : Prop :=
  Below w.heap.size w W ∧ Boxed W w.heap.size 3 (.int .i64 col) ∧ (∃ n', Boxed W (w.heap.size + 1) 3 (.int .i64 n') ∧ 1 ≤ n' ∧ n' ≤ n ∧ ∀ rest, scan (fun k => decide (k < col)) 0 (pre.map (·.2) ++ rest) n = scan (fun k => decide (k < col)) 0 rest n') ∧
    ∃ v, Boxed W (w.heap.size + 1 + 1) 3 (.int .i64 v)
def BkX (w : World) (col n : Int) (c : Code) (pre : List (Int × Int)) (W : World) : Prop :=
  c = .ret ∧ Below w.heap.size w W ∧ ∃ v, Boxed W (w.heap.size + 1 + 1) 3 (.int .i64 v) ∧ ∀ rest, scan (fun k => decide (k < col)) 0 (pre.map (·.2) ++ rest) n = v
theorem bkI_own (w : World) (col n : Int) {b : Nat} (hb : w.heap.size + 1 + 1 < b) : OwnFrom b (BkI w col n) := by
  rintro pre W W' row ⟨h1, h2, ⟨n', h3, h4⟩, v, h5⟩ hg hr
  have hne : ∀ k, k < b → some k ≠ row := fun k hk e => by have := (hr k e.symm).1; omega
  exact ⟨h1.grown hg h1.size fun k e => by have := (hr k e).1; omega, h2.kept hg (hne _ (by omega)), ⟨n', h3.kept hg (hne _ (by omega)), h4⟩, v, h5.kept hg (hne _ hb)⟩
theorem bkX_own (w : World) (col n : Int) (c : Code) {b : Nat} (hb : w.heap.size + 1 + 1 < b) : OwnFrom b (BkX w col n c) := by
  rintro pre W W' row ⟨h0, h1, v, h5, h6⟩ hg hr
  have hne : ∀ k, k < b → some k ≠ row := fun k hk e => by have := (hr k e.symm).1; omega
  exact ⟨h0, h1.grown hg h1.size fun k e => by have := (hr k e).1; omega, v, h5.kept hg (hne _ hb), h6⟩
theorem leaves9 {n : Nat} {tmps : Array Value} {R : Ending → World → Prop} {W : World} {br : Nat} {v : Int} (hres : tmps[6]?.getD undef = .pointer (some ⟨br, 0, none⟩)) (hc : W.cell? ⟨br, 0, none⟩ = some (.int .i64 v)) (hR : R (.returned (.int .i64 v)) W) :
    LeavesIn Fence.wide n Tryz.prog Tryz.f163 tmps R [] .returning W := by
  refine ⟨.int .i64 v, ?_, hR⟩
  simp [results, Tryz.f163, go_sem, hres, hc]
theorem keeps_set {W : World} {b : Nat} {v : Value} : KeepsOthers W (W.setCell ⟨b, 0, none⟩ v) := KeepsOthers.setCell _ _ _
theorem kp2_set {Bs b k : Nat} {W : World} {v : Value} (h1 : Bs ≠ k) (h2 : b ≠ k) : Kp2 Bs b W (W.setCell ⟨k, 0, none⟩ v) := ⟨Below.heap_setCell W ⟨k, 0, none⟩ v Bs h1, Below.heap_setCell W ⟨k, 0, none⟩ v b h2⟩
theorem below_set {w W : World} {k : Nat} {v : Value} (h : Below w.heap.size w W) (hk : w.heap.size ≤ k) : Below w.heap.size w (W.setCell ⟨k, 0, none⟩ v) := h.setCell (p := ⟨k, 0, none⟩) hk v
theorem boxed_other {W : World} {k k' : Nat} {t : TypeId} {v u : Value} (h : Boxed W k t v) (hne : k ≠ k') : Boxed (W.setCell ⟨k', 0, none⟩ u) k t v := (Below.heap_setCell W ⟨k', 0, none⟩ u k hne).trans h
set_option maxHeartbeats 8000000 in
theorem Back_in (h : StopsM w g r B) (hl : 1 ≤ B.length ∧ B.length ≤ 1000) (col n : Int) (hnm : n ≤ 9223372036854775807) :
    CallsIn Fence.wide 9 Tryz.prog 163 #[.pointer (some ⟨g, 0, none⟩), .int .i64 col, .int .i64 n] w fun e w' => e = .returned (.int .i64 (backB B col n)) ∧ Below w.heap.size w w' := by
  refine callsIn_of_wp_marks Tryz.func163 rfl trivial ?_ rfl
  simp only [Tryz.ntmps163, List.size_toArray, List.length_cons, List.length_nil, Nat.reduceAdd, Nat.reduceSub, Array.replicate_succ, Array.replicate_zero, List.push_toArray, List.append_toArray, List.nil_append, List.cons_append]
  have hB3 : Below w.heap.size w (((w.alloc (.cells #[.int .i64 col] 3)).alloc (.cells #[.int .i64 n] 3)).alloc (.cells #[.int .i64 0] 3)) := (((Below.refl _ w).alloc (Nat.le_refl _) _).alloc (by simp) _).alloc (by simp; omega) _
  have h3 := h.ext hB3
  have his := fun m => (callsIn_wide (n := m)).2 (tis_spec h3 col (K := fun b w' => b = inB B col ∧ w' = _) ⟨rfl, rfl⟩)
  have hnear := fun m => (callsIn_wide (n := m)).2 (tnear_spec h3 hl.2 col (K := fun b w' => b = nearB B col ∧ w' = _) ⟨rfl, rfl⟩)
  have hAll := fun m => (callsIn_wide (n := m)).2 (tAll_spec h3 hl.2 (K := fun q w' => Go.Vc.Own E_int w' (w.heap.size + 1 + 1 + 1) q (keysI B) ∧ Below (w.heap.size + 1 + 1 + 1) _ w') (fun q w' hq hB => ⟨by simpa using hq, by simpa using hB⟩))
  have c0 : Boxed (((w.alloc (.cells #[.int .i64 col] 3)).alloc (.cells #[.int .i64 n] 3)).alloc (.cells #[.int .i64 0] 3)) w.heap.size 3 (.int .i64 col) := ((Boxed.new w 3 (.int .i64 col)).alloc _).alloc _
  have c1 : Boxed (((w.alloc (.cells #[.int .i64 col] 3)).alloc (.cells #[.int .i64 n] 3)).alloc (.cells #[.int .i64 0] 3)) (w.heap.size + 1) 3 (.int .i64 n) := by
    have := Boxed.new (w.alloc (.cells #[.int .i64 col] 3)) 3 (.int .i64 n)
    rw [World.size_alloc] at this
    exact this.alloc _
  have c2 : Boxed (((w.alloc (.cells #[.int .i64 col] 3)).alloc (.cells #[.int .i64 n] 3)).alloc (.cells #[.int .i64 0] 3)) (w.heap.size + 1 + 1) 3 (.int .i64 0) := by
    have := Boxed.new ((w.alloc (.cells #[.int .i64 col] 3)).alloc (.cells #[.int .i64 n] 3)) 3 (.int .i64 0)
    simpa only [World.size_alloc] using this
  have hs3 : (((w.alloc (.cells #[.int .i64 col] 3)).alloc (.cells #[.int .i64 n] 3)).alloc (.cells #[.int .i64 0] 3)).heap.size = w.heap.size + 1 + 1 + 1 := by simp only [World.size_alloc]
  cases hcmp : decide (n < 1) with
  | true =>
    have hn : n < 1 := of_decide_eq_true hcmp
    gi_wp2
    refine wpIn_wide.2 (wp_scope_straight ((wpIn_wide (n := 9)).1 ?_))
    gi_wp2
    refine ⟨trivial, ?_⟩
    gi_wp2
    refine ⟨trivial, (hnear _).mono ?_⟩
    rintro e w' ⟨r0, rfl, rfl, rfl⟩
    gi_wp2
    show LeavesInM Fence.wide 9 Tryz.prog Tryz.f163 _ (fun e w' => e = .returned (.int .i64 (backB B col n)) ∧ Below w.heap.size w w') [] .returning _
    have hcell := (Boxed.new ((w.alloc (.cells #[.int .i64 col] 3)).alloc (.cells #[.int .i64 n] 3)) 3 (.int .i64 (nearB B col))).cell
    simp only [World.size_alloc] at hcell
    refine leaves9 rfl hcell ⟨?_, ?_⟩
    · unfold backB
      rw [if_pos (.inl hn)]
    · exact (((Below.refl _ w).alloc (Nat.le_refl _) _).alloc (by simp) _).alloc (by simp; omega) _
  | false =>
  cases hin : inB B col with
  | false =>
    gi_wp2
    refine wpIn_wide.2 (wp_scope_straight ((wpIn_wide (n := 9)).1 ?_))
    gi_wp2
    refine ⟨trivial, (his _).mono ?_⟩
    rintro e w' ⟨r0, rfl, rfl, rfl⟩
    rw [hin]
    gi_wp2
    refine ⟨trivial, (hnear _).mono ?_⟩
    rintro e w' ⟨r0, rfl, rfl, rfl⟩
    gi_wp2
    show LeavesInM Fence.wide 9 Tryz.prog Tryz.f163 _ (fun e w' => e = .returned (.int .i64 (backB B col n)) ∧ Below w.heap.size w w') [] .returning _
    have hcell := (Boxed.new ((w.alloc (.cells #[.int .i64 col] 3)).alloc (.cells #[.int .i64 n] 3)) 3 (.int .i64 (nearB B col))).cell
    simp only [World.size_alloc] at hcell
    refine leaves9 rfl hcell ⟨?_, ?_⟩
    · unfold backB
      rw [if_pos (.inr hin)]
    · exact (((Below.refl _ w).alloc (Nat.le_refl _) _).alloc (by simp) _).alloc (by simp; omega) _
  | true =>
    have hn1 : 1 ≤ n := by
      have := of_decide_eq_false hcmp
      omega
    gi_wp2
    refine wpIn_wide.2 (wp_scope_straight ((wpIn_wide (n := 9)).1 ?_))
    gi_wp2
    refine ⟨trivial, (his _).mono ?_⟩
    rintro e w' ⟨r0, rfl, rfl, rfl⟩
    rw [hin]
    gi_wp2
    refine wpIn_label ?_
    gi_wp2
    refine ⟨trivial, (hAll _).mono ?_⟩
    rintro e w4 ⟨q, rfl, hq, hB4⟩
    gi_wp2
    refine ⟨trivial, (backward_in Fence.wide _ trivial rfl _ _ _ _).mono ?_⟩
    rintro e w5 ⟨rfl, rfl⟩
    gi_wp2
    obtain ⟨w5, hw5⟩ : ∃ w5, w4.alloc (.cells #[.slice q.a q.n q.c] 32) = w5 := ⟨_, rfl⟩
    have hs4 := hB4.size
    rw [hs3] at hs4
    have hs5 : w5.heap.size = w4.heap.size + 1 := by rw [← hw5]; simp
    have hB45 : Below w4.heap.size w4 w5 := by rw [← hw5]; exact (Below.refl _ w4).alloc (Nat.le_refl _) _
    have hbox5 : Boxed w5 w4.heap.size 32 (.slice q.a q.n q.c) := by rw [← hw5]; exact Boxed.new w4 32 _
    have k35 : ∀ {k : Nat} {v : Value}, k < w.heap.size + 1 + 1 + 1 → Boxed (((w.alloc (.cells #[.int .i64 col] 3)).alloc (.cells #[.int .i64 n] 3)).alloc (.cells #[.int .i64 0] 3)) k 3 v → Boxed w5 k 3 v := fun {k v} hk hb =>
      (hB45.block k (by omega)).trans ((hB4.block k hk).trans hb)
    have hBw5 : Below w.heap.size w w5 := (hB3.trans (hB4.mono (by omega))).trans (hB45.mono (by omega))
    have hq5 : Go.Vc.Own E_int w5 (w.heap.size + 1 + 1 + 1) q (keysI B) := hq.ext hB45
    have hlen : (keysI B).length ≤ 1000 := by
      have := keys_le B
      unfold keysI
      rw [List.length_map]
      omega
    obtain ⟨b, hb1, hb2, hI5⟩ : ∃ b, b < w5.heap.size ∧ w.heap.size + 1 + 1 + 1 ≤ b ∧ Ints b w5 (.slice q.a q.n q.c) (keysI B) := by
      rcases hq5.form with ⟨rfl, hz⟩ | ⟨g', cur, hs, hg', hblk, h1, h2, h3', h4⟩
      · exact ⟨w4.heap.size, by omega, by omega, .inl ⟨rfl, hz⟩⟩
      · refine ⟨g', hblk.lt, hg', .inr ⟨0, q.c, by rw [hs], fun j hj => ?_⟩⟩
        have hx := hq5.rd.at_ j (keysI B)[j] (by simp [hj])
        have := hx 0 (.int .i64 (keysI B)[j]) rfl
        rw [List.getElem?_eq_getElem hj]
        rw [hs] at this
        simpa [Slc.at_, add_mk, show E_int.k = 1 from rfl] using this
    rw [hw5]
    refine wpIn_rangeFunc_ownF rfl (by omega) (gf := 195) (lb := #[.pointer (some ⟨w4.heap.size, 0, none⟩)]) rfl trivial (enters_of Tryz.func195 (by kernel_rfl) rfl)
      (back_stops Fence.wide 8 trivial rfl (by omega) w4.heap.size b _ (keysI B) (by omega) w5 (by omega) hb1 hbox5.cell hI5) (fun h k => h.trans k)
      (fun W l o o' hl ho h1 h2 => ⟨World.putObj_heap_other (by omega), World.putObj_heap_other (by omega)⟩) (Below.refl _ _) (fun _ => rfl)
      (BkI w col n) (BkX w col n) (bkI_own w col n (by omega)) (fun c => bkX_own w col n c (by omega))
      ⟨hBw5, k35 (by omega) c0, ⟨n, k35 (by omega) c1, hn1, Int.le_refl _, fun rest => rfl⟩, 0, k35 (by omega) c2⟩
      (fun x => { tmps := #[Value.pointer (some { block := g, off := 0 }), Value.int IntKind.i64 col, Value.int IntKind.i64 n, undef, Value.pointer (some { block := w.heap.size, off := 0 }), Value.pointer (some { block := w.heap.size + 1, off := 0 }), Value.pointer (some { block := w.heap.size + 1 + 1, off := 0 }), undef, Value.int .i64 x.2, Value.int IntKind.i64 n,
          Value.bool false, Value.bool false, Value.pointer (some { block := g, off := 0 }), Value.int IntKind.i64 col, Value.bool true, Value.bool false, Value.bool false, undef, undef, undef,
          Value.pointer (some { block := g, off := 0 }), Value.slice q.a q.n q.c, .func (.func 195) #[] #[.pointer (some ⟨w4.heap.size, 0, none⟩)], .int .i64 x.1, .int .i64 x.2, undef, undef, undef, undef, undef, undef, undef, undef], defers := [] }) ?assign ?body ?done ?stop
    case assign =>
      intro l x W K hK
      gi_wp2
      exact hK
    case body =>
      rintro l pre x W ⟨hw, hcx, ⟨n', hnx, hn1', hnn, hsc⟩, v0, hvx⟩ hlt
      have e0 := hcx.cell
      have e1 := hnx.cell
      have f1 := hnx.frozen
      have e2 := hvx.cell
      have f2 := hvx.frozen
      obtain ⟨ha, hb', hc'⟩ := scan_app (fun k => decide (k < col)) 0 (x := x.2) hsc
      have hmap : (pre ++ [x]).map (·.2) = pre.map (·.2) ++ [x.2] := by simp
      cases hle : decide (col ≤ x.2) with
      | true =>
        have hle' : col ≤ x.2 := of_decide_eq_true hle
        gi_wp2
        refine ⟨KeepsOthers.refl _, Kp2.refl _ _ _, hw, hcx, ⟨n', hnx, hn1', hnn, fun rest => ?_⟩, v0, hvx⟩
        rw [hmap]
        exact ha (by simpa using hle') rest
      | false =>
        have hle' := of_decide_eq_false hle
        have hp : decide (x.2 < col) = true := by simpa using hle'
        gi_wp2
        · rename_i hz
          have hz : n' - 1 = 0 := by simpa using hz
          refine ⟨(keeps_set).trans keeps_set, rfl, below_set (below_set hw (by omega)) (by omega), x.2, ?_, fun rest => ?_⟩
          · exact (boxed_other hvx (by omega)).set _
          · rw [hmap]
            exact hb' hp (by omega) rest
        · rename_i hz
          have hz : ¬ n' - 1 = 0 := by simpa using hz
          refine ⟨keeps_set, kp2_set (by omega) (by omega), below_set hw (by omega), boxed_other hcx (by omega), ⟨n' - 1, hnx.set _, by omega, by omega, fun rest => ?_⟩, v0, boxed_other hvx (by omega)⟩
          rw [hmap]
          exact hc' hp (by omega) rest
    case done =>
      rintro D ys W hD rfl ⟨hw, hcx, ⟨n', hnx, hn1', hnn, hsc⟩, v0, hvx⟩ hK
      have e2 := hvx.cell
      have f2 := hvx.frozen
      gi_wp2
      have hK' := (keeps_set (W := W) (b := w.heap.size + 1 + 1) (v := .int .i64 0)).same D _ hK rfl
      refine ⟨by simp, .inl ⟨_, _, rfl, run_takeDeferred hK', ?_⟩⟩
      have hb5 := (hvx.set (.int .i64 0)).kept (grownBy_putObj' _ D (.deferred none)) (fun e => by cases e; omega)
      refine leaves9 rfl hb5.cell ⟨?_, ?_⟩
      · rw [back_eq hn1 hin, ← scan_nth _ _ _ _ hn1]
        have := hsc []
        rw [upto_back _ _ (Nat.le_refl _), List.take_of_length_le (by simp), List.append_nil] at this
        rw [this]
        rfl
      · exact (below_set hw (by omega)).grown (grownBy_putObj' _ D (.deferred none)) (by simp; exact hw.size) fun k e => by cases e; omega
    case stop =>
      rintro D c pre W hD ⟨k, hk, rfl⟩ ⟨rfl, hw, v, hvx, hsc⟩ hK
      gi_wp2
      refine ⟨by simp, .inl ⟨_, _, rfl, run_takeDeferred hK, ?_⟩⟩
      have hb5 := hvx.kept (grownBy_putObj' _ D (.deferred none)) (fun e => by cases e; omega)
      refine leaves9 rfl hb5.cell ⟨?_, ?_⟩
      · rw [back_eq hn1 hin, ← scan_nth _ _ _ _ hn1]
        have := hsc ((keysI B).reverse.drop k)
        rw [upto_back _ _ hk, List.take_append_drop] at this
        rw [this]
      · exact hw.grown (grownBy_putObj' _ D (.deferred none)) hw.size fun k e => by cases e; omega
theorem tBack_spec (h : StopsM w g r B) (hl : 1 ≤ B.length ∧ B.length ≤ 1000) (col n : Int) (hnm : n ≤ 9223372036854775807) {K : Int → World → Prop}
    (hK : ∀ w', Below w.heap.size w w' → K (backB B col n) w') : c_tabs_Stops_Back (some ⟨g, 0, none⟩) col n w K := by
  refine Calls.mono (callsIn_wide.1 (Back_in h hl col n hnm)) ?_
  rintro e w' ⟨rfl, hB⟩
  exact ⟨_, rfl, hK w' hB⟩
end
end Go.Proofs.YtmoafafalnbkpaaGreatDoor

set_option linter.unusedVariables false
namespace Go.Proofs.YtmoafafalnbkpaaGreatDoor
open Go.Vc Go.RowKit
def w64 (x : Int) : Int := IntKind.i64.wrap x
abbrev Cur := T_screen_Cursor
abbrev Sav := T_screen_saved
def first0 : Cur := ⟨0, 0, false, ⟨0, 0, 0⟩, false, ⟨66, 66⟩, 0⟩
def sav0 : Sav := ⟨⟨0, 0, false, ⟨0, 0, 0⟩, false, ⟨0, 0⟩, 0⟩, false⟩
structure Sc where
  g0 : GS
  g1 : GS
  alt : Bool
  c : Cur
  s0 : Sav
  s1 : Sav
  modes : List (Int × Bool)
  priv : List (Int × Bool)
  top : Int
  past : Int
  stops : List Bool
  char : Int
  areas : List T_screen_Area
namespace Sc
def g (S : Sc) : GS := if S.alt then S.g1 else S.g0
def withG (S : Sc) (G : GS) : Sc := if S.alt then { S with g1 := G } else { S with g0 := G }
def sv (S : Sc) : Sav := if S.alt then S.s1 else S.s0
def withS (S : Sc) (s : Sav) : Sc := if S.alt then { S with s1 := s } else { S with s0 := s }
def mode (S : Sc) (n : Int) : Bool := (lookL S.modes n).getD false
def pmode (S : Sc) (n : Int) : Bool := (lookL S.priv n).getD false
def blank (S : Sc) : Attr := ⟨0, S.c.A.Bg, 0⟩
def dry (S : Sc) : Sc := { S with c := { S.c with Wrap := false } }
def setCol (S : Sc) (col : Int) : Sc := { S with c := { S.c with Col := col } }
end Sc
def cutP (v lo hi : Int) : Int := if hi < (if lo > v then lo else v) then hi else (if lo > v then lo else v)
namespace Sc
def to (S : Sc) (row col : Int) : Sc := { S with c := { S.c with Row := cutP row 0 (w64 ((S.g.rows : Int) - 1)), Col := cutP col 0 (w64 ((S.g.cols : Int) - 1)), Wrap := false } }
def scroll (S : Sc) (top past n : Int) : Sc := S.withG (scrollG S.g top past n S.blank)
def index (S : Sc) : Sc := if S.c.Row = w64 (S.past - 1) then S.dry.scroll S.top S.past 1 else S.dry.to (w64 (S.c.Row + 1)) S.c.Col
def reverse (S : Sc) : Sc := if S.c.Row = S.top then S.dry.scroll S.top S.past (-1) else S.dry.to (w64 (S.c.Row - 1)) S.c.Col
def home (S : Sc) : Sc := S.to (if S.c.Origin then S.top else 0) 0
def up (S : Sc) (n : Int) : Sc := S.to (if (if S.c.Row ≥ S.top then S.top else 0) > w64 (S.c.Row - n) then (if S.c.Row ≥ S.top then S.top else 0) else w64 (S.c.Row - n)) S.c.Col
def down (S : Sc) (n : Int) : Sc :=
  let r : Int := if S.c.Row < S.past then S.past else S.g.rows
  S.to (if w64 (r - 1) < w64 (S.c.Row + n) then w64 (r - 1) else w64 (S.c.Row + n)) S.c.Col
/-- A line of the grid that is shown, changed. -/
def change (S : Sc) (f : List Cell → List Cell) : Sc := if 0 ≤ S.c.Row ∧ S.c.Row < (S.g.rows : Int) then S.withG { S.g with L := S.g.L.set S.c.Row.toNat (resL (f (S.g.L.getD S.c.Row.toNat [])) S.g.cols) } else S
end Sc
def isW (r : Int) : Bool := decide (0 ≤ r) && decide (r ≤ 1114111) && (decide (r < 55296) || decide (r > 57343))
def inW (r : Int) (l : List (Int × Int)) : Bool := l.any fun p => decide (p.1 ≤ r) && decide (r ≤ p.2)
def thinL : List (Int × Int) := [(0, 31), (127, 159), (768, 879), (8203, 8207), (65024, 65039)]
def wideL : List (Int × Int) := [(4352, 4447), (11904, 42191), (44032, 55203), (63744, 64255), (65072, 65135), (65280, 65376), (65504, 65510), (127744, 129791), (131072, 262141)]
def widthP (r : Int) : Int := if isW r = false ∨ inW r thinL = true then 0 else if inW r wideL = true then 2 else 1
def linesP : List Int := [160, 9670, 9618, 9225, 9228, 9229, 9226, 176, 177, 9252, 9227, 9496, 9488, 9484, 9492, 9532, 9146, 9147, 9472, 9148, 9149, 9500, 9508, 9524, 9516, 9474, 8804, 8805, 960, 8800, 163, 183]
def graphicP (set b : Int) : Int := if set = 48 ∧ 95 ≤ b ∧ b ≤ 126 then linesP.getD (b - 95).toNat 0 else b
namespace Sc
def putL (S : Sc) (r w : Int) (xs : List Cell) : List Cell := putP (if S.mode 4 then insL xs S.c.Col w S.c.A else xs) S.c.Col r w S.c.A
def laid (S : Sc) (r w : Int) (wrap : Bool) : Sc :=
  let S1 := (S.change (S.putL r w)).setCol (w64 (S.c.Col + w))
  if S1.c.Col ≥ (S.g.cols : Int) then { S1 with c := { S1.c with Col := w64 ((S.g.cols : Int) - 1), Wrap := wrap } } else S1
def next (S : Sc) : Sc := (S.to S.c.Row 0).index
def layX (S1 : Sc) (wrap : Bool) : Sc := if S1.c.Wrap = true ∧ wrap = true then S1.next else S1
def layY (S2 : Sc) (cols : Nat) (r w : Int) (wrap : Bool) : Sc :=
  if w64 (S2.c.Col + w) > (cols : Int) then
    (if w > (cols : Int) then S2 else if wrap then S2.next.laid r w wrap else (S2.setCol (w64 ((cols : Int) - w))).laid r w wrap)
  else S2.laid r w wrap
def lay (S : Sc) (r : Int) : Sc := if widthP r = 0 then S else layY (layX { S with char := r } (S.pmode 7)).dry S.g.cols r (widthP r) (S.pmode 7)
def set2 (S : Sc) (i : Int) : Int := if i = 0 then S.c.Sets.e0 else S.c.Sets.e1
def print (S : Sc) (r : Int) : Sc := if 0 ≤ r ∧ r < 128 then S.lay (graphicP (S.set2 S.c.Shift) r) else S.lay r
def save (S : Sc) : Sc := S.withS ⟨S.c, true⟩
def restore (S : Sc) : Sc :=
  let x : Cur := if S.sv.is then S.sv.c else first0
  { S with c := { x with Row := cutP x.Row 0 (w64 ((S.g.rows : Int) - 1)), Col := cutP x.Col 0 (w64 ((S.g.cols : Int) - 1)) } }
def fillRow (S : Sc) (row from_ to : Int) : Sc := if 0 ≤ row ∧ row < (S.g.rows : Int) then S.withG { S.g with L := S.g.L.set row.toNat (resL (eraP (S.g.L.getD row.toNat []) from_ to S.blank) S.g.cols) } else S
def fills (S : Sc) (row from_ to : Int) : Nat → Sc
  | 0 => S
  | n + 1 => (S.fills row from_ to n).fillRow (w64 (row + n)) from_ to
def erase (S : Sc) (row rows from_ to : Int) : Sc :=
  if rows < 1 ∨ from_ ≥ to then S
  else
    let S1 := S.fills row from_ to rows.toNat
    { S1 with areas := S1.areas ++ [⟨S.alt, w64 (S1.g.top + row), rows, from_, to⟩] }
def plain (S : Sc) : Sc := { S with modes := [], priv := putL' (putL' [] 7 true) 25 true }
def fresh (S : Sc) : Sc :=
  let S1 : Sc := { S with alt := false }
  ({ S1 with stops := resz [] S1.g.cols, c := first0, s0 := sav0, s1 := sav0, char := -1, top := 0, past := S1.g.rows } : Sc).plain
def clear0 (S : Sc) (k : Bool) : Sc :=
  let G := if k then S.g1 else S.g0
  let G' : GS := { G with L := List.replicate G.rows (newL G.cols ⟨0, 0, 0⟩), old := [] }
  let S1 : Sc := if k then { S with g1 := G' } else { S with g0 := G' }
  { S1 with areas := S1.areas ++ [⟨k, G.top, G.rows, 0, G.cols⟩] }
def reset (S : Sc) : Sc := ((S.clear0 false).clear0 true).fresh
def full (S : Sc) : Sc :=
  let l := (newL S.g.cols ⟨0, 0, 0⟩).map fun c => ({ c with R := 69 } : Cell)
  let S1 := S.withG { S.g with L := List.replicate S.g.rows (resL l S.g.cols) }
  ({ S1 with top := 0, past := S.g.rows } : Sc).to 0 0
def control (S : Sc) (c : Int) : Sc :=
  if c = 8 then S.to S.c.Row (w64 (S.c.Col - 1))
  else if c = 9 then S.to S.c.Row (nextB S.stops S.c.Col 1)
  else if c = 10 ∨ c = 11 ∨ c = 12 then (if S.index.mode 20 then S.index.to S.index.c.Row 0 else S.index)
  else if c = 13 then S.to S.c.Row 0
  else if c = 14 ∨ c = 15 then { S with c := { S.c with Shift := 15 - c } }
  else S
def single (S : Sc) (c : Int) : Sc :=
  if c = 69 then (S.to S.c.Row 0).index
  else if c = 68 then S.index
  else if c = 77 then S.reverse
  else if c = 72 then { S with stops := setB S.stops S.c.Col true }
  else if c = 55 then S.save
  else if c = 56 then S.restore
  else if c = 99 then S.reset
  else S
def setSet (S : Sc) (i : Int) (c : Int) : Sc := if i = 0 then { S with c := { S.c with Sets := ⟨c, S.c.Sets.e1⟩ } } else { S with c := { S.c with Sets := ⟨S.c.Sets.e0, c⟩ } }
def escape (S : Sc) (inter : List UInt8) (c : Int) : Sc :=
  if inter = [40] ∨ inter = [41] then (if c = 48 ∨ c = 66 then S.setSet (if inter = [40] then 0 else 1) c else S)
  else if inter = [35] then (if c = 56 then S.full else S)
  else if inter = [] then S.single c
  else S
/-! ### Sequences -/
def asked (S : Sc) (n : Int) : Int := if S.c.Origin then cutP (w64 (w64 (S.top + n) - 1)) S.top (w64 (S.past - 1)) else w64 (n - 1)
end Sc
def paramP (p : List Int) (i : Nat) (none : Int) : Int := match p[i]? with
  | some v => if v = 0 then none else v
  | Option.none => none
namespace Sc
def margins (S : Sc) (p : List Int) : Sc :=
  let top := cutP (w64 (paramP p 0 1 - 1)) 0 S.g.rows
  let past := cutP (paramP p 1 S.g.rows) 0 S.g.rows
  if w64 (past - top) < 2 then S else ({ S with top := top, past := past } : Sc).home
def lays (S : Sc) (r : Int) : Nat → Sc
  | 0 => S
  | n + 1 => (S.lays r n).lay r
def again (S : Sc) (n : Int) : Sc :=
  if 0 ≤ S.char then S.lays S.char (if w64 ((S.g.rows : Int) * S.g.cols) < n then w64 ((S.g.rows : Int) * S.g.cols) else n).toNat else S
def forget (S : Sc) : Sc := S.withG { S.g with old := [] }
def display (S : Sc) (how : Int) : Sc :=
  let rows : Int := S.g.rows
  let cols : Int := S.g.cols
  if how = 0 then ((S.erase S.c.Row 1 S.c.Col cols).erase (w64 (S.c.Row + 1)) (w64 (w64 (rows - S.c.Row) - 1)) 0 cols).dry
  else if how = 1 then ((S.erase 0 S.c.Row 0 cols).erase S.c.Row 1 0 (w64 (S.c.Col + 1))).dry
  else if how = 2 then (S.erase 0 rows 0 cols).dry
  else if how = 3 then S.forget
  else S
def inLine (S : Sc) (how : Int) : Sc :=
  if how = 0 then (S.erase S.c.Row 1 S.c.Col S.g.cols).dry
  else if how = 1 then (S.erase S.c.Row 1 0 (w64 (S.c.Col + 1))).dry
  else if how = 2 then (S.erase S.c.Row 1 0 S.g.cols).dry
  else S
def cells (S : Sc) (c n : Int) : Sc :=
  let S1 := S.dry
  if c = 88 then S1.erase S.c.Row 1 S.c.Col (if (S.g.cols : Int) < w64 (S.c.Col + n) then (S.g.cols : Int) else w64 (S.c.Col + n))
  else S1.change fun xs => if c = 80 then delL xs S.c.Col n S.blank else insL xs S.c.Col n S.blank
def lines (S : Sc) (c n : Int) : Sc :=
  if S.c.Row < S.top ∨ S.c.Row ≥ S.past then S
  else
    let S1 := S.scroll S.c.Row S.past (if c = 76 then w64 (0 - n) else n)
    S1.to S.c.Row 0
def move (S : Sc) (p : List Int) (c n : Int) : Sc :=
  let S1 :=
    if c = 65 ∨ c = 70 then S.up n
    else if c = 66 ∨ c = 101 ∨ c = 69 then S.down n
    else if c = 67 ∨ c = 97 then S.to S.c.Row (w64 (S.c.Col + n))
    else if c = 68 then S.to S.c.Row (w64 (S.c.Col - n))
    else if c = 71 ∨ c = 96 then S.to S.c.Row (w64 (n - 1))
    else if c = 100 then S.to (S.asked n) S.c.Col
    else if c = 72 ∨ c = 102 then S.to (S.asked n) (w64 (paramP p 1 1 - 1))
    else if c = 73 then S.to S.c.Row (nextB S.stops S.c.Col n)
    else if c = 90 then S.to S.c.Row (backB S.stops S.c.Col n)
    else S
  if c = 69 ∨ c = 70 then S1.to S1.c.Row 0 else S1
def show_ (S : Sc) (to all : Bool) : Sc :=
  if S.alt = to then S
  else
    let S1 := if all = true ∧ to = true then S.save else S
    let S2 : Sc := { S1 with alt := to }
    if all = true ∧ to = true then S2.dry.erase 0 S2.g.rows 0 S2.g.cols
    else if all then S2.restore
    else S2
def turn (S : Sc) (n : Int) (on : Bool) : Sc :=
  if n = 6 then ({ S with c := { S.c with Origin := on } } : Sc).home
  else if n = 1 ∨ n = 7 ∨ n = 25 ∨ n = 1000 ∨ n = 2004 then { S with priv := putL' S.priv n on }
  else if n = 47 ∨ n = 1047 then S.show_ on false
  else if n = 1049 then S.show_ on true
  else S
def turns (S : Sc) (on : Bool) (p : List Int) : Sc := p.foldl (fun S n => S.turn n on) S
def modes1 (S : Sc) (on : Bool) (p : List Int) : Sc := p.foldl (fun S n => if n = 4 ∨ n = 20 then { S with modes := putL' S.modes n on } else S) S
def soft (S : Sc) : Sc :=
  let S1 := S.plain
  { S1 with top := 0, past := S.g.rows, s0 := sav0, s1 := sav0, c := { S.c with A := ⟨0, 0, 0⟩, Sets := ⟨66, 66⟩, Shift := 0, Origin := false } }
/-- A sequence of one letter; `ap` is what its attributes come to. -/
def bare (S : Sc) (ap : Attr) (p : List Int) (c : Int) : Sc :=
  let n := paramP p 0 1
  let zero := paramP p 0 0
  if c = 110 ∨ c = 99 then S
  else if c = 109 then { S with c := { S.c with A := ap } }
  else if c = 114 then S.margins p
  else if c = 115 then S.save
  else if c = 117 then S.restore
  else if c = 104 ∨ c = 108 then S.modes1 (c = 104) p
  else if c = 103 then (if zero = 0 then { S with stops := setB S.stops S.c.Col false } else if zero = 3 then { S with stops := List.replicate S.stops.length false } else S)
  else if c = 98 then S.again n
  else if c = 74 then S.display zero
  else if c = 75 then S.inLine zero
  else if c = 64 ∨ c = 80 ∨ c = 88 then S.cells c n
  else if c = 76 ∨ c = 77 then S.lines c n
  else if c = 83 then (S.scroll S.top S.past (w64 (0 - w64 (0 - n)))).dry
  else if c = 84 then (S.scroll S.top S.past (w64 (0 - n))).dry
  else S.move p c n
end Sc
end Go.Proofs.YtmoafafalnbkpaaGreatDoor

namespace Go.Proofs.YtmoafafalnbkpaaGreatDoor
open Go.Vc Go.RowKit
/-! ### known -/
def k1 : List Cell := [⟨0, 0, ⟨0, 0, 0⟩⟩, ⟨19968, 1, ⟨0, 0, 0⟩⟩, ⟨0, 2, ⟨0, 0, 0⟩⟩, ⟨0, 0, ⟨0, 0, 0⟩⟩]
def k2 : List Cell := [⟨0, 0, ⟨0, 0, 0⟩⟩, ⟨0, 0, ⟨0, 0, 0⟩⟩, ⟨120, 0, ⟨1, 0, 0⟩⟩, ⟨0, 0, ⟨0, 0, 0⟩⟩]
/-! ### LineNew -/
theorem right_new (n : Int) (a : Attr) : rightB (newL n a) = true := by
  unfold newL
  split
  · rfl
  · have := right_pad (xs := []) rfl n.toNat a
    simpa using this

end Go.Proofs.YtmoafafalnbkpaaGreatDoor

namespace Go.Proofs.YtmoafafalnbkpaaGreatDoor
open Go.Vc Go.RowKit
/-! ### Lines of plain cells -/
def Plain (xs : List Cell) : Prop := ∀ c ∈ xs, c.Kind = 0
theorem plain_right {xs : List Cell} (h : Plain xs) : rightB xs = true := right_iff.2 fun k x hx => by
  have h0 := h x (List.mem_of_getElem? hx)
  exact ⟨(fits_iff hx).2 (.inl h0), fun e => by rw [h0] at e; cases e⟩
theorem plain_mend {xs : List Cell} (h : Plain xs) : mendL xs = xs := mend_id (plain_right h)
theorem plain_blanks (n : Nat) (a : Attr) : Plain (List.replicate n (blankC a)) := fun c hc => by rw [List.eq_of_mem_replicate hc]; rfl
theorem plain_append {xs ys : List Cell} (h : Plain xs) (h' : Plain ys) : Plain (xs ++ ys) := fun c hc => by
  rcases List.mem_append.1 hc with h1 | h1
  · exact h c h1
  · exact h' c h1
theorem plain_take {xs : List Cell} (h : Plain xs) (n : Nat) : Plain (xs.take n) := fun c hc => h c (List.mem_of_mem_take hc)
theorem plain_drop {xs : List Cell} (h : Plain xs) (n : Nat) : Plain (xs.drop n) := fun c hc => h c (List.mem_of_mem_drop hc)
/-! ### LineTexts -/
def a0 : Attr := ⟨0, 0, 0⟩
/-! ### LineShifts -/
theorem ins_plain {xs : List Cell} (h : Plain xs) {col k c : Int} {a : Attr} (hc : manyL xs.length col k = c) (h0 : c ≠ 0) :
    insL xs col k a = xs.take col.toNat ++ List.replicate c.toNat (blankC a) ++ (xs.take (xs.length - c.toNat)).drop col.toNat := by
  unfold insL
  rw [hc]
  dsimp only
  rw [if_neg h0, plain_mend h]
  exact plain_mend (plain_append (plain_append (plain_take h _) (plain_blanks _ _)) (plain_drop (plain_take h _) _))
theorem shifts {xs : List Cell} (h : Plain xs) {col n : Int} {a : Attr} (hcol : 0 ≤ col) (hcl : col < xs.length) (hn : 1 ≤ n) :
    delL (insL xs col n a) col n a = xs.take (xs.length - (min n (xs.length - col)).toNat) ++ List.replicate (min n (xs.length - col)).toNat (blankC a) ∧ (insL xs col n a).length = xs.length := by
  have hm : manyL xs.length col n = min n (xs.length - col) := by rw [manyL, if_neg (by omega)]
  have e1 := ins_plain h (a := a) hm (by omega)
  have hc0 : 1 ≤ min n ((xs.length : Int) - col) := by omega
  have hc1 : min n ((xs.length : Int) - col) ≤ xs.length - col := by omega
  generalize min n ((xs.length : Int) - col) = c at *
  have hlen : (insL xs col n a).length = xs.length := by rw [e1]; simp; omega
  refine ⟨?_, hlen⟩
  have hp : Plain (insL xs col n a) := by
    rw [e1]
    exact plain_append (plain_append (plain_take h _) (plain_blanks _ _)) (plain_drop (plain_take h _) _)
  have e2 : delL (insL xs col n a) col n a = mendL ((insL xs col n a).take col.toNat ++ (insL xs col n a).drop (col + c).toNat ++ List.replicate c.toNat (blankC a)) := by
    unfold delL
    rw [hlen, hm]
    dsimp only
    rw [if_neg (by omega), plain_mend hp]
  rw [e2, plain_mend (plain_append (plain_append (plain_take hp _) (plain_drop hp _)) (plain_blanks _ _))]
  congr 1
  have hl1 : (xs.take col.toNat).length = col.toNat := by simp; omega
  have hl2 : (xs.take col.toNat ++ List.replicate c.toNat (blankC a)).length = (col + c).toNat := by simp; omega
  have t1 : (insL xs col n a).take col.toNat = xs.take col.toNat := by
    rw [e1, List.append_assoc, List.take_append_of_le_length (by omega), List.take_of_length_le (by omega)]
  have t2 : (insL xs col n a).drop (col + c).toNat = (xs.take (xs.length - c.toNat)).drop col.toNat := by
    rw [e1, ← hl2, List.drop_left]
  rw [t1, t2]
  have : xs.take col.toNat = (xs.take (xs.length - c.toNat)).take col.toNat := by rw [List.take_take, Nat.min_eq_left (by omega)]
  rw [this, List.take_append_drop]

end Go.Proofs.YtmoafafalnbkpaaGreatDoor

namespace Go.Proofs.YtmoafafalnbkpaaGreatDoor
open Go.Vc Go.RowKit
theorem newL_eq {n : Nat} (h : n ≤ 1000) (a : Attr) : newL n a = List.replicate n (blankC a) := by
  rw [newL, if_neg (by omega)]
  simp
section
variable {w : World} {base : Nat} {f : Foot} {S : GS}
end
/-! ### The known grid -/
end Go.Proofs.YtmoafafalnbkpaaGreatDoor

namespace Go.Proofs.YtmoafafalnbkpaaGreatDoor
open Go.Vc Go.RowKit
theorem pushL_length {most : Nat} {old : List (List Cell)} {x : List Cell} (h : old.length ≤ most) : (pushL most old x).length ≤ most := by
  unfold pushL
  split
  · exact h
  · split
    · simp; omega
    · simp; omega
theorem pushAll_length {most : Nat} (xs : List (List Cell)) : ∀ {old : List (List Cell)}, old.length ≤ most → (pushAll most old xs).length ≤ most := by
  induction xs with
  | nil => intro old h; exact h
  | cons x r ih => intro old h; exact ih (pushL_length h)

theorem scrollG_old {S : GS} {top past n : Int} {a : Attr} (h : S.old.length ≤ S.most) : (scrollG S top past n a).old.length ≤ S.most := by
  unfold scrollG
  split
  · exact h
  · split
    · exact pushAll_length _ h
    · exact h

structure GOk (S : GS) : Prop where
  len : S.L.length = S.rows
  rows : 1 ≤ S.rows ∧ S.rows ≤ 1000
  cols : 1 ≤ S.cols ∧ S.cols ≤ 1000
  L : ∀ xs ∈ S.L, rightB xs = true ∧ xs.length = S.cols ∧ okR xs
  old : ∀ xs ∈ S.old, xs.length ≤ 1000 ∧ okR xs
  olen : S.old.length ≤ S.most
  most : S.most ≤ 16384

theorem right_res (xs : List Cell) (n : Int) : rightB (resL xs n) = true := by
  unfold resL
  dsimp only
  split
  · exact right_mend _
  · exact right_pad (right_mend _) _ _
theorem newL_good {n : Nat} (h : n ≤ 1000) (a : Attr) : rightB (newL n a) = true ∧ (newL n a).length = n ∧ okR (newL n a) := by
  refine ⟨right_new _ _, newL_length h a, ?_⟩
  rw [newL_eq h]
  exact okR_blanks _ _
theorem res_good {xs : List Cell} {n : Nat} (h0 : n ≤ 1000) (h : okR xs) : rightB (resL xs n) = true ∧ (resL xs n).length = n ∧ okR (resL xs n) := by
  refine ⟨right_res _ _, ?_, okR_res h _⟩
  rw [resL_length]
  omega

theorem pushL_mem {most : Nat} {old : List (List Cell)} {x y : List Cell} (h : y ∈ pushL most old x) : y ∈ old ∨ y = x := by
  unfold pushL at h
  split at h
  · exact .inl h
  · split at h
    · rcases List.mem_append.1 h with h | h
      · exact .inl h
      · exact .inr (List.mem_singleton.1 h)
    · rcases List.mem_append.1 h with h | h
      · exact .inl (List.mem_of_mem_tail h)
      · exact .inr (List.mem_singleton.1 h)
theorem pushAll_mem {most : Nat} (xs : List (List Cell)) : ∀ {old : List (List Cell)} {y : List Cell}, y ∈ pushAll most old xs → y ∈ old ∨ y ∈ xs := by
  induction xs with
  | nil => intro old y h; exact .inl h
  | cons x r ih =>
    intro old y h
    rcases ih (old := pushL most old x) h with h | h
    · rcases pushL_mem h with h | h
      · exact .inl h
      · exact .inr (by simp [h])
    · exact .inr (by simp [h])

section
variable {S : GS}
theorem GOk.set (h : GOk S) (i : Nat) {xs : List Cell} (hx : rightB xs = true ∧ xs.length = S.cols ∧ okR xs) : GOk { S with L := S.L.set i xs } := by
  refine ⟨by show (S.L.set i xs).length = _; rw [List.length_set]; exact h.len, h.rows, h.cols, fun ys hy => ?_, h.old, h.olen, h.most⟩
  rcases List.mem_or_eq_of_mem_set hy with hy | hy
  · exact h.L ys hy
  · rw [hy]; exact hx
theorem GOk.clear (h : GOk S) (a : Attr) : GOk { S with L := List.replicate S.rows (newL S.cols a) } := by
  refine ⟨by simp, h.rows, h.cols, fun ys hy => ?_, h.old, h.olen, h.most⟩
  rw [List.eq_of_mem_replicate hy]
  exact newL_good h.cols.2 a
theorem GOk.forget (h : GOk S) : GOk { S with old := [] } := ⟨h.len, h.rows, h.cols, h.L, (fun xs hx => by cases hx), Nat.zero_le _, h.most⟩
theorem scrollL_mem {cols : Nat} {L : List (List Cell)} {top past n : Int} {a : Attr} {xs : List Cell} (h : xs ∈ scrollL cols L top past n a) : xs ∈ L ∨ xs = newL cols a := by
  unfold scrollL at h
  dsimp only at h
  split at h
  · simp only [List.mem_append] at h
    rcases h with ((h | h) | h) | h
    · exact .inl (List.mem_of_mem_take h)
    · exact .inl (List.mem_of_mem_take (List.mem_of_mem_drop h))
    · exact .inr (List.eq_of_mem_replicate h)
    · exact .inl (List.mem_of_mem_drop h)
  · simp only [List.mem_append] at h
    rcases h with ((h | h) | h) | h
    · exact .inl (List.mem_of_mem_take h)
    · exact .inr (List.eq_of_mem_replicate h)
    · exact .inl (List.mem_of_mem_take (List.mem_of_mem_drop h))
    · exact .inl (List.mem_of_mem_drop h)
theorem GOk.scroll (h : GOk S) (top past n : Int) (a : Attr) : GOk (scrollG S top past n a) := by
  obtain ⟨hl, hr, hc, hm⟩ := scrollG_length (top := top) (past := past) (n := n) (a := a) h.len
  have hold := scrollG_old (top := top) (past := past) (n := n) (a := a) h.olen
  refine ⟨by rw [hl, hr], by rw [hr]; exact h.rows, by rw [hc]; exact h.cols, fun xs hx => ?_, fun xs hx => ?_, by rw [hm]; exact hold, by rw [hm]; exact h.most⟩
  · rw [hc]
    have : xs ∈ S.L ∨ xs = newL S.cols a := by
      unfold scrollG at hx
      split at hx
      · exact .inl hx
      · split at hx <;> exact scrollL_mem hx
    rcases this with hx | rfl
    · exact h.L xs hx
    · exact newL_good h.cols.2 a
  · have : xs ∈ S.old ∨ xs ∈ S.L := by
      unfold scrollG at hx
      split at hx
      · exact .inl hx
      · split at hx
        · rcases pushAll_mem _ hx with hx | hx
          · exact .inl hx
          · exact .inr (List.mem_of_mem_take hx)
        · exact .inl hx
    rcases this with hx | hx
    · exact h.old xs hx
    · obtain ⟨_, h2, h3⟩ := h.L xs hx
      exact ⟨by rw [h2]; exact h.cols.2, h3⟩
theorem GOk.new {rows cols most : Nat} (hr : 1 ≤ rows ∧ rows ≤ 1000) (hc : 1 ≤ cols ∧ cols ≤ 1000) (hm : most ≤ 16384) : GOk (gs0 rows cols most) := by
  refine ⟨by simp [gs0], hr, hc, fun xs hx => ?_, (fun xs hx => by cases hx), Nat.zero_le _, hm⟩
  rw [List.eq_of_mem_replicate hx]
  exact newL_good hc.2 _
end
/-! ### Which blocks are whose -/
theorem GridM.ty {w : World} {base : Nat} {f : Foot} {S : GS} (h : GridM w base f S) : ∀ k, gridS f k → ∃ t cs, Blk w k t cs ∧ (t = ty_grid_Grid ∨ t = ty_ring_Ring_phosphor_line_Line ∨ t = ty_line_Line) := by
  obtain ⟨ls, ho, hl⟩ := h.row
  obtain ⟨at_, gone, ls', xss, hb, ho', hl', hbr, e, hm, ha⟩ := h.ring
  rintro k (rfl | rfl | hk | hk)
  · exact ⟨_, _, h.blk, .inl rfl⟩
  · exact ⟨_, _, hb, .inr (.inl rfl)⟩
  · obtain ⟨cs, hcs⟩ := ho.blk_t hk
    exact ⟨_, _, hcs, .inr (.inr rfl)⟩
  · obtain ⟨cs, hcs⟩ := ho'.blk_t hk
    exact ⟨_, _, hcs, .inr (.inr rfl)⟩
end Go.Proofs.YtmoafafalnbkpaaGreatDoor

set_option linter.unusedVariables false
namespace Go.Proofs.YtmoafafalnbkpaaGreatDoor
open Go.Vc Go.RowKit
set_option maxRecDepth 400000
def encO : Bool → Value := fun b => .bool b
structure ScF where
  f0 : Foot
  f1 : Foot
  tg : Nat
  tr : Nat
  mm : Nat
  mp : Nat
  ar : Slc
def ScF.f (F : ScF) (alt : Bool) : Foot := if alt then F.f1 else F.f0
def ScF.put (F : ScF) (alt : Bool) (f : Foot) : ScF := if alt then { F with f1 := f } else { F with f0 := f }
def scX (F : ScF) (S : Sc) : T_screen_Screen := ⟨⟨some ⟨F.f0.g, 0, none⟩, some ⟨F.f1.g, 0, none⟩⟩, if S.alt then 1 else 0, S.c, ⟨S.s0, S.s1⟩, some F.mm, some F.mp, S.top, S.past, some ⟨F.tg, 0, none⟩, S.char, F.ar⟩
def scS (g : Nat) (F : ScF) (k : Nat) : Prop := k = g ∨ gridS F.f0 k ∨ gridS F.f1 k ∨ k = F.tg ∨ k = F.tr ∨ k = F.mm ∨ k = F.mp ∨ F.ar.blk = some k
/-- What stays true of a screen. -/
structure ScOk (S : Sc) : Prop where
  g0 : GOk S.g0
  g1 : GOk S.g1
  rows : S.g1.rows = S.g0.rows
  cols : S.g1.cols = S.g0.cols
  row : 0 ≤ S.c.Row ∧ S.c.Row < (S.g0.rows : Int)
  col : 0 ≤ S.c.Col ∧ S.c.Col < (S.g0.cols : Int)
  shift : S.c.Shift = 0 ∨ S.c.Shift = 1
  sh0 : S.s0.c.Shift = 0 ∨ S.s0.c.Shift = 1
  sh1 : S.s1.c.Shift = 0 ∨ S.s1.c.Shift = 1
  top : 0 ≤ S.top ∧ S.top < S.past ∧ S.past ≤ (S.g0.rows : Int)
  marg : 2 ≤ S.g0.rows → S.top + 2 ≤ S.past
  stops : S.stops.length = S.g0.cols
structure ScM (w : World) (base g : Nat) (F : ScF) (S : Sc) : Prop where
  blk : Blk w g ty_screen_Screen (T_screen_Screen.rep.cells (scX F S))
  hg : base ≤ g
  g0 : GridM w base F.f0 S.g0
  g1 : GridM w base F.f1 S.g1
  st : StopsM w F.tg F.tr S.stops
  hst : base ≤ F.tg ∧ base ≤ F.tr
  mo : MapM encO w F.mm S.modes
  pr : MapM encO w F.mp S.priv
  hm : base ≤ F.mm ∧ base ≤ F.mp
  dm : F.mm ≠ F.mp ∧ F.tr ≠ F.mm ∧ F.tr ≠ F.mp
  ar : Go.Vc.Own E_screen_Area w base F.ar S.areas
  dg : ∀ k, gridS F.f0 k → ¬ gridS F.f1 k
  ok : ScOk S
section
variable {w w' : World} {base g : Nat} {F : ScF} {S S' : Sc}
theorem grid_ne {f : Foot} {G : GS} (h : GridM w base f G) {k : Nat} (hk : gridS f k) {t : TypeId} {cs : List Value} (hb : Blk w k t cs) : t = ty_grid_Grid ∨ t = ty_ring_Ring_phosphor_line_Line ∨ t = ty_line_Line := by
  obtain ⟨t', cs', hb', ht⟩ := h.ty k hk
  by_cases e : t = t'
  · rw [e]; exact ht
  · exact absurd rfl (hb.ne_t hb' e)
theorem map_not {V : Type} {enc : V → Value} {r : Nat} {L : List (Int × V)} (h : MapM enc w r L) {k : Nat} {t : TypeId} {cs : List Value} (hb : Blk w k t cs) : k ≠ r := fun e => h.ne_blk hb e.symm
theorem ScM.of_g (h : ScM w base g F S) : ∀ k, (gridS F.f0 k ∨ gridS F.f1 k ∨ k = F.tg ∨ k = F.tr ∨ k = F.mm ∨ k = F.mp ∨ F.ar.blk = some k) → k ≠ g := by
  rintro k (hk | hk | rfl | rfl | rfl | rfl | hk) rfl
  · have := grid_ne h.g0 hk h.blk
    revert this; decide
  · have := grid_ne h.g1 hk h.blk
    revert this; decide
  · exact h.blk.ne_t h.st.blk (by decide) rfl
  · exact map_not h.st.map h.blk rfl
  · exact map_not h.mo h.blk rfl
  · exact map_not h.pr h.blk rfl
  · obtain ⟨cs, hcs⟩ := h.ar.blk_t hk
    exact h.blk.ne_t hcs (by decide) rfl
theorem ScM.gridF (h : ScM w base g F S) (alt : Bool) : ∃ G, GridM w base (F.f alt) G := by
  cases alt
  · exact ⟨_, h.g0⟩
  · exact ⟨_, h.g1⟩
theorem ScM.of_grid (h : ScM w base g F S) (alt : Bool) : ∀ k, gridS (F.f alt) k → k ≠ g ∧ ¬ gridS (F.f (!alt)) k ∧ k ≠ F.tg ∧ k ≠ F.tr ∧ k ≠ F.mm ∧ k ≠ F.mp ∧ F.ar.blk ≠ some k := by
  intro k hk
  obtain ⟨G, hG⟩ := h.gridF alt
  obtain ⟨t, cs, hb, ht⟩ := hG.ty k hk
  refine ⟨h.of_g k (by cases alt; exact .inl hk; exact .inr (.inl hk)), ?_, ?_, map_not h.st.map hb, map_not h.mo hb, map_not h.pr hb, ?_⟩
  · cases alt
    · exact h.dg k hk
    · exact fun hk' => h.dg k hk' hk
  · rintro rfl
    exact hb.ne_t h.st.blk (by rcases ht with rfl | rfl | rfl <;> decide) rfl
  · intro e
    obtain ⟨cs', hcs⟩ := h.ar.blk_t e
    exact hb.ne_t hcs (by rcases ht with rfl | rfl | rfl <;> decide) rfl
theorem ScM.notC (h : ScM w base g F S) : ∀ k cs, scS g F k → ¬ Blk w k ty_api_Cell cs := by
  rintro k cs (rfl | hk | hk | rfl | rfl | rfl | rfl | hk) hb
  · exact h.blk.ne_t hb (by decide) rfl
  · exact h.g0.notC k cs hk hb
  · exact h.g1.notC k cs hk hb
  · exact h.st.blk.ne_t hb (by decide) rfl
  · exact map_not h.st.map hb rfl
  · exact map_not h.mo hb rfl
  · exact map_not h.pr hb rfl
  · obtain ⟨cs', hcs⟩ := h.ar.blk_t hk
    exact hcs.ne_t hb (by decide) rfl
theorem ScM.keep {T : Nat → Prop} (h : ScM w base g F S) (hc : Chg T w w') (hT : ∀ k, scS g F k → ¬ T k) (hC : ∀ k cs, T k → ¬ Blk w k ty_api_Cell cs) : ScM w' base g F S :=
  ⟨h.blk.chg hc (hT _ (.inl rfl)), h.hg, h.g0.chg hc (fun k hk => hT k (.inr (.inl hk))) hC, h.g1.chg hc (fun k hk => hT k (.inr (.inr (.inl hk)))) hC,
    h.st.keep hc (hT _ (.inr (.inr (.inr (.inl rfl))))) (hT _ (.inr (.inr (.inr (.inr (.inl rfl)))))), h.hst, h.mo.chg hc (hT _ (.inr (.inr (.inr (.inr (.inr (.inl rfl))))))),
    h.pr.chg hc (hT _ (.inr (.inr (.inr (.inr (.inr (.inr (.inl rfl)))))))), h.hm, h.dm, h.ar.chg hc fun k hk => hT k (.inr (.inr (.inr (.inr (.inr (.inr (.inr hk))))))), h.dg, h.ok⟩
theorem ScM.ext (h : ScM w base g F S) (hB : Below w.heap.size w w') : ScM w' base g F S := h.keep (Chg.of_ext (S := fun _ => False) hB) (fun _ _ h => h) fun _ _ h => h.elim
theorem ScM.drew (h : ScM w base g F S) : ScM w.drew base g F S := h.ext ((Below.refl _ w).drew)
theorem ScM.below (h : ScM w base g F S) : ∀ k, scS g F k → base ≤ k ∧ k < w.heap.size := by
  rintro k (rfl | hk | hk | rfl | rfl | rfl | rfl | hk)
  · exact ⟨h.hg, h.blk.lt⟩
  · exact h.g0.below k hk
  · exact h.g1.below k hk
  · exact ⟨h.hst.1, h.st.blk.lt⟩
  · exact ⟨h.hst.2, h.st.map.lt⟩
  · exact ⟨h.hm.1, h.mo.lt⟩
  · exact ⟨h.hm.2, h.pr.lt⟩
  · exact h.ar.lt k hk
/-- The screen's own cells changed. -/
theorem ScM.struct (h : ScM w base g F S) (hc : Chg (fun k => k = g) w w') (hb : Blk w' g ty_screen_Screen (T_screen_Screen.rep.cells (scX F S'))) (e0 : S'.g0 = S.g0) (e1 : S'.g1 = S.g1) (es : S'.stops = S.stops) (em : S'.modes = S.modes) (ep : S'.priv = S.priv) (ea : S'.areas = S.areas) (ok : ScOk S') : ScM w' base g F S' := by
  have hC : ∀ k cs, k = g → ¬ Blk w k ty_api_Cell cs := fun k cs hk hcs => h.notC k cs (.inl hk) hcs
  refine ⟨hb, h.hg, ?_, ?_, ?_, h.hst, ?_, ?_, h.hm, h.dm, ?_, h.dg, ok⟩
  · rw [e0]; exact h.g0.chg hc (fun k hk => h.of_g k (.inl hk)) hC
  · rw [e1]; exact h.g1.chg hc (fun k hk => h.of_g k (.inr (.inl hk))) hC
  · rw [es]; exact h.st.keep hc (h.of_g _ (.inr (.inr (.inl rfl)))) (h.of_g _ (.inr (.inr (.inr (.inl rfl)))))
  · rw [em]; exact h.mo.chg hc (h.of_g _ (.inr (.inr (.inr (.inr (.inl rfl))))))
  · rw [ep]; exact h.pr.chg hc (h.of_g _ (.inr (.inr (.inr (.inr (.inr (.inl rfl)))))))
  · rw [ea]; exact h.ar.chg hc fun k hk => h.of_g k (.inr (.inr (.inr (.inr (.inr (.inr hk))))))
/-- The grid that is shown changed. -/
theorem ScM.grid (h : ScM w base g F S) {f' : Foot} {G' : GS} (hg : GridM w' base f' G') (hto : (F.f S.alt).to f' w.heap.size) (hc : Chg (gridS (F.f S.alt)) w w') (ok : ScOk (S.withG G')) : ScM w' base g (F.put S.alt f') (S.withG G') := by
  have hC : ∀ k cs, gridS (F.f S.alt) k → ¬ Blk w k ty_api_Cell cs := fun k cs hk hcs => h.notC k cs (by cases hS : S.alt <;> rw [hS] at hk; exact .inr (.inl hk); exact .inr (.inr (.inl hk))) hcs
  have hp := h.of_grid S.alt
  have hstep : ∀ k, gridS f' k → gridS (F.f S.alt) k ∨ w.heap.size ≤ k := hto.old
  have hgf := hto.g
  have hblk := h.blk.chg hc fun e => (hp g e).1 rfl
  have hst := h.st.keep hc (fun e => (hp _ e).2.2.1 rfl) (fun e => (hp _ e).2.2.2.1 rfl)
  have hmo := h.mo.chg hc (fun e => (hp _ e).2.2.2.2.1 rfl)
  have hpr := h.pr.chg hc (fun e => (hp _ e).2.2.2.2.2.1 rfl)
  have har := h.ar.chg hc fun k hk e => (hp k e).2.2.2.2.2.2 hk
  cases hS : S.alt
  · rw [hS] at hp hstep hgf hc hC
    have e1 : S.withG G' = { S with g0 := G' } := by unfold Sc.withG; rw [hS]; rfl
    rw [e1] at ok ⊢
    refine ⟨?_, h.hg, hg, h.g1.chg hc (fun k hk e => (hp k e).2.1 hk) hC, hst, h.hst, hmo, hpr, h.hm, h.dm, har, fun k hk hk' => ?_, ok⟩
    · have e2 : scX (F.put false f') { S with g0 := G' } = scX F S := by
        unfold scX ScF.put
        dsimp only
        rw [if_neg (by decide)]
        dsimp only
        rw [hgf]
        rfl
      rw [e2]
      exact hblk
    · rcases hstep k hk with h2 | h2
      · exact h.dg k h2 hk'
      · have := (h.g1.below k hk').2
        omega
  · rw [hS] at hp hstep hgf hc hC
    have e1 : S.withG G' = { S with g1 := G' } := by unfold Sc.withG; rw [hS]; rfl
    rw [e1] at ok ⊢
    refine ⟨?_, h.hg, h.g0.chg hc (fun k hk e => (hp k e).2.1 hk) hC, hg, hst, h.hst, hmo, hpr, h.hm, h.dm, har, fun k hk hk' => ?_, ok⟩
    · have e2 : scX (F.put true f') { S with g1 := G' } = scX F S := by
        unfold scX ScF.put
        dsimp only
        rw [if_pos rfl]
        dsimp only
        rw [hgf]
        rfl
      rw [e2]
      exact hblk
    · rcases hstep k hk' with h2 | h2
      · exact h.dg k hk h2
      · have := (h.g0.below k hk).2
        omega
/-! ### From one screen to the next -/
structure ScT (base g : Nat) (w : World) (F F' : ScF) (S' : Sc) (w' : World) : Prop where
  m : ScM w' base g F' S'
  old : ∀ k, scS g F' k → scS g F k ∨ w.heap.size ≤ k
  chg : Chg (scS g F) w w'
theorem ScT.refl (h : ScM w base g F S) : ScT base g w F F S w := ⟨h, fun k hk => .inl hk, Chg.refl _ _⟩
theorem ScT.trans {w1 w2 : World} {F1 F2 : ScF} {S1 S2 : Sc} (h : ScT base g w F F1 S1 w1) (h2 : ScT base g w1 F1 F2 S2 w2) : ScT base g w F F2 S2 w2 := by
  have hs := h.chg.size
  refine ⟨h2.m, fun k hk => ?_, h.chg.trans h2.chg fun i hi hk => ?_⟩
  · rcases h2.old k hk with h3 | h3
    · exact h.old k h3
    · exact .inr (by omega)
  · rcases h.old i hk with h3 | h3
    · exact h3
    · omega
theorem ScT.ext {w1 w2 : World} {F1 : ScF} {S1 : Sc} (h : ScT base g w F F1 S1 w1) (hB : Below w1.heap.size w1 w2) : ScT base g w F F1 S1 w2 :=
  h.trans ⟨h.m.ext hB, fun k hk => .inl hk, Chg.of_ext hB⟩
theorem ScT.of_ext (h : ScM w base g F S) (hB : Below w.heap.size w w') : ScT base g w F F S w' := (ScT.refl h).ext hB
theorem ScT.drew {F1 : ScF} {S1 : Sc} (h : ScT base g w F F1 S1 w') : ScT base g w F F1 S1 w'.drew := h.ext ((Below.refl _ w').drew)
theorem ScT.mk_struct (h : ScM w base g F S) (hc : Chg (fun k => k = g) w w') (hb : Blk w' g ty_screen_Screen (T_screen_Screen.rep.cells (scX F S'))) (e0 : S'.g0 = S.g0) (e1 : S'.g1 = S.g1) (es : S'.stops = S.stops) (em : S'.modes = S.modes) (ep : S'.priv = S.priv) (ea : S'.areas = S.areas) (ok : ScOk S') : ScT base g w F F S' w' :=
  ⟨h.struct hc hb e0 e1 es em ep ea ok, fun k hk => .inl hk, hc.mono fun i hi e => .inl e⟩
theorem ScT.mk_grid (h : ScM w base g F S) {f' : Foot} {G' : GS} (hg : GridM w' base f' G') (hto : (F.f S.alt).to f' w.heap.size) (hc : Chg (gridS (F.f S.alt)) w w') (ok : ScOk (S.withG G')) : ScT base g w F (F.put S.alt f') (S.withG G') w' := by
  refine ⟨h.grid hg hto hc ok, fun k hk => ?_, hc.mono fun i hi e => ?_⟩
  · have hstep := hto.old
    revert hk hstep
    unfold ScF.put ScF.f
    cases S.alt
    · rintro (rfl | hk | hk | hk) hstep
      · exact .inl (.inl rfl)
      · rcases hstep k hk with h2 | h2
        · exact .inl (.inr (.inl h2))
        · exact .inr h2
      · exact .inl (.inr (.inr (.inl hk)))
      · exact .inl (.inr (.inr (.inr hk)))
    · rintro (rfl | hk | hk | hk) hstep
      · exact .inl (.inl rfl)
      · exact .inl (.inr (.inl hk))
      · rcases hstep k hk with h2 | h2
        · exact .inl (.inr (.inr (.inl h2)))
        · exact .inr h2
      · exact .inl (.inr (.inr (.inr hk)))
  · revert e
    unfold ScF.f
    cases S.alt
    · exact fun e => .inr (.inl e)
    · exact fun e => .inr (.inr (.inl e))
theorem ScM.gOk (h : ScM w base g F S) : GOk S.g := by
  unfold Sc.g
  cases S.alt
  · exact h.ok.g0
  · exact h.ok.g1
theorem ScM.gM (h : ScM w base g F S) : GridM w base (F.f S.alt) S.g := by
  unfold Sc.g ScF.f
  cases S.alt
  · exact h.g0
  · exact h.g1
theorem ScOk.grows (h : ScOk S) : S.g.rows = S.g0.rows ∧ S.g.cols = S.g0.cols := by
  unfold Sc.g
  cases S.alt
  · exact ⟨rfl, rfl⟩
  · exact ⟨h.rows, h.cols⟩
theorem ScOk.gOk (h : ScOk S) : GOk S.g := by
  unfold Sc.g
  cases S.alt
  · exact h.g0
  · exact h.g1
end
end Go.Proofs.YtmoafafalnbkpaaGreatDoor

set_option linter.unusedVariables false
namespace Go.Proofs.YtmoafafalnbkpaaGreatDoor
open Go.Vc Go.RowKit
set_option maxRecDepth 400000
theorem below_drew (w : World) : Below w.heap.size w w.drew := (Below.refl _ w).drew
theorem below_t {w w1 w2 : World} (h : Below w.heap.size w w1) (h2 : Below w1.heap.size w1 w2) : Below w.heap.size w w2 := h.trans (h2.mono h.size)
theorem putL_all {zs vs : List Value} (hl : vs.length = zs.length) : putL zs 0 vs = vs := by
  refine List.ext_getElem? fun m => ?_
  rw [putL_get vs zs 0 m (by omega)]
  by_cases hm : m < vs.length
  · rw [if_pos (by omega)]; rfl
  · rw [if_neg (by omega), List.getElem?_eq_none (by omega), List.getElem?_eq_none (by omega)]
theorem all_of {g : Nat} {t : TypeId} {vs us : List Value} {w : World} {K : World → Prop} (h : Blk w g t vs) (hl : us.length = vs.length) (hK : ∀ w', Blk w' g t us → Chg (fun k => k = g) w w' → w'.heap.size = w.heap.size → K w') : stK ⟨g, 0, none⟩ us w K :=
  stK_blk h (by omega) fun w' hb hg hs => hK w' (by rw [putL_all hl] at hb; exact hb) (Chg.gg hg) hs
theorem res_of {r : Rep} {g : Nat} {t : TypeId} {vs us : List Value} {x : r.T} {w : World} {K : r.T → World → Prop} (h : Blk w g t vs) (hus : r.cells x = us) (hl : us.length = vs.length) (hK : ∀ w', Chg (fun k => k = g) w w' → w'.heap.size = w.heap.size → K x w') :
    stK ⟨g, 0, none⟩ us w fun w' => ldS r ⟨g, 0, none⟩ w' fun y => K y w' :=
  all_of h hl fun w' hb hc hs => ldS_of (x := x) (by rw [hus]; exact hb.cells) (hK w' hc hs)
theorem below_one {w w1 w2 : World} {g : Nat} (h : Below w.heap.size w w1) (hc : Chg (fun k => k = g) w1 w2) (hg : w.heap.size ≤ g) : Below w.heap.size w w2 :=
  h.trans (hc.below h.size fun i hi e => by omega)
/-! ### Plain -/
theorem cutP_in {v lo hi : Int} (h : lo ≤ hi) : lo ≤ cutP v lo hi ∧ cutP v lo hi ≤ hi := by
  unfold cutP
  split <;> split at * <;> omega
theorem w64_of {x : Int} (h : -9223372036854775808 ≤ x ∧ x ≤ 9223372036854775807) : w64 x = x := wrap64_id h
section
variable {S : Sc}
theorem ScOk.cur (h : ScOk S) {c : Cur} (hr : 0 ≤ c.Row ∧ c.Row < (S.g.rows : Int)) (hc : 0 ≤ c.Col ∧ c.Col < (S.g.cols : Int)) (hs : c.Shift = 0 ∨ c.Shift = 1) : ScOk { S with c := c } := by
  obtain ⟨e1, e2⟩ := h.grows
  rw [e1] at hr
  rw [e2] at hc
  exact ⟨h.g0, h.g1, h.rows, h.cols, hr, hc, hs, h.sh0, h.sh1, h.top, h.marg, h.stops⟩
theorem ScOk.rowg (h : ScOk S) : 0 ≤ S.c.Row ∧ S.c.Row < (S.g.rows : Int) := by rw [h.grows.1]; exact h.row
theorem ScOk.colg (h : ScOk S) : 0 ≤ S.c.Col ∧ S.c.Col < (S.g.cols : Int) := by rw [h.grows.2]; exact h.col
theorem ScOk.bnd (h : ScOk S) : 1 ≤ S.g.rows ∧ S.g.rows ≤ 1000 ∧ 1 ≤ S.g.cols ∧ S.g.cols ≤ 1000 := ⟨h.gOk.rows.1, h.gOk.rows.2, h.gOk.cols.1, h.gOk.cols.2⟩
theorem ScOk.to (h : ScOk S) (row col : Int) : ScOk (S.to row col) := by
  have hb := h.bnd
  have e1 : w64 ((S.g.rows : Int) - 1) = (S.g.rows : Int) - 1 := w64_of (by omega)
  have e2 : w64 ((S.g.cols : Int) - 1) = (S.g.cols : Int) - 1 := w64_of (by omega)
  have h1 := cutP_in (v := row) (lo := 0) (hi := (S.g.rows : Int) - 1) (by omega)
  have h2 := cutP_in (v := col) (lo := 0) (hi := (S.g.cols : Int) - 1) (by omega)
  unfold Sc.to
  rw [e1, e2]
  exact h.cur (by show 0 ≤ cutP _ _ _ ∧ _; dsimp only; omega) (by show 0 ≤ cutP _ _ _ ∧ _; dsimp only; omega) h.shift
theorem ScOk.dry (h : ScOk S) : ScOk S.dry := h.cur h.rowg h.colg h.shift
theorem ScOk.withG (h : ScOk S) {G : GS} (hG : GOk G) (hr : G.rows = S.g.rows) (hc : G.cols = S.g.cols) : ScOk (S.withG G) := by
  obtain ⟨e1, e2⟩ := h.grows
  unfold Sc.withG
  split
  · exact ⟨h.g0, hG, hr.trans e1, hc.trans e2, h.row, h.col, h.shift, h.sh0, h.sh1, h.top, h.marg, h.stops⟩
  · have hr' := hr.trans e1
    have hc' := hc.trans e2
    refine ⟨hG, h.g1, by show S.g1.rows = G.rows; rw [hr', h.rows], by show S.g1.cols = G.cols; rw [hc', h.cols], ?_, ?_, h.shift, h.sh0, h.sh1, ?_, ?_, ?_⟩
    · show 0 ≤ S.c.Row ∧ S.c.Row < (G.rows : Int)
      rw [hr']; exact h.row
    · show 0 ≤ S.c.Col ∧ S.c.Col < (G.cols : Int)
      rw [hc']; exact h.col
    · show 0 ≤ S.top ∧ S.top < S.past ∧ S.past ≤ (G.rows : Int)
      rw [hr']; exact h.top
    · show 2 ≤ G.rows → _
      rw [hr']; exact h.marg
    · show S.stops.length = G.cols
      rw [hc']; exact h.stops
theorem ScOk.scroll (h : ScOk S) (top past n : Int) : ScOk (S.scroll top past n) := by
  have hl := scrollG_length (top := top) (past := past) (n := n) (a := S.blank) h.gOk.len
  exact h.withG (h.gOk.scroll top past n S.blank) hl.2.1 hl.2.2.1
theorem withG_g (S : Sc) (G : GS) : (S.withG G).g = G := by
  unfold Sc.withG Sc.g
  cases h : S.alt <;> simp
theorem withG_c (S : Sc) (G : GS) : (S.withG G).c = S.c := by unfold Sc.withG; split <;> rfl
theorem ScOk.save (h : ScOk S) : ScOk S.save := by
  unfold Sc.save Sc.withS
  split
  · exact ⟨h.g0, h.g1, h.rows, h.cols, h.row, h.col, h.shift, h.sh0, h.shift, h.top, h.marg, h.stops⟩
  · exact ⟨h.g0, h.g1, h.rows, h.cols, h.row, h.col, h.shift, h.shift, h.sh1, h.top, h.marg, h.stops⟩
end
/-! ### Walked -/
section
variable {w : World} {base g : Nat} {F : ScF} {S : Sc}
theorem cut_spec {v lo hi : Int} {K : Int → World → Prop} (hK : K (cutP v lo hi) w) : c_screen_cut v lo hi w K := by
  refine call_screen_cut _ _ _ ?_
  unfold sh_screen_cut
  exact hK
theorem between_spec {v lo hi : Int} {K : Bool → World → Prop} (hK : K (decide (lo ≤ v ∧ v ≤ hi)) w) : c_screen_between v lo hi w K := by
  refine call_screen_between _ _ _ ?_
  unfold sh_screen_between
  refine cond_of (fun e => ?_) fun e => ?_
  · have e := of_decide_eq_true e
    rw [show decide (lo ≤ v ∧ v ≤ hi) = decide (v ≤ hi) by simp; intro _; exact e] at hK
    exact hK
  · have e := of_decide_eq_false e
    rw [show decide (lo ≤ v ∧ v ≤ hi) = false by simp; omega] at hK
    exact hK
theorem sg_spec {K : Option Addr → World → Prop} (h : ScM w base g F S) (hK : K (some ⟨(F.f S.alt).g, 0, none⟩) w.drew) : c_screen_Screen_g (some ⟨g, 0, none⟩) w K := by
  refine call_screen_Screen_g _ ?_
  unfold sh_screen_Screen_g
  simp only [onPtr_some]
  have hb := h.drew.blk
  refine ldI_of (x := if S.alt then 1 else 0) (hb.cells 2 _ rfl) ?_
  revert hK
  have hx : (scX F S).grids = ⟨some ⟨F.f0.g, 0, none⟩, some ⟨F.f1.g, 0, none⟩⟩ := rfl
  cases hS : S.alt
  · intro hK
    exact ⟨⟨by decide, by decide⟩, ldP_of (x := some ⟨F.f0.g, 0, none⟩) (hb.cells 0 _ rfl) hK⟩
  · intro hK
    exact ⟨⟨by decide, by decide⟩, ldP_of (x := some ⟨F.f1.g, 0, none⟩) (hb.cells 1 _ rfl) hK⟩
theorem ssize_spec {K : Int → Int → World → Prop} (h : ScM w base g F S) (hK : K S.g.rows S.g.cols w.drew.drew) : c_screen_Screen_size (some ⟨g, 0, none⟩) w K := by
  refine call_screen_Screen_size _ ?_
  unfold sh_screen_Screen_size
  exact sg_spec h (gSize_spec h.drew.gM hK)
theorem blank_spec {K : Attr → World → Prop} (h : ScM w base g F S) (hK : ∀ w', Below w.heap.size w w' → K S.blank w') : c_screen_Screen_blank (some ⟨g, 0, none⟩) w K := by
  refine call_screen_Screen_blank _ ?_
  unfold sh_screen_Screen_blank
  simp only [onPtr_some]
  refine nw_blk fun w1 h1 hB1 hs1 => ?_
  refine ldI_of (x := S.c.A.Bg) ((h.ext hB1).blk.cells 7 _ rfl) ?_
  refine all_of h1 rfl fun w2 h2 hc2 hs2 => ?_
  exact ldS_of (r := T_api_Attr.rep) (x := S.blank) h2.cells (hK w2 (below_one hB1 hc2 (Nat.le_refl _)))
theorem to_spec {row col : Int} {K : World → Prop} (h : ScM w base g F S) (hK : ∀ w', ScT base g w F F (S.to row col) w' → K w') : c_screen_Screen_to (some ⟨g, 0, none⟩) row col w K := by
  refine call_screen_Screen_to _ _ _ ?_
  unfold sh_screen_Screen_to
  refine ssize_spec h (cut_spec (cut_spec ?_))
  simp only [onPtr_some]
  have hT := (ScT.refl h).drew.drew
  rw [add_mk, add_mk]
  refine stK_blk hT.m.blk (by simp [T_screen_Screen.rep]) fun w4 hb4 hg4 hs4 => ?_
  rw [add_mk]
  refine stK_blk hb4 (by simp [T_screen_Screen.rep, putL]) fun w5 hb5 hg5 hs5 => ?_
  rw [add_mk]
  refine stK_blk hb5 (by simp [T_screen_Screen.rep, putL]) fun w6 hb6 hg6 hs6 => ?_
  have hc : Chg (fun k => k = g) w.drew.drew w6 := ((Chg.gg hg4).trans (Chg.gg hg5) fun i _ hi => hi).trans (Chg.gg hg6) fun i _ hi => hi
  exact hK w6 (hT.trans (ScT.mk_struct hT.m hc (S' := S.to row col) hb6 rfl rfl rfl rfl rfl rfl (h.ok.to row col)))
end
end Go.Proofs.YtmoafafalnbkpaaGreatDoor

set_option linter.unusedVariables false
namespace Go.Proofs.YtmoafafalnbkpaaGreatDoor
open Go.Vc Go.RowKit
set_option maxRecDepth 400000
section
variable {w : World} {base g : Nat} {F : ScF} {S : Sc}
theorem ScM.base_le (h : ScM w base g F S) : base ≤ w.heap.size := by
  have := h.below g (.inl rfl)
  omega
theorem scroll_spec {top past n : Int} {K : Int → World → Prop} (h : ScM w base g F S) (hn : -9223372036854775808 ≤ n ∧ n ≤ 9223372036854775807) (hK : ∀ v F' w', ScT base g w F F' (S.scroll top past n) w' → K v w') : c_grid_Grid_Scroll (some ⟨(F.f S.alt).g, 0, none⟩) top past n S.blank w K := by
  have hG := h.gOk
  refine gScroll_spec h.gM hG.len hG.rows.2 (by have := hG.most; omega) h.base_le hn fun f' w' hg hto hc => ?_
  exact hK _ _ w' (ScT.mk_grid h hg hto hc (h.ok.scroll top past n))
/-- The margins' lines scroll, as the code says it. -/
theorem scrolls {n top past : Int} {K : Int → World → Prop} (h : ScM w base g F S) (ht : top = S.top) (hp : past = S.past) (hn : -9223372036854775808 ≤ n ∧ n ≤ 9223372036854775807) (hK : ∀ v F' w', ScT base g w F F' (S.scroll S.top S.past n) w' → K v w') :
    c_screen_Screen_g (some ⟨g, 0, none⟩) w fun t18 w2 => World.cell? w2 ((⟨g, 0, none⟩ : Addr).add 38) = some (.int .i64 past) ∧ World.cell? w2 ((⟨g, 0, none⟩ : Addr).add 37) = some (.int .i64 top) ∧
      c_screen_Screen_blank (some ⟨g, 0, none⟩) w2 fun t28 w3 => World.cell? w3 ((⟨g, 0, none⟩ : Addr).add 38) = some (.int .i64 past) ∧ World.cell? w3 ((⟨g, 0, none⟩ : Addr).add 37) = some (.int .i64 top) ∧
        c_grid_Grid_Scroll t18 top past n t28 w3 K := by
  subst ht hp
  refine sg_spec h ⟨h.drew.blk.cells 38 _ rfl, h.drew.blk.cells 37 _ rfl, ?_⟩
  refine blank_spec h.drew fun w3 hB3 => ?_
  have h3 := h.drew.ext hB3
  refine ⟨h3.blk.cells 38 _ rfl, h3.blk.cells 37 _ rfl, ?_⟩
  refine scroll_spec h3 hn fun v F' w' hT => hK v F' w' ?_
  exact ((ScT.refl h).drew.ext hB3).trans hT
theorem ScT.dry (h : ScM w base g F S) {w' : World} (hb : Blk w' g ty_screen_Screen (putL (T_screen_Screen.rep.cells (scX F S)) 5 [.bool false])) (hg : w.grownBy w' (some g)) : ScT base g w F F S.dry w' :=
  ScT.mk_struct h (Chg.gg hg) hb rfl rfl rfl rfl rfl rfl h.ok.dry
theorem index_spec {K : World → Prop} (h : ScM w base g F S) (hK : ∀ F' w', ScT base g w F F' S.index w' → K w') : c_screen_Screen_index (some ⟨g, 0, none⟩) w K := by
  refine call_screen_Screen_index _ ?_
  unfold sh_screen_Screen_index
  simp only [onPtr_some]
  rw [add_mk, add_mk]
  refine stK_blk h.blk (by simp [T_screen_Screen.rep]) fun w1 hb1 hg1 hs1 => ?_
  have hT1 : ScT base g w F F S.dry w1 := ScT.dry h hb1 hg1
  have hd := hT1.drew
  refine ldI_of (x := S.c.Row) (hd.m.blk.cells 3 _ rfl) (ldI_of (x := S.past) (hd.m.blk.cells 38 _ rfl) ?_)
  have hdd := hd.drew
  unfold Sc.index at hK
  refine cond_of (fun e => ?_) fun e => ?_
  · have e : S.c.Row = w64 (S.past - 1) := eq_of_beq e
    rw [if_pos e] at hK
    refine ldI_of (x := S.top) (hdd.m.blk.cells 37 _ rfl) (ldI_of (x := S.past) (hdd.m.blk.cells 38 _ rfl) ?_)
    exact scrolls hdd.m rfl rfl (by decide) fun v F' w' hT => hK F' w' (hdd.trans hT)
  · have e : ¬ S.c.Row = w64 (S.past - 1) := beq_eq_false_iff_ne.1 e
    rw [if_neg e] at hK
    refine ldI_of (x := S.c.Row) (hdd.m.blk.cells 3 _ rfl) (ldI_of (x := S.c.Col) (hdd.m.blk.cells 4 _ rfl) ?_)
    exact to_spec hdd.m fun w' hT => hK F w' (hdd.trans hT)
theorem reverse_spec {K : World → Prop} (h : ScM w base g F S) (hK : ∀ F' w', ScT base g w F F' S.reverse w' → K w') : c_screen_Screen_reverse (some ⟨g, 0, none⟩) w K := by
  refine call_screen_Screen_reverse _ ?_
  unfold sh_screen_Screen_reverse
  simp only [onPtr_some]
  rw [add_mk, add_mk]
  refine stK_blk h.blk (by simp [T_screen_Screen.rep]) fun w1 hb1 hg1 hs1 => ?_
  have hT1 : ScT base g w F F S.dry w1 := ScT.dry h hb1 hg1
  have hd := hT1.drew
  refine ldI_of (x := S.c.Row) (hd.m.blk.cells 3 _ rfl) (ldI_of (x := S.top) (hd.m.blk.cells 37 _ rfl) ?_)
  have hdd := hd.drew
  unfold Sc.reverse at hK
  refine cond_of (fun e => ?_) fun e => ?_
  · have e : S.c.Row = S.top := eq_of_beq e
    rw [if_pos e] at hK
    refine ldI_of (x := S.top) (hdd.m.blk.cells 37 _ rfl) (ldI_of (x := S.past) (hdd.m.blk.cells 38 _ rfl) ?_)
    exact scrolls hdd.m rfl rfl (by decide) fun v F' w' hT => hK F' w' (hdd.trans hT)
  · have e : ¬ S.c.Row = S.top := beq_eq_false_iff_ne.1 e
    rw [if_neg e] at hK
    refine ldI_of (x := S.c.Row) (hdd.m.blk.cells 3 _ rfl) (ldI_of (x := S.c.Col) (hdd.m.blk.cells 4 _ rfl) ?_)
    exact to_spec hdd.m fun w' hT => hK F w' (hdd.trans hT)
theorem home_spec {K : World → Prop} (h : ScM w base g F S) (hK : ∀ w', ScT base g w F F S.home w' → K w') : c_screen_Screen_home (some ⟨g, 0, none⟩) w K := by
  refine call_screen_Screen_home _ ?_
  unfold sh_screen_Screen_home
  simp only [onPtr_some]
  refine ldB_of (x := S.c.Origin) (by rw [add_mk]; exact h.blk.cells 9 _ rfl) ?_
  unfold Sc.home at hK
  refine cond_of (fun e => ?_) fun e => ?_
  · have e : S.c.Origin = true := e
    rw [if_pos e] at hK
    exact ldI_of (x := S.top) (h.blk.cells 37 _ rfl) (to_spec h hK)
  · have e : S.c.Origin = false := e
    rw [if_neg (by rw [e]; decide)] at hK
    exact to_spec h hK
theorem up_spec {n : Int} {K : World → Prop} (h : ScM w base g F S) (hK : ∀ w', ScT base g w F F (S.up n) w' → K w') : c_screen_Screen_up (some ⟨g, 0, none⟩) n w K := by
  refine call_screen_Screen_up _ _ ?_
  unfold sh_screen_Screen_up
  simp only [onPtr_some]
  refine joinP_of fun J1 hJ1 => ?_
  have hd := (ScT.refl h).drew
  refine ldI_of (x := S.c.Row) (hd.m.blk.cells 3 _ rfl) (ldI_of (x := S.top) (hd.m.blk.cells 37 _ rfl) ?_)
  have key : ∀ v, v = (if S.c.Row ≥ S.top then S.top else 0) → J1 (v, ()) w.drew := by
    rintro v rfl
    refine hJ1 _ _ ?_
    have hdd := hd.drew
    refine ldI_of (x := S.c.Row) (hdd.m.blk.cells 3 _ rfl) (ldI_of (x := S.c.Col) (hdd.m.blk.cells 4 _ rfl) ?_)
    exact to_spec hdd.m fun w' hT => hK w' (hdd.trans hT)
  refine cond_of (fun e => ?_) fun e => ?_
  · have e := of_decide_eq_true e
    exact ldI_of (x := S.top) (hd.m.blk.cells 37 _ rfl) (key _ (by rw [if_pos e]))
  · have e := of_decide_eq_false e
    exact key _ (by rw [if_neg e])
theorem down_spec {n : Int} {K : World → Prop} (h : ScM w base g F S) (hK : ∀ w', ScT base g w F F (S.down n) w' → K w') : c_screen_Screen_down (some ⟨g, 0, none⟩) n w K := by
  refine call_screen_Screen_down _ _ ?_
  unfold sh_screen_Screen_down
  refine ssize_spec h ?_
  simp only [onPtr_some]
  refine joinP_of fun J1 hJ1 => ?_
  have hd := (ScT.refl h).drew.drew.drew
  refine ldI_of (x := S.c.Row) (hd.m.blk.cells 3 _ rfl) (ldI_of (x := S.past) (hd.m.blk.cells 38 _ rfl) ?_)
  have key : ∀ v, v = (if S.c.Row < S.past then S.past else (S.g.rows : Int)) → J1 (v, ()) w.drew.drew.drew := by
    rintro v rfl
    refine hJ1 _ _ ?_
    have hdd := hd.drew
    refine ldI_of (x := S.c.Row) (hdd.m.blk.cells 3 _ rfl) (ldI_of (x := S.c.Col) (hdd.m.blk.cells 4 _ rfl) ?_)
    exact to_spec hdd.m fun w' hT => hK w' (hdd.trans hT)
  refine cond_of (fun e => ?_) fun e => ?_
  · have e := of_decide_eq_true e
    exact ldI_of (x := S.past) (hd.m.blk.cells 38 _ rfl) (key _ (by rw [if_pos e]))
  · have e := of_decide_eq_false e
    exact key _ (by rw [if_neg e])
theorem first_spec {K : Cur → World → Prop} (hK : ∀ w', Below w.heap.size w w' → K first0 w') : c_screen_first w K := by
  refine call_screen_first ?_
  unfold sh_screen_first
  refine nw_blk fun w1 h1 hB1 hs1 => ?_
  exact res_of (r := T_screen_Cursor.rep) (x := first0) h1 rfl rfl fun w2 hc2 hs2 => hK w2 (below_one hB1 hc2 (Nat.le_refl _))
theorem cur_cells {S : Sc} (h : ScM w base g F S) : cellsAt w ((⟨g, 0, none⟩ : Addr).add 3) (T_screen_Cursor.rep.cells S.c) := by
  rw [add_mk]
  intro j v hj
  have : (T_screen_Screen.rep.cells (scX F S))[3 + j]? = some v := by
    match j, hj with
    | 0, hj => exact hj
    | 1, hj => exact hj
    | 2, hj => exact hj
    | 3, hj => exact hj
    | 4, hj => exact hj
    | 5, hj => exact hj
    | 6, hj => exact hj
    | 7, hj => exact hj
    | 8, hj => exact hj
    | 9, hj => exact hj
    | j + 10, hj => cases hj
  have h2 := h.blk.cells (3 + j) v this
  rw [add_mk] at h2 ⊢
  rw [show 0 + 3 + j = 0 + (3 + j) by omega]
  exact h2
theorem Cursor_spec {K : Cur → World → Prop} (h : ScM w base g F S) (hK : ∀ w', Below w.heap.size w w' → K S.c w') : c_screen_Screen_Cursor (some ⟨g, 0, none⟩) w K := by
  refine call_screen_Screen_Cursor _ ?_
  unfold sh_screen_Screen_Cursor
  simp only [onPtr_some]
  refine nw_blk fun w1 h1 hB1 hs1 => ?_
  refine ldS_of (r := T_screen_Cursor.rep) (x := S.c) (cur_cells (h.ext hB1)) ?_
  exact res_of (r := T_screen_Cursor.rep) (x := S.c) h1 rfl rfl fun w2 hc2 hs2 => hK w2 (below_one hB1 hc2 (Nat.le_refl _))
theorem Margins_spec {K : Int → Int → World → Prop} (h : ScM w base g F S) (hK : K S.top S.past w.drew) : c_screen_Screen_Margins (some ⟨g, 0, none⟩) w K := by
  refine call_screen_Screen_Margins _ ?_
  unfold sh_screen_Screen_Margins
  simp only [onPtr_some]
  exact ldI_of (x := S.top) (h.drew.blk.cells 37 _ rfl) (ldI_of (x := S.past) (h.drew.blk.cells 38 _ rfl) hK)
theorem Alt_spec {K : Bool → World → Prop} (h : ScM w base g F S) (hK : K S.alt w) : c_screen_Screen_Alt (some ⟨g, 0, none⟩) w K := by
  refine call_screen_Screen_Alt _ ?_
  unfold sh_screen_Screen_Alt
  simp only [onPtr_some]
  refine ldI_of (x := if S.alt then 1 else 0) (h.blk.cells 2 _ rfl) ?_
  cases hS : S.alt <;> rw [hS] at hK <;> exact hK
theorem save_spec {K : World → Prop} (h : ScM w base g F S) (hK : ∀ w', ScT base g w F F S.save w' → K w') : c_screen_Screen_save (some ⟨g, 0, none⟩) w K := by
  refine call_screen_Screen_save _ ?_
  unfold sh_screen_Screen_save
  simp only [onPtr_some]
  have hd := (ScT.refl h).drew
  refine ldI_of (x := if S.alt then 1 else 0) (hd.m.blk.cells 2 _ rfl) ?_
  refine ldS_of (r := T_screen_Cursor.rep) (x := S.c) (cur_cells hd.m) ?_
  have ok := h.ok.save
  cases hS : S.alt
  · have e1 : S.save = { S with s0 := ⟨S.c, true⟩ } := by unfold Sc.save Sc.withS; rw [hS]; rfl
    rw [e1] at hK ok
    refine ⟨⟨by decide, by decide⟩, ?_⟩
    rw [add_mk, add_mk]
    refine stK_blk hd.m.blk (by simp [T_screen_Screen.rep]) fun w4 hb4 hg4 hs4 => ?_
    refine hK w4 (hd.trans (ScT.mk_struct hd.m (Chg.gg hg4) (S' := { S with s0 := ⟨S.c, true⟩ }) ?_ rfl rfl rfl rfl rfl rfl ok))
    exact hb4
  · have e1 : S.save = { S with s1 := ⟨S.c, true⟩ } := by unfold Sc.save Sc.withS; rw [hS]; rfl
    rw [e1] at hK ok
    refine ⟨⟨by decide, by decide⟩, ?_⟩
    rw [add_mk, add_mk]
    refine stK_blk hd.m.blk (by simp [T_screen_Screen.rep]) fun w4 hb4 hg4 hs4 => ?_
    refine hK w4 (hd.trans (ScT.mk_struct hd.m (Chg.gg hg4) (S' := { S with s1 := ⟨S.c, true⟩ }) ?_ rfl rfl rfl rfl rfl rfl ok))
    exact hb4
end
end Go.Proofs.YtmoafafalnbkpaaGreatDoor

set_option linter.unusedVariables false
namespace Go.Proofs.YtmoafafalnbkpaaGreatDoor
open Go.Vc Go.RowKit
set_option maxRecDepth 400000
def spanE : El T_utf_span where
  cells := T_utf_span.rep.cells
  t := ty_utf_span
  k := 2
  pos := by decide
  len _ := rfl
  one x v hv := by
    simp only [T_utf_span.rep, List.mem_cons, List.mem_nil_iff, or_false] at hv
    rcases hv with rfl | rfl <;> rfl
def runE' : El Int where
  cells x := [.int .i32 x]
  t := ty_int32
  k := 1
  pos := by decide
  len _ := rfl
  one x v hv := by
    simp only [List.mem_cons, List.mem_nil_iff, or_false] at hv
    rcases hv with rfl
    rfl
def spans (l : List (Int × Int)) : List T_utf_span := l.map fun p => ⟨p.1, p.2⟩
def inS (r : Int) (p : T_utf_span) : Bool := decide (p.lo ≤ r) && decide (r ≤ p.hi)
theorem inW_spans (r : Int) (l : List (Int × Int)) : (spans l).any (inS r) = inW r l := by
  unfold spans inW
  rw [List.any_map]
  rfl
section
variable {w : World}
theorem in_spec {r : Int} {l : Slc} {xs : List T_utf_span} {K : Bool → World → Prop} (hl : Rd spanE w l xs) (hxs : xs.length ≤ 1000) (hK : ∀ w', Below w.heap.size w w' → K (xs.any (inS r)) w') : c_utf_in r l w K := by
  refine call_utf_in _ _ ?_
  unfold sh_utf_in
  refine loopP_rule (fun (st : Int × Unit) w1 => ∃ k : Nat, st.1 = (k : Int) ∧ k ≤ xs.length ∧ (xs.take k).any (inS r) = false ∧ Below w.heap.size w w1) (fun st => xs.length - st.1.toNat) ⟨0, rfl, Nat.zero_le _, rfl, Below.refl _ _⟩ ?_
  rintro ⟨i, u⟩ w1 ⟨k, hi, hk, hno, hB1⟩ I hI
  dsimp only at hi ⊢
  subst hi
  rw [hl.n]
  refine cond_of (fun e => ?_) fun e => ?_
  · have e := of_decide_eq_true e
    have hkl : k < xs.length := by omega
    have hl1 := hl.ext hB1
    have hm := hl1.cm
    have hn := hl1.n
    have hnc := hl1.nc
    have hx : xs[k]? = some xs[k] := List.getElem?_eq_getElem hkl
    refine hl1.ix (i := (k : Int)) rfl (by omega) (by omega) fun hc => ?_
    rw [Int.toNat_natCast]
    refine ldS_of (r := T_utf_span.rep) (x := xs[k]) (hl1.at_ k _ hx) ?_
    refine nw_blk fun w2 h2 hB2 hs2 => all_of h2 rfl fun w3 h3 hc3 hs3 => ?_
    have hB3 : Below w.heap.size w w3 := below_t hB1 (below_one hB2 hc3 (Nat.le_refl _))
    have step : inS r xs[k] = false → I (IntKind.i64.wrap ((k : Int) + 1), ()) w3 := by
      intro hf
      rw [wrap64_id (by omega)]
      refine hI _ _ ⟨k + 1, by simp, by omega, ?_, hB3⟩ (by dsimp only; omega)
      rw [List.take_add_one, hx, List.any_append, hno]
      simpa using hf
    have found : inS r xs[k] = true → K true w3 := by
      intro ht
      have := hK w3 hB3
      rw [show xs.any (inS r) = true from List.any_eq_true.2 ⟨_, List.getElem_mem hkl, ht⟩] at this
      exact this
    refine ldI_of (x := xs[k].lo) (h3.cells 0 _ rfl) (cond_of (fun e1 => ?_) fun e1 => ?_)
    · have e1 : xs[k].lo ≤ r := of_decide_eq_true e1
      refine ldI_of (x := xs[k].hi) (h3.cells 1 _ rfl) (cond_of (fun e2 => ?_) fun e2 => ?_)
      · exact found (by unfold inS; rw [decide_eq_true e1, e2]; rfl)
      · exact step (by unfold inS; rw [decide_eq_true e1, e2]; rfl)
    · exact step (by unfold inS; rw [show decide (xs[k].lo ≤ r) = false from e1]; rfl)
  · have e := of_decide_eq_false e
    obtain rfl : k = xs.length := by omega
    rw [List.take_length] at hno
    have := hK w1 hB1
    rw [hno] at this
    exact this
theorem thin_spec {K : Slc → World → Prop} (hK : ∀ s w', Rd spanE w' s (spans thinL) → Below w.heap.size w w' → K s w') : c_utf_thin w K := by
  refine call_utf_thin ?_
  unfold sh_utf_thin
  exact nw_blk fun w1 h1 hB1 hs1 => hK _ w1 (rd_lits (E := spanE) (ys := spans thinL) h1 (by simp [spans, thinL, maxLen]) rfl) hB1
theorem wide_spec {K : Slc → World → Prop} (hK : ∀ s w', Rd spanE w' s (spans wideL) → Below w.heap.size w w' → K s w') : c_utf_wide w K := by
  refine call_utf_wide ?_
  unfold sh_utf_wide
  exact nw_blk fun w1 h1 hB1 hs1 => hK _ w1 (rd_lits (E := spanE) (ys := spans wideL) h1 (by simp [spans, wideL, maxLen]) rfl) hB1
theorem isR_spec {r : Int} {K : Bool → World → Prop} (hK : K (isW r) w) : c_utf_Is r w K := by
  refine call_utf_Is _ ?_
  unfold sh_utf_Is
  unfold isW at hK
  refine cond_of (fun e1 => ?_) fun e1 => ?_
  · have h1 : (0 : Int) ≤ r := of_decide_eq_true e1
    rw [decide_eq_true h1] at hK
    refine cond_of (fun e2 => ?_) fun e2 => ?_
    · rw [e2] at hK
      refine cond_of (fun e3 => ?_) fun e3 => ?_
      · rw [e3] at hK; exact hK
      · rw [e3] at hK; exact hK
    · rw [e2] at hK; exact hK
  · rw [show decide ((0 : Int) ≤ r) = false from e1] at hK
    exact hK
theorem Width_spec {r : Int} {K : Int → World → Prop} (hK : ∀ w', Below w.heap.size w w' → K (widthP r) w') : c_utf_Width r w K := by
  refine call_utf_Width _ ?_
  unfold sh_utf_Width
  unfold widthP at hK
  refine joinP_of fun J1 hJ1 => isR_spec ?_
  refine cond_of (fun e => ?_) fun e => ?_
  · have e : isW r = false := by simpa using e
    rw [if_pos (.inl e)] at hK
    exact hJ1 _ _ (cond_t rfl (hK w (Below.refl _ _)))
  · have e : isW r = true := by simpa using e
    refine thin_spec fun s w1 hs hB1 => in_spec hs (by simp [spans, thinL]) fun w2 hB2 => ?_
    rw [inW_spans]
    refine hJ1 _ _ ?_
    have hB02 := below_t hB1 hB2
    refine cond_of (fun e2 => ?_) fun e2 => ?_
    · have e2 : inW r thinL = true := e2
      rw [if_pos (.inr e2)] at hK
      exact hK w2 hB02
    · have e2 : inW r thinL = false := e2
      rw [if_neg (by rw [e, e2]; simp)] at hK
      refine wide_spec fun s w3 hs hB3 => in_spec hs (by simp [spans, wideL]) fun w4 hB4 => ?_
      rw [inW_spans]
      have hB04 := below_t (below_t hB02 hB3) hB4
      refine cond_of (fun e3 => ?_) fun e3 => ?_
      · rw [if_pos e3] at hK; exact hK w4 hB04
      · rw [if_neg (by rw [e3]; decide)] at hK; exact hK w4 hB04
theorem width_in {r : Int} (h : widthP r ≠ 0) : 0 ≤ r ∧ r ≤ 1114111 := by
  unfold widthP at h
  by_cases e : isW r = false
  · rw [if_pos (.inl e)] at h; exact absurd rfl h
  · have e : isW r = true := by simpa using e
    unfold isW at e
    simp only [Bool.and_eq_true, decide_eq_true_eq] at e
    exact e.1
theorem width_two (r : Int) : widthP r = 0 ∨ widthP r = 1 ∨ widthP r = 2 := by
  unfold widthP
  split
  · exact .inl rfl
  · split
    · exact .inr (.inr rfl)
    · exact .inr (.inl rfl)
theorem Graphic_spec {set b : Int} {K : Int → World → Prop} (hb : 0 ≤ b ∧ b ≤ 255) (hK : ∀ w', Below w.heap.size w w' → K (graphicP set b) w') : c_utf_Graphic set b w K := by
  refine call_utf_Graphic _ _ ?_
  unfold sh_utf_Graphic
  unfold graphicP at hK
  have hw : IntKind.i32.wrap b = b := by
    obtain ⟨n, rfl⟩ : ∃ n : Nat, b = n := ⟨b.toNat, by omega⟩
    exact wrap_nat .i32 (by show _ < 2 ^ 31; omega)
  rw [hw]
  refine joinP_of fun J1 hJ1 => ?_
  have no : ¬ (set = 48 ∧ 95 ≤ b ∧ b ≤ 126) → ∀ v : Bool, v = false → J1 (v, ()) w := by
    rintro hn v rfl
    rw [if_neg hn] at hK
    exact hJ1 _ _ (cond_f rfl (hK w (Below.refl _ _)))
  refine cond_of (fun e => ?_) fun e => ?_
  · have e : set = 48 := eq_of_beq e
    refine cond_of (fun e1 => ?_) fun e1 => ?_
    · have e1 := of_decide_eq_true e1
      by_cases h2 : b ≤ 126
      · rw [decide_eq_true h2]
        rw [if_pos ⟨e, e1, h2⟩] at hK
        refine hJ1 _ _ (cond_t rfl ?_)
        refine call_utf_lines ?_
        unfold sh_utf_lines
        refine nw_blk fun w1 h1 hB1 hs1 => ?_
        have hr : Rd runE' w1 ⟨some ⟨w.heap.size, 0, none⟩, 32, 32⟩ linesP := rd_lits (E := runE') (ys := linesP) h1 (by simp [linesP, maxLen]) rfl
        obtain ⟨n, hn⟩ : ∃ n : Nat, b - 95 = n := ⟨(b - 95).toNat, by omega⟩
        rw [hn, show IntKind.u8.wrap (n : Int) = n from wrap_nat .u8 (by show _ < 2 ^ 8; omega)]
        have hnl : n < linesP.length := by show n < 32; omega
        refine hr.ix (i := (n : Int)) rfl (by omega) (by show (n : Int) < ((32 : Nat) : Int); omega) fun _ => ?_
        have hx : linesP[n]? = some linesP[n] := List.getElem?_eq_getElem hnl
        rw [Int.toNat_natCast]
        refine ldI_of (x := linesP[n]) (by simpa using hr.at_ n _ hx 0 _ rfl) ?_
        have := hK w1 hB1
        rw [hn, Int.toNat_natCast, List.getD_eq_getElem?_getD, hx] at this
        exact this
      · exact no (fun hh => h2 hh.2.2) _ (decide_eq_false h2)
    · have e1 := of_decide_eq_false e1
      exact no (fun hh => e1 hh.2.1) _ rfl
  · have e : ¬ set = 48 := beq_eq_false_iff_ne.1 e
    exact no (fun hh => e hh.1) _ rfl
end
section
variable {w : World} {base g : Nat} {F : ScF} {S : Sc}
theorem ScOk.changed (h : ScOk S) {f : List Cell → List Cell} (hok : ∀ xs, okR xs → okR (f xs)) {row : Int} (hr : 0 ≤ row ∧ row < (S.g.rows : Int)) : ScOk (S.withG { S.g with L := S.g.L.set row.toNat (resL (f (S.g.L.getD row.toNat [])) S.g.cols) }) := by
  have hG := h.gOk
  refine h.withG (hG.set row.toNat ?_) rfl rfl
  refine res_good hG.cols.2 (hok _ ?_)
  have hl : row.toNat < S.g.L.length := by rw [hG.len]; omega
  rw [List.getD_eq_getElem?_getD, List.getElem?_eq_getElem hl]
  exact (hG.L _ (List.getElem_mem hl)).2.2
theorem change_spec {fv : Value} {f : List Cell → List Cell} {row : Int} {K : Bool → World → Prop} (h : ScM w base g F S) (hr : 0 ≤ row ∧ row < (S.g.rows : Int)) (hlen : ∀ xs, (f xs).length = xs.length) (hok : ∀ xs, okR xs → okR (f xs))
    (hf : ∀ (l : Slc) (xs : List Cell) (K' : Slc → World → Prop), Rd cellE w.drew l xs → xs.length ≤ 10000 → (∀ s w2, Go.Vc.Own cellE w2 w.drew.heap.size s (f xs) → Below w.drew.heap.size w.drew w2 → K' s w2) → callR C fv [.slice l.a l.n l.c] [Kind.slice] w.drew K')
    (hK : ∀ F' w', ScT base g w F F' (S.withG { S.g with L := S.g.L.set row.toNat (resL (f (S.g.L.getD row.toNat [])) S.g.cols) }) w' → K true w') : c_grid_Grid_Change (some ⟨(F.f S.alt).g, 0, none⟩) row fv w K := by
  refine call_grid_Grid_Change _ _ _ ?_
  unfold sh_grid_Grid_Change
  simp only [onPtr_some]
  have h3 := h.gM
  have hG := h.gOk
  have hbase := h.base_le
  refine joinP_of fun J hJ => ?_
  refine gis_spec h3 ?_
  rw [decide_eq_true hr]
  refine cond_t rfl ?_
  refine ldSl_of (x := (F.f S.alt).ls) (h3.drew.blk.cells 3 _ rfl) ?_
  refine ldSl_of (x := (F.f S.alt).ls) (h3.drew.blk.cells 3 _ rfl) ?_
  obtain ⟨ls, ho, hl⟩ := h3.row
  have hll := hl.1
  have hgl := hG.len
  refine ho.drew.rd.ix rfl hr.1 (by omega) fun hc => ?_
  have hlk : ls[row.toNat]? = some (ls[row.toNat]'(by omega)) := List.getElem?_eq_getElem _
  have hxk : S.g.L[row.toNat]? = some (S.g.L[row.toNat]'(by omega)) := List.getElem?_eq_getElem _
  refine ldSl_of (x := ls[row.toNat]'(by omega)) (by simpa using hc 0 _ rfl) ?_
  refine ldI_of (x := (S.g.cols : Int)) (h3.drew.blk.cells 2 _ rfl) ?_
  have hwk : (S.g.L[row.toNat]'(by omega)).length ≤ 10000 := by
    have := (hG.L _ (List.mem_of_getElem? hxk)).2.1
    have := hG.cols.2
    omega
  refine hf _ _ _ (hl.2 _ _ _ hlk hxk).drew.rd hwk fun t w4 ht hB4 => ?_
  have hB34 : Below w.heap.size w w4 := (below_drew w).trans hB4
  have h4 := h3.ext hB34
  refine ⟨h4.blk.cells 2 _ rfl, h4.blk.cells 3 _ rfl, ?_⟩
  refine Resize_spec ht.rd (by rw [hlen]; exact hwk) fun u w5 hu hB5 => ?_
  have hB35 : Below w.heap.size w w5 := hB34.trans (hB5.mono hB34.size)
  have h5 := h3.ext hB35
  refine ⟨h5.blk.cells 3 _ rfl, ?_⟩
  have ho5 := ho.ext hB35
  have hs4 := hB34.size
  refine ho5.rd.ix rfl hr.1 (by omega) fun _ => ?_
  refine ho5.st0 (x := ls[row.toNat]'(by omega)) hlk (y := u) rfl fun w6 ho6 hg6 hs6 => ?_
  obtain ⟨h6, hc6⟩ := h5.setLine (i := row.toNat) (hl.ext hB35) (hu.base (by omega)) ho6 hg6
  refine hJ _ _ (gis_spec h6 ?_)
  rw [decide_eq_true hr]
  have ok := h.ok.changed hok hr
  rw [List.getD_eq_getElem?_getD, hxk] at hK ok
  have hTe := ScT.of_ext h hB35
  refine hK _ w6 (hTe.trans (ScT.mk_grid hTe.m h6 (Foot.to.refl _ _) (hc6.mono fun i _ hi => .inr (.inr (.inl hi))) ok))
end
end Go.Proofs.YtmoafafalnbkpaaGreatDoor

set_option linter.unusedVariables false
namespace Go.Proofs.YtmoafafalnbkpaaGreatDoor
open Go.Vc Go.RowKit
set_option maxRecDepth 400000
/-! ### Plain -/
section
variable {S : Sc}
theorem scroll_g (S : Sc) (top past n : Int) : (S.scroll top past n).g = scrollG S.g top past n S.blank := withG_g _ _
theorem index_cols (h : ScOk S) : S.index.g.cols = S.g.cols ∧ S.index.g.rows = S.g.rows := by
  unfold Sc.index
  split
  · rw [scroll_g]
    have hl := scrollG_length (top := S.dry.top) (past := S.dry.past) (n := 1) (a := S.dry.blank) h.dry.gOk.len
    exact ⟨hl.2.2.1, hl.2.1⟩
  · exact ⟨rfl, rfl⟩
theorem next_cols (h : ScOk S) : S.next.g.cols = S.g.cols ∧ S.next.g.rows = S.g.rows := index_cols (h.to S.c.Row 0)
theorem ScOk.setCol (h : ScOk S) {col : Int} (hc : 0 ≤ col ∧ col < (S.g.cols : Int)) : ScOk (S.setCol col) := h.cur h.rowg hc h.shift
theorem putL_len (S : Sc) (r w : Int) (xs : List Cell) : (S.putL r w xs).length = xs.length := by
  unfold Sc.putL
  rw [putP_length]
  split
  · exact insL_length _ _ _ _
  · rfl
theorem putL_okR (S : Sc) {r : Int} (hr : 0 ≤ r ∧ r ≤ 1114111) (w : Int) (xs : List Cell) (h : okR xs) : okR (S.putL r w xs) := by
  unfold Sc.putL
  refine okR_put ?_ (by omega)
  split
  · exact okR_ins h _ _ _
  · exact h
theorem change_c (S : Sc) (f : List Cell → List Cell) : (S.change f).c = S.c := by
  unfold Sc.change
  split
  · exact withG_c _ _
  · rfl
theorem change_cols (S : Sc) (f : List Cell → List Cell) : (S.change f).g.cols = S.g.cols ∧ (S.change f).g.rows = S.g.rows := by
  unfold Sc.change
  split
  · rw [withG_g]; exact ⟨rfl, rfl⟩
  · exact ⟨rfl, rfl⟩
theorem ScOk.change (h : ScOk S) {f : List Cell → List Cell} (hok : ∀ xs, okR xs → okR (f xs)) : ScOk (S.change f) := by
  unfold Sc.change
  rw [if_pos h.rowg]
  exact h.changed hok h.rowg
theorem ScOk.char (h : ScOk S) (r : Int) : ScOk { S with char := r } := ⟨h.g0, h.g1, h.rows, h.cols, h.row, h.col, h.shift, h.sh0, h.sh1, h.top, h.marg, h.stops⟩
theorem ScOk.laid (h : ScOk S) {r wd : Int} (hr : 0 ≤ r ∧ r ≤ 1114111) (hw : 1 ≤ wd ∧ wd ≤ 2) (wrap : Bool) : ScOk (S.laid r wd wrap) := by
  have h1 := h.change (putL_okR S hr wd)
  have hb := h.bnd
  have hc := h.colg
  obtain ⟨e1, e2⟩ := change_cols S (S.putL r wd)
  have ec := change_c S (S.putL r wd)
  unfold Sc.laid
  dsimp only
  have ew : w64 (S.c.Col + wd) = S.c.Col + wd := w64_of (by omega)
  have ew2 : w64 ((S.g.cols : Int) - 1) = (S.g.cols : Int) - 1 := w64_of (by omega)
  rw [ew, ew2]
  have hrow := h1.rowg
  have hsh := h1.shift
  split
  · exact h1.cur hrow (by dsimp only; rw [e1]; omega) hsh
  · rename_i hlt
    have hlt : ¬ S.c.Col + wd ≥ (S.g.cols : Int) := hlt
    exact h1.cur hrow (by dsimp only; rw [e1]; omega) hsh
end
/-! ### Walked -/
structure Bx (w : World) (bs br bw g : Nat) (r wd : Int) : Prop where
  s : Blk w bs ty_p_screen_Screen [.pointer (some ⟨g, 0, none⟩)]
  r : Blk w br ty_int32 [.int .i32 r]
  w : Blk w bw ty_int [.int .i64 wd]
theorem Bx.chg {w w' : World} {bs br bw g : Nat} {r wd : Int} {T : Nat → Prop} (h : Bx w bs br bw g r wd) (hc : Chg T w w') (h1 : ¬ T bs) (h2 : ¬ T br) (h3 : ¬ T bw) : Bx w' bs br bw g r wd := ⟨h.s.chg hc h1, h.r.chg hc h2, h.w.chg hc h3⟩
theorem Bx.ext {w w' : World} {bs br bw g : Nat} {r wd : Int} (h : Bx w bs br bw g r wd) (hB : Below w.heap.size w w') : Bx w' bs br bw g r wd := ⟨h.s.ext hB, h.r.ext hB, h.w.ext hB⟩
structure LayS (base g : Nat) (w0 : World) (F0 : ScF) (bs br bw : Nat) (r wd : Int) (F : ScF) (S : Sc) (w : World) : Prop where
  t : ScT base g w0 F0 F S w
  bx : Bx w bs br bw g r wd
  ne : ∀ k, scS g F k → k ≠ bs ∧ k ≠ br ∧ k ≠ bw
section
variable {w0 w w' : World} {base g bs br bw : Nat} {F0 F F' : ScF} {S S' : Sc} {r wd : Int}
theorem LayS.step (h : LayS base g w0 F0 bs br bw r wd F S w) (hT : ScT base g w F F' S' w') : LayS base g w0 F0 bs br bw r wd F' S' w' := by
  refine ⟨h.t.trans hT, h.bx.chg hT.chg (fun e => (h.ne _ e).1 rfl) (fun e => (h.ne _ e).2.1 rfl) (fun e => (h.ne _ e).2.2 rfl), fun k hk => ?_⟩
  rcases hT.old k hk with h1 | h1
  · exact h.ne k h1
  · have b1 := h.bx.s.lt
    have b2 := h.bx.r.lt
    have b3 := h.bx.w.lt
    omega
theorem LayS.drew (h : LayS base g w0 F0 bs br bw r wd F S w) : LayS base g w0 F0 bs br bw r wd F S w.drew := h.step (ScT.refl h.t.m).drew
theorem look_spec {r : Nat} {L : List (Int × Bool)} (h : MapM encO w r L) {k : Int} {K : Bool → World → Prop} (hK : K ((lookL L k).getD false) w) : runK1 PG (Instr.lookup ty_map_int_bool (.map (some r)) (.int .i64 k) false) Kind.bool w K := by
  refine ⟨(lookL L k).getD false, w, ?_, hK⟩
  rw [h.lookup tmapT tintT zboolT k]
  cases lookL L k <;> rfl
theorem attr_cells (h : ScM w base g F S) : cellsAt w (((⟨g, 0, none⟩ : Addr).add 3).add 3) (T_api_Attr.rep.cells S.c.A) := by
  have h1 := cur_cells h
  intro j v hj
  have : (T_screen_Cursor.rep.cells S.c)[3 + j]? = some v := by
    match j, hj with
    | 0, hj => exact hj
    | 1, hj => exact hj
    | 2, hj => exact hj
    | j + 3, hj => cases hj
  have h2 := h1 (3 + j) v this
  simp only [add_mk] at h2 ⊢
  rw [show 0 + 3 + 3 + j = 0 + 3 + (3 + j) by omega]
  exact h2
theorem plain_lay1 : C.plain fn_screen_Screen_lay_1 = true := by kernel_rfl
theorem lay1_spec {l : Slc} {xs : List Cell} {K : Slc → World → Prop} (h : ScM w base g F S) (hx : Bx w bs br bw g r wd) (hl : Rd cellE w l xs) (hlen : xs.length ≤ 10000)
    (hK : ∀ s w', Go.Vc.Own cellE w' w.heap.size s (S.putL r wd xs) → Below w.heap.size w w' → K s w') :
    callR C (.func (.func fn_screen_Screen_lay_1) #[] #[.pointer (some ⟨bs, 0, none⟩), .pointer (some ⟨bw, 0, none⟩), .pointer (some ⟨br, 0, none⟩)]) [.slice l.a l.n l.c] [Kind.slice] w K := by
  have hh : c_screen_Screen_lay_1 l ⟨bs, 0, none⟩ ⟨bw, 0, none⟩ ⟨br, 0, none⟩ w K := by
    refine call_screen_Screen_lay_1 _ _ _ _ ?_
    unfold sh_screen_Screen_lay_1
    refine joinP_of fun J1 hJ1 => ?_
    have key : ∀ s w1, Rd cellE w1 s (if S.mode 4 then insL xs S.c.Col wd S.c.A else xs) → Below w.heap.size w w1 → J1 (s, ()) w1 := by
      intro s w1 hs hB1
      refine hJ1 _ _ ?_
      have h1 := (h.ext hB1).drew
      have x1 := (hx.ext hB1).ext (below_drew w1)
      refine ldP_of (x := some ⟨g, 0, none⟩) (by simpa using x1.s.cells 0 _ rfl) ?_
      simp only [onPtr_some]
      refine ldI_of (x := S.c.Col) (by simp only [add_mk]; exact h1.blk.cell 4 rfl) ?_
      refine ldI_of (x := r) (by simpa using x1.r.cells 0 _ rfl) (ldI_of (x := wd) (by simpa using x1.w.cells 0 _ rfl) ?_)
      refine ldP_of (x := some ⟨g, 0, none⟩) (by simpa using x1.s.cells 0 _ rfl) ?_
      simp only [onPtr_some]
      refine ldS_of (r := T_api_Attr.rep) (x := S.c.A) (attr_cells h1) ?_
      refine Put_spec (hs.ext (below_drew w1)) (by split; rw [insL_length]; exact hlen; exact hlen) fun t w2 ht hB2 => ?_
      have hB02 : Below w.heap.size w w2 := below_t (below_t hB1 (below_drew w1)) hB2
      exact hK t w2 (ht.base (below_t hB1 (below_drew w1)).size) hB02
    refine ldP_of (x := some ⟨g, 0, none⟩) (by simpa using hx.s.cells 0 _ rfl) ?_
    simp only [onPtr_some]
    refine ldM_of (x := some F.mm) (h.blk.cells 35 _ rfl) (look_spec h.mo ?_)
    have hd := h.drew
    have xd := hx.ext (below_drew w)
    show cond (S.mode 4) _ _
    cases hm : S.mode 4
    · exact key l w (by rw [hm]; exact hl) (Below.refl _ _)
    · refine cond_t rfl ?_
      refine ldP_of (x := some ⟨g, 0, none⟩) (by simpa using xd.s.cells 0 _ rfl) ?_
      simp only [onPtr_some]
      refine ldI_of (x := S.c.Col) (by simp only [add_mk]; exact hd.blk.cell 4 rfl) ?_
      refine ldI_of (x := wd) (by simpa using xd.w.cells 0 _ rfl) ?_
      refine ldP_of (x := some ⟨g, 0, none⟩) (by simpa using xd.s.cells 0 _ rfl) ?_
      simp only [onPtr_some]
      refine ldS_of (r := T_api_Attr.rep) (x := S.c.A) (attr_cells hd) ?_
      refine Insert_spec (hl.ext (below_drew w)) hlen fun t w2 ht hB2 => ?_
      exact key t w2 (by rw [hm]; exact ht.rd) (below_t (below_drew w) hB2)
  refine callR_plain plain_lay1 (Calls.mono hh ?_)
  rintro e w' ⟨t, rfl, hk⟩
  exact ⟨t, rfl, hk⟩
end
end Go.Proofs.YtmoafafalnbkpaaGreatDoor

set_option linter.unusedVariables false
namespace Go.Proofs.YtmoafafalnbkpaaGreatDoor
open Go.Vc Go.RowKit
set_option maxRecDepth 400000
section
variable {w0 w w' : World} {base g bs br bw : Nat} {F0 F F' : ScF} {S S' : Sc} {r wd : Int}
theorem lay_spec {K : World → Prop} (h : ScM w base g F S) (hK : ∀ F' w', ScT base g w F F' (S.lay r) w' → K w') : c_screen_Screen_lay (some ⟨g, 0, none⟩) r w K := by
  refine call_screen_Screen_lay _ _ ?_
  unfold sh_screen_Screen_lay
  refine nw_blk fun w1 hs1 hB1 z1 => nw_blk fun w2 hr2 hB2 z2 => ?_
  refine ldI_of (x := r) (by simpa using hr2.cells 0 _ rfl) (Width_spec fun w3 hB3 => ?_)
  refine nw_blk fun w4 hw4 hB4 z4 => all_of hw4 rfl fun w5 hw5 hc5 z5 => ?_
  have z3 := hB3.size
  have hB04 : Below w.heap.size w w4 := below_t (below_t (below_t hB1 hB2) hB3) hB4
  have hB05 : Below w.heap.size w w5 := below_one hB04 hc5 (by omega)
  have x4s := ((hs1.ext hB2).ext hB3).ext hB4
  have x4r := (hr2.ext hB3).ext hB4
  obtain ⟨wd, hwd⟩ : ∃ wd, wd = widthP r := ⟨_, rfl⟩
  rw [← hwd] at hw5
  have hB5 : Bx w5 w.heap.size w1.heap.size w3.heap.size g r wd := ⟨x4s.chg hc5 (by omega), x4r.chg hc5 (by omega), hw5⟩
  have hT5 : ScT base g w F F S w5 := ScT.of_ext h hB05
  have L5 : LayS base g w F w.heap.size w1.heap.size w3.heap.size r wd F S w5 := ⟨hT5, hB5, fun k hk => by have := (h.below k hk).2; omega⟩
  refine ldP_of (x := some ⟨g, 0, none⟩) (by simpa using L5.bx.s.cells 0 _ rfl) ?_
  refine ssize_spec L5.t.m ?_
  have L6 := L5.drew.drew
  generalize w5.drew.drew = w6 at L6 ⊢
  clear L5 hT5 hB5 x4s x4r hw5 hc5 hB4 hw4 hr2 hs1 hB1 hB2 hB3 hB04 hB05
  refine ldI_of (x := wd) (by simpa using L6.bx.w.cells 0 _ rfl) ?_
  unfold Sc.lay at hK
  rw [← hwd] at hK
  refine cond_of (fun e => ?_) fun e => ?_
  · have e : wd = 0 := eq_of_beq e
    rw [if_pos e] at hK
    exact hK F w6 L6.t
  have e : ¬ wd = 0 := beq_eq_false_iff_ne.1 e
  rw [if_neg e] at hK
  have hrr := width_in (r := r) (by rw [← hwd]; exact e)
  have hw12 : 1 ≤ wd ∧ wd ≤ 2 := by
    rcases width_two r with h1 | h1 | h1
    · exact absurd (hwd.trans h1) e
    · omega
    · omega
  refine ldP_of (x := some ⟨g, 0, none⟩) (by simpa using L6.bx.s.cells 0 _ rfl) ?_
  refine ldI_of (x := r) (by simpa using L6.bx.r.cells 0 _ rfl) ?_
  simp only [onPtr_some]
  rw [add_mk]
  refine stK_blk L6.t.m.blk (by simp [T_screen_Screen.rep]) fun w7 hb7 hg7 hs7 => ?_
  obtain ⟨S1, hS1⟩ : ∃ S1 : Sc, S1 = { S with char := r } := ⟨_, rfl⟩
  have hT7 : ScT base g w6 F F S1 w7 := by
    rw [hS1]
    exact ScT.mk_struct L6.t.m (Chg.gg hg7) hb7 rfl rfl rfl rfl rfl rfl (L6.t.m.ok.char r)
  have L7 := L6.step hT7
  have hcols1 : S1.g.cols = S.g.cols := by rw [hS1]; rfl
  have hpm : S1.pmode 7 = S.pmode 7 := by rw [hS1]; rfl
  rw [← hS1] at hK
  obtain ⟨wrap, hwrap⟩ : ∃ wrap, wrap = S.pmode 7 := ⟨_, rfl⟩
  rw [← hwrap] at hK
  clear hb7 hg7 hs7 hT7 L6
  refine ldP_of (x := some ⟨g, 0, none⟩) (by simpa using L7.bx.s.cells 0 _ rfl) ?_
  simp only [onPtr_some]
  refine ldM_of (x := some F.mp) (by rw [add_mk]; exact L7.t.m.blk.cell 36 rfl) (look_spec L7.t.m.pr ?_)
  rw [show (lookL S1.priv 7).getD false = wrap by rw [hwrap, ← hpm]; rfl]
  obtain ⟨Sx, hSx⟩ : ∃ Sx, Sx = S1.layX wrap := ⟨_, rfl⟩
  rw [← hSx] at hK
  unfold Sc.layX at hSx
  unfold Sc.layY at hK
  have hok1 := L7.t.m.ok
  have hcx : Sx.g.cols = S.g.cols := by
    rw [hSx]
    split
    · rw [(next_cols hok1).1, hcols1]
    · exact hcols1
  have hb1 := h.ok.bnd
  refine joinP_of fun J1 hJ1 => ?_
  -- what comes behind a new line, where one was wanted
  have key1 : ∀ F1 w9, LayS base g w F w.heap.size w1.heap.size w3.heap.size r wd F1 Sx w9 → J1 () w9 := by
    intro F1 w9 L9
    refine hJ1 _ _ ?_
    refine ldP_of (x := some ⟨g, 0, none⟩) (by simpa using L9.bx.s.cells 0 _ rfl) ?_
    simp only [onPtr_some]
    rw [add_mk, add_mk]
    refine stK_blk L9.t.m.blk (by simp [T_screen_Screen.rep]) fun w10 hb10 hg10 hs10 => ?_
    have L10 := L9.step (ScT.dry L9.t.m hb10 hg10)
    clear hb10 hg10 hs10 L9
    obtain ⟨S2, hS2⟩ : ∃ S2, S2 = Sx.dry := ⟨_, rfl⟩
    rw [← hS2] at L10 hK
    have hc2 : S2.g.cols = S.g.cols := by rw [hS2]; exact hcx
    refine joinP_of fun J2 hJ2 => ?_
    have key2 : ∀ (S3 : Sc) F2 w11, LayS base g w F w.heap.size w1.heap.size w3.heap.size r wd F2 S3 w11 → S3.g.cols = S.g.cols → S3.c.Wrap = false → (∀ F' w', ScT base g w F F' (S3.laid r wd wrap) w' → K w') → J2 () w11 := by
      intro S3 F2 w11 L11 hc3 hwr3 hK3
      refine hJ2 _ _ ?_
      have Ld := L11.drew
      refine ldP_of (x := some ⟨g, 0, none⟩) (by simpa using Ld.bx.s.cells 0 _ rfl) (ldP_of (x := some ⟨g, 0, none⟩) (by simpa using Ld.bx.s.cells 0 _ rfl) ?_)
      simp only [onPtr_some]
      refine ldI_of (x := S3.c.Row) (by simp only [add_mk]; exact Ld.t.m.blk.cell 3 rfl) ?_
      refine sg_spec Ld.t.m ?_
      have Ldd := Ld.drew
      refine ⟨by simp only [add_mk]; exact Ldd.t.m.blk.cell 3 rfl, by simpa using Ldd.bx.s.cells 0 _ rfl, ?_⟩
      have hok3 := L11.t.m.ok
      refine change_spec (f := S3.putL r wd) Ldd.t.m hok3.rowg (putL_len S3 r wd) (putL_okR S3 hrr wd) (fun l xs K' hl hlen hk => ?_) fun F4 w13 hT13 => ?_
      · exact lay1_spec Ldd.drew.t.m Ldd.drew.bx hl hlen hk
      have L13 := Ldd.step hT13
      have ech : S3.withG { S3.g with L := S3.g.L.set S3.c.Row.toNat (resL (S3.putL r wd (S3.g.L.getD S3.c.Row.toNat [])) S3.g.cols) } = S3.change (S3.putL r wd) := by
        unfold Sc.change
        rw [if_pos hok3.rowg]
      rw [ech] at L13
      clear hT13 L11 Ld Ldd ech
      obtain ⟨S4, hS4⟩ : ∃ S4, S4 = S3.change (S3.putL r wd) := ⟨_, rfl⟩
      rw [← hS4] at L13
      have hc4 : S4.c = S3.c := by rw [hS4]; exact change_c _ _
      have L14 := L13.drew
      refine ldP_of (x := some ⟨g, 0, none⟩) (by simpa using L14.bx.s.cells 0 _ rfl) ?_
      simp only [onPtr_some]
      refine ldI_of (x := S4.c.Col) (by simp only [add_mk]; exact L14.t.m.blk.cell 4 rfl) ?_
      refine ldI_of (x := wd) (by simpa using L14.bx.w.cells 0 _ rfl) ?_
      rw [add_mk, add_mk]
      refine stK_blk L14.t.m.blk (by simp [T_screen_Screen.rep]) fun w15 hb15 hg15 hs15 => ?_
      have hc15 := Chg.gg hg15
      have x15 : Bx w15 w.heap.size w1.heap.size w3.heap.size g r wd := L14.bx.chg hc15 (fun e => (L14.ne g (.inl rfl)).1 e.symm) (fun e => (L14.ne g (.inl rfl)).2.1 e.symm) (fun e => (L14.ne g (.inl rfl)).2.2 e.symm)
      have hb15 : Blk w15 g ty_screen_Screen (T_screen_Screen.rep.cells (scX F4 (S4.setCol (w64 (S4.c.Col + wd))))) := hb15
      refine ldP_of (x := some ⟨g, 0, none⟩) (by simpa using x15.s.cells 0 _ rfl) ?_
      simp only [onPtr_some]
      refine ldI_of (x := w64 (S4.c.Col + wd)) (by exact hb15.cell 4 rfl) ?_
      have hokl := hok3.laid hrr hw12 wrap
      have elaid : S3.laid r wd wrap = (if w64 (S4.c.Col + wd) ≥ (S.g.cols : Int) then { S4.setCol (w64 (S4.c.Col + wd)) with c := { (S4.setCol (w64 (S4.c.Col + wd))).c with Col := w64 ((S.g.cols : Int) - 1), Wrap := wrap } } else S4.setCol (w64 (S4.c.Col + wd))) := by
        unfold Sc.laid
        dsimp only
        rw [← hS4, ← hc4, hc3]
        rfl
      rw [elaid] at hK3 hokl
      refine cond_of (fun e2 => ?_) fun e2 => ?_
      · have e2 : w64 (S4.c.Col + wd) ≥ (S.g.cols : Int) := of_decide_eq_true e2
        rw [if_pos e2] at hK3 hokl
        have xd := x15.ext (below_drew w15)
        refine ldP_of (x := some ⟨g, 0, none⟩) (by simpa using xd.s.cells 0 _ rfl) (ldP_of (x := some ⟨g, 0, none⟩) (by simpa using xd.s.cells 0 _ rfl) ?_)
        simp only [onPtr_some]
        rw [add_mk, add_mk]
        refine stK_blk hb15.drew (by simp [T_screen_Screen.rep]) fun w16 hb16 hg16 hs16 => ?_
        have hc16 := Chg.gg hg16
        have x16 := xd.chg hc16 (fun e => (L14.ne g (.inl rfl)).1 e.symm) (fun e => (L14.ne g (.inl rfl)).2.1 e.symm) (fun e => (L14.ne g (.inl rfl)).2.2 e.symm)
        refine ⟨by simpa using x16.s.cells 0 _ rfl, ?_⟩
        rw [add_mk]
        refine stK_blk hb16 (by simp [T_screen_Screen.rep, putL]) fun w17 hb17 hg17 hs17 => ?_
        have hcd : Chg (fun k => k = g) w15 w15.drew := Chg.of_ext (below_drew w15)
        have hc17 : Chg (fun k => k = g) w13.drew w17 := ((hc15.trans hcd fun i _ hi => hi).trans hc16 fun i _ hi => hi).trans (Chg.gg hg17) fun i _ hi => hi
        exact hK3 F4 w17 (L14.t.trans (ScT.mk_struct L14.t.m hc17 hb17 rfl rfl rfl rfl rfl rfl hokl))
      · have e2 : ¬ w64 (S4.c.Col + wd) ≥ (S.g.cols : Int) := of_decide_eq_false e2
        rw [if_neg e2] at hK3 hokl
        exact hK3 F4 w15 (L14.t.trans (ScT.mk_struct L14.t.m hc15 hb15 rfl rfl rfl rfl rfl rfl hokl))
    have Ld := L10.drew
    refine ldP_of (x := some ⟨g, 0, none⟩) (by simpa using Ld.bx.s.cells 0 _ rfl) ?_
    simp only [onPtr_some]
    refine ldI_of (x := S2.c.Col) (by simp only [add_mk]; exact Ld.t.m.blk.cell 4 rfl) ?_
    refine ldI_of (x := wd) (by simpa using Ld.bx.w.cells 0 _ rfl) ?_
    have hwr2 : S2.c.Wrap = false := by rw [hS2]; rfl
    refine cond_of (fun e2 => ?_) fun e2 => ?_
    · have e2 : w64 (S2.c.Col + wd) > (S.g.cols : Int) := of_decide_eq_true e2
      rw [if_pos e2] at hK
      refine ldI_of (x := wd) (by simpa using Ld.bx.w.cells 0 _ rfl) ?_
      refine cond_of (fun e3 => ?_) fun e3 => ?_
      · have e3 : wd > (S.g.cols : Int) := of_decide_eq_true e3
        rw [if_pos e3] at hK
        exact hK F1 _ Ld.t
      · have e3 : ¬ wd > (S.g.cols : Int) := of_decide_eq_false e3
        rw [if_neg e3] at hK
        cases hwv : wrap
        · rw [hwv] at hK key2
          rw [if_neg (by decide)] at hK
          refine cond_f rfl ?_
          refine ldP_of (x := some ⟨g, 0, none⟩) (by simpa using Ld.bx.s.cells 0 _ rfl) ?_
          refine ldI_of (x := wd) (by simpa using Ld.bx.w.cells 0 _ rfl) ?_
          simp only [onPtr_some]
          rw [add_mk, add_mk]
          refine stK_blk Ld.t.m.blk (by simp [T_screen_Screen.rep]) fun w19 hb19 hg19 hs19 => ?_
          have ew : w64 ((S.g.cols : Int) - wd) = (S.g.cols : Int) - wd := w64_of (by omega)
          have hokc : ScOk (S2.setCol (w64 ((S.g.cols : Int) - wd))) := Ld.t.m.ok.setCol (by rw [ew, hc2]; omega)
          have L19 := Ld.step (ScT.mk_struct Ld.t.m (Chg.gg hg19) (S' := S2.setCol (w64 ((S.g.cols : Int) - wd))) hb19 rfl rfl rfl rfl rfl rfl hokc)
          exact key2 _ _ _ L19 hc2 hwr2 hK
        · rw [hwv] at hK key2
          rw [if_pos rfl] at hK
          refine cond_t rfl ?_
          have Ldd := Ld.drew
          refine ldP_of (x := some ⟨g, 0, none⟩) (by simpa using Ldd.bx.s.cells 0 _ rfl) (ldP_of (x := some ⟨g, 0, none⟩) (by simpa using Ldd.bx.s.cells 0 _ rfl) ?_)
          simp only [onPtr_some]
          refine ldI_of (x := S2.c.Row) (by simp only [add_mk]; exact Ldd.t.m.blk.cell 3 rfl) ?_
          refine to_spec Ldd.t.m fun w17 hT17 => ?_
          have L17 := Ldd.step hT17
          refine ldP_of (x := some ⟨g, 0, none⟩) (by simpa using L17.bx.s.cells 0 _ rfl) ?_
          refine index_spec L17.t.m fun F5 w18 hT18 => ?_
          have L18 := L17.step hT18
          have hn := next_cols L10.t.m.ok
          refine key2 S2.next _ _ L18 (hn.1.trans hc2) ?_ hK
          unfold Sc.next Sc.index
          split
          · show (Sc.scroll _ _ _ _).c.Wrap = false
            unfold Sc.scroll
            rw [withG_c]
            rfl
          · rfl
    · have e2 : ¬ w64 (S2.c.Col + wd) > (S.g.cols : Int) := of_decide_eq_false e2
      rw [if_neg e2] at hK
      exact key2 S2 _ _ Ld hc2 hwr2 hK
  refine joinP_of fun J3 hJ3 => ?_
  refine ldP_of (x := some ⟨g, 0, none⟩) (by simpa using L7.bx.s.cells 0 _ rfl) ?_
  simp only [onPtr_some]
  refine ldB_of (x := S1.c.Wrap) (by simp only [add_mk]; exact L7.t.m.blk.cell 5 rfl) ?_
  have key3 : ∀ b : Bool, (b = true ↔ S1.c.Wrap = true ∧ wrap = true) → J3 (b, ()) w7 := by
    intro b hb
    refine hJ3 _ _ ?_
    refine cond_of (fun e => ?_) fun e => ?_
    · have e := hb.1 e
      rw [if_pos e] at hSx
      have Ld := L7.drew
      refine ldP_of (x := some ⟨g, 0, none⟩) (by simpa using Ld.bx.s.cells 0 _ rfl) (ldP_of (x := some ⟨g, 0, none⟩) (by simpa using Ld.bx.s.cells 0 _ rfl) ?_)
      simp only [onPtr_some]
      refine ldI_of (x := S1.c.Row) (by simp only [add_mk]; exact Ld.t.m.blk.cell 3 rfl) ?_
      refine to_spec Ld.t.m fun w17 hT17 => ?_
      have L17 := Ld.step hT17
      refine ldP_of (x := some ⟨g, 0, none⟩) (by simpa using L17.bx.s.cells 0 _ rfl) ?_
      refine index_spec L17.t.m fun F5 w18 hT18 => ?_
      have L18 := L17.step hT18
      rw [hSx] at key1
      exact key1 _ _ L18
    · have e : ¬ (S1.c.Wrap = true ∧ wrap = true) := fun hh => by rw [hb.2 hh] at e; cases e
      rw [if_neg e] at hSx
      rw [hSx] at key1
      exact key1 _ _ L7
  refine cond_of (fun e => key3 _ ?_) fun e => key3 _ ?_
  · exact ⟨fun hh => ⟨e, hh⟩, fun hh => hh.2⟩
  · exact ⟨(fun hh => by cases hh), fun hh => absurd hh.1 (by rw [e]; decide)⟩
theorem sets_spec (h : ScM w base g F S) {K : Int → Prop} (hK : K (S.set2 S.c.Shift)) : ixA (((⟨g, 0, none⟩ : Addr).add 3).add 7) 2 S.c.Shift 1 fun t => ldI .u8 t w K := by
  have hs := h.ok.shift
  unfold Sc.set2 at hK
  rcases hs with e | e
  · rw [e] at hK ⊢
    exact ⟨⟨by decide, by decide⟩, ldI_of (x := S.c.Sets.e0) (by simp only [add_mk]; exact h.blk.cell 10 rfl) hK⟩
  · rw [e] at hK ⊢
    exact ⟨⟨by decide, by decide⟩, ldI_of (x := S.c.Sets.e1) (by simp only [add_mk]; exact h.blk.cell 11 rfl) hK⟩
theorem print_spec {K : World → Prop} (h : ScM w base g F S) (hK : ∀ F' w', ScT base g w F F' (S.print r) w' → K w') : c_screen_Screen_print (some ⟨g, 0, none⟩) r w K := by
  refine call_screen_Screen_print _ _ ?_
  unfold sh_screen_Screen_print
  simp only [onPtr_some]
  refine joinP_of fun J1 hJ1 => ?_
  unfold Sc.print at hK
  have key : ∀ b : Bool, (b = true ↔ 0 ≤ r ∧ r < 128) → J1 (b, ()) w := by
    intro b hb
    refine hJ1 _ _ ?_
    refine cond_of (fun e => ?_) fun e => ?_
    · have e := hb.1 e
      rw [if_pos e] at hK
      have hd := (ScT.refl h).drew
      refine ldI_of (x := S.c.Shift) (by simp only [add_mk]; exact hd.m.blk.cell 12 rfl) (sets_spec hd.m ?_)
      obtain ⟨n, rfl⟩ : ∃ n : Nat, r = n := ⟨r.toNat, by omega⟩
      rw [show IntKind.u8.wrap (n : Int) = n from wrap_nat .u8 (by show _ < 2 ^ 8; omega)]
      refine Graphic_spec (by omega) fun w2 hB2 => ?_
      have h2 := hd.ext hB2
      exact lay_spec h2.m fun F' w' hT => hK F' w' (h2.trans hT)
    · have e : ¬ (0 ≤ r ∧ r < 128) := fun hh => by rw [hb.2 hh] at e; cases e
      rw [if_neg e] at hK
      exact lay_spec h hK
  refine cond_of (fun e => key _ ?_) fun e => key _ ?_
  · have e : r ≥ 0 := of_decide_eq_true e
    exact ⟨fun hh => ⟨e, of_decide_eq_true hh⟩, fun hh => decide_eq_true hh.2⟩
  · have e : ¬ r ≥ 0 := of_decide_eq_false e
    exact ⟨(fun hh => by cases hh), fun hh => absurd hh.1 e⟩
end
end Go.Proofs.YtmoafafalnbkpaaGreatDoor

set_option linter.unusedVariables false
namespace Go.Proofs.YtmoafafalnbkpaaGreatDoor
open Go.Vc Go.RowKit
set_option maxRecDepth 400000
section
variable {w w' : World} {base g : Nat} {F F' : ScF} {S S' : Sc}
/-- The screen's own cells changed, and what they point to (the grids apart). -/
theorem ScM.remake (h : ScM w base g F S) (hc : Chg (fun k => k = g) w w') (hb : Blk w' g ty_screen_Screen (T_screen_Screen.rep.cells (scX F' S'))) (f0 : F'.f0 = F.f0) (f1 : F'.f1 = F.f1) (e0 : S'.g0 = S.g0) (e1 : S'.g1 = S.g1)
    (hst : StopsM w F'.tg F'.tr S'.stops) (hstb : base ≤ F'.tg ∧ base ≤ F'.tr) (hmo : MapM encO w F'.mm S'.modes) (hpr : MapM encO w F'.mp S'.priv) (hmb : base ≤ F'.mm ∧ base ≤ F'.mp) (hdm : F'.mm ≠ F'.mp ∧ F'.tr ≠ F'.mm ∧ F'.tr ≠ F'.mp)
    (har : Go.Vc.Own E_screen_Area w base F'.ar S'.areas) (ok : ScOk S') : ScM w' base g F' S' := by
  have hC : ∀ k cs, k = g → ¬ Blk w k ty_api_Cell cs := fun k cs hk hcs => h.notC k cs (.inl hk) hcs
  refine ⟨hb, h.hg, ?_, ?_, hst.keep hc ?_ ?_, hstb, hmo.chg hc ?_, hpr.chg hc ?_, hmb, hdm, har.chg hc fun k hk e => ?_, ?_, ok⟩
  · rw [e0, f0]; exact h.g0.chg hc (fun k hk => h.of_g k (.inl hk)) hC
  · rw [e1, f1]; exact h.g1.chg hc (fun k hk => h.of_g k (.inr (.inl hk))) hC
  · exact hst.blk.ne_t h.blk (by decide)
  · exact fun e => map_not hst.map h.blk e.symm
  · exact fun e => map_not hmo h.blk e.symm
  · exact fun e => map_not hpr h.blk e.symm
  · obtain ⟨cs, hcs⟩ := har.blk_t hk
    rw [e] at hcs
    exact h.blk.ne_t hcs (by decide) rfl
  · rw [f0, f1]; exact h.dg
theorem updO_spec {r : Nat} {L : List (Int × Bool)} (h : MapM encO w r L) {n : Int} (hn : -9223372036854775808 ≤ n ∧ n ≤ 9223372036854775807) {b : Bool} {K : Option Value → World → Prop}
    (hK : ∀ w', MapM encO w' r (putL' L n b) → Chg (fun k => k = r) w w' → w'.heap.size = w.heap.size → K none w') : runU PG (Instr.mapUpdate ty_map_int_bool (.map (some r)) (.int .i64 n) (.bool b)) w K := by
  obtain ⟨w', h1, h2, h3, h4⟩ := h.update tmapT tintT hn b
  exact ⟨w', h1, hK w' h2 h3 h4⟩
/-! ### Rows filled -/
theorem ScOk.fillRow (h : ScOk S) (row from_ to : Int) : ScOk (S.fillRow row from_ to) := by
  unfold Sc.fillRow
  split
  · rename_i hr
    exact h.changed (f := fun xs => eraP xs from_ to S.blank) (fun xs hx => okR_era hx _ _ _) hr
  · exact h
theorem fill_spec {row from_ to : Int} {K : Bool → World → Prop} (h : ScM w base g F S) (hK : ∀ b F' w', ScT base g w F F' (S.fillRow row from_ to) w' → K b w') : c_grid_Grid_Fill (some ⟨(F.f S.alt).g, 0, none⟩) row from_ to S.blank w K := by
  have hG := h.gOk
  have ok := h.ok.fillRow row from_ to
  unfold Sc.fillRow at hK ok
  refine gFill_spec h.gM hG.len (fun xs hx => by have := (hG.L xs hx).2.1; have := hG.cols.2; omega) h.base_le (fun w' hr hg hc => ?_) fun w' hr hB => ?_
  · rw [if_pos hr] at hK ok
    exact hK _ _ w' (ScT.mk_grid h hg (Foot.to.refl _ _) hc ok)
  · rw [if_neg hr] at hK ok
    exact hK _ F w' (ScT.of_ext h hB)
theorem fillRow_same (S : Sc) (row from_ to : Int) : (S.fillRow row from_ to).c = S.c ∧ (S.fillRow row from_ to).alt = S.alt ∧ (S.fillRow row from_ to).areas = S.areas ∧ (S.fillRow row from_ to).top = S.top := by
  unfold Sc.fillRow Sc.withG
  split
  · split <;> exact ⟨rfl, rfl, rfl, rfl⟩
  · exact ⟨rfl, rfl, rfl, rfl⟩
theorem fills_same (S : Sc) (row from_ to : Int) : ∀ n, (S.fills row from_ to n).c = S.c ∧ (S.fills row from_ to n).alt = S.alt ∧ (S.fills row from_ to n).areas = S.areas
  | 0 => ⟨rfl, rfl, rfl⟩
  | n + 1 => by
    have h1 := fills_same S row from_ to n
    have h2 := fillRow_same (S.fills row from_ to n) (w64 (row + n)) from_ to
    exact ⟨h2.1.trans h1.1, h2.2.1.trans h1.2.1, h2.2.2.1.trans h1.2.2⟩
theorem ScOk.areas (h : ScOk S) (l : List T_screen_Area) : ScOk { S with areas := l } := ⟨h.g0, h.g1, h.rows, h.cols, h.row, h.col, h.shift, h.sh0, h.sh1, h.top, h.marg, h.stops⟩
theorem erase_areas (S : Sc) (row rows from_ to : Int) : (S.erase row rows from_ to).areas.length ≤ S.areas.length + 1 := by
  unfold Sc.erase
  split
  · omega
  · dsimp only
    rw [List.length_append, (fills_same S row from_ to _).2.2]
    simp
/-- An area more. -/
theorem area_spec {a : T_screen_Area} {vs : List Value} {K : World → Prop} (h : ScM w base g F S) (ha : S.areas.length ≤ 1000000000) (hv : T_screen_Area.rep.cells a = vs) (hK : ∀ q w', ScT base g w F { F with ar := q } { S with areas := S.areas ++ [a] } w' → K w') :
    nw ty_screen_Area vs w fun t w9 => World.cell? w9 ((⟨g, 0, none⟩ : Addr).add 41) = some (.slice F.ar.a F.ar.n F.ar.c) ∧
      apK PG #[ty_sl_screen_Area, ty_sl_screen_Area] ty_sl_screen_Area F.ar (⟨(some t), 1, 1⟩ : Slc) w9 fun t50 w10 => stK ((⟨g, 0, none⟩ : Addr).add 41) [(.slice t50.a t50.n t50.c)] w10 K := by
  refine nw_blk fun w9 h9 hB9 hs9 => ⟨(h.ext hB9).blk.cells 41 _ rfl, ?_⟩
  have h9' := h.ext hB9
  refine apK_own sT_sl_screen_Area h9'.ar (rd_one (E := E_screen_Area) h9 hv) h9'.base_le (by rw [by_sl_screen_Area]; simp only [List.length_singleton]; omega) (by simp only [List.length_singleton]; unfold maxLen; omega) fun q w10 ho10 hg10 hq10 => ?_
  have hc10 : Chg (fun k => F.ar.blk = some k) w9 w10 := Chg.of_grown hg10 fun k hk => hk
  have hb10 := h9'.blk.chg hc10 fun e => h9'.of_g g (.inr (.inr (.inr (.inr (.inr (.inr e)))))) rfl
  rw [add_mk]
  refine stK_blk hb10 (by simp [T_screen_Screen.rep]) fun w11 hb11 hg11 hs11 => ?_
  -- all but the row of areas is as it was
  have hne : ∀ k, (k = g ∨ gridS F.f0 k ∨ gridS F.f1 k ∨ k = F.tg ∨ k = F.tr ∨ k = F.mm ∨ k = F.mp) → ¬ F.ar.blk = some k := by
    rintro k (rfl | hk | hk | rfl | rfl | rfl | rfl) e
    · exact h9'.of_g k (.inr (.inr (.inr (.inr (.inr (.inr e)))))) rfl
    · exact (h9'.of_grid false k hk).2.2.2.2.2.2 e
    · exact (h9'.of_grid true k hk).2.2.2.2.2.2 e
    · obtain ⟨cs, hcs⟩ := h9'.ar.blk_t e
      exact hcs.ne_t h9'.st.blk (by decide) rfl
    · obtain ⟨cs, hcs⟩ := h9'.ar.blk_t e
      exact map_not h9'.st.map hcs rfl
    · obtain ⟨cs, hcs⟩ := h9'.ar.blk_t e
      exact map_not h9'.mo hcs rfl
    · obtain ⟨cs, hcs⟩ := h9'.ar.blk_t e
      exact map_not h9'.pr hcs rfl
  have hC : ∀ k cs, F.ar.blk = some k → ¬ Blk w9 k ty_api_Cell cs := fun k cs e hcs => h9'.notC k cs (.inr (.inr (.inr (.inr (.inr (.inr (.inr e))))))) hcs
  have hc11 := Chg.gg hg11
  have c2 : ∀ k cs, k = g → ¬ Blk w10 k ty_api_Cell cs := fun k cs hk hcs => by subst hk; exact hb10.ne_t hcs (by decide) rfl
  have hg0 := (h9'.g0.chg hc10 (fun k hk => hne k (.inr (.inl hk))) hC).chg hc11 (fun k hk => h.of_g k (.inl hk)) c2
  have hg1 := (h9'.g1.chg hc10 (fun k hk => hne k (.inr (.inr (.inl hk)))) hC).chg hc11 (fun k hk => h.of_g k (.inr (.inl hk))) c2
  have hst := (h9'.st.keep hc10 (hne _ (.inr (.inr (.inr (.inl rfl))))) (hne _ (.inr (.inr (.inr (.inr (.inl rfl))))))).keep hc11 (h.of_g _ (.inr (.inr (.inl rfl)))) (h.of_g _ (.inr (.inr (.inr (.inl rfl)))))
  have hmo := (h9'.mo.chg hc10 (hne _ (.inr (.inr (.inr (.inr (.inr (.inl rfl)))))))).chg hc11 (h.of_g _ (.inr (.inr (.inr (.inr (.inl rfl))))))
  have hpr := (h9'.pr.chg hc10 (hne _ (.inr (.inr (.inr (.inr (.inr (.inr rfl)))))))).chg hc11 (h.of_g _ (.inr (.inr (.inr (.inr (.inr (.inl rfl)))))))
  have hqg : ∀ k, q.blk = some k → k ≠ g := by
    intro k hk e
    obtain ⟨cs, hcs⟩ := ho10.blk_t hk
    rw [e] at hcs
    exact hb10.ne_t hcs (by decide) rfl
  refine hK q w11 ⟨⟨hb11, h.hg, hg0, hg1, hst, h.hst, hmo, hpr, h.hm, h.dm, ho10.chg hc11 hqg, h.dg, h.ok.areas _⟩, ?_, ?_⟩
  · rintro k (rfl | hk | hk | hk | hk | hk | hk | hk)
    · exact .inl (.inl rfl)
    · exact .inl (.inr (.inl hk))
    · exact .inl (.inr (.inr (.inl hk)))
    · exact .inl (.inr (.inr (.inr (.inl hk))))
    · exact .inl (.inr (.inr (.inr (.inr (.inl hk)))))
    · exact .inl (.inr (.inr (.inr (.inr (.inr (.inl hk))))))
    · exact .inl (.inr (.inr (.inr (.inr (.inr (.inr (.inl hk)))))))
    · have hk : q.blk = some k := hk
      rcases hq10 with h1 | h1
      · exact .inl (.inr (.inr (.inr (.inr (.inr (.inr (.inr (by rw [← h1]; exact hk))))))))
      · rw [h1] at hk
        injection hk with hk
        have := hB9.size
        exact .inr (by omega)
  · exact ((Chg.of_ext (S := scS g F) hB9).trans (hc10.mono fun i hi e => .inr (.inr (.inr (.inr (.inr (.inr (.inr e))))))) fun i hi e => e).trans (hc11.mono fun i hi e => .inl e) fun i hi e => e
theorem erase_spec {row rows from_ to : Int} {K : World → Prop} (h : ScM w base g F S) (ha : S.areas.length ≤ 1000000000) (hr : rows ≤ 9223372036854775806) (hK : ∀ F' w', ScT base g w F F' (S.erase row rows from_ to) w' → K w') : c_screen_Screen_erase (some ⟨g, 0, none⟩) row rows from_ to w K := by
  refine call_screen_Screen_erase _ _ _ _ _ ?_
  unfold sh_screen_Screen_erase
  refine joinP_of fun J1 hJ1 => ?_
  unfold Sc.erase at hK
  refine cond_of (fun e => ?_) fun e1 => cond_of (fun e => ?_) fun e2 => hJ1 _ _ ?_
  · have e : rows < 1 := of_decide_eq_true e
    rw [if_pos (.inl e)] at hK
    exact hK F w (ScT.refl h)
  · have e : from_ ≥ to := of_decide_eq_true e
    rw [if_pos (.inr e)] at hK
    exact hK F w (ScT.refl h)
  have e1 : ¬ rows < 1 := of_decide_eq_false e1
  have e2 : ¬ from_ ≥ to := of_decide_eq_false e2
  rw [if_neg (fun hh => hh.elim e1 e2)] at hK
  refine loopP_rule (fun (st : Int × Unit) w2 => ∃ (k : Nat) (F2 : ScF), st.1 = (k : Int) ∧ (k : Int) ≤ rows ∧ ScT base g w F F2 (S.fills row from_ to k) w2) (fun st => rows.toNat - st.1.toNat) ⟨0, F, rfl, by omega, ScT.refl h⟩ ?_
  rintro ⟨i, u⟩ w2 ⟨k, F2, hi, hk, hT2⟩ I hI
  dsimp only at hi ⊢
  subst hi
  refine cond_of (fun e => ?_) fun e => ?_
  · have e := of_decide_eq_true e
    refine sg_spec hT2.m ?_
    have hd := hT2.drew
    refine blank_spec hd.m fun w4 hB4 => ?_
    have h4 := hd.ext hB4
    refine fill_spec h4.m fun b F5 w5 hT5 => ?_
    rw [wrap64_id (x := (k : Int) + 1) (by omega)]
    exact hI _ _ ⟨k + 1, F5, by simp, by omega, h4.trans hT5⟩ (by dsimp only; omega)
  · have e := of_decide_eq_false e
    have hkr : k = rows.toNat := by omega
    rw [← hkr] at hK
    have hf := fills_same S row from_ to k
    simp only [onPtr_some]
    have hd := hT2.drew
    refine ldSl_of (x := F2.ar) (hd.m.blk.cells 41 _ rfl) ?_
    refine Alt_spec hd.m ⟨hd.m.blk.cells 41 _ rfl, ?_⟩
    refine sg_spec hd.m ?_
    have hdd := hd.drew
    refine ⟨hdd.m.blk.cells 41 _ rfl, ?_⟩
    refine gTop_spec hdd.m.gM ⟨hdd.m.blk.cells 41 _ rfl, ?_⟩
    rw [hf.2.1] at *
    exact area_spec hdd.m (by rw [hf.2.2]; exact ha) rfl fun q w' hT => hK _ w' (hdd.trans hT)
end
end Go.Proofs.YtmoafafalnbkpaaGreatDoor

set_option linter.unusedVariables false
namespace Go.Proofs.YtmoafafalnbkpaaGreatDoor
open Go.Vc Go.RowKit
set_option maxRecDepth 400000
section
variable {w w' : World} {base g : Nat} {F F' : ScF} {S S' : Sc}
theorem sub_cells {w : World} {b : Nat} {t : TypeId} {vs us : List Value} (h : Blk w b t vs) (o : Nat) (hu : (vs.drop o).take us.length = us) : cellsAt w ⟨b, o, none⟩ us := by
  intro j v hj
  have h1 : vs[o + j]? = some v := by
    have hjl : j < us.length := (List.getElem?_eq_some_iff.1 hj).1
    rw [← hu, List.getElem?_take_of_lt hjl, List.getElem?_drop] at hj
    exact hj
  have h2 := h.cells (o + j) v h1
  rw [add_mk] at h2 ⊢
  rw [Nat.zero_add] at h2
  exact h2
theorem ScOk.sv (h : ScOk S) : S.sv.c.Shift = 0 ∨ S.sv.c.Shift = 1 := by
  unfold Sc.sv
  split
  · exact h.sh1
  · exact h.sh0
theorem ScOk.restore (h : ScOk S) : ScOk S.restore := by
  have hb := h.bnd
  have e1 : w64 ((S.g.rows : Int) - 1) = (S.g.rows : Int) - 1 := w64_of (by omega)
  have e2 : w64 ((S.g.cols : Int) - 1) = (S.g.cols : Int) - 1 := w64_of (by omega)
  unfold Sc.restore
  dsimp only
  rw [e1, e2]
  obtain ⟨x, hx⟩ : ∃ x : Cur, x = if S.sv.is then S.sv.c else first0 := ⟨_, rfl⟩
  rw [← hx]
  have h1 := cutP_in (v := x.Row) (lo := 0) (hi := (S.g.rows : Int) - 1) (by omega)
  have h2 := cutP_in (v := x.Col) (lo := 0) (hi := (S.g.cols : Int) - 1) (by omega)
  refine h.cur (by dsimp only; omega) (by dsimp only; omega) ?_
  show x.Shift = 0 ∨ x.Shift = 1
  rw [hx]
  split
  · exact h.sv
  · exact .inl rfl
theorem restore_spec {K : World → Prop} (h : ScM w base g F S) (hK : ∀ w', ScT base g w F F S.restore w' → K w') : c_screen_Screen_restore (some ⟨g, 0, none⟩) w K := by
  refine call_screen_Screen_restore _ ?_
  unfold sh_screen_Screen_restore
  simp only [onPtr_some]
  have hd := (ScT.refl h).drew
  have hok := h.ok.restore
  refine ldI_of (x := if S.alt then 1 else 0) (hd.m.blk.cells 2 _ rfl) ?_
  have hix : (0 : Int) ≤ (if S.alt then 1 else 0) ∧ (if S.alt then (1 : Int) else 0) < ((2 : Nat) : Int) := by split <;> exact ⟨by decide, by decide⟩
  refine ⟨hix, ?_⟩
  have hsv : ∀ {w1}, Blk w1 g ty_screen_Screen (T_screen_Screen.rep.cells (scX F S)) → cellsAt w1 (((⟨g, 0, none⟩ : Addr).add 13).add ((if S.alt then (1 : Int) else 0).toNat * 11)) (T_screen_saved.rep.cells S.sv) := by
    intro w1 hb
    unfold Sc.sv
    cases hS : S.alt
    · rw [add_mk, add_mk]
      exact sub_cells hb 13 rfl
    · rw [add_mk, add_mk]
      exact sub_cells hb 24 rfl
  refine ldS_of (r := T_screen_saved.rep) (x := S.sv) (hsv hd.m.blk) ?_
  refine nw_blk fun w1 hx1 hB1 hs1 => ?_
  have h1 := hd.ext hB1
  refine ⟨hsv h1.m.blk, h1.m.blk.cells 2 _ rfl, all_of hx1 rfl fun w2 hx2 hc2 hs2 => ?_⟩
  have hB2 : Below w.drew.heap.size w.drew w2 := below_one hB1 hc2 (Nat.le_refl _)
  have h2 := hd.ext hB2
  refine joinP_of fun J1 hJ1 => ?_
  obtain ⟨x, hx⟩ : ∃ x : Cur, x = if S.sv.is then S.sv.c else first0 := ⟨_, rfl⟩
  have key : ∀ (w3 : World) (b : Bool), Below w.drew.heap.size w.drew w3 → Blk w3 w.drew.heap.size ty_screen_saved (T_screen_saved.rep.cells ⟨x, b⟩) → J1 () w3 := by
    intro w3 b hB3 hx3
    refine hJ1 _ _ ?_
    have h3 := hd.ext hB3
    refine ssize_spec h3.m ?_
    have h4 := h3.drew.drew
    have hx4 : Blk w3.drew.drew w.drew.heap.size ty_screen_saved (T_screen_saved.rep.cells ⟨x, b⟩) := hx3
    refine ldS_of (r := T_screen_Cursor.rep) (x := x) (by rw [add_mk]; exact sub_cells hx4 0 rfl) ?_
    rw [add_mk]
    refine stK_blk h4.m.blk (by simp [T_screen_Screen.rep, T_screen_Cursor.rep]) fun w5 hb5 hg5 hs5 => ?_
    have hgx : g ≠ w.drew.heap.size := by
      have := (h.below g (.inl rfl)).2
      exact fun e => by
        have : g = w.heap.size := e
        omega
    have hx5 := hx4.chg (Chg.gg hg5) (fun e => hgx e.symm)
    have hxd := hx5.drew
    refine ldI_of (x := x.Row) (by simp only [add_mk]; exact hxd.cell 0 rfl) (ldI_of (x := x.Col) (by simp only [add_mk]; exact hxd.cell 1 rfl) ?_)
    refine cut_spec ⟨by simp only [add_mk]; exact hxd.cell 1 rfl, cut_spec ?_⟩
    rw [add_mk, add_mk]
    refine stK_blk hb5.drew (by simp [T_screen_Screen.rep, T_screen_Cursor.rep, putL]) fun w6 hb6 hg6 hs6 => ?_
    refine stK_blk hb6 (by simp [T_screen_Screen.rep, T_screen_Cursor.rep, putL]) fun w7 hb7 hg7 hs7 => ?_
    have hcd : Chg (fun k => k = g) w5 w5.drew := Chg.of_ext (below_drew w5)
    have hc7 : Chg (fun k => k = g) w3.drew.drew w7 := (((Chg.gg hg5).trans hcd fun i _ hi => hi).trans (Chg.gg hg6) fun i _ hi => hi).trans (Chg.gg hg7) fun i _ hi => hi
    refine hK w7 (h4.trans (ScT.mk_struct h4.m hc7 (S' := S.restore) ?_ rfl rfl rfl rfl rfl rfl hok))
    have e : S.restore = { S with c := { x with Row := cutP x.Row 0 (w64 ((S.g.rows : Int) - 1)), Col := cutP x.Col 0 (w64 ((S.g.cols : Int) - 1)) } } := by
      unfold Sc.restore
      rw [← hx]
    rw [e]
    exact hb7
  refine ldB_of (x := S.sv.is) (by simp only [add_mk]; exact hx2.cell 10 rfl) ?_
  cases hi : S.sv.is
  · refine cond_t rfl (first_spec fun w10 hB10 => ?_)
    have hx10 := hx2.ext hB10
    rw [add_mk]
    refine stK_blk hx10 (by simp [T_screen_saved.rep, T_screen_Cursor.rep]) fun w11 hb11 hg11 hs11 => ?_
    have hB11 : Below w.drew.heap.size w.drew w11 := below_one (below_t hB2 hB10) (Chg.gg hg11) (Nat.le_refl _)
    refine key w11 false hB11 ?_
    rw [hi, if_neg (by decide)] at hx
    rw [hx]
    have hc : S.sv = ⟨S.sv.c, false⟩ := by rw [← hi]
    rw [hc] at hb11
    exact hb11
  · refine cond_f rfl (key w2 true hB2 ?_)
    rw [hi, if_pos rfl] at hx
    have hc : S.sv = ⟨S.sv.c, true⟩ := by rw [← hi]
    rw [hc] at hx2
    rw [hx]
    exact hx2
/-! ### plain, fresh, New -/
theorem ScOk.plain (h : ScOk S) : ScOk S.plain := ⟨h.g0, h.g1, h.rows, h.cols, h.row, h.col, h.shift, h.sh0, h.sh1, h.top, h.marg, h.stops⟩
theorem plain_spec {K : World → Prop} (h : ScM w base g F S) (hK : ∀ F' w', ScT base g w F F' S.plain w' → K w') : c_screen_Screen_plain (some ⟨g, 0, none⟩) w K := by
  refine call_screen_Screen_plain _ ?_
  unfold sh_screen_Screen_plain nwM
  dsimp only
  have hbase := h.base_le
  have hB1 : Below w.heap.size w (w.alloc (.map #[] 0)) := (Below.refl _ w).alloc (Nat.le_refl _) _
  have hs1 : (w.alloc (.map #[] 0)).heap.size = w.heap.size + 1 := by simp
  have m1 : MapM encO (w.alloc (.map #[] 0)) w.heap.size [] := MapM.new w
  generalize w.alloc (.map #[] 0) = w1 at hB1 hs1 m1 ⊢
  have hB2 : Below w1.heap.size w1 (w1.alloc (.map #[] 0)) := (Below.refl _ w1).alloc (Nat.le_refl _) _
  have hs2 : (w1.alloc (.map #[] 0)).heap.size = w1.heap.size + 1 := by simp
  have m2 : MapM encO (w1.alloc (.map #[] 0)) w1.heap.size [] := MapM.new w1
  generalize w1.alloc (.map #[] 0) = w2 at hB2 hs2 m2 ⊢
  have m1' := m1.ext hB2
  refine updO_spec (n := 7) (b := true) m2 (by decide) fun w3 m3 hc3 hs3 => ?_
  refine updO_spec (n := 25) (b := true) m3 (by decide) fun w4 m4 hc4 hs4 => ?_
  have hc24 : Chg (fun k => k = w1.heap.size) w2 w4 := hc3.trans hc4 fun i _ hi => hi
  have m1'' := m1'.chg hc24 (by omega)
  have hB4 : Below w.heap.size w w4 := below_one (below_t hB1 hB2) hc24 (by omega)
  have hT4 := ScT.of_ext h hB4
  simp only [onPtr_some]
  rw [add_mk]
  refine stK_blk hT4.m.blk (by simp [T_screen_Screen.rep]) fun w5 hb5 hg5 hs5 => ?_
  rw [add_mk]
  refine stK_blk hb5 (by simp [T_screen_Screen.rep, putL]) fun w6 hb6 hg6 hs6 => ?_
  have hc6 : Chg (fun k => k = g) w4 w6 := (Chg.gg hg5).trans (Chg.gg hg6) fun i _ hi => hi
  have htr := h.below F.tr (.inr (.inr (.inr (.inr (.inl rfl)))))
  have hM := hT4.m.remake (F' := { F with mm := w.heap.size, mp := w1.heap.size }) (S' := S.plain) hc6 hb6 rfl rfl rfl rfl hT4.m.st h.hst m1'' m4 ⟨hbase, by dsimp only; omega⟩ ⟨by dsimp only; omega, by dsimp only; omega, by dsimp only; omega⟩ hT4.m.ar h.ok.plain
  refine hK _ w6 ⟨hM, ?_, ?_⟩
  · rintro k (rfl | hk | hk | hk | hk | hk | hk | hk)
    · exact .inl (.inl rfl)
    · exact .inl (.inr (.inl hk))
    · exact .inl (.inr (.inr (.inl hk)))
    · exact .inl (.inr (.inr (.inr (.inl hk))))
    · exact .inl (.inr (.inr (.inr (.inr (.inl hk)))))
    · have hk : k = w.heap.size := hk
      exact .inr (by omega)
    · have hk : k = w1.heap.size := hk
      exact .inr (by omega)
    · exact .inl (.inr (.inr (.inr (.inr (.inr (.inr (.inr hk)))))))
  · exact (Chg.of_ext (S := scS g F) hB4).trans (hc6.mono fun i hi e => .inl e) fun i hi e => e
end
end Go.Proofs.YtmoafafalnbkpaaGreatDoor

set_option linter.unusedVariables false
namespace Go.Proofs.YtmoafafalnbkpaaGreatDoor
open Go.Vc Go.RowKit
set_option maxRecDepth 400000
theorem RingM.base {w : World} {base base' r most : Nat} {s : Slc} {old : List (List Cell)} (h : RingM w base r s most old) (hb : base' ≤ base) : RingM w base' r s most old := by
  obtain ⟨at_, gone, ls, xss, h1, ho, hl, hbr, e, hm, ha⟩ := h
  exact ⟨at_, gone, ls, xss, h1, ho.base hb, ⟨hl.1, fun i s xs e1 e2 => (hl.2 i s xs e1 e2).base hb⟩, by omega, e, hm, ha⟩
theorem GridM.base {w : World} {base base' : Nat} {f : Foot} {S : GS} (h : GridM w base f S) (hb : base' ≤ base) : GridM w base' f S := by
  obtain ⟨ls, ho, hl⟩ := h.row
  exact ⟨h.blk, by have := h.hg; omega, ⟨ls, ho.base hb, ⟨hl.1, fun i s xs e1 e2 => (hl.2 i s xs e1 e2).base hb⟩⟩, h.ring.base hb, h.ne⟩
theorem stops_ne {w : World} {g r : Nat} {B : List Bool} (h : StopsM w g r B) {k : Nat} {cs : List Value} (hb : Blk w k ty_screen_Screen cs) : k ≠ g ∧ k ≠ r := ⟨hb.ne_t h.blk (by decide), map_not h.map hb⟩
theorem cells_saved (X : T_screen_Screen) : putL (T_screen_Screen.rep.cells X) (0 + 13) [(.int .i64 0), (.int .i64 0), (.bool false), (.int .i64 0), (.int .i64 0), (.int .i64 0), (.bool false), (.int .u8 0), (.int .u8 0), (.int .i64 0), (.bool false), (.int .i64 0), (.int .i64 0), (.bool false), (.int .i64 0), (.int .i64 0), (.int .i64 0), (.bool false), (.int .u8 0), (.int .u8 0), (.int .i64 0), (.bool false)] = T_screen_Screen.rep.cells { X with saved := ⟨sav0, sav0⟩ } := by
  kernel_rfl
/-- What a screen has but for its stops and modes. -/
structure ScR (w : World) (base g : Nat) (X : T_screen_Screen) (f0 f1 : Foot) (G0 G1 : GS) (ar : Slc) (az : List T_screen_Area) : Prop where
  blk : Blk w g ty_screen_Screen (T_screen_Screen.rep.cells X)
  gr : X.grids = ⟨some ⟨f0.g, 0, none⟩, some ⟨f1.g, 0, none⟩⟩
  xa : X.areas = ar
  hg : base ≤ g
  g0 : GridM w base f0 G0
  g1 : GridM w base f1 G1
  ar : Go.Vc.Own E_screen_Area w base ar az
  dg : ∀ k, gridS f0 k → ¬ gridS f1 k
section
variable {w w' : World} {base g : Nat} {F F' : ScF} {S S' : Sc} {X X' : T_screen_Screen} {f0 f1 : Foot} {G0 G1 : GS} {ar : Slc} {az : List T_screen_Area}
theorem ScM.toR (h : ScM w base g F S) : ScR w base g (scX F S) F.f0 F.f1 S.g0 S.g1 F.ar S.areas := ⟨h.blk, rfl, rfl, h.hg, h.g0, h.g1, h.ar, h.dg⟩
theorem ScR.step (h : ScR w base g X f0 f1 G0 G1 ar az) (hc : Chg (fun k => k = g) w w') (hb : Blk w' g ty_screen_Screen (T_screen_Screen.rep.cells X')) (e1 : X'.grids = X.grids) (e2 : X'.areas = X.areas) : ScR w' base g X' f0 f1 G0 G1 ar az := by
  have hC : ∀ k cs, k = g → ¬ Blk w k ty_api_Cell cs := fun k cs hk hcs => by subst hk; exact h.blk.ne_t hcs (by decide) rfl
  refine ⟨hb, e1.trans h.gr, e2.trans h.xa, h.hg, h.g0.chg hc (fun k hk e => ?_) hC, h.g1.chg hc (fun k hk e => ?_) hC, h.ar.chg hc fun k hk e => ?_, h.dg⟩
  · subst e
    have := grid_ne h.g0 hk h.blk
    revert this; decide
  · subst e
    have := grid_ne h.g1 hk h.blk
    revert this; decide
  · obtain ⟨cs, hcs⟩ := h.ar.blk_t hk
    rw [e] at hcs
    exact h.blk.ne_t hcs (by decide) rfl
theorem ScR.ext (h : ScR w base g X f0 f1 G0 G1 ar az) (hB : Below w.heap.size w w') : ScR w' base g X f0 f1 G0 G1 ar az :=
  ⟨h.blk.ext hB, h.gr, h.xa, h.hg, h.g0.ext hB, h.g1.ext hB, h.ar.ext hB, h.dg⟩
theorem ScR.fin (h : ScR w base g (scX F S) F.f0 F.f1 S.g0 S.g1 F.ar S.areas) (hst : StopsM w F.tg F.tr S.stops) (hstb : base ≤ F.tg ∧ base ≤ F.tr) (hmo : MapM encO w F.mm S.modes) (hpr : MapM encO w F.mp S.priv) (hmb : base ≤ F.mm ∧ base ≤ F.mp) (hdm : F.mm ≠ F.mp ∧ F.tr ≠ F.mm ∧ F.tr ≠ F.mp) (ok : ScOk S) : ScM w base g F S :=
  ⟨h.blk, h.hg, h.g0, h.g1, hst, hstb, hmo, hpr, hmb, hdm, h.ar, h.dg, ok⟩
theorem sizeR_spec {K : Int → Int → World → Prop} (h : ScR w base g X f0 f1 G0 G1 ar az) (hn : X.now = 0) (hK : K G0.rows G0.cols w.drew.drew) : c_screen_Screen_size (some ⟨g, 0, none⟩) w K := by
  refine call_screen_Screen_size _ ?_
  unfold sh_screen_Screen_size
  refine call_screen_Screen_g _ ?_
  unfold sh_screen_Screen_g
  simp only [onPtr_some]
  have h1 := h.ext (below_drew w)
  refine ldI_of (x := 0) (by rw [← hn]; exact h1.blk.cells 2 _ rfl) ?_
  refine ⟨⟨by decide, by decide⟩, ldP_of (x := some ⟨f0.g, 0, none⟩) ?_ (gSize_spec h1.g0 hK)⟩
  have e := congrArg T_2_grid_Grid.e0 h.gr
  have e : X.grids.e0 = some ⟨f0.g, 0, none⟩ := e
  rw [← e]
  exact h1.blk.cells 0 _ rfl
theorem chg_seq {T : Nat → Prop} {a b c : World} (h : Chg T a b) (k : Chg T b c) : Chg T a c := h.trans k fun i _ hi => hi
def freshC (G0 G1 : GS) (az : List T_screen_Area) : Sc := ⟨G0, G1, false, first0, sav0, sav0, [], putL' (putL' [] 7 true) 25 true, 0, G0.rows, resz [] G0.cols, -1, az⟩
set_option maxHeartbeats 400000 in
theorem freshR_spec {K : World → Prop} (h : ScR w base g X f0 f1 G0 G1 ar az) (hG0 : GOk G0) (hG1 : GOk G1) (hr : G1.rows = G0.rows) (hc : G1.cols = G0.cols) (hb : base ≤ w.heap.size)
    (hK : ∀ tg tr mm mp w', w.heap.size ≤ tg → w.heap.size ≤ tr → w.heap.size ≤ mm → w.heap.size ≤ mp → ScM w' base g ⟨f0, f1, tg, tr, mm, mp, ar⟩ (freshC G0 G1 az) → Chg (fun k => k = g) w w' → K w') : c_screen_Screen_fresh (some ⟨g, 0, none⟩) w K := by
  refine call_screen_Screen_fresh _ ?_
  unfold sh_screen_Screen_fresh
  simp only [onPtr_some]
  rw [add_mk]
  refine stK_blk h.blk (by simp [T_screen_Screen.rep]) fun w1 hb1 hg1 hs1 => ?_
  have h1 : ScR w1 base g { X with now := 0 } f0 f1 G0 G1 ar az := h.step (Chg.gg hg1) (X' := { X with now := 0 }) hb1 rfl rfl
  have c1 : Chg (fun k => k = g) w w1 := Chg.gg hg1
  refine sizeR_spec h1 rfl ?_
  have hB2 : Below w1.heap.size w1 w1.drew.drew := below_t (below_drew w1) (below_drew w1.drew)
  have h2 := h1.ext hB2
  have c2 := chg_seq c1 (Chg.of_ext hB2)
  generalize w1.drew.drew = w2 at h2 c2 ⊢
  clear hb1 hg1 hs1 h1 c1 hB2
  have s2 := c2.size
  refine tNew_spec _ (fun w' _ hbad => absurd hbad (by have := hG0.cols; omega)) fun tg tr w3 _ _ htg htr hst hB3 => ?_
  rw [show ((G0.cols : Nat) : Int).toNat = G0.cols from Int.toNat_natCast _] at hst
  have h3 := h2.ext hB3
  have c3 := chg_seq c2 (Chg.of_ext hB3)
  have s3 := hB3.size
  clear c2
  have hgt := stops_ne hst h3.blk
  rw [add_mk]
  refine stK_blk h3.blk (by simp [T_screen_Screen.rep]) fun w4 hb4 hg4 hs4 => ?_
  have h4 : ScR w4 base g { X with now := 0, stops := some ⟨tg, 0, none⟩ } f0 f1 G0 G1 ar az := h3.step (Chg.gg hg4) (X' := { X with now := 0, stops := some ⟨tg, 0, none⟩ }) hb4 rfl rfl
  have c4 := chg_seq c3 (Chg.gg hg4)
  have st4 : StopsM w4 tg tr (resz [] G0.cols) := hst.keep (Chg.gg hg4) (fun e => hgt.1 e.symm) fun e => hgt.2 e.symm
  have hgr4 : tg < w4.heap.size ∧ tr < w4.heap.size := ⟨st4.blk.lt, st4.map.lt⟩
  clear hst h3 c3 hb4 hg4
  refine first_spec fun w5 hB5 => ?_
  have h5 := h4.ext hB5
  have c5 := chg_seq c4 (Chg.of_ext hB5)
  have st5 := st4.keep (Chg.of_ext (S := fun _ => False) hB5) (fun e => e) fun e => e
  rw [add_mk]
  refine stK_blk h5.blk (by simp [T_screen_Screen.rep, T_screen_Cursor.rep]) fun w6 hb6' hg6 hs6 => ?_
  have hb6 : Blk w6 g ty_screen_Screen (T_screen_Screen.rep.cells ⟨X.grids, 0, first0, X.saved, X.modes, X.private_, X.top, X.past, some ⟨tg, 0, none⟩, X.char, X.areas⟩) := hb6'
  clear hb6'
  rw [add_mk]
  refine stK_blk hb6 (by simp [T_screen_Screen.rep]) fun w7 hb7' hg7 hs7 => ?_
  have hb7 : Blk w7 g ty_screen_Screen (T_screen_Screen.rep.cells ⟨X.grids, 0, first0, ⟨sav0, sav0⟩, X.modes, X.private_, X.top, X.past, some ⟨tg, 0, none⟩, X.char, X.areas⟩) := by rw [cells_saved] at hb7'; exact hb7'
  clear hb7'
  rw [add_mk]
  refine stK_blk hb7 (by simp [T_screen_Screen.rep]) fun w8 hb8' hg8 hs8 => ?_
  have hb8 : Blk w8 g ty_screen_Screen (T_screen_Screen.rep.cells ⟨X.grids, 0, first0, ⟨sav0, sav0⟩, X.modes, X.private_, X.top, X.past, some ⟨tg, 0, none⟩, -1, X.areas⟩) := hb8'
  clear hb8'
  rw [add_mk]
  refine stK_blk hb8 (by simp [T_screen_Screen.rep]) fun w9 hb9' hg9 hs9 => ?_
  have hb9 : Blk w9 g ty_screen_Screen (T_screen_Screen.rep.cells ⟨X.grids, 0, first0, ⟨sav0, sav0⟩, X.modes, X.private_, 0, X.past, some ⟨tg, 0, none⟩, -1, X.areas⟩) := hb9'
  clear hb9'
  rw [add_mk]
  refine stK_blk hb9 (by simp [T_screen_Screen.rep]) fun w10 hb10' hg10 hs10 => ?_
  have hb10 : Blk w10 g ty_screen_Screen (T_screen_Screen.rep.cells ⟨X.grids, 0, first0, ⟨sav0, sav0⟩, X.modes, X.private_, 0, G0.rows, some ⟨tg, 0, none⟩, -1, X.areas⟩) := hb10'
  clear hb10'
  have c510 : Chg (fun k => k = g) w5 w10 := chg_seq (chg_seq (chg_seq (chg_seq (Chg.gg hg6) (Chg.gg hg7)) (Chg.gg hg8)) (Chg.gg hg9)) (Chg.gg hg10)
  have h10 : ScR w10 base g ⟨X.grids, 0, first0, ⟨sav0, sav0⟩, X.modes, X.private_, 0, G0.rows, some ⟨tg, 0, none⟩, -1, X.areas⟩ f0 f1 G0 G1 ar az := h5.step c510 (X' := ⟨X.grids, 0, first0, ⟨sav0, sav0⟩, X.modes, X.private_, 0, G0.rows, some ⟨tg, 0, none⟩, -1, X.areas⟩) hb10 rfl rfl
  have c10 := chg_seq c5 c510
  have st10 := st5.keep c510 (fun e => hgt.1 e.symm) fun e => hgt.2 e.symm
  clear hb6 hg6 hb7 hg7 hb8 hg8 hb9 hg9 hb10 hg10 c510 h5 c5 st5 h4 c4 st4
  refine call_screen_Screen_plain _ ?_
  unfold sh_screen_Screen_plain nwM
  dsimp only
  have hB11 : Below w10.heap.size w10 (w10.alloc (.map #[] 0)) := (Below.refl _ w10).alloc (Nat.le_refl _) _
  have hs11 : (w10.alloc (.map #[] 0)).heap.size = w10.heap.size + 1 := by simp
  have m1 : MapM encO (w10.alloc (.map #[] 0)) w10.heap.size [] := MapM.new w10
  generalize w10.alloc (.map #[] 0) = w11 at hB11 hs11 m1 ⊢
  have hB12 : Below w11.heap.size w11 (w11.alloc (.map #[] 0)) := (Below.refl _ w11).alloc (Nat.le_refl _) _
  have hs12 : (w11.alloc (.map #[] 0)).heap.size = w11.heap.size + 1 := by simp
  have m2 : MapM encO (w11.alloc (.map #[] 0)) w11.heap.size [] := MapM.new w11
  generalize w11.alloc (.map #[] 0) = w12 at hB12 hs12 m2 ⊢
  have m1' := m1.ext hB12
  refine updO_spec (n := 7) (b := true) m2 (by decide) fun w13 m3 hc13 hs13 => ?_
  refine updO_spec (n := 25) (b := true) m3 (by decide) fun w14 m4 hc14 hs14 => ?_
  have hc24 : Chg (fun k => k = w11.heap.size) w12 w14 := hc13.trans hc14 fun i _ hi => hi
  have m1'' := m1'.chg hc24 (by omega)
  have hB14 : Below w10.heap.size w10 w14 := below_one (below_t hB11 hB12) hc24 (by omega)
  have h14 := h10.ext hB14
  have c14 := chg_seq c10 (Chg.of_ext hB14)
  have st14 := st10.keep (Chg.of_ext (S := fun _ => False) hB14) (fun e => e) fun e => e
  simp only [onPtr_some]
  rw [add_mk]
  refine stK_blk h14.blk (by simp [T_screen_Screen.rep]) fun w15 hb15 hg15 hs15 => ?_
  rw [add_mk]
  refine stK_blk hb15 (by simp [T_screen_Screen.rep, putL]) fun w16 hb16 hg16 hs16 => ?_
  have c46 : Chg (fun k => k = g) w14 w16 := chg_seq (Chg.gg hg15) (Chg.gg hg16)
  have s10 := c10.size
  have htr10 := st10.map.lt
  have hgl := h10.blk.lt
  refine hK tg tr w10.heap.size w11.heap.size w16 (by omega) (by omega) (by omega) (by omega) ?_ (chg_seq c14 c46)
  have hX : ScR w16 base g (scX ⟨f0, f1, tg, tr, w10.heap.size, w11.heap.size, ar⟩ (freshC G0 G1 az)) f0 f1 G0 G1 ar az := by
    refine h14.step c46 (X' := scX ⟨f0, f1, tg, tr, w10.heap.size, w11.heap.size, ar⟩ (freshC G0 G1 az)) ?_ ?_ ?_
    · have e1 : X.grids = ⟨some ⟨f0.g, 0, none⟩, some ⟨f1.g, 0, none⟩⟩ := h.gr
      have e2 : X.areas = ar := h.xa
      rw [e1, e2] at hb16
      exact hb16
    · exact h.gr.symm
    · exact h.xa.symm
  refine hX.fin (st14.keep c46 (fun e => hgt.1 e.symm) fun e => hgt.2 e.symm) ⟨by dsimp only; omega, by dsimp only; omega⟩ (m1''.chg c46 (by omega)) (m4.chg c46 (by omega)) ⟨by dsimp only; omega, by dsimp only; omega⟩ ⟨by dsimp only; omega, by dsimp only; omega, by dsimp only; omega⟩ ?_
  have b1 := hG0.rows
  have b2 := hG0.cols
  exact ⟨hG0, hG1, hr, hc, ⟨Int.le_refl 0, by show (0 : Int) < (G0.rows : Int); omega⟩, ⟨Int.le_refl 0, by show (0 : Int) < (G0.cols : Int); omega⟩, .inl rfl, .inl rfl, .inl rfl, ⟨by show (0 : Int) ≤ 0; omega, by show (0 : Int) < (G0.rows : Int); omega, by show (G0.rows : Int) ≤ G0.rows; omega⟩, fun hh => by
    show (0 : Int) + 2 ≤ (G0.rows : Int)
    have hh : 2 ≤ G0.rows := hh
    omega, by show (resz [] G0.cols).length = G0.cols; exact resz_length _ _⟩
theorem fresh_spec {K : World → Prop} (h : ScM w base g F S) (hK : ∀ F' w', ScT base g w F F' S.fresh w' → K w') : c_screen_Screen_fresh (some ⟨g, 0, none⟩) w K := by
  refine freshR_spec h.toR h.ok.g0 h.ok.g1 h.ok.rows h.ok.cols h.base_le fun tg tr mm mp w' h1 h2 h3 h4 hM hc => ?_
  refine hK _ w' ⟨hM, ?_, hc.mono fun i hi e => .inl e⟩
  rintro k (rfl | hk | hk | hk | hk | hk | hk | hk)
  · exact .inl (.inl rfl)
  · exact .inl (.inr (.inl hk))
  · exact .inl (.inr (.inr (.inl hk)))
  · have hk : k = tg := hk
    exact .inr (by omega)
  · have hk : k = tr := hk
    exact .inr (by omega)
  · have hk : k = mm := hk
    exact .inr (by omega)
  · have hk : k = mp := hk
    exact .inr (by omega)
  · exact .inl (.inr (.inr (.inr (.inr (.inr (.inr (.inr hk)))))))
/-! ### Check, New -/
def okC (c : T_api_Config) : Prop := (1 ≤ c.Rows ∧ c.Rows ≤ 1000) ∧ (1 ≤ c.Cols ∧ c.Cols ≤ 1000) ∧ (1 ≤ c.CellW ∧ c.CellW ≤ 64) ∧ (1 ≤ c.CellH ∧ c.CellH ≤ 64) ∧ (0 ≤ c.Back ∧ c.Back ≤ 16384) ∧ (0 ≤ c.Quota ∧ c.Quota ≤ 1073741824)
theorem Check_spec {c : T_api_Config} {K : Int → World → Prop} (h1 : okC c → ∀ w', Below w.heap.size w w' → K 0 w') (h2 : ¬ okC c → ∀ w', Below w.heap.size w w' → K 1 w') : c_screen_Check c w K := by
  refine call_screen_Check _ ?_
  unfold sh_screen_Check
  refine nw_blk fun w1 hb1 hB1 hs1 => ?_
  refine ldI_of (x := c.Rows) (hb1.cells 0 _ rfl) (between_spec (cond_of (fun e1 => ?_) fun e => h2 (fun hh => of_decide_eq_false e hh.1) w1 hB1))
  refine ldI_of (x := c.Cols) (hb1.cells 1 _ rfl) (between_spec (cond_of (fun e2 => ?_) fun e => h2 (fun hh => of_decide_eq_false e hh.2.1) w1 hB1))
  refine ldI_of (x := c.CellW) (hb1.cells 2 _ rfl) (between_spec (cond_of (fun e3 => ?_) fun e => h2 (fun hh => of_decide_eq_false e hh.2.2.1) w1 hB1))
  refine ldI_of (x := c.CellH) (hb1.cells 3 _ rfl) (between_spec (cond_of (fun e4 => ?_) fun e => h2 (fun hh => of_decide_eq_false e hh.2.2.2.1) w1 hB1))
  refine ldI_of (x := c.Back) (hb1.cells 4 _ rfl) (between_spec (cond_of (fun e5 => ?_) fun e => h2 (fun hh => of_decide_eq_false e hh.2.2.2.2.1) w1 hB1))
  refine ldI_of (x := c.Quota) (hb1.cells 5 _ rfl) (between_spec (cond_of (fun e6 => ?_) fun e => h2 (fun hh => of_decide_eq_false e hh.2.2.2.2.2) w1 hB1))
  exact h1 ⟨of_decide_eq_true e1, of_decide_eq_true e2, of_decide_eq_true e3, of_decide_eq_true e4, of_decide_eq_true e5, of_decide_eq_true e6⟩ w1 hB1
/-- A new screen. -/
def newSc (rows cols back : Nat) : Sc := freshC (gs0 rows cols back) (gs0 rows cols 0) []
theorem sNew_spec {c : T_api_Config} {K : Option Addr → Int → World → Prop} (hK1 : ¬ okC c → ∀ w', Below w.heap.size w w' → K none 1 w')
    (hK2 : okC c → ∀ g F w', ScM w' w.heap.size g F (newSc c.Rows.toNat c.Cols.toNat c.Back.toNat) → Below w.heap.size w w' → K (some ⟨g, 0, none⟩) 0 w') : c_screen_New c w K := by
  refine call_screen_New _ ?_
  unfold sh_screen_New
  refine nw_blk fun w1 hb1 hB1 hs1 => ?_
  refine ldS_of (r := T_api_Config.rep) (x := c) hb1.cells ?_
  refine Check_spec (fun hok w2 hB2 => cond_f rfl ?_) fun hok w2 hB2 => cond_t rfl (hK1 hok w2 (below_t hB1 hB2))
  obtain ⟨o1, o2, o3, o4, o5, o6⟩ := hok
  refine nw_blk fun w3 hb3 hB3 hs3 => ?_
  have B3 := below_t (below_t hB1 hB2) hB3
  have hc3 := (hb1.ext hB2).ext hB3
  have s3 := B3.size
  have s2 := hB2.size
  refine ldI_of (x := c.Rows) (hc3.drew.cells 0 _ rfl) (ldI_of (x := c.Cols) (hc3.drew.cells 1 _ rfl) (ldI_of (x := c.Back) (hc3.drew.cells 4 _ rfl) ?_))
  have ng : ¬ badGrid c.Rows c.Cols c.Back := by unfold badGrid; omega
  have ng0 : ¬ badGrid c.Rows c.Cols 0 := by unfold badGrid; omega
  refine gNew_spec (fun hbad => absurd hbad ng) fun _ f0 w4 g0 hB4 => ?_
  have z3 : w3.drew.heap.size = w3.heap.size := rfl
  have B34 : Below w3.heap.size w3 w4 := below_t (below_drew w3) hB4
  have hb4 := hb3.ext B34
  have hc4 := hc3.ext B34
  have s4 := B34.size
  refine ⟨⟨by decide, by decide⟩, ?_⟩
  rw [add_mk, add_mk]
  refine stK_blk hb4 (by simp) fun w5 hb5 hg5 hs5 => ?_
  have c5 : Chg (fun k => k = w2.heap.size) w4 w5 := Chg.gg hg5
  have hC5 : ∀ k cs, k = w2.heap.size → ¬ Blk w4 k ty_api_Cell cs := fun k cs hk hcs => by subst hk; exact hb4.ne_t hcs (by decide) rfl
  have g0' := g0.chg c5 (fun k hk e => by have := (g0.below k hk).1; omega) hC5
  have hc5 := hc4.chg c5 (by omega)
  refine ldI_of (x := c.Rows) (hc5.drew.cells 0 _ rfl) (ldI_of (x := c.Cols) (hc5.drew.cells 1 _ rfl) ?_)
  refine gNew_spec (fun hbad => absurd hbad ng0) fun _ f1 w6 g1 hB6 => ?_
  have z5 : w5.drew.heap.size = w5.heap.size := rfl
  have B56 : Below w5.heap.size w5 w6 := below_t (below_drew w5) hB6
  have hb6 := hb5.ext B56
  have g0'' := g0'.ext B56
  have s6 := B56.size
  refine ⟨⟨by decide, by decide⟩, ?_⟩
  rw [add_mk, add_mk]
  refine stK_blk hb6 (by simp [putL]) fun w7 hb7 hg7 hs7 => ?_
  have c7 : Chg (fun k => k = w2.heap.size) w6 w7 := Chg.gg hg7
  have hC7 : ∀ k cs, k = w2.heap.size → ¬ Blk w6 k ty_api_Cell cs := fun k cs hk hcs => by subst hk; exact hb6.ne_t hcs (by decide) rfl
  have q0 := g0''.chg c7 (fun k hk e => by have := (g0''.below k hk).1; omega) hC7
  have q1 := g1.chg c7 (fun k hk e => by have := (g1.below k hk).1; omega) hC7
  have B7 : Below w.heap.size w w7 := by
    have b1 := below_t B3 B34
    have b2 := b1.trans (c5.below (B := w.heap.size) b1.size fun i hi e => by omega)
    have b3 := below_t b2 B56
    exact b3.trans (c7.below (B := w.heap.size) b3.size fun i hi e => by omega)
  have hR : ScR w7 w.heap.size w2.heap.size ⟨⟨some ⟨f0.g, 0, none⟩, some ⟨f1.g, 0, none⟩⟩, 0, ⟨0, 0, false, ⟨0, 0, 0⟩, false, ⟨0, 0⟩, 0⟩, ⟨sav0, sav0⟩, none, none, 0, 0, none, 0, ⟨none, 0, 0⟩⟩ f0 f1 (gs0 c.Rows.toNat c.Cols.toNat c.Back.toNat) (gs0 c.Rows.toNat c.Cols.toNat (0 : Int).toNat) ⟨none, 0, 0⟩ [] := by
    refine ⟨hb7, rfl, rfl, by omega, q0.base (by omega), q1.base (by omega), Go.Vc.Own.nil _ _ _, fun k hk hk' => ?_⟩
    have h1 := (g0.below k hk).2
    have h2 := (g1.below k hk').1
    omega
  have hG0 : GOk (gs0 c.Rows.toNat c.Cols.toNat c.Back.toNat) := GOk.new (by omega) (by omega) (by omega)
  have hG1 : GOk (gs0 c.Rows.toNat c.Cols.toNat (0 : Int).toNat) := GOk.new (by omega) (by omega) (by decide)
  refine freshR_spec hR hG0 hG1 rfl rfl B7.size fun tg tr mm mp w8 h1 h2 h3 h4 hM hc => ?_
  exact hK2 ⟨o1, o2, o3, o4, o5, o6⟩ _ _ w8 hM (B7.trans (hc.below B7.size fun i hi e => by omega))
end
end Go.Proofs.YtmoafafalnbkpaaGreatDoor

set_option linter.unusedVariables false
namespace Go.Proofs.YtmoafafalnbkpaaGreatDoor
open Go.Vc Go.RowKit
set_option maxRecDepth 400000
def in64 (x : Int) : Prop := -9223372036854775808 ≤ x ∧ x ≤ 9223372036854775807
/-- Parameters that are no part of the screen. -/
structure ParM (w : World) (g : Nat) (F : ScF) (p : Slc) (ps : List Int) : Prop where
  rd : Rd E_int w p ps
  off : ps = [] ∨ ∀ a, p.a = some a → ¬ scS g F a.block ∧ a.block < w.heap.size
  rng : ∀ x ∈ ps, in64 x
  len : ps.length ≤ 100000
section
variable {w w' : World} {base g : Nat} {F F' : ScF} {S S' : Sc} {p : Slc} {ps : List Int}
theorem Rd.nil_any {T : Type} {E : El T} {w w' : World} {s : Slc} (h : Rd E w s []) : Rd E w' s [] := ⟨h.n, h.nc, h.cm, h.some_, fun i x hx => by cases hx⟩
theorem ParM.step (h : ParM w g F p ps) (hT : ScT base g w F F' S' w') : ParM w' g F' p ps := by
  rcases h.off with e | e
  · subst e
    exact ⟨Rd.nil_any h.rd, .inl rfl, h.rng, h.len⟩
  · refine ⟨h.rd.chg hT.chg fun a ha => (e a ha).1, .inr fun a ha => ⟨fun hs => ?_, ?_⟩, h.rng, h.len⟩
    · rcases hT.old _ hs with h1 | h1
      · exact (e a ha).1 h1
      · have := (e a ha).2; omega
    · have := (e a ha).2
      have := hT.chg.size
      omega
theorem ParM.ext (h : ParM w g F p ps) (hB : Below w.heap.size w w') : ParM w' g F p ps := by
  have := hB.size
  exact ⟨h.rd.ext hB, h.off.imp (fun e => e) fun e a ha => ⟨(e a ha).1, by have := (e a ha).2; omega⟩, h.rng, h.len⟩
/-! ### Loads and stores -/
theorem ScM.ldRow (h : ScM w base g F S) {K : Int → Prop} (hK : K S.c.Row) : ldI .i64 (((⟨g, 0, none⟩ : Addr).add 3).add 0) w K := ldI_of (x := S.c.Row) (by simp only [add_mk]; exact h.blk.cell 3 rfl) hK
theorem ScM.ldCol (h : ScM w base g F S) {K : Int → Prop} (hK : K S.c.Col) : ldI .i64 (((⟨g, 0, none⟩ : Addr).add 3).add 1) w K := ldI_of (x := S.c.Col) (by simp only [add_mk]; exact h.blk.cell 4 rfl) hK
theorem ScM.ldOrg (h : ScM w base g F S) {K : Bool → Prop} (hK : K S.c.Origin) : ldB (((⟨g, 0, none⟩ : Addr).add 3).add 6) w K := ldB_of (x := S.c.Origin) (by simp only [add_mk]; exact h.blk.cell 9 rfl) hK
theorem ScM.ldTop (h : ScM w base g F S) {K : Int → Prop} (hK : K S.top) : ldI .i64 ((⟨g, 0, none⟩ : Addr).add 37) w K := ldI_of (x := S.top) (by simp only [add_mk]; exact h.blk.cell 37 rfl) hK
theorem ScM.ldPast (h : ScM w base g F S) {K : Int → Prop} (hK : K S.past) : ldI .i64 ((⟨g, 0, none⟩ : Addr).add 38) w K := ldI_of (x := S.past) (by simp only [add_mk]; exact h.blk.cell 38 rfl) hK
theorem ScM.ldStops (h : ScM w base g F S) {K : Option Addr → Prop} (hK : K (some ⟨F.tg, 0, none⟩)) : ldP ((⟨g, 0, none⟩ : Addr).add 39) w K := ldP_of (x := some ⟨F.tg, 0, none⟩) (by simp only [add_mk]; exact h.blk.cell 39 rfl) hK
theorem ScM.cRow (h : ScM w base g F S) : w.cell? (((⟨g, 0, none⟩ : Addr).add 3).add 0) = some (.int .i64 S.c.Row) := by simp only [add_mk]; exact h.blk.cell 3 rfl
theorem ScM.cCol (h : ScM w base g F S) : w.cell? (((⟨g, 0, none⟩ : Addr).add 3).add 1) = some (.int .i64 S.c.Col) := by simp only [add_mk]; exact h.blk.cell 4 rfl
theorem ScM.cPast (h : ScM w base g F S) : w.cell? ((⟨g, 0, none⟩ : Addr).add 38) = some (.int .i64 S.past) := by simp only [add_mk]; exact h.blk.cell 38 rfl
theorem ScM.stDry (h : ScM w base g F S) {K : World → Prop} (hK : ∀ w', ScT base g w F F S.dry w' → K w') : stK (((⟨g, 0, none⟩ : Addr).add 3).add 2) [.bool false] w K := by
  rw [add_mk, add_mk]
  exact stK_blk h.blk (by simp [T_screen_Screen.rep]) fun w1 hb1 hg1 hs1 => hK w1 (ScT.dry h hb1 hg1)
/-! ### param, asked -/
theorem param_spec (h : ParM w g F p ps) {i : Nat} {none : Int} {K : Int → World → Prop} (hK : K (paramP ps i none) w) : c_screen_param p i none w K := by
  refine call_screen_param _ _ _ ?_
  unfold sh_screen_param
  refine joinP_of fun J1 hJ1 => ?_
  have hn := h.rd.n
  unfold paramP at hK
  refine cond_of (fun e => ?_) fun e => ?_
  · have e := of_decide_eq_true e
    rw [List.getElem?_eq_none (by omega)] at hK
    exact hK
  · have e := of_decide_eq_false e
    have hi : i < ps.length := by omega
    rw [List.getElem?_eq_getElem hi] at hK
    refine h.rd.ix rfl (by omega) (by omega) fun hc => ?_
    have hc' : w.cell? (p.at_ E_int.k (i : Int).toNat) = some (.int .i64 ps[i]) := by simpa using hc 0 _ rfl
    refine ldI_of (x := ps[i]) hc' ?_
    dsimp only at hK
    refine cond_of (fun e1 => ?_) fun e1 => ?_
    · have e1 : ps[i] = 0 := eq_of_beq e1
      rw [if_pos e1] at hK
      exact hK
    · have e1 : ¬ ps[i] = 0 := beq_eq_false_iff_ne.1 e1
      rw [if_neg e1] at hK
      exact hJ1 _ _ (h.rd.ix rfl (by omega) (by omega) fun _ => ldI_of (x := ps[i]) hc' hK)
theorem param_in (h : ParM w g F p ps) (i : Nat) {d : Int} (hd : in64 d) : in64 (paramP ps i d) := by
  unfold paramP
  split
  · rename_i v hv
    split
    · exact hd
    · exact h.rng v (List.mem_of_getElem? hv)
  · exact hd
theorem asked_spec (h : ScM w base g F S) {n : Int} {K : Int → World → Prop} (hK : ∀ w', Below w.heap.size w w' → K (S.asked n) w') : c_screen_Screen_asked (some ⟨g, 0, none⟩) n w K := by
  refine call_screen_Screen_asked _ _ ?_
  unfold sh_screen_Screen_asked
  simp only [onPtr_some]
  unfold Sc.asked at hK
  refine h.ldOrg (cond_of (fun e => ?_) fun e => ?_)
  · rw [if_pos e] at hK
    exact h.drew.ldTop (h.drew.ldTop (h.drew.ldPast (cut_spec (hK _ (below_drew w)))))
  · rw [if_neg (by rw [e]; decide)] at hK
    exact hK _ (Below.refl _ _)
/-! ### margins -/
theorem ScOk.marginsOf (h : ScOk S) {t q : Int} (ht : 0 ≤ t) (hq : q ≤ (S.g.rows : Int)) (h2 : t + 2 ≤ q) : ScOk { S with top := t, past := q } := by
  obtain ⟨e1, e2⟩ := h.grows
  rw [e1] at hq
  exact ⟨h.g0, h.g1, h.rows, h.cols, h.row, h.col, h.shift, h.sh0, h.sh1, ⟨ht, by show t < q; omega, hq⟩, fun _ => h2, h.stops⟩
theorem margins_spec (h : ScM w base g F S) (hp : ParM w g F p ps) {K : World → Prop} (hK : ∀ w', ScT base g w F F (S.margins ps) w' → K w') : c_screen_Screen_margins (some ⟨g, 0, none⟩) p w K := by
  refine call_screen_Screen_margins _ _ ?_
  unfold sh_screen_Screen_margins
  have hd := (ScT.refl h).drew.drew
  have hp1 := (hp.ext (below_drew w)).ext (below_drew w.drew)
  refine ssize_spec h ?_
  refine param_spec (i := 0) hp1 (cut_spec (param_spec (i := 1) hp1 (cut_spec ?_)))
  have hb := h.ok.bnd
  obtain ⟨t, ht⟩ : ∃ t, t = cutP (w64 (paramP ps 0 1 - 1)) 0 S.g.rows := ⟨_, rfl⟩
  obtain ⟨q, hq⟩ : ∃ q, q = cutP (paramP ps 1 S.g.rows) 0 S.g.rows := ⟨_, rfl⟩
  have i1 := cutP_in (v := w64 (paramP ps 0 1 - 1)) (lo := 0) (hi := (S.g.rows : Int)) (by omega)
  have i2 := cutP_in (v := paramP ps 1 S.g.rows) (lo := 0) (hi := (S.g.rows : Int)) (by omega)
  unfold Sc.margins at hK
  dsimp only at hK
  rw [← ht, ← hq] at hK
  rw [← ht] at i1
  rw [← hq] at i2
  have ht' : cutP (IntKind.i64.wrap (paramP ps 0 1 - 1)) 0 S.g.rows = t := ht.symm
  rw [ht', ← hq]
  show cond (decide (w64 (q - t) < 2)) _ _
  have e0 : w64 (q - t) = q - t := w64_of (by omega)
  rw [e0]
  rw [e0] at hK
  refine cond_of (fun e => ?_) fun e => ?_
  · have e := of_decide_eq_true e
    rw [if_pos e] at hK
    exact hK _ hd
  · have e := of_decide_eq_false e
    rw [if_neg e] at hK
    simp only [onPtr_some]
    rw [add_mk]
    refine stK_blk hd.m.blk (by simp [T_screen_Screen.rep]) fun w4 hb4 hg4 hs4 => ?_
    rw [add_mk]
    refine stK_blk hb4 (by simp [T_screen_Screen.rep, putL]) fun w5 hb5 hg5 hs5 => ?_
    have hc : Chg (fun k => k = g) w.drew.drew w5 := (Chg.gg hg4).trans (Chg.gg hg5) fun i _ hi => hi
    have hT5 := ScT.mk_struct hd.m hc (S' := { S with top := t, past := q }) hb5 rfl rfl rfl rfl rfl rfl (h.ok.marginsOf i1.1 i2.2 (by omega))
    exact home_spec hT5.m fun w6 hT6 => hK w6 ((hd.trans hT5).trans hT6)
/-! ### again -/
theorem again_spec (h : ScM w base g F S) {n : Int} {K : World → Prop} (hK : ∀ F' w', ScT base g w F F' (S.again n) w' → K w') : c_screen_Screen_again (some ⟨g, 0, none⟩) n w K := by
  refine call_screen_Screen_again _ _ ?_
  unfold sh_screen_Screen_again
  refine ssize_spec h ?_
  have hd := (ScT.refl h).drew.drew
  simp only [onPtr_some]
  refine ldI_of (x := S.char) (by rw [add_mk]; exact hd.m.blk.cell 40 rfl) ?_
  unfold Sc.again at hK
  have hb := h.ok.bnd
  refine cond_of (fun e => ?_) fun e => ?_
  · have e : S.char ≥ 0 := of_decide_eq_true e
    rw [if_pos e] at hK
    obtain ⟨N, hN⟩ : ∃ N, N = (if w64 ((S.g.rows : Int) * S.g.cols) < n then w64 ((S.g.rows : Int) * S.g.cols) else n) := ⟨_, rfl⟩
    rw [← hN] at hK
    have hmul : (S.g.rows : Int) * S.g.cols ≤ 1000 * 1000 := Int.mul_le_mul (by omega) (by omega) (by omega) (by omega)
    have hmul0 : 0 ≤ (S.g.rows : Int) * S.g.cols := Int.mul_nonneg (by omega) (by omega)
    have hw : w64 ((S.g.rows : Int) * S.g.cols) = (S.g.rows : Int) * S.g.cols := w64_of (by omega)
    have hNle : N ≤ 1000000 := by rw [hN, hw]; split <;> omega
    refine loopP_rule (fun (st : Int × Unit) w2 => ∃ (k : Nat) (F2 : ScF), st.1 = (k : Int) ∧ ((k : Int) ≤ N ∨ k = 0) ∧ ScT base g w F F2 (S.lays S.char k) w2) (fun st => N.toNat - st.1.toNat) ⟨0, F, rfl, .inr rfl, hd⟩ ?_
    rintro ⟨i, u⟩ w2 ⟨k, F2, hi, hk, hT2⟩ I hI
    dsimp only at hi ⊢
    subst hi
    show cond (decide ((k : Int) < (if w64 ((S.g.rows : Int) * S.g.cols) < n then w64 ((S.g.rows : Int) * S.g.cols) else n))) _ _
    rw [← hN]
    refine cond_of (fun e => ?_) fun e => ?_
    · have e := of_decide_eq_true e
      refine lay_spec hT2.m fun F3 w3 hT3 => ?_
      rw [wrap64_id (x := (k : Int) + 1) (by omega)]
      exact hI _ _ ⟨k + 1, F3, by simp, by omega, hT2.trans hT3⟩ (by dsimp only; omega)
    · have e := of_decide_eq_false e
      have hkr : k = N.toNat := by omega
      rw [← hkr] at hK
      exact hK F2 w2 hT2
  · have e : ¬ 0 ≤ S.char := of_decide_eq_false e
    rw [if_neg e] at hK
    exact hK F _ hd
/-! ### display, inLine -/
theorem forget_spec (h : ScM w base g F S) {K : World → Prop} (hK : ∀ F' w', ScT base g w F F' S.forget w' → K w') : c_grid_Grid_Forget (some ⟨(F.f S.alt).g, 0, none⟩) w K := by
  refine gForget_spec h.gM fun w' hg hc => ?_
  exact hK _ w' (ScT.mk_grid h hg ⟨rfl, rfl, .inl rfl, .inr fun k hk => by cases hk⟩ hc (h.ok.withG (h.gOk.forget) rfl rfl))
theorem display_spec (h : ScM w base g F S) {how : Int} {K : World → Prop} (ha : S.areas.length ≤ 900000000) (hK : ∀ F' w', ScT base g w F F' (S.display how) w' → K w') : c_screen_Screen_display (some ⟨g, 0, none⟩) how w K := by
  refine call_screen_Screen_display _ _ ?_
  unfold sh_screen_Screen_display
  refine ssize_spec h ?_
  have hd := (ScT.refl h).drew.drew.drew
  simp only [onPtr_some]
  refine hd.m.ldRow (hd.m.ldCol ?_)
  have hb := h.ok.bnd
  have hrw := h.ok.rowg
  unfold Sc.display at hK
  dsimp only at hK
  refine joinP_of fun J1 hJ1 => ?_
  refine cond_of (fun e => ?_) fun e => ?_
  · have e : how = 0 := eq_of_beq e
    rw [if_pos e] at hK
    refine erase_spec hd.m (by omega) (by decide) fun F1 w1 hT1 => ?_
    have e1 : w64 ((S.g.rows : Int) - S.c.Row) = (S.g.rows : Int) - S.c.Row := w64_of (by omega)
    have e2 : w64 (w64 ((S.g.rows : Int) - S.c.Row) - 1) = (S.g.rows : Int) - S.c.Row - 1 := by rw [e1]; exact w64_of (by omega)
    refine erase_spec hT1.m (by have := erase_areas S S.c.Row 1 S.c.Col S.g.cols; omega) (by show w64 (w64 _ - 1) ≤ _; rw [e2]; omega) fun F2 w2 hT2 => ?_
    refine hJ1 _ _ (hT2.m.stDry fun w3 hT3 => hK _ w3 (((hd.trans hT1).trans hT2).trans hT3))
  have e : ¬ how = 0 := beq_eq_false_iff_ne.1 e
  rw [if_neg e] at hK
  refine cond_of (fun e => ?_) fun e => ?_
  · have e : how = 1 := eq_of_beq e
    rw [if_pos e] at hK
    refine erase_spec hd.m (by omega) (by omega) fun F1 w1 hT1 => ?_
    refine erase_spec hT1.m (by have := erase_areas S 0 S.c.Row 0 S.g.cols; omega) (by decide) fun F2 w2 hT2 => ?_
    refine hJ1 _ _ (hT2.m.stDry fun w3 hT3 => hK _ w3 (((hd.trans hT1).trans hT2).trans hT3))
  have e : ¬ how = 1 := beq_eq_false_iff_ne.1 e
  rw [if_neg e] at hK
  refine cond_of (fun e => ?_) fun e => ?_
  · have e : how = 2 := eq_of_beq e
    rw [if_pos e] at hK
    refine erase_spec hd.m (by omega) (by omega) fun F1 w1 hT1 => ?_
    refine hJ1 _ _ (hT1.m.stDry fun w3 hT3 => hK _ w3 ((hd.trans hT1).trans hT3))
  have e : ¬ how = 2 := beq_eq_false_iff_ne.1 e
  rw [if_neg e] at hK
  refine cond_of (fun e => ?_) fun e => ?_
  · have e : how = 3 := eq_of_beq e
    rw [if_pos e] at hK
    refine sg_spec hd.m ?_
    exact forget_spec hd.drew.m fun F1 w1 hT1 => hK _ w1 (hd.drew.trans hT1)
  · have e : ¬ how = 3 := beq_eq_false_iff_ne.1 e
    rw [if_neg e] at hK
    exact hK F _ hd
theorem inLine_spec (h : ScM w base g F S) {how : Int} {K : World → Prop} (ha : S.areas.length ≤ 900000000) (hK : ∀ F' w', ScT base g w F F' (S.inLine how) w' → K w') : c_screen_Screen_inLine (some ⟨g, 0, none⟩) how w K := by
  refine call_screen_Screen_inLine _ _ ?_
  unfold sh_screen_Screen_inLine
  refine ssize_spec h ?_
  have hd := (ScT.refl h).drew.drew
  simp only [onPtr_some]
  unfold Sc.inLine at hK
  refine joinP_of fun J1 hJ1 => ?_
  have key : ∀ a b : Int, (∀ F' w', ScT base g w F F' (S.erase S.c.Row 1 a b).dry w' → K w') → J1 (a, b, ()) w.drew.drew := by
    intro a b hK
    refine hJ1 _ _ (hd.m.ldRow ?_)
    exact erase_spec hd.m (by omega) (by decide) fun F1 w1 hT1 => hT1.m.stDry fun w3 hT3 => hK _ w3 ((hd.trans hT1).trans hT3)
  refine cond_of (fun e => ?_) fun e => ?_
  · have e : how = 0 := eq_of_beq e
    rw [if_pos e] at hK
    exact hd.m.ldCol (key _ _ hK)
  have e : ¬ how = 0 := beq_eq_false_iff_ne.1 e
  rw [if_neg e] at hK
  refine cond_of (fun e => ?_) fun e => ?_
  · have e : how = 1 := eq_of_beq e
    rw [if_pos e] at hK
    exact hd.m.ldCol (key _ _ hK)
  have e : ¬ how = 1 := beq_eq_false_iff_ne.1 e
  rw [if_neg e] at hK
  refine cond_of (fun e => ?_) fun e => ?_
  · have e : how = 2 := eq_of_beq e
    rw [if_pos e] at hK
    exact key _ _ hK
  · have e : ¬ how = 2 := beq_eq_false_iff_ne.1 e
    rw [if_neg e] at hK
    exact hK F _ hd
/-! ### lines, move -/
theorem ScM.w64n (n : Int) : in64 (w64 n) := by
  have h : w64 n = (n + 9223372036854775808) % 18446744073709551616 - 9223372036854775808 := by
    unfold w64 IntKind.wrap
    simp [IntKind.bits, IntKind.signed]
    try omega
  unfold in64
  omega
theorem lines_spec (h : ScM w base g F S) {c n : Int} (hn : in64 n) {K : World → Prop} (hK : ∀ F' w', ScT base g w F F' (S.lines c n) w' → K w') : c_screen_Screen_lines (some ⟨g, 0, none⟩) c n w K := by
  refine call_screen_Screen_lines _ _ _ ?_
  unfold sh_screen_Screen_lines
  have hd := (ScT.refl h).drew
  have hdd := hd.drew
  simp only [onPtr_some]
  unfold Sc.lines at hK
  refine joinP_of fun J1 hJ1 => ?_
  refine hd.m.ldRow (hd.m.ldTop (cond_of (fun e => ?_) fun e1 => ?_))
  · rw [if_pos (.inl (of_decide_eq_true e))] at hK
    exact hK F _ hd
  refine hd.m.ldRow (hd.m.ldPast (cond_of (fun e => ?_) fun e2 => ?_))
  · rw [if_pos (.inr (of_decide_eq_true e))] at hK
    exact hK F _ hd
  rw [if_neg (fun hh => hh.elim (of_decide_eq_false e1) (of_decide_eq_false e2))] at hK
  dsimp only at hK
  refine hJ1 _ _ (joinP_of fun J2 hJ2 => ?_)
  have key : ∀ m, in64 m → m = (if c = 76 then w64 (0 - n) else n) → J2 (m, ()) w.drew := by
    intro m hm em
    rw [← em] at hK
    refine hJ2 _ _ ?_
    refine hdd.m.ldRow (hdd.m.ldPast ?_)
    refine sg_spec hdd.m ⟨hdd.m.drew.cPast, hdd.m.drew.cRow, ?_⟩
    refine blank_spec hdd.m.drew fun w4 hB4 => ?_
    have h4 := hdd.drew.ext hB4
    refine ⟨h4.m.cPast, h4.m.cRow, ?_⟩
    refine scroll_spec h4.m hm fun v F5 w5 hT5 => ?_
    have h5 := h4.trans hT5
    have hcr : (S.scroll S.c.Row S.past m).c = S.c := withG_c _ _
    refine h5.m.ldRow ?_
    rw [hcr]
    exact to_spec h5.m fun w6 hT6 => hK _ w6 (h5.trans hT6)
  refine cond_of (fun e => ?_) fun e => ?_
  · have e : c = 76 := eq_of_beq e
    exact key _ (ScM.w64n _) (by rw [if_pos e]; rfl)
  · have e : ¬ c = 76 := beq_eq_false_iff_ne.1 e
    exact key _ hn (by rw [if_neg e])
end
end Go.Proofs.YtmoafafalnbkpaaGreatDoor
