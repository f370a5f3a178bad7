/- The script's arguments opened: rows of items that hold bytes each, rows of numbers. -/
import Derived.Test.YtpadlibcalomnaaDoorOpen2
import Derived.Test.YtpadlibcalomnaaDoorC9
set_option linter.unusedVariables false
namespace Go.Vc
open Go.ChangeShapes Go.WideShapes Go.ChangeAt Go.RowKit Go.Deep

/-! ### Types that hold slices of one element type among their leaves -/
inductive Leaf2 where
  | one (l : Leaf)
  | sl
def Leaf2.ok (R : Slc → Prop) : Leaf2 → Value → Prop
  | .one l, v => l.ok v
  | .sl, v => ∃ s : Slc, v = .slice s.a s.n s.c ∧ R s
def goF2 (P : Program) (g : TypeId → Option (List Leaf2)) : List Field → Nat → Option (List Leaf2)
  | [], _ => some []
  | f :: r, off =>
    match g f.type with
    | some ls => if f.offset = off ∧ P.cellsOf f.type = ls.length then (goF2 P g r (off + ls.length)).map (ls ++ ·) else none
    | none => none
def leavesL2 (P : Program) (e0 : TypeId) : Nat → TypeId → Option (List Leaf2)
  | 0, _ => none
  | n + 1, t =>
    match P.underlying t with
    | some (.int k) => some [.one (.int k)]
    | some .bool => some [.one .bool]
    | some .string => some [.one .str]
    | some (.slice e) => if e = e0 then some [.sl] else none
    | some (.struct fs) => goF2 P (leavesL2 P e0 n) fs.toList 0
    | _ => none
def LeafFit2 (R : Slc → Prop) (ls : List Leaf2) (cs : List Value) : Prop := ∀ (j : Nat) l, ls[j]? = some l → ∃ v, cs[j]? = some v ∧ l.ok R v

theorem goF2_fits {P : Program} {R : Slc → Prop} {g : TypeId → Option (List Leaf2)} {cs : List Value} : ∀ (fs : List Field) (off : Nat) (ls : List Leaf2), goF2 P g fs off = some ls →
    (∀ f ∈ fs, ∀ lf, g f.type = some lf → P.cellsOf f.type = lf.length → LeafFit2 R lf ((cs.drop f.offset).take (P.cellsOf f.type))) → ∀ (j : Nat) l, ls[j]? = some l → ∃ v, cs[off + j]? = some v ∧ l.ok R v
  | [], _, ls, h, _, j, l, hl => by
    simp only [goF2, Option.some.injEq] at h
    subst h
    simp at hl
  | f :: r, off, ls, h, hf, j, l, hl => by
    unfold goF2 at h
    split at h
    · rename_i lf hg
      split at h
      · rename_i hc
        obtain ⟨rest, hr, e⟩ := Option.map_eq_some_iff.1 h
        subst e
        rcases Nat.lt_or_ge j lf.length with hj | hj
        · rw [List.getElem?_append_left hj] at hl
          obtain ⟨v, hv, ok⟩ := hf f (by simp) lf hg hc.2 j l hl
          rw [hc.2, List.getElem?_take_of_lt hj, List.getElem?_drop, hc.1] at hv
          exact ⟨v, hv, ok⟩
        · rw [List.getElem?_append_right hj] at hl
          obtain ⟨v, hv, ok⟩ := goF2_fits r (off + lf.length) rest hr (fun f' hf' => hf f' (by simp [hf'])) _ l hl
          exact ⟨v, by rw [← hv]; congr 1; omega, ok⟩
      · cases h
    · cases h

section
variable {H : Type} {enc : TypeId × Value → H} {P : Program} {w : World} {base : Nat} {spare : Nat → Bool} {held : Bool}
theorem trod_fits2 {R : Slc → Prop} {e0 : TypeId} (hR : ∀ {t : TypeId} {fuel : Nat} {cs : List Value} {x : DataW H × List MemPlace}, P.underlying t = some (.slice e0) → DataW.trod enc P w base spare held fuel t cs = some x → ∃ s : Slc, cs = [.slice s.a s.n s.c] ∧ R s) :
    ∀ (n : Nat) {t : TypeId} {ls : List Leaf2} {fuel : Nat} {cs : List Value} {x : DataW H × List MemPlace}, leavesL2 P e0 n t = some ls → DataW.trod enc P w base spare held fuel t cs = some x → LeafFit2 R ls cs
  | 0, _, _, _, _, _, h, _ => by cases h
  | n + 1, t, ls, fuel, cs, x, h, ht => by
    unfold leavesL2 at h
    split at h
    · next k hu =>
      cases h
      obtain ⟨z, rfl, _, hw⟩ := DataW.trod_int hu ht
      intro j l hl
      match j, hl with
      | 0, hl => cases hl; exact ⟨_, rfl, z, rfl, hw⟩
      | j + 1, hl => cases hl
    · next hu =>
      cases h
      obtain ⟨z, rfl, _⟩ := DataW.trod_bool hu ht
      intro j l hl
      match j, hl with
      | 0, hl => cases hl; exact ⟨_, rfl, z, rfl⟩
      | j + 1, hl => cases hl
    · next hu =>
      cases h
      obtain ⟨z, rfl, _⟩ := DataW.trod_string hu ht
      intro j l hl
      match j, hl with
      | 0, hl => cases hl; exact ⟨_, rfl, z, rfl⟩
      | j + 1, hl => cases hl
    · next e hu =>
      split at h
      · next he =>
        subst he
        cases h
        obtain ⟨s, rfl, hs⟩ := hR hu ht
        intro j l hl
        match j, hl with
        | 0, hl => cases hl; exact ⟨_, rfl, s, rfl, hs⟩
        | j + 1, hl => cases hl
      · cases h
    · next fs hu =>
      obtain ⟨xs, m, _, _, _, hxl, hf⟩ := DataW.trod_struct hu ht
      intro j l hl
      have := goF2_fits (cs := cs) fs.toList 0 ls h (fun f hfm lf hg _ => by
        obtain ⟨i, hi⟩ := List.getElem?_of_mem hfm
        rw [Array.getElem?_toList] at hi
        have h1 := hf i f hi
        have hil : i < xs.length := by rw [hxl]; exact (Array.getElem?_eq_some_iff.1 hi).1
        rw [List.getElem?_eq_getElem hil] at h1
        exact trod_fits2 hR n hg h1) j l hl
      simpa using this
    · cases h

/-- A slice of elements, by its cells; an element as the caller says. -/
theorem rd_of_cells {T : Type} (E : El T) (Q : T → Prop) {t e : TypeId} {fuel : Nat} {cs : List Value} {x : DataW H × List MemPlace} (ht : P.underlying t = some (.slice e)) (hC : P.cellsOf e = E.k)
    (mk : ∀ (fuel : Nat) (vs : List Value) (y : DataW H × List MemPlace), vs.length = E.k → DataW.trod enc P w base (fun _ => true) held fuel e vs = some y → ∃ x : T, E.cells x = vs ∧ Q x) (hf : DataW.trod enc P w base (fun _ => true) held fuel t cs = some x) : ∃ (s : Slc) (xs : List T), cs = [.slice s.a s.n s.c] ∧ Rd E w s xs ∧ ∀ x ∈ xs, Q x := by
  rcases open_slice ht hf with ⟨hcs, _⟩ | ⟨a, n0, c0, m, n', D, Pl, hcs, hb, hl, hm, hmm, hx, hi⟩
  · exact ⟨⟨none, 0, 0⟩, [], hcs, Rd.nil E w, fun x hx => by cases hx⟩
  · rw [if_pos rfl] at hmm
    have : ∀ i, i < n0 → ∃ x : T, cellsAt w (a.add (i * E.k)) (E.cells x) ∧ Q x := by
      intro i hil
      obtain ⟨cs', hc, ht'⟩ := hi i (by omega)
      rw [hC] at hc
      obtain ⟨_, hcl, hat⟩ := World.cells?_some hc
      obtain ⟨x, hx, hq⟩ := mk _ cs' _ hcl ht'
      refine ⟨x, fun j u hu => ?_, hq⟩
      rw [hx] at hu
      have hj : j < E.k := by rw [← hcl]; exact (List.getElem?_eq_some_iff.1 hu).1
      rw [hat j hj, hu]
    obtain ⟨xs, hxl, hxs⟩ := list_choose n0 this
    refine ⟨⟨some a, n0, c0⟩, xs, hcs, ⟨hxl.symm, hl, hm, fun _ => rfl, fun i x hx => (hxs i x hx).1⟩, fun x hx => ?_⟩
    obtain ⟨i, hi⟩ := List.getElem?_of_mem hx
    exact (hxs i x hi).2
end
end Go.Vc

namespace Go.Proofs.YtpadlibcalomnaaDoor
open Go.Vc Go.ChangeShapes Go.WideShapes Go.ChangeAt Go.RowKit
set_option maxRecDepth 400000
theorem leaf2_int {R : Slc → Prop} {ls : List Leaf2} {vs : List Value} {k : IntKind} (h : LeafFit2 R ls vs) (j : Nat) (hj : ls[j]? = some (.one (.int k))) : ∃ z, vs[j]? = some (.int k z) ∧ (Lit.int k z).wf = true := by
  obtain ⟨v, hv, z, rfl, hw⟩ := h j _ hj
  exact ⟨z, hv, hw⟩
theorem leaf2_sl {R : Slc → Prop} {ls : List Leaf2} {vs : List Value} (h : LeafFit2 R ls vs) (j : Nat) (hj : ls[j]? = some .sl) : ∃ s : Slc, vs[j]? = some (.slice s.a s.n s.c) ∧ R s := by
  obtain ⟨v, hv, s, rfl, hw⟩ := h j _ hj
  exact ⟨s, hv, hw⟩
theorem leaf2_bool {R : Slc → Prop} {ls : List Leaf2} {vs : List Value} (h : LeafFit2 R ls vs) (j : Nat) (hj : ls[j]? = some (.one .bool)) : ∃ z, vs[j]? = some (.bool z) := by
  obtain ⟨v, hv, z, rfl⟩ := h j _ hj
  exact ⟨z, hv⟩
def itLs : List Leaf2 := [.sl, .one .bool, .one (.int .i64), .one (.int .i64)]
theorem it_leaves : leavesL2 Tryd.prog 5 4 79 = some itLs := by kernel_rfl
def itQ (w : World) (x : T_script_Item) : Prop := ∃ f, Rd E_uint8 w x.Feed f
theorem it_mk {w : World} (vs : List Value) (hl : vs.length = 4) (h : LeafFit2 (fun s => ∃ xs, Rd E_uint8 w s xs) itLs vs) : ∃ x : T_script_Item, E_script_Item.cells x = vs ∧ itQ w x := by
  obtain ⟨s0, h0, hs⟩ := leaf2_sl h 0 rfl
  obtain ⟨z1, h1⟩ := leaf2_bool h 1 rfl
  obtain ⟨z2, h2, _⟩ := leaf2_int h 2 rfl
  obtain ⟨z3, h3, _⟩ := leaf2_int h 3 rfl
  refine ⟨⟨s0, z1, z2, z3⟩, list_of_get hl fun j hj => ?_, hs⟩
  match j, hj with
  | 0, _ => exact h0.symm
  | 1, _ => exact h1.symm
  | 2, _ => exact h2.symm
  | 3, _ => exact h3.symm
  | j + 4, hj => exact absurd hj (by simp [E_script_Item, T_script_Item.rep])
def intLs : List Leaf := [.int .i64]
theorem int_leaves : leavesL Tryd.prog 4 3 = some intLs := by kernel_rfl
theorem int_mk (vs : List Value) (hl : vs.length = 1) (h : LeafFit intLs vs) : ∃ x : Int, E_int.cells x = vs ∧ True := by
  obtain ⟨z, h0, w0⟩ := leaf_int h 0 rfl
  refine ⟨z, list_of_get hl fun j hj => ?_, trivial⟩
  match j, hj with
  | 0, _ => exact h0.symm
  | j + 1, hj => exact absurd hj (by simp [E_int])
section
variable {H : Type} {enc : TypeId × Value → H} {w : World} {base : Nat} {held : Bool} {r : Reach} {b0 : Nat} {v : Value} {d : DataW H} {p : List MemPlace}
theorem bytes_of_cells {t : TypeId} {fuel : Nat} {cs : List Value} {x : DataW H × List MemPlace} (ht : Tryd.prog.underlying t = some (.slice 5)) (hf : DataW.trod enc Tryd.prog w base (fun _ => true) held fuel t cs = some x) : ∃ s : Slc, cs = [.slice s.a s.n s.c] ∧ ∃ xs, Rd E_uint8 w s xs := by
  have a := @rd_of_cells H enc Tryd.prog w base held UInt8 E_uint8 (fun _ => True) t 5 fuel cs x ht (by kernel_rfl) (fun fuel vs y hl hf => byte_mk vs hl (trod_fits 4 byte_leaves hf)) hf
  obtain ⟨s, xs, h1, h2, h3⟩ := a
  exact ⟨s, h1, xs, h2⟩
theorem open_ints {t : TypeId} (ht : Tryd.prog.underlying t = some (.slice 3)) (hv : Value.okWide Tryd.prog w r b0 t v) (h : DataW.Trod enc Tryd.prog w base (fun _ => true) held t v d p) : ∃ (s : Slc) (xs : List Int), v = .slice s.a s.n s.c ∧ Rd E_int w s xs ∧ ∀ x ∈ xs, True := by
  have a := @rd_of_trod H enc Tryd.prog w base held Int E_int (fun _ => True) r b0 4 t 3 intLs v d p ht (by kernel_rfl) int_leaves int_mk
  exact a hv h
theorem ats_of {xs : List T_script_Item} (h : ∀ x ∈ xs, itQ w x) : ∃ L, Ats w xs L := by
  induction xs with
  | nil => exact ⟨[], Ats.nil w⟩
  | cons x xs ih =>
    obtain ⟨L, hL⟩ := ih fun y hy => h y (by simp [hy])
    obtain ⟨f, hf⟩ := h x (by simp)
    refine ⟨⟨f, x.Size, x.Rows, x.Cols⟩ :: L, by simp [hL.len], fun i y it hy hi => ?_⟩
    cases i with
    | zero => cases hy; cases hi; exact ⟨hf, rfl, rfl, rfl⟩
    | succ i => exact hL.at_ i y it (by simpa using hy) (by simpa using hi)
theorem open_items {t : TypeId} (ht : Tryd.prog.underlying t = some (.slice 79)) (hv : Value.okWide Tryd.prog w r b0 t v) (h : DataW.Trod enc Tryd.prog w base (fun _ => true) held t v d p) : ∃ (s : Slc) (xs : List T_script_Item) (L : List ItL), v = .slice s.a s.n s.c ∧ Rd E_script_Item w s xs ∧ Ats w xs L := by
  obtain ⟨a0, n0, c0, rfl⟩ := okWide_slice ht hv
  obtain ⟨fuel, hf⟩ := h
  have a := @rd_of_cells H enc Tryd.prog w base held T_script_Item E_script_Item (itQ w) t 79 fuel _ _ ht (by kernel_rfl) (fun fuel vs y hl hf => it_mk vs hl (trod_fits2 (fun ht hf => bytes_of_cells ht hf) 4 it_leaves hf)) hf
  obtain ⟨s, xs, h1, h2, h3⟩ := a
  simp only [Value.cells, List.cons.injEq, and_true] at h1
  obtain ⟨L, hL⟩ := ats_of h3
  exact ⟨s, xs, L, h1, h2, hL⟩
end
end Go.Proofs.YtpadlibcalomnaaDoor
