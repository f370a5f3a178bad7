/- Program-generic: from what a row gives to the values a walk takes, and from the walk to what a row asks. No program in sight. -/
import Derived.Test.YtpadlibcalomnaaDoorMem2
import Derived.ProofKit
import Derived.OpenShut
import Derived.ChangeOld
import Derived.ChangeSame
import Derived.Carry
import Derived.Deep.Slices
import Derived.Below
namespace Go.Vc
open Go.ChangeShapes Go.WideShapes Go.ChangeAt Go.RowKit Go.Deep

/-! ### Types that are numbers, bools and strings all through -/
inductive Leaf where
  | int (k : IntKind)
  | bool
  | str
def Leaf.ok : Leaf → Value → Prop
  | .int k, v => ∃ z, v = .int k z ∧ (Lit.int k z).wf = true
  | .bool, v => ∃ b, v = .bool b
  | .str, v => ∃ s, v = .string s
def goF (P : Program) (g : TypeId → Option (List Leaf)) : List Field → Nat → Option (List Leaf)
  | [], _ => some []
  | f :: r, off =>
    match g f.type with
    | some ls => if f.offset = off ∧ P.cellsOf f.type = ls.length then (goF P g r (off + ls.length)).map (ls ++ ·) else none
    | none => none
def leavesL (P : Program) : Nat → TypeId → Option (List Leaf)
  | 0, _ => none
  | n + 1, t =>
    match P.underlying t with
    | some (.int k) => some [.int k]
    | some .bool => some [.bool]
    | some .string => some [.str]
    | some (.struct fs) => goF P (leavesL P n) fs.toList 0
    | _ => none

/-- The cells are as the leaves say. -/
def LeafFit (ls : List Leaf) (cs : List Value) : Prop := ∀ (j : Nat) l, ls[j]? = some l → ∃ v, cs[j]? = some v ∧ l.ok v

theorem goF_fits {P : Program} {g : TypeId → Option (List Leaf)} {cs : List Value} : ∀ (fs : List Field) (off : Nat) (ls : List Leaf), goF P g fs off = some ls →
    (∀ f ∈ fs, ∀ lf, g f.type = some lf → P.cellsOf f.type = lf.length → LeafFit lf ((cs.drop f.offset).take (P.cellsOf f.type))) → ∀ (j : Nat) l, ls[j]? = some l → ∃ v, cs[off + j]? = some v ∧ l.ok v
  | [], _, ls, h, _, j, l, hl => by
    simp only [goF, Option.some.injEq] at h
    subst h
    simp at hl
  | f :: r, off, ls, h, hf, j, l, hl => by
    unfold goF at h
    split at h
    · rename_i lf hg
      split at h
      · rename_i hc
        obtain ⟨rest, hr, e⟩ := Option.map_eq_some_iff.1 h
        subst e
        rcases Nat.lt_or_ge j lf.length with hj | hj
        · rw [List.getElem?_append_left hj] at hl
          obtain ⟨v, hv, ok⟩ := hf f (by simp) lf hg hc.2 j l hl
          rw [hc.2, List.getElem?_take_of_lt hj, List.getElem?_drop, hc.1] at hv
          exact ⟨v, hv, ok⟩
        · rw [List.getElem?_append_right hj] at hl
          obtain ⟨v, hv, ok⟩ := goF_fits r (off + lf.length) rest hr (fun f' hf' => hf f' (by simp [hf'])) _ l hl
          exact ⟨v, by rw [← hv]; congr 1; omega, ok⟩
      · cases h
    · cases h

section
variable {H : Type} {enc : TypeId × Value → H} {P : Program} {w : World} {base : Nat} {spare : Nat → Bool} {held : Bool}
theorem trod_fits : ∀ (n : Nat) {t : TypeId} {ls : List Leaf} {fuel : Nat} {cs : List Value} {x : DataW H × List MemPlace}, leavesL P n t = some ls → DataW.trod enc P w base spare held fuel t cs = some x → LeafFit ls cs
  | 0, _, _, _, _, _, h, _ => by cases h
  | n + 1, t, ls, fuel, cs, x, h, ht => by
    unfold leavesL at h
    split at h
    · next k hu =>
      cases h
      obtain ⟨z, rfl, _, hw⟩ := DataW.trod_int hu ht
      intro j l hl
      match j, hl with
      | 0, hl => cases hl; exact ⟨_, rfl, z, rfl, hw⟩
      | j + 1, hl => cases hl
    · next hu =>
      cases h
      obtain ⟨z, rfl, _⟩ := DataW.trod_bool hu ht
      intro j l hl
      match j, hl with
      | 0, hl => cases hl; exact ⟨_, rfl, z, rfl⟩
      | j + 1, hl => cases hl
    · next hu =>
      cases h
      obtain ⟨z, rfl, _⟩ := DataW.trod_string hu ht
      intro j l hl
      match j, hl with
      | 0, hl => cases hl; exact ⟨_, rfl, z, rfl⟩
      | j + 1, hl => cases hl
    · next fs hu =>
      obtain ⟨xs, m, _, _, _, hxl, hf⟩ := DataW.trod_struct hu ht
      intro j l hl
      have := goF_fits (cs := cs) fs.toList 0 ls h (fun f hfm lf hg _ => by
        obtain ⟨i, hi⟩ := List.getElem?_of_mem hfm
        rw [Array.getElem?_toList] at hi
        have h1 := hf i f hi
        have hil : i < xs.length := by rw [hxl]; exact (Array.getElem?_eq_some_iff.1 hi).1
        rw [List.getElem?_eq_getElem hil] at h1
        exact trod_fits n hg h1) j l hl
      simpa using this
    · cases h

theorem list_choose {T : Type} {Q : Nat → T → Prop} : ∀ n : Nat, (∀ i, i < n → ∃ x, Q i x) → ∃ xs : List T, xs.length = n ∧ ∀ (i : Nat) x, xs[i]? = some x → Q i x
  | 0, _ => ⟨[], rfl, fun i x h => by simp at h⟩
  | n + 1, h => by
    obtain ⟨xs, hl, hx⟩ := list_choose n fun i hi => h i (by omega)
    obtain ⟨y, hy⟩ := h n (by omega)
    refine ⟨xs ++ [y], by simp [hl], fun i x hi => ?_⟩
    rcases Nat.lt_or_ge i n with h' | h'
    · rw [List.getElem?_append_left (by omega)] at hi
      exact hx i x hi
    · rw [List.getElem?_append_right (by omega), hl] at hi
      have : i - n = 0 := by
        rcases Nat.eq_zero_or_pos (i - n) with e | e
        · exact e
        · rw [List.getElem?_eq_none (by simp; omega)] at hi; cases hi
      rw [this] at hi
      cases hi
      have : i = n := by omega
      subst this
      exact hy

/-- An argument that is a slice of such elements. -/
theorem rd_of_trod {T : Type} (E : El T) (Q : T → Prop) {r : Reach} {b0 n : Nat} {t e : TypeId} {ls : List Leaf} {v : Value} {d : DataW H} {p : List MemPlace} (ht : P.underlying t = some (.slice e)) (hC : P.cellsOf e = E.k) (hls : leavesL P n e = some ls)
    (mk : ∀ vs : List Value, vs.length = E.k → LeafFit ls vs → ∃ x : T, E.cells x = vs ∧ Q x) (hv : Value.okWide P w r b0 t v) (h : DataW.Trod enc P w base (fun _ => true) held t v d p) : ∃ (s : Slc) (xs : List T), v = .slice s.a s.n s.c ∧ Rd E w s xs ∧ ∀ x ∈ xs, Q x := by
  obtain ⟨a0, n0, c0, rfl⟩ := okWide_slice ht hv
  obtain ⟨fuel, hf⟩ := h
  rcases open_slice ht hf with ⟨hcs, _⟩ | ⟨a, len, cap, m, n', D, Pl, hcs, hb, hl, hm, hmm, hx, hi⟩
  · simp [Value.cells] at hcs
    obtain ⟨rfl, rfl, rfl⟩ := hcs
    exact ⟨⟨none, 0, 0⟩, [], rfl, Rd.nil E w, fun x hx => by cases hx⟩
  · simp [Value.cells] at hcs
    obtain ⟨rfl, rfl, rfl⟩ := hcs
    rw [if_pos rfl] at hmm
    have : ∀ i, i < n0 → ∃ x : T, cellsAt w (a.add (i * E.k)) (E.cells x) ∧ Q x := by
      intro i hil
      obtain ⟨cs', hc, ht'⟩ := hi i (by omega)
      rw [hC] at hc
      obtain ⟨_, hcl, hat⟩ := World.cells?_some hc
      obtain ⟨x, hx, hq⟩ := mk cs' hcl (trod_fits n hls ht')
      refine ⟨x, fun j u hu => ?_, hq⟩
      rw [hx] at hu
      have hj : j < E.k := by rw [← hcl]; exact (List.getElem?_eq_some_iff.1 hu).1
      rw [hat j hj, hu]
    obtain ⟨xs, hxl, hxs⟩ := list_choose n0 this
    refine ⟨⟨some a, n0, c0⟩, xs, rfl, ⟨hxl.symm, hl, hm, fun _ => rfl, fun i x hx => (hxs i x hx).1⟩, fun x hx => ?_⟩
    obtain ⟨i, hi⟩ := List.getElem?_of_mem hx
    exact (hxs i x hi).2

/-- An argument that is a struct of such leaves, by value. -/
theorem agg_of_trod {T : Type} (E : El T) (Q : T → Prop) {r : Reach} {b0 n : Nat} {t : TypeId} {fs : Array Field} {ls : List Leaf} {v : Value} {d : DataW H} {p : List MemPlace} (ht : P.underlying t = some (.struct fs)) (hC : P.cellsOf t = E.k) (hls : leavesL P n t = some ls)
    (mk : ∀ vs : List Value, vs.length = E.k → LeafFit ls vs → ∃ x : T, E.cells x = vs ∧ Q x) (hv : Value.okWide P w r b0 t v) (h : DataW.Trod enc P w base spare held t v d p) : ∃ x : T, v = .agg (E.cells x).toArray ∧ Q x := by
  obtain ⟨cs, rfl, hsz⟩ := okWide_struct ht hv
  obtain ⟨fuel, hf⟩ := h
  obtain ⟨x, hx, hq⟩ := mk cs.toList (by simpa [hC] using hsz) (trod_fits n hls (by simpa [Value.cells] using hf))
  exact ⟨x, by rw [hx], hq⟩
end

/-! ### Behind the call -/
theorem trodAll_stays {H : Type} {enc : TypeId × Value → H} {P : Program} (hl : laidOutB P = true) {W W' : World} (hb : Below W.heap.size W W') : ∀ (ts : List TypeId) {vs : List Value} {ds : List (DataW H)} {ps : List MemPlace},
    ts.all (fun t => P.readableRec t && decide (t < P.types.size)) = true → DataW.TrodAll enc P W 0 (fun _ => true) true ts vs ds ps → (∀ x ∈ ps, x.block < W.heap.size) → DataW.TrodAll enc P W' 0 (fun b => decide (b < W.heap.size)) true ts vs ds ps
  | [], vs, ds, ps, _, h, _ => by
    obtain ⟨rfl, rfl, rfl⟩ := trodAll_nil h
    exact trodAll_mk0
  | t :: ts, vs, ds, ps, hr, h, hlt => by
    obtain ⟨v, vs', d, ds', p, q, rfl, rfl, rfl, h0, h1⟩ := trodAll_cons h
    simp only [List.all_cons, Bool.and_eq_true, decide_eq_true_eq] at hr
    exact trodAll_cons_mk (Below.trod hl hr.1.1 hr.1.2 h0 hb fun x hx => hlt x (List.mem_append.2 (.inl hx))) (trodAll_stays hl hb ts (by simpa using hr.2) h1 fun x hx => hlt x (List.mem_append.2 (.inr hx)))

theorem law_post {H : Type} {enc : TypeId × Value → H} {P : Program} {f : Func} {s : ChangeSpec} {W W' : World} {args : Array Value} {ds gs : List (DataW H)} {before : List MemPlace} {tb : TypeId} (hl : laidOutB P = true) (hrt : f.resultTypes = #[tb]) (htb : P.underlying tb = some .bool)
    (hr : f.params.toList.all (fun t => P.readableRec t && decide (t < P.types.size)) = true) (hv : s.vars = []) (hfn : s.fn H (ds ++ []) = { results := [.lit (.bool true)], args := ds }) (hW : DataW.Whole enc P f.params.toList s.vars false W args.toList ds gs before)
    (hb : Below W.heap.size W W') : s.post enc P f false true false false W args (.bool true) W' := by
  have hW' := hW
  have hlt := hW.lt
  obtain ⟨p, q, hA0, hV, rfl, hfz, hnd⟩ := hW
  rw [hv] at hV
  obtain ⟨rfl, rfl⟩ := trodVars_none hV
  refine ⟨ds, [], p ++ [], [], p, [], hW', ?_, ?_, ?_, hb.frame _, fun h => by cases h⟩
  · rw [hrt, hfn]
    exact trodAll_mk1 (shut_bool htb _)
  · rw [hfn]
    exact trodAll_stays hl hb _ hr hA0 fun x hx => hlt x (by simpa using hx)
  · rw [hfn, hv]
    exact rfl

end Go.Vc
