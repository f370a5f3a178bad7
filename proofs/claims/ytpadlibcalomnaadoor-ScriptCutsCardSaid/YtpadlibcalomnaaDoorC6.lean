/- The program's Cut walked. -/
import Derived.Test.YtpadlibcalomnaaDoorC5
set_option linter.unusedVariables false
namespace Go.Proofs.YtpadlibcalomnaaDoor
open Go.Vc Go.RowKit
set_option maxRecDepth 400000
def E_int : El Int where
  cells x := [(.int .i64 x)]
  t := ty_int
  k := 1
  pos := by decide
  len _ := rfl
  one x v hv := by
    simp only [List.mem_cons, List.mem_nil_iff, or_false] at hv
    rcases hv with rfl
    rfl
theorem cutF_len (sizes : List Int) : ∀ (n k : Nat) (b : List UInt8), (cutF sizes n k b).1.length ≤ n
  | 0, k, b => by simp [cutF]
  | n + 1, k, b => by
    unfold cutF
    split
    · simp
    · dsimp only
      have := cutF_len sizes n ((k + 1) % sizes.length) (b.drop (clampN (sizes[k]?.getD 0) b.length))
      rw [List.length_cons]
      omega
theorem cutS_len (sizes : List Int) (st : List ItL × Nat) (x : ItL) (hst : someB sizes = true → st.2 < sizes.length) : (cutS sizes st x).1.length ≤ st.1.length + ((sizes.length + 1) * x.f.length + (sizes.length + 1)) ∧ (someB sizes = true → (cutS sizes st x).2 < sizes.length) := by
  unfold cutS
  split
  · rename_i h
    refine ⟨by rw [List.length_append, List.length_singleton]; omega, hst⟩
  · rename_i hx
    simp only [Bool.or_eq_true, not_or, Bool.not_eq_true, Bool.not_eq_true', decide_eq_true_eq] at hx
    obtain ⟨⟨hz, hs⟩, hf⟩ := hx
    have hs : someB sizes = true := by simpa using hs
    have h1 := cutF_len sizes (meas sizes st.2 x.f) st.2 x.f
    have h2 := meas_le hs (hst hs) hf
    have h3 := (cutF_all sizes _ st.2 x.f hs (hst hs) (Nat.le_refl _)).2
    refine ⟨?_, fun _ => h3⟩
    rw [List.length_append, List.length_map]
    have h4 : (cutA sizes st.2 x.f).1.length ≤ meas sizes st.2 x.f := h1
    omega
theorem cut_len (sizes : List Int) : ∀ (l : List ItL) (st : List ItL × Nat), (someB sizes = true → st.2 < sizes.length) → (l.foldl (cutS sizes) st).1.length ≤ st.1.length + ((sizes.length + 1) * sumF l + (sizes.length + 1) * l.length) ∧ (someB sizes = true → (l.foldl (cutS sizes) st).2 < sizes.length)
  | [], st, h => ⟨by simp, h⟩
  | x :: l, st, h => by
    obtain ⟨h1, h2⟩ := cutS_len sizes st x h
    obtain ⟨h3, h4⟩ := cut_len sizes l _ h2
    rw [List.foldl_cons]
    refine ⟨?_, h4⟩
    have : sumF (x :: l) = x.f.length + sumF l := by simp [sumF]
    rw [this, List.length_cons, Nat.mul_add, Nat.mul_succ]
    omega
theorem clamp_if (z : Int) (n : Nat) : (if (n : Int) < (if (0 : Int) > z then (0 : Int) else z) then (n : Int) else (if (0 : Int) > z then (0 : Int) else z)) = ((clampN z n : Nat) : Int) := by
  unfold clampN
  by_cases h0 : z < 1
  · rw [if_pos h0]
    by_cases h1 : (0 : Int) > z
    · rw [if_pos h1, if_neg (by omega)]; rfl
    · rw [if_neg h1, if_neg (by omega)]; omega
  · rw [if_neg h0, show (if (0 : Int) > z then (0 : Int) else z) = z from if_neg (by omega)]
    by_cases h2 : (n : Int) < z
    · rw [if_pos h2, if_pos h2]
    · rw [if_neg h2, if_neg h2]; omega
section
variable {w : World}
theorem contains_spec {s : Slc} {zs : List Int} (hs : Rd E_int w s zs) (hl : zs.length ≤ 1000000) {K : Bool → World → Prop} (hK : K (someB zs) w) : c_slices_ContainsFunc_int_int s (.func (.func fn_script_Cut_1) #[] #[]) w K := by
  refine call_slices_ContainsFunc_int_int _ _ ?_
  unfold sh_slices_ContainsFunc_int_int
  refine call_slices_IndexFunc_int_int _ _ ?_
  unfold sh_slices_IndexFunc_int_int
  have hn := hs.n
  refine loopP_rule (fun (st : Int × Unit) w1 => w1 = w ∧ ∃ i : Nat, st.1 = i ∧ i ≤ zs.length ∧ ∀ (j : Nat) z, j < i → zs[j]? = some z → ¬ 1 ≤ z) (fun st => zs.length - st.1.toNat) ⟨rfl, 0, rfl, by omega, fun j z hj => by omega⟩ ?_
  rintro ⟨i, u⟩ w1 ⟨rfl, m, hi, hm, hno⟩ I hI
  dsimp only at hi ⊢
  subst hi
  by_cases hlt : m < zs.length
  · refine cond_t (by simp; omega) ?_
    refine hs.ix (k := 1) rfl (by omega) (by omega) fun hcell => ?_
    obtain ⟨z, hz⟩ : ∃ z, zs[m]? = some z := ⟨_, List.getElem?_eq_getElem hlt⟩
    have hc := hs.at_ m z hz 0 _ rfl
    refine ldI_of (x := z) hc (callR_plain (by kernel_rfl) ?_)
    have hw : IntKind.i64.wrap ((m : Int) + (1 : Int)) = ((m + 1 : Nat) : Int) := by rw [i64_in (by omega)]; simp
    have h : c_script_Cut_1 z w1 (fun t16 w2 => cond t16 (K (decide ((m : Int) ≥ (0 : Int))) w2) (I ((IntKind.i64.wrap ((m : Int) + (1 : Int))), ()) w2)) := by
      refine call_script_Cut_1 _ ?_
      unfold sh_script_Cut_1
      refine cond_of (fun h => ?_) fun h => ?_
      · have h : (1 : Int) ≤ z := of_decide_eq_true h
        have hsome : someB zs = true := List.any_eq_true.2 ⟨z, List.mem_of_getElem? hz, by simpa using h⟩
        rw [hsome] at hK
        rw [decide_eq_true (by omega)]
        exact hK
      · have h : ¬ (1 : Int) ≤ z := of_decide_eq_false h
        rw [hw]
        refine hI _ _ ⟨rfl, m + 1, rfl, by omega, fun j y hj hy => ?_⟩ (by simp; omega)
        by_cases e : j = m
        · subst e
          rw [hz] at hy
          cases hy
          exact h
        · exact hno j y (by omega) hy
    refine Calls.mono h ?_
    rintro e w' ⟨r, rfl, hk⟩
    exact ⟨r, rfl, hk⟩
  · refine cond_f (by simp; omega) ?_
    have hnone : someB zs = false := by
      cases h : someB zs with
      | false => rfl
      | true =>
        obtain ⟨i, hi, h1⟩ := some_at h
        rw [List.getElem?_eq_getElem hi] at h1
        exact absurd h1 (hno i _ (by omega) (List.getElem?_eq_getElem hi))
    rw [hnone] at hK
    exact hK
theorem twin_spec {x : T_script_Item} {f : List UInt8} (hx : Rd E_uint8 w x.Feed f) (hl : f.length ≤ 100000000) {K : T_script_Item → World → Prop} (hK : ∀ q w', Go.Vc.Own E_uint8 w' w.heap.size q f → Below w.heap.size w w' → K ⟨q, x.Size, x.Rows, x.Cols⟩ w') : c_script_twin x w K := by
  refine call_script_twin _ ?_
  unfold sh_script_twin
  refine nw_blk fun w1 hb1 hB1 hs1 => nw_blk fun w2 hb2 hB2 hs2 => ?_
  have hB12 : Below w.heap.size w w2 := hB1.trans (hB2.mono (by omega))
  refine ldSl_of (x := x.Feed) ((hb1.ext hB2).cells 0 _ rfl) (SClone_spec (hx.ext hB12) hl fun q w3 hq hB3 => ?_)
  have hB13 := hB12.trans (hB3.mono hB12.size)
  have hb13 := (hb1.ext hB2).ext hB3
  refine stK_blk (o := 0) hb13 (by simp [T_script_Item.rep]) fun w4 hb4 hg4 hs4 => ?_
  have hb4' : Blk w4 w.heap.size ty_script_Item (T_script_Item.rep.cells (⟨q, x.Size, x.Rows, x.Cols⟩ : T_script_Item)) := hb4
  refine ldS_of (x := (⟨q, x.Size, x.Rows, x.Cols⟩ : T_script_Item)) hb4'.cells ?_
  have hb24 : Blk w4 w1.heap.size ty_script_Item _ := (hb2.ext hB3).grown hg4 (fun e => by have := Option.some.inj e; omega)
  have hs3 := hB3.size
  refine stK_blk hb24 (by simp [T_script_Item.rep]) fun w5 hb5 hg5 hs5 => ?_
  have hb5' : Blk w5 w1.heap.size ty_script_Item (T_script_Item.rep.cells (⟨q, x.Size, x.Rows, x.Cols⟩ : T_script_Item)) := hb5
  refine ldS_of (x := (⟨q, x.Size, x.Rows, x.Cols⟩ : T_script_Item)) hb5'.cells ?_
  have hq4 := hq.kept hg4 (by
    cases hk : q.blk with
    | none => exact .inl rfl
    | some k => exact .inr fun e => by have := (hq.lt k hk).1; cases e; omega)
  have hq5 := hq4.kept hg5 (by
    cases hk : q.blk with
    | none => exact .inl rfl
    | some k => exact .inr fun e => by have := (hq.lt k hk).1; cases e; omega)
  exact hK q w5 (hq5.base hB12.size) ((hB13.grown hg4 hB13.size fun k hk => by cases hk; exact Nat.le_refl _).grown hg5 (by omega) fun k hk => by cases hk; omega)
end
end Go.Proofs.YtpadlibcalomnaaDoor
