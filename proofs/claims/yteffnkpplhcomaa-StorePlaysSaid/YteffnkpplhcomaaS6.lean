/- The program's store: the elder of two, the eldest of all, room. -/
import Derived.Test.YteffnkpplhcomaaS5
set_option linter.unusedVariables false
namespace Go.Proofs.Yteffnkpplhcomaa
open Go.Vc Go.RowKit
set_option maxRecDepth 100000

abbrev stOf (L : List (Int × Im)) (k : Int) : Int := (vOf L k).stamp
section
variable {w : World} {base g r n : Nat} {S : St}
theorem Compare_spec {x y : Int} {K : Int → World → Prop} (hK : ∀ c : Int, (c < 0 ↔ x < y) → K c w) : c_cmp_Compare_int64 x y w K := by
  refine call_cmp_Compare_int64 _ _ ?_
  unfold sh_cmp_Compare_int64
  refine call_cmp_isNaN_int64 _ ?_
  unfold sh_cmp_isNaN_int64
  refine call_cmp_isNaN_int64 _ ?_
  unfold sh_cmp_isNaN_int64
  refine cond_f (by simp) (cond_f (by simp) (cond_of (fun h => ?_) fun h => cond_of (fun h' => ?_) fun h' => ?_))
  · exact hK _ ⟨fun _ => of_decide_eq_true h, fun _ => by decide⟩
  · have := of_decide_eq_false h
    exact hK _ ⟨fun h => absurd h (by decide), fun h => absurd h this⟩
  · have := of_decide_eq_false h
    exact hK _ ⟨fun h => absurd h (by decide), fun h => absurd h this⟩
theorem elder_spec {bx : Nat} (h : StM w base g r S) (hb : Blk w bx ty_p_store_Store [(.pointer (some ⟨g, 0, none⟩))]) (a b : Int) {K : Int → World → Prop}
    (hK : ∀ c : Int, (c < 0 ↔ stOf S.L a < stOf S.L b) → K c w.drew) : c_store_Store_room_1 a b ⟨bx, 0, none⟩ w K := by
  refine call_store_Store_room_1 _ _ _ ?_
  unfold sh_store_Store_room_1
  have hd := h.drew
  have e1 : World.cell? w.drew ⟨bx, 0, none⟩ = some (.pointer (some ⟨g, 0, none⟩)) := hb.drew.cell 0 rfl
  have e2 : World.cell? w.drew ((⟨g, 0, none⟩ : Addr).add 4) = some (.map (some r)) := hd.blk.cells 4 _ rfl
  refine ldP_of (x := some ⟨g, 0, none⟩) e1 (onPtr_some' (ldM_of (x := some r) e2 ?_))
  refine ldP_of (x := some ⟨g, 0, none⟩) e1 (onPtr_some' (ldM_of (x := some r) e2 ?_))
  refine ⟨lookup1 hd.map a ⟨e2, e1, lookup1 hd.map b ⟨e2, e1, Compare_spec hK⟩⟩, ?_⟩
  exact lookup1 hd.map b ⟨e2, e1, lookup1 hd.map a ⟨e2, e1, Compare_spec hK⟩⟩
theorem Min_spec {bx : Nat} {x : Slc} {xs : List Int} (h : StM w base g r S) (hb : Blk w bx ty_p_store_Store [(.pointer (some ⟨g, 0, none⟩))]) (hx : Rd E_int w x xs) (hne : 0 < xs.length) (hlen : xs.length ≤ 1000000) {K : Int → World → Prop}
    (hK : ∀ m w', m ∈ xs → (∀ k ∈ xs, stOf S.L m ≤ stOf S.L k) → Below w.heap.size w w' → K m w') : c_slices_MinFunc_int_int x (.func (.func fn_store_Store_room_1) #[] #[(.pointer (some ⟨bx, 0, none⟩))]) w K := by
  refine call_slices_MinFunc_int_int _ _ ?_
  unfold sh_slices_MinFunc_int_int
  rw [hx.n]
  refine joinP_of fun J hJ => ?_
  refine cond_f (decide_eq_false (by omega)) (hJ _ _ ?_)
  refine hx.ix (i := 0) rfl (by omega) (by omega) fun h0 => ?_
  refine ldI_of (x := xs[((0 : Int)).toNat]) (by simpa using h0 0 _ rfl) ?_
  refine loopP_rule (Inv := fun (s : Int × Int × Unit) w2 => ∃ j : Nat, s.2.1 = (j : Int) ∧ 1 ≤ j ∧ j ≤ xs.length ∧ s.1 ∈ xs ∧ (∀ k ∈ xs.take j, stOf S.L s.1 ≤ stOf S.L k) ∧ Below w.heap.size w w2) (μ := fun s => xs.length - s.2.1.toNat) ?_ ?_
  · refine ⟨1, rfl, Nat.le_refl _, hne, List.getElem_mem _, fun k hk => ?_, Below.refl _ w⟩
    cases xs with
    | nil => simp at hne
    | cons a xs =>
      simp at hk
      subst hk
      exact Int.le_refl _
  · rintro ⟨m, i, ⟨⟩⟩ w2 ⟨j, hj, hj1, hj2, hm, hmin, hB⟩ I hI
    have hj : i = (j : Int) := hj
    subst hj
    refine cond_of (fun hlt => ?_) fun hge => ?_
    · have hlt : j < xs.length := by have := of_decide_eq_true hlt; omega
      have hx2 := hx.ext hB
      refine hx2.ix (i := (j : Int)) rfl (by omega) (by omega) fun hc => ?_
      refine ldI_of (x := xs[((j : Int)).toNat]) (by simpa using hc 0 _ rfl) ?_
      have ej : xs[((j : Int)).toNat]'(by omega) = xs[j] := by simp
      refine callR_plain (by kernel_rfl) ?_
      have hcall : c_store_Store_room_1 (xs[((j : Int)).toNat]) m ⟨bx, 0, none⟩ w2 (fun t26 w3 => cond (decide (t26 < (0 : Int)))
          (ixK x (j : Int) 1 fun t30 => ldI .i64 t30 w3 fun t31 => I (t31, (IntKind.i64.wrap ((j : Int) + (1 : Int))), ()) w3)
          (I (m, (IntKind.i64.wrap ((j : Int) + (1 : Int))), ()) w3)) := by
        refine elder_spec (h.ext hB) (hb.ext hB) _ _ fun c hc' => ?_
        rw [wrap64_id (by omega)]
        have hBd := hB.drew
        have htake : ∀ k ∈ xs.take (j + 1), k ∈ xs.take j ∨ k = xs[j] := fun k hk => by
          rw [List.take_add_one, List.getElem?_eq_getElem hlt] at hk
          rcases List.mem_append.1 hk with hk | hk
          · exact .inl hk
          · exact .inr (by simpa using hk)
        refine cond_of (fun hneg => ?_) fun hnn => ?_
        · have hneg := hc'.1 (of_decide_eq_true hneg)
          refine (hx.ext hBd).ix (i := (j : Int)) rfl (by omega) (by omega) fun hd => ?_
          refine ldI_of (x := xs[((j : Int)).toNat]) (by simpa using hd 0 _ rfl) ?_
          refine hI _ _ ⟨j + 1, by simp, by omega, by omega, List.getElem_mem _, fun k hk => ?_, hBd⟩ (by show xs.length - ((j : Int) + 1).toNat < xs.length - ((j : Int)).toNat; omega)
          rcases htake k hk with hk | rfl
          · have := hmin k hk
            show stOf S.L _ ≤ _
            simp only at hneg this ⊢
            omega
          · simp
        · have hnn : ¬ _ := fun hh => absurd (hc'.2 hh) (of_decide_eq_false hnn)
          refine hI _ _ ⟨j + 1, by simp, by omega, by omega, hm, fun k hk => ?_, hBd⟩ (by show xs.length - ((j : Int) + 1).toNat < xs.length - ((j : Int)).toNat; omega)
          rcases htake k hk with hk | rfl
          · exact hmin k hk
          · rw [ej] at hnn
            exact Int.not_lt.1 hnn
      exact hcall
    · have hge : ¬ _ := of_decide_eq_false hge
      refine hK m w2 hm (fun k hk => hmin k ?_) hB
      rw [List.take_of_length_le (by omega)]
      exact hk
end
end Go.Proofs.Yteffnkpplhcomaa
