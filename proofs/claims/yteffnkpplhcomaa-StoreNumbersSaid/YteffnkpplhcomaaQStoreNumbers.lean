/- StoreNumbers: for every input the law returns true and leaves its arguments as they were. -/
import Derived.Test.YteffnkpplhcomaaOpen2
import Derived.Test.YteffnkpplhcomaaS15
import Derived.Test.YteffnkpplhcomaaRows
import Derived.ChangeSame
import Derived.JoinedOf
import Derived.JoinedAt
namespace Go.Proofs.Yteffnkpplhcomaa
open Go.Vc Go.ChangeShapes Go.WideShapes Go.ChangeAt Go.RowKit
set_option maxRecDepth 100000

theorem params4 : Try.f4.params = #[3, 30, 3] := by kernel_rfl
theorem storeNumbers_walk {H : Type} {enc : TypeId × Value → H} {W : World} {base : Nat} {args : Array Value} {ds : List (DataW H)} {p : List MemPlace} (hval : ∀ (j : Nat) t v, Try.f4.params[j]? = some t → args[j]? = some v → Value.okWide Try.prog W .any base t v)
    (hA : DataW.TrodAll enc Try.prog W 0 (fun _ => true) true Try.f4.params.toList args.toList ds p) : (∃ d1 d2 d3, ds = [d1, d2, d3]) ∧ Calls Try.prog 4 args W fun e w' => e = .returned (.bool true) ∧ Below W.heap.size W w' := by
  rw [params4] at hA hval
  obtain ⟨v0, vs0, d0, ds0, p0, q0, hargs, rfl, rfl, h0, r0⟩ := trodAll_cons hA
  obtain ⟨v1, vs1, d1, ds1, p1, q1, rfl, rfl, rfl, h1, r1⟩ := trodAll_cons r0
  obtain ⟨v2, vs2, d2, ds2, p2, q2, rfl, rfl, rfl, h2, r2⟩ := trodAll_cons r1
  obtain ⟨rfl, rfl, rfl⟩ := trodAll_nil r2
  obtain rfl : args = #[v0, v1, v2] := by cases args; simp_all
  refine ⟨⟨_, _, _, rfl⟩, ?_⟩
  obtain ⟨x0, rfl, _, _, wf0⟩ := open_int (k := .i64) (by kernel_rfl) (hval 0 3 v0 rfl rfl) h0
  obtain ⟨s1, xs1, rfl, hrd1, hq1⟩ := open_ints (by kernel_rfl) (hval 1 30 v1 rfl rfl) h1
  obtain ⟨x2, rfl, _, _, wf2⟩ := open_int (k := .i64) (by kernel_rfl) (hval 2 3 v2 rfl rfl) h2
  refine Calls.mono (numbers_law hrd1 hq1 (K := fun b w' => b = true ∧ Below W.heap.size W w') fun w' hB => ⟨rfl, hB⟩) ?_
  rintro e w' ⟨r, rfl, rfl, hB⟩
  exact ⟨rfl, hB⟩

theorem storeNumbers_lifted (os : Os) (started : os.Started) (H : Type) (enc : TypeId × Value → H) :
    ReturnsInHanded {} Try.checked os 4 .any (Rows.storeNumbersSpec.pre6 enc Try.prog Try.f4 Rows.storeNumbersRow.domain false) (Rows.storeNumbersSpec.post enc Try.prog Try.f4 false true false false) := by
  refine returnsInHanded_of_change (C := Try.checked) own started (by kernel_rfl) Try.func4
    (ChangeSpec.witness6 (enc := enc) (C := Try.checked) false ⟨#[], #[.int .i64 0, .slice none 0 0, .int .i64 0], []⟩ 8 (by kernel_rfl) (by kernel_rfl) (by kernel_rfl) (by kernel_rfl)) ?_
  intro W base args ds gs before hval hW _ _
  have hW' := hW
  obtain ⟨p, q, hA, _, _, _, _⟩ := hW
  obtain ⟨⟨d1, d2, d3, rfl⟩, hw⟩ := storeNumbers_walk hval hA
  refine hw.mono ?_
  rintro e W' ⟨rfl, hB⟩
  exact ⟨_, rfl, law_post laidOut (tb := 4) (by kernel_rfl) (by kernel_rfl) (by kernel_rfl) rfl rfl hW' hB⟩

theorem storeNumbers_holds : Rows.StoreNumbersSaid :=
  OpenClaim.holds_of_wide 4 Try.f4 rfl rfl rfl rfl rfl rfl rfl ⟨rfl, rfl, rfl, rfl, rfl⟩ rfl rfl rfl rfl rfl (by kernel_rfl) Try.func4 (by kernel_rfl)
    (of_decide_eq_true (by kernel_rfl)) (by unfold Func.isWrapper; first | (rw [if_pos (by decide +kernel)]; kernel_rfl) | (rw [if_neg (by decide +kernel)]; exact ⟨rfl, rfl⟩))
    (fun os started H enc _ => storeNumbers_lifted os started H enc)
end Go.Proofs.Yteffnkpplhcomaa
