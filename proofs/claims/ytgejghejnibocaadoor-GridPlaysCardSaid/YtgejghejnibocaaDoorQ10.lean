/- The card of GridPlays: for every input the law returns true and leaves its arguments as they were; the listed tables as the program's text lays them. -/
import Derived.Test.YtgejghejnibocaaDoorOpen3
import Derived.Test.YtgejghejnibocaaDoorH7
import Derived.Test.YtgejghejnibocaaDoorTie
import Derived.Test.YtgejghejnibocaaDoorCards
import Derived.SevenTiedAt
namespace Go.Proofs.YtgejghejnibocaaDoor
open Go.Vc Go.ChangeShapes Go.WideShapes Go.ChangeAt Go.RowKit
set_option maxRecDepth 100000

theorem params12 : Tryd.f12.params = #[3, 3, 3, 74] := by kernel_rfl
theorem gridPlays_walk {H : Type} {enc : TypeId × Value → H} {W : World} {base : Nat} {args : Array Value} {ds : List (DataW H)} {p : List MemPlace} (hval : ∀ (j : Nat) t v, Tryd.f12.params[j]? = some t → args[j]? = some v → Value.okWide Tryd.prog W .any base t v)
    (hA : DataW.TrodAll enc Tryd.prog W 0 (fun _ => true) true Tryd.f12.params.toList args.toList ds p) : (∃ d1 d2 d3 d4, ds = [d1, d2, d3, d4]) ∧ Calls Tryd.prog 12 args W fun e w' => e = .returned (.bool true) ∧ Below W.heap.size W w' := by
  rw [params12] at hA hval
  obtain ⟨v0, vs0, d0, ds0, p0, q0, hargs, rfl, rfl, h0, r0⟩ := trodAll_cons hA
  obtain ⟨v1, vs1, d1, ds1, p1, q1, rfl, rfl, rfl, h1, r1⟩ := trodAll_cons r0
  obtain ⟨v2, vs2, d2, ds2, p2, q2, rfl, rfl, rfl, h2, r2⟩ := trodAll_cons r1
  obtain ⟨v3, vs3, d3, ds3, p3, q3, rfl, rfl, rfl, h3, r3⟩ := trodAll_cons r2
  obtain ⟨rfl, rfl, rfl⟩ := trodAll_nil r3
  obtain rfl : args = #[v0, v1, v2, v3] := by cases args; simp_all
  refine ⟨⟨_, _, _, _, rfl⟩, ?_⟩
  obtain ⟨x0, rfl, _, _, wf0⟩ := open_int (k := .i64) (by kernel_rfl) (hval 0 3 v0 rfl rfl) h0
  obtain ⟨x1, rfl, _, _, wf1⟩ := open_int (k := .i64) (by kernel_rfl) (hval 1 3 v1 rfl rfl) h1
  obtain ⟨x2, rfl, _, _, wf2⟩ := open_int (k := .i64) (by kernel_rfl) (hval 2 3 v2 rfl rfl) h2
  obtain ⟨s3, xs3, rfl, hrd3, hq3⟩ := open_gacts (by kernel_rfl) (hval 3 74 v3 rfl rfl) h3
  refine Calls.mono (GridPlays_law (rows := x0) (cols := x1) (back := x2) hrd3 hq3 (K := fun b w' => b = true ∧ Below W.heap.size W w') fun w' hB => ⟨rfl, hB⟩) ?_
  rintro e w' ⟨r, rfl, rfl, hB⟩
  exact ⟨rfl, hB⟩

theorem gridPlays_lifted (os : Os) (started : os.Started) (H : Type) (enc : TypeId × Value → H) :
    ReturnsInHanded {} Tryd.checked os 12 .any (fun w args => (Rows.gridPlaysSpec.pre enc Tryd.prog Tryd.f12 Rows.gridPlaysRow.domain false w args ∧ laidMetH Tryd.prog tabs w) ∧ sizedMet enc Tryd.prog Tryd.f12 (OpenSpec.ofChange Rows.gridPlaysSpec) false w args)
      (Rows.gridPlaysSpec.post enc Tryd.prog Tryd.f12 false true false false) := by
  refine returnsInHanded_of_change_and (C := Tryd.checked) (X := fun w _ => laidMetH Tryd.prog tabs w) (fun _ _ _ hh h => h.of_heap hh) own started (by kernel_rfl) Tryd.func12
    (ChangeSpec.witness_shaped (enc := enc) (C := Tryd.checked) (os := os) (X := fun w _ => laidMetH Tryd.prog tabs w) false (World.laidAll Tryd.prog os tabs) #[.int .i64 0, .int .i64 0, .int .i64 0, .slice none 0 0] 8 (World.laidAll_os _ _ _)
      (tabs_shaped os) (by kernel_rfl) (by kernel_rfl) (by kernel_rfl) (tabs_met os _)) ?_
  intro W base args ds gs before hval hW _ _ _ _
  have hW' := hW
  obtain ⟨p, q, hA, _, _, _, _⟩ := hW
  obtain ⟨⟨d1, d2, d3, d4, rfl⟩, hw⟩ := gridPlays_walk hval hA
  refine hw.mono ?_
  rintro e W' ⟨rfl, hB⟩
  exact ⟨_, rfl, law_post laidOut (tb := 4) (by kernel_rfl) (by kernel_rfl) (by kernel_rfl) rfl rfl hW' hB⟩

theorem gridPlays_holds : Rows.GridPlaysSaid :=
  OpenClaim.holds_of_wide 12 Tryd.f12 rfl rfl rfl rfl rfl rfl rfl ⟨rfl, rfl, rfl, rfl, rfl⟩ rfl rfl rfl rfl rfl (by kernel_rfl) Tryd.func12 (by kernel_rfl)
    (of_decide_eq_true (by kernel_rfl)) (by unfold Func.isWrapper; first | (rw [if_pos (by decide +kernel)]; kernel_rfl) | (rw [if_neg (by decide +kernel)]; exact ⟨rfl, rfl⟩))
    (fun os started H enc _ => gridPlays_lifted os started H enc)

theorem gridPlays_card : Rows.GridPlaysCardSaid :=
  Claim7.holds_tied_plain_at .later [] [.data, .pinned] true (true, "a8579694a83837719a4c4a439a76608a76c0fff2ce49706e806679c2bf0b266e") false gridPlays_holds (fun _ h => by cases h) (by kernel_rfl) (fun _ h => by cases h) gridPlays_row_tie rfl ⟨rfl, rfl⟩ (by kernel_rfl) rfl
    (fun f fn hf hfn => by
      obtain rfl : f = 12 := Option.some.inj ((show Tryd.prog.funcNamed "phosphor/phosphorlaw16.GridPlays" = some 12 by kernel_rfl).symm.trans hf) |>.symm
      obtain rfl : fn = Tryd.f12 := (Option.some.inj (Tryd.func12.symm.trans hfn)).symm
      exact ⟨by kernel_rfl, fun j t ht => by
        rw [params12] at ht
        have hm : t ∈ [3, 3, 3, 74] := by simpa using Array.mem_of_getElem? ht
        have hall : ([3, 3, 3, 74].all fun u => !Tryd.prog.wantsStandIn u) = true := by kernel_rfl
        exact (show Tryd.prog.wantsStandIn t = false by simpa using List.all_eq_true.1 hall t hm)⟩)
    (by kernel_rfl)
#print axioms gridPlays_card
end Go.Proofs.YtgejghejnibocaaDoor
