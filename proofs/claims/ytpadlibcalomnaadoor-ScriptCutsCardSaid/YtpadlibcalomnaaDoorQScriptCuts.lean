/- The card of ScriptCuts: for every input the law returns true and leaves its arguments as they were; the listed tables as the program's text lays them. -/
import Derived.Test.YtpadlibcalomnaaDoorOpen3
import Derived.Test.YtpadlibcalomnaaDoorTie
import Derived.Test.YtpadlibcalomnaaDoorCards
import Derived.SevenTiedAt
namespace Go.Proofs.YtpadlibcalomnaaDoor
open Go.Vc Go.ChangeShapes Go.WideShapes Go.ChangeAt Go.RowKit
set_option maxRecDepth 100000

theorem params7 : Tryd.f7.params = #[50, 51] := by kernel_rfl
theorem scriptCuts_walk {H : Type} {enc : TypeId × Value → H} {W : World} {base : Nat} {args : Array Value} {ds : List (DataW H)} {p : List MemPlace} (hval : ∀ (j : Nat) t v, Tryd.f7.params[j]? = some t → args[j]? = some v → Value.okWide Tryd.prog W .any base t v)
    (hT : Tab W) (hA : DataW.TrodAll enc Tryd.prog W 0 (fun _ => true) true Tryd.f7.params.toList args.toList ds p) : (∃ d1 d2, ds = [d1, d2]) ∧ Calls Tryd.prog 7 args W fun e w' => e = .returned (.bool true) ∧ Below W.heap.size W w' := by
  rw [params7] at hA hval
  obtain ⟨v0, vs0, d0, ds0, p0, q0, hargs, rfl, rfl, h0, r0⟩ := trodAll_cons hA
  obtain ⟨v1, vs1, d1, ds1, p1, q1, rfl, rfl, rfl, h1, r1⟩ := trodAll_cons r0
  obtain ⟨rfl, rfl, rfl⟩ := trodAll_nil r1
  obtain rfl : args = #[v0, v1] := by cases args; simp_all
  refine ⟨⟨_, _, rfl⟩, ?_⟩
  obtain ⟨s0, zs0, rfl, hrd0, hq0⟩ := open_ints (by kernel_rfl) (hval 0 50 v0 rfl rfl) h0
  obtain ⟨s1, xs1, L1, rfl, hrd1, ha1⟩ := open_items (by kernel_rfl) (hval 1 51 v1 rfl rfl) h1
  refine Calls.mono (cuts_law hT hrd0 hrd1 ha1 (K := fun b w' => b = true ∧ Below W.heap.size W w') fun w' hB => ⟨rfl, hB⟩) ?_
  rintro e w' ⟨r, rfl, rfl, hB⟩
  exact ⟨rfl, hB⟩

theorem scriptCuts_lifted (os : Os) (started : os.Started) (H : Type) (enc : TypeId × Value → H) :
    ReturnsInHanded {} Tryd.checked os 7 .any (fun w args => (Rows.scriptCutsSpec.pre enc Tryd.prog Tryd.f7 Rows.scriptCutsRow.domain false w args ∧ laidMetH Tryd.prog tabsS w) ∧ sizedMet enc Tryd.prog Tryd.f7 (OpenSpec.ofChange Rows.scriptCutsSpec) false w args)
      (Rows.scriptCutsSpec.post enc Tryd.prog Tryd.f7 false true false false) := by
  refine returnsInHanded_of_change_and (C := Tryd.checked) (X := fun w _ => laidMetH Tryd.prog tabsS w) (fun _ _ _ hh h => h.of_heap hh) own started (by kernel_rfl) Tryd.func7
    (ChangeSpec.witness_shaped (enc := enc) (C := Tryd.checked) (os := os) (X := fun w _ => laidMetH Tryd.prog tabsS w) false (World.laidAll Tryd.prog os tabsS) #[.slice none 0 0, .slice none 0 0] 8 (World.laidAll_os _ _ _)
      (tabsS_shaped os) (by kernel_rfl) (by kernel_rfl) (by kernel_rfl) (tabsS_met os _)) ?_
  intro W base args ds gs before hval hW _ _ hX _
  have hW' := hW
  obtain ⟨p, q, hA, _, _, _, _⟩ := hW
  obtain ⟨⟨d1, d2, rfl⟩, hw⟩ := scriptCuts_walk hval (tabS_of_laid hX) hA
  refine hw.mono ?_
  rintro e W' ⟨rfl, hB⟩
  exact ⟨_, rfl, law_post laidOut (tb := 4) (by kernel_rfl) (by kernel_rfl) (by kernel_rfl) rfl rfl hW' hB⟩

theorem scriptCuts_holds : Rows.ScriptCutsSaid :=
  OpenClaim.holds_of_wide 7 Tryd.f7 rfl rfl rfl rfl rfl rfl rfl ⟨rfl, rfl, rfl, rfl, rfl⟩ rfl rfl rfl rfl rfl (by kernel_rfl) Tryd.func7 (by kernel_rfl)
    (of_decide_eq_true (by kernel_rfl)) (by unfold Func.isWrapper; first | (rw [if_pos (by decide +kernel)]; kernel_rfl) | (rw [if_neg (by decide +kernel)]; exact ⟨rfl, rfl⟩))
    (fun os started H enc _ => scriptCuts_lifted os started H enc)

theorem scriptCuts_card : Rows.ScriptCutsCardSaid :=
  Claim7.holds_tied_plain_at .later [] [.data, .data, .data, .data, .sentinel, .sentinel, .pinned] true (true, "4ad3f8e8913a5981ceb1697f69d2bd6b64156a2c52b7a173782aa338160016bb") true scriptCuts_holds (fun _ h => by cases h) (by kernel_rfl) (fun _ h => by cases h) scriptCuts_row_tie rfl ⟨rfl, rfl⟩ (by kernel_rfl) rfl
    (fun f fn hf hfn => by
      obtain rfl : f = 7 := Option.some.inj ((show Tryd.prog.funcNamed "phosphor/phosphorlaw26.ScriptCuts" = some 7 by kernel_rfl).symm.trans hf) |>.symm
      obtain rfl : fn = Tryd.f7 := (Option.some.inj (Tryd.func7.symm.trans hfn)).symm
      exact ⟨by kernel_rfl, fun j t ht => by
        rw [params7] at ht
        have hm : t ∈ [50, 51] := by simpa using Array.mem_of_getElem? ht
        have hall : ([50, 51].all fun u => !Tryd.prog.wantsStandIn u) = true := by kernel_rfl
        exact (show Tryd.prog.wantsStandIn t = false by simpa using List.all_eq_true.1 hall t hm)⟩)
    (by kernel_rfl)
#print axioms scriptCuts_card
end Go.Proofs.YtpadlibcalomnaaDoor
