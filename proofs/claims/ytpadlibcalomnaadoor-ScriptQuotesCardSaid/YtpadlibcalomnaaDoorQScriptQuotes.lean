/- The card of ScriptQuotes: for every input the law returns true and leaves its arguments as they were; the listed tables as the program's text lays them. -/
import Derived.Test.YtpadlibcalomnaaDoorOpen2
import Derived.Test.YtpadlibcalomnaaDoorS9
import Derived.Test.YtpadlibcalomnaaDoorTie
import Derived.Test.YtpadlibcalomnaaDoorCards
import Derived.SevenTiedAt
namespace Go.Proofs.YtpadlibcalomnaaDoor
open Go.Vc Go.ChangeShapes Go.WideShapes Go.ChangeAt Go.RowKit
set_option maxRecDepth 100000

theorem params6 : Tryd.f6.params = #[25, 9] := by kernel_rfl
theorem scriptQuotes_walk {H : Type} {enc : TypeId × Value → H} {W : World} {base : Nat} {args : Array Value} {ds : List (DataW H)} {p : List MemPlace} (hval : ∀ (j : Nat) t v, Tryd.f6.params[j]? = some t → args[j]? = some v → Value.okWide Tryd.prog W .any base t v)
    (hT : Tab W) (hA : DataW.TrodAll enc Tryd.prog W 0 (fun _ => true) true Tryd.f6.params.toList args.toList ds p) : (∃ d1 d2, ds = [d1, d2]) ∧ Calls Tryd.prog 6 args W fun e w' => e = .returned (.bool true) ∧ Below W.heap.size W w' := by
  rw [params6] at hA hval
  obtain ⟨v0, vs0, d0, ds0, p0, q0, hargs, rfl, rfl, h0, r0⟩ := trodAll_cons hA
  obtain ⟨v1, vs1, d1, ds1, p1, q1, rfl, rfl, rfl, h1, r1⟩ := trodAll_cons r0
  obtain ⟨rfl, rfl, rfl⟩ := trodAll_nil r1
  obtain rfl : args = #[v0, v1] := by cases args; simp_all
  refine ⟨⟨_, _, rfl⟩, ?_⟩
  obtain ⟨s0, xs0, rfl, hrd0, hq0⟩ := open_bytes (by kernel_rfl) (hval 0 25 v0 rfl rfl) h0
  obtain ⟨x1, rfl, _, _, _⟩ := Go.ChangeMaps.open_string (by kernel_rfl) (hval 1 9 v1 rfl rfl) h1
  refine Calls.mono (quotes_law hT hrd0 x1 (K := fun b w' => b = true ∧ Below W.heap.size W w') fun w' hB => ⟨rfl, hB⟩) ?_
  rintro e w' ⟨r, rfl, rfl, hB⟩
  exact ⟨rfl, hB⟩

theorem scriptQuotes_lifted (os : Os) (started : os.Started) (H : Type) (enc : TypeId × Value → H) :
    ReturnsInHanded {} Tryd.checked os 6 .any (fun w args => (Rows.scriptQuotesSpec.pre enc Tryd.prog Tryd.f6 Rows.scriptQuotesRow.domain false w args ∧ laidMetH Tryd.prog tabsS w) ∧ sizedMet enc Tryd.prog Tryd.f6 (OpenSpec.ofChange Rows.scriptQuotesSpec) false w args)
      (Rows.scriptQuotesSpec.post enc Tryd.prog Tryd.f6 false true false false) := by
  refine returnsInHanded_of_change_and (C := Tryd.checked) (X := fun w _ => laidMetH Tryd.prog tabsS w) (fun _ _ _ hh h => h.of_heap hh) own started (by kernel_rfl) Tryd.func6
    (ChangeSpec.witness_shaped (enc := enc) (C := Tryd.checked) (os := os) (X := fun w _ => laidMetH Tryd.prog tabsS w) false (World.laidAll Tryd.prog os tabsS) #[.slice none 0 0, .string ⟨#[]⟩] 8 (World.laidAll_os _ _ _)
      (tabsS_shaped os) (by kernel_rfl) (by kernel_rfl) (by kernel_rfl) (tabsS_met os _)) ?_
  intro W base args ds gs before hval hW _ _ hX _
  have hW' := hW
  obtain ⟨p, q, hA, _, _, _, _⟩ := hW
  obtain ⟨⟨d1, d2, rfl⟩, hw⟩ := scriptQuotes_walk hval (tabS_of_laid hX) hA
  refine hw.mono ?_
  rintro e W' ⟨rfl, hB⟩
  exact ⟨_, rfl, law_post laidOut (tb := 4) (by kernel_rfl) (by kernel_rfl) (by kernel_rfl) rfl rfl hW' hB⟩

theorem scriptQuotes_holds : Rows.ScriptQuotesSaid :=
  OpenClaim.holds_of_wide 6 Tryd.f6 rfl rfl rfl rfl rfl rfl rfl ⟨rfl, rfl, rfl, rfl, rfl⟩ rfl rfl rfl rfl rfl (by kernel_rfl) Tryd.func6 (by kernel_rfl)
    (of_decide_eq_true (by kernel_rfl)) (by unfold Func.isWrapper; first | (rw [if_pos (by decide +kernel)]; kernel_rfl) | (rw [if_neg (by decide +kernel)]; exact ⟨rfl, rfl⟩))
    (fun os started H enc _ => scriptQuotes_lifted os started H enc)

theorem scriptQuotes_card : Rows.ScriptQuotesCardSaid :=
  Claim7.holds_tied_plain_at .later [] [.data, .data, .data, .data, .sentinel, .sentinel, .pinned] true (true, "4ad3f8e8913a5981ceb1697f69d2bd6b64156a2c52b7a173782aa338160016bb") true scriptQuotes_holds (fun _ h => by cases h) (by kernel_rfl) (fun _ h => by cases h) scriptQuotes_row_tie rfl ⟨rfl, rfl⟩ (by kernel_rfl) rfl
    (fun f fn hf hfn => by
      obtain rfl : f = 6 := Option.some.inj ((show Tryd.prog.funcNamed "phosphor/phosphorlaw26.ScriptQuotes" = some 6 by kernel_rfl).symm.trans hf) |>.symm
      obtain rfl : fn = Tryd.f6 := (Option.some.inj (Tryd.func6.symm.trans hfn)).symm
      exact ⟨by kernel_rfl, fun j t ht => by
        rw [params6] at ht
        have hm : t ∈ [25, 9] := by simpa using Array.mem_of_getElem? ht
        have hall : ([25, 9].all fun u => !Tryd.prog.wantsStandIn u) = true := by kernel_rfl
        exact (show Tryd.prog.wantsStandIn t = false by simpa using List.all_eq_true.1 hall t hm)⟩)
    (by kernel_rfl)
#print axioms scriptQuotes_card
end Go.Proofs.YtpadlibcalomnaaDoor
