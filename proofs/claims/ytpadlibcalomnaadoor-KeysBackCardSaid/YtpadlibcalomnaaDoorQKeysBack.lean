/- The card of KeysBack: for every input the law returns true and leaves its arguments as they were; the listed tables as the program's text lays them. -/
import Derived.Test.YtpadlibcalomnaaDoorOpen
import Derived.Test.YtpadlibcalomnaaDoorK13
import Derived.Test.YtpadlibcalomnaaDoorTie
import Derived.Test.YtpadlibcalomnaaDoorCards
import Derived.SevenTiedAt
namespace Go.Proofs.YtpadlibcalomnaaDoor
open Go.Vc Go.ChangeShapes Go.WideShapes Go.ChangeAt Go.RowKit
set_option maxRecDepth 100000

theorem params4 : Tryd.f4.params = #[23] := by kernel_rfl
theorem keysBack_walk {H : Type} {enc : TypeId × Value → H} {W : World} {base : Nat} {args : Array Value} {ds : List (DataW H)} {p : List MemPlace} (hval : ∀ (j : Nat) t v, Tryd.f4.params[j]? = some t → args[j]? = some v → Value.okWide Tryd.prog W .any base t v)
    (hT : Tab W) (hA : DataW.TrodAll enc Tryd.prog W 0 (fun _ => true) true Tryd.f4.params.toList args.toList ds p) : (∃ d1, ds = [d1]) ∧ Calls Tryd.prog 4 args W fun e w' => e = .returned (.bool true) ∧ Below W.heap.size W w' := by
  rw [params4] at hA hval
  obtain ⟨v0, vs0, d0, ds0, p0, q0, hargs, rfl, rfl, h0, r0⟩ := trodAll_cons hA
  obtain ⟨rfl, rfl, rfl⟩ := trodAll_nil r0
  obtain rfl : args = #[v0] := by cases args; simp_all
  refine ⟨⟨_, rfl⟩, ?_⟩
  obtain ⟨x0, rfl, hb0, hw0⟩ := open_keys (hval 0 23 v0 rfl rfl) h0
  refine Calls.mono (back_law (k := x0) hT hb0 (K := fun b w' => b = true ∧ Below W.heap.size W w') fun w' hB => ⟨rfl, hB⟩) ?_
  rintro e w' ⟨r, rfl, rfl, hB⟩
  exact ⟨rfl, hB⟩

theorem keysBack_lifted (os : Os) (started : os.Started) (H : Type) (enc : TypeId × Value → H) :
    ReturnsInHanded {} Tryd.checked os 4 .any (fun w args => (Rows.keysBackSpec.pre enc Tryd.prog Tryd.f4 Rows.keysBackRow.domain false w args ∧ laidMetH Tryd.prog tabs w) ∧ sizedMet enc Tryd.prog Tryd.f4 (OpenSpec.ofChange Rows.keysBackSpec) false w args)
      (Rows.keysBackSpec.post enc Tryd.prog Tryd.f4 false true false false) := by
  refine returnsInHanded_of_change_and (C := Tryd.checked) (X := fun w _ => laidMetH Tryd.prog tabs w) (fun _ _ _ hh h => h.of_heap hh) own started (by kernel_rfl) Tryd.func4
    (ChangeSpec.witness_shaped (enc := enc) (C := Tryd.checked) (os := os) (X := fun w _ => laidMetH Tryd.prog tabs w) false (World.laidAll Tryd.prog os tabs) #[.agg #[.int .u8 0, .int .u8 0, .int .u8 0, .int .u8 0, .int .i64 0, .int .i64 0, .int .i64 0, .int .i64 0, .int .i64 0, .int .i64 0, .int .i64 0, .int .i64 0, .int .i64 0, .int .i64 0, .int .i64 0, .int .i64 0, .int .i64 0, .int .i64 0, .int .i64 0, .int .i64 0, .int .i64 0, .int .i64 0]] 8 (World.laidAll_os _ _ _)
      (tabs_shaped os) (by kernel_rfl) (by kernel_rfl) (by kernel_rfl) (tabs_met os _)) ?_
  intro W base args ds gs before hval hW _ _ hX _
  have hW' := hW
  obtain ⟨p, q, hA, _, _, _, _⟩ := hW
  obtain ⟨⟨d1, rfl⟩, hw⟩ := keysBack_walk hval (tab_of_laid hX) hA
  refine hw.mono ?_
  rintro e W' ⟨rfl, hB⟩
  exact ⟨_, rfl, law_post laidOut (tb := 4) (by kernel_rfl) (by kernel_rfl) (by kernel_rfl) rfl rfl hW' hB⟩

theorem keysBack_holds : Rows.KeysBackSaid :=
  OpenClaim.holds_of_wide 4 Tryd.f4 rfl rfl rfl rfl rfl rfl rfl ⟨rfl, rfl, rfl, rfl, rfl⟩ rfl rfl rfl rfl rfl (by kernel_rfl) Tryd.func4 (by kernel_rfl)
    (of_decide_eq_true (by kernel_rfl)) (by unfold Func.isWrapper; first | (rw [if_pos (by decide +kernel)]; kernel_rfl) | (rw [if_neg (by decide +kernel)]; exact ⟨rfl, rfl⟩))
    (fun os started H enc _ => keysBack_lifted os started H enc)

theorem keysBack_card : Rows.KeysBackCardSaid :=
  Claim7.holds_tied_plain_at .later [] [.data, .data, .data, .data, .pinned] true (true, "4ad3f8e8913a5981ceb1697f69d2bd6b64156a2c52b7a173782aa338160016bb") true keysBack_holds (fun _ h => by cases h) (by kernel_rfl) (fun _ h => by cases h) keysBack_row_tie rfl ⟨rfl, rfl⟩ (by kernel_rfl) rfl
    (fun f fn hf hfn => by
      obtain rfl : f = 4 := Option.some.inj ((show Tryd.prog.funcNamed "phosphor/phosphorlaw19.KeysBack" = some 4 by kernel_rfl).symm.trans hf) |>.symm
      obtain rfl : fn = Tryd.f4 := (Option.some.inj (Tryd.func4.symm.trans hfn)).symm
      exact ⟨by kernel_rfl, fun j t ht => by
        rw [params4] at ht
        have hm : t ∈ [23] := by simpa using Array.mem_of_getElem? ht
        have hall : ([23].all fun u => !Tryd.prog.wantsStandIn u) = true := by kernel_rfl
        exact (show Tryd.prog.wantsStandIn t = false by simpa using List.all_eq_true.1 hall t hm)⟩)
    (by kernel_rfl)
#print axioms keysBack_card
end Go.Proofs.YtpadlibcalomnaaDoor
