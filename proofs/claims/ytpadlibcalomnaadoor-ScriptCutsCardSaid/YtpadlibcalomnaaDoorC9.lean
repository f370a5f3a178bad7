/- The law ScriptCuts. -/
import Derived.Test.YtpadlibcalomnaaDoorC8
set_option linter.unusedVariables false
namespace Go.Proofs.YtpadlibcalomnaaDoor
open Go.Vc Go.RowKit
set_option maxRecDepth 400000
theorem sumF_bits (ps : List (List UInt8)) : sumF (ps.map bitOf) = ps.flatten.length := by
  induction ps with
  | nil => rfl
  | cons p ps ih =>
    rw [List.flatten_cons, List.length_append, ← ih]
    simp [sumF, bitOf]
theorem sum_cut (zs : List Int) : ∀ (l : List ItL) (st : List ItL × Nat), (someB zs = true → st.2 < zs.length) → sumF (l.foldl (cutS zs) st).1 = sumF st.1 + sumF l
  | [], st, _ => by simp [sumF]
  | x :: l, st, hst => by
    rw [List.foldl_cons, sum_cut zs l _ (cutS_len zs st x hst).2]
    have h1 : sumF (x :: l) = x.f.length + sumF l := by simp [sumF]
    have happ : ∀ (a b : List ItL), sumF (a ++ b) = sumF a + sumF b := fun a b => by simp [sumF]
    have : sumF (cutS zs st x).1 = sumF st.1 + x.f.length := by
      unfold cutS
      split
      · rw [happ]; simp [sumF]
      · rename_i hx
        simp only [Bool.or_eq_true, not_or, Bool.not_eq_true, Bool.not_eq_true', decide_eq_true_eq] at hx
        obtain ⟨⟨hz, hs⟩, hf⟩ := hx
        have hs : someB zs = true := by simpa using hs
        have h2 := (cutF_all zs _ st.2 x.f hs (hst hs) (Nat.le_refl _)).1
        have h2 : (cutA zs st.2 x.f).1.flatten = x.f := h2
        rw [happ, sumF_bits, h2]
    omega
section
variable {w : World}
theorem cuts_law (hT : Tab w) {sizes l : Slc} {zs : List Int} {xs : List T_script_Item} {L : List ItL} (hs : Rd E_int w sizes zs) (hl : Rd E_script_Item w l xs) (hx : Ats w xs L) {K : Bool → World → Prop} (hK : ∀ w', Below w.heap.size w w' → K true w') : c_phosphorlaw26_ScriptCuts sizes l w K := by
  refine call_phosphorlaw26_ScriptCuts _ _ ?_
  unfold sh_phosphorlaw26_ScriptCuts
  refine known26_spec hT fun w1 hB1 => cond_f rfl (joinP_of fun J1 hJ1 => ?_)
  refine few_spec (hl.ext hB1) (hx.ext hB1) fun b hb => ?_
  cases hbb : b with
  | false => exact cond_t rfl (hK w1 hB1)
  | true =>
  have hL := hb hbb
  refine cond_f rfl (cond_of (fun _ => hK w1 hB1) fun hz => hJ1 _ _ ?_)
  have hz := of_decide_eq_false hz
  have hzn := hs.n
  have hz100 : zs.length ≤ 100 := by omega
  have hlen := hl.n
  have hxl := hx.len
  have hcl := (cut_len zs L ([], 0) fun h => someB_pos h).1
  have h5 : (zs.length + 1) * sumF L ≤ 101 * 4096 := Nat.mul_le_mul (by omega) (by omega)
  have h6 : (zs.length + 1) * L.length ≤ 101 * 4096 := Nat.mul_le_mul (by omega) (by omega)
  have hcs := sum_cut zs L ([], 0) fun h => someB_pos h
  have hj := join_len L []
  have h0 : sumF ([] : List ItL) = 0 := rfl
  have h00 : ([] : List ItL).length = 0 := rfl
  have hcutl : (cutItems zs L).length ≤ 1000000 ∧ sumF (cutItems zs L) ≤ 1000000 := by
    have hcl' : (cutItems zs L).length ≤ 0 + ((zs.length + 1) * sumF L + (zs.length + 1) * L.length) := hcl
    have hcs' : sumF (cutItems zs L) = 0 + sumF L := hcs
    omega
  have hjl : (joinItems L).length ≤ 10000000 := by unfold joinItems; omega
  -- the program's
  refine sJoin_spec (hl.ext hB1) (hx.ext hB1) (by omega) fun a ya w3 ha hya hB3 => ?_
  have hB13 := hB1.trans (hB3.mono hB1.size)
  refine sCut_spec (hs.ext hB13) hz100 (hl.ext hB13) (hx.ext hB13) hL fun b2 yb w4 hb2 hyb hB4 => ?_
  have hB14 := hB13.trans (hB4.mono hB13.size)
  refine sJoin_spec hb2 hyb hcutl fun c yc w5 hc hyc hB5 => ?_
  have hB15 := hB14.trans (hB5.mono hB14.size)
  rw [join_cut_items] at hyc
  -- the document's
  refine of_spec (hl.ext hB15) (by omega) fun o1 w6 ho1 hB6 => ?_
  have hB16 := hB15.trans (hB6.mono hB15.size)
  refine rJoin_spec ho1 (hx.ext hB16) (by omega) fun d yd w7 hd hyd hB7 => ?_
  have hB17 := hB16.trans (hB7.mono hB16.size)
  have ha7 := (((ha.ext hB4).ext hB5).ext hB6).ext hB7
  have hya7 := (((hya.ext hB4).ext hB5).ext hB6).ext hB7
  refine same_spec ha7 hd hya7 hyd hjl fun w8 hB8 => cond_t rfl ?_
  have hB18 := hB17.trans (hB8.mono hB17.size)
  refine of_spec (hl.ext hB18) (by omega) fun o2 w9 ho2 hB9 => ?_
  have hB19 := hB18.trans (hB9.mono hB18.size)
  refine rCut_spec (hs.ext hB19) hz100 ho2 (hx.ext hB19) hL fun e ye w10 he hye hB10 => ?_
  have hB110 := hB19.trans (hB10.mono hB19.size)
  have hb10 := (((((hb2.ext hB5).ext hB6).ext hB7).ext hB8).ext hB9).ext hB10
  have hyb10 := (((((hyb.ext hB5).ext hB6).ext hB7).ext hB8).ext hB9).ext hB10
  refine same_spec hb10 he hyb10 hye (by omega) fun w11 hB11 => cond_t rfl ?_
  have hB111 := hB110.trans (hB11.mono hB110.size)
  refine of_spec (hl.ext hB111) (by omega) fun o3 w12 ho3 hB12 => ?_
  have hB112 := hB111.trans (hB12.mono hB111.size)
  refine rJoin_spec ho3 (hx.ext hB112) (by omega) fun g yg w13 hg hyg hB13' => ?_
  have hB113 := hB112.trans (hB13'.mono hB112.size)
  have hc13 := (((((((hc.ext hB6).ext hB7).ext hB8).ext hB9).ext hB10).ext hB11).ext hB12).ext hB13'
  have hyc13 := (((((((hyc.ext hB6).ext hB7).ext hB8).ext hB9).ext hB10).ext hB11).ext hB12).ext hB13'
  refine same_spec hc13 hg hyc13 hyg hjl fun w14 hB14' => ?_
  exact hK w14 (hB113.trans (hB14'.mono hB113.size))
end
end Go.Proofs.YtpadlibcalomnaaDoor
