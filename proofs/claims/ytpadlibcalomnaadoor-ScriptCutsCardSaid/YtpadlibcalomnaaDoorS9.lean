/- known(); the law ScriptQuotes. -/
import Derived.Test.YtpadlibcalomnaaDoorS8
set_option linter.unusedVariables false
namespace Go.Proofs.YtpadlibcalomnaaDoor
open Go.Vc Go.RowKit
set_option maxRecDepth 400000
section
variable {w : World}
theorem ParseK_spec (hT : Tab w) {K : Slc → Int → Int → World → Prop} (hK : ∀ q s w', Go.Vc.Own E_script_Item w' w.heap.size s (itemsK q 4) → Go.Vc.Own E_uint8 w' w.heap.size q [97, 27] → Below w.heap.size w w' → K s 0 0 w') : c_script_Parse (strB textK) w K := by
  refine Calls.mono (callsIn_wide.1 (Parse_in hT)) ?_
  rintro e w' ⟨q, s, rfl, h1, h2, h3⟩
  exact ⟨_, _, _, rfl, hK q s w' h1 h2 h3⟩
theorem known26_spec (hT : Tab w) {K : Bool → World → Prop} (hK : ∀ w', Below w.heap.size w w' → K true w') : c_phosphorlaw26_known w K := by
  refine call_phosphorlaw26_known ?_
  unfold sh_phosphorlaw26_known
  refine ParseK_spec hT fun q s w1 hs hq hB1 => ?_
  have hn := hs.rd.n
  have hi : itemsK q 4 = [⟨q, false, 0, 0⟩, ⟨⟨none, 0, 0⟩, true, 3, -4⟩] := rfl
  rw [hi] at hs hn
  refine cond_t rfl (cond_t rfl (cond_t (by rw [hn]; rfl) ?_))
  refine hs.rd.ix (i := 0) (k := 4) rfl (by omega) (by simp) fun hcell => ?_
  have hc0 := hs.rd.at_ 0 _ rfl
  have hc1 := hs.rd.at_ 1 _ rfl
  refine ldSl_of (x := q) (hc0 0 _ rfl) (toStr_spec hq.rd (cond_t (by rw [show (⟨#[97, 27]⟩ : ByteArray) = strB [97, 27] from rfl, strB_toList]; rfl) ?_))
  refine hs.rd.ix (i := 1) (k := 4) rfl (by omega) (by simp) fun hcell1 => ?_
  refine ldI_of (x := -4) (hc1 3 _ rfl) (cond_t rfl ?_)
  refine Quote_spec (Rd.nil _ _) (by simp) fun w3 hB3 => ?_
  have : ((strB (quoteL [])).toList == (⟨#[37]⟩ : ByteArray).toList) = true := by rw [show (⟨#[37]⟩ : ByteArray) = strB [37] from rfl, strB_toList, strB_toList]; rfl
  rw [this]
  exact hK w3 (hB1.trans (hB3.mono hB1.size))
theorem quote_len (l : List UInt8) : (quoteL l).length ≤ 3 * l.length + 1 := by
  unfold quoteL
  split
  · simp
  · have := q1_flat l
    omega
theorem quotes_law (hT : Tab w) {b : Slc} {bs : List UInt8} (hb : Rd E_uint8 w b bs) (sb : ByteArray) {K : Bool → World → Prop} (hK : ∀ w', Below w.heap.size w w' → K true w') : c_phosphorlaw26_ScriptQuotes b sb w K := by
  refine call_phosphorlaw26_ScriptQuotes _ _ ?_
  unfold sh_phosphorlaw26_ScriptQuotes
  rw [← strB_eta sb]
  generalize sb.data.toList = s
  refine known26_spec hT fun w1 hB1 => cond_f rfl (joinP_of fun J1 hJ1 => ?_)
  have hn := hb.n
  refine cond_of (fun _ => hK w1 hB1) fun h1 => cond_of (fun _ => hK w1 hB1) fun h2 => hJ1 _ _ ?_
  have h1 : ¬ ((b.n : Nat) : Int) > 4096 := of_decide_eq_false h1
  have h2 : ¬ ((strB s).size : Int) > 4096 := of_decide_eq_false h2
  rw [strB_size] at h2
  have hb1 := hb.ext hB1
  refine Quote_spec hb1 (by omega) fun w3 hB3 => ?_
  have hB13 := hB1.trans (hB3.mono hB1.size)
  have hql := quote_len bs
  refine Unquote_spec (quoteL bs) (by omega) fun x w4 hx hB4 => ?_
  rw [quote_back] at hx ⊢
  have hB14 := hB13.trans (hB4.mono hB13.size)
  refine Unquote_spec s (by omega) fun y w5 hy hB5 => ?_
  have hB15 := hB14.trans (hB5.mono hB14.size)
  refine rUnquote_spec s (by omega) fun z w6 hz hB6 => ?_
  have hB16 := hB15.trans (hB6.mono hB15.size)
  refine rQuote_spec (hb.ext hB16) (by omega) fun w7 hB7 => ?_
  have hB17 := hB16.trans (hB7.mono hB16.size)
  rw [← unq_same] at hz ⊢
  have hx7 := ((hx.ext hB5).ext hB6).ext hB7
  have hy7 := (hy.ext hB6).ext hB7
  refine cond_t (by simp) (cond_t rfl (toStr_spec hx7.rd (toStr_spec (hb.ext hB17) (cond_t (by simp) (toStr_spec hy7.rd (toStr_spec (hz.ext hB7) (cond_t (by simp) ?_)))))))
  have : ((unqL s).2 == (unqL s).2) = true := by simp
  rw [this]
  exact hK w7 hB17
end
end Go.Proofs.YtpadlibcalomnaaDoor
