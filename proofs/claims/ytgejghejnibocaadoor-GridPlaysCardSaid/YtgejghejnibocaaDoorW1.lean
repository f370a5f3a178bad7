/- The laws of lines, walked: what each answers. -/
import Derived.Test.YtgejghejnibocaaDoorP1
namespace Go.Proofs.YtgejghejnibocaaDoor
open Go.Vc Go.RowKit

/-! ### known -/
def k1 : List Cell := [⟨0, 0, ⟨0, 0, 0⟩⟩, ⟨19968, 1, ⟨0, 0, 0⟩⟩, ⟨0, 2, ⟨0, 0, 0⟩⟩, ⟨0, 0, ⟨0, 0, 0⟩⟩]
def k2 : List Cell := [⟨0, 0, ⟨0, 0, 0⟩⟩, ⟨0, 0, ⟨0, 0, 0⟩⟩, ⟨120, 0, ⟨1, 0, 0⟩⟩, ⟨0, 0, ⟨0, 0, 0⟩⟩]
theorem k1_eq : putP (newL 4 ⟨0, 0, 0⟩) 1 19968 2 ⟨0, 0, 0⟩ = k1 := by kernel_rfl
theorem k2_eq : putP k1 2 120 1 ⟨1, 0, 0⟩ = k2 := by kernel_rfl
theorem k1_text : trimR (textB k1) = [32, 228, 184, 128] := by kernel_rfl
theorem k2_text : trimR (textB k2) = [32, 32, 120] := by kernel_rfl
theorem k2_right : rightB k2 = true := by kernel_rfl

theorem known_spec {w : World} {K : Bool → World → Prop} (hK : ∀ w', Below w.heap.size w w' → K true w') : c_phosphorlaw13_known w K := by
  refine call_phosphorlaw13_known ?_
  unfold sh_phosphorlaw13_known
  refine New_spec fun l w1 ho1 hB1 => ?_
  refine Put_spec ho1.rd (by decide) fun l2 w2 ho2 hB2 => ?_
  rw [k1_eq] at ho2
  have hB02 : Below w.heap.size w w2 := hB1.trans (hB2.mono hB1.size)
  refine Put_spec ho2.rd (by decide) fun l3 w3 ho3 hB3 => ?_
  rw [k2_eq] at ho3
  have hB03 : Below w.heap.size w w3 := hB02.trans (hB3.mono hB02.size)
  refine cond_t (by kernel_rfl) (cond_t (by kernel_rfl) ?_)
  refine Text_spec (ho2.rd.ext hB3) (by decide) fun w4 hB4 => ?_
  have hB04 : Below w.heap.size w w4 := hB03.trans (hB4.mono hB03.size)
  have e1 : (textS k1).toList = [32, 228, 184, 128] := by rw [textS, k1_text, strOf_toList]
  have e2 : (textS k2).toList = [32, 32, 120] := by rw [textS, k2_text, strOf_toList]
  have hr3 : Rd cellE w4 l3 k2 := ho3.rd.ext hB4
  refine cond_t (by rw [e1]; exact beq_iff_eq.2 (strOf_toList [32, 228, 184, 128]).symm) ?_
  refine Text_spec hr3 (by decide) fun w5 hB5 => ?_
  have hB05 : Below w.heap.size w w5 := hB04.trans (hB5.mono hB04.size)
  refine cond_t (by rw [e2]; exact beq_iff_eq.2 (strOf_toList [32, 32, 120]).symm) ?_
  refine cond_t (by rw [hr3.n]; rfl) ?_
  refine Right_spec (hr3.ext hB5) fun w6 hB6 => ?_
  rw [k2_right]
  refine cond_t rfl ?_
  refine ((hr3.ext hB5).ext hB6).ix rfl (by decide) (by decide) fun hc => ?_
  refine ldI_of (cell_kind hc) ?_
  exact hK w6 (hB05.trans (hB6.mono hB05.size))

/-! ### LineNew -/
theorem right_new (n : Int) (a : Attr) : rightB (newL n a) = true := by
  unfold newL
  split
  · rfl
  · have := right_pad (xs := []) rfl n.toNat a
    simpa using this

theorem LineNew_law {cols : Int} {a : Attr} {l : Slc} {xs : List Cell} {w : World} {K : Bool → World → Prop} (h : Rd cellE w l xs) (hK : ∀ w', Below w.heap.size w w' → K true w') : c_phosphorlaw13_LineNew cols a l w K := by
  refine call_phosphorlaw13_LineNew _ _ _ ?_
  unfold sh_phosphorlaw13_LineNew
  refine nw_blk fun w1 hb1 hB1 hs1 => ?_
  refine known_spec fun w2 hB2 => ?_
  have hB02 : Below w.heap.size w w2 := hB1.trans (hB2.mono hB1.size)
  refine cond_f rfl ?_
  rw [h.n]
  refine cond_of (fun _ => hK _ hB02) (fun hl => ?_)
  have hl := of_decide_eq_false hl
  have hb2 := hb1.ext hB2
  refine ldS_of (x := a) hb2.cells ?_
  refine New_spec fun n w3 hon hB3 => ?_
  have hB03 : Below w.heap.size w w3 := hB02.trans (hB3.mono hB02.size)
  refine Mend_spec (h.ext hB03) (by omega) fun m w4 hom hB4 => ?_
  have hB04 : Below w.heap.size w w4 := hB03.trans (hB4.mono hB03.size)
  refine joinP_of fun J hJ => ?_
  refine ldS_of (x := a) ((hb2.ext hB3).ext hB4).cells ?_
  refine rNew_spec fun q w5 hoq hB5 => ?_
  have hB05 : Below w.heap.size w w5 := hB04.trans (hB5.mono hB04.size)
  have hn5 : Rd cellE w5 n (newL cols a) := (hon.rd.ext hB4).ext hB5
  refine Same_spec hn5 hoq.rd fun b w6 hb hB6 hs6 => ?_
  rw [hb.2 rfl]
  refine cond_f rfl ?_
  have hB06 : Below w.heap.size w w6 := hB05.trans (hB6.mono hB05.size)
  refine Right_spec (hn5.ext hB6) fun w7 hB7 => ?_
  have hB07 : Below w.heap.size w w7 := hB06.trans (hB7.mono hB06.size)
  rw [right_new]
  refine cond_f rfl ?_
  refine Right_spec (h.ext hB07) fun w8 hB8 => ?_
  have hB08 : Below w.heap.size w w8 := hB07.trans (hB8.mono hB07.size)
  refine rRight_spec (h.ext hB08) ?_
  refine cond_f (by simp) ?_
  refine rMend_spec (h.ext hB08) (by omega) fun r w9 hor hB9 => ?_
  have hB09 : Below w.heap.size w w9 := hB08.trans (hB9.mono hB08.size)
  have hB48 : Below w4.heap.size w4 w9 := ((((hB5.trans (hB6.mono hB5.size)).trans (hB7.mono (by have := hB5.size; omega))).trans (hB8.mono (by have := hB5.size; have := hB7.size; omega)))).trans (hB9.mono (by have := hB5.size; have := hB7.size; have := hB8.size; omega))
  have hm9 : Rd cellE w9 m (mendL xs) := hom.rd.ext hB48
  refine Same_spec hm9 hor.rd fun b w10 hb hB10 hs10 => ?_
  rw [hb.2 rfl]
  refine cond_f rfl ?_
  have hB010 : Below w.heap.size w w10 := hB09.trans (hB10.mono hB09.size)
  refine Right_spec (hm9.ext hB10) fun w11 hB11 => ?_
  have hB011 : Below w.heap.size w w11 := hB010.trans (hB11.mono hB010.size)
  rw [right_mend]
  refine cond_f rfl ?_
  have hm11 := (hm9.ext hB10).ext hB11
  refine Mend_spec hm11 (by rw [mendL_length]; omega) fun s w12 hos hB12 => ?_
  have hB012 : Below w.heap.size w w12 := hB011.trans (hB12.mono hB011.size)
  rw [mend_mend] at hos
  have hm12 := hm11.ext hB12
  refine Same_spec hos.rd hm12 fun b w13 hb hB13 hs13 => ?_
  rw [hb.2 rfl]
  refine cond_f rfl (hJ _ _ ?_)
  have hB013 : Below w.heap.size w w13 := hB012.trans (hB13.mono hB012.size)
  refine Right_spec (h.ext hB013) fun w14 hB14 => ?_
  have hB014 : Below w.heap.size w w14 := hB013.trans (hB14.mono hB013.size)
  refine cond_of (fun _ => hK _ hB014) (fun hr => ?_)
  have hr : rightB xs = true := by simpa using hr
  have hm14 := (hm12.ext hB13).ext hB14
  refine Same_spec hm14 (h.ext hB014) fun b w15 hb hB15 hs15 => ?_
  rw [hb.2 (mend_id hr)]
  exact hK _ (hB014.trans (hB15.mono hB014.size))

end Go.Proofs.YtgejghejnibocaaDoor
