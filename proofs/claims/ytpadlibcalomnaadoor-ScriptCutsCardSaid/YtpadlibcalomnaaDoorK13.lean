/- The laws KeysBack and KeysLast. -/
import Derived.Test.YtpadlibcalomnaaDoorK12
set_option linter.unusedVariables false
namespace Go.Proofs.YtpadlibcalomnaaDoor
open Go.Vc Go.RowKit
set_option maxRecDepth 400000
section
variable {w : World}
theorem back_law {k : T_keys_Keys} (hT : Tab w) (hb : Bytes4 (toL k)) {K : Bool → World → Prop} (hK : ∀ w', Below w.heap.size w w' → K true w') : c_phosphorlaw19_KeysBack k w K := by
  refine call_phosphorlaw19_KeysBack _ ?_
  unfold sh_phosphorlaw19_KeysBack
  refine nw_blk fun w1 hb1 hB1 hs1 => ?_
  refine known_spec (hT.ext hB1) fun w2 hB2 => cond_f rfl ?_
  have hB12 : Below w.heap.size w w2 := hB1.trans (hB2.mono (by omega))
  have hb2 := hb1.ext hB2
  refine ldS_of (x := k) hb2.cells (Text_spec (hT.ext hB12) hb fun q w3 hq hB3 hqb => ?_)
  have s2 := hB12.size
  have hB13 := hB12.trans (hB3.mono s2)
  have hb3 := (hb2.ext hB3).drew
  have hB13d : Below w.heap.size w w3.drew := hB13.drew
  have hq3 := hq.drew
  have hqn := hq.n
  have s3 : w.heap.size ≤ w3.drew.heap.size := hB13d.size
  refine ldS_of (x := k) hb3.cells ?_
  have hend : ∀ {w5 : World}, Below w.heap.size w w5 → Blk w5 w.heap.size ty_keys_Keys (T_keys_Keys.rep.cells k) → Rd E_uint8 w5 q (textL (toL k)) →
      ldS T_keys_Keys.rep ⟨w.heap.size, 0, none⟩ w5 fun t15 =>
           c_phosphorref19_May t15 w5 fun t16 w6 =>
           cond (!t16)
             (K (((q.n : Nat) : Int) == (0 : Int)) w6)
             (c_keys_Parse q w6 fun t23 t23_1 w7 =>
              nw ty_keys_Keys [(.int .u8 0), (.int .u8 0), (.int .u8 0), (.int .u8 0), (.int .i64 0), (.int .i64 0), (.int .i64 0), (.int .i64 0), (.int .i64 0), (.int .i64 0), (.int .i64 0), (.int .i64 0), (.int .i64 0), (.int .i64 0), (.int .i64 0), (.int .i64 0), (.int .i64 0), (.int .i64 0), (.int .i64 0), (.int .i64 0), (.int .i64 0), (.int .i64 0)] w7 fun x w8 =>
              stK x (T_keys_Keys.rep.cells t23) w8 fun w9 =>
              cond (decide (((q.n : Nat) : Int) > (512 : Int)))
                (K (t23_1 == (5 : Int)) w9)
                (cond (t23_1 == (0 : Int))
                   (ldS T_keys_Keys.rep x w9 fun t34 =>
                    ldS T_keys_Keys.rep ⟨w.heap.size, 0, none⟩ w9 fun t35 =>
                    K ((t34.Action == t35.Action) && ((t34.Medium == t35.Medium) && ((t34.Zip == t35.Zip) && ((t34.What == t35.What) && ((t34.Quiet == t35.Quiet) && ((t34.Format == t35.Format) && ((t34.W == t35.W) && ((t34.H == t35.H) && ((t34.Id == t35.Id) && ((t34.Number == t35.Number) && ((t34.Place == t35.Place) && ((t34.More == t35.More) && ((t34.X == t35.X) && ((t34.Y == t35.Y) && ((t34.PW == t35.PW) && ((t34.PH == t35.PH) && ((t34.DX == t35.DX) && ((t34.DY == t35.DY) && ((t34.Rows == t35.Rows) && ((t34.Cols == t35.Cols) && ((t34.Z == t35.Z) && ((t34.Stay == t35.Stay) && true)))))))))))))))))))))) w9)
                   (K false w9))) := by
    intro w5 hB5 hb5 hq5
    refine ldS_of (x := k) hb5.cells (rMay_spec fun w6 hB6 => ?_)
    have hB6' := hB5.trans (hB6.mono hB5.size)
    have hb6 := hb5.ext hB6
    cases hm : mayL (toL k) with
    | false =>
      refine cond_t rfl ?_
      have hz : textL (toL k) = [] := by unfold textL; rw [if_neg (by rw [hm]; simp)]
      rw [hz] at hqn
      have : (((q.n : Nat) : Int) == (0 : Int)) = true := by rw [hqn]; rfl
      rw [this]
      exact hK w6 hB6'
    | true =>
      have htb := text_back (toL_len k) hm
      refine cond_f rfl (Parse_spec (hq5.ext hB6) fun w7 hB7 => ?_)
      have hb7 := hb6.ext hB7
      have hB7' := hB6'.trans (hB7.mono hB6'.size)
      refine box_of (t := ty_keys_Keys) (vs := T_keys_Keys.rep.cells (ofL (parseL (textL (toL k))).1)) rfl fun w9 hb9 hB9 hs9 => ?_
      have hB9' := hB7'.trans (hB9.mono hB7'.size)
      have hb79 := hb7.ext hB9
      rw [htb] at hb9 ⊢
      refine cond_of (fun h => ?_) fun h => ?_
      · have h : ((q.n : Nat) : Int) > 512 := of_decide_eq_true h
        rw [if_pos (by omega)]
        exact hK w9 hB9'
      · have h : ¬ ((q.n : Nat) : Int) > 512 := of_decide_eq_false h
        rw [if_neg (by omega)] at hb9 ⊢
        refine cond_t rfl (ldS_of (x := k) hb9.cells (ldS_of (x := k) hb79.cells ?_))
        rw [eqK_self]
        exact hK w9 hB9'
  refine ⟨toStr_spec hq3 ⟨hb3.cells, rText_spec fun w5 hB5 => cond_f (by simp) (hend (hB13d.trans (hB5.mono s3)) (hb3.ext hB5) (hq3.ext hB5))⟩, ?_⟩
  exact rText_spec fun w5 hB5 => toStr_spec (hq3.ext hB5) ⟨(hb3.ext hB5).cells, cond_f (by simp) (hend (hB13d.trans (hB5.mono s3)) (hb3.ext hB5) (hq3.ext hB5))⟩
/-! ### The last letter wins -/
def unusedB : List UInt8 := [98, 99, 101, 103, 106, 107, 108, 110, 117, 65, 66, 68, 69, 70, 71, 72, 74, 75, 76, 77, 78, 79, 80, 81, 82, 83, 84, 85, 86, 87, 90]
theorem one_unused {c : UInt8} (hc : c ∈ unusedB) (h99 : c ≠ 99) (L : List Int) (v : List UInt8) : oneL L (c :: 61 :: v) = some L := by
  have h : ∀ c ∈ unusedB, c ≠ 99 → isLetter c = true ∧ c ≠ 122 ∧ signIx c = none ∧ numIx c = none := by decide +kernel
  obtain ⟨h1, h2, h3, h4⟩ := h c hc h99
  unfold oneL
  dsimp only
  rw [if_neg (by rw [h1]; simp), if_neg h2, h3, h4]
theorem last_eq {c : UInt8} (hc : c ∈ unusedB) (h99 : c ≠ 99) (t a v : List UInt8) (ht : t ≠ []) (hv : ∀ b ∈ v, b ≠ 44) (hl : t.length + a.length + v.length ≤ 508) :
    parseL (t ++ [44, c, 61] ++ v ++ [44] ++ a) = parseL (t ++ [44] ++ a) := by
  have h : ∀ c ∈ unusedB, c ≠ 44 := by decide +kernel
  have e1 : splitC (t ++ [44] ++ a) = splitC t ++ splitC a := by
    have := splitC_cat t a
    simpa using this
  have e2 : splitC (t ++ [44, c, 61] ++ v ++ [44] ++ a) = splitC t ++ (c :: 61 :: v) :: splitC a := by
    have e : t ++ [44, c, 61] ++ v ++ [44] ++ a = t ++ 44 :: ((c :: 61 :: v) ++ 44 :: a) := by simp
    rw [e, splitC_cat, splitC_app]
    intro b hb
    rcases List.mem_cons.1 hb with rfl | hb
    · exact h _ hc
    · rcases List.mem_cons.1 hb with rfl | hb
      · decide
      · exact hv b hb
  unfold parseL
  rw [if_neg (by simp; omega), if_neg (by simp), if_neg (by simp; omega), if_neg (by simp), e1, e2]
  have : (splitC t ++ (c :: 61 :: v) :: splitC a).foldlM oneL firstL = (splitC t ++ splitC a).foldlM oneL firstL := by
    rw [List.foldlM_append, List.foldlM_append]
    cases (splitC t).foldlM oneL firstL with
    | none => rfl
    | some M =>
      show ((c :: 61 :: v) :: splitC a).foldlM oneL M = (splitC a).foldlM oneL M
      rw [List.foldlM_cons, one_unused hc h99]
      rfl
  rw [this]
section
variable {w0 : World} {s x : Slc} {xs ys : List UInt8} {K : Slc → World → Prop}
theorem ap_own (hB : Below w0.heap.size w0 w) (hown : Own E_uint8 w w0.heap.size s xs) (hx : Rd E_uint8 w x ys) (hl : xs.length + ys.length ≤ 2000)
    (hK : ∀ r w', Own E_uint8 w' w0.heap.size r (xs ++ ys) → Below w0.heap.size w0 w' → K r w') : apK PG #[ty_sl_uint8, ty_sl_uint8] ty_sl_uint8 s x w K := by
  refine apK_own sT_sl_uint8 hown hx hB.size (by rw [by_sl_uint8]; omega) (by unfold maxLen; omega) fun r w' ho hg hr => hK r w' ho ?_
  exact hB.grown hg hB.size fun k hk => (hown.lt k hk).1
theorem lit_ap (hB : Below w0.heap.size w0 w) (hown : Own E_uint8 w w0.heap.size s xs) {vs : List Value} {n : Nat} (hy : flat E_uint8 ys = vs) (hn : n = ys.length) (hl : xs.length + ys.length ≤ 2000)
    (hK : ∀ r w', Own E_uint8 w' w0.heap.size r (xs ++ ys) → Below w0.heap.size w0 w' → K r w') : nw ty_uint8 vs w fun a w1 => apK PG #[ty_sl_uint8, ty_sl_uint8] ty_sl_uint8 s ⟨some a, n, n⟩ w1 K := by
  subst hn
  refine nw_blk fun w1 hb1 hB1 hs1 => ?_
  exact ap_own (hB.trans (hB1.mono hB.size)) (hown.ext hB1) (own_lits (E := E_uint8) (base := 0) (Nat.zero_le _) hb1 (by unfold maxLen; omega) hy).rd hl hK
theorem new_ap (hB : Below w0.heap.size w0 w) (hx : Rd E_uint8 w x ys) (hl : ys.length ≤ 2000)
    (hK : ∀ r w', Own E_uint8 w' w0.heap.size r ys → Below w0.heap.size w0 w' → K r w') : nw ty_uint8 [] w fun a w1 => apK PG #[ty_sl_uint8, ty_sl_uint8] ty_sl_uint8 ⟨some a, 0, 0⟩ x w1 K := by
  refine nw_blk fun w1 hb1 hB1 hs1 => ?_
  refine ap_own (xs := []) (hB.trans (hB1.mono hB.size)) (own_empty hb1 hB.size) (hx.ext hB1) (by simpa using hl) hK
end
end
end Go.Proofs.YtpadlibcalomnaaDoor
