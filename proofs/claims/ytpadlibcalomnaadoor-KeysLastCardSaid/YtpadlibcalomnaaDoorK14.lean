/- The law KeysLast. -/
import Derived.Test.YtpadlibcalomnaaDoorK13
set_option linter.unusedVariables false
namespace Go.Proofs.YtpadlibcalomnaaDoor
open Go.Vc Go.RowKit
set_option maxRecDepth 400000
section
variable {w : World}
theorem unused_at (n : Nat) : ∃ c, unusedB[n % 31]? = some c ∧ c ∈ unusedB := by
  have h : n % 31 < unusedB.length := Nat.mod_lt _ (by decide)
  exact ⟨unusedB[n % 31], List.getElem?_eq_getElem h, List.getElem_mem h⟩
theorem text_le (L : List Int) : (textL L).length ≤ 506 := by
  unfold textL
  split
  · rename_i hm
    by_cases h : itemsL L = []
    · rw [h]; simp [joinC_nil]
    · have := cat_items hm (Nat.le_refl 22)
      rw [show (List.range 22).flatMap (itemI L) = itemsL L from rfl, cat44_join _ h, List.length_cons] at this
      omega
  · simp
theorem last_law {k again : T_keys_Keys} (hT : Tab w) (hbk : Bytes4 (toL k)) (hba : Bytes4 (toL again)) {other : Int} (ho : 0 ≤ other ∧ other < 256) {value : Slc} {vs : List UInt8} (hv : Rd E_uint8 w value vs) {K : Bool → World → Prop} (hK : ∀ w', Below w.heap.size w w' → K true w') : c_phosphorlaw19_KeysLast k again other value w K := by
  refine call_phosphorlaw19_KeysLast _ _ _ _ ?_
  unfold sh_phosphorlaw19_KeysLast
  refine nw_blk fun w1 hb1 hB1 hs1 => nw_blk fun w2 hb2 hB2 hs2 => ?_
  have hB12 : Below w.heap.size w w2 := hB1.trans (hB2.mono (by omega))
  refine known_spec (hT.ext hB12) fun w3 hB3 => cond_f rfl ?_
  have hB13 := hB12.trans (hB3.mono hB12.size)
  refine ldS_of (x := k) ((hb1.ext hB2).ext hB3).cells (Text_spec (hT.ext hB13) hbk fun q1 w4 hq1 hB4 hqb1 => ?_)
  have hB14 := hB13.trans (hB4.mono hB13.size)
  refine ldS_of (x := again) ((hb2.ext hB3).ext hB4).cells (Text_spec (hT.ext hB14) hba fun q2 w5 hq2 hB5 hqb2 => ?_)
  have hB15 := hB14.trans (hB5.mono hB14.size)
  have hq1 := hq1.ext hB5
  have hv5 := hv.ext hB15
  have l1 := text_le (toL k)
  have l2 := text_le (toL again)
  generalize textL (toL k) = t at hq1 l1
  generalize textL (toL again) = a at hq2 l2
  have n1 := hq1.n
  have n2 := hq2.n
  have nv := hv5.n
  have m1 := hq1.nc
  have m2 := hq2.nc
  have mv := hv5.nc
  have c1 := hq1.cm
  have c2 := hq2.cm
  have cv := hv5.cm
  unfold maxLen at c1 c2 cv
  refine joinP_of fun J1 hJ1 => ?_
  refine cond_of (fun _ => hK w5 hB15) fun h1 => cond_of (fun _ => hK w5 hB15) fun h2 => cond_of (fun _ => hK w5 hB15) fun h3 => cond_of (fun _ => hK w5 hB15) fun h4 => hJ1 _ _ ?_
  have h1 : ¬ ((q1.n : Nat) : Int) = 0 := by simpa using h1
  have h3 : ¬ ((value.n : Nat) : Int) > 50 := of_decide_eq_false h3
  have h4 := of_decide_eq_false h4
  have h3' : vs.length ≤ 50 := by omega
  rw [i64_in (x := ((q1.n : Nat) : Int) + ((q2.n : Nat) : Int)) (by omega), i64_in (by omega)] at h4
  have hlen : t.length + a.length + vs.length ≤ 508 := by omega
  have hl50 : vs.length ≤ 50 := by omega
  have ht : t ≠ [] := fun e => by rw [e] at n1; exact h1 (by rw [n1]; rfl)
  refine loopP_rule (fun (s : Slc × Int × Unit) w7 => ∃ i : Nat, s.2.1 = i ∧ i ≤ vs.length ∧ Below w5.heap.size w5 w7 ∧ Own E_uint8 w7 w5.heap.size s.1 ((vs.take i).filter fun b => b ≠ 44)) (fun s => vs.length - s.2.1.toNat)
    ⟨0, rfl, by omega, Below.refl _ _, Own.nil _ _ _⟩ ?_
  rintro ⟨q, i, u⟩ w7 ⟨m, hi, hm, hB7, ho7⟩ I hI
  dsimp only at hi ho7 ⊢
  subst hi
  have hv7 := hv5.ext hB7
  have hw : IntKind.i64.wrap ((m : Int) + (1 : Int)) = ((m + 1 : Nat) : Int) := by rw [i64_in (by omega)]; simp
  by_cases hlt : m < vs.length
  · refine cond_t (by simp; omega) ?_
    rw [hw]
    obtain ⟨x, hx, hx'⟩ := get_of (xs := vs) (k := m) hlt
    have hget : ∀ {J : Int → Prop}, J x.toNat → ixK value (m : Int) 1 fun a => ldI .u8 a w7 J := fun hJ => by
      refine hv7.ix (k := 1) rfl (by omega) (by omega) fun hcell => ?_
      rw [hx' _] at hcell
      exact ldI_of (x := (x.toNat : Int)) (by simpa using hcell 0 _ rfl) hJ
    have hts : vs.take (m + 1) = vs.take m ++ [x] := by
      rw [List.take_succ_eq_append_getElem hlt]
      rw [List.getElem?_eq_getElem hlt] at hx
      rw [Option.some.inj hx]
    refine hget (cond_of (fun h44 => ?_) fun h44 => ?_)
    · have h44 : ¬ (x.toNat : Int) = 44 := by simpa using h44
      have hx44 : x ≠ 44 := fun e => by rw [e] at h44; exact h44 rfl
      refine hget ?_
      have hle := List.length_filter_le (fun b : UInt8 => decide (b ≠ 44)) (vs.take m)
      rw [List.length_take] at hle
      refine lit_ap (ys := [x]) hB7 ho7 rfl rfl (by simp only [List.length_cons, List.length_nil]; omega) fun r w8 hr hB8 => ?_
      refine hI _ _ ⟨m + 1, rfl, by omega, hB8, ?_⟩ (by simp; omega)
      rw [hts, List.filter_append, List.filter_cons_of_pos (by simpa using hx44), List.filter_nil]
      exact hr
    · have h44 : (x.toNat : Int) = 44 := by simpa using h44
      have hx44 : x = 44 := UInt8.toNat_inj.1 (by rw [show (44 : UInt8).toNat = 44 from rfl]; omega)
      refine hI _ _ ⟨m + 1, rfl, by omega, hB7, ?_⟩ (by simp; omega)
      rw [hts, List.filter_append, List.filter_cons_of_neg (by simp [hx44]), List.filter_nil, List.append_nil]
      exact ho7
  · refine cond_f (by simp; omega) ⟨by decide, ?_⟩
    obtain rfl : m = vs.length := by omega
    rw [List.take_length] at ho7
    obtain ⟨v, hv'⟩ : ∃ v, vs.filter (fun b => b ≠ 44) = v := ⟨_, rfl⟩
    have hvl : v.length ≤ vs.length := by rw [← hv']; exact List.length_filter_le _ _
    have hv44 : ∀ b ∈ v, b ≠ 44 := fun b hb => by
      rw [← hv'] at hb
      simpa using (List.mem_filter.1 hb).2
    rw [hv'] at ho7
    have hr7 := ho7.rd
    have hq17 := hq1.ext hB7
    have hq27 := hq2.ext hB7
    have hB17 : Below w.heap.size w w7 := hB15.trans (hB7.mono hB15.size)
    obtain ⟨n, hn⟩ : ∃ n : Nat, other = n := ⟨other.toNat, by omega⟩
    obtain ⟨c, hc, hcm⟩ := unused_at n
    have hix : (IntKind.i64.wrap other).tmod (((⟨#[98, 99, 101, 103, 106, 107, 108, 110, 117, 65, 66, 68, 69, 70, 71, 72, 74, 75, 76, 77, 78, 79, 80, 81, 82, 83, 84, 85, 86, 87, 90]⟩ : ByteArray).size : Int)) = ((n % 31 : Nat) : Int) := by
      rw [i64_in (by omega), hn]
      show (n : Int).tmod 31 = _
      rw [Int.ofNat_tmod]
      rfl
    rw [hix]
    refine ixS_of (bs := unusedB) rfl hc ?_
    refine joinP_of fun J3 hJ3 => ?_
    have hmain : ∀ c' : UInt8, c' ∈ unusedB → c' ≠ 99 → J3 ((c'.toNat : Int), ()) w7 := by
      intro c' hc' h99
      refine hJ3 _ _ ?_
      dsimp only
      have hE := last_eq hc' h99 t a v ht hv44 (by omega)
      -- the first text
      refine new_ap (w0 := w7) (Below.refl _ _) hq17 (by omega) fun r1 w12 hr1 hB12' => ?_
      refine lit_ap (ys := [44]) hB12' hr1 rfl rfl (by simp only [List.length_cons, List.length_nil]; omega) fun r2 w14 hr2 hB14' => ?_
      refine ap_own hB14' hr2 (hq27.ext hB14') (by simp only [List.length_append, List.length_cons, List.length_nil]; omega) fun r3 w15 hr3 hB15' => ?_
      refine Parse_spec hr3.rd fun w16 hB16 => ?_
      have hB16' := hB15'.trans (hB16.mono hB15'.size)
      refine box_of (t := ty_keys_Keys) (vs := T_keys_Keys.rep.cells (ofL (parseL (t ++ [44] ++ a)).1)) rfl fun w18 hx18 hB18 hs18 => ?_
      have hB18' := hB16'.trans (hB18.mono hB16'.size)
      have hq1x := hq17.ext hB18'
      have hq2x := hq27.ext hB18'
      have hrx := hr7.ext hB18'
      -- the second
      refine new_ap (w0 := w18) (Below.refl _ _) hq1x (by omega) fun r4 w20 hr4 hB20 => ?_
      refine lit_ap (ys := [44, c', 61]) hB20 hr4 rfl rfl (by simp only [List.length_cons, List.length_nil]; omega) fun r5 w22 hr5 hB22 => ?_
      refine ap_own hB22 hr5 (hrx.ext hB22) (by simp only [List.length_append, List.length_cons, List.length_nil]; omega) fun r6 w23 hr6 hB23 => ?_
      refine lit_ap (ys := [44]) hB23 hr6 rfl rfl (by simp only [List.length_append, List.length_cons, List.length_nil]; omega) fun r7 w25 hr7' hB25 => ?_
      refine ap_own hB25 hr7' (hq2x.ext hB25) (by simp only [List.length_append, List.length_cons, List.length_nil]; omega) fun r8 w26 hr8 hB26 => ?_
      refine Parse_spec hr8.rd fun w27 hB27 => ?_
      rw [hE]
      have hB27' := hB26.trans (hB27.mono hB26.size)
      refine box_of (t := ty_keys_Keys) (vs := T_keys_Keys.rep.cells (ofL (parseL (t ++ [44] ++ a)).1)) rfl fun w29 hx29 hB29 hs29 => ?_
      have hB29' := hB27'.trans (hB29.mono hB27'.size)
      -- the document's
      refine toStr_spec (hq1x.ext hB29') ⟨?_, toStr_spec (hq2x.ext hB29') ⟨?_, ?_⟩⟩
      · rw [strB_size, show (⟨#[44]⟩ : ByteArray) = strB [44] from rfl, strB_size]; simp only [List.length_cons, List.length_nil]; omega
      · rw [show (⟨#[44]⟩ : ByteArray) = strB [44] from rfl, strB_app, strB_size, strB_size]; simp only [List.length_append, List.length_cons, List.length_nil]; omega
      rw [show (⟨#[44]⟩ : ByteArray) = strB [44] from rfl, strB_app, strB_app]
      refine toBytes_spec (by simp only [List.length_append, List.length_cons, List.length_nil]; omega) fun r9 w32 hr9 _ hB32 _ => rParse_spec hr9 fun w33 hB33 => ?_
      have hB33' := hB29'.trans ((hB32.trans (hB33.mono hB32.size)).mono hB29'.size)
      refine box_of (t := ty_phosphorref19_Keys) (vs := T_keys_Keys.rep.cells (ofL (parseL (t ++ [44] ++ a)).1)) rfl fun w35 hz35 hB35 hs35 => ?_
      have hB35' := hB33'.trans (hB35.mono hB33'.size)
      have hx35 := hx18.ext hB35'
      have hy35 : Blk w35 w27.heap.size ty_keys_Keys (T_keys_Keys.rep.cells (ofL (parseL (t ++ [44] ++ a)).1)) := (hx29.ext (hB32.trans (hB33.mono hB32.size))).ext hB35
      refine cond_t (by simp) (cond_t (by simp) (ldS_of hx35.cells (ldS_of hy35.cells (cond_t (eqK_self _) (ldS_of hx35.cells (ldS_of hz35.cells ?_))))))
      rw [eqK_self]
      exact hK w35 (hB17.trans ((hB18'.trans (hB35'.mono hB18'.size)).mono hB17.size))
    refine cond_of (fun h => hmain 98 (by decide) (by decide)) fun h => hmain c hcm fun e => ?_
    rw [e] at h
    exact absurd h (by decide)
end
end Go.Proofs.YtpadlibcalomnaaDoor
