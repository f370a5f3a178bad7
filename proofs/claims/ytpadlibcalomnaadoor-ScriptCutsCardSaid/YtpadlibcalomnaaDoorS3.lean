/- Texts read as bytes: the program's Unquote. -/
import Derived.Test.YtpadlibcalomnaaDoorS2
set_option linter.unusedVariables false
namespace Go.Proofs.YtpadlibcalomnaaDoor
open Go.Vc Go.RowKit
set_option maxRecDepth 400000
theorem decF_fuel : ∀ (n : Nat) (s : List UInt8), s.length ≤ n → decF n s = decF s.length s
  | 0, s, h => by
    have : s = [] := List.eq_nil_of_length_eq_zero (by omega)
    subst this
    rfl
  | n + 1, [], h => rfl
  | n + 1, c :: r, h => by
    have h' : r.length ≤ n := by simpa using h
    rw [List.length_cons]
    by_cases hc : c = 37
    · subst hc
      by_cases hr : r.length < 2
      · rw [decF_sh _ _ _ hr, decF_sh _ _ _ hr, decF_fuel n r h']
      · rcases r with _ | ⟨a, _ | ⟨b, r⟩⟩
        · simp at hr
        · simp at hr
        · simp only [List.length_cons] at h' ⊢
          rw [decF_esc, decF_esc, decF_fuel n r (by omega)]
          rw [decF_fuel (r.length + 1 + 1) r (by omega)]
    · rw [decF_ne _ _ hc, decF_ne _ _ hc, decF_fuel n r h']
termination_by n => n
def D (s : List UInt8) : List UInt8 := decF s.length s
theorem D_ne {c : UInt8} (r : List UInt8) (h : c ≠ 37) : D (c :: r) = c :: D r := decF_ne _ _ h
theorem D_sh (c : UInt8) (r : List UInt8) (h : r.length < 2) : D (c :: r) = c :: D r := decF_sh _ _ _ h
theorem D_esc (a b : UInt8) (r : List UInt8) : D (37 :: a :: b :: r) = mk a b :: D r := by
  show decF ((r.length + 1 + 1) + 1) _ = _
  rw [decF_esc, decF_fuel _ _ (by omega)]
  rfl
theorem refF_fuel : ∀ (n : Nat) (s : List UInt8), s.length ≤ n → refF n s = refF s.length s
  | 0, s, h => by
    have : s = [] := List.eq_nil_of_length_eq_zero (by omega)
    subst this
    rfl
  | n + 1, [], h => rfl
  | n + 1, c :: r, h => by
    have h' : r.length ≤ n := by simpa using h
    rw [List.length_cons]
    by_cases hc : c = 37
    · subst hc
      by_cases hr : r.length < 2
      · rw [refF_sh _ _ hr, refF_sh _ _ hr]
      · rcases r with _ | ⟨a, _ | ⟨b, r⟩⟩
        · simp at hr
        · simp at hr
        · simp only [List.length_cons] at h' ⊢
          rw [refF_esc, refF_esc, refF_fuel n r (by omega)]
          rw [refF_fuel (r.length + 1 + 1) r (by omega)]
    · rw [refF_ne _ _ hc, refF_ne _ _ hc, refF_fuel n r h']
termination_by n => n
def R (s : List UInt8) : Option (List UInt8) := refF s.length s
theorem R_ne {c : UInt8} (r : List UInt8) (h : c ≠ 37) : R (c :: r) = (R r).map (c :: ·) := refF_ne _ _ h
theorem R_sh (r : List UInt8) (h : r.length < 2) : R (37 :: r) = none := refF_sh _ _ h
theorem R_esc (a b : UInt8) (r : List UInt8) : R (37 :: a :: b :: r) = if hexV a < 0 ∨ hexV b < 0 then none else (R r).map (mk a b :: ·) := by
  show refF ((r.length + 1 + 1) + 1) _ = _
  rw [refF_esc, refF_fuel _ _ (by omega)]
  rfl
theorem hexV_facts : ∀ c : UInt8, -1 ≤ hexV c ∧ hexV c < 16 := by
  intro c
  have h : ∀ n : Nat, n < 256 → -1 ≤ hexV (UInt8.ofNat n) ∧ hexV (UInt8.ofNat n) < 16 := by decide +kernel
  have := h c.toNat c.toNat_lt
  simpa using this
theorem hex0_if (c : UInt8) : (if (0 : Int) > hexV c then (0 : Int) else hexV c) = ((hex0 c : Nat) : Int) ∧ hex0 c < 16 := by
  have := hexV_facts c
  unfold hex0
  constructor
  · split <;> omega
  · omega
theorem mk_or (a b : UInt8) : IntKind.u8.wrap (bitsR .or .i64 (IntKind.i64.wrap (((hex0 a : Nat) : Int) * 2 ^ (min (4 : Int).toNat IntKind.i64.bits))) ((hex0 b : Nat) : Int)) = ((mk a b).toNat : Int) := by
  have h : ∀ x : Nat, x < 16 → ∀ y : Nat, y < 16 → IntKind.u8.wrap (bitsR .or .i64 (IntKind.i64.wrap ((x : Int) * 2 ^ (min (4 : Int).toNat IntKind.i64.bits))) (y : Int)) = ((UInt8.ofNat (x * 16 + y)).toNat : Int) := by decide +kernel
  exact h _ (hex0_if a).2 _ (hex0_if b).2
theorem mk_sum (a b : UInt8) (ha : 0 ≤ hexV a) (hb : 0 ≤ hexV b) : IntKind.u8.wrap (IntKind.i64.wrap ((IntKind.i64.wrap ((16 : Int) * hexV a)) + hexV b)) = ((mk a b).toNat : Int) := by
  have h : ∀ x : Nat, x < 16 → ∀ y : Nat, y < 16 → IntKind.u8.wrap (IntKind.i64.wrap ((IntKind.i64.wrap ((16 : Int) * (x : Int))) + (y : Int))) = ((UInt8.ofNat (x * 16 + y)).toNat : Int) := by decide +kernel
  have e1 := (hex0_if a).1
  have e2 := (hex0_if b).1
  rw [if_neg (by omega)] at e1 e2
  rw [e1, e2]
  exact h _ (hex0_if a).2 _ (hex0_if b).2
section
variable {w : World}
theorem lit_apL {w0 : World} {s : Slc} {xs ys : List UInt8} {K : Slc → World → Prop} (hB : Below w0.heap.size w0 w) (hown : Go.Vc.Own E_uint8 w w0.heap.size s xs) {vs : List Value} {n : Nat} (hy : flat E_uint8 ys = vs) (hn : n = ys.length) (hl : xs.length + ys.length ≤ 1000000)
    (hK : ∀ r w', Go.Vc.Own E_uint8 w' w0.heap.size r (xs ++ ys) → Below w0.heap.size w0 w' → K r w') : nw ty_uint8 vs w fun a w1 => apK PG #[ty_sl_uint8, ty_sl_uint8] ty_sl_uint8 s ⟨some a, n, n⟩ w1 K := by
  subst hn
  refine nw_blk fun w1 hb1 hB1 hs1 => ?_
  have hB' := hB.trans (hB1.mono hB.size)
  have ho := hown.ext hB1
  refine apK_own sT_sl_uint8 ho (own_lits (E := E_uint8) (base := 0) (Nat.zero_le _) hb1 (by unfold maxLen; omega) hy).rd hB'.size (by rw [by_sl_uint8]; omega) (by unfold maxLen; omega) fun r w' hr hg _ => hK r w' hr ?_
  exact hB'.grown hg hB'.size fun k hk => (ho.lt k hk).1
theorem drop_at {s : List UInt8} {i : Nat} (h : i < s.length) : ∃ c, s[i]? = some c ∧ s.drop i = c :: s.drop (i + 1) :=
  ⟨s[i], List.getElem?_eq_getElem h, List.drop_eq_getElem_cons h⟩
theorem Unquote_spec (s : List UInt8) (hl : s.length ≤ 100000) {K : Slc → Int → World → Prop} (hK : ∀ q w', Go.Vc.Own E_uint8 w' w.heap.size q (unqL s).1 → Below w.heap.size w w' → K q (unqL s).2 w') : c_script_Unquote (strB s) w K := by
  refine call_script_Unquote _ ?_
  unfold sh_script_Unquote
  refine joinP_of fun J1 hJ1 => ?_
  have hdl : (decL s).length ≤ s.length := by
    unfold decL
    split
    · simp
    · have : ∀ (n : Nat) (s : List UInt8), s.length ≤ n → (decF n s).length ≤ s.length := by
        intro n
        induction n using Nat.strongRecOn with
        | _ n ih =>
          intro s hs
          cases n with
          | zero => simp [decF]
          | succ n =>
            cases s with
            | nil => simp [decF]
            | cons c r =>
              have hr : r.length ≤ n := by simpa using hs
              by_cases hc : c = 37
              · subst hc
                by_cases h2 : r.length < 2
                · rw [decF_sh _ _ _ h2]
                  have := ih n (by omega) r hr
                  simpa using this
                · rcases r with _ | ⟨a, _ | ⟨b, r⟩⟩
                  · simp at h2
                  · simp at h2
                  · simp only [List.length_cons] at hr
                    rw [decF_esc]
                    have := ih n (by omega) r (by omega)
                    simp only [List.length_cons]
                    omega
              · rw [decF_ne _ _ hc]
                have := ih n (by omega) r hr
                simpa using this
      exact this _ _ (Nat.le_refl _)
  have hend : ∀ (q : Slc) (w1 : World), Go.Vc.Own E_uint8 w1 w.heap.size q (decL s) → Below w.heap.size w w1 → J1 (q, ()) w1 := by
    intro q w1 hq hB1
    refine hJ1 _ _ (Quote_spec hq.rd (by omega) fun w2 hB2 => ?_)
    have hB12 := hB1.trans (hB2.mono hB1.size)
    rw [strB_toList, strB_toList]
    refine cond_of (fun h => ?_) fun h => ?_
    · have hne : quoteL (decL s) ≠ s := by simpa using h
      have := hK ⟨none, 0, 0⟩ w2
      unfold unqL at this
      rw [if_neg hne] at this
      exact this (Own.nil _ _ _) hB12
    · have he : quoteL (decL s) = s := by simpa using h
      have := hK q w2
      unfold unqL at this
      rw [if_pos he] at this
      exact this (hq.ext hB2) hB12
  refine loopP_rule (fun (st : Slc × Int × Unit) w3 => ∃ (i : Nat) (pre : List UInt8), st.2.1 = i ∧ i ≤ s.length ∧ Go.Vc.Own E_uint8 w3 w.heap.size st.1 pre ∧ Below w.heap.size w w3 ∧ D s = pre ++ D (s.drop i) ∧ (i = 0 → pre = []) ∧ (s = [37] → i = 0) ∧ pre.length ≤ i) (fun st => s.length - st.2.1.toNat)
    ⟨0, [], rfl, by omega, Own.nil _ _ _, Below.refl _ _, rfl, fun _ => rfl, fun _ => rfl, Nat.le_refl _⟩ ?_
  rintro ⟨q, i, u⟩ w3 ⟨m, pre, hi, hm, hq3, hB3, hD, h0, h37, hpl⟩ I hI
  dsimp only at hi hq3 ⊢
  subst hi
  by_cases hlt : m < s.length
  case neg =>
    refine cond_f (by simp [strB_size]; omega) (hend q w3 ?_ hB3)
    obtain rfl : m = s.length := by omega
    rw [List.drop_length] at hD
    have hn37 : s ≠ [37] := fun e => by have := h37 e; rw [e] at this; simp at this
    have : decL s = pre := by
      unfold decL
      rw [if_neg hn37]
      show D s = pre
      rw [hD]
      show pre ++ [] = pre
      simp
    rw [this]
    exact hq3
  refine cond_t (by simp [strB_size]; omega) ?_
  obtain ⟨c, hc, hdr⟩ := drop_at hlt
  refine ixS_of (k := m) rfl hc ?_
  refine joinP_of fun J3 hJ3 => ?_
  have happ : ∀ (w4 : World) (j : Nat) (b : UInt8) (v : Int), v = b.toNat → Below w.heap.size w w4 → Go.Vc.Own E_uint8 w4 w.heap.size q pre → m ≤ j → j < s.length → s ≠ [37] → D s = (pre ++ [b]) ++ D (s.drop (j + 1)) → J3 ((j : Int), v, ()) w4 := by
    intro w4 j b v hv hB4 hq4 hmj hj hn37 hDD
    subst hv
    refine hJ3 _ _ ?_
    dsimp only
    have hw : IntKind.i64.wrap ((j : Int) + (1 : Int)) = ((j + 1 : Nat) : Int) := by rw [i64_in (by omega)]; simp
    rw [hw]
    refine lit_apL (ys := [b]) hB4 hq4 rfl rfl (n := 1) ?_ fun r w6 hr hB6 => ?_
    · simp only [List.length_cons, List.length_nil]; omega
    refine hI _ _ ⟨j + 1, pre ++ [b], rfl, by omega, hr, hB6, hDD, by simp, fun e => absurd e hn37, by simp; omega⟩ (by simp; omega)
  refine joinP_of fun J4 hJ4 => ?_
  have e37 : ((c.toNat : Int) == 37) = decide (c = 37) := u8_ne 37 (by omega)
  have hw2 : IntKind.i64.wrap ((m : Int) + (2 : Int)) = ((m + 2 : Nat) : Int) := by rw [i64_in (by omega)]; simp
  have hw1 : IntKind.i64.wrap ((m : Int) + (1 : Int)) = ((m + 1 : Nat) : Int) := by rw [i64_in (by omega)]; simp
  rw [e37]
  have hplain : (c = 37 → ¬ m + 2 < s.length) → J4 (false, ()) w3 := by
    intro hno
    refine hJ4 _ _ (cond_f rfl ?_)
    have hDc : s ≠ [37] → D s = (pre ++ [c]) ++ D (s.drop (m + 1)) := fun _ => by
      rw [hD, hdr]
      by_cases h : c = 37
      · rw [D_sh _ _ (by rw [List.length_drop]; have := hno h; omega)]
        simp
      · rw [D_ne _ h]
        simp
    rw [e37]
    by_cases h : c = 37
    · refine cond_t (decide_eq_true h) (cond_of (fun h1 => ?_) fun h1 => ?_)
      · have h1 : s.length = 1 := by have : ((strB s).size : Int) = 1 := by simpa using h1
                                     rw [strB_size] at this
                                     omega
        have hs : s = [37] := by
          obtain rfl : m = 0 := by omega
          rw [List.drop_zero, List.drop_of_length_le (by omega), h] at hdr
          exact hdr
        have hpre := h0 (h37 hs)
        refine hend q w3 ?_ hB3
        have : decL s = [] := by unfold decL; rw [if_pos hs]
        rw [this]
        rw [hpre] at hq3
        exact hq3
      · have hn37 : s ≠ [37] := fun e => by
          rw [e] at h1
          exact absurd h1 (by decide)
        exact happ w3 m c _ rfl hB3 hq3 (Nat.le_refl _) hlt hn37 (hDc hn37)
    · refine cond_f (decide_eq_false h) ?_
      have hn37 : s ≠ [37] := fun e => by
        rw [e] at hdr hlt
        obtain rfl : m = 0 := by simpa using hlt
        exact h (List.cons.inj hdr).1.symm
      exact happ w3 m c _ rfl hB3 hq3 (Nat.le_refl _) hlt hn37 (hDc hn37)
  refine cond_of (fun h => ?_) fun h => ?_
  · have h : c = 37 := of_decide_eq_true h
    rw [hw2]
    by_cases h2 : m + 2 < s.length
    · have e2 : decide (((m + 2 : Nat) : Int) < ((strB s).size : Int)) = true := decide_eq_true (by rw [strB_size]; omega)
      rw [e2]
      refine hJ4 _ _ (cond_t rfl ?_)
      rw [hw1, hw2]
      obtain ⟨a, ha, hda⟩ := drop_at (s := s) (i := m + 1) (by omega)
      obtain ⟨b, hb, hdb⟩ := drop_at (s := s) (i := m + 2) h2
      refine ixS_of (k := m + 1) rfl ha (ixS_of (k := m + 2) rfl hb ?_)
      refine IndexByte_spec (bs := hexB) (c := a) rfl (IndexByte_spec (bs := hexB) (c := b) rfl ⟨by decide, ?_⟩)
      show J3 (((m + 2 : Nat) : Int), IntKind.u8.wrap (bitsR .or .i64 (IntKind.i64.wrap ((if (0 : Int) > hexV a then (0 : Int) else hexV a) * 2 ^ (min (4 : Int).toNat IntKind.i64.bits))) (if (0 : Int) > hexV b then (0 : Int) else hexV b)), ()) w3.drew
      rw [(hex0_if a).1, (hex0_if b).1, mk_or]
      refine happ w3.drew (m + 2) (mk a b) _ rfl hB3.drew hq3.drew (by omega) h2 (fun e => by rw [e] at h2; simp at h2) ?_
      rw [hD, hdr, hda, hdb, h, D_esc]
      simp
    · have e2 : decide (((m + 2 : Nat) : Int) < ((strB s).size : Int)) = false := decide_eq_false (by rw [strB_size]; omega)
      rw [e2]
      exact hplain fun _ => h2
  · have h : ¬ c = 37 := of_decide_eq_false h
    exact hplain fun e => absurd e h
end
end Go.Proofs.YtpadlibcalomnaaDoor
