/- The program's tables of codes: Reverse, room, deal, New. -/
import Derived.Test.YteffnkpplhcomaaB2
import Derived.Test.YteffnkpplhcomaaHuffP
namespace Go.Proofs.Yteffnkpplhcomaa
open Go.Vc Go.RowKit

theorem revN_lt (v n : Nat) : revN v n < 2 ^ n := by
  induction n with
  | zero => simp [revN]
  | succ n ih => rw [revN, Nat.pow_succ]; omega
theorem two_or (a b : Nat) (hb : b < 2) : 2 * a ||| b = 2 * a + b := by
  have := @add_or a b 1 (by omega)
  rw [Nat.pow_one] at this
  rw [Nat.or_comm, this, Nat.add_comm]
theorem one_and (a : Nat) : a &&& 1 = a % 2 := Nat.and_two_pow_sub_one_eq_mod a 1

theorem Reverse_spec {v n : Nat} {w : World} {K : Int → World → Prop} (hv : v < 2 ^ 32) (hn : n ≤ 32) (hK : K ((revN v n : Nat) : Int) w) : c_bits_Reverse v n w K := by
  refine call_bits_Reverse _ _ ?_
  unfold sh_bits_Reverse
  refine joinP_of fun J hJ => ?_
  refine cond_f (by simp) (cond_f (by simp; omega) (hJ _ _ ?_))
  refine loopP_rule (fun (s : Int × Int × Int × Unit) w2 => ∃ i : Nat, s.2.2.1 = i ∧ i ≤ n ∧ s.1 = ((v / 2 ^ i : Nat) : Int) ∧ s.2.1 = ((revN v i : Nat) : Int) ∧ w2 = w) (fun s => n - s.2.2.1.toNat) ⟨0, rfl, by omega, by simp, rfl, rfl⟩ ?_
  rintro ⟨x, r, i, _⟩ w2 ⟨i, rfl, hi, rfl, rfl, rfl⟩ I hI
  dsimp only at *
  refine cond_of (fun hlt => ?_) (fun hge => ?_)
  · have hlt := of_decide_eq_true hlt
    refine ⟨by decide, by decide, hI _ _ ⟨i + 1, ?_, by omega, ?_, ?_, rfl⟩ ?_⟩
    · dsimp only; rw [wrap64_id (by omega)]; rfl
    · dsimp only
      rw [show min ((1 : Int)).toNat IntKind.u32.bits = 1 by decide, fdiv_nat, Nat.div_div_eq_div_mul, ← Nat.pow_succ]
    · have hr := revN_lt v i
      have hp : 2 ^ i * 2 ≤ 2 ^ 32 := by rw [← Nat.pow_succ]; exact Nat.pow_le_pow_right (by decide) (by omega)
      have hd : v / 2 ^ i < 2 ^ 32 := Nat.lt_of_le_of_lt (Nat.div_le_self _ _) hv
      dsimp only
      rw [show min ((1 : Int)).toNat IntKind.u32.bits = 1 by decide, mul_pow_nat, wrap_nat .u32 (by show _ < 2 ^ 32; omega)]
      have e1 : bitsR .and .u32 ((v / 2 ^ i : Nat) : Int) 1 = ((v / 2 ^ i % 2 : Nat) : Int) := by
        rw [show (1 : Int) = ((1 : Nat) : Int) from rfl, bits_and .u32 hd (by decide), one_and]
      rw [e1, bits_or .u32 (by show _ < 2 ^ 32; omega) (by show _ < 2 ^ 32; omega), Nat.pow_one, Nat.mul_comm, two_or _ _ (by omega)]
      rfl
    · dsimp only; rw [wrap64_id (by omega)]; omega
  · have hge := of_decide_eq_false hge
    have : i = n := by omega
    subst this
    exact hK

theorem roomN_append (a b : List UInt8) : roomN (a ++ b) = roomN a + roomN b := by simp [roomN]
theorem roomN_le (ls : List UInt8) : roomN ls ≤ ls.length * 16384 := by
  induction ls with
  | nil => simp [roomN]
  | cons x r ih =>
    have e : roomN (x :: r) = (if 0 < x.toNat ∧ x.toNat ≤ 15 then 2 ^ (15 - x.toNat) else 0) + roomN r := by simp [roomN]
    rw [e, List.length_cons]
    have : (if 0 < x.toNat ∧ x.toNat ≤ 15 then 2 ^ (15 - x.toNat) else 0) ≤ 16384 := by
      split
      · exact Nat.le_trans (Nat.pow_le_pow_right (by decide) (by omega : 15 - x.toNat ≤ 14)) (by decide)
      · omega
    omega
theorem room_spec {s : Slc} {ls : List UInt8} {w : World} {K : Int → World → Prop} (h : Rd E_uint8 w s ls) (hl : ls.length ≤ 100000) (hK : K ((roomN ls : Nat) : Int) w) : c_huff_room s w K := by
  refine call_huff_room _ ?_
  unfold sh_huff_room
  rw [h.n]
  refine loopP_rule (fun (s : Int × Int × Unit) w2 => ∃ i : Nat, s.2.1 = i ∧ i ≤ ls.length ∧ s.1 = ((roomN (ls.take i) : Nat) : Int) ∧ w2 = w) (fun s => ls.length - s.2.1.toNat) ⟨0, rfl, by omega, rfl, rfl⟩ ?_
  rintro ⟨x, i, _⟩ w2 ⟨i, rfl, hi, rfl, rfl⟩ I hI
  dsimp only at *
  refine cond_of (fun hlt => ?_) (fun hge => ?_)
  · have hlt := of_decide_eq_true hlt
    obtain ⟨b, hb, hbs⟩ := get_of (xs := ls) (k := i) (by omega)
    refine h.ix rfl (by omega) (by omega) fun hc => ?_
    rw [hbs] at hc
    refine ldB8 (b := b) hc ?_
    have h8 := b.toNat_lt
    have hr := roomN_le (ls.take i)
    have hlen : (ls.take i).length ≤ ls.length := by simp; omega
    have ht : roomN (ls.take (i + 1)) = roomN (ls.take i) + (if 0 < b.toNat ∧ b.toNat ≤ 15 then 2 ^ (15 - b.toNat) else 0) := by
      rw [List.take_add_one, hb, roomN_append]
      simp [roomN]
    refine joinP_of fun J hJ => ?_
    have next : ∀ v : Int, v = ((roomN (ls.take (i + 1)) : Nat) : Int) → I (v, IntKind.i64.wrap ((i : Int) + 1), ()) w2 := fun v hv => by
      subst hv
      rw [wrap64_id (by omega)]
      exact hI _ _ ⟨i + 1, by simp, by omega, rfl, rfl⟩ (by simp; omega)
    by_cases hc0 : 0 < b.toNat ∧ b.toNat ≤ 15
    · refine cond_t (by simp; omega) (hJ _ _ (cond_t (by simp; omega) ⟨by omega, next _ ?_⟩))
      rw [ht, if_pos hc0]
      have e : min ((b.toNat : Nat) : Int).toNat IntKind.i64.bits = b.toNat := by show min b.toNat 64 = _; omega
      rw [e, show (32768 : Int) = ((32768 : Nat) : Int) from rfl, fdiv_nat]
      have e2 : 32768 / 2 ^ b.toNat = 2 ^ (15 - b.toNat) := by
        rw [show 32768 = 2 ^ 15 by decide, Nat.pow_div hc0.2 (by decide)]
      have hp : 2 ^ (15 - b.toNat) ≤ 2 ^ 15 := Nat.pow_le_pow_right (by decide) (by omega)
      rw [e2]
      generalize 2 ^ (15 - b.toNat) = p at *
      rw [wrap64_id (by omega)]
      rfl
    · have key : J (false, ()) w2 := hJ _ _ (cond_f rfl (next _ (by rw [ht, if_neg hc0]; rfl)))
      refine cond_of (fun h1 => ?_) (fun _ => key)
      have h1 := of_decide_eq_true h1
      rw [decide_eq_false (by omega)]
      exact key
  · have hge := of_decide_eq_false hge
    have : i = ls.length := by omega
    subst this
    rw [List.take_length]
    exact hK

/-! ### Tables in memory -/
def tabCells (f : Nat → Nat) (so co lo : Slc) (last : Nat) : List Value :=
  [.int .i64 (f 0), .int .i64 (f 1), .int .i64 (f 2), .int .i64 (f 3), .int .i64 (f 4), .int .i64 (f 5), .int .i64 (f 6), .int .i64 (f 7), .int .i64 (f 8), .int .i64 (f 9), .int .i64 (f 10), .int .i64 (f 11), .int .i64 (f 12), .int .i64 (f 13), .int .i64 (f 14), .int .i64 (f 15),
    .slice so.a so.n so.c, .slice co.a co.n co.c, .slice lo.a lo.n lo.c, .int .i64 last]
theorem tab_get (f : Nat → Nat) (so co lo : Slc) (last k : Nat) (hk : k < 16) : (tabCells f so co lo last)[k]? = some (.int .i64 (f k)) := by
  match k, hk with
  | 0, _ | 1, _ | 2, _ | 3, _ | 4, _ | 5, _ | 6, _ | 7, _ | 8, _ | 9, _ | 10, _ | 11, _ | 12, _ | 13, _ | 14, _ | 15, _ => rfl
  | k + 16, h => omega
theorem tab_put (f : Nat → Nat) (so co lo : Slc) (last k v : Nat) (hk : k < 16) : putL (tabCells f so co lo last) k [.int .i64 v] = tabCells (fun j => if j = k then v else f j) so co lo last := by
  match k, hk with
  | 0, _ | 1, _ | 2, _ | 3, _ | 4, _ | 5, _ | 6, _ | 7, _ | 8, _ | 9, _ | 10, _ | 11, _ | 12, _ | 13, _ | 14, _ | 15, _ => rfl
  | k + 16, h => omega
theorem tab_len (f : Nat → Nat) (so co lo : Slc) (last : Nat) : (tabCells f so co lo last).length = 20 := rfl

/-- The codes that were dealt ahead of (a length, a symbol). -/
def codesL (ls : List UInt8) (k i : Nat) : List Int := (List.range ls.length).map fun j => match ls[j]? with
  | some x => if 0 < x.toNat ∧ (x.toNat < k ∨ x.toNat = k ∧ j < i) then ((revN (codeK ls x.toNat j) x.toNat : Nat) : Int) else 0
  | none => 0
theorem codesL_length (ls : List UInt8) (k i : Nat) : (codesL ls k i).length = ls.length := by simp [codesL]
theorem codesL_get {ls : List UInt8} {k i j : Nat} {x : UInt8} (hx : ls[j]? = some x) : (codesL ls k i)[j]? = some (if 0 < x.toNat ∧ (x.toNat < k ∨ x.toNat = k ∧ j < i) then ((revN (codeK ls x.toNat j) x.toNat : Nat) : Int) else 0) := by
  have hj : j < ls.length := (List.getElem?_eq_some_iff.1 hx).1
  unfold codesL
  rw [List.getElem?_map, List.getElem?_range hj]
  simp [hx]
theorem codesL_none (ls : List UInt8) : codesL ls 1 0 = List.replicate ls.length 0 := by
  refine List.ext_getElem? fun j => ?_
  rcases Nat.lt_or_ge j ls.length with hj | hj
  · rw [codesL_get (List.getElem?_eq_getElem hj), List.getElem?_replicate, if_pos hj, if_neg (by omega)]
  · rw [List.getElem?_eq_none (by rw [codesL_length]; exact hj), List.getElem?_eq_none (by simpa using hj)]
theorem codesL_next (ls : List UInt8) (k : Nat) : codesL ls k ls.length = codesL ls (k + 1) 0 := by
  refine List.ext_getElem? fun j => ?_
  rcases Nat.lt_or_ge j ls.length with hj | hj
  · rw [codesL_get (List.getElem?_eq_getElem hj), codesL_get (List.getElem?_eq_getElem hj)]
    congr 1
    by_cases h : 0 < ls[j].toNat ∧ (ls[j].toNat < k ∨ ls[j].toNat = k ∧ j < ls.length)
    · rw [if_pos h, if_pos (by omega)]
    · rw [if_neg h, if_neg (by omega)]
  · rw [List.getElem?_eq_none (by rw [codesL_length]; exact hj), List.getElem?_eq_none (by rw [codesL_length]; exact hj)]
theorem codesL_skip {ls : List UInt8} {k i : Nat} {x : UInt8} (hx : ls[i]? = some x) (hk : x.toNat ≠ k) : codesL ls k (i + 1) = codesL ls k i := by
  refine List.ext_getElem? fun j => ?_
  rcases Nat.lt_or_ge j ls.length with hj | hj
  · rw [codesL_get (List.getElem?_eq_getElem hj), codesL_get (List.getElem?_eq_getElem hj)]
    congr 1
    by_cases hji : j = i
    · subst hji
      rw [List.getElem?_eq_getElem hj] at hx
      have hx := Option.some.inj hx
      rw [hx]
      by_cases h : 0 < x.toNat ∧ (x.toNat < k ∨ x.toNat = k ∧ j < j)
      · rw [if_pos h, if_pos (by omega)]
      · rw [if_neg h, if_neg (by omega)]
    · by_cases h : 0 < ls[j].toNat ∧ (ls[j].toNat < k ∨ ls[j].toNat = k ∧ j < i)
      · rw [if_pos h, if_pos (by omega)]
      · rw [if_neg h, if_neg (by omega)]
  · rw [List.getElem?_eq_none (by rw [codesL_length]; exact hj), List.getElem?_eq_none (by rw [codesL_length]; exact hj)]
theorem codesL_set {ls : List UInt8} {k i : Nat} {x : UInt8} (hx : ls[i]? = some x) (h0 : 0 < k) (hk : x.toNat = k) : (codesL ls k i).set i ((revN (codeK ls k i) k : Nat) : Int) = codesL ls k (i + 1) := by
  have hi : i < ls.length := (List.getElem?_eq_some_iff.1 hx).1
  refine List.ext_getElem? fun j => ?_
  rcases Nat.lt_or_ge j ls.length with hj | hj
  · by_cases hji : j = i
    · subst hji
      rw [List.getElem?_set_self (by rw [codesL_length]; exact hj), codesL_get hx, if_pos (by omega), hk]
    · rw [List.getElem?_set_ne (Ne.symm hji), codesL_get (List.getElem?_eq_getElem hj), codesL_get (List.getElem?_eq_getElem hj)]
      congr 1
      by_cases h : 0 < ls[j].toNat ∧ (ls[j].toNat < k ∨ ls[j].toNat = k ∧ j < i)
      · rw [if_pos h, if_pos (by omega)]
      · rw [if_neg h, if_neg (by omega)]
  · rw [List.getElem?_eq_none (by rw [List.length_set, codesL_length]; exact hj), List.getElem?_eq_none (by rw [codesL_length]; exact hj)]

def ints (l : List Nat) : List Int := List.map (fun n : Nat => ((n : Nat) : Int)) l
structure TF where
  g : Nat
  so : Slc
  co : Slc
  lo : Slc
def tabS (f : TF) (k : Nat) : Prop := k = f.g ∨ f.so.blk = some k ∨ f.co.blk = some k ∨ f.lo.blk = some k
/-- A table of codes by these lengths. -/
structure TabM (w : World) (base : Nat) (f : TF) (ls : List UInt8) : Prop where
  blk : Blk w f.g ty_huff_Table (tabCells (cntK ls) f.so f.co f.lo (lastK ls))
  hg : base ≤ f.g
  so : Own E_int w base f.so (ints (sortedK ls 15))
  co : Own E_uint32 w base f.co (codesL ls 16 0)
  lo : Own E_uint8 w base f.lo ls
  sm : ls.length ≤ 320
  small : ∀ x ∈ ls, x.toNat ≤ 15
  room : roomN ls ≤ 32768
section
variable {w w' : World} {base : Nat} {f : TF} {ls : List UInt8}
theorem TabM.chg {T : Nat → Prop} (h : TabM w base f ls) (hc : Chg T w w') (hT : ∀ k, tabS f k → ¬ T k) : TabM w' base f ls :=
  ⟨h.blk.chg hc (hT _ (.inl rfl)), h.hg, h.so.chg hc fun k hk => hT k (.inr (.inl hk)), h.co.chg hc fun k hk => hT k (.inr (.inr (.inl hk))), h.lo.chg hc fun k hk => hT k (.inr (.inr (.inr hk))), h.sm, h.small, h.room⟩
theorem TabM.ext (h : TabM w base f ls) (hb : Below w.heap.size w w') : TabM w' base f ls := h.chg (Chg.of_ext (S := fun _ => False) hb) fun _ _ => id
theorem TabM.drew (h : TabM w base f ls) : TabM w.drew base f ls := h.ext ((Below.refl _ w).drew)
theorem TabM.below (h : TabM w base f ls) : ∀ k, tabS f k → base ≤ k ∧ k < w.heap.size := by
  rintro k (rfl | hk | hk | hk)
  · exact ⟨h.hg, h.blk.lt⟩
  · exact h.so.lt k hk
  · exact h.co.lt k hk
  · exact h.lo.lt k hk
end

/-- The codes are dealt. -/
theorem deal_spec {w : World} {g : Nat} {co lo : Slc} {ls : List UInt8} {K : World → Prop} {base : Nat} (hb : Blk w g ty_huff_Table (tabCells (cntK ls) ⟨none, 0, 0⟩ co lo (lastK ls))) (hg : base ≤ g) (hco : Own E_uint32 w base co (List.replicate ls.length 0)) (hlo : Own E_uint8 w base lo ls)
    (hsm : ls.length ≤ 320) (hs15 : ∀ x ∈ ls, x.toNat ≤ 15) (hroom : roomN ls ≤ 32768) (hbase : base ≤ w.heap.size)
    (hK : ∀ so w', TabM w' base ⟨g, so, co, lo⟩ ls → Chg (fun k => k = g ∨ co.blk = some k) w w' → K w') : c_huff_Table_deal (some ⟨g, 0, none⟩) w K := by
  refine call_huff_Table_deal _ ?_
  unfold sh_huff_Table_deal
  simp only [onPtr_some]
  let St : World → Slc → Nat → Nat → Prop := fun w' so k i => Blk w' g ty_huff_Table (tabCells (cntK ls) so co lo (lastK ls)) ∧ Own E_int w' base so (ints (sortedK ls (k - 1) ++ symsK ls k i)) ∧ Own E_uint32 w' base co (codesL ls k i) ∧ Own E_uint8 w' base lo ls ∧ Chg (fun k => k = g ∨ co.blk = some k) w w' ∧ ∀ j, so.blk = some j → w.heap.size ≤ j
  have hpow : ∀ k, k ≤ 15 → firstK ls k + cntK ls k ≤ 32768 := fun k hk => Nat.le_trans (kraft hroom hk) (Nat.pow_le_pow_right (by decide) hk)
  have hlon : lo.n = ls.length := hlo.rd.n
  refine loopP_rule (fun (s : Int × Int × Unit) w2 => ∃ (k : Nat) (so : Slc), s.2.1 = ((k + 1 : Nat) : Int) ∧ k ≤ 15 ∧ s.1 = ((firstK ls (k + 1) : Nat) : Int) ∧ St w2 so (k + 1) 0) (fun s => 16 - s.2.1.toNat) ⟨0, ⟨none, 0, 0⟩, rfl, by omega, by simp [firstK, cntK], hb, ?_, by rw [codesL_none]; exact hco, hlo, Chg.refl _ _, fun j hj => by cases hj⟩ ?_
  · have : sortedK ls (0 + 1 - 1) ++ symsK ls (0 + 1) 0 = [] := by simp [sortedK, symsK]
    rw [this]
    show Own E_int w base ⟨none, 0, 0⟩ []
    exact Own.nil _ _ _
  rintro ⟨c, k, _⟩ w2 ⟨k, so, rfl, hk, rfl, hb2, hso2, hco2, hlo2, hc2, hf2⟩ I hI
  dsimp only at *
  refine cond_of (fun hle => ?_) (fun hgt => ?_)
  · have hle := of_decide_eq_true hle
    refine ldSl_of (x := lo) (hb2.cells 18 _ rfl) ?_
    rw [hlon]
    refine loopP_rule (fun (s : Int × Int × Unit) w3 => ∃ (i : Nat) (so : Slc), s.2.1 = i ∧ i ≤ ls.length ∧ s.1 = ((codeK ls (k + 1) i : Nat) : Int) ∧ St w3 so (k + 1) i) (fun s => ls.length - s.2.1.toNat) ⟨0, so, rfl, by omega, by simp [codeK, cntK_nil], hb2, hso2, hco2, hlo2, hc2, hf2⟩ ?_
    rintro ⟨c, i, _⟩ w3 ⟨i, so3, rfl, hi, rfl, hb3, hso3, hco3, hlo3, hc3, hf3⟩ I2 hI2
    dsimp only at *
    have hci : codeK ls (k + 1) i ≤ 32768 := by
      unfold codeK
      have h1 := hpow (k + 1) (by omega)
      have h2 : cntK (ls.take i) (k + 1) ≤ cntK ls (k + 1) := by
        conv => rhs; rw [← List.take_append_drop i ls]
        rw [cntK_append]; omega
      omega
    refine cond_of (fun hlt => ?_) (fun hge => ?_)
    · have hlt := of_decide_eq_true hlt
      have hil : i < ls.length := by omega
      obtain ⟨x, hx, hxs⟩ := get_of (xs := ls) (k := i) hil
      refine hlo3.rd.ix rfl (by omega) (by omega) fun hc => ?_
      rw [hxs] at hc
      refine ldB8 (b := x) hc ?_
      have h8 := x.toNat_lt
      rw [wrap_nat .i64 (by show _ < 2 ^ 63; omega)]
      refine cond_of (fun he => ?_) (fun he => ?_)
      · have he : x.toNat = k + 1 := by have := eq_of_beq he; omega
        refine ldSl_of (x := so3) (hb3.cells 16 _ rfl) ?_
        refine nw_blk fun w4 hb4 hB4 hs4 => ?_
        have hr4 : Rd E_int w4 ⟨some ⟨w3.heap.size, 0, none⟩, 1, 1⟩ [(i : Int)] := rd_one (E := E_int) hb4 rfl
        have hsl : (sortedK ls k).length ≤ 100000 := by
          rw [sortedK_length]
          have : ∀ m, offK ls m ≤ m * 320 := by
            intro m
            induction m with
            | zero => simp [offK]
            | succ m ih =>
              have := cntK_le ls m
              rw [offK]; omega
          have := this (k + 1)
          omega
        have hsy : (symsK ls (k + 1) i).length ≤ 320 := by
          rw [symsK_length ls (k + 1) i (by omega)]
          have := cntK_le (ls.take i) (k + 1)
          simp at this
          omega
        have hs3 := hc3.size
        have hb34 := hb3.ext hB4
        have hso34 := hso3.ext hB4
        have hco34 := hco3.ext hB4
        have hlo34 := hlo3.ext hB4
        refine apK_own sT_sl_int hso34 hr4 (by omega) (by rw [by_sl_int]; simp [ints]; omega) (by simp [maxLen, ints]; omega) fun q w5 ho5 hg5 hq5 => ?_
        have hc45 : Chg (fun k => so3.blk = some k) w4 w5 := Chg.of_grown hg5 fun k hk => hk
        have ne1 : ∀ j, so3.blk = some j → j ≠ g := fun j hj => by
          obtain ⟨cs, hcs⟩ := hso34.blk_t hj
          exact hcs.ne_t hb34 (by decide)
        have hb5 := hb34.chg hc45 fun e => ne1 _ e rfl
        have hco5 := hco34.chg hc45 fun j hj e => by
          obtain ⟨cs, hcs⟩ := hco34.blk_t hj
          obtain ⟨cs', hcs'⟩ := hso34.blk_t e
          exact hcs.ne_t hcs' (by decide) rfl
        have hlo5 := hlo34.chg hc45 fun j hj e => by
          obtain ⟨cs, hcs⟩ := hlo34.blk_t hj
          obtain ⟨cs', hcs'⟩ := hso34.blk_t e
          exact hcs.ne_t hcs' (by decide) rfl
        rw [add_mk]
        refine stK_blk hb5 (by rw [tab_len]; show 0 + 16 + 1 ≤ 20; decide) fun w6 hb6 hg6 hs6 => ?_
        have hb6 : Blk w6 g ty_huff_Table (tabCells (cntK ls) q co lo (lastK ls)) := hb6
        have nb : ∀ {w' : World} {T : Type} {E : El T} {b : Nat} {s : Slc} {xs : List T}, Own E w' b s xs → Blk w' g ty_huff_Table (tabCells (cntK ls) so3 co lo (lastK ls)) → E.t ≠ ty_huff_Table → ∀ j, s.blk = some j → j ≠ g := fun ho hb hne j hj => by
          obtain ⟨cs, hcs⟩ := ho.blk_t hj
          exact hcs.ne_t hb hne
        have ho6 := ho5.chg (Chg.gg hg6) (nb ho5 hb5 (by decide))
        have hco6 := hco5.chg (Chg.gg hg6) (nb hco5 hb5 (by decide))
        have hlo6 := hlo5.chg (Chg.gg hg6) (nb hlo5 hb5 (by decide))
        refine ldSl_of (x := co) (hb6.drew.cells 17 _ rfl) ?_
        have e1 : ((k : Int) + 1) = ((k + 1 : Nat) : Int) := by omega
        refine Reverse_spec (v := codeK ls (k + 1) i) (n := k + 1) (by omega) (by omega) ⟨hb6.drew.cells 17 _ rfl, ?_⟩
        refine hco6.drew.rd.ix rfl (by omega) (by rw [codesL_length]; omega) fun _ => ?_
        have hcx := codesL_get (k := k + 1) (i := i) hx
        refine hco6.drew.st0 (x := _) (y := ((revN (codeK ls (k + 1) i) (k + 1) : Nat) : Int)) (by rw [show ((i : Int)).toNat = i from rfl]; exact hcx) rfl fun w7 hco7 hg7 hs7 => ?_
        rw [show ((i : Int)).toNat = i from rfl, codesL_set hx (by omega) he] at hco7
        have hc67 : Chg (fun j => co.blk = some j) w6.drew w7 := Chg.of_grown hg7 fun j hj => hj
        have hb7 := hb6.drew.chg hc67 fun e => by
          obtain ⟨cs, hcs⟩ := hco6.blk_t e
          exact hcs.ne_t hb6 (by decide) rfl
        have ho7 := ho6.drew.chg hc67 fun j hj e => by
          obtain ⟨cs, hcs⟩ := ho6.blk_t hj
          obtain ⟨cs', hcs'⟩ := hco6.blk_t e
          exact hcs.ne_t hcs' (by decide) rfl
        have hlo7 := hlo6.drew.chg hc67 fun j hj e => by
          obtain ⟨cs, hcs⟩ := hlo6.blk_t hj
          obtain ⟨cs', hcs'⟩ := hco6.blk_t e
          exact hcs.ne_t hcs' (by decide) rfl
        rw [show ((codeK ls (k + 1) i : Nat) : Int) + 1 = ((codeK ls (k + 1) i + 1 : Nat) : Int) from rfl, wrap_nat .u32 (x := codeK ls (k + 1) i + 1) (by show _ < 2 ^ 32; omega), wrap64_id (by omega)]
        refine hI2 _ _ ⟨i + 1, q, by simp, by omega, ?_, hb7, ?_, hco7, hlo7, ?_, fun j hj => ?_⟩ (by simp; omega)
        · show ((codeK ls (k + 1) i + 1 : Nat) : Int) = _
          unfold codeK
          rw [cntK_take_succ ls (k + 1) i hx, if_pos ⟨by omega, he⟩]
          rfl
        · rw [symsK_succ ls (k + 1) i hx, if_pos ⟨by omega, he⟩, ← List.append_assoc]
          have e : ints (sortedK ls (k + 1 - 1) ++ symsK ls (k + 1) i ++ [i]) = ints (sortedK ls (k + 1 - 1) ++ symsK ls (k + 1) i) ++ [(i : Int)] := by simp [ints]
          rw [e]
          exact ho7
        · have c1 : Chg (fun k => k = g ∨ co.blk = some k) w w4 := hc3.trans (Chg.of_ext (S := fun k => k = g ∨ co.blk = some k) hB4) fun i _ hi => hi
          have c2 : Chg (fun k => k = g ∨ co.blk = some k) w w6 := (c1.trans hc45 fun i hi hs => by have := hf3 i hs; omega).trans (Chg.gg hg6) fun i _ hi => .inl hi
          exact (c2.trans (Chg.of_ext (S := fun k => k = g ∨ co.blk = some k) ((Below.refl _ w6).drew)) fun i _ hi => hi).trans hc67 fun i _ hi => .inr hi
        · rcases hq5 with e | e
          · exact hf3 j (by rw [← e]; exact hj)
          · rw [e] at hj; cases hj; omega
      · have he : x.toNat ≠ k + 1 := by have := beq_eq_false_iff_ne.1 he; omega
        rw [wrap64_id (by omega)]
        refine hI2 _ _ ⟨i + 1, so3, by simp, by omega, ?_, hb3, ?_, by rw [codesL_skip hx he]; exact hco3, hlo3, hc3, hf3⟩ (by simp; omega)
        · unfold codeK
          rw [cntK_take_succ ls (k + 1) i hx, if_neg (fun h => he h.2)]
        · rw [symsK_succ ls (k + 1) i hx, if_neg (fun h => he h.2)]
          exact hso3
    · have hge := of_decide_eq_false hge
      have : i = ls.length := by omega
      subst this
      refine ⟨by decide, hI _ _ ⟨k + 1, so3, ?_, by omega, ?_, hb3, ?_, ?_, hlo3, hc3, hf3⟩ ?_⟩
      · dsimp only; rw [wrap64_id (by omega)]; omega
      · dsimp only
        rw [show min ((1 : Int)).toNat IntKind.u32.bits = 1 by decide, mul_pow_nat, wrap_nat .u32 (by show _ < 2 ^ 32; omega)]
        unfold codeK
        rw [List.take_length, Nat.pow_one, Nat.mul_comm]
        rfl
      · have e : sortedK ls (k + 1 + 1 - 1) ++ symsK ls (k + 1 + 1) 0 = sortedK ls (k + 1 - 1) ++ symsK ls (k + 1) ls.length := by
          show sortedK ls (k + 1) ++ symsK ls (k + 2) 0 = sortedK ls k ++ _
          simp [symsK, sortedK]
        rw [e]
        exact hso3
      · rw [← codesL_next]
        exact hco3
      · dsimp only; rw [wrap64_id (by omega)]; omega
  · have hgt := of_decide_eq_false hgt
    have : k = 15 := by omega
    subst this
    have e : sortedK ls (15 + 1 - 1) ++ symsK ls (15 + 1) 0 = sortedK ls 15 := by simp [symsK]
    rw [e] at hso2
    exact hK so w2 ⟨hb2, hg, hso2, hco2, hlo2, hsm, hs15, hroom⟩ hc2

end Go.Proofs.Yteffnkpplhcomaa
