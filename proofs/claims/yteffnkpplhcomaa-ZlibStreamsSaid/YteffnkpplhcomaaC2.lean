/- The document's writer of bits; its Fixed and Store. -/
import Derived.Test.YteffnkpplhcomaaC1
namespace Go.Proofs.Yteffnkpplhcomaa
open Go.Vc Go.RowKit
set_option maxRecDepth 400000

/-- Bits, the first one the lowest. -/
def bitsV : List UInt8 → Nat
  | [] => 0
  | b :: r => b.toNat + 2 * bitsV r
theorem bitsV_append (a b : List UInt8) : bitsV (a ++ b) = bitsV a + 2 ^ a.length * bitsV b := by
  induction a with
  | nil => simp [bitsV]
  | cons x r ih =>
    rw [List.cons_append, bitsV, bitsV, ih, List.length_cons, Nat.pow_succ, Nat.mul_add]
    have e : 2 * (2 ^ r.length * bitsV b) = 2 ^ r.length * 2 * bitsV b := by rw [← Nat.mul_assoc, Nat.mul_comm 2]
    omega
theorem bitsV_lt {a : List UInt8} (h : ∀ x ∈ a, x.toNat ≤ 1) : bitsV a < 2 ^ a.length := by
  induction a with
  | nil => simp [bitsV]
  | cons x r ih =>
    have h1 := h x (by simp)
    have h2 := ih fun y hy => h y (by simp [hy])
    rw [bitsV, List.length_cons, Nat.pow_succ]
    omega
theorem bitsV_mod (x k : Nat) : x % 2 ^ (k + 1) = x % 2 ^ k + 2 ^ k * (x / 2 ^ k % 2) := by
  rw [Nat.pow_succ, Nat.mod_mul]

structure RWrH (w : World) (base g : Nat) (s : Slc) (L : List UInt8) : Prop where
  blk : Blk w g ty_phosphorref1_Writer [.slice s.a s.n s.c]
  own : Own E_uint8 w base s L
  hg : base ≤ g
  one : ∀ x ∈ L, x.toNat ≤ 1
/-- The document's writer holds V in n bits. -/
def RWr (w : World) (base g V n : Nat) : Prop := ∃ s L, RWrH w base g s L ∧ bitsV L = V ∧ L.length = n
theorem RWr.ext {w w' : World} {base g V n : Nat} (h : RWr w base g V n) (hb : Below w.heap.size w w') : RWr w' base g V n := by
  obtain ⟨s, L, h, h1, h2⟩ := h
  exact ⟨s, L, ⟨h.blk.ext hb, h.own.ext hb, h.hg, h.one⟩, h1, h2⟩

theorem rWBits_spec {w : World} {base g V n x k : Nat} {K : World → Prop} (h : RWr w base g V n) (hbase : base ≤ w.heap.size) (hx : x < 2 ^ 32) (hk1 : 1 ≤ k) (hk : k ≤ 32) (hn : n ≤ 100000000000)
    (hK : ∀ w', RWr w' base g (V + 2 ^ n * (x % 2 ^ k)) (n + k) → Below base w w' → K w') : c_phosphorref1_Writer_Bits (some ⟨g, 0, none⟩) (x : Int) (k : Int) w K := by
  refine call_phosphorref1_Writer_Bits _ _ _ ?_
  unfold sh_phosphorref1_Writer_Bits
  simp only [onPtr_some]
  refine joinP_of fun J hJ => ?_
  refine cond_f (decide_eq_false (by omega)) (cond_f (decide_eq_false (by omega)) (hJ _ _ ?_))
  refine loopP_rule (fun (s : Int × Unit) w1 => ∃ i : Nat, s.1 = i ∧ i ≤ k ∧ RWr w1 base g (V + 2 ^ n * (x % 2 ^ i)) (n + i) ∧ Below base w w1) (fun s => k - s.1.toNat) ⟨0, rfl, by omega, by simpa [Nat.mod_one] using h, Below.refl _ _⟩ ?_
  rintro ⟨i, _⟩ w1 ⟨i, rfl, hi, ⟨s, L, h1, hV, hl⟩, hB⟩ I hI
  dsimp only at *
  have hs1 := Nat.le_trans hbase hB.size
  refine cond_of (fun hlt => ?_) (fun hge => ?_)
  · have hlt := of_decide_eq_true hlt
    refine ldSl_of (x := s) (h1.blk.cells 0 _ rfl) ?_
    rw [wrap_nat .u64 (x := i) (by show i < 2 ^ 64; omega)]
    refine ⟨by omega, ?_⟩
    have em : min ((i : Int)).toNat IntKind.u32.bits = i := by show min i 32 = i; omega
    rw [em, fdiv_nat]
    have hd : x / 2 ^ i < 2 ^ 32 := Nat.lt_of_le_of_lt (Nat.div_le_self _ _) hx
    have e1 : bitsR .and .u32 ((x / 2 ^ i : Nat) : Int) 1 = ((x / 2 ^ i % 2 : Nat) : Int) := by
      rw [show (1 : Int) = ((1 : Nat) : Int) from rfl, bits_and .u32 hd (by decide), one_and]
    have hbit : (UInt8.ofNat (x / 2 ^ i % 2)).toNat = x / 2 ^ i % 2 := by rw [UInt8.toNat_ofNat']; omega
    rw [e1, wrap_nat .u8 (x := x / 2 ^ i % 2) (by show _ < 2 ^ 8; omega)]
    refine apB1 (c := UInt8.ofNat (x / 2 ^ i % 2)) (by rw [hbit]) h1.own hs1 (by omega) fun r w2 ho2 hc2 hq => ?_
    have hb2 := h1.blk.chg hc2 fun e => own_ne_blk h1.own h1.blk (by decide) g e rfl
    rw [add_mk]
    refine stK_blk hb2 (by simp) fun w3 hb3 hg3 hs3 => ?_
    have hb3 : Blk w3 g ty_phosphorref1_Writer [.slice r.a r.n r.c] := hb3
    have ho3 := ho2.chg (Chg.gg hg3) (own_ne_blk ho2 hb2 (by decide))
    rw [wrap64_id (by omega)]
    have hgb := h1.hg
    refine hI _ _ ⟨i + 1, rfl, by omega, ⟨r, _, ⟨hb3, ho3, h1.hg, fun y hy => ?_⟩, ?_, by simp; omega⟩, ?_⟩ (by simp; omega)
    · rw [List.mem_append, List.mem_singleton] at hy
      rcases hy with hy | rfl
      · exact h1.one y hy
      · omega
    · rw [bitsV_append, hV, hl, bitsV_mod x i, Nat.mul_add, Nat.pow_add]
      simp only [bitsV, hbit, Nat.mul_zero, Nat.add_zero]
      rw [Nat.add_assoc, Nat.mul_assoc]
    · refine hB.trans ((hc2.below hs1 fun j hj e => by have := (h1.own.lt j e).1; omega).trans ((Chg.gg hg3).below ?_ fun j hj e => by omega))
      exact Nat.le_trans hs1 hc2.size
  · have hge := of_decide_eq_false hge
    have : i = k := by omega
    subst this
    exact hK w1 ⟨s, L, h1, hV, hl⟩ hB

theorem le_get (ys : List UInt8) (j : Nat) (hj : j < ys.length) : le ys / 256 ^ j % 256 = (ys[j]).toNat := by
  rw [le_drop ys j (by omega), List.drop_eq_getElem_cons hj, le]
  have := (ys[j]).toNat_lt
  omega
theorem le_set : ∀ (ys : List UInt8) (j : Nat) (y : UInt8) (hj : j < ys.length), le (ys.set j y) + 256 ^ j * (ys[j]).toNat = le ys + 256 ^ j * y.toNat
  | x :: r, 0, y, _ => by
    simp only [List.set_cons_zero, le, Nat.pow_zero, Nat.one_mul, List.getElem_cons_zero]
    omega
  | x :: r, j + 1, y, hj => by
    have ih := le_set r j y (by simpa using hj)
    simp only [List.set_cons_succ, le, List.getElem_cons_succ, Nat.pow_succ]
    have e1 : 256 ^ j * 256 * (r[j]'(by simpa using hj)).toNat = 256 * (256 ^ j * (r[j]'(by simpa using hj)).toNat) := by rw [Nat.mul_comm (256 ^ j), Nat.mul_assoc]
    have e2 : 256 ^ j * 256 * y.toNat = 256 * (256 ^ j * y.toNat) := by rw [Nat.mul_comm (256 ^ j), Nat.mul_assoc]
    rw [e1, e2]
    omega
theorem le_zeros (n : Nat) : le (List.replicate n 0) = 0 := by
  induction n with
  | zero => rfl
  | succ n ih => rw [List.replicate_succ, le, ih]; rfl

theorem rWDone_spec {w : World} {base g V n : Nat} {K : Slc → World → Prop} (h : RWr w base g V n) (hn : n ≤ 100000000000)
    (hK : ∀ r ys w', Own E_uint8 w' w.heap.size r ys → le ys = V → ys.length = (n + 7) / 8 → Below w.heap.size w w' → K r w') : c_phosphorref1_Writer_Done (some ⟨g, 0, none⟩) w K := by
  refine call_phosphorref1_Writer_Done _ ?_
  unfold sh_phosphorref1_Writer_Done
  simp only [onPtr_some]
  obtain ⟨s, L, h0, hV, hl⟩ := h
  have hln := h0.own.rd.n
  refine ldSl_of (x := s) (h0.blk.cells 0 _ rfl) ⟨by decide, ?_⟩
  have e8 : IntKind.i64.wrap ((IntKind.i64.wrap (((s.n : Nat) : Int) + (7 : Int))).tdiv (8 : Int)) = (((n + 7) / 8 : Nat) : Int) := by
    rw [wrap64_id (x := ((s.n : Nat) : Int) + 7) (by omega), wrap64_id]
    · rw [hln, hl, show ((n : Nat) : Int) + 7 = ((n + 7 : Nat) : Int) from rfl, show (8 : Int) = ((8 : Nat) : Int) from rfl, ← Int.ofNat_tdiv]
    · rw [hln, hl, show ((n : Nat) : Int) + 7 = ((n + 7 : Nat) : Int) from rfl, show (8 : Int) = ((8 : Nat) : Int) from rfl, ← Int.ofNat_tdiv]
      omega
  rw [e8]
  refine mkSl_of sT_sl_uint8 (x0 := (0 : UInt8)) rfl rfl rfl (by rw [by_sl_uint8]; omega) (by simp only [maxLen]; omega) fun w1 ho1 hB1 => ?_
  obtain ⟨t, ht⟩ : ∃ t : Slc, t = ⟨some ⟨w.heap.size, 0, none⟩, (n + 7) / 8, (n + 7) / 8⟩ := ⟨_, rfl⟩
  rw [← ht] at ho1 ⊢
  refine loopP_rule (fun (s : Int × Unit) w2 => ∃ (i : Nat) (ys : List UInt8), s.1 = i ∧ i ≤ n ∧ Own E_uint8 w2 w.heap.size t ys ∧ ys.length = (n + 7) / 8 ∧ le ys = bitsV (L.take i) ∧ Below w.heap.size w w2) (fun s => n - s.1.toNat) ⟨0, _, rfl, by omega, ho1, by simp, by rw [le_zeros]; rfl, hB1⟩ ?_
  rintro ⟨i, _⟩ w2 ⟨i, ys, rfl, hi, ho2, hyl, hle, hB2⟩ I hI
  dsimp only at *
  have hb2 := h0.blk.ext hB2
  have hL2 := h0.own.ext hB2
  refine ldSl_of (x := s) (hb2.cells 0 _ rfl) ?_
  refine cond_of (fun hlt => ?_) (fun hge => ?_)
  · have hlt := of_decide_eq_true hlt
    have hil : i < L.length := by omega
    have hj : i / 8 < ys.length := by omega
    have e1 : IntKind.i64.wrap ((i : Int).tdiv (8 : Int)) = ((i / 8 : Nat) : Int) := by
      rw [show (8 : Int) = ((8 : Nat) : Int) from rfl, ← Int.ofNat_tdiv, wrap64_id (by omega)]
    have e2 : (i : Int).tmod (8 : Int) = ((i % 8 : Nat) : Int) := by rw [show (8 : Int) = ((8 : Nat) : Int) from rfl, ← Int.ofNat_tmod]
    rw [e1, e2]
    refine ⟨by decide, by decide, ?_⟩
    have hod : Own E_uint8 w2.drew w.heap.size t ys := ho2
    have hLd : Own E_uint8 w2.drew base s L := hL2
    have hbd : Blk w2.drew g ty_phosphorref1_Writer [.slice s.a s.n s.c] := hb2
    obtain ⟨y, hy, hys⟩ := get_of (xs := ys) (k := i / 8) hj
    obtain ⟨b, hb, hbs⟩ := get_of (xs := L) (k := i) hil
    refine hod.rd.ix (i := ((i / 8 : Nat) : Int)) rfl (by omega) (by omega) fun hc => ?_
    rw [hys] at hc
    refine ldB8 (b := y) hc ?_
    refine ldSl_of (x := s) (hbd.cells 0 _ rfl) ?_
    refine hLd.rd.ix (i := (i : Int)) rfl (by omega) (by omega) fun hc2 => ?_
    rw [hbs] at hc2
    refine ldB8 (b := b) hc2 ⟨by decide, ?_⟩
    rw [wrap_nat .u64 (x := i % 8) (by show _ < 2 ^ 64; omega)]
    refine ⟨by omega, ?_⟩
    have em : min (((i % 8 : Nat) : Int)).toNat IntKind.u8.bits = i % 8 := by show min (i % 8) 8 = i % 8; omega
    have hb1 : b.toNat ≤ 1 := h0.one b (List.mem_of_getElem? hb)
    have hp : 2 ^ (i % 8) ≤ 2 ^ 7 := Nat.pow_le_pow_right (by decide) (by omega)
    have hbp : b.toNat * 2 ^ (i % 8) ≤ 2 ^ (i % 8) := by
      have := Nat.mul_le_mul_right (2 ^ (i % 8)) hb1
      rwa [Nat.one_mul] at this
    -- the byte holds less than the bit that comes
    have hlt2 : bitsV (L.take i) < 2 ^ i := by
      have := bitsV_lt (a := L.take i) fun x hx => h0.one x (List.mem_of_mem_take hx)
      rwa [List.length_take, Nat.min_eq_left (by omega)] at this
    have hyv : y.toNat < 2 ^ (i % 8) := by
      have hg := le_get ys (i / 8) hj
      have hye : ys[i / 8] = y := (List.getElem_eq_iff hj).2 hy
      rw [hye, hle] at hg
      rw [← hg]
      have e : 2 ^ i = 256 ^ (i / 8) * 2 ^ (i % 8) := by
        rw [pow256, ← Nat.pow_add]
        congr 1
        omega
      have : bitsV (L.take i) / 256 ^ (i / 8) < 2 ^ (i % 8) := by
        rw [Nat.div_lt_iff_lt_mul (Nat.pow_pos (by decide)), Nat.mul_comm, ← e]
        exact hlt2
      exact Nat.lt_of_le_of_lt (Nat.mod_le _ _) this
    rw [em, mul_pow_nat, wrap_nat .u8 (x := b.toNat * 2 ^ (i % 8)) (by show _ < 2 ^ 8; omega), bits_or .u8 (by show _ < 2 ^ 8; omega) (by show _ < 2 ^ 8; omega), Nat.mul_comm, add_or hyv]
    have hv : y.toNat + 2 ^ (i % 8) * b.toNat < 256 := by rw [Nat.mul_comm]; omega
    have hw : (UInt8.ofNat (y.toNat + 2 ^ (i % 8) * b.toNat)).toNat = y.toNat + 2 ^ (i % 8) * b.toNat := by rw [UInt8.toNat_ofNat']; omega
    refine hod.rd.ix (i := ((i / 8 : Nat) : Int)) rfl (by omega) (by omega) fun _ => ?_
    refine hod.st0 (x := y) (y := UInt8.ofNat (y.toNat + 2 ^ (i % 8) * b.toNat)) hy (by show [Value.int .u8 _] = _; rw [hw]) fun w3 ho3 hg3 hs3 => ?_
    have hc3 : Chg (fun j => t.blk = some j) w2.drew w3 := Chg.of_grown hg3 fun j hj => hj
    rw [wrap64_id (by omega)]
    have hBd : Below w2.heap.size w2 w2.drew := (Below.refl _ w2).drew
    refine hI _ _ ⟨i + 1, _, rfl, by omega, ho3, by rw [List.length_set]; exact hyl, ?_, (hB2.trans (hBd.mono hB2.size)).trans (hc3.below hB2.size fun j hj e => by have := (ho2.lt j e).1; omega)⟩ (by simp; omega)
    have hset := le_set ys (i / 8) (UInt8.ofNat (y.toNat + 2 ^ (i % 8) * b.toNat)) hj
    have hye : ys[i / 8] = y := (List.getElem_eq_iff hj).2 hy
    rw [hye, hw, hle] at hset
    rw [List.take_add_one, hb, bitsV_append, List.length_take, Nat.min_eq_left (by omega)]
    have e : 2 ^ i = 256 ^ (i / 8) * 2 ^ (i % 8) := by
      rw [pow256, ← Nat.pow_add]
      congr 1
      omega
    simp only [Option.toList_some, bitsV, Nat.mul_zero, Nat.add_zero]
    rw [e, Nat.mul_assoc]
    rw [Nat.mul_add] at hset
    omega
  · have hge := of_decide_eq_false hge
    have : i = n := by omega
    subst this
    rw [← hl, List.take_length, hV] at hle
    exact hK t ys w2 ho2 hle hyl hB2

/-! ### Fixed -/
theorem fixed_at : ∀ i, i < 288 → fixedL[i]? = some (if i < 144 then 8 else if i < 256 then 9 else if i < 280 then 7 else 8) := by decide +kernel
theorem fixed_good : goodTab fixedL ∧ ¬ badTab fixedL := by
  have a : ∀ x ∈ fixedL, x.toNat ≤ 15 := by decide +kernel
  have b : roomN fixedL = 32768 := by decide +kernel
  refine ⟨⟨a, .inl b⟩, fun h => ?_⟩
  rcases h with (h | ⟨x, hx, hx15⟩) | h
  · exact absurd h (by decide +kernel)
  · have := a x hx; omega
  · exact h (.inl b)

theorem rHFixed_spec {w : World} {K : Slc → Slc → World → Prop} (hK : ∀ r q w', Own E_uint8 w' w.heap.size r fixedL → Own E_uint8 w' w.heap.size q (List.replicate 30 5) → Below w.heap.size w w' → K r q w') : c_phosphorref4_Fixed w K := by
  refine call_phosphorref4_Fixed ?_
  unfold sh_phosphorref4_Fixed
  refine mkSl_of sT_sl_uint8 (x0 := (0 : UInt8)) (n := 288) rfl rfl rfl (by rw [by_sl_uint8]; omega) (by simp only [maxLen]; omega) fun w1 ho1 hB1 => ?_
  obtain ⟨t, ht⟩ : ∃ t : Slc, t = ⟨some ⟨w.heap.size, 0, none⟩, 288, 288⟩ := ⟨_, rfl⟩
  rw [← ht] at ho1 ⊢
  have hfl : fixedL.length = (List.replicate 288 (0 : UInt8)).length := by decide
  have hrl : (List.replicate 288 (0 : UInt8)).length = 288 := by decide
  refine loopP_rule (fun (s : Int × Unit) w2 => ∃ i : Nat, s.1 = i ∧ i ≤ 288 ∧ Own E_uint8 w2 w.heap.size t (mix fixedL (List.replicate 288 0) i) ∧ Below w.heap.size w w2) (fun s => 288 - s.1.toNat) ⟨0, rfl, by omega, by rw [mix_zero]; exact ho1, hB1⟩ ?_
  rintro ⟨i, _⟩ w2 ⟨i, rfl, hi, ho2, hB2⟩ I hI
  dsimp only at *
  refine cond_of (fun hlt => ?_) (fun hge => ?_)
  · have hlt := of_decide_eq_true hlt
    have hi2 : i < 288 := by omega
    rw [wrap64_id (by omega)]
    have hf := fixed_at i hi2
    have one : ∀ v : UInt8, fixedL[i]? = some v → ixK t (i : Int) 1 fun t19 => stK t19 [(.int .u8 (v.toNat : Int))] w2 fun w3 => I ((i : Int) + 1, ()) w3 := fun v hv => by
      refine ho2.rd.ix (i := (i : Int)) rfl (by omega) (by rw [mix_length hfl, hrl]; omega) fun _ => ?_
      refine ho2.st0 (x := 0) (y := v) (by rw [show ((i : Int)).toNat = i from rfl, mix_get hfl (by rw [hrl]; exact hi2), if_neg (by omega), List.getElem?_replicate, if_pos hi2]) rfl fun w3 ho3 hg3 hs3 => ?_
      rw [show ((i : Int)).toNat = i from rfl, mix_set hfl (by rw [hrl]; exact hi2) hv] at ho3
      have hc3 : Chg (fun j => t.blk = some j) w2 w3 := Chg.of_grown hg3 fun j hj => hj
      exact hI _ _ ⟨i + 1, rfl, by omega, ho3, hB2.trans (hc3.below hB2.size fun j hj e => by have := (ho2.lt j e).1; omega)⟩ (by simp; omega)
    refine cond_of (fun h1 => ?_) (fun h1 => ?_)
    · have h1 := of_decide_eq_true h1
      rw [if_pos (by omega)] at hf
      exact one 8 hf
    · have h1 := of_decide_eq_false h1
      rw [if_neg (by omega)] at hf
      refine cond_of (fun h2 => ?_) (fun h2 => ?_)
      · have h2 := of_decide_eq_true h2
        rw [if_pos (by omega)] at hf
        exact one 9 hf
      · have h2 := of_decide_eq_false h2
        rw [if_neg (by omega)] at hf
        refine cond_of (fun h3 => ?_) (fun h3 => ?_)
        · have h3 := of_decide_eq_true h3
          rw [if_pos (by omega)] at hf
          exact one 7 hf
        · have h3 := of_decide_eq_false h3
          rw [if_neg (by omega)] at hf
          exact one 8 hf
  · have hge := of_decide_eq_false hge
    have : i = 288 := by omega
    subst this
    have hm := mix_all hfl
    rw [hrl] at hm
    rw [hm] at ho2
    refine mkSl_of sT_sl_uint8 (x0 := (0 : UInt8)) (n := 30) rfl rfl rfl (by rw [by_sl_uint8]; omega) (by simp only [maxLen]; omega) fun w3 ho3 hB3 => ?_
    obtain ⟨u, hu⟩ : ∃ u : Slc, u = ⟨some ⟨w2.heap.size, 0, none⟩, 30, 30⟩ := ⟨_, rfl⟩
    rw [← hu] at ho3 ⊢
    have hfl : (List.replicate 30 (5 : UInt8)).length = (List.replicate 30 (0 : UInt8)).length := by decide
    have hrl : (List.replicate 30 (0 : UInt8)).length = 30 := by decide
    refine loopP_rule (fun (s : Int × Unit) w4 => ∃ i : Nat, s.1 = i ∧ i ≤ 30 ∧ Own E_uint8 w4 w2.heap.size u (mix (List.replicate 30 5) (List.replicate 30 0) i) ∧ Below w2.heap.size w2 w4) (fun s => 30 - s.1.toNat) ⟨0, rfl, by omega, by rw [mix_zero]; exact ho3, hB3⟩ ?_
    rintro ⟨i, _⟩ w4 ⟨i, rfl, hi, ho4, hB4⟩ I hI
    dsimp only at *
    refine cond_of (fun hlt => ?_) (fun hge => ?_)
    · have hlt := of_decide_eq_true hlt
      have hi2 : i < 30 := by omega
      rw [wrap64_id (by omega)]
      refine ho4.rd.ix (i := (i : Int)) rfl (by omega) (by rw [mix_length hfl, hrl]; omega) fun _ => ?_
      refine ho4.st0 (x := 0) (y := 5) (by rw [show ((i : Int)).toNat = i from rfl, mix_get hfl (by rw [hrl]; exact hi2), if_neg (by omega), List.getElem?_replicate, if_pos hi2]) rfl fun w5 ho5 hg5 hs5 => ?_
      rw [show ((i : Int)).toNat = i from rfl, mix_set hfl (by rw [hrl]; exact hi2) (by rw [List.getElem?_replicate, if_pos hi2])] at ho5
      have hc5 : Chg (fun j => u.blk = some j) w4 w5 := Chg.of_grown hg5 fun j hj => hj
      exact hI _ _ ⟨i + 1, rfl, by omega, ho5, hB4.trans (hc5.below hB4.size fun j hj e => by have := (ho4.lt j e).1; omega)⟩ (by simp; omega)
    · have hge := of_decide_eq_false hge
      have : i = 30 := by omega
      subst this
      have hm := mix_all hfl
      rw [hrl] at hm
      rw [hm] at ho4
      exact hK t u w4 (ho2.ext hB4) (ho4.base hB2.size) (hB2.trans (hB4.mono hB2.size))

theorem rone_sym {base g base2 tg : Nat} {lo co : Slc} {p : Nat × Nat} {y : Nat} {w : World} {K : World → Prop} (ht : RTab w base2 tg lo co fixedL) (h : RWr w base g p.1 p.2) (hy : y < 288) (hbase : base ≤ w.heap.size) (hn : p.2 ≤ 100000000000)
    (hK : ∀ w', RWr w' base g (putN p y).1 (putN p y).2 → Below base w w' → K w') : c_phosphorref4_Table_Code (some ⟨tg, 0, none⟩) (y : Int) w fun t32 t32_1 w6 => c_phosphorref1_Writer_Bits (some ⟨g, 0, none⟩) t32 t32_1 w6 fun w7 => K w7 := by
  obtain ⟨x, hx, hxk, hk7, hk9⟩ := kN_get hy
  refine rCode_spec ht hx (by omega) ?_
  rw [hxk]
  have hlt := revN_lt (codeK fixedL (kN y) y) (kN y)
  have h32 : 2 ^ kN y ≤ 2 ^ 9 := Nat.pow_le_pow_right (by decide) hk9
  have hBd : Below w.heap.size w w.drew := (Below.refl _ w).drew
  refine rWBits_spec (h.ext hBd) hbase (by omega) (by omega) (by omega) (by omega) fun w' h' hB => ?_
  rw [Nat.mod_eq_of_lt hlt] at h'
  exact hK w' h' ((hBd.mono hbase).trans hB)

theorem rFixed_spec {b : Slc} {bs : List UInt8} {w : World} {K : Slc → World → Prop} (hb : Rd E_uint8 w b bs) (hl : bs.length ≤ 1000000000)
    (hK : ∀ r ys w', Own E_uint8 w' w.heap.size r ys → le ys = (fixedN bs).1 → ys.length = ((fixedN bs).2 + 7) / 8 → Below w.heap.size w w' → K r w') : c_phosphorref5_Fixed b w K := by
  refine call_phosphorref5_Fixed _ ?_
  unfold sh_phosphorref5_Fixed
  rw [hb.n]
  refine rHFixed_spec fun t6 t7 w1 ho1 _ hB1 => ?_
  refine rNew_spec ho1.rd (fun h => absurd h fixed_good.2) fun _ tg lo co w2 hf hB2 => ?_
  have hs1 := hB1.size
  have hs2 := hB2.size
  refine nw_blk fun w3 hb3 hB3 hs3 => ?_
  obtain ⟨g, hg⟩ : ∃ g, g = w2.heap.size := ⟨_, rfl⟩
  rw [← hg] at hb3 ⊢
  have h3 : RWr w3 w2.heap.size g 0 0 := ⟨nilS, [], ⟨hb3, Own.nil _ _ _, by omega, fun x hx => by simp at hx⟩, rfl, rfl⟩
  have hs3 := hB3.size
  refine rWBits_spec (x := 1) (k := 1) h3 hs3 (by decide) (by decide) (by decide) (by decide) fun w4 h4 hB4 => ?_
  have hs4 := hB4.size
  refine rWBits_spec (x := 1) (k := 2) h4 (by omega) (by decide) (by decide) (by decide) (by decide) fun w5 h5 hB5 => ?_
  have hB13 : Below w.heap.size w w3 := hB1.trans ((hB2.mono hs1).trans (hB3.mono (Nat.le_trans hs1 hs2)))
  have hB35 : Below w2.heap.size w3 w5 := hB4.trans hB5
  have tab : ∀ {w'}, Below w2.heap.size w3 w' → RTab w' w1.heap.size tg lo co fixedL := fun hB => hf.ext (hB3.trans hB)
  have h5 : RWr w5 w2.heap.size g (bytesN []).1 (bytesN []).2 := h5
  have row : ∀ {w'}, Below w2.heap.size w3 w' → Rd E_uint8 w' b bs := fun hB => hb.ext (hB13.trans (hB.mono (Nat.le_trans hs1 hs2)))
  refine loopP_rule_w (fun m (s : Int × Unit) w5 => ∃ i : Nat, s.1 = (i : Int) ∧ i ≤ bs.length ∧ m = bs.length + 1 - i ∧ RWr w5 w2.heap.size g (bytesN (bs.take i)).1 (bytesN (bs.take i)).2 ∧ Below w2.heap.size w3 w5 ∨ s.1 = ((bs.length + 1 : Nat) : Int) ∧ m = 0 ∧ RWr w5 w2.heap.size g (fixedN bs).1 (fixedN bs).2 ∧ Below w2.heap.size w3 w5) (bs.length + 1) ⟨0, .inl ⟨rfl, Nat.zero_le _, by omega, h5, hB35⟩⟩ ?_
  rintro m ⟨s, _⟩ w6 ⟨i, h⟩ I hI
  have hle := bytesN_le bs
  have hk9 : kN 256 ≤ 9 := by obtain ⟨_, _, _, _, hk9⟩ := kN_get (y := 256) (by decide); exact hk9
  have e2 : (fixedN bs).2 = (bytesN bs).2 + kN 256 := rfl
  dsimp only at *
  rcases h with ⟨rfl, hi, rfl, h6, hB6⟩ | ⟨rfl, rfl, h6, hB6⟩
  · have hs6 : w2.heap.size ≤ w6.heap.size := Nat.le_trans hs3 hB6.size
    have hle := bytesN_le (bs.take i)
    rw [List.length_take] at hle
    refine cond_t (decide_eq_true (by omega)) ?_
    refine joinP_of fun J hJ => ?_
    refine cond_of (fun hlt => ?_) (fun hge => ?_)
    · have hlt : i < bs.length := by have := of_decide_eq_true hlt; omega
      refine (row hB6).ix (i := (i : Int)) rfl (by omega) (by omega) fun hc => ?_
      refine ldB8 (b := bs[i]) hc (hJ _ _ ?_)
      have hbl := (bs[i]).toNat_lt
      dsimp only
      rw [wrap_nat .i64 (x := (bs[i]).toNat) (by show _ < 2 ^ 63; omega)]
      refine rone_sym (p := bytesN (bs.take i)) (tab hB6) h6 (by omega) hs6 (by omega) fun w7 h7 hB7 => ?_
      rw [wrap64_id (by omega), show (i : Int) + 1 = ((i + 1 : Nat) : Int) from rfl]
      refine hI (bs.length + 1 - (i + 1)) (((i + 1 : Nat) : Int), ()) w7 ⟨i + 1, .inl ⟨rfl, by omega, rfl, ?_, hB6.trans hB7⟩⟩ (by omega)
      rw [List.take_succ_eq_append_getElem hlt, bytesN_snoc]
      exact h7
    · have hge : i = bs.length := by have := of_decide_eq_false hge; omega
      subst hge
      rw [List.take_length] at h6 hle
      refine hJ _ _ ?_
      dsimp only
      refine rone_sym (p := bytesN bs) (y := 256) (tab hB6) h6 (by decide) hs6 (by omega) fun w7 h7 hB7 => ?_
      rw [wrap64_id (by omega)]
      exact hI 0 _ w7 ⟨0, .inr ⟨rfl, rfl, h7, hB6.trans hB7⟩⟩ (by omega)
  · have hs6 : w2.heap.size ≤ w6.heap.size := Nat.le_trans hs3 hB6.size
    refine cond_f (decide_eq_false (by omega)) ?_
    refine rWDone_spec h6 (by omega) fun r ys w7 ho hle7 hlen hB7 => ?_
    exact hK r ys w7 (ho.base (by omega)) hle7 hlen (hB13.trans ((hB6.mono (Nat.le_trans hs1 hs2)).trans (hB7.mono (by omega))))

theorem rStore_spec {b : Slc} {bs : List UInt8} {w : World} {K : Slc → World → Prop} (hb : Rd E_uint8 w b bs) (hl : bs.length ≤ 1000000000)
    (hK : ∀ r w', Own E_uint8 w' w.heap.size r (storeL bs) → Below w.heap.size w w' → K r w') : c_phosphorref5_Store b w K := by
  refine call_phosphorref5_Store _ ?_
  unfold sh_phosphorref5_Store
  have hsl := storeL_length _ bs (Nat.le_refl _)
  rw [hb.n]
  refine loopP_rule_w (fun m (s : Slc × Int × Unit) w1 => ∃ (at_ : Nat) (done : List UInt8), s.2.1 = (at_ : Int) ∧ at_ ≤ bs.length ∧ m = bs.length - at_ ∧ storeL bs = done ++ storeL (bs.drop at_) ∧ Own E_uint8 w1 w.heap.size s.1 done ∧ Below w.heap.size w w1) bs.length ⟨0, [], rfl, Nat.zero_le _, by omega, by simp, Own.nil _ _ _, Below.refl _ _⟩ ?_
  rintro m ⟨t, a, _⟩ w1 ⟨at_, done, rfl, hat, rfl, hst, ho, hB⟩ I hI
  dsimp only at *
  have hs1 := hB.size
  obtain ⟨rest, hrest⟩ : ∃ rest, rest = bs.drop at_ := ⟨_, rfl⟩
  have hrl : rest.length = bs.length - at_ := by rw [hrest, List.length_drop]
  rw [← hrest] at hst
  have hdl : done.length + (storeL rest).length ≤ 6 * bs.length + 5 := by
    rw [hst, List.length_append] at hsl; exact hsl
  obtain ⟨n, hn⟩ : ∃ n : Nat, n = min 65535 rest.length := ⟨_, rfl⟩
  rw [wrap64_id (x := ((bs.length : Nat) : Int) - (at_ : Int)) (by omega)]
  refine joinP_of fun J hJ => ?_
  have go : ∀ lastN : Nat, (lastN = 1 ∧ n = rest.length ∨ lastN = 0 ∧ n = 65535 ∧ 65535 < rest.length) → J ((n : Int), (lastN : Int), ()) w1 := fun lastN hlast => hJ _ _ (by
    clear hJ
    dsimp only
    refine ⟨by decide, by decide, ?_⟩
    have w1b : IntKind.u8.wrap (n : Int) = (((UInt8.ofNat (n % 256)).toNat : Nat) : Int) := by
      rw [wrap8_u8]
      show (((UInt8.ofNat ((n : Int) % 256).toNat).toNat : Nat) : Int) = _
      rw [UInt8.toNat_ofNat', UInt8.toNat_ofNat']
      omega
    have w2b : IntKind.u8.wrap ((n : Int).fdiv (2 ^ (min ((8 : Int)).toNat IntKind.i64.bits))) = (((UInt8.ofNat (n / 256)).toNat : Nat) : Int) := by
      rw [show min ((8 : Int)).toNat IntKind.i64.bits = 8 by decide, fdiv_nat, wrap8_u8]
      show (((UInt8.ofNat (((n / 2 ^ 8 : Nat) : Int) % 256).toNat).toNat : Nat) : Int) = _
      rw [UInt8.toNat_ofNat', UInt8.toNat_ofNat']
      omega
    have c1 : (UInt8.ofNat (n % 256)).toNat = n % 256 := by rw [UInt8.toNat_ofNat']; omega
    have c2 : (UInt8.ofNat (n / 256)).toNat = n / 256 := by rw [UInt8.toNat_ofNat']; omega
    have x1 : bitsR .xor .u8 (255) (((UInt8.ofNat (n % 256)).toNat : Nat) : Int) = (((UInt8.ofNat (255 - n % 256)).toNat : Nat) : Int) := by
      rw [show (255 : Int) = ((255 : Nat) : Int) from rfl, bits_xor .u8 (by decide) (by show _ < 2 ^ 8; omega), c1, xor255 _ (by omega), UInt8.toNat_ofNat']
      omega
    have x2 : bitsR .xor .u8 (255) (((UInt8.ofNat (n / 256)).toNat : Nat) : Int) = (((UInt8.ofNat (255 - n / 256)).toNat : Nat) : Int) := by
      rw [show (255 : Int) = ((255 : Nat) : Int) from rfl, bits_xor .u8 (by decide) (by show _ < 2 ^ 8; omega), c2, xor255 _ (by omega), UInt8.toNat_ofNat']
      omega
    have l1 : ((lastN : Nat) : Int) = (((UInt8.ofNat lastN).toNat : Nat) : Int) := by rw [UInt8.toNat_ofNat']; omega
    rw [w2b, w1b, x1, x2]
    conv => arg 2; rw [l1]
    refine nw_blk fun w2 hb2 hB2 hs2 => ?_
    have hs2' : w1.heap.size ≤ w2.heap.size := hB2.size
    have hhd : Rd E_uint8 w2 ⟨some ⟨w1.heap.size, 0, none⟩, 5, 5⟩ (headS lastN n) := rd_lits (E := E_uint8) (ys := headS lastN n) hb2 (by simp [maxLen, headS]) rfl
    have hsr : 5 + n ≤ (storeL rest).length := by
      rw [storeL]
      split
      · simp [headS]; omega
      · simp [headS]; omega
    have h5 : (headS lastN n).length = 5 := rfl
    refine apB (ho.ext hB2) hhd (by omega) (by omega) fun r3 w3 ho3 hc3 hq3 => ?_
    have hs3 := hc3.size
    have own1 : ∀ i, i < w.heap.size → ¬ t.blk = some i := fun i hi e => by have := (ho.lt i e).1; omega
    have hB3 : Below w.heap.size w w3 := (hB.trans (hB2.mono hs1)).trans (hc3.below (by omega) own1)
    rw [wrap64_id (x := (at_ : Int) + (n : Int)) (by omega)]
    refine hb.slK (l := at_) (m := at_ + n) rfl (.inr rfl) (.inr rfl) (by omega) (by omega) fun hp => ?_
    have ep : (bs.take (at_ + n)).drop at_ = rest.take n := by rw [hrest, List.drop_take]; congr 1; omega
    rw [ep] at hp
    have htl : (rest.take n).length = n := by rw [List.length_take]; omega
    have h5' : (done ++ headS lastN n).length = done.length + 5 := by rw [List.length_append, h5]
    refine apB ho3 (hp.ext hB3) (by omega) (by omega) fun r4 w4 ho4 hc4 hq4 => ?_
    have hs4 := hc4.size
    have own3 : ∀ i, i < w.heap.size → ¬ r3.blk = some i := fun i hi e => by have := (ho3.lt i e).1; omega
    have hB4 : Below w.heap.size w w4 := hB3.trans (hc4.below (by omega) own3)
    refine cond_of (fun e1 => ?_) (fun e0 => ?_)
    · have e1 : lastN = 1 := by have := eq_of_beq e1; omega
      have hnr : n = rest.length := by rcases hlast with ⟨_, h⟩ | ⟨h, _⟩ <;> omega
      refine hK r4 w4 ?_ hB4
      have : storeL bs = done ++ headS lastN n ++ rest.take n := by
        rw [hst, storeL, dif_pos (by omega), e1, hnr, List.take_length, List.append_assoc]
      rw [this]
      exact ho4
    · have e0 : lastN ≠ 1 := by intro e; subst e; exact absurd rfl (beq_eq_false_iff_ne.1 e0)
      obtain ⟨hn65, hlong⟩ : n = 65535 ∧ 65535 < rest.length := by rcases hlast with ⟨h, _⟩ | ⟨_, h⟩; exact absurd h e0; exact h
      have hl0 : lastN = 0 := by rcases hlast with ⟨h, _⟩ | ⟨h, _⟩; exact absurd h e0; exact h
      rw [wrap64_id (x := (at_ : Int) + 65535) (by omega), show (at_ : Int) + 65535 = ((at_ + 65535 : Nat) : Int) from rfl]
      refine hI (bs.length - (at_ + 65535)) _ w4 ⟨at_ + 65535, done ++ headS lastN n ++ rest.take n, rfl, by omega, rfl, ?_, ho4, hB4⟩ (by omega)
      rw [hst]
      conv => lhs; rw [storeL, dif_neg (by omega)]
      rw [hl0, hn65, List.append_assoc, List.append_assoc, List.append_assoc, hrest, List.drop_drop])
  refine cond_of (fun e => ?_) (fun e => ?_)
  · have e := of_decide_eq_true e
    have := go 0 (.inr ⟨rfl, by omega, by omega⟩)
    rwa [show n = 65535 by omega] at this
  · have e := of_decide_eq_false e
    have := go 1 (.inl ⟨rfl, by omega⟩)
    rwa [show ((n : Nat) : Int) = ((bs.length : Nat) : Int) - (at_ : Int) by omega] at this
end Go.Proofs.Yteffnkpplhcomaa
