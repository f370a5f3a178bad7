/- The laws of streams there and back, and of two streams as one. -/
import Derived.Test.YteffnkpplhcomaaC2
import Derived.Test.YteffnkpplhcomaaB21
namespace Go.Proofs.Yteffnkpplhcomaa
open Go.Vc Go.RowKit
set_option maxRecDepth 400000

/-- The machine on Fixed(bs) and more, from any start of a block. -/
theorem run_fixed_at {most : Nat} {ys tail bs : List UInt8} {c0 : Cfg} (hm0 : c0.mode = 0) (h1 : le ys = (fixedN bs).1) (h2 : ys.length = ((fixedN bs).2 + 7) / 8) (hmost : c0.hist.length + bs.length ≤ most) :
    ∃ c', Ch most (ys ++ tail) c0 0 c' (fixedN bs).2 ∧ c'.mode = 5 ∧ c'.hist = c0.hist ++ bs := by
  have hB : le (ys ++ tail) = (fixedN bs).1 + 2 ^ (fixedN bs).2 * (2 ^ (8 * ys.length - (fixedN bs).2) * le tail) := by
    rw [le_append, h1, pow256, ← Nat.mul_assoc, ← Nat.pow_add, show (fixedN bs).2 + (8 * ys.length - (fixedN bs).2) = 8 * ys.length by omega]
  have hBl : (ys ++ tail).length = ys.length + tail.length := List.length_append
  have hg : Goes (3, 3) (bytesN bs) := foldN_goes bs (3, 3)
  have hg2 : Goes (bytesN bs) (fixedN bs) := Goes.put _ _
  have lt3 : (3 : Nat) < 2 ^ 3 := by decide
  have ltb : (bytesN bs).1 < 2 ^ (bytesN bs).2 := by
    suffices H : ∀ (l : List UInt8) (p : Nat × Nat), p.1 < 2 ^ p.2 → (foldN p l).1 < 2 ^ (foldN p l).2 from H bs (3, 3) lt3
    intro l
    induction l with
    | nil => intro p h; exact h
    | cons b r ih => intro p h; exact ih _ (putN_lt h _)
  have e256 : (fixedN bs).2 = (bytesN bs).2 + kN 256 := rfl
  have hW : ∀ q, Goes q (fixedN bs) → ∃ W, le (ys ++ tail) = q.1 + 2 ^ q.2 * W := by
    rintro q ⟨g1, V, g2⟩
    refine ⟨V + 2 ^ ((fixedN bs).2 - q.2) * (2 ^ (8 * ys.length - (fixedN bs).2) * le tail), ?_⟩
    rw [hB, g2, Nat.mul_add, ← Nat.mul_assoc (2 ^ q.2) (2 ^ _) _, ← Nat.pow_add, show q.2 + ((fixedN bs).2 - q.2) = (fixedN bs).2 by omega, Nat.add_assoc]
  obtain ⟨W3, hW3⟩ := hW (3, 3) (hg.trans hg2)
  have hv : peekN (ys ++ tail) 0 3 = 3 := by
    unfold peekN
    rw [hW3]
    show (3 + 2 ^ 3 * W3) / 2 ^ 0 % 2 ^ 3 = 3
    omega
  have hg1 := hg.1
  have hg21 := hg2.1
  have s1 : step1 most (ys ++ tail) 0 c0 = .next { c0 with mode := 4, last := true, sg := fixedL, ds := fiveL } 3 := by
    rw [step1, if_neg (show ¬ c0.mode = 5 by rw [hm0]; decide), stepN, if_pos hm0, stepHead, if_neg (by have : (3 : Nat) ≤ (bytesN bs).2 := hg1; omega), hv]
    rfl
  obtain ⟨Wb, hWb⟩ := hW (bytesN bs) hg2
  have r1 := run_lits (most := most) (B := ys ++ tail) bs (3, 3) { c0 with mode := 4, last := true, sg := fixedL, ds := fiveL } Wb hWb (by show (bytesN bs).2 ≤ _; omega) lt3 rfl rfl hmost
  obtain ⟨We, hWe⟩ := hW (fixedN bs) (Goes.refl _)
  have hpk := peek_num (B := ys ++ tail) (p := bytesN bs) (y := 256) hWe ltb (symN_lt _)
  refine ⟨_, .step s1 (r1.trans (.step (run_end (most := most) rfl rfl (by show (bytesN bs).2 + kN 256 ≤ _; omega) hpk) (.refl _ _))), rfl, ?_⟩
  rfl

theorem le_inj : ∀ (a b : List UInt8), a.length = b.length → le a = le b → a = b
  | [], [], _, _ => rfl
  | x :: r, y :: s, hl, h => by
    rw [le, le] at h
    have h1 := x.toNat_lt
    have h2 := y.toNat_lt
    have e1 : x.toNat = y.toNat := by omega
    have e2 : le r = le s := by omega
    rw [le_inj r s (by simpa using hl) e2, UInt8.toNat.inj e1]
theorem strB_beq (a b : List UInt8) : ((strB a).toList == (strB b).toList) = (a == b) := by rw [strB_toList, strB_toList]

theorem run_bytes_len {w : World} {s : Slc} {bs : List UInt8} (h : Rd E_uint8 w s bs) : (convert ty_sl_uint8 ty_string (.slice s.a bs.length s.c)).run PG w = .ok (.string (strB bs)) w := by
  have := run_bytes_strB h
  rwa [h.n] at this
theorem back_law {w : World} {b more : Slc} {bs mo : List UInt8} {fixed : Bool} {K : Bool → World → Prop} (hb : Rd E_uint8 w b bs) (hmo : Rd E_uint8 w more mo) (hK : ∀ w', Below w.heap.size w w' → K true w') : c_phosphorlaw5_InflateBack b more fixed w K := by
  refine call_phosphorlaw5_InflateBack _ _ _ ?_
  unfold sh_phosphorlaw5_InflateBack
  refine known_spec fun w1 hB1 => cond_f rfl ?_
  have hs1 := hB1.size
  rw [hb.n, hmo.n]
  refine joinP_of fun J1 hJ1 => ?_
  refine cond_of (fun _ => hK w1 hB1) (fun hn => cond_of (fun _ => hK w1 hB1) (fun hm => hJ1 _ _ ?_))
  have hn : bs.length ≤ 4096 := by have := of_decide_eq_false hn; omega
  have hm : mo.length ≤ 4096 := by have := of_decide_eq_false hm; omega
  clear hJ1
  have hb1 := hb.ext hB1
  refine Store_spec hb1 (by omega) fun t w2 ho2 hB2 => ?_
  have hs2 := hB2.size
  have hB12 : Below w.heap.size w w2 := hB1.trans (hB2.mono hs1)
  refine rStore_spec (hb.ext hB12) (by omega) fun q w3 ho3 hB3 => ?_
  have hs3 := hB3.size
  have hB13 : Below w.heap.size w w3 := hB12.trans (hB3.mono hB12.size)
  refine joinP_of fun J hJ => ?_
  have go : ∀ (x y : Slc) (ys : List UInt8) w4 c' p', Own E_uint8 w4 w.heap.size x ys → Own E_uint8 w4 w.heap.size y ys → Below w.heap.size w w4 → Ch bs.length (ys ++ mo) cfg0 0 c' p' → c'.mode = 5 → c'.hist = bs → (p' + 7) / 8 = ys.length → ys.length ≤ 100000 → J (x, y, ()) w4 := fun x y ys w4 c' p' hx hy hB hch h5 hh hp hle => hJ _ _ (by
    clear hJ
    dsimp only
    have hs4 := hB.size
    refine nw_blk fun w5 hb5 hB5 hs5 => ?_
    have hB05 : Below w.heap.size w w5 := hB.trans (hB5.mono hs4)
    refine apB (b := w4.heap.size) (own_empty (E := E_uint8) hb5 (Nat.le_refl _)) (hx.ext hB5).rd (by omega) (by simp; omega) fun r6 w6 ho6 hc6 hq6 => ?_
    have hB56 : Below w4.heap.size w5 w6 := hc6.below (by omega) fun i hi e => by injection e with e; have e : w4.heap.size = i := e; omega
    have hB46 : Below w4.heap.size w4 w6 := hB5.trans hB56
    rw [List.nil_append] at ho6
    refine apB ho6 (hmo.ext (hB.trans (hB46.mono hs4))) (by have := hB46.size; omega) (by omega) fun r7 w7 ho7 hc7 hq7 => ?_
    have hB47 : Below w4.heap.size w4 w7 := hB46.trans (hc7.below (by have := hB46.size; omega) fun i hi e => by have := (ho6.lt i e).1; omega)
    have hs7 := hB47.size
    refine Inflate_run (most := bs.length) (by omega) ho7.rd (fun k hk => (ho7.lt k hk).2) (by rw [List.length_append]; omega) hch (step1_five h5) (by intro _ _ e; cases e) (fun _ o w8 ho8 hB8 => ?_) (fun h => absurd h5 h) (fun n h => by cases h)
    have hB48 : Below w4.heap.size w4 w8 := hB47.trans (hB8.mono hs7)
    have hB08 : Below w.heap.size w w8 := hB.trans (hB48.mono hs4)
    refine ⟨_, _, run_bytes_strB (hx.ext hB48).rd, ?_⟩
    refine ⟨_, _, run_bytes_strB (hy.ext hB48).rd, ?_⟩
    dsimp only
    refine cond_t (by rw [beq_self_eq_true]) ?_
    rw [hh] at ho8
    refine ⟨_, _, run_bytes_strB ho8.rd, ?_⟩
    refine ⟨_, _, run_bytes_len (hb.ext hB08), ?_⟩
    dsimp only
    refine cond_t (by rw [beq_self_eq_true]) ?_
    rw [hx.rd.n, hp]
    exact cond_t (by rw [beq_self_eq_true]) (hK w8 hB08))
  cases fixed with
  | true =>
    refine cond_t rfl ?_
    refine Fixed_spec (hb.ext hB13) (by omega) fun r ys w4 ho4 hle4 hlen4 hB4 => ?_
    have hB14 : Below w.heap.size w w4 := hB13.trans (hB4.mono hB13.size)
    refine rFixed_spec (hb.ext hB14) (by omega) fun r' ys' w5 ho5 hle5 hlen5 hB5 => ?_
    have e : ys' = ys := le_inj _ _ (by omega) (by omega)
    subst e
    obtain ⟨c', hch, h5, hh⟩ := run_fixed (tail := mo) hle4 hlen4 (Nat.le_refl _)
    have := fixedN_le bs
    exact go r r' ys' w5 c' _ ((ho4.ext hB5).base hB13.size) (ho5.base hB14.size) (hB14.trans (hB5.mono hB14.size)) hch h5 hh hlen4.symm (by omega)
  | false =>
    refine cond_f rfl ?_
    obtain ⟨c', hch, h5, hh⟩ := run_store (most := bs.length) (B := storeL bs ++ mo) (tail := mo) bs.length bs 0 cfg0 (Nat.le_refl _) (by simp) rfl (by show 0 + bs.length ≤ _; omega)
    have := storeL_length _ bs (Nat.le_refl _)
    exact go t q _ w3 c' _ ((ho2.ext hB3).base hs1) (ho3.base hB12.size) hB13 (by simpa using hch) h5 (by rw [hh]; rfl) (by omega) (by omega)

theorem two_law {w : World} {a b : Slc} {xa bs : List UInt8} {fixed : Bool} {K : Bool → World → Prop} (ha : Rd E_uint8 w a xa) (hb : Rd E_uint8 w b bs) (hK : ∀ w', Below w.heap.size w w' → K true w') : c_phosphorlaw5_InflateTwo a b fixed w K := by
  refine call_phosphorlaw5_InflateTwo _ _ _ ?_
  unfold sh_phosphorlaw5_InflateTwo
  refine known_spec fun w1 hB1 => cond_f rfl ?_
  have hs1 := hB1.size
  rw [ha.n, hb.n]
  refine joinP_of fun J1 hJ1 => ?_
  refine cond_of (fun _ => hK w1 hB1) (fun hn => cond_of (fun _ => hK w1 hB1) (fun hm => hJ1 _ _ ?_))
  have hn : xa.length ≤ 600 := by have := of_decide_eq_false hn; omega
  have hm : bs.length ≤ 600 := by have := of_decide_eq_false hm; omega
  clear hJ1
  refine rStore_spec (ha.ext hB1) (by omega) fun t w2 ho2 hB2 => ?_
  have hs2 := hB2.size
  have hB12 : Below w.heap.size w w2 := hB1.trans (hB2.mono hs1)
  have est : storeL xa = headS 1 xa.length ++ xa := by rw [storeL, dif_pos (by omega)]
  rw [est] at ho2
  refine ho2.rd.ix (i := 0) rfl (by omega) (by simp [headS]; omega) fun _ => ?_
  refine ho2.st0 (i := 0) (x := 1) (y := 0) rfl rfl fun w3 ho3 hg3 hs3 => ?_
  have e0 : (headS 1 xa.length ++ xa).set 0 0 = headS 0 xa.length ++ xa := rfl
  rw [e0] at ho3
  have hc3 : Chg (fun j => t.blk = some j) w2 w3 := Chg.of_grown hg3 fun j hj => hj
  have hB13 : Below w.heap.size w w3 := hB12.trans (hc3.below hB12.size fun i hi e => by have := (ho2.lt i e).1; omega)
  refine Store_spec (hb.ext hB13) (by omega) fun q w4 ho4 hB4 => ?_
  have hB14 : Below w.heap.size w w4 := hB13.trans (hB4.mono hB13.size)
  have hal : (headS 0 xa.length ++ xa).length = 5 + xa.length := by rw [List.length_append]; rfl
  refine joinP_of fun J hJ => ?_
  have go : ∀ (y : Slc) (ys : List UInt8) w5 c' p', Own E_uint8 w5 w.heap.size y ys → Own E_uint8 w5 w.heap.size t (headS 0 xa.length ++ xa) → Below w.heap.size w w5 → Ch (xa.length + bs.length) ys { cfg0 with hist := xa } 0 c' p' → c'.mode = 5 → c'.hist = xa ++ bs → (p' + 7) / 8 = ys.length → ys.length ≤ 100000 → J (y, ()) w5 := fun y ys w5 c' p' hy ht hB hch h5 hh hp hle => hJ _ _ (by
    clear hJ
    dsimp only
    have hs5 := hB.size
    refine nw_blk fun w6 hb6 hB6 hs6 => ?_
    refine apB (b := w5.heap.size) (own_empty (E := E_uint8) hb6 (Nat.le_refl _)) (ht.ext hB6).rd (by omega) (by simp [headS]; omega) fun r7 w7 ho7 hc7 hq7 => ?_
    have hB57 : Below w5.heap.size w5 w7 := hB6.trans (hc7.below (by omega) fun i hi e => by injection e with e; have e : w5.heap.size = i := e; omega)
    rw [List.nil_append] at ho7
    refine apB ho7 (hy.ext hB57).rd (by have := hB57.size; omega) (by omega) fun r8 w8 ho8 hc8 hq8 => ?_
    have hB58 : Below w5.heap.size w5 w8 := hB57.trans (hc8.below (by have := hB57.size; omega) fun i hi e => by have := (ho7.lt i e).1; omega)
    have hs8 := hB58.size
    rw [wrap64_id (x := ((xa.length : Nat) : Int) + ((bs.length : Nat) : Int)) (by omega), show ((xa.length : Nat) : Int) + ((bs.length : Nat) : Int) = ((xa.length + bs.length : Nat) : Int) from rfl]
    have r1 := run_block (most := xa.length + bs.length) (B := headS 0 xa.length ++ xa ++ ys) (xs := xa) (tail := ys) (last := 0) (k := 0) (c := cfg0) (by simp) (by decide) rfl (by omega) (by show 0 + _ ≤ _; omega)
    have hdrop : (headS 0 xa.length ++ xa ++ ys).drop (5 + xa.length) = ys := by rw [← hal, List.drop_left]
    have r2 := Ch.shift (most := xa.length + bs.length) (B := headS 0 xa.length ++ xa ++ ys) (k := 5 + xa.length) (by rw [List.length_append]; omega) (c := { cfg0 with hist := xa }) (c' := c') (a := 0) (a' := p') (by rw [hdrop]; exact hch)
    have r3 : Ch (xa.length + bs.length) (headS 0 xa.length ++ xa ++ ys) cfg0 0 c' (8 * (5 + xa.length) + p') := by
      refine r1.trans ?_
      have e : 8 * (0 + 5 + xa.length) = 8 * (5 + xa.length) + 0 := by omega
      rw [e]
      exact r2
    refine Inflate_run (most := xa.length + bs.length) (by omega) ho8.rd (fun k hk => (ho8.lt k hk).2) (by rw [List.length_append]; omega) r3 (step1_five h5) (by intro _ _ e; cases e) (fun _ o w9 ho9 hB9 => ?_) (fun h => absurd h5 h) (fun n h => by cases h)
    have hB09 : Below w.heap.size w w9 := hB.trans ((hB58.trans (hB9.mono hs8)).mono hs5)
    refine cond_t rfl ?_
    rw [ht.rd.n, hy.rd.n, hal, wrap64_id (by omega)]
    refine cond_t (beq_iff_eq.2 (by omega)) ?_
    rw [hh] at ho9
    refine ⟨_, _, run_bytes_strB ho9.rd, ?_⟩
    refine ⟨_, _, run_bytes_len (ha.ext hB09), ?_⟩
    refine ⟨_, _, run_bytes_len (hb.ext hB09), ?_⟩
    dsimp only
    have es : ∀ l : List UInt8, (strB l).size = l.length := fun l => by simp [strB, ByteArray.size]
    refine ⟨by rw [es, es]; omega, ?_⟩
    have ea : (strB xa ++ strB bs).toList = xa ++ bs := by
      rw [ByteArray.toList_eq]
      simp [strB]
    rw [ea, strB_toList, beq_self_eq_true]
    exact hK w9 hB09)
  cases fixed with
  | true =>
    refine cond_t rfl ?_
    refine Fixed_spec (hb.ext hB14) (by omega) fun r ys w5 ho5 hle5 hlen5 hB5 => ?_
    obtain ⟨c', hch, h5, hh⟩ := run_fixed_at (most := xa.length + bs.length) (tail := []) (c0 := { cfg0 with hist := xa }) rfl hle5 hlen5 (Nat.le_refl _)
    rw [List.append_nil] at hch
    have := fixedN_le bs
    exact go r ys w5 c' _ (ho5.base hB14.size) (((ho3.ext hB4).ext hB5).base hs1) (hB14.trans (hB5.mono hB14.size)) hch h5 hh hlen5.symm (by omega)
  | false =>
    refine cond_f rfl ?_
    obtain ⟨c', hch, h5, hh⟩ := run_store (most := xa.length + bs.length) (B := storeL bs) (tail := []) bs.length bs 0 { cfg0 with hist := xa } (Nat.le_refl _) (by simp) rfl (by show xa.length + bs.length ≤ _; omega)
    have := storeL_length _ bs (Nat.le_refl _)
    exact go q _ w4 c' _ (ho4.base hB13.size) ((ho3.ext hB4).base hs1) hB14 (by simpa using hch) h5 hh (by omega) (by omega)
end Go.Proofs.Yteffnkpplhcomaa
