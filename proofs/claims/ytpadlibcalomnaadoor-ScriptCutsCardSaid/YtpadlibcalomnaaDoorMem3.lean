/- Program-generic: further rules over slices and calls; numbers as bits. No program in sight. -/
import Derived.Test.YtpadlibcalomnaaDoorMem2
import Derived.Laws.MakeOwn
import Derived.Laws.OwnMore
namespace Go.Vc
open Go.RowKit

theorem get_of {α : Type} {xs : List α} {k : Nat} (hk : k < xs.length) : ∃ x, xs[k]? = some x ∧ ∀ h, xs[((k : Int)).toNat]'h = x := ⟨xs[k], List.getElem?_eq_getElem hk, fun _ => rfl⟩
theorem cut_block {x : Option Addr} {l m k : Nat} {a : Addr} (h : cut x l m k = some a) : ∃ b, x = some b ∧ a.block = b.block := by
  unfold cut at h
  split at h
  · exact ⟨a, h, rfl⟩
  · obtain ⟨b, hb, rfl⟩ := Option.map_eq_some_iff.1 h
    exact ⟨b, hb, by simp⟩
theorem slk {s : Slc} {k : Nat} : s.blk = some k ↔ ∃ a, s.a = some a ∧ a.block = k := by
  unfold Slc.blk
  rw [Option.map_eq_some_iff]
theorem callR_plain {C : Cx} {g : Nat} {first cap : Array Value} {args : List Value} {ks : List Kind} {w : World} {K : Cur ks} (hp : C.plain g = true) (h : callP C.P g (first.toList ++ args ++ cap.toList) ks w K) :
    callR C (.func (.func g) first cap) args ks w K := by
  unfold callR callVal
  simp only [hp]
  exact h
theorem rd_lits {T : Type} {E : El T} {w : World} {g : Nat} {ys : List T} {vs : List Value} (hb : Blk w g E.t vs) (hm : ys.length ≤ maxLen) (hy : flat E ys = vs) : Rd E w ⟨some ⟨g, 0, none⟩, ys.length, ys.length⟩ ys :=
  (Own.of_blk (E := E) (xs := ys) (c := ys.length) (base := g) (Nat.le_refl _) hb (Nat.le_refl _) hm (by rw [← hy, flat_length]) (by rw [← hy, List.take_of_length_le (by rw [flat_length]; exact Nat.le_refl _)])).rd
theorem own_lits {T : Type} {E : El T} {w : World} {g base : Nat} {ys : List T} {vs : List Value} (hg : base ≤ g) (hb : Blk w g E.t vs) (hm : ys.length ≤ maxLen) (hy : flat E ys = vs) : Own E w base ⟨some ⟨g, 0, none⟩, ys.length, ys.length⟩ ys :=
  Own.of_blk (E := E) (xs := ys) (c := ys.length) (base := base) hg hb (Nat.le_refl _) hm (by rw [← hy, flat_length]) (by rw [← hy, List.take_of_length_le (by rw [flat_length]; exact Nat.le_refl _)])
/-- append's second argument may be of another slice type. -/
theorem apK_other {P : Program} {t u ty e e' : TypeId} {s x : Slc} {w : World} {K : Slc → World → Prop} (ht : P.underlying t = some (.slice e)) (hu : P.underlying u = some (.slice e')) (h : apK P #[t, t] ty s x w K) : apK P #[t, u] ty s x w K := by
  obtain ⟨r, w', hr, hk⟩ := h
  refine ⟨r, w', ?_, hk⟩
  rw [← hr]
  simp [Builtin.append_, run_underlying ht, run_underlying hu]
theorem Chg.gg {w1 w2 : World} {k : Nat} (h : w1.grownBy w2 (some k)) : Chg (fun i => i = k) w1 w2 := Chg.of_grown h fun i hi => by cases hi; rfl
theorem loopSwap {σ : Type} {b b' : (σ → World → Prop) → σ → World → Prop} {s0 : σ} {w0 : World} (hbb : ∀ I s w, b I s w → b' I s w) (hl : loopP b s0 w0) : loopP b' s0 w0 := fun I hI => hl I fun s w hb => hI s w (hbb I s w hb)

/-- s[l:m:m] of a slice that reads as a list. -/
theorem Rd.slK3 {T : Type} {E : El T} {w : World} {s : Slc} {xs : List T} (h : Rd E w s xs) {lo : Option Int} {hi mx : Int} {k : Nat} (hk : k = E.k) {l m : Nat} {K : Slc → Prop} (hlo : lo = none ∧ l = 0 ∨ lo = some (l : Int)) (hhi : hi = (m : Int)) (hmx : mx = (m : Int))
    (hl : l ≤ m) (hm : m ≤ xs.length) (hK : Rd E w ⟨cut s.a l m E.k, m - l, m - l⟩ ((xs.take m).drop l) → K ⟨cut s.a l m E.k, m - l, m - l⟩) : slK3 s lo hi mx k K := by
  subst hk hhi hmx
  have hn := h.n
  have hnc := h.nc
  have hcm := h.cm
  have hlen : ((xs.take m).drop l).length = m - l := by simp; omega
  have key : Rd E w ⟨cut s.a l m E.k, m - l, m - l⟩ ((xs.take m).drop l) := by
    refine ⟨hlen.symm, Nat.le_refl _, by show m - l ≤ maxLen; omega, fun hp => ?_, fun i x hx => ?_⟩
    · rw [hlen] at hp
      obtain ⟨a, ha⟩ := Option.isSome_iff_exists.1 (h.some_ (by omega))
      show (cut s.a l m E.k).isSome = true
      unfold cut
      rw [ha]
      split <;> rfl
    · have hi : i < m - l := by rw [← hlen]; exact (List.getElem?_eq_some_iff.1 hx).1
      rw [List.getElem?_drop, List.getElem?_take_of_lt (by omega)] at hx
      have hc := h.at_ _ _ hx
      obtain ⟨a, ha⟩ := Option.isSome_iff_exists.1 (h.some_ (by omega))
      have e : (⟨cut s.a l m E.k, m - l, m - l⟩ : Slc).at_ E.k i = s.at_ E.k (l + i) := by
        unfold Slc.at_ cut
        rw [ha, if_neg (by omega)]
        simp only [Option.map_some, Option.getD_some]
        rw [add_add, Nat.add_mul]
      rw [e]
      exact hc
  unfold Vc.slK3
  refine bnd_some (by omega) (by omega) ?_
  refine bnd_some (by omega) (by simp) ?_
  have hk' := hK key
  rcases hlo with ⟨rfl, rfl⟩ | rfl
  · exact bnd_none (by simpa using hk')
  · exact bnd_some (by omega) (by simp; omega) (by simpa using hk')

/-- make([]T, n). -/
theorem flat_replicate_get {T : Type} (E : El T) (x : T) (n m : Nat) (hm : m < n * E.k) : (flat E (List.replicate n x))[m]? = (E.cells x)[m % E.k]? := by
  have hq : m / E.k < n := (Nat.div_lt_iff_lt_mul E.pos).2 hm
  have hr : m % E.k < E.k := Nat.mod_lt _ E.pos
  have e : m / E.k * E.k + m % E.k = m := by rw [Nat.mul_comm]; exact Nat.div_add_mod m E.k
  have hv : (E.cells x)[m % E.k]? = some ((E.cells x)[m % E.k]'(by rw [E.len]; exact hr)) := List.getElem?_eq_getElem _
  have := flat_get E (List.replicate n x) (m / E.k) x (m % E.k) _ (by rw [List.getElem?_replicate, if_pos hq]) hv
  rw [e] at this
  rw [this, hv]
theorem mkSl_of {P : Program} {T : Type} {E : El T} {st : TypeId} (TT : SlT P E st) {x0 : T} (hz : (E.cells x0).toArray = TT.z.cells) {kl kc : IntKind} {l c : Int} {n : Nat} (hl : l = n) (hc : c = n) (hb : TT.i.bytes * n ≤ 281474976710656) (hm : n ≤ maxLen) {w : World} {K : Slc → World → Prop}
    (hK : ∀ w', Own E w' w.heap.size ⟨some ⟨w.heap.size, 0, none⟩, n, n⟩ (List.replicate n x0) → Below w.heap.size w w' → K ⟨some ⟨w.heap.size, 0, none⟩, n, n⟩ w') : mkSl P st (.int kl l) (.int kc c) w K := by
  subst hl hc
  obtain ⟨w', h1, h2, h3⟩ := run_make_full (P := P) w w.heap.size st E.t TT.i TT.z E.k TT.ht TT.hi TT.hz TT.hs kl kc n hb hm (Nat.le_refl _)
  refine ⟨_, w', h1, hK w' ?_ ⟨h3.os, h3.tape, h3.output, h3.size, fun k hk => h3.block k hk (by simp)⟩⟩
  unfold Own
  rw [List.length_replicate]
  have e : flat E (List.replicate n x0) = (madeCells TT.z.cells (n * E.k)).toList := by
    refine List.ext_getElem? fun m => ?_
    by_cases hmm : m < n * E.k
    · rw [flat_replicate_get E x0 n m hmm]
      have hsz : TT.z.cells.size = E.k := TT.hzs
      have hr : m % E.k < E.k := Nat.mod_lt _ E.pos
      have h2 : (E.cells x0)[m % E.k]? = TT.z.cells[m % E.k]? := by rw [← hz]; simp
      rw [h2, Array.getElem?_toList]
      simp [madeCells, hmm, hsz, hr]
    · rw [List.getElem?_eq_none (by rw [flat_length, List.length_replicate]; omega), List.getElem?_eq_none (by simp [size_madeCells]; omega)]
  rw [e]
  exact h2

/-! ### Numbers as bits -/
theorem ofInt_nat (n x : Nat) : BitVec.ofInt n (x : Int) = BitVec.ofNat n x := by
  apply BitVec.eq_of_toNat_eq
  simp
def kmax : IntKind → Nat
  | .i8 => 7 | .i16 => 15 | .i32 => 31 | .i64 => 63 | .u8 => 8 | .u16 => 16 | .u32 => 32 | .u64 => 64
theorem wrap_nat (k : IntKind) {x : Nat} (h : x < 2 ^ kmax k) : k.wrap (x : Int) = x := by
  cases k <;> simp only [kmax] at h
  · exact IntWalk.i8_in _ (by omega)
  · exact IntWalk.i16_in _ (by omega)
  · exact IntWalk.i32_in _ (by omega)
  · exact IntWalk.i64_in _ (by omega)
  · exact IntWalk.u8_in _ (by omega)
  · exact IntWalk.u16_in _ (by omega)
  · exact IntWalk.u32_in _ (by omega)
  · exact IntWalk.u64_in _ (by omega)
theorem kmax_le (k : IntKind) : kmax k ≤ k.bits := by cases k <;> decide
theorem mod_kmax (k : IntKind) {x : Nat} (h : x < 2 ^ kmax k) : x % 2 ^ k.bits = x := Nat.mod_eq_of_lt (Nat.lt_of_lt_of_le h (Nat.pow_le_pow_right (by decide) (kmax_le k)))
theorem bits_or (k : IntKind) {a b : Nat} (ha : a < 2 ^ kmax k) (hb : b < 2 ^ kmax k) : bitsR .or k (a : Int) (b : Int) = ((a ||| b : Nat) : Int) := by
  show k.wrap ((BitVec.ofInt k.bits (a : Int) ||| BitVec.ofInt k.bits (b : Int)).toNat : Int) = _
  rw [ofInt_nat, ofInt_nat, BitVec.toNat_or, BitVec.toNat_ofNat, BitVec.toNat_ofNat, mod_kmax k ha, mod_kmax k hb]
  exact wrap_nat k (Nat.or_lt_two_pow ha hb)
theorem bits_and (k : IntKind) {a b : Nat} (ha : a < 2 ^ kmax k) (hb : b < 2 ^ kmax k) : bitsR .and k (a : Int) (b : Int) = ((a &&& b : Nat) : Int) := by
  show k.wrap ((BitVec.ofInt k.bits (a : Int) &&& BitVec.ofInt k.bits (b : Int)).toNat : Int) = _
  rw [ofInt_nat, ofInt_nat, BitVec.toNat_and, BitVec.toNat_ofNat, BitVec.toNat_ofNat, mod_kmax k ha, mod_kmax k hb]
  exact wrap_nat k (Nat.and_lt_two_pow _ hb)
theorem bits_xor (k : IntKind) {a b : Nat} (ha : a < 2 ^ kmax k) (hb : b < 2 ^ kmax k) : bitsR .xor k (a : Int) (b : Int) = ((a ^^^ b : Nat) : Int) := by
  show k.wrap ((BitVec.ofInt k.bits (a : Int) ^^^ BitVec.ofInt k.bits (b : Int)).toNat : Int) = _
  rw [ofInt_nat, ofInt_nat, BitVec.toNat_xor, BitVec.toNat_ofNat, BitVec.toNat_ofNat, mod_kmax k ha, mod_kmax k hb]
  exact wrap_nat k (Nat.xor_lt_two_pow ha hb)
theorem fdiv_nat (a k : Nat) : (a : Int).fdiv (2 ^ k) = ((a / 2 ^ k : Nat) : Int) := by
  have e : ((2 : Int) ^ k) = ((2 ^ k : Nat) : Int) := by simp
  rw [e, Int.fdiv_eq_ediv_of_nonneg _ (Int.natCast_nonneg _)]
  rfl
theorem mul_pow_nat (a k : Nat) : (a : Int) * 2 ^ k = ((a * 2 ^ k : Nat) : Int) := by simp
theorem add_or {a b i : Nat} (h : b < 2 ^ i) : b ||| 2 ^ i * a = b + 2 ^ i * a := by
  rw [Nat.or_comm, ← Nat.two_pow_add_eq_or_of_lt h, Nat.add_comm]

/-! ### Bytes as a number, the first one the lowest -/
def le : List UInt8 → Nat
  | [] => 0
  | b :: r => b.toNat + 256 * le r
theorem le_append (a b : List UInt8) : le (a ++ b) = le a + 256 ^ a.length * le b := by
  induction a with
  | nil => simp [le]
  | cons x r ih =>
    have e : 256 * (256 ^ r.length * le b) = 256 ^ r.length * 256 * le b := by rw [← Nat.mul_assoc, Nat.mul_comm 256]
    rw [List.cons_append, le, le, ih, List.length_cons, Nat.pow_succ, Nat.mul_add, e]
    omega
theorem le_lt (a : List UInt8) : le a < 256 ^ a.length := by
  induction a with
  | nil => simp [le]
  | cons x r ih =>
    rw [le, List.length_cons, Nat.pow_succ]
    have := x.toNat_lt
    omega
theorem le_split (bs : List UInt8) (k : Nat) (hk : k ≤ bs.length) : le bs = le (bs.take k) + 256 ^ k * le (bs.drop k) := by
  conv => lhs; rw [← List.take_append_drop k bs]
  rw [le_append, List.length_take, Nat.min_eq_left hk]
theorem le_drop (bs : List UInt8) (k : Nat) (hk : k ≤ bs.length) : le bs / 256 ^ k = le (bs.drop k) := by
  rw [le_split bs k hk, Nat.add_mul_div_left _ _ (Nat.pow_pos (by decide)), Nat.div_eq_of_lt, Nat.zero_add]
  have := le_lt (bs.take k)
  rwa [List.length_take, Nat.min_eq_left hk] at this
/-- The next n bits behind 'at_'. -/
def peekN (bs : List UInt8) (at_ n : Nat) : Nat := le bs / 2 ^ at_ % 2 ^ n
theorem peekN_lt (bs : List UInt8) (at_ n : Nat) : peekN bs at_ n < 2 ^ n := Nat.mod_lt _ (Nat.pow_pos (by decide))
theorem low_bits (x y f m n : Nat) (h : f + n ≤ m) : (x + 2 ^ m * y) / 2 ^ f % 2 ^ n = x / 2 ^ f % 2 ^ n := by
  have e : 2 ^ m * y = 2 ^ f * (2 ^ n * (2 ^ (m - f - n) * y)) := by
    rw [← Nat.mul_assoc, ← Nat.mul_assoc, ← Nat.pow_add, ← Nat.pow_add]
    congr 2
    omega
  rw [e, Nat.add_mul_div_left _ _ (Nat.pow_pos (by decide)), Nat.add_mul_mod_self_left]
theorem pow256 (k : Nat) : 256 ^ k = 2 ^ (8 * k) := by rw [Nat.pow_mul]
theorem peekN_bytes (bs : List UInt8) (at_ n cnt : Nat) (h1 : at_ % 8 + n ≤ 8 * cnt) (h2 : at_ / 8 + cnt ≤ bs.length) : peekN bs at_ n = le ((bs.drop (at_ / 8)).take cnt) / 2 ^ (at_ % 8) % 2 ^ n := by
  unfold peekN
  have e : 2 ^ at_ = 256 ^ (at_ / 8) * 2 ^ (at_ % 8) := by
    rw [pow256, ← Nat.pow_add]
    congr 1
    omega
  rw [e, ← Nat.div_div_eq_div_mul, le_drop bs _ (by omega), le_split (bs.drop (at_ / 8)) cnt (by simp; omega), pow256]
  exact low_bits _ _ _ _ _ h1
theorem peekN_append (bs more : List UInt8) (at_ n : Nat) (h : at_ + n ≤ 8 * bs.length) : peekN (bs ++ more) at_ n = peekN bs at_ n := by
  unfold peekN
  rw [le_append, pow256]
  exact low_bits _ _ _ _ _ h
theorem peekN_drop (bs : List UInt8) (k at_ n : Nat) (hk : k ≤ bs.length) : peekN (bs.drop k) at_ n = peekN bs (8 * k + at_) n := by
  unfold peekN
  rw [← le_drop bs k hk, pow256, Nat.div_div_eq_div_mul, ← Nat.pow_add]
/-- Bits one behind the other. -/
theorem peekN_add (bs : List UInt8) (at_ m n : Nat) : peekN bs at_ (m + n) = peekN bs at_ m + 2 ^ m * peekN bs (at_ + m) n := by
  unfold peekN
  rw [Nat.pow_add, Nat.mod_mul, Nat.div_div_eq_div_mul, ← Nat.pow_add]
theorem peekN_mod (bs : List UInt8) (at_ m n : Nat) (h : m ≤ n) : peekN bs at_ n % 2 ^ m = peekN bs at_ m := by
  obtain ⟨d, rfl⟩ : ∃ d, n = m + d := ⟨n - m, by omega⟩
  rw [peekN_add, Nat.add_mul_mod_self_left, Nat.mod_eq_of_lt (peekN_lt _ _ _)]
theorem peekN_div (bs : List UInt8) (at_ m n : Nat) (h : m ≤ n) : peekN bs at_ n / 2 ^ m = peekN bs (at_ + m) (n - m) := by
  obtain ⟨d, rfl⟩ : ∃ d, n = m + d := ⟨n - m, by omega⟩
  rw [peekN_add, Nat.add_mul_div_left _ _ (Nat.pow_pos (by decide)), Nat.div_eq_of_lt (peekN_lt _ _ _), Nat.zero_add, Nat.add_sub_cancel_left]
theorem peekN_byte (bs : List UInt8) (k : Nat) (hk : k < bs.length) : peekN bs (8 * k) 8 = bs[k].toNat := by
  have := peekN_bytes bs (8 * k) 8 1 (by omega) (by omega)
  have e : (bs.drop k).take 1 = [bs[k]] := by rw [List.drop_eq_getElem_cons hk]; rfl
  rw [this, show 8 * k / 8 = k by omega, show 8 * k % 8 = 0 by omega, e]
  have := bs[k].toNat_lt
  show (bs[k].toNat + 256 * 0) / 2 ^ 0 % 2 ^ 8 = _
  rw [Nat.pow_zero, Nat.div_one]
  omega

theorem ldB8 {w : World} {a : Addr} {b : UInt8} {K : Int → Prop} (h : cellsAt w a [.int .u8 (b.toNat : Int)]) (hK : K (b.toNat : Int)) : ldI .u8 a w K := ldI_of (x := (b.toNat : Int)) (by simpa using h 0 _ rfl) hK

end Go.Vc
