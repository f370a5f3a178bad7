/- Rows of bytes: Clone, Grow, Concat, Clip. -/
import Derived.Test.YteffnkpplhcomaaMem3
import Derived.Test.YteffnkpplhcomaaEls
import Derived.Test.YteffnkpplhcomaaSh0
import Derived.Test.YteffnkpplhcomaaSh1
import Derived.Test.YteffnkpplhcomaaSh2
import Derived.Test.YteffnkpplhcomaaSh3
namespace Go.Proofs.Yteffnkpplhcomaa
open Go.Vc Go.RowKit

theorem apB {w : World} {b : Nat} {s x : Slc} {xs ys : List UInt8} {K : Slc → World → Prop} (hown : Own E_uint8 w b s xs) (hx : Rd E_uint8 w x ys) (hb : b ≤ w.heap.size) (hl : xs.length + ys.length ≤ 1000000000000)
    (hK : ∀ r w', Own E_uint8 w' b r (xs ++ ys) → Chg (fun k => s.blk = some k) w w' → (r.blk = s.blk ∨ r.blk = some w.heap.size) → K r w') : apK PG #[ty_sl_uint8, ty_sl_uint8] ty_sl_uint8 s x w K :=
  apK_own sT_sl_uint8 hown hx hb (by rw [by_sl_uint8]; omega) (by simp only [maxLen]; omega) fun r w' h1 h2 h3 => hK r w' h1 (Chg.of_grown h2 fun k hk => hk) h3
/-- One byte more. -/
theorem apB1 {w : World} {b : Nat} {s : Slc} {xs : List UInt8} {c : UInt8} {v : Int} {K : Slc → World → Prop} (hv : v = (c.toNat : Int)) (hown : Own E_uint8 w b s xs) (hb : b ≤ w.heap.size) (hl : xs.length ≤ 900000000000)
    (hK : ∀ r w', Own E_uint8 w' b r (xs ++ [c]) → Chg (fun k => s.blk = some k) w w' → (r.blk = s.blk ∨ ∃ k, r.blk = some k ∧ w.heap.size ≤ k) → K r w') :
    nw ty_uint8 [(.int .u8 v)] w fun t w1 => apK PG #[ty_sl_uint8, ty_sl_uint8] ty_sl_uint8 s (⟨(some t), 1, 1⟩ : Slc) w1 K := by
  subst hv
  refine nw_blk fun w1 hb1 hB1 hs1 => ?_
  have hr : Rd E_uint8 w1 ⟨some ⟨w.heap.size, 0, none⟩, 1, 1⟩ [c] := rd_one (E := E_uint8) hb1 rfl
  refine apB (hown.ext hB1) hr (by omega) (by simp; omega) fun r w2 ho hc hq => hK r w2 ho ((Chg.of_ext (S := fun k => s.blk = some k) hB1).trans hc fun i _ hi => hi) ?_
  rcases hq with e | e
  · exact .inl e
  · exact .inr ⟨_, e, by omega⟩
theorem rdB_len {w : World} {s : Slc} {xs : List UInt8} (h : Rd E_uint8 w s xs) : xs.length ≤ maxLen := by
  have h1 := h.n
  have h2 := h.nc
  have h3 := h.cm
  omega

theorem CloneB_spec {s : Slc} {xs : List UInt8} {w : World} {K : Slc → World → Prop} (h : Rd E_uint8 w s xs) (hl : xs.length ≤ 900000000000)
    (hK : ∀ r w', Own E_uint8 w' w.heap.size r xs → Below w.heap.size w w' → K r w') : c_slices_Clone_byte_byte s w K := by
  refine call_slices_Clone_byte_byte _ ?_
  unfold sh_slices_Clone_byte_byte
  cases ha : s.a with
  | none =>
    have := h.none_nil ha
    subst this
    exact cond_t rfl (hK _ _ (Own.nil _ _ _) (Below.refl _ _))
  | some a =>
    refine cond_f rfl ?_
    refine nw_blk fun w1 hb1 hB1 hs1 => ?_
    refine apB (own_empty (E := E_uint8) hb1 (Nat.le_refl _)) (h.ext hB1) (by omega) (by simp; omega) fun r w2 ho hc hq => ?_
    rw [List.nil_append] at ho
    exact hK r w2 ho (hB1.trans (hc.below (by omega) fun i hi hs => by have e : w.heap.size = i := Option.some.inj hs; omega))

theorem GrowB_nil {n : Int} {w : World} {K : Slc → World → Prop} (h0 : 0 ≤ n) (hn : n ≤ 900000000000) (hK : ∀ r w', Own E_uint8 w' w.heap.size r [] → Below w.heap.size w w' → K r w') : c_slices_Grow_byte_byte (⟨none, 0, 0⟩ : Slc) n w K := by
  refine call_slices_Grow_byte_byte _ _ ?_
  unfold sh_slices_Grow_byte_byte
  refine joinP_of fun J hJ => ?_
  refine cond_f (by simpa using h0) (hJ _ _ ?_)
  have hw : IntKind.i64.wrap (n - (IntKind.i64.wrap (((0 : Nat) : Int) - ((0 : Nat) : Int)))) = n := by
    rw [wrap64_id (x := ((0 : Nat) : Int) - ((0 : Nat) : Int)) (by omega), wrap64_id (by omega)]
    omega
  simp only [hw]
  refine cond_of (fun h => ?_) (fun h => ?_)
  · have h := of_decide_eq_true h
    refine bnd_some (by omega) (by omega) (bnd_none ?_)
    refine apM_nil sT_sl_uint8 (kk := .i64) (by kernel_rfl) (n := n.toNat) (by omega) (by omega) (by simp only [maxLen]; omega) (by rw [by_sl_uint8]; omega) fun cap w' h1 h2 ho hB => ?_
    refine bnd_some (by omega) (by simp) (bnd_none ?_)
    have e : cut (some ⟨w.heap.size, 0, none⟩) 0 cap 1 = some ⟨w.heap.size, 0, none⟩ := by
      unfold cut
      split
      · rfl
      · simp
    show K ⟨cut (some ⟨w.heap.size, 0, none⟩) 0 cap 1, 0, cap⟩ w'
    rw [e]
    exact hK _ _ ho hB
  · exact hK _ _ (Own.nil _ _ _) (Below.refl _ _)

/-- Slices of slices, as they are laid for a call. -/
def slsE : El Slc where
  cells s := [.slice s.a s.n s.c]
  t := ty_sl_uint8
  k := 1
  pos := by decide
  len _ := rfl
  one x v hv := by
    simp only [List.mem_cons, List.mem_nil_iff, or_false] at hv
    rcases hv with rfl
    rfl
def RdAllB (w : World) (ss : List Slc) (xss : List (List UInt8)) : Prop := ss.length = xss.length ∧ ∀ (i : Nat) s xs, ss[i]? = some s → xss[i]? = some xs → Rd E_uint8 w s xs
theorem rdAllB2 {w : World} {a b : Slc} {xs ys : List UInt8} (ha : Rd E_uint8 w a xs) (hb : Rd E_uint8 w b ys) : RdAllB w [a, b] [xs, ys] := by
  refine ⟨rfl, fun i s l hs hl => ?_⟩
  match i, hs, hl with
  | 0, hs, hl => cases hs; cases hl; exact ha
  | 1, hs, hl => cases hs; cases hl; exact hb
  | i + 2, hs, hl => cases hs
theorem rdAllB3 {w : World} {a b c : Slc} {xs ys zs : List UInt8} (ha : Rd E_uint8 w a xs) (hb : Rd E_uint8 w b ys) (hc : Rd E_uint8 w c zs) : RdAllB w [a, b, c] [xs, ys, zs] := by
  refine ⟨rfl, fun i s l hs hl => ?_⟩
  match i, hs, hl with
  | 0, hs, hl => cases hs; cases hl; exact ha
  | 1, hs, hl => cases hs; cases hl; exact hb
  | 2, hs, hl => cases hs; cases hl; exact hc
  | i + 3, hs, hl => cases hs
theorem flat_take_le (xss : List (List UInt8)) (k : Nat) : (xss.take k).flatten.length ≤ xss.flatten.length := by
  conv => rhs; rw [← List.take_append_drop k xss]
  rw [List.flatten_append, List.length_append]
  omega
theorem flat_take_one {xss : List (List UInt8)} {k : Nat} {xs : List UInt8} (h : xss[k]? = some xs) : (xss.take (k + 1)).flatten = (xss.take k).flatten ++ xs := by
  rw [List.take_add_one, h]
  simp
theorem ConcatB_spec {p : Slc} {ss : List Slc} {xss : List (List UInt8)} {w : World} {K : Slc → World → Prop} (hp : Rd slsE w p ss) (hss : RdAllB w ss xss) (hl : xss.flatten.length ≤ 900000000000) (hn : ss.length ≤ 1000000)
    (hK : ∀ r w', Own E_uint8 w' w.heap.size r xss.flatten → Below w.heap.size w w' → K r w') : c_slices_Concat_byte_byte p w K := by
  refine call_slices_Concat_byte_byte _ ?_
  unfold sh_slices_Concat_byte_byte
  have hpn := hp.n
  obtain ⟨hsl, hss⟩ := hss
  refine loopP_rule (fun (s : Int × Int × Unit) w2 => ∃ k : Nat, s.2.1 = k ∧ k ≤ ss.length ∧ s.1 = ((xss.take k).flatten.length : Nat) ∧ w2 = w) (fun s => ss.length - s.2.1.toNat) ⟨0, rfl, by omega, rfl, rfl⟩ ?_
  rintro ⟨t, i, _⟩ w2 ⟨k, rfl, hk, rfl, rfl⟩ I hI
  dsimp only at *
  have hle := flat_take_le xss
  refine cond_of (fun hlt => ?_) (fun hge => ?_)
  · have hlt := of_decide_eq_true hlt
    rw [hpn] at hlt
    have hkl : k < ss.length := by omega
    have hx : ss[k]? = some ss[k] := List.getElem?_eq_getElem hkl
    have hy : xss[k]? = some (xss[k]'(by omega)) := List.getElem?_eq_getElem _
    refine hp.ix rfl (by omega) (by omega) fun hc => ?_
    refine ldSl_of (x := ss[k]) (by simpa using hc 0 _ rfl) ?_
    have hr := hss k _ _ hx hy
    have hrn := hr.n
    have hf := flat_take_one hy
    have h1 := hle (k + 1)
    rw [hf, List.length_append] at h1
    rw [hrn, wrap64_id (by omega)]
    refine cond_f (by simp; omega) ?_
    rw [wrap64_id (by omega)]
    exact hI _ _ ⟨k + 1, by simp, by omega, by rw [hf]; simp, rfl⟩ (by simp; omega)
  · have hge := of_decide_eq_false hge
    rw [hpn] at hge
    have : k = ss.length := by omega
    subst this
    have h1 := hle ss.length
    refine GrowB_nil (by omega) (by omega) fun g w3 ho3 hB3 => ?_
    refine loopP_rule (fun (s : Slc × Int × Unit) w4 => ∃ k : Nat, s.2.1 = k ∧ k ≤ ss.length ∧ Own E_uint8 w4 w2.heap.size s.1 ((xss.take k).flatten) ∧ Below w2.heap.size w2 w4) (fun s => ss.length - s.2.1.toNat) ⟨0, rfl, by omega, by simpa using ho3, hB3⟩ ?_
    rintro ⟨t, i, _⟩ w4 ⟨k, rfl, hk, ho, hB⟩ I2 hI2
    dsimp only at *
    refine cond_of (fun hlt => ?_) (fun hge => ?_)
    · have hlt := of_decide_eq_true hlt
      rw [hpn] at hlt
      have hkl : k < ss.length := by omega
      have hx : ss[k]? = some ss[k] := List.getElem?_eq_getElem hkl
      have hy : xss[k]? = some (xss[k]'(by omega)) := List.getElem?_eq_getElem _
      refine (hp.ext hB).ix rfl (by omega) (by omega) fun hc => ?_
      refine ldSl_of (x := ss[k]) (by simpa using hc 0 _ rfl) ?_
      have hr := (hss k _ _ hx hy).ext hB
      have hf := flat_take_one hy
      have h1 := hle (k + 1)
      rw [hf, List.length_append] at h1
      refine apB ho hr hB.size (by omega) fun r w5 ho5 hc5 hr5 => ?_
      rw [wrap64_id (by omega)]
      exact hI2 _ _ ⟨k + 1, by simp, by omega, by rw [hf]; exact ho5, hB.trans (hc5.below hB.size fun i hi hs => by have := (ho.lt i hs).1; omega)⟩ (by simp; omega)
    · have hge := of_decide_eq_false hge
      rw [hpn] at hge
      have : k = ss.length := by omega
      subst this
      rw [hsl, List.take_length] at ho
      exact hK _ _ ho hB
/-- Concat(a, b), as it is called. -/
theorem ConcatB2 {a b : Slc} {xs ys : List UInt8} {w : World} {K : Slc → World → Prop} (ha : Rd E_uint8 w a xs) (hb : Rd E_uint8 w b ys) (hl : xs.length + ys.length ≤ 900000000000)
    (hK : ∀ r w', Own E_uint8 w' w.heap.size r (xs ++ ys) → Below w.heap.size w w' → K r w') : nw ty_sl_uint8 [(.slice a.a a.n a.c), (.slice b.a b.n b.c)] w fun t w1 => c_slices_Concat_byte_byte (⟨(some t), 2, 2⟩ : Slc) w1 K := by
  refine nw_blk fun w1 hb1 hB1 hs1 => ?_
  refine ConcatB_spec (rd_lits (E := slsE) (ys := [a, b]) hb1 (by simp [maxLen]) rfl) (rdAllB2 (ha.ext hB1) (hb.ext hB1)) (by simpa using hl) (by simp) fun r w2 ho hB => ?_
  have e : [xs, ys].flatten = xs ++ ys := by simp
  rw [e] at ho
  exact hK r w2 (ho.base (by omega)) (hB1.trans (hB.mono hB1.size))
theorem ConcatB3 {a b c : Slc} {xs ys zs : List UInt8} {w : World} {K : Slc → World → Prop} (ha : Rd E_uint8 w a xs) (hb : Rd E_uint8 w b ys) (hc : Rd E_uint8 w c zs) (hl : xs.length + ys.length + zs.length ≤ 900000000000)
    (hK : ∀ r w', Own E_uint8 w' w.heap.size r (xs ++ ys ++ zs) → Below w.heap.size w w' → K r w') : nw ty_sl_uint8 [(.slice a.a a.n a.c), (.slice b.a b.n b.c), (.slice c.a c.n c.c)] w fun t w1 => c_slices_Concat_byte_byte (⟨(some t), 3, 3⟩ : Slc) w1 K := by
  refine nw_blk fun w1 hb1 hB1 hs1 => ?_
  refine ConcatB_spec (rd_lits (E := slsE) (ys := [a, b, c]) hb1 (by simp [maxLen]) rfl) (rdAllB3 (ha.ext hB1) (hb.ext hB1) (hc.ext hB1)) (by simp; omega) (by simp) fun r w2 ho hB => ?_
  have e : [xs, ys, zs].flatten = xs ++ ys ++ zs := by simp
  rw [e] at ho
  exact hK r w2 (ho.base (by omega)) (hB1.trans (hB.mono hB1.size))

end Go.Proofs.Yteffnkpplhcomaa
