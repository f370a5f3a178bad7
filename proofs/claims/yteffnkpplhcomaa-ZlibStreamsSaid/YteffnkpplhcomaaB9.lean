/- The program's decoder of deflate streams: a dynamic block's codes; a step. -/
import Derived.Test.YteffnkpplhcomaaB8
namespace Go.Proofs.Yteffnkpplhcomaa
open Go.Vc Go.RowKit
set_option maxRecDepth 400000

theorem New_any {s : Slc} {ls : List UInt8} {w : World} {K : Option Addr → Int → World → Prop} (h : Rd E_uint8 w s ls)
    (hK1 : badTab ls → ∀ e w', e ≠ 0 → Below w.heap.size w w' → K none e w')
    (hK2 : ¬ badTab ls → ∀ f w', TabM w' w.heap.size f ls → Below w.heap.size w w' → K (some ⟨f.g, 0, none⟩) 0 w') : c_huff_New s w K :=
  New_spec h (fun hb w' hB => hK1 (.inl hb) _ w' (by decide) hB) (fun _ hb w' hB => hK1 (.inr hb) _ w' (by decide) hB) (fun h1 h2 f w' ht hB => hK2 (fun hb => by rcases hb with hb | hb; exact h1 hb; exact h2 hb) f w' ht hB)

section
variable {w w' : World} {base : Nat} {F : DF} {S : DS} {r : Nat} {rs : Slc} {at_ : Nat}

theorem read_spec {f : TF} {ls : List UInt8} {nn b1 : Nat} {K : Slc → Int → World → Prop} (h : DR w base F S r rs at_) (ht : TabR w b1 f ls) (hnn : nn ≤ 1000) (hls : ls.length ≤ 19)
    (hK1 : ∀ s l a w', lensGo ls S.wait nn 400 at_ [] = .lens l a → l.length = nn → Own E_uint8 w' w.heap.size s l → at_ ≤ a → DR w' base F S r rs a → Chg (drS F r) w w' → K s 0 w')
    (hK2 : ∀ a w', lensGo ls S.wait nn 400 at_ [] = .short → at_ ≤ a → DR w' base F S r rs a → Chg (drS F r) w w' → K ⟨none, 0, 0⟩ 2 w')
    (hK3 : ∀ a w', lensGo ls S.wait nn 400 at_ [] = .form → DR w' base F S r rs a → Chg (drS F r) w w' → K ⟨none, 0, 0⟩ 3 w') (hn4 : nn < 400) : c_inflate_read (some ⟨r, 0, none⟩) (some ⟨f.g, 0, none⟩) nn w K := by
  refine call_inflate_read _ _ _ ?_
  unfold sh_inflate_read
  have hG0 : lensGo ls S.wait nn 400 at_ [] = lensGo ls S.wait nn 400 at_ [] := rfl
  generalize hG : lensGo ls S.wait nn 400 at_ [] = G at hK1 hK2 hK3
  have hG0 : G = lensGo ls S.wait nn 400 at_ [] := hG.symm
  clear hG
  refine loopP_rule_w (fun m (s : Slc × Unit) w1 => ∃ (l : List UInt8) (a1 f1 : Nat), m = nn - l.length ∧ l.length ≤ nn ∧ nn - l.length < f1 ∧ Own E_uint8 w1 w.heap.size s.1 l ∧ at_ ≤ a1 ∧ DR w1 base F S r rs a1 ∧ TabR w1 b1 f ls ∧ G = lensGo ls S.wait nn f1 a1 l ∧ Chg (drS F r) w w1)
    nn ⟨[], at_, 400, rfl, Nat.zero_le _, by simpa using hn4, Own.nil _ _ _, Nat.le_refl _, h, ht, hG0, Chg.refl _ _⟩ ?_
  rintro m ⟨s, _⟩ w1 ⟨l, a1, f1, rfl, hll, hf1, ho1, ha1, h1, ht1, hgo, hc1⟩ I hI
  dsimp only at *
  obtain ⟨f1, rfl⟩ : ∃ k, f1 = k + 1 := ⟨f1 - 1, by omega⟩
  rw [lensGo] at hgo
  have hsn : s.n = l.length := ho1.rd.n
  have hs1 := hc1.size
  rw [hsn]
  refine cond_of (fun hlt => ?_) (fun hge => ?_)
  · have hlt := of_decide_eq_true hlt
    rw [if_neg (by omega)] at hgo
    have fr : ∀ k, s.blk = some k → k ≠ r := fun k hk e => by
      subst e
      have := (ho1.lt _ hk).1
      have := h.rdr.blk.lt
      omega
    have fd : ∀ k, s.blk = some k → ¬ drS F r k := fun k hk hs => by
      have := (ho1.lt _ hk).1
      rcases hs with hs | hs
      · have := (h.d.below k hs).2; omega
      · exact fr k hk hs
    refine rRead h1 ht1 (fun y k w2 er hl2 hy h2 hc2 => ?_) (fun w2 er h2 hc2 => ?_) (fun w2 er h2 hc2 => ?_)
    rotate_left
    · rw [er] at hgo
      exact cond_t rfl (hK2 a1 w2 hgo ha1 h2 (hc1.trans hc2 fun i _ hi => hi))
    · rw [er] at hgo
      exact cond_t rfl (hK3 a1 w2 hgo h2 (hc1.trans hc2 fun i _ hi => hi))
    rw [er] at hgo
    dsimp only at hgo
    refine cond_f rfl ?_
    have c02 : Chg (drS F r) w w2 := hc1.trans hc2 fun i _ hi => .inr hi
    have ho2 := ho1.chg hc2 fun k hk e => fr k hk e
    have ht2 := ht1.chg hc2 fun k e _ => by subst e; exact ⟨_, _, h1.rdr.blk, by decide, by decide⟩
    have s02 := c02.size
    refine joinP_of fun J2 hJ2 => ?_
    -- what is said by a sign
    have main : ∀ (b m : Nat) (v : UInt8), (if y = 18 then ((11, 7, 0) : Nat × Nat × UInt8) else if y = 17 then (3, 3, 0) else if y = 16 then (3, 2, l.getLastD 0) else (1, 0, UInt8.ofNat y)) = (b, m, v) → ¬ (y = 16 ∧ l = []) → m ≤ 7 → 1 ≤ b → b ≤ 11 → J2 ((b : Int), (m : Int), ((v.toNat : Nat) : Int), ()) w2 := fun b m v hbm hn16 hm7 hb1 hb11 => hJ2 _ _ (by
      clear hJ2
      rw [if_neg hn16] at hgo
      simp only [hbm] at hgo
      dsimp only
      refine rBits h2 (fun m' w4 e _ hl4 h4 hc4 => ?_) (fun w4 hn h4 hc4 => ?_)
      rotate_left
      · rw [if_pos (by omega)] at hgo
        exact cond_t rfl (hK2 _ w4 hgo (by omega) h4 (c02.trans hc4 fun i _ hi => hi))
      have : m' = m := by omega
      subst this
      rw [if_neg (by omega)] at hgo
      refine cond_f rfl ?_
      have hp := peekN_lt S.wait (a1 + k) m'
      have hpm : 2 ^ m' ≤ 2 ^ 7 := Nat.pow_le_pow_right (by decide) hm7
      have c04 : Chg (drS F r) w w4 := c02.trans hc4 fun i _ hi => hi
      have s04 := c04.size
      obtain ⟨p, hpp⟩ : ∃ p, peekN S.wait (a1 + k) m' = p := ⟨_, rfl⟩
      rw [hpp] at hgo hp ⊢
      rw [wrap64_id (x := ((p : Nat) : Int)) (by omega), wrap64_id (x := ((l.length : Nat) : Int) + (b : Int)) (by omega), wrap64_id (x := ((l.length : Nat) : Int) + (b : Int) + (p : Int)) (by omega), wrap64_id (x := (b : Int) + (p : Int)) (by omega)]
      refine cond_of (fun hbig => ?_) (fun hfit => ?_)
      · have hbig := of_decide_eq_true hbig
        rw [if_pos (by omega)] at hgo
        exact hK3 _ w4 hgo h4 c04
      have hfit := of_decide_eq_false hfit
      rw [if_neg (by omega)] at hgo
      have ho4 := ho2.chg hc4 fd
      have ht4 := ht2.chg hc4 fun k hk _ => by
        rcases hk with hk | hk
        · exact h2.d.noTab k hk
        · subst hk; exact ⟨_, _, h2.rdr.blk, by decide, by decide⟩
      refine loopP_rule (fun (s : Slc × Int × Unit) w5 => ∃ i : Nat, s.2.1 = i ∧ i ≤ b + p ∧ Own E_uint8 w5 w.heap.size s.1 (l ++ List.replicate i v) ∧ DR w5 base F S r rs (a1 + k + m') ∧ TabR w5 b1 f ls ∧ Chg (drS F r) w w5) (fun s => b + p - s.2.1.toNat) ⟨0, rfl, Nat.zero_le _, by simpa using ho4, h4, ht4, c04⟩ ?_
      rintro ⟨q, i, _⟩ w5 ⟨i, rfl, hi, ho5, h5, ht5, c05⟩ I3 hI3
      dsimp only at *
      have s05 := c05.size
      refine cond_of (fun hlt2 => ?_) (fun hge2 => ?_)
      · have hlt2 := of_decide_eq_true hlt2
        refine apB1 (c := v) rfl ho5 s05 (by simp; omega) fun q2 w6 ho6 hc6 hq6 => ?_
        rw [wrap64_id (by omega)]
        have fresh : ∀ k, q.blk = some k → w.heap.size ≤ k := fun k hk => (ho5.lt k hk).1
        have ndr : ∀ k, drS F r k → q.blk ≠ some k := fun k hk e => by
          have := fresh k e
          rcases hk with hk | hk
          · have := (h.d.below k hk).2; omega
          · subst hk; have := h.rdr.blk.lt; omega
        have h6 : DR w6 base F S r rs (a1 + k + m') := by
          refine ⟨h5.d.chg hc6 (fun k hk e => ?_) fun k e _ => ?_, h5.rdr.chg hc6 (ndr _ (.inr rfl)) fun k hk e => ?_, h5.sep, h5.rb, h5.wr, fun k hk => by have := h5.wl k hk; have := hc6.size; omega, fun k hk => by have := h5.sl k hk; have := hc6.size; omega⟩
          · rcases hk with hk | hk
            · exact ndr k (.inl hk) e
            · have := fresh k e; have := h.wl k hk; omega
          · obtain ⟨cs, hcs⟩ := ho5.blk_t e
            exact ⟨_, _, hcs, by decide, by decide⟩
          · have := fresh k e; have := h.sl k hk; omega
        refine hI3 _ _ ⟨i + 1, by simp, by omega, ?_, h6, ht5.chg hc6 fun k e _ => ?_, c05.trans hc6 fun k hk e => by have := fresh k e; omega⟩ (by simp; omega)
        · rw [List.replicate_succ', ← List.append_assoc]
          exact ho6
        · obtain ⟨cs, hcs⟩ := ho5.blk_t e
          exact ⟨_, _, hcs, by decide, by decide⟩
      · have hge2 := of_decide_eq_false hge2
        have : i = b + p := by omega
        subst this
        refine hI _ _ w5 ⟨l ++ List.replicate (b + p) v, a1 + k + m', f1, rfl, by simp; omega, by simp; omega, ho5, by omega, h5, ht5, hgo, c05⟩ (by simp; omega))
    refine cond_of (fun c => ?_) (fun c => ?_)
    · have c : y = 18 := by have := eq_of_beq c; omega
      exact main 11 7 0 (by rw [if_pos c]) (by omega) (by decide) (by decide) (by decide)
    have c : y ≠ 18 := by have := beq_eq_false_iff_ne.1 c; omega
    refine cond_of (fun c2 => ?_) (fun c2 => ?_)
    · have c2 : y = 17 := by have := eq_of_beq c2; omega
      exact main 3 3 0 (by rw [if_neg c, if_pos c2]) (by omega) (by decide) (by decide) (by decide)
    have c2 : y ≠ 17 := by have := beq_eq_false_iff_ne.1 c2; omega
    refine cond_of (fun c3 => ?_) (fun c3 => ?_)
    · have c3 : y = 16 := by have := eq_of_beq c3; omega
      refine cond_of (fun c4 => ?_) (fun c4 => ?_)
      · have c4 : l.length = 0 := by have := eq_of_beq c4; omega
        rw [if_pos ⟨c3, List.eq_nil_of_length_eq_zero c4⟩] at hgo
        exact hK3 _ w2 hgo h2 c02
      · have c4 : l.length ≠ 0 := by have := beq_eq_false_iff_ne.1 c4; omega
        rw [wrap64_id (by omega)]
        have ei : ((l.length : Nat) : Int) - 1 = ((l.length - 1 : Nat) : Int) := by omega
        rw [ei]
        refine ho2.rd.ix rfl (by omega) (by omega) fun hc => ?_
        have hlast : ∀ q, l[((l.length - 1 : Nat) : Int).toNat]'q = l.getLastD 0 := fun q => by
          rw [List.getLastD_eq_getLast?, List.getLast?_eq_getElem?, List.getElem?_eq_getElem (by omega : l.length - 1 < l.length)]
          rfl
        rw [hlast] at hc
        refine ldB8 (b := l.getLastD 0) hc ?_
        exact main 3 2 (l.getLastD 0) (by rw [if_neg c, if_neg c2, if_pos c3]) (by rintro ⟨_, e⟩; exact c4 (by rw [e]; rfl)) (by decide) (by decide) (by decide)
    · have c3 : y ≠ 16 := by have := beq_eq_false_iff_ne.1 c3; omega
      have hv : IntKind.u8.wrap ((y : Nat) : Int) = (((UInt8.ofNat y).toNat : Nat) : Int) := by
        rw [wrap_nat .u8 (by show _ < 2 ^ 8; omega), UInt8.toNat_ofNat']
        congr 1
        omega
      rw [hv]
      exact main 1 0 (UInt8.ofNat y) (by rw [if_neg c, if_neg c2, if_neg c3]) (by omega) (by decide) (by decide) (by decide)
  · have hge := of_decide_eq_false hge
    rw [if_pos (by omega)] at hgo
    exact hK1 s l a1 w1 hgo (by omega) ho1 ha1 h1 hc1

end

end Go.Proofs.Yteffnkpplhcomaa
