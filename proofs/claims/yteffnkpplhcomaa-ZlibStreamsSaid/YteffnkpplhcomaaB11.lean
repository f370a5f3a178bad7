/- The program's decoder of deflate streams: Write. -/
import Derived.Test.YteffnkpplhcomaaB10
import Derived.Test.YteffnkpplhcomaaInfM
namespace Go.Proofs.Yteffnkpplhcomaa
open Go.Vc Go.RowKit
set_option maxRecDepth 400000

def nilS : Slc := ⟨none, 0, 0⟩
section
variable {w w' : World} {base : Nat} {F : DF} {S : DS} {r : Nat} {rs : Slc} {at_ : Nat}

theorem Back_min {b : Nat} {K : World → Prop} (h : DR w base F S r rs at_) (hK : ∀ w', DR w' base F S r rs (min b at_) → Chg (drS F r) w w' → K w') : c_bits_Reader_Back (some ⟨r, 0, none⟩) b w K := by
  by_cases hb : b ≤ at_
  · refine Back_spec h.rdr hb fun w' hr hc => hK w' ?_ (drS_r hc)
    rw [Nat.min_eq_left hb]
    exact h.moved hr hc
  · refine call_bits_Reader_Back _ _ ?_
    unfold sh_bits_Reader_Back
    simp only [onPtr_some]
    refine ldI_of (x := (at_ : Int)) (h.rdr.blk.cells 1 _ rfl) ?_
    have e : (if (at_ : Int) < (if (0 : Int) > (b : Int) then (0 : Int) else (b : Int)) then (at_ : Int) else (if (0 : Int) > (b : Int) then (0 : Int) else (b : Int))) = (at_ : Int) := by
      rw [if_neg (show ¬ (0 : Int) > (b : Int) by omega), if_pos (by omega)]
    rw [e, add_mk]
    refine stK_blk h.rdr.blk (by simp) fun w2 hb2 hg2 hs2 => ?_
    have hr2 := h.rdr.move hb2 hg2 h.rdr.le
    have h2 := h.moved hr2 (Chg.gg hg2)
    refine hK w2 ?_ (drS_r (Chg.gg hg2))
    rw [Nat.min_eq_right (by omega)]
    exact h2

/-- A decoder that has failed. -/
structure FailM (w : World) (d : Nat) (S : DS) (e : Int) : Prop where
  blk : ∃ sg ds : Option TF, Blk w d ty_inflate_Decoder (decCells ⟨d, nilS, nilS, nilS, sg, ds⟩ S e)

theorem after_spec {e : Int} {K : Slc → Int → World → Prop} (h : DR w base F S r rs at_) (he : e = 0 ∨ e = 2 ∨ e = 3 ∨ e = 5) (htold : (e = 0 ∨ e = 2) → S.told + S.out.length ≤ S.c.hist.length) (htk : S.took + S.wait.length ≤ 900000000000)
    (hK1 : (e = 0 ∨ e = 2) → ∀ F' w', DecM w' base F' { S with took := S.took + (if S.c.mode = 5 then (at_ + 7) / 8 else at_ / 8), skip := at_ % 8, wait := if S.c.mode = 5 then [] else S.wait.drop (at_ / 8), told := S.told + S.out.length, out := [] } → Own E_uint8 w' base F.out S.out → (∀ k, F.out.blk = some k → ¬ dS F' k) → F'.d = F.d → F'.ring = F.ring → F'.out = nilS → (∀ k, F'.wait.blk = some k → k < w'.heap.size) → Chg (fun k => k = F.d) w w' → K F.out 0 w')
    (hK2 : (e = 3 ∨ e = 5) → ∀ S' w', FailM w' F.d S' e → S'.given = S.given → Chg (fun k => k = F.d) w w' → K nilS e w') :
    c_bits_Reader_At (some (⟨r, 0, none⟩ : Addr)) w fun t77 w12 =>
                (8 : Int) ≠ 0 ∧
                joinP (σ := Int × Unit) (fun s_2 w13 =>
                  ldI .i64 ((⟨F.d, 0, none⟩ : Addr).add 11) w13 fun t91 =>
                  stK ((⟨F.d, 0, none⟩ : Addr).add 11) [(.int .i64 (IntKind.i64.wrap (t91 + s_2.1)))] w13 fun w14 =>
                  c_bits_Reader_At (some (⟨r, 0, none⟩ : Addr)) w14 fun t98 w15 =>
                  (8 : Int) ≠ 0 ∧
                  stK ((⟨F.d, 0, none⟩ : Addr).add 4) [(.int .i64 (t98.tmod (8 : Int)))] w15 fun w16 =>
                  ldSl ((⟨F.d, 0, none⟩ : Addr).add 3) w16 fun t106 =>
                  slK t106 (some s_2.1) none 1 fun t108 =>
                  c_slices_Clone_byte_byte t108 w16 fun t109 w17 =>
                  stK ((⟨F.d, 0, none⟩ : Addr).add 3) [(.slice t109.a t109.n t109.c)] w17 fun w18 =>
                  joinP (σ := Unit) (fun s_3 w19 =>
                    ldSl ((⟨F.d, 0, none⟩ : Addr).add 14) w19 fun t123 =>
                    stK ((⟨F.d, 0, none⟩ : Addr).add 14) [(.slice none 0 0)] w19 fun w20 =>
                    joinP (σ := Unit) (fun s_4 w21 =>
                      ldI .i64 ((⟨F.d, 0, none⟩ : Addr).add 10) w21 fun t147 =>
                      stK ((⟨F.d, 0, none⟩ : Addr).add 10) [(.int .i64 (IntKind.i64.wrap (t147 + ((t123.n : Nat) : Int))))] w21 fun w22 =>
                      K t123 0 w22) fun J5 =>
                    joinP (σ := Bool × Unit) (fun s_5 w23 =>
                      cond s_5.1
                        (stK ((⟨F.d, 0, none⟩ : Addr).add 13) [(.int .i64 e)] w23 fun w24 =>
                         stK ((⟨F.d, 0, none⟩ : Addr).add 3) [(.slice none 0 0)] w24 fun w25 =>
                         stK ((⟨F.d, 0, none⟩ : Addr).add 8) [(.slice none 0 0)] w25 fun w26 =>
                         K (⟨none, 0, 0⟩ : Slc) e w26)
                        (J5 (()) w23)) fun J6 =>
                    cond (e != (0 : Int))
                      (J6 ((e != (2 : Int)), ()) w20)
                      (J6 (false, ()) w20)) fun J4 =>
                  ldI .i64 ((⟨F.d, 0, none⟩ : Addr).add 1) w18 fun t115 =>
                  cond (t115 == (5 : Int))
                    (stK ((⟨F.d, 0, none⟩ : Addr).add 3) [(.slice none 0 0)] w18 fun w27 =>
                     J4 (()) w27)
                    (J4 (()) w18)) fun J3 =>
                ldI .i64 ((⟨F.d, 0, none⟩ : Addr).add 1) w12 fun t82 =>
                cond (t82 == (5 : Int))
                  (c_bits_Reader_At (some (⟨r, 0, none⟩ : Addr)) w12 fun t85 w28 =>
                   (8 : Int) ≠ 0 ∧
                   J3 ((IntKind.i64.wrap ((IntKind.i64.wrap (t85 + (7 : Int))).tdiv (8 : Int))), ()) w28)
                  (J3 ((IntKind.i64.wrap (t77.tdiv (8 : Int))), ()) w12) := by
  have hle := h.rdr.le
  have hwl := h.d.hw
  refine At_spec h.rdr ⟨by decide, ?_⟩
  refine joinP_of fun J3 hJ3 => ?_
  refine ldI_of (x := ((S.c.mode : Nat) : Int)) (h.d.blk.cells 1 _ rfl) ?_
  obtain ⟨n0, hn0⟩ : ∃ n, (if S.c.mode = 5 then (at_ + 7) / 8 else at_ / 8) = n := ⟨_, rfl⟩
  have hn0l : n0 ≤ S.wait.length := by split at hn0 <;> omega
  rw [hn0] at hK1
  have main : J3 ((n0 : Int), ()) w := hJ3 _ _ (by
    clear hJ3
    refine ldI_of (x := ((S.took : Nat) : Int)) (h.d.blk.cells 11 _ rfl) ?_
    rw [add_mk, wrap64_id (by omega)]
    have e1 : ((S.took : Nat) : Int) + ((n0 : Nat) : Int) = ((S.took + n0 : Nat) : Int) := rfl
    rw [e1]
    refine stK_blk h.d.blk (by simp [decCells]) fun w1 hb1 hg1 hs1 => ?_
    have hd1 : DecM w1 base F { S with took := S.took + n0 } := h.d.put hb1 hg1 rfl rfl rfl rfl rfl rfl rfl rfl (h.d.tabs' hg1) h.d.m5 h.d.hl h.d.hs ⟨by show S.took + n0 ≤ _; omega, h.d.ht.2⟩
    have h1 := h.own hd1 rfl rfl rfl rfl rfl hg1
    refine At_spec h1.rdr ⟨by decide, ?_⟩
    rw [tmod8, add_mk]
    refine stK_blk h1.d.blk (by simp [decCells]) fun w2 hb2 hg2 hs2 => ?_
    have hd2 : DecM w2 base F { S with took := S.took + n0, skip := at_ % 8 } := h1.d.put hb2 hg2 rfl rfl rfl rfl rfl rfl rfl rfl (h1.d.tabs' hg2) h.d.m5 h.d.hl (by show at_ % 8 ≤ 8; omega) h1.d.ht
    refine ldSl_of (x := F.wait) (hd2.blk.cells 3 _ rfl) ?_
    refine hd2.wait.slK (l := n0) (m := S.wait.length) rfl (.inr rfl) (.inl ⟨rfl, rfl⟩) hn0l (Nat.le_refl _) fun hsub => ?_
    rw [List.take_length] at hsub
    refine CloneB_spec hsub (by simp; omega) fun q w3 hq hB3 => ?_
    have hd3 := hd2.ext hB3
    have hs12 : w.heap.size ≤ w2.heap.size := by omega
    have hs3 := hB3.size
    have qne : ∀ k, q.blk = some k → F.ring.blk ≠ some k ∧ F.out.blk ≠ some k ∧ k ≠ F.d := fun k hk => by
      have h0 := (hq.lt k hk).1
      refine ⟨fun e => ?_, fun e => ?_, fun e => ?_⟩
      · have := (h.d.below k (.inr (.inl e))).2; omega
      · have := (h.d.below k (.inr (.inr e))).2; omega
      · have := (h.d.below k (.inl e)).2; omega
    rw [add_mk]
    refine stK_blk hd3.blk (by simp [decCells]) fun w4 hb4 hg4 hs4 => ?_
    have hd4 := hd3.putW (ws := q) (xs := S.wait.drop n0) (took := S.took + n0) (skip := at_ % 8) hb4 hg4 hq.rd qne (by simp; omega) (by omega) (by omega)
    have c4 : Chg (fun k => k = F.d) w w4 := (((Chg.gg hg1).trans (Chg.gg hg2) fun i _ hi => hi).trans (Chg.of_ext (S := fun k => k = F.d) hB3) fun i _ hi => hi).trans (Chg.gg hg4) fun i _ hi => hi
    have qlt : ∀ k, q.blk = some k → k < w4.heap.size := fun k hk => by have := (hq.lt k hk).2; omega
    refine joinP_of fun J4 hJ4 => ?_
    -- the end
    have fin : ∀ (ws : Slc) (xs : List UInt8) w5, DecM w5 base { F with wait := ws } { S with took := S.took + n0, skip := at_ % 8, wait := xs } → xs = (if S.c.mode = 5 then [] else S.wait.drop (at_ / 8)) → (∀ k, ws.blk = some k → k < w5.heap.size) → Chg (fun k => k = F.d) w w5 → J4 () w5 := fun ws xs w5 hd5 hxs hwl5 c5 => hJ4 _ _ (by
      clear hJ4
      refine ldSl_of (x := F.out) (hd5.blk.cells 14 _ rfl) ?_
      have hon : F.out.n = S.out.length := h.d.out.rd.n
      rw [add_mk]
      refine stK_blk hd5.blk (by simp [decCells]) fun w6 hb6 hg6 hs6 => ?_
      have ho6 : Own E_uint8 w6 base F.out S.out := hd5.out.chg (Chg.gg hg6) fun k hk => by
        obtain ⟨cs, hcs⟩ := hd5.out.blk_t hk
        exact hcs.ne_t hd5.blk (by decide)
      have hd6 : DecM w6 base { F with wait := ws, out := nilS } { S with took := S.took + n0, skip := at_ % 8, wait := xs, out := [] } := by
        have hc := Chg.gg hg6
        have ap : ∀ {s : Slc} {xs : List UInt8}, Own E_uint8 w5 base s xs → ∀ k, s.blk = some k → k ≠ F.d := fun ho k hk => by
          obtain ⟨cs, hcs⟩ := ho.blk_t hk
          exact hcs.ne_t hd5.blk (by decide)
        exact ⟨hb6, hd5.hd, hd5.ring.chg hc (ap hd5.ring), Own.nil _ _ _, hd5.wait.chg hc fun a ha => (hd5.wn _ (slk.2 ⟨a, ha, rfl⟩)).2.2, hd5.tabs' hg6, fun k _ e => (by cases e), fun k hk => ⟨(hd5.wn k hk).1, fun e => (by cases e), (hd5.wn k hk).2.2⟩, hd5.m5, hd5.mo, Nat.zero_le _, hd5.hm, hd5.hl, hd5.hw, hd5.hs, hd5.ht⟩
      have c6 : Chg (fun k => k = F.d) w w6 := c5.trans (Chg.gg hg6) fun i _ hi => hi
      refine joinP_of fun J5 hJ5 => ?_
      have good : (e = 0 ∨ e = 2) → J5 () w6 := fun hee => hJ5 _ _ (by
        refine ldI_of (x := ((S.told : Nat) : Int)) (hd6.blk.cells 10 _ rfl) ?_
        have hhm := h.d.hm
        have hmo := h.d.mo
        have htold := htold hee
        rw [add_mk, hon, wrap64_id (by omega)]
        have e2 : ((S.told : Nat) : Int) + ((S.out.length : Nat) : Int) = ((S.told + S.out.length : Nat) : Int) := rfl
        rw [e2]
        refine stK_blk hd6.blk (by simp [decCells]) fun w7 hb7 hg7 hs7 => ?_
        have hd7 : DecM w7 base { F with wait := ws, out := nilS } { S with took := S.took + n0, skip := at_ % 8, wait := xs, told := S.told + S.out.length, out := [] } := hd6.put hb7 hg7 rfl rfl rfl rfl rfl rfl rfl rfl (hd6.tabs' hg7) hd6.m5 hd6.hl hd6.hs ⟨hd6.ht.1, hd6.ht.2.1, htold⟩
        rw [← hxs] at hK1
        refine hK1 hee { F with wait := ws, out := nilS } w7 hd7 (ho6.chg (Chg.gg hg7) fun k hk => ?_) (fun k hk hs => ?_) rfl rfl rfl (fun k hk => by have := hwl5 k hk; omega) (c6.trans (Chg.gg hg7) fun i _ hi => hi)
        · obtain ⟨cs, hcs⟩ := ho6.blk_t hk
          exact hcs.ne_t hd6.blk (by decide)
        · rcases hs with hs | hs | hs
          · obtain ⟨cs, hcs⟩ := ho6.blk_t hk
            exact hcs.ne_t hd6.blk (by decide) hs
          · exact h.d.ne k hs hk
          · cases hs)
      refine joinP_of fun J6 hJ6 => ?_
      rcases he with rfl | rfl | rfl | rfl
      · exact cond_f rfl (hJ6 _ _ (cond_f rfl (good (.inl rfl))))
      · exact cond_t rfl (hJ6 _ _ (cond_f rfl (good (.inr rfl))))
      all_goals
        refine cond_t rfl (hJ6 _ _ (cond_t rfl ?_))
        try rw [add_mk]
        refine stK_blk hd6.blk (by simp [decCells]) fun w7 hb7 hg7 hs7 => ?_
        try rw [add_mk]
        refine stK_blk hb7 (by simp [decCells, putL_length]) fun w8 hb8 hg8 hs8 => ?_
        try rw [add_mk]
        refine stK_blk hb8 (by simp [decCells, putL_length]) fun w9 hb9 hg9 hs9 => ?_
        exact hK2 (by decide) { S with took := S.took + n0, skip := at_ % 8, wait := xs, out := [] } w9 ⟨F.sg, F.ds, hb9⟩ rfl (((c6.trans (Chg.gg hg7) fun i _ hi => hi).trans (Chg.gg hg8) fun i _ hi => hi).trans (Chg.gg hg9) fun i _ hi => hi))
    refine ldI_of (x := ((S.c.mode : Nat) : Int)) (hd4.blk.cells 1 _ rfl) ?_
    refine cond_of (fun hm => ?_) (fun hm => ?_)
    · have hm : S.c.mode = 5 := by have := eq_of_beq hm; omega
      try rw [add_mk]
      refine stK_blk hd4.blk (by simp [decCells]) fun w5 hb5 hg5 hs5 => ?_
      have hd5 := hd4.putW (ws := nilS) (xs := []) (took := S.took + n0) (skip := at_ % 8) hb5 hg5 (Rd.nil _ _) (fun k hk => by cases hk) (Nat.zero_le _) (by omega) (by omega)
      exact fin nilS [] w5 hd5 (by rw [if_pos hm]) (fun k hk => by cases hk) (c4.trans (Chg.gg hg5) fun i _ hi => hi)
    · have hm : S.c.mode ≠ 5 := by have := beq_eq_false_iff_ne.1 hm; omega
      rw [if_neg hm] at hn0
      exact fin q (S.wait.drop n0) w4 hd4 (by rw [if_neg hm, hn0]) qlt c4)
  refine cond_of (fun hm => ?_) (fun hm => ?_)
  · have hm : S.c.mode = 5 := by have := eq_of_beq hm; omega
    rw [if_pos hm] at hn0
    refine At_spec h.rdr ⟨by decide, ?_⟩
    have e1 : ((at_ : Nat) : Int) + 7 = ((at_ + 7 : Nat) : Int) := rfl
    rw [wrap64_id (x := ((at_ : Nat) : Int) + 7) (by omega), e1, tdiv8, hn0, wrap64_id (by omega)]
    exact main
  · have hm : S.c.mode ≠ 5 := by have := beq_eq_false_iff_ne.1 hm; omega
    rw [if_neg hm] at hn0
    rw [tdiv8, hn0, wrap64_id (by omega)]
    exact main
end

end Go.Proofs.Yteffnkpplhcomaa
