/- The program's decoder of deflate streams: take, bytes, code. -/
import Derived.Test.YteffnkpplhcomaaB6
namespace Go.Proofs.Yteffnkpplhcomaa
open Go.Vc Go.RowKit
set_option maxRecDepth 400000

/-- As DF.to, whatever the waiting bytes are. -/
structure DF.tw (F F' : DF) (n : Nat) : Prop where
  d : F'.d = F.d
  ring : F'.ring.blk = F.ring.blk ∨ ∃ k, F'.ring.blk = some k ∧ n ≤ k
  out : F'.out.blk = F.out.blk ∨ ∃ k, F'.out.blk = some k ∧ n ≤ k
theorem DF.to.w {F F' : DF} {n : Nat} (h : F.to F' n) : F.tw F' n := ⟨h.d, h.ring, h.out⟩
theorem DF.tw.old {F F' : DF} {n : Nat} (h : F.tw F' n) : ∀ k, dS F' k → dS F k ∨ n ≤ k := by
  rintro k (e | hk | hk)
  · exact .inl (.inl (e.trans h.d))
  · rcases h.ring with e | ⟨j, e, hj⟩
    · exact .inl (.inr (.inl (by rw [← e]; exact hk)))
    · rw [e] at hk; cases hk; exact .inr hj
  · rcases h.out with e | ⟨j, e, hj⟩
    · exact .inl (.inr (.inr (by rw [← e]; exact hk)))
    · rw [e] at hk; cases hk; exact .inr hj
theorem DF.tw.trans {F F' F'' : DF} {n n' : Nat} (h : F.tw F' n) (h' : F'.tw F'' n') (hn : n ≤ n') : F.tw F'' n := by
  refine ⟨h'.d.trans h.d, ?_, ?_⟩
  · rcases h'.ring with e | ⟨k, e, hk⟩
    · rcases h.ring with e' | ⟨j, e', hj⟩
      · exact .inl (e.trans e')
      · exact .inr ⟨j, e.trans e', hj⟩
    · exact .inr ⟨k, e, by omega⟩
  · rcases h'.out with e | ⟨k, e, hk⟩
    · rcases h.out with e' | ⟨j, e', hj⟩
      · exact .inl (e.trans e')
      · exact .inr ⟨j, e.trans e', hj⟩
    · exact .inr ⟨k, e, by omega⟩

theorem Ch.split {most : Nat} {bs : List UInt8} {c c2 : Cfg} {a a2 : Nat} (h : Ch most bs c a c2 a2) : (c = c2 ∧ a = a2) ∨ ∃ c1 a1, step1 most bs a c = .next c1 a1 ∧ Ch most bs c1 a1 c2 a2 := by
  cases h with
  | refl => exact .inl ⟨rfl, rfl⟩
  | step h r => exact .inr ⟨_, _, h, r⟩

section
variable {w w' : World} {base : Nat} {F : DF} {S : DS} {r : Nat} {rs : Slc} {at_ : Nat}
/-- Other bytes wait. -/
theorem DecM.putW {ws : Slc} {xs : List UInt8} {took skip : Nat} (h : DecM w base F S) (hb : Blk w' F.d ty_inflate_Decoder (decCells { F with wait := ws } { S with wait := xs, took := took, skip := skip } 0)) (hg : w.grownBy w' (some F.d)) (hr : Rd E_uint8 w ws xs)
    (hne : ∀ k, ws.blk = some k → F.ring.blk ≠ some k ∧ F.out.blk ≠ some k ∧ k ≠ F.d) (hl : xs.length ≤ 100000000000) (hs : skip ≤ 8) (ht : took ≤ 1000000000000) : DecM w' base { F with wait := ws } { S with wait := xs, took := took, skip := skip } := by
  have hc := Chg.gg hg
  have ap : ∀ {s : Slc} {xs : List UInt8}, Own E_uint8 w base s xs → ∀ k, s.blk = some k → k ≠ F.d := fun ho k hk => by
    obtain ⟨cs, hcs⟩ := ho.blk_t hk
    exact hcs.ne_t h.blk (by decide)
  exact ⟨hb, h.hd, h.ring.chg hc (ap h.ring), h.out.chg hc (ap h.out), hr.chg hc fun a ha => (hne _ (slk.2 ⟨a, ha, rfl⟩)).2.2, h.tabs' hg, h.ne, hne, h.m5, h.mo, h.ho, h.hm, h.hl, hl, hs, ⟨ht, h.ht.2.1, h.ht.2.2⟩⟩

theorem cut_blk {s : Slc} {l c k n : Nat} {j : Nat} (h : (⟨cut s.a l c k, n, c - l⟩ : Slc).blk = some j) : s.blk = some j := by
  obtain ⟨a, ha, e⟩ := slk.1 h
  obtain ⟨b, hb, e'⟩ := cut_block ha
  exact slk.2 ⟨b, hb, by rw [← e', e]⟩

theorem take_spec {K : World → Prop} (h : DR w base F S r rs at_) (h8 : at_ % 8 = 0) (hbase : base ≤ w.heap.size) (htk : S.took + at_ / 8 ≤ 1000000000000)
    (hK : ∀ F' rs' w', DR w' base F' { S with wait := S.wait.drop (at_ / 8), took := S.took + at_ / 8, skip := 0 } r rs' 0 → F.tw F' w.heap.size → Chg (drS F r) w w' → K w') : c_inflate_Decoder_take (some ⟨F.d, 0, none⟩) (some ⟨r, 0, none⟩) w K := by
  refine call_inflate_Decoder_take _ _ ?_
  unfold sh_inflate_Decoder_take
  simp only [onPtr_some]
  have hle := h.rdr.le
  have hwl := h.d.hw
  refine At_spec h.rdr ⟨by decide, ?_⟩
  refine ldI_of (x := ((S.took : Nat) : Int)) (h.d.blk.cells 11 _ rfl) ?_
  rw [add_mk, tdiv8, wrap64_id (x := ((at_ / 8 : Nat) : Int)) (by omega), wrap64_id (by omega)]
  have e1 : ((S.took : Nat) : Int) + ((at_ / 8 : Nat) : Int) = ((S.took + at_ / 8 : Nat) : Int) := rfl
  rw [e1]
  refine stK_blk h.d.blk (by simp [decCells]) fun w1 hb1 hg1 hs1 => ?_
  have hd1 : DecM w1 base F { S with took := S.took + at_ / 8 } := h.d.put hb1 hg1 rfl rfl rfl rfl rfl rfl rfl rfl (h.d.tabs' hg1) h.d.m5 h.d.hl h.d.hs ⟨htk, h.d.ht.2⟩
  have h1 := h.own hd1 rfl rfl rfl rfl rfl hg1
  refine ldSl_of (x := F.wait) (h1.d.blk.cells 3 _ rfl) ?_
  refine h1.d.wait.slK (l := at_ / 8) (m := S.wait.length) rfl (.inr rfl) (.inl ⟨rfl, rfl⟩) (by omega) (Nat.le_refl _) fun hsub => ?_
  rw [List.take_length] at hsub
  obtain ⟨ws, hws⟩ : ∃ s : Slc, s = ⟨cut F.wait.a (at_ / 8) F.wait.c E_uint8.k, S.wait.length - at_ / 8, F.wait.c - at_ / 8⟩ := ⟨_, rfl⟩
  rw [← hws] at hsub ⊢
  have hwsb : ∀ j, ws.blk = some j → F.wait.blk = some j := fun j hj => by rw [hws] at hj; exact cut_blk hj
  rw [add_mk]
  refine stK_blk h1.d.blk (by simp [decCells]) fun w2 hb2 hg2 hs2 => ?_
  have hd2 := h1.d.putW (ws := ws) (xs := S.wait.drop (at_ / 8)) (took := S.took + at_ / 8) (skip := S.skip) hb2 hg2 hsub (fun k hk => h.d.wn k (hwsb k hk)) (by simp; omega) h.d.hs htk
  have hr2 : RdrM w2 r rs S.wait at_ := h1.rdr.chg (Chg.gg hg2) (fun e => h1.r_d (.inl e)) fun k hk e => h1.sep k hk (.inl e)
  refine At_spec hr2 ⟨by decide, ?_⟩
  rw [tmod8, h8, add_mk]
  refine stK_blk hd2.blk (by simp [decCells]) fun w3 hb3 hg3 hs3 => ?_
  have hd3 : DecM w3 base { F with wait := ws } { S with wait := S.wait.drop (at_ / 8), took := S.took + at_ / 8, skip := 0 } := hd2.put hb3 hg3 rfl rfl rfl rfl rfl rfl rfl rfl (hd2.tabs' hg3) h.d.m5 h.d.hl (Nat.zero_le _) ⟨htk, h.d.ht.2⟩
  have hr3 : RdrM w3 r rs S.wait at_ := hr2.chg (Chg.gg hg3) (fun e => h1.r_d (.inl e)) fun k hk e => h1.sep k hk (.inl e)
  refine ldSl_of (x := ws) (hd3.blk.cells 3 _ rfl) ?_
  have hc3 : Chg (drS F r) w w3 := ((drS_g (r := r) hg1).trans (drS_g (r := r) hg2) fun i _ hi => hi).trans (drS_g (F := F) (r := r) hg3) fun i _ hi => hi
  have hs3' := hc3.size
  refine NewReader_spec hd3.wait (by simp; omega) fun g2 s2 w4 hg2f hs2f hr4 hB4 => ?_
  simp only [onPtr_some]
  refine ldS_of (r := T_bits_Reader.rep) (x := ⟨s2, 0⟩) hr4.blk.cells ?_
  have hd4 := hd3.ext hB4
  have hr4' := hr3.ext hB4
  refine stK_blk hr4'.blk (by simp [T_bits_Reader.rep]) fun w5 hb5 hg5 hs5 => ?_
  have hrd : r ≠ F.d := fun e => h.r_d (.inl e)
  have hrlt := h.rdr.blk.lt
  have hd5 := hd4.chg (Chg.gg hg5) (fun k hk e => by
    subst e
    rcases hk with hk | hk
    · exact h.r_d hk
    · exact h.wr _ (hwsb _ hk) rfl) fun k e _ => by subst e; exact ⟨_, _, hr4'.blk, by decide, by decide⟩
  have hr5 : RdrM w5 r s2 (S.wait.drop (at_ / 8)) 0 := by
    refine ⟨hb5, hr4.rd.chg (Chg.gg hg5) fun a ha e => ?_, Nat.zero_le _, hr4.sm, fun k hk e => ?_⟩
    · have := hs2f _ (slk.2 ⟨a, ha, rfl⟩); omega
    · have := hs2f k hk; omega
  refine ldI_of (x := 0) (hd5.blk.cells 4 _ rfl) ?_
  have hs4 := hB4.size
  have hs25 : ∀ k, s2.blk = some k → k < w5.heap.size := fun k hk => by have := (hs2f k hk).2; omega
  refine Bits_spec hr5 (fun m w6 e _ _ hr6 hc6 => ?_) (fun w6 hn _ => by omega)
  have : m = 0 := by omega
  subst this
  have hc6s := hc6.size
  have hd6 := hd5.chg hc6 (fun k hk e => by
    subst e
    rcases hk with hk | hk
    · exact h.r_d hk
    · exact h.wr _ (hwsb _ hk) rfl) fun k e _ => by subst e; exact ⟨_, _, hr5.blk, by decide, by decide⟩
  refine hK { F with wait := ws } s2 w6 ⟨hd6, hr6, fun k hk hs => ?_, h.rb, fun k hk => h.wr k (hwsb k hk), fun k hk => ?_, fun k hk => by have := hs25 k hk; omega⟩ ⟨rfl, .inl rfl, .inl rfl⟩ ?_
  · have h1 := (hs2f k hk).1
    have h2 := (h.d.below k hs).2
    omega
  · have := h.wl k (hwsb k hk)
    omega
  · exact ((hc3.trans (Chg.of_ext (S := drS F r) hB4) fun i _ hi => hi).trans (drS_r (F := F) (Chg.gg hg5)) fun i _ hi => hi).trans (drS_r (F := F) hc6) fun i _ hi => hi

theorem next1 (h : DR w base F S r rs at_) {K : World → Prop} (hK : ∀ w', DR w' base F { S with c := S.c.behind } r rs at_ → Chg (drS F r) w w' → K w') : c_inflate_Decoder_next (some ⟨F.d, 0, none⟩) w K :=
  next_spec h.d fun w' hd hc => hK w' (h.decd hd (DF.to.refl _ _) rfl (hc.mono fun i _ hi => .inl hi)) (hc.mono fun i _ hi => .inl (.inl hi))
theorem put1 {c : UInt8} {v : Int} {K : Int → World → Prop} (hv : v = (c.toNat : Int)) (h : DR w base F S r rs at_) (hbase : base ≤ w.heap.size)
    (hK1 : ∀ w', S.most ≤ S.c.hist.length → DR w' base F S r rs at_ → Chg (drS F r) w w' → K 5 w')
    (hK2 : ∀ F' w', S.c.hist.length < S.most → DR w' base F' { S with c := { S.c with hist := S.c.hist ++ [c] }, out := S.out ++ [c] } r rs at_ → F.to F' w.heap.size → Chg (drS F r) w w' → K 0 w') : c_inflate_Decoder_put (some ⟨F.d, 0, none⟩) v w K :=
  put_spec hv h.d hbase h.wl (fun hm => hK1 _ hm h.drew (Chg.of_ext ((Below.refl _ w).drew))) fun F' w' hl hd hto hc => hK2 F' w' hl (h.decd hd hto rfl hc) hto (drS_d hc)

theorem bytes_spec {K : Int → World → Prop} (h : DR w base F S r rs at_) (hm : S.c.mode = 2) (h8 : at_ % 8 = 0) (hbase : base ≤ w.heap.size) (htk : S.took + S.wait.length ≤ 1000000000000)
    (hK : ∀ e F' S' rs' at' w', StepRes S at_ e S' at' → DR w' base F' S' r rs' at' → F.tw F' w.heap.size → Chg (drS F r) w w' → K e w') : c_inflate_Decoder_bytes (some ⟨F.d, 0, none⟩) (some ⟨r, 0, none⟩) w K := by
  refine call_inflate_Decoder_bytes _ _ ?_
  unfold sh_inflate_Decoder_bytes
  refine loopP_rule_w (fun n (_ : Unit) w1 => ∃ F1 S1 a1, n = S1.c.left ∧ S1.c.mode = 2 ∧ a1 % 8 = 0 ∧ Ch S.most S.wait S.c at_ S1.c a1 ∧ (S1.c.left < S.c.left ∨ S1.c = S.c ∧ a1 = at_) ∧ (∃ x, S1.c.hist = S.c.hist ++ x ∧ S1.out = S.out ++ x) ∧ S1.most = S.most ∧ S1.given = S.given ∧ S1.told = S.told ∧ S1.wait = S.wait ∧ S1.took = S.took ∧ S1.skip = S.skip ∧ DR w1 base F1 S1 r rs a1 ∧ F1.d = F.d ∧ F.to F1 w.heap.size ∧ Chg (drS F r) w w1)
    S.c.left ⟨F, S, at_, rfl, hm, h8, .refl _ _, .inr ⟨rfl, rfl⟩, ⟨[], by simp, by simp⟩, rfl, rfl, rfl, rfl, rfl, rfl, h, rfl, DF.to.refl _ _, Chg.refl _ _⟩ ?_
  rintro n _ w1 ⟨F1, S1, a1, rfl, hm1, h81, hch, hlt, ⟨x, hx, hxo⟩, em, eg, et, ew, etk, esk, h1, ed, hto, hc1⟩ I hI
  have hst : step1 S.most S.wait a1 S1.c = stepByte S.most S.wait a1 S1.c := by rw [step1, if_neg (by omega), stepN, if_neg (by omega), if_neg (by omega), if_pos hm1]
  have hs1 := hc1.size
  rw [← ed]
  simp only [onPtr_some]
  have hll := h1.d.hl
  have sub : ∀ {w2 w3 : World}, Chg (drS F r) w w2 → Chg (drS F1 r) w2 w3 → Chg (drS F r) w w3 := fun h2 h3 => h2.trans h3 fun i hi hs => by
    rcases hs with hs | hs
    · rcases hto.old i hs with e | e
      · exact .inl e
      · omega
    · exact .inr hs
  refine ldI_of (x := ((S1.c.left : Nat) : Int)) (h1.d.blk.cells 5 _ rfl) ?_
  refine cond_of (fun hpos => ?_) (fun hzero => ?_)
  · have hpos := of_decide_eq_true hpos
    refine rBits h1 (fun m w2 e _ hl2 h2 hc2 => ?_) (fun w2 hn h2 hc2 => ?_)
    · have : m = 8 := by omega
      subst this
      rw [ew] at hl2 ⊢
      refine cond_f rfl ?_
      have hp := peekN_lt S.wait a1 8
      have hv : IntKind.u8.wrap ((peekN S.wait a1 8 : Nat) : Int) = (((UInt8.ofNat (peekN S.wait a1 8)).toNat : Nat) : Int) := by
        rw [wrap_nat .u8 (by show _ < 2 ^ 8; omega), UInt8.toNat_ofNat']
        congr 1
        omega
      have hs2 := hc2.size
      unfold stepByte at hst
      rw [if_neg (by omega), if_neg (by omega)] at hst
      refine put1 hv h2 (by omega) (fun w3 hfull h3 hc3 => ?_) (fun F3 w3 hroom h3 hto3 hc3 => ?_)
      · rw [em] at hfull
        rw [if_pos hfull] at hst
        refine cond_t rfl (hK 5 F1 S1 rs _ w3 ⟨em, eg, et, .inr (.inr ⟨5, rfl, .inr rfl, ⟨S1.c, a1, hch, hst⟩, etk, ew⟩)⟩ h3 hto.w (sub (sub hc1 hc2) hc3))
      · rw [em] at hroom
        rw [if_neg (by omega)] at hst
        refine cond_f rfl ?_
        have ed3 : F3.d = F1.d := hto3.d
        rw [← ed3]
        refine ldI_of (x := ((S1.c.left : Nat) : Int)) (h3.d.blk.cells 5 _ rfl) ?_
        rw [add_mk, wrap64_id (by omega)]
        refine stK_blk h3.d.blk (by simp [decCells]) fun w4 hb4 hg4 hs4 => ?_
        have e1 : ((S1.c.left : Nat) : Int) - 1 = ((S1.c.left - 1 : Nat) : Int) := by omega
        rw [e1] at hb4
        have hd4 : DecM w4 base F3 { S1 with c := { S1.c with left := S1.c.left - 1, hist := S1.c.hist ++ [UInt8.ofNat (peekN S.wait a1 8)] }, out := S1.out ++ [UInt8.ofNat (peekN S.wait a1 8)] } := h3.d.put hb4 hg4 rfl rfl rfl rfl rfl rfl rfl rfl (fun e => by have e : S1.c.mode = 4 := e; omega) h3.d.m5 (by show S1.c.left - 1 ≤ 65535; omega) h3.d.hs h3.d.ht
        have h4 := h3.own hd4 rfl rfl rfl rfl rfl hg4
        have hto' : F.to F3 w.heap.size := hto.trans hto3 (by omega)
        refine hI _ () w4 ⟨F3, { S1 with c := { S1.c with left := S1.c.left - 1, hist := S1.c.hist ++ [UInt8.ofNat (peekN S.wait a1 8)] }, out := S1.out ++ [UInt8.ofNat (peekN S.wait a1 8)] }, a1 + 8, rfl, hm1, by omega, hch.trans (.one hst), .inl ?_, ⟨x ++ [UInt8.ofNat (peekN S.wait a1 8)], ?_, ?_⟩, em, eg, et, ew, etk, esk, h4, ed3.trans ed, hto', ?_⟩ ?_
        · show S1.c.left - 1 < S.c.left
          rcases hlt with e | ⟨e, _⟩
          · omega
          · rw [e] at hpos ⊢; omega
        · show S1.c.hist ++ _ = _
          rw [hx, List.append_assoc]
        · show S1.out ++ _ = _
          rw [hxo, List.append_assoc]
        · have hc3' : Chg (drS F r) w w3 := sub (sub hc1 hc2) hc3
          exact hc3'.trans (Chg.gg hg4) fun i hi e => by
            subst e
            rw [ed3, ed]
            exact .inl (.inl rfl)
        · show S1.c.left - 1 < S1.c.left
          omega
    · refine cond_t rfl ?_
      unfold stepByte at hst
      rw [ew] at hn
      rw [if_neg (by omega), if_pos (by omega)] at hst
      have hle := h1.rdr.le
      rw [ew] at hle
      have hs2 := hc2.size
      refine take_spec h2 h81 (by omega) (by rw [etk]; omega) fun F3 rs3 w3 h3 hto3 hc3 => ?_
      refine hK 2 F3 { S1 with wait := S1.wait.drop (a1 / 8), took := S1.took + a1 / 8, skip := 0 } rs3 0 w3 ⟨em, eg, et, .inr (.inl ⟨rfl, a1 / 8, a1, hch, hst, ⟨x, hx, hxo⟩, by show S1.wait.drop _ = _; rw [ew], by omega, by show S1.took + _ = _; rw [etk], by omega, by show S1.c.mode ≤ 4; omega⟩)⟩ h3 (hto.w.trans hto3 (by omega)) (sub (sub hc1 hc2) hc3)
  · have hzero := of_decide_eq_false hzero
    unfold stepByte at hst
    rw [if_pos (by omega)] at hst
    refine next1 h1 fun w2 h2 hc2 => ?_
    refine hK 0 F1 { S1 with c := S1.c.behind } rs a1 w2 ⟨em, eg, et, .inl ⟨rfl, ?_, ⟨x, hx, hxo⟩, ew, etk, esk⟩⟩ h2 hto.w (sub hc1 hc2)
    rcases (hch.trans (.one hst)).split with ⟨e, _⟩ | ⟨c1, b1, e1, e2⟩
    · exfalso
      have e := congrArg Cfg.mode e
      rw [hm] at e
      unfold Cfg.behind at e
      have e : 2 = if S1.c.last then 5 else 0 := e
      split at e <;> omega
    · exact ⟨c1, b1, e1, e2⟩
end

end Go.Proofs.Yteffnkpplhcomaa
