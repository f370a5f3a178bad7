/- The program's decoder of deflate streams: Write, against the stream that was given. -/
import Derived.Test.YteffnkpplhcomaaB11
namespace Go.Proofs.Yteffnkpplhcomaa
open Go.Vc Go.RowKit
set_option maxRecDepth 400000

theorem Ch.shift {most : Nat} {B : List UInt8} {k : Nat} (hk : k ≤ B.length) {c c' : Cfg} {a a' : Nat} (h : Ch most (B.drop k) c a c' a') : Ch most B c (8 * k + a) c' (8 * k + a') := by
  induction h with
  | refl c a => exact .refl _ _
  | step h r ih =>
    refine .step ?_ ih
    rw [step1_drop hk, h]
    rfl
theorem Ch.le {most : Nat} {B : List UInt8} {c c' : Cfg} {a a' : Nat} (h : Ch most B c a c' a') (ha : a ≤ 8 * B.length) : a' ≤ 8 * B.length ∧ a ≤ a' ∧ mu B c' a' ≤ mu B c a := by
  induction h with
  | refl c a => exact ⟨ha, Nat.le_refl _, Nat.le_refl _⟩
  | step h r ih =>
    obtain ⟨h1, h2, h3⟩ := step1_next h ha
    obtain ⟨i1, i2, i3⟩ := ih h1
    exact ⟨i1, by omega, by omega⟩
theorem step1_al {most : Nat} {B : List UInt8} {c c' : Cfg} {a a' : Nat} (h : step1 most B a c = .next c' a') (hal : c.mode = 2 → a % 8 = 0) : c'.mode = 2 → a' % 8 = 0 := by
  intro hm
  unfold step1 at h
  by_cases hm5 : c.mode = 5
  · rw [if_pos hm5] at h; cases h
  rw [if_neg hm5] at h
  unfold stepN at h
  split at h
  · unfold stepHead at h
    dsimp only at h
    repeat' split at h
    all_goals first | (cases h; done) | (injection h with h1 h2; subst h1; cases hm)
  · split at h
    · unfold stepStored at h
      repeat' split at h
      all_goals first | (cases h; done) | (injection h with h1 h2; subst h2; unfold up8; omega)
    · split at h
      · next h2 =>
        have := hal h2
        unfold stepByte at h
        repeat' split at h
        all_goals first | (cases h; done) | (injection h with h3 h4; omega)
      · split at h
        · unfold stepDyn at h
          dsimp only at h
          repeat' split at h
          all_goals first | (cases h; done) | (injection h with h1 h2; subst h1; cases hm)
        · next h0 h1 h2 h3 =>
          exfalso
          have key : c'.mode = c.mode ∨ c'.mode = 0 ∨ c'.mode = 5 := by
            unfold stepCode at h
            cases hr : readT c.sg B a with
            | short => rw [hr] at h; cases h
            | form => rw [hr] at h; cases h
            | sym y k =>
              rw [hr] at h
              dsimp only at h
              split at h
              · injection h with h1 h2
                subst h1
                unfold Cfg.behind
                dsimp only
                split
                · exact .inr (.inr rfl)
                · exact .inr (.inl rfl)
              · split at h
                · cases h
                · split at h
                  · split at h
                    · cases h
                    · injection h with h1 h2; subst h1; exact .inl rfl
                  · obtain ⟨b, n, hbn⟩ : ∃ b n, lenBase y = (b, n) := ⟨_, _, rfl⟩
                    simp only [hbn] at h
                    split at h
                    · cases h
                    · cases hr2 : readT c.ds B (a + k + n) with
                      | short => rw [hr2] at h; cases h
                      | form => rw [hr2] at h; cases h
                      | sym z j =>
                        rw [hr2] at h
                        dsimp only at h
                        split at h
                        · cases h
                        · obtain ⟨b2, n2, hbn2⟩ : ∃ b n, distBase z = (b, n) := ⟨_, _, rfl⟩
                          simp only [hbn2] at h
                          repeat' split at h
                          all_goals first | (cases h; done) | (injection h with h1 h2; subst h1; exact .inl rfl)
          omega
theorem Ch.al {most : Nat} {B : List UInt8} {c c' : Cfg} {a a' : Nat} (h : Ch most B c a c' a') (hal : c.mode = 2 → a % 8 = 0) : c'.mode = 2 → a' % 8 = 0 := by
  induction h with
  | refl c a => exact hal
  | step h r ih => exact ih (step1_al h hal)

section
variable {w : World} {base : Nat} {F : DF} {S : DS}
/-- What a decoder is between two Writes. -/
structure Fed (F : DF) (S : DS) (B : List UInt8) (p : Nat) : Prop where
  out : S.out = []
  fo : F.out = nilS
  told : S.told = S.c.hist.length
  given : S.given = B.length
  pl : p ≤ 8 * B.length
  took : S.took = if S.c.mode = 5 then (p + 7) / 8 else p / 8
  skip : S.skip = p % 8
  wait : S.wait = if S.c.mode = 5 then [] else B.drop (p / 8)
  al : S.c.mode = 2 → p % 8 = 0

theorem Write_spec {b : Slc} {bs B : List UInt8} {p : Nat} {K : Slc → Int → World → Prop} (h : DecM w base F S) (f : Fed F S B p) (hm : S.c.mode ≤ 4) (hb : Rd E_uint8 w b bs) (hbd : ∀ k, b.blk = some k → ¬ dS F k) (hbnd : B.length + bs.length ≤ 1000000000) (hbase : base ≤ w.heap.size) (hwlt : ∀ k, F.wait.blk = some k → k < w.heap.size)
    (hK1 : ∀ o x p' F' S' w', Ch S.most (B ++ bs) S.c p S'.c p' → (S'.c.mode = 5 ∨ S'.c.mode ≤ 4 ∧ step1 S.most (B ++ bs) p' S'.c = .short) → S'.c.hist = S.c.hist ++ x → Own E_uint8 w' base o x → (∀ k, o.blk = some k → ¬ dS F' k) → DecM w' base F' S' → Fed F' S' (B ++ bs) p' → S'.most = S.most → F.tw F' w.heap.size → (∀ k, F'.wait.blk = some k → k < w'.heap.size) → Chg (dS F) w w' → K o 0 w')
    (hK2 : ∀ (n : Nat) c' p' S' w', (n = 3 ∨ n = 5) → Ch S.most (B ++ bs) S.c p c' p' → step1 S.most (B ++ bs) p' c' = .err n → FailM w' F.d S' n → S'.given = (B ++ bs).length → Chg (dS F) w w' → K nilS n w') : c_inflate_Decoder_Write (some ⟨F.d, 0, none⟩) b w K := by
  refine call_inflate_Decoder_Write _ _ ?_
  unfold sh_inflate_Decoder_Write
  simp only [onPtr_some]
  have hp := f.pl
  have htook := f.took
  have hwait := f.wait
  rw [if_neg (by omega)] at htook hwait
  have hBl : (B ++ bs).length = B.length + bs.length := List.length_append
  refine ldI_of (x := ((S.given : Nat) : Int)) (h.blk.cells 12 _ rfl) ?_
  rw [add_mk, hb.n, f.given, wrap64_id (by omega)]
  have e0 : ((B.length : Nat) : Int) + ((bs.length : Nat) : Int) = (((B ++ bs).length : Nat) : Int) := by rw [hBl]; rfl
  rw [e0]
  refine stK_blk h.blk (by simp [decCells]) fun w1 hb1 hg1 hs1 => ?_
  have hd1 : DecM w1 base F { S with given := (B ++ bs).length } := h.put hb1 hg1 rfl rfl rfl rfl rfl rfl rfl rfl (h.tabs' hg1) h.m5 h.hl h.hs ⟨h.ht.1, by show (B ++ bs).length ≤ _; omega, h.ht.2.2⟩
  have hb1' := hb.chg (Chg.gg hg1) fun a ha e => hbd _ (slk.2 ⟨a, ha, rfl⟩) (.inl e)
  refine ldI_of (x := 0) (hd1.blk.cells 13 _ rfl) (cond_f rfl ?_)
  refine ldI_of (x := ((S.c.mode : Nat) : Int)) (hd1.blk.cells 1 _ rfl) (cond_f (by simp; omega) ?_)
  refine ldSl_of (x := F.wait) (hd1.blk.cells 3 _ rfl) ?_
  have hwl : S.wait.length = B.length - p / 8 := by rw [hwait, List.length_drop]
  rw [← hb.n]
  refine ConcatB2 hd1.wait hb1' (by show S.wait.length + bs.length ≤ _; omega) fun q w3 hq hB3 => ?_
  have hd3 := hd1.ext hB3
  have hW : S.wait ++ bs = (B ++ bs).drop (p / 8) := by rw [hwait, List.drop_append_of_le_length (by omega)]
  have hs3 := hB3.size
  have qne : ∀ k, q.blk = some k → F.ring.blk ≠ some k ∧ F.out.blk ≠ some k ∧ k ≠ F.d := fun k hk => by
    have h0 := (hq.lt k hk).1
    refine ⟨fun e => ?_, fun e => ?_, fun e => ?_⟩
    · have := (h.below k (.inr (.inl e))).2; omega
    · have := (h.below k (.inr (.inr e))).2; omega
    · have := (h.below k (.inl e)).2; omega
  rw [add_mk]
  refine stK_blk hd3.blk (by simp [decCells]) fun w4 hb4 hg4 hs4 => ?_
  have hWl : (S.wait ++ bs).length = S.wait.length + bs.length := List.length_append
  have hd4 := hd3.putW (ws := q) (xs := S.wait ++ bs) (took := S.took) (skip := S.skip) hb4 hg4 hq.rd qne (by omega) h.hs h.ht.1
  refine ldSl_of (x := q) (hd4.blk.cells 3 _ rfl) ?_
  refine NewReader_spec hd4.wait (by show (S.wait ++ bs).length ≤ _; omega) fun r rs w5 hr0 hrs0 hr5 hB5 => ?_
  have hd5 := hd4.ext hB5
  have hs5 := hB5.size
  have h5 : DR w5 base { F with wait := q } { S with given := (B ++ bs).length, wait := S.wait ++ bs } r rs 0 := by
    refine ⟨hd5, hr5, fun k hk hs => ?_, by omega, fun k hk e => ?_, fun k hk => ?_, fun k hk => (hrs0 k hk).2⟩
    · have h1 := (hrs0 k hk).1
      have h2 := (h.below k hs).2
      omega
    · have h1 := (hq.lt k hk).2; omega
    · have h1 := (hq.lt k hk).2; omega
  have c5 : Chg (dS F) w w5 := ((((Chg.gg hg1).mono fun i _ hi => .inl hi : Chg (dS F) w w1).trans (Chg.of_ext (S := dS F) hB3) fun i _ hi => hi).trans (Chg.gg hg4) fun i _ hi => .inl hi).trans (Chg.of_ext (S := dS F) hB5) fun i _ hi => hi
  have hskip := f.skip
  refine ldI_of (x := ((S.skip : Nat) : Int)) (h5.d.blk.cells 4 _ rfl) ?_
  refine rBits h5 (fun m w6 e hm32 hl6 h6 hc6 => ?_) (fun w6 hn _ _ => ?_)
  rotate_left
  · exfalso
    have hn : ((S.skip : Nat) : Int) < 0 ∨ ((S.skip : Nat) : Int) > 32 ∨ ((0 : Nat) : Int) + ((S.skip : Nat) : Int) > 8 * ((S.wait ++ bs).length : Nat) := hn
    omega
  have : m = p % 8 := by omega
  subst this
  rw [Nat.zero_add] at h6
  have sub : ∀ {F1 : DF} {w1 w2 : World}, F.tw F1 w.heap.size → w.heap.size ≤ r → Chg (dS F) w w1 → Chg (drS F1 r) w1 w2 → Chg (dS F) w w2 := fun hto hr h1 h2 => h1.trans h2 fun i hi hs => by
    rcases hs with hs | hs
    · rcases hto.old i hs with e | e
      · exact e
      · omega
    · omega
  have hrw : w.heap.size ≤ r := by omega
  have c6 : Chg (dS F) w w6 := sub (F1 := { F with wait := q }) ⟨rfl, .inl rfl, .inl rfl⟩ hrw c5 hc6
  have hmo : S.most ≤ 1073741824 := h.mo
  refine loopP_rule_w (fun n (s : Int × Unit) w7 => ∃ F1 S1 rs1 a1, DR w7 base F1 S1 r rs1 a1 ∧ F.tw F1 w.heap.size ∧ Chg (dS F) w w7 ∧ S1.most = S.most ∧ S1.given = (B ++ bs).length ∧ S1.told = S.told ∧ S1.took + S1.wait.length = (B ++ bs).length ∧
      ((s.1 = 0 ∨ s.1 = 2) ∧ S1.wait = (B ++ bs).drop S1.took ∧ Ch S.most (B ++ bs) S.c p S1.c (8 * S1.took + a1) ∧ (∃ x, S1.c.hist = S.c.hist ++ x ∧ S1.out = x) ∧ (s.1 = 0 → n = 1 + mu (B ++ bs) S1.c (8 * S1.took + a1)) ∧ (s.1 = 2 → S1.c.mode ≤ 4 ∧ step1 S.most (B ++ bs) (8 * S1.took + a1) S1.c = .short)
       ∨ ∃ m : Nat, s.1 = (m : Int) ∧ (m = 3 ∨ m = 5) ∧ ∃ c' p', Ch S.most (B ++ bs) S.c p c' p' ∧ step1 S.most (B ++ bs) p' c' = .err m))
    (1 + mu (B ++ bs) S.c p) ⟨{ F with wait := q }, _, rs, p % 8, h6, ⟨rfl, .inl rfl, .inl rfl⟩, c6, rfl, rfl, rfl, by show S.took + (S.wait ++ bs).length = _; omega, .inl ⟨.inl rfl, ?_, ?_, ⟨[], by simp, by show S.out = []; exact f.out⟩, fun _ => ?_, fun e => by cases e⟩⟩ ?_
  · show S.wait ++ bs = (B ++ bs).drop S.took
    rw [hW, htook]
  · show Ch S.most (B ++ bs) S.c p S.c (8 * S.took + p % 8)
    rw [htook, show 8 * (p / 8) + p % 8 = p by omega]
    exact .refl _ _
  · show _ = 1 + mu (B ++ bs) S.c (8 * S.took + p % 8)
    rw [htook, show 8 * (p / 8) + p % 8 = p by omega]
  rintro n ⟨e, _⟩ w7 ⟨F1, S1, rs1, a1, h7, hto7, c7, em, eg, et, etw, hcase⟩ I hI
  dsimp only at *
  have hs7 := c7.size
  have hd7 : F1.d = F.d := hto7.d
  -- behind the loop
  have hwl7 := h7.d.hw
  have ends : (e = 0 ∧ S1.c.mode = 5 ∨ e ≠ 0) → _ := fun hcond => after_spec (e := e) (K := K) h7
    (by rcases hcase with ⟨he, _⟩ | ⟨m, he, hm, _⟩
        · rcases he with he | he
          · exact .inl he
          · exact .inr (.inl he)
        · rcases hm with rfl | rfl
          · exact .inr (.inr (.inl he))
          · exact .inr (.inr (.inr he)))
    (fun hee => by
        rcases hcase with ⟨_, _, _, ⟨x, hx, hxo⟩, _⟩ | ⟨m, he, hm, _⟩
        · rw [et, f.told, hxo, hx, List.length_append]; exact Nat.le_refl _
        · omega)
    (by omega)
    (fun hee F' w' hd' ho' hod ed' er' eo' hwl' c' => by
        rcases hcase with ⟨he, hw1, hch, ⟨x, hx, hxo⟩, _, h2⟩ | ⟨m, he, hm, _⟩
        rotate_left
        · omega
        have hle := h7.rdr.le
        refine hK1 F1.out x (8 * S1.took + a1) F' { S1 with told := S1.told + S1.out.length, took := S1.took + (if S1.c.mode = 5 then (a1 + 7) / 8 else a1 / 8), skip := a1 % 8, wait := if S1.c.mode = 5 then [] else S1.wait.drop (a1 / 8), out := [] } w' hch ?_ hx (by rw [← hxo]; exact ho') hod hd' ⟨rfl, eo', ?_, eg, ?_, ?_, ?_, ?_, ?_⟩ em ⟨ed'.trans hd7, ?_, ?_⟩ hwl' ?_
        · rcases hcond with ⟨_, hm5⟩ | hne
          · exact .inl hm5
          · rcases he with he | he
            · exact absurd he hne
            · exact .inr (h2 he)
        · show S1.told + S1.out.length = S1.c.hist.length
          rw [et, f.told, hxo, hx, List.length_append]
        · omega
        · show S1.took + _ = if S1.c.mode = 5 then _ else _
          split <;> omega
        · show a1 % 8 = _
          omega
        · show (if S1.c.mode = 5 then [] else S1.wait.drop (a1 / 8)) = if S1.c.mode = 5 then [] else _
          split
          · rfl
          · rw [hw1, List.drop_drop]
            congr 1
            omega
        · exact hch.al f.al
        · rw [er']; exact hto7.ring
        · rw [eo']; exact .inl (by rw [f.fo])
        · exact c7.trans c' fun i hi e => by subst e; exact .inl hd7)
    (fun hee S' w' hf eg' c' => by
        rcases hcase with ⟨he, _⟩ | ⟨m, he, hm, c1, p1, hch, hst⟩
        · omega
        · subst he
          rw [hd7] at hf
          exact hK2 m c1 p1 S' w' hm hch hst hf (eg'.trans eg) (c7.trans c' fun i hi e => by subst e; exact .inl hd7))
  refine joinP_of fun J2 hJ2 => ?_
  refine cond_of (fun he0 => ?_) (fun he0 => ?_)
  · have he0 : e = 0 := eq_of_beq he0
    rw [← hd7]
    refine ldI_of (x := ((S1.c.mode : Nat) : Int)) (h7.d.blk.cells 1 _ rfl) ?_
    refine cond_of (fun hm5 => ?_) (fun hm5 => ?_)
    · have hm5 : S1.c.mode ≠ 5 := by have := bne_iff_ne.1 hm5; omega
      have hm4 : S1.c.mode ≤ 4 := by have := h7.d.m5; omega
      rcases hcase with ⟨he, hw1, hch, ⟨x, hx, hxo⟩, hn, _⟩ | ⟨m, he, hm, _⟩
      rotate_left
      · omega
      have hn := hn he0
      have htk : S1.took ≤ (B ++ bs).length := by omega
      refine hJ2 _ _ ?_
      refine At_spec h7.rdr ?_
      rw [← hd7]
      have hal := hch.al f.al
      have hple := hch.le (by omega)
      refine step_spec h7 hm4 (fun h2 => by have := hal h2; omega) (by omega) (by omega) fun e' F2 S2 rs2 a2 w10 hres h10 hto10 c10 => ?_
      obtain ⟨em2, eg2, et2, hres⟩ := hres
      have hto2 : F.tw F2 w.heap.size := hto7.trans hto10 hs7
      have c010 : Chg (dS F) w w10 := sub hto7 hrw c7 c10
      rw [em] at hres
      rw [hw1] at hres
      rcases hres with ⟨rfl, ⟨c1, b1, hs1, hch1⟩, ⟨y, hy, hyo⟩, ew2, etk2, esk2⟩ | ⟨rfl, k, a, hch1, hsh, ⟨y, hy, hyo⟩, ew2, hkl, etk2, ea, hm2⟩ | ⟨m, rfl, hm, ⟨c1, b1, hch1, hst1⟩, etk2, ew2⟩
      · refine cond_f rfl ?_
        have hst : step1 S.most (B ++ bs) (8 * S1.took + a1) S1.c = .next c1 (8 * S1.took + b1) := by rw [step1_drop htk, hs1]; rfl
        have hch2 := (Ch.step hst (hch1.shift htk))
        have hmu := step1_next hst hple.1
        have hmu2 := (hch1.shift htk).le hmu.1
        refine hI _ _ w10 ⟨F2, S2, rs2, a2, h10, hto2, c010, em2.trans em, eg2.trans eg, et2.trans et, by rw [etk2, ew2, ← hw1]; exact etw, .inl ⟨.inl rfl, by rw [ew2, etk2], ?_, ⟨x ++ y, by rw [hy, hx, List.append_assoc], by rw [hyo, hxo]⟩, fun _ => rfl, fun e => (by cases e)⟩⟩ ?_
        · rw [etk2]; exact hch.trans hch2
        · rw [etk2]; omega
      · refine cond_t rfl ?_
        refine Back_min h10 fun w11 h11 c11 => ?_
        have c011 : Chg (dS F) w w11 := sub hto2 hrw c010 c11
        have hkl : k ≤ (B ++ bs).length - S1.took := by rw [List.length_drop] at hkl; exact hkl
        have hch2 := hch1.shift htk
        have hsh2 : step1 S.most (B ++ bs) (8 * S1.took + a) S2.c = .short := by rw [step1_drop htk, hsh]; rfl
        have epos : 8 * S1.took + a = 8 * S2.took + min a1 a2 := by rw [etk2, ea]; omega
        refine hI 0 _ w11 ⟨F2, S2, rs2, min a1 a2, h11, hto2, c011, em2.trans em, eg2.trans eg, et2.trans et, ?_, .inl ⟨.inr rfl, ?_, ?_, ⟨x ++ y, by rw [hy, hx, List.append_assoc], by rw [hyo, hxo]⟩, fun e => (by cases e), fun _ => ⟨hm2, ?_⟩⟩⟩ (by omega)
        · rw [etk2, ew2, List.length_drop, List.length_drop]; omega
        · rw [ew2, etk2, List.drop_drop]
        · rw [← epos]; exact hch.trans hch2
        · rw [← epos]; exact hsh2
      · have hne : ((m : Nat) : Int) ≠ 2 := by omega
        refine cond_f (by simpa using hne) ?_
        have hst2 : step1 S.most (B ++ bs) (8 * S1.took + b1) c1 = .err m := by rw [step1_drop htk, hst1]; rfl
        refine hI 0 _ w10 ⟨F2, S2, rs2, a2, h10, hto2, c010, em2.trans em, eg2.trans eg, et2.trans et, by rw [etk2, ew2]; rw [← etw, hw1], .inr ⟨m, rfl, hm, c1, 8 * S1.took + b1, hch.trans (hch1.shift htk), hst2⟩⟩ (by omega)
    · have hm5 : S1.c.mode = 5 := by have := bne_eq_false_iff_eq.1 hm5; omega
      exact ends (.inl ⟨he0, hm5⟩)
  · have he0 : e ≠ 0 := beq_eq_false_iff_ne.1 he0
    rw [← hd7]
    exact ends (.inr he0)
end

end Go.Proofs.Yteffnkpplhcomaa
