/- The program's decoder of deflate streams: Write at the end, New, Done, Used, Inflate. -/
import Derived.Test.YteffnkpplhcomaaB12
namespace Go.Proofs.Yteffnkpplhcomaa
open Go.Vc Go.RowKit
set_option maxRecDepth 400000

def cfg0 : Cfg := ⟨0, false, 0, [], [], []⟩
section
variable {w : World} {base : Nat} {F : DF} {S : DS}
theorem Write_done {b : Slc} {bs B : List UInt8} {p : Nat} {K : Slc → Int → World → Prop} (h : DecM w base F S) (f : Fed F S B p) (hm : S.c.mode = 5) (hn : b.n = bs.length) (hbnd : B.length + bs.length ≤ 1000000000)
    (hK : ∀ S' w', S'.c = S.c → S'.most = S.most → DecM w' base F S' → Fed F S' (B ++ bs) p → Chg (dS F) w w' → K nilS 0 w') : c_inflate_Decoder_Write (some ⟨F.d, 0, none⟩) b w K := by
  refine call_inflate_Decoder_Write _ _ ?_
  unfold sh_inflate_Decoder_Write
  simp only [onPtr_some]
  have hp := f.pl
  have htook := f.took
  have hwait := f.wait
  rw [if_pos hm] at htook hwait
  have hBl : (B ++ bs).length = B.length + bs.length := List.length_append
  refine ldI_of (x := ((S.given : Nat) : Int)) (h.blk.cells 12 _ rfl) ?_
  rw [add_mk, hn, f.given, wrap64_id (by omega)]
  have e0 : ((B.length : Nat) : Int) + ((bs.length : Nat) : Int) = (((B ++ bs).length : Nat) : Int) := by rw [hBl]; rfl
  rw [e0]
  refine stK_blk h.blk (by simp [decCells]) fun w1 hb1 hg1 hs1 => ?_
  have hd1 : DecM w1 base F { S with given := (B ++ bs).length } := h.put hb1 hg1 rfl rfl rfl rfl rfl rfl rfl rfl (h.tabs' hg1) h.m5 h.hl h.hs ⟨h.ht.1, by show (B ++ bs).length ≤ _; omega, h.ht.2.2⟩
  refine ldI_of (x := 0) (hd1.blk.cells 13 _ rfl) (cond_f rfl ?_)
  refine ldI_of (x := ((S.c.mode : Nat) : Int)) (hd1.blk.cells 1 _ rfl) (cond_t (by rw [hm]; rfl) ?_)
  refine hK { S with given := (B ++ bs).length } w1 rfl rfl hd1 ⟨f.out, f.fo, f.told, rfl, by omega, ?_, f.skip, ?_, f.al⟩ ((Chg.gg hg1).mono fun i _ hi => .inl hi)
  · rw [if_pos hm]; exact htook
  · rw [if_pos hm]; exact hwait
theorem Write_failed {d : Nat} {e : Int} {b : Slc} {n : Nat} {K : Slc → Int → World → Prop} (h : FailM w d S e) (he : e ≠ 0) (hn : b.n = n) (hbnd : S.given + n ≤ 1000000000)
    (hK : ∀ S' w', FailM w' d S' e → S'.given = S.given + n → Chg (fun k => k = d) w w' → K nilS e w') : c_inflate_Decoder_Write (some ⟨d, 0, none⟩) b w K := by
  refine call_inflate_Decoder_Write _ _ ?_
  unfold sh_inflate_Decoder_Write
  simp only [onPtr_some]
  obtain ⟨sg, ds, hb⟩ := h.blk
  refine ldI_of (x := ((S.given : Nat) : Int)) (hb.cells 12 _ rfl) ?_
  rw [add_mk, hn, wrap64_id (by omega), show ((S.given : Nat) : Int) + ((n : Nat) : Int) = ((S.given + n : Nat) : Int) from rfl]
  refine stK_blk hb (by simp [decCells]) fun w1 hb1 hg1 hs1 => ?_
  have hb1 : Blk w1 d ty_inflate_Decoder (decCells ⟨d, nilS, nilS, nilS, sg, ds⟩ { S with given := S.given + n } e) := hb1
  refine ldI_of (x := e) (hb1.cells 13 _ rfl) (cond_t (by simpa using he) ?_)
  have hB : Below w1.heap.size w1 w1.drew := (Below.refl _ w1).drew
  refine ldI_of (x := e) ((hb1.ext hB).cells 13 _ rfl) ?_
  exact hK { S with given := S.given + n } _ ⟨sg, ds, hb1.ext hB⟩ rfl ((Chg.gg hg1).trans (Chg.of_ext (S := fun k => k = d) hB) fun i _ hi => hi)
theorem DecNew_bad {most : Int} {K : Option Addr → Int → World → Prop} (hm : most < 0 ∨ most > 1073741824) (hK : K none 1 w) : c_inflate_New most w K := by
  refine call_inflate_New _ ?_
  unfold sh_inflate_New
  refine joinP_of fun J hJ => ?_
  by_cases h : most < 0
  · exact cond_t (decide_eq_true h) hK
  · exact cond_f (decide_eq_false h) (cond_t (decide_eq_true (by omega)) hK)
theorem DecNew_spec {most : Nat} {K : Option Addr → Int → World → Prop} (hm : most ≤ 1073741824)
    (hK : ∀ F S w', w.heap.size = F.d → DecM w' F.d F S → Fed F S [] 0 → S.c = cfg0 → S.most = most → (∀ k, dS F k → k = w.heap.size) → F.wait.blk = none → Below w.heap.size w w' → K (some ⟨F.d, 0, none⟩) 0 w') : c_inflate_New most w K := by
  refine call_inflate_New _ ?_
  unfold sh_inflate_New
  refine joinP_of fun J hJ => ?_
  refine cond_f (decide_eq_false (by omega)) (cond_f (decide_eq_false (by omega)) (hJ _ _ ?_))
  refine nw_blk fun w1 hb1 hB1 hs1 => ?_
  refine hK ⟨w.heap.size, nilS, nilS, nilS, none, none⟩ ⟨most, 0, 0, 0, 0, cfg0, [], []⟩ w1 rfl ⟨hb1, Nat.le_refl _, Own.nil _ _ _, Own.nil _ _ _, Rd.nil _ _, ?_, ?_, ?_, Nat.zero_le _, hm, Nat.zero_le _, Nat.zero_le _, Nat.zero_le _, Nat.zero_le _, Nat.zero_le _, ⟨Nat.zero_le _, Nat.zero_le _, Nat.zero_le _⟩⟩ ⟨rfl, rfl, rfl, rfl, by decide, rfl, rfl, rfl, fun e => by cases e⟩ rfl rfl ?_ rfl hB1
  · intro e; cases e
  · intro k e; cases e
  · intro k e; cases e
  · rintro k (e | e | e)
    · exact e
    · cases e
    · cases e
theorem Done_spec {K : Bool → World → Prop} (h : DecM w base F S) (hK : K (S.c.mode == 5) w) : c_inflate_Decoder_Done (some ⟨F.d, 0, none⟩) w K := by
  refine call_inflate_Decoder_Done _ ?_
  unfold sh_inflate_Decoder_Done
  simp only [onPtr_some]
  refine ldI_of (x := ((S.c.mode : Nat) : Int)) (h.blk.cells 1 _ rfl) ?_
  refine cond_of (fun e => ?_) (fun e => ?_)
  · have e : S.c.mode = 5 := by have := eq_of_beq e; omega
    rw [e] at hK
    exact ldI_of (x := 0) (h.blk.cells 13 _ rfl) hK
  · have e : S.c.mode ≠ 5 := by have := beq_eq_false_iff_ne.1 e; omega
    rw [show (S.c.mode == 5) = false from beq_eq_false_iff_ne.2 e] at hK
    exact hK
theorem Done_failed {d : Nat} {e : Int} {K : Bool → World → Prop} (h : FailM w d S e) (he : e ≠ 0) (hK : K false w) : c_inflate_Decoder_Done (some ⟨d, 0, none⟩) w K := by
  refine call_inflate_Decoder_Done _ ?_
  unfold sh_inflate_Decoder_Done
  simp only [onPtr_some]
  obtain ⟨sg, ds, hb⟩ := h.blk
  refine ldI_of (x := ((S.c.mode : Nat) : Int)) (hb.cells 1 _ rfl) ?_
  refine cond_of (fun _ => ?_) (fun _ => hK)
  refine ldI_of (x := e) (hb.cells 13 _ rfl) ?_
  rw [show (e == 0) = false from beq_eq_false_iff_ne.2 he]
  exact hK
theorem Used_spec {B : List UInt8} {p : Nat} {K : Int → World → Prop} (h : DecM w base F S) (f : Fed F S B p) (hK : K ((if S.c.mode = 5 then (p + 7) / 8 else B.length : Nat) : Int) w) : c_inflate_Decoder_Used (some ⟨F.d, 0, none⟩) w K := by
  refine call_inflate_Decoder_Used _ ?_
  unfold sh_inflate_Decoder_Used
  simp only [onPtr_some]
  refine Done_spec h ?_
  refine cond_of (fun e => ?_) (fun e => ?_)
  · have e : S.c.mode = 5 := by have := eq_of_beq e; omega
    rw [if_pos e] at hK
    have ht := f.took
    rw [if_pos e] at ht
    rw [← ht] at hK
    exact ldI_of (x := ((S.took : Nat) : Int)) (h.blk.cells 11 _ rfl) hK
  · have e : S.c.mode ≠ 5 := beq_eq_false_iff_ne.1 e
    rw [if_neg e, ← f.given] at hK
    exact ldI_of (x := ((S.given : Nat) : Int)) (h.blk.cells 12 _ rfl) hK
theorem Used_failed {d : Nat} {e : Int} {K : Int → World → Prop} (h : FailM w d S e) (he : e ≠ 0) (hK : K ((S.given : Nat) : Int) w) : c_inflate_Decoder_Used (some ⟨d, 0, none⟩) w K := by
  refine call_inflate_Decoder_Used _ ?_
  unfold sh_inflate_Decoder_Used
  simp only [onPtr_some]
  refine Done_failed h he ?_
  refine cond_f rfl ?_
  obtain ⟨sg, ds, hb⟩ := h.blk
  exact ldI_of (x := ((S.given : Nat) : Int)) (hb.cells 12 _ rfl) hK

theorem Inflate_bad {b : Slc} {most : Int} {K : Slc → Int → Int → World → Prop} (hm : most < 0 ∨ most > 1073741824) (hK : K nilS 0 1 w) : c_inflate_Inflate b most w K := by
  refine call_inflate_Inflate _ _ ?_
  unfold sh_inflate_Inflate
  exact DecNew_bad hm (cond_t rfl hK)
/-- The whole stream at once. -/
theorem Inflate_spec {b : Slc} {bs : List UInt8} {most : Nat} {K : Slc → Int → Int → World → Prop} (hm : most ≤ 1073741824) (hb : Rd E_uint8 w b bs) (hbl : ∀ k, b.blk = some k → k < w.heap.size) (hl : bs.length ≤ 1000000000)
    (hK1 : ∀ o c' p' w', Ch most bs cfg0 0 c' p' → c'.mode = 5 → Own E_uint8 w' w.heap.size o c'.hist → Below w.heap.size w w' → K o (((p' + 7) / 8 : Nat) : Int) 0 w')
    (hK2 : ∀ c' p' w', Ch most bs cfg0 0 c' p' → c'.mode ≤ 4 → step1 most bs p' c' = .short → Below w.heap.size w w' → K nilS 0 2 w')
    (hK3 : ∀ (n : Nat) c' p' w', (n = 3 ∨ n = 5) → Ch most bs cfg0 0 c' p' → step1 most bs p' c' = .err n → Below w.heap.size w w' → K nilS 0 n w') : c_inflate_Inflate b most w K := by
  refine call_inflate_Inflate _ _ ?_
  unfold sh_inflate_Inflate
  refine DecNew_spec hm fun F S w1 hd h f ec em hS hw0 hB1 => cond_f rfl ?_
  have hs1 := hB1.size
  have hlt := h.blk.lt
  have below : ∀ {w2}, Chg (dS F) w1 w2 → Below w.heap.size w w2 := fun hc => hB1.trans (hc.below hs1 fun i hi hi2 => by have := hS i hi2; omega)
  refine Write_spec (bs := bs) h f (by rw [ec]; decide) (hb.ext hB1) (fun k hk hs => by
      have := hbl k hk
      have := hS k hs
      omega) (by simpa using hl) (by omega) (fun k hk => by rw [hw0] at hk; cases hk) ?_ ?_
  · intro o x p' F' S' w2 hch hcase hx ho hod h2 f2 em2 hto hwl hc
    rw [em, ec] at hch
    rw [em] at hcase
    rw [ec] at hx
    have hx : S'.c.hist = x := hx
    refine cond_f rfl ?_
    rw [← hto.d]
    refine Done_spec h2 ?_
    rw [List.nil_append] at hch hcase f2
    rcases hcase with e5 | ⟨e4, hst⟩
    · rw [e5]
      refine cond_f rfl ?_
      refine Used_spec h2 f2 ?_
      rw [if_pos e5]
      refine hK1 o S'.c p' w2 hch e5 ?_ (below hc)
      rw [hx, hd]
      exact ho
    · rw [show (S'.c.mode == 5) = false from beq_eq_false_iff_ne.2 (by omega)]
      exact cond_t rfl (hK2 S'.c p' w2 hch e4 hst (below hc))
  · intro n c' p' S' w2 hn hch hst hf _ hc
    rw [em, ec] at hch
    rw [em] at hst
    rw [List.nil_append] at hch hst
    exact cond_t (by have : ((n : Nat) : Int) ≠ 0 := by omega
                     simpa using this) (hK3 n c' p' w2 hn hch hst (below hc))
end

end Go.Proofs.Yteffnkpplhcomaa
