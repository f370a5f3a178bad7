/- The program's file of chunks walked: what they say; colours. The program's need, eight, color walked. The rows of an image, plain: how they stand behind one another, their bytes, their pixels' places. The program's pixels walked. The document's reader of bits, and how it reads a code. The document's inflate: its state; stored blocks; copies; codes. The document's inflate: copies, blocks of codes. The document's inflate: lengths, dynamic blocks. The document's inflate: dynamic blocks, blocks, Front. The document's writer of bits; its Fixed and Store. The document's inflate: a block, Front. The laws of streams there and back, and of two streams as one. The laws of zlib: known, back, fronts. The document's zlib; the law of streams. Decoding, plain: bounds of what the chunks say; the packed bytes' run as a function. The program's pixels, read and Decode walked. The program's read and Decode walked. The program's Lay walked. The program's Encode walked. The program's Encode walked to its end. What is encoded is decoded, plain. An encoded file decoded, plain; a turned bit; other chunks between. The laws of PNG that speak of the program alone: known, PngSums, PngOrders. The laws PngSums and PngOrders. The law PngOrders. Arguments opened: structs that hold a slice of bytes; heads; chunks. Arguments opened: graphics keys. strings.IndexByte, laid at this program by the kit. base64: plain; the program's decoder walked. The loader: plain; the program's take, fail, Add walked. The program's loader walked: take, fail, Add. The program's loader walked: Add, New, what an image needs. The program's loader walked: New, matrices of bytes. The program's loader walked: End. base64's Encode: plain; what the loader makes of an encoded text. What the loader makes of an encoded text, plain; how long a small image is, packed. -/
import Derived.Test.YtmagnpcgpinmcaaGreatP2
import Derived.Lib.SlBytesConst
import Derived.Test.YtmagnpcgpinmcaaGreatP1
import Derived.Shelf.Small.Strs
import Derived.Shelf.Strings.Search1
import Derived.Test.YtmagnpcgpinmcaaGreatProg
set_option linter.unusedVariables false
set_option linter.unusedVariables false
namespace Go.Proofs.YtmagnpcgpinmcaaGreat
open Go.Vc Go.RowKit
set_option maxRecDepth 400000
def fCells (F : FilL) (p t d : Slc) : List Value := T_png_file.rep.cells ⟨F.h, p, t, F.hasP, F.hasT, d, F.hasD, F.wasD⟩
structure FilA (w : World) (g b : Nat) (F : FilL) (p t d : Slc) : Prop where
  blk : Blk w g ty_png_file (fCells F p t d)
  pal : Rd E_uint8 w p F.pal
  tr : Rd E_uint8 w t F.tr
  data : Go.Vc.Own E_uint8 w b d F.data
  pb : ∀ k, p.blk = some k → k < b
  tb : ∀ k, t.blk = some k → k < b
theorem FilA.ext {w w' : World} {g b : Nat} {F : FilL} {p t d : Slc} (h : FilA w g b F p t d) (hB : Below w.heap.size w w') : FilA w' g b F p t d := ⟨h.blk.ext hB, h.pal.ext hB, h.tr.ext hB, h.data.ext hB, h.pb, h.tb⟩
/-- A colour and depth that may be together. -/
structure ColOk (h : T_png_Head) : Prop where
  c : h.Color = 0 ∨ h.Color = 2 ∨ h.Color = 3 ∨ h.Color = 4 ∨ h.Color = 6
  d : h.Depth = 1 ∨ h.Depth = 2 ∨ h.Depth = 4 ∨ h.Depth = 8 ∨ h.Depth = 16
theorem checkP_ok {h : T_png_Head} (hc : checkP h = 0) : (∃ W H, HeadOk h W H) ∧ ColOk h := by
  unfold checkP at hc
  split at hc
  · cases hc
  · rename_i h1
    split at hc
    · cases hc
    · rename_i h2
      refine ⟨⟨h.W.toNat, h.H.toNat, by omega, by omega, by omega, by omega, by omega, by omega⟩, ?_, ?_⟩
      · have hs : samplesOf h.Color ≠ 0 := fun e => h2 (.inl e)
        unfold samplesOf at hs
        by_cases h0 : h.Color = 0 ∨ h.Color = 3
        · omega
        · rw [if_neg h0] at hs
          by_cases h22 : h.Color = 2
          · omega
          · rw [if_neg h22] at hs
            by_cases h4 : h.Color = 4
            · omega
            · rw [if_neg h4] at hs
              by_cases h6 : h.Color = 6
              · omega
              · rw [if_neg h6] at hs
                exact absurd rfl hs
      · have hd : depthOk h = true := by
          cases e : depthOk h with
          | true => rfl
          | false => exact absurd (.inr (.inl e)) h2
        unfold depthOk at hd
        have := of_decide_eq_true hd
        omega
structure FilOk (F : FilL) : Prop where
  hd : checkP F.h = 0
  tr : F.hasT = true → F.h.Color = 0 ∧ F.tr.length = 2 ∨ F.h.Color = 2 ∧ F.tr.length = 6 ∨ F.h.Color = 3
  pal : F.pal.length % 3 = 0
theorem takeP_ok {F : FilL} {c : ChL} (h : FilOk F) (h0 : (takeP F c).1 = 0) : FilOk (takeP F c).2 ∧ (takeP F c).2.h = F.h := by
  unfold takeP at h0 ⊢
  by_cases h1 : c.kind = ihdrL
  · rw [if_pos h1] at h0; cases h0
  rw [if_neg h1] at h0 ⊢
  by_cases h2 : c.kind = plteL
  · rw [if_pos h2] at h0 ⊢
    cases hp : plteOk F c.data with
    | false => rw [hp] at h0; cases h0
    | true =>
      unfold plteOk at hp
      simp only [Bool.not_eq_true', Bool.or_eq_false_iff, decide_eq_false_iff_not] at hp
      exact ⟨⟨h.hd, h.tr, by show c.data.length % 3 = 0; omega⟩, rfl⟩
  rw [if_neg h2] at h0 ⊢
  by_cases h3 : c.kind = trnsL
  · rw [if_pos h3] at h0 ⊢
    cases hp : trnsOk F c.data with
    | false => rw [hp] at h0; cases h0
    | true =>
      refine ⟨⟨h.hd, fun _ => ?_, h.pal⟩, rfl⟩
      unfold trnsOk at hp
      simp only [Bool.and_eq_true] at hp
      have hp := hp.2
      show F.h.Color = 0 ∧ c.data.length = 2 ∨ F.h.Color = 2 ∧ c.data.length = 6 ∨ F.h.Color = 3
      by_cases e0 : F.h.Color = 0
      · rw [if_pos e0] at hp; exact .inl ⟨e0, of_decide_eq_true hp⟩
      · rw [if_neg e0] at hp
        by_cases e2 : F.h.Color = 2
        · rw [if_pos e2] at hp; exact .inr (.inl ⟨e2, of_decide_eq_true hp⟩)
        · rw [if_neg e2] at hp
          by_cases e3 : F.h.Color = 3
          · exact .inr (.inr e3)
          · rw [if_neg e3] at hp; cases hp
  rw [if_neg h3] at h0 ⊢
  by_cases h4 : c.kind = idatL
  · rw [if_pos h4] at h0 ⊢
    split
    · exact ⟨⟨h.hd, h.tr, h.pal⟩, rfl⟩
    · rename_i hn; rw [if_neg hn] at h0; cases h0
  rw [if_neg h4] at h0 ⊢
  by_cases h5 : c.kind = iendL
  · rw [if_pos h5] at h0 ⊢
    split
    · exact ⟨⟨h.hd, h.tr, h.pal⟩, rfl⟩
    · rename_i hn; rw [if_neg hn] at h0; cases h0
  rw [if_neg h5] at h0 ⊢
  split
  · rename_i hn; rw [if_pos hn] at h0; cases h0
  · exact ⟨⟨h.hd, h.tr, h.pal⟩, rfl⟩

section
variable {w : World} {g b : Nat} {F : FilL} {p t d : Slc}
theorem colors_spec (h : FilA w g b F p t d) (hc : ColOk F.h) {x : Slc} {ds : List UInt8} (hx : Rd E_uint8 w x ds) (hxb : ∀ k, x.blk = some k → k < b) (hbg : b ≤ g) (hl : ds.length ≤ 1000000000) {K : Bool → World → Prop}
    (hN : plteOk F ds = false → K false w) (hY : plteOk F ds = true → ∀ w', FilA w' g b { F with pal := ds, hasP := true } x t d → Chg (fun k => k = g) w w' → K true w') : c_png_file_colors (some ⟨g, 0, none⟩) x w K := by
  refine call_png_file_colors _ _ ?_
  unfold sh_png_file_colors
  simp only [onPtr_some]
  refine ⟨by decide, joinP_of fun J hJ => ?_⟩
  unfold plteOk at hN hY
  refine ldB_of (x := F.hasP) (h.blk.cells 7 _ rfl) ?_
  refine cond_of (fun e => hN (by rw [e]; rfl)) fun e1 => ?_
  refine ldB_of (x := F.hasD) (h.blk.cells 10 _ rfl) ?_
  refine cond_of (fun e => hN (by rw [e]; simp)) fun e2 => ?_
  refine ldI_of (x := F.h.Color) (by rw [add_zero]; exact h.blk.cells 3 _ rfl) ?_
  refine cond_of (fun e => hN (by rw [eq_of_beq e]; simp)) fun e3 => ?_
  have e3 : F.h.Color ≠ 0 := by simpa using e3
  refine ldI_of (x := F.h.Color) (by rw [add_zero]; exact h.blk.cells 3 _ rfl) ?_
  refine cond_of (fun e => hN (by rw [eq_of_beq e]; simp)) fun e4 => ⟨by decide, ?_⟩
  have e4 : F.h.Color ≠ 4 := by simpa using e4
  rw [hx.n, show (3 : Int) = ((3 : Nat) : Int) from rfl, ← Int.ofNat_tmod, ← Int.ofNat_tdiv, wrap64_id (x := ((ds.length / 3 : Nat) : Int)) (by omega)]
  refine cond_of (fun e => hN ?_) fun e5 => ?_
  · have e : ds.length % 3 ≠ 0 := fun h => by rw [h] at e; cases e
    rw [decide_eq_true e]; simp
  have e5 : ds.length % 3 = 0 := by
    rcases Nat.eq_zero_or_pos (ds.length % 3) with h | h
    · exact h
    · rw [bneI_t (by omega)] at e5; cases e5
  refine cond_of (fun e => hN ?_) fun e6 => ?_
  · have e := of_decide_eq_true e
    rw [decide_eq_true (show ds.length / 3 < 1 by omega)]; simp
  have e6 := of_decide_eq_false e6
  refine cond_of (fun e => hN ?_) fun e7 => ?_
  · have e := of_decide_eq_true e
    rw [decide_eq_true (show ds.length / 3 > 256 by omega)]; simp
  have e7 := of_decide_eq_false e7
  have hgo : (F.h.Color = 3 → ¬ ds.length / 3 > 2 ^ F.h.Depth.toNat) → J () w := by
    intro e8
    have hall : (!(F.hasP || F.hasD || decide (F.h.Color = 0) || decide (F.h.Color = 4) || decide (ds.length % 3 ≠ 0) || decide (ds.length / 3 < 1) || decide (ds.length / 3 > 256) || (decide (F.h.Color = 3) && decide (ds.length / 3 > 2 ^ F.h.Depth.toNat)))) = true := by
      rw [e1, e2, decide_eq_false e3, decide_eq_false e4, decide_eq_false (show ¬ ds.length % 3 ≠ 0 by omega), decide_eq_false (show ¬ ds.length / 3 < 1 by omega), decide_eq_false (show ¬ ds.length / 3 > 256 by omega)]
      by_cases e : F.h.Color = 3
      · rw [decide_eq_false (e8 e)]; simp
      · rw [decide_eq_false e]; simp
    refine hJ _ _ ?_
    rw [add_mk]
    refine stK_blk h.blk (by simp [fCells, T_png_file.rep]) fun w2 hb2 hg2 hs2 => ?_
    rw [add_mk]
    refine stK_blk hb2 (by simp [fCells, T_png_file.rep, putL]) fun w3 hb3 hg3 hs3 => ?_
    have hc3 : Chg (fun k => k = g) w w3 := (Chg.gg hg2).trans (Chg.gg hg3) fun i _ hi => hi
    refine hY hall w3 ⟨hb3, hx.chg hc3 fun a ha e => ?_, h.tr.chg hc3 fun a ha e => ?_, h.data.chg hc3 fun k hk e => own_ne_blk h.data h.blk (by decide) k hk e, hxb, h.tb⟩ hc3
    · have := hxb a.block (slk.2 ⟨a, ha, rfl⟩); omega
    · have := h.tb a.block (slk.2 ⟨a, ha, rfl⟩); omega
  refine ldI_of (x := F.h.Color) (by rw [add_zero]; exact h.blk.cells 3 _ rfl) ?_
  refine cond_of (fun e => ?_) fun e => ?_
  · have e : F.h.Color = 3 := eq_of_beq e
    refine ldI_of (x := F.h.Depth) (by rw [add_zero]; exact h.blk.cells 2 _ rfl) ⟨by have := hc.d; omega, ?_⟩
    have hsh : IntKind.i64.wrap ((1 : Int) * 2 ^ (min F.h.Depth.toNat IntKind.i64.bits)) = ((2 ^ F.h.Depth.toNat : Nat) : Int) := by
      rcases hc.d with h | h | h | h | h <;> rw [h] <;> decide
    rw [hsh]
    refine cond_of (fun e8 => hN ?_) fun e8 => hgo fun _ => ?_
    · have e8 := of_decide_eq_true e8
      rw [decide_eq_true e, decide_eq_true (show ds.length / 3 > 2 ^ F.h.Depth.toNat from by exact_mod_cast e8)]; simp
    · have e8 := of_decide_eq_false e8
      intro h9
      exact e8 (by exact_mod_cast h9)
  · have e : F.h.Color ≠ 3 := by simpa using e
    exact hgo fun h => absurd h e
theorem clear_spec (h : FilA w g b F p t d) (hc : ColOk F.h) {x : Slc} {ds : List UInt8} (hx : Rd E_uint8 w x ds) (hxb : ∀ k, x.blk = some k → k < b) (hbg : b ≤ g) (hl : ds.length ≤ 1000000000) (hpl : F.pal.length ≤ 1000000000) {K : Bool → World → Prop}
    (hN : trnsOk F ds = false → K false w) (hY : trnsOk F ds = true → ∀ w', FilA w' g b { F with tr := ds, hasT := true } p x d → Chg (fun k => k = g) w w' → K true w') : c_png_file_clear (some ⟨g, 0, none⟩) x w K := by
  refine call_png_file_clear _ _ ?_
  unfold sh_png_file_clear
  simp only [onPtr_some]
  refine joinP_of fun J1 hJ1 => ?_
  unfold trnsOk at hN hY
  have key : ∀ ok : Bool, ok = (if F.h.Color = 0 then decide (ds.length = 2) else if F.h.Color = 2 then decide (ds.length = 6) else if F.h.Color = 3 then F.hasP && decide (ds.length ≤ F.pal.length / 3) else false) → J1 (ok, ()) w := by
    intro ok hok
    rw [← hok] at hN hY
    refine hJ1 _ _ (joinP_of fun J2 hJ2 => ?_)
    refine cond_of (fun e => hN ?_) fun e1 => ?_
    · have : ok = false := by simpa using e
      rw [this]; simp
    have e1 : ok = true := by simpa using e1
    refine ldB_of (x := F.hasT) (h.blk.cells 8 _ rfl) (cond_of (fun e => hN (by rw [e]; simp)) fun e2 => ?_)
    refine ldB_of (x := F.hasD) (h.blk.cells 10 _ rfl) (cond_of (fun e => hN (by rw [e]; simp)) fun e3 => ?_)
    refine hJ2 _ _ ?_
    rw [add_mk]
    refine stK_blk h.blk (by simp [fCells, T_png_file.rep]) fun w2 hb2 hg2 hs2 => ?_
    rw [add_mk]
    refine stK_blk hb2 (by simp [fCells, T_png_file.rep, putL]) fun w3 hb3 hg3 hs3 => ?_
    have hc3 : Chg (fun k => k = g) w w3 := (Chg.gg hg2).trans (Chg.gg hg3) fun i _ hi => hi
    refine hY (by rw [e1, e2, e3]; rfl) w3 ⟨hb3, h.pal.chg hc3 fun a ha e => ?_, hx.chg hc3 fun a ha e => ?_, h.data.chg hc3 fun k hk e => own_ne_blk h.data h.blk (by decide) k hk e, h.pb, hxb⟩ hc3
    · have := h.pb a.block (slk.2 ⟨a, ha, rfl⟩); omega
    · have := hxb a.block (slk.2 ⟨a, ha, rfl⟩); omega
  have hnn : ∀ m : Nat, ((((ds.length : Nat) : Int)) == (m : Int)) = decide (ds.length = m) := fun m => by rw [Bool.eq_iff_iff]; simp; omega
  refine ldI_of (x := F.h.Color) (by rw [add_zero]; exact h.blk.cells 3 _ rfl) ?_
  rw [hx.n]
  refine cond_of (fun e => ?_) fun e0 => ?_
  · refine key _ ?_
    rw [if_pos (eq_of_beq e)]
    exact hnn 2
  have e0 : F.h.Color ≠ 0 := by simpa using e0
  refine cond_of (fun e => ?_) fun e2 => ?_
  · refine key _ ?_
    rw [if_neg e0, if_pos (eq_of_beq e)]
    exact hnn 6
  have e2 : F.h.Color ≠ 2 := by simpa using e2
  refine cond_of (fun e => ?_) fun e3 => ?_
  · have e3 : F.h.Color = 3 := eq_of_beq e
    refine ldB_of (x := F.hasP) (h.blk.cells 7 _ rfl) (cond_of (fun e => ?_) fun e => ?_)
    · refine ldSl_of (x := p) (h.blk.cells 5 _ rfl) ⟨by decide, key _ ?_⟩
      rw [if_neg e0, if_neg e2, if_pos e3, e, h.pal.n, show (3 : Int) = ((3 : Nat) : Int) from rfl, ← Int.ofNat_tdiv, wrap64_id (x := ((F.pal.length / 3 : Nat) : Int)) (by omega), Bool.true_and]
      rw [decide_eq_decide]
      omega
    · refine key _ ?_
      rw [if_neg e0, if_neg e2, if_pos e3, e]
      rfl
  · have e3 : F.h.Color ≠ 3 := by simpa using e3
    refine key _ ?_
    rw [if_neg e0, if_neg e2, if_neg e3]
theorem kind_beq (k l : List UInt8) : ((strB k).toList == (strB l).toList) = decide (k = l) := by
  rw [strB_toList, strB_toList, Bool.eq_iff_iff]
  simp
theorem FilA.setW (h : FilA w g b F p t d) (v : Bool) {w' : World} (hb : Blk w' g ty_png_file (fCells { F with wasD := v } p t d)) (hc : Chg (fun k => k = g) w w') (hbg : b ≤ g) : FilA w' g b { F with wasD := v } p t d :=
  ⟨hb, h.pal.chg hc fun a ha e => by have := h.pb a.block (slk.2 ⟨a, ha, rfl⟩); omega, h.tr.chg hc fun a ha e => by have := h.tb a.block (slk.2 ⟨a, ha, rfl⟩); omega, h.data.chg hc fun k hk e => own_ne_blk h.data h.blk (by decide) k hk e, h.pb, h.tb⟩
theorem pTake_spec (h : FilA w g b F p t d) (hc : ColOk F.h) {x : T_png_Chunk} {c : ChL} (hx : ChA w x c) (hxb : ∀ k, x.Data.blk = some k → k < b) (hbg : b ≤ g) (hk4 : c.kind.length = 4) (hl : c.data.length ≤ 1000000) (hpl : F.pal.length ≤ 1000000) (hdl : F.data.length ≤ 1000000000) {K : Int → World → Prop}
    (hN : ∀ w', (takeP F c).1 ≠ 0 → Below b w w' → K ((takeP F c).1 : Nat) w') (hY : (takeP F c).1 = 0 → ∀ p' t' d' w', FilA w' g b (takeP F c).2 p' t' d' → Below b w w' → K 0 w') : c_png_file_take (some ⟨g, 0, none⟩) x w K := by
  refine call_png_file_take _ _ ?_
  unfold sh_png_file_take
  simp only [onPtr_some]
  have hgl := h.blk.lt
  refine nw_blk fun w1 h1 hB1 hs1 => ?_
  have hf1 := h.ext hB1
  refine ldB_of (x := F.wasD) (hf1.blk.cells 11 _ rfl) ?_
  refine ldStr_of (x := x.Kind) (h1.cells 0 _ rfl) ?_
  rw [hx.kind, show (⟨#[73, 68, 65, 84]⟩ : ByteArray) = strB idatL from rfl, show (⟨#[73, 72, 68, 82]⟩ : ByteArray) = strB ihdrL from rfl, show (⟨#[80, 76, 84, 69]⟩ : ByteArray) = strB plteL from rfl, show (⟨#[116, 82, 78, 83]⟩ : ByteArray) = strB trnsL from rfl, show (⟨#[73, 69, 78, 68]⟩ : ByteArray) = strB iendL from rfl, kind_beq]
  rw [add_mk]
  refine stK_blk hf1.blk (by simp [fCells, T_png_file.rep]) fun w2 hb2 hg2 hs2 => ?_
  have hc2 : Chg (fun k => k = g) w1 w2 := Chg.gg hg2
  have hf2 : FilA w2 g b { F with wasD := decide (c.kind = idatL) } p t d := hf1.setW _ hb2 hc2 hbg
  have h12 : Blk w2 w.heap.size ty_png_Chunk (T_png_Chunk.rep.cells x) := h1.chg hc2 (by omega)
  have hB2 : Below b w w2 := (hB1.mono (by omega)).trans (hc2.below (by have := hB1.size; omega) fun i hi e => by omega)
  have hx2 : ChA w2 x c := ⟨hx.kind, (hx.data.ext hB1).chg hc2 fun a ha e => by have := hxb a.block (slk.2 ⟨a, ha, rfl⟩); omega⟩
  obtain ⟨F2, hF2⟩ : ∃ F2 : FilL, F2 = { F with wasD := decide (c.kind = idatL) } := ⟨_, rfl⟩
  rw [← hF2] at hf2
  unfold takeP at hN hY
  refine joinP_of fun J hJ => ?_
  have hbad : ∀ w', Below b w w' → (∀ w', Below b w w' → K 3 w') → J (false, ()) w' := fun w' hB hk => hJ _ _ (cond_t rfl (hk w' hB))
  refine ldStr_of (x := x.Kind) (h12.cells 0 _ rfl) ?_
  rw [hx.kind]
  simp only [kind_beq]
  refine cond_of (fun e => ?_) fun e1 => ?_
  · have e := of_decide_eq_true e
    rw [if_pos e] at hN
    exact hbad w2 hB2 fun w' hB => hN w' (show (3 : Nat) ≠ 0 by decide) hB
  have e1 := of_decide_eq_false e1
  rw [if_neg e1] at hN hY
  refine cond_of (fun e => ?_) fun e2 => ?_
  · have e := of_decide_eq_true e
    rw [if_pos e] at hN hY
    refine ldSl_of (x := x.Data) (h12.cells 1 _ rfl) ?_
    have hnd : decide (c.kind = idatL) = false := decide_eq_false (by rw [e]; decide)
    have hpo : plteOk F2 c.data = plteOk F c.data := by rw [hF2]; rfl
    refine colors_spec hf2 (by rw [hF2]; exact hc) hx2.data hxb hbg (by omega) (fun hp => ?_) (fun hp w3 hf3 hc3 => ?_)
    · rw [hpo] at hp
      rw [hp] at hN
      exact hbad w2 hB2 fun w' hB => hN w' (show (3 : Nat) ≠ 0 by decide) hB
    · rw [hpo] at hp
      rw [hp] at hY
      refine hJ _ _ (cond_f rfl (hY rfl x.Data t d w3 ?_ (hB2.trans (hc3.below (by have := hB2.size; have := h.blk.lt; omega) fun i hi e => by omega))))
      rw [hF2, hnd] at hf3
      exact hf3
  have e2 := of_decide_eq_false e2
  rw [if_neg e2] at hN hY
  refine cond_of (fun e => ?_) fun e3 => ?_
  · have e := of_decide_eq_true e
    rw [if_pos e] at hN hY
    refine ldSl_of (x := x.Data) (h12.cells 1 _ rfl) ?_
    have hnd : decide (c.kind = idatL) = false := decide_eq_false (by rw [e]; decide)
    have hpo : trnsOk F2 c.data = trnsOk F c.data := by rw [hF2]; rfl
    refine clear_spec hf2 (by rw [hF2]; exact hc) hx2.data hxb hbg (by omega) (by rw [hF2]; show F.pal.length ≤ _; omega) (fun hp => ?_) (fun hp w3 hf3 hc3 => ?_)
    · rw [hpo] at hp
      rw [hp] at hN
      exact hbad w2 hB2 fun w' hB => hN w' (show (3 : Nat) ≠ 0 by decide) hB
    · rw [hpo] at hp
      rw [hp] at hY
      refine hJ _ _ (cond_f rfl (hY rfl p x.Data d w3 ?_ (hB2.trans (hc3.below (by have := hB2.size; have := h.blk.lt; omega) fun i hi e => by omega))))
      rw [hF2, hnd] at hf3
      exact hf3
  have e3 := of_decide_eq_false e3
  rw [if_neg e3] at hN hY
  refine cond_of (fun e => ?_) fun e4 => ?_
  · have e := of_decide_eq_true e
    rw [if_pos e] at hN hY
    have hnd : decide (c.kind = idatL) = true := decide_eq_true e
    refine joinP_of fun J2 hJ2 => ?_
    have key : J2 (!F.hasD || F.wasD, ()) w2 := by
      refine hJ2 _ _ ?_
      rw [add_mk]
      refine stK_blk hf2.blk (by simp [fCells, T_png_file.rep]) fun w3 hb3 hg3 hs3 => ?_
      have hc3 : Chg (fun k => k = g) w2 w3 := Chg.gg hg3
      have h13 : Blk w3 w.heap.size ty_png_Chunk (T_png_Chunk.rep.cells x) := h12.chg hc3 (by omega)
      have hb3 : Blk w3 g ty_png_file (fCells { F2 with hasD := true } p t d) := hb3
      have hx3 : ChA w3 x c := ⟨hx.kind, hx2.data.chg hc3 fun a ha e => by have := hxb a.block (slk.2 ⟨a, ha, rfl⟩); omega⟩
      have hd3 : Go.Vc.Own E_uint8 w3 b d F.data := by
        have := hf2.data.chg hc3 fun k hk e => own_ne_blk hf2.data hf2.blk (by decide) k hk e
        rw [hF2] at this
        exact this
      have hBd := below_drew w3
      refine ldSl_of (x := d) ((hb3.ext hBd).cells 9 _ rfl) (ldSl_of (x := x.Data) ((h13.ext hBd).cells 1 _ rfl) ?_)
      have hsz3 : w3.drew.heap.size = w3.heap.size := rfl
      refine apB (hd3.ext hBd) (hx3.data.ext hBd) (by have := hB2.size; omega) (by omega) fun r w4 hr hg4 hrb => ?_
      have hc4 : Chg (fun k => d.blk = some k) w3 w4 := (Chg.of_ext hBd).trans hg4 fun i _ hi => hi
      have hdg : ∀ k, d.blk = some k → k ≠ g := own_ne_blk hd3 hb3 (by decide)
      have hb4 := hb3.chg hc4 fun e => hdg _ e rfl
      rw [add_mk]
      refine stK_blk hb4 (by simp [fCells, T_png_file.rep]) fun w5 hb5 hg5 hs5 => ?_
      have hc5 : Chg (fun k => k = g) w4 w5 := Chg.gg hg5
      have hb5 : Blk w5 g ty_png_file (fCells { F2 with hasD := true, data := F.data ++ c.data } p t r) := hb5
      have hrg : ∀ k, r.blk = some k → k ≠ g := own_ne_blk hr hb4 (by decide)
      have hlow : ∀ {s : Slc} {l : List UInt8}, Rd E_uint8 w2 s l → (∀ k, s.blk = some k → k < b) → Rd E_uint8 w5 s l := fun {s l} hs hsb =>
        ((hs.chg hc3 fun a ha e => by have := hsb a.block (slk.2 ⟨a, ha, rfl⟩); omega).chg hc4 fun a ha e => by
          have h1 := hsb a.block (slk.2 ⟨a, ha, rfl⟩)
          have h2 := (hd3.lt _ e).1
          omega).chg hc5 fun a ha e => by have := hsb a.block (slk.2 ⟨a, ha, rfl⟩); omega
      have hB5 : Below b w w5 := by
        have s2 := hB2.size
        have s3 := hc3.size
        have s4 := hc4.size
        exact ((hB2.trans (hc3.below (by omega) fun i hi e => by omega)).trans (hc4.below (by omega) fun i hi e => by have := (hd3.lt i e).1; omega)).trans (hc5.below (by omega) fun i hi e => by omega)
      refine hJ _ _ ?_
      cases hok : (!F.hasD || F.wasD) with
      | false =>
        rw [hok] at hN
        exact cond_t rfl (hN w5 (show (3 : Nat) ≠ 0 by decide) hB5)
      | true =>
        rw [hok] at hY
        refine cond_f rfl (hY rfl p t r w5 ?_ hB5)
        refine ⟨?_, ?_, ?_, hr.chg hc5 fun k hk e => hrg k hk e, hf2.pb, hf2.tb⟩
        · rw [hF2, hnd] at hb5
          exact hb5
        · have := hlow hf2.pal hf2.pb
          rw [hF2] at this
          exact this
        · have := hlow hf2.tr hf2.tb
          rw [hF2] at this
          exact this
    refine ldB_of (x := F.hasD) (by have := hf2.blk.cells 10 _ rfl; rw [hF2] at this; exact this) ?_
    refine cond_of (fun e => ?_) fun e => ?_
    · have e : F.hasD = false := by simpa using e
      rw [e] at key
      exact key
    · have e : F.hasD = true := by simpa using e
      rw [e] at key
      exact key
  have e4 := of_decide_eq_false e4
  rw [if_neg e4] at hN hY
  have hnd : decide (c.kind = idatL) = false := decide_eq_false e4
  have hf2' : FilA w2 g b { F with wasD := false } p t d := by rw [hF2, hnd] at hf2; exact hf2
  refine cond_of (fun e => ?_) fun e5 => ?_
  · have e := of_decide_eq_true e
    rw [if_pos e] at hN hY
    refine ldSl_of (x := x.Data) (h12.cells 1 _ rfl) ?_
    rw [hx.data.n]
    by_cases he : c.data = []
    · rw [if_pos he] at hN hY
      rw [he]
      exact hJ _ _ (cond_f rfl (hY rfl p t d w2 hf2' hB2))
    · rw [if_neg he] at hN
      rw [beqI_f (by have := List.length_pos_iff.2 he; omega)]
      exact hbad w2 hB2 fun w' hB => hN w' (show (3 : Nat) ≠ 0 by decide) hB
  have e5 := of_decide_eq_false e5
  rw [if_neg e5] at hN hY
  refine ldStr_of (x := x.Kind) (h12.cells 0 _ rfl) ?_
  rw [hx.kind]
  have hsz : (strB c.kind).size = c.kind.length := by show c.kind.toArray.size = _; simp
  refine ⟨⟨by decide, by rw [hsz, hk4]; decide⟩, ?_⟩
  have hch : ((strB c.kind).data.getD (0 : Int).toNat 0).toNat = (c.kind[0]?.getD 0).toNat := by
    show (c.kind.toArray.getD 0 0).toNat = _
    rw [Array.getD_eq_getD_getElem?]
    simp
  rw [hch]
  by_cases h90 : (c.kind[0]?.getD 0).toNat ≤ 90
  · rw [if_pos h90] at hN
    exact cond_t (decide_eq_true (by omega)) (hN w2 (show (8 : Nat) ≠ 0 by decide) hB2)
  · rw [if_neg h90] at hN hY
    exact cond_f (decide_eq_false (by omega)) (hJ _ _ (cond_f rfl (hY rfl p t d w2 hf2' hB2)))
end
end Go.Proofs.YtmagnpcgpinmcaaGreat

set_option linter.unusedVariables false
namespace Go.Proofs.YtmagnpcgpinmcaaGreat
open Go.Vc Go.RowKit
set_option maxRecDepth 400000
theorem rowP_le (wx samples depth : Int) : rowP wx samples depth ≤ 131072 := by
  unfold rowP
  split
  · omega
  · rename_i h
    simp only [not_or] at h
    obtain ⟨h1, h2, h3, h4, h5⟩ := h
    have hd : isDepthP depth = true := by cases e : isDepthP depth with | true => rfl | false => exact absurd e h5
    have hdp : 1 ≤ depth ∧ depth ≤ 16 := by
      unfold isDepthP at hd
      simp at hd
      omega
    have a1 : 0 ≤ wx * samples := Int.mul_nonneg (by omega) (by omega)
    have a2 : wx * samples ≤ 16384 * 4 := Int.mul_le_mul (by omega) (by omega) (by omega) (by omega)
    have a4 : wx * samples * depth ≤ 16384 * 4 * 16 := Int.mul_le_mul a2 (by omega) (by omega) (by omega)
    omega
def needL (h : T_png_Head) (L : List (PassP × Nat × Nat)) : Nat := (L.map fun r => 1 + rowB h r.2.2).sum
theorem needL_le (h : T_png_Head) : ∀ L : List (PassP × Nat × Nat), needL h L ≤ L.length * 200000
  | [] => by simp [needL]
  | r :: l => by
    have := needL_le h l
    have h2 : rowB h r.2.2 ≤ 131072 := rowP_le _ _ _
    unfold needL at this ⊢
    rw [List.map_cons, List.sum_cons, List.length_cons]
    omega
theorem needL_snoc (h : T_png_Head) (L : List (PassP × Nat × Nat)) (r : PassP × Nat × Nat) : needL h (L ++ [r]) = needL h L + (1 + rowB h r.2.2) := by simp [needL]
theorem flat_len (W H : Nat) (hH : H ≤ 16384) : ∀ ps : List PassP, (ps.flatMap (rowsOf W H)).length ≤ ps.length * 16384
  | [] => by simp
  | p :: r => by
    have := flat_len W H hH r
    have h2 := (sizeP_le p W H).2
    rw [List.flatMap_cons, List.length_append, rowsOf_length, List.length_cons]
    omega
theorem rowsL_len {h : T_png_Head} {W H : Nat} (ho : HeadOk h W H) : (rowsL h).length ≤ 7 * 16384 := by
  unfold rowsL
  rw [ho.wn, ho.hn]
  have h1 := flat_len W H ho.h2 (passesP h.Lace)
  have h2 := passes_len h.Lace
  omega
theorem keepT_of {w w' : World} {S : Nat → Prop} (h : Chg S w w') (hS : ∀ k, S k → ∃ t cs, Blk w k t cs ∧ t ≠ ty_filter_Pass ∧ t ≠ ty_png_Head) : KeepT w w' := fun k t cs ht hb => hb.chg h fun e => by
  obtain ⟨t', cs', hb', h1, h2⟩ := hS k e
  refine hb.ne_t hb' ?_ rfl
  rcases ht with rfl | rfl
  · exact fun e => h1 e.symm
  · exact fun e => h2 e.symm
section
variable {w : World}
theorem need_spec {h : T_png_Head} {W H : Nat} (ho : HeadOk h W H) {K : Int → World → Prop} (hK : ∀ w', Below w.heap.size w w' → K ((needP h : Nat) : Int) w') : c_png_Head_need h w K := by
  refine call_png_Head_need _ ?_
  unfold sh_png_Head_need
  refine nw_blk fun w1 h1 hB1 hs1 => nw_blk fun w2 h2 hB2 hs2 => ?_
  have hB12 := below_t hB1 hB2
  refine all_of h2 rfl fun w3 h3 hc3 hs3 => ?_
  have hB3 := below_one hB12 hc3 (by omega)
  have h13 : Blk w3 w.heap.size ty_png_Head _ := (h1.ext hB2).chg hc3 (by omega)
  refine ldS_of (r := T_png_Head.rep) (x := h) h13.cells ?_
  refine rows_spec ho (fun L w4 => Blk w4 w1.heap.size ty_int [.int .i64 ((needL h L : Nat) : Int)] ∧ Blk w4 w.heap.size ty_png_Head (T_png_Head.rep.cells h) ∧ Below w.heap.size w w4) (fun _ => False) ⟨h3, h13, hB3⟩ ?_ ?_ ?_ (fun _ h => h.elim)
  · rintro L w4 w5 ⟨a, b, c⟩ hB
    exact ⟨a.ext hB, b.ext hB, below_t c hB⟩
  · rintro L r R w4 hL ⟨a, b, c⟩ hs4 J hJ1 hJ0
    refine callR_plain (by kernel_rfl) ?_
    have hcall : c_png_Head_need_1 (passT r.1) (r.2.1 : Int) (r.2.2 : Int) ⟨w1.heap.size, 0, none⟩ ⟨w.heap.size, 0, none⟩ w4 J := by
      refine call_png_Head_need_1 _ _ _ _ _ ?_
      unfold sh_png_Head_need_1
      refine nw_blk fun w5 h5 hB5 hs5 => ?_
      have hBd := below_t hB5 (below_drew w5)
      have ad := a.ext hBd
      have bd := b.ext hBd
      refine ldI_of (x := ((needL h L : Nat) : Int)) (ad.cell 0 rfl) (ldI_of (x := h.Color) (bd.cells 3 _ rfl) (ldI_of (x := h.Depth) (bd.cells 2 _ rfl) ?_))
      refine Samples_spec ⟨bd.cells 2 _ rfl, ad.cell 0 rfl, Row_spec ⟨ad.cell 0 rfl, ?_⟩⟩
      have hle := needL_le h L
      have hll := rowsL_len ho
      rw [hL, List.length_append, List.length_cons] at hll
      have hrl : rowP (r.2.2 : Int) (samplesOf h.Color) h.Depth ≤ 131072 := rowP_le _ _ _
      have hrb : rowB h r.2.2 = rowP (r.2.2 : Int) (samplesOf h.Color) h.Depth := rfl
      rw [wrap64_id (x := (1 : Int) + ((rowP (r.2.2 : Int) (samplesOf h.Color) h.Depth : Nat) : Int)) (by omega), wrap64_id (by omega)]
      refine all_of ad rfl fun w6 h6 hc6 hs6 => ?_
      have hne : w.heap.size ≠ w1.heap.size := by omega
      refine hJ1 w6 ⟨?_, bd.chg hc6 hne, below_one (below_t c hBd) hc6 (by omega)⟩ ?_ (by have := hBd.size; omega)
      · rw [needL_snoc, hrb]
        have e : ((needL h L : Nat) : Int) + ((1 : Int) + ((rowP (r.2.2 : Int) (samplesOf h.Color) h.Depth : Nat) : Int)) = ((needL h L + (1 + rowP (r.2.2 : Int) (samplesOf h.Color) h.Depth) : Nat) : Int) := by omega
        rw [e] at h6
        exact h6
      · refine keepT_of (S := fun k => k = w1.heap.size) ((Chg.of_ext hBd).trans hc6 fun i _ hi => hi) fun k hk => ⟨ty_int, [.int .i64 ((needL h L : Nat) : Int)], by rw [hk]; exact a, by decide, by decide⟩
    refine Calls.mono hcall ?_
    rintro e w' ⟨r, rfl, hk⟩
    exact ⟨r, rfl, hk⟩
  · rintro w4 ⟨a, b, c⟩
    exact ldI_of (x := ((needP h : Nat) : Int)) (a.cell 0 rfl) (hK w4 c)

theorem Scale_spec {v n : Nat} {K : Int → World → Prop} (hv : v ≤ 1000000) (hn : 1 ≤ n) (hn2 : n ≤ 1000000) (hvn : v ≤ n) (h255 : v ≤ 1000) (hK : K ((scaleP v n 255 : Nat) : Int) w) : c_pixel_Scale_int (v : Int) (n : Int) 255 w K := by
  refine call_pixel_Scale_int _ _ _ ?_
  unfold sh_pixel_Scale_int
  refine joinP_of fun J hJ => ?_
  have hj : J () w := hJ _ _ ⟨by decide, by omega, by
    unfold scaleP at hK
    rw [if_neg (by omega)] at hK
    have hq : (v * 255 + n / 2) / n ≤ v * 255 + n / 2 := Nat.div_le_self _ _
    rw [wrap64_id (x := (v : Int) * 255) (by omega), show (2 : Int) = ((2 : Nat) : Int) from rfl, ← Int.ofNat_tdiv, wrap64_id (x := ((n / 2 : Nat) : Int)) (by omega), show (v : Int) * 255 + ((n / 2 : Nat) : Int) = ((v * 255 + n / 2 : Nat) : Int) by omega, wrap64_id (x := ((v * 255 + n / 2 : Nat) : Int)) (by omega), ← Int.ofNat_tdiv]
    generalize (v * 255 + n / 2) / n = q at hK hq ⊢
    rw [wrap64_id (by omega)]
    exact hK⟩
  refine cond_f (decide_eq_false (by omega)) (cond_f (decide_eq_false (by omega)) (cond_f (decide_eq_false (by omega)) (cond_f (by decide) ?_)))
  refine cond_of (fun h => ?_) fun h => hj
  have h := of_decide_eq_true h
  refine ⟨by omega, cond_f (decide_eq_false ?_) hj⟩
  rw [show (1073741824 : Int) = ((1073741824 : Nat) : Int) from rfl, ← Int.ofNat_tdiv]
  have h1 : 1073741824 / v ≤ 1073741824 := Nat.div_le_self _ _
  have h2 : 255 ≤ 1073741824 / v := (Nat.le_div_iff_mul_le (by omega)).2 (by omega)
  generalize 1073741824 / v = q at h1 h2 ⊢
  rw [wrap64_id (by omega)]
  omega
theorem wrap8_n (n : Nat) : IntKind.u8.wrap (n : Int) = (((UInt8.ofNat n).toNat : Nat) : Int) := wrap8_of n
theorem eight_spec {h : T_png_Head} {v : Nat} {K : Int → World → Prop} (hc : ColOk h) (hv : v < 2 ^ h.Depth.toNat) (hK : ∀ w', Below w.heap.size w w' → K (((eightP h.Depth v).toNat : Nat) : Int) w') : c_png_Head_eight h (v : Int) w K := by
  refine call_png_Head_eight _ _ ?_
  unfold sh_png_Head_eight
  refine nw_blk fun w1 h1 hB1 hs1 => ?_
  refine ldI_of (x := h.Depth) (h1.cells 2 _ rfl) ?_
  unfold eightP at hK
  refine cond_of (fun e => ?_) fun e8 => ?_
  · rw [if_pos (eq_of_beq e)] at hK
    rw [wrap8_n]
    exact hK w1 hB1
  have e8 : h.Depth ≠ 8 := by simpa using e8
  rw [if_neg e8] at hK
  refine cond_of (fun e => ⟨by decide, ?_⟩) fun e16 => ?_
  · rw [if_pos (eq_of_beq e)] at hK
    rw [show min ((8 : Int)).toNat IntKind.i64.bits = 8 by decide, fdiv_nat, wrap8_n]
    exact hK w1 hB1
  have e16 : h.Depth ≠ 16 := by simpa using e16
  rw [if_neg e16] at hK
  refine ldI_of (x := h.Depth) (h1.cells 2 _ rfl) ⟨by have := hc.d; omega, ?_⟩
  have hd : h.Depth = 1 ∨ h.Depth = 2 ∨ h.Depth = 4 := by have := hc.d; omega
  have hsh : IntKind.i64.wrap ((IntKind.i64.wrap ((1 : Int) * 2 ^ (min h.Depth.toNat IntKind.i64.bits))) - (1 : Int)) = ((2 ^ h.Depth.toNat - 1 : Nat) : Int) := by
    rcases hd with h | h | h <;> rw [h] <;> decide
  have hp : 2 ≤ 2 ^ h.Depth.toNat ∧ 2 ^ h.Depth.toNat ≤ 16 := by rcases hd with h | h | h <;> rw [h] <;> decide
  rw [hsh]
  refine Scale_spec (by omega) (by omega) (by omega) (by omega) (by omega) ?_
  rw [wrap8_n]
  exact hK w1 hB1

def colT (a b c d : UInt8) : T_pixel_Color := ⟨(a.toNat : Nat), (b.toNat : Nat), (c.toNat : Nat), (d.toNat : Nat)⟩
theorem tr_val {f : FilL} {i : Nat} {d : Nat} (hd : d = 1 ∨ d = 2 ∨ d = 4 ∨ d = 8 ∨ d = 16) (x y : UInt8) :
    bitsR .and .i64 (bitsR .or .i64 (IntKind.i64.wrap ((IntKind.i64.wrap ((x.toNat : Nat) : Int)) * 2 ^ (min (8 : Int).toNat IntKind.i64.bits))) (IntKind.i64.wrap ((y.toNat : Nat) : Int))) (IntKind.i64.wrap ((IntKind.i64.wrap ((1 : Int) * 2 ^ (min ((d : Nat) : Int).toNat IntKind.i64.bits))) - (1 : Int))) = (((x.toNat * 256 + y.toNat) % 2 ^ d : Nat) : Int) := by
  have hx := x.toNat_lt
  have hy := y.toNat_lt
  rw [w8, w8, show min ((8 : Int)).toNat IntKind.i64.bits = 8 by decide, mul_pow_nat, wrap_nat .i64 (x := x.toNat * 2 ^ 8) (by show _ < 2 ^ 63; omega), bits_or .i64 (by show _ < 2 ^ 63; omega) (by show _ < 2 ^ 63; omega)]
  have e : x.toNat * 2 ^ 8 ||| y.toNat = x.toNat * 256 + y.toNat := by
    rw [Nat.or_comm, Nat.mul_comm, add_or (by omega)]
    omega
  have hsh : IntKind.i64.wrap ((IntKind.i64.wrap ((1 : Int) * 2 ^ (min ((d : Nat) : Int).toNat IntKind.i64.bits))) - (1 : Int)) = ((2 ^ d - 1 : Nat) : Int) := by
    rcases hd with rfl | rfl | rfl | rfl | rfl <;> decide
  have hp : 2 ^ d ≤ 65536 := by rcases hd with rfl | rfl | rfl | rfl | rfl <;> decide
  rw [e, hsh, bits_and .i64 (by show _ < 2 ^ 63; omega) (by show _ < 2 ^ 63; omega), Nat.and_two_pow_sub_one_eq_mod]
theorem trSame_succ (F : FilL) (ss : List Nat) (i : Nat) : trSame F ss (i + 1) = (trSame F ss i && decide (ss[i]?.getD 0 = ((F.tr[2 * i]?.getD 0).toNat * 256 + (F.tr[2 * i + 1]?.getD 0).toNat) % 2 ^ F.h.Depth.toNat)) := by
  unfold trSame
  rw [List.range_succ, List.all_append]
  simp
theorem trSame_false {F : FilL} {ss : List Nat} {i n : Nat} (h : trSame F ss i = false) (hin : i ≤ n) : trSame F ss n = false := by
  unfold trSame at h ⊢
  rw [List.all_eq_false] at h ⊢
  obtain ⟨x, hx, hh⟩ := h
  exact ⟨x, List.mem_range.2 (by have := List.mem_range.1 hx; omega), hh⟩
theorem FilA.head {g b : Nat} {F : FilL} {p t d : Slc} (h : FilA w g b F p t d) : cellsAt w ⟨g, 0, none⟩ (T_png_Head.rep.cells F.h) := by
  have : cellsAt w ((⟨g, 0, none⟩ : Addr).add 0) (T_png_Head.rep.cells F.h) := h.blk.cells.sub 0 (by rintro j v hj; rw [Nat.zero_add]; match j, hj with
          | 0, hj => exact hj
          | 1, hj => exact hj
          | 2, hj => exact hj
          | 3, hj => exact hj
          | 4, hj => exact hj
          | j + 5, hj => simp [T_png_Head.rep] at hj)
  rwa [add_zero] at this
theorem color_spec {g b : Nat} {F : FilL} {p t d : Slc} (h : FilA w g b F p t d) (ho : FilOk F) {s : Slc} {ss : List Nat} (hs : Rd E_int w s (intsN ss)) (hsl : ss.length = samplesOf F.h.Color) (hsv : ∀ v ∈ ss, v < 2 ^ F.h.Depth.toNat) (hpl : F.pal.length ≤ 1000000) (htl : F.tr.length ≤ 1000000) {K : T_pixel_Color → Bool → World → Prop}
    (hN : ∀ x w', colorP F ss = none → Below w.heap.size w w' → K x false w') (hY : ∀ a b c d w', colorP F ss = some [a, b, c, d] → Below w.heap.size w w' → K (colT a b c d) true w') : c_png_file_color (some ⟨g, 0, none⟩) s w K := by
  obtain ⟨_, hc⟩ := checkP_ok ho.hd
  refine call_png_file_color _ _ ?_
  unfold sh_png_file_color
  simp only [onPtr_some]
  refine nw_blk fun w1 h1 hB1 hs1 => nw_blk fun w2 h2 hB2 hs2 => ?_
  have hB12 := below_t hB1 hB2
  refine all_of h2 rfl fun w3 h3 hc3 hs3 => ?_
  have hB3 := below_one hB12 hc3 (by omega)
  have h13 : Blk w3 w.heap.size ty_pixel_Color _ := (h1.ext hB2).chg hc3 (by omega)
  have h3 : Blk w3 w1.heap.size ty_pixel_Color (bcells [0, 0, 0, 255]) := h3
  have hss : ∀ i, i < ss.length → ∃ v, ss[i]? = some v ∧ v < 2 ^ F.h.Depth.toNat := fun i hi => ⟨ss[i], List.getElem?_eq_getElem hi, hsv _ (List.getElem_mem hi)⟩
  have hsn := hs.n
  rw [ints_length] at hsn
  have scell : ∀ {w' : World} {i v : Nat}, Below w.heap.size w w' → ss[i]? = some v → w'.cell? (s.at_ 1 i) = some (.int .i64 (v : Int)) := fun {w' i v} hB hv => by
    have := (hs.ext hB).at_ i (v : Int) (by rw [ints_get, hv]; rfl) 0 _ rfl
    have h2 : w'.cell? (s.at_ E_int.k i) = some (.int .i64 (v : Int)) := by simpa using this
    exact h2
  have six : ∀ {w' : World} {i : Nat} {K : Addr → Prop}, i < ss.length → K (s.at_ 1 i) → ixK s (i : Int) 1 K := fun {w' i K} hi hk => hs.ix (i := (i : Int)) rfl (by omega) (by rw [ints_length]; omega) fun _ => hk
  have hsmp1 : 1 ≤ ss.length := by
    rw [hsl]
    unfold samplesOf
    rcases hc.c with e | e | e | e | e <;> rw [e] <;> decide
  have hs4 : ss.length ≤ 4 := by
    rw [hsl]
    unfold samplesOf
    rcases hc.c with e | e | e | e | e <;> rw [e] <;> decide
  obtain ⟨v0, hv0, hv0l⟩ := hss 0 (by omega)
  -- the end: the colour is told
  have told : ∀ (a b' c d' : UInt8) w', Blk w' w1.heap.size ty_pixel_Color (bcells [a, b', c, d']) → Blk w' w.heap.size ty_pixel_Color (bcells [0, 0, 0, 0]) → Below w.heap.size w w' → colorP F ss = some [a, b', c, d'] →
      ldS T_pixel_Color.rep ⟨w1.heap.size, 0, none⟩ w' fun t175 => stK ⟨w.heap.size, 0, none⟩ (T_pixel_Color.rep.cells t175) w' fun w9 => ldS T_pixel_Color.rep ⟨w.heap.size, 0, none⟩ w9 fun r => K r true w9 := by
    intro a b' c d' w' hb ht hB hcol
    refine ldS_of (r := T_pixel_Color.rep) (x := colT a b' c d') hb.cells ?_
    exact res_of (r := T_pixel_Color.rep) (x := colT a b' c d') ht rfl rfl fun w9 hc9 _ => hY a b' c d' w9 hcol (below_one hB hc9 (Nat.le_refl _))
  refine joinP_of fun J1 hJ1 => ?_
  have base : ∀ (a b' c : UInt8) w4, F.h.Color ≠ 3 → Blk w4 w1.heap.size ty_pixel_Color (bcells [a, b', c, 255]) → Blk w4 w.heap.size ty_pixel_Color (bcells [0, 0, 0, 0]) → Below w.heap.size w w4 →
      (∀ al : UInt8, al = (if F.hasT && trSame F ss ss.length then 0 else if F.h.Color = 4 ∨ F.h.Color = 6 then eightP F.h.Depth (ss[ss.length - 1]?.getD 0) else 255) → colorP F ss = some [a, b', c, al]) → J1 () w4 := by
    intro a b' c w4 hn3 hb4 ht4 hB4 hcol
    refine hJ1 _ _ (joinP_of fun J2 hJ2 => ?_)
    have tail : ∀ (al : UInt8) w5, Blk w5 w1.heap.size ty_pixel_Color (bcells [a, b', c, al]) → Blk w5 w.heap.size ty_pixel_Color (bcells [0, 0, 0, 0]) → Below w.heap.size w w5 → al = (if F.h.Color = 4 ∨ F.h.Color = 6 then eightP F.h.Depth (ss[ss.length - 1]?.getD 0) else 255) → J2 () w5 := by
      intro al w5 hb5 ht5 hB5 hal
      refine hJ2 _ _ ?_
      have hf5 := h.ext hB5
      refine ldB_of (x := F.hasT) (hf5.blk.cells 8 _ rfl) ?_
      refine loopP_rule (fun (st : Bool × Int × Unit) w6 => ∃ i : Nat, st.2.1 = i ∧ i ≤ ss.length ∧ st.1 = (F.hasT && trSame F ss i) ∧ Blk w6 w1.heap.size ty_pixel_Color (bcells [a, b', c, al]) ∧ Blk w6 w.heap.size ty_pixel_Color (bcells [0, 0, 0, 0]) ∧ Below w.heap.size w w6) (fun st => ss.length - st.2.1.toNat)
        ⟨0, rfl, by omega, by rw [show trSame F ss 0 = true from rfl, Bool.and_true], hb5, ht5, hB5⟩ ?_
      rintro ⟨sm, i, u⟩ w6 ⟨i, rfl, hi, hsm, hb6, ht6, hB6⟩ I hI
      dsimp only at hsm ⊢
      have hend : (F.hasT && trSame F ss ss.length) = sm → cond sm
              (ixA (⟨w1.heap.size, 0, none⟩ : Addr) 4 3 1 fun t174 => stK t174 [(.int .u8 0)] w6 fun w8 => ldS T_pixel_Color.rep (⟨w1.heap.size, 0, none⟩ : Addr) w8 fun t175 => stK (⟨w.heap.size, 0, none⟩ : Addr) (T_pixel_Color.rep.cells t175) w8 fun w9 => ldS T_pixel_Color.rep (⟨w.heap.size, 0, none⟩ : Addr) w9 fun r => K r true w9)
              (ldS T_pixel_Color.rep (⟨w1.heap.size, 0, none⟩ : Addr) w6 fun t175_1 => stK (⟨w.heap.size, 0, none⟩ : Addr) (T_pixel_Color.rep.cells t175_1) w6 fun w10 => ldS T_pixel_Color.rep (⟨w.heap.size, 0, none⟩ : Addr) w10 fun r_1 => K r_1 true w10) := by
        intro hes
        cases hsm' : sm with
        | true =>
          rw [hsm'] at hes
          refine cond_t rfl ⟨⟨by decide, by decide⟩, ?_⟩
          rw [add_mk]
          refine stK_blk hb6 (by simp [bcells]) fun w8 hb8 hg8 hs8 => ?_
          have hb8 : Blk w8 w1.heap.size ty_pixel_Color (bcells [a, b', c, 0]) := hb8
          have hc8 : Chg (fun k => k = w1.heap.size) w6 w8 := Chg.gg hg8
          refine told a b' c 0 w8 hb8 (ht6.chg hc8 (by omega)) (below_one hB6 hc8 (by omega)) (hcol 0 ?_)
          rw [hes, if_pos rfl]
        | false =>
          rw [hsm'] at hes
          refine cond_f rfl (told a b' c al w6 hb6 ht6 hB6 (hcol al ?_))
          rw [hes, if_neg (by decide)]
          exact hal
      refine joinP_of fun J4 hJ4 => ?_
      rw [hsn]
      refine cond_of (fun hlt => ?_) fun hge => ?_
      · have hlt := of_decide_eq_true hlt
        have hil : i < ss.length := by omega
        cases hsm' : sm with
        | false =>
          rw [hsm'] at hsm
          refine cond_f rfl ?_
          rw [hsm'] at hend
          refine hend ?_
          cases hT : F.hasT with
          | false => rfl
          | true =>
            rw [hT, Bool.true_and] at hsm
            rw [Bool.true_and]
            exact trSame_false hsm.symm (by omega)
        | true =>
          rw [hsm'] at hsm
          have hT : F.hasT = true := by cases e : F.hasT with | true => rfl | false => rw [e] at hsm; cases hsm
          have htr := ho.tr hT
          refine cond_t rfl (hJ4 _ _ ?_)
          have hBd := below_t hB6 (below_drew w6)
          have hfd := h.ext hBd
          obtain ⟨v, hv, hvl⟩ := hss i hil
          have htl2 : 2 * i + 1 < F.tr.length := by
            rcases htr with ⟨e, e2⟩ | ⟨e, e2⟩ | e
            · rw [hsl, e] at hil
              have : samplesOf 0 = 1 := rfl
              omega
            · rw [hsl, e] at hil
              have : samplesOf 2 = 3 := rfl
              omega
            · exact absurd e hn3
          obtain ⟨x, hx, hxs⟩ := get_of (xs := F.tr) (k := 2 * i) (by omega)
          obtain ⟨y, hy, hys⟩ := get_of (xs := F.tr) (k := 2 * i + 1) htl2
          refine six (w' := w6) hil (ldI_of (scell hBd hv) ?_)
          refine ldSl_of (x := t) (hfd.blk.cells 6 _ rfl) ?_
          have ei : IntKind.i64.wrap ((2 : Int) * (i : Int)) = ((2 * i : Nat) : Int) := by rw [wrap64_id (by omega)]; simp
          have ei1 : IntKind.i64.wrap ((((2 * i : Nat)) : Int) + (1 : Int)) = ((2 * i + 1 : Nat) : Int) := by rw [wrap64_id (by omega)]; rfl
          rw [ei, ei1]
          refine hfd.tr.ix (i := ((2 * i : Nat) : Int)) rfl (by omega) (by omega) fun _ => ?_
          refine ldI_of (x := (x.toNat : Int)) (by rw [Int.toNat_natCast]; exact rdcell hfd.tr hx) ⟨by decide, ?_⟩
          refine ldSl_of (x := t) (hfd.blk.cells 6 _ rfl) ?_
          refine hfd.tr.ix (i := ((2 * i + 1 : Nat) : Int)) rfl (by omega) (by omega) fun _ => ?_
          refine ldI_of (x := (y.toNat : Int)) (by rw [Int.toNat_natCast]; exact rdcell hfd.tr hy) ?_
          refine ldI_of (x := F.h.Depth) (by rw [add_zero]; exact hfd.blk.cells 2 _ rfl) ⟨by have := hc.d; omega, ?_⟩
          have hdn : F.h.Depth = ((F.h.Depth.toNat : Nat) : Int) := by have := hc.d; omega
          have hv2 := tr_val (f := F) (i := i) (d := F.h.Depth.toNat) (by have := hc.d; omega) x y
          rw [← hdn] at hv2
          rw [hv2, wrap64_id (by omega)]
          refine hI _ _ ⟨i + 1, rfl, by omega, ?_, hb6.ext (below_drew w6), ht6.ext (below_drew w6), hBd⟩ (by simp; omega)
          dsimp only
          rw [hT, Bool.true_and] at hsm ⊢
          rw [trSame_succ, ← hsm, hv, hx, hy, Bool.true_and, Bool.eq_iff_iff]
          simp only [beq_iff_eq, decide_eq_true_eq, Option.getD_some]
          omega
      · have hge := of_decide_eq_false hge
        obtain rfl : i = ss.length := by omega
        exact hend hsm.symm
    refine joinP_of fun J5 hJ5 => ?_
    have al : ∀ bb : Bool, (bb = true ↔ F.h.Color = 4 ∨ F.h.Color = 6) → J5 (bb, ()) w4 := by
      intro bb hbb
      refine hJ5 _ _ ?_
      refine cond_of (fun e => ?_) fun e => ?_
      · have hBd := below_t hB4 (below_drew w4)
        have hfd := h.ext hBd
        refine ldS_of (r := T_png_Head.rep) (x := F.h) (by rw [add_zero]; exact hfd.head) ?_
        rw [hsn, wrap64_id (by omega), show ((ss.length : Nat) : Int) - 1 = ((ss.length - 1 : Nat) : Int) by omega]
        obtain ⟨v, hv, hvl⟩ := hss (ss.length - 1) (by omega)
        refine six (w' := w4) (by omega) (ldI_of (scell hBd hv) ?_)
        refine eight_spec hc hvl fun w5 hB5 => ⟨⟨by decide, by decide⟩, ?_⟩
        rw [add_mk]
        refine stK_blk ((hb4.ext (below_drew w4)).ext hB5) (by simp [bcells]) fun w6 hb6 hg6 hs6 => ?_
        have hb6 : Blk w6 w1.heap.size ty_pixel_Color (bcells [a, b', c, eightP F.h.Depth v]) := hb6
        have hc6 : Chg (fun k => k = w1.heap.size) w5 w6 := Chg.gg hg6
        refine tail (eightP F.h.Depth v) w6 hb6 (((ht4.ext (below_drew w4)).ext hB5).chg hc6 (by omega)) (below_one (below_t hBd hB5) hc6 (by omega)) ?_
        rw [if_pos (hbb.1 e), hv]
        rfl
      · refine tail 255 w4 hb4 ht4 hB4 ?_
        rw [if_neg fun h => by rw [hbb.2 h] at e; cases e]
    have hf4 := h.ext hB4
    refine ldI_of (x := F.h.Color) (by rw [add_zero]; exact hf4.blk.cells 3 _ rfl) ?_
    refine cond_of (fun e => al _ ?_) fun e => ?_
    · have := eq_of_beq e; simp [this]
    · have e : F.h.Color ≠ 4 := by simpa using e
      refine ldI_of (x := F.h.Color) (by rw [add_zero]; exact hf4.blk.cells 3 _ rfl) (al _ ?_)
      simp [e]
  have hf3 := h.ext hB3
  refine ldI_of (x := F.h.Color) (by rw [add_zero]; exact hf3.blk.cells 3 _ rfl) ?_
  have hBd := below_t hB3 (below_drew w3)
  have hfd := h.ext hBd
  have h3d := h3.ext (below_drew w3)
  have h13d : Blk w3.drew w.heap.size ty_pixel_Color (bcells [0, 0, 0, 0]) := h13.ext (below_drew w3)
  refine cond_of (fun e => ?_) fun e3 => ?_
  · have e : F.h.Color = 3 := eq_of_beq e
    have hv16 : v0 < 65536 := Nat.lt_of_lt_of_le hv0l (show 2 ^ F.h.Depth.toNat ≤ 2 ^ 16 from Nat.pow_le_pow_right (by decide) (by have := hc.d; omega))
    refine six (w' := w3) (i := 0) (by omega) (ldI_of (scell hBd hv0) ?_)
    refine ldSl_of (x := p) (hfd.blk.cells 5 _ rfl) ?_
    have e3v : IntKind.i64.wrap ((3 : Int) * (v0 : Int)) = ((3 * v0 : Nat) : Int) := by rw [wrap64_id (by omega)]; simp
    rw [e3v, hfd.pal.n]
    have hval : colorP F ss = (if 3 * v0 ≥ F.pal.length then none else some [F.pal[3 * v0]?.getD 0, F.pal[3 * v0 + 1]?.getD 0, F.pal[3 * v0 + 2]?.getD 0, if v0 < F.tr.length then F.tr[v0]?.getD 0 else 255]) := by
      unfold colorP
      rw [hv0]
      dsimp only [Option.getD_some]
      rw [if_pos e]
    refine cond_of (fun hge => ?_) fun hlt => ?_
    · have hge := of_decide_eq_true hge
      rw [if_pos (by omega)] at hval
      refine ldS_of (r := T_pixel_Color.rep) (x := colT 0 0 0 255) h3d.cells ?_
      exact res_of (r := T_pixel_Color.rep) (x := colT 0 0 0 255) h13d rfl rfl fun w9 hc9 _ => hN _ w9 hval (below_one hBd hc9 (Nat.le_refl _))
    have hlt := of_decide_eq_false hlt
    rw [if_neg (by omega)] at hval
    have hp3 := ho.pal
    have hBdd := below_t hBd (below_drew _)
    have hfdd := h.ext hBdd
    have h3dd := h3d.ext (below_drew _)
    have h13dd := h13d.ext (below_drew _)
    refine ⟨⟨by decide, by decide⟩, ?_⟩
    refine ldSl_of (x := p) (hfdd.blk.cells 5 _ rfl) ?_
    refine six (w' := w3) (i := 0) (by omega) (ldI_of (scell hBdd hv0) ?_)
    rw [e3v]
    refine hfdd.pal.slK (l := 3 * v0) (m := F.pal.length) rfl (.inr rfl) (.inl ⟨rfl, rfl⟩) (by omega) (by omega) fun hpp => ?_
    rw [List.take_length] at hpp
    have hmin : (3 : Nat) = min ((F.pal.drop (3 * v0)).length) 3 := by rw [List.length_drop]; omega
    refine copyB (o := 0) (dn := 3) (dc := 4) h3dd hpp hmin (by simp [bcells]) fun w18 hb18 hc18 hs18 => ?_
    obtain ⟨q0, hq0, _⟩ := get_of (xs := F.pal) (k := 3 * v0) (by omega)
    obtain ⟨q1, hq1, _⟩ := get_of (xs := F.pal) (k := 3 * v0 + 1) (by omega)
    obtain ⟨q2, hq2, _⟩ := get_of (xs := F.pal) (k := 3 * v0 + 2) (by omega)
    have htk : (F.pal.drop (3 * v0)).take 3 = [q0, q1, q2] := by
      have c0 : F.pal.drop (3 * v0) = q0 :: F.pal.drop (3 * v0 + 1) := by
        rw [List.getElem?_eq_getElem (by omega)] at hq0
        rw [← Option.some.inj hq0, ← List.drop_eq_getElem_cons]
      have c1 : F.pal.drop (3 * v0 + 1) = q1 :: F.pal.drop (3 * v0 + 2) := by
        rw [List.getElem?_eq_getElem (by omega)] at hq1
        rw [← Option.some.inj hq1, ← List.drop_eq_getElem_cons]
      have c2 : F.pal.drop (3 * v0 + 2) = q2 :: F.pal.drop (3 * v0 + 3) := by
        rw [List.getElem?_eq_getElem (by omega)] at hq2
        rw [← Option.some.inj hq2, ← List.drop_eq_getElem_cons]
      rw [c0, c1, c2]
      rfl
    rw [htk] at hb18
    have hb18 : Blk w18 w1.heap.size ty_pixel_Color (bcells [q0, q1, q2, 255]) := hb18
    have hB18 := below_one hBdd hc18 (by omega)
    have h18 := h13dd.chg hc18 (by omega)
    rw [hq0, hq1, hq2] at hval
    have hBd18 := below_t hB18 (below_drew w18)
    have hf18 := h.ext hBd18
    refine six (w' := w3) (i := 0) (by omega) (ldI_of (scell hBd18 hv0) ?_)
    refine ldSl_of (x := t) (hf18.blk.cells 6 _ rfl) ?_
    rw [hf18.tr.n]
    refine cond_of (fun ht => ?_) fun ht => ?_
    · have ht := of_decide_eq_true ht
      rw [if_pos (by omega)] at hval
      have hBdd18 := below_t hBd18 (below_drew _)
      have hff := h.ext hBdd18
      refine ldSl_of (x := t) (hff.blk.cells 6 _ rfl) ?_
      refine six (w' := w3) (i := 0) (by omega) (ldI_of (scell hBdd18 hv0) ?_)
      obtain ⟨y, hy, _⟩ := get_of (xs := F.tr) (k := v0) (by omega)
      refine hff.tr.ix (i := (v0 : Int)) rfl (by omega) (by omega) fun _ => ?_
      refine ldI_of (x := (y.toNat : Int)) (by rw [Int.toNat_natCast]; exact rdcell hff.tr hy) ⟨⟨by decide, by decide⟩, ?_⟩
      rw [add_mk]
      refine stK_blk ((hb18.ext (below_drew _)).ext (below_drew _)) (by simp [bcells]) fun w19 hb19 hg19 hs19 => ?_
      have hb19 : Blk w19 w1.heap.size ty_pixel_Color (bcells [q0, q1, q2, y]) := hb19
      have hc19 : Chg (fun k => k = w1.heap.size) w18.drew.drew w19 := Chg.gg hg19
      rw [hy] at hval
      exact told q0 q1 q2 y w19 hb19 (((h18.ext (below_drew _)).ext (below_drew _)).chg hc19 (by omega)) (below_one hBdd18 hc19 (by omega)) hval
    · have ht := of_decide_eq_false ht
      rw [if_neg (by omega)] at hval
      exact told q0 q1 q2 255 w18.drew (hb18.ext (below_drew _)) (h18.ext (below_drew _)) hBd18 hval
  have e3 : F.h.Color ≠ 3 := by simpa using e3
  have hcells : ∀ {w' : World}, Below w.heap.size w w' → cellsAt w' ⟨g, 0, none⟩ (T_png_Head.rep.cells F.h) := fun hB => (h.ext hB).head
  refine joinP_of fun J6 hJ6 => ?_
  have key : ∀ bb : Bool, (bb = true ↔ F.h.Color = 0 ∨ F.h.Color = 4) → J6 (bb, ()) w3 := by
    intro bb hbb
    refine hJ6 _ _ (cond_of (fun e => ?_) fun e => ?_)
    · refine ldS_of (r := T_png_Head.rep) (x := F.h) (by rw [add_zero]; exact hcells hBd) ?_
      refine six (w' := w3) (i := 0) (by omega) (ldI_of (scell hBd hv0) ?_)
      refine eight_spec hc hv0l fun w23 hB23 => ?_
      refine all_of (h3d.ext hB23) rfl fun w24 h24 hc24 hs24 => ?_
      have h24 : Blk w24 w1.heap.size ty_pixel_Color (bcells [eightP F.h.Depth v0, eightP F.h.Depth v0, eightP F.h.Depth v0, 255]) := h24
      refine base _ _ _ w24 e3 h24 ((h13d.ext hB23).chg hc24 (by omega)) (below_one (below_t hBd hB23) hc24 (by omega)) fun al hal => ?_
      unfold colorP
      dsimp only
      rw [if_neg e3, if_pos (hbb.1 e), hal, hv0]
      rfl
    · have hn : ¬ (F.h.Color = 0 ∨ F.h.Color = 4) := fun h => by rw [hbb.2 h] at e; cases e
      have h3l : 3 ≤ ss.length := by
        rw [hsl]
        rcases hc.c with e | e | e | e | e
        · exact absurd (.inl e) hn
        · rw [e]; decide
        · exact absurd e e3
        · exact absurd (.inr e) hn
        · rw [e]; decide
      obtain ⟨v1, hv1, hv1l⟩ := hss 1 (by omega)
      obtain ⟨v2, hv2, hv2l⟩ := hss 2 (by omega)
      refine ldS_of (r := T_png_Head.rep) (x := F.h) (by rw [add_zero]; exact hcells hBd) ?_
      refine six (w' := w3) (i := 0) (by omega) (ldI_of (scell hBd hv0) ?_)
      refine ldS_of (r := T_png_Head.rep) (x := F.h) (by rw [add_zero]; exact hcells hBd) ?_
      refine six (w' := w3) (i := 1) (by omega) (ldI_of (scell hBd hv1) ?_)
      refine ldS_of (r := T_png_Head.rep) (x := F.h) (by rw [add_zero]; exact hcells hBd) ?_
      refine six (w' := w3) (i := 2) (by omega) (ldI_of (scell hBd hv2) ?_)
      refine eight_spec hc hv0l fun w25 hB25 => ?_
      have hB25' := below_t hBd hB25
      refine ⟨scell hB25' hv2, by rw [add_zero]; exact hcells hB25', scell hB25' hv1, by rw [add_zero]; exact hcells hB25', ?_⟩
      refine eight_spec hc hv1l fun w26 hB26 => ?_
      have hB26' := below_t hB25' hB26
      refine ⟨scell hB26' hv2, by rw [add_zero]; exact hcells hB26', ?_⟩
      refine eight_spec hc hv2l fun w27 hB27 => ?_
      refine all_of (((h3d.ext hB25).ext hB26).ext hB27) rfl fun w28 h28 hc28 hs28 => ?_
      have h28 : Blk w28 w1.heap.size ty_pixel_Color (bcells [eightP F.h.Depth v0, eightP F.h.Depth v1, eightP F.h.Depth v2, 255]) := h28
      refine base _ _ _ w28 e3 h28 ((((h13d.ext hB25).ext hB26).ext hB27).chg hc28 (by omega)) (below_one (below_t hB26' hB27) hc28 (by omega)) fun al hal => ?_
      unfold colorP
      dsimp only
      rw [if_neg e3, if_neg hn, hal, hv0, hv1, hv2]
      rfl
  refine cond_of (fun e => key _ ?_) fun e => key _ ?_
  · have := eq_of_beq e; simp [this]
  · have e : F.h.Color ≠ 0 := by simpa using e
    simp [e]
end
end Go.Proofs.YtmagnpcgpinmcaaGreat

set_option linter.unusedVariables false
namespace Go.Proofs.YtmagnpcgpinmcaaGreat
open Go.Vc
set_option maxRecDepth 400000
theorem flatMap_split {α β : Type} (f : α → List β) : ∀ (ps : List α) (L R : List β) (r : β), ps.flatMap f = L ++ r :: R → ∃ (ps1 : List α) (p : α) (ps2 : List α) (A B : List β), ps = ps1 ++ p :: ps2 ∧ f p = A ++ r :: B ∧ L = ps1.flatMap f ++ A
  | [], L, R, r, h => by simp at h
  | p :: ps, L, R, r, h => by
    rw [List.flatMap_cons] at h
    rcases List.append_eq_append_iff.1 h with ⟨a', e1, e2⟩ | ⟨c', e1, e2⟩
    · obtain ⟨ps1, q, ps2, A, B, h1, h2, h3⟩ := flatMap_split f ps a' R r e2
      exact ⟨p :: ps1, q, ps2, A, B, by rw [h1]; rfl, h2, by rw [e1, h3, List.flatMap_cons, List.append_assoc]⟩
    · cases c' with
      | nil =>
        obtain ⟨ps1, q, ps2, A, B, h1, h2, h3⟩ := flatMap_split f ps [] R r (by simpa using e2.symm)
        refine ⟨p :: ps1, q, ps2, A, B, by rw [h1]; rfl, h2, ?_⟩
        rw [List.append_nil] at e1
        rw [← e1, List.flatMap_cons, List.append_assoc, ← h3, List.append_nil]
      | cons x c' =>
        injection e2 with e2 e3
        subst e2
        exact ⟨[], p, ps, L, c', rfl, e1, rfl⟩
structure RowAt (h : T_png_Head) (W H : Nat) (L : List (PassP × Nat × Nat)) (r : PassP × Nat × Nat) : Prop where
  mem : r.1 ∈ passesP h.Lace
  w : r.2.2 = (sizeP r.1 W H).1
  y : r.2.1 < (sizeP r.1 W H).2
  last : r.2.1 = 0 ∨ ∃ L', L = L' ++ [(r.1, r.2.1 - 1, r.2.2)]
theorem rowsL_split {h : T_png_Head} {W H : Nat} (ho : HeadOk h W H) {L R : List (PassP × Nat × Nat)} {r : PassP × Nat × Nat} (hL : rowsL h = L ++ r :: R) : RowAt h W H L r := by
  unfold rowsL at hL
  rw [ho.wn, ho.hn] at hL
  obtain ⟨ps1, p, ps2, A, B, h1, h2, h3⟩ := flatMap_split _ _ _ _ _ hL
  have hAl : A.length < (sizeP p W H).2 := by
    rw [← rowsOf_length W H p, h2, List.length_append, List.length_cons]
    omega
  have hr : r = (p, A.length, (sizeP p W H).1) := by
    have e := rowsOf_split W H p hAl
    rw [h2] at e
    have hl1 : A.length = ((A ++ r :: B).take A.length).length := by simp
    have := (List.append_inj e hl1).2
    injection this
  refine ⟨by rw [hr, h1]; simp, by rw [hr], by rw [hr]; exact hAl, ?_⟩
  rw [hr]
  by_cases h0 : A.length = 0
  · exact .inl h0
  · right
    have hA : A = (rowsOf W H p).take A.length := by rw [h2]; simp
    have e := rowsOf_take_succ W H p (y := A.length - 1) (by omega)
    rw [show A.length - 1 + 1 = A.length by omega, ← hA] at e
    refine ⟨ps1.flatMap (rowsOf W H) ++ (rowsOf W H p).take (A.length - 1), ?_⟩
    rw [h3]
    conv => lhs; rw [e]
    rw [List.append_assoc]
theorem rowsRun_append (F : FilL) : ∀ (a b : List (PassP × Nat × Nat)) (s : PxS), rowsRun F (a ++ b) s = match rowsRun F a s with | none => none | some s' => rowsRun F b s'
  | [], b, s => rfl
  | r :: a, b, s => by
    rw [List.cons_append, rowsRun, rowsRun]
    cases rowStep F r s with
    | none => rfl
    | some s' => exact rowsRun_append F a b s'
theorem rowsRun_snoc {F : FilL} {a : List (PassP × Nat × Nat)} {s s' s2 : PxS} {r : PassP × Nat × Nat} (h : rowsRun F a s = some s') (h2 : rowStep F r s' = some s2) : rowsRun F (a ++ [r]) s = some s2 := by
  rw [rowsRun_append, h]
  simp only [rowsRun, h2]
theorem rowsRun_bad {F : FilL} {a b : List (PassP × Nat × Nat)} {s s' : PxS} {r : PassP × Nat × Nat} (h : rowsRun F a s = some s') (h2 : rowStep F r s' = none) : rowsRun F (a ++ r :: b) s = none := by
  rw [rowsRun_append, h]
  simp only [rowsRun, h2]
theorem putRow_none {F : FilL} {p : PassP} {y : Nat} {ss : List Nat} {m : List UInt8} {i n : Nat} (h : putRow F p y ss i m = none) (hin : i ≤ n) : putRow F p y ss n m = none := by
  induction n with
  | zero => have : i = 0 := by omega
            subst this; exact h
  | succ n ih =>
    by_cases e : i = n + 1
    · subst e; exact h
    · rw [putRow, ih (by omega)]
theorem rowStep_b {F : FilL} {r : PassP × Nat × Nat} {s s' : PxS} (h : rowStep F r s = some s') : s'.b = s.b.drop (1 + rowB F.h r.2.2) ∧ s'.ahead.length = min (rowB F.h r.2.2) (s.b.length - 1) := by
  unfold rowStep at h
  split at h
  · cases h
  · rename_i k b hb
    split at h
    · cases h
    · obtain ⟨m, hm, e⟩ := Option.map_eq_some_iff.1 h
      subst e
      rw [hb]
      refine ⟨?_, ?_⟩
      · rw [Nat.add_comm, List.drop_succ_cons]
      · rw [undoP_length, List.length_take, List.length_cons]
        simp
theorem rowsRun_b {F : FilL} : ∀ (L : List (PassP × Nat × Nat)) (s s' : PxS), rowsRun F L s = some s' → s'.b = s.b.drop (needL F.h L)
  | [], s, s', h => by cases h; simp [needL]
  | r :: L, s, s', h => by
    rw [rowsRun] at h
    cases h1 : rowStep F r s with
    | none => rw [h1] at h; cases h
    | some s1 =>
      rw [h1] at h
      have := rowsRun_b L s1 s' h
      rw [this, (rowStep_b h1).1, List.drop_drop]
      rfl
theorem needL_append (h : T_png_Head) (a b : List (PassP × Nat × Nat)) : needL h (a ++ b) = needL h a + needL h b := by simp [needL]
/-- Of a row that is not a pass's first the one ahead is as long. -/
theorem ahead_len {F : FilL} {W H : Nat} (ho : HeadOk F.h W H) {L R : List (PassP × Nat × Nat)} {r : PassP × Nat × Nat} (hL : rowsL F.h = L ++ r :: R) {s0 s : PxS} (hs : rowsRun F L s0 = some s) (hn : needP F.h ≤ s0.b.length) :
    aheadOf r.2.1 s.ahead = [] ∨ (aheadOf r.2.1 s.ahead).length = rowB F.h r.2.2 := by
  unfold aheadOf
  by_cases h0 : r.2.1 = 0
  · rw [if_pos h0]; exact .inl rfl
  rw [if_neg h0]
  right
  rcases (rowsL_split ho hL).last with h | ⟨L', hL'⟩
  · exact absurd h h0
  subst hL'
  rw [rowsRun_append] at hs
  cases h1 : rowsRun F L' s0 with
  | none => rw [h1] at hs; cases hs
  | some s1 =>
    rw [h1] at hs
    simp only [rowsRun] at hs
    cases h2 : rowStep F (r.1, r.2.1 - 1, r.2.2) s1 with
    | none => rw [h2] at hs; cases hs
    | some s2 =>
      rw [h2] at hs
      cases hs
      have e : s.ahead.length = min (rowB F.h r.2.2) (s1.b.length - 1) := (rowStep_b h2).2
      have hb := rowsRun_b L' s0 s1 h1
      have hneed : needP F.h = needL F.h L' + (1 + rowB F.h r.2.2) + needL F.h (r :: R) := by
        show needL F.h (rowsL F.h) = _
        rw [hL, needL_append, needL_append]
        simp [needL]
      rw [e, hb, List.length_drop]
      omega
theorem need_room {F : FilL} {L R : List (PassP × Nat × Nat)} {r : PassP × Nat × Nat} (hL : rowsL F.h = L ++ r :: R) {s0 s : PxS} (hs : rowsRun F L s0 = some s) (hn : needP F.h ≤ s0.b.length) : 1 + rowB F.h r.2.2 ≤ s.b.length := by
  have hb := rowsRun_b L s0 s hs
  have hneed : needP F.h = needL F.h L + (1 + rowB F.h r.2.2) + needL F.h R := by
    show needL F.h (rowsL F.h) = _
    rw [hL, needL_append]
    simp [needL]
    omega
  rw [hb, List.length_drop]
  omega
theorem pix_room {W H : Nat} {p : PassP} {y x : Nat} (hx : x < (sizeP p W H).1) (hy : y < (sizeP p W H).2) : pixAt W p y x + 4 ≤ 4 * W * H ∧ p.x + x * p.dx < W ∧ p.y + y * p.dy < H := by
  unfold sizeP at hx hy
  split at hx
  · exact absurd hx (by simp)
  · rename_i hn
    rw [if_neg hn] at hy
    dsimp only at hx hy
    have h1 : x * p.dx ≤ W - p.x - 1 := by
      have : x ≤ (W - p.x - 1) / p.dx := by omega
      exact Nat.le_trans (Nat.mul_le_mul_right _ this) (Nat.div_mul_le_self _ _)
    have h2 : y * p.dy ≤ H - p.y - 1 := by
      have : y ≤ (H - p.y - 1) / p.dy := by omega
      exact Nat.le_trans (Nat.mul_le_mul_right _ this) (Nat.div_mul_le_self _ _)
    have hX : p.x + x * p.dx < W := by omega
    have hY : p.y + y * p.dy < H := by omega
    refine ⟨?_, hX, hY⟩
    unfold pixAt
    have h3 : (p.y + y * p.dy + 1) * W ≤ H * W := Nat.mul_le_mul_right _ hY
    rw [Nat.add_mul, Nat.one_mul] at h3
    have h4 : 4 * W * H = 4 * (H * W) := by rw [Nat.mul_assoc, Nat.mul_comm W H]
    rw [h4]
    generalize (p.y + y * p.dy) * W = Q at h3 ⊢
    generalize H * W = T at h3 ⊢
    generalize x * p.dx = V at hX ⊢
    omega
theorem sampleN_lt (row : List UInt8) (d i : Nat) : sampleN row d i < 2 ^ d := by
  unfold sampleN
  split
  · rename_i h
    subst h
    have h1 := (row[2 * i]?.getD 0).toNat_lt
    have h2 := (row[2 * i + 1]?.getD 0).toNat_lt
    omega
  · exact Nat.mod_lt _ (Nat.pow_pos (by decide))
theorem samplesP_lt {row : List UInt8} {d n : Nat} : ∀ v ∈ samplesP row d n, v < 2 ^ d := by
  intro v hv
  unfold samplesP at hv
  obtain ⟨i, _, rfl⟩ := List.mem_map.1 hv
  exact sampleN_lt _ _ _
theorem samplesP_length (row : List UInt8) (d n : Nat) : (samplesP row d n).length = n := by simp [samplesP]
theorem samplesOf_pos {h : T_png_Head} (hc : ColOk h) : 1 ≤ samplesOf h.Color ∧ samplesOf h.Color ≤ 4 := by
  unfold samplesOf
  rcases hc.c with e | e | e | e | e <;> rw [e] <;> decide
theorem rowB_bits {h : T_png_Head} (hc : ColOk h) {w : Nat} (h1 : 1 ≤ w) (h2 : w ≤ 16384) : samplesOf h.Color * w * h.Depth.toNat ≤ 8 * rowB h w := by
  have hs := samplesOf_pos hc
  have hd : isDepthP h.Depth = true := by
    unfold isDepthP
    rcases hc.d with e | e | e | e | e <;> rw [e] <;> rfl
  have hdn : h.Depth = (h.Depth.toNat : Int) := by have := hc.d; omega
  unfold rowB rowP
  rw [if_neg (by rw [hd]; simp; omega)]
  have e : (w : Int) * (samplesOf h.Color : Int) * h.Depth = ((samplesOf h.Color * w * h.Depth.toNat : Nat) : Int) := by
    rw [hdn]
    simp only [Int.toNat_natCast, Int.natCast_mul]
    rw [Int.mul_comm (w : Int)]
  rw [e]
  omega
theorem stepN_ok {h : T_png_Head} (hc : ColOk h) : 1 ≤ pStepN h ∧ pStepN h ≤ 8 := by
  have hs := samplesOf_pos hc
  have hd : 1 ≤ h.Depth.toNat ∧ h.Depth.toNat ≤ 16 := by have := hc.d; omega
  unfold pStepN
  have h1 : 1 * 1 ≤ samplesOf h.Color * h.Depth.toNat := Nat.mul_le_mul hs.1 hd.1
  have h2 : samplesOf h.Color * h.Depth.toNat ≤ 4 * 16 := Nat.mul_le_mul hs.2 hd.2
  omega
theorem sizeP_pos {p : PassP} {W H y : Nat} (hy : y < (sizeP p W H).2) : 1 ≤ (sizeP p W H).1 := by
  unfold sizeP at hy ⊢
  split
  · rename_i h; rw [if_pos h] at hy; exact absurd hy (by simp)
  · exact Nat.le_add_left 1 _
end Go.Proofs.YtmagnpcgpinmcaaGreat

set_option linter.unusedVariables false
namespace Go.Proofs.YtmagnpcgpinmcaaGreat
open Go.Vc Go.RowKit
set_option maxRecDepth 400000
/-- The pixels' variables. -/
structure PxI (w0 : World) (g : Nat) (F : FilL) (W H : Nat) (bn bf ba bb bs bm gm : Nat) (tm : Slc) (S : PxS) (w1 : World) : Prop where
  n : Blk w1 bn ty_int [.int .i64 ((samplesOf F.h.Color : Nat) : Int)]
  f : Blk w1 bf ty_p_png_file [.pointer (some ⟨g, 0, none⟩)]
  st : Blk w1 bs ty_int [.int .i64 ((pStepN F.h : Nat) : Int)]
  m : Blk w1 bm ty_api_Matrix (T_api_Matrix.rep.cells ⟨W, H, tm⟩)
  ah : ∃ sa : Slc, Blk w1 ba ty_sl_uint8 [.slice sa.a sa.n sa.c] ∧ Go.Vc.Own E_uint8 w1 w0.heap.size sa S.ahead ∧ (∀ k, sa.blk = some k → k ≠ gm)
  b : ∃ sb : Slc, Blk w1 bb ty_sl_uint8 [.slice sb.a sb.n sb.c] ∧ Rd E_uint8 w0 sb S.b
  row : Go.Vc.Own E_uint8 w1 w0.heap.size tm S.m
  B : Below w0.heap.size w0 w1
structure PxC (w0 : World) (bn bf ba bb bs bm gm : Nat) (tm : Slc) : Prop where
  ab : ba ≠ bb
  ns : bn ≠ bs
  al : w0.heap.size ≤ ba
  bl : w0.heap.size ≤ bb
  gl : w0.heap.size ≤ gm
  tm : tm.a = some ⟨gm, 0, none⟩
section
variable {w0 : World} {g b : Nat} {F : FilL} {p t d : Slc} {W H bn bf ba bb bs bm gm : Nat} {tm : Slc} {S : PxS}
theorem PxI.ext {w1 w2 : World} (h : PxI w0 g F W H bn bf ba bb bs bm gm tm S w1) (hB : Below w1.heap.size w1 w2) : PxI w0 g F W H bn bf ba bb bs bm gm tm S w2 := by
  obtain ⟨h1, h2, h3, h4, ⟨sa, h5, h6, h7⟩, ⟨sb, h8, h9⟩, h10, h11⟩ := h
  exact ⟨h1.ext hB, h2.ext hB, h3.ext hB, h4.ext hB, ⟨sa, h5.ext hB, h6.ext hB, h7⟩, ⟨sb, h8.ext hB, h9⟩, h10.ext hB, below_t h11 hB⟩
/-- A box of the file's type is laid apart. -/
theorem at_cell {w : World} {bx t : Nat} {v : Value} (h : Blk w bx t [v]) : w.cell? ⟨bx, 0, none⟩ = some v := h.cell 0 rfl
theorem pixels1_spec (hF : FilA w0 g b F p t d) (ho : FilOk F) (hh : HeadOk F.h W H) (hpl : F.pal.length ≤ 1000000) (htl : F.tr.length ≤ 1000000) (hc : PxC w0 bn bf ba bb bs bm gm tm) {x0 : PxS} {L R : List (PassP × Nat × Nat)} {r : PassP × Nat × Nat} (hL : rowsL F.h = L ++ r :: R) (hx0 : needP F.h ≤ x0.b.length) (hx0l : x0.b.length ≤ 1000000000) (hS : rowsRun F L x0 = some S)
    (hml : S.m.length = 4 * W * H) {w1 : World} (hI : PxI w0 g F W H bn bf ba bb bs bm gm tm S w1) {J : Bool → World → Prop}
    (hJ1 : ∀ S' w2, rowStep F r S = some S' → S'.m.length = 4 * W * H → PxI w0 g F W H bn bf ba bb bs bm gm tm S' w2 → Chg (fun k => k = ba ∨ k = bb ∨ k = gm) w1 w2 → J true w2) (hJ0 : ∀ w2, rowStep F r S = none → Chg (fun k => k = ba ∨ k = bb ∨ k = gm) w1 w2 → J false w2) :
    c_png_file_pixels_1 (passT r.1) (r.2.1 : Int) (r.2.2 : Int) ⟨bn, 0, none⟩ ⟨bf, 0, none⟩ ⟨ba, 0, none⟩ ⟨bb, 0, none⟩ ⟨bs, 0, none⟩ ⟨bm, 0, none⟩ w1 J := by
  obtain ⟨_, hco⟩ := checkP_ok ho.hd
  have hra := rowsL_split hh hL
  have hroom := need_room hL hS hx0
  have hal := ahead_len hh hL hS hx0
  have hSb := rowsRun_b L x0 S hS
  have hSbl : S.b.length ≤ 1000000000 := by rw [hSb, List.length_drop]; omega
  have hw1 : 1 ≤ r.2.2 := by rw [hra.w]; exact sizeP_pos hra.y
  have hw2 : r.2.2 ≤ 16384 := by rw [hra.w]; have := (sizeP_le r.1 W H).1; have := hh.w2; omega
  have hdx := passes_dx F.h.Lace r.1 hra.mem
  have hW2 := hh.w2
  have hH2 := hh.h2
  have hyH : r.2.1 < 16384 := by have := hra.y; have := (sizeP_le r.1 W H).2; omega
  have hsm := samplesOf_pos hco
  have hbits := rowB_bits hco hw1 hw2
  have hstep := stepN_ok hco
  have hrowb : rowB F.h r.2.2 ≤ 131072 := rowP_le _ _ _
  obtain ⟨cs, hcs⟩ : ∃ cs, cs = samplesOf F.h.Color := ⟨_, rfl⟩
  obtain ⟨sz, hsz⟩ : ∃ sz, sz = rowB F.h r.2.2 := ⟨_, rfl⟩
  have hrP : rowP (r.2.2 : Int) ((samplesOf F.h.Color : Nat) : Int) F.h.Depth = sz := hsz.symm
  rw [← hsz] at hroom hal hbits hrowb
  obtain ⟨hn, hf, hst, hm, ⟨sa, hba, hsa, hsag⟩, ⟨sb, hbb, hsb⟩, hrow, hB01⟩ := hI
  refine call_png_file_pixels_1 _ _ _ _ _ _ _ _ _ ?_
  unfold sh_png_file_pixels_1
  refine nw_blk fun w2 hp2 hB2 hs2 => ?_
  have hBd := below_t hB2 (below_drew w2)
  have hF2 := hF.ext (below_t hB01 hBd)
  refine ldI_of (x := ((samplesOf F.h.Color : Nat) : Int)) (at_cell (hn.ext hBd)) (ldP_of (x := some ⟨g, 0, none⟩) (at_cell (hf.ext hBd)) ?_)
  simp only [onPtr_some]
  refine ldI_of (x := F.h.Depth) (by rw [add_zero]; exact hF2.blk.cells 2 _ rfl) (Row_spec ?_)
  rw [hrP]
  have e1 : IntKind.i64.wrap ((1 : Int) + (sz : Int)) = ((1 + sz : Nat) : Int) := by rw [wrap64_id (by omega)]; simp
  rw [e1]
  have hgF : g < w0.heap.size := hF.blk.lt
  have hs01 := hB01.size
  refine joinP_of fun J1 hJ1' => ?_
  -- what J1 asks
  have main : ∀ (sa' : Slc) w3, Blk w3 ba ty_sl_uint8 [.slice sa'.a sa'.n sa'.c] → Go.Vc.Own E_uint8 w3 w0.heap.size sa' (aheadOf r.2.1 S.ahead) → Chg (fun k => k = ba) w1 w3 → Blk w3 w1.heap.size ty_filter_Pass (T_phosphorref8_Pass.rep.cells (passT r.1)) → J1 () w3 := by
    intro sa' w3 hba3 hsa3 hc3 hp3
    refine hJ1' _ _ ?_
    have hn3 : Blk w3 bn ty_int _ := hn.chg hc3 fun e => by subst e; exact hn.ne_t hba (by decide) rfl
    have hf3 : Blk w3 bf ty_p_png_file _ := hf.chg hc3 fun e => by subst e; exact hf.ne_t hba (by decide) rfl
    have hst3 : Blk w3 bs ty_int _ := hst.chg hc3 fun e => by subst e; exact hst.ne_t hba (by decide) rfl
    have hm3 : Blk w3 bm ty_api_Matrix _ := hm.chg hc3 fun e => by subst e; exact hm.ne_t hba (by decide) rfl
    have hbb3 : Blk w3 bb ty_sl_uint8 _ := hbb.chg hc3 fun e => hc.ab e.symm
    have hrow3 := hrow.chg hc3 fun k hk => own_ne_blk hrow hba (by decide) k hk
    have hB03 : Below w0.heap.size w0 w3 := below_one hB01 hc3 hc.al
    have hBd3 := below_drew w3
    have hB03d := below_t hB03 hBd3
    have hbb3d := hbb3.ext hBd3
    have hsbd := hsb.ext hB03d
    obtain ⟨k0, bt, hSbe⟩ : ∃ k0 bt, S.b = k0 :: bt := by
      match hb : S.b, hroom with
      | [], h => simp at h
      | k0 :: bt, _ => exact ⟨k0, bt, rfl⟩
    have hbtl : sz ≤ bt.length := by rw [hSbe, List.length_cons] at hroom; omega
    have hSl : S.b.length = bt.length + 1 := by rw [hSbe]; rfl
    refine ldSl_of (x := sb) (at_cell hbb3d) ?_
    refine hsbd.ix (i := 0) rfl (by omega) (by omega) fun _ => ?_
    refine ldI_of (x := (k0.toNat : Int)) (rdcell (i := 0) hsbd (by rw [hSbe]; rfl)) ?_
    refine ldSl_of (x := sb) (at_cell hbb3d) ?_
    refine hsbd.slK (l := 1) (m := 1 + sz) rfl (.inr rfl) (.inr rfl) (by omega) (by omega) fun hpart => ?_
    have hpe : (S.b.take (1 + sz)).drop 1 = bt.take sz := by rw [hSbe, Nat.add_comm 1 sz, List.take_succ_cons]; rfl
    rw [hpe] at hpart
    refine ldSl_of (x := sa') (at_cell (hba3.ext hBd3)) (ldI_of (x := ((pStepN F.h : Nat) : Int)) (at_cell (hst3.ext hBd3)) ?_)
    rw [w8]
    have hsa3d := hsa3.ext hBd3
    have hstepE : rowStep F r S = if k0.toNat > 4 then none else (putRow F r.1 r.2.1 (samplesP (undoP k0.toNat (bt.take sz) (aheadOf r.2.1 S.ahead) (pStepN F.h)) F.h.Depth.toNat (samplesOf F.h.Color * r.2.2)) r.2.2 S.m).map fun m => ⟨bt.drop sz, undoP k0.toNat (bt.take sz) (aheadOf r.2.1 S.ahead) (pStepN F.h), m⟩ := by
      unfold rowStep
      rw [hSbe, hsz]
    have htkl : (bt.take sz).length = sz := by rw [List.length_take]; omega
    refine Undo_spec hpart hsa3d.rd hstep.1 hstep.2 (by rw [htkl]; exact hal) (by omega) (fun h4 => ?_) (fun h4 rw_ w4 hrw hB4 => ?_)
    · refine cond_t (by decide) (hJ0 _ ?_ ?_)
      · rw [hstepE, if_pos h4]
      · exact (hc3.trans (Chg.of_ext (S := fun k => k = ba) hBd3) fun i _ hi => hi).mono fun i _ hi => .inl hi
    rw [if_neg (by omega)] at hstepE
    refine cond_f rfl ?_
    obtain ⟨rl, hrl⟩ : ∃ rl, rl = undoP k0.toNat (bt.take sz) (aheadOf r.2.1 S.ahead) (pStepN F.h) := ⟨_, rfl⟩
    rw [← hrl] at hstepE hrw
    have hrll : rl.length = sz := by rw [hrl, undoP_length, htkl]
    have hBd4 := below_t hBd3 hB4
    have hbb4 := hbb3.ext hBd4
    have hB04 := below_t hB03 hBd4
    have hsb4 := hsb.ext hB04
    refine ldSl_of (x := sb) (at_cell hbb4) ?_
    refine hsb4.slK (l := 1 + sz) (m := S.b.length) rfl (.inr rfl) (.inl ⟨rfl, rfl⟩) (by omega) (by omega) fun _ => ?_
    have hsb' := hsb.part (l := 1 + sz) (m := S.b.length) (by omega) (by omega)
    rw [List.take_length] at hsb'
    have hde : S.b.drop (1 + sz) = bt.drop sz := by rw [hSbe, Nat.add_comm 1 sz, List.drop_succ_cons]
    rw [hde] at hsb'
    obtain ⟨sb2, hsb2⟩ : ∃ sb2 : Slc, sb2 = ⟨cut sb.a (1 + sz) sb.c E_uint8.k, S.b.length - (1 + sz), sb.c - (1 + sz)⟩ := ⟨_, rfl⟩
    rw [← hsb2] at hsb' ⊢
    refine all_of hbb4 rfl fun w5 hbb5 hc5 hs5 => ?_
    have hba5 := (hba3.ext hBd4).chg hc5 hc.ab
    refine all_of hba5 rfl fun w6 hba6 hc6 hs6 => ?_
    have hbb6 := hbb5.chg hc6 fun e => hc.ab e.symm
    have hrwg : ∀ k, rw_.blk = some k → w3.drew.heap.size ≤ k := fun k hk => (hrw.lt k hk).1
    have hsz3 : w3.drew.heap.size = w3.heap.size := rfl
    have hbal := hba3.lt
    have hbbl := hbb3.lt
    have hrw6 := (hrw.chg hc5 fun k hk e => by have := hrwg k hk; omega).chg hc6 fun k hk e => by have := hrwg k hk; omega
    have hc56 : Chg (fun k => k = ba ∨ k = bb) w3 w6 := ((Chg.of_ext (S := fun k => k = ba ∨ k = bb) hBd4).trans (hc5.mono fun i _ hi => .inr hi) fun i _ hi => hi).trans (hc6.mono fun i _ hi => .inl hi) fun i _ hi => hi
    have keep : ∀ {k tt : Nat} {cs : List Value}, tt ≠ ty_sl_uint8 → Blk w3 k tt cs → Blk w6 k tt cs := fun {k tt cs} hne hb => hb.chg hc56 fun e => by
      rcases e with e | e
      · subst e; exact hb.ne_t hba3 hne rfl
      · subst e; exact hb.ne_t hbb3 hne rfl
    have hn6 := keep (by decide) hn3
    have hf6 := keep (by decide) hf3
    have hst6 := keep (by decide) hst3
    have hm6 := keep (by decide) hm3
    have hp6 := keep (by decide) hp3
    have hrow6 := hrow3.chg hc56 fun k hk e => by
      rcases e with e | e
      · exact own_ne_blk hrow3 hba3 (by decide) k hk e
      · exact own_ne_blk hrow3 hbb3 (by decide) k hk e
    have hB06 : Below w0.heap.size w0 w6 := (hB03).trans (hc56.below (by have := hB03.size; omega) fun i hi e => by have := hc.al; have := hc.bl; omega)
    have hBd6 := below_drew w6
    have hB06d := below_t hB06 hBd6
    have hF6 := hF.ext hB06d
    refine ldP_of (x := some ⟨g, 0, none⟩) (at_cell (hf6.ext hBd6)) ?_
    simp only [onPtr_some]
    refine ldI_of (x := F.h.Depth) (by rw [add_zero]; exact hF6.blk.cells 2 _ rfl) (ldI_of (x := ((samplesOf F.h.Color : Nat) : Int)) (at_cell (hn6.ext hBd6)) ?_)
    have hnw : samplesOf F.h.Color * r.2.2 ≤ 4 * 16384 := Nat.mul_le_mul hsm.2 hw2
    have e2 : IntKind.i64.wrap (((samplesOf F.h.Color : Nat) : Int) * (r.2.2 : Int)) = ((samplesOf F.h.Color * r.2.2 : Nat) : Int) := by
      rw [show ((samplesOf F.h.Color : Nat) : Int) * (r.2.2 : Int) = ((samplesOf F.h.Color * r.2.2 : Nat) : Int) by simp, wrap64_id (by omega)]
    rw [e2]
    have hdn : F.h.Depth = ((F.h.Depth.toNat : Nat) : Int) := by have := hco.d; omega
    have hrw6d := hrw6.ext hBd6
    have hsam := FSamples_spec (w := w6.drew) (d := F.h.Depth.toNat) (n := samplesOf F.h.Color * r.2.2) hrw6d.rd (by have := hco.d; omega) (by rw [hrll]; exact hbits) (by omega)
      (K := fun t62 t62_1 w7 => loopP (σ := Int × Unit) (fun I2 s_1 w8 =>
         cond (decide (s_1.1 < (r.2.2 : Int)))
           (ldP (⟨bf, 0, none⟩ : Addr) w8.drew fun t70 =>
            ldI .i64 (⟨bn, 0, none⟩ : Addr) w8.drew fun t72 =>
            ldI .i64 (⟨bn, 0, none⟩ : Addr) w8.drew fun t75 =>
            ldI .i64 (⟨bn, 0, none⟩ : Addr) w8.drew fun t78 =>
            slK t62 (some (IntKind.i64.wrap (t72 * s_1.1))) (some (IntKind.i64.wrap ((IntKind.i64.wrap (t75 * s_1.1)) + t78))) 1 fun t80 =>
              (c_png_file_color t70 t80 w8.drew fun t81 t81_1 w9 =>
               nw ty_pixel_Color [(.int .u8 0), (.int .u8 0), (.int .u8 0), (.int .u8 0)] w9 fun c w10 =>
               World.cell? w10 (⟨bn, 0, none⟩ : Addr) = some (.int .i64 t78) ∧
               World.cell? w10 (⟨bn, 0, none⟩ : Addr) = some (.int .i64 t75) ∧
               World.cell? w10 (⟨bn, 0, none⟩ : Addr) = some (.int .i64 t72) ∧
               World.cell? w10 (⟨bf, 0, none⟩ : Addr) = some (.pointer t70) ∧
               stK c (T_pixel_Color.rep.cells t81) w10 fun w11 =>
               cond (!t81_1)
                 (J false w11)
                 (ldSl ((⟨bm, 0, none⟩ : Addr).add 2) w11.drew fun t87 =>
                  ldI .i64 ((⟨w1.heap.size, 0, none⟩ : Addr).add 1) w11.drew fun t89 =>
                  ldI .i64 ((⟨w1.heap.size, 0, none⟩ : Addr).add 3) w11.drew fun t92 =>
                  ldP (⟨bf, 0, none⟩ : Addr) w11.drew fun t95 =>
                  onPtr t95 fun t96 =>
                  ldI .i64 ((t96.add 0).add 0) w11.drew fun t99 =>
                  ldI .i64 ((⟨w1.heap.size, 0, none⟩ : Addr).add 0) w11.drew fun t102 =>
                  ldI .i64 ((⟨w1.heap.size, 0, none⟩ : Addr).add 2) w11.drew fun t106 =>
                  slK t87 (some (IntKind.i64.wrap ((4 : Int) * (IntKind.i64.wrap ((IntKind.i64.wrap ((IntKind.i64.wrap ((IntKind.i64.wrap (t89 + (IntKind.i64.wrap ((r.2.1 : Int) * t92)))) * t99)) + t102)) + (IntKind.i64.wrap (s_1.1 * t106))))))) none 1 fun t110 =>
                  slA c 4 none none 1 fun t111 =>
                  runK1 PG (Builtin.copy_ #[ty_sl_uint8, ty_sl_uint8] ty_int #[(.slice t110.a t110.n t110.c), (.slice t111.a t111.n t111.c)]) (Kind.int .i64) w11.drew fun (t112 : Int) w12 =>
                  I2 ((IntKind.i64.wrap (s_1.1 + (1 : Int))), ()) w12)) ∧
            nw ty_pixel_Color [(.int .u8 0), (.int .u8 0), (.int .u8 0), (.int .u8 0)] w8.drew fun c_1 w13 =>
            World.cell? w13 (⟨bn, 0, none⟩ : Addr) = some (.int .i64 t78) ∧
            World.cell? w13 (⟨bn, 0, none⟩ : Addr) = some (.int .i64 t75) ∧
            World.cell? w13 (⟨bn, 0, none⟩ : Addr) = some (.int .i64 t72) ∧
            World.cell? w13 (⟨bf, 0, none⟩ : Addr) = some (.pointer t70) ∧
            c_png_file_color t70 t80 w13 fun t81_2 t81_3 w14 =>
            stK c_1 (T_pixel_Color.rep.cells t81_2) w14 fun w15 =>
            cond (!t81_3)
              (J false w15)
              (ldSl ((⟨bm, 0, none⟩ : Addr).add 2) w15.drew fun t87_1 =>
               ldI .i64 ((⟨w1.heap.size, 0, none⟩ : Addr).add 1) w15.drew fun t89_1 =>
               ldI .i64 ((⟨w1.heap.size, 0, none⟩ : Addr).add 3) w15.drew fun t92_1 =>
               ldP (⟨bf, 0, none⟩ : Addr) w15.drew fun t95_1 =>
               onPtr t95_1 fun t96_1 =>
               ldI .i64 ((t96_1.add 0).add 0) w15.drew fun t99_1 =>
               ldI .i64 ((⟨w1.heap.size, 0, none⟩ : Addr).add 0) w15.drew fun t102_1 =>
               ldI .i64 ((⟨w1.heap.size, 0, none⟩ : Addr).add 2) w15.drew fun t106_1 =>
               slK t87_1 (some (IntKind.i64.wrap ((4 : Int) * (IntKind.i64.wrap ((IntKind.i64.wrap ((IntKind.i64.wrap ((IntKind.i64.wrap (t89_1 + (IntKind.i64.wrap ((r.2.1 : Int) * t92_1)))) * t99_1)) + t102_1)) + (IntKind.i64.wrap (s_1.1 * t106_1))))))) none 1 fun t110_1 =>
               slA c_1 4 none none 1 fun t111_1 =>
               runK1 PG (Builtin.copy_ #[ty_sl_uint8, ty_sl_uint8] ty_int #[(.slice t110_1.a t110_1.n t110_1.c), (.slice t111_1.a t111_1.n t111_1.c)]) (Kind.int .i64) w15.drew fun (t112_1 : Int) w16 =>
               I2 ((IntKind.i64.wrap (s_1.1 + (1 : Int))), ()) w16))
           (J true w8)) (0, ()) w7)
    rw [← hdn] at hsam
    refine hsam fun sp w7 hsp hB7 => ?_
    clear hsam
    obtain ⟨ss, hss⟩ : ∃ ss, ss = samplesP rl F.h.Depth.toNat (samplesOf F.h.Color * r.2.2) := ⟨_, rfl⟩
    rw [← hss] at hsp hstepE
    have hssl : ss.length = samplesOf F.h.Color * r.2.2 := by rw [hss, samplesP_length]
    have hssv : ∀ v ∈ ss, v < 2 ^ F.h.Depth.toNat := by rw [hss]; exact samplesP_lt
    have hB67 := below_t hBd6 hB7
    have hs67 := hB67.size
    have hrow7 := hrow6.ext hB67
    have hWn := hh.wn
    have hrooms : ∀ x, x < r.2.2 → pixAt W r.1 r.2.1 x + 4 ≤ 4 * W * H := fun x hx => (pix_room (by rw [hra.w] at hx; exact hx) hra.y).1
    have hWH : 4 * W * H ≤ 4 * 16384 * 16384 := Nat.mul_le_mul (Nat.mul_le_mul_left 4 hW2) hH2
    refine loopP_rule (fun (st : Int × Unit) w8 => ∃ (x : Nat) (m : List UInt8), st.1 = x ∧ x ≤ r.2.2 ∧ putRow F r.1 r.2.1 ss x S.m = some m ∧ m.length = 4 * W * H ∧ Go.Vc.Own E_uint8 w8 w0.heap.size tm m ∧ Chg (fun k => k = gm) w7 w8) (fun st => r.2.2 - st.1.toNat)
      ⟨0, S.m, rfl, by omega, rfl, hml, hrow7, Chg.refl _ _⟩ ?_
    rintro ⟨x, u⟩ w8 ⟨x, m, rfl, hx, hput, hmlen, hrow8, hc8⟩ I hIl
    dsimp only
    have hgm6 : gm < w6.heap.size := (hrow6.lt gm (by unfold Slc.blk; rw [hc.tm]; rfl)).2
    have keep8 : ∀ {k tt : Nat} {cs : List Value}, tt ≠ ty_uint8 → Blk w6 k tt cs → Blk w8 k tt cs := fun {k tt cs} hne hb => (hb.ext hB67).chg hc8 fun e => by
      subst e
      obtain ⟨cs', hcs'⟩ := hrow7.blk_t (g := k) (by unfold Slc.blk; rw [hc.tm]; rfl)
      exact (hb.ext hB67).ne_t hcs' hne rfl
    have hn8 := keep8 (by decide) hn6
    have hf8 := keep8 (by decide) hf6
    have hm8 := keep8 (by decide) hm6
    have hp8 := keep8 (by decide) hp6
    have hB08 : Below w0.heap.size w0 w8 := below_one (below_t hB06 hB67) hc8 hc.gl
    have hC38 : Chg (fun k => k = ba ∨ k = bb ∨ k = gm) w1 w8 := by
      refine (((hc3.mono fun i _ hi => (.inl hi : i = ba ∨ i = bb ∨ i = gm)).trans (hc56.mono fun i _ hi => (by rcases hi with h | h; exact .inl h; exact .inr (.inl h) : i = ba ∨ i = bb ∨ i = gm)) fun i _ hi => hi).trans (Chg.of_ext (S := fun k => k = ba ∨ k = bb ∨ k = gm) hB67) fun i _ hi => hi).trans (hc8.mono fun i _ hi => .inr (.inr hi)) fun i _ hi => hi
    refine cond_of (fun hlt => ?_) fun hge => ?_
    · have hlt := of_decide_eq_true hlt
      have hxl : x < r.2.2 := by omega
      have hBd8 := below_drew w8
      have hcx : samplesOf F.h.Color * x + samplesOf F.h.Color ≤ samplesOf F.h.Color * r.2.2 := by
        have := Nat.mul_le_mul_left (samplesOf F.h.Color) (show x + 1 ≤ r.2.2 from hxl)
        rw [Nat.mul_add, Nat.mul_one] at this
        exact this
      have ex : IntKind.i64.wrap (((samplesOf F.h.Color : Nat) : Int) * (x : Int)) = ((samplesOf F.h.Color * x : Nat) : Int) := by
        rw [show ((samplesOf F.h.Color : Nat) : Int) * (x : Int) = ((samplesOf F.h.Color * x : Nat) : Int) by simp, wrap64_id (by omega)]
      have ex2 : IntKind.i64.wrap (((samplesOf F.h.Color * x : Nat) : Int) + ((samplesOf F.h.Color : Nat) : Int)) = ((samplesOf F.h.Color * x + samplesOf F.h.Color : Nat) : Int) := by
        rw [wrap64_id (by omega)]; simp
      refine ldP_of (x := some ⟨g, 0, none⟩) (at_cell (hf8.ext hBd8)) (ldI_of (x := ((samplesOf F.h.Color : Nat) : Int)) (at_cell (hn8.ext hBd8)) (ldI_of (x := ((samplesOf F.h.Color : Nat) : Int)) (at_cell (hn8.ext hBd8)) (ldI_of (x := ((samplesOf F.h.Color : Nat) : Int)) (at_cell (hn8.ext hBd8)) ?_)))
      rw [ex, ex2]
      have hsp8 : Go.Vc.Own E_int w8 w6.drew.heap.size sp (intsN ss) := hsp.chg hc8 fun k hk e => by have := (hsp.lt k hk).1; have h6 : w6.drew.heap.size = w6.heap.size := rfl; omega
      refine hsp8.rd.slK (l := samplesOf F.h.Color * x) (m := samplesOf F.h.Color * x + samplesOf F.h.Color) rfl (.inr rfl) (.inr rfl) (by omega) (by rw [ints_length, hssl]; exact hcx) fun hpt => ?_
      obtain ⟨s4, hs4⟩ : ∃ s4, s4 = (ss.drop (samplesOf F.h.Color * x)).take (samplesOf F.h.Color) := ⟨_, rfl⟩
      have hpe4 : ((intsN ss).take (samplesOf F.h.Color * x + samplesOf F.h.Color)).drop (samplesOf F.h.Color * x) = intsN s4 := by
        rw [hs4, List.drop_take, Nat.add_sub_cancel_left]
        unfold intsN
        rw [List.map_take, List.map_drop]
      rw [hpe4] at hpt
      have hs4l : s4.length = samplesOf F.h.Color := by rw [hs4, List.length_take, List.length_drop, hssl]; omega
      have hs4v : ∀ v ∈ s4, v < 2 ^ F.h.Depth.toNat := fun v hv => hssv v (by rw [hs4] at hv; exact List.mem_of_mem_drop (List.mem_of_mem_take hv))
      have hputn : putRow F r.1 r.2.1 ss (x + 1) S.m = (colorP F s4).map (set4 m (pixAt W r.1 r.2.1 x)) := by
        rw [putRow, hput, hs4, hWn]
      have hbadp : colorP F s4 = none → rowStep F r S = none := fun hcn => by
        rw [hcn] at hputn
        rw [hstepE, putRow_none hputn (show x + 1 ≤ r.2.2 from hxl)]
        rfl
      have hF8 : ∀ {w'}, Below w8.heap.size w8 w' → FilA w' g b F p t d := fun hB => hF.ext (below_t hB08 hB)
      -- behind a colour
      have fin : ∀ (a b' c' d' : UInt8) (bc : Nat) w11, colorP F s4 = some [a, b', c', d'] → Blk w11 bc ty_pixel_Color (bcells [a, b', c', d']) → Below w8.heap.size w8 w11 →
          (ldSl ((⟨bm, 0, none⟩ : Addr).add 2) w11.drew fun t87 =>
                  ldI .i64 ((⟨w1.heap.size, 0, none⟩ : Addr).add 1) w11.drew fun t89 =>
                  ldI .i64 ((⟨w1.heap.size, 0, none⟩ : Addr).add 3) w11.drew fun t92 =>
                  ldP (⟨bf, 0, none⟩ : Addr) w11.drew fun t95 =>
                  onPtr t95 fun t96 =>
                  ldI .i64 ((t96.add 0).add 0) w11.drew fun t99 =>
                  ldI .i64 ((⟨w1.heap.size, 0, none⟩ : Addr).add 0) w11.drew fun t102 =>
                  ldI .i64 ((⟨w1.heap.size, 0, none⟩ : Addr).add 2) w11.drew fun t106 =>
                  slK t87 (some (IntKind.i64.wrap ((4 : Int) * (IntKind.i64.wrap ((IntKind.i64.wrap ((IntKind.i64.wrap ((IntKind.i64.wrap (t89 + (IntKind.i64.wrap ((r.2.1 : Int) * t92)))) * t99)) + t102)) + (IntKind.i64.wrap ((x : Int) * t106))))))) none 1 fun t110 =>
                  slA (⟨bc, 0, none⟩ : Addr) 4 none none 1 fun t111 =>
                  runK1 PG (Builtin.copy_ #[ty_sl_uint8, ty_sl_uint8] ty_int #[(.slice t110.a t110.n t110.c), (.slice t111.a t111.n t111.c)]) (Kind.int .i64) w11.drew fun (t112 : Int) w12 =>
                  I ((IntKind.i64.wrap ((x : Int) + (1 : Int))), ()) w12) := by
        intro a b' c' d' bc w11 hcol hbc hB11
        have hB11d := below_t hB11 (below_drew w11)
        have hm11 := hm8.ext hB11d
        have hp11 := hp8.ext hB11d
        have hF11 := hF8 hB11d
        have hrow11 := hrow8.ext hB11d
        refine ldSl_of (x := tm) (hm11.cells 2 _ rfl) ?_
        refine ldI_of (x := (r.1.y : Int)) (hp11.cells 1 _ rfl) (ldI_of (x := (r.1.dy : Int)) (hp11.cells 3 _ rfl) ?_)
        refine ldP_of (x := some ⟨g, 0, none⟩) (at_cell (hf8.ext hB11d)) ?_
        simp only [onPtr_some]
        refine ldI_of (x := (W : Int)) (by rw [add_zero, ← hh.w]; exact hF11.blk.cells 0 _ rfl) ?_
        refine ldI_of (x := (r.1.x : Int)) (hp11.cells 0 _ rfl) (ldI_of (x := (r.1.dx : Int)) (hp11.cells 2 _ rfl) ?_)
        have hroom := hrooms x hxl
        obtain ⟨hr1, hr2, hr3⟩ := pix_room (W := W) (H := H) (p := r.1) (y := r.2.1) (x := x) (by rw [← hra.w]; exact hxl) hra.y
        have eidx : IntKind.i64.wrap ((4 : Int) * (IntKind.i64.wrap ((IntKind.i64.wrap ((IntKind.i64.wrap ((IntKind.i64.wrap ((r.1.y : Int) + (IntKind.i64.wrap ((r.2.1 : Int) * (r.1.dy : Int))))) * (W : Int))) + (r.1.x : Int))) + (IntKind.i64.wrap ((x : Int) * (r.1.dx : Int)))))) = ((pixAt W r.1 r.2.1 x : Nat) : Int) := by
          unfold pixAt at hr1 ⊢
          have h1 : r.2.1 * r.1.dy ≤ 16384 := by omega
          have h2 : x * r.1.dx ≤ 16384 := by omega
          rw [show (r.2.1 : Int) * (r.1.dy : Int) = ((r.2.1 * r.1.dy : Nat) : Int) by simp, wrap64_id (x := ((r.2.1 * r.1.dy : Nat) : Int)) (by omega), show (x : Int) * (r.1.dx : Int) = ((x * r.1.dx : Nat) : Int) by simp, wrap64_id (x := ((x * r.1.dx : Nat) : Int)) (by omega),
            show (r.1.y : Int) + ((r.2.1 * r.1.dy : Nat) : Int) = ((r.1.y + r.2.1 * r.1.dy : Nat) : Int) by simp, wrap64_id (x := ((r.1.y + r.2.1 * r.1.dy : Nat) : Int)) (by omega), show ((r.1.y + r.2.1 * r.1.dy : Nat) : Int) * (W : Int) = (((r.1.y + r.2.1 * r.1.dy) * W : Nat) : Int) by simp]
          generalize (r.1.y + r.2.1 * r.1.dy) * W = q at hr1 ⊢
          generalize x * r.1.dx = v at hr1 h2 ⊢
          generalize 4 * W * H = T at hr1 hWH
          rw [wrap64_id (x := ((q : Nat) : Int)) (by omega), wrap64_id (x := ((q : Nat) : Int) + (r.1.x : Int)) (by omega), wrap64_id (x := ((q : Nat) : Int) + (r.1.x : Int) + ((v : Nat) : Int)) (by omega), wrap64_id (by omega)]
          omega
        rw [eidx]
        obtain ⟨k, hk⟩ : ∃ k, k = pixAt W r.1 r.2.1 x := ⟨_, rfl⟩
        rw [← hk] at hroom ⊢
        obtain ⟨cur, hcur, hcl, hct, hc1, hc2, hc3', hc4⟩ := own_cur (c := 0) hrow11 hc.tm
        refine hrow11.rd.slK (l := k) (m := m.length) rfl (.inr rfl) (.inl ⟨rfl, rfl⟩) (by omega) (by omega) fun _ => ?_
        have hcut : cut tm.a k tm.c E_uint8.k = some ⟨gm, k, none⟩ := by
          unfold cut
          rw [if_neg (by omega), hc.tm]
          show some ((⟨gm, 0, none⟩ : Addr).add (k * 1)) = _
          rw [add_mk, Nat.mul_one, Nat.zero_add]
        rw [hcut]
        have hrc : Rd E_uint8 w11.drew ⟨some ⟨bc, 0, none⟩, 4, 4⟩ [a, b', c', d'] := by
          refine ⟨rfl, Nat.le_refl _, by simp [maxLen], fun _ => rfl, fun i y hy => ?_⟩
          have hbc' := (hbc.ext (below_drew w11)).cells i (.int .u8 (y.toNat : Int)) (by unfold bcells; rw [List.getElem?_map, hy]; rfl)
          intro j v hj
          match j, hj with
          | 0, hj =>
            cases hj
            show w11.drew.cell? (((⟨bc, 0, none⟩ : Addr).add (i * 1)).add 0) = _
            rw [add_zero, Nat.mul_one]
            exact hbc'
          | j + 1, hj => simp [E_uint8] at hj
        show runK1 PG (Builtin.copy_ #[ty_sl_uint8, ty_sl_uint8] ty_int #[(.slice (some ⟨gm, k, none⟩) (m.length - k) (tm.c - k)), (.slice (some ((⟨bc, 0, none⟩ : Addr).add (0 * 1))) 4 4)]) (Kind.int .i64) w11.drew _
        rw [Nat.zero_mul, add_zero]
        refine copyB (x := ⟨some ⟨bc, 0, none⟩, 4, 4⟩) (n := 4) hcur hrc (by show 4 = min 4 (m.length - k); omega) (by omega) fun w12 hb12 hc12 hs12 => ?_
        have hrow12 := own_put (ys := [a, b', c', d']) (k := k) hrow11 hc.tm hcur (by show k + 4 ≤ m.length; omega) hb12
        rw [wrap64_id (by omega)]
        refine hIl _ _ ⟨x + 1, set4 m k [a, b', c', d'], rfl, by omega, ?_, ?_, hrow12, ?_⟩ (by simp; omega)
        · rw [hputn, hcol, ← hk]; rfl
        · unfold set4
          simp only [List.length_append, List.length_take, List.length_drop, List.length_cons, List.length_nil]
          omega
        · exact (hc8.trans (Chg.of_ext (S := fun k => k = gm) hB11d) fun i _ hi => hi).trans hc12 fun i _ hi => hi
      refine ⟨?_, ?_⟩
      · refine color_spec (hF8 hBd8) ho (hpt.ext hBd8) hs4l hs4v hpl htl (fun cx w9 hcn hB9 => ?_) (fun a b' c' d' w9 hcol hB9 => ?_)
        · refine nw_blk fun w10 h10 hB10 hs10 => ?_
          have hB810 := below_t (below_t hBd8 hB9) hB10
          refine ⟨at_cell (hn8.ext hB810), at_cell (hn8.ext hB810), at_cell (hn8.ext hB810), at_cell (hf8.ext hB810), ?_⟩
          refine all_of h10 rfl fun w11 h11 hc11 hs11 => ?_
          refine cond_t rfl (hJ0 _ (hbadp hcn) ?_)
          exact hC38.trans (Chg.of_ext (S := fun k => k = ba ∨ k = bb ∨ k = gm) (below_one hB810 hc11 (below_t hBd8 hB9).size)) fun i _ hi => hi
        · refine nw_blk fun w10 h10 hB10 hs10 => ?_
          have hB810 := below_t (below_t hBd8 hB9) hB10
          refine ⟨at_cell (hn8.ext hB810), at_cell (hn8.ext hB810), at_cell (hn8.ext hB810), at_cell (hf8.ext hB810), ?_⟩
          refine all_of h10 rfl fun w11 h11 hc11 hs11 => ?_
          exact cond_f rfl (fin a b' c' d' _ w11 hcol h11 (below_one hB810 hc11 (below_t hBd8 hB9).size))
      · refine nw_blk fun w13 h13 hB13 hs13 => ?_
        have hB813 := below_t hBd8 hB13
        refine ⟨at_cell (hn8.ext hB813), at_cell (hn8.ext hB813), at_cell (hn8.ext hB813), at_cell (hf8.ext hB813), ?_⟩
        refine color_spec (hF8 hB813) ho (hpt.ext hB813) hs4l hs4v hpl htl (fun cx w14 hcn hB14 => ?_) (fun a b' c' d' w14 hcol hB14 => ?_)
        · refine all_of (h13.ext hB14) rfl fun w15 h15 hc15 hs15 => ?_
          refine cond_t rfl (hJ0 _ (hbadp hcn) ?_)
          exact hC38.trans (Chg.of_ext (S := fun k => k = ba ∨ k = bb ∨ k = gm) (below_one (below_t hB813 hB14) hc15 hBd8.size)) fun i _ hi => hi
        · refine all_of (h13.ext hB14) rfl fun w15 h15 hc15 hs15 => ?_
          exact cond_f rfl (fin a b' c' d' _ w15 hcol h15 (below_one (below_t hB813 hB14) hc15 hBd8.size))
    · have hge := of_decide_eq_false hge
      obtain rfl : x = r.2.2 := by omega
      have hba8 := keep8 (by decide) hba6
      have hbb8 := keep8 (by decide) hbb6
      have hst8 := keep8 (by decide) hst6
      rw [hput] at hstepE
      refine hJ1 ⟨bt.drop sz, rl, m⟩ w8 hstepE hmlen ⟨hn8, hf8, hst8, hm8, ⟨rw_, hba8, ?_, ?_⟩, ⟨sb2, hbb8, hsb'⟩, hrow8, hB08⟩ hC38
      · refine ((hrw6.ext hB67).chg hc8 fun k hk e => ?_).base (by have := hB03.size; omega)
        have := hrwg k hk
        have h3g : gm < w3.heap.size := (hrow3.lt gm (by unfold Slc.blk; rw [hc.tm]; rfl)).2
        omega
      · intro k hk e
        have := hrwg k hk
        have h3g : gm < w3.heap.size := (hrow3.lt gm (by unfold Slc.blk; rw [hc.tm]; rfl)).2
        omega
  refine cond_of (fun e => ?_) fun e => ?_
  · have e0 : r.2.1 = 0 := by have := eq_of_beq e; omega
    refine all_of (hba.ext hBd) rfl fun w3 h3 hc3 hs3 => ?_
    have hsz2 : w2.drew.heap.size = w2.heap.size := rfl
    refine main ⟨none, 0, 0⟩ w3 h3 ?_ ((Chg.of_ext (S := fun k => k = ba) hBd).trans hc3 fun i _ hi => hi) ((hp2.ext (below_drew w2)).chg hc3 (by have := hba.lt; omega))
    unfold aheadOf
    rw [if_pos e0]
    exact Own.nil _ _ _
  · have e0 : r.2.1 ≠ 0 := fun h => by rw [h] at e; cases e
    refine main sa w2.drew (hba.ext hBd) ?_ (Chg.of_ext hBd) (hp2.ext (below_drew w2))
    unfold aheadOf
    rw [if_neg e0]
    exact hsa.ext hBd
end
end Go.Proofs.YtmagnpcgpinmcaaGreat

namespace Go.Proofs.YtmagnpcgpinmcaaGreat
open Go.Vc Go.RowKit
set_option maxRecDepth 400000
section
variable {w w' : World} {g : Nat} {s : Slc} {bs : List UInt8} {at_ : Nat}
end
section
variable {w : World} {base tg : Nat} {lo co : Slc} {ls : List UInt8}
end
end Go.Proofs.YtmagnpcgpinmcaaGreat

namespace Go.Proofs.YtmagnpcgpinmcaaGreat
open Go.Vc Go.RowKit
set_option maxRecDepth 400000
section
variable {w w' : World} {base g rg : Nat} {s out : Slc} {bs hist : List UInt8} {most at_ : Nat}
end
/-! ### What a part of the document's inflate comes to, by the machine -/
section
variable {w : World} {base g rg : Nat} {s out : Slc} {bs : List UInt8} {most at_ : Nat}
end
end Go.Proofs.YtmagnpcgpinmcaaGreat

namespace Go.Proofs.YtmagnpcgpinmcaaGreat
open Go.Vc Go.RowKit
set_option maxRecDepth 400000
section
variable {w w' : World} {base g rg : Nat} {s out out' : Slc} {bs hist ls : List UInt8} {most at_ : Nat} {t : Nat × Slc × Slc}
end
end Go.Proofs.YtmagnpcgpinmcaaGreat

namespace Go.Proofs.YtmagnpcgpinmcaaGreat
open Go.Vc Go.RowKit
set_option maxRecDepth 400000
section
variable {w w' : World} {base g rg : Nat} {s out : Slc} {bs hist ls : List UInt8} {most at_ B : Nat}
end
end Go.Proofs.YtmagnpcgpinmcaaGreat

namespace Go.Proofs.YtmagnpcgpinmcaaGreat
open Go.Vc Go.RowKit
set_option maxRecDepth 400000
section
variable {w w' : World} {base g rg : Nat} {s out : Slc} {bs : List UInt8} {most at_ : Nat}
end
end Go.Proofs.YtmagnpcgpinmcaaGreat

namespace Go.Proofs.YtmagnpcgpinmcaaGreat
open Go.Vc Go.RowKit
set_option maxRecDepth 400000
/-! ### Fixed -/
end Go.Proofs.YtmagnpcgpinmcaaGreat

namespace Go.Proofs.YtmagnpcgpinmcaaGreat
open Go.Vc Go.RowKit
set_option maxRecDepth 400000
section
variable {w w' : World} {base g rg : Nat} {s out : Slc} {bs : List UInt8} {most at_ : Nat}
end
end Go.Proofs.YtmagnpcgpinmcaaGreat

namespace Go.Proofs.YtmagnpcgpinmcaaGreat
open Go.Vc Go.RowKit
set_option maxRecDepth 400000
end Go.Proofs.YtmagnpcgpinmcaaGreat

namespace Go.Proofs.YtmagnpcgpinmcaaGreat
open Go.Vc Go.RowKit
set_option maxRecDepth 400000
section
variable {w : World}
/-- []byte of a constant. -/
theorem lits_bytes {vs : List Value} {n : Nat} {bs : List UInt8} {K : Slc → World → Prop} (hv : vs = bs.map fun b => Value.int .u8 (b.toNat : Int)) (hn : n = bs.length) (hl : bs.length ≤ 1000000)
    (hK : ∀ s w', Rd E_uint8 w' s bs → s.blk = some w.heap.size → Below w.heap.size w w' → w'.heap.size = w.heap.size + 1 → K s w') :
    nw ty_uint8 vs w fun t w1 => runK1 PG (convert ty_sl_uint8 ty_sl_uint8 (.slice (some t) n n)) Kind.slice w1 K := by
  subst hn hv
  refine ⟨⟨some ⟨w.heap.size, 0, none⟩, bs.length, bs.length⟩, _, Lib.run_convert_bytes_const w ty_sl_uint8 ty_uint8 _ _ _ (by kernel_rfl) (by kernel_rfl), hK _ _ ⟨rfl, Nat.le_refl _, by show bs.length ≤ maxLen; simp only [maxLen]; omega, fun _ => rfl, fun i x hx j v hj => ?_⟩ rfl ((Below.refl _ w).alloc (Nat.le_refl _) _) (by simp)⟩
  have hj0 : j = 0 := by
    have := (List.getElem?_eq_some_iff.1 hj).1
    simp [E_uint8] at this
    exact this
  subst hj0
  have hv : v = .int .u8 (x.toNat : Int) := by
    simp [E_uint8] at hj
    exact hj.symm
  subst hv
  have hi : i < bs.length := (List.getElem?_eq_some_iff.1 hx).1
  show World.cell? _ (((⟨w.heap.size, 0, none⟩ : Addr).add (i * 1)).add 0) = _
  rw [add_zero, add_mk, Nat.mul_one, Nat.zero_add]
  have hnew : ∀ o : Obj, (w.alloc o).heap[w.heap.size]? = some o := fun o => by
    show (w.heap.push o)[w.heap.size]? = _
    simp
  unfold World.cell?
  dsimp only
  rw [hnew]
  show (bs.map fun b => Value.int .u8 (b.toNat : Int)).toArray[i]? = _
  rw [List.getElem?_toArray, List.getElem?_map, hx]
  rfl
end
end Go.Proofs.YtmagnpcgpinmcaaGreat

namespace Go.Proofs.YtmagnpcgpinmcaaGreat
open Go.Vc Go.RowKit
set_option maxRecDepth 400000
theorem run_stops (most : Nat) (B : List UInt8) : ∀ (n : Nat) (c : Cfg) (a : Nat), mu B c a ≤ n → a ≤ 8 * B.length → ∃ c1 a1 r, Ch most B c a c1 a1 ∧ step1 most B a1 c1 = r ∧ ∀ c a, r ≠ .next c a
  | n, c, a, hn, ha => by
    cases h : step1 most B a c with
    | short => exact ⟨c, a, _, .refl _ _, h, by intro _ _ e; cases e⟩
    | err m => exact ⟨c, a, _, .refl _ _, h, by intro _ _ e; cases e⟩
    | next c2 a2 =>
      obtain ⟨h1, h2, h3⟩ := step1_next h ha
      cases n with
      | zero => omega
      | succ n =>
        obtain ⟨c1, a1, r, hc, hs, hr⟩ := run_stops most B n c2 a2 (by omega) h1
        exact ⟨c1, a1, r, .step h hc, hs, hr⟩

section
variable {w : World}
end
end Go.Proofs.YtmagnpcgpinmcaaGreat

set_option linter.unusedVariables false
namespace Go.Proofs.YtmagnpcgpinmcaaGreat
open Go.Vc
set_option maxRecDepth 400000
theorem unpack_ex (most : Nat) (bs : List UInt8) : ∃ r : Cfg × Nat × SR, Ch most (bs.drop 2) cfg0 0 r.1 r.2.1 ∧ step1 most (bs.drop 2) r.2.1 r.1 = r.2.2 ∧ ∀ c a, r.2.2 ≠ .next c a := by
  obtain ⟨c1, a1, r0, h1, h2, h3⟩ := run_stops most (bs.drop 2) _ cfg0 0 (Nat.le_refl _) (Nat.zero_le _)
  exact ⟨(c1, a1, r0), h1, h2, h3⟩
noncomputable def unRun (most : Nat) (bs : List UInt8) : Cfg × Nat × SR := Classical.choose (unpack_ex most bs)
theorem unRun_spec (most : Nat) (bs : List UInt8) : Ch most (bs.drop 2) cfg0 0 (unRun most bs).1 (unRun most bs).2.1 ∧ step1 most (bs.drop 2) (unRun most bs).2.1 (unRun most bs).1 = (unRun most bs).2.2 ∧ ∀ c a, (unRun most bs).2.2 ≠ .next c a := Classical.choose_spec (unpack_ex most bs)
noncomputable def unErr (most : Nat) (bs : List UInt8) : Nat := zerr bs (unRun most bs).1 (unRun most bs).2.1 (unRun most bs).2.2
noncomputable def unOut (most : Nat) (bs : List UInt8) : List UInt8 := (unRun most bs).1.hist
noncomputable def unUsed (most : Nat) (bs : List UInt8) : Nat := 6 + ((unRun most bs).2.1 + 7) / 8
noncomputable def decF (F : FilL) : Nat × Nat × Nat × List UInt8 :=
  if unErr (needP F.h) F.data ≠ 0 then (unErr (needP F.h) F.data, 0, 0, [])
  else if (unOut (needP F.h) F.data).length < needP F.h ∨ unUsed (needP F.h) F.data < F.data.length then (3, 0, 0, [])
  else match pixelsP F (unOut (needP F.h) F.data) with
    | none => (3, 0, 0, [])
    | some m => (0, F.h.W.toNat, F.h.H.toNat, m)
noncomputable def decodeP (b : List UInt8) (pixels : Int) : Nat × Nat × Nat × List UInt8 :=
  if (readAll b pixels).1 ≠ 0 then ((readAll b pixels).1, 0, 0, []) else decF (readAll b pixels).2

/-! ### Bounds -/
def dsum (l : List ChL) : Nat := (l.map fun c => c.data.length).sum
theorem chunkP_ok {b : List UInt8} {c : ChL} {n : Nat} (h : chunkP b = .ok c n) : c.kind.length = 4 ∧ n = 12 + c.data.length ∧ n ≤ b.length ∧ c.kind.all letterP = true := by
  unfold chunkP at h
  split at h
  · cases h
  rename_i h1
  split at h
  · cases h
  rename_i h2
  split at h
  · cases h
  rename_i h3
  split at h
  · cases h
  rename_i h4
  split at h
  · cases h
  rename_i h5
  split at h
  · cases h
  rename_i h6
  cases h
  refine ⟨by simp; omega, ?_, by omega, ?_⟩
  · rw [List.length_drop, List.length_take]
    omega
  · cases e : ((b.take 8).drop 4).all letterP with
    | true => rfl
    | false => exact absurd e h4
theorem chunksF_facts (one : Bool) : ∀ (f : Nat) (b : List UInt8), dsum (chunksF one f b).2 ≤ b.length ∧ (∀ c ∈ (chunksF one f b).2, c.kind.length = 4) ∧ (chunksF one f b).2.length ≤ b.length ∧ ((chunksF one f b).1 = 0 → ∃ c l, (chunksF one f b).2 = c :: l)
  | 0, b => ⟨by simp [chunksF, dsum], by simp [chunksF], by simp [chunksF], fun h => by cases h⟩
  | f + 1, b => by
    rw [chunksF]
    cases hc : chunkP b with
    | err n => exact ⟨by simp [dsum], by simp, by simp, fun h => absurd h (chunkP_err hc)⟩
    | ok c n =>
      obtain ⟨h1, h2, h3, _⟩ := chunkP_ok hc
      dsimp only
      split
      · exact ⟨by simp [dsum]; omega, by simp [h1], by simp; omega, fun _ => ⟨c, [], rfl⟩⟩
      · obtain ⟨i1, i2, i3, i4⟩ := chunksF_facts one f (b.drop n)
        rw [List.length_drop] at i1 i3
        refine ⟨?_, ?_, ?_, fun _ => ⟨_, _, rfl⟩⟩
        · unfold dsum at i1 ⊢
          rw [List.map_cons, List.sum_cons]
          omega
        · intro d hd
          rcases List.mem_cons.1 hd with rfl | hd
          · exact h1
          · exact i2 d hd
        · rw [List.length_cons]; omega
theorem chunksP_facts (one : Bool) (b : List UInt8) : dsum (chunksP one b).2 ≤ b.length ∧ (∀ c ∈ (chunksP one b).2, c.kind.length = 4) ∧ (chunksP one b).2.length ≤ b.length ∧ ((chunksP one b).1 = 0 → ∃ c l, (chunksP one b).2 = c :: l) := by
  obtain ⟨i1, i2, i3, i4⟩ := chunksF_facts one b.length (b.drop 8)
  rw [List.length_drop] at i1 i3
  unfold chunksP
  split
  · rename_i h
    exact ⟨by simp [dsum], by simp, by simp, fun e => absurd e h⟩
  · split
    · rename_i h
      exact ⟨by simp [dsum], by simp, by simp, fun e => absurd e h⟩
    · rename_i h
      exact ⟨by dsimp only; omega, i2, by dsimp only; omega, fun _ => i4 (by omega)⟩
theorem takeP_len {F : FilL} {c : ChL} {n : Nat} (h : F.data.length ≤ n ∧ F.pal.length ≤ n ∧ F.tr.length ≤ n) : (takeP F c).2.data.length ≤ n + c.data.length ∧ (takeP F c).2.pal.length ≤ n + c.data.length ∧ (takeP F c).2.tr.length ≤ n + c.data.length := by
  obtain ⟨h1, h2, h3⟩ := h
  unfold takeP
  repeat' split
  all_goals (refine ⟨?_, ?_, ?_⟩ <;> simp <;> omega)
theorem takeAll_len : ∀ (l : List ChL) (F : FilL) (n : Nat), F.data.length ≤ n ∧ F.pal.length ≤ n ∧ F.tr.length ≤ n → (takeAll F l).2.data.length ≤ n + dsum l ∧ (takeAll F l).2.pal.length ≤ n + dsum l ∧ (takeAll F l).2.tr.length ≤ n + dsum l
  | [], F, n, h => by simp only [takeAll, dsum, List.map_nil, List.sum_nil]; exact ⟨by omega, by omega, by omega⟩
  | c :: l, F, n, h => by
    have e : dsum (c :: l) = c.data.length + dsum l := by simp [dsum]
    rw [takeAll]
    split
    · rw [e]; exact ⟨by dsimp only; omega, by dsimp only; omega, by dsimp only; omega⟩
    · obtain ⟨a, b, d⟩ := takeAll_len l (takeP F c).2 (n + c.data.length) (takeP_len h)
      rw [e]
      exact ⟨by omega, by omega, by omega⟩
theorem takeAll_ok : ∀ (l : List ChL) {F : FilL}, FilOk F → (takeAll F l).1 = 0 → FilOk (takeAll F l).2 ∧ (takeAll F l).2.h = F.h
  | [], F, h, _ => ⟨h, rfl⟩
  | c :: l, F, h, h0 => by
    rw [takeAll] at h0 ⊢
    split at h0
    · rename_i hn; exact absurd h0 hn
    · rename_i hn
      obtain ⟨a, b⟩ := takeP_ok (c := c) h (by omega)
      rw [if_neg hn]
      obtain ⟨a2, b2⟩ := takeAll_ok l a h0
      exact ⟨a2, b2.trans b⟩
theorem headP_ok {c : ChL} (h : (headP c).1 = 0) : checkP (headP c).2 = 0 := by
  unfold headP at h ⊢
  split at h
  · cases h
  · rename_i h1
    split at h
    · rename_i h2; exact absurd h h2
    · rename_i h2
      rw [if_neg h1, if_neg h2]
      show checkP (headOf c.data) = 0
      omega
theorem fil0_ok {h : T_png_Head} (hc : checkP h = 0) : FilOk (fil0 h) := ⟨hc, (fun h => by cases h), rfl⟩
structure ReadOk (b : List UInt8) (pixels : Int) (F : FilL) : Prop where
  ok : FilOk F
  area : F.h.W * F.h.H ≤ pixels ∧ F.h.W * F.h.H ≤ 67108864
  data : F.data.length ≤ b.length
  pal : F.pal.length ≤ b.length
  tr : F.tr.length ≤ b.length
theorem readAll_ok {b : List UInt8} {pixels : Int} (h : (readAll b pixels).1 = 0) : ReadOk b pixels (readAll b pixels).2 := by
  obtain ⟨f1, f2, f3, f4⟩ := chunksP_facts false b
  unfold readAll at h ⊢
  cases hcp : chunksP false b with
  | mk e l =>
    rw [hcp] at h f1 f2 f3 f4
    match e, l with
    | 0, c :: l =>
      replace h : (readCh c l pixels).1 = 0 := h
      show ReadOk b pixels (readCh c l pixels).2
      unfold readCh at h ⊢
      by_cases h1 : (headP c).1 ≠ 0
      · rw [if_pos h1] at h; exact absurd h h1
      rw [if_neg h1] at h ⊢
      by_cases h2 : (headP c).2.W * (headP c).2.H > pixels ∨ (headP c).2.W * (headP c).2.H > 67108864
      · rw [if_pos h2] at h; cases h
      rw [if_neg h2] at h ⊢
      by_cases h3 : (takeAll (fil0 (headP c).2) l).1 ≠ 0
      · rw [if_pos h3] at h; exact absurd h h3
      rw [if_neg h3] at h ⊢
      split
      · rename_i h4; rw [if_pos h4] at h; cases h
      · obtain ⟨a, bb⟩ := takeAll_ok l (fil0_ok (headP_ok (c := c) (by omega))) (by omega)
        obtain ⟨d1, d2, d3⟩ := takeAll_len l (fil0 (headP c).2) 0 ⟨Nat.le_refl _, Nat.le_refl _, Nat.le_refl _⟩
        have e : dsum (c :: l) = c.data.length + dsum l := by simp [dsum]
        replace f1 : dsum (c :: l) ≤ b.length := f1
        rw [e] at f1
        refine ⟨a, ?_, Nat.le_trans d1 (by omega), Nat.le_trans d2 (by omega), Nat.le_trans d3 (by omega)⟩
        rw [bb]
        show (headP c).2.W * (headP c).2.H ≤ pixels ∧ (headP c).2.W * (headP c).2.H ≤ 67108864
        omega
    | 0, [] => obtain ⟨c, l, hcl⟩ := f4 rfl; cases hcl
    | e + 1, l => cases h
/-- The rows' bytes are few. -/
theorem needP_le {h : T_png_Head} {W H : Nat} (ho : HeadOk h W H) {M : Nat} (hM : W * H ≤ M) : needP h ≤ 140 * M := by
  have hrow : ∀ w : Nat, 1 + rowB h w ≤ 2 + 8 * w := by
    intro w
    unfold rowB rowP
    split
    · omega
    · rename_i hn
      simp only [not_or] at hn
      obtain ⟨h1, h2, h3, h4, h5⟩ := hn
      have hd : isDepthP h.Depth = true := by cases e : isDepthP h.Depth with | true => rfl | false => exact absurd e h5
      have hdp : 1 ≤ h.Depth ∧ h.Depth ≤ 16 := by
        unfold isDepthP at hd
        simp at hd
        omega
      have a1 : 0 ≤ (w : Int) * (samplesOf h.Color : Int) := Int.mul_nonneg (by omega) (by omega)
      have a2 : (w : Int) * (samplesOf h.Color : Int) ≤ (w : Int) * 4 := Int.mul_le_mul_of_nonneg_left (by omega) (by omega)
      have a4 : (w : Int) * (samplesOf h.Color : Int) * h.Depth ≤ (w : Int) * 4 * 16 := Int.mul_le_mul a2 (by omega) (by omega) (by omega)
      omega
  have one : ∀ p : PassP, needL h (rowsOf W H p) ≤ 20 * M := by
    intro p
    have hs := sizeP_le p W H
    have key : ∀ (l : List Nat), ((l.map fun y => (p, y, (sizeP p W H).1)).map fun r => 1 + rowB h r.2.2).sum ≤ l.length * (2 + 8 * W) := by
      intro l
      induction l with
      | nil => simp
      | cons y l ih =>
        rw [List.map_cons, List.map_cons, List.sum_cons, List.length_cons, Nat.add_mul]
        have := hrow (sizeP p W H).1
        dsimp only
        have h8 : 8 * (sizeP p W H).1 ≤ 8 * W := by omega
        omega
    have h1 := key (List.range (sizeP p W H).2)
    rw [List.length_range] at h1
    have h2 : (sizeP p W H).2 * (2 + 8 * W) ≤ H * (2 + 8 * W) := Nat.mul_le_mul_right _ hs.2
    have h3 : H * (2 + 8 * W) = 2 * H + 8 * (W * H) := by rw [Nat.mul_add, Nat.mul_comm H 2, Nat.mul_left_comm, Nat.mul_comm H W]
    have h4 : H ≤ W * H := Nat.le_mul_of_pos_left H ho.w1
    unfold needL rowsOf
    omega
  have all : ∀ ps : List PassP, needL h (ps.flatMap (rowsOf W H)) ≤ ps.length * (20 * M) := by
    intro ps
    induction ps with
    | nil => simp [needL]
    | cons p ps ih =>
      rw [List.flatMap_cons, needL_append, List.length_cons, Nat.add_mul]
      have := one p
      omega
  have h1 := all (passesP h.Lace)
  have h2 := passes_len h.Lace
  have h3 : (passesP h.Lace).length * (20 * M) ≤ 7 * (20 * M) := Nat.mul_le_mul_right _ h2
  have e : needP h = needL h ((passesP h.Lace).flatMap (rowsOf W H)) := by
    show needL h (rowsL h) = _
    unfold rowsL
    rw [ho.wn, ho.hn]
  rw [e]
  omega
end Go.Proofs.YtmagnpcgpinmcaaGreat

set_option linter.unusedVariables false
namespace Go.Proofs.YtmagnpcgpinmcaaGreat
open Go.Vc Go.RowKit
set_option maxRecDepth 400000
section
variable {w : World}
theorem size_spec {W H : Nat} {K : Bool → World → Prop} (hW1 : 1 ≤ W) (hW2 : W ≤ 16384) (hH1 : 1 ≤ H) (hH2 : H ≤ 16384) (hA : W * H ≤ 67108864) (hK : K true w) : c_pixel_size (W : Int) (H : Int) w K := by
  refine call_pixel_size _ _ ?_
  unfold sh_pixel_size
  refine cond_f (beqI_f (by omega)) (cond_t (decide_eq_true (by omega)) (cond_t (decide_eq_true (by omega)) (cond_t (decide_eq_true (by omega)) (cond_t (decide_eq_true (by omega)) ?_))))
  rw [show (W : Int) * (H : Int) = ((W * H : Nat) : Int) by simp, wrap64_id (by omega), decide_eq_true (by omega)]
  exact hK
theorem pNew_spec {W H : Nat} {K : T_api_Matrix → Int → World → Prop} (hW1 : 1 ≤ W) (hW2 : W ≤ 16384) (hH1 : 1 ≤ H) (hH2 : H ≤ 16384) (hA : W * H ≤ 67108864)
    (hK : ∀ (t : Slc) (gm : Nat) w', Go.Vc.Own E_uint8 w' w.heap.size t (List.replicate (4 * W * H) 0) → t.a = some ⟨gm, 0, none⟩ → w.heap.size ≤ gm → Below w.heap.size w w' → K ⟨W, H, t⟩ 0 w') : c_pixel_New (W : Int) (H : Int) w K := by
  refine call_pixel_New _ _ ?_
  unfold sh_pixel_New
  refine nw_blk fun w1 h1 hB1 hs1 => size_spec hW1 hW2 hH1 hH2 hA (cond_f rfl ?_)
  have e : IntKind.i64.wrap ((IntKind.i64.wrap ((4 : Int) * (W : Int))) * (H : Int)) = ((4 * W * H : Nat) : Int) := by
    have h4 : 4 * W * H = 4 * (W * H) := Nat.mul_assoc _ _ _
    rw [wrap64_id (x := (4 : Int) * (W : Int)) (by omega), show (4 : Int) * (W : Int) * (H : Int) = ((4 * W * H : Nat) : Int) by simp, wrap64_id (by omega)]
  rw [e]
  have h4 : 4 * W * H = 4 * (W * H) := Nat.mul_assoc _ _ _
  refine mkSl_of sT_sl_uint8 (x0 := (0 : UInt8)) rfl (n := 4 * W * H) rfl rfl (by rw [by_sl_uint8]; omega) (by unfold maxLen; omega) fun w4 ho hB4 => ?_
  refine res_of (r := T_api_Matrix.rep) (x := ⟨W, H, ⟨some ⟨w1.heap.size, 0, none⟩, 4 * W * H, 4 * W * H⟩⟩) (h1.ext hB4) rfl rfl fun w5 hc5 hs5 => ?_
  refine hK _ w1.heap.size w5 ((ho.chg hc5 fun k hk e => ?_).base (by omega)) rfl (by omega) (below_one (below_t hB1 hB4) hc5 (Nat.le_refl _))
  have := (ho.lt k hk).1
  omega
theorem pixels_spec {g b : Nat} {F : FilL} {p t d : Slc} (hF : FilA w g b F p t d) (ho : FilOk F) {W H : Nat} (hh : HeadOk F.h W H) (hA : W * H ≤ 67108864) (hpl : F.pal.length ≤ 1000000) (htl : F.tr.length ≤ 1000000) {bS : Slc} {xs : List UInt8} (hx : Rd E_uint8 w bS xs) (hxn : needP F.h ≤ xs.length) (hxl : xs.length ≤ 1000000000) {K : T_api_Matrix → Int → World → Prop}
    (hN : pixelsP F xs = none → ∀ w', Below w.heap.size w w' → K ⟨0, 0, ⟨none, 0, 0⟩⟩ 3 w') (hY : ∀ m, pixelsP F xs = some m → ∀ s w', Go.Vc.Own E_uint8 w' w.heap.size s m → m.length = 4 * W * H → Below w.heap.size w w' → K ⟨W, H, s⟩ 0 w') : c_png_file_pixels (some ⟨g, 0, none⟩) bS w K := by
  obtain ⟨_, hco⟩ := checkP_ok ho.hd
  refine call_png_file_pixels _ _ ?_
  unfold sh_png_file_pixels
  refine nw_blk fun w1 h1 hB1 hs1 => nw_blk fun w2 h2 hB2 hs2 => nw_blk fun w3 h3 hB3 hs3 => ?_
  have hB13 := below_t (below_t hB1 hB2) hB3
  have hf := (h1.ext hB2).ext hB3
  have hb := h2.ext hB3
  have hBd := below_drew w3
  have hB3d := below_t hB13 hBd
  have hFd := hF.ext hB3d
  refine ldP_of (x := some ⟨g, 0, none⟩) (at_cell (hf.ext hBd)) ?_
  simp only [onPtr_some]
  refine ldI_of (x := (W : Int)) (by rw [add_zero, ← hh.w]; exact hFd.blk.cells 0 _ rfl) ?_
  refine ldP_of (x := some ⟨g, 0, none⟩) (at_cell (hf.ext hBd)) ?_
  simp only [onPtr_some]
  refine ldI_of (x := (H : Int)) (by rw [add_zero, ← hh.h]; exact hFd.blk.cells 1 _ rfl) ?_
  have hs3d : w3.drew.heap.size = w3.heap.size := rfl
  have cw : ∀ {w'}, Below w3.heap.size w3 w' → w'.cell? ((⟨g, 0, none⟩ : Addr).add 0) = some (.int .i64 (W : Int)) := fun hB => by
    have := (hF.ext (below_t hB13 hB)).blk.cells 0 _ rfl
    rw [hh.w] at this
    exact this
  have chh : ∀ {w'}, Below w3.heap.size w3 w' → w'.cell? ((⟨g, 0, none⟩ : Addr).add 1) = some (.int .i64 (H : Int)) := fun hB => by
    have := (hF.ext (below_t hB13 hB)).blk.cells 1 _ rfl
    rw [hh.h] at this
    exact this
  -- behind the new matrix
  have tail : ∀ (bmx gm : Nat) (vs : List Value) (tm : Slc) w5, vs.length = 3 → Blk w5 bmx ty_api_Matrix vs → w3.heap.size ≤ bmx → Go.Vc.Own E_uint8 w5 (w3.heap.size) tm (List.replicate (4 * W * H) 0) → tm.a = some ⟨gm, 0, none⟩ → w3.heap.size ≤ gm → Below w3.heap.size w3 w5 →
     stK ⟨bmx, 0, none⟩ (T_api_Matrix.rep.cells ⟨W, H, tm⟩) w5 fun w6 =>
     ldP (⟨w.heap.size, 0, none⟩ : Addr) w6 fun t26 =>
     onPtr t26 fun t27 =>
     ldI .i64 ((t27.add 0).add 3) w6 fun t30 =>
     c_png_Samples t30 w6 fun t31 w7 =>
     nw ty_int [(.int .i64 0)] w7 fun n w8 =>
     stK n [(.int .i64 t31)] w8 fun w9 =>
     ldI .i64 n w9.drew fun t32 =>
     ldP (⟨w.heap.size, 0, none⟩ : Addr) w9.drew fun t33 =>
     onPtr t33 fun t34 =>
     ldI .i64 ((t34.add 0).add 2) w9.drew fun t37 =>
     (8 : Int) ≠ 0 ∧
     nw ty_int [(.int .i64 0)] w9.drew fun step w10 =>
     World.cell? w10 ((t34.add 0).add 2) = some (.int .i64 t37) ∧
     World.cell? w10 (⟨w.heap.size, 0, none⟩ : Addr) = some (.pointer t33) ∧
     World.cell? w10 n = some (.int .i64 t32) ∧
     stK step [(.int .i64 (IntKind.i64.wrap ((IntKind.i64.wrap ((IntKind.i64.wrap (t32 * t37)) + (7 : Int))).tdiv (8 : Int))))] w10 fun w11 =>
     nw ty_sl_uint8 [(.slice none 0 0)] w11 fun ahead w12 =>
     ldP (⟨w.heap.size, 0, none⟩ : Addr) w12 fun t41 =>
     onPtr t41 fun t42 =>
     ldS T_png_Head.rep (t42.add 0) w12 fun t44 =>
     c_png_Head_rows t44 ((.func (.func fn_png_file_pixels_1) #[] #[(.pointer (some n)), (.pointer (some ⟨w.heap.size, 0, none⟩)), (.pointer (some ahead)), (.pointer (some ⟨w1.heap.size, 0, none⟩)), (.pointer (some step)), (.pointer (some ⟨bmx, 0, none⟩))]) : Value) w12 fun t46 w13 =>
     cond (!t46)
       (stK ⟨w2.heap.size, 0, none⟩ [(.int .i64 0), (.int .i64 0), (.slice none 0 0)] w13 fun w14 =>
        ldS T_api_Matrix.rep ⟨w2.heap.size, 0, none⟩ w14 fun r =>
        K r 3 w14)
       (ldS T_api_Matrix.rep ⟨bmx, 0, none⟩ w13 fun t50 =>
        stK ⟨w2.heap.size, 0, none⟩ (T_api_Matrix.rep.cells t50) w13 fun w15 =>
        ldS T_api_Matrix.rep ⟨w2.heap.size, 0, none⟩ w15 fun r_1 =>
        K r_1 0 w15) := by
    intro bmx gm vs tm w5 hvl hbm hbmn htm hta hgm hB5
    refine all_of hbm hvl.symm fun w6 hm6 hc6 hs6 => ?_
    have tl := htm.lt
    have hB36 : Below w3.heap.size w3 w6 := below_one hB5 hc6 (by omega)
    have hm5 : bmx < w5.heap.size := hbm.lt
    have htm6 := htm.chg hc6 fun k hk => own_ne_blk htm hbm (by decide) k hk
    have hB16 : Below w.heap.size w w6 := below_t hB13 hB36
    have hF6 := hF.ext hB16
    have hf6 := hf.ext hB36
    refine ldP_of (x := some ⟨g, 0, none⟩) (at_cell hf6) ?_
    simp only [onPtr_some]
    refine ldI_of (x := F.h.Color) (by rw [add_zero]; exact hF6.blk.cells 3 _ rfl) (Samples_spec ?_)
    refine nw_blk fun w8 h8 hB8 hs8 => ?_
    refine all_of h8 rfl fun w9 h9 hc9 hs9 => ?_
    have hB69 : Below w6.heap.size w6 w9 := below_one hB8 hc9 (Nat.le_refl _)
    have hBd9 := below_drew w9
    have hB69d := below_t hB69 hBd9
    have hF9 := hF6.ext hB69d
    refine ldI_of (x := ((samplesOf F.h.Color : Nat) : Int)) (at_cell (h9.ext hBd9)) (ldP_of (x := some ⟨g, 0, none⟩) (at_cell (hf6.ext hB69d)) ?_)
    simp only [onPtr_some]
    refine ldI_of (x := F.h.Depth) (by rw [add_zero]; exact hF9.blk.cells 2 _ rfl) ⟨by decide, ?_⟩
    refine nw_blk fun w10 h10 hB10 hs10 => ?_
    have hB910 := below_t hB69d hB10
    have hF10 := hF6.ext hB910
    have h910 := (h9.ext hBd9).ext hB10
    refine ⟨by rw [add_zero]; exact hF10.blk.cells 2 _ rfl, at_cell (hf6.ext hB910), at_cell h910, ?_⟩
    have hst : IntKind.i64.wrap ((IntKind.i64.wrap ((IntKind.i64.wrap (((samplesOf F.h.Color : Nat) : Int) * F.h.Depth)) + (7 : Int))).tdiv (8 : Int)) = ((pStepN F.h : Nat) : Int) := by
      have hs := samplesOf_pos hco
      have hd : 1 ≤ F.h.Depth.toNat ∧ F.h.Depth.toNat ≤ 16 := by have := hco.d; omega
      have hdn : F.h.Depth = ((F.h.Depth.toNat : Nat) : Int) := by have := hco.d; omega
      have h2 : samplesOf F.h.Color * F.h.Depth.toNat ≤ 4 * 16 := Nat.mul_le_mul hs.2 hd.2
      unfold pStepN
      rw [hdn, show ((samplesOf F.h.Color : Nat) : Int) * ((F.h.Depth.toNat : Nat) : Int) = ((samplesOf F.h.Color * F.h.Depth.toNat : Nat) : Int) by simp, Int.toNat_natCast]
      generalize samplesOf F.h.Color * F.h.Depth.toNat = q at h2 ⊢
      rw [wrap64_id (x := ((q : Nat) : Int)) (by omega), wrap64_id (x := ((q : Nat) : Int) + 7) (by omega), show ((q : Nat) : Int) + 7 = ((q + 7 : Nat) : Int) by simp, show (8 : Int) = ((8 : Nat) : Int) from rfl, ← Int.ofNat_tdiv, wrap64_id (by omega)]
    rw [hst]
    refine all_of h10 rfl fun w11 h11 hc11 hs11 => ?_
    have hsz9 : w9.drew.heap.size = w9.heap.size := rfl
    refine nw_blk fun w12 h12 hB12 hs12 => ?_
    have hB611 : Below w6.heap.size w6 w11 := below_one hB910 hc11 (by have := hB69.size; omega)
    have hB612 := below_t hB611 hB12
    have hF12 := hF6.ext hB612
    refine ldP_of (x := some ⟨g, 0, none⟩) (at_cell (hf6.ext hB612)) ?_
    simp only [onPtr_some]
    refine ldS_of (r := T_png_Head.rep) (x := F.h) (by rw [add_zero]; exact hF12.head) ?_
    have hs6' : w6.heap.size = w5.heap.size := hs6
    have hb12 := ((hb.ext hB5).chg hc6 (show w1.heap.size ≠ bmx by omega)).ext hB612
    have h3_12 := ((h3.ext hB5).chg hc6 (show w2.heap.size ≠ bmx by omega)).ext hB612
    have hB3_12 := below_t hB36 hB612
    have hBw12 : Below w.heap.size w w12 := below_t hB16 hB612
    have hn12 : Blk w12 w6.heap.size ty_int _ := (h910.chg hc11 (by omega)).ext hB12
    have hst12 : Blk w12 w9.drew.heap.size ty_int _ := h11.ext hB12
    have hc : PxC w w6.heap.size w.heap.size w11.heap.size (w1.heap.size) w9.drew.heap.size bmx gm tm := ⟨by omega, by omega, by omega, by omega, by omega, hta⟩
    have hI0 : PxI w g F W H w6.heap.size w.heap.size w11.heap.size (w1.heap.size) w9.drew.heap.size bmx gm tm ⟨xs, [], List.replicate (4 * W * H) 0⟩ w12 := by
      refine ⟨hn12, hf6.ext hB612, hst12, hm6.ext hB612, ⟨⟨none, 0, 0⟩, h12, Own.nil _ _ _, fun k hk => by cases hk⟩, ⟨bS, hb12, hx⟩, (htm6.ext hB612).base (by omega), hBw12⟩
    have hval : pixelsP F xs = (rowsRun F (rowsL F.h) ⟨xs, [], List.replicate (4 * W * H) 0⟩).map (·.m) := by
      unfold pixelsP
      rw [hh.wn, hh.hn]
    refine rows_spec hh (fun L w13 => ∃ S, rowsRun F L ⟨xs, [], List.replicate (4 * W * H) 0⟩ = some S ∧ S.m.length = 4 * W * H ∧ PxI w g F W H w6.heap.size w.heap.size w11.heap.size (w1.heap.size) w9.drew.heap.size bmx gm tm S w13 ∧ Blk w13 (w2.heap.size) ty_api_Matrix [(.int .i64 0), (.int .i64 0), (.slice none 0 0)] ∧ w12.heap.size ≤ w13.heap.size)
      (fun w13 => pixelsP F xs = none ∧ Blk w13 (w2.heap.size) ty_api_Matrix [(.int .i64 0), (.int .i64 0), (.slice none 0 0)] ∧ Below w.heap.size w w13) ⟨_, rfl, by simp, hI0, h3_12, Nat.le_refl _⟩ ?_ ?_ ?_ ?_
    · rintro L wa wb ⟨S, a, b, c, d', e⟩ hB
      exact ⟨S, a, b, c.ext hB, d'.ext hB, by have := hB.size; omega⟩
    · rintro L r R wa hL ⟨S, a, bb, c, d', e⟩ hsa J hJ1 hJ0
      refine callR_plain (by kernel_rfl) ?_
      have hcall : c_png_file_pixels_1 (passT r.1) (r.2.1 : Int) (r.2.2 : Int) ⟨w6.heap.size, 0, none⟩ ⟨w.heap.size, 0, none⟩ ⟨w11.heap.size, 0, none⟩ ⟨w1.heap.size, 0, none⟩ ⟨w9.drew.heap.size, 0, none⟩ ⟨bmx, 0, none⟩ wa J := by
        obtain ⟨sa, q1, q2, q3⟩ := c.ah
        obtain ⟨sb, q4, q5⟩ := c.b
        refine pixels1_spec hF ho hh hpl htl hc hL hxn hxl a bb c (fun S' wb hS' hm' hI' hch => ?_) (fun wb hS' hch => ?_)
        · refine hJ1 wb ⟨S', rowsRun_snoc a hS', hm', hI', d'.chg hch (by omega), by have := hch.size; omega⟩ ?_ hch.size
          refine keepT_of hch fun k hk => ?_
          rcases hk with rfl | rfl | rfl
          · exact ⟨_, _, q1, by decide, by decide⟩
          · exact ⟨_, _, q4, by decide, by decide⟩
          · obtain ⟨cs, hcs⟩ := c.row.blk_t (g := k) (by unfold Slc.blk; rw [hta]; rfl)
            exact ⟨_, _, hcs, by decide, by decide⟩
        · refine hJ0 wb ⟨?_, d'.chg hch (by omega), c.B.trans (hch.below (by have := c.B.size; omega) fun i hi e => by omega)⟩
          rw [hval, hL, rowsRun_bad a hS']
          rfl
      refine Calls.mono hcall ?_
      rintro e w' ⟨r, rfl, hk⟩
      exact ⟨r, rfl, hk⟩
    · rintro wa ⟨S, a, bb, c, d', e⟩
      refine cond_f rfl (ldS_of (r := T_api_Matrix.rep) (x := ⟨W, H, tm⟩) c.m.cells ?_)
      refine res_of (r := T_api_Matrix.rep) (x := ⟨W, H, tm⟩) d' rfl rfl fun wb hcb hsb => ?_
      rw [a] at hval
      exact hY S.m hval tm wb ((c.row.chg hcb fun k hk => own_ne_blk c.row d' (by decide) k hk).base (by omega)) bb (below_one c.B hcb (by omega))
    · rintro wa ⟨a, d', e⟩
      refine cond_t rfl ?_
      exact res_of (r := T_api_Matrix.rep) (x := ⟨0, 0, ⟨none, 0, 0⟩⟩) d' rfl rfl fun wb hcb hsb => hN a wb (below_one e hcb (by omega))
  refine ⟨?_, ?_⟩
  · refine pNew_spec hh.w1 hh.w2 hh.h1 hh.h2 hA fun tm gm w4 htm hta hgm hB4 => ?_
    have hBd4 : Below w3.heap.size w3 w4 := below_t hBd hB4
    refine nw_blk fun w5 h5 hB5 hs5 => ?_
    have hB35 := below_t hBd4 hB5
    refine ⟨by rw [add_zero]; exact chh hB35, at_cell (hf.ext hB35), by rw [add_zero]; have := cw hB35; rwa [add_zero] at this ⊢, at_cell (hf.ext hB35), ?_⟩
    exact tail _ gm _ tm w5 rfl h5 (by have := hB4.size; omega) (htm.ext hB5) hta (by omega) hB35
  · refine nw_blk fun w5 h5 hB5 hs5 => ?_
    have hB35 := below_t hBd hB5
    refine ⟨by rw [add_zero]; exact chh hB35, at_cell (hf.ext hB35), by rw [add_zero]; have := cw hB35; rwa [add_zero] at this ⊢, at_cell (hf.ext hB35), ?_⟩
    refine pNew_spec hh.w1 hh.w2 hh.h1 hh.h2 hA fun tm gm w4 htm hta hgm hB4 => ?_
    exact tail _ gm _ tm w4 rfl (h5.ext hB4) (by omega) (htm.base (by omega)) hta (by omega) (below_t hB35 hB4)
end
end Go.Proofs.YtmagnpcgpinmcaaGreat

set_option linter.unusedVariables false
namespace Go.Proofs.YtmagnpcgpinmcaaGreat
open Go.Vc Go.RowKit
set_option maxRecDepth 400000
theorem readAll_err {b : List UInt8} {pixels : Int} (h : (chunksP false b).1 ≠ 0) : (readAll b pixels).1 = (chunksP false b).1 := by
  unfold readAll
  cases hc : chunksP false b with
  | mk e l =>
    rw [hc] at h
    match e, l with
    | 0, _ => exact absurd rfl h
    | e + 1, _ => rfl
theorem readAll_of {b : List UInt8} {pixels : Int} {c : ChL} {l : List ChL} (h : chunksP false b = (0, c :: l)) : readAll b pixels = readCh c l pixels := by
  unfold readAll
  rw [h]
  rfl
theorem Below.rdT {T : Type} {E : El T} {B : Nat} {w w' : World} {s : Slc} {xs : List T} (h : Rd E w s xs) (hB : Below B w w') (hs : ∀ k, s.blk = some k → k < B) : Rd E w' s xs := h.chg (Chg.of_below hB) fun a ha e => by have := hs a.block (slk.2 ⟨a, ha, rfl⟩); omega
section
variable {w : World}
theorem pRead_spec {b : Slc} {bs : List UInt8} {pixels : Int} {K : Option Addr → Int → World → Prop} (hb : Rd E_uint8 w b bs) (hbl : ∀ k, b.blk = some k → k < w.heap.size) (hl : bs.length ≤ 1000000)
    (hE : (readAll bs pixels).1 ≠ 0 → ∀ w', Below w.heap.size w w' → K none ((readAll bs pixels).1 : Nat) w') (hO : (readAll bs pixels).1 = 0 → ∀ g b p t d w', FilA w' g b (readAll bs pixels).2 p t d → w.heap.size ≤ g → Below w.heap.size w w' → K (some ⟨g, 0, none⟩) 0 w') : c_png_read b pixels w K := by
  refine call_png_read _ _ ?_
  unfold sh_png_read
  refine Chunks_spec hb hbl hl fun s w1 hcs hB1 => ?_
  obtain ⟨f1, f2, f3, f4⟩ := chunksP_facts false bs
  refine cond_of (fun e => ?_) fun e => ?_
  · have e : (chunksP false bs).1 ≠ 0 := fun h => by rw [h] at e; cases e
    rw [readAll_err e] at hE
    exact hE e w1 hB1
  have e0 : (chunksP false bs).1 = 0 := by
    rcases Nat.eq_zero_or_pos (chunksP false bs).1 with h | h
    · exact h
    · rw [bneI_t (by omega)] at e; cases e
  obtain ⟨c, l, hcl⟩ := f4 e0
  have hcp : chunksP false bs = (0, c :: l) := by rw [← e0, ← hcl]
  rw [hcl] at f1 f2 f3 hcs
  rw [readAll_of hcp] at hE hO
  obtain ⟨xs, hxs, hxl, hxc⟩ := hcs
  have hxl : xs.length = l.length + 1 := hxl
  have hds : dsum (c :: l) = c.data.length + dsum l := by simp [dsum]
  rw [hds] at f1
  rw [List.length_cons] at f3
  have hrd := hxs.rd
  obtain ⟨x0, hx0⟩ : ∃ x0, xs[0]? = some x0 := ⟨_, List.getElem?_eq_getElem (by omega)⟩
  have hc0 := hxc 0 x0 c hx0 rfl
  refine hrd.ix (i := 0) (k := 2) rfl (by omega) (by omega) fun _ => ?_
  refine ldS_of (r := T_png_Chunk.rep) (x := x0) (hrd.at_ 0 x0 hx0) ?_
  refine pHead_spec hc0.a fun w2 hB2 => ?_
  refine nw_blk fun w3 h3 hB3 hs3 => all_of h3 rfl fun w4 h4 hc4 hs4 => ?_
  have hB14 : Below w1.heap.size w1 w4 := below_one (below_t hB2 hB3) hc4 hB2.size
  have hB4 := below_t hB1 hB14
  unfold readCh at hE hO
  refine cond_of (fun e => ?_) fun e => ?_
  · have e : (headP c).1 ≠ 0 := fun h => by rw [h] at e; cases e
    rw [if_pos e] at hE
    exact hE e w4 hB4
  have e1 : (headP c).1 = 0 := by
    rcases Nat.eq_zero_or_pos (headP c).1 with h | h
    · exact h
    · rw [bneI_t (by omega)] at e; cases e
  rw [if_neg (by omega)] at hE hO
  obtain ⟨h, hh⟩ : ∃ h, h = (headP c).2 := ⟨_, rfl⟩
  rw [← hh] at hE hO h4
  have hck : checkP h = 0 := by rw [hh]; exact headP_ok e1
  obtain ⟨⟨W, H, ho⟩, hco⟩ := checkP_ok hck
  have hWH : W * H ≤ 16384 * 16384 := Nat.mul_le_mul ho.w2 ho.h2
  refine ldI_of (x := h.W) (h4.cells 0 _ rfl) (ldI_of (x := h.H) (h4.cells 1 _ rfl) ?_)
  have hmul : h.W * h.H = ((W * H : Nat) : Int) := by rw [ho.w, ho.h]; simp
  rw [hmul] at hE hO ⊢
  rw [wrap64_id (x := ((W * H : Nat) : Int)) (by omega)]
  have hmin : ((W * H : Nat) : Int) > (if (67108864 : Int) < pixels then (67108864 : Int) else pixels) ↔ ((W * H : Nat) : Int) > pixels ∨ ((W * H : Nat) : Int) > 67108864 := by
    split <;> omega
  refine cond_of (fun e => ?_) fun e => ?_
  · have e := hmin.1 (of_decide_eq_true e)
    rw [if_pos e] at hE
    exact hE (show (5 : Nat) ≠ 0 by decide) w4 hB4
  have e2 := fun h => of_decide_eq_false e (hmin.2 h)
  rw [if_neg e2] at hE hO
  refine ldS_of (r := T_png_Head.rep) (x := h) h4.cells ?_
  refine nw_blk fun w5 h5 hB5 hs5 => ?_
  have hB15 := below_t hB14 hB5
  obtain ⟨g, hg⟩ : ∃ g, g = w4.heap.size := ⟨_, rfl⟩
  rw [← hg] at h5 ⊢
  have hf0 : FilA w5 g g (fil0 h) ⟨none, 0, 0⟩ ⟨none, 0, 0⟩ ⟨none, 0, 0⟩ := ⟨h5, Rd.nil _ _, Rd.nil _ _, Own.nil _ _ _, (fun k hk => by cases hk), (fun k hk => by cases hk)⟩
  have hxs5 := hxs.ext hB15
  refine hxs5.rd.slK (l := 1) (m := xs.length) rfl (.inr rfl) (.inl ⟨rfl, rfl⟩) (by omega) (by omega) fun hp => ?_
  rw [List.take_length] at hp
  have hs15 := hB15.size
  have hs1g : w1.heap.size ≤ g := by rw [hg]; exact hB14.size
  have hblk : ∀ k, (⟨cut s.a 1 s.c E_png_Chunk.k, xs.length - 1, s.c - 1⟩ : Slc).blk = some k → k < g := fun k hk => by
    obtain ⟨a, ha, rfl⟩ := slk.1 hk
    obtain ⟨a', ha', e⟩ := cut_block ha
    have := (hxs.lt a'.block (slk.2 ⟨a', ha', rfl⟩)).2
    rw [e]
    omega
  have hn : xs.length - 1 = l.length := by omega
  rw [hn] at hp hblk ⊢
  have h45 : Blk w5 w2.heap.size ty_png_Head (T_png_Head.rep.cells h) := h4.ext hB5
  have hs2g : w2.heap.size < g := by rw [hg]; have := h4.lt; omega
  refine loopP_rule (fun (st : Int × Unit) w6 => ∃ (i : Nat) (F : FilL) (p t d : Slc) (m : Nat), st.1 = i ∧ i ≤ l.length ∧ FilA w6 g g F p t d ∧ FilOk F ∧ F.h = h ∧ takeAll (fil0 h) l = takeAll F (l.drop i) ∧ Below g w5 w6 ∧ (F.data.length ≤ m ∧ F.pal.length ≤ m ∧ F.tr.length ≤ m) ∧ m + dsum (l.drop i) ≤ bs.length) (fun st => l.length - st.1.toNat)
    ⟨0, fil0 h, _, _, _, 0, rfl, by omega, hf0, fil0_ok hck, rfl, rfl, Below.refl _ _, ⟨Nat.le_refl _, Nat.le_refl _, Nat.le_refl _⟩, by rw [List.drop_zero]; omega⟩ ?_
  rintro ⟨i, u⟩ w6 ⟨i, F, p, t, d, m, rfl, hi, hF, hFo, hFh, htk, hB56, hlen, hsum⟩ I hI
  dsimp only
  have hBw6 : Below w.heap.size w w6 := (below_t hB1 hB15).trans (hB56.mono (by have := hB1.size; omega))
  refine cond_of (fun hlt => ?_) fun hge => ?_
  · have hlt := of_decide_eq_true hlt
    have hil : i < l.length := by omega
    obtain ⟨ci, hci⟩ : ∃ ci, l[i]? = some ci := ⟨_, List.getElem?_eq_getElem hil⟩
    obtain ⟨xi, hxi⟩ : ∃ xi, xs[i + 1]? = some xi := ⟨_, List.getElem?_eq_getElem (by omega)⟩
    have hoi := hxc (i + 1) xi ci hxi (by simpa using hci)
    have hdrop : l.drop i = ci :: l.drop (i + 1) := by
      rw [List.getElem?_eq_getElem hil] at hci
      rw [← Option.some.inj hci, ← List.drop_eq_getElem_cons]
    have hmem : ci ∈ c :: l := List.mem_cons_of_mem _ (List.mem_of_getElem? hci)
    have hdsum : dsum (l.drop i) = ci.data.length + dsum (l.drop (i + 1)) := by rw [hdrop]; simp [dsum]
    rw [hdsum] at hsum
    have hp6 := Below.rdT hp hB56 hblk
    have hxi' : (xs.drop 1)[i]? = some xi := by rw [List.getElem?_drop, Nat.add_comm]; exact hxi
    refine hp6.ix (i := (i : Int)) (k := 2) rfl (by omega) (by rw [List.length_drop]; omega) fun _ => ?_
    refine ldS_of (r := T_png_Chunk.rep) (x := xi) (hp6.at_ i xi hxi') ?_
    refine nw_blk fun w7 h7 hB7 hs7 => all_of h7 rfl fun w8 h8 hc8 hs8 => ?_
    have hB68 : Below w6.heap.size w6 w8 := below_one hB7 hc8 (Nat.le_refl _)
    refine ldS_of (r := T_png_Chunk.rep) (x := xi) h8.cells ?_
    have hg6 : g ≤ w6.heap.size := by have := hF.blk.lt; omega
    have hB58 : Below g w5 w8 := hB56.trans (hB68.mono hg6)
    have hxblk : ∀ k, xi.Data.blk = some k → k < g := fun k hk => by have := (hoi.data.lt k hk).2; omega
    have hxa : ChA w8 xi ci := ⟨hoi.kind, Below.rdT (hoi.data.rd.ext hB15) hB58 hxblk⟩
    rw [hdrop, takeAll] at htk
    refine pTake_spec (hF.ext hB68) (by rw [hFh]; exact hco) hxa hxblk (Nat.le_refl _) (f2 ci hmem) (by omega) (by omega) (by omega) (fun w9 hne hB9 => ?_) (fun h0 p' t' d' w9 hF9 hB9 => ?_)
    · rw [if_pos hne] at htk
      have hBw9 : Below w.heap.size w w9 := (hBw6.trans (hB68.mono (by have := hBw6.size; omega))).trans (hB9.mono (by have := hB1.size; omega))
      refine cond_t (bneI_t (by omega)) ?_
      rw [htk] at hE
      rw [if_pos hne] at hE
      exact hE hne w9 hBw9
    · rw [if_neg (by omega)] at htk
      refine cond_f rfl ?_
      rw [wrap64_id (by omega)]
      obtain ⟨ho9, hh9⟩ := takeP_ok hFo h0
      obtain ⟨l1, l2, l3⟩ := takeP_len (c := ci) hlen
      exact hI _ _ ⟨i + 1, (takeP F ci).2, p', t', d', m + ci.data.length, rfl, by omega, hF9, ho9, hh9.trans hFh, htk, hB58.trans hB9, ⟨l1, l2, l3⟩, by omega⟩ (by simp; omega)
  · have hge := of_decide_eq_false hge
    obtain rfl : i = l.length := by omega
    rw [List.drop_length, takeAll] at htk
    rw [htk] at hE hO
    rw [if_neg (by simp)] at hE hO
    refine ldB_of (x := F.hasD) (hF.blk.cells 10 _ rfl) ?_
    refine cond_of (fun e => ?_) fun e => ?_
    · have e : F.hasD = false := by simpa using e
      rw [if_pos (.inl e)] at hE
      exact hE (show (3 : Nat) ≠ 0 by decide) w6 hBw6
    have e3 : F.hasD = true := by simpa using e
    have h46 : Blk w6 w2.heap.size ty_png_Head (T_png_Head.rep.cells h) := h45.below hB56 hs2g
    refine ldI_of (x := h.Color) (h46.cells 3 _ rfl) ?_
    refine cond_of (fun e => ?_) fun e => ?_
    · have e : h.Color = 3 := eq_of_beq e
      refine ldB_of (x := F.hasP) (hF.blk.cells 7 _ rfl) ?_
      refine cond_of (fun e4 => ?_) fun e4 => ?_
      · have e4 : F.hasP = false := by simpa using e4
        rw [if_pos (.inr ⟨e, e4⟩)] at hE
        exact hE (show (3 : Nat) ≠ 0 by decide) w6 hBw6
      · have e4 : F.hasP = true := by simpa using e4
        rw [if_neg (by rw [e3, e4]; simp)] at hO
        exact hO rfl g g p t d w6 hF (by have := hB1.size; omega) hBw6
    · have e : h.Color ≠ 3 := by simpa using e
      rw [if_neg (by rw [e3]; simp [e])] at hO
      exact hO rfl g g p t d w6 hF (by have := hB1.size; omega) hBw6

theorem Decode_spec {b : Slc} {bs : List UInt8} {pixels : Int} {K : T_api_Matrix → Int → World → Prop} (hb : Rd E_uint8 w b bs) (hbl : ∀ k, b.blk = some k → k < w.heap.size) (hl : bs.length ≤ 1000000) (hpx : pixels ≤ 4000000)
    (hE : (decodeP bs pixels).1 ≠ 0 → ∀ w', Below w.heap.size w w' → K ⟨0, 0, ⟨none, 0, 0⟩⟩ ((decodeP bs pixels).1 : Nat) w')
    (hO : ∀ W H m, decodeP bs pixels = (0, W, H, m) → ∀ s w', Go.Vc.Own E_uint8 w' w.heap.size s m → m.length = 4 * W * H → Below w.heap.size w w' → K ⟨W, H, s⟩ 0 w') : c_png_Decode b pixels w K := by
  refine call_png_Decode _ _ ?_
  unfold sh_png_Decode
  refine nw_blk fun w1 h1 hB1 hs1 => ?_
  unfold decodeP at hE hO
  have bad : ∀ (n : Nat) w2, Below w1.heap.size w1 w2 → (∀ w', Below w.heap.size w w' → K ⟨0, 0, ⟨none, 0, 0⟩⟩ (n : Int) w') → stK ⟨w.heap.size, 0, none⟩ [(.int .i64 0), (.int .i64 0), (.slice none 0 0)] w2 fun w3 => ldS T_api_Matrix.rep ⟨w.heap.size, 0, none⟩ w3 fun r => K r (n : Int) w3 := fun n w2 hB hk =>
    res_of (r := T_api_Matrix.rep) (x := ⟨0, 0, ⟨none, 0, 0⟩⟩) (h1.ext hB) rfl rfl fun w3 hc3 hs3 => hk w3 (below_one (below_t hB1 hB) hc3 (Nat.le_refl _))
  refine pRead_spec (hb.ext hB1) (fun k hk => by have := hbl k hk; omega) hl (fun hne w2 hB2 => ?_) (fun h0 g bb p t d w2 hF hgl hB2 => ?_)
  · rw [if_pos hne] at hE
    exact cond_t (bneI_t (by omega)) (bad _ w2 hB2 (hE hne))
  obtain ⟨hok, harea, hd, hp, ht⟩ := readAll_ok h0
  rw [if_neg (by omega)] at hE hO
  obtain ⟨F, hFe⟩ : ∃ F, F = (readAll bs pixels).2 := ⟨_, rfl⟩
  rw [← hFe] at hE hO hF hok harea hd hp ht
  obtain ⟨⟨W, H, hh⟩, hco⟩ := checkP_ok hok.hd
  have hmul : F.h.W * F.h.H = ((W * H : Nat) : Int) := by rw [hh.w, hh.h]; simp
  rw [hmul] at harea
  have hneed := needP_le hh (M := W * H) (Nat.le_refl _)
  refine cond_f rfl (onPtr_a ?_)
  refine ldS_of (r := T_png_Head.rep) (x := F.h) (by rw [add_zero]; exact hF.head) ?_
  refine need_spec hh fun w4 hB4 => onPtr_a ?_
  have hF4 := hF.ext hB4
  have hB24 := below_t hB2 hB4
  refine ldSl_of (x := d) (hF4.blk.cells 9 _ rfl) ?_
  obtain ⟨u1, u2, u3⟩ := unRun_spec (needP F.h) F.data
  unfold decF at hE hO
  refine Unpack_spec (by omega) hF4.data.rd (fun k hk => (hF4.data.lt k hk).2) (by omega) u1 u2 u3 (fun hz o w5 ho hB5 => ?_) (fun n hz hn w5 hB5 => ?_)
  · have hz : unErr (needP F.h) F.data = 0 := hz
    rw [hz, if_neg (by decide)] at hE hO
    have hB15 := below_t hB24 hB5
    have hF5 := hF4.ext hB5
    have hu : ((6 + ((unRun (needP F.h) F.data).2.1 + 7) / 8 : Nat) : Int) = ((unUsed (needP F.h) F.data : Nat) : Int) := rfl
    rw [hu, ho.rd.n]
    have hoo : (unRun (needP F.h) F.data).1.hist = unOut (needP F.h) F.data := rfl
    rw [hoo] at ho ⊢
    obtain ⟨xs, hxs⟩ : ∃ xs, xs = unOut (needP F.h) F.data := ⟨_, rfl⟩
    rw [← hxs] at ho hE hO ⊢
    have hxm : xs.length ≤ needP F.h := by rw [hxs]; exact u1.most (Nat.zero_le _)
    refine joinP_of fun J1 hJ1 => ?_
    refine cond_f rfl (joinP_of fun J2 hJ2 => ?_)
    have key : ∀ bb' : Bool, (bb' = true ↔ xs.length < needP F.h ∨ unUsed (needP F.h) F.data < F.data.length) → J2 (bb', ()) w5 := by
      intro bb' hbb
      refine hJ2 _ _ (cond_of (fun e => ?_) fun e => ?_)
      · rw [if_pos (hbb.1 e)] at hE
        exact bad 3 w5 hB15 (hE (show (3 : Nat) ≠ 0 by decide))
      · have hn : ¬ (xs.length < needP F.h ∨ unUsed (needP F.h) F.data < F.data.length) := fun h => by rw [hbb.2 h] at e; cases e
        rw [if_neg hn] at hE hO
        refine hJ1 _ _ ?_
        refine pixels_spec hF5 hok hh (by omega) (by omega) (by omega) ho.rd (by omega) (by omega) (fun hpn w7 hB7 => ?_) (fun m hpm s w7 hs hml hB7 => ?_)
        · rw [hpn] at hE
          exact bad 3 w7 (below_t hB15 hB7) (hE (show (3 : Nat) ≠ 0 by decide))
        · rw [hpm] at hO
          have hB17 := below_t hB15 hB7
          refine res_of (r := T_api_Matrix.rep) (x := ⟨W, H, s⟩) (h1.ext hB17) rfl rfl fun w8 hc8 hs8 => ?_
          have e1 : (0, F.h.W.toNat, F.h.H.toNat, m) = (0, W, H, m) := by rw [hh.wn, hh.hn]
          exact hO W H m e1 s w8 ((hs.chg hc8 fun k hk => own_ne_blk hs (h1.ext hB17) (by decide) k hk).base (by have := hB1.size; have := hB15.size; omega)) hml (below_one (below_t hB1 hB17) hc8 (Nat.le_refl _))
    refine cond_of (fun e => key _ ?_) fun e => ?_
    · have e := of_decide_eq_true e
      simp
      exact .inl (by omega)
    · have e := of_decide_eq_false e
      refine onPtr_a (ldSl_of (x := d) (hF5.blk.cells 9 _ rfl) (key _ ?_))
      rw [hF5.data.rd.n, decide_eq_true_iff]
      omega
  · have hz : unErr (needP F.h) F.data = n := hz
    rw [hz, if_pos hn] at hE
    refine joinP_of fun J1 hJ1 => ?_
    exact cond_t (bneI_t (by omega)) (bad n w5 (below_t hB24 hB5) (hE hn))
end
end Go.Proofs.YtmagnpcgpinmcaaGreat

set_option linter.unusedVariables false
namespace Go.Proofs.YtmagnpcgpinmcaaGreat
open Go.Vc Go.RowKit
set_option maxRecDepth 400000
theorem bcells_replicate (n : Nat) : bcells (List.replicate n 0) = List.replicate n (.int .u8 0) := by
  unfold bcells
  rw [List.map_replicate]
  rfl
/-- make([]byte, n, m). -/
theorem mkB {n m : Nat} {l c : Int} (hl : l = n) (hc : c = m) (hnm : n ≤ m) (hm : m ≤ 100000000000) {w : World} {K : Slc → World → Prop}
    (hK : ∀ w', Go.Vc.Own E_uint8 w' w.heap.size ⟨some ⟨w.heap.size, 0, none⟩, n, m⟩ (List.replicate n 0) → Below w.heap.size w w' → K ⟨some ⟨w.heap.size, 0, none⟩, n, m⟩ w') : mkSl PG ty_sl_uint8 (.int .i64 l) (.int .i64 c) w K := by
  subst hl hc
  have hr := run_make (P := PG) w ty_sl_uint8 E_uint8.t sT_sl_uint8.i sT_sl_uint8.z sT_sl_uint8.ht sT_sl_uint8.hi sT_sl_uint8.hz .i64 .i64 (n : Int) (m : Int) (by omega) (by omega) (by rw [by_sl_uint8]; omega) (by omega)
  refine ⟨⟨some ⟨w.heap.size, 0, none⟩, n, m⟩, _, by simpa using hr, hK _ ?_ ((Below.refl _ w).alloc (Nat.le_refl _) _)⟩
  have hcur : (madeCells sT_sl_uint8.z.cells ((m : Int).toNat * sT_sl_uint8.i.size)).toList = List.replicate m (.int .u8 0) := by
    have hs : sT_sl_uint8.i.size = 1 := sT_sl_uint8.hs
    rw [hs, Int.toNat_natCast, Nat.mul_one]
    refine List.ext_getElem? fun j => ?_
    have hz : sT_sl_uint8.z.cells = #[.int .u8 0] := rfl
    rw [hz]
    by_cases hj : j < m
    · rw [Array.getElem?_toList, List.getElem?_replicate, if_pos hj]
      simp [madeCells, hj]
      rw [Nat.mod_one]
      rfl
    · rw [List.getElem?_eq_none (by simp [madeCells]; omega), List.getElem?_eq_none (by simp; omega)]
  have hb : Blk (w.alloc (.cells (madeCells sT_sl_uint8.z.cells ((m : Int).toNat * sT_sl_uint8.i.size)) E_uint8.t)) w.heap.size E_uint8.t (List.replicate m (.int .u8 0)) := by
    have := Blk.new w E_uint8.t (madeCells sT_sl_uint8.z.cells ((m : Int).toNat * sT_sl_uint8.i.size)).toList
    rw [hcur, ← hcur, Array.toArray_toList] at this
    rw [hcur] at this
    exact this
  have := Go.Vc.Own.of_blk (E := E_uint8) (xs := List.replicate n (0 : UInt8)) (c := m) (base := w.heap.size) (Nat.le_refl _) hb (by simpa using hnm) (by unfold maxLen; omega) (by rw [List.length_replicate]; exact (Nat.mul_one _).symm) (by
    rw [bcells_flat, bcells_replicate, List.length_replicate]
    show (List.replicate m _).take (n * 1) = _
    rw [Nat.mul_one, List.take_replicate, Nat.min_eq_left hnm])
  simpa using this
section
variable {w : World}
end
end Go.Proofs.YtmagnpcgpinmcaaGreat

set_option linter.unusedVariables false
namespace Go.Proofs.YtmagnpcgpinmcaaGreat
open Go.Vc Go.RowKit
set_option maxRecDepth 400000
section
variable {w : World}
end
end Go.Proofs.YtmagnpcgpinmcaaGreat

set_option linter.unusedVariables false
namespace Go.Proofs.YtmagnpcgpinmcaaGreat
open Go.Vc Go.RowKit
set_option maxRecDepth 400000
section
variable {w : World}
end
end Go.Proofs.YtmagnpcgpinmcaaGreat

set_option linter.unusedVariables false
namespace Go.Proofs.YtmagnpcgpinmcaaGreat
open Go.Vc
set_option maxRecDepth 400000
/-! ### Packed bytes -/
/-! ### Chunks that are laid -/
/-! ### The head -/
/-! ### Rows -/
end Go.Proofs.YtmagnpcgpinmcaaGreat

set_option linter.unusedVariables false
namespace Go.Proofs.YtmagnpcgpinmcaaGreat
open Go.Vc
set_option maxRecDepth 400000
/-! ### A turned bit -/
/-! ### Other chunks between -/
end Go.Proofs.YtmagnpcgpinmcaaGreat

set_option linter.unusedVariables false
namespace Go.Proofs.YtmagnpcgpinmcaaGreat
open Go.Vc Go.RowKit
set_option maxRecDepth 400000
section
variable {w : World}
end
end Go.Proofs.YtmagnpcgpinmcaaGreat

set_option linter.unusedVariables false
namespace Go.Proofs.YtmagnpcgpinmcaaGreat
open Go.Vc Go.RowKit
set_option maxRecDepth 400000
section
variable {w : World}
end
end Go.Proofs.YtmagnpcgpinmcaaGreat

set_option linter.unusedVariables false
namespace Go.Proofs.YtmagnpcgpinmcaaGreat
open Go.Vc Go.RowKit
set_option maxRecDepth 400000
section
variable {w : World}
end
end Go.Proofs.YtmagnpcgpinmcaaGreat

set_option linter.unusedVariables false
namespace Go.Vc
open Go.ChangeShapes Go.WideShapes Go.ChangeAt Go.RowKit Go.Deep
/-! ### Types that hold slices of one element type among their leaves -/
section
variable {H : Type} {enc : TypeId × Value → H} {P : Program} {w : World} {base : Nat} {spare : Nat → Bool} {held : Bool}
end
end Go.Vc
namespace Go.Proofs.YtmagnpcgpinmcaaGreat
open Go.Vc Go.ChangeShapes Go.WideShapes Go.ChangeAt Go.RowKit
set_option maxRecDepth 100000
section
variable {H : Type} {enc : TypeId × Value → H} {w : World} {base : Nat} {held : Bool} {r : Reach} {b0 : Nat} {v : Value} {d : DataW H} {p : List MemPlace}
end
section
variable {H : Type} {enc : TypeId × Value → H} {w : World} {base : Nat} {held : Bool} {r : Reach} {b0 : Nat} {v : Value} {d : DataW H} {p : List MemPlace}
end
end Go.Proofs.YtmagnpcgpinmcaaGreat

set_option linter.unusedVariables false
namespace Go.Proofs.YtmagnpcgpinmcaaGreat
open Go.Vc Go.ChangeShapes Go.WideShapes Go.ChangeAt Go.RowKit
set_option maxRecDepth 100000
section
variable {H : Type} {enc : TypeId × Value → H} {w : World} {base : Nat} {held : Bool} {r : Reach} {b0 : Nat} {v : Value} {d : DataW H} {p : List MemPlace}
end
end Go.Proofs.YtmagnpcgpinmcaaGreat

set_option linter.unusedVariables false
namespace Go.Proofs
open Go.Shelf
def Tryz.lays137_ren : Go.Shelf.Ren := ⟨fun | 137 => 180 | 217 => 203 | 266 => 214 | n => n, fun | 9 => 9 | 5 => 5 | 3 => 3 | n => n, fun | n => n⟩
theorem Tryz.lays137 : Go.Proofs.Lays.n137 Tryz.prog Tryz.lays137_ren := {
  mixed := by kernel_rfl
  f137 := Tryz.func180.trans (congrArg some (by kernel_rfl))
  f217 := Tryz.func203.trans (congrArg some (by kernel_rfl))
  f266 := Tryz.func214.trans (congrArg some (by kernel_rfl))
  t3 := Tryz.underlying3
  a3 := Tryz.isAgg3
  z3 := Tryz.sizeOf3
  v3 := Tryz.zeroValue3
  t5 := Tryz.underlying5
  a5 := Tryz.isAgg5
  z5 := Tryz.sizeOf5
  v5 := Tryz.zeroValue5
  t9 := Tryz.underlying9
  a9 := Tryz.isAgg9
  z9 := Tryz.sizeOf9
  v9 := Tryz.zeroValue9 }
open Go.RowKit in
/-- strings.IndexByte: "IndexByte returns the index of the first instance of c in s, or -1 if c is not present in s.": IT RETURNS 'Lib.indexByte s c'; the world is as it was. (LAID: no walk: one application.) -/
theorem Tryz.strings_IndexByte (s : ByteArray) (c : Int) (w : World) :
    Calls Tryz.prog 180 #[.string s, .int .u8 c] w fun e w' => e = .returned (.int .i64 (Lib.indexByte s.data.toList c.toNat.toUInt8)) ∧ w' = w := Any.strings_IndexByte Tryz.lays137 s c w
end Go.Proofs

set_option linter.unusedVariables false
namespace Go.Proofs.YtmagnpcgpinmcaaGreat
open Go.Vc Go.RowKit
set_option maxRecDepth 400000
def alphaL : List UInt8 := [65, 66, 67, 68, 69, 70, 71, 72, 73, 74, 75, 76, 77, 78, 79, 80, 81, 82, 83, 84, 85, 86, 87, 88, 89, 90, 97, 98, 99, 100, 101, 102, 103, 104, 105, 106, 107, 108, 109, 110, 111, 112, 113, 114, 115, 116, 117, 118, 119, 120, 121, 122, 48, 49, 50, 51, 52, 53, 54, 55, 56, 57, 43, 47]
/-- A sign's six bits. -/
def valB (c : UInt8) : Option Nat :=
  if 65 ≤ c.toNat ∧ c.toNat ≤ 90 then some (c.toNat - 65) else if 97 ≤ c.toNat ∧ c.toNat ≤ 122 then some (c.toNat - 97 + 26) else if 48 ≤ c.toNat ∧ c.toNat ≤ 57 then some (c.toNat - 48 + 52) else if c.toNat = 43 then some 62 else if c.toNat = 47 then some 63 else none
theorem valB_lt {c : UInt8} {v : Nat} (h : valB c = some v) : v < 64 := by
  unfold valB at h
  repeat' split at h
  all_goals (first | (cases h; omega) | cases h)
def valI (c : UInt8) : Int := match valB c with | some v => (v : Int) | none => -1
theorem all_bytes {P : UInt8 → Prop} (h : ∀ n, n < 256 → P (UInt8.ofNat n)) (c : UInt8) : P c := by
  have := h c.toNat c.toNat_lt
  rwa [UInt8.ofNat_toNat] at this
theorem alpha_ix (c : UInt8) : Lib.indexByte alphaL c = valI c := by
  have h : ∀ n, n < 256 → Lib.indexByte alphaL (UInt8.ofNat n) = valI (UInt8.ofNat n) := by decide +kernel
  exact all_bytes (P := fun c => Lib.indexByte alphaL c = valI c) h c
structure B64 where
  w : List Nat
  f : Nat
  last : Bool
  bad : Bool
def b64N : B64 := ⟨[], 0, false, false⟩
def b64X : B64 := ⟨[], 0, false, true⟩
def valN (w : List Nat) : Nat := w.foldl (fun a x => 64 * a + x) 0
def be3 (v : Nat) : List UInt8 := [UInt8.ofNat (v / 2 ^ 16), UInt8.ofNat (v / 2 ^ 8), UInt8.ofNat v]
def outB (w : List Nat) : List UInt8 := (be3 (valN w * 2 ^ (6 * (4 - w.length)))).take (w.length * 6 / 8)
def cleanB (w : List Nat) : Bool := decide (valN w % 2 ^ (w.length * 6 % 8) = 0)
def b64fin (s : B64) : List UInt8 × B64 := if s.w.length + s.f < 4 then ([], s) else (outB s.w, ⟨[], 0, decide (0 < s.f), false⟩)
def b64put (s : B64) (c : UInt8) : Option (List UInt8 × B64) :=
  if s.last then none
  else if c.toNat = 61 then (if s.w.length + s.f < 2 ∨ cleanB s.w = false then none else some (b64fin { s with f := s.f + 1 }))
  else match valB c with
    | none => none
    | some v => if 0 < s.f then none else some (b64fin { s with w := s.w ++ [v] })
def b64Put (s : B64) (c : UInt8) : Nat × List UInt8 × B64 :=
  if s.bad then (3, [], b64X) else match b64put s c with
    | none => (3, [], b64X)
    | some (o, s') => (0, o, s')
def b64End (s : B64) : Nat × List UInt8 × B64 :=
  if s.bad ∨ s.w.length + s.f = 1 ∨ 0 < s.f ∨ cleanB s.w = false then (3, [], b64X) else (0, outB s.w, b64N)
structure B64Ok (s : B64) : Prop where
  n : s.w.length + s.f < 4
  v : ∀ x ∈ s.w, x < 64
  two : 0 < s.f → 2 ≤ s.w.length
theorem valN_snoc (w : List Nat) (x : Nat) : valN (w ++ [x]) = 64 * valN w + x := by simp [valN]
theorem valF_lt : ∀ (w : List Nat) (a n : Nat), a < 64 ^ n → (∀ x ∈ w, x < 64) → w.foldl (fun a x => 64 * a + x) a < 64 ^ (n + w.length)
  | [], a, n, h, _ => by simpa using h
  | x :: w, a, n, h, hw => by
    have hx := hw x (by simp)
    have := valF_lt w (64 * a + x) (n + 1) (by rw [Nat.pow_succ]; omega) fun y hy => hw y (by simp [hy])
    rw [List.foldl_cons, List.length_cons, show n + (w.length + 1) = n + 1 + w.length by omega]
    exact this
theorem valN_lt (w : List Nat) (h : ∀ x ∈ w, x < 64) : valN w < 64 ^ w.length := by
  have := valF_lt w 0 0 (by decide) h
  rwa [Nat.zero_add] at this
theorem b64X_ok : B64Ok b64X := ⟨by decide, by simp [b64X], by simp [b64X]⟩
theorem b64N_ok : B64Ok b64N := ⟨by decide, by simp [b64N], by simp [b64N]⟩
theorem b64fin_ok {s : B64} (h1 : s.w.length + s.f ≤ 4) (h2 : ∀ x ∈ s.w, x < 64) (h3 : 0 < s.f → 2 ≤ s.w.length) : B64Ok (b64fin s).2 := by
  unfold b64fin
  split
  · exact ⟨by assumption, h2, h3⟩
  · exact ⟨by simp, by simp, by simp⟩
theorem b64Put_ok {s : B64} (h : B64Ok s) (c : UInt8) : B64Ok (b64Put s c).2.2 := by
  unfold b64Put
  split
  · exact b64X_ok
  · cases hp : b64put s c with
    | none => exact b64X_ok
    | some r =>
      obtain ⟨o, s'⟩ := r
      show B64Ok s'
      unfold b64put at hp
      split at hp
      · cases hp
      · split at hp
        · split at hp
          · cases hp
          · rename_i hc
            have := Option.some.inj hp
            have e : s' = (b64fin { s with f := s.f + 1 }).2 := by rw [this]
            rw [e]
            refine b64fin_ok (by have := h.n; show s.w.length + (s.f + 1) ≤ 4; omega) h.v fun _ => ?_
            show 2 ≤ s.w.length
            by_cases hf : 0 < s.f
            · exact h.two hf
            · omega
        · cases hv : valB c with
          | none => rw [hv] at hp; cases hp
          | some v =>
            rw [hv] at hp
            dsimp only at hp
            split at hp
            · cases hp
            · rename_i hf
              have := Option.some.inj hp
              have e : s' = (b64fin { s with w := s.w ++ [v] }).2 := by rw [this]
              rw [e]
              refine b64fin_ok (by have := h.n; show (s.w ++ [v]).length + s.f ≤ 4; rw [List.length_append, List.length_singleton]; omega) (fun x hx => ?_) fun h0 => absurd h0 hf
              rcases List.mem_append.1 hx with hx | hx
              · exact h.v x hx
              · rw [List.mem_singleton] at hx; subst hx; exact valB_lt hv
theorem outB_len (w : List Nat) (h : w.length ≤ 4) : (outB w).length = w.length * 6 / 8 := by
  unfold outB
  rw [List.length_take]
  show min _ 3 = _
  omega
def dCells (s : B64) : List Value := [.int .u32 (valN s.w : Int), .int .i64 ((s.w.length + s.f : Nat) : Int), .int .i64 (s.f : Int), .bool s.last, .bool s.bad]
def DecB (w : World) (g : Nat) (s : B64) : Prop := Blk w g ty_base64_Decoder (dCells s)
section
variable {w : World} {g : Nat} {s : B64}
theorem IndexByte_spec {bs : List UInt8} {c : UInt8} {i : Int} (hi : i = c.toNat) {K : Int → World → Prop} (hK : K (Lib.indexByte bs c) w) : c_strings_IndexByte (strB bs) i w K := by
  subst hi
  refine Calls.mono (Tryz.strings_IndexByte (strB bs) c.toNat w) ?_
  rintro e w' ⟨rfl, rfl⟩
  refine ⟨_, rfl, ?_⟩
  rw [show ((c.toNat : Int)).toNat.toUInt8 = c by simp]
  exact hK
theorem pow64_le {n : Nat} (h : n ≤ 4) : 64 ^ n ≤ 16777216 := Nat.le_trans (Nat.pow_le_pow_right (by decide) h) (by decide)
theorem dbytes_spec (h : DecB w g s) (hn : s.w.length + s.f ≤ 4) (hv : ∀ x ∈ s.w, x < 64) {K : Slc → World → Prop} (hK : ∀ t w', Rd E_uint8 w' t (outB s.w) → (∀ k, t.blk = some k → w.heap.size ≤ k) → DecB w' g s → Below w.heap.size w w' → K t w') : c_base64_Decoder_bytes (some ⟨g, 0, none⟩) w K := by
  refine call_base64_Decoder_bytes _ ?_
  unfold sh_base64_Decoder_bytes
  simp only [onPtr_some]
  have hvl := Nat.lt_of_lt_of_le (valN_lt s.w hv) (pow64_le (n := s.w.length) (by omega))
  have hd : DecB w.drew g s := h.ext (below_drew w)
  have hdd : DecB w.drew.drew g s := hd.ext (below_drew _)
  refine ldI_of (x := (valN s.w : Int)) (hd.cells 0 _ rfl) (ldI_of (x := ((s.w.length + s.f : Nat) : Int)) (hd.cells 1 _ rfl) (ldI_of (x := (s.f : Int)) (hd.cells 2 _ rfl) ?_))
  have es : IntKind.i64.wrap ((6 : Int) * (IntKind.i64.wrap ((IntKind.i64.wrap ((4 : Int) - ((s.w.length + s.f : Nat) : Int))) + (s.f : Int)))) = ((6 * (4 - s.w.length) : Nat) : Int) := by
    rw [wrap64_id (x := (4 : Int) - ((s.w.length + s.f : Nat) : Int)) (by omega), wrap64_id (x := (4 : Int) - ((s.w.length + s.f : Nat) : Int) + (s.f : Int)) (by omega), wrap64_id (by omega)]
    omega
  rw [es]
  refine ⟨by omega, by decide, by decide, ?_⟩
  refine ldI_of (x := ((s.w.length + s.f : Nat) : Int)) (hdd.cells 1 _ rfl) (ldI_of (x := (s.f : Int)) (hdd.cells 2 _ rfl) ⟨by decide, ?_⟩)
  have hpw : valN s.w * 2 ^ (6 * (4 - s.w.length)) < 2 ^ 24 := by
    have h1 := valN_lt s.w hv
    have e : (64 : Nat) ^ s.w.length = 2 ^ (6 * s.w.length) := by rw [Nat.pow_mul]
    rw [e] at h1
    have h2 : valN s.w * 2 ^ (6 * (4 - s.w.length)) < 2 ^ (6 * s.w.length) * 2 ^ (6 * (4 - s.w.length)) := Nat.mul_lt_mul_of_pos_right h1 (Nat.pow_pos (by decide))
    rw [← Nat.pow_add, show 6 * s.w.length + 6 * (4 - s.w.length) = 24 by omega] at h2
    exact h2
  have ev : IntKind.u32.wrap ((valN s.w : Int) * 2 ^ (min ((6 * (4 - s.w.length) : Nat) : Int).toNat IntKind.u32.bits)) = ((valN s.w * 2 ^ (6 * (4 - s.w.length)) : Nat) : Int) := by
    rw [Int.toNat_natCast, show min (6 * (4 - s.w.length)) IntKind.u32.bits = 6 * (4 - s.w.length) by show min _ 32 = _; omega, mul_pow_nat]
    exact wrap_nat .u32 (show _ < 2 ^ 32 by omega)
  rw [ev]
  obtain ⟨V, hV⟩ : ∃ V, V = valN s.w * 2 ^ (6 * (4 - s.w.length)) := ⟨_, rfl⟩
  rw [← hV, show min ((16 : Int)).toNat IntKind.u32.bits = 16 by decide, show min ((8 : Int)).toNat IntKind.u32.bits = 8 by decide, fdiv_nat, fdiv_nat, wrap8_of, wrap8_of, wrap8_of]
  refine nw_blk fun w1 h1 hB1 hs1 => ?_
  have hBw1 := below_t (below_t (below_drew w) (below_drew _)) hB1
  have h11 : DecB w1 g s := h.ext hBw1
  refine ⟨h11.cells 2 _ rfl, h11.cells 1 _ rfl, ?_⟩
  have el : IntKind.i64.wrap ((IntKind.i64.wrap ((IntKind.i64.wrap (((s.w.length + s.f : Nat) : Int) - (s.f : Int))) * (6 : Int))).tdiv (8 : Int)) = ((s.w.length * 6 / 8 : Nat) : Int) := by
    rw [wrap64_id (x := ((s.w.length + s.f : Nat) : Int) - (s.f : Int)) (by omega), show ((s.w.length + s.f : Nat) : Int) - (s.f : Int) = (s.w.length : Int) by omega, wrap64_id (x := (s.w.length : Int) * 6) (by omega), show (s.w.length : Int) * 6 = ((s.w.length * 6 : Nat) : Int) by simp, show (8 : Int) = ((8 : Nat) : Int) from rfl, ← Int.ofNat_tdiv, wrap64_id (by omega)]
  rw [el]
  have hr : Rd E_uint8 w1 ⟨some ⟨w.drew.drew.heap.size, 0, none⟩, 3, 3⟩ (be3 V) := rd_lits (E := E_uint8) (ys := be3 V) h1 (by show 3 ≤ maxLen; simp [maxLen]) rfl
  refine hr.slK (l := 0) (m := s.w.length * 6 / 8) rfl (.inl ⟨rfl, rfl⟩) (.inr rfl) (by omega) (by show _ ≤ 3; omega) fun hp => ?_
  rw [List.drop_zero, hV] at hp
  refine hK _ w1 hp (fun k hk => ?_) h11 hBw1
  obtain ⟨a, ha, rfl⟩ := slk.1 hk
  obtain ⟨a', ha', e⟩ := cut_block (show cut (some ⟨w.drew.drew.heap.size, 0, none⟩) 0 3 1 = some a from ha)
  cases ha'
  rw [e]
  exact Nat.le_refl _
theorem dclean_spec (h : DecB w g s) (hn : s.w.length + s.f ≤ 4) (hv : ∀ x ∈ s.w, x < 64) {K : Bool → World → Prop} (hK : K (cleanB s.w) w.drew) : c_base64_Decoder_clean (some ⟨g, 0, none⟩) w K := by
  refine call_base64_Decoder_clean _ ?_
  unfold sh_base64_Decoder_clean
  simp only [onPtr_some]
  have hvl := Nat.lt_of_lt_of_le (valN_lt s.w hv) (pow64_le (n := s.w.length) (by omega))
  have hd : DecB w.drew g s := h.ext (below_drew w)
  refine ldI_of (x := (valN s.w : Int)) (hd.cells 0 _ rfl) (ldI_of (x := ((s.w.length + s.f : Nat) : Int)) (hd.cells 1 _ rfl) (ldI_of (x := (s.f : Int)) (hd.cells 2 _ rfl) ⟨by decide, ?_⟩))
  have el : ((IntKind.i64.wrap ((IntKind.i64.wrap (((s.w.length + s.f : Nat) : Int) - (s.f : Int))) * (6 : Int))).tmod (8 : Int)) = ((s.w.length * 6 % 8 : Nat) : Int) := by
    rw [wrap64_id (x := ((s.w.length + s.f : Nat) : Int) - (s.f : Int)) (by omega), show ((s.w.length + s.f : Nat) : Int) - (s.f : Int) = (s.w.length : Int) by omega, wrap64_id (x := (s.w.length : Int) * 6) (by omega), show (s.w.length : Int) * 6 = ((s.w.length * 6 : Nat) : Int) by simp, show (8 : Int) = ((8 : Nat) : Int) from rfl, ← Int.ofNat_tmod]
  rw [el]
  refine ⟨by omega, ?_⟩
  have hm : s.w.length * 6 % 8 < 8 := Nat.mod_lt _ (by decide)
  have hp : 2 ^ (s.w.length * 6 % 8) ≤ 2 ^ 8 := Nat.pow_le_pow_right (by decide) (by omega)
  have hp0 : 0 < 2 ^ (s.w.length * 6 % 8) := Nat.pow_pos (by decide)
  have em : IntKind.u32.wrap ((IntKind.u32.wrap ((1 : Int) * 2 ^ (min ((s.w.length * 6 % 8 : Nat) : Int).toNat IntKind.u32.bits))) - (1 : Int)) = ((2 ^ (s.w.length * 6 % 8) - 1 : Nat) : Int) := by
    rw [Int.toNat_natCast, show min (s.w.length * 6 % 8) IntKind.u32.bits = s.w.length * 6 % 8 by show min _ 32 = _; omega, show (1 : Int) = ((1 : Nat) : Int) from rfl, mul_pow_nat, Nat.one_mul]
    generalize 2 ^ (s.w.length * 6 % 8) = q at hp hp0 ⊢
    rw [wrap_nat .u32 (show q < 2 ^ 32 by omega), show (q : Int) - ((1 : Nat) : Int) = ((q - 1 : Nat) : Int) by omega]
    exact wrap_nat .u32 (show q - 1 < 2 ^ 32 by omega)
  rw [em, bits_and .u32 (show _ < 2 ^ 32 by omega) (show _ < 2 ^ 32 by omega), Nat.and_two_pow_sub_one_eq_mod]
  have : ((((valN s.w % 2 ^ (s.w.length * 6 % 8) : Nat) : Int)) == (0 : Int)) = cleanB s.w := by
    unfold cleanB
    generalize valN s.w % 2 ^ (s.w.length * 6 % 8) = q
    rw [Bool.eq_iff_iff]
    simp
  rw [this]
  exact hK
theorem dput_spec {c : UInt8} (h : DecB w g s) (hs : B64Ok s) (hb : s.bad = false) {K : Slc → Bool → World → Prop} (hN : b64put s c = none → ∀ w', Below w.heap.size w w' → K ⟨none, 0, 0⟩ false w')
    (hY : ∀ o s' t w', b64put s c = some (o, s') → Rd E_uint8 w' t o → (∀ k, t.blk = some k → w.heap.size ≤ k) → DecB w' g s' → Chg (fun k => k = g) w w' → K t true w') : c_base64_Decoder_put (some ⟨g, 0, none⟩) (c.toNat : Int) w K := by
  refine call_base64_Decoder_put _ _ ?_
  unfold sh_base64_Decoder_put
  simp only [onPtr_some]
  have hn := hs.n
  have hgl := h.lt
  refine IndexByte_spec (bs := alphaL) rfl ?_
  rw [alpha_ix]
  refine joinP_of fun J1 hJ1 => ?_
  have fin : ∀ s1 w2, s1.w.length + s1.f = s.w.length + s.f + 1 → s1.last = false → s1.bad = false → (∀ x ∈ s1.w, x < 64) → Blk w2 g ty_base64_Decoder [.int .u32 (valN s1.w : Int), .int .i64 ((s.w.length + s.f : Nat) : Int), .int .i64 (s1.f : Int), .bool s1.last, .bool s1.bad] → Chg (fun k => k = g) w w2 → b64put s c = some (b64fin s1) → J1 () w2 := by
    intro s1 w2 hl hla hba hv hb2 hc2 hp
    refine hJ1 _ _ ?_
    refine ldI_of (x := ((s.w.length + s.f : Nat) : Int)) (hb2.cells 1 _ rfl) ?_
    rw [add_mk, wrap64_id (by omega), show ((s.w.length + s.f : Nat) : Int) + 1 = ((s1.w.length + s1.f : Nat) : Int) by omega]
    refine stK_blk hb2 (by simp) fun w3 hb3 hg3 hs3 => ?_
    have hc3 : Chg (fun k => k = g) w2 w3 := Chg.gg hg3
    have hd3 : DecB w3 g s1 := hb3
    refine ldI_of (x := ((s1.w.length + s1.f : Nat) : Int)) (hd3.cells 1 _ rfl) ?_
    have hc03 := hc2.trans hc3 fun i _ hi => hi
    refine cond_of (fun e => ?_) fun e => ?_
    · have e := of_decide_eq_true e
      refine hY [] s1 ⟨none, 0, 0⟩ w3 ?_ (Rd.nil _ _) (fun k hk => by cases hk) hd3 hc03
      rw [hp]
      unfold b64fin
      rw [if_pos (by omega)]
    · have e := of_decide_eq_false e
      refine dbytes_spec hd3 (by omega) hv fun t w4 ht htb hd4 hB4 => ?_
      refine ldI_of (x := (s1.f : Int)) (hd4.cells 2 _ rfl) ?_
      refine all_of hd4 rfl fun w5 hd5 hc5 hs5 => ?_
      have hs13 := hc03.size
      refine hY (outB s1.w) ⟨[], 0, decide (0 < s1.f), false⟩ t w5 ?_ (ht.chg hc5 fun a ha e => ?_) (fun k hk => by have := htb k hk; omega) ?_ ?_
      · rw [hp]
        unfold b64fin
        rw [if_neg (by omega)]
      · have := htb a.block (slk.2 ⟨a, ha, rfl⟩); omega
      · have : decide ((s1.f : Int) > 0) = decide (0 < s1.f) := by rw [decide_eq_decide]; omega
        rw [this] at hd5
        exact hd5
      · exact (hc03.trans (Chg.of_ext (S := fun k => k = g) hB4) fun i _ hi => hi).trans hc5 fun i _ hi => hi
  unfold b64put at hN hY fin
  refine ldB_of (x := s.last) (h.cells 3 _ rfl) (cond_of (fun e => ?_) fun e1 => ?_)
  · have e : s.last = true := e
    rw [if_pos e] at hN
    exact hN rfl w (Below.refl _ _)
  have e1 : s.last = false := e1
  rw [if_neg (by rw [e1]; decide)] at hN hY fin
  refine cond_of (fun e => ?_) fun e2 => ?_
  · have e : c.toNat = 61 := by have := eq_of_beq e; omega
    rw [if_pos e] at hN hY fin
    refine joinP_of fun J2 hJ2 => ?_
    refine ldI_of (x := ((s.w.length + s.f : Nat) : Int)) (h.cells 1 _ rfl) (cond_of (fun e3 => ?_) fun e3 => ?_)
    · have e3 := of_decide_eq_true e3
      rw [if_pos (.inl (by omega))] at hN
      exact hN rfl w (Below.refl _ _)
    have e3 := of_decide_eq_false e3
    refine dclean_spec h (by omega) hs.v (cond_of (fun e4 => ?_) fun e4 => ?_)
    · have e4 : cleanB s.w = false := by simpa using e4
      rw [if_pos (.inr e4)] at hN
      exact hN rfl _ (below_drew w)
    have e4 : cleanB s.w = true := by simpa using e4
    rw [if_neg (by rw [e4]; simp; omega)] at fin
    refine hJ2 _ _ ?_
    have hd : DecB w.drew g s := h.ext (below_drew w)
    refine ldI_of (x := (s.f : Int)) (hd.cells 2 _ rfl) ?_
    rw [add_mk, wrap64_id (by omega)]
    refine stK_blk hd (by simp [dCells]) fun w3 hb3 hg3 hs3 => ?_
    have hc3 : Chg (fun k => k = g) w.drew w3 := Chg.gg hg3
    refine fin { s with f := s.f + 1 } w3 (by dsimp only; omega) e1 hb hs.v hb3 ((Chg.of_ext (S := fun k => k = g) (below_drew w)).trans hc3 fun i _ hi => hi) rfl
  · have e2 : c.toNat ≠ 61 := fun h => by rw [h] at e2; cases e2
    rw [if_neg e2] at hN hY fin
    refine joinP_of fun J3 hJ3 => ?_
    unfold valI
    cases hv : valB c with
    | none =>
      rw [hv] at hN
      refine cond_t (by decide) (hJ3 _ _ (cond_t rfl ?_))
      exact hN rfl w (Below.refl _ _)
    | some v =>
      rw [hv] at hN hY fin
      dsimp only at hN hY fin ⊢
      have hvl := valB_lt hv
      refine cond_f (decide_eq_false (by omega)) (ldI_of (x := (s.f : Int)) (h.cells 2 _ rfl) (hJ3 _ _ ?_))
      refine cond_of (fun e => ?_) fun e => ?_
      · have e := of_decide_eq_true e
        rw [if_pos (by omega)] at hN
        exact hN rfl w (Below.refl _ _)
      · have e := of_decide_eq_false e
        rw [if_neg (by omega)] at fin
        have hvn := Nat.lt_of_lt_of_le (valN_lt s.w hs.v) (Nat.le_trans (Nat.pow_le_pow_right (show 0 < 64 by decide) (show s.w.length ≤ 3 by omega)) (show (64 : Nat) ^ 3 ≤ 262144 by decide))
        refine ldI_of (x := (valN s.w : Int)) (h.cells 0 _ rfl) ⟨by decide, ?_⟩
        have ev : bitsR .or .u32 (IntKind.u32.wrap ((valN s.w : Int) * 2 ^ (min (6 : Int).toNat IntKind.u32.bits))) (IntKind.u32.wrap (v : Int)) = ((valN (s.w ++ [v]) : Nat) : Int) := by
          rw [show min ((6 : Int)).toNat IntKind.u32.bits = 6 by decide, mul_pow_nat, wrap_nat .u32 (x := valN s.w * 2 ^ 6) (by show _ < 2 ^ 32; omega), wrap_nat .u32 (x := v) (by show _ < 2 ^ 32; omega), bits_or .u32 (by show _ < 2 ^ 32; omega) (by show _ < 2 ^ 32; omega), valN_snoc]
          congr 1
          rw [Nat.or_comm, Nat.mul_comm, add_or (by omega)]
          omega
        rw [show valI c = (v : Int) by unfold valI; rw [hv], ev, add_mk]
        refine stK_blk h (by simp [dCells]) fun w3 hb3 hg3 hs3 => ?_
        have hc3 : Chg (fun k => k = g) w w3 := Chg.gg hg3
        refine fin { s with w := s.w ++ [v] } w3 (by dsimp only; rw [List.length_append, List.length_singleton]; omega) e1 hb (fun x hx => ?_) hb3 hc3 rfl
        rcases List.mem_append.1 hx with hx | hx
        · exact hs.v x hx
        · rw [List.mem_singleton] at hx; subst hx; exact hvl
theorem dPut_spec {c : UInt8} (h : DecB w g s) (hs : B64Ok s) {K : Slc → Int → World → Prop}
    (hK : ∀ t w', Rd E_uint8 w' t (b64Put s c).2.1 → (∀ k, t.blk = some k → w.heap.size ≤ k) → DecB w' g (b64Put s c).2.2 → Chg (fun k => k = g) w w' → K t ((b64Put s c).1 : Nat) w') : c_base64_Decoder_Put (some ⟨g, 0, none⟩) (c.toNat : Int) w K := by
  refine call_base64_Decoder_Put _ _ ?_
  unfold sh_base64_Decoder_Put
  simp only [onPtr_some]
  refine joinP_of fun J1 hJ1 => ?_
  unfold b64Put at hK
  have bad : (b64Put s c = (3, [], b64X)) → ∀ w2, DecB w2 g s → Chg (fun k => k = g) w w2 → J1 () w2 := by
    intro hp w2 h2 hc2
    unfold b64Put at hp
    rw [hp] at hK
    refine hJ1 _ _ (all_of h2 rfl fun w3 h3 hc3 hs3 => ?_)
    exact hK ⟨none, 0, 0⟩ w3 (Rd.nil _ _) (fun k hk => by cases hk) h3 (hc2.trans hc3 fun i _ hi => hi)
  refine ldB_of (x := s.bad) (h.cells 4 _ rfl) (cond_of (fun e => ?_) fun e => ?_)
  · have e : s.bad = false := by simpa using e
    rw [if_neg (by rw [e]; decide)] at hK
    refine dput_spec h hs e (fun hp w2 hB2 => cond_f rfl (bad ?_ w2 (h.ext hB2) (Chg.of_ext hB2))) (fun o s' t w2 hp ht htb hd hc => cond_t rfl ?_)
    · unfold b64Put
      rw [if_neg (by rw [e]; decide), hp]
    · rw [hp] at hK
      exact hK t w2 ht htb hd hc
  · have e : s.bad = true := by simpa using e
    refine bad ?_ w h (Chg.refl _ _)
    unfold b64Put
    rw [if_pos e]
theorem dEnd_spec (h : DecB w g s) (hs : B64Ok s) {K : Slc → Int → World → Prop}
    (hK : ∀ t w', Rd E_uint8 w' t (b64End s).2.1 → (∀ k, t.blk = some k → w.heap.size ≤ k) → DecB w' g (b64End s).2.2 → Chg (fun k => k = g) w w' → K t ((b64End s).1 : Nat) w') : c_base64_Decoder_End (some ⟨g, 0, none⟩) w K := by
  refine call_base64_Decoder_End _ ?_
  unfold sh_base64_Decoder_End
  simp only [onPtr_some]
  have hn := hs.n
  have hgl := h.lt
  refine joinP_of fun J1 hJ1 => joinP_of fun J2 hJ2 => ?_
  unfold b64End at hK
  have key : ∀ (bb : Bool) w2, (bb = true ↔ s.bad = true ∨ s.w.length + s.f = 1 ∨ 0 < s.f ∨ cleanB s.w = false) → DecB w2 g s → Below w.heap.size w w2 → J2 (bb, ()) w2 := by
    intro bb w2 hbb h2 hB2
    refine hJ2 _ _ (cond_of (fun e => ?_) fun e => ?_)
    · rw [if_pos (hbb.1 e)] at hK
      refine all_of h2 rfl fun w3 h3 hc3 hs3 => ?_
      exact hK ⟨none, 0, 0⟩ w3 (Rd.nil _ _) (fun k hk => by cases hk) h3 ((Chg.of_ext (S := fun k => k = g) hB2).trans hc3 fun i _ hi => hi)
    · rw [if_neg fun h => by rw [hbb.2 h] at e; cases e] at hK
      refine hJ1 _ _ (dbytes_spec h2 (by omega) hs.v fun t w3 ht htb h3 hB3 => ?_)
      refine call_base64_Decoder_Reset _ ?_
      unfold sh_base64_Decoder_Reset
      simp only [onPtr_some]
      refine all_of h3 rfl fun w4 h4 hc4 hs4 => ?_
      have hs2 := hB2.size
      refine hK t w4 (ht.chg hc4 fun a ha e => ?_) (fun k hk => by have := htb k hk; omega) h4 (((Chg.of_ext (S := fun k => k = g) hB2).trans (Chg.of_ext (S := fun k => k = g) hB3) fun i _ hi => hi).trans hc4 fun i _ hi => hi)
      have := htb a.block (slk.2 ⟨a, ha, rfl⟩); omega
  have hrf := Below.refl w.heap.size w
  refine ldB_of (x := s.bad) (h.cells 4 _ rfl) (cond_of (fun e => key _ w ?_ h hrf) fun e1 => ?_)
  · have e : s.bad = true := e
    simp [e]
  have e1 : s.bad = false := e1
  refine ldI_of (x := ((s.w.length + s.f : Nat) : Int)) (h.cells 1 _ rfl) (cond_of (fun e => key _ w ?_ h hrf) fun e2 => ?_)
  · have e : s.w.length + s.f = 1 := by have := eq_of_beq e; omega
    simp [e]
  have e2 : s.w.length + s.f ≠ 1 := fun h => by rw [h] at e2; cases e2
  refine ldI_of (x := (s.f : Int)) (h.cells 2 _ rfl) (cond_of (fun e => key _ w ?_ h hrf) fun e3 => ?_)
  · have e := of_decide_eq_true e
    exact iff_of_true rfl (.inr (.inr (.inl (by omega))))
  have e3 := of_decide_eq_false e3
  refine dclean_spec h (by omega) hs.v (key _ _ ?_ (h.ext (below_drew w)) (below_drew w))
  rw [e1]
  constructor
  · intro h; exact .inr (.inr (.inr (by simpa using h)))
  · rintro (h | h | h | h)
    · cases h
    · exact absurd h e2
    · omega
    · rw [h]; rfl
end
end Go.Proofs.YtmagnpcgpinmcaaGreat

set_option linter.unusedVariables false
namespace Go.Proofs.YtmagnpcgpinmcaaGreat
open Go.Vc Go.RowKit
set_option maxRecDepth 400000
structure LdK where
  k : T_keys_Keys
  most : Nat
  need : Nat
structure LdS where
  d : B64
  b : List UInt8
  err : Nat
  over : Bool
def takeE (C : LdK) (n : Nat) : Nat := if n > C.most then 6 else if C.k.Zip = 0 ∧ C.k.Format ≠ 100 ∧ n > C.need then 5 else 0
def failL (s : LdS) (e : Nat) : LdS := if s.err = 0 ∧ e ≠ 0 then { s with b := [], err := e } else s
/-- The decoder's answer taken. -/
def gotL (C : LdK) (s : LdS) (r : Nat × List UInt8 × B64) : LdS :=
  if r.1 ≠ 0 then failL { s with d := r.2.2 } r.1 else failL { s with d := r.2.2, b := s.b ++ r.2.1 } (takeE C (s.b ++ r.2.1).length)
def addC (C : LdK) (s : LdS) (c : UInt8) : LdS := if s.err ≠ 0 then s else gotL C s (b64Put s.d c)
def addL (C : LdK) (s : LdS) (text : List UInt8) : LdS := text.foldl (addC C) s
def endL (C : LdK) (s : LdS) : LdS := if s.err ≠ 0 then s else gotL C s (b64End s.d)
theorem addL_append (C : LdK) (s : LdS) (a b : List UInt8) : addL C s (a ++ b) = addL C (addL C s a) b := List.foldl_append
theorem addC_over (C : LdK) (s : LdS) (c : UInt8) : (addC C s c).over = s.over := by
  unfold addC gotL failL
  repeat' split
  all_goals rfl
theorem b64Put_len (s : B64) (hs : B64Ok s) (c : UInt8) : (b64Put s c).2.1.length ≤ 3 := by
  unfold b64Put
  split
  · simp
  · cases hp : b64put s c with
    | none => simp
    | some r =>
      obtain ⟨o, s'⟩ := r
      show o.length ≤ 3
      have fin : ∀ s1 : B64, some (b64fin s1) = some (o, s') → o.length ≤ 3 := by
        intro s1 h
        have : o = (b64fin s1).1 := by rw [Option.some.inj h]
        rw [this]
        unfold b64fin
        split
        · simp
        · unfold outB
          rw [List.length_take]
          exact Nat.min_le_right _ 3
      unfold b64put at hp
      split at hp
      · cases hp
      · split at hp
        · split at hp
          · cases hp
          · exact fin _ hp
        · split at hp
          · cases hp
          · split at hp
            · cases hp
            · exact fin _ hp
theorem gotL_len (C : LdK) (s : LdS) (r : Nat × List UInt8 × B64) : (gotL C s r).b.length ≤ s.b.length + r.2.1.length := by
  unfold gotL failL
  repeat' split
  all_goals simp
theorem addC_len (C : LdK) (s : LdS) (hs : B64Ok s.d) (c : UInt8) : (addC C s c).b.length ≤ s.b.length + 3 := by
  unfold addC
  split
  · omega
  · have h1 := gotL_len C s (b64Put s.d c)
    have h2 := b64Put_len s.d hs c
    omega
theorem addC_err {C : LdK} {s : LdS} (h : s.err ≠ 0) (c : UInt8) : addC C s c = s := by unfold addC; rw [if_pos h]
theorem addL_err {C : LdK} {s : LdS} (h : s.err ≠ 0) (l : List UInt8) : addL C s l = s := by
  induction l with
  | nil => rfl
  | cons c l ih => show addL C (addC C s c) l = s; rw [addC_err h]; exact ih

def lCells (gd : Nat) (C : LdK) (p : Slc) (held err : Nat) (over : Bool) : List Value := .pointer (some ⟨gd, 0, none⟩) :: (T_keys_Keys.rep.cells C.k ++ [.int .i64 (C.most : Int), .int .i64 (C.need : Int), .slice p.a p.n p.c, .int .i64 (held : Int), .int .i64 (err : Int), .bool over])
/-- The bytes held, in one piece at most. -/
def PcS (w : World) (B : Nat) (S : Nat → Prop) (p : Slc) (bs : List UInt8) : Prop :=
  (bs = [] ∧ p = ⟨none, 0, 0⟩) ∨ ∃ x, Go.Vc.Own E_sl_uint8 w B p [x] ∧ Go.Vc.Own E_uint8 w B x bs ∧ bs ≠ [] ∧ (∀ k, p.blk = some k → S k) ∧ (∀ k, x.blk = some k → S k)
structure LdA (w : World) (B g gd : Nat) (C : LdK) (s : LdS) (S : Nat → Prop) : Prop where
  ex : ∃ p : Slc, Blk w g ty_load_Loader (lCells gd C p s.b.length s.err s.over) ∧ PcS w B S p s.b
  d : DecB w gd s.d
  ok : B64Ok s.d
  sg : S g
  sd : S gd
  lt : ∀ k, S k → B ≤ k ∧ k < w.heap.size
section
variable {w : World} {B g gd : Nat} {C : LdK} {s : LdS} {S : Nat → Prop}
theorem PcS.chg {w' : World} {p : Slc} {bs : List UInt8} {T : Nat → Prop} (h : PcS w B S p bs) (hc : Chg T w w') (hT : ∀ k, S k → ¬ T k) : PcS w' B S p bs := by
  rcases h with h | ⟨x, h1, h2, h3, h4, h5⟩
  · exact .inl h
  · exact .inr ⟨x, h1.chg hc fun k hk => hT k (h4 k hk), h2.chg hc fun k hk => hT k (h5 k hk), h3, h4, h5⟩
theorem LdA.chg {w' : World} {T : Nat → Prop} (h : LdA w B g gd C s S) (hc : Chg T w w') (hT : ∀ k, S k → ¬ T k) : LdA w' B g gd C s S := by
  obtain ⟨⟨p, h1, h2⟩, h3, h4, h5, h6, h7⟩ := h
  exact ⟨⟨p, h1.chg hc (hT g h5), h2.chg hc hT⟩, Blk.chg h3 hc (hT gd h6), h4, h5, h6, fun k hk => ⟨(h7 k hk).1, Nat.lt_of_lt_of_le (h7 k hk).2 hc.size⟩⟩
theorem LdA.ext {w' : World} (h : LdA w B g gd C s S) (hB : Below w.heap.size w w') : LdA w' B g gd C s S := h.chg (Chg.of_ext (S := fun _ => False) hB) fun k _ hf => hf
end
end Go.Proofs.YtmagnpcgpinmcaaGreat

set_option linter.unusedVariables false
namespace Go.Proofs.YtmagnpcgpinmcaaGreat
open Go.Vc Go.RowKit
set_option maxRecDepth 400000
section
variable {w : World} {B g gd : Nat} {C : LdK} {s : LdS} {S : Nat → Prop}
theorem ltake_spec (h : LdA w B g gd C s S) (hBw : B ≤ w.heap.size) {t : Slc} {xs : List UInt8} (ht : Rd E_uint8 w t xs) (htS : ∀ k, t.blk = some k → ¬ S k) (hsm : s.b.length + xs.length ≤ 32768) {K : Int → World → Prop}
    (hK : ∀ S' w', LdA w' B g gd C { s with b := s.b ++ xs } S' → (∀ k, S' k → S k ∨ w.heap.size ≤ k) → Chg S w w' → K ((takeE C (s.b ++ xs).length : Nat) : Int) w') : c_load_Loader_take (some ⟨g, 0, none⟩) t w K := by
  obtain ⟨⟨p0, hb0, hp0⟩, hd0, hok, hsg, hsd, hlt⟩ := h
  refine call_load_Loader_take _ _ ?_
  unfold sh_load_Loader_take
  simp only [onPtr_some]
  rw [ht.n]
  refine loopP_rule (fun (st : Int × Unit) w1 => ∃ (i : Nat) (p : Slc) (S1 : Nat → Prop), st.1 = i ∧ i ≤ xs.length ∧ Blk w1 g ty_load_Loader (lCells gd C p s.b.length s.err s.over) ∧ PcS w1 B S1 p (s.b ++ xs.take i) ∧ DecB w1 gd s.d ∧ (∀ k, S k → S1 k) ∧ (∀ k, S1 k → S k ∨ w.heap.size ≤ k) ∧ (∀ k, S1 k → B ≤ k ∧ k < w1.heap.size) ∧ Chg S w w1) (fun st => xs.length - st.1.toNat)
    ⟨0, p0, S, rfl, by omega, hb0, by rw [List.take_zero, List.append_nil]; exact hp0, hd0, fun k hk => hk, fun k hk => .inl hk, hlt, Chg.refl _ _⟩ ?_
  rintro ⟨i, u⟩ w1 ⟨i, p, S1, rfl, hi, hb1, hp1, hd1, hS1, hS1', hlt1, hc1⟩ I hI
  dsimp only
  have hw1 := hc1.size
  refine cond_of (fun hl => ?_) fun hl => ?_
  · have hl := of_decide_eq_true hl
    have hil : i < xs.length := by omega
    obtain ⟨c, hc, _⟩ := get_of (xs := xs) (k := i) hil
    have ht1 := ht.chg hc1 fun a ha => htS a.block (slk.2 ⟨a, ha, rfl⟩)
    refine ht1.ix (i := (i : Int)) rfl (by omega) (by omega) fun _ => ?_
    rw [Int.toNat_natCast]
    refine ldI_of (x := (c.toNat : Int)) (rdcell ht1 hc) ?_
    refine joinP_of fun J2 hJ2 => ?_
    -- a byte behind those of the piece
    have app : ∀ (x q : Slc) (S2 : Nat → Prop) w2, Blk w2 g ty_load_Loader (lCells gd C q s.b.length s.err s.over) → Go.Vc.Own E_sl_uint8 w2 B q [x] → Go.Vc.Own E_uint8 w2 B x (s.b ++ xs.take i) → (∀ k, q.blk = some k → S2 k) → (∀ k, x.blk = some k → S2 k) → DecB w2 gd s.d → (∀ k, S k → S2 k) → (∀ k, S2 k → S k ∨ w.heap.size ≤ k) → (∀ k, S2 k → B ≤ k ∧ k < w2.heap.size) → Chg S w w2 → J2 () w2 := by
      intro x q S2 w2 hb2 hq hx hqS hxS hd2 hS2 hS2' hlt2 hc2
      refine hJ2 _ _ ?_
      have hw2 := hc2.size
      have hBd := below_drew w2
      have hb2d := hb2.ext hBd
      have hqd := hq.ext hBd
      have hxd := hx.ext hBd
      refine ldSl_of (x := q) (hb2d.cells 25 _ rfl) (ldSl_of (x := q) (hb2d.cells 25 _ rfl) ?_)
      have hqn : q.n = 1 := hq.rd.n
      have e0 : IntKind.i64.wrap (((q.n : Nat) : Int) - 1) = 0 := by rw [hqn]; decide
      rw [e0]
      refine hqd.rd.ix (i := 0) (k := 1) rfl (by omega) (by simp) fun hcell => ?_
      refine ldSl_of (x := x) (by
        have := hqd.rd.at_ 0 x rfl 0 _ rfl
        have h2 : w2.drew.cell? (q.at_ E_sl_uint8.k 0) = some (.slice x.a x.n x.c) := by simpa using this
        exact h2) ?_
      have hsz : w2.drew.heap.size = w2.heap.size := rfl
      refine apB1 (c := c) rfl hxd (by omega) (by rw [List.length_append, List.length_take]; omega) fun r w4 hr hc4 hrb => ?_
      have hq4 := hqd.chg hc4 fun k hk e => own_ne_row hqd hxd (by decide) k hk e
      have hb4 := hb2d.chg hc4 fun e => own_ne_blk hxd hb2d (by decide) g e rfl
      have hd4 : DecB w4 gd s.d := Blk.chg (hd2.ext hBd) hc4 fun e => own_ne_blk hxd (hd2.ext hBd) (by decide) gd e rfl
      refine hq4.st0 (i := 0) (x := x) (y := r) rfl rfl fun w5 hq5 hg5 hs5 => ?_
      have hc5 : Chg (fun k => q.blk = some k) w4 w5 := Chg.of_grown hg5 fun k hk => hk
      have hr5 := hr.chg hc5 fun k hk e => own_ne_row hq4 hr (by decide) k e hk
      have hb5 := hb4.chg hc5 fun e => own_ne_blk hq4 hb4 (by decide) g e rfl
      have hd5 : DecB w5 gd s.d := Blk.chg hd4 hc5 fun e => own_ne_blk hq4 hd4 (by decide) gd e rfl
      have hs4 := hc4.size
      have hs5' := hc5.size
      have hc25 : Chg S2 w2 w5 := ((Chg.of_ext (S := S2) hBd).trans hc4 fun k hk e => hxS k e).trans hc5 fun k hk e => hqS k e
      rw [wrap64_id (by omega)]
      refine hI _ _ ⟨i + 1, q, fun k => S2 k ∨ r.blk = some k, rfl, by omega, hb5, .inr ⟨r, hq5, ?_, ?_, fun k hk => .inl (hqS k hk), fun k hk => .inr hk⟩, hd5, fun k hk => .inl (hS2 k hk), fun k hk => ?_, fun k hk => ?_, ?_⟩ (by simp; omega)
      · have : xs.take (i + 1) = xs.take i ++ [c] := by rw [List.take_add_one, hc]; rfl
        rw [this, ← List.append_assoc]
        exact hr5
      · rw [List.take_add_one, hc]
        simp
      · rcases hk with hk | hk
        · exact hS2' k hk
        · rcases hrb with e | ⟨k', e, hge⟩
          · rw [e] at hk; exact hS2' k (hxS k hk)
          · rw [e] at hk; cases hk; right; omega
      · rcases hk with hk | hk
        · exact ⟨(hlt2 k hk).1, by have := (hlt2 k hk).2; omega⟩
        · have := hr5.lt k hk; exact ⟨this.1, this.2⟩
      · exact hc2.trans hc25 fun k hk hS => by
          rcases hS2' k hS with h | h
          · exact h
          · omega
    refine ldSl_of (x := p) (hb1.cells 25 _ rfl) (joinP_of fun J3 hJ3 => ?_)
    rcases hp1 with ⟨hnil, rfl⟩ | ⟨x, hq, hx, hne, hqS, hxS⟩
    · refine cond_t rfl (hJ3 _ _ (cond_t rfl ?_))
      have hBd := below_drew w1
      have hb1d := hb1.ext hBd
      refine ldSl_of (x := ⟨none, 0, 0⟩) (hb1d.cells 25 _ rfl) ?_
      refine mkB (n := 0) (m := 32768) rfl rfl (by omega) (by omega) fun w7 hx7 hB7 => ?_
      have hB17 := below_t hBd hB7
      have hb7 := hb1.ext hB17
      refine ⟨hb7.cells 25 _ rfl, nw_blk fun w8 h8 hB8 hs8 => ⟨(hb7.ext hB8).cells 25 _ rfl, ?_⟩⟩
      have hB18 := below_t hB17 hB8
      have hw8 := hB18.size
      refine apK_own sT_sl_sl_uint8 (E := E_sl_uint8) (base := B) (Own.nil E_sl_uint8 w8 B) (rd_one (E := E_sl_uint8) (y := ⟨some ⟨w1.drew.heap.size, 0, none⟩, 0, 32768⟩) h8 rfl) (by omega) (by rw [by_sl_sl_uint8]; simp) (by simp [maxLen]) fun q w9 hq9 hg9 hqb => ?_
      have hc9 : Chg (fun k => False) w8 w9 := Chg.of_grown hg9 fun k hk => by cases hk
      have hB9 : Below w8.heap.size w8 w9 := hc9.ext fun _ _ hf => hf
      have hb9 := (hb7.ext hB8).ext hB9
      have hq9 : Go.Vc.Own E_sl_uint8 w9 B q [⟨some ⟨w1.drew.heap.size, 0, none⟩, 0, 32768⟩] := hq9
      have hx9 := (hx7.ext hB8).ext hB9
      rw [add_mk]
      refine stK_blk hb9 (by simp [lCells, T_keys_Keys.rep]) fun w10 hb10 hg10 hs10 => ?_
      have hc10 : Chg (fun k => k = g) w9 w10 := Chg.gg hg10
      have hb10 : Blk w10 g ty_load_Loader (lCells gd C q s.b.length s.err s.over) := hb10
      have hB19 := below_t hB18 hB9
      have hw9 := hB19.size
      have hw10 := hc10.size
      refine app _ q (fun k => S1 k ∨ q.blk = some k ∨ k = w1.drew.heap.size) w10 hb10 (hq9.chg hc10 fun k hk => own_ne_blk hq9 hb9 (by decide) k hk) ?_ (fun k hk => .inr (.inl hk)) (fun k hk => .inr (.inr (by cases hk; rfl))) (Blk.chg (hd1.ext hB19) hc10 fun e => by subst e; exact (hd1.ext hB19).ne_t hb9 (by decide) rfl) (fun k hk => .inl (hS1 k hk)) (fun k hk => ?_) (fun k hk => ?_) ?_
      · rw [hnil]
        refine (hx9.chg hc10 fun k hk => own_ne_blk hx9 hb9 (by decide) k hk).base ?_
        show B ≤ w1.heap.size
        omega
      · rcases hk with hk | hk | hk
        · exact hS1' k hk
        · right
          rcases hqb with e | e
          · rw [e] at hk; cases hk
          · rw [e] at hk; cases hk; omega
        · right; have : w1.drew.heap.size = w1.heap.size := rfl; omega
      · rcases hk with hk | hk | hk
        · exact ⟨(hlt1 k hk).1, by have := (hlt1 k hk).2; omega⟩
        · have := (hq9.lt k hk); exact ⟨this.1, by omega⟩
        · have h1 : w1.drew.heap.size = w1.heap.size := rfl
          have := (hx9.lt k (by rw [hk]; rfl)).2
          exact ⟨by omega, by omega⟩
      · refine (hc1.trans (Chg.of_ext (S := S) hB19) fun k _ hk => hk).trans hc10 fun k _ hk => ?_
        subst hk; exact hsg
    · have hqn : p.n = 1 := hq.rd.n
      have hxn : x.n = (s.b ++ xs.take i).length := hx.rd.n
      rw [List.length_append, List.length_take] at hxn
      refine cond_f (by rw [hqn]; rfl) ?_
      have e0 : IntKind.i64.wrap (((p.n : Nat) : Int) - 1) = 0 := by rw [hqn]; decide
      refine ldSl_of (x := p) (hb1.cells 25 _ rfl) ?_
      rw [e0]
      refine hq.rd.ix (i := 0) (k := 1) rfl (by omega) (by simp) fun hcell => ?_
      refine ldSl_of (x := x) (by
        have := hq.rd.at_ 0 x rfl 0 _ rfl
        have h2 : w1.cell? (p.at_ E_sl_uint8.k 0) = some (.slice x.a x.n x.c) := by simpa using this
        exact h2) (hJ3 _ _ (cond_f ?_ (app x p S1 w1 hb1 hq hx hqS hxS hd1 hS1 hS1' hlt1 hc1)))
      dsimp only
      exact beqI_f (by omega)
  · have hl := of_decide_eq_false hl
    obtain rfl : i = xs.length := by omega
    rw [List.take_length] at hp1
    refine ldI_of (x := (s.b.length : Int)) (hb1.cells 26 _ rfl) ?_
    rw [add_mk, wrap64_id (by omega), show ((s.b.length : Nat) : Int) + ((xs.length : Nat) : Int) = (((s.b ++ xs).length : Nat) : Int) by simp]
    refine stK_blk hb1 (by simp [lCells, T_keys_Keys.rep]) fun w2 hb2 hg2 hs2 => ?_
    have hb2 : Blk w2 g ty_load_Loader (lCells gd C p (s.b ++ xs).length s.err s.over) := hb2
    have hc2 : Chg (fun k => k = g) w1 w2 := Chg.gg hg2
    have hp2 : PcS w2 B S1 p (s.b ++ xs) := by
      rcases hp1 with h | ⟨x, h1, h2, h3, h4, h5⟩
      · exact .inl h
      · exact .inr ⟨x, h1.chg hc2 fun k hk => own_ne_blk h1 hb1 (by decide) k hk, h2.chg hc2 fun k hk => own_ne_blk h2 hb1 (by decide) k hk, h3, h4, h5⟩
    have hd2 : DecB w2 gd s.d := Blk.chg hd1 hc2 fun e => by subst e; exact hd1.ne_t hb1 (by decide) rfl
    have hA2 : LdA w2 B g gd C { s with b := s.b ++ xs } S1 := ⟨⟨p, hb2, hp2⟩, hd2, hok, hS1 g hsg, hS1 gd hsd, fun k hk => ⟨(hlt1 k hk).1, Nat.lt_of_lt_of_le (hlt1 k hk).2 hc2.size⟩⟩
    have hC2 : Chg S w w2 := hc1.trans hc2 fun k _ hk => by subst hk; exact hsg
    have hBd := below_drew w2
    have hBdd := below_t hBd (below_drew w2.drew)
    have hb2d := hb2.ext hBd
    have hb2dd := hb2.ext hBdd
    have hKd := hK S1 w2.drew (hA2.ext hBd) hS1' (hC2.trans (Chg.of_ext (S := S) hBd) fun k _ hk => hk)
    have hKdd := hK S1 w2.drew.drew (hA2.ext hBdd) hS1' (hC2.trans (Chg.of_ext (S := S) hBdd) fun k _ hk => hk)
    unfold takeE at hKd hKdd
    refine ldI_of (x := (((s.b ++ xs).length : Nat) : Int)) (hb2d.cells 26 _ rfl) (ldI_of (x := (C.most : Int)) (hb2d.cells 23 _ rfl) ?_)
    refine cond_of (fun e => ?_) fun e => ?_
    · have e := of_decide_eq_true e
      rw [if_pos (by omega)] at hKd
      exact hKd
    have e := of_decide_eq_false e
    rw [if_neg (by omega)] at hKdd
    refine ldI_of (x := C.k.Zip) (hb2dd.cells 3 _ rfl) (cond_of (fun ez => ?_) fun ez => ?_)
    · have ez : C.k.Zip = 0 := eq_of_beq ez
      refine ldI_of (x := C.k.Format) (hb2dd.cells 6 _ rfl) (cond_of (fun ef => ?_) fun ef => ?_)
      · have ef : C.k.Format ≠ 100 := by simpa using ef
        refine ldI_of (x := (((s.b ++ xs).length : Nat) : Int)) (hb2dd.cells 26 _ rfl) (ldI_of (x := (C.need : Int)) (hb2dd.cells 24 _ rfl) (cond_of (fun en => ?_) fun en => ?_))
        · have en := of_decide_eq_true en
          rw [if_pos ⟨ez, ef, by omega⟩] at hKdd
          exact hKdd
        · have en := of_decide_eq_false en
          rw [if_neg fun h => en (by have := h.2.2; omega)] at hKdd
          exact hKdd
      · have ef : C.k.Format = 100 := by simpa using ef
        rw [if_neg fun h => h.2.1 ef] at hKdd
        exact hKdd
    · have ez : C.k.Zip ≠ 0 := by simpa using ez
      rw [if_neg fun h => ez h.1] at hKdd
      exact hKdd
theorem lfail_spec (h : LdA w B g gd C s S) {e : Nat} {K : World → Prop} (hK : ∀ w', LdA w' B g gd C (failL s e) S → Chg S w w' → K w') : c_load_Loader_fail (some ⟨g, 0, none⟩) (e : Int) w K := by
  obtain ⟨⟨p, hb, hp⟩, hd, hok, hsg, hsd, hlt⟩ := h
  refine call_load_Loader_fail _ _ ?_
  unfold sh_load_Loader_fail
  simp only [onPtr_some]
  refine joinP_of fun J1 hJ1 => ?_
  unfold failL at hK
  have no : ¬ (s.err = 0 ∧ e ≠ 0) → K w := fun hn => by
    rw [if_neg hn] at hK
    exact hK w ⟨⟨p, hb, hp⟩, hd, hok, hsg, hsd, hlt⟩ (Chg.refl _ _)
  refine ldI_of (x := (s.err : Int)) (hb.cells 27 _ rfl) (cond_of (fun e1 => hJ1 _ _ ?_) fun e1 => hJ1 _ _ (cond_f rfl (no fun h => ?_)))
  · have e1 : s.err = 0 := by have := eq_of_beq e1; omega
    refine cond_of (fun e2 => ?_) fun e2 => no fun h => ?_
    · have e2 : e ≠ 0 := fun h => by rw [h] at e2; cases e2
      rw [if_pos ⟨e1, e2⟩] at hK
      rw [add_mk]
      refine stK_blk hb (by simp [lCells, T_keys_Keys.rep]) fun w2 hb2 hg2 hs2 => ?_
      refine call_load_Loader_drop _ ?_
      unfold sh_load_Loader_drop
      simp only [onPtr_some]
      rw [add_mk]
      refine stK_blk hb2 (by simp [lCells, T_keys_Keys.rep, putL]) fun w3 hb3 hg3 hs3 => ?_
      rw [add_mk]
      refine stK_blk hb3 (by simp [lCells, T_keys_Keys.rep, putL]) fun w4 hb4 hg4 hs4 => ?_
      have hc : Chg (fun k => k = g) w w4 := ((Chg.gg hg2).trans (Chg.gg hg3) fun i _ hi => hi).trans (Chg.gg hg4) fun i _ hi => hi
      have hb4 : Blk w4 g ty_load_Loader (lCells gd C ⟨none, 0, 0⟩ 0 e s.over) := hb4
      have hd4 : DecB w4 gd s.d := Blk.chg hd hc fun e => by subst e; exact hd.ne_t hb (by decide) rfl
      exact hK w4 ⟨⟨⟨none, 0, 0⟩, hb4, .inl ⟨rfl, rfl⟩⟩, hd4, hok, hsg, hsd, fun k hk => ⟨(hlt k hk).1, Nat.lt_of_lt_of_le (hlt k hk).2 hc.size⟩⟩ (hc.mono fun k _ hk => by subst hk; exact hsg)
    · rw [bneI_t (by have := h.2; omega)] at e2; cases e2
  · rw [h.1] at e1; cases e1
end
end Go.Proofs.YtmagnpcgpinmcaaGreat

set_option linter.unusedVariables false
namespace Go.Proofs.YtmagnpcgpinmcaaGreat
open Go.Vc Go.RowKit
set_option maxRecDepth 400000
section
variable {w : World} {B g gd : Nat} {C : LdK} {s : LdS} {S : Nat → Prop}
theorem LdA.setD {w' : World} {d' : B64} (h : LdA w B g gd C s S) (hd' : DecB w' gd d') (hok : B64Ok d') (hc : Chg (fun k => k = gd) w w') : LdA w' B g gd C { s with d := d' } S := by
  obtain ⟨⟨p, h1, h2⟩, h3, h4, h5, h6, h7⟩ := h
  refine ⟨⟨p, h1.chg hc fun e => by subst e; exact h1.ne_t h3 (by decide) rfl, ?_⟩, hd', hok, h5, h6, fun k hk => ⟨(h7 k hk).1, Nat.lt_of_lt_of_le (h7 k hk).2 hc.size⟩⟩
  rcases h2 with h | ⟨x, a1, a2, a3, a4, a5⟩
  · exact .inl h
  · exact .inr ⟨x, a1.chg hc fun k hk => own_ne_blk a1 h3 (by decide) k hk, a2.chg hc fun k hk => own_ne_blk a2 h3 (by decide) k hk, a3, a4, a5⟩
/-- The decoder's answer taken, or its error noted. -/
theorem lgot_spec (h : LdA w B g gd C s S) (hBw : B ≤ w.heap.size) {r : Nat × List UInt8 × B64} {t : Slc} {w2 : World} (ht : Rd E_uint8 w2 t r.2.1) (htb : ∀ k, t.blk = some k → w.heap.size ≤ k) (hd : DecB w2 gd r.2.2) (hok : B64Ok r.2.2) (hc : Chg (fun k => k = gd) w w2) (hsm : s.b.length + r.2.1.length ≤ 32768) {K : World → Prop}
    (hK : ∀ S' w', LdA w' B g gd C (gotL C s r) S' → (∀ k, S' k → S k ∨ w.heap.size ≤ k) → Chg S w w' → K w') :
    cond ((r.1 : Int) == (0 : Int)) (c_load_Loader_take (some ⟨g, 0, none⟩) t w2 fun t37 w4 => c_load_Loader_fail (some ⟨g, 0, none⟩) t37 w4 fun w5 => K w5) (c_load_Loader_fail (some ⟨g, 0, none⟩) (r.1 : Int) w2 fun w6 => K w6) := by
  have h2 := h.setD hd hok hc
  have hs := hc.size
  have hC : Chg S w w2 := hc.mono fun k _ hk => by subst hk; exact h.sd
  unfold gotL at hK
  refine cond_of (fun e => ?_) fun e => ?_
  · have e : r.1 = 0 := by have := eq_of_beq e; omega
    rw [if_neg (by omega)] at hK
    refine ltake_spec h2 (by omega) ht (fun k hk hS => by have := htb k hk; have := (h.lt k hS).2; omega) hsm fun S' w4 h4 hS' hc4 => ?_
    refine lfail_spec h4 fun w5 h5 hc5 => ?_
    refine hK S' w5 h5 (fun k hk => ?_) ((hC.trans hc4 fun k _ hk => hk).trans hc5 fun k hk hS => ?_)
    · rcases hS' k hk with h | h
      · exact .inl h
      · right; omega
    · rcases hS' k hS with h | h
      · exact h
      · omega
  · have e : r.1 ≠ 0 := fun h => by rw [h] at e; cases e
    rw [if_pos e] at hK
    refine lfail_spec h2 fun w5 h5 hc5 => ?_
    exact hK S w5 h5 (fun k hk => .inl hk) (hC.trans hc5 fun k _ hk => hk)
theorem ladd_spec (h : LdA w B g gd C s S) (hBw : B ≤ w.heap.size) (hov : s.over = false) {t : Slc} {ts : List UInt8} (ht : Rd E_uint8 w t ts) (htS : ∀ k, t.blk = some k → ts ≠ [] → ¬ S k) (hsm : s.b.length + 3 * ts.length ≤ 30000) {K : Int → World → Prop}
    (hK : ∀ S' w', LdA w' B g gd C (addL C s ts) S' → (addL C s ts).over = false → (addL C s ts).b.length ≤ s.b.length + 3 * ts.length → (∀ k, S' k → S k ∨ w.heap.size ≤ k) → Chg S w w' → K (((addL C s ts).err : Nat) : Int) w') : c_load_Loader_Add (some ⟨g, 0, none⟩) t w K := by
  refine call_load_Loader_Add _ _ ?_
  unfold sh_load_Loader_Add
  simp only [onPtr_some]
  obtain ⟨p0, hb0, _⟩ := h.ex
  refine ldB_of (x := s.over) (hb0.cells 28 _ rfl) (cond_f hov (joinP_of fun J1 hJ1 => ?_))
  have tell : ∀ S1 w1 i, i ≤ ts.length → LdA w1 B g gd C (addL C s (ts.take i)) S1 → (addL C s (ts.take i)).over = false → (addL C s (ts.take i)).b.length ≤ s.b.length + 3 * i → (∀ k, S1 k → S k ∨ w.heap.size ≤ k) → Chg S w w1 → (i = ts.length ∨ (addL C s (ts.take i)).err ≠ 0) → J1 () w1 := by
    intro S1 w1 i hi h1 ho hl hS1 hc1 hor
    refine hJ1 _ _ ?_
    have e : addL C s ts = addL C s (ts.take i) := by
      rcases hor with rfl | he
      · rw [List.take_length]
      · conv => lhs; rw [← List.take_append_drop i ts, addL_append, addL_err he]
    rw [e] at hK
    obtain ⟨p1, hb1, _⟩ := h1.ex
    exact ldI_of (x := (((addL C s (ts.take i)).err : Nat) : Int)) (hb1.cells 27 _ rfl) (hK S1 w1 h1 ho (by omega) hS1 hc1)
  rw [ht.n]
  refine loopP_rule (fun (st : Int × Unit) w1 => ∃ (i : Nat) (S1 : Nat → Prop), st.1 = i ∧ i ≤ ts.length ∧ LdA w1 B g gd C (addL C s (ts.take i)) S1 ∧ (addL C s (ts.take i)).over = false ∧ (addL C s (ts.take i)).b.length ≤ s.b.length + 3 * i ∧ (∀ k, S1 k → S k ∨ w.heap.size ≤ k) ∧ Chg S w w1) (fun st => ts.length - st.1.toNat)
    ⟨0, S, rfl, by omega, h, hov, Nat.le_refl _, fun k hk => .inl hk, Chg.refl _ _⟩ ?_
  rintro ⟨i, u⟩ w1 ⟨i, S1, rfl, hi, h1, ho1, hl1, hS1, hc1⟩ I hI
  dsimp only
  have hw1 := hc1.size
  refine cond_of (fun hlt => ?_) fun hge => ?_
  · have hlt := of_decide_eq_true hlt
    have hil : i < ts.length := by omega
    obtain ⟨c, hc, _⟩ := get_of (xs := ts) (k := i) hil
    have htn : ts ≠ [] := fun h => by rw [h] at hil; simp at hil
    have ht1 := ht.chg hc1 fun a ha => htS a.block (slk.2 ⟨a, ha, rfl⟩) htn
    refine ht1.ix (i := (i : Int)) rfl (by omega) (by omega) fun _ => ?_
    rw [Int.toNat_natCast]
    refine ldI_of (x := (c.toNat : Int)) (rdcell ht1 hc) ?_
    obtain ⟨s1, hs1⟩ : ∃ s1, s1 = addL C s (ts.take i) := ⟨_, rfl⟩
    have hsucc : addL C s (ts.take (i + 1)) = addC C s1 c := by
      rw [List.take_add_one, hc, addL_append, ← hs1]; rfl
    rw [← hs1] at h1 ho1 hl1
    obtain ⟨p1, hb1, _⟩ := h1.ex
    refine ldI_of (x := (s1.err : Int)) (hb1.cells 27 _ rfl) (cond_of (fun e => ?_) fun e => ?_)
    · have e : s1.err ≠ 0 := fun h => by rw [h] at e; cases e
      rw [hs1] at h1 ho1 hl1 e
      exact tell S1 w1 i hi h1 ho1 hl1 hS1 hc1 (.inr e)
    · have e : s1.err = 0 := by
        rcases Nat.eq_zero_or_pos s1.err with h | h
        · exact h
        · rw [bneI_t (by omega)] at e; cases e
      refine ldP_of (x := some ⟨gd, 0, none⟩) (hb1.cells 0 _ rfl) ?_
      refine dPut_spec h1.d h1.ok fun t3 w3 ht3 htb3 hd3 hc3 => ?_
      have hpl := b64Put_len s1.d h1.ok c
      have hac : addC C s1 c = gotL C s1 (b64Put s1.d c) := by unfold addC; rw [if_neg (by omega)]
      have := lgot_spec h1 (by omega) ht3 htb3 hd3 (b64Put_ok h1.ok c) hc3 (by omega) (K := fun w5 => I ((IntKind.i64.wrap ((i : Int) + (1 : Int))), ()) w5) fun S' w5 h5 hS' hc5 => by
        rw [wrap64_id (by omega)]
        rw [← hac] at h5
        refine hI _ _ ⟨i + 1, S', rfl, by omega, by rw [hsucc]; exact h5, by rw [hsucc, addC_over]; exact ho1, ?_, fun k hk => ?_, hc1.trans hc5 fun k hk hS => ?_⟩ (by simp; omega)
        · rw [hsucc]
          have := addC_len C s1 h1.ok c
          omega
        · rcases hS' k hk with h | h
          · exact hS1 k h
          · right; omega
        · rcases hS1 k hS with h | h
          · exact h
          · omega
      exact this
  · have hge := of_decide_eq_false hge
    obtain rfl : i = ts.length := by omega
    exact tell S1 w1 ts.length (Nat.le_refl _) h1 ho1 hl1 hS1 hc1 (.inl rfl)
theorem lheld_spec (h : LdA w B g gd C s S) {K : Int → World → Prop} (hK : K ((s.b.length : Nat) : Int) w) : c_load_Loader_Held (some ⟨g, 0, none⟩) w K := by
  refine call_load_Loader_Held _ ?_
  unfold sh_load_Loader_Held
  simp only [onPtr_some]
  obtain ⟨p, hb, _⟩ := h.ex
  exact ldI_of (x := (s.b.length : Int)) (hb.cells 26 _ rfl) hK
/-- What an image needs: the error, or bytes. -/
def needsP (k : T_keys_Keys) : Nat × Nat :=
  if k.Medium ≠ 100 ∨ (k.Zip ≠ 0 ∧ k.Zip ≠ 122) then (8, 0)
  else if k.Format = 100 then (0, 0)
  else if k.Format ≠ 24 ∧ k.Format ≠ 32 then (8, 0)
  else if k.W < 1 ∨ k.W > 16384 ∨ k.H < 1 ∨ k.H > 16384 then (1, 0)
  else (0, k.Format.toNat / 8 * k.W.toNat * k.H.toNat)
theorem lSide_spec {n : Int} {K : Bool → World → Prop} (hK : K (decide (1 ≤ n ∧ n ≤ 16384)) w) : c_load_isSide n w K := by
  refine call_load_isSide _ ?_
  unfold sh_load_isSide
  refine cond_of (fun e => ?_) fun e => ?_
  · have e := of_decide_eq_true e
    have : decide (1 ≤ n ∧ n ≤ 16384) = decide (n ≤ 16384) := by rw [decide_eq_decide]; omega
    rw [this] at hK
    exact hK
  · have e := of_decide_eq_false e
    rw [decide_eq_false (by omega)] at hK
    exact hK
theorem Needs_spec {k : T_keys_Keys} {K : Int → Int → World → Prop} (hK : ∀ w', Below w.heap.size w w' → K ((needsP k).2 : Nat) ((needsP k).1 : Nat) w') : c_load_Needs k w K := by
  refine call_load_Needs _ ?_
  unfold sh_load_Needs
  refine nw_blk fun w1 h1 hB1 hs1 => joinP_of fun J1 hJ1 => joinP_of fun J2 hJ2 => ?_
  have hk := hK w1 hB1
  unfold needsP at hk
  have key : ∀ bb : Bool, (bb = true ↔ k.Medium ≠ 100 ∨ (k.Zip ≠ 0 ∧ k.Zip ≠ 122)) → J2 (bb, ()) w1 := by
    intro bb hbb
    refine hJ2 _ _ (cond_of (fun e => ?_) fun e => ?_)
    · rw [if_pos (hbb.1 e)] at hk; exact hk
    rw [if_neg fun h => by rw [hbb.2 h] at e; cases e] at hk
    refine ldI_of (x := k.Format) (h1.cells 5 _ rfl) (cond_of (fun e => ?_) fun e5 => ?_)
    · rw [if_pos (eq_of_beq e)] at hk; exact hk
    have e5 : k.Format ≠ 100 := by simpa using e5
    rw [if_neg e5] at hk
    refine joinP_of fun J3 hJ3 => ?_
    have key2 : ∀ bb : Bool, (bb = true ↔ k.Format ≠ 24 ∧ k.Format ≠ 32) → J3 (bb, ()) w1 := by
      intro bb hbb
      refine hJ3 _ _ (cond_of (fun e => ?_) fun e => ?_)
      · rw [if_pos (hbb.1 e)] at hk; exact hk
      have hf : ¬ (k.Format ≠ 24 ∧ k.Format ≠ 32) := fun h => by rw [hbb.2 h] at e; cases e
      rw [if_neg hf] at hk
      refine ldI_of (x := k.W) (h1.cells 6 _ rfl) (lSide_spec (cond_of (fun e => ?_) fun e => ?_))
      · have e : ¬ (1 ≤ k.W ∧ k.W ≤ 16384) := fun h => by rw [decide_eq_true h] at e; cases e
        rw [if_pos (by omega)] at hk; exact hk
      have e1 : 1 ≤ k.W ∧ k.W ≤ 16384 := by simpa using e
      refine ldI_of (x := k.H) (h1.cells 7 _ rfl) (lSide_spec (cond_of (fun e => ?_) fun e => ?_))
      · have e : ¬ (1 ≤ k.H ∧ k.H ≤ 16384) := fun h => by rw [decide_eq_true h] at e; cases e
        rw [if_pos (by omega)] at hk; exact hk
      have e2 : 1 ≤ k.H ∧ k.H ≤ 16384 := by simpa using e
      rw [if_neg (by omega)] at hk
      refine hJ1 _ _ (ldI_of (x := k.Format) (h1.cells 5 _ rfl) ⟨by decide, ldI_of (x := k.W) (h1.cells 6 _ rfl) (ldI_of (x := k.H) (h1.cells 7 _ rfl) ?_)⟩)
      obtain ⟨W, hW⟩ : ∃ W : Nat, k.W = W := ⟨k.W.toNat, by omega⟩
      obtain ⟨H, hH⟩ : ∃ H : Nat, k.H = H := ⟨k.H.toNat, by omega⟩
      obtain ⟨f, hF⟩ : ∃ f : Nat, k.Format = f := ⟨k.Format.toNat, by omega⟩
      have hf8 : f / 8 ≤ 4 := by omega
      rw [hW, hH, hF] at hk ⊢
      have h3 : f / 8 * W ≤ 4 * 16384 := Nat.mul_le_mul hf8 (by omega)
      have h4 : f / 8 * W * H ≤ 4 * 16384 * 16384 := Nat.mul_le_mul h3 (by omega)
      have ev : IntKind.i64.wrap ((IntKind.i64.wrap ((IntKind.i64.wrap ((f : Int).tdiv (8 : Int))) * (W : Int))) * (H : Int)) = ((f / 8 * W * H : Nat) : Int) := by
        rw [show (8 : Int) = ((8 : Nat) : Int) from rfl, ← Int.ofNat_tdiv, wrap64_id (x := ((f / 8 : Nat) : Int)) (by omega), show ((f / 8 : Nat) : Int) * (W : Int) = ((f / 8 * W : Nat) : Int) by simp, wrap64_id (x := ((f / 8 * W : Nat) : Int)) (by omega), show ((f / 8 * W : Nat) : Int) * (H : Int) = ((f / 8 * W * H : Nat) : Int) by simp, wrap64_id (by omega)]
      rw [ev]
      exact hk
    refine ldI_of (x := k.Format) (h1.cells 5 _ rfl) (cond_of (fun e => ?_) fun e => ?_)
    · have e : k.Format ≠ 24 := by simpa using e
      refine ldI_of (x := k.Format) (h1.cells 5 _ rfl) (key2 _ ?_)
      simp [e]
    · have e : k.Format = 24 := by simpa using e
      exact key2 _ (by simp [e])
  refine ldI_of (x := k.Medium) (h1.cells 1 _ rfl) (cond_of (fun e => ?_) fun e => ?_)
  · have e : k.Medium ≠ 100 := by simpa using e
    exact key _ (by simp [e])
  have e : k.Medium = 100 := by simpa using e
  refine ldI_of (x := k.Zip) (h1.cells 2 _ rfl) (cond_of (fun e2 => ?_) fun e2 => ?_)
  · have e2 : k.Zip ≠ 0 := by simpa using e2
    refine ldI_of (x := k.Zip) (h1.cells 2 _ rfl) (key _ ?_)
    simp [e, e2]
  · have e2 : k.Zip = 0 := by simpa using e2
    exact key _ (by simp [e, e2])
end
end Go.Proofs.YtmagnpcgpinmcaaGreat

set_option linter.unusedVariables false
namespace Go.Proofs.YtmagnpcgpinmcaaGreat
open Go.Vc Go.RowKit
set_option maxRecDepth 400000
def newP (k : T_keys_Keys) (room : Int) : Nat :=
  if room < 0 ∨ room > 1073741824 then 1
  else if (needsP k).1 ≠ 0 then (needsP k).1
  else if k.Format ≠ 100 ∧ 4 * k.W * k.H > room then 6 else 0
def ld0 : LdS := ⟨b64N, [], 0, false⟩
theorem needsP_ok {k : T_keys_Keys} (h : (needsP k).1 = 0) : (k.Format = 100 ∧ (needsP k).2 = 0) ∨ (k.Format ≠ 100 ∧ (k.Format = 24 ∨ k.Format = 32) ∧ ∃ W H : Nat, k.W = W ∧ k.H = H ∧ 1 ≤ W ∧ W ≤ 16384 ∧ 1 ≤ H ∧ H ≤ 16384 ∧ (needsP k).2 = k.Format.toNat / 8 * W * H) := by
  unfold needsP at h ⊢
  split at h
  · cases h
  · rename_i h1
    rw [if_neg h1]
    split at h
    · rename_i h2
      rw [if_pos h2]
      exact .inl ⟨h2, rfl⟩
    · rename_i h2
      rw [if_neg h2]
      split at h
      · cases h
      · rename_i h3
        rw [if_neg h3]
        split at h
        · cases h
        · rename_i h4
          rw [if_neg h4]
          exact .inr ⟨h2, by omega, k.W.toNat, k.H.toNat, by omega, by omega, by omega, by omega, by omega, by omega, rfl⟩
def pxF (per : Nat) (b : List UInt8) (i : Nat) : List UInt8 := (b.drop (per * i)).take per ++ [0, 0, 0, 255].drop per
def fromP (per n : Nat) (b : List UInt8) : List UInt8 := (List.range n).flatMap (pxF per b)
theorem pxF_len {per : Nat} {b : List UInt8} {i : Nat} (hp : per ≤ 4) (h : per * i + per ≤ b.length) : (pxF per b i).length = 4 := by
  unfold pxF
  rw [List.length_append, List.length_take, List.length_drop, List.length_drop]
  show min per (b.length - per * i) + (4 - per) = 4
  omega
theorem fromP_succ (per n : Nat) (b : List UInt8) : fromP per (n + 1) b = fromP per n b ++ pxF per b n := by
  unfold fromP
  rw [List.range_succ, List.flatMap_append]
  simp
theorem fromP_len {per : Nat} {b : List UInt8} (hp : per ≤ 4) : ∀ n, per * n ≤ b.length → (fromP per n b).length = 4 * n
  | 0, _ => rfl
  | n + 1, h => by
    have e : per * (n + 1) = per * n + per := by rw [Nat.mul_add, Nat.mul_one]
    rw [fromP_succ, List.length_append, fromP_len hp n (by omega), pxF_len hp (by omega)]
    omega
section
variable {w : World}
theorem lNew_spec {k : T_keys_Keys} {room : Int} {K : Option Addr → Int → World → Prop} (hE : newP k room ≠ 0 → ∀ w', Below w.heap.size w w' → K none ((newP k room : Nat) : Int) w')
    (hO : newP k room = 0 → ∀ g gd w', LdA w' w.heap.size g gd ⟨k, room.toNat, (needsP k).2⟩ ld0 (fun i => i = g ∨ i = gd) → Below w.heap.size w w' → K (some ⟨g, 0, none⟩) 0 w') : c_load_New k room w K := by
  refine call_load_New _ _ ?_
  unfold sh_load_New
  refine nw_blk fun w1 h1 hB1 hs1 => joinP_of fun J1 hJ1 => ?_
  unfold newP at hE hO
  refine cond_of (fun e => ?_) fun e1 => cond_of (fun e => ?_) fun e2 => hJ1 _ _ ?_
  · have e := of_decide_eq_true e
    rw [if_pos (.inl e)] at hE
    exact hE (by decide) w1 hB1
  · have e := of_decide_eq_true e
    rw [if_pos (.inr e)] at hE
    exact hE (by decide) w1 hB1
  have e1 := of_decide_eq_false e1
  have e2 := of_decide_eq_false e2
  rw [if_neg (by omega)] at hE hO
  refine ldS_of (r := T_keys_Keys.rep) (x := k) h1.cells ?_
  refine Needs_spec fun w3 hB3 => ?_
  have hB13 := below_t hB1 hB3
  have h13 := h1.ext hB3
  refine joinP_of fun J2 hJ2 => ?_
  refine cond_of (fun e => ?_) fun e => ?_
  · have e : (needsP k).1 ≠ 0 := fun h => by rw [h] at e; cases e
    rw [if_pos e] at hE
    exact hE e w3 hB13
  have e0 : (needsP k).1 = 0 := by
    rcases Nat.eq_zero_or_pos (needsP k).1 with h | h
    · exact h
    · rw [bneI_t (by omega)] at e; cases e
  rw [if_neg (by omega)] at hE hO
  have made : ¬ (k.Format ≠ 100 ∧ 4 * k.W * k.H > room) → J2 () w3 := by
    intro hn
    rw [if_neg hn] at hO
    refine hJ2 _ _ ?_
    have hBd := below_drew w3
    refine ldS_of (r := T_keys_Keys.rep) (x := k) (h13.ext hBd).cells ?_
    refine call_base64_NewDecoder ?_
    unfold sh_base64_NewDecoder
    refine nw_blk fun w5 h5 hB5 hs5 => ?_
    have hB35 := below_t hBd hB5
    refine ⟨(h13.ext hB35).cells, nw_blk fun w6 h6 hB6 hs6 => ?_⟩
    have hs13 := hB13.size
    have hz : w3.drew.heap.size = w3.heap.size := rfl
    have hd : DecB w6 w3.drew.heap.size b64N := h5.ext hB6
    refine hO rfl w5.heap.size w3.drew.heap.size w6 ⟨⟨⟨none, 0, 0⟩, ?_, .inl ⟨rfl, rfl⟩⟩, hd, b64N_ok, .inl rfl, .inr rfl, fun i hi => ?_⟩ (below_t (below_t hB13 hB35) hB6)
    · have hr : ((room.toNat : Nat) : Int) = room := by omega
      have : lCells w3.drew.heap.size ⟨k, room.toNat, (needsP k).2⟩ ⟨none, 0, 0⟩ ld0.b.length ld0.err ld0.over = [(.pointer (some ⟨w3.drew.heap.size, 0, none⟩)), (.int .u8 k.Action), (.int .u8 k.Medium), (.int .u8 k.Zip), (.int .u8 k.What), (.int .i64 k.Quiet), (.int .i64 k.Format), (.int .i64 k.W), (.int .i64 k.H), (.int .i64 k.Id), (.int .i64 k.Number), (.int .i64 k.Place), (.int .i64 k.More), (.int .i64 k.X), (.int .i64 k.Y), (.int .i64 k.PW), (.int .i64 k.PH), (.int .i64 k.DX), (.int .i64 k.DY), (.int .i64 k.Rows), (.int .i64 k.Cols), (.int .i64 k.Z), (.int .i64 k.Stay), (.int .i64 room), (.int .i64 (((needsP k).2 : Nat) : Int)), (.slice none 0 0), (.int .i64 0), (.int .i64 0), (.bool false)] := by
        unfold lCells
        rw [hr]
        rfl
      rw [this]
      exact h6
    · rcases hi with rfl | rfl
      · exact ⟨by omega, by omega⟩
      · exact ⟨by omega, by omega⟩
  refine ldI_of (x := k.Format) (h13.cells 5 _ rfl) (cond_of (fun ef => ?_) fun ef => ?_)
  · have ef : k.Format ≠ 100 := by simpa using ef
    rcases needsP_ok e0 with ⟨h, _⟩ | ⟨_, _, W, H, hW, hH, a1, a2, a3, a4, _⟩
    · exact absurd h ef
    refine ldI_of (x := k.W) (h13.cells 6 _ rfl) (ldI_of (x := k.H) (h13.cells 7 _ rfl) ?_)
    have hWH : W * H ≤ 16384 * 16384 := Nat.mul_le_mul a2 a4
    have h4 : 4 * W * H = 4 * (W * H) := Nat.mul_assoc _ _ _
    have em : 4 * k.W * k.H = ((4 * W * H : Nat) : Int) := by rw [hW, hH]; simp
    have ev : IntKind.i64.wrap ((IntKind.i64.wrap ((4 : Int) * k.W)) * k.H) = ((4 * W * H : Nat) : Int) := by
      rw [hW, hH, wrap64_id (x := (4 : Int) * (W : Int)) (by omega), show (4 : Int) * (W : Int) * (H : Int) = ((4 * W * H : Nat) : Int) by simp, wrap64_id (by omega)]
    rw [ev]
    rw [em] at hE made
    refine cond_of (fun e => ?_) fun e => made fun h => ?_
    · have e := of_decide_eq_true e
      rw [if_pos ⟨ef, e⟩] at hE
      exact hE (by decide) w3 hB13
    · exact of_decide_eq_false e h.2
  · have ef : k.Format = 100 := by simpa using ef
    exact made fun h => h.1 ef
theorem from_spec {W H per : Nat} {b : Slc} {bs : List UInt8} (hper : per = 3 ∨ per = 4) (hW1 : 1 ≤ W) (hW2 : W ≤ 16384) (hH1 : 1 ≤ H) (hH2 : H ≤ 16384) (hA : W * H ≤ 67108864) (hb : Rd E_uint8 w b bs) (hl : bs.length ≤ 1000000000) {K : T_api_Matrix → Int → World → Prop}
    (hS : bs.length < per * W * H → ∀ w', Below w.heap.size w w' → K ⟨0, 0, ⟨none, 0, 0⟩⟩ 2 w') (hL : bs.length > per * W * H → ∀ w', Below w.heap.size w w' → K ⟨0, 0, ⟨none, 0, 0⟩⟩ 5 w')
    (hO : bs.length = per * W * H → ∀ s w', Go.Vc.Own E_uint8 w' w.heap.size s (fromP per (W * H) bs) → Below w.heap.size w w' → K ⟨W, H, s⟩ 0 w') : c_pixel_from (W : Int) (H : Int) (per : Int) b w K := by
  refine call_pixel_from _ _ _ _ ?_
  unfold sh_pixel_from
  refine nw_blk fun w1 h1 hB1 hs1 => ?_
  refine pNew_spec hW1 hW2 hH1 hH2 hA fun tm gm w2 htm hta hgm hB2 => ?_
  refine nw_blk fun w3 h3 hB3 hs3 => all_of h3 rfl fun w4 h4 hc4 hs4 => ?_
  have hB24 : Below w2.heap.size w2 w4 := below_one hB3 hc4 (Nat.le_refl _)
  have hB14 := below_t hB2 hB24
  have hB4 := below_t hB1 hB14
  have htm4 := (htm.ext hB3).chg hc4 fun k hk => own_ne_blk (htm.ext hB3) h3 (by decide) k hk
  have h14 := h1.ext hB14
  have hp4 : 3 ≤ per ∧ per ≤ 4 := by omega
  have hpm : per * W * H = per * (W * H) := Nat.mul_assoc _ _ _
  have h4m : 4 * W * H = 4 * (W * H) := Nat.mul_assoc _ _ _
  have hpA : per * (W * H) ≤ 4 * (W * H) := Nat.mul_le_mul_right _ hp4.2
  have htb : tm.blk = some gm := by unfold Slc.blk; rw [hta]; rfl
  have hsz2 := hB2.size
  refine joinP_of fun J1 hJ1 => ?_
  have bad : ∀ e : Nat, e ≠ 0 → (∀ w', Below w.heap.size w w' → K ⟨0, 0, ⟨none, 0, 0⟩⟩ (e : Int) w') → J1 ((e : Int), ()) w4 := fun e he hk => hJ1 _ _ (cond_t (bneI_t (by omega)) (res_of (r := T_api_Matrix.rep) (x := ⟨0, 0, ⟨none, 0, 0⟩⟩) h14 rfl rfl fun w5 hc5 hs5 => hk w5 (below_one hB4 hc5 (Nat.le_refl _))))
  have good : bs.length = per * W * H → J1 (0, ()) w4 := by
    intro hbl
    refine hJ1 _ _ (cond_f rfl ?_)
    have ewh : IntKind.i64.wrap ((W : Int) * (H : Int)) = ((W * H : Nat) : Int) := by rw [show (W : Int) * (H : Int) = ((W * H : Nat) : Int) by simp, wrap64_id (by omega)]
    rw [ewh]
    refine loopP_rule (fun (st : Int × Unit) w5 => ∃ i : Nat, st.1 = i ∧ i ≤ W * H ∧ Go.Vc.Own E_uint8 w5 w1.heap.size tm (fromP per i bs ++ List.replicate (4 * (W * H - i)) 0) ∧ Chg (fun k => k = gm) w4 w5) (fun st => W * H - st.1.toNat)
      ⟨0, rfl, by omega, by rw [Nat.sub_zero, ← h4m]; exact htm4, Chg.refl _ _⟩ ?_
    rintro ⟨i, u⟩ w5 ⟨i, rfl, hi, hT, hC⟩ I hI
    dsimp only
    have keep : ∀ {k tt : Nat} {cs : List Value}, tt ≠ ty_uint8 → Blk w4 k tt cs → Blk w5 k tt cs := fun {k tt cs} hne hbk => hbk.chg hC fun e => by
      subst e
      obtain ⟨cs', hcs'⟩ := htm4.blk_t htb
      exact hbk.ne_t hcs' hne rfl
    have hm5 := keep (by decide) h4
    have hB5 : Below w.heap.size w w5 := below_one hB4 hC (by have := hB1.size; omega)
    refine cond_of (fun hlt => ?_) fun hge => ?_
    · have hlt := of_decide_eq_true hlt
      have hil : i < W * H := by omega
      have hpi : per * i + per ≤ bs.length := by
        have := Nat.mul_le_mul_left per (show i + 1 ≤ W * H from hil)
        rw [Nat.mul_add, Nat.mul_one] at this
        omega
      have hfl := fromP_len (b := bs) hp4.2 i (by omega)
      obtain ⟨R, hR⟩ : ∃ R : List UInt8, R = List.replicate (4 * (W * H - (i + 1))) 0 := ⟨_, rfl⟩
      have hrep : List.replicate (4 * (W * H - i)) (0 : UInt8) = [0, 0, 0, 0] ++ R := by
        rw [hR, show 4 * (W * H - i) = 4 + 4 * (W * H - (i + 1)) by omega, ← List.replicate_append_replicate]
        rfl
      rw [hrep] at hT
      obtain ⟨A, hA'⟩ : ∃ A, A = fromP per i bs := ⟨_, rfl⟩
      rw [← hA'] at hT hfl
      refine ldSl_of (x := tm) (hm5.cells 2 _ rfl) ?_
      rw [wrap64_id (x := (4 : Int) * (i : Int)) (by omega), wrap64_id (x := (4 : Int) * (i : Int) + 3) (by omega), show (4 : Int) * (i : Int) + 3 = ((4 * i + 3 : Nat) : Int) by simp]
      refine hT.rd.ix (i := ((4 * i + 3 : Nat) : Int)) rfl (by omega) (by simp only [List.length_append, List.length_cons, List.length_nil]; omega) fun _ => ?_
      rw [Int.toNat_natCast]
      refine hT.st0 (i := 4 * i + 3) (x := 0) (y := 255) (by rw [List.getElem?_append_right (by omega), hfl, show 4 * i + 3 - 4 * i = 3 by omega]; rfl) rfl fun w6 hT6 hg6 hs6 => ?_
      have hc6 : Chg (fun k => k = gm) w5 w6 := by rw [htb] at hg6; exact Chg.gg hg6
      have hset : (A ++ ([0, 0, 0, 0] ++ R)).set (4 * i + 3) 255 = A ++ ([0, 0, 0, 255] ++ R) := by
        rw [List.set_append_right _ _ (by omega), hfl, show 4 * i + 3 - 4 * i = 3 by omega]
        rfl
      rw [hset] at hT6
      have hBd := below_drew w6
      have hT6d := hT6.ext hBd
      have hm6 : Blk w6 w2.heap.size ty_api_Matrix _ := hm5.chg hc6 fun e => by
        obtain ⟨cs', hcs'⟩ := hT.blk_t htb
        subst e; exact hm5.ne_t hcs' (by decide) rfl
      have hB6d : Below w.heap.size w w6.drew := below_t (below_one hB5 hc6 (by have := hB1.size; omega)) hBd
      refine ldSl_of (x := tm) ((hm6.ext hBd).cells 2 _ rfl) ?_
      have hll : (A ++ ([0, 0, 0, 255] ++ R)).length = 4 * i + (4 + R.length) := by
        rw [List.length_append, List.length_append, hfl]; rfl
      rw [show (4 : Int) * (i : Int) = ((4 * i : Nat) : Int) by simp]
      obtain ⟨cur, hcur, hcl, hct, hc1, hc2, hc3', hc4'⟩ := own_cur (c := 0) hT6d hta
      refine hT6d.rd.slK (l := 4 * i) (m := (A ++ ([0, 0, 0, 255] ++ R)).length) rfl (.inr rfl) (.inl ⟨rfl, rfl⟩) (by omega) (Nat.le_refl _) fun _ => ?_
      have hbd := hb.ext hB6d
      have ep : IntKind.i64.wrap ((per : Int) * (i : Int)) = ((per * i : Nat) : Int) := by rw [show (per : Int) * (i : Int) = ((per * i : Nat) : Int) by simp, wrap64_id (by omega)]
      have ep2 : IntKind.i64.wrap (((per * i : Nat) : Int) + (per : Int)) = ((per * i + per : Nat) : Int) := by rw [wrap64_id (by omega)]; simp
      rw [ep, ep2]
      refine hbd.slK (l := per * i) (m := per * i + per) rfl (.inr rfl) (.inr rfl) (by omega) hpi fun hpt => ?_
      have hpe : (bs.take (per * i + per)).drop (per * i) = (bs.drop (per * i)).take per := by rw [List.drop_take, Nat.add_sub_cancel_left]
      rw [hpe] at hpt
      have hptl : ((bs.drop (per * i)).take per).length = per := by rw [List.length_take, List.length_drop]; omega
      have hcut : cut tm.a (4 * i) tm.c E_uint8.k = some ⟨gm, 4 * i, none⟩ := by
        unfold cut
        rw [if_neg (by omega), hta]
        show some ((⟨gm, 0, none⟩ : Addr).add (4 * i * 1)) = _
        rw [add_mk, Nat.mul_one, Nat.zero_add]
      rw [hcut]
      refine copyB (n := per) hcur hpt (by rw [hptl, hll]; show per = min per (4 * i + (4 + R.length) - 4 * i); omega) (by omega) fun w7 hb7 hc7 hs7 => ?_
      have htk : ((bs.drop (per * i)).take per).take per = (bs.drop (per * i)).take per := List.take_of_length_le (by omega)
      rw [htk] at hb7
      have hT7 := own_put (ys := (bs.drop (per * i)).take per) (k := 4 * i) hT6d hta hcur (by rw [hptl, hll]; omega) hb7
      rw [hptl] at hT7
      have hfin : (A ++ ([0, 0, 0, 255] ++ R)).take (4 * i) ++ (bs.drop (per * i)).take per ++ (A ++ ([0, 0, 0, 255] ++ R)).drop (4 * i + per) = fromP per (i + 1) bs ++ R := by
        rw [fromP_succ, ← hA', List.take_append_of_le_length (by omega), List.take_of_length_le (by omega), List.drop_append, hfl, show 4 * i + per - 4 * i = per by omega, List.drop_of_length_le (show A.length ≤ 4 * i + per by omega), List.nil_append, List.drop_append_of_le_length (show per ≤ 4 by omega)]
        unfold pxF
        simp [List.append_assoc]
      rw [hfin, hR] at hT7
      rw [wrap64_id (by omega)]
      exact hI _ _ ⟨i + 1, rfl, by omega, hT7, ((hC.trans hc6 fun k _ hk => hk).trans (Chg.of_ext (S := fun k => k = gm) hBd) fun k _ hk => hk).trans hc7 fun k _ hk => hk⟩ (by simp; omega)
    · have hge := of_decide_eq_false hge
      obtain rfl : i = W * H := by omega
      rw [Nat.sub_self, Nat.mul_zero, List.replicate_zero, List.append_nil] at hT
      refine ldS_of (r := T_api_Matrix.rep) (x := ⟨W, H, tm⟩) hm5.cells ?_
      have h15 := keep (by decide) h14
      refine res_of (r := T_api_Matrix.rep) (x := ⟨W, H, tm⟩) h15 rfl rfl fun wb hcb hsb => ?_
      exact hO hbl tm wb ((hT.chg hcb fun k hk => own_ne_blk hT h15 (by decide) k hk).base hB1.size) (below_one hB5 hcb (Nat.le_refl _))
  have en : IntKind.i64.wrap ((IntKind.i64.wrap ((per : Int) * (W : Int))) * (H : Int)) = ((per * W * H : Nat) : Int) := by
    have h5 : per * W ≤ 4 * 16384 := Nat.mul_le_mul hp4.2 hW2
    rw [show (per : Int) * (W : Int) = ((per * W : Nat) : Int) by simp, wrap64_id (x := ((per * W : Nat) : Int)) (by omega), show ((per * W : Nat) : Int) * (H : Int) = ((per * W * H : Nat) : Int) by simp, wrap64_id (by omega)]
  rw [hb.n, en]
  refine cond_f rfl (cond_of (fun e => ?_) fun e => cond_of (fun e2 => ?_) fun e2 => ?_)
  · have e := of_decide_eq_true e
    exact bad 2 (by decide) (hS (by omega))
  · have e2 := of_decide_eq_true e2
    exact bad 5 (by decide) (hL (by omega))
  · have e := of_decide_eq_false e
    have e2 := of_decide_eq_false e2
    exact good (by omega)
end
end Go.Proofs.YtmagnpcgpinmcaaGreat

set_option linter.unusedVariables false
namespace Go.Proofs.YtmagnpcgpinmcaaGreat
open Go.Vc Go.RowKit
set_option maxRecDepth 400000
def MatR (w : World) (base : Nat) (m : T_api_Matrix) (r : Nat × Nat × Nat × List UInt8) : Prop := m.W = (r.2.1 : Int) ∧ m.H = (r.2.2.1 : Int) ∧ Go.Vc.Own E_uint8 w base m.P r.2.2.2
structure CfgOk (C : LdK) : Prop where
  nw : newP C.k (C.most : Int) = 0
  need : C.need = (needsP C.k).2
  most : C.most ≤ 100000
theorem CfgOk.needs {C : LdK} (h : CfgOk C) : (needsP C.k).1 = 0 := by
  have := h.nw
  have hm := h.most
  unfold newP at this
  rw [if_neg (by omega)] at this
  split at this
  · rename_i h1; exact absurd this h1
  · omega
theorem CfgOk.sides {C : LdK} (h : CfgOk C) (hf : C.k.Format ≠ 100) : ∃ W H per : Nat, C.k.W = W ∧ C.k.H = H ∧ 1 ≤ W ∧ W ≤ 16384 ∧ 1 ≤ H ∧ H ≤ 16384 ∧ (C.k.Format = 24 ∧ per = 3 ∨ C.k.Format = 32 ∧ per = 4) ∧ C.need = per * W * H ∧ 4 * (W * H) ≤ C.most := by
  rcases needsP_ok h.needs with ⟨h1, _⟩ | ⟨_, h24, W, H, hW, hH, a1, a2, a3, a4, hn⟩
  · exact absurd h1 hf
  · have h6 : ¬ (C.k.Format ≠ 100 ∧ 4 * C.k.W * C.k.H > (C.most : Int)) := by
      intro hc
      have := h.nw
      have hm := h.most
      unfold newP at this
      rw [if_neg (by omega), if_neg (by have := h.needs; omega), if_pos hc] at this
      cases this
    have em : 4 * C.k.W * C.k.H = ((4 * (W * H) : Nat) : Int) := by rw [hW, hH, Int.mul_assoc]; simp
    rw [em] at h6
    have h6' : 4 * (W * H) ≤ C.most := by
      rcases Nat.lt_or_ge C.most (4 * (W * H)) with hc | hc
      · exact absurd ⟨hf, by omega⟩ h6
      · exact hc
    rcases h24 with e | e
    · exact ⟨W, H, 3, hW, hH, a1, a2, a3, a4, .inl ⟨e, rfl⟩, by rw [h.need, hn, e]; rfl, h6'⟩
    · exact ⟨W, H, 4, hW, hH, a1, a2, a3, a4, .inr ⟨e, rfl⟩, by rw [h.need, hn, e]; rfl, h6'⟩
noncomputable def madeL (C : LdK) (b : List UInt8) : Nat × Nat × Nat × List UInt8 :=
  if C.k.Format = 100 then decodeP b ((C.most / 4 : Nat) : Int)
  else if b.length < C.need then (2, 0, 0, [])
  else if b.length > C.need then (5, 0, 0, [])
  else (0, C.k.W.toNat, C.k.H.toNat, fromP (if C.k.Format = 24 then 3 else 4) (C.k.W.toNat * C.k.H.toNat) b)
def roomL (C : LdK) : Nat := if C.k.Format = 100 then C.most else C.need
noncomputable def lastL (C : LdK) (b : List UInt8) : Nat × Nat × Nat × List UInt8 :=
  if C.k.Zip = 122 then
    (if unErr (roomL C) b ≠ 0 then (unErr (roomL C) b, 0, 0, [])
     else if unUsed (roomL C) b < b.length then (3, 0, 0, [])
     else madeL C (unOut (roomL C) b))
  else madeL C b
def shutL (s : LdS) : LdS := { s with over := true }
noncomputable def resL (C : LdK) (s : LdS) : Nat × Nat × Nat × List UInt8 :=
  if s.over then (7, 0, 0, []) else if (endL C (shutL s)).err ≠ 0 then ((endL C (shutL s)).err, 0, 0, []) else lastL C (endL C (shutL s)).b
def overL (C : LdK) (s : LdS) : LdS := if s.over then s else { endL C (shutL s) with b := [] }
section
variable {w : World} {B g gd : Nat} {C : LdK} {s : LdS} {S : Nat → Prop}
theorem MatR.zero (w : World) (base e : Nat) : MatR w base ⟨0, 0, ⟨none, 0, 0⟩⟩ (e, 0, 0, []) := ⟨rfl, rfl, Own.nil _ _ _⟩
theorem fromRGB_spec {W H : Nat} {b : Slc} {bs : List UInt8} (hW1 : 1 ≤ W) (hW2 : W ≤ 16384) (hH1 : 1 ≤ H) (hH2 : H ≤ 16384) (hA : W * H ≤ 67108864) (hb : Rd E_uint8 w b bs) (hl : bs.length ≤ 1000000000) (hn : ¬ bs.length < 3 * W * H) {K : T_api_Matrix → Int → World → Prop}
    (hL : bs.length > 3 * W * H → ∀ w', Below w.heap.size w w' → K ⟨0, 0, ⟨none, 0, 0⟩⟩ 5 w') (hO : bs.length = 3 * W * H → ∀ s w', Go.Vc.Own E_uint8 w' w.heap.size s (fromP 3 (W * H) bs) → Below w.heap.size w w' → K ⟨W, H, s⟩ 0 w') : c_pixel_FromRGB (W : Int) (H : Int) b w K := by
  refine call_pixel_FromRGB _ _ _ ?_
  unfold sh_pixel_FromRGB
  refine nw_blk fun w1 h1 hB1 hs1 => ?_
  refine from_spec (per := 3) (by omega) hW1 hW2 hH1 hH2 hA (hb.ext hB1) hl (fun h => absurd h hn) (fun h w2 hB2 => ?_) (fun h s w2 hs hB2 => ?_)
  · exact res_of (r := T_api_Matrix.rep) (x := ⟨0, 0, ⟨none, 0, 0⟩⟩) (h1.ext hB2) rfl rfl fun w3 hc3 hs3 => hL h w3 (below_one (below_t hB1 hB2) hc3 (Nat.le_refl _))
  · exact res_of (r := T_api_Matrix.rep) (x := ⟨W, H, s⟩) (h1.ext hB2) rfl rfl fun w3 hc3 hs3 => hO h s w3 ((hs.chg hc3 fun k hk => own_ne_blk hs (h1.ext hB2) (by decide) k hk).base hB1.size) (below_one (below_t hB1 hB2) hc3 (Nat.le_refl _))
theorem fromRGBA_spec {W H : Nat} {b : Slc} {bs : List UInt8} (hW1 : 1 ≤ W) (hW2 : W ≤ 16384) (hH1 : 1 ≤ H) (hH2 : H ≤ 16384) (hA : W * H ≤ 67108864) (hb : Rd E_uint8 w b bs) (hl : bs.length ≤ 1000000000) (hn : ¬ bs.length < 4 * W * H) {K : T_api_Matrix → Int → World → Prop}
    (hL : bs.length > 4 * W * H → ∀ w', Below w.heap.size w w' → K ⟨0, 0, ⟨none, 0, 0⟩⟩ 5 w') (hO : bs.length = 4 * W * H → ∀ s w', Go.Vc.Own E_uint8 w' w.heap.size s (fromP 4 (W * H) bs) → Below w.heap.size w w' → K ⟨W, H, s⟩ 0 w') : c_pixel_FromRGBA (W : Int) (H : Int) b w K := by
  refine call_pixel_FromRGBA _ _ _ ?_
  unfold sh_pixel_FromRGBA
  refine nw_blk fun w1 h1 hB1 hs1 => ?_
  refine from_spec (per := 4) (by omega) hW1 hW2 hH1 hH2 hA (hb.ext hB1) hl (fun h => absurd h hn) (fun h w2 hB2 => ?_) (fun h s w2 hs hB2 => ?_)
  · exact res_of (r := T_api_Matrix.rep) (x := ⟨0, 0, ⟨none, 0, 0⟩⟩) (h1.ext hB2) rfl rfl fun w3 hc3 hs3 => hL h w3 (below_one (below_t hB1 hB2) hc3 (Nat.le_refl _))
  · exact res_of (r := T_api_Matrix.rep) (x := ⟨W, H, s⟩) (h1.ext hB2) rfl rfl fun w3 hc3 hs3 => hO h s w3 ((hs.chg hc3 fun k hk => own_ne_blk hs (h1.ext hB2) (by decide) k hk).base hB1.size) (below_one (below_t hB1 hB2) hc3 (Nat.le_refl _))
theorem limage_spec {p : Slc} {held err : Nat} {over : Bool} (hb : Blk w g ty_load_Loader (lCells gd C p held err over)) (hC : CfgOk C) {b : Slc} {bs : List UInt8} (hr : Rd E_uint8 w b bs) (hrl : ∀ k, b.blk = some k → k < w.heap.size) (hl : bs.length ≤ 1000000) {K : T_api_Matrix → Int → World → Prop}
    (hK : ∀ m w', MatR w' w.heap.size m (madeL C bs) → Below w.heap.size w w' → K m ((madeL C bs).1 : Nat) w') : c_load_Loader_image (some ⟨g, 0, none⟩) b w K := by
  refine call_load_Loader_image _ _ ?_
  unfold sh_load_Loader_image
  simp only [onPtr_some]
  have hmost := hC.most
  refine nw_blk fun w1 h1 hB1 hs1 => joinP_of fun J1 hJ1 => ?_
  have hb1 := hb.ext hB1
  refine ldI_of (x := C.k.Format) (hb1.cells 6 _ rfl) (joinP_of fun J2 hJ2 => ?_)
  unfold madeL at hK
  have told : ∀ (m : T_api_Matrix) (e : Nat) (r : Nat × Nat × Nat × List UInt8) w2, MatR w2 (w.heap.size + 1) m r → Below w1.heap.size w1 w2 → (∀ w', MatR w' w.heap.size m r → Below w.heap.size w w' → K m (e : Int) w') →
      stK ⟨w.heap.size, 0, none⟩ (T_api_Matrix.rep.cells m) w2 fun w4 => ldS T_api_Matrix.rep ⟨w.heap.size, 0, none⟩ w4 fun r => K r (e : Int) w4 := by
    intro m e r w2 hm hB2 hk
    refine res_of (r := T_api_Matrix.rep) (x := m) (h1.ext hB2) rfl rfl fun w4 hc4 hs4 => ?_
    exact hk w4 ⟨hm.1, hm.2.1, (hm.2.2.chg hc4 fun k hk e => by have := (hm.2.2.lt k hk).1; omega).base (by omega)⟩ (below_one (below_t hB1 hB2) hc4 (Nat.le_refl _))
  refine cond_of (fun e => ?_) fun e => ?_
  · have e : C.k.Format = 100 := eq_of_beq e
    rw [if_pos e] at hK
    refine ldI_of (x := (C.most : Int)) (hb1.cells 23 _ rfl) ⟨by decide, ?_⟩
    rw [show (4 : Int) = ((4 : Nat) : Int) from rfl, ← Int.ofNat_tdiv, wrap64_id (x := ((C.most / 4 : Nat) : Int)) (by omega)]
    refine Decode_spec (hr.ext hB1) (fun k hk => by have := hrl k hk; omega) hl (by omega) (fun hne w2 hB2 => ?_) (fun W H m hde s2 w2 hs2 hml hB2 => ?_)
    · have hz : ∀ b px, (decodeP b px).1 ≠ 0 → ∃ e, decodeP b px = (e, 0, 0, []) := by
        intro b px h
        unfold decodeP at h ⊢
        split
        · exact ⟨_, rfl⟩
        · rename_i h1
          rw [if_neg h1] at h
          unfold decF at h ⊢
          split
          · exact ⟨_, rfl⟩
          · rename_i h2
            rw [if_neg h2] at h
            split
            · exact ⟨_, rfl⟩
            · rename_i h3
              rw [if_neg h3] at h
              split
              · exact ⟨_, rfl⟩
              · rename_i m hm
                rw [hm] at h
                exact absurd rfl h
      obtain ⟨e', he'⟩ := hz _ _ hne
      rw [he'] at hK ⊢
      exact told _ e' (e', 0, 0, []) w2 (MatR.zero _ _ _) hB2 fun w' hm hB => hK _ w' hm hB
    · rw [hde] at hK
      exact told ⟨W, H, s2⟩ 0 (0, W, H, m) w2 ⟨rfl, rfl, hs2.base (by omega)⟩ hB2 fun w' hm hB => hK _ w' hm hB
  · have e : C.k.Format ≠ 100 := by simpa using e
    rw [if_neg e] at hK
    obtain ⟨W, H, per, hW, hH, a1, a2, a3, a4, hper, hneed, hmo⟩ := hC.sides e
    have hpm : per * W * H = per * (W * H) := Nat.mul_assoc _ _ _
    have hWn : C.k.W.toNat = W := by rw [hW]; rfl
    have hHn : C.k.H.toNat = H := by rw [hH]; rfl
    have hpe : (if C.k.Format = 24 then 3 else 4 : Nat) = per := by
      rcases hper with ⟨h1, h2⟩ | ⟨h1, h2⟩
      · rw [if_pos h1, h2]
      · rw [if_neg (by omega), h2]
    rw [hWn, hHn, hpe] at hK
    have hA : W * H ≤ 67108864 := by omega
    -- behind the choice of a function
    have go : ∀ f : Value, (∀ w2, Below w1.heap.size w1 w2 → ¬ bs.length < C.need → callR Go.Proofs.YtmagnpcgpinmcaaGreat.C f [(.int .i64 (W : Int)), (.int .i64 (H : Int)), (.slice b.a b.n b.c)] [(Kind.struct T_api_Matrix.rep), (Kind.int .i64)] w2 fun (t45 : T_api_Matrix) (t45_1 : Int) w3 => stK ⟨w.heap.size, 0, none⟩ (T_api_Matrix.rep.cells t45) w3 fun w4 => ldS T_api_Matrix.rep ⟨w.heap.size, 0, none⟩ w4 fun r => K r t45_1 w4) → J2 (f, ()) w1 := by
      intro f hf
      refine hJ2 _ _ ?_
      refine ldI_of (x := (C.need : Int)) (hb1.cells 24 _ rfl) ?_
      rw [hr.n]
      refine cond_of (fun e2 => ?_) fun e2 => ?_
      · have e2 := of_decide_eq_true e2
        rw [if_pos (by omega)] at hK
        exact told ⟨0, 0, ⟨none, 0, 0⟩⟩ 2 (2, 0, 0, []) w1 (MatR.zero _ _ _) (Below.refl _ _) fun w' hm hB => hK _ w' hm hB
      · have e2 := of_decide_eq_false e2
        refine hJ1 _ _ ?_
        have hbd := hb1.ext (below_drew w1)
        refine ldI_of (x := (W : Int)) (by rw [← hW]; exact hbd.cells 7 _ rfl) (ldI_of (x := (H : Int)) (by rw [← hH]; exact hbd.cells 8 _ rfl) ?_)
        exact hf w1.drew (below_drew w1) (by omega)
    have hs1' := hB1.size
    refine cond_of (fun e24 => go _ fun w2 hB2 hn => callR_plain (by kernel_rfl) ?_) fun e24 => go _ fun w2 hB2 hn => callR_plain (by kernel_rfl) ?_
    · have e24 : C.k.Format = 24 := eq_of_beq e24
      have hp : per = 3 := by omega
      subst hp
      have hcall : c_pixel_FromRGB (W : Int) (H : Int) b w2 fun t45 t45_1 w3 => stK ⟨w.heap.size, 0, none⟩ (T_api_Matrix.rep.cells t45) w3 fun w4 => ldS T_api_Matrix.rep ⟨w.heap.size, 0, none⟩ w4 fun r => K r t45_1 w4 := by
        refine fromRGB_spec a1 a2 a3 a4 hA (hr.ext (below_t hB1 hB2)) (by omega) (by omega) (fun h w3 hB3 => ?_) (fun h s3 w3 hs3 hB3 => ?_)
        · rw [if_neg hn, if_pos (by omega)] at hK
          exact told ⟨0, 0, ⟨none, 0, 0⟩⟩ 5 (5, 0, 0, []) w3 (MatR.zero _ _ _) (below_t hB2 hB3) fun w' hm hB => hK _ w' hm hB
        · rw [if_neg hn, if_neg (by omega)] at hK
          have hs2 := hB2.size
          exact told ⟨W, H, s3⟩ 0 (0, W, H, fromP 3 (W * H) bs) w3 ⟨rfl, rfl, hs3.base (by omega)⟩ (below_t hB2 hB3) fun w' hm hB => hK _ w' hm hB
      refine Calls.mono hcall ?_
      rintro ev w' ⟨r0, r1, rfl, hk⟩
      exact ⟨r0, r1, rfl, hk⟩
    · have e24 : C.k.Format ≠ 24 := by simpa using e24
      have hp : per = 4 := by omega
      subst hp
      have hcall : c_pixel_FromRGBA (W : Int) (H : Int) b w2 fun t45 t45_1 w3 => stK ⟨w.heap.size, 0, none⟩ (T_api_Matrix.rep.cells t45) w3 fun w4 => ldS T_api_Matrix.rep ⟨w.heap.size, 0, none⟩ w4 fun r => K r t45_1 w4 := by
        refine fromRGBA_spec a1 a2 a3 a4 hA (hr.ext (below_t hB1 hB2)) (by omega) (by omega) (fun h w3 hB3 => ?_) (fun h s3 w3 hs3 hB3 => ?_)
        · rw [if_neg hn, if_pos (by omega)] at hK
          exact told ⟨0, 0, ⟨none, 0, 0⟩⟩ 5 (5, 0, 0, []) w3 (MatR.zero _ _ _) (below_t hB2 hB3) fun w' hm hB => hK _ w' hm hB
        · rw [if_neg hn, if_neg (by omega)] at hK
          have hs2 := hB2.size
          exact told ⟨W, H, s3⟩ 0 (0, W, H, fromP 4 (W * H) bs) w3 ⟨rfl, rfl, hs3.base (by omega)⟩ (below_t hB2 hB3) fun w' hm hB => hK _ w' hm hB
      refine Calls.mono hcall ?_
      rintro ev w' ⟨r0, r1, rfl, hk⟩
      exact ⟨r0, r1, rfl, hk⟩
theorem lunpack_spec {p : Slc} {held err : Nat} {over : Bool} (hb : Blk w g ty_load_Loader (lCells gd C p held err over)) (hC : CfgOk C) {b : Slc} {bs : List UInt8} (hr : Rd E_uint8 w b bs) (hrl : ∀ k, b.blk = some k → k < w.heap.size) (hl : bs.length ≤ 1000000) {K : Slc → Int → World → Prop}
    (hE : ∀ e : Nat, e ≠ 0 → e = (if unErr (roomL C) bs ≠ 0 then unErr (roomL C) bs else 3) → (unErr (roomL C) bs ≠ 0 ∨ unUsed (roomL C) bs < bs.length) → ∀ t w', Below w.heap.size w w' → K t (e : Int) w')
    (hO : unErr (roomL C) bs = 0 → ¬ unUsed (roomL C) bs < bs.length → ∀ t w', Go.Vc.Own E_uint8 w' w.heap.size t (unOut (roomL C) bs) → (unOut (roomL C) bs).length ≤ roomL C → Below w.heap.size w w' → K t 0 w') : c_load_Loader_unpack (some ⟨g, 0, none⟩) b w K := by
  refine call_load_Loader_unpack _ _ ?_
  unfold sh_load_Loader_unpack
  simp only [onPtr_some]
  have hmost := hC.most
  refine ldI_of (x := (C.need : Int)) (hb.cells 24 _ rfl) (joinP_of fun J1 hJ1 => ?_)
  have hroom : roomL C ≤ 400000 := by
    unfold roomL
    split
    · omega
    · rename_i hf
      obtain ⟨W, H, per, _, _, _, _, _, _, hper, hneed, hmo⟩ := hC.sides hf
      have : per * W * H ≤ 4 * (W * H) := by rw [Nat.mul_assoc]; exact Nat.mul_le_mul_right _ (by omega)
      omega
  have key : J1 ((roomL C : Int), ()) w := by
    refine hJ1 _ _ ?_
    obtain ⟨u1, u2, u3⟩ := unRun_spec (roomL C) bs
    refine Unpack_spec (by omega) hr hrl (by omega) u1 u2 u3 (fun hz o w2 ho hB2 => ?_) (fun n hz hn w2 hB2 => ?_)
    · have hz : unErr (roomL C) bs = 0 := hz
      have hu : ((6 + ((unRun (roomL C) bs).2.1 + 7) / 8 : Nat) : Int) = ((unUsed (roomL C) bs : Nat) : Int) := rfl
      have hoo : (unRun (roomL C) bs).1.hist = unOut (roomL C) bs := rfl
      rw [hu]
      rw [hoo] at ho
      have hxm : (unOut (roomL C) bs).length ≤ roomL C := u1.most (Nat.zero_le _)
      refine joinP_of fun J2 hJ2 => cond_t rfl ?_
      rw [hr.n]
      refine cond_of (fun e => hJ2 _ _ ?_) fun e => hJ2 _ _ ?_
      · have e := of_decide_eq_true e
        exact hE 3 (by decide) (by rw [if_neg (by omega)]) (.inr (by omega)) o w2 hB2
      · have e := of_decide_eq_false e
        exact hO hz (by omega) o w2 ho hxm hB2
    · have hz : unErr (roomL C) bs = n := hz
      refine joinP_of fun J2 hJ2 => cond_f (beqI_f (by omega)) (hJ2 _ _ ?_)
      exact hE n hn (by rw [hz, if_pos hn]) (.inl (by omega)) _ w2 hB2
  refine ldI_of (x := C.k.Format) (hb.cells 6 _ rfl) (cond_of (fun e => ?_) fun e => ?_)
  · have e : C.k.Format = 100 := eq_of_beq e
    refine ldI_of (x := (C.most : Int)) (hb.cells 23 _ rfl) ?_
    unfold roomL at key
    rw [if_pos e] at key
    exact key
  · have e : C.k.Format ≠ 100 := by simpa using e
    unfold roomL at key
    rw [if_neg e] at key
    exact key
end
end Go.Proofs.YtmagnpcgpinmcaaGreat

set_option linter.unusedVariables false
namespace Go.Proofs.YtmagnpcgpinmcaaGreat
open Go.Vc Go.RowKit
set_option maxRecDepth 400000
/-- The sign of six bits. -/
def sgn6 (v : Nat) : UInt8 := alphaL.getD v 0
theorem sgn6_ok {v : Nat} (h : v < 64) : valB (sgn6 v) = some v ∧ (sgn6 v).toNat ≠ 61 := by
  have : ∀ v, v < 64 → valB (sgn6 v) = some v ∧ (sgn6 v).toNat ≠ 61 := by decide +kernel
  exact this v h
/-- The number of three bytes; those that are lacking are 0. -/
def num3 (x : List UInt8) : Nat := ((x.getD 0 0).toNat * 256 + (x.getD 1 0).toNat) * 256 + (x.getD 2 0).toNat
def enc1 (x : List UInt8) (i : Nat) : UInt8 := if i > x.length then 61 else sgn6 (num3 x / 2 ^ (18 - 6 * i) % 64)
def enc3 (x : List UInt8) : List UInt8 := (List.range 4).map (enc1 x)
def encB : List UInt8 → List UInt8
  | [] => []
  | [a] => enc3 [a]
  | [a, b] => enc3 [a, b]
  | a :: b :: c :: r => enc3 [a, b, c] ++ encB r
def lastB (n : Nat) : B64 := if n % 3 = 0 then b64N else ⟨[], 0, true, false⟩

theorem put_val {w : List Nat} {v : Nat} (h : v < 64) : b64Put ⟨w, 0, false, false⟩ (sgn6 v) = (0, (b64fin ⟨w ++ [v], 0, false, false⟩).1, (b64fin ⟨w ++ [v], 0, false, false⟩).2) := by
  obtain ⟨h1, h2⟩ := sgn6_ok h
  simp [b64Put, b64put, h1, h2]
theorem fin_short {w : List Nat} (h : w.length < 4) : b64fin ⟨w, 0, false, false⟩ = ([], ⟨w, 0, false, false⟩) := by
  unfold b64fin
  rw [if_pos (by simpa using h)]
section
variable {C : LdK} {s : LdS}
/-- A sign of which no byte comes. -/
theorem addL_step {d d' : B64} {c : UInt8} {l : List UInt8} (he : s.err = 0) (ht : takeE C s.b.length = 0) (hp : b64Put d c = (0, [], d')) : addL C { s with d := d } (c :: l) = addL C { s with d := d' } l := by
  unfold addL
  rw [List.foldl_cons]
  congr 1
  unfold addC gotL failL
  rw [if_neg (by simpa using he)]
  simp [hp, ht]
theorem addL_fin {d d' : B64} {c : UInt8} {o : List UInt8} (he : s.err = 0) (hp : b64Put d c = (0, o, d')) : addL C { s with d := d } [c] = failL { s with d := d', b := s.b ++ o } (takeE C (s.b ++ o).length) := by
  show addC C { s with d := d } c = _
  unfold addC gotL
  rw [if_neg (by simpa using he)]
  dsimp only
  rw [hp, if_neg (by simp)]
theorem addL0 {l : List UInt8} (hd : s.d = b64N) : addL C s l = addL C { s with d := ⟨[], 0, false, false⟩ } l := by
  cases s
  cases hd
  rfl
theorem clean2 (v0 v1 : Nat) : cleanB [v0, v1 * 16] = true := by
  unfold cleanB valN
  simp only [List.foldl_cons, List.foldl_nil, List.length_cons, List.length_nil]
  exact decide_eq_true (show (64 * (64 * 0 + v0) + v1 * 16) % 16 = 0 by omega)
theorem clean3 (v0 v1 v2 : Nat) : cleanB [v0, v1, v2 * 4] = true := by
  unfold cleanB valN
  simp only [List.foldl_cons, List.foldl_nil, List.length_cons, List.length_nil]
  exact decide_eq_true (show (64 * (64 * (64 * 0 + v0) + v1) + v2 * 4) % 4 = 0 by omega)
theorem u8_eq {n : Nat} {c : UInt8} (h : n % 256 = c.toNat) : UInt8.ofNat n = c := by
  apply UInt8.toNat.inj
  rw [UInt8.toNat_ofNat']
  exact h
theorem add3 (he : s.err = 0) (hd : s.d = b64N) (ht : takeE C s.b.length = 0) (a b c : UInt8) :
    addL C s (enc3 [a, b, c]) = failL { s with d := b64N, b := s.b ++ [a, b, c] } (takeE C (s.b ++ [a, b, c]).length) := by
  have ha := a.toNat_lt
  have hb := b.toNat_lt
  have hc := c.toNat_lt
  obtain ⟨v, hv⟩ : ∃ v, v = (a.toNat * 256 + b.toNat) * 256 + c.toNat := ⟨_, rfl⟩
  have e : enc3 [a, b, c] = [sgn6 (v / 2 ^ 18 % 64), sgn6 (v / 2 ^ 12 % 64), sgn6 (v / 2 ^ 6 % 64), sgn6 (v / 2 ^ 0 % 64)] := by rw [hv]; rfl
  rw [e]
  simp only [show (2 : Nat) ^ 18 = 262144 from rfl, show (2 : Nat) ^ 12 = 4096 from rfl, show (2 : Nat) ^ 6 = 64 from rfl, show (2 : Nat) ^ 0 = 1 from rfl, Nat.div_one]
  rw [addL0 hd, addL_step he ht (d' := ⟨[v / 262144 % 64], 0, false, false⟩) ((put_val (w := []) (by omega)).trans (by rw [fin_short (by simp)]; rfl))]
  rw [addL_step he ht (d' := ⟨[v / 262144 % 64, v / 4096 % 64], 0, false, false⟩) ((put_val (w := [_]) (by omega)).trans (by rw [fin_short (by simp)]; rfl))]
  rw [addL_step he ht (d' := ⟨[v / 262144 % 64, v / 4096 % 64, v / 64 % 64], 0, false, false⟩) ((put_val (w := [_, _]) (by omega)).trans (by rw [fin_short (by simp)]; rfl))]
  have hout : outB [v / 262144 % 64, v / 4096 % 64, v / 64 % 64, v % 64] = [a, b, c] := by
    have e1 : valN [v / 262144 % 64, v / 4096 % 64, v / 64 % 64, v % 64] = v := by
      unfold valN
      simp only [List.foldl_cons, List.foldl_nil]
      omega
    unfold outB
    rw [e1]
    unfold be3
    simp only [List.length_cons, List.length_nil, Nat.reduceAdd, Nat.reduceSub, Nat.reduceMul, Nat.reducePow, Nat.reduceDiv, Nat.mul_one]
    rw [u8_eq (c := a) (by omega), u8_eq (c := b) (by omega), u8_eq (c := c) (by omega)]
    rfl
  rw [addL_fin he (o := [a, b, c]) (d' := b64N) ((put_val (w := [_, _, _]) (by omega)).trans (by
    unfold b64fin
    rw [if_neg (by simp)]
    show (0, outB [v / 262144 % 64, v / 4096 % 64, v / 64 % 64, v % 64], _) = _
    rw [hout]
    rfl))]
theorem add2 (he : s.err = 0) (hd : s.d = b64N) (ht : takeE C s.b.length = 0) (a b : UInt8) :
    addL C s (enc3 [a, b]) = failL { s with d := ⟨[], 0, true, false⟩, b := s.b ++ [a, b] } (takeE C (s.b ++ [a, b]).length) := by
  have ha := a.toNat_lt
  have hb := b.toNat_lt
  obtain ⟨v, hv⟩ : ∃ v, v = (a.toNat * 256 + b.toNat) * 256 + 0 := ⟨_, rfl⟩
  have e : enc3 [a, b] = [sgn6 (v / 2 ^ 18 % 64), sgn6 (v / 2 ^ 12 % 64), sgn6 (v / 2 ^ 6 % 64), 61] := by rw [hv]; rfl
  rw [e]
  simp only [show (2 : Nat) ^ 18 = 262144 from rfl, show (2 : Nat) ^ 12 = 4096 from rfl, show (2 : Nat) ^ 6 = 64 from rfl]
  rw [addL0 hd, addL_step he ht (d' := ⟨[v / 262144 % 64], 0, false, false⟩) ((put_val (w := []) (by omega)).trans (by rw [fin_short (by simp)]; rfl))]
  rw [addL_step he ht (d' := ⟨[v / 262144 % 64, v / 4096 % 64], 0, false, false⟩) ((put_val (w := [_]) (by omega)).trans (by rw [fin_short (by simp)]; rfl))]
  rw [addL_step he ht (d' := ⟨[v / 262144 % 64, v / 4096 % 64, v / 64 % 64], 0, false, false⟩) ((put_val (w := [_, _]) (by omega)).trans (by rw [fin_short (by simp)]; rfl))]
  have hout : outB [v / 262144 % 64, v / 4096 % 64, v / 64 % 64] = [a, b] := by
    have e1 : valN [v / 262144 % 64, v / 4096 % 64, v / 64 % 64] = v / 64 := by
      unfold valN
      simp only [List.foldl_cons, List.foldl_nil]
      omega
    unfold outB
    rw [e1]
    unfold be3
    simp only [List.length_cons, List.length_nil, Nat.reduceAdd, Nat.reduceSub, Nat.reduceMul, Nat.reducePow, Nat.reduceDiv, Nat.mul_one]
    rw [u8_eq (c := a) (by omega), u8_eq (c := b) (by omega)]
    rfl
  have hcl : cleanB [v / 262144 % 64, v / 4096 % 64, v / 64 % 64] = true := by
    rw [show v / 64 % 64 = (v / 256 % 16) * 4 by omega]
    exact clean3 _ _ _
  rw [addL_fin he (o := [a, b]) (d' := ⟨[], 0, true, false⟩) (by
    show b64Put ⟨[v / 262144 % 64, v / 4096 % 64, v / 64 % 64], 0, false, false⟩ 61 = _
    simp only [b64Put, b64put, b64fin, hcl, hout, List.length_cons, List.length_nil]
    rfl)]
theorem add1 (he : s.err = 0) (hd : s.d = b64N) (ht : takeE C s.b.length = 0) (a : UInt8) :
    addL C s (enc3 [a]) = failL { s with d := ⟨[], 0, true, false⟩, b := s.b ++ [a] } (takeE C (s.b ++ [a]).length) := by
  have ha := a.toNat_lt
  obtain ⟨v, hv⟩ : ∃ v, v = (a.toNat * 256 + 0) * 256 + 0 := ⟨_, rfl⟩
  have e : enc3 [a] = [sgn6 (v / 2 ^ 18 % 64), sgn6 (v / 2 ^ 12 % 64), 61, 61] := by rw [hv]; rfl
  rw [e]
  simp only [show (2 : Nat) ^ 18 = 262144 from rfl, show (2 : Nat) ^ 12 = 4096 from rfl]
  rw [addL0 hd, addL_step he ht (d' := ⟨[v / 262144 % 64], 0, false, false⟩) ((put_val (w := []) (by omega)).trans (by rw [fin_short (by simp)]; rfl))]
  rw [addL_step he ht (d' := ⟨[v / 262144 % 64, v / 4096 % 64], 0, false, false⟩) ((put_val (w := [_]) (by omega)).trans (by rw [fin_short (by simp)]; rfl))]
  have hout : outB [v / 262144 % 64, v / 4096 % 64] = [a] := by
    have e1 : valN [v / 262144 % 64, v / 4096 % 64] = v / 4096 := by
      unfold valN
      simp only [List.foldl_cons, List.foldl_nil]
      omega
    unfold outB
    rw [e1]
    unfold be3
    simp only [List.length_cons, List.length_nil, Nat.reduceAdd, Nat.reduceSub, Nat.reduceMul, Nat.reducePow, Nat.reduceDiv, Nat.mul_one]
    rw [u8_eq (c := a) (by omega)]
    rfl
  have hcl : cleanB [v / 262144 % 64, v / 4096 % 64] = true := by
    rw [show v / 4096 % 64 = (v / 65536 % 4) * 16 by omega]
    exact clean2 _ _
  rw [addL_step he ht (d' := ⟨[v / 262144 % 64, v / 4096 % 64], 1, false, false⟩) (by
    show b64Put ⟨[v / 262144 % 64, v / 4096 % 64], 0, false, false⟩ 61 = _
    simp only [b64Put, b64put, b64fin, hcl, List.length_cons, List.length_nil]
    rfl)]
  rw [addL_fin he (o := [a]) (d' := ⟨[], 0, true, false⟩) (by
    show b64Put ⟨[v / 262144 % 64, v / 4096 % 64], 1, false, false⟩ 61 = _
    simp only [b64Put, b64put, b64fin, hcl, hout, List.length_cons, List.length_nil]
    rfl)]
theorem failL_zero (s : LdS) : failL s 0 = s := by unfold failL; rw [if_neg (by omega)]
theorem failL_err {s : LdS} {e : Nat} (h : s.err = 0) (he : e ≠ 0) : (failL s e).err = e := by unfold failL; rw [if_pos ⟨h, he⟩]
/-- An encoded text is its bytes, as far as they may be. -/
theorem addL_enc : ∀ (n : Nat) (bs : List UInt8), bs.length ≤ n → ∀ s : LdS, s.err = 0 → s.d = b64N → takeE C s.b.length = 0 →
    (addL C s (encB bs) = { s with d := lastB bs.length, b := s.b ++ bs } ∧ takeE C (s.b ++ bs).length = 0) ∨ ((addL C s (encB bs)).err ≠ 0 ∧ ∃ m, m ≤ (s.b ++ bs).length ∧ (addL C s (encB bs)).err = takeE C m)
  | n, [], hn, s, he, hd, ht => by
    refine .inl ⟨?_, by rwa [List.append_nil]⟩
    rw [List.append_nil]
    show s = { s with d := b64N }
    rw [← hd]
  | n, [a], hn, s, he, hd, ht => by
    show (addL C s (enc3 [a]) = _ ∧ _) ∨ ((addL C s (enc3 [a])).err ≠ 0 ∧ ∃ m, _ ∧ (addL C s (enc3 [a])).err = _)
    rw [add1 he hd ht a]
    by_cases h0 : takeE C (s.b ++ [a]).length = 0
    · rw [h0, failL_zero]
      exact .inl ⟨rfl, rfl⟩
    · rw [failL_err (by exact he) h0]
      exact .inr ⟨h0, _, Nat.le_refl _, rfl⟩
  | n, [a, b], hn, s, he, hd, ht => by
    show (addL C s (enc3 [a, b]) = _ ∧ _) ∨ ((addL C s (enc3 [a, b])).err ≠ 0 ∧ ∃ m, _ ∧ (addL C s (enc3 [a, b])).err = _)
    rw [add2 he hd ht a b]
    by_cases h0 : takeE C (s.b ++ [a, b]).length = 0
    · rw [h0, failL_zero]
      exact .inl ⟨rfl, rfl⟩
    · rw [failL_err (by exact he) h0]
      exact .inr ⟨h0, _, Nat.le_refl _, rfl⟩
  | 0, a :: b :: c :: r, hn, s, he, hd, ht => by simp at hn
  | n + 1, a :: b :: c :: r, hn, s, he, hd, ht => by
    have e : encB (a :: b :: c :: r) = enc3 [a, b, c] ++ encB r := by rw [encB]
    rw [e, addL_append, add3 he hd ht a b c]
    by_cases h0 : takeE C (s.b ++ [a, b, c]).length = 0
    · rw [h0, failL_zero]
      have := addL_enc n r (by simp at hn; omega) { s with d := b64N, b := s.b ++ [a, b, c] } he rfl h0
      rw [show s.b ++ a :: b :: c :: r = (s.b ++ [a, b, c]) ++ r by simp]
      have hl : lastB (a :: b :: c :: r).length = lastB r.length := by
        unfold lastB
        rw [show (a :: b :: c :: r).length % 3 = r.length % 3 by simp only [List.length_cons]; omega]
      rw [hl]
      exact this
    · rw [addL_err (by rw [failL_err (by exact he) h0]; exact h0), failL_err (by exact he) h0]
      exact .inr ⟨h0, _, by simp, rfl⟩
theorem enc3_len (x : List UInt8) : (enc3 x).length = 4 := by simp [enc3]
theorem encB_len : ∀ (n : Nat) (bs : List UInt8), bs.length ≤ n → 3 * (encB bs).length ≤ 4 * bs.length + 8
  | n, [], _ => by simp [encB]
  | n, [a], _ => by rw [encB, enc3_len]; simp
  | n, [a, b], _ => by rw [encB, enc3_len]; simp
  | 0, a :: b :: c :: r, hn => by simp at hn
  | n + 1, a :: b :: c :: r, hn => by
    have := encB_len n r (by simp at hn; omega)
    rw [encB, List.length_append, enc3_len]
    simp only [List.length_cons]
    omega
/-- The end behind a text that is whole. -/
theorem endL_last (he : s.err = 0) (n : Nat) (hd : s.d = lastB n) (ht : takeE C s.b.length = 0) : endL C s = { s with d := b64N } := by
  unfold endL gotL
  rw [if_neg (by omega), hd]
  have e : b64End (lastB n) = (0, [], b64N) := by unfold lastB; split <;> rfl
  rw [e]
  simp [ht, failL_zero]
end
end Go.Proofs.YtmagnpcgpinmcaaGreat

set_option linter.unusedVariables false
namespace Go.Proofs.YtmagnpcgpinmcaaGreat
open Go.Vc Go.RowKit
set_option maxRecDepth 400000
/-! ### The loader at an encoded text -/
theorem takeE_mono {C : LdK} {m n : Nat} (h : m ≤ n) (h0 : takeE C n = 0) : takeE C m = 0 := by
  unfold takeE at h0 ⊢
  split at h0
  · cases h0
  · rename_i h1
    split at h0
    · cases h0
    · rename_i h2
      rw [if_neg (by omega), if_neg (fun hh => h2 ⟨hh.1, hh.2.1, by omega⟩)]
theorem addL_enc0 {C : LdK} {bs : List UInt8} (h : takeE C bs.length = 0) : addL C ld0 (encB bs) = { ld0 with d := lastB bs.length, b := bs } := by
  rcases addL_enc (C := C) bs.length bs (Nat.le_refl _) ld0 rfl rfl (takeE_mono (Nat.zero_le _) h) with ⟨h1, _⟩ | ⟨h1, m, hm, h2⟩
  · rw [h1]
    rfl
  · exact absurd (h2.trans (takeE_mono hm h)) h1
theorem resL_enc {C : LdK} {bs : List UInt8} (h : takeE C bs.length = 0) : resL C (addL C ld0 (encB bs)) = lastL C bs := by
  rw [addL_enc0 h]
  have e : endL C (shutL { ld0 with d := lastB bs.length, b := bs }) = { shutL { ld0 with d := lastB bs.length, b := bs } with d := b64N } := endL_last rfl bs.length rfl h
  unfold resL
  rw [e]
  rfl
theorem addL_encE {C : LdK} {bs : List UInt8} (h : takeE C bs.length ≠ 0) (h0 : takeE C 0 = 0) : (addL C ld0 (encB bs)).err ≠ 0 ∧ ∃ m, m ≤ bs.length ∧ (addL C ld0 (encB bs)).err = takeE C m := by
  rcases addL_enc (C := C) bs.length bs (Nat.le_refl _) ld0 rfl rfl h0 with ⟨_, h1⟩ | h1
  · exact absurd h1 h
  · exact h1
theorem resL_err {C : LdK} {s : LdS} (h : s.err ≠ 0) (ho : s.over = false) : resL C s = (s.err, 0, 0, []) := by
  unfold resL endL shutL
  dsimp only
  rw [ho, if_neg (by decide), if_pos h, if_pos h]

/-! ### Pixels -/
/-! ### Packed -/
/-! ### Small images as PNG -/
end Go.Proofs.YtmagnpcgpinmcaaGreat
