/- The screen walked: parameters; asked, margins, again, display, inLine, cells, lines, move. The screen walked: cells, move, show, turn, soft. The screen walked: show, turn, soft, control, reset, full, single, escape. The screen walked: reset, full, single, escape. attr.Apply: plain, and walked. The screen walked: Mode, place, bare, sequence, Do. The screen walked: a grid's twin, sequence, Do, Move. The screen walked: Resize, Move. What the plain screen's functions leave as it was. known17. The helpers of the screen's laws; ScreenMoves. ScreenMoves. Acts of screens opened: events that hold slices of numbers and of bytes each. Acts of a screen read; Few, Small. ScreenSaves. -/
import Derived.Test.YtmoafafalnbkpaaGreatDoorP2
import Derived.Test.YtmoafafalnbkpaaGreatDoorP1
import Derived.Laws.Runes
set_option linter.unusedVariables false
set_option linter.unusedVariables false
namespace Go.Proofs.YtmoafafalnbkpaaGreatDoor
open Go.Vc Go.RowKit
set_option maxRecDepth 400000
def in64 (x : Int) : Prop := -9223372036854775808 ≤ x ∧ x ≤ 9223372036854775807
/-- Parameters that are no part of the screen. -/
structure ParM (w : World) (g : Nat) (F : ScF) (p : Slc) (ps : List Int) : Prop where
  rd : Rd E_int w p ps
  off : ps = [] ∨ ∀ a, p.a = some a → ¬ scS g F a.block ∧ a.block < w.heap.size
  rng : ∀ x ∈ ps, in64 x
  len : ps.length ≤ 100000
section
variable {w w' : World} {base g : Nat} {F F' : ScF} {S S' : Sc} {p : Slc} {ps : List Int}
theorem Rd.nil_any {T : Type} {E : El T} {w w' : World} {s : Slc} (h : Rd E w s []) : Rd E w' s [] := ⟨h.n, h.nc, h.cm, h.some_, fun i x hx => by cases hx⟩
theorem ParM.step (h : ParM w g F p ps) (hT : ScT base g w F F' S' w') : ParM w' g F' p ps := by
  rcases h.off with e | e
  · subst e
    exact ⟨Rd.nil_any h.rd, .inl rfl, h.rng, h.len⟩
  · refine ⟨h.rd.chg hT.chg fun a ha => (e a ha).1, .inr fun a ha => ⟨fun hs => ?_, ?_⟩, h.rng, h.len⟩
    · rcases hT.old _ hs with h1 | h1
      · exact (e a ha).1 h1
      · have := (e a ha).2; omega
    · have := (e a ha).2
      have := hT.chg.size
      omega
theorem ParM.ext (h : ParM w g F p ps) (hB : Below w.heap.size w w') : ParM w' g F p ps := by
  have := hB.size
  exact ⟨h.rd.ext hB, h.off.imp (fun e => e) fun e a ha => ⟨(e a ha).1, by have := (e a ha).2; omega⟩, h.rng, h.len⟩
/-! ### Loads and stores -/
theorem ScM.ldRow (h : ScM w base g F S) {K : Int → Prop} (hK : K S.c.Row) : ldI .i64 (((⟨g, 0, none⟩ : Addr).add 3).add 0) w K := ldI_of (x := S.c.Row) (by simp only [add_mk]; exact h.blk.cell 3 rfl) hK
theorem ScM.ldCol (h : ScM w base g F S) {K : Int → Prop} (hK : K S.c.Col) : ldI .i64 (((⟨g, 0, none⟩ : Addr).add 3).add 1) w K := ldI_of (x := S.c.Col) (by simp only [add_mk]; exact h.blk.cell 4 rfl) hK
theorem ScM.ldOrg (h : ScM w base g F S) {K : Bool → Prop} (hK : K S.c.Origin) : ldB (((⟨g, 0, none⟩ : Addr).add 3).add 6) w K := ldB_of (x := S.c.Origin) (by simp only [add_mk]; exact h.blk.cell 9 rfl) hK
theorem ScM.ldTop (h : ScM w base g F S) {K : Int → Prop} (hK : K S.top) : ldI .i64 ((⟨g, 0, none⟩ : Addr).add 37) w K := ldI_of (x := S.top) (by simp only [add_mk]; exact h.blk.cell 37 rfl) hK
theorem ScM.ldPast (h : ScM w base g F S) {K : Int → Prop} (hK : K S.past) : ldI .i64 ((⟨g, 0, none⟩ : Addr).add 38) w K := ldI_of (x := S.past) (by simp only [add_mk]; exact h.blk.cell 38 rfl) hK
theorem ScM.ldStops (h : ScM w base g F S) {K : Option Addr → Prop} (hK : K (some ⟨F.tg, 0, none⟩)) : ldP ((⟨g, 0, none⟩ : Addr).add 39) w K := ldP_of (x := some ⟨F.tg, 0, none⟩) (by simp only [add_mk]; exact h.blk.cell 39 rfl) hK
theorem ScM.cRow (h : ScM w base g F S) : w.cell? (((⟨g, 0, none⟩ : Addr).add 3).add 0) = some (.int .i64 S.c.Row) := by simp only [add_mk]; exact h.blk.cell 3 rfl
theorem ScM.cCol (h : ScM w base g F S) : w.cell? (((⟨g, 0, none⟩ : Addr).add 3).add 1) = some (.int .i64 S.c.Col) := by simp only [add_mk]; exact h.blk.cell 4 rfl
theorem ScM.cPast (h : ScM w base g F S) : w.cell? ((⟨g, 0, none⟩ : Addr).add 38) = some (.int .i64 S.past) := by simp only [add_mk]; exact h.blk.cell 38 rfl
theorem ScM.stDry (h : ScM w base g F S) {K : World → Prop} (hK : ∀ w', ScT base g w F F S.dry w' → K w') : stK (((⟨g, 0, none⟩ : Addr).add 3).add 2) [.bool false] w K := by
  rw [add_mk, add_mk]
  exact stK_blk h.blk (by simp [T_screen_Screen.rep]) fun w1 hb1 hg1 hs1 => hK w1 (ScT.dry h hb1 hg1)
/-! ### param, asked -/
theorem param_spec (h : ParM w g F p ps) {i : Nat} {none : Int} {K : Int → World → Prop} (hK : K (paramP ps i none) w) : c_screen_param p i none w K := by
  refine call_screen_param _ _ _ ?_
  unfold sh_screen_param
  refine joinP_of fun J1 hJ1 => ?_
  have hn := h.rd.n
  unfold paramP at hK
  refine cond_of (fun e => ?_) fun e => ?_
  · have e := of_decide_eq_true e
    rw [List.getElem?_eq_none (by omega)] at hK
    exact hK
  · have e := of_decide_eq_false e
    have hi : i < ps.length := by omega
    rw [List.getElem?_eq_getElem hi] at hK
    refine h.rd.ix rfl (by omega) (by omega) fun hc => ?_
    have hc' : w.cell? (p.at_ E_int.k (i : Int).toNat) = some (.int .i64 ps[i]) := by simpa using hc 0 _ rfl
    refine ldI_of (x := ps[i]) hc' ?_
    dsimp only at hK
    refine cond_of (fun e1 => ?_) fun e1 => ?_
    · have e1 : ps[i] = 0 := eq_of_beq e1
      rw [if_pos e1] at hK
      exact hK
    · have e1 : ¬ ps[i] = 0 := beq_eq_false_iff_ne.1 e1
      rw [if_neg e1] at hK
      exact hJ1 _ _ (h.rd.ix rfl (by omega) (by omega) fun _ => ldI_of (x := ps[i]) hc' hK)
theorem param_in (h : ParM w g F p ps) (i : Nat) {d : Int} (hd : in64 d) : in64 (paramP ps i d) := by
  unfold paramP
  split
  · rename_i v hv
    split
    · exact hd
    · exact h.rng v (List.mem_of_getElem? hv)
  · exact hd
theorem asked_spec (h : ScM w base g F S) {n : Int} {K : Int → World → Prop} (hK : ∀ w', Below w.heap.size w w' → K (S.asked n) w') : c_screen_Screen_asked (some ⟨g, 0, none⟩) n w K := by
  refine call_screen_Screen_asked _ _ ?_
  unfold sh_screen_Screen_asked
  simp only [onPtr_some]
  unfold Sc.asked at hK
  refine h.ldOrg (cond_of (fun e => ?_) fun e => ?_)
  · rw [if_pos e] at hK
    exact h.drew.ldTop (h.drew.ldTop (h.drew.ldPast (cut_spec (hK _ (below_drew w)))))
  · rw [if_neg (by rw [e]; decide)] at hK
    exact hK _ (Below.refl _ _)
/-! ### margins -/
theorem ScOk.marginsOf (h : ScOk S) {t q : Int} (ht : 0 ≤ t) (hq : q ≤ (S.g.rows : Int)) (h2 : t + 2 ≤ q) : ScOk { S with top := t, past := q } := by
  obtain ⟨e1, e2⟩ := h.grows
  rw [e1] at hq
  exact ⟨h.g0, h.g1, h.rows, h.cols, h.row, h.col, h.shift, h.sh0, h.sh1, ⟨ht, by show t < q; omega, hq⟩, fun _ => h2, h.stops⟩
theorem margins_spec (h : ScM w base g F S) (hp : ParM w g F p ps) {K : World → Prop} (hK : ∀ w', ScT base g w F F (S.margins ps) w' → K w') : c_screen_Screen_margins (some ⟨g, 0, none⟩) p w K := by
  refine call_screen_Screen_margins _ _ ?_
  unfold sh_screen_Screen_margins
  have hd := (ScT.refl h).drew.drew
  have hp1 := (hp.ext (below_drew w)).ext (below_drew w.drew)
  refine ssize_spec h ?_
  refine param_spec (i := 0) hp1 (cut_spec (param_spec (i := 1) hp1 (cut_spec ?_)))
  have hb := h.ok.bnd
  obtain ⟨t, ht⟩ : ∃ t, t = cutP (w64 (paramP ps 0 1 - 1)) 0 S.g.rows := ⟨_, rfl⟩
  obtain ⟨q, hq⟩ : ∃ q, q = cutP (paramP ps 1 S.g.rows) 0 S.g.rows := ⟨_, rfl⟩
  have i1 := cutP_in (v := w64 (paramP ps 0 1 - 1)) (lo := 0) (hi := (S.g.rows : Int)) (by omega)
  have i2 := cutP_in (v := paramP ps 1 S.g.rows) (lo := 0) (hi := (S.g.rows : Int)) (by omega)
  unfold Sc.margins at hK
  dsimp only at hK
  rw [← ht, ← hq] at hK
  rw [← ht] at i1
  rw [← hq] at i2
  have ht' : cutP (IntKind.i64.wrap (paramP ps 0 1 - 1)) 0 S.g.rows = t := ht.symm
  rw [ht', ← hq]
  show cond (decide (w64 (q - t) < 2)) _ _
  have e0 : w64 (q - t) = q - t := w64_of (by omega)
  rw [e0]
  rw [e0] at hK
  refine cond_of (fun e => ?_) fun e => ?_
  · have e := of_decide_eq_true e
    rw [if_pos e] at hK
    exact hK _ hd
  · have e := of_decide_eq_false e
    rw [if_neg e] at hK
    simp only [onPtr_some]
    rw [add_mk]
    refine stK_blk hd.m.blk (by simp [T_screen_Screen.rep]) fun w4 hb4 hg4 hs4 => ?_
    rw [add_mk]
    refine stK_blk hb4 (by simp [T_screen_Screen.rep, putL]) fun w5 hb5 hg5 hs5 => ?_
    have hc : Chg (fun k => k = g) w.drew.drew w5 := (Chg.gg hg4).trans (Chg.gg hg5) fun i _ hi => hi
    have hT5 := ScT.mk_struct hd.m hc (S' := { S with top := t, past := q }) hb5 rfl rfl rfl rfl rfl rfl (h.ok.marginsOf i1.1 i2.2 (by omega))
    exact home_spec hT5.m fun w6 hT6 => hK w6 ((hd.trans hT5).trans hT6)
/-! ### again -/
theorem again_spec (h : ScM w base g F S) {n : Int} {K : World → Prop} (hK : ∀ F' w', ScT base g w F F' (S.again n) w' → K w') : c_screen_Screen_again (some ⟨g, 0, none⟩) n w K := by
  refine call_screen_Screen_again _ _ ?_
  unfold sh_screen_Screen_again
  refine ssize_spec h ?_
  have hd := (ScT.refl h).drew.drew
  simp only [onPtr_some]
  refine ldI_of (x := S.char) (by rw [add_mk]; exact hd.m.blk.cell 40 rfl) ?_
  unfold Sc.again at hK
  have hb := h.ok.bnd
  refine cond_of (fun e => ?_) fun e => ?_
  · have e : S.char ≥ 0 := of_decide_eq_true e
    rw [if_pos e] at hK
    obtain ⟨N, hN⟩ : ∃ N, N = (if w64 ((S.g.rows : Int) * S.g.cols) < n then w64 ((S.g.rows : Int) * S.g.cols) else n) := ⟨_, rfl⟩
    rw [← hN] at hK
    have hmul : (S.g.rows : Int) * S.g.cols ≤ 1000 * 1000 := Int.mul_le_mul (by omega) (by omega) (by omega) (by omega)
    have hmul0 : 0 ≤ (S.g.rows : Int) * S.g.cols := Int.mul_nonneg (by omega) (by omega)
    have hw : w64 ((S.g.rows : Int) * S.g.cols) = (S.g.rows : Int) * S.g.cols := w64_of (by omega)
    have hNle : N ≤ 1000000 := by rw [hN, hw]; split <;> omega
    refine loopP_rule (fun (st : Int × Unit) w2 => ∃ (k : Nat) (F2 : ScF), st.1 = (k : Int) ∧ ((k : Int) ≤ N ∨ k = 0) ∧ ScT base g w F F2 (S.lays S.char k) w2) (fun st => N.toNat - st.1.toNat) ⟨0, F, rfl, .inr rfl, hd⟩ ?_
    rintro ⟨i, u⟩ w2 ⟨k, F2, hi, hk, hT2⟩ I hI
    dsimp only at hi ⊢
    subst hi
    show cond (decide ((k : Int) < (if w64 ((S.g.rows : Int) * S.g.cols) < n then w64 ((S.g.rows : Int) * S.g.cols) else n))) _ _
    rw [← hN]
    refine cond_of (fun e => ?_) fun e => ?_
    · have e := of_decide_eq_true e
      refine lay_spec hT2.m fun F3 w3 hT3 => ?_
      rw [wrap64_id (x := (k : Int) + 1) (by omega)]
      exact hI _ _ ⟨k + 1, F3, by simp, by omega, hT2.trans hT3⟩ (by dsimp only; omega)
    · have e := of_decide_eq_false e
      have hkr : k = N.toNat := by omega
      rw [← hkr] at hK
      exact hK F2 w2 hT2
  · have e : ¬ 0 ≤ S.char := of_decide_eq_false e
    rw [if_neg e] at hK
    exact hK F _ hd
/-! ### display, inLine -/
theorem forget_spec (h : ScM w base g F S) {K : World → Prop} (hK : ∀ F' w', ScT base g w F F' S.forget w' → K w') : c_grid_Grid_Forget (some ⟨(F.f S.alt).g, 0, none⟩) w K := by
  refine gForget_spec h.gM fun w' hg hc => ?_
  exact hK _ w' (ScT.mk_grid h hg ⟨rfl, rfl, .inl rfl, .inr fun k hk => by cases hk⟩ hc (h.ok.withG (h.gOk.forget) rfl rfl))
theorem display_spec (h : ScM w base g F S) {how : Int} {K : World → Prop} (ha : S.areas.length ≤ 900000000) (hK : ∀ F' w', ScT base g w F F' (S.display how) w' → K w') : c_screen_Screen_display (some ⟨g, 0, none⟩) how w K := by
  refine call_screen_Screen_display _ _ ?_
  unfold sh_screen_Screen_display
  refine ssize_spec h ?_
  have hd := (ScT.refl h).drew.drew.drew
  simp only [onPtr_some]
  refine hd.m.ldRow (hd.m.ldCol ?_)
  have hb := h.ok.bnd
  have hrw := h.ok.rowg
  unfold Sc.display at hK
  dsimp only at hK
  refine joinP_of fun J1 hJ1 => ?_
  refine cond_of (fun e => ?_) fun e => ?_
  · have e : how = 0 := eq_of_beq e
    rw [if_pos e] at hK
    refine erase_spec hd.m (by omega) (by decide) fun F1 w1 hT1 => ?_
    have e1 : w64 ((S.g.rows : Int) - S.c.Row) = (S.g.rows : Int) - S.c.Row := w64_of (by omega)
    have e2 : w64 (w64 ((S.g.rows : Int) - S.c.Row) - 1) = (S.g.rows : Int) - S.c.Row - 1 := by rw [e1]; exact w64_of (by omega)
    refine erase_spec hT1.m (by have := erase_areas S S.c.Row 1 S.c.Col S.g.cols; omega) (by show w64 (w64 _ - 1) ≤ _; rw [e2]; omega) fun F2 w2 hT2 => ?_
    refine hJ1 _ _ (hT2.m.stDry fun w3 hT3 => hK _ w3 (((hd.trans hT1).trans hT2).trans hT3))
  have e : ¬ how = 0 := beq_eq_false_iff_ne.1 e
  rw [if_neg e] at hK
  refine cond_of (fun e => ?_) fun e => ?_
  · have e : how = 1 := eq_of_beq e
    rw [if_pos e] at hK
    refine erase_spec hd.m (by omega) (by omega) fun F1 w1 hT1 => ?_
    refine erase_spec hT1.m (by have := erase_areas S 0 S.c.Row 0 S.g.cols; omega) (by decide) fun F2 w2 hT2 => ?_
    refine hJ1 _ _ (hT2.m.stDry fun w3 hT3 => hK _ w3 (((hd.trans hT1).trans hT2).trans hT3))
  have e : ¬ how = 1 := beq_eq_false_iff_ne.1 e
  rw [if_neg e] at hK
  refine cond_of (fun e => ?_) fun e => ?_
  · have e : how = 2 := eq_of_beq e
    rw [if_pos e] at hK
    refine erase_spec hd.m (by omega) (by omega) fun F1 w1 hT1 => ?_
    refine hJ1 _ _ (hT1.m.stDry fun w3 hT3 => hK _ w3 ((hd.trans hT1).trans hT3))
  have e : ¬ how = 2 := beq_eq_false_iff_ne.1 e
  rw [if_neg e] at hK
  refine cond_of (fun e => ?_) fun e => ?_
  · have e : how = 3 := eq_of_beq e
    rw [if_pos e] at hK
    refine sg_spec hd.m ?_
    exact forget_spec hd.drew.m fun F1 w1 hT1 => hK _ w1 (hd.drew.trans hT1)
  · have e : ¬ how = 3 := beq_eq_false_iff_ne.1 e
    rw [if_neg e] at hK
    exact hK F _ hd
theorem inLine_spec (h : ScM w base g F S) {how : Int} {K : World → Prop} (ha : S.areas.length ≤ 900000000) (hK : ∀ F' w', ScT base g w F F' (S.inLine how) w' → K w') : c_screen_Screen_inLine (some ⟨g, 0, none⟩) how w K := by
  refine call_screen_Screen_inLine _ _ ?_
  unfold sh_screen_Screen_inLine
  refine ssize_spec h ?_
  have hd := (ScT.refl h).drew.drew
  simp only [onPtr_some]
  unfold Sc.inLine at hK
  refine joinP_of fun J1 hJ1 => ?_
  have key : ∀ a b : Int, (∀ F' w', ScT base g w F F' (S.erase S.c.Row 1 a b).dry w' → K w') → J1 (a, b, ()) w.drew.drew := by
    intro a b hK
    refine hJ1 _ _ (hd.m.ldRow ?_)
    exact erase_spec hd.m (by omega) (by decide) fun F1 w1 hT1 => hT1.m.stDry fun w3 hT3 => hK _ w3 ((hd.trans hT1).trans hT3)
  refine cond_of (fun e => ?_) fun e => ?_
  · have e : how = 0 := eq_of_beq e
    rw [if_pos e] at hK
    exact hd.m.ldCol (key _ _ hK)
  have e : ¬ how = 0 := beq_eq_false_iff_ne.1 e
  rw [if_neg e] at hK
  refine cond_of (fun e => ?_) fun e => ?_
  · have e : how = 1 := eq_of_beq e
    rw [if_pos e] at hK
    exact hd.m.ldCol (key _ _ hK)
  have e : ¬ how = 1 := beq_eq_false_iff_ne.1 e
  rw [if_neg e] at hK
  refine cond_of (fun e => ?_) fun e => ?_
  · have e : how = 2 := eq_of_beq e
    rw [if_pos e] at hK
    exact key _ _ hK
  · have e : ¬ how = 2 := beq_eq_false_iff_ne.1 e
    rw [if_neg e] at hK
    exact hK F _ hd
/-! ### lines, move -/
theorem ScM.w64n (n : Int) : in64 (w64 n) := by
  have h : w64 n = (n + 9223372036854775808) % 18446744073709551616 - 9223372036854775808 := by
    unfold w64 IntKind.wrap
    simp [IntKind.bits, IntKind.signed]
    try omega
  unfold in64
  omega
theorem lines_spec (h : ScM w base g F S) {c n : Int} (hn : in64 n) {K : World → Prop} (hK : ∀ F' w', ScT base g w F F' (S.lines c n) w' → K w') : c_screen_Screen_lines (some ⟨g, 0, none⟩) c n w K := by
  refine call_screen_Screen_lines _ _ _ ?_
  unfold sh_screen_Screen_lines
  have hd := (ScT.refl h).drew
  have hdd := hd.drew
  simp only [onPtr_some]
  unfold Sc.lines at hK
  refine joinP_of fun J1 hJ1 => ?_
  refine hd.m.ldRow (hd.m.ldTop (cond_of (fun e => ?_) fun e1 => ?_))
  · rw [if_pos (.inl (of_decide_eq_true e))] at hK
    exact hK F _ hd
  refine hd.m.ldRow (hd.m.ldPast (cond_of (fun e => ?_) fun e2 => ?_))
  · rw [if_pos (.inr (of_decide_eq_true e))] at hK
    exact hK F _ hd
  rw [if_neg (fun hh => hh.elim (of_decide_eq_false e1) (of_decide_eq_false e2))] at hK
  dsimp only at hK
  refine hJ1 _ _ (joinP_of fun J2 hJ2 => ?_)
  have key : ∀ m, in64 m → m = (if c = 76 then w64 (0 - n) else n) → J2 (m, ()) w.drew := by
    intro m hm em
    rw [← em] at hK
    refine hJ2 _ _ ?_
    refine hdd.m.ldRow (hdd.m.ldPast ?_)
    refine sg_spec hdd.m ⟨hdd.m.drew.cPast, hdd.m.drew.cRow, ?_⟩
    refine blank_spec hdd.m.drew fun w4 hB4 => ?_
    have h4 := hdd.drew.ext hB4
    refine ⟨h4.m.cPast, h4.m.cRow, ?_⟩
    refine scroll_spec h4.m hm fun v F5 w5 hT5 => ?_
    have h5 := h4.trans hT5
    have hcr : (S.scroll S.c.Row S.past m).c = S.c := withG_c _ _
    refine h5.m.ldRow ?_
    rw [hcr]
    exact to_spec h5.m fun w6 hT6 => hK _ w6 (h5.trans hT6)
  refine cond_of (fun e => ?_) fun e => ?_
  · have e : c = 76 := eq_of_beq e
    exact key _ (ScM.w64n _) (by rw [if_pos e]; rfl)
  · have e : ¬ c = 76 := beq_eq_false_iff_ne.1 e
    exact key _ hn (by rw [if_neg e])
end
end Go.Proofs.YtmoafafalnbkpaaGreatDoor

set_option linter.unusedVariables false
namespace Go.Proofs.YtmoafafalnbkpaaGreatDoor
open Go.Vc Go.RowKit
set_option maxRecDepth 400000
theorem or2 {K : Bool × Unit → World → Prop} {c a b : Int} {w : World} (h1 : c = a ∨ c = b → K (true, ()) w) (h2 : ¬ (c = a ∨ c = b) → K (false, ()) w) : joinP K fun J => cond (c == a) (J ((c == a), ()) w) (J ((c == b), ()) w) := by
  intro J hJ
  refine cond_of (fun e => ?_) fun e => ?_
  · rw [e]; exact hJ _ _ (h1 (.inl (eq_of_beq e)))
  · cases e2 : (c == b)
    · exact hJ _ _ (h2 fun hh => hh.elim (beq_eq_false_iff_ne.1 e) (beq_eq_false_iff_ne.1 e2))
    · exact hJ _ _ (h1 (.inr (eq_of_beq e2)))
theorem or2' {K : Bool × Unit → World → Prop} {c a b : Int} {w : World} (h1 : c = a ∨ c = b → K (true, ()) w) (h2 : ¬ (c = a ∨ c = b) → K (false, ()) w) : joinP K fun J => cond (c == a) (J (true, ()) w) (J ((c == b), ()) w) := by
  intro J hJ
  refine cond_of (fun e => ?_) fun e => ?_
  · exact hJ _ _ (h1 (.inl (eq_of_beq e)))
  · cases e2 : (c == b)
    · exact hJ _ _ (h2 fun hh => hh.elim (beq_eq_false_iff_ne.1 e) (beq_eq_false_iff_ne.1 e2))
    · exact hJ _ _ (h1 (.inr (eq_of_beq e2)))
theorem or3 {K : Bool × Unit → World → Prop} {c a b d : Int} {w : World} (h1 : c = a ∨ c = b ∨ c = d → K (true, ()) w) (h2 : ¬ (c = a ∨ c = b ∨ c = d) → K (false, ()) w) : joinP K fun J => cond (c == a) (J ((c == a), ()) w) (cond (c == b) (J ((c == b), ()) w) (J ((c == d), ()) w)) := by
  intro J hJ
  refine cond_of (fun e => ?_) fun e => ?_
  · rw [e]; exact hJ _ _ (h1 (.inl (eq_of_beq e)))
  · exact or2 (K := K) (fun h => h1 (.inr h)) (fun h => h2 fun hh => hh.elim (beq_eq_false_iff_ne.1 e) h) J hJ
theorem or4 {K : Bool × Unit → World → Prop} {c a b d f : Int} {w : World} (h1 : c = a ∨ c = b ∨ c = d ∨ c = f → K (true, ()) w) (h2 : ¬ (c = a ∨ c = b ∨ c = d ∨ c = f) → K (false, ()) w) : joinP K fun J => cond (c == a) (J ((c == a), ()) w) (cond (c == b) (J ((c == b), ()) w) (cond (c == d) (J ((c == d), ()) w) (J ((c == f), ()) w))) := by
  intro J hJ
  refine cond_of (fun e => ?_) fun e => ?_
  · rw [e]; exact hJ _ _ (h1 (.inl (eq_of_beq e)))
  · exact or3 (K := K) (fun h => h1 (.inr h)) (fun h => h2 fun hh => hh.elim (beq_eq_false_iff_ne.1 e) h) J hJ
theorem or5 {K : Bool × Unit → World → Prop} {c a b d f k : Int} {w : World} (h1 : c = a ∨ c = b ∨ c = d ∨ c = f ∨ c = k → K (true, ()) w) (h2 : ¬ (c = a ∨ c = b ∨ c = d ∨ c = f ∨ c = k) → K (false, ()) w) : joinP K fun J => cond (c == a) (J ((c == a), ()) w) (cond (c == b) (J ((c == b), ()) w) (cond (c == d) (J ((c == d), ()) w) (cond (c == f) (J ((c == f), ()) w) (J ((c == k), ()) w)))) := by
  intro J hJ
  refine cond_of (fun e => ?_) fun e => ?_
  · rw [e]; exact hJ _ _ (h1 (.inl (eq_of_beq e)))
  · exact or4 (K := K) (fun h => h1 (.inr h)) (fun h => h2 fun hh => hh.elim (beq_eq_false_iff_ne.1 e) h) J hJ
section
variable {w w' : World} {base g : Nat} {F F' : ScF} {S S' : Sc} {p : Slc} {ps : List Int}
/-- One map of the screen's changed. -/
theorem ScM.one (h : ScM w base g F S) {k0 : Nat} (hk : ∀ t cs, ¬ Blk w k0 t cs) (hin : scS g F k0) (hc : Chg (fun k => k = k0) w w') (ex : scX F S' = scX F S) (e0 : S'.g0 = S.g0) (e1 : S'.g1 = S.g1) (ea : S'.areas = S.areas)
    (hst : StopsM w' F.tg F.tr S'.stops) (hmo : MapM encO w' F.mm S'.modes) (hpr : MapM encO w' F.mp S'.priv) (ok : ScOk S') : ScT base g w F F S' w' := by
  have hC : ∀ k cs, k = k0 → ¬ Blk w k ty_api_Cell cs := fun k cs e => by subst e; exact hk _ _
  have nb : ∀ {k t cs}, Blk w k t cs → ¬ k = k0 := fun hb e => by subst e; exact hk _ _ hb
  refine ⟨⟨?_, h.hg, ?_, ?_, hst, h.hst, hmo, hpr, h.hm, h.dm, ?_, h.dg, ok⟩, fun k hk => .inl hk, hc.mono fun i hi e => by subst e; exact hin⟩
  · rw [ex]; exact h.blk.chg hc (nb h.blk)
  · rw [e0]
    refine h.g0.chg hc (fun k hk => ?_) hC
    obtain ⟨t, cs, hb, _⟩ := h.g0.ty k hk
    exact nb hb
  · rw [e1]
    refine h.g1.chg hc (fun k hk => ?_) hC
    obtain ⟨t, cs, hb, _⟩ := h.g1.ty k hk
    exact nb hb
  · rw [ea]
    refine h.ar.chg hc fun k hk => ?_
    obtain ⟨cs, hcs⟩ := h.ar.blk_t hk
    exact nb hcs
theorem map_blk {V : Type} {enc : V → Value} {r : Nat} {L : List (Int × V)} (h : MapM enc w r L) : ∀ t cs, ¬ Blk w r t cs := fun t cs hb => h.ne_blk hb rfl
theorem ScM.setPr (h : ScM w base g F S) {n : Int} (hn : in64 n) {b : Bool} {K : Option Value → World → Prop} (hK : ∀ w', ScT base g w F F { S with priv := putL' S.priv n b } w' → K none w') : runU PG (Instr.mapUpdate ty_map_int_bool (.map (some F.mp)) (.int .i64 n) (.bool b)) w K := by
  refine updO_spec h.pr hn fun w' hm hc hs => hK w' ?_
  exact h.one (map_blk h.pr) (.inr (.inr (.inr (.inr (.inr (.inr (.inl rfl))))))) hc rfl rfl rfl rfl (h.st.keep hc (fun e => map_blk h.pr _ _ (e ▸ h.st.blk)) h.dm.2.2) (h.mo.chg hc h.dm.1) hm
    ⟨h.ok.g0, h.ok.g1, h.ok.rows, h.ok.cols, h.ok.row, h.ok.col, h.ok.shift, h.ok.sh0, h.ok.sh1, h.ok.top, h.ok.marg, h.ok.stops⟩
theorem ScM.setMo (h : ScM w base g F S) {n : Int} (hn : in64 n) {b : Bool} {K : Option Value → World → Prop} (hK : ∀ w', ScT base g w F F { S with modes := putL' S.modes n b } w' → K none w') : runU PG (Instr.mapUpdate ty_map_int_bool (.map (some F.mm)) (.int .i64 n) (.bool b)) w K := by
  refine updO_spec h.mo hn fun w' hm hc hs => hK w' ?_
  exact h.one (map_blk h.mo) (.inr (.inr (.inr (.inr (.inr (.inl rfl)))))) hc rfl rfl rfl rfl (h.st.keep hc (fun e => map_blk h.mo _ _ (e ▸ h.st.blk)) h.dm.2.1) hm (h.pr.chg hc (fun e => h.dm.1 e.symm))
    ⟨h.ok.g0, h.ok.g1, h.ok.rows, h.ok.cols, h.ok.row, h.ok.col, h.ok.shift, h.ok.sh0, h.ok.sh1, h.ok.top, h.ok.marg, h.ok.stops⟩
theorem ScM.setSt (h : ScM w base g F S) {B : List Bool} (hl : B.length = S.stops.length) (hst : StopsM w' F.tg F.tr B) (hc : Chg (fun k => k = F.tr) w w') : ScT base g w F F { S with stops := B } w' :=
  h.one (map_blk h.st.map) (.inr (.inr (.inr (.inr (.inl rfl))))) hc rfl rfl rfl rfl hst (h.mo.chg hc (fun e => h.dm.2.1 e.symm)) (h.pr.chg hc (fun e => h.dm.2.2 e.symm))
    ⟨h.ok.g0, h.ok.g1, h.ok.rows, h.ok.cols, h.ok.row, h.ok.col, h.ok.shift, h.ok.sh0, h.ok.sh1, h.ok.top, h.ok.marg, hl.trans h.ok.stops⟩
theorem ScOk.slen (h : ScOk S) : 1 ≤ S.stops.length ∧ S.stops.length ≤ 1000 := by
  have := h.bnd
  have := h.grows.2
  have := h.stops
  omega
/-! ### cells -/
theorem plain_cells1 : C.plain fn_screen_Screen_cells_1 = true := by kernel_rfl
theorem plain_ins : C.plain fn_line_Line_Insert = true := by kernel_rfl
theorem plain_del : C.plain fn_line_Line_Delete = true := by kernel_rfl
theorem ldR_of {a : Addr} {w : World} {K : Value → Prop} {x : Value} (h : w.cell? a = some x) (hK : K x) : ldR a w K := ⟨x, h, hK⟩
def cellF (S : Sc) (c n : Int) (xs : List Cell) : List Cell := if c = 80 then delL xs S.c.Col n S.blank else insL xs S.c.Col n S.blank
theorem cells1_spec {bc bs bn : Nat} {l : Slc} {xs : List Cell} {c n : Int} {K : Slc → World → Prop} (h : ScM w base g F S) (hs : Blk w bs ty_p_screen_Screen [.pointer (some ⟨g, 0, none⟩)]) (hn : Blk w bn ty_int [.int .i64 n])
    (hc : Blk w bc ty_func_line_Line_int_int_api_Attr_line_Line [.func (.func (if c = 80 then fn_line_Line_Delete else fn_line_Line_Insert)) #[] #[]]) (hl : Rd cellE w l xs) (hlen : xs.length ≤ 10000)
    (hK : ∀ s w', Go.Vc.Own cellE w' w.heap.size s (cellF S c n xs) → Below w.heap.size w w' → K s w') :
    callR C (.func (.func fn_screen_Screen_cells_1) #[] #[.pointer (some ⟨bc, 0, none⟩), .pointer (some ⟨bs, 0, none⟩), .pointer (some ⟨bn, 0, none⟩)]) [.slice l.a l.n l.c] [Kind.slice] w K := by
  have hh : c_screen_Screen_cells_1 l ⟨bc, 0, none⟩ ⟨bs, 0, none⟩ ⟨bn, 0, none⟩ w K := by
    refine call_screen_Screen_cells_1 _ _ _ _ ?_
    unfold sh_screen_Screen_cells_1
    have hd := (ScT.refl h).drew
    have hs1 := hs.drew
    have hn1 := hn.drew
    have hc1 := hc.drew
    refine ldR_of (by simpa using hc1.cells 0 _ rfl) ?_
    refine ldP_of (x := some ⟨g, 0, none⟩) (by simpa using hs1.cells 0 _ rfl) ?_
    simp only [onPtr_some]
    refine hd.m.ldCol (ldI_of (x := n) (by simpa using hn1.cells 0 _ rfl) (ldP_of (x := some ⟨g, 0, none⟩) (by simpa using hs1.cells 0 _ rfl) ?_))
    refine blank_spec hd.m fun w1 hB1 => ?_
    have h1 := hd.ext hB1
    refine ⟨by simpa using (hn1.ext hB1).cells 0 _ rfl, h1.m.cCol, by simpa using (hs1.ext hB1).cells 0 _ rfl, by simpa using (hc1.ext hB1).cells 0 _ rfl, ?_⟩
    have hBw : Below w.heap.size w w1 := below_t (below_drew w) hB1
    unfold cellF at hK
    by_cases e : c = 80
    · rw [if_pos e]
      simp only [if_pos e] at hK
      have hi : c_line_Line_Delete l S.c.Col n S.blank w1 K := Delete_spec (hl.ext hBw) hlen fun s w2 ho hB2 => hK s w2 (ho.base hBw.size) (below_t hBw hB2)
      refine callR_plain plain_del (Calls.mono hi ?_)
      rintro ex w' ⟨t, rfl, hk⟩
      exact ⟨t, rfl, hk⟩
    · rw [if_neg e]
      simp only [if_neg e] at hK
      have hi : c_line_Line_Insert l S.c.Col n S.blank w1 K := Insert_spec (hl.ext hBw) hlen fun s w2 ho hB2 => hK s w2 (ho.base hBw.size) (below_t hBw hB2)
      refine callR_plain plain_ins (Calls.mono hi ?_)
      rintro ex w' ⟨t, rfl, hk⟩
      exact ⟨t, rfl, hk⟩
  refine callR_plain plain_cells1 (Calls.mono hh ?_)
  rintro e w' ⟨t, rfl, hk⟩
  exact ⟨t, rfl, hk⟩
theorem cells_spec (h : ScM w base g F S) {c n : Int} {K : World → Prop} (ha : S.areas.length ≤ 900000000) (hK : ∀ F' w', ScT base g w F F' (S.cells c n) w' → K w') : c_screen_Screen_cells (some ⟨g, 0, none⟩) c n w K := by
  refine call_screen_Screen_cells _ _ _ ?_
  unfold sh_screen_Screen_cells
  refine nw_blk fun w1 hb1 hB1 hs1 => nw_blk fun w2 hb2 hB2 hs2 => ?_
  have hT2 := ScT.of_ext h (below_t hB1 hB2)
  have hs := hb1.ext hB2
  refine ldP_of (x := some ⟨g, 0, none⟩) (by simpa using hs.cells 0 _ rfl) ?_
  simp only [onPtr_some]
  refine hT2.m.stDry fun w3 hT3 => ?_
  have h3 := hT2.trans hT3
  have hlt : ∀ k, scS g F k → k < w.heap.size := fun k hk => (h.below k hk).2
  have hs3 := hs.chg hT3.chg fun e => by have := hlt _ e; omega
  have hn3 := hb2.chg hT3.chg fun e => by have := hlt _ e; omega
  unfold Sc.cells at hK
  dsimp only at hK
  refine cond_of (fun e => ?_) fun e => ?_
  · have e : c = 88 := eq_of_beq e
    rw [if_pos e] at hK
    refine ldP_of (x := some ⟨g, 0, none⟩) (by simpa using hs3.cells 0 _ rfl) ?_
    refine ssize_spec h3.m ?_
    have hd := h3.drew.drew.drew
    have hs4 := hs3.drew.drew.drew
    have hn4 := hn3.drew.drew.drew
    refine ldP_of (x := some ⟨g, 0, none⟩) (by simpa using hs4.cells 0 _ rfl) (ldP_of (x := some ⟨g, 0, none⟩) (by simpa using hs4.cells 0 _ rfl) ?_)
    simp only [onPtr_some]
    refine hd.m.ldRow (ldP_of (x := some ⟨g, 0, none⟩) (by simpa using hs4.cells 0 _ rfl) ?_)
    simp only [onPtr_some]
    refine hd.m.ldCol (ldP_of (x := some ⟨g, 0, none⟩) (by simpa using hs4.cells 0 _ rfl) ?_)
    simp only [onPtr_some]
    refine hd.m.ldCol (ldI_of (x := n) (by simpa using hn4.cells 0 _ rfl) ?_)
    have har : S.dry.areas.length ≤ 1000000000 := by show S.areas.length ≤ _; omega
    exact erase_spec hd.m har (by decide) fun F5 w5 hT5 => hK _ w5 (hd.trans hT5)
  · have e : ¬ c = 88 := beq_eq_false_iff_ne.1 e
    rw [if_neg e] at hK
    refine nw_blk fun w6 hb6 hB6 hs6 => ?_
    have h6 := h3.ext hB6
    have hs6' := hs3.ext hB6
    have hn6 := hn3.ext hB6
    have hz3 := h3.chg.size
    have hz2 := hT3.chg.size
    refine all_of hb6 rfl fun w7 hb7 hc7 hs7 => ?_
    have hB7 : Below w3.heap.size w3 w7 := below_one hB6 hc7 (Nat.le_refl _)
    have h7 := h3.ext hB7
    have hs7' := hs3.ext hB7
    have hn7 := hn3.ext hB7
    refine joinP_of fun J1 hJ1 => ?_
    have key : ∀ w8, Below w3.heap.size w3 w8 → Blk w8 w3.heap.size ty_func_line_Line_int_int_api_Attr_line_Line [.func (.func (if c = 80 then fn_line_Line_Delete else fn_line_Line_Insert)) #[] #[]] → J1 () w8 := by
      intro w8 hB8 hb8
      refine hJ1 _ _ ?_
      have hd := (h3.ext hB8).drew
      have hs8 := (hs3.ext hB8).drew
      have hn8 := (hn3.ext hB8).drew
      have hc8 := hb8.drew
      refine ldP_of (x := some ⟨g, 0, none⟩) (by simpa using hs8.cells 0 _ rfl) (ldP_of (x := some ⟨g, 0, none⟩) (by simpa using hs8.cells 0 _ rfl) ?_)
      simp only [onPtr_some]
      refine hd.m.ldRow (sg_spec hd.m ?_)
      have hdd := hd.drew
      have hs9 := hs8.drew
      have hn9 := hn8.drew
      have hc9 := hc8.drew
      refine ⟨hdd.m.cRow, by simpa using hs9.cells 0 _ rfl, ?_⟩
      have hr : 0 ≤ S.dry.c.Row ∧ S.dry.c.Row < (S.dry.g.rows : Int) := h.ok.rowg
      have ech : S.dry.change (fun xs => if c = 80 then delL xs S.c.Col n S.blank else insL xs S.c.Col n S.blank) = S.dry.withG { S.dry.g with L := S.dry.g.L.set S.dry.c.Row.toNat (resL (cellF S.dry c n (S.dry.g.L.getD S.dry.c.Row.toNat [])) S.dry.g.cols) } := by
        unfold Sc.change
        rw [if_pos hr]
        rfl
      rw [ech] at hK
      refine change_spec (f := cellF S.dry c n) hdd.m hr (fun xs => ?_) (fun xs hx => ?_) (fun l xs K' hl hlen hk => ?_) fun F10 w10 hT10 => hK _ w10 (hdd.trans hT10)
      · unfold cellF
        split
        · exact delL_length _ _ _ _
        · exact insL_length _ _ _ _
      · unfold cellF
        split
        · exact okR_del hx _ _ _
        · exact okR_ins hx _ _ _
      · exact cells1_spec hdd.drew.m hs9.drew hn9.drew hc9.drew hl hlen hk
    refine cond_of (fun e => ?_) fun e => ?_
    · have e : c = 80 := eq_of_beq e
      refine all_of hb7 rfl fun w8 hb8 hc8 hs8 => key w8 (below_one hB7 hc8 (Nat.le_refl _)) (by rw [if_pos e]; exact hb8)
    · have e : ¬ c = 80 := beq_eq_false_iff_ne.1 e
      exact key w7 hB7 (by rw [if_neg e]; exact hb7)
/-! ### move -/
theorem move_spec (h : ScM w base g F S) (hp : ParM w g F p ps) {c n : Int} (hn : in64 n) {K : World → Prop} (hK : ∀ w', ScT base g w F F (S.move ps c n) w' → K w') : c_screen_Screen_move (some ⟨g, 0, none⟩) p c n w K := by
  refine call_screen_Screen_move _ _ _ _ ?_
  unfold sh_screen_Screen_move
  simp only [onPtr_some]
  unfold Sc.move at hK
  dsimp only at hK
  refine joinP_of fun J1 hJ1 => ?_
  have key : ∀ (S1 : Sc) w1, ScT base g w F F S1 w1 → (∀ w', ScT base g w F F (if c = 69 ∨ c = 70 then S1.to S1.c.Row 0 else S1) w' → K w') → J1 () w1 := by
    intro S1 w1 hT1 hK
    refine hJ1 _ _ ?_
    refine or2' (fun e => cond_t rfl ?_) fun e => cond_f rfl ?_
    · rw [if_pos e] at hK
      exact hT1.m.ldRow (to_spec hT1.m fun w3 hT3 => hK _ (hT1.trans hT3))
    · rw [if_neg e] at hK
      exact hK _ hT1
  have hd := (ScT.refl h).drew
  refine or2 (fun e => cond_t rfl ?_) fun e => cond_f rfl ?_
  · rw [if_pos e] at hK
    exact up_spec h fun w1 hT1 => key _ _ hT1 hK
  rw [if_neg e] at hK
  refine or3 (fun e => cond_t rfl ?_) fun e => cond_f rfl ?_
  · rw [if_pos e] at hK
    exact down_spec h fun w1 hT1 => key _ _ hT1 hK
  rw [if_neg e] at hK
  refine or2 (fun e => cond_t rfl ?_) fun e => cond_f rfl ?_
  · rw [if_pos e] at hK
    exact hd.m.ldRow (hd.m.ldCol (to_spec hd.m fun w1 hT1 => key _ _ (hd.trans hT1) hK))
  rw [if_neg e] at hK
  refine cond_of (fun e => ?_) fun e => ?_
  · rw [if_pos (eq_of_beq e)] at hK
    exact hd.m.ldRow (hd.m.ldCol (to_spec hd.m fun w1 hT1 => key _ _ (hd.trans hT1) hK))
  rw [if_neg (beq_eq_false_iff_ne.1 e)] at hK
  refine or2 (fun e => cond_t rfl ?_) fun e => cond_f rfl ?_
  · rw [if_pos e] at hK
    exact h.ldRow (to_spec h fun w1 hT1 => key _ _ hT1 hK)
  rw [if_neg e] at hK
  refine cond_of (fun e => ?_) fun e => ?_
  · rw [if_pos (eq_of_beq e)] at hK
    refine hd.m.ldCol (asked_spec hd.m fun w1 hB1 => ?_)
    have h1 := hd.ext hB1
    exact ⟨h1.m.cCol, to_spec h1.m fun w2 hT2 => key _ _ (h1.trans hT2) hK⟩
  rw [if_neg (beq_eq_false_iff_ne.1 e)] at hK
  refine or2 (fun e => cond_t rfl ?_) fun e => cond_f rfl ?_
  · rw [if_pos e] at hK
    refine asked_spec h fun w1 hB1 => ?_
    have h1 := ScT.of_ext h hB1
    exact param_spec (i := 1) (hp.ext hB1) (to_spec h1.m fun w2 hT2 => key _ _ (h1.trans hT2) hK)
  rw [if_neg e] at hK
  have hsl := h.ok.slen
  refine cond_of (fun e => ?_) fun e => ?_
  · rw [if_pos (eq_of_beq e)] at hK
    refine hd.m.ldRow (hd.m.ldStops (hd.m.ldCol ?_))
    refine tNext_spec hd.m.st hsl _ _ hn.2 fun w1 hB1 => ?_
    have h1 := hd.ext hB1
    exact ⟨h1.m.cRow, to_spec h1.m fun w2 hT2 => key _ _ (h1.trans hT2) hK⟩
  rw [if_neg (beq_eq_false_iff_ne.1 e)] at hK
  refine cond_of (fun e => ?_) fun e => ?_
  · rw [if_pos (eq_of_beq e)] at hK
    refine hd.m.ldRow (hd.m.ldStops (hd.m.ldCol ?_))
    refine tBack_spec hd.m.st hsl _ _ hn.2 fun w1 hB1 => ?_
    have h1 := hd.ext hB1
    exact ⟨h1.m.cRow, to_spec h1.m fun w2 hT2 => key _ _ (h1.trans hT2) hK⟩
  · rw [if_neg (beq_eq_false_iff_ne.1 e)] at hK
    exact key _ _ (ScT.refl h) hK
end
end Go.Proofs.YtmoafafalnbkpaaGreatDoor

set_option linter.unusedVariables false
namespace Go.Proofs.YtmoafafalnbkpaaGreatDoor
open Go.Vc Go.RowKit
set_option maxRecDepth 400000
section
variable {w w' : World} {base g : Nat} {F F' : ScF} {S S' : Sc} {p : Slc} {ps : List Int}
theorem ScOk.alt (h : ScOk S) (b : Bool) : ScOk { S with alt := b } := ⟨h.g0, h.g1, h.rows, h.cols, h.row, h.col, h.shift, h.sh0, h.sh1, h.top, h.marg, h.stops⟩
theorem save_areas (S : Sc) : S.save.areas = S.areas := by unfold Sc.save Sc.withS; split <;> rfl
theorem show_spec (h : ScM w base g F S) {b all : Bool} {K : World → Prop} (ha : S.areas.length ≤ 900000000) (hK : ∀ F' w', ScT base g w F F' (S.show_ b all) w' → K w') : c_screen_Screen_show (some ⟨g, 0, none⟩) (if b then 1 else 0) all w K := by
  refine call_screen_Screen_show _ _ _ ?_
  unfold sh_screen_Screen_show
  simp only [onPtr_some]
  refine ldI_of (x := if S.alt then 1 else 0) (by rw [add_mk]; exact h.blk.cell 2 rfl) ?_
  unfold Sc.show_ at hK
  refine cond_of (fun e => ?_) fun e => ?_
  · have e : S.alt = b := by
      revert e
      cases S.alt <;> cases b <;> decide
    rw [if_pos e] at hK
    exact hK F w (ScT.refl h)
  have e : ¬ S.alt = b := by
    revert e
    cases S.alt <;> cases b <;> decide
  rw [if_neg e] at hK
  dsimp only at hK
  refine joinP_of fun J1 hJ1 => ?_
  have key : ∀ (S1 : Sc) w1, S1.areas = S.areas → S1 = (if all = true ∧ b = true then S.save else S) → ScT base g w F F S1 w1 → J1 () w1 := by
    intro S1 w1 har hS1 hT1
    rw [← hS1] at hK
    refine hJ1 _ _ ?_
    rw [add_mk]
    refine stK_blk hT1.m.blk (by simp [T_screen_Screen.rep]) fun w2 hb2 hg2 hs2 => ?_
    have hT2 : ScT base g w1 F F { S1 with alt := b } w2 := ScT.mk_struct hT1.m (Chg.gg hg2) (S' := { S1 with alt := b }) hb2 rfl rfl rfl rfl rfl rfl (hT1.m.ok.alt b)
    have h2 := hT1.trans hT2
    have har2 : ({ S1 with alt := b } : Sc).areas.length ≤ 900000000 := by show S1.areas.length ≤ _; rw [har]; exact ha
    refine joinP_of fun J2 hJ2 => ?_
    cases all
    · refine cond_f rfl (hJ2 _ _ (cond_f rfl (cond_f rfl ?_)))
      rw [if_neg (by simp), if_neg (by simp)] at hK
      exact hK _ _ h2
    · refine cond_t rfl ?_
      cases b
      · refine hJ2 _ _ (cond_f rfl (cond_t rfl ?_))
        rw [if_neg (by simp), if_pos rfl] at hK
        exact restore_spec h2.m fun w3 hT3 => hK _ _ (h2.trans hT3)
      · refine hJ2 _ _ (cond_t rfl ?_)
        rw [if_pos ⟨rfl, rfl⟩] at hK
        refine ssize_spec h2.m ?_
        have h3 := h2.drew.drew
        refine h3.m.stDry fun w4 hT4 => ?_
        have h4 := h3.trans hT4
        have hbnd := h2.m.ok.bnd
        refine erase_spec h4.m (by show ({ S1 with alt := true } : Sc).areas.length ≤ _; omega) (by omega) fun F5 w5 hT5 => hK _ _ (h4.trans hT5)
  cases all
  · exact cond_f rfl (key S w rfl (by rw [if_neg (by simp)]) (ScT.refl h))
  · refine cond_t rfl ?_
    cases b
    · exact cond_f rfl (key S w rfl (by rw [if_neg (by simp)]) (ScT.refl h))
    · exact cond_t rfl (save_spec h fun w1 hT1 => key _ _ (save_areas S) (by rw [if_pos ⟨rfl, rfl⟩]) hT1)
theorem ScOk.origin (h : ScOk S) (b : Bool) : ScOk { S with c := { S.c with Origin := b } } := h.cur h.rowg h.colg h.shift
theorem turn_spec (h : ScM w base g F S) {n : Int} (hn : in64 n) {b : Bool} {K : World → Prop} (ha : S.areas.length ≤ 900000000) (hK : ∀ F' w', ScT base g w F F' (S.turn n b) w' → K w') : c_screen_Screen_turn (some ⟨g, 0, none⟩) n b w K := by
  refine call_screen_Screen_turn _ _ _ ?_
  unfold sh_screen_Screen_turn
  simp only [onPtr_some]
  unfold Sc.turn at hK
  refine joinP_of fun J1 hJ1 => ?_
  have key : J1 (if b then 1 else 0, ()) w := by
    refine hJ1 _ _ ?_
    refine cond_of (fun e => ?_) fun e => ?_
    · rw [if_pos (eq_of_beq e)] at hK
      rw [add_mk, add_mk]
      refine stK_blk h.blk (by simp [T_screen_Screen.rep]) fun w2 hb2 hg2 hs2 => ?_
      have hT2 : ScT base g w F F { S with c := { S.c with Origin := b } } w2 := ScT.mk_struct h (Chg.gg hg2) (S' := { S with c := { S.c with Origin := b } }) hb2 rfl rfl rfl rfl rfl rfl (h.ok.origin b)
      exact home_spec hT2.m fun w3 hT3 => hK _ _ (hT2.trans hT3)
    rw [if_neg (beq_eq_false_iff_ne.1 e)] at hK
    refine or5 (fun e => cond_t rfl ?_) fun e => cond_f rfl ?_
    · rw [if_pos e] at hK
      refine ldM_of (x := some F.mp) (by rw [add_mk]; exact h.blk.cell 36 rfl) ?_
      exact h.setPr hn fun w2 hT2 => hK _ _ hT2
    rw [if_neg e] at hK
    refine or2 (fun e => cond_t rfl ?_) fun e => cond_f rfl ?_
    · rw [if_pos e] at hK
      exact show_spec h ha hK
    rw [if_neg e] at hK
    refine cond_of (fun e => ?_) fun e => ?_
    · rw [if_pos (eq_of_beq e)] at hK
      exact show_spec h ha hK
    · rw [if_neg (beq_eq_false_iff_ne.1 e)] at hK
      exact hK _ _ (ScT.refl h)
  cases b
  · exact cond_f rfl key
  · exact cond_t rfl key
theorem show_areas (S : Sc) (b all : Bool) : (S.show_ b all).areas.length ≤ S.areas.length + 1 := by
  unfold Sc.show_
  split
  · omega
  · dsimp only
    split
    · refine Nat.le_trans (erase_areas _ _ _ _ _) ?_
      show S.save.areas.length + 1 ≤ _
      rw [save_areas]
      omega
    · split
      · show S.areas.length ≤ _
        omega
      · show S.areas.length ≤ _
        omega
theorem turn_areas (S : Sc) (n : Int) (b : Bool) : (S.turn n b).areas.length ≤ S.areas.length + 1 := by
  unfold Sc.turn
  split
  · show S.areas.length ≤ _; omega
  · split
    · show S.areas.length ≤ _; omega
    · split
      · exact show_areas _ _ _
      · split
        · exact show_areas _ _ _
        · omega
theorem turns_areas (b : Bool) : ∀ (l : List Int) (S : Sc), (S.turns b l).areas.length ≤ S.areas.length + l.length
  | [], S => by show S.areas.length ≤ _; omega
  | n :: l, S => by
    have h1 := turns_areas b l (S.turn n b)
    have h2 := turn_areas S n b
    have h3 : S.turns b (n :: l) = (S.turn n b).turns b l := rfl
    rw [h3, List.length_cons]
    omega
theorem turns_snoc (S : Sc) (b : Bool) (l : List Int) (n : Int) : S.turns b (l ++ [n]) = (S.turns b l).turn n b := by
  unfold Sc.turns
  rw [List.foldl_append]
  rfl
/-! ### soft -/
theorem ScOk.softOf (h : ScOk S) : ScOk S.soft := by
  have hb := h.bnd
  obtain ⟨e1, e2⟩ := h.grows
  exact ⟨h.g0, h.g1, h.rows, h.cols, h.row, h.col, .inl rfl, .inl rfl, .inl rfl, ⟨Int.le_refl 0, by show (0 : Int) < (S.g.rows : Int); omega, by show (S.g.rows : Int) ≤ S.g0.rows; omega⟩, fun hh => by
    show (0 : Int) + 2 ≤ (S.g.rows : Int)
    have hh : 2 ≤ S.g0.rows := hh
    omega, h.stops⟩
theorem soft_spec (h : ScM w base g F S) {K : World → Prop} (hK : ∀ F' w', ScT base g w F F' S.soft w' → K w') : c_screen_Screen_soft (some ⟨g, 0, none⟩) w K := by
  refine call_screen_Screen_soft _ ?_
  unfold sh_screen_Screen_soft
  refine ssize_spec h ?_
  refine plain_spec (ScT.refl h).drew.drew.m fun F1 w1 hT1 => ?_
  have h1 := (ScT.refl h).drew.drew.trans hT1
  simp only [onPtr_some]
  rw [add_mk]
  refine stK_blk h1.m.blk (by simp [T_screen_Screen.rep]) fun w2 hb2 hg2 hs2 => ?_
  rw [add_mk]
  refine stK_blk hb2 (by simp [T_screen_Screen.rep, putL]) fun w3 hb3' hg3 hs3 => ?_
  obtain ⟨X, hX⟩ : ∃ X : T_screen_Screen, X = { scX F1 S.plain with top := 0, past := S.g.rows } := ⟨_, rfl⟩
  have hb3 : Blk w3 g ty_screen_Screen (T_screen_Screen.rep.cells X) := by rw [hX]; exact hb3'
  rw [add_mk]
  refine stK_blk hb3 (by simp [T_screen_Screen.rep]) fun w4 hb4' hg4 hs4 => ?_
  rw [cells_saved] at hb4'
  have c4 : Chg (fun k => k = g) w1 w4 := chg_seq (chg_seq (Chg.gg hg2) (Chg.gg hg3)) (Chg.gg hg4)
  refine first_spec fun w5 hB5 => nw_blk fun w6 hx6 hB6 hs6 => all_of hx6 rfl fun w7 hx7 hc7 hs7 => ?_
  have hB57 : Below w4.heap.size w4 w7 := below_one (below_t hB5 hB6) hc7 hB5.size
  have hb7 := (hb4'.ext hB57).drew
  have hx8 := hx7.drew
  refine ldS_of (r := T_2_uint8.rep) (x := ⟨66, 66⟩) (by rw [add_mk]; exact sub_cells hx8 7 rfl) (ldI_of (x := 0) (by rw [add_mk]; exact hx8.cell 9 rfl) ?_)
  have hgw : g < w4.heap.size := hb4'.lt
  have s5 := hB5.size
  have hne : w5.heap.size ≠ g := by omega
  simp only [add_mk]
  refine stK_blk hb7 (by simp [T_screen_Screen.rep]) fun w9 hb9 hg9 hs9 => ?_
  have hx9 := hx8.chg (Chg.gg hg9) hne
  refine ⟨hx9.cell 9 rfl, sub_cells hx9 7 rfl, ?_⟩
  refine stK_blk hb9 (by simp [T_screen_Screen.rep, putL, T_2_uint8.rep]) fun w10 hb10 hg10 hs10 => ?_
  have hx10 := hx9.chg (Chg.gg hg10) hne
  refine ⟨hx10.cell 9 rfl, ?_⟩
  refine stK_blk hb10 (by simp [T_screen_Screen.rep, putL, T_2_uint8.rep]) fun w11 hb11 hg11 hs11 => ?_
  refine stK_blk hb11 (by simp [T_screen_Screen.rep, putL, T_2_uint8.rep]) fun w12 hb12 hg12 hs12 => ?_
  have c12 : Chg (fun k => k = g) w1 w12 := by
    have a1 := chg_seq c4 (Chg.of_ext (S := fun k => k = g) hB57)
    have a2 := chg_seq a1 (Chg.of_ext (S := fun k => k = g) (below_drew w7))
    exact chg_seq (chg_seq (chg_seq (chg_seq a2 (Chg.gg hg9)) (Chg.gg hg10)) (Chg.gg hg11)) (Chg.gg hg12)
  refine hK F1 w12 (h1.trans (ScT.mk_struct h1.m c12 (S' := S.soft) ?_ rfl rfl rfl rfl rfl rfl h.ok.softOf))
  rw [hX] at hb12
  exact hb12
/-! ### control -/
theorem control_spec (h : ScM w base g F S) {c : Int} {K : World → Prop} (hK : ∀ F' w', ScT base g w F F' (S.control c) w' → K w') : c_screen_Screen_control (some ⟨g, 0, none⟩) c w K := by
  refine call_screen_Screen_control _ _ ?_
  unfold sh_screen_Screen_control
  simp only [onPtr_some]
  unfold Sc.control at hK
  have hd := (ScT.refl h).drew
  refine joinP_of fun J1 hJ1 => ?_
  have cr : ∀ (S1 : Sc) F1 w1, ScT base g w F F1 S1 w1 → (∀ F' w', ScT base g w F F' (S1.to S1.c.Row 0) w' → K w') → J1 () w1 := by
    intro S1 F1 w1 hT1 hK
    exact hJ1 _ _ (hT1.m.ldRow (to_spec hT1.m fun w2 hT2 => hK _ _ (hT1.trans hT2)))
  refine cond_of (fun e => ?_) fun e => ?_
  · rw [if_pos (eq_of_beq e)] at hK
    exact hd.m.ldRow (hd.m.ldCol (to_spec hd.m fun w1 hT1 => hK _ _ (hd.trans hT1)))
  rw [if_neg (beq_eq_false_iff_ne.1 e)] at hK
  refine cond_of (fun e => ?_) fun e => ?_
  · rw [if_pos (eq_of_beq e)] at hK
    refine hd.m.ldRow (hd.m.ldStops (hd.m.ldCol ?_))
    refine tNext_spec hd.m.st h.ok.slen _ _ (by decide) fun w1 hB1 => ?_
    have h1 := hd.ext hB1
    exact ⟨h1.m.cRow, to_spec h1.m fun w2 hT2 => hK _ _ (h1.trans hT2)⟩
  rw [if_neg (beq_eq_false_iff_ne.1 e)] at hK
  refine joinP_of fun J2 hJ2 => ?_
  have nl : (c = 10 ∨ c = 11 ∨ c = 12) → c_screen_Screen_index (some ⟨g, 0, none⟩) w fun w9 => ldM ((⟨g, 0, none⟩ : Addr).add 35) w9 fun t53 => runK1 PG (Instr.lookup ty_map_int_bool (.map t53) (.int .i64 20) false) Kind.bool w9 fun (t54 : Bool) w10 => cond (!t54) (K w10) (J1 (()) w10) := by
    intro hc
    rw [if_pos hc] at hK
    refine index_spec h fun F1 w1 hT1 => ?_
    refine ldM_of (x := some F1.mm) (by rw [add_mk]; exact hT1.m.blk.cell 35 rfl) (look_spec hT1.m.mo ?_)
    have hm : (lookL S.index.modes 20).getD false = S.index.mode 20 := rfl
    rw [hm]
    cases e : S.index.mode 20
    · rw [if_neg (by rw [e]; decide)] at hK
      exact cond_t rfl (hK _ _ hT1)
    · rw [if_pos e] at hK
      exact cond_f rfl (cr _ _ _ hT1 hK)
  refine cond_of (fun e => ?_) fun e1 => ?_
  · exact cond_t e (nl (.inl (eq_of_beq e)))
  refine cond_of (fun e => ?_) fun e2 => ?_
  · exact cond_t e (nl (.inr (.inl (eq_of_beq e))))
  refine cond_of (fun e => ?_) fun e3 => ?_
  · exact nl (.inr (.inr (eq_of_beq e)))
  rw [if_neg (fun hh => by rcases hh with hh | hh | hh; exact beq_eq_false_iff_ne.1 e1 hh; exact beq_eq_false_iff_ne.1 e2 hh; exact beq_eq_false_iff_ne.1 e3 hh)] at hK
  refine hJ2 _ _ ?_
  have sh : ∀ v, (v = 0 ∨ v = 1) → c = 15 - v → (∀ F' w', ScT base g w F F' { S with c := { S.c with Shift := 15 - c } } w' → K w') → stK (((⟨g, 0, none⟩ : Addr).add 3).add 9) [(.int .i64 (IntKind.i64.wrap (IntKind.u8.wrap ((15 : Int) - c))))] w K := by
    intro v hv hc hK
    have e1 : IntKind.i64.wrap (IntKind.u8.wrap ((15 : Int) - c)) = v := by
      rw [hc]
      rcases hv with rfl | rfl <;> decide
    rw [e1, add_mk, add_mk]
    refine stK_blk h.blk (by simp [T_screen_Screen.rep]) fun w2 hb2 hg2 hs2 => ?_
    have e2 : 15 - c = v := by omega
    rw [e2] at hK
    exact hK _ _ (ScT.mk_struct h (Chg.gg hg2) (S' := { S with c := { S.c with Shift := v } }) hb2 rfl rfl rfl rfl rfl rfl (h.ok.cur h.ok.rowg h.ok.colg hv))
  refine cond_of (fun e => ?_) fun e => ?_
  · rw [if_pos (eq_of_beq e)] at hK
    exact cr _ _ _ (ScT.refl h) hK
  rw [if_neg (beq_eq_false_iff_ne.1 e)] at hK
  refine cond_of (fun e => ?_) fun e4 => ?_
  · rw [if_pos (.inl (eq_of_beq e))] at hK
    exact cond_t e (sh 1 (.inr rfl) (by have : c = 14 := eq_of_beq e; omega) hK)
  refine cond_of (fun e => ?_) fun e5 => ?_
  · rw [if_pos (.inr (eq_of_beq e))] at hK
    exact sh 0 (.inl rfl) (by have : c = 15 := eq_of_beq e; omega) hK
  · rw [if_neg (fun hh => hh.elim (beq_eq_false_iff_ne.1 e4) (beq_eq_false_iff_ne.1 e5))] at hK
    exact hK _ _ (ScT.refl h)
end
end Go.Proofs.YtmoafafalnbkpaaGreatDoor

set_option linter.unusedVariables false
namespace Go.Proofs.YtmoafafalnbkpaaGreatDoor
open Go.Vc Go.RowKit
set_option maxRecDepth 400000
def Sc.putG (S : Sc) (k : Bool) (G : GS) : Sc := if k then { S with g1 := G } else { S with g0 := G }
def Sc.gk (S : Sc) (k : Bool) : GS := if k then S.g1 else S.g0
section
variable {w w' : World} {base g : Nat} {F F' : ScF} {S S' : Sc} {p : Slc} {ps : List Int}
theorem ScM.gkM (h : ScM w base g F S) (k : Bool) : GridM w base (F.f k) (S.gk k) := by
  cases k
  · exact h.g0
  · exact h.g1
theorem ScOk.gkOk (h : ScOk S) (k : Bool) : GOk (S.gk k) := by
  cases k
  · exact h.g0
  · exact h.g1
theorem ScOk.putG (h : ScOk S) (k : Bool) {G : GS} (hG : GOk G) (hr : G.rows = S.g0.rows) (hc : G.cols = S.g0.cols) : ScOk (S.putG k G) := by
  cases k
  · refine ⟨hG, h.g1, by show S.g1.rows = G.rows; rw [hr, h.rows], by show S.g1.cols = G.cols; rw [hc, h.cols], ?_, ?_, h.shift, h.sh0, h.sh1, ?_, ?_, ?_⟩
    · show 0 ≤ S.c.Row ∧ S.c.Row < (G.rows : Int)
      rw [hr]; exact h.row
    · show 0 ≤ S.c.Col ∧ S.c.Col < (G.cols : Int)
      rw [hc]; exact h.col
    · show 0 ≤ S.top ∧ S.top < S.past ∧ S.past ≤ (G.rows : Int)
      rw [hr]; exact h.top
    · show 2 ≤ G.rows → _
      rw [hr]; exact h.marg
    · show S.stops.length = G.cols
      rw [hc]; exact h.stops
  · exact ⟨h.g0, hG, hr, hc, h.row, h.col, h.shift, h.sh0, h.sh1, h.top, h.marg, h.stops⟩
/-- One of the grids changed. -/
theorem ScM.regrid (h : ScM w base g F S) (k : Bool) {f' : Foot} {G' : GS} (hg : GridM w' base f' G') (hto : (F.f k).to f' w.heap.size) (hc : Chg (gridS (F.f k)) w w') (ok : ScOk (S.putG k G')) : ScM w' base g (F.put k f') (S.putG k G') := by
  have hC : ∀ i cs, gridS (F.f k) i → ¬ Blk w i ty_api_Cell cs := fun i cs hk hcs => h.notC i cs (by cases k; exact .inr (.inl hk); exact .inr (.inr (.inl hk))) hcs
  have hp := h.of_grid k
  have hstep : ∀ i, gridS f' i → gridS (F.f k) i ∨ w.heap.size ≤ i := hto.old
  have hgf := hto.g
  have hblk := h.blk.chg hc fun e => (hp g e).1 rfl
  have hst := h.st.keep hc (fun e => (hp _ e).2.2.1 rfl) (fun e => (hp _ e).2.2.2.1 rfl)
  have hmo := h.mo.chg hc (fun e => (hp _ e).2.2.2.2.1 rfl)
  have hpr := h.pr.chg hc (fun e => (hp _ e).2.2.2.2.2.1 rfl)
  have har := h.ar.chg hc fun i hk e => (hp i e).2.2.2.2.2.2 hk
  cases k
  · refine ⟨?_, h.hg, hg, h.g1.chg hc (fun i hk e => (hp i e).2.1 hk) hC, hst, h.hst, hmo, hpr, h.hm, h.dm, har, fun i hk hk' => ?_, ok⟩
    · have e2 : scX (F.put false f') (S.putG false G') = scX F S := by
        have hgf : f'.g = F.f0.g := hgf
        unfold scX ScF.put Sc.putG
        simp only [Bool.false_eq_true, if_false]
        rw [hgf]
      rw [e2]
      exact hblk
    · rcases hstep i hk with h2 | h2
      · exact h.dg i h2 hk'
      · have := (h.g1.below i hk').2
        omega
  · refine ⟨?_, h.hg, h.g0.chg hc (fun i hk e => (hp i e).2.1 hk) hC, hg, hst, h.hst, hmo, hpr, h.hm, h.dm, har, fun i hk hk' => ?_, ok⟩
    · have e2 : scX (F.put true f') (S.putG true G') = scX F S := by
        have hgf : f'.g = F.f1.g := hgf
        unfold scX ScF.put Sc.putG
        simp only [if_true]
        rw [hgf]
      rw [e2]
      exact hblk
    · rcases hstep i hk' with h2 | h2
      · exact h.dg i hk h2
      · have := (h.g0.below i hk).2
        omega
theorem ScT.mk_regrid (h : ScM w base g F S) (k : Bool) {f' : Foot} {G' : GS} (hg : GridM w' base f' G') (hto : (F.f k).to f' w.heap.size) (hc : Chg (gridS (F.f k)) w w') (ok : ScOk (S.putG k G')) : ScT base g w F (F.put k f') (S.putG k G') w' := by
  refine ⟨h.regrid k hg hto hc ok, fun i hk => ?_, hc.mono fun i hi e => ?_⟩
  · have hstep := hto.old
    revert hk hstep
    unfold ScF.put ScF.f
    cases k
    · rintro (rfl | hk | hk | hk) hstep
      · exact .inl (.inl rfl)
      · rcases hstep i hk with h2 | h2
        · exact .inl (.inr (.inl h2))
        · exact .inr h2
      · exact .inl (.inr (.inr (.inl hk)))
      · exact .inl (.inr (.inr (.inr hk)))
    · rintro (rfl | hk | hk | hk) hstep
      · exact .inl (.inl rfl)
      · exact .inl (.inr (.inl hk))
      · rcases hstep i hk with h2 | h2
        · exact .inl (.inr (.inr (.inl h2)))
        · exact .inr h2
      · exact .inl (.inr (.inr (.inr hk)))
  · revert e
    unfold ScF.f
    cases k
    · exact fun e => .inr (.inl e)
    · exact fun e => .inr (.inr (.inl e))
theorem ScF.put_self (F : ScF) (k : Bool) : F.put k (F.f k) = F := by cases k <;> rfl
/-! ### reset -/
theorem putG_gk (S : Sc) (k : Bool) (G : GS) : (S.putG k G).gk k = G := by cases k <;> rfl
theorem putG_putG (S : Sc) (k : Bool) (G G' : GS) : (S.putG k G).putG k G' = S.putG k G' := by cases k <;> rfl
theorem f_put (F : ScF) (k : Bool) (f : Foot) : (F.put k f).f k = f := by cases k <;> rfl
theorem clear0_is (S : Sc) (k : Bool) : S.clear0 k = { S.putG k { S.gk k with L := List.replicate (S.gk k).rows (newL (S.gk k).cols ⟨0, 0, 0⟩), old := [] } with areas := S.areas ++ [⟨k, (S.gk k).top, (S.gk k).rows, 0, (S.gk k).cols⟩] } := by cases k <;> rfl
theorem putG_areas (S : Sc) (k : Bool) (G : GS) : (S.putG k G).areas = S.areas := by cases k <;> rfl
/-- One grid let be as new. -/
theorem clear_spec (h : ScM w base g F S) (k : Bool) {a : Option Addr} (ea : a = some ⟨(F.f k).g, 0, none⟩) {b : Bool} (eb : b = k) (ha : S.areas.length ≤ 900000000) {K : World → Prop} (hK : ∀ F' w', (∀ j, (F'.f j).g = (F.f j).g) → ScT base g w F F' (S.clear0 k) w' → K w') :
    c_grid_Grid_Size a w fun t16_2 t16_3 w9 =>
          c_grid_Grid_Clear a (⟨0, 0, 0⟩ : T_api_Attr) w9 fun w10 =>
          c_grid_Grid_Forget a w10 fun w11 =>
          ldSl ((⟨g, 0, none⟩ : Addr).add 41) w11.drew fun t28_1 =>
          c_grid_Grid_Top a w11.drew fun t32_1 w12 =>
          World.cell? w12 ((⟨g, 0, none⟩ : Addr).add 41) = some (.slice t28_1.a t28_1.n t28_1.c) ∧
          nw ty_screen_Area [(.bool b), (.int .i64 t32_1), (.int .i64 t16_2), (.int .i64 0), (.int .i64 t16_3)] w12 fun t36_1 w13 =>
          World.cell? w13 ((⟨g, 0, none⟩ : Addr).add 41) = some (.slice t28_1.a t28_1.n t28_1.c) ∧
          apK PG #[ty_sl_screen_Area, ty_sl_screen_Area] ty_sl_screen_Area t28_1 (⟨(some t36_1), 1, 1⟩ : Slc) w13 fun t37_1 w14 =>
          stK ((⟨g, 0, none⟩ : Addr).add 41) [(.slice t37_1.a t37_1.n t37_1.c)] w14 K := by
  subst ea eb
  have ok := h.ok
  have hG := ok.gkOk b
  have e : (S.gk b).rows = S.g0.rows ∧ (S.gk b).cols = S.g0.cols := by
    cases b
    · exact ⟨rfl, rfl⟩
    · exact ⟨ok.rows, ok.cols⟩
  refine gSize_spec (h.gkM b) ?_
  have hd := (ScT.refl h).drew
  refine gClear_spec (hd.m.gkM b) (by have := hG.rows; omega) hd.m.base_le fun f1 w1 hg1 hto1 hc1 => ?_
  have hT1 := ScT.mk_regrid hd.m b hg1 hto1 hc1 (ok.putG b (hG.clear _) e.1 e.2)
  have h1 := hd.trans hT1
  have hgk := h1.m.gkM b
  rw [f_put, putG_gk] at hgk
  have eg1 : f1.g = (F.f b).g := hto1.g
  rw [← eg1]
  refine gForget_spec hgk fun w2 hg2 hc2 => ?_
  have hT2 := ScT.mk_regrid h1.m b (f' := { f1 with rs := ⟨none, 0, 0⟩ }) (G' := { S.gk b with L := List.replicate (S.gk b).rows (newL (S.gk b).cols ⟨0, 0, 0⟩), old := [] }) hg2 (by rw [f_put]; exact ⟨rfl, rfl, .inl rfl, .inr fun k hk => by cases hk⟩) (by rw [f_put]; exact hc2) (h1.m.ok.putG b (hG.clear _).forget (by rw [show (S.putG b { S.gk b with L := List.replicate (S.gk b).rows (newL (S.gk b).cols ⟨0, 0, 0⟩) }).g0.rows = S.g0.rows from by cases b <;> rfl]; exact e.1) (by rw [show (S.putG b { S.gk b with L := List.replicate (S.gk b).rows (newL (S.gk b).cols ⟨0, 0, 0⟩) }).g0.cols = S.g0.cols from by cases b <;> rfl]; exact e.2))
  have h2 := (h1.trans hT2).drew
  rw [putG_putG] at h2
  have hgk2 := h2.m.gkM b
  rw [f_put, putG_gk] at hgk2
  refine ldSl_of (x := ((F.put b f1).put b { f1 with rs := ⟨none, 0, 0⟩ }).ar) (by rw [add_mk]; exact h2.m.blk.cell 41 rfl) ?_
  refine gTop_spec (f := { f1 with rs := ⟨none, 0, 0⟩ }) hgk2 ⟨by rw [add_mk]; exact h2.m.blk.cell 41 rfl, ?_⟩
  refine area_spec (a := ⟨b, (S.gk b).top, (S.gk b).rows, 0, (S.gk b).cols⟩) h2.m (by rw [putG_areas]; omega) rfl fun q w3 hT3 => ?_
  have h3 := h2.trans hT3
  rw [putG_areas] at h3
  rw [clear0_is] at hK
  refine hK _ w3 (fun j => ?_) h3
  cases b <;> cases j <;> first | rfl | exact eg1
theorem clear0_areas (S : Sc) (k : Bool) : (S.clear0 k).areas.length = S.areas.length + 1 := by rw [clear0_is]; simp
theorem reset_spec (h : ScM w base g F S) (ha : S.areas.length ≤ 800000000) {K : World → Prop} (hK : ∀ F' w', ScT base g w F F' S.reset w' → K w') : c_screen_Screen_reset (some ⟨g, 0, none⟩) w K := by
  refine call_screen_Screen_reset _ ?_
  unfold sh_screen_Screen_reset
  simp only [onPtr_some]
  refine ldS_of (r := T_2_grid_Grid.rep) (x := ⟨some ⟨F.f0.g, 0, none⟩, some ⟨F.f1.g, 0, none⟩⟩) (by rw [add_mk]; exact sub_cells h.blk 0 rfl) ?_
  refine loopP_rule (fun (st : Int × Unit) w2 => ∃ F2, (∀ j, (F2.f j).g = (F.f j).g) ∧ ((st.1 = 0 ∧ ScT base g w F F2 S w2) ∨ (st.1 = 1 ∧ ScT base g w F F2 (S.clear0 false) w2) ∨ (st.1 = 2 ∧ ScT base g w F F2 ((S.clear0 false).clear0 true) w2))) (fun st => 2 - st.1.toNat) ⟨F, fun _ => rfl, .inl ⟨rfl, ScT.refl h⟩⟩ ?_
  rintro ⟨i, u⟩ w2 ⟨F2, hf, ⟨rfl, hT⟩ | ⟨rfl, hT⟩ | ⟨rfl, hT⟩⟩ I hI
  · refine cond_t rfl (cond_t rfl ?_)
    refine clear_spec hT.m false (by rw [hf false]; rfl) rfl (by omega) fun F3 w3 hf3 hT3 => ?_
    exact hI _ _ ⟨F3, fun j => (hf3 j).trans (hf j), .inr (.inl ⟨by show IntKind.i64.wrap (0 + 1) = 1; decide, hT.trans hT3⟩)⟩ (by show 2 - (IntKind.i64.wrap (0 + 1)).toNat < 2 - (0 : Int).toNat; decide)
  · refine cond_t rfl (cond_f rfl (cond_t rfl ?_))
    refine clear_spec hT.m true (by rw [hf true]; rfl) rfl (by rw [clear0_areas]; omega) fun F3 w3 hf3 hT3 => ?_
    exact hI _ _ ⟨F3, fun j => (hf3 j).trans (hf j), .inr (.inr ⟨by show IntKind.i64.wrap (1 + 1) = 2; decide, hT.trans hT3⟩)⟩ (by show 2 - (IntKind.i64.wrap (1 + 1)).toNat < 2 - (1 : Int).toNat; decide)
  · refine cond_f rfl ?_
    exact fresh_spec hT.m fun F3 w3 hT3 => hK F3 w3 (hT.trans hT3)
/-! ### full -/
def fullRow (cols : Nat) : List Cell := (newL cols ⟨0, 0, 0⟩).map fun c => ({ c with R := 69 } : Cell)
def eCell (c : Cell) : Cell := { c with R := 69 }
theorem take_map_set {l : List Cell} {k : Nat} (hk : k < l.length) : ((l.take k).map eCell ++ l.drop k).set k (eCell l[k]) = (l.take (k + 1)).map eCell ++ l.drop (k + 1) := by
  rw [List.set_append_right _ _ (by rw [List.length_map, List.length_take]; omega)]
  have e : ((l.take k).map eCell).length = k := by rw [List.length_map, List.length_take]; omega
  rw [e, Nat.sub_self, List.drop_eq_getElem_cons hk, List.set_cons_zero, List.take_succ_eq_append_getElem hk, List.map_append]
  rw [List.append_assoc]
  rfl
theorem okR_full (cols : Nat) : okR (fullRow cols) := by
  intro c hc
  obtain ⟨d, _, rfl⟩ := List.mem_map.1 hc
  exact ⟨show (-9223372036854775808 : Int) ≤ 69 by decide, show (69 : Int) ≤ 9223372036854775807 by decide⟩
theorem full_len (cols : Nat) (h : cols ≤ 1000) : (fullRow cols).length = cols := by
  unfold fullRow
  rw [List.length_map]
  exact (newL_good h _).2.1
theorem rep_set {α : Type} {L : List α} {x : α} {k : Nat} (hk : k < L.length) : (List.replicate k x ++ L.drop k).set k x = List.replicate (k + 1) x ++ L.drop (k + 1) := by
  rw [List.set_append_right _ _ (by simp)]
  rw [List.drop_eq_getElem_cons hk]
  simp only [List.length_replicate, Nat.sub_self, List.set_cons_zero]
  rw [List.replicate_succ']
  simp
def fullG (G : GS) (xs : List Cell) (k : Nat) : GS := { G with L := List.replicate k xs ++ G.L.drop k }
theorem withG_self (S : Sc) : S.withG S.g = S := by
  obtain ⟨g0, g1, alt, c, s0, s1, modes, priv, top, past, stops, char, areas⟩ := S
  cases alt <;> rfl
theorem ScOk.full1 (h : ScOk S) : ScOk { S with top := 0, past := S.g.rows } := by
  have hb := h.bnd
  obtain ⟨e1, e2⟩ := h.grows
  exact ⟨h.g0, h.g1, h.rows, h.cols, h.row, h.col, h.shift, h.sh0, h.sh1, ⟨Int.le_refl 0, by show (0 : Int) < (S.g.rows : Int); omega, by show (S.g.rows : Int) ≤ S.g0.rows; omega⟩, fun hh => by
    show (0 : Int) + 2 ≤ (S.g.rows : Int)
    have hh : 2 ≤ S.g0.rows := hh
    omega, h.stops⟩
theorem full_spec (h : ScM w base g F S) {K : World → Prop} (hK : ∀ w', ScT base g w F F S.full w' → K w') : c_screen_Screen_full (some ⟨g, 0, none⟩) w K := by
  refine call_screen_Screen_full _ ?_
  unfold sh_screen_Screen_full
  refine ssize_spec h ?_
  have hd := (ScT.refl h).drew.drew
  have hb := h.ok.bnd
  refine New_spec fun l w1 ho1 hB1 => ?_
  have h1 := hd.ext hB1
  obtain ⟨xs, hxs⟩ : ∃ xs, xs = newL S.g.cols ⟨0, 0, 0⟩ := ⟨_, rfl⟩
  have hxl : xs.length = S.g.cols := by rw [hxs]; exact (newL_good hb.2.2.2 _).2.1
  rw [← hxs] at ho1
  have z1 : w.drew.drew.heap.size = w.heap.size := rfl
  have hfr : xs.map eCell = fullRow S.g.cols := by rw [hxs]; rfl
  have hfl := full_len S.g.cols hb.2.2.2
  have hL := h.gOk.len
  refine loopP_rule (fun (st : Int × Unit) w2 => ∃ k : Nat, st.1 = (k : Int) ∧ k ≤ xs.length ∧ Below w.drew.drew.heap.size w.drew.drew w2 ∧ Go.Vc.Own cellE w2 w.drew.drew.heap.size l ((xs.take k).map eCell ++ xs.drop k)) (fun st => xs.length - st.1.toNat) ⟨0, rfl, by omega, hB1, by simpa using ho1⟩ ?_
  rintro ⟨i, u⟩ w2 ⟨k, hi, hk, hB2, ho2⟩ I hI
  dsimp only at hi ⊢
  subst hi
  have hn := ho2.rd.n
  have hlen : ((xs.take k).map eCell ++ xs.drop k).length = xs.length := by simp; omega
  rw [hlen] at hn
  refine cond_of (fun e => ?_) fun e => ?_
  · have e := of_decide_eq_true e
    have hkl : k < xs.length := by omega
    have hx : ((xs.take k).map eCell ++ xs.drop k)[k]? = some xs[k] := by
      rw [List.getElem?_append_right (by simp; omega), List.getElem?_drop]
      simp only [List.length_map, List.length_take, Nat.min_eq_left hk, Nat.sub_self, Nat.add_zero]
      exact List.getElem?_eq_getElem hkl
    refine ho2.rd.ix (i := (k : Int)) rfl (by omega) (by rw [hlen]; omega) fun _ => ?_
    rw [Int.toNat_natCast]
    refine ho2.st (j := 0) hx (y := eCell xs[k]) (us := [.int .i32 69]) (by decide) rfl fun w3 ho3 hg3 hs3 => ?_
    rw [take_map_set hkl] at ho3
    rw [wrap64_id (x := (k : Int) + 1) (by omega)]
    have c3 : Chg (fun j => l.blk = some j) w2 w3 := Chg.of_grown hg3 fun j hj => hj
    exact hI _ _ ⟨k + 1, by simp, by omega, hB2.trans (c3.below hB2.size fun j hj e => by have := (ho2.lt j e).1; omega), ho3⟩ (by dsimp only; omega)
  · have e := of_decide_eq_false e
    have hkx : k = xs.length := by omega
    subst hkx
    rw [List.take_length, List.drop_length, List.append_nil, hfr] at ho2
    have h2 := hd.ext hB2
    obtain ⟨R, hR⟩ : ∃ R, R = resL (fullRow S.g.cols) S.g.cols := ⟨_, rfl⟩
    have e0 : S.withG (fullG S.g R 0) = S := withG_self S
    clear hI
    refine loopP_rule (fun (st : Int × Unit) w3 => ∃ k : Nat, st.1 = (k : Int) ∧ k ≤ S.g.rows ∧ ScT base g w F F (S.withG (fullG S.g R k)) w3 ∧ Rd cellE w3 l (fullRow S.g.cols)) (fun st => S.g.rows - st.1.toNat) ⟨0, rfl, by omega, by rw [e0]; exact h2, ho2.rd⟩ ?_
    rintro ⟨i, u⟩ w3 ⟨k, hi, hk, hT3, hr3⟩ I hI
    dsimp only at hi ⊢
    subst hi
    have hg3 : (S.withG (fullG S.g R k)).g = fullG S.g R k := withG_g _ _
    have ha3 : (S.withG (fullG S.g R k)).alt = S.alt := by unfold Sc.withG; split <;> rfl
    refine cond_of (fun e => ?_) fun e => ?_
    · have e := of_decide_eq_true e
      refine sg_spec hT3.m ?_
      have hd3 := hT3.drew
      have hgok := hd3.m.gOk
      have hll := hgok.len
      refine gSet_spec (xs := fullRow S.g.cols) hd3.m.gM hr3.drew (by omega) hll hd3.m.base_le (fun w4 _ hg4 hc4 => ?_) fun hbad => ?_
      · rw [hg3] at hg4
        rw [Int.toNat_natCast] at hg4
        have hkL : k < S.g.L.length := by omega
        have eG : ({ fullG S.g R k with L := (fullG S.g R k).L.set k (resL (fullRow S.g.cols) (fullG S.g R k).cols) } : GS) = fullG S.g R (k + 1) := by
          show ({ fullG S.g R k with L := (List.replicate k R ++ S.g.L.drop k).set k (resL (fullRow S.g.cols) S.g.cols) } : GS) = _
          rw [← hR, rep_set hkL]
          rfl
        rw [eG] at hg4
        have ok1 : GOk (fullG S.g R (k + 1)) := by
          rw [← eG]
          rw [hg3] at hgok
          exact hgok.set k (res_good hgok.cols.2 (okR_full _))
        have hT4 := ScT.mk_grid hd3.m hg4 (Foot.to.refl _ _) hc4 (hd3.m.ok.withG ok1 (by rw [hg3]; rfl) (by rw [hg3]; rfl))
        rw [ScF.put_self] at hT4
        have e4 : (S.withG (fullG S.g R k)).withG (fullG S.g R (k + 1)) = S.withG (fullG S.g R (k + 1)) := by
          unfold Sc.withG
          cases hS : S.alt <;> simp
        rw [e4] at hT4
        rw [wrap64_id (x := (k : Int) + 1) (by omega)]
        refine hI _ _ ⟨k + 1, by simp, by omega, hd3.trans hT4, ?_⟩ (by dsimp only; omega)
        refine hr3.drew.chg hc4 fun a ha hs => ?_
        have hlb := (ho2.lt a.block (by unfold Slc.blk; rw [ha]; rfl)).1
        have := (h.below a.block (by
          have hs : gridS (F.f (S.withG (fullG S.g R k)).alt) a.block := hs
          rw [ha3] at hs
          cases hS : S.alt <;> rw [hS] at hs
          · exact .inr (.inl hs)
          · exact .inr (.inr (.inl hs)))).2
        have z : w.drew.drew.heap.size = w.heap.size := rfl
        omega
      · rw [hg3] at hbad
        exact absurd ⟨by omega, by show (k : Int) < (S.g.rows : Int); omega⟩ hbad
    · have e := of_decide_eq_false e
      have hkr : k = S.g.rows := by omega
      subst hkr
      have eF : fullG S.g R S.g.rows = { S.g with L := List.replicate S.g.rows (resL (fullRow S.g.cols) S.g.cols) } := by
        show ({ S.g with L := List.replicate S.g.rows R ++ S.g.L.drop S.g.rows } : GS) = _
        rw [List.drop_eq_nil_of_le (by omega), List.append_nil, hR]
      rw [eF] at hT3 hg3
      simp only [onPtr_some]
      rw [add_mk]
      refine stK_blk hT3.m.blk (by simp [T_screen_Screen.rep]) fun w4 hb4 hg4 hs4 => ?_
      rw [add_mk]
      refine stK_blk hb4 (by simp [T_screen_Screen.rep, putL]) fun w5 hb5 hg5 hs5 => ?_
      have hc : Chg (fun k => k = g) w3 w5 := chg_seq (Chg.gg hg4) (Chg.gg hg5)
      have ok5 := hT3.m.ok.full1
      rw [hg3] at ok5
      have hT5 := ScT.mk_struct hT3.m hc (S' := { S.withG { S.g with L := List.replicate S.g.rows (resL (fullRow S.g.cols) S.g.cols) } with top := 0, past := S.g.rows }) hb5 rfl rfl rfl rfl rfl rfl ok5
      refine to_spec hT5.m fun w6 hT6 => hK w6 ((hT3.trans hT5).trans hT6)
/-! ### single, escape -/
theorem single_spec (h : ScM w base g F S) {c : Int} (ha : S.areas.length ≤ 800000000) {K : World → Prop} (hK : ∀ F' w', ScT base g w F F' (S.single c) w' → K w') : c_screen_Screen_single (some ⟨g, 0, none⟩) c w K := by
  refine call_screen_Screen_single _ _ ?_
  unfold sh_screen_Screen_single
  simp only [onPtr_some]
  unfold Sc.single at hK
  have hd := (ScT.refl h).drew
  refine cond_of (fun e => ?_) fun e => ?_
  · rw [if_pos (eq_of_beq e)] at hK
    exact h.ldRow (to_spec h fun w1 hT1 => index_spec hT1.m fun F2 w2 hT2 => hK _ _ (hT1.trans hT2))
  rw [if_neg (beq_eq_false_iff_ne.1 e)] at hK
  refine cond_of (fun e => ?_) fun e => ?_
  · rw [if_pos (eq_of_beq e)] at hK
    exact index_spec h hK
  rw [if_neg (beq_eq_false_iff_ne.1 e)] at hK
  refine cond_of (fun e => ?_) fun e => ?_
  · rw [if_pos (eq_of_beq e)] at hK
    exact reverse_spec h hK
  rw [if_neg (beq_eq_false_iff_ne.1 e)] at hK
  refine cond_of (fun e => ?_) fun e => ?_
  · rw [if_pos (eq_of_beq e)] at hK
    refine hd.m.ldStops (hd.m.ldCol ?_)
    refine tSet_spec hd.m.st hd.m.ok.slen.2 _ fun w2 hst hc hs => hK _ _ (hd.trans (hd.m.setSt (setB_length _ _ _) hst hc))
  rw [if_neg (beq_eq_false_iff_ne.1 e)] at hK
  refine cond_of (fun e => ?_) fun e => ?_
  · rw [if_pos (eq_of_beq e)] at hK
    exact save_spec h fun w1 hT1 => hK _ _ hT1
  rw [if_neg (beq_eq_false_iff_ne.1 e)] at hK
  refine cond_of (fun e => ?_) fun e => ?_
  · rw [if_pos (eq_of_beq e)] at hK
    exact restore_spec h fun w1 hT1 => hK _ _ hT1
  rw [if_neg (beq_eq_false_iff_ne.1 e)] at hK
  refine cond_of (fun e => ?_) fun e => ?_
  · rw [if_pos (eq_of_beq e)] at hK
    exact reset_spec h ha hK
  · rw [if_neg (beq_eq_false_iff_ne.1 e)] at hK
    exact hK _ _ (ScT.refl h)
theorem ScOk.setSet (h : ScOk S) (i c : Int) : ScOk (S.setSet i c) := by
  unfold Sc.setSet
  split <;> exact h.cur h.rowg h.colg h.shift
theorem sets_store (h : ScM w base g F S) {i c : Int} (hi : i = 0 ∨ i = 1) {K : World → Prop} (hK : ∀ w', ScT base g w F F (S.setSet i c) w' → K w') : ixA (((⟨g, 0, none⟩ : Addr).add 3).add 7) 2 i 1 fun t24 => stK t24 [(.int .u8 c)] w.drew K := by
  have hd := (ScT.refl h).drew
  have hok := h.ok.setSet i c
  rcases hi with rfl | rfl
  · have e : S.setSet 0 c = { S with c := { S.c with Sets := ⟨c, S.c.Sets.e1⟩ } } := by unfold Sc.setSet; rw [if_pos rfl]
    rw [e] at hK hok
    refine ⟨⟨by decide, by decide⟩, ?_⟩
    simp only [add_mk]
    refine stK_blk hd.m.blk (by simp [T_screen_Screen.rep]) fun w2 hb2 hg2 hs2 => hK w2 (hd.trans (ScT.mk_struct hd.m (Chg.gg hg2) (S' := { S with c := { S.c with Sets := ⟨c, S.c.Sets.e1⟩ } }) hb2 rfl rfl rfl rfl rfl rfl hok))
  · have e : S.setSet 1 c = { S with c := { S.c with Sets := ⟨S.c.Sets.e0, c⟩ } } := by unfold Sc.setSet; rw [if_neg (by decide)]
    rw [e] at hK hok
    refine ⟨⟨by decide, by decide⟩, ?_⟩
    simp only [add_mk]
    refine stK_blk hd.m.blk (by simp [T_screen_Screen.rep]) fun w2 hb2 hg2 hs2 => hK w2 (hd.trans (ScT.mk_struct hd.m (Chg.gg hg2) (S' := { S with c := { S.c with Sets := ⟨S.c.Sets.e0, c⟩ } }) hb2 rfl rfl rfl rfl rfl rfl hok))
theorem beq_list {a b : List UInt8} (h : (a == b) = true) : a = b := eq_of_beq h
theorem nbeq_list {a b : List UInt8} (h : (a == b) = false) : ¬ a = b := beq_eq_false_iff_ne.1 h
theorem escape_spec (h : ScM w base g F S) {bs : List UInt8} {c : Int} (ha : S.areas.length ≤ 800000000) {K : World → Prop} (hK : ∀ F' w', ScT base g w F F' (S.escape bs c) w' → K w') : c_screen_Screen_escape (some ⟨g, 0, none⟩) (strB bs) c w K := by
  refine call_screen_Screen_escape _ _ _ ?_
  unfold sh_screen_Screen_escape
  have l40 : (⟨#[40]⟩ : ByteArray).toList = [40] := by kernel_rfl
  have l41 : (⟨#[41]⟩ : ByteArray).toList = [41] := by kernel_rfl
  have l35 : (⟨#[35]⟩ : ByteArray).toList = [35] := by kernel_rfl
  have l0 : (⟨#[]⟩ : ByteArray).toList = [] := by kernel_rfl
  rw [l40, l41, l35, l0, strB_toList]
  unfold Sc.escape at hK
  simp only [onPtr_some]
  refine joinP_of fun J1 hJ1 => ?_
  have set1 : ∀ v : UInt8, (v = 40 ∨ v = 41) → bs = [v] → J1 (true, ()) w := by
    rintro v hv rfl
    refine hJ1 _ _ (cond_t rfl ?_)
    have hin : [v] = [40] ∨ [v] = [41] := by rcases hv with rfl | rfl; exact .inl rfl; exact .inr rfl
    rw [if_pos hin] at hK
    refine or2' (fun e => cond_t rfl ?_) fun e => cond_f rfl ?_
    · rw [if_pos e] at hK
      refine ixS_of (k := 0) rfl rfl ?_
      rcases hv with rfl | rfl
      · rw [if_pos rfl] at hK
        rw [show IntKind.u8.wrap (((40 : UInt8).toNat : Int) - 40) = 0 by decide]
        exact sets_store h (.inl rfl) fun w' hT => hK _ _ hT
      · rw [if_neg (by decide)] at hK
        rw [show IntKind.u8.wrap (((41 : UInt8).toNat : Int) - 40) = 1 by decide]
        exact sets_store h (.inr rfl) fun w' hT => hK _ _ hT
    · rw [if_neg e] at hK
      exact hK _ _ (ScT.refl h)
  refine cond_of (fun e => ?_) fun e1 => ?_
  · rw [e]
    exact set1 40 (.inl rfl) (beq_list e)
  cases e2 : (bs == [41])
  rotate_left
  · exact set1 41 (.inr rfl) (beq_list e2)
  rw [if_neg (fun hh => hh.elim (nbeq_list e1) (nbeq_list e2))] at hK
  refine hJ1 _ _ (cond_f rfl ?_)
  refine cond_of (fun e => ?_) fun e => ?_
  · rw [if_pos (beq_list e)] at hK
    refine cond_of (fun e => ?_) fun e => ?_
    · rw [if_pos (eq_of_beq e)] at hK
      exact full_spec h fun w' hT => hK _ _ hT
    · rw [if_neg (beq_eq_false_iff_ne.1 e)] at hK
      exact hK _ _ (ScT.refl h)
  rw [if_neg (nbeq_list e)] at hK
  refine cond_of (fun e => ?_) fun e => ?_
  · rw [if_pos (beq_list e)] at hK
    exact single_spec h ha hK
  · rw [if_neg (nbeq_list e)] at hK
    exact hK _ _ (ScT.refl h)
end
end Go.Proofs.YtmoafafalnbkpaaGreatDoor

set_option linter.unusedVariables false
namespace Go.Proofs.YtmoafafalnbkpaaGreatDoor
open Go.Vc Go.RowKit
set_option maxRecDepth 400000
def flagP (n : Int) : Int := if n = 1 then 1 else if n = 2 then 2 else if n = 3 then 4 else if n = 4 then 8 else if n = 5 then 16 else if n = 7 then 32 else if n = 8 then 64 else if n = 9 then 128 else 0
def attrS (a : Attr) (n : Int) : Attr :=
  if n = 0 then ⟨0, 0, 0⟩
  else if 1 ≤ n ∧ n ≤ 9 then { a with Flags := bitsR .or .i64 a.Flags (flagP n) }
  else if n = 22 then { a with Flags := bitsR .andNot .i64 (bitsR .andNot .i64 a.Flags 1) (flagP (w64 (n - 20))) }
  else if 23 ≤ n ∧ n ≤ 29 then { a with Flags := bitsR .andNot .i64 a.Flags (flagP (w64 (n - 20))) }
  else if 40 ≤ n ∧ n ≤ 47 then { a with Bg := w64 (w64 (16777216 + w64 (n - 10)) - 30) }
  else if 30 ≤ n ∧ n ≤ 37 then { a with Fg := w64 (w64 (16777216 + n) - 30) }
  else if 100 ≤ n ∧ n ≤ 107 then { a with Bg := w64 (w64 (16777224 + w64 (n - 10)) - 90) }
  else if 90 ≤ n ∧ n ≤ 97 then { a with Fg := w64 (w64 (16777224 + n) - 90) }
  else if n = 39 then { a with Fg := 0 }
  else if n = 49 then { a with Bg := 0 }
  else a
def setC (bg : Bool) (a : Attr) (v : Int) : Attr := if bg then { a with Bg := v } else { a with Fg := v }
def byteP (v : Int) : Bool := decide (0 ≤ v ∧ v ≤ 255)
def farA (bg : Bool) (a : Attr) (l : List Int) : Attr × List Int :=
  if 2 ≤ l.length ∧ l.getD 0 0 = 5 then (if byteP (l.getD 1 0) then setC bg a (w64 (16777216 + l.getD 1 0)) else a, l.drop 2)
  else if 4 ≤ l.length ∧ l.getD 0 0 = 2 then (if (byteP (l.getD 1 0) && byteP (l.getD 2 0) && byteP (l.getD 3 0)) = true then setC bg a (w64 (w64 (w64 (33554432 + w64 (l.getD 1 0 * 2 ^ 16)) + w64 (l.getD 2 0 * 2 ^ 8)) + l.getD 3 0)) else a, l.drop 4)
  else (a, [])
def applyL : Nat → Attr → List Int → Attr
  | 0, a, _ => a
  | k + 1, a, [] => a
  | k + 1, a, n :: l => if n = 48 then applyL k (farA true a l).1 (farA true a l).2 else if n = 38 then applyL k (farA false a l).1 (farA false a l).2 else applyL k (attrS a n) l
def applyP (a : Attr) (ps : List Int) : Attr := if ps = [] then ⟨0, 0, 0⟩ else applyL ps.length a ps
theorem farA_len (bg : Bool) (a : Attr) (l : List Int) : (farA bg a l).2.length ≤ l.length := by
  unfold farA
  split
  · simp
  · split <;> simp
theorem applyL_fuel : ∀ (k : Nat) (a : Attr) (l : List Int) (m : Nat), l.length ≤ k → l.length ≤ m → applyL k a l = applyL m a l
  | 0, a, l, m, h1, h2 => by
    have : l = [] := List.eq_nil_of_length_eq_zero (by omega)
    subst this
    cases m <;> rfl
  | k + 1, a, [], m, h1, h2 => by cases m <;> rfl
  | k + 1, a, n :: l, 0, h1, h2 => by simp at h2
  | k + 1, a, n :: l, m + 1, h1, h2 => by
    simp only [List.length_cons] at h1 h2
    have f1 := farA_len true a l
    have f2 := farA_len false a l
    simp only [applyL]
    rw [applyL_fuel k (farA true a l).1 _ m (by omega) (by omega), applyL_fuel k (farA false a l).1 _ m (by omega) (by omega), applyL_fuel k (attrS a n) l m (by omega) (by omega)]
section
variable {w w' : World}
theorem flag_spec {n : Int} {K : Int → World → Prop} (hK : K (flagP n) w) : c_attr_flag n w K := by
  refine call_attr_flag _ ?_
  unfold sh_attr_flag
  unfold flagP at hK
  refine cond_of (fun e => ?_) fun e => ?_
  · rw [if_pos (eq_of_beq e)] at hK; exact hK
  rw [if_neg (beq_eq_false_iff_ne.1 e)] at hK
  refine cond_of (fun e => ?_) fun e => ?_
  · rw [if_pos (eq_of_beq e)] at hK; exact hK
  rw [if_neg (beq_eq_false_iff_ne.1 e)] at hK
  refine cond_of (fun e => ?_) fun e => ?_
  · rw [if_pos (eq_of_beq e)] at hK; exact hK
  rw [if_neg (beq_eq_false_iff_ne.1 e)] at hK
  refine cond_of (fun e => ?_) fun e => ?_
  · rw [if_pos (eq_of_beq e)] at hK; exact hK
  rw [if_neg (beq_eq_false_iff_ne.1 e)] at hK
  refine cond_of (fun e => ?_) fun e => ?_
  · rw [if_pos (eq_of_beq e)] at hK; exact hK
  rw [if_neg (beq_eq_false_iff_ne.1 e)] at hK
  refine cond_of (fun e => ?_) fun e => ?_
  · rw [if_pos (eq_of_beq e)] at hK; exact hK
  rw [if_neg (beq_eq_false_iff_ne.1 e)] at hK
  refine cond_of (fun e => ?_) fun e => ?_
  · rw [if_pos (eq_of_beq e)] at hK; exact hK
  rw [if_neg (beq_eq_false_iff_ne.1 e)] at hK
  refine cond_of (fun e => ?_) fun e => ?_
  · rw [if_pos (eq_of_beq e)] at hK; exact hK
  · rw [if_neg (beq_eq_false_iff_ne.1 e)] at hK; exact hK
theorem far1_spec {v : Int} {K : Bool → World → Prop} (hK : K (byteP v) w) : c_attr_far_1 v w K := by
  refine call_attr_far_1 _ ?_
  unfold sh_attr_far_1
  unfold byteP at hK
  refine cond_of (fun e => ?_) fun e => ?_
  · have e : 0 ≤ v := of_decide_eq_true e
    rw [show decide (0 ≤ v ∧ v ≤ 255) = decide (v ≤ 255) by simp [e]] at hK
    exact hK
  · have e : ¬ 0 ≤ v := of_decide_eq_false e
    rw [show decide (0 ≤ v ∧ v ≤ 255) = false by simp; omega] at hK
    exact hK
def ofs (bg : Bool) : Nat := if bg then 1 else 0
theorem ldP_at {p : Slc} {l : List Int} (h : Rd E_int w p l) {i : Nat} (hi : i < l.length) {K : Int → Prop} (hK : K (l.getD i 0)) : ixK p (i : Int) 1 fun t => ldI .i64 t w K := by
  refine h.ix rfl (by omega) (by omega) fun hc => ?_
  have e : l.getD i 0 = l[i] := by rw [List.getD_eq_getElem?_getD, List.getElem?_eq_getElem hi]; rfl
  rw [e] at hK
  exact ldI_of (x := l[i]) (by simpa using hc 0 _ rfl) hK
theorem drop_rd {p : Slc} {l : List Int} (h : Rd E_int w p l) {k : Nat} (hk : k ≤ l.length) {K : Slc → Prop} (hK : ∀ q, Rd E_int w q (l.drop k) → (q.a = none ∨ ∃ a b, q.a = some a ∧ p.a = some b ∧ a.block = b.block) → K q) : slK p (some (k : Int)) none 1 K := by
  refine h.slK rfl (l := k) (m := l.length) (.inr rfl) (.inl ⟨rfl, rfl⟩) hk (Nat.le_refl _) fun hr => ?_
  rw [List.take_length] at hr
  refine hK _ hr ?_
  cases hp : p.a with
  | none => exact .inl (by simp [cut])
  | some b =>
    by_cases hc : p.c = k
    · exact .inr ⟨b, b, by simp only [cut]; rw [if_pos hc], rfl, rfl⟩
    · exact .inr ⟨b.add (k * E_int.k), b, by simp only [cut]; rw [if_neg hc]; rfl, rfl, by simp⟩
theorem setC_store {b : Nat} {a : Attr} {bg : Bool} {v : Int} (h : Blk w b ty_api_Attr (T_api_Attr.rep.cells a)) {K : World → Prop} (hK : ∀ w', Blk w' b ty_api_Attr (T_api_Attr.rep.cells (setC bg a v)) → Chg (fun k => k = b) w w' → K w') : stK ⟨b, ofs bg, none⟩ [.int .i64 v] w K := by
  cases bg
  · exact stK_blk (o := 0) h (by simp [T_api_Attr.rep]) fun w' hb hg hs => hK w' hb (Chg.gg hg)
  · exact stK_blk (o := 1) h (by simp [T_api_Attr.rep]) fun w' hb hg hs => hK w' hb (Chg.gg hg)
theorem far_spec {p : Slc} {l : List Int} {b : Nat} {a : Attr} {bg : Bool} (h : Rd E_int w p l) (hb : Blk w b ty_api_Attr (T_api_Attr.rep.cells a)) (hne : ∀ c, p.a = some c → l ≠ [] → c.block ≠ b) {K : Slc → World → Prop}
    (hK : ∀ q w', Rd E_int w' q (farA bg a l).2 → (q.a = none ∨ ∃ x y, q.a = some x ∧ p.a = some y ∧ x.block = y.block) → Blk w' b ty_api_Attr (T_api_Attr.rep.cells (farA bg a l).1) → Chg (fun k => k = b) w w' → K q w') : c_attr_far (some ⟨b, ofs bg, none⟩) p w K := by
  refine call_attr_far _ _ ?_
  unfold sh_attr_far
  have hn := h.n
  unfold farA at hK
  have keep : ∀ {w'}, l ≠ [] → Chg (fun k => k = b) w w' → Rd E_int w' p l := fun hl hc => h.chg hc fun c hc' e => hne c hc' hl e
  refine joinP_of fun J1 hJ1 => ?_
  have two : ¬ (2 ≤ l.length ∧ l.getD 0 0 = 5) → ∀ v : Bool, v = false → J1 (v, ()) w := by
    rintro hno v rfl
    rw [if_neg hno] at hK
    refine hJ1 _ _ (cond_f rfl ?_)
    refine joinP_of fun J2 hJ2 => ?_
    have none_ : ¬ (4 ≤ l.length ∧ l.getD 0 0 = 2) → ∀ v : Bool, v = false → J2 (v, ()) w := by
      rintro hno v rfl
      rw [if_neg hno] at hK
      exact hJ2 _ _ (cond_f rfl (hK _ w (Rd.nil _ _) (.inl rfl) hb (Chg.refl _ _)))
    refine cond_of (fun e => ?_) fun e => ?_
    · have e := of_decide_eq_true e
      have hl4 : 4 ≤ l.length := by omega
      refine ldP_at h (i := 0) (by omega) ?_
      by_cases e2 : l.getD 0 0 = 2
      · rw [beq_iff_eq.2 e2]
        rw [if_pos ⟨hl4, e2⟩] at hK
        have hl0 : l ≠ [] := fun e => by rw [e] at hl4; simp at hl4
        refine hJ2 _ _ (cond_t rfl (joinP_of fun J3 hJ3 => ?_))
        have key : ∀ v, v = (byteP (l.getD 1 0) && byteP (l.getD 2 0) && byteP (l.getD 3 0)) → J3 (v, ()) w := by
          intro v hv
          rw [← hv] at hK
          refine hJ3 _ _ ?_
          cases v
          · rw [if_neg (by decide)] at hK
            exact cond_f rfl (drop_rd h hl4 fun q hq hqa => hK q w hq hqa hb (Chg.refl _ _))
          · rw [if_pos rfl] at hK
            refine cond_t rfl ?_
            refine ldP_at h.drew (i := 1) (by omega) ⟨by decide, ?_⟩
            refine ldP_at h.drew (i := 2) (by omega) ⟨by decide, ?_⟩
            refine ldP_at h.drew (i := 3) (by omega) ?_
            rw [onPtr_some]
            refine setC_store (bg := bg) hb.drew fun w2 hb2 hc2 => ?_
            have c2 : Chg (fun k => k = b) w w2 := (Chg.of_ext (below_drew w)).trans hc2 fun i _ hi => hi
            exact drop_rd (keep hl0 c2) hl4 fun q hq hqa => hK q w2 hq hqa hb2 c2
        refine ldP_at h (i := 1) (by omega) (far1_spec ?_)
        cases v1 : byteP (l.getD 1 0)
        · exact cond_f rfl (key _ (by rw [v1]; rfl))
        refine cond_t rfl (ldP_at h (i := 2) (by omega) (far1_spec ?_))
        cases v2 : byteP (l.getD 2 0)
        · exact cond_f rfl (key _ (by rw [v1, v2]; rfl))
        refine cond_t rfl (ldP_at h (i := 3) (by omega) (far1_spec ?_))
        exact key _ (by rw [v1, v2]; rfl)
      · exact none_ (fun hh => e2 hh.2) _ (beq_eq_false_iff_ne.2 e2)
    · have e := of_decide_eq_false e
      exact none_ (fun hh => by omega) _ rfl
  refine cond_of (fun e => ?_) fun e => ?_
  · have e := of_decide_eq_true e
    have hl2 : 2 ≤ l.length := by omega
    refine ldP_at h (i := 0) (by omega) ?_
    by_cases e2 : l.getD 0 0 = 5
    · rw [beq_iff_eq.2 e2]
      rw [if_pos ⟨hl2, e2⟩] at hK
      have hl0 : l ≠ [] := fun e => by rw [e] at hl2; simp at hl2
      refine hJ1 _ _ (cond_t rfl ?_)
      refine ldP_at h (i := 1) (by omega) (far1_spec ?_)
      cases v1 : byteP (l.getD 1 0)
      · rw [if_neg (by rw [v1]; decide)] at hK
        exact cond_f rfl (drop_rd h hl2 fun q hq hqa => hK q w hq hqa hb (Chg.refl _ _))
      · rw [if_pos v1] at hK
        refine cond_t rfl (ldP_at h (i := 1) (by omega) ?_)
        rw [onPtr_some]
        refine setC_store (bg := bg) hb fun w2 hb2 hc2 => ?_
        exact drop_rd (keep hl0 hc2) hl2 fun q hq hqa => hK q w2 hq hqa hb2 hc2
    · exact two (fun hh => e2 hh.2) _ (beq_eq_false_iff_ne.2 e2)
  · have e := of_decide_eq_false e
    exact two (fun hh => by omega) _ rfl
theorem rng2 {a b n : Int} {X Y : Prop} (h1 : a ≤ n ∧ n ≤ b → X) (h2 : ¬ (a ≤ n ∧ n ≤ b) → Y) : cond (decide (n ≥ a)) (cond (decide (n ≤ b)) X Y) Y := by
  refine cond_of (fun e => ?_) fun e => ?_
  · have e : a ≤ n := of_decide_eq_true e
    refine cond_of (fun e2 => ?_) fun e2 => ?_
    · exact h1 ⟨e, of_decide_eq_true e2⟩
    · exact h2 fun hh => of_decide_eq_false e2 hh.2
  · exact h2 fun hh => of_decide_eq_false e hh.1
theorem Apply_spec {p : Slc} {ps : List Int} {a : Attr} (h : Rd E_int w p ps) {K : Attr → World → Prop} (hK : ∀ w', Below w.heap.size w w' → K (applyP a ps) w') : c_attr_Apply a p w K := by
  refine call_attr_Apply _ _ ?_
  unfold sh_attr_Apply
  refine nw_blk fun w1 hA1 hB1 hs1 => nw_blk fun w2 hT2 hB2 hs2 => ?_
  have hA2 := hA1.ext hB2
  have B2 := below_t hB1 hB2
  have hn := h.n
  unfold applyP at hK
  refine cond_of (fun e => ?_) fun e => ?_
  · have e : (p.n : Int) = 0 := eq_of_beq e
    have e0 : ps = [] := List.eq_nil_of_length_eq_zero (by omega)
    rw [if_pos e0] at hK
    exact res_of (r := T_api_Attr.rep) (x := ⟨0, 0, 0⟩) hT2 rfl rfl fun w3 hc3 hs3 => hK w3 (below_one B2 hc3 (by omega))
  have e : ¬ (p.n : Int) = 0 := beq_eq_false_iff_ne.1 e
  have e0 : ps ≠ [] := fun e1 => e (by rw [hn, e1]; rfl)
  rw [if_neg e0] at hK
  have hlt : ∀ c, p.a = some c → ps ≠ [] → c.block < w.heap.size := by
    intro c hc _
    have := h.lt (i := 0) (List.length_pos_iff.2 e0)
    simp only [Slc.at_, hc] at this
    exact this
  refine loopP_rule (fun (st : Slc × Unit) w4 => ∃ (a' : Attr) (l : List Int), Rd E_int w4 st.1 l ∧ applyL l.length a' l = applyL ps.length a ps ∧ Blk w4 w.heap.size ty_api_Attr (T_api_Attr.rep.cells a') ∧ Blk w4 w1.heap.size ty_api_Attr (T_api_Attr.rep.cells ⟨0, 0, 0⟩) ∧ Below w.heap.size w w4 ∧ (∀ c, st.1.a = some c → l ≠ [] → c.block < w.heap.size)) (fun st => st.1.n) ⟨a, ps, h.ext B2, rfl, hA2, hT2, B2, hlt⟩ ?_
  rintro ⟨s, u⟩ w4 ⟨a', l, hr, hap, hA, hT, hB, hsl⟩ I hI
  dsimp only at hI hr hsl ⊢
  have hsn := hr.n
  cases l with
  | nil =>
    refine cond_f (by rw [hsn]; rfl) ?_
    refine ldS_of (r := T_api_Attr.rep) (x := a') hA.cells ?_
    refine res_of (r := T_api_Attr.rep) (x := a') hT rfl rfl fun w5 hc5 hs5 => ?_
    have := hK w5 (below_one hB hc5 (by omega))
    rw [← hap] at this
    exact this
  | cons n l =>
    refine cond_t (by rw [hsn]; simp) ?_
    refine ldP_at hr (i := 0) (by simp) ?_
    have en : (n :: l).getD 0 0 = n := rfl
    rw [en]
    refine drop_rd hr (k := 1) (by simp) fun q hq hqa => ?_
    have el : (n :: l).drop 1 = l := rfl
    rw [el] at hq
    have hql : ∀ c, q.a = some c → c.block < w.heap.size := by
      intro c hc
      rcases hqa with h1 | ⟨x, y, h1, h2, h3⟩
      · rw [h1] at hc; cases hc
      · rw [h1] at hc
        cases hc
        rw [h3]
        exact hsl y h2 (by simp)
    have hqn := hq.n
    simp only [List.length_cons, applyL] at hap hsn
    have next : ∀ (a'' : Attr) (w5 : World), (n ≠ 48 → n ≠ 38 → a'' = attrS a' n) → n ≠ 48 → n ≠ 38 → Blk w5 w.heap.size ty_api_Attr (T_api_Attr.rep.cells a'') → Chg (fun k => k = w.heap.size) w4 w5 → I (q, ()) w5 := by
      intro a'' w5 ha h48 h38 hA5 hc5
      have ha := ha h48 h38
      subst ha
      rw [if_neg h48, if_neg h38] at hap
      refine hI _ _ ⟨_, l, hq.chg hc5 fun c hc e => by have := hql c hc; omega, hap, hA5, hT.chg hc5 (by omega), below_one hB hc5 (Nat.le_refl _), fun c hc _ => hql c hc⟩ (by dsimp only; omega)
    have farn : ∀ (bg : Bool), (if bg then n = 48 else n = 38) → c_attr_far (some ⟨w.heap.size, ofs bg, none⟩) q w4 fun t121 w6 => I (t121, ()) w6 := by
      intro bg hbg
      refine far_spec (bg := bg) hq hA (fun c hc _ e => by have := hql c hc; omega) fun q2 w5 hq2 hqa2 hA5 hc5 => ?_
      have hap2 : applyL l.length (farA bg a' l).1 (farA bg a' l).2 = applyL ps.length a ps := by
        cases bg
        · have hbg : n = 38 := hbg
          rw [if_neg (by omega), if_pos hbg] at hap
          exact hap
        · have hbg : n = 48 := hbg
          rw [if_pos hbg] at hap
          exact hap
      have hfl := farA_len bg a' l
      rw [applyL_fuel l.length _ _ (farA bg a' l).2.length hfl (Nat.le_refl _)] at hap2
      have hq2n := hq2.n
      refine hI _ _ ⟨_, _, hq2, hap2, hA5, hT.chg hc5 (by omega), below_one hB hc5 (Nat.le_refl _), fun c hc _ => ?_⟩ (by dsimp only; omega)
      rcases hqa2 with h1 | ⟨x, y, h1, h2, h3⟩
      · rw [h1] at hc; cases hc
      · rw [h1] at hc
        cases hc
        rw [h3]
        exact hql y h2
    clear hI hap
    simp only [add_mk]
    refine joinP_of fun J2 hJ2 => joinP_of fun J3 hJ3 => joinP_of fun J4 hJ4 => joinP_of fun J5 hJ5 => ?_
    refine cond_of (fun e => ?_) fun n0 => ?_
    · have e : n = 0 := eq_of_beq e
      refine all_of hA rfl fun w5 hA5 hc5 hs5 => next ⟨0, 0, 0⟩ w5 (fun _ _ => ?_) (by omega) (by omega) hA5 hc5
      unfold attrS
      rw [if_pos e]
    have n0 : ¬ n = 0 := beq_eq_false_iff_ne.1 n0
    refine joinP_of fun J6 hJ6 => ?_
    refine rng2 (fun e => ?_) fun n1 => hJ6 _ _ ?_
    · have hd := hA.drew
      refine ldI_of (x := a'.Flags) (hd.cell 2 rfl) (flag_spec ⟨hd.cell 2 rfl, ?_⟩)
      refine stK_blk (o := 2) hd (by simp [T_api_Attr.rep]) fun w5 hb5 hg5 hs5 => next { a' with Flags := bitsR .or .i64 a'.Flags (flagP n) } w5 (fun _ _ => ?_) (by omega) (by omega) hb5 ((Chg.of_ext (below_drew w4)).trans (Chg.gg hg5) fun i _ hi => hi)
      unfold attrS
      rw [if_neg n0, if_pos e]
    have five : ∀ (f : Int) w5, Blk w5 w.heap.size ty_api_Attr (T_api_Attr.rep.cells { a' with Flags := f }) → Chg (fun k => k = w.heap.size) w4 w5 → (attrS a' n = { a' with Flags := bitsR .andNot .i64 f (flagP (w64 (n - 20))) }) → n ≠ 48 → n ≠ 38 → J5 () w5 := by
      intro f w5 hb5 hc5 hat h48 h38
      refine hJ5 _ _ ?_
      have hd := hb5.drew
      refine ldI_of (x := f) (hd.cell 2 rfl) (flag_spec ⟨hd.cell 2 rfl, ?_⟩)
      refine stK_blk (o := 2) hd (by simp [T_api_Attr.rep]) fun w6 hb6 hg6 hs6 => next { a' with Flags := bitsR .andNot .i64 f (flagP (w64 (n - 20))) } w6 (fun _ _ => hat.symm) h48 h38 hb6 ((hc5.trans (Chg.of_ext (below_drew w5)) fun i _ hi => hi).trans (Chg.gg hg6) fun i _ hi => hi)
    refine cond_of (fun e => ?_) fun n22 => ?_
    · have e : n = 22 := eq_of_beq e
      refine ldI_of (x := a'.Flags) (hA.cell 2 rfl) ?_
      refine stK_blk (o := 2) hA (by simp [T_api_Attr.rep]) fun w5 hb5 hg5 hs5 => five (bitsR .andNot .i64 a'.Flags 1) w5 hb5 (Chg.gg hg5) ?_ (by omega) (by omega)
      unfold attrS
      rw [if_neg n0, if_neg n1, if_pos e]
    have n22 : ¬ n = 22 := beq_eq_false_iff_ne.1 n22
    have col : ∀ (bg : Bool) (v : Int), attrS a' n = setC bg a' v → n ≠ 48 → n ≠ 38 → stK ⟨w.heap.size, ofs bg, none⟩ [.int .i64 v] w4 fun w5 => I (q, ()) w5 := by
      intro bg v hat h48 h38
      exact setC_store (bg := bg) hA fun w5 hb5 hc5 => next _ w5 (fun _ _ => hat.symm) h48 h38 hb5 hc5
    refine joinP_of fun J7 hJ7 => ?_
    refine rng2 (fun e => ?_) fun n23 => hJ7 _ _ ?_
    · refine five a'.Flags w4 hA (Chg.refl _ _) ?_ (by omega) (by omega)
      unfold attrS
      rw [if_neg n0, if_neg n1, if_neg n22, if_pos e]
    refine joinP_of fun J8 hJ8 => ?_
    refine rng2 (fun e => ?_) fun n40 => hJ8 _ _ ?_
    · refine hJ4 _ _ (col true (w64 (w64 (16777216 + w64 (n - 10)) - 30)) ?_ (by omega) (by omega))
      unfold attrS
      rw [if_neg n0, if_neg n1, if_neg n22, if_neg n23, if_pos e]
      rfl
    refine joinP_of fun J9 hJ9 => ?_
    refine rng2 (fun e => ?_) fun n30 => hJ9 _ _ ?_
    · refine hJ4 _ _ (col false (w64 (w64 (16777216 + n) - 30)) ?_ (by omega) (by omega))
      unfold attrS
      rw [if_neg n0, if_neg n1, if_neg n22, if_neg n23, if_neg n40, if_pos e]
      rfl
    refine joinP_of fun J10 hJ10 => ?_
    refine rng2 (fun e => ?_) fun n100 => hJ10 _ _ ?_
    · refine hJ3 _ _ (col true (w64 (w64 (16777224 + w64 (n - 10)) - 90)) ?_ (by omega) (by omega))
      unfold attrS
      rw [if_neg n0, if_neg n1, if_neg n22, if_neg n23, if_neg n40, if_neg n30, if_pos e]
      rfl
    refine joinP_of fun J11 hJ11 => ?_
    refine rng2 (fun e => ?_) fun n90 => hJ11 _ _ ?_
    · refine hJ3 _ _ (col false (w64 (w64 (16777224 + n) - 90)) ?_ (by omega) (by omega))
      unfold attrS
      rw [if_neg n0, if_neg n1, if_neg n22, if_neg n23, if_neg n40, if_neg n30, if_neg n100, if_pos e]
      rfl
    refine cond_of (fun e => ?_) fun n39 => ?_
    · have e : n = 39 := eq_of_beq e
      refine col false 0 ?_ (by omega) (by omega)
      unfold attrS
      rw [if_neg n0, if_neg n1, if_neg n22, if_neg n23, if_neg n40, if_neg n30, if_neg n100, if_neg n90, if_pos e]
      rfl
    have n39 : ¬ n = 39 := beq_eq_false_iff_ne.1 n39
    refine cond_of (fun e => ?_) fun n49 => ?_
    · have e : n = 49 := eq_of_beq e
      refine col true 0 ?_ (by omega) (by omega)
      unfold attrS
      rw [if_neg n0, if_neg n1, if_neg n22, if_neg n23, if_neg n40, if_neg n30, if_neg n100, if_neg n90, if_neg n39, if_pos e]
      rfl
    have n49 : ¬ n = 49 := beq_eq_false_iff_ne.1 n49
    refine cond_of (fun e => ?_) fun n48 => ?_
    · exact hJ2 _ _ (farn true (eq_of_beq e))
    refine cond_of (fun e => ?_) fun n38 => ?_
    · exact hJ2 _ _ (farn false (eq_of_beq e))
    refine next a' w4 (fun _ _ => ?_) (beq_eq_false_iff_ne.1 n48) (beq_eq_false_iff_ne.1 n38) hA (Chg.refl _ _)
    unfold attrS
    rw [if_neg n0, if_neg n1, if_neg n22, if_neg n23, if_neg n40, if_neg n30, if_neg n100, if_neg n90, if_neg n39, if_neg n49]
end
end Go.Proofs.YtmoafafalnbkpaaGreatDoor

set_option linter.unusedVariables false
namespace Go.Proofs.YtmoafafalnbkpaaGreatDoor
open Go.Vc Go.RowKit
set_option maxRecDepth 400000
/-! ### Plain -/
namespace Sc
def modeP (S : Sc) (n : Int) (priv : Bool) : Bool × Bool :=
  if priv = false then (S.mode n, decide (n = 4 ∨ n = 20))
  else if n = 6 then (S.c.Origin, true)
  else if n = 47 ∨ n = 1047 ∨ n = 1049 then (S.alt, true)
  else if n = 1 ∨ n = 7 ∨ n = 25 ∨ n = 1000 ∨ n = 2004 then (S.pmode n, true)
  else (false, false)
def stateP (S : Sc) (n : Int) : Int := if (S.modeP n true).1 then 1 else if (S.modeP n true).2 then 2 else 0
def placeRow (S : Sc) : Int := if S.c.Origin then (if 0 > w64 (S.c.Row - S.top) then 0 else w64 (S.c.Row - S.top)) else S.c.Row
def placeP (S : Sc) : List UInt8 := Lib.itoa (w64 (S.placeRow + 1)) ++ [59] ++ Lib.itoa (w64 (S.c.Col + 1))
/-- What a sequence of one letter replies. -/
def bareR (S : Sc) (p : List Int) (c : Int) : List UInt8 :=
  let zero := paramP p 0 0
  if c = 110 then (if zero = 5 then [27, 91] ++ [48, 110] else if zero = 6 then [27, 91] ++ (S.placeP ++ [82]) else [])
  else if c = 99 then (if zero = 0 then [27, 91] ++ [63, 54, 50, 59, 52, 99] else [])
  else []
end Sc
def seqKey (p : Int) (inter : List UInt8) (b : Int) : List UInt8 := ((Utf8.encode p).data.toList ++ inter) ++ (Utf8.encode b).data.toList
structure Ev where
  Kind : Int
  R : Int
  B : Int
  Private : Int
  Inter : List UInt8
  Params : List Int
namespace Sc
def tailR (S : Sc) (e : Ev) : List UInt8 := if e.Private ≠ 0 ∨ e.Inter ≠ [] then [] else S.bareR e.Params e.B
def tailS (S : Sc) (e : Ev) : Sc := if e.Private ≠ 0 ∨ e.Inter ≠ [] then S else S.bare (applyP S.c.A e.Params) e.Params e.B
def seqR (S : Sc) (e : Ev) : List UInt8 :=
  let k := seqKey e.Private e.Inter e.B
  let n := paramP e.Params 0 0
  if k = [0, 33, 112] then S.soft.tailR e
  else if k = [63, 104] ∨ k = [63, 108] then (S.turns (e.B == 104) e.Params).tailR e
  else if k = [63, 110] ∧ n = 6 then [27, 91] ++ (([63] ++ S.placeP) ++ [82])
  else if k = [62, 99] ∧ n = 0 then [27, 91] ++ [62, 49, 59, 49, 59, 48, 99]
  else if k = [63, 36, 112] then [27, 91] ++ (((([63] ++ Lib.itoa n) ++ [59]) ++ Lib.itoa (S.stateP n)) ++ [36, 121])
  else S.tailR e
/-- What a sequence makes of the screen. -/
def seqS (S : Sc) (e : Ev) : Sc :=
  let k := seqKey e.Private e.Inter e.B
  let n := paramP e.Params 0 0
  if k = [0, 33, 112] then S.soft.tailS e
  else if k = [63, 104] ∨ k = [63, 108] then (S.turns (e.B == 104) e.Params).tailS e
  else if k = [63, 110] ∧ n = 6 then S
  else if k = [62, 99] ∧ n = 0 then S
  else if k = [63, 36, 112] then S
  else S.tailS e
def doR (S : Sc) (e : Ev) : List UInt8 := if e.Kind = 1 ∨ e.Kind = 2 ∨ e.Kind = 3 then [] else if e.Kind = 4 then S.seqR e else []
def doS (S : Sc) (e : Ev) : Sc :=
  if e.Kind = 1 then S.print e.R
  else if e.Kind = 2 then S.control e.B
  else if e.Kind = 3 then S.escape e.Inter e.B
  else if e.Kind = 4 then S.seqS e
  else S
end Sc
section
variable {w w' : World} {base g : Nat} {F F' : ScF} {S S' : Sc} {p : Slc} {ps : List Int}
theorem Tab.below (h : Tab w) (hB : Below 1 w w') : Tab w' := var?_below (g := 0) hB (by kernel_rfl) (by decide) h
theorem Tab.step (h : Tab w) (hM : ScM w base g F S) (hb : 1 ≤ base) (hT : ScT base g w F F' S' w') : Tab w' := by
  refine h.below (hT.chg.below (B := 1) ?_ fun i hi hs => ?_)
  · have := hM.base_le; omega
  · have := (hM.below i hs).1; omega
/-! ### Mode, place -/
theorem Mode_spec (h : ScM w base g F S) {n : Int} {priv : Bool} {K : Bool → Bool → World → Prop} (hK : K (S.modeP n priv).1 (S.modeP n priv).2 w) : c_screen_Screen_Mode (some ⟨g, 0, none⟩) n priv w K := by
  refine call_screen_Screen_Mode _ _ _ ?_
  unfold sh_screen_Screen_Mode
  simp only [onPtr_some]
  unfold Sc.modeP at hK
  cases priv
  · rw [if_pos rfl] at hK
    refine cond_t rfl (ldM_of (x := some F.mm) (by rw [add_mk]; exact h.blk.cell 35 rfl) (look_spec h.mo ?_))
    refine cond_of (fun e => ?_) fun e => ?_
    · have e : n = 4 := eq_of_beq e
      rw [decide_eq_true (.inl e)] at hK
      exact hK
    · have e : ¬ n = 4 := beq_eq_false_iff_ne.1 e
      have e2 : (n == 20) = decide (n = 4 ∨ n = 20) := by
        by_cases e3 : n = 20
        · rw [decide_eq_true (.inr e3)]; exact beq_iff_eq.2 e3
        · rw [decide_eq_false (fun hh => hh.elim e e3)]; exact beq_eq_false_iff_ne.2 e3
      rw [e2]
      exact hK
  · rw [if_neg (by decide)] at hK
    refine cond_f rfl ?_
    refine cond_of (fun e => ?_) fun e => ?_
    · rw [if_pos (eq_of_beq e)] at hK
      exact h.ldOrg hK
    rw [if_neg (beq_eq_false_iff_ne.1 e)] at hK
    refine or3 (fun e => cond_t rfl ?_) fun e => cond_f rfl ?_
    · rw [if_pos e] at hK
      exact Alt_spec h hK
    rw [if_neg e] at hK
    refine or5 (fun e => cond_t rfl ?_) fun e => cond_f rfl ?_
    · rw [if_pos e] at hK
      exact ldM_of (x := some F.mp) (by rw [add_mk]; exact h.blk.cell 36 rfl) (look_spec h.pr hK)
    · rw [if_neg e] at hK
      exact hK
theorem state_spec (h : ScM w base g F S) {n : Int} {K : Int → World → Prop} (hK : K (S.stateP n) w) : c_screen_Screen_state (some ⟨g, 0, none⟩) n w K := by
  refine call_screen_Screen_state _ _ ?_
  unfold sh_screen_Screen_state
  unfold Sc.stateP at hK
  refine Mode_spec h ?_
  refine cond_of (fun e => ?_) fun e => ?_
  · rw [if_pos e] at hK; exact hK
  rw [if_neg (by rw [e]; decide)] at hK
  refine cond_of (fun e => ?_) fun e => ?_
  · rw [if_pos e] at hK; exact hK
  · rw [if_neg (by rw [e]; decide)] at hK; exact hK
theorem place_spec (h : ScM w base g F S) (hT : Tab w) {K : ByteArray → World → Prop} (hK : ∀ w', Below w.heap.size w w' → S.placeP.length ≤ 50 → K (strB S.placeP) w') : c_screen_Screen_place (some ⟨g, 0, none⟩) w K := by
  refine call_screen_Screen_place _ ?_
  unfold sh_screen_Screen_place
  simp only [onPtr_some]
  refine h.ldRow (joinP_of fun J1 hJ1 => ?_)
  have key : J1 (S.placeRow, ()) w := by
    refine hJ1 _ _ ?_
    have hd := (ScT.refl h).drew
    refine hd.m.ldCol ?_
    refine Itoa_spec (hT.ext (below_drew w)) (ScM.w64n _).1 (ScM.w64n _).2 fun w2 hB2 => ?_
    have h2 := hd.ext hB2
    have B2 := below_t (below_drew w) hB2
    have l1 := itoa_len (ScM.w64n (S.placeRow + 1)).1 (ScM.w64n (S.placeRow + 1)).2
    have l2 := itoa_len (ScM.w64n (S.c.Col + 1)).1 (ScM.w64n (S.c.Col + 1)).2
    have e59 : (⟨#[59]⟩ : ByteArray) = strB [59] := rfl
    show _ ∧ (((strB (Lib.itoa (w64 (S.placeRow + 1)))).size + _ : Nat) : Int) ≤ _ ∧ _
    refine ⟨h2.m.cCol, ?_, ?_⟩
    · rw [e59, strB_size, strB_size]
      simp only [List.length_cons, List.length_nil]
      omega
    refine Itoa_spec ((hT.ext (below_drew w)).ext hB2) (ScM.w64n _).1 (ScM.w64n _).2 fun w3 hB3 => ?_
    rw [e59, strB_app]
    have B3 := below_t B2 hB3
    show (((strB (Lib.itoa (w64 (S.placeRow + 1)) ++ [59])).size + (strB (Lib.itoa (w64 (S.c.Col + 1)))).size : Nat) : Int) ≤ _ ∧ K (strB (Lib.itoa (w64 (S.placeRow + 1)) ++ [59]) ++ strB (Lib.itoa (w64 (S.c.Col + 1)))) w3
    rw [strB_app]
    refine ⟨?_, hK w3 B3 ?_⟩
    · rw [strB_size, strB_size, List.length_append]
      simp only [List.length_cons, List.length_nil]
      omega
    · unfold Sc.placeP
      rw [List.length_append, List.length_append]
      simp only [List.length_cons, List.length_nil]
      omega
  unfold Sc.placeRow at key
  refine h.ldOrg (cond_of (fun e => ?_) fun e => ?_)
  · rw [if_pos e] at key
    exact h.ldTop key
  · rw [if_neg (by rw [e]; decide)] at key
    exact key
theorem reply_spec {bs : List UInt8} (hl : bs.length ≤ 1000) {K : Slc → World → Prop} (hK : ∀ q w', Rd E_uint8 w' q ([27, 91] ++ bs) → Below w.heap.size w w' → K q w') : c_screen_reply (strB bs) w K := by
  refine call_screen_reply _ ?_
  unfold sh_screen_reply
  have e : (⟨#[27, 91]⟩ : ByteArray) = strB [27, 91] := rfl
  rw [e, strB_app, strB_size, strB_size]
  refine ⟨by simp only [List.length_cons, List.length_nil]; omega, ?_⟩
  exact toBytes_spec (by simp only [List.length_append, List.length_cons, List.length_nil]; omega) fun q w' hq _ hB _ => hK q w' hq hB
/-! ### bare -/
theorem modes1_snoc (S : Sc) (b : Bool) (l : List Int) (n : Int) : S.modes1 b (l ++ [n]) = (if n = 4 ∨ n = 20 then { S.modes1 b l with modes := putL' (S.modes1 b l).modes n b } else S.modes1 b l) := by
  unfold Sc.modes1
  rw [List.foldl_append]
  rfl
theorem modes_loop (h : ScM w base g F S) (hp : ParM w g F p ps) {on : Bool} {K : Slc → World → Prop} (hK : ∀ F' w', ScT base g w F F' (S.modes1 on ps) w' → K ⟨none, 0, 0⟩ w') :
    loopP (σ := Int × Unit) (fun I5 s_5 w31 =>
      cond (decide (s_5.1 < ((p.n : Nat) : Int)))
        (ixK p s_5.1 1 fun t85 =>
         ldI .i64 t85 w31 fun t86 =>
         joinP (σ := Bool × Unit) (fun s_6 w32 =>
           cond s_6.1
             (ldM ((⟨g, 0, none⟩ : Addr).add 35) w32 fun t96 =>
              runU PG (Instr.mapUpdate ty_map_int_bool (.map t96) (.int .i64 t86) (.bool on)) w32 fun _ w33 =>
              I5 ((IntKind.i64.wrap (s_5.1 + (1 : Int))), ()) w33)
             (I5 ((IntKind.i64.wrap (s_5.1 + (1 : Int))), ()) w32)) fun J6 =>
         cond (t86 == (4 : Int))
           (J6 (true, ()) w31)
           (J6 ((t86 == (20 : Int)), ()) w31))
        (K (⟨none, 0, 0⟩ : Slc) w31)) (0, ()) w := by
  have hn := hp.rd.n
  have hlen := hp.len
  refine loopP_rule (fun (st : Int × Unit) w2 => ∃ (k : Nat) (F2 : ScF), st.1 = (k : Int) ∧ k ≤ ps.length ∧ ScT base g w F F2 (S.modes1 on (ps.take k)) w2) (fun st => ps.length - st.1.toNat) ⟨0, F, rfl, by omega, by rw [List.take_zero]; exact ScT.refl h⟩ ?_
  rintro ⟨i, u⟩ w2 ⟨k, F2, hi, hk, hT2⟩ I hI
  dsimp only at hi ⊢
  subst hi
  refine cond_of (fun e => ?_) fun e => ?_
  · have e := of_decide_eq_true e
    have hkl : k < ps.length := by omega
    have hp2 := hp.step hT2
    refine ldP_at hp2.rd (i := k) hkl ?_
    obtain ⟨x, hx⟩ : ∃ x, x = ps.getD k 0 := ⟨_, rfl⟩
    rw [← hx]
    have hxk : ps[k] = x := by rw [hx, List.getD_eq_getElem?_getD, List.getElem?_eq_getElem hkl]; rfl
    have hsn := modes1_snoc S on (ps.take k) x
    rw [← hxk, ← List.take_succ_eq_append_getElem hkl, hxk] at hsn
    have hxr : in64 x := by rw [← hxk]; exact hp.rng _ (List.getElem_mem hkl)
    rw [wrap64_id (x := (k : Int) + 1) (by omega)]
    refine or2' (fun e => cond_t rfl ?_) fun e => cond_f rfl ?_
    · rw [if_pos e] at hsn
      refine ldM_of (x := some F2.mm) (by rw [add_mk]; exact hT2.m.blk.cell 35 rfl) (hT2.m.setMo hxr fun w3 hT3 => ?_)
      refine hI _ _ ⟨k + 1, F2, by simp, by omega, ?_⟩ (by dsimp only; omega)
      rw [hsn]
      exact hT2.trans hT3
    · rw [if_neg e] at hsn
      refine hI _ _ ⟨k + 1, F2, by simp, by omega, ?_⟩ (by dsimp only; omega)
      rw [hsn]
      exact hT2
  · have e := of_decide_eq_false e
    have hkr : k = ps.length := by omega
    subst hkr
    rw [List.take_length] at hT2
    exact hK _ _ hT2
theorem ScOk.setA (h : ScOk S) (a : Attr) : ScOk { S with c := { S.c with A := a } } := h.cur h.rowg h.colg h.shift
/-- Lines scrolled, and the cursor no longer about to wrap. -/
theorem roll_spec (h : ScM w base g F S) {n : Int} (hn : in64 n) {K : Slc → World → Prop} (hK : ∀ F' w', ScT base g w F F' (S.scroll S.top S.past n).dry w' → K ⟨none, 0, 0⟩ w') :
    ldI .i64 ((⟨g, 0, none⟩ : Addr).add 37) w.drew fun t145 => ldI .i64 ((⟨g, 0, none⟩ : Addr).add 38) w.drew fun t149 =>
    c_screen_Screen_g (some ⟨g, 0, none⟩) w.drew fun t141 w4 =>
    World.cell? w4 ((⟨g, 0, none⟩ : Addr).add 38) = some (.int .i64 t149) ∧
    World.cell? w4 ((⟨g, 0, none⟩ : Addr).add 37) = some (.int .i64 t145) ∧
    c_screen_Screen_blank (some ⟨g, 0, none⟩) w4 fun t153 w5 =>
    World.cell? w5 ((⟨g, 0, none⟩ : Addr).add 38) = some (.int .i64 t149) ∧
    World.cell? w5 ((⟨g, 0, none⟩ : Addr).add 37) = some (.int .i64 t145) ∧
    c_grid_Grid_Scroll t141 t145 t149 n t153 w5 fun t154 w6 =>
    stK (((⟨g, 0, none⟩ : Addr).add 3).add 2) [(.bool false)] w6 fun w7 =>
    K (⟨none, 0, 0⟩ : Slc) w7 := by
  have hd := (ScT.refl h).drew
  refine hd.m.ldTop (hd.m.ldPast ?_)
  refine scrolls hd.m rfl rfl hn fun v F6 w6 hT6 => ?_
  exact hT6.m.stDry fun w7 hT7 => hK _ _ ((hd.trans hT6).trans hT7)
theorem bare_spec (h : ScM w base g F S) (hp : ParM w g F p ps) (hT : Tab w) {c : Int} (ha : S.areas.length ≤ 800000000) {K : Slc → World → Prop}
    (hK : ∀ q F' w', Rd E_uint8 w' q (S.bareR ps c) → ScT base g w F F' (S.bare (applyP S.c.A ps) ps c) w' → K q w') : c_screen_Screen_bare (some ⟨g, 0, none⟩) p c w K := by
  refine call_screen_Screen_bare _ _ _ ?_
  unfold sh_screen_Screen_bare
  refine param_spec (i := 0) hp (param_spec (i := 0) hp ?_)
  simp only [onPtr_some]
  obtain ⟨n, hn⟩ : ∃ n, n = paramP ps 0 1 := ⟨_, rfl⟩
  obtain ⟨z, hz⟩ : ∃ z, z = paramP ps 0 0 := ⟨_, rfl⟩
  have hni : in64 n := by rw [hn]; exact param_in hp 0 (by unfold in64; omega)
  have hzi : in64 z := by rw [hz]; exact param_in hp 0 (by unfold in64; omega)
  unfold Sc.bareR Sc.bare at hK
  dsimp only at hK
  rw [← hn, ← hz] at hK ⊢
  refine joinP_of fun J1 hJ1 => ?_
  have no : ∀ {F' S' w'}, (∀ q F' w', Rd E_uint8 w' q [] → ScT base g w F F' S' w' → K q w') → ScT base g w F F' S' w' → K ⟨none, 0, 0⟩ w' := fun hK hT => hK _ _ _ (Rd.nil _ _) hT
  refine cond_of (fun e => ?_) fun c110 => ?_
  · have e : c = 110 := eq_of_beq e
    simp only [if_pos e, if_pos (Or.inl e : c = 110 ∨ c = 99)] at hK
    refine cond_of (fun e => ?_) fun e5 => ?_
    · rw [if_pos (eq_of_beq e)] at hK
      exact reply_spec (bs := [48, 110]) (by decide) fun q w1 hq hB1 => hK q F w1 hq (ScT.of_ext h hB1)
    rw [if_neg (beq_eq_false_iff_ne.1 e5)] at hK
    refine cond_of (fun e => ?_) fun e6 => ?_
    · rw [if_pos (eq_of_beq e)] at hK
      refine place_spec h hT fun w1 hB1 hpl => ?_
      have e82 : (⟨#[82]⟩ : ByteArray) = strB [82] := rfl
      rw [e82, strB_app, strB_size, strB_size]
      refine ⟨by simp only [List.length_cons, List.length_nil]; omega, ?_⟩
      exact reply_spec (by simp only [List.length_append, List.length_cons, List.length_nil]; omega) fun q w2 hq hB2 => hK q F w2 hq (ScT.of_ext h (below_t hB1 hB2))
    · rw [if_neg (beq_eq_false_iff_ne.1 e6)] at hK
      exact no hK (ScT.refl h)
  have c110 : ¬ c = 110 := beq_eq_false_iff_ne.1 c110
  rw [if_neg c110] at hK
  refine cond_of (fun e => ?_) fun c99 => ?_
  · have e : c = 99 := eq_of_beq e
    simp only [if_pos e, if_pos (Or.inr e : c = 110 ∨ c = 99)] at hK
    refine cond_of (fun e => ?_) fun e5 => ?_
    · rw [if_pos (eq_of_beq e)] at hK
      exact reply_spec (bs := [63, 54, 50, 59, 52, 99]) (by decide) fun q w1 hq hB1 => hK q F w1 hq (ScT.of_ext h hB1)
    · rw [if_neg (beq_eq_false_iff_ne.1 e5)] at hK
      exact no hK (ScT.refl h)
  have c99 : ¬ c = 99 := beq_eq_false_iff_ne.1 c99
  rw [if_neg c99] at hK
  simp only [if_neg (fun hh => hh.elim c110 c99 : ¬ (c = 110 ∨ c = 99))] at hK
  have hK : ∀ F' w', ScT base g w F F' _ w' → K ⟨none, 0, 0⟩ w' := fun F' w' hT => no hK hT
  refine cond_of (fun e => ?_) fun e => ?_
  · rw [if_pos (eq_of_beq e)] at hK
    refine ldS_of (r := T_api_Attr.rep) (x := S.c.A) (attr_cells h) ?_
    refine Apply_spec hp.rd fun w1 hB1 => ?_
    have h1 := ScT.of_ext h hB1
    simp only [add_mk]
    refine stK_blk h1.m.blk (by simp [T_screen_Screen.rep, T_api_Attr.rep]) fun w2 hb2 hg2 hs2 => ?_
    exact hK _ _ (h1.trans (ScT.mk_struct h1.m (Chg.gg hg2) (S' := { S with c := { S.c with A := applyP S.c.A ps } }) hb2 rfl rfl rfl rfl rfl rfl (h.ok.setA _)))
  rw [if_neg (beq_eq_false_iff_ne.1 e)] at hK
  refine cond_of (fun e => ?_) fun e => ?_
  · rw [if_pos (eq_of_beq e)] at hK
    exact margins_spec h hp fun w1 hT1 => hK _ _ hT1
  rw [if_neg (beq_eq_false_iff_ne.1 e)] at hK
  refine cond_of (fun e => ?_) fun e => ?_
  · rw [if_pos (eq_of_beq e)] at hK
    exact save_spec h fun w1 hT1 => hK _ _ hT1
  rw [if_neg (beq_eq_false_iff_ne.1 e)] at hK
  refine cond_of (fun e => ?_) fun e => ?_
  · rw [if_pos (eq_of_beq e)] at hK
    exact restore_spec h fun w1 hT1 => hK _ _ hT1
  rw [if_neg (beq_eq_false_iff_ne.1 e)] at hK
  refine joinP_of fun J2 hJ2 => ?_
  refine cond_of (fun e => ?_) fun c104 => ?_
  · refine cond_t e ?_
    rw [if_pos (.inl (eq_of_beq e))] at hK
    have ed : decide (c = 104) = (c == 104) := by rw [e, decide_eq_true (eq_of_beq e)]
    rw [ed] at hK
    exact modes_loop h hp hK
  refine cond_of (fun e => ?_) fun c108 => ?_
  · rw [if_pos (.inr (eq_of_beq e))] at hK
    have ed : decide (c = 104) = (c == 104) := by rw [c104, decide_eq_false (beq_eq_false_iff_ne.1 c104)]
    rw [ed] at hK
    exact modes_loop h hp hK
  rw [if_neg (fun hh => hh.elim (beq_eq_false_iff_ne.1 c104) (beq_eq_false_iff_ne.1 c108))] at hK
  refine hJ2 _ _ ?_
  have hd := (ScT.refl h).drew
  refine cond_of (fun e => ?_) fun e => ?_
  · rw [if_pos (eq_of_beq e)] at hK
    refine cond_of (fun e => ?_) fun e => ?_
    · rw [if_pos (eq_of_beq e)] at hK
      refine hd.m.ldStops (hd.m.ldCol ?_)
      exact tClear_spec hd.m.st _ fun w2 hst hc hs => hK _ _ (hd.trans (hd.m.setSt (setB_length _ _ _) hst hc))
    rw [if_neg (beq_eq_false_iff_ne.1 e)] at hK
    refine cond_of (fun e => ?_) fun e => ?_
    · rw [if_pos (eq_of_beq e)] at hK
      refine h.ldStops ?_
      exact tNone_spec h.st fun w2 hst hc hs => hK _ _ (h.setSt (by simp) hst hc)
    · rw [if_neg (beq_eq_false_iff_ne.1 e)] at hK
      exact hK _ _ (ScT.refl h)
  rw [if_neg (beq_eq_false_iff_ne.1 e)] at hK
  refine cond_of (fun e => ?_) fun e => ?_
  · rw [if_pos (eq_of_beq e)] at hK
    exact again_spec h hK
  rw [if_neg (beq_eq_false_iff_ne.1 e)] at hK
  refine cond_of (fun e => ?_) fun e => ?_
  · rw [if_pos (eq_of_beq e)] at hK
    exact display_spec h (by omega) hK
  rw [if_neg (beq_eq_false_iff_ne.1 e)] at hK
  refine cond_of (fun e => ?_) fun e => ?_
  · rw [if_pos (eq_of_beq e)] at hK
    exact inLine_spec h (by omega) hK
  rw [if_neg (beq_eq_false_iff_ne.1 e)] at hK
  refine joinP_of fun J3 hJ3 => ?_
  refine cond_of (fun e => ?_) fun e64 => ?_
  · rw [if_pos (.inl (eq_of_beq e))] at hK
    exact cond_t e (cells_spec h (by omega) hK)
  refine cond_of (fun e => ?_) fun e80 => ?_
  · rw [if_pos (.inr (.inl (eq_of_beq e)))] at hK
    exact cond_t e (cells_spec h (by omega) hK)
  refine cond_of (fun e => ?_) fun e88 => ?_
  · rw [if_pos (.inr (.inr (eq_of_beq e)))] at hK
    exact cells_spec h (by omega) hK
  rw [if_neg (fun hh => by rcases hh with hh | hh | hh; exact beq_eq_false_iff_ne.1 e64 hh; exact beq_eq_false_iff_ne.1 e80 hh; exact beq_eq_false_iff_ne.1 e88 hh)] at hK
  refine hJ3 _ _ (joinP_of fun J4 hJ4 => ?_)
  refine cond_of (fun e => ?_) fun e76 => ?_
  · rw [if_pos (.inl (eq_of_beq e))] at hK
    exact cond_t e (lines_spec h hni hK)
  refine cond_of (fun e => ?_) fun e77 => ?_
  · rw [if_pos (.inr (eq_of_beq e))] at hK
    exact lines_spec h hni hK
  rw [if_neg (fun hh => hh.elim (beq_eq_false_iff_ne.1 e76) (beq_eq_false_iff_ne.1 e77))] at hK
  refine hJ4 _ _ ?_
  refine cond_of (fun e => ?_) fun e => ?_
  · rw [if_pos (eq_of_beq e)] at hK
    exact hJ1 _ _ (roll_spec h (ScM.w64n _) hK)
  rw [if_neg (beq_eq_false_iff_ne.1 e)] at hK
  refine cond_of (fun e => ?_) fun e => ?_
  · rw [if_pos (eq_of_beq e)] at hK
    exact hJ1 _ _ (roll_spec h (ScM.w64n _) hK)
  · rw [if_neg (beq_eq_false_iff_ne.1 e)] at hK
    exact move_spec h hp hni fun w1 hT1 => hK _ _ hT1
end
end Go.Proofs.YtmoafafalnbkpaaGreatDoor

set_option linter.unusedVariables false
namespace Go.Proofs.YtmoafafalnbkpaaGreatDoor
open Go.Vc Go.RowKit
set_option maxRecDepth 400000
theorem cloneS_spec {s : Slc} {xs : List Slc} {w : World} {K : Slc → World → Prop} (h : Rd slE w s xs) (hl : xs.length ≤ 1000000)
    (hK : ∀ r w', Go.Vc.Own slE w' w.heap.size r xs → Below w.heap.size w w' → K r w') : c_slices_Clone_line_Line_line_Line s w K := by
  refine call_slices_Clone_line_Line_line_Line _ ?_
  unfold sh_slices_Clone_line_Line_line_Line
  refine cond_of (fun e => ?_) (fun e => ?_)
  · have : s.a = none := by cases ha : s.a with
      | none => rfl
      | some a => rw [ha] at e; cases e
    rw [h.none_nil this] at hK
    exact hK _ _ (Go.Vc.Own.nil _ _ _) (Below.refl _ _)
  · refine nw_blk fun w1 hb1 hB1 hs1 => ?_
    refine apK_own slT116 (own_empty (E := slE) hb1 (Nat.le_refl _)) (h.ext hB1) (by omega) (by rw [by116]; simp; omega) (by simp [maxLen]; omega) fun r w2 ho2 hg2 hr2 => ?_
    exact hK r w2 (by simpa using ho2) (hB1.grown hg2 (by omega) fun g hg => by cases hg; exact Nat.le_refl _)
section
variable {w w' : World} {base g : Nat} {F F' : ScF} {S S' : Sc} {p : Slc} {ps : List Int} {f : Foot} {G : GS}
theorem gTwin_spec {K : Option Addr → World → Prop} (h : GridM w base f G) (hL : G.L.length ≤ 1000) (hm : G.most ≤ 100000) (hb : base ≤ w.heap.size)
    (hK : ∀ f' w', GridM w' base f' G → (∀ k, gridS f' k → w.heap.size ≤ k) → Below w.heap.size w w' → K (some ⟨f'.g, 0, none⟩) w') : c_grid_Grid_Twin (some ⟨f.g, 0, none⟩) w K := by
  refine call_grid_Grid_Twin _ ?_
  unfold sh_grid_Grid_Twin
  simp only [onPtr_some]
  obtain ⟨ls, ho, hl⟩ := h.row
  have hll := hl.1
  refine ldS_of (r := T_grid_Grid.rep) (x := ⟨some ⟨f.r, 0, none⟩, G.rows, G.cols, f.ls, G.top⟩) h.blk.cells ?_
  refine nw_blk fun w1 hx1 hB1 hs1 => all_of hx1 rfl fun w2 hx2 hc2 hs2 => ?_
  have hB2 : Below w.heap.size w w2 := below_one hB1 hc2 (Nat.le_refl _)
  have h2 := h.ext hB2
  refine ldP_of (x := some ⟨f.r, 0, none⟩) (by rw [add_mk]; exact h2.blk.cell 0 rfl) ?_
  obtain ⟨at_, gone, rls, xss, hrb0, hro0, hrl, hbr, eold, hmost, hat⟩ := h.ring
  have hrb := hrb0.ext hB2
  have hro := hro0.ext hB2
  -- the ring's twin
  refine call_ring_Ring_line_Line_Twin _ ?_
  unfold sh_ring_Ring_line_Line_Twin
  simp only [onPtr_some]
  refine ldS_of (r := T_ring_Ring_phosphor_line_Line.rep) (x := ⟨G.most, f.rs, at_, gone⟩) hrb.cells ?_
  refine nw_blk fun w3 hy3 hB3 hs3 => all_of hy3 rfl fun w4 hy4 hc4 hs4 => ?_
  have hB4' : Below w2.heap.size w2 w4 := below_one hB3 hc4 (Nat.le_refl _)
  have hrb4 := hrb.ext hB4'
  refine ldSl_of (x := f.rs) (by rw [add_mk]; exact hrb4.cell 1 rfl) ?_
  have hro4 := hro.ext hB4'
  have hrll := hrl.1
  refine cloneS_spec hro4.rd (by omega) fun q w5 hq5 hB5 => ?_
  have hy5 := hy4.ext hB5
  simp only [add_mk]
  refine stK_blk hy5 (by simp [T_ring_Ring_phosphor_line_Line.rep]) fun w6 hy6 hg6 hs6 => ?_
  have z1 := hB1.size
  have z5 := hB5.size
  have hx4 := hx2.ext hB4'
  have hx5 := hx4.ext hB5
  have hx6 := hx5.chg (Chg.gg hg6) (by omega)
  have hB6 : Below w2.heap.size w2 w6 := below_one (below_t hB4' hB5) (Chg.gg hg6) (Nat.le_refl _)
  have hq6 := hq5.chg (Chg.gg hg6) fun k hk e => by have := (hq5.lt k hk).1; omega
  refine stK_blk hx6 (by simp [T_grid_Grid.rep]) fun w7 hx7 hg7 hs7 => ?_
  have c7 : Chg (fun k => k = w.heap.size) w6 w7 := Chg.gg hg7
  have hy7 := hy6.chg c7 (by omega)
  have hq7 := hq6.chg c7 fun k hk e => by have := (hq6.lt k hk).1; omega
  have hB7 : Below w.heap.size w w7 := below_one (below_t hB2 hB6) c7 (Nat.le_refl _)
  have h7 := h.ext hB7
  refine ldSl_of (x := f.ls) (h7.blk.cell 3 rfl) ?_
  have ho7 := ho.ext hB7
  refine cloneS_spec ho7.rd (by omega) fun t w8 ht8 hB8 => ?_
  have hx8 := hx7.ext hB8
  refine stK_blk hx8 (by simp [T_grid_Grid.rep, putL]) fun w9 hx9 hg9 hs9 => ?_
  have c9 : Chg (fun k => k = w.heap.size) w8 w9 := Chg.gg hg9
  have z8 := hB8.size
  have z7 := hB7.size
  have hy9 := (hy7.ext hB8).chg c9 (by omega)
  have hq9 := (hq7.ext hB8).chg c9 fun k hk e => by have := (hq7.lt k hk).1; omega
  have ht9 := ht8.chg c9 fun k hk e => by have := (ht8.lt k hk).1; omega
  have hB9 : Below w.heap.size w w9 := below_one (below_t hB7 hB8) c9 (Nat.le_refl _)
  have hl9 := hl.ext hB9
  have hrl9 := hrl.ext hB9
  have z6 := hB6.size
  have z2 := hB2.size
  refine hK ⟨w.heap.size, w2.heap.size, t, q⟩ w9 ⟨hx9, hb, ⟨ls, ht9.base (by omega), hl9⟩, ⟨at_, gone, rls, xss, hy9, hq9.base (by omega), hrl9, by show base ≤ w2.heap.size; omega, eold, hmost, hat⟩, fun k hk hk' => ?_⟩ ?_ hB9
  · have h1 := (ht8.lt k hk).1
    have h2 := (hq7.lt k hk').2
    omega
  · rintro k (rfl | rfl | hk | hk)
    · exact Nat.le_refl _
    · show w.heap.size ≤ w2.heap.size
      omega
    · have := (ht8.lt k hk).1
      omega
    · have := (hq5.lt k hk).1
      have := hB4'.size
      omega
theorem Grid_spec (h : ScM w base g F S) {K : Option Addr → World → Prop} (hK : ∀ f' w', GridM w' base f' S.g → (∀ k, gridS f' k → w.heap.size ≤ k) → ScM w' base g F S → Below w.heap.size w w' → K (some ⟨f'.g, 0, none⟩) w') : c_screen_Screen_Grid (some ⟨g, 0, none⟩) w K := by
  refine call_screen_Screen_Grid _ ?_
  unfold sh_screen_Screen_Grid
  refine sg_spec h ?_
  have hd := h.drew
  have hG := h.gOk
  refine gTwin_spec hd.gM (by rw [hG.len]; exact hG.rows.2) (by have := hG.most; omega) hd.base_le fun f' w' hg hf hB => ?_
  exact hK f' w' hg hf (hd.ext hB) (below_t (below_drew w) hB)
/-! ### sequence, Do -/
theorem encode_run {n : Int} {K : ByteArray → World → Prop} (hK : K (strB (Utf8.encode n).data.toList) w) : runK1 PG (convert ty_uint8 ty_string (.int .u8 n)) Kind.string w K := by
  rw [strB_eta] at hK
  exact ⟨_, w, run_convert_int_string w ty_uint8 ty_string .u8 n (by kernel_rfl) (by kernel_rfl), hK⟩
theorem encode_len (n : Int) (h : 0 ≤ n ∧ n ≤ 255) : (Utf8.encode n).data.toList.length ≤ 4 := by
  have hv : Utf8.valid n = true := by
    unfold Utf8.valid
    simp
    omega
  by_cases h2 : n < 128
  · unfold Utf8.encode
    simp only [hv, if_true]
    rw [if_pos (by omega)]
    simp
  · have := (encode_facts n hv (by omega)).2.1
    simpa using this
theorem turns_loop (h : ScM w base g F S) (hp : ParM w g F p ps) {be : Nat} {B : Int} {on : Bool} (hon : on = (B == 104)) (hbe : ¬ scS g F be) (hb : w.cell? ⟨be, 2, none⟩ = some (.int .u8 B)) (ha : S.areas.length + ps.length ≤ 900000000) {K : World → Prop} (hK : ∀ F' w', ScT base g w F F' (S.turns on ps) w' → K w') :
    loopP (σ := Int × Unit) (fun I4 s_4 w10 =>
            cond (decide (s_4.1 < ((p.n : Nat) : Int)))
              (ixK p s_4.1 1 fun t35 =>
               ldI .i64 t35 w10 fun t36 =>
               ldI .u8 ((⟨be, 0, none⟩ : Addr).add 2) w10 fun t40 =>
               c_screen_Screen_turn (some ⟨g, 0, none⟩) t36 (t40 == (104 : Int)) w10 fun w11 =>
               I4 ((IntKind.i64.wrap (s_4.1 + (1 : Int))), ()) w11)
              (K w10)) (0, ()) w := by
  subst hon
  have hn := hp.rd.n
  have hlen := hp.len
  refine loopP_rule (fun (st : Int × Unit) w2 => ∃ (k : Nat) (F2 : ScF), st.1 = (k : Int) ∧ k ≤ ps.length ∧ ScT base g w F F2 (S.turns (B == 104) (ps.take k)) w2) (fun st => ps.length - st.1.toNat) ⟨0, F, rfl, by omega, by rw [List.take_zero]; exact ScT.refl h⟩ ?_
  rintro ⟨i, u⟩ w2 ⟨k, F2, hi, hk, hT2⟩ I hI
  dsimp only at hi ⊢
  subst hi
  refine cond_of (fun e => ?_) fun e => ?_
  · have e := of_decide_eq_true e
    have hkl : k < ps.length := by omega
    have hp2 := hp.step hT2
    refine ldP_at hp2.rd (i := k) hkl ?_
    obtain ⟨x, hx⟩ : ∃ x, x = ps.getD k 0 := ⟨_, rfl⟩
    rw [← hx]
    have hxk : ps[k] = x := by rw [hx, List.getD_eq_getElem?_getD, List.getElem?_eq_getElem hkl]; rfl
    have hsn := turns_snoc S (B == 104) (ps.take k) x
    rw [← hxk, ← List.take_succ_eq_append_getElem hkl, hxk] at hsn
    have hxr : in64 x := by rw [← hxk]; exact hp.rng _ (List.getElem_mem hkl)
    rw [wrap64_id (x := (k : Int) + 1) (by omega)]
    have hlt := World.block_lt_of_cell? w _ hb
    have hb2 : w2.cell? ⟨be, 2, none⟩ = some (.int .u8 B) := by
      rw [← hb]
      exact World.cell?_of_block (hT2.chg.block be hlt hbe)
    refine ldI_of (x := B) (by rw [add_mk]; exact hb2) ?_
    have har := turns_areas (B == 104) (ps.take k) S
    rw [List.length_take] at har
    refine turn_spec hT2.m hxr (by omega) fun F3 w3 hT3 => ?_
    refine hI _ _ ⟨k + 1, F3, by simp, by omega, ?_⟩ (by dsimp only; omega)
    rw [hsn]
    exact hT2.trans hT3
  · have e := of_decide_eq_false e
    have hkr : k = ps.length := by omega
    subst hkr
    rw [List.take_length] at hT2
    exact hK _ _ hT2
structure EvM (w : World) (g : Nat) (F : ScF) (e : T_parse_Event) (v : Ev) : Prop where
  k : e.Kind = v.Kind
  r : e.R = v.R
  b : e.B = v.B
  p : e.Private = v.Private
  i : e.Inter = strB v.Inter
  ps : ParM w g F e.Params v.Params
  br : 0 ≤ v.B ∧ v.B ≤ 255
  pr : 0 ≤ v.Private ∧ v.Private ≤ 255
  il : v.Inter.length ≤ 100000
theorem sequence_spec {e : T_parse_Event} {v : Ev} (h : ScM w base g F S) (hv : EvM w g F e v) (hT : Tab w) (h1b : 1 ≤ base) (ha : S.areas.length + v.Params.length ≤ 700000000) {K : Slc → World → Prop}
    (hK : ∀ q F' w', Rd E_uint8 w' q (S.seqR v) → ScT base g w F F' (S.seqS v) w' → K q w') : c_screen_Screen_sequence (some ⟨g, 0, none⟩) e w K := by
  refine call_screen_Screen_sequence _ _ ?_
  unfold sh_screen_Screen_sequence
  obtain ⟨ek, er, eb, ep, ei, epar, edat⟩ := e
  obtain ⟨h1, h2, h3, h4, h5, hp, hbr, hpr, hil⟩ := hv
  dsimp only at h1 h2 h3 h4 h5 hp
  subst h3 h4 h5
  refine nw_blk fun w1 hx1 hB1 hs1 => ?_
  have hT1 := (ScT.of_ext h hB1).drew
  have B1 := below_t hB1 (below_drew w1)
  have hp1 := hp.ext B1
  have t1 := hT.ext B1
  have hx := hx1.drew
  generalize w1.drew = w2 at hT1 B1 hp1 t1 hx ⊢
  have hxn : ¬ scS g F w.heap.size := fun hs => by have := (h.below _ hs).2; omega
  refine ldSl_of (x := epar) (by simpa using hx.cells 5 _ rfl) (ldSl_of (x := epar) (by simpa using hx.cells 5 _ rfl) ?_)
  refine param_spec (i := 0) hp1 ⟨by simpa using hx.cells 5 _ rfl, ?_⟩
  obtain ⟨n, hn⟩ : ∃ n, n = paramP v.Params 0 0 := ⟨_, rfl⟩
  have hni : in64 n := by rw [hn]; exact param_in hp 0 (by unfold in64; omega)
  rw [← hn]
  refine joinP_of fun J1 hJ1 => ?_
  -- the tail
  have tail : ∀ (S1 : Sc) F1 w3, ScT base g w2 F F1 S1 w3 → S1.areas.length ≤ 700000000 → (∀ q F' w', Rd E_uint8 w' q (S1.tailR v) → ScT base g w F F' (S1.tailS v) w' → K q w') → J1 () w3 := by
    intro S1 F1 w3 hT3 har hK
    refine hJ1 _ _ ?_
    have hx3 := hx.chg hT3.chg hxn
    have h3 := hT1.trans hT3
    unfold Sc.tailR Sc.tailS at hK
    refine joinP_of fun J2 hJ2 => ?_
    refine ldI_of (x := v.Private) (by simpa using hx3.cells 3 _ rfl) ?_
    refine cond_of (fun e => ?_) fun e => ?_
    · have e : v.Private ≠ 0 := by simpa using e
      rw [if_pos (.inl e), if_pos (.inl e)] at hK
      exact hK _ _ _ (Rd.nil _ _) h3
    have e : v.Private = 0 := by simpa using e
    refine ldStr_of (x := strB v.Inter) (by simpa using hx3.cells 4 _ rfl) ?_
    rw [strB_toList, show (⟨#[]⟩ : ByteArray).toList = [] by kernel_rfl]
    by_cases ei : v.Inter = []
    · refine cond_f (by rw [ei]; rfl) (hJ2 _ _ ?_)
      rw [if_neg (fun hh => hh.elim (fun h => h e) fun h => h ei), if_neg (fun hh => hh.elim (fun h => h e) fun h => h ei)] at hK
      refine ldI_of (x := v.B) (by simpa using hx3.cells 2 _ rfl) ?_
      have hp3 := hp1.step hT3
      exact bare_spec hT3.m hp3 (t1.step hT1.m h1b hT3) (by omega) fun q F4 w4 hq hT4 => hK q F4 w4 hq (h3.trans hT4)
    · have ein : (v.Inter == ([] : List UInt8)) = false := by rw [beq_eq_false_iff_ne]; exact ei
      refine cond_t (by rw [ein]; rfl) ?_
      rw [if_pos (.inr ei), if_pos (.inr ei)] at hK
      exact hK _ _ _ (Rd.nil _ _) h3
  refine ldI_of (x := v.Private) (by simpa using hx.cells 3 _ rfl) ?_
  refine encode_run ?_
  refine ldStr_of (x := strB v.Inter) (by simpa using hx.cells 4 _ rfl) ?_
  have el := encode_len v.Private hpr
  have el2 := encode_len v.B hbr
  refine ⟨by rw [strB_size, strB_size]; omega, ?_⟩
  refine ldI_of (x := v.B) (by simpa using hx.cells 2 _ rfl) ?_
  refine encode_run ⟨by rw [strB_app, strB_size, strB_size, List.length_append]; omega, ?_⟩
  rw [strB_app, strB_app, strB_toList]
  have ekey : (Utf8.encode v.Private).data.toList ++ v.Inter ++ (Utf8.encode v.B).data.toList = seqKey v.Private v.Inter v.B := rfl
  rw [ekey]
  have l1 : (⟨#[0, 33, 112]⟩ : ByteArray).toList = [0, 33, 112] := by kernel_rfl
  have l2 : (⟨#[63, 110]⟩ : ByteArray).toList = [63, 110] := by kernel_rfl
  have l3 : (⟨#[62, 99]⟩ : ByteArray).toList = [62, 99] := by kernel_rfl
  have l4 : (⟨#[63, 36, 112]⟩ : ByteArray).toList = [63, 36, 112] := by kernel_rfl
  have l5 : (⟨#[63, 104]⟩ : ByteArray).toList = [63, 104] := by kernel_rfl
  have l6 : (⟨#[63, 108]⟩ : ByteArray).toList = [63, 108] := by kernel_rfl
  rw [l1, l2, l3, l4, l5, l6]
  unfold Sc.seqR Sc.seqS at hK
  dsimp only at hK
  rw [← hn] at hK
  obtain ⟨k, hk⟩ : ∃ k, k = seqKey v.Private v.Inter v.B := ⟨_, rfl⟩
  rw [← hk] at hK ⊢
  clear ekey el el2 hk
  refine cond_of (fun e => ?_) fun e1 => ?_
  · have e := beq_list e
    rw [if_pos e, if_pos e] at hK
    exact soft_spec hT1.m fun F3 w3 hT3 => tail S.soft F3 w3 hT3 (by show S.areas.length ≤ _; omega) hK
  have e1 := nbeq_list e1
  rw [if_neg e1, if_neg e1] at hK
  refine joinP_of fun J3 hJ3 => ?_
  have hcl : k = [63, 104] ∨ k = [63, 108] → J3 (true, ()) w2 := by
    intro hh
    rw [if_pos hh, if_pos hh] at hK
    refine hJ3 _ _ (cond_t rfl ?_)
    have har := turns_areas (v.B == 104) v.Params S
    exact turns_loop (B := v.B) hT1.m hp1 rfl hxn (hx.cell 2 rfl) (by omega) fun F3 w3 hT3 => tail _ F3 w3 hT3 (by omega) hK
  have hcn : ¬ (k = [63, 104] ∨ k = [63, 108]) → J3 (false, ()) w2 := by
    intro hh
    rw [if_neg hh, if_neg hh] at hK
    refine hJ3 _ _ (cond_f rfl ?_)
    have nokey : ∀ {X : List UInt8 → Prop}, True := trivial
    refine cond_of (fun e => ?_) fun e2 => ?_
    · have e : k = [63, 110] := beq_list e
      refine cond_of (fun e6 => ?_) fun e6 => ?_
      · have e6 : n = 6 := eq_of_beq e6
        rw [if_pos ⟨e, e6⟩, if_pos ⟨e, e6⟩] at hK
        refine place_spec hT1.m t1 fun w3 hB3 hpl => ?_
        have e63 : (⟨#[63]⟩ : ByteArray) = strB [63] := rfl
        have e82 : (⟨#[82]⟩ : ByteArray) = strB [82] := rfl
        rw [e63, e82, strB_app, strB_app, strB_size, strB_size, strB_size, strB_size]
        simp only [List.length_append, List.length_cons, List.length_nil]
        refine ⟨by omega, by omega, ?_⟩
        exact reply_spec (by simp only [List.length_append, List.length_cons, List.length_nil]; omega) fun q w4 hq hB4 => hK q F w4 hq (hT1.ext (below_t hB3 hB4))
      · have e6 : ¬ n = 6 := beq_eq_false_iff_ne.1 e6
        have x1 : ¬ (k = [63, 110] ∧ n = 6) := fun hh => e6 hh.2
        have x2 : ¬ (k = [62, 99] ∧ n = 0) := fun hh => absurd (e.symm.trans hh.1) (by decide)
        have x3 : ¬ k = [63, 36, 112] := fun hh => absurd (e.symm.trans hh) (by decide)
        rw [if_neg x1, if_neg x2, if_neg x3, if_neg x1, if_neg x2, if_neg x3] at hK
        exact tail S F w2 (ScT.refl hT1.m) (by omega) hK
    have e2 : ¬ k = [63, 110] := nbeq_list e2
    have x1 : ¬ (k = [63, 110] ∧ n = 6) := fun hh => e2 hh.1
    rw [if_neg x1, if_neg x1] at hK
    refine cond_of (fun e => ?_) fun e3 => ?_
    · have e : k = [62, 99] := beq_list e
      refine cond_of (fun e6 => ?_) fun e6 => ?_
      · have e6 : n = 0 := eq_of_beq e6
        rw [if_pos ⟨e, e6⟩, if_pos ⟨e, e6⟩] at hK
        exact reply_spec (bs := [62, 49, 59, 49, 59, 48, 99]) (by decide) fun q w4 hq hB4 => hK q F w4 hq (hT1.ext hB4)
      · have e6 : ¬ n = 0 := beq_eq_false_iff_ne.1 e6
        have x2 : ¬ (k = [62, 99] ∧ n = 0) := fun hh => e6 hh.2
        have x3 : ¬ k = [63, 36, 112] := fun hh => absurd (e.symm.trans hh) (by decide)
        rw [if_neg x2, if_neg x3, if_neg x2, if_neg x3] at hK
        exact tail S F w2 (ScT.refl hT1.m) (by omega) hK
    have e3 : ¬ k = [62, 99] := nbeq_list e3
    have x2 : ¬ (k = [62, 99] ∧ n = 0) := fun hh => e3 hh.1
    rw [if_neg x2, if_neg x2] at hK
    refine cond_of (fun e => ?_) fun e4 => ?_
    · have e : k = [63, 36, 112] := beq_list e
      rw [if_pos e, if_pos e] at hK
      have ln := itoa_len hni.1 hni.2
      have hst : 0 ≤ S.stateP n ∧ S.stateP n ≤ 2 := by unfold Sc.stateP; split; omega; split <;> omega
      have ln2 := itoa_len (n := S.stateP n) (by omega) (by omega)
      refine Itoa_spec t1 hni.1 hni.2 fun w3 hB3 => ?_
      have e63 : (⟨#[63]⟩ : ByteArray) = strB [63] := rfl
      have e59 : (⟨#[59]⟩ : ByteArray) = strB [59] := rfl
      have ee : (⟨#[36, 121]⟩ : ByteArray) = strB [36, 121] := rfl
      rw [e63, e59, ee, strB_app, strB_app, strB_size, strB_size, strB_size, strB_size]
      simp only [List.length_append, List.length_cons, List.length_nil]
      refine ⟨by omega, by omega, ?_⟩
      have h3 := hT1.ext hB3
      refine state_spec h3.m ?_
      refine Itoa_spec (t1.ext hB3) (by omega) (by omega) fun w4 hB4 => ?_
      rw [strB_app, strB_app, strB_size, strB_size, strB_size, strB_size]
      simp only [List.length_append, List.length_cons, List.length_nil]
      refine ⟨by omega, by omega, ?_⟩
      exact reply_spec (by simp only [List.length_append, List.length_cons, List.length_nil]; omega) fun q w5 hq hB5 => hK q F w5 hq (h3.ext (below_t hB4 hB5))
    · have x3 : ¬ k = [63, 36, 112] := nbeq_list e4
      rw [if_neg x3, if_neg x3] at hK
      exact tail S F w2 (ScT.refl hT1.m) (by omega) hK
  refine cond_of (fun e => ?_) fun e5 => ?_
  · rw [e]
    exact hcl (.inl (beq_list e))
  · cases e6 : (k == [63, 108])
    · exact hcn fun hh => hh.elim (nbeq_list e5) (nbeq_list e6)
    · exact hcl (.inr (beq_list e6))
theorem Do_spec {e : T_parse_Event} {v : Ev} (h : ScM w base g F S) (hv : EvM w g F e v) (hT : Tab w) (h1b : 1 ≤ base) (ha : S.areas.length + v.Params.length ≤ 700000000) {K : Slc → World → Prop}
    (hK : ∀ q F' w', Rd E_uint8 w' q (S.doR v) → ScT base g w F F' (S.doS v) w' → K q w') : c_screen_Screen_Do (some ⟨g, 0, none⟩) e w K := by
  refine call_screen_Screen_Do _ _ ?_
  unfold sh_screen_Screen_Do
  refine nw_blk fun w1 hx hB1 hs1 => ?_
  have h1 := ScT.of_ext h hB1
  unfold Sc.doR Sc.doS at hK
  have v1 := hv.k
  have v2 := hv.r
  have v3 := hv.b
  have v4 := hv.i
  refine ldI_of (x := v.Kind) (by rw [← v1]; simpa using hx.cells 0 _ rfl) ?_
  have no : ∀ {S1 w' F1}, (∀ q F' w', Rd E_uint8 w' q [] → ScT base g w F F' S1 w' → K q w') → ScT base g w F F1 S1 w' → K ⟨none, 0, 0⟩ w' := fun hK hT => hK _ _ _ (Rd.nil _ _) hT
  refine cond_of (fun e => ?_) fun e1 => ?_
  · have e : v.Kind = 1 := eq_of_beq e
    rw [if_pos (.inl e), if_pos e] at hK
    refine ldI_of (x := v.R) (by rw [← v2]; simpa using hx.cells 1 _ rfl) ?_
    exact print_spec h1.m fun F2 w2 hT2 => no hK (h1.trans hT2)
  have e1 : ¬ v.Kind = 1 := beq_eq_false_iff_ne.1 e1
  refine cond_of (fun e => ?_) fun e2 => ?_
  · have e : v.Kind = 2 := eq_of_beq e
    rw [if_pos (.inr (.inl e)), if_neg e1, if_pos e] at hK
    refine ldI_of (x := v.B) (by rw [← v3]; simpa using hx.cells 2 _ rfl) ?_
    exact control_spec h1.m fun F2 w2 hT2 => no hK (h1.trans hT2)
  have e2 : ¬ v.Kind = 2 := beq_eq_false_iff_ne.1 e2
  refine cond_of (fun e => ?_) fun e3 => ?_
  · have e : v.Kind = 3 := eq_of_beq e
    rw [if_pos (.inr (.inr e)), if_neg e1, if_neg e2, if_pos e] at hK
    refine ldStr_of (x := strB v.Inter) (by rw [← v4]; simpa using hx.cells 4 _ rfl) ?_
    refine ldI_of (x := v.B) (by rw [← v3]; simpa using hx.cells 2 _ rfl) ?_
    exact escape_spec h1.m (by omega) fun F2 w2 hT2 => no hK (h1.trans hT2)
  have e3 : ¬ v.Kind = 3 := beq_eq_false_iff_ne.1 e3
  rw [if_neg (fun hh => by rcases hh with hh | hh | hh; exact e1 hh; exact e2 hh; exact e3 hh), if_neg e1, if_neg e2, if_neg e3] at hK
  refine cond_of (fun e => ?_) fun e4 => ?_
  · have e : v.Kind = 4 := eq_of_beq e
    rw [if_pos e, if_pos e] at hK
    refine ldS_of (r := T_parse_Event.rep) (x := _) hx.cells ?_
    refine sequence_spec h1.m ⟨hv.k, hv.r, hv.b, hv.p, hv.i, hv.ps.ext hB1, hv.br, hv.pr, hv.il⟩ (hT.ext hB1) h1b ha fun q F2 w2 hq hT2 => hK q F2 w2 hq (h1.trans hT2)
  · have e4 : ¬ v.Kind = 4 := beq_eq_false_iff_ne.1 e4
    rw [if_neg e4, if_neg e4] at hK
    exact no hK h1
end
end Go.Proofs.YtmoafafalnbkpaaGreatDoor

set_option linter.unusedVariables false
namespace Go.Proofs.YtmoafafalnbkpaaGreatDoor
open Go.Vc Go.RowKit
set_option maxRecDepth 400000
/-- A screen in memory, be it right or not. -/
structure ScW (w : World) (base g : Nat) (F : ScF) (S : Sc) : Prop where
  blk : Blk w g ty_screen_Screen (T_screen_Screen.rep.cells (scX F S))
  hg : base ≤ g
  g0 : GridM w base F.f0 S.g0
  g1 : GridM w base F.f1 S.g1
  st : StopsM w F.tg F.tr S.stops
  hst : base ≤ F.tg ∧ base ≤ F.tr
  mo : MapM encO w F.mm S.modes
  pr : MapM encO w F.mp S.priv
  hm : base ≤ F.mm ∧ base ≤ F.mp
  dm : F.mm ≠ F.mp ∧ F.tr ≠ F.mm ∧ F.tr ≠ F.mp
  ar : Go.Vc.Own E_screen_Area w base F.ar S.areas
  dg : ∀ k, gridS F.f0 k → ¬ gridS F.f1 k
theorem ScM.toW {w : World} {base g : Nat} {F : ScF} {S : Sc} (h : ScM w base g F S) : ScW w base g F S := ⟨h.blk, h.hg, h.g0, h.g1, h.st, h.hst, h.mo, h.pr, h.hm, h.dm, h.ar, h.dg⟩
theorem ScW.toM {w : World} {base g : Nat} {F : ScF} {S : Sc} (h : ScW w base g F S) (ok : ScOk S) : ScM w base g F S := ⟨h.blk, h.hg, h.g0, h.g1, h.st, h.hst, h.mo, h.pr, h.hm, h.dm, h.ar, h.dg, ok⟩
section
variable {w w' : World} {base g : Nat} {F F' : ScF} {S S' : Sc} {p : Slc} {ps : List Int}
theorem ScW.of_g (h : ScW w base g F S) : ∀ k, (gridS F.f0 k ∨ gridS F.f1 k ∨ k = F.tg ∨ k = F.tr ∨ k = F.mm ∨ k = F.mp ∨ F.ar.blk = some k) → k ≠ g := by
  rintro k (hk | hk | rfl | rfl | rfl | rfl | hk) rfl
  · have := grid_ne h.g0 hk h.blk
    revert this; decide
  · have := grid_ne h.g1 hk h.blk
    revert this; decide
  · exact h.blk.ne_t h.st.blk (by decide) rfl
  · exact map_not h.st.map h.blk rfl
  · exact map_not h.mo h.blk rfl
  · exact map_not h.pr h.blk rfl
  · obtain ⟨cs, hcs⟩ := h.ar.blk_t hk
    exact h.blk.ne_t hcs (by decide) rfl
theorem ScW.gridF (h : ScW w base g F S) (alt : Bool) : ∃ G, GridM w base (F.f alt) G := by
  cases alt
  · exact ⟨_, h.g0⟩
  · exact ⟨_, h.g1⟩
theorem ScW.of_grid (h : ScW w base g F S) (alt : Bool) : ∀ k, gridS (F.f alt) k → k ≠ g ∧ ¬ gridS (F.f (!alt)) k ∧ k ≠ F.tg ∧ k ≠ F.tr ∧ k ≠ F.mm ∧ k ≠ F.mp ∧ F.ar.blk ≠ some k := by
  intro k hk
  obtain ⟨G, hG⟩ := h.gridF alt
  obtain ⟨t, cs, hb, ht⟩ := hG.ty k hk
  refine ⟨h.of_g k (by cases alt; exact .inl hk; exact .inr (.inl hk)), ?_, ?_, map_not h.st.map hb, map_not h.mo hb, map_not h.pr hb, ?_⟩
  · cases alt
    · exact h.dg k hk
    · exact fun hk' => h.dg k hk' hk
  · rintro rfl
    exact hb.ne_t h.st.blk (by rcases ht with rfl | rfl | rfl <;> decide) rfl
  · intro e
    obtain ⟨cs', hcs⟩ := h.ar.blk_t e
    exact hb.ne_t hcs (by rcases ht with rfl | rfl | rfl <;> decide) rfl
theorem ScW.notC (h : ScW w base g F S) : ∀ k cs, scS g F k → ¬ Blk w k ty_api_Cell cs := by
  rintro k cs (rfl | hk | hk | rfl | rfl | rfl | rfl | hk) hb
  · exact h.blk.ne_t hb (by decide) rfl
  · exact h.g0.notC k cs hk hb
  · exact h.g1.notC k cs hk hb
  · exact h.st.blk.ne_t hb (by decide) rfl
  · exact map_not h.st.map hb rfl
  · exact map_not h.mo hb rfl
  · exact map_not h.pr hb rfl
  · obtain ⟨cs', hcs⟩ := h.ar.blk_t hk
    exact hcs.ne_t hb (by decide) rfl
theorem ScW.below (h : ScW w base g F S) : ∀ k, scS g F k → base ≤ k ∧ k < w.heap.size := by
  rintro k (rfl | hk | hk | rfl | rfl | rfl | rfl | hk)
  · exact ⟨h.hg, h.blk.lt⟩
  · exact h.g0.below k hk
  · exact h.g1.below k hk
  · exact ⟨h.hst.1, h.st.blk.lt⟩
  · exact ⟨h.hst.2, h.st.map.lt⟩
  · exact ⟨h.hm.1, h.mo.lt⟩
  · exact ⟨h.hm.2, h.pr.lt⟩
  · exact h.ar.lt k hk
theorem ScW.keep {T : Nat → Prop} (h : ScW w base g F S) (hc : Chg T w w') (hT : ∀ k, scS g F k → ¬ T k) (hC : ∀ k cs, T k → ¬ Blk w k ty_api_Cell cs) : ScW w' base g F S :=
  ⟨h.blk.chg hc (hT _ (.inl rfl)), h.hg, h.g0.chg hc (fun k hk => hT k (.inr (.inl hk))) hC, h.g1.chg hc (fun k hk => hT k (.inr (.inr (.inl hk)))) hC,
    h.st.keep hc (hT _ (.inr (.inr (.inr (.inl rfl))))) (hT _ (.inr (.inr (.inr (.inr (.inl rfl)))))), h.hst, h.mo.chg hc (hT _ (.inr (.inr (.inr (.inr (.inr (.inl rfl))))))),
    h.pr.chg hc (hT _ (.inr (.inr (.inr (.inr (.inr (.inr (.inl rfl)))))))), h.hm, h.dm, h.ar.chg hc fun k hk => hT k (.inr (.inr (.inr (.inr (.inr (.inr (.inr hk))))))), h.dg⟩
theorem ScW.ext (h : ScW w base g F S) (hB : Below w.heap.size w w') : ScW w' base g F S := h.keep (Chg.of_ext (S := fun _ => False) hB) (fun _ _ h => h) fun _ _ h => h.elim
theorem ScW.drew (h : ScW w base g F S) : ScW w.drew base g F S := h.ext ((Below.refl _ w).drew)
/-- The screen's own cells changed. -/
theorem ScW.struct (h : ScW w base g F S) (hc : Chg (fun k => k = g) w w') (hb : Blk w' g ty_screen_Screen (T_screen_Screen.rep.cells (scX F S'))) (e0 : S'.g0 = S.g0) (e1 : S'.g1 = S.g1) (es : S'.stops = S.stops) (em : S'.modes = S.modes) (ep : S'.priv = S.priv) (ea : S'.areas = S.areas) : ScW w' base g F S' := by
  have hC : ∀ k cs, k = g → ¬ Blk w k ty_api_Cell cs := fun k cs hk hcs => h.notC k cs (.inl hk) hcs
  refine ⟨hb, h.hg, ?_, ?_, ?_, h.hst, ?_, ?_, h.hm, h.dm, ?_, h.dg⟩
  · rw [e0]; exact h.g0.chg hc (fun k hk => h.of_g k (.inl hk)) hC
  · rw [e1]; exact h.g1.chg hc (fun k hk => h.of_g k (.inr (.inl hk))) hC
  · rw [es]; exact h.st.keep hc (h.of_g _ (.inr (.inr (.inl rfl)))) (h.of_g _ (.inr (.inr (.inr (.inl rfl)))))
  · rw [em]; exact h.mo.chg hc (h.of_g _ (.inr (.inr (.inr (.inr (.inl rfl))))))
  · rw [ep]; exact h.pr.chg hc (h.of_g _ (.inr (.inr (.inr (.inr (.inr (.inl rfl)))))))
  · rw [ea]; exact h.ar.chg hc fun k hk => h.of_g k (.inr (.inr (.inr (.inr (.inr (.inr hk))))))
theorem ScW.gkM (h : ScW w base g F S) (k : Bool) : GridM w base (F.f k) (S.gk k) := by
  cases k
  · exact h.g0
  · exact h.g1
/-- One of the grids changed. -/
theorem ScW.regrid (h : ScW w base g F S) (k : Bool) {f' : Foot} {G' : GS} (hg : GridM w' base f' G') (hto : (F.f k).to f' w.heap.size) (hc : Chg (gridS (F.f k)) w w') : ScW w' base g (F.put k f') (S.putG k G') := by
  have hC : ∀ i cs, gridS (F.f k) i → ¬ Blk w i ty_api_Cell cs := fun i cs hk hcs => h.notC i cs (by cases k; exact .inr (.inl hk); exact .inr (.inr (.inl hk))) hcs
  have hp := h.of_grid k
  have hstep : ∀ i, gridS f' i → gridS (F.f k) i ∨ w.heap.size ≤ i := hto.old
  have hgf := hto.g
  have hblk := h.blk.chg hc fun e => (hp g e).1 rfl
  have hst := h.st.keep hc (fun e => (hp _ e).2.2.1 rfl) (fun e => (hp _ e).2.2.2.1 rfl)
  have hmo := h.mo.chg hc (fun e => (hp _ e).2.2.2.2.1 rfl)
  have hpr := h.pr.chg hc (fun e => (hp _ e).2.2.2.2.2.1 rfl)
  have har := h.ar.chg hc fun i hk e => (hp i e).2.2.2.2.2.2 hk
  cases k
  · refine ⟨?_, h.hg, hg, h.g1.chg hc (fun i hk e => (hp i e).2.1 hk) hC, hst, h.hst, hmo, hpr, h.hm, h.dm, har, fun i hk hk' => ?_⟩
    · have e2 : scX (F.put false f') (S.putG false G') = scX F S := by
        have hgf : f'.g = F.f0.g := hgf
        unfold scX ScF.put Sc.putG
        simp only [Bool.false_eq_true, if_false]
        rw [hgf]
      rw [e2]
      exact hblk
    · rcases hstep i hk with h2 | h2
      · exact h.dg i h2 hk'
      · have := (h.g1.below i hk').2
        omega
  · refine ⟨?_, h.hg, h.g0.chg hc (fun i hk e => (hp i e).2.1 hk) hC, hg, hst, h.hst, hmo, hpr, h.hm, h.dm, har, fun i hk hk' => ?_⟩
    · have e2 : scX (F.put true f') (S.putG true G') = scX F S := by
        have hgf : f'.g = F.f1.g := hgf
        unfold scX ScF.put Sc.putG
        simp only [if_true]
        rw [hgf]
      rw [e2]
      exact hblk
    · rcases hstep i hk' with h2 | h2
      · exact h.dg i hk h2
      · have := (h.g0.below i hk).2
        omega
structure ScV (base g : Nat) (w : World) (F F' : ScF) (S' : Sc) (w' : World) : Prop where
  m : ScW w' base g F' S'
  old : ∀ k, scS g F' k → scS g F k ∨ w.heap.size ≤ k
  chg : Chg (scS g F) w w'
theorem ScV.toT {S1 : Sc} {F1 : ScF} (h : ScV base g w F F1 S1 w') (ok : ScOk S1) : ScT base g w F F1 S1 w' := ⟨h.m.toM ok, h.old, h.chg⟩
theorem ScV.trans {w1 w2 : World} {F1 F2 : ScF} {S1 S2 : Sc} (h : ScV base g w F F1 S1 w1) (h2 : ScV base g w1 F1 F2 S2 w2) : ScV base g w F F2 S2 w2 := by
  have hs := h.chg.size
  refine ⟨h2.m, fun k hk => ?_, h.chg.trans h2.chg fun i hi hk => ?_⟩
  · rcases h2.old k hk with h3 | h3
    · exact h.old k h3
    · exact .inr (by omega)
  · rcases h.old i hk with h3 | h3
    · exact h3
    · omega
theorem ScV.refl (h : ScW w base g F S) : ScV base g w F F S w := ⟨h, fun k hk => .inl hk, Chg.refl _ _⟩
theorem ScV.ext {w1 w2 : World} {F1 : ScF} {S1 : Sc} (h : ScV base g w F F1 S1 w1) (hB : Below w1.heap.size w1 w2) : ScV base g w F F1 S1 w2 :=
  h.trans ⟨h.m.ext hB, fun k hk => .inl hk, Chg.of_ext hB⟩
theorem ScV.drew {F1 : ScF} {S1 : Sc} (h : ScV base g w F F1 S1 w') : ScV base g w F F1 S1 w'.drew := h.ext ((Below.refl _ w').drew)
theorem ScV.mk_struct (h : ScW w base g F S) (hc : Chg (fun k => k = g) w w') (hb : Blk w' g ty_screen_Screen (T_screen_Screen.rep.cells (scX F S'))) (e0 : S'.g0 = S.g0) (e1 : S'.g1 = S.g1) (es : S'.stops = S.stops) (em : S'.modes = S.modes) (ep : S'.priv = S.priv) (ea : S'.areas = S.areas) : ScV base g w F F S' w' :=
  ⟨h.struct hc hb e0 e1 es em ep ea, fun k hk => .inl hk, hc.mono fun i hi e => .inl e⟩
theorem ScV.mk_regrid (h : ScW w base g F S) (k : Bool) {f' : Foot} {G' : GS} (hg : GridM w' base f' G') (hto : (F.f k).to f' w.heap.size) (hc : Chg (gridS (F.f k)) w w') : ScV base g w F (F.put k f') (S.putG k G') w' := by
  refine ⟨h.regrid k hg hto hc, fun i hk => ?_, hc.mono fun i hi e => ?_⟩
  · have hstep := hto.old
    revert hk hstep
    unfold ScF.put ScF.f
    cases k
    · rintro (rfl | hk | hk | hk) hstep
      · exact .inl (.inl rfl)
      · rcases hstep i hk with h2 | h2
        · exact .inl (.inr (.inl h2))
        · exact .inr h2
      · exact .inl (.inr (.inr (.inl hk)))
      · exact .inl (.inr (.inr (.inr hk)))
    · rintro (rfl | hk | hk | hk) hstep
      · exact .inl (.inl rfl)
      · exact .inl (.inr (.inl hk))
      · rcases hstep i hk with h2 | h2
        · exact .inl (.inr (.inr (.inl h2)))
        · exact .inr h2
      · exact .inl (.inr (.inr (.inr hk)))
  · revert e
    unfold ScF.f
    cases k
    · exact fun e => .inr (.inl e)
    · exact fun e => .inr (.inr (.inl e))
def satS (s : Sav) (rows cols : Int) : Sav := { s with c := { s.c with Row := cutP s.c.Row 0 (w64 (rows - 1)), Col := cutP s.c.Col 0 (w64 (cols - 1)), Wrap := false } }
namespace Sc
def so (S : Sc) (k : Bool) : Sav := if k then S.s1 else S.s0
def resizeG2 (S : Sc) (rows cols : Int) : Sc :=
  (S.putG S.alt (resizeG (S.gk S.alt) rows.toNat cols.toNat S.c.Row)).putG (!S.alt) (resizeG (S.gk !S.alt) rows.toNat cols.toNat (cutP (S.so !S.alt).c.Row 0 (w64 ((S.gk !S.alt).rows - 1))))
def resizeP (S : Sc) (rows cols : Int) : Sc :=
  let S1 := (S.resizeG2 rows cols).to (if S.c.Row ≥ rows then rows - 1 else S.c.Row) S.c.Col
  { S1 with s0 := satS S1.s0 rows cols, s1 := satS S1.s1 rows cols, top := 0, past := rows, stops := resz S.stops cols.toNat }
end Sc
theorem toW_spec {row col : Int} {K : World → Prop} (h : ScW w base g F S) (hK : ∀ w', ScV base g w F F (S.to row col) w' → K w') : c_screen_Screen_to (some ⟨g, 0, none⟩) row col w K := by
  refine call_screen_Screen_to _ _ _ ?_
  unfold sh_screen_Screen_to
  refine call_screen_Screen_size _ ?_
  unfold sh_screen_Screen_size
  refine call_screen_Screen_g _ ?_
  unfold sh_screen_Screen_g
  simp only [onPtr_some]
  have hb := h.drew.blk
  refine ldI_of (x := if S.alt then 1 else 0) (hb.cells 2 _ rfl) ?_
  have key : gridS F.f0 F.f0.g → True := fun _ => trivial
  have tail : c_grid_Grid_Size (some ⟨(F.f S.alt).g, 0, none⟩) w.drew fun t8 t8_1 w2 => c_screen_cut row 0 (IntKind.i64.wrap (t8 - 1)) w2 fun t11 w3 => c_screen_cut col 0 (IntKind.i64.wrap (t8_1 - 1)) w3 fun t14 w4 =>
      stK (((⟨g, 0, none⟩ : Addr).add 3).add 0) [(.int .i64 t11)] w4 fun w5 => stK (((⟨g, 0, none⟩ : Addr).add 3).add 1) [(.int .i64 t14)] w5 fun w6 => stK (((⟨g, 0, none⟩ : Addr).add 3).add 2) [(.bool false)] w6 fun w7 => K w7 := by
    have hg : GridM w.drew base (F.f S.alt) S.g := by
      unfold Sc.g ScF.f
      cases S.alt
      · exact h.drew.g0
      · exact h.drew.g1
    refine gSize_spec hg (cut_spec (cut_spec ?_))
    have hT := (ScV.refl h).drew.drew
    simp only [add_mk]
    refine stK_blk hT.m.blk (by simp [T_screen_Screen.rep]) fun w4 hb4 hg4 hs4 => ?_
    refine stK_blk hb4 (by simp [T_screen_Screen.rep, putL]) fun w5 hb5 hg5 hs5 => ?_
    refine stK_blk hb5 (by simp [T_screen_Screen.rep, putL]) fun w6 hb6 hg6 hs6 => ?_
    have hc : Chg (fun k => k = g) w.drew.drew w6 := ((Chg.gg hg4).trans (Chg.gg hg5) fun i _ hi => hi).trans (Chg.gg hg6) fun i _ hi => hi
    exact hK w6 (hT.trans (ScV.mk_struct hT.m hc (S' := S.to row col) hb6 rfl rfl rfl rfl rfl rfl))
  revert tail
  cases hS : S.alt
  · intro tail
    exact ⟨⟨by decide, by decide⟩, ldP_of (x := some ⟨F.f0.g, 0, none⟩) (hb.cells 0 _ rfl) tail⟩
  · intro tail
    exact ⟨⟨by decide, by decide⟩, ldP_of (x := some ⟨F.f1.g, 0, none⟩) (hb.cells 1 _ rfl) tail⟩
theorem ScW.cOther (h : ScW w base g F S) : w.cell? (((⟨g, 0, none⟩ : Addr).add 0).add ((IntKind.i64.wrap ((1 : Int) - (if S.alt then 1 else 0))).toNat * 1)) = some (.pointer (some ⟨(F.f !S.alt).g, 0, none⟩)) := by
  cases hS : S.alt
  · exact h.blk.cells 1 _ rfl
  · exact h.blk.cells 0 _ rfl
theorem ScW.cSaved (h : ScW w base g F S) : w.cell? (((((⟨g, 0, none⟩ : Addr).add 13).add ((IntKind.i64.wrap ((1 : Int) - (if S.alt then 1 else 0))).toNat * 11)).add 0).add 0) = some (.int .i64 (S.so !S.alt).c.Row) := by
  unfold Sc.so
  cases hS : S.alt
  · simp only [add_mk]
    exact h.blk.cell 24 rfl
  · simp only [add_mk]
    exact h.blk.cell 13 rfl
theorem other_in (b : Bool) : (0 : Int) ≤ IntKind.i64.wrap ((1 : Int) - (if b then 1 else 0)) ∧ IntKind.i64.wrap ((1 : Int) - (if b then 1 else 0)) < ((2 : Nat) : Int) := by cases b <;> decide
theorem ScW.setStops (h : ScW w base g F S) {B : List Bool} (hst : StopsM w' F.tg F.tr B) (hc : Chg (fun k => k = F.tg ∨ k = F.tr) w w') : ScV base g w F F { S with stops := B } w' := by
  have e1 := h.st.blk
  have e2 := map_blk h.st.map
  have nb : ∀ {k t cs}, Blk w k t cs → t ≠ ty_tabs_Stops → ¬ (k = F.tg ∨ k = F.tr) := by
    intro k t cs hb ht e
    rcases e with e | e
    · subst e; exact hb.ne_t e1 ht rfl
    · subst e; exact e2 _ _ hb
  have hC : ∀ k cs, (k = F.tg ∨ k = F.tr) → ¬ Blk w k ty_api_Cell cs := fun k cs e hb => nb hb (by decide) e
  have mp : ∀ {m L}, MapM encO w m L → m ≠ F.tg := fun hm e => by rw [e] at hm; exact map_blk hm _ _ e1
  refine ⟨⟨h.blk.chg hc (nb h.blk (by decide)), h.hg, h.g0.chg hc (fun k hk => ?_) hC, h.g1.chg hc (fun k hk => ?_) hC, hst, h.hst, h.mo.chg hc ?_, h.pr.chg hc ?_, h.hm, h.dm, h.ar.chg hc fun k hk => ?_, h.dg⟩, fun k hk => .inl hk, hc.mono fun i hi e => ?_⟩
  · obtain ⟨t, cs, hb, ht⟩ := h.g0.ty k hk
    exact nb hb (by rcases ht with rfl | rfl | rfl <;> decide)
  · obtain ⟨t, cs, hb, ht⟩ := h.g1.ty k hk
    exact nb hb (by rcases ht with rfl | rfl | rfl <;> decide)
  · rintro (e | e)
    · exact mp h.mo e
    · exact h.dm.2.1 e.symm
  · rintro (e | e)
    · exact mp h.pr e
    · exact h.dm.2.2 e.symm
  · obtain ⟨cs, hcs⟩ := h.ar.blk_t hk
    exact nb hcs (by decide)
  · rcases e with e | e
    · exact .inr (.inr (.inr (.inl e)))
    · exact .inr (.inr (.inr (.inr (.inl e))))
/-- One saved cursor cut. -/
theorem sat_spec {rows cols : Int} (h : ScW w base g F S) (k : Bool) {i : Int} (hi : i = if k then 1 else 0) {K : World → Prop} (hK : ∀ w', ScV base g w F F (if k then { S with s1 := satS S.s1 rows cols } else { S with s0 := satS S.s0 rows cols }) w' → K w') :
    ixA ((⟨g, 0, none⟩ : Addr).add 13) 2 i 11 fun t85 =>
         ldI .i64 ((t85.add 0).add 0) w.drew fun t93 =>
         ldI .i64 ((t85.add 0).add 1) w.drew fun t100 =>
         c_screen_cut t93 0 (IntKind.i64.wrap (rows - (1 : Int))) w.drew fun t96 w9 =>
         World.cell? w9 ((t85.add 0).add 1) = some (.int .i64 t100) ∧
         c_screen_cut t100 0 (IntKind.i64.wrap (cols - (1 : Int))) w9 fun t103 w10 =>
         stK ((t85.add 0).add 0) [(.int .i64 t96)] w10 fun w11 =>
         stK ((t85.add 0).add 1) [(.int .i64 t103)] w11 fun w12 =>
         stK ((t85.add 0).add 2) [(.bool false)] w12 fun w13 => K w13 := by
  subst hi
  have hd := (ScV.refl h).drew
  cases k
  · refine ⟨by decide, ?_⟩
    show ldI .i64 (((((⟨g, 0, none⟩ : Addr).add 13).add (0 * 11)).add 0).add 0) _ _
    simp only [add_mk]
    refine ldI_of (x := S.s0.c.Row) (hd.m.blk.cell 13 rfl) (ldI_of (x := S.s0.c.Col) (hd.m.blk.cell 14 rfl) ?_)
    refine cut_spec ⟨hd.m.blk.cell 14 rfl, cut_spec ?_⟩
    refine stK_blk hd.m.blk (by simp [T_screen_Screen.rep]) fun w4 hb4 hg4 hs4 => ?_
    refine stK_blk hb4 (by simp [T_screen_Screen.rep, putL]) fun w5 hb5 hg5 hs5 => ?_
    refine stK_blk hb5 (by simp [T_screen_Screen.rep, putL]) fun w6 hb6 hg6 hs6 => ?_
    have hc : Chg (fun k => k = g) w.drew w6 := ((Chg.gg hg4).trans (Chg.gg hg5) fun i _ hi => hi).trans (Chg.gg hg6) fun i _ hi => hi
    exact hK w6 (hd.trans (ScV.mk_struct hd.m hc (S' := { S with s0 := satS S.s0 rows cols }) hb6 rfl rfl rfl rfl rfl rfl))
  · refine ⟨by decide, ?_⟩
    show ldI .i64 (((((⟨g, 0, none⟩ : Addr).add 13).add (1 * 11)).add 0).add 0) _ _
    simp only [add_mk]
    refine ldI_of (x := S.s1.c.Row) (hd.m.blk.cell 24 rfl) (ldI_of (x := S.s1.c.Col) (hd.m.blk.cell 25 rfl) ?_)
    refine cut_spec ⟨hd.m.blk.cell 25 rfl, cut_spec ?_⟩
    refine stK_blk hd.m.blk (by simp [T_screen_Screen.rep]) fun w4 hb4 hg4 hs4 => ?_
    refine stK_blk hb4 (by simp [T_screen_Screen.rep, putL]) fun w5 hb5 hg5 hs5 => ?_
    refine stK_blk hb5 (by simp [T_screen_Screen.rep, putL]) fun w6 hb6 hg6 hs6 => ?_
    have hc : Chg (fun k => k = g) w.drew w6 := ((Chg.gg hg4).trans (Chg.gg hg5) fun i _ hi => hi).trans (Chg.gg hg6) fun i _ hi => hi
    exact hK w6 (hd.trans (ScV.mk_struct hd.m hc (S' := { S with s1 := satS S.s1 rows cols }) hb6 rfl rfl rfl rfl rfl rfl))
theorem resizeG_rc (G : GS) (rows cols : Nat) (row : Int) : (resizeG G rows cols row).rows = rows ∧ (resizeG G rows cols row).cols = cols ∧ (resizeG G rows cols row).most = G.most := by
  refine ⟨rfl, ?_, ?_⟩
  · show (resize2 G rows cols row).cols = cols
    unfold resize2
    split
    · unfold scrollG
      split
      · rfl
      · split <;> rfl
    · rfl
  · show (resize2 G rows cols row).most = G.most
    unfold resize2
    split
    · unfold scrollG
      split
      · rfl
      · split <;> rfl
    · rfl
theorem ScOk.resizeP (h : ScOk S) {rows cols : Int} (hr : 1 ≤ rows ∧ rows ≤ 1000) (hc : 1 ≤ cols ∧ cols ≤ 1000) : ScOk (S.resizeP rows cols) := by
  have hx : ∀ k row, GOk (resizeG (S.gk k) rows.toNat cols.toNat row) := fun k row => (h.gkOk k).resize (by omega) (by omega)
  have e1 : w64 (rows - 1) = rows - 1 := w64_of (by omega)
  have e2 : w64 (cols - 1) = cols - 1 := w64_of (by omega)
  obtain ⟨A, hA⟩ : ∃ A, A = resizeG (S.gk S.alt) rows.toNat cols.toNat S.c.Row := ⟨_, rfl⟩
  obtain ⟨B, hB⟩ : ∃ B, B = resizeG (S.gk !S.alt) rows.toNat cols.toNat (cutP (S.so !S.alt).c.Row 0 (w64 ((S.gk !S.alt).rows - 1))) := ⟨_, rfl⟩
  have hA1 : GOk A := by rw [hA]; exact hx _ _
  have hB1 : GOk B := by rw [hB]; exact hx _ _
  have a2 : A.rows = rows.toNat ∧ A.cols = cols.toNat := by rw [hA]; exact ⟨(resizeG_rc _ _ _ _).1, (resizeG_rc _ _ _ _).2.1⟩
  have b2 : B.rows = rows.toNat ∧ B.cols = cols.toNat := by rw [hB]; exact ⟨(resizeG_rc _ _ _ _).1, (resizeG_rc _ _ _ _).2.1⟩
  have eG : S.resizeG2 rows cols = (S.putG S.alt A).putG (!S.alt) B := by unfold Sc.resizeG2; rw [hA, hB]
  have key : ∀ (G0 G1 G : GS) (S1 : Sc), S1 = S.resizeG2 rows cols → S1.g0 = G0 → S1.g1 = G1 → S1.g = G → GOk G0 → GOk G1 → (G0.rows = rows.toNat ∧ G0.cols = cols.toNat) → (G1.rows = rows.toNat ∧ G1.cols = cols.toNat) → (G.rows = rows.toNat ∧ G.cols = cols.toNat) → ScOk (S.resizeP rows cols) := by
    intro G0 G1 G S1 h1 h2 h3 h4 o0 o1 r0 r1 r
    have f0 : (S.resizeP rows cols).g0 = G0 := by rw [← h2, h1]; rfl
    have f1 : (S.resizeP rows cols).g1 = G1 := by rw [← h3, h1]; rfl
    have q1 : w64 ((G.rows : Int) - 1) = rows - 1 := by rw [r.1]; rw [w64_of (by omega)]; omega
    have q2 : w64 ((G.cols : Int) - 1) = cols - 1 := by rw [r.2]; rw [w64_of (by omega)]; omega
    have i1 := cutP_in (v := if S.c.Row ≥ rows then rows - 1 else S.c.Row) (lo := 0) (hi := rows - 1) (by omega)
    have i2 := cutP_in (v := S.c.Col) (lo := 0) (hi := cols - 1) (by omega)
    have fr : (S.resizeP rows cols).c.Row = cutP (if S.c.Row ≥ rows then rows - 1 else S.c.Row) 0 (w64 ((G.rows : Int) - 1)) := by rw [← h4, h1]; rfl
    have fc : (S.resizeP rows cols).c.Col = cutP S.c.Col 0 (w64 ((G.cols : Int) - 1)) := by rw [← h4, h1]; rfl
    have p0 : ∀ k G, (S.putG k G).c = S.c ∧ (S.putG k G).s0 = S.s0 ∧ (S.putG k G).s1 = S.s1 := fun k G => by cases k <;> exact ⟨rfl, rfl, rfl⟩
    have p1 : ∀ (T : Sc) k G, (T.putG k G).c = T.c ∧ (T.putG k G).s0 = T.s0 ∧ (T.putG k G).s1 = T.s1 := fun T k G => by cases k <;> exact ⟨rfl, rfl, rfl⟩
    rw [q1] at fr
    rw [q2] at fc
    refine ⟨by rw [f0]; exact o0, by rw [f1]; exact o1, by rw [f0, f1]; omega, by rw [f0, f1]; omega, by rw [fr, f0]; omega, by rw [fc, f0]; omega, ?_, ?_, ?_, ?_, ?_, ?_⟩
    · show (S.resizeG2 rows cols).c.Shift = 0 ∨ (S.resizeG2 rows cols).c.Shift = 1
      rw [eG, (p1 _ _ _).1, (p0 _ _).1]
      exact h.shift
    · show (S.resizeG2 rows cols).s0.c.Shift = 0 ∨ (S.resizeG2 rows cols).s0.c.Shift = 1
      rw [eG, (p1 _ _ _).2.1, (p0 _ _).2.1]
      exact h.sh0
    · show (S.resizeG2 rows cols).s1.c.Shift = 0 ∨ (S.resizeG2 rows cols).s1.c.Shift = 1
      rw [eG, (p1 _ _ _).2.2, (p0 _ _).2.2]
      exact h.sh1
    · rw [f0]
      exact ⟨Int.le_refl 0, by show (0 : Int) < rows; omega, by show rows ≤ (G0.rows : Int); omega⟩
    · intro _
      rw [f0] at *
      show (0 : Int) + 2 ≤ rows
      omega
    · rw [f0]
      show (resz S.stops cols.toNat).length = _
      rw [resz_length]
      omega
  have eg : ((S.putG S.alt A).putG (!S.alt) B).g = A := by
    unfold Sc.g Sc.putG
    cases hS : S.alt <;> simp
  cases hS : S.alt
  · rw [hS] at eG
    exact key A B A _ rfl (by rw [eG]; rfl) (by rw [eG]; rfl) (by rw [eG]; rw [hS] at eg; exact eg) hA1 hB1 a2 b2 a2
  · rw [hS] at eG
    exact key B A A _ rfl (by rw [eG]; rfl) (by rw [eG]; rfl) (by rw [eG]; rw [hS] at eg; exact eg) hB1 hA1 b2 a2 a2
theorem putG_alt (S : Sc) (k : Bool) (G : GS) : (S.putG k G).alt = S.alt ∧ (S.putG k G).c = S.c ∧ (S.putG k G).so = S.so ∧ (S.putG k G).stops = S.stops := by cases k <;> exact ⟨rfl, rfl, rfl, rfl⟩
theorem putG_other (S : Sc) (k : Bool) (G : GS) : (S.putG k G).gk (!k) = S.gk !k := by cases k <;> rfl
theorem put_other (F : ScF) (k : Bool) (f : Foot) : (F.put k f).f (!k) = F.f !k := by cases k <;> rfl
theorem g_gk (S : Sc) : S.g = S.gk S.alt := rfl
theorem Resize_spec17 (h : ScM w base g F S) {rows cols : Int} {K : Int → World → Prop} (hbad : ¬ ((1 ≤ rows ∧ rows ≤ 1000) ∧ (1 ≤ cols ∧ cols ≤ 1000)) → K 1 w)
    (hK : (1 ≤ rows ∧ rows ≤ 1000) ∧ (1 ≤ cols ∧ cols ≤ 1000) → ∀ F' w', ScT base g w F F' (S.resizeP rows cols) w' → K 0 w') : c_screen_Screen_Resize (some ⟨g, 0, none⟩) rows cols w K := by
  refine call_screen_Screen_Resize _ _ _ ?_
  unfold sh_screen_Screen_Resize
  simp only [onPtr_some]
  refine joinP_of fun J1 hJ1 => ?_
  refine between_spec ?_
  cases e1 : decide (1 ≤ rows ∧ rows ≤ 1000)
  · exact cond_t rfl (hbad fun hh => of_decide_eq_false e1 hh.1)
  refine cond_f rfl (between_spec ?_)
  cases e2 : decide (1 ≤ cols ∧ cols ≤ 1000)
  · exact cond_t rfl (hbad fun hh => of_decide_eq_false e2 hh.2)
  refine cond_f rfl (hJ1 _ _ ?_)
  have hr := of_decide_eq_true e1
  have hc := of_decide_eq_true e2
  have ok := h.ok
  have hK := hK ⟨hr, hc⟩
  have hW := h.toW
  have hin := other_in S.alt
  refine ldI_of (x := if S.alt then 1 else 0) (by rw [add_mk]; exact hW.blk.cell 2 rfl) ⟨hin, ?_⟩
  refine ldP_of (x := some ⟨(F.f !S.alt).g, 0, none⟩) hW.cOther ?_
  refine gSize_spec (hW.gkM !S.alt) ?_
  have hd := (ScV.refl hW).drew.drew
  have hdm : ScM w.drew.drew base g F S := hd.m.toM ok
  refine hdm.ldRow (sg_spec hdm ⟨hdm.drew.cRow, ?_⟩)
  have hd3 := hd.drew
  have hG := ok.gOk
  have g3 : GridM w.drew.drew.drew base (F.f S.alt) (S.gk S.alt) := hd3.m.gkM S.alt
  have okA := ok.gkOk S.alt
  have okB := ok.gkOk !S.alt
  refine gResize_spec g3 okA.len okA.rows.2 (fun xs hx => by have := (okA.L xs hx).2.1; have := okA.cols.2; omega) (by have := okA.most; omega) (hdm.drew.base_le) (fun hbad => ?_) fun f1 w4 _ hg1 hto1 hc1 => ?_
  · exact absurd hbad (fun hb => by
      have hrow := ok.rowg
      rw [g_gk] at hrow
      rcases hb with hb | hb | hb
      · exact hb hr
      · exact hb hc
      · exact hb hrow)
  have hT4 := hd3.trans (ScV.mk_regrid hd3.m S.alt hg1 hto1 hc1)
  obtain ⟨S1, hS1⟩ : ∃ S1, S1 = S.putG S.alt (resizeG (S.gk S.alt) rows.toNat cols.toNat S.c.Row) := ⟨_, rfl⟩
  obtain ⟨F1, hF1⟩ : ∃ F1, F1 = F.put S.alt f1 := ⟨_, rfl⟩
  rw [← hS1, ← hF1] at hT4
  have a1 : S1.alt = S.alt ∧ S1.c = S.c ∧ S1.so = S.so ∧ S1.stops = S.stops := by rw [hS1]; exact putG_alt _ _ _
  have hF1o : F1.f (!S.alt) = F.f !S.alt := by rw [hF1]; exact put_other _ _ _
  have hS1o : S1.gk (!S.alt) = S.gk !S.alt := by rw [hS1]; exact putG_other _ _ _
  have hd4 := hT4.drew
  refine ⟨hin, ?_⟩
  have co : ∀ {w5}, ScW w5 base g F1 S1 → w5.cell? (((⟨g, 0, none⟩ : Addr).add 0).add ((IntKind.i64.wrap ((1 : Int) - (if S.alt then 1 else 0))).toNat * 1)) = some (.pointer (some ⟨(F.f !S.alt).g, 0, none⟩)) := by
    intro w5 h5
    have := h5.cOther
    rw [a1.1, hF1o] at this
    exact this
  have cs : ∀ {w5}, ScW w5 base g F1 S1 → w5.cell? (((((⟨g, 0, none⟩ : Addr).add 13).add ((IntKind.i64.wrap ((1 : Int) - (if S.alt then 1 else 0))).toNat * 11)).add 0).add 0) = some (.int .i64 (S.so !S.alt).c.Row) := by
    intro w5 h5
    have := h5.cSaved
    rw [a1.1, a1.2.2.1] at this
    exact this
  refine ldP_of (x := some ⟨(F.f !S.alt).g, 0, none⟩) (co hd4.m) ⟨hin, ?_⟩
  refine ldI_of (x := (S.so !S.alt).c.Row) (cs hd4.m) (cut_spec ⟨co hd4.m, ?_⟩)
  have g4 : GridM w4.drew base (F.f !S.alt) (S.gk !S.alt) := by
    have := hd4.m.gkM !S.alt
    rw [hF1o, hS1o] at this
    exact this
  have b4 : base ≤ w4.drew.heap.size := by have := (hd4.m.below g (.inl rfl)); omega
  have cuti := cutP_in (v := (S.so !S.alt).c.Row) (lo := 0) (hi := ((S.gk !S.alt).rows : Int) - 1) (by have := okB.rows; omega)
  have ecut : w64 (((S.gk !S.alt).rows : Int) - 1) = ((S.gk !S.alt).rows : Int) - 1 := w64_of (by have := okB.rows; omega)
  refine gResize_spec g4 okB.len okB.rows.2 (fun xs hx => by have := (okB.L xs hx).2.1; have := okB.cols.2; omega) (by have := okB.most; omega) b4 (fun hbad => ?_) fun f2 w6 _ hg2 hto2 hc2 => ?_
  · exact absurd hbad (fun hb => by
      rcases hb with hb | hb | hb
      · exact hb hr
      · exact hb hc
      · refine hb ?_
        show 0 ≤ cutP _ _ (w64 _) ∧ cutP _ _ (w64 _) < _
        rw [ecut]
        omega)
  have hT6 := hd4.trans (ScV.mk_regrid hd4.m (!S.alt) hg2 (by rw [hF1o]; exact hto2) (by rw [hF1o]; exact hc2))
  have eS2 : S1.putG (!S.alt) (resizeG (S.gk !S.alt) rows.toNat cols.toNat (cutP (S.so !S.alt).c.Row 0 (w64 (((S.gk !S.alt).rows : Int) - 1)))) = S.resizeG2 rows cols := by rw [hS1]; rfl
  have hT6 : ScV base g w F _ (S.resizeG2 rows cols) w6 := eS2 ▸ hT6
  obtain ⟨F2, hF2⟩ : ∃ F2, F2 = F1.put (!S.alt) f2 := ⟨_, rfl⟩
  rw [← hF2] at hT6
  have hc6 : (S.resizeG2 rows cols).c = S.c := by unfold Sc.resizeG2; rw [(putG_alt _ _ _).2.1, (putG_alt _ _ _).2.1]
  refine ldI_of (x := S.c.Col) (by rw [← hc6]; simp only [add_mk]; exact hT6.m.blk.cell 4 rfl) ?_
  refine toW_spec hT6.m fun w7 hT7 => ?_
  have h7 := hT6.trans hT7
  obtain ⟨T, hTT⟩ : ∃ T, T = (S.resizeG2 rows cols).to (if S.c.Row ≥ rows then rows - 1 else S.c.Row) S.c.Col := ⟨_, rfl⟩
  rw [← hTT] at h7
  have eP : S.resizeP rows cols = { T with s0 := satS T.s0 rows cols, s1 := satS T.s1 rows cols, top := 0, past := rows, stops := resz T.stops cols.toNat } := by
    have est : T.stops = S.stops := by
      rw [hTT]
      show (S.resizeG2 rows cols).stops = _
      unfold Sc.resizeG2
      rw [(putG_alt _ _ _).2.2.2, (putG_alt _ _ _).2.2.2]
    rw [est, hTT]
    rfl
  have est : T.stops = S.stops := by
    rw [hTT]
    show (S.resizeG2 rows cols).stops = _
    unfold Sc.resizeG2
    rw [(putG_alt _ _ _).2.2.2, (putG_alt _ _ _).2.2.2]
  have okP := ok.resizeP hr hc
  rw [eP] at hK okP
  refine loopP_rule (fun (st : Int × Unit) w2 => (st.1 = 0 ∧ ScV base g w F F2 T w2) ∨ (st.1 = 1 ∧ ScV base g w F F2 { T with s0 := satS T.s0 rows cols } w2) ∨ (st.1 = 2 ∧ ScV base g w F F2 { T with s0 := satS T.s0 rows cols, s1 := satS T.s1 rows cols } w2)) (fun st => 2 - st.1.toNat) (.inl ⟨rfl, h7⟩) ?_
  rintro ⟨i, u⟩ w8 (⟨rfl, hV⟩ | ⟨rfl, hV⟩ | ⟨rfl, hV⟩) I hI
  · refine cond_t rfl ?_
    exact sat_spec hV.m false rfl fun w9 hT9 => hI _ _ (.inr (.inl ⟨by show IntKind.i64.wrap (0 + 1) = 1; decide, hV.trans hT9⟩)) (by show 2 - (IntKind.i64.wrap (0 + 1)).toNat < 2 - (0 : Int).toNat; decide)
  · refine cond_t rfl ?_
    exact sat_spec hV.m true rfl fun w9 hT9 => hI _ _ (.inr (.inr ⟨by show IntKind.i64.wrap (1 + 1) = 2; decide, hV.trans hT9⟩)) (by show 2 - (IntKind.i64.wrap (1 + 1)).toNat < 2 - (1 : Int).toNat; decide)
  · refine cond_f rfl ?_
    simp only [add_mk]
    refine stK_blk hV.m.blk (by simp [T_screen_Screen.rep]) fun w9 hb9 hg9 hs9 => ?_
    refine stK_blk hb9 (by simp [T_screen_Screen.rep, putL]) fun w10 hb10 hg10 hs10 => ?_
    have cc : Chg (fun k => k = g) w8 w10 := chg_seq (Chg.gg hg9) (Chg.gg hg10)
    have hV10 := hV.trans (ScV.mk_struct hV.m cc (S' := { T with s0 := satS T.s0 rows cols, s1 := satS T.s1 rows cols, top := 0, past := rows }) hb10 rfl rfl rfl rfl rfl rfl)
    refine ldP_of (x := some ⟨F2.tg, 0, none⟩) (hV10.m.blk.cell 39 rfl) ?_
    have hsl := ok.slen
    have hstl : T.stops.length ≤ 1000 := by rw [est]; exact hsl.2
    refine tResize_spec hV10.m.st hstl cols (fun hbad => absurd hbad (by omega)) fun w11 _ _ hst hcs => ?_
    exact hK F2 w11 ((hV10.trans (hV10.m.setStops hst hcs)).toT okP)
/-! ### Move -/
namespace Sc
def indexes (S : Sc) : Nat → Sc
  | 0 => S
  | n + 1 => (S.indexes n).index
def moveP (S : Sc) (rows cols : Int) : Sc :=
  let S1 := if 0 ≤ rows ∧ rows ≤ 1000 then S.indexes rows.toNat else S
  if 0 ≤ cols ∧ cols ≤ 1000 then S1.to S1.c.Row (w64 (S1.c.Col + cols)) else S1
end Sc
theorem Move_spec (h : ScM w base g F S) {rows cols : Int} {K : World → Prop} (hK : ∀ F' w', ScT base g w F F' (S.moveP rows cols) w' → K w') : c_screen_Screen_Move (some ⟨g, 0, none⟩) rows cols w K := by
  refine call_screen_Screen_Move _ _ _ ?_
  unfold sh_screen_Screen_Move
  simp only [onPtr_some]
  unfold Sc.moveP at hK
  dsimp only at hK
  refine joinP_of fun J1 hJ1 => ?_
  have key : ∀ (S1 : Sc) F1 w1, ScT base g w F F1 S1 w1 → (∀ F' w', ScT base g w F F' (if 0 ≤ cols ∧ cols ≤ 1000 then S1.to S1.c.Row (w64 (S1.c.Col + cols)) else S1) w' → K w') → J1 () w1 := by
    intro S1 F1 w1 hT1 hK
    refine hJ1 _ _ (between_spec (cond_of (fun e => ?_) fun e => ?_))
    · rw [if_pos (of_decide_eq_true e)] at hK
      have hd := hT1.drew
      exact hd.m.ldRow (hd.m.ldCol (to_spec hd.m fun w3 hT3 => hK _ _ (hd.trans hT3)))
    · rw [if_neg (of_decide_eq_false e)] at hK
      exact hK _ _ hT1
  refine between_spec (cond_of (fun e => ?_) fun e => ?_)
  · have e := of_decide_eq_true e
    rw [if_pos e] at hK
    refine loopP_rule (fun (st : Int × Unit) w2 => ∃ (k : Nat) (F2 : ScF), st.1 = (k : Int) ∧ (k : Int) ≤ rows ∧ ScT base g w F F2 (S.indexes k) w2) (fun st => rows.toNat - st.1.toNat) ⟨0, F, rfl, by omega, ScT.refl h⟩ ?_
    rintro ⟨i, u⟩ w2 ⟨k, F2, hi, hk, hT2⟩ I hI
    dsimp only at hi ⊢
    subst hi
    refine cond_of (fun e => ?_) fun e => ?_
    · have e := of_decide_eq_true e
      refine index_spec hT2.m fun F3 w3 hT3 => ?_
      rw [wrap64_id (x := (k : Int) + 1) (by omega)]
      exact hI _ _ ⟨k + 1, F3, by simp, by omega, hT2.trans hT3⟩ (by dsimp only; omega)
    · have e := of_decide_eq_false e
      have hkr : k = rows.toNat := by omega
      rw [← hkr] at hK
      exact key _ _ _ hT2 hK
  · rw [if_neg (of_decide_eq_false e)] at hK
    exact key _ _ _ (ScT.refl h) hK
end
end Go.Proofs.YtmoafafalnbkpaaGreatDoor

set_option linter.unusedVariables false
namespace Go.Proofs.YtmoafafalnbkpaaGreatDoor
open Go.Vc Go.RowKit
set_option maxRecDepth 400000
def same (G G' : GS) : Prop := G'.most = G.most ∧ G'.rows = G.rows ∧ G'.cols = G.cols
theorem same.refl (G : GS) : same G G := ⟨rfl, rfl, rfl⟩
theorem same.trans {G G' G'' : GS} (h : same G G') (k : same G' G'') : same G G'' := ⟨k.1.trans h.1, k.2.1.trans h.2.1, k.2.2.trans h.2.2⟩
structure Fr (n : Nat) (S S' : Sc) : Prop where
  alt : S'.alt = S.alt
  s0 : S'.s0 = S.s0
  s1 : S'.s1 = S.s1
  g0 : same S.g0 S'.g0
  g1 : same S.g1 S'.g1
  ar : S'.areas.length ≤ S.areas.length + n
structure Fm (n : Nat) (S S' : Sc) : Prop where
  m0 : S'.g0.most = S.g0.most
  m1 : S'.g1.most = S.g1.most
  ar : S'.areas.length ≤ S.areas.length + n
variable {S S' S'' : Sc} {n k0 : Nat}
theorem Fr.m (h : Fr n S S') : Fm n S S' := ⟨h.g0.1, h.g1.1, h.ar⟩
theorem Fr.refl (S : Sc) (n : Nat) : Fr n S S := ⟨rfl, rfl, rfl, same.refl _, same.refl _, by omega⟩
theorem Fm.refl (S : Sc) (n : Nat) : Fm n S S := ⟨rfl, rfl, by omega⟩
theorem Fr.trans (h : Fr n S S') (k : Fr k0 S' S'') : Fr (n + k0) S S'' := ⟨k.alt.trans h.alt, k.s0.trans h.s0, k.s1.trans h.s1, h.g0.trans k.g0, h.g1.trans k.g1, by have := h.ar; have := k.ar; omega⟩
theorem Fm.trans (h : Fm n S S') (k : Fm k0 S' S'') : Fm (n + k0) S S'' := ⟨k.m0.trans h.m0, k.m1.trans h.m1, by have := h.ar; have := k.ar; omega⟩
theorem Fr.le (h : Fr n S S') (hn : n ≤ k0) : Fr k0 S S' := ⟨h.alt, h.s0, h.s1, h.g0, h.g1, by have := h.ar; omega⟩
theorem Fm.le (h : Fm n S S') (hn : n ≤ k0) : Fm k0 S S' := ⟨h.m0, h.m1, by have := h.ar; omega⟩
theorem Fr.of (e1 : S'.alt = S.alt) (e2 : S'.s0 = S.s0) (e3 : S'.s1 = S.s1) (e4 : S'.g0 = S.g0) (e5 : S'.g1 = S.g1) (e6 : S'.areas = S.areas) : Fr 0 S S' := ⟨e1, e2, e3, e4 ▸ same.refl _, e5 ▸ same.refl _, by rw [e6]; omega⟩
theorem fr_withG (S : Sc) {G : GS} (h : same S.g G) : Fr 0 S (S.withG G) := by
  unfold Sc.withG
  unfold Sc.g at h
  cases hS : S.alt <;> rw [hS] at h <;> simp only [Bool.false_eq_true, if_false, if_true] at h ⊢
  · exact ⟨hS.symm ▸ rfl, rfl, rfl, h, same.refl _, by show S.areas.length ≤ _; omega⟩
  · exact ⟨hS.symm ▸ rfl, rfl, rfl, same.refl _, h, by show S.areas.length ≤ _; omega⟩
theorem fr_to (S : Sc) (r c : Int) : Fr 0 S (S.to r c) := Fr.of rfl rfl rfl rfl rfl rfl
theorem fr_dry (S : Sc) : Fr 0 S S.dry := Fr.of rfl rfl rfl rfl rfl rfl
theorem scrollG_same (G : GS) (top past n : Int) (a : Attr) : same G (scrollG G top past n a) := by
  unfold scrollG
  split
  · exact same.refl _
  · split <;> exact ⟨rfl, rfl, rfl⟩
theorem fr_scroll (S : Sc) (t p n : Int) : Fr 0 S (S.scroll t p n) := fr_withG S (scrollG_same _ _ _ _ _)
theorem fr_index (S : Sc) : Fr 0 S S.index := by
  unfold Sc.index
  split
  · exact (fr_dry S).trans (fr_scroll _ _ _ _)
  · exact (fr_dry S).trans (fr_to _ _ _)
theorem fr_reverse (S : Sc) : Fr 0 S S.reverse := by
  unfold Sc.reverse
  split
  · exact (fr_dry S).trans (fr_scroll _ _ _ _)
  · exact (fr_dry S).trans (fr_to _ _ _)
theorem fr_change (S : Sc) (f : List Cell → List Cell) : Fr 0 S (S.change f) := by
  unfold Sc.change
  split
  · exact fr_withG S ⟨rfl, rfl, rfl⟩
  · exact Fr.refl _ _
theorem fr_laid (S : Sc) (r w : Int) (b : Bool) : Fr 0 S (S.laid r w b) := by
  unfold Sc.laid
  dsimp only
  have h := fr_change S (S.putL r w)
  split
  · exact h.trans (k0 := 0) (Fr.of rfl rfl rfl rfl rfl rfl)
  · exact h.trans (k0 := 0) (Fr.of rfl rfl rfl rfl rfl rfl)
theorem fr_next (S : Sc) : Fr 0 S S.next := (fr_to S S.c.Row 0).trans (fr_index _)
theorem fr_layX (S : Sc) (b : Bool) : Fr 0 S (S.layX b) := by
  unfold Sc.layX
  split
  · exact fr_next S
  · exact Fr.refl _ _
theorem fr_layY (S : Sc) (c : Nat) (r w : Int) (b : Bool) : Fr 0 S (S.layY c r w b) := by
  unfold Sc.layY
  split
  · split
    · exact Fr.refl _ _
    · split
      · exact (fr_next S).trans (fr_laid _ _ _ _)
      · exact (Fr.of (S := S) (S' := S.setCol (w64 (c - w))) rfl rfl rfl rfl rfl rfl).trans (fr_laid _ _ _ _)
  · exact fr_laid _ _ _ _
theorem fr_lay (S : Sc) (r : Int) : Fr 0 S (S.lay r) := by
  unfold Sc.lay
  split
  · exact Fr.refl _ _
  · have h1 : Fr 0 S { S with char := r } := Fr.of rfl rfl rfl rfl rfl rfl
    exact ((h1.trans (fr_layX _ _)).trans (fr_dry _)).trans (fr_layY _ _ _ _ _)
theorem fr_print (S : Sc) (r : Int) : Fr 0 S (S.print r) := by
  unfold Sc.print
  split <;> exact fr_lay _ _
theorem fr_restore (S : Sc) : Fr 0 S S.restore := Fr.of rfl rfl rfl rfl rfl rfl
theorem fr_fillRow (S : Sc) (r f t : Int) : Fr 0 S (S.fillRow r f t) := by
  unfold Sc.fillRow
  split
  · exact fr_withG S ⟨rfl, rfl, rfl⟩
  · exact Fr.refl _ _
theorem fr_fills (S : Sc) (r f t : Int) : ∀ n, Fr 0 S (S.fills r f t n)
  | 0 => Fr.refl _ _
  | n + 1 => (fr_fills S r f t n).trans (fr_fillRow _ _ _ _)
theorem fr_erase (S : Sc) (r rs f t : Int) : Fr 1 S (S.erase r rs f t) := by
  unfold Sc.erase
  split
  · exact Fr.refl _ _
  · have h := fr_fills S r f t rs.toNat
    exact h.trans (k0 := 1) ⟨rfl, rfl, rfl, same.refl _, same.refl _, by dsimp only; rw [List.length_append]; simp⟩
theorem fr_lays (S : Sc) (r : Int) : ∀ n, Fr 0 S (S.lays r n)
  | 0 => Fr.refl _ _
  | n + 1 => (fr_lays S r n).trans (fr_lay _ _)
theorem fr_again (S : Sc) (n : Int) : Fr 0 S (S.again n) := by
  unfold Sc.again
  split
  · exact fr_lays _ _ _
  · exact Fr.refl _ _
theorem fr_forget (S : Sc) : Fr 0 S S.forget := fr_withG S ⟨rfl, rfl, rfl⟩
theorem fr_display (S : Sc) (h : Int) : Fr 2 S (S.display h) := by
  unfold Sc.display
  dsimp only
  split
  · exact ((fr_erase S _ _ _ _).trans (fr_erase _ _ _ _ _)).trans (fr_dry _)
  · split
    · exact ((fr_erase S _ _ _ _).trans (fr_erase _ _ _ _ _)).trans (fr_dry _)
    · split
      · exact ((fr_erase S _ _ _ _).trans (fr_dry _)).le (by omega)
      · split
        · exact (fr_forget S).le (by omega)
        · exact Fr.refl _ _
theorem fr_inLine (S : Sc) (h : Int) : Fr 1 S (S.inLine h) := by
  unfold Sc.inLine
  split
  · exact (fr_erase S _ _ _ _).trans (fr_dry _)
  · split
    · exact (fr_erase S _ _ _ _).trans (fr_dry _)
    · split
      · exact (fr_erase S _ _ _ _).trans (fr_dry _)
      · exact Fr.refl _ _
theorem fr_cells (S : Sc) (c n : Int) : Fr 1 S (S.cells c n) := by
  unfold Sc.cells
  dsimp only
  split
  · exact ((fr_dry S).trans (fr_erase _ _ _ _ _)).le (by omega)
  · exact ((fr_dry S).trans (fr_change _ _)).le (by omega)
theorem fr_lines (S : Sc) (c n : Int) : Fr 0 S (S.lines c n) := by
  unfold Sc.lines
  split
  · exact Fr.refl _ _
  · exact (fr_scroll S _ _ _).trans (fr_to _ _ _)
theorem fr_ite {P : Prop} [Decidable P] {A B : Sc} (h1 : P → Fr n S A) (h2 : ¬ P → Fr n S B) : Fr n S (if P then A else B) := by
  by_cases h : P
  · rw [if_pos h]; exact h1 h
  · rw [if_neg h]; exact h2 h
theorem fr_move (S : Sc) (p : List Int) (c n : Int) : Fr 0 S (S.move p c n) := by
  unfold Sc.move
  dsimp only
  have key : ∀ S1, Fr 0 S S1 → Fr 0 S (if c = 69 ∨ c = 70 then S1.to S1.c.Row 0 else S1) := by
    intro S1 h
    split
    · exact h.trans (fr_to _ _ _)
    · exact h
  refine key _ ?_
  refine fr_ite (fun _ => fr_to _ _ _) fun _ => ?_
  refine fr_ite (fun _ => fr_to _ _ _) fun _ => ?_
  refine fr_ite (fun _ => fr_to _ _ _) fun _ => ?_
  refine fr_ite (fun _ => fr_to _ _ _) fun _ => ?_
  refine fr_ite (fun _ => fr_to _ _ _) fun _ => ?_
  refine fr_ite (fun _ => fr_to _ _ _) fun _ => ?_
  refine fr_ite (fun _ => fr_to _ _ _) fun _ => ?_
  refine fr_ite (fun _ => fr_to _ _ _) fun _ => ?_
  refine fr_ite (fun _ => fr_to _ _ _) fun _ => ?_
  exact Fr.refl _ _
theorem fr_margins (S : Sc) (p : List Int) : Fr 0 S (S.margins p) := by
  unfold Sc.margins
  dsimp only
  split
  · exact Fr.refl _ _
  · exact Fr.of rfl rfl rfl rfl rfl rfl
theorem fr_modes1 (b : Bool) : ∀ (l : List Int) (S : Sc), Fr 0 S (S.modes1 b l)
  | [], S => Fr.refl _ _
  | x :: l, S => by
    have h1 : Fr 0 S (if x = 4 ∨ x = 20 then { S with modes := putL' S.modes x b } else S) := by
      split
      · exact Fr.of rfl rfl rfl rfl rfl rfl
      · exact Fr.refl _ _
    exact h1.trans (fr_modes1 b l _)
theorem fr_bare (S : Sc) (a : Attr) (p : List Int) (c : Int) (hc : c ≠ 115) : Fr 2 S (S.bare a p c) := by
  unfold Sc.bare
  dsimp only
  refine fr_ite (fun _ => Fr.refl _ _) fun _ => ?_
  refine fr_ite (fun _ => Fr.le (n := 0) (Fr.of rfl rfl rfl rfl rfl rfl) (by omega)) fun _ => ?_
  refine fr_ite (fun _ => (fr_margins _ _).le (by omega)) fun _ => ?_
  refine fr_ite (fun h => absurd h hc) fun _ => ?_
  refine fr_ite (fun _ => (fr_restore _).le (by omega)) fun _ => ?_
  refine fr_ite (fun _ => (fr_modes1 _ _ _).le (by omega)) fun _ => ?_
  refine fr_ite (fun _ => fr_ite (fun _ => Fr.le (n := 0) (Fr.of rfl rfl rfl rfl rfl rfl) (by omega)) fun _ => fr_ite (fun _ => Fr.le (n := 0) (Fr.of rfl rfl rfl rfl rfl rfl) (by omega)) fun _ => Fr.refl _ _) fun _ => ?_
  refine fr_ite (fun _ => (fr_again _ _).le (by omega)) fun _ => ?_
  refine fr_ite (fun _ => fr_display _ _) fun _ => ?_
  refine fr_ite (fun _ => (fr_inLine _ _).le (by omega)) fun _ => ?_
  refine fr_ite (fun _ => (fr_cells _ _ _).le (by omega)) fun _ => ?_
  refine fr_ite (fun _ => (fr_lines _ _ _).le (by omega)) fun _ => ?_
  refine fr_ite (fun _ => ((fr_scroll _ _ _ _).trans (fr_dry _)).le (by omega)) fun _ => ?_
  refine fr_ite (fun _ => ((fr_scroll _ _ _ _).trans (fr_dry _)).le (by omega)) fun _ => ?_
  exact (fr_move _ _ _ _).le (by omega)
theorem fr_control (S : Sc) (c : Int) : Fr 0 S (S.control c) := by
  unfold Sc.control
  split
  · exact fr_to _ _ _
  split
  · exact fr_to _ _ _
  split
  · split
    · exact (fr_index S).trans (fr_to _ _ _)
    · exact fr_index S
  split
  · exact fr_to _ _ _
  split
  · exact Fr.of rfl rfl rfl rfl rfl rfl
  · exact Fr.refl _ _
theorem fr_indexes (S : Sc) : ∀ n, Fr 0 S (S.indexes n)
  | 0 => Fr.refl _ _
  | n + 1 => (fr_indexes S n).trans (fr_index _)
theorem fr_moveP (S : Sc) (a b : Int) : Fr 0 S (S.moveP a b) := by
  unfold Sc.moveP
  dsimp only
  have h1 : Fr 0 S (if 0 ≤ a ∧ a ≤ 1000 then S.indexes a.toNat else S) := by
    split
    · exact fr_indexes _ _
    · exact Fr.refl _ _
  split
  · exact h1.trans (fr_to _ _ _)
  · exact h1
/-! ### Only what the scrollbacks may hold -/
theorem fm_save (S : Sc) : Fm 0 S S.save := by
  unfold Sc.save Sc.withS
  split <;> exact ⟨rfl, rfl, Nat.le_refl _⟩
theorem fm_bare (S : Sc) (a : Attr) (p : List Int) (c : Int) : Fm 2 S (S.bare a p c) := by
  by_cases hc : c = 115
  · subst hc
    exact (fm_save S).le (by omega)
  · exact (fr_bare S a p c hc).m
theorem fm_soft (S : Sc) : Fm 0 S S.soft := ⟨rfl, rfl, Nat.le_refl _⟩
theorem fm_show (S : Sc) (b all : Bool) : Fm 1 S (S.show_ b all) := by
  refine ⟨?_, ?_, show_areas S b all⟩
  · unfold Sc.show_
    split
    · rfl
    · dsimp only
      split
      · exact ((fr_erase _ _ _ _ _).g0.1).trans (fm_save S).m0
      · split
        · rfl
        · rfl
  · unfold Sc.show_
    split
    · rfl
    · dsimp only
      split
      · exact ((fr_erase _ _ _ _ _).g1.1).trans (fm_save S).m1
      · split
        · rfl
        · rfl
theorem fm_turn (S : Sc) (n : Int) (b : Bool) : Fm 1 S (S.turn n b) := by
  unfold Sc.turn
  split
  · exact ⟨rfl, rfl, by show S.areas.length ≤ _; omega⟩
  split
  · exact ⟨rfl, rfl, by show S.areas.length ≤ _; omega⟩
  split
  · exact fm_show _ _ _
  split
  · exact fm_show _ _ _
  · exact Fm.refl _ _
theorem fm_turns (b : Bool) : ∀ (l : List Int) (S : Sc), Fm l.length S (S.turns b l)
  | [], S => Fm.refl _ _
  | x :: l, S => by
    have h := (fm_turn S x b).trans (fm_turns b l (S.turn x b))
    exact h.le (by simp; omega)
theorem fm_tail (S : Sc) (v : Ev) : Fm 2 S (S.tailS v) := by
  unfold Sc.tailS
  split
  · exact Fm.refl _ _
  · exact fm_bare _ _ _ _
theorem fm_seq (S : Sc) (v : Ev) : Fm (v.Params.length + 2) S (S.seqS v) := by
  unfold Sc.seqS
  dsimp only
  split
  · exact ((fm_soft S).trans (fm_tail _ _)).le (by omega)
  split
  · exact (fm_turns _ _ _).trans (fm_tail _ _)
  split
  · exact Fm.refl _ _
  split
  · exact Fm.refl _ _
  split
  · exact Fm.refl _ _
  · exact (fm_tail _ _).le (by omega)
theorem fm_reset (S : Sc) : Fm 2 S S.reset := by
  refine ⟨rfl, rfl, ?_⟩
  show ((S.clear0 false).clear0 true).areas.length ≤ _
  rw [clear0_areas, clear0_areas]
  omega
theorem fm_full (S : Sc) : Fm 0 S S.full := by
  unfold Sc.full
  dsimp only
  have h := (fr_withG S (G := { S.g with L := List.replicate S.g.rows (resL ((newL S.g.cols ⟨0, 0, 0⟩).map fun c => ({ c with R := 69 } : Cell)) S.g.cols) }) ⟨rfl, rfl, rfl⟩).m
  exact ⟨h.m0, h.m1, h.ar⟩
theorem fm_single (S : Sc) (c : Int) : Fm 2 S (S.single c) := by
  unfold Sc.single
  split
  · exact ((fr_to S _ _).trans (fr_index _)).m.le (by omega)
  split
  · exact (fr_index S).m.le (by omega)
  split
  · exact (fr_reverse S).m.le (by omega)
  split
  · exact ⟨rfl, rfl, by show S.areas.length ≤ _; omega⟩
  split
  · exact (fm_save S).le (by omega)
  split
  · exact (fr_restore S).m.le (by omega)
  split
  · exact fm_reset S
  · exact Fm.refl _ _
theorem fm_escape (S : Sc) (l : List UInt8) (c : Int) : Fm 2 S (S.escape l c) := by
  unfold Sc.escape
  split
  · split
    · unfold Sc.setSet
      split <;> split <;> exact ⟨rfl, rfl, by show S.areas.length ≤ _; omega⟩
    · exact Fm.refl _ _
  split
  · split
    · exact (fm_full S).le (by omega)
    · exact Fm.refl _ _
  split
  · exact fm_single S c
  · exact Fm.refl _ _
theorem fm_do (S : Sc) (v : Ev) : Fm (v.Params.length + 2) S (S.doS v) := by
  unfold Sc.doS
  split
  · exact (fr_print S _).m.le (by omega)
  split
  · exact (fr_control S _).m.le (by omega)
  split
  · exact (fm_escape S _ _).le (by omega)
  split
  · exact fm_seq S v
  · exact Fm.refl _ _
theorem fm_resizeP (S : Sc) (rows cols : Int) : Fm 0 S (S.resizeP rows cols) := by
  have e : ∀ (S : Sc) (k : Bool) (G : GS), G.most = (S.gk k).most → (S.putG k G).g0.most = S.g0.most ∧ (S.putG k G).g1.most = S.g1.most ∧ (S.putG k G).areas = S.areas := by
    intro S k G h
    cases k
    · exact ⟨h, rfl, rfl⟩
    · exact ⟨rfl, h, rfl⟩
  have h1 := e S S.alt (resizeG (S.gk S.alt) rows.toNat cols.toNat S.c.Row) (resizeG_rc _ _ _ _).2.2
  have h2 := e (S.putG S.alt (resizeG (S.gk S.alt) rows.toNat cols.toNat S.c.Row)) (!S.alt) (resizeG (S.gk !S.alt) rows.toNat cols.toNat (cutP (S.so !S.alt).c.Row 0 (w64 ((S.gk !S.alt).rows - 1)))) (by rw [putG_other]; exact (resizeG_rc _ _ _ _).2.2)
  exact ⟨h2.1.trans h1.1, h2.2.1.trans h1.2.1, by show (S.resizeG2 rows cols).areas.length ≤ _; unfold Sc.resizeG2; rw [h2.2.2, h1.2.2]; omega⟩
end Go.Proofs.YtmoafafalnbkpaaGreatDoor

set_option linter.unusedVariables false
namespace Go.Proofs.YtmoafafalnbkpaaGreatDoor
open Go.Vc Go.RowKit
set_option maxRecDepth 400000
def evP (r : Int) : Ev := ⟨1, r, 0, 0, [], []⟩
def evC (b : Int) (ps : List Int) : Ev := ⟨4, 0, b, 0, [], ps⟩
def kw : Nat → Sc
  | 0 => (newSc 3 4 0).doS (evC 109 [31])
  | k + 1 => (kw k).doS (evP (97 + k))
theorem kw_text : (kw 5).g.L.map (fun xs => trimR (textB xs)) = [[97, 98, 99, 100], [101], []] := by kernel_rfl
theorem kw_reply : (kw 5).doR (evC 110 [6]) = [27, 91, 50, 59, 50, 82] := by kernel_rfl
theorem kw_cur : ((kw 5).doS (evC 110 [6])).c.Row = 1 ∧ ((kw 5).doS (evC 110 [6])).c.Col = 1 ∧ ((kw 5).doS (evC 110 [6])).c.A.Fg = 16777217 := ⟨by kernel_rfl, by kernel_rfl, by kernel_rfl⟩
theorem kw_areas : ∀ k, (kw k).areas.length ≤ 3 + 2 * k
  | 0 => by
    have := (fm_do (newSc 3 4 0) (evC 109 [31])).ar
    have e : (newSc 3 4 0).areas.length = 0 := rfl
    have e2 : (evC 109 [31]).Params.length = 1 := rfl
    show ((newSc 3 4 0).doS (evC 109 [31])).areas.length ≤ _
    omega
  | k + 1 => by
    have := (fm_do (kw k) (evP (97 + k))).ar
    have h := kw_areas k
    have e2 : (evP (97 + k)).Params.length = 0 := rfl
    show ((kw k).doS (evP (97 + k))).areas.length ≤ _
    omega
section
variable {w w' : World} {base g : Nat} {F F' : ScF} {S S' : Sc} {p : Slc} {ps : List Int}
theorem tab_one (h : Tab w) : 1 ≤ w.heap.size := by
  have := tab_lt (g := 0) (by kernel_rfl) h
  omega
theorem ScT.belowB (h : ScM w base g F S) (hT : ScT base g w F F' S' w') : Below base w w' := hT.chg.below h.base_le fun i hi hs => by have := (h.below i hs).1; omega
theorem ParM.nil (w : World) (g : Nat) (F : ScF) : ParM w g F ⟨none, 0, 0⟩ [] := ⟨Rd.nil _ _, .inl rfl, (fun x hx => by cases hx), by simp⟩
theorem ParM.one (h : ScM w base g F S) {b : Nat} {x : Int} (hb : Blk w b ty_int [.int .i64 x]) (hx : in64 x) (hn : ¬ scS g F b) : ParM w g F ⟨some ⟨b, 0, none⟩, 1, 1⟩ [x] :=
  ⟨rd_one (E := E_int) hb rfl, .inr fun a ha => by cases ha; exact ⟨hn, hb.lt⟩, (fun y hy => by rw [List.mem_singleton] at hy; subst hy; exact hx), by simp⟩
theorem evM_p (w : World) (g : Nat) (F : ScF) (r : Int) : EvM w g F ⟨1, r, 0, 0, ⟨#[]⟩, ⟨none, 0, 0⟩, ⟨none, 0, 0⟩⟩ (evP r) :=
  ⟨rfl, rfl, rfl, rfl, rfl, ParM.nil _ _ _, ⟨Int.le_refl 0, by show (0 : Int) ≤ 255; omega⟩, ⟨Int.le_refl 0, by show (0 : Int) ≤ 255; omega⟩, by show (0 : Nat) ≤ _; omega⟩
theorem evM_c (hp : ParM w g F p ps) {b : Int} (hb : 0 ≤ b ∧ b ≤ 255) : EvM w g F ⟨4, 0, b, 0, ⟨#[]⟩, p, ⟨none, 0, 0⟩⟩ (evC b ps) :=
  ⟨rfl, rfl, rfl, rfl, rfl, hp, hb, ⟨Int.le_refl 0, by show (0 : Int) ≤ 255; omega⟩, by show (0 : Nat) ≤ _; omega⟩
/-- A CSI with one parameter. -/
theorem csi1 (h : ScM w base g F S) (hT : Tab w) (h1b : 1 ≤ base) {b x : Int} (hx : in64 x) (hb : 0 ≤ b ∧ b ≤ 255) (ha : S.areas.length ≤ 600000000) {K : Slc → World → Prop}
    (hK : ∀ q F' w', Rd E_uint8 w' q (S.doR (evC b [x])) → ScT base g w F F' (S.doS (evC b [x])) w' → K q w') :
    nw ty_int [(.int .i64 x)] w fun t w3 => c_screen_Screen_Do (some ⟨g, 0, none⟩) (⟨4, 0, b, 0, (⟨#[]⟩ : ByteArray), ⟨(some t), 1, 1⟩, ⟨none, 0, 0⟩⟩ : T_parse_Event) w3 K := by
  refine nw_blk fun w1 hb1 hB1 hs1 => ?_
  have h1 := ScT.of_ext h hB1
  have hn : ¬ scS g F w.heap.size := fun hs => by have := (h.below _ hs).2; omega
  refine Do_spec h1.m (evM_c (ParM.one h1.m hb1 hx hn) hb) (hT.ext hB1) h1b (by show S.areas.length + 1 ≤ _; omega) fun q F2 w2 hq hT2 => hK q F2 w2 hq (h1.trans hT2)
theorem known17_spec (hT : Tab w) {K : Bool → World → Prop} (hK : ∀ w', Below w.heap.size w w' → K true w') : c_phosphorlaw17_known w K := by
  refine call_phosphorlaw17_known ?_
  unfold sh_phosphorlaw17_known
  have h1b := tab_one hT
  refine sNew_spec (fun hbad => absurd (show okC ⟨3, 4, 1, 1, 0, 0⟩ by unfold okC; decide) hbad) fun _ g F w1 hM hB1 => ?_
  have hT1 := hT.ext hB1
  refine joinP_of fun J1 hJ1 => cond_f rfl (cond_f rfl (hJ1 _ _ ?_))
  refine csi1 hM hT1 h1b (by unfold in64; omega) (by omega) (by show (0 : Nat) ≤ _; omega) fun q0 F2 w2 hq0 hT2 => ?_
  refine loopP_rule (fun (st : Int × Unit) w3 => ∃ (k : Nat) (F3 : ScF), st.1 = (k : Int) ∧ k ≤ 5 ∧ ScT w.heap.size g w1 F F3 (kw k) w3) (fun st => 5 - st.1.toNat) ⟨0, F2, rfl, by omega, hT2⟩ ?_
  rintro ⟨i, u⟩ w3 ⟨k, F3, hi, hk, hT3⟩ I hI
  dsimp only at hi ⊢
  subst hi
  have t3 := hT1.step hM h1b hT3
  have har := kw_areas k
  refine cond_of (fun e => ?_) fun e => ?_
  · have e := of_decide_eq_true e
    have ew : IntKind.i32.wrap (IntKind.i64.wrap (97 + (k : Int))) = 97 + (k : Int) := by
      rw [wrap64_id (by omega)]
      obtain ⟨m, hm⟩ : ∃ m : Nat, 97 + (k : Int) = m := ⟨97 + k, by omega⟩
      rw [hm]
      exact wrap_nat .i32 (by show _ < 2 ^ 31; omega)
    rw [ew]
    refine Do_spec hT3.m (evM_p _ _ _ _) t3 h1b (by show _ + 0 ≤ _; omega) fun q F4 w4 hq hT4 => ?_
    rw [wrap64_id (x := (k : Int) + 1) (by omega)]
    exact hI _ _ ⟨k + 1, F4, by simp, by omega, hT3.trans hT4⟩ (by dsimp only; omega)
  · have e := of_decide_eq_false e
    have hk5 : k = 5 := by omega
    subst hk5
    refine csi1 hT3.m t3 h1b (by unfold in64; omega) (by omega) (by omega) fun q F4 w4 hq hT4 => ?_
    rw [kw_reply] at hq
    have h4 := hT3.trans hT4
    have ed : (kw 5).doS (evC 110 [6]) = kw 5 := by kernel_rfl
    rw [ed] at h4 hT4
    refine Grid_spec h4.m fun f5 w5 hg5 hf5 hM5 hB5 => cond_f rfl ?_
    have h5 := h4.ext hB5
    have hGo := h4.m.gOk
    refine gText_spec hg5 hGo.len hGo.rows.2 (fun xs hx => by have := (hGo.L xs hx).2.1; have := hGo.cols.2; omega) fun r w6 hr hB6 => ?_
    have h6 := h5.ext hB6
    have hq6 := (hq.ext hB5).ext hB6
    refine Cursor_spec h6.m fun w7 hB7 => ?_
    have h7 := h6.ext hB7
    refine nw_blk fun w8 hc8 hB8 hs8 => all_of hc8 rfl fun w9 hc9 hcc hs9 => ?_
    have hB89 : Below w7.heap.size w7 w9 := below_one hB8 hcc (Nat.le_refl _)
    have h9 := h7.ext hB89
    have hr9 := (hr.rd.ext hB7).ext hB89
    have hq9 := (hq6.ext hB7).ext hB89
    have etx : (kw 5).g.L.map textS = [strOf [97, 98, 99, 100], strOf [101], strOf []] := by
      have := congrArg (List.map strOf) kw_text
      rw [List.map_map] at this
      exact this
    rw [etx] at hr9
    have hn : r.n = 3 := hr9.n
    refine cond_t (by rw [hn]; rfl) ?_
    have tr : ∀ {K : Prop}, K → K := id
    refine hr9.ix (i := 0) rfl (by decide) (by decide) fun hx => ldStr_of (x := strOf [97, 98, 99, 100]) (by simpa using hx 0 _ rfl) ?_
    refine cond_t (by rw [strOf_toList]; kernel_rfl) ?_
    refine hr9.ix (i := 1) rfl (by decide) (by decide) fun hx => ldStr_of (x := strOf [101]) (by simpa using hx 0 _ rfl) ?_
    refine cond_t (by rw [strOf_toList]; kernel_rfl) ?_
    refine toStr_spec hq9 ?_
    refine cond_t (by rw [strB_toList]; kernel_rfl) ?_
    obtain ⟨c1, c2, c3⟩ := kw_cur
    rw [ed] at c1 c2 c3
    refine ldI_of (x := (kw 5).c.Row) (by rw [add_mk]; exact hc9.cell 0 rfl) ?_
    refine cond_t (by rw [c1]; rfl) ?_
    refine ldI_of (x := (kw 5).c.Col) (by rw [add_mk]; exact hc9.cell 1 rfl) ?_
    refine cond_t (by rw [c2]; rfl) ?_
    refine ldI_of (x := (kw 5).c.A.Fg) (by simp only [add_mk]; exact hc9.cell 3 rfl) ?_
    have e3 : ((kw 5).c.A.Fg == 16777217) = true := by rw [c3]; rfl
    rw [e3]
    refine hK w9 ?_
    exact hB1.trans ((ScT.belowB hM h9).mono (Nat.le_refl _))
end
end Go.Proofs.YtmoafafalnbkpaaGreatDoor

set_option linter.unusedVariables false
namespace Go.Proofs.YtmoafafalnbkpaaGreatDoor
open Go.Vc Go.RowKit
set_option maxRecDepth 400000
def evQ (b : Int) (ps : List Int) : Ev := ⟨4, 0, b, 63, [], ps⟩
theorem enc_ne {b : Int} (hb : 0 ≤ b ∧ b ≤ 255) : (Utf8.encode b).data.toList ≠ [33, 112] := by
  intro h
  have hv : Utf8.valid b = true := by
    unfold Utf8.valid
    simp
    omega
  by_cases h2 : b < 128
  · unfold Utf8.encode at h
    simp only [hv, if_true] at h
    rw [if_pos (by omega)] at h
    have := congrArg List.length h
    simp at this
  · have hf := (encode_facts b hv (by omega)).2.2
    have hs : (Utf8.encode b).size = 2 := by
      have := congrArg List.length h
      simpa using this
    have h1 := hf (by omega)
    have e : (Utf8.encode b)[(Utf8.encode b).size - 1]'(by omega) = 112 := by
      show (Utf8.encode b).data[(Utf8.encode b).size - 1]'_ = 112
      have h3 : (Utf8.encode b).data.toList[1]? = some 112 := by rw [h]; rfl
      rw [Array.getElem?_toList] at h3
      have := (Array.getElem?_eq_some_iff.1 h3).2
      rw [← this]
      congr 1
      omega
    rw [e] at h1
    exact absurd h1 (by decide)
theorem key_c {b : Int} : seqKey 0 [] b = 0 :: (Utf8.encode b).data.toList := rfl
theorem doS_c (S : Sc) {b : Int} (hb : 0 ≤ b ∧ b ≤ 255) (ps : List Int) : S.doS (evC b ps) = S.bare (applyP S.c.A ps) ps b := by
  show S.seqS (evC b ps) = _
  unfold Sc.seqS
  have e : seqKey (evC b ps).Private (evC b ps).Inter (evC b ps).B = 0 :: (Utf8.encode b).data.toList := key_c
  dsimp only
  rw [e]
  have hn := enc_ne hb
  rw [if_neg (fun h => hn (by injection h)), if_neg (fun h => h.elim (fun h => by injection h with h _; cases h) fun h => by injection h with h _; cases h),
    if_neg (fun h => by have h := h.1; injection h with h _; cases h), if_neg (fun h => by have h := h.1; injection h with h _; cases h), if_neg (fun h => by injection h with h _; cases h)]
  unfold Sc.tailS
  rw [if_neg (fun h => h.elim (fun h => h rfl) fun h => h rfl)]
  rfl
theorem doS_p (S : Sc) (r : Int) : S.doS (evP r) = S.print r := rfl
section
variable {w w' : World} {base g : Nat} {F F' : ScF} {S S' : Sc} {p : Slc} {ps : List Int}
theorem evM_q (hp : ParM w g F p ps) {b : Int} (hb : 0 ≤ b ∧ b ≤ 255) : EvM w g F ⟨4, 0, b, 63, ⟨#[]⟩, p, ⟨none, 0, 0⟩⟩ (evQ b ps) :=
  ⟨rfl, rfl, rfl, rfl, rfl, hp, hb, ⟨by show (0 : Int) ≤ 63; omega, by show (63 : Int) ≤ 255; omega⟩, by show (0 : Nat) ≤ _; omega⟩
theorem csi_spec (h : ScM w base g F S) (hT : Tab w) (h1b : 1 ≤ base) (hp : ParM w g F p ps) {b : Int} (hb : 0 ≤ b ∧ b ≤ 255) (ha : S.areas.length + ps.length ≤ 700000000) {K : World → Prop}
    (hK : ∀ F' w', ScT base g w F F' (S.bare (applyP S.c.A ps) ps b) w' → K w') : c_phosphorlaw17_csi (some ⟨g, 0, none⟩) b p w K := by
  refine call_phosphorlaw17_csi _ _ _ ?_
  unfold sh_phosphorlaw17_csi
  refine Do_spec h (evM_c hp hb) hT h1b ha fun q F1 w1 _ hT1 => ?_
  rw [doS_c S hb] at hT1
  exact hK _ _ hT1
theorem ParM.two (h : ScM w base g F S) {b : Nat} {x y : Int} (hb : Blk w b ty_int [.int .i64 x, .int .i64 y]) (hx : in64 x) (hy : in64 y) (hn : ¬ scS g F b) : ParM w g F ⟨some ⟨b, 0, none⟩, 2, 2⟩ [x, y] :=
  ⟨rd_lits (E := E_int) (ys := [x, y]) hb (by simp [maxLen]) rfl, .inr fun a ha => by cases ha; exact ⟨hn, hb.lt⟩, (fun z hz => by simp only [List.mem_cons, List.mem_nil_iff, or_false] at hz; rcases hz with rfl | rfl; exact hx; exact hy), by simp⟩
theorem csi2 (h : ScM w base g F S) (hT : Tab w) (h1b : 1 ≤ base) {b x y : Int} (hx : in64 x) (hy : in64 y) (hb : 0 ≤ b ∧ b ≤ 255) (ha : S.areas.length ≤ 600000000) {K : World → Prop}
    (hK : ∀ F' w', ScT base g w F F' (S.bare (applyP S.c.A [x, y]) [x, y] b) w' → K w') :
    nw ty_int [(.int .i64 x), (.int .i64 y)] w fun t w3 => c_phosphorlaw17_csi (some ⟨g, 0, none⟩) b ⟨(some t), 2, 2⟩ w3 K := by
  refine nw_blk fun w1 hb1 hB1 hs1 => ?_
  have h1 := ScT.of_ext h hB1
  have hn : ¬ scS g F w.heap.size := fun hs => by have := (h.below _ hs).2; omega
  exact csi_spec h1.m (hT.ext hB1) h1b (ParM.two h1.m hb1 hx hy hn) hb (by simp only [List.length_cons, List.length_nil]; omega) fun F2 w2 hT2 => hK F2 w2 (h1.trans hT2)
theorem made_spec {rows cols : Int} {K : Option Addr → World → Prop} (hr : 1 ≤ rows ∧ rows ≤ 1000) (hc : 1 ≤ cols ∧ cols ≤ 1000)
    (hK : ∀ g F w', ScM w' w.heap.size g F (newSc rows.toNat cols.toNat 10) → Below w.heap.size w w' → K (some ⟨g, 0, none⟩) w') : c_phosphorlaw17_made rows cols w K := by
  refine call_phosphorlaw17_made _ _ ?_
  unfold sh_phosphorlaw17_made
  have hok : okC ⟨rows, cols, 1, 1, 10, 0⟩ := ⟨hr, hc, by dsimp only; omega, by dsimp only; omega, by dsimp only; omega, by dsimp only; omega⟩
  exact sNew_spec (fun hbad => absurd hok hbad) fun _ g F w1 hM hB1 => cond_f rfl (hK g F w1 hM hB1)
end
/-! ### ScreenMoves -/
def mvS (R C : Nat) (row col top past : Int) (origin : Bool) : Sc :=
  let S1 := (newSc R C 10).margins [w64 (top + 1), past]
  let S2 := if origin then S1.turn 6 true else S1
  S2.to (S2.asked (paramP [row, col] 0 1)) (w64 (paramP [row, col] 1 1 - 1))
theorem bare_r (S : Sc) (a : Attr) (ps : List Int) : S.bare a ps 114 = S.margins ps := by kernel_rfl
theorem bare_H (S : Sc) (a : Attr) (ps : List Int) : S.bare a ps 72 = S.to (S.asked (paramP ps 0 1)) (w64 (paramP ps 1 1 - 1)) := by kernel_rfl
theorem cutP_id {v lo hi : Int} (h1 : lo ≤ v) (h2 : v ≤ hi) : cutP v lo hi = v := by
  unfold cutP
  split <;> split at * <;> omega
theorem marg_new (R C : Nat) (hR : 2 ≤ R ∧ R ≤ 20) {top past : Int} (ht : 0 ≤ top) (hp : 2 ≤ past ∧ past ≤ R) (htp : top ≤ past - 2) :
    (newSc R C 10).margins [w64 (top + 1), past] = ({ newSc R C 10 with top := top, past := past } : Sc).home := by
  have e1 : w64 (top + 1) = top + 1 := w64_of (by omega)
  have p1 : paramP [w64 (top + 1), past] 0 1 = top + 1 := by
    unfold paramP
    show (if w64 (top + 1) = 0 then 1 else w64 (top + 1)) = _
    rw [e1, if_neg (by omega)]
  have p2 : paramP [w64 (top + 1), past] 1 R = past := by
    unfold paramP
    show (if past = 0 then (R : Int) else past) = _
    rw [if_neg (by omega)]
  have er : ((newSc R C 10).g.rows : Int) = R := rfl
  unfold Sc.margins
  dsimp only
  rw [er, p1, p2]
  have e2 : w64 (top + 1 - 1) = top := by rw [show top + 1 - 1 = top by omega]; exact w64_of (by omega)
  rw [e2, cutP_id (v := top) (by omega) (by omega), cutP_id (v := past) (by omega) (by omega), w64_of (x := past - top) (by omega), if_neg (by omega)]
theorem mv_law (R C : Nat) (hR : 2 ≤ R ∧ R ≤ 20) (hC : 1 ≤ C ∧ C ≤ 20) {row col top past : Int} (hrow : 0 ≤ row ∧ row ≤ 65535) (hcol : 0 ≤ col ∧ col ≤ 65535) (ht : 0 ≤ top) (hp : 2 ≤ past ∧ past ≤ R) (htp : top ≤ past - 2) (origin : Bool) :
    (mvS R C row col top past origin).top = top ∧ (mvS R C row col top past origin).past = past ∧ (mvS R C row col top past origin).c.Wrap = false ∧
    (mvS R C row col top past origin).c.Row = (if (if origin then top else 0) + (if row = 0 then 1 else row) - 1 > (if origin then past - 1 else R - 1) then (if origin then past - 1 else (R : Int) - 1) else (if origin then top else 0) + (if row = 0 then 1 else row) - 1) ∧
    (mvS R C row col top past origin).c.Col = (if (if col = 0 then 1 else col) > C then (C : Int) else (if col = 0 then 1 else col)) - 1 := by
  obtain ⟨r, hr⟩ : ∃ r, r = (if row = 0 then 1 else row) := ⟨_, rfl⟩
  obtain ⟨c, hc⟩ : ∃ c, c = (if col = 0 then 1 else col) := ⟨_, rfl⟩
  have p1 : paramP [row, col] 0 1 = r := by rw [hr]; rfl
  have p2 : paramP [row, col] 1 1 = c := by rw [hc]; rfl
  rw [← hr, ← hc]
  have hrr : 1 ≤ r ∧ r ≤ 65535 := by rw [hr]; split <;> omega
  have hcc : 1 ≤ c ∧ c ≤ 65535 := by rw [hc]; split <;> omega
  have w1 : w64 ((R : Int) - 1) = R - 1 := w64_of (by omega)
  have w2 : w64 ((C : Int) - 1) = C - 1 := w64_of (by omega)
  have w3 : w64 (c - 1) = c - 1 := w64_of (by omega)
  have w4 : w64 (past - 1) = past - 1 := w64_of (by omega)
  have w5 : w64 (r - 1) = r - 1 := w64_of (by omega)
  have w6 : w64 (w64 (top + r) - 1) = top + r - 1 := by rw [w64_of (x := top + r) (by omega)]; exact w64_of (by omega)
  have hm := marg_new R C hR ht hp htp
  unfold mvS
  dsimp only
  rw [hm, p1, p2, w3]
  have key : ∀ S2 : Sc, S2.g.rows = R → S2.g.cols = C → S2.top = top → S2.past = past → S2.c.Origin = origin →
      (S2.to (S2.asked r) (c - 1)).top = top ∧ (S2.to (S2.asked r) (c - 1)).past = past ∧ (S2.to (S2.asked r) (c - 1)).c.Wrap = false ∧
      (S2.to (S2.asked r) (c - 1)).c.Row = (if (if origin then top else 0) + r - 1 > (if origin then past - 1 else R - 1) then (if origin then past - 1 else (R : Int) - 1) else (if origin then top else 0) + r - 1) ∧
      (S2.to (S2.asked r) (c - 1)).c.Col = (if c > C then (C : Int) else c) - 1 := by
    intro S2 h1 h2 h3 h4 h5
    refine ⟨h3, h4, rfl, ?_, ?_⟩
    · show cutP (S2.asked r) 0 (w64 ((S2.g.rows : Int) - 1)) = _
      rw [h1, w1]
      unfold Sc.asked
      rw [h3, h4, h5, w6, w4, w5]
      cases origin
      · simp only [Bool.false_eq_true, if_false]
        unfold cutP
        split <;> split at * <;> split <;> omega
      · simp only [if_true]
        unfold cutP
        split <;> split at * <;> split <;> split at * <;> split <;> split at * <;> omega
    · show cutP (c - 1) 0 (w64 ((S2.g.cols : Int) - 1)) = _
      rw [h2, w2]
      unfold cutP
      split <;> split at * <;> split <;> omega
  cases origin
  · exact key _ rfl rfl rfl rfl rfl
  · exact key _ rfl rfl rfl rfl rfl
end Go.Proofs.YtmoafafalnbkpaaGreatDoor

set_option linter.unusedVariables false
namespace Go.Proofs.YtmoafafalnbkpaaGreatDoor
open Go.Vc Go.RowKit
set_option maxRecDepth 400000
theorem doS_org (S : Sc) : S.doS (evQ 104 [6]) = S.turn 6 true := by kernel_rfl
theorem moves_law {w : World} (hT : Tab w) (rows cols row col top past : Int) (origin : Bool) {K : Bool → World → Prop} (hK : ∀ w', Below w.heap.size w w' → K true w') : c_phosphorlaw17_ScreenMoves rows cols row col top past origin w K := by
  refine call_phosphorlaw17_ScreenMoves _ _ _ _ _ _ _ ?_
  unfold sh_phosphorlaw17_ScreenMoves
  refine known17_spec hT fun w1 hB1 => cond_f rfl (joinP_of fun J1 hJ1 => ?_)
  have hT1 := hT.ext hB1
  have done := hK w1 hB1
  refine cond_of (fun _ => done) fun c1 => cond_of (fun _ => done) fun c2 => cond_of (fun _ => done) fun c3 => cond_of (fun _ => done) fun c4 => cond_of (fun _ => done) fun c5 => cond_of (fun _ => done) fun c6 => cond_of (fun _ => done) fun c7 => cond_of (fun _ => done) fun c8 => cond_of (fun _ => done) fun c9 => cond_of (fun _ => done) fun c10 => cond_of (fun _ => done) fun c11 => cond_of (fun _ => done) fun c12 => hJ1 _ _ ?_
  have c1 := of_decide_eq_false c1
  have c2 := of_decide_eq_false c2
  have c3 := of_decide_eq_false c3
  have c4 := of_decide_eq_false c4
  have c5 := of_decide_eq_false c5
  have c6 := of_decide_eq_false c6
  have c7 := of_decide_eq_false c7
  have c8 := of_decide_eq_false c8
  have c9 := of_decide_eq_false c9
  have c10 := of_decide_eq_false c10
  have c11 := of_decide_eq_false c11
  have c12 := of_decide_eq_false c12
  rw [wrap64_id (x := past - 2) (by omega)] at c12
  clear done hJ1 J1
  obtain ⟨R, rfl⟩ : ∃ R : Nat, rows = R := ⟨rows.toNat, by omega⟩
  obtain ⟨C, rfl⟩ : ∃ C : Nat, cols = C := ⟨cols.toNat, by omega⟩
  have hlaw := mv_law R C (by omega) (by omega) (row := row) (col := col) (top := top) (past := past) (by omega) (by omega) (by omega) (by omega) (by omega) origin
  refine made_spec (by omega) (by omega) fun g F w2 hM hB2 => cond_f rfl ?_
  rw [Int.toNat_natCast, Int.toNat_natCast] at hM
  have h1b := tab_one hT1
  have hT2 := hT1.ext hB2
  refine csi2 hM hT2 h1b (ScM.w64n _) (by unfold in64; omega) (by omega) (by show (0 : Nat) ≤ _; omega) fun F3 w3 hT3 => ?_
  rw [bare_r] at hT3
  obtain ⟨S1, hS1⟩ : ∃ S1, S1 = (newSc R C 10).margins [w64 (top + 1), past] := ⟨_, rfl⟩
  rw [← hS1] at hT3
  have a1 : S1.areas.length ≤ 10 := by rw [hS1]; have := (fr_margins (newSc R C 10) [w64 (top + 1), past]).ar; have e : (newSc R C 10).areas.length = 0 := rfl; omega
  have t3 := hT2.step hM h1b hT3
  refine joinP_of fun J2 hJ2 => ?_
  have key : ∀ (S2 : Sc) F4 w4, ScT w1.heap.size g w2 F F4 S2 w4 → S2.areas.length ≤ 10 → S2 = (if origin then S1.turn 6 true else S1) → J2 (if origin then top else 0, if origin then IntKind.i64.wrap (past - 1) else IntKind.i64.wrap (R - 1), ()) w4 := by
    intro S2 F4 w4 hT4 a2 hS2
    refine hJ2 _ _ ?_
    have t4 := hT2.step hM h1b hT4
    refine csi2 hT4.m t4 h1b (by unfold in64; omega) (by unfold in64; omega) (by omega) (by omega) fun F5 w5 hT5 => ?_
    rw [bare_H] at hT5
    have h5 := hT4.trans hT5
    have eS : S2.to (S2.asked (paramP [row, col] 0 1)) (w64 (paramP [row, col] 1 1 - 1)) = mvS R C row col top past origin := by
      rw [hS2, hS1]
      rfl
    rw [eS] at h5
    obtain ⟨l1, l2, l3, l4, l5⟩ := hlaw
    obtain ⟨r, hr⟩ : ∃ r, r = (if row = 0 then 1 else row) := ⟨_, rfl⟩
    obtain ⟨c, hc⟩ : ∃ c, c = (if col = 0 then 1 else col) := ⟨_, rfl⟩
    rw [← hr] at l4
    rw [← hc] at l5
    have hrr : 1 ≤ r ∧ r ≤ 65535 := by rw [hr]; split <;> omega
    have hcc : 1 ≤ c ∧ c ≤ 65535 := by rw [hc]; split <;> omega
    have wp : IntKind.i64.wrap (past - 1) = past - 1 := wrap64_id (by omega)
    have wr : IntKind.i64.wrap ((R : Int) - 1) = R - 1 := wrap64_id (by omega)
    rw [wp, wr]
    refine joinP_of fun J3 hJ3 => ?_
    have k3 : J3 (r, ()) w5 := by
      refine hJ3 _ _ (joinP_of fun J4 hJ4 => ?_)
      have k4 : J4 (c, ()) w5 := by
        refine hJ4 _ _ (joinP_of fun J5 hJ5 => ?_)
        dsimp only
        have wx : IntKind.i64.wrap (IntKind.i64.wrap ((if origin then top else 0) + r) - 1) = (if origin then top else 0) + r - 1 := by
          rw [wrap64_id (x := (if origin then top else 0) + r) (by split <;> omega)]
          exact wrap64_id (by split <;> omega)
        rw [wx]
        have k5 : J5 ((mvS R C row col top past origin).c.Row, ()) w5 := by
          refine hJ5 _ _ (joinP_of fun J6 hJ6 => ?_)
          have k6 : J6 (if c > C then (C : Int) else c, ()) w5 := by
            refine hJ6 _ _ ?_
            refine Cursor_spec h5.m fun w6 hB6 => ?_
            have h6 := h5.ext hB6
            refine nw_blk fun w7 hu7 hB7 hs7 => all_of hu7 rfl fun w8 hu8 hc8 hs8 => ?_
            have hB78 : Below w6.heap.size w6 w8 := below_one hB7 hc8 (Nat.le_refl _)
            have h8 := h6.ext hB78
            refine Margins_spec h8.m ?_
            have hud := hu8.drew
            refine ldI_of (x := (mvS R C row col top past origin).c.Row) (by rw [add_mk]; exact hud.cell 0 rfl) ?_
            refine cond_t (beq_iff_eq.2 rfl) ?_
            refine ldI_of (x := (mvS R C row col top past origin).c.Col) (by rw [add_mk]; exact hud.cell 1 rfl) ?_
            refine cond_t (beq_iff_eq.2 ?_) ?_
            · rw [l5]
              exact (wrap64_id (by split <;> omega)).symm
            refine cond_t (beq_iff_eq.2 l1) (cond_t (beq_iff_eq.2 l2) ?_)
            refine ldB_of (x := (mvS R C row col top past origin).c.Wrap) (by rw [add_mk]; exact hud.cell 2 rfl) ?_
            rw [l3]
            refine hK _ ?_
            have hb := ScT.belowB hM h8.drew
            exact hB1.trans ((hB2.trans hb).mono hB1.size)
          refine cond_of (fun e => ?_) fun e => ?_
          · rw [if_pos (of_decide_eq_true e)] at k6
            exact k6
          · rw [if_neg (of_decide_eq_false e)] at k6
            exact k6
        rw [l4] at k5
        refine cond_of (fun e => ?_) fun e => ?_
        · rw [if_pos (of_decide_eq_true e)] at k5
          exact k5
        · rw [if_neg (of_decide_eq_false e)] at k5
          exact k5
      refine cond_of (fun e => ?_) fun e => ?_
      · rw [if_pos (eq_of_beq e)] at hc
        rw [hc] at k4
        exact k4
      · rw [if_neg (beq_eq_false_iff_ne.1 e)] at hc
        rw [hc] at k4
        exact k4
    refine cond_of (fun e => ?_) fun e => ?_
    · rw [if_pos (eq_of_beq e)] at hr
      rw [hr] at k3
      exact k3
    · rw [if_neg (beq_eq_false_iff_ne.1 e)] at hr
      rw [hr] at k3
      exact k3
  cases origin
  · exact cond_f rfl (key _ _ _ hT3 a1 rfl)
  · refine cond_t rfl ?_
    refine nw_blk fun w4 hb4 hB4 hs4 => ?_
    have h4 := hT3.ext hB4
    have hn : ¬ scS g F3 w3.heap.size := fun hs => by have := (hT3.m.below _ hs).2; omega
    refine Do_spec h4.m (evM_q (ParM.one h4.m hb4 (by unfold in64; omega) hn) (by omega)) (t3.ext hB4) h1b (by show S1.areas.length + 1 ≤ _; omega) fun q F5 w5 _ hT5 => ?_
    rw [doS_org] at hT5
    refine key _ _ _ (h4.trans hT5) ?_ rfl
    show (S1.home).areas.length ≤ 10
    exact a1
end Go.Proofs.YtmoafafalnbkpaaGreatDoor

set_option linter.unusedVariables false
namespace Go.Vc
open Go.ChangeShapes Go.WideShapes Go.ChangeAt Go.RowKit Go.Deep
/-! ### Types that hold slices of one element type among their leaves -/
inductive Leaf2 where
  | one (l : Leaf)
  | sl (e : TypeId)
def Leaf2.ok (R : TypeId → Slc → Prop) : Leaf2 → Value → Prop
  | .one l, v => l.ok v
  | .sl e, v => ∃ s : Slc, v = .slice s.a s.n s.c ∧ R e s
def goF2 (P : Program) (g : TypeId → Option (List Leaf2)) : List Field → Nat → Option (List Leaf2)
  | [], _ => some []
  | f :: r, off =>
    match g f.type with
    | some ls => if f.offset = off ∧ P.cellsOf f.type = ls.length then (goF2 P g r (off + ls.length)).map (ls ++ ·) else none
    | none => none
def leavesL2 (P : Program) (es : List TypeId) : Nat → TypeId → Option (List Leaf2)
  | 0, _ => none
  | n + 1, t =>
    match P.underlying t with
    | some (.int k) => some [.one (.int k)]
    | some .bool => some [.one .bool]
    | some .string => some [.one .str]
    | some (.slice e) => if e ∈ es then some [.sl e] else none
    | some (.struct fs) => goF2 P (leavesL2 P es n) fs.toList 0
    | _ => none
def LeafFit2 (R : TypeId → Slc → Prop) (ls : List Leaf2) (cs : List Value) : Prop := ∀ (j : Nat) l, ls[j]? = some l → ∃ v, cs[j]? = some v ∧ l.ok R v

theorem goF2_fits {P : Program} {R : TypeId → Slc → Prop} {g : TypeId → Option (List Leaf2)} {cs : List Value} : ∀ (fs : List Field) (off : Nat) (ls : List Leaf2), goF2 P g fs off = some ls →
    (∀ f ∈ fs, ∀ lf, g f.type = some lf → P.cellsOf f.type = lf.length → LeafFit2 R lf ((cs.drop f.offset).take (P.cellsOf f.type))) → ∀ (j : Nat) l, ls[j]? = some l → ∃ v, cs[off + j]? = some v ∧ l.ok R v
  | [], _, ls, h, _, j, l, hl => by
    simp only [goF2, Option.some.injEq] at h
    subst h
    simp at hl
  | f :: r, off, ls, h, hf, j, l, hl => by
    unfold goF2 at h
    split at h
    · rename_i lf hg
      split at h
      · rename_i hc
        obtain ⟨rest, hr, e⟩ := Option.map_eq_some_iff.1 h
        subst e
        rcases Nat.lt_or_ge j lf.length with hj | hj
        · rw [List.getElem?_append_left hj] at hl
          obtain ⟨v, hv, ok⟩ := hf f (by simp) lf hg hc.2 j l hl
          rw [hc.2, List.getElem?_take_of_lt hj, List.getElem?_drop, hc.1] at hv
          exact ⟨v, hv, ok⟩
        · rw [List.getElem?_append_right hj] at hl
          obtain ⟨v, hv, ok⟩ := goF2_fits r (off + lf.length) rest hr (fun f' hf' => hf f' (by simp [hf'])) _ l hl
          exact ⟨v, by rw [← hv]; congr 1; omega, ok⟩
      · cases h
    · cases h

section
variable {H : Type} {enc : TypeId × Value → H} {P : Program} {w : World} {base : Nat} {spare : Nat → Bool} {held : Bool}
theorem trod_fits2 {R : TypeId → Slc → Prop} {es : List TypeId} (hR : ∀ {e t : TypeId} {fuel : Nat} {cs : List Value} {x : DataW H × List MemPlace}, e ∈ es → P.underlying t = some (.slice e) → DataW.trod enc P w base spare held fuel t cs = some x → ∃ s : Slc, cs = [.slice s.a s.n s.c] ∧ R e s) :
    ∀ (n : Nat) {t : TypeId} {ls : List Leaf2} {fuel : Nat} {cs : List Value} {x : DataW H × List MemPlace}, leavesL2 P es n t = some ls → DataW.trod enc P w base spare held fuel t cs = some x → LeafFit2 R ls cs
  | 0, _, _, _, _, _, h, _ => by cases h
  | n + 1, t, ls, fuel, cs, x, h, ht => by
    unfold leavesL2 at h
    split at h
    · next k hu =>
      cases h
      obtain ⟨z, rfl, _, hw⟩ := DataW.trod_int hu ht
      intro j l hl
      match j, hl with
      | 0, hl => cases hl; exact ⟨_, rfl, z, rfl, hw⟩
      | j + 1, hl => cases hl
    · next hu =>
      cases h
      obtain ⟨z, rfl, _⟩ := DataW.trod_bool hu ht
      intro j l hl
      match j, hl with
      | 0, hl => cases hl; exact ⟨_, rfl, z, rfl⟩
      | j + 1, hl => cases hl
    · next hu =>
      cases h
      obtain ⟨z, rfl, _⟩ := DataW.trod_string hu ht
      intro j l hl
      match j, hl with
      | 0, hl => cases hl; exact ⟨_, rfl, z, rfl⟩
      | j + 1, hl => cases hl
    · next e hu =>
      split at h
      · next he =>
        cases h
        obtain ⟨s, rfl, hs⟩ := hR he hu ht
        intro j l hl
        match j, hl with
        | 0, hl => cases hl; exact ⟨_, rfl, s, rfl, hs⟩
        | j + 1, hl => cases hl
      · cases h
    · next fs hu =>
      obtain ⟨xs, m, _, _, _, hxl, hf⟩ := DataW.trod_struct hu ht
      intro j l hl
      have := goF2_fits (cs := cs) fs.toList 0 ls h (fun f hfm lf hg _ => by
        obtain ⟨i, hi⟩ := List.getElem?_of_mem hfm
        rw [Array.getElem?_toList] at hi
        have h1 := hf i f hi
        have hil : i < xs.length := by rw [hxl]; exact (Array.getElem?_eq_some_iff.1 hi).1
        rw [List.getElem?_eq_getElem hil] at h1
        exact trod_fits2 hR n hg h1) j l hl
      simpa using this
    · cases h

/-- A slice of elements, by its cells; an element as the caller says. -/
theorem rd_of_cells {T : Type} (E : El T) (Q : T → Prop) {t e : TypeId} {fuel : Nat} {cs : List Value} {x : DataW H × List MemPlace} (ht : P.underlying t = some (.slice e)) (hC : P.cellsOf e = E.k)
    (mk : ∀ (fuel : Nat) (vs : List Value) (y : DataW H × List MemPlace), vs.length = E.k → DataW.trod enc P w base (fun _ => true) held fuel e vs = some y → ∃ x : T, E.cells x = vs ∧ Q x) (hf : DataW.trod enc P w base (fun _ => true) held fuel t cs = some x) : ∃ (s : Slc) (xs : List T), cs = [.slice s.a s.n s.c] ∧ Rd E w s xs ∧ ∀ x ∈ xs, Q x := by
  rcases open_slice ht hf with ⟨hcs, _⟩ | ⟨a, n0, c0, m, n', D, Pl, hcs, hb, hl, hm, hmm, hx, hi⟩
  · exact ⟨⟨none, 0, 0⟩, [], hcs, Rd.nil E w, fun x hx => by cases hx⟩
  · rw [if_pos rfl] at hmm
    have : ∀ i, i < n0 → ∃ x : T, cellsAt w (a.add (i * E.k)) (E.cells x) ∧ Q x := by
      intro i hil
      obtain ⟨cs', hc, ht'⟩ := hi i (by omega)
      rw [hC] at hc
      obtain ⟨_, hcl, hat⟩ := World.cells?_some hc
      obtain ⟨x, hx, hq⟩ := mk _ cs' _ hcl ht'
      refine ⟨x, fun j u hu => ?_, hq⟩
      rw [hx] at hu
      have hj : j < E.k := by rw [← hcl]; exact (List.getElem?_eq_some_iff.1 hu).1
      rw [hat j hj, hu]
    obtain ⟨xs, hxl, hxs⟩ := list_choose n0 this
    refine ⟨⟨some a, n0, c0⟩, xs, hcs, ⟨hxl.symm, hl, hm, fun _ => rfl, fun i x hx => (hxs i x hx).1⟩, fun x hx => ?_⟩
    obtain ⟨i, hi⟩ := List.getElem?_of_mem hx
    exact (hxs i x hi).2
end
end Go.Vc
namespace Go.Proofs.YtmoafafalnbkpaaGreatDoor
open Go.Vc Go.ChangeShapes Go.WideShapes Go.ChangeAt Go.RowKit
set_option maxRecDepth 100000
def byteLs : List Leaf := [.int .u8]
theorem byte_leaves : leavesL Tryz.prog 4 5 = some byteLs := by kernel_rfl
theorem byte_mk (vs : List Value) (hl : vs.length = 1) (h : LeafFit byteLs vs) : ∃ x : UInt8, E_uint8.cells x = vs ∧ True := by
  obtain ⟨z, h0, w0⟩ := leaf_int h 0 rfl
  have hw := (Lit.wf_int_iff _ _).1 w0
  rw [IntKind.min_u8, show IntKind.u8.max = 255 from rfl] at hw
  refine ⟨u8 z, list_of_get hl fun j hj => ?_, trivial⟩
  match j, hj with
  | 0, _ =>
    show some (Value.int .u8 ((u8 z).toNat : Int)) = _
    rw [u8_toNat hw.1 (by omega)]
    exact h0.symm
  | j + 1, hj => exact absurd hj (by simp [E_uint8])
def intLs : List Leaf := [.int .i64]
theorem int_leaves : leavesL Tryz.prog 4 3 = some intLs := by kernel_rfl
theorem int_mk (vs : List Value) (hl : vs.length = 1) (h : LeafFit intLs vs) : ∃ x : Int, E_int.cells x = vs ∧ in64 x := by
  obtain ⟨z, h0, w0⟩ := leaf_int h 0 rfl
  refine ⟨z, list_of_get hl fun j hj => ?_, (Lit.wf_int_iff _ _).1 w0⟩
  match j, hj with
  | 0, _ => exact h0.symm
  | j + 1, hj => exact absurd hj (by simp [E_int])
structure ActT where
  Op : Int
  E : T_parse_Event
  Rows : Int
  Cols : Int
def actE : El ActT where
  cells x := [.int .i64 x.Op, .int .i64 x.E.Kind, .int .i32 x.E.R, .int .u8 x.E.B, .int .u8 x.E.Private, .string x.E.Inter, .slice x.E.Params.a x.E.Params.n x.E.Params.c, .slice x.E.Data.a x.E.Data.n x.E.Data.c, .int .i64 x.Rows, .int .i64 x.Cols]
  t := 37
  k := 10
  pos := by decide
  len _ := rfl
  one x v hv := by
    simp only [List.mem_cons, List.mem_nil_iff, or_false] at hv
    rcases hv with rfl | rfl | rfl | rfl | rfl | rfl | rfl | rfl | rfl | rfl <;> rfl
def actLs : List Leaf2 := [.one (.int .i64), .one (.int .i64), .one (.int .i32), .one (.int .u8), .one (.int .u8), .one .str, .sl 3, .sl 5, .one (.int .i64), .one (.int .i64)]
theorem act_leaves : leavesL2 Tryz.prog [3, 5] 6 37 = some actLs := by kernel_rfl
theorem leaf2_int {R : TypeId → Slc → Prop} {ls : List Leaf2} {vs : List Value} {k : IntKind} (h : LeafFit2 R ls vs) (j : Nat) (hj : ls[j]? = some (.one (.int k))) : ∃ z, vs[j]? = some (.int k z) ∧ (Lit.int k z).wf = true := by
  obtain ⟨v, hv, z, rfl, hw⟩ := h j _ hj
  exact ⟨z, hv, hw⟩
theorem leaf2_str {R : TypeId → Slc → Prop} {ls : List Leaf2} {vs : List Value} (h : LeafFit2 R ls vs) (j : Nat) (hj : ls[j]? = some (.one .str)) : ∃ z, vs[j]? = some (.string z) := by
  obtain ⟨v, hv, z, rfl⟩ := h j _ hj
  exact ⟨z, hv⟩
theorem leaf2_sl {R : TypeId → Slc → Prop} {ls : List Leaf2} {vs : List Value} {e : TypeId} (h : LeafFit2 R ls vs) (j : Nat) (hj : ls[j]? = some (.sl e)) : ∃ s : Slc, vs[j]? = some (.slice s.a s.n s.c) ∧ R e s := by
  obtain ⟨v, hv, s, rfl, hw⟩ := h j _ hj
  exact ⟨s, hv, hw⟩
def actR (w : World) (e : TypeId) (s : Slc) : Prop := (e = 3 → ∃ ps, Rd E_int w s ps ∧ ∀ p ∈ ps, in64 p) ∧ (e = 5 → ∃ ds, Rd E_uint8 w s ds)
/-- An act's parameters may be read; its numbers fit. -/
structure ActQ (w : World) (x : ActT) : Prop where
  ps : ∃ ps, Rd E_int w x.E.Params ps ∧ ∀ p ∈ ps, in64 p
  b : 0 ≤ x.E.B ∧ x.E.B ≤ 255
  p : 0 ≤ x.E.Private ∧ x.E.Private ≤ 255
  r : in64 x.Rows
  c : in64 x.Cols
theorem act_mk {w : World} (vs : List Value) (hl : vs.length = 10) (h : LeafFit2 (actR w) actLs vs) : ∃ x : ActT, actE.cells x = vs ∧ ActQ w x := by
  obtain ⟨z0, h0, _⟩ := leaf2_int h 0 rfl
  obtain ⟨z1, h1, _⟩ := leaf2_int h 1 rfl
  obtain ⟨z2, h2, _⟩ := leaf2_int h 2 rfl
  obtain ⟨z3, h3, w3⟩ := leaf2_int h 3 rfl
  obtain ⟨z4, h4, w4⟩ := leaf2_int h 4 rfl
  obtain ⟨z5, h5⟩ := leaf2_str h 5 rfl
  obtain ⟨s6, h6, r6⟩ := leaf2_sl h 6 rfl
  obtain ⟨s7, h7, _⟩ := leaf2_sl h 7 rfl
  obtain ⟨z8, h8, w8⟩ := leaf2_int h 8 rfl
  obtain ⟨z9, h9, w9⟩ := leaf2_int h 9 rfl
  have w3 := (Lit.wf_int_iff _ _).1 w3
  have w4 := (Lit.wf_int_iff _ _).1 w4
  rw [IntKind.min_u8, show IntKind.u8.max = 255 from rfl] at w3 w4
  refine ⟨⟨z0, ⟨z1, z2, z3, z4, z5, s6, s7⟩, z8, z9⟩, list_of_get hl fun j hj => ?_, r6.1 rfl, w3, w4, (Lit.wf_int_iff _ _).1 w8, (Lit.wf_int_iff _ _).1 w9⟩
  match j, hj with
  | 0, _ => exact h0.symm
  | 1, _ => exact h1.symm
  | 2, _ => exact h2.symm
  | 3, _ => exact h3.symm
  | 4, _ => exact h4.symm
  | 5, _ => exact h5.symm
  | 6, _ => exact h6.symm
  | 7, _ => exact h7.symm
  | 8, _ => exact h8.symm
  | 9, _ => exact h9.symm
  | j + 10, hj => exact absurd hj (by simp [actE])
def cfgE : El T_api_Config where
  cells := T_api_Config.rep.cells
  t := 23
  k := 6
  pos := by decide
  len _ := rfl
  one x v hv := by
    simp only [T_api_Config.rep, List.mem_cons, List.mem_nil_iff, or_false] at hv
    rcases hv with rfl | rfl | rfl | rfl | rfl | rfl <;> rfl
def cfgLs : List Leaf := [.int .i64, .int .i64, .int .i64, .int .i64, .int .i64, .int .i64]
theorem cfg_leaves : leavesL Tryz.prog 4 23 = some cfgLs := by kernel_rfl
theorem cfg_mk (vs : List Value) (hl : vs.length = 6) (h : LeafFit cfgLs vs) : ∃ x : T_api_Config, cfgE.cells x = vs ∧ True := by
  obtain ⟨z0, h0, _⟩ := leaf_int h 0 rfl
  obtain ⟨z1, h1, _⟩ := leaf_int h 1 rfl
  obtain ⟨z2, h2, _⟩ := leaf_int h 2 rfl
  obtain ⟨z3, h3, _⟩ := leaf_int h 3 rfl
  obtain ⟨z4, h4, _⟩ := leaf_int h 4 rfl
  obtain ⟨z5, h5, _⟩ := leaf_int h 5 rfl
  refine ⟨⟨z0, z1, z2, z3, z4, z5⟩, list_of_get hl fun j hj => ?_, trivial⟩
  match j, hj with
  | 0, _ => exact h0.symm
  | 1, _ => exact h1.symm
  | 2, _ => exact h2.symm
  | 3, _ => exact h3.symm
  | 4, _ => exact h4.symm
  | 5, _ => exact h5.symm
  | j + 6, hj => exact absurd hj (by simp [cfgE, T_api_Config.rep])
noncomputable def fieldsOf (P : Program) (t : TypeId) : Array Field := match P.underlying t with | some (.struct fs) => fs | _ => #[]
section
variable {H : Type} {enc : TypeId × Value → H} {w : World} {base : Nat} {held : Bool} {r : Reach} {b0 : Nat} {v : Value} {d : DataW H} {p : List MemPlace}
theorem open_cfg (hv : Value.okWide Tryz.prog w r b0 23 v) (h : DataW.Trod enc Tryz.prog w base (fun _ => true) held 23 v d p) : ∃ x : T_api_Config, v = .agg (T_api_Config.rep.cells x).toArray := by
  have hfs : Tryz.prog.underlying 23 = some (.struct (fieldsOf Tryz.prog 23)) := by kernel_rfl
  have a := @agg_of_trod H enc Tryz.prog w base (fun _ => true) held T_api_Config cfgE (fun _ => True) r b0 4 23 (fieldsOf Tryz.prog 23) cfgLs v d p hfs (by kernel_rfl) cfg_leaves cfg_mk
  obtain ⟨x, e, _⟩ := a hv h
  exact ⟨x, e⟩
theorem sl_of_cells {e t : TypeId} {fuel : Nat} {cs : List Value} {x : DataW H × List MemPlace} (he : e ∈ [3, 5]) (ht : Tryz.prog.underlying t = some (.slice e)) (hf : DataW.trod enc Tryz.prog w base (fun _ => true) held fuel t cs = some x) : ∃ s : Slc, cs = [.slice s.a s.n s.c] ∧ actR w e s := by
  have he : e = 3 ∨ e = 5 := by simpa using he
  rcases he with rfl | rfl
  · have a := @rd_of_cells H enc Tryz.prog w base held Int E_int in64 t 3 fuel cs x ht (by kernel_rfl) (fun fuel vs y hl hf => int_mk vs hl (trod_fits 4 int_leaves hf)) hf
    obtain ⟨s, xs, h1, h2, h3⟩ := a
    exact ⟨s, h1, fun _ => ⟨xs, h2, h3⟩, fun h => absurd h (by decide)⟩
  · have a := @rd_of_cells H enc Tryz.prog w base held UInt8 E_uint8 (fun _ => True) t 5 fuel cs x ht (by kernel_rfl) (fun fuel vs y hl hf => byte_mk vs hl (trod_fits 4 byte_leaves hf)) hf
    obtain ⟨s, xs, h1, h2, h3⟩ := a
    exact ⟨s, h1, fun h => absurd h (by decide), fun _ => ⟨xs, h2⟩⟩
theorem open_acts {t : TypeId} (ht : Tryz.prog.underlying t = some (.slice 37)) (hv : Value.okWide Tryz.prog w r b0 t v) (h : DataW.Trod enc Tryz.prog w base (fun _ => true) held t v d p) : ∃ (s : Slc) (xs : List ActT), v = .slice s.a s.n s.c ∧ Rd actE w s xs ∧ ∀ x ∈ xs, ActQ w x := by
  obtain ⟨a0, n0, c0, rfl⟩ := okWide_slice ht hv
  obtain ⟨fuel, hf⟩ := h
  have a := @rd_of_cells H enc Tryz.prog w base held ActT actE (ActQ w) t 37 fuel _ _ ht (by kernel_rfl) (fun fuel vs y hl hf => act_mk vs hl (trod_fits2 (fun he ht hf => sl_of_cells he ht hf) 6 act_leaves hf)) hf
  obtain ⟨s, xs, h1, h2, h3⟩ := a
  simp only [Value.cells, List.cons.injEq, and_true] at h1
  exact ⟨s, xs, h1, h2, h3⟩
end
end Go.Proofs.YtmoafafalnbkpaaGreatDoor

set_option linter.unusedVariables false
namespace Go.Proofs.YtmoafafalnbkpaaGreatDoor
open Go.Vc Go.RowKit
set_option maxRecDepth 400000
section
variable {w w' : World} {base g : Nat} {F F' : ScF} {S S' : Sc} {l : Slc} {xs : List ActT}
structure ActF (w : World) (l : Slc) (xs : List ActT) : Prop where
  rd : Rd actE w l xs
  q : ∀ x ∈ xs, ActQ w x
theorem ActQ.ext {x : ActT} (h : ActQ w x) (hb : Below w.heap.size w w') : ActQ w' x := by
  obtain ⟨ps, h1, h2⟩ := h.ps
  exact ⟨⟨ps, h1.ext hb, h2⟩, h.b, h.p, h.r, h.c⟩
theorem ActF.ext (h : ActF w l xs) (hb : Below w.heap.size w w') : ActF w' l xs := ⟨h.rd.ext hb, fun x hx => (h.q x hx).ext hb⟩
theorem act_ix (h : ActF w l xs) {k : Nat} (hk : k < xs.length) {K : Addr → Prop}
    (hK : ∀ x, xs[k]? = some x → cellsAt w (l.at_ 10 k) (actE.cells x) → K (l.at_ 10 k)) : ixK l k 10 K := by
  refine h.rd.ix (E := actE) rfl (by omega) (by omega) fun hx => ?_
  simp only [Int.toNat_natCast] at hx ⊢
  exact hK _ (List.getElem?_eq_getElem hk) hx
/-- Acts that are few: their numbers are small, a Resize is to a small shape. -/
structure FewA (x : ActT) : Prop where
  ps : x.E.Params.n ≤ 65536
  il : x.E.Inter.size ≤ 65536
  sz : x.Op = 2 → 0 < x.Rows → 0 < x.Cols → x.Rows ≤ 1000 → x.Cols ≤ 1000 → x.Rows ≤ 30 ∧ x.Cols ≤ 60
theorem Few_spec (h : ActF w l xs) {K : Bool → World → Prop} (hK : ∀ b w', Below w.heap.size w w' → (b = true → xs.length ≤ 250 ∧ ∀ x ∈ xs, FewA x) → K b w') : c_phosphorlaw17_Few l w K := by
  refine call_phosphorlaw17_Few _ ?_
  unfold sh_phosphorlaw17_Few
  have hn : l.n = xs.length := h.rd.n
  have hnm : l.n ≤ 9223372036854775807 := Nat.le_trans h.rd.nc h.rd.cm
  refine loopP_rule (fun (st : Int × Int × Unit) w1 => ∃ k : Nat, st.2.1 = (k : Int) ∧ k ≤ xs.length ∧ 0 ≤ st.1 ∧ st.1 ≤ 300000 ∧ Below w.heap.size w w1 ∧ ∀ x ∈ xs.take k, FewA x) (fun st => xs.length - st.2.1.toNat)
    ⟨0, rfl, Nat.zero_le _, Int.le_refl 0, by show (0 : Int) ≤ _; omega, Below.refl _ _, by simp⟩ ?_
  rintro ⟨n, i, u⟩ w1 ⟨k, hi, hk, hn0, hn1, hB, hall⟩ I hI
  dsimp only at hi hn0 hn1 ⊢
  subst hi
  have h1 := h.ext hB
  refine cond_of (fun e => ?_) fun e => ?_
  · have e := of_decide_eq_true e
    have hlt : k < xs.length := by omega
    obtain ⟨x, hx⟩ : ∃ x, xs[k]? = some x := ⟨_, List.getElem?_eq_getElem hlt⟩
    have ix : ∀ {w2 : World} {K : Addr → Prop}, Below w.heap.size w w2 → (cellsAt w2 (l.at_ 10 k) (actE.cells x) → K (l.at_ 10 k)) → ixK l k 10 K := fun hB2 hK2 => act_ix (h.ext hB2) hlt fun y hy hc => by
      rw [hx] at hy
      cases hy
      exact hK2 hc
    refine joinP_of fun J hJ => ?_
    refine ix hB fun hc => ldSl_of (x := x.E.Data) (by rw [add_add]; exact hc 7 _ rfl) ?_
    refine cond_of (fun e1 => hK _ _ hB (fun hh => by cases hh)) fun e1 => ?_
    refine ix hB fun hc => ldSl_of (x := x.E.Params) (by rw [add_add]; exact hc 6 _ rfl) ?_
    refine cond_of (fun e2 => hK _ _ hB (fun hh => by cases hh)) fun e2 => ?_
    refine ix hB fun hc => ldStr_of (x := x.E.Inter) (by rw [add_add]; exact hc 5 _ rfl) ?_
    refine cond_of (fun e3 => hK _ _ hB (fun hh => by cases hh)) fun e3 => ?_
    refine cond_of (fun e4 => hK _ _ hB (fun hh => by cases hh)) fun e4 => hJ _ _ ?_
    have e1 := of_decide_eq_false e1
    have e2 := of_decide_eq_false e2
    have e3 := of_decide_eq_false e3
    have e4 := of_decide_eq_false e4
    have hBd : Below w.heap.size w w1.drew := hB.drew
    refine ix hBd fun hc => ldSl_of (x := x.E.Data) (by rw [add_add]; exact hc 7 _ rfl) ?_
    refine ix hBd fun hc => ldSl_of (x := x.E.Params) (by rw [add_add]; exact hc 6 _ rfl) ?_
    refine ix hBd fun hc => ldStr_of (x := x.E.Inter) (by rw [add_add]; exact hc 5 _ rfl) ?_
    have a1 : IntKind.i64.wrap (n + (x.E.Data.n : Int)) = n + x.E.Data.n := wrap64_id (by omega)
    have a2 : IntKind.i64.wrap (n + (x.E.Data.n : Int) + (x.E.Params.n : Int)) = n + x.E.Data.n + x.E.Params.n := wrap64_id (by omega)
    have a3 : IntKind.i64.wrap (n + (x.E.Data.n : Int) + (x.E.Params.n : Int) + (x.E.Inter.size : Int)) = n + x.E.Data.n + x.E.Params.n + x.E.Inter.size := wrap64_id (by omega)
    have a4 : IntKind.i64.wrap ((k : Int) + 1) = ((k + 1 : Nat) : Int) := by rw [wrap64_id (by omega)]; simp
    have go : (x.Op = 2 → 0 < x.Rows → 0 < x.Cols → x.Rows ≤ 1000 → x.Cols ≤ 1000 → x.Rows ≤ 30 ∧ x.Cols ≤ 60) → I (IntKind.i64.wrap (IntKind.i64.wrap (IntKind.i64.wrap (n + (x.E.Data.n : Int)) + (x.E.Params.n : Int)) + (x.E.Inter.size : Int)), IntKind.i64.wrap ((k : Int) + 1), ()) w1.drew := by
      intro hsz
      rw [a1, a2, a3, a4]
      refine hI _ _ ⟨k + 1, rfl, hlt, by dsimp only; omega, by dsimp only; omega, hBd, fun y hy => ?_⟩ (by dsimp only; omega)
      rw [List.take_add_one, hx] at hy
      rcases List.mem_append.1 hy with hy | hy
      · exact hall y hy
      · have hy : y = x := by simpa using hy
        subst hy
        exact ⟨by omega, by omega, hsz⟩
    refine ix hBd fun hc => ldI_of (x := x.Op) (by exact hc 0 _ rfl) ?_
    refine cond_of (fun f1 => ?_) fun f1 => go fun hop => absurd (by rw [hop]; rfl) (Bool.eq_false_iff.1 f1)
    refine ix hBd fun hc => ldI_of (x := x.Rows) (hc 8 _ rfl) ?_
    refine cond_of (fun f2 => ?_) fun f2 => go fun _ a => absurd a (of_decide_eq_false f2)
    refine ix hBd fun hc => ldI_of (x := x.Cols) (hc 9 _ rfl) ?_
    refine cond_of (fun f3 => ?_) fun f3 => go fun _ _ a => absurd a (of_decide_eq_false f3)
    refine ix hBd fun hc => ldI_of (x := x.Rows) (hc 8 _ rfl) ?_
    refine cond_of (fun f4 => ?_) fun f4 => go fun _ _ _ a => absurd a (of_decide_eq_false f4)
    refine ix hBd fun hc => ldI_of (x := x.Cols) (hc 9 _ rfl) ?_
    refine cond_of (fun f5 => ?_) fun f5 => go fun _ _ _ _ a => absurd a (of_decide_eq_false f5)
    refine ix hBd fun hc => ldI_of (x := x.Rows) (hc 8 _ rfl) ?_
    refine cond_of (fun f6 => hK _ _ hBd (fun hh => by cases hh)) fun f6 => ?_
    refine ix hBd fun hc => ldI_of (x := x.Cols) (hc 9 _ rfl) ?_
    refine cond_of (fun f7 => hK _ _ hBd (fun hh => by cases hh)) fun f7 => go fun _ _ _ _ _ => ?_
    have f6 := of_decide_eq_false f6
    have f7 := of_decide_eq_false f7
    omega
  · have e := of_decide_eq_false e
    have hkl : k = xs.length := by omega
    rw [hkl, List.take_length] at hall
    refine cond_of (fun e1 => ?_) fun e1 => hK _ _ hB (fun hh => by cases hh)
    have e1 := of_decide_eq_true e1
    exact hK _ _ hB fun _ => ⟨by omega, hall⟩
theorem in_spec17 {v lo hi : Int} {K : Bool → World → Prop} (hK : K (decide (lo ≤ v ∧ v ≤ hi)) w) : c_phosphorref17_in v lo hi w K := by
  refine call_phosphorref17_in _ _ _ ?_
  unfold sh_phosphorref17_in
  refine cond_of (fun e => ?_) fun e => ?_
  · have e := of_decide_eq_true e
    have : decide (v ≤ hi) = decide (lo ≤ v ∧ v ≤ hi) := decide_eq_decide.2 ⟨fun h => ⟨by omega, h⟩, fun h => h.2⟩
    rw [this]
    exact hK
  · have e := of_decide_eq_false e
    rw [decide_eq_false (fun h => e (by omega))] at hK
    exact hK
theorem refCheck_spec {c : T_api_Config} {K : Int → World → Prop} (h1 : okC c → ∀ w', Below w.heap.size w w' → K 0 w') (h2 : ¬ okC c → ∀ w', Below w.heap.size w w' → K 1 w') : c_phosphorref17_Check c w K := by
  refine call_phosphorref17_Check _ ?_
  unfold sh_phosphorref17_Check
  refine nw_blk fun w1 hb1 hB1 hs1 => ?_
  refine ldI_of (x := c.Rows) (hb1.cells 0 _ rfl) (in_spec17 (cond_of (fun e => h2 (fun hh => by have := hh.1; rw [decide_eq_true this] at e; cases e) w1 hB1) fun e1 => ?_))
  refine ldI_of (x := c.Cols) (hb1.cells 1 _ rfl) (in_spec17 (cond_of (fun e => h2 (fun hh => by have := hh.2.1; rw [decide_eq_true this] at e; cases e) w1 hB1) fun e2 => ?_))
  refine ldI_of (x := c.CellW) (hb1.cells 2 _ rfl) (in_spec17 (cond_of (fun e => h2 (fun hh => by have := hh.2.2.1; rw [decide_eq_true this] at e; cases e) w1 hB1) fun e3 => ?_))
  refine ldI_of (x := c.CellH) (hb1.cells 3 _ rfl) (in_spec17 (cond_of (fun e => h2 (fun hh => by have := hh.2.2.2.1; rw [decide_eq_true this] at e; cases e) w1 hB1) fun e4 => ?_))
  refine ldI_of (x := c.Back) (hb1.cells 4 _ rfl) (in_spec17 (cond_of (fun e => h2 (fun hh => by have := hh.2.2.2.2.1; rw [decide_eq_true this] at e; cases e) w1 hB1) fun e5 => ?_))
  refine ldI_of (x := c.Quota) (hb1.cells 5 _ rfl) (in_spec17 (cond_of (fun e => h2 (fun hh => by have := hh.2.2.2.2.2; rw [decide_eq_true this] at e; cases e) w1 hB1) fun e6 => ?_))
  have nt : ∀ {b : Bool}, (!b) = false → b = true := by intro b; cases b <;> simp
  exact h1 ⟨of_decide_eq_true (nt e1), of_decide_eq_true (nt e2), of_decide_eq_true (nt e3), of_decide_eq_true (nt e4), of_decide_eq_true (nt e5), of_decide_eq_true (nt e6)⟩ w1 hB1
theorem Small_spec {c : T_api_Config} {K : Bool → World → Prop} (hK : ∀ b w', Below w.heap.size w w' → (b = true → okC c ∧ c.Rows ≤ 30 ∧ c.Cols ≤ 60) → K b w') : c_phosphorlaw17_Small c w K := by
  refine call_phosphorlaw17_Small _ ?_
  unfold sh_phosphorlaw17_Small
  refine nw_blk fun w1 hb1 hB1 hs1 => ?_
  refine ldS_of (r := T_api_Config.rep) (x := c) hb1.cells ?_
  refine refCheck_spec (fun hok w2 hB2 => ?_) fun hok w2 hB2 => ?_
  · refine cond_t rfl ?_
    have hb2 := hb1.ext hB2
    have hB := below_t hB1 hB2
    refine ldI_of (x := c.Rows) (hb2.cells 0 _ rfl) (cond_of (fun e => ?_) fun e => hK _ _ hB fun hh => by cases hh)
    refine ldI_of (x := c.Cols) (hb2.cells 1 _ rfl) (hK _ _ hB fun hh => ⟨hok, of_decide_eq_true e, of_decide_eq_true hh⟩)
  · exact cond_f rfl (hK _ _ (below_t hB1 hB2) fun hh => by cases hh)
/-- An act's event, its parameters known. -/
def evA (x : ActT) (ps : List Int) : Ev := ⟨x.E.Kind, x.E.R, x.E.B, x.E.Private, x.E.Inter.data.toList, ps⟩
theorem evM_act {w0 : World} (h : ScM w base g F S) (hb : w0.heap.size ≤ base) {x : ActT} (hq : ActQ w0 x) (hB : Below w0.heap.size w0 w) (hf : FewA x) :
    ∃ ps, ps.length ≤ 65536 ∧ EvM w g F x.E (evA x ps) := by
  obtain ⟨ps, hr, hp⟩ := hq.ps
  have hl : x.E.Params.n = ps.length := hr.n
  have := hf.ps
  have := hf.il
  refine ⟨ps, by omega, ⟨rfl, rfl, rfl, rfl, ?_, ⟨hr.ext hB, ?_, hp, by show ps.length ≤ _; omega⟩, hq.b, hq.p, ?_⟩⟩
  · show x.E.Inter = strB x.E.Inter.data.toList
    rfl
  · show ps = [] ∨ _
    cases ps with
    | nil => exact .inl rfl
    | cons p r =>
      refine .inr fun a ha => ?_
      have h0 : (x.E.Params.at_ E_int.k 0).block < w0.heap.size := hr.lt (i := 0) (by simp)
      have e : (x.E.Params.at_ E_int.k 0).block = a.block := by
        unfold Slc.at_
        rw [ha]
        rfl
      rw [e] at h0
      refine ⟨fun hs => ?_, ?_⟩
      · have := (h.below _ hs).1
        omega
      · have := hB.size
        omega
  · show x.E.Inter.data.toList.length ≤ 100000
    have : x.E.Inter.data.toList.length = x.E.Inter.size := by rw [Array.length_toList]; rfl
    omega
end
end Go.Proofs.YtmoafafalnbkpaaGreatDoor

set_option linter.unusedVariables false
namespace Go.Proofs.YtmoafafalnbkpaaGreatDoor
open Go.Vc Go.RowKit
set_option maxRecDepth 400000
def evE (b : Int) : Ev := ⟨3, 0, b, 0, [], []⟩
theorem doS_e7 (S : Sc) : S.doS (evE 55) = S.save := by kernel_rfl
theorem doS_e8 (S : Sc) : S.doS (evE 56) = S.restore := by kernel_rfl
theorem doS_print (S : Sc) {v : Ev} (h : v.Kind = 1) : S.doS v = S.print v.R := by
  unfold Sc.doS
  rw [if_pos h]
theorem doS_exec (S : Sc) {v : Ev} (h : v.Kind = 2) : S.doS v = S.control v.B := by
  unfold Sc.doS
  rw [if_neg (by rw [h]; decide), if_pos h]
theorem doS_any (S : Sc) (r b : Int) (ps : List Int) : S.doS ⟨4, r, b, 0, [], ps⟩ = S.doS (evC b ps) := rfl
/-- What is done between leaves what is saved. -/
theorem fr_between (S : Sc) {v : Ev} (hb : 0 ≤ v.B ∧ v.B ≤ 255) (h : v.Kind = 1 ∨ v.Kind = 2 ∨ v.Kind = 4 ∧ v.Private = 0 ∧ v.Inter = [] ∧ v.B ≠ 115) : Fr 2 S (S.doS v) := by
  rcases h with h | h | ⟨h1, h2, h3, h4⟩
  · rw [doS_print S h]
    exact (fr_print S _).le (by omega)
  · rw [doS_exec S h]
    exact (fr_control S _).le (by omega)
  · obtain ⟨k, r, b, p, i, ps⟩ := v
    dsimp only at h1 h2 h3 h4 hb
    subst h1 h2 h3
    rw [doS_any, doS_c S hb]
    exact fr_bare S _ _ _ h4
theorem cutP_same {v lo hi : Int} (h1 : lo ≤ v) (h2 : v ≤ hi) : cutP v lo hi = v := by
  unfold cutP
  split <;> split at * <;> omega
theorem same_g {S S' : Sc} {n : Nat} (h : Fr n S S') : same S.g S'.g := by
  unfold Sc.g
  rw [h.alt]
  split
  · exact h.g1
  · exact h.g0
theorem saved_back {S S1 : Sc} {n : Nat} (ok : ScOk S) (h : Fr n S.save S1) : S1.restore.c = S.c := by
  have h1 : S1.sv = ⟨S.c, true⟩ := by
    unfold Sc.sv
    rw [h.alt, h.s0, h.s1]
    unfold Sc.save Sc.withS
    cases S.alt <;> rfl
  have hg : S.save.g = S.g := by
    unfold Sc.g Sc.save Sc.withS
    cases S.alt <;> rfl
  have hs := same_g h
  rw [hg] at hs
  have er : S.g.rows = S.g0.rows := by
    unfold Sc.g
    split
    · exact ok.rows
    · rfl
  have ec : S.g.cols = S.g0.cols := by
    unfold Sc.g
    split
    · exact ok.cols
    · rfl
  have r1 := ok.row
  have c1 := ok.col
  have l1 := ok.g0.rows
  have l2 := ok.g0.cols
  unfold Sc.restore
  rw [h1]
  dsimp only
  rw [if_pos rfl, hs.2.1, hs.2.2, er, ec, w64_of (x := (S.g0.rows : Int) - 1) (by omega), w64_of (x := (S.g0.cols : Int) - 1) (by omega), cutP_same (by omega) (by omega), cutP_same (by omega) (by omega)]
theorem areas_save (S : Sc) : S.save.areas = S.areas := by
  unfold Sc.save Sc.withS
  split <;> rfl
section
variable {w w' : World} {base g : Nat} {F F' : ScF} {S S' : Sc} {l : Slc} {xs : List ActT}
theorem evM_e (w : World) (g : Nat) (F : ScF) {b : Int} (hb : 0 ≤ b ∧ b ≤ 255) : EvM w g F ⟨3, 0, b, 0, ⟨#[]⟩, ⟨none, 0, 0⟩, ⟨none, 0, 0⟩⟩ (evE b) :=
  ⟨rfl, rfl, rfl, rfl, rfl, ParM.nil _ _ _, hb, ⟨Int.le_refl 0, by show (0 : Int) ≤ 255; omega⟩, by show (0 : Nat) ≤ _; omega⟩
/-- An event of an act, done. -/
theorem act_do {w0 : World} (h : ScM w base g F S) (hb : w0.heap.size ≤ base) (hT : Tab w) (h1b : 1 ≤ base) {x : ActT} (hq : ActQ w0 x) (hB : Below w0.heap.size w0 w) (hf : FewA x) (ha : S.areas.length ≤ 600000000) {K : Slc → World → Prop}
    (hK : ∀ q ps F' w', ps.length ≤ 65536 → (0 ≤ x.E.B ∧ x.E.B ≤ 255) → ScT base g w F F' (S.doS (evA x ps)) w' → K q w') : c_screen_Screen_Do (some ⟨g, 0, none⟩) x.E w K := by
  obtain ⟨ps, hl, hv⟩ := evM_act h hb hq hB hf
  exact Do_spec h hv hT h1b (by show S.areas.length + ps.length ≤ _; omega) fun q F' w' _ hT' => hK q ps F' w' hl hq.b hT'
theorem saves_law {lb : Slc} {xb : List ActT} (hT : Tab w) (c : T_api_Config) (ha : ActF w l xs) (hb : ActF w lb xb) {K : Bool → World → Prop} (hK : ∀ w', Below w.heap.size w w' → K true w') : c_phosphorlaw17_ScreenSaves c l lb w K := by
  refine call_phosphorlaw17_ScreenSaves _ _ _ ?_
  unfold sh_phosphorlaw17_ScreenSaves
  refine nw_blk fun w1 hc1 hB1 hs1 => ?_
  refine known17_spec (hT.ext hB1) fun w2 hB2 => cond_f rfl (joinP_of fun J1 hJ1 => ?_)
  have B2 := below_t hB1 hB2
  refine Few_spec (ha.ext B2) fun b3 w3 hB3 hF3 => ?_
  have B3 := below_t B2 hB3
  refine cond_of (fun _ => hK _ B3) fun e3 => ?_
  have hF3 := hF3 (by revert e3; cases b3 <;> simp)
  refine Few_spec (hb.ext B3) fun b4 w4 hB4 hF4 => ?_
  have B4 := below_t B3 hB4
  refine cond_of (fun _ => hK _ B4) fun e4 => ?_
  have hF4 := hF4 (by revert e4; cases b4 <;> simp)
  have hc4 := ((hc1.ext hB2).ext hB3).ext hB4
  refine ldS_of (r := T_api_Config.rep) (x := c) hc4.cells ?_
  refine Small_spec fun b5 w5 hB5 hS5 => ?_
  have B5 := below_t B4 hB5
  refine cond_of (fun _ => hK _ B5) fun e5 => hJ1 _ _ ?_
  obtain ⟨hok, hr30, hc60⟩ := hS5 (by revert e5; cases b5 <;> simp)
  have hc5 := hc4.ext hB5
  refine ldS_of (r := T_api_Config.rep) (x := c) hc5.cells ?_
  refine sNew_spec (fun hbad => absurd hok hbad) fun _ g F w6 hM hB6 => ?_
  have B6 := below_t B5 hB6
  have hT5 := hT.ext B5
  have h1b := tab_one hT5
  have s5 := B5.size
  refine joinP_of fun J2 hJ2 => cond_f rfl (cond_f rfl (hJ2 _ _ ?_))
  have hT6 := hT5.ext hB6
  have hlen : l.n = xs.length := ha.rd.n
  have hlenb : lb.n = xb.length := hb.rd.n
  obtain ⟨base, hbase⟩ : ∃ base, base = w5.heap.size := ⟨_, rfl⟩
  rw [← hbase] at hM h1b s5
  have hBe : ∀ {wx : World} {Fx : ScF} {Sx : Sc}, ScT base g w6 F Fx Sx wx → Below w.heap.size w wx := fun hx => B6.trans ((ScT.belowB hM hx).mono s5)
  refine loopP_rule (fun (st : Int × Unit) w7 => ∃ (k : Nat) (F7 : ScF) (S7 : Sc), st.1 = (k : Int) ∧ k ≤ xs.length ∧ ScT base g w6 F F7 S7 w7 ∧ S7.areas.length ≤ 65538 * k) (fun st => xs.length - st.1.toNat) ⟨0, F, _, rfl, Nat.zero_le _, ScT.refl hM, Nat.le_refl _⟩ ?_
  rintro ⟨i, u⟩ w7 ⟨k, F7, S7, hi, hk, hT7, ha7⟩ I hI
  dsimp only at hi ⊢
  subst hi
  have B7 := hBe hT7
  have t7 := hT6.step hM h1b hT7
  refine cond_of (fun e => ?_) fun e => ?_
  · have e := of_decide_eq_true e
    have hlt : k < xs.length := by omega
    refine act_ix (ha.ext B7) hlt fun x hx hc => ?_
    have hxm := List.mem_of_getElem? hx
    refine ldI_of (x := x.Op) (hc 0 _ rfl) (cond_of (fun f => ?_) fun f => ?_)
    · refine act_ix (ha.ext B7) hlt fun y hy hcy => ?_
      rw [hx] at hy
      cases hy
      refine ldS_of (r := T_parse_Event.rep) (x := x.E) (fun j v hj => ?_) ?_
      · rw [add_add]
        refine hcy (1 + j) v ?_
        rw [Nat.add_comm]
        have hjl : j < 7 := (List.getElem?_eq_some_iff.1 hj).1
        match j, hjl with
        | 0, _ => exact hj
        | 1, _ => exact hj
        | 2, _ => exact hj
        | 3, _ => exact hj
        | 4, _ => exact hj
        | 5, _ => exact hj
        | 6, _ => exact hj
      refine act_do hT7.m s5 t7 h1b (ha.q x hxm) B7 (hF3.2 x hxm) (by omega) fun q ps F8 w8 hps hbx hT8 => ?_
      rw [wrap64_id (x := (k : Int) + 1) (by omega)]
      refine hI _ _ ⟨k + 1, F8, _, by simp, by omega, hT7.trans hT8, ?_⟩ (by dsimp only; omega)
      have := (fm_do S7 (evA x ps)).ar
      have e2 : (evA x ps).Params.length = ps.length := rfl
      omega
    · rw [wrap64_id (x := (k : Int) + 1) (by omega)]
      exact hI _ _ ⟨k + 1, F7, _, by simp, by omega, hT7, by omega⟩ (by dsimp only; omega)
  · have e := of_decide_eq_false e
    have hkx := hF3.1
    refine Cursor_spec hT7.m fun w8 hB8 => ?_
    have hT8 := hT7.ext hB8
    refine box_of (vs := T_screen_Cursor.rep.cells S7.c) rfl fun w9 hw9 hB9 hs9 => ?_
    have hT9 := hT8.ext hB9
    have t9 := (t7.ext hB8).ext hB9
    have nS : ¬ scS g F7 w8.heap.size := fun hs => by have := (hT8.m.below _ hs).2; omega
    refine Do_spec hT9.m (evM_e _ _ _ (b := 55) (by omega)) t9 h1b (by show S7.areas.length + 0 ≤ _; omega) fun q F10 w10 _ hT10 => ?_
    rw [doS_e7] at hT10
    have nS10 : ¬ scS g F10 w8.heap.size := fun hs => by
      rcases hT10.old _ hs with hs | hs
      · exact nS hs
      · have := hB9.size; omega
    have hw10 : Blk w10 w8.heap.size ty_screen_Cursor (T_screen_Cursor.rep.cells S7.c) := hw9.chg hT10.chg nS
    have h10 := hT9.trans hT10
    have t10 := hT6.step hM h1b h10
    refine loopP_rule (fun (st : Int × Unit) w11 => ∃ (k : Nat) (F11 : ScF) (S11 : Sc), st.1 = (k : Int) ∧ k ≤ xb.length ∧ ScT base g w10 F10 F11 S11 w11 ∧ Fr (2 * k) S7.save S11) (fun st => xb.length - st.1.toNat) ⟨0, F10, _, rfl, Nat.zero_le _, ScT.refl hT10.m, Fr.refl _ _⟩ ?_
    rintro ⟨i, u⟩ w11 ⟨k, F11, S11, hi, hk, hT11, hf11⟩ I hI
    dsimp only at hi ⊢
    subst hi
    have B11 := hBe (h10.trans hT11)
    have t11 := hT6.step hM h1b (h10.trans hT11)
    have ar11 := hf11.ar
    rw [areas_save] at ar11
    have hkb := hF4.1
    refine cond_of (fun e => ?_) fun e => ?_
    · have e := of_decide_eq_true e
      have hlt : k < xb.length := by omega
      refine act_ix (hb.ext B11) hlt fun x hx hcy => ?_
      have hxm := List.mem_of_getElem? hx
      refine ldS_of (r := T_parse_Event.rep) (x := x.E) (fun j v hj => ?_) ?_
      · rw [add_add]
        refine hcy (1 + j) v ?_
        rw [Nat.add_comm]
        have hjl : j < 7 := (List.getElem?_eq_some_iff.1 hj).1
        match j, hjl with
        | 0, _ => exact hj
        | 1, _ => exact hj
        | 2, _ => exact hj
        | 3, _ => exact hj
        | 4, _ => exact hj
        | 5, _ => exact hj
        | 6, _ => exact hj
      refine box_of (vs := T_parse_Event.rep.cells x.E) rfl fun w12 hw12 hB12 hs12 => ?_
      have h12 := hT11.ext hB12
      have t12 := t11.ext hB12
      have B12 := below_t B11 hB12
      have next : ∀ {F13 : ScF} {S13 : Sc} {w13 : World}, ScT base g w10 F10 F13 S13 w13 → Fr (2 * k + 2) S7.save S13 → I (IntKind.i64.wrap ((k : Int) + 1), ()) w13 := by
        intro F13 S13 w13 hT13 hf13
        rw [wrap64_id (x := (k : Int) + 1) (by omega)]
        exact hI _ _ ⟨k + 1, F13, S13, by simp, by omega, hT13, by rw [Nat.mul_add]; exact hf13⟩ (by dsimp only; omega)
      have skip : I (IntKind.i64.wrap ((k : Int) + 1), ()) w12 := next h12 (hf11.le (by omega))
      refine joinP_of fun J5 hJ5 => ?_
      have goes : (x.E.Kind = 1 ∨ x.E.Kind = 2 ∨ x.E.Kind = 4 ∧ x.E.Private = 0 ∧ x.E.Inter.data.toList = [] ∧ x.E.B ≠ 115) → J5 (true, ()) w12 := by
        intro hgo
        refine hJ5 _ _ (cond_t rfl ?_)
        refine ldS_of (r := T_parse_Event.rep) (x := x.E) hw12.cells ?_
        refine act_do h12.m s5 t12 h1b (hb.q x hxm) B12 (hF4.2 x hxm) (by omega) fun q ps F13 w13 hps hbx hT13 => ?_
        exact next (h12.trans hT13) (hf11.trans (fr_between S11 (v := evA x ps) hbx hgo))
      have stays : J5 (false, ()) w12 := hJ5 _ _ (cond_f rfl skip)
      refine ldI_of (x := x.E.Kind) (hw12.cells 0 _ rfl) (cond_of (fun f => goes (.inl (eq_of_beq f))) fun f1 => ?_)
      refine ldI_of (x := x.E.Kind) (hw12.cells 0 _ rfl) (cond_of (fun f => goes (.inr (.inl (eq_of_beq f)))) fun f2 => ?_)
      refine ldI_of (x := x.E.Kind) (hw12.cells 0 _ rfl) (cond_of (fun f3 => ?_) fun f3 => stays)
      refine ldI_of (x := x.E.Private) (hw12.cells 3 _ rfl) (cond_of (fun f4 => ?_) fun f4 => stays)
      refine ldStr_of (x := x.E.Inter) (hw12.cells 4 _ rfl) (cond_of (fun f5 => ?_) fun f5 => stays)
      refine ldI_of (x := x.E.B) (hw12.cells 2 _ rfl) ?_
      cases f6 : (x.E.B != 115)
      · exact stays
      · refine goes (.inr (.inr ⟨eq_of_beq f3, eq_of_beq f4, ?_, fun hh => by rw [hh] at f6; cases f6⟩))
        have := eq_of_beq f5
        rw [ByteArray.toList_eq, ByteArray.toList_eq] at this
        exact this
    · refine Do_spec hT11.m (evM_e _ _ _ (b := 56) (by omega)) t11 h1b (by show S11.areas.length + 0 ≤ _; omega) fun q F12 w12 _ hT12 => ?_
      rw [doS_e8] at hT12
      have h12 := hT11.trans hT12
      have hw12 : Blk w12 w8.heap.size ty_screen_Cursor (T_screen_Cursor.rep.cells S7.c) := hw10.chg h12.chg nS10
      have h12d := h12.drew
      refine ldS_of (r := T_screen_Cursor.rep) (x := S7.c) hw12.drew.cells ?_
      refine Cursor_spec h12d.m fun w13 hB13 => ⟨(hw12.drew.ext hB13).cells, ?_⟩
      rw [saved_back hT7.m.ok hf11]
      have B13 := below_t (hBe ((h10.trans h12).drew)) hB13
      simp only [beq_self_eq_true, Bool.and_self]
      exact hK _ B13
end
end Go.Proofs.YtmoafafalnbkpaaGreatDoor
