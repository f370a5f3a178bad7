/- The screen walked: cells, move, show, turn, soft. The screen walked: show, turn, soft, control, reset, full, single, escape. The screen walked: reset, full, single, escape. attr.Apply: plain, and walked. The screen walked: Mode, place, bare, sequence, Do. The screen walked: a grid's twin, sequence, Do, Move. The screen walked: Resize, Move. Acts of screens opened: events that hold slices of numbers and of bytes each. What the plain screen's functions leave as it was. The plain screen: plain characters printed; what wraps. known17. The helpers of the screen's laws; ScreenMoves. The plain screen: rows of letters, scrolled within margins. ScreenWraps. ScreenMargins. ScreenSets. Acts of a screen read; Few, Small. Grids of the reference: what they are in memory; New, Clear, Set, Fill. The document's tab stops: New, All. The document's new screen; ScreenShapes. A new screen looks as the document's; ScreenShapes. ScreenShapes. -/
import Derived.Test.YtmoafafalnbkpaaGreatDoorP2
import Derived.Test.YtmoafafalnbkpaaGreatDoorP1
import Derived.Laws.Runes
import Derived.Test.YtmoafafalnbkpaaGreatDoorShS
set_option linter.unusedVariables false
set_option linter.unusedVariables false
namespace Go.Proofs.YtmoafafalnbkpaaGreatDoor
open Go.Vc Go.RowKit
set_option maxRecDepth 400000
theorem or2 {K : Bool × Unit → World → Prop} {c a b : Int} {w : World} (h1 : c = a ∨ c = b → K (true, ()) w) (h2 : ¬ (c = a ∨ c = b) → K (false, ()) w) : joinP K fun J => cond (c == a) (J ((c == a), ()) w) (J ((c == b), ()) w) := by
  intro J hJ
  refine cond_of (fun e => ?_) fun e => ?_
  · rw [e]; exact hJ _ _ (h1 (.inl (eq_of_beq e)))
  · cases e2 : (c == b)
    · exact hJ _ _ (h2 fun hh => hh.elim (beq_eq_false_iff_ne.1 e) (beq_eq_false_iff_ne.1 e2))
    · exact hJ _ _ (h1 (.inr (eq_of_beq e2)))
theorem or2' {K : Bool × Unit → World → Prop} {c a b : Int} {w : World} (h1 : c = a ∨ c = b → K (true, ()) w) (h2 : ¬ (c = a ∨ c = b) → K (false, ()) w) : joinP K fun J => cond (c == a) (J (true, ()) w) (J ((c == b), ()) w) := by
  intro J hJ
  refine cond_of (fun e => ?_) fun e => ?_
  · exact hJ _ _ (h1 (.inl (eq_of_beq e)))
  · cases e2 : (c == b)
    · exact hJ _ _ (h2 fun hh => hh.elim (beq_eq_false_iff_ne.1 e) (beq_eq_false_iff_ne.1 e2))
    · exact hJ _ _ (h1 (.inr (eq_of_beq e2)))
theorem or3 {K : Bool × Unit → World → Prop} {c a b d : Int} {w : World} (h1 : c = a ∨ c = b ∨ c = d → K (true, ()) w) (h2 : ¬ (c = a ∨ c = b ∨ c = d) → K (false, ()) w) : joinP K fun J => cond (c == a) (J ((c == a), ()) w) (cond (c == b) (J ((c == b), ()) w) (J ((c == d), ()) w)) := by
  intro J hJ
  refine cond_of (fun e => ?_) fun e => ?_
  · rw [e]; exact hJ _ _ (h1 (.inl (eq_of_beq e)))
  · exact or2 (K := K) (fun h => h1 (.inr h)) (fun h => h2 fun hh => hh.elim (beq_eq_false_iff_ne.1 e) h) J hJ
theorem or4 {K : Bool × Unit → World → Prop} {c a b d f : Int} {w : World} (h1 : c = a ∨ c = b ∨ c = d ∨ c = f → K (true, ()) w) (h2 : ¬ (c = a ∨ c = b ∨ c = d ∨ c = f) → K (false, ()) w) : joinP K fun J => cond (c == a) (J ((c == a), ()) w) (cond (c == b) (J ((c == b), ()) w) (cond (c == d) (J ((c == d), ()) w) (J ((c == f), ()) w))) := by
  intro J hJ
  refine cond_of (fun e => ?_) fun e => ?_
  · rw [e]; exact hJ _ _ (h1 (.inl (eq_of_beq e)))
  · exact or3 (K := K) (fun h => h1 (.inr h)) (fun h => h2 fun hh => hh.elim (beq_eq_false_iff_ne.1 e) h) J hJ
theorem or5 {K : Bool × Unit → World → Prop} {c a b d f k : Int} {w : World} (h1 : c = a ∨ c = b ∨ c = d ∨ c = f ∨ c = k → K (true, ()) w) (h2 : ¬ (c = a ∨ c = b ∨ c = d ∨ c = f ∨ c = k) → K (false, ()) w) : joinP K fun J => cond (c == a) (J ((c == a), ()) w) (cond (c == b) (J ((c == b), ()) w) (cond (c == d) (J ((c == d), ()) w) (cond (c == f) (J ((c == f), ()) w) (J ((c == k), ()) w)))) := by
  intro J hJ
  refine cond_of (fun e => ?_) fun e => ?_
  · rw [e]; exact hJ _ _ (h1 (.inl (eq_of_beq e)))
  · exact or4 (K := K) (fun h => h1 (.inr h)) (fun h => h2 fun hh => hh.elim (beq_eq_false_iff_ne.1 e) h) J hJ
section
variable {w w' : World} {base g : Nat} {F F' : ScF} {S S' : Sc} {p : Slc} {ps : List Int}
/-- One map of the screen's changed. -/
theorem ScM.one (h : ScM w base g F S) {k0 : Nat} (hk : ∀ t cs, ¬ Blk w k0 t cs) (hin : scS g F k0) (hc : Chg (fun k => k = k0) w w') (ex : scX F S' = scX F S) (e0 : S'.g0 = S.g0) (e1 : S'.g1 = S.g1) (ea : S'.areas = S.areas)
    (hst : StopsM w' F.tg F.tr S'.stops) (hmo : MapM encO w' F.mm S'.modes) (hpr : MapM encO w' F.mp S'.priv) (ok : ScOk S') : ScT base g w F F S' w' := by
  have hC : ∀ k cs, k = k0 → ¬ Blk w k ty_api_Cell cs := fun k cs e => by subst e; exact hk _ _
  have nb : ∀ {k t cs}, Blk w k t cs → ¬ k = k0 := fun hb e => by subst e; exact hk _ _ hb
  refine ⟨⟨?_, h.hg, ?_, ?_, hst, h.hst, hmo, hpr, h.hm, h.dm, ?_, h.dg, ok⟩, fun k hk => .inl hk, hc.mono fun i hi e => by subst e; exact hin⟩
  · rw [ex]; exact h.blk.chg hc (nb h.blk)
  · rw [e0]
    refine h.g0.chg hc (fun k hk => ?_) hC
    obtain ⟨t, cs, hb, _⟩ := h.g0.ty k hk
    exact nb hb
  · rw [e1]
    refine h.g1.chg hc (fun k hk => ?_) hC
    obtain ⟨t, cs, hb, _⟩ := h.g1.ty k hk
    exact nb hb
  · rw [ea]
    refine h.ar.chg hc fun k hk => ?_
    obtain ⟨cs, hcs⟩ := h.ar.blk_t hk
    exact nb hcs
theorem map_blk {V : Type} {enc : V → Value} {r : Nat} {L : List (Int × V)} (h : MapM enc w r L) : ∀ t cs, ¬ Blk w r t cs := fun t cs hb => h.ne_blk hb rfl
theorem ScM.setPr (h : ScM w base g F S) {n : Int} (hn : in64 n) {b : Bool} {K : Option Value → World → Prop} (hK : ∀ w', ScT base g w F F { S with priv := putL' S.priv n b } w' → K none w') : runU PG (Instr.mapUpdate ty_map_int_bool (.map (some F.mp)) (.int .i64 n) (.bool b)) w K := by
  refine updO_spec h.pr hn fun w' hm hc hs => hK w' ?_
  exact h.one (map_blk h.pr) (.inr (.inr (.inr (.inr (.inr (.inr (.inl rfl))))))) hc rfl rfl rfl rfl (h.st.keep hc (fun e => map_blk h.pr _ _ (e ▸ h.st.blk)) h.dm.2.2) (h.mo.chg hc h.dm.1) hm
    ⟨h.ok.g0, h.ok.g1, h.ok.rows, h.ok.cols, h.ok.row, h.ok.col, h.ok.shift, h.ok.sh0, h.ok.sh1, h.ok.top, h.ok.marg, h.ok.stops⟩
theorem ScM.setMo (h : ScM w base g F S) {n : Int} (hn : in64 n) {b : Bool} {K : Option Value → World → Prop} (hK : ∀ w', ScT base g w F F { S with modes := putL' S.modes n b } w' → K none w') : runU PG (Instr.mapUpdate ty_map_int_bool (.map (some F.mm)) (.int .i64 n) (.bool b)) w K := by
  refine updO_spec h.mo hn fun w' hm hc hs => hK w' ?_
  exact h.one (map_blk h.mo) (.inr (.inr (.inr (.inr (.inr (.inl rfl)))))) hc rfl rfl rfl rfl (h.st.keep hc (fun e => map_blk h.mo _ _ (e ▸ h.st.blk)) h.dm.2.1) hm (h.pr.chg hc (fun e => h.dm.1 e.symm))
    ⟨h.ok.g0, h.ok.g1, h.ok.rows, h.ok.cols, h.ok.row, h.ok.col, h.ok.shift, h.ok.sh0, h.ok.sh1, h.ok.top, h.ok.marg, h.ok.stops⟩
theorem ScM.setSt (h : ScM w base g F S) {B : List Bool} (hl : B.length = S.stops.length) (hst : StopsM w' F.tg F.tr B) (hc : Chg (fun k => k = F.tr) w w') : ScT base g w F F { S with stops := B } w' :=
  h.one (map_blk h.st.map) (.inr (.inr (.inr (.inr (.inl rfl))))) hc rfl rfl rfl rfl hst (h.mo.chg hc (fun e => h.dm.2.1 e.symm)) (h.pr.chg hc (fun e => h.dm.2.2 e.symm))
    ⟨h.ok.g0, h.ok.g1, h.ok.rows, h.ok.cols, h.ok.row, h.ok.col, h.ok.shift, h.ok.sh0, h.ok.sh1, h.ok.top, h.ok.marg, hl.trans h.ok.stops⟩
theorem ScOk.slen (h : ScOk S) : 1 ≤ S.stops.length ∧ S.stops.length ≤ 1000 := by
  have := h.bnd
  have := h.grows.2
  have := h.stops
  omega
/-! ### cells -/
theorem plain_cells1 : C.plain fn_screen_Screen_cells_1 = true := by kernel_rfl
theorem plain_ins : C.plain fn_line_Line_Insert = true := by kernel_rfl
theorem plain_del : C.plain fn_line_Line_Delete = true := by kernel_rfl
theorem ldR_of {a : Addr} {w : World} {K : Value → Prop} {x : Value} (h : w.cell? a = some x) (hK : K x) : ldR a w K := ⟨x, h, hK⟩
def cellF (S : Sc) (c n : Int) (xs : List Cell) : List Cell := if c = 80 then delL xs S.c.Col n S.blank else insL xs S.c.Col n S.blank
theorem cells1_spec {bc bs bn : Nat} {l : Slc} {xs : List Cell} {c n : Int} {K : Slc → World → Prop} (h : ScM w base g F S) (hs : Blk w bs ty_p_screen_Screen [.pointer (some ⟨g, 0, none⟩)]) (hn : Blk w bn ty_int [.int .i64 n])
    (hc : Blk w bc ty_func_line_Line_int_int_api_Attr_line_Line [.func (.func (if c = 80 then fn_line_Line_Delete else fn_line_Line_Insert)) #[] #[]]) (hl : Rd cellE w l xs) (hlen : xs.length ≤ 10000)
    (hK : ∀ s w', Go.Vc.Own cellE w' w.heap.size s (cellF S c n xs) → Below w.heap.size w w' → K s w') :
    callR C (.func (.func fn_screen_Screen_cells_1) #[] #[.pointer (some ⟨bc, 0, none⟩), .pointer (some ⟨bs, 0, none⟩), .pointer (some ⟨bn, 0, none⟩)]) [.slice l.a l.n l.c] [Kind.slice] w K := by
  have hh : c_screen_Screen_cells_1 l ⟨bc, 0, none⟩ ⟨bs, 0, none⟩ ⟨bn, 0, none⟩ w K := by
    refine call_screen_Screen_cells_1 _ _ _ _ ?_
    unfold sh_screen_Screen_cells_1
    have hd := (ScT.refl h).drew
    have hs1 := hs.drew
    have hn1 := hn.drew
    have hc1 := hc.drew
    refine ldR_of (by simpa using hc1.cells 0 _ rfl) ?_
    refine ldP_of (x := some ⟨g, 0, none⟩) (by simpa using hs1.cells 0 _ rfl) ?_
    simp only [onPtr_some]
    refine hd.m.ldCol (ldI_of (x := n) (by simpa using hn1.cells 0 _ rfl) (ldP_of (x := some ⟨g, 0, none⟩) (by simpa using hs1.cells 0 _ rfl) ?_))
    refine blank_spec hd.m fun w1 hB1 => ?_
    have h1 := hd.ext hB1
    refine ⟨by simpa using (hn1.ext hB1).cells 0 _ rfl, h1.m.cCol, by simpa using (hs1.ext hB1).cells 0 _ rfl, by simpa using (hc1.ext hB1).cells 0 _ rfl, ?_⟩
    have hBw : Below w.heap.size w w1 := below_t (below_drew w) hB1
    unfold cellF at hK
    by_cases e : c = 80
    · rw [if_pos e]
      simp only [if_pos e] at hK
      have hi : c_line_Line_Delete l S.c.Col n S.blank w1 K := Delete_spec (hl.ext hBw) hlen fun s w2 ho hB2 => hK s w2 (ho.base hBw.size) (below_t hBw hB2)
      refine callR_plain plain_del (Calls.mono hi ?_)
      rintro ex w' ⟨t, rfl, hk⟩
      exact ⟨t, rfl, hk⟩
    · rw [if_neg e]
      simp only [if_neg e] at hK
      have hi : c_line_Line_Insert l S.c.Col n S.blank w1 K := Insert_spec (hl.ext hBw) hlen fun s w2 ho hB2 => hK s w2 (ho.base hBw.size) (below_t hBw hB2)
      refine callR_plain plain_ins (Calls.mono hi ?_)
      rintro ex w' ⟨t, rfl, hk⟩
      exact ⟨t, rfl, hk⟩
  refine callR_plain plain_cells1 (Calls.mono hh ?_)
  rintro e w' ⟨t, rfl, hk⟩
  exact ⟨t, rfl, hk⟩
theorem cells_spec (h : ScM w base g F S) {c n : Int} {K : World → Prop} (ha : S.areas.length ≤ 900000000) (hK : ∀ F' w', ScT base g w F F' (S.cells c n) w' → K w') : c_screen_Screen_cells (some ⟨g, 0, none⟩) c n w K := by
  refine call_screen_Screen_cells _ _ _ ?_
  unfold sh_screen_Screen_cells
  refine nw_blk fun w1 hb1 hB1 hs1 => nw_blk fun w2 hb2 hB2 hs2 => ?_
  have hT2 := ScT.of_ext h (below_t hB1 hB2)
  have hs := hb1.ext hB2
  refine ldP_of (x := some ⟨g, 0, none⟩) (by simpa using hs.cells 0 _ rfl) ?_
  simp only [onPtr_some]
  refine hT2.m.stDry fun w3 hT3 => ?_
  have h3 := hT2.trans hT3
  have hlt : ∀ k, scS g F k → k < w.heap.size := fun k hk => (h.below k hk).2
  have hs3 := hs.chg hT3.chg fun e => by have := hlt _ e; omega
  have hn3 := hb2.chg hT3.chg fun e => by have := hlt _ e; omega
  unfold Sc.cells at hK
  dsimp only at hK
  refine cond_of (fun e => ?_) fun e => ?_
  · have e : c = 88 := eq_of_beq e
    rw [if_pos e] at hK
    refine ldP_of (x := some ⟨g, 0, none⟩) (by simpa using hs3.cells 0 _ rfl) ?_
    refine ssize_spec h3.m ?_
    have hd := h3.drew.drew.drew
    have hs4 := hs3.drew.drew.drew
    have hn4 := hn3.drew.drew.drew
    refine ldP_of (x := some ⟨g, 0, none⟩) (by simpa using hs4.cells 0 _ rfl) (ldP_of (x := some ⟨g, 0, none⟩) (by simpa using hs4.cells 0 _ rfl) ?_)
    simp only [onPtr_some]
    refine hd.m.ldRow (ldP_of (x := some ⟨g, 0, none⟩) (by simpa using hs4.cells 0 _ rfl) ?_)
    simp only [onPtr_some]
    refine hd.m.ldCol (ldP_of (x := some ⟨g, 0, none⟩) (by simpa using hs4.cells 0 _ rfl) ?_)
    simp only [onPtr_some]
    refine hd.m.ldCol (ldI_of (x := n) (by simpa using hn4.cells 0 _ rfl) ?_)
    have har : S.dry.areas.length ≤ 1000000000 := by show S.areas.length ≤ _; omega
    exact erase_spec hd.m har (by decide) fun F5 w5 hT5 => hK _ w5 (hd.trans hT5)
  · have e : ¬ c = 88 := beq_eq_false_iff_ne.1 e
    rw [if_neg e] at hK
    refine nw_blk fun w6 hb6 hB6 hs6 => ?_
    have h6 := h3.ext hB6
    have hs6' := hs3.ext hB6
    have hn6 := hn3.ext hB6
    have hz3 := h3.chg.size
    have hz2 := hT3.chg.size
    refine all_of hb6 rfl fun w7 hb7 hc7 hs7 => ?_
    have hB7 : Below w3.heap.size w3 w7 := below_one hB6 hc7 (Nat.le_refl _)
    have h7 := h3.ext hB7
    have hs7' := hs3.ext hB7
    have hn7 := hn3.ext hB7
    refine joinP_of fun J1 hJ1 => ?_
    have key : ∀ w8, Below w3.heap.size w3 w8 → Blk w8 w3.heap.size ty_func_line_Line_int_int_api_Attr_line_Line [.func (.func (if c = 80 then fn_line_Line_Delete else fn_line_Line_Insert)) #[] #[]] → J1 () w8 := by
      intro w8 hB8 hb8
      refine hJ1 _ _ ?_
      have hd := (h3.ext hB8).drew
      have hs8 := (hs3.ext hB8).drew
      have hn8 := (hn3.ext hB8).drew
      have hc8 := hb8.drew
      refine ldP_of (x := some ⟨g, 0, none⟩) (by simpa using hs8.cells 0 _ rfl) (ldP_of (x := some ⟨g, 0, none⟩) (by simpa using hs8.cells 0 _ rfl) ?_)
      simp only [onPtr_some]
      refine hd.m.ldRow (sg_spec hd.m ?_)
      have hdd := hd.drew
      have hs9 := hs8.drew
      have hn9 := hn8.drew
      have hc9 := hc8.drew
      refine ⟨hdd.m.cRow, by simpa using hs9.cells 0 _ rfl, ?_⟩
      have hr : 0 ≤ S.dry.c.Row ∧ S.dry.c.Row < (S.dry.g.rows : Int) := h.ok.rowg
      have ech : S.dry.change (fun xs => if c = 80 then delL xs S.c.Col n S.blank else insL xs S.c.Col n S.blank) = S.dry.withG { S.dry.g with L := S.dry.g.L.set S.dry.c.Row.toNat (resL (cellF S.dry c n (S.dry.g.L.getD S.dry.c.Row.toNat [])) S.dry.g.cols) } := by
        unfold Sc.change
        rw [if_pos hr]
        rfl
      rw [ech] at hK
      refine change_spec (f := cellF S.dry c n) hdd.m hr (fun xs => ?_) (fun xs hx => ?_) (fun l xs K' hl hlen hk => ?_) fun F10 w10 hT10 => hK _ w10 (hdd.trans hT10)
      · unfold cellF
        split
        · exact delL_length _ _ _ _
        · exact insL_length _ _ _ _
      · unfold cellF
        split
        · exact okR_del hx _ _ _
        · exact okR_ins hx _ _ _
      · exact cells1_spec hdd.drew.m hs9.drew hn9.drew hc9.drew hl hlen hk
    refine cond_of (fun e => ?_) fun e => ?_
    · have e : c = 80 := eq_of_beq e
      refine all_of hb7 rfl fun w8 hb8 hc8 hs8 => key w8 (below_one hB7 hc8 (Nat.le_refl _)) (by rw [if_pos e]; exact hb8)
    · have e : ¬ c = 80 := beq_eq_false_iff_ne.1 e
      exact key w7 hB7 (by rw [if_neg e]; exact hb7)
/-! ### move -/
theorem move_spec (h : ScM w base g F S) (hp : ParM w g F p ps) {c n : Int} (hn : in64 n) {K : World → Prop} (hK : ∀ w', ScT base g w F F (S.move ps c n) w' → K w') : c_screen_Screen_move (some ⟨g, 0, none⟩) p c n w K := by
  refine call_screen_Screen_move _ _ _ _ ?_
  unfold sh_screen_Screen_move
  simp only [onPtr_some]
  unfold Sc.move at hK
  dsimp only at hK
  refine joinP_of fun J1 hJ1 => ?_
  have key : ∀ (S1 : Sc) w1, ScT base g w F F S1 w1 → (∀ w', ScT base g w F F (if c = 69 ∨ c = 70 then S1.to S1.c.Row 0 else S1) w' → K w') → J1 () w1 := by
    intro S1 w1 hT1 hK
    refine hJ1 _ _ ?_
    refine or2' (fun e => cond_t rfl ?_) fun e => cond_f rfl ?_
    · rw [if_pos e] at hK
      exact hT1.m.ldRow (to_spec hT1.m fun w3 hT3 => hK _ (hT1.trans hT3))
    · rw [if_neg e] at hK
      exact hK _ hT1
  have hd := (ScT.refl h).drew
  refine or2 (fun e => cond_t rfl ?_) fun e => cond_f rfl ?_
  · rw [if_pos e] at hK
    exact up_spec h fun w1 hT1 => key _ _ hT1 hK
  rw [if_neg e] at hK
  refine or3 (fun e => cond_t rfl ?_) fun e => cond_f rfl ?_
  · rw [if_pos e] at hK
    exact down_spec h fun w1 hT1 => key _ _ hT1 hK
  rw [if_neg e] at hK
  refine or2 (fun e => cond_t rfl ?_) fun e => cond_f rfl ?_
  · rw [if_pos e] at hK
    exact hd.m.ldRow (hd.m.ldCol (to_spec hd.m fun w1 hT1 => key _ _ (hd.trans hT1) hK))
  rw [if_neg e] at hK
  refine cond_of (fun e => ?_) fun e => ?_
  · rw [if_pos (eq_of_beq e)] at hK
    exact hd.m.ldRow (hd.m.ldCol (to_spec hd.m fun w1 hT1 => key _ _ (hd.trans hT1) hK))
  rw [if_neg (beq_eq_false_iff_ne.1 e)] at hK
  refine or2 (fun e => cond_t rfl ?_) fun e => cond_f rfl ?_
  · rw [if_pos e] at hK
    exact h.ldRow (to_spec h fun w1 hT1 => key _ _ hT1 hK)
  rw [if_neg e] at hK
  refine cond_of (fun e => ?_) fun e => ?_
  · rw [if_pos (eq_of_beq e)] at hK
    refine hd.m.ldCol (asked_spec hd.m fun w1 hB1 => ?_)
    have h1 := hd.ext hB1
    exact ⟨h1.m.cCol, to_spec h1.m fun w2 hT2 => key _ _ (h1.trans hT2) hK⟩
  rw [if_neg (beq_eq_false_iff_ne.1 e)] at hK
  refine or2 (fun e => cond_t rfl ?_) fun e => cond_f rfl ?_
  · rw [if_pos e] at hK
    refine asked_spec h fun w1 hB1 => ?_
    have h1 := ScT.of_ext h hB1
    exact param_spec (i := 1) (hp.ext hB1) (to_spec h1.m fun w2 hT2 => key _ _ (h1.trans hT2) hK)
  rw [if_neg e] at hK
  have hsl := h.ok.slen
  refine cond_of (fun e => ?_) fun e => ?_
  · rw [if_pos (eq_of_beq e)] at hK
    refine hd.m.ldRow (hd.m.ldStops (hd.m.ldCol ?_))
    refine tNext_spec hd.m.st hsl _ _ hn.2 fun w1 hB1 => ?_
    have h1 := hd.ext hB1
    exact ⟨h1.m.cRow, to_spec h1.m fun w2 hT2 => key _ _ (h1.trans hT2) hK⟩
  rw [if_neg (beq_eq_false_iff_ne.1 e)] at hK
  refine cond_of (fun e => ?_) fun e => ?_
  · rw [if_pos (eq_of_beq e)] at hK
    refine hd.m.ldRow (hd.m.ldStops (hd.m.ldCol ?_))
    refine tBack_spec hd.m.st hsl _ _ hn.2 fun w1 hB1 => ?_
    have h1 := hd.ext hB1
    exact ⟨h1.m.cRow, to_spec h1.m fun w2 hT2 => key _ _ (h1.trans hT2) hK⟩
  · rw [if_neg (beq_eq_false_iff_ne.1 e)] at hK
    exact key _ _ (ScT.refl h) hK
end
end Go.Proofs.YtmoafafalnbkpaaGreatDoor

set_option linter.unusedVariables false
namespace Go.Proofs.YtmoafafalnbkpaaGreatDoor
open Go.Vc Go.RowKit
set_option maxRecDepth 400000
section
variable {w w' : World} {base g : Nat} {F F' : ScF} {S S' : Sc} {p : Slc} {ps : List Int}
theorem ScOk.alt (h : ScOk S) (b : Bool) : ScOk { S with alt := b } := ⟨h.g0, h.g1, h.rows, h.cols, h.row, h.col, h.shift, h.sh0, h.sh1, h.top, h.marg, h.stops⟩
theorem save_areas (S : Sc) : S.save.areas = S.areas := by unfold Sc.save Sc.withS; split <;> rfl
theorem show_spec (h : ScM w base g F S) {b all : Bool} {K : World → Prop} (ha : S.areas.length ≤ 900000000) (hK : ∀ F' w', ScT base g w F F' (S.show_ b all) w' → K w') : c_screen_Screen_show (some ⟨g, 0, none⟩) (if b then 1 else 0) all w K := by
  refine call_screen_Screen_show _ _ _ ?_
  unfold sh_screen_Screen_show
  simp only [onPtr_some]
  refine ldI_of (x := if S.alt then 1 else 0) (by rw [add_mk]; exact h.blk.cell 2 rfl) ?_
  unfold Sc.show_ at hK
  refine cond_of (fun e => ?_) fun e => ?_
  · have e : S.alt = b := by
      revert e
      cases S.alt <;> cases b <;> decide
    rw [if_pos e] at hK
    exact hK F w (ScT.refl h)
  have e : ¬ S.alt = b := by
    revert e
    cases S.alt <;> cases b <;> decide
  rw [if_neg e] at hK
  dsimp only at hK
  refine joinP_of fun J1 hJ1 => ?_
  have key : ∀ (S1 : Sc) w1, S1.areas = S.areas → S1 = (if all = true ∧ b = true then S.save else S) → ScT base g w F F S1 w1 → J1 () w1 := by
    intro S1 w1 har hS1 hT1
    rw [← hS1] at hK
    refine hJ1 _ _ ?_
    rw [add_mk]
    refine stK_blk hT1.m.blk (by simp [T_screen_Screen.rep]) fun w2 hb2 hg2 hs2 => ?_
    have hT2 : ScT base g w1 F F { S1 with alt := b } w2 := ScT.mk_struct hT1.m (Chg.gg hg2) (S' := { S1 with alt := b }) hb2 rfl rfl rfl rfl rfl rfl (hT1.m.ok.alt b)
    have h2 := hT1.trans hT2
    have har2 : ({ S1 with alt := b } : Sc).areas.length ≤ 900000000 := by show S1.areas.length ≤ _; rw [har]; exact ha
    refine joinP_of fun J2 hJ2 => ?_
    cases all
    · refine cond_f rfl (hJ2 _ _ (cond_f rfl (cond_f rfl ?_)))
      rw [if_neg (by simp), if_neg (by simp)] at hK
      exact hK _ _ h2
    · refine cond_t rfl ?_
      cases b
      · refine hJ2 _ _ (cond_f rfl (cond_t rfl ?_))
        rw [if_neg (by simp), if_pos rfl] at hK
        exact restore_spec h2.m fun w3 hT3 => hK _ _ (h2.trans hT3)
      · refine hJ2 _ _ (cond_t rfl ?_)
        rw [if_pos ⟨rfl, rfl⟩] at hK
        refine ssize_spec h2.m ?_
        have h3 := h2.drew.drew
        refine h3.m.stDry fun w4 hT4 => ?_
        have h4 := h3.trans hT4
        have hbnd := h2.m.ok.bnd
        refine erase_spec h4.m (by show ({ S1 with alt := true } : Sc).areas.length ≤ _; omega) (by omega) fun F5 w5 hT5 => hK _ _ (h4.trans hT5)
  cases all
  · exact cond_f rfl (key S w rfl (by rw [if_neg (by simp)]) (ScT.refl h))
  · refine cond_t rfl ?_
    cases b
    · exact cond_f rfl (key S w rfl (by rw [if_neg (by simp)]) (ScT.refl h))
    · exact cond_t rfl (save_spec h fun w1 hT1 => key _ _ (save_areas S) (by rw [if_pos ⟨rfl, rfl⟩]) hT1)
theorem ScOk.origin (h : ScOk S) (b : Bool) : ScOk { S with c := { S.c with Origin := b } } := h.cur h.rowg h.colg h.shift
theorem turn_spec (h : ScM w base g F S) {n : Int} (hn : in64 n) {b : Bool} {K : World → Prop} (ha : S.areas.length ≤ 900000000) (hK : ∀ F' w', ScT base g w F F' (S.turn n b) w' → K w') : c_screen_Screen_turn (some ⟨g, 0, none⟩) n b w K := by
  refine call_screen_Screen_turn _ _ _ ?_
  unfold sh_screen_Screen_turn
  simp only [onPtr_some]
  unfold Sc.turn at hK
  refine joinP_of fun J1 hJ1 => ?_
  have key : J1 (if b then 1 else 0, ()) w := by
    refine hJ1 _ _ ?_
    refine cond_of (fun e => ?_) fun e => ?_
    · rw [if_pos (eq_of_beq e)] at hK
      rw [add_mk, add_mk]
      refine stK_blk h.blk (by simp [T_screen_Screen.rep]) fun w2 hb2 hg2 hs2 => ?_
      have hT2 : ScT base g w F F { S with c := { S.c with Origin := b } } w2 := ScT.mk_struct h (Chg.gg hg2) (S' := { S with c := { S.c with Origin := b } }) hb2 rfl rfl rfl rfl rfl rfl (h.ok.origin b)
      exact home_spec hT2.m fun w3 hT3 => hK _ _ (hT2.trans hT3)
    rw [if_neg (beq_eq_false_iff_ne.1 e)] at hK
    refine or5 (fun e => cond_t rfl ?_) fun e => cond_f rfl ?_
    · rw [if_pos e] at hK
      refine ldM_of (x := some F.mp) (by rw [add_mk]; exact h.blk.cell 36 rfl) ?_
      exact h.setPr hn fun w2 hT2 => hK _ _ hT2
    rw [if_neg e] at hK
    refine or2 (fun e => cond_t rfl ?_) fun e => cond_f rfl ?_
    · rw [if_pos e] at hK
      exact show_spec h ha hK
    rw [if_neg e] at hK
    refine cond_of (fun e => ?_) fun e => ?_
    · rw [if_pos (eq_of_beq e)] at hK
      exact show_spec h ha hK
    · rw [if_neg (beq_eq_false_iff_ne.1 e)] at hK
      exact hK _ _ (ScT.refl h)
  cases b
  · exact cond_f rfl key
  · exact cond_t rfl key
theorem show_areas (S : Sc) (b all : Bool) : (S.show_ b all).areas.length ≤ S.areas.length + 1 := by
  unfold Sc.show_
  split
  · omega
  · dsimp only
    split
    · refine Nat.le_trans (erase_areas _ _ _ _ _) ?_
      show S.save.areas.length + 1 ≤ _
      rw [save_areas]
      omega
    · split
      · show S.areas.length ≤ _
        omega
      · show S.areas.length ≤ _
        omega
theorem turn_areas (S : Sc) (n : Int) (b : Bool) : (S.turn n b).areas.length ≤ S.areas.length + 1 := by
  unfold Sc.turn
  split
  · show S.areas.length ≤ _; omega
  · split
    · show S.areas.length ≤ _; omega
    · split
      · exact show_areas _ _ _
      · split
        · exact show_areas _ _ _
        · omega
theorem turns_areas (b : Bool) : ∀ (l : List Int) (S : Sc), (S.turns b l).areas.length ≤ S.areas.length + l.length
  | [], S => by show S.areas.length ≤ _; omega
  | n :: l, S => by
    have h1 := turns_areas b l (S.turn n b)
    have h2 := turn_areas S n b
    have h3 : S.turns b (n :: l) = (S.turn n b).turns b l := rfl
    rw [h3, List.length_cons]
    omega
theorem turns_snoc (S : Sc) (b : Bool) (l : List Int) (n : Int) : S.turns b (l ++ [n]) = (S.turns b l).turn n b := by
  unfold Sc.turns
  rw [List.foldl_append]
  rfl
/-! ### soft -/
theorem ScOk.softOf (h : ScOk S) : ScOk S.soft := by
  have hb := h.bnd
  obtain ⟨e1, e2⟩ := h.grows
  exact ⟨h.g0, h.g1, h.rows, h.cols, h.row, h.col, .inl rfl, .inl rfl, .inl rfl, ⟨Int.le_refl 0, by show (0 : Int) < (S.g.rows : Int); omega, by show (S.g.rows : Int) ≤ S.g0.rows; omega⟩, fun hh => by
    show (0 : Int) + 2 ≤ (S.g.rows : Int)
    have hh : 2 ≤ S.g0.rows := hh
    omega, h.stops⟩
theorem soft_spec (h : ScM w base g F S) {K : World → Prop} (hK : ∀ F' w', ScT base g w F F' S.soft w' → K w') : c_screen_Screen_soft (some ⟨g, 0, none⟩) w K := by
  refine call_screen_Screen_soft _ ?_
  unfold sh_screen_Screen_soft
  refine ssize_spec h ?_
  refine plain_spec (ScT.refl h).drew.drew.m fun F1 w1 hT1 => ?_
  have h1 := (ScT.refl h).drew.drew.trans hT1
  simp only [onPtr_some]
  rw [add_mk]
  refine stK_blk h1.m.blk (by simp [T_screen_Screen.rep]) fun w2 hb2 hg2 hs2 => ?_
  rw [add_mk]
  refine stK_blk hb2 (by simp [T_screen_Screen.rep, putL]) fun w3 hb3' hg3 hs3 => ?_
  obtain ⟨X, hX⟩ : ∃ X : T_screen_Screen, X = { scX F1 S.plain with top := 0, past := S.g.rows } := ⟨_, rfl⟩
  have hb3 : Blk w3 g ty_screen_Screen (T_screen_Screen.rep.cells X) := by rw [hX]; exact hb3'
  rw [add_mk]
  refine stK_blk hb3 (by simp [T_screen_Screen.rep]) fun w4 hb4' hg4 hs4 => ?_
  rw [cells_saved] at hb4'
  have c4 : Chg (fun k => k = g) w1 w4 := chg_seq (chg_seq (Chg.gg hg2) (Chg.gg hg3)) (Chg.gg hg4)
  refine first_spec fun w5 hB5 => nw_blk fun w6 hx6 hB6 hs6 => all_of hx6 rfl fun w7 hx7 hc7 hs7 => ?_
  have hB57 : Below w4.heap.size w4 w7 := below_one (below_t hB5 hB6) hc7 hB5.size
  have hb7 := (hb4'.ext hB57).drew
  have hx8 := hx7.drew
  refine ldS_of (r := T_2_uint8.rep) (x := ⟨66, 66⟩) (by rw [add_mk]; exact sub_cells hx8 7 rfl) (ldI_of (x := 0) (by rw [add_mk]; exact hx8.cell 9 rfl) ?_)
  have hgw : g < w4.heap.size := hb4'.lt
  have s5 := hB5.size
  have hne : w5.heap.size ≠ g := by omega
  simp only [add_mk]
  refine stK_blk hb7 (by simp [T_screen_Screen.rep]) fun w9 hb9 hg9 hs9 => ?_
  have hx9 := hx8.chg (Chg.gg hg9) hne
  refine ⟨hx9.cell 9 rfl, sub_cells hx9 7 rfl, ?_⟩
  refine stK_blk hb9 (by simp [T_screen_Screen.rep, putL, T_2_uint8.rep]) fun w10 hb10 hg10 hs10 => ?_
  have hx10 := hx9.chg (Chg.gg hg10) hne
  refine ⟨hx10.cell 9 rfl, ?_⟩
  refine stK_blk hb10 (by simp [T_screen_Screen.rep, putL, T_2_uint8.rep]) fun w11 hb11 hg11 hs11 => ?_
  refine stK_blk hb11 (by simp [T_screen_Screen.rep, putL, T_2_uint8.rep]) fun w12 hb12 hg12 hs12 => ?_
  have c12 : Chg (fun k => k = g) w1 w12 := by
    have a1 := chg_seq c4 (Chg.of_ext (S := fun k => k = g) hB57)
    have a2 := chg_seq a1 (Chg.of_ext (S := fun k => k = g) (below_drew w7))
    exact chg_seq (chg_seq (chg_seq (chg_seq a2 (Chg.gg hg9)) (Chg.gg hg10)) (Chg.gg hg11)) (Chg.gg hg12)
  refine hK F1 w12 (h1.trans (ScT.mk_struct h1.m c12 (S' := S.soft) ?_ rfl rfl rfl rfl rfl rfl h.ok.softOf))
  rw [hX] at hb12
  exact hb12
/-! ### control -/
theorem control_spec (h : ScM w base g F S) {c : Int} {K : World → Prop} (hK : ∀ F' w', ScT base g w F F' (S.control c) w' → K w') : c_screen_Screen_control (some ⟨g, 0, none⟩) c w K := by
  refine call_screen_Screen_control _ _ ?_
  unfold sh_screen_Screen_control
  simp only [onPtr_some]
  unfold Sc.control at hK
  have hd := (ScT.refl h).drew
  refine joinP_of fun J1 hJ1 => ?_
  have cr : ∀ (S1 : Sc) F1 w1, ScT base g w F F1 S1 w1 → (∀ F' w', ScT base g w F F' (S1.to S1.c.Row 0) w' → K w') → J1 () w1 := by
    intro S1 F1 w1 hT1 hK
    exact hJ1 _ _ (hT1.m.ldRow (to_spec hT1.m fun w2 hT2 => hK _ _ (hT1.trans hT2)))
  refine cond_of (fun e => ?_) fun e => ?_
  · rw [if_pos (eq_of_beq e)] at hK
    exact hd.m.ldRow (hd.m.ldCol (to_spec hd.m fun w1 hT1 => hK _ _ (hd.trans hT1)))
  rw [if_neg (beq_eq_false_iff_ne.1 e)] at hK
  refine cond_of (fun e => ?_) fun e => ?_
  · rw [if_pos (eq_of_beq e)] at hK
    refine hd.m.ldRow (hd.m.ldStops (hd.m.ldCol ?_))
    refine tNext_spec hd.m.st h.ok.slen _ _ (by decide) fun w1 hB1 => ?_
    have h1 := hd.ext hB1
    exact ⟨h1.m.cRow, to_spec h1.m fun w2 hT2 => hK _ _ (h1.trans hT2)⟩
  rw [if_neg (beq_eq_false_iff_ne.1 e)] at hK
  refine joinP_of fun J2 hJ2 => ?_
  have nl : (c = 10 ∨ c = 11 ∨ c = 12) → c_screen_Screen_index (some ⟨g, 0, none⟩) w fun w9 => ldM ((⟨g, 0, none⟩ : Addr).add 35) w9 fun t53 => runK1 PG (Instr.lookup ty_map_int_bool (.map t53) (.int .i64 20) false) Kind.bool w9 fun (t54 : Bool) w10 => cond (!t54) (K w10) (J1 (()) w10) := by
    intro hc
    rw [if_pos hc] at hK
    refine index_spec h fun F1 w1 hT1 => ?_
    refine ldM_of (x := some F1.mm) (by rw [add_mk]; exact hT1.m.blk.cell 35 rfl) (look_spec hT1.m.mo ?_)
    have hm : (lookL S.index.modes 20).getD false = S.index.mode 20 := rfl
    rw [hm]
    cases e : S.index.mode 20
    · rw [if_neg (by rw [e]; decide)] at hK
      exact cond_t rfl (hK _ _ hT1)
    · rw [if_pos e] at hK
      exact cond_f rfl (cr _ _ _ hT1 hK)
  refine cond_of (fun e => ?_) fun e1 => ?_
  · exact cond_t e (nl (.inl (eq_of_beq e)))
  refine cond_of (fun e => ?_) fun e2 => ?_
  · exact cond_t e (nl (.inr (.inl (eq_of_beq e))))
  refine cond_of (fun e => ?_) fun e3 => ?_
  · exact nl (.inr (.inr (eq_of_beq e)))
  rw [if_neg (fun hh => by rcases hh with hh | hh | hh; exact beq_eq_false_iff_ne.1 e1 hh; exact beq_eq_false_iff_ne.1 e2 hh; exact beq_eq_false_iff_ne.1 e3 hh)] at hK
  refine hJ2 _ _ ?_
  have sh : ∀ v, (v = 0 ∨ v = 1) → c = 15 - v → (∀ F' w', ScT base g w F F' { S with c := { S.c with Shift := 15 - c } } w' → K w') → stK (((⟨g, 0, none⟩ : Addr).add 3).add 9) [(.int .i64 (IntKind.i64.wrap (IntKind.u8.wrap ((15 : Int) - c))))] w K := by
    intro v hv hc hK
    have e1 : IntKind.i64.wrap (IntKind.u8.wrap ((15 : Int) - c)) = v := by
      rw [hc]
      rcases hv with rfl | rfl <;> decide
    rw [e1, add_mk, add_mk]
    refine stK_blk h.blk (by simp [T_screen_Screen.rep]) fun w2 hb2 hg2 hs2 => ?_
    have e2 : 15 - c = v := by omega
    rw [e2] at hK
    exact hK _ _ (ScT.mk_struct h (Chg.gg hg2) (S' := { S with c := { S.c with Shift := v } }) hb2 rfl rfl rfl rfl rfl rfl (h.ok.cur h.ok.rowg h.ok.colg hv))
  refine cond_of (fun e => ?_) fun e => ?_
  · rw [if_pos (eq_of_beq e)] at hK
    exact cr _ _ _ (ScT.refl h) hK
  rw [if_neg (beq_eq_false_iff_ne.1 e)] at hK
  refine cond_of (fun e => ?_) fun e4 => ?_
  · rw [if_pos (.inl (eq_of_beq e))] at hK
    exact cond_t e (sh 1 (.inr rfl) (by have : c = 14 := eq_of_beq e; omega) hK)
  refine cond_of (fun e => ?_) fun e5 => ?_
  · rw [if_pos (.inr (eq_of_beq e))] at hK
    exact sh 0 (.inl rfl) (by have : c = 15 := eq_of_beq e; omega) hK
  · rw [if_neg (fun hh => hh.elim (beq_eq_false_iff_ne.1 e4) (beq_eq_false_iff_ne.1 e5))] at hK
    exact hK _ _ (ScT.refl h)
end
end Go.Proofs.YtmoafafalnbkpaaGreatDoor

set_option linter.unusedVariables false
namespace Go.Proofs.YtmoafafalnbkpaaGreatDoor
open Go.Vc Go.RowKit
set_option maxRecDepth 400000
def Sc.putG (S : Sc) (k : Bool) (G : GS) : Sc := if k then { S with g1 := G } else { S with g0 := G }
def Sc.gk (S : Sc) (k : Bool) : GS := if k then S.g1 else S.g0
section
variable {w w' : World} {base g : Nat} {F F' : ScF} {S S' : Sc} {p : Slc} {ps : List Int}
theorem ScM.gkM (h : ScM w base g F S) (k : Bool) : GridM w base (F.f k) (S.gk k) := by
  cases k
  · exact h.g0
  · exact h.g1
theorem ScOk.gkOk (h : ScOk S) (k : Bool) : GOk (S.gk k) := by
  cases k
  · exact h.g0
  · exact h.g1
theorem ScOk.putG (h : ScOk S) (k : Bool) {G : GS} (hG : GOk G) (hr : G.rows = S.g0.rows) (hc : G.cols = S.g0.cols) : ScOk (S.putG k G) := by
  cases k
  · refine ⟨hG, h.g1, by show S.g1.rows = G.rows; rw [hr, h.rows], by show S.g1.cols = G.cols; rw [hc, h.cols], ?_, ?_, h.shift, h.sh0, h.sh1, ?_, ?_, ?_⟩
    · show 0 ≤ S.c.Row ∧ S.c.Row < (G.rows : Int)
      rw [hr]; exact h.row
    · show 0 ≤ S.c.Col ∧ S.c.Col < (G.cols : Int)
      rw [hc]; exact h.col
    · show 0 ≤ S.top ∧ S.top < S.past ∧ S.past ≤ (G.rows : Int)
      rw [hr]; exact h.top
    · show 2 ≤ G.rows → _
      rw [hr]; exact h.marg
    · show S.stops.length = G.cols
      rw [hc]; exact h.stops
  · exact ⟨h.g0, hG, hr, hc, h.row, h.col, h.shift, h.sh0, h.sh1, h.top, h.marg, h.stops⟩
/-- One of the grids changed. -/
theorem ScM.regrid (h : ScM w base g F S) (k : Bool) {f' : Foot} {G' : GS} (hg : GridM w' base f' G') (hto : (F.f k).to f' w.heap.size) (hc : Chg (gridS (F.f k)) w w') (ok : ScOk (S.putG k G')) : ScM w' base g (F.put k f') (S.putG k G') := by
  have hC : ∀ i cs, gridS (F.f k) i → ¬ Blk w i ty_api_Cell cs := fun i cs hk hcs => h.notC i cs (by cases k; exact .inr (.inl hk); exact .inr (.inr (.inl hk))) hcs
  have hp := h.of_grid k
  have hstep : ∀ i, gridS f' i → gridS (F.f k) i ∨ w.heap.size ≤ i := hto.old
  have hgf := hto.g
  have hblk := h.blk.chg hc fun e => (hp g e).1 rfl
  have hst := h.st.keep hc (fun e => (hp _ e).2.2.1 rfl) (fun e => (hp _ e).2.2.2.1 rfl)
  have hmo := h.mo.chg hc (fun e => (hp _ e).2.2.2.2.1 rfl)
  have hpr := h.pr.chg hc (fun e => (hp _ e).2.2.2.2.2.1 rfl)
  have har := h.ar.chg hc fun i hk e => (hp i e).2.2.2.2.2.2 hk
  cases k
  · refine ⟨?_, h.hg, hg, h.g1.chg hc (fun i hk e => (hp i e).2.1 hk) hC, hst, h.hst, hmo, hpr, h.hm, h.dm, har, fun i hk hk' => ?_, ok⟩
    · have e2 : scX (F.put false f') (S.putG false G') = scX F S := by
        have hgf : f'.g = F.f0.g := hgf
        unfold scX ScF.put Sc.putG
        simp only [Bool.false_eq_true, if_false]
        rw [hgf]
      rw [e2]
      exact hblk
    · rcases hstep i hk with h2 | h2
      · exact h.dg i h2 hk'
      · have := (h.g1.below i hk').2
        omega
  · refine ⟨?_, h.hg, h.g0.chg hc (fun i hk e => (hp i e).2.1 hk) hC, hg, hst, h.hst, hmo, hpr, h.hm, h.dm, har, fun i hk hk' => ?_, ok⟩
    · have e2 : scX (F.put true f') (S.putG true G') = scX F S := by
        have hgf : f'.g = F.f1.g := hgf
        unfold scX ScF.put Sc.putG
        simp only [if_true]
        rw [hgf]
      rw [e2]
      exact hblk
    · rcases hstep i hk' with h2 | h2
      · exact h.dg i hk h2
      · have := (h.g0.below i hk).2
        omega
theorem ScT.mk_regrid (h : ScM w base g F S) (k : Bool) {f' : Foot} {G' : GS} (hg : GridM w' base f' G') (hto : (F.f k).to f' w.heap.size) (hc : Chg (gridS (F.f k)) w w') (ok : ScOk (S.putG k G')) : ScT base g w F (F.put k f') (S.putG k G') w' := by
  refine ⟨h.regrid k hg hto hc ok, fun i hk => ?_, hc.mono fun i hi e => ?_⟩
  · have hstep := hto.old
    revert hk hstep
    unfold ScF.put ScF.f
    cases k
    · rintro (rfl | hk | hk | hk) hstep
      · exact .inl (.inl rfl)
      · rcases hstep i hk with h2 | h2
        · exact .inl (.inr (.inl h2))
        · exact .inr h2
      · exact .inl (.inr (.inr (.inl hk)))
      · exact .inl (.inr (.inr (.inr hk)))
    · rintro (rfl | hk | hk | hk) hstep
      · exact .inl (.inl rfl)
      · exact .inl (.inr (.inl hk))
      · rcases hstep i hk with h2 | h2
        · exact .inl (.inr (.inr (.inl h2)))
        · exact .inr h2
      · exact .inl (.inr (.inr (.inr hk)))
  · revert e
    unfold ScF.f
    cases k
    · exact fun e => .inr (.inl e)
    · exact fun e => .inr (.inr (.inl e))
theorem ScF.put_self (F : ScF) (k : Bool) : F.put k (F.f k) = F := by cases k <;> rfl
/-! ### reset -/
theorem putG_gk (S : Sc) (k : Bool) (G : GS) : (S.putG k G).gk k = G := by cases k <;> rfl
theorem putG_putG (S : Sc) (k : Bool) (G G' : GS) : (S.putG k G).putG k G' = S.putG k G' := by cases k <;> rfl
theorem f_put (F : ScF) (k : Bool) (f : Foot) : (F.put k f).f k = f := by cases k <;> rfl
theorem clear0_is (S : Sc) (k : Bool) : S.clear0 k = { S.putG k { S.gk k with L := List.replicate (S.gk k).rows (newL (S.gk k).cols ⟨0, 0, 0⟩), old := [] } with areas := S.areas ++ [⟨k, (S.gk k).top, (S.gk k).rows, 0, (S.gk k).cols⟩] } := by cases k <;> rfl
theorem putG_areas (S : Sc) (k : Bool) (G : GS) : (S.putG k G).areas = S.areas := by cases k <;> rfl
/-- One grid let be as new. -/
theorem clear_spec (h : ScM w base g F S) (k : Bool) {a : Option Addr} (ea : a = some ⟨(F.f k).g, 0, none⟩) {b : Bool} (eb : b = k) (ha : S.areas.length ≤ 900000000) {K : World → Prop} (hK : ∀ F' w', (∀ j, (F'.f j).g = (F.f j).g) → ScT base g w F F' (S.clear0 k) w' → K w') :
    c_grid_Grid_Size a w fun t16_2 t16_3 w9 =>
          c_grid_Grid_Clear a (⟨0, 0, 0⟩ : T_api_Attr) w9 fun w10 =>
          c_grid_Grid_Forget a w10 fun w11 =>
          ldSl ((⟨g, 0, none⟩ : Addr).add 41) w11.drew fun t28_1 =>
          c_grid_Grid_Top a w11.drew fun t32_1 w12 =>
          World.cell? w12 ((⟨g, 0, none⟩ : Addr).add 41) = some (.slice t28_1.a t28_1.n t28_1.c) ∧
          nw ty_screen_Area [(.bool b), (.int .i64 t32_1), (.int .i64 t16_2), (.int .i64 0), (.int .i64 t16_3)] w12 fun t36_1 w13 =>
          World.cell? w13 ((⟨g, 0, none⟩ : Addr).add 41) = some (.slice t28_1.a t28_1.n t28_1.c) ∧
          apK PG #[ty_sl_screen_Area, ty_sl_screen_Area] ty_sl_screen_Area t28_1 (⟨(some t36_1), 1, 1⟩ : Slc) w13 fun t37_1 w14 =>
          stK ((⟨g, 0, none⟩ : Addr).add 41) [(.slice t37_1.a t37_1.n t37_1.c)] w14 K := by
  subst ea eb
  have ok := h.ok
  have hG := ok.gkOk b
  have e : (S.gk b).rows = S.g0.rows ∧ (S.gk b).cols = S.g0.cols := by
    cases b
    · exact ⟨rfl, rfl⟩
    · exact ⟨ok.rows, ok.cols⟩
  refine gSize_spec (h.gkM b) ?_
  have hd := (ScT.refl h).drew
  refine gClear_spec (hd.m.gkM b) (by have := hG.rows; omega) hd.m.base_le fun f1 w1 hg1 hto1 hc1 => ?_
  have hT1 := ScT.mk_regrid hd.m b hg1 hto1 hc1 (ok.putG b (hG.clear _) e.1 e.2)
  have h1 := hd.trans hT1
  have hgk := h1.m.gkM b
  rw [f_put, putG_gk] at hgk
  have eg1 : f1.g = (F.f b).g := hto1.g
  rw [← eg1]
  refine gForget_spec hgk fun w2 hg2 hc2 => ?_
  have hT2 := ScT.mk_regrid h1.m b (f' := { f1 with rs := ⟨none, 0, 0⟩ }) (G' := { S.gk b with L := List.replicate (S.gk b).rows (newL (S.gk b).cols ⟨0, 0, 0⟩), old := [] }) hg2 (by rw [f_put]; exact ⟨rfl, rfl, .inl rfl, .inr fun k hk => by cases hk⟩) (by rw [f_put]; exact hc2) (h1.m.ok.putG b (hG.clear _).forget (by rw [show (S.putG b { S.gk b with L := List.replicate (S.gk b).rows (newL (S.gk b).cols ⟨0, 0, 0⟩) }).g0.rows = S.g0.rows from by cases b <;> rfl]; exact e.1) (by rw [show (S.putG b { S.gk b with L := List.replicate (S.gk b).rows (newL (S.gk b).cols ⟨0, 0, 0⟩) }).g0.cols = S.g0.cols from by cases b <;> rfl]; exact e.2))
  have h2 := (h1.trans hT2).drew
  rw [putG_putG] at h2
  have hgk2 := h2.m.gkM b
  rw [f_put, putG_gk] at hgk2
  refine ldSl_of (x := ((F.put b f1).put b { f1 with rs := ⟨none, 0, 0⟩ }).ar) (by rw [add_mk]; exact h2.m.blk.cell 41 rfl) ?_
  refine gTop_spec (f := { f1 with rs := ⟨none, 0, 0⟩ }) hgk2 ⟨by rw [add_mk]; exact h2.m.blk.cell 41 rfl, ?_⟩
  refine area_spec (a := ⟨b, (S.gk b).top, (S.gk b).rows, 0, (S.gk b).cols⟩) h2.m (by rw [putG_areas]; omega) rfl fun q w3 hT3 => ?_
  have h3 := h2.trans hT3
  rw [putG_areas] at h3
  rw [clear0_is] at hK
  refine hK _ w3 (fun j => ?_) h3
  cases b <;> cases j <;> first | rfl | exact eg1
theorem clear0_areas (S : Sc) (k : Bool) : (S.clear0 k).areas.length = S.areas.length + 1 := by rw [clear0_is]; simp
theorem reset_spec (h : ScM w base g F S) (ha : S.areas.length ≤ 800000000) {K : World → Prop} (hK : ∀ F' w', ScT base g w F F' S.reset w' → K w') : c_screen_Screen_reset (some ⟨g, 0, none⟩) w K := by
  refine call_screen_Screen_reset _ ?_
  unfold sh_screen_Screen_reset
  simp only [onPtr_some]
  refine ldS_of (r := T_2_grid_Grid.rep) (x := ⟨some ⟨F.f0.g, 0, none⟩, some ⟨F.f1.g, 0, none⟩⟩) (by rw [add_mk]; exact sub_cells h.blk 0 rfl) ?_
  refine loopP_rule (fun (st : Int × Unit) w2 => ∃ F2, (∀ j, (F2.f j).g = (F.f j).g) ∧ ((st.1 = 0 ∧ ScT base g w F F2 S w2) ∨ (st.1 = 1 ∧ ScT base g w F F2 (S.clear0 false) w2) ∨ (st.1 = 2 ∧ ScT base g w F F2 ((S.clear0 false).clear0 true) w2))) (fun st => 2 - st.1.toNat) ⟨F, fun _ => rfl, .inl ⟨rfl, ScT.refl h⟩⟩ ?_
  rintro ⟨i, u⟩ w2 ⟨F2, hf, ⟨rfl, hT⟩ | ⟨rfl, hT⟩ | ⟨rfl, hT⟩⟩ I hI
  · refine cond_t rfl (cond_t rfl ?_)
    refine clear_spec hT.m false (by rw [hf false]; rfl) rfl (by omega) fun F3 w3 hf3 hT3 => ?_
    exact hI _ _ ⟨F3, fun j => (hf3 j).trans (hf j), .inr (.inl ⟨by show IntKind.i64.wrap (0 + 1) = 1; decide, hT.trans hT3⟩)⟩ (by show 2 - (IntKind.i64.wrap (0 + 1)).toNat < 2 - (0 : Int).toNat; decide)
  · refine cond_t rfl (cond_f rfl (cond_t rfl ?_))
    refine clear_spec hT.m true (by rw [hf true]; rfl) rfl (by rw [clear0_areas]; omega) fun F3 w3 hf3 hT3 => ?_
    exact hI _ _ ⟨F3, fun j => (hf3 j).trans (hf j), .inr (.inr ⟨by show IntKind.i64.wrap (1 + 1) = 2; decide, hT.trans hT3⟩)⟩ (by show 2 - (IntKind.i64.wrap (1 + 1)).toNat < 2 - (1 : Int).toNat; decide)
  · refine cond_f rfl ?_
    exact fresh_spec hT.m fun F3 w3 hT3 => hK F3 w3 (hT.trans hT3)
/-! ### full -/
def fullRow (cols : Nat) : List Cell := (newL cols ⟨0, 0, 0⟩).map fun c => ({ c with R := 69 } : Cell)
def eCell (c : Cell) : Cell := { c with R := 69 }
theorem take_map_set {l : List Cell} {k : Nat} (hk : k < l.length) : ((l.take k).map eCell ++ l.drop k).set k (eCell l[k]) = (l.take (k + 1)).map eCell ++ l.drop (k + 1) := by
  rw [List.set_append_right _ _ (by rw [List.length_map, List.length_take]; omega)]
  have e : ((l.take k).map eCell).length = k := by rw [List.length_map, List.length_take]; omega
  rw [e, Nat.sub_self, List.drop_eq_getElem_cons hk, List.set_cons_zero, List.take_succ_eq_append_getElem hk, List.map_append]
  rw [List.append_assoc]
  rfl
theorem okR_full (cols : Nat) : okR (fullRow cols) := by
  intro c hc
  obtain ⟨d, _, rfl⟩ := List.mem_map.1 hc
  exact ⟨show (-9223372036854775808 : Int) ≤ 69 by decide, show (69 : Int) ≤ 9223372036854775807 by decide⟩
theorem full_len (cols : Nat) (h : cols ≤ 1000) : (fullRow cols).length = cols := by
  unfold fullRow
  rw [List.length_map]
  exact (newL_good h _).2.1
theorem rep_set {α : Type} {L : List α} {x : α} {k : Nat} (hk : k < L.length) : (List.replicate k x ++ L.drop k).set k x = List.replicate (k + 1) x ++ L.drop (k + 1) := by
  rw [List.set_append_right _ _ (by simp)]
  rw [List.drop_eq_getElem_cons hk]
  simp only [List.length_replicate, Nat.sub_self, List.set_cons_zero]
  rw [List.replicate_succ']
  simp
def fullG (G : GS) (xs : List Cell) (k : Nat) : GS := { G with L := List.replicate k xs ++ G.L.drop k }
theorem withG_self (S : Sc) : S.withG S.g = S := by
  obtain ⟨g0, g1, alt, c, s0, s1, modes, priv, top, past, stops, char, areas⟩ := S
  cases alt <;> rfl
theorem ScOk.full1 (h : ScOk S) : ScOk { S with top := 0, past := S.g.rows } := by
  have hb := h.bnd
  obtain ⟨e1, e2⟩ := h.grows
  exact ⟨h.g0, h.g1, h.rows, h.cols, h.row, h.col, h.shift, h.sh0, h.sh1, ⟨Int.le_refl 0, by show (0 : Int) < (S.g.rows : Int); omega, by show (S.g.rows : Int) ≤ S.g0.rows; omega⟩, fun hh => by
    show (0 : Int) + 2 ≤ (S.g.rows : Int)
    have hh : 2 ≤ S.g0.rows := hh
    omega, h.stops⟩
theorem full_spec (h : ScM w base g F S) {K : World → Prop} (hK : ∀ w', ScT base g w F F S.full w' → K w') : c_screen_Screen_full (some ⟨g, 0, none⟩) w K := by
  refine call_screen_Screen_full _ ?_
  unfold sh_screen_Screen_full
  refine ssize_spec h ?_
  have hd := (ScT.refl h).drew.drew
  have hb := h.ok.bnd
  refine New_spec fun l w1 ho1 hB1 => ?_
  have h1 := hd.ext hB1
  obtain ⟨xs, hxs⟩ : ∃ xs, xs = newL S.g.cols ⟨0, 0, 0⟩ := ⟨_, rfl⟩
  have hxl : xs.length = S.g.cols := by rw [hxs]; exact (newL_good hb.2.2.2 _).2.1
  rw [← hxs] at ho1
  have z1 : w.drew.drew.heap.size = w.heap.size := rfl
  have hfr : xs.map eCell = fullRow S.g.cols := by rw [hxs]; rfl
  have hfl := full_len S.g.cols hb.2.2.2
  have hL := h.gOk.len
  refine loopP_rule (fun (st : Int × Unit) w2 => ∃ k : Nat, st.1 = (k : Int) ∧ k ≤ xs.length ∧ Below w.drew.drew.heap.size w.drew.drew w2 ∧ Go.Vc.Own cellE w2 w.drew.drew.heap.size l ((xs.take k).map eCell ++ xs.drop k)) (fun st => xs.length - st.1.toNat) ⟨0, rfl, by omega, hB1, by simpa using ho1⟩ ?_
  rintro ⟨i, u⟩ w2 ⟨k, hi, hk, hB2, ho2⟩ I hI
  dsimp only at hi ⊢
  subst hi
  have hn := ho2.rd.n
  have hlen : ((xs.take k).map eCell ++ xs.drop k).length = xs.length := by simp; omega
  rw [hlen] at hn
  refine cond_of (fun e => ?_) fun e => ?_
  · have e := of_decide_eq_true e
    have hkl : k < xs.length := by omega
    have hx : ((xs.take k).map eCell ++ xs.drop k)[k]? = some xs[k] := by
      rw [List.getElem?_append_right (by simp; omega), List.getElem?_drop]
      simp only [List.length_map, List.length_take, Nat.min_eq_left hk, Nat.sub_self, Nat.add_zero]
      exact List.getElem?_eq_getElem hkl
    refine ho2.rd.ix (i := (k : Int)) rfl (by omega) (by rw [hlen]; omega) fun _ => ?_
    rw [Int.toNat_natCast]
    refine ho2.st (j := 0) hx (y := eCell xs[k]) (us := [.int .i32 69]) (by decide) rfl fun w3 ho3 hg3 hs3 => ?_
    rw [take_map_set hkl] at ho3
    rw [wrap64_id (x := (k : Int) + 1) (by omega)]
    have c3 : Chg (fun j => l.blk = some j) w2 w3 := Chg.of_grown hg3 fun j hj => hj
    exact hI _ _ ⟨k + 1, by simp, by omega, hB2.trans (c3.below hB2.size fun j hj e => by have := (ho2.lt j e).1; omega), ho3⟩ (by dsimp only; omega)
  · have e := of_decide_eq_false e
    have hkx : k = xs.length := by omega
    subst hkx
    rw [List.take_length, List.drop_length, List.append_nil, hfr] at ho2
    have h2 := hd.ext hB2
    obtain ⟨R, hR⟩ : ∃ R, R = resL (fullRow S.g.cols) S.g.cols := ⟨_, rfl⟩
    have e0 : S.withG (fullG S.g R 0) = S := withG_self S
    clear hI
    refine loopP_rule (fun (st : Int × Unit) w3 => ∃ k : Nat, st.1 = (k : Int) ∧ k ≤ S.g.rows ∧ ScT base g w F F (S.withG (fullG S.g R k)) w3 ∧ Rd cellE w3 l (fullRow S.g.cols)) (fun st => S.g.rows - st.1.toNat) ⟨0, rfl, by omega, by rw [e0]; exact h2, ho2.rd⟩ ?_
    rintro ⟨i, u⟩ w3 ⟨k, hi, hk, hT3, hr3⟩ I hI
    dsimp only at hi ⊢
    subst hi
    have hg3 : (S.withG (fullG S.g R k)).g = fullG S.g R k := withG_g _ _
    have ha3 : (S.withG (fullG S.g R k)).alt = S.alt := by unfold Sc.withG; split <;> rfl
    refine cond_of (fun e => ?_) fun e => ?_
    · have e := of_decide_eq_true e
      refine sg_spec hT3.m ?_
      have hd3 := hT3.drew
      have hgok := hd3.m.gOk
      have hll := hgok.len
      refine gSet_spec (xs := fullRow S.g.cols) hd3.m.gM hr3.drew (by omega) hll hd3.m.base_le (fun w4 _ hg4 hc4 => ?_) fun hbad => ?_
      · rw [hg3] at hg4
        rw [Int.toNat_natCast] at hg4
        have hkL : k < S.g.L.length := by omega
        have eG : ({ fullG S.g R k with L := (fullG S.g R k).L.set k (resL (fullRow S.g.cols) (fullG S.g R k).cols) } : GS) = fullG S.g R (k + 1) := by
          show ({ fullG S.g R k with L := (List.replicate k R ++ S.g.L.drop k).set k (resL (fullRow S.g.cols) S.g.cols) } : GS) = _
          rw [← hR, rep_set hkL]
          rfl
        rw [eG] at hg4
        have ok1 : GOk (fullG S.g R (k + 1)) := by
          rw [← eG]
          rw [hg3] at hgok
          exact hgok.set k (res_good hgok.cols.2 (okR_full _))
        have hT4 := ScT.mk_grid hd3.m hg4 (Foot.to.refl _ _) hc4 (hd3.m.ok.withG ok1 (by rw [hg3]; rfl) (by rw [hg3]; rfl))
        rw [ScF.put_self] at hT4
        have e4 : (S.withG (fullG S.g R k)).withG (fullG S.g R (k + 1)) = S.withG (fullG S.g R (k + 1)) := by
          unfold Sc.withG
          cases hS : S.alt <;> simp
        rw [e4] at hT4
        rw [wrap64_id (x := (k : Int) + 1) (by omega)]
        refine hI _ _ ⟨k + 1, by simp, by omega, hd3.trans hT4, ?_⟩ (by dsimp only; omega)
        refine hr3.drew.chg hc4 fun a ha hs => ?_
        have hlb := (ho2.lt a.block (by unfold Slc.blk; rw [ha]; rfl)).1
        have := (h.below a.block (by
          have hs : gridS (F.f (S.withG (fullG S.g R k)).alt) a.block := hs
          rw [ha3] at hs
          cases hS : S.alt <;> rw [hS] at hs
          · exact .inr (.inl hs)
          · exact .inr (.inr (.inl hs)))).2
        have z : w.drew.drew.heap.size = w.heap.size := rfl
        omega
      · rw [hg3] at hbad
        exact absurd ⟨by omega, by show (k : Int) < (S.g.rows : Int); omega⟩ hbad
    · have e := of_decide_eq_false e
      have hkr : k = S.g.rows := by omega
      subst hkr
      have eF : fullG S.g R S.g.rows = { S.g with L := List.replicate S.g.rows (resL (fullRow S.g.cols) S.g.cols) } := by
        show ({ S.g with L := List.replicate S.g.rows R ++ S.g.L.drop S.g.rows } : GS) = _
        rw [List.drop_eq_nil_of_le (by omega), List.append_nil, hR]
      rw [eF] at hT3 hg3
      simp only [onPtr_some]
      rw [add_mk]
      refine stK_blk hT3.m.blk (by simp [T_screen_Screen.rep]) fun w4 hb4 hg4 hs4 => ?_
      rw [add_mk]
      refine stK_blk hb4 (by simp [T_screen_Screen.rep, putL]) fun w5 hb5 hg5 hs5 => ?_
      have hc : Chg (fun k => k = g) w3 w5 := chg_seq (Chg.gg hg4) (Chg.gg hg5)
      have ok5 := hT3.m.ok.full1
      rw [hg3] at ok5
      have hT5 := ScT.mk_struct hT3.m hc (S' := { S.withG { S.g with L := List.replicate S.g.rows (resL (fullRow S.g.cols) S.g.cols) } with top := 0, past := S.g.rows }) hb5 rfl rfl rfl rfl rfl rfl ok5
      refine to_spec hT5.m fun w6 hT6 => hK w6 ((hT3.trans hT5).trans hT6)
/-! ### single, escape -/
theorem single_spec (h : ScM w base g F S) {c : Int} (ha : S.areas.length ≤ 800000000) {K : World → Prop} (hK : ∀ F' w', ScT base g w F F' (S.single c) w' → K w') : c_screen_Screen_single (some ⟨g, 0, none⟩) c w K := by
  refine call_screen_Screen_single _ _ ?_
  unfold sh_screen_Screen_single
  simp only [onPtr_some]
  unfold Sc.single at hK
  have hd := (ScT.refl h).drew
  refine cond_of (fun e => ?_) fun e => ?_
  · rw [if_pos (eq_of_beq e)] at hK
    exact h.ldRow (to_spec h fun w1 hT1 => index_spec hT1.m fun F2 w2 hT2 => hK _ _ (hT1.trans hT2))
  rw [if_neg (beq_eq_false_iff_ne.1 e)] at hK
  refine cond_of (fun e => ?_) fun e => ?_
  · rw [if_pos (eq_of_beq e)] at hK
    exact index_spec h hK
  rw [if_neg (beq_eq_false_iff_ne.1 e)] at hK
  refine cond_of (fun e => ?_) fun e => ?_
  · rw [if_pos (eq_of_beq e)] at hK
    exact reverse_spec h hK
  rw [if_neg (beq_eq_false_iff_ne.1 e)] at hK
  refine cond_of (fun e => ?_) fun e => ?_
  · rw [if_pos (eq_of_beq e)] at hK
    refine hd.m.ldStops (hd.m.ldCol ?_)
    refine tSet_spec hd.m.st hd.m.ok.slen.2 _ fun w2 hst hc hs => hK _ _ (hd.trans (hd.m.setSt (setB_length _ _ _) hst hc))
  rw [if_neg (beq_eq_false_iff_ne.1 e)] at hK
  refine cond_of (fun e => ?_) fun e => ?_
  · rw [if_pos (eq_of_beq e)] at hK
    exact save_spec h fun w1 hT1 => hK _ _ hT1
  rw [if_neg (beq_eq_false_iff_ne.1 e)] at hK
  refine cond_of (fun e => ?_) fun e => ?_
  · rw [if_pos (eq_of_beq e)] at hK
    exact restore_spec h fun w1 hT1 => hK _ _ hT1
  rw [if_neg (beq_eq_false_iff_ne.1 e)] at hK
  refine cond_of (fun e => ?_) fun e => ?_
  · rw [if_pos (eq_of_beq e)] at hK
    exact reset_spec h ha hK
  · rw [if_neg (beq_eq_false_iff_ne.1 e)] at hK
    exact hK _ _ (ScT.refl h)
theorem ScOk.setSet (h : ScOk S) (i c : Int) : ScOk (S.setSet i c) := by
  unfold Sc.setSet
  split <;> exact h.cur h.rowg h.colg h.shift
theorem sets_store (h : ScM w base g F S) {i c : Int} (hi : i = 0 ∨ i = 1) {K : World → Prop} (hK : ∀ w', ScT base g w F F (S.setSet i c) w' → K w') : ixA (((⟨g, 0, none⟩ : Addr).add 3).add 7) 2 i 1 fun t24 => stK t24 [(.int .u8 c)] w.drew K := by
  have hd := (ScT.refl h).drew
  have hok := h.ok.setSet i c
  rcases hi with rfl | rfl
  · have e : S.setSet 0 c = { S with c := { S.c with Sets := ⟨c, S.c.Sets.e1⟩ } } := by unfold Sc.setSet; rw [if_pos rfl]
    rw [e] at hK hok
    refine ⟨⟨by decide, by decide⟩, ?_⟩
    simp only [add_mk]
    refine stK_blk hd.m.blk (by simp [T_screen_Screen.rep]) fun w2 hb2 hg2 hs2 => hK w2 (hd.trans (ScT.mk_struct hd.m (Chg.gg hg2) (S' := { S with c := { S.c with Sets := ⟨c, S.c.Sets.e1⟩ } }) hb2 rfl rfl rfl rfl rfl rfl hok))
  · have e : S.setSet 1 c = { S with c := { S.c with Sets := ⟨S.c.Sets.e0, c⟩ } } := by unfold Sc.setSet; rw [if_neg (by decide)]
    rw [e] at hK hok
    refine ⟨⟨by decide, by decide⟩, ?_⟩
    simp only [add_mk]
    refine stK_blk hd.m.blk (by simp [T_screen_Screen.rep]) fun w2 hb2 hg2 hs2 => hK w2 (hd.trans (ScT.mk_struct hd.m (Chg.gg hg2) (S' := { S with c := { S.c with Sets := ⟨S.c.Sets.e0, c⟩ } }) hb2 rfl rfl rfl rfl rfl rfl hok))
theorem beq_list {a b : List UInt8} (h : (a == b) = true) : a = b := eq_of_beq h
theorem nbeq_list {a b : List UInt8} (h : (a == b) = false) : ¬ a = b := beq_eq_false_iff_ne.1 h
theorem escape_spec (h : ScM w base g F S) {bs : List UInt8} {c : Int} (ha : S.areas.length ≤ 800000000) {K : World → Prop} (hK : ∀ F' w', ScT base g w F F' (S.escape bs c) w' → K w') : c_screen_Screen_escape (some ⟨g, 0, none⟩) (strB bs) c w K := by
  refine call_screen_Screen_escape _ _ _ ?_
  unfold sh_screen_Screen_escape
  have l40 : (⟨#[40]⟩ : ByteArray).toList = [40] := by kernel_rfl
  have l41 : (⟨#[41]⟩ : ByteArray).toList = [41] := by kernel_rfl
  have l35 : (⟨#[35]⟩ : ByteArray).toList = [35] := by kernel_rfl
  have l0 : (⟨#[]⟩ : ByteArray).toList = [] := by kernel_rfl
  rw [l40, l41, l35, l0, strB_toList]
  unfold Sc.escape at hK
  simp only [onPtr_some]
  refine joinP_of fun J1 hJ1 => ?_
  have set1 : ∀ v : UInt8, (v = 40 ∨ v = 41) → bs = [v] → J1 (true, ()) w := by
    rintro v hv rfl
    refine hJ1 _ _ (cond_t rfl ?_)
    have hin : [v] = [40] ∨ [v] = [41] := by rcases hv with rfl | rfl; exact .inl rfl; exact .inr rfl
    rw [if_pos hin] at hK
    refine or2' (fun e => cond_t rfl ?_) fun e => cond_f rfl ?_
    · rw [if_pos e] at hK
      refine ixS_of (k := 0) rfl rfl ?_
      rcases hv with rfl | rfl
      · rw [if_pos rfl] at hK
        rw [show IntKind.u8.wrap (((40 : UInt8).toNat : Int) - 40) = 0 by decide]
        exact sets_store h (.inl rfl) fun w' hT => hK _ _ hT
      · rw [if_neg (by decide)] at hK
        rw [show IntKind.u8.wrap (((41 : UInt8).toNat : Int) - 40) = 1 by decide]
        exact sets_store h (.inr rfl) fun w' hT => hK _ _ hT
    · rw [if_neg e] at hK
      exact hK _ _ (ScT.refl h)
  refine cond_of (fun e => ?_) fun e1 => ?_
  · rw [e]
    exact set1 40 (.inl rfl) (beq_list e)
  cases e2 : (bs == [41])
  rotate_left
  · exact set1 41 (.inr rfl) (beq_list e2)
  rw [if_neg (fun hh => hh.elim (nbeq_list e1) (nbeq_list e2))] at hK
  refine hJ1 _ _ (cond_f rfl ?_)
  refine cond_of (fun e => ?_) fun e => ?_
  · rw [if_pos (beq_list e)] at hK
    refine cond_of (fun e => ?_) fun e => ?_
    · rw [if_pos (eq_of_beq e)] at hK
      exact full_spec h fun w' hT => hK _ _ hT
    · rw [if_neg (beq_eq_false_iff_ne.1 e)] at hK
      exact hK _ _ (ScT.refl h)
  rw [if_neg (nbeq_list e)] at hK
  refine cond_of (fun e => ?_) fun e => ?_
  · rw [if_pos (beq_list e)] at hK
    exact single_spec h ha hK
  · rw [if_neg (nbeq_list e)] at hK
    exact hK _ _ (ScT.refl h)
end
end Go.Proofs.YtmoafafalnbkpaaGreatDoor

set_option linter.unusedVariables false
namespace Go.Proofs.YtmoafafalnbkpaaGreatDoor
open Go.Vc Go.RowKit
set_option maxRecDepth 400000
def flagP (n : Int) : Int := if n = 1 then 1 else if n = 2 then 2 else if n = 3 then 4 else if n = 4 then 8 else if n = 5 then 16 else if n = 7 then 32 else if n = 8 then 64 else if n = 9 then 128 else 0
def attrS (a : Attr) (n : Int) : Attr :=
  if n = 0 then ⟨0, 0, 0⟩
  else if 1 ≤ n ∧ n ≤ 9 then { a with Flags := bitsR .or .i64 a.Flags (flagP n) }
  else if n = 22 then { a with Flags := bitsR .andNot .i64 (bitsR .andNot .i64 a.Flags 1) (flagP (w64 (n - 20))) }
  else if 23 ≤ n ∧ n ≤ 29 then { a with Flags := bitsR .andNot .i64 a.Flags (flagP (w64 (n - 20))) }
  else if 40 ≤ n ∧ n ≤ 47 then { a with Bg := w64 (w64 (16777216 + w64 (n - 10)) - 30) }
  else if 30 ≤ n ∧ n ≤ 37 then { a with Fg := w64 (w64 (16777216 + n) - 30) }
  else if 100 ≤ n ∧ n ≤ 107 then { a with Bg := w64 (w64 (16777224 + w64 (n - 10)) - 90) }
  else if 90 ≤ n ∧ n ≤ 97 then { a with Fg := w64 (w64 (16777224 + n) - 90) }
  else if n = 39 then { a with Fg := 0 }
  else if n = 49 then { a with Bg := 0 }
  else a
def setC (bg : Bool) (a : Attr) (v : Int) : Attr := if bg then { a with Bg := v } else { a with Fg := v }
def byteP (v : Int) : Bool := decide (0 ≤ v ∧ v ≤ 255)
def farA (bg : Bool) (a : Attr) (l : List Int) : Attr × List Int :=
  if 2 ≤ l.length ∧ l.getD 0 0 = 5 then (if byteP (l.getD 1 0) then setC bg a (w64 (16777216 + l.getD 1 0)) else a, l.drop 2)
  else if 4 ≤ l.length ∧ l.getD 0 0 = 2 then (if (byteP (l.getD 1 0) && byteP (l.getD 2 0) && byteP (l.getD 3 0)) = true then setC bg a (w64 (w64 (w64 (33554432 + w64 (l.getD 1 0 * 2 ^ 16)) + w64 (l.getD 2 0 * 2 ^ 8)) + l.getD 3 0)) else a, l.drop 4)
  else (a, [])
def applyL : Nat → Attr → List Int → Attr
  | 0, a, _ => a
  | k + 1, a, [] => a
  | k + 1, a, n :: l => if n = 48 then applyL k (farA true a l).1 (farA true a l).2 else if n = 38 then applyL k (farA false a l).1 (farA false a l).2 else applyL k (attrS a n) l
def applyP (a : Attr) (ps : List Int) : Attr := if ps = [] then ⟨0, 0, 0⟩ else applyL ps.length a ps
theorem farA_len (bg : Bool) (a : Attr) (l : List Int) : (farA bg a l).2.length ≤ l.length := by
  unfold farA
  split
  · simp
  · split <;> simp
theorem applyL_fuel : ∀ (k : Nat) (a : Attr) (l : List Int) (m : Nat), l.length ≤ k → l.length ≤ m → applyL k a l = applyL m a l
  | 0, a, l, m, h1, h2 => by
    have : l = [] := List.eq_nil_of_length_eq_zero (by omega)
    subst this
    cases m <;> rfl
  | k + 1, a, [], m, h1, h2 => by cases m <;> rfl
  | k + 1, a, n :: l, 0, h1, h2 => by simp at h2
  | k + 1, a, n :: l, m + 1, h1, h2 => by
    simp only [List.length_cons] at h1 h2
    have f1 := farA_len true a l
    have f2 := farA_len false a l
    simp only [applyL]
    rw [applyL_fuel k (farA true a l).1 _ m (by omega) (by omega), applyL_fuel k (farA false a l).1 _ m (by omega) (by omega), applyL_fuel k (attrS a n) l m (by omega) (by omega)]
section
variable {w w' : World}
theorem flag_spec {n : Int} {K : Int → World → Prop} (hK : K (flagP n) w) : c_attr_flag n w K := by
  refine call_attr_flag _ ?_
  unfold sh_attr_flag
  unfold flagP at hK
  refine cond_of (fun e => ?_) fun e => ?_
  · rw [if_pos (eq_of_beq e)] at hK; exact hK
  rw [if_neg (beq_eq_false_iff_ne.1 e)] at hK
  refine cond_of (fun e => ?_) fun e => ?_
  · rw [if_pos (eq_of_beq e)] at hK; exact hK
  rw [if_neg (beq_eq_false_iff_ne.1 e)] at hK
  refine cond_of (fun e => ?_) fun e => ?_
  · rw [if_pos (eq_of_beq e)] at hK; exact hK
  rw [if_neg (beq_eq_false_iff_ne.1 e)] at hK
  refine cond_of (fun e => ?_) fun e => ?_
  · rw [if_pos (eq_of_beq e)] at hK; exact hK
  rw [if_neg (beq_eq_false_iff_ne.1 e)] at hK
  refine cond_of (fun e => ?_) fun e => ?_
  · rw [if_pos (eq_of_beq e)] at hK; exact hK
  rw [if_neg (beq_eq_false_iff_ne.1 e)] at hK
  refine cond_of (fun e => ?_) fun e => ?_
  · rw [if_pos (eq_of_beq e)] at hK; exact hK
  rw [if_neg (beq_eq_false_iff_ne.1 e)] at hK
  refine cond_of (fun e => ?_) fun e => ?_
  · rw [if_pos (eq_of_beq e)] at hK; exact hK
  rw [if_neg (beq_eq_false_iff_ne.1 e)] at hK
  refine cond_of (fun e => ?_) fun e => ?_
  · rw [if_pos (eq_of_beq e)] at hK; exact hK
  · rw [if_neg (beq_eq_false_iff_ne.1 e)] at hK; exact hK
theorem far1_spec {v : Int} {K : Bool → World → Prop} (hK : K (byteP v) w) : c_attr_far_1 v w K := by
  refine call_attr_far_1 _ ?_
  unfold sh_attr_far_1
  unfold byteP at hK
  refine cond_of (fun e => ?_) fun e => ?_
  · have e : 0 ≤ v := of_decide_eq_true e
    rw [show decide (0 ≤ v ∧ v ≤ 255) = decide (v ≤ 255) by simp [e]] at hK
    exact hK
  · have e : ¬ 0 ≤ v := of_decide_eq_false e
    rw [show decide (0 ≤ v ∧ v ≤ 255) = false by simp; omega] at hK
    exact hK
def ofs (bg : Bool) : Nat := if bg then 1 else 0
theorem ldP_at {p : Slc} {l : List Int} (h : Rd E_int w p l) {i : Nat} (hi : i < l.length) {K : Int → Prop} (hK : K (l.getD i 0)) : ixK p (i : Int) 1 fun t => ldI .i64 t w K := by
  refine h.ix rfl (by omega) (by omega) fun hc => ?_
  have e : l.getD i 0 = l[i] := by rw [List.getD_eq_getElem?_getD, List.getElem?_eq_getElem hi]; rfl
  rw [e] at hK
  exact ldI_of (x := l[i]) (by simpa using hc 0 _ rfl) hK
theorem drop_rd {p : Slc} {l : List Int} (h : Rd E_int w p l) {k : Nat} (hk : k ≤ l.length) {K : Slc → Prop} (hK : ∀ q, Rd E_int w q (l.drop k) → (q.a = none ∨ ∃ a b, q.a = some a ∧ p.a = some b ∧ a.block = b.block) → K q) : slK p (some (k : Int)) none 1 K := by
  refine h.slK rfl (l := k) (m := l.length) (.inr rfl) (.inl ⟨rfl, rfl⟩) hk (Nat.le_refl _) fun hr => ?_
  rw [List.take_length] at hr
  refine hK _ hr ?_
  cases hp : p.a with
  | none => exact .inl (by simp [cut])
  | some b =>
    by_cases hc : p.c = k
    · exact .inr ⟨b, b, by simp only [cut]; rw [if_pos hc], rfl, rfl⟩
    · exact .inr ⟨b.add (k * E_int.k), b, by simp only [cut]; rw [if_neg hc]; rfl, rfl, by simp⟩
theorem setC_store {b : Nat} {a : Attr} {bg : Bool} {v : Int} (h : Blk w b ty_api_Attr (T_api_Attr.rep.cells a)) {K : World → Prop} (hK : ∀ w', Blk w' b ty_api_Attr (T_api_Attr.rep.cells (setC bg a v)) → Chg (fun k => k = b) w w' → K w') : stK ⟨b, ofs bg, none⟩ [.int .i64 v] w K := by
  cases bg
  · exact stK_blk (o := 0) h (by simp [T_api_Attr.rep]) fun w' hb hg hs => hK w' hb (Chg.gg hg)
  · exact stK_blk (o := 1) h (by simp [T_api_Attr.rep]) fun w' hb hg hs => hK w' hb (Chg.gg hg)
theorem far_spec {p : Slc} {l : List Int} {b : Nat} {a : Attr} {bg : Bool} (h : Rd E_int w p l) (hb : Blk w b ty_api_Attr (T_api_Attr.rep.cells a)) (hne : ∀ c, p.a = some c → l ≠ [] → c.block ≠ b) {K : Slc → World → Prop}
    (hK : ∀ q w', Rd E_int w' q (farA bg a l).2 → (q.a = none ∨ ∃ x y, q.a = some x ∧ p.a = some y ∧ x.block = y.block) → Blk w' b ty_api_Attr (T_api_Attr.rep.cells (farA bg a l).1) → Chg (fun k => k = b) w w' → K q w') : c_attr_far (some ⟨b, ofs bg, none⟩) p w K := by
  refine call_attr_far _ _ ?_
  unfold sh_attr_far
  have hn := h.n
  unfold farA at hK
  have keep : ∀ {w'}, l ≠ [] → Chg (fun k => k = b) w w' → Rd E_int w' p l := fun hl hc => h.chg hc fun c hc' e => hne c hc' hl e
  refine joinP_of fun J1 hJ1 => ?_
  have two : ¬ (2 ≤ l.length ∧ l.getD 0 0 = 5) → ∀ v : Bool, v = false → J1 (v, ()) w := by
    rintro hno v rfl
    rw [if_neg hno] at hK
    refine hJ1 _ _ (cond_f rfl ?_)
    refine joinP_of fun J2 hJ2 => ?_
    have none_ : ¬ (4 ≤ l.length ∧ l.getD 0 0 = 2) → ∀ v : Bool, v = false → J2 (v, ()) w := by
      rintro hno v rfl
      rw [if_neg hno] at hK
      exact hJ2 _ _ (cond_f rfl (hK _ w (Rd.nil _ _) (.inl rfl) hb (Chg.refl _ _)))
    refine cond_of (fun e => ?_) fun e => ?_
    · have e := of_decide_eq_true e
      have hl4 : 4 ≤ l.length := by omega
      refine ldP_at h (i := 0) (by omega) ?_
      by_cases e2 : l.getD 0 0 = 2
      · rw [beq_iff_eq.2 e2]
        rw [if_pos ⟨hl4, e2⟩] at hK
        have hl0 : l ≠ [] := fun e => by rw [e] at hl4; simp at hl4
        refine hJ2 _ _ (cond_t rfl (joinP_of fun J3 hJ3 => ?_))
        have key : ∀ v, v = (byteP (l.getD 1 0) && byteP (l.getD 2 0) && byteP (l.getD 3 0)) → J3 (v, ()) w := by
          intro v hv
          rw [← hv] at hK
          refine hJ3 _ _ ?_
          cases v
          · rw [if_neg (by decide)] at hK
            exact cond_f rfl (drop_rd h hl4 fun q hq hqa => hK q w hq hqa hb (Chg.refl _ _))
          · rw [if_pos rfl] at hK
            refine cond_t rfl ?_
            refine ldP_at h.drew (i := 1) (by omega) ⟨by decide, ?_⟩
            refine ldP_at h.drew (i := 2) (by omega) ⟨by decide, ?_⟩
            refine ldP_at h.drew (i := 3) (by omega) ?_
            rw [onPtr_some]
            refine setC_store (bg := bg) hb.drew fun w2 hb2 hc2 => ?_
            have c2 : Chg (fun k => k = b) w w2 := (Chg.of_ext (below_drew w)).trans hc2 fun i _ hi => hi
            exact drop_rd (keep hl0 c2) hl4 fun q hq hqa => hK q w2 hq hqa hb2 c2
        refine ldP_at h (i := 1) (by omega) (far1_spec ?_)
        cases v1 : byteP (l.getD 1 0)
        · exact cond_f rfl (key _ (by rw [v1]; rfl))
        refine cond_t rfl (ldP_at h (i := 2) (by omega) (far1_spec ?_))
        cases v2 : byteP (l.getD 2 0)
        · exact cond_f rfl (key _ (by rw [v1, v2]; rfl))
        refine cond_t rfl (ldP_at h (i := 3) (by omega) (far1_spec ?_))
        exact key _ (by rw [v1, v2]; rfl)
      · exact none_ (fun hh => e2 hh.2) _ (beq_eq_false_iff_ne.2 e2)
    · have e := of_decide_eq_false e
      exact none_ (fun hh => by omega) _ rfl
  refine cond_of (fun e => ?_) fun e => ?_
  · have e := of_decide_eq_true e
    have hl2 : 2 ≤ l.length := by omega
    refine ldP_at h (i := 0) (by omega) ?_
    by_cases e2 : l.getD 0 0 = 5
    · rw [beq_iff_eq.2 e2]
      rw [if_pos ⟨hl2, e2⟩] at hK
      have hl0 : l ≠ [] := fun e => by rw [e] at hl2; simp at hl2
      refine hJ1 _ _ (cond_t rfl ?_)
      refine ldP_at h (i := 1) (by omega) (far1_spec ?_)
      cases v1 : byteP (l.getD 1 0)
      · rw [if_neg (by rw [v1]; decide)] at hK
        exact cond_f rfl (drop_rd h hl2 fun q hq hqa => hK q w hq hqa hb (Chg.refl _ _))
      · rw [if_pos v1] at hK
        refine cond_t rfl (ldP_at h (i := 1) (by omega) ?_)
        rw [onPtr_some]
        refine setC_store (bg := bg) hb fun w2 hb2 hc2 => ?_
        exact drop_rd (keep hl0 hc2) hl2 fun q hq hqa => hK q w2 hq hqa hb2 hc2
    · exact two (fun hh => e2 hh.2) _ (beq_eq_false_iff_ne.2 e2)
  · have e := of_decide_eq_false e
    exact two (fun hh => by omega) _ rfl
theorem rng2 {a b n : Int} {X Y : Prop} (h1 : a ≤ n ∧ n ≤ b → X) (h2 : ¬ (a ≤ n ∧ n ≤ b) → Y) : cond (decide (n ≥ a)) (cond (decide (n ≤ b)) X Y) Y := by
  refine cond_of (fun e => ?_) fun e => ?_
  · have e : a ≤ n := of_decide_eq_true e
    refine cond_of (fun e2 => ?_) fun e2 => ?_
    · exact h1 ⟨e, of_decide_eq_true e2⟩
    · exact h2 fun hh => of_decide_eq_false e2 hh.2
  · exact h2 fun hh => of_decide_eq_false e hh.1
theorem Apply_spec {p : Slc} {ps : List Int} {a : Attr} (h : Rd E_int w p ps) {K : Attr → World → Prop} (hK : ∀ w', Below w.heap.size w w' → K (applyP a ps) w') : c_attr_Apply a p w K := by
  refine call_attr_Apply _ _ ?_
  unfold sh_attr_Apply
  refine nw_blk fun w1 hA1 hB1 hs1 => nw_blk fun w2 hT2 hB2 hs2 => ?_
  have hA2 := hA1.ext hB2
  have B2 := below_t hB1 hB2
  have hn := h.n
  unfold applyP at hK
  refine cond_of (fun e => ?_) fun e => ?_
  · have e : (p.n : Int) = 0 := eq_of_beq e
    have e0 : ps = [] := List.eq_nil_of_length_eq_zero (by omega)
    rw [if_pos e0] at hK
    exact res_of (r := T_api_Attr.rep) (x := ⟨0, 0, 0⟩) hT2 rfl rfl fun w3 hc3 hs3 => hK w3 (below_one B2 hc3 (by omega))
  have e : ¬ (p.n : Int) = 0 := beq_eq_false_iff_ne.1 e
  have e0 : ps ≠ [] := fun e1 => e (by rw [hn, e1]; rfl)
  rw [if_neg e0] at hK
  have hlt : ∀ c, p.a = some c → ps ≠ [] → c.block < w.heap.size := by
    intro c hc _
    have := h.lt (i := 0) (List.length_pos_iff.2 e0)
    simp only [Slc.at_, hc] at this
    exact this
  refine loopP_rule (fun (st : Slc × Unit) w4 => ∃ (a' : Attr) (l : List Int), Rd E_int w4 st.1 l ∧ applyL l.length a' l = applyL ps.length a ps ∧ Blk w4 w.heap.size ty_api_Attr (T_api_Attr.rep.cells a') ∧ Blk w4 w1.heap.size ty_api_Attr (T_api_Attr.rep.cells ⟨0, 0, 0⟩) ∧ Below w.heap.size w w4 ∧ (∀ c, st.1.a = some c → l ≠ [] → c.block < w.heap.size)) (fun st => st.1.n) ⟨a, ps, h.ext B2, rfl, hA2, hT2, B2, hlt⟩ ?_
  rintro ⟨s, u⟩ w4 ⟨a', l, hr, hap, hA, hT, hB, hsl⟩ I hI
  dsimp only at hI hr hsl ⊢
  have hsn := hr.n
  cases l with
  | nil =>
    refine cond_f (by rw [hsn]; rfl) ?_
    refine ldS_of (r := T_api_Attr.rep) (x := a') hA.cells ?_
    refine res_of (r := T_api_Attr.rep) (x := a') hT rfl rfl fun w5 hc5 hs5 => ?_
    have := hK w5 (below_one hB hc5 (by omega))
    rw [← hap] at this
    exact this
  | cons n l =>
    refine cond_t (by rw [hsn]; simp) ?_
    refine ldP_at hr (i := 0) (by simp) ?_
    have en : (n :: l).getD 0 0 = n := rfl
    rw [en]
    refine drop_rd hr (k := 1) (by simp) fun q hq hqa => ?_
    have el : (n :: l).drop 1 = l := rfl
    rw [el] at hq
    have hql : ∀ c, q.a = some c → c.block < w.heap.size := by
      intro c hc
      rcases hqa with h1 | ⟨x, y, h1, h2, h3⟩
      · rw [h1] at hc; cases hc
      · rw [h1] at hc
        cases hc
        rw [h3]
        exact hsl y h2 (by simp)
    have hqn := hq.n
    simp only [List.length_cons, applyL] at hap hsn
    have next : ∀ (a'' : Attr) (w5 : World), (n ≠ 48 → n ≠ 38 → a'' = attrS a' n) → n ≠ 48 → n ≠ 38 → Blk w5 w.heap.size ty_api_Attr (T_api_Attr.rep.cells a'') → Chg (fun k => k = w.heap.size) w4 w5 → I (q, ()) w5 := by
      intro a'' w5 ha h48 h38 hA5 hc5
      have ha := ha h48 h38
      subst ha
      rw [if_neg h48, if_neg h38] at hap
      refine hI _ _ ⟨_, l, hq.chg hc5 fun c hc e => by have := hql c hc; omega, hap, hA5, hT.chg hc5 (by omega), below_one hB hc5 (Nat.le_refl _), fun c hc _ => hql c hc⟩ (by dsimp only; omega)
    have farn : ∀ (bg : Bool), (if bg then n = 48 else n = 38) → c_attr_far (some ⟨w.heap.size, ofs bg, none⟩) q w4 fun t121 w6 => I (t121, ()) w6 := by
      intro bg hbg
      refine far_spec (bg := bg) hq hA (fun c hc _ e => by have := hql c hc; omega) fun q2 w5 hq2 hqa2 hA5 hc5 => ?_
      have hap2 : applyL l.length (farA bg a' l).1 (farA bg a' l).2 = applyL ps.length a ps := by
        cases bg
        · have hbg : n = 38 := hbg
          rw [if_neg (by omega), if_pos hbg] at hap
          exact hap
        · have hbg : n = 48 := hbg
          rw [if_pos hbg] at hap
          exact hap
      have hfl := farA_len bg a' l
      rw [applyL_fuel l.length _ _ (farA bg a' l).2.length hfl (Nat.le_refl _)] at hap2
      have hq2n := hq2.n
      refine hI _ _ ⟨_, _, hq2, hap2, hA5, hT.chg hc5 (by omega), below_one hB hc5 (Nat.le_refl _), fun c hc _ => ?_⟩ (by dsimp only; omega)
      rcases hqa2 with h1 | ⟨x, y, h1, h2, h3⟩
      · rw [h1] at hc; cases hc
      · rw [h1] at hc
        cases hc
        rw [h3]
        exact hql y h2
    clear hI hap
    simp only [add_mk]
    refine joinP_of fun J2 hJ2 => joinP_of fun J3 hJ3 => joinP_of fun J4 hJ4 => joinP_of fun J5 hJ5 => ?_
    refine cond_of (fun e => ?_) fun n0 => ?_
    · have e : n = 0 := eq_of_beq e
      refine all_of hA rfl fun w5 hA5 hc5 hs5 => next ⟨0, 0, 0⟩ w5 (fun _ _ => ?_) (by omega) (by omega) hA5 hc5
      unfold attrS
      rw [if_pos e]
    have n0 : ¬ n = 0 := beq_eq_false_iff_ne.1 n0
    refine joinP_of fun J6 hJ6 => ?_
    refine rng2 (fun e => ?_) fun n1 => hJ6 _ _ ?_
    · have hd := hA.drew
      refine ldI_of (x := a'.Flags) (hd.cell 2 rfl) (flag_spec ⟨hd.cell 2 rfl, ?_⟩)
      refine stK_blk (o := 2) hd (by simp [T_api_Attr.rep]) fun w5 hb5 hg5 hs5 => next { a' with Flags := bitsR .or .i64 a'.Flags (flagP n) } w5 (fun _ _ => ?_) (by omega) (by omega) hb5 ((Chg.of_ext (below_drew w4)).trans (Chg.gg hg5) fun i _ hi => hi)
      unfold attrS
      rw [if_neg n0, if_pos e]
    have five : ∀ (f : Int) w5, Blk w5 w.heap.size ty_api_Attr (T_api_Attr.rep.cells { a' with Flags := f }) → Chg (fun k => k = w.heap.size) w4 w5 → (attrS a' n = { a' with Flags := bitsR .andNot .i64 f (flagP (w64 (n - 20))) }) → n ≠ 48 → n ≠ 38 → J5 () w5 := by
      intro f w5 hb5 hc5 hat h48 h38
      refine hJ5 _ _ ?_
      have hd := hb5.drew
      refine ldI_of (x := f) (hd.cell 2 rfl) (flag_spec ⟨hd.cell 2 rfl, ?_⟩)
      refine stK_blk (o := 2) hd (by simp [T_api_Attr.rep]) fun w6 hb6 hg6 hs6 => next { a' with Flags := bitsR .andNot .i64 f (flagP (w64 (n - 20))) } w6 (fun _ _ => hat.symm) h48 h38 hb6 ((hc5.trans (Chg.of_ext (below_drew w5)) fun i _ hi => hi).trans (Chg.gg hg6) fun i _ hi => hi)
    refine cond_of (fun e => ?_) fun n22 => ?_
    · have e : n = 22 := eq_of_beq e
      refine ldI_of (x := a'.Flags) (hA.cell 2 rfl) ?_
      refine stK_blk (o := 2) hA (by simp [T_api_Attr.rep]) fun w5 hb5 hg5 hs5 => five (bitsR .andNot .i64 a'.Flags 1) w5 hb5 (Chg.gg hg5) ?_ (by omega) (by omega)
      unfold attrS
      rw [if_neg n0, if_neg n1, if_pos e]
    have n22 : ¬ n = 22 := beq_eq_false_iff_ne.1 n22
    have col : ∀ (bg : Bool) (v : Int), attrS a' n = setC bg a' v → n ≠ 48 → n ≠ 38 → stK ⟨w.heap.size, ofs bg, none⟩ [.int .i64 v] w4 fun w5 => I (q, ()) w5 := by
      intro bg v hat h48 h38
      exact setC_store (bg := bg) hA fun w5 hb5 hc5 => next _ w5 (fun _ _ => hat.symm) h48 h38 hb5 hc5
    refine joinP_of fun J7 hJ7 => ?_
    refine rng2 (fun e => ?_) fun n23 => hJ7 _ _ ?_
    · refine five a'.Flags w4 hA (Chg.refl _ _) ?_ (by omega) (by omega)
      unfold attrS
      rw [if_neg n0, if_neg n1, if_neg n22, if_pos e]
    refine joinP_of fun J8 hJ8 => ?_
    refine rng2 (fun e => ?_) fun n40 => hJ8 _ _ ?_
    · refine hJ4 _ _ (col true (w64 (w64 (16777216 + w64 (n - 10)) - 30)) ?_ (by omega) (by omega))
      unfold attrS
      rw [if_neg n0, if_neg n1, if_neg n22, if_neg n23, if_pos e]
      rfl
    refine joinP_of fun J9 hJ9 => ?_
    refine rng2 (fun e => ?_) fun n30 => hJ9 _ _ ?_
    · refine hJ4 _ _ (col false (w64 (w64 (16777216 + n) - 30)) ?_ (by omega) (by omega))
      unfold attrS
      rw [if_neg n0, if_neg n1, if_neg n22, if_neg n23, if_neg n40, if_pos e]
      rfl
    refine joinP_of fun J10 hJ10 => ?_
    refine rng2 (fun e => ?_) fun n100 => hJ10 _ _ ?_
    · refine hJ3 _ _ (col true (w64 (w64 (16777224 + w64 (n - 10)) - 90)) ?_ (by omega) (by omega))
      unfold attrS
      rw [if_neg n0, if_neg n1, if_neg n22, if_neg n23, if_neg n40, if_neg n30, if_pos e]
      rfl
    refine joinP_of fun J11 hJ11 => ?_
    refine rng2 (fun e => ?_) fun n90 => hJ11 _ _ ?_
    · refine hJ3 _ _ (col false (w64 (w64 (16777224 + n) - 90)) ?_ (by omega) (by omega))
      unfold attrS
      rw [if_neg n0, if_neg n1, if_neg n22, if_neg n23, if_neg n40, if_neg n30, if_neg n100, if_pos e]
      rfl
    refine cond_of (fun e => ?_) fun n39 => ?_
    · have e : n = 39 := eq_of_beq e
      refine col false 0 ?_ (by omega) (by omega)
      unfold attrS
      rw [if_neg n0, if_neg n1, if_neg n22, if_neg n23, if_neg n40, if_neg n30, if_neg n100, if_neg n90, if_pos e]
      rfl
    have n39 : ¬ n = 39 := beq_eq_false_iff_ne.1 n39
    refine cond_of (fun e => ?_) fun n49 => ?_
    · have e : n = 49 := eq_of_beq e
      refine col true 0 ?_ (by omega) (by omega)
      unfold attrS
      rw [if_neg n0, if_neg n1, if_neg n22, if_neg n23, if_neg n40, if_neg n30, if_neg n100, if_neg n90, if_neg n39, if_pos e]
      rfl
    have n49 : ¬ n = 49 := beq_eq_false_iff_ne.1 n49
    refine cond_of (fun e => ?_) fun n48 => ?_
    · exact hJ2 _ _ (farn true (eq_of_beq e))
    refine cond_of (fun e => ?_) fun n38 => ?_
    · exact hJ2 _ _ (farn false (eq_of_beq e))
    refine next a' w4 (fun _ _ => ?_) (beq_eq_false_iff_ne.1 n48) (beq_eq_false_iff_ne.1 n38) hA (Chg.refl _ _)
    unfold attrS
    rw [if_neg n0, if_neg n1, if_neg n22, if_neg n23, if_neg n40, if_neg n30, if_neg n100, if_neg n90, if_neg n39, if_neg n49]
end
end Go.Proofs.YtmoafafalnbkpaaGreatDoor

set_option linter.unusedVariables false
namespace Go.Proofs.YtmoafafalnbkpaaGreatDoor
open Go.Vc Go.RowKit
set_option maxRecDepth 400000
/-! ### Plain -/
namespace Sc
def modeP (S : Sc) (n : Int) (priv : Bool) : Bool × Bool :=
  if priv = false then (S.mode n, decide (n = 4 ∨ n = 20))
  else if n = 6 then (S.c.Origin, true)
  else if n = 47 ∨ n = 1047 ∨ n = 1049 then (S.alt, true)
  else if n = 1 ∨ n = 7 ∨ n = 25 ∨ n = 1000 ∨ n = 2004 then (S.pmode n, true)
  else (false, false)
def stateP (S : Sc) (n : Int) : Int := if (S.modeP n true).1 then 1 else if (S.modeP n true).2 then 2 else 0
def placeRow (S : Sc) : Int := if S.c.Origin then (if 0 > w64 (S.c.Row - S.top) then 0 else w64 (S.c.Row - S.top)) else S.c.Row
def placeP (S : Sc) : List UInt8 := Lib.itoa (w64 (S.placeRow + 1)) ++ [59] ++ Lib.itoa (w64 (S.c.Col + 1))
/-- What a sequence of one letter replies. -/
def bareR (S : Sc) (p : List Int) (c : Int) : List UInt8 :=
  let zero := paramP p 0 0
  if c = 110 then (if zero = 5 then [27, 91] ++ [48, 110] else if zero = 6 then [27, 91] ++ (S.placeP ++ [82]) else [])
  else if c = 99 then (if zero = 0 then [27, 91] ++ [63, 54, 50, 59, 52, 99] else [])
  else []
end Sc
def seqKey (p : Int) (inter : List UInt8) (b : Int) : List UInt8 := ((Utf8.encode p).data.toList ++ inter) ++ (Utf8.encode b).data.toList
structure Ev where
  Kind : Int
  R : Int
  B : Int
  Private : Int
  Inter : List UInt8
  Params : List Int
namespace Sc
def tailR (S : Sc) (e : Ev) : List UInt8 := if e.Private ≠ 0 ∨ e.Inter ≠ [] then [] else S.bareR e.Params e.B
def tailS (S : Sc) (e : Ev) : Sc := if e.Private ≠ 0 ∨ e.Inter ≠ [] then S else S.bare (applyP S.c.A e.Params) e.Params e.B
def seqR (S : Sc) (e : Ev) : List UInt8 :=
  let k := seqKey e.Private e.Inter e.B
  let n := paramP e.Params 0 0
  if k = [0, 33, 112] then S.soft.tailR e
  else if k = [63, 104] ∨ k = [63, 108] then (S.turns (e.B == 104) e.Params).tailR e
  else if k = [63, 110] ∧ n = 6 then [27, 91] ++ (([63] ++ S.placeP) ++ [82])
  else if k = [62, 99] ∧ n = 0 then [27, 91] ++ [62, 49, 59, 49, 59, 48, 99]
  else if k = [63, 36, 112] then [27, 91] ++ (((([63] ++ Lib.itoa n) ++ [59]) ++ Lib.itoa (S.stateP n)) ++ [36, 121])
  else S.tailR e
/-- What a sequence makes of the screen. -/
def seqS (S : Sc) (e : Ev) : Sc :=
  let k := seqKey e.Private e.Inter e.B
  let n := paramP e.Params 0 0
  if k = [0, 33, 112] then S.soft.tailS e
  else if k = [63, 104] ∨ k = [63, 108] then (S.turns (e.B == 104) e.Params).tailS e
  else if k = [63, 110] ∧ n = 6 then S
  else if k = [62, 99] ∧ n = 0 then S
  else if k = [63, 36, 112] then S
  else S.tailS e
def doR (S : Sc) (e : Ev) : List UInt8 := if e.Kind = 1 ∨ e.Kind = 2 ∨ e.Kind = 3 then [] else if e.Kind = 4 then S.seqR e else []
def doS (S : Sc) (e : Ev) : Sc :=
  if e.Kind = 1 then S.print e.R
  else if e.Kind = 2 then S.control e.B
  else if e.Kind = 3 then S.escape e.Inter e.B
  else if e.Kind = 4 then S.seqS e
  else S
end Sc
section
variable {w w' : World} {base g : Nat} {F F' : ScF} {S S' : Sc} {p : Slc} {ps : List Int}
theorem Tab.below (h : Tab w) (hB : Below 1 w w') : Tab w' := var?_below (g := 0) hB (by kernel_rfl) (by decide) h
theorem Tab.step (h : Tab w) (hM : ScM w base g F S) (hb : 1 ≤ base) (hT : ScT base g w F F' S' w') : Tab w' := by
  refine h.below (hT.chg.below (B := 1) ?_ fun i hi hs => ?_)
  · have := hM.base_le; omega
  · have := (hM.below i hs).1; omega
/-! ### Mode, place -/
theorem Mode_spec (h : ScM w base g F S) {n : Int} {priv : Bool} {K : Bool → Bool → World → Prop} (hK : K (S.modeP n priv).1 (S.modeP n priv).2 w) : c_screen_Screen_Mode (some ⟨g, 0, none⟩) n priv w K := by
  refine call_screen_Screen_Mode _ _ _ ?_
  unfold sh_screen_Screen_Mode
  simp only [onPtr_some]
  unfold Sc.modeP at hK
  cases priv
  · rw [if_pos rfl] at hK
    refine cond_t rfl (ldM_of (x := some F.mm) (by rw [add_mk]; exact h.blk.cell 35 rfl) (look_spec h.mo ?_))
    refine cond_of (fun e => ?_) fun e => ?_
    · have e : n = 4 := eq_of_beq e
      rw [decide_eq_true (.inl e)] at hK
      exact hK
    · have e : ¬ n = 4 := beq_eq_false_iff_ne.1 e
      have e2 : (n == 20) = decide (n = 4 ∨ n = 20) := by
        by_cases e3 : n = 20
        · rw [decide_eq_true (.inr e3)]; exact beq_iff_eq.2 e3
        · rw [decide_eq_false (fun hh => hh.elim e e3)]; exact beq_eq_false_iff_ne.2 e3
      rw [e2]
      exact hK
  · rw [if_neg (by decide)] at hK
    refine cond_f rfl ?_
    refine cond_of (fun e => ?_) fun e => ?_
    · rw [if_pos (eq_of_beq e)] at hK
      exact h.ldOrg hK
    rw [if_neg (beq_eq_false_iff_ne.1 e)] at hK
    refine or3 (fun e => cond_t rfl ?_) fun e => cond_f rfl ?_
    · rw [if_pos e] at hK
      exact Alt_spec h hK
    rw [if_neg e] at hK
    refine or5 (fun e => cond_t rfl ?_) fun e => cond_f rfl ?_
    · rw [if_pos e] at hK
      exact ldM_of (x := some F.mp) (by rw [add_mk]; exact h.blk.cell 36 rfl) (look_spec h.pr hK)
    · rw [if_neg e] at hK
      exact hK
theorem state_spec (h : ScM w base g F S) {n : Int} {K : Int → World → Prop} (hK : K (S.stateP n) w) : c_screen_Screen_state (some ⟨g, 0, none⟩) n w K := by
  refine call_screen_Screen_state _ _ ?_
  unfold sh_screen_Screen_state
  unfold Sc.stateP at hK
  refine Mode_spec h ?_
  refine cond_of (fun e => ?_) fun e => ?_
  · rw [if_pos e] at hK; exact hK
  rw [if_neg (by rw [e]; decide)] at hK
  refine cond_of (fun e => ?_) fun e => ?_
  · rw [if_pos e] at hK; exact hK
  · rw [if_neg (by rw [e]; decide)] at hK; exact hK
theorem place_spec (h : ScM w base g F S) (hT : Tab w) {K : ByteArray → World → Prop} (hK : ∀ w', Below w.heap.size w w' → S.placeP.length ≤ 50 → K (strB S.placeP) w') : c_screen_Screen_place (some ⟨g, 0, none⟩) w K := by
  refine call_screen_Screen_place _ ?_
  unfold sh_screen_Screen_place
  simp only [onPtr_some]
  refine h.ldRow (joinP_of fun J1 hJ1 => ?_)
  have key : J1 (S.placeRow, ()) w := by
    refine hJ1 _ _ ?_
    have hd := (ScT.refl h).drew
    refine hd.m.ldCol ?_
    refine Itoa_spec (hT.ext (below_drew w)) (ScM.w64n _).1 (ScM.w64n _).2 fun w2 hB2 => ?_
    have h2 := hd.ext hB2
    have B2 := below_t (below_drew w) hB2
    have l1 := itoa_len (ScM.w64n (S.placeRow + 1)).1 (ScM.w64n (S.placeRow + 1)).2
    have l2 := itoa_len (ScM.w64n (S.c.Col + 1)).1 (ScM.w64n (S.c.Col + 1)).2
    have e59 : (⟨#[59]⟩ : ByteArray) = strB [59] := rfl
    show _ ∧ (((strB (Lib.itoa (w64 (S.placeRow + 1)))).size + _ : Nat) : Int) ≤ _ ∧ _
    refine ⟨h2.m.cCol, ?_, ?_⟩
    · rw [e59, strB_size, strB_size]
      simp only [List.length_cons, List.length_nil]
      omega
    refine Itoa_spec ((hT.ext (below_drew w)).ext hB2) (ScM.w64n _).1 (ScM.w64n _).2 fun w3 hB3 => ?_
    rw [e59, strB_app]
    have B3 := below_t B2 hB3
    show (((strB (Lib.itoa (w64 (S.placeRow + 1)) ++ [59])).size + (strB (Lib.itoa (w64 (S.c.Col + 1)))).size : Nat) : Int) ≤ _ ∧ K (strB (Lib.itoa (w64 (S.placeRow + 1)) ++ [59]) ++ strB (Lib.itoa (w64 (S.c.Col + 1)))) w3
    rw [strB_app]
    refine ⟨?_, hK w3 B3 ?_⟩
    · rw [strB_size, strB_size, List.length_append]
      simp only [List.length_cons, List.length_nil]
      omega
    · unfold Sc.placeP
      rw [List.length_append, List.length_append]
      simp only [List.length_cons, List.length_nil]
      omega
  unfold Sc.placeRow at key
  refine h.ldOrg (cond_of (fun e => ?_) fun e => ?_)
  · rw [if_pos e] at key
    exact h.ldTop key
  · rw [if_neg (by rw [e]; decide)] at key
    exact key
theorem reply_spec {bs : List UInt8} (hl : bs.length ≤ 1000) {K : Slc → World → Prop} (hK : ∀ q w', Rd E_uint8 w' q ([27, 91] ++ bs) → Below w.heap.size w w' → K q w') : c_screen_reply (strB bs) w K := by
  refine call_screen_reply _ ?_
  unfold sh_screen_reply
  have e : (⟨#[27, 91]⟩ : ByteArray) = strB [27, 91] := rfl
  rw [e, strB_app, strB_size, strB_size]
  refine ⟨by simp only [List.length_cons, List.length_nil]; omega, ?_⟩
  exact toBytes_spec (by simp only [List.length_append, List.length_cons, List.length_nil]; omega) fun q w' hq _ hB _ => hK q w' hq hB
/-! ### bare -/
theorem modes1_snoc (S : Sc) (b : Bool) (l : List Int) (n : Int) : S.modes1 b (l ++ [n]) = (if n = 4 ∨ n = 20 then { S.modes1 b l with modes := putL' (S.modes1 b l).modes n b } else S.modes1 b l) := by
  unfold Sc.modes1
  rw [List.foldl_append]
  rfl
theorem modes_loop (h : ScM w base g F S) (hp : ParM w g F p ps) {on : Bool} {K : Slc → World → Prop} (hK : ∀ F' w', ScT base g w F F' (S.modes1 on ps) w' → K ⟨none, 0, 0⟩ w') :
    loopP (σ := Int × Unit) (fun I5 s_5 w31 =>
      cond (decide (s_5.1 < ((p.n : Nat) : Int)))
        (ixK p s_5.1 1 fun t85 =>
         ldI .i64 t85 w31 fun t86 =>
         joinP (σ := Bool × Unit) (fun s_6 w32 =>
           cond s_6.1
             (ldM ((⟨g, 0, none⟩ : Addr).add 35) w32 fun t96 =>
              runU PG (Instr.mapUpdate ty_map_int_bool (.map t96) (.int .i64 t86) (.bool on)) w32 fun _ w33 =>
              I5 ((IntKind.i64.wrap (s_5.1 + (1 : Int))), ()) w33)
             (I5 ((IntKind.i64.wrap (s_5.1 + (1 : Int))), ()) w32)) fun J6 =>
         cond (t86 == (4 : Int))
           (J6 (true, ()) w31)
           (J6 ((t86 == (20 : Int)), ()) w31))
        (K (⟨none, 0, 0⟩ : Slc) w31)) (0, ()) w := by
  have hn := hp.rd.n
  have hlen := hp.len
  refine loopP_rule (fun (st : Int × Unit) w2 => ∃ (k : Nat) (F2 : ScF), st.1 = (k : Int) ∧ k ≤ ps.length ∧ ScT base g w F F2 (S.modes1 on (ps.take k)) w2) (fun st => ps.length - st.1.toNat) ⟨0, F, rfl, by omega, by rw [List.take_zero]; exact ScT.refl h⟩ ?_
  rintro ⟨i, u⟩ w2 ⟨k, F2, hi, hk, hT2⟩ I hI
  dsimp only at hi ⊢
  subst hi
  refine cond_of (fun e => ?_) fun e => ?_
  · have e := of_decide_eq_true e
    have hkl : k < ps.length := by omega
    have hp2 := hp.step hT2
    refine ldP_at hp2.rd (i := k) hkl ?_
    obtain ⟨x, hx⟩ : ∃ x, x = ps.getD k 0 := ⟨_, rfl⟩
    rw [← hx]
    have hxk : ps[k] = x := by rw [hx, List.getD_eq_getElem?_getD, List.getElem?_eq_getElem hkl]; rfl
    have hsn := modes1_snoc S on (ps.take k) x
    rw [← hxk, ← List.take_succ_eq_append_getElem hkl, hxk] at hsn
    have hxr : in64 x := by rw [← hxk]; exact hp.rng _ (List.getElem_mem hkl)
    rw [wrap64_id (x := (k : Int) + 1) (by omega)]
    refine or2' (fun e => cond_t rfl ?_) fun e => cond_f rfl ?_
    · rw [if_pos e] at hsn
      refine ldM_of (x := some F2.mm) (by rw [add_mk]; exact hT2.m.blk.cell 35 rfl) (hT2.m.setMo hxr fun w3 hT3 => ?_)
      refine hI _ _ ⟨k + 1, F2, by simp, by omega, ?_⟩ (by dsimp only; omega)
      rw [hsn]
      exact hT2.trans hT3
    · rw [if_neg e] at hsn
      refine hI _ _ ⟨k + 1, F2, by simp, by omega, ?_⟩ (by dsimp only; omega)
      rw [hsn]
      exact hT2
  · have e := of_decide_eq_false e
    have hkr : k = ps.length := by omega
    subst hkr
    rw [List.take_length] at hT2
    exact hK _ _ hT2
theorem ScOk.setA (h : ScOk S) (a : Attr) : ScOk { S with c := { S.c with A := a } } := h.cur h.rowg h.colg h.shift
/-- Lines scrolled, and the cursor no longer about to wrap. -/
theorem roll_spec (h : ScM w base g F S) {n : Int} (hn : in64 n) {K : Slc → World → Prop} (hK : ∀ F' w', ScT base g w F F' (S.scroll S.top S.past n).dry w' → K ⟨none, 0, 0⟩ w') :
    ldI .i64 ((⟨g, 0, none⟩ : Addr).add 37) w.drew fun t145 => ldI .i64 ((⟨g, 0, none⟩ : Addr).add 38) w.drew fun t149 =>
    c_screen_Screen_g (some ⟨g, 0, none⟩) w.drew fun t141 w4 =>
    World.cell? w4 ((⟨g, 0, none⟩ : Addr).add 38) = some (.int .i64 t149) ∧
    World.cell? w4 ((⟨g, 0, none⟩ : Addr).add 37) = some (.int .i64 t145) ∧
    c_screen_Screen_blank (some ⟨g, 0, none⟩) w4 fun t153 w5 =>
    World.cell? w5 ((⟨g, 0, none⟩ : Addr).add 38) = some (.int .i64 t149) ∧
    World.cell? w5 ((⟨g, 0, none⟩ : Addr).add 37) = some (.int .i64 t145) ∧
    c_grid_Grid_Scroll t141 t145 t149 n t153 w5 fun t154 w6 =>
    stK (((⟨g, 0, none⟩ : Addr).add 3).add 2) [(.bool false)] w6 fun w7 =>
    K (⟨none, 0, 0⟩ : Slc) w7 := by
  have hd := (ScT.refl h).drew
  refine hd.m.ldTop (hd.m.ldPast ?_)
  refine scrolls hd.m rfl rfl hn fun v F6 w6 hT6 => ?_
  exact hT6.m.stDry fun w7 hT7 => hK _ _ ((hd.trans hT6).trans hT7)
theorem bare_spec (h : ScM w base g F S) (hp : ParM w g F p ps) (hT : Tab w) {c : Int} (ha : S.areas.length ≤ 800000000) {K : Slc → World → Prop}
    (hK : ∀ q F' w', Rd E_uint8 w' q (S.bareR ps c) → ScT base g w F F' (S.bare (applyP S.c.A ps) ps c) w' → K q w') : c_screen_Screen_bare (some ⟨g, 0, none⟩) p c w K := by
  refine call_screen_Screen_bare _ _ _ ?_
  unfold sh_screen_Screen_bare
  refine param_spec (i := 0) hp (param_spec (i := 0) hp ?_)
  simp only [onPtr_some]
  obtain ⟨n, hn⟩ : ∃ n, n = paramP ps 0 1 := ⟨_, rfl⟩
  obtain ⟨z, hz⟩ : ∃ z, z = paramP ps 0 0 := ⟨_, rfl⟩
  have hni : in64 n := by rw [hn]; exact param_in hp 0 (by unfold in64; omega)
  have hzi : in64 z := by rw [hz]; exact param_in hp 0 (by unfold in64; omega)
  unfold Sc.bareR Sc.bare at hK
  dsimp only at hK
  rw [← hn, ← hz] at hK ⊢
  refine joinP_of fun J1 hJ1 => ?_
  have no : ∀ {F' S' w'}, (∀ q F' w', Rd E_uint8 w' q [] → ScT base g w F F' S' w' → K q w') → ScT base g w F F' S' w' → K ⟨none, 0, 0⟩ w' := fun hK hT => hK _ _ _ (Rd.nil _ _) hT
  refine cond_of (fun e => ?_) fun c110 => ?_
  · have e : c = 110 := eq_of_beq e
    simp only [if_pos e, if_pos (Or.inl e : c = 110 ∨ c = 99)] at hK
    refine cond_of (fun e => ?_) fun e5 => ?_
    · rw [if_pos (eq_of_beq e)] at hK
      exact reply_spec (bs := [48, 110]) (by decide) fun q w1 hq hB1 => hK q F w1 hq (ScT.of_ext h hB1)
    rw [if_neg (beq_eq_false_iff_ne.1 e5)] at hK
    refine cond_of (fun e => ?_) fun e6 => ?_
    · rw [if_pos (eq_of_beq e)] at hK
      refine place_spec h hT fun w1 hB1 hpl => ?_
      have e82 : (⟨#[82]⟩ : ByteArray) = strB [82] := rfl
      rw [e82, strB_app, strB_size, strB_size]
      refine ⟨by simp only [List.length_cons, List.length_nil]; omega, ?_⟩
      exact reply_spec (by simp only [List.length_append, List.length_cons, List.length_nil]; omega) fun q w2 hq hB2 => hK q F w2 hq (ScT.of_ext h (below_t hB1 hB2))
    · rw [if_neg (beq_eq_false_iff_ne.1 e6)] at hK
      exact no hK (ScT.refl h)
  have c110 : ¬ c = 110 := beq_eq_false_iff_ne.1 c110
  rw [if_neg c110] at hK
  refine cond_of (fun e => ?_) fun c99 => ?_
  · have e : c = 99 := eq_of_beq e
    simp only [if_pos e, if_pos (Or.inr e : c = 110 ∨ c = 99)] at hK
    refine cond_of (fun e => ?_) fun e5 => ?_
    · rw [if_pos (eq_of_beq e)] at hK
      exact reply_spec (bs := [63, 54, 50, 59, 52, 99]) (by decide) fun q w1 hq hB1 => hK q F w1 hq (ScT.of_ext h hB1)
    · rw [if_neg (beq_eq_false_iff_ne.1 e5)] at hK
      exact no hK (ScT.refl h)
  have c99 : ¬ c = 99 := beq_eq_false_iff_ne.1 c99
  rw [if_neg c99] at hK
  simp only [if_neg (fun hh => hh.elim c110 c99 : ¬ (c = 110 ∨ c = 99))] at hK
  have hK : ∀ F' w', ScT base g w F F' _ w' → K ⟨none, 0, 0⟩ w' := fun F' w' hT => no hK hT
  refine cond_of (fun e => ?_) fun e => ?_
  · rw [if_pos (eq_of_beq e)] at hK
    refine ldS_of (r := T_api_Attr.rep) (x := S.c.A) (attr_cells h) ?_
    refine Apply_spec hp.rd fun w1 hB1 => ?_
    have h1 := ScT.of_ext h hB1
    simp only [add_mk]
    refine stK_blk h1.m.blk (by simp [T_screen_Screen.rep, T_api_Attr.rep]) fun w2 hb2 hg2 hs2 => ?_
    exact hK _ _ (h1.trans (ScT.mk_struct h1.m (Chg.gg hg2) (S' := { S with c := { S.c with A := applyP S.c.A ps } }) hb2 rfl rfl rfl rfl rfl rfl (h.ok.setA _)))
  rw [if_neg (beq_eq_false_iff_ne.1 e)] at hK
  refine cond_of (fun e => ?_) fun e => ?_
  · rw [if_pos (eq_of_beq e)] at hK
    exact margins_spec h hp fun w1 hT1 => hK _ _ hT1
  rw [if_neg (beq_eq_false_iff_ne.1 e)] at hK
  refine cond_of (fun e => ?_) fun e => ?_
  · rw [if_pos (eq_of_beq e)] at hK
    exact save_spec h fun w1 hT1 => hK _ _ hT1
  rw [if_neg (beq_eq_false_iff_ne.1 e)] at hK
  refine cond_of (fun e => ?_) fun e => ?_
  · rw [if_pos (eq_of_beq e)] at hK
    exact restore_spec h fun w1 hT1 => hK _ _ hT1
  rw [if_neg (beq_eq_false_iff_ne.1 e)] at hK
  refine joinP_of fun J2 hJ2 => ?_
  refine cond_of (fun e => ?_) fun c104 => ?_
  · refine cond_t e ?_
    rw [if_pos (.inl (eq_of_beq e))] at hK
    have ed : decide (c = 104) = (c == 104) := by rw [e, decide_eq_true (eq_of_beq e)]
    rw [ed] at hK
    exact modes_loop h hp hK
  refine cond_of (fun e => ?_) fun c108 => ?_
  · rw [if_pos (.inr (eq_of_beq e))] at hK
    have ed : decide (c = 104) = (c == 104) := by rw [c104, decide_eq_false (beq_eq_false_iff_ne.1 c104)]
    rw [ed] at hK
    exact modes_loop h hp hK
  rw [if_neg (fun hh => hh.elim (beq_eq_false_iff_ne.1 c104) (beq_eq_false_iff_ne.1 c108))] at hK
  refine hJ2 _ _ ?_
  have hd := (ScT.refl h).drew
  refine cond_of (fun e => ?_) fun e => ?_
  · rw [if_pos (eq_of_beq e)] at hK
    refine cond_of (fun e => ?_) fun e => ?_
    · rw [if_pos (eq_of_beq e)] at hK
      refine hd.m.ldStops (hd.m.ldCol ?_)
      exact tClear_spec hd.m.st _ fun w2 hst hc hs => hK _ _ (hd.trans (hd.m.setSt (setB_length _ _ _) hst hc))
    rw [if_neg (beq_eq_false_iff_ne.1 e)] at hK
    refine cond_of (fun e => ?_) fun e => ?_
    · rw [if_pos (eq_of_beq e)] at hK
      refine h.ldStops ?_
      exact tNone_spec h.st fun w2 hst hc hs => hK _ _ (h.setSt (by simp) hst hc)
    · rw [if_neg (beq_eq_false_iff_ne.1 e)] at hK
      exact hK _ _ (ScT.refl h)
  rw [if_neg (beq_eq_false_iff_ne.1 e)] at hK
  refine cond_of (fun e => ?_) fun e => ?_
  · rw [if_pos (eq_of_beq e)] at hK
    exact again_spec h hK
  rw [if_neg (beq_eq_false_iff_ne.1 e)] at hK
  refine cond_of (fun e => ?_) fun e => ?_
  · rw [if_pos (eq_of_beq e)] at hK
    exact display_spec h (by omega) hK
  rw [if_neg (beq_eq_false_iff_ne.1 e)] at hK
  refine cond_of (fun e => ?_) fun e => ?_
  · rw [if_pos (eq_of_beq e)] at hK
    exact inLine_spec h (by omega) hK
  rw [if_neg (beq_eq_false_iff_ne.1 e)] at hK
  refine joinP_of fun J3 hJ3 => ?_
  refine cond_of (fun e => ?_) fun e64 => ?_
  · rw [if_pos (.inl (eq_of_beq e))] at hK
    exact cond_t e (cells_spec h (by omega) hK)
  refine cond_of (fun e => ?_) fun e80 => ?_
  · rw [if_pos (.inr (.inl (eq_of_beq e)))] at hK
    exact cond_t e (cells_spec h (by omega) hK)
  refine cond_of (fun e => ?_) fun e88 => ?_
  · rw [if_pos (.inr (.inr (eq_of_beq e)))] at hK
    exact cells_spec h (by omega) hK
  rw [if_neg (fun hh => by rcases hh with hh | hh | hh; exact beq_eq_false_iff_ne.1 e64 hh; exact beq_eq_false_iff_ne.1 e80 hh; exact beq_eq_false_iff_ne.1 e88 hh)] at hK
  refine hJ3 _ _ (joinP_of fun J4 hJ4 => ?_)
  refine cond_of (fun e => ?_) fun e76 => ?_
  · rw [if_pos (.inl (eq_of_beq e))] at hK
    exact cond_t e (lines_spec h hni hK)
  refine cond_of (fun e => ?_) fun e77 => ?_
  · rw [if_pos (.inr (eq_of_beq e))] at hK
    exact lines_spec h hni hK
  rw [if_neg (fun hh => hh.elim (beq_eq_false_iff_ne.1 e76) (beq_eq_false_iff_ne.1 e77))] at hK
  refine hJ4 _ _ ?_
  refine cond_of (fun e => ?_) fun e => ?_
  · rw [if_pos (eq_of_beq e)] at hK
    exact hJ1 _ _ (roll_spec h (ScM.w64n _) hK)
  rw [if_neg (beq_eq_false_iff_ne.1 e)] at hK
  refine cond_of (fun e => ?_) fun e => ?_
  · rw [if_pos (eq_of_beq e)] at hK
    exact hJ1 _ _ (roll_spec h (ScM.w64n _) hK)
  · rw [if_neg (beq_eq_false_iff_ne.1 e)] at hK
    exact move_spec h hp hni fun w1 hT1 => hK _ _ hT1
end
end Go.Proofs.YtmoafafalnbkpaaGreatDoor

set_option linter.unusedVariables false
namespace Go.Proofs.YtmoafafalnbkpaaGreatDoor
open Go.Vc Go.RowKit
set_option maxRecDepth 400000
theorem cloneS_spec {s : Slc} {xs : List Slc} {w : World} {K : Slc → World → Prop} (h : Rd slE w s xs) (hl : xs.length ≤ 1000000)
    (hK : ∀ r w', Go.Vc.Own slE w' w.heap.size r xs → Below w.heap.size w w' → K r w') : c_slices_Clone_line_Line_line_Line s w K := by
  refine call_slices_Clone_line_Line_line_Line _ ?_
  unfold sh_slices_Clone_line_Line_line_Line
  refine cond_of (fun e => ?_) (fun e => ?_)
  · have : s.a = none := by cases ha : s.a with
      | none => rfl
      | some a => rw [ha] at e; cases e
    rw [h.none_nil this] at hK
    exact hK _ _ (Go.Vc.Own.nil _ _ _) (Below.refl _ _)
  · refine nw_blk fun w1 hb1 hB1 hs1 => ?_
    refine apK_own slT116 (own_empty (E := slE) hb1 (Nat.le_refl _)) (h.ext hB1) (by omega) (by rw [by116]; simp; omega) (by simp [maxLen]; omega) fun r w2 ho2 hg2 hr2 => ?_
    exact hK r w2 (by simpa using ho2) (hB1.grown hg2 (by omega) fun g hg => by cases hg; exact Nat.le_refl _)
section
variable {w w' : World} {base g : Nat} {F F' : ScF} {S S' : Sc} {p : Slc} {ps : List Int} {f : Foot} {G : GS}
theorem gTwin_spec {K : Option Addr → World → Prop} (h : GridM w base f G) (hL : G.L.length ≤ 1000) (hm : G.most ≤ 100000) (hb : base ≤ w.heap.size)
    (hK : ∀ f' w', GridM w' base f' G → (∀ k, gridS f' k → w.heap.size ≤ k) → Below w.heap.size w w' → K (some ⟨f'.g, 0, none⟩) w') : c_grid_Grid_Twin (some ⟨f.g, 0, none⟩) w K := by
  refine call_grid_Grid_Twin _ ?_
  unfold sh_grid_Grid_Twin
  simp only [onPtr_some]
  obtain ⟨ls, ho, hl⟩ := h.row
  have hll := hl.1
  refine ldS_of (r := T_grid_Grid.rep) (x := ⟨some ⟨f.r, 0, none⟩, G.rows, G.cols, f.ls, G.top⟩) h.blk.cells ?_
  refine nw_blk fun w1 hx1 hB1 hs1 => all_of hx1 rfl fun w2 hx2 hc2 hs2 => ?_
  have hB2 : Below w.heap.size w w2 := below_one hB1 hc2 (Nat.le_refl _)
  have h2 := h.ext hB2
  refine ldP_of (x := some ⟨f.r, 0, none⟩) (by rw [add_mk]; exact h2.blk.cell 0 rfl) ?_
  obtain ⟨at_, gone, rls, xss, hrb0, hro0, hrl, hbr, eold, hmost, hat⟩ := h.ring
  have hrb := hrb0.ext hB2
  have hro := hro0.ext hB2
  -- the ring's twin
  refine call_ring_Ring_line_Line_Twin _ ?_
  unfold sh_ring_Ring_line_Line_Twin
  simp only [onPtr_some]
  refine ldS_of (r := T_ring_Ring_phosphor_line_Line.rep) (x := ⟨G.most, f.rs, at_, gone⟩) hrb.cells ?_
  refine nw_blk fun w3 hy3 hB3 hs3 => all_of hy3 rfl fun w4 hy4 hc4 hs4 => ?_
  have hB4' : Below w2.heap.size w2 w4 := below_one hB3 hc4 (Nat.le_refl _)
  have hrb4 := hrb.ext hB4'
  refine ldSl_of (x := f.rs) (by rw [add_mk]; exact hrb4.cell 1 rfl) ?_
  have hro4 := hro.ext hB4'
  have hrll := hrl.1
  refine cloneS_spec hro4.rd (by omega) fun q w5 hq5 hB5 => ?_
  have hy5 := hy4.ext hB5
  simp only [add_mk]
  refine stK_blk hy5 (by simp [T_ring_Ring_phosphor_line_Line.rep]) fun w6 hy6 hg6 hs6 => ?_
  have z1 := hB1.size
  have z5 := hB5.size
  have hx4 := hx2.ext hB4'
  have hx5 := hx4.ext hB5
  have hx6 := hx5.chg (Chg.gg hg6) (by omega)
  have hB6 : Below w2.heap.size w2 w6 := below_one (below_t hB4' hB5) (Chg.gg hg6) (Nat.le_refl _)
  have hq6 := hq5.chg (Chg.gg hg6) fun k hk e => by have := (hq5.lt k hk).1; omega
  refine stK_blk hx6 (by simp [T_grid_Grid.rep]) fun w7 hx7 hg7 hs7 => ?_
  have c7 : Chg (fun k => k = w.heap.size) w6 w7 := Chg.gg hg7
  have hy7 := hy6.chg c7 (by omega)
  have hq7 := hq6.chg c7 fun k hk e => by have := (hq6.lt k hk).1; omega
  have hB7 : Below w.heap.size w w7 := below_one (below_t hB2 hB6) c7 (Nat.le_refl _)
  have h7 := h.ext hB7
  refine ldSl_of (x := f.ls) (h7.blk.cell 3 rfl) ?_
  have ho7 := ho.ext hB7
  refine cloneS_spec ho7.rd (by omega) fun t w8 ht8 hB8 => ?_
  have hx8 := hx7.ext hB8
  refine stK_blk hx8 (by simp [T_grid_Grid.rep, putL]) fun w9 hx9 hg9 hs9 => ?_
  have c9 : Chg (fun k => k = w.heap.size) w8 w9 := Chg.gg hg9
  have z8 := hB8.size
  have z7 := hB7.size
  have hy9 := (hy7.ext hB8).chg c9 (by omega)
  have hq9 := (hq7.ext hB8).chg c9 fun k hk e => by have := (hq7.lt k hk).1; omega
  have ht9 := ht8.chg c9 fun k hk e => by have := (ht8.lt k hk).1; omega
  have hB9 : Below w.heap.size w w9 := below_one (below_t hB7 hB8) c9 (Nat.le_refl _)
  have hl9 := hl.ext hB9
  have hrl9 := hrl.ext hB9
  have z6 := hB6.size
  have z2 := hB2.size
  refine hK ⟨w.heap.size, w2.heap.size, t, q⟩ w9 ⟨hx9, hb, ⟨ls, ht9.base (by omega), hl9⟩, ⟨at_, gone, rls, xss, hy9, hq9.base (by omega), hrl9, by show base ≤ w2.heap.size; omega, eold, hmost, hat⟩, fun k hk hk' => ?_⟩ ?_ hB9
  · have h1 := (ht8.lt k hk).1
    have h2 := (hq7.lt k hk').2
    omega
  · rintro k (rfl | rfl | hk | hk)
    · exact Nat.le_refl _
    · show w.heap.size ≤ w2.heap.size
      omega
    · have := (ht8.lt k hk).1
      omega
    · have := (hq5.lt k hk).1
      have := hB4'.size
      omega
theorem Grid_spec (h : ScM w base g F S) {K : Option Addr → World → Prop} (hK : ∀ f' w', GridM w' base f' S.g → (∀ k, gridS f' k → w.heap.size ≤ k) → ScM w' base g F S → Below w.heap.size w w' → K (some ⟨f'.g, 0, none⟩) w') : c_screen_Screen_Grid (some ⟨g, 0, none⟩) w K := by
  refine call_screen_Screen_Grid _ ?_
  unfold sh_screen_Screen_Grid
  refine sg_spec h ?_
  have hd := h.drew
  have hG := h.gOk
  refine gTwin_spec hd.gM (by rw [hG.len]; exact hG.rows.2) (by have := hG.most; omega) hd.base_le fun f' w' hg hf hB => ?_
  exact hK f' w' hg hf (hd.ext hB) (below_t (below_drew w) hB)
/-! ### sequence, Do -/
theorem encode_run {n : Int} {K : ByteArray → World → Prop} (hK : K (strB (Utf8.encode n).data.toList) w) : runK1 PG (convert ty_uint8 ty_string (.int .u8 n)) Kind.string w K := by
  rw [strB_eta] at hK
  exact ⟨_, w, run_convert_int_string w ty_uint8 ty_string .u8 n (by kernel_rfl) (by kernel_rfl), hK⟩
theorem encode_len (n : Int) (h : 0 ≤ n ∧ n ≤ 255) : (Utf8.encode n).data.toList.length ≤ 4 := by
  have hv : Utf8.valid n = true := by
    unfold Utf8.valid
    simp
    omega
  by_cases h2 : n < 128
  · unfold Utf8.encode
    simp only [hv, if_true]
    rw [if_pos (by omega)]
    simp
  · have := (encode_facts n hv (by omega)).2.1
    simpa using this
theorem turns_loop (h : ScM w base g F S) (hp : ParM w g F p ps) {be : Nat} {B : Int} {on : Bool} (hon : on = (B == 104)) (hbe : ¬ scS g F be) (hb : w.cell? ⟨be, 2, none⟩ = some (.int .u8 B)) (ha : S.areas.length + ps.length ≤ 900000000) {K : World → Prop} (hK : ∀ F' w', ScT base g w F F' (S.turns on ps) w' → K w') :
    loopP (σ := Int × Unit) (fun I4 s_4 w10 =>
            cond (decide (s_4.1 < ((p.n : Nat) : Int)))
              (ixK p s_4.1 1 fun t35 =>
               ldI .i64 t35 w10 fun t36 =>
               ldI .u8 ((⟨be, 0, none⟩ : Addr).add 2) w10 fun t40 =>
               c_screen_Screen_turn (some ⟨g, 0, none⟩) t36 (t40 == (104 : Int)) w10 fun w11 =>
               I4 ((IntKind.i64.wrap (s_4.1 + (1 : Int))), ()) w11)
              (K w10)) (0, ()) w := by
  subst hon
  have hn := hp.rd.n
  have hlen := hp.len
  refine loopP_rule (fun (st : Int × Unit) w2 => ∃ (k : Nat) (F2 : ScF), st.1 = (k : Int) ∧ k ≤ ps.length ∧ ScT base g w F F2 (S.turns (B == 104) (ps.take k)) w2) (fun st => ps.length - st.1.toNat) ⟨0, F, rfl, by omega, by rw [List.take_zero]; exact ScT.refl h⟩ ?_
  rintro ⟨i, u⟩ w2 ⟨k, F2, hi, hk, hT2⟩ I hI
  dsimp only at hi ⊢
  subst hi
  refine cond_of (fun e => ?_) fun e => ?_
  · have e := of_decide_eq_true e
    have hkl : k < ps.length := by omega
    have hp2 := hp.step hT2
    refine ldP_at hp2.rd (i := k) hkl ?_
    obtain ⟨x, hx⟩ : ∃ x, x = ps.getD k 0 := ⟨_, rfl⟩
    rw [← hx]
    have hxk : ps[k] = x := by rw [hx, List.getD_eq_getElem?_getD, List.getElem?_eq_getElem hkl]; rfl
    have hsn := turns_snoc S (B == 104) (ps.take k) x
    rw [← hxk, ← List.take_succ_eq_append_getElem hkl, hxk] at hsn
    have hxr : in64 x := by rw [← hxk]; exact hp.rng _ (List.getElem_mem hkl)
    rw [wrap64_id (x := (k : Int) + 1) (by omega)]
    have hlt := World.block_lt_of_cell? w _ hb
    have hb2 : w2.cell? ⟨be, 2, none⟩ = some (.int .u8 B) := by
      rw [← hb]
      exact World.cell?_of_block (hT2.chg.block be hlt hbe)
    refine ldI_of (x := B) (by rw [add_mk]; exact hb2) ?_
    have har := turns_areas (B == 104) (ps.take k) S
    rw [List.length_take] at har
    refine turn_spec hT2.m hxr (by omega) fun F3 w3 hT3 => ?_
    refine hI _ _ ⟨k + 1, F3, by simp, by omega, ?_⟩ (by dsimp only; omega)
    rw [hsn]
    exact hT2.trans hT3
  · have e := of_decide_eq_false e
    have hkr : k = ps.length := by omega
    subst hkr
    rw [List.take_length] at hT2
    exact hK _ _ hT2
structure EvM (w : World) (g : Nat) (F : ScF) (e : T_parse_Event) (v : Ev) : Prop where
  k : e.Kind = v.Kind
  r : e.R = v.R
  b : e.B = v.B
  p : e.Private = v.Private
  i : e.Inter = strB v.Inter
  ps : ParM w g F e.Params v.Params
  br : 0 ≤ v.B ∧ v.B ≤ 255
  pr : 0 ≤ v.Private ∧ v.Private ≤ 255
  il : v.Inter.length ≤ 100000
theorem sequence_spec {e : T_parse_Event} {v : Ev} (h : ScM w base g F S) (hv : EvM w g F e v) (hT : Tab w) (h1b : 1 ≤ base) (ha : S.areas.length + v.Params.length ≤ 700000000) {K : Slc → World → Prop}
    (hK : ∀ q F' w', Rd E_uint8 w' q (S.seqR v) → ScT base g w F F' (S.seqS v) w' → K q w') : c_screen_Screen_sequence (some ⟨g, 0, none⟩) e w K := by
  refine call_screen_Screen_sequence _ _ ?_
  unfold sh_screen_Screen_sequence
  obtain ⟨ek, er, eb, ep, ei, epar, edat⟩ := e
  obtain ⟨h1, h2, h3, h4, h5, hp, hbr, hpr, hil⟩ := hv
  dsimp only at h1 h2 h3 h4 h5 hp
  subst h3 h4 h5
  refine nw_blk fun w1 hx1 hB1 hs1 => ?_
  have hT1 := (ScT.of_ext h hB1).drew
  have B1 := below_t hB1 (below_drew w1)
  have hp1 := hp.ext B1
  have t1 := hT.ext B1
  have hx := hx1.drew
  generalize w1.drew = w2 at hT1 B1 hp1 t1 hx ⊢
  have hxn : ¬ scS g F w.heap.size := fun hs => by have := (h.below _ hs).2; omega
  refine ldSl_of (x := epar) (by simpa using hx.cells 5 _ rfl) (ldSl_of (x := epar) (by simpa using hx.cells 5 _ rfl) ?_)
  refine param_spec (i := 0) hp1 ⟨by simpa using hx.cells 5 _ rfl, ?_⟩
  obtain ⟨n, hn⟩ : ∃ n, n = paramP v.Params 0 0 := ⟨_, rfl⟩
  have hni : in64 n := by rw [hn]; exact param_in hp 0 (by unfold in64; omega)
  rw [← hn]
  refine joinP_of fun J1 hJ1 => ?_
  -- the tail
  have tail : ∀ (S1 : Sc) F1 w3, ScT base g w2 F F1 S1 w3 → S1.areas.length ≤ 700000000 → (∀ q F' w', Rd E_uint8 w' q (S1.tailR v) → ScT base g w F F' (S1.tailS v) w' → K q w') → J1 () w3 := by
    intro S1 F1 w3 hT3 har hK
    refine hJ1 _ _ ?_
    have hx3 := hx.chg hT3.chg hxn
    have h3 := hT1.trans hT3
    unfold Sc.tailR Sc.tailS at hK
    refine joinP_of fun J2 hJ2 => ?_
    refine ldI_of (x := v.Private) (by simpa using hx3.cells 3 _ rfl) ?_
    refine cond_of (fun e => ?_) fun e => ?_
    · have e : v.Private ≠ 0 := by simpa using e
      rw [if_pos (.inl e), if_pos (.inl e)] at hK
      exact hK _ _ _ (Rd.nil _ _) h3
    have e : v.Private = 0 := by simpa using e
    refine ldStr_of (x := strB v.Inter) (by simpa using hx3.cells 4 _ rfl) ?_
    rw [strB_toList, show (⟨#[]⟩ : ByteArray).toList = [] by kernel_rfl]
    by_cases ei : v.Inter = []
    · refine cond_f (by rw [ei]; rfl) (hJ2 _ _ ?_)
      rw [if_neg (fun hh => hh.elim (fun h => h e) fun h => h ei), if_neg (fun hh => hh.elim (fun h => h e) fun h => h ei)] at hK
      refine ldI_of (x := v.B) (by simpa using hx3.cells 2 _ rfl) ?_
      have hp3 := hp1.step hT3
      exact bare_spec hT3.m hp3 (t1.step hT1.m h1b hT3) (by omega) fun q F4 w4 hq hT4 => hK q F4 w4 hq (h3.trans hT4)
    · have ein : (v.Inter == ([] : List UInt8)) = false := by rw [beq_eq_false_iff_ne]; exact ei
      refine cond_t (by rw [ein]; rfl) ?_
      rw [if_pos (.inr ei), if_pos (.inr ei)] at hK
      exact hK _ _ _ (Rd.nil _ _) h3
  refine ldI_of (x := v.Private) (by simpa using hx.cells 3 _ rfl) ?_
  refine encode_run ?_
  refine ldStr_of (x := strB v.Inter) (by simpa using hx.cells 4 _ rfl) ?_
  have el := encode_len v.Private hpr
  have el2 := encode_len v.B hbr
  refine ⟨by rw [strB_size, strB_size]; omega, ?_⟩
  refine ldI_of (x := v.B) (by simpa using hx.cells 2 _ rfl) ?_
  refine encode_run ⟨by rw [strB_app, strB_size, strB_size, List.length_append]; omega, ?_⟩
  rw [strB_app, strB_app, strB_toList]
  have ekey : (Utf8.encode v.Private).data.toList ++ v.Inter ++ (Utf8.encode v.B).data.toList = seqKey v.Private v.Inter v.B := rfl
  rw [ekey]
  have l1 : (⟨#[0, 33, 112]⟩ : ByteArray).toList = [0, 33, 112] := by kernel_rfl
  have l2 : (⟨#[63, 110]⟩ : ByteArray).toList = [63, 110] := by kernel_rfl
  have l3 : (⟨#[62, 99]⟩ : ByteArray).toList = [62, 99] := by kernel_rfl
  have l4 : (⟨#[63, 36, 112]⟩ : ByteArray).toList = [63, 36, 112] := by kernel_rfl
  have l5 : (⟨#[63, 104]⟩ : ByteArray).toList = [63, 104] := by kernel_rfl
  have l6 : (⟨#[63, 108]⟩ : ByteArray).toList = [63, 108] := by kernel_rfl
  rw [l1, l2, l3, l4, l5, l6]
  unfold Sc.seqR Sc.seqS at hK
  dsimp only at hK
  rw [← hn] at hK
  obtain ⟨k, hk⟩ : ∃ k, k = seqKey v.Private v.Inter v.B := ⟨_, rfl⟩
  rw [← hk] at hK ⊢
  clear ekey el el2 hk
  refine cond_of (fun e => ?_) fun e1 => ?_
  · have e := beq_list e
    rw [if_pos e, if_pos e] at hK
    exact soft_spec hT1.m fun F3 w3 hT3 => tail S.soft F3 w3 hT3 (by show S.areas.length ≤ _; omega) hK
  have e1 := nbeq_list e1
  rw [if_neg e1, if_neg e1] at hK
  refine joinP_of fun J3 hJ3 => ?_
  have hcl : k = [63, 104] ∨ k = [63, 108] → J3 (true, ()) w2 := by
    intro hh
    rw [if_pos hh, if_pos hh] at hK
    refine hJ3 _ _ (cond_t rfl ?_)
    have har := turns_areas (v.B == 104) v.Params S
    exact turns_loop (B := v.B) hT1.m hp1 rfl hxn (hx.cell 2 rfl) (by omega) fun F3 w3 hT3 => tail _ F3 w3 hT3 (by omega) hK
  have hcn : ¬ (k = [63, 104] ∨ k = [63, 108]) → J3 (false, ()) w2 := by
    intro hh
    rw [if_neg hh, if_neg hh] at hK
    refine hJ3 _ _ (cond_f rfl ?_)
    have nokey : ∀ {X : List UInt8 → Prop}, True := trivial
    refine cond_of (fun e => ?_) fun e2 => ?_
    · have e : k = [63, 110] := beq_list e
      refine cond_of (fun e6 => ?_) fun e6 => ?_
      · have e6 : n = 6 := eq_of_beq e6
        rw [if_pos ⟨e, e6⟩, if_pos ⟨e, e6⟩] at hK
        refine place_spec hT1.m t1 fun w3 hB3 hpl => ?_
        have e63 : (⟨#[63]⟩ : ByteArray) = strB [63] := rfl
        have e82 : (⟨#[82]⟩ : ByteArray) = strB [82] := rfl
        rw [e63, e82, strB_app, strB_app, strB_size, strB_size, strB_size, strB_size]
        simp only [List.length_append, List.length_cons, List.length_nil]
        refine ⟨by omega, by omega, ?_⟩
        exact reply_spec (by simp only [List.length_append, List.length_cons, List.length_nil]; omega) fun q w4 hq hB4 => hK q F w4 hq (hT1.ext (below_t hB3 hB4))
      · have e6 : ¬ n = 6 := beq_eq_false_iff_ne.1 e6
        have x1 : ¬ (k = [63, 110] ∧ n = 6) := fun hh => e6 hh.2
        have x2 : ¬ (k = [62, 99] ∧ n = 0) := fun hh => absurd (e.symm.trans hh.1) (by decide)
        have x3 : ¬ k = [63, 36, 112] := fun hh => absurd (e.symm.trans hh) (by decide)
        rw [if_neg x1, if_neg x2, if_neg x3, if_neg x1, if_neg x2, if_neg x3] at hK
        exact tail S F w2 (ScT.refl hT1.m) (by omega) hK
    have e2 : ¬ k = [63, 110] := nbeq_list e2
    have x1 : ¬ (k = [63, 110] ∧ n = 6) := fun hh => e2 hh.1
    rw [if_neg x1, if_neg x1] at hK
    refine cond_of (fun e => ?_) fun e3 => ?_
    · have e : k = [62, 99] := beq_list e
      refine cond_of (fun e6 => ?_) fun e6 => ?_
      · have e6 : n = 0 := eq_of_beq e6
        rw [if_pos ⟨e, e6⟩, if_pos ⟨e, e6⟩] at hK
        exact reply_spec (bs := [62, 49, 59, 49, 59, 48, 99]) (by decide) fun q w4 hq hB4 => hK q F w4 hq (hT1.ext hB4)
      · have e6 : ¬ n = 0 := beq_eq_false_iff_ne.1 e6
        have x2 : ¬ (k = [62, 99] ∧ n = 0) := fun hh => e6 hh.2
        have x3 : ¬ k = [63, 36, 112] := fun hh => absurd (e.symm.trans hh) (by decide)
        rw [if_neg x2, if_neg x3, if_neg x2, if_neg x3] at hK
        exact tail S F w2 (ScT.refl hT1.m) (by omega) hK
    have e3 : ¬ k = [62, 99] := nbeq_list e3
    have x2 : ¬ (k = [62, 99] ∧ n = 0) := fun hh => e3 hh.1
    rw [if_neg x2, if_neg x2] at hK
    refine cond_of (fun e => ?_) fun e4 => ?_
    · have e : k = [63, 36, 112] := beq_list e
      rw [if_pos e, if_pos e] at hK
      have ln := itoa_len hni.1 hni.2
      have hst : 0 ≤ S.stateP n ∧ S.stateP n ≤ 2 := by unfold Sc.stateP; split; omega; split <;> omega
      have ln2 := itoa_len (n := S.stateP n) (by omega) (by omega)
      refine Itoa_spec t1 hni.1 hni.2 fun w3 hB3 => ?_
      have e63 : (⟨#[63]⟩ : ByteArray) = strB [63] := rfl
      have e59 : (⟨#[59]⟩ : ByteArray) = strB [59] := rfl
      have ee : (⟨#[36, 121]⟩ : ByteArray) = strB [36, 121] := rfl
      rw [e63, e59, ee, strB_app, strB_app, strB_size, strB_size, strB_size, strB_size]
      simp only [List.length_append, List.length_cons, List.length_nil]
      refine ⟨by omega, by omega, ?_⟩
      have h3 := hT1.ext hB3
      refine state_spec h3.m ?_
      refine Itoa_spec (t1.ext hB3) (by omega) (by omega) fun w4 hB4 => ?_
      rw [strB_app, strB_app, strB_size, strB_size, strB_size, strB_size]
      simp only [List.length_append, List.length_cons, List.length_nil]
      refine ⟨by omega, by omega, ?_⟩
      exact reply_spec (by simp only [List.length_append, List.length_cons, List.length_nil]; omega) fun q w5 hq hB5 => hK q F w5 hq (h3.ext (below_t hB4 hB5))
    · have x3 : ¬ k = [63, 36, 112] := nbeq_list e4
      rw [if_neg x3, if_neg x3] at hK
      exact tail S F w2 (ScT.refl hT1.m) (by omega) hK
  refine cond_of (fun e => ?_) fun e5 => ?_
  · rw [e]
    exact hcl (.inl (beq_list e))
  · cases e6 : (k == [63, 108])
    · exact hcn fun hh => hh.elim (nbeq_list e5) (nbeq_list e6)
    · exact hcl (.inr (beq_list e6))
theorem Do_spec {e : T_parse_Event} {v : Ev} (h : ScM w base g F S) (hv : EvM w g F e v) (hT : Tab w) (h1b : 1 ≤ base) (ha : S.areas.length + v.Params.length ≤ 700000000) {K : Slc → World → Prop}
    (hK : ∀ q F' w', Rd E_uint8 w' q (S.doR v) → ScT base g w F F' (S.doS v) w' → K q w') : c_screen_Screen_Do (some ⟨g, 0, none⟩) e w K := by
  refine call_screen_Screen_Do _ _ ?_
  unfold sh_screen_Screen_Do
  refine nw_blk fun w1 hx hB1 hs1 => ?_
  have h1 := ScT.of_ext h hB1
  unfold Sc.doR Sc.doS at hK
  have v1 := hv.k
  have v2 := hv.r
  have v3 := hv.b
  have v4 := hv.i
  refine ldI_of (x := v.Kind) (by rw [← v1]; simpa using hx.cells 0 _ rfl) ?_
  have no : ∀ {S1 w' F1}, (∀ q F' w', Rd E_uint8 w' q [] → ScT base g w F F' S1 w' → K q w') → ScT base g w F F1 S1 w' → K ⟨none, 0, 0⟩ w' := fun hK hT => hK _ _ _ (Rd.nil _ _) hT
  refine cond_of (fun e => ?_) fun e1 => ?_
  · have e : v.Kind = 1 := eq_of_beq e
    rw [if_pos (.inl e), if_pos e] at hK
    refine ldI_of (x := v.R) (by rw [← v2]; simpa using hx.cells 1 _ rfl) ?_
    exact print_spec h1.m fun F2 w2 hT2 => no hK (h1.trans hT2)
  have e1 : ¬ v.Kind = 1 := beq_eq_false_iff_ne.1 e1
  refine cond_of (fun e => ?_) fun e2 => ?_
  · have e : v.Kind = 2 := eq_of_beq e
    rw [if_pos (.inr (.inl e)), if_neg e1, if_pos e] at hK
    refine ldI_of (x := v.B) (by rw [← v3]; simpa using hx.cells 2 _ rfl) ?_
    exact control_spec h1.m fun F2 w2 hT2 => no hK (h1.trans hT2)
  have e2 : ¬ v.Kind = 2 := beq_eq_false_iff_ne.1 e2
  refine cond_of (fun e => ?_) fun e3 => ?_
  · have e : v.Kind = 3 := eq_of_beq e
    rw [if_pos (.inr (.inr e)), if_neg e1, if_neg e2, if_pos e] at hK
    refine ldStr_of (x := strB v.Inter) (by rw [← v4]; simpa using hx.cells 4 _ rfl) ?_
    refine ldI_of (x := v.B) (by rw [← v3]; simpa using hx.cells 2 _ rfl) ?_
    exact escape_spec h1.m (by omega) fun F2 w2 hT2 => no hK (h1.trans hT2)
  have e3 : ¬ v.Kind = 3 := beq_eq_false_iff_ne.1 e3
  rw [if_neg (fun hh => by rcases hh with hh | hh | hh; exact e1 hh; exact e2 hh; exact e3 hh), if_neg e1, if_neg e2, if_neg e3] at hK
  refine cond_of (fun e => ?_) fun e4 => ?_
  · have e : v.Kind = 4 := eq_of_beq e
    rw [if_pos e, if_pos e] at hK
    refine ldS_of (r := T_parse_Event.rep) (x := _) hx.cells ?_
    refine sequence_spec h1.m ⟨hv.k, hv.r, hv.b, hv.p, hv.i, hv.ps.ext hB1, hv.br, hv.pr, hv.il⟩ (hT.ext hB1) h1b ha fun q F2 w2 hq hT2 => hK q F2 w2 hq (h1.trans hT2)
  · have e4 : ¬ v.Kind = 4 := beq_eq_false_iff_ne.1 e4
    rw [if_neg e4, if_neg e4] at hK
    exact no hK h1
end
end Go.Proofs.YtmoafafalnbkpaaGreatDoor

set_option linter.unusedVariables false
namespace Go.Proofs.YtmoafafalnbkpaaGreatDoor
open Go.Vc Go.RowKit
set_option maxRecDepth 400000
section
variable {w w' : World} {base g : Nat} {F F' : ScF} {S S' : Sc} {p : Slc} {ps : List Int}
namespace Sc
end Sc
/-! ### Move -/
namespace Sc
end Sc
end
end Go.Proofs.YtmoafafalnbkpaaGreatDoor

set_option linter.unusedVariables false
namespace Go.Vc
open Go.ChangeShapes Go.WideShapes Go.ChangeAt Go.RowKit Go.Deep
/-! ### Types that hold slices of one element type among their leaves -/
inductive Leaf2 where
  | one (l : Leaf)
  | sl (e : TypeId)
def goF2 (P : Program) (g : TypeId → Option (List Leaf2)) : List Field → Nat → Option (List Leaf2)
  | [], _ => some []
  | f :: r, off =>
    match g f.type with
    | some ls => if f.offset = off ∧ P.cellsOf f.type = ls.length then (goF2 P g r (off + ls.length)).map (ls ++ ·) else none
    | none => none
def leavesL2 (P : Program) (es : List TypeId) : Nat → TypeId → Option (List Leaf2)
  | 0, _ => none
  | n + 1, t =>
    match P.underlying t with
    | some (.int k) => some [.one (.int k)]
    | some .bool => some [.one .bool]
    | some .string => some [.one .str]
    | some (.slice e) => if e ∈ es then some [.sl e] else none
    | some (.struct fs) => goF2 P (leavesL2 P es n) fs.toList 0
    | _ => none
section
variable {H : Type} {enc : TypeId × Value → H} {P : Program} {w : World} {base : Nat} {spare : Nat → Bool} {held : Bool}
end
end Go.Vc
namespace Go.Proofs.YtmoafafalnbkpaaGreatDoor
open Go.Vc Go.ChangeShapes Go.WideShapes Go.ChangeAt Go.RowKit
set_option maxRecDepth 100000
theorem u8_in {z : Int} (h : (Lit.int .u8 z).wf = true) : 0 ≤ z ∧ z ≤ 255 := by
  have w := (Lit.wf_int_iff _ _).1 h
  rw [IntKind.min_u8, show IntKind.u8.max = 255 from rfl] at w
  exact w
structure ActT where
  Op : Int
  E : T_parse_Event
  Rows : Int
  Cols : Int
def actE : El ActT where
  cells x := [.int .i64 x.Op, .int .i64 x.E.Kind, .int .i32 x.E.R, .int .u8 x.E.B, .int .u8 x.E.Private, .string x.E.Inter, .slice x.E.Params.a x.E.Params.n x.E.Params.c, .slice x.E.Data.a x.E.Data.n x.E.Data.c, .int .i64 x.Rows, .int .i64 x.Cols]
  t := 37
  k := 10
  pos := by decide
  len _ := rfl
  one x v hv := by
    simp only [List.mem_cons, List.mem_nil_iff, or_false] at hv
    rcases hv with rfl | rfl | rfl | rfl | rfl | rfl | rfl | rfl | rfl | rfl <;> rfl
def cfgE : El T_api_Config where
  cells := T_api_Config.rep.cells
  t := 23
  k := 6
  pos := by decide
  len _ := rfl
  one x v hv := by
    simp only [T_api_Config.rep, List.mem_cons, List.mem_nil_iff, or_false] at hv
    rcases hv with rfl | rfl | rfl | rfl | rfl | rfl <;> rfl
def cfgLs : List Leaf := [.int .i64, .int .i64, .int .i64, .int .i64, .int .i64, .int .i64]
theorem cfg_leaves : leavesL Tryz.prog 4 23 = some cfgLs := by kernel_rfl
theorem cfg_mk (vs : List Value) (hl : vs.length = 6) (h : LeafFit cfgLs vs) : ∃ x : T_api_Config, cfgE.cells x = vs ∧ True := by
  obtain ⟨z0, h0, _⟩ := leaf_int h 0 rfl
  obtain ⟨z1, h1, _⟩ := leaf_int h 1 rfl
  obtain ⟨z2, h2, _⟩ := leaf_int h 2 rfl
  obtain ⟨z3, h3, _⟩ := leaf_int h 3 rfl
  obtain ⟨z4, h4, _⟩ := leaf_int h 4 rfl
  obtain ⟨z5, h5, _⟩ := leaf_int h 5 rfl
  refine ⟨⟨z0, z1, z2, z3, z4, z5⟩, list_of_get hl fun j hj => ?_, trivial⟩
  match j, hj with
  | 0, _ => exact h0.symm
  | 1, _ => exact h1.symm
  | 2, _ => exact h2.symm
  | 3, _ => exact h3.symm
  | 4, _ => exact h4.symm
  | 5, _ => exact h5.symm
  | j + 6, hj => exact absurd hj (by simp [cfgE, T_api_Config.rep])
noncomputable def fieldsOf (P : Program) (t : TypeId) : Array Field := match P.underlying t with | some (.struct fs) => fs | _ => #[]
section
variable {H : Type} {enc : TypeId × Value → H} {w : World} {base : Nat} {held : Bool} {r : Reach} {b0 : Nat} {v : Value} {d : DataW H} {p : List MemPlace}
theorem open_cfg (hv : Value.okWide Tryz.prog w r b0 23 v) (h : DataW.Trod enc Tryz.prog w base (fun _ => true) held 23 v d p) : ∃ x : T_api_Config, v = .agg (T_api_Config.rep.cells x).toArray := by
  have hfs : Tryz.prog.underlying 23 = some (.struct (fieldsOf Tryz.prog 23)) := by kernel_rfl
  have a := @agg_of_trod H enc Tryz.prog w base (fun _ => true) held T_api_Config cfgE (fun _ => True) r b0 4 23 (fieldsOf Tryz.prog 23) cfgLs v d p hfs (by kernel_rfl) cfg_leaves cfg_mk
  obtain ⟨x, e, _⟩ := a hv h
  exact ⟨x, e⟩
end
end Go.Proofs.YtmoafafalnbkpaaGreatDoor

set_option linter.unusedVariables false
namespace Go.Proofs.YtmoafafalnbkpaaGreatDoor
open Go.Vc Go.RowKit
set_option maxRecDepth 400000
def same (G G' : GS) : Prop := G'.most = G.most ∧ G'.rows = G.rows ∧ G'.cols = G.cols
theorem same.refl (G : GS) : same G G := ⟨rfl, rfl, rfl⟩
theorem same.trans {G G' G'' : GS} (h : same G G') (k : same G' G'') : same G G'' := ⟨k.1.trans h.1, k.2.1.trans h.2.1, k.2.2.trans h.2.2⟩
structure Fr (n : Nat) (S S' : Sc) : Prop where
  alt : S'.alt = S.alt
  s0 : S'.s0 = S.s0
  s1 : S'.s1 = S.s1
  g0 : same S.g0 S'.g0
  g1 : same S.g1 S'.g1
  ar : S'.areas.length ≤ S.areas.length + n
structure Fm (n : Nat) (S S' : Sc) : Prop where
  m0 : S'.g0.most = S.g0.most
  m1 : S'.g1.most = S.g1.most
  ar : S'.areas.length ≤ S.areas.length + n
variable {S S' S'' : Sc} {n k0 : Nat}
theorem Fr.m (h : Fr n S S') : Fm n S S' := ⟨h.g0.1, h.g1.1, h.ar⟩
theorem Fr.refl (S : Sc) (n : Nat) : Fr n S S := ⟨rfl, rfl, rfl, same.refl _, same.refl _, by omega⟩
theorem Fm.refl (S : Sc) (n : Nat) : Fm n S S := ⟨rfl, rfl, by omega⟩
theorem Fr.trans (h : Fr n S S') (k : Fr k0 S' S'') : Fr (n + k0) S S'' := ⟨k.alt.trans h.alt, k.s0.trans h.s0, k.s1.trans h.s1, h.g0.trans k.g0, h.g1.trans k.g1, by have := h.ar; have := k.ar; omega⟩
theorem Fm.trans (h : Fm n S S') (k : Fm k0 S' S'') : Fm (n + k0) S S'' := ⟨k.m0.trans h.m0, k.m1.trans h.m1, by have := h.ar; have := k.ar; omega⟩
theorem Fr.le (h : Fr n S S') (hn : n ≤ k0) : Fr k0 S S' := ⟨h.alt, h.s0, h.s1, h.g0, h.g1, by have := h.ar; omega⟩
theorem Fm.le (h : Fm n S S') (hn : n ≤ k0) : Fm k0 S S' := ⟨h.m0, h.m1, by have := h.ar; omega⟩
theorem Fr.of (e1 : S'.alt = S.alt) (e2 : S'.s0 = S.s0) (e3 : S'.s1 = S.s1) (e4 : S'.g0 = S.g0) (e5 : S'.g1 = S.g1) (e6 : S'.areas = S.areas) : Fr 0 S S' := ⟨e1, e2, e3, e4 ▸ same.refl _, e5 ▸ same.refl _, by rw [e6]; omega⟩
theorem fr_withG (S : Sc) {G : GS} (h : same S.g G) : Fr 0 S (S.withG G) := by
  unfold Sc.withG
  unfold Sc.g at h
  cases hS : S.alt <;> rw [hS] at h <;> simp only [Bool.false_eq_true, if_false, if_true] at h ⊢
  · exact ⟨hS.symm ▸ rfl, rfl, rfl, h, same.refl _, by show S.areas.length ≤ _; omega⟩
  · exact ⟨hS.symm ▸ rfl, rfl, rfl, same.refl _, h, by show S.areas.length ≤ _; omega⟩
theorem fr_to (S : Sc) (r c : Int) : Fr 0 S (S.to r c) := Fr.of rfl rfl rfl rfl rfl rfl
theorem fr_dry (S : Sc) : Fr 0 S S.dry := Fr.of rfl rfl rfl rfl rfl rfl
theorem scrollG_same (G : GS) (top past n : Int) (a : Attr) : same G (scrollG G top past n a) := by
  unfold scrollG
  split
  · exact same.refl _
  · split <;> exact ⟨rfl, rfl, rfl⟩
theorem fr_scroll (S : Sc) (t p n : Int) : Fr 0 S (S.scroll t p n) := fr_withG S (scrollG_same _ _ _ _ _)
theorem fr_index (S : Sc) : Fr 0 S S.index := by
  unfold Sc.index
  split
  · exact (fr_dry S).trans (fr_scroll _ _ _ _)
  · exact (fr_dry S).trans (fr_to _ _ _)
theorem fr_reverse (S : Sc) : Fr 0 S S.reverse := by
  unfold Sc.reverse
  split
  · exact (fr_dry S).trans (fr_scroll _ _ _ _)
  · exact (fr_dry S).trans (fr_to _ _ _)
theorem fr_change (S : Sc) (f : List Cell → List Cell) : Fr 0 S (S.change f) := by
  unfold Sc.change
  split
  · exact fr_withG S ⟨rfl, rfl, rfl⟩
  · exact Fr.refl _ _
theorem fr_laid (S : Sc) (r w : Int) (b : Bool) : Fr 0 S (S.laid r w b) := by
  unfold Sc.laid
  dsimp only
  have h := fr_change S (S.putL r w)
  split
  · exact h.trans (k0 := 0) (Fr.of rfl rfl rfl rfl rfl rfl)
  · exact h.trans (k0 := 0) (Fr.of rfl rfl rfl rfl rfl rfl)
theorem fr_next (S : Sc) : Fr 0 S S.next := (fr_to S S.c.Row 0).trans (fr_index _)
theorem fr_layX (S : Sc) (b : Bool) : Fr 0 S (S.layX b) := by
  unfold Sc.layX
  split
  · exact fr_next S
  · exact Fr.refl _ _
theorem fr_layY (S : Sc) (c : Nat) (r w : Int) (b : Bool) : Fr 0 S (S.layY c r w b) := by
  unfold Sc.layY
  split
  · split
    · exact Fr.refl _ _
    · split
      · exact (fr_next S).trans (fr_laid _ _ _ _)
      · exact (Fr.of (S := S) (S' := S.setCol (w64 (c - w))) rfl rfl rfl rfl rfl rfl).trans (fr_laid _ _ _ _)
  · exact fr_laid _ _ _ _
theorem fr_lay (S : Sc) (r : Int) : Fr 0 S (S.lay r) := by
  unfold Sc.lay
  split
  · exact Fr.refl _ _
  · have h1 : Fr 0 S { S with char := r } := Fr.of rfl rfl rfl rfl rfl rfl
    exact ((h1.trans (fr_layX _ _)).trans (fr_dry _)).trans (fr_layY _ _ _ _ _)
theorem fr_print (S : Sc) (r : Int) : Fr 0 S (S.print r) := by
  unfold Sc.print
  split <;> exact fr_lay _ _
theorem fr_restore (S : Sc) : Fr 0 S S.restore := Fr.of rfl rfl rfl rfl rfl rfl
theorem fr_fillRow (S : Sc) (r f t : Int) : Fr 0 S (S.fillRow r f t) := by
  unfold Sc.fillRow
  split
  · exact fr_withG S ⟨rfl, rfl, rfl⟩
  · exact Fr.refl _ _
theorem fr_fills (S : Sc) (r f t : Int) : ∀ n, Fr 0 S (S.fills r f t n)
  | 0 => Fr.refl _ _
  | n + 1 => (fr_fills S r f t n).trans (fr_fillRow _ _ _ _)
theorem fr_erase (S : Sc) (r rs f t : Int) : Fr 1 S (S.erase r rs f t) := by
  unfold Sc.erase
  split
  · exact Fr.refl _ _
  · have h := fr_fills S r f t rs.toNat
    exact h.trans (k0 := 1) ⟨rfl, rfl, rfl, same.refl _, same.refl _, by dsimp only; rw [List.length_append]; simp⟩
theorem fr_lays (S : Sc) (r : Int) : ∀ n, Fr 0 S (S.lays r n)
  | 0 => Fr.refl _ _
  | n + 1 => (fr_lays S r n).trans (fr_lay _ _)
theorem fr_again (S : Sc) (n : Int) : Fr 0 S (S.again n) := by
  unfold Sc.again
  split
  · exact fr_lays _ _ _
  · exact Fr.refl _ _
theorem fr_forget (S : Sc) : Fr 0 S S.forget := fr_withG S ⟨rfl, rfl, rfl⟩
theorem fr_display (S : Sc) (h : Int) : Fr 2 S (S.display h) := by
  unfold Sc.display
  dsimp only
  split
  · exact ((fr_erase S _ _ _ _).trans (fr_erase _ _ _ _ _)).trans (fr_dry _)
  · split
    · exact ((fr_erase S _ _ _ _).trans (fr_erase _ _ _ _ _)).trans (fr_dry _)
    · split
      · exact ((fr_erase S _ _ _ _).trans (fr_dry _)).le (by omega)
      · split
        · exact (fr_forget S).le (by omega)
        · exact Fr.refl _ _
theorem fr_inLine (S : Sc) (h : Int) : Fr 1 S (S.inLine h) := by
  unfold Sc.inLine
  split
  · exact (fr_erase S _ _ _ _).trans (fr_dry _)
  · split
    · exact (fr_erase S _ _ _ _).trans (fr_dry _)
    · split
      · exact (fr_erase S _ _ _ _).trans (fr_dry _)
      · exact Fr.refl _ _
theorem fr_cells (S : Sc) (c n : Int) : Fr 1 S (S.cells c n) := by
  unfold Sc.cells
  dsimp only
  split
  · exact ((fr_dry S).trans (fr_erase _ _ _ _ _)).le (by omega)
  · exact ((fr_dry S).trans (fr_change _ _)).le (by omega)
theorem fr_lines (S : Sc) (c n : Int) : Fr 0 S (S.lines c n) := by
  unfold Sc.lines
  split
  · exact Fr.refl _ _
  · exact (fr_scroll S _ _ _).trans (fr_to _ _ _)
theorem fr_ite {P : Prop} [Decidable P] {A B : Sc} (h1 : P → Fr n S A) (h2 : ¬ P → Fr n S B) : Fr n S (if P then A else B) := by
  by_cases h : P
  · rw [if_pos h]; exact h1 h
  · rw [if_neg h]; exact h2 h
theorem fr_move (S : Sc) (p : List Int) (c n : Int) : Fr 0 S (S.move p c n) := by
  unfold Sc.move
  dsimp only
  have key : ∀ S1, Fr 0 S S1 → Fr 0 S (if c = 69 ∨ c = 70 then S1.to S1.c.Row 0 else S1) := by
    intro S1 h
    split
    · exact h.trans (fr_to _ _ _)
    · exact h
  refine key _ ?_
  refine fr_ite (fun _ => fr_to _ _ _) fun _ => ?_
  refine fr_ite (fun _ => fr_to _ _ _) fun _ => ?_
  refine fr_ite (fun _ => fr_to _ _ _) fun _ => ?_
  refine fr_ite (fun _ => fr_to _ _ _) fun _ => ?_
  refine fr_ite (fun _ => fr_to _ _ _) fun _ => ?_
  refine fr_ite (fun _ => fr_to _ _ _) fun _ => ?_
  refine fr_ite (fun _ => fr_to _ _ _) fun _ => ?_
  refine fr_ite (fun _ => fr_to _ _ _) fun _ => ?_
  refine fr_ite (fun _ => fr_to _ _ _) fun _ => ?_
  exact Fr.refl _ _
theorem fr_margins (S : Sc) (p : List Int) : Fr 0 S (S.margins p) := by
  unfold Sc.margins
  dsimp only
  split
  · exact Fr.refl _ _
  · exact Fr.of rfl rfl rfl rfl rfl rfl
theorem fr_modes1 (b : Bool) : ∀ (l : List Int) (S : Sc), Fr 0 S (S.modes1 b l)
  | [], S => Fr.refl _ _
  | x :: l, S => by
    have h1 : Fr 0 S (if x = 4 ∨ x = 20 then { S with modes := putL' S.modes x b } else S) := by
      split
      · exact Fr.of rfl rfl rfl rfl rfl rfl
      · exact Fr.refl _ _
    exact h1.trans (fr_modes1 b l _)
theorem fr_bare (S : Sc) (a : Attr) (p : List Int) (c : Int) (hc : c ≠ 115) : Fr 2 S (S.bare a p c) := by
  unfold Sc.bare
  dsimp only
  refine fr_ite (fun _ => Fr.refl _ _) fun _ => ?_
  refine fr_ite (fun _ => Fr.le (n := 0) (Fr.of rfl rfl rfl rfl rfl rfl) (by omega)) fun _ => ?_
  refine fr_ite (fun _ => (fr_margins _ _).le (by omega)) fun _ => ?_
  refine fr_ite (fun h => absurd h hc) fun _ => ?_
  refine fr_ite (fun _ => (fr_restore _).le (by omega)) fun _ => ?_
  refine fr_ite (fun _ => (fr_modes1 _ _ _).le (by omega)) fun _ => ?_
  refine fr_ite (fun _ => fr_ite (fun _ => Fr.le (n := 0) (Fr.of rfl rfl rfl rfl rfl rfl) (by omega)) fun _ => fr_ite (fun _ => Fr.le (n := 0) (Fr.of rfl rfl rfl rfl rfl rfl) (by omega)) fun _ => Fr.refl _ _) fun _ => ?_
  refine fr_ite (fun _ => (fr_again _ _).le (by omega)) fun _ => ?_
  refine fr_ite (fun _ => fr_display _ _) fun _ => ?_
  refine fr_ite (fun _ => (fr_inLine _ _).le (by omega)) fun _ => ?_
  refine fr_ite (fun _ => (fr_cells _ _ _).le (by omega)) fun _ => ?_
  refine fr_ite (fun _ => (fr_lines _ _ _).le (by omega)) fun _ => ?_
  refine fr_ite (fun _ => ((fr_scroll _ _ _ _).trans (fr_dry _)).le (by omega)) fun _ => ?_
  refine fr_ite (fun _ => ((fr_scroll _ _ _ _).trans (fr_dry _)).le (by omega)) fun _ => ?_
  exact (fr_move _ _ _ _).le (by omega)
theorem fr_control (S : Sc) (c : Int) : Fr 0 S (S.control c) := by
  unfold Sc.control
  split
  · exact fr_to _ _ _
  split
  · exact fr_to _ _ _
  split
  · split
    · exact (fr_index S).trans (fr_to _ _ _)
    · exact fr_index S
  split
  · exact fr_to _ _ _
  split
  · exact Fr.of rfl rfl rfl rfl rfl rfl
  · exact Fr.refl _ _
/-! ### Only what the scrollbacks may hold -/
theorem fm_save (S : Sc) : Fm 0 S S.save := by
  unfold Sc.save Sc.withS
  split <;> exact ⟨rfl, rfl, Nat.le_refl _⟩
theorem fm_bare (S : Sc) (a : Attr) (p : List Int) (c : Int) : Fm 2 S (S.bare a p c) := by
  by_cases hc : c = 115
  · subst hc
    exact (fm_save S).le (by omega)
  · exact (fr_bare S a p c hc).m
theorem fm_soft (S : Sc) : Fm 0 S S.soft := ⟨rfl, rfl, Nat.le_refl _⟩
theorem fm_show (S : Sc) (b all : Bool) : Fm 1 S (S.show_ b all) := by
  refine ⟨?_, ?_, show_areas S b all⟩
  · unfold Sc.show_
    split
    · rfl
    · dsimp only
      split
      · exact ((fr_erase _ _ _ _ _).g0.1).trans (fm_save S).m0
      · split
        · rfl
        · rfl
  · unfold Sc.show_
    split
    · rfl
    · dsimp only
      split
      · exact ((fr_erase _ _ _ _ _).g1.1).trans (fm_save S).m1
      · split
        · rfl
        · rfl
theorem fm_turn (S : Sc) (n : Int) (b : Bool) : Fm 1 S (S.turn n b) := by
  unfold Sc.turn
  split
  · exact ⟨rfl, rfl, by show S.areas.length ≤ _; omega⟩
  split
  · exact ⟨rfl, rfl, by show S.areas.length ≤ _; omega⟩
  split
  · exact fm_show _ _ _
  split
  · exact fm_show _ _ _
  · exact Fm.refl _ _
theorem fm_turns (b : Bool) : ∀ (l : List Int) (S : Sc), Fm l.length S (S.turns b l)
  | [], S => Fm.refl _ _
  | x :: l, S => by
    have h := (fm_turn S x b).trans (fm_turns b l (S.turn x b))
    exact h.le (by simp; omega)
theorem fm_tail (S : Sc) (v : Ev) : Fm 2 S (S.tailS v) := by
  unfold Sc.tailS
  split
  · exact Fm.refl _ _
  · exact fm_bare _ _ _ _
theorem fm_seq (S : Sc) (v : Ev) : Fm (v.Params.length + 2) S (S.seqS v) := by
  unfold Sc.seqS
  dsimp only
  split
  · exact ((fm_soft S).trans (fm_tail _ _)).le (by omega)
  split
  · exact (fm_turns _ _ _).trans (fm_tail _ _)
  split
  · exact Fm.refl _ _
  split
  · exact Fm.refl _ _
  split
  · exact Fm.refl _ _
  · exact (fm_tail _ _).le (by omega)
theorem fm_reset (S : Sc) : Fm 2 S S.reset := by
  refine ⟨rfl, rfl, ?_⟩
  show ((S.clear0 false).clear0 true).areas.length ≤ _
  rw [clear0_areas, clear0_areas]
  omega
theorem fm_full (S : Sc) : Fm 0 S S.full := by
  unfold Sc.full
  dsimp only
  have h := (fr_withG S (G := { S.g with L := List.replicate S.g.rows (resL ((newL S.g.cols ⟨0, 0, 0⟩).map fun c => ({ c with R := 69 } : Cell)) S.g.cols) }) ⟨rfl, rfl, rfl⟩).m
  exact ⟨h.m0, h.m1, h.ar⟩
theorem fm_single (S : Sc) (c : Int) : Fm 2 S (S.single c) := by
  unfold Sc.single
  split
  · exact ((fr_to S _ _).trans (fr_index _)).m.le (by omega)
  split
  · exact (fr_index S).m.le (by omega)
  split
  · exact (fr_reverse S).m.le (by omega)
  split
  · exact ⟨rfl, rfl, by show S.areas.length ≤ _; omega⟩
  split
  · exact (fm_save S).le (by omega)
  split
  · exact (fr_restore S).m.le (by omega)
  split
  · exact fm_reset S
  · exact Fm.refl _ _
theorem fm_escape (S : Sc) (l : List UInt8) (c : Int) : Fm 2 S (S.escape l c) := by
  unfold Sc.escape
  split
  · split
    · unfold Sc.setSet
      split <;> split <;> exact ⟨rfl, rfl, by show S.areas.length ≤ _; omega⟩
    · exact Fm.refl _ _
  split
  · split
    · exact (fm_full S).le (by omega)
    · exact Fm.refl _ _
  split
  · exact fm_single S c
  · exact Fm.refl _ _
theorem fm_do (S : Sc) (v : Ev) : Fm (v.Params.length + 2) S (S.doS v) := by
  unfold Sc.doS
  split
  · exact (fr_print S _).m.le (by omega)
  split
  · exact (fr_control S _).m.le (by omega)
  split
  · exact (fm_escape S _ _).le (by omega)
  split
  · exact fm_seq S v
  · exact Fm.refl _ _
end Go.Proofs.YtmoafafalnbkpaaGreatDoor

set_option linter.unusedVariables false
namespace Go.Proofs.YtmoafafalnbkpaaGreatDoor
open Go.Vc Go.RowKit
set_option maxRecDepth 400000
section
variable {R C : Nat} {wr : Bool} {S : Sc} {r : Int}
end
/-! ### Wraps -/
/-! ### Without wraps -/
end Go.Proofs.YtmoafafalnbkpaaGreatDoor

set_option linter.unusedVariables false
namespace Go.Proofs.YtmoafafalnbkpaaGreatDoor
open Go.Vc Go.RowKit
set_option maxRecDepth 400000
def evP (r : Int) : Ev := ⟨1, r, 0, 0, [], []⟩
def evC (b : Int) (ps : List Int) : Ev := ⟨4, 0, b, 0, [], ps⟩
def kw : Nat → Sc
  | 0 => (newSc 3 4 0).doS (evC 109 [31])
  | k + 1 => (kw k).doS (evP (97 + k))
theorem kw_text : (kw 5).g.L.map (fun xs => trimR (textB xs)) = [[97, 98, 99, 100], [101], []] := by kernel_rfl
theorem kw_reply : (kw 5).doR (evC 110 [6]) = [27, 91, 50, 59, 50, 82] := by kernel_rfl
theorem kw_cur : ((kw 5).doS (evC 110 [6])).c.Row = 1 ∧ ((kw 5).doS (evC 110 [6])).c.Col = 1 ∧ ((kw 5).doS (evC 110 [6])).c.A.Fg = 16777217 := ⟨by kernel_rfl, by kernel_rfl, by kernel_rfl⟩
theorem kw_areas : ∀ k, (kw k).areas.length ≤ 3 + 2 * k
  | 0 => by
    have := (fm_do (newSc 3 4 0) (evC 109 [31])).ar
    have e : (newSc 3 4 0).areas.length = 0 := rfl
    have e2 : (evC 109 [31]).Params.length = 1 := rfl
    show ((newSc 3 4 0).doS (evC 109 [31])).areas.length ≤ _
    omega
  | k + 1 => by
    have := (fm_do (kw k) (evP (97 + k))).ar
    have h := kw_areas k
    have e2 : (evP (97 + k)).Params.length = 0 := rfl
    show ((kw k).doS (evP (97 + k))).areas.length ≤ _
    omega
section
variable {w w' : World} {base g : Nat} {F F' : ScF} {S S' : Sc} {p : Slc} {ps : List Int}
theorem tab_one (h : Tab w) : 1 ≤ w.heap.size := by
  have := tab_lt (g := 0) (by kernel_rfl) h
  omega
theorem ScT.belowB (h : ScM w base g F S) (hT : ScT base g w F F' S' w') : Below base w w' := hT.chg.below h.base_le fun i hi hs => by have := (h.below i hs).1; omega
theorem ParM.nil (w : World) (g : Nat) (F : ScF) : ParM w g F ⟨none, 0, 0⟩ [] := ⟨Rd.nil _ _, .inl rfl, (fun x hx => by cases hx), by simp⟩
theorem ParM.one (h : ScM w base g F S) {b : Nat} {x : Int} (hb : Blk w b ty_int [.int .i64 x]) (hx : in64 x) (hn : ¬ scS g F b) : ParM w g F ⟨some ⟨b, 0, none⟩, 1, 1⟩ [x] :=
  ⟨rd_one (E := E_int) hb rfl, .inr fun a ha => by cases ha; exact ⟨hn, hb.lt⟩, (fun y hy => by rw [List.mem_singleton] at hy; subst hy; exact hx), by simp⟩
theorem evM_p (w : World) (g : Nat) (F : ScF) (r : Int) : EvM w g F ⟨1, r, 0, 0, ⟨#[]⟩, ⟨none, 0, 0⟩, ⟨none, 0, 0⟩⟩ (evP r) :=
  ⟨rfl, rfl, rfl, rfl, rfl, ParM.nil _ _ _, ⟨Int.le_refl 0, by show (0 : Int) ≤ 255; omega⟩, ⟨Int.le_refl 0, by show (0 : Int) ≤ 255; omega⟩, by show (0 : Nat) ≤ _; omega⟩
theorem evM_c (hp : ParM w g F p ps) {b : Int} (hb : 0 ≤ b ∧ b ≤ 255) : EvM w g F ⟨4, 0, b, 0, ⟨#[]⟩, p, ⟨none, 0, 0⟩⟩ (evC b ps) :=
  ⟨rfl, rfl, rfl, rfl, rfl, hp, hb, ⟨Int.le_refl 0, by show (0 : Int) ≤ 255; omega⟩, by show (0 : Nat) ≤ _; omega⟩
/-- A CSI with one parameter. -/
theorem csi1 (h : ScM w base g F S) (hT : Tab w) (h1b : 1 ≤ base) {b x : Int} (hx : in64 x) (hb : 0 ≤ b ∧ b ≤ 255) (ha : S.areas.length ≤ 600000000) {K : Slc → World → Prop}
    (hK : ∀ q F' w', Rd E_uint8 w' q (S.doR (evC b [x])) → ScT base g w F F' (S.doS (evC b [x])) w' → K q w') :
    nw ty_int [(.int .i64 x)] w fun t w3 => c_screen_Screen_Do (some ⟨g, 0, none⟩) (⟨4, 0, b, 0, (⟨#[]⟩ : ByteArray), ⟨(some t), 1, 1⟩, ⟨none, 0, 0⟩⟩ : T_parse_Event) w3 K := by
  refine nw_blk fun w1 hb1 hB1 hs1 => ?_
  have h1 := ScT.of_ext h hB1
  have hn : ¬ scS g F w.heap.size := fun hs => by have := (h.below _ hs).2; omega
  refine Do_spec h1.m (evM_c (ParM.one h1.m hb1 hx hn) hb) (hT.ext hB1) h1b (by show S.areas.length + 1 ≤ _; omega) fun q F2 w2 hq hT2 => hK q F2 w2 hq (h1.trans hT2)
theorem known17_spec (hT : Tab w) {K : Bool → World → Prop} (hK : ∀ w', Below w.heap.size w w' → K true w') : c_phosphorlaw17_known w K := by
  refine call_phosphorlaw17_known ?_
  unfold sh_phosphorlaw17_known
  have h1b := tab_one hT
  refine sNew_spec (fun hbad => absurd (show okC ⟨3, 4, 1, 1, 0, 0⟩ by unfold okC; decide) hbad) fun _ g F w1 hM hB1 => ?_
  have hT1 := hT.ext hB1
  refine joinP_of fun J1 hJ1 => cond_f rfl (cond_f rfl (hJ1 _ _ ?_))
  refine csi1 hM hT1 h1b (by unfold in64; omega) (by omega) (by show (0 : Nat) ≤ _; omega) fun q0 F2 w2 hq0 hT2 => ?_
  refine loopP_rule (fun (st : Int × Unit) w3 => ∃ (k : Nat) (F3 : ScF), st.1 = (k : Int) ∧ k ≤ 5 ∧ ScT w.heap.size g w1 F F3 (kw k) w3) (fun st => 5 - st.1.toNat) ⟨0, F2, rfl, by omega, hT2⟩ ?_
  rintro ⟨i, u⟩ w3 ⟨k, F3, hi, hk, hT3⟩ I hI
  dsimp only at hi ⊢
  subst hi
  have t3 := hT1.step hM h1b hT3
  have har := kw_areas k
  refine cond_of (fun e => ?_) fun e => ?_
  · have e := of_decide_eq_true e
    have ew : IntKind.i32.wrap (IntKind.i64.wrap (97 + (k : Int))) = 97 + (k : Int) := by
      rw [wrap64_id (by omega)]
      obtain ⟨m, hm⟩ : ∃ m : Nat, 97 + (k : Int) = m := ⟨97 + k, by omega⟩
      rw [hm]
      exact wrap_nat .i32 (by show _ < 2 ^ 31; omega)
    rw [ew]
    refine Do_spec hT3.m (evM_p _ _ _ _) t3 h1b (by show _ + 0 ≤ _; omega) fun q F4 w4 hq hT4 => ?_
    rw [wrap64_id (x := (k : Int) + 1) (by omega)]
    exact hI _ _ ⟨k + 1, F4, by simp, by omega, hT3.trans hT4⟩ (by dsimp only; omega)
  · have e := of_decide_eq_false e
    have hk5 : k = 5 := by omega
    subst hk5
    refine csi1 hT3.m t3 h1b (by unfold in64; omega) (by omega) (by omega) fun q F4 w4 hq hT4 => ?_
    rw [kw_reply] at hq
    have h4 := hT3.trans hT4
    have ed : (kw 5).doS (evC 110 [6]) = kw 5 := by kernel_rfl
    rw [ed] at h4 hT4
    refine Grid_spec h4.m fun f5 w5 hg5 hf5 hM5 hB5 => cond_f rfl ?_
    have h5 := h4.ext hB5
    have hGo := h4.m.gOk
    refine gText_spec hg5 hGo.len hGo.rows.2 (fun xs hx => by have := (hGo.L xs hx).2.1; have := hGo.cols.2; omega) fun r w6 hr hB6 => ?_
    have h6 := h5.ext hB6
    have hq6 := (hq.ext hB5).ext hB6
    refine Cursor_spec h6.m fun w7 hB7 => ?_
    have h7 := h6.ext hB7
    refine nw_blk fun w8 hc8 hB8 hs8 => all_of hc8 rfl fun w9 hc9 hcc hs9 => ?_
    have hB89 : Below w7.heap.size w7 w9 := below_one hB8 hcc (Nat.le_refl _)
    have h9 := h7.ext hB89
    have hr9 := (hr.rd.ext hB7).ext hB89
    have hq9 := (hq6.ext hB7).ext hB89
    have etx : (kw 5).g.L.map textS = [strOf [97, 98, 99, 100], strOf [101], strOf []] := by
      have := congrArg (List.map strOf) kw_text
      rw [List.map_map] at this
      exact this
    rw [etx] at hr9
    have hn : r.n = 3 := hr9.n
    refine cond_t (by rw [hn]; rfl) ?_
    have tr : ∀ {K : Prop}, K → K := id
    refine hr9.ix (i := 0) rfl (by decide) (by decide) fun hx => ldStr_of (x := strOf [97, 98, 99, 100]) (by simpa using hx 0 _ rfl) ?_
    refine cond_t (by rw [strOf_toList]; kernel_rfl) ?_
    refine hr9.ix (i := 1) rfl (by decide) (by decide) fun hx => ldStr_of (x := strOf [101]) (by simpa using hx 0 _ rfl) ?_
    refine cond_t (by rw [strOf_toList]; kernel_rfl) ?_
    refine toStr_spec hq9 ?_
    refine cond_t (by rw [strB_toList]; kernel_rfl) ?_
    obtain ⟨c1, c2, c3⟩ := kw_cur
    rw [ed] at c1 c2 c3
    refine ldI_of (x := (kw 5).c.Row) (by rw [add_mk]; exact hc9.cell 0 rfl) ?_
    refine cond_t (by rw [c1]; rfl) ?_
    refine ldI_of (x := (kw 5).c.Col) (by rw [add_mk]; exact hc9.cell 1 rfl) ?_
    refine cond_t (by rw [c2]; rfl) ?_
    refine ldI_of (x := (kw 5).c.A.Fg) (by simp only [add_mk]; exact hc9.cell 3 rfl) ?_
    have e3 : ((kw 5).c.A.Fg == 16777217) = true := by rw [c3]; rfl
    rw [e3]
    refine hK w9 ?_
    exact hB1.trans ((ScT.belowB hM h9).mono (Nat.le_refl _))
end
end Go.Proofs.YtmoafafalnbkpaaGreatDoor

set_option linter.unusedVariables false
namespace Go.Proofs.YtmoafafalnbkpaaGreatDoor
open Go.Vc Go.RowKit
set_option maxRecDepth 400000
section
variable {w w' : World} {base g : Nat} {F F' : ScF} {S S' : Sc} {p : Slc} {ps : List Int}
theorem made_spec {rows cols : Int} {K : Option Addr → World → Prop} (hr : 1 ≤ rows ∧ rows ≤ 1000) (hc : 1 ≤ cols ∧ cols ≤ 1000)
    (hK : ∀ g F w', ScM w' w.heap.size g F (newSc rows.toNat cols.toNat 10) → Below w.heap.size w w' → K (some ⟨g, 0, none⟩) w') : c_phosphorlaw17_made rows cols w K := by
  refine call_phosphorlaw17_made _ _ ?_
  unfold sh_phosphorlaw17_made
  have hok : okC ⟨rows, cols, 1, 1, 10, 0⟩ := ⟨hr, hc, by dsimp only; omega, by dsimp only; omega, by dsimp only; omega, by dsimp only; omega⟩
  exact sNew_spec (fun hbad => absurd hok hbad) fun _ g F w1 hM hB1 => cond_f rfl (hK g F w1 hM hB1)
end
/-! ### ScreenMoves -/
end Go.Proofs.YtmoafafalnbkpaaGreatDoor

set_option linter.unusedVariables false
namespace Go.Proofs.YtmoafafalnbkpaaGreatDoor
open Go.Vc Go.RowKit
set_option maxRecDepth 400000
section
variable {R C : Nat} {wr : Bool} {S : Sc}
end
end Go.Proofs.YtmoafafalnbkpaaGreatDoor

set_option linter.unusedVariables false
namespace Go.Proofs.YtmoafafalnbkpaaGreatDoor
open Go.Vc Go.RowKit
set_option maxRecDepth 400000
section
variable {w w' : World} {base g : Nat} {F F' : ScF} {S S' : Sc}
def wr0 (C : Nat) (wr : Bool) : Sc := if wr then newSc 40 C 10 else (newSc 40 C 10).turn 7 false
end
end Go.Proofs.YtmoafafalnbkpaaGreatDoor

set_option linter.unusedVariables false
namespace Go.Proofs.YtmoafafalnbkpaaGreatDoor
open Go.Vc Go.RowKit
set_option maxRecDepth 400000
def evX (b : Int) : Ev := ⟨2, 0, b, 0, [], []⟩
section
variable {w w' : World} {base g : Nat} {F F' : ScF} {S S' : Sc}
theorem evM_x (w : World) (g : Nat) (F : ScF) {b : Int} (hb : 0 ≤ b ∧ b ≤ 255) : EvM w g F ⟨2, 0, b, 0, ⟨#[]⟩, ⟨none, 0, 0⟩, ⟨none, 0, 0⟩⟩ (evX b) :=
  ⟨rfl, rfl, rfl, rfl, rfl, ParM.nil _ _ _, hb, ⟨Int.le_refl 0, by show (0 : Int) ≤ 255; omega⟩, by show (0 : Nat) ≤ _; omega⟩
end
end Go.Proofs.YtmoafafalnbkpaaGreatDoor

set_option linter.unusedVariables false
namespace Go.Proofs.YtmoafafalnbkpaaGreatDoor
open Go.Vc Go.RowKit
set_option maxRecDepth 400000
def nameB (a : Bool) : Int := if a then 48 else 66
def evS (i : UInt8) (b : Int) : Ev := ⟨3, 0, b, 0, [i], []⟩
def st2 (a b : Bool) : Sc := ((newSc 1 4 10).doS (evS 40 (nameB a))).doS (evS 41 (nameB b))
def st3 (a b sh : Bool) : Sc := if sh then (st2 a b).doS (evX 14) else st2 a b
def st4 (a b sh : Bool) (k : Nat) : Sc := (st3 a b sh).doS (evP (97 + k))
def st5 (a b sh : Bool) (k : Nat) : Sc := (st4 a b sh k).doS (evX 15)
def chkS (a b sh : Bool) (k : Nat) : Bool :=
  (match (st4 a b sh k).g.L[0]? with
  | some (x :: r) => decide (r.length = 3) && ((x.R == 97 + (k : Int)) == !(if sh then b else a)) && (x.R != 0)
  | _ => false) && (decide ((st4 a b sh k).areas.length = 0) && (decide ((st4 a b sh k).g.rows = 1) && ((st5 a b sh k).c.Sets.e0 == nameB a && ((st5 a b sh k).c.Sets.e1 == nameB b && ((st5 a b sh k).c.Shift == 0 && decide ((st5 a b sh k).areas.length = 0))))))
theorem chk_all : ([false, true].all fun a => [false, true].all fun b => [false, true].all fun sh => (List.range 26).all fun k => chkS a b sh k) = true := by kernel_rfl
theorem bool_mem (a : Bool) : a ∈ [false, true] := by cases a <;> simp
theorem chk_of (a b sh : Bool) {k : Nat} (hk : k < 26) : chkS a b sh k = true := by
  have h1 := List.all_eq_true.1 chk_all a (bool_mem a)
  have h2 := List.all_eq_true.1 h1 b (bool_mem b)
  have h3 := List.all_eq_true.1 h2 sh (bool_mem sh)
  exact List.all_eq_true.1 h3 k (List.mem_range.2 hk)
theorem sets_fact (a b sh : Bool) {k : Nat} (hk : k < 26) : (∃ x r, (st4 a b sh k).g.L[0]? = some (x :: r) ∧ r.length = 3 ∧ ((x.R == 97 + (k : Int)) == !(if sh then b else a)) = true ∧ (x.R != 0) = true) ∧
    (st4 a b sh k).areas.length = 0 ∧ (st4 a b sh k).g.rows = 1 ∧ (st5 a b sh k).c.Sets.e0 = nameB a ∧ (st5 a b sh k).c.Sets.e1 = nameB b ∧ (st5 a b sh k).c.Shift = 0 := by
  have h := chk_of a b sh hk
  unfold chkS at h
  simp only [Bool.and_eq_true, decide_eq_true_eq, beq_iff_eq] at h
  obtain ⟨h1, h2, h3, h4, h5, h6, _⟩ := h
  refine ⟨?_, h2, h3, h4, h5, h6⟩
  split at h1
  · next x r e =>
    simp only [Bool.and_eq_true, decide_eq_true_eq] at h1
    exact ⟨x, r, e, h1.1.1, h1.1.2, h1.2⟩
  · cases h1
theorem st2_areas (a b : Bool) : (st2 a b).areas.length = 0 := by cases a <;> cases b <;> kernel_rfl
theorem st1_areas (a : Bool) : ((newSc 1 4 10).doS (evS 40 (nameB a))).areas.length = 0 := by cases a <;> kernel_rfl
theorem st3_areas (a b sh : Bool) : (st3 a b sh).areas.length = 0 := by cases a <;> cases b <;> cases sh <;> kernel_rfl
section
variable {w w' : World} {base g : Nat} {F F' : ScF} {S S' : Sc}
theorem evM_s (w : World) (g : Nat) (F : ScF) {i : UInt8} {b : Int} (hb : 0 ≤ b ∧ b ≤ 255) : EvM w g F ⟨3, 0, b, 0, ⟨#[i]⟩, ⟨none, 0, 0⟩, ⟨none, 0, 0⟩⟩ (evS i b) :=
  ⟨rfl, rfl, rfl, rfl, rfl, ParM.nil _ _ _, hb, ⟨Int.le_refl 0, by show (0 : Int) ≤ 255; omega⟩, by show (1 : Nat) ≤ _; omega⟩
theorem nameB_in (a : Bool) : 0 ≤ nameB a ∧ nameB a ≤ 255 := by cases a <;> decide
theorem sets_law (hT : Tab w) (a b shift : Bool) (c : Int) (hc : 0 ≤ c ∧ c ≤ 255) {K : Bool → World → Prop} (hK : ∀ w', Below w.heap.size w w' → K true w') : c_phosphorlaw17_ScreenSets a b shift c w K := by
  refine call_phosphorlaw17_ScreenSets _ _ _ _ ?_
  unfold sh_phosphorlaw17_ScreenSets
  refine known17_spec hT fun w1 hB1 => cond_f rfl ?_
  have hT1 := hT.ext hB1
  refine made_spec (by omega) (by omega) fun g F w2 hM hB2 => cond_f rfl ?_
  have h1b := tab_one hT1
  obtain ⟨base, hbase⟩ : ∃ base, base = w1.heap.size := ⟨_, rfl⟩
  rw [← hbase] at hM h1b
  have s1 := hB1.size
  have s2 := hB2.size
  have hT2 := hT1.ext hB2
  refine nw_blk fun w3 hn3 hB3 hs3 => ?_
  have B3 : Below w.heap.size w w3 := below_t (below_t hB1 hB2) hB3
  have hM3 := hM.ext hB3
  have hT3 := hT2.ext hB3
  have nS : ∀ {wx : World}, ScM wx base g F (newSc 1 4 10) → ∀ {vs : List Value}, Blk wx w2.heap.size ty_uint8 vs → ∀ k, scS g F k → ¬ k = w2.heap.size := fun _ _ _ k hk e => by
    have := (hM.below k hk).2
    omega
  -- a store into the names
  have store : ∀ {wx : World} {vs us : List Value} {o : Nat} {K : World → Prop}, ScM wx base g F (newSc 1 4 10) → Tab wx → Below w.heap.size w wx → Blk wx w2.heap.size ty_uint8 vs → o + us.length ≤ vs.length →
      (∀ wy, ScM wy base g F (newSc 1 4 10) → Tab wy → Below w.heap.size w wy → Blk wy w2.heap.size ty_uint8 (putL vs o us) → K wy) → stK ⟨w2.heap.size, o, none⟩ us wx K := by
    intro wx vs us o K hMx hTx hBx hbx hl hKx
    refine stK_blk hbx hl fun wy hby hg hs => ?_
    have hch : Chg (fun k => k = w2.heap.size) wx wy := Chg.gg hg
    have hBb : Below base wx wy := hch.below hMx.base_le fun i hi e => by have := hM.base_le; omega
    refine hKx wy (hMx.keep hch (nS hMx hbx) fun k cs hk hcs => ?_) (hTx.below (hBb.mono h1b)) (hBx.trans (hBb.mono (by omega))) hby
    exact Blk.ne_t hbx hcs (by decide) hk.symm
  refine joinP_of fun J1 hJ1 => ?_
  have k1 : ∀ wx, ScM wx base g F (newSc 1 4 10) → Tab wx → Below w.heap.size w wx → Blk wx w2.heap.size ty_uint8 [.int .u8 (nameB a), .int .u8 66] → J1 (()) wx := by
    intro w4 hM4 hT4 B4 hn4
    refine hJ1 _ _ (joinP_of fun J2 hJ2 => ?_)
    have k2 : ∀ wx, ScM wx base g F (newSc 1 4 10) → Tab wx → Below w.heap.size w wx → Blk wx w2.heap.size ty_uint8 [.int .u8 (nameB a), .int .u8 (nameB b)] → J2 (()) wx := by
      intro w5 hM5 hT5 B5 hn5
      have nF : ¬ scS g F w2.heap.size := fun hs => by have := (hM.below _ hs).2; omega
      have hBe : ∀ {wx : World} {Fx : ScF} {Sx : Sc}, ScT base g w5 F Fx Sx wx → Below w.heap.size w wx := fun hx => B5.trans ((ScT.belowB hM5 hx).mono (by omega))
      have nm : ∀ {wx : World} {Fx : ScF} {Sx : Sc}, ScT base g w5 F Fx Sx wx → Blk wx w2.heap.size ty_uint8 [.int .u8 (nameB a), .int .u8 (nameB b)] := fun hx => hn5.chg hx.chg nF
      refine hJ2 _ _ ⟨⟨by decide, by decide⟩, ldI_of (x := nameB a) (hn5.cells 0 _ rfl) ?_⟩
      refine Do_spec hM5 (evM_s _ _ _ (nameB_in a)) hT5 h1b (by show 0 + 0 ≤ _; omega) fun q F6 w6 _ hT6 => ?_
      refine ⟨⟨by decide, by decide⟩, ldI_of (x := nameB b) ((nm hT6).cells 1 _ rfl) ?_⟩
      refine Do_spec hT6.m (evM_s _ _ _ (nameB_in b)) (hT5.step hM5 h1b hT6) h1b (by rw [st1_areas]; show 0 + 0 ≤ _; omega) fun q F7 w7 _ hT7 => ?_
      have h7 : ScT base g w5 F F7 (st2 a b) w7 := hT6.trans hT7
      refine joinP_of fun J3 hJ3 => ?_
      have k3 : ∀ (F8 : ScF) (w8 : World), ScT base g w5 F F8 (st3 a b shift) w8 → J3 (if shift then b else a, ()) w8 := by
        intro F8 w8 h8
        refine hJ3 _ _ ⟨by decide, ?_⟩
        obtain ⟨k, hk, hck⟩ : ∃ k : Nat, k < 26 ∧ c.tmod 26 = k := ⟨(c % 26).toNat, by omega, by rw [Int.tmod_eq_emod_of_nonneg hc.1]; omega⟩
        have ew : IntKind.i32.wrap (IntKind.u8.wrap (97 + c.tmod 26)) = 97 + (k : Int) := by
          rw [hck]
          have e1 : IntKind.u8.wrap (97 + (k : Int)) = 97 + (k : Int) := wrap_nat .u8 (x := 97 + k) (by show _ < 2 ^ 8; omega)
          rw [e1]
          exact wrap_nat .i32 (x := 97 + k) (by show _ < 2 ^ 31; omega)
        rw [ew]
        obtain ⟨⟨x, r, hL, hr, hx1, hx2⟩, ha4, hrows, hs1, hs2, hs3⟩ := sets_fact a b shift hk
        refine Do_spec h8.m (evM_p _ _ _ _) (hT5.step hM5 h1b h8) h1b (by rw [st3_areas]; show 0 + 0 ≤ _; omega) fun q F9 w9 _ hT9 => ?_
        have h9 : ScT base g w5 F F9 (st4 a b shift k) w9 := h8.trans hT9
        refine Grid_spec h9.m fun f10 w10 hg10 hf10 hM10 hB10 => ?_
        have h10 := h9.ext hB10
        have hGo := h10.m.gOk
        refine gLine_spec hg10 hGo.len (fun ys hys => by have := (hGo.L ys hys).2.1; have := hGo.cols.2; omega) (fun s ys w11 _ hys ho hB11 => ?_) fun hbad => absurd ⟨Int.le_refl 0, by rw [hrows]; decide⟩ hbad
        rw [show (0 : Int).toNat = 0 from rfl, hL] at hys
        cases hys
        have h11 := h10.ext hB11
        refine Do_spec h11.m (evM_x _ _ _ (b := 15) (by omega)) (hT5.step hM5 h1b h11) h1b (by rw [ha4]; show 0 + 0 ≤ _; omega) fun q F12 w12 _ hT12 => ?_
        have h12 : ScT base g w5 F F12 (st5 a b shift k) w12 := h11.trans hT12
        have hrd : Rd cellE w12 s (x :: r) := (ho.chg hT12.chg fun k hk hs => by
          have h1 := (ho.lt k hk).1
          have h2 := (h10.m.below k hs).2
          omega).rd
        refine Cursor_spec h12.m fun w13 hB13 => ?_
        refine box_of (vs := T_screen_Cursor.rep.cells (st5 a b shift k).c) rfl fun w15 hu15 hB15 hs15 => ?_
        have h15 := (h12.ext hB13).ext hB15
        have hrd15 := ((hrd.ext hB13).ext hB15).drew
        have hud := hu15.drew
        have hn : s.n = 4 := by rw [ho.rd.n, List.length_cons, hr]
        have hnm := (nm h15).drew
        refine cond_t (by rw [hn]; rfl) ?_
        refine hrd15.ix (i := 0) rfl (by decide) (by simp) fun hx => ldI_of (x := x.R) (by simpa using hx 0 _ rfl) ?_
        refine cond_t hx1 ?_
        refine hrd15.ix (i := 0) rfl (by decide) (by simp) fun hx => ldI_of (x := x.R) (by simpa using hx 0 _ rfl) ?_
        refine cond_t hx2 ?_
        refine ldS_of (r := T_2_uint8.rep) (x := (st5 a b shift k).c.Sets) (fun j v hj => ?_) ?_
        · have hjl : j < 2 := (List.getElem?_eq_some_iff.1 hj).1
          rw [add_mk, add_mk]
          match j, hjl with
          | 0, _ => exact hud.cell 7 hj
          | 1, _ => exact hud.cell 8 hj
        refine ⟨⟨by decide, by decide⟩, ldI_of (x := nameB a) (hnm.cells 0 _ rfl) ⟨⟨by decide, by decide⟩, ldI_of (x := nameB b) (hnm.cells 1 _ rfl) ?_⟩⟩
        rw [hs1, hs2]
        refine cond_t (by simp) ?_
        refine ldI_of (x := (st5 a b shift k).c.Shift) (by rw [add_mk]; exact hud.cell 9 rfl) ?_
        rw [hs3]
        exact hK _ (hBe h15).drew
      cases shift
      · exact cond_f rfl (k3 _ _ h7)
      · refine cond_t rfl ?_
        refine Do_spec h7.m (evM_x _ _ _ (b := 14) (by omega)) (hT5.step hM5 h1b h7) h1b (by rw [st2_areas]; show 0 + 0 ≤ _; omega) fun q F8 w8 _ hT8 => ?_
        exact k3 _ _ (h7.trans hT8)
    cases b
    · exact cond_f rfl (k2 _ hM4 hT4 B4 hn4)
    · exact cond_t rfl ⟨⟨by decide, by decide⟩, store hM4 hT4 B4 hn4 (by simp) fun wy h1 h2 h3 h4 => k2 _ h1 h2 h3 h4⟩
  cases a
  · exact cond_f rfl (k1 _ hM3 hT3 B3 hn3)
  · exact cond_t rfl ⟨⟨by decide, by decide⟩, store hM3 hT3 B3 hn3 (by simp) fun wy h1 h2 h3 h4 => k1 _ h1 h2 h3 h4⟩
end
end Go.Proofs.YtmoafafalnbkpaaGreatDoor

set_option linter.unusedVariables false
namespace Go.Proofs.YtmoafafalnbkpaaGreatDoor
open Go.Vc Go.RowKit
set_option maxRecDepth 400000
section
variable {w w' : World} {base g : Nat} {F F' : ScF} {S S' : Sc} {l : Slc} {xs : List ActT}
theorem in_spec17 {v lo hi : Int} {K : Bool → World → Prop} (hK : K (decide (lo ≤ v ∧ v ≤ hi)) w) : c_phosphorref17_in v lo hi w K := by
  refine call_phosphorref17_in _ _ _ ?_
  unfold sh_phosphorref17_in
  refine cond_of (fun e => ?_) fun e => ?_
  · have e := of_decide_eq_true e
    have : decide (v ≤ hi) = decide (lo ≤ v ∧ v ≤ hi) := decide_eq_decide.2 ⟨fun h => ⟨by omega, h⟩, fun h => h.2⟩
    rw [this]
    exact hK
  · have e := of_decide_eq_false e
    rw [decide_eq_false (fun h => e (by omega))] at hK
    exact hK
theorem refCheck_spec {c : T_api_Config} {K : Int → World → Prop} (h1 : okC c → ∀ w', Below w.heap.size w w' → K 0 w') (h2 : ¬ okC c → ∀ w', Below w.heap.size w w' → K 1 w') : c_phosphorref17_Check c w K := by
  refine call_phosphorref17_Check _ ?_
  unfold sh_phosphorref17_Check
  refine nw_blk fun w1 hb1 hB1 hs1 => ?_
  refine ldI_of (x := c.Rows) (hb1.cells 0 _ rfl) (in_spec17 (cond_of (fun e => h2 (fun hh => by have := hh.1; rw [decide_eq_true this] at e; cases e) w1 hB1) fun e1 => ?_))
  refine ldI_of (x := c.Cols) (hb1.cells 1 _ rfl) (in_spec17 (cond_of (fun e => h2 (fun hh => by have := hh.2.1; rw [decide_eq_true this] at e; cases e) w1 hB1) fun e2 => ?_))
  refine ldI_of (x := c.CellW) (hb1.cells 2 _ rfl) (in_spec17 (cond_of (fun e => h2 (fun hh => by have := hh.2.2.1; rw [decide_eq_true this] at e; cases e) w1 hB1) fun e3 => ?_))
  refine ldI_of (x := c.CellH) (hb1.cells 3 _ rfl) (in_spec17 (cond_of (fun e => h2 (fun hh => by have := hh.2.2.2.1; rw [decide_eq_true this] at e; cases e) w1 hB1) fun e4 => ?_))
  refine ldI_of (x := c.Back) (hb1.cells 4 _ rfl) (in_spec17 (cond_of (fun e => h2 (fun hh => by have := hh.2.2.2.2.1; rw [decide_eq_true this] at e; cases e) w1 hB1) fun e5 => ?_))
  refine ldI_of (x := c.Quota) (hb1.cells 5 _ rfl) (in_spec17 (cond_of (fun e => h2 (fun hh => by have := hh.2.2.2.2.2; rw [decide_eq_true this] at e; cases e) w1 hB1) fun e6 => ?_))
  have nt : ∀ {b : Bool}, (!b) = false → b = true := by intro b; cases b <;> simp
  exact h1 ⟨of_decide_eq_true (nt e1), of_decide_eq_true (nt e2), of_decide_eq_true (nt e3), of_decide_eq_true (nt e4), of_decide_eq_true (nt e5), of_decide_eq_true (nt e6)⟩ w1 hB1
end
end Go.Proofs.YtmoafafalnbkpaaGreatDoor

set_option linter.unusedVariables false
namespace Go.Proofs.YtmoafafalnbkpaaGreatDoor
open Go.Vc Go.RowKit
def sl24E : El Slc where
  cells s := [.slice s.a s.n s.c]
  t := ty_sl_api_Cell
  k := 1
  pos := by decide
  len _ := rfl
  one x v hv := by
    simp only [List.mem_cons, List.mem_nil_iff, or_false] at hv
    rcases hv with rfl
    rfl
noncomputable def slT86 : SlT PG sl24E ty_sl_sl_api_Cell where
  ht := by kernel_rfl
  i := (PG.info? ty_sl_api_Cell).getD default
  hi := by kernel_rfl
  z := .slice none 0 0
  hz := by kernel_rfl
  hs := by kernel_rfl
  hzs := rfl
theorem by86 : slT86.i.bytes = 24 := by kernel_rfl

structure RFoot where
  g : Nat
  ls : Slc
  os : Slc
def refS (f : RFoot) (k : Nat) : Prop := k = f.g ∨ f.ls.blk = some k ∨ f.os.blk = some k
structure RefM (w : World) (base : Nat) (f : RFoot) (S : GS) : Prop where
  blk : Blk w f.g ty_phosphorref16_Grid [.int .i64 S.rows, .int .i64 S.cols, .int .i64 S.most, .slice f.ls.a f.ls.n f.ls.c, .slice f.os.a f.os.n f.os.c, .int .i64 S.top]
  hg : base ≤ f.g
  row : ∃ ls, Go.Vc.Own sl24E w base f.ls ls ∧ Lines w base ls S.L
  old : ∃ ls, Go.Vc.Own sl24E w base f.os ls ∧ Lines w base ls S.old
  ne : ∀ k, f.ls.blk = some k → f.os.blk ≠ some k
structure RFoot.to (f f' : RFoot) (n : Nat) : Prop where
  g : f'.g = f.g
  ls : f'.ls.blk = f.ls.blk ∨ ∀ k, f'.ls.blk = some k → n ≤ k
  os : f'.os.blk = f.os.blk ∨ ∀ k, f'.os.blk = some k → n ≤ k
theorem RFoot.to.old {f f' : RFoot} {n : Nat} (h : f.to f' n) : ∀ k, refS f' k → refS f k ∨ n ≤ k := by
  rintro k (rfl | hk | hk)
  · exact .inl (.inl h.g)
  · rcases h.ls with e | e
    · exact .inl (.inr (.inl (by rw [← e]; exact hk)))
    · exact .inr (e k hk)
  · rcases h.os with e | e
    · exact .inl (.inr (.inr (by rw [← e]; exact hk)))
    · exact .inr (e k hk)
theorem RFoot.to.trans {f f' f'' : RFoot} {n n' : Nat} (h : f.to f' n) (h' : f'.to f'' n') (hn : n ≤ n') : f.to f'' n := by
  refine ⟨h'.g.trans h.g, ?_, ?_⟩
  · rcases h'.ls with e | e
    · rcases h.ls with e' | e'
      · exact .inl (e.trans e')
      · exact .inr fun k hk => e' k (by rw [← e]; exact hk)
    · exact .inr fun k hk => Nat.le_trans hn (e k hk)
  · rcases h'.os with e | e
    · rcases h.os with e' | e'
      · exact .inl (e.trans e')
      · exact .inr fun k hk => e' k (by rw [← e]; exact hk)
    · exact .inr fun k hk => Nat.le_trans hn (e k hk)

section
variable {w w' w1 w2 : World} {base : Nat} {f : RFoot} {S : GS}
theorem RefM.chg {T : Nat → Prop} (h : RefM w base f S) (hc : Chg T w w') (hT : ∀ k, refS f k → ¬ T k) (hC : ∀ k cs, T k → ¬ Blk w k ty_api_Cell cs) : RefM w' base f S := by
  obtain ⟨ls, ho, hl⟩ := h.row
  obtain ⟨os, ho', hl'⟩ := h.old
  exact ⟨h.blk.chg hc (hT _ (.inl rfl)), h.hg, ⟨ls, ho.chg hc fun g hg => hT g (.inr (.inl hg)), hl.chg hc hC⟩, ⟨os, ho'.chg hc fun g hg => hT g (.inr (.inr hg)), hl'.chg hc hC⟩, h.ne⟩
theorem RefM.ext (h : RefM w base f S) (hb : Below w.heap.size w w') : RefM w' base f S :=
  h.chg (Chg.of_ext (S := fun _ => False) hb) (fun _ _ h => h) (fun _ _ h => h.elim)
theorem RefM.drew (h : RefM w base f S) : RefM w.drew base f S := h.ext ((Below.refl _ w).drew)
theorem RefM.below (h : RefM w base f S) : ∀ k, refS f k → base ≤ k ∧ k < w.heap.size := by
  obtain ⟨ls, ho, hl⟩ := h.row
  obtain ⟨os, ho', hl'⟩ := h.old
  rintro k (rfl | hk | hk)
  · exact ⟨h.hg, h.blk.lt⟩
  · exact ho.lt k hk
  · exact ho'.lt k hk
theorem RefM.notC (h : RefM w base f S) : ∀ k cs, refS f k → ¬ Blk w k ty_api_Cell cs := by
  obtain ⟨ls, ho, hl⟩ := h.row
  obtain ⟨os, ho', hl'⟩ := h.old
  rintro k cs (rfl | hk | hk) hc
  · exact hc.ne_t h.blk (by decide) rfl
  · obtain ⟨cs', hcs'⟩ := ho.blk_t hk
    exact hc.ne_t hcs' (by decide) rfl
  · obtain ⟨cs', hcs'⟩ := ho'.blk_t hk
    exact hc.ne_t hcs' (by decide) rfl
theorem RefM.g_ne (h : RefM w base f S) : (∀ k, f.ls.blk = some k → k ≠ f.g) ∧ (∀ k, f.os.blk = some k → k ≠ f.g) := by
  obtain ⟨ls, ho, hl⟩ := h.row
  obtain ⟨os, ho', hl'⟩ := h.old
  refine ⟨fun k hk => ?_, fun k hk => ?_⟩
  · obtain ⟨cs, hcs⟩ := ho.blk_t hk
    exact hcs.ne_t h.blk (by decide)
  · obtain ⟨cs, hcs⟩ := ho'.blk_t hk
    exact hcs.ne_t h.blk (by decide)

/-- The reference's own block is written anew. -/
theorem RefM.mk' {g : Nat} {vs : List Value} {s o : Slc} {ls os : List Slc} {L old : List (List Cell)} {top : Int} {rows cols most : Nat} (h : Blk w1 g ty_phosphorref16_Grid vs) (h0 : base ≤ g) (hrow : Go.Vc.Own sl24E w1 base s ls) (hl : Lines w1 base ls L) (hrow' : Go.Vc.Own sl24E w1 base o os) (hl' : Lines w1 base os old)
    (hne : ∀ k, s.blk = some k → o.blk ≠ some k) (hb : Blk w2 g ty_phosphorref16_Grid [.int .i64 rows, .int .i64 cols, .int .i64 most, .slice s.a s.n s.c, .slice o.a o.n o.c, .int .i64 top]) (hg : w1.grownBy w2 (some g)) :
    RefM w2 base ⟨g, s, o⟩ ⟨rows, cols, most, L, old, top⟩ := by
  have hc : Chg (fun k => k = g) w1 w2 := Chg.gg hg
  have notC : ∀ k cs, k = g → ¬ Blk w1 k ty_api_Cell cs := fun k cs hk hcs => by
    subst hk
    exact hcs.ne_t h (by decide) rfl
  have ap : ∀ {s : Slc} {ls : List Slc}, Go.Vc.Own sl24E w1 base s ls → ∀ k, s.blk = some k → k ≠ g := fun ho k hk => by
    obtain ⟨cs, hcs⟩ := ho.blk_t hk
    exact hcs.ne_t h (by decide)
  exact ⟨hb, h0, ⟨ls, hrow.chg hc (ap hrow), hl.chg hc notC⟩, ⟨os, hrow'.chg hc (ap hrow'), hl'.chg hc notC⟩, hne⟩

theorem rsize_spec {n : Int} {K : Bool → World → Prop} (hk : K (decide (1 ≤ n ∧ n ≤ 1000)) w) : c_phosphorref16_size n w K := by
  refine call_phosphorref16_size _ ?_
  unfold sh_phosphorref16_size
  refine cond_of (fun h => ?_) (fun h => ?_)
  · have h : 1 ≤ n := of_decide_eq_true h
    have : decide (n ≤ 1000) = decide (1 ≤ n ∧ n ≤ 1000) := by simp [h]
    rw [this]; exact hk
  · have h := of_decide_eq_false h
    have : decide (1 ≤ n ∧ n ≤ 1000) = false := by simp; omega
    rw [this] at hk; exact hk

/-- A line more behind the reference's lines. -/
theorem rApp {t : Slc} {xs : List Cell} {K : World → Prop} (h : RefM w base f S) (ht : Go.Vc.Own cellE w base t xs) (hlen : S.L.length ≤ 100000) (hbase : base ≤ w.heap.size)
    (hK : ∀ q w', RefM w' base { f with ls := q } { S with L := S.L ++ [xs] } → f.to { f with ls := q } w.heap.size → Chg (refS f) w w' → K w') :
    nw ty_sl_api_Cell [(.slice t.a t.n t.c)] w fun u w1 => World.cell? w1 ((⟨f.g, 0, none⟩ : Addr).add 3) = some (.slice f.ls.a f.ls.n f.ls.c) ∧ apK PG #[ty_sl_sl_api_Cell, ty_sl_sl_api_Cell] ty_sl_sl_api_Cell f.ls (⟨(some u), 1, 1⟩ : Slc) w1 fun q w2 => stK ((⟨f.g, 0, none⟩ : Addr).add 3) [(.slice q.a q.n q.c)] w2 K := by
  refine nw_blk fun w1 hb1 hB1 hs1 => ?_
  have h1 := h.ext hB1
  refine ⟨h1.blk.cells 3 _ rfl, ?_⟩
  obtain ⟨ls, ho, hl⟩ := h1.row
  obtain ⟨os, ho', hl'⟩ := h1.old
  have hll := hl.1
  have hr1 : Rd sl24E w1 ⟨some ⟨w.heap.size, 0, none⟩, 1, 1⟩ [t] := rd_one (E := sl24E) hb1 rfl
  refine apK_own slT86 ho hr1 (by omega) (by rw [by86]; simp; omega) (by simp [maxLen]; omega) fun q w2 ho2 hg2 hq2 => ?_
  have hc2 : Chg (fun k => f.ls.blk = some k) w1 w2 := Chg.of_grown hg2 fun k hk => hk
  have notC : ∀ k cs, f.ls.blk = some k → ¬ Blk w1 k ty_api_Cell cs := fun k cs hk => h1.notC k cs (.inr (.inl hk))
  obtain ⟨g2, g3⟩ := h1.g_ne
  have hb2 := h1.blk.chg hc2 fun e => g2 _ e rfl
  have ht1 := ht.ext hB1
  have hl2 := (hl.chg hc2 notC).append (Lines.one (ht1.chg hc2 fun g hg hs => by
    obtain ⟨cs, hcs⟩ := ht1.blk_t hg
    exact notC g cs hs hcs))
  have ho2' := ho'.chg hc2 fun k hk hs => h1.ne k hs hk
  have hl2' := hl'.chg hc2 notC
  have hne : ∀ k, q.blk = some k → f.os.blk ≠ some k := fun k hk e => by
    rcases hq2 with e' | e'
    · exact h1.ne k (by rw [← e']; exact hk) e
    · rw [e'] at hk
      cases hk
      have := (ho'.lt _ e).2
      omega
  rw [add_mk]
  refine stK_blk hb2 (by simp) fun w3 hb3 hg3 hs3 => ?_
  refine hK q w3 (RefM.mk' (g := f.g) hb2 h.hg ho2 hl2 ho2' hl2' hne hb3 hg3) ⟨rfl, ?_, .inl rfl⟩ (((Chg.of_ext (S := refS f) hB1).trans hc2 fun i _ hi => .inr (.inl hi)).trans (Chg.gg hg3) fun i _ hi => .inl hi)
  rcases hq2 with e | e
  · exact .inl e
  · exact .inr fun k hk => by
      have hk : q.blk = some k := hk
      rw [e] at hk; cases hk; exact hB1.size

theorem rClear_spec {a : Attr} {K : World → Prop} (h : RefM w base f S) (hrows : S.rows ≤ 100000) (hbase : base ≤ w.heap.size)
    (hK : ∀ f' w', RefM w' base f' { S with L := List.replicate S.rows (newL S.cols a) } → f.to f' w.heap.size → Chg (refS f) w w' → K w') : c_phosphorref16_Grid_Clear (some ⟨f.g, 0, none⟩) a w K := by
  refine call_phosphorref16_Grid_Clear _ _ ?_
  unfold sh_phosphorref16_Grid_Clear
  simp only [onPtr_some]
  refine nw_blk fun w1 hb1 hB1 hs1 => ?_
  have h1 := h.ext hB1
  rw [add_mk]
  refine stK_blk h1.blk (by simp) fun w2 hb2 hg2 hs2 => ?_
  obtain ⟨os, ho', hl'⟩ := h1.old
  have h2 : RefM w2 base ⟨f.g, ⟨none, 0, 0⟩, f.os⟩ { S with L := [] } := RefM.mk' (g := f.g) h1.blk h.hg (Go.Vc.Own.nil _ _ _) (Lines.nil _ _) ho' hl' (fun k hk => by cases hk) hb2 hg2
  have hc2 : Chg (refS f) w w2 := (Chg.of_ext (S := refS f) hB1).trans (Chg.gg hg2) fun i _ hi => .inl hi
  have hfg := (h.below _ (.inl rfl)).2
  have ha2 : Blk w2 w.heap.size ty_api_Attr (T_api_Attr.rep.cells a) := hb1.grown hg2 fun e => by have e := Option.some.inj e; omega
  refine loopP_rule (fun (s : Int × Unit) w3 => ∃ (k : Nat) (f' : RFoot), s.1 = k ∧ k ≤ S.rows ∧ f'.g = f.g ∧ RefM w3 base f' { S with L := List.replicate k (newL S.cols a) } ∧ f.to f' w.heap.size ∧ Chg (refS f) w w3 ∧ Blk w3 w.heap.size ty_api_Attr (T_api_Attr.rep.cells a) ∧ (∀ k, f'.ls.blk = some k → k ≠ w.heap.size))
    (fun s => S.rows - s.1.toNat) ⟨0, ⟨f.g, ⟨none, 0, 0⟩, f.os⟩, rfl, by omega, rfl, h2, ⟨rfl, .inr fun k hk => (by cases hk), .inl rfl⟩, hc2, ha2, fun k hk => by cases hk⟩ ?_
  rintro ⟨i, _⟩ w3 ⟨k, f', rfl, hk, hf'g, h3, hf3, hc3, ha3, hne3⟩ I hI
  dsimp only at *
  rw [← hf'g]
  refine ldI_of (x := (S.rows : Int)) (h3.blk.cells 0 _ rfl) ?_
  refine cond_of (fun hlt => ?_) (fun hge => ?_)
  · have hlt := of_decide_eq_true hlt
    refine ldSl_of (x := f'.ls) (h3.drew.blk.cells 3 _ rfl) ?_
    refine ldI_of (x := (S.cols : Int)) (h3.drew.blk.cells 1 _ rfl) ?_
    refine ldS_of (x := a) ha3.drew.cells ?_
    refine rNew_spec fun t w4 ht hB4 => ?_
    have hB34 : Below w3.heap.size w3 w4 := (Below.refl _ w3).drew.trans hB4
    have h4 := h3.ext hB34
    have hs3 := hc3.size
    have hs34 : w3.heap.size ≤ w4.heap.size := hB34.size
    refine ⟨h4.blk.cells 3 _ rfl, ?_⟩
    refine rApp h4 (ht.base (by show base ≤ w3.heap.size; omega)) (by simp; omega) (by omega) fun q w5 h5 hf5 hc5 => ?_
    rw [wrap64_id (by omega)]
    have hold := hf3.old
    refine hI _ _ ⟨k + 1, { f' with ls := q }, by simp, by omega, hf'g, by rw [List.replicate_succ']; exact h5, hf3.trans hf5 (by omega), ?_, ?_, ?_⟩ (by simp; omega)
    · refine (hc3.trans (Chg.of_ext (S := refS f) hB34) fun i _ hi => hi).trans hc5 fun i hi hs => ?_
      rcases hold i hs with e | e
      · exact e
      · omega
    · refine (ha3.ext hB34).chg hc5 fun hs => ?_
      rcases hs with e | e | e
      · rw [hf'g] at e; omega
      · exact hne3 _ e rfl
      · rcases hold _ (.inr (.inr e)) with e' | e'
        · have := (h.below _ e').2; omega
        · obtain ⟨cs', hcs'⟩ := (h4.old.choose_spec).1.blk_t e
          exact (ha3.ext hB34).ne_t hcs' (by decide) rfl
    · intro j hj
      have hj : q.blk = some j := hj
      rcases hf5.ls with e | e
      · rw [e] at hj; exact hne3 j hj
      · have := e j hj
        have := ha3.lt
        omega
  · have hge := of_decide_eq_false hge
    have : k = S.rows := by omega
    subst this
    exact hK f' w3 h3 hf3 hc3

end
theorem rNewG_spec {rows cols back : Int} {w : World} {K : Option Addr → Int → World → Prop} (hK1 : badGrid rows cols back → K none 1 w)
    (hK2 : ¬ badGrid rows cols back → ∀ f w', RefM w' w.heap.size f (gs0 rows.toNat cols.toNat back.toNat) → Below w.heap.size w w' → K (some ⟨f.g, 0, none⟩) 0 w') : c_phosphorref16_New rows cols back w K := by
  refine call_phosphorref16_New _ _ _ ?_
  unfold sh_phosphorref16_New
  refine joinP_of fun J hJ => ?_
  refine rsize_spec ?_
  by_cases h1 : 1 ≤ rows ∧ rows ≤ 1000
  rotate_left
  · rw [decide_eq_false h1]
    exact cond_t rfl (hK1 (.inl h1))
  rw [decide_eq_true h1]
  refine cond_f rfl (rsize_spec ?_)
  by_cases h2 : 1 ≤ cols ∧ cols ≤ 1000
  rotate_left
  · rw [decide_eq_false h2]
    exact cond_t rfl (hK1 (.inr (.inl h2)))
  rw [decide_eq_true h2]
  refine cond_f rfl ?_
  refine cond_of (fun h3 => hK1 (.inr (.inr (.inl (of_decide_eq_true h3))))) (fun h3 => ?_)
  refine cond_of (fun h4 => hK1 (.inr (.inr (.inr (of_decide_eq_true h4))))) (fun h4 => ?_)
  have h3 := of_decide_eq_false h3
  have h4 := of_decide_eq_false h4
  have hgood : ¬ badGrid rows cols back := by unfold badGrid; omega
  refine hJ _ _ ?_
  refine nw_blk fun w2 hb2 hB2 hs2 => ?_
  have hg2 : RefM w2 w.heap.size ⟨w.heap.size, ⟨none, 0, 0⟩, ⟨none, 0, 0⟩⟩ ⟨rows.toNat, cols.toNat, back.toNat, [], [], 0⟩ := by
    refine ⟨?_, Nat.le_refl _, ⟨[], Go.Vc.Own.nil _ _ _, Lines.nil _ _⟩, ⟨[], Go.Vc.Own.nil _ _ _, Lines.nil _ _⟩, fun k hk => by cases hk⟩
    show Blk w2 w.heap.size ty_phosphorref16_Grid [.int .i64 ((rows.toNat : Nat) : Int), .int .i64 ((cols.toNat : Nat) : Int), .int .i64 ((back.toNat : Nat) : Int), _, _, _]
    rw [show ((rows.toNat : Nat) : Int) = rows by omega, show ((cols.toNat : Nat) : Int) = cols by omega, show ((back.toNat : Nat) : Int) = back by omega]
    exact hb2
  refine rClear_spec (f := ⟨w.heap.size, ⟨none, 0, 0⟩, ⟨none, 0, 0⟩⟩) hg2 (by show rows.toNat ≤ 100000; omega) hB2.size fun f' w3 hg3 hf hc => ?_
  have hg' : f'.g = w.heap.size := hf.g
  have key := hK2 hgood f' w3 hg3 (hB2.trans (hc.below hB2.size fun i hi hs => by have := (hg2.below i hs).1; omega))
  rw [hg'] at key
  exact key

end Go.Proofs.YtmoafafalnbkpaaGreatDoor

set_option linter.unusedVariables false
namespace Go.Proofs.YtmoafafalnbkpaaGreatDoor
open Go.Vc Go.RowKit
set_option maxRecDepth 100000
theorem keysF_snoc : ∀ (X : List Bool) (i : Int) (b : Bool), keysF i (X ++ [b]) = keysF i X ++ (if b then [(i + X.length, ())] else [])
  | [], i, b => by cases b <;> simp [keysF]
  | x :: X, i, b => by
    have ih := keysF_snoc X (i + 1) b
    have e : i + 1 + (X.length : Int) = i + ((X.length + 1 : Nat) : Int) := by omega
    rw [List.cons_append, keysF, keysF, ih, e, List.length_cons]
    cases x <;> simp
/-- The document's stops at g, with their row q. -/
structure RefT (w : World) (base g : Nat) (q : Slc) (B : List Bool) : Prop where
  blk : Blk w g ty_phosphorref15_Stops [.slice q.a q.n q.c]
  own : Go.Vc.Own E_bool w base q B
section
variable {w w' : World} {base g : Nat} {q : Slc} {B : List Bool}
theorem RefT.ne (h : RefT w base g q B) : ∀ k, q.blk = some k → k ≠ g := own_ne_blk h.own h.blk (by decide)
theorem RefT.keep {Sx : Nat → Prop} (h : RefT w base g q B) (hc : Chg Sx w w') (hg : ¬ Sx g) (hq : ∀ k, q.blk = some k → ¬ Sx k) : RefT w' base g q B := ⟨h.blk.chg hc hg, h.own.chg hc hq⟩
theorem RefT.ext (h : RefT w base g q B) (hb : Below w.heap.size w w') : RefT w' base g q B := ⟨h.blk.ext hb, h.own.ext hb⟩
theorem RefT.ld (h : RefT w base g q B) : w.cell? ((⟨g, 0, none⟩ : Addr).add 0) = some (.slice q.a q.n q.c) := h.blk.cells 0 _ rfl
theorem RefT.at_ (h : RefT w base g q B) {i : Nat} {b : Bool} (hb : B[i]? = some b) : w.cell? (q.at_ E_bool.k i) = some (.bool b) := by
  have := h.own.rd.at_ i b hb 0 (.bool b) rfl
  simpa using this
theorem rNewT_spec (cols : Int) {w : World} {base : Nat} (hbase : base ≤ w.heap.size) {K : Option Addr → Int → World → Prop} (hE : (cols < 1 ∨ 1000 < cols) → K none 1 w)
    (hK : ∀ q w', 1 ≤ cols → cols ≤ 1000 → RefT w' w.heap.size w.heap.size q (resz [] cols.toNat) → Below w.heap.size w w' → K (some ⟨w.heap.size, 0, none⟩) 0 w') : c_phosphorref15_New cols w K := by
  refine call_phosphorref15_New _ ?_
  unfold sh_phosphorref15_New
  refine joinP_of fun J hJ => ?_
  refine cond_of (fun h1 => hE (.inl (of_decide_eq_true h1))) fun h1 => ?_
  refine cond_of (fun h2 => hE (.inr (of_decide_eq_true h2))) fun h2 => ?_
  have h1 := of_decide_eq_false h1
  have h2 := of_decide_eq_false h2
  obtain ⟨n, rfl⟩ : ∃ n : Nat, cols = n := ⟨cols.toNat, by omega⟩
  rw [Int.toNat_natCast] at hK
  refine hJ _ _ ?_
  refine nw_blk fun w1 hb1 hB1 hs1 => ?_
  refine loopP_rule (fun (s : Int × Unit) w2 => ∃ m : Nat, s.1 = m ∧ m ≤ n ∧ (∃ q, RefT w2 w.heap.size w.heap.size q (resz [] m)) ∧ Below w.heap.size w w2 ∧ w1.heap.size ≤ w2.heap.size)
    (fun s => n - s.1.toNat) ⟨0, rfl, Nat.zero_le _, ⟨⟨none, 0, 0⟩, hb1, Go.Vc.Own.nil _ _ _⟩, hB1, Nat.le_refl _⟩ ?_
  rintro ⟨i, u⟩ w2 ⟨m, hi, hm, ⟨q, hR⟩, hB2, hsz⟩ I hI
  dsimp only at hi ⊢
  subst hi
  have hg := hR.blk.lt
  have hsnoc : ∀ b : Bool, b = dflt m → (nw ty_bool [(.bool b)] w2 fun t31 w4 => apK PG #[ty_sl_bool, ty_sl_bool] ty_sl_bool q (⟨(some t31), 1, 1⟩ : Slc) w4 fun t32 w5 =>
            stK ((⟨w.heap.size, 0, none⟩ : Addr).add 0) [(.slice t32.a t32.n t32.c)] w5 fun w6 => I ((IntKind.i64.wrap ((m : Int) + (1 : Int))), ()) w6) ∨ ¬ m < n := by
    intro b hb
    by_cases hlt : m < n
    · left
      subst hb
      refine snoc_own (E := E_bool) sT_sl_bool hR.own rfl (by omega) (by rw [by_sl_bool, resz_length]; omega) (by rw [resz_length]; unfold maxLen; omega) fun r w5 ho hc hr => ?_
      have hbl := hR.blk.chg hc fun e => hR.ne _ e rfl
      rw [add_zero]
      refine stK_blk hbl (by simp) fun w6 hb6 hg6 hs6 => ?_
      rw [i64_in (by omega)]
      have ho6 := ho.chg (Chg.gg hg6) fun k hk e => own_ne_blk ho hbl (by decide) k hk e
      have e : resz [] m ++ [dflt m] = resz [] (m + 1) := by unfold resz; rw [List.range_succ, List.map_append]; rfl
      rw [e] at ho6
      refine hI _ _ ⟨m + 1, by simp, by omega, ⟨r, hb6, ho6⟩, ?_, ?_⟩ (by simp; omega)
      · exact (hB2.trans ((hc.below hB2.size fun i hi e => by have := (hR.own.lt i e).1; omega))).grown hg6 (by have := hc.size; omega) fun k hk => by cases hk; exact Nat.le_refl _
      · have := hc.size
        omega
    · exact .inr hlt
  by_cases hlt : m < n
  · refine cond_t (by simp; omega) ?_
    refine ldSl_of (x := q) hR.ld ?_
    refine cond_of (fun hp => ⟨by decide, ?_⟩) fun hp => ?_
    · have hp : (0 : Int) < m := of_decide_eq_true hp
      refine (hsnoc ((m : Int).tmod 8 == 0) (dflt_eq (by omega))).resolve_right (by omega)
    · have hp : ¬ (0 : Int) < m := of_decide_eq_false hp
      obtain rfl : m = 0 := by omega
      refine (hsnoc false rfl).resolve_right (by omega)
  · refine cond_f (by simp; omega) ?_
    obtain rfl : m = n := by omega
    exact hK q w2 (by omega) (by omega) hR hB2
theorem rAllT_spec (h : RefT w base g q B) (hl : B.length ≤ 1000) {K : Slc → World → Prop}
    (hK : ∀ r w', Go.Vc.Own E_int w' w.heap.size r (keysI B) → Below w.heap.size w w' → K r w') : c_phosphorref15_Stops_All (some ⟨g, 0, none⟩) w K := by
  refine call_phosphorref15_Stops_All _ ?_
  unfold sh_phosphorref15_Stops_All
  have hqn := h.own.rd.n
  refine loopP_rule (fun (s : Slc × Int × Unit) w2 => ∃ m : Nat, s.2.1 = m ∧ m ≤ B.length ∧ Go.Vc.Own E_int w2 w.heap.size s.1 (keysI (B.take m)) ∧ Below w.heap.size w w2)
    (fun s => B.length - s.2.1.toNat) ⟨0, rfl, Nat.zero_le _, by simpa [keysI, keysB, keysF] using Go.Vc.Own.nil E_int w w.heap.size, Below.refl _ _⟩ ?_
  rintro ⟨r, i, u⟩ w2 ⟨m, hi, hm, ho, hB2⟩ I hI
  dsimp only at hi ho ⊢
  subst hi
  have h2 := h.ext hB2
  refine onPtr_a (ldSl_of (x := q) h2.ld ?_)
  by_cases hlt : m < B.length
  · refine cond_t (by simp; omega) (onPtr_a (ldSl_of (x := q) h2.ld ?_))
    refine ixK_at (h2.own.rd.some_ (by omega)) (by omega) (by omega) ?_
    rw [Int.toNat_natCast]
    refine ldB_of (x := B[m]) (h2.at_ (by simp [hlt])) ?_
    have htk : B.take (m + 1) = B.take m ++ [B[m]] := by rw [List.take_succ_eq_append_getElem hlt]
    have hkl := keys_le (B.take m)
    have hle : (B.take m).length = m := by simp; omega
    have hlen : (keysI (B.take m)).length ≤ 1000 := by unfold keysI; rw [List.length_map]; omega
    rw [i64_in (by omega)]
    refine cond_of (fun hb => ?_) fun hb => ?_
    · refine snoc_own (E := E_int) sT_sl_int ho rfl hB2.size (by rw [by_sl_int]; omega) (by unfold maxLen; omega) fun r' w3 ho3 hc3 hr3 => ?_
      refine hI _ _ ⟨m + 1, by simp, by omega, ?_, hB2.trans (hc3.below hB2.size fun i hi e => by have := (ho.lt i e).1; omega)⟩ (by simp; omega)
      have e : keysI (B.take (m + 1)) = keysI (B.take m) ++ [(m : Int)] := by
        unfold keysI keysB
        rw [htk, keysF_snoc, hb, hle]
        simp
      rw [e]
      exact ho3
    · refine hI _ _ ⟨m + 1, by simp, by omega, ?_, hB2⟩ (by simp; omega)
      have e : keysI (B.take (m + 1)) = keysI (B.take m) := by
        unfold keysI keysB
        rw [htk, keysF_snoc, hb]
        simp
      rw [e]
      exact ho
  · refine cond_f (by simp; omega) ?_
    rw [List.take_of_length_le (by omega)] at ho
    exact hK _ _ ho hB2
end
end Go.Proofs.YtmoafafalnbkpaaGreatDoor

set_option linter.unusedVariables false
namespace Go.Proofs.YtmoafafalnbkpaaGreatDoor
open Go.Vc Go.RowKit
set_option maxRecDepth 400000
/-- The cells of the document's new screen. -/
def rsC (p0 p1 pt : Option Addr) (pb : Nat) (R : Int) : List Value := [(.pointer p0), (.pointer p1), (.int .i64 0), (.int .i64 0), (.int .i64 0), (.bool false), (.int .i64 0), (.int .i64 0), (.int .i64 0), (.bool false), (.int .u8 66), (.int .u8 66), (.int .i64 0), (.int .i64 0), (.int .i64 0), (.bool false), (.int .i64 0), (.int .i64 0), (.int .i64 0), (.bool false), (.int .u8 0), (.int .u8 0), (.int .i64 0), (.int .i64 0), (.int .i64 0), (.bool false), (.int .i64 0), (.int .i64 0), (.int .i64 0), (.bool false), (.int .u8 0), (.int .u8 0), (.int .i64 0), (.bool false), (.bool false), (.bool false), (.bool false), (.slice (some ⟨pb, 0, none⟩) 2 2), (.int .i64 0), (.int .i64 R), (.pointer pt), (.int .i64 (-1)), (.slice none 0 0)]
structure RS (w : World) (s : Nat) (f0 f1 : RFoot) (tg : Nat) (tq : Slc) (pb : Nat) (c : T_api_Config) : Prop where
  blk : Blk w s ty_phosphorref17_Screen (rsC (some ⟨f0.g, 0, none⟩) (some ⟨f1.g, 0, none⟩) (some ⟨tg, 0, none⟩) pb c.Rows)
  g0 : ∃ b, RefM w b f0 (gs0 c.Rows.toNat c.Cols.toNat c.Back.toNat)
  g1 : ∃ b, RefM w b f1 (gs0 c.Rows.toNat c.Cols.toNat 0)
  t : ∃ b, RefT w b tg tq (resz [] c.Cols.toNat)
  p : Blk w pb ty_int [.int .i64 7, .int .i64 25]
section
variable {w w' : World} {base g : Nat} {F F' : ScF} {S S' : Sc} {c : T_api_Config}
theorem RS.ext {s tg pb : Nat} {f0 f1 : RFoot} {tq : Slc} (h : RS w s f0 f1 tg tq pb c) (hB : Below w.heap.size w w') : RS w' s f0 f1 tg tq pb c := by
  obtain ⟨b0, h0⟩ := h.g0
  obtain ⟨b1, h1⟩ := h.g1
  obtain ⟨b2, h2⟩ := h.t
  exact ⟨h.blk.ext hB, ⟨b0, h0.ext hB⟩, ⟨b1, h1.ext hB⟩, ⟨b2, h2.ext hB⟩, h.p.ext hB⟩
theorem RS.drew {s tg pb : Nat} {f0 f1 : RFoot} {tq : Slc} (h : RS w s f0 f1 tg tq pb c) : RS w.drew s f0 f1 tg tq pb c := h.ext (below_drew w)
theorem rfirst_spec {K : Cur → World → Prop} (hK : ∀ w', Below w.heap.size w w' → K first0 w') : c_phosphorref17_first w K := by
  refine call_phosphorref17_first ?_
  unfold sh_phosphorref17_first
  refine nw_blk fun w1 hb1 hB1 hs1 => ?_
  refine all_of hb1 rfl fun w2 hb2 hc2 hs2 => ?_
  refine ldS_of (r := T_screen_Cursor.rep) (x := first0) hb2.cells ?_
  exact hK w2 (below_one hB1 hc2 (Nat.le_refl _))
theorem rTail {s pb c1 : Nat} (hok : okC c) (hc : Blk w c1 ty_api_Config (T_api_Config.rep.cells c)) (hb : Blk w s ty_phosphorref17_Screen (rsC none none none pb c.Rows)) (hp : Blk w pb ty_int [.int .i64 7, .int .i64 25]) (hs : base ≤ s)
    {K : Option Addr → Int → World → Prop} (hK : ∀ f0 f1 tg tq w', RS w' s f0 f1 tg tq pb c → Below base w w' → K (some ⟨s, 0, none⟩) 0 w') :
    ldI .i64 ((⟨c1, 0, none⟩ : Addr).add 0) w.drew fun t17 =>
        ldI .i64 ((⟨c1, 0, none⟩ : Addr).add 1) w.drew fun t19 =>
        ldI .i64 ((⟨c1, 0, none⟩ : Addr).add 4) w.drew fun t21 =>
        c_phosphorref16_New t17 t19 t21 w.drew fun t22 t22_1 w6 =>
        ixA ((⟨s, 0, none⟩ : Addr).add 0) 2 0 1 fun t27 =>
        stK t27 [(.pointer t22)] w6 fun w7 =>
        ldI .i64 ((⟨c1, 0, none⟩ : Addr).add 0) w7.drew fun t31 =>
        ldI .i64 ((⟨c1, 0, none⟩ : Addr).add 1) w7.drew fun t33 =>
        c_phosphorref16_New t31 t33 0 w7.drew fun t34 t34_1 w8 =>
        ixA ((⟨s, 0, none⟩ : Addr).add 0) 2 1 1 fun t39 =>
        stK t39 [(.pointer t34)] w8 fun w9 =>
        ldI .i64 ((⟨c1, 0, none⟩ : Addr).add 1) w9 fun t43 =>
        c_phosphorref15_New t43 w9 fun t44 t44_1 w10 =>
        stK ((⟨s, 0, none⟩ : Addr).add 40) [(.pointer t44)] w10 fun w11 =>
        K (some ⟨s, 0, none⟩) 0 w11 := by
  obtain ⟨o1, o2, o3, o4, o5, o6⟩ := hok
  have ncs : c1 ≠ s := hc.ne_t hb (by decide)
  have nps : pb ≠ s := hp.ne_t hb (by decide)
  have hgood : ¬ badGrid c.Rows c.Cols c.Back := by unfold badGrid; omega
  have hgood0 : ¬ badGrid c.Rows c.Cols 0 := by unfold badGrid; omega
  refine ldI_of (x := c.Rows) (hc.drew.cells 0 _ rfl) (ldI_of (x := c.Cols) (hc.drew.cells 1 _ rfl) (ldI_of (x := c.Back) (hc.drew.cells 4 _ rfl) ?_))
  refine rNewG_spec (fun hbad => absurd hbad hgood) fun _ f0 w6 hR0 hB6 => ⟨⟨by decide, by decide⟩, ?_⟩
  have B6 : Below w.heap.size w w6 := below_t (below_drew w) hB6
  have hsl := hb.lt
  have bm : base ≤ w.heap.size := by omega
  have hb6 := hb.ext B6
  show stK ⟨s, 0, none⟩ _ _ _
  refine stK_blk hb6 (by show (0 + 1 : Nat) ≤ 43; omega) fun w7 hb7 hg7 hs7 => ?_
  have hc7' : Chg (fun i => i = s) w6 w7 := Chg.of_grown hg7 fun k hk => by cases hk; rfl
  have hR7 : RefM w7 w.heap.size f0 (gs0 c.Rows.toNat c.Cols.toNat c.Back.toNat) := RefM.chg (w := w6) hR0 hc7' (fun k hk e => by have := (hR0.below k hk).1; have e2 : w.drew.heap.size = w.heap.size := rfl; omega) fun k cs e hcs => by
    subst e
    exact hb6.ne_t hcs (by decide) rfl
  have hb7 : Blk w7 s ty_phosphorref17_Screen (rsC (some ⟨f0.g, 0, none⟩) none none pb c.Rows) := hb7
  have hc7 := (hc.ext B6).chg hc7' ncs
  have hp7 := (hp.ext B6).chg hc7' nps
  have B7 : Below base w w7 := (B6.mono bm).trans (hc7'.below (by have := B6.size; omega) fun i hi e => by omega)
  refine ldI_of (x := c.Rows) (hc7.drew.cells 0 _ rfl) (ldI_of (x := c.Cols) (hc7.drew.cells 1 _ rfl) ?_)
  refine rNewG_spec (fun hbad => absurd hbad hgood0) fun _ f1 w8 hR1 hB8 => ⟨⟨by decide, by decide⟩, ?_⟩
  have B8 : Below w7.heap.size w7 w8 := below_t (below_drew w7) hB8
  have hb8 := hb7.ext B8
  have hR8 := hR7.ext B8
  have sz7 := hb7.lt
  show stK ⟨s, 1, none⟩ _ _ _
  refine stK_blk hb8 (by show (1 + 1 : Nat) ≤ 43; omega) fun w9 hb9 hg9 hs9 => ?_
  have hc9' : Chg (fun i => i = s) w8 w9 := Chg.of_grown hg9 fun k hk => by cases hk; rfl
  have hno8 : ∀ (k : Nat) cs, k = s → ¬ Blk w8 k ty_api_Cell cs := fun k cs e hcs => by
    subst e
    exact hb8.ne_t hcs (by decide) rfl
  have hR9 := RefM.chg (w := w8) hR8 hc9' (fun k hk e => by have := (hR8.below k hk).1; omega) hno8
  have hR19 := RefM.chg (w := w8) hR1 hc9' (fun k hk e => by have := (hR1.below k hk).1; have e2 : w7.drew.heap.size = w7.heap.size := rfl; omega) hno8
  have hb9 : Blk w9 s ty_phosphorref17_Screen (rsC (some ⟨f0.g, 0, none⟩) (some ⟨f1.g, 0, none⟩) none pb c.Rows) := hb9
  have hc9 := (hc7.ext B8).chg hc9' ncs
  have hp9 := (hp7.ext B8).chg hc9' nps
  have bm7 : base ≤ w7.heap.size := by omega
  have B9 : Below base w w9 := (B7.trans (B8.mono bm7)).trans (hc9'.below (by have := B8.size; omega) fun i hi e => by omega)
  refine ldI_of (x := c.Cols) (hc9.cells 1 _ rfl) ?_
  refine rNewT_spec c.Cols (Nat.le_refl w9.heap.size) (fun hbad => by omega) fun tq w10 _ _ hT10 hB10 => ?_
  have hb10 := hb9.ext hB10
  have sz9 := hb9.lt
  show stK ⟨s, 40, none⟩ _ _ _
  refine stK_blk hb10 (by show (40 + 1 : Nat) ≤ 43; omega) fun w11 hb11 hg11 hs11 => ?_
  have hc11' : Chg (fun i => i = s) w10 w11 := Chg.of_grown hg11 fun k hk => by cases hk; rfl
  have hno10 : ∀ (k : Nat) cs, k = s → ¬ Blk w10 k ty_api_Cell cs := fun k cs e hcs => by
    subst e
    exact hb10.ne_t hcs (by decide) rfl
  have hR0' := hR9.ext hB10
  have hR1' := hR19.ext hB10
  have r0 := RefM.chg (w := w10) hR0' hc11' (fun k hk e => by have := (hR0'.below k hk).1; omega) hno10
  have r1 := RefM.chg (w := w10) hR1' hc11' (fun k hk e => by have := (hR1'.below k hk).1; have e2 : w7.drew.heap.size = w7.heap.size := rfl; omega) hno10
  have t1 := hT10.keep hc11' (fun e => by omega) fun k hk e => by have := (hT10.own.lt k hk).1; omega
  refine hK f0 f1 w9.heap.size tq w11 ⟨hb11, ⟨_, r0⟩, ⟨_, r1⟩, ⟨_, t1⟩, (hp9.ext hB10).chg hc11' nps⟩ ?_
  exact (B9.trans (hB10.mono (by omega))).trans (hc11'.below (by have := hB10.size; omega) fun i hi e => by omega)
theorem rNew17_spec (hok : okC c) {K : Option Addr → Int → World → Prop} (hK : ∀ s f0 f1 tg tq pb w', RS w' s f0 f1 tg tq pb c → Below w.heap.size w w' → K (some ⟨s, 0, none⟩) 0 w') : c_phosphorref17_New c w K := by
  refine call_phosphorref17_New _ ?_
  unfold sh_phosphorref17_New
  refine nw_blk fun w1 hc1 hB1 hs1 => ?_
  refine ldS_of (r := T_api_Config.rep) (x := c) hc1.cells ?_
  refine refCheck_spec (fun _ w2 hB2 => cond_f rfl ?_) fun hbad => absurd hok hbad
  have hc2 := (hc1.ext hB2).drew
  have B2 : Below w.heap.size w w2.drew := (below_t hB1 hB2).drew
  have z2 := B2.size
  refine ldI_of (x := c.Rows) (hc2.cells 0 _ rfl) ⟨?_, ?_⟩
  · refine rfirst_spec fun w3 hB3 => ⟨(hc2.ext hB3).cells 0 _ rfl, ?_⟩
    have hc3 := hc2.ext hB3
    have B3 := below_t B2 hB3
    refine nw_blk fun w4 hp4 hB4 hs4 => ⟨(hc3.ext hB4).cells 0 _ rfl, ?_⟩
    have hc4 := hc3.ext hB4
    have B4 := below_t B3 hB4
    have z3 := B3.size
    have z4 := B4.size
    refine nw_blk fun w5 hb5 hB5 hs5 => ?_
    have hc5 := hc4.ext hB5
    have B5 := below_t B4 hB5
    refine rTail (base := w.heap.size) hok hc5 hb5 (hp4.ext hB5) z4 fun f0 f1 tg tq w6 hR hB => ?_
    exact hK _ _ _ _ _ _ _ hR (B5.trans hB)
  · refine nw_blk fun w3 hp3 hB3 hs3 => ⟨(hc2.ext hB3).cells 0 _ rfl, ?_⟩
    have hc3 := hc2.ext hB3
    have B3 := below_t B2 hB3
    refine rfirst_spec fun w4 hB4 => ⟨(hc3.ext hB4).cells 0 _ rfl, ?_⟩
    have hc4 := hc3.ext hB4
    have B4 := below_t B3 hB4
    have z3 := B3.size
    have z4 := B4.size
    refine nw_blk fun w5 hb5 hB5 hs5 => ?_
    have hc5 := hc4.ext hB5
    have B5 := below_t B4 hB5
    refine rTail (base := w.heap.size) hok hc5 hb5 ((hp3.ext hB4).ext hB5) z4 fun f0 f1 tg tq w6 hR hB => ?_
    exact hK _ _ _ _ _ _ _ hR (B5.trans hB)
end
end Go.Proofs.YtmoafafalnbkpaaGreatDoor

set_option linter.unusedVariables false
namespace Go.Proofs.YtmoafafalnbkpaaGreatDoor
open Go.Vc Go.RowKit
set_option maxRecDepth 400000
def rmP (n : Int) (priv : Bool) : Bool × Bool :=
  if priv = false then (false, decide (n = 4 ∨ n = 20))
  else if n = 6 then (false, true)
  else if n = 47 ∨ n = 1047 ∨ n = 1049 then (false, true)
  else if n = 1 ∨ n = 7 ∨ n = 25 ∨ n = 1000 ∨ n = 2004 then (decide (n = 7 ∨ n = 25), true)
  else (false, false)
def modesL : List Int := [1, 4, 6, 7, 20, 25, 47, 1000, 1047, 1049, 2004, 5]
theorem modes_same (R C B : Nat) : ∀ n ∈ modesL, ∀ p : Bool, (newSc R C B).modeP n p = rmP n p := by
  intro n hn p
  simp only [modesL, List.mem_cons, List.mem_nil_iff, or_false] at hn
  rcases hn with rfl | rfl | rfl | rfl | rfl | rfl | rfl | rfl | rfl | rfl | rfl | rfl <;> cases p <;> kernel_rfl
section
variable {w w' : World} {base g : Nat} {F F' : ScF} {S S' : Sc} {c : T_api_Config} {s tg pb : Nat} {f0 f1 : RFoot} {tq : Slc}
theorem cursor_eq (a : Cur) {K : Bool → World → Prop} (hK : ∀ w', Below w.heap.size w w' → K true w') : c_phosphorlaw17_cursor a a w K := by
  refine call_phosphorlaw17_cursor _ _ ?_
  unfold sh_phosphorlaw17_cursor
  refine nw_blk fun w1 ha1 hB1 hs1 => ?_
  refine nw_blk fun w2 hb hB2 hs2 => ?_
  have ha := ha1.ext hB2
  refine ldI_of (x := a.Row) (ha.cells 0 _ rfl) (ldI_of (x := a.Row) (hb.cells 0 _ rfl) (cond_t (beq_self_eq_true _) ?_))
  refine ldI_of (x := a.Col) (ha.cells 1 _ rfl) (ldI_of (x := a.Col) (hb.cells 1 _ rfl) (cond_t (beq_self_eq_true _) ?_))
  refine ldB_of (x := a.Wrap) (ha.cells 2 _ rfl) (ldB_of (x := a.Wrap) (hb.cells 2 _ rfl) (cond_t (beq_self_eq_true _) ?_))
  refine ldS_of (r := T_api_Attr.rep) (x := a.A) (ha.sub 3 _ rfl) (ldS_of (r := T_api_Attr.rep) (x := a.A) (hb.sub 3 _ rfl) (cond_t (by simp) ?_))
  refine ldB_of (x := a.Origin) (ha.cells 6 _ rfl) (ldB_of (x := a.Origin) (hb.cells 6 _ rfl) (cond_t (beq_self_eq_true _) ?_))
  refine ldS_of (r := T_2_uint8.rep) (x := a.Sets) (ha.sub 7 _ rfl) (ldS_of (r := T_2_uint8.rep) (x := a.Sets) (hb.sub 7 _ rfl) (cond_t (by simp) ?_))
  refine ldI_of (x := a.Shift) (ha.cells 9 _ rfl) (ldI_of (x := a.Shift) (hb.cells 9 _ rfl) ?_)
  rw [beq_self_eq_true]
  exact hK w2 (below_t hB1 hB2)
theorem rHas_spec (h : RS w s f0 f1 tg tq pb c) {n : Int} {K : Bool → World → Prop} (hK : K (decide (n = 7 ∨ n = 25)) w) : c_phosphorref17_Screen_has (some ⟨s, 0, none⟩) n w K := by
  refine call_phosphorref17_Screen_has _ _ ?_
  unfold sh_phosphorref17_Screen_has
  simp only [onPtr_some]
  have hrd : Rd E_int w ⟨some ⟨pb, 0, none⟩, 2, 2⟩ [7, 25] := Go.Vc.rd_lits (E := E_int) (ys := [7, 25]) h.p (by simp [maxLen]) rfl
  have hsl : w.cell? ((⟨s, 0, none⟩ : Addr).add 37) = some (.slice (some ⟨pb, 0, none⟩) 2 2) := h.blk.cells 37 _ rfl
  refine loopP_rule (fun (st : Int × Unit) w1 => w1 = w ∧ (st.1 = 0 ∨ st.1 = 1 ∧ n ≠ 7 ∨ st.1 = 2 ∧ n ≠ 7 ∧ n ≠ 25)) (fun st => 2 - st.1.toNat) ⟨rfl, .inl rfl⟩ ?_
  rintro ⟨i, u⟩ w1 ⟨rfl, hi⟩ I hI
  dsimp only at hi ⊢
  refine ldSl_of (x := ⟨some ⟨pb, 0, none⟩, 2, 2⟩) hsl ?_
  rcases hi with rfl | ⟨rfl, h7⟩ | ⟨rfl, h7, h25⟩
  · refine cond_t rfl (ldSl_of (x := ⟨some ⟨pb, 0, none⟩, 2, 2⟩) hsl ?_)
    refine hrd.ix (i := 0) rfl (by decide) (by decide) fun hx => ldI_of (x := 7) (by simpa using hx 0 _ rfl) ?_
    refine cond_of (fun e => ?_) fun e => ?_
    · rw [decide_eq_true (.inl (eq_of_beq e).symm)] at hK
      exact hK
    · exact hI _ _ ⟨rfl, .inr (.inl ⟨rfl, fun hh => beq_eq_false_iff_ne.1 e hh.symm⟩)⟩ (by show 2 - (IntKind.i64.wrap (0 + 1)).toNat < 2 - (0 : Int).toNat; decide)
  · refine cond_t rfl (ldSl_of (x := ⟨some ⟨pb, 0, none⟩, 2, 2⟩) hsl ?_)
    refine hrd.ix (i := 1) rfl (by decide) (by decide) fun hx => ldI_of (x := 25) (by simpa using hx 0 _ rfl) ?_
    refine cond_of (fun e => ?_) fun e => ?_
    · rw [decide_eq_true (.inr (eq_of_beq e).symm)] at hK
      exact hK
    · exact hI _ _ ⟨rfl, .inr (.inr ⟨rfl, h7, fun hh => beq_eq_false_iff_ne.1 e hh.symm⟩)⟩ (by show 2 - (IntKind.i64.wrap (1 + 1)).toNat < 2 - (1 : Int).toNat; decide)
  · refine cond_f rfl ?_
    rw [decide_eq_false (fun hh => hh.elim h7 h25)] at hK
    exact hK
theorem rMode_spec (h : RS w s f0 f1 tg tq pb c) {n : Int} {priv : Bool} {K : Bool → Bool → World → Prop} (hK : K (rmP n priv).1 (rmP n priv).2 w) : c_phosphorref17_Screen_Mode (some ⟨s, 0, none⟩) n priv w K := by
  refine call_phosphorref17_Screen_Mode _ _ _ ?_
  unfold sh_phosphorref17_Screen_Mode
  simp only [onPtr_some]
  unfold rmP at hK
  cases priv
  · rw [if_pos rfl] at hK
    refine cond_t rfl (cond_of (fun e => ?_) fun e => cond_of (fun e2 => ?_) fun e2 => ?_)
    · rw [decide_eq_true (.inl (eq_of_beq e))] at hK
      exact ldB_of (x := false) (h.blk.cells 35 _ rfl) hK
    · rw [decide_eq_true (.inr (eq_of_beq e2))] at hK
      exact ldB_of (x := false) (h.blk.cells 36 _ rfl) hK
    · rw [decide_eq_false (fun hh => hh.elim (beq_eq_false_iff_ne.1 e) (beq_eq_false_iff_ne.1 e2))] at hK
      exact hK
  · rw [if_neg (by decide)] at hK
    refine cond_f rfl ?_
    refine cond_of (fun e => ?_) fun e => ?_
    · rw [if_pos (eq_of_beq e)] at hK
      exact ldB_of (x := false) (by rw [add_mk, add_mk]; exact h.blk.cell 9 rfl) hK
    rw [if_neg (beq_eq_false_iff_ne.1 e)] at hK
    refine or3 (fun e => cond_t rfl ?_) fun e => cond_f rfl ?_
    · rw [if_pos e] at hK
      exact ldI_of (x := 0) (h.blk.cells 2 _ rfl) hK
    rw [if_neg e] at hK
    refine or5 (fun e => cond_t rfl ?_) fun e => cond_f rfl ?_
    · rw [if_pos e] at hK
      exact rHas_spec h hK
    · rw [if_neg e] at hK
      exact hK
theorem modes_spec {R C B : Nat} (hM : ScM w base g F (newSc R C B)) (h : RS w s f0 f1 tg tq pb c) {K : Bool → World → Prop} (hK : ∀ w', Below w.heap.size w w' → K true w') : c_phosphorlaw17_modes (some ⟨g, 0, none⟩) (some ⟨s, 0, none⟩) w K := by
  refine call_phosphorlaw17_modes _ _ ?_
  unfold sh_phosphorlaw17_modes
  refine nw_blk fun w1 hb1 hB1 hs1 => ?_
  have hM1 := hM.ext hB1
  have h1 := h.ext hB1
  refine loopP_rule (fun (st : Int × Unit) w2 => w2 = w1 ∧ ∃ k : Nat, st.1 = (k : Int) ∧ k ≤ 12) (fun st => 12 - st.1.toNat) ⟨rfl, 0, rfl, by omega⟩ ?_
  rintro ⟨i, u⟩ w2 ⟨rfl, k, hi, hk⟩ I hI
  dsimp only at hi ⊢
  subst hi
  refine cond_of (fun e => ?_) fun e => hK _ hB1
  have e := of_decide_eq_true e
  have hlt : k < modesL.length := by show k < 12; omega
  have hcell : w2.cell? ((⟨w.heap.size, 0, none⟩ : Addr).add (((k : Int) : Int).toNat * 1)) = some (.int .i64 (modesL[k]'hlt)) := by
    rw [Int.toNat_natCast, Nat.mul_one]
    refine hb1.cells k _ ?_
    show (modesL.map (Value.int .i64))[k]? = _
    rw [List.getElem?_map, List.getElem?_eq_getElem hlt]
    rfl
  refine ⟨⟨by omega, by omega⟩, ldI_of (x := modesL[k]'hlt) hcell ?_⟩
  have hsame := modes_same R C B _ (List.getElem_mem hlt)
  refine Mode_spec hM1 (rMode_spec h1 (Mode_spec hM1 (rMode_spec h1 ?_)))
  rw [hsame true, hsame false]
  refine cond_f (by simp) (cond_f (by simp) (cond_f (by simp) (cond_f (by simp) ?_)))
  rw [wrap64_id (x := (k : Int) + 1) (by omega)]
  exact hI _ _ ⟨rfl, k + 1, by simp, by omega⟩ (by dsimp only; omega)
theorem Firsts_spec (h : ScM w base g F S) {K : Int → Int → World → Prop} (hK : K (IntKind.i64.wrap (S.g0.top - S.g0.old.length)) S.g1.top w.drew.drew) : c_screen_Screen_Firsts (some ⟨g, 0, none⟩) w K := by
  refine call_screen_Screen_Firsts _ ?_
  unfold sh_screen_Screen_Firsts
  simp only [onPtr_some]
  have hd := h.drew
  refine ⟨⟨by decide, by decide⟩, ldP_of (x := some ⟨F.f0.g, 0, none⟩) (hd.blk.cell 0 rfl) ?_⟩
  refine ⟨⟨by decide, by decide⟩, ldP_of (x := some ⟨F.f1.g, 0, none⟩) (hd.blk.cell 1 rfl) ?_⟩
  exact gFirst_spec hd.g0 ⟨hd.drew.blk.cell 1 rfl, gTop_spec hd.drew.g1 hK⟩
theorem Tabs_spec (h : ScM w base g F S) (hl : S.stops.length ≤ 1000) {K : Slc → World → Prop} (hK : ∀ q w', Go.Vc.Own E_int w' w.heap.size q (keysI S.stops) → Below w.heap.size w w' → K q w') : c_screen_Screen_Tabs (some ⟨g, 0, none⟩) w K := by
  refine call_screen_Screen_Tabs _ ?_
  unfold sh_screen_Screen_Tabs
  simp only [onPtr_some]
  exact h.ldStops (tAll_spec h.st hl hK)
theorem Erased_spec (h : ScM w base g F S) {K : Slc → World → Prop} (hK : ∀ q w', q.n = S.areas.length → Below base w w' → K q w') : c_screen_Screen_Erased (some ⟨g, 0, none⟩) w K := by
  refine call_screen_Screen_Erased _ ?_
  unfold sh_screen_Screen_Erased
  simp only [onPtr_some]
  refine ldSl_of (x := F.ar) (h.blk.cells 41 _ rfl) ?_
  show stK ⟨g, 41, none⟩ _ _ _
  have hlen : (T_screen_Screen.rep.cells (scX F S)).length = 42 := rfl
  refine stK_blk h.blk (by rw [hlen]; show (41 + 1 : Nat) ≤ 42; omega) fun w1 hb1 hg1 hs1 => ?_
  have hc : Chg (fun i => i = g) w w1 := Chg.of_grown hg1 fun k hk => by cases hk; rfl
  exact hK F.ar w1 h.ar.rd.n (hc.below h.base_le fun i hi e => by have := h.hg; omega)
end
end Go.Proofs.YtmoafafalnbkpaaGreatDoor

set_option linter.unusedVariables false
namespace Go.Proofs.YtmoafafalnbkpaaGreatDoor
open Go.Vc Go.RowKit
set_option maxRecDepth 400000
section
variable {w w' : World} {base g : Nat} {F F' : ScF} {c : T_api_Config} {s tg pb : Nat} {f0 f1 : RFoot} {tq : Slc}
theorem ref_old0 {b : Nat} {f : RFoot} {R C B : Nat} (h : RefM w b f (gs0 R C B)) : f.os.n = 0 := by
  obtain ⟨ls, ho, hl⟩ := h.old
  have e : ls.length = 0 := hl.1
  rw [ho.rd.n, e]
theorem looks_new (hok : okC c) (hM : ScM w base g F (newSc c.Rows.toNat c.Cols.toNat c.Back.toNat)) (hR : RS w s f0 f1 tg tq pb c) {K : Bool → World → Prop} (hK : ∀ w', Below w.heap.size w w' → K true w') : c_phosphorlaw17_Looks (some ⟨g, 0, none⟩) (some ⟨s, 0, none⟩) w K := by
  obtain ⟨o1, o2, o3, o4, o5, o6⟩ := hok
  refine call_phosphorlaw17_Looks _ _ ?_
  unfold sh_phosphorlaw17_Looks
  have hRn : (c.Rows.toNat : Int) = c.Rows := by omega
  refine Grid_spec hM fun f' w1 hg1 hf1 hM1 hB1 => ?_
  simp only [onPtr_some]
  have hg1 : GridM w1 base f' (gs0 c.Rows.toNat c.Cols.toNat c.Back.toNat) := hg1
  have hR1 := (hR.ext hB1).drew
  have B1 : Below w.heap.size w w1.drew.drew := hB1.drew.drew
  refine ldI_of (x := 0) (hR1.blk.cells 2 _ rfl) ⟨⟨by decide, by decide⟩, ldP_of (x := some ⟨f0.g, 0, none⟩) (hR1.blk.cell 0 rfl) ?_⟩
  refine joinP_of fun J1 hJ1 => cond_f rfl ?_
  have hR2 := hR1.drew
  have hM2 := hM1.drew.drew
  refine ldS_of (r := T_screen_Cursor.rep) (x := first0) (hR2.blk.sub 3 _ rfl) ?_
  refine Cursor_spec hM2 fun w2 hB2 => ⟨(hR2.ext hB2).blk.sub 3 _ rfl, ?_⟩
  have hR3 := hR2.ext hB2
  have hM3 := hM2.ext hB2
  refine cursor_eq first0 fun w3 hB3 => cond_f rfl ?_
  have hR4 := hR3.ext hB3
  have hM4 := hM3.ext hB3
  have hg4 := (hg1.drew.drew.ext hB2).ext hB3
  have B4 := below_t (below_t B1 hB2) hB3
  refine ldI_of (x := 0) (hR4.blk.cells 2 _ rfl) (Alt_spec hM4 ⟨hR4.blk.cells 2 _ rfl, cond_f rfl (hJ1 _ _ ?_)⟩)
  clear hJ1 J1
  simp only [onPtr_some]
  obtain ⟨b0, r0⟩ := hR4.g0
  refine gSize_spec hg4 (joinP_of fun J2 hJ2 => ?_)
  have r0d := r0.drew.drew
  have hg5 := hg4.drew.drew
  refine ldI_of (x := (c.Rows.toNat : Int)) (r0d.blk.cells 0 _ rfl) (cond_f (bne_self_eq_false _) ?_)
  refine ldI_of (x := (c.Cols.toNat : Int)) (r0d.blk.cells 1 _ rfl) (cond_f (bne_self_eq_false _) ?_)
  refine ldI_of (x := 0) (r0d.blk.cells 5 _ rfl) (gTop_spec hg5 ⟨r0d.blk.cells 5 _ rfl, cond_f rfl ?_⟩)
  have o0 := ref_old0 r0d
  refine ldSl_of (x := f0.os) (r0d.blk.cells 4 _ rfl) (gBack_spec hg5 ⟨r0d.blk.cells 4 _ rfl, cond_f (by rw [o0]; rfl) (hJ2 _ _ ?_)⟩)
  clear hJ2 J2
  have hR5 := hR4.drew.drew
  have hM5 := hM4.drew.drew
  have B5 : Below w.heap.size w w3.drew.drew := B4.drew.drew
  have hGo : GOk (gs0 c.Rows.toNat c.Cols.toNat c.Back.toNat) := hM.ok.g0
  refine loopP_rule (fun (st : Int × Unit) w5 => ∃ k : Nat, st.1 = (k : Int) ∧ k ≤ c.Rows.toNat ∧ Below w3.drew.drew.heap.size w3.drew.drew w5) (fun st => c.Rows.toNat - st.1.toNat) ⟨0, rfl, Nat.zero_le _, Below.refl _ _⟩ ?_
  rintro ⟨i, u⟩ w5 ⟨k, hi, hk, hB5⟩ I hI
  dsimp only at hi ⊢
  subst hi
  have hg6 := hg5.ext hB5
  have hR6 := hR5.ext hB5
  have hM6 := hM5.ext hB5
  have r6 := r0d.ext hB5
  refine cond_of (fun e => ?_) fun e => ?_
  · have e := of_decide_eq_true e
    have hkR : k < c.Rows.toNat := by
      have : (k : Int) < (c.Rows.toNat : Int) := e
      omega
    refine gLine_spec hg6 hGo.len (fun ys hys => by have := (hGo.L ys hys).2.1; have := hGo.cols.2; omega) (fun t ys w6 _ hys ho hB6 => cond_f rfl ?_) fun hbad => absurd ⟨by omega, e⟩ hbad
    have r7 := r6.ext hB6
    obtain ⟨ls, hol, hl⟩ := r7.row
    refine ldSl_of (x := f0.ls) (r7.blk.cells 3 _ rfl) ?_
    have hlen : ls.length = c.Rows.toNat := by
      rw [hl.1]
      exact hGo.len
    refine hol.rd.ix (i := (k : Int)) rfl (by omega) (by omega) fun hx => ?_
    have hlk : ls[k]? = some (ls[(k : Int).toNat]'(by omega)) := by
      simp only [Int.toNat_natCast]
      exact List.getElem?_eq_getElem (by omega)
    rw [Int.toNat_natCast] at hys
    have hown := hl.2 k _ ys hlk hys
    refine ldSl_of (x := ls[(k : Int).toNat]'(by omega)) (by simpa using hx 0 _ rfl) ?_
    refine Same_spec ho.rd hown.rd fun r w7 hiff hB7 _ => ?_
    rw [hiff.2 rfl]
    refine cond_f rfl ?_
    rw [wrap64_id (x := (k : Int) + 1) (by omega)]
    exact hI _ _ ⟨k + 1, by simp, by omega, below_t (below_t hB5 hB6) hB7⟩ (by dsimp only; omega)
  clear hI I
  have B6 := below_t B5 hB5
  refine loopP_rule (fun (st : Int × Unit) w8 => st.1 = 0 ∧ w8 = w5) (fun st => 0) ⟨rfl, rfl⟩ ?_
  rintro ⟨i, u⟩ w8 ⟨hi, rfl⟩ I hI
  dsimp only at hi ⊢
  subst hi
  have o6 := ref_old0 r6
  refine ldSl_of (x := f0.os) (r6.blk.cells 4 _ rfl) (cond_f (by rw [o6]; rfl) ?_)
  clear hI I
  refine Margins_spec hM6 (Firsts_spec hM6.drew (joinP_of fun J5 hJ5 => ?_))
  have hR9 := hR6.drew.drew.drew.drew
  have r9 := r6.drew.drew.drew.drew
  obtain ⟨b1, r91⟩ := hR9.g1
  have B9 : Below w.heap.size w w8.drew.drew.drew := B6.drew.drew.drew
  have B10 : Below w.heap.size w w8.drew.drew.drew.drew := B9.drew
  have hM9 := hM6.drew.drew.drew.drew
  refine ldI_of (x := 0) (hR9.blk.cells 38 _ rfl) (cond_f rfl ?_)
  refine ldI_of (x := c.Rows) (hR9.blk.cells 39 _ rfl) (cond_f ?_ ?_)
  · show ((c.Rows.toNat : Int) != c.Rows) = false
    rw [hRn]
    exact bne_self_eq_false _
  refine ⟨⟨by decide, by decide⟩, ldP_of (x := some ⟨f0.g, 0, none⟩) (hR9.blk.cell 0 rfl) ?_⟩
  simp only [onPtr_some]
  refine ldI_of (x := 0) (r9.blk.cells 5 _ rfl) ?_
  refine ⟨⟨by decide, by decide⟩, ldP_of (x := some ⟨f0.g, 0, none⟩) (hR9.blk.cell 0 rfl) ?_⟩
  simp only [onPtr_some]
  refine ldSl_of (x := f0.os) (r9.blk.cells 4 _ rfl) (cond_f (by rw [o6]; rfl) ?_)
  refine ⟨⟨by decide, by decide⟩, ldP_of (x := some ⟨f1.g, 0, none⟩) (hR9.blk.cell 1 rfl) ?_⟩
  simp only [onPtr_some]
  refine ldI_of (x := 0) (r91.blk.cells 5 _ rfl) (cond_f rfl (hJ5 _ _ ?_))
  clear hJ5 J5
  have hst : (newSc c.Rows.toNat c.Cols.toNat c.Back.toNat).stops = resz [] c.Cols.toNat := rfl
  have hsl : (resz [] c.Cols.toNat).length ≤ 1000 := by rw [resz_length]; omega
  refine Tabs_spec hM9 (by rw [hst]; exact hsl) fun q w10 hq hB10 => ?_
  rw [hst] at hq
  have hR10 := hR9.ext hB10
  obtain ⟨b2, t10⟩ := hR10.t
  refine ldP_of (x := some ⟨tg, 0, none⟩) (hR10.blk.cells 40 _ rfl) ?_
  refine rAllT_spec t10 hsl fun q2 w11 hq2 hB11 => ?_
  have hqr := hq.rd.ext hB11
  have hn1 := hq.rd.n
  have hn2 := hq2.rd.n
  have B11 := below_t (below_t B10 hB10) hB11
  have hM11 := (hM9.ext hB10).ext hB11
  have hR11 := hR10.ext hB11
  have hkl : (keysI (resz [] c.Cols.toNat)).length ≤ 1000 := by
    have := keys_le (resz [] c.Cols.toNat)
    unfold keysI
    rw [List.length_map]
    omega
  refine cond_f (by rw [hn1, hn2]; exact bne_self_eq_false _) ?_
  refine loopP_rule (fun (st : Int × Unit) w12 => ∃ k : Nat, st.1 = (k : Int) ∧ k ≤ (keysI (resz [] c.Cols.toNat)).length ∧ Below w11.heap.size w11 w12) (fun st => (keysI (resz [] c.Cols.toNat)).length - st.1.toNat) ⟨0, rfl, Nat.zero_le _, Below.refl _ _⟩ ?_
  rintro ⟨i, u⟩ w12 ⟨k, hi, hk, hB12⟩ I hI
  dsimp only at hi ⊢
  subst hi
  refine cond_of (fun e => ?_) fun e => ?_
  · have e := of_decide_eq_true e
    have hlt : k < (keysI (resz [] c.Cols.toNat)).length := by omega
    have ha := (hqr.ext hB12).drew
    have hb := (hq2.rd.ext hB12).drew
    refine ha.ix (i := (k : Int)) rfl (by omega) (by omega) fun hx => ldI_of (x := (keysI (resz [] c.Cols.toNat))[(k : Int).toNat]'(by omega)) (by simpa using hx 0 _ rfl) ?_
    refine hb.ix (i := (k : Int)) rfl (by omega) (by omega) fun hx => ldI_of (x := (keysI (resz [] c.Cols.toNat))[(k : Int).toNat]'(by omega)) (by simpa using hx 0 _ rfl) ?_
    refine cond_f (bne_self_eq_false _) ?_
    rw [wrap64_id (x := (k : Int) + 1) (by omega)]
    exact hI _ _ ⟨k + 1, by simp, by omega, hB12.drew⟩ (by dsimp only; omega)
  · exact modes_spec (hM11.ext hB12) (hR11.ext hB12) fun w13 hB13 => hK w13 (below_t (below_t B11 hB12) hB13)
theorem shapes_law (hT : Tab w) (c : T_api_Config) {K : Bool → World → Prop} (hK : ∀ w', Below w.heap.size w w' → K true w') : c_phosphorlaw17_ScreenShapes c w K := by
  refine call_phosphorlaw17_ScreenShapes _ ?_
  unfold sh_phosphorlaw17_ScreenShapes
  refine nw_blk fun w1 hc1 hB1 hs1 => ?_
  refine known17_spec (hT.ext hB1) fun w2 hB2 => cond_f rfl ?_
  have hc2 := (hc1.ext hB2).drew
  have B2 : Below w.heap.size w w2.drew := (below_t hB1 hB2).drew
  refine ldS_of (r := T_api_Config.rep) (x := c) hc2.cells (ldS_of (r := T_api_Config.rep) (x := c) hc2.cells ?_)
  by_cases hok : okC c
  · refine Check_spec (fun _ w3 hB3 => ⟨(hc2.ext hB3).cells, ?_⟩) fun hbad => absurd hok hbad
    have hc3 := hc2.ext hB3
    have B3 := below_t B2 hB3
    refine refCheck_spec (fun _ w4 hB4 => cond_f rfl ?_) fun hbad => absurd hok hbad
    have hc4 := hc3.ext hB4
    have B4 := below_t B3 hB4
    refine ldS_of (r := T_api_Config.rep) (x := c) hc4.cells ?_
    refine refCheck_spec (fun _ w5 hB5 => cond_f rfl ?_) fun hbad => absurd hok hbad
    have hc5 := hc4.ext hB5
    have B5 := below_t B4 hB5
    refine joinP_of fun J1 hJ1 => ?_
    refine ldI_of (x := c.Rows) (hc5.cells 0 _ rfl) (cond_of (fun _ => hK _ B5) fun e1 => ?_)
    refine ldI_of (x := c.Cols) (hc5.cells 1 _ rfl) (cond_of (fun _ => hK _ B5) fun e2 => hJ1 _ _ ?_)
    refine ldS_of (r := T_api_Config.rep) (x := c) hc5.cells ?_
    refine sNew_spec (fun hbad => absurd hok hbad) fun _ g F w6 hM hB6 => ?_
    have hc6 := hc5.ext hB6
    refine ldS_of (r := T_api_Config.rep) (x := c) hc6.cells ?_
    refine rNew17_spec hok fun s f0 f1 tg tq pb w7 hR hB7 => ?_
    have hM7 := hM.ext hB7
    refine cond_t rfl (cond_t rfl ?_)
    refine looks_new hok hM7 hR fun w8 hB8 => cond_t rfl ?_
    refine Erased_spec (hM7.ext hB8) fun q w9 hq hB9 => ?_
    rw [hq]
    have B8 := below_t (below_t hB6 hB7) hB8
    exact hK w9 (B5.trans ((B8.trans hB9).mono B5.size))
  · refine Check_spec (fun h => absurd h hok) fun _ w3 hB3 => ⟨(hc2.ext hB3).cells, ?_⟩
    have hc3 := hc2.ext hB3
    have B3 := below_t B2 hB3
    refine refCheck_spec (fun h => absurd h hok) fun _ w4 hB4 => cond_f rfl ?_
    have hc4 := hc3.ext hB4
    have B4 := below_t B3 hB4
    refine ldS_of (r := T_api_Config.rep) (x := c) hc4.cells ?_
    refine refCheck_spec (fun h => absurd h hok) fun _ w5 hB5 => cond_t rfl ?_
    have hc5 := hc4.ext hB5
    have B5 := below_t B4 hB5
    refine ldS_of (r := T_api_Config.rep) (x := c) hc5.cells ?_
    exact sNew_spec (fun _ w6 hB6 => cond_t rfl (hK _ (below_t B5 hB6))) fun h => absurd h hok
end
end Go.Proofs.YtmoafafalnbkpaaGreatDoor
