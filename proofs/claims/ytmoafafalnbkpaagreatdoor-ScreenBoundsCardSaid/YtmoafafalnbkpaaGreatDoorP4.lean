/- The plain screen: plain characters printed; what wraps. ScreenWraps. The plain screen: rows of letters, scrolled within margins. ScreenMargins. ScreenBounds. -/
import Derived.Test.YtmoafafalnbkpaaGreatDoorP3
import Derived.Test.YtmoafafalnbkpaaGreatDoorP2
set_option linter.unusedVariables false
set_option linter.unusedVariables false
namespace Go.Proofs.YtmoafafalnbkpaaGreatDoor
open Go.Vc Go.RowKit
set_option maxRecDepth 400000
theorem width_one {r : Int} (h : 33 ≤ r ∧ r ≤ 126) : widthP r = 1 := by
  have : ∀ k : Nat, k < 127 → 33 ≤ k → widthP (k : Int) = 1 := by decide
  rw [show r = ((r.toNat : Nat) : Int) by omega]
  exact this _ (by omega) (by omega)
/-- A screen on which plain characters are printed as they are. -/
structure Tm (R C : Nat) (wr : Bool) (S : Sc) : Prop where
  alt : S.alt = false
  rows : S.g0.rows = R
  cols : S.g0.cols = C
  modes : S.modes = []
  wr : S.pmode 7 = wr
  sets : S.c.Sets = ⟨66, 66⟩
  shift : S.c.Shift = 0
  a : S.c.A = ⟨0, 0, 0⟩
  row : 0 ≤ S.c.Row ∧ S.c.Row < (R : Int)
  col : 0 ≤ S.c.Col ∧ S.c.Col < (C : Int)
  len : S.g0.L.length = R
  lim : R ≤ 1000 ∧ C ≤ 1000
  org : S.c.Origin = false
/-- What printing keeps. -/
structure Pr (R C : Nat) (wr : Bool) (S S' : Sc) (row col r : Int) : Prop where
  tm : Tm R C wr S'
  Row : S'.c.Row = row
  Col : S'.c.Col = if col + 1 < (C : Int) then col + 1 else (C : Int) - 1
  Wrap : S'.c.Wrap = (wr && decide ((C : Int) ≤ col + 1))
  g0 : S'.g0 = { S.g0 with L := S.g0.L.set row.toNat (resL (putP (S.g0.L.getD row.toNat []) col r 1 ⟨0, 0, 0⟩) C) }
  past : S'.past = S.past
  top : S'.top = S.top
section
variable {R C : Nat} {wr : Bool} {S : Sc} {r : Int}
theorem Tm.g (h : Tm R C wr S) : S.g = S.g0 := by
  unfold Sc.g
  rw [h.alt]
  rfl
theorem Tm.dry (h : Tm R C wr S) : Tm R C wr S.dry := ⟨h.alt, h.rows, h.cols, h.modes, h.wr, h.sets, h.shift, h.a, h.row, h.col, h.len, h.lim, h.org⟩
theorem Tm.char (h : Tm R C wr S) (r : Int) : Tm R C wr { S with char := r } := ⟨h.alt, h.rows, h.cols, h.modes, h.wr, h.sets, h.shift, h.a, h.row, h.col, h.len, h.lim, h.org⟩
theorem Tm.at_ (h : Tm R C wr S) {row col : Int} (hr : 0 ≤ row ∧ row < (R : Int)) (hc : 0 ≤ col ∧ col < (C : Int)) (b : Bool) : Tm R C wr { S with c := { S.c with Row := row, Col := col, Wrap := b } } :=
  ⟨h.alt, h.rows, h.cols, h.modes, h.wr, h.sets, h.shift, h.a, hr, hc, h.len, h.lim, h.org⟩
theorem cutP_self {v lo hi : Int} (h1 : lo ≤ v) (h2 : v ≤ hi) : cutP v lo hi = v := by
  unfold cutP
  split <;> split at * <;> omega
theorem Tm.to_eq (h : Tm R C wr S) {row col : Int} (hr : 0 ≤ row ∧ row < (R : Int)) (hc : 0 ≤ col ∧ col < (C : Int)) : S.to row col = { S with c := { S.c with Row := row, Col := col, Wrap := false } } := by
  unfold Sc.to
  have := h.lim
  rw [h.g, h.rows, h.cols, w64_of (x := (R : Int) - 1) (by omega), w64_of (x := (C : Int) - 1) (by omega), cutP_self (by omega) (by omega), cutP_self (by omega) (by omega)]
theorem Tm.laid (h : Tm R C wr S) (hw : S.c.Wrap = false) : Pr R C wr S (Sc.layY S C r 1 wr) S.c.Row S.c.Col r := by
  have hl := h.lim
  have hc := h.col
  have e1 : w64 (S.c.Col + 1) = S.c.Col + 1 := w64_of (by omega)
  have e2 : w64 ((C : Int) - 1) = (C : Int) - 1 := w64_of (by omega)
  have em : S.mode 4 = false := by
    unfold Sc.mode
    rw [h.modes]
    rfl
  have ec : S.change (S.putL r 1) = { S with g0 := { S.g0 with L := S.g0.L.set S.c.Row.toNat (resL (putP (S.g0.L.getD S.c.Row.toNat []) S.c.Col r 1 ⟨0, 0, 0⟩) C) } } := by
    unfold Sc.change
    rw [h.g, if_pos (by rw [h.rows]; exact h.row)]
    unfold Sc.withG Sc.putL
    rw [h.alt, em, h.a, show ((S.g0.cols : Nat) : Int) = C by rw [h.cols]]
    rfl
  have hcols : S.g.cols = C := by rw [h.g]; exact h.cols
  unfold Sc.layY
  rw [e1, if_neg (by omega)]
  unfold Sc.laid
  rw [ec]
  unfold Sc.setCol
  dsimp only
  rw [e1, hcols, e2]
  by_cases hcc : S.c.Col + 1 < (C : Int)
  · rw [if_neg (by omega)]
    refine ⟨⟨h.alt, h.rows, h.cols, h.modes, h.wr, h.sets, h.shift, h.a, h.row, ⟨by show 0 ≤ S.c.Col + 1; omega, hcc⟩, by show (List.set _ _ _).length = R; rw [List.length_set]; exact h.len, h.lim, h.org⟩, rfl, by rw [if_pos hcc], ?_, rfl, rfl, rfl⟩
    show S.c.Wrap = _
    rw [hw, decide_eq_false (by omega), Bool.and_false]
  · rw [if_pos (by omega)]
    refine ⟨⟨h.alt, h.rows, h.cols, h.modes, h.wr, h.sets, h.shift, h.a, h.row, ⟨by show 0 ≤ (C : Int) - 1; omega, by show (C : Int) - 1 < C; omega⟩, by show (List.set _ _ _).length = R; rw [List.length_set]; exact h.len, h.lim, h.org⟩, rfl, by rw [if_neg hcc], ?_, rfl, rfl, rfl⟩
    show wr = _
    rw [decide_eq_true (by omega), Bool.and_true]
theorem Tm.print_eq (h : Tm R C wr S) (hr : 33 ≤ r ∧ r ≤ 126) : S.print r = Sc.layY (Sc.layX { S with char := r } wr).dry C r 1 wr := by
  unfold Sc.print
  rw [if_pos (by omega), h.shift]
  have e : graphicP (S.set2 0) r = r := by
    unfold Sc.set2
    rw [if_pos rfl, h.sets]
    unfold graphicP
    rw [if_neg (fun hh => absurd hh.1 (by decide))]
  rw [e]
  unfold Sc.lay
  rw [width_one hr, if_neg (by decide), h.wr, h.g, h.cols]
theorem Tm.print_flat (h : Tm R C wr S) (hr : 33 ≤ r ∧ r ≤ 126) (hw : S.c.Wrap = false) : Pr R C wr S (S.print r) S.c.Row S.c.Col r := by
  rw [h.print_eq hr]
  unfold Sc.layX
  rw [if_neg (fun hh => by have := hh.1; rw [show ({ S with char := r } : Sc).c.Wrap = S.c.Wrap from rfl, hw] at this; cases this)]
  have hp := Tm.laid (r := r) (h.char r).dry rfl
  exact ⟨hp.tm, hp.Row, hp.Col, hp.Wrap, hp.g0, hp.past, hp.top⟩
theorem Tm.print_next (h : Tm R C wr S) (hr : 33 ≤ r ∧ r ≤ 126) (hw : S.c.Wrap = true) (hwr : wr = true) (hrow : S.c.Row + 1 < (R : Int)) (hpast : S.past = R) : Pr R C wr S (S.print r) (S.c.Row + 1) 0 r := by
  rw [h.print_eq hr]
  unfold Sc.layX
  rw [if_pos ⟨hw, hwr⟩]
  have hl := h.lim
  have hc := h.col
  have hrr := h.row
  have e1 : w64 (S.c.Row + 1) = S.c.Row + 1 := w64_of (by omega)
  have e2 : w64 ((R : Int) - 1) = (R : Int) - 1 := w64_of (by omega)
  have hT := h.char r
  have en : ({ S with char := r } : Sc).next = { S with char := r, c := { S.c with Row := S.c.Row + 1, Col := 0, Wrap := false } } := by
    unfold Sc.next
    have t1 : ({ S with char := r } : Sc).to ({ S with char := r } : Sc).c.Row 0 = { S with char := r, c := { S.c with Row := S.c.Row, Col := 0, Wrap := false } } := hT.to_eq (row := S.c.Row) (col := 0) hrr (by omega)
    rw [t1]
    unfold Sc.index
    have hne : ¬ S.c.Row = w64 (S.past - 1) := by rw [hpast, e2]; omega
    rw [if_neg hne]
    have h2 := (hT.at_ (row := S.c.Row) (col := 0) hrr (by omega) false).dry
    have t2 := h2.to_eq (row := S.c.Row + 1) (col := 0) (by omega) (by omega)
    show Sc.to _ (w64 (S.c.Row + 1)) 0 = _
    rw [e1]
    exact t2
  rw [en]
  have h3 := (hT.at_ (row := S.c.Row + 1) (col := 0) (by omega) (by omega) false).dry
  have hp := Tm.laid (r := r) h3 rfl
  exact ⟨hp.tm, hp.Row, hp.Col, hp.Wrap, hp.g0, hp.past, hp.top⟩
end
/-! ### Wraps -/
def wrS (S0 : Sc) : Nat → Sc
  | 0 => S0
  | k + 1 => (wrS S0 k).print (48 + (k : Int) % 70)
theorem chr48 (k : Nat) : 33 ≤ 48 + (k : Int) % 70 ∧ 48 + (k : Int) % 70 ≤ 126 := by omega
structure WrI (C k : Nat) (S : Sc) : Prop where
  tm : Tm 40 C true S
  n : (k : Int) = S.c.Row * C + S.c.Col + (if S.c.Wrap = true then 1 else 0)
  w : S.c.Wrap = true → S.c.Col = (C : Int) - 1
  l : S.c.Wrap = false → 1 ≤ k → 1 ≤ S.c.Col
  past : S.past = 40
theorem wr_all {C : Nat} (hC : 2 ≤ C) {S0 : Sc} (h0 : WrI C 0 S0) : ∀ k, k ≤ 60 → WrI C k (wrS S0 k)
  | 0, _ => h0
  | k + 1, hk => by
    have ih := wr_all hC h0 k (by omega)
    have hr := chr48 k
    have hrow := ih.tm.row
    have hcol := ih.tm.col
    have hm : (wrS S0 k).c.Row * 2 ≤ (wrS S0 k).c.Row * C := Int.mul_le_mul_of_nonneg_left (by omega) hrow.1
    have hn := ih.n
    show WrI C (k + 1) ((wrS S0 k).print _)
    cases hw : (wrS S0 k).c.Wrap
    · have hp := ih.tm.print_flat hr hw
      rw [hw, if_neg (by decide)] at hn
      have hcc := hp.Col
      have hww := hp.Wrap
      rw [Bool.true_and] at hww
      by_cases hlt : (wrS S0 k).c.Col + 1 < (C : Int)
      · rw [if_pos hlt] at hcc
        rw [decide_eq_false (by omega)] at hww
        refine ⟨hp.tm, ?_, (fun e => by rw [hww] at e; cases e), fun _ _ => by omega, hp.past.trans ih.past⟩
        rw [hp.Row, hcc, hww, if_neg (by decide)]
        omega
      · rw [if_neg hlt] at hcc
        rw [decide_eq_true (by omega)] at hww
        refine ⟨hp.tm, ?_, (fun _ => hcc), (fun e => by rw [hww] at e; cases e), hp.past.trans ih.past⟩
        rw [hp.Row, hcc, hww, if_pos rfl]
        omega
    · have hcw := ih.w hw
      rw [hw, if_pos rfl] at hn
      have hp := ih.tm.print_next hr hw rfl (by omega) ih.past
      have hcc := hp.Col
      have hww := hp.Wrap
      rw [Bool.true_and, decide_eq_false (by omega)] at hww
      rw [if_pos (by omega)] at hcc
      refine ⟨hp.tm, ?_, (fun e => by rw [hww] at e; cases e), fun _ _ => by omega, hp.past.trans ih.past⟩
      rw [hp.Row, hcc, hww, if_neg (by decide), Int.add_mul]
      omega
theorem wr_end {C n : Nat} {S : Sc} (hC : 2 ≤ C) (h : WrI C n S) (hn : 1 ≤ n) :
    S.c.Wrap = decide (n % C = 0) ∧ S.c.Row = (if n % C = 0 then (n / C : Int) - 1 else (n / C : Int)) ∧ S.c.Col = (if n % C = 0 then (C : Int) - 1 else (n % C : Int)) := by
  have hrow := h.tm.row
  have hcol := h.tm.col
  obtain ⟨q, hq⟩ : ∃ q : Nat, S.c.Row = q := ⟨S.c.Row.toNat, by omega⟩
  obtain ⟨c, hc⟩ : ∃ c : Nat, S.c.Col = c := ⟨S.c.Col.toNat, by omega⟩
  have hk := h.n
  rw [hq, hc] at hk ⊢
  rw [hc] at hcol
  cases hw : S.c.Wrap
  · have h1 := h.l hw hn
    rw [hw, if_neg (by decide)] at hk
    have e : n = C * q + c := by rw [Nat.mul_comm]; have : ((q * C : Nat) : Int) = (q : Int) * C := by simp
                                 omega
    have em : n % C = c := by rw [e, Nat.mul_add_mod, Nat.mod_eq_of_lt (by omega)]
    have ed : n / C = q := by rw [e, Nat.mul_add_div (by omega), Nat.div_eq_of_lt (by omega)]; rfl
    rw [em, if_neg (by omega), if_neg (by omega), decide_eq_false (by omega)]
    refine ⟨rfl, ?_, ?_⟩
    · rw [← ed]; simp
    · rw [← em]; simp
  · have h1 := h.w hw
    rw [hw, if_pos rfl] at hk
    have e : n = C * (q + 1) := by
      rw [Nat.mul_add, Nat.mul_comm]
      have : ((q * C : Nat) : Int) = (q : Int) * C := by simp
      omega
    have em : n % C = 0 := by rw [e, Nat.mul_mod_right]
    have ed : n / C = q + 1 := by rw [e, Nat.mul_div_cancel_left _ (by omega)]
    rw [em, if_pos rfl, if_pos rfl, decide_eq_true rfl]
    refine ⟨rfl, ?_, by omega⟩
    have : ((n : Int) / C) = ((n / C : Nat) : Int) := by simp
    rw [this, ed]
    omega
/-! ### Without wraps -/
def nwL (C : Nat) (A : List Cell) (r : Int) : List Cell := A ++ ⟨r, 0, a0⟩ :: List.replicate (C - (A.length + 1)) (blankC a0)
structure NwI (C k : Nat) (S0 S : Sc) : Prop where
  tm : Tm 40 C false S
  row : S.c.Row = 0
  col : S.c.Col = min (k : Int) ((C : Int) - 1)
  w : S.c.Wrap = false
  L : k = 0 ∧ S.g0.L = S0.g0.L ∨ ∃ A, Plain A ∧ A.length + 1 = min k C ∧ S.g0.L = S0.g0.L.set 0 (nwL C A (48 + ((k : Int) - 1) % 70))
theorem nwL_plain {C : Nat} {A : List Cell} (h : Plain A) (r : Int) : Plain (nwL C A r) := plain_append h fun c hc => by
  rcases List.mem_cons.1 hc with rfl | hc
  · rfl
  · exact plain_blanks _ _ c hc
theorem nwL_length {C : Nat} {A : List Cell} (h : A.length + 1 ≤ C) (r : Int) : (nwL C A r).length = C := by
  unfold nwL
  simp
  omega
theorem nw_all {C : Nat} (hC : 2 ≤ C) {S0 : Sc} (h0 : NwI C 0 S0 S0) (hL : S0.g0.L[0]? = some (List.replicate C (blankC a0))) : ∀ k, k ≤ 60 → NwI C k S0 (wrS S0 k)
  | 0, _ => h0
  | k + 1, hk => by
    have ih := nw_all hC h0 hL k (by omega)
    have hr := chr48 k
    have hp := ih.tm.print_flat hr ih.w
    have hlim := ih.tm.lim
    have hcol := ih.col
    have hg := hp.g0
    rw [ih.row] at hg
    have hgL : ((wrS S0 k).print (48 + (k : Int) % 70)).g0.L = (wrS S0 k).g0.L.set 0 (resL (putP ((wrS S0 k).g0.L.getD 0 []) (wrS S0 k).c.Col (48 + (k : Int) % 70) 1 a0) C) := by rw [hg]; rfl
    show NwI C (k + 1) S0 ((wrS S0 k).print _)
    refine ⟨hp.tm, hp.Row.trans ih.row, ?_, by rw [hp.Wrap, Bool.false_and], .inr ?_⟩
    · rw [hp.Col, hcol]
      split <;> omega
    · have e48 : 48 + (((k + 1 : Nat) : Int) - 1) % 70 = 48 + (k : Int) % 70 := by
        rw [show ((k + 1 : Nat) : Int) - 1 = (k : Int) by omega]
      rw [e48]
      have put : ∀ {xs : List Cell} (hx : Plain xs) (hl : xs.length = C), resL (putP xs (wrS S0 k).c.Col (48 + (k : Int) % 70) 1 a0) C = xs.set (wrS S0 k).c.Col.toNat ⟨48 + (k : Int) % 70, 0, a0⟩ := by
        intro xs hx hl
        rw [put_plain hx (by unfold badPut; rw [hl]; omega)]
        have := resL_same (xs := xs.set (wrS S0 k).c.Col.toNat ⟨48 + (k : Int) % 70, 0, a0⟩) (plain_set hx rfl) (by rw [List.length_set, hl]; omega)
        rw [List.length_set, hl] at this
        exact this
      have h0l : 0 < S0.g0.L.length := (List.getElem?_eq_some_iff.1 hL).1
      rcases ih.L with ⟨rfl, e⟩ | ⟨A, hA, hAl, e⟩
      · rw [e] at hgL
        have eg : S0.g0.L.getD 0 [] = List.replicate C (blankC a0) := by rw [List.getD_eq_getElem?_getD, hL]; rfl
        rw [eg, put (plain_blanks _ _) (by simp)] at hgL
        refine ⟨[], (fun c hc => by cases hc), by simp; omega, ?_⟩
        rw [hgL]
        congr 1
        rw [hcol]
        obtain ⟨C', rfl⟩ : ∃ C', C = C' + 1 := ⟨C - 1, by omega⟩
        rw [show (min ((0 : Nat) : Int) (((C' + 1 : Nat) : Int) - 1)).toNat = 0 by omega, List.replicate_succ, List.set_cons_zero]
        unfold nwL
        simp
      · rw [e, List.set_set] at hgL
        have eg : (S0.g0.L.set 0 (nwL C A (48 + ((k : Int) - 1) % 70))).getD 0 [] = nwL C A (48 + ((k : Int) - 1) % 70) := by
          rw [List.getD_eq_getElem?_getD, List.getElem?_set_self h0l]
          rfl
        rw [eg, put (nwL_plain hA _) (nwL_length (by omega) _)] at hgL
        by_cases hkC : k < C
        · have hl : A.length + 1 = k := by omega
          refine ⟨A ++ [⟨48 + ((k : Int) - 1) % 70, 0, a0⟩], plain_append hA (fun c hc => by rw [List.mem_singleton] at hc; subst hc; rfl), by simp; omega, ?_⟩
          rw [hgL]
          congr 1
          rw [hcol, show (min (k : Int) ((C : Int) - 1)).toNat = A.length + 1 by omega]
          unfold nwL
          rw [List.set_append_right _ _ (by omega), show A.length + 1 - A.length = 0 + 1 by omega, List.set_cons_succ]
          obtain ⟨m, hm⟩ : ∃ m, C - (A.length + 1) = m + 1 := ⟨C - (A.length + 1) - 1, by omega⟩
          rw [hm, List.replicate_succ, List.set_cons_zero, List.append_assoc]
          have : C - ((A ++ [(⟨48 + ((k : Int) - 1) % 70, 0, a0⟩ : Cell)]).length + 1) = m := by simp; omega
          rw [this]
          rfl
        · have hl : A.length + 1 = C := by omega
          refine ⟨A, hA, by omega, ?_⟩
          rw [hgL]
          congr 1
          rw [hcol, show (min (k : Int) ((C : Int) - 1)).toNat = A.length by omega]
          unfold nwL
          rw [List.set_append_right _ _ (by omega), Nat.sub_self, List.set_cons_zero]
theorem blanks_text : ∀ n, (List.replicate n (blankC a0)).flatMap cellB = List.replicate n 32
  | 0 => rfl
  | n + 1 => by
    rw [List.replicate_succ, List.flatMap_cons, blanks_text n]
    rfl
theorem encR_small {r : Int} (h : 1 ≤ r ∧ r ≤ 126) : encR r = [u8 r] := by
  have hv : validR r = true := validR_iff.2 ⟨by omega, by omega, .inl (by omega)⟩
  rw [encR, fixR, if_pos hv, encV, if_pos (by omega)]
theorem u8_32 {r : Int} (h : 33 ≤ r ∧ r ≤ 126) : u8 r ≠ 32 := by
  intro e
  have := congrArg UInt8.toNat e
  have h2 := u8_toNat (x := r) (by omega) (by omega)
  have h3 : (32 : UInt8).toNat = 32 := rfl
  omega
theorem cellB_small {r : Int} (h : 1 ≤ r ∧ r ≤ 126) : cellB (⟨r, 0, a0⟩ : Cell) = [u8 r] := by
  rw [cellB, if_neg (show ¬ ((0 : Int) = 2) by decide), if_neg (show ¬ (r = 0) by omega), encR_small h]
theorem nwL_text {C : Nat} {A : List Cell} (hA : Plain A) {r : Int} (hr : 33 ≤ r ∧ r ≤ 126) : trimR (textB (nwL C A r)) = A.flatMap cellB ++ [u8 r] := by
  unfold textB
  rw [plain_mend (nwL_plain hA _)]
  unfold nwL
  rw [List.flatMap_append, List.flatMap_cons, blanks_text, cellB_small (by omega), ← List.append_assoc, trimR_blanks, trimR_keep _ _ (u8_32 hr)]
theorem blank_text (n : Nat) : trimR (textB (List.replicate n (blankC a0))) = [] := by
  unfold textB
  rw [plain_mend (plain_blanks _ _), blanks_text]
  have := trimR_blanks [] n
  rw [List.nil_append] at this
  rw [this]
  rfl
end Go.Proofs.YtmoafafalnbkpaaGreatDoor

set_option linter.unusedVariables false
namespace Go.Proofs.YtmoafafalnbkpaaGreatDoor
open Go.Vc Go.RowKit
set_option maxRecDepth 400000
section
variable {w w' : World} {base g : Nat} {F F' : ScF} {S S' : Sc}
theorem byte_rd {b : Nat} {y v : Int} (hb : Blk w b ty_uint8 [.int .u8 (IntKind.u8.wrap y)]) (e : y = v) (hv : 0 ≤ v ∧ v < 256) : Rd E_uint8 w ⟨some ⟨b, 0, none⟩, 1, 1⟩ [u8 v] :=
  rd_one (E := E_uint8) hb (by show [Value.int .u8 ((u8 v).toNat : Int)] = _; rw [num_byte e hv])
/-- A text of one character. -/
theorem text_one (h : ScM w base g F S) (hT : Tab w) (h1b : 1 ≤ base) {v : Int} (hv : 0 ≤ v ∧ v ≤ 126) (ha : S.areas.length ≤ 600000000) {K : World → Prop} (hK : ∀ F' w', ScT base g w F F' (S.print v) w' → K w') : c_phosphorlaw17_text (some ⟨g, 0, none⟩) (strB [u8 v]) w K := by
  refine call_phosphorlaw17_text _ _ ?_
  unfold sh_phosphorlaw17_text
  refine loopP_rule (fun (st : Int × Unit) w1 => st.1 = 0 ∧ w1 = w ∨ st.1 = 1 ∧ ∃ F1, ScT base g w F F1 (S.print v) w1) (fun st => 1 - st.1.toNat) (.inl ⟨rfl, rfl⟩) ?_
  rintro ⟨i, u⟩ w1 hh I hI
  dsimp only at hh ⊢
  rcases hh with ⟨rfl, rfl⟩ | ⟨rfl, F1, hT1⟩
  · refine cond_t rfl ?_
    refine ixS_of (k := 0) (b := u8 v) rfl rfl ?_
    rw [u8_toNat hv.1 (by omega)]
    have ew : IntKind.i32.wrap v = v := by
      obtain ⟨m, hm⟩ : ∃ m : Nat, v = m := ⟨v.toNat, by omega⟩
      rw [hm]
      exact wrap_nat .i32 (by show _ < 2 ^ 31; omega)
    rw [ew]
    refine Do_spec h (evM_p _ _ _ _) hT h1b (by show _ + 0 ≤ _; omega) fun q F2 w2 _ hT2 => ?_
    rw [doS_p] at hT2
    exact hI _ _ (.inr ⟨rfl, F2, hT2⟩) (by show 1 - (1 : Int).toNat < 1 - (0 : Int).toNat; decide)
  · exact cond_f rfl (hK F1 w1 hT1)
theorem doS_7 (S : Sc) : S.doS (evQ 108 [7]) = S.turn 7 false := by kernel_rfl
theorem wrS_areas (S0 : Sc) : ∀ k, (wrS S0 k).areas.length ≤ S0.areas.length
  | 0 => Nat.le_refl _
  | k + 1 => by
    have := (fr_print (wrS S0 k) (48 + (k : Int) % 70)).ar
    have h := wrS_areas S0 k
    show ((wrS S0 k).print _).areas.length ≤ _
    omega
def wr0 (C : Nat) (wr : Bool) : Sc := if wr then newSc 40 C 10 else (newSc 40 C 10).turn 7 false
theorem wr0_L (C : Nat) (wr : Bool) : (wr0 C wr).g0.L = List.replicate 40 (newL C ⟨0, 0, 0⟩) := by cases wr <;> rfl
theorem wr0_tm {C : Nat} (hC : 2 ≤ C ∧ C ≤ 30) (wr : Bool) : Tm 40 C wr (wr0 C wr) := by
  refine ⟨by cases wr <;> rfl, by cases wr <;> rfl, by cases wr <;> rfl, by cases wr <;> rfl, by cases wr <;> kernel_rfl, by cases wr <;> rfl, by cases wr <;> rfl, by cases wr <;> rfl, ?_, ?_, by rw [wr0_L]; simp, by omega, by cases wr <;> rfl⟩
  · have e : (wr0 C wr).c.Row = 0 := by cases wr <;> rfl
    rw [e]
    omega
  · have e : (wr0 C wr).c.Col = 0 := by cases wr <;> rfl
    rw [e]
    omega
theorem wr0_wr {C : Nat} (hC : 2 ≤ C ∧ C ≤ 30) : WrI C 0 (wr0 C true) :=
  ⟨wr0_tm hC true, by show (0 : Int) = 0 * C + 0 + 0; omega, (fun e => by cases e), (fun _ h => by omega), rfl⟩
theorem wr0_nw {C : Nat} (hC : 2 ≤ C ∧ C ≤ 30) : NwI C 0 (wr0 C false) (wr0 C false) :=
  ⟨wr0_tm hC false, rfl, by show (0 : Int) = min 0 _; omega, rfl, .inl ⟨rfl, rfl⟩⟩
theorem wraps_law (hT : Tab w) (cols n : Int) (wraps : Bool) {K : Bool → World → Prop} (hK : ∀ w', Below w.heap.size w w' → K true w') : c_phosphorlaw17_ScreenWraps cols n wraps w K := by
  refine call_phosphorlaw17_ScreenWraps _ _ _ ?_
  unfold sh_phosphorlaw17_ScreenWraps
  refine known17_spec hT fun w1 hB1 => cond_f rfl (joinP_of fun J1 hJ1 => ?_)
  have hT1 := hT.ext hB1
  have done := hK w1 hB1
  refine cond_of (fun _ => done) fun c1 => cond_of (fun _ => done) fun c2 => cond_of (fun _ => done) fun c3 => cond_of (fun _ => done) fun c4 => hJ1 _ _ ?_
  have c1 := of_decide_eq_false c1
  have c2 := of_decide_eq_false c2
  have c3 := of_decide_eq_false c3
  have c4 := of_decide_eq_false c4
  obtain ⟨C, rfl⟩ : ∃ C : Nat, cols = C := ⟨cols.toNat, by omega⟩
  obtain ⟨N, rfl⟩ : ∃ N : Nat, n = N := ⟨n.toNat, by omega⟩
  have hC : 2 ≤ C ∧ C ≤ 30 := by omega
  refine made_spec (by omega) (by omega) fun g F w2 hM hB2 => cond_f rfl ?_
  rw [Int.toNat_natCast] at hM
  have h1b := tab_one hT1
  have hT2 := hT1.ext hB2
  obtain ⟨base, hbase⟩ : ∃ base, base = w1.heap.size := ⟨_, rfl⟩
  rw [← hbase] at hM h1b
  have s1 := hB1.size
  have hBe : ∀ {wx : World} {Fx : ScF} {Sx : Sc}, ScT base g w2 F Fx Sx wx → Below w.heap.size w wx := fun hx => hB1.trans ((hB2.trans (hbase ▸ ScT.belowB hM hx)).mono (by omega))
  refine joinP_of fun J2 hJ2 => ?_
  have key : ∀ (F3 : ScF) (w3 : World), ScT base g w2 F F3 (wr0 C wraps) w3 → J2 (()) w3 := by
    intro F3 w3 hT3
    refine hJ2 _ _ ?_
    have ar0 : (wr0 C wraps).areas.length = 0 := by cases wraps <;> rfl
    refine loopP_rule (fun (st : Int × Unit) w4 => ∃ (k : Nat) (F4 : ScF), st.1 = (k : Int) ∧ k ≤ N ∧ ScT base g w2 F F4 (wrS (wr0 C wraps) k) w4) (fun st => N - st.1.toNat) ⟨0, F3, rfl, Nat.zero_le _, hT3⟩ ?_
    rintro ⟨i, u⟩ w4 ⟨k, F4, hi, hk, hT4⟩ I hI
    dsimp only at hi ⊢
    subst hi
    have t4 := hT2.step hM h1b hT4
    have har := wrS_areas (wr0 C wraps) k
    refine cond_of (fun e => ?_) fun e => ?_
    · have e := of_decide_eq_true e
      refine ⟨by decide, ?_⟩
      refine nw_blk fun w5 hb5 hB5 hs5 => ?_
      have hT5 := hT4.ext hB5
      have em : IntKind.i64.wrap (48 + ((k : Int).tmod 70)) = 48 + (k : Int) % 70 := by
        rw [Int.tmod_eq_emod_of_nonneg (by omega)]
        exact wrap64_id (by omega)
      have hr := byte_rd hb5 em (by omega)
      refine toStr_spec hr ?_
      refine text_one hT5.m (t4.ext hB5) h1b (by omega) (by omega) fun F6 w6 hT6 => ?_
      rw [wrap64_id (x := (k : Int) + 1) (by omega)]
      exact hI _ _ ⟨k + 1, F6, by simp, by omega, hT5.trans hT6⟩ (by dsimp only; omega)
    · have e := of_decide_eq_false e
      have hkN : k = N := by omega
      subst hkN
      refine Cursor_spec hT4.m fun w5 hB5 => ?_
      have h5 := hT4.ext hB5
      refine box_of (vs := T_screen_Cursor.rep.cells (wrS (wr0 C wraps) k).c) rfl fun w6 hu6 hB6 hs6 => ?_
      have h6 := h5.ext hB6
      refine Grid_spec h6.m fun f7 w7 hg7 hf7 hM7 hB7 => ?_
      have h7 := h6.ext hB7
      have hGo := h7.m.gOk
      refine gText_spec hg7 hGo.len hGo.rows.2 (fun xs hx => by have := (hGo.L xs hx).2.1; have := hGo.cols.2; omega) fun r w8 hr hB8 => ?_
      have h8 := h7.ext hB8
      have hu8 := (hu6.ext hB7).ext hB8
      have B8 := hBe h8
      cases wraps
      · have hI := nw_all hC.1 (wr0_nw hC) (by rw [wr0_L, newL_eq (by omega)]; rfl) k (by omega)
        have eg : (wrS (wr0 C false) k).g = (wrS (wr0 C false) k).g0 := hI.tm.g
        rw [eg] at hr
        refine cond_t rfl (joinP_of fun J4 hJ4 => ?_)
        obtain ⟨A, hA, hAl, hL⟩ : ∃ A, Plain A ∧ A.length + 1 = min k C ∧ (wrS (wr0 C false) k).g0.L = (wr0 C false).g0.L.set 0 (nwL C A (48 + ((k : Int) - 1) % 70)) := by
          rcases hI.L with ⟨h0, _⟩ | h
          · omega
          · exact h
        have e0 : (wrS (wr0 C false) k).g0.L.map textS = strB (A.flatMap cellB ++ [u8 (48 + ((k : Int) - 1) % 70)]) :: strB [] :: (List.replicate 38 (newL C ⟨0, 0, 0⟩)).map textS := by
          rw [hL, wr0_L]
          show textS (nwL C A _) :: textS (newL C ⟨0, 0, 0⟩) :: _ = _
          have t0 : textS (nwL C A (48 + ((k : Int) - 1) % 70)) = strB (A.flatMap cellB ++ [u8 (48 + ((k : Int) - 1) % 70)]) := by
            unfold textS
            rw [nwL_text hA (by omega)]
            rfl
          have t1 : textS (newL C ⟨0, 0, 0⟩) = strB [] := by
            unfold textS
            rw [newL_eq (by omega), show (⟨0, 0, 0⟩ : Attr) = a0 from rfl, blank_text]
            rfl
          rw [t0, t1]
        rw [e0] at hr
        have hrr := hr.rd.drew
        have hud := hu8.drew
        have k4 : ∀ c : Int, c = (wrS (wr0 C false) k).c.Col → J4 (c, ()) w8 := by
          intro c hc
          refine hJ4 _ _ ⟨by decide, ?_⟩
          refine ldI_of (x := (wrS (wr0 C false) k).c.Row) (by rw [add_mk]; exact hud.cell 0 rfl) ?_
          refine cond_t (beq_iff_eq.2 hI.row) ?_
          refine ldI_of (x := (wrS (wr0 C false) k).c.Col) (by rw [add_mk]; exact hud.cell 1 rfl) ?_
          refine cond_t (beq_iff_eq.2 hc.symm) ?_
          refine ldB_of (x := (wrS (wr0 C false) k).c.Wrap) (by rw [add_mk]; exact hud.cell 2 rfl) ?_
          rw [hI.w]
          refine cond_t rfl ?_
          refine hrr.ix (i := 0) rfl (by decide) (by simp) fun hx => ldStr_of (by simpa using hx 0 _ rfl) ?_
          refine cond_t (by rw [strB_size]; simp) ?_
          refine hrr.ix (i := 0) rfl (by decide) (by simp) fun hx => ldStr_of (by simpa using hx 0 _ rfl) ?_
          refine hrr.ix (i := 0) rfl (by decide) (by simp) fun hx => ldStr_of (by simpa using hx 0 _ rfl) ?_
          have hll : (A.flatMap cellB).length ≤ 4 * A.length := flatB_length A
          refine ixS_of (k := (A.flatMap cellB).length) (b := u8 (48 + ((k : Int) - 1) % 70)) ?_ (by simp) ?_
          · rw [strB_size, List.length_append, List.length_singleton, wrap64_id (by omega)]
            omega
          · have em : IntKind.u8.wrap (IntKind.i64.wrap (48 + (IntKind.i64.wrap ((k : Int) - 1)).tmod 70)) = ((u8 (48 + ((k : Int) - 1) % 70)).toNat : Int) := by
              rw [wrap64_id (x := (k : Int) - 1) (by omega), Int.tmod_eq_emod_of_nonneg (by omega), wrap64_id (by omega), u8_toNat (by omega) (by omega)]
              obtain ⟨m, hm⟩ : ∃ m : Nat, 48 + ((k : Int) - 1) % 70 = m := ⟨(48 + ((k : Int) - 1) % 70).toNat, by omega⟩
              rw [hm]
              exact wrap_nat .u8 (by show _ < 2 ^ 8; omega)
            rw [em]
            refine cond_t (beq_self_eq_true _) ?_
            refine hrr.ix (i := 1) rfl (by decide) (by simp) fun hx => ldStr_of (x := strB []) (by simpa using hx 0 _ rfl) ?_
            have e1 : ((strB []).toList == (⟨#[]⟩ : ByteArray).toList) = true := beq_self_eq_true _
            rw [e1]
            exact hK _ B8.drew
        refine cond_of (fun e => ?_) fun e => ?_
        · have e := of_decide_eq_true e
          rw [wrap64_id (x := (C : Int) - 1) (by omega)] at e ⊢
          exact k4 _ (by rw [hI.col]; omega)
        · have e := of_decide_eq_false e
          rw [wrap64_id (x := (C : Int) - 1) (by omega)] at e
          exact k4 _ (by rw [hI.col]; omega)
      · have hI := wr_all hC.1 (wr0_wr hC) k (by omega)
        obtain ⟨l1, l2, l3⟩ := wr_end hC.1 hI (by omega)
        refine cond_f rfl ⟨by omega, by omega, by omega, joinP_of fun J5 hJ5 => ?_⟩
        have etm : ((k : Int).tmod C == 0) = decide (k % C = 0) := by
          rw [Int.tmod_eq_emod_of_nonneg (by omega)]
          by_cases h0 : k % C = 0
          · rw [decide_eq_true h0]
            refine beq_iff_eq.2 ?_
            omega
          · rw [decide_eq_false h0]
            refine beq_eq_false_iff_ne.2 ?_
            omega
        have k5 : ∀ a b : Int, a = (wrS (wr0 C true) k).c.Row → b = (wrS (wr0 C true) k).c.Col → J5 (a, b, ()) w8 := by
          intro a b ha hb
          refine hJ5 _ _ ?_
          refine ldI_of (x := (wrS (wr0 C true) k).c.Row) (by rw [add_mk]; exact hu8.cell 0 rfl) ?_
          refine cond_t (beq_iff_eq.2 ha.symm) ?_
          refine ldI_of (x := (wrS (wr0 C true) k).c.Col) (by rw [add_mk]; exact hu8.cell 1 rfl) ?_
          refine cond_t (beq_iff_eq.2 hb.symm) ?_
          refine ldB_of (x := (wrS (wr0 C true) k).c.Wrap) (by rw [add_mk]; exact hu8.cell 2 rfl) ?_
          rw [l1, etm]
          have : (decide (k % C = 0) == decide (k % C = 0)) = true := beq_self_eq_true _
          rw [this]
          exact hK _ B8
        have hdiv : (k : Int) / C ≤ k := Int.ediv_le_self _ (by omega)
        have hdiv0 : 0 ≤ (k : Int) / C := Int.ediv_nonneg (by omega) (by omega)
        have ed : (k : Int).tdiv C = (k : Int) / C := Int.tdiv_eq_ediv_of_nonneg (by omega)
        rw [etm, ed]
        refine cond_of (fun e => ?_) fun e => ?_
        · have e := of_decide_eq_true e
          rw [if_pos e] at l2 l3
          rw [wrap64_id (x := (k : Int) / C) (by omega), wrap64_id (x := (k : Int) / C - 1) (by omega), wrap64_id (x := (C : Int) - 1) (by omega)]
          exact k5 _ _ l2.symm l3.symm
        · have e := of_decide_eq_false e
          rw [if_neg e] at l2 l3
          rw [wrap64_id (x := (k : Int) / C) (by omega), Int.tmod_eq_emod_of_nonneg (by omega)]
          exact k5 _ _ l2.symm l3.symm
  cases wraps
  · refine cond_t rfl ?_
    refine nw_blk fun w4 hb4 hB4 hs4 => ?_
    have h4 := ScT.of_ext hM hB4
    have hn : ¬ scS g F w2.heap.size := fun hs => by have := (hM.below _ hs).2; omega
    refine Do_spec h4.m (evM_q (ParM.one h4.m hb4 (by unfold in64; omega) hn) (by omega)) (hT2.ext hB4) h1b (by show 0 + 1 ≤ _; omega) fun q F5 w5 _ hT5 => ?_
    rw [doS_7] at hT5
    exact key _ _ (h4.trans hT5)
  · exact cond_f rfl (key _ _ (ScT.refl hM))
end
end Go.Proofs.YtmoafafalnbkpaaGreatDoor

set_option linter.unusedVariables false
namespace Go.Proofs.YtmoafafalnbkpaaGreatDoor
open Go.Vc Go.RowKit
set_option maxRecDepth 400000
section
variable {R C : Nat} {wr : Bool} {S : Sc}
theorem Tm.bH (h : Tm R C wr S) {p : Int} (hp : 1 ≤ p ∧ p ≤ R) (hC : 1 ≤ C) (a : Attr) : S.bare a [p, 1] 72 = { S with c := { S.c with Row := p - 1, Col := 0, Wrap := false } } := by
  have hl := h.lim
  rw [bare_H]
  have e1 : paramP [p, 1] 0 1 = p := by
    show (if p = 0 then 1 else p) = p
    rw [if_neg (by omega)]
  have e2 : paramP [p, 1] 1 1 = 1 := rfl
  have e3 : S.asked p = p - 1 := by
    unfold Sc.asked
    rw [h.org]
    exact w64_of (by omega)
  rw [e1, e2, e3]
  exact h.to_eq (by omega) (by show 0 ≤ (0 : Int) ∧ (0 : Int) < C; omega)
theorem Tm.bM (h : Tm R C wr S) (hC : 1 ≤ C) {top past : Int} (ht : 0 ≤ top) (hp : 2 ≤ past ∧ past ≤ R) (htp : top ≤ past - 2) (a : Attr) :
    S.bare a [w64 (top + 1), past] 114 = { S with top := top, past := past, c := { S.c with Row := 0, Col := 0, Wrap := false } } := by
  have hl := h.lim
  rw [bare_r]
  have e1 : w64 (top + 1) = top + 1 := w64_of (by omega)
  have p1 : paramP [w64 (top + 1), past] 0 1 = top + 1 := by
    unfold paramP
    show (if w64 (top + 1) = 0 then 1 else w64 (top + 1)) = _
    rw [e1, if_neg (by omega)]
  have p2 : paramP [w64 (top + 1), past] 1 R = past := by
    unfold paramP
    show (if past = 0 then (R : Int) else past) = _
    rw [if_neg (by omega)]
  unfold Sc.margins
  dsimp only
  rw [h.g, h.rows, p1, p2]
  have e2 : w64 (top + 1 - 1) = top := by rw [show top + 1 - 1 = top by omega]; exact w64_of (by omega)
  rw [e2, cutP_self (v := top) (by omega) (by omega), cutP_self (v := past) (by omega) (by omega), w64_of (x := past - top) (by omega), if_neg (by omega)]
  have h2 : Tm R C wr { S with top := top, past := past } := ⟨h.alt, h.rows, h.cols, h.modes, h.wr, h.sets, h.shift, h.a, h.row, h.col, h.len, h.lim, h.org⟩
  unfold Sc.home
  have ho : ¬ ({ S with top := top, past := past } : Sc).c.Origin = true := fun hh => by rw [show ({ S with top := top, past := past } : Sc).c.Origin = S.c.Origin from rfl, h.org] at hh; cases hh
  rw [if_neg ho]
  exact h2.to_eq (row := 0) (by have := h.row; show 0 ≤ (0 : Int) ∧ (0 : Int) < R; omega) (by show 0 ≤ (0 : Int) ∧ (0 : Int) < C; omega)
end
theorem withG_f {S : Sc} (h : S.alt = false) (G : GS) : S.withG G = { S with g0 := G } := by
  unfold Sc.withG
  rw [if_neg (fun hh => by rw [h] at hh; cases hh)]
def blank3 : List Cell := List.replicate 3 (blankC a0)
structure LtI (R k : Nat) (S : Sc) : Prop where
  tm : Tm R 3 true S
  L : ∀ i, i < R → S.g0.L[i]? = some (if i < k then rowN 3 0 (65 + (i : Int)) else blank3)
  old : S.g0.old = []
  most : S.g0.most = 10
def ltS (S : Sc) (k : Nat) : Sc := { S with c := { S.c with Row := (k : Int), Col := 0, Wrap := false } }.print (65 + (k : Int))
theorem lt_step {R k : Nat} {S : Sc} (h : LtI R k S) (hR : R ≤ 20) (hk : k < R) : LtI R (k + 1) (ltS S k) := by
  have h1 := h.tm.at_ (row := (k : Int)) (col := 0) (by omega) (by omega) false
  have hp := h1.print_flat (r := 65 + (k : Int)) (by omega) rfl
  have hL : (ltS S k).g0.L = S.g0.L.set k (rowN 3 0 (65 + (k : Int))) := by
    have e : (ltS S k).g0.L = S.g0.L.set (Int.toNat (k : Int)) (resL (putP (S.g0.L.getD (Int.toNat (k : Int)) []) 0 (65 + (k : Int)) 1 ⟨0, 0, 0⟩) ((3 : Nat) : Int)) := by
      unfold ltS
      rw [hp.g0]
    have eg : S.g0.L.getD k [] = newL ((3 : Nat) : Int) a0 := by
      rw [List.getD_eq_getElem?_getD, h.L k hk, if_neg (by omega)]
      rfl
    rw [e, Int.toNat_natCast, eg]
    have := put_row (cols := 3) (c := 0) (r := 65 + (k : Int)) (by omega) (by omega) (by omega)
    rw [show (⟨0, 0, 0⟩ : Attr) = a0 from rfl, this]
    congr 1
  refine ⟨hp.tm, fun i hi => ?_, by unfold ltS; rw [hp.g0]; exact h.old, by unfold ltS; rw [hp.g0]; exact h.most⟩
  rw [hL, List.getElem?_set]
  by_cases hik : k = i
  · subst hik
    rw [if_pos rfl, if_pos (by rw [h.tm.len]; exact hi), if_pos (by omega)]
  · rw [if_neg hik, h.L i hi]
    by_cases hlt : i < k
    · rw [if_pos hlt, if_pos (by omega)]
    · rw [if_neg hlt, if_neg (by omega)]
/-- The row i when n lines are scrolled. -/
def wantM (top past n i : Nat) : List Cell := if top ≤ i ∧ i < past then (if i + n < past then rowN 3 0 (65 + ((i + n : Nat) : Int)) else blank3) else rowN 3 0 (65 + (i : Int))
structure SI (R top past n : Nat) (S : Sc) : Prop where
  tm : Tm R 3 true S
  row : S.c.Row = (past : Int) - 1
  tp : S.top = (top : Int)
  ps : S.past = (past : Int)
  most : S.g0.most = 10
  L : ∀ i, i < R → S.g0.L[i]? = some (wantM top past n i)
  old : S.g0.old.length = if top = 0 then min n 10 else 0
theorem pushL_len {old : List (List Cell)} {x : List Cell} (h : old.length ≤ 10) : (pushL 10 old x).length = min (old.length + 1) 10 := by
  unfold pushL
  rw [if_neg (by decide)]
  split
  · simp; omega
  · simp; omega
theorem si_step {R top past n : Nat} {S : Sc} (h : SI R top past n S) (hR : 2 ≤ R ∧ R ≤ 20) (hp : 2 ≤ past ∧ past ≤ R) (htp : top + 2 ≤ past) : SI R top past (n + 1) (S.control 10) := by
  have hm : S.dry.mode 20 = false := by
    unfold Sc.mode
    rw [show S.dry.modes = S.modes from rfl, h.tm.modes]
    rfl
  have hM : scrollM (top : Int) past 1 = 1 := by
    unfold scrollM
    rw [if_neg (by decide)]
    omega
  have hbad : ¬ scrollBad R (top : Int) past 1 := by unfold scrollBad; omega
  have hi : S.index = { S.dry with g0 := scrollG S.g0 (top : Int) past 1 a0 } := by
    unfold Sc.index
    rw [h.row, h.ps, w64_of (x := (past : Int) - 1) (by omega), if_pos rfl, h.tp]
    unfold Sc.scroll
    rw [h.tm.dry.g]
    have eb : S.dry.blank = a0 := by
      unfold Sc.blank
      rw [h.tm.dry.a]
      rfl
    rw [eb]
    exact withG_f h.tm.dry.alt _
  have hc : S.control 10 = S.index := by
    unfold Sc.control
    rw [if_neg (by decide), if_neg (by decide), if_pos (.inl rfl), if_neg ?_]
    rw [hi]
    intro hh
    have : S.dry.mode 20 = true := hh
    rw [hm] at this
    cases this
  have e0 : S.dry.g0 = S.g0 := rfl
  have hG : scrollG S.g0 (top : Int) past 1 a0 = if (top : Int) = 0 then { S.g0 with L := scrollL S.g0.cols S.g0.L top past 1 a0, old := pushAll S.g0.most S.g0.old (S.g0.L.take 1), top := IntKind.i64.wrap (S.g0.top + (1 : Nat)) } else { S.g0 with L := scrollL S.g0.cols S.g0.L top past 1 a0 } := by
    have hnb : ¬ scrollBad S.g0.rows (top : Int) past 1 := by rw [h.tm.rows]; exact hbad
    unfold scrollG
    rw [if_neg hnb, hM]
    by_cases ht : (top : Int) = 0
    · rw [if_pos ⟨by decide, ht⟩, if_pos ht]
    · rw [if_neg (fun hh => ht hh.2), if_neg ht]
  rw [hc, hi]
  have gr : (scrollG S.g0 (top : Int) past 1 a0).rows = R := by rw [hG]; split <;> exact h.tm.rows
  have gc : (scrollG S.g0 (top : Int) past 1 a0).cols = 3 := by rw [hG]; split <;> exact h.tm.cols
  have gm : (scrollG S.g0 (top : Int) past 1 a0).most = 10 := by rw [hG]; split <;> exact h.most
  have gL : (scrollG S.g0 (top : Int) past 1 a0).L = scrollL 3 S.g0.L top past 1 a0 := by
    have : scrollL S.g0.cols S.g0.L top past 1 a0 = scrollL 3 S.g0.L top past 1 a0 := by rw [h.tm.cols]
    rw [hG]
    split <;> exact this
  have get : ∀ i, i < R → (scrollL 3 S.g0.L top past 1 a0)[i]? = some (wantM top past (n + 1) i) := by
    intro i hiR
    rw [scrollL_get h.tm.len hbad, hM]
    unfold wantM
    by_cases hin : top ≤ i ∧ i < past
    · rw [if_neg (by omega), if_pos (by decide), if_pos hin]
      by_cases h1 : i + 1 < past
      · rw [if_pos (by omega), h.L (i + 1) (by omega)]
        unfold wantM
        rw [if_pos (by omega), show i + 1 + n = i + (n + 1) by omega]
      · rw [if_neg (by omega), if_neg (by omega)]
        rfl
    · rw [if_pos (by omega), h.L i hiR, if_neg hin]
      unfold wantM
      rw [if_neg hin]
  have gl : (scrollL 3 S.g0.L top past 1 a0).length = R := by
    refine Nat.le_antisymm ?_ ?_
    · refine Nat.le_of_not_lt fun hlt => ?_
      have := scrollL_get (cols := 3) (a := a0) h.tm.len hbad R
      rw [if_pos (by omega), List.getElem?_eq_getElem hlt, List.getElem?_eq_none (Nat.le_of_eq h.tm.len)] at this
      cases this
    · obtain ⟨R', rfl⟩ : ∃ R', R = R' + 1 := ⟨R - 1, by omega⟩
      have := get R' (by omega)
      have := (List.getElem?_eq_some_iff.1 this).1
      omega
  refine ⟨⟨h.tm.alt, gr, gc, h.tm.modes, h.tm.wr, h.tm.sets, h.tm.shift, h.tm.a, h.tm.row, h.tm.col, ?_, h.tm.lim, h.tm.org⟩, h.row, h.tp, h.ps, gm, ?_, ?_⟩
  · show (scrollG S.g0 (top : Int) past 1 a0).L.length = R
    rw [gL]
    exact gl
  · intro i hiR
    show (scrollG S.g0 (top : Int) past 1 a0).L[i]? = _
    rw [gL]
    exact get i hiR
  · show (scrollG S.g0 (top : Int) past 1 a0).old.length = _
    rw [hG]
    have ho := h.old
    by_cases ht : top = 0
    · rw [if_pos ht] at ho
      rw [if_pos (by omega), if_pos ht]
      have h0 := h.L 0 (by omega)
      have et : S.g0.L.take 1 = [wantM top past n 0] := by rw [List.take_add_one, h0]; rfl
      show (pushAll S.g0.most S.g0.old (S.g0.L.take 1)).length = _
      rw [et, h.most]
      show (pushL 10 S.g0.old _).length = _
      rw [pushL_len (by omega), ho]
      omega
    · rw [if_neg ht] at ho
      rw [if_neg (by omega), if_neg ht]
      exact ho
theorem row_text {r : Int} (h : 33 ≤ r ∧ r ≤ 126) : trimR (textB (rowN 3 0 r)) = [u8 r] := nwL_text (C := 3) (A := []) (fun c hc => by cases hc) h
theorem blank3_text : trimR (textB blank3) = [] := blank_text 3
end Go.Proofs.YtmoafafalnbkpaaGreatDoor

set_option linter.unusedVariables false
namespace Go.Proofs.YtmoafafalnbkpaaGreatDoor
open Go.Vc Go.RowKit
set_option maxRecDepth 400000
def evX (b : Int) : Ev := ⟨2, 0, b, 0, [], []⟩
theorem doS_lf (S : Sc) : S.doS (evX 10) = S.control 10 := by kernel_rfl
section
variable {w w' : World} {base g : Nat} {F F' : ScF} {S S' : Sc}
theorem evM_x (w : World) (g : Nat) (F : ScF) {b : Int} (hb : 0 ≤ b ∧ b ≤ 255) : EvM w g F ⟨2, 0, b, 0, ⟨#[]⟩, ⟨none, 0, 0⟩, ⟨none, 0, 0⟩⟩ (evX b) :=
  ⟨rfl, rfl, rfl, rfl, rfl, ParM.nil _ _ _, hb, ⟨Int.le_refl 0, by show (0 : Int) ≤ 255; omega⟩, by show (0 : Nat) ≤ _; omega⟩
theorem lt0 {R : Nat} (hR : 2 ≤ R ∧ R ≤ 20) : LtI R 0 (newSc R 3 10) := by
  refine ⟨⟨rfl, rfl, rfl, rfl, by kernel_rfl, rfl, rfl, rfl, ?_, ?_, ?_, by omega, rfl⟩, fun i hi => ?_, rfl, rfl⟩
  · show 0 ≤ (0 : Int) ∧ (0 : Int) < R
    omega
  · show 0 ≤ (0 : Int) ∧ (0 : Int) < ((3 : Nat) : Int)
    omega
  · show (List.replicate R (newL ((3 : Nat) : Int) ⟨0, 0, 0⟩)).length = R
    rw [List.length_replicate]
  · show (List.replicate R (newL ((3 : Nat) : Int) ⟨0, 0, 0⟩))[i]? = _
    rw [List.getElem?_replicate, if_pos hi, if_neg (by omega)]
    rfl
theorem want0 (top past i : Nat) : wantM top past 0 i = rowN 3 0 (65 + (i : Int)) := by
  unfold wantM
  by_cases h : top ≤ i ∧ i < past
  · rw [if_pos h, if_pos (by omega)]
    rfl
  · rw [if_neg h]
theorem margins_law (hT : Tab w) (rows top past n : Int) {K : Bool → World → Prop} (hK : ∀ w', Below w.heap.size w w' → K true w') : c_phosphorlaw17_ScreenMargins rows top past n w K := by
  refine call_phosphorlaw17_ScreenMargins _ _ _ _ ?_
  unfold sh_phosphorlaw17_ScreenMargins
  refine known17_spec hT fun w1 hB1 => cond_f rfl (joinP_of fun J1 hJ1 => ?_)
  have hT1 := hT.ext hB1
  have done := hK w1 hB1
  refine cond_of (fun _ => done) fun c1 => cond_of (fun _ => done) fun c2 => cond_of (fun _ => done) fun c3 => cond_of (fun _ => done) fun c4 => cond_of (fun _ => done) fun c5 => cond_of (fun _ => done) fun c6 => cond_of (fun _ => done) fun c7 => cond_of (fun _ => done) fun c8 => hJ1 _ _ ?_
  have c1 := of_decide_eq_false c1
  have c2 := of_decide_eq_false c2
  have c3 := of_decide_eq_false c3
  have c4 := of_decide_eq_false c4
  have c5 := of_decide_eq_false c5
  have c6 := of_decide_eq_false c6
  have c7 := of_decide_eq_false c7
  have c8 := of_decide_eq_false c8
  rw [wrap64_id (x := past - 2) (by omega)] at c6
  obtain ⟨R, rfl⟩ : ∃ R : Nat, rows = R := ⟨rows.toNat, by omega⟩
  obtain ⟨T, rfl⟩ : ∃ T : Nat, top = T := ⟨top.toNat, by omega⟩
  obtain ⟨P, rfl⟩ : ∃ P : Nat, past = P := ⟨past.toNat, by omega⟩
  obtain ⟨N, rfl⟩ : ∃ N : Nat, n = N := ⟨n.toNat, by omega⟩
  have hR : 2 ≤ R ∧ R ≤ 20 := by omega
  refine made_spec (by omega) (by omega) fun g F w2 hM hB2 => cond_f rfl ?_
  rw [Int.toNat_natCast] at hM
  have h1b := tab_one hT1
  have hT2 := hT1.ext hB2
  obtain ⟨base, hbase⟩ : ∃ base, base = w1.heap.size := ⟨_, rfl⟩
  rw [← hbase] at hM h1b
  have s1 := hB1.size
  have hBe : ∀ {wx : World} {Fx : ScF} {Sx : Sc}, ScT base g w2 F Fx Sx wx → Below w.heap.size w wx := fun hx => hB1.trans ((hB2.trans (hbase ▸ ScT.belowB hM hx)).mono (by omega))
  refine loopP_rule (fun (st : Int × Unit) w4 => ∃ (k : Nat) (F4 : ScF) (S4 : Sc), st.1 = (k : Int) ∧ k ≤ R ∧ ScT base g w2 F F4 S4 w4 ∧ LtI R k S4 ∧ S4.areas.length ≤ 0) (fun st => R - st.1.toNat) ⟨0, F, _, rfl, Nat.zero_le _, ScT.refl hM, lt0 hR, Nat.le_refl _⟩ ?_
  rintro ⟨i, u⟩ w4 ⟨k, F4, S4, hi, hk, hT4, hl4, a4⟩ I hI
  dsimp only at hi ⊢
  subst hi
  have t4 := hT2.step hM h1b hT4
  refine cond_of (fun e => ?_) fun e => ?_
  · have e := of_decide_eq_true e
    rw [wrap64_id (x := (k : Int) + 1) (by omega), wrap64_id (x := 65 + (k : Int)) (by omega)]
    refine csi2 hT4.m t4 h1b (by unfold in64; omega) (by unfold in64; omega) (by omega) (by omega) fun F5 w5 hT5 => ?_
    rw [hl4.tm.bH (by omega) (by omega), show (k : Int) + 1 - 1 = k by omega] at hT5
    have h5 := hT4.trans hT5
    refine nw_blk fun w6 hb6 hB6 hs6 => ?_
    have h6 := h5.ext hB6
    refine toStr_spec (byte_rd (v := 65 + (k : Int)) hb6 rfl (by omega)) ?_
    refine text_one h6.m (hT2.step hM h1b h6) h1b (by omega) (by show S4.areas.length ≤ _; omega) fun F7 w7 hT7 => ?_
    have har := (fr_print ({ S4 with c := { S4.c with Row := (k : Int), Col := 0, Wrap := false } } : Sc) (65 + (k : Int))).ar
    exact hI _ _ ⟨k + 1, F7, ltS S4 k, by simp, by omega, h6.trans hT7, lt_step hl4 hR.2 (by omega), Nat.le_trans har a4⟩ (by dsimp only; omega)
  · have e := of_decide_eq_false e
    have hkR : k = R := by omega
    subst hkR
    refine csi2 hT4.m t4 h1b (ScM.w64n _) (by unfold in64; omega) (by omega) (by omega) fun F5 w5 hT5 => ?_
    have eM := hl4.tm.bM (by omega) (top := (T : Int)) (past := (P : Int)) (by omega) (by omega) (by omega) (applyP S4.c.A [w64 ((T : Int) + 1), P])
    have hT5 : ScT base g w4 F4 F5 (S4.bare (applyP S4.c.A [w64 ((T : Int) + 1), P]) [w64 ((T : Int) + 1), P] 114) w5 := hT5
    rw [eM] at hT5
    have h5 := hT4.trans hT5
    have tm5 : Tm k 3 true ({ S4 with top := (T : Int), past := (P : Int), c := { S4.c with Row := 0, Col := 0, Wrap := false } } : Sc) :=
      ⟨hl4.tm.alt, hl4.tm.rows, hl4.tm.cols, hl4.tm.modes, hl4.tm.wr, hl4.tm.sets, hl4.tm.shift, hl4.tm.a, by show 0 ≤ (0 : Int) ∧ (0 : Int) < k; omega, by show 0 ≤ (0 : Int) ∧ (0 : Int) < ((3 : Nat) : Int); omega, hl4.tm.len, hl4.tm.lim, hl4.tm.org⟩
    refine csi2 h5.m (hT2.step hM h1b h5) h1b (by unfold in64; omega) (by unfold in64; omega) (by omega) (by show S4.areas.length ≤ _; omega) fun F6 w6 hT6 => ?_
    rw [tm5.bH (by omega) (by omega)] at hT6
    have h6 := h5.trans hT6
    obtain ⟨S6, hS6⟩ : ∃ S6 : Sc, S6 = { ({ S4 with top := (T : Int), past := (P : Int), c := { S4.c with Row := 0, Col := 0, Wrap := false } } : Sc) with c := { ({ S4 with top := (T : Int), past := (P : Int), c := { S4.c with Row := 0, Col := 0, Wrap := false } } : Sc).c with Row := (P : Int) - 1, Col := 0, Wrap := false } } := ⟨_, rfl⟩
    have a6 : S6.areas.length ≤ 0 := by rw [hS6]; exact a4
    have si6 : SI k T P 0 S6 := by
      rw [hS6]
      refine ⟨tm5.at_ (by omega) (by omega) false, rfl, rfl, rfl, hl4.most, fun i hi => ?_, ?_⟩
      · rw [want0]
        have := hl4.L i hi
        rw [if_pos hi] at this
        exact this
      · show S4.g0.old.length = _
        rw [hl4.old]
        split
        · rfl
        · rfl
    have h6' : ScT base g w2 F F6 S6 w6 := by rw [hS6]; exact h6
    clear hS6
    refine loopP_rule (fun (st : Int × Unit) w7 => ∃ (j : Nat) (F7 : ScF) (S7 : Sc), st.1 = (j : Int) ∧ j ≤ N ∧ ScT base g w2 F F7 S7 w7 ∧ SI k T P j S7 ∧ S7.areas.length ≤ 0) (fun st => N - st.1.toNat) ⟨0, F6, S6, rfl, Nat.zero_le _, h6', si6, a6⟩ ?_
    rintro ⟨i, u⟩ w7 ⟨j, F7, S7, hi, hj, hT7, si7, a7⟩ I hI
    dsimp only at hi ⊢
    subst hi
    have t7 := hT2.step hM h1b hT7
    refine cond_of (fun e => ?_) fun e => ?_
    · have e := of_decide_eq_true e
      refine Do_spec hT7.m (evM_x _ _ _ (b := 10) (by omega)) t7 h1b (by show _ + 0 ≤ _; omega) fun q F8 w8 _ hT8 => ?_
      rw [doS_lf] at hT8
      rw [wrap64_id (x := (j : Int) + 1) (by omega)]
      exact hI _ _ ⟨j + 1, F8, _, by simp, by omega, hT7.trans hT8, si_step si7 hR (by omega) (by omega), Nat.le_trans (fr_control S7 10).ar a7⟩ (by dsimp only; omega)
    · have e := of_decide_eq_false e
      have hjN : j = N := by omega
      subst hjN
      refine Grid_spec hT7.m fun f8 w8 hg8 hf8 hM8 hB8 => ?_
      have h8 := hT7.ext hB8
      have hGo := h8.m.gOk
      refine gText_spec hg8 hGo.len hGo.rows.2 (fun xs hx => by have := (hGo.L xs hx).2.1; have := hGo.cols.2; omega) fun r w9 hr hB9 => ?_
      have h9 := h8.ext hB9
      rw [si7.tm.g] at hr
      have hrn : r.n = k := by rw [hr.rd.n, List.length_map, si7.tm.len]
      refine cond_f (by rw [hrn]; simp) ?_
      have tx : ∀ i, i < k → (S7.g0.L.map textS)[i]? = some (strB (trimR (textB (wantM T P j i)))) := fun i hi => by
        rw [List.getElem?_map, si7.L i hi]
        rfl
      refine loopP_rule (fun (st : Int × Unit) w10 => ∃ i : Nat, st.1 = (i : Int) ∧ i ≤ k ∧ Below w9.heap.size w9 w10) (fun st => k - st.1.toNat) ⟨0, rfl, Nat.zero_le _, Below.refl _ _⟩ ?_
      rintro ⟨i, u⟩ w10 ⟨i, hi, hik, hB10⟩ I hI
      dsimp only at hi ⊢
      subst hi
      refine cond_of (fun e => ?_) fun e => ?_
      · have e := of_decide_eq_true e
        have hlt : i < k := by omega
        rw [wrap64_id (x := 65 + (i : Int)) (by omega)]
        refine nw_blk fun w11 hb11 hB11 hs11 => toStr_spec (byte_rd (v := 65 + (i : Int)) hb11 rfl (by omega)) ?_
        have B11 := below_t hB10 hB11
        refine joinP_of fun J5 hJ5 => ?_
        have k5 : ∀ w12, Below w9.heap.size w9 w12 → J5 (strB (trimR (textB (wantM T P j i))), ()) w12 := by
          intro w12 B12
          refine hJ5 _ _ ?_
          have hr12 := hr.rd.ext B12
          have hg := tx i hlt
          refine hr12.ix (i := (i : Int)) rfl (by omega) (by rw [List.length_map, si7.tm.len]; omega) fun hx => ldStr_of (x := strB (trimR (textB (wantM T P j i)))) ?_ ?_
          · have e1 : (S7.g0.L.map textS)[(i : Int).toNat]'(by rw [List.length_map, si7.tm.len]; omega) = strB (trimR (textB (wantM T P j i))) := by
              have := List.getElem?_eq_some_iff.1 hg
              exact this.2
            rw [e1] at hx
            simpa using hx 0 _ rfl
          · refine cond_f (by simp) ?_
            rw [wrap64_id (x := (i : Int) + 1) (by omega)]
            exact hI _ _ ⟨i + 1, by simp, by omega, B12⟩ (by dsimp only; omega)
        refine joinP_of fun J6 hJ6 => ?_
        have out : ¬ (T ≤ i ∧ i < P) → J6 (false, ()) w11 := by
          intro hn
          refine hJ6 _ _ (cond_f rfl ?_)
          have := k5 w11 B11
          unfold wantM at this
          rw [if_neg hn, row_text (by omega)] at this
          exact this
        refine cond_of (fun f1 => ?_) fun f1 => ?_
        · have f1 := of_decide_eq_true f1
          by_cases hp : i < P
          · rw [decide_eq_true (by omega : (i : Int) < P)]
            refine hJ6 _ _ (cond_t rfl ?_)
            rw [wrap64_id (x := (i : Int) + j) (by omega)]
            refine cond_of (fun f2 => ?_) fun f2 => ?_
            · have f2 := of_decide_eq_true f2
              rw [wrap64_id (x := 65 + (i : Int) + j) (by omega)]
              refine nw_blk fun w12 hb12 hB12 hs12 => toStr_spec (byte_rd (v := 65 + ((i + j : Nat) : Int)) hb12 (by omega) (by omega)) ?_
              have := k5 w12 (below_t B11 hB12)
              unfold wantM at this
              rw [if_pos (by omega), if_pos (by omega), row_text (by omega)] at this
              exact this
            · have f2 := of_decide_eq_false f2
              have := k5 w11 B11
              unfold wantM at this
              rw [if_pos (by omega), if_neg (by omega), blank3_text] at this
              exact this
          · rw [decide_eq_false (by omega : ¬ (i : Int) < P)]
            exact out (by omega)
        · have f1 := of_decide_eq_false f1
          exact out (by omega)
      · have h10 := h9.ext hB10
        refine joinP_of fun J7 hJ7 => ?_
        have k7 : ∀ b : Int, b = (if T = 0 then (j : Int) else 0) → J7 (b, ()) w10 := by
          intro b hb
          refine hJ7 _ _ (joinP_of fun J8 hJ8 => ?_)
          have k8 : ∀ b : Int, b = (S7.g0.old.length : Int) → J8 (b, ()) w10 := by
            intro b hb
            refine hJ8 _ _ ?_
            refine Grid_spec h10.m fun f11 w11 hg11 hf11 hM11 hB11 => ?_
            have h11 := h10.ext hB11
            refine gBack_spec hg11 ?_
            rw [si7.tm.g]
            refine cond_t (beq_iff_eq.2 hb.symm) ?_
            refine Cursor_spec h11.m fun w12 hB12 => ?_
            have ec : (S7.c.Row == IntKind.i64.wrap ((P : Int) - 1)) = true := by
              rw [wrap64_id (by omega)]
              exact beq_iff_eq.2 si7.row
            rw [ec]
            exact hK _ (hBe (h11.ext hB12))
          have ho := si7.old
          dsimp only
          refine cond_of (fun f => ?_) fun f => ?_
          · have f := of_decide_eq_true f
            refine k8 _ ?_
            split at hb
            · rw [if_pos (by assumption)] at ho
              omega
            · omega
          · have f := of_decide_eq_false f
            refine k8 _ ?_
            split at hb
            · rw [if_pos (by assumption)] at ho
              omega
            · rw [if_neg (by assumption)] at ho
              omega
        refine cond_of (fun f => ?_) fun f => ?_
        · have f := eq_of_beq f
          exact k7 _ (by rw [if_pos (by omega)])
        · have f := beq_eq_false_iff_ne.1 f
          exact k7 _ (by rw [if_neg (by omega)])
end
end Go.Proofs.YtmoafafalnbkpaaGreatDoor

set_option linter.unusedVariables false
namespace Go.Proofs.YtmoafafalnbkpaaGreatDoor
open Go.Vc Go.RowKit
set_option maxRecDepth 400000
theorem g_rows {S : Sc} (ok : ScOk S) : S.g.rows = S.g0.rows := by
  unfold Sc.g
  split
  · exact ok.rows
  · rfl
theorem g_cols {S : Sc} (ok : ScOk S) : S.g.cols = S.g0.cols := by
  unfold Sc.g
  split
  · exact ok.cols
  · rfl
theorem g_back {S : Sc} (ok : ScOk S) {n : Nat} (h0 : S.g0.most = n) (h1 : S.g1.most = 0) : S.g.old.length ≤ n := by
  have a := ok.g0.olen
  have b := ok.g1.olen
  unfold Sc.g
  split
  · omega
  · omega
section
variable {w w' : World} {base g : Nat} {F F' : ScF} {S S' : Sc} {l : Slc} {xs : List ActT}
theorem bounds_law (hT : Tab w) (c : T_api_Config) (ha : ActF w l xs) {K : Bool → World → Prop} (hK : ∀ w', Below w.heap.size w w' → K true w') : c_phosphorlaw17_ScreenBounds c l w K := by
  refine call_phosphorlaw17_ScreenBounds _ _ ?_
  unfold sh_phosphorlaw17_ScreenBounds
  refine nw_blk fun w1 hc1 hB1 hs1 => ?_
  refine known17_spec (hT.ext hB1) fun w2 hB2 => cond_f rfl (joinP_of fun J1 hJ1 => ?_)
  have B2 := below_t hB1 hB2
  refine Few_spec (ha.ext B2) fun b3 w3 hB3 hF3 => ?_
  have B3 := below_t B2 hB3
  refine cond_of (fun _ => hK _ B3) fun e3 => ?_
  have hF3 := hF3 (by revert e3; cases b3 <;> simp)
  have hc3 := (hc1.ext hB2).ext hB3
  refine ldS_of (r := T_api_Config.rep) (x := c) hc3.cells ?_
  refine Small_spec fun b5 w5 hB5 hS5 => ?_
  have B5 := below_t B3 hB5
  refine cond_of (fun _ => hK _ B5) fun e5 => hJ1 _ _ ?_
  obtain ⟨hok, hr30, hc60⟩ := hS5 (by revert e5; cases b5 <;> simp)
  have hc5 := hc3.ext hB5
  refine ldS_of (r := T_api_Config.rep) (x := c) hc5.cells ?_
  refine sNew_spec (fun hbad => absurd hok hbad) fun _ g F w6 hM hB6 => ?_
  have B6 := below_t B5 hB6
  have hT5 := hT.ext B5
  have h1b := tab_one hT5
  have s5 := B5.size
  refine joinP_of fun J2 hJ2 => cond_f rfl (cond_f rfl (hJ2 _ _ ?_))
  have hT6 := hT5.ext hB6
  have hlen : l.n = xs.length := ha.rd.n
  obtain ⟨base, hbase⟩ : ∃ base, base = w5.heap.size := ⟨_, rfl⟩
  have hBc : ∀ {wx : World} {Fx : ScF} {Sx : Sc}, ScT base g w6 F Fx Sx wx → Below w5.heap.size w5 wx := fun hx => hB6.trans (hbase ▸ ScT.belowB (hbase ▸ hM) hx)
  rw [← hbase] at hM h1b s5
  have hBe : ∀ {wx : World} {Fx : ScF} {Sx : Sc}, ScT base g w6 F Fx Sx wx → Below w.heap.size w wx := fun hx => B6.trans ((ScT.belowB hM hx).mono s5)
  have hk2 := hF3.1
  refine loopP_rule (fun (st : Int × Unit) w7 => ∃ (k : Nat) (F7 : ScF) (S7 : Sc), st.1 = (k : Int) ∧ k ≤ xs.length ∧ ScT base g w6 F F7 S7 w7 ∧ S7.areas.length ≤ 65538 * k ∧ S7.g0.most = c.Back.toNat ∧ S7.g1.most = 0) (fun st => xs.length - st.1.toNat) ⟨0, F, _, rfl, Nat.zero_le _, ScT.refl hM, Nat.le_refl _, rfl, rfl⟩ ?_
  rintro ⟨i, u⟩ w7 ⟨k, F7, S7, hi, hk, hT7, ha7, hm0, hm1⟩ I hI
  dsimp only at hi ⊢
  subst hi
  have B7 := hBe hT7
  have t7 := hT6.step hM h1b hT7
  refine cond_of (fun e => ?_) fun e => hK _ B7
  have e := of_decide_eq_true e
  have hlt : k < xs.length := by omega
  obtain ⟨x, hx⟩ : ∃ x, xs[k]? = some x := ⟨_, List.getElem?_eq_getElem hlt⟩
  have hxm := List.mem_of_getElem? hx
  have ix : ∀ {w2 : World} {K : Addr → Prop}, Below w.heap.size w w2 → (cellsAt w2 (l.at_ 10 k) (actE.cells x) → K (l.at_ 10 k)) → ixK l k 10 K := fun hB2 hK2 => act_ix (ha.ext hB2) hlt fun y hy hc => by
    rw [hx] at hy
    cases hy
    exact hK2 hc
  refine joinP_of fun J4 hJ4 => ?_
  have key : ∀ (F8 : ScF) (S8 : Sc) (w8 : World), ScT base g w6 F F8 S8 w8 → S8.areas.length ≤ 65538 * (k + 1) → S8.g0.most = c.Back.toNat → S8.g1.most = 0 → J4 (()) w8 := by
    intro F8 S8 w8 hT8 ha8 hm0 hm1
    refine hJ4 _ _ ?_
    refine Grid_spec hT8.m fun f9 w9 hg9 hf9 hM9 hB9 => cond_f rfl ?_
    have h9 := hT8.ext hB9
    refine gSize_spec hg9 ?_
    have h9d := h9.drew
    refine Cursor_spec h9d.m fun w10 hB10 => ?_
    have h10 := h9d.ext hB10
    refine box_of (vs := T_screen_Cursor.rep.cells S8.c) rfl fun w11 hu11 hB11 hs11 => ?_
    have h11 := h10.ext hB11
    have hg11 := (hg9.drew.ext hB10).ext hB11
    refine Margins_spec h11.m ?_
    have ok := h11.m.ok
    have er := g_rows ok
    have ec := g_cols ok
    have okr := ok.row
    have okc := ok.col
    have okt := ok.top
    have okm := ok.marg
    have lim := ok.g0.rows
    have hud := hu11.drew.drew
    have hgd := hg11.drew.drew
    have h11d := h11.drew.drew
    have hc11 : Blk w11.drew.drew w.heap.size ty_api_Config (T_api_Config.rep.cells c) := hc5.ext (hBc h11d)
    rw [er, ec]
    refine joinP_of fun J5 hJ5 => ?_
    have k5 : J5 (()) w11.drew.drew := by
      refine hJ5 _ _ ?_
      have hGo := h11.m.gOk
      refine loopP_rule (fun (st : Int × Unit) w12 => ∃ j : Nat, st.1 = (j : Int) ∧ j ≤ S8.g0.rows ∧ Below w11.drew.drew.heap.size w11.drew.drew w12) (fun st => S8.g0.rows - st.1.toNat) ⟨0, rfl, Nat.zero_le _, Below.refl _ _⟩ ?_
      rintro ⟨j, u⟩ w12 ⟨j, hj, hjr, hB12⟩ I6 hI6
      dsimp only at hj ⊢
      subst hj
      refine cond_of (fun f => ?_) fun f => ?_
      · have f := of_decide_eq_true f
        refine gLine_spec (hgd.ext hB12) hGo.len (fun ys hys => by have := (hGo.L ys hys).2.1; have := hGo.cols.2; omega) (fun s ys w13 _ hys ho hB13 => ?_) fun hbad => absurd ⟨by omega, by rw [er]; omega⟩ hbad
        obtain ⟨r1, r2, _⟩ := hGo.L ys (List.mem_of_getElem? hys)
        have hn : s.n = S8.g0.cols := by rw [ho.rd.n, r2, ec]
        refine cond_f (by rw [hn]; simp) ?_
        refine Right_spec ho.rd fun w14 hB14 => ?_
        rw [r1]
        refine cond_f rfl ?_
        rw [wrap64_id (x := (j : Int) + 1) (by omega)]
        exact hI6 _ _ ⟨j + 1, by simp, by omega, below_t (below_t hB12 hB13) hB14⟩ (by dsimp only; omega)
      · rw [wrap64_id (x := (k : Int) + 1) (by omega)]
        exact hI _ _ ⟨k + 1, F8, S8, by simp, by omega, h11d.ext hB12, ha8, hm0, hm1⟩ (by dsimp only; omega)
    have fin : ldI .i64 ((⟨w.heap.size, 0, none⟩ : Addr).add 4) w11.drew.drew fun t149 => c_grid_Grid_Back (some ⟨f9.g, 0, none⟩) w11.drew.drew fun t147 w18 => World.cell? w18 ((⟨w.heap.size, 0, none⟩ : Addr).add 4) = some (.int .i64 t149) ∧ cond (decide (t147 > t149)) (K false w18) (J5 (()) w18) := by
      refine ldI_of (x := c.Back) (hc11.cells 4 _ rfl) ?_
      refine gBack_spec hgd ⟨hc11.cells 4 _ rfl, ?_⟩
      have hb := g_back ok hm0 hm1
      have hbk := hok.2.2.2.2.1
      refine cond_f (decide_eq_false ?_) k5
      omega
    refine ldI_of (x := S8.c.Row) (by rw [add_mk]; exact hud.cell 0 rfl) (cond_f (decide_eq_false (by omega)) ?_)
    refine ldI_of (x := S8.c.Row) (by rw [add_mk]; exact hud.cell 0 rfl) (cond_f (decide_eq_false (by omega)) ?_)
    refine ldI_of (x := S8.c.Col) (by rw [add_mk]; exact hud.cell 1 rfl) (cond_f (decide_eq_false (by omega)) ?_)
    refine ldI_of (x := S8.c.Col) (by rw [add_mk]; exact hud.cell 1 rfl) (cond_f (decide_eq_false (by omega)) ?_)
    refine cond_f (decide_eq_false (by omega)) (cond_f (decide_eq_false (by omega)) ?_)
    rw [wrap64_id (x := S8.past - S8.top) (by omega)]
    refine cond_f (decide_eq_false (by omega)) ?_
    refine cond_of (fun f => ?_) fun f => fin
    have f := of_decide_eq_true f
    exact cond_f (decide_eq_false (by have := okm (by omega); omega)) fin
  refine ix B7 fun hc => ldI_of (x := x.Op) (hc 0 _ rfl) ?_
  have B7d := B7.drew
  have h7d := hT7.drew
  refine cond_of (fun f => ?_) fun f => cond_of (fun f2 => ?_) fun f2 => ?_
  · refine ix B7d fun hc => ldI_of (x := x.Rows) (hc 8 _ rfl) ?_
    refine ix B7d fun hc => ldI_of (x := x.Cols) (hc 9 _ rfl) ?_
    refine Resize_spec17 h7d.m (fun _ => key _ _ _ h7d (by omega) hm0 hm1) fun hrc F8 w8 hT8 => ?_
    have hfm := fm_resizeP S7 x.Rows x.Cols
    exact key _ _ _ (h7d.trans hT8) (by have := hfm.ar; omega) (hfm.m0.trans hm0) (hfm.m1.trans hm1)
  · refine ix B7d fun hc => ldI_of (x := x.Rows) (hc 8 _ rfl) ?_
    refine ix B7d fun hc => ldI_of (x := x.Cols) (hc 9 _ rfl) ?_
    refine Move_spec h7d.m fun F8 w8 hT8 => ?_
    have hfm := (fr_moveP S7 x.Rows x.Cols).m
    exact key _ _ _ (h7d.trans hT8) (by have := hfm.ar; omega) (hfm.m0.trans hm0) (hfm.m1.trans hm1)
  · refine ix B7 fun hcy => ?_
    refine ldS_of (r := T_parse_Event.rep) (x := x.E) (fun j v hj => ?_) ?_
    · rw [add_add]
      refine hcy (1 + j) v ?_
      rw [Nat.add_comm]
      have hjl : j < 7 := (List.getElem?_eq_some_iff.1 hj).1
      match j, hjl with
      | 0, _ => exact hj
      | 1, _ => exact hj
      | 2, _ => exact hj
      | 3, _ => exact hj
      | 4, _ => exact hj
      | 5, _ => exact hj
      | 6, _ => exact hj
    refine act_do hT7.m s5 t7 h1b (ha.q x hxm) B7 (hF3.2 x hxm) (by omega) fun q ps F8 w8 hps hbx hT8 => ?_
    have hfm := fm_do S7 (evA x ps)
    have e2 : (evA x ps).Params.length = ps.length := rfl
    exact key _ _ _ (hT7.trans hT8) (by have := hfm.ar; omega) (hfm.m0.trans hm0) (hfm.m1.trans hm1)
end
end Go.Proofs.YtmoafafalnbkpaaGreatDoor
