/- StoreOwn: the law's function. -/
import Derived.Test.YteffnkpplhcomaaS12
set_option linter.unusedVariables false
namespace Go.Proofs.Yteffnkpplhcomaa
open Go.Vc Go.RowKit
set_option maxRecDepth 100000

section
variable {w : World} {m : T_api_Matrix} {bs : List UInt8} {turn : Int} {K : Bool → World → Prop}
theorem empty_own {w : World} {g : Nat} {base : Nat} (hb : Blk w g ty_uint8 []) (hg : base ≤ g) : Own E_uint8 w base ⟨some ⟨g, 0, none⟩, 0, 0⟩ [] := own_empty (E := E_uint8) hb hg
theorem blk_eq {k a b i : Nat} (e : (⟨some ⟨k, 0, none⟩, a, b⟩ : Slc).blk = some i) : i = k := by cases e; rfl
theorem own_law (hP : Rd E_uint8 w m.P bs) (ht : 0 ≤ turn ∧ turn < 256) (hK : ∀ w', Below w.heap.size w w' → K true w') : c_phosphorlaw21_StoreOwn m turn w K := by
  refine call_phosphorlaw21_StoreOwn _ _ ?_
  unfold sh_phosphorlaw21_StoreOwn
  refine nw_blk fun w1 hb1 hB1 hs1 => ?_
  refine sknown_spec fun w2 hB2 => ?_
  have hb2 := hb1.ext hB2
  have hs2 := hB2.size
  have hB02 : Below w.heap.size w w2 := hB1.trans (hB2.mono (by omega))
  refine cond_f rfl (joinP_of fun J1 hJ1 => ?_)
  have hPn := hP.n
  have main : 1 ≤ m.W → 1 ≤ m.H → m.W ≤ 20 → m.H ≤ 20 → (bs.length : Int) = 4 * m.W * m.H → J1 () w2 := fun g1 g2 g3 g4 g5 => by
    refine hJ1 _ _ ?_
    have hmul : 1 ≤ m.W * m.H ∧ m.W * m.H ≤ 400 := by
      have a := Int.mul_le_mul g1 g2 (by omega) (by omega)
      have b := Int.mul_le_mul g3 g4 (by omega) (by omega)
      omega
    have h4 : (4 : Int) * m.W * m.H = 4 * (m.W * m.H) := Int.mul_assoc _ _ _
    have hlt := rd_lt hP (by omega)
    have hok : putErr ⟨1048576, 0, 0, 0, []⟩ 3 0 m.W m.H bs.length = 0 := by
      unfold putErr
      have e1 : rightM m.W m.H bs.length = true := by
        unfold rightM sizeOk
        rw [show ((bs.length : Int) == 4 * m.W * m.H) = true from beq_iff_eq.2 g5, decide_eq_true g1, decide_eq_true g2, decide_eq_true (show m.W ≤ 16384 by omega), decide_eq_true (show m.H ≤ 16384 by omega), decide_eq_true (show m.W * m.H ≤ 67108864 by omega)]
        simp
      rw [e1, show (m.W == 0) = false from beq_eq_false_iff_ne.2 (by omega)]
      rw [if_pos (by decide), if_neg (by show ¬ ((bs.length : Int) > 1048576); omega)]
    refine New_spec (base := w2.heap.size) (fun e => by cases e) fun g r w3 he hg hr h3 hB3 => ?_
    refine joinP_of fun J hJ => cond_f rfl (cond_f rfl (hJ _ _ ?_))
    have hb3 := hb2.ext hB3
    have hs3 := hB3.size
    have hP3 := (hP.ext hB02).ext hB3
    have hB03 : Below w.heap.size w w3 := hB02.trans (hB3.mono (by omega))
    refine ldI_of (x := m.W) (hb3.drew.cells 0 _ rfl) (ldI_of (x := m.H) (hb3.drew.cells 1 _ rfl) (ldSl_of (x := m.P) (hb3.drew.cells 2 _ rfl) ?_))
    have hd3 := h3.drew
    have hbd := hb3.drew
    have hPd := hP3.drew
    have hBd : Below w.heap.size w w3.drew := hB03.drew
    have hsd : w3.drew.heap.size = w3.heap.size := rfl
    generalize w3.drew = w5 at hd3 hbd hPd hBd hsd
    have cellW : ∀ {w' : World}, Below w5.heap.size w5 w' → World.cell? w' ((⟨w.heap.size, 0, none⟩ : Addr).add 0) = some (.int .i64 m.W) := fun hB => (hbd.ext hB).cells 0 _ rfl
    have cellH : ∀ {w' : World}, Below w5.heap.size w5 w' → World.cell? w' ((⟨w.heap.size, 0, none⟩ : Addr).add 1) = some (.int .i64 m.H) := fun hB => (hbd.ext hB).cells 1 _ rfl
    have cellP : ∀ {w' : World}, Below w5.heap.size w5 w' → World.cell? w' ((⟨w.heap.size, 0, none⟩ : Addr).add 2) = some (.slice m.P.a m.P.n m.P.c) := fun hB => (hbd.ext hB).cells 2 _ rfl
    have fin : ∀ (w' : World) (mn : Nat) (P' : Slc), Below w5.heap.size w5 w' → w5.heap.size ≤ mn → Blk w' mn ty_api_Matrix [(.int .i64 0), (.int .i64 0), (.slice none 0 0)] → Own E_uint8 w' w5.heap.size P' bs →
        stK (⟨mn, 0, none⟩ : Addr) [(.int .i64 m.W), (.int .i64 m.H), (.slice P'.a P'.n P'.c)] w' fun w9 => ownTail g mn w.heap.size turn w9 K := fun w' mn P' hB hmn hbm hP' => by
      refine stK_blk hbm (by simp) fun w9 hb9 hg9 hs9 => ?_
      have hB9 : Below w5.heap.size w5 w9 := hB.grown hg9 hB.size fun k hk => by cases hk; exact hmn
      have hb9 : Blk w9 mn ty_api_Matrix (T_api_Matrix.rep.cells ⟨m.W, m.H, P'⟩) := hb9
      have h5 : StM w9 w9.heap.size g r ⟨1048576, 0, 0, 0, []⟩ := ⟨(hd3.ext hB9).blk, (hd3.ext hB9).map, fun p hp => by cases hp⟩
      exact ownTail_spec (b0 := w5.heap.size) (by omega) (by omega) (by omega) (Nat.le_refl _) (by omega) (hBd.trans (hB9.mono (by omega))) h5 hb9 (hP'.chg (Chg.gg hg9) fun k hk e => own_ne_b hP' hbm (by decide) k hk e) (hbd.ext hB9) (hPd.ext hB9) hlt (by omega) hok (by omega) ht hK
    have low : ∀ {w' w'' : World} {k : Nat}, Below w5.heap.size w5 w' → Below w'.heap.size w' w'' → Below w5.heap.size w5 w'' := fun h h' => h.trans (h'.mono h.size)
    refine ⟨?_, ?_⟩
    · refine nw_blk fun w6 hb6 hB6 hs6 => ?_
      refine ⟨cellP hB6, cellH hB6, cellW hB6, ?_, ?_⟩
      · refine apB (empty_own hb6 (Nat.le_refl _)) (hPd.ext hB6) (by omega) (by simp; omega) fun q w7 hq hc7 _ => ?_
        have hB7 : Below w5.heap.size w5 w7 := hB6.trans (hc7.below (by omega) fun i hi e => by have e := blk_eq e; omega)
        refine ⟨cellH hB7, cellW hB7, ?_⟩
        refine nw_blk fun w8 hb8 hB8 hs8 => ?_
        have hB58 := low (k := 0) hB7 hB8
        refine ⟨cellP hB58, cellH hB58, cellW hB58, ?_⟩
        exact fin w8 _ q hB58 hB7.size hb8 (hq.ext hB8)
      · refine nw_blk fun w7 hb7 hB7 hs7 => ?_
        have hB57 := low (k := 0) hB6 hB7
        refine ⟨cellP hB57, cellH hB57, cellW hB57, ?_⟩
        refine apB (empty_own (hb6.ext hB7) (Nat.le_refl _)) (hPd.ext hB57) (by omega) (by simp; omega) fun q w8 hq hc8 _ => ?_
        have hB58 : Below w5.heap.size w5 w8 := hB57.trans (hc8.below (by omega) fun i hi e => by have e := blk_eq e; omega)
        refine ⟨cellH hB58, cellW hB58, ?_⟩
        exact fin w8 _ q hB58 (by omega) (hb7.chg hc8 fun e => by have e := blk_eq e; omega) hq
    · refine nw_blk fun w6 hb6 hB6 hs6 => ?_
      refine ⟨cellP hB6, cellH hB6, cellW hB6, ?_⟩
      refine nw_blk fun w7 hb7 hB7 hs7 => ?_
      have hB57 := low (k := 0) hB6 hB7
      refine ⟨cellP hB57, cellH hB57, cellW hB57, ?_⟩
      refine apB (b := w5.heap.size) (empty_own hb7 (by omega)) (hPd.ext hB57) (by omega) (by simp; omega) fun q w8 hq hc8 _ => ?_
      have hB58 : Below w5.heap.size w5 w8 := hB57.trans (hc8.below (by omega) fun i hi e => by have e := blk_eq e; omega)
      refine ⟨cellH hB58, cellW hB58, ?_⟩
      exact fin w8 _ q hB58 (Nat.le_refl _) ((hb6.ext hB7).chg hc8 fun e => by have e := blk_eq e; omega) hq
  have yes := hK w2 hB02
  refine ldI_of (x := m.W) (hb2.cells 0 _ rfl) (cond_of (fun _ => yes) fun g1 => ?_)
  refine ldI_of (x := m.H) (hb2.cells 1 _ rfl) (cond_of (fun _ => yes) fun g2 => ?_)
  refine ldI_of (x := m.W) (hb2.cells 0 _ rfl) (cond_of (fun _ => yes) fun g3 => ?_)
  refine ldI_of (x := m.H) (hb2.cells 1 _ rfl) (cond_of (fun _ => yes) fun g4 => ?_)
  have g1 := of_decide_eq_false g1
  have g2 := of_decide_eq_false g2
  have g3 := of_decide_eq_false g3
  have g4 := of_decide_eq_false g4
  refine ldSl_of (x := m.P) (hb2.cells 2 _ rfl) (ldI_of (x := m.W) (hb2.cells 0 _ rfl) (ldI_of (x := m.H) (hb2.cells 1 _ rfl) ?_))
  have hmul : 1 ≤ m.W * m.H ∧ m.W * m.H ≤ 400 := by
    have a := Int.mul_le_mul (show 1 ≤ m.W by omega) (show 1 ≤ m.H by omega) (by omega) (by omega)
    have b := Int.mul_le_mul (show m.W ≤ 20 by omega) (show m.H ≤ 20 by omega) (by omega) (by omega)
    omega
  have h4 : (4 : Int) * m.W * m.H = 4 * (m.W * m.H) := Int.mul_assoc _ _ _
  rw [wrap64_id (x := 4 * m.W) (by omega), wrap64_id (by omega), hPn]
  refine cond_of (fun _ => yes) fun g5 => ?_
  exact main (by omega) (by omega) (by omega) (by omega) (by simpa using g5)
end
end Go.Proofs.Yteffnkpplhcomaa
