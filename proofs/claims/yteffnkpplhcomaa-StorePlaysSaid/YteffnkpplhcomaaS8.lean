/- The program's store: Put, New, Twin. -/
import Derived.Test.YteffnkpplhcomaaS7
set_option linter.unusedVariables false
namespace Go.Proofs.Yteffnkpplhcomaa
open Go.Vc Go.RowKit
set_option maxRecDepth 100000

def sizeOk (W H : Int) : Bool := (W == 0 && H == 0) || (decide (1 ≤ W) && decide (W ≤ 16384) && decide (1 ≤ H) && decide (H ≤ 16384) && decide (W * H ≤ 67108864))
def rightM (W H : Int) (n : Nat) : Bool := sizeOk W H && ((n : Int) == 4 * W * H)
def isNum (n : Int) : Bool := decide (0 ≤ n) && decide (n ≤ 4294967295)
theorem isNumber_spec {n : Int} {w : World} {K : Bool → World → Prop} (hK : K (isNum n) w) : c_store_isNumber n w K := by
  refine call_store_isNumber _ ?_
  unfold sh_store_isNumber
  unfold isNum at hK
  refine cond_of (fun h => ?_) fun h => ?_
  · rw [show decide (0 ≤ n) = true from h, Bool.true_and] at hK; exact hK
  · rw [show decide (0 ≤ n) = false from h, Bool.false_and] at hK; exact hK
theorem bnds_mul {W H : Int} (h1 : 1 ≤ W) (h2 : W ≤ 16384) (h3 : 1 ≤ H) (h4 : H ≤ 16384) : 1 ≤ W * H ∧ W * H ≤ 268435456 := by
  have a := Int.mul_le_mul h1 h3 (by omega) (by omega)
  have b := Int.mul_le_mul h2 h4 (by omega) (by omega)
  omega
theorem size_spec {W H : Int} {w : World} {K : Bool → World → Prop} (hK : K (sizeOk W H) w) : c_pixel_size W H w K := by
  refine call_pixel_size _ _ ?_
  unfold sh_pixel_size
  have tail : sizeOk W H = (decide (1 ≤ W) && decide (W ≤ 16384) && decide (1 ≤ H) && decide (H ≤ 16384) && decide (W * H ≤ 67108864)) → cond (decide (W ≥ (1 : Int)))
          (cond (decide (W ≤ (16384 : Int)))
             (cond (decide (H ≥ (1 : Int)))
                (cond (decide (H ≤ (16384 : Int)))
                   (K (decide ((IntKind.i64.wrap (W * H)) ≤ (67108864 : Int))) w)
                   (K false w))
                (K false w))
             (K false w))
          (K false w) := fun e => by
    rw [e] at hK
    refine cond_of (fun h1 => ?_) fun h1 => ?_
    · have g1 := of_decide_eq_true h1
      rw [show decide (1 ≤ W) = true from h1] at hK
      refine cond_of (fun h2 => ?_) fun h2 => ?_
      · have g2 := of_decide_eq_true h2
        rw [h2] at hK
        refine cond_of (fun h3 => ?_) fun h3 => ?_
        · have g3 := of_decide_eq_true h3
          rw [show decide (1 ≤ H) = true from h3] at hK
          refine cond_of (fun h4 => ?_) fun h4 => ?_
          · have g4 := of_decide_eq_true h4
            rw [h4] at hK
            have := bnds_mul g1 g2 g3 g4
            rw [wrap64_id (by omega)]
            simpa using hK
          · rw [h4] at hK; simpa using hK
        · rw [show decide (1 ≤ H) = false from h3] at hK; simpa using hK
      · rw [h2] at hK; simpa using hK
    · rw [show decide (1 ≤ W) = false from h1] at hK; simpa using hK
  refine cond_of (fun h1 => ?_) fun h1 => ?_
  · refine cond_of (fun h2 => ?_) fun h2 => ?_
    · unfold sizeOk at hK
      rw [h1, h2] at hK
      simpa using hK
    · exact tail (by unfold sizeOk; rw [h1, h2]; rfl)
  · exact tail (by unfold sizeOk; rw [h1]; rfl)
theorem sizeOk_bnd {W H : Int} (h : sizeOk W H = true) : 0 ≤ W ∧ W ≤ 16384 ∧ 0 ≤ H ∧ H ≤ 16384 ∧ 0 ≤ W * H ∧ W * H ≤ 67108864 := by
  unfold sizeOk at h
  simp only [Bool.or_eq_true, Bool.and_eq_true, beq_iff_eq, decide_eq_true_eq] at h
  rcases h with ⟨rfl, rfl⟩ | ⟨⟨⟨⟨h1, h2⟩, h3⟩, h4⟩, h5⟩
  · decide
  · have := bnds_mul h1 h2 h3 h4
    omega
section
variable {w : World} {base g r n : Nat} {S : St}
theorem Right_spec {m : T_api_Matrix} {K : Bool → World → Prop} (hK : ∀ w', Below w.heap.size w w' → K (rightM m.W m.H m.P.n) w') : c_pixel_Right m w K := by
  refine call_pixel_Right _ ?_
  unfold sh_pixel_Right
  refine nw_blk fun w1 hb1 hB1 hs1 => ?_
  refine ldI_of (x := m.W) (hb1.cells 0 _ rfl) (ldI_of (x := m.H) (hb1.cells 1 _ rfl) (size_spec ?_))
  have hK := hK w1 hB1
  unfold rightM at hK
  refine cond_of (fun h => ?_) fun h => ?_
  · rw [h, Bool.true_and] at hK
    have hb := sizeOk_bnd h
    refine ldSl_of (x := m.P) (hb1.cells 2 _ rfl) (ldI_of (x := m.W) (hb1.cells 0 _ rfl) (ldI_of (x := m.H) (hb1.cells 1 _ rfl) ?_))
    have h4 : (4 : Int) * m.W * m.H = 4 * (m.W * m.H) := Int.mul_assoc _ _ _
    rw [wrap64_id (x := 4 * m.W) (by omega), wrap64_id (by omega)]
    exact hK
  · rw [h, Bool.false_and] at hK
    exact hK
def freeF (L : List (Int × Im)) : Nat → Int → Int
  | 0, k => k
  | f + 1, k => if (lookL L k).isSome then freeF L f (k + 1) else k
def putErr (S : St) (id num W H : Int) (n : Nat) : Int := if rightM W H n && !(W == 0) && isNum id && isNum num then (if (n : Int) > S.quota then 6 else 0) else 1
def St.putPre (S : St) (id : Int) (n : Nat) : St × List Int := (if id = 0 then ({ S with res := 0 } : St) else ({ S with res := 0 } : St).drop id).room n
def newId (L : List (Int × Im)) (id : Int) : Int := if id = 0 then freeF L 2000 1099511627776 else id
def St.putAt (S : St) (i num W H : Int) (P : Slc) (bs : List UInt8) : St := { S with clock := S.clock + 1, used := S.used + bs.length, L := putL' S.L i ⟨⟨num, ⟨W, H, P⟩, S.clock + 1, S.clock + 1⟩, bs⟩ }
/-! ### A number that is free -/
theorem freeF_free {L : List (Int × Im)} : ∀ (f : Nat) {k : Int} {j : Nat}, j < f → lookL L (k + j) = none → lookL L (freeF L f k) = none ∧ k ≤ freeF L f k ∧ freeF L f k ≤ k + j
  | 0, k, j, h, _ => by omega
  | f + 1, k, j, h, hn => by
    unfold freeF
    by_cases hs : (lookL L k).isSome
    · rw [if_pos hs]
      cases j with
      | zero =>
        simp at hn
        rw [hn] at hs
        cases hs
      | succ j =>
        have := freeF_free f (k := k + 1) (j := j) (by omega) (by rw [show k + 1 + (j : Int) = k + ((j + 1 : Nat) : Int) by omega]; exact hn)
        exact ⟨this.1, by omega, by omega⟩
    · rw [if_neg hs]
      exact ⟨by simpa using hs, Int.le_refl _, by omega⟩
theorem free_at (h : StOk n S) : lookL S.L (1099511627776 + ((n + 1 : Nat) : Int)) = none := by
  cases hl : lookL S.L (1099511627776 + ((n + 1 : Nat) : Int)) with
  | none => rfl
  | some x =>
    have := h.keys _ ((lookL_some h.srt).1 hl)
    simp at this
    omega
theorem newId_ok (h : StOk n S) (hn : n ≤ 1000) {id : Int} (hid : isNum id = true) : 0 < newId S.L id ∧ newId S.L id ≤ 1099511627776 + ((n + 1 : Nat) : Int) := by
  unfold isNum at hid
  simp only [Bool.and_eq_true, decide_eq_true_eq] at hid
  unfold newId
  split
  · have := freeF_free 2000 (k := 1099511627776) (j := n + 1) (by omega) (free_at h)
    omega
  · omega
theorem newId_none (h : StOk n S) (hn : n ≤ 1000) {id : Int} (hno : id ≠ 0 → lookL S.L id = none) : lookL S.L (newId S.L id) = none := by
  unfold newId
  split
  · exact (freeF_free 2000 (k := 1099511627776) (j := n + 1) (by omega) (free_at h)).1
  · rename_i hne
    exact hno hne
theorem sizeL_put {L : List (Int × Im)} {k : Int} {x : Im} (h : lookL L k = none) : sizeL (putL' L k x) = sizeL L + x.bs.length := by
  have hno := look_none h
  induction L with
  | nil => simp [putL', sizeL]
  | cons a L ih =>
    unfold putL'
    split
    · rw [sizeL_cons]; simp only; omega
    · rename_i hlt
      rw [if_neg fun e => hno a List.mem_cons_self e.symm, sizeL_cons, sizeL_cons]
      have h2 : lookL L k = none := by
        cases hl : lookL L k with
        | none => rfl
        | some y =>
          exfalso
          unfold lookL at hl
          obtain ⟨q, hq, _⟩ := Option.map_eq_some_iff.1 hl
          have h3 := List.find?_some hq
          exact hno q (List.mem_cons_of_mem _ (List.mem_of_find?_eq_some hq)) (by simpa using h3)
      rw [ih h2 fun p hp => hno p (List.mem_cons_of_mem _ hp)]
      omega
theorem put_length {L : List (Int × Im)} (k : Int) (x : Im) : (putL' L k x).length ≤ L.length + 1 := by
  induction L with
  | nil => simp [putL']
  | cons a L ih =>
    unfold putL'
    split
    · simp
    · split
      · simp
      · simp; omega
theorem putAt_ok (h : StOk n S) {i num W H : Int} {P : Slc} {bs : List UInt8} (hi : lookL S.L i = none) (hi1 : 0 < i ∧ i ≤ 1099511627776 + ((n + 1 : Nat) : Int)) (hf : S.used + bs.length ≤ S.quota) : StOk (n + 1) (S.putAt i num W H P bs) := by
  have hm := mem_putL h.srt i (⟨⟨num, ⟨W, H, P⟩, S.clock + 1, S.clock + 1⟩, bs⟩ : Im)
  have hu := h.used
  have hc := h.clk
  have hc0 := h.clk0
  have hsz := sizeL_put (x := (⟨⟨num, ⟨W, H, P⟩, S.clock + 1, S.clock + 1⟩, bs⟩ : Im)) hi
  refine ⟨h.q0, h.q1, ?_, hf, ?_, by show 0 ≤ S.clock + 1; omega, by show S.clock + 1 ≤ _; omega, srt_putL h.srt _ _, ?_, ?_, ?_, ?_, ?_⟩
  · show S.used + (bs.length : Int) = (sizeL (putL' _ _ _) : Int)
    rw [hsz]
    simp
    omega
  · have := put_length (L := S.L) i (⟨⟨num, ⟨W, H, P⟩, S.clock + 1, S.clock + 1⟩, bs⟩ : Im)
    have := h.len
    show (putL' _ _ _).length ≤ _
    omega
  · rintro ⟨a, b⟩ hp
    rcases (hm a b).1 hp with ⟨rfl, rfl⟩ | ⟨_, hp⟩
    · exact hi1
    · have := h.keys _ hp
      simp at this ⊢
      omega
  · rintro ⟨a, b⟩ hp
    show 0 < b.v.stamp ∧ b.v.stamp ≤ S.clock + 1
    rcases (hm a b).1 hp with ⟨rfl, rfl⟩ | ⟨_, hp⟩
    · exact ⟨by show 0 < S.clock + 1; omega, Int.le_refl _⟩
    · have := h.stamps _ hp
      simp at this
      omega
  · rintro ⟨a, b⟩ hp
    show 0 < b.v.born ∧ b.v.born ≤ S.clock + 1
    rcases (hm a b).1 hp with ⟨rfl, rfl⟩ | ⟨_, hp⟩
    · exact ⟨by show 0 < S.clock + 1; omega, Int.le_refl _⟩
    · have := h.borns _ hp
      simp at this
      omega
  · rintro ⟨a, b⟩ hp ⟨a', b'⟩ hp' (e : b.v.stamp = b'.v.stamp)
    rcases (hm a b).1 hp with ⟨rfl, rfl⟩ | ⟨_, hq⟩
    · rcases (hm a' b').1 hp' with ⟨rfl, rfl⟩ | ⟨_, hp'⟩
      · rfl
      · have := h.stamps _ hp'
        simp at this e
        omega
    · rcases (hm a' b').1 hp' with ⟨rfl, rfl⟩ | ⟨_, hp'⟩
      · have := h.stamps _ hq
        simp at this e
        omega
      · exact h.st1 _ hq _ hp' e
  · rintro ⟨a, b⟩ hp ⟨a', b'⟩ hp' (e : b.v.born = b'.v.born)
    rcases (hm a b).1 hp with ⟨rfl, rfl⟩ | ⟨_, hq⟩
    · rcases (hm a' b').1 hp' with ⟨rfl, rfl⟩ | ⟨_, hp'⟩
      · rfl
      · have := h.borns _ hp'
        simp at this e
        omega
    · rcases (hm a' b').1 hp' with ⟨rfl, rfl⟩ | ⟨_, hp'⟩
      · have := h.borns _ hq
        simp at this e
        omega
      · exact h.bo1 _ hq _ hp' e
end
end Go.Proofs.Yteffnkpplhcomaa
