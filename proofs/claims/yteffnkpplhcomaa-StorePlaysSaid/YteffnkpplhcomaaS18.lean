/- The document's store: its memory; New, at, Used, Drop, Stamp, Get, Ids. -/
import Derived.Test.YteffnkpplhcomaaS11
import Derived.Test.YteffnkpplhcomaaStrB
set_option linter.unusedVariables false
namespace Go.Proofs.Yteffnkpplhcomaa
open Go.Vc Go.RowKit
set_option maxRecDepth 100000

def toR (p : Int × Im) : T_phosphorref21_Image := ⟨p.1, p.2.v.number, ⟨p.2.v.m.W, p.2.v.m.H, p.2.v.m.P⟩, p.2.v.stamp, p.2.v.born⟩
def rCells (S : St) (q : Slc) : List Value := [(.int .i64 S.quota), (.int .i64 S.res), (.int .i64 S.clock), (.slice q.a q.n q.c)]
/-- The document's store at g, with its row. -/
structure RefM (w : World) (base g : Nat) (q : Slc) (S : St) : Prop where
  blk : Blk w g ty_phosphorref21_Store (rCells S q)
  row : Own E_phosphorref21_Image w base q (S.L.map toR)
  img : ∀ p ∈ S.L, Hold w base p.2.v.m.P p.2.bs
section
variable {w w' : World} {base g n : Nat} {q : Slc} {S : St}
theorem RefM.keep {Sx : Nat → Prop} (h : RefM w base g q S) (hc : Chg Sx w w') (hg : ¬ Sx g) (hq : ∀ k, q.blk = some k → ¬ Sx k) (hi : ∀ p ∈ S.L, ∀ k, p.2.v.m.P.blk = some k → ¬ Sx k) : RefM w' base g q S :=
  ⟨h.blk.chg hc hg, h.row.chg hc hq, fun p hp => (h.img p hp).chg hc (hi p hp)⟩
theorem RefM.ext (h : RefM w base g q S) (hb : Below w.heap.size w w') : RefM w' base g q S := ⟨h.blk.ext hb, h.row.ext hb, fun p hp => (h.img p hp).ext hb⟩
theorem RefM.drew (h : RefM w base g q S) : RefM w.drew base g q S := h.ext (Below.refl _ w).drew
theorem RefM.qn (h : RefM w base g q S) : q.n = S.L.length := by have := h.row.rd.n; rwa [List.length_map] at this
/-- One of the images, by its cells. -/
theorem RefM.at (h : RefM w base g q S) {i : Nat} (hi : i < S.L.length) {K : Addr → Prop} (hK : ∀ a : Addr, cellsAt w a (T_phosphorref21_Image.rep.cells (toR S.L[i])) → K a) {z : Int} (hz : z = (i : Int)) : ixK q z 7 K := by
  subst hz
  refine h.row.rd.ix (i := (i : Int)) rfl (by omega) (by simp; omega) fun hd => ?_
  refine hK _ ?_
  have e : (S.L.map toR)[((i : Int)).toNat]'(by simp; omega) = toR S.L[i] := by simp
  rw [e] at hd
  exact hd
theorem rNew_spec {qq : Int} {K : Option Addr → Int → World → Prop} (hE : newErr qq = 1 → K none 1 w)
    (hK : ∀ g w', newErr qq = 0 → w.heap.size ≤ g → RefM w' base g ⟨none, 0, 0⟩ ⟨qq, 0, 0, 0, []⟩ → Below w.heap.size w w' → K (some ⟨g, 0, none⟩) 0 w') : c_phosphorref21_New qq w K := by
  refine call_phosphorref21_New _ ?_
  unfold sh_phosphorref21_New
  refine joinP_of fun J hJ => ?_
  refine cond_of (fun h => hE (by unfold newErr; rw [if_pos (.inl (of_decide_eq_true h))])) fun h => ?_
  refine cond_of (fun h' => hE (by unfold newErr; rw [if_pos (.inr (of_decide_eq_true h'))])) fun h' => ?_
  have h := of_decide_eq_false h
  have h' := of_decide_eq_false h'
  refine hJ _ _ (nw_blk fun w2 hb2 hB2 hs2 => ?_)
  exact hK _ w2 (by unfold newErr; rw [if_neg (by omega)]) (Nat.le_refl _) ⟨hb2, Own.nil _ _ _, fun p hp => by cases hp⟩ hB2
/-- The place of a number. -/
def atL : List (Int × Im) → Int → Int → Int
  | [], _, _ => -1
  | p :: r, k, i => if p.1 = k then i else atL r k (i + 1)
theorem atL_some : ∀ (L : List (Int × Im)) (k i0 : Int), 0 ≤ i0 → (lookL L k = none ∧ atL L k i0 = -1) ∨ ∃ (i : Nat) (h : i < L.length), L[i].1 = k ∧ atL L k i0 = i0 + (i : Int) ∧ lookL L k = some L[i].2
  | [], k, i0, h0 => .inl ⟨rfl, rfl⟩
  | p :: r, k, i0, h0 => by
    unfold atL
    by_cases hp : p.1 = k
    · refine .inr ⟨0, by simp, hp, by rw [if_pos hp]; simp, ?_⟩
      unfold lookL
      rw [List.find?_cons_of_pos (by simpa using hp)]
      rfl
    · rw [if_neg hp]
      have hl : lookL (p :: r) k = lookL r k := by
        unfold lookL
        rw [List.find?_cons_of_neg (by simpa using hp)]
      rw [hl]
      rcases atL_some r k (i0 + 1) (by omega) with ⟨h1, h2⟩ | ⟨i, hi, h1, h2, h3⟩
      · exact .inl ⟨h1, h2⟩
      · exact .inr ⟨i + 1, by simp; omega, by simpa using h1, by rw [h2]; omega, by simpa using h3⟩
theorem atL_drop {L : List (Int × Im)} {k : Int} {j : Nat} (h : j < L.length) (hne : L[j].1 ≠ k) : atL (L.drop j) k j = atL (L.drop (j + 1)) k ((j : Int) + 1) := by
  rw [List.drop_eq_getElem_cons h]
  show (if L[j].1 = k then (j : Int) else _) = _
  rw [if_neg hne]
theorem at_spec (h : RefM w base g q S) (hl : S.L.length ≤ 1000) (id : Int) {K : Int → World → Prop} (hK : K (atL S.L id 0) w) : c_phosphorref21_Store_at (some ⟨g, 0, none⟩) id w K := by
  refine call_phosphorref21_Store_at _ _ ?_
  unfold sh_phosphorref21_Store_at
  refine loopP_rule (Inv := fun (s : Int × Unit) w1 => w1 = w ∧ ∃ j : Nat, s.1 = (j : Int) ∧ j ≤ S.L.length ∧ atL (S.L.drop j) id j = atL S.L id 0) (μ := fun s => S.L.length - s.1.toNat) ⟨rfl, 0, rfl, Nat.zero_le _, rfl⟩ ?_
  rintro ⟨i, ⟨⟩⟩ w1 ⟨rfl, j, hij, hj, he⟩ I hI
  have hij : i = (j : Int) := hij
  subst hij
  have hq : ∀ {K : Slc → Prop}, K q → ldSl ((⟨g, 0, none⟩ : Addr).add 3) w1 K := fun hk => ldSl_of (x := q) (h.blk.cells 3 _ rfl) hk
  refine onPtr_some' (hq ?_)
  rw [h.qn]
  refine cond_of (fun hlt => ?_) fun hge => ?_
  · have hlt : j < S.L.length := by have := of_decide_eq_true hlt; omega
    refine onPtr_some' (hq (h.at hlt (fun a ha => ?_) rfl))
    refine ldI_of (x := S.L[j].1) (ha.get 0 rfl) ?_
    refine cond_of (fun e => ?_) fun e => ?_
    · have e : S.L[j].1 = id := eq_of_beq e
      have : atL S.L id 0 = (j : Int) := by
        rw [← he, List.drop_eq_getElem_cons hlt]
        show (if S.L[j].1 = id then (j : Int) else _) = _
        rw [if_pos e]
      rw [this] at hK
      exact hK
    · have e : S.L[j].1 ≠ id := beq_eq_false_iff_ne.1 e
      rw [wrap64_id (by omega)]
      exact hI _ _ ⟨rfl, j + 1, by simp, by omega, by rw [← he, atL_drop hlt e]; rfl⟩ (by show S.L.length - ((j : Int) + 1).toNat < S.L.length - ((j : Int)).toNat; omega)
  · have hge : ¬ _ := of_decide_eq_false hge
    have : j = S.L.length := by omega
    subst this
    rw [List.drop_length] at he
    rw [← he] at hK
    exact hK
theorem rUsed_spec (h : RefM w base g q S) (hk : StOk n S) (hn : n ≤ 1000) {K : Int → World → Prop} (hK : K S.used w) : c_phosphorref21_Store_Used (some ⟨g, 0, none⟩) w K := by
  refine call_phosphorref21_Store_Used _ ?_
  unfold sh_phosphorref21_Store_Used
  have hl := hk.len
  have hu := hk.used
  have hf := hk.fits
  have hq1 := hk.q1
  have hsum : ∀ j, sizeL (S.L.take j) ≤ sizeL S.L := fun j => by
    have : sizeL S.L = sizeL (S.L.take j) + sizeL (S.L.drop j) := by
      conv => lhs; rw [← List.take_append_drop j S.L]
      unfold sizeL
      rw [List.map_append, List.sum_append]
    omega
  refine loopP_rule (Inv := fun (s : Int × Int × Unit) w1 => w1 = w ∧ ∃ j : Nat, s.2.1 = (j : Int) ∧ j ≤ S.L.length ∧ s.1 = (sizeL (S.L.take j) : Int)) (μ := fun s => S.L.length - s.2.1.toNat) ⟨rfl, 0, rfl, Nat.zero_le _, rfl⟩ ?_
  rintro ⟨u, i, ⟨⟩⟩ w1 ⟨rfl, j, hij, hj, he⟩ I hI
  have hij : i = (j : Int) := hij
  have he : u = (sizeL (S.L.take j) : Int) := he
  subst hij he
  have hq : ∀ {K : Slc → Prop}, K q → ldSl ((⟨g, 0, none⟩ : Addr).add 3) w1 K := fun hk => ldSl_of (x := q) (h.blk.cells 3 _ rfl) hk
  refine onPtr_some' (hq ?_)
  rw [h.qn]
  refine cond_of (fun hlt => ?_) fun hge => ?_
  · have hlt : j < S.L.length := by have := of_decide_eq_true hlt; omega
    refine onPtr_some' (hq (h.at hlt (fun a ha => ?_) rfl))
    rw [add_add]
    refine ldSl_of (x := S.L[j].2.v.m.P) (ha.get 4 rfl) ?_
    rw [(h.img _ (List.getElem_mem hlt)).rd.n]
    have e1 : sizeL (S.L.take (j + 1)) = sizeL (S.L.take j) + S.L[j].2.bs.length := by
      rw [List.take_add_one, List.getElem?_eq_getElem hlt]
      unfold sizeL
      rw [List.map_append, List.sum_append]
      simp
    have := hsum (j + 1)
    rw [wrap64_id (by omega), wrap64_id (by omega)]
    exact hI _ _ ⟨rfl, j + 1, by simp, by omega, by show _ = (sizeL (S.L.take (j + 1)) : Int); rw [e1]; simp⟩ (by show S.L.length - ((j : Int) + 1).toNat < S.L.length - ((j : Int)).toNat; omega)
  · have hge : ¬ _ := of_decide_eq_false hge
    have : j = S.L.length := by omega
    subst this
    rw [List.take_length, ← hu]
    exact hK
end
end Go.Proofs.Yteffnkpplhcomaa
