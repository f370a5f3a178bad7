/- The document's store: Stamp, Get, Ids, Drop, Use, Number. -/
import Derived.Test.YteffnkpplhcomaaS18
set_option linter.unusedVariables false
namespace Go.Proofs.Yteffnkpplhcomaa
open Go.Vc Go.RowKit
set_option maxRecDepth 100000

section
variable {w w' : World} {base g n : Nat} {q : Slc} {S : St}
abbrev onR (g : Nat) : Nat → Prop := fun k => k = g
theorem blk_eqR {k a b i : Nat} (e : (⟨some ⟨k, 0, none⟩, a, b⟩ : Slc).blk = some i) : i = k := by cases e; rfl
theorem apR {b : Nat} {s x : Slc} {xs ys : List T_phosphorref21_Image} {K : Slc → World → Prop} (hown : Own E_phosphorref21_Image w b s xs) (hx : Rd E_phosphorref21_Image w x ys) (hb : b ≤ w.heap.size) (hl : xs.length + ys.length ≤ 100000)
    (hK : ∀ r w', Own E_phosphorref21_Image w' b r (xs ++ ys) → Chg (fun k => s.blk = some k) w w' → K r w') : apK PG #[ty_sl_phosphorref21_Image, ty_sl_phosphorref21_Image] ty_sl_phosphorref21_Image s x w K :=
  apK_own sT_sl_phosphorref21_Image hown hx hb (by rw [by_sl_phosphorref21_Image]; omega) (by simp only [maxLen]; omega) fun r w' h1 h2 _ => hK r w' h1 (Chg.of_grown h2 fun k hk => hk)
theorem RefM.cellQ (h : RefM w base g q S) {w1 : World} (hB : Below w.heap.size w w1) : World.cell? w1 ((⟨g, 0, none⟩ : Addr).add 3) = some (.slice q.a q.n q.c) := (h.blk.ext hB).cells 3 _ rfl
theorem atL_res (L : List (Int × Im)) (k : Int) : (lookL L k = none ∧ atL L k 0 = -1) ∨ ∃ (i : Nat) (h : i < L.length), L[i].1 = k ∧ atL L k 0 = (i : Int) ∧ lookL L k = some L[i].2 := by
  rcases atL_some L k 0 (Int.le_refl _) with h | ⟨i, hi, h1, h2, h3⟩
  · exact .inl h
  · exact .inr ⟨i, hi, h1, by rw [h2]; omega, h3⟩
theorem rStamp_spec (h : RefM w base g q S) (hl : S.L.length ≤ 1000) (id : Int) {K : Int → Bool → World → Prop} (hK : K (vOf S.L id).stamp (lookL S.L id).isSome w) : c_phosphorref21_Store_Stamp (some ⟨g, 0, none⟩) id w K := by
  refine call_phosphorref21_Store_Stamp _ _ ?_
  unfold sh_phosphorref21_Store_Stamp
  unfold vOf at hK
  refine at_spec h hl id ?_
  rcases atL_res S.L id with ⟨h1, h2⟩ | ⟨i, hi, h1, h2, h3⟩
  · rw [h1] at hK
    rw [h2]
    exact cond_t rfl hK
  · rw [h3] at hK
    rw [h2]
    refine cond_f (decide_eq_false (by omega)) (onPtr_some' (ldSl_of (x := q) (h.blk.cells 3 _ rfl) (h.at hi (fun a ha => ?_) rfl)))
    exact ldI_of (x := S.L[i].2.v.stamp) (ha.get 5 rfl) hK
theorem rGet_spec (h : RefM w base g q S) (hl : S.L.length ≤ 1000) (id : Int) {K : T_phosphorref7_Matrix → Bool → World → Prop} (hK : ∀ w', Below w.heap.size w w' → K ⟨(vOf S.L id).m.W, (vOf S.L id).m.H, (vOf S.L id).m.P⟩ (lookL S.L id).isSome w') : c_phosphorref21_Store_Get (some ⟨g, 0, none⟩) id w K := by
  refine call_phosphorref21_Store_Get _ _ ?_
  unfold sh_phosphorref21_Store_Get
  refine nw_blk fun w1 hb1 hB1 hs1 => ?_
  have h1' := h.ext hB1
  refine at_spec h1' hl id ?_
  have fin : ∀ (m : T_phosphorref7_Matrix) (b : Bool), (∀ w', Below w.heap.size w w' → K m b w') → stK (⟨w.heap.size, 0, none⟩ : Addr) (T_phosphorref7_Matrix.rep.cells m) w1 fun w3 => ldS T_phosphorref7_Matrix.rep (⟨w.heap.size, 0, none⟩ : Addr) w3 fun r => K r b w3 := fun m b hk => by
    refine stK_blk hb1 (by simp [T_phosphorref7_Matrix.rep]) fun w3 hb3 hg3 hs3 => ?_
    have hb3 : Blk w3 w.heap.size ty_phosphorref7_Matrix (T_phosphorref7_Matrix.rep.cells m) := hb3
    refine ldS_of (x := m) hb3.cells (hk w3 ?_)
    exact hB1.grown hg3 (by omega) fun k hk => by cases hk; exact Nat.le_refl _
  unfold vOf at hK
  rcases atL_res S.L id with ⟨h1, h2⟩ | ⟨i, hi, h1, h2, h3⟩
  · rw [h1] at hK
    rw [h2]
    exact cond_t rfl (fin ⟨0, 0, ⟨none, 0, 0⟩⟩ false hK)
  · rw [h3] at hK
    rw [h2]
    refine cond_f (decide_eq_false (by omega)) (onPtr_some' (ldSl_of (x := q) (h1'.blk.cells 3 _ rfl) (h1'.at hi (fun a ha => ?_) rfl)))
    refine ldS_of (x := (⟨S.L[i].2.v.m.W, S.L[i].2.v.m.H, S.L[i].2.v.m.P⟩ : T_phosphorref7_Matrix)) (ha.sub 2 fun jj v hv => by
      match jj, hv with
      | 0, hv => exact hv
      | 1, hv => exact hv
      | 2, hv => exact hv
      | jj + 3, hv => simp [T_phosphorref7_Matrix.rep] at hv) ?_
    exact fin _ true hK
theorem rIds_spec (h : RefM w base g q S) (hl : S.L.length ≤ 1000) {K : Slc → World → Prop} (hK : ∀ o w', Own E_int w' w.heap.size o (S.L.map (·.1)) → Below w.heap.size w w' → K o w') : c_phosphorref21_Store_Ids (some ⟨g, 0, none⟩) w K := by
  refine call_phosphorref21_Store_Ids _ ?_
  unfold sh_phosphorref21_Store_Ids
  refine loopP_rule (Inv := fun (s : Slc × Int × Unit) w1 => ∃ j : Nat, s.2.1 = (j : Int) ∧ j ≤ S.L.length ∧ Own E_int w1 w.heap.size s.1 ((S.L.take j).map (·.1)) ∧ Below w.heap.size w w1) (μ := fun s => S.L.length - s.2.1.toNat) ⟨0, rfl, Nat.zero_le _, Own.nil _ _ _, Below.refl _ _⟩ ?_
  rintro ⟨o, i, ⟨⟩⟩ w1 ⟨j, hij, hj, ho, hB⟩ I hI
  have hij : i = (j : Int) := hij
  subst hij
  have ho : Own E_int w1 w.heap.size o ((S.L.take j).map (·.1)) := ho
  have h1 := h.ext hB
  have hs1 := hB.size
  have hq : ∀ {K : Slc → Prop}, K q → ldSl ((⟨g, 0, none⟩ : Addr).add 3) w1 K := fun hk => ldSl_of (x := q) (h1.blk.cells 3 _ rfl) hk
  refine onPtr_some' (hq ?_)
  rw [h.qn]
  refine cond_of (fun hlt => ?_) fun hge => ?_
  · have hlt : j < S.L.length := by have := of_decide_eq_true hlt; omega
    refine onPtr_some' (hq (h1.at hlt (fun a ha => ?_) rfl))
    refine ldI_of (x := S.L[j].1) (ha.get 0 rfl) ?_
    refine apI1 ho hs1 (by simp; omega) fun o2 w3 ho2 hc2 _ => ?_
    rw [wrap64_id (by omega)]
    have e : (S.L.take (j + 1)).map (·.1) = (S.L.take j).map (·.1) ++ [S.L[j].1] := by
      rw [List.take_add_one, List.getElem?_eq_getElem hlt, List.map_append]
      rfl
    refine hI _ _ ⟨j + 1, by simp, by omega, ?_, hB.trans (hc2.below hs1 fun i hi e => by have := (ho.lt i e).1; omega)⟩ (by show S.L.length - ((j : Int) + 1).toNat < S.L.length - ((j : Int)).toNat; omega)
    show Own E_int w3 w.heap.size o2 _
    rw [e]
    exact ho2
  · have hge : ¬ _ := of_decide_eq_false hge
    have : j = S.L.length := by omega
    subst this
    rw [List.take_length] at ho
    exact hK o w1 ho hB
theorem del_eq {L : List (Int × Im)} (hs : Srt L) {i : Nat} (hi : i < L.length) {k : Int} (hk : L[i].1 = k) : L.take i ++ L.drop (i + 1) = delL L k := by
  have e : L = L.take i ++ L[i] :: L.drop (i + 1) := by rw [← List.drop_eq_getElem_cons hi, List.take_append_drop]
  have hp := hs
  unfold Srt at hp
  rw [e] at hp
  obtain ⟨h1, h2, h3⟩ := List.pairwise_append.1 hp
  have h4 := List.pairwise_cons.1 h2
  conv => rhs; rw [e]
  unfold delL
  rw [List.filter_append, List.filter_cons]
  have c1 : (L.take i).filter (fun p => p.1 != k) = L.take i := List.filter_eq_self.2 fun p hp' => by
    have := h3 p hp' L[i] List.mem_cons_self
    simp; omega
  have c2 : (L.drop (i + 1)).filter (fun p => p.1 != k) = L.drop (i + 1) := List.filter_eq_self.2 fun p hp' => by
    have := h4.1 p hp'
    simp; omega
  rw [c1, c2, if_neg (by simp [hk])]
theorem rDrop_spec (h : RefM w base g q S) (hk : StOk n S) (hn : n ≤ 1000) (hbase : base ≤ w.heap.size) (id : Int) {K : Bool → World → Prop} (hK : ∀ q' w', RefM w' base g q' (S.drop id) → Chg (onR g) w w' → K (lookL S.L id).isSome w') : c_phosphorref21_Store_Drop (some ⟨g, 0, none⟩) id w K := by
  refine call_phosphorref21_Store_Drop _ _ ?_
  unfold sh_phosphorref21_Store_Drop
  have hl := hk.len
  refine at_spec h (by omega) id ?_
  rcases atL_res S.L id with ⟨h1, h2⟩ | ⟨i, hi, h1, h2, h3⟩
  · rw [h1] at hK
    rw [h2]
    refine cond_t rfl (hK q w ?_ (Chg.refl _ _))
    have e1 : szOf S.L id = 0 := by unfold szOf; rw [h1]; rfl
    have e : S.drop id = S := by
      unfold St.drop
      rw [delL_none (look_none h1), e1]
      cases S
      simp
    rw [e]
    exact h
  · rw [h3] at hK
    rw [h2]
    refine cond_f (decide_eq_false (by omega)) ?_
    have hqn := h.qn
    have hd := h.drew
    have hgl := h.blk.lt
    refine onPtr_some' (ldSl_of (x := q) (hd.blk.cells 3 _ rfl) ?_)
    refine hd.row.rd.slK (l := 0) (m := i) rfl (.inl ⟨rfl, rfl⟩) (.inr rfl) (Nat.zero_le _) (by simp; omega) fun hra => ?_
    refine onPtr_some' (ldSl_of (x := q) (hd.blk.cells 3 _ rfl) ?_)
    rw [wrap64_id (by omega)]
    refine hd.row.rd.slK (l := i + 1) (m := S.L.length) rfl (.inr (by simp)) (.inl ⟨rfl, by simp⟩) (by omega) (by simp) fun hrb => ?_
    refine nw_blk fun w2 hb2 hB2 hs2 => ?_
    have hs2 : w2.heap.size = w.heap.size + 1 := hs2
    have hB2' : Below w.heap.size w w2 := (Below.refl _ w).drew.trans hB2
    refine ⟨h.cellQ hB2', h.cellQ hB2', ?_⟩
    refine apR (b := w.heap.size) (own_empty hb2 (Nat.le_refl _)) (hra.ext hB2) (by omega) (by simp; omega) fun q3 w3 ho3 hc3 => ?_
    have hB3 : Below w.heap.size w w3 := hB2'.trans (hc3.below (by omega) fun k hk e => by have : k = w.heap.size := by cases e; rfl
                                                                                           omega)
    refine ⟨h.cellQ hB3, ?_⟩
    have hs3 := hB3.size
    refine apR ho3 (((hrb.ext hB2)).chg hc3 fun a ha e => ?_) hs3 (by simp; omega) fun q4 w4 ho4 hc4 => ?_
    · have e : a.block = w.heap.size := blk_eqR e
      obtain ⟨b, hb, hab⟩ := cut_block ha
      have := (h.row.lt _ (slk.2 ⟨b, hb, rfl⟩)).2
      omega
    have hB4 : Below w.heap.size w w4 := hB3.trans (hc4.below hs3 fun k hk e => by have := (ho3.lt k e).1; omega)
    refine onPtr_some' ?_
    rw [add_mk]
    refine stK_blk (h.blk.ext hB4) (by simp [rCells]) fun w5 hb5 hg5 hs5 => ?_
    have hb5 : Blk w5 g ty_phosphorref21_Store (rCells (S.drop id) q4) := hb5
    have hlist : [] ++ ((S.L.map toR).take i).drop 0 ++ ((S.L.map toR).take S.L.length).drop (i + 1) = (delL S.L id).map toR := by
      rw [← del_eq hk.srt hi h1, List.map_append, List.map_take, List.map_drop, List.nil_append, List.drop_zero]
      congr 1
      rw [List.take_of_length_le (by simp)]
    have hs4 := hB4.size
    refine hK q4 w5 ⟨hb5, ?_, fun p hp => ?_⟩ ((Chg.of_ext hB4).trans (Chg.gg hg5) fun i _ hi => hi)
    · have ho4 : Own E_phosphorref21_Image w4 w.heap.size q4 ((delL S.L id).map toR) := by rw [← hlist]; exact ho4
      exact (ho4.chg (Chg.gg hg5) fun k hk e => by have := (ho4.lt k hk).1; omega).base hbase
    · have hp' : p ∈ S.L := del_mem hp
      exact ((h.img p hp').ext hB4).chg (Chg.gg hg5) fun k hk e => (h.img p hp').ne_b h.blk (by decide) k hk e
end
end Go.Proofs.Yteffnkpplhcomaa
