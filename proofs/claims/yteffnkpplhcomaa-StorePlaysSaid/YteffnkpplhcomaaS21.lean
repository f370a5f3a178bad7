/- The document's store: room, Reserve. -/
import Derived.Test.YteffnkpplhcomaaS20
set_option linter.unusedVariables false
namespace Go.Proofs.Yteffnkpplhcomaa
open Go.Vc Go.RowKit
set_option maxRecDepth 100000

section
variable {w w' : World} {base g n : Nat} {q : Slc} {S : St}
theorem rRoom_spec {m : Nat} {n : Int} (h : RefM w base g q S) (hk : StOk m S) (hm : m ≤ 1000) (hn : 0 ≤ n) (hnq : n ≤ S.quota) (hbase : base ≤ w.heap.size) {K : Slc → World → Prop}
    (hK : ∀ o q' w', RefM w' base g q' (S.room n).1 → Own E_int w' w.heap.size o (S.room n).2 → Chg (onR g) w w' → K o w') : c_phosphorref21_Store_room (some ⟨g, 0, none⟩) n w K := by
  refine call_phosphorref21_Store_room _ _ ?_
  unfold sh_phosphorref21_Store_room
  have hgl := h.blk.lt
  refine loopP_rule_w (Inv := fun k (s : Slc × Unit) w2 => ∃ S1 G q1, k = S1.L.length ∧ RefM w2 base g q1 S1 ∧ StOk m S1 ∧ S1.quota = S.quota ∧ S1.roomF n S1.L.length G = S.room n ∧ G.length + S1.L.length ≤ m ∧ Own E_int w2 w.heap.size s.1 G ∧ Chg (onR g) w w2) S.L.length
    ⟨S, [], q, rfl, h, hk, rfl, rfl, by have := hk.len; simpa using this, Own.nil _ _ _, Chg.refl _ _⟩ ?_
  rintro k ⟨gone, ⟨⟩⟩ w1 ⟨S1, G, q1, rfl, hS, hk1, hqq, hroom, hGl, hO, hc1⟩ I hI
  have hO : Own E_int w1 w.heap.size gone G := hO
  have hq1 := hk1.q1
  have hq0 := hk1.q0
  have hl := hk1.len
  have hs1 := hc1.size
  refine joinP_of fun J2 hJ2 => ?_
  have hSd := hS.drew
  refine onPtr_some' (ldI_of (x := S1.quota) (hSd.blk.cells 0 _ rfl) (rUsed_spec hSd hk1 hm ⟨hSd.blk.cells 0 _ rfl, ?_⟩))
  rw [wrap64_id (by omega)]
  have hBd := (Below.refl w1.heap.size w1).drew
  have stop : ¬ (S1.used > S1.quota - n ∧ 0 < S1.L.length) → K gone w1.drew := fun hno => by
    have hend : S1.roomF n S1.L.length G = (S1, G) := by
      cases hL : S1.L.length with
      | zero => rfl
      | succ f =>
        unfold St.roomF
        rw [if_neg hno]
    rw [hend] at hroom
    refine hK gone q1 w1.drew ?_ ?_ (hc1.trans (Chg.of_ext hBd) fun i _ hi => hi)
    · rw [← hroom]; exact hSd
    · rw [← hroom]; exact hO.drew
  refine cond_of (fun hgt => ?_) fun hgt => ?_
  · have hgt := of_decide_eq_true hgt
    refine onPtr_some' (ldSl_of (x := q1) (hSd.blk.cells 3 _ rfl) ?_)
    rw [hS.qn]
    refine cond_of (fun hpos => ?_) fun hpos => ?_
    · have hpos : 0 < S1.L.length := by have := of_decide_eq_true hpos; omega
      refine hJ2 _ _ ?_
      refine loopP_rule (Inv := fun (s : Int × Int × Unit) w3 => ∃ (kk jj : Nat) (hkk : kk < S1.L.length), s.1 = (kk : Int) ∧ s.2.1 = (jj : Int) ∧ 1 ≤ jj ∧ jj ≤ S1.L.length ∧ (∀ p ∈ S1.L.take jj, S1.L[kk].2.v.stamp ≤ p.2.v.stamp) ∧ Below w1.heap.size w1 w3) (μ := fun s => S1.L.length - s.2.1.toNat) ⟨0, 1, hpos, rfl, rfl, Nat.le_refl _, hpos, fun p hp => ?_, hBd⟩ ?_
      · rcases mem_take_succ hpos hp with hp | rfl
        · simp at hp
        · exact Int.le_refl _
      rintro ⟨kz, iz, ⟨⟩⟩ w3 ⟨kk, jj, hkk, e1, e2, hj1, hj2, hmin, hB3⟩ I3 hI3
      have e1 : kz = (kk : Int) := e1
      have e2 : iz = (jj : Int) := e2
      subst e1 e2
      have hqq3 : ∀ {w' : World} {K : Slc → Prop}, Below w1.heap.size w1 w' → K q1 → ldSl ((⟨g, 0, none⟩ : Addr).add 3) w' K := fun hB hk => ldSl_of (x := q1) ((hS.blk.ext hB).cells 3 _ rfl) hk
      refine onPtr_some' (hqq3 hB3 ?_)
      rw [hS.qn]
      have hB3d := hB3.drew
      have h3 := hS.ext hB3
      have h3d := hS.ext hB3d
      refine cond_of (fun hltd => ?_) fun hged => ?_
      · have hlt : jj < S1.L.length := by have hltd : (jj : Int) < (S1.L.length : Int) := of_decide_eq_true hltd; omega
        clear hltd
        refine onPtr_some' (hqq3 hB3d (h3d.at hlt (fun a ha => ?_) rfl))
        refine ldI_of (x := S1.L[jj].2.v.stamp) (ha.get 5 rfl) ?_
        refine onPtr_some' (hqq3 hB3d (h3d.at hkk (fun a ha => ?_) rfl))
        refine ldI_of (x := S1.L[kk].2.v.stamp) (ha.get 5 rfl) ?_
        rw [wrap64_id (x := (jj : Int) + 1) (by omega)]
        refine cond_of (fun e3 => ?_) fun e3 => ?_
        · have e3 := of_decide_eq_true e3
          refine hI3 _ _ ⟨jj, jj + 1, hlt, rfl, by simp, by omega, by omega, fun p hp => ?_, hB3d⟩ (by show S1.L.length - ((jj : Int) + 1).toNat < S1.L.length - ((jj : Int)).toNat; omega)
          rcases mem_take_succ hlt hp with hp | rfl
          · have := hmin p hp; omega
          · exact Int.le_refl _
        · have e3 := of_decide_eq_false e3
          refine hI3 _ _ ⟨kk, jj + 1, hkk, rfl, by simp, by omega, by omega, fun p hp => ?_, hB3d⟩ (by show S1.L.length - ((jj : Int) + 1).toNat < S1.L.length - ((jj : Int)).toNat; omega)
          rcases mem_take_succ hlt hp with hp | rfl
          · exact hmin p hp
          · omega
      · have hge : jj = S1.L.length := by have hged : ¬ (jj : Int) < (S1.L.length : Int) := of_decide_eq_false hged; omega
        subst hge
        rw [List.take_length] at hmin
        have heq : eldest S1.L = S1.L[kk].1 := eldest_one hk1 (List.getElem_mem hkk) hmin
        refine onPtr_some' (hqq3 hB3 (h3.at hkk (fun a ha => ?_) rfl))
        refine ldI_of (x := S1.L[kk].1) (ha.get 0 rfl) ?_
        have hO3 := hO.ext hB3
        have hs3 := hB3.size
        refine apI1 hO3 (by omega) (by omega) fun q5 w5 ho5 hc5 _ => ?_
        have h5 : RefM w5 base g q1 S1 := h3.keep hc5 (fun e => own_ne_b hO3 h3.blk (by decide) g e rfl) (fun k hk e => own_ne_o h3.row hO3 (by decide) k hk e) fun p hp k hk e => (h3.img p hp).ne_o hO3 (by decide) k hk e
        refine onPtr_some' (ldSl_of (x := q1) (h5.blk.cells 3 _ rfl) (h5.at hkk (fun a ha => ?_) rfl))
        refine ldI_of (x := S1.L[kk].1) (ha.get 0 rfl) ?_
        have hs5 := hc5.size
        refine rDrop_spec h5 hk1 hm (by omega) S1.L[kk].1 fun q6 w6 h6 hc6 => ?_
        have ho6 := ho5.chg hc6 fun k hk e => own_ne_b ho5 h5.blk (by decide) k hk e
        have hdl := del_length (k := S1.L[kk].1) (x := S1.L[kk].2) (List.getElem_mem hkk)
        have hc16 : Chg (onR g) w w6 := ((hc1.trans (Chg.of_ext hB3) fun i _ hi => hi).trans hc5 fun i hi e => by have := (hO3.lt i e).1; omega).trans hc6 fun i _ hi => hi
        refine hI _ _ _ ⟨S1.drop S1.L[kk].1, G ++ [S1.L[kk].1], q6, rfl, h6, drop_ok hk1 _, hqq, ?_, ?_, ho6, hc16⟩ hdl
        · rw [← hroom]
          cases hL : S1.L.length with
          | zero => omega
          | succ f =>
            have : S1.roomF n (f + 1) G = (S1.drop (eldest S1.L)).roomF n f (G ++ [eldest S1.L]) := by
              show (if S1.used > S1.quota - n ∧ 0 < S1.L.length then St.roomF n f (S1.drop (eldest S1.L)) (G ++ [eldest S1.L]) else (S1, G)) = _
              rw [if_pos ⟨hgt, by omega⟩]
            rw [this, heq, roomF_ge n (f := f) (by show (delL S1.L S1.L[kk].1).length ≤ f; omega)]
        · have : (S1.drop S1.L[kk].1).L.length < S1.L.length := hdl
          simp
          omega
    · have hpos := of_decide_eq_false hpos
      exact stop fun hc => hpos (by omega)
  · have hgt := of_decide_eq_false hgt
    exact stop fun hc => hgt hc.1
theorem RefM.res (h : RefM w base g q S) (n : Int) {K : World → Prop} (hK : ∀ w', RefM w' base g q { S with res := n } → Chg (onR g) w w' → w'.heap.size = w.heap.size → K w') : stK ((⟨g, 0, none⟩ : Addr).add 1) [(.int .i64 n)] w K := by
  rw [add_mk]
  refine stK_blk h.blk (by simp [rCells]) fun w1 hb1 hg1 hs1 => ?_
  exact hK w1 ⟨hb1, h.row.chg (Chg.gg hg1) fun k hk e => own_ne_b h.row h.blk (by decide) k hk e, fun p hp => (h.img p hp).chg (Chg.gg hg1) fun k hk e => (h.img p hp).ne_b h.blk (by decide) k hk e⟩ (Chg.gg hg1) hs1
theorem rReserve_spec {m : Nat} {n : Int} (h : RefM w base g q S) (hk : StOk m S) (hm : m ≤ 1000) (hbase : base ≤ w.heap.size) {K : Slc → Int → World → Prop}
    (hK : ∀ o q' w', RefM w' base g q' (S.reserve n).1 → Own E_int w' w.heap.size o (S.reserve n).2.1 → Chg (onR g) w w' → K o (S.reserve n).2.2 w') : c_phosphorref21_Store_Reserve (some ⟨g, 0, none⟩) n w K := by
  refine call_phosphorref21_Store_Reserve _ _ ?_
  unfold sh_phosphorref21_Store_Reserve
  unfold St.reserve at hK
  refine cond_of (fun e => ?_) fun e => ?_
  · have e := of_decide_eq_true e
    rw [if_pos e] at hK
    exact hK _ q w h (Own.nil _ _ _) (Chg.refl _ _)
  · have e := of_decide_eq_false e
    rw [if_neg e] at hK
    refine onPtr_some' (ldI_of (x := S.quota) (h.blk.cells 0 _ rfl) ?_)
    refine cond_of (fun e2 => ?_) fun e2 => ?_
    · have e2 := of_decide_eq_true e2
      rw [if_pos e2] at hK
      exact hK _ q w h (Own.nil _ _ _) (Chg.refl _ _)
    · have e2 := of_decide_eq_false e2
      rw [if_neg e2] at hK
      refine onPtr_some' (h.res n fun w1 h1 hc1 hs1 => ?_)
      refine rRoom_spec h1 (res_ok hk n) hm (by omega) (by show n ≤ S.quota; omega) (by omega) fun o q2 w2 hS2 ho2 hc2 => ?_
      exact hK o q2 w2 hS2 (ho2.base (by omega)) (hc1.trans hc2 fun i _ hi => hi)
end
end Go.Proofs.Yteffnkpplhcomaa
