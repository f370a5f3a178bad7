/- The program's store: New, Twin. -/
import Derived.Test.YteffnkpplhcomaaS9
set_option linter.unusedVariables false
namespace Go.Proofs.Yteffnkpplhcomaa
open Go.Vc Go.RowKit
set_option maxRecDepth 100000

section
variable {w : World} {base g r n : Nat} {S : St}
def newErr (q : Int) : Int := if q < 0 ∨ q > 1073741824 then 1 else 0
theorem new_ok {q : Int} (h : newErr q = 0) : StOk 0 ⟨q, 0, 0, 0, []⟩ := by
  unfold newErr at h
  split at h
  · cases h
  · rename_i h
    exact ⟨by show 0 ≤ q; omega, by show q ≤ _; omega, rfl, by show 0 ≤ q; omega, Nat.le_refl _, Int.le_refl _, Int.le_refl _, .nil, (fun p hp => by cases hp), (fun p hp => by cases hp), (fun p hp => by cases hp), (fun p hp => by cases hp), (fun p hp => by cases hp)⟩
theorem New_spec {q : Int} {w : World} {base : Nat} {K : Option Addr → Int → World → Prop} (hE : newErr q = 1 → K none 1 w)
    (hK : ∀ g r w', newErr q = 0 → w.heap.size ≤ g → w.heap.size ≤ r → StM w' base g r ⟨q, 0, 0, 0, []⟩ → Below w.heap.size w w' → K (some ⟨g, 0, none⟩) 0 w') : c_store_New q w K := by
  refine call_store_New _ ?_
  unfold sh_store_New
  refine joinP_of fun J hJ => ?_
  refine cond_of (fun h => hE (by unfold newErr; rw [if_pos (.inl (of_decide_eq_true h))])) fun h => ?_
  refine cond_of (fun h' => hE (by unfold newErr; rw [if_pos (.inr (of_decide_eq_true h'))])) fun h' => ?_
  have h := of_decide_eq_false h
  have h' := of_decide_eq_false h'
  refine hJ _ _ ?_
  unfold nwM
  have hB1 : Below w.heap.size w (w.alloc (.map #[] 0)) := (Below.refl _ w).alloc (Nat.le_refl _) _
  have hs1 : (w.alloc (.map #[] 0)).heap.size = w.heap.size + 1 := by show (w.heap.push _).size = _; simp
  refine nw_blk fun w2 hb2 hB2 hs2 => ?_
  refine hK _ w.heap.size w2 (by unfold newErr; rw [if_neg (by omega)]) (by omega) (Nat.le_refl _) ⟨hb2, (MapM.new w).ext hB2, fun p hp => by cases hp⟩ (hB1.trans (hB2.mono (by omega)))
theorem mapsClone_spec {L : List (Int × Im)} (h : MapM Im.enc w r L) {K : Option Nat → World → Prop} (hK : ∀ r' w', w.heap.size ≤ r' → MapM Im.enc w' r' L → Below w.heap.size w w' → K (some r') w') :
    c_maps_Clone_map_int_store_image_int_store_image (some r) w K := by
  refine call_maps_Clone_map_int_store_image_int_store_image _ ?_
  unfold sh_maps_Clone_map_int_store_image_int_store_image
  refine cond_f rfl ?_
  obtain ⟨w1, hr1, hm1, hB1, hs1⟩ := run_clone_map (P := PG) h ty_map_int_store_image
  refine ⟨.iface ty_map_int_store_image (.map (some w.heap.size)), w1, ?_, ?_⟩
  · show (callFunc 116 #[.iface ty_map_int_store_image (.map (some r))]).run PG w = _
    rw [run_callFunc_extern (P := PG) (f := 116) Try.func116 (by kernel_rfl) (by kernel_rfl) (by kernel_rfl) (e := Extern.MapsClone.clone) (by kernel_rfl), hr1]
    rfl
  · exact ⟨some w.heap.size, w1, run_typeAssert_map tmap, hK _ w1 (Nat.le_refl _) hm1 hB1⟩
theorem Twin_spec (h : StM w base g r S) {K : Option Addr → World → Prop}
    (hK : ∀ g' r' w', w.heap.size ≤ g' → w.heap.size ≤ r' → StM w' base g' r' S → Below w.heap.size w w' → K (some ⟨g', 0, none⟩) w') : c_store_Store_Twin (some ⟨g, 0, none⟩) w K := by
  refine call_store_Store_Twin _ ?_
  unfold sh_store_Store_Twin
  refine onPtr_some' (ldS_of (x := (⟨S.quota, S.res, S.used, S.clock, some r⟩ : T_store_Store)) h.blk.cells ?_)
  refine box_of (t := ty_store_Store) (vs := T_store_Store.rep.cells ⟨S.quota, S.res, S.used, S.clock, some r⟩) rfl fun w2 hb2 hB2 hs2 => ?_
  have h2 := h.ext hB2
  refine onPtr_some' (ldM_of (x := some r) (h2.blk.cells 4 _ rfl) ?_)
  refine mapsClone_spec h2.map fun r' w3 hr3 hm3 hB3 => ?_
  rw [add_mk]
  have hb3 := hb2.ext hB3
  refine stK_blk hb3 (by simp [T_store_Store.rep]) fun w4 hb4 hg4 hs4 => ?_
  have hc : Chg (fun k => k = w.heap.size) w w4 := ((Chg.of_ext hB2).trans (Chg.of_ext hB3) fun i _ hi => hi).trans (Chg.gg hg4) fun i _ hi => hi
  have hgl := h.blk.lt
  have hs3 := hB3.size
  refine hK w.heap.size r' w4 (Nat.le_refl _) (by omega) ⟨hb4, hm3.chg (Chg.gg hg4) (hm3.ne_blk hb3), fun p hp => ((h2.img p hp).ext hB3).chg (Chg.gg hg4) fun k hk e => ((h2.img p hp).ext hB3).ne_b hb3 (by decide) k hk e⟩ (hc.ext fun i hi e => by omega)
theorem put_same {L : List (Int × Im)} (hs : Srt L) {k : Int} {x y : Im} (h : (k, x) ∈ L) (hxy : y.bs = x.bs) : sizeL (putL' L k y) = sizeL L ∧ (putL' L k y).length = L.length := by
  induction L with
  | nil => cases h
  | cons a L ih =>
    have hp := List.pairwise_cons.1 hs
    unfold putL'
    rcases List.mem_cons.1 h with e | h
    · subst e
      rw [if_neg (by simp), if_pos rfl]
      exact ⟨by rw [sizeL_cons, sizeL_cons, hxy], by simp⟩
    · have h1 := hp.1 _ h
      simp at h1
      rw [if_neg (by omega), if_neg (by omega)]
      have := ih hp.2 h
      exact ⟨by rw [sizeL_cons, sizeL_cons, this.1], by simp [this.2]⟩
theorem use_ok (h : StOk n S) (id : Int) : StOk (n + 1) (S.use id) := by
  have hc := h.clk
  have hc0 := h.clk0
  unfold St.use
  cases hl : lookL S.L id with
  | none =>
    exact ⟨h.q0, h.q1, h.used, h.fits, Nat.le_succ_of_le h.len, h.clk0, by show S.clock ≤ _; omega, h.srt, (fun p hp => by have := h.keys p hp; omega), h.stamps, h.borns, h.st1, h.bo1⟩
  | some x =>
    have hx := (lookL_some h.srt).1 hl
    have hm := mem_putL h.srt id ({ x with v := { x.v with stamp := S.clock + 1 } } : Im)
    have hsz := put_same h.srt hx (y := ({ x with v := { x.v with stamp := S.clock + 1 } } : Im)) rfl
    refine ⟨h.q0, h.q1, ?_, h.fits, ?_, by show 0 ≤ S.clock + 1; omega, by show S.clock + 1 ≤ _; omega, srt_putL h.srt _ _, ?_, ?_, ?_, ?_, ?_⟩
    · show S.used = (sizeL (putL' _ _ _) : Int)
      rw [hsz.1]
      exact h.used
    · have := h.len
      show (putL' _ _ _).length ≤ _
      rw [hsz.2]
      omega
    · rintro ⟨a, b⟩ hp
      rcases (hm a b).1 hp with ⟨rfl, rfl⟩ | ⟨_, hq⟩
      · have := h.keys _ hx
        simp at this ⊢
        omega
      · have := h.keys _ hq
        simp at this ⊢
        omega
    · rintro ⟨a, b⟩ hp
      show 0 < b.v.stamp ∧ b.v.stamp ≤ S.clock + 1
      rcases (hm a b).1 hp with ⟨rfl, rfl⟩ | ⟨_, hq⟩
      · exact ⟨by show 0 < S.clock + 1; omega, Int.le_refl _⟩
      · have := h.stamps _ hq
        simp at this
        omega
    · rintro ⟨a, b⟩ hp
      show 0 < b.v.born ∧ b.v.born ≤ S.clock + 1
      rcases (hm a b).1 hp with ⟨rfl, rfl⟩ | ⟨_, hq⟩
      · have := h.borns _ hx
        simp at this ⊢
        omega
      · have := h.borns _ hq
        simp at this
        omega
    · rintro ⟨a, b⟩ hp ⟨a', b'⟩ hp' (e : b.v.stamp = b'.v.stamp)
      rcases (hm a b).1 hp with ⟨rfl, rfl⟩ | ⟨_, hq⟩
      · rcases (hm a' b').1 hp' with ⟨rfl, rfl⟩ | ⟨_, hq'⟩
        · rfl
        · have := h.stamps _ hq'
          simp at this e
          omega
      · rcases (hm a' b').1 hp' with ⟨rfl, rfl⟩ | ⟨_, hq'⟩
        · have := h.stamps _ hq
          simp at this e
          omega
        · exact h.st1 _ hq _ hq' e
    · rintro ⟨a, b⟩ hp ⟨a', b'⟩ hp' (e : b.v.born = b'.v.born)
      rcases (hm a b).1 hp with ⟨rfl, rfl⟩ | ⟨hna, hq⟩
      · rcases (hm a' b').1 hp' with ⟨rfl, rfl⟩ | ⟨hnb, hq'⟩
        · rfl
        · have := congrArg Prod.fst (h.bo1 _ hx _ hq' e)
          exact absurd this.symm hnb
      · rcases (hm a' b').1 hp' with ⟨rfl, rfl⟩ | ⟨_, hq'⟩
        · have := congrArg Prod.fst (h.bo1 _ hq _ hx e)
          exact absurd this hna
        · exact h.bo1 _ hq _ hq' e
end
end Go.Proofs.Yteffnkpplhcomaa
