/- The program's store: Drop, Use, Release, Get, Ids, Number; the eldest; room. -/
import Derived.Test.YteffnkpplhcomaaS3
set_option linter.unusedVariables false
namespace Go.Proofs.Yteffnkpplhcomaa
open Go.Vc Go.RowKit
set_option maxRecDepth 100000

section
variable {w : World} {base g r n : Nat} {S : St}
theorem runU_of {m : Sem Unit} {w w' : World} {K : Option Value → World → Prop} (h : m.run PG w = .ok () w') (hK : K none w') : runU PG m w K := ⟨w', h, hK⟩
/-- What the store's own acts change. -/
abbrev onS (g r : Nat) : Nat → Prop := fun k => k = g ∨ k = r
theorem StM.own_blk (h : StM w base g r S) : ∀ p ∈ S.L, ∀ k, p.2.v.m.P.blk = some k → ¬ onS g r k := fun p hp k hk e => by
  have := h.img_ne hp hk
  rcases e with e | e
  · exact this.1 e
  · exact this.2 e
theorem img_len (h : StM w base g r S) (id : Int) : (((lookL S.L id).map Im.v).getD nilI).m.P.n = szOf S.L id := by
  unfold szOf
  cases hl : lookL S.L id with
  | none => rfl
  | some x => exact (h.img _ ((lookL_some h.map.srt).1 hl)).rd.n
theorem Release_spec (h : StM w base g r S) {K : World → Prop} (hK : ∀ w', StM w' base g r { S with res := 0 } → Chg (onS g r) w w' → w'.heap.size = w.heap.size → K w') : c_store_Store_Release (some ⟨g, 0, none⟩) w K := by
  refine call_store_Store_Release _ ?_
  unfold sh_store_Store_Release
  refine onPtr_some' ?_
  rw [add_mk]
  refine stK_blk h.blk (by simp [St.cells]) fun w1 hb1 hg1 hs1 => ?_
  have hc : Chg (onS g r) w w1 := (Chg.gg hg1).mono fun i _ hi => .inl hi
  refine hK w1 ⟨hb1, h.map.chg (Chg.gg hg1) h.ne, fun p hp => (h.img p hp).chg hc (h.own_blk p hp)⟩ hc hs1
theorem Drop_spec (h : StM w base g r S) (hk : StOk n S) (id : Int) {K : Bool → World → Prop}
    (hK : ∀ w', StM w' base g r (S.drop id) → Chg (onS g r) w w' → K (lookL S.L id).isSome w') : c_store_Store_Drop (some ⟨g, 0, none⟩) id w K := by
  refine call_store_Store_Drop _ _ ?_
  unfold sh_store_Store_Drop
  refine onPtr_some' (ldM_of (x := some r) (h.blk.cells 4 _ rfl) (lookup2 h.map id ?_))
  have hn := img_len h id
  generalize hv : ((lookL S.L id).map Im.v).getD nilI = v at hn
  refine box_img fun w1 hb1 hB1 hs1 => ?_
  have h1 := h.ext hB1
  refine onPtr_some' (ldI_of (x := S.used) (h1.blk.drew.cells 2 _ rfl) ?_)
  refine ldSl_of (x := v.m.P) (by rw [add_add]; exact hb1.drew.cells 3 _ rfl) ?_
  refine onPtr_some' ?_
  rw [add_mk, hn]
  refine stK_blk h1.blk.drew (by simp [St.cells]) fun w2 hb2 hg2 hs2 => ?_
  have hu := hk.used
  have hz := szOf_le hk.srt id
  have hq := hk.fits
  have hq1 := hk.q1
  rw [wrap64_id (by omega)] at hb2
  have hb2 : Blk w2 g ty_store_Store (({ S with used := S.used - (szOf S.L id : Int) } : St).cells r) := hb2
  have hm2 : MapM Im.enc w2 r S.L := h1.drew.map.chg (Chg.gg hg2) h.ne
  refine onPtr_some' (ldM_of (x := some r) (hb2.cells 4 _ rfl) ?_)
  obtain ⟨w3, hr3, hm3, hc3, hs3⟩ := hm2.delete tmap tint id ty_unit
  refine ⟨_, w3, hr3, hK w3 ⟨?_, hm3, fun p hp => ?_⟩ ?_⟩
  · exact hb2.chg hc3 fun e => h.ne e.symm
  · have hp' : p ∈ S.L := del_mem hp
    exact (((h1.img p hp').drew).chg (Chg.gg hg2) fun k hk => (h.img_ne hp' hk).1).chg hc3 fun k hk => (h.img_ne hp' hk).2
  · have c1 : Chg (onS g r) w w1 := Chg.of_ext hB1
    have c2 : Chg (onS g r) w1 w1.drew := Chg.of_ext (Below.refl _ w1).drew
    exact ((c1.trans c2 fun i _ hi => hi).trans (Chg.gg hg2) fun i _ hi => .inl hi).trans hc3 fun i _ hi => .inr hi
def St.use (S : St) (id : Int) : St := match lookL S.L id with
  | some x => { S with clock := S.clock + 1, L := putL' S.L id { x with v := { x.v with stamp := S.clock + 1 } } }
  | none => S
theorem Use_spec (h : StM w base g r S) (hk : StOk n S) (hn : n ≤ 1000) (id : Int) {K : Bool → World → Prop}
    (hK : ∀ w', StM w' base g r (S.use id) → Chg (onS g r) w w' → K (lookL S.L id).isSome w') : c_store_Store_Use (some ⟨g, 0, none⟩) id w K := by
  refine call_store_Store_Use _ _ ?_
  unfold sh_store_Store_Use
  refine onPtr_some' (ldM_of (x := some r) (h.blk.cells 4 _ rfl) (lookup2 h.map id ?_))
  have huse : S.use id = match lookL S.L id with
    | some x => { S with clock := S.clock + 1, L := putL' S.L id { x with v := { x.v with stamp := S.clock + 1 } } }
    | none => S := rfl
  cases hl : lookL S.L id with
  | none =>
    rw [hl] at hK huse
    rw [huse] at hK
    refine box_img fun w1 hb1 hB1 hs1 => ?_
    exact cond_f rfl (hK w1 (h.ext hB1) (Chg.of_ext hB1))
  | some x =>
    rw [hl] at hK huse
    rw [huse] at hK
    have hx := (lookL_some hk.srt).1 hl
    refine box_img fun w1 hb1 hB1 hs1 => ?_
    have hb1 : Blk w1 w.heap.size ty_store_image (T_store_image.rep.cells x.v) := hb1
    have h1 := h.ext hB1
    refine cond_t rfl ?_
    have hc0 := hk.clk0
    have hc1 := hk.clk
    refine onPtr_some' (ldI_of (x := S.clock) (h1.blk.cells 3 _ rfl) (onPtr_some' ?_))
    rw [add_mk]
    refine stK_blk h1.blk (by simp [St.cells]) fun w2 hb2 hg2 hs2 => ?_
    rw [wrap64_id (by omega)] at hb2
    have hb2 : Blk w2 g ty_store_Store (({ S with clock := S.clock + 1 } : St).cells r) := hb2
    have hm2 : MapM Im.enc w2 r S.L := h1.map.chg (Chg.gg hg2) h.ne
    have hbx2 := hb1.chg (Chg.gg hg2) fun e => by have := h.blk.lt; omega
    refine onPtr_some' (ldI_of (x := S.clock + 1) (hb2.cells 3 _ rfl) ?_)
    rw [add_mk]
    refine stK_blk hbx2 (by simp [T_store_image.rep]) fun w3 hb3 hg3 hs3 => ?_
    have hb3 : Blk w3 w.heap.size ty_store_image (T_store_image.rep.cells { x.v with stamp := S.clock + 1 }) := hb3
    have hgl := h.blk.lt
    have hrl := h.map.lt
    have hb23 := hb2.chg (Chg.gg hg3) fun e => by omega
    have hm3 : MapM Im.enc w3 r S.L := hm2.chg (Chg.gg hg3) fun e => by omega
    refine onPtr_some' (ldM_of (x := some r) (hb23.drew.cells 4 _ rfl) ?_)
    refine ldS_of (x := { x.v with stamp := S.clock + 1 }) hb3.drew.cells ?_
    obtain ⟨w4, hr4, hm4, hc4, hs4⟩ := (hm3.keep (w' := w3.drew) rfl).update tmap tint (k := id) (by have := hk.keys _ hx; simp at this; omega) (enc := Im.enc) { x with v := { x.v with stamp := S.clock + 1 } }
    have cAll : Chg (onS g r) w w4 := by
      have c1 : Chg (onS g r) w w1 := Chg.of_ext hB1
      have c3 : Chg (fun k => k = g ∨ k = w.heap.size) w1 w3 := ((Chg.gg hg2).mono (S' := fun k => k = g ∨ k = w.heap.size) fun i _ hi => .inl hi).trans (Chg.gg hg3) fun i _ hi => .inr hi
      have c5 : Chg (onS g r) w3 w4 := ((Chg.of_ext (S := onS g r) (Below.refl _ w3).drew)).trans hc4 fun i _ hi => .inr hi
      refine (c1.trans c3 fun i hi e => ?_).trans c5 fun i _ hi => hi
      rcases e with e | e
      · exact .inl e
      · omega
    refine runU_of hr4 (hK w4 ⟨?_, hm4, fun p hp => ?_⟩ cAll)
    · exact hb23.drew.chg hc4 fun e => h.ne e.symm
    · obtain ⟨a, b⟩ := p
      rcases (mem_putL hk.srt _ _ a b).1 hp with ⟨rfl, rfl⟩ | ⟨_, hp'⟩
      · exact (h.img _ hx).chg cAll (h.own_blk _ hx)
      · exact (h.img _ hp').chg cAll (h.own_blk _ hp')
end
end Go.Proofs.Yteffnkpplhcomaa
