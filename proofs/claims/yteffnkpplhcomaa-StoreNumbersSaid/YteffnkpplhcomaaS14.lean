/- StoreNumbers: plain part. -/
import Derived.Test.YteffnkpplhcomaaS11
set_option linter.unusedVariables false
namespace Go.Proofs.Yteffnkpplhcomaa
open Go.Vc Go.RowKit
set_option maxRecDepth 100000

/-- The images in the order of their putting: all of this number, of four bytes each. -/
structure InOrd (S : St) (n : Int) (M : List (Int × Im)) : Prop where
  perm : M.Perm S.L
  born : M.Pairwise fun p q => p.2.v.born < q.2.v.born
  num : ∀ p ∈ M, p.2.v.number = n ∧ p.2.bs.length = 4
section
variable {j : Nat} {S : St} {n : Int} {M : List (Int × Im)}
theorem InOrd.size (h : InOrd S n M) : sizeL S.L = 4 * M.length := by
  have : sizeL S.L = sizeL M := by
    unfold sizeL
    exact (h.perm.symm.map _).sum_nat
  rw [this]
  have hn := h.num
  clear h this
  induction M with
  | nil => rfl
  | cons p M ih =>
    rw [sizeL_cons, ih fun q hq => hn q (List.mem_cons_of_mem _ hq), (hn p List.mem_cons_self).2]
    simp; omega
theorem putL_perm {L : List (Int × Im)} (hs : Srt L) {k : Int} (x : Im) (hn : lookL L k = none) : (putL' L k x).Perm ((k, x) :: L) := by
  have hno := look_none hn
  refine (List.perm_ext_iff_of_nodup (srt_putL hs k x).nodup (List.nodup_cons.2 ⟨fun h => hno _ h rfl, hs.nodup⟩)).2 fun p => ?_
  obtain ⟨a, b⟩ := p
  rw [mem_putL hs k x a b, List.mem_cons, Prod.mk.injEq]
  constructor
  · rintro (h | h)
    · exact .inl h
    · exact .inr h.2
  · rintro (h | h)
    · exact .inl h
    · exact .inr ⟨hno _ h, h⟩
theorem InOrd.keys (h : InOrd S n M) (hk : StOk j S) : M.Pairwise fun p q => p.1 ≠ q.1 := by
  have h1 : (S.L.map (·.1)).Nodup := List.pairwise_map.2 (hk.srt.imp fun h => Int.ne_of_lt h)
  have h2 : (M.map (·.1)).Nodup := ((h.perm.map (·.1)).nodup_iff).2 h1
  exact List.pairwise_map.1 h2
theorem room_idle (hk : StOk j S) {k : Int} (h : S.used ≤ S.quota - k) : S.room k = (S, []) := by
  unfold St.room
  cases hl : S.L.length with
  | zero => rfl
  | succ f =>
    unfold St.roomF
    rw [if_neg (by omega)]
theorem InOrd.put (h : InOrd S n M) (hk : StOk j S) (hj : j ≤ 100) (hq : S.quota = 1048576) {id : Int} (hid : id ≠ 0) (P : Slc) {bs : List UInt8} (hbs : bs.length = 4) :
    newId (S.putPre id 4).1.L id = id ∧ InOrd ((S.putPre id 4).1.putAt id n 1 1 P bs) n (M.filter (fun p => p.1 != id) ++ [(id, ⟨⟨n, ⟨1, 1, P⟩, S.clock + 1, S.clock + 1⟩, bs⟩)]) ∧ ((S.putPre id 4).1.putAt id n 1 1 P bs).quota = 1048576 := by
  have hsz := h.size
  have hlen := h.perm.length_eq
  have hl := hk.len
  have hu := hk.used
  have hd := drop_ok (res_ok hk 0) id
  have hdu : (({ S with res := 0 } : St).drop id).used ≤ S.used := by show S.used - (szOf S.L id : Int) ≤ S.used; omega
  have hpre : S.putPre id 4 = (({ S with res := 0 } : St).drop id, []) := by
    unfold St.putPre
    rw [if_neg hid]
    exact room_idle hd (by show (({ S with res := 0 } : St).drop id).used ≤ S.quota - 4; omega)
  rw [hpre]
  refine ⟨by unfold newId; rw [if_neg hid], ⟨?_, ?_, ?_⟩, hq⟩
  · have hno : lookL (delL S.L id) id = none := by
      cases hx : lookL (delL S.L id) id with
      | none => rfl
      | some x => exact absurd rfl ((mem_delL id id x).1 ((lookL_some (srt_delL hk.srt id)).1 hx)).1
    refine List.Perm.trans ?_ (putL_perm (srt_delL hk.srt id) _ hno).symm
    exact (List.perm_append_comm (l₁ := M.filter (fun p => p.1 != id)) (l₂ := [_])).trans ((h.perm.filter _).cons _)
  · refine List.pairwise_append.2 ⟨h.born.filter _, List.pairwise_singleton _ _, fun p hp q hq' => ?_⟩
    rw [List.mem_singleton] at hq'
    subst hq'
    have := hk.borns p (h.perm.mem_iff.1 (List.mem_filter.1 hp).1)
    show p.2.v.born < S.clock + 1
    omega
  · intro p hp
    rcases List.mem_append.1 hp with hp | hp
    · exact h.num p (List.mem_filter.1 hp).1
    · rw [List.mem_singleton] at hp
      subst hp
      exact ⟨rfl, hbs⟩
theorem InOrd.numNil (h : InOrd S n []) : NumRes S.L n 0 false := .inl ⟨rfl, rfl, fun p hp => by
  have := h.perm.mem_iff.2 hp
  cases this⟩
theorem InOrd.numLast {q : Int × Im} (h : InOrd S n (M ++ [q])) (hn : n ≠ 0) : NumRes S.L n q.1 true := by
  refine .inr ⟨rfl, q.2, h.perm.mem_iff.1 (List.mem_append_right _ List.mem_cons_self), hn, (h.num q (List.mem_append_right _ List.mem_cons_self)).1, fun p hp _ => ?_⟩
  rcases List.mem_append.1 (h.perm.mem_iff.2 hp) with hp | hp
  · have := (List.pairwise_append.1 h.born).2.2 p hp q List.mem_cons_self
    omega
  · rw [List.mem_singleton] at hp
    subst hp
    exact Int.le_refl _
theorem InOrd.drop {q : Int × Im} (h : InOrd S n (M ++ [q])) (hk : StOk j S) : InOrd (S.drop q.1) n M ∧ (lookL S.L q.1).isSome = true := by
  have hkeys := h.keys hk
  refine ⟨⟨?_, (List.pairwise_append.1 h.born).1, fun p hp => h.num p (List.mem_append_left _ hp)⟩, ?_⟩
  · have h1 := h.perm.filter (fun p => p.1 != q.1)
    rw [List.filter_append] at h1
    have h2 : M.filter (fun p => p.1 != q.1) = M := List.filter_eq_self.2 fun p hp => by
      have := (List.pairwise_append.1 hkeys).2.2 p hp q List.mem_cons_self
      simpa using this
    rw [h2] at h1
    have h4 : [q].filter (fun p : Int × Im => p.1 != q.1) = [] := by simp
    rw [h4, List.append_nil] at h1
    exact h1
  · have := h.perm.mem_iff.1 (List.mem_append_right _ List.mem_cons_self)
    rw [(lookL_some hk.srt).2 this]
    rfl
end
end Go.Proofs.Yteffnkpplhcomaa
