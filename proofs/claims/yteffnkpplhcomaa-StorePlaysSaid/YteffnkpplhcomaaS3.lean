/- The plain store: what its operations come to. No program in sight but the images' form. -/
import Derived.Test.YteffnkpplhcomaaS2
set_option linter.unusedVariables false
namespace Go.Proofs.Yteffnkpplhcomaa
open Go.Vc Go.RowKit
set_option maxRecDepth 100000

def sizeL (L : List (Int × Im)) : Nat := (L.map fun p => p.2.bs.length).sum
/-- What holds of a store that has lived through n acts. -/
structure StOk (n : Nat) (S : St) : Prop where
  q0 : 0 ≤ S.quota
  q1 : S.quota ≤ 1073741824
  used : S.used = sizeL S.L
  fits : S.used ≤ S.quota
  len : S.L.length ≤ n
  clk0 : 0 ≤ S.clock
  clk : S.clock ≤ n
  srt : Srt S.L
  keys : ∀ p ∈ S.L, 0 < p.1 ∧ p.1 ≤ 1099511627776 + n
  stamps : ∀ p ∈ S.L, 0 < p.2.v.stamp ∧ p.2.v.stamp ≤ S.clock
  borns : ∀ p ∈ S.L, 0 < p.2.v.born ∧ p.2.v.born ≤ S.clock
  st1 : ∀ p ∈ S.L, ∀ q ∈ S.L, p.2.v.stamp = q.2.v.stamp → p = q
  bo1 : ∀ p ∈ S.L, ∀ q ∈ S.L, p.2.v.born = q.2.v.born → p = q

/-! ### Lists -/
theorem sizeL_nil : sizeL [] = 0 := rfl
theorem sizeL_cons (p : Int × Im) (L : List (Int × Im)) : sizeL (p :: L) = p.2.bs.length + sizeL L := rfl
theorem sizeL_mem {L : List (Int × Im)} {p : Int × Im} (h : p ∈ L) : p.2.bs.length ≤ sizeL L := by
  induction L with
  | nil => cases h
  | cons a L ih =>
    rw [sizeL_cons]
    rcases List.mem_cons.1 h with rfl | h
    · omega
    · have := ih h; omega
theorem delL_none {L : List (Int × Im)} {k : Int} (h : ∀ p ∈ L, p.1 ≠ k) : delL L k = L := List.filter_eq_self.2 fun p hp => by simpa using h p hp
theorem look_none {L : List (Int × Im)} {k : Int} (h : lookL L k = none) : ∀ p ∈ L, p.1 ≠ k := fun p hp e => by
  unfold lookL at h
  rw [Option.map_eq_none_iff, List.find?_eq_none] at h
  exact h p hp (by simpa using e)
theorem sizeL_del {L : List (Int × Im)} (hs : Srt L) {k : Int} {x : Im} (h : (k, x) ∈ L) : sizeL (delL L k) + x.bs.length = sizeL L := by
  induction L with
  | nil => cases h
  | cons a L ih =>
    have hp := List.pairwise_cons.1 hs
    unfold delL
    rw [List.filter_cons]
    rcases List.mem_cons.1 h with rfl | h
    · have : (List.filter (fun p : Int × Im => p.1 != k) L) = L := delL_none fun p hq => by have := hp.1 p hq; simp at this; omega
      simp only [bne_self_eq_false, Bool.false_eq_true, if_false, this, sizeL_cons]
      omega
    · have h1 := hp.1 _ h
      have : (a.1 != k) = true := by simp only [bne_iff_ne]; simp at h1; omega
      rw [if_pos this, sizeL_cons, sizeL_cons]
      have := ih hp.2 h
      unfold delL at this
      omega
theorem del_length_le {L : List (Int × Im)} (k : Int) : (delL L k).length ≤ L.length := List.length_filter_le _ _
theorem del_length {L : List (Int × Im)} {k : Int} {x : Im} (h : (k, x) ∈ L) : (delL L k).length < L.length := by
  unfold delL
  exact List.length_filter_lt_length_iff_exists.2 ⟨_, h, by simp⟩
theorem del_mem {L : List (Int × Im)} {k : Int} {p : Int × Im} (h : p ∈ delL L k) : p ∈ L := (List.mem_filter.1 h).1
def szOf (L : List (Int × Im)) (k : Int) : Nat := ((lookL L k).map fun x => x.bs.length).getD 0
theorem szOf_le {L : List (Int × Im)} (hs : Srt L) (k : Int) : szOf L k ≤ sizeL L := by
  unfold szOf
  cases h : lookL L k with
  | none => exact Nat.zero_le _
  | some x => exact sizeL_mem ((lookL_some hs).1 h)
theorem sizeL_del' {L : List (Int × Im)} (hs : Srt L) (k : Int) : sizeL (delL L k) + szOf L k = sizeL L := by
  unfold szOf
  cases h : lookL L k with
  | none => rw [delL_none (look_none h)]; rfl
  | some x => exact sizeL_del hs ((lookL_some hs).1 h)

/-! ### Drop, room -/
def St.drop (S : St) (k : Int) : St := { S with used := S.used - (szOf S.L k : Int), L := delL S.L k }
theorem drop_ok {n : Nat} {S : St} (h : StOk n S) (k : Int) : StOk n (S.drop k) := by
  have h1 := sizeL_del' h.srt k
  have h2 := h.used
  have h3 := h.fits
  exact ⟨h.q0, h.q1, by show S.used - (szOf S.L k : Int) = (sizeL (delL S.L k) : Int); omega, by show S.used - (szOf S.L k : Int) ≤ S.quota; omega,
    Nat.le_trans (del_length_le k) h.len, h.clk0, h.clk, srt_delL h.srt k, fun p hp => h.keys p (del_mem hp), fun p hp => h.stamps p (del_mem hp), fun p hp => h.borns p (del_mem hp),
    fun p hp q hq => h.st1 p (del_mem hp) q (del_mem hq), fun p hp q hq => h.bo1 p (del_mem hp) q (del_mem hq)⟩
/-- The one of the least stamp, the first of them. -/
def eldP : (Int × Im) → List (Int × Im) → Int × Im
  | p, [] => p
  | p, q :: r => if q.2.v.stamp < p.2.v.stamp then eldP q r else eldP p r
theorem eldP_mem : ∀ (L : List (Int × Im)) (p : Int × Im), eldP p L ∈ p :: L
  | [], p => by simp [eldP]
  | q :: r, p => by
    unfold eldP
    split
    · exact List.mem_cons_of_mem _ (eldP_mem r q)
    · rcases List.mem_cons.1 (eldP_mem r p) with e | e
      · rw [e]; exact List.mem_cons_self
      · exact List.mem_cons_of_mem _ (List.mem_cons_of_mem _ e)
theorem eldP_le : ∀ (L : List (Int × Im)) (p : Int × Im), ∀ x ∈ p :: L, (eldP p L).2.v.stamp ≤ x.2.v.stamp
  | [], p => fun x hx => by
    rw [List.mem_singleton] at hx
    subst hx
    exact Int.le_refl _
  | q :: r, p => fun x hx => by
    unfold eldP
    split
    · rename_i hlt
      have h1 := eldP_le r q
      rcases List.mem_cons.1 hx with rfl | hx
      · have := h1 q List.mem_cons_self; omega
      · exact h1 x hx
    · rename_i hlt
      have h1 := eldP_le r p
      rcases List.mem_cons.1 hx with rfl | hx
      · exact h1 x List.mem_cons_self
      · rcases List.mem_cons.1 hx with rfl | hx
        · have := h1 p List.mem_cons_self; omega
        · exact h1 x (List.mem_cons_of_mem _ hx)
def eldest : List (Int × Im) → Int
  | [] => 0
  | p :: r => (eldP p r).1
/-- Who has the least stamp is the eldest. -/
theorem eldest_one {n : Nat} {S : St} (h : StOk n S) {p : Int × Im} (hp : p ∈ S.L) (hmin : ∀ q ∈ S.L, p.2.v.stamp ≤ q.2.v.stamp) : eldest S.L = p.1 := by
  cases hL : S.L with
  | nil => rw [hL] at hp; cases hp
  | cons a r =>
    rw [hL] at hp hmin
    have h1 := eldP_mem r a
    have h2 := eldP_le r a p hp
    have h3 := hmin _ h1
    have := h.st1 p (by rw [hL]; exact hp) _ (by rw [hL]; exact h1) (by omega)
    show (eldP a r).1 = p.1
    rw [← this]
theorem eldest_mem {L : List (Int × Im)} (h : L ≠ []) : ∃ x, (eldest L, x) ∈ L := by
  cases L with
  | nil => exact absurd rfl h
  | cons a r => exact ⟨(eldP a r).2, eldP_mem r a⟩
/-- The eldest go till n bytes have room. -/
def St.roomF (n : Int) : Nat → St → List Int → St × List Int
  | 0, S, G => (S, G)
  | f + 1, S, G => if S.used > S.quota - n ∧ 0 < S.L.length then St.roomF n f (S.drop (eldest S.L)) (G ++ [eldest S.L]) else (S, G)
def St.room (S : St) (n : Int) : St × List Int := S.roomF n S.L.length []
theorem roomF_more (n : Int) : ∀ (f : Nat) (S : St) (G : List Int), S.L.length ≤ f → S.roomF n (f + 1) G = S.roomF n f G
  | 0, S, G, h => by
    show (if S.used > S.quota - n ∧ 0 < S.L.length then _ else (S, G)) = (S, G)
    rw [if_neg (by omega)]
  | f + 1, S, G, h => by
    show (if S.used > S.quota - n ∧ 0 < S.L.length then St.roomF n (f + 1) (S.drop (eldest S.L)) (G ++ [eldest S.L]) else (S, G)) = (if S.used > S.quota - n ∧ 0 < S.L.length then St.roomF n f (S.drop (eldest S.L)) (G ++ [eldest S.L]) else (S, G))
    by_cases hc : S.used > S.quota - n ∧ 0 < S.L.length
    · rw [if_pos hc, if_pos hc]
      refine roomF_more n f _ _ ?_
      obtain ⟨x, hx⟩ := eldest_mem (L := S.L) (by intro e; rw [e] at hc; simp at hc)
      have := del_length hx
      show (delL S.L (eldest S.L)).length ≤ f
      omega
    · rw [if_neg hc, if_neg hc]
theorem roomF_ge (n : Int) {f : Nat} {S : St} {G : List Int} (h : S.L.length ≤ f) : S.roomF n f G = S.roomF n S.L.length G := by
  induction f with
  | zero => rw [show S.L.length = 0 by omega]
  | succ f ih =>
    by_cases hf : S.L.length = f + 1
    · rw [hf]
    · rw [roomF_more n f S G (by omega), ih (by omega)]
theorem roomF_ok {m : Nat} (n : Int) : ∀ (f : Nat) {S : St} {G : List Int}, StOk m S → StOk m (S.roomF n f G).1
  | 0, _, _, h => h
  | f + 1, S, G, h => by
    unfold St.roomF
    split
    · exact roomF_ok n f (drop_ok h _)
    · exact h
theorem roomF_fields (n : Int) : ∀ (f : Nat) (S : St) (G : List Int), (S.roomF n f G).1.quota = S.quota ∧ (S.roomF n f G).1.res = S.res ∧ (S.roomF n f G).1.clock = S.clock
  | 0, _, _ => ⟨rfl, rfl, rfl⟩
  | f + 1, S, G => by
    unfold St.roomF
    split
    · exact roomF_fields n f _ _
    · exact ⟨rfl, rfl, rfl⟩
theorem roomF_used {m : Nat} {n : Int} (hn : 0 ≤ n) : ∀ (f : Nat) {S : St} {G : List Int}, StOk m S → n ≤ S.quota → S.L.length ≤ f → (S.roomF n f G).1.used ≤ S.quota - n
  | 0, S, G, h, hq, hl => by
    show S.used ≤ S.quota - n
    have := h.used
    rw [List.eq_nil_of_length_eq_zero (by omega : S.L.length = 0), sizeL_nil] at this
    omega
  | f + 1, S, G, h, hq, hl => by
    unfold St.roomF
    by_cases hc : S.used > S.quota - n ∧ 0 < S.L.length
    · rw [if_pos hc]
      obtain ⟨x, hx⟩ := eldest_mem (L := S.L) (by intro e; rw [e] at hc; simp at hc)
      have := del_length hx
      exact roomF_used hn f (drop_ok h _) hq (by show (delL S.L (eldest S.L)).length ≤ f; omega)
    · rw [if_neg hc]
      by_cases hz : S.L.length = 0
      · have := h.used
        rw [List.eq_nil_of_length_eq_zero hz, sizeL_nil] at this
        show S.used ≤ _
        omega
      · show S.used ≤ _
        omega
end Go.Proofs.Yteffnkpplhcomaa
