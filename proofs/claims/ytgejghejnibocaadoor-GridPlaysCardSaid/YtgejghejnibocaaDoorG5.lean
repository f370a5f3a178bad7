/- Grids of the program: Scroll. -/
import Derived.Test.YtgejghejnibocaaDoorG4
namespace Go.Vc
open Go.RowKit
/-- s[l:m:m] of a slice that reads as a list. -/
theorem Rd.slK3 {T : Type} {E : El T} {w : World} {s : Slc} {xs : List T} (h : Rd E w s xs) {lo : Option Int} {hi mx : Int} {k : Nat} (hk : k = E.k) {l m : Nat} {K : Slc → Prop} (hlo : lo = none ∧ l = 0 ∨ lo = some (l : Int)) (hhi : hi = (m : Int)) (hmx : mx = (m : Int))
    (hl : l ≤ m) (hm : m ≤ xs.length) (hK : Rd E w ⟨cut s.a l m E.k, m - l, m - l⟩ ((xs.take m).drop l) → K ⟨cut s.a l m E.k, m - l, m - l⟩) : slK3 s lo hi mx k K := by
  subst hk hhi hmx
  have hn := h.n
  have hnc := h.nc
  have hcm := h.cm
  have hlen : ((xs.take m).drop l).length = m - l := by simp; omega
  have key : Rd E w ⟨cut s.a l m E.k, m - l, m - l⟩ ((xs.take m).drop l) := by
    refine ⟨hlen.symm, Nat.le_refl _, by show m - l ≤ maxLen; omega, fun hp => ?_, fun i x hx => ?_⟩
    · rw [hlen] at hp
      obtain ⟨a, ha⟩ := Option.isSome_iff_exists.1 (h.some_ (by omega))
      show (cut s.a l m E.k).isSome = true
      unfold cut
      rw [ha]
      split <;> rfl
    · have hi : i < m - l := by rw [← hlen]; exact (List.getElem?_eq_some_iff.1 hx).1
      rw [List.getElem?_drop, List.getElem?_take_of_lt (by omega)] at hx
      have hc := h.at_ _ _ hx
      obtain ⟨a, ha⟩ := Option.isSome_iff_exists.1 (h.some_ (by omega))
      have e : (⟨cut s.a l m E.k, m - l, m - l⟩ : Slc).at_ E.k i = s.at_ E.k (l + i) := by
        unfold Slc.at_ cut
        rw [ha, if_neg (by omega)]
        simp only [Option.map_some, Option.getD_some]
        rw [add_add, Nat.add_mul]
      rw [e]
      exact hc
  unfold Vc.slK3
  refine bnd_some (by omega) (by omega) ?_
  refine bnd_some (by omega) (by simp) ?_
  have hk' := hK key
  rcases hlo with ⟨rfl, rfl⟩ | rfl
  · exact bnd_none (by simpa using hk')
  · exact bnd_some (by omega) (by simp; omega) (by simpa using hk')
end Go.Vc
namespace Go.Proofs.YtgejghejnibocaaDoor
open Go.Vc Go.RowKit

def scrollBad (rows : Nat) (top past n : Int) : Prop := n = 0 ∨ top < 0 ∨ past ≤ top ∨ past > rows
instance (rows : Nat) (top past n : Int) : Decidable (scrollBad rows top past n) := by unfold scrollBad; infer_instance
/-- How many lines go. -/
def scrollM (top past n : Int) : Nat := (min (if n < 0 then -n else n) (past - top)).toNat
def scrollL (cols : Nat) (L : List (List Cell)) (top past n : Int) (a : Attr) : List (List Cell) :=
  let m := scrollM top past n
  let b := List.replicate m (newL cols a)
  if n > 0 then L.take top.toNat ++ (L.take past.toNat).drop (top.toNat + m) ++ b ++ L.drop past.toNat
  else L.take top.toNat ++ b ++ (L.take (past.toNat - m)).drop top.toNat ++ L.drop past.toNat
def pushAll (most : Nat) (old : List (List Cell)) (xs : List (List Cell)) : List (List Cell) := xs.foldl (pushL most) old
def scrollG (S : GS) (top past n : Int) (a : Attr) : GS :=
  if scrollBad S.rows top past n then S
  else if n > 0 ∧ top = 0 then { S with L := scrollL S.cols S.L top past n a, old := pushAll S.most S.old (S.L.take (scrollM top past n)), top := IntKind.i64.wrap (S.top + scrollM top past n) }
  else { S with L := scrollL S.cols S.L top past n a }
def scrollR (rows : Nat) (top past n : Int) : Int := if scrollBad rows top past n ∨ n < 0 ∨ top ≠ 0 then 0 else scrollM top past n

theorem pushAll_succ (most : Nat) (old : List (List Cell)) (L : List (List Cell)) (k : Nat) (x : List Cell) (h : L[k]? = some x) : pushAll most old (L.take (k + 1)) = pushL most (pushAll most old (L.take k)) x := by
  rw [pushAll, List.take_add_one, h, List.foldl_append]
  rfl

end Go.Proofs.YtgejghejnibocaaDoor
