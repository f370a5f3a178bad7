/- The fixed code as it is read: the machine on a symbol of the fixed code. -/
import Derived.Test.YteffnkpplhcomaaInfS
namespace Go.Proofs.Yteffnkpplhcomaa
open Go.Vc Go.RowKit
set_option maxRecDepth 400000

theorem revN_succ (v k : Nat) : revN v (k + 1) = revN (v / 2) k + 2 ^ k * (v % 2) := by
  induction k generalizing v with
  | zero => show 2 * 0 + v / 2 ^ 0 % 2 = 0 + 2 ^ 0 * (v % 2); simp
  | succ k ih =>
    show 2 * revN v (k + 1) + v / 2 ^ (k + 1) % 2 = (2 * revN (v / 2) k + v / 2 / 2 ^ k % 2) + 2 ^ (k + 1) * (v % 2)
    rw [ih, Nat.div_div_eq_div_mul, show 2 * 2 ^ k = 2 ^ (k + 1) by rw [Nat.pow_succ, Nat.mul_comm], Nat.mul_add, ← Nat.mul_assoc, show 2 * 2 ^ k = 2 ^ (k + 1) by rw [Nat.pow_succ, Nat.mul_comm]]
    omega
theorem msb_peek {B : List UInt8} {a : Nat} (k : Nat) : ∀ v, v < 2 ^ k → peekN B a k = revN v k → msb B a k = v := by
  induction k with
  | zero => intro v hv _; show 0 = v; simp at hv; omega
  | succ k ih =>
    intro v hv h
    rw [peekN_add, revN_succ] at h
    have h1 := peekN_lt B a k
    have h2 := revN_lt (v / 2) k
    have h3 := peekN_lt B (a + k) 1
    have e1 := congrArg (· % 2 ^ k) h
    have e2 := congrArg (· / 2 ^ k) h
    simp only [Nat.add_mul_mod_self_left, Nat.mod_eq_of_lt h1, Nat.mod_eq_of_lt h2, Nat.add_mul_div_left _ _ (Nat.pow_pos (n := k) (by decide : 0 < 2)), Nat.div_eq_of_lt h1, Nat.div_eq_of_lt h2, Nat.zero_add] at e1 e2
    rw [Nat.pow_succ] at hv
    rw [msb, ih (v / 2) (by omega) e1, e2]
    omega

def sortF : List Nat := (List.range 24).map (256 + ·) ++ (List.range 144 ++ ((List.range 8).map (280 + ·) ++ (List.range 112).map (144 + ·)))
theorem sortF_eq : sortedK fixedL 15 = sortF := by decide +kernel
theorem sortF7 : ∀ i, i < 24 → sortF.getD i 0 = 256 + i := by decide +kernel
theorem sortF8 : ∀ i, i < 152 → sortF.getD (24 + i) 0 = if i < 144 then i else 280 + (i - 144) := by decide +kernel
theorem sortF9 : ∀ i, i < 112 → sortF.getD (176 + i) 0 = 144 + i := by decide +kernel
theorem lastF : lastK fixedL = 9 := by decide +kernel
theorem cntF : (List.range 10).map (cntK fixedL) = [0, 0, 0, 0, 0, 0, 0, 24, 152, 112] := by decide +kernel
theorem firstF : (List.range 10).map (firstK fixedL) = [0, 0, 0, 0, 0, 0, 0, 0, 48, 400] := by decide +kernel
theorem offF : (List.range 10).map (offK fixedL) = [0, 0, 0, 0, 0, 0, 0, 0, 24, 176] := by decide +kernel
def codeF (y : Nat) : Nat := if y < 144 then 48 + y else if y < 256 then 400 + (y - 144) else if y < 280 then y - 256 else 192 + (y - 280)
theorem codeF_eq : ∀ y, y < 288 → codeK fixedL (kN y) y = codeF y := by decide +kernel
theorem kN_eq {y : Nat} (h : y < 288) : kN y = if y < 144 then 8 else if y < 256 then 9 else if y < 280 then 7 else 8 := by
  unfold kN
  rw [fixedL_get y h]
  show (if y < 144 then (8 : UInt8) else if y < 256 then 9 else if y < 280 then 7 else 8).toNat = _
  repeat' split
  all_goals rfl

end Go.Proofs.Yteffnkpplhcomaa
