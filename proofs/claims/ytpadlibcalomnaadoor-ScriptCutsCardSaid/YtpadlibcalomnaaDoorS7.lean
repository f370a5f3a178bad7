/- strings.SplitSeq at a separator of one byte: what its closure gives. -/
import Derived.Test.YtpadlibcalomnaaDoorS6
set_option linter.unusedVariables false
namespace Go.Proofs.YtpadlibcalomnaaDoor
open Go.Vc Go.RowKit Go.Shelf
set_option maxRecDepth 100000
attribute [local go_sem] Oper.semAt_some
/-- These three blocks are as they were. -/
structure Kp3 (b0 b1 b2 : Nat) (A B : World) : Prop where
  h0 : B.heap[b0]? = A.heap[b0]?
  h1 : B.heap[b1]? = A.heap[b1]?
  h2 : B.heap[b2]? = A.heap[b2]?
theorem Kp3.trans {b0 b1 b2 : Nat} {A B C : World} (h : Kp3 b0 b1 b2 A B) (k : Kp3 b0 b1 b2 B C) : Kp3 b0 b1 b2 A C := ⟨k.h0.trans h.h0, k.h1.trans h.h1, k.h2.trans h.h2⟩
/-- The pieces of a text, and what is left behind each. -/
inductive Cuts (c : UInt8) : List UInt8 → List (List UInt8) → Prop
  | last (r : List UInt8) (h : Lib.indexByte r c < 0) : Cuts c r [r]
  | more (r : List UInt8) (i : Nat) (xs : List (List UInt8)) (h : Lib.indexByte r c = i) (hi : i < r.length) (hr : r.length ≤ 1000000) (t : Cuts c (r.drop (i + 1)) xs) : Cuts c r (r.take i :: xs)
def szOf : Option Value → Nat
  | some (.string s) => s.size
  | _ => 0
set_option maxHeartbeats 4000000 in
theorem spl_in (b0 Bs b2 : Nat) (h01 : b0 ≠ Bs) (h21 : b2 ≠ Bs) (c : UInt8) (T : List UInt8) (xs : List (List UInt8)) (hcut : Cuts c T xs) (w0 : World) (hb0 : Boxed w0 b0 9 (.string (strB [c]))) (hb1 : Boxed w0 Bs 9 (.string (strB T))) (hb2 : Boxed w0 b2 3 (.int .i64 0)) :
    BoxSeq Fence.wide 8 Tryd.prog 100 #[.pointer (some ⟨b0, 0, none⟩), .pointer (some ⟨Bs, 0, none⟩), .pointer (some ⟨b2, 0, none⟩)] (fun x : List UInt8 => #[Value.string (strB x)]) Bs (Kp3 b0 Bs b2) xs w0 := by
  intro l J W hW hJs hY h0
  have hIx := fun m (s : List UInt8) (W : World) => (callsIn_wide (n := m)).2 (Tryd.strings_Index_one (strB s) c W)
  have k0 := (hW.block b0 hb0.lt).trans hb0
  have k1 := (hW.block Bs hb1.lt).trans hb1
  have k2 := (hW.block b2 hb2.lt).trans hb2
  have k0 : Boxed W b0 9 (.string (strB [c])) := k0
  have k1 : Boxed W Bs 9 (.string (strB T)) := k1
  have k2 : Boxed W b2 3 (.int .i64 0) := k2
  refine callsIn_of_wp Tryd.func100 rfl trivial ?_ rfl
  simp only [Tryd.ntmps100, List.size_toArray, List.length_cons, List.length_nil, Nat.reduceAdd, Nat.reduceSub, Array.replicate_succ, Array.replicate_zero, List.push_toArray, List.append_toArray, List.nil_append, List.cons_append]
  have c0 := k0.cell
  have hsz : ((strB [c]).size : Int) = 1 := by rw [strB_size]; rfl
  gi_wp2
  gi_loopw [7] (fun i wr => ∃ (pre rest : List (List UInt8)) (r : List UInt8), xs = pre ++ rest ∧ Cuts c r rest ∧ J pre wr ∧ Boxed wr b0 9 (.string (strB [c])) ∧ Boxed wr Bs 9 (.string (strB r)) ∧ Boxed wr b2 3 (.int .i64 0))
    (fun i wr => szOf (wr.cell? ⟨Bs, 0, none⟩))
  case atStart => exact ⟨[], xs, T, rfl, hcut, h0, k0, k1, k2⟩
  case round =>
    obtain ⟨pre, rest, r, hx, hc, hJ, q0, q1, q2⟩ := hrel
    have e0 := q0.cell
    have e1 := q1.cell
    have e2 := q2.cell
    have f1 := q1.frozen
    cases hc with
    | last _ hneg =>
      have hv : Lib.indexByte (strB r).data.toList c = -1 := by
        have := Lib.indexByte_ge r c
        show Lib.indexByte r c = -1
        omega
      obtain ⟨fn, tmps, assign, body, hy, hR⟩ := hY pre r wr hJ ⟨[], hx⟩
      have hI := fun m => hIx m r wr
      rw [hv] at hI
      gi_wp2
      refine ⟨trivial, (hI _).mono ?_⟩
      rintro e w' ⟨rfl, rfl⟩
      gi_wp2
      refine hR.mono ?_
      rintro e W3 ⟨rfl, hJ3, hk3⟩
      gi_wp2
      go_end0
      rw [hx]
      exact ⟨⟨_, rfl⟩, hJ3⟩
    | more _ i xs' hi hil hrl ht =>
      have hv : Lib.indexByte (strB r).data.toList c = i := hi
      obtain ⟨fn, tmps, assign, body, hy, hR⟩ := hY pre (r.take i) wr hJ ⟨xs', hx⟩
      have hI := fun m => hIx m r wr
      rw [hv] at hI
      have hd : decide ((i : Int) < 0) = false := decide_eq_false (by omega)
      have hw0 : IntKind.i64.wrap ((i : Int) + 0) = (i : Int) := by rw [Int.add_zero, i64_in (by omega)]
      have hw1 : IntKind.i64.wrap ((i : Int) + ((strB [c]).size : Int)) = ((i + 1 : Nat) : Int) := by rw [hsz, i64_in (by omega)]; simp
      have hx1 : (strB r).extract 0 i = strB (r.take i) := by rw [extract_strB]; rw [List.drop_zero]
      have hx2 : (strB r).extract (i + 1) (strB r).size = strB (r.drop (i + 1)) := by rw [strB_size, extract_strB, List.take_length]
      have hs1 : i ≤ (strB r).size := by rw [strB_size]; omega
      have hs2 : i + 1 ≤ (strB r).size := by rw [strB_size]; omega
      gi_wp2
      refine ⟨trivial, (hI _).mono ?_⟩
      rintro e w' ⟨rfl, rfl⟩
      gi_wp2
      refine hR.mono ?_
      rintro e W3 ⟨rfl, hJ3, hk3⟩
      have p0 : Boxed W3 b0 9 (.string (strB [c])) := hk3.h0.trans q0
      have p1 : Boxed W3 Bs 9 (.string (strB r)) := hk3.h1.trans q1
      have p2 : Boxed W3 b2 3 (.int .i64 0) := hk3.h2.trans q2
      have g0 := p0.cell
      have g1 := p1.cell
      have g2 := p2.cell
      have g3 := p1.frozen
      gi_wp2
      go_roundw
      case rel => exact ⟨pre ++ [r.take i], xs', r.drop (i + 1), by rw [hx]; simp, ht, hJs _ _ _ hJ3, (Below.heap_setCell W3 ⟨Bs, 0, none⟩ _ b0 h01).trans p0, p1.set _, (Below.heap_setCell W3 ⟨Bs, 0, none⟩ _ b2 h21).trans p2⟩
      case measure =>
        have p1' := (p1.set (.string (strB (r.drop (i + 1))))).cell
        rw [p1', e1]
        show (strB (r.drop (i + 1))).size < (strB r).size
        rw [strB_size, strB_size, List.length_drop]
        omega
end Go.Proofs.YtpadlibcalomnaaDoor
