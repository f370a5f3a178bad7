/- By program (gen.py): the typed text of the program's functions, part 4. -/
import Derived.Test.YteffnkpplhcomaaDefs
set_option maxRecDepth 100000
set_option linter.unusedVariables false
namespace Go.Proofs.Yteffnkpplhcomaa
open Go.Vc

/-- slices.order2Ordered[int] -/
def sh_slices_order2Ordered_int (data : Slc) (a : Int) (b : Int) (swaps : Option Addr) (w : World) (K : Int → Int → World → Prop) : Prop :=
  ixK data b 1 fun t12 =>
  ldI .i64 t12 w.drew fun t13 =>
  ixK data a 1 fun t16 =>
  ldI .i64 t16 w.drew fun t17 =>
  c_cmp_Less_int t13 t17 w.drew fun t18 w1 =>
  cond t18
    (onPtr swaps fun t20 =>
     ldI .i64 t20 w1 fun t21 =>
     onPtr swaps fun t23 =>
     stK t23 [(.int .i64 (IntKind.i64.wrap (t21 + (1 : Int))))] w1 fun w2 =>
     K b a w2)
    (K a b w1)

def an_slices_order2Ordered_int : List Ann := [.none, .none, .none, .none, .none, .none]

theorem vc_slices_order2Ordered_int (data : Slc) (a : Int) (b : Int) (swaps : Option Addr) (w : World) (K : Int → Int → World → Prop) :
    vcFn C (Try.f172.body.getD .skip) Try.f172.results.toList Try.f172.ntmps an_slices_order2Ordered_int [(Kind.int .i64), (Kind.int .i64)] [(.slice data.a data.n data.c), (.int .i64 a), (.int .i64 b), (.pointer swaps)] w (fun s w => K s.1 s.2.1 w) = sh_slices_order2Ordered_int data a b swaps w K := by kernel_rfl

theorem call_slices_order2Ordered_int (data : Slc) (a : Int) (b : Int) (swaps : Option Addr) {w : World} {K : Int → Int → World → Prop} (h : sh_slices_order2Ordered_int data a b swaps w K) : c_slices_order2Ordered_int data a b swaps w K := by
  rw [← vc_slices_order2Ordered_int] at h
  refine Calls.mono (calls_of_vc C.plain_ok C.mixed Try.func172 rfl h) ?_
  rintro e w' ⟨s, rfl, hK⟩
  exact ⟨s.1, s.2.1, rfl, hK⟩

/-- (*phosphor/sums.Adler).Sum -/
def sh_sums_Adler_Sum (a : Option Addr) (w : World) (K : Int → World → Prop) : Prop :=
  onPtr a fun t4 =>
  ldI .u32 (t4.add 1) w.drew fun t6 =>
  0 ≤ (16 : Int) ∧
  onPtr a fun t9 =>
  ldI .u32 (t9.add 0) w.drew fun t11 =>
  K (bitsR .or .u32 (IntKind.u32.wrap (t6 * 2 ^ (min (16 : Int).toNat IntKind.u32.bits))) t11) w.drew

def an_sums_Adler_Sum : List Ann := [.none, .none]

theorem vc_sums_Adler_Sum (a : Option Addr) (w : World) (K : Int → World → Prop) :
    vcFn C (Try.f193.body.getD .skip) Try.f193.results.toList Try.f193.ntmps an_sums_Adler_Sum [(Kind.int .u32)] [(.pointer a)] w (fun s w => K s.1 w) = sh_sums_Adler_Sum a w K := by kernel_rfl

theorem call_sums_Adler_Sum (a : Option Addr) {w : World} {K : Int → World → Prop} (h : sh_sums_Adler_Sum a w K) : c_sums_Adler_Sum a w K := by
  rw [← vc_sums_Adler_Sum] at h
  refine Calls.mono (calls_of_vc C.plain_ok C.mixed Try.func193 rfl h) ?_
  rintro e w' ⟨s, rfl, hK⟩
  exact ⟨s.1, rfl, hK⟩

/-- (*phosphor/sums.Adler).Write -/
def sh_sums_Adler_Write (a : Option Addr) (b : Slc) (w : World) (K : Int → Value → World → Prop) : Prop :=
  loopP (σ := Int × Unit) (fun I1 s w1 =>
    cond (decide (s.1 < ((b.n : Nat) : Int)))
      (ixK b s.1 1 fun t12 =>
       ldI .u8 t12 w1 fun t13 =>
       onPtr a fun t16 =>
       ldI .u32 (t16.add 0) w1 fun t18 =>
       (65521 : Int) ≠ 0 ∧
       onPtr a fun t23 =>
       stK (t23.add 0) [(.int .u32 ((IntKind.u32.wrap (t18 + (IntKind.u32.wrap t13))).tmod (65521 : Int)))] w1 fun w2 =>
       onPtr a fun t27 =>
       ldI .u32 (t27.add 1) w2.drew fun t29 =>
       onPtr a fun t31 =>
       ldI .u32 (t31.add 0) w2.drew fun t33 =>
       (65521 : Int) ≠ 0 ∧
       onPtr a fun t36 =>
       stK (t36.add 1) [(.int .u32 ((IntKind.u32.wrap (t29 + t33)).tmod (65521 : Int)))] w2.drew fun w3 =>
       I1 ((IntKind.i64.wrap (s.1 + (1 : Int))), ()) w3)
      (K ((b.n : Nat) : Int) (.nilIface : Value) w1)) (0, ()) w

def an_sums_Adler_Write : List Ann := [.none, .none, .none, .join [(10, (Kind.int .i64))] [7, 10, 11, 12, 13, 14, 15, 16, 17, 18, 19, 20, 21, 22, 23, 24, 25, 26, 27, 28, 29, 30, 31, 32, 33, 34, 35, 36, 37, 38], .none, .none, .none, .none, .none, .none]

theorem vc_sums_Adler_Write (a : Option Addr) (b : Slc) (w : World) (K : Int → Value → World → Prop) :
    vcFn C (Try.f194.body.getD .skip) Try.f194.results.toList Try.f194.ntmps an_sums_Adler_Write [(Kind.int .i64), Kind.raw] [(.pointer a), (.slice b.a b.n b.c)] w (fun s w => K s.1 s.2.1 w) = sh_sums_Adler_Write a b w K := by kernel_rfl

theorem call_sums_Adler_Write (a : Option Addr) (b : Slc) {w : World} {K : Int → Value → World → Prop} (h : sh_sums_Adler_Write a b w K) : c_sums_Adler_Write a b w K := by
  rw [← vc_sums_Adler_Write] at h
  refine Calls.mono (calls_of_vc C.plain_ok C.mixed Try.func194 rfl h) ?_
  rintro e w' ⟨s, rfl, hK⟩
  exact ⟨s.1, s.2.1, rfl, hK⟩

end Go.Proofs.Yteffnkpplhcomaa
