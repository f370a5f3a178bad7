/- By program (gen.py): the typed text of the program's functions, part 2. -/
import Derived.Test.YtgejghejnibocaaDoorDefs
set_option maxRecDepth 100000
set_option linter.unusedVariables false
namespace Go.Proofs.YtgejghejnibocaaDoor
open Go.Vc

/-- phosphor/phosphorref16.size -/
def sh_phosphorref16_size (n : Int) (w : World) (K : Bool → World → Prop) : Prop :=
  cond (decide (n ≥ (1 : Int)))
    (K (decide (n ≤ (1000 : Int))) w)
    (K false w)

def an_phosphorref16_size : List Ann := [.none, .none]

theorem vc_phosphorref16_size (n : Int) (w : World) (K : Bool → World → Prop) :
    vcFn C (Tryd.f83.body.getD .skip) Tryd.f83.results.toList Tryd.f83.ntmps an_phosphorref16_size [Kind.bool] [(.int .i64 n)] w (fun s w => K s.1 w) = sh_phosphorref16_size n w K := by kernel_rfl

theorem call_phosphorref16_size (n : Int) {w : World} {K : Bool → World → Prop} (h : sh_phosphorref16_size n w K) : c_phosphorref16_size n w K := by
  rw [← vc_phosphorref16_size] at h
  refine Calls.mono (calls_of_vc C.plain_ok C.mixed Tryd.func83 rfl h) ?_
  rintro e w' ⟨s, rfl, hK⟩
  exact ⟨s.1, rfl, hK⟩

/-- (*phosphor/phosphorref16.Grid).Is -/
def sh_phosphorref16_Grid_Is (g : Option Addr) (row : Int) (w : World) (K : Bool → World → Prop) : Prop :=
  cond (decide (row ≥ (0 : Int)))
    (onPtr g fun t10 =>
     ldI .i64 (t10.add 0) w fun t12 =>
     K (decide (row < t12)) w)
    (K false w)

def an_phosphorref16_Grid_Is : List Ann := [.none, .none]

theorem vc_phosphorref16_Grid_Is (g : Option Addr) (row : Int) (w : World) (K : Bool → World → Prop) :
    vcFn C (Tryd.f84.body.getD .skip) Tryd.f84.results.toList Tryd.f84.ntmps an_phosphorref16_Grid_Is [Kind.bool] [(.pointer g), (.int .i64 row)] w (fun s w => K s.1 w) = sh_phosphorref16_Grid_Is g row w K := by kernel_rfl

theorem call_phosphorref16_Grid_Is (g : Option Addr) (row : Int) {w : World} {K : Bool → World → Prop} (h : sh_phosphorref16_Grid_Is g row w K) : c_phosphorref16_Grid_Is g row w K := by
  rw [← vc_phosphorref16_Grid_Is] at h
  refine Calls.mono (calls_of_vc C.plain_ok C.mixed Tryd.func84 rfl h) ?_
  rintro e w' ⟨s, rfl, hK⟩
  exact ⟨s.1, rfl, hK⟩

/-- (*phosphor/phosphorref16.Grid).leave -/
def sh_phosphorref16_Grid_leave (g : Option Addr) (l : Slc) (w : World) (K : World → Prop) : Prop :=
  onPtr g fun t6 =>
  ldSl (t6.add 4) w fun t8 =>
  nw 24 [(.slice l.a l.n l.c)] w fun t10 w1 =>
  apK Tryd.prog #[86, 86] 86 t8 (⟨(some t10), 1, 1⟩ : Slc) w1 fun t11 w2 =>
  onPtr g fun t12 =>
  stK (t12.add 4) [(.slice t11.a t11.n t11.c)] w2 fun w3 =>
  joinP (σ := Unit) (fun s w4 =>
    onPtr g fun t35 =>
    ldI .i64 (t35.add 5) w4 fun t37 =>
    onPtr g fun t39 =>
    stK (t39.add 5) [(.int .i64 (IntKind.i64.wrap (t37 + (1 : Int))))] w4 fun w5 =>
    K w5) fun J1 =>
  onPtr g fun t15 =>
  ldSl (t15.add 4) w3.drew fun t17 =>
  onPtr g fun t20 =>
  ldI .i64 (t20.add 2) w3.drew fun t22 =>
  cond (decide (((t17.n : Nat) : Int) > t22))
    (nw 24 [] w3.drew fun t25 w6 =>
     onPtr g fun t27 =>
     ldSl (t27.add 4) w6 fun t29 =>
     slK t29 (some 1) none 1 fun t30 =>
     apK Tryd.prog #[86, 86] 86 (⟨(some t25), 0, 0⟩ : Slc) t30 w6 fun t31 w7 =>
     onPtr g fun t32 =>
     stK (t32.add 4) [(.slice t31.a t31.n t31.c)] w7 fun w8 =>
     J1 (()) w8)
    (J1 (()) w3.drew)

def an_phosphorref16_Grid_leave : List Ann := [.none, .join [] [14, 15, 16, 17, 18, 19, 20, 21, 22, 23, 24, 25, 26, 27, 28, 29, 30, 31, 32, 33], .none]

theorem vc_phosphorref16_Grid_leave (g : Option Addr) (l : Slc) (w : World) (K : World → Prop) :
    vcFn C (Tryd.f85.body.getD .skip) Tryd.f85.results.toList Tryd.f85.ntmps an_phosphorref16_Grid_leave [] [(.pointer g), (.slice l.a l.n l.c)] w (fun s w => K w) = sh_phosphorref16_Grid_leave g l w K := by kernel_rfl

theorem call_phosphorref16_Grid_leave (g : Option Addr) (l : Slc) {w : World} {K : World → Prop} (h : sh_phosphorref16_Grid_leave g l w K) : c_phosphorref16_Grid_leave g l w K := by
  rw [← vc_phosphorref16_Grid_leave] at h
  refine Calls.mono (calls_of_vc C.plain_ok C.mixed Tryd.func85 rfl h) ?_
  rintro e w' ⟨s, rfl, hK⟩
  exact ⟨rfl, hK⟩

/-- (*phosphor/grid.Grid).Change -/
def sh_grid_Grid_Change (g : Option Addr) (row : Int) (f : Value) (w : World) (K : Bool → World → Prop) : Prop :=
  joinP (σ := Unit) (fun s w1 =>
    c_grid_Grid_is g row w1 fun t32 w2 =>
    K t32 w2) fun J1 =>
  c_grid_Grid_is g row w fun t9 w3 =>
  cond t9
    (onPtr g fun t11 =>
     ldSl (t11.add 3) w3.drew fun t13 =>
     onPtr g fun t17 =>
     ldSl (t17.add 3) w3.drew fun t19 =>
     ixK t19 row 1 fun t21 =>
     ldSl t21 w3.drew fun t22 =>
     onPtr g fun t25 =>
     ldI .i64 (t25.add 2) w3.drew fun t27 =>
     callR C f [(.slice t22.a t22.n t22.c)] [Kind.slice] w3.drew fun (t23 : Slc) w4 =>
     World.cell? w4 (t25.add 2) = some (.int .i64 t27) ∧
     World.cell? w4 (t11.add 3) = some (.slice t13.a t13.n t13.c) ∧
     c_line_Line_Resize t23 t27 w4 fun t28 w5 =>
     World.cell? w5 (t11.add 3) = some (.slice t13.a t13.n t13.c) ∧
     ixK t13 row 1 fun t29 =>
     stK t29 [(.slice t28.a t28.n t28.c)] w5 fun w6 =>
     J1 (()) w6)
    (J1 (()) w3)

def an_grid_Grid_Change : List Ann := [.none, .join [] [7, 8, 9, 10, 11, 12, 13, 14, 15, 16, 17, 18, 19, 20, 21, 22, 23, 24, 25, 26, 27, 28, 29], .none, .none]

theorem vc_grid_Grid_Change (g : Option Addr) (row : Int) (f : Value) (w : World) (K : Bool → World → Prop) :
    vcFn C (Tryd.f86.body.getD .skip) Tryd.f86.results.toList Tryd.f86.ntmps an_grid_Grid_Change [Kind.bool] [(.pointer g), (.int .i64 row), f] w (fun s w => K s.1 w) = sh_grid_Grid_Change g row f w K := by kernel_rfl

theorem call_grid_Grid_Change (g : Option Addr) (row : Int) (f : Value) {w : World} {K : Bool → World → Prop} (h : sh_grid_Grid_Change g row f w K) : c_grid_Grid_Change g row f w K := by
  rw [← vc_grid_Grid_Change] at h
  refine Calls.mono (calls_of_vc C.plain_ok C.mixed Tryd.func86 rfl h) ?_
  rintro e w' ⟨s, rfl, hK⟩
  exact ⟨s.1, rfl, hK⟩

/-- (*phosphor/grid.Grid).Fill$1 -/
def sh_grid_Grid_Fill_1 (l : Slc) (c0 : Addr) (c1 : Addr) (c2 : Addr) (w : World) (K : Slc → World → Prop) : Prop :=
  ldI .i64 c0 w fun t7 =>
  ldI .i64 c1 w fun t8 =>
  ldS T_api_Attr.rep c2 w fun t9 =>
  c_line_Line_Erase l t7 t8 t9 w fun t10 w1 =>
  K t10 w1

def an_grid_Grid_Fill_1 : List Ann := [.none, .none]

theorem vc_grid_Grid_Fill_1 (l : Slc) (c0 : Addr) (c1 : Addr) (c2 : Addr) (w : World) (K : Slc → World → Prop) :
    vcFn C (Tryd.f87.body.getD .skip) Tryd.f87.results.toList Tryd.f87.ntmps an_grid_Grid_Fill_1 [Kind.slice] [(.slice l.a l.n l.c), (.pointer (some c0)), (.pointer (some c1)), (.pointer (some c2))] w (fun s w => K s.1 w) = sh_grid_Grid_Fill_1 l c0 c1 c2 w K := by kernel_rfl

theorem call_grid_Grid_Fill_1 (l : Slc) (c0 : Addr) (c1 : Addr) (c2 : Addr) {w : World} {K : Slc → World → Prop} (h : sh_grid_Grid_Fill_1 l c0 c1 c2 w K) : c_grid_Grid_Fill_1 l c0 c1 c2 w K := by
  rw [← vc_grid_Grid_Fill_1] at h
  refine Calls.mono (calls_of_vc C.plain_ok C.mixed Tryd.func87 rfl h) ?_
  rintro e w' ⟨s, rfl, hK⟩
  exact ⟨s.1, rfl, hK⟩

/-- (*phosphor/ring.Ring[phosphor/line.Line]).Clear -/
def sh_ring_Ring_line_Line_Clear (r : Option Addr) (w : World) (K : World → Prop) : Prop :=
  onPtr r fun t3 =>
  ldI .i64 (t3.add 3) w.drew fun t5 =>
  onPtr r fun t7 =>
  ldSl (t7.add 1) w.drew fun t9 =>
  onPtr r fun t12 =>
  stK (t12.add 3) [(.int .i64 (IntKind.i64.wrap (t5 + ((t9.n : Nat) : Int))))] w.drew fun w1 =>
  onPtr r fun t16 =>
  stK (t16.add 1) [(.slice none 0 0)] w1 fun w2 =>
  onPtr r fun t18 =>
  stK (t18.add 2) [(.int .i64 0)] w2 fun w3 =>
  K w3

def an_ring_Ring_line_Line_Clear : List Ann := [.none]

theorem vc_ring_Ring_line_Line_Clear (r : Option Addr) (w : World) (K : World → Prop) :
    vcFn C (Tryd.f88.body.getD .skip) Tryd.f88.results.toList Tryd.f88.ntmps an_ring_Ring_line_Line_Clear [] [(.pointer r)] w (fun s w => K w) = sh_ring_Ring_line_Line_Clear r w K := by kernel_rfl

theorem call_ring_Ring_line_Line_Clear (r : Option Addr) {w : World} {K : World → Prop} (h : sh_ring_Ring_line_Line_Clear r w K) : c_ring_Ring_line_Line_Clear r w K := by
  rw [← vc_ring_Ring_line_Line_Clear] at h
  refine Calls.mono (calls_of_vc C.plain_ok C.mixed Tryd.func88 rfl h) ?_
  rintro e w' ⟨s, rfl, hK⟩
  exact ⟨rfl, hK⟩

/-- (*phosphor/grid.Grid).Size -/
def sh_grid_Grid_Size (g : Option Addr) (w : World) (K : Int → Int → World → Prop) : Prop :=
  onPtr g fun t5 =>
  ldI .i64 (t5.add 1) w.drew fun t7 =>
  onPtr g fun t9 =>
  ldI .i64 (t9.add 2) w.drew fun t11 =>
  K t7 t11 w.drew

def an_grid_Grid_Size : List Ann := [.none, .none]

theorem vc_grid_Grid_Size (g : Option Addr) (w : World) (K : Int → Int → World → Prop) :
    vcFn C (Tryd.f89.body.getD .skip) Tryd.f89.results.toList Tryd.f89.ntmps an_grid_Grid_Size [(Kind.int .i64), (Kind.int .i64)] [(.pointer g)] w (fun s w => K s.1 s.2.1 w) = sh_grid_Grid_Size g w K := by kernel_rfl

theorem call_grid_Grid_Size (g : Option Addr) {w : World} {K : Int → Int → World → Prop} (h : sh_grid_Grid_Size g w K) : c_grid_Grid_Size g w K := by
  rw [← vc_grid_Grid_Size] at h
  refine Calls.mono (calls_of_vc C.plain_ok C.mixed Tryd.func89 rfl h) ?_
  rintro e w' ⟨s, rfl, hK⟩
  exact ⟨s.1, s.2.1, rfl, hK⟩

/-- (phosphor/line.Line).is -/
def sh_line_Line_is (l : Slc) (col : Int) (kind : Int) (w : World) (K : Bool → World → Prop) : Prop :=
  cond (decide (col ≥ (0 : Int)))
    (cond (decide (col < ((l.n : Nat) : Int)))
       (ixK l col 5 fun t18 =>
        ldI .i64 (t18.add 1) w fun t20 =>
        K (t20 == kind) w)
       (K false w))
    (K false w)

def an_line_Line_is : List Ann := [.none, .none]

theorem vc_line_Line_is (l : Slc) (col : Int) (kind : Int) (w : World) (K : Bool → World → Prop) :
    vcFn C (Tryd.f90.body.getD .skip) Tryd.f90.results.toList Tryd.f90.ntmps an_line_Line_is [Kind.bool] [(.slice l.a l.n l.c), (.int .i64 col), (.int .i64 kind)] w (fun s w => K s.1 w) = sh_line_Line_is l col kind w K := by kernel_rfl

theorem call_line_Line_is (l : Slc) (col : Int) (kind : Int) {w : World} {K : Bool → World → Prop} (h : sh_line_Line_is l col kind w K) : c_line_Line_is l col kind w K := by
  rw [← vc_line_Line_is] at h
  refine Calls.mono (calls_of_vc C.plain_ok C.mixed Tryd.func90 rfl h) ?_
  rintro e w' ⟨s, rfl, hK⟩
  exact ⟨s.1, rfl, hK⟩

/-- (*strings.Builder).copyCheck -/
def sh_strings_Builder_copyCheck (b : Option Addr) (w : World) (K : World → Prop) : Prop :=
  onPtr b fun t3 =>
  ldP (t3.add 0) w fun t5 =>
  cond (t5.isNone)
    (runK1 Tryd.prog (convert 95 143 (.pointer b)) Kind.ptr w fun (t9 : Option Addr) w1 =>
     callX Tryd.prog 103 [(.pointer t9)] [Kind.ptr] w1 fun (t10 : Option Addr) w2 =>
     runK1 Tryd.prog (convert 143 95 (.pointer t10)) Kind.ptr w2 fun (t11 : Option Addr) w3 =>
     onPtr b fun t12 =>
     stK (t12.add 0) [(.pointer t11)] w3 fun w4 =>
     K w4)
    (onPtr b fun t15 =>
     ldP (t15.add 0) w fun t17 =>
     ptrEqK t17 b fun t19 =>
     cond (!t19)
       (False)
       (K w))

def an_strings_Builder_copyCheck : List Ann := [.none, .none]

theorem vc_strings_Builder_copyCheck (b : Option Addr) (w : World) (K : World → Prop) :
    vcFn C (Tryd.f91.body.getD .skip) Tryd.f91.results.toList Tryd.f91.ntmps an_strings_Builder_copyCheck [] [(.pointer b)] w (fun s w => K w) = sh_strings_Builder_copyCheck b w K := by kernel_rfl

theorem call_strings_Builder_copyCheck (b : Option Addr) {w : World} {K : World → Prop} (h : sh_strings_Builder_copyCheck b w K) : c_strings_Builder_copyCheck b w K := by
  rw [← vc_strings_Builder_copyCheck] at h
  refine Calls.mono (calls_of_vc C.plain_ok C.mixed Tryd.func91 rfl h) ?_
  rintro e w' ⟨s, rfl, hK⟩
  exact ⟨rfl, hK⟩

/-- phosphor/utf.Is -/
def sh_utf_Is (r : Int) (w : World) (K : Bool → World → Prop) : Prop :=
  cond (decide (r ≥ (0 : Int)))
    (cond (decide (r ≤ (1114111 : Int)))
       (cond (decide (r < (55296 : Int)))
          (K true w)
          (K (decide (r > (57343 : Int))) w))
       (K false w))
    (K false w)

def an_utf_Is : List Ann := [.none, .none]

theorem vc_utf_Is (r : Int) (w : World) (K : Bool → World → Prop) :
    vcFn C (Tryd.f92.body.getD .skip) Tryd.f92.results.toList Tryd.f92.ntmps an_utf_Is [Kind.bool] [(.int .i32 r)] w (fun s w => K s.1 w) = sh_utf_Is r w K := by kernel_rfl

theorem call_utf_Is (r : Int) {w : World} {K : Bool → World → Prop} (h : sh_utf_Is r w K) : c_utf_Is r w K := by
  rw [← vc_utf_Is] at h
  refine Calls.mono (calls_of_vc C.plain_ok C.mixed Tryd.func92 rfl h) ?_
  rintro e w' ⟨s, rfl, hK⟩
  exact ⟨s.1, rfl, hK⟩

/-- strings.trimRightByte -/
def sh_strings_trimRightByte (s : ByteArray) (c : Int) (w : World) (K : ByteArray → World → Prop) : Prop :=
  loopP (σ := ByteArray × Unit) (fun I1 s_1 w1 =>
    joinP (σ := Unit) (fun s_2 w2 =>
      slS s_1.1 none (some (IntKind.i64.wrap ((s_1.1.size : Int) - (1 : Int)))) fun t21 =>
      I1 (t21, ()) w2) fun J2 =>
    cond (decide ((s_1.1.size : Int) > (0 : Int)))
      (ixS s_1.1 (IntKind.i64.wrap ((s_1.1.size : Int) - (1 : Int))) fun t13 =>
       cond (t13 == c)
         (J2 (()) w1)
         (K s_1.1 w1))
      (K s_1.1 w1)) (s, ()) w

def an_strings_trimRightByte : List Ann := [.none, .none, .join [(0, Kind.string)] [0, 5, 6, 7, 8, 9, 10, 11, 12, 13, 14, 15, 16, 17, 18, 19, 20, 21], .join [] [5, 6, 7, 8, 9, 10, 11, 12, 13, 14, 15, 16], .none, .none]

theorem vc_strings_trimRightByte (s : ByteArray) (c : Int) (w : World) (K : ByteArray → World → Prop) :
    vcFn C (Tryd.f93.body.getD .skip) Tryd.f93.results.toList Tryd.f93.ntmps an_strings_trimRightByte [Kind.string] [(.string s), (.int .u8 c)] w (fun s w => K s.1 w) = sh_strings_trimRightByte s c w K := by kernel_rfl

theorem call_strings_trimRightByte (s : ByteArray) (c : Int) {w : World} {K : ByteArray → World → Prop} (h : sh_strings_trimRightByte s c w K) : c_strings_trimRightByte s c w K := by
  rw [← vc_strings_trimRightByte] at h
  refine Calls.mono (calls_of_vc C.plain_ok C.mixed Tryd.func93 rfl h) ?_
  rintro e w' ⟨s, rfl, hK⟩
  exact ⟨s.1, rfl, hK⟩

/-- strings.trimRightASCII -/
def sh_strings_trimRightASCII (s : ByteArray) (as_ : Option Addr) (w : World) (K : ByteArray → World → Prop) : Prop :=
  loopP (σ := ByteArray × Unit) (fun I1 s_1 w1 =>
    cond (decide ((s_1.1.size : Int) > (0 : Int)))
      (ixS s_1.1 (IntKind.i64.wrap ((s_1.1.size : Int) - (1 : Int))) fun t13 =>
       c_strings_asciiSet_contains as_ t13 w1 fun t14 w2 =>
       cond (!t14)
         (K s_1.1 w2)
         (slS s_1.1 none (some (IntKind.i64.wrap ((s_1.1.size : Int) - (1 : Int)))) fun t20 =>
          I1 (t20, ()) w2))
      (K s_1.1 w1)) (s, ()) w

def an_strings_trimRightASCII : List Ann := [.none, .none, .join [(0, Kind.string)] [0, 5, 6, 7, 8, 9, 10, 11, 12, 13, 14, 15, 16, 17, 18, 19, 20], .none, .none, .none, .none, .none]

theorem vc_strings_trimRightASCII (s : ByteArray) (as_ : Option Addr) (w : World) (K : ByteArray → World → Prop) :
    vcFn C (Tryd.f95.body.getD .skip) Tryd.f95.results.toList Tryd.f95.ntmps an_strings_trimRightASCII [Kind.string] [(.string s), (.pointer as_)] w (fun s w => K s.1 w) = sh_strings_trimRightASCII s as_ w K := by kernel_rfl

theorem call_strings_trimRightASCII (s : ByteArray) (as_ : Option Addr) {w : World} {K : ByteArray → World → Prop} (h : sh_strings_trimRightASCII s as_ w K) : c_strings_trimRightASCII s as_ w K := by
  rw [← vc_strings_trimRightASCII] at h
  refine Calls.mono (calls_of_vc C.plain_ok C.mixed Tryd.func95 rfl h) ?_
  rintro e w' ⟨s, rfl, hK⟩
  exact ⟨s.1, rfl, hK⟩

/-- strings.trimRightUnicode -/
def sh_strings_trimRightUnicode (s : ByteArray) (cutset : ByteArray) (w : World) (K : ByteArray → World → Prop) : Prop :=
  loopP (σ := ByteArray × Unit) (fun I1 s_1 w1 =>
    cond (decide ((s_1.1.size : Int) > (0 : Int)))
      (ixS s_1.1 (IntKind.i64.wrap ((s_1.1.size : Int) - (1 : Int))) fun t14 =>
       joinP (σ := Int × Int × Unit) (fun s_2 w2 =>
         c_strings_ContainsRune cutset s_2.1 w2 fun t25 w3 =>
         cond (!t25)
           (K s_1.1 w3)
           (slS s_1.1 none (some (IntKind.i64.wrap ((s_1.1.size : Int) - s_2.2.1))) fun t32 =>
            I1 (t32, ()) w3)) fun J2 =>
       cond (decide ((IntKind.i32.wrap t14) ≥ (128 : Int)))
         (c_unicode_utf8_DecodeLastRuneInString s_1.1 w1 fun t20 t20_1 w4 =>
          J2 (t20, t20_1, ()) w4)
         (J2 ((IntKind.i32.wrap t14), 1, ()) w1))
      (K s_1.1 w1)) (s, ()) w

def an_strings_trimRightUnicode : List Ann := [.none, .none, .join [(0, Kind.string)] [0, 5, 6, 7, 8, 9, 10, 11, 12, 13, 14, 15, 16, 17, 18, 19, 20, 21, 22, 23, 24, 25, 26, 27, 28, 29, 30, 31, 32], .none, .none, .none, .join [(5, (Kind.int .i32)), (6, (Kind.int .i64))] [5, 6, 16, 17, 18, 19, 20, 21, 22], .none, .none, .none, .none]

theorem vc_strings_trimRightUnicode (s : ByteArray) (cutset : ByteArray) (w : World) (K : ByteArray → World → Prop) :
    vcFn C (Tryd.f96.body.getD .skip) Tryd.f96.results.toList Tryd.f96.ntmps an_strings_trimRightUnicode [Kind.string] [(.string s), (.string cutset)] w (fun s w => K s.1 w) = sh_strings_trimRightUnicode s cutset w K := by kernel_rfl

theorem call_strings_trimRightUnicode (s : ByteArray) (cutset : ByteArray) {w : World} {K : ByteArray → World → Prop} (h : sh_strings_trimRightUnicode s cutset w K) : c_strings_trimRightUnicode s cutset w K := by
  rw [← vc_strings_trimRightUnicode] at h
  refine Calls.mono (calls_of_vc C.plain_ok C.mixed Tryd.func96 rfl h) ?_
  rintro e w' ⟨s, rfl, hK⟩
  exact ⟨s.1, rfl, hK⟩

/-- slices.Grow[phosphor/line.Line,phosphor/api.Cell] -/
def sh_slices_Grow_line_Line_api_Cell (s : Slc) (n : Int) (w : World) (K : Slc → World → Prop) : Prop :=
  joinP (σ := Unit) (fun s_1 w1 =>
    cond (decide ((IntKind.i64.wrap (n - (IntKind.i64.wrap (((s.c : Nat) : Int) - ((s.n : Nat) : Int))))) > (0 : Int)))
      (slK s none (some ((s.c : Nat) : Int)) 5 fun t20 =>
       apM Tryd.prog #[25, 3] 25 t20 (IntKind.i64.wrap (n - (IntKind.i64.wrap (((s.c : Nat) : Int) - ((s.n : Nat) : Int))))) .i64 w1 fun t22 w2 =>
       slK t22 none (some ((s.n : Nat) : Int)) 5 fun t25 =>
       K t25 w2)
      (K s w1)) fun J1 =>
  cond (decide (n < (0 : Int)))
    (False)
    (J1 (()) w)

def an_slices_Grow_line_Line_api_Cell : List Ann := [.none, .join [] [5, 6, 7], .none, .none, .none, .none, .none]

theorem vc_slices_Grow_line_Line_api_Cell (s : Slc) (n : Int) (w : World) (K : Slc → World → Prop) :
    vcFn C (Tryd.f97.body.getD .skip) Tryd.f97.results.toList Tryd.f97.ntmps an_slices_Grow_line_Line_api_Cell [Kind.slice] [(.slice s.a s.n s.c), (.int .i64 n)] w (fun s w => K s.1 w) = sh_slices_Grow_line_Line_api_Cell s n w K := by kernel_rfl

theorem call_slices_Grow_line_Line_api_Cell (s : Slc) (n : Int) {w : World} {K : Slc → World → Prop} (h : sh_slices_Grow_line_Line_api_Cell s n w K) : c_slices_Grow_line_Line_api_Cell s n w K := by
  rw [← vc_slices_Grow_line_Line_api_Cell] at h
  refine Calls.mono (calls_of_vc C.plain_ok C.mixed Tryd.func97 rfl h) ?_
  rintro e w' ⟨s, rfl, hK⟩
  exact ⟨s.1, rfl, hK⟩

/-- phosphor/phosphorref13.over -/
def sh_phosphorref13_over (l : Slc) (from_ : Int) (to : Int) (w : World) (K : Slc → World → Prop) : Prop :=
  c_phosphorref13_Mend l w fun t9 w1 =>
  joinP (σ := Unit) (fun s w2 =>
    joinP (σ := Bool × Unit) (fun s_1 w3 =>
      cond s_1.1
        (ixK t9 to 5 fun t57 =>
         ldS T_api_Attr.rep (t57.add 2) w3 fun t59 =>
         c_phosphorref13_blank t59 w3 fun t60 w4 =>
         ixK t9 to 5 fun t61 =>
         stK t61 (T_api_Cell.rep.cells t60) w4 fun w5 =>
         K t9 w5)
        (K t9 w3)) fun J2 =>
    cond (decide (to > (0 : Int)))
      (cond (decide (to < ((t9.n : Nat) : Int)))
         (ixK t9 to 5 fun t48 =>
          ldI .i64 (t48.add 1) w2 fun t50 =>
          J2 ((t50 == (2 : Int)), ()) w2)
         (J2 (false, ()) w2))
      (J2 (false, ()) w2)) fun J1 =>
  joinP (σ := Bool × Unit) (fun s_2 w6 =>
    cond s_2.1
      (ixK t9 (IntKind.i64.wrap (from_ - (1 : Int))) 5 fun t32 =>
       ldS T_api_Attr.rep (t32.add 2) w6 fun t34 =>
       c_phosphorref13_blank t34 w6 fun t35 w7 =>
       ixK t9 (IntKind.i64.wrap (from_ - (1 : Int))) 5 fun t36 =>
       stK t36 (T_api_Cell.rep.cells t35) w7 fun w8 =>
       J1 (()) w8)
      (J1 (()) w6)) fun J3 =>
  cond (decide (from_ > (0 : Int)))
    (cond (decide (from_ < ((t9.n : Nat) : Int)))
       (ixK t9 from_ 5 fun t21 =>
        ldI .i64 (t21.add 1) w1 fun t23 =>
        J3 ((t23 == (2 : Int)), ()) w1)
       (J3 (false, ()) w1))
    (J3 (false, ()) w1)

def an_phosphorref13_over : List Ann := [.none, .none, .join [] [10, 11, 12, 13, 14, 15, 16, 17, 18, 19, 20, 21, 22, 23, 24, 25, 26, 27, 28, 29, 30, 31, 32, 33, 34, 35, 36], .join [(25, Kind.bool)] [10, 11, 12, 13, 14, 15, 16, 17, 18, 19, 20, 21, 22, 23, 24, 25], .none, .join [(52, Kind.bool)] [37, 38, 39, 40, 41, 42, 43, 44, 45, 46, 47, 48, 49, 50, 51, 52], .none]

theorem vc_phosphorref13_over (l : Slc) (from_ : Int) (to : Int) (w : World) (K : Slc → World → Prop) :
    vcFn C (Tryd.f98.body.getD .skip) Tryd.f98.results.toList Tryd.f98.ntmps an_phosphorref13_over [Kind.slice] [(.slice l.a l.n l.c), (.int .i64 from_), (.int .i64 to)] w (fun s w => K s.1 w) = sh_phosphorref13_over l from_ to w K := by kernel_rfl

theorem call_phosphorref13_over (l : Slc) (from_ : Int) (to : Int) {w : World} {K : Slc → World → Prop} (h : sh_phosphorref13_over l from_ to w K) : c_phosphorref13_over l from_ to w K := by
  rw [← vc_phosphorref13_over] at h
  refine Calls.mono (calls_of_vc C.plain_ok C.mixed Tryd.func98 rfl h) ?_
  rintro e w' ⟨s, rfl, hK⟩
  exact ⟨s.1, rfl, hK⟩

/-- phosphor/phosphorref13.count -/
def sh_phosphorref13_count (l : Slc) (col : Int) (n : Int) (w : World) (K : Int → World → Prop) : Prop :=
  joinP (σ := Unit) (fun s w1 =>
    cond (decide (n > (IntKind.i64.wrap (((l.n : Nat) : Int) - col))))
      (K (IntKind.i64.wrap (((l.n : Nat) : Int) - col)) w1)
      (K n w1)) fun J1 =>
  cond (decide (col < (0 : Int)))
    (K 0 w)
    (cond (decide (col ≥ ((l.n : Nat) : Int)))
       (K 0 w)
       (cond (decide (n < (1 : Int)))
          (K 0 w)
          (J1 (()) w)))

def an_phosphorref13_count : List Ann := [.none, .join [] [6, 7, 8, 9, 10, 11, 12, 13, 14, 15, 16, 17, 18], .none, .none, .none, .none, .none, .none]

theorem vc_phosphorref13_count (l : Slc) (col : Int) (n : Int) (w : World) (K : Int → World → Prop) :
    vcFn C (Tryd.f99.body.getD .skip) Tryd.f99.results.toList Tryd.f99.ntmps an_phosphorref13_count [(Kind.int .i64)] [(.slice l.a l.n l.c), (.int .i64 col), (.int .i64 n)] w (fun s w => K s.1 w) = sh_phosphorref13_count l col n w K := by kernel_rfl

theorem call_phosphorref13_count (l : Slc) (col : Int) (n : Int) {w : World} {K : Int → World → Prop} (h : sh_phosphorref13_count l col n w K) : c_phosphorref13_count l col n w K := by
  rw [← vc_phosphorref13_count] at h
  refine Calls.mono (calls_of_vc C.plain_ok C.mixed Tryd.func99 rfl h) ?_
  rintro e w' ⟨s, rfl, hK⟩
  exact ⟨s.1, rfl, hK⟩

/-- phosphor/phosphorref10.none -/
def sh_phosphorref10_none (r : Int) (w : World) (K : Bool → World → Prop) : Prop :=
  cond (decide (r < (0 : Int)))
    (K true w)
    (cond (decide (r ≥ (55296 : Int)))
       (cond (decide (r ≤ (57343 : Int)))
          (K true w)
          (K (decide (r > (1114111 : Int))) w))
       (K (decide (r > (1114111 : Int))) w))

def an_phosphorref10_none : List Ann := [.none, .none]

theorem vc_phosphorref10_none (r : Int) (w : World) (K : Bool → World → Prop) :
    vcFn C (Tryd.f100.body.getD .skip) Tryd.f100.results.toList Tryd.f100.ntmps an_phosphorref10_none [Kind.bool] [(.int .i64 r)] w (fun s w => K s.1 w) = sh_phosphorref10_none r w K := by kernel_rfl

theorem call_phosphorref10_none (r : Int) {w : World} {K : Bool → World → Prop} (h : sh_phosphorref10_none r w K) : c_phosphorref10_none r w K := by
  rw [← vc_phosphorref10_none] at h
  refine Calls.mono (calls_of_vc C.plain_ok C.mixed Tryd.func100 rfl h) ?_
  rintro e w' ⟨s, rfl, hK⟩
  exact ⟨s.1, rfl, hK⟩

/-- slices.Grow[[]phosphor/line.Line,phosphor/line.Line] -/
def sh_slices_Grow_line_Line_line_Line (s : Slc) (n : Int) (w : World) (K : Slc → World → Prop) : Prop :=
  joinP (σ := Unit) (fun s_1 w1 =>
    cond (decide ((IntKind.i64.wrap (n - (IntKind.i64.wrap (((s.c : Nat) : Int) - ((s.n : Nat) : Int))))) > (0 : Int)))
      (slK s none (some ((s.c : Nat) : Int)) 1 fun t20 =>
       apM Tryd.prog #[116, 3] 116 t20 (IntKind.i64.wrap (n - (IntKind.i64.wrap (((s.c : Nat) : Int) - ((s.n : Nat) : Int))))) .i64 w1 fun t22 w2 =>
       slK t22 none (some ((s.n : Nat) : Int)) 1 fun t25 =>
       K t25 w2)
      (K s w1)) fun J1 =>
  cond (decide (n < (0 : Int)))
    (False)
    (J1 (()) w)

def an_slices_Grow_line_Line_line_Line : List Ann := [.none, .join [] [5, 6, 7], .none, .none, .none, .none, .none]

theorem vc_slices_Grow_line_Line_line_Line (s : Slc) (n : Int) (w : World) (K : Slc → World → Prop) :
    vcFn C (Tryd.f101.body.getD .skip) Tryd.f101.results.toList Tryd.f101.ntmps an_slices_Grow_line_Line_line_Line [Kind.slice] [(.slice s.a s.n s.c), (.int .i64 n)] w (fun s w => K s.1 w) = sh_slices_Grow_line_Line_line_Line s n w K := by kernel_rfl

theorem call_slices_Grow_line_Line_line_Line (s : Slc) (n : Int) {w : World} {K : Slc → World → Prop} (h : sh_slices_Grow_line_Line_line_Line s n w K) : c_slices_Grow_line_Line_line_Line s n w K := by
  rw [← vc_slices_Grow_line_Line_line_Line] at h
  refine Calls.mono (calls_of_vc C.plain_ok C.mixed Tryd.func101 rfl h) ?_
  rintro e w' ⟨s, rfl, hK⟩
  exact ⟨s.1, rfl, hK⟩

/-- (*phosphor/ring.Ring[phosphor/line.Line]).even -/
def sh_ring_Ring_line_Line_even (r : Option Addr) (w : World) (K : World → Prop) : Prop :=
  onPtr r fun t3 =>
  ldI .i64 (t3.add 2) w fun t5 =>
  cond (decide (t5 > (0 : Int)))
    (onPtr r fun t9 =>
     ldSl (t9.add 1) w.drew fun t11 =>
     onPtr r fun t13 =>
     ldI .i64 (t13.add 2) w.drew fun t15 =>
     slK t11 (some t15) none 1 fun t16 =>
     onPtr r fun t18 =>
     ldSl (t18.add 1) w.drew fun t20 =>
     onPtr r fun t22 =>
     ldI .i64 (t22.add 2) w.drew fun t24 =>
     slK t20 none (some t24) 1 fun t25 =>
     nw 116 [(.slice t16.a t16.n t16.c), (.slice t25.a t25.n t25.c)] w.drew fun t26 w1 =>
     c_slices_Concat_line_Line_line_Line (⟨(some t26), 2, 2⟩ : Slc) w1 fun t27 w2 =>
     onPtr r fun t28 =>
     stK (t28.add 1) [(.slice t27.a t27.n t27.c)] w2 fun w3 =>
     onPtr r fun t31 =>
     stK (t31.add 2) [(.int .i64 0)] w3 fun w4 =>
     K w4)
    (K w)

def an_ring_Ring_line_Line_even : List Ann := [.none, .none]

theorem vc_ring_Ring_line_Line_even (r : Option Addr) (w : World) (K : World → Prop) :
    vcFn C (Tryd.f102.body.getD .skip) Tryd.f102.results.toList Tryd.f102.ntmps an_ring_Ring_line_Line_even [] [(.pointer r)] w (fun s w => K w) = sh_ring_Ring_line_Line_even r w K := by kernel_rfl

theorem call_ring_Ring_line_Line_even (r : Option Addr) {w : World} {K : World → Prop} (h : sh_ring_Ring_line_Line_even r w K) : c_ring_Ring_line_Line_even r w K := by
  rw [← vc_ring_Ring_line_Line_even] at h
  refine Calls.mono (calls_of_vc C.plain_ok C.mixed Tryd.func102 rfl h) ?_
  rintro e w' ⟨s, rfl, hK⟩
  exact ⟨rfl, hK⟩

/-- (*strings.asciiSet).contains -/
def sh_strings_asciiSet_contains (as_ : Option Addr) (c : Int) (w : World) (K : Bool → World → Prop) : Prop :=
  onPtr as_ fun t7 =>
  ixA t7 256 c 1 fun t8 =>
  ldB t8 w fun t9 =>
  K t9 w

def an_strings_asciiSet_contains : List Ann := [.none, .none]

theorem vc_strings_asciiSet_contains (as_ : Option Addr) (c : Int) (w : World) (K : Bool → World → Prop) :
    vcFn C (Tryd.f104.body.getD .skip) Tryd.f104.results.toList Tryd.f104.ntmps an_strings_asciiSet_contains [Kind.bool] [(.pointer as_), (.int .u8 c)] w (fun s w => K s.1 w) = sh_strings_asciiSet_contains as_ c w K := by kernel_rfl

theorem call_strings_asciiSet_contains (as_ : Option Addr) (c : Int) {w : World} {K : Bool → World → Prop} (h : sh_strings_asciiSet_contains as_ c w K) : c_strings_asciiSet_contains as_ c w K := by
  rw [← vc_strings_asciiSet_contains] at h
  refine Calls.mono (calls_of_vc C.plain_ok C.mixed Tryd.func104 rfl h) ?_
  rintro e w' ⟨s, rfl, hK⟩
  exact ⟨s.1, rfl, hK⟩

/-- unicode/utf8.DecodeLastRuneInString -/
def sh_unicode_utf8_DecodeLastRuneInString (s : ByteArray) (w : World) (K : Int → Int → World → Prop) : Prop :=
  cond ((s.size : Int) == (0 : Int))
    (K 65533 0 w)
    (ixS s (IntKind.i64.wrap ((s.size : Int) - (1 : Int))) fun t15 =>
     cond (decide ((IntKind.i32.wrap t15) < (128 : Int)))
       (K (IntKind.i32.wrap t15) 1 w)
       (joinP (σ := Int × Unit) (fun s_1 w1 =>
          joinP (σ := Int × Unit) (fun s_2 w2 =>
            slS s (some s_2.1) (some (s.size : Int)) fun t40 =>
            c_unicode_utf8_DecodeRuneInString t40 w2 fun t41 t41_1 w3 =>
            cond ((IntKind.i64.wrap (s_2.1 + t41_1)) != (s.size : Int))
              (K 65533 1 w3)
              (K t41 t41_1 w3)) fun J2 =>
          cond (decide (s_1.1 < (0 : Int)))
            (J2 (0, ()) w1)
            (J2 (s_1.1, ()) w1)) fun J1 =>
        loopP (σ := Int × Unit) (fun I3 s_3 w4 =>
          cond (decide (s_3.1 ≥ (if (0 : Int) > (IntKind.i64.wrap ((s.size : Int) - (4 : Int))) then (0 : Int) else (IntKind.i64.wrap ((s.size : Int) - (4 : Int))))))
            (ixS s s_3.1 fun t32 =>
             c_unicode_utf8_RuneStart t32 w4 fun t33 w5 =>
             cond t33
               (J1 (s_3.1, ()) w5)
               (I3 ((IntKind.i64.wrap (s_3.1 - (1 : Int))), ()) w5))
            (J1 (s_3.1, ()) w4)) ((IntKind.i64.wrap ((IntKind.i64.wrap ((s.size : Int) - (1 : Int))) - (1 : Int))), ()) w))

def an_unicode_utf8_DecodeLastRuneInString : List Ann := [.none, .none, .none, .none, .none, .none, .none, .none, .none, .none, .none, .join [(5, (Kind.int .i64))] [5, 23, 24, 25, 26, 27, 28, 29, 30, 31, 32, 33], .none, .join [(5, (Kind.int .i64))] [5, 25, 26, 27, 28, 29, 30, 31, 32, 33], .none, .none, .none, .none, .join [(5, (Kind.int .i64))] [5, 34, 35], .none, .none, .none, .none, .none, .none]

theorem vc_unicode_utf8_DecodeLastRuneInString (s : ByteArray) (w : World) (K : Int → Int → World → Prop) :
    vcFn C (Tryd.f105.body.getD .skip) Tryd.f105.results.toList Tryd.f105.ntmps an_unicode_utf8_DecodeLastRuneInString [(Kind.int .i32), (Kind.int .i64)] [(.string s)] w (fun s w => K s.1 s.2.1 w) = sh_unicode_utf8_DecodeLastRuneInString s w K := by kernel_rfl

theorem call_unicode_utf8_DecodeLastRuneInString (s : ByteArray) {w : World} {K : Int → Int → World → Prop} (h : sh_unicode_utf8_DecodeLastRuneInString s w K) : c_unicode_utf8_DecodeLastRuneInString s w K := by
  rw [← vc_unicode_utf8_DecodeLastRuneInString] at h
  refine Calls.mono (calls_of_vc C.plain_ok C.mixed Tryd.func105 rfl h) ?_
  rintro e w' ⟨s, rfl, hK⟩
  exact ⟨s.1, s.2.1, rfl, hK⟩

/-- strings.ContainsRune -/
def sh_strings_ContainsRune (s : ByteArray) (r : Int) (w : World) (K : Bool → World → Prop) : Prop :=
  c_strings_IndexRune s r w fun t7 w1 =>
  K (decide (t7 ≥ (0 : Int))) w1

def an_strings_ContainsRune : List Ann := [.none, .none]

theorem vc_strings_ContainsRune (s : ByteArray) (r : Int) (w : World) (K : Bool → World → Prop) :
    vcFn C (Tryd.f106.body.getD .skip) Tryd.f106.results.toList Tryd.f106.ntmps an_strings_ContainsRune [Kind.bool] [(.string s), (.int .i32 r)] w (fun s w => K s.1 w) = sh_strings_ContainsRune s r w K := by kernel_rfl

theorem call_strings_ContainsRune (s : ByteArray) (r : Int) {w : World} {K : Bool → World → Prop} (h : sh_strings_ContainsRune s r w K) : c_strings_ContainsRune s r w K := by
  rw [← vc_strings_ContainsRune] at h
  refine Calls.mono (calls_of_vc C.plain_ok C.mixed Tryd.func106 rfl h) ?_
  rintro e w' ⟨s, rfl, hK⟩
  exact ⟨s.1, rfl, hK⟩

/-- unicode/utf8.RuneStart -/
def sh_unicode_utf8_RuneStart (b : Int) (w : World) (K : Bool → World → Prop) : Prop :=
  K ((bitsR .and .u8 b (192 : Int)) != (128 : Int)) w

def an_unicode_utf8_RuneStart : List Ann := [.none, .none]

theorem vc_unicode_utf8_RuneStart (b : Int) (w : World) (K : Bool → World → Prop) :
    vcFn C (Tryd.f107.body.getD .skip) Tryd.f107.results.toList Tryd.f107.ntmps an_unicode_utf8_RuneStart [Kind.bool] [(.int .u8 b)] w (fun s w => K s.1 w) = sh_unicode_utf8_RuneStart b w K := by kernel_rfl

theorem call_unicode_utf8_RuneStart (b : Int) {w : World} {K : Bool → World → Prop} (h : sh_unicode_utf8_RuneStart b w K) : c_unicode_utf8_RuneStart b w K := by
  rw [← vc_unicode_utf8_RuneStart] at h
  refine Calls.mono (calls_of_vc C.plain_ok C.mixed Tryd.func107 rfl h) ?_
  rintro e w' ⟨s, rfl, hK⟩
  exact ⟨s.1, rfl, hK⟩

/-- unicode/utf8.DecodeRuneInString -/
def sh_unicode_utf8_DecodeRuneInString (s : ByteArray) (w : World) (K : Int → Int → World → Prop) : Prop :=
  joinP (σ := Bool × Unit) (fun s_1 w1 =>
    cond s_1.1
      (ixS s 0 fun t12 =>
       K (IntKind.i32.wrap t12) 1 w1)
      (c_unicode_utf8_decodeRuneInStringSlow s w1 fun t16 t16_1 w2 =>
       K t16 t16_1 w2)) fun J1 =>
  cond (!(s.toList == (⟨#[]⟩ : ByteArray).toList))
    (ixS s 0 fun t8 =>
     J1 ((decide (t8 < (128 : Int))), ()) w)
    (J1 (false, ()) w)

def an_unicode_utf8_DecodeRuneInString : List Ann := [.none, .none, .join [(10, Kind.bool)] [4, 5, 6, 7, 8, 9, 10], .none]

theorem vc_unicode_utf8_DecodeRuneInString (s : ByteArray) (w : World) (K : Int → Int → World → Prop) :
    vcFn C (Tryd.f108.body.getD .skip) Tryd.f108.results.toList Tryd.f108.ntmps an_unicode_utf8_DecodeRuneInString [(Kind.int .i32), (Kind.int .i64)] [(.string s)] w (fun s w => K s.1 s.2.1 w) = sh_unicode_utf8_DecodeRuneInString s w K := by kernel_rfl

theorem call_unicode_utf8_DecodeRuneInString (s : ByteArray) {w : World} {K : Int → Int → World → Prop} (h : sh_unicode_utf8_DecodeRuneInString s w K) : c_unicode_utf8_DecodeRuneInString s w K := by
  rw [← vc_unicode_utf8_DecodeRuneInString] at h
  refine Calls.mono (calls_of_vc C.plain_ok C.mixed Tryd.func108 rfl h) ?_
  rintro e w' ⟨s, rfl, hK⟩
  exact ⟨s.1, s.2.1, rfl, hK⟩

/-- unicode/utf8.decodeRuneInStringSlow -/
def sh_unicode_utf8_decodeRuneInStringSlow (s : ByteArray) (w : World) (K : Int → Int → World → Prop) : Prop :=
  cond (decide ((s.size : Int) < (1 : Int)))
    (K 65533 0 w)
    (ixS s 0 fun t18 =>
     ixA (⟨0, 0, none⟩ : Addr) 256 t18 1 fun t20 =>
     ldI .u8 t20 w fun t21 =>
     cond (decide (t21 ≥ (240 : Int)))
       (0 ≤ (31 : Int) ∧
        0 ≤ (31 : Int) ∧
        ixS s 0 fun t29 =>
        K (bitsR .or .i32 (bitsR .andNot .i32 (IntKind.i32.wrap t29) ((IntKind.i32.wrap ((IntKind.i32.wrap t21) * 2 ^ (min (31 : Int).toNat IntKind.i32.bits))).fdiv (2 ^ (min (31 : Int).toNat IntKind.i32.bits)))) (bitsR .and .i32 (65533 : Int) ((IntKind.i32.wrap ((IntKind.i32.wrap t21) * 2 ^ (min (31 : Int).toNat IntKind.i32.bits))).fdiv (2 ^ (min (31 : Int).toNat IntKind.i32.bits))))) 1 w)
       (0 ≤ (4 : Int) ∧
        ixA (⟨1, 0, none⟩ : Addr) 16 (t21.fdiv (2 ^ (min (4 : Int).toNat IntKind.u8.bits))) 2 fun t41 =>
        ldS T_utf8_acceptRange.rep t41 w fun t42 =>
        nw 156 [(.int .u8 0), (.int .u8 0)] w fun accept w1 =>
        stK accept (T_utf8_acceptRange.rep.cells t42) w1 fun w2 =>
        cond (decide ((s.size : Int) < (IntKind.i64.wrap (bitsR .and .u8 t21 (7 : Int)))))
          (K 65533 1 w2)
          (ixS s 1 fun t47 =>
           joinP (σ := Unit) (fun s_1 w3 =>
             cond (decide ((IntKind.i64.wrap (bitsR .and .u8 t21 (7 : Int))) ≤ (2 : Int)))
               (0 ≤ (6 : Int) ∧
                K (bitsR .or .i32 (IntKind.i32.wrap ((IntKind.i32.wrap (bitsR .and .u8 t18 (31 : Int))) * 2 ^ (min (6 : Int).toNat IntKind.i32.bits))) (IntKind.i32.wrap (bitsR .and .u8 t47 (63 : Int)))) 2 w3)
               (ixS s 2 fun t69 =>
                joinP (σ := Unit) (fun s_2 w4 =>
                  cond (decide ((IntKind.i64.wrap (bitsR .and .u8 t21 (7 : Int))) ≤ (3 : Int)))
                    (0 ≤ (12 : Int) ∧
                     0 ≤ (6 : Int) ∧
                     K (bitsR .or .i32 (bitsR .or .i32 (IntKind.i32.wrap ((IntKind.i32.wrap (bitsR .and .u8 t18 (15 : Int))) * 2 ^ (min (12 : Int).toNat IntKind.i32.bits))) (IntKind.i32.wrap ((IntKind.i32.wrap (bitsR .and .u8 t47 (63 : Int))) * 2 ^ (min (6 : Int).toNat IntKind.i32.bits)))) (IntKind.i32.wrap (bitsR .and .u8 t69 (63 : Int)))) 3 w4)
                    (ixS s 3 fun t92 =>
                     joinP (σ := Unit) (fun s_3 w5 =>
                       0 ≤ (18 : Int) ∧
                       0 ≤ (12 : Int) ∧
                       0 ≤ (6 : Int) ∧
                       K (bitsR .or .i32 (bitsR .or .i32 (bitsR .or .i32 (IntKind.i32.wrap ((IntKind.i32.wrap (bitsR .and .u8 t18 (7 : Int))) * 2 ^ (min (18 : Int).toNat IntKind.i32.bits))) (IntKind.i32.wrap ((IntKind.i32.wrap (bitsR .and .u8 t47 (63 : Int))) * 2 ^ (min (12 : Int).toNat IntKind.i32.bits)))) (IntKind.i32.wrap ((IntKind.i32.wrap (bitsR .and .u8 t69 (63 : Int))) * 2 ^ (min (6 : Int).toNat IntKind.i32.bits)))) (IntKind.i32.wrap (bitsR .and .u8 t92 (63 : Int)))) 4 w5) fun J3 =>
                     cond (decide (t92 < (128 : Int)))
                       (K 65533 1 w4)
                       (cond (decide ((191 : Int) < t92))
                          (K 65533 1 w4)
                          (J3 (()) w4)))) fun J2 =>
                cond (decide (t69 < (128 : Int)))
                  (K 65533 1 w3)
                  (cond (decide ((191 : Int) < t69))
                     (K 65533 1 w3)
                     (J2 (()) w3)))) fun J1 =>
           ldI .u8 (accept.add 0) w2 fun t50 =>
           cond (decide (t47 < t50))
             (K 65533 1 w2)
             (ldI .u8 (accept.add 1) w2 fun t54 =>
              cond (decide (t54 < t47))
                (K 65533 1 w2)
                (J1 (()) w2)))))

def an_unicode_utf8_decodeRuneInStringSlow : List Ann := [.none, .none, .none, .none, .none, .none, .none, .none, .none, .none, .none, .none, .none, .none, .none, .none, .none, .join [] [2, 3, 48, 49, 50, 51, 52, 53, 54, 55, 56, 57], .none, .none, .none, .none, .none, .none, .join [] [2, 3, 70, 71, 72, 73, 74, 75], .none, .none, .none, .none, .none, .none, .join [] [2, 3, 93, 94, 95, 96, 97, 98], .none, .none, .none]

theorem vc_unicode_utf8_decodeRuneInStringSlow (s : ByteArray) (w : World) (K : Int → Int → World → Prop) :
    vcFn C (Tryd.f110.body.getD .skip) Tryd.f110.results.toList Tryd.f110.ntmps an_unicode_utf8_decodeRuneInStringSlow [(Kind.int .i32), (Kind.int .i64)] [(.string s)] w (fun s w => K s.1 s.2.1 w) = sh_unicode_utf8_decodeRuneInStringSlow s w K := by kernel_rfl

theorem call_unicode_utf8_decodeRuneInStringSlow (s : ByteArray) {w : World} {K : Int → Int → World → Prop} (h : sh_unicode_utf8_decodeRuneInStringSlow s w K) : c_unicode_utf8_decodeRuneInStringSlow s w K := by
  rw [← vc_unicode_utf8_decodeRuneInStringSlow] at h
  refine Calls.mono (calls_of_vc C.plain_ok C.mixed Tryd.func110 rfl h) ?_
  rintro e w' ⟨s, rfl, hK⟩
  exact ⟨s.1, s.2.1, rfl, hK⟩

/-- strings.IndexByte -/
def sh_strings_IndexByte (s : ByteArray) (c : Int) (w : World) (K : Int → World → Prop) : Prop :=
  c_internal_stringslite_IndexByte s c w fun t7 w1 =>
  K t7 w1

def an_strings_IndexByte : List Ann := [.none, .none]

theorem vc_strings_IndexByte (s : ByteArray) (c : Int) (w : World) (K : Int → World → Prop) :
    vcFn C (Tryd.f111.body.getD .skip) Tryd.f111.results.toList Tryd.f111.ntmps an_strings_IndexByte [(Kind.int .i64)] [(.string s), (.int .u8 c)] w (fun s w => K s.1 w) = sh_strings_IndexByte s c w K := by kernel_rfl

theorem call_strings_IndexByte (s : ByteArray) (c : Int) {w : World} {K : Int → World → Prop} (h : sh_strings_IndexByte s c w K) : c_strings_IndexByte s c w K := by
  rw [← vc_strings_IndexByte] at h
  refine Calls.mono (calls_of_vc C.plain_ok C.mixed Tryd.func111 rfl h) ?_
  rintro e w' ⟨s, rfl, hK⟩
  exact ⟨s.1, rfl, hK⟩

/-- unicode/utf8.ValidRune -/
def sh_unicode_utf8_ValidRune (r : Int) (w : World) (K : Bool → World → Prop) : Prop :=
  joinP (σ := Bool × Unit) (fun s w1 =>
    cond s.1
      (K true w1)
      (cond (decide ((57343 : Int) < r))
         (cond (decide (r ≤ (1114111 : Int)))
            (K true w1)
            (K false w1))
         (K false w1))) fun J1 =>
  cond (decide ((0 : Int) ≤ r))
    (J1 ((decide (r < (55296 : Int))), ()) w)
    (J1 (false, ()) w)

def an_unicode_utf8_ValidRune : List Ann := [.none, .none, .join [(3, Kind.bool)] [3, 4, 5, 6, 7, 8, 9], .none, .none, .none, .none]

theorem vc_unicode_utf8_ValidRune (r : Int) (w : World) (K : Bool → World → Prop) :
    vcFn C (Tryd.f112.body.getD .skip) Tryd.f112.results.toList Tryd.f112.ntmps an_unicode_utf8_ValidRune [Kind.bool] [(.int .i32 r)] w (fun s w => K s.1 w) = sh_unicode_utf8_ValidRune r w K := by kernel_rfl

theorem call_unicode_utf8_ValidRune (r : Int) {w : World} {K : Bool → World → Prop} (h : sh_unicode_utf8_ValidRune r w K) : c_unicode_utf8_ValidRune r w K := by
  rw [← vc_unicode_utf8_ValidRune] at h
  refine Calls.mono (calls_of_vc C.plain_ok C.mixed Tryd.func112 rfl h) ?_
  rintro e w' ⟨s, rfl, hK⟩
  exact ⟨s.1, rfl, hK⟩

/-- internal/bytealg.Cutover -/
def sh_internal_bytealg_Cutover (n : Int) (w : World) (K : Int → World → Prop) : Prop :=
  (8 : Int) ≠ 0 ∧
  K (IntKind.i64.wrap ((IntKind.i64.wrap (n + (16 : Int))).tdiv (8 : Int))) w

def an_internal_bytealg_Cutover : List Ann := [.none, .none]

theorem vc_internal_bytealg_Cutover (n : Int) (w : World) (K : Int → World → Prop) :
    vcFn C (Tryd.f113.body.getD .skip) Tryd.f113.results.toList Tryd.f113.ntmps an_internal_bytealg_Cutover [(Kind.int .i64)] [(.int .i64 n)] w (fun s w => K s.1 w) = sh_internal_bytealg_Cutover n w K := by kernel_rfl

theorem call_internal_bytealg_Cutover (n : Int) {w : World} {K : Int → World → Prop} (h : sh_internal_bytealg_Cutover n w K) : c_internal_bytealg_Cutover n w K := by
  rw [← vc_internal_bytealg_Cutover] at h
  refine Calls.mono (calls_of_vc C.plain_ok C.mixed Tryd.func113 rfl h) ?_
  rintro e w' ⟨s, rfl, hK⟩
  exact ⟨s.1, rfl, hK⟩

/-- internal/stringslite.IndexByte -/
def sh_internal_stringslite_IndexByte (s : ByteArray) (c : Int) (w : World) (K : Int → World → Prop) : Prop :=
  callX Tryd.prog 116 [(.string s), (.int .u8 c)] [(Kind.int .i64)] w fun (t7 : Int) w1 =>
  K t7 w1

def an_internal_stringslite_IndexByte : List Ann := [.none, .none]

theorem vc_internal_stringslite_IndexByte (s : ByteArray) (c : Int) (w : World) (K : Int → World → Prop) :
    vcFn C (Tryd.f115.body.getD .skip) Tryd.f115.results.toList Tryd.f115.ntmps an_internal_stringslite_IndexByte [(Kind.int .i64)] [(.string s), (.int .u8 c)] w (fun s w => K s.1 w) = sh_internal_stringslite_IndexByte s c w K := by kernel_rfl

theorem call_internal_stringslite_IndexByte (s : ByteArray) (c : Int) {w : World} {K : Int → World → Prop} (h : sh_internal_stringslite_IndexByte s c w K) : c_internal_stringslite_IndexByte s c w K := by
  rw [← vc_internal_stringslite_IndexByte] at h
  refine Calls.mono (calls_of_vc C.plain_ok C.mixed Tryd.func115 rfl h) ?_
  rintro e w' ⟨s, rfl, hK⟩
  exact ⟨s.1, rfl, hK⟩

end Go.Proofs.YtgejghejnibocaaDoor
