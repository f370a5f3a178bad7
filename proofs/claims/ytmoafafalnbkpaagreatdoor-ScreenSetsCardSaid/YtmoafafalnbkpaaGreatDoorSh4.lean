/- By program (gen.py): the typed text of the program's functions, part 4. -/
import Derived.Test.YtmoafafalnbkpaaGreatDoorDefs
set_option maxRecDepth 100000
set_option linter.unusedVariables false
namespace Go.Proofs.YtmoafafalnbkpaaGreatDoor
open Go.Vc
/-- phosphor/phosphorref13.blank -/
def sh_phosphorref13_blank (a : T_api_Attr) (w : World) (K : T_api_Cell → World → Prop) : Prop :=
  nw ty_api_Attr (T_api_Attr.rep.cells a) w fun a_1 w1 =>
  nw ty_api_Cell [(.int .i32 0), (.int .i64 0), (.int .i64 0), (.int .i64 0), (.int .i64 0)] w1 fun t2 w2 =>
  ldS T_api_Attr.rep a_1 w2 fun t3 =>
  stK t2 [(.int .i32 0), (.int .i64 0), (.int .i64 t3.Fg), (.int .i64 t3.Bg), (.int .i64 t3.Flags)] w2 fun w3 =>
  ldS T_api_Cell.rep t2 w3 fun r =>
  K r w3

def an_phosphorref13_blank : List Ann := [.none, .none]

theorem vc_phosphorref13_blank (a : T_api_Attr) (w : World) (K : T_api_Cell → World → Prop) :
    vcFn C (Tryz.f168.body.getD .skip) Tryz.f168.results.toList Tryz.f168.ntmps an_phosphorref13_blank [(Kind.struct T_api_Cell.rep)] [(.agg #[(.int .i64 a.Fg), (.int .i64 a.Bg), (.int .i64 a.Flags)])] w (fun s w => K s.1 w) = sh_phosphorref13_blank a w K := by kernel_rfl

theorem call_phosphorref13_blank (a : T_api_Attr) {w : World} {K : T_api_Cell → World → Prop} (h : sh_phosphorref13_blank a w K) : c_phosphorref13_blank a w K := by
  rw [← vc_phosphorref13_blank] at h
  refine Calls.mono (calls_of_vc C.plain_ok C.mixed Tryz.func168 rfl h) ?_
  rintro e w' ⟨s, rfl, hK⟩
  exact ⟨s.1, rfl, hK⟩

/-- slices.Grow[phosphor/line.Line,phosphor/api.Cell] -/
def sh_slices_Grow_line_Line_api_Cell (s : Slc) (n : Int) (w : World) (K : Slc → World → Prop) : Prop :=
  joinP (σ := Unit) (fun s_1 w1 =>
    cond (decide ((IntKind.i64.wrap (n - (IntKind.i64.wrap (((s.c : Nat) : Int) - ((s.n : Nat) : Int))))) > (0 : Int)))
      (slK s none (some ((s.c : Nat) : Int)) 5 fun t20 =>
       apM PG #[ty_line_Line, ty_int] ty_line_Line t20 (IntKind.i64.wrap (n - (IntKind.i64.wrap (((s.c : Nat) : Int) - ((s.n : Nat) : Int))))) .i64 w1 fun t22 w2 =>
       slK t22 none (some ((s.n : Nat) : Int)) 5 fun t25 =>
       K t25 w2)
      (K s w1)) fun J1 =>
  cond (decide (n < (0 : Int)))
    (False)
    (J1 (()) w)

def an_slices_Grow_line_Line_api_Cell : List Ann := [.none, .join [] [5, 6, 7], .none, .none, .none, .none, .none]

theorem vc_slices_Grow_line_Line_api_Cell (s : Slc) (n : Int) (w : World) (K : Slc → World → Prop) :
    vcFn C (Tryz.f172.body.getD .skip) Tryz.f172.results.toList Tryz.f172.ntmps an_slices_Grow_line_Line_api_Cell [Kind.slice] [(.slice s.a s.n s.c), (.int .i64 n)] w (fun s w => K s.1 w) = sh_slices_Grow_line_Line_api_Cell s n w K := by kernel_rfl

theorem call_slices_Grow_line_Line_api_Cell (s : Slc) (n : Int) {w : World} {K : Slc → World → Prop} (h : sh_slices_Grow_line_Line_api_Cell s n w K) : c_slices_Grow_line_Line_api_Cell s n w K := by
  rw [← vc_slices_Grow_line_Line_api_Cell] at h
  refine Calls.mono (calls_of_vc C.plain_ok C.mixed Tryz.func172 rfl h) ?_
  rintro e w' ⟨s, rfl, hK⟩
  exact ⟨s.1, rfl, hK⟩

/-- (*phosphor/ring.Ring[phosphor/line.Line]).even -/
def sh_ring_Ring_line_Line_even (r : Option Addr) (w : World) (K : World → Prop) : Prop :=
  onPtr r fun t3 =>
  ldI .i64 (t3.add 2) w fun t5 =>
  cond (decide (t5 > (0 : Int)))
    (onPtr r fun t9 =>
     ldSl (t9.add 1) w.drew fun t11 =>
     onPtr r fun t13 =>
     ldI .i64 (t13.add 2) w.drew fun t15 =>
     slK t11 (some t15) none 1 fun t16 =>
     onPtr r fun t18 =>
     ldSl (t18.add 1) w.drew fun t20 =>
     onPtr r fun t22 =>
     ldI .i64 (t22.add 2) w.drew fun t24 =>
     slK t20 none (some t24) 1 fun t25 =>
     nw ty_sl_line_Line [(.slice t16.a t16.n t16.c), (.slice t25.a t25.n t25.c)] w.drew fun t26 w1 =>
     c_slices_Concat_line_Line_line_Line (⟨(some t26), 2, 2⟩ : Slc) w1 fun t27 w2 =>
     onPtr r fun t28 =>
     stK (t28.add 1) [(.slice t27.a t27.n t27.c)] w2 fun w3 =>
     onPtr r fun t31 =>
     stK (t31.add 2) [(.int .i64 0)] w3 fun w4 =>
     K w4)
    (K w)

def an_ring_Ring_line_Line_even : List Ann := [.none, .none]

theorem vc_ring_Ring_line_Line_even (r : Option Addr) (w : World) (K : World → Prop) :
    vcFn C (Tryz.f173.body.getD .skip) Tryz.f173.results.toList Tryz.f173.ntmps an_ring_Ring_line_Line_even [] [(.pointer r)] w (fun s w => K w) = sh_ring_Ring_line_Line_even r w K := by kernel_rfl

theorem call_ring_Ring_line_Line_even (r : Option Addr) {w : World} {K : World → Prop} (h : sh_ring_Ring_line_Line_even r w K) : c_ring_Ring_line_Line_even r w K := by
  rw [← vc_ring_Ring_line_Line_even] at h
  refine Calls.mono (calls_of_vc C.plain_ok C.mixed Tryz.func173 rfl h) ?_
  rintro e w' ⟨s, rfl, hK⟩
  exact ⟨rfl, hK⟩

/-- (*phosphor/ring.Ring[phosphor/line.Line]).Clear -/
def sh_ring_Ring_line_Line_Clear (r : Option Addr) (w : World) (K : World → Prop) : Prop :=
  onPtr r fun t3 =>
  ldI .i64 (t3.add 3) w.drew fun t5 =>
  onPtr r fun t7 =>
  ldSl (t7.add 1) w.drew fun t9 =>
  onPtr r fun t12 =>
  stK (t12.add 3) [(.int .i64 (IntKind.i64.wrap (t5 + ((t9.n : Nat) : Int))))] w.drew fun w1 =>
  onPtr r fun t16 =>
  stK (t16.add 1) [(.slice none 0 0)] w1 fun w2 =>
  onPtr r fun t18 =>
  stK (t18.add 2) [(.int .i64 0)] w2 fun w3 =>
  K w3

def an_ring_Ring_line_Line_Clear : List Ann := [.none]

theorem vc_ring_Ring_line_Line_Clear (r : Option Addr) (w : World) (K : World → Prop) :
    vcFn C (Tryz.f174.body.getD .skip) Tryz.f174.results.toList Tryz.f174.ntmps an_ring_Ring_line_Line_Clear [] [(.pointer r)] w (fun s w => K w) = sh_ring_Ring_line_Line_Clear r w K := by kernel_rfl

theorem call_ring_Ring_line_Line_Clear (r : Option Addr) {w : World} {K : World → Prop} (h : sh_ring_Ring_line_Line_Clear r w K) : c_ring_Ring_line_Line_Clear r w K := by
  rw [← vc_ring_Ring_line_Line_Clear] at h
  refine Calls.mono (calls_of_vc C.plain_ok C.mixed Tryz.func174 rfl h) ?_
  rintro e w' ⟨s, rfl, hK⟩
  exact ⟨rfl, hK⟩

/-- (*phosphor/grid.Grid).Fill -/
def sh_grid_Grid_Fill (g : Option Addr) (row : Int) (from_ : Int) (to : Int) (a : T_api_Attr) (w : World) (K : Bool → World → Prop) : Prop :=
  nw ty_int [(.int .i64 from_)] w fun from__1 w1 =>
  nw ty_int [(.int .i64 to)] w1 fun to_1 w2 =>
  nw ty_api_Attr (T_api_Attr.rep.cells a) w2 fun a_1 w3 =>
  c_grid_Grid_Change g row ((.func (.func fn_grid_Grid_Fill_1) #[] #[(.pointer (some from__1)), (.pointer (some to_1)), (.pointer (some a_1))]) : Value) w3 fun t14 w4 =>
  K t14 w4

def an_grid_Grid_Fill : List Ann := [.none, .none]

theorem vc_grid_Grid_Fill (g : Option Addr) (row : Int) (from_ : Int) (to : Int) (a : T_api_Attr) (w : World) (K : Bool → World → Prop) :
    vcFn C (Tryz.f175.body.getD .skip) Tryz.f175.results.toList Tryz.f175.ntmps an_grid_Grid_Fill [Kind.bool] [(.pointer g), (.int .i64 row), (.int .i64 from_), (.int .i64 to), (.agg #[(.int .i64 a.Fg), (.int .i64 a.Bg), (.int .i64 a.Flags)])] w (fun s w => K s.1 w) = sh_grid_Grid_Fill g row from_ to a w K := by kernel_rfl

theorem call_grid_Grid_Fill (g : Option Addr) (row : Int) (from_ : Int) (to : Int) (a : T_api_Attr) {w : World} {K : Bool → World → Prop} (h : sh_grid_Grid_Fill g row from_ to a w K) : c_grid_Grid_Fill g row from_ to a w K := by
  rw [← vc_grid_Grid_Fill] at h
  refine Calls.mono (calls_of_vc C.plain_ok C.mixed Tryz.func175 rfl h) ?_
  rintro e w' ⟨s, rfl, hK⟩
  exact ⟨s.1, rfl, hK⟩

/-- phosphor/attr.far$1 -/
def sh_attr_far_1 (v : Int) (w : World) (K : Bool → World → Prop) : Prop :=
  cond (decide (v ≥ (0 : Int)))
    (K (decide (v ≤ (255 : Int))) w)
    (K false w)

def an_attr_far_1 : List Ann := [.none, .none]

theorem vc_attr_far_1 (v : Int) (w : World) (K : Bool → World → Prop) :
    vcFn C (Tryz.f180.body.getD .skip) Tryz.f180.results.toList Tryz.f180.ntmps an_attr_far_1 [Kind.bool] [(.int .i64 v)] w (fun s w => K s.1 w) = sh_attr_far_1 v w K := by kernel_rfl

theorem call_attr_far_1 (v : Int) {w : World} {K : Bool → World → Prop} (h : sh_attr_far_1 v w K) : c_attr_far_1 v w K := by
  rw [← vc_attr_far_1] at h
  refine Calls.mono (calls_of_vc C.plain_ok C.mixed Tryz.func180 rfl h) ?_
  rintro e w' ⟨s, rfl, hK⟩
  exact ⟨s.1, rfl, hK⟩

/-- (*phosphor/grid.Grid).Fill$1 -/
def sh_grid_Grid_Fill_1 (l : Slc) (c0 : Addr) (c1 : Addr) (c2 : Addr) (w : World) (K : Slc → World → Prop) : Prop :=
  ldI .i64 c0 w fun t7 =>
  ldI .i64 c1 w fun t8 =>
  ldS T_api_Attr.rep c2 w fun t9 =>
  c_line_Line_Erase l t7 t8 t9 w fun t10 w1 =>
  K t10 w1

def an_grid_Grid_Fill_1 : List Ann := [.none, .none]

theorem vc_grid_Grid_Fill_1 (l : Slc) (c0 : Addr) (c1 : Addr) (c2 : Addr) (w : World) (K : Slc → World → Prop) :
    vcFn C (Tryz.f188.body.getD .skip) Tryz.f188.results.toList Tryz.f188.ntmps an_grid_Grid_Fill_1 [Kind.slice] [(.slice l.a l.n l.c), (.pointer (some c0)), (.pointer (some c1)), (.pointer (some c2))] w (fun s w => K s.1 w) = sh_grid_Grid_Fill_1 l c0 c1 c2 w K := by kernel_rfl

theorem call_grid_Grid_Fill_1 (l : Slc) (c0 : Addr) (c1 : Addr) (c2 : Addr) {w : World} {K : Slc → World → Prop} (h : sh_grid_Grid_Fill_1 l c0 c1 c2 w K) : c_grid_Grid_Fill_1 l c0 c1 c2 w K := by
  rw [← vc_grid_Grid_Fill_1] at h
  refine Calls.mono (calls_of_vc C.plain_ok C.mixed Tryz.func188 rfl h) ?_
  rintro e w' ⟨s, rfl, hK⟩
  exact ⟨s.1, rfl, hK⟩

/-- (phosphor/line.Line).Erase -/
def sh_line_Line_Erase (l : Slc) (from_ : Int) (to : Int) (a : T_api_Attr) (w : World) (K : Slc → World → Prop) : Prop :=
  nw ty_api_Attr (T_api_Attr.rep.cells a) w fun a_1 w1 =>
  c_line_Line_Mend l w1 fun t12 w2 =>
  cond (decide ((if (0 : Int) > from_ then (0 : Int) else from_) ≥ (if ((l.n : Nat) : Int) < to then ((l.n : Nat) : Int) else to)))
    (K t12 w2)
    (loopP (σ := Int × Unit) (fun I1 s w3 =>
       cond (decide (s.1 < (if ((l.n : Nat) : Int) < to then ((l.n : Nat) : Int) else to)))
         (ldS T_api_Attr.rep a_1 w3 fun t31 =>
          ixK t12 s.1 5 fun t33 =>
          stK t33 [(.int .i32 0), (.int .i64 0), (.int .i64 t31.Fg), (.int .i64 t31.Bg), (.int .i64 t31.Flags)] w3 fun w4 =>
          I1 ((IntKind.i64.wrap (s.1 + (1 : Int))), ()) w4)
         (c_line_Line_halves t12 (if (0 : Int) > from_ then (0 : Int) else from_) (if ((l.n : Nat) : Int) < to then ((l.n : Nat) : Int) else to) w3 fun t37 w5 =>
          K t37 w5)) ((if (0 : Int) > from_ then (0 : Int) else from_), ()) w2)

def an_line_Line_Erase : List Ann := [.none, .none, .none, .none, .none, .none, .none, .none, .join [(10, (Kind.int .i64))] [10, 24, 25, 26, 27, 28, 29, 30, 31, 32, 33], .none, .none, .none, .none]

theorem vc_line_Line_Erase (l : Slc) (from_ : Int) (to : Int) (a : T_api_Attr) (w : World) (K : Slc → World → Prop) :
    vcFn C (Tryz.f189.body.getD .skip) Tryz.f189.results.toList Tryz.f189.ntmps an_line_Line_Erase [Kind.slice] [(.slice l.a l.n l.c), (.int .i64 from_), (.int .i64 to), (.agg #[(.int .i64 a.Fg), (.int .i64 a.Bg), (.int .i64 a.Flags)])] w (fun s w => K s.1 w) = sh_line_Line_Erase l from_ to a w K := by kernel_rfl

theorem call_line_Line_Erase (l : Slc) (from_ : Int) (to : Int) (a : T_api_Attr) {w : World} {K : Slc → World → Prop} (h : sh_line_Line_Erase l from_ to a w K) : c_line_Line_Erase l from_ to a w K := by
  rw [← vc_line_Line_Erase] at h
  refine Calls.mono (calls_of_vc C.plain_ok C.mixed Tryz.func189 rfl h) ?_
  rintro e w' ⟨s, rfl, hK⟩
  exact ⟨s.1, rfl, hK⟩

end Go.Proofs.YtmoafafalnbkpaaGreatDoor
