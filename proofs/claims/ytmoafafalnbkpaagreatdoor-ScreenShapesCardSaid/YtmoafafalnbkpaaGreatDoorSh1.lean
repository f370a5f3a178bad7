/- By program (gen.py): the typed text of the program's functions, part 1. -/
import Derived.Test.YtmoafafalnbkpaaGreatDoorDefs
set_option maxRecDepth 100000
set_option linter.unusedVariables false
namespace Go.Proofs.YtmoafafalnbkpaaGreatDoor
open Go.Vc
/-- slices.Clone[phosphor/line.Line,phosphor/api.Cell] -/
def sh_slices_Clone_line_Line_api_Cell (s : Slc) (w : World) (K : Slc → World → Prop) : Prop :=
  cond (s.a.isNone)
    (K (⟨none, 0, 0⟩ : Slc) w)
    (nw ty_api_Cell [] w fun t5 w1 =>
     apK PG #[ty_line_Line, ty_line_Line] ty_line_Line (⟨(some t5), 0, 0⟩ : Slc) s w1 fun t7 w2 =>
     K t7 w2)

def an_slices_Clone_line_Line_api_Cell : List Ann := [.none, .none, .none, .none, .none]

theorem vc_slices_Clone_line_Line_api_Cell (s : Slc) (w : World) (K : Slc → World → Prop) :
    vcFn C (Tryz.f44.body.getD .skip) Tryz.f44.results.toList Tryz.f44.ntmps an_slices_Clone_line_Line_api_Cell [Kind.slice] [(.slice s.a s.n s.c)] w (fun s w => K s.1 w) = sh_slices_Clone_line_Line_api_Cell s w K := by kernel_rfl

theorem call_slices_Clone_line_Line_api_Cell (s : Slc) {w : World} {K : Slc → World → Prop} (h : sh_slices_Clone_line_Line_api_Cell s w K) : c_slices_Clone_line_Line_api_Cell s w K := by
  rw [← vc_slices_Clone_line_Line_api_Cell] at h
  refine Calls.mono (calls_of_vc C.plain_ok C.mixed Tryz.func44 rfl h) ?_
  rintro e w' ⟨s, rfl, hK⟩
  exact ⟨s.1, rfl, hK⟩

/-- phosphor/screen.between -/
def sh_screen_between (v : Int) (lo : Int) (hi : Int) (w : World) (K : Bool → World → Prop) : Prop :=
  cond (decide (v ≥ lo))
    (K (decide (v ≤ hi)) w)
    (K false w)

def an_screen_between : List Ann := [.none, .none]

theorem vc_screen_between (v : Int) (lo : Int) (hi : Int) (w : World) (K : Bool → World → Prop) :
    vcFn C (Tryz.f45.body.getD .skip) Tryz.f45.results.toList Tryz.f45.ntmps an_screen_between [Kind.bool] [(.int .i64 v), (.int .i64 lo), (.int .i64 hi)] w (fun s w => K s.1 w) = sh_screen_between v lo hi w K := by kernel_rfl

theorem call_screen_between (v : Int) (lo : Int) (hi : Int) {w : World} {K : Bool → World → Prop} (h : sh_screen_between v lo hi w K) : c_screen_between v lo hi w K := by
  rw [← vc_screen_between] at h
  refine Calls.mono (calls_of_vc C.plain_ok C.mixed Tryz.func45 rfl h) ?_
  rintro e w' ⟨s, rfl, hK⟩
  exact ⟨s.1, rfl, hK⟩

/-- phosphor/phosphorref17.in -/
def sh_phosphorref17_in (v : Int) (lo : Int) (hi : Int) (w : World) (K : Bool → World → Prop) : Prop :=
  cond (decide (v ≥ lo))
    (K (decide (v ≤ hi)) w)
    (K false w)

def an_phosphorref17_in : List Ann := [.none, .none]

theorem vc_phosphorref17_in (v : Int) (lo : Int) (hi : Int) (w : World) (K : Bool → World → Prop) :
    vcFn C (Tryz.f46.body.getD .skip) Tryz.f46.results.toList Tryz.f46.ntmps an_phosphorref17_in [Kind.bool] [(.int .i64 v), (.int .i64 lo), (.int .i64 hi)] w (fun s w => K s.1 w) = sh_phosphorref17_in v lo hi w K := by kernel_rfl

theorem call_phosphorref17_in (v : Int) (lo : Int) (hi : Int) {w : World} {K : Bool → World → Prop} (h : sh_phosphorref17_in v lo hi w K) : c_phosphorref17_in v lo hi w K := by
  rw [← vc_phosphorref17_in] at h
  refine Calls.mono (calls_of_vc C.plain_ok C.mixed Tryz.func46 rfl h) ?_
  rintro e w' ⟨s, rfl, hK⟩
  exact ⟨s.1, rfl, hK⟩

/-- phosphor/phosphorref17.first -/
def sh_phosphorref17_first  (w : World) (K : T_screen_Cursor → World → Prop) : Prop :=
  nw ty_phosphorref17_Cursor [(.int .i64 0), (.int .i64 0), (.bool false), (.int .i64 0), (.int .i64 0), (.int .i64 0), (.bool false), (.int .u8 0), (.int .u8 0), (.int .i64 0)] w fun t0 w1 =>
  stK t0 [(.int .i64 0), (.int .i64 0), (.bool false), (.int .i64 0), (.int .i64 0), (.int .i64 0), (.bool false), (.int .u8 66), (.int .u8 66), (.int .i64 0)] w1 fun w2 =>
  ldS T_screen_Cursor.rep t0 w2 fun r =>
  K r w2

def an_phosphorref17_first : List Ann := [.none, .none]

theorem vc_phosphorref17_first  (w : World) (K : T_screen_Cursor → World → Prop) :
    vcFn C (Tryz.f47.body.getD .skip) Tryz.f47.results.toList Tryz.f47.ntmps an_phosphorref17_first [(Kind.struct T_screen_Cursor.rep)] [] w (fun s w => K s.1 w) = sh_phosphorref17_first  w K := by kernel_rfl

theorem call_phosphorref17_first  {w : World} {K : T_screen_Cursor → World → Prop} (h : sh_phosphorref17_first  w K) : c_phosphorref17_first  w K := by
  rw [← vc_phosphorref17_first] at h
  refine Calls.mono (calls_of_vc C.plain_ok C.mixed Tryz.func47 rfl h) ?_
  rintro e w' ⟨s, rfl, hK⟩
  exact ⟨s.1, rfl, hK⟩

/-- phosphor/phosphorref16.New -/
def sh_phosphorref16_New (rows : Int) (cols : Int) (back : Int) (w : World) (K : Option Addr → Int → World → Prop) : Prop :=
  joinP (σ := Unit) (fun s w1 =>
    nw ty_phosphorref16_Grid [(.int .i64 rows), (.int .i64 cols), (.int .i64 back), (.slice none 0 0), (.slice none 0 0), (.int .i64 0)] w1 fun t29 w2 =>
    c_phosphorref16_Grid_Clear (some t29) (⟨0, 0, 0⟩ : T_api_Attr) w2 fun w3 =>
    K (some t29) 0 w3) fun J1 =>
  c_phosphorref16_size rows w fun t10 w4 =>
  cond (!t10)
    (K none 1 w4)
    (c_phosphorref16_size cols w4 fun t14 w5 =>
     cond (!t14)
       (K none 1 w5)
       (cond (decide (back < (0 : Int)))
          (K none 1 w5)
          (cond (decide (back > (16384 : Int)))
             (K none 1 w5)
             (J1 (()) w5))))

def an_phosphorref16_New : List Ann := [.none, .join [] [6, 7, 9, 10, 11, 12, 13, 14, 15, 16, 17, 18, 19, 20, 21, 22, 23, 24], .none, .none, .none, .none, .none]

theorem vc_phosphorref16_New (rows : Int) (cols : Int) (back : Int) (w : World) (K : Option Addr → Int → World → Prop) :
    vcFn C (Tryz.f48.body.getD .skip) Tryz.f48.results.toList Tryz.f48.ntmps an_phosphorref16_New [Kind.ptr, (Kind.int .i64)] [(.int .i64 rows), (.int .i64 cols), (.int .i64 back)] w (fun s w => K s.1 s.2.1 w) = sh_phosphorref16_New rows cols back w K := by kernel_rfl

theorem call_phosphorref16_New (rows : Int) (cols : Int) (back : Int) {w : World} {K : Option Addr → Int → World → Prop} (h : sh_phosphorref16_New rows cols back w K) : c_phosphorref16_New rows cols back w K := by
  rw [← vc_phosphorref16_New] at h
  refine Calls.mono (calls_of_vc C.plain_ok C.mixed Tryz.func48 rfl h) ?_
  rintro e w' ⟨s, rfl, hK⟩
  exact ⟨s.1, s.2.1, rfl, hK⟩

/-- phosphor/phosphorref15.New -/
def sh_phosphorref15_New (cols : Int) (w : World) (K : Option Addr → Int → World → Prop) : Prop :=
  joinP (σ := Unit) (fun s w1 =>
    nw ty_phosphorref15_Stops [(.slice none 0 0)] w1 fun t13 w2 =>
    loopP (σ := Int × Unit) (fun I2 s_1 w3 =>
      cond (decide (s_1.1 < cols))
        (ldSl (t13.add 0) w3 fun t23 =>
         cond (decide (s_1.1 > (0 : Int)))
           ((8 : Int) ≠ 0 ∧
            nw ty_bool [(.bool ((s_1.1.tmod (8 : Int)) == (0 : Int)))] w3 fun t31 w4 =>
            apK PG #[ty_sl_bool, ty_sl_bool] ty_sl_bool t23 (⟨(some t31), 1, 1⟩ : Slc) w4 fun t32 w5 =>
            stK (t13.add 0) [(.slice t32.a t32.n t32.c)] w5 fun w6 =>
            I2 ((IntKind.i64.wrap (s_1.1 + (1 : Int))), ()) w6)
           (nw ty_bool [(.bool false)] w3 fun t31_1 w7 =>
            apK PG #[ty_sl_bool, ty_sl_bool] ty_sl_bool t23 (⟨(some t31_1), 1, 1⟩ : Slc) w7 fun t32_1 w8 =>
            stK (t13.add 0) [(.slice t32_1.a t32_1.n t32_1.c)] w8 fun w9 =>
            I2 ((IntKind.i64.wrap (s_1.1 + (1 : Int))), ()) w9))
        (K (some t13) 0 w3)) (0, ()) w2) fun J1 =>
  cond (decide (cols < (1 : Int)))
    (K none 1 w)
    (cond (decide (cols > (1000 : Int)))
       (K none 1 w)
       (J1 (()) w))

def an_phosphorref15_New : List Ann := [.none, .join [] [2, 3, 6, 7, 8, 9, 10, 11], .none, .none, .none, .none, .none, .join [(5, (Kind.int .i64))] [5, 14, 15, 16, 17, 18, 19, 20, 21, 22, 23, 24, 25, 26, 27, 28, 29, 30, 31, 32, 33, 34], .none, .none, .none, .none]

theorem vc_phosphorref15_New (cols : Int) (w : World) (K : Option Addr → Int → World → Prop) :
    vcFn C (Tryz.f49.body.getD .skip) Tryz.f49.results.toList Tryz.f49.ntmps an_phosphorref15_New [Kind.ptr, (Kind.int .i64)] [(.int .i64 cols)] w (fun s w => K s.1 s.2.1 w) = sh_phosphorref15_New cols w K := by kernel_rfl

theorem call_phosphorref15_New (cols : Int) {w : World} {K : Option Addr → Int → World → Prop} (h : sh_phosphorref15_New cols w K) : c_phosphorref15_New cols w K := by
  rw [← vc_phosphorref15_New] at h
  refine Calls.mono (calls_of_vc C.plain_ok C.mixed Tryz.func49 rfl h) ?_
  rintro e w' ⟨s, rfl, hK⟩
  exact ⟨s.1, s.2.1, rfl, hK⟩

/-- phosphor/phosphorlaw17.cursor -/
def sh_phosphorlaw17_cursor (a : T_screen_Cursor) (b : T_screen_Cursor) (w : World) (K : Bool → World → Prop) : Prop :=
  nw ty_screen_Cursor (T_screen_Cursor.rep.cells a) w fun a_1 w1 =>
  nw ty_phosphorref17_Cursor (T_screen_Cursor.rep.cells b) w1 fun b_1 w2 =>
  ldI .i64 (a_1.add 0) w2 fun t6 =>
  ldI .i64 (b_1.add 0) w2 fun t8 =>
  cond (t6 == t8)
    (ldI .i64 (a_1.add 1) w2 fun t12 =>
     ldI .i64 (b_1.add 1) w2 fun t14 =>
     cond (t12 == t14)
       (ldB (a_1.add 2) w2 fun t19 =>
        ldB (b_1.add 2) w2 fun t21 =>
        cond (t19 == t21)
          (ldS T_api_Attr.rep (a_1.add 3) w2 fun t26 =>
           ldS T_api_Attr.rep (b_1.add 3) w2 fun t28 =>
           cond ((t26.Fg == t28.Fg) && ((t26.Bg == t28.Bg) && ((t26.Flags == t28.Flags) && true)))
             (ldB (a_1.add 6) w2 fun t33 =>
              ldB (b_1.add 6) w2 fun t35 =>
              cond (t33 == t35)
                (ldS T_2_uint8.rep (a_1.add 7) w2 fun t40 =>
                 ldS T_2_uint8.rep (b_1.add 7) w2 fun t42 =>
                 cond ((t40.e0 == t42.e0) && ((t40.e1 == t42.e1) && true))
                   (ldI .i64 (a_1.add 9) w2 fun t47 =>
                    ldI .i64 (b_1.add 9) w2 fun t49 =>
                    K (t47 == t49) w2)
                   (K false w2))
                (K false w2))
             (K false w2))
          (K false w2))
       (K false w2))
    (K false w2)

def an_phosphorlaw17_cursor : List Ann := [.none, .none]

theorem vc_phosphorlaw17_cursor (a : T_screen_Cursor) (b : T_screen_Cursor) (w : World) (K : Bool → World → Prop) :
    vcFn C (Tryz.f50.body.getD .skip) Tryz.f50.results.toList Tryz.f50.ntmps an_phosphorlaw17_cursor [Kind.bool] [(.agg #[(.int .i64 a.Row), (.int .i64 a.Col), (.bool a.Wrap), (.int .i64 a.A.Fg), (.int .i64 a.A.Bg), (.int .i64 a.A.Flags), (.bool a.Origin), (.int .u8 a.Sets.e0), (.int .u8 a.Sets.e1), (.int .i64 a.Shift)]), (.agg #[(.int .i64 b.Row), (.int .i64 b.Col), (.bool b.Wrap), (.int .i64 b.A.Fg), (.int .i64 b.A.Bg), (.int .i64 b.A.Flags), (.bool b.Origin), (.int .u8 b.Sets.e0), (.int .u8 b.Sets.e1), (.int .i64 b.Shift)])] w (fun s w => K s.1 w) = sh_phosphorlaw17_cursor a b w K := by kernel_rfl

theorem call_phosphorlaw17_cursor (a : T_screen_Cursor) (b : T_screen_Cursor) {w : World} {K : Bool → World → Prop} (h : sh_phosphorlaw17_cursor a b w K) : c_phosphorlaw17_cursor a b w K := by
  rw [← vc_phosphorlaw17_cursor] at h
  refine Calls.mono (calls_of_vc C.plain_ok C.mixed Tryz.func50 rfl h) ?_
  rintro e w' ⟨s, rfl, hK⟩
  exact ⟨s.1, rfl, hK⟩

/-- (*phosphor/screen.Screen).Alt -/
def sh_screen_Screen_Alt (s : Option Addr) (w : World) (K : Bool → World → Prop) : Prop :=
  onPtr s fun t4 =>
  ldI .i64 (t4.add 2) w fun t6 =>
  K (t6 == (1 : Int)) w

def an_screen_Screen_Alt : List Ann := [.none, .none]

theorem vc_screen_Screen_Alt (s : Option Addr) (w : World) (K : Bool → World → Prop) :
    vcFn C (Tryz.f51.body.getD .skip) Tryz.f51.results.toList Tryz.f51.ntmps an_screen_Screen_Alt [Kind.bool] [(.pointer s)] w (fun s w => K s.1 w) = sh_screen_Screen_Alt s w K := by kernel_rfl

theorem call_screen_Screen_Alt (s : Option Addr) {w : World} {K : Bool → World → Prop} (h : sh_screen_Screen_Alt s w K) : c_screen_Screen_Alt s w K := by
  rw [← vc_screen_Screen_Alt] at h
  refine Calls.mono (calls_of_vc C.plain_ok C.mixed Tryz.func51 rfl h) ?_
  rintro e w' ⟨s, rfl, hK⟩
  exact ⟨s.1, rfl, hK⟩

/-- (*phosphor/grid.Grid).Top -/
def sh_grid_Grid_Top (g : Option Addr) (w : World) (K : Int → World → Prop) : Prop :=
  onPtr g fun t4 =>
  ldI .i64 (t4.add 4) w fun t6 =>
  K t6 w

def an_grid_Grid_Top : List Ann := [.none, .none]

theorem vc_grid_Grid_Top (g : Option Addr) (w : World) (K : Int → World → Prop) :
    vcFn C (Tryz.f52.body.getD .skip) Tryz.f52.results.toList Tryz.f52.ntmps an_grid_Grid_Top [(Kind.int .i64)] [(.pointer g)] w (fun s w => K s.1 w) = sh_grid_Grid_Top g w K := by kernel_rfl

theorem call_grid_Grid_Top (g : Option Addr) {w : World} {K : Int → World → Prop} (h : sh_grid_Grid_Top g w K) : c_grid_Grid_Top g w K := by
  rw [← vc_grid_Grid_Top] at h
  refine Calls.mono (calls_of_vc C.plain_ok C.mixed Tryz.func52 rfl h) ?_
  rintro e w' ⟨s, rfl, hK⟩
  exact ⟨s.1, rfl, hK⟩

/-- phosphor/phosphorref13.Same -/
def sh_phosphorref13_Same (a : Slc) (b : Slc) (w : World) (K : Bool → World → Prop) : Prop :=
  cond (((a.n : Nat) : Int) != ((b.n : Nat) : Int))
    (K false w)
    (loopP (σ := Int × Unit) (fun I1 s w1 =>
       cond (decide (s.1 < ((a.n : Nat) : Int)))
         (ixK a s.1 5 fun t19 =>
          ldS T_api_Cell.rep t19 w1.drew fun t20 =>
          ixK b s.1 5 fun t23 =>
          ldS T_api_Cell.rep t23 w1.drew fun t24 =>
          cond (!((t20.R == t24.R) && ((t20.Kind == t24.Kind) && (((t20.A.Fg == t24.A.Fg) && ((t20.A.Bg == t24.A.Bg) && ((t20.A.Flags == t24.A.Flags) && true))) && true))))
            (K false w1.drew)
            (I1 ((IntKind.i64.wrap (s.1 + (1 : Int))), ()) w1.drew))
         (K true w1)) (0, ()) w)

def an_phosphorref13_Same : List Ann := [.none, .none, .none, .none, .none, .none, .join [(5, (Kind.int .i64))] [4, 5, 11, 12, 13, 14, 15, 16, 17, 18, 19, 20, 21, 22, 23, 24, 25], .none, .none, .none, .none, .none, .none]

theorem vc_phosphorref13_Same (a : Slc) (b : Slc) (w : World) (K : Bool → World → Prop) :
    vcFn C (Tryz.f53.body.getD .skip) Tryz.f53.results.toList Tryz.f53.ntmps an_phosphorref13_Same [Kind.bool] [(.slice a.a a.n a.c), (.slice b.a b.n b.c)] w (fun s w => K s.1 w) = sh_phosphorref13_Same a b w K := by kernel_rfl

theorem call_phosphorref13_Same (a : Slc) (b : Slc) {w : World} {K : Bool → World → Prop} (h : sh_phosphorref13_Same a b w K) : c_phosphorref13_Same a b w K := by
  rw [← vc_phosphorref13_Same] at h
  refine Calls.mono (calls_of_vc C.plain_ok C.mixed Tryz.func53 rfl h) ?_
  rintro e w' ⟨s, rfl, hK⟩
  exact ⟨s.1, rfl, hK⟩

/-- (*phosphor/screen.Screen).Firsts -/
def sh_screen_Screen_Firsts (s : Option Addr) (w : World) (K : Int → Int → World → Prop) : Prop :=
  onPtr s fun t5 =>
  ixA (t5.add 0) 2 0 1 fun t7 =>
  ldP t7 w.drew fun t8 =>
  onPtr s fun t11 =>
  ixA (t11.add 0) 2 1 1 fun t13 =>
  ldP t13 w.drew fun t14 =>
  c_grid_Grid_First t8 w.drew fun t9 w1 =>
  World.cell? w1 t13 = some (.pointer t14) ∧
  c_grid_Grid_Top t14 w1 fun t15 w2 =>
  K t9 t15 w2

def an_screen_Screen_Firsts : List Ann := [.none, .none]

theorem vc_screen_Screen_Firsts (s : Option Addr) (w : World) (K : Int → Int → World → Prop) :
    vcFn C (Tryz.f55.body.getD .skip) Tryz.f55.results.toList Tryz.f55.ntmps an_screen_Screen_Firsts [(Kind.int .i64), (Kind.int .i64)] [(.pointer s)] w (fun s w => K s.1 s.2.1 w) = sh_screen_Screen_Firsts s w K := by kernel_rfl

theorem call_screen_Screen_Firsts (s : Option Addr) {w : World} {K : Int → Int → World → Prop} (h : sh_screen_Screen_Firsts s w K) : c_screen_Screen_Firsts s w K := by
  rw [← vc_screen_Screen_Firsts] at h
  refine Calls.mono (calls_of_vc C.plain_ok C.mixed Tryz.func55 rfl h) ?_
  rintro e w' ⟨s, rfl, hK⟩
  exact ⟨s.1, s.2.1, rfl, hK⟩

/-- (*phosphor/screen.Screen).Tabs -/
def sh_screen_Screen_Tabs (s : Option Addr) (w : World) (K : Slc → World → Prop) : Prop :=
  onPtr s fun t4 =>
  ldP (t4.add 39) w fun t6 =>
  c_tabs_Stops_All t6 w fun t7 w1 =>
  K t7 w1

def an_screen_Screen_Tabs : List Ann := [.none, .none]

theorem vc_screen_Screen_Tabs (s : Option Addr) (w : World) (K : Slc → World → Prop) :
    vcFn C (Tryz.f56.body.getD .skip) Tryz.f56.results.toList Tryz.f56.ntmps an_screen_Screen_Tabs [Kind.slice] [(.pointer s)] w (fun s w => K s.1 w) = sh_screen_Screen_Tabs s w K := by kernel_rfl

theorem call_screen_Screen_Tabs (s : Option Addr) {w : World} {K : Slc → World → Prop} (h : sh_screen_Screen_Tabs s w K) : c_screen_Screen_Tabs s w K := by
  rw [← vc_screen_Screen_Tabs] at h
  refine Calls.mono (calls_of_vc C.plain_ok C.mixed Tryz.func56 rfl h) ?_
  rintro e w' ⟨s, rfl, hK⟩
  exact ⟨s.1, rfl, hK⟩

/-- (*phosphor/phosphorref15.Stops).All -/
def sh_phosphorref15_Stops_All (s : Option Addr) (w : World) (K : Slc → World → Prop) : Prop :=
  loopP (σ := Slc × Int × Unit) (fun I1 s_1 w1 =>
    onPtr s fun t7 =>
    ldSl (t7.add 0) w1 fun t9 =>
    cond (decide (s_1.2.1 < ((t9.n : Nat) : Int)))
      (onPtr s fun t15 =>
       ldSl (t15.add 0) w1 fun t17 =>
       ixK t17 s_1.2.1 1 fun t19 =>
       ldB t19 w1 fun t20 =>
       cond t20
         (nw ty_int [(.int .i64 s_1.2.1)] w1 fun t23 w2 =>
          apK PG #[ty_sl_int, ty_sl_int] ty_sl_int s_1.1 (⟨(some t23), 1, 1⟩ : Slc) w2 fun t24 w3 =>
          I1 (t24, (IntKind.i64.wrap (s_1.2.1 + (1 : Int))), ()) w3)
         (I1 (s_1.1, (IntKind.i64.wrap (s_1.2.1 + (1 : Int))), ()) w1))
      (K s_1.1 w1)) (⟨none, 0, 0⟩, 0, ()) w

def an_phosphorref15_Stops_All : List Ann := [.none, .none, .none, .none, .join [(3, Kind.slice), (4, (Kind.int .i64))] [3, 4, 5, 6, 7, 8, 9, 10, 11, 12, 13, 14, 15, 16, 17, 18, 19, 20, 21, 22, 23, 24], .none, .none, .none, .none, .none]

theorem vc_phosphorref15_Stops_All (s : Option Addr) (w : World) (K : Slc → World → Prop) :
    vcFn C (Tryz.f57.body.getD .skip) Tryz.f57.results.toList Tryz.f57.ntmps an_phosphorref15_Stops_All [Kind.slice] [(.pointer s)] w (fun s w => K s.1 w) = sh_phosphorref15_Stops_All s w K := by kernel_rfl

theorem call_phosphorref15_Stops_All (s : Option Addr) {w : World} {K : Slc → World → Prop} (h : sh_phosphorref15_Stops_All s w K) : c_phosphorref15_Stops_All s w K := by
  rw [← vc_phosphorref15_Stops_All] at h
  refine Calls.mono (calls_of_vc C.plain_ok C.mixed Tryz.func57 rfl h) ?_
  rintro e w' ⟨s, rfl, hK⟩
  exact ⟨s.1, rfl, hK⟩

/-- phosphor/phosphorlaw17.modes -/
def sh_phosphorlaw17_modes (s : Option Addr) (r : Option Addr) (w : World) (K : Bool → World → Prop) : Prop :=
  nw ty_int [(.int .i64 1), (.int .i64 4), (.int .i64 6), (.int .i64 7), (.int .i64 20), (.int .i64 25), (.int .i64 47), (.int .i64 1000), (.int .i64 1047), (.int .i64 1049), (.int .i64 2004), (.int .i64 5)] w fun t15 w1 =>
  loopP (σ := Int × Unit) (fun I1 s_1 w2 =>
    cond (decide (s_1.1 < ((12 : Nat) : Int)))
      ((0 ≤ s_1.1 ∧ s_1.1 < (12 : Nat)) ∧
       ldI .i64 (t15.add ((s_1.1 : Int).toNat * 1)) w2 fun t20 =>
       c_screen_Screen_Mode s t20 true w2 fun t24 t24_1 w3 =>
       c_phosphorref17_Screen_Mode r t20 true w3 fun t30 t30_1 w4 =>
       c_screen_Screen_Mode s t20 false w4 fun t36 t36_1 w5 =>
       c_phosphorref17_Screen_Mode r t20 false w5 fun t42 t42_1 w6 =>
       cond (!(t24 == t30))
         (K false w6)
         (cond (!(t24_1 == t30_1))
            (K false w6)
            (cond (!(t36 == t42))
               (K false w6)
               (cond (!(t36_1 == t42_1))
                  (K false w6)
                  (I1 ((IntKind.i64.wrap (s_1.1 + (1 : Int))), ()) w6)))))
      (K true w2)) (0, ()) w1

def an_phosphorlaw17_modes : List Ann := [.none, .none, .none, .join [(17, (Kind.int .i64))] [4, 6, 7, 8, 9, 10, 11, 12, 13, 14, 17, 18, 19, 20, 21, 22, 23, 24, 25, 26, 27, 28, 29, 30, 31, 32, 33, 34, 35, 36, 37, 38, 39, 40, 41, 42, 43, 44, 45, 46, 47, 48, 49, 50, 51, 52, 53, 54, 55, 56, 57, 58, 59, 60, 61, 62, 63], .none, .none, .none, .none, .none, .none, .none, .none, .none, .none, .none]

theorem vc_phosphorlaw17_modes (s : Option Addr) (r : Option Addr) (w : World) (K : Bool → World → Prop) :
    vcFn C (Tryz.f58.body.getD .skip) Tryz.f58.results.toList Tryz.f58.ntmps an_phosphorlaw17_modes [Kind.bool] [(.pointer s), (.pointer r)] w (fun s w => K s.1 w) = sh_phosphorlaw17_modes s r w K := by kernel_rfl

theorem call_phosphorlaw17_modes (s : Option Addr) (r : Option Addr) {w : World} {K : Bool → World → Prop} (h : sh_phosphorlaw17_modes s r w K) : c_phosphorlaw17_modes s r w K := by
  rw [← vc_phosphorlaw17_modes] at h
  refine Calls.mono (calls_of_vc C.plain_ok C.mixed Tryz.func58 rfl h) ?_
  rintro e w' ⟨s, rfl, hK⟩
  exact ⟨s.1, rfl, hK⟩

/-- phosphor/screen.cut -/
def sh_screen_cut (v : Int) (lo : Int) (hi : Int) (w : World) (K : Int → World → Prop) : Prop :=
  K (if hi < (if lo > v then lo else v) then hi else (if lo > v then lo else v)) w

def an_screen_cut : List Ann := [.none, .none]

theorem vc_screen_cut (v : Int) (lo : Int) (hi : Int) (w : World) (K : Int → World → Prop) :
    vcFn C (Tryz.f60.body.getD .skip) Tryz.f60.results.toList Tryz.f60.ntmps an_screen_cut [(Kind.int .i64)] [(.int .i64 v), (.int .i64 lo), (.int .i64 hi)] w (fun s w => K s.1 w) = sh_screen_cut v lo hi w K := by kernel_rfl

theorem call_screen_cut (v : Int) (lo : Int) (hi : Int) {w : World} {K : Int → World → Prop} (h : sh_screen_cut v lo hi w K) : c_screen_cut v lo hi w K := by
  rw [← vc_screen_cut] at h
  refine Calls.mono (calls_of_vc C.plain_ok C.mixed Tryz.func60 rfl h) ?_
  rintro e w' ⟨s, rfl, hK⟩
  exact ⟨s.1, rfl, hK⟩

/-- (*phosphor/screen.Screen).to -/
def sh_screen_Screen_to (s : Option Addr) (row : Int) (col : Int) (w : World) (K : World → Prop) : Prop :=
  c_screen_Screen_size s w fun t10 t10_1 w1 =>
  c_screen_cut row 0 (IntKind.i64.wrap (t10 - (1 : Int))) w1 fun t19 w2 =>
  c_screen_cut col 0 (IntKind.i64.wrap (t10_1 - (1 : Int))) w2 fun t23 w3 =>
  onPtr s fun t24 =>
  stK ((t24.add 3).add 0) [(.int .i64 t19)] w3 fun w4 =>
  onPtr s fun t27 =>
  stK ((t27.add 3).add 1) [(.int .i64 t23)] w4 fun w5 =>
  onPtr s fun t30 =>
  stK ((t30.add 3).add 2) [(.bool false)] w5 fun w6 =>
  K w6

def an_screen_Screen_to : List Ann := [.none]

theorem vc_screen_Screen_to (s : Option Addr) (row : Int) (col : Int) (w : World) (K : World → Prop) :
    vcFn C (Tryz.f61.body.getD .skip) Tryz.f61.results.toList Tryz.f61.ntmps an_screen_Screen_to [] [(.pointer s), (.int .i64 row), (.int .i64 col)] w (fun s w => K w) = sh_screen_Screen_to s row col w K := by kernel_rfl

theorem call_screen_Screen_to (s : Option Addr) (row : Int) (col : Int) {w : World} {K : World → Prop} (h : sh_screen_Screen_to s row col w K) : c_screen_Screen_to s row col w K := by
  rw [← vc_screen_Screen_to] at h
  refine Calls.mono (calls_of_vc C.plain_ok C.mixed Tryz.func61 rfl h) ?_
  rintro e w' ⟨s, rfl, hK⟩
  exact ⟨rfl, hK⟩

/-- (*phosphor/tabs.Stops).Resize -/
def sh_tabs_Stops_Resize (s : Option Addr) (cols : Int) (w : World) (K : Int → World → Prop) : Prop :=
  joinP (σ := Unit) (fun s_1 w1 =>
    onPtr s fun t15 =>
    ldI .i64 (t15.add 0) w1 fun t17 =>
    loopP (σ := Int × Unit) (fun I2 s_2 w2 =>
      cond (decide (s_2.1 < cols))
        ((8 : Int) ≠ 0 ∧
         cond ((s_2.1.tmod (8 : Int)) == (0 : Int))
           (onPtr s fun t28 =>
            ldM (t28.add 1) w2 fun t30 =>
            runU PG (Instr.mapUpdate ty_map_int_bool (.map t30) (.int .i64 s_2.1) (.bool true)) w2 fun _ w3 =>
            I2 ((IntKind.i64.wrap (s_2.1 + (1 : Int))), ()) w3)
           (I2 ((IntKind.i64.wrap (s_2.1 + (1 : Int))), ()) w2))
        (c_tabs_Stops_All s w2 fun t33 w4 =>
         loopP (σ := Int × Unit) (fun I3 s_3 w5 =>
           cond (decide (s_3.1 < ((t33.n : Nat) : Int)))
             (ixK t33 s_3.1 1 fun t37 =>
              ldI .i64 t37 w5 fun t38 =>
              cond (decide (t38 ≥ cols))
                (onPtr s fun t43 =>
                 ldM (t43.add 1) w5 fun t45 =>
                 runK1 PG (Builtin.delete_ #[ty_map_int_bool, ty_int] ty_unit #[(.map t45), (.int .i64 t38)]) Kind.raw w5 fun (r : Value) w6 =>
                 I3 ((IntKind.i64.wrap (s_3.1 + (1 : Int))), ()) w6)
                (I3 ((IntKind.i64.wrap (s_3.1 + (1 : Int))), ()) w5))
             (onPtr s fun t50 =>
              stK (t50.add 0) [(.int .i64 cols)] w5 fun w7 =>
              K 0 w7)) (0, ()) w4)) ((if (1 : Int) > t17 then (1 : Int) else t17), ()) w1) fun J1 =>
  cond (decide (cols < (1 : Int)))
    (K 1 w)
    (cond (decide (cols > (1000 : Int)))
       (K 1 w)
       (J1 (()) w))

def an_tabs_Stops_Resize : List Ann := [.none, .join [] [4, 8, 9, 10, 11, 12, 13], .none, .none, .none, .none, .join [(5, (Kind.int .i64))] [5, 19, 20, 21, 22, 23, 24, 25, 26, 27, 28, 29, 30, 31], .none, .none, .none, .none, .none, .none, .join [(35, (Kind.int .i64))] [7, 35, 36, 37, 38, 39, 40, 41, 42, 43, 44, 45, 46, 47], .none, .none, .none, .none, .none, .none, .none]

theorem vc_tabs_Stops_Resize (s : Option Addr) (cols : Int) (w : World) (K : Int → World → Prop) :
    vcFn C (Tryz.f62.body.getD .skip) Tryz.f62.results.toList Tryz.f62.ntmps an_tabs_Stops_Resize [(Kind.int .i64)] [(.pointer s), (.int .i64 cols)] w (fun s w => K s.1 w) = sh_tabs_Stops_Resize s cols w K := by kernel_rfl

theorem call_tabs_Stops_Resize (s : Option Addr) (cols : Int) {w : World} {K : Int → World → Prop} (h : sh_tabs_Stops_Resize s cols w K) : c_tabs_Stops_Resize s cols w K := by
  rw [← vc_tabs_Stops_Resize] at h
  refine Calls.mono (calls_of_vc C.plain_ok C.mixed Tryz.func62 rfl h) ?_
  rintro e w' ⟨s, rfl, hK⟩
  exact ⟨s.1, rfl, hK⟩

/-- (*phosphor/screen.Screen).index -/
def sh_screen_Screen_index (s : Option Addr) (w : World) (K : World → Prop) : Prop :=
  onPtr s fun t3 =>
  stK ((t3.add 3).add 2) [(.bool false)] w fun w1 =>
  onPtr s fun t7 =>
  ldI .i64 ((t7.add 3).add 0) w1.drew fun t10 =>
  onPtr s fun t12 =>
  ldI .i64 (t12.add 38) w1.drew fun t14 =>
  cond (t10 == (IntKind.i64.wrap (t14 - (1 : Int))))
    (onPtr s fun t20 =>
     ldI .i64 (t20.add 37) w1.drew.drew fun t22 =>
     onPtr s fun t24 =>
     ldI .i64 (t24.add 38) w1.drew.drew fun t26 =>
     c_screen_Screen_g s w1.drew.drew fun t18 w2 =>
     World.cell? w2 (t24.add 38) = some (.int .i64 t26) ∧
     World.cell? w2 (t20.add 37) = some (.int .i64 t22) ∧
     c_screen_Screen_blank s w2 fun t28 w3 =>
     World.cell? w3 (t24.add 38) = some (.int .i64 t26) ∧
     World.cell? w3 (t20.add 37) = some (.int .i64 t22) ∧
     c_grid_Grid_Scroll t18 t22 t26 1 t28 w3 fun t29 w4 =>
     K w4)
    (onPtr s fun t32 =>
     ldI .i64 ((t32.add 3).add 0) w1.drew.drew fun t35 =>
     onPtr s fun t38 =>
     ldI .i64 ((t38.add 3).add 1) w1.drew.drew fun t41 =>
     c_screen_Screen_to s (IntKind.i64.wrap (t35 + (1 : Int))) t41 w1.drew.drew fun w5 =>
     K w5)

def an_screen_Screen_index : List Ann := [.none, .none, .none, .none]

theorem vc_screen_Screen_index (s : Option Addr) (w : World) (K : World → Prop) :
    vcFn C (Tryz.f63.body.getD .skip) Tryz.f63.results.toList Tryz.f63.ntmps an_screen_Screen_index [] [(.pointer s)] w (fun s w => K w) = sh_screen_Screen_index s w K := by kernel_rfl

theorem call_screen_Screen_index (s : Option Addr) {w : World} {K : World → Prop} (h : sh_screen_Screen_index s w K) : c_screen_Screen_index s w K := by
  rw [← vc_screen_Screen_index] at h
  refine Calls.mono (calls_of_vc C.plain_ok C.mixed Tryz.func63 rfl h) ?_
  rintro e w' ⟨s, rfl, hK⟩
  exact ⟨rfl, hK⟩

/-- (phosphor/line.Line).fits -/
def sh_line_Line_fits (l : Slc) (col : Int) (w : World) (K : Bool → World → Prop) : Prop :=
  ixK l col 5 fun t7 =>
  ldI .i64 (t7.add 1) w fun t9 =>
  cond (t9 == (0 : Int))
    (K true w)
    (cond (t9 == (1 : Int))
       (c_line_Line_is l (IntKind.i64.wrap (col + (1 : Int))) 2 w fun t17 w1 =>
        K t17 w1)
       (cond (t9 == (2 : Int))
          (c_line_Line_is l (IntKind.i64.wrap (col - (1 : Int))) 1 w fun t23 w2 =>
           K t23 w2)
          (K false w)))

def an_line_Line_fits : List Ann := [.none, .none, .none, .none, .none, .none, .none, .none, .none, .none]

theorem vc_line_Line_fits (l : Slc) (col : Int) (w : World) (K : Bool → World → Prop) :
    vcFn C (Tryz.f64.body.getD .skip) Tryz.f64.results.toList Tryz.f64.ntmps an_line_Line_fits [Kind.bool] [(.slice l.a l.n l.c), (.int .i64 col)] w (fun s w => K s.1 w) = sh_line_Line_fits l col w K := by kernel_rfl

theorem call_line_Line_fits (l : Slc) (col : Int) {w : World} {K : Bool → World → Prop} (h : sh_line_Line_fits l col w K) : c_line_Line_fits l col w K := by
  rw [← vc_line_Line_fits] at h
  refine Calls.mono (calls_of_vc C.plain_ok C.mixed Tryz.func64 rfl h) ?_
  rintro e w' ⟨s, rfl, hK⟩
  exact ⟨s.1, rfl, hK⟩

/-- phosphor/grid.size -/
def sh_grid_size (n : Int) (w : World) (K : Bool → World → Prop) : Prop :=
  cond (decide (n ≥ (1 : Int)))
    (K (decide (n ≤ (1000 : Int))) w)
    (K false w)

def an_grid_size : List Ann := [.none, .none]

theorem vc_grid_size (n : Int) (w : World) (K : Bool → World → Prop) :
    vcFn C (Tryz.f65.body.getD .skip) Tryz.f65.results.toList Tryz.f65.ntmps an_grid_size [Kind.bool] [(.int .i64 n)] w (fun s w => K s.1 w) = sh_grid_size n w K := by kernel_rfl

theorem call_grid_size (n : Int) {w : World} {K : Bool → World → Prop} (h : sh_grid_size n w K) : c_grid_size n w K := by
  rw [← vc_grid_size] at h
  refine Calls.mono (calls_of_vc C.plain_ok C.mixed Tryz.func65 rfl h) ?_
  rintro e w' ⟨s, rfl, hK⟩
  exact ⟨s.1, rfl, hK⟩

/-- phosphor/ring.New[phosphor/line.Line] -/
def sh_ring_New_line_Line (most : Int) (w : World) (K : Option Addr → Int → World → Prop) : Prop :=
  joinP (σ := Unit) (fun s w1 =>
    nw ty_ring_Ring_phosphor_line_Line [(.int .i64 most), (.slice none 0 0), (.int .i64 0), (.int .i64 0)] w1 fun t12 w2 =>
    K (some t12) 0 w2) fun J1 =>
  cond (decide (most < (0 : Int)))
    (K none 1 w)
    (cond (decide (most > (65536 : Int)))
       (K none 1 w)
       (J1 (()) w))

def an_ring_New_line_Line : List Ann := [.none, .join [] [2, 3, 4, 5, 6, 7, 8, 9], .none, .none, .none]

theorem vc_ring_New_line_Line (most : Int) (w : World) (K : Option Addr → Int → World → Prop) :
    vcFn C (Tryz.f66.body.getD .skip) Tryz.f66.results.toList Tryz.f66.ntmps an_ring_New_line_Line [Kind.ptr, (Kind.int .i64)] [(.int .i64 most)] w (fun s w => K s.1 s.2.1 w) = sh_ring_New_line_Line most w K := by kernel_rfl

theorem call_ring_New_line_Line (most : Int) {w : World} {K : Option Addr → Int → World → Prop} (h : sh_ring_New_line_Line most w K) : c_ring_New_line_Line most w K := by
  rw [← vc_ring_New_line_Line] at h
  refine Calls.mono (calls_of_vc C.plain_ok C.mixed Tryz.func66 rfl h) ?_
  rintro e w' ⟨s, rfl, hK⟩
  exact ⟨s.1, s.2.1, rfl, hK⟩

/-- (*phosphor/grid.Grid).Clear -/
def sh_grid_Grid_Clear (g : Option Addr) (a : T_api_Attr) (w : World) (K : World → Prop) : Prop :=
  nw ty_api_Attr (T_api_Attr.rep.cells a) w fun a_1 w1 =>
  onPtr g fun t7 =>
  ldI .i64 (t7.add 1) w1.drew fun t9 =>
  ldS T_api_Attr.rep a_1 w1.drew fun t10 =>
  c_grid_Grid_blanks g t9 t10 w1.drew fun t11 w2 =>
  onPtr g fun t12 =>
  stK (t12.add 3) [(.slice t11.a t11.n t11.c)] w2 fun w3 =>
  K w3

def an_grid_Grid_Clear : List Ann := [.none]

theorem vc_grid_Grid_Clear (g : Option Addr) (a : T_api_Attr) (w : World) (K : World → Prop) :
    vcFn C (Tryz.f67.body.getD .skip) Tryz.f67.results.toList Tryz.f67.ntmps an_grid_Grid_Clear [] [(.pointer g), (.agg #[(.int .i64 a.Fg), (.int .i64 a.Bg), (.int .i64 a.Flags)])] w (fun s w => K w) = sh_grid_Grid_Clear g a w K := by kernel_rfl

theorem call_grid_Grid_Clear (g : Option Addr) (a : T_api_Attr) {w : World} {K : World → Prop} (h : sh_grid_Grid_Clear g a w K) : c_grid_Grid_Clear g a w K := by
  rw [← vc_grid_Grid_Clear] at h
  refine Calls.mono (calls_of_vc C.plain_ok C.mixed Tryz.func67 rfl h) ?_
  rintro e w' ⟨s, rfl, hK⟩
  exact ⟨rfl, hK⟩

/-- (*phosphor/screen.Screen).size -/
def sh_screen_Screen_size (s : Option Addr) (w : World) (K : Int → Int → World → Prop) : Prop :=
  c_screen_Screen_g s w fun t5 w1 =>
  c_grid_Grid_Size t5 w1 fun t6 t6_1 w2 =>
  K t6 t6_1 w2

def an_screen_Screen_size : List Ann := [.none, .none]

theorem vc_screen_Screen_size (s : Option Addr) (w : World) (K : Int → Int → World → Prop) :
    vcFn C (Tryz.f68.body.getD .skip) Tryz.f68.results.toList Tryz.f68.ntmps an_screen_Screen_size [(Kind.int .i64), (Kind.int .i64)] [(.pointer s)] w (fun s w => K s.1 s.2.1 w) = sh_screen_Screen_size s w K := by kernel_rfl

theorem call_screen_Screen_size (s : Option Addr) {w : World} {K : Int → Int → World → Prop} (h : sh_screen_Screen_size s w K) : c_screen_Screen_size s w K := by
  rw [← vc_screen_Screen_size] at h
  refine Calls.mono (calls_of_vc C.plain_ok C.mixed Tryz.func68 rfl h) ?_
  rintro e w' ⟨s, rfl, hK⟩
  exact ⟨s.1, s.2.1, rfl, hK⟩

/-- phosphor/tabs.New -/
def sh_tabs_New (cols : Int) (w : World) (K : Option Addr → Int → World → Prop) : Prop :=
  nwM w fun t6 w1 =>
  nw ty_tabs_Stops [(.int .i64 0), (.map (some t6))] w1 fun t8 w2 =>
  c_tabs_Stops_Resize (some t8) cols w2 fun t11 w3 =>
  cond (t11 != (0 : Int))
    (K none t11 w3)
    (K (some t8) 0 w3)

def an_tabs_New : List Ann := [.none, .none, .none, .none, .none, .none, .none]

theorem vc_tabs_New (cols : Int) (w : World) (K : Option Addr → Int → World → Prop) :
    vcFn C (Tryz.f69.body.getD .skip) Tryz.f69.results.toList Tryz.f69.ntmps an_tabs_New [Kind.ptr, (Kind.int .i64)] [(.int .i64 cols)] w (fun s w => K s.1 s.2.1 w) = sh_tabs_New cols w K := by kernel_rfl

theorem call_tabs_New (cols : Int) {w : World} {K : Option Addr → Int → World → Prop} (h : sh_tabs_New cols w K) : c_tabs_New cols w K := by
  rw [← vc_tabs_New] at h
  refine Calls.mono (calls_of_vc C.plain_ok C.mixed Tryz.func69 rfl h) ?_
  rintro e w' ⟨s, rfl, hK⟩
  exact ⟨s.1, s.2.1, rfl, hK⟩

/-- phosphor/screen.first -/
def sh_screen_first  (w : World) (K : T_screen_Cursor → World → Prop) : Prop :=
  nw ty_screen_Cursor [(.int .i64 0), (.int .i64 0), (.bool false), (.int .i64 0), (.int .i64 0), (.int .i64 0), (.bool false), (.int .u8 0), (.int .u8 0), (.int .i64 0)] w fun t0 w1 =>
  stK t0 [(.int .i64 0), (.int .i64 0), (.bool false), (.int .i64 0), (.int .i64 0), (.int .i64 0), (.bool false), (.int .u8 66), (.int .u8 66), (.int .i64 0)] w1 fun w2 =>
  ldS T_screen_Cursor.rep t0 w2 fun r =>
  K r w2

def an_screen_first : List Ann := [.none, .none]

theorem vc_screen_first  (w : World) (K : T_screen_Cursor → World → Prop) :
    vcFn C (Tryz.f70.body.getD .skip) Tryz.f70.results.toList Tryz.f70.ntmps an_screen_first [(Kind.struct T_screen_Cursor.rep)] [] w (fun s w => K s.1 w) = sh_screen_first  w K := by kernel_rfl

theorem call_screen_first  {w : World} {K : T_screen_Cursor → World → Prop} (h : sh_screen_first  w K) : c_screen_first  w K := by
  rw [← vc_screen_first] at h
  refine Calls.mono (calls_of_vc C.plain_ok C.mixed Tryz.func70 rfl h) ?_
  rintro e w' ⟨s, rfl, hK⟩
  exact ⟨s.1, rfl, hK⟩

/-- (*phosphor/screen.Screen).plain -/
def sh_screen_Screen_plain (s : Option Addr) (w : World) (K : World → Prop) : Prop :=
  nwM w fun t4 w1 =>
  nwM w1 fun t5 w2 =>
  runU PG (Instr.mapUpdate ty_map_int_bool (.map (some t5)) (.int .i64 7) (.bool true)) w2 fun _ w3 =>
  runU PG (Instr.mapUpdate ty_map_int_bool (.map (some t5)) (.int .i64 25) (.bool true)) w3 fun _ w4 =>
  onPtr s fun t7 =>
  stK (t7.add 35) [(.map (some t4))] w4 fun w5 =>
  onPtr s fun t9 =>
  stK (t9.add 36) [(.map (some t5))] w5 fun w6 =>
  K w6

def an_screen_Screen_plain : List Ann := []

theorem vc_screen_Screen_plain (s : Option Addr) (w : World) (K : World → Prop) :
    vcFn C (Tryz.f71.body.getD .skip) Tryz.f71.results.toList Tryz.f71.ntmps an_screen_Screen_plain [] [(.pointer s)] w (fun s w => K w) = sh_screen_Screen_plain s w K := by kernel_rfl

theorem call_screen_Screen_plain (s : Option Addr) {w : World} {K : World → Prop} (h : sh_screen_Screen_plain s w K) : c_screen_Screen_plain s w K := by
  rw [← vc_screen_Screen_plain] at h
  refine Calls.mono (calls_of_vc C.plain_ok C.mixed Tryz.func71 rfl h) ?_
  rintro e w' ⟨s, rfl, hK⟩
  exact ⟨rfl, hK⟩

/-- phosphor/utf.Graphic -/
def sh_utf_Graphic (set : Int) (b : Int) (w : World) (K : Int → World → Prop) : Prop :=
  joinP (σ := Bool × Unit) (fun s w1 =>
    cond s.1
      (c_utf_lines  w1 fun t15 w2 =>
       ixK t15 (IntKind.u8.wrap (b - (95 : Int))) 1 fun t18 =>
       ldI .i32 t18 w2 fun t19 =>
       K t19 w2)
      (K (IntKind.i32.wrap b) w1)) fun J1 =>
  cond (set == (48 : Int))
    (cond (decide (b ≥ (95 : Int)))
       (J1 ((decide (b ≤ (126 : Int))), ()) w)
       (J1 (false, ()) w))
    (J1 (false, ()) w)

def an_utf_Graphic : List Ann := [.none, .none, .join [(14, Kind.bool)] [5, 6, 7, 8, 9, 10, 11, 12, 13, 14], .none, .none]

theorem vc_utf_Graphic (set : Int) (b : Int) (w : World) (K : Int → World → Prop) :
    vcFn C (Tryz.f72.body.getD .skip) Tryz.f72.results.toList Tryz.f72.ntmps an_utf_Graphic [(Kind.int .i32)] [(.int .u8 set), (.int .u8 b)] w (fun s w => K s.1 w) = sh_utf_Graphic set b w K := by kernel_rfl

theorem call_utf_Graphic (set : Int) (b : Int) {w : World} {K : Int → World → Prop} (h : sh_utf_Graphic set b w K) : c_utf_Graphic set b w K := by
  rw [← vc_utf_Graphic] at h
  refine Calls.mono (calls_of_vc C.plain_ok C.mixed Tryz.func72 rfl h) ?_
  rintro e w' ⟨s, rfl, hK⟩
  exact ⟨s.1, rfl, hK⟩

/-- (*phosphor/screen.Screen).lay -/
def sh_screen_Screen_lay (s : Option Addr) (r : Int) (w : World) (K : World → Prop) : Prop :=
  nw ty_p_screen_Screen [(.pointer s)] w fun s_1 w1 =>
  nw ty_int32 [(.int .i32 r)] w1 fun r_1 w2 =>
  ldI .i32 r_1 w2 fun t8 =>
  c_utf_Width t8 w2 fun t9 w3 =>
  nw ty_int [(.int .i64 0)] w3 fun wx w4 =>
  stK wx [(.int .i64 t9)] w4 fun w5 =>
  ldP s_1 w5 fun t11 =>
  c_screen_Screen_size t11 w5 fun t12 t12_1 w6 =>
  ldI .i64 wx w6 fun t15 =>
  cond (t15 == (0 : Int))
    (K w6)
    (ldP s_1 w6 fun t17 =>
     ldI .i32 r_1 w6 fun t18 =>
     onPtr t17 fun t19 =>
     stK (t19.add 40) [(.int .i32 t18)] w6 fun w7 =>
     ldP s_1 w7 fun t21 =>
     onPtr t21 fun t22 =>
     ldM (t22.add 36) w7 fun t24 =>
     runK1 PG (Instr.lookup ty_map_int_bool (.map t24) (.int .i64 7) false) Kind.bool w7 fun (t25 : Bool) w8 =>
     joinP (σ := Unit) (fun s_2 w9 =>
       ldP s_1 w9 fun t43 =>
       onPtr t43 fun t44 =>
       stK ((t44.add 3).add 2) [(.bool false)] w9 fun w10 =>
       joinP (σ := Unit) (fun s_3 w11 =>
         ldP s_1 w11.drew fun t78 =>
         ldP s_1 w11.drew fun t80 =>
         onPtr t80 fun t81 =>
         ldI .i64 ((t81.add 3).add 0) w11.drew fun t84 =>
         c_screen_Screen_g t78 w11.drew fun t79 w12 =>
         World.cell? w12 ((t81.add 3).add 0) = some (.int .i64 t84) ∧
         World.cell? w12 s_1 = some (.pointer t80) ∧
         c_grid_Grid_Change t79 t84 ((.func (.func fn_screen_Screen_lay_1) #[] #[(.pointer (some s_1)), (.pointer (some wx)), (.pointer (some r_1))]) : Value) w12 fun t86 w13 =>
         ldP s_1 w13.drew fun t87 =>
         onPtr t87 fun t88 =>
         ldI .i64 ((t88.add 3).add 1) w13.drew fun t91 =>
         ldI .i64 wx w13.drew fun t92 =>
         onPtr t87 fun t94 =>
         stK ((t94.add 3).add 1) [(.int .i64 (IntKind.i64.wrap (t91 + t92)))] w13.drew fun w14 =>
         ldP s_1 w14 fun t97 =>
         onPtr t97 fun t98 =>
         ldI .i64 ((t98.add 3).add 1) w14 fun t101 =>
         cond (decide (t101 ≥ t12_1))
           (ldP s_1 w14.drew fun t104 =>
            ldP s_1 w14.drew fun t105 =>
            onPtr t104 fun t109 =>
            stK ((t109.add 3).add 1) [(.int .i64 (IntKind.i64.wrap (t12_1 - (1 : Int))))] w14.drew fun w15 =>
            World.cell? w15 s_1 = some (.pointer t105) ∧
            onPtr t105 fun t112 =>
            stK ((t112.add 3).add 2) [(.bool t25)] w15 fun w16 =>
            K w16)
           (K w14)) fun J2 =>
       ldP s_1 w10.drew fun t47 =>
       onPtr t47 fun t48 =>
       ldI .i64 ((t48.add 3).add 1) w10.drew fun t51 =>
       ldI .i64 wx w10.drew fun t52 =>
       cond (decide ((IntKind.i64.wrap (t51 + t52)) > t12_1))
         (ldI .i64 wx w10.drew fun t64 =>
          cond (decide (t64 > t12_1))
            (K w10.drew)
            (cond t25
               (ldP s_1 w10.drew.drew fun t69 =>
                ldP s_1 w10.drew.drew fun t70 =>
                onPtr t70 fun t71 =>
                ldI .i64 ((t71.add 3).add 0) w10.drew.drew fun t74 =>
                c_screen_Screen_to t69 t74 0 w10.drew.drew fun w17 =>
                ldP s_1 w17 fun t76 =>
                c_screen_Screen_index t76 w17 fun w18 =>
                J2 (()) w18)
               (ldP s_1 w10.drew fun t56 =>
                ldI .i64 wx w10.drew fun t58 =>
                onPtr t56 fun t60 =>
                stK ((t60.add 3).add 1) [(.int .i64 (IntKind.i64.wrap (t12_1 - t58)))] w10.drew fun w19 =>
                J2 (()) w19)))
         (J2 (()) w10.drew)) fun J1 =>
     joinP (σ := Bool × Unit) (fun s_4 w20 =>
       cond s_4.1
         (ldP s_1 w20.drew fun t34 =>
          ldP s_1 w20.drew fun t35 =>
          onPtr t35 fun t36 =>
          ldI .i64 ((t36.add 3).add 0) w20.drew fun t39 =>
          c_screen_Screen_to t34 t39 0 w20.drew fun w21 =>
          ldP s_1 w21 fun t41 =>
          c_screen_Screen_index t41 w21 fun w22 =>
          J1 (()) w22)
         (J1 (()) w20)) fun J3 =>
     ldP s_1 w8 fun t26 =>
     onPtr t26 fun t27 =>
     ldB ((t27.add 3).add 2) w8 fun t30 =>
     cond t30
       (J3 (t25, ()) w8)
       (J3 (false, ()) w8))

def an_screen_Screen_lay : List Ann := [.none, .none, .none, .none, .none, .none, .none, .join [] [26, 27, 28, 29, 30, 31, 32, 33, 34, 35, 36, 37, 38, 39, 40, 41, 42], .join [(33, Kind.bool)] [26, 27, 28, 29, 30, 31, 32, 33], .none, .none, .join [] [47, 48, 49, 50, 51, 52, 53, 54, 55, 56, 57, 58, 59, 60, 61, 62, 63, 64, 65, 66, 67, 68, 69, 70, 71, 72, 73, 74, 75, 76, 77], .none, .none, .none, .none, .none, .none, .none]

theorem vc_screen_Screen_lay (s : Option Addr) (r : Int) (w : World) (K : World → Prop) :
    vcFn C (Tryz.f73.body.getD .skip) Tryz.f73.results.toList Tryz.f73.ntmps an_screen_Screen_lay [] [(.pointer s), (.int .i32 r)] w (fun s w => K w) = sh_screen_Screen_lay s r w K := by kernel_rfl

theorem call_screen_Screen_lay (s : Option Addr) (r : Int) {w : World} {K : World → Prop} (h : sh_screen_Screen_lay s r w K) : c_screen_Screen_lay s r w K := by
  rw [← vc_screen_Screen_lay] at h
  refine Calls.mono (calls_of_vc C.plain_ok C.mixed Tryz.func73 rfl h) ?_
  rintro e w' ⟨s, rfl, hK⟩
  exact ⟨rfl, hK⟩

/-- (*phosphor/tabs.Stops).Next -/
def sh_tabs_Stops_Next (s : Option Addr) (col : Int) (n : Int) (w : World) (K : Int → World → Prop) : Prop :=
  joinP (σ := Unit) (fun s_1 w1 =>
    c_tabs_Stops_All s w1 fun t21 w2 =>
    loopP (σ := Int × Int × Unit) (fun I2 s_2 w3 =>
      cond (decide (s_2.2.1 < ((t21.n : Nat) : Int)))
        (ixK t21 s_2.2.1 1 fun t25 =>
         ldI .i64 t25 w3 fun t26 =>
         cond (decide (t26 ≤ col))
           (I2 (s_2.1, (IntKind.i64.wrap (s_2.2.1 + (1 : Int))), ()) w3)
           (cond ((IntKind.i64.wrap (s_2.1 - (1 : Int))) == (0 : Int))
              (K t26 w3)
              (I2 ((IntKind.i64.wrap (s_2.1 - (1 : Int))), (IntKind.i64.wrap (s_2.2.1 + (1 : Int))), ()) w3)))
        (onPtr s fun t37 =>
         ldI .i64 (t37.add 0) w3 fun t39 =>
         K (IntKind.i64.wrap (t39 - (1 : Int))) w3)) (n, 0, ()) w2) fun J1 =>
  joinP (σ := Bool × Unit) (fun s_3 w4 =>
    cond s_3.1
      (c_tabs_Stops_near s col w4 fun t19 w5 =>
       K t19 w5)
      (J1 (()) w4)) fun J3 =>
  cond (decide (n < (1 : Int)))
    (J3 (true, ()) w)
    (c_tabs_Stops_is s col w fun t14 w6 =>
     J3 ((!t14), ()) w6)

def an_tabs_Stops_Next : List Ann := [.none, .join [] [6, 9, 10, 11, 12, 13, 14, 15, 16, 17, 18, 19], .join [(16, Kind.bool)] [9, 10, 11, 12, 13, 14, 15, 16], .none, .none, .none, .none, .join [(2, (Kind.int .i64)), (23, (Kind.int .i64))] [2, 6, 8, 23, 24, 25, 26, 27, 28, 29, 30, 31, 32, 33, 34, 35], .none, .none, .none, .none, .none, .none, .none, .none, .none, .none]

theorem vc_tabs_Stops_Next (s : Option Addr) (col : Int) (n : Int) (w : World) (K : Int → World → Prop) :
    vcFn C (Tryz.f74.body.getD .skip) Tryz.f74.results.toList Tryz.f74.ntmps an_tabs_Stops_Next [(Kind.int .i64)] [(.pointer s), (.int .i64 col), (.int .i64 n)] w (fun s w => K s.1 w) = sh_tabs_Stops_Next s col n w K := by kernel_rfl

theorem call_tabs_Stops_Next (s : Option Addr) (col : Int) (n : Int) {w : World} {K : Int → World → Prop} (h : sh_tabs_Stops_Next s col n w K) : c_tabs_Stops_Next s col n w K := by
  rw [← vc_tabs_Stops_Next] at h
  refine Calls.mono (calls_of_vc C.plain_ok C.mixed Tryz.func74 rfl h) ?_
  rintro e w' ⟨s, rfl, hK⟩
  exact ⟨s.1, rfl, hK⟩

/-- (*phosphor/screen.Screen).full -/
def sh_screen_Screen_full (s : Option Addr) (w : World) (K : World → Prop) : Prop :=
  c_screen_Screen_size s w fun t9 t9_1 w1 =>
  c_line_New t9_1 (⟨0, 0, 0⟩ : T_api_Attr) w1 fun t14 w2 =>
  loopP (σ := Int × Unit) (fun I1 s_1 w3 =>
    cond (decide (s_1.1 < ((t14.n : Nat) : Int)))
      (ixK t14 s_1.1 5 fun t22 =>
       stK (t22.add 0) [(.int .i32 69)] w3 fun w4 =>
       I1 ((IntKind.i64.wrap (s_1.1 + (1 : Int))), ()) w4)
      (loopP (σ := Int × Unit) (fun I2 s_2 w5 =>
         cond (decide (s_2.1 < t9))
           (c_screen_Screen_g s w5 fun t30 w6 =>
            c_grid_Grid_Set t30 s_2.1 t14 w6 fun t33 w7 =>
            I2 ((IntKind.i64.wrap (s_2.1 + (1 : Int))), ()) w7)
           (onPtr s fun t38 =>
            stK (t38.add 37) [(.int .i64 0)] w5 fun w8 =>
            onPtr s fun t40 =>
            stK (t40.add 38) [(.int .i64 t9)] w8 fun w9 =>
            c_screen_Screen_to s 0 0 w9 fun w10 =>
            K w10)) (0, ()) w3)) (0, ()) w2

def an_screen_Screen_full : List Ann := [.none, .none, .none, .none, .join [(17, (Kind.int .i64))] [5, 17, 18, 19, 20, 21, 22, 23, 24], .none, .none, .none, .none, .none, .none, .join [(26, (Kind.int .i64))] [6, 26, 27, 28, 29, 30, 31, 32, 33, 34], .none, .none, .none, .none, .none]

theorem vc_screen_Screen_full (s : Option Addr) (w : World) (K : World → Prop) :
    vcFn C (Tryz.f75.body.getD .skip) Tryz.f75.results.toList Tryz.f75.ntmps an_screen_Screen_full [] [(.pointer s)] w (fun s w => K w) = sh_screen_Screen_full s w K := by kernel_rfl

theorem call_screen_Screen_full (s : Option Addr) {w : World} {K : World → Prop} (h : sh_screen_Screen_full s w K) : c_screen_Screen_full s w K := by
  rw [← vc_screen_Screen_full] at h
  refine Calls.mono (calls_of_vc C.plain_ok C.mixed Tryz.func75 rfl h) ?_
  rintro e w' ⟨s, rfl, hK⟩
  exact ⟨rfl, hK⟩

/-- (*phosphor/screen.Screen).single -/
def sh_screen_Screen_single (s : Option Addr) (c : Int) (w : World) (K : World → Prop) : Prop :=
  cond (c == (69 : Int))
    (onPtr s fun t21 =>
     ldI .i64 ((t21.add 3).add 0) w fun t24 =>
     c_screen_Screen_to s t24 0 w fun w1 =>
     c_screen_Screen_index s w1 fun w2 =>
     K w2)
    (cond (c == (68 : Int))
       (c_screen_Screen_index s w fun w3 =>
        K w3)
       (cond (c == (77 : Int))
          (c_screen_Screen_reverse s w fun w4 =>
           K w4)
          (cond (c == (72 : Int))
             (onPtr s fun t31 =>
              ldP (t31.add 39) w.drew fun t33 =>
              onPtr s fun t35 =>
              ldI .i64 ((t35.add 3).add 1) w.drew fun t38 =>
              c_tabs_Stops_Set t33 t38 w.drew fun t39 w5 =>
              K w5)
             (cond (c == (55 : Int))
                (c_screen_Screen_save s w fun w6 =>
                 K w6)
                (cond (c == (56 : Int))
                   (c_screen_Screen_restore s w fun w7 =>
                    K w7)
                   (cond (c == (99 : Int))
                      (c_screen_Screen_reset s w fun w8 =>
                       K w8)
                      (K w)))))))

def an_screen_Screen_single : List Ann := [.none, .none, .none, .none, .none, .none, .none, .none, .none, .none, .none, .none, .none, .none, .none, .none, .none, .none, .none, .none, .none, .none, .none, .none, .none, .none, .none, .none]

theorem vc_screen_Screen_single (s : Option Addr) (c : Int) (w : World) (K : World → Prop) :
    vcFn C (Tryz.f76.body.getD .skip) Tryz.f76.results.toList Tryz.f76.ntmps an_screen_Screen_single [] [(.pointer s), (.int .u8 c)] w (fun s w => K w) = sh_screen_Screen_single s c w K := by kernel_rfl

theorem call_screen_Screen_single (s : Option Addr) (c : Int) {w : World} {K : World → Prop} (h : sh_screen_Screen_single s c w K) : c_screen_Screen_single s c w K := by
  rw [← vc_screen_Screen_single] at h
  refine Calls.mono (calls_of_vc C.plain_ok C.mixed Tryz.func76 rfl h) ?_
  rintro e w' ⟨s, rfl, hK⟩
  exact ⟨rfl, hK⟩

/-- phosphor/screen.param -/
def sh_screen_param (p : Slc) (i : Int) (none : Int) (w : World) (K : Int → World → Prop) : Prop :=
  joinP (σ := Unit) (fun s w1 =>
    ixK p i 1 fun t21 =>
    ldI .i64 t21 w1 fun t22 =>
    K t22 w1) fun J1 =>
  cond (decide (i ≥ ((p.n : Nat) : Int)))
    (K none w)
    (ixK p i 1 fun t14 =>
     ldI .i64 t14 w fun t15 =>
     cond (t15 == (0 : Int))
       (K none w)
       (J1 (()) w))

def an_screen_param : List Ann := [.none, .join [] [6, 7, 8, 9, 10, 11, 12, 13, 14, 15, 16, 17, 18], .none, .none, .none]

theorem vc_screen_param (p : Slc) (i : Int) (none : Int) (w : World) (K : Int → World → Prop) :
    vcFn C (Tryz.f77.body.getD .skip) Tryz.f77.results.toList Tryz.f77.ntmps an_screen_param [(Kind.int .i64)] [(.slice p.a p.n p.c), (.int .i64 i), (.int .i64 none)] w (fun s w => K s.1 w) = sh_screen_param p i none w K := by kernel_rfl

theorem call_screen_param (p : Slc) (i : Int) (none : Int) {w : World} {K : Int → World → Prop} (h : sh_screen_param p i none w K) : c_screen_param p i none w K := by
  rw [← vc_screen_param] at h
  refine Calls.mono (calls_of_vc C.plain_ok C.mixed Tryz.func77 rfl h) ?_
  rintro e w' ⟨s, rfl, hK⟩
  exact ⟨s.1, rfl, hK⟩

/-- (*phosphor/screen.Screen).soft -/
def sh_screen_Screen_soft (s : Option Addr) (w : World) (K : World → Prop) : Prop :=
  c_screen_Screen_size s w fun t7 t7_1 w1 =>
  c_screen_Screen_plain s w1 fun w2 =>
  onPtr s fun t15 =>
  stK (t15.add 37) [(.int .i64 0)] w2 fun w3 =>
  onPtr s fun t17 =>
  stK (t17.add 38) [(.int .i64 t7)] w3 fun w4 =>
  onPtr s fun t21 =>
  stK (t21.add 13) [(.int .i64 0), (.int .i64 0), (.bool false), (.int .i64 0), (.int .i64 0), (.int .i64 0), (.bool false), (.int .u8 0), (.int .u8 0), (.int .i64 0), (.bool false), (.int .i64 0), (.int .i64 0), (.bool false), (.int .i64 0), (.int .i64 0), (.int .i64 0), (.bool false), (.int .u8 0), (.int .u8 0), (.int .i64 0), (.bool false)] w4 fun w5 =>
  c_screen_first  w5 fun t23 w6 =>
  nw ty_screen_Cursor [(.int .i64 0), (.int .i64 0), (.bool false), (.int .i64 0), (.int .i64 0), (.int .i64 0), (.bool false), (.int .u8 0), (.int .u8 0), (.int .i64 0)] w6 fun x w7 =>
  stK x (T_screen_Cursor.rep.cells t23) w7 fun w8 =>
  ldS T_2_uint8.rep (x.add 7) w8.drew fun t30 =>
  ldI .i64 (x.add 9) w8.drew fun t32 =>
  onPtr s fun t33 =>
  stK ((t33.add 3).add 3) [(.int .i64 0), (.int .i64 0), (.int .i64 0)] w8.drew fun w9 =>
  World.cell? w9 (x.add 9) = some (.int .i64 t32) ∧
  cellsAt w9 (x.add 7) (T_2_uint8.rep.cells t30) ∧
  onPtr s fun t36 =>
  stK ((t36.add 3).add 7) (T_2_uint8.rep.cells t30) w9 fun w10 =>
  World.cell? w10 (x.add 9) = some (.int .i64 t32) ∧
  onPtr s fun t39 =>
  stK ((t39.add 3).add 9) [(.int .i64 t32)] w10 fun w11 =>
  onPtr s fun t42 =>
  stK ((t42.add 3).add 6) [(.bool false)] w11 fun w12 =>
  K w12

def an_screen_Screen_soft : List Ann := [.none, .none, .none, .none, .none]

theorem vc_screen_Screen_soft (s : Option Addr) (w : World) (K : World → Prop) :
    vcFn C (Tryz.f78.body.getD .skip) Tryz.f78.results.toList Tryz.f78.ntmps an_screen_Screen_soft [] [(.pointer s)] w (fun s w => K w) = sh_screen_Screen_soft s w K := by kernel_rfl

theorem call_screen_Screen_soft (s : Option Addr) {w : World} {K : World → Prop} (h : sh_screen_Screen_soft s w K) : c_screen_Screen_soft s w K := by
  rw [← vc_screen_Screen_soft] at h
  refine Calls.mono (calls_of_vc C.plain_ok C.mixed Tryz.func78 rfl h) ?_
  rintro e w' ⟨s, rfl, hK⟩
  exact ⟨rfl, hK⟩

/-- (*phosphor/screen.Screen).turn -/
def sh_screen_Screen_turn (s : Option Addr) (n : Int) (on : Bool) (w : World) (K : World → Prop) : Prop :=
  joinP (σ := Int × Unit) (fun s_1 w1 =>
    cond (n == (6 : Int))
      (onPtr s fun t13 =>
       stK ((t13.add 3).add 6) [(.bool on)] w1 fun w2 =>
       c_screen_Screen_home s w2 fun w3 =>
       K w3)
      (joinP (σ := Bool × Unit) (fun s_2 w4 =>
         cond s_2.1
           (onPtr s fun t25 =>
            ldM (t25.add 36) w4 fun t27 =>
            runU PG (Instr.mapUpdate ty_map_int_bool (.map t27) (.int .i64 n) (.bool on)) w4 fun _ w5 =>
            K w5)
           (joinP (σ := Bool × Unit) (fun s_3 w6 =>
              cond s_3.1
                (c_screen_Screen_show s s_1.1 false w6 fun w7 =>
                 K w7)
                (cond (n == (1049 : Int))
                   (c_screen_Screen_show s s_1.1 true w6 fun w8 =>
                    K w8)
                   (K w6))) fun J3 =>
            cond (n == (47 : Int))
              (J3 ((n == (47 : Int)), ()) w4)
              (J3 ((n == (1047 : Int)), ()) w4))) fun J2 =>
       cond (n == (1 : Int))
         (J2 ((n == (1 : Int)), ()) w1)
         (cond (n == (7 : Int))
            (J2 ((n == (7 : Int)), ()) w1)
            (cond (n == (25 : Int))
               (J2 ((n == (25 : Int)), ()) w1)
               (cond (n == (1000 : Int))
                  (J2 ((n == (1000 : Int)), ()) w1)
                  (J2 ((n == (2004 : Int)), ()) w1)))))) fun J1 =>
  cond on
    (J1 (1, ()) w)
    (J1 (0, ()) w)

def an_screen_Screen_turn : List Ann := [.none, .join [(6, (Kind.int .i64))] [6, 7], .none, .none, .none, .none, .join [(18, Kind.bool)] [18, 19, 20, 21, 22, 23], .none, .none, .none, .none, .join [(30, Kind.bool)] [30, 31, 32], .none, .none]

theorem vc_screen_Screen_turn (s : Option Addr) (n : Int) (on : Bool) (w : World) (K : World → Prop) :
    vcFn C (Tryz.f79.body.getD .skip) Tryz.f79.results.toList Tryz.f79.ntmps an_screen_Screen_turn [] [(.pointer s), (.int .i64 n), (.bool on)] w (fun s w => K w) = sh_screen_Screen_turn s n on w K := by kernel_rfl

theorem call_screen_Screen_turn (s : Option Addr) (n : Int) (on : Bool) {w : World} {K : World → Prop} (h : sh_screen_Screen_turn s n on w K) : c_screen_Screen_turn s n on w K := by
  rw [← vc_screen_Screen_turn] at h
  refine Calls.mono (calls_of_vc C.plain_ok C.mixed Tryz.func79 rfl h) ?_
  rintro e w' ⟨s, rfl, hK⟩
  exact ⟨rfl, hK⟩

/-- phosphor/screen.reply -/
def sh_screen_reply (s : ByteArray) (w : World) (K : Slc → World → Prop) : Prop :=
  ((((⟨#[27, 91]⟩ : ByteArray).size + s.size : Nat) : Int) ≤ 9223372036854775807) ∧
  runK1 PG (convert ty_string ty_sl_uint8 (.string ((⟨#[27, 91]⟩ : ByteArray) ++ s))) Kind.slice w fun (t5 : Slc) w1 =>
  K t5 w1

def an_screen_reply : List Ann := [.none, .none]

theorem vc_screen_reply (s : ByteArray) (w : World) (K : Slc → World → Prop) :
    vcFn C (Tryz.f80.body.getD .skip) Tryz.f80.results.toList Tryz.f80.ntmps an_screen_reply [Kind.slice] [(.string s)] w (fun s w => K s.1 w) = sh_screen_reply s w K := by kernel_rfl

theorem call_screen_reply (s : ByteArray) {w : World} {K : Slc → World → Prop} (h : sh_screen_reply s w K) : c_screen_reply s w K := by
  rw [← vc_screen_reply] at h
  refine Calls.mono (calls_of_vc C.plain_ok C.mixed Tryz.func80 rfl h) ?_
  rintro e w' ⟨s, rfl, hK⟩
  exact ⟨s.1, rfl, hK⟩

/-- (*phosphor/screen.Screen).place -/
def sh_screen_Screen_place (s : Option Addr) (w : World) (K : ByteArray → World → Prop) : Prop :=
  onPtr s fun t5 =>
  ldI .i64 ((t5.add 3).add 0) w fun t8 =>
  joinP (σ := Int × Unit) (fun s_1 w1 =>
    onPtr s fun t26 =>
    ldI .i64 ((t26.add 3).add 1) w1.drew fun t29 =>
    c_strconv_Itoa (IntKind.i64.wrap (s_1.1 + (1 : Int))) w1.drew fun t23 w2 =>
    World.cell? w2 ((t26.add 3).add 1) = some (.int .i64 t29) ∧
    (((t23.size + (⟨#[59]⟩ : ByteArray).size : Nat) : Int) ≤ 9223372036854775807) ∧
    c_strconv_Itoa (IntKind.i64.wrap (t29 + (1 : Int))) w2 fun t31 w3 =>
    ((((t23 ++ (⟨#[59]⟩ : ByteArray)).size + t31.size : Nat) : Int) ≤ 9223372036854775807) ∧
    K ((t23 ++ (⟨#[59]⟩ : ByteArray)) ++ t31) w3) fun J1 =>
  onPtr s fun t10 =>
  ldB ((t10.add 3).add 6) w fun t13 =>
  cond t13
    (onPtr s fun t16 =>
     ldI .i64 (t16.add 37) w fun t18 =>
     J1 ((if (0 : Int) > (IntKind.i64.wrap (t8 - t18)) then (0 : Int) else (IntKind.i64.wrap (t8 - t18))), ()) w)
    (J1 (t8, ()) w)

def an_screen_Screen_place : List Ann := [.none, .none, .join [(3, (Kind.int .i64))] [3, 9, 10, 11, 12, 13, 14, 15, 16, 17, 18, 19, 20], .none, .none]

theorem vc_screen_Screen_place (s : Option Addr) (w : World) (K : ByteArray → World → Prop) :
    vcFn C (Tryz.f81.body.getD .skip) Tryz.f81.results.toList Tryz.f81.ntmps an_screen_Screen_place [Kind.string] [(.pointer s)] w (fun s w => K s.1 w) = sh_screen_Screen_place s w K := by kernel_rfl

theorem call_screen_Screen_place (s : Option Addr) {w : World} {K : ByteArray → World → Prop} (h : sh_screen_Screen_place s w K) : c_screen_Screen_place s w K := by
  rw [← vc_screen_Screen_place] at h
  refine Calls.mono (calls_of_vc C.plain_ok C.mixed Tryz.func81 rfl h) ?_
  rintro e w' ⟨s, rfl, hK⟩
  exact ⟨s.1, rfl, hK⟩

/-- (*phosphor/screen.Screen).state -/
def sh_screen_Screen_state (s : Option Addr) (n : Int) (w : World) (K : Int → World → Prop) : Prop :=
  c_screen_Screen_Mode s n true w fun t10 t10_1 w1 =>
  cond t10
    (K 1 w1)
    (cond t10_1
       (K 2 w1)
       (K 0 w1))

def an_screen_Screen_state : List Ann := [.none, .none, .none, .none, .none, .none, .none, .none]

theorem vc_screen_Screen_state (s : Option Addr) (n : Int) (w : World) (K : Int → World → Prop) :
    vcFn C (Tryz.f83.body.getD .skip) Tryz.f83.results.toList Tryz.f83.ntmps an_screen_Screen_state [(Kind.int .i64)] [(.pointer s), (.int .i64 n)] w (fun s w => K s.1 w) = sh_screen_Screen_state s n w K := by kernel_rfl

theorem call_screen_Screen_state (s : Option Addr) (n : Int) {w : World} {K : Int → World → Prop} (h : sh_screen_Screen_state s n w K) : c_screen_Screen_state s n w K := by
  rw [← vc_screen_Screen_state] at h
  refine Calls.mono (calls_of_vc C.plain_ok C.mixed Tryz.func83 rfl h) ?_
  rintro e w' ⟨s, rfl, hK⟩
  exact ⟨s.1, rfl, hK⟩

end Go.Proofs.YtmoafafalnbkpaaGreatDoor
