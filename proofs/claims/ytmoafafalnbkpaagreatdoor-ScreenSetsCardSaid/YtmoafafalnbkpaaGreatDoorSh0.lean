/- By program (gen.py): the typed text of the program's functions, part 0. -/
import Derived.Test.YtmoafafalnbkpaaGreatDoorDefs
set_option maxRecDepth 100000
set_option linter.unusedVariables false
namespace Go.Proofs.YtmoafafalnbkpaaGreatDoor
open Go.Vc
/-- phosphor/phosphorlaw17.ScreenShapes -/
def sh_phosphorlaw17_ScreenShapes (c : T_api_Config) (w : World) (K : Bool → World → Prop) : Prop :=
  nw ty_api_Config (T_api_Config.rep.cells c) w fun c_1 w1 =>
  c_phosphorlaw17_known  w1 fun t9 w2 =>
  cond (!t9)
    (K false w2)
    (ldS T_api_Config.rep c_1 w2.drew fun t11 =>
     ldS T_api_Config.rep c_1 w2.drew fun t13 =>
     c_screen_Check t11 w2.drew fun t12 w3 =>
     cellsAt w3 c_1 (T_api_Config.rep.cells t13) ∧
     c_phosphorref17_Check t13 w3 fun t14 w4 =>
     cond (t12 != t14)
       (K false w4)
       (ldS T_api_Config.rep c_1 w4 fun t16 =>
        c_phosphorref17_Check t16 w4 fun t17 w5 =>
        cond (t17 != (0 : Int))
          (ldS T_api_Config.rep c_1 w5 fun t20 =>
           c_screen_New t20 w5 fun t21 t21_1 w6 =>
           cond (t21.isNone)
             (K (t21_1 == (1 : Int)) w6)
             (K false w6))
          (joinP (σ := Unit) (fun s w7 =>
             ldS T_api_Config.rep c_1 w7 fun t39 =>
             c_screen_New t39 w7 fun t40 t40_1 w8 =>
             ldS T_api_Config.rep c_1 w8 fun t44 =>
             c_phosphorref17_New t44 w8 fun t45 t45_1 w9 =>
             cond (t40_1 == (0 : Int))
               (cond (!t40.isNone)
                  (c_phosphorlaw17_Looks t40 t45 w9 fun t57 w10 =>
                   cond t57
                     (c_screen_Screen_Erased t40 w10 fun t61 w11 =>
                      K (((t61.n : Nat) : Int) == (0 : Int)) w11)
                     (K false w10))
                  (K false w9))
               (K false w9)) fun J1 =>
           ldI .i64 (c_1.add 0) w5 fun t31 =>
           cond (decide (t31 > (100 : Int)))
             (K true w5)
             (ldI .i64 (c_1.add 1) w5 fun t35 =>
              cond (decide (t35 > (200 : Int)))
                (K true w5)
                (J1 (()) w5)))))

def an_phosphorlaw17_ScreenShapes : List Ann := [.none, .none, .none, .none, .none, .none, .none, .none, .none, .none, .none, .join [] [2, 30, 31, 32, 33, 34, 35, 36, 37], .none, .none, .none, .none, .none]

theorem vc_phosphorlaw17_ScreenShapes (c : T_api_Config) (w : World) (K : Bool → World → Prop) :
    vcFn C (Tryz.f8.body.getD .skip) Tryz.f8.results.toList Tryz.f8.ntmps an_phosphorlaw17_ScreenShapes [Kind.bool] [(.agg #[(.int .i64 c.Rows), (.int .i64 c.Cols), (.int .i64 c.CellW), (.int .i64 c.CellH), (.int .i64 c.Back), (.int .i64 c.Quota)])] w (fun s w => K s.1 w) = sh_phosphorlaw17_ScreenShapes c w K := by kernel_rfl

theorem call_phosphorlaw17_ScreenShapes (c : T_api_Config) {w : World} {K : Bool → World → Prop} (h : sh_phosphorlaw17_ScreenShapes c w K) : c_phosphorlaw17_ScreenShapes c w K := by
  rw [← vc_phosphorlaw17_ScreenShapes] at h
  refine Calls.mono (calls_of_vc C.plain_ok C.mixed Tryz.func8 rfl h) ?_
  rintro e w' ⟨s, rfl, hK⟩
  exact ⟨s.1, rfl, hK⟩

/-- phosphor/phosphorlaw17.known -/
def sh_phosphorlaw17_known  (w : World) (K : Bool → World → Prop) : Prop :=
  c_screen_New (⟨3, 4, 1, 1, 0, 0⟩ : T_api_Config) w fun t10 t10_1 w1 =>
  joinP (σ := Unit) (fun s w2 =>
    nw ty_int [(.int .i64 31)] w2 fun t20 w3 =>
    c_screen_Screen_Do t10 (⟨4, 0, 109, 0, (⟨#[]⟩ : ByteArray), ⟨(some t20), 1, 1⟩, ⟨none, 0, 0⟩⟩ : T_parse_Event) w3 fun t22 w4 =>
    loopP (σ := Int × Unit) (fun I2 s_1 w5 =>
      cond (decide (s_1.1 < (5 : Int)))
        (c_screen_Screen_Do t10 (⟨1, (IntKind.i32.wrap (IntKind.i64.wrap ((97 : Int) + s_1.1))), 0, 0, (⟨#[]⟩ : ByteArray), ⟨none, 0, 0⟩, ⟨none, 0, 0⟩⟩ : T_parse_Event) w5 fun t32 w6 =>
         I2 ((IntKind.i64.wrap (s_1.1 + (1 : Int))), ()) w6)
        (nw ty_int [(.int .i64 6)] w5 fun t34 w7 =>
         c_screen_Screen_Do t10 (⟨4, 0, 110, 0, (⟨#[]⟩ : ByteArray), ⟨(some t34), 1, 1⟩, ⟨none, 0, 0⟩⟩ : T_parse_Event) w7 fun t36 w8 =>
         c_screen_Screen_Grid t10 w8 fun t38 w9 =>
         cond (t38.isNone)
           (K false w9)
           (c_grid_Grid_Text t38 w9 fun t42 w10 =>
            c_screen_Screen_Cursor t10 w10 fun t44 w11 =>
            nw ty_screen_Cursor [(.int .i64 0), (.int .i64 0), (.bool false), (.int .i64 0), (.int .i64 0), (.int .i64 0), (.bool false), (.int .u8 0), (.int .u8 0), (.int .i64 0)] w11 fun c w12 =>
            stK c (T_screen_Cursor.rep.cells t44) w12 fun w13 =>
            cond (((t42.n : Nat) : Int) == (3 : Int))
              (ixK t42 0 1 fun t50 =>
               ldStr t50 w13 fun t51 =>
               cond (t51.toList == (⟨#[97, 98, 99, 100]⟩ : ByteArray).toList)
                 (ixK t42 1 1 fun t56 =>
                  ldStr t56 w13 fun t57 =>
                  cond (t57.toList == (⟨#[101]⟩ : ByteArray).toList)
                    (runK1 PG (convert ty_sl_uint8 ty_string (.slice t36.a t36.n t36.c)) Kind.string w13 fun (t62 : ByteArray) w14 =>
                     cond (t62.toList == (⟨#[27, 91, 50, 59, 50, 82]⟩ : ByteArray).toList)
                       (ldI .i64 (c.add 0) w14 fun t67 =>
                        cond (t67 == (1 : Int))
                          (ldI .i64 (c.add 1) w14 fun t72 =>
                           cond (t72 == (1 : Int))
                             (ldI .i64 ((c.add 3).add 0) w14 fun t78 =>
                              K (t78 == (16777217 : Int)) w14)
                             (K false w14))
                          (K false w14))
                       (K false w14))
                    (K false w13))
                 (K false w13))
              (K false w13)))) (0, ()) w4) fun J1 =>
  cond (t10_1 != (0 : Int))
    (K false w1)
    (cond (t10.isNone)
       (K false w1)
       (J1 (()) w1))

def an_phosphorlaw17_known : List Ann := [.none, .none, .join [] [0, 13, 14, 15, 16, 17, 18], .none, .none, .none, .none, .none, .join [(3, (Kind.int .i64))] [3, 23, 24, 25, 26, 27, 28, 29, 30, 31, 32], .none, .none, .none, .none, .none, .none, .none, .none, .none, .none, .none]

theorem vc_phosphorlaw17_known  (w : World) (K : Bool → World → Prop) :
    vcFn C (Tryz.f10.body.getD .skip) Tryz.f10.results.toList Tryz.f10.ntmps an_phosphorlaw17_known [Kind.bool] [] w (fun s w => K s.1 w) = sh_phosphorlaw17_known  w K := by kernel_rfl

theorem call_phosphorlaw17_known  {w : World} {K : Bool → World → Prop} (h : sh_phosphorlaw17_known  w K) : c_phosphorlaw17_known  w K := by
  rw [← vc_phosphorlaw17_known] at h
  refine Calls.mono (calls_of_vc C.plain_ok C.mixed Tryz.func10 rfl h) ?_
  rintro e w' ⟨s, rfl, hK⟩
  exact ⟨s.1, rfl, hK⟩

/-- phosphor/screen.New -/
def sh_screen_New (c : T_api_Config) (w : World) (K : Option Addr → Int → World → Prop) : Prop :=
  nw ty_api_Config (T_api_Config.rep.cells c) w fun c_1 w1 =>
  ldS T_api_Config.rep c_1 w1 fun t6 =>
  c_screen_Check t6 w1 fun t7 w2 =>
  cond (t7 != (0 : Int))
    (K none t7 w2)
    (nw ty_screen_Screen [(.pointer none), (.pointer none), (.int .i64 0), (.int .i64 0), (.int .i64 0), (.bool false), (.int .i64 0), (.int .i64 0), (.int .i64 0), (.bool false), (.int .u8 0), (.int .u8 0), (.int .i64 0), (.int .i64 0), (.int .i64 0), (.bool false), (.int .i64 0), (.int .i64 0), (.int .i64 0), (.bool false), (.int .u8 0), (.int .u8 0), (.int .i64 0), (.bool false), (.int .i64 0), (.int .i64 0), (.bool false), (.int .i64 0), (.int .i64 0), (.int .i64 0), (.bool false), (.int .u8 0), (.int .u8 0), (.int .i64 0), (.bool false), (.map none), (.map none), (.int .i64 0), (.int .i64 0), (.pointer none), (.int .i32 0), (.slice none 0 0)] w2 fun t12 w3 =>
     ldI .i64 (c_1.add 0) w3.drew fun t16 =>
     ldI .i64 (c_1.add 1) w3.drew fun t18 =>
     ldI .i64 (c_1.add 4) w3.drew fun t20 =>
     c_grid_New t16 t18 t20 w3.drew fun t21 t21_1 w4 =>
     ixA (t12.add 0) 2 0 1 fun t26 =>
     stK t26 [(.pointer t21)] w4 fun w5 =>
     ldI .i64 (c_1.add 0) w5.drew fun t30 =>
     ldI .i64 (c_1.add 1) w5.drew fun t32 =>
     c_grid_New t30 t32 0 w5.drew fun t33 t33_1 w6 =>
     ixA (t12.add 0) 2 1 1 fun t38 =>
     stK t38 [(.pointer t33)] w6 fun w7 =>
     c_screen_Screen_fresh (some t12) w7 fun w8 =>
     K (some t12) 0 w8)

def an_screen_New : List Ann := [.none, .none, .none, .none, .none, .none, .none, .none, .none, .none]

theorem vc_screen_New (c : T_api_Config) (w : World) (K : Option Addr → Int → World → Prop) :
    vcFn C (Tryz.f13.body.getD .skip) Tryz.f13.results.toList Tryz.f13.ntmps an_screen_New [Kind.ptr, (Kind.int .i64)] [(.agg #[(.int .i64 c.Rows), (.int .i64 c.Cols), (.int .i64 c.CellW), (.int .i64 c.CellH), (.int .i64 c.Back), (.int .i64 c.Quota)])] w (fun s w => K s.1 s.2.1 w) = sh_screen_New c w K := by kernel_rfl

theorem call_screen_New (c : T_api_Config) {w : World} {K : Option Addr → Int → World → Prop} (h : sh_screen_New c w K) : c_screen_New c w K := by
  rw [← vc_screen_New] at h
  refine Calls.mono (calls_of_vc C.plain_ok C.mixed Tryz.func13 rfl h) ?_
  rintro e w' ⟨s, rfl, hK⟩
  exact ⟨s.1, s.2.1, rfl, hK⟩

/-- (*phosphor/screen.Screen).Do -/
def sh_screen_Screen_Do (s : Option Addr) (e : T_parse_Event) (w : World) (K : Slc → World → Prop) : Prop :=
  nw ty_parse_Event (T_parse_Event.rep.cells e) w fun e_1 w1 =>
  ldI .i64 (e_1.add 0) w1 fun t6 =>
  cond (t6 == (1 : Int))
    (ldI .i32 (e_1.add 1) w1 fun t11 =>
     c_screen_Screen_print s t11 w1 fun w2 =>
     K (⟨none, 0, 0⟩ : Slc) w2)
    (cond (t6 == (2 : Int))
       (ldI .u8 (e_1.add 2) w1 fun t17 =>
        c_screen_Screen_control s t17 w1 fun w3 =>
        K (⟨none, 0, 0⟩ : Slc) w3)
       (cond (t6 == (3 : Int))
          (ldStr (e_1.add 4) w1 fun t23 =>
           ldI .u8 (e_1.add 2) w1 fun t25 =>
           c_screen_Screen_escape s t23 t25 w1 fun w4 =>
           K (⟨none, 0, 0⟩ : Slc) w4)
          (cond (t6 == (4 : Int))
             (ldS T_parse_Event.rep e_1 w1 fun t30 =>
              c_screen_Screen_sequence s t30 w1 fun t31 w5 =>
              K t31 w5)
             (K (⟨none, 0, 0⟩ : Slc) w1))))

def an_screen_Screen_Do : List Ann := [.none, .none, .none, .none, .none, .none, .none, .none, .none]

theorem vc_screen_Screen_Do (s : Option Addr) (e : T_parse_Event) (w : World) (K : Slc → World → Prop) :
    vcFn C (Tryz.f14.body.getD .skip) Tryz.f14.results.toList Tryz.f14.ntmps an_screen_Screen_Do [Kind.slice] [(.pointer s), (.agg #[(.int .i64 e.Kind), (.int .i32 e.R), (.int .u8 e.B), (.int .u8 e.Private), (.string e.Inter), (.slice e.Params.a e.Params.n e.Params.c), (.slice e.Data.a e.Data.n e.Data.c)])] w (fun s w => K s.1 w) = sh_screen_Screen_Do s e w K := by kernel_rfl

theorem call_screen_Screen_Do (s : Option Addr) (e : T_parse_Event) {w : World} {K : Slc → World → Prop} (h : sh_screen_Screen_Do s e w K) : c_screen_Screen_Do s e w K := by
  rw [← vc_screen_Screen_Do] at h
  refine Calls.mono (calls_of_vc C.plain_ok C.mixed Tryz.func14 rfl h) ?_
  rintro e w' ⟨s, rfl, hK⟩
  exact ⟨s.1, rfl, hK⟩

/-- (*phosphor/screen.Screen).Cursor -/
def sh_screen_Screen_Cursor (s : Option Addr) (w : World) (K : T_screen_Cursor → World → Prop) : Prop :=
  nw ty_screen_Cursor [(.int .i64 0), (.int .i64 0), (.bool false), (.int .i64 0), (.int .i64 0), (.int .i64 0), (.bool false), (.int .u8 0), (.int .u8 0), (.int .i64 0)] w fun t2 w1 =>
  onPtr s fun t4 =>
  ldS T_screen_Cursor.rep (t4.add 3) w1 fun t6 =>
  stK t2 (T_screen_Cursor.rep.cells t6) w1 fun w2 =>
  ldS T_screen_Cursor.rep t2 w2 fun r =>
  K r w2

def an_screen_Screen_Cursor : List Ann := [.none, .none]

theorem vc_screen_Screen_Cursor (s : Option Addr) (w : World) (K : T_screen_Cursor → World → Prop) :
    vcFn C (Tryz.f15.body.getD .skip) Tryz.f15.results.toList Tryz.f15.ntmps an_screen_Screen_Cursor [(Kind.struct T_screen_Cursor.rep)] [(.pointer s)] w (fun s w => K s.1 w) = sh_screen_Screen_Cursor s w K := by kernel_rfl

theorem call_screen_Screen_Cursor (s : Option Addr) {w : World} {K : T_screen_Cursor → World → Prop} (h : sh_screen_Screen_Cursor s w K) : c_screen_Screen_Cursor s w K := by
  rw [← vc_screen_Screen_Cursor] at h
  refine Calls.mono (calls_of_vc C.plain_ok C.mixed Tryz.func15 rfl h) ?_
  rintro e w' ⟨s, rfl, hK⟩
  exact ⟨s.1, rfl, hK⟩

/-- phosphor/phosphorlaw17.made -/
def sh_phosphorlaw17_made (rows : Int) (cols : Int) (w : World) (K : Option Addr → World → Prop) : Prop :=
  c_screen_New (⟨rows, cols, 1, 1, 10, 0⟩ : T_api_Config) w fun t11 t11_1 w1 =>
  cond (t11_1 != (0 : Int))
    (K none w1)
    (K t11 w1)

def an_phosphorlaw17_made : List Ann := [.none, .none, .none, .none, .none, .none]

theorem vc_phosphorlaw17_made (rows : Int) (cols : Int) (w : World) (K : Option Addr → World → Prop) :
    vcFn C (Tryz.f16.body.getD .skip) Tryz.f16.results.toList Tryz.f16.ntmps an_phosphorlaw17_made [Kind.ptr] [(.int .i64 rows), (.int .i64 cols)] w (fun s w => K s.1 w) = sh_phosphorlaw17_made rows cols w K := by kernel_rfl

theorem call_phosphorlaw17_made (rows : Int) (cols : Int) {w : World} {K : Option Addr → World → Prop} (h : sh_phosphorlaw17_made rows cols w K) : c_phosphorlaw17_made rows cols w K := by
  rw [← vc_phosphorlaw17_made] at h
  refine Calls.mono (calls_of_vc C.plain_ok C.mixed Tryz.func16 rfl h) ?_
  rintro e w' ⟨s, rfl, hK⟩
  exact ⟨s.1, rfl, hK⟩

/-- (*phosphor/screen.Screen).Grid -/
def sh_screen_Screen_Grid (s : Option Addr) (w : World) (K : Option Addr → World → Prop) : Prop :=
  c_screen_Screen_g s w fun t4 w1 =>
  c_grid_Grid_Twin t4 w1 fun t5 w2 =>
  K t5 w2

def an_screen_Screen_Grid : List Ann := [.none, .none]

theorem vc_screen_Screen_Grid (s : Option Addr) (w : World) (K : Option Addr → World → Prop) :
    vcFn C (Tryz.f18.body.getD .skip) Tryz.f18.results.toList Tryz.f18.ntmps an_screen_Screen_Grid [Kind.ptr] [(.pointer s)] w (fun s w => K s.1 w) = sh_screen_Screen_Grid s w K := by kernel_rfl

theorem call_screen_Screen_Grid (s : Option Addr) {w : World} {K : Option Addr → World → Prop} (h : sh_screen_Screen_Grid s w K) : c_screen_Screen_Grid s w K := by
  rw [← vc_screen_Screen_Grid] at h
  refine Calls.mono (calls_of_vc C.plain_ok C.mixed Tryz.func18 rfl h) ?_
  rintro e w' ⟨s, rfl, hK⟩
  exact ⟨s.1, rfl, hK⟩

/-- (*phosphor/grid.Grid).Text -/
def sh_grid_Grid_Text (g : Option Addr) (w : World) (K : Slc → World → Prop) : Prop :=
  onPtr g fun t7 =>
  ldSl (t7.add 3) w fun t9 =>
  loopP (σ := Slc × Int × Unit) (fun I1 s w1 =>
    cond (decide (s.2.1 < ((t9.n : Nat) : Int)))
      (ixK t9 s.2.1 1 fun t13 =>
       ldSl t13 w1 fun t14 =>
       c_line_Line_Text t14 w1 fun t17 w2 =>
       nw ty_string [(.string t17)] w2 fun t18 w3 =>
       apK PG #[ty_sl_string, ty_sl_string] ty_sl_string s.1 (⟨(some t18), 1, 1⟩ : Slc) w3 fun t19 w4 =>
       I1 (t19, (IntKind.i64.wrap (s.2.1 + (1 : Int))), ()) w4)
      (K s.1 w1)) (⟨none, 0, 0⟩, 0, ()) w

def an_grid_Grid_Text : List Ann := [.none, .none, .none, .none, .join [(3, Kind.slice), (11, (Kind.int .i64))] [3, 5, 11, 12, 13, 14, 15, 16, 17, 18, 19, 20], .none, .none, .none, .none, .none]

theorem vc_grid_Grid_Text (g : Option Addr) (w : World) (K : Slc → World → Prop) :
    vcFn C (Tryz.f19.body.getD .skip) Tryz.f19.results.toList Tryz.f19.ntmps an_grid_Grid_Text [Kind.slice] [(.pointer g)] w (fun s w => K s.1 w) = sh_grid_Grid_Text g w K := by kernel_rfl

theorem call_grid_Grid_Text (g : Option Addr) {w : World} {K : Slc → World → Prop} (h : sh_grid_Grid_Text g w K) : c_grid_Grid_Text g w K := by
  rw [← vc_grid_Grid_Text] at h
  refine Calls.mono (calls_of_vc C.plain_ok C.mixed Tryz.func19 rfl h) ?_
  rintro e w' ⟨s, rfl, hK⟩
  exact ⟨s.1, rfl, hK⟩

/-- (*phosphor/screen.Screen).Margins -/
def sh_screen_Screen_Margins (s : Option Addr) (w : World) (K : Int → Int → World → Prop) : Prop :=
  onPtr s fun t5 =>
  ldI .i64 (t5.add 37) w.drew fun t7 =>
  onPtr s fun t9 =>
  ldI .i64 (t9.add 38) w.drew fun t11 =>
  K t7 t11 w.drew

def an_screen_Screen_Margins : List Ann := [.none, .none]

theorem vc_screen_Screen_Margins (s : Option Addr) (w : World) (K : Int → Int → World → Prop) :
    vcFn C (Tryz.f21.body.getD .skip) Tryz.f21.results.toList Tryz.f21.ntmps an_screen_Screen_Margins [(Kind.int .i64), (Kind.int .i64)] [(.pointer s)] w (fun s w => K s.1 s.2.1 w) = sh_screen_Screen_Margins s w K := by kernel_rfl

theorem call_screen_Screen_Margins (s : Option Addr) {w : World} {K : Int → Int → World → Prop} (h : sh_screen_Screen_Margins s w K) : c_screen_Screen_Margins s w K := by
  rw [← vc_screen_Screen_Margins] at h
  refine Calls.mono (calls_of_vc C.plain_ok C.mixed Tryz.func21 rfl h) ?_
  rintro e w' ⟨s, rfl, hK⟩
  exact ⟨s.1, s.2.1, rfl, hK⟩

/-- (*phosphor/grid.Grid).Back -/
def sh_grid_Grid_Back (g : Option Addr) (w : World) (K : Int → World → Prop) : Prop :=
  onPtr g fun t4 =>
  ldP (t4.add 0) w fun t6 =>
  c_ring_Ring_line_Line_Len t6 w fun t7 w1 =>
  K t7 w1

def an_grid_Grid_Back : List Ann := [.none, .none]

theorem vc_grid_Grid_Back (g : Option Addr) (w : World) (K : Int → World → Prop) :
    vcFn C (Tryz.f22.body.getD .skip) Tryz.f22.results.toList Tryz.f22.ntmps an_grid_Grid_Back [(Kind.int .i64)] [(.pointer g)] w (fun s w => K s.1 w) = sh_grid_Grid_Back g w K := by kernel_rfl

theorem call_grid_Grid_Back (g : Option Addr) {w : World} {K : Int → World → Prop} (h : sh_grid_Grid_Back g w K) : c_grid_Grid_Back g w K := by
  rw [← vc_grid_Grid_Back] at h
  refine Calls.mono (calls_of_vc C.plain_ok C.mixed Tryz.func22 rfl h) ?_
  rintro e w' ⟨s, rfl, hK⟩
  exact ⟨s.1, rfl, hK⟩

/-- (*phosphor/grid.Grid).Line -/
def sh_grid_Grid_Line (g : Option Addr) (row : Int) (w : World) (K : Slc → Bool → World → Prop) : Prop :=
  c_grid_Grid_is g row w fun t8 w1 =>
  cond (!t8)
    (K (⟨none, 0, 0⟩ : Slc) false w1)
    (onPtr g fun t11 =>
     ldSl (t11.add 3) w1 fun t13 =>
     ixK t13 row 1 fun t15 =>
     ldSl t15 w1 fun t16 =>
     c_slices_Clone_line_Line_api_Cell t16 w1 fun t17 w2 =>
     K t17 true w2)

def an_grid_Grid_Line : List Ann := [.none, .none, .none, .none, .none]

theorem vc_grid_Grid_Line (g : Option Addr) (row : Int) (w : World) (K : Slc → Bool → World → Prop) :
    vcFn C (Tryz.f23.body.getD .skip) Tryz.f23.results.toList Tryz.f23.ntmps an_grid_Grid_Line [Kind.slice, Kind.bool] [(.pointer g), (.int .i64 row)] w (fun s w => K s.1 s.2.1 w) = sh_grid_Grid_Line g row w K := by kernel_rfl

theorem call_grid_Grid_Line (g : Option Addr) (row : Int) {w : World} {K : Slc → Bool → World → Prop} (h : sh_grid_Grid_Line g row w K) : c_grid_Grid_Line g row w K := by
  rw [← vc_grid_Grid_Line] at h
  refine Calls.mono (calls_of_vc C.plain_ok C.mixed Tryz.func23 rfl h) ?_
  rintro e w' ⟨s, rfl, hK⟩
  exact ⟨s.1, s.2.1, rfl, hK⟩

/-- phosphor/screen.Check -/
def sh_screen_Check (c : T_api_Config) (w : World) (K : Int → World → Prop) : Prop :=
  nw ty_api_Config (T_api_Config.rep.cells c) w fun c_1 w1 =>
  ldI .i64 (c_1.add 0) w1 fun t4 =>
  c_screen_between t4 1 1000 w1 fun t5 w2 =>
  cond t5
    (ldI .i64 (c_1.add 1) w2 fun t8 =>
     c_screen_between t8 1 1000 w2 fun t9 w3 =>
     cond t9
       (ldI .i64 (c_1.add 2) w3 fun t13 =>
        c_screen_between t13 1 64 w3 fun t14 w4 =>
        cond t14
          (ldI .i64 (c_1.add 3) w4 fun t18 =>
           c_screen_between t18 1 64 w4 fun t19 w5 =>
           cond t19
             (ldI .i64 (c_1.add 4) w5 fun t23 =>
              c_screen_between t23 0 16384 w5 fun t24 w6 =>
              cond t24
                (ldI .i64 (c_1.add 5) w6 fun t28 =>
                 c_screen_between t28 0 1073741824 w6 fun t29 w7 =>
                 cond t29
                   (K 0 w7)
                   (K 1 w7))
                (K 1 w6))
             (K 1 w5))
          (K 1 w4))
       (K 1 w3))
    (K 1 w2)

def an_screen_Check : List Ann := [.none, .none, .none, .none, .none]

theorem vc_screen_Check (c : T_api_Config) (w : World) (K : Int → World → Prop) :
    vcFn C (Tryz.f24.body.getD .skip) Tryz.f24.results.toList Tryz.f24.ntmps an_screen_Check [(Kind.int .i64)] [(.agg #[(.int .i64 c.Rows), (.int .i64 c.Cols), (.int .i64 c.CellW), (.int .i64 c.CellH), (.int .i64 c.Back), (.int .i64 c.Quota)])] w (fun s w => K s.1 w) = sh_screen_Check c w K := by kernel_rfl

theorem call_screen_Check (c : T_api_Config) {w : World} {K : Int → World → Prop} (h : sh_screen_Check c w K) : c_screen_Check c w K := by
  rw [← vc_screen_Check] at h
  refine Calls.mono (calls_of_vc C.plain_ok C.mixed Tryz.func24 rfl h) ?_
  rintro e w' ⟨s, rfl, hK⟩
  exact ⟨s.1, rfl, hK⟩

/-- phosphor/phosphorref17.Check -/
def sh_phosphorref17_Check (c : T_api_Config) (w : World) (K : Int → World → Prop) : Prop :=
  nw ty_api_Config (T_api_Config.rep.cells c) w fun c_1 w1 =>
  ldI .i64 (c_1.add 0) w1 fun t4 =>
  c_phosphorref17_in t4 1 1000 w1 fun t5 w2 =>
  cond (!t5)
    (K 1 w2)
    (ldI .i64 (c_1.add 1) w2 fun t9 =>
     c_phosphorref17_in t9 1 1000 w2 fun t10 w3 =>
     cond (!t10)
       (K 1 w3)
       (ldI .i64 (c_1.add 2) w3 fun t15 =>
        c_phosphorref17_in t15 1 64 w3 fun t16 w4 =>
        cond (!t16)
          (K 1 w4)
          (ldI .i64 (c_1.add 3) w4 fun t21 =>
           c_phosphorref17_in t21 1 64 w4 fun t22 w5 =>
           cond (!t22)
             (K 1 w5)
             (ldI .i64 (c_1.add 4) w5 fun t27 =>
              c_phosphorref17_in t27 0 16384 w5 fun t28 w6 =>
              cond (!t28)
                (K 1 w6)
                (ldI .i64 (c_1.add 5) w6 fun t33 =>
                 c_phosphorref17_in t33 0 1073741824 w6 fun t34 w7 =>
                 cond (!t34)
                   (K 1 w7)
                   (K 0 w7))))))

def an_phosphorref17_Check : List Ann := [.none, .none, .none, .none, .none]

theorem vc_phosphorref17_Check (c : T_api_Config) (w : World) (K : Int → World → Prop) :
    vcFn C (Tryz.f25.body.getD .skip) Tryz.f25.results.toList Tryz.f25.ntmps an_phosphorref17_Check [(Kind.int .i64)] [(.agg #[(.int .i64 c.Rows), (.int .i64 c.Cols), (.int .i64 c.CellW), (.int .i64 c.CellH), (.int .i64 c.Back), (.int .i64 c.Quota)])] w (fun s w => K s.1 w) = sh_phosphorref17_Check c w K := by kernel_rfl

theorem call_phosphorref17_Check (c : T_api_Config) {w : World} {K : Int → World → Prop} (h : sh_phosphorref17_Check c w K) : c_phosphorref17_Check c w K := by
  rw [← vc_phosphorref17_Check] at h
  refine Calls.mono (calls_of_vc C.plain_ok C.mixed Tryz.func25 rfl h) ?_
  rintro e w' ⟨s, rfl, hK⟩
  exact ⟨s.1, rfl, hK⟩

/-- phosphor/phosphorref17.New -/
def sh_phosphorref17_New (c : T_api_Config) (w : World) (K : Option Addr → Int → World → Prop) : Prop :=
  nw ty_api_Config (T_api_Config.rep.cells c) w fun c_1 w1 =>
  ldS T_api_Config.rep c_1 w1 fun t5 =>
  c_phosphorref17_Check t5 w1 fun t6 w2 =>
  cond (t6 != (0 : Int))
    (K none 1 w2)
    (ldI .i64 (c_1.add 0) w2.drew fun t10 =>
       (c_phosphorref17_first  w2.drew fun t8 w3 =>
        World.cell? w3 (c_1.add 0) = some (.int .i64 t10) ∧
        nw ty_int [(.int .i64 7), (.int .i64 25)] w3 fun t11 w4 =>
        World.cell? w4 (c_1.add 0) = some (.int .i64 t10) ∧
        nw ty_phosphorref17_Screen [(.pointer none), (.pointer none), (.int .i64 0), (.int .i64 t8.Row), (.int .i64 t8.Col), (.bool t8.Wrap), (.int .i64 t8.A.Fg), (.int .i64 t8.A.Bg), (.int .i64 t8.A.Flags), (.bool t8.Origin), (.int .u8 t8.Sets.e0), (.int .u8 t8.Sets.e1), (.int .i64 t8.Shift), (.int .i64 0), (.int .i64 0), (.bool false), (.int .i64 0), (.int .i64 0), (.int .i64 0), (.bool false), (.int .u8 0), (.int .u8 0), (.int .i64 0), (.int .i64 0), (.int .i64 0), (.bool false), (.int .i64 0), (.int .i64 0), (.int .i64 0), (.bool false), (.int .u8 0), (.int .u8 0), (.int .i64 0), (.bool false), (.bool false), (.bool false), (.bool false), (.slice (some t11) 2 2), (.int .i64 0), (.int .i64 t10), (.pointer none), (.int .i64 (-1)), (.slice none 0 0)] w4 fun t13 w5 =>
        ldI .i64 (c_1.add 0) w5.drew fun t17 =>
        ldI .i64 (c_1.add 1) w5.drew fun t19 =>
        ldI .i64 (c_1.add 4) w5.drew fun t21 =>
        c_phosphorref16_New t17 t19 t21 w5.drew fun t22 t22_1 w6 =>
        ixA (t13.add 0) 2 0 1 fun t27 =>
        stK t27 [(.pointer t22)] w6 fun w7 =>
        ldI .i64 (c_1.add 0) w7.drew fun t31 =>
        ldI .i64 (c_1.add 1) w7.drew fun t33 =>
        c_phosphorref16_New t31 t33 0 w7.drew fun t34 t34_1 w8 =>
        ixA (t13.add 0) 2 1 1 fun t39 =>
        stK t39 [(.pointer t34)] w8 fun w9 =>
        ldI .i64 (c_1.add 1) w9 fun t43 =>
        c_phosphorref15_New t43 w9 fun t44 t44_1 w10 =>
        stK (t13.add 40) [(.pointer t44)] w10 fun w11 =>
        K (some t13) 0 w11) ∧
     nw ty_int [(.int .i64 7), (.int .i64 25)] w2.drew fun t11_1 w12 =>
     World.cell? w12 (c_1.add 0) = some (.int .i64 t10) ∧
     c_phosphorref17_first  w12 fun t8_1 w13 =>
     World.cell? w13 (c_1.add 0) = some (.int .i64 t10) ∧
     nw ty_phosphorref17_Screen [(.pointer none), (.pointer none), (.int .i64 0), (.int .i64 t8_1.Row), (.int .i64 t8_1.Col), (.bool t8_1.Wrap), (.int .i64 t8_1.A.Fg), (.int .i64 t8_1.A.Bg), (.int .i64 t8_1.A.Flags), (.bool t8_1.Origin), (.int .u8 t8_1.Sets.e0), (.int .u8 t8_1.Sets.e1), (.int .i64 t8_1.Shift), (.int .i64 0), (.int .i64 0), (.bool false), (.int .i64 0), (.int .i64 0), (.int .i64 0), (.bool false), (.int .u8 0), (.int .u8 0), (.int .i64 0), (.int .i64 0), (.int .i64 0), (.bool false), (.int .i64 0), (.int .i64 0), (.int .i64 0), (.bool false), (.int .u8 0), (.int .u8 0), (.int .i64 0), (.bool false), (.bool false), (.bool false), (.bool false), (.slice (some t11_1) 2 2), (.int .i64 0), (.int .i64 t10), (.pointer none), (.int .i64 (-1)), (.slice none 0 0)] w13 fun t13_1 w14 =>
     ldI .i64 (c_1.add 0) w14.drew fun t17_1 =>
     ldI .i64 (c_1.add 1) w14.drew fun t19_1 =>
     ldI .i64 (c_1.add 4) w14.drew fun t21_1 =>
     c_phosphorref16_New t17_1 t19_1 t21_1 w14.drew fun t22_2 t22_3 w15 =>
     ixA (t13_1.add 0) 2 0 1 fun t27_1 =>
     stK t27_1 [(.pointer t22_2)] w15 fun w16 =>
     ldI .i64 (c_1.add 0) w16.drew fun t31_1 =>
     ldI .i64 (c_1.add 1) w16.drew fun t33_1 =>
     c_phosphorref16_New t31_1 t33_1 0 w16.drew fun t34_2 t34_3 w17 =>
     ixA (t13_1.add 0) 2 1 1 fun t39_1 =>
     stK t39_1 [(.pointer t34_2)] w17 fun w18 =>
     ldI .i64 (c_1.add 1) w18 fun t43_1 =>
     c_phosphorref15_New t43_1 w18 fun t44_2 t44_3 w19 =>
     stK (t13_1.add 40) [(.pointer t44_2)] w19 fun w20 =>
     K (some t13_1) 0 w20)

def an_phosphorref17_New : List Ann := [.none, .none, .none, .none, .none, .none, .none, .none, .none]

theorem vc_phosphorref17_New (c : T_api_Config) (w : World) (K : Option Addr → Int → World → Prop) :
    vcFn C (Tryz.f26.body.getD .skip) Tryz.f26.results.toList Tryz.f26.ntmps an_phosphorref17_New [Kind.ptr, (Kind.int .i64)] [(.agg #[(.int .i64 c.Rows), (.int .i64 c.Cols), (.int .i64 c.CellW), (.int .i64 c.CellH), (.int .i64 c.Back), (.int .i64 c.Quota)])] w (fun s w => K s.1 s.2.1 w) = sh_phosphorref17_New c w K := by kernel_rfl

theorem call_phosphorref17_New (c : T_api_Config) {w : World} {K : Option Addr → Int → World → Prop} (h : sh_phosphorref17_New c w K) : c_phosphorref17_New c w K := by
  rw [← vc_phosphorref17_New] at h
  refine Calls.mono (calls_of_vc C.plain_ok C.mixed Tryz.func26 rfl h) ?_
  rintro e w' ⟨s, rfl, hK⟩
  exact ⟨s.1, s.2.1, rfl, hK⟩

/-- phosphor/phosphorlaw17.Looks -/
def sh_phosphorlaw17_Looks (s : Option Addr) (r : Option Addr) (w : World) (K : Bool → World → Prop) : Prop :=
  c_screen_Screen_Grid s w fun t23 w1 =>
  onPtr r fun t26 =>
  ldI .i64 (t26.add 2) w1.drew fun t28 =>
  onPtr r fun t29 =>
  ixA (t29.add 0) 2 t28 1 fun t31 =>
  ldP t31 w1.drew fun t32 =>
  joinP (σ := Unit) (fun s_1 w2 =>
    c_grid_Grid_Size t23 w2 fun t57 t57_1 w3 =>
    joinP (σ := Unit) (fun s_2 w4 =>
      loopP (σ := Int × Unit) (fun I3 s_3 w5 =>
        cond (decide (s_3.1 < t57))
          (c_grid_Grid_Line t23 s_3.1 w5 fun t101 t101_1 w6 =>
           cond (!t101_1)
             (K false w6)
             (onPtr t32 fun t109 =>
              ldSl (t109.add 3) w6 fun t111 =>
              ixK t111 s_3.1 1 fun t113 =>
              ldSl t113 w6 fun t114 =>
              c_phosphorref13_Same t101 t114 w6 fun t115 w7 =>
              cond (!t115)
                (K false w7)
                (I3 ((IntKind.i64.wrap (s_3.1 + (1 : Int))), ()) w7)))
          (loopP (σ := Int × Unit) (fun I4 s_4 w8 =>
             onPtr t32 fun t120 =>
             ldSl (t120.add 4) w8 fun t122 =>
             cond (decide (s_4.1 < ((t122.n : Nat) : Int)))
               (c_grid_Grid_Old t23 s_4.1 w8 fun t130 t130_1 w9 =>
                cond (!t130_1)
                  (K false w9)
                  (onPtr t32 fun t138 =>
                   ldSl (t138.add 4) w9 fun t140 =>
                   ixK t140 s_4.1 1 fun t142 =>
                   ldSl t142 w9 fun t143 =>
                   c_phosphorref13_Same t130 t143 w9 fun t144 w10 =>
                   cond (!t144)
                     (K false w10)
                     (I4 ((IntKind.i64.wrap (s_4.1 + (1 : Int))), ()) w10)))
               (c_screen_Screen_Margins s w8 fun t149 t149_1 w11 =>
                c_screen_Screen_Firsts s w11 fun t154 t154_1 w12 =>
                joinP (σ := Unit) (fun s_5 w13 =>
                  c_screen_Screen_Tabs s w13 fun t206 w14 =>
                  onPtr r fun t208 =>
                  ldP (t208.add 40) w14 fun t210 =>
                  c_phosphorref15_Stops_All t210 w14 fun t211 w15 =>
                  cond (((t206.n : Nat) : Int) != ((t211.n : Nat) : Int))
                    (K false w15)
                    (loopP (σ := Int × Unit) (fun I6 s_6 w16 =>
                       cond (decide (s_6.1 < ((t206.n : Nat) : Int)))
                         (ixK t206 s_6.1 1 fun t225 =>
                          ldI .i64 t225 w16.drew fun t226 =>
                          ixK t211 s_6.1 1 fun t229 =>
                          ldI .i64 t229 w16.drew fun t230 =>
                          cond (t226 != t230)
                            (K false w16.drew)
                            (I6 ((IntKind.i64.wrap (s_6.1 + (1 : Int))), ()) w16.drew))
                         (c_phosphorlaw17_modes s r w16 fun t234 w17 =>
                          K t234 w17)) (0, ()) w15)) fun J5 =>
                onPtr r fun t159 =>
                ldI .i64 (t159.add 38) w12.drew fun t161 =>
                cond (t149 != t161)
                  (K false w12.drew)
                  (onPtr r fun t166 =>
                   ldI .i64 (t166.add 39) w12.drew fun t168 =>
                   cond (t149_1 != t168)
                     (K false w12.drew)
                     (onPtr r fun t174 =>
                      ixA (t174.add 0) 2 0 1 fun t176 =>
                      ldP t176 w12.drew fun t177 =>
                      onPtr t177 fun t178 =>
                      ldI .i64 (t178.add 5) w12.drew fun t180 =>
                      onPtr r fun t182 =>
                      ixA (t182.add 0) 2 0 1 fun t184 =>
                      ldP t184 w12.drew fun t185 =>
                      onPtr t185 fun t186 =>
                      ldSl (t186.add 4) w12.drew fun t188 =>
                      cond (t154 != (IntKind.i64.wrap (t180 - ((t188.n : Nat) : Int))))
                        (K false w12.drew)
                        (onPtr r fun t196 =>
                         ixA (t196.add 0) 2 1 1 fun t198 =>
                         ldP t198 w12.drew fun t199 =>
                         onPtr t199 fun t200 =>
                         ldI .i64 (t200.add 5) w12.drew fun t202 =>
                         cond (t154_1 != t202)
                           (K false w12.drew)
                           (J5 (()) w12.drew)))))) (0, ()) w5)) (0, ()) w4) fun J2 =>
    onPtr t32 fun t62 =>
    ldI .i64 (t62.add 0) w3.drew fun t64 =>
    cond (t57 != t64)
      (K false w3.drew)
      (onPtr t32 fun t69 =>
       ldI .i64 (t69.add 1) w3.drew fun t71 =>
       cond (t57_1 != t71)
         (K false w3.drew)
         (onPtr t32 fun t78 =>
          ldI .i64 (t78.add 5) w3.drew fun t80 =>
          c_grid_Grid_Top t23 w3.drew fun t76 w18 =>
          World.cell? w18 (t78.add 5) = some (.int .i64 t80) ∧
          cond (t76 != t80)
            (K false w18)
            (onPtr t32 fun t87 =>
             ldSl (t87.add 4) w18 fun t89 =>
             c_grid_Grid_Back t23 w18 fun t85 w19 =>
             World.cell? w19 (t87.add 4) = some (.slice t89.a t89.n t89.c) ∧
             cond (t85 != ((t89.n : Nat) : Int))
               (K false w19)
               (J2 (()) w19))))) fun J1 =>
  cond (t23.isNone)
    (K false w1.drew.drew)
    (onPtr r fun t39 =>
     ldS T_screen_Cursor.rep (t39.add 3) w1.drew.drew fun t41 =>
     c_screen_Screen_Cursor s w1.drew.drew fun t37 w20 =>
     cellsAt w20 (t39.add 3) (T_screen_Cursor.rep.cells t41) ∧
     c_phosphorlaw17_cursor t37 t41 w20 fun t42 w21 =>
     cond (!t42)
       (K false w21)
       (onPtr r fun t49 =>
        ldI .i64 (t49.add 2) w21 fun t51 =>
        c_screen_Screen_Alt s w21 fun t47 w22 =>
        World.cell? w22 (t49.add 2) = some (.int .i64 t51) ∧
        cond (!(t47 == (t51 == (1 : Int))))
          (K false w22)
          (J1 (()) w22)))

def an_phosphorlaw17_Looks : List Ann := [.none, .none, .none, .join [] [4, 33, 34, 35, 36, 37, 38, 39, 40, 41, 42, 43, 44, 45, 46, 47, 48, 49, 50, 51, 52, 53, 54], .none, .none, .none, .join [] [4, 60, 61, 62, 63, 64, 65, 66, 67, 68, 69, 70, 71, 72, 73, 74, 75, 76, 77, 78, 79, 80, 81, 82, 83, 84, 85, 86, 87, 88, 89, 90, 91, 92], .none, .none, .none, .none, .join [(9, (Kind.int .i64))] [4, 9, 10, 11, 93, 94, 95, 96, 97, 98, 99, 100, 101, 102, 103, 104, 105, 106, 107, 108, 109, 110, 111, 112, 113, 114, 115, 116, 117], .none, .none, .none, .none, .none, .none, .none, .none, .join [(12, (Kind.int .i64))] [4, 12, 13, 14, 118, 119, 120, 121, 122, 123, 124, 125, 126, 127, 128, 129, 130, 131, 132, 133, 134, 135, 136, 137, 138, 139, 140, 141, 142, 143, 144, 145, 146], .none, .none, .none, .none, .none, .none, .none, .none, .join [] [4, 157, 158, 159, 160, 161, 162, 163, 164, 165, 166, 167, 168, 169, 170, 171, 172, 173, 174, 175, 176, 177, 178, 179, 180, 181, 182, 183, 184, 185, 186, 187, 188, 189, 190, 191, 192, 193, 194, 195, 196, 197, 198, 199, 200, 201, 202, 203, 204], .none, .none, .none, .none, .none, .none, .none, .none, .none, .join [(21, (Kind.int .i64))] [4, 21, 217, 218, 219, 220, 221, 222, 223, 224, 225, 226, 227, 228, 229, 230, 231], .none, .none, .none, .none, .none, .none]

theorem vc_phosphorlaw17_Looks (s : Option Addr) (r : Option Addr) (w : World) (K : Bool → World → Prop) :
    vcFn C (Tryz.f27.body.getD .skip) Tryz.f27.results.toList Tryz.f27.ntmps an_phosphorlaw17_Looks [Kind.bool] [(.pointer s), (.pointer r)] w (fun s w => K s.1 w) = sh_phosphorlaw17_Looks s r w K := by kernel_rfl

theorem call_phosphorlaw17_Looks (s : Option Addr) (r : Option Addr) {w : World} {K : Bool → World → Prop} (h : sh_phosphorlaw17_Looks s r w K) : c_phosphorlaw17_Looks s r w K := by
  rw [← vc_phosphorlaw17_Looks] at h
  refine Calls.mono (calls_of_vc C.plain_ok C.mixed Tryz.func27 rfl h) ?_
  rintro e w' ⟨s, rfl, hK⟩
  exact ⟨s.1, rfl, hK⟩

/-- (*phosphor/screen.Screen).Erased -/
def sh_screen_Screen_Erased (s : Option Addr) (w : World) (K : Slc → World → Prop) : Prop :=
  onPtr s fun t5 =>
  ldSl (t5.add 41) w fun t7 =>
  onPtr s fun t9 =>
  stK (t9.add 41) [(.slice none 0 0)] w fun w1 =>
  K t7 w1

def an_screen_Screen_Erased : List Ann := [.none, .none, .none, .none]

theorem vc_screen_Screen_Erased (s : Option Addr) (w : World) (K : Slc → World → Prop) :
    vcFn C (Tryz.f28.body.getD .skip) Tryz.f28.results.toList Tryz.f28.ntmps an_screen_Screen_Erased [Kind.slice] [(.pointer s)] w (fun s w => K s.1 w) = sh_screen_Screen_Erased s w K := by kernel_rfl

theorem call_screen_Screen_Erased (s : Option Addr) {w : World} {K : Slc → World → Prop} (h : sh_screen_Screen_Erased s w K) : c_screen_Screen_Erased s w K := by
  rw [← vc_screen_Screen_Erased] at h
  refine Calls.mono (calls_of_vc C.plain_ok C.mixed Tryz.func28 rfl h) ?_
  rintro e w' ⟨s, rfl, hK⟩
  exact ⟨s.1, rfl, hK⟩

/-- (*phosphor/grid.Grid).Size -/
def sh_grid_Grid_Size (g : Option Addr) (w : World) (K : Int → Int → World → Prop) : Prop :=
  onPtr g fun t5 =>
  ldI .i64 (t5.add 1) w.drew fun t7 =>
  onPtr g fun t9 =>
  ldI .i64 (t9.add 2) w.drew fun t11 =>
  K t7 t11 w.drew

def an_grid_Grid_Size : List Ann := [.none, .none]

theorem vc_grid_Grid_Size (g : Option Addr) (w : World) (K : Int → Int → World → Prop) :
    vcFn C (Tryz.f31.body.getD .skip) Tryz.f31.results.toList Tryz.f31.ntmps an_grid_Grid_Size [(Kind.int .i64), (Kind.int .i64)] [(.pointer g)] w (fun s w => K s.1 s.2.1 w) = sh_grid_Grid_Size g w K := by kernel_rfl

theorem call_grid_Grid_Size (g : Option Addr) {w : World} {K : Int → Int → World → Prop} (h : sh_grid_Grid_Size g w K) : c_grid_Grid_Size g w K := by
  rw [← vc_grid_Grid_Size] at h
  refine Calls.mono (calls_of_vc C.plain_ok C.mixed Tryz.func31 rfl h) ?_
  rintro e w' ⟨s, rfl, hK⟩
  exact ⟨s.1, s.2.1, rfl, hK⟩

/-- phosphor/grid.New -/
def sh_grid_New (rows : Int) (cols : Int) (back : Int) (w : World) (K : Option Addr → Int → World → Prop) : Prop :=
  joinP (σ := Unit) (fun s w1 =>
    c_ring_New_line_Line back w1 fun t29 t29_1 w2 =>
    nw ty_grid_Grid [(.pointer t29), (.int .i64 rows), (.int .i64 cols), (.slice none 0 0), (.int .i64 0)] w2 fun t36 w3 =>
    c_grid_Grid_Clear (some t36) (⟨0, 0, 0⟩ : T_api_Attr) w3 fun w4 =>
    K (some t36) 0 w4) fun J1 =>
  c_grid_size rows w fun t12 w5 =>
  cond (!t12)
    (K none 1 w5)
    (c_grid_size cols w5 fun t16 w6 =>
     cond (!t16)
       (K none 1 w6)
       (cond (decide (back < (0 : Int)))
          (K none 1 w6)
          (cond (decide (back > (16384 : Int)))
             (K none 1 w6)
             (J1 (()) w6))))

def an_grid_New : List Ann := [.none, .join [] [6, 7, 11, 12, 13, 14, 15, 16, 17, 18, 19, 20, 21, 22, 23, 24, 25, 26], .none, .none, .none, .none, .none, .none]

theorem vc_grid_New (rows : Int) (cols : Int) (back : Int) (w : World) (K : Option Addr → Int → World → Prop) :
    vcFn C (Tryz.f33.body.getD .skip) Tryz.f33.results.toList Tryz.f33.ntmps an_grid_New [Kind.ptr, (Kind.int .i64)] [(.int .i64 rows), (.int .i64 cols), (.int .i64 back)] w (fun s w => K s.1 s.2.1 w) = sh_grid_New rows cols back w K := by kernel_rfl

theorem call_grid_New (rows : Int) (cols : Int) (back : Int) {w : World} {K : Option Addr → Int → World → Prop} (h : sh_grid_New rows cols back w K) : c_grid_New rows cols back w K := by
  rw [← vc_grid_New] at h
  refine Calls.mono (calls_of_vc C.plain_ok C.mixed Tryz.func33 rfl h) ?_
  rintro e w' ⟨s, rfl, hK⟩
  exact ⟨s.1, s.2.1, rfl, hK⟩

/-- (*phosphor/screen.Screen).fresh -/
def sh_screen_Screen_fresh (s : Option Addr) (w : World) (K : World → Prop) : Prop :=
  onPtr s fun t5 =>
  stK (t5.add 2) [(.int .i64 0)] w fun w1 =>
  c_screen_Screen_size s w1 fun t9 t9_1 w2 =>
  c_tabs_New t9_1 w2 fun t15 t15_1 w3 =>
  onPtr s fun t18 =>
  stK (t18.add 39) [(.pointer t15)] w3 fun w4 =>
  c_screen_first  w4 fun t23 w5 =>
  onPtr s fun t25 =>
  stK (t25.add 3) (T_screen_Cursor.rep.cells t23) w5 fun w6 =>
  onPtr s fun t27 =>
  stK (t27.add 13) [(.int .i64 0), (.int .i64 0), (.bool false), (.int .i64 0), (.int .i64 0), (.int .i64 0), (.bool false), (.int .u8 0), (.int .u8 0), (.int .i64 0), (.bool false), (.int .i64 0), (.int .i64 0), (.bool false), (.int .i64 0), (.int .i64 0), (.int .i64 0), (.bool false), (.int .u8 0), (.int .u8 0), (.int .i64 0), (.bool false)] w6 fun w7 =>
  onPtr s fun t29 =>
  stK (t29.add 40) [(.int .i32 (-1))] w7 fun w8 =>
  onPtr s fun t34 =>
  stK (t34.add 37) [(.int .i64 0)] w8 fun w9 =>
  onPtr s fun t36 =>
  stK (t36.add 38) [(.int .i64 t9)] w9 fun w10 =>
  c_screen_Screen_plain s w10 fun w11 =>
  K w11

def an_screen_Screen_fresh : List Ann := [.none, .none, .none, .none, .none]

theorem vc_screen_Screen_fresh (s : Option Addr) (w : World) (K : World → Prop) :
    vcFn C (Tryz.f34.body.getD .skip) Tryz.f34.results.toList Tryz.f34.ntmps an_screen_Screen_fresh [] [(.pointer s)] w (fun s w => K w) = sh_screen_Screen_fresh s w K := by kernel_rfl

theorem call_screen_Screen_fresh (s : Option Addr) {w : World} {K : World → Prop} (h : sh_screen_Screen_fresh s w K) : c_screen_Screen_fresh s w K := by
  rw [← vc_screen_Screen_fresh] at h
  refine Calls.mono (calls_of_vc C.plain_ok C.mixed Tryz.func34 rfl h) ?_
  rintro e w' ⟨s, rfl, hK⟩
  exact ⟨rfl, hK⟩

/-- (*phosphor/screen.Screen).print -/
def sh_screen_Screen_print (s : Option Addr) (r : Int) (w : World) (K : World → Prop) : Prop :=
  joinP (σ := Bool × Unit) (fun s_1 w1 =>
    cond s_1.1
      (onPtr s fun t12 =>
       ldI .i64 ((t12.add 3).add 9) w1.drew fun t15 =>
       onPtr s fun t16 =>
       ixA ((t16.add 3).add 7) 2 t15 1 fun t19 =>
       ldI .u8 t19 w1.drew fun t20 =>
       c_utf_Graphic t20 (IntKind.u8.wrap r) w1.drew fun t23 w2 =>
       c_screen_Screen_lay s t23 w2 fun w3 =>
       K w3)
      (c_screen_Screen_lay s r w1 fun w4 =>
       K w4)) fun J1 =>
  cond (decide (r ≥ (0 : Int)))
    (J1 ((decide (r < (128 : Int))), ()) w)
    (J1 (false, ()) w)

def an_screen_Screen_print : List Ann := [.none, .join [(9, Kind.bool)] [4, 5, 6, 7, 8, 9]]

theorem vc_screen_Screen_print (s : Option Addr) (r : Int) (w : World) (K : World → Prop) :
    vcFn C (Tryz.f35.body.getD .skip) Tryz.f35.results.toList Tryz.f35.ntmps an_screen_Screen_print [] [(.pointer s), (.int .i32 r)] w (fun s w => K w) = sh_screen_Screen_print s r w K := by kernel_rfl

theorem call_screen_Screen_print (s : Option Addr) (r : Int) {w : World} {K : World → Prop} (h : sh_screen_Screen_print s r w K) : c_screen_Screen_print s r w K := by
  rw [← vc_screen_Screen_print] at h
  refine Calls.mono (calls_of_vc C.plain_ok C.mixed Tryz.func35 rfl h) ?_
  rintro e w' ⟨s, rfl, hK⟩
  exact ⟨rfl, hK⟩

/-- (*phosphor/screen.Screen).control -/
def sh_screen_Screen_control (s : Option Addr) (c : Int) (w : World) (K : World → Prop) : Prop :=
  joinP (σ := Unit) (fun s_1 w1 =>
    onPtr s fun t58 =>
    ldI .i64 ((t58.add 3).add 0) w1 fun t61 =>
    c_screen_Screen_to s t61 0 w1 fun w2 =>
    K w2) fun J1 =>
  cond (c == (8 : Int))
    (onPtr s fun t20 =>
     ldI .i64 ((t20.add 3).add 0) w.drew fun t23 =>
     onPtr s fun t25 =>
     ldI .i64 ((t25.add 3).add 1) w.drew fun t28 =>
     c_screen_Screen_to s t23 (IntKind.i64.wrap (t28 - (1 : Int))) w.drew fun w3 =>
     K w3)
    (cond (c == (9 : Int))
       (onPtr s fun t33 =>
        ldI .i64 ((t33.add 3).add 0) w.drew fun t36 =>
        onPtr s fun t38 =>
        ldP (t38.add 39) w.drew fun t40 =>
        onPtr s fun t42 =>
        ldI .i64 ((t42.add 3).add 1) w.drew fun t45 =>
        c_tabs_Stops_Next t40 t45 1 w.drew fun t46 w4 =>
        World.cell? w4 ((t33.add 3).add 0) = some (.int .i64 t36) ∧
        c_screen_Screen_to s t36 t46 w4 fun w5 =>
        K w5)
       (joinP (σ := Unit) (fun s_2 w6 =>
          cond (c == (13 : Int))
            (J1 (()) w6)
            (cond (c == (14 : Int))
               (cond (c == (14 : Int))
                  (onPtr s fun t67 =>
                   stK ((t67.add 3).add 9) [(.int .i64 (IntKind.i64.wrap (IntKind.u8.wrap ((15 : Int) - c))))] w6 fun w7 =>
                   K w7)
                  (K w6))
               (cond (c == (15 : Int))
                  (onPtr s fun t67_1 =>
                   stK ((t67_1.add 3).add 9) [(.int .i64 (IntKind.i64.wrap (IntKind.u8.wrap ((15 : Int) - c))))] w6 fun w8 =>
                   K w8)
                  (K w6)))) fun J2 =>
        cond (c == (10 : Int))
          (cond (c == (10 : Int))
             (c_screen_Screen_index s w fun w9 =>
              onPtr s fun t51 =>
              ldM (t51.add 35) w9 fun t53 =>
              runK1 PG (Instr.lookup ty_map_int_bool (.map t53) (.int .i64 20) false) Kind.bool w9 fun (t54 : Bool) w10 =>
              cond (!t54)
                (K w10)
                (J1 (()) w10))
             (J2 (()) w))
          (cond (c == (11 : Int))
             (cond (c == (11 : Int))
                (c_screen_Screen_index s w fun w11 =>
                 onPtr s fun t51_1 =>
                 ldM (t51_1.add 35) w11 fun t53_1 =>
                 runK1 PG (Instr.lookup ty_map_int_bool (.map t53_1) (.int .i64 20) false) Kind.bool w11 fun (t54_1 : Bool) w12 =>
                 cond (!t54_1)
                   (K w12)
                   (J1 (()) w12))
                (J2 (()) w))
             (cond (c == (12 : Int))
                (c_screen_Screen_index s w fun w13 =>
                 onPtr s fun t51_2 =>
                 ldM (t51_2.add 35) w13 fun t53_2 =>
                 runK1 PG (Instr.lookup ty_map_int_bool (.map t53_2) (.int .i64 20) false) Kind.bool w13 fun (t54_2 : Bool) w14 =>
                 cond (!t54_2)
                   (K w14)
                   (J1 (()) w14))
                (J2 (()) w)))))

def an_screen_Screen_control : List Ann := [.none, .none, .join [] [5, 6, 7, 8, 9, 10, 11, 12, 13, 14, 15, 16, 17, 18, 19, 20, 21, 22, 23, 24, 25, 26, 27, 28, 29, 30, 31, 32, 33, 34, 35, 36, 37, 38, 39, 40, 41, 42, 43, 44, 45, 46, 47, 48, 49, 50, 51, 52, 53, 54, 55], .none, .none, .none, .none, .none, .none, .none, .none, .join [] [9, 10, 11, 12], .none, .none, .none, .none, .none, .none, .none, .none, .none, .none, .none, .none, .none]

theorem vc_screen_Screen_control (s : Option Addr) (c : Int) (w : World) (K : World → Prop) :
    vcFn C (Tryz.f36.body.getD .skip) Tryz.f36.results.toList Tryz.f36.ntmps an_screen_Screen_control [] [(.pointer s), (.int .u8 c)] w (fun s w => K w) = sh_screen_Screen_control s c w K := by kernel_rfl

theorem call_screen_Screen_control (s : Option Addr) (c : Int) {w : World} {K : World → Prop} (h : sh_screen_Screen_control s c w K) : c_screen_Screen_control s c w K := by
  rw [← vc_screen_Screen_control] at h
  refine Calls.mono (calls_of_vc C.plain_ok C.mixed Tryz.func36 rfl h) ?_
  rintro e w' ⟨s, rfl, hK⟩
  exact ⟨rfl, hK⟩

/-- (*phosphor/screen.Screen).escape -/
def sh_screen_Screen_escape (s : Option Addr) (inter : ByteArray) (c : Int) (w : World) (K : World → Prop) : Prop :=
  joinP (σ := Bool × Unit) (fun s_1 w1 =>
    cond s_1.1
      (joinP (σ := Bool × Unit) (fun s_2 w2 =>
         cond s_2.1
           (ixS inter 0 fun t18 =>
            onPtr s fun t21 =>
            ixA ((t21.add 3).add 7) 2 (IntKind.u8.wrap (t18 - (40 : Int))) 1 fun t24 =>
            stK t24 [(.int .u8 c)] w2.drew fun w3 =>
            K w3)
           (K w2)) fun J2 =>
       cond (c == (48 : Int))
         (J2 (true, ()) w1)
         (J2 ((c == (66 : Int)), ()) w1))
      (cond (inter.toList == (⟨#[35]⟩ : ByteArray).toList)
         (cond (c == (56 : Int))
            (c_screen_Screen_full s w1 fun w4 =>
             K w4)
            (K w1))
         (cond (inter.toList == (⟨#[]⟩ : ByteArray).toList)
            (c_screen_Screen_single s c w1 fun w5 =>
             K w5)
            (K w1)))) fun J1 =>
  cond (inter.toList == (⟨#[40]⟩ : ByteArray).toList)
    (J1 ((inter.toList == (⟨#[40]⟩ : ByteArray).toList), ()) w)
    (J1 ((inter.toList == (⟨#[41]⟩ : ByteArray).toList), ()) w)

def an_screen_Screen_escape : List Ann := [.none, .join [(7, Kind.bool)] [7, 8, 9], .none, .join [(15, Kind.bool)] [10, 11, 12, 13, 14, 15], .none, .none, .none]

theorem vc_screen_Screen_escape (s : Option Addr) (inter : ByteArray) (c : Int) (w : World) (K : World → Prop) :
    vcFn C (Tryz.f37.body.getD .skip) Tryz.f37.results.toList Tryz.f37.ntmps an_screen_Screen_escape [] [(.pointer s), (.string inter), (.int .u8 c)] w (fun s w => K w) = sh_screen_Screen_escape s inter c w K := by kernel_rfl

theorem call_screen_Screen_escape (s : Option Addr) (inter : ByteArray) (c : Int) {w : World} {K : World → Prop} (h : sh_screen_Screen_escape s inter c w K) : c_screen_Screen_escape s inter c w K := by
  rw [← vc_screen_Screen_escape] at h
  refine Calls.mono (calls_of_vc C.plain_ok C.mixed Tryz.func37 rfl h) ?_
  rintro e w' ⟨s, rfl, hK⟩
  exact ⟨rfl, hK⟩

/-- (*phosphor/screen.Screen).sequence -/
def sh_screen_Screen_sequence (s : Option Addr) (e : T_parse_Event) (w : World) (K : Slc → World → Prop) : Prop :=
  nw ty_parse_Event (T_parse_Event.rep.cells e) w fun e_1 w1 =>
  ldSl (e_1.add 5) w1.drew fun t10 =>
  ldSl (e_1.add 5) w1.drew fun t12 =>
  c_screen_param t12 0 0 w1.drew fun t13 w2 =>
  World.cell? w2 (e_1.add 5) = some (.slice t10.a t10.n t10.c) ∧
  joinP (σ := Unit) (fun s_1 w3 =>
    joinP (σ := Unit) (fun s_2 w4 =>
      ldI .u8 (e_1.add 2) w4 fun t82 =>
      c_screen_Screen_bare s t10 t82 w4 fun t83 w5 =>
      K t83 w5) fun J2 =>
    ldI .u8 (e_1.add 3) w3 fun t72 =>
    cond (t72 != (0 : Int))
      (K (⟨none, 0, 0⟩ : Slc) w3)
      (ldStr (e_1.add 4) w3 fun t76 =>
       cond (!(t76.toList == (⟨#[]⟩ : ByteArray).toList))
         (K (⟨none, 0, 0⟩ : Slc) w3)
         (J2 (()) w3))) fun J1 =>
  ldI .u8 (e_1.add 3) w2 fun t15 =>
  runK1 PG (convert ty_uint8 ty_string (.int .u8 t15)) Kind.string w2 fun (t16 : ByteArray) w6 =>
  ldStr (e_1.add 4) w6 fun t18 =>
  (((t16.size + t18.size : Nat) : Int) ≤ 9223372036854775807) ∧
  ldI .u8 (e_1.add 2) w6 fun t21 =>
  runK1 PG (convert ty_uint8 ty_string (.int .u8 t21)) Kind.string w6 fun (t22 : ByteArray) w7 =>
  ((((t16 ++ t18).size + t22.size : Nat) : Int) ≤ 9223372036854775807) ∧
  cond (((t16 ++ t18) ++ t22).toList == (⟨#[0, 33, 112]⟩ : ByteArray).toList)
    (c_screen_Screen_soft s w7 fun w8 =>
     J1 (()) w8)
    (joinP (σ := Bool × Unit) (fun s_3 w9 =>
       cond s_3.1
         (loopP (σ := Int × Unit) (fun I4 s_4 w10 =>
            cond (decide (s_4.1 < ((t10.n : Nat) : Int)))
              (ixK t10 s_4.1 1 fun t35 =>
               ldI .i64 t35 w10 fun t36 =>
               ldI .u8 (e_1.add 2) w10 fun t40 =>
               c_screen_Screen_turn s t36 (t40 == (104 : Int)) w10 fun w11 =>
               I4 ((IntKind.i64.wrap (s_4.1 + (1 : Int))), ()) w11)
              (J1 (()) w10)) (0, ()) w9)
         (cond (((t16 ++ t18) ++ t22).toList == (⟨#[63, 110]⟩ : ByteArray).toList)
            (cond (t13 == (6 : Int))
               (c_screen_Screen_place s w9 fun t49 w12 =>
                ((((⟨#[63]⟩ : ByteArray).size + t49.size : Nat) : Int) ≤ 9223372036854775807) ∧
                (((((⟨#[63]⟩ : ByteArray) ++ t49).size + (⟨#[82]⟩ : ByteArray).size : Nat) : Int) ≤ 9223372036854775807) ∧
                c_screen_reply (((⟨#[63]⟩ : ByteArray) ++ t49) ++ (⟨#[82]⟩ : ByteArray)) w12 fun t52 w13 =>
                K t52 w13)
               (J1 (()) w9))
            (cond (((t16 ++ t18) ++ t22).toList == (⟨#[62, 99]⟩ : ByteArray).toList)
               (cond (t13 == (0 : Int))
                  (c_screen_reply (⟨#[62, 49, 59, 49, 59, 48, 99]⟩ : ByteArray) w9 fun t57 w14 =>
                   K t57 w14)
                  (J1 (()) w9))
               (cond (((t16 ++ t18) ++ t22).toList == (⟨#[63, 36, 112]⟩ : ByteArray).toList)
                  (c_strconv_Itoa t13 w9 fun t61 w15 =>
                   ((((⟨#[63]⟩ : ByteArray).size + t61.size : Nat) : Int) ≤ 9223372036854775807) ∧
                   (((((⟨#[63]⟩ : ByteArray) ++ t61).size + (⟨#[59]⟩ : ByteArray).size : Nat) : Int) ≤ 9223372036854775807) ∧
                   c_screen_Screen_state s t13 w15 fun t66 w16 =>
                   c_strconv_Itoa t66 w16 fun t67 w17 =>
                   ((((((⟨#[63]⟩ : ByteArray) ++ t61) ++ (⟨#[59]⟩ : ByteArray)).size + t67.size : Nat) : Int) ≤ 9223372036854775807) ∧
                   (((((((⟨#[63]⟩ : ByteArray) ++ t61) ++ (⟨#[59]⟩ : ByteArray)) ++ t67).size + (⟨#[36, 121]⟩ : ByteArray).size : Nat) : Int) ≤ 9223372036854775807) ∧
                   c_screen_reply (((((⟨#[63]⟩ : ByteArray) ++ t61) ++ (⟨#[59]⟩ : ByteArray)) ++ t67) ++ (⟨#[36, 121]⟩ : ByteArray)) w17 fun t70 w18 =>
                   K t70 w18)
                  (J1 (()) w9))))) fun J3 =>
     cond (((t16 ++ t18) ++ t22).toList == (⟨#[63, 104]⟩ : ByteArray).toList)
       (J3 ((((t16 ++ t18) ++ t22).toList == (⟨#[63, 104]⟩ : ByteArray).toList), ()) w7)
       (J3 ((((t16 ++ t18) ++ t22).toList == (⟨#[63, 108]⟩ : ByteArray).toList), ()) w7))

def an_screen_Screen_sequence : List Ann := [.none, .none, .join [] [4, 8, 14, 15, 16, 17, 18, 19, 20, 21, 22, 23, 24, 25, 26, 27, 28, 29, 30, 31, 32, 33, 34, 35, 36, 37, 38, 39, 40, 41, 42, 43, 44, 45, 46, 47, 48, 49, 50, 51, 52, 53, 54, 55, 56, 57, 58, 59, 60, 61, 62, 63, 64, 65, 66, 67, 68, 69, 70], .none, .none, .join [(28, Kind.bool)] [28, 29, 30], .none, .none, .join [(33, (Kind.int .i64))] [8, 33, 34, 35, 36, 37, 38, 39, 40, 41, 42, 43], .none, .none, .none, .none, .none, .none, .none, .none, .none, .none, .none, .none, .join [] [4, 71, 72, 73, 74, 75, 76, 77, 78], .none, .none, .none]

theorem vc_screen_Screen_sequence (s : Option Addr) (e : T_parse_Event) (w : World) (K : Slc → World → Prop) :
    vcFn C (Tryz.f38.body.getD .skip) Tryz.f38.results.toList Tryz.f38.ntmps an_screen_Screen_sequence [Kind.slice] [(.pointer s), (.agg #[(.int .i64 e.Kind), (.int .i32 e.R), (.int .u8 e.B), (.int .u8 e.Private), (.string e.Inter), (.slice e.Params.a e.Params.n e.Params.c), (.slice e.Data.a e.Data.n e.Data.c)])] w (fun s w => K s.1 w) = sh_screen_Screen_sequence s e w K := by kernel_rfl

theorem call_screen_Screen_sequence (s : Option Addr) (e : T_parse_Event) {w : World} {K : Slc → World → Prop} (h : sh_screen_Screen_sequence s e w K) : c_screen_Screen_sequence s e w K := by
  rw [← vc_screen_Screen_sequence] at h
  refine Calls.mono (calls_of_vc C.plain_ok C.mixed Tryz.func38 rfl h) ?_
  rintro e w' ⟨s, rfl, hK⟩
  exact ⟨s.1, rfl, hK⟩

/-- (*phosphor/screen.Screen).g -/
def sh_screen_Screen_g (s : Option Addr) (w : World) (K : Option Addr → World → Prop) : Prop :=
  onPtr s fun t5 =>
  ldI .i64 (t5.add 2) w.drew fun t7 =>
  onPtr s fun t8 =>
  ixA (t8.add 0) 2 t7 1 fun t10 =>
  ldP t10 w.drew fun t11 =>
  K t11 w.drew

def an_screen_Screen_g : List Ann := [.none, .none]

theorem vc_screen_Screen_g (s : Option Addr) (w : World) (K : Option Addr → World → Prop) :
    vcFn C (Tryz.f39.body.getD .skip) Tryz.f39.results.toList Tryz.f39.ntmps an_screen_Screen_g [Kind.ptr] [(.pointer s)] w (fun s w => K s.1 w) = sh_screen_Screen_g s w K := by kernel_rfl

theorem call_screen_Screen_g (s : Option Addr) {w : World} {K : Option Addr → World → Prop} (h : sh_screen_Screen_g s w K) : c_screen_Screen_g s w K := by
  rw [← vc_screen_Screen_g] at h
  refine Calls.mono (calls_of_vc C.plain_ok C.mixed Tryz.func39 rfl h) ?_
  rintro e w' ⟨s, rfl, hK⟩
  exact ⟨s.1, rfl, hK⟩

/-- (*phosphor/grid.Grid).Twin -/
def sh_grid_Grid_Twin (g : Option Addr) (w : World) (K : Option Addr → World → Prop) : Prop :=
  onPtr g fun t5 =>
  ldS T_grid_Grid.rep t5 w fun t6 =>
  nw ty_grid_Grid [(.pointer none), (.int .i64 0), (.int .i64 0), (.slice none 0 0), (.int .i64 0)] w fun out w1 =>
  stK out (T_grid_Grid.rep.cells t6) w1 fun w2 =>
  onPtr g fun t8 =>
  ldP (t8.add 0) w2 fun t10 =>
  c_ring_Ring_line_Line_Twin t10 w2 fun t11 w3 =>
  stK (out.add 0) [(.pointer t11)] w3 fun w4 =>
  onPtr g fun t14 =>
  ldSl (t14.add 3) w4 fun t16 =>
  c_slices_Clone_line_Line_line_Line t16 w4 fun t17 w5 =>
  stK (out.add 3) [(.slice t17.a t17.n t17.c)] w5 fun w6 =>
  K (some out) w6

def an_grid_Grid_Twin : List Ann := [.none, .none, .none, .none, .none]

theorem vc_grid_Grid_Twin (g : Option Addr) (w : World) (K : Option Addr → World → Prop) :
    vcFn C (Tryz.f40.body.getD .skip) Tryz.f40.results.toList Tryz.f40.ntmps an_grid_Grid_Twin [Kind.ptr] [(.pointer g)] w (fun s w => K s.1 w) = sh_grid_Grid_Twin g w K := by kernel_rfl

theorem call_grid_Grid_Twin (g : Option Addr) {w : World} {K : Option Addr → World → Prop} (h : sh_grid_Grid_Twin g w K) : c_grid_Grid_Twin g w K := by
  rw [← vc_grid_Grid_Twin] at h
  refine Calls.mono (calls_of_vc C.plain_ok C.mixed Tryz.func40 rfl h) ?_
  rintro e w' ⟨s, rfl, hK⟩
  exact ⟨s.1, rfl, hK⟩

/-- (phosphor/line.Line).Text -/
def sh_line_Line_Text (l : Slc) (w : World) (K : ByteArray → World → Prop) : Prop :=
  nw ty_strings_Builder [(.pointer none), (.slice none 0 0)] w fun out w1 =>
  c_line_Line_Mend l w1 fun t7 w2 =>
  loopP (σ := Int × Unit) (fun I1 s w3 =>
    cond (decide (s.1 < ((t7.n : Nat) : Int)))
      (ixK t7 s.1 5 fun t11 =>
       ldS T_api_Cell.rep t11 w3 fun t12 =>
       nw ty_api_Cell [(.int .i32 0), (.int .i64 0), (.int .i64 0), (.int .i64 0), (.int .i64 0)] w3 fun c w4 =>
       stK c (T_api_Cell.rep.cells t12) w4 fun w5 =>
       ldI .i64 (c.add 1) w5 fun t20 =>
       cond (t20 == (2 : Int))
         (I1 ((IntKind.i64.wrap (s.1 + (1 : Int))), ()) w5)
         (ldI .i32 (c.add 0) w5 fun t24 =>
          cond (t24 == (0 : Int))
            (c_strings_Builder_WriteByte (some out) 32 w5 fun t26 w6 =>
             I1 ((IntKind.i64.wrap (s.1 + (1 : Int))), ()) w6)
            (ldI .i32 (c.add 0) w5 fun t14 =>
             nw ty_int32 [(.int .i32 t14)] w5 fun t15 w7 =>
             c_utf_Encode (⟨(some t15), 1, 1⟩ : Slc) w7 fun t16 w8 =>
             c_strings_Builder_Write (some out) t16 w8 fun t17 t17_1 w9 =>
             I1 ((IntKind.i64.wrap (s.1 + (1 : Int))), ()) w9)))
      (c_strings_Builder_String (some out) w3 fun t28 w10 =>
       c_strings_TrimRight t28 (⟨#[32]⟩ : ByteArray) w10 fun t29 w11 =>
       K t29 w11)) (0, ()) w2

def an_line_Line_Text : List Ann := [.none, .none, .none, .none, .join [(9, (Kind.int .i64))] [5, 9, 10, 11, 12, 13, 14, 15, 16, 17, 18, 19, 20, 21, 22, 23, 24, 25, 26, 27], .none, .none, .none, .none, .none, .none, .none]

theorem vc_line_Line_Text (l : Slc) (w : World) (K : ByteArray → World → Prop) :
    vcFn C (Tryz.f41.body.getD .skip) Tryz.f41.results.toList Tryz.f41.ntmps an_line_Line_Text [Kind.string] [(.slice l.a l.n l.c)] w (fun s w => K s.1 w) = sh_line_Line_Text l w K := by kernel_rfl

theorem call_line_Line_Text (l : Slc) {w : World} {K : ByteArray → World → Prop} (h : sh_line_Line_Text l w K) : c_line_Line_Text l w K := by
  rw [← vc_line_Line_Text] at h
  refine Calls.mono (calls_of_vc C.plain_ok C.mixed Tryz.func41 rfl h) ?_
  rintro e w' ⟨s, rfl, hK⟩
  exact ⟨s.1, rfl, hK⟩

/-- (*phosphor/ring.Ring[phosphor/line.Line]).Len -/
def sh_ring_Ring_line_Line_Len (r : Option Addr) (w : World) (K : Int → World → Prop) : Prop :=
  onPtr r fun t4 =>
  ldSl (t4.add 1) w fun t6 =>
  K ((t6.n : Nat) : Int) w

def an_ring_Ring_line_Line_Len : List Ann := [.none, .none]

theorem vc_ring_Ring_line_Line_Len (r : Option Addr) (w : World) (K : Int → World → Prop) :
    vcFn C (Tryz.f42.body.getD .skip) Tryz.f42.results.toList Tryz.f42.ntmps an_ring_Ring_line_Line_Len [(Kind.int .i64)] [(.pointer r)] w (fun s w => K s.1 w) = sh_ring_Ring_line_Line_Len r w K := by kernel_rfl

theorem call_ring_Ring_line_Line_Len (r : Option Addr) {w : World} {K : Int → World → Prop} (h : sh_ring_Ring_line_Line_Len r w K) : c_ring_Ring_line_Line_Len r w K := by
  rw [← vc_ring_Ring_line_Line_Len] at h
  refine Calls.mono (calls_of_vc C.plain_ok C.mixed Tryz.func42 rfl h) ?_
  rintro e w' ⟨s, rfl, hK⟩
  exact ⟨s.1, rfl, hK⟩

/-- (*phosphor/grid.Grid).is -/
def sh_grid_Grid_is (g : Option Addr) (row : Int) (w : World) (K : Bool → World → Prop) : Prop :=
  cond (decide (row ≥ (0 : Int)))
    (onPtr g fun t10 =>
     ldI .i64 (t10.add 1) w fun t12 =>
     K (decide (row < t12)) w)
    (K false w)

def an_grid_Grid_is : List Ann := [.none, .none]

theorem vc_grid_Grid_is (g : Option Addr) (row : Int) (w : World) (K : Bool → World → Prop) :
    vcFn C (Tryz.f43.body.getD .skip) Tryz.f43.results.toList Tryz.f43.ntmps an_grid_Grid_is [Kind.bool] [(.pointer g), (.int .i64 row)] w (fun s w => K s.1 w) = sh_grid_Grid_is g row w K := by kernel_rfl

theorem call_grid_Grid_is (g : Option Addr) (row : Int) {w : World} {K : Bool → World → Prop} (h : sh_grid_Grid_is g row w K) : c_grid_Grid_is g row w K := by
  rw [← vc_grid_Grid_is] at h
  refine Calls.mono (calls_of_vc C.plain_ok C.mixed Tryz.func43 rfl h) ?_
  rintro e w' ⟨s, rfl, hK⟩
  exact ⟨s.1, rfl, hK⟩

end Go.Proofs.YtmoafafalnbkpaaGreatDoor
