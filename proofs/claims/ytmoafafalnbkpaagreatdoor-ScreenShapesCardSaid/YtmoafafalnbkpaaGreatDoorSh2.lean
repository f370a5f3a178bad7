/- By program (gen.py): the typed text of the program's functions, part 2. -/
import Derived.Test.YtmoafafalnbkpaaGreatDoorDefs
set_option maxRecDepth 100000
set_option linter.unusedVariables false
namespace Go.Proofs.YtmoafafalnbkpaaGreatDoor
open Go.Vc
/-- (*phosphor/screen.Screen).bare -/
def sh_screen_Screen_bare (s : Option Addr) (p : Slc) (c : Int) (w : World) (K : Slc → World → Prop) : Prop :=
  c_screen_param p 0 1 w fun t12 w1 =>
  c_screen_param p 0 0 w1 fun t14 w2 =>
  joinP (σ := Int × Unit) (fun s_1 w3 =>
    onPtr s fun t143 =>
    ldI .i64 (t143.add 37) w3.drew fun t145 =>
    onPtr s fun t147 =>
    ldI .i64 (t147.add 38) w3.drew fun t149 =>
    c_screen_Screen_g s w3.drew fun t141 w4 =>
    World.cell? w4 (t147.add 38) = some (.int .i64 t149) ∧
    World.cell? w4 (t143.add 37) = some (.int .i64 t145) ∧
    c_screen_Screen_blank s w4 fun t153 w5 =>
    World.cell? w5 (t147.add 38) = some (.int .i64 t149) ∧
    World.cell? w5 (t143.add 37) = some (.int .i64 t145) ∧
    c_grid_Grid_Scroll t141 t145 t149 (IntKind.i64.wrap (0 - s_1.1)) t153 w5 fun t154 w6 =>
    onPtr s fun t156 =>
    stK ((t156.add 3).add 2) [(.bool false)] w6 fun w7 =>
    K (⟨none, 0, 0⟩ : Slc) w7) fun J1 =>
  cond (c == (110 : Int))
    (cond (t14 == (5 : Int))
       (c_screen_reply (⟨#[48, 110]⟩ : ByteArray) w2 fun t53 w8 =>
        K t53 w8)
       (cond (t14 == (6 : Int))
          (c_screen_Screen_place s w2 fun t57 w9 =>
           (((t57.size + (⟨#[82]⟩ : ByteArray).size : Nat) : Int) ≤ 9223372036854775807) ∧
           c_screen_reply (t57 ++ (⟨#[82]⟩ : ByteArray)) w9 fun t59 w10 =>
           K t59 w10)
          (K (⟨none, 0, 0⟩ : Slc) w2)))
    (cond (c == (99 : Int))
       (cond (t14 == (0 : Int))
          (c_screen_reply (⟨#[63, 54, 50, 59, 52, 99]⟩ : ByteArray) w2 fun t62 w11 =>
           K t62 w11)
          (K (⟨none, 0, 0⟩ : Slc) w2))
       (cond (c == (109 : Int))
          (onPtr s fun t65 =>
           ldS T_api_Attr.rep ((t65.add 3).add 3) w2 fun t68 =>
           c_attr_Apply t68 p w2 fun t70 w12 =>
           onPtr s fun t71 =>
           stK ((t71.add 3).add 3) (T_api_Attr.rep.cells t70) w12 fun w13 =>
           K (⟨none, 0, 0⟩ : Slc) w13)
          (cond (c == (114 : Int))
             (c_screen_Screen_margins s p w2 fun w14 =>
              K (⟨none, 0, 0⟩ : Slc) w14)
             (cond (c == (115 : Int))
                (c_screen_Screen_save s w2 fun w15 =>
                 K (⟨none, 0, 0⟩ : Slc) w15)
                (cond (c == (117 : Int))
                   (c_screen_Screen_restore s w2 fun w16 =>
                    K (⟨none, 0, 0⟩ : Slc) w16)
                   (joinP (σ := Unit) (fun s_2 w17 =>
                      cond (c == (103 : Int))
                        (cond (t14 == (0 : Int))
                           (onPtr s fun t105 =>
                            ldP (t105.add 39) w17.drew fun t107 =>
                            onPtr s fun t109 =>
                            ldI .i64 ((t109.add 3).add 1) w17.drew fun t112 =>
                            c_tabs_Stops_Clear t107 t112 w17.drew fun t113 w18 =>
                            K (⟨none, 0, 0⟩ : Slc) w18)
                           (cond (t14 == (3 : Int))
                              (onPtr s fun t117 =>
                               ldP (t117.add 39) w17 fun t119 =>
                               c_tabs_Stops_None t119 w17 fun w19 =>
                               K (⟨none, 0, 0⟩ : Slc) w19)
                              (K (⟨none, 0, 0⟩ : Slc) w17)))
                        (cond (c == (98 : Int))
                           (c_screen_Screen_again s t12 w17 fun w20 =>
                            K (⟨none, 0, 0⟩ : Slc) w20)
                           (cond (c == (74 : Int))
                              (c_screen_Screen_display s t14 w17 fun w21 =>
                               K (⟨none, 0, 0⟩ : Slc) w21)
                              (cond (c == (75 : Int))
                                 (c_screen_Screen_inLine s t14 w17 fun w22 =>
                                  K (⟨none, 0, 0⟩ : Slc) w22)
                                 (joinP (σ := Unit) (fun s_3 w23 =>
                                    joinP (σ := Unit) (fun s_4 w24 =>
                                      cond (c == (83 : Int))
                                        (J1 ((IntKind.i64.wrap (0 - t12)), ()) w24)
                                        (cond (c == (84 : Int))
                                           (J1 (t12, ()) w24)
                                           (c_screen_Screen_move s p c t12 w24 fun w25 =>
                                            K (⟨none, 0, 0⟩ : Slc) w25))) fun J4 =>
                                    cond (c == (76 : Int))
                                      (cond (c == (76 : Int))
                                         (c_screen_Screen_lines s c t12 w23 fun w26 =>
                                          K (⟨none, 0, 0⟩ : Slc) w26)
                                         (J4 (()) w23))
                                      (cond (c == (77 : Int))
                                         (c_screen_Screen_lines s c t12 w23 fun w27 =>
                                          K (⟨none, 0, 0⟩ : Slc) w27)
                                         (J4 (()) w23))) fun J3 =>
                                  cond (c == (64 : Int))
                                    (cond (c == (64 : Int))
                                       (c_screen_Screen_cells s c t12 w17 fun w28 =>
                                        K (⟨none, 0, 0⟩ : Slc) w28)
                                       (J3 (()) w17))
                                    (cond (c == (80 : Int))
                                       (cond (c == (80 : Int))
                                          (c_screen_Screen_cells s c t12 w17 fun w29 =>
                                           K (⟨none, 0, 0⟩ : Slc) w29)
                                          (J3 (()) w17))
                                       (cond (c == (88 : Int))
                                          (c_screen_Screen_cells s c t12 w17 fun w30 =>
                                           K (⟨none, 0, 0⟩ : Slc) w30)
                                          (J3 (()) w17)))))))) fun J2 =>
                    cond (c == (104 : Int))
                      (cond (c == (104 : Int))
                         (loopP (σ := Int × Unit) (fun I5 s_5 w31 =>
                            cond (decide (s_5.1 < ((p.n : Nat) : Int)))
                              (ixK p s_5.1 1 fun t85 =>
                               ldI .i64 t85 w31 fun t86 =>
                               joinP (σ := Bool × Unit) (fun s_6 w32 =>
                                 cond s_6.1
                                   (onPtr s fun t94 =>
                                    ldM (t94.add 35) w32 fun t96 =>
                                    runU PG (Instr.mapUpdate ty_map_int_bool (.map t96) (.int .i64 t86) (.bool (c == (104 : Int)))) w32 fun _ w33 =>
                                    I5 ((IntKind.i64.wrap (s_5.1 + (1 : Int))), ()) w33)
                                   (I5 ((IntKind.i64.wrap (s_5.1 + (1 : Int))), ()) w32)) fun J6 =>
                               cond (t86 == (4 : Int))
                                 (J6 (true, ()) w31)
                                 (J6 ((t86 == (20 : Int)), ()) w31))
                              (K (⟨none, 0, 0⟩ : Slc) w31)) (0, ()) w2)
                         (J2 (()) w2))
                      (cond (c == (108 : Int))
                         (loopP (σ := Int × Unit) (fun I7 s_7 w34 =>
                            cond (decide (s_7.1 < ((p.n : Nat) : Int)))
                              (ixK p s_7.1 1 fun t85_1 =>
                               ldI .i64 t85_1 w34 fun t86_1 =>
                               joinP (σ := Bool × Unit) (fun s_8 w35 =>
                                 cond s_8.1
                                   (onPtr s fun t94_1 =>
                                    ldM (t94_1.add 35) w35 fun t96_1 =>
                                    runU PG (Instr.mapUpdate ty_map_int_bool (.map t96_1) (.int .i64 t86_1) (.bool (c == (104 : Int)))) w35 fun _ w36 =>
                                    I7 ((IntKind.i64.wrap (s_7.1 + (1 : Int))), ()) w36)
                                   (I7 ((IntKind.i64.wrap (s_7.1 + (1 : Int))), ()) w35)) fun J8 =>
                               cond (t86_1 == (4 : Int))
                                 (J8 (true, ()) w34)
                                 (J8 ((t86_1 == (20 : Int)), ()) w34))
                              (K (⟨none, 0, 0⟩ : Slc) w34)) (0, ()) w2)
                         (J2 (()) w2))))))))

def an_screen_Screen_bare : List Ann := [.none, .none, .none, .none, .none, .join [(7, (Kind.int .i64))] [6, 7, 10, 16, 17, 18, 19, 20, 21, 22, 23, 24, 25, 26, 27, 28, 29, 30, 31, 32, 33, 34, 35, 36, 37, 38, 39, 40, 41, 42, 43, 44, 45, 46, 47, 48, 49, 50, 51, 52, 53, 54, 55, 56, 57, 58, 59, 60, 61, 62, 63, 64, 65, 66, 67, 68, 69, 70, 71, 72, 73, 74, 75, 76, 77, 78, 79, 80, 81, 82, 83, 84, 85, 86, 87, 88, 89, 90, 91, 92, 93, 94, 95, 96, 97, 98, 99, 100, 101, 102, 103, 104, 105, 106, 107, 108, 109, 110, 111, 112, 113, 114, 115, 116, 117, 118, 119, 120, 121, 122, 123, 124, 125, 126, 127, 128, 129, 130, 131, 132, 133, 134, 135, 136, 137, 138, 139], .none, .none, .none, .none, .none, .none, .none, .none, .none, .none, .none, .none, .none, .none, .none, .none, .none, .none, .none, .none, .none, .none, .none, .none, .none, .none, .none, .join [] [28, 29, 30], .none, .none, .none, .none, .none, .none, .none, .none, .none, .none, .join [] [39, 40, 41, 42], .none, .none, .none, .join [] [43, 44, 45], .none, .none, .none, .none, .none, .none, .none, .none, .none, .none, .none, .none, .none, .none, .none, .none, .none, .none, .none, .none, .join [(83, (Kind.int .i64))] [10, 83, 84, 85, 86, 87, 88, 89, 90, 91, 92, 93, 94, 95, 96, 97, 98, 99, 100], .none, .none, .none, .none, .join [(92, Kind.bool)] [87, 88, 89, 90, 91, 92], .none, .none, .none, .none, .none, .none, .none, .none, .none, .none, .none, .none, .none]

theorem vc_screen_Screen_bare (s : Option Addr) (p : Slc) (c : Int) (w : World) (K : Slc → World → Prop) :
    vcFn C (Tryz.f84.body.getD .skip) Tryz.f84.results.toList Tryz.f84.ntmps an_screen_Screen_bare [Kind.slice] [(.pointer s), (.slice p.a p.n p.c), (.int .u8 c)] w (fun s w => K s.1 w) = sh_screen_Screen_bare s p c w K := by kernel_rfl

theorem call_screen_Screen_bare (s : Option Addr) (p : Slc) (c : Int) {w : World} {K : Slc → World → Prop} (h : sh_screen_Screen_bare s p c w K) : c_screen_Screen_bare s p c w K := by
  rw [← vc_screen_Screen_bare] at h
  refine Calls.mono (calls_of_vc C.plain_ok C.mixed Tryz.func84 rfl h) ?_
  rintro e w' ⟨s, rfl, hK⟩
  exact ⟨s.1, rfl, hK⟩

/-- (*phosphor/ring.Ring[phosphor/line.Line]).Twin -/
def sh_ring_Ring_line_Line_Twin (r : Option Addr) (w : World) (K : Option Addr → World → Prop) : Prop :=
  onPtr r fun t5 =>
  ldS T_ring_Ring_phosphor_line_Line.rep t5 w fun t6 =>
  nw ty_ring_Ring_phosphor_line_Line [(.int .i64 0), (.slice none 0 0), (.int .i64 0), (.int .i64 0)] w fun out w1 =>
  stK out (T_ring_Ring_phosphor_line_Line.rep.cells t6) w1 fun w2 =>
  onPtr r fun t8 =>
  ldSl (t8.add 1) w2 fun t10 =>
  c_slices_Clone_line_Line_line_Line t10 w2 fun t11 w3 =>
  stK (out.add 1) [(.slice t11.a t11.n t11.c)] w3 fun w4 =>
  K (some out) w4

def an_ring_Ring_line_Line_Twin : List Ann := [.none, .none, .none, .none]

theorem vc_ring_Ring_line_Line_Twin (r : Option Addr) (w : World) (K : Option Addr → World → Prop) :
    vcFn C (Tryz.f85.body.getD .skip) Tryz.f85.results.toList Tryz.f85.ntmps an_ring_Ring_line_Line_Twin [Kind.ptr] [(.pointer r)] w (fun s w => K s.1 w) = sh_ring_Ring_line_Line_Twin r w K := by kernel_rfl

theorem call_ring_Ring_line_Line_Twin (r : Option Addr) {w : World} {K : Option Addr → World → Prop} (h : sh_ring_Ring_line_Line_Twin r w K) : c_ring_Ring_line_Line_Twin r w K := by
  rw [← vc_ring_Ring_line_Line_Twin] at h
  refine Calls.mono (calls_of_vc C.plain_ok C.mixed Tryz.func85 rfl h) ?_
  rintro e w' ⟨s, rfl, hK⟩
  exact ⟨s.1, rfl, hK⟩

/-- slices.Clone[[]phosphor/line.Line,phosphor/line.Line] -/
def sh_slices_Clone_line_Line_line_Line (s : Slc) (w : World) (K : Slc → World → Prop) : Prop :=
  cond (s.a.isNone)
    (K (⟨none, 0, 0⟩ : Slc) w)
    (nw ty_line_Line [] w fun t5 w1 =>
     apK PG #[ty_sl_line_Line, ty_sl_line_Line] ty_sl_line_Line (⟨(some t5), 0, 0⟩ : Slc) s w1 fun t7 w2 =>
     K t7 w2)

def an_slices_Clone_line_Line_line_Line : List Ann := [.none, .none, .none, .none, .none]

theorem vc_slices_Clone_line_Line_line_Line (s : Slc) (w : World) (K : Slc → World → Prop) :
    vcFn C (Tryz.f86.body.getD .skip) Tryz.f86.results.toList Tryz.f86.ntmps an_slices_Clone_line_Line_line_Line [Kind.slice] [(.slice s.a s.n s.c)] w (fun s w => K s.1 w) = sh_slices_Clone_line_Line_line_Line s w K := by kernel_rfl

theorem call_slices_Clone_line_Line_line_Line (s : Slc) {w : World} {K : Slc → World → Prop} (h : sh_slices_Clone_line_Line_line_Line s w K) : c_slices_Clone_line_Line_line_Line s w K := by
  rw [← vc_slices_Clone_line_Line_line_Line] at h
  refine Calls.mono (calls_of_vc C.plain_ok C.mixed Tryz.func86 rfl h) ?_
  rintro e w' ⟨s, rfl, hK⟩
  exact ⟨s.1, rfl, hK⟩

/-- (phosphor/line.Line).Mend -/
def sh_line_Line_Mend (l : Slc) (w : World) (K : Slc → World → Prop) : Prop :=
  c_slices_Clone_line_Line_api_Cell l w fun t7 w1 =>
  loopP (σ := Int × Unit) (fun I1 s w2 =>
    cond (decide (s.1 < ((l.n : Nat) : Int)))
      (ixK l s.1 5 fun t13 =>
       ldS T_api_Cell.rep t13 w2 fun t14 =>
       nw ty_api_Cell [(.int .i32 0), (.int .i64 0), (.int .i64 0), (.int .i64 0), (.int .i64 0)] w2 fun c w3 =>
       stK c (T_api_Cell.rep.cells t14) w3 fun w4 =>
       joinP (σ := Bool × Unit) (fun s_1 w5 =>
         cond s_1.1
           (ixK t7 s.1 5 fun t31 =>
            stK (t31.add 1) [(.int .i64 0)] w5 fun w6 =>
            I1 ((IntKind.i64.wrap (s.1 + (1 : Int))), ()) w6)
           (c_line_Line_fits l s.1 w5 fun t36 w7 =>
            cond (!t36)
              (ldS T_api_Attr.rep (c.add 2) w7 fun t41 =>
               ixK t7 s.1 5 fun t43 =>
               stK t43 [(.int .i32 0), (.int .i64 0), (.int .i64 t41.Fg), (.int .i64 t41.Bg), (.int .i64 t41.Flags)] w7 fun w8 =>
               I1 ((IntKind.i64.wrap (s.1 + (1 : Int))), ()) w8)
              (ldI .i64 (c.add 1) w7 fun t46 =>
               cond (t46 == (2 : Int))
                 (ixK t7 s.1 5 fun t50 =>
                  stK (t50.add 0) [(.int .i32 0)] w7 fun w9 =>
                  I1 ((IntKind.i64.wrap (s.1 + (1 : Int))), ()) w9)
                 (I1 ((IntKind.i64.wrap (s.1 + (1 : Int))), ()) w7)))) fun J2 =>
       ldI .i64 (c.add 1) w4 fun t17 =>
       cond (t17 != (0 : Int))
         (ldI .i64 (c.add 1) w4 fun t21 =>
          cond (t21 != (1 : Int))
            (ldI .i64 (c.add 1) w4 fun t26 =>
             J2 ((t26 != (2 : Int)), ()) w4)
            (J2 (false, ()) w4))
         (J2 (false, ()) w4))
      (K t7 w2)) (0, ()) w1

def an_line_Line_Mend : List Ann := [.none, .none, .none, .none, .join [(10, (Kind.int .i64))] [4, 5, 10, 11, 12, 13, 14, 15, 16, 17, 18, 19, 20, 21, 22, 23, 24, 25, 26, 27, 28, 29, 30, 31, 32, 33, 34, 35, 36, 37, 38, 39, 40, 41, 42, 43, 44, 45, 46, 47, 48, 49, 50, 51, 52], .none, .none, .none, .none, .join [(15, Kind.bool)] [15, 16, 17, 18, 19, 20, 21, 22, 23, 24, 25, 26, 27, 28], .none, .none, .none]

theorem vc_line_Line_Mend (l : Slc) (w : World) (K : Slc → World → Prop) :
    vcFn C (Tryz.f87.body.getD .skip) Tryz.f87.results.toList Tryz.f87.ntmps an_line_Line_Mend [Kind.slice] [(.slice l.a l.n l.c)] w (fun s w => K s.1 w) = sh_line_Line_Mend l w K := by kernel_rfl

theorem call_line_Line_Mend (l : Slc) {w : World} {K : Slc → World → Prop} (h : sh_line_Line_Mend l w K) : c_line_Line_Mend l w K := by
  rw [← vc_line_Line_Mend] at h
  refine Calls.mono (calls_of_vc C.plain_ok C.mixed Tryz.func87 rfl h) ?_
  rintro e w' ⟨s, rfl, hK⟩
  exact ⟨s.1, rfl, hK⟩

/-- (*strings.Builder).WriteByte -/
def sh_strings_Builder_WriteByte (b : Option Addr) (c : Int) (w : World) (K : Value → World → Prop) : Prop :=
  c_strings_Builder_copyCheck b w fun w1 =>
  onPtr b fun t9 =>
  ldSl (t9.add 1) w1 fun t11 =>
  nw ty_uint8 [(.int .u8 c)] w1 fun t13 w2 =>
  apK PG #[ty_sl_uint8, ty_sl_uint8] ty_sl_uint8 t11 (⟨(some t13), 1, 1⟩ : Slc) w2 fun t14 w3 =>
  onPtr b fun t15 =>
  stK (t15.add 1) [(.slice t14.a t14.n t14.c)] w3 fun w4 =>
  K (.nilIface : Value) w4

def an_strings_Builder_WriteByte : List Ann := [.none, .none, .none, .none]

theorem vc_strings_Builder_WriteByte (b : Option Addr) (c : Int) (w : World) (K : Value → World → Prop) :
    vcFn C (Tryz.f88.body.getD .skip) Tryz.f88.results.toList Tryz.f88.ntmps an_strings_Builder_WriteByte [Kind.raw] [(.pointer b), (.int .u8 c)] w (fun s w => K s.1 w) = sh_strings_Builder_WriteByte b c w K := by kernel_rfl

theorem call_strings_Builder_WriteByte (b : Option Addr) (c : Int) {w : World} {K : Value → World → Prop} (h : sh_strings_Builder_WriteByte b c w K) : c_strings_Builder_WriteByte b c w K := by
  rw [← vc_strings_Builder_WriteByte] at h
  refine Calls.mono (calls_of_vc C.plain_ok C.mixed Tryz.func88 rfl h) ?_
  rintro e w' ⟨s, rfl, hK⟩
  exact ⟨s.1, rfl, hK⟩

/-- (*strings.Builder).Write -/
def sh_strings_Builder_Write (b : Option Addr) (p : Slc) (w : World) (K : Int → Value → World → Prop) : Prop :=
  c_strings_Builder_copyCheck b w fun w1 =>
  onPtr b fun t10 =>
  ldSl (t10.add 1) w1 fun t12 =>
  apK PG #[ty_sl_uint8, ty_sl_uint8] ty_sl_uint8 t12 p w1 fun t14 w2 =>
  onPtr b fun t15 =>
  stK (t15.add 1) [(.slice t14.a t14.n t14.c)] w2 fun w3 =>
  K ((p.n : Nat) : Int) (.nilIface : Value) w3

def an_strings_Builder_Write : List Ann := [.none, .none, .none, .none]

theorem vc_strings_Builder_Write (b : Option Addr) (p : Slc) (w : World) (K : Int → Value → World → Prop) :
    vcFn C (Tryz.f89.body.getD .skip) Tryz.f89.results.toList Tryz.f89.ntmps an_strings_Builder_Write [(Kind.int .i64), Kind.raw] [(.pointer b), (.slice p.a p.n p.c)] w (fun s w => K s.1 s.2.1 w) = sh_strings_Builder_Write b p w K := by kernel_rfl

theorem call_strings_Builder_Write (b : Option Addr) (p : Slc) {w : World} {K : Int → Value → World → Prop} (h : sh_strings_Builder_Write b p w K) : c_strings_Builder_Write b p w K := by
  rw [← vc_strings_Builder_Write] at h
  refine Calls.mono (calls_of_vc C.plain_ok C.mixed Tryz.func89 rfl h) ?_
  rintro e w' ⟨s, rfl, hK⟩
  exact ⟨s.1, s.2.1, rfl, hK⟩

/-- phosphor/utf.Encode -/
def sh_utf_Encode (l : Slc) (w : World) (K : Slc → World → Prop) : Prop :=
  loopP (σ := Slc × Int × Unit) (fun I1 s w1 =>
    cond (decide (s.2.1 < ((l.n : Nat) : Int)))
      (ixK l s.2.1 1 fun t12 =>
       ldI .i32 t12 w1 fun t13 =>
       joinP (σ := Int × Unit) (fun s_1 w2 =>
         joinP (σ := Int × Int × Unit) (fun s_2 w3 =>
           0 ≤ (IntKind.i64.wrap ((6 : Int) * s_2.1)) ∧
           nw ty_uint8 [(.int .u8 (IntKind.u8.wrap (bitsR .or .i32 s_2.2.1 (s_1.1.fdiv (2 ^ (min (IntKind.i64.wrap ((6 : Int) * s_2.1)).toNat IntKind.i32.bits))))))] w3 fun t46 w4 =>
           apK PG #[ty_sl_uint8, ty_sl_uint8] ty_sl_uint8 s.1 (⟨(some t46), 1, 1⟩ : Slc) w4 fun t47 w5 =>
           loopP (σ := Slc × Int × Unit) (fun I4 s_3 w6 =>
             cond (decide (s_3.2.1 ≥ (0 : Int)))
               (0 ≤ (IntKind.i64.wrap ((6 : Int) * s_3.2.1)) ∧
                nw ty_uint8 [(.int .u8 (IntKind.u8.wrap (bitsR .or .i32 (128 : Int) (bitsR .and .i32 (s_1.1.fdiv (2 ^ (min (IntKind.i64.wrap ((6 : Int) * s_3.2.1)).toNat IntKind.i32.bits))) (63 : Int)))))] w6 fun t62 w7 =>
                apK PG #[ty_sl_uint8, ty_sl_uint8] ty_sl_uint8 s_3.1 (⟨(some t62), 1, 1⟩ : Slc) w7 fun t63 w8 =>
                I4 (t63, (IntKind.i64.wrap (s_3.2.1 - (1 : Int))), ()) w8)
               (I1 (s_3.1, (IntKind.i64.wrap (s.2.1 + (1 : Int))), ()) w6)) (t47, (IntKind.i64.wrap (s_2.1 - (1 : Int))), ()) w5) fun J3 =>
         joinP (σ := Int × Int × Unit) (fun s_4 w9 =>
           J3 ((IntKind.i64.wrap (s_4.1 + (1 : Int))), (bitsR .or .i32 s_4.2.1 (192 : Int)), ()) w9) fun J5 =>
         joinP (σ := Int × Int × Unit) (fun s_5 w10 =>
           J5 ((IntKind.i64.wrap (s_5.1 + (1 : Int))), (bitsR .or .i32 s_5.2.1 (32 : Int)), ()) w10) fun J6 =>
         cond (decide (s_1.1 ≥ (65536 : Int)))
           (J6 ((IntKind.i64.wrap ((0 : Int) + (1 : Int))), (bitsR .or .i32 (0 : Int) (16 : Int)), ()) w2)
           (cond (decide (s_1.1 ≥ (2048 : Int)))
              (J6 (0, 0, ()) w2)
              (cond (decide (s_1.1 ≥ (128 : Int)))
                 (J5 (0, 0, ()) w2)
                 (J3 (0, 0, ()) w2)))) fun J2 =>
       c_utf_Is t13 w1 fun t15 w11 =>
       cond (!t15)
         (J2 (65533, ()) w11)
         (J2 (t13, ()) w11))
      (K s.1 w1)) (⟨none, 0, 0⟩, 0, ()) w

def an_utf_Encode : List Ann := [.none, .none, .none, .none, .join [(3, Kind.slice), (10, (Kind.int .i64))] [3, 5, 6, 7, 10, 11, 12, 13, 14, 15, 16, 17, 18, 19, 20, 21, 22, 23, 24, 25, 26, 27, 28, 29, 30, 31, 32, 33, 34, 35, 36, 37, 38, 39, 40, 41, 42, 43, 44, 45, 46, 47, 48, 49, 50, 51, 52, 53, 54, 55, 56, 57, 58, 59, 60, 61, 62, 63, 64], .none, .none, .none, .none, .join [(5, (Kind.int .i32))] [5, 14, 15, 16], .none, .none, .join [(6, (Kind.int .i64)), (7, (Kind.int .i32))] [6, 7, 17, 18, 19, 20, 21, 22, 23, 24, 25, 26, 27, 28, 29, 30, 31, 32, 33, 34, 35, 36, 37], .join [(6, (Kind.int .i64)), (7, (Kind.int .i32))] [6, 7, 17, 18, 19, 20, 21, 22, 23, 24, 25, 26, 27, 28, 29, 30, 31, 32, 33], .join [(6, (Kind.int .i64)), (7, (Kind.int .i32))] [6, 7, 17, 18, 19, 20, 21, 22, 23, 24, 25, 26, 27, 28, 29], .none, .none, .none, .none, .none, .none, .none, .none, .none, .none, .none, .none, .none, .join [(3, Kind.slice), (6, (Kind.int .i64))] [3, 6, 50, 51, 52, 53, 54, 55, 56, 57, 58, 59, 60, 61, 62, 63], .none, .none, .none, .none]

theorem vc_utf_Encode (l : Slc) (w : World) (K : Slc → World → Prop) :
    vcFn C (Tryz.f90.body.getD .skip) Tryz.f90.results.toList Tryz.f90.ntmps an_utf_Encode [Kind.slice] [(.slice l.a l.n l.c)] w (fun s w => K s.1 w) = sh_utf_Encode l w K := by kernel_rfl

theorem call_utf_Encode (l : Slc) {w : World} {K : Slc → World → Prop} (h : sh_utf_Encode l w K) : c_utf_Encode l w K := by
  rw [← vc_utf_Encode] at h
  refine Calls.mono (calls_of_vc C.plain_ok C.mixed Tryz.func90 rfl h) ?_
  rintro e w' ⟨s, rfl, hK⟩
  exact ⟨s.1, rfl, hK⟩

/-- strings.TrimRight -/
def sh_strings_TrimRight (s : ByteArray) (cutset : ByteArray) (w : World) (K : ByteArray → World → Prop) : Prop :=
  joinP (σ := Unit) (fun s_1 w1 =>
    joinP (σ := Unit) (fun s_2 w2 =>
      False) fun J2 =>
    joinP (σ := Bool × Unit) (fun s_3 w3 =>
      cond s_3.1
        (ixS cutset 0 fun t24 =>
         c_strings_trimRightByte s t24 w3 fun t25 w4 =>
         K t25 w4)
        (J2 (()) w3)) fun J3 =>
    cond ((cutset.size : Int) == (1 : Int))
      (ixS cutset 0 fun t19 =>
       J3 ((decide (t19 < (128 : Int))), ()) w1)
      (J3 (false, ()) w1)) fun J1 =>
  cond (s.toList == (⟨#[]⟩ : ByteArray).toList)
    (K s w)
    (cond (cutset.toList == (⟨#[]⟩ : ByteArray).toList)
       (K s w)
       (J1 (()) w))

def an_strings_TrimRight : List Ann := [.none, .join [] [4, 7, 8, 9, 10, 11, 12, 13], .none, .none, .join [] [4, 14, 15, 16, 17, 18, 19, 20, 21, 22, 23, 24, 25], .join [(21, Kind.bool)] [14, 15, 16, 17, 18, 19, 20, 21], .none, .none, .none, .none, .none, .none]

theorem vc_strings_TrimRight (s : ByteArray) (cutset : ByteArray) (w : World) (K : ByteArray → World → Prop) :
    vcFn C (Tryz.f91.body.getD .skip) Tryz.f91.results.toList Tryz.f91.ntmps an_strings_TrimRight [Kind.string] [(.string s), (.string cutset)] w (fun s w => K s.1 w) = sh_strings_TrimRight s cutset w K := by kernel_rfl

theorem call_strings_TrimRight (s : ByteArray) (cutset : ByteArray) {w : World} {K : ByteArray → World → Prop} (h : sh_strings_TrimRight s cutset w K) : c_strings_TrimRight s cutset w K := by
  rw [← vc_strings_TrimRight] at h
  refine Calls.mono (calls_of_vc C.plain_ok C.mixed Tryz.func91 rfl h) ?_
  rintro e w' ⟨s, rfl, hK⟩
  exact ⟨s.1, rfl, hK⟩

/-- (*strings.Builder).String -/
def sh_strings_Builder_String (b : Option Addr) (w : World) (K : ByteArray → World → Prop) : Prop :=
  onPtr b fun t4 =>
  ldSl (t4.add 1) w.drew fun t6 =>
  onPtr b fun t9 =>
  ldSl (t9.add 1) w.drew fun t11 =>
  runK1 PG (Builtin.unsafeSliceData_ #[ty_sl_uint8] ty_p_uint8 #[(.slice t6.a t6.n t6.c)]) Kind.ptr w.drew fun (t7 : Option Addr) w1 =>
  World.cell? w1 (t9.add 1) = some (.slice t11.a t11.n t11.c) ∧
  runK1 PG (Builtin.unsafeString_ #[ty_p_uint8, ty_int] ty_string #[(.pointer t7), (.int .i64 ((t11.n : Nat) : Int))]) Kind.string w1 fun (t13 : ByteArray) w2 =>
  K t13 w2

def an_strings_Builder_String : List Ann := [.none, .none]

theorem vc_strings_Builder_String (b : Option Addr) (w : World) (K : ByteArray → World → Prop) :
    vcFn C (Tryz.f92.body.getD .skip) Tryz.f92.results.toList Tryz.f92.ntmps an_strings_Builder_String [Kind.string] [(.pointer b)] w (fun s w => K s.1 w) = sh_strings_Builder_String b w K := by kernel_rfl

theorem call_strings_Builder_String (b : Option Addr) {w : World} {K : ByteArray → World → Prop} (h : sh_strings_Builder_String b w K) : c_strings_Builder_String b w K := by
  rw [← vc_strings_Builder_String] at h
  refine Calls.mono (calls_of_vc C.plain_ok C.mixed Tryz.func92 rfl h) ?_
  rintro e w' ⟨s, rfl, hK⟩
  exact ⟨s.1, rfl, hK⟩

/-- phosphor/phosphorref16.size -/
def sh_phosphorref16_size (n : Int) (w : World) (K : Bool → World → Prop) : Prop :=
  cond (decide (n ≥ (1 : Int)))
    (K (decide (n ≤ (1000 : Int))) w)
    (K false w)

def an_phosphorref16_size : List Ann := [.none, .none]

theorem vc_phosphorref16_size (n : Int) (w : World) (K : Bool → World → Prop) :
    vcFn C (Tryz.f93.body.getD .skip) Tryz.f93.results.toList Tryz.f93.ntmps an_phosphorref16_size [Kind.bool] [(.int .i64 n)] w (fun s w => K s.1 w) = sh_phosphorref16_size n w K := by kernel_rfl

theorem call_phosphorref16_size (n : Int) {w : World} {K : Bool → World → Prop} (h : sh_phosphorref16_size n w K) : c_phosphorref16_size n w K := by
  rw [← vc_phosphorref16_size] at h
  refine Calls.mono (calls_of_vc C.plain_ok C.mixed Tryz.func93 rfl h) ?_
  rintro e w' ⟨s, rfl, hK⟩
  exact ⟨s.1, rfl, hK⟩

/-- (*phosphor/phosphorref16.Grid).Clear -/
def sh_phosphorref16_Grid_Clear (g : Option Addr) (a : T_api_Attr) (w : World) (K : World → Prop) : Prop :=
  nw ty_api_Attr (T_api_Attr.rep.cells a) w fun a_1 w1 =>
  onPtr g fun t6 =>
  stK (t6.add 3) [(.slice none 0 0)] w1 fun w2 =>
  loopP (σ := Int × Unit) (fun I1 s w3 =>
    onPtr g fun t10 =>
    ldI .i64 (t10.add 0) w3 fun t12 =>
    cond (decide (s.1 < t12))
      (onPtr g fun t18 =>
       ldSl (t18.add 3) w3.drew fun t20 =>
       onPtr g fun t22 =>
       ldI .i64 (t22.add 1) w3.drew fun t24 =>
       ldS T_api_Attr.rep a_1 w3.drew fun t25 =>
       c_phosphorref13_New t24 t25 w3.drew fun t26 w4 =>
       World.cell? w4 (t18.add 3) = some (.slice t20.a t20.n t20.c) ∧
       nw ty_sl_api_Cell [(.slice t26.a t26.n t26.c)] w4 fun t27 w5 =>
       World.cell? w5 (t18.add 3) = some (.slice t20.a t20.n t20.c) ∧
       apK PG #[ty_sl_sl_api_Cell, ty_sl_sl_api_Cell] ty_sl_sl_api_Cell t20 (⟨(some t27), 1, 1⟩ : Slc) w5 fun t28 w6 =>
       onPtr g fun t29 =>
       stK (t29.add 3) [(.slice t28.a t28.n t28.c)] w6 fun w7 =>
       I1 ((IntKind.i64.wrap (s.1 + (1 : Int))), ()) w7)
      (K w3)) (0, ()) w2

def an_phosphorref16_Grid_Clear : List Ann := [.none, .none, .none, .join [(4, (Kind.int .i64))] [4, 8, 9, 10, 11, 12, 13, 14, 15, 16, 17, 18, 19, 20, 21, 22, 23, 24, 25, 26, 27, 28, 29, 30], .none, .none, .none]

theorem vc_phosphorref16_Grid_Clear (g : Option Addr) (a : T_api_Attr) (w : World) (K : World → Prop) :
    vcFn C (Tryz.f94.body.getD .skip) Tryz.f94.results.toList Tryz.f94.ntmps an_phosphorref16_Grid_Clear [] [(.pointer g), (.agg #[(.int .i64 a.Fg), (.int .i64 a.Bg), (.int .i64 a.Flags)])] w (fun s w => K w) = sh_phosphorref16_Grid_Clear g a w K := by kernel_rfl

theorem call_phosphorref16_Grid_Clear (g : Option Addr) (a : T_api_Attr) {w : World} {K : World → Prop} (h : sh_phosphorref16_Grid_Clear g a w K) : c_phosphorref16_Grid_Clear g a w K := by
  rw [← vc_phosphorref16_Grid_Clear] at h
  refine Calls.mono (calls_of_vc C.plain_ok C.mixed Tryz.func94 rfl h) ?_
  rintro e w' ⟨s, rfl, hK⟩
  exact ⟨rfl, hK⟩

/-- (*phosphor/grid.Grid).First -/
def sh_grid_Grid_First (g : Option Addr) (w : World) (K : Int → World → Prop) : Prop :=
  onPtr g fun t4 =>
  ldI .i64 (t4.add 4) w.drew fun t6 =>
  c_grid_Grid_Back g w.drew fun t8 w1 =>
  World.cell? w1 (t4.add 4) = some (.int .i64 t6) ∧
  K (IntKind.i64.wrap (t6 - t8)) w1

def an_grid_Grid_First : List Ann := [.none, .none]

theorem vc_grid_Grid_First (g : Option Addr) (w : World) (K : Int → World → Prop) :
    vcFn C (Tryz.f96.body.getD .skip) Tryz.f96.results.toList Tryz.f96.ntmps an_grid_Grid_First [(Kind.int .i64)] [(.pointer g)] w (fun s w => K s.1 w) = sh_grid_Grid_First g w K := by kernel_rfl

theorem call_grid_Grid_First (g : Option Addr) {w : World} {K : Int → World → Prop} (h : sh_grid_Grid_First g w K) : c_grid_Grid_First g w K := by
  rw [← vc_grid_Grid_First] at h
  refine Calls.mono (calls_of_vc C.plain_ok C.mixed Tryz.func96 rfl h) ?_
  rintro e w' ⟨s, rfl, hK⟩
  exact ⟨s.1, rfl, hK⟩

/-- (*phosphor/tabs.Stops).All -/
def sh_tabs_Stops_All (s : Option Addr) (w : World) (K : Slc → World → Prop) : Prop :=
  onPtr s fun t4 =>
  ldM (t4.add 1) w fun t6 =>
  c_maps_Keys_map_int_bool_int_bool t6 w fun t7 w1 =>
  c_slices_Sorted_int t7 w1 fun t8 w2 =>
  K t8 w2

def an_tabs_Stops_All : List Ann := [.none, .none]

theorem vc_tabs_Stops_All (s : Option Addr) (w : World) (K : Slc → World → Prop) :
    vcFn C (Tryz.f97.body.getD .skip) Tryz.f97.results.toList Tryz.f97.ntmps an_tabs_Stops_All [Kind.slice] [(.pointer s)] w (fun s w => K s.1 w) = sh_tabs_Stops_All s w K := by kernel_rfl

theorem call_tabs_Stops_All (s : Option Addr) {w : World} {K : Slc → World → Prop} (h : sh_tabs_Stops_All s w K) : c_tabs_Stops_All s w K := by
  rw [← vc_tabs_Stops_All] at h
  refine Calls.mono (calls_of_vc C.plain_ok C.mixed Tryz.func97 rfl h) ?_
  rintro e w' ⟨s, rfl, hK⟩
  exact ⟨s.1, rfl, hK⟩

/-- (*phosphor/screen.Screen).Mode -/
def sh_screen_Screen_Mode (s : Option Addr) (n : Int) (private_ : Bool) (w : World) (K : Bool → Bool → World → Prop) : Prop :=
  cond (!private_)
    (onPtr s fun t11 =>
     ldM (t11.add 35) w fun t13 =>
     runK1 PG (Instr.lookup ty_map_int_bool (.map t13) (.int .i64 n) false) Kind.bool w fun (t15 : Bool) w1 =>
     cond (n == (4 : Int))
       (K t15 true w1)
       (K t15 (n == (20 : Int)) w1))
    (cond (n == (6 : Int))
       (onPtr s fun t26 =>
        ldB ((t26.add 3).add 6) w fun t29 =>
        K t29 true w)
       (joinP (σ := Bool × Unit) (fun s_1 w2 =>
          cond s_1.1
            (c_screen_Screen_Alt s w2 fun t35 w3 =>
             K t35 true w3)
            (joinP (σ := Bool × Unit) (fun s_2 w4 =>
               cond s_2.1
                 (onPtr s fun t43 =>
                  ldM (t43.add 36) w4 fun t45 =>
                  runK1 PG (Instr.lookup ty_map_int_bool (.map t45) (.int .i64 n) false) Kind.bool w4 fun (t47 : Bool) w5 =>
                  K t47 true w5)
                 (K false false w4)) fun J2 =>
             cond (n == (1 : Int))
               (J2 ((n == (1 : Int)), ()) w2)
               (cond (n == (7 : Int))
                  (J2 ((n == (7 : Int)), ()) w2)
                  (cond (n == (25 : Int))
                     (J2 ((n == (25 : Int)), ()) w2)
                     (cond (n == (1000 : Int))
                        (J2 ((n == (1000 : Int)), ()) w2)
                        (J2 ((n == (2004 : Int)), ()) w2)))))) fun J1 =>
        cond (n == (47 : Int))
          (J1 ((n == (47 : Int)), ()) w)
          (cond (n == (1047 : Int))
             (J1 ((n == (1047 : Int)), ()) w)
             (J1 ((n == (1049 : Int)), ()) w))))

def an_screen_Screen_Mode : List Ann := [.none, .none, .none, .none, .none, .none, .none, .none, .join [(30, Kind.bool)] [30, 31, 32, 33], .none, .none, .none, .join [(36, Kind.bool)] [36, 37, 38, 39, 40, 41], .none, .none, .none, .none, .none, .none]

theorem vc_screen_Screen_Mode (s : Option Addr) (n : Int) (private_ : Bool) (w : World) (K : Bool → Bool → World → Prop) :
    vcFn C (Tryz.f98.body.getD .skip) Tryz.f98.results.toList Tryz.f98.ntmps an_screen_Screen_Mode [Kind.bool, Kind.bool] [(.pointer s), (.int .i64 n), (.bool private_)] w (fun s w => K s.1 s.2.1 w) = sh_screen_Screen_Mode s n private_ w K := by kernel_rfl

theorem call_screen_Screen_Mode (s : Option Addr) (n : Int) (private_ : Bool) {w : World} {K : Bool → Bool → World → Prop} (h : sh_screen_Screen_Mode s n private_ w K) : c_screen_Screen_Mode s n private_ w K := by
  rw [← vc_screen_Screen_Mode] at h
  refine Calls.mono (calls_of_vc C.plain_ok C.mixed Tryz.func98 rfl h) ?_
  rintro e w' ⟨s, rfl, hK⟩
  exact ⟨s.1, s.2.1, rfl, hK⟩

/-- (*phosphor/phosphorref17.Screen).Mode -/
def sh_phosphorref17_Screen_Mode (s : Option Addr) (n : Int) (private_ : Bool) (w : World) (K : Bool → Bool → World → Prop) : Prop :=
  cond (!private_)
    (cond (n == (4 : Int))
       (onPtr s fun t14 =>
        ldB (t14.add 35) w fun t16 =>
        K t16 true w)
       (cond (n == (20 : Int))
          (onPtr s fun t20 =>
           ldB (t20.add 36) w fun t22 =>
           K t22 true w)
          (K false false w)))
    (cond (n == (6 : Int))
       (onPtr s fun t27 =>
        ldB ((t27.add 3).add 6) w fun t30 =>
        K t30 true w)
       (joinP (σ := Bool × Unit) (fun s_1 w1 =>
          cond s_1.1
            (onPtr s fun t36 =>
             ldI .i64 (t36.add 2) w1 fun t38 =>
             K (t38 == (1 : Int)) true w1)
            (joinP (σ := Bool × Unit) (fun s_2 w2 =>
               cond s_2.1
                 (c_phosphorref17_Screen_has s n w2 fun t48 w3 =>
                  K t48 true w3)
                 (K false false w2)) fun J2 =>
             cond (n == (1 : Int))
               (J2 ((n == (1 : Int)), ()) w1)
               (cond (n == (7 : Int))
                  (J2 ((n == (7 : Int)), ()) w1)
                  (cond (n == (25 : Int))
                     (J2 ((n == (25 : Int)), ()) w1)
                     (cond (n == (1000 : Int))
                        (J2 ((n == (1000 : Int)), ()) w1)
                        (J2 ((n == (2004 : Int)), ()) w1)))))) fun J1 =>
        cond (n == (47 : Int))
          (J1 ((n == (47 : Int)), ()) w)
          (cond (n == (1047 : Int))
             (J1 ((n == (1047 : Int)), ()) w)
             (J1 ((n == (1049 : Int)), ()) w))))

def an_phosphorref17_Screen_Mode : List Ann := [.none, .none, .none, .none, .none, .none, .none, .none, .none, .none, .none, .none, .none, .none, .join [(31, Kind.bool)] [31, 32, 33, 34], .none, .none, .none, .join [(40, Kind.bool)] [40, 41, 42, 43, 44, 45], .none, .none, .none, .none, .none, .none]

theorem vc_phosphorref17_Screen_Mode (s : Option Addr) (n : Int) (private_ : Bool) (w : World) (K : Bool → Bool → World → Prop) :
    vcFn C (Tryz.f99.body.getD .skip) Tryz.f99.results.toList Tryz.f99.ntmps an_phosphorref17_Screen_Mode [Kind.bool, Kind.bool] [(.pointer s), (.int .i64 n), (.bool private_)] w (fun s w => K s.1 s.2.1 w) = sh_phosphorref17_Screen_Mode s n private_ w K := by kernel_rfl

theorem call_phosphorref17_Screen_Mode (s : Option Addr) (n : Int) (private_ : Bool) {w : World} {K : Bool → Bool → World → Prop} (h : sh_phosphorref17_Screen_Mode s n private_ w K) : c_phosphorref17_Screen_Mode s n private_ w K := by
  rw [← vc_phosphorref17_Screen_Mode] at h
  refine Calls.mono (calls_of_vc C.plain_ok C.mixed Tryz.func99 rfl h) ?_
  rintro e w' ⟨s, rfl, hK⟩
  exact ⟨s.1, s.2.1, rfl, hK⟩

/-- (phosphor/line.Line).Resize -/
def sh_line_Line_Resize (l : Slc) (cols : Int) (w : World) (K : Slc → World → Prop) : Prop :=
  c_line_Line_Mend l w fun t10 w1 =>
  cond (decide ((if (1000 : Int) < (if (0 : Int) > cols then (0 : Int) else cols) then (1000 : Int) else (if (0 : Int) > cols then (0 : Int) else cols)) ≤ ((t10.n : Nat) : Int)))
    (slK t10 none (some (if (1000 : Int) < (if (0 : Int) > cols then (0 : Int) else cols) then (1000 : Int) else (if (0 : Int) > cols then (0 : Int) else cols))) 5 fun t17 =>
     c_line_Line_Mend t17 w1 fun t18 w2 =>
     K t18 w2)
    (c_line_blanks (IntKind.i64.wrap ((if (1000 : Int) < (if (0 : Int) > cols then (0 : Int) else cols) then (1000 : Int) else (if (0 : Int) > cols then (0 : Int) else cols)) - ((t10.n : Nat) : Int))) (⟨0, 0, 0⟩ : T_api_Attr) w1 fun t25 w3 =>
     nw ty_line_Line [(.slice t10.a t10.n t10.c), (.slice t25.a t25.n t25.c)] w3 fun t26 w4 =>
     c_slices_Concat_line_Line_api_Cell (⟨(some t26), 2, 2⟩ : Slc) w4 fun t27 w5 =>
     K t27 w5)

def an_line_Line_Resize : List Ann := [.none, .none, .none, .none, .none, .none, .none]

theorem vc_line_Line_Resize (l : Slc) (cols : Int) (w : World) (K : Slc → World → Prop) :
    vcFn C (Tryz.f100.body.getD .skip) Tryz.f100.results.toList Tryz.f100.ntmps an_line_Line_Resize [Kind.slice] [(.slice l.a l.n l.c), (.int .i64 cols)] w (fun s w => K s.1 w) = sh_line_Line_Resize l cols w K := by kernel_rfl

theorem call_line_Line_Resize (l : Slc) (cols : Int) {w : World} {K : Slc → World → Prop} (h : sh_line_Line_Resize l cols w K) : c_line_Line_Resize l cols w K := by
  rw [← vc_line_Line_Resize] at h
  refine Calls.mono (calls_of_vc C.plain_ok C.mixed Tryz.func100 rfl h) ?_
  rintro e w' ⟨s, rfl, hK⟩
  exact ⟨s.1, rfl, hK⟩

/-- (*phosphor/grid.Grid).Scroll -/
def sh_grid_Grid_Scroll (g : Option Addr) (top : Int) (past : Int) (n : Int) (a : T_api_Attr) (w : World) (K : Int → World → Prop) : Prop :=
  nw ty_api_Attr (T_api_Attr.rep.cells a) w fun a_1 w1 =>
  joinP (σ := Unit) (fun s w2 =>
    joinP (σ := Int × Unit) (fun s_1 w3 =>
      onPtr g fun t56 =>
      ldSl (t56.add 3) w3 fun t58 =>
      slK3 t58 (some top) past past 1 fun t62 =>
      cond (!(decide (n > (0 : Int))))
        (onPtr g fun t67 =>
         ldSl (t67.add 3) w3.drew fun t69 =>
         slK3 t69 none top top 1 fun t72 =>
         ldS T_api_Attr.rep a_1 w3.drew fun t75 =>
         slK t62 none (some (IntKind.i64.wrap ((IntKind.i64.wrap (past - top)) - (if (IntKind.i64.wrap (0 - s_1.1)) > s_1.1 then (IntKind.i64.wrap (0 - s_1.1)) else s_1.1)))) 1 fun t81 =>
         onPtr g fun t83 =>
         ldSl (t83.add 3) w3.drew fun t85 =>
         slK t85 (some past) none 1 fun t87 =>
         c_grid_Grid_blanks g (if (IntKind.i64.wrap (0 - s_1.1)) > s_1.1 then (IntKind.i64.wrap (0 - s_1.1)) else s_1.1) t75 w3.drew fun t76 w4 =>
         World.cell? w4 (t83.add 3) = some (.slice t85.a t85.n t85.c) ∧
         World.cell? w4 (t67.add 3) = some (.slice t69.a t69.n t69.c) ∧
         nw ty_sl_line_Line [(.slice t72.a t72.n t72.c), (.slice t76.a t76.n t76.c), (.slice t81.a t81.n t81.c), (.slice t87.a t87.n t87.c)] w4 fun t88 w5 =>
         c_slices_Concat_line_Line_line_Line (⟨(some t88), 4, 4⟩ : Slc) w5 fun t89 w6 =>
         onPtr g fun t90 =>
         stK (t90.add 3) [(.slice t89.a t89.n t89.c)] w6 fun w7 =>
         K 0 w7)
        (slK3 t62 none (if (IntKind.i64.wrap (0 - s_1.1)) > s_1.1 then (IntKind.i64.wrap (0 - s_1.1)) else s_1.1) (if (IntKind.i64.wrap (0 - s_1.1)) > s_1.1 then (IntKind.i64.wrap (0 - s_1.1)) else s_1.1) 1 fun t95 =>
         onPtr g fun t98 =>
         ldSl (t98.add 3) w3.drew fun t100 =>
         slK3 t100 none top top 1 fun t103 =>
         slK t62 (some (if (IntKind.i64.wrap (0 - s_1.1)) > s_1.1 then (IntKind.i64.wrap (0 - s_1.1)) else s_1.1)) none 1 fun t106 =>
         ldS T_api_Attr.rep a_1 w3.drew fun t109 =>
         onPtr g fun t112 =>
         ldSl (t112.add 3) w3.drew fun t114 =>
         slK t114 (some past) none 1 fun t116 =>
         c_grid_Grid_blanks g (if (IntKind.i64.wrap (0 - s_1.1)) > s_1.1 then (IntKind.i64.wrap (0 - s_1.1)) else s_1.1) t109 w3.drew fun t110 w8 =>
         World.cell? w8 (t112.add 3) = some (.slice t114.a t114.n t114.c) ∧
         World.cell? w8 (t98.add 3) = some (.slice t100.a t100.n t100.c) ∧
         nw ty_sl_line_Line [(.slice t103.a t103.n t103.c), (.slice t106.a t106.n t106.c), (.slice t110.a t110.n t110.c), (.slice t116.a t116.n t116.c)] w8 fun t117 w9 =>
         c_slices_Concat_line_Line_line_Line (⟨(some t117), 4, 4⟩ : Slc) w9 fun t118 w10 =>
         onPtr g fun t119 =>
         stK (t119.add 3) [(.slice t118.a t118.n t118.c)] w10 fun w11 =>
         cond (top != (0 : Int))
           (K 0 w11)
           (loopP (σ := Int × Unit) (fun I3 s_2 w12 =>
              cond (decide (s_2.1 < ((t95.n : Nat) : Int)))
                (ixK t95 s_2.1 1 fun t127 =>
                 ldSl t127 w12 fun t128 =>
                 onPtr g fun t130 =>
                 ldP (t130.add 0) w12 fun t132 =>
                 c_ring_Ring_line_Line_Push t132 t128 w12 fun t134 t134_1 w13 =>
                 I3 ((IntKind.i64.wrap (s_2.1 + (1 : Int))), ()) w13)
                (onPtr g fun t137 =>
                 ldI .i64 (t137.add 4) w12 fun t139 =>
                 onPtr g fun t142 =>
                 stK (t142.add 4) [(.int .i64 (IntKind.i64.wrap (t139 + (if (IntKind.i64.wrap (0 - s_1.1)) > s_1.1 then (IntKind.i64.wrap (0 - s_1.1)) else s_1.1))))] w12 fun w14 =>
                 K (if (IntKind.i64.wrap (0 - s_1.1)) > s_1.1 then (IntKind.i64.wrap (0 - s_1.1)) else s_1.1) w14)) (0, ()) w11))) fun J2 =>
    cond (decide (n > (IntKind.i64.wrap (past - top))))
      (J2 ((IntKind.i64.wrap (past - top)), ()) w2)
      (cond (decide (n < (IntKind.i64.wrap (0 - (IntKind.i64.wrap (past - top))))))
         (J2 ((IntKind.i64.wrap (past - top)), ()) w2)
         (J2 (n, ()) w2))) fun J1 =>
  cond (n == (0 : Int))
    (K 0 w1)
    (cond (decide (top < (0 : Int)))
       (K 0 w1)
       (cond (decide (past ≤ top))
          (K 0 w1)
          (onPtr g fun t31 =>
           ldI .i64 (t31.add 1) w1 fun t33 =>
           cond (decide (past > t33))
             (K 0 w1)
             (J1 (()) w1))))

def an_grid_Grid_Scroll : List Ann := [.none, .join [] [10, 17, 18, 19, 20, 21, 22, 23, 24, 25, 26, 27, 28, 29, 30, 31, 32, 33, 34, 35], .none, .none, .none, .join [(3, (Kind.int .i64))] [3, 41, 42, 43, 44, 45, 46, 47, 48, 49, 50], .none, .none, .none, .none, .none, .none, .none, .none, .none, .none, .none, .none, .none, .none, .join [(125, (Kind.int .i64))] [16, 125, 126, 127, 128, 129, 130, 131, 132, 133, 134, 135], .none, .none, .none, .none, .none, .none]

theorem vc_grid_Grid_Scroll (g : Option Addr) (top : Int) (past : Int) (n : Int) (a : T_api_Attr) (w : World) (K : Int → World → Prop) :
    vcFn C (Tryz.f101.body.getD .skip) Tryz.f101.results.toList Tryz.f101.ntmps an_grid_Grid_Scroll [(Kind.int .i64)] [(.pointer g), (.int .i64 top), (.int .i64 past), (.int .i64 n), (.agg #[(.int .i64 a.Fg), (.int .i64 a.Bg), (.int .i64 a.Flags)])] w (fun s w => K s.1 w) = sh_grid_Grid_Scroll g top past n a w K := by kernel_rfl

theorem call_grid_Grid_Scroll (g : Option Addr) (top : Int) (past : Int) (n : Int) (a : T_api_Attr) {w : World} {K : Int → World → Prop} (h : sh_grid_Grid_Scroll g top past n a w K) : c_grid_Grid_Scroll g top past n a w K := by
  rw [← vc_grid_Grid_Scroll] at h
  refine Calls.mono (calls_of_vc C.plain_ok C.mixed Tryz.func101 rfl h) ?_
  rintro e w' ⟨s, rfl, hK⟩
  exact ⟨s.1, rfl, hK⟩

/-- slices.Concat[[]phosphor/line.Line,phosphor/line.Line] -/
def sh_slices_Concat_line_Line_line_Line (slices : Slc) (w : World) (K : Slc → World → Prop) : Prop :=
  loopP (σ := Int × Int × Unit) (fun I1 s w1 =>
    cond (decide (s.2.1 < ((slices.n : Nat) : Int)))
      (ixK slices s.2.1 1 fun t13 =>
       ldSl t13 w1 fun t14 =>
       cond (decide ((IntKind.i64.wrap (s.1 + ((t14.n : Nat) : Int))) < (0 : Int)))
         (False)
         (I1 ((IntKind.i64.wrap (s.1 + ((t14.n : Nat) : Int))), (IntKind.i64.wrap (s.2.1 + (1 : Int))), ()) w1))
      (c_slices_Grow_line_Line_line_Line (⟨none, 0, 0⟩ : Slc) s.1 w1 fun t24 w2 =>
       loopP (σ := Slc × Int × Unit) (fun I2 s_1 w3 =>
         cond (decide (s_1.2.1 < ((slices.n : Nat) : Int)))
           (ixK slices s_1.2.1 1 fun t29 =>
            ldSl t29 w3 fun t30 =>
            apK PG #[ty_sl_line_Line, ty_sl_line_Line] ty_sl_line_Line s_1.1 t30 w3 fun t33 w4 =>
            I2 (t33, (IntKind.i64.wrap (s_1.2.1 + (1 : Int))), ()) w4)
           (K s_1.1 w3)) (t24, 0, ()) w2)) (0, 0, ()) w

def an_slices_Concat_line_Line_line_Line : List Ann := [.none, .none, .none, .none, .join [(3, (Kind.int .i64)), (11, (Kind.int .i64))] [3, 5, 11, 12, 13, 14, 15, 16, 17, 18, 19, 20, 21, 22], .none, .none, .none, .none, .none, .none, .none, .none, .none, .join [(6, Kind.slice), (27, (Kind.int .i64))] [6, 8, 27, 28, 29, 30, 31, 32, 33, 34], .none, .none, .none, .none, .none]

theorem vc_slices_Concat_line_Line_line_Line (slices : Slc) (w : World) (K : Slc → World → Prop) :
    vcFn C (Tryz.f102.body.getD .skip) Tryz.f102.results.toList Tryz.f102.ntmps an_slices_Concat_line_Line_line_Line [Kind.slice] [(.slice slices.a slices.n slices.c)] w (fun s w => K s.1 w) = sh_slices_Concat_line_Line_line_Line slices w K := by kernel_rfl

theorem call_slices_Concat_line_Line_line_Line (slices : Slc) {w : World} {K : Slc → World → Prop} (h : sh_slices_Concat_line_Line_line_Line slices w K) : c_slices_Concat_line_Line_line_Line slices w K := by
  rw [← vc_slices_Concat_line_Line_line_Line] at h
  refine Calls.mono (calls_of_vc C.plain_ok C.mixed Tryz.func102 rfl h) ?_
  rintro e w' ⟨s, rfl, hK⟩
  exact ⟨s.1, rfl, hK⟩

/-- (*phosphor/grid.Grid).blanks -/
def sh_grid_Grid_blanks (g : Option Addr) (n : Int) (a : T_api_Attr) (w : World) (K : Slc → World → Prop) : Prop :=
  nw ty_api_Attr (T_api_Attr.rep.cells a) w fun a_1 w1 =>
  loopP (σ := Slc × Int × Unit) (fun I1 s w2 =>
    cond (decide (s.2.1 < n))
      (onPtr g fun t13 =>
       ldI .i64 (t13.add 2) w2.drew fun t15 =>
       ldS T_api_Attr.rep a_1 w2.drew fun t16 =>
       c_line_New t15 t16 w2.drew fun t17 w3 =>
       nw ty_line_Line [(.slice t17.a t17.n t17.c)] w3 fun t18 w4 =>
       apK PG #[ty_sl_line_Line, ty_sl_line_Line] ty_sl_line_Line s.1 (⟨(some t18), 1, 1⟩ : Slc) w4 fun t19 w5 =>
       I1 (t19, (IntKind.i64.wrap (s.2.1 + (1 : Int))), ()) w5)
      (K s.1 w2)) (⟨none, 0, 0⟩, 0, ()) w1

def an_grid_Grid_blanks : List Ann := [.none, .none, .none, .none, .join [(7, Kind.slice), (9, (Kind.int .i64))] [7, 9, 10, 11, 12, 13, 14, 15, 16, 17, 18, 19, 20], .none, .none, .none, .none]

theorem vc_grid_Grid_blanks (g : Option Addr) (n : Int) (a : T_api_Attr) (w : World) (K : Slc → World → Prop) :
    vcFn C (Tryz.f103.body.getD .skip) Tryz.f103.results.toList Tryz.f103.ntmps an_grid_Grid_blanks [Kind.slice] [(.pointer g), (.int .i64 n), (.agg #[(.int .i64 a.Fg), (.int .i64 a.Bg), (.int .i64 a.Flags)])] w (fun s w => K s.1 w) = sh_grid_Grid_blanks g n a w K := by kernel_rfl

theorem call_grid_Grid_blanks (g : Option Addr) (n : Int) (a : T_api_Attr) {w : World} {K : Slc → World → Prop} (h : sh_grid_Grid_blanks g n a w K) : c_grid_Grid_blanks g n a w K := by
  rw [← vc_grid_Grid_blanks] at h
  refine Calls.mono (calls_of_vc C.plain_ok C.mixed Tryz.func103 rfl h) ?_
  rintro e w' ⟨s, rfl, hK⟩
  exact ⟨s.1, rfl, hK⟩

/-- (*phosphor/screen.Screen).blank -/
def sh_screen_Screen_blank (s : Option Addr) (w : World) (K : T_api_Attr → World → Prop) : Prop :=
  nw ty_api_Attr [(.int .i64 0), (.int .i64 0), (.int .i64 0)] w fun t2 w1 =>
  onPtr s fun t4 =>
  ldI .i64 (((t4.add 3).add 3).add 1) w1 fun t8 =>
  stK t2 [(.int .i64 0), (.int .i64 t8), (.int .i64 0)] w1 fun w2 =>
  ldS T_api_Attr.rep t2 w2 fun r =>
  K r w2

def an_screen_Screen_blank : List Ann := [.none, .none]

theorem vc_screen_Screen_blank (s : Option Addr) (w : World) (K : T_api_Attr → World → Prop) :
    vcFn C (Tryz.f104.body.getD .skip) Tryz.f104.results.toList Tryz.f104.ntmps an_screen_Screen_blank [(Kind.struct T_api_Attr.rep)] [(.pointer s)] w (fun s w => K s.1 w) = sh_screen_Screen_blank s w K := by kernel_rfl

theorem call_screen_Screen_blank (s : Option Addr) {w : World} {K : T_api_Attr → World → Prop} (h : sh_screen_Screen_blank s w K) : c_screen_Screen_blank s w K := by
  rw [← vc_screen_Screen_blank] at h
  refine Calls.mono (calls_of_vc C.plain_ok C.mixed Tryz.func104 rfl h) ?_
  rintro e w' ⟨s, rfl, hK⟩
  exact ⟨s.1, rfl, hK⟩

/-- (phosphor/line.Line).is -/
def sh_line_Line_is (l : Slc) (col : Int) (kind : Int) (w : World) (K : Bool → World → Prop) : Prop :=
  cond (decide (col ≥ (0 : Int)))
    (cond (decide (col < ((l.n : Nat) : Int)))
       (ixK l col 5 fun t18 =>
        ldI .i64 (t18.add 1) w fun t20 =>
        K (t20 == kind) w)
       (K false w))
    (K false w)

def an_line_Line_is : List Ann := [.none, .none]

theorem vc_line_Line_is (l : Slc) (col : Int) (kind : Int) (w : World) (K : Bool → World → Prop) :
    vcFn C (Tryz.f105.body.getD .skip) Tryz.f105.results.toList Tryz.f105.ntmps an_line_Line_is [Kind.bool] [(.slice l.a l.n l.c), (.int .i64 col), (.int .i64 kind)] w (fun s w => K s.1 w) = sh_line_Line_is l col kind w K := by kernel_rfl

theorem call_line_Line_is (l : Slc) (col : Int) (kind : Int) {w : World} {K : Bool → World → Prop} (h : sh_line_Line_is l col kind w K) : c_line_Line_is l col kind w K := by
  rw [← vc_line_Line_is] at h
  refine Calls.mono (calls_of_vc C.plain_ok C.mixed Tryz.func105 rfl h) ?_
  rintro e w' ⟨s, rfl, hK⟩
  exact ⟨s.1, rfl, hK⟩

/-- phosphor/utf.lines -/
def sh_utf_lines  (w : World) (K : Slc → World → Prop) : Prop :=
  nw ty_int32 [(.int .i32 160), (.int .i32 9670), (.int .i32 9618), (.int .i32 9225), (.int .i32 9228), (.int .i32 9229), (.int .i32 9226), (.int .i32 176), (.int .i32 177), (.int .i32 9252), (.int .i32 9227), (.int .i32 9496), (.int .i32 9488), (.int .i32 9484), (.int .i32 9492), (.int .i32 9532), (.int .i32 9146), (.int .i32 9147), (.int .i32 9472), (.int .i32 9148), (.int .i32 9149), (.int .i32 9500), (.int .i32 9508), (.int .i32 9524), (.int .i32 9516), (.int .i32 9474), (.int .i32 8804), (.int .i32 8805), (.int .i32 960), (.int .i32 8800), (.int .i32 163), (.int .i32 183)] w fun t1 w1 =>
  K (⟨(some t1), 32, 32⟩ : Slc) w1

def an_utf_lines : List Ann := [.none, .none]

theorem vc_utf_lines  (w : World) (K : Slc → World → Prop) :
    vcFn C (Tryz.f106.body.getD .skip) Tryz.f106.results.toList Tryz.f106.ntmps an_utf_lines [Kind.slice] [] w (fun s w => K s.1 w) = sh_utf_lines  w K := by kernel_rfl

theorem call_utf_lines  {w : World} {K : Slc → World → Prop} (h : sh_utf_lines  w K) : c_utf_lines  w K := by
  rw [← vc_utf_lines] at h
  refine Calls.mono (calls_of_vc C.plain_ok C.mixed Tryz.func106 rfl h) ?_
  rintro e w' ⟨s, rfl, hK⟩
  exact ⟨s.1, rfl, hK⟩

/-- phosphor/utf.Width -/
def sh_utf_Width (r : Int) (w : World) (K : Int → World → Prop) : Prop :=
  joinP (σ := Bool × Unit) (fun s w1 =>
    cond s.1
      (K 0 w1)
      (c_utf_wide  w1 fun t14 w2 =>
       c_utf_in r t14 w2 fun t15 w3 =>
       cond t15
         (K 2 w3)
         (K 1 w3))) fun J1 =>
  c_utf_Is r w fun t5 w4 =>
  cond (!t5)
    (J1 (true, ()) w4)
    (c_utf_thin  w4 fun t9 w5 =>
     c_utf_in r t9 w5 fun t10 w6 =>
     J1 (t10, ()) w6)

def an_utf_Width : List Ann := [.none, .none, .join [(3, Kind.bool)] [3, 4, 5, 6, 7, 8, 9, 10, 11], .none, .none, .none, .none]

theorem vc_utf_Width (r : Int) (w : World) (K : Int → World → Prop) :
    vcFn C (Tryz.f107.body.getD .skip) Tryz.f107.results.toList Tryz.f107.ntmps an_utf_Width [(Kind.int .i64)] [(.int .i32 r)] w (fun s w => K s.1 w) = sh_utf_Width r w K := by kernel_rfl

theorem call_utf_Width (r : Int) {w : World} {K : Int → World → Prop} (h : sh_utf_Width r w K) : c_utf_Width r w K := by
  rw [← vc_utf_Width] at h
  refine Calls.mono (calls_of_vc C.plain_ok C.mixed Tryz.func107 rfl h) ?_
  rintro e w' ⟨s, rfl, hK⟩
  exact ⟨s.1, rfl, hK⟩

/-- (*phosphor/grid.Grid).Change -/
def sh_grid_Grid_Change (g : Option Addr) (row : Int) (f : Value) (w : World) (K : Bool → World → Prop) : Prop :=
  joinP (σ := Unit) (fun s w1 =>
    c_grid_Grid_is g row w1 fun t32 w2 =>
    K t32 w2) fun J1 =>
  c_grid_Grid_is g row w fun t9 w3 =>
  cond t9
    (onPtr g fun t11 =>
     ldSl (t11.add 3) w3.drew fun t13 =>
     onPtr g fun t17 =>
     ldSl (t17.add 3) w3.drew fun t19 =>
     ixK t19 row 1 fun t21 =>
     ldSl t21 w3.drew fun t22 =>
     onPtr g fun t25 =>
     ldI .i64 (t25.add 2) w3.drew fun t27 =>
     callR C f [(.slice t22.a t22.n t22.c)] [Kind.slice] w3.drew fun (t23 : Slc) w4 =>
     World.cell? w4 (t25.add 2) = some (.int .i64 t27) ∧
     World.cell? w4 (t11.add 3) = some (.slice t13.a t13.n t13.c) ∧
     c_line_Line_Resize t23 t27 w4 fun t28 w5 =>
     World.cell? w5 (t11.add 3) = some (.slice t13.a t13.n t13.c) ∧
     ixK t13 row 1 fun t29 =>
     stK t29 [(.slice t28.a t28.n t28.c)] w5 fun w6 =>
     J1 (()) w6)
    (J1 (()) w3)

def an_grid_Grid_Change : List Ann := [.none, .join [] [7, 8, 9, 10, 11, 12, 13, 14, 15, 16, 17, 18, 19, 20, 21, 22, 23, 24, 25, 26, 27, 28, 29], .none, .none]

theorem vc_grid_Grid_Change (g : Option Addr) (row : Int) (f : Value) (w : World) (K : Bool → World → Prop) :
    vcFn C (Tryz.f108.body.getD .skip) Tryz.f108.results.toList Tryz.f108.ntmps an_grid_Grid_Change [Kind.bool] [(.pointer g), (.int .i64 row), f] w (fun s w => K s.1 w) = sh_grid_Grid_Change g row f w K := by kernel_rfl

theorem call_grid_Grid_Change (g : Option Addr) (row : Int) (f : Value) {w : World} {K : Bool → World → Prop} (h : sh_grid_Grid_Change g row f w K) : c_grid_Grid_Change g row f w K := by
  rw [← vc_grid_Grid_Change] at h
  refine Calls.mono (calls_of_vc C.plain_ok C.mixed Tryz.func108 rfl h) ?_
  rintro e w' ⟨s, rfl, hK⟩
  exact ⟨s.1, rfl, hK⟩

/-- (*phosphor/screen.Screen).lay$1 -/
def sh_screen_Screen_lay_1 (l : Slc) (c0 : Addr) (c1 : Addr) (c2 : Addr) (w : World) (K : Slc → World → Prop) : Prop :=
  joinP (σ := Slc × Unit) (fun s w1 =>
    ldP c0 w1.drew fun t26 =>
    onPtr t26 fun t27 =>
    ldI .i64 ((t27.add 3).add 1) w1.drew fun t30 =>
    ldI .i32 c2 w1.drew fun t31 =>
    ldI .i64 c1 w1.drew fun t32 =>
    ldP c0 w1.drew fun t33 =>
    onPtr t33 fun t34 =>
    ldS T_api_Attr.rep ((t34.add 3).add 3) w1.drew fun t37 =>
    c_line_Line_Put s.1 t30 t31 t32 t37 w1.drew fun t38 t38_1 w2 =>
    K t38 w2) fun J1 =>
  ldP c0 w fun t6 =>
  onPtr t6 fun t7 =>
  ldM (t7.add 35) w fun t9 =>
  runK1 PG (Instr.lookup ty_map_int_bool (.map t9) (.int .i64 4) false) Kind.bool w fun (t10 : Bool) w3 =>
  cond t10
    (ldP c0 w3.drew fun t12 =>
     onPtr t12 fun t13 =>
     ldI .i64 ((t13.add 3).add 1) w3.drew fun t16 =>
     ldI .i64 c1 w3.drew fun t17 =>
     ldP c0 w3.drew fun t18 =>
     onPtr t18 fun t19 =>
     ldS T_api_Attr.rep ((t19.add 3).add 3) w3.drew fun t22 =>
     c_line_Line_Insert l t16 t17 t22 w3.drew fun t23 w4 =>
     J1 (t23, ()) w4)
    (J1 (l, ()) w3)

def an_screen_Screen_lay_1 : List Ann := [.none, .join [(0, Kind.slice)] [0, 6, 7, 8, 9, 10, 11, 12, 13, 14, 15, 16, 17, 18, 19, 20, 21, 22, 23], .none, .none, .none]

theorem vc_screen_Screen_lay_1 (l : Slc) (c0 : Addr) (c1 : Addr) (c2 : Addr) (w : World) (K : Slc → World → Prop) :
    vcFn C (Tryz.f109.body.getD .skip) Tryz.f109.results.toList Tryz.f109.ntmps an_screen_Screen_lay_1 [Kind.slice] [(.slice l.a l.n l.c), (.pointer (some c0)), (.pointer (some c1)), (.pointer (some c2))] w (fun s w => K s.1 w) = sh_screen_Screen_lay_1 l c0 c1 c2 w K := by kernel_rfl

theorem call_screen_Screen_lay_1 (l : Slc) (c0 : Addr) (c1 : Addr) (c2 : Addr) {w : World} {K : Slc → World → Prop} (h : sh_screen_Screen_lay_1 l c0 c1 c2 w K) : c_screen_Screen_lay_1 l c0 c1 c2 w K := by
  rw [← vc_screen_Screen_lay_1] at h
  refine Calls.mono (calls_of_vc C.plain_ok C.mixed Tryz.func109 rfl h) ?_
  rintro e w' ⟨s, rfl, hK⟩
  exact ⟨s.1, rfl, hK⟩

/-- (phosphor/line.Line).Insert -/
def sh_line_Line_Insert (l : Slc) (col : Int) (n : Int) (a : T_api_Attr) (w : World) (K : Slc → World → Prop) : Prop :=
  nw ty_api_Attr (T_api_Attr.rep.cells a) w fun a_1 w1 =>
  c_line_Line_Mend l w1 fun t11 w2 =>
  c_line_Line_many l col n w2 fun t15 w3 =>
  cond (t15 == (0 : Int))
    (K t11 w3)
    (slK t11 none (some col) 5 fun t21 =>
     ldS T_api_Attr.rep a_1 w3.drew fun t23 =>
     slK t11 (some col) (some (IntKind.i64.wrap (((l.n : Nat) : Int) - t15))) 5 fun t31 =>
     c_line_blanks t15 t23 w3.drew fun t24 w4 =>
     nw ty_line_Line [(.slice t21.a t21.n t21.c), (.slice t24.a t24.n t24.c), (.slice t31.a t31.n t31.c)] w4 fun t32 w5 =>
     c_slices_Concat_line_Line_api_Cell (⟨(some t32), 3, 3⟩ : Slc) w5 fun t33 w6 =>
     c_line_Line_Mend t33 w6 fun t34 w7 =>
     K t34 w7)

def an_line_Line_Insert : List Ann := [.none, .none, .none, .none, .none, .none, .none]

theorem vc_line_Line_Insert (l : Slc) (col : Int) (n : Int) (a : T_api_Attr) (w : World) (K : Slc → World → Prop) :
    vcFn C (Tryz.f110.body.getD .skip) Tryz.f110.results.toList Tryz.f110.ntmps an_line_Line_Insert [Kind.slice] [(.slice l.a l.n l.c), (.int .i64 col), (.int .i64 n), (.agg #[(.int .i64 a.Fg), (.int .i64 a.Bg), (.int .i64 a.Flags)])] w (fun s w => K s.1 w) = sh_line_Line_Insert l col n a w K := by kernel_rfl

theorem call_line_Line_Insert (l : Slc) (col : Int) (n : Int) (a : T_api_Attr) {w : World} {K : Slc → World → Prop} (h : sh_line_Line_Insert l col n a w K) : c_line_Line_Insert l col n a w K := by
  rw [← vc_line_Line_Insert] at h
  refine Calls.mono (calls_of_vc C.plain_ok C.mixed Tryz.func110 rfl h) ?_
  rintro e w' ⟨s, rfl, hK⟩
  exact ⟨s.1, rfl, hK⟩

/-- (phosphor/line.Line).Put -/
def sh_line_Line_Put (l : Slc) (col : Int) (r : Int) (width : Int) (a : T_api_Attr) (w : World) (K : Slc → Bool → World → Prop) : Prop :=
  nw ty_api_Attr (T_api_Attr.rep.cells a) w fun a_1 w1 =>
  c_line_Line_Mend l w1 fun t14 w2 =>
  joinP (σ := Unit) (fun s w3 =>
    ldS T_api_Attr.rep a_1 w3 fun t37 =>
    ixK t14 col 5 fun t39 =>
    stK t39 [(.int .i32 r), (.int .i64 0), (.int .i64 t37.Fg), (.int .i64 t37.Bg), (.int .i64 t37.Flags)] w3 fun w4 =>
    joinP (σ := Unit) (fun s_1 w5 =>
      c_line_Line_halves t14 col (IntKind.i64.wrap (col + width)) w5 fun t57 w6 =>
      K t57 true w6) fun J2 =>
    cond (width == (2 : Int))
      (ixK t14 col 5 fun t44 =>
       stK (t44.add 1) [(.int .i64 1)] w4 fun w7 =>
       ldS T_api_Attr.rep a_1 w7 fun t49 =>
       ixK t14 (IntKind.i64.wrap (col + (1 : Int))) 5 fun t51 =>
       stK t51 [(.int .i32 0), (.int .i64 2), (.int .i64 t49.Fg), (.int .i64 t49.Bg), (.int .i64 t49.Flags)] w7 fun w8 =>
       J2 (()) w8)
      (J2 (()) w4)) fun J1 =>
  joinP (σ := Bool × Unit) (fun s_2 w9 =>
    cond s_2.1
      (K t14 false w9)
      (J1 (()) w9)) fun J3 =>
  cond (decide (width < (1 : Int)))
    (J3 (true, ()) w2)
    (cond (decide (width > (2 : Int)))
       (J3 (true, ()) w2)
       (cond (decide (col < (0 : Int)))
          (J3 (true, ()) w2)
          (J3 ((decide (col > (IntKind.i64.wrap (((l.n : Nat) : Int) - width)))), ()) w2)))

def an_line_Line_Put : List Ann := [.none, .none, .join [] [10, 11, 15, 16, 17, 18, 19, 20, 21, 22, 23, 24, 25, 26, 27, 28, 29, 30, 31, 32, 33], .join [(32, Kind.bool)] [15, 16, 17, 18, 19, 20, 21, 22, 23, 24, 25, 26, 27, 28, 29, 30, 31, 32], .none, .none, .join [] [40, 41, 42, 43, 44, 45, 46, 47, 48, 49, 50, 51], .none, .none, .none]

theorem vc_line_Line_Put (l : Slc) (col : Int) (r : Int) (width : Int) (a : T_api_Attr) (w : World) (K : Slc → Bool → World → Prop) :
    vcFn C (Tryz.f111.body.getD .skip) Tryz.f111.results.toList Tryz.f111.ntmps an_line_Line_Put [Kind.slice, Kind.bool] [(.slice l.a l.n l.c), (.int .i64 col), (.int .i32 r), (.int .i64 width), (.agg #[(.int .i64 a.Fg), (.int .i64 a.Bg), (.int .i64 a.Flags)])] w (fun s w => K s.1 s.2.1 w) = sh_line_Line_Put l col r width a w K := by kernel_rfl

theorem call_line_Line_Put (l : Slc) (col : Int) (r : Int) (width : Int) (a : T_api_Attr) {w : World} {K : Slc → Bool → World → Prop} (h : sh_line_Line_Put l col r width a w K) : c_line_Line_Put l col r width a w K := by
  rw [← vc_line_Line_Put] at h
  refine Calls.mono (calls_of_vc C.plain_ok C.mixed Tryz.func111 rfl h) ?_
  rintro e w' ⟨s, rfl, hK⟩
  exact ⟨s.1, s.2.1, rfl, hK⟩

/-- (*phosphor/tabs.Stops).is -/
def sh_tabs_Stops_is (s : Option Addr) (col : Int) (w : World) (K : Bool → World → Prop) : Prop :=
  cond (decide (col ≥ (0 : Int)))
    (onPtr s fun t10 =>
     ldI .i64 (t10.add 0) w fun t12 =>
     K (decide (col < t12)) w)
    (K false w)

def an_tabs_Stops_is : List Ann := [.none, .none]

theorem vc_tabs_Stops_is (s : Option Addr) (col : Int) (w : World) (K : Bool → World → Prop) :
    vcFn C (Tryz.f112.body.getD .skip) Tryz.f112.results.toList Tryz.f112.ntmps an_tabs_Stops_is [Kind.bool] [(.pointer s), (.int .i64 col)] w (fun s w => K s.1 w) = sh_tabs_Stops_is s col w K := by kernel_rfl

theorem call_tabs_Stops_is (s : Option Addr) (col : Int) {w : World} {K : Bool → World → Prop} (h : sh_tabs_Stops_is s col w K) : c_tabs_Stops_is s col w K := by
  rw [← vc_tabs_Stops_is] at h
  refine Calls.mono (calls_of_vc C.plain_ok C.mixed Tryz.func112 rfl h) ?_
  rintro e w' ⟨s, rfl, hK⟩
  exact ⟨s.1, rfl, hK⟩

/-- (*phosphor/tabs.Stops).near -/
def sh_tabs_Stops_near (s : Option Addr) (col : Int) (w : World) (K : Int → World → Prop) : Prop :=
  onPtr s fun t8 =>
  ldI .i64 (t8.add 0) w fun t10 =>
  K (if (IntKind.i64.wrap (t10 - (1 : Int))) < (if (0 : Int) > col then (0 : Int) else col) then (IntKind.i64.wrap (t10 - (1 : Int))) else (if (0 : Int) > col then (0 : Int) else col)) w

def an_tabs_Stops_near : List Ann := [.none, .none]

theorem vc_tabs_Stops_near (s : Option Addr) (col : Int) (w : World) (K : Int → World → Prop) :
    vcFn C (Tryz.f113.body.getD .skip) Tryz.f113.results.toList Tryz.f113.ntmps an_tabs_Stops_near [(Kind.int .i64)] [(.pointer s), (.int .i64 col)] w (fun s w => K s.1 w) = sh_tabs_Stops_near s col w K := by kernel_rfl

theorem call_tabs_Stops_near (s : Option Addr) (col : Int) {w : World} {K : Int → World → Prop} (h : sh_tabs_Stops_near s col w K) : c_tabs_Stops_near s col w K := by
  rw [← vc_tabs_Stops_near] at h
  refine Calls.mono (calls_of_vc C.plain_ok C.mixed Tryz.func113 rfl h) ?_
  rintro e w' ⟨s, rfl, hK⟩
  exact ⟨s.1, rfl, hK⟩

/-- phosphor/line.New -/
def sh_line_New (cols : Int) (a : T_api_Attr) (w : World) (K : Slc → World → Prop) : Prop :=
  nw ty_api_Attr (T_api_Attr.rep.cells a) w fun a_1 w1 =>
  joinP (σ := Unit) (fun s w2 =>
    ldS T_api_Attr.rep a_1 w2 fun t12 =>
    c_line_blanks cols t12 w2 fun t13 w3 =>
    K t13 w3) fun J1 =>
  cond (decide (cols < (0 : Int)))
    (K (⟨none, 0, 0⟩ : Slc) w1)
    (cond (decide (cols > (1000 : Int)))
       (K (⟨none, 0, 0⟩ : Slc) w1)
       (J1 (()) w1))

def an_line_New : List Ann := [.none, .join [] [4, 5, 6, 7, 8, 9, 10], .none, .none, .none]

theorem vc_line_New (cols : Int) (a : T_api_Attr) (w : World) (K : Slc → World → Prop) :
    vcFn C (Tryz.f114.body.getD .skip) Tryz.f114.results.toList Tryz.f114.ntmps an_line_New [Kind.slice] [(.int .i64 cols), (.agg #[(.int .i64 a.Fg), (.int .i64 a.Bg), (.int .i64 a.Flags)])] w (fun s w => K s.1 w) = sh_line_New cols a w K := by kernel_rfl

theorem call_line_New (cols : Int) (a : T_api_Attr) {w : World} {K : Slc → World → Prop} (h : sh_line_New cols a w K) : c_line_New cols a w K := by
  rw [← vc_line_New] at h
  refine Calls.mono (calls_of_vc C.plain_ok C.mixed Tryz.func114 rfl h) ?_
  rintro e w' ⟨s, rfl, hK⟩
  exact ⟨s.1, rfl, hK⟩

/-- (*phosphor/grid.Grid).Set -/
def sh_grid_Grid_Set (g : Option Addr) (row : Int) (l : Slc) (w : World) (K : Bool → World → Prop) : Prop :=
  joinP (σ := Unit) (fun s w1 =>
    c_grid_Grid_is g row w1 fun t24 w2 =>
    K t24 w2) fun J1 =>
  c_grid_Grid_is g row w fun t9 w3 =>
  cond t9
    (onPtr g fun t11 =>
     ldSl (t11.add 3) w3.drew fun t13 =>
     onPtr g fun t17 =>
     ldI .i64 (t17.add 2) w3.drew fun t19 =>
     c_line_Line_Resize l t19 w3.drew fun t20 w4 =>
     World.cell? w4 (t11.add 3) = some (.slice t13.a t13.n t13.c) ∧
     ixK t13 row 1 fun t21 =>
     stK t21 [(.slice t20.a t20.n t20.c)] w4 fun w5 =>
     J1 (()) w5)
    (J1 (()) w3)

def an_grid_Grid_Set : List Ann := [.none, .join [] [7, 8, 9, 10, 11, 12, 13, 14, 15, 16, 17, 18, 19, 20, 21], .none, .none]

theorem vc_grid_Grid_Set (g : Option Addr) (row : Int) (l : Slc) (w : World) (K : Bool → World → Prop) :
    vcFn C (Tryz.f115.body.getD .skip) Tryz.f115.results.toList Tryz.f115.ntmps an_grid_Grid_Set [Kind.bool] [(.pointer g), (.int .i64 row), (.slice l.a l.n l.c)] w (fun s w => K s.1 w) = sh_grid_Grid_Set g row l w K := by kernel_rfl

theorem call_grid_Grid_Set (g : Option Addr) (row : Int) (l : Slc) {w : World} {K : Bool → World → Prop} (h : sh_grid_Grid_Set g row l w K) : c_grid_Grid_Set g row l w K := by
  rw [← vc_grid_Grid_Set] at h
  refine Calls.mono (calls_of_vc C.plain_ok C.mixed Tryz.func115 rfl h) ?_
  rintro e w' ⟨s, rfl, hK⟩
  exact ⟨s.1, rfl, hK⟩

/-- (*phosphor/screen.Screen).reverse -/
def sh_screen_Screen_reverse (s : Option Addr) (w : World) (K : World → Prop) : Prop :=
  onPtr s fun t3 =>
  stK ((t3.add 3).add 2) [(.bool false)] w fun w1 =>
  onPtr s fun t7 =>
  ldI .i64 ((t7.add 3).add 0) w1.drew fun t10 =>
  onPtr s fun t12 =>
  ldI .i64 (t12.add 37) w1.drew fun t14 =>
  cond (t10 == t14)
    (onPtr s fun t19 =>
     ldI .i64 (t19.add 37) w1.drew.drew fun t21 =>
     onPtr s fun t23 =>
     ldI .i64 (t23.add 38) w1.drew.drew fun t25 =>
     c_screen_Screen_g s w1.drew.drew fun t17 w2 =>
     World.cell? w2 (t23.add 38) = some (.int .i64 t25) ∧
     World.cell? w2 (t19.add 37) = some (.int .i64 t21) ∧
     c_screen_Screen_blank s w2 fun t27 w3 =>
     World.cell? w3 (t23.add 38) = some (.int .i64 t25) ∧
     World.cell? w3 (t19.add 37) = some (.int .i64 t21) ∧
     c_grid_Grid_Scroll t17 t21 t25 (-1) t27 w3 fun t28 w4 =>
     K w4)
    (onPtr s fun t31 =>
     ldI .i64 ((t31.add 3).add 0) w1.drew.drew fun t34 =>
     onPtr s fun t37 =>
     ldI .i64 ((t37.add 3).add 1) w1.drew.drew fun t40 =>
     c_screen_Screen_to s (IntKind.i64.wrap (t34 - (1 : Int))) t40 w1.drew.drew fun w5 =>
     K w5)

def an_screen_Screen_reverse : List Ann := [.none, .none, .none, .none]

theorem vc_screen_Screen_reverse (s : Option Addr) (w : World) (K : World → Prop) :
    vcFn C (Tryz.f116.body.getD .skip) Tryz.f116.results.toList Tryz.f116.ntmps an_screen_Screen_reverse [] [(.pointer s)] w (fun s w => K w) = sh_screen_Screen_reverse s w K := by kernel_rfl

theorem call_screen_Screen_reverse (s : Option Addr) {w : World} {K : World → Prop} (h : sh_screen_Screen_reverse s w K) : c_screen_Screen_reverse s w K := by
  rw [← vc_screen_Screen_reverse] at h
  refine Calls.mono (calls_of_vc C.plain_ok C.mixed Tryz.func116 rfl h) ?_
  rintro e w' ⟨s, rfl, hK⟩
  exact ⟨rfl, hK⟩

/-- (*phosphor/tabs.Stops).Set -/
def sh_tabs_Stops_Set (s : Option Addr) (col : Int) (w : World) (K : Bool → World → Prop) : Prop :=
  joinP (σ := Unit) (fun s_1 w1 =>
    c_tabs_Stops_is s col w1 fun t15 w2 =>
    K t15 w2) fun J1 =>
  c_tabs_Stops_is s col w fun t7 w3 =>
  cond t7
    (onPtr s fun t9 =>
     ldM (t9.add 1) w3 fun t11 =>
     runU PG (Instr.mapUpdate ty_map_int_bool (.map t11) (.int .i64 col) (.bool true)) w3 fun _ w4 =>
     J1 (()) w4)
    (J1 (()) w3)

def an_tabs_Stops_Set : List Ann := [.none, .join [] [5, 6, 7, 8, 9, 10, 11, 12], .none, .none]

theorem vc_tabs_Stops_Set (s : Option Addr) (col : Int) (w : World) (K : Bool → World → Prop) :
    vcFn C (Tryz.f117.body.getD .skip) Tryz.f117.results.toList Tryz.f117.ntmps an_tabs_Stops_Set [Kind.bool] [(.pointer s), (.int .i64 col)] w (fun s w => K s.1 w) = sh_tabs_Stops_Set s col w K := by kernel_rfl

theorem call_tabs_Stops_Set (s : Option Addr) (col : Int) {w : World} {K : Bool → World → Prop} (h : sh_tabs_Stops_Set s col w K) : c_tabs_Stops_Set s col w K := by
  rw [← vc_tabs_Stops_Set] at h
  refine Calls.mono (calls_of_vc C.plain_ok C.mixed Tryz.func117 rfl h) ?_
  rintro e w' ⟨s, rfl, hK⟩
  exact ⟨s.1, rfl, hK⟩

/-- (*phosphor/screen.Screen).save -/
def sh_screen_Screen_save (s : Option Addr) (w : World) (K : World → Prop) : Prop :=
  onPtr s fun t4 =>
  ldI .i64 (t4.add 2) w.drew fun t6 =>
  onPtr s fun t8 =>
  ldS T_screen_Cursor.rep (t8.add 3) w.drew fun t10 =>
  onPtr s fun t12 =>
  ixA (t12.add 13) 2 t6 11 fun t14 =>
  stK t14 [(.int .i64 t10.Row), (.int .i64 t10.Col), (.bool t10.Wrap), (.int .i64 t10.A.Fg), (.int .i64 t10.A.Bg), (.int .i64 t10.A.Flags), (.bool t10.Origin), (.int .u8 t10.Sets.e0), (.int .u8 t10.Sets.e1), (.int .i64 t10.Shift), (.bool true)] w.drew fun w1 =>
  K w1

def an_screen_Screen_save : List Ann := []

theorem vc_screen_Screen_save (s : Option Addr) (w : World) (K : World → Prop) :
    vcFn C (Tryz.f118.body.getD .skip) Tryz.f118.results.toList Tryz.f118.ntmps an_screen_Screen_save [] [(.pointer s)] w (fun s w => K w) = sh_screen_Screen_save s w K := by kernel_rfl

theorem call_screen_Screen_save (s : Option Addr) {w : World} {K : World → Prop} (h : sh_screen_Screen_save s w K) : c_screen_Screen_save s w K := by
  rw [← vc_screen_Screen_save] at h
  refine Calls.mono (calls_of_vc C.plain_ok C.mixed Tryz.func118 rfl h) ?_
  rintro e w' ⟨s, rfl, hK⟩
  exact ⟨rfl, hK⟩

/-- (*phosphor/screen.Screen).restore -/
def sh_screen_Screen_restore (s : Option Addr) (w : World) (K : World → Prop) : Prop :=
  onPtr s fun t7 =>
  ldI .i64 (t7.add 2) w.drew fun t9 =>
  onPtr s fun t10 =>
  ixA (t10.add 13) 2 t9 11 fun t12 =>
  ldS T_screen_saved.rep t12 w.drew fun t13 =>
  nw ty_screen_saved [(.int .i64 0), (.int .i64 0), (.bool false), (.int .i64 0), (.int .i64 0), (.int .i64 0), (.bool false), (.int .u8 0), (.int .u8 0), (.int .i64 0), (.bool false)] w.drew fun x w1 =>
  cellsAt w1 t12 (T_screen_saved.rep.cells t13) ∧
  World.cell? w1 (t7.add 2) = some (.int .i64 t9) ∧
  stK x (T_screen_saved.rep.cells t13) w1 fun w2 =>
  joinP (σ := Unit) (fun s_1 w3 =>
    c_screen_Screen_size s w3 fun t21 t21_1 w4 =>
    ldS T_screen_Cursor.rep (x.add 0) w4 fun t26 =>
    onPtr s fun t27 =>
    stK (t27.add 3) (T_screen_Cursor.rep.cells t26) w4 fun w5 =>
    ldI .i64 ((x.add 0).add 0) w5.drew fun t33 =>
    ldI .i64 ((x.add 0).add 1) w5.drew fun t39 =>
    c_screen_cut t33 0 (IntKind.i64.wrap (t21 - (1 : Int))) w5.drew fun t36 w6 =>
    World.cell? w6 ((x.add 0).add 1) = some (.int .i64 t39) ∧
    c_screen_cut t39 0 (IntKind.i64.wrap (t21_1 - (1 : Int))) w6 fun t42 w7 =>
    onPtr s fun t43 =>
    stK ((t43.add 3).add 0) [(.int .i64 t36)] w7 fun w8 =>
    onPtr s fun t46 =>
    stK ((t46.add 3).add 1) [(.int .i64 t42)] w8 fun w9 =>
    K w9) fun J1 =>
  ldB (x.add 10) w2 fun t15 =>
  cond (!t15)
    (c_screen_first  w2 fun t17 w10 =>
     stK (x.add 0) (T_screen_Cursor.rep.cells t17) w10 fun w11 =>
     J1 (()) w11)
    (J1 (()) w2)

def an_screen_Screen_restore : List Ann := [.none, .join [] [14, 15, 16, 17, 18], .none, .none, .none]

theorem vc_screen_Screen_restore (s : Option Addr) (w : World) (K : World → Prop) :
    vcFn C (Tryz.f119.body.getD .skip) Tryz.f119.results.toList Tryz.f119.ntmps an_screen_Screen_restore [] [(.pointer s)] w (fun s w => K w) = sh_screen_Screen_restore s w K := by kernel_rfl

theorem call_screen_Screen_restore (s : Option Addr) {w : World} {K : World → Prop} (h : sh_screen_Screen_restore s w K) : c_screen_Screen_restore s w K := by
  rw [← vc_screen_Screen_restore] at h
  refine Calls.mono (calls_of_vc C.plain_ok C.mixed Tryz.func119 rfl h) ?_
  rintro e w' ⟨s, rfl, hK⟩
  exact ⟨rfl, hK⟩

/-- (*phosphor/screen.Screen).reset -/
def sh_screen_Screen_reset (s : Option Addr) (w : World) (K : World → Prop) : Prop :=
  onPtr s fun t7 =>
  ldS T_2_grid_Grid.rep (t7.add 0) w fun t9 =>
  loopP (σ := Int × Unit) (fun I1 s_1 w1 =>
    cond (decide (s_1.1 < (2 : Int)))
      (cond (decide (s_1.1 = (0 : Int)))
         (c_grid_Grid_Size t9.e0 w1 fun t16_2 t16_3 w9 =>
          c_grid_Grid_Clear t9.e0 (⟨0, 0, 0⟩ : T_api_Attr) w9 fun w10 =>
          c_grid_Grid_Forget t9.e0 w10 fun w11 =>
          onPtr s fun t26_1 =>
          ldSl (t26_1.add 41) w11.drew fun t28_1 =>
          c_grid_Grid_Top t9.e0 w11.drew fun t32_1 w12 =>
          World.cell? w12 (t26_1.add 41) = some (.slice t28_1.a t28_1.n t28_1.c) ∧
          nw ty_screen_Area [(.bool (s_1.1 == (1 : Int))), (.int .i64 t32_1), (.int .i64 t16_2), (.int .i64 0), (.int .i64 t16_3)] w12 fun t36_1 w13 =>
          World.cell? w13 (t26_1.add 41) = some (.slice t28_1.a t28_1.n t28_1.c) ∧
          apK PG #[ty_sl_screen_Area, ty_sl_screen_Area] ty_sl_screen_Area t28_1 (⟨(some t36_1), 1, 1⟩ : Slc) w13 fun t37_1 w14 =>
          onPtr s fun t38_1 =>
          stK (t38_1.add 41) [(.slice t37_1.a t37_1.n t37_1.c)] w14 fun w15 =>
          I1 ((IntKind.i64.wrap (s_1.1 + (1 : Int))), ()) w15)
         (cond (decide (s_1.1 = (1 : Int)))
            (c_grid_Grid_Size t9.e1 w1 fun t16 t16_1 w2 =>
             c_grid_Grid_Clear t9.e1 (⟨0, 0, 0⟩ : T_api_Attr) w2 fun w3 =>
             c_grid_Grid_Forget t9.e1 w3 fun w4 =>
             onPtr s fun t26 =>
             ldSl (t26.add 41) w4.drew fun t28 =>
             c_grid_Grid_Top t9.e1 w4.drew fun t32 w5 =>
             World.cell? w5 (t26.add 41) = some (.slice t28.a t28.n t28.c) ∧
             nw ty_screen_Area [(.bool (s_1.1 == (1 : Int))), (.int .i64 t32), (.int .i64 t16), (.int .i64 0), (.int .i64 t16_1)] w5 fun t36 w6 =>
             World.cell? w6 (t26.add 41) = some (.slice t28.a t28.n t28.c) ∧
             apK PG #[ty_sl_screen_Area, ty_sl_screen_Area] ty_sl_screen_Area t28 (⟨(some t36), 1, 1⟩ : Slc) w6 fun t37 w7 =>
             onPtr s fun t38 =>
             stK (t38.add 41) [(.slice t37.a t37.n t37.c)] w7 fun w8 =>
             I1 ((IntKind.i64.wrap (s_1.1 + (1 : Int))), ()) w8)
            (False)))
      (c_screen_Screen_fresh s w1 fun w16 =>
       K w16)) (0, ()) w

def an_screen_Screen_reset : List Ann := [.none, .none, .join [(10, (Kind.int .i64))] [2, 3, 4, 5, 10, 11, 12, 13, 14, 15, 16, 17, 18, 19, 20, 21, 22, 23, 24, 25, 26, 27, 28, 29, 30, 31, 32, 33, 34, 35, 36, 37, 38, 39, 40], .none, .none, .none, .none, .none, .none, .none]

theorem vc_screen_Screen_reset (s : Option Addr) (w : World) (K : World → Prop) :
    vcFn C (Tryz.f120.body.getD .skip) Tryz.f120.results.toList Tryz.f120.ntmps an_screen_Screen_reset [] [(.pointer s)] w (fun s w => K w) = sh_screen_Screen_reset s w K := by kernel_rfl

theorem call_screen_Screen_reset (s : Option Addr) {w : World} {K : World → Prop} (h : sh_screen_Screen_reset s w K) : c_screen_Screen_reset s w K := by
  rw [← vc_screen_Screen_reset] at h
  refine Calls.mono (calls_of_vc C.plain_ok C.mixed Tryz.func120 rfl h) ?_
  rintro e w' ⟨s, rfl, hK⟩
  exact ⟨rfl, hK⟩

/-- (*phosphor/screen.Screen).home -/
def sh_screen_Screen_home (s : Option Addr) (w : World) (K : World → Prop) : Prop :=
  onPtr s fun t4 =>
  ldB ((t4.add 3).add 6) w fun t7 =>
  cond t7
    (onPtr s fun t9 =>
     ldI .i64 (t9.add 37) w fun t11 =>
     c_screen_Screen_to s t11 0 w fun w1 =>
     K w1)
    (c_screen_Screen_to s 0 0 w fun w2 =>
     K w2)

def an_screen_Screen_home : List Ann := [.none, .none, .none]

theorem vc_screen_Screen_home (s : Option Addr) (w : World) (K : World → Prop) :
    vcFn C (Tryz.f121.body.getD .skip) Tryz.f121.results.toList Tryz.f121.ntmps an_screen_Screen_home [] [(.pointer s)] w (fun s w => K w) = sh_screen_Screen_home s w K := by kernel_rfl

theorem call_screen_Screen_home (s : Option Addr) {w : World} {K : World → Prop} (h : sh_screen_Screen_home s w K) : c_screen_Screen_home s w K := by
  rw [← vc_screen_Screen_home] at h
  refine Calls.mono (calls_of_vc C.plain_ok C.mixed Tryz.func121 rfl h) ?_
  rintro e w' ⟨s, rfl, hK⟩
  exact ⟨rfl, hK⟩

/-- (*phosphor/screen.Screen).show -/
def sh_screen_Screen_show (s : Option Addr) (to : Int) (all : Bool) (w : World) (K : World → Prop) : Prop :=
  onPtr s fun t9 =>
  ldI .i64 (t9.add 2) w fun t11 =>
  cond (t11 == to)
    (K w)
    (joinP (σ := Unit) (fun s_1 w1 =>
       onPtr s fun t23 =>
       stK (t23.add 2) [(.int .i64 to)] w1 fun w2 =>
       joinP (σ := Bool × Unit) (fun s_2 w3 =>
         cond s_2.1
           (c_screen_Screen_size s w3 fun t33 t33_1 w4 =>
            onPtr s fun t37 =>
            stK ((t37.add 3).add 2) [(.bool false)] w4 fun w5 =>
            c_screen_Screen_erase s 0 t33 0 t33_1 w5 fun w6 =>
            K w6)
           (cond all
              (c_screen_Screen_restore s w3 fun w7 =>
               K w7)
              (K w3))) fun J2 =>
       cond all
         (J2 ((to == (1 : Int)), ()) w2)
         (J2 (false, ()) w2)) fun J1 =>
     cond all
       (cond (to == (1 : Int))
          (c_screen_Screen_save s w fun w8 =>
           J1 (()) w8)
          (J1 (()) w))
       (J1 (()) w))

def an_screen_Screen_show : List Ann := [.none, .none, .join [] [14, 15, 16, 17, 18, 19, 20], .none, .none, .join [(25, Kind.bool)] [25, 26, 27, 28, 29, 30], .none, .none, .none]

theorem vc_screen_Screen_show (s : Option Addr) (to : Int) (all : Bool) (w : World) (K : World → Prop) :
    vcFn C (Tryz.f122.body.getD .skip) Tryz.f122.results.toList Tryz.f122.ntmps an_screen_Screen_show [] [(.pointer s), (.int .i64 to), (.bool all)] w (fun s w => K w) = sh_screen_Screen_show s to all w K := by kernel_rfl

theorem call_screen_Screen_show (s : Option Addr) (to : Int) (all : Bool) {w : World} {K : World → Prop} (h : sh_screen_Screen_show s to all w K) : c_screen_Screen_show s to all w K := by
  rw [← vc_screen_Screen_show] at h
  refine Calls.mono (calls_of_vc C.plain_ok C.mixed Tryz.func122 rfl h) ?_
  rintro e w' ⟨s, rfl, hK⟩
  exact ⟨rfl, hK⟩

end Go.Proofs.YtmoafafalnbkpaaGreatDoor
