/- By program (gen.py): the typed text of the program's functions, part 3. -/
import Derived.Test.YtmoafafalnbkpaaGreatDoorDefs
set_option maxRecDepth 100000
set_option linter.unusedVariables false
namespace Go.Proofs.YtmoafafalnbkpaaGreatDoor
open Go.Vc
/-- phosphor/attr.Apply -/
def sh_attr_Apply (a : T_api_Attr) (params : Slc) (w : World) (K : T_api_Attr → World → Prop) : Prop :=
  nw ty_api_Attr (T_api_Attr.rep.cells a) w fun a_1 w1 =>
  nw ty_api_Attr [(.int .i64 0), (.int .i64 0), (.int .i64 0)] w1 fun t4 w2 =>
  cond (((params.n : Nat) : Int) == (0 : Int))
    (stK t4 [(.int .i64 0), (.int .i64 0), (.int .i64 0)] w2 fun w3 =>
     ldS T_api_Attr.rep t4 w3 fun r =>
     K r w3)
    (loopP (σ := Slc × Unit) (fun I1 s w4 =>
       cond (decide (((s.1.n : Nat) : Int) > (0 : Int)))
         (ixK s.1 0 1 fun t17 =>
          ldI .i64 t17 w4 fun t18 =>
          slK s.1 (some 1) none 1 fun t20 =>
          joinP (σ := Option Addr × Unit) (fun s_1 w5 =>
            c_attr_far s_1.1 t20 w5 fun t121 w6 =>
            I1 (t121, ()) w6) fun J2 =>
          joinP (σ := Int × Option Addr × Unit) (fun s_2 w7 =>
            onPtr s_2.2.1 fun t115 =>
            stK t115 [(.int .i64 (IntKind.i64.wrap ((IntKind.i64.wrap ((16777224 : Int) + s_2.1)) - (90 : Int))))] w7 fun w8 =>
            I1 (t20, ()) w8) fun J3 =>
          joinP (σ := Int × Option Addr × Unit) (fun s_3 w9 =>
            onPtr s_3.2.1 fun t107 =>
            stK t107 [(.int .i64 (IntKind.i64.wrap ((IntKind.i64.wrap ((16777216 : Int) + s_3.1)) - (30 : Int))))] w9 fun w10 =>
            I1 (t20, ()) w10) fun J4 =>
          joinP (σ := Unit) (fun s_4 w11 =>
            ldI .i64 (a_1.add 2) w11.drew fun t94 =>
            c_attr_flag (IntKind.i64.wrap (t18 - (20 : Int))) w11.drew fun t97 w12 =>
            World.cell? w12 (a_1.add 2) = some (.int .i64 t94) ∧
            stK (a_1.add 2) [(.int .i64 (bitsR .andNot .i64 t94 t97))] w12 fun w13 =>
            I1 (t20, ()) w13) fun J5 =>
          cond (t18 == (0 : Int))
            (stK a_1 [(.int .i64 0), (.int .i64 0), (.int .i64 0)] w4 fun w14 =>
             I1 (t20, ()) w14)
            (joinP (σ := Unit) (fun s_5 w15 =>
               cond (t18 == (22 : Int))
                 (ldI .i64 (a_1.add 2) w15 fun t90 =>
                  stK (a_1.add 2) [(.int .i64 (bitsR .andNot .i64 t90 (1 : Int)))] w15 fun w16 =>
                  J5 (()) w16)
                 (joinP (σ := Unit) (fun s_6 w17 =>
                    joinP (σ := Unit) (fun s_7 w18 =>
                      joinP (σ := Unit) (fun s_8 w19 =>
                        joinP (σ := Unit) (fun s_9 w20 =>
                          joinP (σ := Unit) (fun s_10 w21 =>
                            cond (t18 == (39 : Int))
                              (stK (a_1.add 0) [(.int .i64 0)] w21 fun w22 =>
                               I1 (t20, ()) w22)
                              (cond (t18 == (49 : Int))
                                 (stK (a_1.add 1) [(.int .i64 0)] w21 fun w23 =>
                                  I1 (t20, ()) w23)
                                 (cond (t18 == (48 : Int))
                                    (J2 ((some (a_1.add 1)), ()) w21)
                                    (cond (t18 == (38 : Int))
                                       (J2 ((some (a_1.add 0)), ()) w21)
                                       (I1 (t20, ()) w21))))) fun J11 =>
                          cond (decide (t18 ≥ (90 : Int)))
                            (cond (decide (t18 ≤ (97 : Int)))
                               (J3 (t18, (some (a_1.add 0)), ()) w20)
                               (J11 (()) w20))
                            (J11 (()) w20)) fun J10 =>
                        cond (decide (t18 ≥ (100 : Int)))
                          (cond (decide (t18 ≤ (107 : Int)))
                             (J3 ((IntKind.i64.wrap (t18 - (10 : Int))), (some (a_1.add 1)), ()) w19)
                             (J10 (()) w19))
                          (J10 (()) w19)) fun J9 =>
                      cond (decide (t18 ≥ (30 : Int)))
                        (cond (decide (t18 ≤ (37 : Int)))
                           (J4 (t18, (some (a_1.add 0)), ()) w18)
                           (J9 (()) w18))
                        (J9 (()) w18)) fun J8 =>
                    cond (decide (t18 ≥ (40 : Int)))
                      (cond (decide (t18 ≤ (47 : Int)))
                         (J4 ((IntKind.i64.wrap (t18 - (10 : Int))), (some (a_1.add 1)), ()) w17)
                         (J8 (()) w17))
                      (J8 (()) w17)) fun J7 =>
                  cond (decide (t18 ≥ (23 : Int)))
                    (cond (decide (t18 ≤ (29 : Int)))
                       (J5 (()) w15)
                       (J7 (()) w15))
                    (J7 (()) w15))) fun J6 =>
             cond (decide (t18 ≥ (1 : Int)))
               (cond (decide (t18 ≤ (9 : Int)))
                  (ldI .i64 (a_1.add 2) w4.drew fun t84 =>
                   c_attr_flag t18 w4.drew fun t86 w24 =>
                   World.cell? w24 (a_1.add 2) = some (.int .i64 t84) ∧
                   stK (a_1.add 2) [(.int .i64 (bitsR .or .i64 t84 t86))] w24 fun w25 =>
                   I1 (t20, ()) w25)
                  (J6 (()) w4))
               (J6 (()) w4)))
         (ldS T_api_Attr.rep a_1 w4 fun t122 =>
          stK t4 (T_api_Attr.rep.cells t122) w4 fun w26 =>
          ldS T_api_Attr.rep t4 w26 fun r_1 =>
          K r_1 w26)) (params, ()) w2)

def an_attr_Apply : List Ann := [.none, .none, .none, .none, .none, .none, .join [(5, Kind.slice)] [5, 6, 7, 13, 14, 15, 16, 17, 18, 19, 20, 21, 22, 23, 24, 25, 26, 27, 28, 29, 30, 31, 32, 33, 34, 35, 36, 37, 38, 39, 40, 41, 42, 43, 44, 45, 46, 47, 48, 49, 50, 51, 52, 53, 54, 55, 56, 57, 58, 59, 60, 61, 62, 63, 64, 65, 66, 67, 68, 69, 70, 71, 72, 73, 74, 75, 76, 77, 78, 79, 80, 81, 82, 83, 84, 85, 86, 87, 88, 89, 90, 91, 92, 93, 94, 95, 96, 97, 98, 99, 100, 101, 102, 103, 104, 105, 106, 107, 108, 109, 110, 111, 112, 113, 114, 115, 116, 117, 118, 119, 120, 121], .none, .none, .none, .none, .none, .join [(7, Kind.ptr)] [6, 7, 22, 23, 24, 25, 26, 27, 28, 29, 30, 31, 32, 33, 34, 35, 36, 37, 38, 39, 40, 41, 42, 43, 44, 45, 46, 47, 48, 49, 50, 51, 52, 53, 54, 55, 56, 57, 58, 59, 60, 61, 62, 63, 64, 65, 66, 67, 68, 69, 70, 71, 72, 73, 74, 75, 76, 77, 78, 79, 80, 81, 82, 83, 84, 85, 86, 87, 88, 89, 90, 91, 92, 93, 94, 95, 96, 97, 98, 99, 100, 101, 102, 103, 104, 105, 106, 107, 108, 109, 110, 111, 112, 113, 114, 115, 116, 117, 118], .none, .none, .none, .join [(6, (Kind.int .i64)), (7, Kind.ptr)] [6, 7, 22, 23, 24, 25, 26, 27, 28, 29, 30, 31, 32, 33, 34, 35, 36, 37, 38, 39, 40, 41, 42, 43, 44, 45, 46, 47, 48, 49, 50, 51, 52, 53, 54, 55, 56, 57, 58, 59, 60, 61, 62, 63, 64, 65, 66, 67, 68, 69, 70, 71, 72, 73, 74, 75, 76, 77, 78, 79, 80, 81, 82, 83, 84, 85, 86, 87, 88, 89, 90, 91, 92, 93, 94, 95, 96, 97, 98, 99, 100, 101, 102, 103, 104, 105, 106, 107, 108, 109, 110], .none, .join [(6, (Kind.int .i64)), (7, Kind.ptr)] [6, 7, 22, 23, 24, 25, 26, 27, 28, 29, 30, 31, 32, 33, 34, 35, 36, 37, 38, 39, 40, 41, 42, 43, 44, 45, 46, 47, 48, 49, 50, 51, 52, 53, 54, 55, 56, 57, 58, 59, 60, 61, 62, 63, 64, 65, 66, 67, 68, 69, 70, 71, 72, 73, 74, 75, 76, 77, 78, 79, 80, 81, 82, 83, 84, 85, 86, 87, 88, 89, 90, 91, 92, 93, 94, 95, 96, 97, 98, 99, 100, 101, 102], .none, .join [] [22, 23, 24, 25, 26, 27, 28, 29, 30, 31, 32, 33, 34, 35, 36, 37, 38, 39, 40, 41, 42, 43, 44, 45, 46, 47, 48, 49, 50, 51, 52, 53, 54, 55, 56, 57, 58, 59, 60, 61, 62, 63, 64, 65, 66, 67, 68, 69, 70, 71, 72, 73, 74, 75, 76, 77, 78, 79, 80, 81, 82, 83, 84, 85, 86, 87, 88, 89, 90, 91, 92], .none, .none, .none, .none, .none, .none, .join [] [25, 26, 27, 28, 29, 30, 31], .none, .none, .none, .join [] [35, 36, 37, 38, 39, 40, 41], .none, .join [] [42, 43, 44, 45, 46, 47, 48], .none, .join [] [49, 50, 51, 52, 53, 54, 55], .none, .join [] [56, 57, 58, 59, 60, 61, 62], .none, .join [] [63, 64, 65, 66, 67, 68, 69], .none, .none, .none, .none, .none, .none, .none, .none, .none, .none, .none, .none, .none, .none, .none, .none, .none, .none, .none]

theorem vc_attr_Apply (a : T_api_Attr) (params : Slc) (w : World) (K : T_api_Attr → World → Prop) :
    vcFn C (Tryz.f124.body.getD .skip) Tryz.f124.results.toList Tryz.f124.ntmps an_attr_Apply [(Kind.struct T_api_Attr.rep)] [(.agg #[(.int .i64 a.Fg), (.int .i64 a.Bg), (.int .i64 a.Flags)]), (.slice params.a params.n params.c)] w (fun s w => K s.1 w) = sh_attr_Apply a params w K := by kernel_rfl

theorem call_attr_Apply (a : T_api_Attr) (params : Slc) {w : World} {K : T_api_Attr → World → Prop} (h : sh_attr_Apply a params w K) : c_attr_Apply a params w K := by
  rw [← vc_attr_Apply] at h
  refine Calls.mono (calls_of_vc C.plain_ok C.mixed Tryz.func124 rfl h) ?_
  rintro e w' ⟨s, rfl, hK⟩
  exact ⟨s.1, rfl, hK⟩

/-- (*phosphor/screen.Screen).margins -/
def sh_screen_Screen_margins (s : Option Addr) (p : Slc) (w : World) (K : World → Prop) : Prop :=
  c_screen_Screen_size s w fun t10 t10_1 w1 =>
  c_screen_param p 0 1 w1 fun t14 w2 =>
  c_screen_cut (IntKind.i64.wrap (t14 - (1 : Int))) 0 t10 w2 fun t17 w3 =>
  c_screen_param p 1 t10 w3 fun t20 w4 =>
  c_screen_cut t20 0 t10 w4 fun t22 w5 =>
  cond (decide ((IntKind.i64.wrap (t22 - t17)) < (2 : Int)))
    (K w5)
    (onPtr s fun t31 =>
     stK (t31.add 37) [(.int .i64 t17)] w5 fun w6 =>
     onPtr s fun t33 =>
     stK (t33.add 38) [(.int .i64 t22)] w6 fun w7 =>
     c_screen_Screen_home s w7 fun w8 =>
     K w8)

def an_screen_Screen_margins : List Ann := [.none, .none, .none, .none, .none]

theorem vc_screen_Screen_margins (s : Option Addr) (p : Slc) (w : World) (K : World → Prop) :
    vcFn C (Tryz.f125.body.getD .skip) Tryz.f125.results.toList Tryz.f125.ntmps an_screen_Screen_margins [] [(.pointer s), (.slice p.a p.n p.c)] w (fun s w => K w) = sh_screen_Screen_margins s p w K := by kernel_rfl

theorem call_screen_Screen_margins (s : Option Addr) (p : Slc) {w : World} {K : World → Prop} (h : sh_screen_Screen_margins s p w K) : c_screen_Screen_margins s p w K := by
  rw [← vc_screen_Screen_margins] at h
  refine Calls.mono (calls_of_vc C.plain_ok C.mixed Tryz.func125 rfl h) ?_
  rintro e w' ⟨s, rfl, hK⟩
  exact ⟨rfl, hK⟩

/-- (*phosphor/tabs.Stops).Clear -/
def sh_tabs_Stops_Clear (s : Option Addr) (col : Int) (w : World) (K : Bool → World → Prop) : Prop :=
  onPtr s fun t7 =>
  ldM (t7.add 1) w fun t9 =>
  runK1 PG (Instr.lookup ty_map_int_bool (.map t9) (.int .i64 col) false) Kind.bool w fun (t11 : Bool) w1 =>
  onPtr s fun t13 =>
  ldM (t13.add 1) w1 fun t15 =>
  runK1 PG (Builtin.delete_ #[ty_map_int_bool, ty_int] ty_unit #[(.map t15), (.int .i64 col)]) Kind.raw w1 fun (r : Value) w2 =>
  K t11 w2

def an_tabs_Stops_Clear : List Ann := [.none, .none, .none, .none]

theorem vc_tabs_Stops_Clear (s : Option Addr) (col : Int) (w : World) (K : Bool → World → Prop) :
    vcFn C (Tryz.f126.body.getD .skip) Tryz.f126.results.toList Tryz.f126.ntmps an_tabs_Stops_Clear [Kind.bool] [(.pointer s), (.int .i64 col)] w (fun s w => K s.1 w) = sh_tabs_Stops_Clear s col w K := by kernel_rfl

theorem call_tabs_Stops_Clear (s : Option Addr) (col : Int) {w : World} {K : Bool → World → Prop} (h : sh_tabs_Stops_Clear s col w K) : c_tabs_Stops_Clear s col w K := by
  rw [← vc_tabs_Stops_Clear] at h
  refine Calls.mono (calls_of_vc C.plain_ok C.mixed Tryz.func126 rfl h) ?_
  rintro e w' ⟨s, rfl, hK⟩
  exact ⟨s.1, rfl, hK⟩

/-- (*phosphor/tabs.Stops).None -/
def sh_tabs_Stops_None (s : Option Addr) (w : World) (K : World → Prop) : Prop :=
  onPtr s fun t3 =>
  ldM (t3.add 1) w fun t5 =>
  runK1 PG (Builtin.clear_ #[ty_map_int_bool] ty_unit #[(.map t5)]) Kind.raw w fun (r : Value) w1 =>
  K w1

def an_tabs_Stops_None : List Ann := []

theorem vc_tabs_Stops_None (s : Option Addr) (w : World) (K : World → Prop) :
    vcFn C (Tryz.f127.body.getD .skip) Tryz.f127.results.toList Tryz.f127.ntmps an_tabs_Stops_None [] [(.pointer s)] w (fun s w => K w) = sh_tabs_Stops_None s w K := by kernel_rfl

theorem call_tabs_Stops_None (s : Option Addr) {w : World} {K : World → Prop} (h : sh_tabs_Stops_None s w K) : c_tabs_Stops_None s w K := by
  rw [← vc_tabs_Stops_None] at h
  refine Calls.mono (calls_of_vc C.plain_ok C.mixed Tryz.func127 rfl h) ?_
  rintro e w' ⟨s, rfl, hK⟩
  exact ⟨rfl, hK⟩

/-- (*phosphor/screen.Screen).again -/
def sh_screen_Screen_again (s : Option Addr) (n : Int) (w : World) (K : World → Prop) : Prop :=
  c_screen_Screen_size s w fun t9 t9_1 w1 =>
  onPtr s fun t13 =>
  ldI .i32 (t13.add 40) w1 fun t15 =>
  cond (decide (t15 ≥ (0 : Int)))
    (loopP (σ := Int × Unit) (fun I1 s_1 w2 =>
       cond (decide (s_1.1 < (if (IntKind.i64.wrap (t9 * t9_1)) < n then (IntKind.i64.wrap (t9 * t9_1)) else n)))
         (c_screen_Screen_lay s t15 w2 fun w3 =>
          I1 ((IntKind.i64.wrap (s_1.1 + (1 : Int))), ()) w3)
         (K w2)) (0, ()) w1)
    (K w1)

def an_screen_Screen_again : List Ann := [.none, .none, .none, .none, .join [(23, (Kind.int .i64))] [23, 24, 25, 26, 27, 28], .none, .none, .none]

theorem vc_screen_Screen_again (s : Option Addr) (n : Int) (w : World) (K : World → Prop) :
    vcFn C (Tryz.f128.body.getD .skip) Tryz.f128.results.toList Tryz.f128.ntmps an_screen_Screen_again [] [(.pointer s), (.int .i64 n)] w (fun s w => K w) = sh_screen_Screen_again s n w K := by kernel_rfl

theorem call_screen_Screen_again (s : Option Addr) (n : Int) {w : World} {K : World → Prop} (h : sh_screen_Screen_again s n w K) : c_screen_Screen_again s n w K := by
  rw [← vc_screen_Screen_again] at h
  refine Calls.mono (calls_of_vc C.plain_ok C.mixed Tryz.func128 rfl h) ?_
  rintro e w' ⟨s, rfl, hK⟩
  exact ⟨rfl, hK⟩

/-- (*phosphor/screen.Screen).display -/
def sh_screen_Screen_display (s : Option Addr) (how : Int) (w : World) (K : World → Prop) : Prop :=
  c_screen_Screen_size s w fun t10 t10_1 w1 =>
  onPtr s fun t14 =>
  ldI .i64 ((t14.add 3).add 0) w1.drew fun t17 =>
  onPtr s fun t19 =>
  ldI .i64 ((t19.add 3).add 1) w1.drew fun t22 =>
  joinP (σ := Unit) (fun s_1 w2 =>
    onPtr s fun t63 =>
    stK ((t63.add 3).add 2) [(.bool false)] w2 fun w3 =>
    K w3) fun J1 =>
  cond (how == (0 : Int))
    (c_screen_Screen_erase s t17 1 t22 t10_1 w1.drew fun w4 =>
     c_screen_Screen_erase s (IntKind.i64.wrap (t17 + (1 : Int))) (IntKind.i64.wrap ((IntKind.i64.wrap (t10 - t17)) - (1 : Int))) 0 t10_1 w4 fun w5 =>
     J1 (()) w5)
    (cond (how == (1 : Int))
       (c_screen_Screen_erase s 0 t17 0 t10_1 w1.drew fun w6 =>
        c_screen_Screen_erase s t17 1 0 (IntKind.i64.wrap (t22 + (1 : Int))) w6 fun w7 =>
        J1 (()) w7)
       (cond (how == (2 : Int))
          (c_screen_Screen_erase s 0 t10 0 t10_1 w1.drew fun w8 =>
           J1 (()) w8)
          (cond (how == (3 : Int))
             (c_screen_Screen_g s w1.drew fun t60 w9 =>
              c_grid_Grid_Forget t60 w9 fun w10 =>
              K w10)
             (K w1.drew))))

def an_screen_Screen_display : List Ann := [.none, .none, .join [] [23, 24, 25, 26, 27, 28, 29, 30, 31, 32, 33, 34, 35, 36, 37, 38, 39, 40, 41, 42, 43, 44, 45, 46, 47, 48, 49, 50, 51, 52, 53, 54, 55, 56, 57, 58, 59, 60, 61], .none, .none, .none, .none, .none, .none, .none, .none]

theorem vc_screen_Screen_display (s : Option Addr) (how : Int) (w : World) (K : World → Prop) :
    vcFn C (Tryz.f129.body.getD .skip) Tryz.f129.results.toList Tryz.f129.ntmps an_screen_Screen_display [] [(.pointer s), (.int .i64 how)] w (fun s w => K w) = sh_screen_Screen_display s how w K := by kernel_rfl

theorem call_screen_Screen_display (s : Option Addr) (how : Int) {w : World} {K : World → Prop} (h : sh_screen_Screen_display s how w K) : c_screen_Screen_display s how w K := by
  rw [← vc_screen_Screen_display] at h
  refine Calls.mono (calls_of_vc C.plain_ok C.mixed Tryz.func129 rfl h) ?_
  rintro e w' ⟨s, rfl, hK⟩
  exact ⟨rfl, hK⟩

/-- (*phosphor/screen.Screen).inLine -/
def sh_screen_Screen_inLine (s : Option Addr) (how : Int) (w : World) (K : World → Prop) : Prop :=
  c_screen_Screen_size s w fun t10 t10_1 w1 =>
  joinP (σ := Int × Int × Unit) (fun s_1 w2 =>
    onPtr s fun t34 =>
    ldI .i64 ((t34.add 3).add 0) w2 fun t37 =>
    c_screen_Screen_erase s t37 1 s_1.1 s_1.2.1 w2 fun w3 =>
    onPtr s fun t42 =>
    stK ((t42.add 3).add 2) [(.bool false)] w3 fun w4 =>
    K w4) fun J1 =>
  cond (how == (0 : Int))
    (onPtr s fun t18 =>
     ldI .i64 ((t18.add 3).add 1) w1 fun t21 =>
     J1 (t21, t10_1, ()) w1)
    (cond (how == (1 : Int))
       (onPtr s fun t25 =>
        ldI .i64 ((t25.add 3).add 1) w1 fun t28 =>
        J1 (0, (IntKind.i64.wrap (t28 + (1 : Int))), ()) w1)
       (cond (how == (2 : Int))
          (J1 (0, t10_1, ()) w1)
          (K w1)))

def an_screen_Screen_inLine : List Ann := [.none, .none, .join [(6, (Kind.int .i64)), (7, (Kind.int .i64))] [6, 7, 14, 15, 16, 17, 18, 19, 20, 21, 22, 23, 24, 25, 26, 27, 28, 29, 30, 31], .none, .none, .none, .none, .none]

theorem vc_screen_Screen_inLine (s : Option Addr) (how : Int) (w : World) (K : World → Prop) :
    vcFn C (Tryz.f130.body.getD .skip) Tryz.f130.results.toList Tryz.f130.ntmps an_screen_Screen_inLine [] [(.pointer s), (.int .i64 how)] w (fun s w => K w) = sh_screen_Screen_inLine s how w K := by kernel_rfl

theorem call_screen_Screen_inLine (s : Option Addr) (how : Int) {w : World} {K : World → Prop} (h : sh_screen_Screen_inLine s how w K) : c_screen_Screen_inLine s how w K := by
  rw [← vc_screen_Screen_inLine] at h
  refine Calls.mono (calls_of_vc C.plain_ok C.mixed Tryz.func130 rfl h) ?_
  rintro e w' ⟨s, rfl, hK⟩
  exact ⟨rfl, hK⟩

/-- (*phosphor/screen.Screen).cells -/
def sh_screen_Screen_cells (s : Option Addr) (c : Int) (n : Int) (w : World) (K : World → Prop) : Prop :=
  nw ty_p_screen_Screen [(.pointer s)] w fun s_1 w1 =>
  nw ty_int [(.int .i64 n)] w1 fun n_1 w2 =>
  ldP s_1 w2 fun t9 =>
  onPtr t9 fun t10 =>
  stK ((t10.add 3).add 2) [(.bool false)] w2 fun w3 =>
  cond (c == (88 : Int))
    (ldP s_1 w3 fun t16 =>
     c_screen_Screen_size t16 w3 fun t17 t17_1 w4 =>
     ldP s_1 w4.drew fun t20 =>
     ldP s_1 w4.drew fun t21 =>
     onPtr t21 fun t22 =>
     ldI .i64 ((t22.add 3).add 0) w4.drew fun t25 =>
     ldP s_1 w4.drew fun t26 =>
     onPtr t26 fun t27 =>
     ldI .i64 ((t27.add 3).add 1) w4.drew fun t30 =>
     ldP s_1 w4.drew fun t31 =>
     onPtr t31 fun t32 =>
     ldI .i64 ((t32.add 3).add 1) w4.drew fun t35 =>
     ldI .i64 n_1 w4.drew fun t36 =>
     c_screen_Screen_erase t20 t25 1 t30 (if t17_1 < (IntKind.i64.wrap (t35 + t36)) then t17_1 else (IntKind.i64.wrap (t35 + t36))) w4.drew fun w5 =>
     K w5)
    (nw ty_func_line_Line_int_int_api_Attr_line_Line [.nilFunc] w3 fun change w6 =>
     stK change [(.func (.func fn_line_Line_Insert) #[] #[])] w6 fun w7 =>
     joinP (σ := Unit) (fun s_2 w8 =>
       ldP s_1 w8.drew fun t43 =>
       ldP s_1 w8.drew fun t45 =>
       onPtr t45 fun t46 =>
       ldI .i64 ((t46.add 3).add 0) w8.drew fun t49 =>
       c_screen_Screen_g t43 w8.drew fun t44 w9 =>
       World.cell? w9 ((t46.add 3).add 0) = some (.int .i64 t49) ∧
       World.cell? w9 s_1 = some (.pointer t45) ∧
       c_grid_Grid_Change t44 t49 ((.func (.func fn_screen_Screen_cells_1) #[] #[(.pointer (some change)), (.pointer (some s_1)), (.pointer (some n_1))]) : Value) w9 fun t51 w10 =>
       K w10) fun J1 =>
     cond (c == (80 : Int))
       (stK change [(.func (.func fn_line_Line_Delete) #[] #[])] w7 fun w11 =>
        J1 (()) w11)
       (J1 (()) w7))

def an_screen_Screen_cells : List Ann := [.none, .none, .none, .none, .none, .none, .none, .join [] [41, 42], .none]

theorem vc_screen_Screen_cells (s : Option Addr) (c : Int) (n : Int) (w : World) (K : World → Prop) :
    vcFn C (Tryz.f131.body.getD .skip) Tryz.f131.results.toList Tryz.f131.ntmps an_screen_Screen_cells [] [(.pointer s), (.int .u8 c), (.int .i64 n)] w (fun s w => K w) = sh_screen_Screen_cells s c n w K := by kernel_rfl

theorem call_screen_Screen_cells (s : Option Addr) (c : Int) (n : Int) {w : World} {K : World → Prop} (h : sh_screen_Screen_cells s c n w K) : c_screen_Screen_cells s c n w K := by
  rw [← vc_screen_Screen_cells] at h
  refine Calls.mono (calls_of_vc C.plain_ok C.mixed Tryz.func131 rfl h) ?_
  rintro e w' ⟨s, rfl, hK⟩
  exact ⟨rfl, hK⟩

/-- (*phosphor/screen.Screen).lines -/
def sh_screen_Screen_lines (s : Option Addr) (c : Int) (n : Int) (w : World) (K : World → Prop) : Prop :=
  joinP (σ := Unit) (fun s_1 w1 =>
    joinP (σ := Int × Unit) (fun s_2 w2 =>
      onPtr s fun t35 =>
      ldI .i64 ((t35.add 3).add 0) w2.drew fun t38 =>
      onPtr s fun t40 =>
      ldI .i64 (t40.add 38) w2.drew fun t42 =>
      c_screen_Screen_g s w2.drew fun t33 w3 =>
      World.cell? w3 (t40.add 38) = some (.int .i64 t42) ∧
      World.cell? w3 ((t35.add 3).add 0) = some (.int .i64 t38) ∧
      c_screen_Screen_blank s w3 fun t45 w4 =>
      World.cell? w4 (t40.add 38) = some (.int .i64 t42) ∧
      World.cell? w4 ((t35.add 3).add 0) = some (.int .i64 t38) ∧
      c_grid_Grid_Scroll t33 t38 t42 s_2.1 t45 w4 fun t46 w5 =>
      onPtr s fun t49 =>
      ldI .i64 ((t49.add 3).add 0) w5 fun t52 =>
      c_screen_Screen_to s t52 0 w5 fun w6 =>
      K w6) fun J2 =>
    cond (c == (76 : Int))
      (J2 ((IntKind.i64.wrap (0 - n)), ()) w1)
      (J2 (n, ()) w1)) fun J1 =>
  onPtr s fun t7 =>
  ldI .i64 ((t7.add 3).add 0) w.drew fun t10 =>
  onPtr s fun t12 =>
  ldI .i64 (t12.add 37) w.drew fun t14 =>
  cond (decide (t10 < t14))
    (K w.drew)
    (onPtr s fun t18 =>
     ldI .i64 ((t18.add 3).add 0) w.drew fun t21 =>
     onPtr s fun t23 =>
     ldI .i64 (t23.add 38) w.drew fun t25 =>
     cond (decide (t21 ≥ t25))
       (K w.drew)
       (J1 (()) w.drew))

def an_screen_Screen_lines : List Ann := [.join [] [6, 7, 8, 9, 10, 11, 12, 13, 14, 15, 16, 17, 18, 19, 20, 21, 22, 23, 24, 25, 26, 27], .none, .join [(2, (Kind.int .i64))] [2, 28, 29, 30, 31], .none, .none]

theorem vc_screen_Screen_lines (s : Option Addr) (c : Int) (n : Int) (w : World) (K : World → Prop) :
    vcFn C (Tryz.f132.body.getD .skip) Tryz.f132.results.toList Tryz.f132.ntmps an_screen_Screen_lines [] [(.pointer s), (.int .u8 c), (.int .i64 n)] w (fun s w => K w) = sh_screen_Screen_lines s c n w K := by kernel_rfl

theorem call_screen_Screen_lines (s : Option Addr) (c : Int) (n : Int) {w : World} {K : World → Prop} (h : sh_screen_Screen_lines s c n w K) : c_screen_Screen_lines s c n w K := by
  rw [← vc_screen_Screen_lines] at h
  refine Calls.mono (calls_of_vc C.plain_ok C.mixed Tryz.func132 rfl h) ?_
  rintro e w' ⟨s, rfl, hK⟩
  exact ⟨rfl, hK⟩

/-- (*phosphor/screen.Screen).move -/
def sh_screen_Screen_move (s : Option Addr) (p : Slc) (c : Int) (n : Int) (w : World) (K : World → Prop) : Prop :=
  joinP (σ := Unit) (fun s_1 w1 =>
    joinP (σ := Bool × Unit) (fun s_2 w2 =>
      cond s_2.1
        (onPtr s fun t138 =>
         ldI .i64 ((t138.add 3).add 0) w2 fun t141 =>
         c_screen_Screen_to s t141 0 w2 fun w3 =>
         K w3)
        (K w2)) fun J2 =>
    cond (c == (69 : Int))
      (J2 (true, ()) w1)
      (J2 ((c == (70 : Int)), ()) w1)) fun J1 =>
  joinP (σ := Bool × Unit) (fun s_3 w4 =>
    cond s_3.1
      (c_screen_Screen_up s n w4 fun w5 =>
       J1 (()) w5)
      (joinP (σ := Bool × Unit) (fun s_4 w6 =>
         cond s_4.1
           (c_screen_Screen_down s n w6 fun w7 =>
            J1 (()) w7)
           (joinP (σ := Bool × Unit) (fun s_5 w8 =>
              cond s_5.1
                (onPtr s fun t27 =>
                 ldI .i64 ((t27.add 3).add 0) w8.drew fun t30 =>
                 onPtr s fun t32 =>
                 ldI .i64 ((t32.add 3).add 1) w8.drew fun t35 =>
                 c_screen_Screen_to s t30 (IntKind.i64.wrap (t35 + n)) w8.drew fun w9 =>
                 J1 (()) w9)
                (cond (c == (68 : Int))
                   (onPtr s fun t43 =>
                    ldI .i64 ((t43.add 3).add 0) w8.drew fun t46 =>
                    onPtr s fun t48 =>
                    ldI .i64 ((t48.add 3).add 1) w8.drew fun t51 =>
                    c_screen_Screen_to s t46 (IntKind.i64.wrap (t51 - n)) w8.drew fun w10 =>
                    J1 (()) w10)
                   (joinP (σ := Bool × Unit) (fun s_6 w11 =>
                      cond s_6.1
                        (onPtr s fun t60 =>
                         ldI .i64 ((t60.add 3).add 0) w11 fun t63 =>
                         c_screen_Screen_to s t63 (IntKind.i64.wrap (n - (1 : Int))) w11 fun w12 =>
                         J1 (()) w12)
                        (cond (c == (100 : Int))
                           (onPtr s fun t74 =>
                            ldI .i64 ((t74.add 3).add 1) w11.drew fun t77 =>
                            c_screen_Screen_asked s n w11.drew fun t72 w13 =>
                            World.cell? w13 ((t74.add 3).add 1) = some (.int .i64 t77) ∧
                            c_screen_Screen_to s t72 t77 w13 fun w14 =>
                            J1 (()) w14)
                           (joinP (σ := Bool × Unit) (fun s_7 w15 =>
                              cond s_7.1
                                (c_screen_Screen_asked s n w15 fun t85 w16 =>
                                 c_screen_param p 1 1 w16 fun t87 w17 =>
                                 c_screen_Screen_to s t85 (IntKind.i64.wrap (t87 - (1 : Int))) w17 fun w18 =>
                                 J1 (()) w18)
                                (cond (c == (73 : Int))
                                   (onPtr s fun t94 =>
                                    ldI .i64 ((t94.add 3).add 0) w15.drew fun t97 =>
                                    onPtr s fun t99 =>
                                    ldP (t99.add 39) w15.drew fun t101 =>
                                    onPtr s fun t103 =>
                                    ldI .i64 ((t103.add 3).add 1) w15.drew fun t106 =>
                                    c_tabs_Stops_Next t101 t106 n w15.drew fun t108 w19 =>
                                    World.cell? w19 ((t94.add 3).add 0) = some (.int .i64 t97) ∧
                                    c_screen_Screen_to s t97 t108 w19 fun w20 =>
                                    J1 (()) w20)
                                   (cond (c == (90 : Int))
                                      (onPtr s fun t114 =>
                                       ldI .i64 ((t114.add 3).add 0) w15.drew fun t117 =>
                                       onPtr s fun t119 =>
                                       ldP (t119.add 39) w15.drew fun t121 =>
                                       onPtr s fun t123 =>
                                       ldI .i64 ((t123.add 3).add 1) w15.drew fun t126 =>
                                       c_tabs_Stops_Back t121 t126 n w15.drew fun t128 w21 =>
                                       World.cell? w21 ((t114.add 3).add 0) = some (.int .i64 t117) ∧
                                       c_screen_Screen_to s t117 t128 w21 fun w22 =>
                                       J1 (()) w22)
                                      (J1 (()) w15)))) fun J7 =>
                            cond (c == (72 : Int))
                              (J7 ((c == (72 : Int)), ()) w11)
                              (J7 ((c == (102 : Int)), ()) w11)))) fun J6 =>
                    cond (c == (71 : Int))
                      (J6 ((c == (71 : Int)), ()) w8)
                      (J6 ((c == (96 : Int)), ()) w8)))) fun J5 =>
            cond (c == (67 : Int))
              (J5 ((c == (67 : Int)), ()) w6)
              (J5 ((c == (97 : Int)), ()) w6))) fun J4 =>
       cond (c == (66 : Int))
         (J4 ((c == (66 : Int)), ()) w4)
         (cond (c == (101 : Int))
            (J4 ((c == (101 : Int)), ()) w4)
            (J4 ((c == (69 : Int)), ()) w4)))) fun J3 =>
  cond (c == (65 : Int))
    (J3 ((c == (65 : Int)), ()) w)
    (J3 ((c == (70 : Int)), ()) w)

def an_screen_Screen_move : List Ann := [.join [] [8, 9, 10, 11, 12, 13, 14, 15, 16, 17, 18, 19, 20, 21, 22, 23, 24, 25, 26, 27, 28, 29, 30, 31, 32, 33, 34, 35, 36, 37, 38, 39, 40, 41, 42, 43, 44, 45, 46, 47, 48, 49, 50, 51, 52, 53, 54, 55, 56, 57, 58, 59, 60, 61, 62, 63, 64, 65, 66, 67, 68, 69, 70, 71, 72, 73, 74, 75, 76, 77, 78, 79, 80, 81, 82, 83, 84, 85, 86, 87, 88, 89, 90, 91, 92, 93, 94, 95, 96, 97, 98, 99, 100, 101, 102, 103, 104, 105, 106, 107, 108, 109, 110, 111, 112, 113, 114, 115, 116, 117, 118, 119, 120, 121, 122, 123, 124, 125, 126, 127, 128, 129], .none, .join [(9, Kind.bool)] [9, 10, 11], .none, .join [(15, Kind.bool)] [15, 16, 17, 18], .none, .none, .join [(22, Kind.bool)] [22, 23, 24], .none, .none, .join [(55, Kind.bool)] [55, 56, 57], .none, .none, .join [(79, Kind.bool)] [79, 80, 81], .none, .none, .none, .join [(135, Kind.bool)] [130, 131, 132, 133, 134, 135]]

theorem vc_screen_Screen_move (s : Option Addr) (p : Slc) (c : Int) (n : Int) (w : World) (K : World → Prop) :
    vcFn C (Tryz.f133.body.getD .skip) Tryz.f133.results.toList Tryz.f133.ntmps an_screen_Screen_move [] [(.pointer s), (.slice p.a p.n p.c), (.int .u8 c), (.int .i64 n)] w (fun s w => K w) = sh_screen_Screen_move s p c n w K := by kernel_rfl

theorem call_screen_Screen_move (s : Option Addr) (p : Slc) (c : Int) (n : Int) {w : World} {K : World → Prop} (h : sh_screen_Screen_move s p c n w K) : c_screen_Screen_move s p c n w K := by
  rw [← vc_screen_Screen_move] at h
  refine Calls.mono (calls_of_vc C.plain_ok C.mixed Tryz.func133 rfl h) ?_
  rintro e w' ⟨s, rfl, hK⟩
  exact ⟨rfl, hK⟩

/-- (*strings.Builder).copyCheck -/
def sh_strings_Builder_copyCheck (b : Option Addr) (w : World) (K : World → Prop) : Prop :=
  onPtr b fun t3 =>
  ldP (t3.add 0) w fun t5 =>
  cond (t5.isNone)
    (runK1 PG (convert ty_p_strings_Builder ty_unsafe_Pointer (.pointer b)) Kind.ptr w fun (t9 : Option Addr) w1 =>
     callX PG 164 [(.pointer t9)] [Kind.ptr] w1 fun (t10 : Option Addr) w2 =>
     runK1 PG (convert ty_unsafe_Pointer ty_p_strings_Builder (.pointer t10)) Kind.ptr w2 fun (t11 : Option Addr) w3 =>
     onPtr b fun t12 =>
     stK (t12.add 0) [(.pointer t11)] w3 fun w4 =>
     K w4)
    (onPtr b fun t15 =>
     ldP (t15.add 0) w fun t17 =>
     ptrEqK t17 b fun t19 =>
     cond (!t19)
       (False)
       (K w))

def an_strings_Builder_copyCheck : List Ann := [.none, .none]

theorem vc_strings_Builder_copyCheck (b : Option Addr) (w : World) (K : World → Prop) :
    vcFn C (Tryz.f134.body.getD .skip) Tryz.f134.results.toList Tryz.f134.ntmps an_strings_Builder_copyCheck [] [(.pointer b)] w (fun s w => K w) = sh_strings_Builder_copyCheck b w K := by kernel_rfl

theorem call_strings_Builder_copyCheck (b : Option Addr) {w : World} {K : World → Prop} (h : sh_strings_Builder_copyCheck b w K) : c_strings_Builder_copyCheck b w K := by
  rw [← vc_strings_Builder_copyCheck] at h
  refine Calls.mono (calls_of_vc C.plain_ok C.mixed Tryz.func134 rfl h) ?_
  rintro e w' ⟨s, rfl, hK⟩
  exact ⟨rfl, hK⟩

/-- phosphor/utf.Is -/
def sh_utf_Is (r : Int) (w : World) (K : Bool → World → Prop) : Prop :=
  cond (decide (r ≥ (0 : Int)))
    (cond (decide (r ≤ (1114111 : Int)))
       (cond (decide (r < (55296 : Int)))
          (K true w)
          (K (decide (r > (57343 : Int))) w))
       (K false w))
    (K false w)

def an_utf_Is : List Ann := [.none, .none]

theorem vc_utf_Is (r : Int) (w : World) (K : Bool → World → Prop) :
    vcFn C (Tryz.f135.body.getD .skip) Tryz.f135.results.toList Tryz.f135.ntmps an_utf_Is [Kind.bool] [(.int .i32 r)] w (fun s w => K s.1 w) = sh_utf_Is r w K := by kernel_rfl

theorem call_utf_Is (r : Int) {w : World} {K : Bool → World → Prop} (h : sh_utf_Is r w K) : c_utf_Is r w K := by
  rw [← vc_utf_Is] at h
  refine Calls.mono (calls_of_vc C.plain_ok C.mixed Tryz.func135 rfl h) ?_
  rintro e w' ⟨s, rfl, hK⟩
  exact ⟨s.1, rfl, hK⟩

/-- strings.trimRightByte -/
def sh_strings_trimRightByte (s : ByteArray) (c : Int) (w : World) (K : ByteArray → World → Prop) : Prop :=
  loopP (σ := ByteArray × Unit) (fun I1 s_1 w1 =>
    joinP (σ := Unit) (fun s_2 w2 =>
      slS s_1.1 none (some (IntKind.i64.wrap ((s_1.1.size : Int) - (1 : Int)))) fun t21 =>
      I1 (t21, ()) w2) fun J2 =>
    cond (decide ((s_1.1.size : Int) > (0 : Int)))
      (ixS s_1.1 (IntKind.i64.wrap ((s_1.1.size : Int) - (1 : Int))) fun t13 =>
       cond (t13 == c)
         (J2 (()) w1)
         (K s_1.1 w1))
      (K s_1.1 w1)) (s, ()) w

def an_strings_trimRightByte : List Ann := [.none, .none, .join [(0, Kind.string)] [0, 5, 6, 7, 8, 9, 10, 11, 12, 13, 14, 15, 16, 17, 18, 19, 20, 21], .join [] [5, 6, 7, 8, 9, 10, 11, 12, 13, 14, 15, 16], .none, .none]

theorem vc_strings_trimRightByte (s : ByteArray) (c : Int) (w : World) (K : ByteArray → World → Prop) :
    vcFn C (Tryz.f136.body.getD .skip) Tryz.f136.results.toList Tryz.f136.ntmps an_strings_trimRightByte [Kind.string] [(.string s), (.int .u8 c)] w (fun s w => K s.1 w) = sh_strings_trimRightByte s c w K := by kernel_rfl

theorem call_strings_trimRightByte (s : ByteArray) (c : Int) {w : World} {K : ByteArray → World → Prop} (h : sh_strings_trimRightByte s c w K) : c_strings_trimRightByte s c w K := by
  rw [← vc_strings_trimRightByte] at h
  refine Calls.mono (calls_of_vc C.plain_ok C.mixed Tryz.func136 rfl h) ?_
  rintro e w' ⟨s, rfl, hK⟩
  exact ⟨s.1, rfl, hK⟩

/-- phosphor/phosphorref13.New -/
def sh_phosphorref13_New (cols : Int) (a : T_api_Attr) (w : World) (K : Slc → World → Prop) : Prop :=
  nw ty_api_Attr (T_api_Attr.rep.cells a) w fun a_1 w1 =>
  cond (decide (cols > (1000 : Int)))
    (K (⟨none, 0, 0⟩ : Slc) w1)
    (loopP (σ := Slc × Int × Unit) (fun I1 s w2 =>
       cond (decide (s.2.1 < cols))
         (ldS T_api_Attr.rep a_1 w2 fun t15 =>
          c_phosphorref13_blank t15 w2 fun t16 w3 =>
          nw ty_api_Cell [(.int .i32 t16.R), (.int .i64 t16.Kind), (.int .i64 t16.A.Fg), (.int .i64 t16.A.Bg), (.int .i64 t16.A.Flags)] w3 fun t17 w4 =>
          apK PG #[ty_sl_api_Cell, ty_sl_api_Cell] ty_sl_api_Cell s.1 (⟨(some t17), 1, 1⟩ : Slc) w4 fun t18 w5 =>
          I1 (t18, (IntKind.i64.wrap (s.2.1 + (1 : Int))), ()) w5)
         (K s.1 w2)) (⟨none, 0, 0⟩, 0, ()) w1)

def an_phosphorref13_New : List Ann := [.none, .none, .none, .none, .none, .none, .none, .join [(5, Kind.slice), (6, (Kind.int .i64))] [5, 6, 9, 10, 11, 12, 13, 14, 15, 16, 17, 18], .none, .none, .none, .none]

theorem vc_phosphorref13_New (cols : Int) (a : T_api_Attr) (w : World) (K : Slc → World → Prop) :
    vcFn C (Tryz.f140.body.getD .skip) Tryz.f140.results.toList Tryz.f140.ntmps an_phosphorref13_New [Kind.slice] [(.int .i64 cols), (.agg #[(.int .i64 a.Fg), (.int .i64 a.Bg), (.int .i64 a.Flags)])] w (fun s w => K s.1 w) = sh_phosphorref13_New cols a w K := by kernel_rfl

theorem call_phosphorref13_New (cols : Int) (a : T_api_Attr) {w : World} {K : Slc → World → Prop} (h : sh_phosphorref13_New cols a w K) : c_phosphorref13_New cols a w K := by
  rw [← vc_phosphorref13_New] at h
  refine Calls.mono (calls_of_vc C.plain_ok C.mixed Tryz.func140 rfl h) ?_
  rintro e w' ⟨s, rfl, hK⟩
  exact ⟨s.1, rfl, hK⟩

/-- (*phosphor/phosphorref17.Screen).has -/
def sh_phosphorref17_Screen_has (s : Option Addr) (n : Int) (w : World) (K : Bool → World → Prop) : Prop :=
  loopP (σ := Int × Unit) (fun I1 s_1 w1 =>
    onPtr s fun t8 =>
    ldSl (t8.add 37) w1 fun t10 =>
    cond (decide (s_1.1 < ((t10.n : Nat) : Int)))
      (onPtr s fun t16 =>
       ldSl (t16.add 37) w1 fun t18 =>
       ixK t18 s_1.1 1 fun t20 =>
       ldI .i64 t20 w1 fun t21 =>
       cond (t21 == n)
         (K true w1)
         (I1 ((IntKind.i64.wrap (s_1.1 + (1 : Int))), ()) w1))
      (K false w1)) (0, ()) w

def an_phosphorref17_Screen_has : List Ann := [.none, .none, .none, .join [(5, (Kind.int .i64))] [4, 5, 6, 7, 8, 9, 10, 11, 12, 13, 14, 15, 16, 17, 18, 19, 20, 21, 22, 23], .none, .none, .none, .none, .none, .none]

theorem vc_phosphorref17_Screen_has (s : Option Addr) (n : Int) (w : World) (K : Bool → World → Prop) :
    vcFn C (Tryz.f143.body.getD .skip) Tryz.f143.results.toList Tryz.f143.ntmps an_phosphorref17_Screen_has [Kind.bool] [(.pointer s), (.int .i64 n)] w (fun s w => K s.1 w) = sh_phosphorref17_Screen_has s n w K := by kernel_rfl

theorem call_phosphorref17_Screen_has (s : Option Addr) (n : Int) {w : World} {K : Bool → World → Prop} (h : sh_phosphorref17_Screen_has s n w K) : c_phosphorref17_Screen_has s n w K := by
  rw [← vc_phosphorref17_Screen_has] at h
  refine Calls.mono (calls_of_vc C.plain_ok C.mixed Tryz.func143 rfl h) ?_
  rintro e w' ⟨s, rfl, hK⟩
  exact ⟨s.1, rfl, hK⟩

/-- slices.Concat[phosphor/line.Line,phosphor/api.Cell] -/
def sh_slices_Concat_line_Line_api_Cell (slices : Slc) (w : World) (K : Slc → World → Prop) : Prop :=
  loopP (σ := Int × Int × Unit) (fun I1 s w1 =>
    cond (decide (s.2.1 < ((slices.n : Nat) : Int)))
      (ixK slices s.2.1 1 fun t13 =>
       ldSl t13 w1 fun t14 =>
       cond (decide ((IntKind.i64.wrap (s.1 + ((t14.n : Nat) : Int))) < (0 : Int)))
         (False)
         (I1 ((IntKind.i64.wrap (s.1 + ((t14.n : Nat) : Int))), (IntKind.i64.wrap (s.2.1 + (1 : Int))), ()) w1))
      (c_slices_Grow_line_Line_api_Cell (⟨none, 0, 0⟩ : Slc) s.1 w1 fun t24 w2 =>
       loopP (σ := Slc × Int × Unit) (fun I2 s_1 w3 =>
         cond (decide (s_1.2.1 < ((slices.n : Nat) : Int)))
           (ixK slices s_1.2.1 1 fun t29 =>
            ldSl t29 w3 fun t30 =>
            apK PG #[ty_line_Line, ty_line_Line] ty_line_Line s_1.1 t30 w3 fun t33 w4 =>
            I2 (t33, (IntKind.i64.wrap (s_1.2.1 + (1 : Int))), ()) w4)
           (K s_1.1 w3)) (t24, 0, ()) w2)) (0, 0, ()) w

def an_slices_Concat_line_Line_api_Cell : List Ann := [.none, .none, .none, .none, .join [(3, (Kind.int .i64)), (11, (Kind.int .i64))] [3, 5, 11, 12, 13, 14, 15, 16, 17, 18, 19, 20, 21, 22], .none, .none, .none, .none, .none, .none, .none, .none, .none, .join [(6, Kind.slice), (27, (Kind.int .i64))] [6, 8, 27, 28, 29, 30, 31, 32, 33, 34], .none, .none, .none, .none, .none]

theorem vc_slices_Concat_line_Line_api_Cell (slices : Slc) (w : World) (K : Slc → World → Prop) :
    vcFn C (Tryz.f144.body.getD .skip) Tryz.f144.results.toList Tryz.f144.ntmps an_slices_Concat_line_Line_api_Cell [Kind.slice] [(.slice slices.a slices.n slices.c)] w (fun s w => K s.1 w) = sh_slices_Concat_line_Line_api_Cell slices w K := by kernel_rfl

theorem call_slices_Concat_line_Line_api_Cell (slices : Slc) {w : World} {K : Slc → World → Prop} (h : sh_slices_Concat_line_Line_api_Cell slices w K) : c_slices_Concat_line_Line_api_Cell slices w K := by
  rw [← vc_slices_Concat_line_Line_api_Cell] at h
  refine Calls.mono (calls_of_vc C.plain_ok C.mixed Tryz.func144 rfl h) ?_
  rintro e w' ⟨s, rfl, hK⟩
  exact ⟨s.1, rfl, hK⟩

/-- phosphor/line.blanks -/
def sh_line_blanks (n : Int) (a : T_api_Attr) (w : World) (K : Slc → World → Prop) : Prop :=
  nw ty_api_Attr (T_api_Attr.rep.cells a) w fun a_1 w1 =>
  loopP (σ := Slc × Int × Unit) (fun I1 s w2 =>
    cond (decide (s.2.1 < n))
      (ldS T_api_Attr.rep a_1 w2 fun t10 =>
       nw ty_api_Cell [(.int .i32 0), (.int .i64 0), (.int .i64 t10.Fg), (.int .i64 t10.Bg), (.int .i64 t10.Flags)] w2 fun t12 w3 =>
       apK PG #[ty_line_Line, ty_line_Line] ty_line_Line s.1 (⟨(some t12), 1, 1⟩ : Slc) w3 fun t13 w4 =>
       I1 (t13, (IntKind.i64.wrap (s.2.1 + (1 : Int))), ()) w4)
      (K s.1 w2)) (⟨none, 0, 0⟩, 0, ()) w1

def an_line_blanks : List Ann := [.none, .none, .none, .none, .join [(5, Kind.slice), (7, (Kind.int .i64))] [5, 7, 8, 9, 10, 11, 12, 13, 14], .none, .none, .none, .none]

theorem vc_line_blanks (n : Int) (a : T_api_Attr) (w : World) (K : Slc → World → Prop) :
    vcFn C (Tryz.f145.body.getD .skip) Tryz.f145.results.toList Tryz.f145.ntmps an_line_blanks [Kind.slice] [(.int .i64 n), (.agg #[(.int .i64 a.Fg), (.int .i64 a.Bg), (.int .i64 a.Flags)])] w (fun s w => K s.1 w) = sh_line_blanks n a w K := by kernel_rfl

theorem call_line_blanks (n : Int) (a : T_api_Attr) {w : World} {K : Slc → World → Prop} (h : sh_line_blanks n a w K) : c_line_blanks n a w K := by
  rw [← vc_line_blanks] at h
  refine Calls.mono (calls_of_vc C.plain_ok C.mixed Tryz.func145 rfl h) ?_
  rintro e w' ⟨s, rfl, hK⟩
  exact ⟨s.1, rfl, hK⟩

/-- (*phosphor/ring.Ring[phosphor/line.Line]).Push -/
def sh_ring_Ring_line_Line_Push (r : Option Addr) (t : Slc) (w : World) (K : Slc → Bool → World → Prop) : Prop :=
  onPtr r fun t10 =>
  ldI .i64 (t10.add 0) w fun t12 =>
  cond (t12 == (0 : Int))
    (onPtr r fun t15 =>
     ldI .i64 (t15.add 3) w fun t17 =>
     onPtr r fun t19 =>
     stK (t19.add 3) [(.int .i64 (IntKind.i64.wrap (t17 + (1 : Int))))] w fun w1 =>
     K t true w1)
    (onPtr r fun t24 =>
     ldSl (t24.add 1) w.drew fun t26 =>
     onPtr r fun t29 =>
     ldI .i64 (t29.add 0) w.drew fun t31 =>
     cond (decide (((t26.n : Nat) : Int) < t31))
       (c_ring_Ring_line_Line_even r w.drew fun w2 =>
        onPtr r fun t37 =>
        ldSl (t37.add 1) w2 fun t39 =>
        nw ty_line_Line [(.slice t.a t.n t.c)] w2 fun t41 w3 =>
        apK PG #[ty_sl_line_Line, ty_sl_line_Line] ty_sl_line_Line t39 (⟨(some t41), 1, 1⟩ : Slc) w3 fun t42 w4 =>
        onPtr r fun t43 =>
        stK (t43.add 1) [(.slice t42.a t42.n t42.c)] w4 fun w5 =>
        K (⟨none, 0, 0⟩ : Slc) false w5)
       (onPtr r fun t47 =>
        ldSl (t47.add 1) w.drew.drew fun t49 =>
        onPtr r fun t51 =>
        ldI .i64 (t51.add 2) w.drew.drew fun t53 =>
        ixK t49 t53 1 fun t54 =>
        ldSl t54 w.drew.drew fun t55 =>
        onPtr r fun t57 =>
        ldSl (t57.add 1) w.drew.drew.drew fun t59 =>
        onPtr r fun t61 =>
        ldI .i64 (t61.add 2) w.drew.drew.drew fun t63 =>
        ixK t59 t63 1 fun t65 =>
        stK t65 [(.slice t.a t.n t.c)] w.drew.drew.drew fun w6 =>
        onPtr r fun t68 =>
        ldI .i64 (t68.add 2) w6.drew fun t70 =>
        onPtr r fun t73 =>
        ldSl (t73.add 1) w6.drew fun t75 =>
        ((t75.n : Nat) : Int) ≠ 0 ∧
        onPtr r fun t78 =>
        stK (t78.add 2) [(.int .i64 ((IntKind.i64.wrap (t70 + (1 : Int))).tmod ((t75.n : Nat) : Int)))] w6.drew fun w7 =>
        onPtr r fun t81 =>
        ldI .i64 (t81.add 3) w7 fun t83 =>
        onPtr r fun t85 =>
        stK (t85.add 3) [(.int .i64 (IntKind.i64.wrap (t83 + (1 : Int))))] w7 fun w8 =>
        K t55 true w8))

def an_ring_Ring_line_Line_Push : List Ann := [.none, .none, .none, .none, .none, .none, .none, .none, .none, .none, .none, .none, .none, .none, .none]

theorem vc_ring_Ring_line_Line_Push (r : Option Addr) (t : Slc) (w : World) (K : Slc → Bool → World → Prop) :
    vcFn C (Tryz.f146.body.getD .skip) Tryz.f146.results.toList Tryz.f146.ntmps an_ring_Ring_line_Line_Push [Kind.slice, Kind.bool] [(.pointer r), (.slice t.a t.n t.c)] w (fun s w => K s.1 s.2.1 w) = sh_ring_Ring_line_Line_Push r t w K := by kernel_rfl

theorem call_ring_Ring_line_Line_Push (r : Option Addr) (t : Slc) {w : World} {K : Slc → Bool → World → Prop} (h : sh_ring_Ring_line_Line_Push r t w K) : c_ring_Ring_line_Line_Push r t w K := by
  rw [← vc_ring_Ring_line_Line_Push] at h
  refine Calls.mono (calls_of_vc C.plain_ok C.mixed Tryz.func146 rfl h) ?_
  rintro e w' ⟨s, rfl, hK⟩
  exact ⟨s.1, s.2.1, rfl, hK⟩

/-- slices.Grow[[]phosphor/line.Line,phosphor/line.Line] -/
def sh_slices_Grow_line_Line_line_Line (s : Slc) (n : Int) (w : World) (K : Slc → World → Prop) : Prop :=
  joinP (σ := Unit) (fun s_1 w1 =>
    cond (decide ((IntKind.i64.wrap (n - (IntKind.i64.wrap (((s.c : Nat) : Int) - ((s.n : Nat) : Int))))) > (0 : Int)))
      (slK s none (some ((s.c : Nat) : Int)) 1 fun t20 =>
       apM PG #[ty_sl_line_Line, ty_int] ty_sl_line_Line t20 (IntKind.i64.wrap (n - (IntKind.i64.wrap (((s.c : Nat) : Int) - ((s.n : Nat) : Int))))) .i64 w1 fun t22 w2 =>
       slK t22 none (some ((s.n : Nat) : Int)) 1 fun t25 =>
       K t25 w2)
      (K s w1)) fun J1 =>
  cond (decide (n < (0 : Int)))
    (False)
    (J1 (()) w)

def an_slices_Grow_line_Line_line_Line : List Ann := [.none, .join [] [5, 6, 7], .none, .none, .none, .none, .none]

theorem vc_slices_Grow_line_Line_line_Line (s : Slc) (n : Int) (w : World) (K : Slc → World → Prop) :
    vcFn C (Tryz.f147.body.getD .skip) Tryz.f147.results.toList Tryz.f147.ntmps an_slices_Grow_line_Line_line_Line [Kind.slice] [(.slice s.a s.n s.c), (.int .i64 n)] w (fun s w => K s.1 w) = sh_slices_Grow_line_Line_line_Line s n w K := by kernel_rfl

theorem call_slices_Grow_line_Line_line_Line (s : Slc) (n : Int) {w : World} {K : Slc → World → Prop} (h : sh_slices_Grow_line_Line_line_Line s n w K) : c_slices_Grow_line_Line_line_Line s n w K := by
  rw [← vc_slices_Grow_line_Line_line_Line] at h
  refine Calls.mono (calls_of_vc C.plain_ok C.mixed Tryz.func147 rfl h) ?_
  rintro e w' ⟨s, rfl, hK⟩
  exact ⟨s.1, rfl, hK⟩

/-- phosphor/utf.in -/
def sh_utf_in (r : Int) (l : Slc) (w : World) (K : Bool → World → Prop) : Prop :=
  loopP (σ := Int × Unit) (fun I1 s w1 =>
    cond (decide (s.1 < ((l.n : Nat) : Int)))
      (ixK l s.1 2 fun t11 =>
       ldS T_utf_span.rep t11 w1 fun t12 =>
       nw ty_utf_span [(.int .i32 0), (.int .i32 0)] w1 fun s_1 w2 =>
       stK s_1 (T_utf_span.rep.cells t12) w2 fun w3 =>
       ldI .i32 (s_1.add 0) w3 fun t15 =>
       cond (decide (r ≥ t15))
         (ldI .i32 (s_1.add 1) w3 fun t20 =>
          cond (decide (r ≤ t20))
            (K true w3)
            (I1 ((IntKind.i64.wrap (s.1 + (1 : Int))), ()) w3))
         (I1 ((IntKind.i64.wrap (s.1 + (1 : Int))), ()) w3))
      (K false w1)) (0, ()) w

def an_utf_in : List Ann := [.none, .none, .none, .join [(9, (Kind.int .i64))] [4, 6, 9, 10, 11, 12, 13, 14, 15, 16, 17, 18, 19, 20, 21, 22, 23], .none, .none, .none, .none, .none, .none, .none]

theorem vc_utf_in (r : Int) (l : Slc) (w : World) (K : Bool → World → Prop) :
    vcFn C (Tryz.f148.body.getD .skip) Tryz.f148.results.toList Tryz.f148.ntmps an_utf_in [Kind.bool] [(.int .i32 r), (.slice l.a l.n l.c)] w (fun s w => K s.1 w) = sh_utf_in r l w K := by kernel_rfl

theorem call_utf_in (r : Int) (l : Slc) {w : World} {K : Bool → World → Prop} (h : sh_utf_in r l w K) : c_utf_in r l w K := by
  rw [← vc_utf_in] at h
  refine Calls.mono (calls_of_vc C.plain_ok C.mixed Tryz.func148 rfl h) ?_
  rintro e w' ⟨s, rfl, hK⟩
  exact ⟨s.1, rfl, hK⟩

/-- phosphor/utf.thin -/
def sh_utf_thin  (w : World) (K : Slc → World → Prop) : Prop :=
  nw ty_utf_span [(.int .i32 0), (.int .i32 31), (.int .i32 127), (.int .i32 159), (.int .i32 768), (.int .i32 879), (.int .i32 8203), (.int .i32 8207), (.int .i32 65024), (.int .i32 65039)] w fun t6 w1 =>
  K (⟨(some t6), 5, 5⟩ : Slc) w1

def an_utf_thin : List Ann := [.none, .none]

theorem vc_utf_thin  (w : World) (K : Slc → World → Prop) :
    vcFn C (Tryz.f149.body.getD .skip) Tryz.f149.results.toList Tryz.f149.ntmps an_utf_thin [Kind.slice] [] w (fun s w => K s.1 w) = sh_utf_thin  w K := by kernel_rfl

theorem call_utf_thin  {w : World} {K : Slc → World → Prop} (h : sh_utf_thin  w K) : c_utf_thin  w K := by
  rw [← vc_utf_thin] at h
  refine Calls.mono (calls_of_vc C.plain_ok C.mixed Tryz.func149 rfl h) ?_
  rintro e w' ⟨s, rfl, hK⟩
  exact ⟨s.1, rfl, hK⟩

/-- phosphor/utf.wide -/
def sh_utf_wide  (w : World) (K : Slc → World → Prop) : Prop :=
  nw ty_utf_span [(.int .i32 4352), (.int .i32 4447), (.int .i32 11904), (.int .i32 42191), (.int .i32 44032), (.int .i32 55203), (.int .i32 63744), (.int .i32 64255), (.int .i32 65072), (.int .i32 65135), (.int .i32 65280), (.int .i32 65376), (.int .i32 65504), (.int .i32 65510), (.int .i32 127744), (.int .i32 129791), (.int .i32 131072), (.int .i32 262141)] w fun t10 w1 =>
  K (⟨(some t10), 9, 9⟩ : Slc) w1

def an_utf_wide : List Ann := [.none, .none]

theorem vc_utf_wide  (w : World) (K : Slc → World → Prop) :
    vcFn C (Tryz.f150.body.getD .skip) Tryz.f150.results.toList Tryz.f150.ntmps an_utf_wide [Kind.slice] [] w (fun s w => K s.1 w) = sh_utf_wide  w K := by kernel_rfl

theorem call_utf_wide  {w : World} {K : Slc → World → Prop} (h : sh_utf_wide  w K) : c_utf_wide  w K := by
  rw [← vc_utf_wide] at h
  refine Calls.mono (calls_of_vc C.plain_ok C.mixed Tryz.func150 rfl h) ?_
  rintro e w' ⟨s, rfl, hK⟩
  exact ⟨s.1, rfl, hK⟩

/-- (phosphor/line.Line).many -/
def sh_line_Line_many (l : Slc) (col : Int) (n : Int) (w : World) (K : Int → World → Prop) : Prop :=
  joinP (σ := Unit) (fun s w1 =>
    K (if (IntKind.i64.wrap (((l.n : Nat) : Int) - col)) < n then (IntKind.i64.wrap (((l.n : Nat) : Int) - col)) else n) w1) fun J1 =>
  cond (decide (n < (1 : Int)))
    (K 0 w)
    (cond (decide (col < (0 : Int)))
       (K 0 w)
       (cond (decide (col ≥ ((l.n : Nat) : Int)))
          (K 0 w)
          (J1 (()) w)))

def an_line_Line_many : List Ann := [.none, .join [] [6, 7, 8, 9, 10, 11, 12, 13, 14, 15, 16, 17, 18], .none, .none, .none]

theorem vc_line_Line_many (l : Slc) (col : Int) (n : Int) (w : World) (K : Int → World → Prop) :
    vcFn C (Tryz.f151.body.getD .skip) Tryz.f151.results.toList Tryz.f151.ntmps an_line_Line_many [(Kind.int .i64)] [(.slice l.a l.n l.c), (.int .i64 col), (.int .i64 n)] w (fun s w => K s.1 w) = sh_line_Line_many l col n w K := by kernel_rfl

theorem call_line_Line_many (l : Slc) (col : Int) (n : Int) {w : World} {K : Int → World → Prop} (h : sh_line_Line_many l col n w K) : c_line_Line_many l col n w K := by
  rw [← vc_line_Line_many] at h
  refine Calls.mono (calls_of_vc C.plain_ok C.mixed Tryz.func151 rfl h) ?_
  rintro e w' ⟨s, rfl, hK⟩
  exact ⟨s.1, rfl, hK⟩

/-- (phosphor/line.Line).halves -/
def sh_line_Line_halves (l : Slc) (from_ : Int) (to : Int) (w : World) (K : Slc → World → Prop) : Prop :=
  nw ty_int [(.int .i64 (IntKind.i64.wrap (from_ - (1 : Int)))), (.int .i64 to)] w fun t12 w1 =>
  loopP (σ := Int × Unit) (fun I1 s w2 =>
    cond (decide (s.1 < ((2 : Nat) : Int)))
      ((0 ≤ s.1 ∧ s.1 < (2 : Nat)) ∧
       ldI .i64 (t12.add ((s.1 : Int).toNat * 1)) w2 fun t17 =>
       joinP (σ := Bool × Unit) (fun s_1 w3 =>
         cond s_1.1
           (ixK l t17 5 fun t36 =>
            ldS T_api_Attr.rep (t36.add 2) w3 fun t38 =>
            ixK l t17 5 fun t40 =>
            stK t40 [(.int .i32 0), (.int .i64 0), (.int .i64 t38.Fg), (.int .i64 t38.Bg), (.int .i64 t38.Flags)] w3 fun w4 =>
            I1 ((IntKind.i64.wrap (s.1 + (1 : Int))), ()) w4)
           (I1 ((IntKind.i64.wrap (s.1 + (1 : Int))), ()) w3)) fun J2 =>
       cond (decide (t17 ≥ (0 : Int)))
         (cond (decide (t17 < ((l.n : Nat) : Int)))
            (c_line_Line_fits l t17 w2 fun t29 w5 =>
             J2 ((!t29), ()) w5)
            (J2 (false, ()) w2))
         (J2 (false, ()) w2))
      (K l w2)) (0, ()) w1

def an_line_Line_halves : List Ann := [.none, .none, .none, .join [(14, (Kind.int .i64))] [8, 14, 15, 16, 17, 18, 19, 20, 21, 22, 23, 24, 25, 26, 27, 28, 29, 30, 31, 32, 33, 34, 35, 36, 37, 38, 39, 40, 41], .none, .none, .none, .none, .join [(31, Kind.bool)] [18, 19, 20, 21, 22, 23, 24, 25, 26, 27, 28, 29, 30, 31], .none]

theorem vc_line_Line_halves (l : Slc) (from_ : Int) (to : Int) (w : World) (K : Slc → World → Prop) :
    vcFn C (Tryz.f152.body.getD .skip) Tryz.f152.results.toList Tryz.f152.ntmps an_line_Line_halves [Kind.slice] [(.slice l.a l.n l.c), (.int .i64 from_), (.int .i64 to)] w (fun s w => K s.1 w) = sh_line_Line_halves l from_ to w K := by kernel_rfl

theorem call_line_Line_halves (l : Slc) (from_ : Int) (to : Int) {w : World} {K : Slc → World → Prop} (h : sh_line_Line_halves l from_ to w K) : c_line_Line_halves l from_ to w K := by
  rw [← vc_line_Line_halves] at h
  refine Calls.mono (calls_of_vc C.plain_ok C.mixed Tryz.func152 rfl h) ?_
  rintro e w' ⟨s, rfl, hK⟩
  exact ⟨s.1, rfl, hK⟩

/-- (*phosphor/grid.Grid).Forget -/
def sh_grid_Grid_Forget (g : Option Addr) (w : World) (K : World → Prop) : Prop :=
  onPtr g fun t3 =>
  ldP (t3.add 0) w fun t5 =>
  c_ring_Ring_line_Line_Clear t5 w fun w1 =>
  K w1

def an_grid_Grid_Forget : List Ann := []

theorem vc_grid_Grid_Forget (g : Option Addr) (w : World) (K : World → Prop) :
    vcFn C (Tryz.f153.body.getD .skip) Tryz.f153.results.toList Tryz.f153.ntmps an_grid_Grid_Forget [] [(.pointer g)] w (fun s w => K w) = sh_grid_Grid_Forget g w K := by kernel_rfl

theorem call_grid_Grid_Forget (g : Option Addr) {w : World} {K : World → Prop} (h : sh_grid_Grid_Forget g w K) : c_grid_Grid_Forget g w K := by
  rw [← vc_grid_Grid_Forget] at h
  refine Calls.mono (calls_of_vc C.plain_ok C.mixed Tryz.func153 rfl h) ?_
  rintro e w' ⟨s, rfl, hK⟩
  exact ⟨rfl, hK⟩

/-- (*phosphor/screen.Screen).erase -/
def sh_screen_Screen_erase (s : Option Addr) (row : Int) (rows : Int) (from_ : Int) (to : Int) (w : World) (K : World → Prop) : Prop :=
  joinP (σ := Unit) (fun s_1 w1 =>
    loopP (σ := Int × Unit) (fun I2 s_2 w2 =>
      cond (decide (s_2.1 < rows))
        (c_screen_Screen_g s w2 fun t23 w3 =>
         c_screen_Screen_blank s w3 fun t30 w4 =>
         c_grid_Grid_Fill t23 (IntKind.i64.wrap (row + s_2.1)) from_ to t30 w4 fun t31 w5 =>
         I2 ((IntKind.i64.wrap (s_2.1 + (1 : Int))), ()) w5)
        (onPtr s fun t35 =>
         ldSl (t35.add 41) w2.drew fun t37 =>
         c_screen_Screen_Alt s w2.drew fun t39 w6 =>
         World.cell? w6 (t35.add 41) = some (.slice t37.a t37.n t37.c) ∧
         c_screen_Screen_g s w6 fun t41 w7 =>
         World.cell? w7 (t35.add 41) = some (.slice t37.a t37.n t37.c) ∧
         c_grid_Grid_Top t41 w7 fun t42 w8 =>
         World.cell? w8 (t35.add 41) = some (.slice t37.a t37.n t37.c) ∧
         nw ty_screen_Area [(.bool t39), (.int .i64 (IntKind.i64.wrap (t42 + row))), (.int .i64 rows), (.int .i64 from_), (.int .i64 to)] w8 fun t49 w9 =>
         World.cell? w9 (t35.add 41) = some (.slice t37.a t37.n t37.c) ∧
         apK PG #[ty_sl_screen_Area, ty_sl_screen_Area] ty_sl_screen_Area t37 (⟨(some t49), 1, 1⟩ : Slc) w9 fun t50 w10 =>
         onPtr s fun t51 =>
         stK (t51.add 41) [(.slice t50.a t50.n t50.c)] w10 fun w11 =>
         K w11)) (0, ()) w1) fun J1 =>
  cond (decide (rows < (1 : Int)))
    (K w)
    (cond (decide (from_ ≥ to))
       (K w)
       (J1 (()) w))

def an_screen_Screen_erase : List Ann := [.join [] [11, 12, 13, 14, 15, 16, 17], .none, .none, .none, .join [(19, (Kind.int .i64))] [10, 19, 20, 21, 22, 23, 24, 25, 26, 27, 28, 29, 30, 31, 32], .none, .none, .none, .none]

theorem vc_screen_Screen_erase (s : Option Addr) (row : Int) (rows : Int) (from_ : Int) (to : Int) (w : World) (K : World → Prop) :
    vcFn C (Tryz.f154.body.getD .skip) Tryz.f154.results.toList Tryz.f154.ntmps an_screen_Screen_erase [] [(.pointer s), (.int .i64 row), (.int .i64 rows), (.int .i64 from_), (.int .i64 to)] w (fun s w => K w) = sh_screen_Screen_erase s row rows from_ to w K := by kernel_rfl

theorem call_screen_Screen_erase (s : Option Addr) (row : Int) (rows : Int) (from_ : Int) (to : Int) {w : World} {K : World → Prop} (h : sh_screen_Screen_erase s row rows from_ to w K) : c_screen_Screen_erase s row rows from_ to w K := by
  rw [← vc_screen_Screen_erase] at h
  refine Calls.mono (calls_of_vc C.plain_ok C.mixed Tryz.func154 rfl h) ?_
  rintro e w' ⟨s, rfl, hK⟩
  exact ⟨rfl, hK⟩

/-- phosphor/attr.flag -/
def sh_attr_flag (n : Int) (w : World) (K : Int → World → Prop) : Prop :=
  cond (n == (1 : Int))
    (K 1 w)
    (cond (n == (2 : Int))
       (K 2 w)
       (cond (n == (3 : Int))
          (K 4 w)
          (cond (n == (4 : Int))
             (K 8 w)
             (cond (n == (5 : Int))
                (K 16 w)
                (cond (n == (7 : Int))
                   (K 32 w)
                   (cond (n == (8 : Int))
                      (K 64 w)
                      (cond (n == (9 : Int))
                         (K 128 w)
                         (K 0 w))))))))

def an_attr_flag : List Ann := [.none, .none, .none, .none, .none, .none, .none, .none, .none, .none, .none, .none, .none, .none, .none, .none, .none, .none, .none, .none]

theorem vc_attr_flag (n : Int) (w : World) (K : Int → World → Prop) :
    vcFn C (Tryz.f156.body.getD .skip) Tryz.f156.results.toList Tryz.f156.ntmps an_attr_flag [(Kind.int .i64)] [(.int .i64 n)] w (fun s w => K s.1 w) = sh_attr_flag n w K := by kernel_rfl

theorem call_attr_flag (n : Int) {w : World} {K : Int → World → Prop} (h : sh_attr_flag n w K) : c_attr_flag n w K := by
  rw [← vc_attr_flag] at h
  refine Calls.mono (calls_of_vc C.plain_ok C.mixed Tryz.func156 rfl h) ?_
  rintro e w' ⟨s, rfl, hK⟩
  exact ⟨s.1, rfl, hK⟩

/-- phosphor/attr.far -/
def sh_attr_far (to : Option Addr) (l : Slc) (w : World) (K : Slc → World → Prop) : Prop :=
  joinP (σ := Bool × Unit) (fun s w1 =>
    cond s.1
      (ixK l 1 1 fun t18 =>
       ldI .i64 t18 w1 fun t19 =>
       c_attr_far_1 t19 w1 fun t20 w2 =>
       cond t20
         (ixK l 1 1 fun t23 =>
          ldI .i64 t23 w2 fun t24 =>
          onPtr to fun t26 =>
          stK t26 [(.int .i64 (IntKind.i64.wrap ((16777216 : Int) + t24)))] w2 fun w3 =>
          slK l (some 2) none 1 fun t28 =>
          K t28 w3)
         (slK l (some 2) none 1 fun t28_1 =>
          K t28_1 w2))
      (joinP (σ := Bool × Unit) (fun s_1 w4 =>
         cond s_1.1
           (joinP (σ := Bool × Unit) (fun s_2 w5 =>
              cond s_2.1
                (ixK l 1 1 fun t60 =>
                 ldI .i64 t60 w5.drew fun t61 =>
                 0 ≤ (16 : Int) ∧
                 ixK l 2 1 fun t65 =>
                 ldI .i64 t65 w5.drew fun t66 =>
                 0 ≤ (8 : Int) ∧
                 ixK l 3 1 fun t70 =>
                 ldI .i64 t70 w5.drew fun t71 =>
                 onPtr to fun t73 =>
                 stK t73 [(.int .i64 (IntKind.i64.wrap ((IntKind.i64.wrap ((IntKind.i64.wrap ((33554432 : Int) + (IntKind.i64.wrap (t61 * 2 ^ (min (16 : Int).toNat IntKind.i64.bits))))) + (IntKind.i64.wrap (t66 * 2 ^ (min (8 : Int).toNat IntKind.i64.bits))))) + t71)))] w5.drew fun w6 =>
                 slK l (some 4) none 1 fun t75 =>
                 K t75 w6)
                (slK l (some 4) none 1 fun t75_1 =>
                 K t75_1 w5)) fun J3 =>
            ixK l 1 1 fun t41 =>
            ldI .i64 t41 w4 fun t42 =>
            c_attr_far_1 t42 w4 fun t43 w7 =>
            cond t43
              (ixK l 2 1 fun t47 =>
               ldI .i64 t47 w7 fun t48 =>
               c_attr_far_1 t48 w7 fun t49 w8 =>
               cond t49
                 (ixK l 3 1 fun t54 =>
                  ldI .i64 t54 w8 fun t55 =>
                  c_attr_far_1 t55 w8 fun t56 w9 =>
                  J3 (t56, ()) w9)
                 (J3 (false, ()) w8))
              (J3 (false, ()) w7))
           (K (⟨none, 0, 0⟩ : Slc) w4)) fun J2 =>
       cond (decide (((l.n : Nat) : Int) ≥ (4 : Int)))
         (ixK l 0 1 fun t35 =>
          ldI .i64 t35 w1 fun t36 =>
          J2 ((t36 == (2 : Int)), ()) w1)
         (J2 (false, ()) w1))) fun J1 =>
  cond (decide (((l.n : Nat) : Int) ≥ (2 : Int)))
    (ixK l 0 1 fun t12 =>
     ldI .i64 t12 w fun t13 =>
     J1 ((t13 == (5 : Int)), ()) w)
    (J1 (false, ()) w)

def an_attr_far : List Ann := [.none, .none, .none, .join [(6, Kind.bool)] [6, 7, 8, 9, 10, 11, 12, 13, 14, 15], .none, .none, .none, .join [(29, Kind.bool)] [29, 30, 31, 32, 33, 34, 35, 36, 37, 38], .none, .join [(57, Kind.bool)] [39, 40, 41, 42, 43, 44, 45, 46, 47, 48, 49, 50, 51, 52, 53, 54, 55, 56, 57], .none, .none]

theorem vc_attr_far (to : Option Addr) (l : Slc) (w : World) (K : Slc → World → Prop) :
    vcFn C (Tryz.f157.body.getD .skip) Tryz.f157.results.toList Tryz.f157.ntmps an_attr_far [Kind.slice] [(.pointer to), (.slice l.a l.n l.c)] w (fun s w => K s.1 w) = sh_attr_far to l w K := by kernel_rfl

theorem call_attr_far (to : Option Addr) (l : Slc) {w : World} {K : Slc → World → Prop} (h : sh_attr_far to l w K) : c_attr_far to l w K := by
  rw [← vc_attr_far] at h
  refine Calls.mono (calls_of_vc C.plain_ok C.mixed Tryz.func157 rfl h) ?_
  rintro e w' ⟨s, rfl, hK⟩
  exact ⟨s.1, rfl, hK⟩

/-- (phosphor/line.Line).Delete -/
def sh_line_Line_Delete (l : Slc) (col : Int) (n : Int) (a : T_api_Attr) (w : World) (K : Slc → World → Prop) : Prop :=
  nw ty_api_Attr (T_api_Attr.rep.cells a) w fun a_1 w1 =>
  c_line_Line_Mend l w1 fun t11 w2 =>
  c_line_Line_many l col n w2 fun t15 w3 =>
  cond (t15 == (0 : Int))
    (K t11 w3)
    (slK t11 none (some col) 5 fun t21 =>
     slK t11 (some (IntKind.i64.wrap (col + t15))) none 5 fun t26 =>
     ldS T_api_Attr.rep a_1 w3.drew fun t28 =>
     c_line_blanks t15 t28 w3.drew fun t29 w4 =>
     nw ty_line_Line [(.slice t21.a t21.n t21.c), (.slice t26.a t26.n t26.c), (.slice t29.a t29.n t29.c)] w4 fun t30 w5 =>
     c_slices_Concat_line_Line_api_Cell (⟨(some t30), 3, 3⟩ : Slc) w5 fun t31 w6 =>
     c_line_Line_Mend t31 w6 fun t32 w7 =>
     K t32 w7)

def an_line_Line_Delete : List Ann := [.none, .none, .none, .none, .none, .none, .none]

theorem vc_line_Line_Delete (l : Slc) (col : Int) (n : Int) (a : T_api_Attr) (w : World) (K : Slc → World → Prop) :
    vcFn C (Tryz.f158.body.getD .skip) Tryz.f158.results.toList Tryz.f158.ntmps an_line_Line_Delete [Kind.slice] [(.slice l.a l.n l.c), (.int .i64 col), (.int .i64 n), (.agg #[(.int .i64 a.Fg), (.int .i64 a.Bg), (.int .i64 a.Flags)])] w (fun s w => K s.1 w) = sh_line_Line_Delete l col n a w K := by kernel_rfl

theorem call_line_Line_Delete (l : Slc) (col : Int) (n : Int) (a : T_api_Attr) {w : World} {K : Slc → World → Prop} (h : sh_line_Line_Delete l col n a w K) : c_line_Line_Delete l col n a w K := by
  rw [← vc_line_Line_Delete] at h
  refine Calls.mono (calls_of_vc C.plain_ok C.mixed Tryz.func158 rfl h) ?_
  rintro e w' ⟨s, rfl, hK⟩
  exact ⟨s.1, rfl, hK⟩

/-- (*phosphor/screen.Screen).cells$1 -/
def sh_screen_Screen_cells_1 (l : Slc) (c0 : Addr) (c1 : Addr) (c2 : Addr) (w : World) (K : Slc → World → Prop) : Prop :=
  ldR c0 w.drew fun t6 =>
  ldP c1 w.drew fun t8 =>
  onPtr t8 fun t9 =>
  ldI .i64 ((t9.add 3).add 1) w.drew fun t12 =>
  ldI .i64 c2 w.drew fun t13 =>
  ldP c1 w.drew fun t14 =>
  c_screen_Screen_blank t14 w.drew fun t15 w1 =>
  World.cell? w1 c2 = some (.int .i64 t13) ∧
  World.cell? w1 ((t9.add 3).add 1) = some (.int .i64 t12) ∧
  World.cell? w1 c1 = some (.pointer t8) ∧
  World.cell? w1 c0 = some t6 ∧
  callR C t6 [(.slice l.a l.n l.c), (.int .i64 t12), (.int .i64 t13), (.agg #[(.int .i64 t15.Fg), (.int .i64 t15.Bg), (.int .i64 t15.Flags)])] [Kind.slice] w1 fun (t16 : Slc) w2 =>
  K t16 w2

def an_screen_Screen_cells_1 : List Ann := [.none, .none]

theorem vc_screen_Screen_cells_1 (l : Slc) (c0 : Addr) (c1 : Addr) (c2 : Addr) (w : World) (K : Slc → World → Prop) :
    vcFn C (Tryz.f159.body.getD .skip) Tryz.f159.results.toList Tryz.f159.ntmps an_screen_Screen_cells_1 [Kind.slice] [(.slice l.a l.n l.c), (.pointer (some c0)), (.pointer (some c1)), (.pointer (some c2))] w (fun s w => K s.1 w) = sh_screen_Screen_cells_1 l c0 c1 c2 w K := by kernel_rfl

theorem call_screen_Screen_cells_1 (l : Slc) (c0 : Addr) (c1 : Addr) (c2 : Addr) {w : World} {K : Slc → World → Prop} (h : sh_screen_Screen_cells_1 l c0 c1 c2 w K) : c_screen_Screen_cells_1 l c0 c1 c2 w K := by
  rw [← vc_screen_Screen_cells_1] at h
  refine Calls.mono (calls_of_vc C.plain_ok C.mixed Tryz.func159 rfl h) ?_
  rintro e w' ⟨s, rfl, hK⟩
  exact ⟨s.1, rfl, hK⟩

/-- (*phosphor/screen.Screen).up -/
def sh_screen_Screen_up (s : Option Addr) (n : Int) (w : World) (K : World → Prop) : Prop :=
  joinP (σ := Int × Unit) (fun s_1 w1 =>
    onPtr s fun t21 =>
    ldI .i64 ((t21.add 3).add 0) w1.drew fun t24 =>
    onPtr s fun t30 =>
    ldI .i64 ((t30.add 3).add 1) w1.drew fun t33 =>
    c_screen_Screen_to s (if s_1.1 > (IntKind.i64.wrap (t24 - n)) then s_1.1 else (IntKind.i64.wrap (t24 - n))) t33 w1.drew fun w2 =>
    K w2) fun J1 =>
  onPtr s fun t6 =>
  ldI .i64 ((t6.add 3).add 0) w.drew fun t9 =>
  onPtr s fun t11 =>
  ldI .i64 (t11.add 37) w.drew fun t13 =>
  cond (decide (t9 ≥ t13))
    (onPtr s fun t16 =>
     ldI .i64 (t16.add 37) w.drew fun t18 =>
     J1 (t18, ()) w.drew)
    (J1 (0, ()) w.drew)

def an_screen_Screen_up : List Ann := [.none, .join [(4, (Kind.int .i64))] [4, 5, 6, 7, 8, 9, 10, 11, 12, 13, 14, 15, 16, 17, 18], .none]

theorem vc_screen_Screen_up (s : Option Addr) (n : Int) (w : World) (K : World → Prop) :
    vcFn C (Tryz.f160.body.getD .skip) Tryz.f160.results.toList Tryz.f160.ntmps an_screen_Screen_up [] [(.pointer s), (.int .i64 n)] w (fun s w => K w) = sh_screen_Screen_up s n w K := by kernel_rfl

theorem call_screen_Screen_up (s : Option Addr) (n : Int) {w : World} {K : World → Prop} (h : sh_screen_Screen_up s n w K) : c_screen_Screen_up s n w K := by
  rw [← vc_screen_Screen_up] at h
  refine Calls.mono (calls_of_vc C.plain_ok C.mixed Tryz.func160 rfl h) ?_
  rintro e w' ⟨s, rfl, hK⟩
  exact ⟨rfl, hK⟩

/-- (*phosphor/screen.Screen).down -/
def sh_screen_Screen_down (s : Option Addr) (n : Int) (w : World) (K : World → Prop) : Prop :=
  c_screen_Screen_size s w fun t8 t8_1 w1 =>
  joinP (σ := Int × Unit) (fun s_1 w2 =>
    onPtr s fun t27 =>
    ldI .i64 ((t27.add 3).add 0) w2.drew fun t30 =>
    onPtr s fun t37 =>
    ldI .i64 ((t37.add 3).add 1) w2.drew fun t40 =>
    c_screen_Screen_to s (if (IntKind.i64.wrap (s_1.1 - (1 : Int))) < (IntKind.i64.wrap (t30 + n)) then (IntKind.i64.wrap (s_1.1 - (1 : Int))) else (IntKind.i64.wrap (t30 + n))) t40 w2.drew fun w3 =>
    K w3) fun J1 =>
  onPtr s fun t12 =>
  ldI .i64 ((t12.add 3).add 0) w1.drew fun t15 =>
  onPtr s fun t17 =>
  ldI .i64 (t17.add 38) w1.drew fun t19 =>
  cond (decide (t15 < t19))
    (onPtr s fun t22 =>
     ldI .i64 (t22.add 38) w1.drew fun t24 =>
     J1 (t24, ()) w1.drew)
    (J1 (t8, ()) w1.drew)

def an_screen_Screen_down : List Ann := [.none, .join [(4, (Kind.int .i64))] [4, 11, 12, 13, 14, 15, 16, 17, 18, 19, 20, 21, 22, 23, 24], .none]

theorem vc_screen_Screen_down (s : Option Addr) (n : Int) (w : World) (K : World → Prop) :
    vcFn C (Tryz.f161.body.getD .skip) Tryz.f161.results.toList Tryz.f161.ntmps an_screen_Screen_down [] [(.pointer s), (.int .i64 n)] w (fun s w => K w) = sh_screen_Screen_down s n w K := by kernel_rfl

theorem call_screen_Screen_down (s : Option Addr) (n : Int) {w : World} {K : World → Prop} (h : sh_screen_Screen_down s n w K) : c_screen_Screen_down s n w K := by
  rw [← vc_screen_Screen_down] at h
  refine Calls.mono (calls_of_vc C.plain_ok C.mixed Tryz.func161 rfl h) ?_
  rintro e w' ⟨s, rfl, hK⟩
  exact ⟨rfl, hK⟩

/-- (*phosphor/screen.Screen).asked -/
def sh_screen_Screen_asked (s : Option Addr) (n : Int) (w : World) (K : Int → World → Prop) : Prop :=
  onPtr s fun t6 =>
  ldB ((t6.add 3).add 6) w fun t9 =>
  cond t9
    (onPtr s fun t11 =>
     ldI .i64 (t11.add 37) w.drew fun t13 =>
     onPtr s fun t18 =>
     ldI .i64 (t18.add 37) w.drew fun t20 =>
     onPtr s fun t22 =>
     ldI .i64 (t22.add 38) w.drew fun t24 =>
     c_screen_cut (IntKind.i64.wrap ((IntKind.i64.wrap (t13 + n)) - (1 : Int))) t20 (IntKind.i64.wrap (t24 - (1 : Int))) w.drew fun t26 w1 =>
     K t26 w1)
    (K (IntKind.i64.wrap (n - (1 : Int))) w)

def an_screen_Screen_asked : List Ann := [.none, .none, .none, .none, .none]

theorem vc_screen_Screen_asked (s : Option Addr) (n : Int) (w : World) (K : Int → World → Prop) :
    vcFn C (Tryz.f162.body.getD .skip) Tryz.f162.results.toList Tryz.f162.ntmps an_screen_Screen_asked [(Kind.int .i64)] [(.pointer s), (.int .i64 n)] w (fun s w => K s.1 w) = sh_screen_Screen_asked s n w K := by kernel_rfl

theorem call_screen_Screen_asked (s : Option Addr) (n : Int) {w : World} {K : Int → World → Prop} (h : sh_screen_Screen_asked s n w K) : c_screen_Screen_asked s n w K := by
  rw [← vc_screen_Screen_asked] at h
  refine Calls.mono (calls_of_vc C.plain_ok C.mixed Tryz.func162 rfl h) ?_
  rintro e w' ⟨s, rfl, hK⟩
  exact ⟨s.1, rfl, hK⟩

end Go.Proofs.YtmoafafalnbkpaaGreatDoor
