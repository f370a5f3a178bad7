/- By program (gen.py): the typed text of the program's functions, part 0. -/
import Derived.Test.YtpadlibcalomnaaDefs
set_option maxRecDepth 100000
set_option linter.unusedVariables false
namespace Go.Proofs.Ytpadlibcalomnaa
open Go.Vc

/-- phosphor/phosphorlaw15.TabsSteps -/
def sh_phosphorlaw15_TabsSteps (cols : Int) (set : Slc) (col : Int) (n : Int) (w : World) (K : Bool → World → Prop) : Prop :=
  c_phosphorlaw15_known  w fun t15 w1 =>
  cond (!t15)
    (K false w1)
    (joinP (σ := Unit) (fun s w2 =>
       c_tabs_New cols w2 fun t47 t47_1 w3 =>
       joinP (σ := Unit) (fun s_1 w4 =>
         loopP (σ := Int × Unit) (fun I3 s_2 w5 =>
           cond (decide (s_2.1 < ((set.n : Nat) : Int)))
             (ixK set s_2.1 1 fun t65 =>
              ldI .i64 t65 w5 fun t66 =>
              c_tabs_Stops_Set t47 t66 w5 fun t67 w6 =>
              I3 ((IntKind.i64.wrap (s_2.1 + (1 : Int))), ()) w6)
             (loopP (σ := Int × Int × Int × Unit) (fun I4 s_3 w7 =>
                cond (decide (s_3.2.2.1 < n))
                  (c_tabs_Stops_Next t47 s_3.1 1 w7 fun t77 w8 =>
                   c_tabs_Stops_Back t47 s_3.2.1 1 w8 fun t80 w9 =>
                   I4 (t77, t80, (IntKind.i64.wrap (s_3.2.2.1 + (1 : Int))), ()) w9)
                  (c_tabs_Stops_Next t47 col n w7 fun t84 w10 =>
                   cond (t84 == s_3.1)
                     (c_tabs_Stops_Back t47 col n w10 fun t91 w11 =>
                      cond (t91 == s_3.2.1)
                        (cond (decide (s_3.1 < cols))
                           (K (decide (s_3.2.1 ≥ (0 : Int))) w11)
                           (K false w11))
                        (K false w11))
                     (K false w10))) (col, col, 0, ()) w5)) (0, ()) w4) fun J2 =>
       cond (t47_1 != (0 : Int))
         (K false w3)
         (cond (t47.isNone)
            (K false w3)
            (J2 (()) w3))) fun J1 =>
     cond (decide (((set.n : Nat) : Int) > (250 : Int)))
       (K true w1)
       (cond (decide (cols < (1 : Int)))
          (K true w1)
          (cond (decide (cols > (1000 : Int)))
             (K true w1)
             (cond (decide (col < (0 : Int)))
                (K true w1)
                (cond (decide (col ≥ cols))
                   (K true w1)
                   (cond (decide (n < (1 : Int)))
                      (K true w1)
                      (cond (decide (n > (300 : Int)))
                         (K true w1)
                         (J1 (()) w1))))))))

def an_phosphorlaw15_TabsSteps : List Ann := [.none, .none, .none, .none, .join [] [8, 17, 18, 19, 20, 21, 22, 23, 24, 25, 26, 27, 28, 29, 30, 31, 32, 33, 34, 35, 36, 37, 38, 39, 40, 41, 42, 43, 44], .none, .none, .none, .join [] [8, 50, 51, 52, 53, 54, 55], .none, .none, .none, .none, .join [(11, (Kind.int .i64))] [11, 56, 57, 58, 59, 60, 61, 62, 63, 64, 65, 66, 67], .none, .none, .none, .none, .none, .none, .none, .join [(12, (Kind.int .i64)), (13, (Kind.int .i64)), (14, (Kind.int .i64))] [12, 13, 14, 70, 71, 72, 73, 74, 75, 76, 77, 78, 79, 80], .none, .none, .none, .none, .none]

theorem vc_phosphorlaw15_TabsSteps (cols : Int) (set : Slc) (col : Int) (n : Int) (w : World) (K : Bool → World → Prop) :
    vcFn C (Try.f3.body.getD .skip) Try.f3.results.toList Try.f3.ntmps an_phosphorlaw15_TabsSteps [Kind.bool] [(.int .i64 cols), (.slice set.a set.n set.c), (.int .i64 col), (.int .i64 n)] w (fun s w => K s.1 w) = sh_phosphorlaw15_TabsSteps cols set col n w K := by kernel_rfl

theorem call_phosphorlaw15_TabsSteps (cols : Int) (set : Slc) (col : Int) (n : Int) {w : World} {K : Bool → World → Prop} (h : sh_phosphorlaw15_TabsSteps cols set col n w K) : c_phosphorlaw15_TabsSteps cols set col n w K := by
  rw [← vc_phosphorlaw15_TabsSteps] at h
  refine Calls.mono (calls_of_vc C.plain_ok C.mixed Try.func3 rfl h) ?_
  rintro e w' ⟨s, rfl, hK⟩
  exact ⟨s.1, rfl, hK⟩

/-- phosphor/phosphorlaw15.TabsPlays -/
def sh_phosphorlaw15_TabsPlays (cols : Int) (l : Slc) (w : World) (K : Bool → World → Prop) : Prop :=
  c_phosphorlaw15_known  w fun t14 w1 =>
  cond (!t14)
    (K false w1)
    (cond (decide (((l.n : Nat) : Int) > (250 : Int)))
       (K true w1)
       (c_tabs_New cols w1 fun t21 t21_1 w2 =>
        c_phosphorref15_New cols w2 fun t26 t26_1 w3 =>
        joinP (σ := Unit) (fun s w4 =>
          cond (t21.isNone)
            (K true w4)
            (loopP (σ := Int × Unit) (fun I2 s_1 w5 =>
               cond (decide (s_1.1 < ((l.n : Nat) : Int)))
                 (ixK l s_1.1 3 fun t49 =>
                  ldS T_phosphorlaw15_Act.rep t49 w5 fun t50 =>
                  nw ty_phosphorlaw15_Act [(.int .i64 0), (.int .i64 0), (.int .i64 0)] w5 fun a w6 =>
                  stK a (T_phosphorlaw15_Act.rep.cells t50) w6 fun w7 =>
                  joinP (σ := Unit) (fun s_2 w8 =>
                    c_tabs_Stops_All t21 w8 fun t93 w9 =>
                    c_phosphorref15_Stops_All t26 w9 fun t95 w10 =>
                    joinP (σ := Unit) (fun s_3 w11 =>
                      loopP (σ := Int × Unit) (fun I5 s_4 w12 =>
                        cond (decide (s_4.1 < ((t93.n : Nat) : Int)))
                          (ixK t93 s_4.1 1 fun t139 =>
                           ldI .i64 t139 w12.drew fun t140 =>
                           ixK t95 s_4.1 1 fun t143 =>
                           ldI .i64 t143 w12.drew fun t144 =>
                           cond (t140 != t144)
                             (K false w12.drew)
                             (I5 ((IntKind.i64.wrap (s_4.1 + (1 : Int))), ()) w12.drew))
                          (I2 ((IntKind.i64.wrap (s_1.1 + (1 : Int))), ()) w12)) (0, ()) w11) fun J4 =>
                    cond (((t93.n : Nat) : Int) != ((t95.n : Nat) : Int))
                      (K false w10.drew)
                      (ldI .i64 (a.add 1) w10.drew fun t104 =>
                       ldI .i64 (a.add 2) w10.drew fun t106 =>
                       ldI .i64 (a.add 1) w10.drew fun t110 =>
                       ldI .i64 (a.add 2) w10.drew fun t112 =>
                       c_tabs_Stops_Next t21 t104 t106 w10.drew fun t107 w13 =>
                       World.cell? w13 (a.add 2) = some (.int .i64 t112) ∧
                       World.cell? w13 (a.add 1) = some (.int .i64 t110) ∧
                       c_phosphorref15_Stops_Next t26 t110 t112 w13 fun t113 w14 =>
                       cond (t107 != t113)
                         (K false w14)
                         (ldI .i64 (a.add 1) w14 fun t119 =>
                          ldI .i64 (a.add 2) w14 fun t121 =>
                          ldI .i64 (a.add 1) w14 fun t125 =>
                          ldI .i64 (a.add 2) w14 fun t127 =>
                          c_tabs_Stops_Back t21 t119 t121 w14 fun t122 w15 =>
                          World.cell? w15 (a.add 2) = some (.int .i64 t127) ∧
                          World.cell? w15 (a.add 1) = some (.int .i64 t125) ∧
                          c_phosphorref15_Stops_Back t26 t125 t127 w15 fun t128 w16 =>
                          cond (t122 != t128)
                            (K false w16)
                            (J4 (()) w16)))) fun J3 =>
                  ldI .i64 (a.add 0) w7 fun t52 =>
                  cond (t52 == (1 : Int))
                    (ldI .i64 (a.add 1) w7.drew fun t57 =>
                     ldI .i64 (a.add 1) w7.drew fun t61 =>
                     c_tabs_Stops_Set t21 t57 w7.drew fun t58 w17 =>
                     World.cell? w17 (a.add 1) = some (.int .i64 t61) ∧
                     c_phosphorref15_Stops_Put t26 t61 true w17 fun t62 w18 =>
                     cond (!(t58 == t62))
                       (K false w18)
                       (J3 (()) w18))
                    (cond (t52 == (2 : Int))
                       (ldI .i64 (a.add 1) w7.drew fun t68 =>
                        ldI .i64 (a.add 1) w7.drew fun t72 =>
                        c_tabs_Stops_Clear t21 t68 w7.drew fun t69 w19 =>
                        World.cell? w19 (a.add 1) = some (.int .i64 t72) ∧
                        c_phosphorref15_Stops_Put t26 t72 false w19 fun t73 w20 =>
                        cond (!(t69 == t73))
                          (K false w20)
                          (J3 (()) w20))
                       (cond (t52 == (3 : Int))
                          (c_tabs_Stops_None t21 w7 fun w21 =>
                           c_phosphorref15_Stops_None t26 w21 fun w22 =>
                           J3 (()) w22)
                          (cond (t52 == (4 : Int))
                             (ldI .i64 (a.add 2) w7.drew fun t85 =>
                              ldI .i64 (a.add 2) w7.drew fun t89 =>
                              c_tabs_Stops_Resize t21 t85 w7.drew fun t86 w23 =>
                              World.cell? w23 (a.add 2) = some (.int .i64 t89) ∧
                              c_phosphorref15_Stops_Resize t26 t89 w23 fun t90 w24 =>
                              cond (t86 != t90)
                                (K false w24)
                                (J3 (()) w24))
                             (J3 (()) w7)))))
                 (K true w5)) (0, ()) w4)) fun J1 =>
        cond (t21_1 != t26_1)
          (K false w3)
          (cond (!((t21.isNone) == (t26.isNone)))
             (K false w3)
             (J1 (()) w3))))

def an_phosphorlaw15_TabsPlays : List Ann := [.none, .none, .none, .none, .none, .none, .none, .none, .none, .join [] [4, 29, 30, 31, 32, 33, 34, 35, 36, 37, 38], .none, .none, .none, .none, .none, .none, .none, .join [(9, (Kind.int .i64))] [4, 9, 10, 11, 12, 13, 41, 42, 43, 44, 45, 46, 47, 48, 49, 50, 51, 52, 53, 54, 55, 56, 57, 58, 59, 60, 61, 62, 63, 64, 65, 66, 67, 68, 69, 70, 71, 72, 73, 74, 75, 76, 77, 78, 79, 80, 81, 82, 83, 84, 85, 86, 87, 88, 89, 90, 91, 92, 93, 94, 95, 96, 97, 98, 99, 100, 101, 102, 103, 104, 105, 106, 107, 108, 109, 110, 111, 112, 113, 114, 115, 116, 117, 118, 119, 120, 121, 122, 123, 124, 125, 126, 127, 128, 129, 130, 131, 132, 133, 134, 135, 136, 137, 138, 139, 140, 141, 142, 143, 144, 145], .none, .none, .none, .none, .join [] [4, 51, 52, 53, 54, 55, 56, 57, 58, 59, 60, 61, 62, 63, 64, 65, 66, 67, 68, 69, 70, 71, 72, 73, 74, 75, 76, 77, 78, 79, 80, 81, 82, 83, 84, 85, 86, 87, 88, 89, 90, 91], .none, .none, .none, .none, .none, .none, .none, .none, .none, .none, .none, .none, .none, .none, .join [] [4, 96, 97, 98, 99, 100, 101, 102, 103, 104, 105, 106, 107, 108, 109, 110, 111, 112, 113, 114, 115, 116, 117, 118, 119, 120, 121, 122, 123, 124, 125, 126, 127, 128, 129, 130], .none, .none, .none, .join [(13, (Kind.int .i64))] [4, 13, 131, 132, 133, 134, 135, 136, 137, 138, 139, 140, 141, 142, 143, 144, 145], .none, .none, .none, .none, .none, .none]

theorem vc_phosphorlaw15_TabsPlays (cols : Int) (l : Slc) (w : World) (K : Bool → World → Prop) :
    vcFn C (Try.f4.body.getD .skip) Try.f4.results.toList Try.f4.ntmps an_phosphorlaw15_TabsPlays [Kind.bool] [(.int .i64 cols), (.slice l.a l.n l.c)] w (fun s w => K s.1 w) = sh_phosphorlaw15_TabsPlays cols l w K := by kernel_rfl

theorem call_phosphorlaw15_TabsPlays (cols : Int) (l : Slc) {w : World} {K : Bool → World → Prop} (h : sh_phosphorlaw15_TabsPlays cols l w K) : c_phosphorlaw15_TabsPlays cols l w K := by
  rw [← vc_phosphorlaw15_TabsPlays] at h
  refine Calls.mono (calls_of_vc C.plain_ok C.mixed Try.func4 rfl h) ?_
  rintro e w' ⟨s, rfl, hK⟩
  exact ⟨s.1, rfl, hK⟩

/-- phosphor/phosphorlaw15.known -/
def sh_phosphorlaw15_known  (w : World) (K : Bool → World → Prop) : Prop :=
  c_tabs_New 30 w fun t4 t4_1 w1 =>
  cond (t4_1 == (0 : Int))
    (cond (!t4.isNone)
       (c_tabs_Stops_Next t4 3 2 w1 fun t15 w2 =>
        cond (t15 == (16 : Int))
          (c_tabs_Stops_Back t4 17 1 w2 fun t20 w3 =>
           cond (t20 == (16 : Int))
             (c_tabs_Stops_Next t4 25 1 w3 fun t25 w4 =>
              cond (t25 == (29 : Int))
                (c_tabs_Stops_Clear t4 9 w4 fun t30 w5 =>
                 cond (!t30)
                   (c_tabs_Stops_Clear t4 8 w5 fun t35 w6 =>
                    cond t35
                      (c_tabs_Stops_Next t4 3 1 w6 fun t39 w7 =>
                       K (t39 == (16 : Int)) w7)
                      (K false w6))
                   (K false w5))
                (K false w4))
             (K false w3))
          (K false w2))
       (K false w1))
    (K false w1)

def an_phosphorlaw15_known : List Ann := [.none, .none, .none]

theorem vc_phosphorlaw15_known  (w : World) (K : Bool → World → Prop) :
    vcFn C (Try.f5.body.getD .skip) Try.f5.results.toList Try.f5.ntmps an_phosphorlaw15_known [Kind.bool] [] w (fun s w => K s.1 w) = sh_phosphorlaw15_known  w K := by kernel_rfl

theorem call_phosphorlaw15_known  {w : World} {K : Bool → World → Prop} (h : sh_phosphorlaw15_known  w K) : c_phosphorlaw15_known  w K := by
  rw [← vc_phosphorlaw15_known] at h
  refine Calls.mono (calls_of_vc C.plain_ok C.mixed Try.func5 rfl h) ?_
  rintro e w' ⟨s, rfl, hK⟩
  exact ⟨s.1, rfl, hK⟩

/-- phosphor/tabs.New -/
def sh_tabs_New (cols : Int) (w : World) (K : Option Addr → Int → World → Prop) : Prop :=
  nwM w fun t6 w1 =>
  nw ty_tabs_Stops [(.int .i64 0), (.map (some t6))] w1 fun t8 w2 =>
  c_tabs_Stops_Resize (some t8) cols w2 fun t11 w3 =>
  cond (t11 != (0 : Int))
    (K none t11 w3)
    (K (some t8) 0 w3)

def an_tabs_New : List Ann := [.none, .none, .none, .none, .none, .none, .none]

theorem vc_tabs_New (cols : Int) (w : World) (K : Option Addr → Int → World → Prop) :
    vcFn C (Try.f6.body.getD .skip) Try.f6.results.toList Try.f6.ntmps an_tabs_New [Kind.ptr, (Kind.int .i64)] [(.int .i64 cols)] w (fun s w => K s.1 s.2.1 w) = sh_tabs_New cols w K := by kernel_rfl

theorem call_tabs_New (cols : Int) {w : World} {K : Option Addr → Int → World → Prop} (h : sh_tabs_New cols w K) : c_tabs_New cols w K := by
  rw [← vc_tabs_New] at h
  refine Calls.mono (calls_of_vc C.plain_ok C.mixed Try.func6 rfl h) ?_
  rintro e w' ⟨s, rfl, hK⟩
  exact ⟨s.1, s.2.1, rfl, hK⟩

/-- (*phosphor/tabs.Stops).Set -/
def sh_tabs_Stops_Set (s : Option Addr) (col : Int) (w : World) (K : Bool → World → Prop) : Prop :=
  joinP (σ := Unit) (fun s_1 w1 =>
    c_tabs_Stops_is s col w1 fun t15 w2 =>
    K t15 w2) fun J1 =>
  c_tabs_Stops_is s col w fun t7 w3 =>
  cond t7
    (onPtr s fun t9 =>
     ldM (t9.add 1) w3 fun t11 =>
     runU PG (Instr.mapUpdate ty_map_int_bool (.map t11) (.int .i64 col) (.bool true)) w3 fun _ w4 =>
     J1 (()) w4)
    (J1 (()) w3)

def an_tabs_Stops_Set : List Ann := [.none, .join [] [5, 6, 7, 8, 9, 10, 11, 12], .none, .none]

theorem vc_tabs_Stops_Set (s : Option Addr) (col : Int) (w : World) (K : Bool → World → Prop) :
    vcFn C (Try.f7.body.getD .skip) Try.f7.results.toList Try.f7.ntmps an_tabs_Stops_Set [Kind.bool] [(.pointer s), (.int .i64 col)] w (fun s w => K s.1 w) = sh_tabs_Stops_Set s col w K := by kernel_rfl

theorem call_tabs_Stops_Set (s : Option Addr) (col : Int) {w : World} {K : Bool → World → Prop} (h : sh_tabs_Stops_Set s col w K) : c_tabs_Stops_Set s col w K := by
  rw [← vc_tabs_Stops_Set] at h
  refine Calls.mono (calls_of_vc C.plain_ok C.mixed Try.func7 rfl h) ?_
  rintro e w' ⟨s, rfl, hK⟩
  exact ⟨s.1, rfl, hK⟩

/-- (*phosphor/tabs.Stops).Next -/
def sh_tabs_Stops_Next (s : Option Addr) (col : Int) (n : Int) (w : World) (K : Int → World → Prop) : Prop :=
  joinP (σ := Unit) (fun s_1 w1 =>
    c_tabs_Stops_All s w1 fun t21 w2 =>
    loopP (σ := Int × Int × Unit) (fun I2 s_2 w3 =>
      cond (decide (s_2.2.1 < ((t21.n : Nat) : Int)))
        (ixK t21 s_2.2.1 1 fun t25 =>
         ldI .i64 t25 w3 fun t26 =>
         cond (decide (t26 ≤ col))
           (I2 (s_2.1, (IntKind.i64.wrap (s_2.2.1 + (1 : Int))), ()) w3)
           (cond ((IntKind.i64.wrap (s_2.1 - (1 : Int))) == (0 : Int))
              (K t26 w3)
              (I2 ((IntKind.i64.wrap (s_2.1 - (1 : Int))), (IntKind.i64.wrap (s_2.2.1 + (1 : Int))), ()) w3)))
        (onPtr s fun t37 =>
         ldI .i64 (t37.add 0) w3 fun t39 =>
         K (IntKind.i64.wrap (t39 - (1 : Int))) w3)) (n, 0, ()) w2) fun J1 =>
  joinP (σ := Bool × Unit) (fun s_3 w4 =>
    cond s_3.1
      (c_tabs_Stops_near s col w4 fun t19 w5 =>
       K t19 w5)
      (J1 (()) w4)) fun J3 =>
  cond (decide (n < (1 : Int)))
    (J3 (true, ()) w)
    (c_tabs_Stops_is s col w fun t14 w6 =>
     J3 ((!t14), ()) w6)

def an_tabs_Stops_Next : List Ann := [.none, .join [] [6, 9, 10, 11, 12, 13, 14, 15, 16, 17, 18, 19], .join [(16, Kind.bool)] [9, 10, 11, 12, 13, 14, 15, 16], .none, .none, .none, .none, .join [(2, (Kind.int .i64)), (23, (Kind.int .i64))] [2, 6, 8, 23, 24, 25, 26, 27, 28, 29, 30, 31, 32, 33, 34, 35], .none, .none, .none, .none, .none, .none, .none, .none, .none, .none]

theorem vc_tabs_Stops_Next (s : Option Addr) (col : Int) (n : Int) (w : World) (K : Int → World → Prop) :
    vcFn C (Try.f8.body.getD .skip) Try.f8.results.toList Try.f8.ntmps an_tabs_Stops_Next [(Kind.int .i64)] [(.pointer s), (.int .i64 col), (.int .i64 n)] w (fun s w => K s.1 w) = sh_tabs_Stops_Next s col n w K := by kernel_rfl

theorem call_tabs_Stops_Next (s : Option Addr) (col : Int) (n : Int) {w : World} {K : Int → World → Prop} (h : sh_tabs_Stops_Next s col n w K) : c_tabs_Stops_Next s col n w K := by
  rw [← vc_tabs_Stops_Next] at h
  refine Calls.mono (calls_of_vc C.plain_ok C.mixed Try.func8 rfl h) ?_
  rintro e w' ⟨s, rfl, hK⟩
  exact ⟨s.1, rfl, hK⟩

/-- phosphor/phosphorref15.New -/
def sh_phosphorref15_New (cols : Int) (w : World) (K : Option Addr → Int → World → Prop) : Prop :=
  joinP (σ := Unit) (fun s w1 =>
    nw ty_phosphorref15_Stops [(.slice none 0 0)] w1 fun t13 w2 =>
    loopP (σ := Int × Unit) (fun I2 s_1 w3 =>
      cond (decide (s_1.1 < cols))
        (ldSl (t13.add 0) w3 fun t23 =>
         cond (decide (s_1.1 > (0 : Int)))
           ((8 : Int) ≠ 0 ∧
            nw ty_bool [(.bool ((s_1.1.tmod (8 : Int)) == (0 : Int)))] w3 fun t31 w4 =>
            apK PG #[ty_sl_bool, ty_sl_bool] ty_sl_bool t23 (⟨(some t31), 1, 1⟩ : Slc) w4 fun t32 w5 =>
            stK (t13.add 0) [(.slice t32.a t32.n t32.c)] w5 fun w6 =>
            I2 ((IntKind.i64.wrap (s_1.1 + (1 : Int))), ()) w6)
           (nw ty_bool [(.bool false)] w3 fun t31_1 w7 =>
            apK PG #[ty_sl_bool, ty_sl_bool] ty_sl_bool t23 (⟨(some t31_1), 1, 1⟩ : Slc) w7 fun t32_1 w8 =>
            stK (t13.add 0) [(.slice t32_1.a t32_1.n t32_1.c)] w8 fun w9 =>
            I2 ((IntKind.i64.wrap (s_1.1 + (1 : Int))), ()) w9))
        (K (some t13) 0 w3)) (0, ()) w2) fun J1 =>
  cond (decide (cols < (1 : Int)))
    (K none 1 w)
    (cond (decide (cols > (1000 : Int)))
       (K none 1 w)
       (J1 (()) w))

def an_phosphorref15_New : List Ann := [.none, .join [] [2, 3, 6, 7, 8, 9, 10, 11], .none, .none, .none, .none, .none, .join [(5, (Kind.int .i64))] [5, 14, 15, 16, 17, 18, 19, 20, 21, 22, 23, 24, 25, 26, 27, 28, 29, 30, 31, 32, 33, 34], .none, .none, .none, .none]

theorem vc_phosphorref15_New (cols : Int) (w : World) (K : Option Addr → Int → World → Prop) :
    vcFn C (Try.f10.body.getD .skip) Try.f10.results.toList Try.f10.ntmps an_phosphorref15_New [Kind.ptr, (Kind.int .i64)] [(.int .i64 cols)] w (fun s w => K s.1 s.2.1 w) = sh_phosphorref15_New cols w K := by kernel_rfl

theorem call_phosphorref15_New (cols : Int) {w : World} {K : Option Addr → Int → World → Prop} (h : sh_phosphorref15_New cols w K) : c_phosphorref15_New cols w K := by
  rw [← vc_phosphorref15_New] at h
  refine Calls.mono (calls_of_vc C.plain_ok C.mixed Try.func10 rfl h) ?_
  rintro e w' ⟨s, rfl, hK⟩
  exact ⟨s.1, s.2.1, rfl, hK⟩

/-- (*phosphor/phosphorref15.Stops).Put -/
def sh_phosphorref15_Stops_Put (s : Option Addr) (col : Int) (is : Bool) (w : World) (K : Bool → World → Prop) : Prop :=
  joinP (σ := Unit) (fun s_1 w1 =>
    onPtr s fun t20 =>
    ldSl (t20.add 0) w1 fun t22 =>
    ixK t22 col 1 fun t24 =>
    ldB t24 w1 fun t25 =>
    onPtr s fun t27 =>
    ldSl (t27.add 0) w1 fun t29 =>
    ixK t29 col 1 fun t32 =>
    stK t32 [(.bool is)] w1 fun w2 =>
    cond is
      (K true w2)
      (K t25 w2)) fun J1 =>
  cond (decide (col < (0 : Int)))
    (K false w)
    (onPtr s fun t13 =>
     ldSl (t13.add 0) w fun t15 =>
     cond (decide (col ≥ ((t15.n : Nat) : Int)))
       (K false w)
       (J1 (()) w))

def an_phosphorref15_Stops_Put : List Ann := [.none, .join [] [6, 8, 9, 10, 11, 12, 13, 14, 15, 16, 17, 18], .none, .none, .none, .none, .none]

theorem vc_phosphorref15_Stops_Put (s : Option Addr) (col : Int) (is : Bool) (w : World) (K : Bool → World → Prop) :
    vcFn C (Try.f11.body.getD .skip) Try.f11.results.toList Try.f11.ntmps an_phosphorref15_Stops_Put [Kind.bool] [(.pointer s), (.int .i64 col), (.bool is)] w (fun s w => K s.1 w) = sh_phosphorref15_Stops_Put s col is w K := by kernel_rfl

theorem call_phosphorref15_Stops_Put (s : Option Addr) (col : Int) (is : Bool) {w : World} {K : Bool → World → Prop} (h : sh_phosphorref15_Stops_Put s col is w K) : c_phosphorref15_Stops_Put s col is w K := by
  rw [← vc_phosphorref15_Stops_Put] at h
  refine Calls.mono (calls_of_vc C.plain_ok C.mixed Try.func11 rfl h) ?_
  rintro e w' ⟨s, rfl, hK⟩
  exact ⟨s.1, rfl, hK⟩

/-- (*phosphor/tabs.Stops).Clear -/
def sh_tabs_Stops_Clear (s : Option Addr) (col : Int) (w : World) (K : Bool → World → Prop) : Prop :=
  onPtr s fun t7 =>
  ldM (t7.add 1) w fun t9 =>
  runK1 PG (Instr.lookup ty_map_int_bool (.map t9) (.int .i64 col) false) Kind.bool w fun (t11 : Bool) w1 =>
  onPtr s fun t13 =>
  ldM (t13.add 1) w1 fun t15 =>
  runK1 PG (Builtin.delete_ #[ty_map_int_bool, ty_int] ty_unit #[(.map t15), (.int .i64 col)]) Kind.raw w1 fun (r : Value) w2 =>
  K t11 w2

def an_tabs_Stops_Clear : List Ann := [.none, .none, .none, .none]

theorem vc_tabs_Stops_Clear (s : Option Addr) (col : Int) (w : World) (K : Bool → World → Prop) :
    vcFn C (Try.f12.body.getD .skip) Try.f12.results.toList Try.f12.ntmps an_tabs_Stops_Clear [Kind.bool] [(.pointer s), (.int .i64 col)] w (fun s w => K s.1 w) = sh_tabs_Stops_Clear s col w K := by kernel_rfl

theorem call_tabs_Stops_Clear (s : Option Addr) (col : Int) {w : World} {K : Bool → World → Prop} (h : sh_tabs_Stops_Clear s col w K) : c_tabs_Stops_Clear s col w K := by
  rw [← vc_tabs_Stops_Clear] at h
  refine Calls.mono (calls_of_vc C.plain_ok C.mixed Try.func12 rfl h) ?_
  rintro e w' ⟨s, rfl, hK⟩
  exact ⟨s.1, rfl, hK⟩

/-- (*phosphor/tabs.Stops).None -/
def sh_tabs_Stops_None (s : Option Addr) (w : World) (K : World → Prop) : Prop :=
  onPtr s fun t3 =>
  ldM (t3.add 1) w fun t5 =>
  runK1 PG (Builtin.clear_ #[ty_map_int_bool] ty_unit #[(.map t5)]) Kind.raw w fun (r : Value) w1 =>
  K w1

def an_tabs_Stops_None : List Ann := []

theorem vc_tabs_Stops_None (s : Option Addr) (w : World) (K : World → Prop) :
    vcFn C (Try.f13.body.getD .skip) Try.f13.results.toList Try.f13.ntmps an_tabs_Stops_None [] [(.pointer s)] w (fun s w => K w) = sh_tabs_Stops_None s w K := by kernel_rfl

theorem call_tabs_Stops_None (s : Option Addr) {w : World} {K : World → Prop} (h : sh_tabs_Stops_None s w K) : c_tabs_Stops_None s w K := by
  rw [← vc_tabs_Stops_None] at h
  refine Calls.mono (calls_of_vc C.plain_ok C.mixed Try.func13 rfl h) ?_
  rintro e w' ⟨s, rfl, hK⟩
  exact ⟨rfl, hK⟩

/-- (*phosphor/phosphorref15.Stops).None -/
def sh_phosphorref15_Stops_None (s : Option Addr) (w : World) (K : World → Prop) : Prop :=
  onPtr s fun t4 =>
  ldSl (t4.add 0) w fun t6 =>
  mkSl PG ty_sl_bool (.int .i64 ((t6.n : Nat) : Int)) (.int .i64 ((t6.n : Nat) : Int)) w fun t8 w1 =>
  onPtr s fun t9 =>
  stK (t9.add 0) [(.slice t8.a t8.n t8.c)] w1 fun w2 =>
  K w2

def an_phosphorref15_Stops_None : List Ann := []

theorem vc_phosphorref15_Stops_None (s : Option Addr) (w : World) (K : World → Prop) :
    vcFn C (Try.f14.body.getD .skip) Try.f14.results.toList Try.f14.ntmps an_phosphorref15_Stops_None [] [(.pointer s)] w (fun s w => K w) = sh_phosphorref15_Stops_None s w K := by kernel_rfl

theorem call_phosphorref15_Stops_None (s : Option Addr) {w : World} {K : World → Prop} (h : sh_phosphorref15_Stops_None s w K) : c_phosphorref15_Stops_None s w K := by
  rw [← vc_phosphorref15_Stops_None] at h
  refine Calls.mono (calls_of_vc C.plain_ok C.mixed Try.func14 rfl h) ?_
  rintro e w' ⟨s, rfl, hK⟩
  exact ⟨rfl, hK⟩

/-- (*phosphor/tabs.Stops).Resize -/
def sh_tabs_Stops_Resize (s : Option Addr) (cols : Int) (w : World) (K : Int → World → Prop) : Prop :=
  joinP (σ := Unit) (fun s_1 w1 =>
    onPtr s fun t15 =>
    ldI .i64 (t15.add 0) w1 fun t17 =>
    loopP (σ := Int × Unit) (fun I2 s_2 w2 =>
      cond (decide (s_2.1 < cols))
        ((8 : Int) ≠ 0 ∧
         cond ((s_2.1.tmod (8 : Int)) == (0 : Int))
           (onPtr s fun t28 =>
            ldM (t28.add 1) w2 fun t30 =>
            runU PG (Instr.mapUpdate ty_map_int_bool (.map t30) (.int .i64 s_2.1) (.bool true)) w2 fun _ w3 =>
            I2 ((IntKind.i64.wrap (s_2.1 + (1 : Int))), ()) w3)
           (I2 ((IntKind.i64.wrap (s_2.1 + (1 : Int))), ()) w2))
        (c_tabs_Stops_All s w2 fun t33 w4 =>
         loopP (σ := Int × Unit) (fun I3 s_3 w5 =>
           cond (decide (s_3.1 < ((t33.n : Nat) : Int)))
             (ixK t33 s_3.1 1 fun t37 =>
              ldI .i64 t37 w5 fun t38 =>
              cond (decide (t38 ≥ cols))
                (onPtr s fun t43 =>
                 ldM (t43.add 1) w5 fun t45 =>
                 runK1 PG (Builtin.delete_ #[ty_map_int_bool, ty_int] ty_unit #[(.map t45), (.int .i64 t38)]) Kind.raw w5 fun (r : Value) w6 =>
                 I3 ((IntKind.i64.wrap (s_3.1 + (1 : Int))), ()) w6)
                (I3 ((IntKind.i64.wrap (s_3.1 + (1 : Int))), ()) w5))
             (onPtr s fun t50 =>
              stK (t50.add 0) [(.int .i64 cols)] w5 fun w7 =>
              K 0 w7)) (0, ()) w4)) ((if (1 : Int) > t17 then (1 : Int) else t17), ()) w1) fun J1 =>
  cond (decide (cols < (1 : Int)))
    (K 1 w)
    (cond (decide (cols > (1000 : Int)))
       (K 1 w)
       (J1 (()) w))

def an_tabs_Stops_Resize : List Ann := [.none, .join [] [4, 8, 9, 10, 11, 12, 13], .none, .none, .none, .none, .join [(5, (Kind.int .i64))] [5, 19, 20, 21, 22, 23, 24, 25, 26, 27, 28, 29, 30, 31], .none, .none, .none, .none, .none, .none, .join [(35, (Kind.int .i64))] [7, 35, 36, 37, 38, 39, 40, 41, 42, 43, 44, 45, 46, 47], .none, .none, .none, .none, .none, .none, .none]

theorem vc_tabs_Stops_Resize (s : Option Addr) (cols : Int) (w : World) (K : Int → World → Prop) :
    vcFn C (Try.f15.body.getD .skip) Try.f15.results.toList Try.f15.ntmps an_tabs_Stops_Resize [(Kind.int .i64)] [(.pointer s), (.int .i64 cols)] w (fun s w => K s.1 w) = sh_tabs_Stops_Resize s cols w K := by kernel_rfl

theorem call_tabs_Stops_Resize (s : Option Addr) (cols : Int) {w : World} {K : Int → World → Prop} (h : sh_tabs_Stops_Resize s cols w K) : c_tabs_Stops_Resize s cols w K := by
  rw [← vc_tabs_Stops_Resize] at h
  refine Calls.mono (calls_of_vc C.plain_ok C.mixed Try.func15 rfl h) ?_
  rintro e w' ⟨s, rfl, hK⟩
  exact ⟨s.1, rfl, hK⟩

/-- (*phosphor/phosphorref15.Stops).Resize -/
def sh_phosphorref15_Stops_Resize (s : Option Addr) (cols : Int) (w : World) (K : Int → World → Prop) : Prop :=
  c_phosphorref15_New cols w fun t10 t10_1 w1 =>
  cond (t10_1 != (0 : Int))
    (K t10_1 w1)
    (loopP (σ := Int × Unit) (fun I1 s_1 w2 =>
       joinP (σ := Unit) (fun s_2 w3 =>
         onPtr t10 fun t31 =>
         ldSl (t31.add 0) w3.drew fun t33 =>
         onPtr s fun t36 =>
         ldSl (t36.add 0) w3.drew fun t38 =>
         ixK t38 s_1.1 1 fun t40 =>
         ldB t40 w3.drew fun t41 =>
         ixK t33 s_1.1 1 fun t42 =>
         stK t42 [(.bool t41)] w3.drew fun w4 =>
         I1 ((IntKind.i64.wrap (s_1.1 + (1 : Int))), ()) w4) fun J2 =>
       cond (decide (s_1.1 < cols))
         (onPtr s fun t22 =>
          ldSl (t22.add 0) w2 fun t24 =>
          cond (decide (s_1.1 < ((t24.n : Nat) : Int)))
            (J2 (()) w2)
            (onPtr t10 fun t45 =>
             ldSl (t45.add 0) w2 fun t47 =>
             onPtr s fun t48 =>
             stK (t48.add 0) [(.slice t47.a t47.n t47.c)] w2 fun w5 =>
             K 0 w5))
         (onPtr t10 fun t45_1 =>
          ldSl (t45_1.add 0) w2 fun t47_1 =>
          onPtr s fun t48_1 =>
          stK (t48_1.add 0) [(.slice t47_1.a t47_1.n t47_1.c)] w2 fun w6 =>
          K 0 w6)) (0, ()) w1)

def an_phosphorref15_Stops_Resize : List Ann := [.none, .none, .none, .none, .none, .none, .none, .join [(7, (Kind.int .i64))] [7, 16, 17, 18, 19, 20, 21, 22, 23, 24, 25, 26, 27, 28, 29, 30, 31, 32, 33, 34, 35, 36, 37, 38, 39, 40, 41, 42], .join [] [16, 17, 18, 19, 20, 21, 22, 23, 24, 25, 26, 27], .none, .none, .none, .none]

theorem vc_phosphorref15_Stops_Resize (s : Option Addr) (cols : Int) (w : World) (K : Int → World → Prop) :
    vcFn C (Try.f16.body.getD .skip) Try.f16.results.toList Try.f16.ntmps an_phosphorref15_Stops_Resize [(Kind.int .i64)] [(.pointer s), (.int .i64 cols)] w (fun s w => K s.1 w) = sh_phosphorref15_Stops_Resize s cols w K := by kernel_rfl

theorem call_phosphorref15_Stops_Resize (s : Option Addr) (cols : Int) {w : World} {K : Int → World → Prop} (h : sh_phosphorref15_Stops_Resize s cols w K) : c_phosphorref15_Stops_Resize s cols w K := by
  rw [← vc_phosphorref15_Stops_Resize] at h
  refine Calls.mono (calls_of_vc C.plain_ok C.mixed Try.func16 rfl h) ?_
  rintro e w' ⟨s, rfl, hK⟩
  exact ⟨s.1, rfl, hK⟩

/-- (*phosphor/tabs.Stops).All -/
def sh_tabs_Stops_All (s : Option Addr) (w : World) (K : Slc → World → Prop) : Prop :=
  onPtr s fun t4 =>
  ldM (t4.add 1) w fun t6 =>
  c_maps_Keys_map_int_bool_int_bool t6 w fun t7 w1 =>
  c_slices_Sorted_int t7 w1 fun t8 w2 =>
  K t8 w2

def an_tabs_Stops_All : List Ann := [.none, .none]

theorem vc_tabs_Stops_All (s : Option Addr) (w : World) (K : Slc → World → Prop) :
    vcFn C (Try.f17.body.getD .skip) Try.f17.results.toList Try.f17.ntmps an_tabs_Stops_All [Kind.slice] [(.pointer s)] w (fun s w => K s.1 w) = sh_tabs_Stops_All s w K := by kernel_rfl

theorem call_tabs_Stops_All (s : Option Addr) {w : World} {K : Slc → World → Prop} (h : sh_tabs_Stops_All s w K) : c_tabs_Stops_All s w K := by
  rw [← vc_tabs_Stops_All] at h
  refine Calls.mono (calls_of_vc C.plain_ok C.mixed Try.func17 rfl h) ?_
  rintro e w' ⟨s, rfl, hK⟩
  exact ⟨s.1, rfl, hK⟩

/-- (*phosphor/phosphorref15.Stops).All -/
def sh_phosphorref15_Stops_All (s : Option Addr) (w : World) (K : Slc → World → Prop) : Prop :=
  loopP (σ := Slc × Int × Unit) (fun I1 s_1 w1 =>
    onPtr s fun t7 =>
    ldSl (t7.add 0) w1 fun t9 =>
    cond (decide (s_1.2.1 < ((t9.n : Nat) : Int)))
      (onPtr s fun t15 =>
       ldSl (t15.add 0) w1 fun t17 =>
       ixK t17 s_1.2.1 1 fun t19 =>
       ldB t19 w1 fun t20 =>
       cond t20
         (nw ty_int [(.int .i64 s_1.2.1)] w1 fun t23 w2 =>
          apK PG #[ty_sl_int, ty_sl_int] ty_sl_int s_1.1 (⟨(some t23), 1, 1⟩ : Slc) w2 fun t24 w3 =>
          I1 (t24, (IntKind.i64.wrap (s_1.2.1 + (1 : Int))), ()) w3)
         (I1 (s_1.1, (IntKind.i64.wrap (s_1.2.1 + (1 : Int))), ()) w1))
      (K s_1.1 w1)) (⟨none, 0, 0⟩, 0, ()) w

def an_phosphorref15_Stops_All : List Ann := [.none, .none, .none, .none, .join [(3, Kind.slice), (4, (Kind.int .i64))] [3, 4, 5, 6, 7, 8, 9, 10, 11, 12, 13, 14, 15, 16, 17, 18, 19, 20, 21, 22, 23, 24], .none, .none, .none, .none, .none]

theorem vc_phosphorref15_Stops_All (s : Option Addr) (w : World) (K : Slc → World → Prop) :
    vcFn C (Try.f18.body.getD .skip) Try.f18.results.toList Try.f18.ntmps an_phosphorref15_Stops_All [Kind.slice] [(.pointer s)] w (fun s w => K s.1 w) = sh_phosphorref15_Stops_All s w K := by kernel_rfl

theorem call_phosphorref15_Stops_All (s : Option Addr) {w : World} {K : Slc → World → Prop} (h : sh_phosphorref15_Stops_All s w K) : c_phosphorref15_Stops_All s w K := by
  rw [← vc_phosphorref15_Stops_All] at h
  refine Calls.mono (calls_of_vc C.plain_ok C.mixed Try.func18 rfl h) ?_
  rintro e w' ⟨s, rfl, hK⟩
  exact ⟨s.1, rfl, hK⟩

/-- (*phosphor/phosphorref15.Stops).Next -/
def sh_phosphorref15_Stops_Next (s : Option Addr) (col : Int) (n : Int) (w : World) (K : Int → World → Prop) : Prop :=
  joinP (σ := Unit) (fun s_1 w1 =>
    loopP (σ := Int × Int × Unit) (fun I2 s_2 w2 =>
      onPtr s fun t30 =>
      ldSl (t30.add 0) w2 fun t32 =>
      cond (decide (s_2.2.1 < ((t32.n : Nat) : Int)))
        (onPtr s fun t38 =>
         ldSl (t38.add 0) w2 fun t40 =>
         ixK t40 s_2.2.1 1 fun t42 =>
         ldB t42 w2 fun t43 =>
         cond t43
           (cond ((IntKind.i64.wrap (s_2.1 - (1 : Int))) == (0 : Int))
              (K s_2.2.1 w2)
              (I2 ((IntKind.i64.wrap (s_2.1 - (1 : Int))), (IntKind.i64.wrap (s_2.2.1 + (1 : Int))), ()) w2))
           (I2 (s_2.1, (IntKind.i64.wrap (s_2.2.1 + (1 : Int))), ()) w2))
        (onPtr s fun t50 =>
         ldSl (t50.add 0) w2 fun t52 =>
         K (IntKind.i64.wrap (((t52.n : Nat) : Int) - (1 : Int))) w2)) (n, (IntKind.i64.wrap (col + (1 : Int))), ()) w1) fun J1 =>
  joinP (σ := Bool × Unit) (fun s_3 w3 =>
    cond s_3.1
      (c_phosphorref15_Stops_near s col w3 fun t25 w4 =>
       K t25 w4)
      (J1 (()) w3)) fun J3 =>
  cond (decide (n < (1 : Int)))
    (J3 (true, ()) w)
    (cond (decide (col < (0 : Int)))
       (J3 (true, ()) w)
       (onPtr s fun t17 =>
        ldSl (t17.add 0) w fun t19 =>
        J3 ((decide (col ≥ ((t19.n : Nat) : Int))), ()) w))

def an_phosphorref15_Stops_Next : List Ann := [.none, .join [] [6, 8, 9, 10, 11, 12, 13, 14, 15, 16, 17, 18, 19, 20, 21, 22, 23, 24, 25], .join [(22, Kind.bool)] [8, 9, 10, 11, 12, 13, 14, 15, 16, 17, 18, 19, 20, 21, 22], .none, .none, .none, .join [(2, (Kind.int .i64)), (7, (Kind.int .i64))] [2, 6, 7, 28, 29, 30, 31, 32, 33, 34, 35, 36, 37, 38, 39, 40, 41, 42, 43, 44, 45, 46, 47, 48], .none, .none, .none, .none, .none, .none, .none, .none]

theorem vc_phosphorref15_Stops_Next (s : Option Addr) (col : Int) (n : Int) (w : World) (K : Int → World → Prop) :
    vcFn C (Try.f19.body.getD .skip) Try.f19.results.toList Try.f19.ntmps an_phosphorref15_Stops_Next [(Kind.int .i64)] [(.pointer s), (.int .i64 col), (.int .i64 n)] w (fun s w => K s.1 w) = sh_phosphorref15_Stops_Next s col n w K := by kernel_rfl

theorem call_phosphorref15_Stops_Next (s : Option Addr) (col : Int) (n : Int) {w : World} {K : Int → World → Prop} (h : sh_phosphorref15_Stops_Next s col n w K) : c_phosphorref15_Stops_Next s col n w K := by
  rw [← vc_phosphorref15_Stops_Next] at h
  refine Calls.mono (calls_of_vc C.plain_ok C.mixed Try.func19 rfl h) ?_
  rintro e w' ⟨s, rfl, hK⟩
  exact ⟨s.1, rfl, hK⟩

/-- (*phosphor/phosphorref15.Stops).Back -/
def sh_phosphorref15_Stops_Back (s : Option Addr) (col : Int) (n : Int) (w : World) (K : Int → World → Prop) : Prop :=
  joinP (σ := Unit) (fun s_1 w1 =>
    loopP (σ := Int × Int × Unit) (fun I2 s_2 w2 =>
      cond (decide (s_2.2.1 > (0 : Int)))
        (onPtr s fun t33 =>
         ldSl (t33.add 0) w2 fun t35 =>
         ixK t35 s_2.2.1 1 fun t37 =>
         ldB t37 w2 fun t38 =>
         cond t38
           (cond ((IntKind.i64.wrap (s_2.1 - (1 : Int))) == (0 : Int))
              (K s_2.2.1 w2)
              (I2 ((IntKind.i64.wrap (s_2.1 - (1 : Int))), (IntKind.i64.wrap (s_2.2.1 - (1 : Int))), ()) w2))
           (I2 (s_2.1, (IntKind.i64.wrap (s_2.2.1 - (1 : Int))), ()) w2))
        (K 0 w2)) (n, (IntKind.i64.wrap (col - (1 : Int))), ()) w1) fun J1 =>
  joinP (σ := Bool × Unit) (fun s_3 w3 =>
    cond s_3.1
      (c_phosphorref15_Stops_near s col w3 fun t25 w4 =>
       K t25 w4)
      (J1 (()) w3)) fun J3 =>
  cond (decide (n < (1 : Int)))
    (J3 (true, ()) w)
    (cond (decide (col < (0 : Int)))
       (J3 (true, ()) w)
       (onPtr s fun t17 =>
        ldSl (t17.add 0) w fun t19 =>
        J3 ((decide (col ≥ ((t19.n : Nat) : Int))), ()) w))

def an_phosphorref15_Stops_Back : List Ann := [.none, .join [] [6, 8, 9, 10, 11, 12, 13, 14, 15, 16, 17, 18, 19, 20, 21, 22, 23, 24, 25], .join [(22, Kind.bool)] [8, 9, 10, 11, 12, 13, 14, 15, 16, 17, 18, 19, 20, 21, 22], .none, .none, .none, .join [(2, (Kind.int .i64)), (7, (Kind.int .i64))] [2, 6, 7, 28, 29, 30, 31, 32, 33, 34, 35, 36, 37, 38, 39, 40, 41, 42, 43], .none, .none, .none, .none, .none, .none, .none, .none]

theorem vc_phosphorref15_Stops_Back (s : Option Addr) (col : Int) (n : Int) (w : World) (K : Int → World → Prop) :
    vcFn C (Try.f20.body.getD .skip) Try.f20.results.toList Try.f20.ntmps an_phosphorref15_Stops_Back [(Kind.int .i64)] [(.pointer s), (.int .i64 col), (.int .i64 n)] w (fun s w => K s.1 w) = sh_phosphorref15_Stops_Back s col n w K := by kernel_rfl

theorem call_phosphorref15_Stops_Back (s : Option Addr) (col : Int) (n : Int) {w : World} {K : Int → World → Prop} (h : sh_phosphorref15_Stops_Back s col n w K) : c_phosphorref15_Stops_Back s col n w K := by
  rw [← vc_phosphorref15_Stops_Back] at h
  refine Calls.mono (calls_of_vc C.plain_ok C.mixed Try.func20 rfl h) ?_
  rintro e w' ⟨s, rfl, hK⟩
  exact ⟨s.1, rfl, hK⟩

/-- (*phosphor/tabs.Stops).is -/
def sh_tabs_Stops_is (s : Option Addr) (col : Int) (w : World) (K : Bool → World → Prop) : Prop :=
  cond (decide (col ≥ (0 : Int)))
    (onPtr s fun t10 =>
     ldI .i64 (t10.add 0) w fun t12 =>
     K (decide (col < t12)) w)
    (K false w)

def an_tabs_Stops_is : List Ann := [.none, .none]

theorem vc_tabs_Stops_is (s : Option Addr) (col : Int) (w : World) (K : Bool → World → Prop) :
    vcFn C (Try.f21.body.getD .skip) Try.f21.results.toList Try.f21.ntmps an_tabs_Stops_is [Kind.bool] [(.pointer s), (.int .i64 col)] w (fun s w => K s.1 w) = sh_tabs_Stops_is s col w K := by kernel_rfl

theorem call_tabs_Stops_is (s : Option Addr) (col : Int) {w : World} {K : Bool → World → Prop} (h : sh_tabs_Stops_is s col w K) : c_tabs_Stops_is s col w K := by
  rw [← vc_tabs_Stops_is] at h
  refine Calls.mono (calls_of_vc C.plain_ok C.mixed Try.func21 rfl h) ?_
  rintro e w' ⟨s, rfl, hK⟩
  exact ⟨s.1, rfl, hK⟩

/-- (*phosphor/tabs.Stops).near -/
def sh_tabs_Stops_near (s : Option Addr) (col : Int) (w : World) (K : Int → World → Prop) : Prop :=
  onPtr s fun t8 =>
  ldI .i64 (t8.add 0) w fun t10 =>
  K (if (IntKind.i64.wrap (t10 - (1 : Int))) < (if (0 : Int) > col then (0 : Int) else col) then (IntKind.i64.wrap (t10 - (1 : Int))) else (if (0 : Int) > col then (0 : Int) else col)) w

def an_tabs_Stops_near : List Ann := [.none, .none]

theorem vc_tabs_Stops_near (s : Option Addr) (col : Int) (w : World) (K : Int → World → Prop) :
    vcFn C (Try.f22.body.getD .skip) Try.f22.results.toList Try.f22.ntmps an_tabs_Stops_near [(Kind.int .i64)] [(.pointer s), (.int .i64 col)] w (fun s w => K s.1 w) = sh_tabs_Stops_near s col w K := by kernel_rfl

theorem call_tabs_Stops_near (s : Option Addr) (col : Int) {w : World} {K : Int → World → Prop} (h : sh_tabs_Stops_near s col w K) : c_tabs_Stops_near s col w K := by
  rw [← vc_tabs_Stops_near] at h
  refine Calls.mono (calls_of_vc C.plain_ok C.mixed Try.func22 rfl h) ?_
  rintro e w' ⟨s, rfl, hK⟩
  exact ⟨s.1, rfl, hK⟩

/-- slices.Backward[[]int,int] -/
def sh_slices_Backward_int_int (s : Slc) (w : World) (K : Value → World → Prop) : Prop :=
  nw ty_sl_int [(.slice s.a s.n s.c)] w fun s_1 w1 =>
  K ((.func (.func fn_slices_Backward_int_int_1) #[] #[(.pointer (some s_1))]) : Value) w1

def an_slices_Backward_int_int : List Ann := [.none, .none]

theorem vc_slices_Backward_int_int (s : Slc) (w : World) (K : Value → World → Prop) :
    vcFn C (Try.f23.body.getD .skip) Try.f23.results.toList Try.f23.ntmps an_slices_Backward_int_int [Kind.raw] [(.slice s.a s.n s.c)] w (fun s w => K s.1 w) = sh_slices_Backward_int_int s w K := by kernel_rfl

theorem call_slices_Backward_int_int (s : Slc) {w : World} {K : Value → World → Prop} (h : sh_slices_Backward_int_int s w K) : c_slices_Backward_int_int s w K := by
  rw [← vc_slices_Backward_int_int] at h
  refine Calls.mono (calls_of_vc C.plain_ok C.mixed Try.func23 rfl h) ?_
  rintro e w' ⟨s, rfl, hK⟩
  exact ⟨s.1, rfl, hK⟩

/-- slices.Sorted[int] -/
def sh_slices_Sorted_int (seq : Value) (w : World) (K : Slc → World → Prop) : Prop :=
  c_slices_Collect_int seq w fun t5 w1 =>
  c_slices_Sort_int_int t5 w1 fun w2 =>
  K t5 w2

def an_slices_Sorted_int : List Ann := [.none, .none, .none, .none]

theorem vc_slices_Sorted_int (seq : Value) (w : World) (K : Slc → World → Prop) :
    vcFn C (Try.f24.body.getD .skip) Try.f24.results.toList Try.f24.ntmps an_slices_Sorted_int [Kind.slice] [seq] w (fun s w => K s.1 w) = sh_slices_Sorted_int seq w K := by kernel_rfl

theorem call_slices_Sorted_int (seq : Value) {w : World} {K : Slc → World → Prop} (h : sh_slices_Sorted_int seq w K) : c_slices_Sorted_int seq w K := by
  rw [← vc_slices_Sorted_int] at h
  refine Calls.mono (calls_of_vc C.plain_ok C.mixed Try.func24 rfl h) ?_
  rintro e w' ⟨s, rfl, hK⟩
  exact ⟨s.1, rfl, hK⟩

/-- maps.Keys[map[int]bool,int,bool] -/
def sh_maps_Keys_map_int_bool_int_bool (m : Option Nat) (w : World) (K : Value → World → Prop) : Prop :=
  nw ty_map_int_bool [(.map m)] w fun m_1 w1 =>
  K ((.func (.func fn_maps_Keys_map_int_bool_int_bool_1) #[] #[(.pointer (some m_1))]) : Value) w1

def an_maps_Keys_map_int_bool_int_bool : List Ann := [.none, .none]

theorem vc_maps_Keys_map_int_bool_int_bool (m : Option Nat) (w : World) (K : Value → World → Prop) :
    vcFn C (Try.f25.body.getD .skip) Try.f25.results.toList Try.f25.ntmps an_maps_Keys_map_int_bool_int_bool [Kind.raw] [(.map m)] w (fun s w => K s.1 w) = sh_maps_Keys_map_int_bool_int_bool m w K := by kernel_rfl

theorem call_maps_Keys_map_int_bool_int_bool (m : Option Nat) {w : World} {K : Value → World → Prop} (h : sh_maps_Keys_map_int_bool_int_bool m w K) : c_maps_Keys_map_int_bool_int_bool m w K := by
  rw [← vc_maps_Keys_map_int_bool_int_bool] at h
  refine Calls.mono (calls_of_vc C.plain_ok C.mixed Try.func25 rfl h) ?_
  rintro e w' ⟨s, rfl, hK⟩
  exact ⟨s.1, rfl, hK⟩

/-- (*phosphor/phosphorref15.Stops).near -/
def sh_phosphorref15_Stops_near (s : Option Addr) (col : Int) (w : World) (K : Int → World → Prop) : Prop :=
  cond (decide (col < (0 : Int)))
    (K 0 w)
    (onPtr s fun t9 =>
     ldSl (t9.add 0) w fun t11 =>
     cond (decide (col ≥ ((t11.n : Nat) : Int)))
       (onPtr s fun t15 =>
        ldSl (t15.add 0) w fun t17 =>
        K (IntKind.i64.wrap (((t17.n : Nat) : Int) - (1 : Int))) w)
       (K col w))

def an_phosphorref15_Stops_near : List Ann := [.none, .none, .none, .none, .none, .none, .none, .none]

theorem vc_phosphorref15_Stops_near (s : Option Addr) (col : Int) (w : World) (K : Int → World → Prop) :
    vcFn C (Try.f26.body.getD .skip) Try.f26.results.toList Try.f26.ntmps an_phosphorref15_Stops_near [(Kind.int .i64)] [(.pointer s), (.int .i64 col)] w (fun s w => K s.1 w) = sh_phosphorref15_Stops_near s col w K := by kernel_rfl

theorem call_phosphorref15_Stops_near (s : Option Addr) (col : Int) {w : World} {K : Int → World → Prop} (h : sh_phosphorref15_Stops_near s col w K) : c_phosphorref15_Stops_near s col w K := by
  rw [← vc_phosphorref15_Stops_near] at h
  refine Calls.mono (calls_of_vc C.plain_ok C.mixed Try.func26 rfl h) ?_
  rintro e w' ⟨s, rfl, hK⟩
  exact ⟨s.1, rfl, hK⟩

/-- slices.Backward[[]int,int]$1 -/
def sh_slices_Backward_int_int_1 (yield : Value) (c0 : Addr) (w : World) (K : World → Prop) : Prop :=
  ldSl c0 w fun t4 =>
  loopP (σ := Int × Unit) (fun I1 s w1 =>
    cond (decide (s.1 ≥ (0 : Int)))
      (ldSl c0 w1 fun t13 =>
       ixK t13 s.1 1 fun t15 =>
       ldI .i64 t15 w1 fun t16 =>
       callR C yield [(.int .i64 s.1), (.int .i64 t16)] [Kind.bool] w1 fun (t17 : Bool) w2 =>
       cond (!t17)
         (K w2)
         (I1 ((IntKind.i64.wrap (s.1 - (1 : Int))), ()) w2))
      (K w1)) ((IntKind.i64.wrap (((t4.n : Nat) : Int) - (1 : Int))), ()) w

def an_slices_Backward_int_int_1 : List Ann := [.none, .join [(3, (Kind.int .i64))] [3, 7, 8, 9, 10, 11, 12, 13, 14, 15, 16, 17, 18], .none, .none, .none, .none]

theorem vc_slices_Backward_int_int_1 (yield : Value) (c0 : Addr) (w : World) (K : World → Prop) :
    vcFn C (Try.f27.body.getD .skip) Try.f27.results.toList Try.f27.ntmps an_slices_Backward_int_int_1 [] [yield, (.pointer (some c0))] w (fun s w => K w) = sh_slices_Backward_int_int_1 yield c0 w K := by kernel_rfl

theorem call_slices_Backward_int_int_1 (yield : Value) (c0 : Addr) {w : World} {K : World → Prop} (h : sh_slices_Backward_int_int_1 yield c0 w K) : c_slices_Backward_int_int_1 yield c0 w K := by
  rw [← vc_slices_Backward_int_int_1] at h
  refine Calls.mono (calls_of_vc C.plain_ok C.mixed Try.func27 rfl h) ?_
  rintro e w' ⟨s, rfl, hK⟩
  exact ⟨rfl, hK⟩

/-- slices.Collect[int] -/
def sh_slices_Collect_int (seq : Value) (w : World) (K : Slc → World → Prop) : Prop :=
  c_slices_AppendSeq_int_int (⟨none, 0, 0⟩ : Slc) seq w fun t4 w1 =>
  K t4 w1

def an_slices_Collect_int : List Ann := [.none, .none]

theorem vc_slices_Collect_int (seq : Value) (w : World) (K : Slc → World → Prop) :
    vcFn C (Try.f28.body.getD .skip) Try.f28.results.toList Try.f28.ntmps an_slices_Collect_int [Kind.slice] [seq] w (fun s w => K s.1 w) = sh_slices_Collect_int seq w K := by kernel_rfl

theorem call_slices_Collect_int (seq : Value) {w : World} {K : Slc → World → Prop} (h : sh_slices_Collect_int seq w K) : c_slices_Collect_int seq w K := by
  rw [← vc_slices_Collect_int] at h
  refine Calls.mono (calls_of_vc C.plain_ok C.mixed Try.func28 rfl h) ?_
  rintro e w' ⟨s, rfl, hK⟩
  exact ⟨s.1, rfl, hK⟩

/-- slices.Sort[[]int,int] -/
def sh_slices_Sort_int_int (x : Slc) (w : World) (K : World → Prop) : Prop :=
  c_math_bits_Len (IntKind.u64.wrap ((x.n : Nat) : Int)) w fun t9 w1 =>
  c_slices_pdqsortOrdered_int x 0 ((x.n : Nat) : Int) t9 w1 fun w2 =>
  K w2

def an_slices_Sort_int_int : List Ann := [.none]

theorem vc_slices_Sort_int_int (x : Slc) (w : World) (K : World → Prop) :
    vcFn C (Try.f29.body.getD .skip) Try.f29.results.toList Try.f29.ntmps an_slices_Sort_int_int [] [(.slice x.a x.n x.c)] w (fun s w => K w) = sh_slices_Sort_int_int x w K := by kernel_rfl

theorem call_slices_Sort_int_int (x : Slc) {w : World} {K : World → Prop} (h : sh_slices_Sort_int_int x w K) : c_slices_Sort_int_int x w K := by
  rw [← vc_slices_Sort_int_int] at h
  refine Calls.mono (calls_of_vc C.plain_ok C.mixed Try.func29 rfl h) ?_
  rintro e w' ⟨s, rfl, hK⟩
  exact ⟨rfl, hK⟩

/-- maps.Keys[map[int]bool,int,bool]$1 -/
def sh_maps_Keys_map_int_bool_int_bool_1 (yield : Value) (c0 : Addr) (w : World) (K : World → Prop) : Prop :=
  ldM c0 w fun t4 =>
  rangeK PG ty_map_int_bool (.map t4) w fun it w1 =>
  loopP (σ := Unit) (fun I1 s w2 =>
    nextK PG (.pointer (some it)) false ty_unit w2
      (fun w3 =>
       K w3)
      (fun k v w4 =>
       runK2 PG (Instr.entry (.pointer (some it))) (Kind.int .i64) Kind.bool w4 fun (k_1 : Int) (v_1 : Bool) w5 =>
       callR C yield [(.int .i64 k_1)] [Kind.bool] w5 fun (t12 : Bool) w6 =>
       cond (!t12)
         (K w6)
         (I1 (()) w6))) (()) w1

def an_maps_Keys_map_int_bool_int_bool_1 : List Ann := [.none, .join [] [3, 6, 7, 8, 9, 10, 11, 12, 13], .none, .none, .none, .none]

theorem vc_maps_Keys_map_int_bool_int_bool_1 (yield : Value) (c0 : Addr) (w : World) (K : World → Prop) :
    vcFn (C.ent fun t => cond (Nat.beq t 5) (some [(Kind.int .i64), Kind.bool]) (none)) (Try.f30.body.getD .skip) Try.f30.results.toList Try.f30.ntmps an_maps_Keys_map_int_bool_int_bool_1 [] [yield, (.pointer (some c0))] w (fun s w => K w) = sh_maps_Keys_map_int_bool_int_bool_1 yield c0 w K := by kernel_rfl

theorem call_maps_Keys_map_int_bool_int_bool_1 (yield : Value) (c0 : Addr) {w : World} {K : World → Prop} (h : sh_maps_Keys_map_int_bool_int_bool_1 yield c0 w K) : c_maps_Keys_map_int_bool_int_bool_1 yield c0 w K := by
  rw [← vc_maps_Keys_map_int_bool_int_bool_1] at h
  refine Calls.mono (calls_of_vc (C := (C.ent fun t => cond (Nat.beq t 5) (some [(Kind.int .i64), Kind.bool]) (none))) C.plain_ok C.mixed Try.func30 rfl h) ?_
  rintro e w' ⟨s, rfl, hK⟩
  exact ⟨rfl, hK⟩

/-- math/bits.Len -/
def sh_math_bits_Len (x : Int) (w : World) (K : Int → World → Prop) : Prop :=
  c_math_bits_Len64 x w fun t7 w1 =>
  K t7 w1

def an_math_bits_Len : List Ann := [.none, .none, .none, .none]

theorem vc_math_bits_Len (x : Int) (w : World) (K : Int → World → Prop) :
    vcFn C (Try.f33.body.getD .skip) Try.f33.results.toList Try.f33.ntmps an_math_bits_Len [(Kind.int .i64)] [(.int .u64 x)] w (fun s w => K s.1 w) = sh_math_bits_Len x w K := by kernel_rfl

theorem call_math_bits_Len (x : Int) {w : World} {K : Int → World → Prop} (h : sh_math_bits_Len x w K) : c_math_bits_Len x w K := by
  rw [← vc_math_bits_Len] at h
  refine Calls.mono (calls_of_vc C.plain_ok C.mixed Try.func33 rfl h) ?_
  rintro e w' ⟨s, rfl, hK⟩
  exact ⟨s.1, rfl, hK⟩

/-- slices.insertionSortOrdered[int] -/
def sh_slices_insertionSortOrdered_int (data : Slc) (a : Int) (b : Int) (w : World) (K : World → Prop) : Prop :=
  loopP (σ := Int × Unit) (fun I1 s w1 =>
    cond (decide (s.1 < b))
      (loopP (σ := Int × Unit) (fun I2 s_1 w2 =>
         joinP (σ := Unit) (fun s_2 w3 =>
           ixK data (IntKind.i64.wrap (s_1.1 - (1 : Int))) 1 fun t41 =>
           ldI .i64 t41 w3.drew fun t42 =>
           ixK data s_1.1 1 fun t45 =>
           ldI .i64 t45 w3.drew fun t46 =>
           ixK data s_1.1 1 fun t47 =>
           stK t47 [(.int .i64 t42)] w3.drew fun w4 =>
           ixK data (IntKind.i64.wrap (s_1.1 - (1 : Int))) 1 fun t48 =>
           stK t48 [(.int .i64 t46)] w4 fun w5 =>
           I2 ((IntKind.i64.wrap (s_1.1 - (1 : Int))), ()) w5) fun J3 =>
         cond (decide (s_1.1 > a))
           (ixK data s_1.1 1 fun t22 =>
            ldI .i64 t22 w2.drew fun t23 =>
            ixK data (IntKind.i64.wrap (s_1.1 - (1 : Int))) 1 fun t27 =>
            ldI .i64 t27 w2.drew fun t28 =>
            c_cmp_Less_int t23 t28 w2.drew fun t29 w6 =>
            cond t29
              (J3 (()) w6)
              (I1 ((IntKind.i64.wrap (s.1 + (1 : Int))), ()) w6))
           (I1 ((IntKind.i64.wrap (s.1 + (1 : Int))), ()) w2.drew)) (s.1, ()) w1)
      (K w1)) ((IntKind.i64.wrap (a + (1 : Int))), ()) w

def an_slices_insertionSortOrdered_int : List Ann := [.none, .join [(6, (Kind.int .i64))] [6, 7, 10, 11, 12, 13, 14, 15, 16, 17, 18, 19, 20, 21, 22, 23, 24, 25, 26, 27, 28, 29, 30, 31, 32, 33, 34, 35, 36, 37, 38, 39, 40, 41, 42, 43, 44, 45, 46, 47, 48], .none, .none, .none, .none, .join [(7, (Kind.int .i64))] [7, 16, 17, 18, 19, 20, 21, 22, 23, 24, 25, 26, 27, 28, 29, 30, 31, 32, 33, 34, 35, 36, 37, 38, 39, 40, 41, 42, 43, 44, 45, 46, 47, 48], .join [] [16, 17, 18, 19, 20, 21, 22, 23, 24, 25, 26, 27, 28, 29, 30], .none, .none]

theorem vc_slices_insertionSortOrdered_int (data : Slc) (a : Int) (b : Int) (w : World) (K : World → Prop) :
    vcFn C (Try.f34.body.getD .skip) Try.f34.results.toList Try.f34.ntmps an_slices_insertionSortOrdered_int [] [(.slice data.a data.n data.c), (.int .i64 a), (.int .i64 b)] w (fun s w => K w) = sh_slices_insertionSortOrdered_int data a b w K := by kernel_rfl

theorem call_slices_insertionSortOrdered_int (data : Slc) (a : Int) (b : Int) {w : World} {K : World → Prop} (h : sh_slices_insertionSortOrdered_int data a b w K) : c_slices_insertionSortOrdered_int data a b w K := by
  rw [← vc_slices_insertionSortOrdered_int] at h
  refine Calls.mono (calls_of_vc C.plain_ok C.mixed Try.func34 rfl h) ?_
  rintro e w' ⟨s, rfl, hK⟩
  exact ⟨rfl, hK⟩

/-- slices.reverseRangeOrdered[int] -/
def sh_slices_reverseRangeOrdered_int (data : Slc) (a : Int) (b : Int) (w : World) (K : World → Prop) : Prop :=
  loopP (σ := Int × Int × Unit) (fun I1 s w1 =>
    cond (decide (s.1 < s.2.1))
      (ixK data s.2.1 1 fun t20 =>
       ldI .i64 t20 w1.drew fun t21 =>
       ixK data s.1 1 fun t24 =>
       ldI .i64 t24 w1.drew fun t25 =>
       ixK data s.1 1 fun t26 =>
       stK t26 [(.int .i64 t21)] w1.drew fun w2 =>
       ixK data s.2.1 1 fun t27 =>
       stK t27 [(.int .i64 t25)] w2 fun w3 =>
       I1 ((IntKind.i64.wrap (s.1 + (1 : Int))), (IntKind.i64.wrap (s.2.1 - (1 : Int))), ()) w3)
      (K w1)) (a, (IntKind.i64.wrap (b - (1 : Int))), ()) w

def an_slices_reverseRangeOrdered_int : List Ann := [.none, .none, .join [(6, (Kind.int .i64)), (7, (Kind.int .i64))] [6, 7, 11, 12, 13, 14, 15, 16, 17, 18, 19, 20, 21, 22, 23, 24, 25, 26, 27, 28, 29, 30, 31], .none, .none, .none, .none]

theorem vc_slices_reverseRangeOrdered_int (data : Slc) (a : Int) (b : Int) (w : World) (K : World → Prop) :
    vcFn C (Try.f38.body.getD .skip) Try.f38.results.toList Try.f38.ntmps an_slices_reverseRangeOrdered_int [] [(.slice data.a data.n data.c), (.int .i64 a), (.int .i64 b)] w (fun s w => K w) = sh_slices_reverseRangeOrdered_int data a b w K := by kernel_rfl

theorem call_slices_reverseRangeOrdered_int (data : Slc) (a : Int) (b : Int) {w : World} {K : World → Prop} (h : sh_slices_reverseRangeOrdered_int data a b w K) : c_slices_reverseRangeOrdered_int data a b w K := by
  rw [← vc_slices_reverseRangeOrdered_int] at h
  refine Calls.mono (calls_of_vc C.plain_ok C.mixed Try.func38 rfl h) ?_
  rintro e w' ⟨s, rfl, hK⟩
  exact ⟨rfl, hK⟩

/-- cmp.Less[int] -/
def sh_cmp_Less_int (x : Int) (y : Int) (w : World) (K : Bool → World → Prop) : Prop :=
  c_cmp_isNaN_int x w fun t6 w1 =>
  cond t6
    (c_cmp_isNaN_int y w1 fun t9 w2 =>
     cond (!t9)
       (K true w2)
       (K (decide (x < y)) w2))
    (K (decide (x < y)) w1)

def an_cmp_Less_int : List Ann := [.none, .none]

theorem vc_cmp_Less_int (x : Int) (y : Int) (w : World) (K : Bool → World → Prop) :
    vcFn C (Try.f40.body.getD .skip) Try.f40.results.toList Try.f40.ntmps an_cmp_Less_int [Kind.bool] [(.int .i64 x), (.int .i64 y)] w (fun s w => K s.1 w) = sh_cmp_Less_int x y w K := by kernel_rfl

theorem call_cmp_Less_int (x : Int) (y : Int) {w : World} {K : Bool → World → Prop} (h : sh_cmp_Less_int x y w K) : c_cmp_Less_int x y w K := by
  rw [← vc_cmp_Less_int] at h
  refine Calls.mono (calls_of_vc C.plain_ok C.mixed Try.func40 rfl h) ?_
  rintro e w' ⟨s, rfl, hK⟩
  exact ⟨s.1, rfl, hK⟩

/-- math/bits.Len32 -/
def sh_math_bits_Len32 (x : Int) (w : World) (K : Int → World → Prop) : Prop :=
  joinP (σ := Int × Int × Unit) (fun s w1 =>
    joinP (σ := Int × Int × Unit) (fun s_1 w2 =>
      ixS (⟨#[0, 1, 2, 2, 3, 3, 3, 3, 4, 4, 4, 4, 4, 4, 4, 4, 5, 5, 5, 5, 5, 5, 5, 5, 5, 5, 5, 5, 5, 5, 5, 5, 6, 6, 6, 6, 6, 6, 6, 6, 6, 6, 6, 6, 6, 6, 6, 6, 6, 6, 6, 6, 6, 6, 6, 6, 6, 6, 6, 6, 6, 6, 6, 6, 7, 7, 7, 7, 7, 7, 7, 7, 7, 7, 7, 7, 7, 7, 7, 7, 7, 7, 7, 7, 7, 7, 7, 7, 7, 7, 7, 7, 7, 7, 7, 7, 7, 7, 7, 7, 7, 7, 7, 7, 7, 7, 7, 7, 7, 7, 7, 7, 7, 7, 7, 7, 7, 7, 7, 7, 7, 7, 7, 7, 7, 7, 7, 7, 8, 8, 8, 8, 8, 8, 8, 8, 8, 8, 8, 8, 8, 8, 8, 8, 8, 8, 8, 8, 8, 8, 8, 8, 8, 8, 8, 8, 8, 8, 8, 8, 8, 8, 8, 8, 8, 8, 8, 8, 8, 8, 8, 8, 8, 8, 8, 8, 8, 8, 8, 8, 8, 8, 8, 8, 8, 8, 8, 8, 8, 8, 8, 8, 8, 8, 8, 8, 8, 8, 8, 8, 8, 8, 8, 8, 8, 8, 8, 8, 8, 8, 8, 8, 8, 8, 8, 8, 8, 8, 8, 8, 8, 8, 8, 8, 8, 8, 8, 8, 8, 8, 8, 8, 8, 8, 8, 8, 8, 8, 8, 8, 8, 8, 8, 8, 8, 8, 8, 8, 8, 8, 8, 8, 8, 8, 8, 8]⟩ : ByteArray) (IntKind.u8.wrap s_1.1) fun t16 =>
      K (IntKind.i64.wrap (s_1.2.1 + (IntKind.i64.wrap t16))) w2) fun J2 =>
    cond (decide (s.1 ≥ (256 : Int)))
      (0 ≤ (8 : Int) ∧
       J2 ((s.1.fdiv (2 ^ (min (8 : Int).toNat IntKind.u32.bits))), (IntKind.i64.wrap (s.2.1 + (8 : Int))), ()) w1)
      (J2 (s.1, s.2.1, ()) w1)) fun J1 =>
  cond (decide (x ≥ (65536 : Int)))
    (0 ≤ (16 : Int) ∧
     J1 ((x.fdiv (2 ^ (min (16 : Int).toNat IntKind.u32.bits))), 16, ()) w)
    (J1 (x, 0, ()) w)

def an_math_bits_Len32 : List Ann := [.none, .join [(0, (Kind.int .u32)), (2, (Kind.int .i64))] [0, 2, 3, 4, 5, 6], .none, .none, .join [(0, (Kind.int .u32)), (2, (Kind.int .i64))] [0, 2, 7, 8, 9, 10, 11, 12], .none, .none, .none]

theorem vc_math_bits_Len32 (x : Int) (w : World) (K : Int → World → Prop) :
    vcFn C (Try.f43.body.getD .skip) Try.f43.results.toList Try.f43.ntmps an_math_bits_Len32 [(Kind.int .i64)] [(.int .u32 x)] w (fun s w => K s.1 w) = sh_math_bits_Len32 x w K := by kernel_rfl

theorem call_math_bits_Len32 (x : Int) {w : World} {K : Int → World → Prop} (h : sh_math_bits_Len32 x w K) : c_math_bits_Len32 x w K := by
  rw [← vc_math_bits_Len32] at h
  refine Calls.mono (calls_of_vc C.plain_ok C.mixed Try.func43 rfl h) ?_
  rintro e w' ⟨s, rfl, hK⟩
  exact ⟨s.1, rfl, hK⟩

/-- math/bits.Len64 -/
def sh_math_bits_Len64 (x : Int) (w : World) (K : Int → World → Prop) : Prop :=
  joinP (σ := Int × Int × Unit) (fun s w1 =>
    joinP (σ := Int × Int × Unit) (fun s_1 w2 =>
      joinP (σ := Int × Int × Unit) (fun s_2 w3 =>
        ixS (⟨#[0, 1, 2, 2, 3, 3, 3, 3, 4, 4, 4, 4, 4, 4, 4, 4, 5, 5, 5, 5, 5, 5, 5, 5, 5, 5, 5, 5, 5, 5, 5, 5, 6, 6, 6, 6, 6, 6, 6, 6, 6, 6, 6, 6, 6, 6, 6, 6, 6, 6, 6, 6, 6, 6, 6, 6, 6, 6, 6, 6, 6, 6, 6, 6, 7, 7, 7, 7, 7, 7, 7, 7, 7, 7, 7, 7, 7, 7, 7, 7, 7, 7, 7, 7, 7, 7, 7, 7, 7, 7, 7, 7, 7, 7, 7, 7, 7, 7, 7, 7, 7, 7, 7, 7, 7, 7, 7, 7, 7, 7, 7, 7, 7, 7, 7, 7, 7, 7, 7, 7, 7, 7, 7, 7, 7, 7, 7, 7, 8, 8, 8, 8, 8, 8, 8, 8, 8, 8, 8, 8, 8, 8, 8, 8, 8, 8, 8, 8, 8, 8, 8, 8, 8, 8, 8, 8, 8, 8, 8, 8, 8, 8, 8, 8, 8, 8, 8, 8, 8, 8, 8, 8, 8, 8, 8, 8, 8, 8, 8, 8, 8, 8, 8, 8, 8, 8, 8, 8, 8, 8, 8, 8, 8, 8, 8, 8, 8, 8, 8, 8, 8, 8, 8, 8, 8, 8, 8, 8, 8, 8, 8, 8, 8, 8, 8, 8, 8, 8, 8, 8, 8, 8, 8, 8, 8, 8, 8, 8, 8, 8, 8, 8, 8, 8, 8, 8, 8, 8, 8, 8, 8, 8, 8, 8, 8, 8, 8, 8, 8, 8, 8, 8, 8, 8, 8, 8]⟩ : ByteArray) (IntKind.u8.wrap s_2.1) fun t22 =>
        K (IntKind.i64.wrap (s_2.2.1 + (IntKind.i64.wrap t22))) w3) fun J3 =>
      cond (decide (s_1.1 ≥ (256 : Int)))
        (0 ≤ (8 : Int) ∧
         J3 ((s_1.1.fdiv (2 ^ (min (8 : Int).toNat IntKind.u64.bits))), (IntKind.i64.wrap (s_1.2.1 + (8 : Int))), ()) w2)
        (J3 (s_1.1, s_1.2.1, ()) w2)) fun J2 =>
    cond (decide (s.1 ≥ (65536 : Int)))
      (0 ≤ (16 : Int) ∧
       J2 ((s.1.fdiv (2 ^ (min (16 : Int).toNat IntKind.u64.bits))), (IntKind.i64.wrap (s.2.1 + (16 : Int))), ()) w1)
      (J2 (s.1, s.2.1, ()) w1)) fun J1 =>
  cond (decide (x ≥ (4294967296 : Int)))
    (0 ≤ (32 : Int) ∧
     J1 ((x.fdiv (2 ^ (min (32 : Int).toNat IntKind.u64.bits))), 32, ()) w)
    (J1 (x, 0, ()) w)

def an_math_bits_Len64 : List Ann := [.none, .join [(0, (Kind.int .u64)), (2, (Kind.int .i64))] [0, 2, 3, 4, 5, 6], .none, .none, .join [(0, (Kind.int .u64)), (2, (Kind.int .i64))] [0, 2, 7, 8, 9, 10, 11, 12], .none, .none, .join [(0, (Kind.int .u64)), (2, (Kind.int .i64))] [0, 2, 13, 14, 15, 16, 17, 18], .none, .none, .none]

theorem vc_math_bits_Len64 (x : Int) (w : World) (K : Int → World → Prop) :
    vcFn C (Try.f44.body.getD .skip) Try.f44.results.toList Try.f44.ntmps an_math_bits_Len64 [(Kind.int .i64)] [(.int .u64 x)] w (fun s w => K s.1 w) = sh_math_bits_Len64 x w K := by kernel_rfl

theorem call_math_bits_Len64 (x : Int) {w : World} {K : Int → World → Prop} (h : sh_math_bits_Len64 x w K) : c_math_bits_Len64 x w K := by
  rw [← vc_math_bits_Len64] at h
  refine Calls.mono (calls_of_vc C.plain_ok C.mixed Try.func44 rfl h) ?_
  rintro e w' ⟨s, rfl, hK⟩
  exact ⟨s.1, rfl, hK⟩

/-- slices.siftDownOrdered[int] -/
def sh_slices_siftDownOrdered_int (data : Slc) (lo : Int) (hi : Int) (first : Int) (w : World) (K : World → Prop) : Prop :=
  loopP (σ := Int × Unit) (fun I1 s w1 =>
    cond (decide ((IntKind.i64.wrap ((IntKind.i64.wrap ((2 : Int) * s.1)) + (1 : Int))) ≥ hi))
      (K w1)
      (joinP (σ := Int × Unit) (fun s_1 w2 =>
         ixK data (IntKind.i64.wrap (first + s.1)) 1 fun t43 =>
         ldI .i64 t43 w2.drew fun t44 =>
         ixK data (IntKind.i64.wrap (first + s_1.1)) 1 fun t49 =>
         ldI .i64 t49 w2.drew fun t50 =>
         c_cmp_Less_int t44 t50 w2.drew fun t51 w3 =>
         cond (!t51)
           (K w3)
           (ixK data (IntKind.i64.wrap (first + s_1.1)) 1 fun t65 =>
            ldI .i64 t65 w3.drew fun t66 =>
            ixK data (IntKind.i64.wrap (first + s.1)) 1 fun t71 =>
            ldI .i64 t71 w3.drew fun t72 =>
            ixK data (IntKind.i64.wrap (first + s.1)) 1 fun t73 =>
            stK t73 [(.int .i64 t66)] w3.drew fun w4 =>
            ixK data (IntKind.i64.wrap (first + s_1.1)) 1 fun t74 =>
            stK t74 [(.int .i64 t72)] w4 fun w5 =>
            I1 (s_1.1, ()) w5)) fun J2 =>
       joinP (σ := Bool × Unit) (fun s_2 w6 =>
         cond s_2.1
           (J2 ((IntKind.i64.wrap ((IntKind.i64.wrap ((IntKind.i64.wrap ((2 : Int) * s.1)) + (1 : Int))) + (1 : Int))), ()) w6)
           (J2 ((IntKind.i64.wrap ((IntKind.i64.wrap ((2 : Int) * s.1)) + (1 : Int))), ()) w6)) fun J3 =>
       cond (decide ((IntKind.i64.wrap ((IntKind.i64.wrap ((IntKind.i64.wrap ((2 : Int) * s.1)) + (1 : Int))) + (1 : Int))) < hi))
         (ixK data (IntKind.i64.wrap (first + (IntKind.i64.wrap ((IntKind.i64.wrap ((2 : Int) * s.1)) + (1 : Int))))) 1 fun t26 =>
          ldI .i64 t26 w1.drew fun t27 =>
          ixK data (IntKind.i64.wrap ((IntKind.i64.wrap (first + (IntKind.i64.wrap ((IntKind.i64.wrap ((2 : Int) * s.1)) + (1 : Int))))) + (1 : Int))) 1 fun t33 =>
          ldI .i64 t33 w1.drew fun t34 =>
          c_cmp_Less_int t27 t34 w1.drew fun t35 w7 =>
          J3 (t35, ()) w7)
         (J3 (false, ()) w1.drew))) (lo, ()) w

def an_slices_siftDownOrdered_int : List Ann := [.none, .join [(8, (Kind.int .i64))] [8, 9, 11, 12, 13, 14, 15, 16, 17, 18, 19, 20, 21, 22, 23, 24, 25, 26, 27, 28, 29, 30, 31, 32, 33, 34, 35, 36, 37, 38, 39, 40, 41, 42, 43, 44, 45, 46, 47, 48, 49, 50, 51, 52, 53, 54, 55, 56, 57, 58, 59, 60, 61, 62, 63, 64, 65, 66, 67, 68, 69, 70, 71, 72, 73, 74, 75], .none, .none, .none, .join [(9, (Kind.int .i64))] [9, 17, 18, 19, 20, 21, 22, 23, 24, 25, 26, 27, 28, 29, 30, 31, 32, 33, 34, 35, 36, 37, 38], .join [(36, Kind.bool)] [17, 18, 19, 20, 21, 22, 23, 24, 25, 26, 27, 28, 29, 30, 31, 32, 33, 34, 35, 36], .none, .none, .none]

theorem vc_slices_siftDownOrdered_int (data : Slc) (lo : Int) (hi : Int) (first : Int) (w : World) (K : World → Prop) :
    vcFn C (Try.f45.body.getD .skip) Try.f45.results.toList Try.f45.ntmps an_slices_siftDownOrdered_int [] [(.slice data.a data.n data.c), (.int .i64 lo), (.int .i64 hi), (.int .i64 first)] w (fun s w => K w) = sh_slices_siftDownOrdered_int data lo hi first w K := by kernel_rfl

theorem call_slices_siftDownOrdered_int (data : Slc) (lo : Int) (hi : Int) (first : Int) {w : World} {K : World → Prop} (h : sh_slices_siftDownOrdered_int data lo hi first w K) : c_slices_siftDownOrdered_int data lo hi first w K := by
  rw [← vc_slices_siftDownOrdered_int] at h
  refine Calls.mono (calls_of_vc C.plain_ok C.mixed Try.func45 rfl h) ?_
  rintro e w' ⟨s, rfl, hK⟩
  exact ⟨rfl, hK⟩

/-- slices.nextPowerOfTwo -/
def sh_slices_nextPowerOfTwo (length : Int) (w : World) (K : Int → World → Prop) : Prop :=
  c_math_bits_Len (IntKind.u64.wrap length) w fun t5 w1 =>
  0 ≤ t5 ∧
  K (IntKind.u64.wrap ((1 : Int) * 2 ^ (min t5.toNat IntKind.u64.bits))) w1

def an_slices_nextPowerOfTwo : List Ann := [.none, .none]

theorem vc_slices_nextPowerOfTwo (length : Int) (w : World) (K : Int → World → Prop) :
    vcFn C (Try.f46.body.getD .skip) Try.f46.results.toList Try.f46.ntmps an_slices_nextPowerOfTwo [(Kind.int .u64)] [(.int .i64 length)] w (fun s w => K s.1 w) = sh_slices_nextPowerOfTwo length w K := by kernel_rfl

theorem call_slices_nextPowerOfTwo (length : Int) {w : World} {K : Int → World → Prop} (h : sh_slices_nextPowerOfTwo length w K) : c_slices_nextPowerOfTwo length w K := by
  rw [← vc_slices_nextPowerOfTwo] at h
  refine Calls.mono (calls_of_vc C.plain_ok C.mixed Try.func46 rfl h) ?_
  rintro e w' ⟨s, rfl, hK⟩
  exact ⟨s.1, rfl, hK⟩

/-- (*slices.xorshift).Next -/
def sh_slices_xorshift_Next (r : Option Addr) (w : World) (K : Int → World → Prop) : Prop :=
  onPtr r fun t4 =>
  ldI .u64 t4 w.drew fun t5 =>
  onPtr r fun t7 =>
  ldI .u64 t7 w.drew fun t8 =>
  0 ≤ (13 : Int) ∧
  onPtr r fun t11 =>
  stK t11 [(.int .u64 (bitsR .xor .u64 t5 (IntKind.u64.wrap (t8 * 2 ^ (min (13 : Int).toNat IntKind.u64.bits)))))] w.drew fun w1 =>
  onPtr r fun t13 =>
  ldI .u64 t13 w1.drew fun t14 =>
  onPtr r fun t16 =>
  ldI .u64 t16 w1.drew fun t17 =>
  0 ≤ (7 : Int) ∧
  onPtr r fun t20 =>
  stK t20 [(.int .u64 (bitsR .xor .u64 t14 (t17.fdiv (2 ^ (min (7 : Int).toNat IntKind.u64.bits)))))] w1.drew fun w2 =>
  onPtr r fun t22 =>
  ldI .u64 t22 w2.drew fun t23 =>
  onPtr r fun t25 =>
  ldI .u64 t25 w2.drew fun t26 =>
  0 ≤ (17 : Int) ∧
  onPtr r fun t29 =>
  stK t29 [(.int .u64 (bitsR .xor .u64 t23 (IntKind.u64.wrap (t26 * 2 ^ (min (17 : Int).toNat IntKind.u64.bits)))))] w2.drew fun w3 =>
  onPtr r fun t31 =>
  ldI .u64 t31 w3 fun t32 =>
  K t32 w3

def an_slices_xorshift_Next : List Ann := [.none, .none, .none, .none, .none]

theorem vc_slices_xorshift_Next (r : Option Addr) (w : World) (K : Int → World → Prop) :
    vcFn C (Try.f47.body.getD .skip) Try.f47.results.toList Try.f47.ntmps an_slices_xorshift_Next [(Kind.int .u64)] [(.pointer r)] w (fun s w => K s.1 w) = sh_slices_xorshift_Next r w K := by kernel_rfl

theorem call_slices_xorshift_Next (r : Option Addr) {w : World} {K : Int → World → Prop} (h : sh_slices_xorshift_Next r w K) : c_slices_xorshift_Next r w K := by
  rw [← vc_slices_xorshift_Next] at h
  refine Calls.mono (calls_of_vc C.plain_ok C.mixed Try.func47 rfl h) ?_
  rintro e w' ⟨s, rfl, hK⟩
  exact ⟨s.1, rfl, hK⟩

/-- slices.medianAdjacentOrdered[int] -/
def sh_slices_medianAdjacentOrdered_int (data : Slc) (a : Int) (swaps : Option Addr) (w : World) (K : Int → World → Prop) : Prop :=
  c_slices_medianOrdered_int data (IntKind.i64.wrap (a - (1 : Int))) a (IntKind.i64.wrap (a + (1 : Int))) swaps w fun t14 w1 =>
  K t14 w1

def an_slices_medianAdjacentOrdered_int : List Ann := [.none, .none]

theorem vc_slices_medianAdjacentOrdered_int (data : Slc) (a : Int) (swaps : Option Addr) (w : World) (K : Int → World → Prop) :
    vcFn C (Try.f48.body.getD .skip) Try.f48.results.toList Try.f48.ntmps an_slices_medianAdjacentOrdered_int [(Kind.int .i64)] [(.slice data.a data.n data.c), (.int .i64 a), (.pointer swaps)] w (fun s w => K s.1 w) = sh_slices_medianAdjacentOrdered_int data a swaps w K := by kernel_rfl

theorem call_slices_medianAdjacentOrdered_int (data : Slc) (a : Int) (swaps : Option Addr) {w : World} {K : Int → World → Prop} (h : sh_slices_medianAdjacentOrdered_int data a swaps w K) : c_slices_medianAdjacentOrdered_int data a swaps w K := by
  rw [← vc_slices_medianAdjacentOrdered_int] at h
  refine Calls.mono (calls_of_vc C.plain_ok C.mixed Try.func48 rfl h) ?_
  rintro e w' ⟨s, rfl, hK⟩
  exact ⟨s.1, rfl, hK⟩

/-- slices.medianOrdered[int] -/
def sh_slices_medianOrdered_int (data : Slc) (a : Int) (b : Int) (c : Int) (swaps : Option Addr) (w : World) (K : Int → World → Prop) : Prop :=
  c_slices_order2Ordered_int data a b swaps w fun t16 t16_1 w1 =>
  c_slices_order2Ordered_int data t16_1 c swaps w1 fun t24 t24_1 w2 =>
  c_slices_order2Ordered_int data t16 t24 swaps w2 fun t32 t32_1 w3 =>
  K t32_1 w3

def an_slices_medianOrdered_int : List Ann := [.none, .none, .none, .none, .none]

theorem vc_slices_medianOrdered_int (data : Slc) (a : Int) (b : Int) (c : Int) (swaps : Option Addr) (w : World) (K : Int → World → Prop) :
    vcFn C (Try.f49.body.getD .skip) Try.f49.results.toList Try.f49.ntmps an_slices_medianOrdered_int [(Kind.int .i64)] [(.slice data.a data.n data.c), (.int .i64 a), (.int .i64 b), (.int .i64 c), (.pointer swaps)] w (fun s w => K s.1 w) = sh_slices_medianOrdered_int data a b c swaps w K := by kernel_rfl

theorem call_slices_medianOrdered_int (data : Slc) (a : Int) (b : Int) (c : Int) (swaps : Option Addr) {w : World} {K : Int → World → Prop} (h : sh_slices_medianOrdered_int data a b c swaps w K) : c_slices_medianOrdered_int data a b c swaps w K := by
  rw [← vc_slices_medianOrdered_int] at h
  refine Calls.mono (calls_of_vc C.plain_ok C.mixed Try.func49 rfl h) ?_
  rintro e w' ⟨s, rfl, hK⟩
  exact ⟨s.1, rfl, hK⟩

/-- cmp.isNaN[int] -/
def sh_cmp_isNaN_int (x : Int) (w : World) (K : Bool → World → Prop) : Prop :=
  K (x != x) w

def an_cmp_isNaN_int : List Ann := [.none, .none]

theorem vc_cmp_isNaN_int (x : Int) (w : World) (K : Bool → World → Prop) :
    vcFn C (Try.f50.body.getD .skip) Try.f50.results.toList Try.f50.ntmps an_cmp_isNaN_int [Kind.bool] [(.int .i64 x)] w (fun s w => K s.1 w) = sh_cmp_isNaN_int x w K := by kernel_rfl

theorem call_cmp_isNaN_int (x : Int) {w : World} {K : Bool → World → Prop} (h : sh_cmp_isNaN_int x w K) : c_cmp_isNaN_int x w K := by
  rw [← vc_cmp_isNaN_int] at h
  refine Calls.mono (calls_of_vc C.plain_ok C.mixed Try.func50 rfl h) ?_
  rintro e w' ⟨s, rfl, hK⟩
  exact ⟨s.1, rfl, hK⟩

/-- slices.order2Ordered[int] -/
def sh_slices_order2Ordered_int (data : Slc) (a : Int) (b : Int) (swaps : Option Addr) (w : World) (K : Int → Int → World → Prop) : Prop :=
  ixK data b 1 fun t12 =>
  ldI .i64 t12 w.drew fun t13 =>
  ixK data a 1 fun t16 =>
  ldI .i64 t16 w.drew fun t17 =>
  c_cmp_Less_int t13 t17 w.drew fun t18 w1 =>
  cond t18
    (onPtr swaps fun t20 =>
     ldI .i64 t20 w1 fun t21 =>
     onPtr swaps fun t23 =>
     stK t23 [(.int .i64 (IntKind.i64.wrap (t21 + (1 : Int))))] w1 fun w2 =>
     K b a w2)
    (K a b w1)

def an_slices_order2Ordered_int : List Ann := [.none, .none, .none, .none, .none, .none]

theorem vc_slices_order2Ordered_int (data : Slc) (a : Int) (b : Int) (swaps : Option Addr) (w : World) (K : Int → Int → World → Prop) :
    vcFn C (Try.f51.body.getD .skip) Try.f51.results.toList Try.f51.ntmps an_slices_order2Ordered_int [(Kind.int .i64), (Kind.int .i64)] [(.slice data.a data.n data.c), (.int .i64 a), (.int .i64 b), (.pointer swaps)] w (fun s w => K s.1 s.2.1 w) = sh_slices_order2Ordered_int data a b swaps w K := by kernel_rfl

theorem call_slices_order2Ordered_int (data : Slc) (a : Int) (b : Int) (swaps : Option Addr) {w : World} {K : Int → Int → World → Prop} (h : sh_slices_order2Ordered_int data a b swaps w K) : c_slices_order2Ordered_int data a b swaps w K := by
  rw [← vc_slices_order2Ordered_int] at h
  refine Calls.mono (calls_of_vc C.plain_ok C.mixed Try.func51 rfl h) ?_
  rintro e w' ⟨s, rfl, hK⟩
  exact ⟨s.1, s.2.1, rfl, hK⟩

end Go.Proofs.Ytpadlibcalomnaa
