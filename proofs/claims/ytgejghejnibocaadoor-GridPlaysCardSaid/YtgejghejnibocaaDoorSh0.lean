/- By program (gen.py): the typed text of the program's functions, part 0. -/
import Derived.Test.YtgejghejnibocaaDoorDefs
set_option maxRecDepth 100000
set_option linter.unusedVariables false
namespace Go.Proofs.YtgejghejnibocaaDoor
open Go.Vc

/-- phosphor/phosphorlaw13.LineNew -/
def sh_phosphorlaw13_LineNew (cols : Int) (a : T_api_Attr) (l : Slc) (w : World) (K : Bool → World → Prop) : Prop :=
  nw 23 (T_api_Attr.rep.cells a) w fun a_1 w1 =>
  c_phosphorlaw13_known  w1 fun t9 w2 =>
  cond (!t9)
    (K false w2)
    (cond (decide (((l.n : Nat) : Int) > (240 : Int)))
       (K true w2)
       (ldS T_api_Attr.rep a_1 w2 fun t15 =>
        c_line_New cols t15 w2 fun t16 w3 =>
        c_line_Line_Mend l w3 fun t18 w4 =>
        joinP (σ := Unit) (fun s w5 =>
          c_line_Line_Right l w5 fun t57 w6 =>
          cond (!t57)
            (K true w6)
            (c_phosphorref13_Same t18 l w6 fun t62 w7 =>
             K t62 w7)) fun J1 =>
        ldS T_api_Attr.rep a_1 w4 fun t21 =>
        c_phosphorref13_New cols t21 w4 fun t22 w8 =>
        c_phosphorref13_Same t16 t22 w8 fun t23 w9 =>
        cond (!t23)
          (K false w9)
          (c_line_Line_Right t16 w9 fun t27 w10 =>
           cond (!t27)
             (K false w10)
             (c_line_Line_Right l w10 fun t32 w11 =>
              c_phosphorref13_Right l w11 fun t34 w12 =>
              cond (!(t32 == t34))
                (K false w12)
                (c_phosphorref13_Mend l w12 fun t40 w13 =>
                 c_phosphorref13_Same t18 t40 w13 fun t41 w14 =>
                 cond (!t41)
                   (K false w14)
                   (c_line_Line_Right t18 w14 fun t46 w15 =>
                    cond (!t46)
                      (K false w15)
                      (c_line_Line_Mend t18 w15 fun t51 w16 =>
                       c_phosphorref13_Same t51 t18 w16 fun t53 w17 =>
                       cond (!t53)
                         (K false w17)
                         (J1 (()) w17))))))))

def an_phosphorlaw13_LineNew : List Ann := [.none, .none, .none, .none, .none, .none, .none, .none, .none, .join [] [6, 19, 20, 21, 22, 23, 24, 25, 26, 27, 28, 29, 30, 31, 32, 33, 34, 35, 36, 37, 38, 39, 40, 41, 42, 43, 44, 45, 46, 47, 48, 49, 50, 51, 52, 53, 54, 55], .none, .none, .none]

theorem vc_phosphorlaw13_LineNew (cols : Int) (a : T_api_Attr) (l : Slc) (w : World) (K : Bool → World → Prop) :
    vcFn C (Tryd.f3.body.getD .skip) Tryd.f3.results.toList Tryd.f3.ntmps an_phosphorlaw13_LineNew [Kind.bool] [(.int .i64 cols), (.agg #[(.int .i64 a.Fg), (.int .i64 a.Bg), (.int .i64 a.Flags)]), (.slice l.a l.n l.c)] w (fun s w => K s.1 w) = sh_phosphorlaw13_LineNew cols a l w K := by kernel_rfl

theorem call_phosphorlaw13_LineNew (cols : Int) (a : T_api_Attr) (l : Slc) {w : World} {K : Bool → World → Prop} (h : sh_phosphorlaw13_LineNew cols a l w K) : c_phosphorlaw13_LineNew cols a l w K := by
  rw [← vc_phosphorlaw13_LineNew] at h
  refine Calls.mono (calls_of_vc C.plain_ok C.mixed Tryd.func3 rfl h) ?_
  rintro e w' ⟨s, rfl, hK⟩
  exact ⟨s.1, rfl, hK⟩

/-- phosphor/phosphorlaw13.LineTexts -/
def sh_phosphorlaw13_LineTexts (text : Slc) (at_ : Int) (w : World) (K : Bool → World → Prop) : Prop :=
  c_phosphorlaw13_known  w fun t13 w1 =>
  cond (!t13)
    (K false w1)
    (joinP (σ := Unit) (fun s w2 =>
       c_line_New 240 (⟨0, 0, 0⟩ : T_api_Attr) w2 fun t27 w3 =>
       loopP (σ := ByteArray × Int × Unit) (fun I2 s_1 w4 =>
         cond (decide (s_1.2.1 < at_))
           ((((s_1.1.size + (⟨#[32]⟩ : ByteArray).size : Nat) : Int) ≤ 9223372036854775807) ∧
            I2 ((s_1.1 ++ (⟨#[32]⟩ : ByteArray)), (IntKind.i64.wrap (s_1.2.1 + (1 : Int))), ()) w4)
           (loopP (σ := Slc × ByteArray × Int × Int × Unit) (fun I3 s_2 w5 =>
              cond (decide (s_2.2.2.2.1 < ((text.n : Nat) : Int)))
                (ixK text s_2.2.2.2.1 1 fun t43 =>
                 ldI .u8 t43 w5 fun t44 =>
                 (95 : Int) ≠ 0 ∧
                 c_line_Line_Put s_2.1 (IntKind.i64.wrap (at_ + s_2.2.2.2.1)) (IntKind.i32.wrap (IntKind.u8.wrap ((32 : Int) + (t44.tmod (95 : Int))))) 1 (⟨0, 0, 0⟩ : T_api_Attr) w5 fun t55 t55_1 w6 =>
                 cond (!t55_1)
                   (K false w6)
                   (nw 5 [(.int .u8 (IntKind.u8.wrap ((32 : Int) + (t44.tmod (95 : Int)))))] w6 fun t63 w7 =>
                    runK1 Tryd.prog (convert 34 9 (.slice (some t63) 1 1)) Kind.string w7 fun (t64 : ByteArray) w8 =>
                    (((s_2.2.1.size + t64.size : Nat) : Int) ≤ 9223372036854775807) ∧
                    cond ((IntKind.u8.wrap ((32 : Int) + (t44.tmod (95 : Int)))) != (32 : Int))
                      (I3 (t55, (s_2.2.1 ++ t64), ((s_2.2.1 ++ t64).size : Int), (IntKind.i64.wrap (s_2.2.2.2.1 + (1 : Int))), ()) w8)
                      (I3 (t55, (s_2.2.1 ++ t64), s_2.2.2.1, (IntKind.i64.wrap (s_2.2.2.2.1 + (1 : Int))), ()) w8)))
                (slS s_2.2.1 none (some s_2.2.2.1) fun t74 =>
                 c_line_Line_Text s_2.1 w5.drew fun t71 w9 =>
                 K (t71.toList == t74.toList) w9)) (t27, s_1.1, 0, 0, ()) w4)) ((⟨#[]⟩ : ByteArray), 0, ()) w3) fun J1 =>
     cond (decide (((text.n : Nat) : Int) > (120 : Int)))
       (K true w1)
       (cond (decide (at_ < (0 : Int)))
          (K true w1)
          (cond (decide (at_ > (120 : Int)))
             (K true w1)
             (J1 (()) w1))))

def an_phosphorlaw13_LineTexts : List Ann := [.none, .none, .none, .none, .join [] [4, 15, 16, 17, 18, 19, 20, 21, 22, 23, 24, 25], .none, .none, .none, .none, .none, .none, .none, .join [(6, Kind.string), (8, (Kind.int .i64))] [6, 8, 28, 29, 30, 31, 32, 33, 34], .none, .none, .none, .none, .none, .join [(5, Kind.slice), (6, Kind.string), (7, (Kind.int .i64)), (9, (Kind.int .i64))] [4, 5, 6, 7, 9, 10, 11, 12, 35, 36, 37, 38, 39, 40, 41, 42, 43, 44, 45, 46, 47, 48, 49, 50, 51, 52, 53, 54, 55, 56, 57, 58, 59, 60, 61, 62, 63, 64, 65, 66, 67, 68, 69], .none, .none, .none, .none, .none, .none, .none, .none, .none, .none, .none, .none]

theorem vc_phosphorlaw13_LineTexts (text : Slc) (at_ : Int) (w : World) (K : Bool → World → Prop) :
    vcFn C (Tryd.f4.body.getD .skip) Tryd.f4.results.toList Tryd.f4.ntmps an_phosphorlaw13_LineTexts [Kind.bool] [(.slice text.a text.n text.c), (.int .i64 at_)] w (fun s w => K s.1 w) = sh_phosphorlaw13_LineTexts text at_ w K := by kernel_rfl

theorem call_phosphorlaw13_LineTexts (text : Slc) (at_ : Int) {w : World} {K : Bool → World → Prop} (h : sh_phosphorlaw13_LineTexts text at_ w K) : c_phosphorlaw13_LineTexts text at_ w K := by
  rw [← vc_phosphorlaw13_LineTexts] at h
  refine Calls.mono (calls_of_vc C.plain_ok C.mixed Tryd.func4 rfl h) ?_
  rintro e w' ⟨s, rfl, hK⟩
  exact ⟨s.1, rfl, hK⟩

/-- phosphor/phosphorlaw13.LineMaps -/
def sh_phosphorlaw13_LineMaps (l : Slc) (by_ : Int) (w : World) (K : Bool → World → Prop) : Prop :=
  nw 3 [(.int .i64 by_)] w fun by__1 w1 =>
  c_phosphorlaw13_known  w1 fun t8 w2 =>
  cond (!t8)
    (K false w2)
    (cond (decide (((l.n : Nat) : Int) > (240 : Int)))
       (K true w2)
       (c_line_Map_int l ((.func (.func 24) #[] #[(.pointer (some by__1))]) : Value) w2 fun t15 w3 =>
        c_line_Map_bool l ((.func (.func 26) #[] #[]) : Value) w3 fun t17 w4 =>
        joinP (σ := Unit) (fun s w5 =>
          loopP (σ := Int × Unit) (fun I2 s_1 w6 =>
            cond (decide (s_1.1 < ((l.n : Nat) : Int)))
              (ixK t15 s_1.1 1 fun t38 =>
               ldI .i64 t38 w6.drew fun t39 =>
               ixK l s_1.1 5 fun t42 =>
               ldI .i32 (t42.add 0) w6.drew fun t44 =>
               ldI .i64 by__1 w6.drew fun t46 =>
               cond (t39 != (bitsR .xor .i64 (IntKind.i64.wrap t44) t46))
                 (K false w6.drew)
                 (ixK t17 s_1.1 1 fun t52 =>
                  ldB t52 w6.drew fun t53 =>
                  ixK l s_1.1 5 fun t56 =>
                  ldI .i64 (t56.add 1) w6.drew fun t58 =>
                  cond (!(t53 == (t58 == (2 : Int))))
                    (K false w6.drew)
                    (I2 ((IntKind.i64.wrap (s_1.1 + (1 : Int))), ()) w6.drew)))
              (K true w6)) (0, ()) w5) fun J1 =>
        cond (((t15.n : Nat) : Int) != ((l.n : Nat) : Int))
          (K false w4)
          (cond (((t17.n : Nat) : Int) != ((l.n : Nat) : Int))
             (K false w4)
             (J1 (()) w4))))

def an_phosphorlaw13_LineMaps : List Ann := [.none, .none, .none, .none, .none, .none, .none, .none, .none, .join [] [4, 18, 19, 20, 21, 22, 23, 24, 25, 26, 27, 28, 29], .none, .none, .none, .none, .join [(7, (Kind.int .i64))] [4, 7, 30, 31, 32, 33, 34, 35, 36, 37, 38, 39, 40, 41, 42, 43, 44, 45, 46, 47, 48, 49, 50, 51, 52, 53, 54, 55, 56, 57, 58, 59, 60, 61], .none, .none, .none, .none, .none, .none]

theorem vc_phosphorlaw13_LineMaps (l : Slc) (by_ : Int) (w : World) (K : Bool → World → Prop) :
    vcFn C (Tryd.f5.body.getD .skip) Tryd.f5.results.toList Tryd.f5.ntmps an_phosphorlaw13_LineMaps [Kind.bool] [(.slice l.a l.n l.c), (.int .i64 by_)] w (fun s w => K s.1 w) = sh_phosphorlaw13_LineMaps l by_ w K := by kernel_rfl

theorem call_phosphorlaw13_LineMaps (l : Slc) (by_ : Int) {w : World} {K : Bool → World → Prop} (h : sh_phosphorlaw13_LineMaps l by_ w K) : c_phosphorlaw13_LineMaps l by_ w K := by
  rw [← vc_phosphorlaw13_LineMaps] at h
  refine Calls.mono (calls_of_vc C.plain_ok C.mixed Tryd.func5 rfl h) ?_
  rintro e w' ⟨s, rfl, hK⟩
  exact ⟨s.1, rfl, hK⟩

/-- phosphor/phosphorlaw13.LineShifts -/
def sh_phosphorlaw13_LineShifts (l : Slc) (col : Int) (n : Int) (a : T_api_Attr) (w : World) (K : Bool → World → Prop) : Prop :=
  nw 23 (T_api_Attr.rep.cells a) w fun a_1 w1 =>
  c_phosphorlaw13_known  w1 fun t12 w2 =>
  cond (!t12)
    (K false w2)
    (joinP (σ := Unit) (fun s w3 =>
       loopP (σ := Int × Unit) (fun I2 s_1 w4 =>
         cond (decide (s_1.1 < ((l.n : Nat) : Int)))
           (ixK l s_1.1 5 fun t50 =>
            ldI .i64 (t50.add 1) w4 fun t52 =>
            cond (t52 != (0 : Int))
              (K true w4)
              (I2 ((IntKind.i64.wrap (s_1.1 + (1 : Int))), ()) w4))
           (ldS T_api_Attr.rep a_1 w4.drew fun t57 =>
            ldS T_api_Attr.rep a_1 w4.drew fun t61 =>
            c_line_Line_Insert l col n t57 w4.drew fun t58 w5 =>
            cellsAt w5 a_1 (T_api_Attr.rep.cells t61) ∧
            c_line_Line_Delete t58 col n t61 w5 fun t62 w6 =>
            cond (((t62.n : Nat) : Int) != ((l.n : Nat) : Int))
              (K false w6)
              (loopP (σ := Int × Unit) (fun I3 s_2 w7 =>
                 cond (decide (s_2.1 < ((l.n : Nat) : Int)))
                   (joinP (σ := Bool × Unit) (fun s_3 w8 =>
                      cond s_3.1
                        (ixK t62 s_2.1 5 fun t87 =>
                         ldS T_api_Cell.rep t87 w8.drew fun t88 =>
                         ixK l s_2.1 5 fun t91 =>
                         ldS T_api_Cell.rep t91 w8.drew fun t92 =>
                         cond (!((t88.R == t92.R) && ((t88.Kind == t92.Kind) && (((t88.A.Fg == t92.A.Fg) && ((t88.A.Bg == t92.A.Bg) && ((t88.A.Flags == t92.A.Flags) && true))) && true))))
                           (K false w8.drew)
                           (I3 ((IntKind.i64.wrap (s_2.1 + (1 : Int))), ()) w8.drew))
                        (ixK t62 s_2.1 5 fun t96 =>
                         ldS T_api_Cell.rep t96 w8.drew fun t97 =>
                         ldS T_api_Attr.rep a_1 w8.drew fun t98 =>
                         cond (!((t97.R == (0 : Int)) && ((t97.Kind == (0 : Int)) && (((t97.A.Fg == t98.Fg) && ((t97.A.Bg == t98.Bg) && ((t97.A.Flags == t98.Flags) && true))) && true))))
                           (K false w8.drew)
                           (I3 ((IntKind.i64.wrap (s_2.1 + (1 : Int))), ()) w8.drew))) fun J4 =>
                    cond (decide (s_2.1 < col))
                      (J4 (true, ()) w7)
                      (J4 ((decide (s_2.1 < (IntKind.i64.wrap (((l.n : Nat) : Int) - n)))), ()) w7))
                   (K true w7)) (0, ()) w6))) (0, ()) w3) fun J1 =>
     cond (decide (((l.n : Nat) : Int) > (120 : Int)))
       (K true w2)
       (c_phosphorref13_Right l w2 fun t19 w9 =>
        cond (!t19)
          (K true w9)
          (cond (decide (col < (0 : Int)))
             (K true w9)
             (cond (decide (col ≥ ((l.n : Nat) : Int)))
                (K true w9)
                (cond (decide (n < (1 : Int)))
                   (K true w9)
                   (cond (decide (n > ((l.n : Nat) : Int)))
                      (K true w9)
                      (J1 (()) w9)))))))

def an_phosphorlaw13_LineShifts : List Ann := [.none, .none, .none, .none, .join [] [8, 14, 15, 16, 17, 18, 19, 20, 21, 22, 23, 24, 25, 26, 27, 28, 29, 30, 31, 32, 33, 34, 35, 36, 37, 38, 39, 40, 41], .none, .none, .none, .none, .join [(9, (Kind.int .i64))] [8, 9, 42, 43, 44, 45, 46, 47, 48, 49, 50, 51, 52, 53], .none, .none, .none, .none, .none, .none, .none, .none, .none, .none, .none, .join [(11, (Kind.int .i64))] [8, 11, 68, 69, 70, 71, 72, 73, 74, 75, 76, 77, 78, 79, 80, 81, 82, 83, 84, 85, 86, 87, 88, 89, 90, 91, 92, 93, 94, 95, 96, 97, 98, 99, 100], .none, .none, .none, .join [(84, Kind.bool)] [74, 75, 76, 77, 78, 79, 80, 81, 82, 83, 84], .none, .none, .none, .none, .none]

theorem vc_phosphorlaw13_LineShifts (l : Slc) (col : Int) (n : Int) (a : T_api_Attr) (w : World) (K : Bool → World → Prop) :
    vcFn C (Tryd.f6.body.getD .skip) Tryd.f6.results.toList Tryd.f6.ntmps an_phosphorlaw13_LineShifts [Kind.bool] [(.slice l.a l.n l.c), (.int .i64 col), (.int .i64 n), (.agg #[(.int .i64 a.Fg), (.int .i64 a.Bg), (.int .i64 a.Flags)])] w (fun s w => K s.1 w) = sh_phosphorlaw13_LineShifts l col n a w K := by kernel_rfl

theorem call_phosphorlaw13_LineShifts (l : Slc) (col : Int) (n : Int) (a : T_api_Attr) {w : World} {K : Bool → World → Prop} (h : sh_phosphorlaw13_LineShifts l col n a w K) : c_phosphorlaw13_LineShifts l col n a w K := by
  rw [← vc_phosphorlaw13_LineShifts] at h
  refine Calls.mono (calls_of_vc C.plain_ok C.mixed Tryd.func6 rfl h) ?_
  rintro e w' ⟨s, rfl, hK⟩
  exact ⟨s.1, rfl, hK⟩

/-- phosphor/phosphorlaw13.LinePlays -/
def sh_phosphorlaw13_LinePlays (l : Slc) (acts : Slc) (w : World) (K : Bool → World → Prop) : Prop :=
  c_phosphorlaw13_known  w fun t11 w1 =>
  cond (!t11)
    (K false w1)
    (joinP (σ := Unit) (fun s w2 =>
       nw 42 [] w2 fun t21 w3 =>
       apK Tryd.prog #[24, 25] 24 (⟨(some t21), 0, 0⟩ : Slc) l w3 fun t23 w4 =>
       loopP (σ := Slc × Slc × Int × Unit) (fun I2 s_1 w5 =>
         cond (decide (s_1.2.2.1 < ((acts.n : Nat) : Int)))
           (nw 42 [] w5 fun t30 w6 =>
            apK Tryd.prog #[24, 25] 24 (⟨(some t30), 0, 0⟩ : Slc) s_1.1 w6 fun t32 w7 =>
            ixK acts s_1.2.2.1 8 fun t38 =>
            ldS T_phosphorlaw13_Act.rep t38 w7 fun t39 =>
            c_phosphorlaw13_step s_1.1 s_1.2.1 t39 w7 fun t40 t40_1 t40_2 w8 =>
            joinP (σ := Unit) (fun s_2 w9 =>
              joinP (σ := Unit) (fun s_3 w10 =>
                I2 (t40, t40_1, (IntKind.i64.wrap (s_1.2.2.1 + (1 : Int))), ()) w10) fun J4 =>
              ixK acts s_1.2.2.1 8 fun t83 =>
              ldI .i64 (t83.add 0) w9 fun t85 =>
              cond (decide (t85 ≥ (1 : Int)))
                (ixK acts s_1.2.2.1 8 fun t90 =>
                 ldI .i64 (t90.add 0) w9 fun t92 =>
                 cond (decide (t92 ≤ (6 : Int)))
                   (ixK acts s_1.2.2.1 8 fun t98 =>
                    ldI .i64 (t98.add 0) w9 fun t100 =>
                    cond (t100 != (5 : Int))
                      (c_line_Line_Right t40 w9 fun t105 w11 =>
                       cond (!t105)
                         (K false w11)
                         (J4 (()) w11))
                      (J4 (()) w9))
                   (J4 (()) w9))
                (J4 (()) w9)) fun J3 =>
            cond (!t40_2)
              (K false w8)
              (c_phosphorref13_Same s_1.1 t32 w8 fun t49 w12 =>
               cond (!t49)
                 (K false w12)
                 (c_phosphorref13_Same t40 t40_1 w12 fun t55 w13 =>
                  cond (!t55)
                    (K false w13)
                    (c_line_Line_Text t40 w13 fun t60 w14 =>
                     c_phosphorref13_Text t40_1 w14 fun t62 w15 =>
                     cond (!(t60.toList == t62.toList))
                       (K false w15)
                       (c_line_Line_Right t40 w15 fun t67 w16 =>
                        c_phosphorref13_Right t40_1 w16 fun t69 w17 =>
                        cond (!(t67 == t69))
                          (K false w17)
                          (c_line_Same t40 s_1.1 w17 fun t75 w18 =>
                           c_phosphorref13_Same t40_1 s_1.2.1 w18 fun t78 w19 =>
                           cond (!(t75 == t78))
                             (K false w19)
                             (J3 (()) w19)))))))
           (K true w5)) (l, t23, 0, ()) w4) fun J1 =>
     cond (decide (((l.n : Nat) : Int) > (120 : Int)))
       (K true w1)
       (cond (decide (((acts.n : Nat) : Int) > (120 : Int)))
          (K true w1)
          (J1 (()) w1)))

def an_phosphorlaw13_LinePlays : List Ann := [.none, .none, .none, .none, .join [] [4, 13, 14, 15, 16, 17, 18, 19, 20], .none, .none, .none, .none, .none, .join [(0, Kind.slice), (5, Kind.slice), (6, (Kind.int .i64))] [0, 4, 5, 6, 7, 8, 9, 10, 24, 25, 26, 27, 28, 29, 30, 31, 32, 33, 34, 35, 36, 37, 38, 39, 40, 41, 42, 43, 44, 45, 46, 47, 48, 49, 50, 51, 52, 53, 54, 55, 56, 57, 58, 59, 60, 61, 62, 63, 64, 65, 66, 67, 68, 69, 70, 71, 72, 73, 74, 75, 76, 77, 78, 79, 80, 81, 82, 83, 84, 85, 86, 87, 88, 89, 90, 91, 92, 93, 94, 95, 96, 97, 98, 99, 100, 101, 102, 103, 104, 105, 106, 107, 108, 109], .none, .none, .none, .none, .none, .join [] [4, 44, 45, 46, 47, 48, 49, 50, 51, 52, 53, 54, 55, 56, 57, 58, 59, 60, 61, 62, 63, 64, 65, 66, 67, 68, 69, 70, 71, 72, 73, 74, 75, 76, 77, 78, 79, 80], .none, .none, .join [] [4, 81, 82, 83, 84, 85, 86, 87, 88, 89, 90, 91, 92, 93, 94, 95, 96, 97, 98, 99, 100, 101, 102, 103, 104, 105, 106, 107], .none, .none, .none, .none]

theorem vc_phosphorlaw13_LinePlays (l : Slc) (acts : Slc) (w : World) (K : Bool → World → Prop) :
    vcFn C (Tryd.f7.body.getD .skip) Tryd.f7.results.toList Tryd.f7.ntmps an_phosphorlaw13_LinePlays [Kind.bool] [(.slice l.a l.n l.c), (.slice acts.a acts.n acts.c)] w (fun s w => K s.1 w) = sh_phosphorlaw13_LinePlays l acts w K := by kernel_rfl

theorem call_phosphorlaw13_LinePlays (l : Slc) (acts : Slc) {w : World} {K : Bool → World → Prop} (h : sh_phosphorlaw13_LinePlays l acts w K) : c_phosphorlaw13_LinePlays l acts w K := by
  rw [← vc_phosphorlaw13_LinePlays] at h
  refine Calls.mono (calls_of_vc C.plain_ok C.mixed Tryd.func7 rfl h) ?_
  rintro e w' ⟨s, rfl, hK⟩
  exact ⟨s.1, rfl, hK⟩

/-- phosphor/phosphorlaw16.GridNumbers -/
def sh_phosphorlaw16_GridNumbers (rows : Int) (back : Int) (n : Int) (w : World) (K : Bool → World → Prop) : Prop :=
  c_phosphorlaw16_known  w fun t16 w1 =>
  cond (!t16)
    (K false w1)
    (joinP (σ := Unit) (fun s w2 =>
       c_grid_New rows 4 back w2 fun t43 t43_1 w3 =>
       joinP (σ := Unit) (fun s_1 w4 =>
         loopP (σ := Int × Unit) (fun I3 s_2 w5 =>
           cond (decide (s_2.1 < n))
             (c_line_New 4 (⟨0, 0, 0⟩ : T_api_Attr) w5 fun t59 w6 =>
              c_line_Line_Put t59 0 (IntKind.i32.wrap (IntKind.i64.wrap (s_2.1 + (33 : Int)))) 1 (⟨0, 0, 0⟩ : T_api_Attr) w6 fun t64 t64_1 w7 =>
              c_grid_Grid_Set t43 (IntKind.i64.wrap (rows - (1 : Int))) t64 w7 fun t71 w8 =>
              cond (!t71)
                (K false w8)
                (c_grid_Grid_Scroll t43 0 rows 1 (⟨0, 0, 0⟩ : T_api_Attr) w8 fun t77 w9 =>
                 cond (t77 != (1 : Int))
                   (K false w9)
                   (I3 ((IntKind.i64.wrap (s_2.1 + (1 : Int))), ()) w9)))
             (loopP (σ := Int × Unit) (fun I4 s_3 w10 =>
                cond (decide (s_3.1 < n))
                  (joinP (σ := Slc × Bool × Unit) (fun s_4 w11 =>
                     c_grid_Grid_First t43 w11 fun t117 w12 =>
                     cond (decide ((IntKind.i64.wrap ((IntKind.i64.wrap (rows - (1 : Int))) + s_3.1)) ≥ t117))
                       (cond (!s_4.2.1)
                          (K false w12)
                          (cond (((s_4.1.n : Nat) : Int) != (4 : Int))
                             (K false w12)
                             (ixK s_4.1 0 5 fun t129 =>
                              ldI .i32 (t129.add 0) w12 fun t131 =>
                              cond (t131 != (IntKind.i32.wrap (IntKind.i64.wrap (s_3.1 + (33 : Int)))))
                                (K false w12)
                                (I4 ((IntKind.i64.wrap (s_3.1 + (1 : Int))), ()) w12))))
                       (I4 ((IntKind.i64.wrap (s_3.1 + (1 : Int))), ()) w12)) fun J5 =>
                   c_grid_Grid_Top t43 w10 fun t91 w13 =>
                   cond (decide ((IntKind.i64.wrap ((IntKind.i64.wrap (rows - (1 : Int))) + s_3.1)) ≥ t91))
                     (c_grid_Grid_Top t43 w13 fun t97 w14 =>
                      c_grid_Grid_Line t43 (IntKind.i64.wrap ((IntKind.i64.wrap ((IntKind.i64.wrap (rows - (1 : Int))) + s_3.1)) - t97)) w14 fun t99 t99_1 w15 =>
                      J5 (t99, t99_1, ()) w15)
                     (c_grid_Grid_First t43 w13 fun t104 w16 =>
                      cond (decide ((IntKind.i64.wrap ((IntKind.i64.wrap (rows - (1 : Int))) + s_3.1)) ≥ t104))
                        (c_grid_Grid_First t43 w16 fun t110 w17 =>
                         c_grid_Grid_Old t43 (IntKind.i64.wrap ((IntKind.i64.wrap ((IntKind.i64.wrap (rows - (1 : Int))) + s_3.1)) - t110)) w17 fun t112 t112_1 w18 =>
                         J5 (t112, t112_1, ()) w18)
                        (J5 (⟨none, 0, 0⟩, false, ()) w16)))
                  (c_grid_Grid_Top t43 w10 fun t139 w19 =>
                   cond (t139 == n)
                     (c_grid_Grid_Back t43 w19 fun t144 w20 =>
                      cond (decide (t144 ≤ back))
                        (c_grid_Grid_First t43 w20 fun t150 w21 =>
                         c_grid_Grid_Top t43 w21 fun t152 w22 =>
                         c_grid_Grid_Back t43 w22 fun t154 w23 =>
                         K (t150 == (IntKind.i64.wrap (t152 - t154))) w23)
                        (K false w20))
                     (K false w19))) (0, ()) w5)) (0, ()) w4) fun J2 =>
       cond (t43_1 != (0 : Int))
         (K false w3)
         (cond (t43.isNone)
            (K false w3)
            (J2 (()) w3))) fun J1 =>
     cond (decide (rows < (1 : Int)))
       (K true w1)
       (cond (decide (rows > (20 : Int)))
          (K true w1)
          (cond (decide (back < (0 : Int)))
             (K true w1)
             (cond (decide (back > (50 : Int)))
                (K true w1)
                (cond (decide (n < (1 : Int)))
                   (K true w1)
                   (cond (decide (n > (100 : Int)))
                      (K true w1)
                      (J1 (()) w1)))))))

def an_phosphorlaw16_GridNumbers : List Ann := [.none, .none, .none, .none, .join [] [6, 18, 19, 20, 21, 22, 23, 24, 25, 26, 27, 28, 29, 30, 31, 32, 33, 34, 35, 36, 37, 38, 39], .none, .none, .none, .join [] [6, 46, 47, 48, 49, 50, 51], .none, .none, .none, .none, .join [(9, (Kind.int .i64))] [6, 9, 10, 11, 52, 53, 54, 55, 56, 57, 58, 59, 60, 61, 62, 63, 64, 65, 66, 67, 68, 69, 70, 71, 72, 73, 74, 75, 76, 77, 78, 79], .none, .none, .none, .none, .none, .none, .none, .none, .join [(12, (Kind.int .i64))] [6, 12, 13, 14, 15, 80, 81, 82, 83, 84, 85, 86, 87, 88, 89, 90, 91, 92, 93, 94, 95, 96, 97, 98, 99, 100, 101, 102, 103, 104, 105, 106, 107, 108, 109, 110, 111, 112, 113, 114, 115, 116, 117, 118, 119, 120, 121, 122, 123, 124, 125, 126, 127, 128, 129, 130, 131, 132, 133, 134, 135, 136, 137], .none, .none, .none, .none, .none, .none, .join [(14, Kind.slice), (15, Kind.bool)] [14, 15, 89, 90, 91, 92, 93, 94, 95, 96, 97, 98, 99, 100, 101, 102, 103, 104, 105, 106, 107, 108, 109, 110, 111, 112, 113, 114], .none, .none, .none, .none, .none]

theorem vc_phosphorlaw16_GridNumbers (rows : Int) (back : Int) (n : Int) (w : World) (K : Bool → World → Prop) :
    vcFn C (Tryd.f8.body.getD .skip) Tryd.f8.results.toList Tryd.f8.ntmps an_phosphorlaw16_GridNumbers [Kind.bool] [(.int .i64 rows), (.int .i64 back), (.int .i64 n)] w (fun s w => K s.1 w) = sh_phosphorlaw16_GridNumbers rows back n w K := by kernel_rfl

theorem call_phosphorlaw16_GridNumbers (rows : Int) (back : Int) (n : Int) {w : World} {K : Bool → World → Prop} (h : sh_phosphorlaw16_GridNumbers rows back n w K) : c_phosphorlaw16_GridNumbers rows back n w K := by
  rw [← vc_phosphorlaw16_GridNumbers] at h
  refine Calls.mono (calls_of_vc C.plain_ok C.mixed Tryd.func8 rfl h) ?_
  rintro e w' ⟨s, rfl, hK⟩
  exact ⟨s.1, rfl, hK⟩

/-- phosphor/phosphorlaw16.GridScrolls -/
def sh_phosphorlaw16_GridScrolls (rows : Int) (top : Int) (past : Int) (n : Int) (w : World) (K : Bool → World → Prop) : Prop :=
  c_phosphorlaw16_known  w fun t20 w1 =>
  cond (!t20)
    (K false w1)
    (joinP (σ := Unit) (fun s w2 =>
       c_grid_New rows 2 5 w2 fun t52 t52_1 w3 =>
       joinP (σ := Unit) (fun s_1 w4 =>
         loopP (σ := Int × Unit) (fun I3 s_2 w5 =>
           cond (decide (s_2.1 < rows))
             (c_line_New 2 (⟨0, 0, 0⟩ : T_api_Attr) w5 fun t68 w6 =>
              c_line_Line_Put t68 0 (IntKind.i32.wrap (IntKind.i64.wrap (s_2.1 + (65 : Int)))) 1 (⟨0, 0, 0⟩ : T_api_Attr) w6 fun t73 t73_1 w7 =>
              c_grid_Grid_Set t52 s_2.1 t73 w7 fun t79 w8 =>
              I3 ((IntKind.i64.wrap (s_2.1 + (1 : Int))), ()) w8)
             (c_grid_Grid_Scroll t52 top past n (⟨0, 0, 0⟩ : T_api_Attr) w5 fun t85 w9 =>
              c_grid_Grid_Scroll t52 top past (IntKind.i64.wrap ((0 : Int) - n)) (⟨0, 0, 0⟩ : T_api_Attr) w9 fun t92 w10 =>
              joinP (σ := Unit) (fun s_3 w11 =>
                loopP (σ := Int × Unit) (fun I5 s_4 w12 =>
                  cond (decide (s_4.1 < rows))
                    (c_grid_Grid_Line t52 s_4.1 w12 fun t117 t117_1 w13 =>
                     joinP (σ := Bool × Unit) (fun s_5 w14 =>
                       cond (((t117.n : Nat) : Int) != (2 : Int))
                         (K false w14)
                         (ixK t117 0 5 fun t140 =>
                          ldI .i32 (t140.add 0) w14 fun t142 =>
                          cond (!((t142 == (IntKind.i32.wrap (IntKind.i64.wrap (s_4.1 + (65 : Int))))) == s_5.1))
                            (K false w14)
                            (cond (!s_5.1)
                               (ixK t117 0 5 fun t155 =>
                                ldI .i32 (t155.add 0) w14 fun t157 =>
                                cond (t157 != (0 : Int))
                                  (K false w14)
                                  (I5 ((IntKind.i64.wrap (s_4.1 + (1 : Int))), ()) w14))
                               (I5 ((IntKind.i64.wrap (s_4.1 + (1 : Int))), ()) w14)))) fun J6 =>
                     cond (decide (s_4.1 < top))
                       (J6 (true, ()) w13)
                       (cond (decide (s_4.1 ≥ past))
                          (J6 (true, ()) w13)
                          (J6 ((decide ((IntKind.i64.wrap (s_4.1 - top)) ≥ n)), ()) w13)))
                    (K true w12)) (0, ()) w11) fun J4 =>
              cond (t85 != (0 : Int))
                (K false w10)
                (cond (t92 != (0 : Int))
                   (K false w10)
                   (c_grid_Grid_Top t52 w10 fun t101 w15 =>
                    cond (t101 != (0 : Int))
                      (K false w15)
                      (c_grid_Grid_Back t52 w15 fun t106 w16 =>
                       cond (t106 != (0 : Int))
                         (K false w16)
                         (J4 (()) w16)))))) (0, ()) w4) fun J2 =>
       cond (t52_1 != (0 : Int))
         (K false w3)
         (cond (t52.isNone)
            (K false w3)
            (J2 (()) w3))) fun J1 =>
     cond (decide (rows < (1 : Int)))
       (K true w1)
       (cond (decide (rows > (30 : Int)))
          (K true w1)
          (cond (decide (top < (1 : Int)))
             (K true w1)
             (cond (decide (past ≤ top))
                (K true w1)
                (cond (decide (past > rows))
                   (K true w1)
                   (cond (decide (n < (1 : Int)))
                      (K true w1)
                      (cond (decide (n > (40 : Int)))
                         (K true w1)
                         (J1 (()) w1))))))))

def an_phosphorlaw16_GridScrolls : List Ann := [.none, .none, .none, .none, .join [] [8, 22, 23, 24, 25, 26, 27, 28, 29, 30, 31, 32, 33, 34, 35, 36, 37, 38, 39, 40, 41, 42, 43, 44, 45, 46, 47, 48, 49], .none, .none, .none, .join [] [8, 55, 56, 57, 58, 59, 60], .none, .none, .none, .none, .join [(11, (Kind.int .i64))] [11, 12, 13, 61, 62, 63, 64, 65, 66, 67, 68, 69, 70, 71, 72, 73, 74, 75, 76, 77, 78, 79], .none, .none, .none, .none, .none, .none, .join [] [8, 93, 94, 95, 96, 97, 98, 99, 100, 101, 102, 103, 104, 105, 106, 107, 108], .none, .none, .none, .none, .join [(16, (Kind.int .i64))] [8, 16, 17, 18, 19, 109, 110, 111, 112, 113, 114, 115, 116, 117, 118, 119, 120, 121, 122, 123, 124, 125, 126, 127, 128, 129, 130, 131, 132, 133, 134, 135, 136, 137, 138, 139, 140, 141, 142, 143, 144, 145, 146, 147, 148, 149, 150, 151, 152, 153, 154, 155, 156, 157, 158, 159, 160], .none, .none, .none, .none, .join [(19, Kind.bool)] [19, 120, 121, 122, 123, 124, 125, 126, 127, 128, 129, 130, 131, 132, 133, 134], .none, .none, .none]

theorem vc_phosphorlaw16_GridScrolls (rows : Int) (top : Int) (past : Int) (n : Int) (w : World) (K : Bool → World → Prop) :
    vcFn C (Tryd.f9.body.getD .skip) Tryd.f9.results.toList Tryd.f9.ntmps an_phosphorlaw16_GridScrolls [Kind.bool] [(.int .i64 rows), (.int .i64 top), (.int .i64 past), (.int .i64 n)] w (fun s w => K s.1 w) = sh_phosphorlaw16_GridScrolls rows top past n w K := by kernel_rfl

theorem call_phosphorlaw16_GridScrolls (rows : Int) (top : Int) (past : Int) (n : Int) {w : World} {K : Bool → World → Prop} (h : sh_phosphorlaw16_GridScrolls rows top past n w K) : c_phosphorlaw16_GridScrolls rows top past n w K := by
  rw [← vc_phosphorlaw16_GridScrolls] at h
  refine Calls.mono (calls_of_vc C.plain_ok C.mixed Tryd.func9 rfl h) ?_
  rintro e w' ⟨s, rfl, hK⟩
  exact ⟨s.1, rfl, hK⟩

/-- phosphor/phosphorlaw16.GridShrinks -/
def sh_phosphorlaw16_GridShrinks (rows : Int) (fewer : Int) (row : Int) (w : World) (K : Bool → World → Prop) : Prop :=
  c_phosphorlaw16_known  w fun t17 w1 =>
  cond (!t17)
    (K false w1)
    (joinP (σ := Unit) (fun s w2 =>
       c_grid_New rows 2 50 w2 fun t45 t45_1 w3 =>
       joinP (σ := Unit) (fun s_1 w4 =>
         loopP (σ := Int × Unit) (fun I3 s_2 w5 =>
           cond (decide (s_2.1 < rows))
             (c_line_New 2 (⟨0, 0, 0⟩ : T_api_Attr) w5 fun t61 w6 =>
              c_line_Line_Put t61 0 (IntKind.i32.wrap (IntKind.i64.wrap ((65 : Int) + s_2.1))) 1 (⟨0, 0, 0⟩ : T_api_Attr) w6 fun t66 t66_1 w7 =>
              c_grid_Grid_Set t45 s_2.1 t66 w7 fun t72 w8 =>
              I3 ((IntKind.i64.wrap (s_2.1 + (1 : Int))), ()) w8)
             (c_grid_Grid_Resize t45 fewer 2 row w5 fun t77 t77_1 w9 =>
              joinP (σ := Int × Unit) (fun s_3 w10 =>
                c_grid_Grid_Line t45 t77 w10 fun t90 t90_1 w11 =>
                cond (t77_1 == (0 : Int))
                  (cond (t77 == (IntKind.i64.wrap (row - s_3.1)))
                     (cond t90_1
                        (ixK t90 0 5 fun t107 =>
                         ldI .i32 (t107.add 0) w11 fun t109 =>
                         cond (t109 == (IntKind.i32.wrap (IntKind.i64.wrap ((65 : Int) + row))))
                           (c_grid_Grid_Top t45 w11 fun t117 w12 =>
                            cond (t117 == s_3.1)
                              (c_grid_Grid_Back t45 w12 fun t123 w13 =>
                               K (t123 == s_3.1) w13)
                              (K false w12))
                           (K false w11))
                        (K false w11))
                     (K false w11))
                  (K false w11)) fun J4 =>
              cond (decide (row ≥ fewer))
                (J4 ((IntKind.i64.wrap ((IntKind.i64.wrap (row + (1 : Int))) - fewer)), ()) w9)
                (J4 (0, ()) w9))) (0, ()) w4) fun J2 =>
       cond (t45_1 != (0 : Int))
         (K false w3)
         (cond (t45.isNone)
            (K false w3)
            (J2 (()) w3))) fun J1 =>
     cond (decide (rows < (1 : Int)))
       (K true w1)
       (cond (decide (rows > (30 : Int)))
          (K true w1)
          (cond (decide (fewer < (1 : Int)))
             (K true w1)
             (cond (decide (fewer > rows))
                (K true w1)
                (cond (decide (row < (0 : Int)))
                   (K true w1)
                   (cond (decide (row ≥ rows))
                      (K true w1)
                      (J1 (()) w1)))))))

def an_phosphorlaw16_GridShrinks : List Ann := [.none, .none, .none, .none, .join [] [6, 19, 20, 21, 22, 23, 24, 25, 26, 27, 28, 29, 30, 31, 32, 33, 34, 35, 36, 37, 38, 39, 40, 41, 42], .none, .none, .none, .join [] [6, 48, 49, 50, 51, 52, 53], .none, .none, .none, .none, .join [(9, (Kind.int .i64))] [9, 10, 11, 54, 55, 56, 57, 58, 59, 60, 61, 62, 63, 64, 65, 66, 67, 68, 69, 70, 71, 72], .none, .none, .none, .none, .none, .none, .join [(14, (Kind.int .i64))] [14, 80, 81, 82, 83, 84, 85, 86], .none, .none, .none]

theorem vc_phosphorlaw16_GridShrinks (rows : Int) (fewer : Int) (row : Int) (w : World) (K : Bool → World → Prop) :
    vcFn C (Tryd.f10.body.getD .skip) Tryd.f10.results.toList Tryd.f10.ntmps an_phosphorlaw16_GridShrinks [Kind.bool] [(.int .i64 rows), (.int .i64 fewer), (.int .i64 row)] w (fun s w => K s.1 w) = sh_phosphorlaw16_GridShrinks rows fewer row w K := by kernel_rfl

theorem call_phosphorlaw16_GridShrinks (rows : Int) (fewer : Int) (row : Int) {w : World} {K : Bool → World → Prop} (h : sh_phosphorlaw16_GridShrinks rows fewer row w K) : c_phosphorlaw16_GridShrinks rows fewer row w K := by
  rw [← vc_phosphorlaw16_GridShrinks] at h
  refine Calls.mono (calls_of_vc C.plain_ok C.mixed Tryd.func10 rfl h) ?_
  rintro e w' ⟨s, rfl, hK⟩
  exact ⟨s.1, rfl, hK⟩

/-- phosphor/phosphorlaw16.GridResizes -/
def sh_phosphorlaw16_GridResizes (rows : Int) (cols : Int) (more : Int) (wider : Int) (row : Int) (w : World) (K : Bool → World → Prop) : Prop :=
  c_phosphorlaw16_known  w fun t24 w1 =>
  cond (!t24)
    (K false w1)
    (joinP (σ := Unit) (fun s w2 =>
       c_grid_New rows cols 3 w2 fun t68 t68_1 w3 =>
       joinP (σ := Unit) (fun s_1 w4 =>
         loopP (σ := Int × Unit) (fun I3 s_2 w5 =>
           cond (decide (s_2.1 < rows))
             (cols ≠ 0 ∧
              c_line_New cols (⟨0, 0, 0⟩ : T_api_Attr) w5.drew fun t85 w6 =>
              c_line_Line_Put t85 (s_2.1.tmod cols) (IntKind.i32.wrap (IntKind.i64.wrap ((65 : Int) + s_2.1))) 1 (⟨0, 0, 0⟩ : T_api_Attr) w6 fun t93 t93_1 w7 =>
              c_grid_Grid_Set t68 s_2.1 t93 w7 fun t99 w8 =>
              I3 ((IntKind.i64.wrap (s_2.1 + (1 : Int))), ()) w8)
             (c_grid_Grid_Text t68 w5 fun t101 w9 =>
              c_grid_Grid_Resize t68 (IntKind.i64.wrap (rows + more)) (IntKind.i64.wrap (cols + wider)) row w9 fun t111 t111_1 w10 =>
              c_grid_Grid_Text t68 w10 fun t115 w11 =>
              c_grid_Grid_Resize t68 rows cols row w11 fun t121 t121_1 w12 =>
              c_grid_Grid_Text t68 w12 fun t125 w13 =>
              joinP (σ := Unit) (fun s_3 w14 =>
                loopP (σ := Int × Unit) (fun I5 s_4 w15 =>
                  cond (decide (s_4.1 < ((t115.n : Nat) : Int)))
                    (cond (decide (s_4.1 < rows))
                       (ixK t115 s_4.1 1 fun t173 =>
                        ldStr t173 w15.drew fun t174 =>
                        ixK t101 s_4.1 1 fun t177 =>
                        ldStr t177 w15.drew fun t178 =>
                        cond (!(t174.toList == t178.toList))
                          (K false w15.drew)
                          (ixK t125 s_4.1 1 fun t183 =>
                           ldStr t183 w15.drew fun t184 =>
                           ixK t101 s_4.1 1 fun t187 =>
                           ldStr t187 w15.drew fun t188 =>
                           cond (!(t184.toList == t188.toList))
                             (K false w15.drew)
                             (cond (decide (s_4.1 ≥ rows))
                                (ixK t115 s_4.1 1 fun t199 =>
                                 ldStr t199 w15.drew fun t200 =>
                                 cond (!(t200.toList == (⟨#[]⟩ : ByteArray).toList))
                                   (K false w15.drew)
                                   (I5 ((IntKind.i64.wrap (s_4.1 + (1 : Int))), ()) w15.drew))
                                (I5 ((IntKind.i64.wrap (s_4.1 + (1 : Int))), ()) w15.drew))))
                       (cond (decide (s_4.1 ≥ rows))
                          (ixK t115 s_4.1 1 fun t199_1 =>
                           ldStr t199_1 w15.drew fun t200_1 =>
                           cond (!(t200_1.toList == (⟨#[]⟩ : ByteArray).toList))
                             (K false w15.drew)
                             (I5 ((IntKind.i64.wrap (s_4.1 + (1 : Int))), ()) w15.drew))
                          (I5 ((IntKind.i64.wrap (s_4.1 + (1 : Int))), ()) w15.drew)))
                    (K true w15)) (0, ()) w14) fun J4 =>
              cond (t111_1 != (0 : Int))
                (K false w13)
                (cond (t121_1 != (0 : Int))
                   (K false w13)
                   (cond (t111 != row)
                      (K false w13)
                      (cond (t121 != row)
                         (K false w13)
                         (cond (((t115.n : Nat) : Int) != (IntKind.i64.wrap (rows + more)))
                            (K false w13)
                            (cond (((t125.n : Nat) : Int) != rows)
                               (K false w13)
                               (c_grid_Grid_Back t68 w13 fun t158 w16 =>
                                cond (t158 != (0 : Int))
                                  (K false w16)
                                  (J4 (()) w16))))))))) (0, ()) w4) fun J2 =>
       cond (t68_1 != (0 : Int))
         (K false w3)
         (cond (t68.isNone)
            (K false w3)
            (J2 (()) w3))) fun J1 =>
     cond (decide (rows < (1 : Int)))
       (K true w1)
       (cond (decide (rows > (20 : Int)))
          (K true w1)
          (cond (decide (cols < (1 : Int)))
             (K true w1)
             (cond (decide (cols > (20 : Int)))
                (K true w1)
                (cond (decide (more < (0 : Int)))
                   (K true w1)
                   (cond (decide (more > (20 : Int)))
                      (K true w1)
                      (cond (decide (wider < (0 : Int)))
                         (K true w1)
                         (cond (decide (wider > (20 : Int)))
                            (K true w1)
                            (cond (decide (row < (0 : Int)))
                               (K true w1)
                               (cond (decide (row ≥ rows))
                                  (K true w1)
                                  (J1 (()) w1)))))))))))

def an_phosphorlaw16_GridResizes : List Ann := [.none, .none, .none, .none, .join [] [10, 26, 27, 28, 29, 30, 31, 32, 33, 34, 35, 36, 37, 38, 39, 40, 41, 42, 43, 44, 45, 46, 47, 48, 49, 50, 51, 52, 53, 54, 55, 56, 57, 58, 59, 60, 61, 62, 63, 64], .none, .none, .none, .join [] [10, 71, 72, 73, 74, 75, 76], .none, .none, .none, .none, .join [(13, (Kind.int .i64))] [13, 14, 15, 77, 78, 79, 80, 81, 82, 83, 84, 85, 86, 87, 88, 89, 90, 91, 92, 93, 94, 95, 96, 97, 98, 99], .none, .none, .none, .none, .none, .none, .none, .none, .none, .join [] [10, 126, 127, 128, 129, 130, 131, 132, 133, 134, 135, 136, 137, 138, 139, 140, 141, 142, 143, 144, 145, 146, 147, 148, 149, 150, 151, 152, 153, 154, 155, 156, 157, 158, 159, 160], .none, .none, .none, .none, .join [(23, (Kind.int .i64))] [10, 23, 161, 162, 163, 164, 165, 166, 167, 168, 169, 170, 171, 172, 173, 174, 175, 176, 177, 178, 179, 180, 181, 182, 183, 184, 185, 186, 187, 188, 189, 190, 191, 192, 193, 194, 195, 196, 197, 198, 199, 200, 201, 202, 203], .none, .none, .none, .none, .none, .none]

theorem vc_phosphorlaw16_GridResizes (rows : Int) (cols : Int) (more : Int) (wider : Int) (row : Int) (w : World) (K : Bool → World → Prop) :
    vcFn C (Tryd.f11.body.getD .skip) Tryd.f11.results.toList Tryd.f11.ntmps an_phosphorlaw16_GridResizes [Kind.bool] [(.int .i64 rows), (.int .i64 cols), (.int .i64 more), (.int .i64 wider), (.int .i64 row)] w (fun s w => K s.1 w) = sh_phosphorlaw16_GridResizes rows cols more wider row w K := by kernel_rfl

theorem call_phosphorlaw16_GridResizes (rows : Int) (cols : Int) (more : Int) (wider : Int) (row : Int) {w : World} {K : Bool → World → Prop} (h : sh_phosphorlaw16_GridResizes rows cols more wider row w K) : c_phosphorlaw16_GridResizes rows cols more wider row w K := by
  rw [← vc_phosphorlaw16_GridResizes] at h
  refine Calls.mono (calls_of_vc C.plain_ok C.mixed Tryd.func11 rfl h) ?_
  rintro e w' ⟨s, rfl, hK⟩
  exact ⟨s.1, rfl, hK⟩

/-- phosphor/phosphorlaw16.GridPlays -/
def sh_phosphorlaw16_GridPlays (rows : Int) (cols : Int) (back : Int) (l : Slc) (w : World) (K : Bool → World → Prop) : Prop :=
  c_phosphorlaw16_known  w fun t19 w1 =>
  cond (!t19)
    (K false w1)
    (joinP (σ := Unit) (fun s w2 =>
       c_grid_New rows cols back w2 fun t50 t50_1 w3 =>
       c_phosphorref16_New rows cols back w3 fun t57 t57_1 w4 =>
       joinP (σ := Unit) (fun s_1 w5 =>
         cond (t50.isNone)
           (K true w5)
           (loopP (σ := Int × Unit) (fun I3 s_2 w6 =>
              cond (decide (s_2.1 < ((l.n : Nat) : Int)))
                (ixK l s_2.1 10 fun t80 =>
                 ldS T_phosphorlaw16_Act.rep t80 w6 fun t81 =>
                 nw 80 [(.int .i64 0), (.int .i64 0), (.slice none 0 0), (.int .i64 0), (.int .i64 0), (.int .i64 0), (.int .i64 0), (.int .i64 0), (.int .i64 0), (.int .i64 0)] w6 fun a w7 =>
                 stK a (T_phosphorlaw16_Act.rep.cells t81) w7 fun w8 =>
                 joinP (σ := Unit) (fun s_3 w9 =>
                   ldI .i64 (a.add 1) w9 fun t197 =>
                   c_phosphorlaw16_looks t50 t57 t197 w9 fun t198 w10 =>
                   cond (!t198)
                     (K false w10)
                     (I3 ((IntKind.i64.wrap (s_2.1 + (1 : Int))), ()) w10)) fun J4 =>
                 ldI .i64 (a.add 0) w8 fun t83 =>
                 cond (t83 == (1 : Int))
                   (ldI .i64 (a.add 1) w8.drew fun t88 =>
                    ldSl (a.add 2) w8.drew fun t90 =>
                    ldI .i64 (a.add 1) w8.drew fun t94 =>
                    ldSl (a.add 2) w8.drew fun t96 =>
                    c_grid_Grid_Set t50 t88 t90 w8.drew fun t91 w11 =>
                    World.cell? w11 (a.add 2) = some (.slice t96.a t96.n t96.c) ∧
                    World.cell? w11 (a.add 1) = some (.int .i64 t94) ∧
                    c_phosphorref16_Grid_Set t57 t94 t96 w11 fun t97 w12 =>
                    cond (!(t91 == t97))
                      (K false w12)
                      (J4 (()) w12))
                   (cond (t83 == (2 : Int))
                      (ldI .i64 (a.add 1) w8.drew fun t103 =>
                       ldI .i64 (a.add 3) w8.drew fun t105 =>
                       ldI .i64 (a.add 4) w8.drew fun t107 =>
                       ldS T_api_Attr.rep (a.add 5) w8.drew fun t109 =>
                       ldI .i64 (a.add 1) w8.drew fun t113 =>
                       ldI .i64 (a.add 3) w8.drew fun t115 =>
                       ldI .i64 (a.add 4) w8.drew fun t117 =>
                       ldS T_api_Attr.rep (a.add 5) w8.drew fun t119 =>
                       c_grid_Grid_Scroll t50 t103 t105 t107 t109 w8.drew fun t110 w13 =>
                       cellsAt w13 (a.add 5) (T_api_Attr.rep.cells t119) ∧
                       World.cell? w13 (a.add 4) = some (.int .i64 t117) ∧
                       World.cell? w13 (a.add 3) = some (.int .i64 t115) ∧
                       World.cell? w13 (a.add 1) = some (.int .i64 t113) ∧
                       c_phosphorref16_Grid_Scroll t57 t113 t115 t117 t119 w13 fun t120 w14 =>
                       cond (t110 != t120)
                         (K false w14)
                         (J4 (()) w14))
                      (cond (t83 == (3 : Int))
                         (ldI .i64 (a.add 1) w8.drew fun t126 =>
                          ldI .i64 (a.add 3) w8.drew fun t128 =>
                          ldI .i64 (a.add 4) w8.drew fun t130 =>
                          ldS T_api_Attr.rep (a.add 5) w8.drew fun t132 =>
                          ldI .i64 (a.add 1) w8.drew fun t136 =>
                          ldI .i64 (a.add 3) w8.drew fun t138 =>
                          ldI .i64 (a.add 4) w8.drew fun t140 =>
                          ldS T_api_Attr.rep (a.add 5) w8.drew fun t142 =>
                          c_grid_Grid_Fill t50 t126 t128 t130 t132 w8.drew fun t133 w15 =>
                          cellsAt w15 (a.add 5) (T_api_Attr.rep.cells t142) ∧
                          World.cell? w15 (a.add 4) = some (.int .i64 t140) ∧
                          World.cell? w15 (a.add 3) = some (.int .i64 t138) ∧
                          World.cell? w15 (a.add 1) = some (.int .i64 t136) ∧
                          c_phosphorref16_Grid_Fill t57 t136 t138 t140 t142 w15 fun t143 w16 =>
                          cond (!(t133 == t143))
                            (K false w16)
                            (J4 (()) w16))
                         (cond (t83 == (4 : Int))
                            (ldI .i64 (a.add 8) w8 fun t150 =>
                             ldI .i64 (a.add 9) w8 fun t152 =>
                             ldI .i64 (a.add 1) w8 fun t154 =>
                             c_grid_Grid_Resize t50 t150 t152 t154 w8 fun t155 t155_1 w17 =>
                             ldI .i64 (a.add 8) w17 fun t161 =>
                             ldI .i64 (a.add 9) w17 fun t163 =>
                             ldI .i64 (a.add 1) w17 fun t165 =>
                             c_phosphorref16_Grid_Resize t57 t161 t163 t165 w17 fun t166 t166_1 w18 =>
                             cond (t155 != t166)
                               (K false w18)
                               (cond (t155_1 != t166_1)
                                  (K false w18)
                                  (J4 (()) w18)))
                            (cond (t83 == (5 : Int))
                               (ldS T_api_Attr.rep (a.add 5) w8 fun t181 =>
                                c_grid_Grid_Clear t50 t181 w8 fun w19 =>
                                ldS T_api_Attr.rep (a.add 5) w19 fun t185 =>
                                c_phosphorref16_Grid_Clear t57 t185 w19 fun w20 =>
                                J4 (()) w20)
                               (cond (t83 == (6 : Int))
                                  (c_grid_Grid_Forget t50 w8 fun w21 =>
                                   onPtr t57 fun t192 =>
                                   stK (t192.add 4) [(.slice none 0 0)] w21 fun w22 =>
                                   J4 (()) w22)
                                  (J4 (()) w8)))))))
                (K true w6)) (0, ()) w5)) fun J2 =>
       cond (t50_1 != t57_1)
         (K false w4)
         (cond (!((t50.isNone) == (t57.isNone)))
            (K false w4)
            (J2 (()) w4))) fun J1 =>
     c_phosphorlaw16_few l w1 fun t22 w23 =>
     cond (!t22)
       (K true w23)
       (cond (decide (rows > (0 : Int)))
          (cond (decide (cols > (0 : Int)))
             (cond (decide (rows ≤ (1000 : Int)))
                (cond (decide (cols ≤ (1000 : Int)))
                   (cond (decide ((IntKind.i64.wrap (rows * cols)) > (2000 : Int)))
                      (K true w23)
                      (J1 (()) w23))
                   (J1 (()) w23))
                (J1 (()) w23))
             (J1 (()) w23))
          (J1 (()) w23)))

def an_phosphorlaw16_GridPlays : List Ann := [.none, .none, .none, .none, .join [] [8, 21, 22, 23, 24, 25, 26, 27, 28, 29, 30, 31, 32, 33, 34, 35, 36, 37, 38, 39, 40, 41, 42, 43, 44, 45], .none, .none, .none, .none, .join [] [8, 60, 61, 62, 63, 64, 65, 66, 67, 68, 69], .none, .none, .none, .none, .none, .none, .none, .join [(13, (Kind.int .i64))] [8, 13, 14, 15, 16, 17, 18, 72, 73, 74, 75, 76, 77, 78, 79, 80, 81, 82, 83, 84, 85, 86, 87, 88, 89, 90, 91, 92, 93, 94, 95, 96, 97, 98, 99, 100, 101, 102, 103, 104, 105, 106, 107, 108, 109, 110, 111, 112, 113, 114, 115, 116, 117, 118, 119, 120, 121, 122, 123, 124, 125, 126, 127, 128, 129, 130, 131, 132, 133, 134, 135, 136, 137, 138, 139, 140, 141, 142, 143, 144, 145, 146, 147, 148, 149, 150, 151, 152, 153, 154, 155, 156, 157, 158, 159, 160, 161, 162, 163, 164, 165, 166, 167, 168, 169, 170, 171, 172, 173, 174, 175, 176, 177, 178, 179, 180, 181, 182, 183, 184, 185, 186, 187, 188, 189, 190, 191, 192, 193, 194, 195, 196, 197, 198, 199], .none, .none, .none, .none, .join [] [8, 15, 16, 17, 18, 82, 83, 84, 85, 86, 87, 88, 89, 90, 91, 92, 93, 94, 95, 96, 97, 98, 99, 100, 101, 102, 103, 104, 105, 106, 107, 108, 109, 110, 111, 112, 113, 114, 115, 116, 117, 118, 119, 120, 121, 122, 123, 124, 125, 126, 127, 128, 129, 130, 131, 132, 133, 134, 135, 136, 137, 138, 139, 140, 141, 142, 143, 144, 145, 146, 147, 148, 149, 150, 151, 152, 153, 154, 155, 156, 157, 158, 159, 160, 161, 162, 163, 164, 165, 166, 167, 168, 169, 170, 171, 172, 173, 174, 175, 176, 177, 178, 179, 180, 181, 182, 183, 184, 185, 186, 187, 188, 189, 190, 191, 192, 193], .none, .none, .none, .none, .none, .none, .none, .none, .none, .none, .none, .none, .none, .none, .none, .none, .none, .none, .none, .none, .none, .none]

theorem vc_phosphorlaw16_GridPlays (rows : Int) (cols : Int) (back : Int) (l : Slc) (w : World) (K : Bool → World → Prop) :
    vcFn C (Tryd.f12.body.getD .skip) Tryd.f12.results.toList Tryd.f12.ntmps an_phosphorlaw16_GridPlays [Kind.bool] [(.int .i64 rows), (.int .i64 cols), (.int .i64 back), (.slice l.a l.n l.c)] w (fun s w => K s.1 w) = sh_phosphorlaw16_GridPlays rows cols back l w K := by kernel_rfl

theorem call_phosphorlaw16_GridPlays (rows : Int) (cols : Int) (back : Int) (l : Slc) {w : World} {K : Bool → World → Prop} (h : sh_phosphorlaw16_GridPlays rows cols back l w K) : c_phosphorlaw16_GridPlays rows cols back l w K := by
  rw [← vc_phosphorlaw16_GridPlays] at h
  refine Calls.mono (calls_of_vc C.plain_ok C.mixed Tryd.func12 rfl h) ?_
  rintro e w' ⟨s, rfl, hK⟩
  exact ⟨s.1, rfl, hK⟩

/-- phosphor/phosphorlaw13.known -/
def sh_phosphorlaw13_known  (w : World) (K : Bool → World → Prop) : Prop :=
  c_line_New 4 (⟨0, 0, 0⟩ : T_api_Attr) w fun t7 w1 =>
  c_line_Line_Put t7 1 19968 2 (⟨0, 0, 0⟩ : T_api_Attr) w1 fun t9 t9_1 w2 =>
  c_line_Line_Put t9 2 120 1 (⟨1, 0, 0⟩ : T_api_Attr) w2 fun t15 t15_1 w3 =>
  cond t9_1
    (cond t15_1
       (c_line_Line_Text t9 w3 fun t24 w4 =>
        cond (t24.toList == (⟨#[32, 228, 184, 128]⟩ : ByteArray).toList)
          (c_line_Line_Text t15 w4 fun t29 w5 =>
           cond (t29.toList == (⟨#[32, 32, 120]⟩ : ByteArray).toList)
             (cond (((t15.n : Nat) : Int) == (4 : Int))
                (c_line_Line_Right t15 w5 fun t39 w6 =>
                 cond t39
                   (ixK t15 1 5 fun t43 =>
                    ldI .i64 (t43.add 1) w6 fun t45 =>
                    K (t45 == (0 : Int)) w6)
                   (K false w6))
                (K false w5))
             (K false w5))
          (K false w4))
       (K false w3))
    (K false w3)

def an_phosphorlaw13_known : List Ann := [.none, .none, .none, .none]

theorem vc_phosphorlaw13_known  (w : World) (K : Bool → World → Prop) :
    vcFn C (Tryd.f13.body.getD .skip) Tryd.f13.results.toList Tryd.f13.ntmps an_phosphorlaw13_known [Kind.bool] [] w (fun s w => K s.1 w) = sh_phosphorlaw13_known  w K := by kernel_rfl

theorem call_phosphorlaw13_known  {w : World} {K : Bool → World → Prop} (h : sh_phosphorlaw13_known  w K) : c_phosphorlaw13_known  w K := by
  rw [← vc_phosphorlaw13_known] at h
  refine Calls.mono (calls_of_vc C.plain_ok C.mixed Tryd.func13 rfl h) ?_
  rintro e w' ⟨s, rfl, hK⟩
  exact ⟨s.1, rfl, hK⟩

/-- phosphor/line.New -/
def sh_line_New (cols : Int) (a : T_api_Attr) (w : World) (K : Slc → World → Prop) : Prop :=
  nw 23 (T_api_Attr.rep.cells a) w fun a_1 w1 =>
  joinP (σ := Unit) (fun s w2 =>
    ldS T_api_Attr.rep a_1 w2 fun t12 =>
    c_line_blanks cols t12 w2 fun t13 w3 =>
    K t13 w3) fun J1 =>
  cond (decide (cols < (0 : Int)))
    (K (⟨none, 0, 0⟩ : Slc) w1)
    (cond (decide (cols > (1000 : Int)))
       (K (⟨none, 0, 0⟩ : Slc) w1)
       (J1 (()) w1))

def an_line_New : List Ann := [.none, .join [] [4, 5, 6, 7, 8, 9, 10], .none, .none, .none]

theorem vc_line_New (cols : Int) (a : T_api_Attr) (w : World) (K : Slc → World → Prop) :
    vcFn C (Tryd.f14.body.getD .skip) Tryd.f14.results.toList Tryd.f14.ntmps an_line_New [Kind.slice] [(.int .i64 cols), (.agg #[(.int .i64 a.Fg), (.int .i64 a.Bg), (.int .i64 a.Flags)])] w (fun s w => K s.1 w) = sh_line_New cols a w K := by kernel_rfl

theorem call_line_New (cols : Int) (a : T_api_Attr) {w : World} {K : Slc → World → Prop} (h : sh_line_New cols a w K) : c_line_New cols a w K := by
  rw [← vc_line_New] at h
  refine Calls.mono (calls_of_vc C.plain_ok C.mixed Tryd.func14 rfl h) ?_
  rintro e w' ⟨s, rfl, hK⟩
  exact ⟨s.1, rfl, hK⟩

/-- (phosphor/line.Line).Mend -/
def sh_line_Line_Mend (l : Slc) (w : World) (K : Slc → World → Prop) : Prop :=
  c_slices_Clone_line_Line_api_Cell l w fun t7 w1 =>
  loopP (σ := Int × Unit) (fun I1 s w2 =>
    cond (decide (s.1 < ((l.n : Nat) : Int)))
      (ixK l s.1 5 fun t13 =>
       ldS T_api_Cell.rep t13 w2 fun t14 =>
       nw 42 [(.int .i32 0), (.int .i64 0), (.int .i64 0), (.int .i64 0), (.int .i64 0)] w2 fun c w3 =>
       stK c (T_api_Cell.rep.cells t14) w3 fun w4 =>
       joinP (σ := Bool × Unit) (fun s_1 w5 =>
         cond s_1.1
           (ixK t7 s.1 5 fun t31 =>
            stK (t31.add 1) [(.int .i64 0)] w5 fun w6 =>
            I1 ((IntKind.i64.wrap (s.1 + (1 : Int))), ()) w6)
           (c_line_Line_fits l s.1 w5 fun t36 w7 =>
            cond (!t36)
              (ldS T_api_Attr.rep (c.add 2) w7 fun t41 =>
               ixK t7 s.1 5 fun t43 =>
               stK t43 [(.int .i32 0), (.int .i64 0), (.int .i64 t41.Fg), (.int .i64 t41.Bg), (.int .i64 t41.Flags)] w7 fun w8 =>
               I1 ((IntKind.i64.wrap (s.1 + (1 : Int))), ()) w8)
              (ldI .i64 (c.add 1) w7 fun t46 =>
               cond (t46 == (2 : Int))
                 (ixK t7 s.1 5 fun t50 =>
                  stK (t50.add 0) [(.int .i32 0)] w7 fun w9 =>
                  I1 ((IntKind.i64.wrap (s.1 + (1 : Int))), ()) w9)
                 (I1 ((IntKind.i64.wrap (s.1 + (1 : Int))), ()) w7)))) fun J2 =>
       ldI .i64 (c.add 1) w4 fun t17 =>
       cond (t17 != (0 : Int))
         (ldI .i64 (c.add 1) w4 fun t21 =>
          cond (t21 != (1 : Int))
            (ldI .i64 (c.add 1) w4 fun t26 =>
             J2 ((t26 != (2 : Int)), ()) w4)
            (J2 (false, ()) w4))
         (J2 (false, ()) w4))
      (K t7 w2)) (0, ()) w1

def an_line_Line_Mend : List Ann := [.none, .none, .none, .none, .join [(10, (Kind.int .i64))] [4, 5, 10, 11, 12, 13, 14, 15, 16, 17, 18, 19, 20, 21, 22, 23, 24, 25, 26, 27, 28, 29, 30, 31, 32, 33, 34, 35, 36, 37, 38, 39, 40, 41, 42, 43, 44, 45, 46, 47, 48, 49, 50, 51, 52], .none, .none, .none, .none, .join [(15, Kind.bool)] [15, 16, 17, 18, 19, 20, 21, 22, 23, 24, 25, 26, 27, 28], .none, .none, .none]

theorem vc_line_Line_Mend (l : Slc) (w : World) (K : Slc → World → Prop) :
    vcFn C (Tryd.f15.body.getD .skip) Tryd.f15.results.toList Tryd.f15.ntmps an_line_Line_Mend [Kind.slice] [(.slice l.a l.n l.c)] w (fun s w => K s.1 w) = sh_line_Line_Mend l w K := by kernel_rfl

theorem call_line_Line_Mend (l : Slc) {w : World} {K : Slc → World → Prop} (h : sh_line_Line_Mend l w K) : c_line_Line_Mend l w K := by
  rw [← vc_line_Line_Mend] at h
  refine Calls.mono (calls_of_vc C.plain_ok C.mixed Tryd.func15 rfl h) ?_
  rintro e w' ⟨s, rfl, hK⟩
  exact ⟨s.1, rfl, hK⟩

/-- phosphor/phosphorref13.Same -/
def sh_phosphorref13_Same (a : Slc) (b : Slc) (w : World) (K : Bool → World → Prop) : Prop :=
  cond (((a.n : Nat) : Int) != ((b.n : Nat) : Int))
    (K false w)
    (loopP (σ := Int × Unit) (fun I1 s w1 =>
       cond (decide (s.1 < ((a.n : Nat) : Int)))
         (ixK a s.1 5 fun t19 =>
          ldS T_api_Cell.rep t19 w1.drew fun t20 =>
          ixK b s.1 5 fun t23 =>
          ldS T_api_Cell.rep t23 w1.drew fun t24 =>
          cond (!((t20.R == t24.R) && ((t20.Kind == t24.Kind) && (((t20.A.Fg == t24.A.Fg) && ((t20.A.Bg == t24.A.Bg) && ((t20.A.Flags == t24.A.Flags) && true))) && true))))
            (K false w1.drew)
            (I1 ((IntKind.i64.wrap (s.1 + (1 : Int))), ()) w1.drew))
         (K true w1)) (0, ()) w)

def an_phosphorref13_Same : List Ann := [.none, .none, .none, .none, .none, .none, .join [(5, (Kind.int .i64))] [4, 5, 11, 12, 13, 14, 15, 16, 17, 18, 19, 20, 21, 22, 23, 24, 25], .none, .none, .none, .none, .none, .none]

theorem vc_phosphorref13_Same (a : Slc) (b : Slc) (w : World) (K : Bool → World → Prop) :
    vcFn C (Tryd.f16.body.getD .skip) Tryd.f16.results.toList Tryd.f16.ntmps an_phosphorref13_Same [Kind.bool] [(.slice a.a a.n a.c), (.slice b.a b.n b.c)] w (fun s w => K s.1 w) = sh_phosphorref13_Same a b w K := by kernel_rfl

theorem call_phosphorref13_Same (a : Slc) (b : Slc) {w : World} {K : Bool → World → Prop} (h : sh_phosphorref13_Same a b w K) : c_phosphorref13_Same a b w K := by
  rw [← vc_phosphorref13_Same] at h
  refine Calls.mono (calls_of_vc C.plain_ok C.mixed Tryd.func16 rfl h) ?_
  rintro e w' ⟨s, rfl, hK⟩
  exact ⟨s.1, rfl, hK⟩

/-- phosphor/phosphorref13.New -/
def sh_phosphorref13_New (cols : Int) (a : T_api_Attr) (w : World) (K : Slc → World → Prop) : Prop :=
  nw 23 (T_api_Attr.rep.cells a) w fun a_1 w1 =>
  cond (decide (cols > (1000 : Int)))
    (K (⟨none, 0, 0⟩ : Slc) w1)
    (loopP (σ := Slc × Int × Unit) (fun I1 s w2 =>
       cond (decide (s.2.1 < cols))
         (ldS T_api_Attr.rep a_1 w2 fun t15 =>
          c_phosphorref13_blank t15 w2 fun t16 w3 =>
          nw 42 [(.int .i32 t16.R), (.int .i64 t16.Kind), (.int .i64 t16.A.Fg), (.int .i64 t16.A.Bg), (.int .i64 t16.A.Flags)] w3 fun t17 w4 =>
          apK Tryd.prog #[24, 24] 24 s.1 (⟨(some t17), 1, 1⟩ : Slc) w4 fun t18 w5 =>
          I1 (t18, (IntKind.i64.wrap (s.2.1 + (1 : Int))), ()) w5)
         (K s.1 w2)) (⟨none, 0, 0⟩, 0, ()) w1)

def an_phosphorref13_New : List Ann := [.none, .none, .none, .none, .none, .none, .none, .join [(5, Kind.slice), (6, (Kind.int .i64))] [5, 6, 9, 10, 11, 12, 13, 14, 15, 16, 17, 18], .none, .none, .none, .none]

theorem vc_phosphorref13_New (cols : Int) (a : T_api_Attr) (w : World) (K : Slc → World → Prop) :
    vcFn C (Tryd.f17.body.getD .skip) Tryd.f17.results.toList Tryd.f17.ntmps an_phosphorref13_New [Kind.slice] [(.int .i64 cols), (.agg #[(.int .i64 a.Fg), (.int .i64 a.Bg), (.int .i64 a.Flags)])] w (fun s w => K s.1 w) = sh_phosphorref13_New cols a w K := by kernel_rfl

theorem call_phosphorref13_New (cols : Int) (a : T_api_Attr) {w : World} {K : Slc → World → Prop} (h : sh_phosphorref13_New cols a w K) : c_phosphorref13_New cols a w K := by
  rw [← vc_phosphorref13_New] at h
  refine Calls.mono (calls_of_vc C.plain_ok C.mixed Tryd.func17 rfl h) ?_
  rintro e w' ⟨s, rfl, hK⟩
  exact ⟨s.1, rfl, hK⟩

/-- (phosphor/line.Line).Right -/
def sh_line_Line_Right (l : Slc) (w : World) (K : Bool → World → Prop) : Prop :=
  loopP (σ := Int × Unit) (fun I1 s w1 =>
    cond (decide (s.1 < ((l.n : Nat) : Int)))
      (ixK l s.1 5 fun t10 =>
       ldS T_api_Cell.rep t10 w1 fun t11 =>
       nw 42 [(.int .i32 0), (.int .i64 0), (.int .i64 0), (.int .i64 0), (.int .i64 0)] w1 fun c w2 =>
       stK c (T_api_Cell.rep.cells t11) w2 fun w3 =>
       c_line_Line_fits l s.1 w3 fun t14 w4 =>
       cond (!t14)
         (K false w4)
         (ldI .i64 (c.add 1) w4 fun t18 =>
          cond (t18 == (2 : Int))
            (ldI .i32 (c.add 0) w4 fun t22 =>
             cond (t22 != (0 : Int))
               (K false w4)
               (I1 ((IntKind.i64.wrap (s.1 + (1 : Int))), ()) w4))
            (I1 ((IntKind.i64.wrap (s.1 + (1 : Int))), ()) w4)))
      (K true w1)) (0, ()) w

def an_line_Line_Right : List Ann := [.none, .none, .none, .join [(7, (Kind.int .i64))] [2, 3, 4, 7, 8, 9, 10, 11, 12, 13, 14, 15, 16, 17, 18, 19, 20, 21, 22, 23, 24, 25, 26], .none, .none, .none, .none, .none, .none, .none]

theorem vc_line_Line_Right (l : Slc) (w : World) (K : Bool → World → Prop) :
    vcFn C (Tryd.f18.body.getD .skip) Tryd.f18.results.toList Tryd.f18.ntmps an_line_Line_Right [Kind.bool] [(.slice l.a l.n l.c)] w (fun s w => K s.1 w) = sh_line_Line_Right l w K := by kernel_rfl

theorem call_line_Line_Right (l : Slc) {w : World} {K : Bool → World → Prop} (h : sh_line_Line_Right l w K) : c_line_Line_Right l w K := by
  rw [← vc_line_Line_Right] at h
  refine Calls.mono (calls_of_vc C.plain_ok C.mixed Tryd.func18 rfl h) ?_
  rintro e w' ⟨s, rfl, hK⟩
  exact ⟨s.1, rfl, hK⟩

/-- phosphor/phosphorref13.Right -/
def sh_phosphorref13_Right (l : Slc) (w : World) (K : Bool → World → Prop) : Prop :=
  loopP (σ := Int × Unit) (fun I1 s w1 =>
    cond (decide (s.1 < ((l.n : Nat) : Int)))
      (ixK l s.1 5 fun t13 =>
       ldI .i64 (t13.add 1) w1 fun t15 =>
       joinP (σ := Bool × Unit) (fun s_1 w2 =>
         cond s_1.1
           (K false w2)
           (joinP (σ := Bool × Unit) (fun s_2 w3 =>
              cond s_2.1
                (K false w3)
                (cond (t15 == (2 : Int))
                   (cond (s.1 == (0 : Int))
                      (K false w3)
                      (ixK l (IntKind.i64.wrap (s.1 - (1 : Int))) 5 fun t52 =>
                       ldI .i64 (t52.add 1) w3 fun t54 =>
                       cond (t54 != (1 : Int))
                         (K false w3)
                         (ixK l s.1 5 fun t60 =>
                          ldI .i32 (t60.add 0) w3 fun t62 =>
                          cond (t62 != (0 : Int))
                            (K false w3)
                            (I1 ((IntKind.i64.wrap (s.1 + (1 : Int))), ()) w3))))
                   (I1 ((IntKind.i64.wrap (s.1 + (1 : Int))), ()) w3))) fun J3 =>
            cond (t15 == (1 : Int))
              (cond (decide ((IntKind.i64.wrap (s.1 + (1 : Int))) ≥ ((l.n : Nat) : Int)))
                 (J3 (true, ()) w2)
                 (ixK l (IntKind.i64.wrap (s.1 + (1 : Int))) 5 fun t36 =>
                  ldI .i64 (t36.add 1) w2 fun t38 =>
                  J3 ((t38 != (2 : Int)), ()) w2))
              (J3 (false, ()) w2))) fun J2 =>
       cond (decide (t15 < (0 : Int)))
         (J2 (true, ()) w1)
         (J2 ((decide (t15 > (2 : Int))), ()) w1))
      (K true w1)) (0, ()) w

def an_phosphorref13_Right : List Ann := [.none, .none, .none, .join [(3, (Kind.int .i64))] [2, 3, 4, 5, 6, 7, 8, 9, 10, 11, 12, 13, 14, 15, 16, 17, 18, 19, 20, 21, 22, 23, 24, 25, 26, 27, 28, 29, 30, 31, 32, 33, 34, 35, 36, 37, 38, 39, 40, 41, 42, 43, 44, 45, 46, 47, 48, 49, 50, 51, 52, 53, 54, 55, 56, 57, 58, 59, 60, 61, 62, 63, 64, 65], .none, .none, .none, .none, .join [(16, Kind.bool)] [16, 17, 18, 19, 20, 21, 22], .none, .join [(23, Kind.bool)] [23, 24, 25, 26, 27, 28, 29, 30, 31, 32, 33, 34, 35, 36, 37, 38, 39, 40, 41], .none, .none, .none, .none]

theorem vc_phosphorref13_Right (l : Slc) (w : World) (K : Bool → World → Prop) :
    vcFn C (Tryd.f19.body.getD .skip) Tryd.f19.results.toList Tryd.f19.ntmps an_phosphorref13_Right [Kind.bool] [(.slice l.a l.n l.c)] w (fun s w => K s.1 w) = sh_phosphorref13_Right l w K := by kernel_rfl

theorem call_phosphorref13_Right (l : Slc) {w : World} {K : Bool → World → Prop} (h : sh_phosphorref13_Right l w K) : c_phosphorref13_Right l w K := by
  rw [← vc_phosphorref13_Right] at h
  refine Calls.mono (calls_of_vc C.plain_ok C.mixed Tryd.func19 rfl h) ?_
  rintro e w' ⟨s, rfl, hK⟩
  exact ⟨s.1, rfl, hK⟩

/-- phosphor/phosphorref13.Mend -/
def sh_phosphorref13_Mend (l : Slc) (w : World) (K : Slc → World → Prop) : Prop :=
  nw 42 [] w fun t6 w1 =>
  apK Tryd.prog #[24, 24] 24 (⟨(some t6), 0, 0⟩ : Slc) l w1 fun t8 w2 =>
  loopP (σ := Int × Unit) (fun I1 s w3 =>
    cond (decide (s.1 < ((l.n : Nat) : Int)))
      (ixK l s.1 5 fun t17 =>
       ldS T_api_Cell.rep t17 w3 fun t18 =>
       nw 42 [(.int .i32 0), (.int .i64 0), (.int .i64 0), (.int .i64 0), (.int .i64 0)] w3 fun c w4 =>
       stK c (T_api_Cell.rep.cells t18) w4 fun w5 =>
       joinP (σ := Bool × Unit) (fun s_1 w6 =>
         cond s_1.1
           (ixK t8 s.1 5 fun t30 =>
            stK (t30.add 1) [(.int .i64 0)] w6 fun w7 =>
            I1 ((IntKind.i64.wrap (s.1 + (1 : Int))), ()) w7)
           (joinP (σ := Bool × Unit) (fun s_2 w8 =>
              cond s_2.1
                (ldS T_api_Attr.rep (c.add 2) w8 fun t55 =>
                 c_phosphorref13_blank t55 w8 fun t56 w9 =>
                 ixK t8 s.1 5 fun t57 =>
                 stK t57 (T_api_Cell.rep.cells t56) w9 fun w10 =>
                 I1 ((IntKind.i64.wrap (s.1 + (1 : Int))), ()) w10)
                (joinP (σ := Bool × Unit) (fun s_3 w11 =>
                   cond s_3.1
                     (ldS T_api_Attr.rep (c.add 2) w11 fun t78 =>
                      c_phosphorref13_blank t78 w11 fun t79 w12 =>
                      ixK t8 s.1 5 fun t80 =>
                      stK t80 (T_api_Cell.rep.cells t79) w12 fun w13 =>
                      I1 ((IntKind.i64.wrap (s.1 + (1 : Int))), ()) w13)
                     (ldI .i64 (c.add 1) w11 fun t83 =>
                      cond (t83 == (2 : Int))
                        (ixK t8 s.1 5 fun t87 =>
                         stK (t87.add 0) [(.int .i32 0)] w11 fun w14 =>
                         I1 ((IntKind.i64.wrap (s.1 + (1 : Int))), ()) w14)
                        (I1 ((IntKind.i64.wrap (s.1 + (1 : Int))), ()) w11))) fun J4 =>
                 ldI .i64 (c.add 1) w8 fun t60 =>
                 cond (t60 == (2 : Int))
                   (cond (s.1 == (0 : Int))
                      (J4 (true, ()) w8)
                      (ixK l (IntKind.i64.wrap (s.1 - (1 : Int))) 5 fun t69 =>
                       ldI .i64 (t69.add 1) w8 fun t71 =>
                       J4 ((t71 != (1 : Int)), ()) w8))
                   (J4 (false, ()) w8))) fun J3 =>
            ldI .i64 (c.add 1) w6 fun t34 =>
            cond (t34 == (1 : Int))
              (cond (decide ((IntKind.i64.wrap (s.1 + (1 : Int))) ≥ ((l.n : Nat) : Int)))
                 (J3 (true, ()) w6)
                 (ixK l (IntKind.i64.wrap (s.1 + (1 : Int))) 5 fun t46 =>
                  ldI .i64 (t46.add 1) w6 fun t48 =>
                  J3 ((t48 != (2 : Int)), ()) w6))
              (J3 (false, ()) w6))) fun J2 =>
       ldI .i64 (c.add 1) w5 fun t21 =>
       cond (decide (t21 < (0 : Int)))
         (J2 (true, ()) w5)
         (ldI .i64 (c.add 1) w5 fun t25 =>
          J2 ((decide (t25 > (2 : Int))), ()) w5))
      (K t8 w3)) (0, ()) w2

def an_phosphorref13_Mend : List Ann := [.none, .none, .none, .none, .join [(4, (Kind.int .i64))] [4, 5, 9, 10, 11, 12, 13, 14, 15, 16, 17, 18, 19, 20, 21, 22, 23, 24, 25, 26, 27, 28, 29, 30, 31, 32, 33, 34, 35, 36, 37, 38, 39, 40, 41, 42, 43, 44, 45, 46, 47, 48, 49, 50, 51, 52, 53, 54, 55, 56, 57, 58, 59, 60, 61, 62, 63, 64, 65, 66, 67, 68, 69, 70, 71, 72, 73, 74, 75, 76, 77, 78, 79, 80, 81, 82, 83, 84, 85, 86, 87, 88], .none, .none, .none, .none, .join [(19, Kind.bool)] [19, 20, 21, 22, 23, 24, 25, 26, 27], .join [(32, Kind.bool)] [32, 33, 34, 35, 36, 37, 38, 39, 40, 41, 42, 43, 44, 45, 46, 47, 48, 49, 50, 51], .join [(58, Kind.bool)] [58, 59, 60, 61, 62, 63, 64, 65, 66, 67, 68, 69, 70, 71, 72, 73, 74], .none, .none]

theorem vc_phosphorref13_Mend (l : Slc) (w : World) (K : Slc → World → Prop) :
    vcFn C (Tryd.f20.body.getD .skip) Tryd.f20.results.toList Tryd.f20.ntmps an_phosphorref13_Mend [Kind.slice] [(.slice l.a l.n l.c)] w (fun s w => K s.1 w) = sh_phosphorref13_Mend l w K := by kernel_rfl

theorem call_phosphorref13_Mend (l : Slc) {w : World} {K : Slc → World → Prop} (h : sh_phosphorref13_Mend l w K) : c_phosphorref13_Mend l w K := by
  rw [← vc_phosphorref13_Mend] at h
  refine Calls.mono (calls_of_vc C.plain_ok C.mixed Tryd.func20 rfl h) ?_
  rintro e w' ⟨s, rfl, hK⟩
  exact ⟨s.1, rfl, hK⟩

/-- (phosphor/line.Line).Put -/
def sh_line_Line_Put (l : Slc) (col : Int) (r : Int) (width : Int) (a : T_api_Attr) (w : World) (K : Slc → Bool → World → Prop) : Prop :=
  nw 23 (T_api_Attr.rep.cells a) w fun a_1 w1 =>
  c_line_Line_Mend l w1 fun t14 w2 =>
  joinP (σ := Unit) (fun s w3 =>
    ldS T_api_Attr.rep a_1 w3 fun t37 =>
    ixK t14 col 5 fun t39 =>
    stK t39 [(.int .i32 r), (.int .i64 0), (.int .i64 t37.Fg), (.int .i64 t37.Bg), (.int .i64 t37.Flags)] w3 fun w4 =>
    joinP (σ := Unit) (fun s_1 w5 =>
      c_line_Line_halves t14 col (IntKind.i64.wrap (col + width)) w5 fun t57 w6 =>
      K t57 true w6) fun J2 =>
    cond (width == (2 : Int))
      (ixK t14 col 5 fun t44 =>
       stK (t44.add 1) [(.int .i64 1)] w4 fun w7 =>
       ldS T_api_Attr.rep a_1 w7 fun t49 =>
       ixK t14 (IntKind.i64.wrap (col + (1 : Int))) 5 fun t51 =>
       stK t51 [(.int .i32 0), (.int .i64 2), (.int .i64 t49.Fg), (.int .i64 t49.Bg), (.int .i64 t49.Flags)] w7 fun w8 =>
       J2 (()) w8)
      (J2 (()) w4)) fun J1 =>
  joinP (σ := Bool × Unit) (fun s_2 w9 =>
    cond s_2.1
      (K t14 false w9)
      (J1 (()) w9)) fun J3 =>
  cond (decide (width < (1 : Int)))
    (J3 (true, ()) w2)
    (cond (decide (width > (2 : Int)))
       (J3 (true, ()) w2)
       (cond (decide (col < (0 : Int)))
          (J3 (true, ()) w2)
          (J3 ((decide (col > (IntKind.i64.wrap (((l.n : Nat) : Int) - width)))), ()) w2)))

def an_line_Line_Put : List Ann := [.none, .none, .join [] [10, 11, 15, 16, 17, 18, 19, 20, 21, 22, 23, 24, 25, 26, 27, 28, 29, 30, 31, 32, 33], .join [(32, Kind.bool)] [15, 16, 17, 18, 19, 20, 21, 22, 23, 24, 25, 26, 27, 28, 29, 30, 31, 32], .none, .none, .join [] [40, 41, 42, 43, 44, 45, 46, 47, 48, 49, 50, 51], .none, .none, .none]

theorem vc_line_Line_Put (l : Slc) (col : Int) (r : Int) (width : Int) (a : T_api_Attr) (w : World) (K : Slc → Bool → World → Prop) :
    vcFn C (Tryd.f21.body.getD .skip) Tryd.f21.results.toList Tryd.f21.ntmps an_line_Line_Put [Kind.slice, Kind.bool] [(.slice l.a l.n l.c), (.int .i64 col), (.int .i32 r), (.int .i64 width), (.agg #[(.int .i64 a.Fg), (.int .i64 a.Bg), (.int .i64 a.Flags)])] w (fun s w => K s.1 s.2.1 w) = sh_line_Line_Put l col r width a w K := by kernel_rfl

theorem call_line_Line_Put (l : Slc) (col : Int) (r : Int) (width : Int) (a : T_api_Attr) {w : World} {K : Slc → Bool → World → Prop} (h : sh_line_Line_Put l col r width a w K) : c_line_Line_Put l col r width a w K := by
  rw [← vc_line_Line_Put] at h
  refine Calls.mono (calls_of_vc C.plain_ok C.mixed Tryd.func21 rfl h) ?_
  rintro e w' ⟨s, rfl, hK⟩
  exact ⟨s.1, s.2.1, rfl, hK⟩

/-- (phosphor/line.Line).Text -/
def sh_line_Line_Text (l : Slc) (w : World) (K : ByteArray → World → Prop) : Prop :=
  nw 97 [(.pointer none), (.slice none 0 0)] w fun out w1 =>
  c_line_Line_Mend l w1 fun t7 w2 =>
  loopP (σ := Int × Unit) (fun I1 s w3 =>
    cond (decide (s.1 < ((t7.n : Nat) : Int)))
      (ixK t7 s.1 5 fun t11 =>
       ldS T_api_Cell.rep t11 w3 fun t12 =>
       nw 42 [(.int .i32 0), (.int .i64 0), (.int .i64 0), (.int .i64 0), (.int .i64 0)] w3 fun c w4 =>
       stK c (T_api_Cell.rep.cells t12) w4 fun w5 =>
       ldI .i64 (c.add 1) w5 fun t20 =>
       cond (t20 == (2 : Int))
         (I1 ((IntKind.i64.wrap (s.1 + (1 : Int))), ()) w5)
         (ldI .i32 (c.add 0) w5 fun t24 =>
          cond (t24 == (0 : Int))
            (c_strings_Builder_WriteByte (some out) 32 w5 fun t26 w6 =>
             I1 ((IntKind.i64.wrap (s.1 + (1 : Int))), ()) w6)
            (ldI .i32 (c.add 0) w5 fun t14 =>
             nw 21 [(.int .i32 t14)] w5 fun t15 w7 =>
             c_utf_Encode (⟨(some t15), 1, 1⟩ : Slc) w7 fun t16 w8 =>
             c_strings_Builder_Write (some out) t16 w8 fun t17 t17_1 w9 =>
             I1 ((IntKind.i64.wrap (s.1 + (1 : Int))), ()) w9)))
      (c_strings_Builder_String (some out) w3 fun t28 w10 =>
       c_strings_TrimRight t28 (⟨#[32]⟩ : ByteArray) w10 fun t29 w11 =>
       K t29 w11)) (0, ()) w2

def an_line_Line_Text : List Ann := [.none, .none, .none, .none, .join [(9, (Kind.int .i64))] [5, 9, 10, 11, 12, 13, 14, 15, 16, 17, 18, 19, 20, 21, 22, 23, 24, 25, 26, 27], .none, .none, .none, .none, .none, .none, .none]

theorem vc_line_Line_Text (l : Slc) (w : World) (K : ByteArray → World → Prop) :
    vcFn C (Tryd.f22.body.getD .skip) Tryd.f22.results.toList Tryd.f22.ntmps an_line_Line_Text [Kind.string] [(.slice l.a l.n l.c)] w (fun s w => K s.1 w) = sh_line_Line_Text l w K := by kernel_rfl

theorem call_line_Line_Text (l : Slc) {w : World} {K : ByteArray → World → Prop} (h : sh_line_Line_Text l w K) : c_line_Line_Text l w K := by
  rw [← vc_line_Line_Text] at h
  refine Calls.mono (calls_of_vc C.plain_ok C.mixed Tryd.func22 rfl h) ?_
  rintro e w' ⟨s, rfl, hK⟩
  exact ⟨s.1, rfl, hK⟩

/-- phosphor/line.Map[int] -/
def sh_line_Map_int (l : Slc) (f : Value) (w : World) (K : Slc → World → Prop) : Prop :=
  loopP (σ := Slc × Int × Unit) (fun I1 s w1 =>
    cond (decide (s.2.1 < ((l.n : Nat) : Int)))
      (ixK l s.2.1 5 fun t12 =>
       ldS T_api_Cell.rep t12 w1 fun t13 =>
       nw 42 [(.int .i32 0), (.int .i64 0), (.int .i64 0), (.int .i64 0), (.int .i64 0)] w1 fun c w2 =>
       stK c (T_api_Cell.rep.cells t13) w2 fun w3 =>
       ldS T_api_Cell.rep c w3 fun t16 =>
       callR C f [(.agg #[(.int .i32 t16.R), (.int .i64 t16.Kind), (.int .i64 t16.A.Fg), (.int .i64 t16.A.Bg), (.int .i64 t16.A.Flags)])] [(Kind.int .i64)] w3 fun (t17 : Int) w4 =>
       nw 3 [(.int .i64 t17)] w4 fun t18 w5 =>
       apK Tryd.prog #[39, 39] 39 s.1 (⟨(some t18), 1, 1⟩ : Slc) w5 fun t19 w6 =>
       I1 (t19, (IntKind.i64.wrap (s.2.1 + (1 : Int))), ()) w6)
      (K s.1 w1)) (⟨none, 0, 0⟩, 0, ()) w

def an_line_Map_int : List Ann := [.none, .none, .none, .none, .join [(5, Kind.slice), (10, (Kind.int .i64))] [5, 7, 10, 11, 12, 13, 14, 15, 16, 17, 18, 19, 20], .none, .none, .none, .none, .none]

theorem vc_line_Map_int (l : Slc) (f : Value) (w : World) (K : Slc → World → Prop) :
    vcFn C (Tryd.f23.body.getD .skip) Tryd.f23.results.toList Tryd.f23.ntmps an_line_Map_int [Kind.slice] [(.slice l.a l.n l.c), f] w (fun s w => K s.1 w) = sh_line_Map_int l f w K := by kernel_rfl

theorem call_line_Map_int (l : Slc) (f : Value) {w : World} {K : Slc → World → Prop} (h : sh_line_Map_int l f w K) : c_line_Map_int l f w K := by
  rw [← vc_line_Map_int] at h
  refine Calls.mono (calls_of_vc C.plain_ok C.mixed Tryd.func23 rfl h) ?_
  rintro e w' ⟨s, rfl, hK⟩
  exact ⟨s.1, rfl, hK⟩

/-- phosphor/phosphorlaw13.LineMaps$1 -/
def sh_phosphorlaw13_LineMaps_1 (c : T_api_Cell) (c0 : Addr) (w : World) (K : Int → World → Prop) : Prop :=
  nw 42 (T_api_Cell.rep.cells c) w fun c_1 w1 =>
  ldI .i32 (c_1.add 0) w1 fun t5 =>
  ldI .i64 c0 w1 fun t7 =>
  K (bitsR .xor .i64 (IntKind.i64.wrap t5) t7) w1

def an_phosphorlaw13_LineMaps_1 : List Ann := [.none, .none]

theorem vc_phosphorlaw13_LineMaps_1 (c : T_api_Cell) (c0 : Addr) (w : World) (K : Int → World → Prop) :
    vcFn C (Tryd.f24.body.getD .skip) Tryd.f24.results.toList Tryd.f24.ntmps an_phosphorlaw13_LineMaps_1 [(Kind.int .i64)] [(.agg #[(.int .i32 c.R), (.int .i64 c.Kind), (.int .i64 c.A.Fg), (.int .i64 c.A.Bg), (.int .i64 c.A.Flags)]), (.pointer (some c0))] w (fun s w => K s.1 w) = sh_phosphorlaw13_LineMaps_1 c c0 w K := by kernel_rfl

theorem call_phosphorlaw13_LineMaps_1 (c : T_api_Cell) (c0 : Addr) {w : World} {K : Int → World → Prop} (h : sh_phosphorlaw13_LineMaps_1 c c0 w K) : c_phosphorlaw13_LineMaps_1 c c0 w K := by
  rw [← vc_phosphorlaw13_LineMaps_1] at h
  refine Calls.mono (calls_of_vc C.plain_ok C.mixed Tryd.func24 rfl h) ?_
  rintro e w' ⟨s, rfl, hK⟩
  exact ⟨s.1, rfl, hK⟩

/-- phosphor/line.Map[bool] -/
def sh_line_Map_bool (l : Slc) (f : Value) (w : World) (K : Slc → World → Prop) : Prop :=
  loopP (σ := Slc × Int × Unit) (fun I1 s w1 =>
    cond (decide (s.2.1 < ((l.n : Nat) : Int)))
      (ixK l s.2.1 5 fun t12 =>
       ldS T_api_Cell.rep t12 w1 fun t13 =>
       nw 42 [(.int .i32 0), (.int .i64 0), (.int .i64 0), (.int .i64 0), (.int .i64 0)] w1 fun c w2 =>
       stK c (T_api_Cell.rep.cells t13) w2 fun w3 =>
       ldS T_api_Cell.rep c w3 fun t16 =>
       callR C f [(.agg #[(.int .i32 t16.R), (.int .i64 t16.Kind), (.int .i64 t16.A.Fg), (.int .i64 t16.A.Bg), (.int .i64 t16.A.Flags)])] [Kind.bool] w3 fun (t17 : Bool) w4 =>
       nw 4 [(.bool t17)] w4 fun t18 w5 =>
       apK Tryd.prog #[44, 44] 44 s.1 (⟨(some t18), 1, 1⟩ : Slc) w5 fun t19 w6 =>
       I1 (t19, (IntKind.i64.wrap (s.2.1 + (1 : Int))), ()) w6)
      (K s.1 w1)) (⟨none, 0, 0⟩, 0, ()) w

def an_line_Map_bool : List Ann := [.none, .none, .none, .none, .join [(5, Kind.slice), (10, (Kind.int .i64))] [5, 7, 10, 11, 12, 13, 14, 15, 16, 17, 18, 19, 20], .none, .none, .none, .none, .none]

theorem vc_line_Map_bool (l : Slc) (f : Value) (w : World) (K : Slc → World → Prop) :
    vcFn C (Tryd.f25.body.getD .skip) Tryd.f25.results.toList Tryd.f25.ntmps an_line_Map_bool [Kind.slice] [(.slice l.a l.n l.c), f] w (fun s w => K s.1 w) = sh_line_Map_bool l f w K := by kernel_rfl

theorem call_line_Map_bool (l : Slc) (f : Value) {w : World} {K : Slc → World → Prop} (h : sh_line_Map_bool l f w K) : c_line_Map_bool l f w K := by
  rw [← vc_line_Map_bool] at h
  refine Calls.mono (calls_of_vc C.plain_ok C.mixed Tryd.func25 rfl h) ?_
  rintro e w' ⟨s, rfl, hK⟩
  exact ⟨s.1, rfl, hK⟩

/-- phosphor/phosphorlaw13.LineMaps$2 -/
def sh_phosphorlaw13_LineMaps_2 (c : T_api_Cell) (w : World) (K : Bool → World → Prop) : Prop :=
  nw 42 (T_api_Cell.rep.cells c) w fun c_1 w1 =>
  ldI .i64 (c_1.add 1) w1 fun t4 =>
  K (t4 == (2 : Int)) w1

def an_phosphorlaw13_LineMaps_2 : List Ann := [.none, .none]

theorem vc_phosphorlaw13_LineMaps_2 (c : T_api_Cell) (w : World) (K : Bool → World → Prop) :
    vcFn C (Tryd.f26.body.getD .skip) Tryd.f26.results.toList Tryd.f26.ntmps an_phosphorlaw13_LineMaps_2 [Kind.bool] [(.agg #[(.int .i32 c.R), (.int .i64 c.Kind), (.int .i64 c.A.Fg), (.int .i64 c.A.Bg), (.int .i64 c.A.Flags)])] w (fun s w => K s.1 w) = sh_phosphorlaw13_LineMaps_2 c w K := by kernel_rfl

theorem call_phosphorlaw13_LineMaps_2 (c : T_api_Cell) {w : World} {K : Bool → World → Prop} (h : sh_phosphorlaw13_LineMaps_2 c w K) : c_phosphorlaw13_LineMaps_2 c w K := by
  rw [← vc_phosphorlaw13_LineMaps_2] at h
  refine Calls.mono (calls_of_vc C.plain_ok C.mixed Tryd.func26 rfl h) ?_
  rintro e w' ⟨s, rfl, hK⟩
  exact ⟨s.1, rfl, hK⟩

/-- (phosphor/line.Line).Insert -/
def sh_line_Line_Insert (l : Slc) (col : Int) (n : Int) (a : T_api_Attr) (w : World) (K : Slc → World → Prop) : Prop :=
  nw 23 (T_api_Attr.rep.cells a) w fun a_1 w1 =>
  c_line_Line_Mend l w1 fun t11 w2 =>
  c_line_Line_many l col n w2 fun t15 w3 =>
  cond (t15 == (0 : Int))
    (K t11 w3)
    (slK t11 none (some col) 5 fun t21 =>
     ldS T_api_Attr.rep a_1 w3.drew fun t23 =>
     slK t11 (some col) (some (IntKind.i64.wrap (((l.n : Nat) : Int) - t15))) 5 fun t31 =>
     c_line_blanks t15 t23 w3.drew fun t24 w4 =>
     nw 25 [(.slice t21.a t21.n t21.c), (.slice t24.a t24.n t24.c), (.slice t31.a t31.n t31.c)] w4 fun t32 w5 =>
     c_slices_Concat_line_Line_api_Cell (⟨(some t32), 3, 3⟩ : Slc) w5 fun t33 w6 =>
     c_line_Line_Mend t33 w6 fun t34 w7 =>
     K t34 w7)

def an_line_Line_Insert : List Ann := [.none, .none, .none, .none, .none, .none, .none]

theorem vc_line_Line_Insert (l : Slc) (col : Int) (n : Int) (a : T_api_Attr) (w : World) (K : Slc → World → Prop) :
    vcFn C (Tryd.f27.body.getD .skip) Tryd.f27.results.toList Tryd.f27.ntmps an_line_Line_Insert [Kind.slice] [(.slice l.a l.n l.c), (.int .i64 col), (.int .i64 n), (.agg #[(.int .i64 a.Fg), (.int .i64 a.Bg), (.int .i64 a.Flags)])] w (fun s w => K s.1 w) = sh_line_Line_Insert l col n a w K := by kernel_rfl

theorem call_line_Line_Insert (l : Slc) (col : Int) (n : Int) (a : T_api_Attr) {w : World} {K : Slc → World → Prop} (h : sh_line_Line_Insert l col n a w K) : c_line_Line_Insert l col n a w K := by
  rw [← vc_line_Line_Insert] at h
  refine Calls.mono (calls_of_vc C.plain_ok C.mixed Tryd.func27 rfl h) ?_
  rintro e w' ⟨s, rfl, hK⟩
  exact ⟨s.1, rfl, hK⟩

/-- (phosphor/line.Line).Delete -/
def sh_line_Line_Delete (l : Slc) (col : Int) (n : Int) (a : T_api_Attr) (w : World) (K : Slc → World → Prop) : Prop :=
  nw 23 (T_api_Attr.rep.cells a) w fun a_1 w1 =>
  c_line_Line_Mend l w1 fun t11 w2 =>
  c_line_Line_many l col n w2 fun t15 w3 =>
  cond (t15 == (0 : Int))
    (K t11 w3)
    (slK t11 none (some col) 5 fun t21 =>
     slK t11 (some (IntKind.i64.wrap (col + t15))) none 5 fun t26 =>
     ldS T_api_Attr.rep a_1 w3.drew fun t28 =>
     c_line_blanks t15 t28 w3.drew fun t29 w4 =>
     nw 25 [(.slice t21.a t21.n t21.c), (.slice t26.a t26.n t26.c), (.slice t29.a t29.n t29.c)] w4 fun t30 w5 =>
     c_slices_Concat_line_Line_api_Cell (⟨(some t30), 3, 3⟩ : Slc) w5 fun t31 w6 =>
     c_line_Line_Mend t31 w6 fun t32 w7 =>
     K t32 w7)

def an_line_Line_Delete : List Ann := [.none, .none, .none, .none, .none, .none, .none]

theorem vc_line_Line_Delete (l : Slc) (col : Int) (n : Int) (a : T_api_Attr) (w : World) (K : Slc → World → Prop) :
    vcFn C (Tryd.f28.body.getD .skip) Tryd.f28.results.toList Tryd.f28.ntmps an_line_Line_Delete [Kind.slice] [(.slice l.a l.n l.c), (.int .i64 col), (.int .i64 n), (.agg #[(.int .i64 a.Fg), (.int .i64 a.Bg), (.int .i64 a.Flags)])] w (fun s w => K s.1 w) = sh_line_Line_Delete l col n a w K := by kernel_rfl

theorem call_line_Line_Delete (l : Slc) (col : Int) (n : Int) (a : T_api_Attr) {w : World} {K : Slc → World → Prop} (h : sh_line_Line_Delete l col n a w K) : c_line_Line_Delete l col n a w K := by
  rw [← vc_line_Line_Delete] at h
  refine Calls.mono (calls_of_vc C.plain_ok C.mixed Tryd.func28 rfl h) ?_
  rintro e w' ⟨s, rfl, hK⟩
  exact ⟨s.1, rfl, hK⟩

/-- phosphor/phosphorlaw13.step -/
def sh_phosphorlaw13_step (l : Slc) (m : Slc) (a : T_phosphorlaw13_Act) (w : World) (K : Slc → Slc → Bool → World → Prop) : Prop :=
  nw 54 (T_phosphorlaw13_Act.rep.cells a) w fun a_1 w1 =>
  ldI .i64 (a_1.add 0) w1 fun t15 =>
  cond (t15 == (1 : Int))
    (ldI .i64 (a_1.add 1) w1 fun t21 =>
     ldI .i32 (a_1.add 3) w1 fun t23 =>
     ldI .i64 (a_1.add 4) w1 fun t25 =>
     ldS T_api_Attr.rep (a_1.add 5) w1 fun t27 =>
     c_line_Line_Put l t21 t23 t25 t27 w1 fun t28 t28_1 w2 =>
     ldI .i64 (a_1.add 1) w2 fun t34 =>
     ldI .i32 (a_1.add 3) w2 fun t36 =>
     ldI .i64 (a_1.add 4) w2 fun t39 =>
     ldS T_api_Attr.rep (a_1.add 5) w2 fun t41 =>
     c_phosphorref13_Put m t34 (IntKind.i64.wrap t36) t39 t41 w2 fun t42 t42_1 w3 =>
     K t28 t42 (t28_1 == t42_1) w3)
    (cond (t15 == (2 : Int))
       (ldI .i64 (a_1.add 1) w1.drew fun t54 =>
        ldI .i64 (a_1.add 2) w1.drew fun t56 =>
        ldS T_api_Attr.rep (a_1.add 5) w1.drew fun t58 =>
        ldI .i64 (a_1.add 1) w1.drew fun t62 =>
        ldI .i64 (a_1.add 2) w1.drew fun t64 =>
        ldS T_api_Attr.rep (a_1.add 5) w1.drew fun t66 =>
        c_line_Line_Insert l t54 t56 t58 w1.drew fun t59 w4 =>
        cellsAt w4 (a_1.add 5) (T_api_Attr.rep.cells t66) ∧
        World.cell? w4 (a_1.add 2) = some (.int .i64 t64) ∧
        World.cell? w4 (a_1.add 1) = some (.int .i64 t62) ∧
        c_phosphorref13_Insert m t62 t64 t66 w4 fun t67 w5 =>
        K t59 t67 true w5)
       (cond (t15 == (3 : Int))
          (ldI .i64 (a_1.add 1) w1.drew fun t72 =>
           ldI .i64 (a_1.add 2) w1.drew fun t74 =>
           ldS T_api_Attr.rep (a_1.add 5) w1.drew fun t76 =>
           ldI .i64 (a_1.add 1) w1.drew fun t80 =>
           ldI .i64 (a_1.add 2) w1.drew fun t82 =>
           ldS T_api_Attr.rep (a_1.add 5) w1.drew fun t84 =>
           c_line_Line_Delete l t72 t74 t76 w1.drew fun t77 w6 =>
           cellsAt w6 (a_1.add 5) (T_api_Attr.rep.cells t84) ∧
           World.cell? w6 (a_1.add 2) = some (.int .i64 t82) ∧
           World.cell? w6 (a_1.add 1) = some (.int .i64 t80) ∧
           c_phosphorref13_Delete m t80 t82 t84 w6 fun t85 w7 =>
           K t77 t85 true w7)
          (cond (t15 == (4 : Int))
             (ldI .i64 (a_1.add 1) w1.drew fun t90 =>
              ldI .i64 (a_1.add 2) w1.drew fun t92 =>
              ldS T_api_Attr.rep (a_1.add 5) w1.drew fun t94 =>
              ldI .i64 (a_1.add 1) w1.drew fun t98 =>
              ldI .i64 (a_1.add 2) w1.drew fun t100 =>
              ldS T_api_Attr.rep (a_1.add 5) w1.drew fun t102 =>
              c_line_Line_Erase l t90 t92 t94 w1.drew fun t95 w8 =>
              cellsAt w8 (a_1.add 5) (T_api_Attr.rep.cells t102) ∧
              World.cell? w8 (a_1.add 2) = some (.int .i64 t100) ∧
              World.cell? w8 (a_1.add 1) = some (.int .i64 t98) ∧
              c_phosphorref13_Erase m t98 t100 t102 w8 fun t103 w9 =>
              K t95 t103 true w9)
             (cond (t15 == (5 : Int))
                (ldI .i64 (a_1.add 2) w1 fun t107 =>
                 joinP (σ := Int × Unit) (fun s w10 =>
                   cond (decide (s.1 > (1048576 : Int)))
                     (K l m true w10)
                     (c_line_Line_Resize l s.1 w10 fun t120 w11 =>
                      c_phosphorref13_Resize m s.1 w11 fun t123 w12 =>
                      K t120 t123 true w12)) fun J1 =>
                 cond (decide (t107 > (240 : Int)))
                   (cond (decide (t107 ≤ (1048576 : Int)))
                      (J1 (240, ()) w1)
                      (J1 (t107, ()) w1))
                   (J1 (t107, ()) w1))
                (cond (t15 == (6 : Int))
                   (c_line_Line_Mend l w1 fun t127 w13 =>
                    c_phosphorref13_Mend m w13 fun t129 w14 =>
                    K t127 t129 true w14)
                   (K l m true w1))))))

def an_phosphorlaw13_step : List Ann := [.none, .none, .none, .none, .none, .none, .none, .none, .none, .none, .none, .none, .none, .none, .none, .join [(13, (Kind.int .i64))] [13, 108, 109, 110, 111, 112, 113], .none, .none, .none, .none, .none, .none, .none, .none]

theorem vc_phosphorlaw13_step (l : Slc) (m : Slc) (a : T_phosphorlaw13_Act) (w : World) (K : Slc → Slc → Bool → World → Prop) :
    vcFn C (Tryd.f29.body.getD .skip) Tryd.f29.results.toList Tryd.f29.ntmps an_phosphorlaw13_step [Kind.slice, Kind.slice, Kind.bool] [(.slice l.a l.n l.c), (.slice m.a m.n m.c), (.agg #[(.int .i64 a.Op), (.int .i64 a.Col), (.int .i64 a.N), (.int .i32 a.R), (.int .i64 a.Width), (.int .i64 a.A.Fg), (.int .i64 a.A.Bg), (.int .i64 a.A.Flags)])] w (fun s w => K s.1 s.2.1 s.2.2.1 w) = sh_phosphorlaw13_step l m a w K := by kernel_rfl

theorem call_phosphorlaw13_step (l : Slc) (m : Slc) (a : T_phosphorlaw13_Act) {w : World} {K : Slc → Slc → Bool → World → Prop} (h : sh_phosphorlaw13_step l m a w K) : c_phosphorlaw13_step l m a w K := by
  rw [← vc_phosphorlaw13_step] at h
  refine Calls.mono (calls_of_vc C.plain_ok C.mixed Tryd.func29 rfl h) ?_
  rintro e w' ⟨s, rfl, hK⟩
  exact ⟨s.1, s.2.1, s.2.2.1, rfl, hK⟩

/-- phosphor/phosphorref13.Text -/
def sh_phosphorref13_Text (l : Slc) (w : World) (K : ByteArray → World → Prop) : Prop :=
  c_phosphorref13_Mend l w fun t8 w1 =>
  loopP (σ := Slc × Int × Int × Unit) (fun I1 s w2 =>
    cond (decide (s.2.2.1 < ((t8.n : Nat) : Int)))
      (ixK t8 s.2.2.1 5 fun t17 =>
       ldI .i64 (t17.add 1) w2 fun t19 =>
       cond (t19 == (2 : Int))
         (I1 (s.1, s.2.1, (IntKind.i64.wrap (s.2.2.1 + (1 : Int))), ()) w2)
         (joinP (σ := Slc × Unit) (fun s_1 w3 =>
            joinP (σ := Bool × Unit) (fun s_2 w4 =>
              cond s_2.1
                (I1 (s_1.1, ((s_1.1.n : Nat) : Int), (IntKind.i64.wrap (s.2.2.1 + (1 : Int))), ()) w4)
                (I1 (s_1.1, s.2.1, (IntKind.i64.wrap (s.2.2.1 + (1 : Int))), ()) w4)) fun J3 =>
            ixK t8 s.2.2.1 5 fun t41 =>
            ldI .i32 (t41.add 0) w3 fun t43 =>
            cond (t43 != (0 : Int))
              (ixK t8 s.2.2.1 5 fun t48 =>
               ldI .i32 (t48.add 0) w3 fun t50 =>
               J3 ((t50 != (32 : Int)), ()) w3)
              (J3 (false, ()) w3)) fun J2 =>
          ixK t8 s.2.2.1 5 fun t23 =>
          ldI .i32 (t23.add 0) w2 fun t25 =>
          cond (t25 == (0 : Int))
            (nw 5 [(.int .u8 32)] w2 fun t28 w5 =>
             apK Tryd.prog #[34, 34] 34 s.1 (⟨(some t28), 1, 1⟩ : Slc) w5 fun t29 w6 =>
             J2 (t29, ()) w6)
            (ixK t8 s.2.2.1 5 fun t33 =>
             ldI .i32 (t33.add 0) w2 fun t35 =>
             c_phosphorref10_Encode (IntKind.i64.wrap t35) w2 fun t37 w7 =>
             apK Tryd.prog #[34, 34] 34 s.1 t37 w7 fun t38 w8 =>
             J2 (t38, ()) w8)))
      (slK s.1 none (some s.2.1) 1 fun t57 =>
       runK1 Tryd.prog (convert 34 9 (.slice t57.a t57.n t57.c)) Kind.string w2 fun (t58 : ByteArray) w9 =>
       K t58 w9)) (⟨none, 0, 0⟩, 0, 0, ()) w1

def an_phosphorref13_Text : List Ann := [.none, .none, .none, .none, .none, .none, .join [(4, Kind.slice), (5, (Kind.int .i64)), (6, (Kind.int .i64))] [4, 5, 6, 9, 10, 11, 12, 13, 14, 15, 16, 17, 18, 19, 20, 21, 22, 23, 24, 25, 26, 27, 28, 29, 30, 31, 32, 33, 34, 35, 36, 37, 38, 39, 40, 41, 42, 43, 44, 45, 46, 47, 48, 49, 50, 51, 52, 53, 54], .none, .none, .none, .none, .none, .join [(4, Kind.slice)] [4, 21, 22, 23, 24, 25, 26, 27, 28, 29, 30, 31, 32, 33, 34, 35, 36, 37, 38], .none, .join [(52, Kind.bool)] [39, 40, 41, 42, 43, 44, 45, 46, 47, 48, 49, 50, 51, 52], .none]

theorem vc_phosphorref13_Text (l : Slc) (w : World) (K : ByteArray → World → Prop) :
    vcFn C (Tryd.f30.body.getD .skip) Tryd.f30.results.toList Tryd.f30.ntmps an_phosphorref13_Text [Kind.string] [(.slice l.a l.n l.c)] w (fun s w => K s.1 w) = sh_phosphorref13_Text l w K := by kernel_rfl

theorem call_phosphorref13_Text (l : Slc) {w : World} {K : ByteArray → World → Prop} (h : sh_phosphorref13_Text l w K) : c_phosphorref13_Text l w K := by
  rw [← vc_phosphorref13_Text] at h
  refine Calls.mono (calls_of_vc C.plain_ok C.mixed Tryd.func30 rfl h) ?_
  rintro e w' ⟨s, rfl, hK⟩
  exact ⟨s.1, rfl, hK⟩

/-- phosphor/line.Same -/
def sh_line_Same (a : Slc) (b : Slc) (w : World) (K : Bool → World → Prop) : Prop :=
  c_slices_Equal_line_Line_api_Cell a b w fun t7 w1 =>
  K t7 w1

def an_line_Same : List Ann := [.none, .none]

theorem vc_line_Same (a : Slc) (b : Slc) (w : World) (K : Bool → World → Prop) :
    vcFn C (Tryd.f31.body.getD .skip) Tryd.f31.results.toList Tryd.f31.ntmps an_line_Same [Kind.bool] [(.slice a.a a.n a.c), (.slice b.a b.n b.c)] w (fun s w => K s.1 w) = sh_line_Same a b w K := by kernel_rfl

theorem call_line_Same (a : Slc) (b : Slc) {w : World} {K : Bool → World → Prop} (h : sh_line_Same a b w K) : c_line_Same a b w K := by
  rw [← vc_line_Same] at h
  refine Calls.mono (calls_of_vc C.plain_ok C.mixed Tryd.func31 rfl h) ?_
  rintro e w' ⟨s, rfl, hK⟩
  exact ⟨s.1, rfl, hK⟩

/-- phosphor/phosphorlaw16.known -/
def sh_phosphorlaw16_known  (w : World) (K : Bool → World → Prop) : Prop :=
  c_grid_New 2 3 1 w fun t10 t10_1 w1 =>
  joinP (σ := Unit) (fun s w2 =>
    c_line_New 3 (⟨0, 0, 0⟩ : T_api_Attr) w2 fun t21 w3 =>
    c_line_Line_Put t21 0 97 1 (⟨0, 0, 0⟩ : T_api_Attr) w3 fun t23 t23_1 w4 =>
    c_grid_Grid_Set t10 0 t23 w4 fun t28 w5 =>
    c_grid_Grid_Scroll t10 0 2 1 (⟨0, 0, 0⟩ : T_api_Attr) w5 fun t31 w6 =>
    c_grid_Grid_Old t10 0 w6 fun t34 t34_1 w7 =>
    cond t28
      (cond (t31 == (1 : Int))
         (cond t34_1
            (c_line_Line_Text t34 w7 fun t47 w8 =>
             cond (t47.toList == (⟨#[97]⟩ : ByteArray).toList)
               (c_grid_Grid_Top t10 w8 fun t52 w9 =>
                cond (t52 == (1 : Int))
                  (c_grid_Grid_First t10 w9 fun t57 w10 =>
                   cond (t57 == (0 : Int))
                     (c_grid_Grid_Back t10 w10 fun t62 w11 =>
                      K (t62 == (1 : Int)) w11)
                     (K false w10))
                  (K false w9))
               (K false w8))
            (K false w7))
         (K false w7))
      (K false w7)) fun J1 =>
  cond (t10_1 != (0 : Int))
    (K false w1)
    (cond (t10.isNone)
       (K false w1)
       (J1 (()) w1))

def an_phosphorlaw16_known : List Ann := [.none, .none, .join [] [0, 13, 14, 15, 16, 17, 18], .none, .none, .none, .none, .none, .none, .none]

theorem vc_phosphorlaw16_known  (w : World) (K : Bool → World → Prop) :
    vcFn C (Tryd.f32.body.getD .skip) Tryd.f32.results.toList Tryd.f32.ntmps an_phosphorlaw16_known [Kind.bool] [] w (fun s w => K s.1 w) = sh_phosphorlaw16_known  w K := by kernel_rfl

theorem call_phosphorlaw16_known  {w : World} {K : Bool → World → Prop} (h : sh_phosphorlaw16_known  w K) : c_phosphorlaw16_known  w K := by
  rw [← vc_phosphorlaw16_known] at h
  refine Calls.mono (calls_of_vc C.plain_ok C.mixed Tryd.func32 rfl h) ?_
  rintro e w' ⟨s, rfl, hK⟩
  exact ⟨s.1, rfl, hK⟩

/-- phosphor/grid.New -/
def sh_grid_New (rows : Int) (cols : Int) (back : Int) (w : World) (K : Option Addr → Int → World → Prop) : Prop :=
  joinP (σ := Unit) (fun s w1 =>
    c_ring_New_line_Line back w1 fun t29 t29_1 w2 =>
    nw 118 [(.pointer t29), (.int .i64 rows), (.int .i64 cols), (.slice none 0 0), (.int .i64 0)] w2 fun t36 w3 =>
    c_grid_Grid_Clear (some t36) (⟨0, 0, 0⟩ : T_api_Attr) w3 fun w4 =>
    K (some t36) 0 w4) fun J1 =>
  c_grid_size rows w fun t12 w5 =>
  cond (!t12)
    (K none 1 w5)
    (c_grid_size cols w5 fun t16 w6 =>
     cond (!t16)
       (K none 1 w6)
       (cond (decide (back < (0 : Int)))
          (K none 1 w6)
          (cond (decide (back > (16384 : Int)))
             (K none 1 w6)
             (J1 (()) w6))))

def an_grid_New : List Ann := [.none, .join [] [6, 7, 11, 12, 13, 14, 15, 16, 17, 18, 19, 20, 21, 22, 23, 24, 25, 26], .none, .none, .none, .none, .none, .none]

theorem vc_grid_New (rows : Int) (cols : Int) (back : Int) (w : World) (K : Option Addr → Int → World → Prop) :
    vcFn C (Tryd.f33.body.getD .skip) Tryd.f33.results.toList Tryd.f33.ntmps an_grid_New [Kind.ptr, (Kind.int .i64)] [(.int .i64 rows), (.int .i64 cols), (.int .i64 back)] w (fun s w => K s.1 s.2.1 w) = sh_grid_New rows cols back w K := by kernel_rfl

theorem call_grid_New (rows : Int) (cols : Int) (back : Int) {w : World} {K : Option Addr → Int → World → Prop} (h : sh_grid_New rows cols back w K) : c_grid_New rows cols back w K := by
  rw [← vc_grid_New] at h
  refine Calls.mono (calls_of_vc C.plain_ok C.mixed Tryd.func33 rfl h) ?_
  rintro e w' ⟨s, rfl, hK⟩
  exact ⟨s.1, s.2.1, rfl, hK⟩

/-- (*phosphor/grid.Grid).Set -/
def sh_grid_Grid_Set (g : Option Addr) (row : Int) (l : Slc) (w : World) (K : Bool → World → Prop) : Prop :=
  joinP (σ := Unit) (fun s w1 =>
    c_grid_Grid_is g row w1 fun t24 w2 =>
    K t24 w2) fun J1 =>
  c_grid_Grid_is g row w fun t9 w3 =>
  cond t9
    (onPtr g fun t11 =>
     ldSl (t11.add 3) w3.drew fun t13 =>
     onPtr g fun t17 =>
     ldI .i64 (t17.add 2) w3.drew fun t19 =>
     c_line_Line_Resize l t19 w3.drew fun t20 w4 =>
     World.cell? w4 (t11.add 3) = some (.slice t13.a t13.n t13.c) ∧
     ixK t13 row 1 fun t21 =>
     stK t21 [(.slice t20.a t20.n t20.c)] w4 fun w5 =>
     J1 (()) w5)
    (J1 (()) w3)

def an_grid_Grid_Set : List Ann := [.none, .join [] [7, 8, 9, 10, 11, 12, 13, 14, 15, 16, 17, 18, 19, 20, 21], .none, .none]

theorem vc_grid_Grid_Set (g : Option Addr) (row : Int) (l : Slc) (w : World) (K : Bool → World → Prop) :
    vcFn C (Tryd.f34.body.getD .skip) Tryd.f34.results.toList Tryd.f34.ntmps an_grid_Grid_Set [Kind.bool] [(.pointer g), (.int .i64 row), (.slice l.a l.n l.c)] w (fun s w => K s.1 w) = sh_grid_Grid_Set g row l w K := by kernel_rfl

theorem call_grid_Grid_Set (g : Option Addr) (row : Int) (l : Slc) {w : World} {K : Bool → World → Prop} (h : sh_grid_Grid_Set g row l w K) : c_grid_Grid_Set g row l w K := by
  rw [← vc_grid_Grid_Set] at h
  refine Calls.mono (calls_of_vc C.plain_ok C.mixed Tryd.func34 rfl h) ?_
  rintro e w' ⟨s, rfl, hK⟩
  exact ⟨s.1, rfl, hK⟩

/-- (*phosphor/grid.Grid).Scroll -/
def sh_grid_Grid_Scroll (g : Option Addr) (top : Int) (past : Int) (n : Int) (a : T_api_Attr) (w : World) (K : Int → World → Prop) : Prop :=
  nw 23 (T_api_Attr.rep.cells a) w fun a_1 w1 =>
  joinP (σ := Unit) (fun s w2 =>
    joinP (σ := Int × Unit) (fun s_1 w3 =>
      onPtr g fun t56 =>
      ldSl (t56.add 3) w3 fun t58 =>
      slK3 t58 (some top) past past 1 fun t62 =>
      cond (!(decide (n > (0 : Int))))
        (onPtr g fun t67 =>
         ldSl (t67.add 3) w3.drew fun t69 =>
         slK3 t69 none top top 1 fun t72 =>
         ldS T_api_Attr.rep a_1 w3.drew fun t75 =>
         slK t62 none (some (IntKind.i64.wrap ((IntKind.i64.wrap (past - top)) - (if (IntKind.i64.wrap (0 - s_1.1)) > s_1.1 then (IntKind.i64.wrap (0 - s_1.1)) else s_1.1)))) 1 fun t81 =>
         onPtr g fun t83 =>
         ldSl (t83.add 3) w3.drew fun t85 =>
         slK t85 (some past) none 1 fun t87 =>
         c_grid_Grid_blanks g (if (IntKind.i64.wrap (0 - s_1.1)) > s_1.1 then (IntKind.i64.wrap (0 - s_1.1)) else s_1.1) t75 w3.drew fun t76 w4 =>
         World.cell? w4 (t83.add 3) = some (.slice t85.a t85.n t85.c) ∧
         World.cell? w4 (t67.add 3) = some (.slice t69.a t69.n t69.c) ∧
         nw 116 [(.slice t72.a t72.n t72.c), (.slice t76.a t76.n t76.c), (.slice t81.a t81.n t81.c), (.slice t87.a t87.n t87.c)] w4 fun t88 w5 =>
         c_slices_Concat_line_Line_line_Line (⟨(some t88), 4, 4⟩ : Slc) w5 fun t89 w6 =>
         onPtr g fun t90 =>
         stK (t90.add 3) [(.slice t89.a t89.n t89.c)] w6 fun w7 =>
         K 0 w7)
        (slK3 t62 none (if (IntKind.i64.wrap (0 - s_1.1)) > s_1.1 then (IntKind.i64.wrap (0 - s_1.1)) else s_1.1) (if (IntKind.i64.wrap (0 - s_1.1)) > s_1.1 then (IntKind.i64.wrap (0 - s_1.1)) else s_1.1) 1 fun t95 =>
         onPtr g fun t98 =>
         ldSl (t98.add 3) w3.drew fun t100 =>
         slK3 t100 none top top 1 fun t103 =>
         slK t62 (some (if (IntKind.i64.wrap (0 - s_1.1)) > s_1.1 then (IntKind.i64.wrap (0 - s_1.1)) else s_1.1)) none 1 fun t106 =>
         ldS T_api_Attr.rep a_1 w3.drew fun t109 =>
         onPtr g fun t112 =>
         ldSl (t112.add 3) w3.drew fun t114 =>
         slK t114 (some past) none 1 fun t116 =>
         c_grid_Grid_blanks g (if (IntKind.i64.wrap (0 - s_1.1)) > s_1.1 then (IntKind.i64.wrap (0 - s_1.1)) else s_1.1) t109 w3.drew fun t110 w8 =>
         World.cell? w8 (t112.add 3) = some (.slice t114.a t114.n t114.c) ∧
         World.cell? w8 (t98.add 3) = some (.slice t100.a t100.n t100.c) ∧
         nw 116 [(.slice t103.a t103.n t103.c), (.slice t106.a t106.n t106.c), (.slice t110.a t110.n t110.c), (.slice t116.a t116.n t116.c)] w8 fun t117 w9 =>
         c_slices_Concat_line_Line_line_Line (⟨(some t117), 4, 4⟩ : Slc) w9 fun t118 w10 =>
         onPtr g fun t119 =>
         stK (t119.add 3) [(.slice t118.a t118.n t118.c)] w10 fun w11 =>
         cond (top != (0 : Int))
           (K 0 w11)
           (loopP (σ := Int × Unit) (fun I3 s_2 w12 =>
              cond (decide (s_2.1 < ((t95.n : Nat) : Int)))
                (ixK t95 s_2.1 1 fun t127 =>
                 ldSl t127 w12 fun t128 =>
                 onPtr g fun t130 =>
                 ldP (t130.add 0) w12 fun t132 =>
                 c_ring_Ring_line_Line_Push t132 t128 w12 fun t134 t134_1 w13 =>
                 I3 ((IntKind.i64.wrap (s_2.1 + (1 : Int))), ()) w13)
                (onPtr g fun t137 =>
                 ldI .i64 (t137.add 4) w12 fun t139 =>
                 onPtr g fun t142 =>
                 stK (t142.add 4) [(.int .i64 (IntKind.i64.wrap (t139 + (if (IntKind.i64.wrap (0 - s_1.1)) > s_1.1 then (IntKind.i64.wrap (0 - s_1.1)) else s_1.1))))] w12 fun w14 =>
                 K (if (IntKind.i64.wrap (0 - s_1.1)) > s_1.1 then (IntKind.i64.wrap (0 - s_1.1)) else s_1.1) w14)) (0, ()) w11))) fun J2 =>
    cond (decide (n > (IntKind.i64.wrap (past - top))))
      (J2 ((IntKind.i64.wrap (past - top)), ()) w2)
      (cond (decide (n < (IntKind.i64.wrap (0 - (IntKind.i64.wrap (past - top))))))
         (J2 ((IntKind.i64.wrap (past - top)), ()) w2)
         (J2 (n, ()) w2))) fun J1 =>
  cond (n == (0 : Int))
    (K 0 w1)
    (cond (decide (top < (0 : Int)))
       (K 0 w1)
       (cond (decide (past ≤ top))
          (K 0 w1)
          (onPtr g fun t31 =>
           ldI .i64 (t31.add 1) w1 fun t33 =>
           cond (decide (past > t33))
             (K 0 w1)
             (J1 (()) w1))))

def an_grid_Grid_Scroll : List Ann := [.none, .join [] [10, 17, 18, 19, 20, 21, 22, 23, 24, 25, 26, 27, 28, 29, 30, 31, 32, 33, 34, 35], .none, .none, .none, .join [(3, (Kind.int .i64))] [3, 41, 42, 43, 44, 45, 46, 47, 48, 49, 50], .none, .none, .none, .none, .none, .none, .none, .none, .none, .none, .none, .none, .none, .none, .join [(125, (Kind.int .i64))] [16, 125, 126, 127, 128, 129, 130, 131, 132, 133, 134, 135], .none, .none, .none, .none, .none, .none]

theorem vc_grid_Grid_Scroll (g : Option Addr) (top : Int) (past : Int) (n : Int) (a : T_api_Attr) (w : World) (K : Int → World → Prop) :
    vcFn C (Tryd.f35.body.getD .skip) Tryd.f35.results.toList Tryd.f35.ntmps an_grid_Grid_Scroll [(Kind.int .i64)] [(.pointer g), (.int .i64 top), (.int .i64 past), (.int .i64 n), (.agg #[(.int .i64 a.Fg), (.int .i64 a.Bg), (.int .i64 a.Flags)])] w (fun s w => K s.1 w) = sh_grid_Grid_Scroll g top past n a w K := by kernel_rfl

theorem call_grid_Grid_Scroll (g : Option Addr) (top : Int) (past : Int) (n : Int) (a : T_api_Attr) {w : World} {K : Int → World → Prop} (h : sh_grid_Grid_Scroll g top past n a w K) : c_grid_Grid_Scroll g top past n a w K := by
  rw [← vc_grid_Grid_Scroll] at h
  refine Calls.mono (calls_of_vc C.plain_ok C.mixed Tryd.func35 rfl h) ?_
  rintro e w' ⟨s, rfl, hK⟩
  exact ⟨s.1, rfl, hK⟩

/-- (*phosphor/grid.Grid).Top -/
def sh_grid_Grid_Top (g : Option Addr) (w : World) (K : Int → World → Prop) : Prop :=
  onPtr g fun t4 =>
  ldI .i64 (t4.add 4) w fun t6 =>
  K t6 w

def an_grid_Grid_Top : List Ann := [.none, .none]

theorem vc_grid_Grid_Top (g : Option Addr) (w : World) (K : Int → World → Prop) :
    vcFn C (Tryd.f36.body.getD .skip) Tryd.f36.results.toList Tryd.f36.ntmps an_grid_Grid_Top [(Kind.int .i64)] [(.pointer g)] w (fun s w => K s.1 w) = sh_grid_Grid_Top g w K := by kernel_rfl

theorem call_grid_Grid_Top (g : Option Addr) {w : World} {K : Int → World → Prop} (h : sh_grid_Grid_Top g w K) : c_grid_Grid_Top g w K := by
  rw [← vc_grid_Grid_Top] at h
  refine Calls.mono (calls_of_vc C.plain_ok C.mixed Tryd.func36 rfl h) ?_
  rintro e w' ⟨s, rfl, hK⟩
  exact ⟨s.1, rfl, hK⟩

/-- (*phosphor/grid.Grid).Line -/
def sh_grid_Grid_Line (g : Option Addr) (row : Int) (w : World) (K : Slc → Bool → World → Prop) : Prop :=
  c_grid_Grid_is g row w fun t8 w1 =>
  cond (!t8)
    (K (⟨none, 0, 0⟩ : Slc) false w1)
    (onPtr g fun t11 =>
     ldSl (t11.add 3) w1 fun t13 =>
     ixK t13 row 1 fun t15 =>
     ldSl t15 w1 fun t16 =>
     c_slices_Clone_line_Line_api_Cell t16 w1 fun t17 w2 =>
     K t17 true w2)

def an_grid_Grid_Line : List Ann := [.none, .none, .none, .none, .none]

theorem vc_grid_Grid_Line (g : Option Addr) (row : Int) (w : World) (K : Slc → Bool → World → Prop) :
    vcFn C (Tryd.f37.body.getD .skip) Tryd.f37.results.toList Tryd.f37.ntmps an_grid_Grid_Line [Kind.slice, Kind.bool] [(.pointer g), (.int .i64 row)] w (fun s w => K s.1 s.2.1 w) = sh_grid_Grid_Line g row w K := by kernel_rfl

theorem call_grid_Grid_Line (g : Option Addr) (row : Int) {w : World} {K : Slc → Bool → World → Prop} (h : sh_grid_Grid_Line g row w K) : c_grid_Grid_Line g row w K := by
  rw [← vc_grid_Grid_Line] at h
  refine Calls.mono (calls_of_vc C.plain_ok C.mixed Tryd.func37 rfl h) ?_
  rintro e w' ⟨s, rfl, hK⟩
  exact ⟨s.1, s.2.1, rfl, hK⟩

/-- (*phosphor/grid.Grid).First -/
def sh_grid_Grid_First (g : Option Addr) (w : World) (K : Int → World → Prop) : Prop :=
  onPtr g fun t4 =>
  ldI .i64 (t4.add 4) w.drew fun t6 =>
  c_grid_Grid_Back g w.drew fun t8 w1 =>
  World.cell? w1 (t4.add 4) = some (.int .i64 t6) ∧
  K (IntKind.i64.wrap (t6 - t8)) w1

def an_grid_Grid_First : List Ann := [.none, .none]

theorem vc_grid_Grid_First (g : Option Addr) (w : World) (K : Int → World → Prop) :
    vcFn C (Tryd.f38.body.getD .skip) Tryd.f38.results.toList Tryd.f38.ntmps an_grid_Grid_First [(Kind.int .i64)] [(.pointer g)] w (fun s w => K s.1 w) = sh_grid_Grid_First g w K := by kernel_rfl

theorem call_grid_Grid_First (g : Option Addr) {w : World} {K : Int → World → Prop} (h : sh_grid_Grid_First g w K) : c_grid_Grid_First g w K := by
  rw [← vc_grid_Grid_First] at h
  refine Calls.mono (calls_of_vc C.plain_ok C.mixed Tryd.func38 rfl h) ?_
  rintro e w' ⟨s, rfl, hK⟩
  exact ⟨s.1, rfl, hK⟩

/-- (*phosphor/grid.Grid).Old -/
def sh_grid_Grid_Old (g : Option Addr) (i : Int) (w : World) (K : Slc → Bool → World → Prop) : Prop :=
  onPtr g fun t10 =>
  ldP (t10.add 0) w fun t12 =>
  c_ring_Ring_line_Line_At t12 i w fun t14 t14_1 w1 =>
  c_slices_Clone_line_Line_api_Cell t14 w1 fun t18 w2 =>
  K t18 t14_1 w2

def an_grid_Grid_Old : List Ann := [.none, .none, .none]

theorem vc_grid_Grid_Old (g : Option Addr) (i : Int) (w : World) (K : Slc → Bool → World → Prop) :
    vcFn C (Tryd.f39.body.getD .skip) Tryd.f39.results.toList Tryd.f39.ntmps an_grid_Grid_Old [Kind.slice, Kind.bool] [(.pointer g), (.int .i64 i)] w (fun s w => K s.1 s.2.1 w) = sh_grid_Grid_Old g i w K := by kernel_rfl

theorem call_grid_Grid_Old (g : Option Addr) (i : Int) {w : World} {K : Slc → Bool → World → Prop} (h : sh_grid_Grid_Old g i w K) : c_grid_Grid_Old g i w K := by
  rw [← vc_grid_Grid_Old] at h
  refine Calls.mono (calls_of_vc C.plain_ok C.mixed Tryd.func39 rfl h) ?_
  rintro e w' ⟨s, rfl, hK⟩
  exact ⟨s.1, s.2.1, rfl, hK⟩

/-- (*phosphor/grid.Grid).Back -/
def sh_grid_Grid_Back (g : Option Addr) (w : World) (K : Int → World → Prop) : Prop :=
  onPtr g fun t4 =>
  ldP (t4.add 0) w fun t6 =>
  c_ring_Ring_line_Line_Len t6 w fun t7 w1 =>
  K t7 w1

def an_grid_Grid_Back : List Ann := [.none, .none]

theorem vc_grid_Grid_Back (g : Option Addr) (w : World) (K : Int → World → Prop) :
    vcFn C (Tryd.f40.body.getD .skip) Tryd.f40.results.toList Tryd.f40.ntmps an_grid_Grid_Back [(Kind.int .i64)] [(.pointer g)] w (fun s w => K s.1 w) = sh_grid_Grid_Back g w K := by kernel_rfl

theorem call_grid_Grid_Back (g : Option Addr) {w : World} {K : Int → World → Prop} (h : sh_grid_Grid_Back g w K) : c_grid_Grid_Back g w K := by
  rw [← vc_grid_Grid_Back] at h
  refine Calls.mono (calls_of_vc C.plain_ok C.mixed Tryd.func40 rfl h) ?_
  rintro e w' ⟨s, rfl, hK⟩
  exact ⟨s.1, rfl, hK⟩

/-- (*phosphor/grid.Grid).Resize -/
def sh_grid_Grid_Resize (g : Option Addr) (rows : Int) (cols : Int) (row : Int) (w : World) (K : Int → Int → World → Prop) : Prop :=
  joinP (σ := Unit) (fun s w1 =>
    onPtr g fun t27 =>
    ldSl (t27.add 3) w1 fun t29 =>
    loopP (σ := Int × Unit) (fun I2 s_1 w2 =>
      cond (decide (s_1.1 < ((t29.n : Nat) : Int)))
        (ixK t29 s_1.1 1 fun t34 =>
         ldSl t34 w2 fun t35 =>
         onPtr g fun t37 =>
         ldSl (t37.add 3) w2.drew fun t39 =>
         c_line_Line_Resize t35 cols w2.drew fun t43 w3 =>
         World.cell? w3 (t37.add 3) = some (.slice t39.a t39.n t39.c) ∧
         ixK t39 s_1.1 1 fun t44 =>
         stK t44 [(.slice t43.a t43.n t43.c)] w3 fun w4 =>
         I2 ((IntKind.i64.wrap (s_1.1 + (1 : Int))), ()) w4)
        (onPtr g fun t48 =>
         stK (t48.add 2) [(.int .i64 cols)] w2 fun w5 =>
         joinP (σ := Int × Unit) (fun s_2 w6 =>
           onPtr g fun t68 =>
           ldSl (t68.add 3) w6.drew fun t70 =>
           onPtr g fun t73 =>
           ldSl (t73.add 3) w6.drew fun t75 =>
           slK t70 none (some (if ((t75.n : Nat) : Int) < rows then ((t75.n : Nat) : Int) else rows)) 1 fun t78 =>
           onPtr g fun t82 =>
           ldSl (t82.add 3) w6.drew fun t84 =>
           c_grid_Grid_blanks g (IntKind.i64.wrap (rows - ((t84.n : Nat) : Int))) (⟨0, 0, 0⟩ : T_api_Attr) w6.drew fun t88 w7 =>
           World.cell? w7 (t73.add 3) = some (.slice t75.a t75.n t75.c) ∧
           World.cell? w7 (t68.add 3) = some (.slice t70.a t70.n t70.c) ∧
           nw 116 [(.slice t78.a t78.n t78.c), (.slice t88.a t88.n t88.c)] w7 fun t89 w8 =>
           c_slices_Concat_line_Line_line_Line (⟨(some t89), 2, 2⟩ : Slc) w8 fun t90 w9 =>
           onPtr g fun t91 =>
           stK (t91.add 3) [(.slice t90.a t90.n t90.c)] w9 fun w10 =>
           onPtr g fun t95 =>
           stK (t95.add 1) [(.int .i64 rows)] w10 fun w11 =>
           K s_2.1 0 w11) fun J3 =>
         cond (decide (row ≥ rows))
           (onPtr g fun t55 =>
            ldI .i64 (t55.add 1) w5 fun t57 =>
            c_grid_Grid_Scroll g 0 t57 (IntKind.i64.wrap ((IntKind.i64.wrap (row + (1 : Int))) - rows)) (⟨0, 0, 0⟩ : T_api_Attr) w5 fun t63 w12 =>
            J3 ((IntKind.i64.wrap (rows - (1 : Int))), ()) w12)
           (J3 (row, ()) w5))) (0, ()) w1) fun J1 =>
  c_grid_size rows w fun t13 w13 =>
  cond (!t13)
    (K 0 1 w13)
    (c_grid_size cols w13 fun t17 w14 =>
     cond (!t17)
       (K 0 1 w14)
       (c_grid_Grid_is g row w14 fun t23 w15 =>
        cond (!t23)
          (K 0 1 w15)
          (J1 (()) w15)))

def an_grid_Grid_Resize : List Ann := [.none, .join [] [8, 9, 12, 13, 14, 15, 16, 17, 18, 19, 20, 21, 22, 23, 24, 25], .none, .none, .none, .none, .join [(31, (Kind.int .i64))] [10, 11, 31, 32, 33, 34, 35, 36, 37, 38, 39, 40, 41, 42, 43, 44, 45], .none, .none, .none, .none, .none, .join [(3, (Kind.int .i64))] [3, 50, 51, 52, 53, 54, 55, 56, 57, 58, 59, 60, 61, 62, 63, 64, 65], .none, .none, .none, .none, .none]

theorem vc_grid_Grid_Resize (g : Option Addr) (rows : Int) (cols : Int) (row : Int) (w : World) (K : Int → Int → World → Prop) :
    vcFn C (Tryd.f41.body.getD .skip) Tryd.f41.results.toList Tryd.f41.ntmps an_grid_Grid_Resize [(Kind.int .i64), (Kind.int .i64)] [(.pointer g), (.int .i64 rows), (.int .i64 cols), (.int .i64 row)] w (fun s w => K s.1 s.2.1 w) = sh_grid_Grid_Resize g rows cols row w K := by kernel_rfl

theorem call_grid_Grid_Resize (g : Option Addr) (rows : Int) (cols : Int) (row : Int) {w : World} {K : Int → Int → World → Prop} (h : sh_grid_Grid_Resize g rows cols row w K) : c_grid_Grid_Resize g rows cols row w K := by
  rw [← vc_grid_Grid_Resize] at h
  refine Calls.mono (calls_of_vc C.plain_ok C.mixed Tryd.func41 rfl h) ?_
  rintro e w' ⟨s, rfl, hK⟩
  exact ⟨s.1, s.2.1, rfl, hK⟩

/-- (*phosphor/grid.Grid).Text -/
def sh_grid_Grid_Text (g : Option Addr) (w : World) (K : Slc → World → Prop) : Prop :=
  onPtr g fun t7 =>
  ldSl (t7.add 3) w fun t9 =>
  loopP (σ := Slc × Int × Unit) (fun I1 s w1 =>
    cond (decide (s.2.1 < ((t9.n : Nat) : Int)))
      (ixK t9 s.2.1 1 fun t13 =>
       ldSl t13 w1 fun t14 =>
       c_line_Line_Text t14 w1 fun t17 w2 =>
       nw 9 [(.string t17)] w2 fun t18 w3 =>
       apK Tryd.prog #[71, 71] 71 s.1 (⟨(some t18), 1, 1⟩ : Slc) w3 fun t19 w4 =>
       I1 (t19, (IntKind.i64.wrap (s.2.1 + (1 : Int))), ()) w4)
      (K s.1 w1)) (⟨none, 0, 0⟩, 0, ()) w

def an_grid_Grid_Text : List Ann := [.none, .none, .none, .none, .join [(3, Kind.slice), (11, (Kind.int .i64))] [3, 5, 11, 12, 13, 14, 15, 16, 17, 18, 19, 20], .none, .none, .none, .none, .none]

theorem vc_grid_Grid_Text (g : Option Addr) (w : World) (K : Slc → World → Prop) :
    vcFn C (Tryd.f42.body.getD .skip) Tryd.f42.results.toList Tryd.f42.ntmps an_grid_Grid_Text [Kind.slice] [(.pointer g)] w (fun s w => K s.1 w) = sh_grid_Grid_Text g w K := by kernel_rfl

theorem call_grid_Grid_Text (g : Option Addr) {w : World} {K : Slc → World → Prop} (h : sh_grid_Grid_Text g w K) : c_grid_Grid_Text g w K := by
  rw [← vc_grid_Grid_Text] at h
  refine Calls.mono (calls_of_vc C.plain_ok C.mixed Tryd.func42 rfl h) ?_
  rintro e w' ⟨s, rfl, hK⟩
  exact ⟨s.1, rfl, hK⟩

end Go.Proofs.YtgejghejnibocaaDoor
