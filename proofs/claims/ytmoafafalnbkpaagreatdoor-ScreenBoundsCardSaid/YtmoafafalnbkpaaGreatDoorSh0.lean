/- By program (gen.py): the typed text of the program's functions, part 0. -/
import Derived.Test.YtmoafafalnbkpaaGreatDoorDefs
set_option maxRecDepth 100000
set_option linter.unusedVariables false
namespace Go.Proofs.YtmoafafalnbkpaaGreatDoor
open Go.Vc
/-- phosphor/phosphorlaw17.ScreenSaves -/
def sh_phosphorlaw17_ScreenSaves (c : T_api_Config) (ahead : Slc) (between : Slc) (w : World) (K : Bool → World → Prop) : Prop :=
  nw ty_api_Config (T_api_Config.rep.cells c) w fun c_1 w1 =>
  c_phosphorlaw17_known  w1 fun t13 w2 =>
  cond (!t13)
    (K false w2)
    (joinP (σ := Unit) (fun s w3 =>
       ldS T_api_Config.rep c_1 w3 fun t29 =>
       c_screen_New t29 w3 fun t30 t30_1 w4 =>
       joinP (σ := Unit) (fun s_1 w5 =>
         loopP (σ := Int × Unit) (fun I3 s_2 w6 =>
           cond (decide (s_2.1 < ((ahead.n : Nat) : Int)))
             (ixK ahead s_2.1 10 fun t47 =>
              ldI .i64 (t47.add 0) w6 fun t49 =>
              cond (t49 != (2 : Int))
                (ixK ahead s_2.1 10 fun t54 =>
                 ldS T_parse_Event.rep (t54.add 1) w6 fun t56 =>
                 c_screen_Screen_Do t30 t56 w6 fun t57 w7 =>
                 I3 ((IntKind.i64.wrap (s_2.1 + (1 : Int))), ()) w7)
                (I3 ((IntKind.i64.wrap (s_2.1 + (1 : Int))), ()) w6))
             (c_screen_Screen_Cursor t30 w6 fun t59 w8 =>
              nw ty_screen_Cursor [(.int .i64 0), (.int .i64 0), (.bool false), (.int .i64 0), (.int .i64 0), (.int .i64 0), (.bool false), (.int .u8 0), (.int .u8 0), (.int .i64 0)] w8 fun was w9 =>
              stK was (T_screen_Cursor.rep.cells t59) w9 fun w10 =>
              c_screen_Screen_Do t30 (⟨3, 0, 55, 0, (⟨#[]⟩ : ByteArray), ⟨none, 0, 0⟩, ⟨none, 0, 0⟩⟩ : T_parse_Event) w10 fun t62 w11 =>
              loopP (σ := Int × Unit) (fun I4 s_3 w12 =>
                cond (decide (s_3.1 < ((between.n : Nat) : Int)))
                  (ixK between s_3.1 10 fun t71 =>
                   ldS T_parse_Event.rep (t71.add 1) w12 fun t73 =>
                   nw ty_parse_Event [(.int .i64 0), (.int .i32 0), (.int .u8 0), (.int .u8 0), (.string (⟨#[]⟩ : ByteArray)), (.slice none 0 0), (.slice none 0 0)] w12 fun x w13 =>
                   stK x (T_parse_Event.rep.cells t73) w13 fun w14 =>
                   joinP (σ := Bool × Unit) (fun s_4 w15 =>
                     cond s_4.1
                       (ldS T_parse_Event.rep x w15 fun t103 =>
                        c_screen_Screen_Do t30 t103 w15 fun t104 w16 =>
                        I4 ((IntKind.i64.wrap (s_3.1 + (1 : Int))), ()) w16)
                       (I4 ((IntKind.i64.wrap (s_3.1 + (1 : Int))), ()) w15)) fun J5 =>
                   ldI .i64 (x.add 0) w14 fun t75 =>
                   cond (t75 == (1 : Int))
                     (J5 (true, ()) w14)
                     (ldI .i64 (x.add 0) w14 fun t79 =>
                      cond (t79 == (2 : Int))
                        (J5 (true, ()) w14)
                        (ldI .i64 (x.add 0) w14 fun t84 =>
                         cond (t84 == (4 : Int))
                           (ldI .u8 (x.add 3) w14 fun t88 =>
                            cond (t88 == (0 : Int))
                              (ldStr (x.add 4) w14 fun t93 =>
                               cond (t93.toList == (⟨#[]⟩ : ByteArray).toList)
                                 (ldI .u8 (x.add 2) w14 fun t98 =>
                                  J5 ((t98 != (115 : Int)), ()) w14)
                                 (J5 (false, ()) w14))
                              (J5 (false, ()) w14))
                           (J5 (false, ()) w14))))
                  (c_screen_Screen_Do t30 (⟨3, 0, 56, 0, (⟨#[]⟩ : ByteArray), ⟨none, 0, 0⟩, ⟨none, 0, 0⟩⟩ : T_parse_Event) w12 fun t107 w17 =>
                   ldS T_screen_Cursor.rep was w17.drew fun t110 =>
                   c_screen_Screen_Cursor t30 w17.drew fun t109 w18 =>
                   cellsAt w18 was (T_screen_Cursor.rep.cells t110) ∧
                   K ((t109.Row == t110.Row) && ((t109.Col == t110.Col) && ((t109.Wrap == t110.Wrap) && (((t109.A.Fg == t110.A.Fg) && ((t109.A.Bg == t110.A.Bg) && ((t109.A.Flags == t110.A.Flags) && true))) && ((t109.Origin == t110.Origin) && (((t109.Sets.e0 == t110.Sets.e0) && ((t109.Sets.e1 == t110.Sets.e1) && true)) && ((t109.Shift == t110.Shift) && true))))))) w18)) (0, ()) w11)) (0, ()) w5) fun J2 =>
       cond (t30_1 != (0 : Int))
         (K false w4)
         (cond (t30.isNone)
            (K false w4)
            (J2 (()) w4))) fun J1 =>
     c_phosphorlaw17_Few ahead w2 fun t16 w19 =>
     cond (!t16)
       (K true w19)
       (c_phosphorlaw17_Few between w19 fun t20 w20 =>
        cond (!t20)
          (K true w20)
          (ldS T_api_Config.rep c_1 w20 fun t24 =>
           c_phosphorlaw17_Small t24 w20 fun t25 w21 =>
           cond (!t25)
             (K true w21)
             (J1 (()) w21))))

def an_phosphorlaw17_ScreenSaves : List Ann := [.none, .none, .none, .none, .join [] [6, 15, 16, 17, 18, 19, 20, 21, 22, 23, 24, 25, 26, 27], .none, .none, .none, .join [] [6, 33, 34, 35, 36, 37, 38], .none, .none, .none, .none, .join [(9, (Kind.int .i64))] [9, 39, 40, 41, 42, 43, 44, 45, 46, 47, 48, 49, 50, 51, 52, 53, 54, 55, 56, 57], .none, .none, .none, .none, .none, .none, .none, .none, .join [(11, (Kind.int .i64))] [11, 12, 63, 64, 65, 66, 67, 68, 69, 70, 71, 72, 73, 74, 75, 76, 77, 78, 79, 80, 81, 82, 83, 84, 85, 86, 87, 88, 89, 90, 91, 92, 93, 94, 95, 96, 97, 98, 99, 100, 101, 102, 103, 104], .none, .none, .none, .none, .join [(101, Kind.bool)] [74, 75, 76, 77, 78, 79, 80, 81, 82, 83, 84, 85, 86, 87, 88, 89, 90, 91, 92, 93, 94, 95, 96, 97, 98, 99, 100, 101], .none, .none]

theorem vc_phosphorlaw17_ScreenSaves (c : T_api_Config) (ahead : Slc) (between : Slc) (w : World) (K : Bool → World → Prop) :
    vcFn C (Tryz.f3.body.getD .skip) Tryz.f3.results.toList Tryz.f3.ntmps an_phosphorlaw17_ScreenSaves [Kind.bool] [(.agg #[(.int .i64 c.Rows), (.int .i64 c.Cols), (.int .i64 c.CellW), (.int .i64 c.CellH), (.int .i64 c.Back), (.int .i64 c.Quota)]), (.slice ahead.a ahead.n ahead.c), (.slice between.a between.n between.c)] w (fun s w => K s.1 w) = sh_phosphorlaw17_ScreenSaves c ahead between w K := by kernel_rfl

theorem call_phosphorlaw17_ScreenSaves (c : T_api_Config) (ahead : Slc) (between : Slc) {w : World} {K : Bool → World → Prop} (h : sh_phosphorlaw17_ScreenSaves c ahead between w K) : c_phosphorlaw17_ScreenSaves c ahead between w K := by
  rw [← vc_phosphorlaw17_ScreenSaves] at h
  refine Calls.mono (calls_of_vc C.plain_ok C.mixed Tryz.func3 rfl h) ?_
  rintro e w' ⟨s, rfl, hK⟩
  exact ⟨s.1, rfl, hK⟩

/-- phosphor/phosphorlaw17.ScreenWraps -/
def sh_phosphorlaw17_ScreenWraps (cols : Int) (n : Int) (wraps : Bool) (w : World) (K : Bool → World → Prop) : Prop :=
  c_phosphorlaw17_known  w fun t16 w1 =>
  cond (!t16)
    (K false w1)
    (joinP (σ := Unit) (fun s w2 =>
       c_phosphorlaw17_made 40 cols w2 fun t33 w3 =>
       cond (t33.isNone)
         (K false w3)
         (joinP (σ := Unit) (fun s_1 w4 =>
            loopP (σ := Int × Unit) (fun I3 s_2 w5 =>
              cond (decide (s_2.1 < n))
                ((70 : Int) ≠ 0 ∧
                 nw ty_uint8 [(.int .u8 (IntKind.u8.wrap (IntKind.i64.wrap ((48 : Int) + (s_2.1.tmod (70 : Int))))))] w5 fun t52 w6 =>
                 runK1 PG (convert ty_sl_uint8 ty_string (.slice (some t52) 1 1)) Kind.string w6 fun (t53 : ByteArray) w7 =>
                 c_phosphorlaw17_text t33 t53 w7 fun w8 =>
                 I3 ((IntKind.i64.wrap (s_2.1 + (1 : Int))), ()) w8)
                (c_screen_Screen_Cursor t33 w5 fun t56 w9 =>
                 nw ty_screen_Cursor [(.int .i64 0), (.int .i64 0), (.bool false), (.int .i64 0), (.int .i64 0), (.int .i64 0), (.bool false), (.int .u8 0), (.int .u8 0), (.int .i64 0)] w9 fun u w10 =>
                 stK u (T_screen_Cursor.rep.cells t56) w10 fun w11 =>
                 c_screen_Screen_Grid t33 w11 fun t58 w12 =>
                 c_grid_Grid_Text t58 w12 fun t59 w13 =>
                 cond (!wraps)
                   (joinP (σ := Int × Unit) (fun s_3 w14 =>
                      (70 : Int) ≠ 0 ∧
                      ldI .i64 (u.add 0) w14.drew fun t75 =>
                      cond (t75 == (0 : Int))
                        (ldI .i64 (u.add 1) w14.drew fun t79 =>
                         cond (t79 == s_3.1)
                           (ldB (u.add 2) w14.drew fun t85 =>
                            cond (!t85)
                              (ixK t59 0 1 fun t90 =>
                               ldStr t90 w14.drew fun t91 =>
                               cond (decide ((t91.size : Int) > (0 : Int)))
                                 (ixK t59 0 1 fun t97 =>
                                  ldStr t97 w14.drew fun t98 =>
                                  ixK t59 0 1 fun t100 =>
                                  ldStr t100 w14.drew fun t101 =>
                                  ixS t98 (IntKind.i64.wrap ((t101.size : Int) - (1 : Int))) fun t104 =>
                                  cond (t104 == (IntKind.u8.wrap (IntKind.i64.wrap ((48 : Int) + ((IntKind.i64.wrap (n - (1 : Int))).tmod (70 : Int))))))
                                    (ixK t59 1 1 fun t110 =>
                                     ldStr t110 w14.drew fun t111 =>
                                     K (t111.toList == (⟨#[]⟩ : ByteArray).toList) w14.drew)
                                    (K false w14.drew))
                                 (K false w14.drew))
                              (K false w14.drew))
                           (K false w14.drew))
                        (K false w14.drew)) fun J4 =>
                    cond (decide (n > (IntKind.i64.wrap (cols - (1 : Int)))))
                      (J4 ((IntKind.i64.wrap (cols - (1 : Int))), ()) w13)
                      (J4 (n, ()) w13))
                   (cols ≠ 0 ∧
                    cols ≠ 0 ∧
                    cols ≠ 0 ∧
                    joinP (σ := Int × Int × Unit) (fun s_4 w15 =>
                      ldI .i64 (u.add 0) w15 fun t130 =>
                      cond (t130 == s_4.1)
                        (ldI .i64 (u.add 1) w15 fun t135 =>
                         cond (t135 == s_4.2.1)
                           (ldB (u.add 2) w15 fun t141 =>
                            K (t141 == ((n.tmod cols) == (0 : Int))) w15)
                           (K false w15))
                        (K false w15)) fun J5 =>
                    cond ((n.tmod cols) == (0 : Int))
                      (J5 ((IntKind.i64.wrap ((IntKind.i64.wrap (n.tdiv cols)) - (1 : Int))), (IntKind.i64.wrap (cols - (1 : Int))), ()) w13)
                      (J5 ((IntKind.i64.wrap (n.tdiv cols)), (n.tmod cols), ()) w13)))) (0, ()) w4) fun J2 =>
          cond (!wraps)
            (nw ty_int [(.int .i64 7)] w3 fun t39 w16 =>
             c_screen_Screen_Do t33 (⟨4, 0, 108, 63, (⟨#[]⟩ : ByteArray), ⟨(some t39), 1, 1⟩, ⟨none, 0, 0⟩⟩ : T_parse_Event) w16 fun t41 w17 =>
             J2 (()) w17)
            (J2 (()) w3))) fun J1 =>
     cond (decide (cols < (2 : Int)))
       (K true w1)
       (cond (decide (cols > (30 : Int)))
          (K true w1)
          (cond (decide (n < (1 : Int)))
             (K true w1)
             (cond (decide (n > (60 : Int)))
                (K true w1)
                (J1 (()) w1)))))

def an_phosphorlaw17_ScreenWraps : List Ann := [.none, .none, .none, .none, .join [] [6, 18, 19, 20, 21, 22, 23, 24, 25, 26, 27, 28, 29, 30, 31], .none, .none, .none, .none, .none, .none, .join [] [36, 37, 38, 39, 40, 41], .none, .none, .none, .join [(8, (Kind.int .i64))] [8, 42, 43, 44, 45, 46, 47, 48, 49, 50, 51, 52, 53, 54], .none, .none, .none, .none, .none, .none, .none, .none, .join [(11, (Kind.int .i64))] [11, 63, 64, 65, 66, 67, 68], .none, .none, .none, .none, .none, .none, .join [(14, (Kind.int .i64)), (15, (Kind.int .i64))] [14, 15, 124, 125, 126, 127, 128], .none, .none, .none]

theorem vc_phosphorlaw17_ScreenWraps (cols : Int) (n : Int) (wraps : Bool) (w : World) (K : Bool → World → Prop) :
    vcFn C (Tryz.f4.body.getD .skip) Tryz.f4.results.toList Tryz.f4.ntmps an_phosphorlaw17_ScreenWraps [Kind.bool] [(.int .i64 cols), (.int .i64 n), (.bool wraps)] w (fun s w => K s.1 w) = sh_phosphorlaw17_ScreenWraps cols n wraps w K := by kernel_rfl

theorem call_phosphorlaw17_ScreenWraps (cols : Int) (n : Int) (wraps : Bool) {w : World} {K : Bool → World → Prop} (h : sh_phosphorlaw17_ScreenWraps cols n wraps w K) : c_phosphorlaw17_ScreenWraps cols n wraps w K := by
  rw [← vc_phosphorlaw17_ScreenWraps] at h
  refine Calls.mono (calls_of_vc C.plain_ok C.mixed Tryz.func4 rfl h) ?_
  rintro e w' ⟨s, rfl, hK⟩
  exact ⟨s.1, rfl, hK⟩

/-- phosphor/phosphorlaw17.ScreenMoves -/
def sh_phosphorlaw17_ScreenMoves (rows : Int) (cols : Int) (row : Int) (col : Int) (top : Int) (past : Int) (origin : Bool) (w : World) (K : Bool → World → Prop) : Prop :=
  c_phosphorlaw17_known  w fun t23 w1 =>
  cond (!t23)
    (K false w1)
    (joinP (σ := Unit) (fun s w2 =>
       c_phosphorlaw17_made rows cols w2 fun t76 w3 =>
       cond (t76.isNone)
         (K false w3)
         (nw ty_int [(.int .i64 (IntKind.i64.wrap (top + (1 : Int)))), (.int .i64 past)] w3 fun t83 w4 =>
          c_phosphorlaw17_csi t76 114 (⟨(some t83), 2, 2⟩ : Slc) w4 fun w5 =>
          joinP (σ := Int × Int × Unit) (fun s_1 w6 =>
            nw ty_int [(.int .i64 row), (.int .i64 col)] w6 fun t98 w7 =>
            c_phosphorlaw17_csi t76 72 (⟨(some t98), 2, 2⟩ : Slc) w7 fun w8 =>
            joinP (σ := Int × Unit) (fun s_2 w9 =>
              joinP (σ := Int × Unit) (fun s_3 w10 =>
                joinP (σ := Int × Unit) (fun s_4 w11 =>
                  joinP (σ := Int × Unit) (fun s_5 w12 =>
                    c_screen_Screen_Cursor t76 w12 fun t119 w13 =>
                    nw ty_screen_Cursor [(.int .i64 0), (.int .i64 0), (.bool false), (.int .i64 0), (.int .i64 0), (.int .i64 0), (.bool false), (.int .u8 0), (.int .u8 0), (.int .i64 0)] w13 fun u w14 =>
                    stK u (T_screen_Cursor.rep.cells t119) w14 fun w15 =>
                    c_screen_Screen_Margins t76 w15 fun t122 t122_1 w16 =>
                    ldI .i64 (u.add 0) w16 fun t126 =>
                    cond (t126 == s_4.1)
                      (ldI .i64 (u.add 1) w16 fun t131 =>
                       cond (t131 == (IntKind.i64.wrap (s_5.1 - (1 : Int))))
                         (cond (t122 == top)
                            (cond (t122_1 == past)
                               (ldB (u.add 2) w16 fun t148 =>
                                K (!t148) w16)
                               (K false w16))
                            (K false w16))
                         (K false w16))
                      (K false w16)) fun J6 =>
                  cond (decide (s_3.1 > cols))
                    (J6 (cols, ()) w11)
                    (J6 (s_3.1, ()) w11)) fun J5 =>
                cond (decide ((IntKind.i64.wrap ((IntKind.i64.wrap (s_1.1 + s_2.1)) - (1 : Int))) > s_1.2.1))
                  (J5 (s_1.2.1, ()) w10)
                  (J5 ((IntKind.i64.wrap ((IntKind.i64.wrap (s_1.1 + s_2.1)) - (1 : Int))), ()) w10)) fun J4 =>
              cond (col == (0 : Int))
                (J4 (1, ()) w9)
                (J4 (col, ()) w9)) fun J3 =>
            cond (row == (0 : Int))
              (J3 (1, ()) w8)
              (J3 (row, ()) w8)) fun J2 =>
          cond origin
            (nw ty_int [(.int .i64 6)] w5 fun t89 w17 =>
             c_screen_Screen_Do t76 (⟨4, 0, 104, 63, (⟨#[]⟩ : ByteArray), ⟨(some t89), 1, 1⟩, ⟨none, 0, 0⟩⟩ : T_parse_Event) w17 fun t91 w18 =>
             J2 (top, (IntKind.i64.wrap (past - (1 : Int))), ()) w18)
            (J2 (0, (IntKind.i64.wrap (rows - (1 : Int))), ()) w5))) fun J1 =>
     cond (decide (rows < (2 : Int)))
       (K true w1)
       (cond (decide (rows > (20 : Int)))
          (K true w1)
          (cond (decide (cols < (1 : Int)))
             (K true w1)
             (cond (decide (cols > (20 : Int)))
                (K true w1)
                (cond (decide (row < (0 : Int)))
                   (K true w1)
                   (cond (decide (row > (65535 : Int)))
                      (K true w1)
                      (cond (decide (col < (0 : Int)))
                         (K true w1)
                         (cond (decide (col > (65535 : Int)))
                            (K true w1)
                            (cond (decide (top < (0 : Int)))
                               (K true w1)
                               (cond (decide (past < (2 : Int)))
                                  (K true w1)
                                  (cond (decide (past > rows))
                                     (K true w1)
                                     (cond (decide (top > (IntKind.i64.wrap (past - (2 : Int)))))
                                        (K true w1)
                                        (J1 (()) w1)))))))))))))

def an_phosphorlaw17_ScreenMoves : List Ann := [.none, .none, .none, .none, .join [] [14, 25, 26, 27, 28, 29, 30, 31, 32, 33, 34, 35, 36, 37, 38, 39, 40, 41, 42, 43, 44, 45, 46, 47, 48, 49, 50, 51, 52, 53, 54, 55, 56, 57, 58, 59, 60, 61, 62, 63, 64, 65, 66, 67, 68, 69, 70, 71, 72, 73], .none, .none, .none, .none, .none, .none, .none, .none, .none, .join [(16, (Kind.int .i64)), (17, (Kind.int .i64))] [16, 17, 87, 88, 89, 90, 91, 92, 93, 94], .none, .none, .none, .none, .none, .join [(18, (Kind.int .i64))] [18, 101, 102], .none, .none, .join [(19, (Kind.int .i64))] [19, 104, 105], .none, .none, .join [(18, (Kind.int .i64))] [18, 110, 111, 112, 113], .none, .join [(19, (Kind.int .i64))] [19, 114, 115, 116, 117], .none, .none, .none, .none]

theorem vc_phosphorlaw17_ScreenMoves (rows : Int) (cols : Int) (row : Int) (col : Int) (top : Int) (past : Int) (origin : Bool) (w : World) (K : Bool → World → Prop) :
    vcFn C (Tryz.f5.body.getD .skip) Tryz.f5.results.toList Tryz.f5.ntmps an_phosphorlaw17_ScreenMoves [Kind.bool] [(.int .i64 rows), (.int .i64 cols), (.int .i64 row), (.int .i64 col), (.int .i64 top), (.int .i64 past), (.bool origin)] w (fun s w => K s.1 w) = sh_phosphorlaw17_ScreenMoves rows cols row col top past origin w K := by kernel_rfl

theorem call_phosphorlaw17_ScreenMoves (rows : Int) (cols : Int) (row : Int) (col : Int) (top : Int) (past : Int) (origin : Bool) {w : World} {K : Bool → World → Prop} (h : sh_phosphorlaw17_ScreenMoves rows cols row col top past origin w K) : c_phosphorlaw17_ScreenMoves rows cols row col top past origin w K := by
  rw [← vc_phosphorlaw17_ScreenMoves] at h
  refine Calls.mono (calls_of_vc C.plain_ok C.mixed Tryz.func5 rfl h) ?_
  rintro e w' ⟨s, rfl, hK⟩
  exact ⟨s.1, rfl, hK⟩

/-- phosphor/phosphorlaw17.ScreenMargins -/
def sh_phosphorlaw17_ScreenMargins (rows : Int) (top : Int) (past : Int) (n : Int) (w : World) (K : Bool → World → Prop) : Prop :=
  c_phosphorlaw17_known  w fun t16 w1 =>
  cond (!t16)
    (K false w1)
    (joinP (σ := Unit) (fun s w2 =>
       c_phosphorlaw17_made rows 3 w2 fun t52 w3 =>
       cond (t52.isNone)
         (K false w3)
         (loopP (σ := Int × Unit) (fun I2 s_1 w4 =>
            cond (decide (s_1.1 < rows))
              (nw ty_int [(.int .i64 (IntKind.i64.wrap (s_1.1 + (1 : Int)))), (.int .i64 1)] w4 fun t63 w5 =>
               c_phosphorlaw17_csi t52 72 (⟨(some t63), 2, 2⟩ : Slc) w5 fun w6 =>
               nw ty_uint8 [(.int .u8 (IntKind.u8.wrap (IntKind.i64.wrap ((65 : Int) + s_1.1))))] w6 fun t69 w7 =>
               runK1 PG (convert ty_sl_uint8 ty_string (.slice (some t69) 1 1)) Kind.string w7 fun (t70 : ByteArray) w8 =>
               c_phosphorlaw17_text t52 t70 w8 fun w9 =>
               I2 ((IntKind.i64.wrap (s_1.1 + (1 : Int))), ()) w9)
              (nw ty_int [(.int .i64 (IntKind.i64.wrap (top + (1 : Int)))), (.int .i64 past)] w4 fun t76 w10 =>
               c_phosphorlaw17_csi t52 114 (⟨(some t76), 2, 2⟩ : Slc) w10 fun w11 =>
               nw ty_int [(.int .i64 past), (.int .i64 1)] w11 fun t80 w12 =>
               c_phosphorlaw17_csi t52 72 (⟨(some t80), 2, 2⟩ : Slc) w12 fun w13 =>
               loopP (σ := Int × Unit) (fun I3 s_2 w14 =>
                 cond (decide (s_2.1 < n))
                   (c_screen_Screen_Do t52 (⟨2, 0, 10, 0, (⟨#[]⟩ : ByteArray), ⟨none, 0, 0⟩, ⟨none, 0, 0⟩⟩ : T_parse_Event) w14 fun t89 w15 =>
                    I3 ((IntKind.i64.wrap (s_2.1 + (1 : Int))), ()) w15)
                   (c_screen_Screen_Grid t52 w14 fun t91 w16 =>
                    c_grid_Grid_Text t91 w16 fun t92 w17 =>
                    cond (((t92.n : Nat) : Int) != rows)
                      (K false w17)
                      (loopP (σ := Int × Unit) (fun I4 s_3 w18 =>
                         cond (decide (s_3.1 < rows))
                           (nw ty_uint8 [(.int .u8 (IntKind.u8.wrap (IntKind.i64.wrap ((65 : Int) + s_3.1))))] w18 fun t105 w19 =>
                            runK1 PG (convert ty_sl_uint8 ty_string (.slice (some t105) 1 1)) Kind.string w19 fun (t106 : ByteArray) w20 =>
                            joinP (σ := ByteArray × Unit) (fun s_4 w21 =>
                              ixK t92 s_3.1 1 fun t129 =>
                              ldStr t129 w21 fun t130 =>
                              cond (!(t130.toList == s_4.1.toList))
                                (K false w21)
                                (I4 ((IntKind.i64.wrap (s_3.1 + (1 : Int))), ()) w21)) fun J5 =>
                            joinP (σ := Bool × Unit) (fun s_5 w22 =>
                              cond s_5.1
                                (cond (decide ((IntKind.i64.wrap (s_3.1 + n)) < past))
                                   (nw ty_uint8 [(.int .u8 (IntKind.u8.wrap (IntKind.i64.wrap ((IntKind.i64.wrap ((65 : Int) + s_3.1)) + n))))] w22 fun t125 w23 =>
                                    runK1 PG (convert ty_sl_uint8 ty_string (.slice (some t125) 1 1)) Kind.string w23 fun (t126 : ByteArray) w24 =>
                                    J5 (t126, ()) w24)
                                   (J5 ((⟨#[]⟩ : ByteArray), ()) w22))
                                (J5 (t106, ()) w22)) fun J6 =>
                            cond (decide (s_3.1 ≥ top))
                              (J6 ((decide (s_3.1 < past)), ()) w20)
                              (J6 (false, ()) w20))
                           (joinP (σ := Int × Unit) (fun s_6 w25 =>
                              joinP (σ := Int × Unit) (fun s_7 w26 =>
                                c_screen_Screen_Grid t52 w26 fun t139 w27 =>
                                c_grid_Grid_Back t139 w27 fun t140 w28 =>
                                cond (t140 == s_7.1)
                                  (c_screen_Screen_Cursor t52 w28 fun t145 w29 =>
                                   K (t145.Row == (IntKind.i64.wrap (past - (1 : Int)))) w29)
                                  (K false w28)) fun J8 =>
                              cond (decide (s_6.1 > (10 : Int)))
                                (J8 (10, ()) w25)
                                (J8 (s_6.1, ()) w25)) fun J7 =>
                            cond (top == (0 : Int))
                              (J7 (n, ()) w18)
                              (J7 (0, ()) w18))) (0, ()) w17))) (0, ()) w13)) (0, ()) w3)) fun J1 =>
     cond (decide (rows < (2 : Int)))
       (K true w1)
       (cond (decide (rows > (20 : Int)))
          (K true w1)
          (cond (decide (top < (0 : Int)))
             (K true w1)
             (cond (decide (past < (2 : Int)))
                (K true w1)
                (cond (decide (past > rows))
                   (K true w1)
                   (cond (decide (top > (IntKind.i64.wrap (past - (2 : Int)))))
                      (K true w1)
                      (cond (decide (n < (1 : Int)))
                         (K true w1)
                         (cond (decide (n > (30 : Int)))
                            (K true w1)
                            (J1 (()) w1)))))))))

def an_phosphorlaw17_ScreenMargins : List Ann := [.none, .none, .none, .none, .join [] [8, 18, 19, 20, 21, 22, 23, 24, 25, 26, 27, 28, 29, 30, 31, 32, 33, 34, 35, 36, 37, 38, 39, 40, 41, 42, 43, 44, 45, 46, 47, 48, 49, 50], .none, .none, .none, .none, .none, .none, .none, .none, .join [(10, (Kind.int .i64))] [10, 55, 56, 57, 58, 59, 60, 61, 62, 63, 64, 65, 66, 67, 68, 69, 70, 71], .none, .none, .none, .none, .none, .none, .none, .none, .join [(11, (Kind.int .i64))] [11, 82, 83, 84, 85, 86, 87, 88, 89], .none, .none, .none, .none, .none, .none, .none, .none, .none, .join [(13, (Kind.int .i64))] [8, 13, 14, 97, 98, 99, 100, 101, 102, 103, 104, 105, 106, 107, 108, 109, 110, 111, 112, 113, 114, 115, 116, 117, 118, 119, 120, 121, 122, 123, 124, 125, 126, 127, 128, 129, 130, 131, 132], .none, .none, .none, .none, .join [(14, Kind.string)] [14, 107, 108, 109, 110, 111, 112, 113, 114, 115, 116, 117, 118, 119, 120, 121, 122, 123, 124, 125, 126], .join [(114, Kind.bool)] [107, 108, 109, 110, 111, 112, 113, 114], .none, .none, .none, .none, .none, .join [(15, (Kind.int .i64))] [15, 133, 134, 135], .none, .join [(15, (Kind.int .i64))] [15, 136, 137], .none, .none]

theorem vc_phosphorlaw17_ScreenMargins (rows : Int) (top : Int) (past : Int) (n : Int) (w : World) (K : Bool → World → Prop) :
    vcFn C (Tryz.f6.body.getD .skip) Tryz.f6.results.toList Tryz.f6.ntmps an_phosphorlaw17_ScreenMargins [Kind.bool] [(.int .i64 rows), (.int .i64 top), (.int .i64 past), (.int .i64 n)] w (fun s w => K s.1 w) = sh_phosphorlaw17_ScreenMargins rows top past n w K := by kernel_rfl

theorem call_phosphorlaw17_ScreenMargins (rows : Int) (top : Int) (past : Int) (n : Int) {w : World} {K : Bool → World → Prop} (h : sh_phosphorlaw17_ScreenMargins rows top past n w K) : c_phosphorlaw17_ScreenMargins rows top past n w K := by
  rw [← vc_phosphorlaw17_ScreenMargins] at h
  refine Calls.mono (calls_of_vc C.plain_ok C.mixed Tryz.func6 rfl h) ?_
  rintro e w' ⟨s, rfl, hK⟩
  exact ⟨s.1, rfl, hK⟩

/-- phosphor/phosphorlaw17.ScreenBounds -/
def sh_phosphorlaw17_ScreenBounds (c : T_api_Config) (l : Slc) (w : World) (K : Bool → World → Prop) : Prop :=
  nw ty_api_Config (T_api_Config.rep.cells c) w fun c_1 w1 =>
  c_phosphorlaw17_known  w1 fun t17 w2 =>
  cond (!t17)
    (K false w2)
    (joinP (σ := Unit) (fun s w3 =>
       ldS T_api_Config.rep c_1 w3 fun t28 =>
       c_screen_New t28 w3 fun t29 t29_1 w4 =>
       joinP (σ := Unit) (fun s_1 w5 =>
         loopP (σ := Int × Unit) (fun I3 s_2 w6 =>
           cond (decide (s_2.1 < ((l.n : Nat) : Int)))
             (joinP (σ := Unit) (fun s_3 w7 =>
                c_screen_Screen_Grid t29 w7 fun t85 w8 =>
                cond (t85.isNone)
                  (K false w8)
                  (c_grid_Grid_Size t85 w8 fun t90 t90_1 w9 =>
                   c_screen_Screen_Cursor t29 w9 fun t94 w10 =>
                   nw ty_screen_Cursor [(.int .i64 0), (.int .i64 0), (.bool false), (.int .i64 0), (.int .i64 0), (.int .i64 0), (.bool false), (.int .u8 0), (.int .u8 0), (.int .i64 0)] w10 fun u w11 =>
                   stK u (T_screen_Cursor.rep.cells t94) w11 fun w12 =>
                   c_screen_Screen_Margins t29 w12 fun t97 t97_1 w13 =>
                   joinP (σ := Unit) (fun s_4 w14 =>
                     loopP (σ := Int × Unit) (fun I6 s_5 w15 =>
                       cond (decide (s_5.1 < t90))
                         (c_grid_Grid_Line t85 s_5.1 w15 fun t160 t160_1 w16 =>
                          cond (((t160.n : Nat) : Int) != t90_1)
                            (K false w16)
                            (c_line_Line_Right t160 w16 fun t169 w17 =>
                             cond (!t169)
                               (K false w17)
                               (I6 ((IntKind.i64.wrap (s_5.1 + (1 : Int))), ()) w17)))
                         (I3 ((IntKind.i64.wrap (s_2.1 + (1 : Int))), ()) w15)) (0, ()) w14) fun J5 =>
                   ldI .i64 (u.add 0) w13.drew fun t101 =>
                   cond (decide (t101 < (0 : Int)))
                     (K false w13.drew)
                     (ldI .i64 (u.add 0) w13.drew fun t105 =>
                      cond (decide (t105 ≥ t90))
                        (K false w13.drew)
                        (ldI .i64 (u.add 1) w13.drew fun t111 =>
                         cond (decide (t111 < (0 : Int)))
                           (K false w13.drew)
                           (ldI .i64 (u.add 1) w13.drew fun t116 =>
                            cond (decide (t116 ≥ t90_1))
                              (K false w13.drew)
                              (cond (decide (t97 < (0 : Int)))
                                 (K false w13.drew)
                                 (cond (decide (t97_1 > t90))
                                    (K false w13.drew)
                                    (cond (decide ((IntKind.i64.wrap (t97_1 - t97)) < (1 : Int)))
                                       (K false w13.drew)
                                       (cond (decide (t90 > (1 : Int)))
                                          (cond (decide ((IntKind.i64.wrap (t97_1 - t97)) < (2 : Int)))
                                             (K false w13.drew)
                                             (ldI .i64 (c_1.add 4) w13.drew fun t149 =>
                                              c_grid_Grid_Back t85 w13.drew fun t147 w18 =>
                                              World.cell? w18 (c_1.add 4) = some (.int .i64 t149) ∧
                                              cond (decide (t147 > t149))
                                                (K false w18)
                                                (J5 (()) w18)))
                                          (ldI .i64 (c_1.add 4) w13.drew fun t149_1 =>
                                           c_grid_Grid_Back t85 w13.drew fun t147_1 w19 =>
                                           World.cell? w19 (c_1.add 4) = some (.int .i64 t149_1) ∧
                                           cond (decide (t147_1 > t149_1))
                                             (K false w19)
                                             (J5 (()) w19))))))))))) fun J4 =>
              ixK l s_2.1 10 fun t46 =>
              ldI .i64 (t46.add 0) w6 fun t48 =>
              cond (t48 == (2 : Int))
                (ixK l s_2.1 10 fun t61 =>
                 ldI .i64 (t61.add 8) w6.drew fun t63 =>
                 ixK l s_2.1 10 fun t66 =>
                 ldI .i64 (t66.add 9) w6.drew fun t68 =>
                 c_screen_Screen_Resize t29 t63 t68 w6.drew fun t69 w20 =>
                 J4 (()) w20)
                (cond (t48 == (3 : Int))
                   (ixK l s_2.1 10 fun t75 =>
                    ldI .i64 (t75.add 8) w6.drew fun t77 =>
                    ixK l s_2.1 10 fun t80 =>
                    ldI .i64 (t80.add 9) w6.drew fun t82 =>
                    c_screen_Screen_Move t29 t77 t82 w6.drew fun w21 =>
                    J4 (()) w21)
                   (ixK l s_2.1 10 fun t52 =>
                    ldS T_parse_Event.rep (t52.add 1) w6 fun t54 =>
                    c_screen_Screen_Do t29 t54 w6 fun t55 w22 =>
                    J4 (()) w22)))
             (K true w6)) (0, ()) w5) fun J2 =>
       cond (t29_1 != (0 : Int))
         (K false w4)
         (cond (t29.isNone)
            (K false w4)
            (J2 (()) w4))) fun J1 =>
     c_phosphorlaw17_Few l w2 fun t20 w23 =>
     cond (!t20)
       (K true w23)
       (ldS T_api_Config.rep c_1 w23 fun t23 =>
        c_phosphorlaw17_Small t23 w23 fun t24 w24 =>
        cond (!t24)
          (K true w24)
          (J1 (()) w24)))

def an_phosphorlaw17_ScreenBounds : List Ann := [.none, .none, .none, .none, .join [] [4, 19, 20, 21, 22, 23, 24, 25, 26], .none, .none, .none, .join [] [4, 32, 33, 34, 35, 36, 37], .none, .none, .none, .none, .join [(7, (Kind.int .i64))] [4, 7, 8, 9, 10, 11, 12, 13, 14, 15, 16, 38, 39, 40, 41, 42, 43, 44, 45, 46, 47, 48, 49, 50, 51, 52, 53, 54, 55, 56, 57, 58, 59, 60, 61, 62, 63, 64, 65, 66, 67, 68, 69, 70, 71, 72, 73, 74, 75, 76, 77, 78, 79, 80, 81, 82, 83, 84, 85, 86, 87, 88, 89, 90, 91, 92, 93, 94, 95, 96, 97, 98, 99, 100, 101, 102, 103, 104, 105, 106, 107, 108, 109, 110, 111, 112, 113, 114, 115, 116, 117, 118, 119, 120, 121, 122, 123, 124, 125, 126, 127, 128, 129, 130, 131, 132, 133, 134, 135, 136, 137, 138, 139, 140, 141, 142, 143, 144, 145, 146, 147, 148, 149, 150, 151, 152, 153, 154, 155, 156, 157, 158, 159, 160, 161, 162, 163, 164, 165, 166, 167, 168, 169, 170, 171], .none, .none, .none, .join [] [44, 45, 46, 47, 48, 49, 50, 51, 52, 53, 54, 55, 56, 57, 58, 59, 60, 61, 62, 63, 64, 65, 66, 67, 68, 69, 70, 71, 72, 73, 74, 75, 76, 77, 78, 79, 80, 81, 82, 83], .none, .none, .none, .none, .none, .none, .none, .none, .none, .none, .join [] [4, 100, 101, 102, 103, 104, 105, 106, 107, 108, 109, 110, 111, 112, 113, 114, 115, 116, 117, 118, 119, 120, 121, 122, 123, 124, 125, 126, 127, 128, 129, 130, 131, 132, 133, 134, 135, 136, 137, 138, 139, 140, 141, 142, 143, 144, 145, 146, 147, 148, 149, 150, 151], .none, .none, .none, .join [(14, (Kind.int .i64))] [4, 14, 15, 16, 152, 153, 154, 155, 156, 157, 158, 159, 160, 161, 162, 163, 164, 165, 166, 167, 168, 169, 170, 171], .none, .none, .none, .none, .none, .none, .none]

theorem vc_phosphorlaw17_ScreenBounds (c : T_api_Config) (l : Slc) (w : World) (K : Bool → World → Prop) :
    vcFn C (Tryz.f9.body.getD .skip) Tryz.f9.results.toList Tryz.f9.ntmps an_phosphorlaw17_ScreenBounds [Kind.bool] [(.agg #[(.int .i64 c.Rows), (.int .i64 c.Cols), (.int .i64 c.CellW), (.int .i64 c.CellH), (.int .i64 c.Back), (.int .i64 c.Quota)]), (.slice l.a l.n l.c)] w (fun s w => K s.1 w) = sh_phosphorlaw17_ScreenBounds c l w K := by kernel_rfl

theorem call_phosphorlaw17_ScreenBounds (c : T_api_Config) (l : Slc) {w : World} {K : Bool → World → Prop} (h : sh_phosphorlaw17_ScreenBounds c l w K) : c_phosphorlaw17_ScreenBounds c l w K := by
  rw [← vc_phosphorlaw17_ScreenBounds] at h
  refine Calls.mono (calls_of_vc C.plain_ok C.mixed Tryz.func9 rfl h) ?_
  rintro e w' ⟨s, rfl, hK⟩
  exact ⟨s.1, rfl, hK⟩

/-- phosphor/phosphorlaw17.known -/
def sh_phosphorlaw17_known  (w : World) (K : Bool → World → Prop) : Prop :=
  c_screen_New (⟨3, 4, 1, 1, 0, 0⟩ : T_api_Config) w fun t10 t10_1 w1 =>
  joinP (σ := Unit) (fun s w2 =>
    nw ty_int [(.int .i64 31)] w2 fun t20 w3 =>
    c_screen_Screen_Do t10 (⟨4, 0, 109, 0, (⟨#[]⟩ : ByteArray), ⟨(some t20), 1, 1⟩, ⟨none, 0, 0⟩⟩ : T_parse_Event) w3 fun t22 w4 =>
    loopP (σ := Int × Unit) (fun I2 s_1 w5 =>
      cond (decide (s_1.1 < (5 : Int)))
        (c_screen_Screen_Do t10 (⟨1, (IntKind.i32.wrap (IntKind.i64.wrap ((97 : Int) + s_1.1))), 0, 0, (⟨#[]⟩ : ByteArray), ⟨none, 0, 0⟩, ⟨none, 0, 0⟩⟩ : T_parse_Event) w5 fun t32 w6 =>
         I2 ((IntKind.i64.wrap (s_1.1 + (1 : Int))), ()) w6)
        (nw ty_int [(.int .i64 6)] w5 fun t34 w7 =>
         c_screen_Screen_Do t10 (⟨4, 0, 110, 0, (⟨#[]⟩ : ByteArray), ⟨(some t34), 1, 1⟩, ⟨none, 0, 0⟩⟩ : T_parse_Event) w7 fun t36 w8 =>
         c_screen_Screen_Grid t10 w8 fun t38 w9 =>
         cond (t38.isNone)
           (K false w9)
           (c_grid_Grid_Text t38 w9 fun t42 w10 =>
            c_screen_Screen_Cursor t10 w10 fun t44 w11 =>
            nw ty_screen_Cursor [(.int .i64 0), (.int .i64 0), (.bool false), (.int .i64 0), (.int .i64 0), (.int .i64 0), (.bool false), (.int .u8 0), (.int .u8 0), (.int .i64 0)] w11 fun c w12 =>
            stK c (T_screen_Cursor.rep.cells t44) w12 fun w13 =>
            cond (((t42.n : Nat) : Int) == (3 : Int))
              (ixK t42 0 1 fun t50 =>
               ldStr t50 w13 fun t51 =>
               cond (t51.toList == (⟨#[97, 98, 99, 100]⟩ : ByteArray).toList)
                 (ixK t42 1 1 fun t56 =>
                  ldStr t56 w13 fun t57 =>
                  cond (t57.toList == (⟨#[101]⟩ : ByteArray).toList)
                    (runK1 PG (convert ty_sl_uint8 ty_string (.slice t36.a t36.n t36.c)) Kind.string w13 fun (t62 : ByteArray) w14 =>
                     cond (t62.toList == (⟨#[27, 91, 50, 59, 50, 82]⟩ : ByteArray).toList)
                       (ldI .i64 (c.add 0) w14 fun t67 =>
                        cond (t67 == (1 : Int))
                          (ldI .i64 (c.add 1) w14 fun t72 =>
                           cond (t72 == (1 : Int))
                             (ldI .i64 ((c.add 3).add 0) w14 fun t78 =>
                              K (t78 == (16777217 : Int)) w14)
                             (K false w14))
                          (K false w14))
                       (K false w14))
                    (K false w13))
                 (K false w13))
              (K false w13)))) (0, ()) w4) fun J1 =>
  cond (t10_1 != (0 : Int))
    (K false w1)
    (cond (t10.isNone)
       (K false w1)
       (J1 (()) w1))

def an_phosphorlaw17_known : List Ann := [.none, .none, .join [] [0, 13, 14, 15, 16, 17, 18], .none, .none, .none, .none, .none, .join [(3, (Kind.int .i64))] [3, 23, 24, 25, 26, 27, 28, 29, 30, 31, 32], .none, .none, .none, .none, .none, .none, .none, .none, .none, .none, .none]

theorem vc_phosphorlaw17_known  (w : World) (K : Bool → World → Prop) :
    vcFn C (Tryz.f10.body.getD .skip) Tryz.f10.results.toList Tryz.f10.ntmps an_phosphorlaw17_known [Kind.bool] [] w (fun s w => K s.1 w) = sh_phosphorlaw17_known  w K := by kernel_rfl

theorem call_phosphorlaw17_known  {w : World} {K : Bool → World → Prop} (h : sh_phosphorlaw17_known  w K) : c_phosphorlaw17_known  w K := by
  rw [← vc_phosphorlaw17_known] at h
  refine Calls.mono (calls_of_vc C.plain_ok C.mixed Tryz.func10 rfl h) ?_
  rintro e w' ⟨s, rfl, hK⟩
  exact ⟨s.1, rfl, hK⟩

/-- phosphor/phosphorlaw17.Few -/
def sh_phosphorlaw17_Few (l : Slc) (w : World) (K : Bool → World → Prop) : Prop :=
  loopP (σ := Int × Int × Unit) (fun I1 s w1 =>
    cond (decide (s.2.1 < ((l.n : Nat) : Int)))
      (joinP (σ := Unit) (fun s_1 w2 =>
         ixK l s.2.1 10 fun t46 =>
         ldSl ((t46.add 1).add 6) w2.drew fun t49 =>
         ixK l s.2.1 10 fun t54 =>
         ldSl ((t54.add 1).add 5) w2.drew fun t57 =>
         ixK l s.2.1 10 fun t62 =>
         ldStr ((t62.add 1).add 4) w2.drew fun t65 =>
         ixK l s.2.1 10 fun t70 =>
         ldI .i64 (t70.add 0) w2.drew fun t72 =>
         cond (t72 == (2 : Int))
           (ixK l s.2.1 10 fun t77 =>
            ldI .i64 (t77.add 8) w2.drew fun t79 =>
            cond (decide (t79 > (0 : Int)))
              (ixK l s.2.1 10 fun t85 =>
               ldI .i64 (t85.add 9) w2.drew fun t87 =>
               cond (decide (t87 > (0 : Int)))
                 (ixK l s.2.1 10 fun t93 =>
                  ldI .i64 (t93.add 8) w2.drew fun t95 =>
                  cond (decide (t95 ≤ (1000 : Int)))
                    (ixK l s.2.1 10 fun t101 =>
                     ldI .i64 (t101.add 9) w2.drew fun t103 =>
                     cond (decide (t103 ≤ (1000 : Int)))
                       (ixK l s.2.1 10 fun t109 =>
                        ldI .i64 (t109.add 8) w2.drew fun t111 =>
                        cond (decide (t111 > (30 : Int)))
                          (K false w2.drew)
                          (ixK l s.2.1 10 fun t116 =>
                           ldI .i64 (t116.add 9) w2.drew fun t118 =>
                           cond (decide (t118 > (60 : Int)))
                             (K false w2.drew)
                             (I1 ((IntKind.i64.wrap ((IntKind.i64.wrap ((IntKind.i64.wrap (s.1 + ((t49.n : Nat) : Int))) + ((t57.n : Nat) : Int))) + (t65.size : Int))), (IntKind.i64.wrap (s.2.1 + (1 : Int))), ()) w2.drew)))
                       (I1 ((IntKind.i64.wrap ((IntKind.i64.wrap ((IntKind.i64.wrap (s.1 + ((t49.n : Nat) : Int))) + ((t57.n : Nat) : Int))) + (t65.size : Int))), (IntKind.i64.wrap (s.2.1 + (1 : Int))), ()) w2.drew))
                    (I1 ((IntKind.i64.wrap ((IntKind.i64.wrap ((IntKind.i64.wrap (s.1 + ((t49.n : Nat) : Int))) + ((t57.n : Nat) : Int))) + (t65.size : Int))), (IntKind.i64.wrap (s.2.1 + (1 : Int))), ()) w2.drew))
                 (I1 ((IntKind.i64.wrap ((IntKind.i64.wrap ((IntKind.i64.wrap (s.1 + ((t49.n : Nat) : Int))) + ((t57.n : Nat) : Int))) + (t65.size : Int))), (IntKind.i64.wrap (s.2.1 + (1 : Int))), ()) w2.drew))
              (I1 ((IntKind.i64.wrap ((IntKind.i64.wrap ((IntKind.i64.wrap (s.1 + ((t49.n : Nat) : Int))) + ((t57.n : Nat) : Int))) + (t65.size : Int))), (IntKind.i64.wrap (s.2.1 + (1 : Int))), ()) w2.drew))
           (I1 ((IntKind.i64.wrap ((IntKind.i64.wrap ((IntKind.i64.wrap (s.1 + ((t49.n : Nat) : Int))) + ((t57.n : Nat) : Int))) + (t65.size : Int))), (IntKind.i64.wrap (s.2.1 + (1 : Int))), ()) w2.drew)) fun J2 =>
       ixK l s.2.1 10 fun t13 =>
       ldSl ((t13.add 1).add 6) w1 fun t16 =>
       cond (decide (((t16.n : Nat) : Int) > (65536 : Int)))
         (K false w1)
         (ixK l s.2.1 10 fun t22 =>
          ldSl ((t22.add 1).add 5) w1 fun t25 =>
          cond (decide (((t25.n : Nat) : Int) > (65536 : Int)))
            (K false w1)
            (ixK l s.2.1 10 fun t32 =>
             ldStr ((t32.add 1).add 4) w1 fun t35 =>
             cond (decide ((t35.size : Int) > (65536 : Int)))
               (K false w1)
               (cond (decide (s.1 > (65536 : Int)))
                  (K false w1)
                  (J2 (()) w1)))))
      (cond (decide (((l.n : Nat) : Int) ≤ (250 : Int)))
         (K (decide (s.1 ≤ (4096 : Int))) w1)
         (K false w1))) (0, 0, ()) w

def an_phosphorlaw17_Few : List Ann := [.none, .none, .none, .none, .join [(3, (Kind.int .i64)), (4, (Kind.int .i64))] [2, 3, 4, 5, 6, 7, 8, 9, 10, 11, 12, 13, 14, 15, 16, 17, 18, 19, 20, 21, 22, 23, 24, 25, 26, 27, 28, 29, 30, 31, 32, 33, 34, 35, 36, 37, 38, 39, 40, 41, 42, 43, 44, 45, 46, 47, 48, 49, 50, 51, 52, 53, 54, 55, 56, 57, 58, 59, 60, 61, 62, 63, 64, 65, 66, 67, 68, 69, 70, 71, 72, 73, 74, 75, 76, 77, 78, 79, 80, 81, 82, 83, 84, 85, 86, 87, 88, 89, 90, 91, 92, 93, 94, 95, 96, 97, 98, 99, 100, 101, 102, 103, 104, 105, 106, 107, 108, 109, 110, 111, 112, 113, 114, 115, 116, 117, 118, 119, 120, 121], .none, .none, .none, .join [] [2, 11, 12, 13, 14, 15, 16, 17, 18, 19, 20, 21, 22, 23, 24, 25, 26, 27, 28, 29, 30, 31, 32, 33, 34, 35, 36, 37, 38, 39, 40, 41, 42], .none, .none, .none, .none, .none, .none]

theorem vc_phosphorlaw17_Few (l : Slc) (w : World) (K : Bool → World → Prop) :
    vcFn C (Tryz.f11.body.getD .skip) Tryz.f11.results.toList Tryz.f11.ntmps an_phosphorlaw17_Few [Kind.bool] [(.slice l.a l.n l.c)] w (fun s w => K s.1 w) = sh_phosphorlaw17_Few l w K := by kernel_rfl

theorem call_phosphorlaw17_Few (l : Slc) {w : World} {K : Bool → World → Prop} (h : sh_phosphorlaw17_Few l w K) : c_phosphorlaw17_Few l w K := by
  rw [← vc_phosphorlaw17_Few] at h
  refine Calls.mono (calls_of_vc C.plain_ok C.mixed Tryz.func11 rfl h) ?_
  rintro e w' ⟨s, rfl, hK⟩
  exact ⟨s.1, rfl, hK⟩

/-- phosphor/phosphorlaw17.Small -/
def sh_phosphorlaw17_Small (c : T_api_Config) (w : World) (K : Bool → World → Prop) : Prop :=
  nw ty_api_Config (T_api_Config.rep.cells c) w fun c_1 w1 =>
  ldS T_api_Config.rep c_1 w1 fun t3 =>
  c_phosphorref17_Check t3 w1 fun t4 w2 =>
  cond (t4 == (0 : Int))
    (ldI .i64 (c_1.add 0) w2 fun t8 =>
     cond (decide (t8 ≤ (30 : Int)))
       (ldI .i64 (c_1.add 1) w2 fun t13 =>
        K (decide (t13 ≤ (60 : Int))) w2)
       (K false w2))
    (K false w2)

def an_phosphorlaw17_Small : List Ann := [.none, .none]

theorem vc_phosphorlaw17_Small (c : T_api_Config) (w : World) (K : Bool → World → Prop) :
    vcFn C (Tryz.f12.body.getD .skip) Tryz.f12.results.toList Tryz.f12.ntmps an_phosphorlaw17_Small [Kind.bool] [(.agg #[(.int .i64 c.Rows), (.int .i64 c.Cols), (.int .i64 c.CellW), (.int .i64 c.CellH), (.int .i64 c.Back), (.int .i64 c.Quota)])] w (fun s w => K s.1 w) = sh_phosphorlaw17_Small c w K := by kernel_rfl

theorem call_phosphorlaw17_Small (c : T_api_Config) {w : World} {K : Bool → World → Prop} (h : sh_phosphorlaw17_Small c w K) : c_phosphorlaw17_Small c w K := by
  rw [← vc_phosphorlaw17_Small] at h
  refine Calls.mono (calls_of_vc C.plain_ok C.mixed Tryz.func12 rfl h) ?_
  rintro e w' ⟨s, rfl, hK⟩
  exact ⟨s.1, rfl, hK⟩

/-- phosphor/screen.New -/
def sh_screen_New (c : T_api_Config) (w : World) (K : Option Addr → Int → World → Prop) : Prop :=
  nw ty_api_Config (T_api_Config.rep.cells c) w fun c_1 w1 =>
  ldS T_api_Config.rep c_1 w1 fun t6 =>
  c_screen_Check t6 w1 fun t7 w2 =>
  cond (t7 != (0 : Int))
    (K none t7 w2)
    (nw ty_screen_Screen [(.pointer none), (.pointer none), (.int .i64 0), (.int .i64 0), (.int .i64 0), (.bool false), (.int .i64 0), (.int .i64 0), (.int .i64 0), (.bool false), (.int .u8 0), (.int .u8 0), (.int .i64 0), (.int .i64 0), (.int .i64 0), (.bool false), (.int .i64 0), (.int .i64 0), (.int .i64 0), (.bool false), (.int .u8 0), (.int .u8 0), (.int .i64 0), (.bool false), (.int .i64 0), (.int .i64 0), (.bool false), (.int .i64 0), (.int .i64 0), (.int .i64 0), (.bool false), (.int .u8 0), (.int .u8 0), (.int .i64 0), (.bool false), (.map none), (.map none), (.int .i64 0), (.int .i64 0), (.pointer none), (.int .i32 0), (.slice none 0 0)] w2 fun t12 w3 =>
     ldI .i64 (c_1.add 0) w3.drew fun t16 =>
     ldI .i64 (c_1.add 1) w3.drew fun t18 =>
     ldI .i64 (c_1.add 4) w3.drew fun t20 =>
     c_grid_New t16 t18 t20 w3.drew fun t21 t21_1 w4 =>
     ixA (t12.add 0) 2 0 1 fun t26 =>
     stK t26 [(.pointer t21)] w4 fun w5 =>
     ldI .i64 (c_1.add 0) w5.drew fun t30 =>
     ldI .i64 (c_1.add 1) w5.drew fun t32 =>
     c_grid_New t30 t32 0 w5.drew fun t33 t33_1 w6 =>
     ixA (t12.add 0) 2 1 1 fun t38 =>
     stK t38 [(.pointer t33)] w6 fun w7 =>
     c_screen_Screen_fresh (some t12) w7 fun w8 =>
     K (some t12) 0 w8)

def an_screen_New : List Ann := [.none, .none, .none, .none, .none, .none, .none, .none, .none, .none]

theorem vc_screen_New (c : T_api_Config) (w : World) (K : Option Addr → Int → World → Prop) :
    vcFn C (Tryz.f13.body.getD .skip) Tryz.f13.results.toList Tryz.f13.ntmps an_screen_New [Kind.ptr, (Kind.int .i64)] [(.agg #[(.int .i64 c.Rows), (.int .i64 c.Cols), (.int .i64 c.CellW), (.int .i64 c.CellH), (.int .i64 c.Back), (.int .i64 c.Quota)])] w (fun s w => K s.1 s.2.1 w) = sh_screen_New c w K := by kernel_rfl

theorem call_screen_New (c : T_api_Config) {w : World} {K : Option Addr → Int → World → Prop} (h : sh_screen_New c w K) : c_screen_New c w K := by
  rw [← vc_screen_New] at h
  refine Calls.mono (calls_of_vc C.plain_ok C.mixed Tryz.func13 rfl h) ?_
  rintro e w' ⟨s, rfl, hK⟩
  exact ⟨s.1, s.2.1, rfl, hK⟩

/-- (*phosphor/screen.Screen).Do -/
def sh_screen_Screen_Do (s : Option Addr) (e : T_parse_Event) (w : World) (K : Slc → World → Prop) : Prop :=
  nw ty_parse_Event (T_parse_Event.rep.cells e) w fun e_1 w1 =>
  ldI .i64 (e_1.add 0) w1 fun t6 =>
  cond (t6 == (1 : Int))
    (ldI .i32 (e_1.add 1) w1 fun t11 =>
     c_screen_Screen_print s t11 w1 fun w2 =>
     K (⟨none, 0, 0⟩ : Slc) w2)
    (cond (t6 == (2 : Int))
       (ldI .u8 (e_1.add 2) w1 fun t17 =>
        c_screen_Screen_control s t17 w1 fun w3 =>
        K (⟨none, 0, 0⟩ : Slc) w3)
       (cond (t6 == (3 : Int))
          (ldStr (e_1.add 4) w1 fun t23 =>
           ldI .u8 (e_1.add 2) w1 fun t25 =>
           c_screen_Screen_escape s t23 t25 w1 fun w4 =>
           K (⟨none, 0, 0⟩ : Slc) w4)
          (cond (t6 == (4 : Int))
             (ldS T_parse_Event.rep e_1 w1 fun t30 =>
              c_screen_Screen_sequence s t30 w1 fun t31 w5 =>
              K t31 w5)
             (K (⟨none, 0, 0⟩ : Slc) w1))))

def an_screen_Screen_Do : List Ann := [.none, .none, .none, .none, .none, .none, .none, .none, .none]

theorem vc_screen_Screen_Do (s : Option Addr) (e : T_parse_Event) (w : World) (K : Slc → World → Prop) :
    vcFn C (Tryz.f14.body.getD .skip) Tryz.f14.results.toList Tryz.f14.ntmps an_screen_Screen_Do [Kind.slice] [(.pointer s), (.agg #[(.int .i64 e.Kind), (.int .i32 e.R), (.int .u8 e.B), (.int .u8 e.Private), (.string e.Inter), (.slice e.Params.a e.Params.n e.Params.c), (.slice e.Data.a e.Data.n e.Data.c)])] w (fun s w => K s.1 w) = sh_screen_Screen_Do s e w K := by kernel_rfl

theorem call_screen_Screen_Do (s : Option Addr) (e : T_parse_Event) {w : World} {K : Slc → World → Prop} (h : sh_screen_Screen_Do s e w K) : c_screen_Screen_Do s e w K := by
  rw [← vc_screen_Screen_Do] at h
  refine Calls.mono (calls_of_vc C.plain_ok C.mixed Tryz.func14 rfl h) ?_
  rintro e w' ⟨s, rfl, hK⟩
  exact ⟨s.1, rfl, hK⟩

/-- (*phosphor/screen.Screen).Cursor -/
def sh_screen_Screen_Cursor (s : Option Addr) (w : World) (K : T_screen_Cursor → World → Prop) : Prop :=
  nw ty_screen_Cursor [(.int .i64 0), (.int .i64 0), (.bool false), (.int .i64 0), (.int .i64 0), (.int .i64 0), (.bool false), (.int .u8 0), (.int .u8 0), (.int .i64 0)] w fun t2 w1 =>
  onPtr s fun t4 =>
  ldS T_screen_Cursor.rep (t4.add 3) w1 fun t6 =>
  stK t2 (T_screen_Cursor.rep.cells t6) w1 fun w2 =>
  ldS T_screen_Cursor.rep t2 w2 fun r =>
  K r w2

def an_screen_Screen_Cursor : List Ann := [.none, .none]

theorem vc_screen_Screen_Cursor (s : Option Addr) (w : World) (K : T_screen_Cursor → World → Prop) :
    vcFn C (Tryz.f15.body.getD .skip) Tryz.f15.results.toList Tryz.f15.ntmps an_screen_Screen_Cursor [(Kind.struct T_screen_Cursor.rep)] [(.pointer s)] w (fun s w => K s.1 w) = sh_screen_Screen_Cursor s w K := by kernel_rfl

theorem call_screen_Screen_Cursor (s : Option Addr) {w : World} {K : T_screen_Cursor → World → Prop} (h : sh_screen_Screen_Cursor s w K) : c_screen_Screen_Cursor s w K := by
  rw [← vc_screen_Screen_Cursor] at h
  refine Calls.mono (calls_of_vc C.plain_ok C.mixed Tryz.func15 rfl h) ?_
  rintro e w' ⟨s, rfl, hK⟩
  exact ⟨s.1, rfl, hK⟩

/-- phosphor/phosphorlaw17.made -/
def sh_phosphorlaw17_made (rows : Int) (cols : Int) (w : World) (K : Option Addr → World → Prop) : Prop :=
  c_screen_New (⟨rows, cols, 1, 1, 10, 0⟩ : T_api_Config) w fun t11 t11_1 w1 =>
  cond (t11_1 != (0 : Int))
    (K none w1)
    (K t11 w1)

def an_phosphorlaw17_made : List Ann := [.none, .none, .none, .none, .none, .none]

theorem vc_phosphorlaw17_made (rows : Int) (cols : Int) (w : World) (K : Option Addr → World → Prop) :
    vcFn C (Tryz.f16.body.getD .skip) Tryz.f16.results.toList Tryz.f16.ntmps an_phosphorlaw17_made [Kind.ptr] [(.int .i64 rows), (.int .i64 cols)] w (fun s w => K s.1 w) = sh_phosphorlaw17_made rows cols w K := by kernel_rfl

theorem call_phosphorlaw17_made (rows : Int) (cols : Int) {w : World} {K : Option Addr → World → Prop} (h : sh_phosphorlaw17_made rows cols w K) : c_phosphorlaw17_made rows cols w K := by
  rw [← vc_phosphorlaw17_made] at h
  refine Calls.mono (calls_of_vc C.plain_ok C.mixed Tryz.func16 rfl h) ?_
  rintro e w' ⟨s, rfl, hK⟩
  exact ⟨s.1, rfl, hK⟩

/-- phosphor/phosphorlaw17.text -/
def sh_phosphorlaw17_text (s : Option Addr) (t : ByteArray) (w : World) (K : World → Prop) : Prop :=
  loopP (σ := Int × Unit) (fun I1 s_1 w1 =>
    cond (decide (s_1.1 < (t.size : Int)))
      (ixS t s_1.1 fun t14 =>
       c_screen_Screen_Do s (⟨1, (IntKind.i32.wrap t14), 0, 0, (⟨#[]⟩ : ByteArray), ⟨none, 0, 0⟩, ⟨none, 0, 0⟩⟩ : T_parse_Event) w1 fun t17 w2 =>
       I1 ((IntKind.i64.wrap (s_1.1 + (1 : Int))), ()) w2)
      (K w1)) (0, ()) w

def an_phosphorlaw17_text : List Ann := [.none, .join [(4, (Kind.int .i64))] [4, 5, 6, 7, 8, 9, 10, 11, 12, 13, 14, 15, 16, 17], .none, .none, .none]

theorem vc_phosphorlaw17_text (s : Option Addr) (t : ByteArray) (w : World) (K : World → Prop) :
    vcFn C (Tryz.f17.body.getD .skip) Tryz.f17.results.toList Tryz.f17.ntmps an_phosphorlaw17_text [] [(.pointer s), (.string t)] w (fun s w => K w) = sh_phosphorlaw17_text s t w K := by kernel_rfl

theorem call_phosphorlaw17_text (s : Option Addr) (t : ByteArray) {w : World} {K : World → Prop} (h : sh_phosphorlaw17_text s t w K) : c_phosphorlaw17_text s t w K := by
  rw [← vc_phosphorlaw17_text] at h
  refine Calls.mono (calls_of_vc C.plain_ok C.mixed Tryz.func17 rfl h) ?_
  rintro e w' ⟨s, rfl, hK⟩
  exact ⟨rfl, hK⟩

/-- (*phosphor/screen.Screen).Grid -/
def sh_screen_Screen_Grid (s : Option Addr) (w : World) (K : Option Addr → World → Prop) : Prop :=
  c_screen_Screen_g s w fun t4 w1 =>
  c_grid_Grid_Twin t4 w1 fun t5 w2 =>
  K t5 w2

def an_screen_Screen_Grid : List Ann := [.none, .none]

theorem vc_screen_Screen_Grid (s : Option Addr) (w : World) (K : Option Addr → World → Prop) :
    vcFn C (Tryz.f18.body.getD .skip) Tryz.f18.results.toList Tryz.f18.ntmps an_screen_Screen_Grid [Kind.ptr] [(.pointer s)] w (fun s w => K s.1 w) = sh_screen_Screen_Grid s w K := by kernel_rfl

theorem call_screen_Screen_Grid (s : Option Addr) {w : World} {K : Option Addr → World → Prop} (h : sh_screen_Screen_Grid s w K) : c_screen_Screen_Grid s w K := by
  rw [← vc_screen_Screen_Grid] at h
  refine Calls.mono (calls_of_vc C.plain_ok C.mixed Tryz.func18 rfl h) ?_
  rintro e w' ⟨s, rfl, hK⟩
  exact ⟨s.1, rfl, hK⟩

/-- (*phosphor/grid.Grid).Text -/
def sh_grid_Grid_Text (g : Option Addr) (w : World) (K : Slc → World → Prop) : Prop :=
  onPtr g fun t7 =>
  ldSl (t7.add 3) w fun t9 =>
  loopP (σ := Slc × Int × Unit) (fun I1 s w1 =>
    cond (decide (s.2.1 < ((t9.n : Nat) : Int)))
      (ixK t9 s.2.1 1 fun t13 =>
       ldSl t13 w1 fun t14 =>
       c_line_Line_Text t14 w1 fun t17 w2 =>
       nw ty_string [(.string t17)] w2 fun t18 w3 =>
       apK PG #[ty_sl_string, ty_sl_string] ty_sl_string s.1 (⟨(some t18), 1, 1⟩ : Slc) w3 fun t19 w4 =>
       I1 (t19, (IntKind.i64.wrap (s.2.1 + (1 : Int))), ()) w4)
      (K s.1 w1)) (⟨none, 0, 0⟩, 0, ()) w

def an_grid_Grid_Text : List Ann := [.none, .none, .none, .none, .join [(3, Kind.slice), (11, (Kind.int .i64))] [3, 5, 11, 12, 13, 14, 15, 16, 17, 18, 19, 20], .none, .none, .none, .none, .none]

theorem vc_grid_Grid_Text (g : Option Addr) (w : World) (K : Slc → World → Prop) :
    vcFn C (Tryz.f19.body.getD .skip) Tryz.f19.results.toList Tryz.f19.ntmps an_grid_Grid_Text [Kind.slice] [(.pointer g)] w (fun s w => K s.1 w) = sh_grid_Grid_Text g w K := by kernel_rfl

theorem call_grid_Grid_Text (g : Option Addr) {w : World} {K : Slc → World → Prop} (h : sh_grid_Grid_Text g w K) : c_grid_Grid_Text g w K := by
  rw [← vc_grid_Grid_Text] at h
  refine Calls.mono (calls_of_vc C.plain_ok C.mixed Tryz.func19 rfl h) ?_
  rintro e w' ⟨s, rfl, hK⟩
  exact ⟨s.1, rfl, hK⟩

/-- phosphor/phosphorlaw17.csi -/
def sh_phosphorlaw17_csi (s : Option Addr) (b : Int) (p : Slc) (w : World) (K : World → Prop) : Prop :=
  c_screen_Screen_Do s (⟨4, 0, b, 0, (⟨#[]⟩ : ByteArray), p, ⟨none, 0, 0⟩⟩ : T_parse_Event) w fun t10 w1 =>
  K w1

def an_phosphorlaw17_csi : List Ann := []

theorem vc_phosphorlaw17_csi (s : Option Addr) (b : Int) (p : Slc) (w : World) (K : World → Prop) :
    vcFn C (Tryz.f20.body.getD .skip) Tryz.f20.results.toList Tryz.f20.ntmps an_phosphorlaw17_csi [] [(.pointer s), (.int .u8 b), (.slice p.a p.n p.c)] w (fun s w => K w) = sh_phosphorlaw17_csi s b p w K := by kernel_rfl

theorem call_phosphorlaw17_csi (s : Option Addr) (b : Int) (p : Slc) {w : World} {K : World → Prop} (h : sh_phosphorlaw17_csi s b p w K) : c_phosphorlaw17_csi s b p w K := by
  rw [← vc_phosphorlaw17_csi] at h
  refine Calls.mono (calls_of_vc C.plain_ok C.mixed Tryz.func20 rfl h) ?_
  rintro e w' ⟨s, rfl, hK⟩
  exact ⟨rfl, hK⟩

/-- (*phosphor/screen.Screen).Margins -/
def sh_screen_Screen_Margins (s : Option Addr) (w : World) (K : Int → Int → World → Prop) : Prop :=
  onPtr s fun t5 =>
  ldI .i64 (t5.add 37) w.drew fun t7 =>
  onPtr s fun t9 =>
  ldI .i64 (t9.add 38) w.drew fun t11 =>
  K t7 t11 w.drew

def an_screen_Screen_Margins : List Ann := [.none, .none]

theorem vc_screen_Screen_Margins (s : Option Addr) (w : World) (K : Int → Int → World → Prop) :
    vcFn C (Tryz.f21.body.getD .skip) Tryz.f21.results.toList Tryz.f21.ntmps an_screen_Screen_Margins [(Kind.int .i64), (Kind.int .i64)] [(.pointer s)] w (fun s w => K s.1 s.2.1 w) = sh_screen_Screen_Margins s w K := by kernel_rfl

theorem call_screen_Screen_Margins (s : Option Addr) {w : World} {K : Int → Int → World → Prop} (h : sh_screen_Screen_Margins s w K) : c_screen_Screen_Margins s w K := by
  rw [← vc_screen_Screen_Margins] at h
  refine Calls.mono (calls_of_vc C.plain_ok C.mixed Tryz.func21 rfl h) ?_
  rintro e w' ⟨s, rfl, hK⟩
  exact ⟨s.1, s.2.1, rfl, hK⟩

/-- (*phosphor/grid.Grid).Back -/
def sh_grid_Grid_Back (g : Option Addr) (w : World) (K : Int → World → Prop) : Prop :=
  onPtr g fun t4 =>
  ldP (t4.add 0) w fun t6 =>
  c_ring_Ring_line_Line_Len t6 w fun t7 w1 =>
  K t7 w1

def an_grid_Grid_Back : List Ann := [.none, .none]

theorem vc_grid_Grid_Back (g : Option Addr) (w : World) (K : Int → World → Prop) :
    vcFn C (Tryz.f22.body.getD .skip) Tryz.f22.results.toList Tryz.f22.ntmps an_grid_Grid_Back [(Kind.int .i64)] [(.pointer g)] w (fun s w => K s.1 w) = sh_grid_Grid_Back g w K := by kernel_rfl

theorem call_grid_Grid_Back (g : Option Addr) {w : World} {K : Int → World → Prop} (h : sh_grid_Grid_Back g w K) : c_grid_Grid_Back g w K := by
  rw [← vc_grid_Grid_Back] at h
  refine Calls.mono (calls_of_vc C.plain_ok C.mixed Tryz.func22 rfl h) ?_
  rintro e w' ⟨s, rfl, hK⟩
  exact ⟨s.1, rfl, hK⟩

/-- (*phosphor/grid.Grid).Line -/
def sh_grid_Grid_Line (g : Option Addr) (row : Int) (w : World) (K : Slc → Bool → World → Prop) : Prop :=
  c_grid_Grid_is g row w fun t8 w1 =>
  cond (!t8)
    (K (⟨none, 0, 0⟩ : Slc) false w1)
    (onPtr g fun t11 =>
     ldSl (t11.add 3) w1 fun t13 =>
     ixK t13 row 1 fun t15 =>
     ldSl t15 w1 fun t16 =>
     c_slices_Clone_line_Line_api_Cell t16 w1 fun t17 w2 =>
     K t17 true w2)

def an_grid_Grid_Line : List Ann := [.none, .none, .none, .none, .none]

theorem vc_grid_Grid_Line (g : Option Addr) (row : Int) (w : World) (K : Slc → Bool → World → Prop) :
    vcFn C (Tryz.f23.body.getD .skip) Tryz.f23.results.toList Tryz.f23.ntmps an_grid_Grid_Line [Kind.slice, Kind.bool] [(.pointer g), (.int .i64 row)] w (fun s w => K s.1 s.2.1 w) = sh_grid_Grid_Line g row w K := by kernel_rfl

theorem call_grid_Grid_Line (g : Option Addr) (row : Int) {w : World} {K : Slc → Bool → World → Prop} (h : sh_grid_Grid_Line g row w K) : c_grid_Grid_Line g row w K := by
  rw [← vc_grid_Grid_Line] at h
  refine Calls.mono (calls_of_vc C.plain_ok C.mixed Tryz.func23 rfl h) ?_
  rintro e w' ⟨s, rfl, hK⟩
  exact ⟨s.1, s.2.1, rfl, hK⟩

/-- phosphor/screen.Check -/
def sh_screen_Check (c : T_api_Config) (w : World) (K : Int → World → Prop) : Prop :=
  nw ty_api_Config (T_api_Config.rep.cells c) w fun c_1 w1 =>
  ldI .i64 (c_1.add 0) w1 fun t4 =>
  c_screen_between t4 1 1000 w1 fun t5 w2 =>
  cond t5
    (ldI .i64 (c_1.add 1) w2 fun t8 =>
     c_screen_between t8 1 1000 w2 fun t9 w3 =>
     cond t9
       (ldI .i64 (c_1.add 2) w3 fun t13 =>
        c_screen_between t13 1 64 w3 fun t14 w4 =>
        cond t14
          (ldI .i64 (c_1.add 3) w4 fun t18 =>
           c_screen_between t18 1 64 w4 fun t19 w5 =>
           cond t19
             (ldI .i64 (c_1.add 4) w5 fun t23 =>
              c_screen_between t23 0 16384 w5 fun t24 w6 =>
              cond t24
                (ldI .i64 (c_1.add 5) w6 fun t28 =>
                 c_screen_between t28 0 1073741824 w6 fun t29 w7 =>
                 cond t29
                   (K 0 w7)
                   (K 1 w7))
                (K 1 w6))
             (K 1 w5))
          (K 1 w4))
       (K 1 w3))
    (K 1 w2)

def an_screen_Check : List Ann := [.none, .none, .none, .none, .none]

theorem vc_screen_Check (c : T_api_Config) (w : World) (K : Int → World → Prop) :
    vcFn C (Tryz.f24.body.getD .skip) Tryz.f24.results.toList Tryz.f24.ntmps an_screen_Check [(Kind.int .i64)] [(.agg #[(.int .i64 c.Rows), (.int .i64 c.Cols), (.int .i64 c.CellW), (.int .i64 c.CellH), (.int .i64 c.Back), (.int .i64 c.Quota)])] w (fun s w => K s.1 w) = sh_screen_Check c w K := by kernel_rfl

theorem call_screen_Check (c : T_api_Config) {w : World} {K : Int → World → Prop} (h : sh_screen_Check c w K) : c_screen_Check c w K := by
  rw [← vc_screen_Check] at h
  refine Calls.mono (calls_of_vc C.plain_ok C.mixed Tryz.func24 rfl h) ?_
  rintro e w' ⟨s, rfl, hK⟩
  exact ⟨s.1, rfl, hK⟩

/-- phosphor/phosphorref17.Check -/
def sh_phosphorref17_Check (c : T_api_Config) (w : World) (K : Int → World → Prop) : Prop :=
  nw ty_api_Config (T_api_Config.rep.cells c) w fun c_1 w1 =>
  ldI .i64 (c_1.add 0) w1 fun t4 =>
  c_phosphorref17_in t4 1 1000 w1 fun t5 w2 =>
  cond (!t5)
    (K 1 w2)
    (ldI .i64 (c_1.add 1) w2 fun t9 =>
     c_phosphorref17_in t9 1 1000 w2 fun t10 w3 =>
     cond (!t10)
       (K 1 w3)
       (ldI .i64 (c_1.add 2) w3 fun t15 =>
        c_phosphorref17_in t15 1 64 w3 fun t16 w4 =>
        cond (!t16)
          (K 1 w4)
          (ldI .i64 (c_1.add 3) w4 fun t21 =>
           c_phosphorref17_in t21 1 64 w4 fun t22 w5 =>
           cond (!t22)
             (K 1 w5)
             (ldI .i64 (c_1.add 4) w5 fun t27 =>
              c_phosphorref17_in t27 0 16384 w5 fun t28 w6 =>
              cond (!t28)
                (K 1 w6)
                (ldI .i64 (c_1.add 5) w6 fun t33 =>
                 c_phosphorref17_in t33 0 1073741824 w6 fun t34 w7 =>
                 cond (!t34)
                   (K 1 w7)
                   (K 0 w7))))))

def an_phosphorref17_Check : List Ann := [.none, .none, .none, .none, .none]

theorem vc_phosphorref17_Check (c : T_api_Config) (w : World) (K : Int → World → Prop) :
    vcFn C (Tryz.f25.body.getD .skip) Tryz.f25.results.toList Tryz.f25.ntmps an_phosphorref17_Check [(Kind.int .i64)] [(.agg #[(.int .i64 c.Rows), (.int .i64 c.Cols), (.int .i64 c.CellW), (.int .i64 c.CellH), (.int .i64 c.Back), (.int .i64 c.Quota)])] w (fun s w => K s.1 w) = sh_phosphorref17_Check c w K := by kernel_rfl

theorem call_phosphorref17_Check (c : T_api_Config) {w : World} {K : Int → World → Prop} (h : sh_phosphorref17_Check c w K) : c_phosphorref17_Check c w K := by
  rw [← vc_phosphorref17_Check] at h
  refine Calls.mono (calls_of_vc C.plain_ok C.mixed Tryz.func25 rfl h) ?_
  rintro e w' ⟨s, rfl, hK⟩
  exact ⟨s.1, rfl, hK⟩

/-- (*phosphor/screen.Screen).Resize -/
def sh_screen_Screen_Resize (s : Option Addr) (rows : Int) (cols : Int) (w : World) (K : Int → World → Prop) : Prop :=
  joinP (σ := Unit) (fun s_1 w1 =>
    onPtr s fun t23 =>
    ldI .i64 (t23.add 2) w1 fun t25 =>
    onPtr s fun t30 =>
    ixA (t30.add 0) 2 (IntKind.i64.wrap ((1 : Int) - t25)) 1 fun t32 =>
    ldP t32 w1 fun t33 =>
    c_grid_Grid_Size t33 w1 fun t34 t34_1 w2 =>
    onPtr s fun t43 =>
    ldI .i64 ((t43.add 3).add 0) w2.drew fun t46 =>
    c_screen_Screen_g s w2.drew fun t39 w3 =>
    World.cell? w3 ((t43.add 3).add 0) = some (.int .i64 t46) ∧
    c_grid_Grid_Resize t39 rows cols t46 w3 fun t47 t47_1 w4 =>
    onPtr s fun t52 =>
    ixA (t52.add 0) 2 (IntKind.i64.wrap ((1 : Int) - t25)) 1 fun t54 =>
    ldP t54 w4.drew fun t55 =>
    onPtr s fun t60 =>
    ixA (t60.add 13) 2 (IntKind.i64.wrap ((1 : Int) - t25)) 11 fun t62 =>
    ldI .i64 ((t62.add 0).add 0) w4.drew fun t65 =>
    c_screen_cut t65 0 (IntKind.i64.wrap (t34 - (1 : Int))) w4.drew fun t68 w5 =>
    World.cell? w5 t54 = some (.pointer t55) ∧
    c_grid_Grid_Resize t55 rows cols t68 w5 fun t69 t69_1 w6 =>
    onPtr s fun t73 =>
    ldI .i64 ((t73.add 3).add 1) w6 fun t76 =>
    c_screen_Screen_to s t47 t76 w6 fun w7 =>
    loopP (σ := Int × Unit) (fun I2 s_2 w8 =>
      cond (decide (s_2.1 < (2 : Int)))
        (onPtr s fun t83 =>
         ixA (t83.add 13) 2 s_2.1 11 fun t85 =>
         ldI .i64 ((t85.add 0).add 0) w8.drew fun t93 =>
         ldI .i64 ((t85.add 0).add 1) w8.drew fun t100 =>
         c_screen_cut t93 0 (IntKind.i64.wrap (rows - (1 : Int))) w8.drew fun t96 w9 =>
         World.cell? w9 ((t85.add 0).add 1) = some (.int .i64 t100) ∧
         c_screen_cut t100 0 (IntKind.i64.wrap (cols - (1 : Int))) w9 fun t103 w10 =>
         stK ((t85.add 0).add 0) [(.int .i64 t96)] w10 fun w11 =>
         stK ((t85.add 0).add 1) [(.int .i64 t103)] w11 fun w12 =>
         stK ((t85.add 0).add 2) [(.bool false)] w12 fun w13 =>
         I2 ((IntKind.i64.wrap (s_2.1 + (1 : Int))), ()) w13)
        (onPtr s fun t114 =>
         stK (t114.add 37) [(.int .i64 0)] w8 fun w14 =>
         onPtr s fun t116 =>
         stK (t116.add 38) [(.int .i64 rows)] w14 fun w15 =>
         onPtr s fun t119 =>
         ldP (t119.add 39) w15 fun t121 =>
         c_tabs_Stops_Resize t121 cols w15 fun t123 w16 =>
         K 0 w16)) (0, ()) w7) fun J1 =>
  c_screen_between rows 1 1000 w fun t15 w17 =>
  cond (!t15)
    (K 1 w17)
    (c_screen_between cols 1 1000 w17 fun t19 w18 =>
     cond (!t19)
       (K 1 w18)
       (J1 (()) w18))

def an_screen_Screen_Resize : List Ann := [.none, .join [] [6, 14, 15, 16, 17, 18, 19, 20, 21], .none, .none, .none, .none, .none, .none, .none, .none, .none, .join [(78, (Kind.int .i64))] [12, 13, 78, 79, 80, 81, 82, 83, 84, 85, 86, 87, 88, 89, 90, 91, 92, 93, 94, 95, 96, 97, 98, 99, 100, 101, 102, 103, 104, 105, 106, 107, 108, 109, 110], .none, .none, .none, .none, .none, .none, .none, .none]

theorem vc_screen_Screen_Resize (s : Option Addr) (rows : Int) (cols : Int) (w : World) (K : Int → World → Prop) :
    vcFn C (Tryz.f29.body.getD .skip) Tryz.f29.results.toList Tryz.f29.ntmps an_screen_Screen_Resize [(Kind.int .i64)] [(.pointer s), (.int .i64 rows), (.int .i64 cols)] w (fun s w => K s.1 w) = sh_screen_Screen_Resize s rows cols w K := by kernel_rfl

theorem call_screen_Screen_Resize (s : Option Addr) (rows : Int) (cols : Int) {w : World} {K : Int → World → Prop} (h : sh_screen_Screen_Resize s rows cols w K) : c_screen_Screen_Resize s rows cols w K := by
  rw [← vc_screen_Screen_Resize] at h
  refine Calls.mono (calls_of_vc C.plain_ok C.mixed Tryz.func29 rfl h) ?_
  rintro e w' ⟨s, rfl, hK⟩
  exact ⟨s.1, rfl, hK⟩

/-- (*phosphor/screen.Screen).Move -/
def sh_screen_Screen_Move (s : Option Addr) (rows : Int) (cols : Int) (w : World) (K : World → Prop) : Prop :=
  joinP (σ := Unit) (fun s_1 w1 =>
    c_screen_between cols 0 1000 w1 fun t15 w2 =>
    cond t15
      (onPtr s fun t18 =>
       ldI .i64 ((t18.add 3).add 0) w2.drew fun t21 =>
       onPtr s fun t23 =>
       ldI .i64 ((t23.add 3).add 1) w2.drew fun t26 =>
       c_screen_Screen_to s t21 (IntKind.i64.wrap (t26 + cols)) w2.drew fun w3 =>
       K w3)
      (K w2)) fun J1 =>
  c_screen_between rows 0 1000 w fun t7 w4 =>
  cond t7
    (loopP (σ := Int × Unit) (fun I2 s_2 w5 =>
       cond (decide (s_2.1 < rows))
         (c_screen_Screen_index s w5 fun w6 =>
          I2 ((IntKind.i64.wrap (s_2.1 + (1 : Int))), ()) w6)
         (J1 (()) w5)) (0, ()) w4)
    (J1 (()) w4)

def an_screen_Screen_Move : List Ann := [.join [] [6, 7, 8, 9, 10, 11, 12, 13], .none, .none, .join [(9, (Kind.int .i64))] [9, 10, 11, 12, 13], .none, .none, .none, .none]

theorem vc_screen_Screen_Move (s : Option Addr) (rows : Int) (cols : Int) (w : World) (K : World → Prop) :
    vcFn C (Tryz.f30.body.getD .skip) Tryz.f30.results.toList Tryz.f30.ntmps an_screen_Screen_Move [] [(.pointer s), (.int .i64 rows), (.int .i64 cols)] w (fun s w => K w) = sh_screen_Screen_Move s rows cols w K := by kernel_rfl

theorem call_screen_Screen_Move (s : Option Addr) (rows : Int) (cols : Int) {w : World} {K : World → Prop} (h : sh_screen_Screen_Move s rows cols w K) : c_screen_Screen_Move s rows cols w K := by
  rw [← vc_screen_Screen_Move] at h
  refine Calls.mono (calls_of_vc C.plain_ok C.mixed Tryz.func30 rfl h) ?_
  rintro e w' ⟨s, rfl, hK⟩
  exact ⟨rfl, hK⟩

/-- (*phosphor/grid.Grid).Size -/
def sh_grid_Grid_Size (g : Option Addr) (w : World) (K : Int → Int → World → Prop) : Prop :=
  onPtr g fun t5 =>
  ldI .i64 (t5.add 1) w.drew fun t7 =>
  onPtr g fun t9 =>
  ldI .i64 (t9.add 2) w.drew fun t11 =>
  K t7 t11 w.drew

def an_grid_Grid_Size : List Ann := [.none, .none]

theorem vc_grid_Grid_Size (g : Option Addr) (w : World) (K : Int → Int → World → Prop) :
    vcFn C (Tryz.f31.body.getD .skip) Tryz.f31.results.toList Tryz.f31.ntmps an_grid_Grid_Size [(Kind.int .i64), (Kind.int .i64)] [(.pointer g)] w (fun s w => K s.1 s.2.1 w) = sh_grid_Grid_Size g w K := by kernel_rfl

theorem call_grid_Grid_Size (g : Option Addr) {w : World} {K : Int → Int → World → Prop} (h : sh_grid_Grid_Size g w K) : c_grid_Grid_Size g w K := by
  rw [← vc_grid_Grid_Size] at h
  refine Calls.mono (calls_of_vc C.plain_ok C.mixed Tryz.func31 rfl h) ?_
  rintro e w' ⟨s, rfl, hK⟩
  exact ⟨s.1, s.2.1, rfl, hK⟩

/-- (phosphor/line.Line).Right -/
def sh_line_Line_Right (l : Slc) (w : World) (K : Bool → World → Prop) : Prop :=
  loopP (σ := Int × Unit) (fun I1 s w1 =>
    cond (decide (s.1 < ((l.n : Nat) : Int)))
      (ixK l s.1 5 fun t10 =>
       ldS T_api_Cell.rep t10 w1 fun t11 =>
       nw ty_api_Cell [(.int .i32 0), (.int .i64 0), (.int .i64 0), (.int .i64 0), (.int .i64 0)] w1 fun c w2 =>
       stK c (T_api_Cell.rep.cells t11) w2 fun w3 =>
       c_line_Line_fits l s.1 w3 fun t14 w4 =>
       cond (!t14)
         (K false w4)
         (ldI .i64 (c.add 1) w4 fun t18 =>
          cond (t18 == (2 : Int))
            (ldI .i32 (c.add 0) w4 fun t22 =>
             cond (t22 != (0 : Int))
               (K false w4)
               (I1 ((IntKind.i64.wrap (s.1 + (1 : Int))), ()) w4))
            (I1 ((IntKind.i64.wrap (s.1 + (1 : Int))), ()) w4)))
      (K true w1)) (0, ()) w

def an_line_Line_Right : List Ann := [.none, .none, .none, .join [(7, (Kind.int .i64))] [2, 3, 4, 7, 8, 9, 10, 11, 12, 13, 14, 15, 16, 17, 18, 19, 20, 21, 22, 23, 24, 25, 26], .none, .none, .none, .none, .none, .none, .none]

theorem vc_line_Line_Right (l : Slc) (w : World) (K : Bool → World → Prop) :
    vcFn C (Tryz.f32.body.getD .skip) Tryz.f32.results.toList Tryz.f32.ntmps an_line_Line_Right [Kind.bool] [(.slice l.a l.n l.c)] w (fun s w => K s.1 w) = sh_line_Line_Right l w K := by kernel_rfl

theorem call_line_Line_Right (l : Slc) {w : World} {K : Bool → World → Prop} (h : sh_line_Line_Right l w K) : c_line_Line_Right l w K := by
  rw [← vc_line_Line_Right] at h
  refine Calls.mono (calls_of_vc C.plain_ok C.mixed Tryz.func32 rfl h) ?_
  rintro e w' ⟨s, rfl, hK⟩
  exact ⟨s.1, rfl, hK⟩

/-- phosphor/grid.New -/
def sh_grid_New (rows : Int) (cols : Int) (back : Int) (w : World) (K : Option Addr → Int → World → Prop) : Prop :=
  joinP (σ := Unit) (fun s w1 =>
    c_ring_New_line_Line back w1 fun t29 t29_1 w2 =>
    nw ty_grid_Grid [(.pointer t29), (.int .i64 rows), (.int .i64 cols), (.slice none 0 0), (.int .i64 0)] w2 fun t36 w3 =>
    c_grid_Grid_Clear (some t36) (⟨0, 0, 0⟩ : T_api_Attr) w3 fun w4 =>
    K (some t36) 0 w4) fun J1 =>
  c_grid_size rows w fun t12 w5 =>
  cond (!t12)
    (K none 1 w5)
    (c_grid_size cols w5 fun t16 w6 =>
     cond (!t16)
       (K none 1 w6)
       (cond (decide (back < (0 : Int)))
          (K none 1 w6)
          (cond (decide (back > (16384 : Int)))
             (K none 1 w6)
             (J1 (()) w6))))

def an_grid_New : List Ann := [.none, .join [] [6, 7, 11, 12, 13, 14, 15, 16, 17, 18, 19, 20, 21, 22, 23, 24, 25, 26], .none, .none, .none, .none, .none, .none]

theorem vc_grid_New (rows : Int) (cols : Int) (back : Int) (w : World) (K : Option Addr → Int → World → Prop) :
    vcFn C (Tryz.f33.body.getD .skip) Tryz.f33.results.toList Tryz.f33.ntmps an_grid_New [Kind.ptr, (Kind.int .i64)] [(.int .i64 rows), (.int .i64 cols), (.int .i64 back)] w (fun s w => K s.1 s.2.1 w) = sh_grid_New rows cols back w K := by kernel_rfl

theorem call_grid_New (rows : Int) (cols : Int) (back : Int) {w : World} {K : Option Addr → Int → World → Prop} (h : sh_grid_New rows cols back w K) : c_grid_New rows cols back w K := by
  rw [← vc_grid_New] at h
  refine Calls.mono (calls_of_vc C.plain_ok C.mixed Tryz.func33 rfl h) ?_
  rintro e w' ⟨s, rfl, hK⟩
  exact ⟨s.1, s.2.1, rfl, hK⟩

/-- (*phosphor/screen.Screen).fresh -/
def sh_screen_Screen_fresh (s : Option Addr) (w : World) (K : World → Prop) : Prop :=
  onPtr s fun t5 =>
  stK (t5.add 2) [(.int .i64 0)] w fun w1 =>
  c_screen_Screen_size s w1 fun t9 t9_1 w2 =>
  c_tabs_New t9_1 w2 fun t15 t15_1 w3 =>
  onPtr s fun t18 =>
  stK (t18.add 39) [(.pointer t15)] w3 fun w4 =>
  c_screen_first  w4 fun t23 w5 =>
  onPtr s fun t25 =>
  stK (t25.add 3) (T_screen_Cursor.rep.cells t23) w5 fun w6 =>
  onPtr s fun t27 =>
  stK (t27.add 13) [(.int .i64 0), (.int .i64 0), (.bool false), (.int .i64 0), (.int .i64 0), (.int .i64 0), (.bool false), (.int .u8 0), (.int .u8 0), (.int .i64 0), (.bool false), (.int .i64 0), (.int .i64 0), (.bool false), (.int .i64 0), (.int .i64 0), (.int .i64 0), (.bool false), (.int .u8 0), (.int .u8 0), (.int .i64 0), (.bool false)] w6 fun w7 =>
  onPtr s fun t29 =>
  stK (t29.add 40) [(.int .i32 (-1))] w7 fun w8 =>
  onPtr s fun t34 =>
  stK (t34.add 37) [(.int .i64 0)] w8 fun w9 =>
  onPtr s fun t36 =>
  stK (t36.add 38) [(.int .i64 t9)] w9 fun w10 =>
  c_screen_Screen_plain s w10 fun w11 =>
  K w11

def an_screen_Screen_fresh : List Ann := [.none, .none, .none, .none, .none]

theorem vc_screen_Screen_fresh (s : Option Addr) (w : World) (K : World → Prop) :
    vcFn C (Tryz.f34.body.getD .skip) Tryz.f34.results.toList Tryz.f34.ntmps an_screen_Screen_fresh [] [(.pointer s)] w (fun s w => K w) = sh_screen_Screen_fresh s w K := by kernel_rfl

theorem call_screen_Screen_fresh (s : Option Addr) {w : World} {K : World → Prop} (h : sh_screen_Screen_fresh s w K) : c_screen_Screen_fresh s w K := by
  rw [← vc_screen_Screen_fresh] at h
  refine Calls.mono (calls_of_vc C.plain_ok C.mixed Tryz.func34 rfl h) ?_
  rintro e w' ⟨s, rfl, hK⟩
  exact ⟨rfl, hK⟩

/-- (*phosphor/screen.Screen).print -/
def sh_screen_Screen_print (s : Option Addr) (r : Int) (w : World) (K : World → Prop) : Prop :=
  joinP (σ := Bool × Unit) (fun s_1 w1 =>
    cond s_1.1
      (onPtr s fun t12 =>
       ldI .i64 ((t12.add 3).add 9) w1.drew fun t15 =>
       onPtr s fun t16 =>
       ixA ((t16.add 3).add 7) 2 t15 1 fun t19 =>
       ldI .u8 t19 w1.drew fun t20 =>
       c_utf_Graphic t20 (IntKind.u8.wrap r) w1.drew fun t23 w2 =>
       c_screen_Screen_lay s t23 w2 fun w3 =>
       K w3)
      (c_screen_Screen_lay s r w1 fun w4 =>
       K w4)) fun J1 =>
  cond (decide (r ≥ (0 : Int)))
    (J1 ((decide (r < (128 : Int))), ()) w)
    (J1 (false, ()) w)

def an_screen_Screen_print : List Ann := [.none, .join [(9, Kind.bool)] [4, 5, 6, 7, 8, 9]]

theorem vc_screen_Screen_print (s : Option Addr) (r : Int) (w : World) (K : World → Prop) :
    vcFn C (Tryz.f35.body.getD .skip) Tryz.f35.results.toList Tryz.f35.ntmps an_screen_Screen_print [] [(.pointer s), (.int .i32 r)] w (fun s w => K w) = sh_screen_Screen_print s r w K := by kernel_rfl

theorem call_screen_Screen_print (s : Option Addr) (r : Int) {w : World} {K : World → Prop} (h : sh_screen_Screen_print s r w K) : c_screen_Screen_print s r w K := by
  rw [← vc_screen_Screen_print] at h
  refine Calls.mono (calls_of_vc C.plain_ok C.mixed Tryz.func35 rfl h) ?_
  rintro e w' ⟨s, rfl, hK⟩
  exact ⟨rfl, hK⟩

/-- (*phosphor/screen.Screen).control -/
def sh_screen_Screen_control (s : Option Addr) (c : Int) (w : World) (K : World → Prop) : Prop :=
  joinP (σ := Unit) (fun s_1 w1 =>
    onPtr s fun t58 =>
    ldI .i64 ((t58.add 3).add 0) w1 fun t61 =>
    c_screen_Screen_to s t61 0 w1 fun w2 =>
    K w2) fun J1 =>
  cond (c == (8 : Int))
    (onPtr s fun t20 =>
     ldI .i64 ((t20.add 3).add 0) w.drew fun t23 =>
     onPtr s fun t25 =>
     ldI .i64 ((t25.add 3).add 1) w.drew fun t28 =>
     c_screen_Screen_to s t23 (IntKind.i64.wrap (t28 - (1 : Int))) w.drew fun w3 =>
     K w3)
    (cond (c == (9 : Int))
       (onPtr s fun t33 =>
        ldI .i64 ((t33.add 3).add 0) w.drew fun t36 =>
        onPtr s fun t38 =>
        ldP (t38.add 39) w.drew fun t40 =>
        onPtr s fun t42 =>
        ldI .i64 ((t42.add 3).add 1) w.drew fun t45 =>
        c_tabs_Stops_Next t40 t45 1 w.drew fun t46 w4 =>
        World.cell? w4 ((t33.add 3).add 0) = some (.int .i64 t36) ∧
        c_screen_Screen_to s t36 t46 w4 fun w5 =>
        K w5)
       (joinP (σ := Unit) (fun s_2 w6 =>
          cond (c == (13 : Int))
            (J1 (()) w6)
            (cond (c == (14 : Int))
               (cond (c == (14 : Int))
                  (onPtr s fun t67 =>
                   stK ((t67.add 3).add 9) [(.int .i64 (IntKind.i64.wrap (IntKind.u8.wrap ((15 : Int) - c))))] w6 fun w7 =>
                   K w7)
                  (K w6))
               (cond (c == (15 : Int))
                  (onPtr s fun t67_1 =>
                   stK ((t67_1.add 3).add 9) [(.int .i64 (IntKind.i64.wrap (IntKind.u8.wrap ((15 : Int) - c))))] w6 fun w8 =>
                   K w8)
                  (K w6)))) fun J2 =>
        cond (c == (10 : Int))
          (cond (c == (10 : Int))
             (c_screen_Screen_index s w fun w9 =>
              onPtr s fun t51 =>
              ldM (t51.add 35) w9 fun t53 =>
              runK1 PG (Instr.lookup ty_map_int_bool (.map t53) (.int .i64 20) false) Kind.bool w9 fun (t54 : Bool) w10 =>
              cond (!t54)
                (K w10)
                (J1 (()) w10))
             (J2 (()) w))
          (cond (c == (11 : Int))
             (cond (c == (11 : Int))
                (c_screen_Screen_index s w fun w11 =>
                 onPtr s fun t51_1 =>
                 ldM (t51_1.add 35) w11 fun t53_1 =>
                 runK1 PG (Instr.lookup ty_map_int_bool (.map t53_1) (.int .i64 20) false) Kind.bool w11 fun (t54_1 : Bool) w12 =>
                 cond (!t54_1)
                   (K w12)
                   (J1 (()) w12))
                (J2 (()) w))
             (cond (c == (12 : Int))
                (c_screen_Screen_index s w fun w13 =>
                 onPtr s fun t51_2 =>
                 ldM (t51_2.add 35) w13 fun t53_2 =>
                 runK1 PG (Instr.lookup ty_map_int_bool (.map t53_2) (.int .i64 20) false) Kind.bool w13 fun (t54_2 : Bool) w14 =>
                 cond (!t54_2)
                   (K w14)
                   (J1 (()) w14))
                (J2 (()) w)))))

def an_screen_Screen_control : List Ann := [.none, .none, .join [] [5, 6, 7, 8, 9, 10, 11, 12, 13, 14, 15, 16, 17, 18, 19, 20, 21, 22, 23, 24, 25, 26, 27, 28, 29, 30, 31, 32, 33, 34, 35, 36, 37, 38, 39, 40, 41, 42, 43, 44, 45, 46, 47, 48, 49, 50, 51, 52, 53, 54, 55], .none, .none, .none, .none, .none, .none, .none, .none, .join [] [9, 10, 11, 12], .none, .none, .none, .none, .none, .none, .none, .none, .none, .none, .none, .none, .none]

theorem vc_screen_Screen_control (s : Option Addr) (c : Int) (w : World) (K : World → Prop) :
    vcFn C (Tryz.f36.body.getD .skip) Tryz.f36.results.toList Tryz.f36.ntmps an_screen_Screen_control [] [(.pointer s), (.int .u8 c)] w (fun s w => K w) = sh_screen_Screen_control s c w K := by kernel_rfl

theorem call_screen_Screen_control (s : Option Addr) (c : Int) {w : World} {K : World → Prop} (h : sh_screen_Screen_control s c w K) : c_screen_Screen_control s c w K := by
  rw [← vc_screen_Screen_control] at h
  refine Calls.mono (calls_of_vc C.plain_ok C.mixed Tryz.func36 rfl h) ?_
  rintro e w' ⟨s, rfl, hK⟩
  exact ⟨rfl, hK⟩

/-- (*phosphor/screen.Screen).escape -/
def sh_screen_Screen_escape (s : Option Addr) (inter : ByteArray) (c : Int) (w : World) (K : World → Prop) : Prop :=
  joinP (σ := Bool × Unit) (fun s_1 w1 =>
    cond s_1.1
      (joinP (σ := Bool × Unit) (fun s_2 w2 =>
         cond s_2.1
           (ixS inter 0 fun t18 =>
            onPtr s fun t21 =>
            ixA ((t21.add 3).add 7) 2 (IntKind.u8.wrap (t18 - (40 : Int))) 1 fun t24 =>
            stK t24 [(.int .u8 c)] w2.drew fun w3 =>
            K w3)
           (K w2)) fun J2 =>
       cond (c == (48 : Int))
         (J2 (true, ()) w1)
         (J2 ((c == (66 : Int)), ()) w1))
      (cond (inter.toList == (⟨#[35]⟩ : ByteArray).toList)
         (cond (c == (56 : Int))
            (c_screen_Screen_full s w1 fun w4 =>
             K w4)
            (K w1))
         (cond (inter.toList == (⟨#[]⟩ : ByteArray).toList)
            (c_screen_Screen_single s c w1 fun w5 =>
             K w5)
            (K w1)))) fun J1 =>
  cond (inter.toList == (⟨#[40]⟩ : ByteArray).toList)
    (J1 ((inter.toList == (⟨#[40]⟩ : ByteArray).toList), ()) w)
    (J1 ((inter.toList == (⟨#[41]⟩ : ByteArray).toList), ()) w)

def an_screen_Screen_escape : List Ann := [.none, .join [(7, Kind.bool)] [7, 8, 9], .none, .join [(15, Kind.bool)] [10, 11, 12, 13, 14, 15], .none, .none, .none]

theorem vc_screen_Screen_escape (s : Option Addr) (inter : ByteArray) (c : Int) (w : World) (K : World → Prop) :
    vcFn C (Tryz.f37.body.getD .skip) Tryz.f37.results.toList Tryz.f37.ntmps an_screen_Screen_escape [] [(.pointer s), (.string inter), (.int .u8 c)] w (fun s w => K w) = sh_screen_Screen_escape s inter c w K := by kernel_rfl

theorem call_screen_Screen_escape (s : Option Addr) (inter : ByteArray) (c : Int) {w : World} {K : World → Prop} (h : sh_screen_Screen_escape s inter c w K) : c_screen_Screen_escape s inter c w K := by
  rw [← vc_screen_Screen_escape] at h
  refine Calls.mono (calls_of_vc C.plain_ok C.mixed Tryz.func37 rfl h) ?_
  rintro e w' ⟨s, rfl, hK⟩
  exact ⟨rfl, hK⟩

/-- (*phosphor/screen.Screen).sequence -/
def sh_screen_Screen_sequence (s : Option Addr) (e : T_parse_Event) (w : World) (K : Slc → World → Prop) : Prop :=
  nw ty_parse_Event (T_parse_Event.rep.cells e) w fun e_1 w1 =>
  ldSl (e_1.add 5) w1.drew fun t10 =>
  ldSl (e_1.add 5) w1.drew fun t12 =>
  c_screen_param t12 0 0 w1.drew fun t13 w2 =>
  World.cell? w2 (e_1.add 5) = some (.slice t10.a t10.n t10.c) ∧
  joinP (σ := Unit) (fun s_1 w3 =>
    joinP (σ := Unit) (fun s_2 w4 =>
      ldI .u8 (e_1.add 2) w4 fun t82 =>
      c_screen_Screen_bare s t10 t82 w4 fun t83 w5 =>
      K t83 w5) fun J2 =>
    ldI .u8 (e_1.add 3) w3 fun t72 =>
    cond (t72 != (0 : Int))
      (K (⟨none, 0, 0⟩ : Slc) w3)
      (ldStr (e_1.add 4) w3 fun t76 =>
       cond (!(t76.toList == (⟨#[]⟩ : ByteArray).toList))
         (K (⟨none, 0, 0⟩ : Slc) w3)
         (J2 (()) w3))) fun J1 =>
  ldI .u8 (e_1.add 3) w2 fun t15 =>
  runK1 PG (convert ty_uint8 ty_string (.int .u8 t15)) Kind.string w2 fun (t16 : ByteArray) w6 =>
  ldStr (e_1.add 4) w6 fun t18 =>
  (((t16.size + t18.size : Nat) : Int) ≤ 9223372036854775807) ∧
  ldI .u8 (e_1.add 2) w6 fun t21 =>
  runK1 PG (convert ty_uint8 ty_string (.int .u8 t21)) Kind.string w6 fun (t22 : ByteArray) w7 =>
  ((((t16 ++ t18).size + t22.size : Nat) : Int) ≤ 9223372036854775807) ∧
  cond (((t16 ++ t18) ++ t22).toList == (⟨#[0, 33, 112]⟩ : ByteArray).toList)
    (c_screen_Screen_soft s w7 fun w8 =>
     J1 (()) w8)
    (joinP (σ := Bool × Unit) (fun s_3 w9 =>
       cond s_3.1
         (loopP (σ := Int × Unit) (fun I4 s_4 w10 =>
            cond (decide (s_4.1 < ((t10.n : Nat) : Int)))
              (ixK t10 s_4.1 1 fun t35 =>
               ldI .i64 t35 w10 fun t36 =>
               ldI .u8 (e_1.add 2) w10 fun t40 =>
               c_screen_Screen_turn s t36 (t40 == (104 : Int)) w10 fun w11 =>
               I4 ((IntKind.i64.wrap (s_4.1 + (1 : Int))), ()) w11)
              (J1 (()) w10)) (0, ()) w9)
         (cond (((t16 ++ t18) ++ t22).toList == (⟨#[63, 110]⟩ : ByteArray).toList)
            (cond (t13 == (6 : Int))
               (c_screen_Screen_place s w9 fun t49 w12 =>
                ((((⟨#[63]⟩ : ByteArray).size + t49.size : Nat) : Int) ≤ 9223372036854775807) ∧
                (((((⟨#[63]⟩ : ByteArray) ++ t49).size + (⟨#[82]⟩ : ByteArray).size : Nat) : Int) ≤ 9223372036854775807) ∧
                c_screen_reply (((⟨#[63]⟩ : ByteArray) ++ t49) ++ (⟨#[82]⟩ : ByteArray)) w12 fun t52 w13 =>
                K t52 w13)
               (J1 (()) w9))
            (cond (((t16 ++ t18) ++ t22).toList == (⟨#[62, 99]⟩ : ByteArray).toList)
               (cond (t13 == (0 : Int))
                  (c_screen_reply (⟨#[62, 49, 59, 49, 59, 48, 99]⟩ : ByteArray) w9 fun t57 w14 =>
                   K t57 w14)
                  (J1 (()) w9))
               (cond (((t16 ++ t18) ++ t22).toList == (⟨#[63, 36, 112]⟩ : ByteArray).toList)
                  (c_strconv_Itoa t13 w9 fun t61 w15 =>
                   ((((⟨#[63]⟩ : ByteArray).size + t61.size : Nat) : Int) ≤ 9223372036854775807) ∧
                   (((((⟨#[63]⟩ : ByteArray) ++ t61).size + (⟨#[59]⟩ : ByteArray).size : Nat) : Int) ≤ 9223372036854775807) ∧
                   c_screen_Screen_state s t13 w15 fun t66 w16 =>
                   c_strconv_Itoa t66 w16 fun t67 w17 =>
                   ((((((⟨#[63]⟩ : ByteArray) ++ t61) ++ (⟨#[59]⟩ : ByteArray)).size + t67.size : Nat) : Int) ≤ 9223372036854775807) ∧
                   (((((((⟨#[63]⟩ : ByteArray) ++ t61) ++ (⟨#[59]⟩ : ByteArray)) ++ t67).size + (⟨#[36, 121]⟩ : ByteArray).size : Nat) : Int) ≤ 9223372036854775807) ∧
                   c_screen_reply (((((⟨#[63]⟩ : ByteArray) ++ t61) ++ (⟨#[59]⟩ : ByteArray)) ++ t67) ++ (⟨#[36, 121]⟩ : ByteArray)) w17 fun t70 w18 =>
                   K t70 w18)
                  (J1 (()) w9))))) fun J3 =>
     cond (((t16 ++ t18) ++ t22).toList == (⟨#[63, 104]⟩ : ByteArray).toList)
       (J3 ((((t16 ++ t18) ++ t22).toList == (⟨#[63, 104]⟩ : ByteArray).toList), ()) w7)
       (J3 ((((t16 ++ t18) ++ t22).toList == (⟨#[63, 108]⟩ : ByteArray).toList), ()) w7))

def an_screen_Screen_sequence : List Ann := [.none, .none, .join [] [4, 8, 14, 15, 16, 17, 18, 19, 20, 21, 22, 23, 24, 25, 26, 27, 28, 29, 30, 31, 32, 33, 34, 35, 36, 37, 38, 39, 40, 41, 42, 43, 44, 45, 46, 47, 48, 49, 50, 51, 52, 53, 54, 55, 56, 57, 58, 59, 60, 61, 62, 63, 64, 65, 66, 67, 68, 69, 70], .none, .none, .join [(28, Kind.bool)] [28, 29, 30], .none, .none, .join [(33, (Kind.int .i64))] [8, 33, 34, 35, 36, 37, 38, 39, 40, 41, 42, 43], .none, .none, .none, .none, .none, .none, .none, .none, .none, .none, .none, .none, .join [] [4, 71, 72, 73, 74, 75, 76, 77, 78], .none, .none, .none]

theorem vc_screen_Screen_sequence (s : Option Addr) (e : T_parse_Event) (w : World) (K : Slc → World → Prop) :
    vcFn C (Tryz.f38.body.getD .skip) Tryz.f38.results.toList Tryz.f38.ntmps an_screen_Screen_sequence [Kind.slice] [(.pointer s), (.agg #[(.int .i64 e.Kind), (.int .i32 e.R), (.int .u8 e.B), (.int .u8 e.Private), (.string e.Inter), (.slice e.Params.a e.Params.n e.Params.c), (.slice e.Data.a e.Data.n e.Data.c)])] w (fun s w => K s.1 w) = sh_screen_Screen_sequence s e w K := by kernel_rfl

theorem call_screen_Screen_sequence (s : Option Addr) (e : T_parse_Event) {w : World} {K : Slc → World → Prop} (h : sh_screen_Screen_sequence s e w K) : c_screen_Screen_sequence s e w K := by
  rw [← vc_screen_Screen_sequence] at h
  refine Calls.mono (calls_of_vc C.plain_ok C.mixed Tryz.func38 rfl h) ?_
  rintro e w' ⟨s, rfl, hK⟩
  exact ⟨s.1, rfl, hK⟩

/-- (*phosphor/screen.Screen).g -/
def sh_screen_Screen_g (s : Option Addr) (w : World) (K : Option Addr → World → Prop) : Prop :=
  onPtr s fun t5 =>
  ldI .i64 (t5.add 2) w.drew fun t7 =>
  onPtr s fun t8 =>
  ixA (t8.add 0) 2 t7 1 fun t10 =>
  ldP t10 w.drew fun t11 =>
  K t11 w.drew

def an_screen_Screen_g : List Ann := [.none, .none]

theorem vc_screen_Screen_g (s : Option Addr) (w : World) (K : Option Addr → World → Prop) :
    vcFn C (Tryz.f39.body.getD .skip) Tryz.f39.results.toList Tryz.f39.ntmps an_screen_Screen_g [Kind.ptr] [(.pointer s)] w (fun s w => K s.1 w) = sh_screen_Screen_g s w K := by kernel_rfl

theorem call_screen_Screen_g (s : Option Addr) {w : World} {K : Option Addr → World → Prop} (h : sh_screen_Screen_g s w K) : c_screen_Screen_g s w K := by
  rw [← vc_screen_Screen_g] at h
  refine Calls.mono (calls_of_vc C.plain_ok C.mixed Tryz.func39 rfl h) ?_
  rintro e w' ⟨s, rfl, hK⟩
  exact ⟨s.1, rfl, hK⟩

/-- (*phosphor/grid.Grid).Twin -/
def sh_grid_Grid_Twin (g : Option Addr) (w : World) (K : Option Addr → World → Prop) : Prop :=
  onPtr g fun t5 =>
  ldS T_grid_Grid.rep t5 w fun t6 =>
  nw ty_grid_Grid [(.pointer none), (.int .i64 0), (.int .i64 0), (.slice none 0 0), (.int .i64 0)] w fun out w1 =>
  stK out (T_grid_Grid.rep.cells t6) w1 fun w2 =>
  onPtr g fun t8 =>
  ldP (t8.add 0) w2 fun t10 =>
  c_ring_Ring_line_Line_Twin t10 w2 fun t11 w3 =>
  stK (out.add 0) [(.pointer t11)] w3 fun w4 =>
  onPtr g fun t14 =>
  ldSl (t14.add 3) w4 fun t16 =>
  c_slices_Clone_line_Line_line_Line t16 w4 fun t17 w5 =>
  stK (out.add 3) [(.slice t17.a t17.n t17.c)] w5 fun w6 =>
  K (some out) w6

def an_grid_Grid_Twin : List Ann := [.none, .none, .none, .none, .none]

theorem vc_grid_Grid_Twin (g : Option Addr) (w : World) (K : Option Addr → World → Prop) :
    vcFn C (Tryz.f40.body.getD .skip) Tryz.f40.results.toList Tryz.f40.ntmps an_grid_Grid_Twin [Kind.ptr] [(.pointer g)] w (fun s w => K s.1 w) = sh_grid_Grid_Twin g w K := by kernel_rfl

theorem call_grid_Grid_Twin (g : Option Addr) {w : World} {K : Option Addr → World → Prop} (h : sh_grid_Grid_Twin g w K) : c_grid_Grid_Twin g w K := by
  rw [← vc_grid_Grid_Twin] at h
  refine Calls.mono (calls_of_vc C.plain_ok C.mixed Tryz.func40 rfl h) ?_
  rintro e w' ⟨s, rfl, hK⟩
  exact ⟨s.1, rfl, hK⟩

/-- (phosphor/line.Line).Text -/
def sh_line_Line_Text (l : Slc) (w : World) (K : ByteArray → World → Prop) : Prop :=
  nw ty_strings_Builder [(.pointer none), (.slice none 0 0)] w fun out w1 =>
  c_line_Line_Mend l w1 fun t7 w2 =>
  loopP (σ := Int × Unit) (fun I1 s w3 =>
    cond (decide (s.1 < ((t7.n : Nat) : Int)))
      (ixK t7 s.1 5 fun t11 =>
       ldS T_api_Cell.rep t11 w3 fun t12 =>
       nw ty_api_Cell [(.int .i32 0), (.int .i64 0), (.int .i64 0), (.int .i64 0), (.int .i64 0)] w3 fun c w4 =>
       stK c (T_api_Cell.rep.cells t12) w4 fun w5 =>
       ldI .i64 (c.add 1) w5 fun t20 =>
       cond (t20 == (2 : Int))
         (I1 ((IntKind.i64.wrap (s.1 + (1 : Int))), ()) w5)
         (ldI .i32 (c.add 0) w5 fun t24 =>
          cond (t24 == (0 : Int))
            (c_strings_Builder_WriteByte (some out) 32 w5 fun t26 w6 =>
             I1 ((IntKind.i64.wrap (s.1 + (1 : Int))), ()) w6)
            (ldI .i32 (c.add 0) w5 fun t14 =>
             nw ty_int32 [(.int .i32 t14)] w5 fun t15 w7 =>
             c_utf_Encode (⟨(some t15), 1, 1⟩ : Slc) w7 fun t16 w8 =>
             c_strings_Builder_Write (some out) t16 w8 fun t17 t17_1 w9 =>
             I1 ((IntKind.i64.wrap (s.1 + (1 : Int))), ()) w9)))
      (c_strings_Builder_String (some out) w3 fun t28 w10 =>
       c_strings_TrimRight t28 (⟨#[32]⟩ : ByteArray) w10 fun t29 w11 =>
       K t29 w11)) (0, ()) w2

def an_line_Line_Text : List Ann := [.none, .none, .none, .none, .join [(9, (Kind.int .i64))] [5, 9, 10, 11, 12, 13, 14, 15, 16, 17, 18, 19, 20, 21, 22, 23, 24, 25, 26, 27], .none, .none, .none, .none, .none, .none, .none]

theorem vc_line_Line_Text (l : Slc) (w : World) (K : ByteArray → World → Prop) :
    vcFn C (Tryz.f41.body.getD .skip) Tryz.f41.results.toList Tryz.f41.ntmps an_line_Line_Text [Kind.string] [(.slice l.a l.n l.c)] w (fun s w => K s.1 w) = sh_line_Line_Text l w K := by kernel_rfl

theorem call_line_Line_Text (l : Slc) {w : World} {K : ByteArray → World → Prop} (h : sh_line_Line_Text l w K) : c_line_Line_Text l w K := by
  rw [← vc_line_Line_Text] at h
  refine Calls.mono (calls_of_vc C.plain_ok C.mixed Tryz.func41 rfl h) ?_
  rintro e w' ⟨s, rfl, hK⟩
  exact ⟨s.1, rfl, hK⟩

/-- (*phosphor/ring.Ring[phosphor/line.Line]).Len -/
def sh_ring_Ring_line_Line_Len (r : Option Addr) (w : World) (K : Int → World → Prop) : Prop :=
  onPtr r fun t4 =>
  ldSl (t4.add 1) w fun t6 =>
  K ((t6.n : Nat) : Int) w

def an_ring_Ring_line_Line_Len : List Ann := [.none, .none]

theorem vc_ring_Ring_line_Line_Len (r : Option Addr) (w : World) (K : Int → World → Prop) :
    vcFn C (Tryz.f42.body.getD .skip) Tryz.f42.results.toList Tryz.f42.ntmps an_ring_Ring_line_Line_Len [(Kind.int .i64)] [(.pointer r)] w (fun s w => K s.1 w) = sh_ring_Ring_line_Line_Len r w K := by kernel_rfl

theorem call_ring_Ring_line_Line_Len (r : Option Addr) {w : World} {K : Int → World → Prop} (h : sh_ring_Ring_line_Line_Len r w K) : c_ring_Ring_line_Line_Len r w K := by
  rw [← vc_ring_Ring_line_Line_Len] at h
  refine Calls.mono (calls_of_vc C.plain_ok C.mixed Tryz.func42 rfl h) ?_
  rintro e w' ⟨s, rfl, hK⟩
  exact ⟨s.1, rfl, hK⟩

/-- (*phosphor/grid.Grid).is -/
def sh_grid_Grid_is (g : Option Addr) (row : Int) (w : World) (K : Bool → World → Prop) : Prop :=
  cond (decide (row ≥ (0 : Int)))
    (onPtr g fun t10 =>
     ldI .i64 (t10.add 1) w fun t12 =>
     K (decide (row < t12)) w)
    (K false w)

def an_grid_Grid_is : List Ann := [.none, .none]

theorem vc_grid_Grid_is (g : Option Addr) (row : Int) (w : World) (K : Bool → World → Prop) :
    vcFn C (Tryz.f43.body.getD .skip) Tryz.f43.results.toList Tryz.f43.ntmps an_grid_Grid_is [Kind.bool] [(.pointer g), (.int .i64 row)] w (fun s w => K s.1 w) = sh_grid_Grid_is g row w K := by kernel_rfl

theorem call_grid_Grid_is (g : Option Addr) (row : Int) {w : World} {K : Bool → World → Prop} (h : sh_grid_Grid_is g row w K) : c_grid_Grid_is g row w K := by
  rw [← vc_grid_Grid_is] at h
  refine Calls.mono (calls_of_vc C.plain_ok C.mixed Tryz.func43 rfl h) ?_
  rintro e w' ⟨s, rfl, hK⟩
  exact ⟨s.1, rfl, hK⟩

end Go.Proofs.YtmoafafalnbkpaaGreatDoor
