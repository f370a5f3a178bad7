/- By program (gen.py): the typed text of the program's functions, part 0. -/
import Derived.Test.YteffnkpplhcomaaDefs
set_option maxRecDepth 100000
set_option linter.unusedVariables false
namespace Go.Proofs.Yteffnkpplhcomaa
open Go.Vc

/-- phosphor/phosphorlaw21.StoreOwn -/
def sh_phosphorlaw21_StoreOwn (m : T_api_Matrix) (turn : Int) (w : World) (K : Bool → World → Prop) : Prop :=
  nw ty_api_Matrix (T_api_Matrix.rep.cells m) w fun m_1 w1 =>
  c_phosphorlaw21_known  w1 fun t12 w2 =>
  cond (!t12)
    (K false w2)
    (joinP (σ := Unit) (fun s w3 =>
       c_store_New 1048576 w3 fun t45 t45_1 w4 =>
       joinP (σ := Unit) (fun s_1 w5 =>
         ldI .i64 (m_1.add 0) w5.drew fun t55 =>
         ldI .i64 (m_1.add 1) w5.drew fun t57 =>
         ldSl (m_1.add 2) w5.drew fun t60 =>
           (nw ty_uint8 [] w5.drew fun t58 w6 =>
            World.cell? w6 (m_1.add 2) = some (.slice t60.a t60.n t60.c) ∧
            World.cell? w6 (m_1.add 1) = some (.int .i64 t57) ∧
            World.cell? w6 (m_1.add 0) = some (.int .i64 t55) ∧
              (apK PG #[ty_sl_uint8, ty_sl_uint8] ty_sl_uint8 (⟨(some t58), 0, 0⟩ : Slc) t60 w6 fun t61 w7 =>
               World.cell? w7 (m_1.add 1) = some (.int .i64 t57) ∧
               World.cell? w7 (m_1.add 0) = some (.int .i64 t55) ∧
               nw ty_api_Matrix [(.int .i64 0), (.int .i64 0), (.slice none 0 0)] w7 fun mine w8 =>
               World.cell? w8 (m_1.add 2) = some (.slice t60.a t60.n t60.c) ∧
               World.cell? w8 (m_1.add 1) = some (.int .i64 t57) ∧
               World.cell? w8 (m_1.add 0) = some (.int .i64 t55) ∧
               stK mine [(.int .i64 t55), (.int .i64 t57), (.slice t61.a t61.n t61.c)] w8 fun w9 =>
               ldS T_api_Matrix.rep mine w9 fun t64 =>
               c_store_Store_Put t45 3 0 t64 w9 fun t65 t65_1 t65_2 w10 =>
               ldSl (mine.add 2) w10.drew fun t67 =>
               ldSl (mine.add 2) w10.drew fun t69 =>
               ixK t69 0 1 fun t70 =>
               ldI .u8 t70 w10.drew fun t71 =>
               ixK t67 0 1 fun t74 =>
               stK t74 [(.int .u8 (bitsR .xor .u8 t71 turn))] w10.drew fun w11 =>
               c_store_Store_Get t45 3 w11 fun t77 t77_1 w12 =>
               nw ty_api_Matrix [(.int .i64 0), (.int .i64 0), (.slice none 0 0)] w12 fun x w13 =>
               stK x (T_api_Matrix.rep.cells t77) w13 fun w14 =>
               ldSl (x.add 2) w14 fun t81 =>
               runK1 PG (convert ty_sl_uint8 ty_string (.slice t81.a t81.n t81.c)) Kind.string w14 fun (t82 : ByteArray) w15 =>
               ldSl (m_1.add 2) w15 fun t84 =>
               runK1 PG (convert ty_sl_uint8 ty_string (.slice t84.a t84.n t84.c)) Kind.string w15 fun (t85 : ByteArray) w16 =>
               cond (!(t82.toList == t85.toList))
                 (K false w16)
                 (ldSl (x.add 2) w16 fun t88 =>
                  ixK t88 0 1 fun t89 =>
                  ldI .u8 t89 w16 fun t90 =>
                  ixK t88 0 1 fun t92 =>
                  stK t92 [(.int .u8 (IntKind.u8.wrap (t90 + (1 : Int))))] w16 fun w17 =>
                  c_store_Store_Get t45 3 w17 fun t95 t95_1 w18 =>
                  nw ty_api_Matrix [(.int .i64 0), (.int .i64 0), (.slice none 0 0)] w18 fun y w19 =>
                  stK y (T_api_Matrix.rep.cells t95) w19 fun w20 =>
                  ldSl (y.add 2) w20 fun t99 =>
                  runK1 PG (convert ty_sl_uint8 ty_string (.slice t99.a t99.n t99.c)) Kind.string w20 fun (t100 : ByteArray) w21 =>
                  ldSl (m_1.add 2) w21 fun t102 =>
                  runK1 PG (convert ty_sl_uint8 ty_string (.slice t102.a t102.n t102.c)) Kind.string w21 fun (t103 : ByteArray) w22 =>
                  K (t100.toList == t103.toList) w22)) ∧
            nw ty_api_Matrix [(.int .i64 0), (.int .i64 0), (.slice none 0 0)] w6 fun mine_1 w23 =>
            World.cell? w23 (m_1.add 2) = some (.slice t60.a t60.n t60.c) ∧
            World.cell? w23 (m_1.add 1) = some (.int .i64 t57) ∧
            World.cell? w23 (m_1.add 0) = some (.int .i64 t55) ∧
            apK PG #[ty_sl_uint8, ty_sl_uint8] ty_sl_uint8 (⟨(some t58), 0, 0⟩ : Slc) t60 w23 fun t61_1 w24 =>
            World.cell? w24 (m_1.add 1) = some (.int .i64 t57) ∧
            World.cell? w24 (m_1.add 0) = some (.int .i64 t55) ∧
            stK mine_1 [(.int .i64 t55), (.int .i64 t57), (.slice t61_1.a t61_1.n t61_1.c)] w24 fun w25 =>
            ldS T_api_Matrix.rep mine_1 w25 fun t64_1 =>
            c_store_Store_Put t45 3 0 t64_1 w25 fun t65_3 t65_4 t65_5 w26 =>
            ldSl (mine_1.add 2) w26.drew fun t67_1 =>
            ldSl (mine_1.add 2) w26.drew fun t69_1 =>
            ixK t69_1 0 1 fun t70_1 =>
            ldI .u8 t70_1 w26.drew fun t71_1 =>
            ixK t67_1 0 1 fun t74_1 =>
            stK t74_1 [(.int .u8 (bitsR .xor .u8 t71_1 turn))] w26.drew fun w27 =>
            c_store_Store_Get t45 3 w27 fun t77_2 t77_3 w28 =>
            nw ty_api_Matrix [(.int .i64 0), (.int .i64 0), (.slice none 0 0)] w28 fun x_1 w29 =>
            stK x_1 (T_api_Matrix.rep.cells t77_2) w29 fun w30 =>
            ldSl (x_1.add 2) w30 fun t81_1 =>
            runK1 PG (convert ty_sl_uint8 ty_string (.slice t81_1.a t81_1.n t81_1.c)) Kind.string w30 fun (t82_1 : ByteArray) w31 =>
            ldSl (m_1.add 2) w31 fun t84_1 =>
            runK1 PG (convert ty_sl_uint8 ty_string (.slice t84_1.a t84_1.n t84_1.c)) Kind.string w31 fun (t85_1 : ByteArray) w32 =>
            cond (!(t82_1.toList == t85_1.toList))
              (K false w32)
              (ldSl (x_1.add 2) w32 fun t88_1 =>
               ixK t88_1 0 1 fun t89_1 =>
               ldI .u8 t89_1 w32 fun t90_1 =>
               ixK t88_1 0 1 fun t92_1 =>
               stK t92_1 [(.int .u8 (IntKind.u8.wrap (t90_1 + (1 : Int))))] w32 fun w33 =>
               c_store_Store_Get t45 3 w33 fun t95_2 t95_3 w34 =>
               nw ty_api_Matrix [(.int .i64 0), (.int .i64 0), (.slice none 0 0)] w34 fun y_1 w35 =>
               stK y_1 (T_api_Matrix.rep.cells t95_2) w35 fun w36 =>
               ldSl (y_1.add 2) w36 fun t99_1 =>
               runK1 PG (convert ty_sl_uint8 ty_string (.slice t99_1.a t99_1.n t99_1.c)) Kind.string w36 fun (t100_1 : ByteArray) w37 =>
               ldSl (m_1.add 2) w37 fun t102_1 =>
               runK1 PG (convert ty_sl_uint8 ty_string (.slice t102_1.a t102_1.n t102_1.c)) Kind.string w37 fun (t103_1 : ByteArray) w38 =>
               K (t100_1.toList == t103_1.toList) w38)) ∧
         nw ty_api_Matrix [(.int .i64 0), (.int .i64 0), (.slice none 0 0)] w5.drew fun mine_2 w39 =>
         World.cell? w39 (m_1.add 2) = some (.slice t60.a t60.n t60.c) ∧
         World.cell? w39 (m_1.add 1) = some (.int .i64 t57) ∧
         World.cell? w39 (m_1.add 0) = some (.int .i64 t55) ∧
         nw ty_uint8 [] w39 fun t58_1 w40 =>
         World.cell? w40 (m_1.add 2) = some (.slice t60.a t60.n t60.c) ∧
         World.cell? w40 (m_1.add 1) = some (.int .i64 t57) ∧
         World.cell? w40 (m_1.add 0) = some (.int .i64 t55) ∧
         apK PG #[ty_sl_uint8, ty_sl_uint8] ty_sl_uint8 (⟨(some t58_1), 0, 0⟩ : Slc) t60 w40 fun t61_2 w41 =>
         World.cell? w41 (m_1.add 1) = some (.int .i64 t57) ∧
         World.cell? w41 (m_1.add 0) = some (.int .i64 t55) ∧
         stK mine_2 [(.int .i64 t55), (.int .i64 t57), (.slice t61_2.a t61_2.n t61_2.c)] w41 fun w42 =>
         ldS T_api_Matrix.rep mine_2 w42 fun t64_2 =>
         c_store_Store_Put t45 3 0 t64_2 w42 fun t65_6 t65_7 t65_8 w43 =>
         ldSl (mine_2.add 2) w43.drew fun t67_2 =>
         ldSl (mine_2.add 2) w43.drew fun t69_2 =>
         ixK t69_2 0 1 fun t70_2 =>
         ldI .u8 t70_2 w43.drew fun t71_2 =>
         ixK t67_2 0 1 fun t74_2 =>
         stK t74_2 [(.int .u8 (bitsR .xor .u8 t71_2 turn))] w43.drew fun w44 =>
         c_store_Store_Get t45 3 w44 fun t77_4 t77_5 w45 =>
         nw ty_api_Matrix [(.int .i64 0), (.int .i64 0), (.slice none 0 0)] w45 fun x_2 w46 =>
         stK x_2 (T_api_Matrix.rep.cells t77_4) w46 fun w47 =>
         ldSl (x_2.add 2) w47 fun t81_2 =>
         runK1 PG (convert ty_sl_uint8 ty_string (.slice t81_2.a t81_2.n t81_2.c)) Kind.string w47 fun (t82_2 : ByteArray) w48 =>
         ldSl (m_1.add 2) w48 fun t84_2 =>
         runK1 PG (convert ty_sl_uint8 ty_string (.slice t84_2.a t84_2.n t84_2.c)) Kind.string w48 fun (t85_2 : ByteArray) w49 =>
         cond (!(t82_2.toList == t85_2.toList))
           (K false w49)
           (ldSl (x_2.add 2) w49 fun t88_2 =>
            ixK t88_2 0 1 fun t89_2 =>
            ldI .u8 t89_2 w49 fun t90_2 =>
            ixK t88_2 0 1 fun t92_2 =>
            stK t92_2 [(.int .u8 (IntKind.u8.wrap (t90_2 + (1 : Int))))] w49 fun w50 =>
            c_store_Store_Get t45 3 w50 fun t95_4 t95_5 w51 =>
            nw ty_api_Matrix [(.int .i64 0), (.int .i64 0), (.slice none 0 0)] w51 fun y_2 w52 =>
            stK y_2 (T_api_Matrix.rep.cells t95_4) w52 fun w53 =>
            ldSl (y_2.add 2) w53 fun t99_2 =>
            runK1 PG (convert ty_sl_uint8 ty_string (.slice t99_2.a t99_2.n t99_2.c)) Kind.string w53 fun (t100_2 : ByteArray) w54 =>
            ldSl (m_1.add 2) w54 fun t102_2 =>
            runK1 PG (convert ty_sl_uint8 ty_string (.slice t102_2.a t102_2.n t102_2.c)) Kind.string w54 fun (t103_2 : ByteArray) w55 =>
            K (t100_2.toList == t103_2.toList) w55)) fun J2 =>
       cond (t45_1 != (0 : Int))
         (K false w4)
         (cond (t45.isNone)
            (K false w4)
            (J2 (()) w4))) fun J1 =>
     ldI .i64 (m_1.add 0) w2 fun t15 =>
     cond (decide (t15 < (1 : Int)))
       (K true w2)
       (ldI .i64 (m_1.add 1) w2 fun t19 =>
        cond (decide (t19 < (1 : Int)))
          (K true w2)
          (ldI .i64 (m_1.add 0) w2 fun t24 =>
           cond (decide (t24 > (20 : Int)))
             (K true w2)
             (ldI .i64 (m_1.add 1) w2 fun t29 =>
              cond (decide (t29 > (20 : Int)))
                (K true w2)
                (ldSl (m_1.add 2) w2 fun t34 =>
                 ldI .i64 (m_1.add 0) w2 fun t37 =>
                 ldI .i64 (m_1.add 1) w2 fun t40 =>
                 cond (((t34.n : Nat) : Int) != (IntKind.i64.wrap ((IntKind.i64.wrap ((4 : Int) * t37)) * t40)))
                   (K true w2)
                   (J1 (()) w2))))))

def an_phosphorlaw21_StoreOwn : List Ann := [.none, .none, .none, .none, .join [] [4, 14, 15, 16, 17, 18, 19, 20, 21, 22, 23, 24, 25, 26, 27, 28, 29, 30, 31, 32, 33, 34, 35, 36, 37, 38, 39, 40, 41, 42, 43], .none, .none, .none, .join [] [4, 48, 49, 50, 51, 52, 53], .none, .none, .none, .none, .none, .none, .none, .none, .none, .none, .none, .none]

theorem vc_phosphorlaw21_StoreOwn (m : T_api_Matrix) (turn : Int) (w : World) (K : Bool → World → Prop) :
    vcFn C (Try.f3.body.getD .skip) Try.f3.results.toList Try.f3.ntmps an_phosphorlaw21_StoreOwn [Kind.bool] [(.agg #[(.int .i64 m.W), (.int .i64 m.H), (.slice m.P.a m.P.n m.P.c)]), (.int .u8 turn)] w (fun s w => K s.1 w) = sh_phosphorlaw21_StoreOwn m turn w K := by kernel_rfl

theorem call_phosphorlaw21_StoreOwn (m : T_api_Matrix) (turn : Int) {w : World} {K : Bool → World → Prop} (h : sh_phosphorlaw21_StoreOwn m turn w K) : c_phosphorlaw21_StoreOwn m turn w K := by
  rw [← vc_phosphorlaw21_StoreOwn] at h
  refine Calls.mono (calls_of_vc C.plain_ok C.mixed Try.func3 rfl h) ?_
  rintro e w' ⟨s, rfl, hK⟩
  exact ⟨s.1, rfl, hK⟩

/-- phosphor/phosphorlaw21.StoreNumbers -/
def sh_phosphorlaw21_StoreNumbers (n : Int) (ids : Slc) (drop : Int) (w : World) (K : Bool → World → Prop) : Prop :=
  c_phosphorlaw21_known  w fun t20 w1 =>
  cond (!t20)
    (K false w1)
    (joinP (σ := Unit) (fun s w2 =>
       c_store_New 1048576 w2 fun t39 t39_1 w3 =>
       joinP (σ := Unit) (fun s_1 w4 =>
         mkSl PG ty_sl_uint8 (.int .i64 4) (.int .i64 4) w4 fun t48 w5 =>
         nw ty_api_Matrix [(.int .i64 0), (.int .i64 0), (.slice none 0 0)] w5 fun m w6 =>
         stK m [(.int .i64 1), (.int .i64 1), (.slice t48.a t48.n t48.c)] w6 fun w7 =>
         loopP (σ := Slc × Int × Unit) (fun I3 s_2 w8 =>
           cond (decide (s_2.2.1 < ((ids.n : Nat) : Int)))
             (ixK ids s_2.2.1 1 fun t58 =>
              ldI .i64 t58 w8 fun t59 =>
              ldS T_api_Matrix.rep m w8 fun t65 =>
              c_store_Store_Put t39 (IntKind.i64.wrap ((1 : Int) + (bitsR .and .i64 t59 (7 : Int)))) n t65 w8 fun t66 t66_1 t66_2 w9 =>
              loopP (σ := Slc × Int × Unit) (fun I4 s_3 w10 =>
                cond (decide (s_3.2.1 < ((s_2.1.n : Nat) : Int)))
                  (ixK s_2.1 s_3.2.1 1 fun t75 =>
                   ldI .i64 t75 w10 fun t76 =>
                   cond (t76 != (IntKind.i64.wrap ((1 : Int) + (bitsR .and .i64 t59 (7 : Int)))))
                     (ixK s_2.1 s_3.2.1 1 fun t82 =>
                      ldI .i64 t82 w10 fun t83 =>
                      nw ty_int [(.int .i64 t83)] w10 fun t84 w11 =>
                      apK PG #[ty_sl_int, ty_sl_int] ty_sl_int s_3.1 (⟨(some t84), 1, 1⟩ : Slc) w11 fun t85 w12 =>
                      I4 (t85, (IntKind.i64.wrap (s_3.2.1 + (1 : Int))), ()) w12)
                     (I4 (s_3.1, (IntKind.i64.wrap (s_3.2.1 + (1 : Int))), ()) w10))
                  (nw ty_int [(.int .i64 (IntKind.i64.wrap ((1 : Int) + (bitsR .and .i64 t59 (7 : Int)))))] w10 fun t88 w13 =>
                   apK PG #[ty_sl_int, ty_sl_int] ty_sl_int s_3.1 (⟨(some t88), 1, 1⟩ : Slc) w13 fun t89 w14 =>
                   I3 (t89, (IntKind.i64.wrap (s_2.2.1 + (1 : Int))), ()) w14)) (⟨none, 0, 0⟩, 0, ()) w9)
             (loopP (σ := Slc × Int × Unit) (fun I5 s_4 w15 =>
                joinP (σ := Unit) (fun s_5 w16 =>
                  c_store_Store_Number t39 n w16 fun t104 t104_1 w17 =>
                  joinP (σ := Unit) (fun s_6 w18 =>
                    slK s_4.1 none (some (IntKind.i64.wrap (((s_4.1.n : Nat) : Int) - (1 : Int)))) 1 fun t129 =>
                    I5 (t129, (IntKind.i64.wrap (s_4.2.1 + (1 : Int))), ()) w18) fun J7 =>
                  cond (!t104_1)
                    (K false w17)
                    (ixK s_4.1 (IntKind.i64.wrap (((s_4.1.n : Nat) : Int) - (1 : Int))) 1 fun t115 =>
                     ldI .i64 t115 w17 fun t116 =>
                     cond (t104 != t116)
                       (K false w17)
                       (c_store_Store_Drop t39 t104 w17 fun t122 w19 =>
                        cond (!t122)
                          (K false w19)
                          (J7 (()) w19)))) fun J6 =>
                cond (decide (s_4.2.1 < (bitsR .and .i64 drop (7 : Int))))
                  (cond (decide (((s_4.1.n : Nat) : Int) > (0 : Int)))
                     (J6 (()) w15)
                     (c_store_Store_Number t39 n w15 fun t133 t133_1 w20 =>
                      cond (t133_1 == (decide (((s_4.1.n : Nat) : Int) > (0 : Int))))
                        (cond (!t133_1)
                           (c_store_Store_Ids t39 w20 fun t157 w21 =>
                            K (((t157.n : Nat) : Int) == ((s_4.1.n : Nat) : Int)) w21)
                           (ixK s_4.1 (IntKind.i64.wrap (((s_4.1.n : Nat) : Int) - (1 : Int))) 1 fun t150 =>
                            ldI .i64 t150 w20 fun t151 =>
                            cond (t133 == t151)
                              (c_store_Store_Ids t39 w20 fun t157_1 w22 =>
                               K (((t157_1.n : Nat) : Int) == ((s_4.1.n : Nat) : Int)) w22)
                              (K false w20)))
                        (K false w20)))
                  (c_store_Store_Number t39 n w15 fun t133_2 t133_3 w23 =>
                   cond (t133_3 == (decide (((s_4.1.n : Nat) : Int) > (0 : Int))))
                     (cond (!t133_3)
                        (c_store_Store_Ids t39 w23 fun t157_2 w24 =>
                         K (((t157_2.n : Nat) : Int) == ((s_4.1.n : Nat) : Int)) w24)
                        (ixK s_4.1 (IntKind.i64.wrap (((s_4.1.n : Nat) : Int) - (1 : Int))) 1 fun t150_1 =>
                         ldI .i64 t150_1 w23 fun t151_1 =>
                         cond (t133_2 == t151_1)
                           (c_store_Store_Ids t39 w23 fun t157_3 w25 =>
                            K (((t157_3.n : Nat) : Int) == ((s_4.1.n : Nat) : Int)) w25)
                           (K false w23)))
                     (K false w23))) (s_2.1, 0, ()) w8)) (⟨none, 0, 0⟩, 0, ()) w7) fun J2 =>
       cond (t39_1 != (0 : Int))
         (K false w3)
         (cond (t39.isNone)
            (K false w3)
            (J2 (()) w3))) fun J1 =>
     cond (decide (n < (1 : Int)))
       (K true w1)
       (cond (decide (n > (1000 : Int)))
          (K true w1)
          (cond (decide (((ids.n : Nat) : Int) > (20 : Int)))
             (K true w1)
             (cond (((ids.n : Nat) : Int) == (0 : Int))
                (K true w1)
                (J1 (()) w1)))))

def an_phosphorlaw21_StoreNumbers : List Ann := [.none, .none, .none, .none, .join [] [6, 22, 23, 24, 25, 26, 27, 28, 29, 30, 31, 32, 33, 34, 35, 36, 37], .none, .none, .none, .join [] [6, 42, 43, 44, 45, 46, 47], .none, .none, .none, .none, .none, .none, .join [(10, Kind.slice), (11, (Kind.int .i64))] [10, 11, 12, 13, 14, 50, 51, 52, 53, 54, 55, 56, 57, 58, 59, 60, 61, 62, 63, 64, 65, 66, 67, 68, 69, 70, 71, 72, 73, 74, 75, 76, 77, 78, 79, 80, 81, 82, 83, 84, 85, 86, 87, 88, 89], .none, .none, .none, .none, .none, .none, .none, .none, .join [(13, Kind.slice), (14, (Kind.int .i64))] [13, 14, 67, 68, 69, 70, 71, 72, 73, 74, 75, 76, 77, 78, 79, 80, 81, 82, 83, 84, 85], .none, .none, .none, .none, .none, .none, .join [(10, Kind.slice), (15, (Kind.int .i64))] [6, 10, 15, 16, 17, 90, 91, 92, 93, 94, 95, 96, 97, 98, 99, 100, 101, 102, 103, 104, 105, 106, 107, 108, 109, 110, 111, 112, 113, 114, 115, 116, 117, 118, 119, 120, 121, 122, 123, 124, 125, 126, 127, 128, 129], .join [] [90, 91, 92, 93, 94, 95, 96, 97, 98], .none, .none, .none, .join [] [6, 107, 108, 109, 110, 111, 112, 113, 114, 115, 116, 117, 118, 119, 120, 121, 122, 123, 124], .none, .none, .none, .none]

theorem vc_phosphorlaw21_StoreNumbers (n : Int) (ids : Slc) (drop : Int) (w : World) (K : Bool → World → Prop) :
    vcFn C (Try.f4.body.getD .skip) Try.f4.results.toList Try.f4.ntmps an_phosphorlaw21_StoreNumbers [Kind.bool] [(.int .i64 n), (.slice ids.a ids.n ids.c), (.int .i64 drop)] w (fun s w => K s.1 w) = sh_phosphorlaw21_StoreNumbers n ids drop w K := by kernel_rfl

theorem call_phosphorlaw21_StoreNumbers (n : Int) (ids : Slc) (drop : Int) {w : World} {K : Bool → World → Prop} (h : sh_phosphorlaw21_StoreNumbers n ids drop w K) : c_phosphorlaw21_StoreNumbers n ids drop w K := by
  rw [← vc_phosphorlaw21_StoreNumbers] at h
  refine Calls.mono (calls_of_vc C.plain_ok C.mixed Try.func4 rfl h) ?_
  rintro e w' ⟨s, rfl, hK⟩
  exact ⟨s.1, rfl, hK⟩

/-- phosphor/phosphorlaw5.InflateBack -/
def sh_phosphorlaw5_InflateBack (b : Slc) (more : Slc) (fixed : Bool) (w : World) (K : Bool → World → Prop) : Prop :=
  c_phosphorlaw5_known  w fun t12 w1 =>
  cond (!t12)
    (K false w1)
    (joinP (σ := Unit) (fun s w2 =>
       c_inflate_Store b w2 fun t23 w3 =>
       c_phosphorref5_Store b w3 fun t25 w4 =>
       joinP (σ := Slc × Slc × Unit) (fun s_1 w5 =>
         nw ty_uint8 [] w5 fun t32 w6 =>
         apK PG #[ty_sl_uint8, ty_sl_uint8] ty_sl_uint8 (⟨(some t32), 0, 0⟩ : Slc) s_1.1 w6 fun t34 w7 =>
         apK PG #[ty_sl_uint8, ty_sl_uint8] ty_sl_uint8 t34 more w7 fun t36 w8 =>
         c_inflate_Inflate t36 ((b.n : Nat) : Int) w8 fun t39 t39_1 t39_2 w9 =>
         runK1 PG (convert ty_sl_uint8 ty_string (.slice s_1.1.a s_1.1.n s_1.1.c)) Kind.string w9 fun (t44 : ByteArray) w10 =>
         runK1 PG (convert ty_sl_uint8 ty_string (.slice s_1.2.1.a s_1.2.1.n s_1.2.1.c)) Kind.string w10 fun (t46 : ByteArray) w11 =>
         cond (t44.toList == t46.toList)
           (runK1 PG (convert ty_sl_uint8 ty_string (.slice t39.a t39.n t39.c)) Kind.string w11 fun (t50 : ByteArray) w12 =>
            runK1 PG (convert ty_sl_uint8 ty_string (.slice b.a b.n b.c)) Kind.string w12 fun (t52 : ByteArray) w13 =>
            cond (t50.toList == t52.toList)
              (cond (t39_1 == ((s_1.1.n : Nat) : Int))
                 (K (t39_2 == (0 : Int)) w13)
                 (K false w13))
              (K false w13))
           (K false w11)) fun J2 =>
       cond fixed
         (c_inflate_Fixed b w4 fun t28 w14 =>
          c_phosphorref5_Fixed b w14 fun t30 w15 =>
          J2 (t28, t30, ()) w15)
         (J2 (t23, t25, ()) w4)) fun J1 =>
     cond (decide (((b.n : Nat) : Int) > (4096 : Int)))
       (K true w1)
       (cond (decide (((more.n : Nat) : Int) > (4096 : Int)))
          (K true w1)
          (J1 (()) w1)))

def an_phosphorlaw5_InflateBack : List Ann := [.none, .none, .none, .none, .join [] [6, 14, 15, 16, 17, 18, 19, 20, 21], .none, .none, .none, .none, .join [(7, Kind.slice), (8, Kind.slice)] [7, 8, 26, 27, 28, 29, 30], .none, .none, .none, .none]

theorem vc_phosphorlaw5_InflateBack (b : Slc) (more : Slc) (fixed : Bool) (w : World) (K : Bool → World → Prop) :
    vcFn C (Try.f5.body.getD .skip) Try.f5.results.toList Try.f5.ntmps an_phosphorlaw5_InflateBack [Kind.bool] [(.slice b.a b.n b.c), (.slice more.a more.n more.c), (.bool fixed)] w (fun s w => K s.1 w) = sh_phosphorlaw5_InflateBack b more fixed w K := by kernel_rfl

theorem call_phosphorlaw5_InflateBack (b : Slc) (more : Slc) (fixed : Bool) {w : World} {K : Bool → World → Prop} (h : sh_phosphorlaw5_InflateBack b more fixed w K) : c_phosphorlaw5_InflateBack b more fixed w K := by
  rw [← vc_phosphorlaw5_InflateBack] at h
  refine Calls.mono (calls_of_vc C.plain_ok C.mixed Try.func5 rfl h) ?_
  rintro e w' ⟨s, rfl, hK⟩
  exact ⟨s.1, rfl, hK⟩

/-- phosphor/phosphorlaw5.InflateCaps -/
def sh_phosphorlaw5_InflateCaps (b : Slc) (fixed : Bool) (most : Int) (w : World) (K : Bool → World → Prop) : Prop :=
  c_phosphorlaw5_known  w fun t11 w1 =>
  cond (!t11)
    (K false w1)
    (joinP (σ := Unit) (fun s w2 =>
       c_inflate_Store b w2 fun t25 w3 =>
       joinP (σ := Slc × Unit) (fun s_1 w4 =>
         c_inflate_Inflate s_1.1 most w4 fun t32 t32_1 t32_2 w5 =>
         cond (decide (most < ((b.n : Nat) : Int)))
           (cond (t32_2 == (5 : Int))
              (cond (((t32.n : Nat) : Int) == (0 : Int))
                 (K (t32_1 == (0 : Int)) w5)
                 (K false w5))
              (K false w5))
           (cond (t32_2 == (0 : Int))
              (runK1 PG (convert ty_sl_uint8 ty_string (.slice t32.a t32.n t32.c)) Kind.string w5 fun (t55 : ByteArray) w6 =>
               runK1 PG (convert ty_sl_uint8 ty_string (.slice b.a b.n b.c)) Kind.string w6 fun (t57 : ByteArray) w7 =>
               K (t55.toList == t57.toList) w7)
              (K false w5))) fun J2 =>
       cond fixed
         (c_inflate_Fixed b w3 fun t28 w8 =>
          J2 (t28, ()) w8)
         (J2 (t25, ()) w3)) fun J1 =>
     cond (decide (((b.n : Nat) : Int) > (600 : Int)))
       (K true w1)
       (cond (decide (most < (0 : Int)))
          (K true w1)
          (cond (decide (most > (1048576 : Int)))
             (K true w1)
             (J1 (()) w1))))

def an_phosphorlaw5_InflateCaps : List Ann := [.none, .none, .none, .none, .join [] [6, 13, 14, 15, 16, 17, 18, 19, 20, 21, 22, 23], .none, .none, .none, .join [(7, Kind.slice)] [7, 26, 27, 28], .none, .none, .none, .none, .none, .none]

theorem vc_phosphorlaw5_InflateCaps (b : Slc) (fixed : Bool) (most : Int) (w : World) (K : Bool → World → Prop) :
    vcFn C (Try.f6.body.getD .skip) Try.f6.results.toList Try.f6.ntmps an_phosphorlaw5_InflateCaps [Kind.bool] [(.slice b.a b.n b.c), (.bool fixed), (.int .i64 most)] w (fun s w => K s.1 w) = sh_phosphorlaw5_InflateCaps b fixed most w K := by kernel_rfl

theorem call_phosphorlaw5_InflateCaps (b : Slc) (fixed : Bool) (most : Int) {w : World} {K : Bool → World → Prop} (h : sh_phosphorlaw5_InflateCaps b fixed most w K) : c_phosphorlaw5_InflateCaps b fixed most w K := by
  rw [← vc_phosphorlaw5_InflateCaps] at h
  refine Calls.mono (calls_of_vc C.plain_ok C.mixed Try.func6 rfl h) ?_
  rintro e w' ⟨s, rfl, hK⟩
  exact ⟨s.1, rfl, hK⟩

/-- phosphor/phosphorlaw5.InflateFronts -/
def sh_phosphorlaw5_InflateFronts (b : Slc) (fixed : Bool) (cut : Int) (w : World) (K : Bool → World → Prop) : Prop :=
  c_phosphorlaw5_known  w fun t11 w1 =>
  cond (!t11)
    (K false w1)
    (cond (decide (((b.n : Nat) : Int) > (600 : Int)))
       (K true w1)
       (c_inflate_Store b w1 fun t17 w2 =>
        joinP (σ := Slc × Unit) (fun s w3 =>
          cond (((s.1.n : Nat) : Int) == (0 : Int))
            (K false w3)
            (((s.1.n : Nat) : Int) ≠ 0 ∧
             joinP (σ := Int × Unit) (fun s_1 w4 =>
               slK s.1 none (some s_1.1) 1 fun t37 =>
               c_inflate_Inflate t37 ((b.n : Nat) : Int) w4 fun t40 t40_1 t40_2 w5 =>
               cond (((t40.n : Nat) : Int) == (0 : Int))
                 (cond (t40_1 == (0 : Int))
                    (K (t40_2 == (2 : Int)) w5)
                    (K false w5))
                 (K false w5)) fun J2 =>
             cond (decide ((cut.tmod ((s.1.n : Nat) : Int)) < (0 : Int)))
               (J2 ((IntKind.i64.wrap ((cut.tmod ((s.1.n : Nat) : Int)) + ((s.1.n : Nat) : Int))), ()) w3)
               (J2 ((cut.tmod ((s.1.n : Nat) : Int)), ()) w3))) fun J1 =>
        cond fixed
          (c_inflate_Fixed b w2 fun t20 w6 =>
           J1 (t20, ()) w6)
          (J1 (t17, ()) w2)))

def an_phosphorlaw5_InflateFronts : List Ann := [.none, .none, .none, .none, .none, .none, .none, .none, .join [(7, Kind.slice)] [7, 18, 19, 20], .none, .none, .none, .none, .none, .join [(2, (Kind.int .i64))] [2, 28, 29, 30, 31, 32, 33], .none, .none, .none]

theorem vc_phosphorlaw5_InflateFronts (b : Slc) (fixed : Bool) (cut : Int) (w : World) (K : Bool → World → Prop) :
    vcFn C (Try.f7.body.getD .skip) Try.f7.results.toList Try.f7.ntmps an_phosphorlaw5_InflateFronts [Kind.bool] [(.slice b.a b.n b.c), (.bool fixed), (.int .i64 cut)] w (fun s w => K s.1 w) = sh_phosphorlaw5_InflateFronts b fixed cut w K := by kernel_rfl

theorem call_phosphorlaw5_InflateFronts (b : Slc) (fixed : Bool) (cut : Int) {w : World} {K : Bool → World → Prop} (h : sh_phosphorlaw5_InflateFronts b fixed cut w K) : c_phosphorlaw5_InflateFronts b fixed cut w K := by
  rw [← vc_phosphorlaw5_InflateFronts] at h
  refine Calls.mono (calls_of_vc C.plain_ok C.mixed Try.func7 rfl h) ?_
  rintro e w' ⟨s, rfl, hK⟩
  exact ⟨s.1, rfl, hK⟩

/-- phosphor/phosphorlaw5.InflateTwo -/
def sh_phosphorlaw5_InflateTwo (a : Slc) (b : Slc) (fixed : Bool) (w : World) (K : Bool → World → Prop) : Prop :=
  c_phosphorlaw5_known  w fun t12 w1 =>
  cond (!t12)
    (K false w1)
    (joinP (σ := Unit) (fun s w2 =>
       c_phosphorref5_Store a w2 fun t23 w3 =>
       ixK t23 0 1 fun t25 =>
       stK t25 [(.int .u8 0)] w3 fun w4 =>
       c_inflate_Store b w4 fun t27 w5 =>
       joinP (σ := Slc × Unit) (fun s_1 w6 =>
         nw ty_uint8 [] w6 fun t32 w7 =>
         apK PG #[ty_sl_uint8, ty_sl_uint8] ty_sl_uint8 (⟨(some t32), 0, 0⟩ : Slc) t23 w7 fun t34 w8 =>
         apK PG #[ty_sl_uint8, ty_sl_uint8] ty_sl_uint8 t34 s_1.1 w8 fun t36 w9 =>
         c_inflate_Inflate t36 (IntKind.i64.wrap (((a.n : Nat) : Int) + ((b.n : Nat) : Int))) w9 fun t42 t42_1 t42_2 w10 =>
         cond (t42_2 == (0 : Int))
           (cond (t42_1 == (IntKind.i64.wrap (((t23.n : Nat) : Int) + ((s_1.1.n : Nat) : Int))))
              (runK1 PG (convert ty_sl_uint8 ty_string (.slice t42.a t42.n t42.c)) Kind.string w10 fun (t59 : ByteArray) w11 =>
               runK1 PG (convert ty_sl_uint8 ty_string (.slice a.a a.n a.c)) Kind.string w11 fun (t61 : ByteArray) w12 =>
               runK1 PG (convert ty_sl_uint8 ty_string (.slice b.a b.n b.c)) Kind.string w12 fun (t63 : ByteArray) w13 =>
               (((t61.size + t63.size : Nat) : Int) ≤ 9223372036854775807) ∧
               K (t59.toList == (t61 ++ t63).toList) w13)
              (K false w10))
           (K false w10)) fun J2 =>
       cond fixed
         (c_inflate_Fixed b w5 fun t30 w14 =>
          J2 (t30, ()) w14)
         (J2 (t27, ()) w5)) fun J1 =>
     cond (decide (((a.n : Nat) : Int) > (600 : Int)))
       (K true w1)
       (cond (decide (((b.n : Nat) : Int) > (600 : Int)))
          (K true w1)
          (J1 (()) w1)))

def an_phosphorlaw5_InflateTwo : List Ann := [.none, .none, .none, .none, .join [] [6, 14, 15, 16, 17, 18, 19, 20, 21], .none, .none, .none, .none, .none, .join [(8, Kind.slice)] [8, 28, 29, 30], .none, .none, .none]

theorem vc_phosphorlaw5_InflateTwo (a : Slc) (b : Slc) (fixed : Bool) (w : World) (K : Bool → World → Prop) :
    vcFn C (Try.f8.body.getD .skip) Try.f8.results.toList Try.f8.ntmps an_phosphorlaw5_InflateTwo [Kind.bool] [(.slice a.a a.n a.c), (.slice b.a b.n b.c), (.bool fixed)] w (fun s w => K s.1 w) = sh_phosphorlaw5_InflateTwo a b fixed w K := by kernel_rfl

theorem call_phosphorlaw5_InflateTwo (a : Slc) (b : Slc) (fixed : Bool) {w : World} {K : Bool → World → Prop} (h : sh_phosphorlaw5_InflateTwo a b fixed w K) : c_phosphorlaw5_InflateTwo a b fixed w K := by
  rw [← vc_phosphorlaw5_InflateTwo] at h
  refine Calls.mono (calls_of_vc C.plain_ok C.mixed Try.func8 rfl h) ?_
  rintro e w' ⟨s, rfl, hK⟩
  exact ⟨s.1, rfl, hK⟩

/-- phosphor/phosphorlaw21.StoreEldest -/
def sh_phosphorlaw21_StoreEldest (quota : Int) (l : Slc) (w : World) (K : Bool → World → Prop) : Prop :=
  c_phosphorlaw21_known  w fun t19 w1 =>
  cond (!t19)
    (K false w1)
    (joinP (σ := Unit) (fun s w2 =>
       c_store_New quota w2 fun t34 t34_1 w3 =>
       joinP (σ := Unit) (fun s_1 w4 =>
         loopP (σ := Int × Unit) (fun I3 s_2 w5 =>
           cond (decide (s_2.1 < ((l.n : Nat) : Int)))
             (c_store_Store_Twin t34 w5 fun t50 w6 =>
              cond (t50.isNone)
                (K false w6)
                (joinP (σ := Slc × Int × Int × Unit) (fun s_3 w7 =>
                   joinP (σ := Unit) (fun s_4 w8 =>
                     loopP (σ := Int × Unit) (fun I6 s_5 w9 =>
                       cond (decide (s_5.1 < ((s_3.1.n : Nat) : Int)))
                         (c_store_Store_Used t50 w9 fun t161 w10 =>
                          cond (decide (t161 ≤ (IntKind.i64.wrap (quota - s_3.2.1))))
                            (K false w10)
                            (ixK s_3.1 s_5.1 1 fun t170 =>
                             ldI .i64 t170 w10 fun t171 =>
                             c_store_Store_Stamp t50 t171 w10 fun t172 t172_1 w11 =>
                             c_store_Store_Ids t50 w11 fun t176 w12 =>
                             loopP (σ := Int × Unit) (fun I7 s_6 w13 =>
                               cond (decide (s_6.1 < ((t176.n : Nat) : Int)))
                                 (ixK t176 s_6.1 1 fun t187 =>
                                  ldI .i64 t187 w13 fun t188 =>
                                  c_store_Store_Stamp t50 t188 w13 fun t189 t189_1 w14 =>
                                  cond (decide (t189 < t172))
                                    (K false w14)
                                    (I7 ((IntKind.i64.wrap (s_6.1 + (1 : Int))), ()) w14))
                                 (cond (!t172_1)
                                    (K false w13)
                                    (ixK s_3.1 s_5.1 1 fun t201 =>
                                     ldI .i64 t201 w13 fun t202 =>
                                     c_store_Store_Drop t50 t202 w13 fun t203 w15 =>
                                     cond (!t203)
                                       (K false w15)
                                       (I6 ((IntKind.i64.wrap (s_5.1 + (1 : Int))), ()) w15)))) (0, ()) w12))
                         (I3 ((IntKind.i64.wrap (s_2.1 + (1 : Int))), ()) w9)) (0, ()) w8) fun J5 =>
                   cond (s_3.2.2.1 != (0 : Int))
                     (cond (decide (((s_3.1.n : Nat) : Int) > (0 : Int)))
                        (K false w7)
                        (c_store_Store_Used t34 w7 fun t136 w16 =>
                         c_store_Store_Reserved t34 w16 fun t139 w17 =>
                         cond (decide (t136 > (IntKind.i64.wrap (quota - t139))))
                           (c_store_Store_Reserved t34 w17 fun t144 w18 =>
                            cond (decide (t144 > (0 : Int)))
                              (K false w18)
                              (c_store_Store_Used t34 w18 fun t150 w19 =>
                               cond (decide (t150 > quota))
                                 (K false w19)
                                 (J5 (()) w19)))
                           (c_store_Store_Used t34 w17 fun t150_1 w20 =>
                            cond (decide (t150_1 > quota))
                              (K false w20)
                              (J5 (()) w20))))
                     (c_store_Store_Used t34 w7 fun t136_1 w21 =>
                      c_store_Store_Reserved t34 w21 fun t139_1 w22 =>
                      cond (decide (t136_1 > (IntKind.i64.wrap (quota - t139_1))))
                        (c_store_Store_Reserved t34 w22 fun t144_1 w23 =>
                         cond (decide (t144_1 > (0 : Int)))
                           (K false w23)
                           (c_store_Store_Used t34 w23 fun t150_2 w24 =>
                            cond (decide (t150_2 > quota))
                              (K false w24)
                              (J5 (()) w24)))
                        (c_store_Store_Used t34 w22 fun t150_3 w25 =>
                         cond (decide (t150_3 > quota))
                           (K false w25)
                           (J5 (()) w25)))) fun J4 =>
                 ixK l s_2.1 7 fun t55 =>
                 ldI .i64 (t55.add 0) w6 fun t57 =>
                 cond (t57 == (1 : Int))
                   (ixK l s_2.1 7 fun t64 =>
                    ldI .i64 (t64.add 1) w6.drew fun t66 =>
                    ixK l s_2.1 7 fun t69 =>
                    ldI .i64 (t69.add 2) w6.drew fun t71 =>
                    ixK l s_2.1 7 fun t74 =>
                    ldS T_api_Matrix.rep (t74.add 3) w6.drew fun t76 =>
                    c_store_Store_Put t34 t66 t71 t76 w6.drew fun t77 t77_1 t77_2 w26 =>
                    ixK l s_2.1 7 fun t83 =>
                    ldSl ((t83.add 3).add 2) w26 fun t86 =>
                    ixK l s_2.1 7 fun t90 =>
                    ldI .i64 (t90.add 1) w26 fun t92 =>
                    cond (t92 != (0 : Int))
                      (ixK l s_2.1 7 fun t97 =>
                       ldI .i64 (t97.add 1) w26 fun t99 =>
                       c_store_Store_Drop t50 t99 w26 fun t100 w27 =>
                       J4 (t77_1, ((t86.n : Nat) : Int), t77_2, ()) w27)
                      (J4 (t77_1, ((t86.n : Nat) : Int), t77_2, ()) w26))
                   (cond (t57 == (2 : Int))
                      (ixK l s_2.1 7 fun t107 =>
                       ldI .i64 (t107.add 6) w6 fun t109 =>
                       c_store_Store_Reserve t34 t109 w6 fun t110 t110_1 w28 =>
                       ixK l s_2.1 7 fun t115 =>
                       ldI .i64 (t115.add 6) w28 fun t117 =>
                       J4 (t110, t117, t110_1, ()) w28)
                      (cond (t57 == (3 : Int))
                         (ixK l s_2.1 7 fun t123 =>
                          ldI .i64 (t123.add 1) w6 fun t125 =>
                          c_store_Store_Use t34 t125 w6 fun t126 w29 =>
                          J4 (⟨none, 0, 0⟩, 0, 0, ()) w29)
                         (J4 (⟨none, 0, 0⟩, 0, 0, ()) w6)))))
             (K true w5)) (0, ()) w4) fun J2 =>
       cond (t34_1 != (0 : Int))
         (K false w3)
         (cond (t34.isNone)
            (K false w3)
            (J2 (()) w3))) fun J1 =>
     c_phosphorlaw21_Few l w1 fun t22 w30 =>
     cond (!t22)
       (K true w30)
       (cond (decide (quota < (0 : Int)))
          (K true w30)
          (cond (decide (quota > (1073741824 : Int)))
             (K true w30)
             (J1 (()) w30))))

def an_phosphorlaw21_StoreEldest : List Ann := [.none, .none, .none, .none, .join [] [4, 21, 22, 23, 24, 25, 26, 27, 28, 29, 30, 31], .none, .none, .none, .join [] [4, 37, 38, 39, 40, 41, 42], .none, .none, .none, .none, .join [(7, (Kind.int .i64))] [4, 7, 8, 9, 10, 11, 12, 13, 14, 15, 16, 17, 18, 43, 44, 45, 46, 47, 48, 49, 50, 51, 52, 53, 54, 55, 56, 57, 58, 59, 60, 61, 62, 63, 64, 65, 66, 67, 68, 69, 70, 71, 72, 73, 74, 75, 76, 77, 78, 79, 80, 81, 82, 83, 84, 85, 86, 87, 88, 89, 90, 91, 92, 93, 94, 95, 96, 97, 98, 99, 100, 101, 102, 103, 104, 105, 106, 107, 108, 109, 110, 111, 112, 113, 114, 115, 116, 117, 118, 119, 120, 121, 122, 123, 124, 125, 126, 127, 128, 129, 130, 131, 132, 133, 134, 135, 136, 137, 138, 139, 140, 141, 142, 143, 144, 145, 146, 147, 148, 149, 150, 151, 152, 153, 154, 155, 156, 157, 158, 159, 160, 161, 162, 163, 164, 165, 166, 167, 168, 169, 170, 171, 172, 173, 174, 175, 176, 177, 178, 179, 180, 181, 182, 183, 184, 185, 186, 187, 188, 189, 190, 191, 192, 193, 194, 195, 196, 197, 198, 199, 200, 201, 202, 203, 204, 205], .none, .none, .none, .none, .none, .none, .none, .none, .none, .none, .join [(9, Kind.slice), (10, (Kind.int .i64)), (11, (Kind.int .i64))] [9, 10, 11, 53, 54, 55, 56, 57, 58, 59, 60, 61, 62, 63, 64, 65, 66, 67, 68, 69, 70, 71, 72, 73, 74, 75, 76, 77, 78, 79, 80, 81, 82, 83, 84, 85, 86, 87, 88, 89, 90, 91, 92, 93, 94, 95, 96, 97, 98, 99, 100, 101, 102, 103, 104, 105, 106, 107, 108, 109, 110, 111, 112, 113, 114, 115, 116, 117, 118, 119, 120, 121, 122, 123, 124, 125, 126], .none, .none, .none, .none, .none, .none, .none, .none, .join [] [4, 127, 128, 129, 130, 131, 132, 133, 134, 135, 136, 137, 138, 139, 140, 141, 142, 143, 144, 145, 146, 147, 148, 149, 150, 151, 152, 153], .none, .none, .none, .join [(12, (Kind.int .i64))] [4, 12, 13, 14, 15, 16, 17, 18, 154, 155, 156, 157, 158, 159, 160, 161, 162, 163, 164, 165, 166, 167, 168, 169, 170, 171, 172, 173, 174, 175, 176, 177, 178, 179, 180, 181, 182, 183, 184, 185, 186, 187, 188, 189, 190, 191, 192, 193, 194, 195, 196, 197, 198, 199, 200, 201, 202, 203, 204, 205], .none, .none, .none, .none, .none, .none, .none, .none, .none, .none, .join [(16, (Kind.int .i64))] [4, 16, 17, 18, 177, 178, 179, 180, 181, 182, 183, 184, 185, 186, 187, 188, 189, 190, 191, 192, 193, 194], .none, .none, .none, .none, .none, .none, .none, .none, .none]

theorem vc_phosphorlaw21_StoreEldest (quota : Int) (l : Slc) (w : World) (K : Bool → World → Prop) :
    vcFn C (Try.f9.body.getD .skip) Try.f9.results.toList Try.f9.ntmps an_phosphorlaw21_StoreEldest [Kind.bool] [(.int .i64 quota), (.slice l.a l.n l.c)] w (fun s w => K s.1 w) = sh_phosphorlaw21_StoreEldest quota l w K := by kernel_rfl

theorem call_phosphorlaw21_StoreEldest (quota : Int) (l : Slc) {w : World} {K : Bool → World → Prop} (h : sh_phosphorlaw21_StoreEldest quota l w K) : c_phosphorlaw21_StoreEldest quota l w K := by
  rw [← vc_phosphorlaw21_StoreEldest] at h
  refine Calls.mono (calls_of_vc C.plain_ok C.mixed Try.func9 rfl h) ?_
  rintro e w' ⟨s, rfl, hK⟩
  exact ⟨s.1, rfl, hK⟩

/-- phosphor/phosphorlaw21.StorePlays -/
def sh_phosphorlaw21_StorePlays (quota : Int) (l : Slc) (w : World) (K : Bool → World → Prop) : Prop :=
  c_phosphorlaw21_known  w fun t22 w1 =>
  cond (!t22)
    (K false w1)
    (c_phosphorlaw21_Few l w1 fun t25 w2 =>
     cond (!t25)
       (K true w2)
       (c_store_New quota w2 fun t29 t29_1 w3 =>
        c_phosphorref21_New quota w3 fun t34 t34_1 w4 =>
        joinP (σ := Unit) (fun s w5 =>
          cond (t29.isNone)
            (K true w5)
            (loopP (σ := Option Addr × Int × Unit) (fun I2 s_1 w6 =>
               cond (decide (s_1.2.1 < ((l.n : Nat) : Int)))
                 (ixK l s_1.2.1 7 fun t57 =>
                  ldS T_phosphorlaw21_Act.rep t57 w6 fun t58 =>
                  nw ty_phosphorlaw21_Act [(.int .i64 0), (.int .i64 0), (.int .i64 0), (.int .i64 0), (.int .i64 0), (.slice none 0 0), (.int .i64 0)] w6 fun a w7 =>
                  stK a (T_phosphorlaw21_Act.rep.cells t58) w7 fun w8 =>
                  joinP (σ := Option Addr × Unit) (fun s_2 w9 =>
                    ldI .i64 (a.add 1) w9 fun t166 =>
                    ldI .i64 (a.add 2) w9 fun t168 =>
                    c_phosphorlaw21_Looks s_2.1 t34 t166 t168 w9 fun t169 w10 =>
                    cond (!t169)
                      (K false w10)
                      (I2 (s_2.1, (IntKind.i64.wrap (s_1.2.1 + (1 : Int))), ()) w10)) fun J3 =>
                  ldI .i64 (a.add 0) w8 fun t60 =>
                  cond (t60 == (1 : Int))
                    (ldI .i64 (a.add 1) w8 fun t66 =>
                     ldI .i64 (a.add 2) w8 fun t68 =>
                     ldS T_api_Matrix.rep (a.add 3) w8 fun t70 =>
                     c_store_Store_Put s_1.1 t66 t68 t70 w8 fun t71 t71_1 t71_2 w11 =>
                     ldI .i64 (a.add 1) w11.drew fun t78 =>
                     ldI .i64 (a.add 2) w11.drew fun t80 =>
                     ldS T_api_Matrix.rep (a.add 3) w11.drew fun t82 =>
                     c_phosphorlaw7_Of t82 w11.drew fun t83 w12 =>
                     World.cell? w12 (a.add 2) = some (.int .i64 t80) ∧
                     World.cell? w12 (a.add 1) = some (.int .i64 t78) ∧
                     c_phosphorref21_Store_Put t34 t78 t80 t83 w12 fun t84 t84_1 t84_2 w13 =>
                     cond (t71 != t84)
                       (K false w13)
                       (c_phosphorlaw21_ints t71_1 t84_1 w13 fun t94 w14 =>
                        cond (!t94)
                          (K false w14)
                          (cond (t71_2 != t84_2)
                             (K false w14)
                             (J3 (s_1.1, ()) w14))))
                    (cond (t60 == (2 : Int))
                       (ldI .i64 (a.add 6) w8 fun t107 =>
                        c_store_Store_Reserve s_1.1 t107 w8 fun t108 t108_1 w15 =>
                        ldI .i64 (a.add 6) w15 fun t114 =>
                        c_phosphorref21_Store_Reserve t34 t114 w15 fun t115 t115_1 w16 =>
                        c_phosphorlaw21_ints t108 t115 w16 fun t120 w17 =>
                        cond (!t120)
                          (K false w17)
                          (cond (t108_1 != t115_1)
                             (K false w17)
                             (J3 (s_1.1, ()) w17)))
                       (cond (t60 == (3 : Int))
                          (ldI .i64 (a.add 1) w8.drew fun t131 =>
                           ldI .i64 (a.add 1) w8.drew fun t135 =>
                           c_store_Store_Use s_1.1 t131 w8.drew fun t132 w18 =>
                           World.cell? w18 (a.add 1) = some (.int .i64 t135) ∧
                           c_phosphorref21_Store_Use t34 t135 w18 fun t136 w19 =>
                           cond (!(t132 == t136))
                             (K false w19)
                             (J3 (s_1.1, ()) w19))
                          (cond (t60 == (4 : Int))
                             (ldI .i64 (a.add 1) w8.drew fun t142 =>
                              ldI .i64 (a.add 1) w8.drew fun t146 =>
                              c_store_Store_Drop s_1.1 t142 w8.drew fun t143 w20 =>
                              World.cell? w20 (a.add 1) = some (.int .i64 t146) ∧
                              c_phosphorref21_Store_Drop t34 t146 w20 fun t147 w21 =>
                              cond (!(t143 == t147))
                                (K false w21)
                                (J3 (s_1.1, ()) w21))
                             (cond (t60 == (5 : Int))
                                (c_store_Store_Twin s_1.1 w8 fun t152 w22 =>
                                 ldI .i64 (a.add 1) w22 fun t155 =>
                                 c_store_Store_Drop s_1.1 t155 w22 fun t156 w23 =>
                                 c_store_Store_Reserve s_1.1 quota w23 fun t159 t159_1 w24 =>
                                 cond (t152.isNone)
                                   (K false w24)
                                   (J3 (t152, ()) w24))
                                (J3 (s_1.1, ()) w8))))))
                 (K true w6)) (t29, 0, ()) w5)) fun J1 =>
        cond (t29_1 != t34_1)
          (K false w4)
          (cond (!((t29.isNone) == (t34.isNone)))
             (K false w4)
             (J1 (()) w4))))

def an_phosphorlaw21_StorePlays : List Ann := [.none, .none, .none, .none, .none, .none, .none, .none, .none, .join [] [4, 37, 38, 39, 40, 41, 42, 43, 44, 45, 46], .none, .none, .none, .none, .none, .none, .none, .join [(5, Kind.ptr), (9, (Kind.int .i64))] [4, 5, 9, 10, 11, 12, 13, 14, 15, 16, 17, 18, 19, 20, 21, 49, 50, 51, 52, 53, 54, 55, 56, 57, 58, 59, 60, 61, 62, 63, 64, 65, 66, 67, 68, 69, 70, 71, 72, 73, 74, 75, 76, 77, 78, 79, 80, 81, 82, 83, 84, 85, 86, 87, 88, 89, 90, 91, 92, 93, 94, 95, 96, 97, 98, 99, 100, 101, 102, 103, 104, 105, 106, 107, 108, 109, 110, 111, 112, 113, 114, 115, 116, 117, 118, 119, 120, 121, 122, 123, 124, 125, 126, 127, 128, 129, 130, 131, 132, 133, 134, 135, 136, 137, 138, 139, 140, 141, 142, 143, 144, 145, 146, 147, 148, 149, 150, 151, 152, 153, 154, 155, 156, 157, 158, 159, 160, 161, 162, 163, 164, 165, 166, 167, 168, 169, 170], .none, .none, .none, .none, .join [(5, Kind.ptr)] [4, 5, 11, 12, 13, 14, 15, 16, 17, 18, 19, 20, 21, 59, 60, 61, 62, 63, 64, 65, 66, 67, 68, 69, 70, 71, 72, 73, 74, 75, 76, 77, 78, 79, 80, 81, 82, 83, 84, 85, 86, 87, 88, 89, 90, 91, 92, 93, 94, 95, 96, 97, 98, 99, 100, 101, 102, 103, 104, 105, 106, 107, 108, 109, 110, 111, 112, 113, 114, 115, 116, 117, 118, 119, 120, 121, 122, 123, 124, 125, 126, 127, 128, 129, 130, 131, 132, 133, 134, 135, 136, 137, 138, 139, 140, 141, 142, 143, 144, 145, 146, 147, 148, 149, 150, 151, 152, 153, 154, 155, 156, 157, 158, 159, 160, 161, 162], .none, .none, .none, .none, .none, .none, .none, .none, .none, .none, .none, .none, .none, .none, .none, .none, .none, .none, .none, .none, .none, .none, .none, .none, .none, .none, .none]

theorem vc_phosphorlaw21_StorePlays (quota : Int) (l : Slc) (w : World) (K : Bool → World → Prop) :
    vcFn C (Try.f10.body.getD .skip) Try.f10.results.toList Try.f10.ntmps an_phosphorlaw21_StorePlays [Kind.bool] [(.int .i64 quota), (.slice l.a l.n l.c)] w (fun s w => K s.1 w) = sh_phosphorlaw21_StorePlays quota l w K := by kernel_rfl

theorem call_phosphorlaw21_StorePlays (quota : Int) (l : Slc) {w : World} {K : Bool → World → Prop} (h : sh_phosphorlaw21_StorePlays quota l w K) : c_phosphorlaw21_StorePlays quota l w K := by
  rw [← vc_phosphorlaw21_StorePlays] at h
  refine Calls.mono (calls_of_vc C.plain_ok C.mixed Try.func10 rfl h) ?_
  rintro e w' ⟨s, rfl, hK⟩
  exact ⟨s.1, rfl, hK⟩

/-- phosphor/phosphorlaw6.ZlibStreams -/
def sh_phosphorlaw6_ZlibStreams (b : Slc) (most : Int) (data : Slc) (fixed : Bool) (w : World) (K : Bool → World → Prop) : Prop :=
  c_phosphorlaw6_known  w fun t15 w1 =>
  cond (!t15)
    (K false w1)
    (joinP (σ := Unit) (fun s w2 =>
       c_zlib_Unpack b most w2 fun t36 t36_1 t36_2 w3 =>
       c_phosphorref6_Unpack b most w3 fun t43 t43_1 t43_2 w4 =>
         (runK1 PG (convert ty_sl_uint8 ty_string (.slice t36.a t36.n t36.c)) Kind.string w4.drew fun (t48 : ByteArray) w5 =>
          runK1 PG (convert ty_sl_uint8 ty_string (.slice t43.a t43.n t43.c)) Kind.string w5 fun (t50 : ByteArray) w6 =>
          cond (t48.toList == t50.toList)
            (cond (t36_1 == t43_1)
               (cond (t36_2 == t43_2)
                  (c_zlib_Pack data fixed w6 fun t65 w7 =>
                     (runK1 PG (convert ty_sl_uint8 ty_string (.slice t65.a t65.n t65.c)) Kind.string w7 fun (t66 : ByteArray) w8 =>
                      c_phosphorref6_Pack data fixed w8 fun t69 w9 =>
                      runK1 PG (convert ty_sl_uint8 ty_string (.slice t69.a t69.n t69.c)) Kind.string w9 fun (t70 : ByteArray) w10 =>
                      K (t66.toList == t70.toList) w10) ∧
                   c_phosphorref6_Pack data fixed w7 fun t69_1 w11 =>
                     (runK1 PG (convert ty_sl_uint8 ty_string (.slice t65.a t65.n t65.c)) Kind.string w11 fun (t66_1 : ByteArray) w12 =>
                      runK1 PG (convert ty_sl_uint8 ty_string (.slice t69_1.a t69_1.n t69_1.c)) Kind.string w12 fun (t70_1 : ByteArray) w13 =>
                      K (t66_1.toList == t70_1.toList) w13) ∧
                   runK1 PG (convert ty_sl_uint8 ty_string (.slice t69_1.a t69_1.n t69_1.c)) Kind.string w11 fun (t70_2 : ByteArray) w14 =>
                   runK1 PG (convert ty_sl_uint8 ty_string (.slice t65.a t65.n t65.c)) Kind.string w14 fun (t66_2 : ByteArray) w15 =>
                   K (t66_2.toList == t70_2.toList) w15)
                  (  (K false w6) ∧
                     (K false w6) ∧
                   K false w6))
               (  (K false w6) ∧
                  (K false w6) ∧
                K false w6))
            (  (K false w6) ∧
               (K false w6) ∧
             K false w6)) ∧
       runK1 PG (convert ty_sl_uint8 ty_string (.slice t43.a t43.n t43.c)) Kind.string w4.drew fun (t50_1 : ByteArray) w16 =>
       runK1 PG (convert ty_sl_uint8 ty_string (.slice t36.a t36.n t36.c)) Kind.string w16 fun (t48_1 : ByteArray) w17 =>
       cond (t48_1.toList == t50_1.toList)
         (cond (t36_1 == t43_1)
            (cond (t36_2 == t43_2)
               (c_zlib_Pack data fixed w17 fun t65_1 w18 =>
                  (runK1 PG (convert ty_sl_uint8 ty_string (.slice t65_1.a t65_1.n t65_1.c)) Kind.string w18 fun (t66_3 : ByteArray) w19 =>
                   c_phosphorref6_Pack data fixed w19 fun t69_2 w20 =>
                   runK1 PG (convert ty_sl_uint8 ty_string (.slice t69_2.a t69_2.n t69_2.c)) Kind.string w20 fun (t70_3 : ByteArray) w21 =>
                   K (t66_3.toList == t70_3.toList) w21) ∧
                c_phosphorref6_Pack data fixed w18 fun t69_3 w22 =>
                  (runK1 PG (convert ty_sl_uint8 ty_string (.slice t65_1.a t65_1.n t65_1.c)) Kind.string w22 fun (t66_4 : ByteArray) w23 =>
                   runK1 PG (convert ty_sl_uint8 ty_string (.slice t69_3.a t69_3.n t69_3.c)) Kind.string w23 fun (t70_4 : ByteArray) w24 =>
                   K (t66_4.toList == t70_4.toList) w24) ∧
                runK1 PG (convert ty_sl_uint8 ty_string (.slice t69_3.a t69_3.n t69_3.c)) Kind.string w22 fun (t70_5 : ByteArray) w25 =>
                runK1 PG (convert ty_sl_uint8 ty_string (.slice t65_1.a t65_1.n t65_1.c)) Kind.string w25 fun (t66_5 : ByteArray) w26 =>
                K (t66_5.toList == t70_5.toList) w26)
               (  (K false w17) ∧
                  (K false w17) ∧
                K false w17))
            (  (K false w17) ∧
               (K false w17) ∧
             K false w17))
         (  (K false w17) ∧
            (K false w17) ∧
          K false w17)) fun J1 =>
     cond (decide (((b.n : Nat) : Int) > (4096 : Int)))
       (K true w1)
       (cond (decide (((data.n : Nat) : Int) > (4096 : Int)))
          (K true w1)
          (cond (decide (most > (65536 : Int)))
             (cond (decide (most ≤ (1073741824 : Int)))
                (K true w1)
                (J1 (()) w1))
             (J1 (()) w1))))

def an_phosphorlaw6_ZlibStreams : List Ann := [.none, .none, .none, .none, .join [] [8, 17, 18, 19, 20, 21, 22, 23, 24, 25, 26, 27, 28, 29, 30, 31, 32], .none, .none, .none, .none, .none]

theorem vc_phosphorlaw6_ZlibStreams (b : Slc) (most : Int) (data : Slc) (fixed : Bool) (w : World) (K : Bool → World → Prop) :
    vcFn C (Try.f11.body.getD .skip) Try.f11.results.toList Try.f11.ntmps an_phosphorlaw6_ZlibStreams [Kind.bool] [(.slice b.a b.n b.c), (.int .i64 most), (.slice data.a data.n data.c), (.bool fixed)] w (fun s w => K s.1 w) = sh_phosphorlaw6_ZlibStreams b most data fixed w K := by kernel_rfl

theorem call_phosphorlaw6_ZlibStreams (b : Slc) (most : Int) (data : Slc) (fixed : Bool) {w : World} {K : Bool → World → Prop} (h : sh_phosphorlaw6_ZlibStreams b most data fixed w K) : c_phosphorlaw6_ZlibStreams b most data fixed w K := by
  rw [← vc_phosphorlaw6_ZlibStreams] at h
  refine Calls.mono (calls_of_vc C.plain_ok C.mixed Try.func11 rfl h) ?_
  rintro e w' ⟨s, rfl, hK⟩
  exact ⟨s.1, rfl, hK⟩

/-- phosphor/phosphorlaw6.ZlibBack -/
def sh_phosphorlaw6_ZlibBack (b : Slc) (more : Slc) (fixed : Bool) (bit : Int) (w : World) (K : Bool → World → Prop) : Prop :=
  c_phosphorlaw6_known  w fun t17 w1 =>
  cond (!t17)
    (K false w1)
    (joinP (σ := Unit) (fun s w2 =>
       c_zlib_Pack b fixed w2 fun t29 w3 =>
       cond (decide (((t29.n : Nat) : Int) < (6 : Int)))
         (K false w3)
         (nw ty_uint8 [] w3 fun t34 w4 =>
          apK PG #[ty_sl_uint8, ty_sl_uint8] ty_sl_uint8 (⟨(some t34), 0, 0⟩ : Slc) t29 w4 fun t36 w5 =>
          apK PG #[ty_sl_uint8, ty_sl_uint8] ty_sl_uint8 t36 more w5 fun t38 w6 =>
          c_zlib_Unpack t38 ((b.n : Nat) : Int) w6 fun t41 t41_1 t41_2 w7 =>
          nw ty_uint8 [] w7 fun t47 w8 =>
          apK PG #[ty_sl_uint8, ty_sl_uint8] ty_sl_uint8 (⟨(some t47), 0, 0⟩ : Slc) t29 w8 fun t49 w9 =>
          (8 : Int) ≠ 0 ∧
          (8 : Int) ≠ 0 ∧
          ixK t49 (IntKind.i64.wrap ((IntKind.i64.wrap (((t29.n : Nat) : Int) - (4 : Int))) + (IntKind.i64.wrap ((bitsR .and .i64 bit (31 : Int)).tdiv (8 : Int))))) 1 fun t64 =>
          ldI .u8 t64 w9 fun t65 =>
          (8 : Int) ≠ 0 ∧
          0 ≤ (IntKind.u64.wrap ((bitsR .and .i64 bit (31 : Int)).tmod (8 : Int))) ∧
          ixK t49 (IntKind.i64.wrap ((IntKind.i64.wrap (((t29.n : Nat) : Int) - (4 : Int))) + (IntKind.i64.wrap ((bitsR .and .i64 bit (31 : Int)).tdiv (8 : Int))))) 1 fun t71 =>
          stK t71 [(.int .u8 (bitsR .xor .u8 t65 (IntKind.u8.wrap ((1 : Int) * 2 ^ (min (IntKind.u64.wrap ((bitsR .and .i64 bit (31 : Int)).tmod (8 : Int))).toNat IntKind.u8.bits)))))] w9 fun w10 =>
          c_zlib_Unpack t49 ((b.n : Nat) : Int) w10 fun t76 t76_1 t76_2 w11 =>
          runK1 PG (convert ty_sl_uint8 ty_string (.slice t41.a t41.n t41.c)) Kind.string w11 fun (t81 : ByteArray) w12 =>
          runK1 PG (convert ty_sl_uint8 ty_string (.slice b.a b.n b.c)) Kind.string w12 fun (t83 : ByteArray) w13 =>
          cond (t81.toList == t83.toList)
            (cond (t41_1 == ((t29.n : Nat) : Int))
               (cond (t41_2 == (0 : Int))
                  (cond (((t76.n : Nat) : Int) == (0 : Int))
                     (cond (t76_1 == (0 : Int))
                        (K (t76_2 == (4 : Int)) w13)
                        (K false w13))
                     (K false w13))
                  (K false w13))
               (K false w13))
            (K false w13))) fun J1 =>
     cond (decide (((b.n : Nat) : Int) > (4096 : Int)))
       (K true w1)
       (cond (decide (((more.n : Nat) : Int) > (4096 : Int)))
          (K true w1)
          (J1 (()) w1)))

def an_phosphorlaw6_ZlibBack : List Ann := [.none, .none, .none, .none, .join [] [8, 19, 20, 21, 22, 23, 24, 25, 26], .none, .none, .none, .none, .none, .none, .none, .none, .none, .none, .none, .none]

theorem vc_phosphorlaw6_ZlibBack (b : Slc) (more : Slc) (fixed : Bool) (bit : Int) (w : World) (K : Bool → World → Prop) :
    vcFn C (Try.f12.body.getD .skip) Try.f12.results.toList Try.f12.ntmps an_phosphorlaw6_ZlibBack [Kind.bool] [(.slice b.a b.n b.c), (.slice more.a more.n more.c), (.bool fixed), (.int .i64 bit)] w (fun s w => K s.1 w) = sh_phosphorlaw6_ZlibBack b more fixed bit w K := by kernel_rfl

theorem call_phosphorlaw6_ZlibBack (b : Slc) (more : Slc) (fixed : Bool) (bit : Int) {w : World} {K : Bool → World → Prop} (h : sh_phosphorlaw6_ZlibBack b more fixed bit w K) : c_phosphorlaw6_ZlibBack b more fixed bit w K := by
  rw [← vc_phosphorlaw6_ZlibBack] at h
  refine Calls.mono (calls_of_vc C.plain_ok C.mixed Try.func12 rfl h) ?_
  rintro e w' ⟨s, rfl, hK⟩
  exact ⟨s.1, rfl, hK⟩

/-- phosphor/phosphorlaw6.ZlibFronts -/
def sh_phosphorlaw6_ZlibFronts (b : Slc) (fixed : Bool) (cut : Int) (less : Int) (w : World) (K : Bool → World → Prop) : Prop :=
  c_phosphorlaw6_known  w fun t16 w1 =>
  cond (!t16)
    (K false w1)
    (joinP (σ := Unit) (fun s w2 =>
       c_zlib_Pack b fixed w2 fun t33 w3 =>
       cond (((t33.n : Nat) : Int) == (0 : Int))
         (K false w3)
         (((t33.n : Nat) : Int) ≠ 0 ∧
          joinP (σ := Int × Unit) (fun s_1 w4 =>
            slK t33 none (some s_1.1) 1 fun t50 =>
            c_zlib_Unpack t50 ((b.n : Nat) : Int) w4 fun t53 t53_1 t53_2 w5 =>
            c_zlib_Unpack t33 (IntKind.i64.wrap (((b.n : Nat) : Int) - less)) w5 fun t63 t63_1 t63_2 w6 =>
            cond (((t53.n : Nat) : Int) == (0 : Int))
              (cond (t53_1 == (0 : Int))
                 (cond (t53_2 == (2 : Int))
                    (cond (((t63.n : Nat) : Int) == (0 : Int))
                       (cond (t63_1 == (0 : Int))
                          (K (t63_2 == (5 : Int)) w6)
                          (K false w6))
                       (K false w6))
                    (K false w6))
                 (K false w6))
              (K false w6)) fun J2 =>
          cond (decide ((cut.tmod ((t33.n : Nat) : Int)) < (0 : Int)))
            (J2 ((IntKind.i64.wrap ((cut.tmod ((t33.n : Nat) : Int)) + ((t33.n : Nat) : Int))), ()) w3)
            (J2 ((cut.tmod ((t33.n : Nat) : Int)), ()) w3))) fun J1 =>
     cond (decide (((b.n : Nat) : Int) > (600 : Int)))
       (K true w1)
       (cond (decide (less < (1 : Int)))
          (K true w1)
          (cond (decide (less > ((b.n : Nat) : Int)))
             (K true w1)
             (J1 (()) w1))))

def an_phosphorlaw6_ZlibFronts : List Ann := [.none, .none, .none, .none, .join [] [8, 18, 19, 20, 21, 22, 23, 24, 25, 26, 27, 28, 29, 30], .none, .none, .none, .none, .none, .none, .none, .join [(2, (Kind.int .i64))] [2, 41, 42, 43, 44, 45, 46], .none, .none, .none, .none]

theorem vc_phosphorlaw6_ZlibFronts (b : Slc) (fixed : Bool) (cut : Int) (less : Int) (w : World) (K : Bool → World → Prop) :
    vcFn C (Try.f13.body.getD .skip) Try.f13.results.toList Try.f13.ntmps an_phosphorlaw6_ZlibFronts [Kind.bool] [(.slice b.a b.n b.c), (.bool fixed), (.int .i64 cut), (.int .i64 less)] w (fun s w => K s.1 w) = sh_phosphorlaw6_ZlibFronts b fixed cut less w K := by kernel_rfl

theorem call_phosphorlaw6_ZlibFronts (b : Slc) (fixed : Bool) (cut : Int) (less : Int) {w : World} {K : Bool → World → Prop} (h : sh_phosphorlaw6_ZlibFronts b fixed cut less w K) : c_phosphorlaw6_ZlibFronts b fixed cut less w K := by
  rw [← vc_phosphorlaw6_ZlibFronts] at h
  refine Calls.mono (calls_of_vc C.plain_ok C.mixed Try.func13 rfl h) ?_
  rintro e w' ⟨s, rfl, hK⟩
  exact ⟨s.1, rfl, hK⟩

/-- phosphor/phosphorlaw6.ZlibPieces -/
def sh_phosphorlaw6_ZlibPieces (b : Slc) (most : Int) (cuts : Slc) (w : World) (K : Bool → World → Prop) : Prop :=
  c_phosphorlaw6_known  w fun t19 w1 =>
  cond (!t19)
    (K false w1)
    (joinP (σ := Unit) (fun s w2 =>
       c_zlib_New most w2 fun t39 t39_1 w3 =>
       joinP (σ := Unit) (fun s_1 w4 =>
         c_phosphorref6_Front b most w4 fun t51 t51_1 t51_2 w5 =>
         loopP (σ := Slc × Slc × Int × Int × Unit) (fun I3 s_2 w6 =>
           cond (decide (((s_2.2.1.n : Nat) : Int) > (0 : Int)))
             (joinP (σ := Int × Unit) (fun s_3 w7 =>
                slK s_2.2.1 none (some s_3.1) 1 fun t82 =>
                c_zlib_Decoder_Write t39 t82 w7 fun t83 t83_1 w8 =>
                slK s_2.2.1 (some s_3.1) none 1 fun t88 =>
                joinP (σ := Unit) (fun s_4 w9 =>
                  apK PG #[ty_sl_uint8, ty_sl_uint8] ty_sl_uint8 s_2.1 t83 w9 fun t108 w10 =>
                  cond (decide (((t108.n : Nat) : Int) > ((t51.n : Nat) : Int)))
                    (  (K false w10.drew) ∧
                     K false w10.drew)
                    (slK t51 none (some ((t108.n : Nat) : Int)) 1 fun t120 =>
                       (runK1 PG (convert ty_sl_uint8 ty_string (.slice t108.a t108.n t108.c)) Kind.string w10.drew fun (t116 : ByteArray) w11 =>
                        runK1 PG (convert ty_sl_uint8 ty_string (.slice t120.a t120.n t120.c)) Kind.string w11 fun (t121 : ByteArray) w12 =>
                        cond (!(t116.toList == t121.toList))
                          (K false w12)
                          (c_zlib_Decoder_Room t39 w12 fun t126 w13 =>
                           cond (decide (t126 > (131136 : Int)))
                             (K false w13)
                             (I3 (t108, t88, t83_1, (IntKind.i64.wrap (s_2.2.2.2.1 + (1 : Int))), ()) w13))) ∧
                     runK1 PG (convert ty_sl_uint8 ty_string (.slice t120.a t120.n t120.c)) Kind.string w10.drew fun (t121_1 : ByteArray) w14 =>
                     runK1 PG (convert ty_sl_uint8 ty_string (.slice t108.a t108.n t108.c)) Kind.string w14 fun (t116_1 : ByteArray) w15 =>
                     cond (!(t116_1.toList == t121_1.toList))
                       (K false w15)
                       (c_zlib_Decoder_Room t39 w15 fun t126_1 w16 =>
                        cond (decide (t126_1 > (131136 : Int)))
                          (K false w16)
                          (I3 (t108, t88, t83_1, (IntKind.i64.wrap (s_2.2.2.2.1 + (1 : Int))), ()) w16)))) fun J5 =>
                cond (s_2.2.2.1 != (0 : Int))
                  (cond (t83_1 != s_2.2.2.1)
                     (K false w8)
                     (cond (t83_1 != (0 : Int))
                        (cond (decide (((t83.n : Nat) : Int) > (0 : Int)))
                           (K false w8)
                           (J5 (()) w8))
                        (J5 (()) w8)))
                  (cond (t83_1 != (0 : Int))
                     (cond (decide (((t83.n : Nat) : Int) > (0 : Int)))
                        (K false w8)
                        (J5 (()) w8))
                     (J5 (()) w8))) fun J4 =>
              cond (decide (s_2.2.2.2.1 < ((cuts.n : Nat) : Int)))
                (ixK cuts s_2.2.2.2.1 1 fun t69 =>
                 ldI .i64 t69 w6 fun t70 =>
                 (IntKind.i64.wrap (((s_2.2.1.n : Nat) : Int) + (1 : Int))) ≠ 0 ∧
                 cond (decide ((t70.tmod (IntKind.i64.wrap (((s_2.2.1.n : Nat) : Int) + (1 : Int)))) < (0 : Int)))
                   (J4 ((IntKind.i64.wrap ((0 : Int) - (t70.tmod (IntKind.i64.wrap (((s_2.2.1.n : Nat) : Int) + (1 : Int)))))), ()) w6)
                   (J4 ((t70.tmod (IntKind.i64.wrap (((s_2.2.1.n : Nat) : Int) + (1 : Int)))), ()) w6))
                (J4 (((s_2.2.1.n : Nat) : Int), ()) w6))
             (cond (t51_2 == (0 : Int))
                (cond (s_2.2.2.1 == (0 : Int))
                   (c_zlib_Decoder_Done t39 w6 fun t136 w17 =>
                    cond t136
                      (runK1 PG (convert ty_sl_uint8 ty_string (.slice s_2.1.a s_2.1.n s_2.1.c)) Kind.string w17 fun (t140 : ByteArray) w18 =>
                       runK1 PG (convert ty_sl_uint8 ty_string (.slice t51.a t51.n t51.c)) Kind.string w18 fun (t142 : ByteArray) w19 =>
                       K (t140.toList == t142.toList) w19)
                      (K false w17))
                   (K false w6))
                (cond (t51_2 == (2 : Int))
                   (cond (s_2.2.2.1 == (0 : Int))
                      (c_zlib_Decoder_Done t39 w6 fun t151 w20 =>
                       K (!t151) w20)
                      (K false w6))
                   (cond (s_2.2.2.1 == t51_2)
                      (c_zlib_Decoder_Done t39 w6 fun t159 w21 =>
                       K (!t159) w21)
                      (K false w6))))) (⟨none, 0, 0⟩, b, 0, 0, ()) w5) fun J2 =>
       cond (t39_1 != (0 : Int))
         (K false w3)
         (cond (t39.isNone)
            (K false w3)
            (J2 (()) w3))) fun J1 =>
     cond (decide (((b.n : Nat) : Int) > (4096 : Int)))
       (K true w1)
       (cond (decide (most < (0 : Int)))
          (K true w1)
          (cond (decide (most > (65536 : Int)))
             (K true w1)
             (cond (decide (((cuts.n : Nat) : Int) > (200 : Int)))
                (K true w1)
                (J1 (()) w1)))))

def an_phosphorlaw6_ZlibPieces : List Ann := [.none, .none, .none, .none, .join [] [6, 21, 22, 23, 24, 25, 26, 27, 28, 29, 30, 31, 32, 33, 34, 35, 36], .none, .none, .none, .join [] [6, 42, 43, 44, 45, 46, 47], .none, .none, .none, .none, .none, .none, .none, .none, .join [(12, Kind.slice), (13, Kind.slice), (14, (Kind.int .i64)), (15, (Kind.int .i64))] [6, 12, 13, 14, 15, 16, 17, 18, 56, 57, 58, 59, 60, 61, 62, 63, 64, 65, 66, 67, 68, 69, 70, 71, 72, 73, 74, 75, 76, 77, 78, 79, 80, 81, 82, 83, 84, 85, 86, 87, 88, 89, 90, 91, 92, 93, 94, 95, 96, 97, 98, 99, 100, 101, 102, 103, 104, 105, 106, 107, 108, 109, 110, 111, 112, 113, 114, 115, 116, 117, 118, 119, 120, 121, 122, 123, 124, 125, 126, 127, 128], .none, .none, .none, .none, .join [(16, (Kind.int .i64))] [16, 63, 64, 65, 66, 67, 68, 69, 70, 71, 72, 73, 74, 75, 76, 77], .none, .none, .none, .none, .none, .join [] [6, 89, 90, 91, 92, 93, 94, 95, 96, 97, 98, 99, 100, 101, 102, 103, 104], .none, .none, .none, .none, .none, .none, .none, .none, .none, .none, .none, .none, .none]

theorem vc_phosphorlaw6_ZlibPieces (b : Slc) (most : Int) (cuts : Slc) (w : World) (K : Bool → World → Prop) :
    vcFn C (Try.f14.body.getD .skip) Try.f14.results.toList Try.f14.ntmps an_phosphorlaw6_ZlibPieces [Kind.bool] [(.slice b.a b.n b.c), (.int .i64 most), (.slice cuts.a cuts.n cuts.c)] w (fun s w => K s.1 w) = sh_phosphorlaw6_ZlibPieces b most cuts w K := by kernel_rfl

theorem call_phosphorlaw6_ZlibPieces (b : Slc) (most : Int) (cuts : Slc) {w : World} {K : Bool → World → Prop} (h : sh_phosphorlaw6_ZlibPieces b most cuts w K) : c_phosphorlaw6_ZlibPieces b most cuts w K := by
  rw [← vc_phosphorlaw6_ZlibPieces] at h
  refine Calls.mono (calls_of_vc C.plain_ok C.mixed Try.func14 rfl h) ?_
  rintro e w' ⟨s, rfl, hK⟩
  exact ⟨s.1, rfl, hK⟩

/-- phosphor/phosphorlaw21.known -/
def sh_phosphorlaw21_known  (w : World) (K : Bool → World → Prop) : Prop :=
  c_store_New 10 w fun t10 t10_1 w1 =>
  joinP (σ := Unit) (fun s w2 =>
    nw ty_uint8 [(.int .u8 1), (.int .u8 2), (.int .u8 3), (.int .u8 4)] w2 fun t19 w3 =>
    nw ty_api_Matrix [(.int .i64 0), (.int .i64 0), (.slice none 0 0)] w3 fun m w4 =>
    stK m [(.int .i64 1), (.int .i64 1), (.slice (some t19) 4 4)] w4 fun w5 =>
    ldS T_api_Matrix.rep m w5 fun t22 =>
    c_store_Store_Put t10 5 0 t22 w5 fun t23 t23_1 t23_2 w6 =>
    ldS T_api_Matrix.rep m w6 fun t25 =>
    c_store_Store_Put t10 7 9 t25 w6 fun t26 t26_1 t26_2 w7 =>
    c_store_Store_Use t10 5 w7 fun t28 w8 =>
    ldS T_api_Matrix.rep m w8 fun t31 =>
    c_store_Store_Put t10 0 0 t31 w8 fun t32 t32_1 t32_2 w9 =>
    c_store_Store_Number t10 9 w9 fun t38 t38_1 w10 =>
    cond (t32_2 == (0 : Int))
      (cond (t32 == (1099511627776 : Int))
         (cond (((t32_1.n : Nat) : Int) == (1 : Int))
            (ixK t32_1 0 1 fun t54 =>
             ldI .i64 t54 w10 fun t55 =>
             cond (t55 == (7 : Int))
               (cond (t38 == (0 : Int))
                  (cond (!t38_1)
                     (c_store_Store_Used t10 w10 fun t68 w11 =>
                      K (t68 == (8 : Int)) w11)
                     (K false w10))
                  (K false w10))
               (K false w10))
            (K false w10))
         (K false w10))
      (K false w10)) fun J1 =>
  cond (t10_1 != (0 : Int))
    (K false w1)
    (cond (t10.isNone)
       (K false w1)
       (J1 (()) w1))

def an_phosphorlaw21_known : List Ann := [.none, .none, .join [] [0, 13, 14, 15, 16, 17, 18], .none, .none, .none, .none, .none, .none, .none, .none, .none]

theorem vc_phosphorlaw21_known  (w : World) (K : Bool → World → Prop) :
    vcFn C (Try.f15.body.getD .skip) Try.f15.results.toList Try.f15.ntmps an_phosphorlaw21_known [Kind.bool] [] w (fun s w => K s.1 w) = sh_phosphorlaw21_known  w K := by kernel_rfl

theorem call_phosphorlaw21_known  {w : World} {K : Bool → World → Prop} (h : sh_phosphorlaw21_known  w K) : c_phosphorlaw21_known  w K := by
  rw [← vc_phosphorlaw21_known] at h
  refine Calls.mono (calls_of_vc C.plain_ok C.mixed Try.func15 rfl h) ?_
  rintro e w' ⟨s, rfl, hK⟩
  exact ⟨s.1, rfl, hK⟩

/-- phosphor/store.New -/
def sh_store_New (quota : Int) (w : World) (K : Option Addr → Int → World → Prop) : Prop :=
  joinP (σ := Unit) (fun s w1 =>
    nwM w1 fun t11 w2 =>
    nw ty_store_Store [(.int .i64 quota), (.int .i64 0), (.int .i64 0), (.int .i64 0), (.map (some t11))] w2 fun t13 w3 =>
    K (some t13) 0 w3) fun J1 =>
  cond (decide (quota < (0 : Int)))
    (K none 1 w)
    (cond (decide (quota > (1073741824 : Int)))
       (K none 1 w)
       (J1 (()) w))

def an_store_New : List Ann := [.none, .join [] [2, 3, 4, 5, 6, 7, 8, 9], .none, .none, .none]

theorem vc_store_New (quota : Int) (w : World) (K : Option Addr → Int → World → Prop) :
    vcFn C (Try.f16.body.getD .skip) Try.f16.results.toList Try.f16.ntmps an_store_New [Kind.ptr, (Kind.int .i64)] [(.int .i64 quota)] w (fun s w => K s.1 s.2.1 w) = sh_store_New quota w K := by kernel_rfl

theorem call_store_New (quota : Int) {w : World} {K : Option Addr → Int → World → Prop} (h : sh_store_New quota w K) : c_store_New quota w K := by
  rw [← vc_store_New] at h
  refine Calls.mono (calls_of_vc C.plain_ok C.mixed Try.func16 rfl h) ?_
  rintro e w' ⟨s, rfl, hK⟩
  exact ⟨s.1, s.2.1, rfl, hK⟩

/-- (*phosphor/store.Store).Put -/
def sh_store_Store_Put (s : Option Addr) (id : Int) (number : Int) (m : T_api_Matrix) (w : World) (K : Int → Slc → Int → World → Prop) : Prop :=
  nw ty_api_Matrix (T_api_Matrix.rep.cells m) w fun m_1 w1 =>
  joinP (σ := Unit) (fun s_1 w2 =>
    c_store_Store_Release s w2 fun w3 =>
    joinP (σ := Unit) (fun s_2 w4 =>
      ldSl (m_1.add 2) w4 fun t49 =>
      c_store_Store_room s ((t49.n : Nat) : Int) w4 fun t51 w5 =>
      joinP (σ := Int × Unit) (fun s_3 w6 =>
        onPtr s fun t60 =>
        ldI .i64 (t60.add 3) w6 fun t62 =>
        onPtr s fun t64 =>
        stK (t64.add 3) [(.int .i64 (IntKind.i64.wrap (t62 + (1 : Int))))] w6 fun w7 =>
        ldSl (m_1.add 2) w7 fun t67 =>
        c_slices_Clone_byte_byte t67 w7 fun t68 w8 =>
        c_slices_Clip_byte_byte t68 w8 fun t69 w9 =>
        stK (m_1.add 2) [(.slice t69.a t69.n t69.c)] w9 fun w10 =>
        onPtr s fun t72 =>
        ldM (t72.add 4) w10.drew fun t74 =>
        ldS T_api_Matrix.rep m_1 w10.drew fun t77 =>
        onPtr s fun t79 =>
        ldI .i64 (t79.add 3) w10.drew fun t81 =>
        onPtr s fun t83 =>
        ldI .i64 (t83.add 3) w10.drew fun t85 =>
        runU PG (Instr.mapUpdate ty_map_int_store_image (.map t74) (.int .i64 s_3.1) (.agg #[(.int .i64 number), (.int .i64 t77.W), (.int .i64 t77.H), (.slice t77.P.a t77.P.n t77.P.c), (.int .i64 t81), (.int .i64 t85)])) w10.drew fun _ w11 =>
        onPtr s fun t88 =>
        ldI .i64 (t88.add 2) w11.drew fun t90 =>
        ldSl (m_1.add 2) w11.drew fun t92 =>
        onPtr s fun t95 =>
        stK (t95.add 2) [(.int .i64 (IntKind.i64.wrap (t90 + ((t92.n : Nat) : Int))))] w11.drew fun w12 =>
        K s_3.1 t51 0 w12) fun J3 =>
      cond (id == (0 : Int))
        (loopP (σ := Int × Unit) (fun I4 s_4 w13 =>
           c_store_Store_is s s_4.1 w13 fun t56 w14 =>
           cond t56
             (I4 ((IntKind.i64.wrap (s_4.1 + (1 : Int))), ()) w14)
             (J3 (s_4.1, ()) w14)) (1099511627776, ()) w5)
        (J3 (id, ()) w5)) fun J2 =>
    cond (id != (0 : Int))
      (c_store_Store_Drop s id w3 fun t46 w15 =>
       J2 (()) w15)
      (J2 (()) w3)) fun J1 =>
  joinP (σ := Bool × Unit) (fun s_5 w16 =>
    cond s_5.1
      (K 0 (⟨none, 0, 0⟩ : Slc) 1 w16)
      (ldSl (m_1.add 2) w16.drew fun t33 =>
       onPtr s fun t36 =>
       ldI .i64 (t36.add 0) w16.drew fun t38 =>
       cond (decide (((t33.n : Nat) : Int) > t38))
         (K 0 (⟨none, 0, 0⟩ : Slc) 6 w16.drew)
         (J1 (()) w16.drew))) fun J5 =>
  ldS T_api_Matrix.rep m_1 w1 fun t13 =>
  c_pixel_Right t13 w1 fun t14 w17 =>
  cond (!t14)
    (J5 (true, ()) w17)
    (ldI .i64 (m_1.add 0) w17 fun t18 =>
     cond (t18 == (0 : Int))
       (J5 (true, ()) w17)
       (c_store_isNumber id w17 fun t23 w18 =>
        cond (!t23)
          (J5 (true, ()) w18)
          (c_store_isNumber number w18 fun t28 w19 =>
           J5 ((!t28), ()) w19)))

def an_store_Store_Put : List Ann := [.none, .join [] [8, 9, 10, 12, 13, 14, 15, 16, 17, 18, 19, 20, 21, 22, 23, 24, 25, 26, 27, 28, 29, 30, 31, 32, 33, 34, 35, 36, 37, 38, 39], .join [(12, Kind.bool)] [12, 13, 14, 15, 16, 17, 18, 19, 20, 21, 22, 23, 24, 25, 26, 27, 28, 29, 30], .none, .none, .none, .none, .join [] [42, 43, 44, 45, 46], .none, .none, .join [(1, (Kind.int .i64))] [1, 52, 53, 54, 55, 56, 57, 58], .none, .none, .join [(1, (Kind.int .i64))] [1, 54, 55, 56, 57, 58], .none, .none, .none, .none, .none, .none, .none]

theorem vc_store_Store_Put (s : Option Addr) (id : Int) (number : Int) (m : T_api_Matrix) (w : World) (K : Int → Slc → Int → World → Prop) :
    vcFn C (Try.f17.body.getD .skip) Try.f17.results.toList Try.f17.ntmps an_store_Store_Put [(Kind.int .i64), Kind.slice, (Kind.int .i64)] [(.pointer s), (.int .i64 id), (.int .i64 number), (.agg #[(.int .i64 m.W), (.int .i64 m.H), (.slice m.P.a m.P.n m.P.c)])] w (fun s w => K s.1 s.2.1 s.2.2.1 w) = sh_store_Store_Put s id number m w K := by kernel_rfl

theorem call_store_Store_Put (s : Option Addr) (id : Int) (number : Int) (m : T_api_Matrix) {w : World} {K : Int → Slc → Int → World → Prop} (h : sh_store_Store_Put s id number m w K) : c_store_Store_Put s id number m w K := by
  rw [← vc_store_Store_Put] at h
  refine Calls.mono (calls_of_vc C.plain_ok C.mixed Try.func17 rfl h) ?_
  rintro e w' ⟨s, rfl, hK⟩
  exact ⟨s.1, s.2.1, s.2.2.1, rfl, hK⟩

/-- (*phosphor/store.Store).Get -/
def sh_store_Store_Get (s : Option Addr) (id : Int) (w : World) (K : T_api_Matrix → Bool → World → Prop) : Prop :=
  nw ty_api_Matrix [(.int .i64 0), (.int .i64 0), (.slice none 0 0)] w fun t4 w1 =>
  c_store_Store_See s id w1 fun t11 t11_1 w2 =>
  nw ty_api_Matrix [(.int .i64 0), (.int .i64 0), (.slice none 0 0)] w2 fun m w3 =>
  stK m (T_api_Matrix.rep.cells t11) w3 fun w4 =>
  ldSl (m.add 2) w4 fun t15 =>
  c_slices_Clone_byte_byte t15 w4 fun t16 w5 =>
  stK (m.add 2) [(.slice t16.a t16.n t16.c)] w5 fun w6 =>
  ldS T_api_Matrix.rep m w6 fun t18 =>
  stK t4 (T_api_Matrix.rep.cells t18) w6 fun w7 =>
  ldS T_api_Matrix.rep t4 w7 fun r =>
  K r t11_1 w7

def an_store_Store_Get : List Ann := [.none, .none, .none, .none]

theorem vc_store_Store_Get (s : Option Addr) (id : Int) (w : World) (K : T_api_Matrix → Bool → World → Prop) :
    vcFn C (Try.f18.body.getD .skip) Try.f18.results.toList Try.f18.ntmps an_store_Store_Get [(Kind.struct T_api_Matrix.rep), Kind.bool] [(.pointer s), (.int .i64 id)] w (fun s w => K s.1 s.2.1 w) = sh_store_Store_Get s id w K := by kernel_rfl

theorem call_store_Store_Get (s : Option Addr) (id : Int) {w : World} {K : T_api_Matrix → Bool → World → Prop} (h : sh_store_Store_Get s id w K) : c_store_Store_Get s id w K := by
  rw [← vc_store_Store_Get] at h
  refine Calls.mono (calls_of_vc C.plain_ok C.mixed Try.func18 rfl h) ?_
  rintro e w' ⟨s, rfl, hK⟩
  exact ⟨s.1, s.2.1, rfl, hK⟩

/-- (*phosphor/store.Store).Number -/
def sh_store_Store_Number (s : Option Addr) (n : Int) (w : World) (K : Int → Bool → World → Prop) : Prop :=
  onPtr s fun t11 =>
  ldM (t11.add 4) w fun t13 =>
  rangeK PG ty_map_int_store_image (.map t13) w fun it w1 =>
  loopP (σ := Int × Int × Unit) (fun I1 s_1 w2 =>
    nextK PG (.pointer (some it)) false ty_unit w2
      (fun w3 =>
       K s_1.1 (decide (s_1.2.1 > (0 : Int))) w3)
      (fun k v w4 =>
       runK2 PG (Instr.entry (.pointer (some it))) (Kind.int .i64) (Kind.struct T_store_image.rep) w4 fun (k_1 : Int) (v_1 : T_store_image) w5 =>
       nw ty_store_image [(.int .i64 0), (.int .i64 0), (.int .i64 0), (.slice none 0 0), (.int .i64 0), (.int .i64 0)] w5 fun x w6 =>
       stK x (T_store_image.rep.cells v_1) w6 fun w7 =>
       joinP (σ := Bool × Unit) (fun s_2 w8 =>
         cond s_2.1
           (ldI .i64 (x.add 5) w8.drew fun t36 =>
            I1 (k_1, t36, ()) w8.drew)
           (I1 (s_1.1, s_1.2.1, ()) w8)) fun J2 =>
       cond (n != (0 : Int))
         (ldI .i64 (x.add 0) w7 fun t24 =>
          cond (t24 == n)
            (ldI .i64 (x.add 5) w7 fun t30 =>
             J2 ((decide (t30 > s_1.2.1)), ()) w7)
            (J2 (false, ()) w7))
         (J2 (false, ()) w7))) (0, 0, ()) w1

def an_store_Store_Number : List Ann := [.none, .none, .none, .none, .join [(6, (Kind.int .i64)), (7, (Kind.int .i64))] [6, 7, 8, 9, 15, 16, 17, 18, 19, 20, 21, 22, 23, 24, 25, 26, 27, 28, 29, 30, 31, 32, 33, 34, 35, 36], .none, .none, .none, .join [(33, Kind.bool)] [20, 21, 22, 23, 24, 25, 26, 27, 28, 29, 30, 31, 32, 33], .none]

theorem vc_store_Store_Number (s : Option Addr) (n : Int) (w : World) (K : Int → Bool → World → Prop) :
    vcFn (C.ent fun t => cond (Nat.beq t 14) (some [(Kind.int .i64), (Kind.struct T_store_image.rep)]) (none)) (Try.f19.body.getD .skip) Try.f19.results.toList Try.f19.ntmps an_store_Store_Number [(Kind.int .i64), Kind.bool] [(.pointer s), (.int .i64 n)] w (fun s w => K s.1 s.2.1 w) = sh_store_Store_Number s n w K := by kernel_rfl

theorem call_store_Store_Number (s : Option Addr) (n : Int) {w : World} {K : Int → Bool → World → Prop} (h : sh_store_Store_Number s n w K) : c_store_Store_Number s n w K := by
  rw [← vc_store_Store_Number] at h
  refine Calls.mono (calls_of_vc (C := (C.ent fun t => cond (Nat.beq t 14) (some [(Kind.int .i64), (Kind.struct T_store_image.rep)]) (none))) C.plain_ok C.mixed Try.func19 rfl h) ?_
  rintro e w' ⟨s, rfl, hK⟩
  exact ⟨s.1, s.2.1, rfl, hK⟩

/-- (*phosphor/store.Store).Drop -/
def sh_store_Store_Drop (s : Option Addr) (id : Int) (w : World) (K : Bool → World → Prop) : Prop :=
  onPtr s fun t9 =>
  ldM (t9.add 4) w fun t11 =>
  runK2 PG (Instr.lookup ty_map_int_store_image (.map t11) (.int .i64 id) true) (Kind.struct T_store_image.rep) Kind.bool w fun (t13 : T_store_image) (t13_1 : Bool) w1 =>
  nw ty_store_image [(.int .i64 0), (.int .i64 0), (.int .i64 0), (.slice none 0 0), (.int .i64 0), (.int .i64 0)] w1 fun x w2 =>
  stK x (T_store_image.rep.cells t13) w2 fun w3 =>
  onPtr s fun t17 =>
  ldI .i64 (t17.add 2) w3.drew fun t19 =>
  ldSl ((x.add 1).add 2) w3.drew fun t22 =>
  onPtr s fun t25 =>
  stK (t25.add 2) [(.int .i64 (IntKind.i64.wrap (t19 - ((t22.n : Nat) : Int))))] w3.drew fun w4 =>
  onPtr s fun t28 =>
  ldM (t28.add 4) w4 fun t30 =>
  runK1 PG (Builtin.delete_ #[ty_map_int_store_image, ty_int] ty_unit #[(.map t30), (.int .i64 id)]) Kind.raw w4 fun (r : Value) w5 =>
  K t13_1 w5

def an_store_Store_Drop : List Ann := [.none, .none, .none, .none, .none]

theorem vc_store_Store_Drop (s : Option Addr) (id : Int) (w : World) (K : Bool → World → Prop) :
    vcFn C (Try.f20.body.getD .skip) Try.f20.results.toList Try.f20.ntmps an_store_Store_Drop [Kind.bool] [(.pointer s), (.int .i64 id)] w (fun s w => K s.1 w) = sh_store_Store_Drop s id w K := by kernel_rfl

theorem call_store_Store_Drop (s : Option Addr) (id : Int) {w : World} {K : Bool → World → Prop} (h : sh_store_Store_Drop s id w K) : c_store_Store_Drop s id w K := by
  rw [← vc_store_Store_Drop] at h
  refine Calls.mono (calls_of_vc C.plain_ok C.mixed Try.func20 rfl h) ?_
  rintro e w' ⟨s, rfl, hK⟩
  exact ⟨s.1, rfl, hK⟩

/-- (*phosphor/store.Store).Ids -/
def sh_store_Store_Ids (s : Option Addr) (w : World) (K : Slc → World → Prop) : Prop :=
  onPtr s fun t4 =>
  ldM (t4.add 4) w fun t6 =>
  c_maps_Keys_map_int_store_image_int_store_image t6 w fun t7 w1 =>
  c_slices_Sorted_int t7 w1 fun t8 w2 =>
  K t8 w2

def an_store_Store_Ids : List Ann := [.none, .none]

theorem vc_store_Store_Ids (s : Option Addr) (w : World) (K : Slc → World → Prop) :
    vcFn C (Try.f21.body.getD .skip) Try.f21.results.toList Try.f21.ntmps an_store_Store_Ids [Kind.slice] [(.pointer s)] w (fun s w => K s.1 w) = sh_store_Store_Ids s w K := by kernel_rfl

theorem call_store_Store_Ids (s : Option Addr) {w : World} {K : Slc → World → Prop} (h : sh_store_Store_Ids s w K) : c_store_Store_Ids s w K := by
  rw [← vc_store_Store_Ids] at h
  refine Calls.mono (calls_of_vc C.plain_ok C.mixed Try.func21 rfl h) ?_
  rintro e w' ⟨s, rfl, hK⟩
  exact ⟨s.1, rfl, hK⟩

/-- phosphor/phosphorlaw5.known -/
def sh_phosphorlaw5_known  (w : World) (K : Bool → World → Prop) : Prop :=
  nw ty_uint8 [(.int .u8 1), (.int .u8 2), (.int .u8 0), (.int .u8 253), (.int .u8 255), (.int .u8 104), (.int .u8 105), (.int .u8 9)] w fun t11 w1 =>
  c_inflate_Inflate (⟨(some t11), 8, 8⟩ : Slc) 10 w1 fun t12 t12_1 t12_2 w2 =>
  nw ty_uint8 [(.int .u8 75), (.int .u8 4), (.int .u8 0)] w2 fun t17 w3 =>
  c_inflate_Inflate (⟨(some t17), 3, 3⟩ : Slc) 1 w3 fun t18 t18_1 t18_2 w4 =>
  nw ty_uint8 [(.int .u8 75), (.int .u8 4), (.int .u8 0)] w4 fun t23 w5 =>
  c_inflate_Inflate (⟨(some t23), 3, 3⟩ : Slc) 0 w5 fun t24 t24_1 t24_2 w6 =>
  runK1 PG (convert ty_sl_uint8 ty_string (.slice t12.a t12.n t12.c)) Kind.string w6 fun (t29 : ByteArray) w7 =>
  cond (t29.toList == (⟨#[104, 105]⟩ : ByteArray).toList)
    (cond (t12_1 == (7 : Int))
       (cond (t12_2 == (0 : Int))
          (runK1 PG (convert ty_sl_uint8 ty_string (.slice t18.a t18.n t18.c)) Kind.string w7 fun (t41 : ByteArray) w8 =>
           cond (t41.toList == (⟨#[97]⟩ : ByteArray).toList)
             (cond (t18_1 == (3 : Int))
                (cond (t18_2 == (0 : Int))
                   (K (t24_2 == (5 : Int)) w8)
                   (K false w8))
                (K false w8))
             (K false w8))
          (K false w7))
       (K false w7))
    (K false w7)

def an_phosphorlaw5_known : List Ann := [.none, .none, .none, .none, .none]

theorem vc_phosphorlaw5_known  (w : World) (K : Bool → World → Prop) :
    vcFn C (Try.f22.body.getD .skip) Try.f22.results.toList Try.f22.ntmps an_phosphorlaw5_known [Kind.bool] [] w (fun s w => K s.1 w) = sh_phosphorlaw5_known  w K := by kernel_rfl

theorem call_phosphorlaw5_known  {w : World} {K : Bool → World → Prop} (h : sh_phosphorlaw5_known  w K) : c_phosphorlaw5_known  w K := by
  rw [← vc_phosphorlaw5_known] at h
  refine Calls.mono (calls_of_vc C.plain_ok C.mixed Try.func22 rfl h) ?_
  rintro e w' ⟨s, rfl, hK⟩
  exact ⟨s.1, rfl, hK⟩

/-- phosphor/inflate.Store -/
def sh_inflate_Store (b : Slc) (w : World) (K : Slc → World → Prop) : Prop :=
  loopP (σ := Slc × Slc × Unit) (fun I1 s w1 =>
    joinP (σ := Int × Unit) (fun s_1 w2 =>
      0 ≤ (8 : Int) ∧
      0 ≤ (8 : Int) ∧
      nw ty_uint8 [(.int .u8 s_1.1), (.int .u8 (IntKind.u8.wrap (if (65535 : Int) < ((s.1.n : Nat) : Int) then (65535 : Int) else ((s.1.n : Nat) : Int)))), (.int .u8 (IntKind.u8.wrap ((if (65535 : Int) < ((s.1.n : Nat) : Int) then (65535 : Int) else ((s.1.n : Nat) : Int)).fdiv (2 ^ (min (8 : Int).toNat IntKind.i64.bits))))), (.int .u8 (bitsR .xor .u8 (255) (IntKind.u8.wrap (if (65535 : Int) < ((s.1.n : Nat) : Int) then (65535 : Int) else ((s.1.n : Nat) : Int))))), (.int .u8 (bitsR .xor .u8 (255) (IntKind.u8.wrap ((if (65535 : Int) < ((s.1.n : Nat) : Int) then (65535 : Int) else ((s.1.n : Nat) : Int)).fdiv (2 ^ (min (8 : Int).toNat IntKind.i64.bits))))))] w2 fun t27 w3 =>
      apK PG #[ty_sl_uint8, ty_sl_uint8] ty_sl_uint8 s.2.1 (⟨(some t27), 5, 5⟩ : Slc) w3 fun t28 w4 =>
      slK s.1 none (some (if (65535 : Int) < ((s.1.n : Nat) : Int) then (65535 : Int) else ((s.1.n : Nat) : Int))) 1 fun t32 =>
      apK PG #[ty_sl_uint8, ty_sl_uint8] ty_sl_uint8 t28 t32 w4 fun t33 w5 =>
      slK s.1 (some (if (65535 : Int) < ((s.1.n : Nat) : Int) then (65535 : Int) else ((s.1.n : Nat) : Int))) none 1 fun t36 =>
      cond (s_1.1 == (1 : Int))
        (K t33 w5)
        (I1 (t36, t33, ()) w5)) fun J2 =>
    cond ((if (65535 : Int) < ((s.1.n : Nat) : Int) then (65535 : Int) else ((s.1.n : Nat) : Int)) == ((s.1.n : Nat) : Int))
      (J2 (1, ()) w1)
      (J2 (0, ()) w1)) (b, ⟨none, 0, 0⟩, ()) w

def an_inflate_Store : List Ann := [.none, .none, .join [(0, Kind.slice), (3, Kind.slice)] [0, 2, 3, 4, 5, 6, 7, 8, 9, 10, 11, 12, 13, 14, 15, 16, 17, 18, 19, 20, 21, 22, 23, 24, 25, 26, 27, 28, 29, 30, 31, 32, 33, 34, 35, 36, 37, 38, 39], .none, .join [(5, (Kind.int .u8))] [5, 9, 10, 11, 12], .none, .none, .none, .none, .none, .none]

theorem vc_inflate_Store (b : Slc) (w : World) (K : Slc → World → Prop) :
    vcFn C (Try.f23.body.getD .skip) Try.f23.results.toList Try.f23.ntmps an_inflate_Store [Kind.slice] [(.slice b.a b.n b.c)] w (fun s w => K s.1 w) = sh_inflate_Store b w K := by kernel_rfl

theorem call_inflate_Store (b : Slc) {w : World} {K : Slc → World → Prop} (h : sh_inflate_Store b w K) : c_inflate_Store b w K := by
  rw [← vc_inflate_Store] at h
  refine Calls.mono (calls_of_vc C.plain_ok C.mixed Try.func23 rfl h) ?_
  rintro e w' ⟨s, rfl, hK⟩
  exact ⟨s.1, rfl, hK⟩

/-- phosphor/phosphorref5.Store -/
def sh_phosphorref5_Store (b : Slc) (w : World) (K : Slc → World → Prop) : Prop :=
  loopP (σ := Slc × Int × Unit) (fun I1 s w1 =>
    joinP (σ := Int × Int × Unit) (fun s_1 w2 =>
      0 ≤ (8 : Int) ∧
      0 ≤ (8 : Int) ∧
      nw ty_uint8 [(.int .u8 s_1.2.1), (.int .u8 (IntKind.u8.wrap s_1.1)), (.int .u8 (IntKind.u8.wrap (s_1.1.fdiv (2 ^ (min (8 : Int).toNat IntKind.i64.bits))))), (.int .u8 (bitsR .xor .u8 (255) (IntKind.u8.wrap s_1.1))), (.int .u8 (bitsR .xor .u8 (255) (IntKind.u8.wrap (s_1.1.fdiv (2 ^ (min (8 : Int).toNat IntKind.i64.bits))))))] w2 fun t29 w3 =>
      apK PG #[ty_sl_uint8, ty_sl_uint8] ty_sl_uint8 s.1 (⟨(some t29), 5, 5⟩ : Slc) w3 fun t30 w4 =>
      slK b (some s.2.1) (some (IntKind.i64.wrap (s.2.1 + s_1.1))) 1 fun t37 =>
      apK PG #[ty_sl_uint8, ty_sl_uint8] ty_sl_uint8 t30 t37 w4 fun t38 w5 =>
      cond (s_1.2.1 == (1 : Int))
        (K t38 w5)
        (I1 (t38, (IntKind.i64.wrap (s.2.1 + (65535 : Int))), ()) w5)) fun J2 =>
    cond (decide ((IntKind.i64.wrap (((b.n : Nat) : Int) - s.2.1)) > (65535 : Int)))
      (J2 (65535, 0, ()) w1)
      (J2 ((IntKind.i64.wrap (((b.n : Nat) : Int) - s.2.1)), 1, ()) w1)) (⟨none, 0, 0⟩, 0, ()) w

def an_phosphorref5_Store : List Ann := [.none, .none, .none, .join [(3, Kind.slice), (4, (Kind.int .i64))] [2, 3, 4, 5, 6, 7, 8, 9, 10, 11, 12, 13, 14, 15, 16, 17, 18, 19, 20, 21, 22, 23, 24, 25, 26, 27, 28, 29, 30, 31, 32, 33, 34, 35, 36, 37, 38, 39, 40, 41], .none, .none, .none, .join [(5, (Kind.int .i64)), (6, (Kind.int .u8))] [5, 6, 13, 14], .none, .none, .none, .none, .none, .none]

theorem vc_phosphorref5_Store (b : Slc) (w : World) (K : Slc → World → Prop) :
    vcFn C (Try.f24.body.getD .skip) Try.f24.results.toList Try.f24.ntmps an_phosphorref5_Store [Kind.slice] [(.slice b.a b.n b.c)] w (fun s w => K s.1 w) = sh_phosphorref5_Store b w K := by kernel_rfl

theorem call_phosphorref5_Store (b : Slc) {w : World} {K : Slc → World → Prop} (h : sh_phosphorref5_Store b w K) : c_phosphorref5_Store b w K := by
  rw [← vc_phosphorref5_Store] at h
  refine Calls.mono (calls_of_vc C.plain_ok C.mixed Try.func24 rfl h) ?_
  rintro e w' ⟨s, rfl, hK⟩
  exact ⟨s.1, rfl, hK⟩

/-- phosphor/inflate.Fixed -/
def sh_inflate_Fixed (b : Slc) (w : World) (K : Slc → World → Prop) : Prop :=
  c_huff_Fixed  w fun t11 t11_1 w1 =>
  c_huff_New t11 w1 fun t16 t16_1 w2 =>
  c_bits_NewWriter  w2 fun t19 w3 =>
  c_bits_Writer_Bits t19 3 3 w3 fun w4 =>
  loopP (σ := Int × Unit) (fun I1 s w5 =>
    cond (decide (s.1 < ((b.n : Nat) : Int)))
      (ixK b s.1 1 fun t26 =>
       ldI .u8 t26 w5 fun t27 =>
       c_huff_Table_Code t16 (IntKind.i64.wrap t27) w5 fun t32 t32_1 w6 =>
       c_bits_Writer_Bits t19 t32 t32_1 w6 fun w7 =>
       I1 ((IntKind.i64.wrap (s.1 + (1 : Int))), ()) w7)
      (c_huff_Table_Code t16 256 w5 fun t39 t39_1 w8 =>
       c_bits_Writer_Bits t19 t39 t39_1 w8 fun w9 =>
       c_bits_Writer_Done t19 w9 fun t44 w10 =>
       K t44 w10)) (0, ()) w4

def an_inflate_Fixed : List Ann := [.none, .none, .none, .none, .none, .none, .none, .join [(24, (Kind.int .i64))] [9, 24, 25, 26, 27, 28, 29, 30, 31, 32, 33, 34, 35, 36], .none, .none, .none, .none, .none, .none]

theorem vc_inflate_Fixed (b : Slc) (w : World) (K : Slc → World → Prop) :
    vcFn C (Try.f25.body.getD .skip) Try.f25.results.toList Try.f25.ntmps an_inflate_Fixed [Kind.slice] [(.slice b.a b.n b.c)] w (fun s w => K s.1 w) = sh_inflate_Fixed b w K := by kernel_rfl

theorem call_inflate_Fixed (b : Slc) {w : World} {K : Slc → World → Prop} (h : sh_inflate_Fixed b w K) : c_inflate_Fixed b w K := by
  rw [← vc_inflate_Fixed] at h
  refine Calls.mono (calls_of_vc C.plain_ok C.mixed Try.func25 rfl h) ?_
  rintro e w' ⟨s, rfl, hK⟩
  exact ⟨s.1, rfl, hK⟩

/-- phosphor/phosphorref5.Fixed -/
def sh_phosphorref5_Fixed (b : Slc) (w : World) (K : Slc → World → Prop) : Prop :=
  c_phosphorref4_Fixed  w fun t13 t13_1 w1 =>
  c_phosphorref4_New t13 w1 fun t18 t18_1 w2 =>
  nw ty_phosphorref1_Writer [(.slice none 0 0)] w2 fun t22 w3 =>
  c_phosphorref1_Writer_Bits (some t22) 1 1 w3 fun w4 =>
  c_phosphorref1_Writer_Bits (some t22) 1 2 w4 fun w5 =>
  loopP (σ := Int × Unit) (fun I1 s w6 =>
    cond (decide (s.1 ≤ ((b.n : Nat) : Int)))
      (joinP (σ := Int × Unit) (fun s_1 w7 =>
         c_phosphorref4_Table_Code t18 s_1.1 w7 fun t45 t45_1 w8 =>
         c_phosphorref1_Writer_Bits (some t22) t45 t45_1 w8 fun w9 =>
         I1 ((IntKind.i64.wrap (s.1 + (1 : Int))), ()) w9) fun J2 =>
       cond (decide (s.1 < ((b.n : Nat) : Int)))
         (ixK b s.1 1 fun t39 =>
          ldI .u8 t39 w6 fun t40 =>
          J2 ((IntKind.i64.wrap t40), ()) w6)
         (J2 (256, ()) w6))
      (c_phosphorref1_Writer_Done (some t22) w6 fun t53 w10 =>
       K t53 w10)) (0, ()) w5

def an_phosphorref5_Fixed : List Ann := [.none, .none, .none, .none, .none, .none, .none, .none, .join [(8, (Kind.int .i64))] [8, 9, 10, 11, 27, 28, 29, 30, 31, 32, 33, 34, 35, 36, 37, 38, 39, 40, 41, 42, 43, 44, 45, 46, 47, 48, 49, 50, 51], .none, .none, .none, .none, .join [(9, (Kind.int .i64))] [9, 33, 34, 35, 36, 37, 38, 39, 40, 41], .none, .none, .none]

theorem vc_phosphorref5_Fixed (b : Slc) (w : World) (K : Slc → World → Prop) :
    vcFn C (Try.f26.body.getD .skip) Try.f26.results.toList Try.f26.ntmps an_phosphorref5_Fixed [Kind.slice] [(.slice b.a b.n b.c)] w (fun s w => K s.1 w) = sh_phosphorref5_Fixed b w K := by kernel_rfl

theorem call_phosphorref5_Fixed (b : Slc) {w : World} {K : Slc → World → Prop} (h : sh_phosphorref5_Fixed b w K) : c_phosphorref5_Fixed b w K := by
  rw [← vc_phosphorref5_Fixed] at h
  refine Calls.mono (calls_of_vc C.plain_ok C.mixed Try.func26 rfl h) ?_
  rintro e w' ⟨s, rfl, hK⟩
  exact ⟨s.1, rfl, hK⟩

/-- phosphor/inflate.Inflate -/
def sh_inflate_Inflate (b : Slc) (most : Int) (w : World) (K : Slc → Int → Int → World → Prop) : Prop :=
  c_inflate_New most w fun t12 t12_1 w1 =>
  cond (t12_1 != (0 : Int))
    (K (⟨none, 0, 0⟩ : Slc) 0 t12_1 w1)
    (c_inflate_Decoder_Write t12 b w1 fun t21 t21_1 w2 =>
     cond (t21_1 != (0 : Int))
       (K (⟨none, 0, 0⟩ : Slc) 0 t21_1 w2)
       (c_inflate_Decoder_Done t12 w2 fun t30 w3 =>
        cond (!t30)
          (K (⟨none, 0, 0⟩ : Slc) 0 2 w3)
          (c_inflate_Decoder_Used t12 w3 fun t34 w4 =>
           K t21 t34 0 w4)))

def an_inflate_Inflate : List Ann := [.none, .none, .none, .none, .none, .none, .none, .none, .none, .none, .none, .none]

theorem vc_inflate_Inflate (b : Slc) (most : Int) (w : World) (K : Slc → Int → Int → World → Prop) :
    vcFn C (Try.f27.body.getD .skip) Try.f27.results.toList Try.f27.ntmps an_inflate_Inflate [Kind.slice, (Kind.int .i64), (Kind.int .i64)] [(.slice b.a b.n b.c), (.int .i64 most)] w (fun s w => K s.1 s.2.1 s.2.2.1 w) = sh_inflate_Inflate b most w K := by kernel_rfl

theorem call_inflate_Inflate (b : Slc) (most : Int) {w : World} {K : Slc → Int → Int → World → Prop} (h : sh_inflate_Inflate b most w K) : c_inflate_Inflate b most w K := by
  rw [← vc_inflate_Inflate] at h
  refine Calls.mono (calls_of_vc C.plain_ok C.mixed Try.func27 rfl h) ?_
  rintro e w' ⟨s, rfl, hK⟩
  exact ⟨s.1, s.2.1, s.2.2.1, rfl, hK⟩

/-- phosphor/phosphorlaw21.Few -/
def sh_phosphorlaw21_Few (l : Slc) (w : World) (K : Bool → World → Prop) : Prop :=
  loopP (σ := Int × Int × Unit) (fun I1 s w1 =>
    cond (decide (s.2.1 < ((l.n : Nat) : Int)))
      (joinP (σ := Unit) (fun s_1 w2 =>
         ixK l s.2.1 7 fun t26 =>
         ldSl ((t26.add 3).add 2) w2 fun t29 =>
         I1 ((IntKind.i64.wrap (s.1 + ((t29.n : Nat) : Int))), (IntKind.i64.wrap (s.2.1 + (1 : Int))), ()) w2) fun J2 =>
       ixK l s.2.1 7 fun t13 =>
       ldSl ((t13.add 3).add 2) w1 fun t16 =>
       cond (decide (((t16.n : Nat) : Int) > (65536 : Int)))
         (K false w1)
         (cond (decide (s.1 > (65536 : Int)))
            (K false w1)
            (J2 (()) w1)))
      (cond (decide (((l.n : Nat) : Int) ≤ (120 : Int)))
         (K (decide (s.1 ≤ (32768 : Int))) w1)
         (K false w1))) (0, 0, ()) w

def an_phosphorlaw21_Few : List Ann := [.none, .none, .none, .none, .join [(3, (Kind.int .i64)), (4, (Kind.int .i64))] [2, 3, 4, 5, 6, 7, 8, 9, 10, 11, 12, 13, 14, 15, 16, 17, 18, 19, 20, 21, 22, 23, 24, 25, 26, 27, 28, 29, 30, 31], .none, .none, .none, .join [] [2, 11, 12, 13, 14, 15, 16, 17, 18, 19, 20, 21, 22], .none, .none, .none]

theorem vc_phosphorlaw21_Few (l : Slc) (w : World) (K : Bool → World → Prop) :
    vcFn C (Try.f28.body.getD .skip) Try.f28.results.toList Try.f28.ntmps an_phosphorlaw21_Few [Kind.bool] [(.slice l.a l.n l.c)] w (fun s w => K s.1 w) = sh_phosphorlaw21_Few l w K := by kernel_rfl

theorem call_phosphorlaw21_Few (l : Slc) {w : World} {K : Bool → World → Prop} (h : sh_phosphorlaw21_Few l w K) : c_phosphorlaw21_Few l w K := by
  rw [← vc_phosphorlaw21_Few] at h
  refine Calls.mono (calls_of_vc C.plain_ok C.mixed Try.func28 rfl h) ?_
  rintro e w' ⟨s, rfl, hK⟩
  exact ⟨s.1, rfl, hK⟩

/-- (*phosphor/store.Store).Twin -/
def sh_store_Store_Twin (s : Option Addr) (w : World) (K : Option Addr → World → Prop) : Prop :=
  onPtr s fun t5 =>
  ldS T_store_Store.rep t5 w fun t6 =>
  nw ty_store_Store [(.int .i64 0), (.int .i64 0), (.int .i64 0), (.int .i64 0), (.map none)] w fun out w1 =>
  stK out (T_store_Store.rep.cells t6) w1 fun w2 =>
  onPtr s fun t8 =>
  ldM (t8.add 4) w2 fun t10 =>
  c_maps_Clone_map_int_store_image_int_store_image t10 w2 fun t11 w3 =>
  stK (out.add 4) [(.map t11)] w3 fun w4 =>
  K (some out) w4

def an_store_Store_Twin : List Ann := [.none, .none, .none, .none]

theorem vc_store_Store_Twin (s : Option Addr) (w : World) (K : Option Addr → World → Prop) :
    vcFn C (Try.f29.body.getD .skip) Try.f29.results.toList Try.f29.ntmps an_store_Store_Twin [Kind.ptr] [(.pointer s)] w (fun s w => K s.1 w) = sh_store_Store_Twin s w K := by kernel_rfl

theorem call_store_Store_Twin (s : Option Addr) {w : World} {K : Option Addr → World → Prop} (h : sh_store_Store_Twin s w K) : c_store_Store_Twin s w K := by
  rw [← vc_store_Store_Twin] at h
  refine Calls.mono (calls_of_vc C.plain_ok C.mixed Try.func29 rfl h) ?_
  rintro e w' ⟨s, rfl, hK⟩
  exact ⟨s.1, rfl, hK⟩

/-- (*phosphor/store.Store).Reserve -/
def sh_store_Store_Reserve (s : Option Addr) (n : Int) (w : World) (K : Slc → Int → World → Prop) : Prop :=
  cond (decide (n < (0 : Int)))
    (K (⟨none, 0, 0⟩ : Slc) 1 w)
    (onPtr s fun t12 =>
     ldI .i64 (t12.add 0) w fun t14 =>
     cond (decide (n > t14))
       (K (⟨none, 0, 0⟩ : Slc) 6 w)
       (onPtr s fun t18 =>
        stK (t18.add 1) [(.int .i64 n)] w fun w1 =>
        c_store_Store_room s n w1 fun t22 w2 =>
        K t22 0 w2))

def an_store_Store_Reserve : List Ann := [.none, .none, .none, .none, .none, .none, .none, .none]

theorem vc_store_Store_Reserve (s : Option Addr) (n : Int) (w : World) (K : Slc → Int → World → Prop) :
    vcFn C (Try.f30.body.getD .skip) Try.f30.results.toList Try.f30.ntmps an_store_Store_Reserve [Kind.slice, (Kind.int .i64)] [(.pointer s), (.int .i64 n)] w (fun s w => K s.1 s.2.1 w) = sh_store_Store_Reserve s n w K := by kernel_rfl

theorem call_store_Store_Reserve (s : Option Addr) (n : Int) {w : World} {K : Slc → Int → World → Prop} (h : sh_store_Store_Reserve s n w K) : c_store_Store_Reserve s n w K := by
  rw [← vc_store_Store_Reserve] at h
  refine Calls.mono (calls_of_vc C.plain_ok C.mixed Try.func30 rfl h) ?_
  rintro e w' ⟨s, rfl, hK⟩
  exact ⟨s.1, s.2.1, rfl, hK⟩

/-- (*phosphor/store.Store).Use -/
def sh_store_Store_Use (s : Option Addr) (id : Int) (w : World) (K : Bool → World → Prop) : Prop :=
  onPtr s fun t9 =>
  ldM (t9.add 4) w fun t11 =>
  runK2 PG (Instr.lookup ty_map_int_store_image (.map t11) (.int .i64 id) true) (Kind.struct T_store_image.rep) Kind.bool w fun (t13 : T_store_image) (t13_1 : Bool) w1 =>
  nw ty_store_image [(.int .i64 0), (.int .i64 0), (.int .i64 0), (.slice none 0 0), (.int .i64 0), (.int .i64 0)] w1 fun x w2 =>
  stK x (T_store_image.rep.cells t13) w2 fun w3 =>
  cond t13_1
    (onPtr s fun t18 =>
     ldI .i64 (t18.add 3) w3 fun t20 =>
     onPtr s fun t22 =>
     stK (t22.add 3) [(.int .i64 (IntKind.i64.wrap (t20 + (1 : Int))))] w3 fun w4 =>
     onPtr s fun t25 =>
     ldI .i64 (t25.add 3) w4 fun t27 =>
     stK (x.add 4) [(.int .i64 t27)] w4 fun w5 =>
     onPtr s fun t30 =>
     ldM (t30.add 4) w5.drew fun t32 =>
     ldS T_store_image.rep x w5.drew fun t34 =>
     runU PG (Instr.mapUpdate ty_map_int_store_image (.map t32) (.int .i64 id) (.agg #[(.int .i64 t34.number), (.int .i64 t34.m.W), (.int .i64 t34.m.H), (.slice t34.m.P.a t34.m.P.n t34.m.P.c), (.int .i64 t34.stamp), (.int .i64 t34.born)])) w5.drew fun _ w6 =>
     K t13_1 w6)
    (K t13_1 w3)

def an_store_Store_Use : List Ann := [.none, .none, .none, .none, .none, .none, .none]

theorem vc_store_Store_Use (s : Option Addr) (id : Int) (w : World) (K : Bool → World → Prop) :
    vcFn C (Try.f31.body.getD .skip) Try.f31.results.toList Try.f31.ntmps an_store_Store_Use [Kind.bool] [(.pointer s), (.int .i64 id)] w (fun s w => K s.1 w) = sh_store_Store_Use s id w K := by kernel_rfl

theorem call_store_Store_Use (s : Option Addr) (id : Int) {w : World} {K : Bool → World → Prop} (h : sh_store_Store_Use s id w K) : c_store_Store_Use s id w K := by
  rw [← vc_store_Store_Use] at h
  refine Calls.mono (calls_of_vc C.plain_ok C.mixed Try.func31 rfl h) ?_
  rintro e w' ⟨s, rfl, hK⟩
  exact ⟨s.1, rfl, hK⟩

/-- (*phosphor/store.Store).Used -/
def sh_store_Store_Used (s : Option Addr) (w : World) (K : Int → World → Prop) : Prop :=
  onPtr s fun t4 =>
  ldI .i64 (t4.add 2) w fun t6 =>
  K t6 w

def an_store_Store_Used : List Ann := [.none, .none]

theorem vc_store_Store_Used (s : Option Addr) (w : World) (K : Int → World → Prop) :
    vcFn C (Try.f32.body.getD .skip) Try.f32.results.toList Try.f32.ntmps an_store_Store_Used [(Kind.int .i64)] [(.pointer s)] w (fun s w => K s.1 w) = sh_store_Store_Used s w K := by kernel_rfl

theorem call_store_Store_Used (s : Option Addr) {w : World} {K : Int → World → Prop} (h : sh_store_Store_Used s w K) : c_store_Store_Used s w K := by
  rw [← vc_store_Store_Used] at h
  refine Calls.mono (calls_of_vc C.plain_ok C.mixed Try.func32 rfl h) ?_
  rintro e w' ⟨s, rfl, hK⟩
  exact ⟨s.1, rfl, hK⟩

/-- (*phosphor/store.Store).Reserved -/
def sh_store_Store_Reserved (s : Option Addr) (w : World) (K : Int → World → Prop) : Prop :=
  onPtr s fun t4 =>
  ldI .i64 (t4.add 1) w fun t6 =>
  K t6 w

def an_store_Store_Reserved : List Ann := [.none, .none]

theorem vc_store_Store_Reserved (s : Option Addr) (w : World) (K : Int → World → Prop) :
    vcFn C (Try.f33.body.getD .skip) Try.f33.results.toList Try.f33.ntmps an_store_Store_Reserved [(Kind.int .i64)] [(.pointer s)] w (fun s w => K s.1 w) = sh_store_Store_Reserved s w K := by kernel_rfl

theorem call_store_Store_Reserved (s : Option Addr) {w : World} {K : Int → World → Prop} (h : sh_store_Store_Reserved s w K) : c_store_Store_Reserved s w K := by
  rw [← vc_store_Store_Reserved] at h
  refine Calls.mono (calls_of_vc C.plain_ok C.mixed Try.func33 rfl h) ?_
  rintro e w' ⟨s, rfl, hK⟩
  exact ⟨s.1, rfl, hK⟩

/-- (*phosphor/store.Store).Stamp -/
def sh_store_Store_Stamp (s : Option Addr) (id : Int) (w : World) (K : Int → Bool → World → Prop) : Prop :=
  onPtr s fun t10 =>
  ldM (t10.add 4) w fun t12 =>
  runK2 PG (Instr.lookup ty_map_int_store_image (.map t12) (.int .i64 id) true) (Kind.struct T_store_image.rep) Kind.bool w fun (t14 : T_store_image) (t14_1 : Bool) w1 =>
  nw ty_store_image [(.int .i64 0), (.int .i64 0), (.int .i64 0), (.slice none 0 0), (.int .i64 0), (.int .i64 0)] w1 fun x w2 =>
  stK x (T_store_image.rep.cells t14) w2 fun w3 =>
  ldI .i64 (x.add 4) w3 fun t18 =>
  K t18 t14_1 w3

def an_store_Store_Stamp : List Ann := [.none, .none, .none]

theorem vc_store_Store_Stamp (s : Option Addr) (id : Int) (w : World) (K : Int → Bool → World → Prop) :
    vcFn C (Try.f34.body.getD .skip) Try.f34.results.toList Try.f34.ntmps an_store_Store_Stamp [(Kind.int .i64), Kind.bool] [(.pointer s), (.int .i64 id)] w (fun s w => K s.1 s.2.1 w) = sh_store_Store_Stamp s id w K := by kernel_rfl

theorem call_store_Store_Stamp (s : Option Addr) (id : Int) {w : World} {K : Int → Bool → World → Prop} (h : sh_store_Store_Stamp s id w K) : c_store_Store_Stamp s id w K := by
  rw [← vc_store_Store_Stamp] at h
  refine Calls.mono (calls_of_vc C.plain_ok C.mixed Try.func34 rfl h) ?_
  rintro e w' ⟨s, rfl, hK⟩
  exact ⟨s.1, s.2.1, rfl, hK⟩

/-- phosphor/phosphorref21.New -/
def sh_phosphorref21_New (quota : Int) (w : World) (K : Option Addr → Int → World → Prop) : Prop :=
  joinP (σ := Unit) (fun s w1 =>
    nw ty_phosphorref21_Store [(.int .i64 quota), (.int .i64 0), (.int .i64 0), (.slice none 0 0)] w1 fun t12 w2 =>
    K (some t12) 0 w2) fun J1 =>
  cond (decide (quota < (0 : Int)))
    (K none 1 w)
    (cond (decide (quota > (1073741824 : Int)))
       (K none 1 w)
       (J1 (()) w))

def an_phosphorref21_New : List Ann := [.none, .join [] [2, 3, 4, 5, 6, 7, 8, 9], .none, .none, .none]

theorem vc_phosphorref21_New (quota : Int) (w : World) (K : Option Addr → Int → World → Prop) :
    vcFn C (Try.f35.body.getD .skip) Try.f35.results.toList Try.f35.ntmps an_phosphorref21_New [Kind.ptr, (Kind.int .i64)] [(.int .i64 quota)] w (fun s w => K s.1 s.2.1 w) = sh_phosphorref21_New quota w K := by kernel_rfl

theorem call_phosphorref21_New (quota : Int) {w : World} {K : Option Addr → Int → World → Prop} (h : sh_phosphorref21_New quota w K) : c_phosphorref21_New quota w K := by
  rw [← vc_phosphorref21_New] at h
  refine Calls.mono (calls_of_vc C.plain_ok C.mixed Try.func35 rfl h) ?_
  rintro e w' ⟨s, rfl, hK⟩
  exact ⟨s.1, s.2.1, rfl, hK⟩

/-- (*phosphor/phosphorref21.Store).Put -/
def sh_phosphorref21_Store_Put (s : Option Addr) (id : Int) (number : Int) (m : T_phosphorref7_Matrix) (w : World) (K : Int → Slc → Int → World → Prop) : Prop :=
  nw ty_phosphorref7_Matrix (T_phosphorref7_Matrix.rep.cells m) w fun m_1 w1 =>
  joinP (σ := Unit) (fun s_1 w2 =>
    ldSl (m_1.add 2) w2.drew fun t40 =>
    onPtr s fun t43 =>
    ldI .i64 (t43.add 0) w2.drew fun t45 =>
    cond (decide (((t40.n : Nat) : Int) > t45))
      (K 0 (⟨none, 0, 0⟩ : Slc) 6 w2.drew)
      (onPtr s fun t48 =>
       stK (t48.add 1) [(.int .i64 0)] w2.drew fun w3 =>
       joinP (σ := Unit) (fun s_2 w4 =>
         ldSl (m_1.add 2) w4 fun t57 =>
         c_phosphorref21_Store_room s ((t57.n : Nat) : Int) w4 fun t59 w5 =>
         joinP (σ := Int × Unit) (fun s_3 w6 =>
           onPtr s fun t69 =>
           ldI .i64 (t69.add 2) w6 fun t71 =>
           onPtr s fun t73 =>
           stK (t73.add 2) [(.int .i64 (IntKind.i64.wrap (t71 + (1 : Int))))] w6 fun w7 =>
           ldS T_phosphorref7_Matrix.rep m_1 w7.drew fun t77 =>
           onPtr s fun t80 =>
           ldI .i64 (t80.add 2) w7.drew fun t82 =>
           onPtr s fun t84 =>
           ldI .i64 (t84.add 2) w7.drew fun t86 =>
             (c_phosphorref7_Twin t77 w7.drew fun t78 w8 =>
              World.cell? w8 (t84.add 2) = some (.int .i64 t86) ∧
              World.cell? w8 (t80.add 2) = some (.int .i64 t82) ∧
              nw ty_phosphorref21_Image [(.int .i64 0), (.int .i64 0), (.int .i64 0), (.int .i64 0), (.slice none 0 0), (.int .i64 0), (.int .i64 0)] w8 fun x w9 =>
              World.cell? w9 (t84.add 2) = some (.int .i64 t86) ∧
              World.cell? w9 (t80.add 2) = some (.int .i64 t82) ∧
              cellsAt w9 m_1 (T_phosphorref7_Matrix.rep.cells t77) ∧
              stK x [(.int .i64 s_3.1), (.int .i64 number), (.int .i64 t78.W), (.int .i64 t78.H), (.slice t78.P.a t78.P.n t78.P.c), (.int .i64 t82), (.int .i64 t86)] w9 fun w10 =>
              loopP (σ := Int × Unit) (fun I4 s_4 w11 =>
                onPtr s fun t90 =>
                ldSl (t90.add 3) w11 fun t92 =>
                cond (decide (s_4.1 < ((t92.n : Nat) : Int)))
                  (onPtr s fun t97 =>
                   ldSl (t97.add 3) w11 fun t99 =>
                   ixK t99 s_4.1 7 fun t101 =>
                   ldI .i64 (t101.add 0) w11 fun t103 =>
                   cond (decide (t103 < s_3.1))
                     (I4 ((IntKind.i64.wrap (s_4.1 + (1 : Int))), ()) w11)
                     (onPtr s fun t111 =>
                      ldSl (t111.add 3) w11.drew fun t113 =>
                      slK t113 none (some s_4.1) 7 fun t115 =>
                      ldS T_phosphorref21_Image.rep x w11.drew fun t117 =>
                        (nw ty_phosphorref21_Image [] w11.drew fun t109 w12 =>
                         cellsAt w12 x (T_phosphorref21_Image.rep.cells t117) ∧
                         World.cell? w12 (t111.add 3) = some (.slice t113.a t113.n t113.c) ∧
                           (apK PG #[ty_sl_phosphorref21_Image, ty_sl_phosphorref21_Image] ty_sl_phosphorref21_Image (⟨(some t109), 0, 0⟩ : Slc) t115 w12 fun t116 w13 =>
                            cellsAt w13 x (T_phosphorref21_Image.rep.cells t117) ∧
                            nw ty_phosphorref21_Image [(.int .i64 t117.Id), (.int .i64 t117.Number), (.int .i64 t117.M.W), (.int .i64 t117.M.H), (.slice t117.M.P.a t117.M.P.n t117.M.P.c), (.int .i64 t117.Stamp), (.int .i64 t117.Born)] w13 fun t118 w14 =>
                            World.cell? w14 (t111.add 3) = some (.slice t113.a t113.n t113.c) ∧
                            apK PG #[ty_sl_phosphorref21_Image, ty_sl_phosphorref21_Image] ty_sl_phosphorref21_Image t116 (⟨(some t118), 1, 1⟩ : Slc) w14 fun t119 w15 =>
                            onPtr s fun t123 =>
                            ldSl (t123.add 3) w15 fun t125 =>
                            slK t125 (some s_4.1) none 7 fun t127 =>
                            apK PG #[ty_sl_phosphorref21_Image, ty_sl_phosphorref21_Image] ty_sl_phosphorref21_Image t119 t127 w15 fun t128 w16 =>
                            onPtr s fun t129 =>
                            stK (t129.add 3) [(.slice t128.a t128.n t128.c)] w16 fun w17 =>
                            K s_3.1 t59 0 w17) ∧
                         nw ty_phosphorref21_Image [(.int .i64 t117.Id), (.int .i64 t117.Number), (.int .i64 t117.M.W), (.int .i64 t117.M.H), (.slice t117.M.P.a t117.M.P.n t117.M.P.c), (.int .i64 t117.Stamp), (.int .i64 t117.Born)] w12 fun t118_1 w18 =>
                         World.cell? w18 (t111.add 3) = some (.slice t113.a t113.n t113.c) ∧
                         apK PG #[ty_sl_phosphorref21_Image, ty_sl_phosphorref21_Image] ty_sl_phosphorref21_Image (⟨(some t109), 0, 0⟩ : Slc) t115 w18 fun t116_1 w19 =>
                         cellsAt w19 x (T_phosphorref21_Image.rep.cells t117) ∧
                         apK PG #[ty_sl_phosphorref21_Image, ty_sl_phosphorref21_Image] ty_sl_phosphorref21_Image t116_1 (⟨(some t118_1), 1, 1⟩ : Slc) w19 fun t119_1 w20 =>
                         onPtr s fun t123_1 =>
                         ldSl (t123_1.add 3) w20 fun t125_1 =>
                         slK t125_1 (some s_4.1) none 7 fun t127_1 =>
                         apK PG #[ty_sl_phosphorref21_Image, ty_sl_phosphorref21_Image] ty_sl_phosphorref21_Image t119_1 t127_1 w20 fun t128_1 w21 =>
                         onPtr s fun t129_1 =>
                         stK (t129_1.add 3) [(.slice t128_1.a t128_1.n t128_1.c)] w21 fun w22 =>
                         K s_3.1 t59 0 w22) ∧
                      nw ty_phosphorref21_Image [(.int .i64 t117.Id), (.int .i64 t117.Number), (.int .i64 t117.M.W), (.int .i64 t117.M.H), (.slice t117.M.P.a t117.M.P.n t117.M.P.c), (.int .i64 t117.Stamp), (.int .i64 t117.Born)] w11.drew fun t118_2 w23 =>
                      World.cell? w23 (t111.add 3) = some (.slice t113.a t113.n t113.c) ∧
                      nw ty_phosphorref21_Image [] w23 fun t109_1 w24 =>
                      cellsAt w24 x (T_phosphorref21_Image.rep.cells t117) ∧
                      World.cell? w24 (t111.add 3) = some (.slice t113.a t113.n t113.c) ∧
                      apK PG #[ty_sl_phosphorref21_Image, ty_sl_phosphorref21_Image] ty_sl_phosphorref21_Image (⟨(some t109_1), 0, 0⟩ : Slc) t115 w24 fun t116_2 w25 =>
                      cellsAt w25 x (T_phosphorref21_Image.rep.cells t117) ∧
                      apK PG #[ty_sl_phosphorref21_Image, ty_sl_phosphorref21_Image] ty_sl_phosphorref21_Image t116_2 (⟨(some t118_2), 1, 1⟩ : Slc) w25 fun t119_2 w26 =>
                      onPtr s fun t123_2 =>
                      ldSl (t123_2.add 3) w26 fun t125_2 =>
                      slK t125_2 (some s_4.1) none 7 fun t127_2 =>
                      apK PG #[ty_sl_phosphorref21_Image, ty_sl_phosphorref21_Image] ty_sl_phosphorref21_Image t119_2 t127_2 w26 fun t128_2 w27 =>
                      onPtr s fun t129_2 =>
                      stK (t129_2.add 3) [(.slice t128_2.a t128_2.n t128_2.c)] w27 fun w28 =>
                      K s_3.1 t59 0 w28))
                  (onPtr s fun t111_1 =>
                   ldSl (t111_1.add 3) w11.drew fun t113_1 =>
                   slK t113_1 none (some s_4.1) 7 fun t115_1 =>
                   ldS T_phosphorref21_Image.rep x w11.drew fun t117_1 =>
                     (nw ty_phosphorref21_Image [] w11.drew fun t109_2 w29 =>
                      cellsAt w29 x (T_phosphorref21_Image.rep.cells t117_1) ∧
                      World.cell? w29 (t111_1.add 3) = some (.slice t113_1.a t113_1.n t113_1.c) ∧
                        (apK PG #[ty_sl_phosphorref21_Image, ty_sl_phosphorref21_Image] ty_sl_phosphorref21_Image (⟨(some t109_2), 0, 0⟩ : Slc) t115_1 w29 fun t116_3 w30 =>
                         cellsAt w30 x (T_phosphorref21_Image.rep.cells t117_1) ∧
                         nw ty_phosphorref21_Image [(.int .i64 t117_1.Id), (.int .i64 t117_1.Number), (.int .i64 t117_1.M.W), (.int .i64 t117_1.M.H), (.slice t117_1.M.P.a t117_1.M.P.n t117_1.M.P.c), (.int .i64 t117_1.Stamp), (.int .i64 t117_1.Born)] w30 fun t118_3 w31 =>
                         World.cell? w31 (t111_1.add 3) = some (.slice t113_1.a t113_1.n t113_1.c) ∧
                         apK PG #[ty_sl_phosphorref21_Image, ty_sl_phosphorref21_Image] ty_sl_phosphorref21_Image t116_3 (⟨(some t118_3), 1, 1⟩ : Slc) w31 fun t119_3 w32 =>
                         onPtr s fun t123_3 =>
                         ldSl (t123_3.add 3) w32 fun t125_3 =>
                         slK t125_3 (some s_4.1) none 7 fun t127_3 =>
                         apK PG #[ty_sl_phosphorref21_Image, ty_sl_phosphorref21_Image] ty_sl_phosphorref21_Image t119_3 t127_3 w32 fun t128_3 w33 =>
                         onPtr s fun t129_3 =>
                         stK (t129_3.add 3) [(.slice t128_3.a t128_3.n t128_3.c)] w33 fun w34 =>
                         K s_3.1 t59 0 w34) ∧
                      nw ty_phosphorref21_Image [(.int .i64 t117_1.Id), (.int .i64 t117_1.Number), (.int .i64 t117_1.M.W), (.int .i64 t117_1.M.H), (.slice t117_1.M.P.a t117_1.M.P.n t117_1.M.P.c), (.int .i64 t117_1.Stamp), (.int .i64 t117_1.Born)] w29 fun t118_4 w35 =>
                      World.cell? w35 (t111_1.add 3) = some (.slice t113_1.a t113_1.n t113_1.c) ∧
                      apK PG #[ty_sl_phosphorref21_Image, ty_sl_phosphorref21_Image] ty_sl_phosphorref21_Image (⟨(some t109_2), 0, 0⟩ : Slc) t115_1 w35 fun t116_4 w36 =>
                      cellsAt w36 x (T_phosphorref21_Image.rep.cells t117_1) ∧
                      apK PG #[ty_sl_phosphorref21_Image, ty_sl_phosphorref21_Image] ty_sl_phosphorref21_Image t116_4 (⟨(some t118_4), 1, 1⟩ : Slc) w36 fun t119_4 w37 =>
                      onPtr s fun t123_4 =>
                      ldSl (t123_4.add 3) w37 fun t125_4 =>
                      slK t125_4 (some s_4.1) none 7 fun t127_4 =>
                      apK PG #[ty_sl_phosphorref21_Image, ty_sl_phosphorref21_Image] ty_sl_phosphorref21_Image t119_4 t127_4 w37 fun t128_4 w38 =>
                      onPtr s fun t129_4 =>
                      stK (t129_4.add 3) [(.slice t128_4.a t128_4.n t128_4.c)] w38 fun w39 =>
                      K s_3.1 t59 0 w39) ∧
                   nw ty_phosphorref21_Image [(.int .i64 t117_1.Id), (.int .i64 t117_1.Number), (.int .i64 t117_1.M.W), (.int .i64 t117_1.M.H), (.slice t117_1.M.P.a t117_1.M.P.n t117_1.M.P.c), (.int .i64 t117_1.Stamp), (.int .i64 t117_1.Born)] w11.drew fun t118_5 w40 =>
                   World.cell? w40 (t111_1.add 3) = some (.slice t113_1.a t113_1.n t113_1.c) ∧
                   nw ty_phosphorref21_Image [] w40 fun t109_3 w41 =>
                   cellsAt w41 x (T_phosphorref21_Image.rep.cells t117_1) ∧
                   World.cell? w41 (t111_1.add 3) = some (.slice t113_1.a t113_1.n t113_1.c) ∧
                   apK PG #[ty_sl_phosphorref21_Image, ty_sl_phosphorref21_Image] ty_sl_phosphorref21_Image (⟨(some t109_3), 0, 0⟩ : Slc) t115_1 w41 fun t116_5 w42 =>
                   cellsAt w42 x (T_phosphorref21_Image.rep.cells t117_1) ∧
                   apK PG #[ty_sl_phosphorref21_Image, ty_sl_phosphorref21_Image] ty_sl_phosphorref21_Image t116_5 (⟨(some t118_5), 1, 1⟩ : Slc) w42 fun t119_5 w43 =>
                   onPtr s fun t123_5 =>
                   ldSl (t123_5.add 3) w43 fun t125_5 =>
                   slK t125_5 (some s_4.1) none 7 fun t127_5 =>
                   apK PG #[ty_sl_phosphorref21_Image, ty_sl_phosphorref21_Image] ty_sl_phosphorref21_Image t119_5 t127_5 w43 fun t128_5 w44 =>
                   onPtr s fun t129_5 =>
                   stK (t129_5.add 3) [(.slice t128_5.a t128_5.n t128_5.c)] w44 fun w45 =>
                   K s_3.1 t59 0 w45)) (0, ()) w10) ∧
           nw ty_phosphorref21_Image [(.int .i64 0), (.int .i64 0), (.int .i64 0), (.int .i64 0), (.slice none 0 0), (.int .i64 0), (.int .i64 0)] w7.drew fun x_1 w46 =>
           World.cell? w46 (t84.add 2) = some (.int .i64 t86) ∧
           World.cell? w46 (t80.add 2) = some (.int .i64 t82) ∧
           cellsAt w46 m_1 (T_phosphorref7_Matrix.rep.cells t77) ∧
           c_phosphorref7_Twin t77 w46 fun t78_1 w47 =>
           World.cell? w47 (t84.add 2) = some (.int .i64 t86) ∧
           World.cell? w47 (t80.add 2) = some (.int .i64 t82) ∧
           stK x_1 [(.int .i64 s_3.1), (.int .i64 number), (.int .i64 t78_1.W), (.int .i64 t78_1.H), (.slice t78_1.P.a t78_1.P.n t78_1.P.c), (.int .i64 t82), (.int .i64 t86)] w47 fun w48 =>
           loopP (σ := Int × Unit) (fun I5 s_5 w49 =>
             onPtr s fun t90_1 =>
             ldSl (t90_1.add 3) w49 fun t92_1 =>
             cond (decide (s_5.1 < ((t92_1.n : Nat) : Int)))
               (onPtr s fun t97_1 =>
                ldSl (t97_1.add 3) w49 fun t99_1 =>
                ixK t99_1 s_5.1 7 fun t101_1 =>
                ldI .i64 (t101_1.add 0) w49 fun t103_1 =>
                cond (decide (t103_1 < s_3.1))
                  (I5 ((IntKind.i64.wrap (s_5.1 + (1 : Int))), ()) w49)
                  (onPtr s fun t111_2 =>
                   ldSl (t111_2.add 3) w49.drew fun t113_2 =>
                   slK t113_2 none (some s_5.1) 7 fun t115_2 =>
                   ldS T_phosphorref21_Image.rep x_1 w49.drew fun t117_2 =>
                     (nw ty_phosphorref21_Image [] w49.drew fun t109_4 w50 =>
                      cellsAt w50 x_1 (T_phosphorref21_Image.rep.cells t117_2) ∧
                      World.cell? w50 (t111_2.add 3) = some (.slice t113_2.a t113_2.n t113_2.c) ∧
                        (apK PG #[ty_sl_phosphorref21_Image, ty_sl_phosphorref21_Image] ty_sl_phosphorref21_Image (⟨(some t109_4), 0, 0⟩ : Slc) t115_2 w50 fun t116_6 w51 =>
                         cellsAt w51 x_1 (T_phosphorref21_Image.rep.cells t117_2) ∧
                         nw ty_phosphorref21_Image [(.int .i64 t117_2.Id), (.int .i64 t117_2.Number), (.int .i64 t117_2.M.W), (.int .i64 t117_2.M.H), (.slice t117_2.M.P.a t117_2.M.P.n t117_2.M.P.c), (.int .i64 t117_2.Stamp), (.int .i64 t117_2.Born)] w51 fun t118_6 w52 =>
                         World.cell? w52 (t111_2.add 3) = some (.slice t113_2.a t113_2.n t113_2.c) ∧
                         apK PG #[ty_sl_phosphorref21_Image, ty_sl_phosphorref21_Image] ty_sl_phosphorref21_Image t116_6 (⟨(some t118_6), 1, 1⟩ : Slc) w52 fun t119_6 w53 =>
                         onPtr s fun t123_6 =>
                         ldSl (t123_6.add 3) w53 fun t125_6 =>
                         slK t125_6 (some s_5.1) none 7 fun t127_6 =>
                         apK PG #[ty_sl_phosphorref21_Image, ty_sl_phosphorref21_Image] ty_sl_phosphorref21_Image t119_6 t127_6 w53 fun t128_6 w54 =>
                         onPtr s fun t129_6 =>
                         stK (t129_6.add 3) [(.slice t128_6.a t128_6.n t128_6.c)] w54 fun w55 =>
                         K s_3.1 t59 0 w55) ∧
                      nw ty_phosphorref21_Image [(.int .i64 t117_2.Id), (.int .i64 t117_2.Number), (.int .i64 t117_2.M.W), (.int .i64 t117_2.M.H), (.slice t117_2.M.P.a t117_2.M.P.n t117_2.M.P.c), (.int .i64 t117_2.Stamp), (.int .i64 t117_2.Born)] w50 fun t118_7 w56 =>
                      World.cell? w56 (t111_2.add 3) = some (.slice t113_2.a t113_2.n t113_2.c) ∧
                      apK PG #[ty_sl_phosphorref21_Image, ty_sl_phosphorref21_Image] ty_sl_phosphorref21_Image (⟨(some t109_4), 0, 0⟩ : Slc) t115_2 w56 fun t116_7 w57 =>
                      cellsAt w57 x_1 (T_phosphorref21_Image.rep.cells t117_2) ∧
                      apK PG #[ty_sl_phosphorref21_Image, ty_sl_phosphorref21_Image] ty_sl_phosphorref21_Image t116_7 (⟨(some t118_7), 1, 1⟩ : Slc) w57 fun t119_7 w58 =>
                      onPtr s fun t123_7 =>
                      ldSl (t123_7.add 3) w58 fun t125_7 =>
                      slK t125_7 (some s_5.1) none 7 fun t127_7 =>
                      apK PG #[ty_sl_phosphorref21_Image, ty_sl_phosphorref21_Image] ty_sl_phosphorref21_Image t119_7 t127_7 w58 fun t128_7 w59 =>
                      onPtr s fun t129_7 =>
                      stK (t129_7.add 3) [(.slice t128_7.a t128_7.n t128_7.c)] w59 fun w60 =>
                      K s_3.1 t59 0 w60) ∧
                   nw ty_phosphorref21_Image [(.int .i64 t117_2.Id), (.int .i64 t117_2.Number), (.int .i64 t117_2.M.W), (.int .i64 t117_2.M.H), (.slice t117_2.M.P.a t117_2.M.P.n t117_2.M.P.c), (.int .i64 t117_2.Stamp), (.int .i64 t117_2.Born)] w49.drew fun t118_8 w61 =>
                   World.cell? w61 (t111_2.add 3) = some (.slice t113_2.a t113_2.n t113_2.c) ∧
                   nw ty_phosphorref21_Image [] w61 fun t109_5 w62 =>
                   cellsAt w62 x_1 (T_phosphorref21_Image.rep.cells t117_2) ∧
                   World.cell? w62 (t111_2.add 3) = some (.slice t113_2.a t113_2.n t113_2.c) ∧
                   apK PG #[ty_sl_phosphorref21_Image, ty_sl_phosphorref21_Image] ty_sl_phosphorref21_Image (⟨(some t109_5), 0, 0⟩ : Slc) t115_2 w62 fun t116_8 w63 =>
                   cellsAt w63 x_1 (T_phosphorref21_Image.rep.cells t117_2) ∧
                   apK PG #[ty_sl_phosphorref21_Image, ty_sl_phosphorref21_Image] ty_sl_phosphorref21_Image t116_8 (⟨(some t118_8), 1, 1⟩ : Slc) w63 fun t119_8 w64 =>
                   onPtr s fun t123_8 =>
                   ldSl (t123_8.add 3) w64 fun t125_8 =>
                   slK t125_8 (some s_5.1) none 7 fun t127_8 =>
                   apK PG #[ty_sl_phosphorref21_Image, ty_sl_phosphorref21_Image] ty_sl_phosphorref21_Image t119_8 t127_8 w64 fun t128_8 w65 =>
                   onPtr s fun t129_8 =>
                   stK (t129_8.add 3) [(.slice t128_8.a t128_8.n t128_8.c)] w65 fun w66 =>
                   K s_3.1 t59 0 w66))
               (onPtr s fun t111_3 =>
                ldSl (t111_3.add 3) w49.drew fun t113_3 =>
                slK t113_3 none (some s_5.1) 7 fun t115_3 =>
                ldS T_phosphorref21_Image.rep x_1 w49.drew fun t117_3 =>
                  (nw ty_phosphorref21_Image [] w49.drew fun t109_6 w67 =>
                   cellsAt w67 x_1 (T_phosphorref21_Image.rep.cells t117_3) ∧
                   World.cell? w67 (t111_3.add 3) = some (.slice t113_3.a t113_3.n t113_3.c) ∧
                     (apK PG #[ty_sl_phosphorref21_Image, ty_sl_phosphorref21_Image] ty_sl_phosphorref21_Image (⟨(some t109_6), 0, 0⟩ : Slc) t115_3 w67 fun t116_9 w68 =>
                      cellsAt w68 x_1 (T_phosphorref21_Image.rep.cells t117_3) ∧
                      nw ty_phosphorref21_Image [(.int .i64 t117_3.Id), (.int .i64 t117_3.Number), (.int .i64 t117_3.M.W), (.int .i64 t117_3.M.H), (.slice t117_3.M.P.a t117_3.M.P.n t117_3.M.P.c), (.int .i64 t117_3.Stamp), (.int .i64 t117_3.Born)] w68 fun t118_9 w69 =>
                      World.cell? w69 (t111_3.add 3) = some (.slice t113_3.a t113_3.n t113_3.c) ∧
                      apK PG #[ty_sl_phosphorref21_Image, ty_sl_phosphorref21_Image] ty_sl_phosphorref21_Image t116_9 (⟨(some t118_9), 1, 1⟩ : Slc) w69 fun t119_9 w70 =>
                      onPtr s fun t123_9 =>
                      ldSl (t123_9.add 3) w70 fun t125_9 =>
                      slK t125_9 (some s_5.1) none 7 fun t127_9 =>
                      apK PG #[ty_sl_phosphorref21_Image, ty_sl_phosphorref21_Image] ty_sl_phosphorref21_Image t119_9 t127_9 w70 fun t128_9 w71 =>
                      onPtr s fun t129_9 =>
                      stK (t129_9.add 3) [(.slice t128_9.a t128_9.n t128_9.c)] w71 fun w72 =>
                      K s_3.1 t59 0 w72) ∧
                   nw ty_phosphorref21_Image [(.int .i64 t117_3.Id), (.int .i64 t117_3.Number), (.int .i64 t117_3.M.W), (.int .i64 t117_3.M.H), (.slice t117_3.M.P.a t117_3.M.P.n t117_3.M.P.c), (.int .i64 t117_3.Stamp), (.int .i64 t117_3.Born)] w67 fun t118_10 w73 =>
                   World.cell? w73 (t111_3.add 3) = some (.slice t113_3.a t113_3.n t113_3.c) ∧
                   apK PG #[ty_sl_phosphorref21_Image, ty_sl_phosphorref21_Image] ty_sl_phosphorref21_Image (⟨(some t109_6), 0, 0⟩ : Slc) t115_3 w73 fun t116_10 w74 =>
                   cellsAt w74 x_1 (T_phosphorref21_Image.rep.cells t117_3) ∧
                   apK PG #[ty_sl_phosphorref21_Image, ty_sl_phosphorref21_Image] ty_sl_phosphorref21_Image t116_10 (⟨(some t118_10), 1, 1⟩ : Slc) w74 fun t119_10 w75 =>
                   onPtr s fun t123_10 =>
                   ldSl (t123_10.add 3) w75 fun t125_10 =>
                   slK t125_10 (some s_5.1) none 7 fun t127_10 =>
                   apK PG #[ty_sl_phosphorref21_Image, ty_sl_phosphorref21_Image] ty_sl_phosphorref21_Image t119_10 t127_10 w75 fun t128_10 w76 =>
                   onPtr s fun t129_10 =>
                   stK (t129_10.add 3) [(.slice t128_10.a t128_10.n t128_10.c)] w76 fun w77 =>
                   K s_3.1 t59 0 w77) ∧
                nw ty_phosphorref21_Image [(.int .i64 t117_3.Id), (.int .i64 t117_3.Number), (.int .i64 t117_3.M.W), (.int .i64 t117_3.M.H), (.slice t117_3.M.P.a t117_3.M.P.n t117_3.M.P.c), (.int .i64 t117_3.Stamp), (.int .i64 t117_3.Born)] w49.drew fun t118_11 w78 =>
                World.cell? w78 (t111_3.add 3) = some (.slice t113_3.a t113_3.n t113_3.c) ∧
                nw ty_phosphorref21_Image [] w78 fun t109_7 w79 =>
                cellsAt w79 x_1 (T_phosphorref21_Image.rep.cells t117_3) ∧
                World.cell? w79 (t111_3.add 3) = some (.slice t113_3.a t113_3.n t113_3.c) ∧
                apK PG #[ty_sl_phosphorref21_Image, ty_sl_phosphorref21_Image] ty_sl_phosphorref21_Image (⟨(some t109_7), 0, 0⟩ : Slc) t115_3 w79 fun t116_11 w80 =>
                cellsAt w80 x_1 (T_phosphorref21_Image.rep.cells t117_3) ∧
                apK PG #[ty_sl_phosphorref21_Image, ty_sl_phosphorref21_Image] ty_sl_phosphorref21_Image t116_11 (⟨(some t118_11), 1, 1⟩ : Slc) w80 fun t119_11 w81 =>
                onPtr s fun t123_11 =>
                ldSl (t123_11.add 3) w81 fun t125_11 =>
                slK t125_11 (some s_5.1) none 7 fun t127_11 =>
                apK PG #[ty_sl_phosphorref21_Image, ty_sl_phosphorref21_Image] ty_sl_phosphorref21_Image t119_11 t127_11 w81 fun t128_11 w82 =>
                onPtr s fun t129_11 =>
                stK (t129_11.add 3) [(.slice t128_11.a t128_11.n t128_11.c)] w82 fun w83 =>
                K s_3.1 t59 0 w83)) (0, ()) w48) fun J3 =>
         cond (id == (0 : Int))
           (loopP (σ := Int × Unit) (fun I6 s_6 w84 =>
              c_phosphorref21_Store_at s s_6.1 w84 fun t64 w85 =>
              cond (decide (t64 ≥ (0 : Int)))
                (I6 ((IntKind.i64.wrap (s_6.1 + (1 : Int))), ()) w85)
                (J3 (s_6.1, ()) w85)) (1099511627776, ()) w5)
           (J3 (id, ()) w5)) fun J2 =>
       cond (id != (0 : Int))
         (c_phosphorref21_Store_Drop s id w3 fun t54 w86 =>
          J2 (()) w86)
         (J2 (()) w3))) fun J1 =>
  joinP (σ := Bool × Unit) (fun s_7 w87 =>
    cond s_7.1
      (K 0 (⟨none, 0, 0⟩ : Slc) 1 w87)
      (J1 (()) w87)) fun J7 =>
  ldS T_phosphorref7_Matrix.rep m_1 w1 fun t15 =>
  c_phosphorref7_Right t15 w1 fun t16 w88 =>
  cond (!t16)
    (J7 (true, ()) w88)
    (ldI .i64 (m_1.add 0) w88 fun t20 =>
     cond (t20 == (0 : Int))
       (J7 (true, ()) w88)
       (cond (decide (id < (0 : Int)))
          (J7 (true, ()) w88)
          (cond (decide (id > (4294967295 : Int)))
             (J7 (true, ()) w88)
             (cond (decide (number < (0 : Int)))
                (J7 (true, ()) w88)
                (J7 ((decide (number > (4294967295 : Int))), ()) w88)))))

def an_phosphorref21_Store_Put : List Ann := [.none, .join [] [8, 9, 10, 15, 16, 17, 18, 19, 20, 21, 22, 23, 24, 25, 26, 27, 28, 29, 30, 31, 32, 33, 34, 35, 36, 37, 38], .join [(38, Kind.bool)] [15, 16, 17, 18, 19, 20, 21, 22, 23, 24, 25, 26, 27, 28, 29, 30, 31, 32, 33, 34, 35, 36, 37, 38], .none, .none, .none, .none, .none, .join [] [50, 51, 52, 53, 54], .none, .none, .join [(1, (Kind.int .i64))] [1, 60, 61, 62, 63, 64, 65, 66, 67], .none, .none, .join [(1, (Kind.int .i64))] [1, 62, 63, 64, 65, 66, 67], .none, .none, .none, .none, .none, .none, .join [(13, (Kind.int .i64))] [13, 88, 89, 90, 91, 92, 93, 94, 95, 96, 97, 98, 99, 100, 101, 102, 103, 104, 105, 106, 107, 108], .none, .none, .none, .none, .none]

theorem vc_phosphorref21_Store_Put (s : Option Addr) (id : Int) (number : Int) (m : T_phosphorref7_Matrix) (w : World) (K : Int → Slc → Int → World → Prop) :
    vcFn C (Try.f36.body.getD .skip) Try.f36.results.toList Try.f36.ntmps an_phosphorref21_Store_Put [(Kind.int .i64), Kind.slice, (Kind.int .i64)] [(.pointer s), (.int .i64 id), (.int .i64 number), (.agg #[(.int .i64 m.W), (.int .i64 m.H), (.slice m.P.a m.P.n m.P.c)])] w (fun s w => K s.1 s.2.1 s.2.2.1 w) = sh_phosphorref21_Store_Put s id number m w K := by kernel_rfl

theorem call_phosphorref21_Store_Put (s : Option Addr) (id : Int) (number : Int) (m : T_phosphorref7_Matrix) {w : World} {K : Int → Slc → Int → World → Prop} (h : sh_phosphorref21_Store_Put s id number m w K) : c_phosphorref21_Store_Put s id number m w K := by
  rw [← vc_phosphorref21_Store_Put] at h
  refine Calls.mono (calls_of_vc C.plain_ok C.mixed Try.func36 rfl h) ?_
  rintro e w' ⟨s, rfl, hK⟩
  exact ⟨s.1, s.2.1, s.2.2.1, rfl, hK⟩

/-- phosphor/phosphorlaw7.Of -/
def sh_phosphorlaw7_Of (m : T_api_Matrix) (w : World) (K : T_phosphorref7_Matrix → World → Prop) : Prop :=
  nw ty_api_Matrix (T_api_Matrix.rep.cells m) w fun m_1 w1 =>
  nw ty_phosphorref7_Matrix [(.int .i64 0), (.int .i64 0), (.slice none 0 0)] w1 fun t2 w2 =>
  ldI .i64 (m_1.add 0) w2 fun t4 =>
  ldI .i64 (m_1.add 1) w2 fun t6 =>
  ldSl (m_1.add 2) w2 fun t8 =>
  stK t2 [(.int .i64 t4), (.int .i64 t6), (.slice t8.a t8.n t8.c)] w2 fun w3 =>
  ldS T_phosphorref7_Matrix.rep t2 w3 fun r =>
  K r w3

def an_phosphorlaw7_Of : List Ann := [.none, .none]

theorem vc_phosphorlaw7_Of (m : T_api_Matrix) (w : World) (K : T_phosphorref7_Matrix → World → Prop) :
    vcFn C (Try.f37.body.getD .skip) Try.f37.results.toList Try.f37.ntmps an_phosphorlaw7_Of [(Kind.struct T_phosphorref7_Matrix.rep)] [(.agg #[(.int .i64 m.W), (.int .i64 m.H), (.slice m.P.a m.P.n m.P.c)])] w (fun s w => K s.1 w) = sh_phosphorlaw7_Of m w K := by kernel_rfl

theorem call_phosphorlaw7_Of (m : T_api_Matrix) {w : World} {K : T_phosphorref7_Matrix → World → Prop} (h : sh_phosphorlaw7_Of m w K) : c_phosphorlaw7_Of m w K := by
  rw [← vc_phosphorlaw7_Of] at h
  refine Calls.mono (calls_of_vc C.plain_ok C.mixed Try.func37 rfl h) ?_
  rintro e w' ⟨s, rfl, hK⟩
  exact ⟨s.1, rfl, hK⟩

/-- phosphor/phosphorlaw21.ints -/
def sh_phosphorlaw21_ints (a : Slc) (b : Slc) (w : World) (K : Bool → World → Prop) : Prop :=
  cond (((a.n : Nat) : Int) != ((b.n : Nat) : Int))
    (K false w)
    (loopP (σ := Int × Unit) (fun I1 s w1 =>
       cond (decide (s.1 < ((a.n : Nat) : Int)))
         (ixK a s.1 1 fun t19 =>
          ldI .i64 t19 w1.drew fun t20 =>
          ixK b s.1 1 fun t23 =>
          ldI .i64 t23 w1.drew fun t24 =>
          cond (t20 != t24)
            (K false w1.drew)
            (I1 ((IntKind.i64.wrap (s.1 + (1 : Int))), ()) w1.drew))
         (K true w1)) (0, ()) w)

def an_phosphorlaw21_ints : List Ann := [.none, .none, .none, .none, .none, .none, .join [(5, (Kind.int .i64))] [4, 5, 11, 12, 13, 14, 15, 16, 17, 18, 19, 20, 21, 22, 23, 24, 25], .none, .none, .none, .none, .none, .none]

theorem vc_phosphorlaw21_ints (a : Slc) (b : Slc) (w : World) (K : Bool → World → Prop) :
    vcFn C (Try.f38.body.getD .skip) Try.f38.results.toList Try.f38.ntmps an_phosphorlaw21_ints [Kind.bool] [(.slice a.a a.n a.c), (.slice b.a b.n b.c)] w (fun s w => K s.1 w) = sh_phosphorlaw21_ints a b w K := by kernel_rfl

theorem call_phosphorlaw21_ints (a : Slc) (b : Slc) {w : World} {K : Bool → World → Prop} (h : sh_phosphorlaw21_ints a b w K) : c_phosphorlaw21_ints a b w K := by
  rw [← vc_phosphorlaw21_ints] at h
  refine Calls.mono (calls_of_vc C.plain_ok C.mixed Try.func38 rfl h) ?_
  rintro e w' ⟨s, rfl, hK⟩
  exact ⟨s.1, rfl, hK⟩

/-- (*phosphor/phosphorref21.Store).Reserve -/
def sh_phosphorref21_Store_Reserve (s : Option Addr) (n : Int) (w : World) (K : Slc → Int → World → Prop) : Prop :=
  cond (decide (n < (0 : Int)))
    (K (⟨none, 0, 0⟩ : Slc) 1 w)
    (onPtr s fun t10 =>
     ldI .i64 (t10.add 0) w fun t12 =>
     cond (decide (n > t12))
       (K (⟨none, 0, 0⟩ : Slc) 6 w)
       (onPtr s fun t16 =>
        stK (t16.add 1) [(.int .i64 n)] w fun w1 =>
        c_phosphorref21_Store_room s n w1 fun t20 w2 =>
        K t20 0 w2))

def an_phosphorref21_Store_Reserve : List Ann := [.none, .none, .none, .none, .none, .none, .none, .none, .none]

theorem vc_phosphorref21_Store_Reserve (s : Option Addr) (n : Int) (w : World) (K : Slc → Int → World → Prop) :
    vcFn C (Try.f39.body.getD .skip) Try.f39.results.toList Try.f39.ntmps an_phosphorref21_Store_Reserve [Kind.slice, (Kind.int .i64)] [(.pointer s), (.int .i64 n)] w (fun s w => K s.1 s.2.1 w) = sh_phosphorref21_Store_Reserve s n w K := by kernel_rfl

theorem call_phosphorref21_Store_Reserve (s : Option Addr) (n : Int) {w : World} {K : Slc → Int → World → Prop} (h : sh_phosphorref21_Store_Reserve s n w K) : c_phosphorref21_Store_Reserve s n w K := by
  rw [← vc_phosphorref21_Store_Reserve] at h
  refine Calls.mono (calls_of_vc C.plain_ok C.mixed Try.func39 rfl h) ?_
  rintro e w' ⟨s, rfl, hK⟩
  exact ⟨s.1, s.2.1, rfl, hK⟩

/-- (*phosphor/phosphorref21.Store).Use -/
def sh_phosphorref21_Store_Use (s : Option Addr) (id : Int) (w : World) (K : Bool → World → Prop) : Prop :=
  c_phosphorref21_Store_at s id w fun t9 w1 =>
  cond (decide (t9 < (0 : Int)))
    (K false w1)
    (onPtr s fun t13 =>
     ldI .i64 (t13.add 2) w1 fun t15 =>
     onPtr s fun t17 =>
     stK (t17.add 2) [(.int .i64 (IntKind.i64.wrap (t15 + (1 : Int))))] w1 fun w2 =>
     nw ty_phosphorref21_Image [] w2 fun t19 w3 =>
     onPtr s fun t21 =>
     ldSl (t21.add 3) w3 fun t23 =>
     apK PG #[ty_sl_phosphorref21_Image, ty_sl_phosphorref21_Image] ty_sl_phosphorref21_Image (⟨(some t19), 0, 0⟩ : Slc) t23 w3 fun t24 w4 =>
     onPtr s fun t28 =>
     ldI .i64 (t28.add 2) w4 fun t30 =>
     ixK t24 t9 7 fun t31 =>
     stK (t31.add 5) [(.int .i64 t30)] w4 fun w5 =>
     onPtr s fun t35 =>
     stK (t35.add 3) [(.slice t24.a t24.n t24.c)] w5 fun w6 =>
     K true w6)

def an_phosphorref21_Store_Use : List Ann := [.none, .none, .none, .none, .none, .none, .none, .none, .none, .none]

theorem vc_phosphorref21_Store_Use (s : Option Addr) (id : Int) (w : World) (K : Bool → World → Prop) :
    vcFn C (Try.f40.body.getD .skip) Try.f40.results.toList Try.f40.ntmps an_phosphorref21_Store_Use [Kind.bool] [(.pointer s), (.int .i64 id)] w (fun s w => K s.1 w) = sh_phosphorref21_Store_Use s id w K := by kernel_rfl

theorem call_phosphorref21_Store_Use (s : Option Addr) (id : Int) {w : World} {K : Bool → World → Prop} (h : sh_phosphorref21_Store_Use s id w K) : c_phosphorref21_Store_Use s id w K := by
  rw [← vc_phosphorref21_Store_Use] at h
  refine Calls.mono (calls_of_vc C.plain_ok C.mixed Try.func40 rfl h) ?_
  rintro e w' ⟨s, rfl, hK⟩
  exact ⟨s.1, rfl, hK⟩

/-- (*phosphor/phosphorref21.Store).Drop -/
def sh_phosphorref21_Store_Drop (s : Option Addr) (id : Int) (w : World) (K : Bool → World → Prop) : Prop :=
  c_phosphorref21_Store_at s id w fun t8 w1 =>
  cond (decide (t8 < (0 : Int)))
    (K false w1)
    (onPtr s fun t14 =>
     ldSl (t14.add 3) w1.drew fun t16 =>
     slK t16 none (some t8) 7 fun t18 =>
     onPtr s fun t21 =>
     ldSl (t21.add 3) w1.drew fun t23 =>
     slK t23 (some (IntKind.i64.wrap (t8 + (1 : Int)))) none 7 fun t26 =>
     nw ty_phosphorref21_Image [] w1.drew fun t12 w2 =>
     World.cell? w2 (t21.add 3) = some (.slice t23.a t23.n t23.c) ∧
     World.cell? w2 (t14.add 3) = some (.slice t16.a t16.n t16.c) ∧
     apK PG #[ty_sl_phosphorref21_Image, ty_sl_phosphorref21_Image] ty_sl_phosphorref21_Image (⟨(some t12), 0, 0⟩ : Slc) t18 w2 fun t19 w3 =>
     World.cell? w3 (t21.add 3) = some (.slice t23.a t23.n t23.c) ∧
     apK PG #[ty_sl_phosphorref21_Image, ty_sl_phosphorref21_Image] ty_sl_phosphorref21_Image t19 t26 w3 fun t27 w4 =>
     onPtr s fun t28 =>
     stK (t28.add 3) [(.slice t27.a t27.n t27.c)] w4 fun w5 =>
     K true w5)

def an_phosphorref21_Store_Drop : List Ann := [.none, .none, .none, .none, .none, .none, .none]

theorem vc_phosphorref21_Store_Drop (s : Option Addr) (id : Int) (w : World) (K : Bool → World → Prop) :
    vcFn C (Try.f41.body.getD .skip) Try.f41.results.toList Try.f41.ntmps an_phosphorref21_Store_Drop [Kind.bool] [(.pointer s), (.int .i64 id)] w (fun s w => K s.1 w) = sh_phosphorref21_Store_Drop s id w K := by kernel_rfl

theorem call_phosphorref21_Store_Drop (s : Option Addr) (id : Int) {w : World} {K : Bool → World → Prop} (h : sh_phosphorref21_Store_Drop s id w K) : c_phosphorref21_Store_Drop s id w K := by
  rw [← vc_phosphorref21_Store_Drop] at h
  refine Calls.mono (calls_of_vc C.plain_ok C.mixed Try.func41 rfl h) ?_
  rintro e w' ⟨s, rfl, hK⟩
  exact ⟨s.1, rfl, hK⟩

/-- phosphor/phosphorlaw21.Looks -/
def sh_phosphorlaw21_Looks (s : Option Addr) (r : Option Addr) (id : Int) (number : Int) (w : World) (K : Bool → World → Prop) : Prop :=
  c_store_Store_Get s id w fun t24 t24_1 w1 =>
  nw ty_api_Matrix [(.int .i64 0), (.int .i64 0), (.slice none 0 0)] w1 fun a w2 =>
  stK a (T_api_Matrix.rep.cells t24) w2 fun w3 =>
  c_phosphorref21_Store_Get r id w3 fun t30 t30_1 w4 =>
  nw ty_phosphorref7_Matrix [(.int .i64 0), (.int .i64 0), (.slice none 0 0)] w4 fun b w5 =>
  stK b (T_phosphorref7_Matrix.rep.cells t30) w5 fun w6 =>
  c_store_Store_Number s number w6 fun t36 t36_1 w7 =>
  c_phosphorref21_Store_Number r number w7 fun t42 t42_1 w8 =>
  c_store_Store_Stamp s id w8 fun t48 t48_1 w9 =>
  c_phosphorref21_Store_Stamp r id w9 fun t54 t54_1 w10 =>
  ldS T_api_Matrix.rep a w10.drew fun t57 =>
  ldS T_phosphorref7_Matrix.rep b w10.drew fun t58 =>
  c_phosphorlaw7_Alike t57 t58 w10.drew fun t59 w11 =>
  cond t59
    (cond (t24_1 == t30_1)
       (cond (t36 == t42)
          (cond (t36_1 == t42_1)
             (cond (t48 == t54)
                (cond (t48_1 == t54_1)
                   (c_store_Store_Ids s w11 fun t87 w12 =>
                    c_phosphorref21_Store_Ids r w12 fun t89 w13 =>
                    c_phosphorlaw21_ints t87 t89 w13 fun t90 w14 =>
                    cond t90
                      (c_store_Store_Used s w14 fun t94 w15 =>
                       c_phosphorref21_Store_Used r w15 fun t96 w16 =>
                       cond (t94 == t96)
                         (onPtr r fun t103 =>
                          ldI .i64 (t103.add 1) w16 fun t105 =>
                          c_store_Store_Reserved s w16 fun t101 w17 =>
                          World.cell? w17 (t103.add 1) = some (.int .i64 t105) ∧
                          K (t101 == t105) w17)
                         (K false w16))
                      (K false w14))
                   (K false w11))
                (K false w11))
             (K false w11))
          (K false w11))
       (K false w11))
    (K false w11)

def an_phosphorlaw21_Looks : List Ann := [.none, .none, .none, .none, .none, .none, .none, .none]

theorem vc_phosphorlaw21_Looks (s : Option Addr) (r : Option Addr) (id : Int) (number : Int) (w : World) (K : Bool → World → Prop) :
    vcFn C (Try.f42.body.getD .skip) Try.f42.results.toList Try.f42.ntmps an_phosphorlaw21_Looks [Kind.bool] [(.pointer s), (.pointer r), (.int .i64 id), (.int .i64 number)] w (fun s w => K s.1 w) = sh_phosphorlaw21_Looks s r id number w K := by kernel_rfl

theorem call_phosphorlaw21_Looks (s : Option Addr) (r : Option Addr) (id : Int) (number : Int) {w : World} {K : Bool → World → Prop} (h : sh_phosphorlaw21_Looks s r id number w K) : c_phosphorlaw21_Looks s r id number w K := by
  rw [← vc_phosphorlaw21_Looks] at h
  refine Calls.mono (calls_of_vc C.plain_ok C.mixed Try.func42 rfl h) ?_
  rintro e w' ⟨s, rfl, hK⟩
  exact ⟨s.1, rfl, hK⟩

end Go.Proofs.Yteffnkpplhcomaa
