/- By program (gen.py): the typed text of the program's functions, part 0. -/
import Derived.Test.YtpadlibcalomnaaDoorDefs
set_option maxRecDepth 100000
set_option linter.unusedVariables false
namespace Go.Proofs.YtpadlibcalomnaaDoor
open Go.Vc

/-- phosphor/phosphorlaw19.KeysReplies -/
def sh_phosphorlaw19_KeysReplies (k : T_keys_Keys) (word : ByteArray) (e : Int) (w : World) (K : Bool → World → Prop) : Prop :=
  nw ty_keys_Keys (T_keys_Keys.rep.cells k) w fun k_1 w1 =>
  c_phosphorlaw19_known  w1 fun t7 w2 =>
  cond (!t7)
    (K false w2)
    (cond (decide ((word.size : Int) > (2048 : Int)))
       (K true w2)
       (ldS T_keys_Keys.rep k_1 w2.drew fun t12 =>
        ldS T_keys_Keys.rep k_1 w2.drew fun t16 =>
        c_keys_Reply t12 word w2.drew fun t14 w3 =>
        cellsAt w3 k_1 (T_keys_Keys.rep.cells t16) ∧
          (runK1 PG (convert ty_sl_uint8 ty_string (.slice t14.a t14.n t14.c)) Kind.string w3 fun (t15 : ByteArray) w4 =>
           cellsAt w4 k_1 (T_keys_Keys.rep.cells t16) ∧
           c_phosphorref19_Reply t16 word w4 fun t18 w5 =>
           cond (t15.toList == t18.toList)
             (c_keys_Code e w5 fun t22 w6 =>
              c_phosphorref19_Code e w6 fun t24 w7 =>
              cond (t22.toList == t24.toList)
                (c_keys_First  w7 fun t28 w8 =>
                 c_phosphorref19_First  w8 fun t29 w9 =>
                 K ((t28.Action == t29.Action) && ((t28.Medium == t29.Medium) && ((t28.Zip == t29.Zip) && ((t28.What == t29.What) && ((t28.Quiet == t29.Quiet) && ((t28.Format == t29.Format) && ((t28.W == t29.W) && ((t28.H == t29.H) && ((t28.Id == t29.Id) && ((t28.Number == t29.Number) && ((t28.Place == t29.Place) && ((t28.More == t29.More) && ((t28.X == t29.X) && ((t28.Y == t29.Y) && ((t28.PW == t29.PW) && ((t28.PH == t29.PH) && ((t28.DX == t29.DX) && ((t28.DY == t29.DY) && ((t28.Rows == t29.Rows) && ((t28.Cols == t29.Cols) && ((t28.Z == t29.Z) && ((t28.Stay == t29.Stay) && true)))))))))))))))))))))) w9)
                (K false w7))
             (K false w5)) ∧
        c_phosphorref19_Reply t16 word w3 fun t18_1 w10 =>
        runK1 PG (convert ty_sl_uint8 ty_string (.slice t14.a t14.n t14.c)) Kind.string w10 fun (t15_1 : ByteArray) w11 =>
        cellsAt w11 k_1 (T_keys_Keys.rep.cells t16) ∧
        cond (t15_1.toList == t18_1.toList)
          (c_keys_Code e w11 fun t22_1 w12 =>
           c_phosphorref19_Code e w12 fun t24_1 w13 =>
           cond (t22_1.toList == t24_1.toList)
             (c_keys_First  w13 fun t28_1 w14 =>
              c_phosphorref19_First  w14 fun t29_1 w15 =>
              K ((t28_1.Action == t29_1.Action) && ((t28_1.Medium == t29_1.Medium) && ((t28_1.Zip == t29_1.Zip) && ((t28_1.What == t29_1.What) && ((t28_1.Quiet == t29_1.Quiet) && ((t28_1.Format == t29_1.Format) && ((t28_1.W == t29_1.W) && ((t28_1.H == t29_1.H) && ((t28_1.Id == t29_1.Id) && ((t28_1.Number == t29_1.Number) && ((t28_1.Place == t29_1.Place) && ((t28_1.More == t29_1.More) && ((t28_1.X == t29_1.X) && ((t28_1.Y == t29_1.Y) && ((t28_1.PW == t29_1.PW) && ((t28_1.PH == t29_1.PH) && ((t28_1.DX == t29_1.DX) && ((t28_1.DY == t29_1.DY) && ((t28_1.Rows == t29_1.Rows) && ((t28_1.Cols == t29_1.Cols) && ((t28_1.Z == t29_1.Z) && ((t28_1.Stay == t29_1.Stay) && true)))))))))))))))))))))) w15)
             (K false w13))
          (K false w11)))

def an_phosphorlaw19_KeysReplies : List Ann := [.none, .none, .none, .none, .none, .none, .none, .none]

theorem vc_phosphorlaw19_KeysReplies (k : T_keys_Keys) (word : ByteArray) (e : Int) (w : World) (K : Bool → World → Prop) :
    vcFn C (Tryd.f3.body.getD .skip) Tryd.f3.results.toList Tryd.f3.ntmps an_phosphorlaw19_KeysReplies [Kind.bool] [(.agg #[(.int .u8 k.Action), (.int .u8 k.Medium), (.int .u8 k.Zip), (.int .u8 k.What), (.int .i64 k.Quiet), (.int .i64 k.Format), (.int .i64 k.W), (.int .i64 k.H), (.int .i64 k.Id), (.int .i64 k.Number), (.int .i64 k.Place), (.int .i64 k.More), (.int .i64 k.X), (.int .i64 k.Y), (.int .i64 k.PW), (.int .i64 k.PH), (.int .i64 k.DX), (.int .i64 k.DY), (.int .i64 k.Rows), (.int .i64 k.Cols), (.int .i64 k.Z), (.int .i64 k.Stay)]), (.string word), (.int .i64 e)] w (fun s w => K s.1 w) = sh_phosphorlaw19_KeysReplies k word e w K := by kernel_rfl

theorem call_phosphorlaw19_KeysReplies (k : T_keys_Keys) (word : ByteArray) (e : Int) {w : World} {K : Bool → World → Prop} (h : sh_phosphorlaw19_KeysReplies k word e w K) : c_phosphorlaw19_KeysReplies k word e w K := by
  rw [← vc_phosphorlaw19_KeysReplies] at h
  refine Calls.mono (calls_of_vc C.plain_ok C.mixed Tryd.func3 rfl h) ?_
  rintro e w' ⟨s, rfl, hK⟩
  exact ⟨s.1, rfl, hK⟩

/-- phosphor/phosphorlaw19.KeysBack -/
def sh_phosphorlaw19_KeysBack (k : T_keys_Keys) (w : World) (K : Bool → World → Prop) : Prop :=
  nw ty_keys_Keys (T_keys_Keys.rep.cells k) w fun k_1 w1 =>
  c_phosphorlaw19_known  w1 fun t6 w2 =>
  cond (!t6)
    (K false w2)
    (ldS T_keys_Keys.rep k_1 w2 fun t8 =>
     c_keys_Text t8 w2 fun t9 w3 =>
     ldS T_keys_Keys.rep k_1 w3.drew fun t12 =>
       (runK1 PG (convert ty_sl_uint8 ty_string (.slice t9.a t9.n t9.c)) Kind.string w3.drew fun (t11 : ByteArray) w4 =>
        cellsAt w4 k_1 (T_keys_Keys.rep.cells t12) ∧
        c_phosphorref19_Text t12 w4 fun t13 w5 =>
        cond (!(t11.toList == t13.toList))
          (K false w5)
          (ldS T_keys_Keys.rep k_1 w5 fun t15 =>
           c_phosphorref19_May t15 w5 fun t16 w6 =>
           cond (!t16)
             (K (((t9.n : Nat) : Int) == (0 : Int)) w6)
             (c_keys_Parse t9 w6 fun t23 t23_1 w7 =>
              nw ty_keys_Keys [(.int .u8 0), (.int .u8 0), (.int .u8 0), (.int .u8 0), (.int .i64 0), (.int .i64 0), (.int .i64 0), (.int .i64 0), (.int .i64 0), (.int .i64 0), (.int .i64 0), (.int .i64 0), (.int .i64 0), (.int .i64 0), (.int .i64 0), (.int .i64 0), (.int .i64 0), (.int .i64 0), (.int .i64 0), (.int .i64 0), (.int .i64 0), (.int .i64 0)] w7 fun x w8 =>
              stK x (T_keys_Keys.rep.cells t23) w8 fun w9 =>
              cond (decide (((t9.n : Nat) : Int) > (512 : Int)))
                (K (t23_1 == (5 : Int)) w9)
                (cond (t23_1 == (0 : Int))
                   (ldS T_keys_Keys.rep x w9 fun t34 =>
                    ldS T_keys_Keys.rep k_1 w9 fun t35 =>
                    K ((t34.Action == t35.Action) && ((t34.Medium == t35.Medium) && ((t34.Zip == t35.Zip) && ((t34.What == t35.What) && ((t34.Quiet == t35.Quiet) && ((t34.Format == t35.Format) && ((t34.W == t35.W) && ((t34.H == t35.H) && ((t34.Id == t35.Id) && ((t34.Number == t35.Number) && ((t34.Place == t35.Place) && ((t34.More == t35.More) && ((t34.X == t35.X) && ((t34.Y == t35.Y) && ((t34.PW == t35.PW) && ((t34.PH == t35.PH) && ((t34.DX == t35.DX) && ((t34.DY == t35.DY) && ((t34.Rows == t35.Rows) && ((t34.Cols == t35.Cols) && ((t34.Z == t35.Z) && ((t34.Stay == t35.Stay) && true)))))))))))))))))))))) w9)
                   (K false w9))))) ∧
     c_phosphorref19_Text t12 w3.drew fun t13_1 w10 =>
     runK1 PG (convert ty_sl_uint8 ty_string (.slice t9.a t9.n t9.c)) Kind.string w10 fun (t11_1 : ByteArray) w11 =>
     cellsAt w11 k_1 (T_keys_Keys.rep.cells t12) ∧
     cond (!(t11_1.toList == t13_1.toList))
       (K false w11)
       (ldS T_keys_Keys.rep k_1 w11 fun t15_1 =>
        c_phosphorref19_May t15_1 w11 fun t16_1 w12 =>
        cond (!t16_1)
          (K (((t9.n : Nat) : Int) == (0 : Int)) w12)
          (c_keys_Parse t9 w12 fun t23_2 t23_3 w13 =>
           nw ty_keys_Keys [(.int .u8 0), (.int .u8 0), (.int .u8 0), (.int .u8 0), (.int .i64 0), (.int .i64 0), (.int .i64 0), (.int .i64 0), (.int .i64 0), (.int .i64 0), (.int .i64 0), (.int .i64 0), (.int .i64 0), (.int .i64 0), (.int .i64 0), (.int .i64 0), (.int .i64 0), (.int .i64 0), (.int .i64 0), (.int .i64 0), (.int .i64 0), (.int .i64 0)] w13 fun x_1 w14 =>
           stK x_1 (T_keys_Keys.rep.cells t23_2) w14 fun w15 =>
           cond (decide (((t9.n : Nat) : Int) > (512 : Int)))
             (K (t23_3 == (5 : Int)) w15)
             (cond (t23_3 == (0 : Int))
                (ldS T_keys_Keys.rep x_1 w15 fun t34_1 =>
                 ldS T_keys_Keys.rep k_1 w15 fun t35_1 =>
                 K ((t34_1.Action == t35_1.Action) && ((t34_1.Medium == t35_1.Medium) && ((t34_1.Zip == t35_1.Zip) && ((t34_1.What == t35_1.What) && ((t34_1.Quiet == t35_1.Quiet) && ((t34_1.Format == t35_1.Format) && ((t34_1.W == t35_1.W) && ((t34_1.H == t35_1.H) && ((t34_1.Id == t35_1.Id) && ((t34_1.Number == t35_1.Number) && ((t34_1.Place == t35_1.Place) && ((t34_1.More == t35_1.More) && ((t34_1.X == t35_1.X) && ((t34_1.Y == t35_1.Y) && ((t34_1.PW == t35_1.PW) && ((t34_1.PH == t35_1.PH) && ((t34_1.DX == t35_1.DX) && ((t34_1.DY == t35_1.DY) && ((t34_1.Rows == t35_1.Rows) && ((t34_1.Cols == t35_1.Cols) && ((t34_1.Z == t35_1.Z) && ((t34_1.Stay == t35_1.Stay) && true)))))))))))))))))))))) w15)
                (K false w15)))))

def an_phosphorlaw19_KeysBack : List Ann := [.none, .none, .none, .none, .none, .none, .none, .none, .none, .none, .none, .none, .none, .none, .none, .none]

theorem vc_phosphorlaw19_KeysBack (k : T_keys_Keys) (w : World) (K : Bool → World → Prop) :
    vcFn C (Tryd.f4.body.getD .skip) Tryd.f4.results.toList Tryd.f4.ntmps an_phosphorlaw19_KeysBack [Kind.bool] [(.agg #[(.int .u8 k.Action), (.int .u8 k.Medium), (.int .u8 k.Zip), (.int .u8 k.What), (.int .i64 k.Quiet), (.int .i64 k.Format), (.int .i64 k.W), (.int .i64 k.H), (.int .i64 k.Id), (.int .i64 k.Number), (.int .i64 k.Place), (.int .i64 k.More), (.int .i64 k.X), (.int .i64 k.Y), (.int .i64 k.PW), (.int .i64 k.PH), (.int .i64 k.DX), (.int .i64 k.DY), (.int .i64 k.Rows), (.int .i64 k.Cols), (.int .i64 k.Z), (.int .i64 k.Stay)])] w (fun s w => K s.1 w) = sh_phosphorlaw19_KeysBack k w K := by kernel_rfl

theorem call_phosphorlaw19_KeysBack (k : T_keys_Keys) {w : World} {K : Bool → World → Prop} (h : sh_phosphorlaw19_KeysBack k w K) : c_phosphorlaw19_KeysBack k w K := by
  rw [← vc_phosphorlaw19_KeysBack] at h
  refine Calls.mono (calls_of_vc C.plain_ok C.mixed Tryd.func4 rfl h) ?_
  rintro e w' ⟨s, rfl, hK⟩
  exact ⟨s.1, rfl, hK⟩

/-- phosphor/phosphorlaw19.KeysLast -/
def sh_phosphorlaw19_KeysLast (k : T_keys_Keys) (again : T_keys_Keys) (other : Int) (value : Slc) (w : World) (K : Bool → World → Prop) : Prop :=
  nw ty_keys_Keys (T_keys_Keys.rep.cells k) w fun k_1 w1 =>
  nw ty_keys_Keys (T_keys_Keys.rep.cells again) w1 fun again_1 w2 =>
  c_phosphorlaw19_known  w2 fun t21 w3 =>
  cond (!t21)
    (K false w3)
    (ldS T_keys_Keys.rep k_1 w3 fun t23 =>
     c_keys_Text t23 w3 fun t24 w4 =>
     ldS T_keys_Keys.rep again_1 w4 fun t25 =>
     c_keys_Text t25 w4 fun t26 w5 =>
     joinP (σ := Unit) (fun s w6 =>
       loopP (σ := Slc × Int × Unit) (fun I2 s_1 w7 =>
         cond (decide (s_1.2.1 < ((value.n : Nat) : Int)))
           (ixK value s_1.2.1 1 fun t59 =>
            ldI .u8 t59 w7 fun t60 =>
            cond (t60 != (44 : Int))
              (ixK value s_1.2.1 1 fun t65 =>
               ldI .u8 t65 w7 fun t66 =>
               nw ty_uint8 [(.int .u8 t66)] w7 fun t67 w8 =>
               apK PG #[ty_sl_uint8, ty_sl_uint8] ty_sl_uint8 s_1.1 (⟨(some t67), 1, 1⟩ : Slc) w8 fun t68 w9 =>
               I2 (t68, (IntKind.i64.wrap (s_1.2.1 + (1 : Int))), ()) w9)
              (I2 (s_1.1, (IntKind.i64.wrap (s_1.2.1 + (1 : Int))), ()) w7))
           (((⟨#[98, 99, 101, 103, 106, 107, 108, 110, 117, 65, 66, 68, 69, 70, 71, 72, 74, 75, 76, 77, 78, 79, 80, 81, 82, 83, 84, 85, 86, 87, 90]⟩ : ByteArray).size : Int) ≠ 0 ∧
            ixS (⟨#[98, 99, 101, 103, 106, 107, 108, 110, 117, 65, 66, 68, 69, 70, 71, 72, 74, 75, 76, 77, 78, 79, 80, 81, 82, 83, 84, 85, 86, 87, 90]⟩ : ByteArray) ((IntKind.i64.wrap other).tmod ((⟨#[98, 99, 101, 103, 106, 107, 108, 110, 117, 65, 66, 68, 69, 70, 71, 72, 74, 75, 76, 77, 78, 79, 80, 81, 82, 83, 84, 85, 86, 87, 90]⟩ : ByteArray).size : Int)) fun t75 =>
            joinP (σ := Int × Unit) (fun s_2 w10 =>
              nw ty_uint8 [] w10 fun t79 w11 =>
              apK PG #[ty_sl_uint8, ty_sl_uint8] ty_sl_uint8 (⟨(some t79), 0, 0⟩ : Slc) t24 w11 fun t81 w12 =>
              nw ty_uint8 [(.int .u8 44)] w12 fun t82 w13 =>
              apK PG #[ty_sl_uint8, ty_sl_uint8] ty_sl_uint8 t81 (⟨(some t82), 1, 1⟩ : Slc) w13 fun t83 w14 =>
              apK PG #[ty_sl_uint8, ty_sl_uint8] ty_sl_uint8 t83 t26 w14 fun t85 w15 =>
              c_keys_Parse t85 w15 fun t86 t86_1 w16 =>
              nw ty_keys_Keys [(.int .u8 0), (.int .u8 0), (.int .u8 0), (.int .u8 0), (.int .i64 0), (.int .i64 0), (.int .i64 0), (.int .i64 0), (.int .i64 0), (.int .i64 0), (.int .i64 0), (.int .i64 0), (.int .i64 0), (.int .i64 0), (.int .i64 0), (.int .i64 0), (.int .i64 0), (.int .i64 0), (.int .i64 0), (.int .i64 0), (.int .i64 0), (.int .i64 0)] w16 fun x w17 =>
              stK x (T_keys_Keys.rep.cells t86) w17 fun w18 =>
              nw ty_uint8 [] w18 fun t90 w19 =>
              apK PG #[ty_sl_uint8, ty_sl_uint8] ty_sl_uint8 (⟨(some t90), 0, 0⟩ : Slc) t24 w19 fun t92 w20 =>
              nw ty_uint8 [(.int .u8 44), (.int .u8 s_2.1), (.int .u8 61)] w20 fun t94 w21 =>
              apK PG #[ty_sl_uint8, ty_sl_uint8] ty_sl_uint8 t92 (⟨(some t94), 3, 3⟩ : Slc) w21 fun t95 w22 =>
              apK PG #[ty_sl_uint8, ty_sl_uint8] ty_sl_uint8 t95 s_1.1 w22 fun t97 w23 =>
              nw ty_uint8 [(.int .u8 44)] w23 fun t98 w24 =>
              apK PG #[ty_sl_uint8, ty_sl_uint8] ty_sl_uint8 t97 (⟨(some t98), 1, 1⟩ : Slc) w24 fun t99 w25 =>
              apK PG #[ty_sl_uint8, ty_sl_uint8] ty_sl_uint8 t99 t26 w25 fun t101 w26 =>
              c_keys_Parse t101 w26 fun t102 t102_1 w27 =>
              nw ty_keys_Keys [(.int .u8 0), (.int .u8 0), (.int .u8 0), (.int .u8 0), (.int .i64 0), (.int .i64 0), (.int .i64 0), (.int .i64 0), (.int .i64 0), (.int .i64 0), (.int .i64 0), (.int .i64 0), (.int .i64 0), (.int .i64 0), (.int .i64 0), (.int .i64 0), (.int .i64 0), (.int .i64 0), (.int .i64 0), (.int .i64 0), (.int .i64 0), (.int .i64 0)] w27 fun y w28 =>
              stK y (T_keys_Keys.rep.cells t102) w28 fun w29 =>
              runK1 PG (convert ty_sl_uint8 ty_string (.slice t24.a t24.n t24.c)) Kind.string w29 fun (t107 : ByteArray) w30 =>
              (((t107.size + (⟨#[44]⟩ : ByteArray).size : Nat) : Int) ≤ 9223372036854775807) ∧
              runK1 PG (convert ty_sl_uint8 ty_string (.slice t26.a t26.n t26.c)) Kind.string w30 fun (t110 : ByteArray) w31 =>
              ((((t107 ++ (⟨#[44]⟩ : ByteArray)).size + t110.size : Nat) : Int) ≤ 9223372036854775807) ∧
              runK1 PG (convert ty_string ty_sl_uint8 (.string ((t107 ++ (⟨#[44]⟩ : ByteArray)) ++ t110))) Kind.slice w31 fun (t112 : Slc) w32 =>
              c_phosphorref19_Parse t112 w32 fun t113 t113_1 w33 =>
              nw ty_phosphorref19_Keys [(.int .u8 0), (.int .u8 0), (.int .u8 0), (.int .u8 0), (.int .i64 0), (.int .i64 0), (.int .i64 0), (.int .i64 0), (.int .i64 0), (.int .i64 0), (.int .i64 0), (.int .i64 0), (.int .i64 0), (.int .i64 0), (.int .i64 0), (.int .i64 0), (.int .i64 0), (.int .i64 0), (.int .i64 0), (.int .i64 0), (.int .i64 0), (.int .i64 0)] w33 fun z w34 =>
              stK z (T_keys_Keys.rep.cells t113) w34 fun w35 =>
              cond (t86_1 == t102_1)
                (cond (t86_1 == t113_1)
                   (ldS T_keys_Keys.rep x w35 fun t125 =>
                    ldS T_keys_Keys.rep y w35 fun t126 =>
                    cond ((t125.Action == t126.Action) && ((t125.Medium == t126.Medium) && ((t125.Zip == t126.Zip) && ((t125.What == t126.What) && ((t125.Quiet == t126.Quiet) && ((t125.Format == t126.Format) && ((t125.W == t126.W) && ((t125.H == t126.H) && ((t125.Id == t126.Id) && ((t125.Number == t126.Number) && ((t125.Place == t126.Place) && ((t125.More == t126.More) && ((t125.X == t126.X) && ((t125.Y == t126.Y) && ((t125.PW == t126.PW) && ((t125.PH == t126.PH) && ((t125.DX == t126.DX) && ((t125.DY == t126.DY) && ((t125.Rows == t126.Rows) && ((t125.Cols == t126.Cols) && ((t125.Z == t126.Z) && ((t125.Stay == t126.Stay) && true))))))))))))))))))))))
                      (ldS T_keys_Keys.rep x w35 fun t130 =>
                       ldS T_keys_Keys.rep z w35 fun t131 =>
                       K ((t130.Action == t131.Action) && ((t130.Medium == t131.Medium) && ((t130.Zip == t131.Zip) && ((t130.What == t131.What) && ((t130.Quiet == t131.Quiet) && ((t130.Format == t131.Format) && ((t130.W == t131.W) && ((t130.H == t131.H) && ((t130.Id == t131.Id) && ((t130.Number == t131.Number) && ((t130.Place == t131.Place) && ((t130.More == t131.More) && ((t130.X == t131.X) && ((t130.Y == t131.Y) && ((t130.PW == t131.PW) && ((t130.PH == t131.PH) && ((t130.DX == t131.DX) && ((t130.DY == t131.DY) && ((t130.Rows == t131.Rows) && ((t130.Cols == t131.Cols) && ((t130.Z == t131.Z) && ((t130.Stay == t131.Stay) && true)))))))))))))))))))))) w35)
                      (K false w35))
                   (K false w35))
                (K false w35)) fun J3 =>
            cond (t75 == (99 : Int))
              (J3 (98, ()) w7)
              (J3 (t75, ()) w7))) (⟨none, 0, 0⟩, 0, ()) w6) fun J1 =>
     cond (((t24.n : Nat) : Int) == (0 : Int))
       (K true w5)
       (cond (((t26.n : Nat) : Int) == (0 : Int))
          (K true w5)
          (cond (decide (((value.n : Nat) : Int) > (50 : Int)))
             (K true w5)
             (cond (decide ((IntKind.i64.wrap ((IntKind.i64.wrap (((t24.n : Nat) : Int) + ((t26.n : Nat) : Int))) + ((value.n : Nat) : Int))) > (508 : Int)))
                (K true w5)
                (J1 (()) w5)))))

def an_phosphorlaw19_KeysLast : List Ann := [.none, .none, .none, .none, .none, .none, .join [] [8, 27, 28, 29, 30, 31, 32, 33, 34, 35, 36, 37, 38, 39, 40, 41, 42, 43, 44, 45, 46, 47, 48, 49, 50], .none, .none, .none, .none, .none, .join [(11, Kind.slice), (12, (Kind.int .i64))] [11, 12, 51, 52, 53, 54, 55, 56, 57, 58, 59, 60, 61, 62, 63, 64, 65, 66, 67, 68], .none, .none, .none, .none, .none, .none, .join [(14, (Kind.int .u8))] [14, 76, 77], .none, .none, .none, .none, .none]

theorem vc_phosphorlaw19_KeysLast (k : T_keys_Keys) (again : T_keys_Keys) (other : Int) (value : Slc) (w : World) (K : Bool → World → Prop) :
    vcFn C (Tryd.f5.body.getD .skip) Tryd.f5.results.toList Tryd.f5.ntmps an_phosphorlaw19_KeysLast [Kind.bool] [(.agg #[(.int .u8 k.Action), (.int .u8 k.Medium), (.int .u8 k.Zip), (.int .u8 k.What), (.int .i64 k.Quiet), (.int .i64 k.Format), (.int .i64 k.W), (.int .i64 k.H), (.int .i64 k.Id), (.int .i64 k.Number), (.int .i64 k.Place), (.int .i64 k.More), (.int .i64 k.X), (.int .i64 k.Y), (.int .i64 k.PW), (.int .i64 k.PH), (.int .i64 k.DX), (.int .i64 k.DY), (.int .i64 k.Rows), (.int .i64 k.Cols), (.int .i64 k.Z), (.int .i64 k.Stay)]), (.agg #[(.int .u8 again.Action), (.int .u8 again.Medium), (.int .u8 again.Zip), (.int .u8 again.What), (.int .i64 again.Quiet), (.int .i64 again.Format), (.int .i64 again.W), (.int .i64 again.H), (.int .i64 again.Id), (.int .i64 again.Number), (.int .i64 again.Place), (.int .i64 again.More), (.int .i64 again.X), (.int .i64 again.Y), (.int .i64 again.PW), (.int .i64 again.PH), (.int .i64 again.DX), (.int .i64 again.DY), (.int .i64 again.Rows), (.int .i64 again.Cols), (.int .i64 again.Z), (.int .i64 again.Stay)]), (.int .u8 other), (.slice value.a value.n value.c)] w (fun s w => K s.1 w) = sh_phosphorlaw19_KeysLast k again other value w K := by kernel_rfl

theorem call_phosphorlaw19_KeysLast (k : T_keys_Keys) (again : T_keys_Keys) (other : Int) (value : Slc) {w : World} {K : Bool → World → Prop} (h : sh_phosphorlaw19_KeysLast k again other value w K) : c_phosphorlaw19_KeysLast k again other value w K := by
  rw [← vc_phosphorlaw19_KeysLast] at h
  refine Calls.mono (calls_of_vc C.plain_ok C.mixed Tryd.func5 rfl h) ?_
  rintro e w' ⟨s, rfl, hK⟩
  exact ⟨s.1, rfl, hK⟩

/-- phosphor/phosphorlaw26.ScriptQuotes -/
def sh_phosphorlaw26_ScriptQuotes (b : Slc) (s : ByteArray) (w : World) (K : Bool → World → Prop) : Prop :=
  c_phosphorlaw26_known  w fun t12 w1 =>
  cond (!t12)
    (K false w1)
    (joinP (σ := Unit) (fun s_1 w2 =>
       c_script_Quote b w2 fun t23 w3 =>
       c_script_Unquote t23 w3 fun t26 t26_1 w4 =>
       c_script_Unquote s w4 fun t31 t31_1 w5 =>
       c_phosphorref26_Unquote s w5 fun t36 t36_1 w6 =>
       c_phosphorref26_Quote b w6 fun t41 w7 =>
       cond (t23.toList == t41.toList)
         (cond (t26_1 == (0 : Int))
            (runK1 PG (convert ty_sl_uint8 ty_string (.slice t26.a t26.n t26.c)) Kind.string w7 fun (t49 : ByteArray) w8 =>
             runK1 PG (convert ty_sl_uint8 ty_string (.slice b.a b.n b.c)) Kind.string w8 fun (t51 : ByteArray) w9 =>
             cond (t49.toList == t51.toList)
               (runK1 PG (convert ty_sl_uint8 ty_string (.slice t31.a t31.n t31.c)) Kind.string w9 fun (t56 : ByteArray) w10 =>
                runK1 PG (convert ty_sl_uint8 ty_string (.slice t36.a t36.n t36.c)) Kind.string w10 fun (t58 : ByteArray) w11 =>
                cond (t56.toList == t58.toList)
                  (K (t31_1 == t36_1) w11)
                  (K false w11))
               (K false w9))
            (K false w7))
         (K false w7)) fun J1 =>
     cond (decide (((b.n : Nat) : Int) > (4096 : Int)))
       (K true w1)
       (cond (decide ((s.size : Int) > (4096 : Int)))
          (K true w1)
          (J1 (()) w1)))

def an_phosphorlaw26_ScriptQuotes : List Ann := [.none, .none, .none, .none, .join [] [4, 14, 15, 16, 17, 18, 19, 20, 21], .none, .none, .none, .none, .none, .none, .none]

theorem vc_phosphorlaw26_ScriptQuotes (b : Slc) (s : ByteArray) (w : World) (K : Bool → World → Prop) :
    vcFn C (Tryd.f6.body.getD .skip) Tryd.f6.results.toList Tryd.f6.ntmps an_phosphorlaw26_ScriptQuotes [Kind.bool] [(.slice b.a b.n b.c), (.string s)] w (fun s w => K s.1 w) = sh_phosphorlaw26_ScriptQuotes b s w K := by kernel_rfl

theorem call_phosphorlaw26_ScriptQuotes (b : Slc) (s : ByteArray) {w : World} {K : Bool → World → Prop} (h : sh_phosphorlaw26_ScriptQuotes b s w K) : c_phosphorlaw26_ScriptQuotes b s w K := by
  rw [← vc_phosphorlaw26_ScriptQuotes] at h
  refine Calls.mono (calls_of_vc C.plain_ok C.mixed Tryd.func6 rfl h) ?_
  rintro e w' ⟨s, rfl, hK⟩
  exact ⟨s.1, rfl, hK⟩

/-- phosphor/phosphorlaw26.ScriptCuts -/
def sh_phosphorlaw26_ScriptCuts (sizes : Slc) (l : Slc) (w : World) (K : Bool → World → Prop) : Prop :=
  c_phosphorlaw26_known  w fun t8 w1 =>
  cond (!t8)
    (K false w1)
    (joinP (σ := Unit) (fun s w2 =>
       c_script_Join l w2 fun t19 w3 =>
       c_script_Cut sizes l w3 fun t22 w4 =>
       c_script_Join t22 w4 fun t24 w5 =>
       c_phosphorlaw26_of l w5 fun t27 w6 =>
       c_phosphorref26_Join t27 w6 fun t28 w7 =>
       c_phosphorlaw26_same t19 t28 w7 fun t29 w8 =>
       cond t29
         (c_phosphorlaw26_of l w8 fun t34 w9 =>
          c_phosphorref26_Cut sizes t34 w9 fun t35 w10 =>
          c_phosphorlaw26_same t22 t35 w10 fun t36 w11 =>
          cond t36
            (c_phosphorlaw26_of l w11 fun t41 w12 =>
             c_phosphorref26_Join t41 w12 fun t42 w13 =>
             c_phosphorlaw26_same t24 t42 w13 fun t43 w14 =>
             K t43 w14)
            (K false w11))
         (K false w8)) fun J1 =>
     c_phosphorlaw26_few l w1 fun t11 w15 =>
     cond (!t11)
       (K true w15)
       (cond (decide (((sizes.n : Nat) : Int) > (100 : Int)))
          (K true w15)
          (J1 (()) w15)))

def an_phosphorlaw26_ScriptCuts : List Ann := [.none, .none, .none, .none, .join [] [4, 10, 11, 12, 13, 14, 15, 16, 17], .none, .none, .none, .none, .none, .none]

theorem vc_phosphorlaw26_ScriptCuts (sizes : Slc) (l : Slc) (w : World) (K : Bool → World → Prop) :
    vcFn C (Tryd.f7.body.getD .skip) Tryd.f7.results.toList Tryd.f7.ntmps an_phosphorlaw26_ScriptCuts [Kind.bool] [(.slice sizes.a sizes.n sizes.c), (.slice l.a l.n l.c)] w (fun s w => K s.1 w) = sh_phosphorlaw26_ScriptCuts sizes l w K := by kernel_rfl

theorem call_phosphorlaw26_ScriptCuts (sizes : Slc) (l : Slc) {w : World} {K : Bool → World → Prop} (h : sh_phosphorlaw26_ScriptCuts sizes l w K) : c_phosphorlaw26_ScriptCuts sizes l w K := by
  rw [← vc_phosphorlaw26_ScriptCuts] at h
  refine Calls.mono (calls_of_vc C.plain_ok C.mixed Tryd.func7 rfl h) ?_
  rintro e w' ⟨s, rfl, hK⟩
  exact ⟨s.1, rfl, hK⟩

/-- phosphor/phosphorlaw19.known -/
def sh_phosphorlaw19_known  (w : World) (K : Bool → World → Prop) : Prop :=
  nw ty_uint8 [(.int .u8 97), (.int .u8 61), (.int .u8 84), (.int .u8 44), (.int .u8 102), (.int .u8 61), (.int .u8 49), (.int .u8 48), (.int .u8 48), (.int .u8 44), (.int .u8 122), (.int .u8 61), (.int .u8 45), (.int .u8 53), (.int .u8 44), (.int .u8 105), (.int .u8 61), (.int .u8 51)] w fun t6 w1 =>
  runK1 PG (convert ty_sl_uint8 ty_sl_uint8 (.slice (some t6) 18 18)) Kind.slice w1 fun (t7 : Slc) w2 =>
  c_keys_Parse t7 w2 fun t8 t8_1 w3 =>
  nw ty_keys_Keys [(.int .u8 0), (.int .u8 0), (.int .u8 0), (.int .u8 0), (.int .i64 0), (.int .i64 0), (.int .i64 0), (.int .i64 0), (.int .i64 0), (.int .i64 0), (.int .i64 0), (.int .i64 0), (.int .i64 0), (.int .i64 0), (.int .i64 0), (.int .i64 0), (.int .i64 0), (.int .i64 0), (.int .i64 0), (.int .i64 0), (.int .i64 0), (.int .i64 0)] w3 fun k w4 =>
  stK k (T_keys_Keys.rep.cells t8) w4 fun w5 =>
  nw ty_uint8 [(.int .u8 97), (.int .u8 61), (.int .u8 112), (.int .u8 59), (.int .u8 120), (.int .u8 59), (.int .u8 121)] w5 fun t12 w6 =>
  runK1 PG (convert ty_sl_uint8 ty_sl_uint8 (.slice (some t12) 7 7)) Kind.slice w6 fun (t13 : Slc) w7 =>
  c_keys_Split t13 w7 fun t14 t14_1 w8 =>
  cond (t8_1 == (0 : Int))
    (ldI .u8 (k.add 0) w8 fun t21 =>
     cond (t21 == (84 : Int))
       (ldI .i64 (k.add 5) w8 fun t26 =>
        cond (t26 == (100 : Int))
          (ldI .i64 (k.add 20) w8 fun t31 =>
           cond (t31 == ((-5) : Int))
             (ldI .i64 (k.add 8) w8 fun t36 =>
              cond (t36 == (3 : Int))
                (ldI .u8 (k.add 1) w8 fun t41 =>
                 cond (t41 == (100 : Int))
                   (runK1 PG (convert ty_sl_uint8 ty_string (.slice t14.a t14.n t14.c)) Kind.string w8 fun (t46 : ByteArray) w9 =>
                    cond (t46.toList == (⟨#[97, 61, 112]⟩ : ByteArray).toList)
                      (runK1 PG (convert ty_sl_uint8 ty_string (.slice t14_1.a t14_1.n t14_1.c)) Kind.string w9 fun (t51 : ByteArray) w10 =>
                       cond (t51.toList == (⟨#[120, 59, 121]⟩ : ByteArray).toList)
                         (ldS T_keys_Keys.rep k w10 fun t55 =>
                          c_keys_Reply t55 (⟨#[79, 75]⟩ : ByteArray) w10 fun t56 w11 =>
                          runK1 PG (convert ty_sl_uint8 ty_string (.slice t56.a t56.n t56.c)) Kind.string w11 fun (t57 : ByteArray) w12 =>
                          K (t57.toList == (⟨#[27, 95, 71, 105, 61, 51, 59, 79, 75, 27, 92]⟩ : ByteArray).toList) w12)
                         (K false w10))
                      (K false w9))
                   (K false w8))
                (K false w8))
             (K false w8))
          (K false w8))
       (K false w8))
    (K false w8)

def an_phosphorlaw19_known : List Ann := [.none, .none, .none, .none]

theorem vc_phosphorlaw19_known  (w : World) (K : Bool → World → Prop) :
    vcFn C (Tryd.f8.body.getD .skip) Tryd.f8.results.toList Tryd.f8.ntmps an_phosphorlaw19_known [Kind.bool] [] w (fun s w => K s.1 w) = sh_phosphorlaw19_known  w K := by kernel_rfl

theorem call_phosphorlaw19_known  {w : World} {K : Bool → World → Prop} (h : sh_phosphorlaw19_known  w K) : c_phosphorlaw19_known  w K := by
  rw [← vc_phosphorlaw19_known] at h
  refine Calls.mono (calls_of_vc C.plain_ok C.mixed Tryd.func8 rfl h) ?_
  rintro e w' ⟨s, rfl, hK⟩
  exact ⟨s.1, rfl, hK⟩

/-- phosphor/keys.Reply -/
def sh_keys_Reply (k : T_keys_Keys) (word : ByteArray) (w : World) (K : Slc → World → Prop) : Prop :=
  nw ty_keys_Keys (T_keys_Keys.rep.cells k) w fun k_1 w1 =>
  ldI .i64 (k_1.add 4) w1 fun t10 =>
  joinP (σ := Unit) (fun s w2 =>
    ldI .i64 (k_1.add 8) w2 fun t45 =>
    ldI .i64 (k_1.add 9) w2 fun t48 =>
    ldI .i64 (k_1.add 10) w2 fun t51 =>
    nw ty_struct_key_string_n_int [(.string (⟨#[105, 61]⟩ : ByteArray)), (.int .i64 t45), (.string (⟨#[73, 61]⟩ : ByteArray)), (.int .i64 t48), (.string (⟨#[112, 61]⟩ : ByteArray)), (.int .i64 t51)] w2 fun t53 w3 =>
    loopP (σ := Slc × Int × Unit) (fun I2 s_1 w4 =>
      cond (decide (s_1.2.1 < ((3 : Nat) : Int)))
        ((0 ≤ s_1.2.1 ∧ s_1.2.1 < (3 : Nat)) ∧
         ldS T_struct_key_string_n_int.rep (t53.add ((s_1.2.1 : Int).toNat * 2)) w4 fun t58 =>
         nw ty_struct_key_string_n_int [(.string (⟨#[]⟩ : ByteArray)), (.int .i64 0)] w4 fun x w5 =>
         stK x (T_struct_key_string_n_int.rep.cells t58) w5 fun w6 =>
         ldI .i64 (x.add 1) w6 fun t60 =>
         cond (t60 != (0 : Int))
           (ldStr (x.add 0) w6.drew fun t64 =>
            ldI .i64 (x.add 1) w6.drew fun t66 =>
            c_strconv_Itoa t66 w6.drew fun t67 w7 =>
            World.cell? w7 (x.add 0) = some (.string t64) ∧
            (((t64.size + t67.size : Nat) : Int) ≤ 9223372036854775807) ∧
            nw ty_string [(.string (t64 ++ t67))] w7 fun t69 w8 =>
            apK PG #[ty_sl_string, ty_sl_string] ty_sl_string s_1.1 (⟨(some t69), 1, 1⟩ : Slc) w8 fun t70 w9 =>
            I2 (t70, (IntKind.i64.wrap (s_1.2.1 + (1 : Int))), ()) w9)
           (I2 (s_1.1, (IntKind.i64.wrap (s_1.2.1 + (1 : Int))), ()) w6))
        (c_strings_Join s_1.1 (⟨#[44]⟩ : ByteArray) w4 fun t73 w10 =>
         ((((⟨#[27, 95, 71]⟩ : ByteArray).size + t73.size : Nat) : Int) ≤ 9223372036854775807) ∧
         (((((⟨#[27, 95, 71]⟩ : ByteArray) ++ t73).size + (⟨#[59]⟩ : ByteArray).size : Nat) : Int) ≤ 9223372036854775807) ∧
         ((((((⟨#[27, 95, 71]⟩ : ByteArray) ++ t73) ++ (⟨#[59]⟩ : ByteArray)).size + word.size : Nat) : Int) ≤ 9223372036854775807) ∧
         (((((((⟨#[27, 95, 71]⟩ : ByteArray) ++ t73) ++ (⟨#[59]⟩ : ByteArray)) ++ word).size + (⟨#[27, 92]⟩ : ByteArray).size : Nat) : Int) ≤ 9223372036854775807) ∧
         runK1 PG (convert ty_string ty_sl_uint8 (.string (((((⟨#[27, 95, 71]⟩ : ByteArray) ++ t73) ++ (⟨#[59]⟩ : ByteArray)) ++ word) ++ (⟨#[27, 92]⟩ : ByteArray)))) Kind.slice w10 fun (t79 : Slc) w11 =>
         K t79 w11)) (⟨none, 0, 0⟩, 0, ()) w3) fun J1 =>
  joinP (σ := Int × Unit) (fun s_2 w12 =>
    cond (decide (s_2.1 ≥ (1 : Int)))
      (K (⟨none, 0, 0⟩ : Slc) w12)
      (J1 (()) w12)) fun J3 =>
  joinP (σ := Unit) (fun s_3 w13 =>
    cond (t10 == (1 : Int))
      (cond (!(word.toList == (⟨#[79, 75]⟩ : ByteArray).toList))
         (J3 (0, ()) w13)
         (J3 (t10, ()) w13))
      (J3 (t10, ()) w13)) fun J4 =>
  ldI .i64 (k_1.add 8) w1 fun t13 =>
  cond (t13 == (0 : Int))
    (ldI .i64 (k_1.add 9) w1 fun t17 =>
     cond (t17 == (0 : Int))
       (K (⟨none, 0, 0⟩ : Slc) w1)
       (ldI .i64 (k_1.add 8) w1 fun t22 =>
        cond (decide (t22 < (0 : Int)))
          (K (⟨none, 0, 0⟩ : Slc) w1)
          (ldI .i64 (k_1.add 9) w1 fun t27 =>
           cond (decide (t27 < (0 : Int)))
             (K (⟨none, 0, 0⟩ : Slc) w1)
             (ldI .i64 (k_1.add 10) w1 fun t32 =>
              cond (decide (t32 < (0 : Int)))
                (K (⟨none, 0, 0⟩ : Slc) w1)
                (J4 (()) w1)))))
    (ldI .i64 (k_1.add 8) w1 fun t22_1 =>
     cond (decide (t22_1 < (0 : Int)))
       (K (⟨none, 0, 0⟩ : Slc) w1)
       (ldI .i64 (k_1.add 9) w1 fun t27_1 =>
        cond (decide (t27_1 < (0 : Int)))
          (K (⟨none, 0, 0⟩ : Slc) w1)
          (ldI .i64 (k_1.add 10) w1 fun t32_1 =>
           cond (decide (t32_1 < (0 : Int)))
             (K (⟨none, 0, 0⟩ : Slc) w1)
             (J4 (()) w1))))

def an_keys_Reply : List Ann := [.none, .none, .join [] [4, 5, 11, 12, 13, 14, 15, 16, 17, 18, 19, 20, 21, 22, 23, 24, 25, 26, 27, 28, 29, 30, 31, 32, 33, 34, 35, 36, 37, 38, 39, 40, 41, 42, 43], .join [(5, (Kind.int .i64))] [4, 5, 11, 12, 13, 14, 15, 16, 17, 18, 19, 20, 21, 22, 23, 24, 25, 26, 27, 28, 29, 30, 31, 32, 33, 34, 35, 36, 37, 38, 39, 40, 41], .none, .none, .none, .join [] [11, 12, 13, 14, 15, 16, 17, 18, 19, 20, 21, 22, 23, 24, 25, 26, 27, 28, 29, 30, 31, 32, 33, 34], .none, .none, .none, .none, .none, .none, .none, .none, .none, .none, .join [(6, Kind.slice), (55, (Kind.int .i64))] [6, 8, 55, 56, 57, 58, 59, 60, 61, 62, 63, 64, 65, 66, 67, 68, 69, 70, 71], .none, .none, .none, .none, .none, .none]

theorem vc_keys_Reply (k : T_keys_Keys) (word : ByteArray) (w : World) (K : Slc → World → Prop) :
    vcFn C (Tryd.f9.body.getD .skip) Tryd.f9.results.toList Tryd.f9.ntmps an_keys_Reply [Kind.slice] [(.agg #[(.int .u8 k.Action), (.int .u8 k.Medium), (.int .u8 k.Zip), (.int .u8 k.What), (.int .i64 k.Quiet), (.int .i64 k.Format), (.int .i64 k.W), (.int .i64 k.H), (.int .i64 k.Id), (.int .i64 k.Number), (.int .i64 k.Place), (.int .i64 k.More), (.int .i64 k.X), (.int .i64 k.Y), (.int .i64 k.PW), (.int .i64 k.PH), (.int .i64 k.DX), (.int .i64 k.DY), (.int .i64 k.Rows), (.int .i64 k.Cols), (.int .i64 k.Z), (.int .i64 k.Stay)]), (.string word)] w (fun s w => K s.1 w) = sh_keys_Reply k word w K := by kernel_rfl

theorem call_keys_Reply (k : T_keys_Keys) (word : ByteArray) {w : World} {K : Slc → World → Prop} (h : sh_keys_Reply k word w K) : c_keys_Reply k word w K := by
  rw [← vc_keys_Reply] at h
  refine Calls.mono (calls_of_vc C.plain_ok C.mixed Tryd.func9 rfl h) ?_
  rintro e w' ⟨s, rfl, hK⟩
  exact ⟨s.1, rfl, hK⟩

/-- phosphor/phosphorref19.Reply -/
def sh_phosphorref19_Reply (k : T_keys_Keys) (word : ByteArray) (w : World) (K : ByteArray → World → Prop) : Prop :=
  nw ty_phosphorref19_Keys (T_keys_Keys.rep.cells k) w fun k_1 w1 =>
  joinP (σ := Unit) (fun s w2 =>
    joinP (σ := ByteArray × Unit) (fun s_1 w3 =>
      joinP (σ := ByteArray × Unit) (fun s_2 w4 =>
        joinP (σ := ByteArray × Unit) (fun s_3 w5 =>
          slS s_3.1 (some 1) none fun t71 =>
          ((((⟨#[27, 95, 71]⟩ : ByteArray).size + t71.size : Nat) : Int) ≤ 9223372036854775807) ∧
          (((((⟨#[27, 95, 71]⟩ : ByteArray) ++ t71).size + (⟨#[59]⟩ : ByteArray).size : Nat) : Int) ≤ 9223372036854775807) ∧
          ((((((⟨#[27, 95, 71]⟩ : ByteArray) ++ t71) ++ (⟨#[59]⟩ : ByteArray)).size + word.size : Nat) : Int) ≤ 9223372036854775807) ∧
          (((((((⟨#[27, 95, 71]⟩ : ByteArray) ++ t71) ++ (⟨#[59]⟩ : ByteArray)) ++ word).size + (⟨#[27, 92]⟩ : ByteArray).size : Nat) : Int) ≤ 9223372036854775807) ∧
          K (((((⟨#[27, 95, 71]⟩ : ByteArray) ++ t71) ++ (⟨#[59]⟩ : ByteArray)) ++ word) ++ (⟨#[27, 92]⟩ : ByteArray)) w5) fun J4 =>
        ldI .i64 (k_1.add 10) w4 fun t62 =>
        cond (t62 != (0 : Int))
          ((((s_2.1.size + (⟨#[44, 112, 61]⟩ : ByteArray).size : Nat) : Int) ≤ 9223372036854775807) ∧
           ldI .i64 (k_1.add 10) w4 fun t67 =>
           c_phosphorref19_decimal t67 w4 fun t68 w6 =>
           ((((s_2.1 ++ (⟨#[44, 112, 61]⟩ : ByteArray)).size + t68.size : Nat) : Int) ≤ 9223372036854775807) ∧
           J4 (((s_2.1 ++ (⟨#[44, 112, 61]⟩ : ByteArray)) ++ t68), ()) w6)
          (J4 (s_2.1, ()) w4)) fun J3 =>
      ldI .i64 (k_1.add 9) w3 fun t53 =>
      cond (t53 != (0 : Int))
        ((((s_1.1.size + (⟨#[44, 73, 61]⟩ : ByteArray).size : Nat) : Int) ≤ 9223372036854775807) ∧
         ldI .i64 (k_1.add 9) w3 fun t58 =>
         c_phosphorref19_decimal t58 w3 fun t59 w7 =>
         ((((s_1.1 ++ (⟨#[44, 73, 61]⟩ : ByteArray)).size + t59.size : Nat) : Int) ≤ 9223372036854775807) ∧
         J3 (((s_1.1 ++ (⟨#[44, 73, 61]⟩ : ByteArray)) ++ t59), ()) w7)
        (J3 (s_1.1, ()) w3)) fun J2 =>
    ldI .i64 (k_1.add 8) w2 fun t44 =>
    cond (t44 != (0 : Int))
      (((((⟨#[]⟩ : ByteArray).size + (⟨#[44, 105, 61]⟩ : ByteArray).size : Nat) : Int) ≤ 9223372036854775807) ∧
       ldI .i64 (k_1.add 8) w2 fun t49 =>
       c_phosphorref19_decimal t49 w2 fun t50 w8 =>
       (((((⟨#[]⟩ : ByteArray) ++ (⟨#[44, 105, 61]⟩ : ByteArray)).size + t50.size : Nat) : Int) ≤ 9223372036854775807) ∧
       J2 ((((⟨#[]⟩ : ByteArray) ++ (⟨#[44, 105, 61]⟩ : ByteArray)) ++ t50), ()) w8)
      (J2 ((⟨#[]⟩ : ByteArray), ()) w2)) fun J1 =>
  ldI .i64 (k_1.add 8) w1 fun t7 =>
  cond (t7 == (0 : Int))
    (ldI .i64 (k_1.add 9) w1 fun t11 =>
     cond (t11 == (0 : Int))
       (K (⟨#[]⟩ : ByteArray) w1)
       (ldI .i64 (k_1.add 4) w1 fun t16 =>
        cond (t16 == (1 : Int))
          (cond (word.toList == (⟨#[79, 75]⟩ : ByteArray).toList)
             (K (⟨#[]⟩ : ByteArray) w1)
             (ldI .i64 (k_1.add 4) w1 fun t25 =>
              cond (decide (t25 ≥ (2 : Int)))
                (K (⟨#[]⟩ : ByteArray) w1)
                (ldI .i64 (k_1.add 8) w1 fun t30 =>
                 cond (decide (t30 < (0 : Int)))
                   (K (⟨#[]⟩ : ByteArray) w1)
                   (ldI .i64 (k_1.add 9) w1 fun t35 =>
                    cond (decide (t35 < (0 : Int)))
                      (K (⟨#[]⟩ : ByteArray) w1)
                      (ldI .i64 (k_1.add 10) w1 fun t40 =>
                       cond (decide (t40 < (0 : Int)))
                         (K (⟨#[]⟩ : ByteArray) w1)
                         (J1 (()) w1))))))
          (ldI .i64 (k_1.add 4) w1 fun t25_1 =>
           cond (decide (t25_1 ≥ (2 : Int)))
             (K (⟨#[]⟩ : ByteArray) w1)
             (ldI .i64 (k_1.add 8) w1 fun t30_1 =>
              cond (decide (t30_1 < (0 : Int)))
                (K (⟨#[]⟩ : ByteArray) w1)
                (ldI .i64 (k_1.add 9) w1 fun t35_1 =>
                 cond (decide (t35_1 < (0 : Int)))
                   (K (⟨#[]⟩ : ByteArray) w1)
                   (ldI .i64 (k_1.add 10) w1 fun t40_1 =>
                    cond (decide (t40_1 < (0 : Int)))
                      (K (⟨#[]⟩ : ByteArray) w1)
                      (J1 (()) w1)))))))
    (ldI .i64 (k_1.add 4) w1 fun t16_1 =>
     cond (t16_1 == (1 : Int))
       (cond (word.toList == (⟨#[79, 75]⟩ : ByteArray).toList)
          (K (⟨#[]⟩ : ByteArray) w1)
          (ldI .i64 (k_1.add 4) w1 fun t25_2 =>
           cond (decide (t25_2 ≥ (2 : Int)))
             (K (⟨#[]⟩ : ByteArray) w1)
             (ldI .i64 (k_1.add 8) w1 fun t30_2 =>
              cond (decide (t30_2 < (0 : Int)))
                (K (⟨#[]⟩ : ByteArray) w1)
                (ldI .i64 (k_1.add 9) w1 fun t35_2 =>
                 cond (decide (t35_2 < (0 : Int)))
                   (K (⟨#[]⟩ : ByteArray) w1)
                   (ldI .i64 (k_1.add 10) w1 fun t40_2 =>
                    cond (decide (t40_2 < (0 : Int)))
                      (K (⟨#[]⟩ : ByteArray) w1)
                      (J1 (()) w1))))))
       (ldI .i64 (k_1.add 4) w1 fun t25_3 =>
        cond (decide (t25_3 ≥ (2 : Int)))
          (K (⟨#[]⟩ : ByteArray) w1)
          (ldI .i64 (k_1.add 8) w1 fun t30_3 =>
           cond (decide (t30_3 < (0 : Int)))
             (K (⟨#[]⟩ : ByteArray) w1)
             (ldI .i64 (k_1.add 9) w1 fun t35_3 =>
              cond (decide (t35_3 < (0 : Int)))
                (K (⟨#[]⟩ : ByteArray) w1)
                (ldI .i64 (k_1.add 10) w1 fun t40_3 =>
                 cond (decide (t40_3 < (0 : Int)))
                   (K (⟨#[]⟩ : ByteArray) w1)
                   (J1 (()) w1))))))

def an_phosphorref19_Reply : List Ann := [.none, .join [] [4, 6, 7, 8, 9, 10, 11, 12, 13, 14, 15, 16, 17, 18, 19, 20, 21, 22, 23, 24, 25, 26, 27, 28, 29, 30, 31, 32, 33, 34, 35, 36, 37, 38, 39, 40, 41, 42], .none, .none, .none, .join [(5, Kind.string)] [5, 43, 44, 45, 46, 47, 48, 49, 50, 51], .none, .join [(5, Kind.string)] [5, 52, 53, 54, 55, 56, 57, 58, 59, 60], .none, .join [(5, Kind.string)] [5, 61, 62, 63, 64, 65, 66, 67, 68, 69], .none, .none]

theorem vc_phosphorref19_Reply (k : T_keys_Keys) (word : ByteArray) (w : World) (K : ByteArray → World → Prop) :
    vcFn C (Tryd.f10.body.getD .skip) Tryd.f10.results.toList Tryd.f10.ntmps an_phosphorref19_Reply [Kind.string] [(.agg #[(.int .u8 k.Action), (.int .u8 k.Medium), (.int .u8 k.Zip), (.int .u8 k.What), (.int .i64 k.Quiet), (.int .i64 k.Format), (.int .i64 k.W), (.int .i64 k.H), (.int .i64 k.Id), (.int .i64 k.Number), (.int .i64 k.Place), (.int .i64 k.More), (.int .i64 k.X), (.int .i64 k.Y), (.int .i64 k.PW), (.int .i64 k.PH), (.int .i64 k.DX), (.int .i64 k.DY), (.int .i64 k.Rows), (.int .i64 k.Cols), (.int .i64 k.Z), (.int .i64 k.Stay)]), (.string word)] w (fun s w => K s.1 w) = sh_phosphorref19_Reply k word w K := by kernel_rfl

theorem call_phosphorref19_Reply (k : T_keys_Keys) (word : ByteArray) {w : World} {K : ByteArray → World → Prop} (h : sh_phosphorref19_Reply k word w K) : c_phosphorref19_Reply k word w K := by
  rw [← vc_phosphorref19_Reply] at h
  refine Calls.mono (calls_of_vc C.plain_ok C.mixed Tryd.func10 rfl h) ?_
  rintro e w' ⟨s, rfl, hK⟩
  exact ⟨s.1, rfl, hK⟩

/-- phosphor/keys.Code -/
def sh_keys_Code (e : Int) (w : World) (K : ByteArray → World → Prop) : Prop :=
  cond (e == (0 : Int))
    (K (⟨#[79, 75]⟩ : ByteArray) w)
    (cond (e == (6 : Int))
       (K (⟨#[69, 78, 79, 83, 80, 67]⟩ : ByteArray) w)
       (cond (e == (7 : Int))
          (K (⟨#[69, 78, 79, 69, 78, 84]⟩ : ByteArray) w)
          (K (⟨#[69, 73, 78, 86, 65, 76]⟩ : ByteArray) w)))

def an_keys_Code : List Ann := [.none, .none, .none, .none, .none, .none, .none, .none, .none, .none]

theorem vc_keys_Code (e : Int) (w : World) (K : ByteArray → World → Prop) :
    vcFn C (Tryd.f11.body.getD .skip) Tryd.f11.results.toList Tryd.f11.ntmps an_keys_Code [Kind.string] [(.int .i64 e)] w (fun s w => K s.1 w) = sh_keys_Code e w K := by kernel_rfl

theorem call_keys_Code (e : Int) {w : World} {K : ByteArray → World → Prop} (h : sh_keys_Code e w K) : c_keys_Code e w K := by
  rw [← vc_keys_Code] at h
  refine Calls.mono (calls_of_vc C.plain_ok C.mixed Tryd.func11 rfl h) ?_
  rintro e w' ⟨s, rfl, hK⟩
  exact ⟨s.1, rfl, hK⟩

/-- phosphor/phosphorref19.Code -/
def sh_phosphorref19_Code (e : Int) (w : World) (K : ByteArray → World → Prop) : Prop :=
  cond (e == (0 : Int))
    (K (⟨#[79, 75]⟩ : ByteArray) w)
    (cond (e == (6 : Int))
       (K (⟨#[69, 78, 79, 83, 80, 67]⟩ : ByteArray) w)
       (cond (e == (7 : Int))
          (K (⟨#[69, 78, 79, 69, 78, 84]⟩ : ByteArray) w)
          (K (⟨#[69, 73, 78, 86, 65, 76]⟩ : ByteArray) w)))

def an_phosphorref19_Code : List Ann := [.none, .none, .none, .none, .none, .none, .none, .none, .none, .none]

theorem vc_phosphorref19_Code (e : Int) (w : World) (K : ByteArray → World → Prop) :
    vcFn C (Tryd.f12.body.getD .skip) Tryd.f12.results.toList Tryd.f12.ntmps an_phosphorref19_Code [Kind.string] [(.int .i64 e)] w (fun s w => K s.1 w) = sh_phosphorref19_Code e w K := by kernel_rfl

theorem call_phosphorref19_Code (e : Int) {w : World} {K : ByteArray → World → Prop} (h : sh_phosphorref19_Code e w K) : c_phosphorref19_Code e w K := by
  rw [← vc_phosphorref19_Code] at h
  refine Calls.mono (calls_of_vc C.plain_ok C.mixed Tryd.func12 rfl h) ?_
  rintro e w' ⟨s, rfl, hK⟩
  exact ⟨s.1, rfl, hK⟩

/-- phosphor/keys.First -/
def sh_keys_First  (w : World) (K : T_keys_Keys → World → Prop) : Prop :=
  nw ty_keys_Keys [(.int .u8 0), (.int .u8 0), (.int .u8 0), (.int .u8 0), (.int .i64 0), (.int .i64 0), (.int .i64 0), (.int .i64 0), (.int .i64 0), (.int .i64 0), (.int .i64 0), (.int .i64 0), (.int .i64 0), (.int .i64 0), (.int .i64 0), (.int .i64 0), (.int .i64 0), (.int .i64 0), (.int .i64 0), (.int .i64 0), (.int .i64 0), (.int .i64 0)] w fun t0 w1 =>
  stK t0 [(.int .u8 116), (.int .u8 100), (.int .u8 0), (.int .u8 97), (.int .i64 0), (.int .i64 32), (.int .i64 0), (.int .i64 0), (.int .i64 0), (.int .i64 0), (.int .i64 0), (.int .i64 0), (.int .i64 0), (.int .i64 0), (.int .i64 0), (.int .i64 0), (.int .i64 0), (.int .i64 0), (.int .i64 0), (.int .i64 0), (.int .i64 0), (.int .i64 0)] w1 fun w2 =>
  ldS T_keys_Keys.rep t0 w2 fun r =>
  K r w2

def an_keys_First : List Ann := [.none, .none]

theorem vc_keys_First  (w : World) (K : T_keys_Keys → World → Prop) :
    vcFn C (Tryd.f13.body.getD .skip) Tryd.f13.results.toList Tryd.f13.ntmps an_keys_First [(Kind.struct T_keys_Keys.rep)] [] w (fun s w => K s.1 w) = sh_keys_First  w K := by kernel_rfl

theorem call_keys_First  {w : World} {K : T_keys_Keys → World → Prop} (h : sh_keys_First  w K) : c_keys_First  w K := by
  rw [← vc_keys_First] at h
  refine Calls.mono (calls_of_vc C.plain_ok C.mixed Tryd.func13 rfl h) ?_
  rintro e w' ⟨s, rfl, hK⟩
  exact ⟨s.1, rfl, hK⟩

/-- phosphor/phosphorref19.First -/
def sh_phosphorref19_First  (w : World) (K : T_keys_Keys → World → Prop) : Prop :=
  nw ty_phosphorref19_Keys [(.int .u8 0), (.int .u8 0), (.int .u8 0), (.int .u8 0), (.int .i64 0), (.int .i64 0), (.int .i64 0), (.int .i64 0), (.int .i64 0), (.int .i64 0), (.int .i64 0), (.int .i64 0), (.int .i64 0), (.int .i64 0), (.int .i64 0), (.int .i64 0), (.int .i64 0), (.int .i64 0), (.int .i64 0), (.int .i64 0), (.int .i64 0), (.int .i64 0)] w fun t0 w1 =>
  stK t0 [(.int .u8 116), (.int .u8 100), (.int .u8 0), (.int .u8 97), (.int .i64 0), (.int .i64 32), (.int .i64 0), (.int .i64 0), (.int .i64 0), (.int .i64 0), (.int .i64 0), (.int .i64 0), (.int .i64 0), (.int .i64 0), (.int .i64 0), (.int .i64 0), (.int .i64 0), (.int .i64 0), (.int .i64 0), (.int .i64 0), (.int .i64 0), (.int .i64 0)] w1 fun w2 =>
  ldS T_keys_Keys.rep t0 w2 fun r =>
  K r w2

def an_phosphorref19_First : List Ann := [.none, .none]

theorem vc_phosphorref19_First  (w : World) (K : T_keys_Keys → World → Prop) :
    vcFn C (Tryd.f14.body.getD .skip) Tryd.f14.results.toList Tryd.f14.ntmps an_phosphorref19_First [(Kind.struct T_keys_Keys.rep)] [] w (fun s w => K s.1 w) = sh_phosphorref19_First  w K := by kernel_rfl

theorem call_phosphorref19_First  {w : World} {K : T_keys_Keys → World → Prop} (h : sh_phosphorref19_First  w K) : c_phosphorref19_First  w K := by
  rw [← vc_phosphorref19_First] at h
  refine Calls.mono (calls_of_vc C.plain_ok C.mixed Tryd.func14 rfl h) ?_
  rintro e w' ⟨s, rfl, hK⟩
  exact ⟨s.1, rfl, hK⟩

/-- phosphor/keys.Text -/
def sh_keys_Text (k : T_keys_Keys) (w : World) (K : Slc → World → Prop) : Prop :=
  nw ty_keys_Keys (T_keys_Keys.rep.cells k) w fun k_1 w1 =>
  c_keys_First  w1 fun t9 w2 =>
  nw ty_keys_Keys [(.int .u8 0), (.int .u8 0), (.int .u8 0), (.int .u8 0), (.int .i64 0), (.int .i64 0), (.int .i64 0), (.int .i64 0), (.int .i64 0), (.int .i64 0), (.int .i64 0), (.int .i64 0), (.int .i64 0), (.int .i64 0), (.int .i64 0), (.int .i64 0), (.int .i64 0), (.int .i64 0), (.int .i64 0), (.int .i64 0), (.int .i64 0), (.int .i64 0)] w2 fun first w3 =>
  stK first (T_keys_Keys.rep.cells t9) w3 fun w4 =>
  joinP (σ := Unit) (fun s w5 =>
    loopP (σ := Slc × Int × Unit) (fun I2 s_1 w6 =>
      cond (decide (s_1.2.1 < (4 : Int)))
        (ixS (⟨#[97, 116, 111, 100]⟩ : ByteArray) s_1.2.1 fun t22 =>
         c_keys_Keys_sign (some k_1) t22 w6 fun t23 w7 =>
         onPtr t23 fun t24 =>
         ldI .u8 t24 w7 fun t25 =>
         ixS (⟨#[97, 116, 111, 100]⟩ : ByteArray) s_1.2.1 fun t28 =>
         c_keys_Keys_sign (some first) t28 w7 fun t29 w8 =>
         onPtr t29 fun t30 =>
         ldI .u8 t30 w8 fun t31 =>
         cond (t25 != t31)
           (slS (⟨#[97, 116, 111, 100]⟩ : ByteArray) (some s_1.2.1) (some (IntKind.i64.wrap (s_1.2.1 + (1 : Int)))) fun t37 =>
            (((t37.size + (⟨#[61]⟩ : ByteArray).size : Nat) : Int) ≤ 9223372036854775807) ∧
            runK1 PG (convert ty_int32 ty_string (.int .i32 (IntKind.i32.wrap t25))) Kind.string w8 fun (t41 : ByteArray) w9 =>
            ((((t37 ++ (⟨#[61]⟩ : ByteArray)).size + t41.size : Nat) : Int) ≤ 9223372036854775807) ∧
            nw ty_string [(.string ((t37 ++ (⟨#[61]⟩ : ByteArray)) ++ t41))] w9 fun t43 w10 =>
            apK PG #[ty_sl_string, ty_sl_string] ty_sl_string s_1.1 (⟨(some t43), 1, 1⟩ : Slc) w10 fun t44 w11 =>
            I2 (t44, (IntKind.i64.wrap (s_1.2.1 + (1 : Int))), ()) w11)
           (I2 (s_1.1, (IntKind.i64.wrap (s_1.2.1 + (1 : Int))), ()) w8))
        (loopP (σ := Slc × Int × Unit) (fun I3 s_2 w12 =>
           cond (decide (s_2.2.1 < (17 : Int)))
             (joinP (σ := Slc × Unit) (fun s_3 w13 =>
                ixS (⟨#[113, 102, 115, 118, 105, 73, 112, 109, 120, 121, 119, 104, 88, 89, 114, 99, 67]⟩ : ByteArray) s_2.2.1 fun t64 =>
                c_keys_Keys_number (some k_1) t64 w13 fun t65 w14 =>
                onPtr t65 fun t66 =>
                ldI .i64 t66 w14 fun t67 =>
                ixS (⟨#[113, 102, 115, 118, 105, 73, 112, 109, 120, 121, 119, 104, 88, 89, 114, 99, 67]⟩ : ByteArray) s_2.2.1 fun t70 =>
                c_keys_Keys_number (some first) t70 w14 fun t71 w15 =>
                onPtr t71 fun t72 =>
                ldI .i64 t72 w15 fun t73 =>
                cond (t67 != t73)
                  (slS (⟨#[113, 102, 115, 118, 105, 73, 112, 109, 120, 121, 119, 104, 88, 89, 114, 99, 67]⟩ : ByteArray) (some s_2.2.1) (some (IntKind.i64.wrap (s_2.2.1 + (1 : Int)))) fun t79 =>
                   (((t79.size + (⟨#[61]⟩ : ByteArray).size : Nat) : Int) ≤ 9223372036854775807) ∧
                   c_strconv_Itoa t67 w15.drew fun t82 w16 =>
                   ((((t79 ++ (⟨#[61]⟩ : ByteArray)).size + t82.size : Nat) : Int) ≤ 9223372036854775807) ∧
                   nw ty_string [(.string ((t79 ++ (⟨#[61]⟩ : ByteArray)) ++ t82))] w16 fun t84 w17 =>
                   apK PG #[ty_sl_string, ty_sl_string] ty_sl_string s_3.1 (⟨(some t84), 1, 1⟩ : Slc) w17 fun t85 w18 =>
                   I3 (t85, (IntKind.i64.wrap (s_2.2.1 + (1 : Int))), ()) w18)
                  (I3 (s_3.1, (IntKind.i64.wrap (s_2.2.1 + (1 : Int))), ()) w15)) fun J4 =>
              joinP (σ := Bool × Unit) (fun s_4 w19 =>
                cond s_4.1
                  (ldI .i64 (k_1.add 20) w19 fun t58 =>
                   c_strconv_Itoa t58 w19 fun t59 w20 =>
                   ((((⟨#[122, 61]⟩ : ByteArray).size + t59.size : Nat) : Int) ≤ 9223372036854775807) ∧
                   nw ty_string [(.string ((⟨#[122, 61]⟩ : ByteArray) ++ t59))] w20 fun t61 w21 =>
                   apK PG #[ty_sl_string, ty_sl_string] ty_sl_string s_2.1 (⟨(some t61), 1, 1⟩ : Slc) w21 fun t62 w22 =>
                   J4 (t62, ()) w22)
                  (J4 (s_2.1, ()) w19)) fun J5 =>
              cond (s_2.2.1 == (16 : Int))
                (ldI .i64 (k_1.add 20) w12 fun t53 =>
                 J5 ((t53 != (0 : Int)), ()) w12)
                (J5 (false, ()) w12))
             (c_strings_Join s_2.1 (⟨#[44]⟩ : ByteArray) w12 fun t88 w23 =>
              runK1 PG (convert ty_string ty_sl_uint8 (.string t88)) Kind.slice w23 fun (t89 : Slc) w24 =>
              K t89 w24)) (s_1.1, 0, ()) w6)) (⟨none, 0, 0⟩, 0, ()) w5) fun J1 =>
  ldS T_keys_Keys.rep k_1 w4 fun t10 =>
  c_keys_may t10 w4 fun t11 w25 =>
  cond (!t11)
    (K (⟨none, 0, 0⟩ : Slc) w25)
    (ldS T_keys_Keys.rep k_1 w25 fun t14 =>
     ldS T_keys_Keys.rep first w25 fun t15 =>
     cond ((t14.Action == t15.Action) && ((t14.Medium == t15.Medium) && ((t14.Zip == t15.Zip) && ((t14.What == t15.What) && ((t14.Quiet == t15.Quiet) && ((t14.Format == t15.Format) && ((t14.W == t15.W) && ((t14.H == t15.H) && ((t14.Id == t15.Id) && ((t14.Number == t15.Number) && ((t14.Place == t15.Place) && ((t14.More == t15.More) && ((t14.X == t15.X) && ((t14.Y == t15.Y) && ((t14.PW == t15.PW) && ((t14.PH == t15.PH) && ((t14.DX == t15.DX) && ((t14.DY == t15.DY) && ((t14.Rows == t15.Rows) && ((t14.Cols == t15.Cols) && ((t14.Z == t15.Z) && ((t14.Stay == t15.Stay) && true))))))))))))))))))))))
       (K (⟨none, 0, 0⟩ : Slc) w25)
       (J1 (()) w25))

def an_keys_Text : List Ann := [.none, .none, .join [] [2, 10, 11, 12, 13, 14, 15, 16, 17], .none, .none, .none, .none, .none, .join [(4, Kind.slice), (18, (Kind.int .i64))] [4, 5, 6, 18, 19, 20, 21, 22, 23, 24, 25, 26, 27, 28, 29, 30, 31, 32, 33, 34, 35, 36, 37, 38, 39, 40, 41, 42, 43, 44, 45], .none, .none, .none, .none, .none, .none, .none, .none, .join [(4, Kind.slice), (46, (Kind.int .i64))] [4, 7, 8, 46, 47, 48, 49, 50, 51, 52, 53, 54, 55, 56, 57, 58, 59, 60, 61, 62, 63, 64, 65, 66, 67, 68, 69, 70, 71, 72, 73, 74, 75, 76, 77, 78, 79, 80, 81, 82, 83, 84, 85, 86], .none, .none, .none, .none, .join [(4, Kind.slice)] [4, 49, 50, 51, 52, 53, 54, 55, 56, 57, 58, 59, 60, 61, 62], .join [(55, Kind.bool)] [49, 50, 51, 52, 53, 54, 55], .none, .none, .none]

theorem vc_keys_Text (k : T_keys_Keys) (w : World) (K : Slc → World → Prop) :
    vcFn C (Tryd.f15.body.getD .skip) Tryd.f15.results.toList Tryd.f15.ntmps an_keys_Text [Kind.slice] [(.agg #[(.int .u8 k.Action), (.int .u8 k.Medium), (.int .u8 k.Zip), (.int .u8 k.What), (.int .i64 k.Quiet), (.int .i64 k.Format), (.int .i64 k.W), (.int .i64 k.H), (.int .i64 k.Id), (.int .i64 k.Number), (.int .i64 k.Place), (.int .i64 k.More), (.int .i64 k.X), (.int .i64 k.Y), (.int .i64 k.PW), (.int .i64 k.PH), (.int .i64 k.DX), (.int .i64 k.DY), (.int .i64 k.Rows), (.int .i64 k.Cols), (.int .i64 k.Z), (.int .i64 k.Stay)])] w (fun s w => K s.1 w) = sh_keys_Text k w K := by kernel_rfl

theorem call_keys_Text (k : T_keys_Keys) {w : World} {K : Slc → World → Prop} (h : sh_keys_Text k w K) : c_keys_Text k w K := by
  rw [← vc_keys_Text] at h
  refine Calls.mono (calls_of_vc C.plain_ok C.mixed Tryd.func15 rfl h) ?_
  rintro e w' ⟨s, rfl, hK⟩
  exact ⟨s.1, rfl, hK⟩

/-- phosphor/phosphorref19.Text -/
def sh_phosphorref19_Text (k : T_keys_Keys) (w : World) (K : ByteArray → World → Prop) : Prop :=
  nw ty_phosphorref19_Keys (T_keys_Keys.rep.cells k) w fun k_1 w1 =>
  ldS T_keys_Keys.rep k_1 w1 fun t6 =>
  c_phosphorref19_May t6 w1 fun t7 w2 =>
  cond (!t7)
    (K (⟨#[]⟩ : ByteArray) w2)
    (c_phosphorref19_First  w2 fun t9 w3 =>
     nw ty_phosphorref19_Keys [(.int .u8 0), (.int .u8 0), (.int .u8 0), (.int .u8 0), (.int .i64 0), (.int .i64 0), (.int .i64 0), (.int .i64 0), (.int .i64 0), (.int .i64 0), (.int .i64 0), (.int .i64 0), (.int .i64 0), (.int .i64 0), (.int .i64 0), (.int .i64 0), (.int .i64 0), (.int .i64 0), (.int .i64 0), (.int .i64 0), (.int .i64 0), (.int .i64 0)] w3 fun f w4 =>
     stK f (T_keys_Keys.rep.cells t9) w4 fun w5 =>
     joinP (σ := ByteArray × Unit) (fun s w6 =>
       joinP (σ := ByteArray × Unit) (fun s_1 w7 =>
         joinP (σ := ByteArray × Unit) (fun s_2 w8 =>
           joinP (σ := ByteArray × Unit) (fun s_3 w9 =>
             loopP (σ := ByteArray × Int × Unit) (fun I5 s_4 w10 =>
               cond (decide (s_4.2.1 < (17 : Int)))
                 (joinP (σ := ByteArray × Unit) (fun s_5 w11 =>
                    joinP (σ := ByteArray × Unit) (fun s_6 w12 =>
                      ldS T_keys_Keys.rep k_1 w12.drew fun t89 =>
                      ldS T_keys_Keys.rep f w12.drew fun t92 =>
                      c_phosphorref19_get t89 s_4.2.1 w12.drew fun t91 w13 =>
                      cellsAt w13 f (T_keys_Keys.rep.cells t92) ∧
                      c_phosphorref19_get t92 s_4.2.1 w13 fun t94 w14 =>
                      cond (t91 != t94)
                        ((((s_6.1.size + (⟨#[44]⟩ : ByteArray).size : Nat) : Int) ≤ 9223372036854775807) ∧
                         slS (⟨#[113, 102, 115, 118, 105, 73, 112, 109, 120, 121, 119, 104, 88, 89, 114, 99, 67]⟩ : ByteArray) (some s_4.2.1) (some (IntKind.i64.wrap (s_4.2.1 + (1 : Int)))) fun t101 =>
                         ((((s_6.1 ++ (⟨#[44]⟩ : ByteArray)).size + t101.size : Nat) : Int) ≤ 9223372036854775807) ∧
                         (((((s_6.1 ++ (⟨#[44]⟩ : ByteArray)) ++ t101).size + (⟨#[61]⟩ : ByteArray).size : Nat) : Int) ≤ 9223372036854775807) ∧
                         ldS T_keys_Keys.rep k_1 w14.drew fun t104 =>
                         c_phosphorref19_get t104 s_4.2.1 w14.drew fun t106 w15 =>
                         c_phosphorref19_decimal t106 w15 fun t107 w16 =>
                         ((((((s_6.1 ++ (⟨#[44]⟩ : ByteArray)) ++ t101) ++ (⟨#[61]⟩ : ByteArray)).size + t107.size : Nat) : Int) ≤ 9223372036854775807) ∧
                         I5 (((((s_6.1 ++ (⟨#[44]⟩ : ByteArray)) ++ t101) ++ (⟨#[61]⟩ : ByteArray)) ++ t107), (IntKind.i64.wrap (s_4.2.1 + (1 : Int))), ()) w16)
                        (I5 (s_6.1, (IntKind.i64.wrap (s_4.2.1 + (1 : Int))), ()) w14)) fun J7 =>
                    joinP (σ := Bool × Unit) (fun s_7 w17 =>
                      cond s_7.1
                        ((((s_5.1.size + (⟨#[44, 122, 61, 45]⟩ : ByteArray).size : Nat) : Int) ≤ 9223372036854775807) ∧
                         ldI .i64 (k_1.add 20) w17 fun t85 =>
                         c_phosphorref19_decimal (IntKind.i64.wrap ((0 : Int) - t85)) w17 fun t87 w18 =>
                         ((((s_5.1 ++ (⟨#[44, 122, 61, 45]⟩ : ByteArray)).size + t87.size : Nat) : Int) ≤ 9223372036854775807) ∧
                         J7 (((s_5.1 ++ (⟨#[44, 122, 61, 45]⟩ : ByteArray)) ++ t87), ()) w18)
                        (J7 (s_5.1, ()) w17)) fun J8 =>
                    cond (s_4.2.1 == (16 : Int))
                      (ldI .i64 (k_1.add 20) w11 fun t79 =>
                       J8 ((decide (t79 < (0 : Int))), ()) w11)
                      (J8 (false, ()) w11)) fun J6 =>
                  joinP (σ := Bool × Unit) (fun s_8 w19 =>
                    cond s_8.1
                      ((((s_4.1.size + (⟨#[44, 122, 61]⟩ : ByteArray).size : Nat) : Int) ≤ 9223372036854775807) ∧
                       ldI .i64 (k_1.add 20) w19 fun t72 =>
                       c_phosphorref19_decimal t72 w19 fun t73 w20 =>
                       ((((s_4.1 ++ (⟨#[44, 122, 61]⟩ : ByteArray)).size + t73.size : Nat) : Int) ≤ 9223372036854775807) ∧
                       J6 (((s_4.1 ++ (⟨#[44, 122, 61]⟩ : ByteArray)) ++ t73), ()) w20)
                      (J6 (s_4.1, ()) w19)) fun J9 =>
                  cond (s_4.2.1 == (16 : Int))
                    (ldI .i64 (k_1.add 20) w10 fun t66 =>
                     J9 ((decide (t66 > (0 : Int))), ()) w10)
                    (J9 (false, ()) w10))
                 (cond (s_4.1.toList == (⟨#[]⟩ : ByteArray).toList)
                    (K (⟨#[]⟩ : ByteArray) w10)
                    (slS s_4.1 (some 1) none fun t112 =>
                     K t112 w10))) (s_3.1, 0, ()) w9) fun J4 =>
           ldI .u8 (k_1.add 3) w8 fun t47 =>
           ldI .u8 (f.add 3) w8 fun t49 =>
           cond (t47 != t49)
             ((((s_2.1.size + (⟨#[44, 100, 61]⟩ : ByteArray).size : Nat) : Int) ≤ 9223372036854775807) ∧
              ldI .u8 (k_1.add 3) w8 fun t54 =>
              nw ty_uint8 [(.int .u8 t54)] w8 fun t55 w21 =>
              runK1 PG (convert ty_sl_uint8 ty_string (.slice (some t55) 1 1)) Kind.string w21 fun (t56 : ByteArray) w22 =>
              ((((s_2.1 ++ (⟨#[44, 100, 61]⟩ : ByteArray)).size + t56.size : Nat) : Int) ≤ 9223372036854775807) ∧
              J4 (((s_2.1 ++ (⟨#[44, 100, 61]⟩ : ByteArray)) ++ t56), ()) w22)
             (J4 (s_2.1, ()) w8)) fun J3 =>
         ldI .u8 (k_1.add 2) w7 fun t35 =>
         ldI .u8 (f.add 2) w7 fun t37 =>
         cond (t35 != t37)
           ((((s_1.1.size + (⟨#[44, 111, 61]⟩ : ByteArray).size : Nat) : Int) ≤ 9223372036854775807) ∧
            ldI .u8 (k_1.add 2) w7 fun t42 =>
            nw ty_uint8 [(.int .u8 t42)] w7 fun t43 w23 =>
            runK1 PG (convert ty_sl_uint8 ty_string (.slice (some t43) 1 1)) Kind.string w23 fun (t44 : ByteArray) w24 =>
            ((((s_1.1 ++ (⟨#[44, 111, 61]⟩ : ByteArray)).size + t44.size : Nat) : Int) ≤ 9223372036854775807) ∧
            J3 (((s_1.1 ++ (⟨#[44, 111, 61]⟩ : ByteArray)) ++ t44), ()) w24)
           (J3 (s_1.1, ()) w7)) fun J2 =>
       ldI .u8 (k_1.add 1) w6 fun t23 =>
       ldI .u8 (f.add 1) w6 fun t25 =>
       cond (t23 != t25)
         ((((s.1.size + (⟨#[44, 116, 61]⟩ : ByteArray).size : Nat) : Int) ≤ 9223372036854775807) ∧
          ldI .u8 (k_1.add 1) w6 fun t30 =>
          nw ty_uint8 [(.int .u8 t30)] w6 fun t31 w25 =>
          runK1 PG (convert ty_sl_uint8 ty_string (.slice (some t31) 1 1)) Kind.string w25 fun (t32 : ByteArray) w26 =>
          ((((s.1 ++ (⟨#[44, 116, 61]⟩ : ByteArray)).size + t32.size : Nat) : Int) ≤ 9223372036854775807) ∧
          J2 (((s.1 ++ (⟨#[44, 116, 61]⟩ : ByteArray)) ++ t32), ()) w26)
         (J2 (s.1, ()) w6)) fun J1 =>
     ldI .u8 (k_1.add 0) w5 fun t11 =>
     ldI .u8 (f.add 0) w5 fun t13 =>
     cond (t11 != t13)
       (((((⟨#[]⟩ : ByteArray).size + (⟨#[44, 97, 61]⟩ : ByteArray).size : Nat) : Int) ≤ 9223372036854775807) ∧
        ldI .u8 (k_1.add 0) w5 fun t18 =>
        nw ty_uint8 [(.int .u8 t18)] w5 fun t19 w27 =>
        runK1 PG (convert ty_sl_uint8 ty_string (.slice (some t19) 1 1)) Kind.string w27 fun (t20 : ByteArray) w28 =>
        (((((⟨#[]⟩ : ByteArray) ++ (⟨#[44, 97, 61]⟩ : ByteArray)).size + t20.size : Nat) : Int) ≤ 9223372036854775807) ∧
        J1 ((((⟨#[]⟩ : ByteArray) ++ (⟨#[44, 97, 61]⟩ : ByteArray)) ++ t20), ()) w28)
       (J1 ((⟨#[]⟩ : ByteArray), ()) w5))

def an_phosphorref19_Text : List Ann := [.none, .none, .none, .none, .none, .none, .join [(4, Kind.string)] [4, 10, 11, 12, 13, 14, 15, 16, 17, 18, 19, 20, 21], .none, .join [(4, Kind.string)] [4, 22, 23, 24, 25, 26, 27, 28, 29, 30, 31, 32, 33], .none, .join [(4, Kind.string)] [4, 34, 35, 36, 37, 38, 39, 40, 41, 42, 43, 44, 45], .none, .join [(4, Kind.string)] [4, 46, 47, 48, 49, 50, 51, 52, 53, 54, 55, 56, 57], .none, .none, .none, .join [(4, Kind.string), (5, (Kind.int .i64))] [4, 5, 58, 59, 60, 61, 62, 63, 64, 65, 66, 67, 68, 69, 70, 71, 72, 73, 74, 75, 76, 77, 78, 79, 80, 81, 82, 83, 84, 85, 86, 87, 88, 89, 90, 91, 92, 93, 94, 95, 96, 97, 98, 99, 100, 101, 102, 103, 104, 105, 106, 107, 108], .none, .none, .none, .join [(4, Kind.string)] [4, 62, 63, 64, 65, 66, 67, 68, 69, 70, 71, 72, 73, 74], .join [(68, Kind.bool)] [62, 63, 64, 65, 66, 67, 68], .join [(4, Kind.string)] [4, 75, 76, 77, 78, 79, 80, 81, 82, 83, 84, 85, 86, 87, 88], .join [(81, Kind.bool)] [75, 76, 77, 78, 79, 80, 81], .none, .none, .none, .none, .none]

theorem vc_phosphorref19_Text (k : T_keys_Keys) (w : World) (K : ByteArray → World → Prop) :
    vcFn C (Tryd.f16.body.getD .skip) Tryd.f16.results.toList Tryd.f16.ntmps an_phosphorref19_Text [Kind.string] [(.agg #[(.int .u8 k.Action), (.int .u8 k.Medium), (.int .u8 k.Zip), (.int .u8 k.What), (.int .i64 k.Quiet), (.int .i64 k.Format), (.int .i64 k.W), (.int .i64 k.H), (.int .i64 k.Id), (.int .i64 k.Number), (.int .i64 k.Place), (.int .i64 k.More), (.int .i64 k.X), (.int .i64 k.Y), (.int .i64 k.PW), (.int .i64 k.PH), (.int .i64 k.DX), (.int .i64 k.DY), (.int .i64 k.Rows), (.int .i64 k.Cols), (.int .i64 k.Z), (.int .i64 k.Stay)])] w (fun s w => K s.1 w) = sh_phosphorref19_Text k w K := by kernel_rfl

theorem call_phosphorref19_Text (k : T_keys_Keys) {w : World} {K : ByteArray → World → Prop} (h : sh_phosphorref19_Text k w K) : c_phosphorref19_Text k w K := by
  rw [← vc_phosphorref19_Text] at h
  refine Calls.mono (calls_of_vc C.plain_ok C.mixed Tryd.func16 rfl h) ?_
  rintro e w' ⟨s, rfl, hK⟩
  exact ⟨s.1, rfl, hK⟩

/-- phosphor/phosphorref19.May -/
def sh_phosphorref19_May (k : T_keys_Keys) (w : World) (K : Bool → World → Prop) : Prop :=
  nw ty_phosphorref19_Keys (T_keys_Keys.rep.cells k) w fun k_1 w1 =>
  ldI .u8 (k_1.add 0) w1 fun t7 =>
  ldI .u8 (k_1.add 1) w1 fun t9 =>
  ldI .u8 (k_1.add 2) w1 fun t11 =>
  ldI .u8 (k_1.add 3) w1 fun t13 =>
  nw ty_uint8 [(.int .u8 t7), (.int .u8 t9), (.int .u8 t11), (.int .u8 t13)] w1 fun t14 w2 =>
  loopP (σ := Int × Unit) (fun I1 s w3 =>
    cond (decide (s.1 < (4 : Int)))
      ((0 ≤ s.1 ∧ s.1 < (4 : Nat)) ∧
       ldI .u8 (t14.add ((s.1 : Int).toNat * 1)) w3 fun t22 =>
       cond (t22 != (0 : Int))
         ((0 ≤ s.1 ∧ s.1 < (4 : Nat)) ∧
          ldI .u8 (t14.add ((s.1 : Int).toNat * 1)) w3 fun t32 =>
          cond (decide (t32 < (33 : Int)))
            (K false w3)
            ((0 ≤ s.1 ∧ s.1 < (4 : Nat)) ∧
             ldI .u8 (t14.add ((s.1 : Int).toNat * 1)) w3 fun t38 =>
             cond (decide (t38 > (126 : Int)))
               (K false w3)
               ((0 ≤ s.1 ∧ s.1 < (4 : Nat)) ∧
                ldI .u8 (t14.add ((s.1 : Int).toNat * 1)) w3 fun t45 =>
                cond (t45 == (44 : Int))
                  (K false w3)
                  (I1 ((IntKind.i64.wrap (s.1 + (1 : Int))), ()) w3))))
         (cond (s.1 != (2 : Int))
            ((0 ≤ s.1 ∧ s.1 < (4 : Nat)) ∧
             ldI .u8 (t14.add ((s.1 : Int).toNat * 1)) w3 fun t32_1 =>
             cond (decide (t32_1 < (33 : Int)))
               (K false w3)
               ((0 ≤ s.1 ∧ s.1 < (4 : Nat)) ∧
                ldI .u8 (t14.add ((s.1 : Int).toNat * 1)) w3 fun t38_1 =>
                cond (decide (t38_1 > (126 : Int)))
                  (K false w3)
                  ((0 ≤ s.1 ∧ s.1 < (4 : Nat)) ∧
                   ldI .u8 (t14.add ((s.1 : Int).toNat * 1)) w3 fun t45_1 =>
                   cond (t45_1 == (44 : Int))
                     (K false w3)
                     (I1 ((IntKind.i64.wrap (s.1 + (1 : Int))), ()) w3))))
            (I1 ((IntKind.i64.wrap (s.1 + (1 : Int))), ()) w3)))
      (loopP (σ := Int × Unit) (fun I2 s_1 w4 =>
         cond (decide (s_1.1 < (17 : Int)))
           (ldS T_keys_Keys.rep k_1 w4 fun t53 =>
            c_phosphorref19_get t53 s_1.1 w4 fun t55 w5 =>
            cond (decide (t55 < (0 : Int)))
              (K false w5)
              (ldS T_keys_Keys.rep k_1 w5 fun t58 =>
               c_phosphorref19_get t58 s_1.1 w5 fun t60 w6 =>
               cond (decide (t60 > (4294967295 : Int)))
                 (K false w6)
                 (I2 ((IntKind.i64.wrap (s_1.1 + (1 : Int))), ()) w6)))
           (ldI .i64 (k_1.add 20) w4 fun t64 =>
            cond (decide (t64 ≥ ((-1073741824) : Int)))
              (ldI .i64 (k_1.add 20) w4 fun t68 =>
               K (decide (t68 < (1073741824 : Int))) w4)
              (K false w4))) (0, ()) w3)) (0, ()) w2

def an_phosphorref19_May : List Ann := [.none, .none, .none, .none, .join [(4, (Kind.int .i64))] [2, 4, 15, 16, 17, 18, 19, 20, 21, 22, 23, 24, 25, 26, 27, 28, 29, 30, 31, 32, 33, 34, 35, 36, 37, 38, 39, 40, 41, 42, 43, 44, 45, 46, 47, 48], .none, .none, .none, .none, .none, .none, .none, .join [(5, (Kind.int .i64))] [2, 5, 49, 50, 51, 52, 53, 54, 55, 56, 57, 58, 59, 60, 61, 62], .none, .none, .none, .none, .none, .none]

theorem vc_phosphorref19_May (k : T_keys_Keys) (w : World) (K : Bool → World → Prop) :
    vcFn C (Tryd.f17.body.getD .skip) Tryd.f17.results.toList Tryd.f17.ntmps an_phosphorref19_May [Kind.bool] [(.agg #[(.int .u8 k.Action), (.int .u8 k.Medium), (.int .u8 k.Zip), (.int .u8 k.What), (.int .i64 k.Quiet), (.int .i64 k.Format), (.int .i64 k.W), (.int .i64 k.H), (.int .i64 k.Id), (.int .i64 k.Number), (.int .i64 k.Place), (.int .i64 k.More), (.int .i64 k.X), (.int .i64 k.Y), (.int .i64 k.PW), (.int .i64 k.PH), (.int .i64 k.DX), (.int .i64 k.DY), (.int .i64 k.Rows), (.int .i64 k.Cols), (.int .i64 k.Z), (.int .i64 k.Stay)])] w (fun s w => K s.1 w) = sh_phosphorref19_May k w K := by kernel_rfl

theorem call_phosphorref19_May (k : T_keys_Keys) {w : World} {K : Bool → World → Prop} (h : sh_phosphorref19_May k w K) : c_phosphorref19_May k w K := by
  rw [← vc_phosphorref19_May] at h
  refine Calls.mono (calls_of_vc C.plain_ok C.mixed Tryd.func17 rfl h) ?_
  rintro e w' ⟨s, rfl, hK⟩
  exact ⟨s.1, rfl, hK⟩

/-- phosphor/keys.Parse -/
def sh_keys_Parse (b : Slc) (w : World) (K : T_keys_Keys → Int → World → Prop) : Prop :=
  nw ty_keys_Keys [(.int .u8 0), (.int .u8 0), (.int .u8 0), (.int .u8 0), (.int .i64 0), (.int .i64 0), (.int .i64 0), (.int .i64 0), (.int .i64 0), (.int .i64 0), (.int .i64 0), (.int .i64 0), (.int .i64 0), (.int .i64 0), (.int .i64 0), (.int .i64 0), (.int .i64 0), (.int .i64 0), (.int .i64 0), (.int .i64 0), (.int .i64 0), (.int .i64 0)] w fun t2 w1 =>
  c_keys_First  w1 fun t7 w2 =>
  nw ty_keys_Keys [(.int .u8 0), (.int .u8 0), (.int .u8 0), (.int .u8 0), (.int .i64 0), (.int .i64 0), (.int .i64 0), (.int .i64 0), (.int .i64 0), (.int .i64 0), (.int .i64 0), (.int .i64 0), (.int .i64 0), (.int .i64 0), (.int .i64 0), (.int .i64 0), (.int .i64 0), (.int .i64 0), (.int .i64 0), (.int .i64 0), (.int .i64 0), (.int .i64 0)] w2 fun k w3 =>
  stK k (T_keys_Keys.rep.cells t7) w3 fun w4 =>
  cond (decide (((b.n : Nat) : Int) > (512 : Int)))
    (stK t2 [(.int .u8 0), (.int .u8 0), (.int .u8 0), (.int .u8 0), (.int .i64 0), (.int .i64 0), (.int .i64 0), (.int .i64 0), (.int .i64 0), (.int .i64 0), (.int .i64 0), (.int .i64 0), (.int .i64 0), (.int .i64 0), (.int .i64 0), (.int .i64 0), (.int .i64 0), (.int .i64 0), (.int .i64 0), (.int .i64 0), (.int .i64 0), (.int .i64 0)] w4 fun w5 =>
     ldS T_keys_Keys.rep t2 w5 fun r =>
     K r 5 w5)
    (cond (((b.n : Nat) : Int) == (0 : Int))
       (ldS T_keys_Keys.rep k w4 fun t17 =>
        stK t2 (T_keys_Keys.rep.cells t17) w4 fun w6 =>
        ldS T_keys_Keys.rep t2 w6 fun r_1 =>
        K r_1 0 w6)
       (runK1 PG (convert ty_sl_uint8 ty_string (.slice b.a b.n b.c)) Kind.string w4 fun (t19 : ByteArray) w7 =>
        c_strings_Split t19 (⟨#[44]⟩ : ByteArray) w7 fun t20 w8 =>
        loopP (σ := Int × Unit) (fun I1 s w9 =>
          cond (decide (s.1 < ((t20.n : Nat) : Int)))
            (ixK t20 s.1 1 fun t24 =>
             ldStr t24 w9 fun t25 =>
             c_keys_Keys_one (some k) t25 w9 fun t27 w10 =>
             cond (!t27)
               (stK t2 [(.int .u8 0), (.int .u8 0), (.int .u8 0), (.int .u8 0), (.int .i64 0), (.int .i64 0), (.int .i64 0), (.int .i64 0), (.int .i64 0), (.int .i64 0), (.int .i64 0), (.int .i64 0), (.int .i64 0), (.int .i64 0), (.int .i64 0), (.int .i64 0), (.int .i64 0), (.int .i64 0), (.int .i64 0), (.int .i64 0), (.int .i64 0), (.int .i64 0)] w10 fun w11 =>
                ldS T_keys_Keys.rep t2 w11 fun r_2 =>
                K r_2 3 w11)
               (I1 ((IntKind.i64.wrap (s.1 + (1 : Int))), ()) w10))
            (ldS T_keys_Keys.rep k w9 fun t31 =>
             stK t2 (T_keys_Keys.rep.cells t31) w9 fun w12 =>
             ldS T_keys_Keys.rep t2 w12 fun r_3 =>
             K r_3 0 w12)) (0, ()) w8))

def an_keys_Parse : List Ann := [.none, .none, .none, .none, .none, .none, .none, .none, .none, .join [(22, (Kind.int .i64))] [3, 6, 22, 23, 24, 25, 26, 27, 28, 29, 30], .none, .none, .none, .none, .none, .none, .none]

theorem vc_keys_Parse (b : Slc) (w : World) (K : T_keys_Keys → Int → World → Prop) :
    vcFn C (Tryd.f18.body.getD .skip) Tryd.f18.results.toList Tryd.f18.ntmps an_keys_Parse [(Kind.struct T_keys_Keys.rep), (Kind.int .i64)] [(.slice b.a b.n b.c)] w (fun s w => K s.1 s.2.1 w) = sh_keys_Parse b w K := by kernel_rfl

theorem call_keys_Parse (b : Slc) {w : World} {K : T_keys_Keys → Int → World → Prop} (h : sh_keys_Parse b w K) : c_keys_Parse b w K := by
  rw [← vc_keys_Parse] at h
  refine Calls.mono (calls_of_vc C.plain_ok C.mixed Tryd.func18 rfl h) ?_
  rintro e w' ⟨s, rfl, hK⟩
  exact ⟨s.1, s.2.1, rfl, hK⟩

/-- phosphor/phosphorref19.Parse -/
def sh_phosphorref19_Parse (b : Slc) (w : World) (K : T_keys_Keys → Int → World → Prop) : Prop :=
  nw ty_phosphorref19_Keys [(.int .u8 0), (.int .u8 0), (.int .u8 0), (.int .u8 0), (.int .i64 0), (.int .i64 0), (.int .i64 0), (.int .i64 0), (.int .i64 0), (.int .i64 0), (.int .i64 0), (.int .i64 0), (.int .i64 0), (.int .i64 0), (.int .i64 0), (.int .i64 0), (.int .i64 0), (.int .i64 0), (.int .i64 0), (.int .i64 0), (.int .i64 0), (.int .i64 0)] w fun t2 w1 =>
  cond (decide (((b.n : Nat) : Int) > (512 : Int)))
    (stK t2 [(.int .u8 0), (.int .u8 0), (.int .u8 0), (.int .u8 0), (.int .i64 0), (.int .i64 0), (.int .i64 0), (.int .i64 0), (.int .i64 0), (.int .i64 0), (.int .i64 0), (.int .i64 0), (.int .i64 0), (.int .i64 0), (.int .i64 0), (.int .i64 0), (.int .i64 0), (.int .i64 0), (.int .i64 0), (.int .i64 0), (.int .i64 0), (.int .i64 0)] w1 fun w2 =>
     ldS T_keys_Keys.rep t2 w2 fun r =>
     K r 5 w2)
    (c_phosphorref19_First  w1 fun t13 w3 =>
     nw ty_phosphorref19_Keys [(.int .u8 0), (.int .u8 0), (.int .u8 0), (.int .u8 0), (.int .i64 0), (.int .i64 0), (.int .i64 0), (.int .i64 0), (.int .i64 0), (.int .i64 0), (.int .i64 0), (.int .i64 0), (.int .i64 0), (.int .i64 0), (.int .i64 0), (.int .i64 0), (.int .i64 0), (.int .i64 0), (.int .i64 0), (.int .i64 0), (.int .i64 0), (.int .i64 0)] w3 fun k w4 =>
     stK k (T_keys_Keys.rep.cells t13) w4 fun w5 =>
     cond (((b.n : Nat) : Int) == (0 : Int))
       (ldS T_keys_Keys.rep k w5 fun t17 =>
        stK t2 (T_keys_Keys.rep.cells t17) w5 fun w6 =>
        ldS T_keys_Keys.rep t2 w6 fun r_1 =>
        K r_1 0 w6)
       (loopP (σ := Int × Int × Unit) (fun I1 s w7 =>
          cond (decide (s.2.1 ≤ ((b.n : Nat) : Int)))
            (joinP (σ := Unit) (fun s_1 w8 =>
               ldS T_keys_Keys.rep k w8.drew fun t36 =>
               slK b (some s.1) (some s.2.1) 1 fun t40 =>
                 (runK1 PG (convert ty_sl_uint8 ty_string (.slice t40.a t40.n t40.c)) Kind.string w8.drew fun (t41 : ByteArray) w9 =>
                  cellsAt w9 k (T_keys_Keys.rep.cells t36) ∧
                    (c_phosphorref19_one t36 t41 w9 fun t42 t42_1 w10 =>
                     nw ty_phosphorref19_Keys [(.int .u8 0), (.int .u8 0), (.int .u8 0), (.int .u8 0), (.int .i64 0), (.int .i64 0), (.int .i64 0), (.int .i64 0), (.int .i64 0), (.int .i64 0), (.int .i64 0), (.int .i64 0), (.int .i64 0), (.int .i64 0), (.int .i64 0), (.int .i64 0), (.int .i64 0), (.int .i64 0), (.int .i64 0), (.int .i64 0), (.int .i64 0), (.int .i64 0)] w10 fun x w11 =>
                     cellsAt w11 k (T_keys_Keys.rep.cells t36) ∧
                     stK x (T_keys_Keys.rep.cells t42) w11 fun w12 =>
                     cond (!t42_1)
                       (stK t2 [(.int .u8 0), (.int .u8 0), (.int .u8 0), (.int .u8 0), (.int .i64 0), (.int .i64 0), (.int .i64 0), (.int .i64 0), (.int .i64 0), (.int .i64 0), (.int .i64 0), (.int .i64 0), (.int .i64 0), (.int .i64 0), (.int .i64 0), (.int .i64 0), (.int .i64 0), (.int .i64 0), (.int .i64 0), (.int .i64 0), (.int .i64 0), (.int .i64 0)] w12 fun w13 =>
                        ldS T_keys_Keys.rep t2 w13 fun r_2 =>
                        K r_2 3 w13)
                       (ldS T_keys_Keys.rep x w12 fun t48 =>
                        stK k (T_keys_Keys.rep.cells t48) w12 fun w14 =>
                        I1 ((IntKind.i64.wrap (s.2.1 + (1 : Int))), (IntKind.i64.wrap (s.2.1 + (1 : Int))), ()) w14)) ∧
                  nw ty_phosphorref19_Keys [(.int .u8 0), (.int .u8 0), (.int .u8 0), (.int .u8 0), (.int .i64 0), (.int .i64 0), (.int .i64 0), (.int .i64 0), (.int .i64 0), (.int .i64 0), (.int .i64 0), (.int .i64 0), (.int .i64 0), (.int .i64 0), (.int .i64 0), (.int .i64 0), (.int .i64 0), (.int .i64 0), (.int .i64 0), (.int .i64 0), (.int .i64 0), (.int .i64 0)] w9 fun x_1 w15 =>
                  cellsAt w15 k (T_keys_Keys.rep.cells t36) ∧
                  c_phosphorref19_one t36 t41 w15 fun t42_2 t42_3 w16 =>
                  stK x_1 (T_keys_Keys.rep.cells t42_2) w16 fun w17 =>
                  cond (!t42_3)
                    (stK t2 [(.int .u8 0), (.int .u8 0), (.int .u8 0), (.int .u8 0), (.int .i64 0), (.int .i64 0), (.int .i64 0), (.int .i64 0), (.int .i64 0), (.int .i64 0), (.int .i64 0), (.int .i64 0), (.int .i64 0), (.int .i64 0), (.int .i64 0), (.int .i64 0), (.int .i64 0), (.int .i64 0), (.int .i64 0), (.int .i64 0), (.int .i64 0), (.int .i64 0)] w17 fun w18 =>
                     ldS T_keys_Keys.rep t2 w18 fun r_3 =>
                     K r_3 3 w18)
                    (ldS T_keys_Keys.rep x_1 w17 fun t48_1 =>
                     stK k (T_keys_Keys.rep.cells t48_1) w17 fun w19 =>
                     I1 ((IntKind.i64.wrap (s.2.1 + (1 : Int))), (IntKind.i64.wrap (s.2.1 + (1 : Int))), ()) w19)) ∧
               nw ty_phosphorref19_Keys [(.int .u8 0), (.int .u8 0), (.int .u8 0), (.int .u8 0), (.int .i64 0), (.int .i64 0), (.int .i64 0), (.int .i64 0), (.int .i64 0), (.int .i64 0), (.int .i64 0), (.int .i64 0), (.int .i64 0), (.int .i64 0), (.int .i64 0), (.int .i64 0), (.int .i64 0), (.int .i64 0), (.int .i64 0), (.int .i64 0), (.int .i64 0), (.int .i64 0)] w8.drew fun x_2 w20 =>
               cellsAt w20 k (T_keys_Keys.rep.cells t36) ∧
               runK1 PG (convert ty_sl_uint8 ty_string (.slice t40.a t40.n t40.c)) Kind.string w20 fun (t41_1 : ByteArray) w21 =>
               cellsAt w21 k (T_keys_Keys.rep.cells t36) ∧
               c_phosphorref19_one t36 t41_1 w21 fun t42_4 t42_5 w22 =>
               stK x_2 (T_keys_Keys.rep.cells t42_4) w22 fun w23 =>
               cond (!t42_5)
                 (stK t2 [(.int .u8 0), (.int .u8 0), (.int .u8 0), (.int .u8 0), (.int .i64 0), (.int .i64 0), (.int .i64 0), (.int .i64 0), (.int .i64 0), (.int .i64 0), (.int .i64 0), (.int .i64 0), (.int .i64 0), (.int .i64 0), (.int .i64 0), (.int .i64 0), (.int .i64 0), (.int .i64 0), (.int .i64 0), (.int .i64 0), (.int .i64 0), (.int .i64 0)] w23 fun w24 =>
                  ldS T_keys_Keys.rep t2 w24 fun r_4 =>
                  K r_4 3 w24)
                 (ldS T_keys_Keys.rep x_2 w23 fun t48_2 =>
                  stK k (T_keys_Keys.rep.cells t48_2) w23 fun w25 =>
                  I1 ((IntKind.i64.wrap (s.2.1 + (1 : Int))), (IntKind.i64.wrap (s.2.1 + (1 : Int))), ()) w25)) fun J2 =>
             cond (decide (s.2.1 < ((b.n : Nat) : Int)))
               (ixK b s.2.1 1 fun t31 =>
                ldI .u8 t31 w7 fun t32 =>
                cond (t32 != (44 : Int))
                  (I1 (s.1, (IntKind.i64.wrap (s.2.1 + (1 : Int))), ()) w7)
                  (J2 (()) w7))
               (J2 (()) w7))
            (ldS T_keys_Keys.rep k w7 fun t51 =>
             stK t2 (T_keys_Keys.rep.cells t51) w7 fun w26 =>
             ldS T_keys_Keys.rep t2 w26 fun r_5 =>
             K r_5 0 w26)) (0, 0, ()) w5))

def an_phosphorref19_Parse : List Ann := [.none, .none, .none, .none, .none, .none, .none, .none, .none, .none, .none, .join [(5, (Kind.int .i64)), (6, (Kind.int .i64))] [3, 5, 6, 7, 8, 18, 19, 20, 21, 22, 23, 24, 25, 26, 27, 28, 29, 30, 31, 32, 33, 34, 35, 36, 37, 38, 39, 40, 41, 42, 43, 44, 45, 46, 47, 48, 49, 50], .none, .none, .none, .join [] [24, 25, 26, 27, 28, 29, 30, 31, 32, 33, 34], .none, .none, .none, .none, .none, .none, .none]

theorem vc_phosphorref19_Parse (b : Slc) (w : World) (K : T_keys_Keys → Int → World → Prop) :
    vcFn C (Tryd.f19.body.getD .skip) Tryd.f19.results.toList Tryd.f19.ntmps an_phosphorref19_Parse [(Kind.struct T_keys_Keys.rep), (Kind.int .i64)] [(.slice b.a b.n b.c)] w (fun s w => K s.1 s.2.1 w) = sh_phosphorref19_Parse b w K := by kernel_rfl

theorem call_phosphorref19_Parse (b : Slc) {w : World} {K : T_keys_Keys → Int → World → Prop} (h : sh_phosphorref19_Parse b w K) : c_phosphorref19_Parse b w K := by
  rw [← vc_phosphorref19_Parse] at h
  refine Calls.mono (calls_of_vc C.plain_ok C.mixed Tryd.func19 rfl h) ?_
  rintro e w' ⟨s, rfl, hK⟩
  exact ⟨s.1, s.2.1, rfl, hK⟩

/-- phosphor/phosphorlaw26.known -/
def sh_phosphorlaw26_known  (w : World) (K : Bool → World → Prop) : Prop :=
  c_script_Parse (⟨#[102, 101, 101, 100, 32, 97, 37, 49, 98, 10, 10, 115, 105, 122, 101, 32, 51, 32, 45, 52, 10]⟩ : ByteArray) w fun t5 t5_1 t5_2 w1 =>
  cond (t5_2 == (0 : Int))
    (cond (t5_1 == (0 : Int))
       (cond (((t5.n : Nat) : Int) == (2 : Int))
          (ixK t5 0 4 fun t22 =>
           ldSl (t22.add 0) w1 fun t24 =>
           runK1 PG (convert ty_sl_uint8 ty_string (.slice t24.a t24.n t24.c)) Kind.string w1 fun (t25 : ByteArray) w2 =>
           cond (t25.toList == (⟨#[97, 27]⟩ : ByteArray).toList)
             (ixK t5 1 4 fun t30 =>
              ldI .i64 (t30.add 3) w2 fun t32 =>
              cond (t32 == ((-4) : Int))
                (c_script_Quote (⟨none, 0, 0⟩ : Slc) w2 fun t36 w3 =>
                 K (t36.toList == (⟨#[37]⟩ : ByteArray).toList) w3)
                (K false w2))
             (K false w2))
          (K false w1))
       (K false w1))
    (K false w1)

def an_phosphorlaw26_known : List Ann := [.none, .none, .none]

theorem vc_phosphorlaw26_known  (w : World) (K : Bool → World → Prop) :
    vcFn C (Tryd.f20.body.getD .skip) Tryd.f20.results.toList Tryd.f20.ntmps an_phosphorlaw26_known [Kind.bool] [] w (fun s w => K s.1 w) = sh_phosphorlaw26_known  w K := by kernel_rfl

theorem call_phosphorlaw26_known  {w : World} {K : Bool → World → Prop} (h : sh_phosphorlaw26_known  w K) : c_phosphorlaw26_known  w K := by
  rw [← vc_phosphorlaw26_known] at h
  refine Calls.mono (calls_of_vc C.plain_ok C.mixed Tryd.func20 rfl h) ?_
  rintro e w' ⟨s, rfl, hK⟩
  exact ⟨s.1, rfl, hK⟩

/-- phosphor/script.Quote -/
def sh_script_Quote (b : Slc) (w : World) (K : ByteArray → World → Prop) : Prop :=
  cond (((b.n : Nat) : Int) == (0 : Int))
    (K (⟨#[37]⟩ : ByteArray) w)
    (nw ty_strings_Builder [(.pointer none), (.slice none 0 0)] w fun out w1 =>
     loopP (σ := Int × Unit) (fun I1 s w2 =>
       cond (decide (s.1 < ((b.n : Nat) : Int)))
         (ixK b s.1 1 fun t13 =>
          ldI .u8 t13 w2 fun t14 =>
          joinP (σ := Unit) (fun s_1 w3 =>
            0 ≤ (4 : Int) ∧
            ixS (⟨#[48, 49, 50, 51, 52, 53, 54, 55, 56, 57, 97, 98, 99, 100, 101, 102]⟩ : ByteArray) (t14.fdiv (2 ^ (min (4 : Int).toNat IntKind.u8.bits))) fun t29 =>
            ixS (⟨#[48, 49, 50, 51, 52, 53, 54, 55, 56, 57, 97, 98, 99, 100, 101, 102]⟩ : ByteArray) (bitsR .and .u8 t14 (15 : Int)) fun t32 =>
            nw ty_uint8 [(.int .u8 37), (.int .u8 t29), (.int .u8 t32)] w3.drew fun t33 w4 =>
            c_strings_Builder_Write (some out) (⟨(some t33), 3, 3⟩ : Slc) w4 fun t34 t34_1 w5 =>
            I1 ((IntKind.i64.wrap (s.1 + (1 : Int))), ()) w5) fun J2 =>
          cond (decide (t14 ≥ (33 : Int)))
            (cond (decide (t14 ≤ (126 : Int)))
               (cond (t14 != (37 : Int))
                  (c_strings_Builder_WriteByte (some out) t14 w2 fun t26 w6 =>
                   I1 ((IntKind.i64.wrap (s.1 + (1 : Int))), ()) w6)
                  (J2 (()) w2))
               (J2 (()) w2))
            (J2 (()) w2))
         (c_strings_Builder_String (some out) w2 fun t36 w7 =>
          K t36 w7)) (0, ()) w1)

def an_script_Quote : List Ann := [.none, .none, .none, .none, .none, .none, .none, .join [(11, (Kind.int .i64))] [5, 11, 12, 13, 14, 15, 16, 17, 18, 19, 20, 21, 22, 23, 24, 25, 26, 27, 28, 29, 30, 31, 32, 33, 34, 35], .none, .none, .none, .none, .join [] [15, 16, 17, 18, 19, 20, 21, 22, 23, 24, 25, 26], .none, .none, .none]

theorem vc_script_Quote (b : Slc) (w : World) (K : ByteArray → World → Prop) :
    vcFn C (Tryd.f21.body.getD .skip) Tryd.f21.results.toList Tryd.f21.ntmps an_script_Quote [Kind.string] [(.slice b.a b.n b.c)] w (fun s w => K s.1 w) = sh_script_Quote b w K := by kernel_rfl

theorem call_script_Quote (b : Slc) {w : World} {K : ByteArray → World → Prop} (h : sh_script_Quote b w K) : c_script_Quote b w K := by
  rw [← vc_script_Quote] at h
  refine Calls.mono (calls_of_vc C.plain_ok C.mixed Tryd.func21 rfl h) ?_
  rintro e w' ⟨s, rfl, hK⟩
  exact ⟨s.1, rfl, hK⟩

/-- phosphor/script.Unquote -/
def sh_script_Unquote (s : ByteArray) (w : World) (K : Slc → Int → World → Prop) : Prop :=
  joinP (σ := Slc × Unit) (fun s_1 w1 =>
    c_script_Quote s_1.1 w1 fun t58 w2 =>
    cond (!(t58.toList == s.toList))
      (K (⟨none, 0, 0⟩ : Slc) 3 w2)
      (K s_1.1 0 w2)) fun J1 =>
  loopP (σ := Slc × Int × Unit) (fun I2 s_2 w3 =>
    cond (decide (s_2.2.1 < (s.size : Int)))
      (ixS s s_2.2.1 fun t17 =>
       joinP (σ := Int × Int × Unit) (fun s_3 w4 =>
         nw ty_uint8 [(.int .u8 s_3.2.1)] w4 fun t55 w5 =>
         apK PG #[ty_sl_uint8, ty_sl_uint8] ty_sl_uint8 s_2.1 (⟨(some t55), 1, 1⟩ : Slc) w5 fun t56 w6 =>
         I2 (t56, (IntKind.i64.wrap (s_3.1 + (1 : Int))), ()) w6) fun J3 =>
       joinP (σ := Bool × Unit) (fun s_4 w7 =>
         cond s_4.1
           (ixS s (IntKind.i64.wrap (s_2.2.1 + (1 : Int))) fun t30 =>
            ixS s (IntKind.i64.wrap (s_2.2.1 + (2 : Int))) fun t35 =>
            c_strings_IndexByte (⟨#[48, 49, 50, 51, 52, 53, 54, 55, 56, 57, 97, 98, 99, 100, 101, 102]⟩ : ByteArray) t30 w7.drew fun t31 w8 =>
            c_strings_IndexByte (⟨#[48, 49, 50, 51, 52, 53, 54, 55, 56, 57, 97, 98, 99, 100, 101, 102]⟩ : ByteArray) t35 w8 fun t36 w9 =>
            0 ≤ (4 : Int) ∧
            J3 ((IntKind.i64.wrap (s_2.2.1 + (2 : Int))), (IntKind.u8.wrap (bitsR .or .i64 (IntKind.i64.wrap ((if (0 : Int) > t31 then (0 : Int) else t31) * 2 ^ (min (4 : Int).toNat IntKind.i64.bits))) (if (0 : Int) > t36 then (0 : Int) else t36))), ()) w9)
           (cond (t17 == (37 : Int))
              (cond ((s.size : Int) == (1 : Int))
                 (J1 (s_2.1, ()) w7)
                 (J3 (s_2.2.1, t17, ()) w7))
              (J3 (s_2.2.1, t17, ()) w7))) fun J4 =>
       cond (t17 == (37 : Int))
         (J4 ((decide ((IntKind.i64.wrap (s_2.2.1 + (2 : Int))) < (s.size : Int))), ()) w3)
         (J4 (false, ()) w3))
      (J1 (s_2.1, ()) w3)) (⟨none, 0, 0⟩, 0, ()) w

def an_script_Unquote : List Ann := [.none, .none, .join [(4, Kind.slice)] [4, 5, 6, 7, 8, 9, 10, 11, 12, 13, 14, 15, 16, 17, 18, 19, 20, 21, 22, 23, 24, 25, 26, 27, 28, 29, 30, 31, 32, 33, 34, 35, 36, 37, 38, 39, 40, 41, 42, 43, 44, 45, 46, 47, 48, 49, 50, 51, 52, 53, 54, 55, 56], .none, .join [(4, Kind.slice), (5, (Kind.int .i64))] [4, 5, 6, 7, 8, 9, 10, 11, 12, 13, 14, 15, 16, 17, 18, 19, 20, 21, 22, 23, 24, 25, 26, 27, 28, 29, 30, 31, 32, 33, 34, 35, 36, 37, 38, 39, 40, 41, 42, 43, 44, 45, 46, 47, 48, 49, 50, 51, 52, 53, 54, 55, 56], .none, .none, .none, .none, .join [(5, (Kind.int .i64)), (6, (Kind.int .u8))] [5, 6, 7, 8, 18, 19, 20, 21, 22, 23, 24, 25, 26, 27, 28, 29, 30, 31, 32, 33, 34, 35, 36, 37, 38, 39, 40, 41, 42, 43, 44, 45, 46, 47, 48, 49, 50, 51, 52], .join [(26, Kind.bool)] [18, 19, 20, 21, 22, 23, 24, 25, 26], .none, .none, .none, .none, .none, .none, .none]

theorem vc_script_Unquote (s : ByteArray) (w : World) (K : Slc → Int → World → Prop) :
    vcFn C (Tryd.f22.body.getD .skip) Tryd.f22.results.toList Tryd.f22.ntmps an_script_Unquote [Kind.slice, (Kind.int .i64)] [(.string s)] w (fun s w => K s.1 s.2.1 w) = sh_script_Unquote s w K := by kernel_rfl

theorem call_script_Unquote (s : ByteArray) {w : World} {K : Slc → Int → World → Prop} (h : sh_script_Unquote s w K) : c_script_Unquote s w K := by
  rw [← vc_script_Unquote] at h
  refine Calls.mono (calls_of_vc C.plain_ok C.mixed Tryd.func22 rfl h) ?_
  rintro e w' ⟨s, rfl, hK⟩
  exact ⟨s.1, s.2.1, rfl, hK⟩

/-- phosphor/phosphorref26.Unquote -/
def sh_phosphorref26_Unquote (s : ByteArray) (w : World) (K : Slc → Int → World → Prop) : Prop :=
  cond (s.toList == (⟨#[37]⟩ : ByteArray).toList)
    (K (⟨none, 0, 0⟩ : Slc) 0 w)
    (loopP (σ := Slc × Int × Unit) (fun I1 s_1 w1 =>
       cond (decide (s_1.2.1 < (s.size : Int)))
         (ixS s s_1.2.1 fun t16 =>
          cond (t16 != (37 : Int))
            (ixS s s_1.2.1 fun t21 =>
             nw ty_uint8 [(.int .u8 t21)] w1 fun t22 w2 =>
             apK PG #[ty_sl_uint8, ty_sl_uint8] ty_sl_uint8 s_1.1 (⟨(some t22), 1, 1⟩ : Slc) w2 fun t23 w3 =>
             I1 (t23, (IntKind.i64.wrap (s_1.2.1 + (1 : Int))), ()) w3)
            (joinP (σ := Unit) (fun s_2 w4 =>
               ixS s (IntKind.i64.wrap (s_1.2.1 + (1 : Int))) fun t49 =>
               ixS s (IntKind.i64.wrap (s_1.2.1 + (2 : Int))) fun t55 =>
               c_phosphorref26_digit t49 w4.drew fun t50 w5 =>
               c_phosphorref26_digit t55 w5 fun t56 w6 =>
               nw ty_uint8 [(.int .u8 (IntKind.u8.wrap (IntKind.i64.wrap ((IntKind.i64.wrap ((16 : Int) * t50)) + t56))))] w6 fun t59 w7 =>
               apK PG #[ty_sl_uint8, ty_sl_uint8] ty_sl_uint8 s_1.1 (⟨(some t59), 1, 1⟩ : Slc) w7 fun t60 w8 =>
               I1 (t60, (IntKind.i64.wrap ((IntKind.i64.wrap (s_1.2.1 + (2 : Int))) + (1 : Int))), ()) w8) fun J2 =>
             cond (decide ((IntKind.i64.wrap (s_1.2.1 + (2 : Int))) ≥ (s.size : Int)))
               (K (⟨none, 0, 0⟩ : Slc) 3 w1)
               (ixS s (IntKind.i64.wrap (s_1.2.1 + (1 : Int))) fun t33 =>
                c_phosphorref26_digit t33 w1 fun t34 w9 =>
                cond (decide (t34 < (0 : Int)))
                  (K (⟨none, 0, 0⟩ : Slc) 3 w9)
                  (ixS s (IntKind.i64.wrap (s_1.2.1 + (2 : Int))) fun t41 =>
                   c_phosphorref26_digit t41 w9 fun t42 w10 =>
                   cond (decide (t42 < (0 : Int)))
                     (K (⟨none, 0, 0⟩ : Slc) 3 w10)
                     (J2 (()) w10)))))
         (cond (((s_1.1.n : Nat) : Int) == (0 : Int))
            (K (⟨none, 0, 0⟩ : Slc) 3 w1)
            (c_phosphorref26_Quote s_1.1 w1 fun t68 w11 =>
             cond (!(t68.toList == s.toList))
               (K (⟨none, 0, 0⟩ : Slc) 3 w11)
               (K s_1.1 0 w11)))) (⟨none, 0, 0⟩, 0, ()) w)

def an_phosphorref26_Unquote : List Ann := [.none, .none, .none, .none, .none, .none, .none, .join [(4, Kind.slice), (5, (Kind.int .i64))] [2, 3, 4, 5, 8, 9, 10, 11, 12, 13, 14, 15, 16, 17, 18, 19, 20, 21, 22, 23, 24, 25, 26, 27, 28, 29, 30, 31, 32, 33, 34, 35, 36, 37, 38, 39, 40, 41, 42, 43, 44, 45, 46, 47, 48, 49, 50, 51, 52, 53, 54, 55, 56, 57, 58, 59, 60, 61, 62], .none, .none, .none, .none, .none, .none, .join [] [2, 3, 24, 25, 26, 27, 28, 29, 30, 31, 32, 33, 34, 35, 36, 37, 38, 39, 40, 41, 42, 43, 44], .none, .none, .none, .none, .none, .none, .none]

theorem vc_phosphorref26_Unquote (s : ByteArray) (w : World) (K : Slc → Int → World → Prop) :
    vcFn C (Tryd.f23.body.getD .skip) Tryd.f23.results.toList Tryd.f23.ntmps an_phosphorref26_Unquote [Kind.slice, (Kind.int .i64)] [(.string s)] w (fun s w => K s.1 s.2.1 w) = sh_phosphorref26_Unquote s w K := by kernel_rfl

theorem call_phosphorref26_Unquote (s : ByteArray) {w : World} {K : Slc → Int → World → Prop} (h : sh_phosphorref26_Unquote s w K) : c_phosphorref26_Unquote s w K := by
  rw [← vc_phosphorref26_Unquote] at h
  refine Calls.mono (calls_of_vc C.plain_ok C.mixed Tryd.func23 rfl h) ?_
  rintro e w' ⟨s, rfl, hK⟩
  exact ⟨s.1, s.2.1, rfl, hK⟩

/-- phosphor/phosphorref26.Quote -/
def sh_phosphorref26_Quote (b : Slc) (w : World) (K : ByteArray → World → Prop) : Prop :=
  cond (((b.n : Nat) : Int) == (0 : Int))
    (K (⟨#[37]⟩ : ByteArray) w)
    (loopP (σ := Slc × Int × Unit) (fun I1 s w1 =>
       cond (decide (s.2.1 < ((b.n : Nat) : Int)))
         (joinP (σ := Bool × Unit) (fun s_1 w2 =>
            cond s_1.1
              (ixK b s.2.1 1 fun t37 =>
               ldI .u8 t37 w2 fun t38 =>
               nw ty_uint8 [(.int .u8 t38)] w2 fun t39 w3 =>
               apK PG #[ty_sl_uint8, ty_sl_uint8] ty_sl_uint8 s.1 (⟨(some t39), 1, 1⟩ : Slc) w3 fun t40 w4 =>
               I1 (t40, (IntKind.i64.wrap (s.2.1 + (1 : Int))), ()) w4)
              (ixK b s.2.1 1 fun t45 =>
               ldI .u8 t45 w2.drew fun t46 =>
               (16 : Int) ≠ 0 ∧
               ixS (⟨#[48, 49, 50, 51, 52, 53, 54, 55, 56, 57, 97, 98, 99, 100, 101, 102]⟩ : ByteArray) (IntKind.u8.wrap (t46.tdiv (16 : Int))) fun t48 =>
               ixK b s.2.1 1 fun t52 =>
               ldI .u8 t52 w2.drew fun t53 =>
               (16 : Int) ≠ 0 ∧
               ixS (⟨#[48, 49, 50, 51, 52, 53, 54, 55, 56, 57, 97, 98, 99, 100, 101, 102]⟩ : ByteArray) (t53.tmod (16 : Int)) fun t55 =>
               nw ty_uint8 [(.int .u8 37), (.int .u8 t48), (.int .u8 t55)] w2.drew fun t56 w5 =>
               apK PG #[ty_sl_uint8, ty_sl_uint8] ty_sl_uint8 s.1 (⟨(some t56), 3, 3⟩ : Slc) w5 fun t57 w6 =>
               I1 (t57, (IntKind.i64.wrap (s.2.1 + (1 : Int))), ()) w6)) fun J2 =>
          ixK b s.2.1 1 fun t17 =>
          ldI .u8 t17 w1 fun t18 =>
          cond (decide (t18 ≥ (33 : Int)))
            (ixK b s.2.1 1 fun t23 =>
             ldI .u8 t23 w1 fun t24 =>
             cond (decide (t24 ≤ (126 : Int)))
               (ixK b s.2.1 1 fun t30 =>
                ldI .u8 t30 w1 fun t31 =>
                J2 ((t31 != (37 : Int)), ()) w1)
               (J2 (false, ()) w1))
            (J2 (false, ()) w1))
         (runK1 PG (convert ty_sl_uint8 ty_string (.slice s.1.a s.1.n s.1.c)) Kind.string w1 fun (t59 : ByteArray) w7 =>
          K t59 w7)) (⟨none, 0, 0⟩, 0, ()) w)

def an_phosphorref26_Quote : List Ann := [.none, .none, .none, .none, .none, .none, .none, .none, .join [(4, Kind.slice), (5, (Kind.int .i64))] [4, 5, 9, 10, 11, 12, 13, 14, 15, 16, 17, 18, 19, 20, 21, 22, 23, 24, 25, 26, 27, 28, 29, 30, 31, 32, 33, 34, 35, 36, 37, 38, 39, 40, 41, 42, 43, 44, 45, 46, 47, 48, 49, 50, 51, 52, 53, 54, 55, 56, 57], .none, .none, .none, .join [(33, Kind.bool)] [15, 16, 17, 18, 19, 20, 21, 22, 23, 24, 25, 26, 27, 28, 29, 30, 31, 32, 33], .none]

theorem vc_phosphorref26_Quote (b : Slc) (w : World) (K : ByteArray → World → Prop) :
    vcFn C (Tryd.f24.body.getD .skip) Tryd.f24.results.toList Tryd.f24.ntmps an_phosphorref26_Quote [Kind.string] [(.slice b.a b.n b.c)] w (fun s w => K s.1 w) = sh_phosphorref26_Quote b w K := by kernel_rfl

theorem call_phosphorref26_Quote (b : Slc) {w : World} {K : ByteArray → World → Prop} (h : sh_phosphorref26_Quote b w K) : c_phosphorref26_Quote b w K := by
  rw [← vc_phosphorref26_Quote] at h
  refine Calls.mono (calls_of_vc C.plain_ok C.mixed Tryd.func24 rfl h) ?_
  rintro e w' ⟨s, rfl, hK⟩
  exact ⟨s.1, rfl, hK⟩

/-- phosphor/phosphorlaw26.few -/
def sh_phosphorlaw26_few (l : Slc) (w : World) (K : Bool → World → Prop) : Prop :=
  loopP (σ := Int × Int × Unit) (fun I1 s w1 =>
    cond (decide (s.2.1 < ((l.n : Nat) : Int)))
      (joinP (σ := Unit) (fun s_1 w2 =>
         ixK l s.2.1 4 fun t27 =>
         ldSl (t27.add 0) w2 fun t29 =>
         I1 ((IntKind.i64.wrap (s.1 + ((t29.n : Nat) : Int))), (IntKind.i64.wrap (s.2.1 + (1 : Int))), ()) w2) fun J2 =>
       ixK l s.2.1 4 fun t15 =>
       ldSl (t15.add 0) w1 fun t17 =>
       cond (decide (((t17.n : Nat) : Int) > (65536 : Int)))
         (K false w1)
         (cond (decide (s.1 > (65536 : Int)))
            (K false w1)
            (J2 (()) w1)))
      (K (decide (s.1 ≤ (4096 : Int))) w1)) (((l.n : Nat) : Int), 0, ()) w

def an_phosphorlaw26_few : List Ann := [.none, .none, .none, .none, .join [(3, (Kind.int .i64)), (4, (Kind.int .i64))] [2, 3, 4, 7, 8, 9, 10, 11, 12, 13, 14, 15, 16, 17, 18, 19, 20, 21, 22, 23, 24, 25, 26, 27, 28, 29, 30, 31], .none, .none, .none, .join [] [2, 13, 14, 15, 16, 17, 18, 19, 20, 21, 22, 23], .none, .none, .none]

theorem vc_phosphorlaw26_few (l : Slc) (w : World) (K : Bool → World → Prop) :
    vcFn C (Tryd.f25.body.getD .skip) Tryd.f25.results.toList Tryd.f25.ntmps an_phosphorlaw26_few [Kind.bool] [(.slice l.a l.n l.c)] w (fun s w => K s.1 w) = sh_phosphorlaw26_few l w K := by kernel_rfl

theorem call_phosphorlaw26_few (l : Slc) {w : World} {K : Bool → World → Prop} (h : sh_phosphorlaw26_few l w K) : c_phosphorlaw26_few l w K := by
  rw [← vc_phosphorlaw26_few] at h
  refine Calls.mono (calls_of_vc C.plain_ok C.mixed Tryd.func25 rfl h) ?_
  rintro e w' ⟨s, rfl, hK⟩
  exact ⟨s.1, rfl, hK⟩

/-- phosphor/script.Join -/
def sh_script_Join (l : Slc) (w : World) (K : Slc → World → Prop) : Prop :=
  loopP (σ := Slc × Int × Unit) (fun I1 s w1 =>
    cond (decide (s.2.1 < ((l.n : Nat) : Int)))
      (ixK l s.2.1 4 fun t11 =>
       ldS T_script_Item.rep t11 w1 fun t12 =>
       nw ty_script_Item [(.slice none 0 0), (.bool false), (.int .i64 0), (.int .i64 0)] w1 fun x w2 =>
       stK x (T_script_Item.rep.cells t12) w2 fun w3 =>
       ldB (x.add 1) w3 fun t25 =>
       cond t25
         (ldI .i64 (x.add 2) w3 fun t28 =>
          ldI .i64 (x.add 3) w3 fun t30 =>
          nw ty_script_Item [(.slice none 0 0), (.bool true), (.int .i64 t28), (.int .i64 t30)] w3 fun t32 w4 =>
          apK PG #[ty_sl_script_Item, ty_sl_script_Item] ty_sl_script_Item s.1 (⟨(some t32), 1, 1⟩ : Slc) w4 fun t33 w5 =>
          I1 (t33, (IntKind.i64.wrap (s.2.1 + (1 : Int))), ()) w5)
         (ldSl (x.add 0) w3 fun t36 =>
          cond (((t36.n : Nat) : Int) == (0 : Int))
            (I1 (s.1, (IntKind.i64.wrap (s.2.1 + (1 : Int))), ()) w3)
            (joinP (σ := Bool × Unit) (fun s_1 w6 =>
               cond s_1.1
                 (ixK s.1 (IntKind.i64.wrap (((s.1.n : Nat) : Int) - (1 : Int))) 4 fun t54 =>
                  ldSl (t54.add 0) w6.drew fun t56 =>
                  ldSl (x.add 0) w6.drew fun t58 =>
                  apK PG #[ty_sl_uint8, ty_sl_uint8] ty_sl_uint8 t56 t58 w6.drew fun t59 w7 =>
                  ixK s.1 (IntKind.i64.wrap (((s.1.n : Nat) : Int) - (1 : Int))) 4 fun t60 =>
                  stK (t60.add 0) [(.slice t59.a t59.n t59.c)] w7 fun w8 =>
                  I1 (s.1, (IntKind.i64.wrap (s.2.1 + (1 : Int))), ()) w8)
                 (ldSl (x.add 0) w6 fun t18 =>
                  c_slices_Clone_byte_byte t18 w6 fun t19 w9 =>
                  nw ty_script_Item [(.slice t19.a t19.n t19.c), (.bool false), (.int .i64 0), (.int .i64 0)] w9 fun t21 w10 =>
                  apK PG #[ty_sl_script_Item, ty_sl_script_Item] ty_sl_script_Item s.1 (⟨(some t21), 1, 1⟩ : Slc) w10 fun t22 w11 =>
                  I1 (t22, (IntKind.i64.wrap (s.2.1 + (1 : Int))), ()) w11)) fun J2 =>
             cond (decide ((IntKind.i64.wrap (((s.1.n : Nat) : Int) - (1 : Int))) ≥ (0 : Int)))
               (ixK s.1 (IntKind.i64.wrap (((s.1.n : Nat) : Int) - (1 : Int))) 4 fun t45 =>
                ldB (t45.add 1) w3 fun t47 =>
                J2 ((!t47), ()) w3)
               (J2 (false, ()) w3))))
      (K s.1 w1)) (⟨none, 0, 0⟩, 0, ()) w

def an_script_Join : List Ann := [.none, .none, .none, .none, .join [(3, Kind.slice), (9, (Kind.int .i64))] [3, 5, 6, 9, 10, 11, 12, 13, 14, 15, 16, 17, 18, 19, 20, 21, 22, 23, 24, 25, 26, 27, 28, 29, 30, 31, 32, 33, 34, 35, 36, 37, 38, 39, 40, 41, 42, 43, 44, 45, 46, 47, 48, 49, 50, 51, 52, 53, 54, 55, 56, 57, 58, 59, 60, 61, 62], .none, .none, .none, .none, .none, .none, .none, .join [(39, Kind.bool)] [39, 40, 41, 42, 43, 44, 45, 46, 47, 48, 49], .none]

theorem vc_script_Join (l : Slc) (w : World) (K : Slc → World → Prop) :
    vcFn C (Tryd.f26.body.getD .skip) Tryd.f26.results.toList Tryd.f26.ntmps an_script_Join [Kind.slice] [(.slice l.a l.n l.c)] w (fun s w => K s.1 w) = sh_script_Join l w K := by kernel_rfl

theorem call_script_Join (l : Slc) {w : World} {K : Slc → World → Prop} (h : sh_script_Join l w K) : c_script_Join l w K := by
  rw [← vc_script_Join] at h
  refine Calls.mono (calls_of_vc C.plain_ok C.mixed Tryd.func26 rfl h) ?_
  rintro e w' ⟨s, rfl, hK⟩
  exact ⟨s.1, rfl, hK⟩

/-- phosphor/script.Cut -/
def sh_script_Cut (sizes : Slc) (l : Slc) (w : World) (K : Slc → World → Prop) : Prop :=
  c_slices_ContainsFunc_int_int sizes ((.func (.func fn_script_Cut_1) #[] #[]) : Value) w fun t13 w1 =>
  loopP (σ := Slc × Int × Int × Unit) (fun I1 s w2 =>
    cond (decide (s.2.2.1 < ((l.n : Nat) : Int)))
      (ixK l s.2.2.1 4 fun t18 =>
       ldS T_script_Item.rep t18 w2 fun t19 =>
       nw ty_script_Item [(.slice none 0 0), (.bool false), (.int .i64 0), (.int .i64 0)] w2 fun x w3 =>
       stK x (T_script_Item.rep.cells t19) w3 fun w4 =>
       joinP (σ := Slc × Unit) (fun s_1 w5 =>
         ldSl (x.add 0) w5 fun t38 =>
         loopP (σ := Slc × Int × Slc × Unit) (fun I3 s_2 w6 =>
           cond (decide (((s_2.2.2.1.n : Nat) : Int) > (0 : Int)))
             (ixK sizes s_2.2.1 1 fun t44 =>
              ldI .i64 t44 w6 fun t45 =>
              ((sizes.n : Nat) : Int) ≠ 0 ∧
              slK3 s_2.2.2.1 none (if ((s_2.2.2.1.n : Nat) : Int) < (if (0 : Int) > t45 then (0 : Int) else t45) then ((s_2.2.2.1.n : Nat) : Int) else (if (0 : Int) > t45 then (0 : Int) else t45)) (if ((s_2.2.2.1.n : Nat) : Int) < (if (0 : Int) > t45 then (0 : Int) else t45) then ((s_2.2.2.1.n : Nat) : Int) else (if (0 : Int) > t45 then (0 : Int) else t45)) 1 fun t59 =>
              c_script_twin (⟨t59, false, 0, 0⟩ : T_script_Item) w6 fun t61 w7 =>
              nw ty_script_Item [(.slice t61.Feed.a t61.Feed.n t61.Feed.c), (.bool t61.Size), (.int .i64 t61.Rows), (.int .i64 t61.Cols)] w7 fun t62 w8 =>
              apK PG #[ty_sl_script_Item, ty_sl_script_Item] ty_sl_script_Item s_2.1 (⟨(some t62), 1, 1⟩ : Slc) w8 fun t63 w9 =>
              slK s_2.2.2.1 (some (if ((s_2.2.2.1.n : Nat) : Int) < (if (0 : Int) > t45 then (0 : Int) else t45) then ((s_2.2.2.1.n : Nat) : Int) else (if (0 : Int) > t45 then (0 : Int) else t45))) none 1 fun t66 =>
              I3 (t63, ((IntKind.i64.wrap (s_2.2.1 + (1 : Int))).tmod ((sizes.n : Nat) : Int)), t66, ()) w9)
             (I1 (s_2.1, s_2.2.1, (IntKind.i64.wrap (s.2.2.1 + (1 : Int))), ()) w6)) (s_1.1, s.2.1, t38, ()) w5) fun J2 =>
       joinP (σ := Bool × Unit) (fun s_3 w10 =>
         cond s_3.1
           (ldS T_script_Item.rep x w10 fun t33 =>
            c_script_twin t33 w10 fun t34 w11 =>
            nw ty_script_Item [(.slice t34.Feed.a t34.Feed.n t34.Feed.c), (.bool t34.Size), (.int .i64 t34.Rows), (.int .i64 t34.Cols)] w11 fun t35 w12 =>
            apK PG #[ty_sl_script_Item, ty_sl_script_Item] ty_sl_script_Item s.1 (⟨(some t35), 1, 1⟩ : Slc) w12 fun t36 w13 =>
            I1 (t36, s.2.1, (IntKind.i64.wrap (s.2.2.1 + (1 : Int))), ()) w13)
           (J2 (s.1, ()) w10)) fun J4 =>
       ldB (x.add 1) w4 fun t21 =>
       cond t21
         (J4 (true, ()) w4)
         (cond (!t13)
            (J4 (true, ()) w4)
            (ldSl (x.add 0) w4 fun t28 =>
             J4 ((((t28.n : Nat) : Int) == (0 : Int)), ()) w4)))
      (K s.1 w2)) (⟨none, 0, 0⟩, 0, 0, ()) w1

def an_script_Cut : List Ann := [.none, .none, .none, .none, .none, .none, .join [(5, Kind.slice), (6, (Kind.int .i64)), (16, (Kind.int .i64))] [5, 6, 9, 10, 11, 16, 17, 18, 19, 20, 21, 22, 23, 24, 25, 26, 27, 28, 29, 30, 31, 32, 33, 34, 35, 36, 37, 38, 39, 40, 41, 42, 43, 44, 45, 46, 47, 48, 49, 50, 51, 52, 53, 54, 55, 56, 57, 58, 59, 60, 61, 62, 63, 64, 65, 66, 67], .none, .none, .none, .none, .join [(5, Kind.slice)] [5, 20, 21, 22, 23, 24, 25, 26, 27, 28, 29, 30, 31, 32, 33, 34, 35, 36], .join [(31, Kind.bool)] [20, 21, 22, 23, 24, 25, 26, 27, 28, 29, 30, 31], .none, .none, .join [(5, Kind.slice), (6, (Kind.int .i64)), (10, Kind.slice)] [5, 6, 10, 11, 39, 40, 41, 42, 43, 44, 45, 46, 47, 48, 49, 50, 51, 52, 53, 54, 55, 56, 57, 58, 59, 60, 61, 62, 63, 64, 65, 66], .none, .none, .none, .none, .none, .none]

theorem vc_script_Cut (sizes : Slc) (l : Slc) (w : World) (K : Slc → World → Prop) :
    vcFn C (Tryd.f27.body.getD .skip) Tryd.f27.results.toList Tryd.f27.ntmps an_script_Cut [Kind.slice] [(.slice sizes.a sizes.n sizes.c), (.slice l.a l.n l.c)] w (fun s w => K s.1 w) = sh_script_Cut sizes l w K := by kernel_rfl

theorem call_script_Cut (sizes : Slc) (l : Slc) {w : World} {K : Slc → World → Prop} (h : sh_script_Cut sizes l w K) : c_script_Cut sizes l w K := by
  rw [← vc_script_Cut] at h
  refine Calls.mono (calls_of_vc C.plain_ok C.mixed Tryd.func27 rfl h) ?_
  rintro e w' ⟨s, rfl, hK⟩
  exact ⟨s.1, rfl, hK⟩

/-- phosphor/phosphorlaw26.same -/
def sh_phosphorlaw26_same (a : Slc) (b : Slc) (w : World) (K : Bool → World → Prop) : Prop :=
  cond (((a.n : Nat) : Int) != ((b.n : Nat) : Int))
    (K false w)
    (loopP (σ := Int × Unit) (fun I1 s w1 =>
       cond (decide (s.1 < ((a.n : Nat) : Int)))
         (ixK a s.1 4 fun t19 =>
          ldSl (t19.add 0) w1.drew fun t21 =>
          ixK b s.1 4 fun t25 =>
          ldSl (t25.add 0) w1.drew fun t27 =>
            (runK1 PG (convert ty_sl_uint8 ty_string (.slice t21.a t21.n t21.c)) Kind.string w1.drew fun (t22 : ByteArray) w2 =>
             World.cell? w2 (t25.add 0) = some (.slice t27.a t27.n t27.c) ∧
             runK1 PG (convert ty_sl_uint8 ty_string (.slice t27.a t27.n t27.c)) Kind.string w2 fun (t28 : ByteArray) w3 =>
             World.cell? w3 (t19.add 0) = some (.slice t21.a t21.n t21.c) ∧
             cond (!(t22.toList == t28.toList))
               (K false w3)
               (ixK a s.1 4 fun t33 =>
                ldB (t33.add 1) w3 fun t35 =>
                ixK b s.1 4 fun t38 =>
                ldB (t38.add 1) w3 fun t40 =>
                cond (!(t35 == t40))
                  (K false w3)
                  (ixK a s.1 4 fun t46 =>
                   ldI .i64 (t46.add 2) w3 fun t48 =>
                   ixK b s.1 4 fun t51 =>
                   ldI .i64 (t51.add 2) w3 fun t53 =>
                   cond (t48 != t53)
                     (K false w3)
                     (ixK a s.1 4 fun t59 =>
                      ldI .i64 (t59.add 3) w3 fun t61 =>
                      ixK b s.1 4 fun t64 =>
                      ldI .i64 (t64.add 3) w3 fun t66 =>
                      cond (t61 != t66)
                        (K false w3)
                        (I1 ((IntKind.i64.wrap (s.1 + (1 : Int))), ()) w3))))) ∧
          runK1 PG (convert ty_sl_uint8 ty_string (.slice t27.a t27.n t27.c)) Kind.string w1.drew fun (t28_1 : ByteArray) w4 =>
          World.cell? w4 (t19.add 0) = some (.slice t21.a t21.n t21.c) ∧
          runK1 PG (convert ty_sl_uint8 ty_string (.slice t21.a t21.n t21.c)) Kind.string w4 fun (t22_1 : ByteArray) w5 =>
          World.cell? w5 (t25.add 0) = some (.slice t27.a t27.n t27.c) ∧
          cond (!(t22_1.toList == t28_1.toList))
            (K false w5)
            (ixK a s.1 4 fun t33_1 =>
             ldB (t33_1.add 1) w5 fun t35_1 =>
             ixK b s.1 4 fun t38_1 =>
             ldB (t38_1.add 1) w5 fun t40_1 =>
             cond (!(t35_1 == t40_1))
               (K false w5)
               (ixK a s.1 4 fun t46_1 =>
                ldI .i64 (t46_1.add 2) w5 fun t48_1 =>
                ixK b s.1 4 fun t51_1 =>
                ldI .i64 (t51_1.add 2) w5 fun t53_1 =>
                cond (t48_1 != t53_1)
                  (K false w5)
                  (ixK a s.1 4 fun t59_1 =>
                   ldI .i64 (t59_1.add 3) w5 fun t61_1 =>
                   ixK b s.1 4 fun t64_1 =>
                   ldI .i64 (t64_1.add 3) w5 fun t66_1 =>
                   cond (t61_1 != t66_1)
                     (K false w5)
                     (I1 ((IntKind.i64.wrap (s.1 + (1 : Int))), ()) w5)))))
         (K true w1)) (0, ()) w)

def an_phosphorlaw26_same : List Ann := [.none, .none, .none, .none, .none, .none, .join [(5, (Kind.int .i64))] [4, 5, 11, 12, 13, 14, 15, 16, 17, 18, 19, 20, 21, 22, 23, 24, 25, 26, 27, 28, 29, 30, 31, 32, 33, 34, 35, 36, 37, 38, 39, 40, 41, 42, 43, 44, 45, 46, 47, 48, 49, 50, 51, 52, 53, 54, 55, 56, 57, 58, 59, 60, 61, 62, 63, 64, 65, 66, 67, 68], .none, .none, .none, .none, .none, .none]

theorem vc_phosphorlaw26_same (a : Slc) (b : Slc) (w : World) (K : Bool → World → Prop) :
    vcFn C (Tryd.f28.body.getD .skip) Tryd.f28.results.toList Tryd.f28.ntmps an_phosphorlaw26_same [Kind.bool] [(.slice a.a a.n a.c), (.slice b.a b.n b.c)] w (fun s w => K s.1 w) = sh_phosphorlaw26_same a b w K := by kernel_rfl

theorem call_phosphorlaw26_same (a : Slc) (b : Slc) {w : World} {K : Bool → World → Prop} (h : sh_phosphorlaw26_same a b w K) : c_phosphorlaw26_same a b w K := by
  rw [← vc_phosphorlaw26_same] at h
  refine Calls.mono (calls_of_vc C.plain_ok C.mixed Tryd.func28 rfl h) ?_
  rintro e w' ⟨s, rfl, hK⟩
  exact ⟨s.1, rfl, hK⟩

/-- phosphor/phosphorref26.Join -/
def sh_phosphorref26_Join (l : Slc) (w : World) (K : Slc → World → Prop) : Prop :=
  loopP (σ := Slc × Int × Unit) (fun I1 s w1 =>
    cond (decide (s.2.1 < ((l.n : Nat) : Int)))
      (ixK l s.2.1 4 fun t15 =>
       ldS T_script_Item.rep t15 w1 fun t16 =>
       nw ty_phosphorref26_Item [(.slice none 0 0), (.bool false), (.int .i64 0), (.int .i64 0)] w1 fun x w2 =>
       stK x (T_script_Item.rep.cells t16) w2 fun w3 =>
       ldB (x.add 1) w3 fun t29 =>
       cond t29
         (ldI .i64 (x.add 2) w3 fun t32 =>
          ldI .i64 (x.add 3) w3 fun t34 =>
          nw ty_phosphorref26_Item [(.slice none 0 0), (.bool true), (.int .i64 t32), (.int .i64 t34)] w3 fun t36 w4 =>
          apK PG #[ty_sl_phosphorref26_Item, ty_sl_phosphorref26_Item] ty_sl_phosphorref26_Item s.1 (⟨(some t36), 1, 1⟩ : Slc) w4 fun t37 w5 =>
          I1 (t37, (IntKind.i64.wrap (s.2.1 + (1 : Int))), ()) w5)
         (ldSl (x.add 0) w3 fun t40 =>
          cond (((t40.n : Nat) : Int) == (0 : Int))
            (I1 (s.1, (IntKind.i64.wrap (s.2.1 + (1 : Int))), ()) w3)
            (joinP (σ := Bool × Unit) (fun s_1 w6 =>
               cond s_1.1
                 (ixK s.1 (IntKind.i64.wrap (((s.1.n : Nat) : Int) - (1 : Int))) 4 fun t62 =>
                  ldSl (t62.add 0) w6.drew fun t64 =>
                  ldSl (x.add 0) w6.drew fun t67 =>
                  nw ty_uint8 [] w6.drew fun t58 w7 =>
                  World.cell? w7 (x.add 0) = some (.slice t67.a t67.n t67.c) ∧
                  World.cell? w7 (t62.add 0) = some (.slice t64.a t64.n t64.c) ∧
                  apK PG #[ty_sl_uint8, ty_sl_uint8] ty_sl_uint8 (⟨(some t58), 0, 0⟩ : Slc) t64 w7 fun t65 w8 =>
                  World.cell? w8 (x.add 0) = some (.slice t67.a t67.n t67.c) ∧
                  apK PG #[ty_sl_uint8, ty_sl_uint8] ty_sl_uint8 t65 t67 w8 fun t68 w9 =>
                  ixK s.1 (IntKind.i64.wrap (((s.1.n : Nat) : Int) - (1 : Int))) 4 fun t69 =>
                  stK (t69.add 0) [(.slice t68.a t68.n t68.c)] w9 fun w10 =>
                  I1 (s.1, (IntKind.i64.wrap (s.2.1 + (1 : Int))), ()) w10)
                 (nw ty_uint8 [] w6 fun t20 w11 =>
                  ldSl (x.add 0) w11 fun t22 =>
                  apK PG #[ty_sl_uint8, ty_sl_uint8] ty_sl_uint8 (⟨(some t20), 0, 0⟩ : Slc) t22 w11 fun t23 w12 =>
                  nw ty_phosphorref26_Item [(.slice t23.a t23.n t23.c), (.bool false), (.int .i64 0), (.int .i64 0)] w12 fun t25 w13 =>
                  apK PG #[ty_sl_phosphorref26_Item, ty_sl_phosphorref26_Item] ty_sl_phosphorref26_Item s.1 (⟨(some t25), 1, 1⟩ : Slc) w13 fun t26 w14 =>
                  I1 (t26, (IntKind.i64.wrap (s.2.1 + (1 : Int))), ()) w14)) fun J2 =>
             cond (decide (((s.1.n : Nat) : Int) > (0 : Int)))
               (ixK s.1 (IntKind.i64.wrap (((s.1.n : Nat) : Int) - (1 : Int))) 4 fun t50 =>
                ldB (t50.add 1) w3 fun t52 =>
                J2 ((!t52), ()) w3)
               (J2 (false, ()) w3))))
      (K s.1 w1)) (⟨none, 0, 0⟩, 0, ()) w

def an_phosphorref26_Join : List Ann := [.none, .none, .none, .none, .join [(3, Kind.slice), (4, (Kind.int .i64))] [3, 4, 5, 6, 7, 8, 9, 10, 11, 12, 13, 14, 15, 16, 17, 18, 19, 20, 21, 22, 23, 24, 25, 26, 27, 28, 29, 30, 31, 32, 33, 34, 35, 36, 37, 38, 39, 40, 41, 42, 43, 44, 45, 46, 47, 48, 49, 50, 51, 52, 53, 54, 55, 56, 57, 58, 59, 60, 61, 62, 63, 64, 65, 66, 67, 68, 69, 70], .none, .none, .none, .none, .none, .none, .none, .join [(43, Kind.bool)] [43, 44, 45, 46, 47, 48, 49, 50, 51, 52, 53, 54], .none]

theorem vc_phosphorref26_Join (l : Slc) (w : World) (K : Slc → World → Prop) :
    vcFn C (Tryd.f29.body.getD .skip) Tryd.f29.results.toList Tryd.f29.ntmps an_phosphorref26_Join [Kind.slice] [(.slice l.a l.n l.c)] w (fun s w => K s.1 w) = sh_phosphorref26_Join l w K := by kernel_rfl

theorem call_phosphorref26_Join (l : Slc) {w : World} {K : Slc → World → Prop} (h : sh_phosphorref26_Join l w K) : c_phosphorref26_Join l w K := by
  rw [← vc_phosphorref26_Join] at h
  refine Calls.mono (calls_of_vc C.plain_ok C.mixed Tryd.func29 rfl h) ?_
  rintro e w' ⟨s, rfl, hK⟩
  exact ⟨s.1, rfl, hK⟩

/-- phosphor/phosphorlaw26.of -/
def sh_phosphorlaw26_of (l : Slc) (w : World) (K : Slc → World → Prop) : Prop :=
  loopP (σ := Slc × Int × Unit) (fun I1 s w1 =>
    cond (decide (s.2.1 < ((l.n : Nat) : Int)))
      (ixK l s.2.1 4 fun t14 =>
       ldSl (t14.add 0) w1.drew fun t16 =>
       ixK l s.2.1 4 fun t19 =>
       ldB (t19.add 1) w1.drew fun t21 =>
       ixK l s.2.1 4 fun t24 =>
       ldI .i64 (t24.add 2) w1.drew fun t26 =>
       ixK l s.2.1 4 fun t29 =>
       ldI .i64 (t29.add 3) w1.drew fun t31 =>
       nw ty_phosphorref26_Item [(.slice t16.a t16.n t16.c), (.bool t21), (.int .i64 t26), (.int .i64 t31)] w1.drew fun t33 w2 =>
       apK PG #[ty_sl_phosphorref26_Item, ty_sl_phosphorref26_Item] ty_sl_phosphorref26_Item s.1 (⟨(some t33), 1, 1⟩ : Slc) w2 fun t34 w3 =>
       I1 (t34, (IntKind.i64.wrap (s.2.1 + (1 : Int))), ()) w3)
      (K s.1 w1)) (⟨none, 0, 0⟩, 0, ()) w

def an_phosphorlaw26_of : List Ann := [.none, .none, .none, .none, .join [(3, Kind.slice), (4, (Kind.int .i64))] [3, 4, 5, 6, 7, 8, 9, 10, 11, 12, 13, 14, 15, 16, 17, 18, 19, 20, 21, 22, 23, 24, 25, 26, 27, 28, 29, 30, 31, 32, 33, 34], .none, .none, .none, .none]

theorem vc_phosphorlaw26_of (l : Slc) (w : World) (K : Slc → World → Prop) :
    vcFn C (Tryd.f30.body.getD .skip) Tryd.f30.results.toList Tryd.f30.ntmps an_phosphorlaw26_of [Kind.slice] [(.slice l.a l.n l.c)] w (fun s w => K s.1 w) = sh_phosphorlaw26_of l w K := by kernel_rfl

theorem call_phosphorlaw26_of (l : Slc) {w : World} {K : Slc → World → Prop} (h : sh_phosphorlaw26_of l w K) : c_phosphorlaw26_of l w K := by
  rw [← vc_phosphorlaw26_of] at h
  refine Calls.mono (calls_of_vc C.plain_ok C.mixed Tryd.func30 rfl h) ?_
  rintro e w' ⟨s, rfl, hK⟩
  exact ⟨s.1, rfl, hK⟩

/-- phosphor/phosphorref26.Cut -/
def sh_phosphorref26_Cut (sizes : Slc) (l : Slc) (w : World) (K : Slc → World → Prop) : Prop :=
  loopP (σ := Bool × Int × Unit) (fun I1 s w1 =>
    cond (decide (s.2.1 < ((sizes.n : Nat) : Int)))
      (cond s.1
         (I1 (true, (IntKind.i64.wrap (s.2.1 + (1 : Int))), ()) w1)
         (ixK sizes s.2.1 1 fun t23 =>
          ldI .i64 t23 w1 fun t24 =>
          I1 ((decide (t24 ≥ (1 : Int))), (IntKind.i64.wrap (s.2.1 + (1 : Int))), ()) w1))
      (loopP (σ := Slc × Int × Int × Unit) (fun I2 s_1 w2 =>
         cond (decide (s_1.2.2.1 < ((l.n : Nat) : Int)))
           (ixK l s_1.2.2.1 4 fun t35 =>
            ldS T_script_Item.rep t35 w2 fun t36 =>
            nw ty_phosphorref26_Item [(.slice none 0 0), (.bool false), (.int .i64 0), (.int .i64 0)] w2 fun x w3 =>
            stK x (T_script_Item.rep.cells t36) w3 fun w4 =>
            joinP (σ := Slc × Unit) (fun s_2 w5 =>
              ldSl (x.add 0) w5 fun t54 =>
              loopP (σ := Slc × Int × Slc × Unit) (fun I4 s_3 w6 =>
                cond (decide (((s_3.2.2.1.n : Nat) : Int) > (0 : Int)))
                  (ixK sizes s_3.2.1 1 fun t60 =>
                   ldI .i64 t60 w6 fun t61 =>
                   ((sizes.n : Nat) : Int) ≠ 0 ∧
                   cond (decide (t61 < (1 : Int)))
                     (nw ty_phosphorref26_Item [(.slice none 0 0), (.bool false), (.int .i64 0), (.int .i64 0)] w6 fun t71 w7 =>
                      apK PG #[ty_sl_phosphorref26_Item, ty_sl_phosphorref26_Item] ty_sl_phosphorref26_Item s_3.1 (⟨(some t71), 1, 1⟩ : Slc) w7 fun t72 w8 =>
                      I4 (t72, ((IntKind.i64.wrap (s_3.2.1 + (1 : Int))).tmod ((sizes.n : Nat) : Int)), s_3.2.2.1, ()) w8)
                     (joinP (σ := Int × Unit) (fun s_4 w9 =>
                        slK s_3.2.2.1 none (some s_4.1) 1 fun t82 =>
                        nw ty_phosphorref26_Item [(.slice t82.a t82.n t82.c), (.bool false), (.int .i64 0), (.int .i64 0)] w9 fun t84 w10 =>
                        apK PG #[ty_sl_phosphorref26_Item, ty_sl_phosphorref26_Item] ty_sl_phosphorref26_Item s_3.1 (⟨(some t84), 1, 1⟩ : Slc) w10 fun t85 w11 =>
                        slK s_3.2.2.1 (some s_4.1) none 1 fun t88 =>
                        I4 (t85, ((IntKind.i64.wrap (s_3.2.1 + (1 : Int))).tmod ((sizes.n : Nat) : Int)), t88, ()) w11) fun J5 =>
                      cond (decide (t61 > ((s_3.2.2.1.n : Nat) : Int)))
                        (J5 (((s_3.2.2.1.n : Nat) : Int), ()) w6)
                        (J5 (t61, ()) w6)))
                  (I2 (s_3.1, s_3.2.1, (IntKind.i64.wrap (s_1.2.2.1 + (1 : Int))), ()) w6)) (s_2.1, s_1.2.1, t54, ()) w5) fun J3 =>
            joinP (σ := Bool × Unit) (fun s_5 w12 =>
              cond s_5.1
                (ldS T_script_Item.rep x w12 fun t50 =>
                 nw ty_phosphorref26_Item [(.slice t50.Feed.a t50.Feed.n t50.Feed.c), (.bool t50.Size), (.int .i64 t50.Rows), (.int .i64 t50.Cols)] w12 fun t51 w13 =>
                 apK PG #[ty_sl_phosphorref26_Item, ty_sl_phosphorref26_Item] ty_sl_phosphorref26_Item s_1.1 (⟨(some t51), 1, 1⟩ : Slc) w13 fun t52 w14 =>
                 I2 (t52, s_1.2.1, (IntKind.i64.wrap (s_1.2.2.1 + (1 : Int))), ()) w14)
                (J3 (s_1.1, ()) w12)) fun J6 =>
            ldB (x.add 1) w4 fun t38 =>
            cond t38
              (J6 (true, ()) w4)
              (cond (!s.1)
                 (J6 (true, ()) w4)
                 (ldSl (x.add 0) w4 fun t45 =>
                  J6 ((((t45.n : Nat) : Int) == (0 : Int)), ()) w4)))
           (K s_1.1 w2)) (⟨none, 0, 0⟩, 0, 0, ()) w1)) (false, 0, ()) w

def an_phosphorref26_Cut : List Ann := [.none, .none, .none, .none, .join [(5, Kind.bool), (6, (Kind.int .i64))] [5, 6, 13, 14, 15, 16, 17, 18, 19, 20, 21, 22, 23, 24, 25, 26], .none, .none, .none, .none, .none, .none, .none, .join [(7, Kind.slice), (8, (Kind.int .i64)), (9, (Kind.int .i64))] [7, 8, 9, 10, 11, 12, 27, 28, 29, 30, 31, 32, 33, 34, 35, 36, 37, 38, 39, 40, 41, 42, 43, 44, 45, 46, 47, 48, 49, 50, 51, 52, 53, 54, 55, 56, 57, 58, 59, 60, 61, 62, 63, 64, 65, 66, 67, 68, 69, 70, 71, 72, 73, 74, 75, 76, 77, 78, 79, 80, 81, 82, 83, 84, 85, 86, 87, 88], .none, .none, .none, .none, .join [(7, Kind.slice)] [7, 37, 38, 39, 40, 41, 42, 43, 44, 45, 46, 47, 48, 49, 50, 51, 52], .join [(48, Kind.bool)] [37, 38, 39, 40, 41, 42, 43, 44, 45, 46, 47, 48], .none, .none, .join [(7, Kind.slice), (8, (Kind.int .i64)), (11, Kind.slice)] [7, 8, 11, 12, 55, 56, 57, 58, 59, 60, 61, 62, 63, 64, 65, 66, 67, 68, 69, 70, 71, 72, 73, 74, 75, 76, 77, 78, 79, 80, 81, 82, 83, 84, 85, 86, 87, 88], .none, .none, .none, .none, .none, .none, .none, .join [(12, (Kind.int .i64))] [12, 73, 74, 75, 76, 77, 78], .none, .none, .none]

theorem vc_phosphorref26_Cut (sizes : Slc) (l : Slc) (w : World) (K : Slc → World → Prop) :
    vcFn C (Tryd.f31.body.getD .skip) Tryd.f31.results.toList Tryd.f31.ntmps an_phosphorref26_Cut [Kind.slice] [(.slice sizes.a sizes.n sizes.c), (.slice l.a l.n l.c)] w (fun s w => K s.1 w) = sh_phosphorref26_Cut sizes l w K := by kernel_rfl

theorem call_phosphorref26_Cut (sizes : Slc) (l : Slc) {w : World} {K : Slc → World → Prop} (h : sh_phosphorref26_Cut sizes l w K) : c_phosphorref26_Cut sizes l w K := by
  rw [← vc_phosphorref26_Cut] at h
  refine Calls.mono (calls_of_vc C.plain_ok C.mixed Tryd.func31 rfl h) ?_
  rintro e w' ⟨s, rfl, hK⟩
  exact ⟨s.1, rfl, hK⟩

/-- phosphor/keys.Split -/
def sh_keys_Split (b : Slc) (w : World) (K : Slc → Slc → World → Prop) : Prop :=
  nw ty_uint8 [(.int .u8 59)] w fun t6 w1 =>
  runK1 PG (convert ty_sl_uint8 ty_sl_uint8 (.slice (some t6) 1 1)) Kind.slice w1 fun (t7 : Slc) w2 =>
  c_bytes_Cut b t7 w2 fun t8 t8_1 t8_2 w3 =>
  c_bytes_Clone t8 w3 fun t13 w4 =>
  c_bytes_Clone t8_1 w4 fun t15 w5 =>
  K t13 t15 w5

def an_keys_Split : List Ann := [.none, .none, .none]

theorem vc_keys_Split (b : Slc) (w : World) (K : Slc → Slc → World → Prop) :
    vcFn C (Tryd.f32.body.getD .skip) Tryd.f32.results.toList Tryd.f32.ntmps an_keys_Split [Kind.slice, Kind.slice] [(.slice b.a b.n b.c)] w (fun s w => K s.1 s.2.1 w) = sh_keys_Split b w K := by kernel_rfl

theorem call_keys_Split (b : Slc) {w : World} {K : Slc → Slc → World → Prop} (h : sh_keys_Split b w K) : c_keys_Split b w K := by
  rw [← vc_keys_Split] at h
  refine Calls.mono (calls_of_vc C.plain_ok C.mixed Tryd.func32 rfl h) ?_
  rintro e w' ⟨s, rfl, hK⟩
  exact ⟨s.1, s.2.1, rfl, hK⟩

/-- strconv.Itoa -/
def sh_strconv_Itoa (i : Int) (w : World) (K : ByteArray → World → Prop) : Prop :=
  c_internal_strconv_Itoa i w fun t4 w1 =>
  K t4 w1

def an_strconv_Itoa : List Ann := [.none, .none]

theorem vc_strconv_Itoa (i : Int) (w : World) (K : ByteArray → World → Prop) :
    vcFn C (Tryd.f33.body.getD .skip) Tryd.f33.results.toList Tryd.f33.ntmps an_strconv_Itoa [Kind.string] [(.int .i64 i)] w (fun s w => K s.1 w) = sh_strconv_Itoa i w K := by kernel_rfl

theorem call_strconv_Itoa (i : Int) {w : World} {K : ByteArray → World → Prop} (h : sh_strconv_Itoa i w K) : c_strconv_Itoa i w K := by
  rw [← vc_strconv_Itoa] at h
  refine Calls.mono (calls_of_vc C.plain_ok C.mixed Tryd.func33 rfl h) ?_
  rintro e w' ⟨s, rfl, hK⟩
  exact ⟨s.1, rfl, hK⟩

/-- strings.Join -/
def sh_strings_Join (elems : Slc) (sep : ByteArray) (w : World) (K : ByteArray → World → Prop) : Prop :=
  cond (((elems.n : Nat) : Int) == (0 : Int))
    (K (⟨#[]⟩ : ByteArray) w)
    (cond (((elems.n : Nat) : Int) == (1 : Int))
       (ixK elems 0 1 fun t18 =>
        ldStr t18 w fun t19 =>
        K t19 w)
       (joinP (σ := Int × Unit) (fun s w1 =>
          loopP (σ := Int × Int × Unit) (fun I2 s_1 w2 =>
            cond (decide (s_1.2.1 < ((elems.n : Nat) : Int)))
              (ixK elems s_1.2.1 1 fun t43 =>
               ldStr t43 w2 fun t44 =>
               joinP (σ := Unit) (fun s_2 w3 =>
                 I2 ((IntKind.i64.wrap (s_1.1 + (t44.size : Int))), (IntKind.i64.wrap (s_1.2.1 + (1 : Int))), ()) w3) fun J3 =>
               cond (decide ((t44.size : Int) > (IntKind.i64.wrap ((9223372036854775807 : Int) - s_1.1))))
                 (False)
                 (J3 (()) w2))
              (nw ty_strings_Builder [(.pointer none), (.slice none 0 0)] w2 fun b w4 =>
               c_strings_Builder_Grow (some b) s_1.1 w4 fun w5 =>
               ixK elems 0 1 fun t59 =>
               ldStr t59 w5 fun t60 =>
               c_strings_Builder_WriteString (some b) t60 w5 fun t61 t61_1 w6 =>
               slK elems (some 1) none 1 fun t63 =>
               loopP (σ := Int × Unit) (fun I4 s_3 w7 =>
                 cond (decide (s_3.1 < ((t63.n : Nat) : Int)))
                   (ixK t63 s_3.1 1 fun t67 =>
                    ldStr t67 w7 fun t68 =>
                    c_strings_Builder_WriteString (some b) sep w7 fun t70 t70_1 w8 =>
                    c_strings_Builder_WriteString (some b) t68 w8 fun t72 t72_1 w9 =>
                    I4 ((IntKind.i64.wrap (s_3.1 + (1 : Int))), ()) w9)
                   (c_strings_Builder_String (some b) w7 fun t74 w10 =>
                    K t74 w10)) (0, ()) w6)) (s.1, 0, ()) w1) fun J1 =>
        cond (decide ((sep.size : Int) > (0 : Int)))
          (joinP (σ := Unit) (fun s_4 w11 =>
             J1 ((IntKind.i64.wrap ((0 : Int) + (IntKind.i64.wrap ((sep.size : Int) * (IntKind.i64.wrap (((elems.n : Nat) : Int) - (1 : Int))))))), ()) w11) fun J5 =>
           (IntKind.i64.wrap (((elems.n : Nat) : Int) - (1 : Int))) ≠ 0 ∧
           cond (decide ((sep.size : Int) ≥ (IntKind.i64.wrap ((9223372036854775807 : Int).tdiv (IntKind.i64.wrap (((elems.n : Nat) : Int) - (1 : Int)))))))
             (False)
             (J5 (()) w))
          (J1 (0, ()) w)))

def an_strings_Join : List Ann := [.none, .none, .none, .none, .none, .none, .none, .none, .join [(5, (Kind.int .i64))] [5, 20, 21, 22, 23, 24, 25, 26, 27, 28, 29, 30, 31, 32, 33, 34, 35, 36, 37, 38], .none, .join [] [23, 24, 25, 26, 27, 28, 29, 30], .none, .none, .none, .join [(5, (Kind.int .i64)), (41, (Kind.int .i64))] [5, 7, 41, 42, 43, 44, 45, 46, 47, 48, 49, 50, 51, 52, 53, 54, 55], .none, .none, .none, .none, .join [] [45, 46, 47, 48, 49, 50], .none, .none, .none, .none, .none, .none, .join [(65, (Kind.int .i64))] [10, 65, 66, 67, 68, 69, 70, 71, 72, 73], .none, .none, .none, .none, .none, .none]

theorem vc_strings_Join (elems : Slc) (sep : ByteArray) (w : World) (K : ByteArray → World → Prop) :
    vcFn C (Tryd.f34.body.getD .skip) Tryd.f34.results.toList Tryd.f34.ntmps an_strings_Join [Kind.string] [(.slice elems.a elems.n elems.c), (.string sep)] w (fun s w => K s.1 w) = sh_strings_Join elems sep w K := by kernel_rfl

theorem call_strings_Join (elems : Slc) (sep : ByteArray) {w : World} {K : ByteArray → World → Prop} (h : sh_strings_Join elems sep w K) : c_strings_Join elems sep w K := by
  rw [← vc_strings_Join] at h
  refine Calls.mono (calls_of_vc C.plain_ok C.mixed Tryd.func34 rfl h) ?_
  rintro e w' ⟨s, rfl, hK⟩
  exact ⟨s.1, rfl, hK⟩

/-- phosphor/phosphorref19.decimal -/
def sh_phosphorref19_decimal (n : Int) (w : World) (K : ByteArray → World → Prop) : Prop :=
  (10 : Int) ≠ 0 ∧
  nw ty_uint8 [(.int .u8 (IntKind.u8.wrap (IntKind.i64.wrap ((48 : Int) + (n.tmod (10 : Int))))))] w fun t8 w1 =>
  runK1 PG (convert ty_sl_uint8 ty_string (.slice (some t8) 1 1)) Kind.string w1 fun (t9 : ByteArray) w2 =>
  loopP (σ := Int × ByteArray × Unit) (fun I1 s w3 =>
    cond (decide (s.1 ≥ (10 : Int)))
      ((10 : Int) ≠ 0 ∧
       (10 : Int) ≠ 0 ∧
       nw ty_uint8 [(.int .u8 (IntKind.u8.wrap (IntKind.i64.wrap ((48 : Int) + ((IntKind.i64.wrap (s.1.tdiv (10 : Int))).tmod (10 : Int))))))] w3 fun t18 w4 =>
       runK1 PG (convert ty_sl_uint8 ty_string (.slice (some t18) 1 1)) Kind.string w4 fun (t19 : ByteArray) w5 =>
       (((t19.size + s.2.1.size : Nat) : Int) ≤ 9223372036854775807) ∧
       I1 ((IntKind.i64.wrap (s.1.tdiv (10 : Int))), (t19 ++ s.2.1), ()) w5)
      (K s.2.1 w3)) (n, t9, ()) w2

def an_phosphorref19_decimal : List Ann := [.none, .none, .none, .join [(0, (Kind.int .i64)), (3, Kind.string)] [0, 3, 10, 11, 12, 13, 14, 15, 16, 17, 18, 19, 20, 21], .none, .none, .none, .none]

theorem vc_phosphorref19_decimal (n : Int) (w : World) (K : ByteArray → World → Prop) :
    vcFn C (Tryd.f35.body.getD .skip) Tryd.f35.results.toList Tryd.f35.ntmps an_phosphorref19_decimal [Kind.string] [(.int .i64 n)] w (fun s w => K s.1 w) = sh_phosphorref19_decimal n w K := by kernel_rfl

theorem call_phosphorref19_decimal (n : Int) {w : World} {K : ByteArray → World → Prop} (h : sh_phosphorref19_decimal n w K) : c_phosphorref19_decimal n w K := by
  rw [← vc_phosphorref19_decimal] at h
  refine Calls.mono (calls_of_vc C.plain_ok C.mixed Tryd.func35 rfl h) ?_
  rintro e w' ⟨s, rfl, hK⟩
  exact ⟨s.1, rfl, hK⟩

/-- phosphor/keys.may -/
def sh_keys_may (k : T_keys_Keys) (w : World) (K : Bool → World → Prop) : Prop :=
  nw ty_keys_Keys (T_keys_Keys.rep.cells k) w fun k_1 w1 =>
  loopP (σ := Int × Unit) (fun I1 s w2 =>
    cond (decide (s.1 < (4 : Int)))
      (ixS (⟨#[97, 116, 111, 100]⟩ : ByteArray) s.1 fun t11 =>
       c_keys_Keys_sign (some k_1) t11 w2 fun t12 w3 =>
       onPtr t12 fun t13 =>
       ldI .u8 t13 w3 fun t14 =>
       cond (t14 != (0 : Int))
         (c_keys_visible t14 w3 fun t24 w4 =>
          cond (!t24)
            (K false w4)
            (cond (t14 == (44 : Int))
               (K false w4)
               (I1 ((IntKind.i64.wrap (s.1 + (1 : Int))), ()) w4)))
         (ixS (⟨#[97, 116, 111, 100]⟩ : ByteArray) s.1 fun t19 =>
          cond (t19 != (111 : Int))
            (c_keys_visible t14 w3 fun t24_1 w5 =>
             cond (!t24_1)
               (K false w5)
               (cond (t14 == (44 : Int))
                  (K false w5)
                  (I1 ((IntKind.i64.wrap (s.1 + (1 : Int))), ()) w5)))
            (I1 ((IntKind.i64.wrap (s.1 + (1 : Int))), ()) w3)))
      (loopP (σ := Int × Unit) (fun I2 s_1 w6 =>
         cond (decide (s_1.1 < (17 : Int)))
           (ixS (⟨#[113, 102, 115, 118, 105, 73, 112, 109, 120, 121, 119, 104, 88, 89, 114, 99, 67]⟩ : ByteArray) s_1.1 fun t36 =>
            c_keys_Keys_number (some k_1) t36 w6 fun t37 w7 =>
            onPtr t37 fun t38 =>
            ldI .i64 t38 w7 fun t39 =>
            cond (decide (t39 < (0 : Int)))
              (K false w7)
              (cond (decide (t39 > (4294967295 : Int)))
                 (K false w7)
                 (I2 ((IntKind.i64.wrap (s_1.1 + (1 : Int))), ()) w7)))
           (ldI .i64 (k_1.add 20) w6 fun t48 =>
            cond (decide (t48 ≥ ((-1073741824) : Int)))
              (ldI .i64 (k_1.add 20) w6 fun t52 =>
               K (decide (t52 < (1073741824 : Int))) w6)
              (K false w6))) (0, ()) w2)) (0, ()) w1

def an_keys_may : List Ann := [.none, .none, .none, .join [(7, (Kind.int .i64))] [2, 3, 4, 7, 8, 9, 10, 11, 12, 13, 14, 15, 16, 17, 18, 19, 20, 21, 22, 23, 24, 25, 26, 27, 28, 29, 30, 31], .none, .none, .none, .none, .none, .none, .none, .none, .none, .join [(32, (Kind.int .i64))] [2, 5, 6, 32, 33, 34, 35, 36, 37, 38, 39, 40, 41, 42, 43, 44, 45, 46], .none, .none, .none, .none, .none, .none, .none, .none]

theorem vc_keys_may (k : T_keys_Keys) (w : World) (K : Bool → World → Prop) :
    vcFn C (Tryd.f36.body.getD .skip) Tryd.f36.results.toList Tryd.f36.ntmps an_keys_may [Kind.bool] [(.agg #[(.int .u8 k.Action), (.int .u8 k.Medium), (.int .u8 k.Zip), (.int .u8 k.What), (.int .i64 k.Quiet), (.int .i64 k.Format), (.int .i64 k.W), (.int .i64 k.H), (.int .i64 k.Id), (.int .i64 k.Number), (.int .i64 k.Place), (.int .i64 k.More), (.int .i64 k.X), (.int .i64 k.Y), (.int .i64 k.PW), (.int .i64 k.PH), (.int .i64 k.DX), (.int .i64 k.DY), (.int .i64 k.Rows), (.int .i64 k.Cols), (.int .i64 k.Z), (.int .i64 k.Stay)])] w (fun s w => K s.1 w) = sh_keys_may k w K := by kernel_rfl

theorem call_keys_may (k : T_keys_Keys) {w : World} {K : Bool → World → Prop} (h : sh_keys_may k w K) : c_keys_may k w K := by
  rw [← vc_keys_may] at h
  refine Calls.mono (calls_of_vc C.plain_ok C.mixed Tryd.func36 rfl h) ?_
  rintro e w' ⟨s, rfl, hK⟩
  exact ⟨s.1, rfl, hK⟩

/-- (*phosphor/keys.Keys).sign -/
def sh_keys_Keys_sign (k : Option Addr) (c : Int) (w : World) (K : Option Addr → World → Prop) : Prop :=
  c_strings_IndexByte (⟨#[97, 116, 111, 100]⟩ : ByteArray) c w fun t7 w1 =>
  cond (decide (t7 < (0 : Int)))
    (K none w1)
    (onPtr k fun t11 =>
     onPtr k fun t14 =>
     onPtr k fun t17 =>
     onPtr k fun t20 =>
     nw ty_p_uint8 [(.pointer (some (t11.add 0))), (.pointer (some (t14.add 1))), (.pointer (some (t17.add 2))), (.pointer (some (t20.add 3)))] w1.drew fun t22 w2 =>
     (0 ≤ t7 ∧ t7 < (4 : Nat)) ∧
     ldP (t22.add ((t7 : Int).toNat * 1)) w2 fun t25 =>
     K t25 w2)

def an_keys_Keys_sign : List Ann := [.none, .none, .none, .none, .none, .none]

theorem vc_keys_Keys_sign (k : Option Addr) (c : Int) (w : World) (K : Option Addr → World → Prop) :
    vcFn C (Tryd.f37.body.getD .skip) Tryd.f37.results.toList Tryd.f37.ntmps an_keys_Keys_sign [Kind.ptr] [(.pointer k), (.int .u8 c)] w (fun s w => K s.1 w) = sh_keys_Keys_sign k c w K := by kernel_rfl

theorem call_keys_Keys_sign (k : Option Addr) (c : Int) {w : World} {K : Option Addr → World → Prop} (h : sh_keys_Keys_sign k c w K) : c_keys_Keys_sign k c w K := by
  rw [← vc_keys_Keys_sign] at h
  refine Calls.mono (calls_of_vc C.plain_ok C.mixed Tryd.func37 rfl h) ?_
  rintro e w' ⟨s, rfl, hK⟩
  exact ⟨s.1, rfl, hK⟩

/-- (*phosphor/keys.Keys).number -/
def sh_keys_Keys_number (k : Option Addr) (c : Int) (w : World) (K : Option Addr → World → Prop) : Prop :=
  c_strings_IndexByte (⟨#[113, 102, 115, 118, 105, 73, 112, 109, 120, 121, 119, 104, 88, 89, 114, 99, 67]⟩ : ByteArray) c w fun t7 w1 =>
  cond (decide (t7 < (0 : Int)))
    (K none w1)
    (onPtr k fun t11 =>
     onPtr k fun t14 =>
     onPtr k fun t17 =>
     onPtr k fun t20 =>
     onPtr k fun t23 =>
     onPtr k fun t26 =>
     onPtr k fun t29 =>
     onPtr k fun t32 =>
     onPtr k fun t35 =>
     onPtr k fun t38 =>
     onPtr k fun t41 =>
     onPtr k fun t44 =>
     onPtr k fun t47 =>
     onPtr k fun t50 =>
     onPtr k fun t53 =>
     onPtr k fun t56 =>
     onPtr k fun t59 =>
     nw ty_p_int [(.pointer (some (t11.add 4))), (.pointer (some (t14.add 5))), (.pointer (some (t17.add 6))), (.pointer (some (t20.add 7))), (.pointer (some (t23.add 8))), (.pointer (some (t26.add 9))), (.pointer (some (t29.add 10))), (.pointer (some (t32.add 11))), (.pointer (some (t35.add 12))), (.pointer (some (t38.add 13))), (.pointer (some (t41.add 14))), (.pointer (some (t44.add 15))), (.pointer (some (t47.add 16))), (.pointer (some (t50.add 17))), (.pointer (some (t53.add 18))), (.pointer (some (t56.add 19))), (.pointer (some (t59.add 21)))] w1.drew fun t61 w2 =>
     (0 ≤ t7 ∧ t7 < (17 : Nat)) ∧
     ldP (t61.add ((t7 : Int).toNat * 1)) w2 fun t64 =>
     K t64 w2)

def an_keys_Keys_number : List Ann := [.none, .none, .none, .none, .none, .none]

theorem vc_keys_Keys_number (k : Option Addr) (c : Int) (w : World) (K : Option Addr → World → Prop) :
    vcFn C (Tryd.f38.body.getD .skip) Tryd.f38.results.toList Tryd.f38.ntmps an_keys_Keys_number [Kind.ptr] [(.pointer k), (.int .u8 c)] w (fun s w => K s.1 w) = sh_keys_Keys_number k c w K := by kernel_rfl

theorem call_keys_Keys_number (k : Option Addr) (c : Int) {w : World} {K : Option Addr → World → Prop} (h : sh_keys_Keys_number k c w K) : c_keys_Keys_number k c w K := by
  rw [← vc_keys_Keys_number] at h
  refine Calls.mono (calls_of_vc C.plain_ok C.mixed Tryd.func38 rfl h) ?_
  rintro e w' ⟨s, rfl, hK⟩
  exact ⟨s.1, rfl, hK⟩

/-- phosphor/phosphorref19.get -/
def sh_phosphorref19_get (k : T_keys_Keys) (i : Int) (w : World) (K : Int → World → Prop) : Prop :=
  nw ty_phosphorref19_Keys (T_keys_Keys.rep.cells k) w fun k_1 w1 =>
  ldI .i64 (k_1.add 4) w1 fun t7 =>
  ldI .i64 (k_1.add 5) w1 fun t9 =>
  ldI .i64 (k_1.add 6) w1 fun t11 =>
  ldI .i64 (k_1.add 7) w1 fun t13 =>
  ldI .i64 (k_1.add 8) w1 fun t15 =>
  ldI .i64 (k_1.add 9) w1 fun t17 =>
  ldI .i64 (k_1.add 10) w1 fun t19 =>
  ldI .i64 (k_1.add 11) w1 fun t21 =>
  ldI .i64 (k_1.add 12) w1 fun t23 =>
  ldI .i64 (k_1.add 13) w1 fun t25 =>
  ldI .i64 (k_1.add 14) w1 fun t27 =>
  ldI .i64 (k_1.add 15) w1 fun t29 =>
  ldI .i64 (k_1.add 16) w1 fun t31 =>
  ldI .i64 (k_1.add 17) w1 fun t33 =>
  ldI .i64 (k_1.add 18) w1 fun t35 =>
  ldI .i64 (k_1.add 19) w1 fun t37 =>
  ldI .i64 (k_1.add 21) w1 fun t39 =>
  nw ty_int [(.int .i64 t7), (.int .i64 t9), (.int .i64 t11), (.int .i64 t13), (.int .i64 t15), (.int .i64 t17), (.int .i64 t19), (.int .i64 t21), (.int .i64 t23), (.int .i64 t25), (.int .i64 t27), (.int .i64 t29), (.int .i64 t31), (.int .i64 t33), (.int .i64 t35), (.int .i64 t37), (.int .i64 t39)] w1 fun t40 w2 =>
  (0 ≤ i ∧ i < (17 : Nat)) ∧
  ldI .i64 (t40.add ((i : Int).toNat * 1)) w2 fun t44 =>
  K t44 w2

def an_phosphorref19_get : List Ann := [.none, .none, .none]

theorem vc_phosphorref19_get (k : T_keys_Keys) (i : Int) (w : World) (K : Int → World → Prop) :
    vcFn C (Tryd.f39.body.getD .skip) Tryd.f39.results.toList Tryd.f39.ntmps an_phosphorref19_get [(Kind.int .i64)] [(.agg #[(.int .u8 k.Action), (.int .u8 k.Medium), (.int .u8 k.Zip), (.int .u8 k.What), (.int .i64 k.Quiet), (.int .i64 k.Format), (.int .i64 k.W), (.int .i64 k.H), (.int .i64 k.Id), (.int .i64 k.Number), (.int .i64 k.Place), (.int .i64 k.More), (.int .i64 k.X), (.int .i64 k.Y), (.int .i64 k.PW), (.int .i64 k.PH), (.int .i64 k.DX), (.int .i64 k.DY), (.int .i64 k.Rows), (.int .i64 k.Cols), (.int .i64 k.Z), (.int .i64 k.Stay)]), (.int .i64 i)] w (fun s w => K s.1 w) = sh_phosphorref19_get k i w K := by kernel_rfl

theorem call_phosphorref19_get (k : T_keys_Keys) (i : Int) {w : World} {K : Int → World → Prop} (h : sh_phosphorref19_get k i w K) : c_phosphorref19_get k i w K := by
  rw [← vc_phosphorref19_get] at h
  refine Calls.mono (calls_of_vc C.plain_ok C.mixed Tryd.func39 rfl h) ?_
  rintro e w' ⟨s, rfl, hK⟩
  exact ⟨s.1, rfl, hK⟩

/-- strings.Split -/
def sh_strings_Split (s : ByteArray) (sep : ByteArray) (w : World) (K : Slc → World → Prop) : Prop :=
  c_strings_genSplit s sep 0 (-1) w fun t7 w1 =>
  K t7 w1

def an_strings_Split : List Ann := [.none, .none]

theorem vc_strings_Split (s : ByteArray) (sep : ByteArray) (w : World) (K : Slc → World → Prop) :
    vcFn C (Tryd.f40.body.getD .skip) Tryd.f40.results.toList Tryd.f40.ntmps an_strings_Split [Kind.slice] [(.string s), (.string sep)] w (fun s w => K s.1 w) = sh_strings_Split s sep w K := by kernel_rfl

theorem call_strings_Split (s : ByteArray) (sep : ByteArray) {w : World} {K : Slc → World → Prop} (h : sh_strings_Split s sep w K) : c_strings_Split s sep w K := by
  rw [← vc_strings_Split] at h
  refine Calls.mono (calls_of_vc C.plain_ok C.mixed Tryd.func40 rfl h) ?_
  rintro e w' ⟨s, rfl, hK⟩
  exact ⟨s.1, rfl, hK⟩

/-- (*phosphor/keys.Keys).one -/
def sh_keys_Keys_one (k : Option Addr) (s : ByteArray) (w : World) (K : Bool → World → Prop) : Prop :=
  joinP (σ := Unit) (fun s_1 w1 =>
    ixS s 0 fun t18 =>
    slS s (some 2) none fun t20 =>
    joinP (σ := Bool × Unit) (fun s_2 w2 =>
      cond (!s_2.1)
        (K s_2.1 w2)
        (cond (t18 == (122 : Int))
           (c_keys_depth t20 w2 fun t39 t39_1 w3 =>
            onPtr k fun t42 =>
            stK (t42.add 20) [(.int .i64 t39)] w3 fun w4 =>
            K t39_1 w4)
           (c_keys_Keys_sign k t18 w2 fun t47 w5 =>
            cond (!t47.isNone)
              (joinP (σ := Bool × Unit) (fun s_3 w6 =>
                 cond s_3.1
                   (ixS t20 0 fun t62 =>
                    c_keys_Keys_sign k t18 w6.drew fun t60 w7 =>
                    onPtr t60 fun t63 =>
                    stK t63 [(.int .u8 t62)] w7 fun w8 =>
                    K s_3.1 w8)
                   (K s_3.1 w6)) fun J3 =>
               cond ((t20.size : Int) == (1 : Int))
                 (ixS t20 0 fun t54 =>
                  c_keys_visible t54 w5 fun t55 w9 =>
                  J3 (t55, ()) w9)
                 (J3 (false, ()) w5))
              (c_keys_Keys_number k t18 w5 fun t67 w10 =>
               cond (!t67.isNone)
                 (c_keys_Keys_number k t18 w10 fun t72 w11 =>
                  c_keys_read t20 w11 fun t74 t74_1 w12 =>
                  onPtr t72 fun t77 =>
                  stK t77 [(.int .i64 t74)] w12 fun w13 =>
                  K t74_1 w13)
                 (K s_2.1 w10))))) fun J2 =>
    cond (decide ((bitsR .or .u8 t18 (32 : Int)) ≥ (97 : Int)))
      (J2 ((decide ((bitsR .or .u8 t18 (32 : Int)) ≤ (122 : Int))), ()) w1.drew)
      (J2 (false, ()) w1.drew)) fun J1 =>
  cond (decide ((s.size : Int) < (2 : Int)))
    (K false w)
    (ixS s 1 fun t14 =>
     cond (t14 != (61 : Int))
       (K false w)
       (J1 (()) w))

def an_keys_Keys_one : List Ann := [.none, .join [] [4, 9, 10, 11, 12, 13, 14, 15, 16], .none, .none, .none, .join [(7, Kind.bool)] [7, 21, 22, 23, 24, 25, 26, 27, 28], .none, .none, .none, .none, .none, .join [(8, Kind.bool)] [8, 49, 50, 51, 52, 53, 54, 55, 56], .none, .none, .none]

theorem vc_keys_Keys_one (k : Option Addr) (s : ByteArray) (w : World) (K : Bool → World → Prop) :
    vcFn C (Tryd.f41.body.getD .skip) Tryd.f41.results.toList Tryd.f41.ntmps an_keys_Keys_one [Kind.bool] [(.pointer k), (.string s)] w (fun s w => K s.1 w) = sh_keys_Keys_one k s w K := by kernel_rfl

theorem call_keys_Keys_one (k : Option Addr) (s : ByteArray) {w : World} {K : Bool → World → Prop} (h : sh_keys_Keys_one k s w K) : c_keys_Keys_one k s w K := by
  rw [← vc_keys_Keys_one] at h
  refine Calls.mono (calls_of_vc C.plain_ok C.mixed Tryd.func41 rfl h) ?_
  rintro e w' ⟨s, rfl, hK⟩
  exact ⟨s.1, rfl, hK⟩

/-- phosphor/phosphorref19.one -/
def sh_phosphorref19_one (k : T_keys_Keys) (s : ByteArray) (w : World) (K : T_keys_Keys → Bool → World → Prop) : Prop :=
  nw ty_phosphorref19_Keys (T_keys_Keys.rep.cells k) w fun k_1 w1 =>
  nw ty_phosphorref19_Keys [(.int .u8 0), (.int .u8 0), (.int .u8 0), (.int .u8 0), (.int .i64 0), (.int .i64 0), (.int .i64 0), (.int .i64 0), (.int .i64 0), (.int .i64 0), (.int .i64 0), (.int .i64 0), (.int .i64 0), (.int .i64 0), (.int .i64 0), (.int .i64 0), (.int .i64 0), (.int .i64 0), (.int .i64 0), (.int .i64 0), (.int .i64 0), (.int .i64 0)] w1 fun t4 w2 =>
  joinP (σ := Unit) (fun s_1 w3 =>
    ixS s 0 fun t28 =>
    slS s (some 2) none fun t30 =>
    joinP (σ := Unit) (fun s_2 w4 =>
      cond (t28 == (122 : Int))
        (joinP (σ := Bool × Unit) (fun s_3 w5 =>
           joinP (σ := ByteArray × Unit) (fun s_4 w6 =>
             c_phosphorref19_number s_4.1 w6 fun t65 w7 =>
             joinP (σ := Unit) (fun s_5 w8 =>
               stK (k_1.add 20) [(.int .i64 t65)] w8 fun w9 =>
               cond s_3.1
                 (stK (k_1.add 20) [(.int .i64 (IntKind.i64.wrap ((0 : Int) - t65)))] w9 fun w10 =>
                  ldS T_keys_Keys.rep k_1 w10 fun t90 =>
                  stK t4 (T_keys_Keys.rep.cells t90) w10 fun w11 =>
                  ldS T_keys_Keys.rep t4 w11 fun r =>
                  K r true w11)
                 (ldS T_keys_Keys.rep k_1 w9 fun t90_1 =>
                  stK t4 (T_keys_Keys.rep.cells t90_1) w9 fun w12 =>
                  ldS T_keys_Keys.rep t4 w12 fun r_1 =>
                  K r_1 true w12)) fun J5 =>
             joinP (σ := Bool × Unit) (fun s_6 w13 =>
               cond s_6.1
                 (ldS T_keys_Keys.rep k_1 w13 fun t83 =>
                  stK t4 (T_keys_Keys.rep.cells t83) w13 fun w14 =>
                  ldS T_keys_Keys.rep t4 w14 fun r_2 =>
                  K r_2 false w14)
                 (J5 (()) w13)) fun J6 =>
             cond (decide (t65 < (0 : Int)))
               (J6 (true, ()) w7)
               (cond s_3.1
                  (cond (decide (t65 > (1073741824 : Int)))
                     (J6 (true, ()) w7)
                     (cond (!s_3.1)
                        (J6 ((decide (t65 ≥ (1073741824 : Int))), ()) w7)
                        (J6 (false, ()) w7)))
                  (cond (!s_3.1)
                     (J6 ((decide (t65 ≥ (1073741824 : Int))), ()) w7)
                     (J6 (false, ()) w7)))) fun J4 =>
           cond s_3.1
             (slS t30 (some 1) none fun t63 =>
              J4 (t63, ()) w5)
             (J4 (t30, ()) w5)) fun J3 =>
         cond (decide ((t30.size : Int) > (0 : Int)))
           (ixS t30 0 fun t58 =>
            J3 ((t58 == (45 : Int)), ()) w4)
           (J3 (false, ()) w4))
        (c_phosphorref19_place t28 w4 fun t92 w15 =>
         cond (decide (t92 < (0 : Int)))
           (ldS T_keys_Keys.rep k_1 w15 fun t95 =>
            stK t4 (T_keys_Keys.rep.cells t95) w15 fun w16 =>
            ldS T_keys_Keys.rep t4 w16 fun r_3 =>
            K r_3 true w16)
           (c_phosphorref19_number t30 w15 fun t97 w17 =>
            ldS T_keys_Keys.rep k_1 w17 fun t98 =>
            c_phosphorref19_with t98 t92 t97 w17 fun t101 w18 =>
            stK t4 (T_keys_Keys.rep.cells t101) w18 fun w19 =>
            ldS T_keys_Keys.rep t4 w19 fun r_4 =>
            K r_4 (decide (t97 ≥ (0 : Int))) w19))) fun J2 =>
    joinP (σ := Bool × Unit) (fun s_7 w20 =>
      cond s_7.1
        (ldS T_keys_Keys.rep k_1 w20 fun t45 =>
         c_phosphorref19_sign t45 t28 t30 w20 fun t48 t48_1 w21 =>
         stK t4 (T_keys_Keys.rep.cells t48) w21 fun w22 =>
         ldS T_keys_Keys.rep t4 w22 fun r_5 =>
         K r_5 t48_1 w22)
        (J2 (()) w20)) fun J7 =>
    cond (t28 == (97 : Int))
      (J7 (true, ()) w3)
      (cond (t28 == (116 : Int))
         (J7 (true, ()) w3)
         (cond (t28 == (111 : Int))
            (J7 (true, ()) w3)
            (J7 ((t28 == (100 : Int)), ()) w3)))) fun J1 =>
  joinP (σ := Bool × Unit) (fun s_8 w23 =>
    cond s_8.1
      (ldS T_keys_Keys.rep k_1 w23 fun t26 =>
       stK t4 (T_keys_Keys.rep.cells t26) w23 fun w24 =>
       ldS T_keys_Keys.rep t4 w24 fun r_6 =>
       K r_6 false w24)
      (J1 (()) w23)) fun J8 =>
  cond (decide ((s.size : Int) < (2 : Int)))
    (J8 (true, ()) w2)
    (ixS s 1 fun t17 =>
     cond (t17 != (61 : Int))
       (J8 (true, ()) w2)
       (ixS s 0 fun t22 =>
        c_phosphorref19_letter t22 w2 fun t23 w25 =>
        J8 ((!t23), ()) w25))

def an_phosphorref19_one : List Ann := [.none, .join [] [5, 12, 13, 14, 15, 16, 17, 18, 19, 20, 21, 22, 23, 24, 25, 26], .join [(25, Kind.bool)] [12, 13, 14, 15, 16, 17, 18, 19, 20, 21, 22, 23, 24, 25], .none, .none, .none, .join [] [5, 31, 32, 33, 34, 35, 36, 37, 38, 39, 40, 41, 42, 43, 44, 45, 46, 47, 48, 49, 50], .join [(44, Kind.bool)] [31, 32, 33, 34, 35, 36, 37, 38, 39, 40, 41, 42, 43, 44], .none, .none, .none, .join [(8, Kind.bool)] [8, 53, 54, 55, 56, 57, 58, 59, 60], .join [(7, Kind.string)] [7, 61, 62, 63], .none, .none, .join [] [5, 66, 67, 68, 69, 70, 71, 72, 73, 74, 75, 76, 77, 78, 79, 80, 81, 82, 83], .join [(82, Kind.bool)] [66, 67, 68, 69, 70, 71, 72, 73, 74, 75, 76, 77, 78, 79, 80, 81, 82], .none, .none, .none, .none, .none, .none, .none, .none, .none, .none, .none]

theorem vc_phosphorref19_one (k : T_keys_Keys) (s : ByteArray) (w : World) (K : T_keys_Keys → Bool → World → Prop) :
    vcFn C (Tryd.f42.body.getD .skip) Tryd.f42.results.toList Tryd.f42.ntmps an_phosphorref19_one [(Kind.struct T_keys_Keys.rep), Kind.bool] [(.agg #[(.int .u8 k.Action), (.int .u8 k.Medium), (.int .u8 k.Zip), (.int .u8 k.What), (.int .i64 k.Quiet), (.int .i64 k.Format), (.int .i64 k.W), (.int .i64 k.H), (.int .i64 k.Id), (.int .i64 k.Number), (.int .i64 k.Place), (.int .i64 k.More), (.int .i64 k.X), (.int .i64 k.Y), (.int .i64 k.PW), (.int .i64 k.PH), (.int .i64 k.DX), (.int .i64 k.DY), (.int .i64 k.Rows), (.int .i64 k.Cols), (.int .i64 k.Z), (.int .i64 k.Stay)]), (.string s)] w (fun s w => K s.1 s.2.1 w) = sh_phosphorref19_one k s w K := by kernel_rfl

theorem call_phosphorref19_one (k : T_keys_Keys) (s : ByteArray) {w : World} {K : T_keys_Keys → Bool → World → Prop} (h : sh_phosphorref19_one k s w K) : c_phosphorref19_one k s w K := by
  rw [← vc_phosphorref19_one] at h
  refine Calls.mono (calls_of_vc C.plain_ok C.mixed Tryd.func42 rfl h) ?_
  rintro e w' ⟨s, rfl, hK⟩
  exact ⟨s.1, s.2.1, rfl, hK⟩

end Go.Proofs.YtpadlibcalomnaaDoor
