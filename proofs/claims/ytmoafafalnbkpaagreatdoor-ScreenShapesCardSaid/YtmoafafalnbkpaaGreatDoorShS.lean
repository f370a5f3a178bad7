/- By program: the typed text of ScreenSets. -/
import Derived.Test.YtmoafafalnbkpaaGreatDoorShA
set_option maxRecDepth 100000
set_option linter.unusedVariables false
namespace Go.Proofs.YtmoafafalnbkpaaGreatDoor
open Go.Vc
/-- phosphor/phosphorlaw17.ScreenSets -/
def c_phosphorlaw17_ScreenSets (a : Bool) (b : Bool) (shift : Bool) (c : Int) (w : World) (K : Bool → World → Prop) : Prop :=
  Calls PG 7 #[(.bool a), (.bool b), (.bool shift), (.int .u8 c)] w fun e w' => ∃ r0 : Bool, e = .returned (.bool r0) ∧ K r0 w'

/-- phosphor/phosphorlaw17.ScreenSets -/
def sh_phosphorlaw17_ScreenSets (a : Bool) (b : Bool) (shift : Bool) (c : Int) (w : World) (K : Bool → World → Prop) : Prop :=
  c_phosphorlaw17_known  w fun t15 w1 =>
  cond (!t15)
    (K false w1)
    (c_phosphorlaw17_made 1 4 w1 fun t17 w2 =>
     cond (t17.isNone)
       (K false w2)
       (nw ty_uint8 [(.int .u8 66), (.int .u8 66)] w2 fun t20 w3 =>
        joinP (σ := Unit) (fun s w4 =>
          joinP (σ := Unit) (fun s_1 w5 =>
            (0 ≤ (0 : Int) ∧ (0 : Int) < (2 : Nat)) ∧
            ldI .u8 (t20.add ((0 : Int).toNat * 1)) w5 fun t30 =>
            c_screen_Screen_Do t17 (⟨3, 0, t30, 0, (⟨#[40]⟩ : ByteArray), ⟨none, 0, 0⟩, ⟨none, 0, 0⟩⟩ : T_parse_Event) w5 fun t32 w6 =>
            (0 ≤ (1 : Int) ∧ (1 : Int) < (2 : Nat)) ∧
            ldI .u8 (t20.add ((1 : Int).toNat * 1)) w6 fun t36 =>
            c_screen_Screen_Do t17 (⟨3, 0, t36, 0, (⟨#[41]⟩ : ByteArray), ⟨none, 0, 0⟩, ⟨none, 0, 0⟩⟩ : T_parse_Event) w6 fun t38 w7 =>
            joinP (σ := Bool × Unit) (fun s_2 w8 =>
              (26 : Int) ≠ 0 ∧
              c_screen_Screen_Do t17 (⟨1, (IntKind.i32.wrap (IntKind.u8.wrap ((97 : Int) + (c.tmod (26 : Int))))), 0, 0, (⟨#[]⟩ : ByteArray), ⟨none, 0, 0⟩, ⟨none, 0, 0⟩⟩ : T_parse_Event) w8 fun t52 w9 =>
              c_screen_Screen_Grid t17 w9 fun t55 w10 =>
              c_grid_Grid_Line t55 0 w10 fun t56 t56_1 w11 =>
              c_screen_Screen_Do t17 (⟨2, 0, 15, 0, (⟨#[]⟩ : ByteArray), ⟨none, 0, 0⟩, ⟨none, 0, 0⟩⟩ : T_parse_Event) w11 fun t61 w12 =>
              c_screen_Screen_Cursor t17 w12 fun t63 w13 =>
              nw ty_screen_Cursor [(.int .i64 0), (.int .i64 0), (.bool false), (.int .i64 0), (.int .i64 0), (.int .i64 0), (.bool false), (.int .u8 0), (.int .u8 0), (.int .i64 0)] w13 fun u w14 =>
              stK u (T_screen_Cursor.rep.cells t63) w14 fun w15 =>
              cond (((t56.n : Nat) : Int) == (4 : Int))
                (ixK t56 0 5 fun t69 =>
                 ldI .i32 (t69.add 0) w15.drew fun t71 =>
                 cond ((t71 == (IntKind.i32.wrap (IntKind.u8.wrap ((97 : Int) + (c.tmod (26 : Int)))))) == (!s_2.1))
                   (ixK t56 0 5 fun t81 =>
                    ldI .i32 (t81.add 0) w15.drew fun t83 =>
                    cond (t83 != (0 : Int))
                      (ldS T_2_uint8.rep (u.add 7) w15.drew fun t88 =>
                       (0 ≤ (0 : Int) ∧ (0 : Int) < (2 : Nat)) ∧
                       ldI .u8 (t20.add ((0 : Int).toNat * 1)) w15.drew fun t91 =>
                       (0 ≤ (1 : Int) ∧ (1 : Int) < (2 : Nat)) ∧
                       ldI .u8 (t20.add ((1 : Int).toNat * 1)) w15.drew fun t94 =>
                       cond ((t88.e0 == t91) && ((t88.e1 == t94) && true))
                         (ldI .i64 (u.add 9) w15.drew fun t100 =>
                          K (t100 == (0 : Int)) w15.drew)
                         (K false w15.drew))
                      (K false w15.drew))
                   (K false w15.drew))
                (K false w15.drew)) fun J3 =>
            cond shift
              (c_screen_Screen_Do t17 (⟨2, 0, 14, 0, (⟨#[]⟩ : ByteArray), ⟨none, 0, 0⟩, ⟨none, 0, 0⟩⟩ : T_parse_Event) w7 fun t43 w16 =>
               J3 (b, ()) w16)
              (J3 (a, ()) w7)) fun J2 =>
          cond b
            ((0 ≤ (1 : Int) ∧ (1 : Int) < (2 : Nat)) ∧
             stK (t20.add ((1 : Int).toNat * 1)) [(.int .u8 48)] w4 fun w17 =>
             J2 (()) w17)
            (J2 (()) w4)) fun J1 =>
        cond a
          ((0 ≤ (0 : Int) ∧ (0 : Int) < (2 : Nat)) ∧
           stK (t20.add ((0 : Int).toNat * 1)) [(.int .u8 48)] w3 fun w18 =>
           J1 (()) w18)
          (J1 (()) w3)))

def an_phosphorlaw17_ScreenSets : List Ann := [.none, .none, .none, .none, .none, .none, .none, .none, .none, .join [] [21, 22, 23], .none, .join [] [24, 25, 26], .none, .none, .none, .none, .join [(11, Kind.bool)] [11, 40, 41, 42, 43, 44], .none, .none, .none, .none, .none, .none, .none, .none]

theorem vc_phosphorlaw17_ScreenSets (a : Bool) (b : Bool) (shift : Bool) (c : Int) (w : World) (K : Bool → World → Prop) :
    vcFn C (Tryz.f7.body.getD .skip) Tryz.f7.results.toList Tryz.f7.ntmps an_phosphorlaw17_ScreenSets [Kind.bool] [(.bool a), (.bool b), (.bool shift), (.int .u8 c)] w (fun s w => K s.1 w) = sh_phosphorlaw17_ScreenSets a b shift c w K := by kernel_rfl

theorem call_phosphorlaw17_ScreenSets (a : Bool) (b : Bool) (shift : Bool) (c : Int) {w : World} {K : Bool → World → Prop} (h : sh_phosphorlaw17_ScreenSets a b shift c w K) : c_phosphorlaw17_ScreenSets a b shift c w K := by
  rw [← vc_phosphorlaw17_ScreenSets] at h
  refine Calls.mono (calls_of_vc C.plain_ok C.mixed Tryz.func7 rfl h) ?_
  rintro e w' ⟨s, rfl, hK⟩
  exact ⟨s.1, rfl, hK⟩

end Go.Proofs.YtmoafafalnbkpaaGreatDoor
