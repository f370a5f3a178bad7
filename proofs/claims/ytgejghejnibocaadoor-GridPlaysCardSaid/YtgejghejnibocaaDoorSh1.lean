/- By program (gen.py): the typed text of the program's functions, part 1. -/
import Derived.Test.YtgejghejnibocaaDoorDefs
set_option maxRecDepth 100000
set_option linter.unusedVariables false
namespace Go.Proofs.YtgejghejnibocaaDoor
open Go.Vc

/-- phosphor/phosphorlaw16.few -/
def sh_phosphorlaw16_few (l : Slc) (w : World) (K : Bool → World → Prop) : Prop :=
  loopP (σ := Int × Int × Unit) (fun I1 s w1 =>
    cond (decide (s.2.1 < ((l.n : Nat) : Int)))
      (joinP (σ := Unit) (fun s_1 w2 =>
         ixK l s.2.1 10 fun t25 =>
         ldSl (t25.add 2) w2 fun t27 =>
         ixK l s.2.1 10 fun t32 =>
         ldI .i64 (t32.add 0) w2.drew fun t34 =>
         cond (t34 == (4 : Int))
           (ixK l s.2.1 10 fun t39 =>
            ldI .i64 (t39.add 8) w2.drew fun t41 =>
            cond (decide (t41 > (0 : Int)))
              (ixK l s.2.1 10 fun t47 =>
               ldI .i64 (t47.add 9) w2.drew fun t49 =>
               cond (decide (t49 > (0 : Int)))
                 (ixK l s.2.1 10 fun t55 =>
                  ldI .i64 (t55.add 8) w2.drew fun t57 =>
                  cond (decide (t57 ≤ (1000 : Int)))
                    (ixK l s.2.1 10 fun t63 =>
                     ldI .i64 (t63.add 9) w2.drew fun t65 =>
                     cond (decide (t65 ≤ (1000 : Int)))
                       (ixK l s.2.1 10 fun t71 =>
                        ldI .i64 (t71.add 8) w2.drew fun t73 =>
                        ixK l s.2.1 10 fun t76 =>
                        ldI .i64 (t76.add 9) w2.drew fun t78 =>
                        cond (decide ((IntKind.i64.wrap (t73 * t78)) > (2000 : Int)))
                          (K false w2.drew)
                          (I1 ((IntKind.i64.wrap (s.1 + ((t27.n : Nat) : Int))), (IntKind.i64.wrap (s.2.1 + (1 : Int))), ()) w2.drew))
                       (I1 ((IntKind.i64.wrap (s.1 + ((t27.n : Nat) : Int))), (IntKind.i64.wrap (s.2.1 + (1 : Int))), ()) w2.drew))
                    (I1 ((IntKind.i64.wrap (s.1 + ((t27.n : Nat) : Int))), (IntKind.i64.wrap (s.2.1 + (1 : Int))), ()) w2.drew))
                 (I1 ((IntKind.i64.wrap (s.1 + ((t27.n : Nat) : Int))), (IntKind.i64.wrap (s.2.1 + (1 : Int))), ()) w2.drew))
              (I1 ((IntKind.i64.wrap (s.1 + ((t27.n : Nat) : Int))), (IntKind.i64.wrap (s.2.1 + (1 : Int))), ()) w2.drew))
           (I1 ((IntKind.i64.wrap (s.1 + ((t27.n : Nat) : Int))), (IntKind.i64.wrap (s.2.1 + (1 : Int))), ()) w2.drew)) fun J2 =>
       ixK l s.2.1 10 fun t13 =>
       ldSl (t13.add 2) w1 fun t15 =>
       cond (decide (((t15.n : Nat) : Int) > (65536 : Int)))
         (K false w1)
         (cond (decide (s.1 > (65536 : Int)))
            (K false w1)
            (J2 (()) w1)))
      (cond (decide (((l.n : Nat) : Int) ≤ (100 : Int)))
         (K (decide (s.1 ≤ (4000 : Int))) w1)
         (K false w1))) (0, 0, ()) w

def an_phosphorlaw16_few : List Ann := [.none, .none, .none, .none, .join [(3, (Kind.int .i64)), (4, (Kind.int .i64))] [2, 3, 4, 5, 6, 7, 8, 9, 10, 11, 12, 13, 14, 15, 16, 17, 18, 19, 20, 21, 22, 23, 24, 25, 26, 27, 28, 29, 30, 31, 32, 33, 34, 35, 36, 37, 38, 39, 40, 41, 42, 43, 44, 45, 46, 47, 48, 49, 50, 51, 52, 53, 54, 55, 56, 57, 58, 59, 60, 61, 62, 63, 64, 65, 66, 67, 68, 69, 70, 71, 72, 73, 74, 75, 76, 77, 78, 79, 80, 81], .none, .none, .none, .join [] [2, 11, 12, 13, 14, 15, 16, 17, 18, 19, 20, 21], .none, .none, .none, .none, .none, .none]

theorem vc_phosphorlaw16_few (l : Slc) (w : World) (K : Bool → World → Prop) :
    vcFn C (Tryd.f43.body.getD .skip) Tryd.f43.results.toList Tryd.f43.ntmps an_phosphorlaw16_few [Kind.bool] [(.slice l.a l.n l.c)] w (fun s w => K s.1 w) = sh_phosphorlaw16_few l w K := by kernel_rfl

theorem call_phosphorlaw16_few (l : Slc) {w : World} {K : Bool → World → Prop} (h : sh_phosphorlaw16_few l w K) : c_phosphorlaw16_few l w K := by
  rw [← vc_phosphorlaw16_few] at h
  refine Calls.mono (calls_of_vc C.plain_ok C.mixed Tryd.func43 rfl h) ?_
  rintro e w' ⟨s, rfl, hK⟩
  exact ⟨s.1, rfl, hK⟩

/-- phosphor/phosphorref16.New -/
def sh_phosphorref16_New (rows : Int) (cols : Int) (back : Int) (w : World) (K : Option Addr → Int → World → Prop) : Prop :=
  joinP (σ := Unit) (fun s w1 =>
    nw 88 [(.int .i64 rows), (.int .i64 cols), (.int .i64 back), (.slice none 0 0), (.slice none 0 0), (.int .i64 0)] w1 fun t29 w2 =>
    c_phosphorref16_Grid_Clear (some t29) (⟨0, 0, 0⟩ : T_api_Attr) w2 fun w3 =>
    K (some t29) 0 w3) fun J1 =>
  c_phosphorref16_size rows w fun t10 w4 =>
  cond (!t10)
    (K none 1 w4)
    (c_phosphorref16_size cols w4 fun t14 w5 =>
     cond (!t14)
       (K none 1 w5)
       (cond (decide (back < (0 : Int)))
          (K none 1 w5)
          (cond (decide (back > (16384 : Int)))
             (K none 1 w5)
             (J1 (()) w5))))

def an_phosphorref16_New : List Ann := [.none, .join [] [6, 7, 9, 10, 11, 12, 13, 14, 15, 16, 17, 18, 19, 20, 21, 22, 23, 24], .none, .none, .none, .none, .none]

theorem vc_phosphorref16_New (rows : Int) (cols : Int) (back : Int) (w : World) (K : Option Addr → Int → World → Prop) :
    vcFn C (Tryd.f44.body.getD .skip) Tryd.f44.results.toList Tryd.f44.ntmps an_phosphorref16_New [Kind.ptr, (Kind.int .i64)] [(.int .i64 rows), (.int .i64 cols), (.int .i64 back)] w (fun s w => K s.1 s.2.1 w) = sh_phosphorref16_New rows cols back w K := by kernel_rfl

theorem call_phosphorref16_New (rows : Int) (cols : Int) (back : Int) {w : World} {K : Option Addr → Int → World → Prop} (h : sh_phosphorref16_New rows cols back w K) : c_phosphorref16_New rows cols back w K := by
  rw [← vc_phosphorref16_New] at h
  refine Calls.mono (calls_of_vc C.plain_ok C.mixed Tryd.func44 rfl h) ?_
  rintro e w' ⟨s, rfl, hK⟩
  exact ⟨s.1, s.2.1, rfl, hK⟩

/-- (*phosphor/phosphorref16.Grid).Set -/
def sh_phosphorref16_Grid_Set (g : Option Addr) (row : Int) (l : Slc) (w : World) (K : Bool → World → Prop) : Prop :=
  c_phosphorref16_Grid_Is g row w fun t9 w1 =>
  cond (!t9)
    (K false w1)
    (onPtr g fun t12 =>
     ldSl (t12.add 3) w1.drew fun t14 =>
     onPtr g fun t18 =>
     ldI .i64 (t18.add 1) w1.drew fun t20 =>
     c_phosphorref13_Resize l t20 w1.drew fun t21 w2 =>
     World.cell? w2 (t12.add 3) = some (.slice t14.a t14.n t14.c) ∧
     ixK t14 row 1 fun t22 =>
     stK t22 [(.slice t21.a t21.n t21.c)] w2 fun w3 =>
     K true w3)

def an_phosphorref16_Grid_Set : List Ann := [.none, .none, .none, .none, .none, .none]

theorem vc_phosphorref16_Grid_Set (g : Option Addr) (row : Int) (l : Slc) (w : World) (K : Bool → World → Prop) :
    vcFn C (Tryd.f45.body.getD .skip) Tryd.f45.results.toList Tryd.f45.ntmps an_phosphorref16_Grid_Set [Kind.bool] [(.pointer g), (.int .i64 row), (.slice l.a l.n l.c)] w (fun s w => K s.1 w) = sh_phosphorref16_Grid_Set g row l w K := by kernel_rfl

theorem call_phosphorref16_Grid_Set (g : Option Addr) (row : Int) (l : Slc) {w : World} {K : Bool → World → Prop} (h : sh_phosphorref16_Grid_Set g row l w K) : c_phosphorref16_Grid_Set g row l w K := by
  rw [← vc_phosphorref16_Grid_Set] at h
  refine Calls.mono (calls_of_vc C.plain_ok C.mixed Tryd.func45 rfl h) ?_
  rintro e w' ⟨s, rfl, hK⟩
  exact ⟨s.1, rfl, hK⟩

/-- (*phosphor/phosphorref16.Grid).Scroll -/
def sh_phosphorref16_Grid_Scroll (g : Option Addr) (top : Int) (past : Int) (n : Int) (a : T_api_Attr) (w : World) (K : Int → World → Prop) : Prop :=
  nw 23 (T_api_Attr.rep.cells a) w fun a_1 w1 =>
  joinP (σ := Unit) (fun s w2 =>
    joinP (σ := Int × Unit) (fun s_1 w3 =>
      joinP (σ := Int × Unit) (fun s_2 w4 =>
        loopP (σ := Slc × Int × Unit) (fun I4 s_3 w5 =>
          cond (decide (s_3.2.1 < s_2.1))
            (onPtr g fun t64 =>
             ldI .i64 (t64.add 1) w5.drew fun t66 =>
             ldS T_api_Attr.rep a_1 w5.drew fun t67 =>
             c_phosphorref13_New t66 t67 w5.drew fun t68 w6 =>
             nw 24 [(.slice t68.a t68.n t68.c)] w6 fun t69 w7 =>
             apK Tryd.prog #[86, 86] 86 s_3.1 (⟨(some t69), 1, 1⟩ : Slc) w7 fun t70 w8 =>
             I4 (t70, (IntKind.i64.wrap (s_3.2.1 + (1 : Int))), ()) w8)
            (nw 24 [] w5 fun t71 w9 =>
             onPtr g fun t73 =>
             ldSl (t73.add 3) w9 fun t75 =>
             slK t75 (some top) (some past) 1 fun t78 =>
             apK Tryd.prog #[86, 86] 86 (⟨(some t71), 0, 0⟩ : Slc) t78 w9 fun t79 w10 =>
             nw 24 [] w10 fun t80 w11 =>
             onPtr g fun t82 =>
             ldSl (t82.add 3) w11 fun t84 =>
             slK t84 none (some top) 1 fun t86 =>
             apK Tryd.prog #[86, 86] 86 (⟨(some t80), 0, 0⟩ : Slc) t86 w11 fun t87 w12 =>
             nw 24 [] w12 fun t88 w13 =>
             onPtr g fun t90 =>
             ldSl (t90.add 3) w13 fun t92 =>
             slK t92 (some past) none 1 fun t94 =>
             apK Tryd.prog #[86, 86] 86 (⟨(some t88), 0, 0⟩ : Slc) t94 w13 fun t95 w14 =>
             joinP (σ := Slc × Unit) (fun s_4 w15 =>
               apK Tryd.prog #[86, 86] 86 s_4.1 t95 w15 fun t118 w16 =>
               onPtr g fun t119 =>
               stK (t119.add 3) [(.slice t118.a t118.n t118.c)] w16 fun w17 =>
               joinP (σ := Unit) (fun s_5 w18 =>
                 loopP (σ := Int × Unit) (fun I7 s_6 w19 =>
                   cond (decide (s_6.1 < s_2.1))
                     (ixK t79 s_6.1 1 fun t135 =>
                      ldSl t135 w19 fun t136 =>
                      c_phosphorref16_Grid_leave g t136 w19 fun w20 =>
                      I7 ((IntKind.i64.wrap (s_6.1 + (1 : Int))), ()) w20)
                     (K s_2.1 w19)) (0, ()) w18) fun J6 =>
               cond (!(decide (n > (0 : Int))))
                 (K 0 w17)
                 (cond (top != (0 : Int))
                    (K 0 w17)
                    (J6 (()) w17))) fun J5 =>
             cond (decide (n > (0 : Int)))
               (slK t79 (some s_2.1) none 1 fun t100 =>
                apK Tryd.prog #[86, 86] 86 t87 t100 w14 fun t101 w21 =>
                apK Tryd.prog #[86, 86] 86 t101 s_3.1 w21 fun t104 w22 =>
                J5 (t104, ()) w22)
               (apK Tryd.prog #[86, 86] 86 t87 s_3.1 w14 fun t107 w23 =>
                slK t79 none (some (IntKind.i64.wrap ((IntKind.i64.wrap (past - top)) - s_2.1))) 1 fun t113 =>
                apK Tryd.prog #[86, 86] 86 t107 t113 w23 fun t114 w24 =>
                J5 (t114, ()) w24))) (⟨none, 0, 0⟩, 0, ()) w4) fun J3 =>
      cond (decide (s_1.1 < (0 : Int)))
        (J3 ((IntKind.i64.wrap ((0 : Int) - s_1.1)), ()) w3)
        (J3 (s_1.1, ()) w3)) fun J2 =>
    cond (decide (n < (IntKind.i64.wrap ((0 : Int) - (IntKind.i64.wrap (past - top))))))
      (J2 ((IntKind.i64.wrap (past - top)), ()) w2)
      (cond (decide (n > (IntKind.i64.wrap (past - top))))
         (J2 ((IntKind.i64.wrap (past - top)), ()) w2)
         (J2 (n, ()) w2))) fun J1 =>
  cond (n == (0 : Int))
    (K 0 w1)
    (cond (decide (top < (0 : Int)))
       (K 0 w1)
       (cond (decide (past ≤ top))
          (K 0 w1)
          (onPtr g fun t33 =>
           ldI .i64 (t33.add 0) w1 fun t35 =>
           cond (decide (past > t35))
             (K 0 w1)
             (J1 (()) w1))))

def an_phosphorref16_Grid_Scroll : List Ann := [.none, .join [] [10, 19, 20, 21, 22, 23, 24, 25, 26, 27, 28, 29, 30, 31, 32, 33, 34, 35, 36, 37], .none, .none, .none, .none, .join [(3, (Kind.int .i64))] [3, 43, 44, 45, 46, 47, 48, 49, 50, 51, 52], .none, .join [(3, (Kind.int .i64))] [3, 53, 54, 55, 56], .none, .none, .none, .none, .join [(13, Kind.slice), (14, (Kind.int .i64))] [13, 14, 57, 58, 59, 60, 61, 62, 63, 64, 65, 66, 67, 68, 69, 70], .none, .none, .none, .none, .none, .none, .join [(16, Kind.slice)] [16, 96, 97, 98, 99, 100, 101, 102, 103, 104, 105, 106, 107, 108, 109, 110, 111, 112, 113, 114], .none, .none, .none, .none, .join [] [10, 121, 122, 123, 124, 125, 126], .none, .none, .none, .none, .join [(18, (Kind.int .i64))] [18, 127, 128, 129, 130, 131, 132, 133, 134, 135, 136, 137], .none, .none, .none, .none]

theorem vc_phosphorref16_Grid_Scroll (g : Option Addr) (top : Int) (past : Int) (n : Int) (a : T_api_Attr) (w : World) (K : Int → World → Prop) :
    vcFn C (Tryd.f46.body.getD .skip) Tryd.f46.results.toList Tryd.f46.ntmps an_phosphorref16_Grid_Scroll [(Kind.int .i64)] [(.pointer g), (.int .i64 top), (.int .i64 past), (.int .i64 n), (.agg #[(.int .i64 a.Fg), (.int .i64 a.Bg), (.int .i64 a.Flags)])] w (fun s w => K s.1 w) = sh_phosphorref16_Grid_Scroll g top past n a w K := by kernel_rfl

theorem call_phosphorref16_Grid_Scroll (g : Option Addr) (top : Int) (past : Int) (n : Int) (a : T_api_Attr) {w : World} {K : Int → World → Prop} (h : sh_phosphorref16_Grid_Scroll g top past n a w K) : c_phosphorref16_Grid_Scroll g top past n a w K := by
  rw [← vc_phosphorref16_Grid_Scroll] at h
  refine Calls.mono (calls_of_vc C.plain_ok C.mixed Tryd.func46 rfl h) ?_
  rintro e w' ⟨s, rfl, hK⟩
  exact ⟨s.1, rfl, hK⟩

/-- (*phosphor/grid.Grid).Fill -/
def sh_grid_Grid_Fill (g : Option Addr) (row : Int) (from_ : Int) (to : Int) (a : T_api_Attr) (w : World) (K : Bool → World → Prop) : Prop :=
  nw 3 [(.int .i64 from_)] w fun from__1 w1 =>
  nw 3 [(.int .i64 to)] w1 fun to_1 w2 =>
  nw 23 (T_api_Attr.rep.cells a) w2 fun a_1 w3 =>
  c_grid_Grid_Change g row ((.func (.func 87) #[] #[(.pointer (some from__1)), (.pointer (some to_1)), (.pointer (some a_1))]) : Value) w3 fun t14 w4 =>
  K t14 w4

def an_grid_Grid_Fill : List Ann := [.none, .none]

theorem vc_grid_Grid_Fill (g : Option Addr) (row : Int) (from_ : Int) (to : Int) (a : T_api_Attr) (w : World) (K : Bool → World → Prop) :
    vcFn C (Tryd.f47.body.getD .skip) Tryd.f47.results.toList Tryd.f47.ntmps an_grid_Grid_Fill [Kind.bool] [(.pointer g), (.int .i64 row), (.int .i64 from_), (.int .i64 to), (.agg #[(.int .i64 a.Fg), (.int .i64 a.Bg), (.int .i64 a.Flags)])] w (fun s w => K s.1 w) = sh_grid_Grid_Fill g row from_ to a w K := by kernel_rfl

theorem call_grid_Grid_Fill (g : Option Addr) (row : Int) (from_ : Int) (to : Int) (a : T_api_Attr) {w : World} {K : Bool → World → Prop} (h : sh_grid_Grid_Fill g row from_ to a w K) : c_grid_Grid_Fill g row from_ to a w K := by
  rw [← vc_grid_Grid_Fill] at h
  refine Calls.mono (calls_of_vc C.plain_ok C.mixed Tryd.func47 rfl h) ?_
  rintro e w' ⟨s, rfl, hK⟩
  exact ⟨s.1, rfl, hK⟩

/-- (*phosphor/phosphorref16.Grid).Fill -/
def sh_phosphorref16_Grid_Fill (g : Option Addr) (row : Int) (from_ : Int) (to : Int) (a : T_api_Attr) (w : World) (K : Bool → World → Prop) : Prop :=
  nw 23 (T_api_Attr.rep.cells a) w fun a_1 w1 =>
  c_phosphorref16_Grid_Is g row w1 fun t13 w2 =>
  cond (!t13)
    (K false w2)
    (onPtr g fun t16 =>
     ldSl (t16.add 3) w2.drew fun t18 =>
     onPtr g fun t21 =>
     ldSl (t21.add 3) w2.drew fun t23 =>
     ixK t23 row 1 fun t25 =>
     ldSl t25 w2.drew fun t26 =>
     ldS T_api_Attr.rep a_1 w2.drew fun t29 =>
     c_phosphorref13_Erase t26 from_ to t29 w2.drew fun t30 w3 =>
     World.cell? w3 (t16.add 3) = some (.slice t18.a t18.n t18.c) ∧
     ixK t18 row 1 fun t31 =>
     stK t31 [(.slice t30.a t30.n t30.c)] w3 fun w4 =>
     K true w4)

def an_phosphorref16_Grid_Fill : List Ann := [.none, .none, .none, .none, .none, .none]

theorem vc_phosphorref16_Grid_Fill (g : Option Addr) (row : Int) (from_ : Int) (to : Int) (a : T_api_Attr) (w : World) (K : Bool → World → Prop) :
    vcFn C (Tryd.f48.body.getD .skip) Tryd.f48.results.toList Tryd.f48.ntmps an_phosphorref16_Grid_Fill [Kind.bool] [(.pointer g), (.int .i64 row), (.int .i64 from_), (.int .i64 to), (.agg #[(.int .i64 a.Fg), (.int .i64 a.Bg), (.int .i64 a.Flags)])] w (fun s w => K s.1 w) = sh_phosphorref16_Grid_Fill g row from_ to a w K := by kernel_rfl

theorem call_phosphorref16_Grid_Fill (g : Option Addr) (row : Int) (from_ : Int) (to : Int) (a : T_api_Attr) {w : World} {K : Bool → World → Prop} (h : sh_phosphorref16_Grid_Fill g row from_ to a w K) : c_phosphorref16_Grid_Fill g row from_ to a w K := by
  rw [← vc_phosphorref16_Grid_Fill] at h
  refine Calls.mono (calls_of_vc C.plain_ok C.mixed Tryd.func48 rfl h) ?_
  rintro e w' ⟨s, rfl, hK⟩
  exact ⟨s.1, rfl, hK⟩

/-- (*phosphor/phosphorref16.Grid).Resize -/
def sh_phosphorref16_Grid_Resize (g : Option Addr) (rows : Int) (cols : Int) (row : Int) (w : World) (K : Int → Int → World → Prop) : Prop :=
  joinP (σ := Unit) (fun s w1 =>
    loopP (σ := Int × Unit) (fun I2 s_1 w2 =>
      onPtr g fun t28 =>
      ldI .i64 (t28.add 0) w2 fun t30 =>
      cond (decide (s_1.1 < t30))
        (onPtr g fun t35 =>
         ldSl (t35.add 3) w2.drew fun t37 =>
         onPtr g fun t40 =>
         ldSl (t40.add 3) w2.drew fun t42 =>
         ixK t42 s_1.1 1 fun t44 =>
         ldSl t44 w2.drew fun t45 =>
         c_phosphorref13_Resize t45 cols w2.drew fun t47 w3 =>
         World.cell? w3 (t35.add 3) = some (.slice t37.a t37.n t37.c) ∧
         ixK t37 s_1.1 1 fun t48 =>
         stK t48 [(.slice t47.a t47.n t47.c)] w3 fun w4 =>
         I2 ((IntKind.i64.wrap (s_1.1 + (1 : Int))), ()) w4)
        (onPtr g fun t51 =>
         stK (t51.add 1) [(.int .i64 cols)] w2 fun w5 =>
         joinP (σ := Int × Unit) (fun s_2 w6 =>
           joinP (σ := Unit) (fun s_3 w7 =>
             loopP (σ := Unit) (fun I5 s_4 w8 =>
               onPtr g fun t88 =>
               ldSl (t88.add 3) w8 fun t90 =>
               cond (decide (((t90.n : Nat) : Int) < rows))
                 (onPtr g fun t96 =>
                  ldSl (t96.add 3) w8.drew fun t98 =>
                  c_phosphorref13_New cols (⟨0, 0, 0⟩ : T_api_Attr) w8.drew fun t101 w9 =>
                  World.cell? w9 (t96.add 3) = some (.slice t98.a t98.n t98.c) ∧
                  nw 24 [(.slice t101.a t101.n t101.c)] w9 fun t102 w10 =>
                  World.cell? w10 (t96.add 3) = some (.slice t98.a t98.n t98.c) ∧
                  apK Tryd.prog #[86, 86] 86 t98 (⟨(some t102), 1, 1⟩ : Slc) w10 fun t103 w11 =>
                  onPtr g fun t104 =>
                  stK (t104.add 3) [(.slice t103.a t103.n t103.c)] w11 fun w12 =>
                  I5 (()) w12)
                 (onPtr g fun t108 =>
                  stK (t108.add 0) [(.int .i64 rows)] w8 fun w13 =>
                  K s_2.1 0 w13)) (()) w7) fun J4 =>
           onPtr g fun t72 =>
           ldI .i64 (t72.add 0) w6 fun t74 =>
           cond (decide (rows < t74))
             (nw 24 [] w6 fun t77 w14 =>
              onPtr g fun t79 =>
              ldSl (t79.add 3) w14 fun t81 =>
              slK t81 none (some rows) 1 fun t83 =>
              apK Tryd.prog #[86, 86] 86 (⟨(some t77), 0, 0⟩ : Slc) t83 w14 fun t84 w15 =>
              onPtr g fun t85 =>
              stK (t85.add 3) [(.slice t84.a t84.n t84.c)] w15 fun w16 =>
              J4 (()) w16)
             (J4 (()) w6)) fun J3 =>
         cond (decide (row ≥ rows))
           (onPtr g fun t62 =>
            ldI .i64 (t62.add 0) w5 fun t64 =>
            c_phosphorref16_Grid_Scroll g 0 t64 (IntKind.i64.wrap ((IntKind.i64.wrap (row + (1 : Int))) - rows)) (⟨0, 0, 0⟩ : T_api_Attr) w5 fun t67 w17 =>
            J3 ((IntKind.i64.wrap (rows - (1 : Int))), ()) w17)
           (J3 (row, ()) w5))) (0, ()) w1) fun J1 =>
  c_phosphorref16_size rows w fun t13 w18 =>
  cond (!t13)
    (K 0 1 w18)
    (c_phosphorref16_size cols w18 fun t17 w19 =>
     cond (!t17)
       (K 0 1 w19)
       (c_phosphorref16_Grid_Is g row w19 fun t23 w20 =>
        cond (!t23)
          (K 0 1 w20)
          (J1 (()) w20)))

def an_phosphorref16_Grid_Resize : List Ann := [.none, .join [] [8, 9, 12, 13, 14, 15, 16, 17, 18, 19, 20, 21, 22, 23, 24, 25], .none, .none, .none, .none, .join [(10, (Kind.int .i64))] [10, 26, 27, 28, 29, 30, 31, 32, 33, 34, 35, 36, 37, 38, 39, 40, 41, 42, 43, 44, 45, 46, 47, 48], .none, .none, .none, .none, .join [(3, (Kind.int .i64))] [3, 11, 53, 54, 55, 56, 57, 58, 59, 60, 61, 62, 63, 64, 65, 66, 67, 68, 69], .none, .none, .none, .join [] [70, 71, 72, 73, 74, 75, 76, 77, 78, 79, 80, 81, 82, 83, 84, 85, 86], .none, .none, .join [] [87, 88, 89, 90, 91, 92, 93, 94, 95, 96, 97, 98, 99, 100, 101, 102, 103, 104, 105], .none, .none, .none, .none]

theorem vc_phosphorref16_Grid_Resize (g : Option Addr) (rows : Int) (cols : Int) (row : Int) (w : World) (K : Int → Int → World → Prop) :
    vcFn C (Tryd.f49.body.getD .skip) Tryd.f49.results.toList Tryd.f49.ntmps an_phosphorref16_Grid_Resize [(Kind.int .i64), (Kind.int .i64)] [(.pointer g), (.int .i64 rows), (.int .i64 cols), (.int .i64 row)] w (fun s w => K s.1 s.2.1 w) = sh_phosphorref16_Grid_Resize g rows cols row w K := by kernel_rfl

theorem call_phosphorref16_Grid_Resize (g : Option Addr) (rows : Int) (cols : Int) (row : Int) {w : World} {K : Int → Int → World → Prop} (h : sh_phosphorref16_Grid_Resize g rows cols row w K) : c_phosphorref16_Grid_Resize g rows cols row w K := by
  rw [← vc_phosphorref16_Grid_Resize] at h
  refine Calls.mono (calls_of_vc C.plain_ok C.mixed Tryd.func49 rfl h) ?_
  rintro e w' ⟨s, rfl, hK⟩
  exact ⟨s.1, s.2.1, rfl, hK⟩

/-- (*phosphor/grid.Grid).Clear -/
def sh_grid_Grid_Clear (g : Option Addr) (a : T_api_Attr) (w : World) (K : World → Prop) : Prop :=
  nw 23 (T_api_Attr.rep.cells a) w fun a_1 w1 =>
  onPtr g fun t7 =>
  ldI .i64 (t7.add 1) w1.drew fun t9 =>
  ldS T_api_Attr.rep a_1 w1.drew fun t10 =>
  c_grid_Grid_blanks g t9 t10 w1.drew fun t11 w2 =>
  onPtr g fun t12 =>
  stK (t12.add 3) [(.slice t11.a t11.n t11.c)] w2 fun w3 =>
  K w3

def an_grid_Grid_Clear : List Ann := [.none]

theorem vc_grid_Grid_Clear (g : Option Addr) (a : T_api_Attr) (w : World) (K : World → Prop) :
    vcFn C (Tryd.f50.body.getD .skip) Tryd.f50.results.toList Tryd.f50.ntmps an_grid_Grid_Clear [] [(.pointer g), (.agg #[(.int .i64 a.Fg), (.int .i64 a.Bg), (.int .i64 a.Flags)])] w (fun s w => K w) = sh_grid_Grid_Clear g a w K := by kernel_rfl

theorem call_grid_Grid_Clear (g : Option Addr) (a : T_api_Attr) {w : World} {K : World → Prop} (h : sh_grid_Grid_Clear g a w K) : c_grid_Grid_Clear g a w K := by
  rw [← vc_grid_Grid_Clear] at h
  refine Calls.mono (calls_of_vc C.plain_ok C.mixed Tryd.func50 rfl h) ?_
  rintro e w' ⟨s, rfl, hK⟩
  exact ⟨rfl, hK⟩

/-- (*phosphor/phosphorref16.Grid).Clear -/
def sh_phosphorref16_Grid_Clear (g : Option Addr) (a : T_api_Attr) (w : World) (K : World → Prop) : Prop :=
  nw 23 (T_api_Attr.rep.cells a) w fun a_1 w1 =>
  onPtr g fun t6 =>
  stK (t6.add 3) [(.slice none 0 0)] w1 fun w2 =>
  loopP (σ := Int × Unit) (fun I1 s w3 =>
    onPtr g fun t10 =>
    ldI .i64 (t10.add 0) w3 fun t12 =>
    cond (decide (s.1 < t12))
      (onPtr g fun t18 =>
       ldSl (t18.add 3) w3.drew fun t20 =>
       onPtr g fun t22 =>
       ldI .i64 (t22.add 1) w3.drew fun t24 =>
       ldS T_api_Attr.rep a_1 w3.drew fun t25 =>
       c_phosphorref13_New t24 t25 w3.drew fun t26 w4 =>
       World.cell? w4 (t18.add 3) = some (.slice t20.a t20.n t20.c) ∧
       nw 24 [(.slice t26.a t26.n t26.c)] w4 fun t27 w5 =>
       World.cell? w5 (t18.add 3) = some (.slice t20.a t20.n t20.c) ∧
       apK Tryd.prog #[86, 86] 86 t20 (⟨(some t27), 1, 1⟩ : Slc) w5 fun t28 w6 =>
       onPtr g fun t29 =>
       stK (t29.add 3) [(.slice t28.a t28.n t28.c)] w6 fun w7 =>
       I1 ((IntKind.i64.wrap (s.1 + (1 : Int))), ()) w7)
      (K w3)) (0, ()) w2

def an_phosphorref16_Grid_Clear : List Ann := [.none, .none, .none, .join [(4, (Kind.int .i64))] [4, 8, 9, 10, 11, 12, 13, 14, 15, 16, 17, 18, 19, 20, 21, 22, 23, 24, 25, 26, 27, 28, 29, 30], .none, .none, .none]

theorem vc_phosphorref16_Grid_Clear (g : Option Addr) (a : T_api_Attr) (w : World) (K : World → Prop) :
    vcFn C (Tryd.f51.body.getD .skip) Tryd.f51.results.toList Tryd.f51.ntmps an_phosphorref16_Grid_Clear [] [(.pointer g), (.agg #[(.int .i64 a.Fg), (.int .i64 a.Bg), (.int .i64 a.Flags)])] w (fun s w => K w) = sh_phosphorref16_Grid_Clear g a w K := by kernel_rfl

theorem call_phosphorref16_Grid_Clear (g : Option Addr) (a : T_api_Attr) {w : World} {K : World → Prop} (h : sh_phosphorref16_Grid_Clear g a w K) : c_phosphorref16_Grid_Clear g a w K := by
  rw [← vc_phosphorref16_Grid_Clear] at h
  refine Calls.mono (calls_of_vc C.plain_ok C.mixed Tryd.func51 rfl h) ?_
  rintro e w' ⟨s, rfl, hK⟩
  exact ⟨rfl, hK⟩

/-- (*phosphor/grid.Grid).Forget -/
def sh_grid_Grid_Forget (g : Option Addr) (w : World) (K : World → Prop) : Prop :=
  onPtr g fun t3 =>
  ldP (t3.add 0) w fun t5 =>
  c_ring_Ring_line_Line_Clear t5 w fun w1 =>
  K w1

def an_grid_Grid_Forget : List Ann := []

theorem vc_grid_Grid_Forget (g : Option Addr) (w : World) (K : World → Prop) :
    vcFn C (Tryd.f52.body.getD .skip) Tryd.f52.results.toList Tryd.f52.ntmps an_grid_Grid_Forget [] [(.pointer g)] w (fun s w => K w) = sh_grid_Grid_Forget g w K := by kernel_rfl

theorem call_grid_Grid_Forget (g : Option Addr) {w : World} {K : World → Prop} (h : sh_grid_Grid_Forget g w K) : c_grid_Grid_Forget g w K := by
  rw [← vc_grid_Grid_Forget] at h
  refine Calls.mono (calls_of_vc C.plain_ok C.mixed Tryd.func52 rfl h) ?_
  rintro e w' ⟨s, rfl, hK⟩
  exact ⟨rfl, hK⟩

/-- phosphor/phosphorlaw16.looks -/
def sh_phosphorlaw16_looks (g : Option Addr) (r : Option Addr) (i : Int) (w : World) (K : Bool → World → Prop) : Prop :=
  c_grid_Grid_Size g w fun t23 t23_1 w1 =>
  joinP (σ := Unit) (fun s w2 =>
    loopP (σ := Int × Unit) (fun I2 s_1 w3 =>
      cond (decide (s_1.1 < t23))
        (c_grid_Grid_Line g s_1.1 w3 fun t82 t82_1 w4 =>
         cond (!t82_1)
           (K false w4)
           (onPtr r fun t90 =>
            ldSl (t90.add 3) w4 fun t92 =>
            ixK t92 s_1.1 1 fun t94 =>
            ldSl t94 w4 fun t95 =>
            c_phosphorref13_Same t82 t95 w4 fun t96 w5 =>
            cond (!t96)
              (K false w5)
              (I2 ((IntKind.i64.wrap (s_1.1 + (1 : Int))), ()) w5)))
        (loopP (σ := Int × Unit) (fun I3 s_2 w6 =>
           onPtr r fun t101 =>
           ldSl (t101.add 4) w6 fun t103 =>
           cond (decide (s_2.1 < ((t103.n : Nat) : Int)))
             (c_grid_Grid_Old g s_2.1 w6 fun t111 t111_1 w7 =>
              cond (!t111_1)
                (K false w7)
                (onPtr r fun t119 =>
                 ldSl (t119.add 4) w7 fun t121 =>
                 ixK t121 s_2.1 1 fun t123 =>
                 ldSl t123 w7 fun t124 =>
                 c_phosphorref13_Same t111 t124 w7 fun t125 w8 =>
                 cond (!t125)
                   (K false w8)
                   (I3 ((IntKind.i64.wrap (s_2.1 + (1 : Int))), ()) w8)))
             (c_grid_Grid_Line g i w6 fun t131 t131_1 w9 =>
              c_grid_Grid_Old g i w9 fun t137 t137_1 w10 =>
              c_grid_Grid_Text g w10 fun t141 w11 =>
              joinP (σ := Unit) (fun s_3 w12 =>
                loopP (σ := Int × Unit) (fun I5 s_4 w13 =>
                  cond (decide (s_4.1 < t23))
                    (ixK t141 s_4.1 1 fun t175 =>
                     ldStr t175 w13.drew fun t176 =>
                     onPtr r fun t178 =>
                     ldSl (t178.add 3) w13.drew fun t180 =>
                     ixK t180 s_4.1 1 fun t182 =>
                     ldSl t182 w13.drew fun t183 =>
                     c_phosphorref13_Text t183 w13.drew fun t184 w14 =>
                     World.cell? w14 t175 = some (.string t176) ∧
                     cond (!(t176.toList == t184.toList))
                       (K false w14)
                       (I5 ((IntKind.i64.wrap (s_4.1 + (1 : Int))), ()) w14))
                    (K true w13)) (0, ()) w12) fun J4 =>
              c_phosphorref16_Grid_Is r i w11 fun t145 w15 =>
              cond (!(t131_1 == t145))
                (K false w15)
                (cond (decide (i ≥ (0 : Int)))
                   (onPtr r fun t154 =>
                    ldSl (t154.add 4) w15 fun t156 =>
                    cond (!(t137_1 == (decide (i < ((t156.n : Nat) : Int)))))
                      (K false w15)
                      (cond (((t141.n : Nat) : Int) != t23)
                         (K false w15)
                         (J4 (()) w15)))
                   (cond (!(t137_1 == false))
                      (K false w15)
                      (cond (((t141.n : Nat) : Int) != t23)
                         (K false w15)
                         (J4 (()) w15)))))) (0, ()) w3)) (0, ()) w2) fun J1 =>
  onPtr r fun t28 =>
  ldI .i64 (t28.add 0) w1.drew fun t30 =>
  cond (t23 != t30)
    (K false w1.drew)
    (onPtr r fun t35 =>
     ldI .i64 (t35.add 1) w1.drew fun t37 =>
     cond (t23_1 != t37)
       (K false w1.drew)
       (onPtr r fun t44 =>
        ldI .i64 (t44.add 5) w1.drew fun t46 =>
        c_grid_Grid_Top g w1.drew fun t42 w16 =>
        World.cell? w16 (t44.add 5) = some (.int .i64 t46) ∧
        cond (t42 != t46)
          (K false w16)
          (onPtr r fun t53 =>
           ldI .i64 (t53.add 5) w16 fun t55 =>
           onPtr r fun t57 =>
           ldSl (t57.add 4) w16 fun t59 =>
           c_grid_Grid_First g w16 fun t51 w17 =>
           World.cell? w17 (t57.add 4) = some (.slice t59.a t59.n t59.c) ∧
           World.cell? w17 (t53.add 5) = some (.int .i64 t55) ∧
           cond (t51 != (IntKind.i64.wrap (t55 - ((t59.n : Nat) : Int))))
             (K false w17)
             (onPtr r fun t68 =>
              ldSl (t68.add 4) w17 fun t70 =>
              c_grid_Grid_Back g w17 fun t66 w18 =>
              World.cell? w18 (t68.add 4) = some (.slice t70.a t70.n t70.c) ∧
              cond (t66 != ((t70.n : Nat) : Int))
                (K false w18)
                (J1 (()) w18)))))

def an_phosphorlaw16_looks : List Ann := [.none, .none, .join [] [6, 26, 27, 28, 29, 30, 31, 32, 33, 34, 35, 36, 37, 38, 39, 40, 41, 42, 43, 44, 45, 46, 47, 48, 49, 50, 51, 52, 53, 54, 55, 56, 57, 58, 59, 60, 61, 62, 63, 64, 65, 66, 67, 68, 69, 70, 71, 72, 73], .none, .none, .none, .none, .join [(9, (Kind.int .i64))] [6, 9, 10, 11, 74, 75, 76, 77, 78, 79, 80, 81, 82, 83, 84, 85, 86, 87, 88, 89, 90, 91, 92, 93, 94, 95, 96, 97, 98], .none, .none, .none, .none, .none, .none, .none, .none, .join [(12, (Kind.int .i64))] [6, 12, 13, 14, 99, 100, 101, 102, 103, 104, 105, 106, 107, 108, 109, 110, 111, 112, 113, 114, 115, 116, 117, 118, 119, 120, 121, 122, 123, 124, 125, 126, 127], .none, .none, .none, .none, .none, .none, .none, .none, .none, .join [] [6, 142, 143, 144, 145, 146, 147, 148, 149, 150, 151, 152, 153, 154, 155, 156, 157, 158, 159, 160, 161, 162, 163, 164, 165, 166, 167], .none, .none, .none, .none, .join [(20, (Kind.int .i64))] [6, 20, 168, 169, 170, 171, 172, 173, 174, 175, 176, 177, 178, 179, 180, 181, 182, 183, 184, 185], .none, .none, .none, .none, .none, .none]

theorem vc_phosphorlaw16_looks (g : Option Addr) (r : Option Addr) (i : Int) (w : World) (K : Bool → World → Prop) :
    vcFn C (Tryd.f53.body.getD .skip) Tryd.f53.results.toList Tryd.f53.ntmps an_phosphorlaw16_looks [Kind.bool] [(.pointer g), (.pointer r), (.int .i64 i)] w (fun s w => K s.1 w) = sh_phosphorlaw16_looks g r i w K := by kernel_rfl

theorem call_phosphorlaw16_looks (g : Option Addr) (r : Option Addr) (i : Int) {w : World} {K : Bool → World → Prop} (h : sh_phosphorlaw16_looks g r i w K) : c_phosphorlaw16_looks g r i w K := by
  rw [← vc_phosphorlaw16_looks] at h
  refine Calls.mono (calls_of_vc C.plain_ok C.mixed Tryd.func53 rfl h) ?_
  rintro e w' ⟨s, rfl, hK⟩
  exact ⟨s.1, rfl, hK⟩

/-- phosphor/line.blanks -/
def sh_line_blanks (n : Int) (a : T_api_Attr) (w : World) (K : Slc → World → Prop) : Prop :=
  nw 23 (T_api_Attr.rep.cells a) w fun a_1 w1 =>
  loopP (σ := Slc × Int × Unit) (fun I1 s w2 =>
    cond (decide (s.2.1 < n))
      (ldS T_api_Attr.rep a_1 w2 fun t10 =>
       nw 42 [(.int .i32 0), (.int .i64 0), (.int .i64 t10.Fg), (.int .i64 t10.Bg), (.int .i64 t10.Flags)] w2 fun t12 w3 =>
       apK Tryd.prog #[25, 25] 25 s.1 (⟨(some t12), 1, 1⟩ : Slc) w3 fun t13 w4 =>
       I1 (t13, (IntKind.i64.wrap (s.2.1 + (1 : Int))), ()) w4)
      (K s.1 w2)) (⟨none, 0, 0⟩, 0, ()) w1

def an_line_blanks : List Ann := [.none, .none, .none, .none, .join [(5, Kind.slice), (7, (Kind.int .i64))] [5, 7, 8, 9, 10, 11, 12, 13, 14], .none, .none, .none, .none]

theorem vc_line_blanks (n : Int) (a : T_api_Attr) (w : World) (K : Slc → World → Prop) :
    vcFn C (Tryd.f54.body.getD .skip) Tryd.f54.results.toList Tryd.f54.ntmps an_line_blanks [Kind.slice] [(.int .i64 n), (.agg #[(.int .i64 a.Fg), (.int .i64 a.Bg), (.int .i64 a.Flags)])] w (fun s w => K s.1 w) = sh_line_blanks n a w K := by kernel_rfl

theorem call_line_blanks (n : Int) (a : T_api_Attr) {w : World} {K : Slc → World → Prop} (h : sh_line_blanks n a w K) : c_line_blanks n a w K := by
  rw [← vc_line_blanks] at h
  refine Calls.mono (calls_of_vc C.plain_ok C.mixed Tryd.func54 rfl h) ?_
  rintro e w' ⟨s, rfl, hK⟩
  exact ⟨s.1, rfl, hK⟩

/-- slices.Clone[phosphor/line.Line,phosphor/api.Cell] -/
def sh_slices_Clone_line_Line_api_Cell (s : Slc) (w : World) (K : Slc → World → Prop) : Prop :=
  cond (s.a.isNone)
    (K (⟨none, 0, 0⟩ : Slc) w)
    (nw 42 [] w fun t5 w1 =>
     apK Tryd.prog #[25, 25] 25 (⟨(some t5), 0, 0⟩ : Slc) s w1 fun t7 w2 =>
     K t7 w2)

def an_slices_Clone_line_Line_api_Cell : List Ann := [.none, .none, .none, .none, .none]

theorem vc_slices_Clone_line_Line_api_Cell (s : Slc) (w : World) (K : Slc → World → Prop) :
    vcFn C (Tryd.f55.body.getD .skip) Tryd.f55.results.toList Tryd.f55.ntmps an_slices_Clone_line_Line_api_Cell [Kind.slice] [(.slice s.a s.n s.c)] w (fun s w => K s.1 w) = sh_slices_Clone_line_Line_api_Cell s w K := by kernel_rfl

theorem call_slices_Clone_line_Line_api_Cell (s : Slc) {w : World} {K : Slc → World → Prop} (h : sh_slices_Clone_line_Line_api_Cell s w K) : c_slices_Clone_line_Line_api_Cell s w K := by
  rw [← vc_slices_Clone_line_Line_api_Cell] at h
  refine Calls.mono (calls_of_vc C.plain_ok C.mixed Tryd.func55 rfl h) ?_
  rintro e w' ⟨s, rfl, hK⟩
  exact ⟨s.1, rfl, hK⟩

/-- (phosphor/line.Line).fits -/
def sh_line_Line_fits (l : Slc) (col : Int) (w : World) (K : Bool → World → Prop) : Prop :=
  ixK l col 5 fun t7 =>
  ldI .i64 (t7.add 1) w fun t9 =>
  cond (t9 == (0 : Int))
    (K true w)
    (cond (t9 == (1 : Int))
       (c_line_Line_is l (IntKind.i64.wrap (col + (1 : Int))) 2 w fun t17 w1 =>
        K t17 w1)
       (cond (t9 == (2 : Int))
          (c_line_Line_is l (IntKind.i64.wrap (col - (1 : Int))) 1 w fun t23 w2 =>
           K t23 w2)
          (K false w)))

def an_line_Line_fits : List Ann := [.none, .none, .none, .none, .none, .none, .none, .none, .none, .none]

theorem vc_line_Line_fits (l : Slc) (col : Int) (w : World) (K : Bool → World → Prop) :
    vcFn C (Tryd.f56.body.getD .skip) Tryd.f56.results.toList Tryd.f56.ntmps an_line_Line_fits [Kind.bool] [(.slice l.a l.n l.c), (.int .i64 col)] w (fun s w => K s.1 w) = sh_line_Line_fits l col w K := by kernel_rfl

theorem call_line_Line_fits (l : Slc) (col : Int) {w : World} {K : Bool → World → Prop} (h : sh_line_Line_fits l col w K) : c_line_Line_fits l col w K := by
  rw [← vc_line_Line_fits] at h
  refine Calls.mono (calls_of_vc C.plain_ok C.mixed Tryd.func56 rfl h) ?_
  rintro e w' ⟨s, rfl, hK⟩
  exact ⟨s.1, rfl, hK⟩

/-- phosphor/phosphorref13.blank -/
def sh_phosphorref13_blank (a : T_api_Attr) (w : World) (K : T_api_Cell → World → Prop) : Prop :=
  nw 23 (T_api_Attr.rep.cells a) w fun a_1 w1 =>
  nw 42 [(.int .i32 0), (.int .i64 0), (.int .i64 0), (.int .i64 0), (.int .i64 0)] w1 fun t2 w2 =>
  ldS T_api_Attr.rep a_1 w2 fun t3 =>
  stK t2 [(.int .i32 0), (.int .i64 0), (.int .i64 t3.Fg), (.int .i64 t3.Bg), (.int .i64 t3.Flags)] w2 fun w3 =>
  ldS T_api_Cell.rep t2 w3 fun r =>
  K r w3

def an_phosphorref13_blank : List Ann := [.none, .none]

theorem vc_phosphorref13_blank (a : T_api_Attr) (w : World) (K : T_api_Cell → World → Prop) :
    vcFn C (Tryd.f57.body.getD .skip) Tryd.f57.results.toList Tryd.f57.ntmps an_phosphorref13_blank [(Kind.struct T_api_Cell.rep)] [(.agg #[(.int .i64 a.Fg), (.int .i64 a.Bg), (.int .i64 a.Flags)])] w (fun s w => K s.1 w) = sh_phosphorref13_blank a w K := by kernel_rfl

theorem call_phosphorref13_blank (a : T_api_Attr) {w : World} {K : T_api_Cell → World → Prop} (h : sh_phosphorref13_blank a w K) : c_phosphorref13_blank a w K := by
  rw [← vc_phosphorref13_blank] at h
  refine Calls.mono (calls_of_vc C.plain_ok C.mixed Tryd.func57 rfl h) ?_
  rintro e w' ⟨s, rfl, hK⟩
  exact ⟨s.1, rfl, hK⟩

/-- (phosphor/line.Line).halves -/
def sh_line_Line_halves (l : Slc) (from_ : Int) (to : Int) (w : World) (K : Slc → World → Prop) : Prop :=
  nw 3 [(.int .i64 (IntKind.i64.wrap (from_ - (1 : Int)))), (.int .i64 to)] w fun t12 w1 =>
  loopP (σ := Int × Unit) (fun I1 s w2 =>
    cond (decide (s.1 < ((2 : Nat) : Int)))
      ((0 ≤ s.1 ∧ s.1 < (2 : Nat)) ∧
       ldI .i64 (t12.add ((s.1 : Int).toNat * 1)) w2 fun t17 =>
       joinP (σ := Bool × Unit) (fun s_1 w3 =>
         cond s_1.1
           (ixK l t17 5 fun t36 =>
            ldS T_api_Attr.rep (t36.add 2) w3 fun t38 =>
            ixK l t17 5 fun t40 =>
            stK t40 [(.int .i32 0), (.int .i64 0), (.int .i64 t38.Fg), (.int .i64 t38.Bg), (.int .i64 t38.Flags)] w3 fun w4 =>
            I1 ((IntKind.i64.wrap (s.1 + (1 : Int))), ()) w4)
           (I1 ((IntKind.i64.wrap (s.1 + (1 : Int))), ()) w3)) fun J2 =>
       cond (decide (t17 ≥ (0 : Int)))
         (cond (decide (t17 < ((l.n : Nat) : Int)))
            (c_line_Line_fits l t17 w2 fun t29 w5 =>
             J2 ((!t29), ()) w5)
            (J2 (false, ()) w2))
         (J2 (false, ()) w2))
      (K l w2)) (0, ()) w1

def an_line_Line_halves : List Ann := [.none, .none, .none, .join [(14, (Kind.int .i64))] [8, 14, 15, 16, 17, 18, 19, 20, 21, 22, 23, 24, 25, 26, 27, 28, 29, 30, 31, 32, 33, 34, 35, 36, 37, 38, 39, 40, 41], .none, .none, .none, .none, .join [(31, Kind.bool)] [18, 19, 20, 21, 22, 23, 24, 25, 26, 27, 28, 29, 30, 31], .none]

theorem vc_line_Line_halves (l : Slc) (from_ : Int) (to : Int) (w : World) (K : Slc → World → Prop) :
    vcFn C (Tryd.f58.body.getD .skip) Tryd.f58.results.toList Tryd.f58.ntmps an_line_Line_halves [Kind.slice] [(.slice l.a l.n l.c), (.int .i64 from_), (.int .i64 to)] w (fun s w => K s.1 w) = sh_line_Line_halves l from_ to w K := by kernel_rfl

theorem call_line_Line_halves (l : Slc) (from_ : Int) (to : Int) {w : World} {K : Slc → World → Prop} (h : sh_line_Line_halves l from_ to w K) : c_line_Line_halves l from_ to w K := by
  rw [← vc_line_Line_halves] at h
  refine Calls.mono (calls_of_vc C.plain_ok C.mixed Tryd.func58 rfl h) ?_
  rintro e w' ⟨s, rfl, hK⟩
  exact ⟨s.1, rfl, hK⟩

/-- (*strings.Builder).WriteByte -/
def sh_strings_Builder_WriteByte (b : Option Addr) (c : Int) (w : World) (K : Value → World → Prop) : Prop :=
  c_strings_Builder_copyCheck b w fun w1 =>
  onPtr b fun t9 =>
  ldSl (t9.add 1) w1 fun t11 =>
  nw 5 [(.int .u8 c)] w1 fun t13 w2 =>
  apK Tryd.prog #[34, 34] 34 t11 (⟨(some t13), 1, 1⟩ : Slc) w2 fun t14 w3 =>
  onPtr b fun t15 =>
  stK (t15.add 1) [(.slice t14.a t14.n t14.c)] w3 fun w4 =>
  K (.nilIface : Value) w4

def an_strings_Builder_WriteByte : List Ann := [.none, .none, .none, .none]

theorem vc_strings_Builder_WriteByte (b : Option Addr) (c : Int) (w : World) (K : Value → World → Prop) :
    vcFn C (Tryd.f59.body.getD .skip) Tryd.f59.results.toList Tryd.f59.ntmps an_strings_Builder_WriteByte [Kind.raw] [(.pointer b), (.int .u8 c)] w (fun s w => K s.1 w) = sh_strings_Builder_WriteByte b c w K := by kernel_rfl

theorem call_strings_Builder_WriteByte (b : Option Addr) (c : Int) {w : World} {K : Value → World → Prop} (h : sh_strings_Builder_WriteByte b c w K) : c_strings_Builder_WriteByte b c w K := by
  rw [← vc_strings_Builder_WriteByte] at h
  refine Calls.mono (calls_of_vc C.plain_ok C.mixed Tryd.func59 rfl h) ?_
  rintro e w' ⟨s, rfl, hK⟩
  exact ⟨s.1, rfl, hK⟩

/-- (*strings.Builder).Write -/
def sh_strings_Builder_Write (b : Option Addr) (p : Slc) (w : World) (K : Int → Value → World → Prop) : Prop :=
  c_strings_Builder_copyCheck b w fun w1 =>
  onPtr b fun t10 =>
  ldSl (t10.add 1) w1 fun t12 =>
  apK Tryd.prog #[34, 34] 34 t12 p w1 fun t14 w2 =>
  onPtr b fun t15 =>
  stK (t15.add 1) [(.slice t14.a t14.n t14.c)] w2 fun w3 =>
  K ((p.n : Nat) : Int) (.nilIface : Value) w3

def an_strings_Builder_Write : List Ann := [.none, .none, .none, .none]

theorem vc_strings_Builder_Write (b : Option Addr) (p : Slc) (w : World) (K : Int → Value → World → Prop) :
    vcFn C (Tryd.f60.body.getD .skip) Tryd.f60.results.toList Tryd.f60.ntmps an_strings_Builder_Write [(Kind.int .i64), Kind.raw] [(.pointer b), (.slice p.a p.n p.c)] w (fun s w => K s.1 s.2.1 w) = sh_strings_Builder_Write b p w K := by kernel_rfl

theorem call_strings_Builder_Write (b : Option Addr) (p : Slc) {w : World} {K : Int → Value → World → Prop} (h : sh_strings_Builder_Write b p w K) : c_strings_Builder_Write b p w K := by
  rw [← vc_strings_Builder_Write] at h
  refine Calls.mono (calls_of_vc C.plain_ok C.mixed Tryd.func60 rfl h) ?_
  rintro e w' ⟨s, rfl, hK⟩
  exact ⟨s.1, s.2.1, rfl, hK⟩

/-- phosphor/utf.Encode -/
def sh_utf_Encode (l : Slc) (w : World) (K : Slc → World → Prop) : Prop :=
  loopP (σ := Slc × Int × Unit) (fun I1 s w1 =>
    cond (decide (s.2.1 < ((l.n : Nat) : Int)))
      (ixK l s.2.1 1 fun t12 =>
       ldI .i32 t12 w1 fun t13 =>
       joinP (σ := Int × Unit) (fun s_1 w2 =>
         joinP (σ := Int × Int × Unit) (fun s_2 w3 =>
           0 ≤ (IntKind.i64.wrap ((6 : Int) * s_2.1)) ∧
           nw 5 [(.int .u8 (IntKind.u8.wrap (bitsR .or .i32 s_2.2.1 (s_1.1.fdiv (2 ^ (min (IntKind.i64.wrap ((6 : Int) * s_2.1)).toNat IntKind.i32.bits))))))] w3 fun t46 w4 =>
           apK Tryd.prog #[34, 34] 34 s.1 (⟨(some t46), 1, 1⟩ : Slc) w4 fun t47 w5 =>
           loopP (σ := Slc × Int × Unit) (fun I4 s_3 w6 =>
             cond (decide (s_3.2.1 ≥ (0 : Int)))
               (0 ≤ (IntKind.i64.wrap ((6 : Int) * s_3.2.1)) ∧
                nw 5 [(.int .u8 (IntKind.u8.wrap (bitsR .or .i32 (128 : Int) (bitsR .and .i32 (s_1.1.fdiv (2 ^ (min (IntKind.i64.wrap ((6 : Int) * s_3.2.1)).toNat IntKind.i32.bits))) (63 : Int)))))] w6 fun t62 w7 =>
                apK Tryd.prog #[34, 34] 34 s_3.1 (⟨(some t62), 1, 1⟩ : Slc) w7 fun t63 w8 =>
                I4 (t63, (IntKind.i64.wrap (s_3.2.1 - (1 : Int))), ()) w8)
               (I1 (s_3.1, (IntKind.i64.wrap (s.2.1 + (1 : Int))), ()) w6)) (t47, (IntKind.i64.wrap (s_2.1 - (1 : Int))), ()) w5) fun J3 =>
         joinP (σ := Int × Int × Unit) (fun s_4 w9 =>
           J3 ((IntKind.i64.wrap (s_4.1 + (1 : Int))), (bitsR .or .i32 s_4.2.1 (192 : Int)), ()) w9) fun J5 =>
         joinP (σ := Int × Int × Unit) (fun s_5 w10 =>
           J5 ((IntKind.i64.wrap (s_5.1 + (1 : Int))), (bitsR .or .i32 s_5.2.1 (32 : Int)), ()) w10) fun J6 =>
         cond (decide (s_1.1 ≥ (65536 : Int)))
           (J6 ((IntKind.i64.wrap ((0 : Int) + (1 : Int))), (bitsR .or .i32 (0 : Int) (16 : Int)), ()) w2)
           (cond (decide (s_1.1 ≥ (2048 : Int)))
              (J6 (0, 0, ()) w2)
              (cond (decide (s_1.1 ≥ (128 : Int)))
                 (J5 (0, 0, ()) w2)
                 (J3 (0, 0, ()) w2)))) fun J2 =>
       c_utf_Is t13 w1 fun t15 w11 =>
       cond (!t15)
         (J2 (65533, ()) w11)
         (J2 (t13, ()) w11))
      (K s.1 w1)) (⟨none, 0, 0⟩, 0, ()) w

def an_utf_Encode : List Ann := [.none, .none, .none, .none, .join [(3, Kind.slice), (10, (Kind.int .i64))] [3, 5, 6, 7, 10, 11, 12, 13, 14, 15, 16, 17, 18, 19, 20, 21, 22, 23, 24, 25, 26, 27, 28, 29, 30, 31, 32, 33, 34, 35, 36, 37, 38, 39, 40, 41, 42, 43, 44, 45, 46, 47, 48, 49, 50, 51, 52, 53, 54, 55, 56, 57, 58, 59, 60, 61, 62, 63, 64], .none, .none, .none, .none, .join [(5, (Kind.int .i32))] [5, 14, 15, 16], .none, .none, .join [(6, (Kind.int .i64)), (7, (Kind.int .i32))] [6, 7, 17, 18, 19, 20, 21, 22, 23, 24, 25, 26, 27, 28, 29, 30, 31, 32, 33, 34, 35, 36, 37], .join [(6, (Kind.int .i64)), (7, (Kind.int .i32))] [6, 7, 17, 18, 19, 20, 21, 22, 23, 24, 25, 26, 27, 28, 29, 30, 31, 32, 33], .join [(6, (Kind.int .i64)), (7, (Kind.int .i32))] [6, 7, 17, 18, 19, 20, 21, 22, 23, 24, 25, 26, 27, 28, 29], .none, .none, .none, .none, .none, .none, .none, .none, .none, .none, .none, .none, .none, .join [(3, Kind.slice), (6, (Kind.int .i64))] [3, 6, 50, 51, 52, 53, 54, 55, 56, 57, 58, 59, 60, 61, 62, 63], .none, .none, .none, .none]

theorem vc_utf_Encode (l : Slc) (w : World) (K : Slc → World → Prop) :
    vcFn C (Tryd.f61.body.getD .skip) Tryd.f61.results.toList Tryd.f61.ntmps an_utf_Encode [Kind.slice] [(.slice l.a l.n l.c)] w (fun s w => K s.1 w) = sh_utf_Encode l w K := by kernel_rfl

theorem call_utf_Encode (l : Slc) {w : World} {K : Slc → World → Prop} (h : sh_utf_Encode l w K) : c_utf_Encode l w K := by
  rw [← vc_utf_Encode] at h
  refine Calls.mono (calls_of_vc C.plain_ok C.mixed Tryd.func61 rfl h) ?_
  rintro e w' ⟨s, rfl, hK⟩
  exact ⟨s.1, rfl, hK⟩

/-- strings.TrimRight -/
def sh_strings_TrimRight (s : ByteArray) (cutset : ByteArray) (w : World) (K : ByteArray → World → Prop) : Prop :=
  joinP (σ := Unit) (fun s_1 w1 =>
    joinP (σ := Unit) (fun s_2 w2 =>
      False) fun J2 =>
    joinP (σ := Bool × Unit) (fun s_3 w3 =>
      cond s_3.1
        (ixS cutset 0 fun t24 =>
         c_strings_trimRightByte s t24 w3 fun t25 w4 =>
         K t25 w4)
        (J2 (()) w3)) fun J3 =>
    cond ((cutset.size : Int) == (1 : Int))
      (ixS cutset 0 fun t19 =>
       J3 ((decide (t19 < (128 : Int))), ()) w1)
      (J3 (false, ()) w1)) fun J1 =>
  cond (s.toList == (⟨#[]⟩ : ByteArray).toList)
    (K s w)
    (cond (cutset.toList == (⟨#[]⟩ : ByteArray).toList)
       (K s w)
       (J1 (()) w))

def an_strings_TrimRight : List Ann := [.none, .join [] [4, 7, 8, 9, 10, 11, 12, 13], .none, .none, .join [] [4, 14, 15, 16, 17, 18, 19, 20, 21, 22, 23, 24, 25], .join [(21, Kind.bool)] [14, 15, 16, 17, 18, 19, 20, 21], .none, .none, .none, .none, .none, .none]

theorem vc_strings_TrimRight (s : ByteArray) (cutset : ByteArray) (w : World) (K : ByteArray → World → Prop) :
    vcFn C (Tryd.f62.body.getD .skip) Tryd.f62.results.toList Tryd.f62.ntmps an_strings_TrimRight [Kind.string] [(.string s), (.string cutset)] w (fun s w => K s.1 w) = sh_strings_TrimRight s cutset w K := by kernel_rfl

theorem call_strings_TrimRight (s : ByteArray) (cutset : ByteArray) {w : World} {K : ByteArray → World → Prop} (h : sh_strings_TrimRight s cutset w K) : c_strings_TrimRight s cutset w K := by
  rw [← vc_strings_TrimRight] at h
  refine Calls.mono (calls_of_vc C.plain_ok C.mixed Tryd.func62 rfl h) ?_
  rintro e w' ⟨s, rfl, hK⟩
  exact ⟨s.1, rfl, hK⟩

/-- (*strings.Builder).String -/
def sh_strings_Builder_String (b : Option Addr) (w : World) (K : ByteArray → World → Prop) : Prop :=
  onPtr b fun t4 =>
  ldSl (t4.add 1) w.drew fun t6 =>
  onPtr b fun t9 =>
  ldSl (t9.add 1) w.drew fun t11 =>
  runK1 Tryd.prog (Builtin.unsafeSliceData_ #[34] 135 #[(.slice t6.a t6.n t6.c)]) Kind.ptr w.drew fun (t7 : Option Addr) w1 =>
  World.cell? w1 (t9.add 1) = some (.slice t11.a t11.n t11.c) ∧
  runK1 Tryd.prog (Builtin.unsafeString_ #[135, 3] 9 #[(.pointer t7), (.int .i64 ((t11.n : Nat) : Int))]) Kind.string w1 fun (t13 : ByteArray) w2 =>
  K t13 w2

def an_strings_Builder_String : List Ann := [.none, .none]

theorem vc_strings_Builder_String (b : Option Addr) (w : World) (K : ByteArray → World → Prop) :
    vcFn C (Tryd.f63.body.getD .skip) Tryd.f63.results.toList Tryd.f63.ntmps an_strings_Builder_String [Kind.string] [(.pointer b)] w (fun s w => K s.1 w) = sh_strings_Builder_String b w K := by kernel_rfl

theorem call_strings_Builder_String (b : Option Addr) {w : World} {K : ByteArray → World → Prop} (h : sh_strings_Builder_String b w K) : c_strings_Builder_String b w K := by
  rw [← vc_strings_Builder_String] at h
  refine Calls.mono (calls_of_vc C.plain_ok C.mixed Tryd.func63 rfl h) ?_
  rintro e w' ⟨s, rfl, hK⟩
  exact ⟨s.1, rfl, hK⟩

/-- (phosphor/line.Line).many -/
def sh_line_Line_many (l : Slc) (col : Int) (n : Int) (w : World) (K : Int → World → Prop) : Prop :=
  joinP (σ := Unit) (fun s w1 =>
    K (if (IntKind.i64.wrap (((l.n : Nat) : Int) - col)) < n then (IntKind.i64.wrap (((l.n : Nat) : Int) - col)) else n) w1) fun J1 =>
  cond (decide (n < (1 : Int)))
    (K 0 w)
    (cond (decide (col < (0 : Int)))
       (K 0 w)
       (cond (decide (col ≥ ((l.n : Nat) : Int)))
          (K 0 w)
          (J1 (()) w)))

def an_line_Line_many : List Ann := [.none, .join [] [6, 7, 8, 9, 10, 11, 12, 13, 14, 15, 16, 17, 18], .none, .none, .none]

theorem vc_line_Line_many (l : Slc) (col : Int) (n : Int) (w : World) (K : Int → World → Prop) :
    vcFn C (Tryd.f64.body.getD .skip) Tryd.f64.results.toList Tryd.f64.ntmps an_line_Line_many [(Kind.int .i64)] [(.slice l.a l.n l.c), (.int .i64 col), (.int .i64 n)] w (fun s w => K s.1 w) = sh_line_Line_many l col n w K := by kernel_rfl

theorem call_line_Line_many (l : Slc) (col : Int) (n : Int) {w : World} {K : Int → World → Prop} (h : sh_line_Line_many l col n w K) : c_line_Line_many l col n w K := by
  rw [← vc_line_Line_many] at h
  refine Calls.mono (calls_of_vc C.plain_ok C.mixed Tryd.func64 rfl h) ?_
  rintro e w' ⟨s, rfl, hK⟩
  exact ⟨s.1, rfl, hK⟩

/-- slices.Concat[phosphor/line.Line,phosphor/api.Cell] -/
def sh_slices_Concat_line_Line_api_Cell (slices : Slc) (w : World) (K : Slc → World → Prop) : Prop :=
  loopP (σ := Int × Int × Unit) (fun I1 s w1 =>
    cond (decide (s.2.1 < ((slices.n : Nat) : Int)))
      (ixK slices s.2.1 1 fun t13 =>
       ldSl t13 w1 fun t14 =>
       cond (decide ((IntKind.i64.wrap (s.1 + ((t14.n : Nat) : Int))) < (0 : Int)))
         (False)
         (I1 ((IntKind.i64.wrap (s.1 + ((t14.n : Nat) : Int))), (IntKind.i64.wrap (s.2.1 + (1 : Int))), ()) w1))
      (c_slices_Grow_line_Line_api_Cell (⟨none, 0, 0⟩ : Slc) s.1 w1 fun t24 w2 =>
       loopP (σ := Slc × Int × Unit) (fun I2 s_1 w3 =>
         cond (decide (s_1.2.1 < ((slices.n : Nat) : Int)))
           (ixK slices s_1.2.1 1 fun t29 =>
            ldSl t29 w3 fun t30 =>
            apK Tryd.prog #[25, 25] 25 s_1.1 t30 w3 fun t33 w4 =>
            I2 (t33, (IntKind.i64.wrap (s_1.2.1 + (1 : Int))), ()) w4)
           (K s_1.1 w3)) (t24, 0, ()) w2)) (0, 0, ()) w

def an_slices_Concat_line_Line_api_Cell : List Ann := [.none, .none, .none, .none, .join [(3, (Kind.int .i64)), (11, (Kind.int .i64))] [3, 5, 11, 12, 13, 14, 15, 16, 17, 18, 19, 20, 21, 22], .none, .none, .none, .none, .none, .none, .none, .none, .none, .join [(6, Kind.slice), (27, (Kind.int .i64))] [6, 8, 27, 28, 29, 30, 31, 32, 33, 34], .none, .none, .none, .none, .none]

theorem vc_slices_Concat_line_Line_api_Cell (slices : Slc) (w : World) (K : Slc → World → Prop) :
    vcFn C (Tryd.f65.body.getD .skip) Tryd.f65.results.toList Tryd.f65.ntmps an_slices_Concat_line_Line_api_Cell [Kind.slice] [(.slice slices.a slices.n slices.c)] w (fun s w => K s.1 w) = sh_slices_Concat_line_Line_api_Cell slices w K := by kernel_rfl

theorem call_slices_Concat_line_Line_api_Cell (slices : Slc) {w : World} {K : Slc → World → Prop} (h : sh_slices_Concat_line_Line_api_Cell slices w K) : c_slices_Concat_line_Line_api_Cell slices w K := by
  rw [← vc_slices_Concat_line_Line_api_Cell] at h
  refine Calls.mono (calls_of_vc C.plain_ok C.mixed Tryd.func65 rfl h) ?_
  rintro e w' ⟨s, rfl, hK⟩
  exact ⟨s.1, rfl, hK⟩

/-- phosphor/phosphorref13.Put -/
def sh_phosphorref13_Put (l : Slc) (col : Int) (r : Int) (width : Int) (a : T_api_Attr) (w : World) (K : Slc → Bool → World → Prop) : Prop :=
  nw 23 (T_api_Attr.rep.cells a) w fun a_1 w1 =>
  joinP (σ := Unit) (fun s w2 =>
    c_phosphorref13_over l col (IntKind.i64.wrap (col + width)) w2 fun t38 w3 =>
    ldS T_api_Attr.rep a_1 w3 fun t43 =>
    ixK t38 col 5 fun t45 =>
    stK t45 [(.int .i32 (IntKind.i32.wrap r)), (.int .i64 0), (.int .i64 t43.Fg), (.int .i64 t43.Bg), (.int .i64 t43.Flags)] w3 fun w4 =>
    cond (width == (2 : Int))
      (ixK t38 col 5 fun t50 =>
       stK (t50.add 1) [(.int .i64 1)] w4 fun w5 =>
       ldS T_api_Attr.rep a_1 w5 fun t55 =>
       ixK t38 (IntKind.i64.wrap (col + (1 : Int))) 5 fun t57 =>
       stK t57 [(.int .i32 0), (.int .i64 2), (.int .i64 t55.Fg), (.int .i64 t55.Bg), (.int .i64 t55.Flags)] w5 fun w6 =>
       K t38 true w6)
      (K t38 true w4)) fun J1 =>
  joinP (σ := Bool × Unit) (fun s_1 w7 =>
    cond s_1.1
      (c_phosphorref13_Mend l w7 fun t32 w8 =>
       K t32 false w8)
      (J1 (()) w7)) fun J2 =>
  cond (decide (width < (1 : Int)))
    (J2 (true, ()) w1)
    (cond (decide (width > (2 : Int)))
       (J2 (true, ()) w1)
       (cond (decide (col < (0 : Int)))
          (J2 (true, ()) w1)
          (J2 ((decide (col > (IntKind.i64.wrap (((l.n : Nat) : Int) - width)))), ()) w1)))

def an_phosphorref13_Put : List Ann := [.none, .join [] [10, 11, 13, 14, 15, 16, 17, 18, 19, 20, 21, 22, 23, 24, 25, 26, 27, 28, 29, 30, 31, 32], .join [(30, Kind.bool)] [13, 14, 15, 16, 17, 18, 19, 20, 21, 22, 23, 24, 25, 26, 27, 28, 29, 30], .none, .none, .none, .none, .none, .none, .none]

theorem vc_phosphorref13_Put (l : Slc) (col : Int) (r : Int) (width : Int) (a : T_api_Attr) (w : World) (K : Slc → Bool → World → Prop) :
    vcFn C (Tryd.f66.body.getD .skip) Tryd.f66.results.toList Tryd.f66.ntmps an_phosphorref13_Put [Kind.slice, Kind.bool] [(.slice l.a l.n l.c), (.int .i64 col), (.int .i64 r), (.int .i64 width), (.agg #[(.int .i64 a.Fg), (.int .i64 a.Bg), (.int .i64 a.Flags)])] w (fun s w => K s.1 s.2.1 w) = sh_phosphorref13_Put l col r width a w K := by kernel_rfl

theorem call_phosphorref13_Put (l : Slc) (col : Int) (r : Int) (width : Int) (a : T_api_Attr) {w : World} {K : Slc → Bool → World → Prop} (h : sh_phosphorref13_Put l col r width a w K) : c_phosphorref13_Put l col r width a w K := by
  rw [← vc_phosphorref13_Put] at h
  refine Calls.mono (calls_of_vc C.plain_ok C.mixed Tryd.func66 rfl h) ?_
  rintro e w' ⟨s, rfl, hK⟩
  exact ⟨s.1, s.2.1, rfl, hK⟩

/-- phosphor/phosphorref13.Insert -/
def sh_phosphorref13_Insert (l : Slc) (col : Int) (n : Int) (a : T_api_Attr) (w : World) (K : Slc → World → Prop) : Prop :=
  nw 23 (T_api_Attr.rep.cells a) w fun a_1 w1 =>
  c_phosphorref13_Mend l w1 fun t13 w2 =>
  c_phosphorref13_count l col n w2 fun t17 w3 =>
  cond (t17 == (0 : Int))
    (K t13 w3)
    (nw 42 [] w3 fun t21 w4 =>
     slK t13 none (some col) 5 fun t24 =>
     apK Tryd.prog #[24, 24] 24 (⟨(some t21), 0, 0⟩ : Slc) t24 w4 fun t25 w5 =>
     loopP (σ := Slc × Int × Unit) (fun I1 s w6 =>
       cond (decide (s.2.1 < t17))
         (ldS T_api_Attr.rep a_1 w6 fun t32 =>
          c_phosphorref13_blank t32 w6 fun t33 w7 =>
          nw 42 [(.int .i32 t33.R), (.int .i64 t33.Kind), (.int .i64 t33.A.Fg), (.int .i64 t33.A.Bg), (.int .i64 t33.A.Flags)] w7 fun t34 w8 =>
          apK Tryd.prog #[24, 24] 24 s.1 (⟨(some t34), 1, 1⟩ : Slc) w8 fun t35 w9 =>
          I1 (t35, (IntKind.i64.wrap (s.2.1 + (1 : Int))), ()) w9)
         (slK t13 (some col) none 5 fun t39 =>
          apK Tryd.prog #[24, 24] 24 s.1 t39 w6 fun t40 w10 =>
          slK t40 none (some ((l.n : Nat) : Int)) 5 fun t44 =>
          c_phosphorref13_Mend t44 w10 fun t45 w11 =>
          K t45 w11)) (t25, 0, ()) w5)

def an_phosphorref13_Insert : List Ann := [.none, .none, .none, .none, .none, .none, .none, .none, .none, .join [(10, Kind.slice), (11, (Kind.int .i64))] [10, 11, 26, 27, 28, 29, 30, 31, 32, 33, 34, 35], .none, .none, .none, .none, .none]

theorem vc_phosphorref13_Insert (l : Slc) (col : Int) (n : Int) (a : T_api_Attr) (w : World) (K : Slc → World → Prop) :
    vcFn C (Tryd.f67.body.getD .skip) Tryd.f67.results.toList Tryd.f67.ntmps an_phosphorref13_Insert [Kind.slice] [(.slice l.a l.n l.c), (.int .i64 col), (.int .i64 n), (.agg #[(.int .i64 a.Fg), (.int .i64 a.Bg), (.int .i64 a.Flags)])] w (fun s w => K s.1 w) = sh_phosphorref13_Insert l col n a w K := by kernel_rfl

theorem call_phosphorref13_Insert (l : Slc) (col : Int) (n : Int) (a : T_api_Attr) {w : World} {K : Slc → World → Prop} (h : sh_phosphorref13_Insert l col n a w K) : c_phosphorref13_Insert l col n a w K := by
  rw [← vc_phosphorref13_Insert] at h
  refine Calls.mono (calls_of_vc C.plain_ok C.mixed Tryd.func67 rfl h) ?_
  rintro e w' ⟨s, rfl, hK⟩
  exact ⟨s.1, rfl, hK⟩

/-- phosphor/phosphorref13.Delete -/
def sh_phosphorref13_Delete (l : Slc) (col : Int) (n : Int) (a : T_api_Attr) (w : World) (K : Slc → World → Prop) : Prop :=
  nw 23 (T_api_Attr.rep.cells a) w fun a_1 w1 =>
  c_phosphorref13_Mend l w1 fun t13 w2 =>
  c_phosphorref13_count l col n w2 fun t17 w3 =>
  cond (t17 == (0 : Int))
    (K t13 w3)
    (nw 42 [] w3 fun t21 w4 =>
     slK t13 none (some col) 5 fun t24 =>
     apK Tryd.prog #[24, 24] 24 (⟨(some t21), 0, 0⟩ : Slc) t24 w4 fun t25 w5 =>
     slK t13 (some (IntKind.i64.wrap (col + t17))) none 5 fun t31 =>
     apK Tryd.prog #[24, 24] 24 t25 t31 w5 fun t32 w6 =>
     loopP (σ := Slc × Int × Unit) (fun I1 s w7 =>
       cond (decide (s.2.1 < t17))
         (ldS T_api_Attr.rep a_1 w7 fun t39 =>
          c_phosphorref13_blank t39 w7 fun t40 w8 =>
          nw 42 [(.int .i32 t40.R), (.int .i64 t40.Kind), (.int .i64 t40.A.Fg), (.int .i64 t40.A.Bg), (.int .i64 t40.A.Flags)] w8 fun t41 w9 =>
          apK Tryd.prog #[24, 24] 24 s.1 (⟨(some t41), 1, 1⟩ : Slc) w9 fun t42 w10 =>
          I1 (t42, (IntKind.i64.wrap (s.2.1 + (1 : Int))), ()) w10)
         (c_phosphorref13_Mend s.1 w7 fun t44 w11 =>
          K t44 w11)) (t32, 0, ()) w6)

def an_phosphorref13_Delete : List Ann := [.none, .none, .none, .none, .none, .none, .none, .none, .none, .none, .join [(10, Kind.slice), (11, (Kind.int .i64))] [10, 11, 33, 34, 35, 36, 37, 38, 39, 40, 41, 42], .none, .none, .none, .none]

theorem vc_phosphorref13_Delete (l : Slc) (col : Int) (n : Int) (a : T_api_Attr) (w : World) (K : Slc → World → Prop) :
    vcFn C (Tryd.f68.body.getD .skip) Tryd.f68.results.toList Tryd.f68.ntmps an_phosphorref13_Delete [Kind.slice] [(.slice l.a l.n l.c), (.int .i64 col), (.int .i64 n), (.agg #[(.int .i64 a.Fg), (.int .i64 a.Bg), (.int .i64 a.Flags)])] w (fun s w => K s.1 w) = sh_phosphorref13_Delete l col n a w K := by kernel_rfl

theorem call_phosphorref13_Delete (l : Slc) (col : Int) (n : Int) (a : T_api_Attr) {w : World} {K : Slc → World → Prop} (h : sh_phosphorref13_Delete l col n a w K) : c_phosphorref13_Delete l col n a w K := by
  rw [← vc_phosphorref13_Delete] at h
  refine Calls.mono (calls_of_vc C.plain_ok C.mixed Tryd.func68 rfl h) ?_
  rintro e w' ⟨s, rfl, hK⟩
  exact ⟨s.1, rfl, hK⟩

/-- (phosphor/line.Line).Erase -/
def sh_line_Line_Erase (l : Slc) (from_ : Int) (to : Int) (a : T_api_Attr) (w : World) (K : Slc → World → Prop) : Prop :=
  nw 23 (T_api_Attr.rep.cells a) w fun a_1 w1 =>
  c_line_Line_Mend l w1 fun t12 w2 =>
  cond (decide ((if (0 : Int) > from_ then (0 : Int) else from_) ≥ (if ((l.n : Nat) : Int) < to then ((l.n : Nat) : Int) else to)))
    (K t12 w2)
    (loopP (σ := Int × Unit) (fun I1 s w3 =>
       cond (decide (s.1 < (if ((l.n : Nat) : Int) < to then ((l.n : Nat) : Int) else to)))
         (ldS T_api_Attr.rep a_1 w3 fun t31 =>
          ixK t12 s.1 5 fun t33 =>
          stK t33 [(.int .i32 0), (.int .i64 0), (.int .i64 t31.Fg), (.int .i64 t31.Bg), (.int .i64 t31.Flags)] w3 fun w4 =>
          I1 ((IntKind.i64.wrap (s.1 + (1 : Int))), ()) w4)
         (c_line_Line_halves t12 (if (0 : Int) > from_ then (0 : Int) else from_) (if ((l.n : Nat) : Int) < to then ((l.n : Nat) : Int) else to) w3 fun t37 w5 =>
          K t37 w5)) ((if (0 : Int) > from_ then (0 : Int) else from_), ()) w2)

def an_line_Line_Erase : List Ann := [.none, .none, .none, .none, .none, .none, .none, .none, .join [(10, (Kind.int .i64))] [10, 24, 25, 26, 27, 28, 29, 30, 31, 32, 33], .none, .none, .none, .none]

theorem vc_line_Line_Erase (l : Slc) (from_ : Int) (to : Int) (a : T_api_Attr) (w : World) (K : Slc → World → Prop) :
    vcFn C (Tryd.f69.body.getD .skip) Tryd.f69.results.toList Tryd.f69.ntmps an_line_Line_Erase [Kind.slice] [(.slice l.a l.n l.c), (.int .i64 from_), (.int .i64 to), (.agg #[(.int .i64 a.Fg), (.int .i64 a.Bg), (.int .i64 a.Flags)])] w (fun s w => K s.1 w) = sh_line_Line_Erase l from_ to a w K := by kernel_rfl

theorem call_line_Line_Erase (l : Slc) (from_ : Int) (to : Int) (a : T_api_Attr) {w : World} {K : Slc → World → Prop} (h : sh_line_Line_Erase l from_ to a w K) : c_line_Line_Erase l from_ to a w K := by
  rw [← vc_line_Line_Erase] at h
  refine Calls.mono (calls_of_vc C.plain_ok C.mixed Tryd.func69 rfl h) ?_
  rintro e w' ⟨s, rfl, hK⟩
  exact ⟨s.1, rfl, hK⟩

/-- phosphor/phosphorref13.Erase -/
def sh_phosphorref13_Erase (l : Slc) (from_ : Int) (to : Int) (a : T_api_Attr) (w : World) (K : Slc → World → Prop) : Prop :=
  nw 23 (T_api_Attr.rep.cells a) w fun a_1 w1 =>
  joinP (σ := Int × Unit) (fun s w2 =>
    joinP (σ := Int × Unit) (fun s_1 w3 =>
      cond (decide (s.1 ≥ s_1.1))
        (c_phosphorref13_Mend l w3 fun t23 w4 =>
         K t23 w4)
        (c_phosphorref13_over l s.1 s_1.1 w3 fun t27 w5 =>
         loopP (σ := Int × Unit) (fun I3 s_2 w6 =>
           cond (decide (s_2.1 < s_1.1))
             (ldS T_api_Attr.rep a_1 w6 fun t36 =>
              c_phosphorref13_blank t36 w6 fun t37 w7 =>
              ixK t27 s_2.1 5 fun t38 =>
              stK t38 (T_api_Cell.rep.cells t37) w7 fun w8 =>
              I3 ((IntKind.i64.wrap (s_2.1 + (1 : Int))), ()) w8)
             (K t27 w6)) (s.1, ()) w5)) fun J2 =>
    cond (decide (to > ((l.n : Nat) : Int)))
      (J2 (((l.n : Nat) : Int), ()) w2)
      (J2 (to, ()) w2)) fun J1 =>
  cond (decide (from_ < (0 : Int)))
    (J1 (0, ()) w1)
    (J1 (from_, ()) w1)

def an_phosphorref13_Erase : List Ann := [.none, .join [(1, (Kind.int .i64))] [1, 11, 12], .none, .join [(2, (Kind.int .i64))] [2, 13, 14, 15, 16, 17, 18], .none, .none, .none, .none, .none, .none, .none, .join [(10, (Kind.int .i64))] [10, 29, 30, 31, 32, 33, 34, 35, 36, 37, 38], .none, .none, .none, .none]

theorem vc_phosphorref13_Erase (l : Slc) (from_ : Int) (to : Int) (a : T_api_Attr) (w : World) (K : Slc → World → Prop) :
    vcFn C (Tryd.f70.body.getD .skip) Tryd.f70.results.toList Tryd.f70.ntmps an_phosphorref13_Erase [Kind.slice] [(.slice l.a l.n l.c), (.int .i64 from_), (.int .i64 to), (.agg #[(.int .i64 a.Fg), (.int .i64 a.Bg), (.int .i64 a.Flags)])] w (fun s w => K s.1 w) = sh_phosphorref13_Erase l from_ to a w K := by kernel_rfl

theorem call_phosphorref13_Erase (l : Slc) (from_ : Int) (to : Int) (a : T_api_Attr) {w : World} {K : Slc → World → Prop} (h : sh_phosphorref13_Erase l from_ to a w K) : c_phosphorref13_Erase l from_ to a w K := by
  rw [← vc_phosphorref13_Erase] at h
  refine Calls.mono (calls_of_vc C.plain_ok C.mixed Tryd.func70 rfl h) ?_
  rintro e w' ⟨s, rfl, hK⟩
  exact ⟨s.1, rfl, hK⟩

/-- (phosphor/line.Line).Resize -/
def sh_line_Line_Resize (l : Slc) (cols : Int) (w : World) (K : Slc → World → Prop) : Prop :=
  c_line_Line_Mend l w fun t10 w1 =>
  cond (decide ((if (1000 : Int) < (if (0 : Int) > cols then (0 : Int) else cols) then (1000 : Int) else (if (0 : Int) > cols then (0 : Int) else cols)) ≤ ((t10.n : Nat) : Int)))
    (slK t10 none (some (if (1000 : Int) < (if (0 : Int) > cols then (0 : Int) else cols) then (1000 : Int) else (if (0 : Int) > cols then (0 : Int) else cols))) 5 fun t17 =>
     c_line_Line_Mend t17 w1 fun t18 w2 =>
     K t18 w2)
    (c_line_blanks (IntKind.i64.wrap ((if (1000 : Int) < (if (0 : Int) > cols then (0 : Int) else cols) then (1000 : Int) else (if (0 : Int) > cols then (0 : Int) else cols)) - ((t10.n : Nat) : Int))) (⟨0, 0, 0⟩ : T_api_Attr) w1 fun t25 w3 =>
     nw 25 [(.slice t10.a t10.n t10.c), (.slice t25.a t25.n t25.c)] w3 fun t26 w4 =>
     c_slices_Concat_line_Line_api_Cell (⟨(some t26), 2, 2⟩ : Slc) w4 fun t27 w5 =>
     K t27 w5)

def an_line_Line_Resize : List Ann := [.none, .none, .none, .none, .none, .none, .none]

theorem vc_line_Line_Resize (l : Slc) (cols : Int) (w : World) (K : Slc → World → Prop) :
    vcFn C (Tryd.f71.body.getD .skip) Tryd.f71.results.toList Tryd.f71.ntmps an_line_Line_Resize [Kind.slice] [(.slice l.a l.n l.c), (.int .i64 cols)] w (fun s w => K s.1 w) = sh_line_Line_Resize l cols w K := by kernel_rfl

theorem call_line_Line_Resize (l : Slc) (cols : Int) {w : World} {K : Slc → World → Prop} (h : sh_line_Line_Resize l cols w K) : c_line_Line_Resize l cols w K := by
  rw [← vc_line_Line_Resize] at h
  refine Calls.mono (calls_of_vc C.plain_ok C.mixed Tryd.func71 rfl h) ?_
  rintro e w' ⟨s, rfl, hK⟩
  exact ⟨s.1, rfl, hK⟩

/-- phosphor/phosphorref13.Resize -/
def sh_phosphorref13_Resize (l : Slc) (cols : Int) (w : World) (K : Slc → World → Prop) : Prop :=
  joinP (σ := Int × Unit) (fun s w1 =>
    joinP (σ := Int × Unit) (fun s_1 w2 =>
      c_phosphorref13_Mend l w2 fun t11 w3 =>
      cond (decide (s_1.1 < ((t11.n : Nat) : Int)))
        (slK t11 none (some s_1.1) 5 fun t18 =>
         c_phosphorref13_Mend t18 w3 fun t19 w4 =>
         K t19 w4)
        (loopP (σ := Slc × Unit) (fun I3 s_2 w5 =>
           cond (decide (((s_2.1.n : Nat) : Int) < s_1.1))
             (c_phosphorref13_blank (⟨0, 0, 0⟩ : T_api_Attr) w5 fun t26 w6 =>
              nw 42 [(.int .i32 t26.R), (.int .i64 t26.Kind), (.int .i64 t26.A.Fg), (.int .i64 t26.A.Bg), (.int .i64 t26.A.Flags)] w6 fun t27 w7 =>
              apK Tryd.prog #[24, 24] 24 s_2.1 (⟨(some t27), 1, 1⟩ : Slc) w7 fun t28 w8 =>
              I3 (t28, ()) w8)
             (c_phosphorref13_Mend s_2.1 w5 fun t30 w9 =>
              K t30 w9)) (t11, ()) w3)) fun J2 =>
    cond (decide (s.1 > (1000 : Int)))
      (J2 (1000, ()) w1)
      (J2 (s.1, ()) w1)) fun J1 =>
  cond (decide (cols < (0 : Int)))
    (J1 (0, ()) w)
    (J1 (cols, ()) w)

def an_phosphorref13_Resize : List Ann := [.none, .join [(1, (Kind.int .i64))] [1, 6, 7], .none, .join [(1, (Kind.int .i64))] [1, 8, 9], .none, .none, .none, .none, .none, .none, .join [(5, Kind.slice)] [5, 20, 21, 22, 23, 24, 25, 26, 27, 28], .none, .none, .none]

theorem vc_phosphorref13_Resize (l : Slc) (cols : Int) (w : World) (K : Slc → World → Prop) :
    vcFn C (Tryd.f72.body.getD .skip) Tryd.f72.results.toList Tryd.f72.ntmps an_phosphorref13_Resize [Kind.slice] [(.slice l.a l.n l.c), (.int .i64 cols)] w (fun s w => K s.1 w) = sh_phosphorref13_Resize l cols w K := by kernel_rfl

theorem call_phosphorref13_Resize (l : Slc) (cols : Int) {w : World} {K : Slc → World → Prop} (h : sh_phosphorref13_Resize l cols w K) : c_phosphorref13_Resize l cols w K := by
  rw [← vc_phosphorref13_Resize] at h
  refine Calls.mono (calls_of_vc C.plain_ok C.mixed Tryd.func72 rfl h) ?_
  rintro e w' ⟨s, rfl, hK⟩
  exact ⟨s.1, rfl, hK⟩

/-- phosphor/phosphorref10.Encode -/
def sh_phosphorref10_Encode (r : Int) (w : World) (K : Slc → World → Prop) : Prop :=
  joinP (σ := Int × Unit) (fun s w1 =>
    cond (decide (s.1 < (128 : Int)))
      (nw 5 [(.int .u8 (IntKind.u8.wrap s.1))] w1 fun t10 w2 =>
       K (⟨(some t10), 1, 1⟩ : Slc) w2)
      (cond (decide (s.1 < (2048 : Int)))
         ((64 : Int) ≠ 0 ∧
          (64 : Int) ≠ 0 ∧
          nw 5 [(.int .u8 (IntKind.u8.wrap (IntKind.i64.wrap ((192 : Int) + (IntKind.i64.wrap (s.1.tdiv (64 : Int))))))), (.int .u8 (IntKind.u8.wrap (IntKind.i64.wrap ((128 : Int) + (s.1.tmod (64 : Int))))))] w1 fun t22 w3 =>
          K (⟨(some t22), 2, 2⟩ : Slc) w3)
         (cond (decide (s.1 < (65536 : Int)))
            ((4096 : Int) ≠ 0 ∧
             (64 : Int) ≠ 0 ∧
             (64 : Int) ≠ 0 ∧
             (64 : Int) ≠ 0 ∧
             nw 5 [(.int .u8 (IntKind.u8.wrap (IntKind.i64.wrap ((224 : Int) + (IntKind.i64.wrap (s.1.tdiv (4096 : Int))))))), (.int .u8 (IntKind.u8.wrap (IntKind.i64.wrap ((128 : Int) + ((IntKind.i64.wrap (s.1.tdiv (64 : Int))).tmod (64 : Int)))))), (.int .u8 (IntKind.u8.wrap (IntKind.i64.wrap ((128 : Int) + (s.1.tmod (64 : Int))))))] w1 fun t39 w4 =>
             K (⟨(some t39), 3, 3⟩ : Slc) w4)
            ((262144 : Int) ≠ 0 ∧
             (4096 : Int) ≠ 0 ∧
             (64 : Int) ≠ 0 ∧
             (64 : Int) ≠ 0 ∧
             (64 : Int) ≠ 0 ∧
             (64 : Int) ≠ 0 ∧
             nw 5 [(.int .u8 (IntKind.u8.wrap (IntKind.i64.wrap ((240 : Int) + (IntKind.i64.wrap (s.1.tdiv (262144 : Int))))))), (.int .u8 (IntKind.u8.wrap (IntKind.i64.wrap ((128 : Int) + ((IntKind.i64.wrap (s.1.tdiv (4096 : Int))).tmod (64 : Int)))))), (.int .u8 (IntKind.u8.wrap (IntKind.i64.wrap ((128 : Int) + ((IntKind.i64.wrap (s.1.tdiv (64 : Int))).tmod (64 : Int)))))), (.int .u8 (IntKind.u8.wrap (IntKind.i64.wrap ((128 : Int) + (s.1.tmod (64 : Int))))))] w1 fun t58 w5 =>
             K (⟨(some t58), 4, 4⟩ : Slc) w5)))) fun J1 =>
  c_phosphorref10_none r w fun t4 w6 =>
  cond t4
    (J1 (65533, ()) w6)
    (J1 (r, ()) w6)

def an_phosphorref10_Encode : List Ann := [.none, .join [(0, (Kind.int .i64))] [0, 3, 4], .none, .none, .none, .none, .none, .none, .none, .none, .none]

theorem vc_phosphorref10_Encode (r : Int) (w : World) (K : Slc → World → Prop) :
    vcFn C (Tryd.f73.body.getD .skip) Tryd.f73.results.toList Tryd.f73.ntmps an_phosphorref10_Encode [Kind.slice] [(.int .i64 r)] w (fun s w => K s.1 w) = sh_phosphorref10_Encode r w K := by kernel_rfl

theorem call_phosphorref10_Encode (r : Int) {w : World} {K : Slc → World → Prop} (h : sh_phosphorref10_Encode r w K) : c_phosphorref10_Encode r w K := by
  rw [← vc_phosphorref10_Encode] at h
  refine Calls.mono (calls_of_vc C.plain_ok C.mixed Tryd.func73 rfl h) ?_
  rintro e w' ⟨s, rfl, hK⟩
  exact ⟨s.1, rfl, hK⟩

/-- slices.Equal[phosphor/line.Line,phosphor/api.Cell] -/
def sh_slices_Equal_line_Line_api_Cell (s1 : Slc) (s2 : Slc) (w : World) (K : Bool → World → Prop) : Prop :=
  cond (((s1.n : Nat) : Int) != ((s2.n : Nat) : Int))
    (K false w)
    (loopP (σ := Int × Unit) (fun I1 s w1 =>
       cond (decide (s.1 < ((s1.n : Nat) : Int)))
         (ixK s1 s.1 5 fun t18 =>
          ldS T_api_Cell.rep t18 w1.drew fun t19 =>
          ixK s2 s.1 5 fun t22 =>
          ldS T_api_Cell.rep t22 w1.drew fun t23 =>
          cond (!((t19.R == t23.R) && ((t19.Kind == t23.Kind) && (((t19.A.Fg == t23.A.Fg) && ((t19.A.Bg == t23.A.Bg) && ((t19.A.Flags == t23.A.Flags) && true))) && true))))
            (K false w1.drew)
            (I1 ((IntKind.i64.wrap (s.1 + (1 : Int))), ()) w1.drew))
         (K true w1)) (0, ()) w)

def an_slices_Equal_line_Line_api_Cell : List Ann := [.none, .none, .none, .none, .none, .none, .join [(13, (Kind.int .i64))] [4, 5, 13, 14, 15, 16, 17, 18, 19, 20, 21, 22, 23, 24, 25], .none, .none, .none, .none, .none, .none, .none]

theorem vc_slices_Equal_line_Line_api_Cell (s1 : Slc) (s2 : Slc) (w : World) (K : Bool → World → Prop) :
    vcFn C (Tryd.f74.body.getD .skip) Tryd.f74.results.toList Tryd.f74.ntmps an_slices_Equal_line_Line_api_Cell [Kind.bool] [(.slice s1.a s1.n s1.c), (.slice s2.a s2.n s2.c)] w (fun s w => K s.1 w) = sh_slices_Equal_line_Line_api_Cell s1 s2 w K := by kernel_rfl

theorem call_slices_Equal_line_Line_api_Cell (s1 : Slc) (s2 : Slc) {w : World} {K : Bool → World → Prop} (h : sh_slices_Equal_line_Line_api_Cell s1 s2 w K) : c_slices_Equal_line_Line_api_Cell s1 s2 w K := by
  rw [← vc_slices_Equal_line_Line_api_Cell] at h
  refine Calls.mono (calls_of_vc C.plain_ok C.mixed Tryd.func74 rfl h) ?_
  rintro e w' ⟨s, rfl, hK⟩
  exact ⟨s.1, rfl, hK⟩

/-- phosphor/grid.size -/
def sh_grid_size (n : Int) (w : World) (K : Bool → World → Prop) : Prop :=
  cond (decide (n ≥ (1 : Int)))
    (K (decide (n ≤ (1000 : Int))) w)
    (K false w)

def an_grid_size : List Ann := [.none, .none]

theorem vc_grid_size (n : Int) (w : World) (K : Bool → World → Prop) :
    vcFn C (Tryd.f75.body.getD .skip) Tryd.f75.results.toList Tryd.f75.ntmps an_grid_size [Kind.bool] [(.int .i64 n)] w (fun s w => K s.1 w) = sh_grid_size n w K := by kernel_rfl

theorem call_grid_size (n : Int) {w : World} {K : Bool → World → Prop} (h : sh_grid_size n w K) : c_grid_size n w K := by
  rw [← vc_grid_size] at h
  refine Calls.mono (calls_of_vc C.plain_ok C.mixed Tryd.func75 rfl h) ?_
  rintro e w' ⟨s, rfl, hK⟩
  exact ⟨s.1, rfl, hK⟩

/-- phosphor/ring.New[phosphor/line.Line] -/
def sh_ring_New_line_Line (most : Int) (w : World) (K : Option Addr → Int → World → Prop) : Prop :=
  joinP (σ := Unit) (fun s w1 =>
    nw 140 [(.int .i64 most), (.slice none 0 0), (.int .i64 0), (.int .i64 0)] w1 fun t12 w2 =>
    K (some t12) 0 w2) fun J1 =>
  cond (decide (most < (0 : Int)))
    (K none 1 w)
    (cond (decide (most > (65536 : Int)))
       (K none 1 w)
       (J1 (()) w))

def an_ring_New_line_Line : List Ann := [.none, .join [] [2, 3, 4, 5, 6, 7, 8, 9], .none, .none, .none]

theorem vc_ring_New_line_Line (most : Int) (w : World) (K : Option Addr → Int → World → Prop) :
    vcFn C (Tryd.f76.body.getD .skip) Tryd.f76.results.toList Tryd.f76.ntmps an_ring_New_line_Line [Kind.ptr, (Kind.int .i64)] [(.int .i64 most)] w (fun s w => K s.1 s.2.1 w) = sh_ring_New_line_Line most w K := by kernel_rfl

theorem call_ring_New_line_Line (most : Int) {w : World} {K : Option Addr → Int → World → Prop} (h : sh_ring_New_line_Line most w K) : c_ring_New_line_Line most w K := by
  rw [← vc_ring_New_line_Line] at h
  refine Calls.mono (calls_of_vc C.plain_ok C.mixed Tryd.func76 rfl h) ?_
  rintro e w' ⟨s, rfl, hK⟩
  exact ⟨s.1, s.2.1, rfl, hK⟩

/-- (*phosphor/grid.Grid).is -/
def sh_grid_Grid_is (g : Option Addr) (row : Int) (w : World) (K : Bool → World → Prop) : Prop :=
  cond (decide (row ≥ (0 : Int)))
    (onPtr g fun t10 =>
     ldI .i64 (t10.add 1) w fun t12 =>
     K (decide (row < t12)) w)
    (K false w)

def an_grid_Grid_is : List Ann := [.none, .none]

theorem vc_grid_Grid_is (g : Option Addr) (row : Int) (w : World) (K : Bool → World → Prop) :
    vcFn C (Tryd.f77.body.getD .skip) Tryd.f77.results.toList Tryd.f77.ntmps an_grid_Grid_is [Kind.bool] [(.pointer g), (.int .i64 row)] w (fun s w => K s.1 w) = sh_grid_Grid_is g row w K := by kernel_rfl

theorem call_grid_Grid_is (g : Option Addr) (row : Int) {w : World} {K : Bool → World → Prop} (h : sh_grid_Grid_is g row w K) : c_grid_Grid_is g row w K := by
  rw [← vc_grid_Grid_is] at h
  refine Calls.mono (calls_of_vc C.plain_ok C.mixed Tryd.func77 rfl h) ?_
  rintro e w' ⟨s, rfl, hK⟩
  exact ⟨s.1, rfl, hK⟩

/-- slices.Concat[[]phosphor/line.Line,phosphor/line.Line] -/
def sh_slices_Concat_line_Line_line_Line (slices : Slc) (w : World) (K : Slc → World → Prop) : Prop :=
  loopP (σ := Int × Int × Unit) (fun I1 s w1 =>
    cond (decide (s.2.1 < ((slices.n : Nat) : Int)))
      (ixK slices s.2.1 1 fun t13 =>
       ldSl t13 w1 fun t14 =>
       cond (decide ((IntKind.i64.wrap (s.1 + ((t14.n : Nat) : Int))) < (0 : Int)))
         (False)
         (I1 ((IntKind.i64.wrap (s.1 + ((t14.n : Nat) : Int))), (IntKind.i64.wrap (s.2.1 + (1 : Int))), ()) w1))
      (c_slices_Grow_line_Line_line_Line (⟨none, 0, 0⟩ : Slc) s.1 w1 fun t24 w2 =>
       loopP (σ := Slc × Int × Unit) (fun I2 s_1 w3 =>
         cond (decide (s_1.2.1 < ((slices.n : Nat) : Int)))
           (ixK slices s_1.2.1 1 fun t29 =>
            ldSl t29 w3 fun t30 =>
            apK Tryd.prog #[116, 116] 116 s_1.1 t30 w3 fun t33 w4 =>
            I2 (t33, (IntKind.i64.wrap (s_1.2.1 + (1 : Int))), ()) w4)
           (K s_1.1 w3)) (t24, 0, ()) w2)) (0, 0, ()) w

def an_slices_Concat_line_Line_line_Line : List Ann := [.none, .none, .none, .none, .join [(3, (Kind.int .i64)), (11, (Kind.int .i64))] [3, 5, 11, 12, 13, 14, 15, 16, 17, 18, 19, 20, 21, 22], .none, .none, .none, .none, .none, .none, .none, .none, .none, .join [(6, Kind.slice), (27, (Kind.int .i64))] [6, 8, 27, 28, 29, 30, 31, 32, 33, 34], .none, .none, .none, .none, .none]

theorem vc_slices_Concat_line_Line_line_Line (slices : Slc) (w : World) (K : Slc → World → Prop) :
    vcFn C (Tryd.f78.body.getD .skip) Tryd.f78.results.toList Tryd.f78.ntmps an_slices_Concat_line_Line_line_Line [Kind.slice] [(.slice slices.a slices.n slices.c)] w (fun s w => K s.1 w) = sh_slices_Concat_line_Line_line_Line slices w K := by kernel_rfl

theorem call_slices_Concat_line_Line_line_Line (slices : Slc) {w : World} {K : Slc → World → Prop} (h : sh_slices_Concat_line_Line_line_Line slices w K) : c_slices_Concat_line_Line_line_Line slices w K := by
  rw [← vc_slices_Concat_line_Line_line_Line] at h
  refine Calls.mono (calls_of_vc C.plain_ok C.mixed Tryd.func78 rfl h) ?_
  rintro e w' ⟨s, rfl, hK⟩
  exact ⟨s.1, rfl, hK⟩

/-- (*phosphor/grid.Grid).blanks -/
def sh_grid_Grid_blanks (g : Option Addr) (n : Int) (a : T_api_Attr) (w : World) (K : Slc → World → Prop) : Prop :=
  nw 23 (T_api_Attr.rep.cells a) w fun a_1 w1 =>
  loopP (σ := Slc × Int × Unit) (fun I1 s w2 =>
    cond (decide (s.2.1 < n))
      (onPtr g fun t13 =>
       ldI .i64 (t13.add 2) w2.drew fun t15 =>
       ldS T_api_Attr.rep a_1 w2.drew fun t16 =>
       c_line_New t15 t16 w2.drew fun t17 w3 =>
       nw 25 [(.slice t17.a t17.n t17.c)] w3 fun t18 w4 =>
       apK Tryd.prog #[116, 116] 116 s.1 (⟨(some t18), 1, 1⟩ : Slc) w4 fun t19 w5 =>
       I1 (t19, (IntKind.i64.wrap (s.2.1 + (1 : Int))), ()) w5)
      (K s.1 w2)) (⟨none, 0, 0⟩, 0, ()) w1

def an_grid_Grid_blanks : List Ann := [.none, .none, .none, .none, .join [(7, Kind.slice), (9, (Kind.int .i64))] [7, 9, 10, 11, 12, 13, 14, 15, 16, 17, 18, 19, 20], .none, .none, .none, .none]

theorem vc_grid_Grid_blanks (g : Option Addr) (n : Int) (a : T_api_Attr) (w : World) (K : Slc → World → Prop) :
    vcFn C (Tryd.f79.body.getD .skip) Tryd.f79.results.toList Tryd.f79.ntmps an_grid_Grid_blanks [Kind.slice] [(.pointer g), (.int .i64 n), (.agg #[(.int .i64 a.Fg), (.int .i64 a.Bg), (.int .i64 a.Flags)])] w (fun s w => K s.1 w) = sh_grid_Grid_blanks g n a w K := by kernel_rfl

theorem call_grid_Grid_blanks (g : Option Addr) (n : Int) (a : T_api_Attr) {w : World} {K : Slc → World → Prop} (h : sh_grid_Grid_blanks g n a w K) : c_grid_Grid_blanks g n a w K := by
  rw [← vc_grid_Grid_blanks] at h
  refine Calls.mono (calls_of_vc C.plain_ok C.mixed Tryd.func79 rfl h) ?_
  rintro e w' ⟨s, rfl, hK⟩
  exact ⟨s.1, rfl, hK⟩

/-- (*phosphor/ring.Ring[phosphor/line.Line]).Push -/
def sh_ring_Ring_line_Line_Push (r : Option Addr) (t : Slc) (w : World) (K : Slc → Bool → World → Prop) : Prop :=
  onPtr r fun t10 =>
  ldI .i64 (t10.add 0) w fun t12 =>
  cond (t12 == (0 : Int))
    (onPtr r fun t15 =>
     ldI .i64 (t15.add 3) w fun t17 =>
     onPtr r fun t19 =>
     stK (t19.add 3) [(.int .i64 (IntKind.i64.wrap (t17 + (1 : Int))))] w fun w1 =>
     K t true w1)
    (onPtr r fun t24 =>
     ldSl (t24.add 1) w.drew fun t26 =>
     onPtr r fun t29 =>
     ldI .i64 (t29.add 0) w.drew fun t31 =>
     cond (decide (((t26.n : Nat) : Int) < t31))
       (c_ring_Ring_line_Line_even r w.drew fun w2 =>
        onPtr r fun t37 =>
        ldSl (t37.add 1) w2 fun t39 =>
        nw 25 [(.slice t.a t.n t.c)] w2 fun t41 w3 =>
        apK Tryd.prog #[116, 116] 116 t39 (⟨(some t41), 1, 1⟩ : Slc) w3 fun t42 w4 =>
        onPtr r fun t43 =>
        stK (t43.add 1) [(.slice t42.a t42.n t42.c)] w4 fun w5 =>
        K (⟨none, 0, 0⟩ : Slc) false w5)
       (onPtr r fun t47 =>
        ldSl (t47.add 1) w.drew.drew fun t49 =>
        onPtr r fun t51 =>
        ldI .i64 (t51.add 2) w.drew.drew fun t53 =>
        ixK t49 t53 1 fun t54 =>
        ldSl t54 w.drew.drew fun t55 =>
        onPtr r fun t57 =>
        ldSl (t57.add 1) w.drew.drew.drew fun t59 =>
        onPtr r fun t61 =>
        ldI .i64 (t61.add 2) w.drew.drew.drew fun t63 =>
        ixK t59 t63 1 fun t65 =>
        stK t65 [(.slice t.a t.n t.c)] w.drew.drew.drew fun w6 =>
        onPtr r fun t68 =>
        ldI .i64 (t68.add 2) w6.drew fun t70 =>
        onPtr r fun t73 =>
        ldSl (t73.add 1) w6.drew fun t75 =>
        ((t75.n : Nat) : Int) ≠ 0 ∧
        onPtr r fun t78 =>
        stK (t78.add 2) [(.int .i64 ((IntKind.i64.wrap (t70 + (1 : Int))).tmod ((t75.n : Nat) : Int)))] w6.drew fun w7 =>
        onPtr r fun t81 =>
        ldI .i64 (t81.add 3) w7 fun t83 =>
        onPtr r fun t85 =>
        stK (t85.add 3) [(.int .i64 (IntKind.i64.wrap (t83 + (1 : Int))))] w7 fun w8 =>
        K t55 true w8))

def an_ring_Ring_line_Line_Push : List Ann := [.none, .none, .none, .none, .none, .none, .none, .none, .none, .none, .none, .none, .none, .none, .none]

theorem vc_ring_Ring_line_Line_Push (r : Option Addr) (t : Slc) (w : World) (K : Slc → Bool → World → Prop) :
    vcFn C (Tryd.f80.body.getD .skip) Tryd.f80.results.toList Tryd.f80.ntmps an_ring_Ring_line_Line_Push [Kind.slice, Kind.bool] [(.pointer r), (.slice t.a t.n t.c)] w (fun s w => K s.1 s.2.1 w) = sh_ring_Ring_line_Line_Push r t w K := by kernel_rfl

theorem call_ring_Ring_line_Line_Push (r : Option Addr) (t : Slc) {w : World} {K : Slc → Bool → World → Prop} (h : sh_ring_Ring_line_Line_Push r t w K) : c_ring_Ring_line_Line_Push r t w K := by
  rw [← vc_ring_Ring_line_Line_Push] at h
  refine Calls.mono (calls_of_vc C.plain_ok C.mixed Tryd.func80 rfl h) ?_
  rintro e w' ⟨s, rfl, hK⟩
  exact ⟨s.1, s.2.1, rfl, hK⟩

/-- (*phosphor/ring.Ring[phosphor/line.Line]).At -/
def sh_ring_Ring_line_Line_At (r : Option Addr) (i : Int) (w : World) (K : Slc → Bool → World → Prop) : Prop :=
  joinP (σ := Unit) (fun s w1 =>
    onPtr r fun t20 =>
    ldSl (t20.add 1) w1.drew fun t22 =>
    onPtr r fun t24 =>
    ldI .i64 (t24.add 2) w1.drew fun t26 =>
    onPtr r fun t30 =>
    ldSl (t30.add 1) w1.drew fun t32 =>
    ((t32.n : Nat) : Int) ≠ 0 ∧
    ixK t22 ((IntKind.i64.wrap (t26 + i)).tmod ((t32.n : Nat) : Int)) 1 fun t35 =>
    ldSl t35 w1.drew fun t36 =>
    K t36 true w1.drew) fun J1 =>
  joinP (σ := Bool × Unit) (fun s_1 w2 =>
    cond s_1.1
      (K (⟨none, 0, 0⟩ : Slc) false w2)
      (J1 (()) w2)) fun J2 =>
  cond (decide (i < (0 : Int)))
    (J2 (true, ()) w)
    (onPtr r fun t12 =>
     ldSl (t12.add 1) w fun t14 =>
     J2 ((decide (i ≥ ((t14.n : Nat) : Int))), ()) w)

def an_ring_Ring_line_Line_At : List Ann := [.none, .none, .join [] [4, 5, 7, 8, 9, 10, 11, 12, 13, 14, 15, 16, 17, 18], .join [(17, Kind.bool)] [7, 8, 9, 10, 11, 12, 13, 14, 15, 16, 17], .none, .none]

theorem vc_ring_Ring_line_Line_At (r : Option Addr) (i : Int) (w : World) (K : Slc → Bool → World → Prop) :
    vcFn C (Tryd.f81.body.getD .skip) Tryd.f81.results.toList Tryd.f81.ntmps an_ring_Ring_line_Line_At [Kind.slice, Kind.bool] [(.pointer r), (.int .i64 i)] w (fun s w => K s.1 s.2.1 w) = sh_ring_Ring_line_Line_At r i w K := by kernel_rfl

theorem call_ring_Ring_line_Line_At (r : Option Addr) (i : Int) {w : World} {K : Slc → Bool → World → Prop} (h : sh_ring_Ring_line_Line_At r i w K) : c_ring_Ring_line_Line_At r i w K := by
  rw [← vc_ring_Ring_line_Line_At] at h
  refine Calls.mono (calls_of_vc C.plain_ok C.mixed Tryd.func81 rfl h) ?_
  rintro e w' ⟨s, rfl, hK⟩
  exact ⟨s.1, s.2.1, rfl, hK⟩

/-- (*phosphor/ring.Ring[phosphor/line.Line]).Len -/
def sh_ring_Ring_line_Line_Len (r : Option Addr) (w : World) (K : Int → World → Prop) : Prop :=
  onPtr r fun t4 =>
  ldSl (t4.add 1) w fun t6 =>
  K ((t6.n : Nat) : Int) w

def an_ring_Ring_line_Line_Len : List Ann := [.none, .none]

theorem vc_ring_Ring_line_Line_Len (r : Option Addr) (w : World) (K : Int → World → Prop) :
    vcFn C (Tryd.f82.body.getD .skip) Tryd.f82.results.toList Tryd.f82.ntmps an_ring_Ring_line_Line_Len [(Kind.int .i64)] [(.pointer r)] w (fun s w => K s.1 w) = sh_ring_Ring_line_Line_Len r w K := by kernel_rfl

theorem call_ring_Ring_line_Line_Len (r : Option Addr) {w : World} {K : Int → World → Prop} (h : sh_ring_Ring_line_Line_Len r w K) : c_ring_Ring_line_Line_Len r w K := by
  rw [← vc_ring_Ring_line_Line_Len] at h
  refine Calls.mono (calls_of_vc C.plain_ok C.mixed Tryd.func82 rfl h) ?_
  rintro e w' ⟨s, rfl, hK⟩
  exact ⟨s.1, rfl, hK⟩

end Go.Proofs.YtgejghejnibocaaDoor
