/- By program (gen.py): the typed text of the program's functions, part 0. -/
import Derived.Test.YtmagnpcgpinmcaaGreatDefs
set_option maxRecDepth 100000
set_option linter.unusedVariables false
namespace Go.Proofs.YtmagnpcgpinmcaaGreat
open Go.Vc
/-- phosphor/phosphorlaw20.LoadRooms -/
def sh_phosphorlaw20_LoadRooms (wx : Int) (hx : Int) (three : Bool) (n : Int) (w : World) (K : Bool → World → Prop) : Prop :=
  c_phosphorlaw20_known  w fun t18 w1 =>
  cond (!t18)
    (K false w1)
    (joinP (σ := Unit) (fun s w2 =>
       c_keys_First  w2 fun t42 w3 =>
       nw ty_keys_Keys [(.int .u8 0), (.int .u8 0), (.int .u8 0), (.int .u8 0), (.int .i64 0), (.int .i64 0), (.int .i64 0), (.int .i64 0), (.int .i64 0), (.int .i64 0), (.int .i64 0), (.int .i64 0), (.int .i64 0), (.int .i64 0), (.int .i64 0), (.int .i64 0), (.int .i64 0), (.int .i64 0), (.int .i64 0), (.int .i64 0), (.int .i64 0), (.int .i64 0)] w3 fun k w4 =>
       stK k (T_keys_Keys.rep.cells t42) w4 fun w5 =>
       stK (k.add 6) [(.int .i64 wx)] w5 fun w6 =>
       stK (k.add 7) [(.int .i64 hx)] w6 fun w7 =>
       joinP (σ := Int × Unit) (fun s_1 w8 =>
         ldS T_keys_Keys.rep k w8 fun t58 =>
         c_load_New t58 (IntKind.i64.wrap ((IntKind.i64.wrap ((4 : Int) * wx)) * hx)) w8 fun t63 t63_1 w9 =>
         ldS T_keys_Keys.rep k w9 fun t67 =>
         c_load_New t67 (IntKind.i64.wrap ((IntKind.i64.wrap ((IntKind.i64.wrap ((4 : Int) * wx)) * hx)) - (1 : Int))) w9 fun t73 t73_1 w10 =>
         joinP (σ := Unit) (fun s_2 w11 =>
           mkSl PG ty_sl_uint8 (.int .i64 n) (.int .i64 n) w11 fun t92 w12 =>
           c_base64_Encode t92 w12 fun t93 w13 =>
           c_load_Loader_Add t63 t93 w13 fun t94 w14 =>
           c_load_Loader_End t63 w14 fun t97 t97_1 w15 =>
           nw ty_api_Matrix [(.int .i64 0), (.int .i64 0), (.slice none 0 0)] w15 fun m w16 =>
           stK m (T_api_Matrix.rep.cells t97) w16 fun w17 =>
           cond (decide (n > s_1.1))
             (joinP (σ := Unit) (fun s_3 w18 =>
                cond (t94 == (5 : Int))
                  (cond (t97_1 == (5 : Int))
                     (ldSl (m.add 2) w18 fun t130 =>
                      K (((t130.n : Nat) : Int) == (0 : Int)) w18)
                     (K false w18))
                  (K false w18)) fun J4 =>
              joinP (σ := Bool × Unit) (fun s_4 w19 =>
                cond s_4.1
                  (ldSl (m.add 2) w19 fun t114 =>
                   cond (((t114.n : Nat) : Int) == (0 : Int))
                     (K (t97_1 == t94) w19)
                     (K false w19))
                  (J4 (()) w19)) fun J5 =>
              cond (decide (n > (IntKind.i64.wrap ((IntKind.i64.wrap ((4 : Int) * wx)) * hx))))
                (J5 ((t94 == (6 : Int)), ()) w17)
                (J5 (false, ()) w17))
             (cond (decide (n < s_1.1))
                (cond (t94 == (0 : Int))
                   (cond (t97_1 == (2 : Int))
                      (ldSl (m.add 2) w17 fun t145 =>
                       K (((t145.n : Nat) : Int) == (0 : Int)) w17)
                      (K false w17))
                   (K false w17))
                (cond (t94 == (0 : Int))
                   (cond (t97_1 == (0 : Int))
                      (ldI .i64 (m.add 0) w17 fun t157 =>
                       cond (t157 == wx)
                         (ldI .i64 (m.add 1) w17 fun t163 =>
                          K (t163 == hx) w17)
                         (K false w17))
                      (K false w17))
                   (K false w17)))) fun J3 =>
         cond (t63_1 != (0 : Int))
           (K false w10)
           (cond (t63.isNone)
              (K false w10)
              (cond (!t73.isNone)
                 (K false w10)
                 (cond (t73_1 != (6 : Int))
                    (K false w10)
                    (J3 (()) w10))))) fun J2 =>
       cond three
         (stK (k.add 5) [(.int .i64 24)] w7 fun w20 =>
          J2 ((IntKind.i64.wrap ((IntKind.i64.wrap ((3 : Int) * wx)) * hx)), ()) w20)
         (J2 ((IntKind.i64.wrap ((IntKind.i64.wrap ((4 : Int) * wx)) * hx)), ()) w7)) fun J1 =>
     cond (decide (wx < (1 : Int)))
       (K true w1)
       (cond (decide (hx < (1 : Int)))
          (K true w1)
          (cond (decide (wx > (20 : Int)))
             (K true w1)
             (cond (decide (hx > (20 : Int)))
                (K true w1)
                (cond (decide (n < (0 : Int)))
                   (K true w1)
                   (cond (decide (n > (1800 : Int)))
                      (K true w1)
                      (J1 (()) w1)))))))

def an_phosphorlaw20_LoadRooms : List Ann := [.none, .none, .none, .none, .join [] [8, 20, 21, 22, 23, 24, 25, 26, 27, 28, 29, 30, 31, 32, 33, 34, 35, 36, 37, 38, 39, 40, 41], .none, .none, .none, .none, .none, .none, .join [(10, (Kind.int .i64))] [10, 51, 52, 53, 54, 55, 56], .none, .none, .none, .none, .join [] [8, 76, 77, 78, 79, 80, 81, 82, 83, 84, 85, 86, 87, 88, 89], .none, .none, .none, .none, .none, .none, .join [] [8, 103, 104, 105, 106, 107, 108, 109, 110, 111, 112, 113, 114, 115, 116, 117, 118, 119, 120, 121], .join [(112, Kind.bool)] [103, 104, 105, 106, 107, 108, 109, 110, 111, 112], .none, .none, .none, .none, .none, .none]

theorem vc_phosphorlaw20_LoadRooms (wx : Int) (hx : Int) (three : Bool) (n : Int) (w : World) (K : Bool → World → Prop) :
    vcFn C (Tryz.f11.body.getD .skip) Tryz.f11.results.toList Tryz.f11.ntmps an_phosphorlaw20_LoadRooms [Kind.bool] [(.int .i64 wx), (.int .i64 hx), (.bool three), (.int .i64 n)] w (fun s w => K s.1 w) = sh_phosphorlaw20_LoadRooms wx hx three n w K := by kernel_rfl

theorem call_phosphorlaw20_LoadRooms (wx : Int) (hx : Int) (three : Bool) (n : Int) {w : World} {K : Bool → World → Prop} (h : sh_phosphorlaw20_LoadRooms wx hx three n w K) : c_phosphorlaw20_LoadRooms wx hx three n w K := by
  rw [← vc_phosphorlaw20_LoadRooms] at h
  refine Calls.mono (calls_of_vc C.plain_ok C.mixed Tryz.func11 rfl h) ?_
  rintro e w' ⟨s, rfl, hK⟩
  exact ⟨s.1, rfl, hK⟩

/-- phosphor/png.Check -/
def sh_png_Check (hx : T_png_Head) (w : World) (K : Int → World → Prop) : Prop :=
  nw ty_png_Head (T_png_Head.rep.cells hx) w fun hx_1 w1 =>
  joinP (σ := Unit) (fun s w2 =>
    nw ty_int [(.int .i64 8), (.int .i64 16)] w2 fun t22 w3 =>
    joinP (σ := Slc × Unit) (fun s_1 w4 =>
      ldI .i64 (hx_1.add 3) w4 fun t32 =>
      c_png_Samples t32 w4 fun t33 w5 =>
      cond (t33 == (0 : Int))
        (K 8 w5)
        (ldI .i64 (hx_1.add 2) w5 fun t38 =>
         c_slices_Contains_int_int s_1.1 t38 w5 fun t39 w6 =>
         cond (!t39)
           (K 8 w6)
           (ldI .i64 (hx_1.add 4) w6 fun t44 =>
            cond (decide (t44 < (0 : Int)))
              (K 8 w6)
              (ldI .i64 (hx_1.add 4) w6 fun t49 =>
               cond (decide (t49 > (1 : Int)))
                 (K 8 w6)
                 (K 0 w6))))) fun J2 =>
    ldI .i64 (hx_1.add 3) w3 fun t24 =>
    cond (t24 == (0 : Int))
      (nw ty_int [(.int .i64 1), (.int .i64 2), (.int .i64 4), (.int .i64 8), (.int .i64 16)] w3 fun t27 w7 =>
       J2 (⟨(some t27), 5, 5⟩, ()) w7)
      (cond (t24 == (3 : Int))
         (nw ty_int [(.int .i64 1), (.int .i64 2), (.int .i64 4), (.int .i64 8)] w3 fun t30 w8 =>
          J2 (⟨(some t30), 4, 4⟩, ()) w8)
         (J2 (⟨(some t22), 2, 2⟩, ()) w3))) fun J1 =>
  ldI .i64 (hx_1.add 0) w1 fun t5 =>
  cond (decide (t5 < (1 : Int)))
    (K 1 w1)
    (ldI .i64 (hx_1.add 0) w1 fun t9 =>
     cond (decide (t9 > (16384 : Int)))
       (K 1 w1)
       (ldI .i64 (hx_1.add 1) w1 fun t14 =>
        cond (decide (t14 < (1 : Int)))
          (K 1 w1)
          (ldI .i64 (hx_1.add 1) w1 fun t19 =>
           cond (decide (t19 > (16384 : Int)))
             (K 1 w1)
             (J1 (()) w1))))

def an_png_Check : List Ann := [.none, .join [] [2, 4, 5, 6, 7, 8, 9, 10, 11, 12, 13, 14, 15, 16, 17, 18, 19, 20, 21], .none, .none, .none, .join [(3, Kind.slice)] [3, 23, 24, 25, 26, 27, 28, 29, 30], .none, .none, .none, .none, .none, .none, .none]

theorem vc_png_Check (hx : T_png_Head) (w : World) (K : Int → World → Prop) :
    vcFn C (Tryz.f19.body.getD .skip) Tryz.f19.results.toList Tryz.f19.ntmps an_png_Check [(Kind.int .i64)] [(.agg #[(.int .i64 hx.W), (.int .i64 hx.H), (.int .i64 hx.Depth), (.int .i64 hx.Color), (.int .i64 hx.Lace)])] w (fun s w => K s.1 w) = sh_png_Check hx w K := by kernel_rfl

theorem call_png_Check (hx : T_png_Head) {w : World} {K : Int → World → Prop} (h : sh_png_Check hx w K) : c_png_Check hx w K := by
  rw [← vc_png_Check] at h
  refine Calls.mono (calls_of_vc C.plain_ok C.mixed Tryz.func19 rfl h) ?_
  rintro e w' ⟨s, rfl, hK⟩
  exact ⟨s.1, rfl, hK⟩

/-- phosphor/png.Samples -/
def sh_png_Samples (color : Int) (w : World) (K : Int → World → Prop) : Prop :=
  joinP (σ := Bool × Unit) (fun s w1 =>
    cond s.1
      (K 1 w1)
      (cond (color == (2 : Int))
         (K 3 w1)
         (cond (color == (4 : Int))
            (K 2 w1)
            (cond (color == (6 : Int))
               (K 4 w1)
               (K 0 w1))))) fun J1 =>
  cond (color == (0 : Int))
    (J1 ((color == (0 : Int)), ()) w)
    (J1 ((color == (3 : Int)), ()) w)

def an_png_Samples : List Ann := [.none, .none, .none, .join [(4, Kind.bool)] [4, 5, 6], .none, .none, .none, .none, .none, .none, .none, .none, .none]

theorem vc_png_Samples (color : Int) (w : World) (K : Int → World → Prop) :
    vcFn C (Tryz.f21.body.getD .skip) Tryz.f21.results.toList Tryz.f21.ntmps an_png_Samples [(Kind.int .i64)] [(.int .i64 color)] w (fun s w => K s.1 w) = sh_png_Samples color w K := by kernel_rfl

theorem call_png_Samples (color : Int) {w : World} {K : Int → World → Prop} (h : sh_png_Samples color w K) : c_png_Samples color w K := by
  rw [← vc_png_Samples] at h
  refine Calls.mono (calls_of_vc C.plain_ok C.mixed Tryz.func21 rfl h) ?_
  rintro e w' ⟨s, rfl, hK⟩
  exact ⟨s.1, rfl, hK⟩

/-- phosphor/png.Decode -/
def sh_png_Decode (b : Slc) (pixels : Int) (w : World) (K : T_api_Matrix → Int → World → Prop) : Prop :=
  nw ty_api_Matrix [(.int .i64 0), (.int .i64 0), (.slice none 0 0)] w fun t4 w1 =>
  c_png_read b pixels w1 fun t14 t14_1 w2 =>
  cond (t14_1 != (0 : Int))
    (stK t4 [(.int .i64 0), (.int .i64 0), (.slice none 0 0)] w2 fun w3 =>
     ldS T_api_Matrix.rep t4 w3 fun r =>
     K r t14_1 w3)
    (onPtr t14 fun t22 =>
     ldS T_png_Head.rep (t22.add 0) w2 fun t24 =>
     c_png_Head_need t24 w2 fun t25 w4 =>
     onPtr t14 fun t28 =>
     ldSl (t28.add 9) w4 fun t30 =>
     c_zlib_Unpack t30 t25 w4 fun t32 t32_1 t32_2 w5 =>
     joinP (σ := Unit) (fun s w6 =>
       c_png_file_pixels t14 t32 w6 fun t58 t58_1 w7 =>
       stK t4 (T_api_Matrix.rep.cells t58) w7 fun w8 =>
       ldS T_api_Matrix.rep t4 w8 fun r_1 =>
       K r_1 t58_1 w8) fun J1 =>
     cond (t32_2 != (0 : Int))
       (stK t4 [(.int .i64 0), (.int .i64 0), (.slice none 0 0)] w5 fun w9 =>
        ldS T_api_Matrix.rep t4 w9 fun r_2 =>
        K r_2 t32_2 w9)
       (joinP (σ := Bool × Unit) (fun s_1 w10 =>
          cond s_1.1
            (stK t4 [(.int .i64 0), (.int .i64 0), (.slice none 0 0)] w10 fun w11 =>
             ldS T_api_Matrix.rep t4 w11 fun r_3 =>
             K r_3 3 w11)
            (J1 (()) w10)) fun J2 =>
        cond (decide (((t32.n : Nat) : Int) < t25))
          (J2 (true, ()) w5)
          (onPtr t14 fun t49 =>
           ldSl (t49.add 9) w5 fun t51 =>
           J2 ((decide (t32_1 < ((t51.n : Nat) : Int))), ()) w5)))

def an_png_Decode : List Ann := [.none, .none, .none, .none, .none, .none, .none, .join [] [5, 36, 37, 38, 39, 40, 41, 42, 43, 44, 45, 46, 47, 48, 49, 50, 51, 52, 53, 54, 55], .none, .none, .join [(41, Kind.bool)] [41, 42, 43, 44, 45, 46, 47, 48, 49, 50, 51, 52, 53, 54], .none, .none]

theorem vc_png_Decode (b : Slc) (pixels : Int) (w : World) (K : T_api_Matrix → Int → World → Prop) :
    vcFn C (Tryz.f25.body.getD .skip) Tryz.f25.results.toList Tryz.f25.ntmps an_png_Decode [(Kind.struct T_api_Matrix.rep), (Kind.int .i64)] [(.slice b.a b.n b.c), (.int .i64 pixels)] w (fun s w => K s.1 s.2.1 w) = sh_png_Decode b pixels w K := by kernel_rfl

theorem call_png_Decode (b : Slc) (pixels : Int) {w : World} {K : T_api_Matrix → Int → World → Prop} (h : sh_png_Decode b pixels w K) : c_png_Decode b pixels w K := by
  rw [← vc_png_Decode] at h
  refine Calls.mono (calls_of_vc C.plain_ok C.mixed Tryz.func25 rfl h) ?_
  rintro e w' ⟨s, rfl, hK⟩
  exact ⟨s.1, s.2.1, rfl, hK⟩

/-- phosphor/png.Chunks -/
def sh_png_Chunks (b : Slc) (w : World) (K : Slc → Int → World → Prop) : Prop :=
  nw ty_sl_png_Chunk [(.slice none 0 0)] w fun out w1 =>
  c_png_each b ((.func (.func fn_png_Chunks_1) #[] #[(.pointer (some out))]) : Value) w1 fun t8 w2 =>
  cond (t8 != (0 : Int))
    (K (⟨none, 0, 0⟩ : Slc) t8 w2)
    (ldSl out w2 fun t12 =>
     K t12 0 w2)

def an_png_Chunks : List Ann := [.none, .none, .none, .none, .none, .none, .none]

theorem vc_png_Chunks (b : Slc) (w : World) (K : Slc → Int → World → Prop) :
    vcFn C (Tryz.f29.body.getD .skip) Tryz.f29.results.toList Tryz.f29.ntmps an_png_Chunks [Kind.slice, (Kind.int .i64)] [(.slice b.a b.n b.c)] w (fun s w => K s.1 s.2.1 w) = sh_png_Chunks b w K := by kernel_rfl

theorem call_png_Chunks (b : Slc) {w : World} {K : Slc → Int → World → Prop} (h : sh_png_Chunks b w K) : c_png_Chunks b w K := by
  rw [← vc_png_Chunks] at h
  refine Calls.mono (calls_of_vc C.plain_ok C.mixed Tryz.func29 rfl h) ?_
  rintro e w' ⟨s, rfl, hK⟩
  exact ⟨s.1, s.2.1, rfl, hK⟩

/-- phosphor/phosphorlaw20.known -/
def sh_phosphorlaw20_known  (w : World) (K : Bool → World → Prop) : Prop :=
  c_keys_First  w fun t9 w1 =>
  nw ty_keys_Keys [(.int .u8 0), (.int .u8 0), (.int .u8 0), (.int .u8 0), (.int .i64 0), (.int .i64 0), (.int .i64 0), (.int .i64 0), (.int .i64 0), (.int .i64 0), (.int .i64 0), (.int .i64 0), (.int .i64 0), (.int .i64 0), (.int .i64 0), (.int .i64 0), (.int .i64 0), (.int .i64 0), (.int .i64 0), (.int .i64 0), (.int .i64 0), (.int .i64 0)] w1 fun k w2 =>
  stK k (T_keys_Keys.rep.cells t9) w2 fun w3 =>
  stK (k.add 5) [(.int .i64 24)] w3 fun w4 =>
  stK (k.add 6) [(.int .i64 1)] w4 fun w5 =>
  stK (k.add 7) [(.int .i64 1)] w5 fun w6 =>
  ldS T_keys_Keys.rep k w6 fun t14 =>
  c_load_New t14 4 w6 fun t15 t15_1 w7 =>
  joinP (σ := Unit) (fun s w8 =>
    nw ty_uint8 [(.int .u8 65), (.int .u8 81)] w8 fun t25 w9 =>
    runK1 PG (convert ty_sl_uint8 ty_sl_uint8 (.slice (some t25) 2 2)) Kind.slice w9 fun (t26 : Slc) w10 =>
    c_load_Loader_Add t15 t26 w10 fun t27 w11 =>
    nw ty_uint8 [(.int .u8 73), (.int .u8 68)] w11 fun t29 w12 =>
    runK1 PG (convert ty_sl_uint8 ty_sl_uint8 (.slice (some t29) 2 2)) Kind.slice w12 fun (t30 : Slc) w13 =>
    c_load_Loader_Add t15 t30 w13 fun t31 w14 =>
    c_load_Loader_Held t15 w14 fun t33 w15 =>
    c_load_Loader_End t15 w15 fun t36 t36_1 w16 =>
    nw ty_api_Matrix [(.int .i64 0), (.int .i64 0), (.slice none 0 0)] w16 fun m w17 =>
    stK m (T_api_Matrix.rep.cells t36) w17 fun w18 =>
    cond ((IntKind.i64.wrap ((IntKind.i64.wrap (t27 + t31)) + t36_1)) == (0 : Int))
      (cond (t33 == (3 : Int))
         (ldSl (m.add 2) w18 fun t51 =>
          runK1 PG (convert ty_sl_uint8 ty_string (.slice t51.a t51.n t51.c)) Kind.string w18 fun (t52 : ByteArray) w19 =>
          K (t52.toList == (⟨#[1, 2, 3, 255]⟩ : ByteArray).toList) w19)
         (K false w18))
      (K false w18)) fun J1 =>
  cond (t15_1 != (0 : Int))
    (K false w7)
    (cond (t15.isNone)
       (K false w7)
       (J1 (()) w7))

def an_phosphorlaw20_known : List Ann := [.none, .none, .none, .none, .none, .none, .join [] [0, 18, 19, 20, 21, 22, 23], .none, .none, .none, .none, .none, .none, .none]

theorem vc_phosphorlaw20_known  (w : World) (K : Bool → World → Prop) :
    vcFn C (Tryz.f30.body.getD .skip) Tryz.f30.results.toList Tryz.f30.ntmps an_phosphorlaw20_known [Kind.bool] [] w (fun s w => K s.1 w) = sh_phosphorlaw20_known  w K := by kernel_rfl

theorem call_phosphorlaw20_known  {w : World} {K : Bool → World → Prop} (h : sh_phosphorlaw20_known  w K) : c_phosphorlaw20_known  w K := by
  rw [← vc_phosphorlaw20_known] at h
  refine Calls.mono (calls_of_vc C.plain_ok C.mixed Tryz.func30 rfl h) ?_
  rintro e w' ⟨s, rfl, hK⟩
  exact ⟨s.1, rfl, hK⟩

/-- phosphor/load.Needs -/
def sh_load_Needs (k : T_keys_Keys) (w : World) (K : Int → Int → World → Prop) : Prop :=
  nw ty_keys_Keys (T_keys_Keys.rep.cells k) w fun k_1 w1 =>
  joinP (σ := Unit) (fun s w2 =>
    ldI .i64 (k_1.add 5) w2 fun t43 =>
    (8 : Int) ≠ 0 ∧
    ldI .i64 (k_1.add 6) w2 fun t46 =>
    ldI .i64 (k_1.add 7) w2 fun t49 =>
    K (IntKind.i64.wrap ((IntKind.i64.wrap ((IntKind.i64.wrap (t43.tdiv (8 : Int))) * t46)) * t49)) 0 w2) fun J1 =>
  joinP (σ := Bool × Unit) (fun s_1 w3 =>
    cond s_1.1
      (K 0 8 w3)
      (ldI .i64 (k_1.add 5) w3 fun t20 =>
       cond (t20 == (100 : Int))
         (K 0 0 w3)
         (joinP (σ := Bool × Unit) (fun s_2 w4 =>
            cond s_2.1
              (K 0 8 w4)
              (ldI .i64 (k_1.add 6) w4 fun t33 =>
               c_load_isSide t33 w4 fun t34 w5 =>
               cond (!t34)
                 (K 0 1 w5)
                 (ldI .i64 (k_1.add 7) w5 fun t38 =>
                  c_load_isSide t38 w5 fun t39 w6 =>
                  cond (!t39)
                    (K 0 1 w6)
                    (J1 (()) w6)))) fun J3 =>
          ldI .i64 (k_1.add 5) w3 fun t24 =>
          cond (t24 != (24 : Int))
            (ldI .i64 (k_1.add 5) w3 fun t28 =>
             J3 ((t28 != (32 : Int)), ()) w3)
            (J3 (false, ()) w3)))) fun J2 =>
  ldI .u8 (k_1.add 1) w1 fun t6 =>
  cond (t6 != (100 : Int))
    (J2 (true, ()) w1)
    (ldI .u8 (k_1.add 2) w1 fun t10 =>
     cond (t10 != (0 : Int))
       (ldI .u8 (k_1.add 2) w1 fun t14 =>
        J2 ((t14 != (122 : Int)), ()) w1)
       (J2 (false, ()) w1))

def an_load_Needs : List Ann := [.none, .join [] [2, 3, 4, 5, 6, 7, 8, 9, 10, 11, 12, 13, 14, 15, 16, 17, 18, 19, 20, 21, 22, 23, 24, 25, 26, 27, 28, 29, 30, 31, 32, 33, 34, 35, 36, 37, 38, 39, 40, 41], .join [(4, Kind.bool)] [4, 5, 6, 7, 8, 9, 10, 11, 12, 13, 14, 15, 16, 17], .none, .none, .none, .join [(22, Kind.bool)] [22, 23, 24, 25, 26, 27, 28, 29, 30], .none, .none, .none, .none]

theorem vc_load_Needs (k : T_keys_Keys) (w : World) (K : Int → Int → World → Prop) :
    vcFn C (Tryz.f32.body.getD .skip) Tryz.f32.results.toList Tryz.f32.ntmps an_load_Needs [(Kind.int .i64), (Kind.int .i64)] [(.agg #[(.int .u8 k.Action), (.int .u8 k.Medium), (.int .u8 k.Zip), (.int .u8 k.What), (.int .i64 k.Quiet), (.int .i64 k.Format), (.int .i64 k.W), (.int .i64 k.H), (.int .i64 k.Id), (.int .i64 k.Number), (.int .i64 k.Place), (.int .i64 k.More), (.int .i64 k.X), (.int .i64 k.Y), (.int .i64 k.PW), (.int .i64 k.PH), (.int .i64 k.DX), (.int .i64 k.DY), (.int .i64 k.Rows), (.int .i64 k.Cols), (.int .i64 k.Z), (.int .i64 k.Stay)])] w (fun s w => K s.1 s.2.1 w) = sh_load_Needs k w K := by kernel_rfl

theorem call_load_Needs (k : T_keys_Keys) {w : World} {K : Int → Int → World → Prop} (h : sh_load_Needs k w K) : c_load_Needs k w K := by
  rw [← vc_load_Needs] at h
  refine Calls.mono (calls_of_vc C.plain_ok C.mixed Tryz.func32 rfl h) ?_
  rintro e w' ⟨s, rfl, hK⟩
  exact ⟨s.1, s.2.1, rfl, hK⟩

/-- phosphor/load.New -/
def sh_load_New (k : T_keys_Keys) (room : Int) (w : World) (K : Option Addr → Int → World → Prop) : Prop :=
  nw ty_keys_Keys (T_keys_Keys.rep.cells k) w fun k_1 w1 =>
  joinP (σ := Unit) (fun s w2 =>
    ldS T_keys_Keys.rep k_1 w2 fun t15 =>
    c_load_Needs t15 w2 fun t16 t16_1 w3 =>
    joinP (σ := Unit) (fun s_1 w4 =>
      ldS T_keys_Keys.rep k_1 w4.drew fun t38 =>
      c_base64_NewDecoder  w4.drew fun t37 w5 =>
      cellsAt w5 k_1 (T_keys_Keys.rep.cells t38) ∧
      nw ty_load_Loader [(.pointer t37), (.int .u8 t38.Action), (.int .u8 t38.Medium), (.int .u8 t38.Zip), (.int .u8 t38.What), (.int .i64 t38.Quiet), (.int .i64 t38.Format), (.int .i64 t38.W), (.int .i64 t38.H), (.int .i64 t38.Id), (.int .i64 t38.Number), (.int .i64 t38.Place), (.int .i64 t38.More), (.int .i64 t38.X), (.int .i64 t38.Y), (.int .i64 t38.PW), (.int .i64 t38.PH), (.int .i64 t38.DX), (.int .i64 t38.DY), (.int .i64 t38.Rows), (.int .i64 t38.Cols), (.int .i64 t38.Z), (.int .i64 t38.Stay), (.int .i64 room), (.int .i64 t16), (.slice none 0 0), (.int .i64 0), (.int .i64 0), (.bool false)] w5 fun t42 w6 =>
      K (some t42) 0 w6) fun J2 =>
    cond (t16_1 != (0 : Int))
      (K none t16_1 w3)
      (ldI .i64 (k_1.add 5) w3 fun t25 =>
       cond (t25 != (100 : Int))
         (ldI .i64 (k_1.add 6) w3 fun t29 =>
          ldI .i64 (k_1.add 7) w3 fun t32 =>
          cond (decide ((IntKind.i64.wrap ((IntKind.i64.wrap ((4 : Int) * t29)) * t32)) > room))
            (K none 6 w3)
            (J2 (()) w3))
         (J2 (()) w3))) fun J1 =>
  cond (decide (room < (0 : Int)))
    (K none 1 w1)
    (cond (decide (room > (1073741824 : Int)))
       (K none 1 w1)
       (J1 (()) w1))

def an_load_New : List Ann := [.none, .join [] [4, 5, 8, 9, 10, 11, 12, 13], .none, .none, .none, .join [] [4, 5, 19, 20, 21, 22, 23, 24, 25, 26, 27, 28, 29, 30, 31, 32, 33, 34, 35, 36], .none, .none, .none, .none, .none]

theorem vc_load_New (k : T_keys_Keys) (room : Int) (w : World) (K : Option Addr → Int → World → Prop) :
    vcFn C (Tryz.f34.body.getD .skip) Tryz.f34.results.toList Tryz.f34.ntmps an_load_New [Kind.ptr, (Kind.int .i64)] [(.agg #[(.int .u8 k.Action), (.int .u8 k.Medium), (.int .u8 k.Zip), (.int .u8 k.What), (.int .i64 k.Quiet), (.int .i64 k.Format), (.int .i64 k.W), (.int .i64 k.H), (.int .i64 k.Id), (.int .i64 k.Number), (.int .i64 k.Place), (.int .i64 k.More), (.int .i64 k.X), (.int .i64 k.Y), (.int .i64 k.PW), (.int .i64 k.PH), (.int .i64 k.DX), (.int .i64 k.DY), (.int .i64 k.Rows), (.int .i64 k.Cols), (.int .i64 k.Z), (.int .i64 k.Stay)]), (.int .i64 room)] w (fun s w => K s.1 s.2.1 w) = sh_load_New k room w K := by kernel_rfl

theorem call_load_New (k : T_keys_Keys) (room : Int) {w : World} {K : Option Addr → Int → World → Prop} (h : sh_load_New k room w K) : c_load_New k room w K := by
  rw [← vc_load_New] at h
  refine Calls.mono (calls_of_vc C.plain_ok C.mixed Tryz.func34 rfl h) ?_
  rintro e w' ⟨s, rfl, hK⟩
  exact ⟨s.1, s.2.1, rfl, hK⟩

/-- (*phosphor/load.Loader).Add -/
def sh_load_Loader_Add (l : Option Addr) (text : Slc) (w : World) (K : Int → World → Prop) : Prop :=
  onPtr l fun t10 =>
  ldB (t10.add 28) w fun t12 =>
  cond t12
    (K 7 w)
    (joinP (σ := Unit) (fun s w1 =>
       onPtr l fun t43 =>
       ldI .i64 (t43.add 27) w1 fun t45 =>
       K t45 w1) fun J1 =>
     loopP (σ := Int × Unit) (fun I2 s_1 w2 =>
       cond (decide (s_1.1 < ((text.n : Nat) : Int)))
         (ixK text s_1.1 1 fun t17 =>
          ldI .u8 t17 w2 fun t18 =>
          onPtr l fun t20 =>
          ldI .i64 (t20.add 27) w2 fun t22 =>
          cond (t22 != (0 : Int))
            (J1 (()) w2)
            (onPtr l fun t26 =>
             ldP (t26.add 0) w2 fun t28 =>
             c_base64_Decoder_Put t28 t18 w2 fun t30 t30_1 w3 =>
             cond (t30_1 == (0 : Int))
               (c_load_Loader_take l t30 w3 fun t37 w4 =>
                c_load_Loader_fail l t37 w4 fun w5 =>
                I2 ((IntKind.i64.wrap (s_1.1 + (1 : Int))), ()) w5)
               (c_load_Loader_fail l t30_1 w3 fun w6 =>
                I2 ((IntKind.i64.wrap (s_1.1 + (1 : Int))), ()) w6)))
         (J1 (()) w2)) (0, ()) w)

def an_load_Loader_Add : List Ann := [.none, .none, .none, .none, .join [] [6, 7, 8, 13, 14, 15, 16, 17, 18, 19, 20, 21, 22, 23, 24, 25, 26, 27, 28, 29, 30, 31, 32, 33, 34, 35, 36, 37, 38, 39, 40, 41], .none, .join [(15, (Kind.int .i64))] [6, 7, 8, 15, 16, 17, 18, 19, 20, 21, 22, 23, 24, 25, 26, 27, 28, 29, 30, 31, 32, 33, 34, 35, 36, 37, 38, 39, 40, 41], .none, .none, .none, .none, .none, .none, .none, .none, .none, .none]

theorem vc_load_Loader_Add (l : Option Addr) (text : Slc) (w : World) (K : Int → World → Prop) :
    vcFn C (Tryz.f36.body.getD .skip) Tryz.f36.results.toList Tryz.f36.ntmps an_load_Loader_Add [(Kind.int .i64)] [(.pointer l), (.slice text.a text.n text.c)] w (fun s w => K s.1 w) = sh_load_Loader_Add l text w K := by kernel_rfl

theorem call_load_Loader_Add (l : Option Addr) (text : Slc) {w : World} {K : Int → World → Prop} (h : sh_load_Loader_Add l text w K) : c_load_Loader_Add l text w K := by
  rw [← vc_load_Loader_Add] at h
  refine Calls.mono (calls_of_vc C.plain_ok C.mixed Tryz.func36 rfl h) ?_
  rintro e w' ⟨s, rfl, hK⟩
  exact ⟨s.1, rfl, hK⟩

/-- (*phosphor/load.Loader).Held -/
def sh_load_Loader_Held (l : Option Addr) (w : World) (K : Int → World → Prop) : Prop :=
  onPtr l fun t4 =>
  ldI .i64 (t4.add 26) w fun t6 =>
  K t6 w

def an_load_Loader_Held : List Ann := [.none, .none]

theorem vc_load_Loader_Held (l : Option Addr) (w : World) (K : Int → World → Prop) :
    vcFn C (Tryz.f38.body.getD .skip) Tryz.f38.results.toList Tryz.f38.ntmps an_load_Loader_Held [(Kind.int .i64)] [(.pointer l)] w (fun s w => K s.1 w) = sh_load_Loader_Held l w K := by kernel_rfl

theorem call_load_Loader_Held (l : Option Addr) {w : World} {K : Int → World → Prop} (h : sh_load_Loader_Held l w K) : c_load_Loader_Held l w K := by
  rw [← vc_load_Loader_Held] at h
  refine Calls.mono (calls_of_vc C.plain_ok C.mixed Tryz.func38 rfl h) ?_
  rintro e w' ⟨s, rfl, hK⟩
  exact ⟨s.1, rfl, hK⟩

/-- (*phosphor/load.Loader).End -/
def sh_load_Loader_End (l : Option Addr) (w : World) (K : T_api_Matrix → Int → World → Prop) : Prop :=
  nw ty_api_Matrix [(.int .i64 0), (.int .i64 0), (.slice none 0 0)] w fun t2 w1 =>
  onPtr l fun t10 =>
  ldB (t10.add 28) w1 fun t12 =>
  cond t12
    (stK t2 [(.int .i64 0), (.int .i64 0), (.slice none 0 0)] w1 fun w2 =>
     ldS T_api_Matrix.rep t2 w2 fun r =>
     K r 7 w2)
    (onPtr l fun t15 =>
     stK (t15.add 28) [(.bool true)] w1 fun w3 =>
     joinP (σ := Unit) (fun s w4 =>
       onPtr l fun t39 =>
       ldSl (t39.add 25) w4 fun t41 =>
       c_slices_Concat_byte_byte t41 w4 fun t42 w5 =>
       c_load_Loader_drop l w5 fun w6 =>
       onPtr l fun t46 =>
       ldI .i64 (t46.add 27) w6 fun t48 =>
       cond (t48 != (0 : Int))
         (onPtr l fun t52 =>
          ldI .i64 (t52.add 27) w6.drew fun t54 =>
          stK t2 [(.int .i64 0), (.int .i64 0), (.slice none 0 0)] w6.drew fun w7 =>
          World.cell? w7 (t52.add 27) = some (.int .i64 t54) ∧
          ldS T_api_Matrix.rep t2 w7 fun r_1 =>
          K r_1 t54 w7)
         (joinP (σ := Slc × Unit) (fun s_1 w8 =>
            c_load_Loader_image l s_1.1 w8 fun t74 t74_1 w9 =>
            stK t2 (T_api_Matrix.rep.cells t74) w9 fun w10 =>
            ldS T_api_Matrix.rep t2 w10 fun r_2 =>
            K r_2 t74_1 w10) fun J2 =>
          onPtr l fun t56 =>
          ldI .u8 ((t56.add 1).add 2) w6 fun t59 =>
          cond (t59 == (122 : Int))
            (c_load_Loader_unpack l t42 w6 fun t64 t64_1 w11 =>
             cond (t64_1 != (0 : Int))
               (stK t2 [(.int .i64 0), (.int .i64 0), (.slice none 0 0)] w11 fun w12 =>
                ldS T_api_Matrix.rep t2 w12 fun r_3 =>
                K r_3 t64_1 w12)
               (J2 (t64, ()) w11))
            (J2 (t42, ()) w6))) fun J1 =>
     onPtr l fun t18 =>
     ldI .i64 (t18.add 27) w3 fun t20 =>
     cond (t20 == (0 : Int))
       (onPtr l fun t24 =>
        ldP (t24.add 0) w3 fun t26 =>
        c_base64_Decoder_End t26 w3 fun t27 t27_1 w13 =>
        cond (t27_1 == (0 : Int))
          (c_load_Loader_take l t27 w13 fun t34 w14 =>
           c_load_Loader_fail l t34 w14 fun w15 =>
           J1 (()) w15)
          (c_load_Loader_fail l t27_1 w13 fun w16 =>
           J1 (()) w16))
       (J1 (()) w3))

def an_load_Loader_End : List Ann := [.none, .none, .none, .none, .none, .join [] [4, 5, 17, 18, 19, 20, 21, 22, 23, 24, 25, 26, 27, 28, 29, 30, 31, 32, 33, 34, 35, 36, 37], .none, .none, .none, .none, .none, .none, .none, .none, .none, .join [(6, Kind.slice)] [3, 6, 7, 8, 55, 56, 57, 58, 59, 60, 61, 62, 63, 64, 65, 66, 67, 68, 69, 70, 71], .none, .none, .none, .none, .none, .none]

theorem vc_load_Loader_End (l : Option Addr) (w : World) (K : T_api_Matrix → Int → World → Prop) :
    vcFn C (Tryz.f40.body.getD .skip) Tryz.f40.results.toList Tryz.f40.ntmps an_load_Loader_End [(Kind.struct T_api_Matrix.rep), (Kind.int .i64)] [(.pointer l)] w (fun s w => K s.1 s.2.1 w) = sh_load_Loader_End l w K := by kernel_rfl

theorem call_load_Loader_End (l : Option Addr) {w : World} {K : T_api_Matrix → Int → World → Prop} (h : sh_load_Loader_End l w K) : c_load_Loader_End l w K := by
  rw [← vc_load_Loader_End] at h
  refine Calls.mono (calls_of_vc C.plain_ok C.mixed Tryz.func40 rfl h) ?_
  rintro e w' ⟨s, rfl, hK⟩
  exact ⟨s.1, s.2.1, rfl, hK⟩

end Go.Proofs.YtmagnpcgpinmcaaGreat
