/- By program (gen.py): the typed text of the program's functions, part 2. -/
import Derived.Test.YtmagnpcgpinmcaaGreatDefs
set_option maxRecDepth 100000
set_option linter.unusedVariables false
namespace Go.Proofs.YtmagnpcgpinmcaaGreat
open Go.Vc
/-- (*phosphor/base64.Decoder).End -/
def sh_base64_Decoder_End (d : Option Addr) (w : World) (K : Slc → Int → World → Prop) : Prop :=
  joinP (σ := Unit) (fun s w1 =>
    c_base64_Decoder_bytes d w1 fun t32 w2 =>
    c_base64_Decoder_Reset d w2 fun w3 =>
    K t32 0 w3) fun J1 =>
  joinP (σ := Bool × Unit) (fun s_1 w4 =>
    cond s_1.1
      (onPtr d fun t30 =>
       stK t30 [(.int .u32 0), (.int .i64 0), (.int .i64 0), (.bool false), (.bool true)] w4 fun w5 =>
       K (⟨none, 0, 0⟩ : Slc) 3 w5)
      (J1 (()) w4)) fun J2 =>
  onPtr d fun t6 =>
  ldB (t6.add 4) w fun t8 =>
  cond t8
    (J2 (true, ()) w)
    (onPtr d fun t11 =>
     ldI .i64 (t11.add 1) w fun t13 =>
     cond (t13 == (1 : Int))
       (J2 (true, ()) w)
       (onPtr d fun t18 =>
        ldI .i64 (t18.add 2) w fun t20 =>
        cond (decide (t20 > (0 : Int)))
          (J2 (true, ()) w)
          (c_base64_Decoder_clean d w fun t25 w6 =>
           J2 ((!t25), ()) w6)))

def an_base64_Decoder_End : List Ann := [.none, .join [] [2, 3, 5, 6, 7, 8, 9, 10, 11, 12, 13, 14, 15, 16, 17, 18, 19, 20, 21, 22, 23, 24, 25, 26, 27, 28, 29, 30], .join [(27, Kind.bool)] [5, 6, 7, 8, 9, 10, 11, 12, 13, 14, 15, 16, 17, 18, 19, 20, 21, 22, 23, 24, 25, 26, 27], .none, .none, .none, .none, .none]

theorem vc_base64_Decoder_End (d : Option Addr) (w : World) (K : Slc → Int → World → Prop) :
    vcFn C (Tryz.f84.body.getD .skip) Tryz.f84.results.toList Tryz.f84.ntmps an_base64_Decoder_End [Kind.slice, (Kind.int .i64)] [(.pointer d)] w (fun s w => K s.1 s.2.1 w) = sh_base64_Decoder_End d w K := by kernel_rfl

theorem call_base64_Decoder_End (d : Option Addr) {w : World} {K : Slc → Int → World → Prop} (h : sh_base64_Decoder_End d w K) : c_base64_Decoder_End d w K := by
  rw [← vc_base64_Decoder_End] at h
  refine Calls.mono (calls_of_vc C.plain_ok C.mixed Tryz.func84 rfl h) ?_
  rintro e w' ⟨s, rfl, hK⟩
  exact ⟨s.1, s.2.1, rfl, hK⟩

/-- (*phosphor/load.Loader).drop -/
def sh_load_Loader_drop (l : Option Addr) (w : World) (K : World → Prop) : Prop :=
  onPtr l fun t4 =>
  stK (t4.add 25) [(.slice none 0 0)] w fun w1 =>
  onPtr l fun t6 =>
  stK (t6.add 26) [(.int .i64 0)] w1 fun w2 =>
  K w2

def an_load_Loader_drop : List Ann := []

theorem vc_load_Loader_drop (l : Option Addr) (w : World) (K : World → Prop) :
    vcFn C (Tryz.f85.body.getD .skip) Tryz.f85.results.toList Tryz.f85.ntmps an_load_Loader_drop [] [(.pointer l)] w (fun s w => K w) = sh_load_Loader_drop l w K := by kernel_rfl

theorem call_load_Loader_drop (l : Option Addr) {w : World} {K : World → Prop} (h : sh_load_Loader_drop l w K) : c_load_Loader_drop l w K := by
  rw [← vc_load_Loader_drop] at h
  refine Calls.mono (calls_of_vc C.plain_ok C.mixed Tryz.func85 rfl h) ?_
  rintro e w' ⟨s, rfl, hK⟩
  exact ⟨rfl, hK⟩

/-- (*phosphor/load.Loader).unpack -/
def sh_load_Loader_unpack (l : Option Addr) (b : Slc) (w : World) (K : Slc → Int → World → Prop) : Prop :=
  onPtr l fun t11 =>
  ldI .i64 (t11.add 24) w fun t13 =>
  joinP (σ := Int × Unit) (fun s w1 =>
    c_zlib_Unpack b s.1 w1 fun t27 t27_1 t27_2 w2 =>
    joinP (σ := Int × Unit) (fun s_1 w3 =>
      K t27 s_1.1 w3) fun J2 =>
    cond (t27_2 == (0 : Int))
      (cond (decide (t27_1 < ((b.n : Nat) : Int)))
         (J2 (3, ()) w2)
         (J2 (t27_2, ()) w2))
      (J2 (t27_2, ()) w2)) fun J1 =>
  onPtr l fun t15 =>
  ldI .i64 ((t15.add 1).add 5) w fun t18 =>
  cond (t18 == (100 : Int))
    (onPtr l fun t21 =>
     ldI .i64 (t21.add 23) w fun t23 =>
     J1 (t23, ()) w)
    (J1 (t13, ()) w)

def an_load_Loader_unpack : List Ann := [.none, .none, .join [(6, (Kind.int .i64))] [6, 14, 15, 16, 17, 18, 19, 20, 21, 22, 23], .none, .none, .join [(9, (Kind.int .i64))] [9, 31, 32, 33, 34, 35, 36, 37, 38], .none, .none]

theorem vc_load_Loader_unpack (l : Option Addr) (b : Slc) (w : World) (K : Slc → Int → World → Prop) :
    vcFn C (Tryz.f86.body.getD .skip) Tryz.f86.results.toList Tryz.f86.ntmps an_load_Loader_unpack [Kind.slice, (Kind.int .i64)] [(.pointer l), (.slice b.a b.n b.c)] w (fun s w => K s.1 s.2.1 w) = sh_load_Loader_unpack l b w K := by kernel_rfl

theorem call_load_Loader_unpack (l : Option Addr) (b : Slc) {w : World} {K : Slc → Int → World → Prop} (h : sh_load_Loader_unpack l b w K) : c_load_Loader_unpack l b w K := by
  rw [← vc_load_Loader_unpack] at h
  refine Calls.mono (calls_of_vc C.plain_ok C.mixed Tryz.func86 rfl h) ?_
  rintro e w' ⟨s, rfl, hK⟩
  exact ⟨s.1, s.2.1, rfl, hK⟩

/-- (*phosphor/load.Loader).image -/
def sh_load_Loader_image (l : Option Addr) (b : Slc) (w : World) (K : T_api_Matrix → Int → World → Prop) : Prop :=
  nw ty_api_Matrix [(.int .i64 0), (.int .i64 0), (.slice none 0 0)] w fun t4 w1 =>
  joinP (σ := Value × Unit) (fun s w2 =>
    onPtr l fun t35 =>
    ldI .i64 ((t35.add 1).add 6) w2.drew fun t38 =>
    onPtr l fun t40 =>
    ldI .i64 ((t40.add 1).add 7) w2.drew fun t43 =>
    callR C s.1 [(.int .i64 t38), (.int .i64 t43), (.slice b.a b.n b.c)] [(Kind.struct T_api_Matrix.rep), (Kind.int .i64)] w2.drew fun (t45 : T_api_Matrix) (t45_1 : Int) w3 =>
    stK t4 (T_api_Matrix.rep.cells t45) w3 fun w4 =>
    ldS T_api_Matrix.rep t4 w4 fun r =>
    K r t45_1 w4) fun J1 =>
  onPtr l fun t8 =>
  ldI .i64 ((t8.add 1).add 5) w1 fun t11 =>
  joinP (σ := Value × Unit) (fun s_1 w5 =>
    onPtr l fun t28 =>
    ldI .i64 (t28.add 24) w5 fun t30 =>
    cond (decide (((b.n : Nat) : Int) < t30))
      (stK t4 [(.int .i64 0), (.int .i64 0), (.slice none 0 0)] w5 fun w6 =>
       ldS T_api_Matrix.rep t4 w6 fun r_1 =>
       K r_1 2 w6)
      (J1 (s_1.1, ()) w5)) fun J2 =>
  cond (t11 == (100 : Int))
    (onPtr l fun t18 =>
     ldI .i64 (t18.add 23) w1 fun t20 =>
     (4 : Int) ≠ 0 ∧
     c_png_Decode b (IntKind.i64.wrap (t20.tdiv (4 : Int))) w1 fun t22 t22_1 w7 =>
     stK t4 (T_api_Matrix.rep.cells t22) w7 fun w8 =>
     ldS T_api_Matrix.rep t4 w8 fun r_2 =>
     K r_2 t22_1 w8)
    (cond (t11 == (24 : Int))
       (J2 ((.func (.func fn_pixel_FromRGB) #[] #[]), ()) w1)
       (J2 ((.func (.func fn_pixel_FromRGBA) #[] #[]), ()) w1))

def an_load_Loader_image : List Ann := [.none, .none, .join [(6, Kind.raw)] [5, 6, 7, 8, 9, 10, 11, 12, 13, 14, 15, 16, 17, 18, 19, 20, 21, 22, 23, 24, 25, 26, 27, 28, 29, 30, 31, 32], .none, .join [(6, Kind.raw)] [5, 6, 12, 13, 14, 15, 16, 17, 18, 19, 20, 21, 22, 23, 24], .none, .none, .none, .none, .none, .none, .none, .none, .none, .none, .none, .none]

theorem vc_load_Loader_image (l : Option Addr) (b : Slc) (w : World) (K : T_api_Matrix → Int → World → Prop) :
    vcFn C (Tryz.f87.body.getD .skip) Tryz.f87.results.toList Tryz.f87.ntmps an_load_Loader_image [(Kind.struct T_api_Matrix.rep), (Kind.int .i64)] [(.pointer l), (.slice b.a b.n b.c)] w (fun s w => K s.1 s.2.1 w) = sh_load_Loader_image l b w K := by kernel_rfl

theorem call_load_Loader_image (l : Option Addr) (b : Slc) {w : World} {K : T_api_Matrix → Int → World → Prop} (h : sh_load_Loader_image l b w K) : c_load_Loader_image l b w K := by
  rw [← vc_load_Loader_image] at h
  refine Calls.mono (calls_of_vc C.plain_ok C.mixed Tryz.func87 rfl h) ?_
  rintro e w' ⟨s, rfl, hK⟩
  exact ⟨s.1, s.2.1, rfl, hK⟩

/-- slices.Chunk[[]byte,byte] -/
def sh_slices_Chunk_byte_byte (s : Slc) (n : Int) (w : World) (K : Value → World → Prop) : Prop :=
  nw ty_sl_uint8 [(.slice s.a s.n s.c)] w fun s_1 w1 =>
  nw ty_int [(.int .i64 n)] w1 fun n_1 w2 =>
  ldI .i64 n_1 w2 fun t5 =>
  cond (decide (t5 < (1 : Int)))
    (False)
    (K ((.func (.func fn_slices_Chunk_byte_byte_1) #[] #[(.pointer (some s_1)), (.pointer (some n_1))]) : Value) w2)

def an_slices_Chunk_byte_byte : List Ann := [.none, .none, .none, .none]

theorem vc_slices_Chunk_byte_byte (s : Slc) (n : Int) (w : World) (K : Value → World → Prop) :
    vcFn C (Tryz.f92.body.getD .skip) Tryz.f92.results.toList Tryz.f92.ntmps an_slices_Chunk_byte_byte [Kind.raw] [(.slice s.a s.n s.c), (.int .i64 n)] w (fun s w => K s.1 w) = sh_slices_Chunk_byte_byte s n w K := by kernel_rfl

theorem call_slices_Chunk_byte_byte (s : Slc) (n : Int) {w : World} {K : Value → World → Prop} (h : sh_slices_Chunk_byte_byte s n w K) : c_slices_Chunk_byte_byte s n w K := by
  rw [← vc_slices_Chunk_byte_byte] at h
  refine Calls.mono (calls_of_vc C.plain_ok C.mixed Tryz.func92 rfl h) ?_
  rintro e w' ⟨s, rfl, hK⟩
  exact ⟨s.1, rfl, hK⟩

/-- phosphor/sums.NewAdler -/
def sh_sums_NewAdler  (w : World) (K : Option Addr → World → Prop) : Prop :=
  nw ty_sums_Adler [(.int .u32 1), (.int .u32 0)] w fun t2 w1 =>
  K (some t2) w1

def an_sums_NewAdler : List Ann := [.none, .none]

theorem vc_sums_NewAdler  (w : World) (K : Option Addr → World → Prop) :
    vcFn C (Tryz.f96.body.getD .skip) Tryz.f96.results.toList Tryz.f96.ntmps an_sums_NewAdler [Kind.ptr] [] w (fun s w => K s.1 w) = sh_sums_NewAdler  w K := by kernel_rfl

theorem call_sums_NewAdler  {w : World} {K : Option Addr → World → Prop} (h : sh_sums_NewAdler  w K) : c_sums_NewAdler  w K := by
  rw [← vc_sums_NewAdler] at h
  refine Calls.mono (calls_of_vc C.plain_ok C.mixed Tryz.func96 rfl h) ?_
  rintro e w' ⟨s, rfl, hK⟩
  exact ⟨s.1, rfl, hK⟩

/-- slices.Grow[[]byte,byte] -/
def sh_slices_Grow_byte_byte (s : Slc) (n : Int) (w : World) (K : Slc → World → Prop) : Prop :=
  joinP (σ := Unit) (fun s_1 w1 =>
    cond (decide ((IntKind.i64.wrap (n - (IntKind.i64.wrap (((s.c : Nat) : Int) - ((s.n : Nat) : Int))))) > (0 : Int)))
      (slK s none (some ((s.c : Nat) : Int)) 1 fun t20 =>
       apM PG #[ty_sl_uint8, ty_int] ty_sl_uint8 t20 (IntKind.i64.wrap (n - (IntKind.i64.wrap (((s.c : Nat) : Int) - ((s.n : Nat) : Int))))) .i64 w1 fun t22 w2 =>
       slK t22 none (some ((s.n : Nat) : Int)) 1 fun t25 =>
       K t25 w2)
      (K s w1)) fun J1 =>
  cond (decide (n < (0 : Int)))
    (False)
    (J1 (()) w)

def an_slices_Grow_byte_byte : List Ann := [.none, .join [] [5, 6, 7], .none, .none, .none, .none, .none]

theorem vc_slices_Grow_byte_byte (s : Slc) (n : Int) (w : World) (K : Slc → World → Prop) :
    vcFn C (Tryz.f102.body.getD .skip) Tryz.f102.results.toList Tryz.f102.ntmps an_slices_Grow_byte_byte [Kind.slice] [(.slice s.a s.n s.c), (.int .i64 n)] w (fun s w => K s.1 w) = sh_slices_Grow_byte_byte s n w K := by kernel_rfl

theorem call_slices_Grow_byte_byte (s : Slc) (n : Int) {w : World} {K : Slc → World → Prop} (h : sh_slices_Grow_byte_byte s n w K) : c_slices_Grow_byte_byte s n w K := by
  rw [← vc_slices_Grow_byte_byte] at h
  refine Calls.mono (calls_of_vc C.plain_ok C.mixed Tryz.func102 rfl h) ?_
  rintro e w' ⟨s, rfl, hK⟩
  exact ⟨s.1, rfl, hK⟩

/-- slices.Index[[]int,int] -/
def sh_slices_Index_int_int (s : Slc) (v : Int) (w : World) (K : Int → World → Prop) : Prop :=
  loopP (σ := Int × Unit) (fun I1 s_1 w1 =>
    cond (decide (s_1.1 < ((s.n : Nat) : Int)))
      (ixK s s_1.1 1 fun t14 =>
       ldI .i64 t14 w1 fun t15 =>
       cond (v == t15)
         (K s_1.1 w1)
         (I1 ((IntKind.i64.wrap (s_1.1 + (1 : Int))), ()) w1))
      (K (-1) w1)) (0, ()) w

def an_slices_Index_int_int : List Ann := [.none, .none, .none, .join [(8, (Kind.int .i64))] [4, 5, 8, 9, 10, 11, 12, 13, 14, 15, 16, 17, 18], .none, .none, .none, .none, .none, .none, .none]

theorem vc_slices_Index_int_int (s : Slc) (v : Int) (w : World) (K : Int → World → Prop) :
    vcFn C (Tryz.f103.body.getD .skip) Tryz.f103.results.toList Tryz.f103.ntmps an_slices_Index_int_int [(Kind.int .i64)] [(.slice s.a s.n s.c), (.int .i64 v)] w (fun s w => K s.1 w) = sh_slices_Index_int_int s v w K := by kernel_rfl

theorem call_slices_Index_int_int (s : Slc) (v : Int) {w : World} {K : Int → World → Prop} (h : sh_slices_Index_int_int s v w K) : c_slices_Index_int_int s v w K := by
  rw [← vc_slices_Index_int_int] at h
  refine Calls.mono (calls_of_vc C.plain_ok C.mixed Tryz.func103 rfl h) ?_
  rintro e w' ⟨s, rfl, hK⟩
  exact ⟨s.1, rfl, hK⟩

/-- (phosphor/png.Head).passes -/
def sh_png_Head_passes (hx : T_png_Head) (w : World) (K : Slc → World → Prop) : Prop :=
  nw ty_png_Head (T_png_Head.rep.cells hx) w fun hx_1 w1 =>
  ldI .i64 (hx_1.add 4) w1 fun t4 =>
  cond (t4 == (1 : Int))
    (c_filter_Passes  w1 fun t6 w2 =>
     K t6 w2)
    (nw ty_filter_Pass [(.int .i64 0), (.int .i64 0), (.int .i64 1), (.int .i64 1)] w1 fun t8 w3 =>
     K (⟨(some t8), 1, 1⟩ : Slc) w3)

def an_png_Head_passes : List Ann := [.none, .none, .none, .none, .none]

theorem vc_png_Head_passes (hx : T_png_Head) (w : World) (K : Slc → World → Prop) :
    vcFn C (Tryz.f104.body.getD .skip) Tryz.f104.results.toList Tryz.f104.ntmps an_png_Head_passes [Kind.slice] [(.agg #[(.int .i64 hx.W), (.int .i64 hx.H), (.int .i64 hx.Depth), (.int .i64 hx.Color), (.int .i64 hx.Lace)])] w (fun s w => K s.1 w) = sh_png_Head_passes hx w K := by kernel_rfl

theorem call_png_Head_passes (hx : T_png_Head) {w : World} {K : Slc → World → Prop} (h : sh_png_Head_passes hx w K) : c_png_Head_passes hx w K := by
  rw [← vc_png_Head_passes] at h
  refine Calls.mono (calls_of_vc C.plain_ok C.mixed Tryz.func104 rfl h) ?_
  rintro e w' ⟨s, rfl, hK⟩
  exact ⟨s.1, rfl, hK⟩

/-- phosphor/filter.Size -/
def sh_filter_Size (p : T_phosphorref8_Pass) (wx : Int) (hx : Int) (w : World) (K : Int → Int → World → Prop) : Prop :=
  nw ty_filter_Pass (T_phosphorref8_Pass.rep.cells p) w fun p_1 w1 =>
  joinP (σ := Unit) (fun s w2 =>
    ldI .i64 (p_1.add 0) w2.drew fun t55 =>
    ldI .i64 (p_1.add 2) w2.drew fun t59 =>
    t59 ≠ 0 ∧
    ldI .i64 (p_1.add 1) w2.drew fun t64 =>
    ldI .i64 (p_1.add 3) w2.drew fun t68 =>
    t68 ≠ 0 ∧
    K (IntKind.i64.wrap ((IntKind.i64.wrap ((IntKind.i64.wrap ((IntKind.i64.wrap (wx - t55)) - (1 : Int))).tdiv t59)) + (1 : Int))) (IntKind.i64.wrap ((IntKind.i64.wrap ((IntKind.i64.wrap ((IntKind.i64.wrap (hx - t64)) - (1 : Int))).tdiv t68)) + (1 : Int))) w2.drew) fun J1 =>
  c_filter_isSide wx w1 fun t9 w3 =>
  cond (!t9)
    (K 0 0 w3)
    (c_filter_isSide hx w3 fun t13 w4 =>
     cond (!t13)
       (K 0 0 w4)
       (ldI .i64 (p_1.add 0) w4 fun t18 =>
        cond (decide (t18 < (0 : Int)))
          (K 0 0 w4)
          (ldI .i64 (p_1.add 1) w4 fun t23 =>
           cond (decide (t23 < (0 : Int)))
             (K 0 0 w4)
             (ldI .i64 (p_1.add 2) w4 fun t28 =>
              cond (decide (t28 < (1 : Int)))
                (K 0 0 w4)
                (ldI .i64 (p_1.add 3) w4 fun t33 =>
                 cond (decide (t33 < (1 : Int)))
                   (K 0 0 w4)
                   (ldI .i64 (p_1.add 0) w4 fun t38 =>
                    cond (decide (t38 ≥ wx))
                      (K 0 0 w4)
                      (ldI .i64 (p_1.add 1) w4 fun t44 =>
                       cond (decide (t44 ≥ hx))
                         (K 0 0 w4)
                         (ldS T_phosphorref8_Pass.rep p_1 w4 fun t49 =>
                          cond ((t49.X == (0 : Int)) && ((t49.Y == (0 : Int)) && ((t49.DX == (0 : Int)) && ((t49.DY == (0 : Int)) && true))))
                            (K 0 0 w4)
                            (J1 (()) w4)))))))))

def an_filter_Size : List Ann := [.none, .join [] [6, 7, 8, 9, 10, 11, 12, 13, 14, 15, 16, 17, 18, 19, 20, 21, 22, 23, 24, 25, 26, 27, 28, 29, 30, 31, 32, 33, 34, 35, 36, 37, 38, 39, 40, 41, 42, 43, 44, 45, 46, 47, 48, 49, 50, 51, 52], .none, .none, .none]

theorem vc_filter_Size (p : T_phosphorref8_Pass) (wx : Int) (hx : Int) (w : World) (K : Int → Int → World → Prop) :
    vcFn C (Tryz.f105.body.getD .skip) Tryz.f105.results.toList Tryz.f105.ntmps an_filter_Size [(Kind.int .i64), (Kind.int .i64)] [(.agg #[(.int .i64 p.X), (.int .i64 p.Y), (.int .i64 p.DX), (.int .i64 p.DY)]), (.int .i64 wx), (.int .i64 hx)] w (fun s w => K s.1 s.2.1 w) = sh_filter_Size p wx hx w K := by kernel_rfl

theorem call_filter_Size (p : T_phosphorref8_Pass) (wx : Int) (hx : Int) {w : World} {K : Int → Int → World → Prop} (h : sh_filter_Size p wx hx w K) : c_filter_Size p wx hx w K := by
  rw [← vc_filter_Size] at h
  refine Calls.mono (calls_of_vc C.plain_ok C.mixed Tryz.func105 rfl h) ?_
  rintro e w' ⟨s, rfl, hK⟩
  exact ⟨s.1, s.2.1, rfl, hK⟩

/-- phosphor/filter.check -/
def sh_filter_check (kind : Int) (row : Slc) (ahead : Slc) (step : Int) (w : World) (K : Bool → World → Prop) : Prop :=
  cond (decide (kind ≥ (0 : Int)))
    (cond (decide (kind ≤ (4 : Int)))
       (cond (decide (step ≥ (1 : Int)))
          (cond (decide (step ≤ (8 : Int)))
             (cond (((ahead.n : Nat) : Int) == (0 : Int))
                (K true w)
                (K (((ahead.n : Nat) : Int) == ((row.n : Nat) : Int)) w))
             (K false w))
          (K false w))
       (K false w))
    (K false w)

def an_filter_check : List Ann := [.none, .none]

theorem vc_filter_check (kind : Int) (row : Slc) (ahead : Slc) (step : Int) (w : World) (K : Bool → World → Prop) :
    vcFn C (Tryz.f108.body.getD .skip) Tryz.f108.results.toList Tryz.f108.ntmps an_filter_check [Kind.bool] [(.int .i64 kind), (.slice row.a row.n row.c), (.slice ahead.a ahead.n ahead.c), (.int .i64 step)] w (fun s w => K s.1 w) = sh_filter_check kind row ahead step w K := by kernel_rfl

theorem call_filter_check (kind : Int) (row : Slc) (ahead : Slc) (step : Int) {w : World} {K : Bool → World → Prop} (h : sh_filter_check kind row ahead step w K) : c_filter_check kind row ahead step w K := by
  rw [← vc_filter_check] at h
  refine Calls.mono (calls_of_vc C.plain_ok C.mixed Tryz.func108 rfl h) ?_
  rintro e w' ⟨s, rfl, hK⟩
  exact ⟨s.1, rfl, hK⟩

/-- slices.Clone[[]byte,byte] -/
def sh_slices_Clone_byte_byte (s : Slc) (w : World) (K : Slc → World → Prop) : Prop :=
  cond (s.a.isNone)
    (K (⟨none, 0, 0⟩ : Slc) w)
    (nw ty_uint8 [] w fun t5 w1 =>
     apK PG #[ty_sl_uint8, ty_sl_uint8] ty_sl_uint8 (⟨(some t5), 0, 0⟩ : Slc) s w1 fun t7 w2 =>
     K t7 w2)

def an_slices_Clone_byte_byte : List Ann := [.none, .none, .none, .none, .none]

theorem vc_slices_Clone_byte_byte (s : Slc) (w : World) (K : Slc → World → Prop) :
    vcFn C (Tryz.f109.body.getD .skip) Tryz.f109.results.toList Tryz.f109.ntmps an_slices_Clone_byte_byte [Kind.slice] [(.slice s.a s.n s.c)] w (fun s w => K s.1 w) = sh_slices_Clone_byte_byte s w K := by kernel_rfl

theorem call_slices_Clone_byte_byte (s : Slc) {w : World} {K : Slc → World → Prop} (h : sh_slices_Clone_byte_byte s w K) : c_slices_Clone_byte_byte s w K := by
  rw [← vc_slices_Clone_byte_byte] at h
  refine Calls.mono (calls_of_vc C.plain_ok C.mixed Tryz.func109 rfl h) ?_
  rintro e w' ⟨s, rfl, hK⟩
  exact ⟨s.1, rfl, hK⟩

/-- phosphor/filter.guess -/
def sh_filter_guess (kind : Int) (i : Int) (row : Slc) (ahead : Slc) (step : Int) (w : World) (K : Int → World → Prop) : Prop :=
  joinP (σ := Int × Unit) (fun s w1 =>
    joinP (σ := Int × Int × Unit) (fun s_1 w2 =>
      cond (kind == (3 : Int))
        ((2 : Int) ≠ 0 ∧
         K (IntKind.u8.wrap (IntKind.i64.wrap ((IntKind.i64.wrap ((IntKind.i64.wrap s.1) + (IntKind.i64.wrap s_1.1))).tdiv (2 : Int)))) w2)
        (cond (kind == (4 : Int))
           (c_filter_Paeth s.1 s_1.1 s_1.2.1 w2 fun t59 w3 =>
            K t59 w3)
           (cond (kind == (2 : Int))
              (K s_1.1 w2)
              (cond (kind == (1 : Int))
                 (K s.1 w2)
                 (K 0 w2))))) fun J2 =>
    cond (decide (i < ((ahead.n : Nat) : Int)))
      (ixK ahead i 1 fun t29 =>
       ldI .u8 t29 w1 fun t30 =>
       cond (decide (i ≥ step))
         (ixK ahead (IntKind.i64.wrap (i - step)) 1 fun t38 =>
          ldI .u8 t38 w1 fun t39 =>
          J2 (t30, t39, ()) w1)
         (J2 (t30, 0, ()) w1))
      (J2 (0, 0, ()) w1)) fun J1 =>
  cond (decide (i ≥ step))
    (ixK row (IntKind.i64.wrap (i - step)) 1 fun t21 =>
     ldI .u8 t21 w fun t22 =>
     J1 (t22, ()) w)
    (J1 (0, ()) w)

def an_filter_guess : List Ann := [.none, .none, .join [(11, (Kind.int .u8))] [11, 14, 15, 16, 17, 18, 19, 20, 21, 22], .none, .join [(12, (Kind.int .u8)), (13, (Kind.int .u8))] [12, 13, 23, 24, 25, 26, 27, 28, 29, 30, 31, 32, 33, 34, 35, 36, 37, 38, 39], .none, .none, .none, .none, .none, .none, .none, .none, .none, .none, .none, .none, .none, .none, .none, .none, .none, .none, .none, .none, .none, .none, .none, .none]

theorem vc_filter_guess (kind : Int) (i : Int) (row : Slc) (ahead : Slc) (step : Int) (w : World) (K : Int → World → Prop) :
    vcFn C (Tryz.f110.body.getD .skip) Tryz.f110.results.toList Tryz.f110.ntmps an_filter_guess [(Kind.int .u8)] [(.int .i64 kind), (.int .i64 i), (.slice row.a row.n row.c), (.slice ahead.a ahead.n ahead.c), (.int .i64 step)] w (fun s w => K s.1 w) = sh_filter_guess kind i row ahead step w K := by kernel_rfl

theorem call_filter_guess (kind : Int) (i : Int) (row : Slc) (ahead : Slc) (step : Int) {w : World} {K : Int → World → Prop} (h : sh_filter_guess kind i row ahead step w K) : c_filter_guess kind i row ahead step w K := by
  rw [← vc_filter_guess] at h
  refine Calls.mono (calls_of_vc C.plain_ok C.mixed Tryz.func110 rfl h) ?_
  rintro e w' ⟨s, rfl, hK⟩
  exact ⟨s.1, rfl, hK⟩

/-- (*phosphor/png.file).take -/
def sh_png_file_take (f : Option Addr) (c : T_png_Chunk) (w : World) (K : Int → World → Prop) : Prop :=
  nw ty_png_Chunk (T_png_Chunk.rep.cells c) w fun c_1 w1 =>
  onPtr f fun t8 =>
  ldB (t8.add 11) w1 fun t10 =>
  ldStr (c_1.add 0) w1 fun t13 =>
  onPtr f fun t15 =>
  stK (t15.add 11) [(.bool (t13.toList == (⟨#[73, 68, 65, 84]⟩ : ByteArray).toList))] w1 fun w2 =>
  joinP (σ := Bool × Unit) (fun s w3 =>
    cond (!s.1)
      (K 3 w3)
      (K 0 w3)) fun J1 =>
  ldStr (c_1.add 0) w2 fun t18 =>
  cond (t18.toList == (⟨#[73, 72, 68, 82]⟩ : ByteArray).toList)
    (J1 (false, ()) w2)
    (cond (t18.toList == (⟨#[80, 76, 84, 69]⟩ : ByteArray).toList)
       (ldSl (c_1.add 1) w2 fun t29 =>
        c_png_file_colors f t29 w2 fun t30 w4 =>
        J1 (t30, ()) w4)
       (cond (t18.toList == (⟨#[116, 82, 78, 83]⟩ : ByteArray).toList)
          (ldSl (c_1.add 1) w2 fun t35 =>
           c_png_file_clear f t35 w2 fun t36 w5 =>
           J1 (t36, ()) w5)
          (cond (t18.toList == (⟨#[73, 68, 65, 84]⟩ : ByteArray).toList)
             (joinP (σ := Bool × Unit) (fun s_1 w6 =>
                onPtr f fun t48 =>
                stK (t48.add 10) [(.bool true)] w6 fun w7 =>
                onPtr f fun t52 =>
                ldSl (t52.add 9) w7.drew fun t54 =>
                ldSl (c_1.add 1) w7.drew fun t56 =>
                apK PG #[ty_sl_uint8, ty_sl_uint8] ty_sl_uint8 t54 t56 w7.drew fun t57 w8 =>
                onPtr f fun t58 =>
                stK (t58.add 9) [(.slice t57.a t57.n t57.c)] w8 fun w9 =>
                J1 (s_1.1, ()) w9) fun J2 =>
              onPtr f fun t40 =>
              ldB (t40.add 10) w2 fun t42 =>
              cond (!t42)
                (J2 (true, ()) w2)
                (J2 (t10, ()) w2))
             (cond (t18.toList == (⟨#[73, 69, 78, 68]⟩ : ByteArray).toList)
                (ldSl (c_1.add 1) w2 fun t63 =>
                 J1 ((((t63.n : Nat) : Int) == (0 : Int)), ()) w2)
                (ldStr (c_1.add 0) w2 fun t20 =>
                 ixS t20 0 fun t21 =>
                 cond (decide (t21 ≤ (90 : Int)))
                   (K 8 w2)
                   (J1 (true, ()) w2))))))

def an_png_file_take : List Ann := [.none, .none, .none, .join [(6, Kind.bool)] [4, 6, 17, 18, 19, 20, 21, 22, 23, 24, 25, 26, 27, 28, 29, 30, 31, 32, 33, 34, 35, 36, 37, 38, 39, 40, 41, 42, 43, 44, 45, 46, 47, 48, 49, 50, 51, 52, 53, 54, 55, 56, 57, 58, 59, 60, 61, 62, 63, 64, 65], .none, .none, .none, .none, .none, .join [(6, Kind.bool)] [6, 39, 40, 41, 42, 43, 44, 45, 46], .none, .none, .none, .none, .none, .none, .none, .none]

theorem vc_png_file_take (f : Option Addr) (c : T_png_Chunk) (w : World) (K : Int → World → Prop) :
    vcFn C (Tryz.f111.body.getD .skip) Tryz.f111.results.toList Tryz.f111.ntmps an_png_file_take [(Kind.int .i64)] [(.pointer f), (.agg #[(.string c.Kind), (.slice c.Data.a c.Data.n c.Data.c)])] w (fun s w => K s.1 w) = sh_png_file_take f c w K := by kernel_rfl

theorem call_png_file_take (f : Option Addr) (c : T_png_Chunk) {w : World} {K : Int → World → Prop} (h : sh_png_file_take f c w K) : c_png_file_take f c w K := by
  rw [← vc_png_file_take] at h
  refine Calls.mono (calls_of_vc C.plain_ok C.mixed Tryz.func111 rfl h) ?_
  rintro e w' ⟨s, rfl, hK⟩
  exact ⟨s.1, rfl, hK⟩

/-- (phosphor/png.Head).need$1 -/
def sh_png_Head_need_1 (x_ : T_phosphorref8_Pass) (x__1 : Int) (wx : Int) (c0 : Addr) (c1 : Addr) (w : World) (K : Bool → World → Prop) : Prop :=
  nw ty_filter_Pass (T_phosphorref8_Pass.rep.cells x_) w fun x__2 w1 =>
  ldI .i64 c0 w1.drew fun t9 =>
  ldI .i64 (c1.add 3) w1.drew fun t12 =>
  ldI .i64 (c1.add 2) w1.drew fun t15 =>
  c_png_Samples t12 w1.drew fun t13 w2 =>
  World.cell? w2 (c1.add 2) = some (.int .i64 t15) ∧
  World.cell? w2 c0 = some (.int .i64 t9) ∧
  c_filter_Row wx t13 t15 w2 fun t16 w3 =>
  World.cell? w3 c0 = some (.int .i64 t9) ∧
  stK c0 [(.int .i64 (IntKind.i64.wrap (t9 + (IntKind.i64.wrap ((1 : Int) + t16)))))] w3 fun w4 =>
  K true w4

def an_png_Head_need_1 : List Ann := [.none, .none, .none]

theorem vc_png_Head_need_1 (x_ : T_phosphorref8_Pass) (x__1 : Int) (wx : Int) (c0 : Addr) (c1 : Addr) (w : World) (K : Bool → World → Prop) :
    vcFn C (Tryz.f112.body.getD .skip) Tryz.f112.results.toList Tryz.f112.ntmps an_png_Head_need_1 [Kind.bool] [(.agg #[(.int .i64 x_.X), (.int .i64 x_.Y), (.int .i64 x_.DX), (.int .i64 x_.DY)]), (.int .i64 x__1), (.int .i64 wx), (.pointer (some c0)), (.pointer (some c1))] w (fun s w => K s.1 w) = sh_png_Head_need_1 x_ x__1 wx c0 c1 w K := by kernel_rfl

theorem call_png_Head_need_1 (x_ : T_phosphorref8_Pass) (x__1 : Int) (wx : Int) (c0 : Addr) (c1 : Addr) {w : World} {K : Bool → World → Prop} (h : sh_png_Head_need_1 x_ x__1 wx c0 c1 w K) : c_png_Head_need_1 x_ x__1 wx c0 c1 w K := by
  rw [← vc_png_Head_need_1] at h
  refine Calls.mono (calls_of_vc C.plain_ok C.mixed Tryz.func112 rfl h) ?_
  rintro e w' ⟨s, rfl, hK⟩
  exact ⟨s.1, rfl, hK⟩

/-- phosphor/filter.Row -/
def sh_filter_Row (wx : Int) (samples : Int) (depth : Int) (w : World) (K : Int → World → Prop) : Prop :=
  joinP (σ := Unit) (fun s w1 =>
    (8 : Int) ≠ 0 ∧
    K (IntKind.i64.wrap ((IntKind.i64.wrap ((IntKind.i64.wrap ((IntKind.i64.wrap (wx * samples)) * depth)) + (7 : Int))).tdiv (8 : Int))) w1) fun J1 =>
  cond (decide (wx < (1 : Int)))
    (K 0 w)
    (cond (decide (wx > (16384 : Int)))
       (K 0 w)
       (cond (decide (samples < (1 : Int)))
          (K 0 w)
          (cond (decide (samples > (4 : Int)))
             (K 0 w)
             (c_filter_isDepth depth w fun t23 w2 =>
              cond (!t23)
                (K 0 w2)
                (J1 (()) w2)))))

def an_filter_Row : List Ann := [.none, .join [] [6, 7, 8, 9, 10, 11, 12, 13, 14, 15, 16, 17, 18, 19, 20, 21, 22, 23, 24, 25], .none, .none, .none]

theorem vc_filter_Row (wx : Int) (samples : Int) (depth : Int) (w : World) (K : Int → World → Prop) :
    vcFn C (Tryz.f113.body.getD .skip) Tryz.f113.results.toList Tryz.f113.ntmps an_filter_Row [(Kind.int .i64)] [(.int .i64 wx), (.int .i64 samples), (.int .i64 depth)] w (fun s w => K s.1 w) = sh_filter_Row wx samples depth w K := by kernel_rfl

theorem call_filter_Row (wx : Int) (samples : Int) (depth : Int) {w : World} {K : Int → World → Prop} (h : sh_filter_Row wx samples depth w K) : c_filter_Row wx samples depth w K := by
  rw [← vc_filter_Row] at h
  refine Calls.mono (calls_of_vc C.plain_ok C.mixed Tryz.func113 rfl h) ?_
  rintro e w' ⟨s, rfl, hK⟩
  exact ⟨s.1, rfl, hK⟩

/-- phosphor/zlib.New -/
def sh_zlib_New (most : Int) (w : World) (K : Option Addr → Int → World → Prop) : Prop :=
  c_inflate_New most w fun t8 t8_1 w1 =>
  cond (t8_1 != (0 : Int))
    (K none t8_1 w1)
    (c_sums_NewAdler  w1 fun t15 w2 =>
     nw ty_zlib_Decoder [(.pointer t8), (.slice none 0 0), (.slice none 0 0), (.iface ty_p_sums_Adler (.pointer t15)), (.int .i64 0), (.int .i64 0)] w2 fun t18 w3 =>
     K (some t18) 0 w3)

def an_zlib_New : List Ann := [.none, .none, .none, .none, .none, .none]

theorem vc_zlib_New (most : Int) (w : World) (K : Option Addr → Int → World → Prop) :
    vcFn C (Tryz.f114.body.getD .skip) Tryz.f114.results.toList Tryz.f114.ntmps an_zlib_New [Kind.ptr, (Kind.int .i64)] [(.int .i64 most)] w (fun s w => K s.1 s.2.1 w) = sh_zlib_New most w K := by kernel_rfl

theorem call_zlib_New (most : Int) {w : World} {K : Option Addr → Int → World → Prop} (h : sh_zlib_New most w K) : c_zlib_New most w K := by
  rw [← vc_zlib_New] at h
  refine Calls.mono (calls_of_vc C.plain_ok C.mixed Tryz.func114 rfl h) ?_
  rintro e w' ⟨s, rfl, hK⟩
  exact ⟨s.1, s.2.1, rfl, hK⟩

/-- (*phosphor/zlib.Decoder).Write -/
def sh_zlib_Decoder_Write (d : Option Addr) (b : Slc) (w : World) (K : Slc → Int → World → Prop) : Prop :=
  onPtr d fun t10 =>
  ldI .i64 (t10.add 5) w fun t12 =>
  cond (t12 != (0 : Int))
    (onPtr d fun t15 =>
     ldI .i64 (t15.add 5) w.drew fun t17 =>
     K (⟨none, 0, 0⟩ : Slc) t17 w.drew)
    (loopP (σ := Slc × Unit) (fun I1 s w1 =>
       joinP (σ := Unit) (fun s_1 w2 =>
         ixK s.1 0 1 fun t31 =>
         ldI .u8 t31 w2 fun t32 =>
         c_zlib_Decoder_begin d t32 w2 fun t33 w3 =>
         cond (!t33)
           (c_zlib_Decoder_fail d 3 w3 fun t36 w4 =>
            K (⟨none, 0, 0⟩ : Slc) t36 w4)
           (slK s.1 (some 1) none 1 fun t38 =>
            I1 (t38, ()) w3)) fun J2 =>
       onPtr d fun t19 =>
       ldSl (t19.add 1) w1 fun t21 =>
       cond (decide (((t21.n : Nat) : Int) < (2 : Int)))
         (cond (decide (((s.1.n : Nat) : Int) > (0 : Int)))
            (J2 (()) w1)
            (onPtr d fun t40 =>
             ldP (t40.add 0) w1 fun t42 =>
             c_inflate_Decoder_Given t42 w1 fun t43 w5 =>
             onPtr d fun t46 =>
             ldP (t46.add 0) w5 fun t48 =>
             c_inflate_Decoder_Write t48 s.1 w5 fun t50 t50_1 w6 =>
             cond (t50_1 != (0 : Int))
               (c_zlib_Decoder_fail d t50_1 w6 fun t57 w7 =>
                K (⟨none, 0, 0⟩ : Slc) t57 w7)
               (onPtr d fun t59 =>
                ldR (t59.add 3) w6 fun t61 =>
                callI C t61 "Write" [(.slice t50.a t50.n t50.c)] [(Kind.int .i64), Kind.raw] w6 fun (t63 : Int) (t63_1 : Value) w8 =>
                onPtr d fun t65 =>
                ldP (t65.add 0) w8 fun t67 =>
                c_inflate_Decoder_Done t67 w8 fun t68 w9 =>
                cond (!t68)
                  (K t50 0 w9)
                  (onPtr d fun t73 =>
                   ldP (t73.add 0) w9 fun t75 =>
                   c_inflate_Decoder_Used t75 w9 fun t76 w10 =>
                   slK s.1 (some (if ((s.1.n : Nat) : Int) < (if (0 : Int) > (IntKind.i64.wrap (t76 - t43)) then (0 : Int) else (IntKind.i64.wrap (t76 - t43))) then ((s.1.n : Nat) : Int) else (if (0 : Int) > (IntKind.i64.wrap (t76 - t43)) then (0 : Int) else (IntKind.i64.wrap (t76 - t43))))) none 1 fun t83 =>
                   onPtr d fun t86 =>
                   ldSl (t86.add 2) w10.drew fun t88 =>
                   onPtr d fun t93 =>
                   ldSl (t93.add 2) w10.drew fun t95 =>
                   slK t83 none (some (if (IntKind.i64.wrap ((4 : Int) - ((t95.n : Nat) : Int))) < ((t83.n : Nat) : Int) then (IntKind.i64.wrap ((4 : Int) - ((t95.n : Nat) : Int))) else ((t83.n : Nat) : Int))) 1 fun t99 =>
                   nw ty_sl_uint8 [(.slice t88.a t88.n t88.c), (.slice t99.a t99.n t99.c)] w10.drew fun t100 w11 =>
                   c_slices_Concat_byte_byte (⟨(some t100), 2, 2⟩ : Slc) w11 fun t101 w12 =>
                   onPtr d fun t102 =>
                   stK (t102.add 2) [(.slice t101.a t101.n t101.c)] w12 fun w13 =>
                   joinP (σ := Bool × Unit) (fun s_2 w14 =>
                     cond s_2.1
                       (c_zlib_Decoder_fail d 4 w14 fun t124 w15 =>
                        K (⟨none, 0, 0⟩ : Slc) t124 w15)
                       (K t50 0 w14)) fun J3 =>
                   onPtr d fun t105 =>
                   ldSl (t105.add 2) w13.drew fun t107 =>
                   cond (((t107.n : Nat) : Int) == (4 : Int))
                     (onPtr d fun t112 =>
                      ldSl (t112.add 2) w13.drew fun t114 =>
                      onPtr d fun t117 =>
                      ldR (t117.add 3) w13.drew fun t119 =>
                      c_bits_Big t114 w13.drew fun t115 w16 =>
                      World.cell? w16 (t117.add 3) = some t119 ∧
                      callI C t119 "Sum" [] [(Kind.int .u32)] w16 fun (t120 : Int) w17 =>
                      J3 ((t115 != t120), ()) w17)
                     (J3 (false, ()) w13.drew)))))
         (onPtr d fun t40_1 =>
          ldP (t40_1.add 0) w1 fun t42_1 =>
          c_inflate_Decoder_Given t42_1 w1 fun t43_1 w18 =>
          onPtr d fun t46_1 =>
          ldP (t46_1.add 0) w18 fun t48_1 =>
          c_inflate_Decoder_Write t48_1 s.1 w18 fun t50_2 t50_3 w19 =>
          cond (t50_3 != (0 : Int))
            (c_zlib_Decoder_fail d t50_3 w19 fun t57_1 w20 =>
             K (⟨none, 0, 0⟩ : Slc) t57_1 w20)
            (onPtr d fun t59_1 =>
             ldR (t59_1.add 3) w19 fun t61_1 =>
             callI C t61_1 "Write" [(.slice t50_2.a t50_2.n t50_2.c)] [(Kind.int .i64), Kind.raw] w19 fun (t63_2 : Int) (t63_3 : Value) w21 =>
             onPtr d fun t65_1 =>
             ldP (t65_1.add 0) w21 fun t67_1 =>
             c_inflate_Decoder_Done t67_1 w21 fun t68_1 w22 =>
             cond (!t68_1)
               (K t50_2 0 w22)
               (onPtr d fun t73_1 =>
                ldP (t73_1.add 0) w22 fun t75_1 =>
                c_inflate_Decoder_Used t75_1 w22 fun t76_1 w23 =>
                slK s.1 (some (if ((s.1.n : Nat) : Int) < (if (0 : Int) > (IntKind.i64.wrap (t76_1 - t43_1)) then (0 : Int) else (IntKind.i64.wrap (t76_1 - t43_1))) then ((s.1.n : Nat) : Int) else (if (0 : Int) > (IntKind.i64.wrap (t76_1 - t43_1)) then (0 : Int) else (IntKind.i64.wrap (t76_1 - t43_1))))) none 1 fun t83_1 =>
                onPtr d fun t86_1 =>
                ldSl (t86_1.add 2) w23.drew fun t88_1 =>
                onPtr d fun t93_1 =>
                ldSl (t93_1.add 2) w23.drew fun t95_1 =>
                slK t83_1 none (some (if (IntKind.i64.wrap ((4 : Int) - ((t95_1.n : Nat) : Int))) < ((t83_1.n : Nat) : Int) then (IntKind.i64.wrap ((4 : Int) - ((t95_1.n : Nat) : Int))) else ((t83_1.n : Nat) : Int))) 1 fun t99_1 =>
                nw ty_sl_uint8 [(.slice t88_1.a t88_1.n t88_1.c), (.slice t99_1.a t99_1.n t99_1.c)] w23.drew fun t100_1 w24 =>
                c_slices_Concat_byte_byte (⟨(some t100_1), 2, 2⟩ : Slc) w24 fun t101_1 w25 =>
                onPtr d fun t102_1 =>
                stK (t102_1.add 2) [(.slice t101_1.a t101_1.n t101_1.c)] w25 fun w26 =>
                joinP (σ := Bool × Unit) (fun s_3 w27 =>
                  cond s_3.1
                    (c_zlib_Decoder_fail d 4 w27 fun t124_1 w28 =>
                     K (⟨none, 0, 0⟩ : Slc) t124_1 w28)
                    (K t50_2 0 w27)) fun J4 =>
                onPtr d fun t105_1 =>
                ldSl (t105_1.add 2) w26.drew fun t107_1 =>
                cond (((t107_1.n : Nat) : Int) == (4 : Int))
                  (onPtr d fun t112_1 =>
                   ldSl (t112_1.add 2) w26.drew fun t114_1 =>
                   onPtr d fun t117_1 =>
                   ldR (t117_1.add 3) w26.drew fun t119_1 =>
                   c_bits_Big t114_1 w26.drew fun t115_1 w29 =>
                   World.cell? w29 (t117_1.add 3) = some t119_1 ∧
                   callI C t119_1 "Sum" [] [(Kind.int .u32)] w29 fun (t120_1 : Int) w30 =>
                   J4 ((t115_1 != t120_1), ()) w30)
                  (J4 (false, ()) w26.drew))))) (b, ()) w)

def an_zlib_Decoder_Write : List Ann := [.none, .none, .none, .none, .none, .join [(1, Kind.slice)] [1, 4, 5, 18, 19, 20, 21, 22, 23, 24, 25, 26, 27, 28, 29, 30, 31, 32, 33, 34, 35, 36, 37, 38], .join [] [18, 19, 20, 21, 22, 23, 24, 25, 26, 27, 28], .none, .none, .none, .none, .none, .none, .none, .none, .none, .none, .none, .none, .none, .none, .none, .none, .join [(122, Kind.bool)] [104, 105, 106, 107, 108, 109, 110, 111, 112, 113, 114, 115, 116, 117, 118, 119, 120, 121, 122], .none, .none]

theorem vc_zlib_Decoder_Write (d : Option Addr) (b : Slc) (w : World) (K : Slc → Int → World → Prop) :
    vcFn C (Tryz.f115.body.getD .skip) Tryz.f115.results.toList Tryz.f115.ntmps an_zlib_Decoder_Write [Kind.slice, (Kind.int .i64)] [(.pointer d), (.slice b.a b.n b.c)] w (fun s w => K s.1 s.2.1 w) = sh_zlib_Decoder_Write d b w K := by kernel_rfl

theorem call_zlib_Decoder_Write (d : Option Addr) (b : Slc) {w : World} {K : Slc → Int → World → Prop} (h : sh_zlib_Decoder_Write d b w K) : c_zlib_Decoder_Write d b w K := by
  rw [← vc_zlib_Decoder_Write] at h
  refine Calls.mono (calls_of_vc C.plain_ok C.mixed Tryz.func115 rfl h) ?_
  rintro e w' ⟨s, rfl, hK⟩
  exact ⟨s.1, s.2.1, rfl, hK⟩

/-- (*phosphor/zlib.Decoder).Done -/
def sh_zlib_Decoder_Done (d : Option Addr) (w : World) (K : Bool → World → Prop) : Prop :=
  onPtr d fun t4 =>
  ldI .i64 (t4.add 5) w fun t6 =>
  cond (t6 == (0 : Int))
    (onPtr d fun t10 =>
     ldSl (t10.add 2) w fun t12 =>
     K (((t12.n : Nat) : Int) == (4 : Int)) w)
    (K false w)

def an_zlib_Decoder_Done : List Ann := [.none, .none]

theorem vc_zlib_Decoder_Done (d : Option Addr) (w : World) (K : Bool → World → Prop) :
    vcFn C (Tryz.f116.body.getD .skip) Tryz.f116.results.toList Tryz.f116.ntmps an_zlib_Decoder_Done [Kind.bool] [(.pointer d)] w (fun s w => K s.1 w) = sh_zlib_Decoder_Done d w K := by kernel_rfl

theorem call_zlib_Decoder_Done (d : Option Addr) {w : World} {K : Bool → World → Prop} (h : sh_zlib_Decoder_Done d w K) : c_zlib_Decoder_Done d w K := by
  rw [← vc_zlib_Decoder_Done] at h
  refine Calls.mono (calls_of_vc C.plain_ok C.mixed Tryz.func116 rfl h) ?_
  rintro e w' ⟨s, rfl, hK⟩
  exact ⟨s.1, rfl, hK⟩

/-- (*phosphor/zlib.Decoder).Used -/
def sh_zlib_Decoder_Used (d : Option Addr) (w : World) (K : Int → World → Prop) : Prop :=
  onPtr d fun t4 =>
  ldSl (t4.add 1) w.drew fun t6 =>
  onPtr d fun t9 =>
  ldP (t9.add 0) w.drew fun t11 =>
  onPtr d fun t15 =>
  ldSl (t15.add 2) w.drew fun t17 =>
  c_inflate_Decoder_Used t11 w.drew fun t12 w1 =>
  World.cell? w1 (t15.add 2) = some (.slice t17.a t17.n t17.c) ∧
  World.cell? w1 (t4.add 1) = some (.slice t6.a t6.n t6.c) ∧
  K (IntKind.i64.wrap ((IntKind.i64.wrap (((t6.n : Nat) : Int) + t12)) + ((t17.n : Nat) : Int))) w1

def an_zlib_Decoder_Used : List Ann := [.none, .none]

theorem vc_zlib_Decoder_Used (d : Option Addr) (w : World) (K : Int → World → Prop) :
    vcFn C (Tryz.f117.body.getD .skip) Tryz.f117.results.toList Tryz.f117.ntmps an_zlib_Decoder_Used [(Kind.int .i64)] [(.pointer d)] w (fun s w => K s.1 w) = sh_zlib_Decoder_Used d w K := by kernel_rfl

theorem call_zlib_Decoder_Used (d : Option Addr) {w : World} {K : Int → World → Prop} (h : sh_zlib_Decoder_Used d w K) : c_zlib_Decoder_Used d w K := by
  rw [← vc_zlib_Decoder_Used] at h
  refine Calls.mono (calls_of_vc C.plain_ok C.mixed Tryz.func117 rfl h) ?_
  rintro e w' ⟨s, rfl, hK⟩
  exact ⟨s.1, rfl, hK⟩

/-- phosphor/pixel.New -/
def sh_pixel_New (wx : Int) (hx : Int) (w : World) (K : T_api_Matrix → Int → World → Prop) : Prop :=
  nw ty_api_Matrix [(.int .i64 0), (.int .i64 0), (.slice none 0 0)] w fun t4 w1 =>
  c_pixel_size wx hx w1 fun t8 w2 =>
  cond (!t8)
    (stK t4 [(.int .i64 0), (.int .i64 0), (.slice none 0 0)] w2 fun w3 =>
     ldS T_api_Matrix.rep t4 w3 fun r =>
     K r 1 w3)
    (mkSl PG ty_sl_uint8 (.int .i64 (IntKind.i64.wrap ((IntKind.i64.wrap ((4 : Int) * wx)) * hx))) (.int .i64 (IntKind.i64.wrap ((IntKind.i64.wrap ((4 : Int) * wx)) * hx))) w2 fun t17 w4 =>
     stK t4 [(.int .i64 wx), (.int .i64 hx), (.slice t17.a t17.n t17.c)] w4 fun w5 =>
     ldS T_api_Matrix.rep t4 w5 fun r_1 =>
     K r_1 0 w5)

def an_pixel_New : List Ann := [.none, .none, .none, .none, .none]

theorem vc_pixel_New (wx : Int) (hx : Int) (w : World) (K : T_api_Matrix → Int → World → Prop) :
    vcFn C (Tryz.f118.body.getD .skip) Tryz.f118.results.toList Tryz.f118.ntmps an_pixel_New [(Kind.struct T_api_Matrix.rep), (Kind.int .i64)] [(.int .i64 wx), (.int .i64 hx)] w (fun s w => K s.1 s.2.1 w) = sh_pixel_New wx hx w K := by kernel_rfl

theorem call_pixel_New (wx : Int) (hx : Int) {w : World} {K : T_api_Matrix → Int → World → Prop} (h : sh_pixel_New wx hx w K) : c_pixel_New wx hx w K := by
  rw [← vc_pixel_New] at h
  refine Calls.mono (calls_of_vc C.plain_ok C.mixed Tryz.func118 rfl h) ?_
  rintro e w' ⟨s, rfl, hK⟩
  exact ⟨s.1, s.2.1, rfl, hK⟩

/-- (*phosphor/png.file).pixels$1 -/
def sh_png_file_pixels_1 (p : T_phosphorref8_Pass) (y : Int) (wx : Int) (c0 : Addr) (c1 : Addr) (c2 : Addr) (c3 : Addr) (c4 : Addr) (c5 : Addr) (w : World) (K : Bool → World → Prop) : Prop :=
  nw ty_filter_Pass (T_phosphorref8_Pass.rep.cells p) w fun p_1 w1 =>
  ldI .i64 c0 w1.drew fun t22 =>
  ldP c1 w1.drew fun t23 =>
  onPtr t23 fun t24 =>
  ldI .i64 ((t24.add 0).add 2) w1.drew fun t27 =>
  c_filter_Row wx t22 t27 w1.drew fun t28 w2 =>
  joinP (σ := Unit) (fun s w3 =>
    ldSl c3 w3.drew fun t32 =>
    ixK t32 0 1 fun t33 =>
    ldI .u8 t33 w3.drew fun t34 =>
    ldSl c3 w3.drew fun t36 =>
    slK t36 (some 1) (some (IntKind.i64.wrap ((1 : Int) + t28))) 1 fun t39 =>
    ldSl c2 w3.drew fun t40 =>
    ldI .i64 c4 w3.drew fun t41 =>
    c_filter_Undo (IntKind.i64.wrap t34) t39 t40 t41 w3.drew fun t42 t42_1 w4 =>
    cond (t42_1 != (0 : Int))
      (K false w4)
      (ldSl c3 w4 fun t47 =>
       slK t47 (some (IntKind.i64.wrap ((1 : Int) + t28))) none 1 fun t50 =>
       stK c3 [(.slice t50.a t50.n t50.c)] w4 fun w5 =>
       stK c2 [(.slice t42.a t42.n t42.c)] w5 fun w6 =>
       ldP c1 w6.drew fun t54 =>
       onPtr t54 fun t55 =>
       ldI .i64 ((t55.add 0).add 2) w6.drew fun t58 =>
       ldI .i64 c0 w6.drew fun t59 =>
       c_filter_Samples t42 t58 (IntKind.i64.wrap (t59 * wx)) w6.drew fun t62 t62_1 w7 =>
       loopP (σ := Int × Unit) (fun I2 s_1 w8 =>
         cond (decide (s_1.1 < wx))
           (ldP c1 w8.drew fun t70 =>
            ldI .i64 c0 w8.drew fun t72 =>
            ldI .i64 c0 w8.drew fun t75 =>
            ldI .i64 c0 w8.drew fun t78 =>
            slK t62 (some (IntKind.i64.wrap (t72 * s_1.1))) (some (IntKind.i64.wrap ((IntKind.i64.wrap (t75 * s_1.1)) + t78))) 1 fun t80 =>
              (c_png_file_color t70 t80 w8.drew fun t81 t81_1 w9 =>
               nw ty_pixel_Color [(.int .u8 0), (.int .u8 0), (.int .u8 0), (.int .u8 0)] w9 fun c w10 =>
               World.cell? w10 c0 = some (.int .i64 t78) ∧
               World.cell? w10 c0 = some (.int .i64 t75) ∧
               World.cell? w10 c0 = some (.int .i64 t72) ∧
               World.cell? w10 c1 = some (.pointer t70) ∧
               stK c (T_pixel_Color.rep.cells t81) w10 fun w11 =>
               cond (!t81_1)
                 (K false w11)
                 (ldSl (c5.add 2) w11.drew fun t87 =>
                  ldI .i64 (p_1.add 1) w11.drew fun t89 =>
                  ldI .i64 (p_1.add 3) w11.drew fun t92 =>
                  ldP c1 w11.drew fun t95 =>
                  onPtr t95 fun t96 =>
                  ldI .i64 ((t96.add 0).add 0) w11.drew fun t99 =>
                  ldI .i64 (p_1.add 0) w11.drew fun t102 =>
                  ldI .i64 (p_1.add 2) w11.drew fun t106 =>
                  slK t87 (some (IntKind.i64.wrap ((4 : Int) * (IntKind.i64.wrap ((IntKind.i64.wrap ((IntKind.i64.wrap ((IntKind.i64.wrap (t89 + (IntKind.i64.wrap (y * t92)))) * t99)) + t102)) + (IntKind.i64.wrap (s_1.1 * t106))))))) none 1 fun t110 =>
                  slA c 4 none none 1 fun t111 =>
                  runK1 PG (Builtin.copy_ #[ty_sl_uint8, ty_sl_uint8] ty_int #[(.slice t110.a t110.n t110.c), (.slice t111.a t111.n t111.c)]) (Kind.int .i64) w11.drew fun (t112 : Int) w12 =>
                  I2 ((IntKind.i64.wrap (s_1.1 + (1 : Int))), ()) w12)) ∧
            nw ty_pixel_Color [(.int .u8 0), (.int .u8 0), (.int .u8 0), (.int .u8 0)] w8.drew fun c_1 w13 =>
            World.cell? w13 c0 = some (.int .i64 t78) ∧
            World.cell? w13 c0 = some (.int .i64 t75) ∧
            World.cell? w13 c0 = some (.int .i64 t72) ∧
            World.cell? w13 c1 = some (.pointer t70) ∧
            c_png_file_color t70 t80 w13 fun t81_2 t81_3 w14 =>
            stK c_1 (T_pixel_Color.rep.cells t81_2) w14 fun w15 =>
            cond (!t81_3)
              (K false w15)
              (ldSl (c5.add 2) w15.drew fun t87_1 =>
               ldI .i64 (p_1.add 1) w15.drew fun t89_1 =>
               ldI .i64 (p_1.add 3) w15.drew fun t92_1 =>
               ldP c1 w15.drew fun t95_1 =>
               onPtr t95_1 fun t96_1 =>
               ldI .i64 ((t96_1.add 0).add 0) w15.drew fun t99_1 =>
               ldI .i64 (p_1.add 0) w15.drew fun t102_1 =>
               ldI .i64 (p_1.add 2) w15.drew fun t106_1 =>
               slK t87_1 (some (IntKind.i64.wrap ((4 : Int) * (IntKind.i64.wrap ((IntKind.i64.wrap ((IntKind.i64.wrap ((IntKind.i64.wrap (t89_1 + (IntKind.i64.wrap (y * t92_1)))) * t99_1)) + t102_1)) + (IntKind.i64.wrap (s_1.1 * t106_1))))))) none 1 fun t110_1 =>
               slA c_1 4 none none 1 fun t111_1 =>
               runK1 PG (Builtin.copy_ #[ty_sl_uint8, ty_sl_uint8] ty_int #[(.slice t110_1.a t110_1.n t110_1.c), (.slice t111_1.a t111_1.n t111_1.c)]) (Kind.int .i64) w15.drew fun (t112_1 : Int) w16 =>
               I2 ((IntKind.i64.wrap (s_1.1 + (1 : Int))), ()) w16))
           (K true w8)) (0, ()) w7)) fun J1 =>
  cond (y == (0 : Int))
    (stK c2 [(.slice none 0 0)] w2 fun w17 =>
     J1 (()) w17)
    (J1 (()) w2)

def an_png_file_pixels_1 : List Ann := [.none, .none, .join [] [29, 30], .none, .none, .none, .none, .none, .none, .none, .none, .none, .join [(66, (Kind.int .i64))] [12, 18, 19, 20, 66, 67, 68, 69, 70, 71, 72, 73, 74, 75, 76, 77, 78, 79, 80, 81, 82, 83, 84, 85, 86, 87, 88, 89, 90, 91, 92, 93, 94, 95, 96, 97, 98, 99, 100, 101, 102, 103, 104, 105, 106, 107, 108, 109, 110, 111, 112, 113], .none, .none, .none, .none, .none, .none, .none, .none, .none]

theorem vc_png_file_pixels_1 (p : T_phosphorref8_Pass) (y : Int) (wx : Int) (c0 : Addr) (c1 : Addr) (c2 : Addr) (c3 : Addr) (c4 : Addr) (c5 : Addr) (w : World) (K : Bool → World → Prop) :
    vcFn C (Tryz.f119.body.getD .skip) Tryz.f119.results.toList Tryz.f119.ntmps an_png_file_pixels_1 [Kind.bool] [(.agg #[(.int .i64 p.X), (.int .i64 p.Y), (.int .i64 p.DX), (.int .i64 p.DY)]), (.int .i64 y), (.int .i64 wx), (.pointer (some c0)), (.pointer (some c1)), (.pointer (some c2)), (.pointer (some c3)), (.pointer (some c4)), (.pointer (some c5))] w (fun s w => K s.1 w) = sh_png_file_pixels_1 p y wx c0 c1 c2 c3 c4 c5 w K := by kernel_rfl

theorem call_png_file_pixels_1 (p : T_phosphorref8_Pass) (y : Int) (wx : Int) (c0 : Addr) (c1 : Addr) (c2 : Addr) (c3 : Addr) (c4 : Addr) (c5 : Addr) {w : World} {K : Bool → World → Prop} (h : sh_png_file_pixels_1 p y wx c0 c1 c2 c3 c4 c5 w K) : c_png_file_pixels_1 p y wx c0 c1 c2 c3 c4 c5 w K := by
  rw [← vc_png_file_pixels_1] at h
  refine Calls.mono (calls_of_vc C.plain_ok C.mixed Tryz.func119 rfl h) ?_
  rintro e w' ⟨s, rfl, hK⟩
  exact ⟨s.1, rfl, hK⟩

/-- phosphor/filter.Undo -/
def sh_filter_Undo (kind : Int) (row : Slc) (ahead : Slc) (step : Int) (w : World) (K : Slc → Int → World → Prop) : Prop :=
  c_filter_check kind row ahead step w fun t16 w1 =>
  cond (!t16)
    (K (⟨none, 0, 0⟩ : Slc) 1 w1)
    (c_slices_Clone_byte_byte row w1 fun t19 w2 =>
     loopP (σ := Int × Unit) (fun I1 s w3 =>
       cond (decide (s.1 < ((t19.n : Nat) : Int)))
         (ixK t19 s.1 1 fun t27 =>
          ldI .u8 t27 w3.drew fun t28 =>
          c_filter_guess kind s.1 t19 ahead step w3.drew fun t34 w4 =>
          World.cell? w4 t27 = some (.int .u8 t28) ∧
          ixK t19 s.1 1 fun t36 =>
          stK t36 [(.int .u8 (IntKind.u8.wrap (t28 + t34)))] w4 fun w5 =>
          I1 ((IntKind.i64.wrap (s.1 + (1 : Int))), ()) w5)
         (K t19 0 w3)) (0, ()) w2)

def an_filter_Undo : List Ann := [.none, .none, .none, .none, .none, .none, .none, .join [(22, (Kind.int .i64))] [11, 22, 23, 24, 25, 26, 27, 28, 29, 30, 31, 32, 33, 34, 35, 36, 37], .none, .none, .none, .none, .none]

theorem vc_filter_Undo (kind : Int) (row : Slc) (ahead : Slc) (step : Int) (w : World) (K : Slc → Int → World → Prop) :
    vcFn C (Tryz.f120.body.getD .skip) Tryz.f120.results.toList Tryz.f120.ntmps an_filter_Undo [Kind.slice, (Kind.int .i64)] [(.int .i64 kind), (.slice row.a row.n row.c), (.slice ahead.a ahead.n ahead.c), (.int .i64 step)] w (fun s w => K s.1 s.2.1 w) = sh_filter_Undo kind row ahead step w K := by kernel_rfl

theorem call_filter_Undo (kind : Int) (row : Slc) (ahead : Slc) (step : Int) {w : World} {K : Slc → Int → World → Prop} (h : sh_filter_Undo kind row ahead step w K) : c_filter_Undo kind row ahead step w K := by
  rw [← vc_filter_Undo] at h
  refine Calls.mono (calls_of_vc C.plain_ok C.mixed Tryz.func120 rfl h) ?_
  rintro e w' ⟨s, rfl, hK⟩
  exact ⟨s.1, s.2.1, rfl, hK⟩

/-- phosphor/filter.Samples -/
def sh_filter_Samples (row : Slc) (depth : Int) (n : Int) (w : World) (K : Slc → Int → World → Prop) : Prop :=
  joinP (σ := Unit) (fun s w1 =>
    mkSl PG ty_sl_int (.int .i64 n) (.int .i64 n) w1 fun t28 w2 =>
    loopP (σ := Int × Unit) (fun I2 s_1 w3 =>
      cond (decide (s_1.1 < ((t28.n : Nat) : Int)))
        (cond (depth == (16 : Int))
           (ixK row (IntKind.i64.wrap ((2 : Int) * s_1.1)) 1 fun t41 =>
            ldI .u8 t41 w3.drew fun t42 =>
            0 ≤ (8 : Int) ∧
            ixK row (IntKind.i64.wrap ((IntKind.i64.wrap ((2 : Int) * s_1.1)) + (1 : Int))) 1 fun t49 =>
            ldI .u8 t49 w3.drew fun t50 =>
            ixK t28 s_1.1 1 fun t53 =>
            stK t53 [(.int .i64 (bitsR .or .i64 (IntKind.i64.wrap ((IntKind.i64.wrap t42) * 2 ^ (min (8 : Int).toNat IntKind.i64.bits))) (IntKind.i64.wrap t50)))] w3.drew fun w4 =>
            I2 ((IntKind.i64.wrap (s_1.1 + (1 : Int))), ()) w4)
           ((8 : Int) ≠ 0 ∧
            ixK row (IntKind.i64.wrap ((IntKind.i64.wrap (s_1.1 * depth)).tdiv (8 : Int))) 1 fun t62 =>
            ldI .u8 t62 w3.drew fun t63 =>
            (8 : Int) ≠ 0 ∧
            0 ≤ (IntKind.i64.wrap ((IntKind.i64.wrap ((8 : Int) - depth)) - ((IntKind.i64.wrap (s_1.1 * depth)).tmod (8 : Int)))) ∧
            0 ≤ depth ∧
            ixK t28 s_1.1 1 fun t75 =>
            stK t75 [(.int .i64 (bitsR .and .i64 ((IntKind.i64.wrap t63).fdiv (2 ^ (min (IntKind.i64.wrap ((IntKind.i64.wrap ((8 : Int) - depth)) - ((IntKind.i64.wrap (s_1.1 * depth)).tmod (8 : Int)))).toNat IntKind.i64.bits))) (IntKind.i64.wrap ((IntKind.i64.wrap ((1 : Int) * 2 ^ (min depth.toNat IntKind.i64.bits))) - (1 : Int)))))] w3.drew fun w5 =>
            I2 ((IntKind.i64.wrap (s_1.1 + (1 : Int))), ()) w5))
        (K t28 0 w3)) (0, ()) w2) fun J1 =>
  joinP (σ := Bool × Unit) (fun s_2 w6 =>
    cond s_2.1
      (K (⟨none, 0, 0⟩ : Slc) 1 w6)
      (depth ≠ 0 ∧
       cond (decide (n > (IntKind.i64.wrap ((IntKind.i64.wrap ((8 : Int) * ((row.n : Nat) : Int))).tdiv depth))))
         (K (⟨none, 0, 0⟩ : Slc) 2 w6)
         (J1 (()) w6))) fun J3 =>
  c_filter_isDepth depth w fun t13 w7 =>
  cond (!t13)
    (J3 (true, ()) w7)
    (J3 ((decide (n < (0 : Int))), ()) w7)

def an_filter_Samples : List Ann := [.none, .join [] [6, 7, 11, 12, 13, 14, 15, 16, 17, 18, 19, 20, 21, 22, 23, 24, 25, 26], .join [(11, Kind.bool)] [11, 12, 13, 14, 15, 16, 17, 18], .none, .none, .none, .none, .none, .none, .join [(31, (Kind.int .i64))] [9, 10, 31, 32, 33, 34, 35, 36, 37, 38, 39, 40, 41, 42, 43, 44, 45, 46, 47, 48, 49, 50, 51, 52, 53, 54, 55, 56, 57, 58, 59, 60, 61, 62, 63, 64, 65, 66, 67, 68, 69, 70, 71, 72, 73, 74, 75, 76], .none, .none, .none, .none, .none, .none, .none, .none, .none]

theorem vc_filter_Samples (row : Slc) (depth : Int) (n : Int) (w : World) (K : Slc → Int → World → Prop) :
    vcFn C (Tryz.f121.body.getD .skip) Tryz.f121.results.toList Tryz.f121.ntmps an_filter_Samples [Kind.slice, (Kind.int .i64)] [(.slice row.a row.n row.c), (.int .i64 depth), (.int .i64 n)] w (fun s w => K s.1 s.2.1 w) = sh_filter_Samples row depth n w K := by kernel_rfl

theorem call_filter_Samples (row : Slc) (depth : Int) (n : Int) {w : World} {K : Slc → Int → World → Prop} (h : sh_filter_Samples row depth n w K) : c_filter_Samples row depth n w K := by
  rw [← vc_filter_Samples] at h
  refine Calls.mono (calls_of_vc C.plain_ok C.mixed Tryz.func121 rfl h) ?_
  rintro e w' ⟨s, rfl, hK⟩
  exact ⟨s.1, s.2.1, rfl, hK⟩

/-- (*phosphor/png.file).color -/
def sh_png_file_color (f : Option Addr) (s : Slc) (w : World) (K : T_pixel_Color → Bool → World → Prop) : Prop :=
  nw ty_pixel_Color [(.int .u8 0), (.int .u8 0), (.int .u8 0), (.int .u8 0)] w fun t4 w1 =>
  nw ty_pixel_Color [(.int .u8 0), (.int .u8 0), (.int .u8 0), (.int .u8 0)] w1 fun c w2 =>
  stK c [(.int .u8 0), (.int .u8 0), (.int .u8 0), (.int .u8 255)] w2 fun w3 =>
  joinP (σ := Unit) (fun s_1 w4 =>
    joinP (σ := Unit) (fun s_2 w5 =>
      onPtr f fun t127 =>
      ldB (t127.add 8) w5 fun t129 =>
      loopP (σ := Bool × Int × Unit) (fun I3 s_3 w6 =>
        joinP (σ := Unit) (fun s_4 w7 =>
          ixK s s_3.2.1 1 fun t141 =>
          ldI .i64 t141 w7.drew fun t142 =>
          onPtr f fun t144 =>
          ldSl (t144.add 6) w7.drew fun t146 =>
          ixK t146 (IntKind.i64.wrap ((2 : Int) * s_3.2.1)) 1 fun t149 =>
          ldI .u8 t149 w7.drew fun t150 =>
          0 ≤ (8 : Int) ∧
          onPtr f fun t154 =>
          ldSl (t154.add 6) w7.drew fun t156 =>
          ixK t156 (IntKind.i64.wrap ((IntKind.i64.wrap ((2 : Int) * s_3.2.1)) + (1 : Int))) 1 fun t160 =>
          ldI .u8 t160 w7.drew fun t161 =>
          onPtr f fun t165 =>
          ldI .i64 ((t165.add 0).add 2) w7.drew fun t168 =>
          0 ≤ t168 ∧
          I3 ((t142 == (bitsR .and .i64 (bitsR .or .i64 (IntKind.i64.wrap ((IntKind.i64.wrap t150) * 2 ^ (min (8 : Int).toNat IntKind.i64.bits))) (IntKind.i64.wrap t161)) (IntKind.i64.wrap ((IntKind.i64.wrap ((1 : Int) * 2 ^ (min t168.toNat IntKind.i64.bits))) - (1 : Int))))), (IntKind.i64.wrap (s_3.2.1 + (1 : Int))), ()) w7.drew) fun J4 =>
        cond (decide (s_3.2.1 < ((s.n : Nat) : Int)))
          (cond s_3.1
             (J4 (()) w6)
             (cond s_3.1
                (ixA c 4 3 1 fun t174 =>
                 stK t174 [(.int .u8 0)] w6 fun w8 =>
                 ldS T_pixel_Color.rep c w8 fun t175 =>
                 stK t4 (T_pixel_Color.rep.cells t175) w8 fun w9 =>
                 ldS T_pixel_Color.rep t4 w9 fun r =>
                 K r true w9)
                (ldS T_pixel_Color.rep c w6 fun t175_1 =>
                 stK t4 (T_pixel_Color.rep.cells t175_1) w6 fun w10 =>
                 ldS T_pixel_Color.rep t4 w10 fun r_1 =>
                 K r_1 true w10)))
          (cond s_3.1
             (ixA c 4 3 1 fun t174_1 =>
              stK t174_1 [(.int .u8 0)] w6 fun w11 =>
              ldS T_pixel_Color.rep c w11 fun t175_2 =>
              stK t4 (T_pixel_Color.rep.cells t175_2) w11 fun w12 =>
              ldS T_pixel_Color.rep t4 w12 fun r_2 =>
              K r_2 true w12)
             (ldS T_pixel_Color.rep c w6 fun t175_3 =>
              stK t4 (T_pixel_Color.rep.cells t175_3) w6 fun w13 =>
              ldS T_pixel_Color.rep t4 w13 fun r_3 =>
              K r_3 true w13))) (t129, 0, ()) w5) fun J2 =>
    joinP (σ := Bool × Unit) (fun s_5 w14 =>
      cond s_5.1
        (onPtr f fun t115 =>
         ldS T_png_Head.rep (t115.add 0) w14.drew fun t117 =>
         ixK s (IntKind.i64.wrap (((s.n : Nat) : Int) - (1 : Int))) 1 fun t122 =>
         ldI .i64 t122 w14.drew fun t123 =>
         c_png_Head_eight t117 t123 w14.drew fun t124 w15 =>
         ixA c 4 3 1 fun t125 =>
         stK t125 [(.int .u8 t124)] w15 fun w16 =>
         J2 (()) w16)
        (J2 (()) w14)) fun J5 =>
    onPtr f fun t101 =>
    ldI .i64 ((t101.add 0).add 3) w4 fun t104 =>
    cond (t104 == (4 : Int))
      (J5 (true, ()) w4)
      (onPtr f fun t108 =>
       ldI .i64 ((t108.add 0).add 3) w4 fun t111 =>
       J5 ((t111 == (6 : Int)), ()) w4)) fun J1 =>
  onPtr f fun t12 =>
  ldI .i64 ((t12.add 0).add 3) w3 fun t15 =>
  cond (t15 == (3 : Int))
    (ixK s 0 1 fun t44 =>
     ldI .i64 t44 w3.drew fun t45 =>
     onPtr f fun t48 =>
     ldSl (t48.add 5) w3.drew fun t50 =>
     cond (decide ((IntKind.i64.wrap ((3 : Int) * t45)) ≥ ((t50.n : Nat) : Int)))
       (ldS T_pixel_Color.rep c w3.drew fun t53 =>
        stK t4 (T_pixel_Color.rep.cells t53) w3.drew fun w17 =>
        ldS T_pixel_Color.rep t4 w17 fun r_4 =>
        K r_4 false w17)
       (slA c 4 none (some 3) 1 fun t54 =>
        onPtr f fun t56 =>
        ldSl (t56.add 5) w3.drew.drew fun t58 =>
        ixK s 0 1 fun t60 =>
        ldI .i64 t60 w3.drew.drew fun t61 =>
        slK t58 (some (IntKind.i64.wrap ((3 : Int) * t61))) none 1 fun t63 =>
        runK1 PG (Builtin.copy_ #[ty_sl_uint8, ty_sl_uint8] ty_int #[(.slice t54.a t54.n t54.c), (.slice t63.a t63.n t63.c)]) (Kind.int .i64) w3.drew.drew fun (t64 : Int) w18 =>
        ixK s 0 1 fun t66 =>
        ldI .i64 t66 w18.drew fun t67 =>
        onPtr f fun t69 =>
        ldSl (t69.add 6) w18.drew fun t71 =>
        cond (decide (t67 < ((t71.n : Nat) : Int)))
          (onPtr f fun t75 =>
           ldSl (t75.add 6) w18.drew.drew fun t77 =>
           ixK s 0 1 fun t79 =>
           ldI .i64 t79 w18.drew.drew fun t80 =>
           ixK t77 t80 1 fun t81 =>
           ldI .u8 t81 w18.drew.drew fun t82 =>
           ixA c 4 3 1 fun t83 =>
           stK t83 [(.int .u8 t82)] w18.drew.drew fun w19 =>
           ldS T_pixel_Color.rep c w19 fun t84 =>
           stK t4 (T_pixel_Color.rep.cells t84) w19 fun w20 =>
           ldS T_pixel_Color.rep t4 w20 fun r_5 =>
           K r_5 true w20)
          (ldS T_pixel_Color.rep c w18.drew fun t84_1 =>
           stK t4 (T_pixel_Color.rep.cells t84_1) w18.drew fun w21 =>
           ldS T_pixel_Color.rep t4 w21 fun r_6 =>
           K r_6 true w21)))
    (joinP (σ := Bool × Unit) (fun s_6 w22 =>
       cond s_6.1
         (onPtr f fun t89 =>
          ldS T_png_Head.rep (t89.add 0) w22.drew fun t91 =>
          ixK s 0 1 fun t93 =>
          ldI .i64 t93 w22.drew fun t94 =>
          c_png_Head_eight t91 t94 w22.drew fun t95 w23 =>
          stK c [(.int .u8 t95), (.int .u8 t95), (.int .u8 t95), (.int .u8 255)] w23 fun w24 =>
          J1 (()) w24)
         (onPtr f fun t17 =>
          ldS T_png_Head.rep (t17.add 0) w22.drew fun t19 =>
          ixK s 0 1 fun t21 =>
          ldI .i64 t21 w22.drew fun t22 =>
          onPtr f fun t25 =>
          ldS T_png_Head.rep (t25.add 0) w22.drew fun t27 =>
          ixK s 1 1 fun t29 =>
          ldI .i64 t29 w22.drew fun t30 =>
          onPtr f fun t33 =>
          ldS T_png_Head.rep (t33.add 0) w22.drew fun t35 =>
          ixK s 2 1 fun t37 =>
          ldI .i64 t37 w22.drew fun t38 =>
          c_png_Head_eight t19 t22 w22.drew fun t23 w25 =>
          World.cell? w25 t37 = some (.int .i64 t38) ∧
          cellsAt w25 (t33.add 0) (T_png_Head.rep.cells t35) ∧
          World.cell? w25 t29 = some (.int .i64 t30) ∧
          cellsAt w25 (t25.add 0) (T_png_Head.rep.cells t27) ∧
          c_png_Head_eight t27 t30 w25 fun t31 w26 =>
          World.cell? w26 t37 = some (.int .i64 t38) ∧
          cellsAt w26 (t33.add 0) (T_png_Head.rep.cells t35) ∧
          c_png_Head_eight t35 t38 w26 fun t39 w27 =>
          stK c [(.int .u8 t23), (.int .u8 t31), (.int .u8 t39), (.int .u8 255)] w27 fun w28 =>
          J1 (()) w28)) fun J6 =>
     cond (t15 == (0 : Int))
       (J6 ((t15 == (0 : Int)), ()) w3)
       (J6 ((t15 == (4 : Int)), ()) w3))

def an_png_file_color : List Ann := [.none, .none, .join [] [5, 7, 11, 12, 13, 14, 15, 16, 17, 18, 19, 20, 21, 22, 23, 24, 25, 26, 27, 28, 29, 30, 31, 32, 33, 34, 35, 36, 37, 38, 39, 40, 41, 42, 43, 44, 45, 46, 47, 48, 49, 50, 51, 52, 53, 54, 55, 56, 57, 58, 59, 60, 61, 62, 63, 64, 65, 66, 67, 68, 69, 70, 71, 72, 73, 74, 75, 76, 77, 78, 79, 80, 81, 82, 83, 84, 85, 86, 87, 88, 89, 90, 91, 92, 93, 94, 95, 96, 97, 98, 99], .none, .none, .none, .none, .none, .none, .none, .none, .none, .join [(85, Kind.bool)] [85, 86, 87], .none, .none, .join [] [100, 101, 102, 103, 104, 105, 106, 107, 108, 109, 110, 111, 112, 113, 114, 115, 116, 117, 118, 119, 120, 121, 122, 123, 124, 125], .join [(113, Kind.bool)] [100, 101, 102, 103, 104, 105, 106, 107, 108, 109, 110, 111, 112, 113], .none, .none, .none, .join [(8, Kind.bool), (9, (Kind.int .i64))] [8, 9, 130, 131, 132, 133, 134, 135, 136, 137, 138, 139, 140, 141, 142, 143, 144, 145, 146, 147, 148, 149, 150, 151, 152, 153, 154, 155, 156, 157, 158, 159, 160, 161, 162, 163, 164, 165, 166, 167, 168, 169, 170, 171, 172], .join [] [130, 131, 132, 133, 134, 135, 136], .none, .none, .none, .none, .none]

theorem vc_png_file_color (f : Option Addr) (s : Slc) (w : World) (K : T_pixel_Color → Bool → World → Prop) :
    vcFn C (Tryz.f122.body.getD .skip) Tryz.f122.results.toList Tryz.f122.ntmps an_png_file_color [(Kind.struct T_pixel_Color.rep), Kind.bool] [(.pointer f), (.slice s.a s.n s.c)] w (fun s w => K s.1 s.2.1 w) = sh_png_file_color f s w K := by kernel_rfl

theorem call_png_file_color (f : Option Addr) (s : Slc) {w : World} {K : T_pixel_Color → Bool → World → Prop} (h : sh_png_file_color f s w K) : c_png_file_color f s w K := by
  rw [← vc_png_file_color] at h
  refine Calls.mono (calls_of_vc C.plain_ok C.mixed Tryz.func122 rfl h) ?_
  rintro e w' ⟨s, rfl, hK⟩
  exact ⟨s.1, s.2.1, rfl, hK⟩

end Go.Proofs.YtmagnpcgpinmcaaGreat
