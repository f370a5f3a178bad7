/- By program (gen.py): the typed text of the program's functions, part 2. -/
import Derived.Test.YteffnkpplhcomaaDefs
set_option maxRecDepth 100000
set_option linter.unusedVariables false
namespace Go.Proofs.Yteffnkpplhcomaa
open Go.Vc

/-- (*phosphor/phosphorref21.Store).Get -/
def sh_phosphorref21_Store_Get (s : Option Addr) (id : Int) (w : World) (K : T_phosphorref7_Matrix → Bool → World → Prop) : Prop :=
  nw ty_phosphorref7_Matrix [(.int .i64 0), (.int .i64 0), (.slice none 0 0)] w fun t4 w1 =>
  c_phosphorref21_Store_at s id w1 fun t9 w2 =>
  cond (decide (t9 < (0 : Int)))
    (stK t4 [(.int .i64 0), (.int .i64 0), (.slice none 0 0)] w2 fun w3 =>
     ldS T_phosphorref7_Matrix.rep t4 w3 fun r =>
     K r false w3)
    (onPtr s fun t14 =>
     ldSl (t14.add 3) w2 fun t16 =>
     ixK t16 t9 7 fun t18 =>
     ldS T_phosphorref7_Matrix.rep (t18.add 2) w2 fun t20 =>
     stK t4 (T_phosphorref7_Matrix.rep.cells t20) w2 fun w4 =>
     ldS T_phosphorref7_Matrix.rep t4 w4 fun r_1 =>
     K r_1 true w4)

def an_phosphorref21_Store_Get : List Ann := [.none, .none, .none, .none, .none, .none]

theorem vc_phosphorref21_Store_Get (s : Option Addr) (id : Int) (w : World) (K : T_phosphorref7_Matrix → Bool → World → Prop) :
    vcFn C (Try.f83.body.getD .skip) Try.f83.results.toList Try.f83.ntmps an_phosphorref21_Store_Get [(Kind.struct T_phosphorref7_Matrix.rep), Kind.bool] [(.pointer s), (.int .i64 id)] w (fun s w => K s.1 s.2.1 w) = sh_phosphorref21_Store_Get s id w K := by kernel_rfl

theorem call_phosphorref21_Store_Get (s : Option Addr) (id : Int) {w : World} {K : T_phosphorref7_Matrix → Bool → World → Prop} (h : sh_phosphorref21_Store_Get s id w K) : c_phosphorref21_Store_Get s id w K := by
  rw [← vc_phosphorref21_Store_Get] at h
  refine Calls.mono (calls_of_vc C.plain_ok C.mixed Try.func83 rfl h) ?_
  rintro e w' ⟨s, rfl, hK⟩
  exact ⟨s.1, s.2.1, rfl, hK⟩

/-- (*phosphor/phosphorref21.Store).Number -/
def sh_phosphorref21_Store_Number (s : Option Addr) (n : Int) (w : World) (K : Int → Bool → World → Prop) : Prop :=
  loopP (σ := Int × Int × Unit) (fun I1 s_1 w1 =>
    onPtr s fun t10 =>
    ldSl (t10.add 3) w1 fun t12 =>
    cond (decide (s_1.2.1 < ((t12.n : Nat) : Int)))
      (cond (n != (0 : Int))
         (onPtr s fun t21 =>
          ldSl (t21.add 3) w1.drew fun t23 =>
          ixK t23 s_1.2.1 7 fun t25 =>
          ldI .i64 (t25.add 1) w1.drew fun t27 =>
          cond (t27 == n)
            (cond (decide (s_1.1 < (0 : Int)))
               (I1 (s_1.2.1, (IntKind.i64.wrap (s_1.2.1 + (1 : Int))), ()) w1.drew)
               (onPtr s fun t36 =>
                ldSl (t36.add 3) w1.drew fun t38 =>
                ixK t38 s_1.2.1 7 fun t40 =>
                ldI .i64 (t40.add 6) w1.drew fun t42 =>
                onPtr s fun t44 =>
                ldSl (t44.add 3) w1.drew fun t46 =>
                ixK t46 s_1.1 7 fun t48 =>
                ldI .i64 (t48.add 6) w1.drew fun t50 =>
                cond (decide (t42 > t50))
                  (I1 (s_1.2.1, (IntKind.i64.wrap (s_1.2.1 + (1 : Int))), ()) w1.drew)
                  (I1 (s_1.1, (IntKind.i64.wrap (s_1.2.1 + (1 : Int))), ()) w1.drew)))
            (I1 (s_1.1, (IntKind.i64.wrap (s_1.2.1 + (1 : Int))), ()) w1.drew))
         (I1 (s_1.1, (IntKind.i64.wrap (s_1.2.1 + (1 : Int))), ()) w1.drew))
      (cond (decide (s_1.1 < (0 : Int)))
         (K 0 false w1)
         (onPtr s fun t58 =>
          ldSl (t58.add 3) w1 fun t60 =>
          ixK t60 s_1.1 7 fun t62 =>
          ldI .i64 (t62.add 0) w1 fun t64 =>
          K t64 true w1))) ((-1), 0, ()) w

def an_phosphorref21_Store_Number : List Ann := [.none, .none, .none, .none, .join [(6, (Kind.int .i64)), (7, (Kind.int .i64))] [6, 7, 8, 9, 10, 11, 12, 13, 14, 15, 16, 17, 18, 19, 20, 21, 22, 23, 24, 25, 26, 27, 28, 29, 30, 31, 32, 33, 34, 35, 36, 37, 38, 39, 40, 41, 42, 43, 44, 45, 46, 47, 48, 49, 50, 51, 52, 53, 54], .none, .none, .none, .none, .none, .none, .none, .none]

theorem vc_phosphorref21_Store_Number (s : Option Addr) (n : Int) (w : World) (K : Int → Bool → World → Prop) :
    vcFn C (Try.f84.body.getD .skip) Try.f84.results.toList Try.f84.ntmps an_phosphorref21_Store_Number [(Kind.int .i64), Kind.bool] [(.pointer s), (.int .i64 n)] w (fun s w => K s.1 s.2.1 w) = sh_phosphorref21_Store_Number s n w K := by kernel_rfl

theorem call_phosphorref21_Store_Number (s : Option Addr) (n : Int) {w : World} {K : Int → Bool → World → Prop} (h : sh_phosphorref21_Store_Number s n w K) : c_phosphorref21_Store_Number s n w K := by
  rw [← vc_phosphorref21_Store_Number] at h
  refine Calls.mono (calls_of_vc C.plain_ok C.mixed Try.func84 rfl h) ?_
  rintro e w' ⟨s, rfl, hK⟩
  exact ⟨s.1, s.2.1, rfl, hK⟩

/-- (*phosphor/phosphorref21.Store).Stamp -/
def sh_phosphorref21_Store_Stamp (s : Option Addr) (id : Int) (w : World) (K : Int → Bool → World → Prop) : Prop :=
  c_phosphorref21_Store_at s id w fun t9 w1 =>
  cond (decide (t9 < (0 : Int)))
    (K 0 false w1)
    (onPtr s fun t13 =>
     ldSl (t13.add 3) w1 fun t15 =>
     ixK t15 t9 7 fun t17 =>
     ldI .i64 (t17.add 5) w1 fun t19 =>
     K t19 true w1)

def an_phosphorref21_Store_Stamp : List Ann := [.none, .none, .none, .none, .none, .none]

theorem vc_phosphorref21_Store_Stamp (s : Option Addr) (id : Int) (w : World) (K : Int → Bool → World → Prop) :
    vcFn C (Try.f85.body.getD .skip) Try.f85.results.toList Try.f85.ntmps an_phosphorref21_Store_Stamp [(Kind.int .i64), Kind.bool] [(.pointer s), (.int .i64 id)] w (fun s w => K s.1 s.2.1 w) = sh_phosphorref21_Store_Stamp s id w K := by kernel_rfl

theorem call_phosphorref21_Store_Stamp (s : Option Addr) (id : Int) {w : World} {K : Int → Bool → World → Prop} (h : sh_phosphorref21_Store_Stamp s id w K) : c_phosphorref21_Store_Stamp s id w K := by
  rw [← vc_phosphorref21_Store_Stamp] at h
  refine Calls.mono (calls_of_vc C.plain_ok C.mixed Try.func85 rfl h) ?_
  rintro e w' ⟨s, rfl, hK⟩
  exact ⟨s.1, s.2.1, rfl, hK⟩

/-- phosphor/phosphorlaw7.Alike -/
def sh_phosphorlaw7_Alike (a : T_api_Matrix) (b : T_phosphorref7_Matrix) (w : World) (K : Bool → World → Prop) : Prop :=
  nw ty_api_Matrix (T_api_Matrix.rep.cells a) w fun a_1 w1 =>
  nw ty_phosphorref7_Matrix (T_phosphorref7_Matrix.rep.cells b) w1 fun b_1 w2 =>
  ldS T_api_Matrix.rep a_1 w2.drew fun t5 =>
  ldS T_phosphorref7_Matrix.rep b_1 w2.drew fun t7 =>
  c_phosphorlaw7_Of t5 w2.drew fun t6 w3 =>
  cellsAt w3 b_1 (T_phosphorref7_Matrix.rep.cells t7) ∧
  c_phosphorref7_Same t6 t7 w3 fun t8 w4 =>
  K t8 w4

def an_phosphorlaw7_Alike : List Ann := [.none, .none]

theorem vc_phosphorlaw7_Alike (a : T_api_Matrix) (b : T_phosphorref7_Matrix) (w : World) (K : Bool → World → Prop) :
    vcFn C (Try.f86.body.getD .skip) Try.f86.results.toList Try.f86.ntmps an_phosphorlaw7_Alike [Kind.bool] [(.agg #[(.int .i64 a.W), (.int .i64 a.H), (.slice a.P.a a.P.n a.P.c)]), (.agg #[(.int .i64 b.W), (.int .i64 b.H), (.slice b.P.a b.P.n b.P.c)])] w (fun s w => K s.1 w) = sh_phosphorlaw7_Alike a b w K := by kernel_rfl

theorem call_phosphorlaw7_Alike (a : T_api_Matrix) (b : T_phosphorref7_Matrix) {w : World} {K : Bool → World → Prop} (h : sh_phosphorlaw7_Alike a b w K) : c_phosphorlaw7_Alike a b w K := by
  rw [← vc_phosphorlaw7_Alike] at h
  refine Calls.mono (calls_of_vc C.plain_ok C.mixed Try.func86 rfl h) ?_
  rintro e w' ⟨s, rfl, hK⟩
  exact ⟨s.1, rfl, hK⟩

/-- (*phosphor/phosphorref21.Store).Ids -/
def sh_phosphorref21_Store_Ids (s : Option Addr) (w : World) (K : Slc → World → Prop) : Prop :=
  loopP (σ := Slc × Int × Unit) (fun I1 s_1 w1 =>
    onPtr s fun t7 =>
    ldSl (t7.add 3) w1 fun t9 =>
    cond (decide (s_1.2.1 < ((t9.n : Nat) : Int)))
      (onPtr s fun t16 =>
       ldSl (t16.add 3) w1 fun t18 =>
       ixK t18 s_1.2.1 7 fun t20 =>
       ldI .i64 (t20.add 0) w1 fun t22 =>
       nw ty_int [(.int .i64 t22)] w1 fun t23 w2 =>
       apK PG #[ty_sl_int, ty_sl_int] ty_sl_int s_1.1 (⟨(some t23), 1, 1⟩ : Slc) w2 fun t24 w3 =>
       I1 (t24, (IntKind.i64.wrap (s_1.2.1 + (1 : Int))), ()) w3)
      (K s_1.1 w1)) (⟨none, 0, 0⟩, 0, ()) w

def an_phosphorref21_Store_Ids : List Ann := [.none, .none, .none, .none, .join [(3, Kind.slice), (4, (Kind.int .i64))] [3, 4, 5, 6, 7, 8, 9, 10, 11, 12, 13, 14, 15, 16, 17, 18, 19, 20, 21, 22, 23, 24], .none, .none, .none, .none]

theorem vc_phosphorref21_Store_Ids (s : Option Addr) (w : World) (K : Slc → World → Prop) :
    vcFn C (Try.f87.body.getD .skip) Try.f87.results.toList Try.f87.ntmps an_phosphorref21_Store_Ids [Kind.slice] [(.pointer s)] w (fun s w => K s.1 w) = sh_phosphorref21_Store_Ids s w K := by kernel_rfl

theorem call_phosphorref21_Store_Ids (s : Option Addr) {w : World} {K : Slc → World → Prop} (h : sh_phosphorref21_Store_Ids s w K) : c_phosphorref21_Store_Ids s w K := by
  rw [← vc_phosphorref21_Store_Ids] at h
  refine Calls.mono (calls_of_vc C.plain_ok C.mixed Try.func87 rfl h) ?_
  rintro e w' ⟨s, rfl, hK⟩
  exact ⟨s.1, rfl, hK⟩

/-- (*phosphor/phosphorref21.Store).Used -/
def sh_phosphorref21_Store_Used (s : Option Addr) (w : World) (K : Int → World → Prop) : Prop :=
  loopP (σ := Int × Int × Unit) (fun I1 s_1 w1 =>
    onPtr s fun t7 =>
    ldSl (t7.add 3) w1 fun t9 =>
    cond (decide (s_1.2.1 < ((t9.n : Nat) : Int)))
      (onPtr s fun t16 =>
       ldSl (t16.add 3) w1 fun t18 =>
       ixK t18 s_1.2.1 7 fun t20 =>
       ldSl ((t20.add 2).add 2) w1 fun t23 =>
       I1 ((IntKind.i64.wrap (s_1.1 + ((t23.n : Nat) : Int))), (IntKind.i64.wrap (s_1.2.1 + (1 : Int))), ()) w1)
      (K s_1.1 w1)) (0, 0, ()) w

def an_phosphorref21_Store_Used : List Ann := [.none, .none, .none, .none, .join [(3, (Kind.int .i64)), (4, (Kind.int .i64))] [3, 4, 5, 6, 7, 8, 9, 10, 11, 12, 13, 14, 15, 16, 17, 18, 19, 20, 21, 22, 23, 24, 25], .none, .none, .none, .none]

theorem vc_phosphorref21_Store_Used (s : Option Addr) (w : World) (K : Int → World → Prop) :
    vcFn C (Try.f88.body.getD .skip) Try.f88.results.toList Try.f88.ntmps an_phosphorref21_Store_Used [(Kind.int .i64)] [(.pointer s)] w (fun s w => K s.1 w) = sh_phosphorref21_Store_Used s w K := by kernel_rfl

theorem call_phosphorref21_Store_Used (s : Option Addr) {w : World} {K : Int → World → Prop} (h : sh_phosphorref21_Store_Used s w K) : c_phosphorref21_Store_Used s w K := by
  rw [← vc_phosphorref21_Store_Used] at h
  refine Calls.mono (calls_of_vc C.plain_ok C.mixed Try.func88 rfl h) ?_
  rintro e w' ⟨s, rfl, hK⟩
  exact ⟨s.1, rfl, hK⟩

/-- (*phosphor/zlib.Decoder).Used -/
def sh_zlib_Decoder_Used (d : Option Addr) (w : World) (K : Int → World → Prop) : Prop :=
  onPtr d fun t4 =>
  ldSl (t4.add 1) w.drew fun t6 =>
  onPtr d fun t9 =>
  ldP (t9.add 0) w.drew fun t11 =>
  onPtr d fun t15 =>
  ldSl (t15.add 2) w.drew fun t17 =>
  c_inflate_Decoder_Used t11 w.drew fun t12 w1 =>
  World.cell? w1 (t15.add 2) = some (.slice t17.a t17.n t17.c) ∧
  World.cell? w1 (t4.add 1) = some (.slice t6.a t6.n t6.c) ∧
  K (IntKind.i64.wrap ((IntKind.i64.wrap (((t6.n : Nat) : Int) + t12)) + ((t17.n : Nat) : Int))) w1

def an_zlib_Decoder_Used : List Ann := [.none, .none]

theorem vc_zlib_Decoder_Used (d : Option Addr) (w : World) (K : Int → World → Prop) :
    vcFn C (Try.f89.body.getD .skip) Try.f89.results.toList Try.f89.ntmps an_zlib_Decoder_Used [(Kind.int .i64)] [(.pointer d)] w (fun s w => K s.1 w) = sh_zlib_Decoder_Used d w K := by kernel_rfl

theorem call_zlib_Decoder_Used (d : Option Addr) {w : World} {K : Int → World → Prop} (h : sh_zlib_Decoder_Used d w K) : c_zlib_Decoder_Used d w K := by
  rw [← vc_zlib_Decoder_Used] at h
  refine Calls.mono (calls_of_vc C.plain_ok C.mixed Try.func89 rfl h) ?_
  rintro e w' ⟨s, rfl, hK⟩
  exact ⟨s.1, rfl, hK⟩

/-- phosphor/sums.Of[*phosphor/sums.Adler] -/
def sh_sums_Of_sums_Adler (s : Option Addr) (parts : Slc) (w : World) (K : Int → World → Prop) : Prop :=
  loopP (σ := Int × Unit) (fun I1 s_1 w1 =>
    cond (decide (s_1.1 < ((parts.n : Nat) : Int)))
      (ixK parts s_1.1 1 fun t11 =>
       ldSl t11 w1 fun t12 =>
       callI C (.iface ty_p_sums_Adler (.pointer s)) "Write" [(.slice t12.a t12.n t12.c)] [(Kind.int .i64), Kind.raw] w1 fun (t16 : Int) (t16_1 : Value) w2 =>
       I1 ((IntKind.i64.wrap (s_1.1 + (1 : Int))), ()) w2)
      (callI C (.iface ty_p_sums_Adler (.pointer s)) "Sum" [] [(Kind.int .u32)] w1 fun (t20 : Int) w3 =>
       K t20 w3)) (0, ()) w

def an_sums_Of_sums_Adler : List Ann := [.none, .none, .none, .join [(9, (Kind.int .i64))] [6, 9, 10, 11, 12, 13, 14, 15, 16, 17], .none, .none, .none, .none, .none]

theorem vc_sums_Of_sums_Adler (s : Option Addr) (parts : Slc) (w : World) (K : Int → World → Prop) :
    vcFn C (Try.f90.body.getD .skip) Try.f90.results.toList Try.f90.ntmps an_sums_Of_sums_Adler [(Kind.int .u32)] [(.pointer s), (.slice parts.a parts.n parts.c)] w (fun s w => K s.1 w) = sh_sums_Of_sums_Adler s parts w K := by kernel_rfl

theorem call_sums_Of_sums_Adler (s : Option Addr) (parts : Slc) {w : World} {K : Int → World → Prop} (h : sh_sums_Of_sums_Adler s parts w K) : c_sums_Of_sums_Adler s parts w K := by
  rw [← vc_sums_Of_sums_Adler] at h
  refine Calls.mono (calls_of_vc C.plain_ok C.mixed Try.func90 rfl h) ?_
  rintro e w' ⟨s, rfl, hK⟩
  exact ⟨s.1, rfl, hK⟩

/-- phosphor/sums.NewAdler -/
def sh_sums_NewAdler  (w : World) (K : Option Addr → World → Prop) : Prop :=
  nw ty_sums_Adler [(.int .u32 1), (.int .u32 0)] w fun t2 w1 =>
  K (some t2) w1

def an_sums_NewAdler : List Ann := [.none, .none]

theorem vc_sums_NewAdler  (w : World) (K : Option Addr → World → Prop) :
    vcFn C (Try.f91.body.getD .skip) Try.f91.results.toList Try.f91.ntmps an_sums_NewAdler [Kind.ptr] [] w (fun s w => K s.1 w) = sh_sums_NewAdler  w K := by kernel_rfl

theorem call_sums_NewAdler  {w : World} {K : Option Addr → World → Prop} (h : sh_sums_NewAdler  w K) : c_sums_NewAdler  w K := by
  rw [← vc_sums_NewAdler] at h
  refine Calls.mono (calls_of_vc C.plain_ok C.mixed Try.func91 rfl h) ?_
  rintro e w' ⟨s, rfl, hK⟩
  exact ⟨s.1, rfl, hK⟩

/-- slices.Concat[[]byte,byte] -/
def sh_slices_Concat_byte_byte (slices : Slc) (w : World) (K : Slc → World → Prop) : Prop :=
  loopP (σ := Int × Int × Unit) (fun I1 s w1 =>
    cond (decide (s.2.1 < ((slices.n : Nat) : Int)))
      (ixK slices s.2.1 1 fun t13 =>
       ldSl t13 w1 fun t14 =>
       cond (decide ((IntKind.i64.wrap (s.1 + ((t14.n : Nat) : Int))) < (0 : Int)))
         (False)
         (I1 ((IntKind.i64.wrap (s.1 + ((t14.n : Nat) : Int))), (IntKind.i64.wrap (s.2.1 + (1 : Int))), ()) w1))
      (c_slices_Grow_byte_byte (⟨none, 0, 0⟩ : Slc) s.1 w1 fun t24 w2 =>
       loopP (σ := Slc × Int × Unit) (fun I2 s_1 w3 =>
         cond (decide (s_1.2.1 < ((slices.n : Nat) : Int)))
           (ixK slices s_1.2.1 1 fun t29 =>
            ldSl t29 w3 fun t30 =>
            apK PG #[ty_sl_uint8, ty_sl_uint8] ty_sl_uint8 s_1.1 t30 w3 fun t33 w4 =>
            I2 (t33, (IntKind.i64.wrap (s_1.2.1 + (1 : Int))), ()) w4)
           (K s_1.1 w3)) (t24, 0, ()) w2)) (0, 0, ()) w

def an_slices_Concat_byte_byte : List Ann := [.none, .none, .none, .none, .join [(3, (Kind.int .i64)), (11, (Kind.int .i64))] [3, 5, 11, 12, 13, 14, 15, 16, 17, 18, 19, 20, 21, 22], .none, .none, .none, .none, .none, .none, .none, .none, .none, .join [(6, Kind.slice), (27, (Kind.int .i64))] [6, 8, 27, 28, 29, 30, 31, 32, 33, 34], .none, .none, .none, .none, .none]

theorem vc_slices_Concat_byte_byte (slices : Slc) (w : World) (K : Slc → World → Prop) :
    vcFn C (Try.f92.body.getD .skip) Try.f92.results.toList Try.f92.ntmps an_slices_Concat_byte_byte [Kind.slice] [(.slice slices.a slices.n slices.c)] w (fun s w => K s.1 w) = sh_slices_Concat_byte_byte slices w K := by kernel_rfl

theorem call_slices_Concat_byte_byte (slices : Slc) {w : World} {K : Slc → World → Prop} (h : sh_slices_Concat_byte_byte slices w K) : c_slices_Concat_byte_byte slices w K := by
  rw [← vc_slices_Concat_byte_byte] at h
  refine Calls.mono (calls_of_vc C.plain_ok C.mixed Try.func92 rfl h) ?_
  rintro e w' ⟨s, rfl, hK⟩
  exact ⟨s.1, rfl, hK⟩

/-- phosphor/phosphorref2.Adler -/
def sh_phosphorref2_Adler (b : Slc) (w : World) (K : Int → World → Prop) : Prop :=
  loopP (σ := Int × Int × Int × Unit) (fun I1 s w1 =>
    cond (decide (s.2.2.1 < ((b.n : Nat) : Int)))
      (ixK b s.2.2.1 1 fun t15 =>
       ldI .u8 t15 w1 fun t16 =>
       (65521 : Int) ≠ 0 ∧
       (65521 : Int) ≠ 0 ∧
       I1 (((IntKind.u32.wrap (s.1 + (IntKind.u32.wrap t16))).tmod (65521 : Int)), ((IntKind.u32.wrap (s.2.1 + ((IntKind.u32.wrap (s.1 + (IntKind.u32.wrap t16))).tmod (65521 : Int)))).tmod (65521 : Int)), (IntKind.i64.wrap (s.2.2.1 + (1 : Int))), ()) w1)
      (0 ≤ (16 : Int) ∧
       K (bitsR .or .u32 (IntKind.u32.wrap (s.2.1 * 2 ^ (min (16 : Int).toNat IntKind.u32.bits))) s.1) w1)) (1, 0, 0, ()) w

def an_phosphorref2_Adler : List Ann := [.none, .none, .none, .none, .none, .join [(3, (Kind.int .u32)), (4, (Kind.int .u32)), (5, (Kind.int .i64))] [3, 4, 5, 6, 7, 8, 9, 10, 11, 12, 13, 14, 15, 16, 17, 18, 19, 20, 21, 22, 23], .none, .none, .none, .none, .none]

theorem vc_phosphorref2_Adler (b : Slc) (w : World) (K : Int → World → Prop) :
    vcFn C (Try.f93.body.getD .skip) Try.f93.results.toList Try.f93.ntmps an_phosphorref2_Adler [(Kind.int .u32)] [(.slice b.a b.n b.c)] w (fun s w => K s.1 w) = sh_phosphorref2_Adler b w K := by kernel_rfl

theorem call_phosphorref2_Adler (b : Slc) {w : World} {K : Int → World → Prop} (h : sh_phosphorref2_Adler b w K) : c_phosphorref2_Adler b w K := by
  rw [← vc_phosphorref2_Adler] at h
  refine Calls.mono (calls_of_vc C.plain_ok C.mixed Try.func93 rfl h) ?_
  rintro e w' ⟨s, rfl, hK⟩
  exact ⟨s.1, rfl, hK⟩

/-- phosphor/phosphorref5.Front -/
def sh_phosphorref5_Front (b : Slc) (most : Int) (w : World) (K : Slc → Int → Int → World → Prop) : Prop :=
  nw ty_phosphorref1_Reader [(.slice b.a b.n b.c), (.int .i64 0)] w fun t12 w1 =>
  nw ty_phosphorref5_state [(.pointer (some t12)), (.slice none 0 0), (.int .i64 most)] w1 fun t15 w2 =>
  loopP (σ := Unit) (fun I1 s w3 =>
    c_phosphorref5_state_block (some t15) w3 fun t18 t18_1 w4 =>
    cond (t18_1 != (0 : Int))
      (ldSl (t15.add 1) w4 fun t26 =>
       K t26 0 t18_1 w4)
      (cond t18
         (ldSl (t15.add 1) w4.drew fun t32 =>
          ldP (t15.add 0) w4.drew fun t36 =>
          onPtr t36 fun t37 =>
          ldI .i64 (t37.add 1) w4.drew fun t39 =>
          (8 : Int) ≠ 0 ∧
          K t32 (IntKind.i64.wrap ((IntKind.i64.wrap (t39 + (7 : Int))).tdiv (8 : Int))) 0 w4.drew)
         (I1 (()) w4))) (()) w2

def an_phosphorref5_Front : List Ann := [.none, .none, .join [] [4, 5, 6, 8, 9, 16, 17, 18, 19, 20, 21, 22, 23, 24, 25, 26, 27, 28, 29, 30, 31, 32, 33, 34, 35, 36, 37, 38, 39, 40, 41], .none, .none, .none, .none, .none, .none]

theorem vc_phosphorref5_Front (b : Slc) (most : Int) (w : World) (K : Slc → Int → Int → World → Prop) :
    vcFn C (Try.f94.body.getD .skip) Try.f94.results.toList Try.f94.ntmps an_phosphorref5_Front [Kind.slice, (Kind.int .i64), (Kind.int .i64)] [(.slice b.a b.n b.c), (.int .i64 most)] w (fun s w => K s.1 s.2.1 s.2.2.1 w) = sh_phosphorref5_Front b most w K := by kernel_rfl

theorem call_phosphorref5_Front (b : Slc) (most : Int) {w : World} {K : Slc → Int → Int → World → Prop} (h : sh_phosphorref5_Front b most w K) : c_phosphorref5_Front b most w K := by
  rw [← vc_phosphorref5_Front] at h
  refine Calls.mono (calls_of_vc C.plain_ok C.mixed Try.func94 rfl h) ?_
  rintro e w' ⟨s, rfl, hK⟩
  exact ⟨s.1, s.2.1, s.2.2.1, rfl, hK⟩

/-- (*phosphor/zlib.Decoder).begin -/
def sh_zlib_Decoder_begin (d : Option Addr) (c : Int) (w : World) (K : Bool → World → Prop) : Prop :=
  onPtr d fun t7 =>
  ldSl (t7.add 1) w fun t9 =>
  nw ty_uint8 [(.int .u8 c)] w fun t11 w1 =>
  apK PG #[ty_sl_uint8, ty_sl_uint8] ty_sl_uint8 t9 (⟨(some t11), 1, 1⟩ : Slc) w1 fun t12 w2 =>
  onPtr d fun t13 =>
  stK (t13.add 1) [(.slice t12.a t12.n t12.c)] w2 fun w3 =>
  onPtr d fun t16 =>
  ldSl (t16.add 1) w3 fun t18 =>
  cond (decide (((t18.n : Nat) : Int) < (2 : Int)))
    (cond ((bitsR .and .u8 c (15 : Int)) == (8 : Int))
       (0 ≤ (4 : Int) ∧
        K (decide ((c.fdiv (2 ^ (min (4 : Int).toNat IntKind.u8.bits))) ≤ (7 : Int))) w3)
       (K false w3))
    (onPtr d fun t30 =>
     ldSl (t30.add 1) w3 fun t32 =>
     ixK t32 0 1 fun t33 =>
     ldI .u8 t33 w3 fun t34 =>
     0 ≤ (8 : Int) ∧
     (31 : Int) ≠ 0 ∧
     cond (((bitsR .or .i64 (IntKind.i64.wrap ((IntKind.i64.wrap t34) * 2 ^ (min (8 : Int).toNat IntKind.i64.bits))) (IntKind.i64.wrap c)).tmod (31 : Int)) == (0 : Int))
       (K ((bitsR .and .u8 c (32 : Int)) == (0 : Int)) w3)
       (K false w3))

def an_zlib_Decoder_begin : List Ann := [.none, .none, .none, .none, .none, .none]

theorem vc_zlib_Decoder_begin (d : Option Addr) (c : Int) (w : World) (K : Bool → World → Prop) :
    vcFn C (Try.f95.body.getD .skip) Try.f95.results.toList Try.f95.ntmps an_zlib_Decoder_begin [Kind.bool] [(.pointer d), (.int .u8 c)] w (fun s w => K s.1 w) = sh_zlib_Decoder_begin d c w K := by kernel_rfl

theorem call_zlib_Decoder_begin (d : Option Addr) (c : Int) {w : World} {K : Bool → World → Prop} (h : sh_zlib_Decoder_begin d c w K) : c_zlib_Decoder_begin d c w K := by
  rw [← vc_zlib_Decoder_begin] at h
  refine Calls.mono (calls_of_vc C.plain_ok C.mixed Try.func95 rfl h) ?_
  rintro e w' ⟨s, rfl, hK⟩
  exact ⟨s.1, rfl, hK⟩

/-- (*phosphor/zlib.Decoder).fail -/
def sh_zlib_Decoder_fail (d : Option Addr) (e : Int) (w : World) (K : Int → World → Prop) : Prop :=
  onPtr d fun t7 =>
  stK (t7.add 5) [(.int .i64 e)] w fun w1 =>
  K e w1

def an_zlib_Decoder_fail : List Ann := [.none, .none, .none]

theorem vc_zlib_Decoder_fail (d : Option Addr) (e : Int) (w : World) (K : Int → World → Prop) :
    vcFn C (Try.f96.body.getD .skip) Try.f96.results.toList Try.f96.ntmps an_zlib_Decoder_fail [(Kind.int .i64)] [(.pointer d), (.int .i64 e)] w (fun s w => K s.1 w) = sh_zlib_Decoder_fail d e w K := by kernel_rfl

theorem call_zlib_Decoder_fail (d : Option Addr) (e : Int) {w : World} {K : Int → World → Prop} (h : sh_zlib_Decoder_fail d e w K) : c_zlib_Decoder_fail d e w K := by
  rw [← vc_zlib_Decoder_fail] at h
  refine Calls.mono (calls_of_vc C.plain_ok C.mixed Try.func96 rfl h) ?_
  rintro e w' ⟨s, rfl, hK⟩
  exact ⟨s.1, rfl, hK⟩

/-- (*phosphor/inflate.Decoder).Given -/
def sh_inflate_Decoder_Given (d : Option Addr) (w : World) (K : Int → World → Prop) : Prop :=
  onPtr d fun t4 =>
  ldI .i64 (t4.add 12) w fun t6 =>
  K t6 w

def an_inflate_Decoder_Given : List Ann := [.none, .none]

theorem vc_inflate_Decoder_Given (d : Option Addr) (w : World) (K : Int → World → Prop) :
    vcFn C (Try.f97.body.getD .skip) Try.f97.results.toList Try.f97.ntmps an_inflate_Decoder_Given [(Kind.int .i64)] [(.pointer d)] w (fun s w => K s.1 w) = sh_inflate_Decoder_Given d w K := by kernel_rfl

theorem call_inflate_Decoder_Given (d : Option Addr) {w : World} {K : Int → World → Prop} (h : sh_inflate_Decoder_Given d w K) : c_inflate_Decoder_Given d w K := by
  rw [← vc_inflate_Decoder_Given] at h
  refine Calls.mono (calls_of_vc C.plain_ok C.mixed Try.func97 rfl h) ?_
  rintro e w' ⟨s, rfl, hK⟩
  exact ⟨s.1, rfl, hK⟩

/-- phosphor/bits.Big -/
def sh_bits_Big (b : Slc) (w : World) (K : Int → World → Prop) : Prop :=
  cond (decide (((b.n : Nat) : Int) < (4 : Int)))
    (K 0 w)
    (ixK b 0 1 fun t7 =>
     ldI .u8 t7 w.drew fun t8 =>
     0 ≤ (24 : Int) ∧
     ixK b 1 1 fun t12 =>
     ldI .u8 t12 w.drew fun t13 =>
     0 ≤ (16 : Int) ∧
     ixK b 2 1 fun t18 =>
     ldI .u8 t18 w.drew fun t19 =>
     0 ≤ (8 : Int) ∧
     ixK b 3 1 fun t24 =>
     ldI .u8 t24 w.drew fun t25 =>
     K (bitsR .or .u32 (bitsR .or .u32 (bitsR .or .u32 (IntKind.u32.wrap ((IntKind.u32.wrap t8) * 2 ^ (min (24 : Int).toNat IntKind.u32.bits))) (IntKind.u32.wrap ((IntKind.u32.wrap t13) * 2 ^ (min (16 : Int).toNat IntKind.u32.bits)))) (IntKind.u32.wrap ((IntKind.u32.wrap t19) * 2 ^ (min (8 : Int).toNat IntKind.u32.bits)))) (IntKind.u32.wrap t25)) w.drew)

def an_bits_Big : List Ann := [.none, .none, .none, .none, .none]

theorem vc_bits_Big (b : Slc) (w : World) (K : Int → World → Prop) :
    vcFn C (Try.f98.body.getD .skip) Try.f98.results.toList Try.f98.ntmps an_bits_Big [(Kind.int .u32)] [(.slice b.a b.n b.c)] w (fun s w => K s.1 w) = sh_bits_Big b w K := by kernel_rfl

theorem call_bits_Big (b : Slc) {w : World} {K : Int → World → Prop} (h : sh_bits_Big b w K) : c_bits_Big b w K := by
  rw [← vc_bits_Big] at h
  refine Calls.mono (calls_of_vc C.plain_ok C.mixed Try.func98 rfl h) ?_
  rintro e w' ⟨s, rfl, hK⟩
  exact ⟨s.1, rfl, hK⟩

/-- (*phosphor/inflate.Decoder).Room -/
def sh_inflate_Decoder_Room (d : Option Addr) (w : World) (K : Int → World → Prop) : Prop :=
  onPtr d fun t4 =>
  ldSl (t4.add 8) w.drew fun t6 =>
  onPtr d fun t9 =>
  ldSl (t9.add 3) w.drew fun t11 =>
  onPtr d fun t15 =>
  ldSl (t15.add 14) w.drew fun t17 =>
  K (IntKind.i64.wrap ((IntKind.i64.wrap ((IntKind.i64.wrap (((t6.c : Nat) : Int) + ((t11.c : Nat) : Int))) + ((t17.c : Nat) : Int))) + (16384 : Int))) w.drew

def an_inflate_Decoder_Room : List Ann := [.none, .none]

theorem vc_inflate_Decoder_Room (d : Option Addr) (w : World) (K : Int → World → Prop) :
    vcFn C (Try.f99.body.getD .skip) Try.f99.results.toList Try.f99.ntmps an_inflate_Decoder_Room [(Kind.int .i64)] [(.pointer d)] w (fun s w => K s.1 w) = sh_inflate_Decoder_Room d w K := by kernel_rfl

theorem call_inflate_Decoder_Room (d : Option Addr) {w : World} {K : Int → World → Prop} (h : sh_inflate_Decoder_Room d w K) : c_inflate_Decoder_Room d w K := by
  rw [← vc_inflate_Decoder_Room] at h
  refine Calls.mono (calls_of_vc C.plain_ok C.mixed Try.func99 rfl h) ?_
  rintro e w' ⟨s, rfl, hK⟩
  exact ⟨s.1, rfl, hK⟩

/-- phosphor/pixel.size -/
def sh_pixel_size (wx : Int) (hx : Int) (w : World) (K : Bool → World → Prop) : Prop :=
  cond (wx == (0 : Int))
    (cond (hx == (0 : Int))
       (K true w)
       (cond (decide (wx ≥ (1 : Int)))
          (cond (decide (wx ≤ (16384 : Int)))
             (cond (decide (hx ≥ (1 : Int)))
                (cond (decide (hx ≤ (16384 : Int)))
                   (K (decide ((IntKind.i64.wrap (wx * hx)) ≤ (67108864 : Int))) w)
                   (K false w))
                (K false w))
             (K false w))
          (K false w)))
    (cond (decide (wx ≥ (1 : Int)))
       (cond (decide (wx ≤ (16384 : Int)))
          (cond (decide (hx ≥ (1 : Int)))
             (cond (decide (hx ≤ (16384 : Int)))
                (K (decide ((IntKind.i64.wrap (wx * hx)) ≤ (67108864 : Int))) w)
                (K false w))
             (K false w))
          (K false w))
       (K false w))

def an_pixel_size : List Ann := [.none, .none]

theorem vc_pixel_size (wx : Int) (hx : Int) (w : World) (K : Bool → World → Prop) :
    vcFn C (Try.f100.body.getD .skip) Try.f100.results.toList Try.f100.ntmps an_pixel_size [Kind.bool] [(.int .i64 wx), (.int .i64 hx)] w (fun s w => K s.1 w) = sh_pixel_size wx hx w K := by kernel_rfl

theorem call_pixel_size (wx : Int) (hx : Int) {w : World} {K : Bool → World → Prop} (h : sh_pixel_size wx hx w K) : c_pixel_size wx hx w K := by
  rw [← vc_pixel_size] at h
  refine Calls.mono (calls_of_vc C.plain_ok C.mixed Try.func100 rfl h) ?_
  rintro e w' ⟨s, rfl, hK⟩
  exact ⟨s.1, rfl, hK⟩

/-- (*phosphor/store.Store).room$1 -/
def sh_store_Store_room_1 (a : Int) (b : Int) (c0 : Addr) (w : World) (K : Int → World → Prop) : Prop :=
  ldP c0 w.drew fun t6 =>
  onPtr t6 fun t7 =>
  ldM (t7.add 4) w.drew fun t9 =>
  ldP c0 w.drew fun t13 =>
  onPtr t13 fun t14 =>
  ldM (t14.add 4) w.drew fun t16 =>
    (runK1 PG (Instr.lookup ty_map_int_store_image (.map t9) (.int .i64 a) false) (Kind.struct T_store_image.rep) w.drew fun (t11 : T_store_image) w1 =>
     World.cell? w1 (t14.add 4) = some (.map t16) ∧
     World.cell? w1 c0 = some (.pointer t13) ∧
     runK1 PG (Instr.lookup ty_map_int_store_image (.map t16) (.int .i64 b) false) (Kind.struct T_store_image.rep) w1 fun (t18 : T_store_image) w2 =>
     World.cell? w2 (t7.add 4) = some (.map t9) ∧
     World.cell? w2 c0 = some (.pointer t6) ∧
     c_cmp_Compare_int64 t11.stamp t18.stamp w2 fun t20 w3 =>
     K t20 w3) ∧
  runK1 PG (Instr.lookup ty_map_int_store_image (.map t16) (.int .i64 b) false) (Kind.struct T_store_image.rep) w.drew fun (t18_1 : T_store_image) w4 =>
  World.cell? w4 (t7.add 4) = some (.map t9) ∧
  World.cell? w4 c0 = some (.pointer t6) ∧
  runK1 PG (Instr.lookup ty_map_int_store_image (.map t9) (.int .i64 a) false) (Kind.struct T_store_image.rep) w4 fun (t11_1 : T_store_image) w5 =>
  World.cell? w5 (t14.add 4) = some (.map t16) ∧
  World.cell? w5 c0 = some (.pointer t13) ∧
  c_cmp_Compare_int64 t11_1.stamp t18_1.stamp w5 fun t20_1 w6 =>
  K t20_1 w6

def an_store_Store_room_1 : List Ann := [.none, .none]

theorem vc_store_Store_room_1 (a : Int) (b : Int) (c0 : Addr) (w : World) (K : Int → World → Prop) :
    vcFn C (Try.f101.body.getD .skip) Try.f101.results.toList Try.f101.ntmps an_store_Store_room_1 [(Kind.int .i64)] [(.int .i64 a), (.int .i64 b), (.pointer (some c0))] w (fun s w => K s.1 w) = sh_store_Store_room_1 a b c0 w K := by kernel_rfl

theorem call_store_Store_room_1 (a : Int) (b : Int) (c0 : Addr) {w : World} {K : Int → World → Prop} (h : sh_store_Store_room_1 a b c0 w K) : c_store_Store_room_1 a b c0 w K := by
  rw [← vc_store_Store_room_1] at h
  refine Calls.mono (calls_of_vc C.plain_ok C.mixed Try.func101 rfl h) ?_
  rintro e w' ⟨s, rfl, hK⟩
  exact ⟨s.1, rfl, hK⟩

/-- cmp.Compare[int64] -/
def sh_cmp_Compare_int64 (x : Int) (y : Int) (w : World) (K : Int → World → Prop) : Prop :=
  c_cmp_isNaN_int64 x w fun t8 w1 =>
  c_cmp_isNaN_int64 y w1 fun t10 w2 =>
  cond t8
    (cond t10
       (K 0 w2)
       (K (-1) w2))
    (cond t10
       (K 1 w2)
       (cond (decide (x < y))
          (K (-1) w2)
          (cond (decide (x > y))
             (K 1 w2)
             (K 0 w2))))

def an_cmp_Compare_int64 : List Ann := [.none, .none, .none, .none, .none, .none, .none, .none, .none, .none, .none, .none, .none, .none, .none, .none, .none, .none, .none]

theorem vc_cmp_Compare_int64 (x : Int) (y : Int) (w : World) (K : Int → World → Prop) :
    vcFn C (Try.f102.body.getD .skip) Try.f102.results.toList Try.f102.ntmps an_cmp_Compare_int64 [(Kind.int .i64)] [(.int .i64 x), (.int .i64 y)] w (fun s w => K s.1 w) = sh_cmp_Compare_int64 x y w K := by kernel_rfl

theorem call_cmp_Compare_int64 (x : Int) (y : Int) {w : World} {K : Int → World → Prop} (h : sh_cmp_Compare_int64 x y w K) : c_cmp_Compare_int64 x y w K := by
  rw [← vc_cmp_Compare_int64] at h
  refine Calls.mono (calls_of_vc C.plain_ok C.mixed Try.func102 rfl h) ?_
  rintro e w' ⟨s, rfl, hK⟩
  exact ⟨s.1, rfl, hK⟩

/-- slices.MinFunc[[]int,int] -/
def sh_slices_MinFunc_int_int (x : Slc) (cmp : Value) (w : World) (K : Int → World → Prop) : Prop :=
  joinP (σ := Unit) (fun s w1 =>
    ixK x 0 1 fun t12 =>
    ldI .i64 t12 w1 fun t13 =>
    loopP (σ := Int × Int × Unit) (fun I2 s_1 w2 =>
      cond (decide (s_1.2.1 < ((x.n : Nat) : Int)))
        (ixK x s_1.2.1 1 fun t23 =>
         ldI .i64 t23 w2 fun t24 =>
         callR C cmp [(.int .i64 t24), (.int .i64 s_1.1)] [(Kind.int .i64)] w2 fun (t26 : Int) w3 =>
         cond (decide (t26 < (0 : Int)))
           (ixK x s_1.2.1 1 fun t30 =>
            ldI .i64 t30 w3 fun t31 =>
            I2 (t31, (IntKind.i64.wrap (s_1.2.1 + (1 : Int))), ()) w3)
           (I2 (s_1.1, (IntKind.i64.wrap (s_1.2.1 + (1 : Int))), ()) w3))
        (K s_1.1 w2)) (t13, 1, ()) w1) fun J1 =>
  cond (decide (((x.n : Nat) : Int) < (1 : Int)))
    (False)
    (J1 (()) w)

def an_slices_MinFunc_int_int : List Ann := [.none, .join [] [7, 8, 9, 10], .none, .none, .none, .none, .join [(5, (Kind.int .i64)), (6, (Kind.int .i64))] [5, 6, 14, 15, 16, 17, 18, 19, 20, 21, 22, 23, 24, 25, 26, 27, 28, 29, 30, 31], .none, .none, .none, .none, .none]

theorem vc_slices_MinFunc_int_int (x : Slc) (cmp : Value) (w : World) (K : Int → World → Prop) :
    vcFn C (Try.f103.body.getD .skip) Try.f103.results.toList Try.f103.ntmps an_slices_MinFunc_int_int [(Kind.int .i64)] [(.slice x.a x.n x.c), cmp] w (fun s w => K s.1 w) = sh_slices_MinFunc_int_int x cmp w K := by kernel_rfl

theorem call_slices_MinFunc_int_int (x : Slc) (cmp : Value) {w : World} {K : Int → World → Prop} (h : sh_slices_MinFunc_int_int x cmp w K) : c_slices_MinFunc_int_int x cmp w K := by
  rw [← vc_slices_MinFunc_int_int] at h
  refine Calls.mono (calls_of_vc C.plain_ok C.mixed Try.func103 rfl h) ?_
  rintro e w' ⟨s, rfl, hK⟩
  exact ⟨s.1, rfl, hK⟩

/-- slices.Collect[int] -/
def sh_slices_Collect_int (seq : Value) (w : World) (K : Slc → World → Prop) : Prop :=
  c_slices_AppendSeq_int_int (⟨none, 0, 0⟩ : Slc) seq w fun t4 w1 =>
  K t4 w1

def an_slices_Collect_int : List Ann := [.none, .none]

theorem vc_slices_Collect_int (seq : Value) (w : World) (K : Slc → World → Prop) :
    vcFn C (Try.f104.body.getD .skip) Try.f104.results.toList Try.f104.ntmps an_slices_Collect_int [Kind.slice] [seq] w (fun s w => K s.1 w) = sh_slices_Collect_int seq w K := by kernel_rfl

theorem call_slices_Collect_int (seq : Value) {w : World} {K : Slc → World → Prop} (h : sh_slices_Collect_int seq w K) : c_slices_Collect_int seq w K := by
  rw [← vc_slices_Collect_int] at h
  refine Calls.mono (calls_of_vc C.plain_ok C.mixed Try.func104 rfl h) ?_
  rintro e w' ⟨s, rfl, hK⟩
  exact ⟨s.1, rfl, hK⟩

/-- slices.Sort[[]int,int] -/
def sh_slices_Sort_int_int (x : Slc) (w : World) (K : World → Prop) : Prop :=
  c_math_bits_Len (IntKind.u64.wrap ((x.n : Nat) : Int)) w fun t9 w1 =>
  c_slices_pdqsortOrdered_int x 0 ((x.n : Nat) : Int) t9 w1 fun w2 =>
  K w2

def an_slices_Sort_int_int : List Ann := [.none]

theorem vc_slices_Sort_int_int (x : Slc) (w : World) (K : World → Prop) :
    vcFn C (Try.f105.body.getD .skip) Try.f105.results.toList Try.f105.ntmps an_slices_Sort_int_int [] [(.slice x.a x.n x.c)] w (fun s w => K w) = sh_slices_Sort_int_int x w K := by kernel_rfl

theorem call_slices_Sort_int_int (x : Slc) {w : World} {K : World → Prop} (h : sh_slices_Sort_int_int x w K) : c_slices_Sort_int_int x w K := by
  rw [← vc_slices_Sort_int_int] at h
  refine Calls.mono (calls_of_vc C.plain_ok C.mixed Try.func105 rfl h) ?_
  rintro e w' ⟨s, rfl, hK⟩
  exact ⟨rfl, hK⟩

/-- maps.Keys[map[int]phosphor/store.image,int,phosphor/store.image]$1 -/
def sh_maps_Keys_map_int_store_image_int_store_image_1 (yield : Value) (c0 : Addr) (w : World) (K : World → Prop) : Prop :=
  ldM c0 w fun t4 =>
  rangeK PG ty_map_int_store_image (.map t4) w fun it w1 =>
  loopP (σ := Unit) (fun I1 s w2 =>
    nextK PG (.pointer (some it)) false ty_unit w2
      (fun w3 =>
       K w3)
      (fun k v w4 =>
       runK2 PG (Instr.entry (.pointer (some it))) (Kind.int .i64) (Kind.struct T_store_image.rep) w4 fun (k_1 : Int) (v_1 : T_store_image) w5 =>
       callR C yield [(.int .i64 k_1)] [Kind.bool] w5 fun (t12 : Bool) w6 =>
       cond (!t12)
         (K w6)
         (I1 (()) w6))) (()) w1

def an_maps_Keys_map_int_store_image_int_store_image_1 : List Ann := [.none, .join [] [3, 6, 7, 8, 9, 10, 11, 12, 13], .none, .none, .none, .none]

theorem vc_maps_Keys_map_int_store_image_int_store_image_1 (yield : Value) (c0 : Addr) (w : World) (K : World → Prop) :
    vcFn (C.ent fun t => cond (Nat.beq t 5) (some [(Kind.int .i64), (Kind.struct T_store_image.rep)]) (none)) (Try.f106.body.getD .skip) Try.f106.results.toList Try.f106.ntmps an_maps_Keys_map_int_store_image_int_store_image_1 [] [yield, (.pointer (some c0))] w (fun s w => K w) = sh_maps_Keys_map_int_store_image_int_store_image_1 yield c0 w K := by kernel_rfl

theorem call_maps_Keys_map_int_store_image_int_store_image_1 (yield : Value) (c0 : Addr) {w : World} {K : World → Prop} (h : sh_maps_Keys_map_int_store_image_int_store_image_1 yield c0 w K) : c_maps_Keys_map_int_store_image_int_store_image_1 yield c0 w K := by
  rw [← vc_maps_Keys_map_int_store_image_int_store_image_1] at h
  refine Calls.mono (calls_of_vc (C := (C.ent fun t => cond (Nat.beq t 5) (some [(Kind.int .i64), (Kind.struct T_store_image.rep)]) (none))) C.plain_ok C.mixed Try.func106 rfl h) ?_
  rintro e w' ⟨s, rfl, hK⟩
  exact ⟨rfl, hK⟩

/-- phosphor/huff.room -/
def sh_huff_room (lengths : Slc) (w : World) (K : Int → World → Prop) : Prop :=
  loopP (σ := Int × Int × Unit) (fun I1 s w1 =>
    cond (decide (s.2.1 < ((lengths.n : Nat) : Int)))
      (ixK lengths s.2.1 1 fun t10 =>
       ldI .u8 t10 w1 fun t11 =>
       joinP (σ := Bool × Unit) (fun s_1 w2 =>
         cond s_1.1
           (0 ≤ t11 ∧
            I1 ((IntKind.i64.wrap (s.1 + ((32768 : Int).fdiv (2 ^ (min t11.toNat IntKind.i64.bits))))), (IntKind.i64.wrap (s.2.1 + (1 : Int))), ()) w2)
           (I1 (s.1, (IntKind.i64.wrap (s.2.1 + (1 : Int))), ()) w2)) fun J2 =>
       cond (decide (t11 > (0 : Int)))
         (J2 ((decide (t11 ≤ (15 : Int))), ()) w1)
         (J2 (false, ()) w1))
      (K s.1 w1)) (0, 0, ()) w

def an_huff_room : List Ann := [.none, .none, .none, .none, .join [(3, (Kind.int .i64)), (8, (Kind.int .i64))] [3, 5, 8, 9, 10, 11, 12, 13, 14, 15, 16, 17, 18, 19, 20, 21, 22], .none, .none, .none, .none, .join [(17, Kind.bool)] [12, 13, 14, 15, 16, 17], .none]

theorem vc_huff_room (lengths : Slc) (w : World) (K : Int → World → Prop) :
    vcFn C (Try.f107.body.getD .skip) Try.f107.results.toList Try.f107.ntmps an_huff_room [(Kind.int .i64)] [(.slice lengths.a lengths.n lengths.c)] w (fun s w => K s.1 w) = sh_huff_room lengths w K := by kernel_rfl

theorem call_huff_room (lengths : Slc) {w : World} {K : Int → World → Prop} (h : sh_huff_room lengths w K) : c_huff_room lengths w K := by
  rw [← vc_huff_room] at h
  refine Calls.mono (calls_of_vc C.plain_ok C.mixed Try.func107 rfl h) ?_
  rintro e w' ⟨s, rfl, hK⟩
  exact ⟨s.1, rfl, hK⟩

/-- (*phosphor/huff.Table).deal -/
def sh_huff_Table_deal (t : Option Addr) (w : World) (K : World → Prop) : Prop :=
  loopP (σ := Int × Int × Unit) (fun I1 s w1 =>
    cond (decide (s.2.1 ≤ (15 : Int)))
      (onPtr t fun t11 =>
       ldSl (t11.add 18) w1 fun t13 =>
       loopP (σ := Int × Int × Unit) (fun I2 s_1 w2 =>
         cond (decide (s_1.2.1 < ((t13.n : Nat) : Int)))
           (ixK t13 s_1.2.1 1 fun t18 =>
            ldI .u8 t18 w2 fun t19 =>
            cond ((IntKind.i64.wrap t19) == s.2.1)
              (onPtr t fun t26 =>
               ldSl (t26.add 16) w2 fun t28 =>
               nw ty_int [(.int .i64 s_1.2.1)] w2 fun t30 w3 =>
               apK PG #[ty_sl_int, ty_sl_int] ty_sl_int t28 (⟨(some t30), 1, 1⟩ : Slc) w3 fun t31 w4 =>
               onPtr t fun t32 =>
               stK (t32.add 16) [(.slice t31.a t31.n t31.c)] w4 fun w5 =>
               onPtr t fun t35 =>
               ldSl (t35.add 17) w5.drew fun t37 =>
               c_bits_Reverse s_1.1 s.2.1 w5.drew fun t41 w6 =>
               World.cell? w6 (t35.add 17) = some (.slice t37.a t37.n t37.c) ∧
               ixK t37 s_1.2.1 1 fun t42 =>
               stK t42 [(.int .u32 t41)] w6 fun w7 =>
               I2 ((IntKind.u32.wrap (s_1.1 + (1 : Int))), (IntKind.i64.wrap (s_1.2.1 + (1 : Int))), ()) w7)
              (I2 (s_1.1, (IntKind.i64.wrap (s_1.2.1 + (1 : Int))), ()) w2))
           (0 ≤ (1 : Int) ∧
            I1 ((IntKind.u32.wrap (s_1.1 * 2 ^ (min (1 : Int).toNat IntKind.u32.bits))), (IntKind.i64.wrap (s.2.1 + (1 : Int))), ()) w2)) (s.1, 0, ()) w1)
      (K w1)) (0, 1, ()) w

def an_huff_Table_deal : List Ann := [.none, .none, .join [(2, (Kind.int .u32)), (3, (Kind.int .i64))] [2, 3, 4, 5, 6, 7, 8, 9, 10, 11, 12, 13, 14, 15, 16, 17, 18, 19, 20, 21, 22, 23, 24, 25, 26, 27, 28, 29, 30, 31, 32, 33, 34, 35, 36, 37, 38, 39, 40, 41, 42, 43, 44, 45, 46, 47], .none, .none, .none, .none, .none, .join [(2, (Kind.int .u32)), (15, (Kind.int .i64))] [2, 4, 5, 15, 16, 17, 18, 19, 20, 21, 22, 23, 24, 25, 26, 27, 28, 29, 30, 31, 32, 33, 34, 35, 36, 37, 38, 39, 40, 41, 42, 43, 44, 45], .none, .none, .none, .none, .none, .none, .none]

theorem vc_huff_Table_deal (t : Option Addr) (w : World) (K : World → Prop) :
    vcFn C (Try.f108.body.getD .skip) Try.f108.results.toList Try.f108.ntmps an_huff_Table_deal [] [(.pointer t)] w (fun s w => K w) = sh_huff_Table_deal t w K := by kernel_rfl

theorem call_huff_Table_deal (t : Option Addr) {w : World} {K : World → Prop} (h : sh_huff_Table_deal t w K) : c_huff_Table_deal t w K := by
  rw [← vc_huff_Table_deal] at h
  refine Calls.mono (calls_of_vc C.plain_ok C.mixed Try.func108 rfl h) ?_
  rintro e w' ⟨s, rfl, hK⟩
  exact ⟨rfl, hK⟩

/-- phosphor/phosphorref4.Complete -/
def sh_phosphorref4_Complete (l : Slc) (w : World) (K : Int → World → Prop) : Prop :=
  loopP (σ := Int × Int × Unit) (fun I1 s w1 =>
    cond (decide (s.2.1 < ((l.n : Nat) : Int)))
      (joinP (σ := Bool × Unit) (fun s_1 w2 =>
         cond s_1.1
           (ixK l s.2.1 1 fun t26 =>
            ldI .u8 t26 w2 fun t27 =>
            0 ≤ (IntKind.u64.wrap (IntKind.u8.wrap ((15 : Int) - t27))) ∧
            I1 ((IntKind.i64.wrap (s.1 + (IntKind.i64.wrap ((1 : Int) * 2 ^ (min (IntKind.u64.wrap (IntKind.u8.wrap ((15 : Int) - t27))).toNat IntKind.i64.bits))))), (IntKind.i64.wrap (s.2.1 + (1 : Int))), ()) w2)
           (I1 (s.1, (IntKind.i64.wrap (s.2.1 + (1 : Int))), ()) w2)) fun J2 =>
       ixK l s.2.1 1 fun t13 =>
       ldI .u8 t13 w1 fun t14 =>
       cond (decide (t14 ≥ (1 : Int)))
         (ixK l s.2.1 1 fun t19 =>
          ldI .u8 t19 w1 fun t20 =>
          J2 ((decide (t20 ≤ (15 : Int))), ()) w1)
         (J2 (false, ()) w1))
      (cond (decide (s.1 < (32768 : Int)))
         (K (-1) w1)
         (cond (decide (s.1 > (32768 : Int)))
            (K 1 w1)
            (K 0 w1)))) (0, 0, ()) w

def an_phosphorref4_Complete : List Ann := [.none, .none, .none, .none, .join [(3, (Kind.int .i64)), (4, (Kind.int .i64))] [3, 4, 5, 6, 7, 8, 9, 10, 11, 12, 13, 14, 15, 16, 17, 18, 19, 20, 21, 22, 23, 24, 25, 26, 27, 28, 29, 30, 31], .none, .none, .none, .join [(22, Kind.bool)] [11, 12, 13, 14, 15, 16, 17, 18, 19, 20, 21, 22], .none, .none, .none, .none, .none, .none]

theorem vc_phosphorref4_Complete (l : Slc) (w : World) (K : Int → World → Prop) :
    vcFn C (Try.f109.body.getD .skip) Try.f109.results.toList Try.f109.ntmps an_phosphorref4_Complete [(Kind.int .i64)] [(.slice l.a l.n l.c)] w (fun s w => K s.1 w) = sh_phosphorref4_Complete l w K := by kernel_rfl

theorem call_phosphorref4_Complete (l : Slc) {w : World} {K : Int → World → Prop} (h : sh_phosphorref4_Complete l w K) : c_phosphorref4_Complete l w K := by
  rw [← vc_phosphorref4_Complete] at h
  refine Calls.mono (calls_of_vc C.plain_ok C.mixed Try.func109 rfl h) ?_
  rintro e w' ⟨s, rfl, hK⟩
  exact ⟨s.1, rfl, hK⟩

/-- phosphor/phosphorref1.Reverse -/
def sh_phosphorref1_Reverse (v : Int) (n : Int) (w : World) (K : Int → World → Prop) : Prop :=
  joinP (σ := Unit) (fun s w1 =>
    loopP (σ := Int × Int × Unit) (fun I2 s_1 w2 =>
      cond (decide (s_1.2.1 < n))
        (0 ≤ (1 : Int) ∧
         0 ≤ (IntKind.u64.wrap s_1.2.1) ∧
         I2 ((bitsR .or .u32 (IntKind.u32.wrap (s_1.1 * 2 ^ (min (1 : Int).toNat IntKind.u32.bits))) (bitsR .and .u32 (v.fdiv (2 ^ (min (IntKind.u64.wrap s_1.2.1).toNat IntKind.u32.bits))) (1 : Int))), (IntKind.i64.wrap (s_1.2.1 + (1 : Int))), ()) w2)
        (K s_1.1 w2)) (0, 0, ()) w1) fun J1 =>
  cond (decide (n < (0 : Int)))
    (K 0 w)
    (cond (decide (n > (32 : Int)))
       (K 0 w)
       (J1 (()) w))

def an_phosphorref1_Reverse : List Ann := [.none, .join [] [4, 7, 8, 9, 10, 11, 12], .none, .none, .none, .none, .none, .join [(5, (Kind.int .u32)), (6, (Kind.int .i64))] [5, 6, 13, 14, 15, 16, 17, 18, 19, 20, 21, 22, 23, 24, 25], .none, .none, .none, .none]

theorem vc_phosphorref1_Reverse (v : Int) (n : Int) (w : World) (K : Int → World → Prop) :
    vcFn C (Try.f110.body.getD .skip) Try.f110.results.toList Try.f110.ntmps an_phosphorref1_Reverse [(Kind.int .u32)] [(.int .u32 v), (.int .i64 n)] w (fun s w => K s.1 w) = sh_phosphorref1_Reverse v n w K := by kernel_rfl

theorem call_phosphorref1_Reverse (v : Int) (n : Int) {w : World} {K : Int → World → Prop} (h : sh_phosphorref1_Reverse v n w K) : c_phosphorref1_Reverse v n w K := by
  rw [← vc_phosphorref1_Reverse] at h
  refine Calls.mono (calls_of_vc C.plain_ok C.mixed Try.func110 rfl h) ?_
  rintro e w' ⟨s, rfl, hK⟩
  exact ⟨s.1, rfl, hK⟩

/-- phosphor/bits.NewReader -/
def sh_bits_NewReader (b : Slc) (w : World) (K : Option Addr → World → Prop) : Prop :=
  c_slices_Clone_byte_byte b w fun t4 w1 =>
  nw ty_bits_Reader [(.slice t4.a t4.n t4.c), (.int .i64 0)] w1 fun t6 w2 =>
  K (some t6) w2

def an_bits_NewReader : List Ann := [.none, .none]

theorem vc_bits_NewReader (b : Slc) (w : World) (K : Option Addr → World → Prop) :
    vcFn C (Try.f111.body.getD .skip) Try.f111.results.toList Try.f111.ntmps an_bits_NewReader [Kind.ptr] [(.slice b.a b.n b.c)] w (fun s w => K s.1 w) = sh_bits_NewReader b w K := by kernel_rfl

theorem call_bits_NewReader (b : Slc) {w : World} {K : Option Addr → World → Prop} (h : sh_bits_NewReader b w K) : c_bits_NewReader b w K := by
  rw [← vc_bits_NewReader] at h
  refine Calls.mono (calls_of_vc C.plain_ok C.mixed Try.func111 rfl h) ?_
  rintro e w' ⟨s, rfl, hK⟩
  exact ⟨s.1, rfl, hK⟩

/-- (*phosphor/bits.Reader).Bits -/
def sh_bits_Reader_Bits (r : Option Addr) (n : Int) (w : World) (K : Int → Bool → World → Prop) : Prop :=
  c_bits_Reader_Peek r n w fun t11 t11_1 w1 =>
  joinP (σ := Unit) (fun s w2 =>
    K t11 t11_1 w2) fun J1 =>
  cond t11_1
    (onPtr r fun t16 =>
     ldI .i64 (t16.add 1) w1 fun t18 =>
     onPtr r fun t21 =>
     stK (t21.add 1) [(.int .i64 (IntKind.i64.wrap (t18 + n)))] w1 fun w3 =>
     J1 (()) w3)
    (J1 (()) w1)

def an_bits_Reader_Bits : List Ann := [.none, .none, .join [] [14, 15, 16, 17, 18, 19, 20, 21, 22], .none, .none]

theorem vc_bits_Reader_Bits (r : Option Addr) (n : Int) (w : World) (K : Int → Bool → World → Prop) :
    vcFn C (Try.f112.body.getD .skip) Try.f112.results.toList Try.f112.ntmps an_bits_Reader_Bits [(Kind.int .u32), Kind.bool] [(.pointer r), (.int .i64 n)] w (fun s w => K s.1 s.2.1 w) = sh_bits_Reader_Bits r n w K := by kernel_rfl

theorem call_bits_Reader_Bits (r : Option Addr) (n : Int) {w : World} {K : Int → Bool → World → Prop} (h : sh_bits_Reader_Bits r n w K) : c_bits_Reader_Bits r n w K := by
  rw [← vc_bits_Reader_Bits] at h
  refine Calls.mono (calls_of_vc C.plain_ok C.mixed Try.func112 rfl h) ?_
  rintro e w' ⟨s, rfl, hK⟩
  exact ⟨s.1, s.2.1, rfl, hK⟩

/-- (*phosphor/bits.Reader).At -/
def sh_bits_Reader_At (r : Option Addr) (w : World) (K : Int → World → Prop) : Prop :=
  onPtr r fun t4 =>
  ldI .i64 (t4.add 1) w fun t6 =>
  K t6 w

def an_bits_Reader_At : List Ann := [.none, .none]

theorem vc_bits_Reader_At (r : Option Addr) (w : World) (K : Int → World → Prop) :
    vcFn C (Try.f113.body.getD .skip) Try.f113.results.toList Try.f113.ntmps an_bits_Reader_At [(Kind.int .i64)] [(.pointer r)] w (fun s w => K s.1 w) = sh_bits_Reader_At r w K := by kernel_rfl

theorem call_bits_Reader_At (r : Option Addr) {w : World} {K : Int → World → Prop} (h : sh_bits_Reader_At r w K) : c_bits_Reader_At r w K := by
  rw [← vc_bits_Reader_At] at h
  refine Calls.mono (calls_of_vc C.plain_ok C.mixed Try.func113 rfl h) ?_
  rintro e w' ⟨s, rfl, hK⟩
  exact ⟨s.1, rfl, hK⟩

/-- (*phosphor/inflate.Decoder).step -/
def sh_inflate_Decoder_step (d : Option Addr) (r : Option Addr) (w : World) (K : Int → World → Prop) : Prop :=
  onPtr d fun t6 =>
  ldI .i64 (t6.add 1) w fun t8 =>
  cond (t8 == (0 : Int))
    (c_inflate_Decoder_head d r w fun t13 w1 =>
     K t13 w1)
    (cond (t8 == (1 : Int))
       (c_inflate_Decoder_stored d r w fun t18 w2 =>
        K t18 w2)
       (cond (t8 == (2 : Int))
          (c_inflate_Decoder_bytes d r w fun t23 w3 =>
           K t23 w3)
          (cond (t8 == (3 : Int))
             (c_inflate_Decoder_dynamic d r w fun t28 w4 =>
              K t28 w4)
             (c_inflate_Decoder_code d r w fun t31 w5 =>
              K t31 w5))))

def an_inflate_Decoder_step : List Ann := [.none, .none, .none, .none, .none, .none, .none, .none, .none, .none, .none, .none]

theorem vc_inflate_Decoder_step (d : Option Addr) (r : Option Addr) (w : World) (K : Int → World → Prop) :
    vcFn C (Try.f114.body.getD .skip) Try.f114.results.toList Try.f114.ntmps an_inflate_Decoder_step [(Kind.int .i64)] [(.pointer d), (.pointer r)] w (fun s w => K s.1 w) = sh_inflate_Decoder_step d r w K := by kernel_rfl

theorem call_inflate_Decoder_step (d : Option Addr) (r : Option Addr) {w : World} {K : Int → World → Prop} (h : sh_inflate_Decoder_step d r w K) : c_inflate_Decoder_step d r w K := by
  rw [← vc_inflate_Decoder_step] at h
  refine Calls.mono (calls_of_vc C.plain_ok C.mixed Try.func114 rfl h) ?_
  rintro e w' ⟨s, rfl, hK⟩
  exact ⟨s.1, rfl, hK⟩

/-- (*phosphor/bits.Reader).Back -/
def sh_bits_Reader_Back (r : Option Addr) (at_ : Int) (w : World) (K : World → Prop) : Prop :=
  onPtr r fun t8 =>
  ldI .i64 (t8.add 1) w fun t10 =>
  onPtr r fun t12 =>
  stK (t12.add 1) [(.int .i64 (if t10 < (if (0 : Int) > at_ then (0 : Int) else at_) then t10 else (if (0 : Int) > at_ then (0 : Int) else at_)))] w fun w1 =>
  K w1

def an_bits_Reader_Back : List Ann := []

theorem vc_bits_Reader_Back (r : Option Addr) (at_ : Int) (w : World) (K : World → Prop) :
    vcFn C (Try.f115.body.getD .skip) Try.f115.results.toList Try.f115.ntmps an_bits_Reader_Back [] [(.pointer r), (.int .i64 at_)] w (fun s w => K w) = sh_bits_Reader_Back r at_ w K := by kernel_rfl

theorem call_bits_Reader_Back (r : Option Addr) (at_ : Int) {w : World} {K : World → Prop} (h : sh_bits_Reader_Back r at_ w K) : c_bits_Reader_Back r at_ w K := by
  rw [← vc_bits_Reader_Back] at h
  refine Calls.mono (calls_of_vc C.plain_ok C.mixed Try.func115 rfl h) ?_
  rintro e w' ⟨s, rfl, hK⟩
  exact ⟨rfl, hK⟩

/-- phosphor/phosphorref7.size -/
def sh_phosphorref7_size (wx : Int) (hx : Int) (w : World) (K : Bool → World → Prop) : Prop :=
  cond (wx == (0 : Int))
    (cond (hx == (0 : Int))
       (K true w)
       (cond (decide (wx ≥ (1 : Int)))
          (cond (decide (wx ≤ (16384 : Int)))
             (cond (decide (hx ≥ (1 : Int)))
                (cond (decide (hx ≤ (16384 : Int)))
                   (K (decide ((IntKind.i64.wrap (wx * hx)) ≤ (67108864 : Int))) w)
                   (K false w))
                (K false w))
             (K false w))
          (K false w)))
    (cond (decide (wx ≥ (1 : Int)))
       (cond (decide (wx ≤ (16384 : Int)))
          (cond (decide (hx ≥ (1 : Int)))
             (cond (decide (hx ≤ (16384 : Int)))
                (K (decide ((IntKind.i64.wrap (wx * hx)) ≤ (67108864 : Int))) w)
                (K false w))
             (K false w))
          (K false w))
       (K false w))

def an_phosphorref7_size : List Ann := [.none, .none]

theorem vc_phosphorref7_size (wx : Int) (hx : Int) (w : World) (K : Bool → World → Prop) :
    vcFn C (Try.f117.body.getD .skip) Try.f117.results.toList Try.f117.ntmps an_phosphorref7_size [Kind.bool] [(.int .i64 wx), (.int .i64 hx)] w (fun s w => K s.1 w) = sh_phosphorref7_size wx hx w K := by kernel_rfl

theorem call_phosphorref7_size (wx : Int) (hx : Int) {w : World} {K : Bool → World → Prop} (h : sh_phosphorref7_size wx hx w K) : c_phosphorref7_size wx hx w K := by
  rw [← vc_phosphorref7_size] at h
  refine Calls.mono (calls_of_vc C.plain_ok C.mixed Try.func117 rfl h) ?_
  rintro e w' ⟨s, rfl, hK⟩
  exact ⟨s.1, rfl, hK⟩

/-- phosphor/phosphorref7.Same -/
def sh_phosphorref7_Same (a : T_phosphorref7_Matrix) (b : T_phosphorref7_Matrix) (w : World) (K : Bool → World → Prop) : Prop :=
  nw ty_phosphorref7_Matrix (T_phosphorref7_Matrix.rep.cells a) w fun a_1 w1 =>
  nw ty_phosphorref7_Matrix (T_phosphorref7_Matrix.rep.cells b) w1 fun b_1 w2 =>
  ldI .i64 (a_1.add 0) w2 fun t6 =>
  ldI .i64 (b_1.add 0) w2 fun t8 =>
  cond (t6 == t8)
    (ldI .i64 (a_1.add 1) w2 fun t12 =>
     ldI .i64 (b_1.add 1) w2 fun t14 =>
     cond (t12 == t14)
       (ldSl (a_1.add 2) w2 fun t19 =>
        runK1 PG (convert ty_sl_uint8 ty_string (.slice t19.a t19.n t19.c)) Kind.string w2 fun (t20 : ByteArray) w3 =>
        ldSl (b_1.add 2) w3 fun t22 =>
        runK1 PG (convert ty_sl_uint8 ty_string (.slice t22.a t22.n t22.c)) Kind.string w3 fun (t23 : ByteArray) w4 =>
        K (t20.toList == t23.toList) w4)
       (K false w2))
    (K false w2)

def an_phosphorref7_Same : List Ann := [.none, .none]

theorem vc_phosphorref7_Same (a : T_phosphorref7_Matrix) (b : T_phosphorref7_Matrix) (w : World) (K : Bool → World → Prop) :
    vcFn C (Try.f118.body.getD .skip) Try.f118.results.toList Try.f118.ntmps an_phosphorref7_Same [Kind.bool] [(.agg #[(.int .i64 a.W), (.int .i64 a.H), (.slice a.P.a a.P.n a.P.c)]), (.agg #[(.int .i64 b.W), (.int .i64 b.H), (.slice b.P.a b.P.n b.P.c)])] w (fun s w => K s.1 w) = sh_phosphorref7_Same a b w K := by kernel_rfl

theorem call_phosphorref7_Same (a : T_phosphorref7_Matrix) (b : T_phosphorref7_Matrix) {w : World} {K : Bool → World → Prop} (h : sh_phosphorref7_Same a b w K) : c_phosphorref7_Same a b w K := by
  rw [← vc_phosphorref7_Same] at h
  refine Calls.mono (calls_of_vc C.plain_ok C.mixed Try.func118 rfl h) ?_
  rintro e w' ⟨s, rfl, hK⟩
  exact ⟨s.1, rfl, hK⟩

/-- slices.Grow[[]byte,byte] -/
def sh_slices_Grow_byte_byte (s : Slc) (n : Int) (w : World) (K : Slc → World → Prop) : Prop :=
  joinP (σ := Unit) (fun s_1 w1 =>
    cond (decide ((IntKind.i64.wrap (n - (IntKind.i64.wrap (((s.c : Nat) : Int) - ((s.n : Nat) : Int))))) > (0 : Int)))
      (slK s none (some ((s.c : Nat) : Int)) 1 fun t20 =>
       apM PG #[ty_sl_uint8, ty_int] ty_sl_uint8 t20 (IntKind.i64.wrap (n - (IntKind.i64.wrap (((s.c : Nat) : Int) - ((s.n : Nat) : Int))))) .i64 w1 fun t22 w2 =>
       slK t22 none (some ((s.n : Nat) : Int)) 1 fun t25 =>
       K t25 w2)
      (K s w1)) fun J1 =>
  cond (decide (n < (0 : Int)))
    (False)
    (J1 (()) w)

def an_slices_Grow_byte_byte : List Ann := [.none, .join [] [5, 6, 7], .none, .none, .none, .none, .none]

theorem vc_slices_Grow_byte_byte (s : Slc) (n : Int) (w : World) (K : Slc → World → Prop) :
    vcFn C (Try.f119.body.getD .skip) Try.f119.results.toList Try.f119.ntmps an_slices_Grow_byte_byte [Kind.slice] [(.slice s.a s.n s.c), (.int .i64 n)] w (fun s w => K s.1 w) = sh_slices_Grow_byte_byte s n w K := by kernel_rfl

theorem call_slices_Grow_byte_byte (s : Slc) (n : Int) {w : World} {K : Slc → World → Prop} (h : sh_slices_Grow_byte_byte s n w K) : c_slices_Grow_byte_byte s n w K := by
  rw [← vc_slices_Grow_byte_byte] at h
  refine Calls.mono (calls_of_vc C.plain_ok C.mixed Try.func119 rfl h) ?_
  rintro e w' ⟨s, rfl, hK⟩
  exact ⟨s.1, rfl, hK⟩

/-- (*phosphor/phosphorref5.state).block -/
def sh_phosphorref5_state_block (s : Option Addr) (w : World) (K : Bool → Int → World → Prop) : Prop :=
  onPtr s fun t17 =>
  ldP (t17.add 0) w fun t19 =>
  c_phosphorref1_Reader_Bits t19 1 w fun t20 t20_1 w1 =>
  cond (!t20_1)
    (K false 2 w1)
    (onPtr s fun t27 =>
     ldP (t27.add 0) w1 fun t29 =>
     c_phosphorref1_Reader_Bits t29 2 w1 fun t30 t30_1 w2 =>
     cond (!t30_1)
       (K false 2 w2)
       (cond (t30 == (0 : Int))
          (c_phosphorref5_state_stored s w2 fun t41 w3 =>
           K (t20 == (1 : Int)) t41 w3)
          (cond (t30 == (1 : Int))
             (c_phosphorref4_Fixed  w2 fun t45 t45_1 w4 =>
              c_phosphorref4_New t45 w4 fun t50 t50_1 w5 =>
              mkSl PG ty_sl_uint8 (.int .i64 32) (.int .i64 32) w5 fun t53 w6 =>
              loopP (σ := Int × Unit) (fun I1 s_1 w7 =>
                cond (decide (s_1.1 < (32 : Int)))
                  (ixK t53 s_1.1 1 fun t60 =>
                   stK t60 [(.int .u8 5)] w7 fun w8 =>
                   I1 ((IntKind.i64.wrap (s_1.1 + (1 : Int))), ()) w8)
                  (c_phosphorref4_New t53 w7 fun t63 t63_1 w9 =>
                   c_phosphorref5_state_codes s t50 t63 w9 fun t71 w10 =>
                   K (t20 == (1 : Int)) t71 w10)) (0, ()) w6)
             (cond (t30 == (2 : Int))
                (c_phosphorref5_state_dynamic s w2 fun t77 w11 =>
                 K (t20 == (1 : Int)) t77 w11)
                (K false 3 w2)))))

def an_phosphorref5_state_block : List Ann := [.none, .none, .none, .none, .none, .none, .none, .none, .none, .none, .none, .none, .none, .none, .none, .none, .none, .none, .none, .join [(12, (Kind.int .i64))] [12, 54, 55, 56, 57, 58, 59, 60], .none, .none, .none, .none, .none, .none, .none, .none]

theorem vc_phosphorref5_state_block (s : Option Addr) (w : World) (K : Bool → Int → World → Prop) :
    vcFn C (Try.f120.body.getD .skip) Try.f120.results.toList Try.f120.ntmps an_phosphorref5_state_block [Kind.bool, (Kind.int .i64)] [(.pointer s)] w (fun s w => K s.1 s.2.1 w) = sh_phosphorref5_state_block s w K := by kernel_rfl

theorem call_phosphorref5_state_block (s : Option Addr) {w : World} {K : Bool → Int → World → Prop} (h : sh_phosphorref5_state_block s w K) : c_phosphorref5_state_block s w K := by
  rw [← vc_phosphorref5_state_block] at h
  refine Calls.mono (calls_of_vc C.plain_ok C.mixed Try.func120 rfl h) ?_
  rintro e w' ⟨s, rfl, hK⟩
  exact ⟨s.1, s.2.1, rfl, hK⟩

/-- cmp.isNaN[int64] -/
def sh_cmp_isNaN_int64 (x : Int) (w : World) (K : Bool → World → Prop) : Prop :=
  K (x != x) w

def an_cmp_isNaN_int64 : List Ann := [.none, .none]

theorem vc_cmp_isNaN_int64 (x : Int) (w : World) (K : Bool → World → Prop) :
    vcFn C (Try.f121.body.getD .skip) Try.f121.results.toList Try.f121.ntmps an_cmp_isNaN_int64 [Kind.bool] [(.int .i64 x)] w (fun s w => K s.1 w) = sh_cmp_isNaN_int64 x w K := by kernel_rfl

theorem call_cmp_isNaN_int64 (x : Int) {w : World} {K : Bool → World → Prop} (h : sh_cmp_isNaN_int64 x w K) : c_cmp_isNaN_int64 x w K := by
  rw [← vc_cmp_isNaN_int64] at h
  refine Calls.mono (calls_of_vc C.plain_ok C.mixed Try.func121 rfl h) ?_
  rintro e w' ⟨s, rfl, hK⟩
  exact ⟨s.1, rfl, hK⟩

/-- math/bits.Len -/
def sh_math_bits_Len (x : Int) (w : World) (K : Int → World → Prop) : Prop :=
  c_math_bits_Len64 x w fun t7 w1 =>
  K t7 w1

def an_math_bits_Len : List Ann := [.none, .none, .none, .none]

theorem vc_math_bits_Len (x : Int) (w : World) (K : Int → World → Prop) :
    vcFn C (Try.f124.body.getD .skip) Try.f124.results.toList Try.f124.ntmps an_math_bits_Len [(Kind.int .i64)] [(.int .u64 x)] w (fun s w => K s.1 w) = sh_math_bits_Len x w K := by kernel_rfl

theorem call_math_bits_Len (x : Int) {w : World} {K : Int → World → Prop} (h : sh_math_bits_Len x w K) : c_math_bits_Len x w K := by
  rw [← vc_math_bits_Len] at h
  refine Calls.mono (calls_of_vc C.plain_ok C.mixed Try.func124 rfl h) ?_
  rintro e w' ⟨s, rfl, hK⟩
  exact ⟨s.1, rfl, hK⟩

/-- phosphor/bits.Reverse -/
def sh_bits_Reverse (v : Int) (n : Int) (w : World) (K : Int → World → Prop) : Prop :=
  joinP (σ := Unit) (fun s w1 =>
    loopP (σ := Int × Int × Int × Unit) (fun I2 s_1 w2 =>
      cond (decide (s_1.2.2.1 < n))
        (0 ≤ (1 : Int) ∧
         0 ≤ (1 : Int) ∧
         I2 ((s_1.1.fdiv (2 ^ (min (1 : Int).toNat IntKind.u32.bits))), (bitsR .or .u32 (IntKind.u32.wrap (s_1.2.1 * 2 ^ (min (1 : Int).toNat IntKind.u32.bits))) (bitsR .and .u32 s_1.1 (1 : Int))), (IntKind.i64.wrap (s_1.2.2.1 + (1 : Int))), ()) w2)
        (K s_1.2.1 w2)) (v, 0, 0, ()) w1) fun J1 =>
  cond (decide (n < (0 : Int)))
    (K 0 w)
    (cond (decide (n > (32 : Int)))
       (K 0 w)
       (J1 (()) w))

def an_bits_Reverse : List Ann := [.none, .join [] [4, 6, 7, 8, 9, 10, 11], .none, .none, .none, .none, .none, .join [(0, (Kind.int .u32)), (5, (Kind.int .u32)), (13, (Kind.int .i64))] [0, 5, 13, 14, 15, 16, 17, 18, 19, 20, 21, 22], .none, .none, .none, .none, .none]

theorem vc_bits_Reverse (v : Int) (n : Int) (w : World) (K : Int → World → Prop) :
    vcFn C (Try.f125.body.getD .skip) Try.f125.results.toList Try.f125.ntmps an_bits_Reverse [(Kind.int .u32)] [(.int .u32 v), (.int .i64 n)] w (fun s w => K s.1 w) = sh_bits_Reverse v n w K := by kernel_rfl

theorem call_bits_Reverse (v : Int) (n : Int) {w : World} {K : Int → World → Prop} (h : sh_bits_Reverse v n w K) : c_bits_Reverse v n w K := by
  rw [← vc_bits_Reverse] at h
  refine Calls.mono (calls_of_vc C.plain_ok C.mixed Try.func125 rfl h) ?_
  rintro e w' ⟨s, rfl, hK⟩
  exact ⟨s.1, rfl, hK⟩

end Go.Proofs.Yteffnkpplhcomaa
