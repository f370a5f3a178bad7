/- By program (gen.py): the typed text of the program's functions, part 1. -/
import Derived.Test.YteffnkpplhcomaaDefs
set_option maxRecDepth 100000
set_option linter.unusedVariables false
namespace Go.Proofs.Yteffnkpplhcomaa
open Go.Vc

/-- phosphor/phosphorlaw6.known -/
def sh_phosphorlaw6_known  (w : World) (K : Bool → World → Prop) : Prop :=
  nw ty_uint8 [(.int .u8 97), (.int .u8 98), (.int .u8 99)] w fun t8 w1 =>
  runK1 PG (convert ty_sl_uint8 ty_sl_uint8 (.slice (some t8) 3 3)) Kind.slice w1 fun (t9 : Slc) w2 =>
  c_zlib_Pack t9 false w2 fun t10 w3 =>
  c_zlib_Unpack t10 3 w3 fun t13 t13_1 t13_2 w4 =>
  nw ty_uint8 [(.int .u8 120), (.int .u8 2)] w4 fun t18 w5 =>
  c_zlib_Unpack (⟨(some t18), 2, 2⟩ : Slc) 3 w5 fun t19 t19_1 t19_2 w6 =>
  runK1 PG (convert ty_sl_uint8 ty_string (.slice t10.a t10.n t10.c)) Kind.string w6 fun (t24 : ByteArray) w7 =>
  cond (t24.toList == (⟨#[120, 1, 1, 3, 0, 252, 255, 97, 98, 99, 2, 77, 1, 39]⟩ : ByteArray).toList)
    (runK1 PG (convert ty_sl_uint8 ty_string (.slice t13.a t13.n t13.c)) Kind.string w7 fun (t28 : ByteArray) w8 =>
     cond (t28.toList == (⟨#[97, 98, 99]⟩ : ByteArray).toList)
       (cond (t13_1 == ((t10.n : Nat) : Int))
          (cond (t13_2 == (0 : Int))
             (K (t19_2 == (3 : Int)) w8)
             (K false w8))
          (K false w8))
       (K false w8))
    (K false w7)

def an_phosphorlaw6_known : List Ann := [.none, .none, .none, .none, .none]

theorem vc_phosphorlaw6_known  (w : World) (K : Bool → World → Prop) :
    vcFn C (Try.f43.body.getD .skip) Try.f43.results.toList Try.f43.ntmps an_phosphorlaw6_known [Kind.bool] [] w (fun s w => K s.1 w) = sh_phosphorlaw6_known  w K := by kernel_rfl

theorem call_phosphorlaw6_known  {w : World} {K : Bool → World → Prop} (h : sh_phosphorlaw6_known  w K) : c_phosphorlaw6_known  w K := by
  rw [← vc_phosphorlaw6_known] at h
  refine Calls.mono (calls_of_vc C.plain_ok C.mixed Try.func43 rfl h) ?_
  rintro e w' ⟨s, rfl, hK⟩
  exact ⟨s.1, rfl, hK⟩

/-- phosphor/zlib.Unpack -/
def sh_zlib_Unpack (b : Slc) (most : Int) (w : World) (K : Slc → Int → Int → World → Prop) : Prop :=
  c_zlib_New most w fun t12 t12_1 w1 =>
  cond (t12_1 != (0 : Int))
    (K (⟨none, 0, 0⟩ : Slc) 0 t12_1 w1)
    (c_zlib_Decoder_Write t12 b w1 fun t21 t21_1 w2 =>
     cond (t21_1 != (0 : Int))
       (K (⟨none, 0, 0⟩ : Slc) 0 t21_1 w2)
       (c_zlib_Decoder_Done t12 w2 fun t30 w3 =>
        cond (!t30)
          (K (⟨none, 0, 0⟩ : Slc) 0 2 w3)
          (c_zlib_Decoder_Used t12 w3 fun t34 w4 =>
           K t21 t34 0 w4)))

def an_zlib_Unpack : List Ann := [.none, .none, .none, .none, .none, .none, .none, .none, .none, .none, .none, .none]

theorem vc_zlib_Unpack (b : Slc) (most : Int) (w : World) (K : Slc → Int → Int → World → Prop) :
    vcFn C (Try.f44.body.getD .skip) Try.f44.results.toList Try.f44.ntmps an_zlib_Unpack [Kind.slice, (Kind.int .i64), (Kind.int .i64)] [(.slice b.a b.n b.c), (.int .i64 most)] w (fun s w => K s.1 s.2.1 s.2.2.1 w) = sh_zlib_Unpack b most w K := by kernel_rfl

theorem call_zlib_Unpack (b : Slc) (most : Int) {w : World} {K : Slc → Int → Int → World → Prop} (h : sh_zlib_Unpack b most w K) : c_zlib_Unpack b most w K := by
  rw [← vc_zlib_Unpack] at h
  refine Calls.mono (calls_of_vc C.plain_ok C.mixed Try.func44 rfl h) ?_
  rintro e w' ⟨s, rfl, hK⟩
  exact ⟨s.1, s.2.1, s.2.2.1, rfl, hK⟩

/-- phosphor/phosphorref6.Unpack -/
def sh_phosphorref6_Unpack (b : Slc) (most : Int) (w : World) (K : Slc → Int → Int → World → Prop) : Prop :=
  joinP (σ := Unit) (fun s w1 =>
    c_phosphorref6_Front b most w1 fun t19 t19_1 t19_2 w2 =>
    cond (t19_2 != (0 : Int))
      (K (⟨none, 0, 0⟩ : Slc) 0 t19_2 w2)
      (K t19 t19_1 0 w2)) fun J1 =>
  joinP (σ := Bool × Unit) (fun s_1 w3 =>
    cond s_1.1
      (K (⟨none, 0, 0⟩ : Slc) 0 1 w3)
      (J1 (()) w3)) fun J2 =>
  cond (decide (most < (0 : Int)))
    (J2 (true, ()) w)
    (J2 ((decide (most > (1073741824 : Int))), ()) w)

def an_phosphorref6_Unpack : List Ann := [.none, .join [] [4, 5, 6, 10, 11, 12, 13, 14, 15], .join [(15, Kind.bool)] [10, 11, 12, 13, 14, 15], .none, .none, .none, .none, .none, .none]

theorem vc_phosphorref6_Unpack (b : Slc) (most : Int) (w : World) (K : Slc → Int → Int → World → Prop) :
    vcFn C (Try.f45.body.getD .skip) Try.f45.results.toList Try.f45.ntmps an_phosphorref6_Unpack [Kind.slice, (Kind.int .i64), (Kind.int .i64)] [(.slice b.a b.n b.c), (.int .i64 most)] w (fun s w => K s.1 s.2.1 s.2.2.1 w) = sh_phosphorref6_Unpack b most w K := by kernel_rfl

theorem call_phosphorref6_Unpack (b : Slc) (most : Int) {w : World} {K : Slc → Int → Int → World → Prop} (h : sh_phosphorref6_Unpack b most w K) : c_phosphorref6_Unpack b most w K := by
  rw [← vc_phosphorref6_Unpack] at h
  refine Calls.mono (calls_of_vc C.plain_ok C.mixed Try.func45 rfl h) ?_
  rintro e w' ⟨s, rfl, hK⟩
  exact ⟨s.1, s.2.1, s.2.2.1, rfl, hK⟩

/-- phosphor/zlib.Pack -/
def sh_zlib_Pack (b : Slc) (fixed : Bool) (w : World) (K : Slc → World → Prop) : Prop :=
  c_inflate_Store b w fun t8 w1 =>
  joinP (σ := Slc × Unit) (fun s w2 =>
    c_sums_NewAdler  w2 fun t12 w3 =>
    nw ty_sl_uint8 [(.slice b.a b.n b.c)] w3 fun t14 w4 =>
    c_sums_Of_sums_Adler t12 (⟨(some t14), 1, 1⟩ : Slc) w4 fun t15 w5 =>
    nw ty_uint8 [(.int .u8 120), (.int .u8 1)] w5 fun t16 w6 =>
    0 ≤ (24 : Int) ∧
    0 ≤ (16 : Int) ∧
    0 ≤ (8 : Int) ∧
    nw ty_uint8 [(.int .u8 (IntKind.u8.wrap (t15.fdiv (2 ^ (min (24 : Int).toNat IntKind.u32.bits))))), (.int .u8 (IntKind.u8.wrap (t15.fdiv (2 ^ (min (16 : Int).toNat IntKind.u32.bits))))), (.int .u8 (IntKind.u8.wrap (t15.fdiv (2 ^ (min (8 : Int).toNat IntKind.u32.bits))))), (.int .u8 (IntKind.u8.wrap t15))] w6 fun t29 w7 =>
    nw ty_sl_uint8 [(.slice (some t16) 2 2), (.slice s.1.a s.1.n s.1.c), (.slice (some t29) 4 4)] w7 fun t30 w8 =>
    c_slices_Concat_byte_byte (⟨(some t30), 3, 3⟩ : Slc) w8 fun t31 w9 =>
    K t31 w9) fun J1 =>
  cond fixed
    (c_inflate_Fixed b w1 fun t11 w10 =>
     J1 (t11, ()) w10)
    (J1 (t8, ()) w1)

def an_zlib_Pack : List Ann := [.none, .none, .join [(5, Kind.slice)] [5, 9, 10, 11], .none, .none, .none]

theorem vc_zlib_Pack (b : Slc) (fixed : Bool) (w : World) (K : Slc → World → Prop) :
    vcFn C (Try.f46.body.getD .skip) Try.f46.results.toList Try.f46.ntmps an_zlib_Pack [Kind.slice] [(.slice b.a b.n b.c), (.bool fixed)] w (fun s w => K s.1 w) = sh_zlib_Pack b fixed w K := by kernel_rfl

theorem call_zlib_Pack (b : Slc) (fixed : Bool) {w : World} {K : Slc → World → Prop} (h : sh_zlib_Pack b fixed w K) : c_zlib_Pack b fixed w K := by
  rw [← vc_zlib_Pack] at h
  refine Calls.mono (calls_of_vc C.plain_ok C.mixed Try.func46 rfl h) ?_
  rintro e w' ⟨s, rfl, hK⟩
  exact ⟨s.1, rfl, hK⟩

/-- phosphor/phosphorref6.Pack -/
def sh_phosphorref6_Pack (b : Slc) (fixed : Bool) (w : World) (K : Slc → World → Prop) : Prop :=
  c_phosphorref5_Store b w fun t9 w1 =>
  joinP (σ := Slc × Unit) (fun s w2 =>
    c_phosphorref2_Adler b w2 fun t14 w3 =>
    nw ty_uint8 [(.int .u8 120), (.int .u8 1)] w3 fun t15 w4 =>
    apK PG #[ty_sl_uint8, ty_sl_uint8] ty_sl_uint8 (⟨(some t15), 2, 2⟩ : Slc) s.1 w4 fun t17 w5 =>
    0 ≤ (24 : Int) ∧
    0 ≤ (16 : Int) ∧
    0 ≤ (8 : Int) ∧
    nw ty_uint8 [(.int .u8 (IntKind.u8.wrap (t14.fdiv (2 ^ (min (24 : Int).toNat IntKind.u32.bits))))), (.int .u8 (IntKind.u8.wrap (t14.fdiv (2 ^ (min (16 : Int).toNat IntKind.u32.bits))))), (.int .u8 (IntKind.u8.wrap (t14.fdiv (2 ^ (min (8 : Int).toNat IntKind.u32.bits))))), (.int .u8 (IntKind.u8.wrap t14))] w5 fun t30 w6 =>
    apK PG #[ty_sl_uint8, ty_sl_uint8] ty_sl_uint8 t17 (⟨(some t30), 4, 4⟩ : Slc) w6 fun t31 w7 =>
    K t31 w7) fun J1 =>
  cond fixed
    (c_phosphorref5_Fixed b w1 fun t12 w8 =>
     J1 (t12, ()) w8)
    (J1 (t9, ()) w1)

def an_phosphorref6_Pack : List Ann := [.none, .none, .join [(5, Kind.slice)] [5, 10, 11, 12], .none, .none, .none, .none]

theorem vc_phosphorref6_Pack (b : Slc) (fixed : Bool) (w : World) (K : Slc → World → Prop) :
    vcFn C (Try.f47.body.getD .skip) Try.f47.results.toList Try.f47.ntmps an_phosphorref6_Pack [Kind.slice] [(.slice b.a b.n b.c), (.bool fixed)] w (fun s w => K s.1 w) = sh_phosphorref6_Pack b fixed w K := by kernel_rfl

theorem call_phosphorref6_Pack (b : Slc) (fixed : Bool) {w : World} {K : Slc → World → Prop} (h : sh_phosphorref6_Pack b fixed w K) : c_phosphorref6_Pack b fixed w K := by
  rw [← vc_phosphorref6_Pack] at h
  refine Calls.mono (calls_of_vc C.plain_ok C.mixed Try.func47 rfl h) ?_
  rintro e w' ⟨s, rfl, hK⟩
  exact ⟨s.1, rfl, hK⟩

/-- phosphor/zlib.New -/
def sh_zlib_New (most : Int) (w : World) (K : Option Addr → Int → World → Prop) : Prop :=
  c_inflate_New most w fun t8 t8_1 w1 =>
  cond (t8_1 != (0 : Int))
    (K none t8_1 w1)
    (c_sums_NewAdler  w1 fun t15 w2 =>
     nw ty_zlib_Decoder [(.pointer t8), (.slice none 0 0), (.slice none 0 0), (.iface ty_p_sums_Adler (.pointer t15)), (.int .i64 0), (.int .i64 0)] w2 fun t18 w3 =>
     K (some t18) 0 w3)

def an_zlib_New : List Ann := [.none, .none, .none, .none, .none, .none]

theorem vc_zlib_New (most : Int) (w : World) (K : Option Addr → Int → World → Prop) :
    vcFn C (Try.f48.body.getD .skip) Try.f48.results.toList Try.f48.ntmps an_zlib_New [Kind.ptr, (Kind.int .i64)] [(.int .i64 most)] w (fun s w => K s.1 s.2.1 w) = sh_zlib_New most w K := by kernel_rfl

theorem call_zlib_New (most : Int) {w : World} {K : Option Addr → Int → World → Prop} (h : sh_zlib_New most w K) : c_zlib_New most w K := by
  rw [← vc_zlib_New] at h
  refine Calls.mono (calls_of_vc C.plain_ok C.mixed Try.func48 rfl h) ?_
  rintro e w' ⟨s, rfl, hK⟩
  exact ⟨s.1, s.2.1, rfl, hK⟩

/-- phosphor/phosphorref6.Front -/
def sh_phosphorref6_Front (b : Slc) (most : Int) (w : World) (K : Slc → Int → Int → World → Prop) : Prop :=
  cond (((b.n : Nat) : Int) == (0 : Int))
    (K (⟨none, 0, 0⟩ : Slc) 0 2 w)
    (joinP (σ := Unit) (fun s w1 =>
       cond (decide (((b.n : Nat) : Int) < (2 : Int)))
         (K (⟨none, 0, 0⟩ : Slc) 0 2 w1)
         (joinP (σ := Unit) (fun s_1 w2 =>
            slK b (some 2) none 1 fun t51 =>
            c_phosphorref5_Front t51 most w2 fun t53 t53_1 t53_2 w3 =>
            cond (t53_2 != (0 : Int))
              (K t53 0 t53_2 w3)
              (cond (decide (((b.n : Nat) : Int) < (IntKind.i64.wrap ((6 : Int) + t53_1))))
                 (K t53 0 2 w3)
                 (c_phosphorref2_Adler t53 w3 fun t68 w4 =>
                  slK b (some (IntKind.i64.wrap ((2 : Int) + t53_1))) none 1 fun t72 =>
                  joinP (σ := Unit) (fun s_2 w5 =>
                    K t53 (IntKind.i64.wrap ((6 : Int) + t53_1)) 0 w5) fun J3 =>
                  joinP (σ := Bool × Unit) (fun s_3 w6 =>
                    cond s_3.1
                      (K t53 0 4 w6)
                      (J3 (()) w6)) fun J4 =>
                  0 ≤ (24 : Int) ∧
                  ixK t72 0 1 fun t77 =>
                  ldI .u8 t77 w4 fun t78 =>
                  cond ((IntKind.u8.wrap (t68.fdiv (2 ^ (min (24 : Int).toNat IntKind.u32.bits)))) != t78)
                    (J4 (true, ()) w4)
                    (0 ≤ (16 : Int) ∧
                     ixK t72 1 1 fun t85 =>
                     ldI .u8 t85 w4 fun t86 =>
                     cond ((IntKind.u8.wrap (t68.fdiv (2 ^ (min (16 : Int).toNat IntKind.u32.bits)))) != t86)
                       (J4 (true, ()) w4)
                       (0 ≤ (8 : Int) ∧
                        ixK t72 2 1 fun t94 =>
                        ldI .u8 t94 w4 fun t95 =>
                        cond ((IntKind.u8.wrap (t68.fdiv (2 ^ (min (8 : Int).toNat IntKind.u32.bits)))) != t95)
                          (J4 (true, ()) w4)
                          (ixK t72 3 1 fun t102 =>
                           ldI .u8 t102 w4 fun t103 =>
                           J4 (((IntKind.u8.wrap t68) != t103), ()) w4)))))) fun J2 =>
          joinP (σ := Bool × Unit) (fun s_4 w7 =>
            cond s_4.1
              (K (⟨none, 0, 0⟩ : Slc) 0 3 w7)
              (J2 (()) w7)) fun J5 =>
          ixK b 0 1 fun t31 =>
          ldI .u8 t31 w1.drew fun t32 =>
          ixK b 1 1 fun t36 =>
          ldI .u8 t36 w1.drew fun t37 =>
          (31 : Int) ≠ 0 ∧
          cond (((IntKind.i64.wrap ((IntKind.i64.wrap ((IntKind.i64.wrap t32) * (256 : Int))) + (IntKind.i64.wrap t37))).tmod (31 : Int)) != (0 : Int))
            (J5 (true, ()) w1.drew)
            (ixK b 1 1 fun t44 =>
             ldI .u8 t44 w1.drew fun t45 =>
             J5 (((bitsR .and .u8 t45 (32 : Int)) != (0 : Int)), ()) w1.drew))) fun J1 =>
     joinP (σ := Bool × Unit) (fun s_5 w8 =>
       cond s_5.1
         (K (⟨none, 0, 0⟩ : Slc) 0 3 w8)
         (J1 (()) w8)) fun J6 =>
     ixK b 0 1 fun t16 =>
     ldI .u8 t16 w fun t17 =>
     (16 : Int) ≠ 0 ∧
     cond ((t17.tmod (16 : Int)) != (8 : Int))
       (J6 (true, ()) w)
       (ixK b 0 1 fun t22 =>
        ldI .u8 t22 w fun t23 =>
        (16 : Int) ≠ 0 ∧
        J6 ((decide ((IntKind.u8.wrap (t23.tdiv (16 : Int))) > (7 : Int))), ()) w))

def an_phosphorref6_Front : List Ann := [.none, .none, .none, .none, .join [] [4, 5, 6, 15, 16, 17, 18, 19, 20, 21, 22, 23, 24, 25, 26], .join [(26, Kind.bool)] [15, 16, 17, 18, 19, 20, 21, 22, 23, 24, 25, 26], .none, .none, .none, .none, .join [] [4, 5, 6, 30, 31, 32, 33, 34, 35, 36, 37, 38, 39, 40, 41, 42, 43, 44, 45, 46, 47, 48], .join [(48, Kind.bool)] [30, 31, 32, 33, 34, 35, 36, 37, 38, 39, 40, 41, 42, 43, 44, 45, 46, 47, 48], .none, .none, .none, .none, .none, .none, .none, .none, .none, .none, .join [] [4, 5, 6, 73, 74, 75, 76, 77, 78, 79, 80, 81, 82, 83, 84, 85, 86, 87, 88, 89, 90, 91, 92, 93, 94, 95, 96, 97, 98, 99, 100, 101, 102, 103, 104, 105, 106], .join [(105, Kind.bool)] [73, 74, 75, 76, 77, 78, 79, 80, 81, 82, 83, 84, 85, 86, 87, 88, 89, 90, 91, 92, 93, 94, 95, 96, 97, 98, 99, 100, 101, 102, 103, 104, 105], .none, .none]

theorem vc_phosphorref6_Front (b : Slc) (most : Int) (w : World) (K : Slc → Int → Int → World → Prop) :
    vcFn C (Try.f49.body.getD .skip) Try.f49.results.toList Try.f49.ntmps an_phosphorref6_Front [Kind.slice, (Kind.int .i64), (Kind.int .i64)] [(.slice b.a b.n b.c), (.int .i64 most)] w (fun s w => K s.1 s.2.1 s.2.2.1 w) = sh_phosphorref6_Front b most w K := by kernel_rfl

theorem call_phosphorref6_Front (b : Slc) (most : Int) {w : World} {K : Slc → Int → Int → World → Prop} (h : sh_phosphorref6_Front b most w K) : c_phosphorref6_Front b most w K := by
  rw [← vc_phosphorref6_Front] at h
  refine Calls.mono (calls_of_vc C.plain_ok C.mixed Try.func49 rfl h) ?_
  rintro e w' ⟨s, rfl, hK⟩
  exact ⟨s.1, s.2.1, s.2.2.1, rfl, hK⟩

/-- (*phosphor/zlib.Decoder).Write -/
def sh_zlib_Decoder_Write (d : Option Addr) (b : Slc) (w : World) (K : Slc → Int → World → Prop) : Prop :=
  onPtr d fun t10 =>
  ldI .i64 (t10.add 5) w fun t12 =>
  cond (t12 != (0 : Int))
    (onPtr d fun t15 =>
     ldI .i64 (t15.add 5) w.drew fun t17 =>
     K (⟨none, 0, 0⟩ : Slc) t17 w.drew)
    (loopP (σ := Slc × Unit) (fun I1 s w1 =>
       joinP (σ := Unit) (fun s_1 w2 =>
         ixK s.1 0 1 fun t31 =>
         ldI .u8 t31 w2 fun t32 =>
         c_zlib_Decoder_begin d t32 w2 fun t33 w3 =>
         cond (!t33)
           (c_zlib_Decoder_fail d 3 w3 fun t36 w4 =>
            K (⟨none, 0, 0⟩ : Slc) t36 w4)
           (slK s.1 (some 1) none 1 fun t38 =>
            I1 (t38, ()) w3)) fun J2 =>
       onPtr d fun t19 =>
       ldSl (t19.add 1) w1 fun t21 =>
       cond (decide (((t21.n : Nat) : Int) < (2 : Int)))
         (cond (decide (((s.1.n : Nat) : Int) > (0 : Int)))
            (J2 (()) w1)
            (onPtr d fun t40 =>
             ldP (t40.add 0) w1 fun t42 =>
             c_inflate_Decoder_Given t42 w1 fun t43 w5 =>
             onPtr d fun t46 =>
             ldP (t46.add 0) w5 fun t48 =>
             c_inflate_Decoder_Write t48 s.1 w5 fun t50 t50_1 w6 =>
             cond (t50_1 != (0 : Int))
               (c_zlib_Decoder_fail d t50_1 w6 fun t57 w7 =>
                K (⟨none, 0, 0⟩ : Slc) t57 w7)
               (onPtr d fun t59 =>
                ldR (t59.add 3) w6 fun t61 =>
                callI C t61 "Write" [(.slice t50.a t50.n t50.c)] [(Kind.int .i64), Kind.raw] w6 fun (t63 : Int) (t63_1 : Value) w8 =>
                onPtr d fun t65 =>
                ldP (t65.add 0) w8 fun t67 =>
                c_inflate_Decoder_Done t67 w8 fun t68 w9 =>
                cond (!t68)
                  (K t50 0 w9)
                  (onPtr d fun t73 =>
                   ldP (t73.add 0) w9 fun t75 =>
                   c_inflate_Decoder_Used t75 w9 fun t76 w10 =>
                   slK s.1 (some (if ((s.1.n : Nat) : Int) < (if (0 : Int) > (IntKind.i64.wrap (t76 - t43)) then (0 : Int) else (IntKind.i64.wrap (t76 - t43))) then ((s.1.n : Nat) : Int) else (if (0 : Int) > (IntKind.i64.wrap (t76 - t43)) then (0 : Int) else (IntKind.i64.wrap (t76 - t43))))) none 1 fun t83 =>
                   onPtr d fun t86 =>
                   ldSl (t86.add 2) w10.drew fun t88 =>
                   onPtr d fun t93 =>
                   ldSl (t93.add 2) w10.drew fun t95 =>
                   slK t83 none (some (if (IntKind.i64.wrap ((4 : Int) - ((t95.n : Nat) : Int))) < ((t83.n : Nat) : Int) then (IntKind.i64.wrap ((4 : Int) - ((t95.n : Nat) : Int))) else ((t83.n : Nat) : Int))) 1 fun t99 =>
                   nw ty_sl_uint8 [(.slice t88.a t88.n t88.c), (.slice t99.a t99.n t99.c)] w10.drew fun t100 w11 =>
                   c_slices_Concat_byte_byte (⟨(some t100), 2, 2⟩ : Slc) w11 fun t101 w12 =>
                   onPtr d fun t102 =>
                   stK (t102.add 2) [(.slice t101.a t101.n t101.c)] w12 fun w13 =>
                   joinP (σ := Bool × Unit) (fun s_2 w14 =>
                     cond s_2.1
                       (c_zlib_Decoder_fail d 4 w14 fun t124 w15 =>
                        K (⟨none, 0, 0⟩ : Slc) t124 w15)
                       (K t50 0 w14)) fun J3 =>
                   onPtr d fun t105 =>
                   ldSl (t105.add 2) w13.drew fun t107 =>
                   cond (((t107.n : Nat) : Int) == (4 : Int))
                     (onPtr d fun t112 =>
                      ldSl (t112.add 2) w13.drew fun t114 =>
                      onPtr d fun t117 =>
                      ldR (t117.add 3) w13.drew fun t119 =>
                      c_bits_Big t114 w13.drew fun t115 w16 =>
                      World.cell? w16 (t117.add 3) = some t119 ∧
                      callI C t119 "Sum" [] [(Kind.int .u32)] w16 fun (t120 : Int) w17 =>
                      J3 ((t115 != t120), ()) w17)
                     (J3 (false, ()) w13.drew)))))
         (onPtr d fun t40_1 =>
          ldP (t40_1.add 0) w1 fun t42_1 =>
          c_inflate_Decoder_Given t42_1 w1 fun t43_1 w18 =>
          onPtr d fun t46_1 =>
          ldP (t46_1.add 0) w18 fun t48_1 =>
          c_inflate_Decoder_Write t48_1 s.1 w18 fun t50_2 t50_3 w19 =>
          cond (t50_3 != (0 : Int))
            (c_zlib_Decoder_fail d t50_3 w19 fun t57_1 w20 =>
             K (⟨none, 0, 0⟩ : Slc) t57_1 w20)
            (onPtr d fun t59_1 =>
             ldR (t59_1.add 3) w19 fun t61_1 =>
             callI C t61_1 "Write" [(.slice t50_2.a t50_2.n t50_2.c)] [(Kind.int .i64), Kind.raw] w19 fun (t63_2 : Int) (t63_3 : Value) w21 =>
             onPtr d fun t65_1 =>
             ldP (t65_1.add 0) w21 fun t67_1 =>
             c_inflate_Decoder_Done t67_1 w21 fun t68_1 w22 =>
             cond (!t68_1)
               (K t50_2 0 w22)
               (onPtr d fun t73_1 =>
                ldP (t73_1.add 0) w22 fun t75_1 =>
                c_inflate_Decoder_Used t75_1 w22 fun t76_1 w23 =>
                slK s.1 (some (if ((s.1.n : Nat) : Int) < (if (0 : Int) > (IntKind.i64.wrap (t76_1 - t43_1)) then (0 : Int) else (IntKind.i64.wrap (t76_1 - t43_1))) then ((s.1.n : Nat) : Int) else (if (0 : Int) > (IntKind.i64.wrap (t76_1 - t43_1)) then (0 : Int) else (IntKind.i64.wrap (t76_1 - t43_1))))) none 1 fun t83_1 =>
                onPtr d fun t86_1 =>
                ldSl (t86_1.add 2) w23.drew fun t88_1 =>
                onPtr d fun t93_1 =>
                ldSl (t93_1.add 2) w23.drew fun t95_1 =>
                slK t83_1 none (some (if (IntKind.i64.wrap ((4 : Int) - ((t95_1.n : Nat) : Int))) < ((t83_1.n : Nat) : Int) then (IntKind.i64.wrap ((4 : Int) - ((t95_1.n : Nat) : Int))) else ((t83_1.n : Nat) : Int))) 1 fun t99_1 =>
                nw ty_sl_uint8 [(.slice t88_1.a t88_1.n t88_1.c), (.slice t99_1.a t99_1.n t99_1.c)] w23.drew fun t100_1 w24 =>
                c_slices_Concat_byte_byte (⟨(some t100_1), 2, 2⟩ : Slc) w24 fun t101_1 w25 =>
                onPtr d fun t102_1 =>
                stK (t102_1.add 2) [(.slice t101_1.a t101_1.n t101_1.c)] w25 fun w26 =>
                joinP (σ := Bool × Unit) (fun s_3 w27 =>
                  cond s_3.1
                    (c_zlib_Decoder_fail d 4 w27 fun t124_1 w28 =>
                     K (⟨none, 0, 0⟩ : Slc) t124_1 w28)
                    (K t50_2 0 w27)) fun J4 =>
                onPtr d fun t105_1 =>
                ldSl (t105_1.add 2) w26.drew fun t107_1 =>
                cond (((t107_1.n : Nat) : Int) == (4 : Int))
                  (onPtr d fun t112_1 =>
                   ldSl (t112_1.add 2) w26.drew fun t114_1 =>
                   onPtr d fun t117_1 =>
                   ldR (t117_1.add 3) w26.drew fun t119_1 =>
                   c_bits_Big t114_1 w26.drew fun t115_1 w29 =>
                   World.cell? w29 (t117_1.add 3) = some t119_1 ∧
                   callI C t119_1 "Sum" [] [(Kind.int .u32)] w29 fun (t120_1 : Int) w30 =>
                   J4 ((t115_1 != t120_1), ()) w30)
                  (J4 (false, ()) w26.drew))))) (b, ()) w)

def an_zlib_Decoder_Write : List Ann := [.none, .none, .none, .none, .none, .join [(1, Kind.slice)] [1, 4, 5, 18, 19, 20, 21, 22, 23, 24, 25, 26, 27, 28, 29, 30, 31, 32, 33, 34, 35, 36, 37, 38], .join [] [18, 19, 20, 21, 22, 23, 24, 25, 26, 27, 28], .none, .none, .none, .none, .none, .none, .none, .none, .none, .none, .none, .none, .none, .none, .none, .none, .join [(122, Kind.bool)] [104, 105, 106, 107, 108, 109, 110, 111, 112, 113, 114, 115, 116, 117, 118, 119, 120, 121, 122], .none, .none]

theorem vc_zlib_Decoder_Write (d : Option Addr) (b : Slc) (w : World) (K : Slc → Int → World → Prop) :
    vcFn C (Try.f50.body.getD .skip) Try.f50.results.toList Try.f50.ntmps an_zlib_Decoder_Write [Kind.slice, (Kind.int .i64)] [(.pointer d), (.slice b.a b.n b.c)] w (fun s w => K s.1 s.2.1 w) = sh_zlib_Decoder_Write d b w K := by kernel_rfl

theorem call_zlib_Decoder_Write (d : Option Addr) (b : Slc) {w : World} {K : Slc → Int → World → Prop} (h : sh_zlib_Decoder_Write d b w K) : c_zlib_Decoder_Write d b w K := by
  rw [← vc_zlib_Decoder_Write] at h
  refine Calls.mono (calls_of_vc C.plain_ok C.mixed Try.func50 rfl h) ?_
  rintro e w' ⟨s, rfl, hK⟩
  exact ⟨s.1, s.2.1, rfl, hK⟩

/-- (*phosphor/zlib.Decoder).Room -/
def sh_zlib_Decoder_Room (d : Option Addr) (w : World) (K : Int → World → Prop) : Prop :=
  onPtr d fun t4 =>
  ldP (t4.add 0) w.drew fun t6 =>
  onPtr d fun t9 =>
  ldSl (t9.add 1) w.drew fun t11 =>
  onPtr d fun t15 =>
  ldSl (t15.add 2) w.drew fun t17 =>
  c_inflate_Decoder_Room t6 w.drew fun t7 w1 =>
  World.cell? w1 (t15.add 2) = some (.slice t17.a t17.n t17.c) ∧
  World.cell? w1 (t9.add 1) = some (.slice t11.a t11.n t11.c) ∧
  K (IntKind.i64.wrap ((IntKind.i64.wrap (t7 + ((t11.c : Nat) : Int))) + ((t17.c : Nat) : Int))) w1

def an_zlib_Decoder_Room : List Ann := [.none, .none]

theorem vc_zlib_Decoder_Room (d : Option Addr) (w : World) (K : Int → World → Prop) :
    vcFn C (Try.f51.body.getD .skip) Try.f51.results.toList Try.f51.ntmps an_zlib_Decoder_Room [(Kind.int .i64)] [(.pointer d)] w (fun s w => K s.1 w) = sh_zlib_Decoder_Room d w K := by kernel_rfl

theorem call_zlib_Decoder_Room (d : Option Addr) {w : World} {K : Int → World → Prop} (h : sh_zlib_Decoder_Room d w K) : c_zlib_Decoder_Room d w K := by
  rw [← vc_zlib_Decoder_Room] at h
  refine Calls.mono (calls_of_vc C.plain_ok C.mixed Try.func51 rfl h) ?_
  rintro e w' ⟨s, rfl, hK⟩
  exact ⟨s.1, rfl, hK⟩

/-- (*phosphor/zlib.Decoder).Done -/
def sh_zlib_Decoder_Done (d : Option Addr) (w : World) (K : Bool → World → Prop) : Prop :=
  onPtr d fun t4 =>
  ldI .i64 (t4.add 5) w fun t6 =>
  cond (t6 == (0 : Int))
    (onPtr d fun t10 =>
     ldSl (t10.add 2) w fun t12 =>
     K (((t12.n : Nat) : Int) == (4 : Int)) w)
    (K false w)

def an_zlib_Decoder_Done : List Ann := [.none, .none]

theorem vc_zlib_Decoder_Done (d : Option Addr) (w : World) (K : Bool → World → Prop) :
    vcFn C (Try.f52.body.getD .skip) Try.f52.results.toList Try.f52.ntmps an_zlib_Decoder_Done [Kind.bool] [(.pointer d)] w (fun s w => K s.1 w) = sh_zlib_Decoder_Done d w K := by kernel_rfl

theorem call_zlib_Decoder_Done (d : Option Addr) {w : World} {K : Bool → World → Prop} (h : sh_zlib_Decoder_Done d w K) : c_zlib_Decoder_Done d w K := by
  rw [← vc_zlib_Decoder_Done] at h
  refine Calls.mono (calls_of_vc C.plain_ok C.mixed Try.func52 rfl h) ?_
  rintro e w' ⟨s, rfl, hK⟩
  exact ⟨s.1, rfl, hK⟩

/-- phosphor/pixel.Right -/
def sh_pixel_Right (m : T_api_Matrix) (w : World) (K : Bool → World → Prop) : Prop :=
  nw ty_api_Matrix (T_api_Matrix.rep.cells m) w fun m_1 w1 =>
  ldI .i64 (m_1.add 0) w1 fun t4 =>
  ldI .i64 (m_1.add 1) w1 fun t6 =>
  c_pixel_size t4 t6 w1 fun t7 w2 =>
  cond t7
    (ldSl (m_1.add 2) w2 fun t10 =>
     ldI .i64 (m_1.add 0) w2 fun t13 =>
     ldI .i64 (m_1.add 1) w2 fun t16 =>
     K (((t10.n : Nat) : Int) == (IntKind.i64.wrap ((IntKind.i64.wrap ((4 : Int) * t13)) * t16))) w2)
    (K false w2)

def an_pixel_Right : List Ann := [.none, .none]

theorem vc_pixel_Right (m : T_api_Matrix) (w : World) (K : Bool → World → Prop) :
    vcFn C (Try.f53.body.getD .skip) Try.f53.results.toList Try.f53.ntmps an_pixel_Right [Kind.bool] [(.agg #[(.int .i64 m.W), (.int .i64 m.H), (.slice m.P.a m.P.n m.P.c)])] w (fun s w => K s.1 w) = sh_pixel_Right m w K := by kernel_rfl

theorem call_pixel_Right (m : T_api_Matrix) {w : World} {K : Bool → World → Prop} (h : sh_pixel_Right m w K) : c_pixel_Right m w K := by
  rw [← vc_pixel_Right] at h
  refine Calls.mono (calls_of_vc C.plain_ok C.mixed Try.func53 rfl h) ?_
  rintro e w' ⟨s, rfl, hK⟩
  exact ⟨s.1, rfl, hK⟩

/-- phosphor/store.isNumber -/
def sh_store_isNumber (n : Int) (w : World) (K : Bool → World → Prop) : Prop :=
  cond (decide (n ≥ (0 : Int)))
    (K (decide (n ≤ (4294967295 : Int))) w)
    (K false w)

def an_store_isNumber : List Ann := [.none, .none]

theorem vc_store_isNumber (n : Int) (w : World) (K : Bool → World → Prop) :
    vcFn C (Try.f54.body.getD .skip) Try.f54.results.toList Try.f54.ntmps an_store_isNumber [Kind.bool] [(.int .i64 n)] w (fun s w => K s.1 w) = sh_store_isNumber n w K := by kernel_rfl

theorem call_store_isNumber (n : Int) {w : World} {K : Bool → World → Prop} (h : sh_store_isNumber n w K) : c_store_isNumber n w K := by
  rw [← vc_store_isNumber] at h
  refine Calls.mono (calls_of_vc C.plain_ok C.mixed Try.func54 rfl h) ?_
  rintro e w' ⟨s, rfl, hK⟩
  exact ⟨s.1, rfl, hK⟩

/-- (*phosphor/store.Store).Release -/
def sh_store_Store_Release (s : Option Addr) (w : World) (K : World → Prop) : Prop :=
  onPtr s fun t3 =>
  stK (t3.add 1) [(.int .i64 0)] w fun w1 =>
  K w1

def an_store_Store_Release : List Ann := []

theorem vc_store_Store_Release (s : Option Addr) (w : World) (K : World → Prop) :
    vcFn C (Try.f55.body.getD .skip) Try.f55.results.toList Try.f55.ntmps an_store_Store_Release [] [(.pointer s)] w (fun s w => K w) = sh_store_Store_Release s w K := by kernel_rfl

theorem call_store_Store_Release (s : Option Addr) {w : World} {K : World → Prop} (h : sh_store_Store_Release s w K) : c_store_Store_Release s w K := by
  rw [← vc_store_Store_Release] at h
  refine Calls.mono (calls_of_vc C.plain_ok C.mixed Try.func55 rfl h) ?_
  rintro e w' ⟨s, rfl, hK⟩
  exact ⟨rfl, hK⟩

/-- (*phosphor/store.Store).room -/
def sh_store_Store_room (s : Option Addr) (n : Int) (w : World) (K : Slc → World → Prop) : Prop :=
  nw ty_p_store_Store [(.pointer s)] w fun s_1 w1 =>
  loopP (σ := Slc × Unit) (fun I1 s_2 w2 =>
    joinP (σ := Unit) (fun s_3 w3 =>
      ldP s_1 w3 fun t28 =>
      onPtr t28 fun t29 =>
      ldM (t29.add 4) w3 fun t31 =>
      c_maps_Keys_map_int_store_image_int_store_image t31 w3 fun t32 w4 =>
      c_slices_Collect_int t32 w4 fun t33 w5 =>
      c_slices_MinFunc_int_int t33 ((.func (.func fn_store_Store_room_1) #[] #[(.pointer (some s_1))]) : Value) w5 fun t35 w6 =>
      ldP s_1 w6 fun t36 =>
      c_store_Store_Drop t36 t35 w6 fun t38 w7 =>
      nw ty_int [(.int .i64 t35)] w7 fun t41 w8 =>
      apK PG #[ty_sl_int, ty_sl_int] ty_sl_int s_2.1 (⟨(some t41), 1, 1⟩ : Slc) w8 fun t42 w9 =>
      I1 (t42, ()) w9) fun J2 =>
    ldP s_1 w2.drew fun t9 =>
    onPtr t9 fun t10 =>
    ldI .i64 (t10.add 2) w2.drew fun t12 =>
    ldP s_1 w2.drew fun t13 =>
    onPtr t13 fun t14 =>
    ldI .i64 (t14.add 0) w2.drew fun t16 =>
    cond (decide (t12 > (IntKind.i64.wrap (t16 - n))))
      (ldP s_1 w2.drew fun t21 =>
       onPtr t21 fun t22 =>
       ldM (t22.add 4) w2.drew fun t24 =>
       runK1 PG (Builtin.len_ #[ty_map_int_store_image] ty_int #[(.map t24)]) (Kind.int .i64) w2.drew fun (t25 : Int) w10 =>
       cond (decide (t25 > (0 : Int)))
         (J2 (()) w10)
         (K s_2.1 w10))
      (K s_2.1 w2.drew)) (⟨none, 0, 0⟩, ()) w1

def an_store_Store_room : List Ann := [.none, .none, .none, .none, .join [(5, Kind.slice)] [5, 7, 9, 10, 11, 12, 13, 14, 15, 16, 17, 18, 19, 20, 21, 22, 23, 24, 25, 26, 27, 28, 29, 30, 31, 32, 33, 34, 35, 36, 37, 38, 39, 40, 41, 42], .join [] [9, 10, 11, 12, 13, 14, 15, 16, 17, 18, 19, 20, 21, 22, 23, 24, 25, 26, 27], .none, .none, .none, .none]

theorem vc_store_Store_room (s : Option Addr) (n : Int) (w : World) (K : Slc → World → Prop) :
    vcFn C (Try.f56.body.getD .skip) Try.f56.results.toList Try.f56.ntmps an_store_Store_room [Kind.slice] [(.pointer s), (.int .i64 n)] w (fun s w => K s.1 w) = sh_store_Store_room s n w K := by kernel_rfl

theorem call_store_Store_room (s : Option Addr) (n : Int) {w : World} {K : Slc → World → Prop} (h : sh_store_Store_room s n w K) : c_store_Store_room s n w K := by
  rw [← vc_store_Store_room] at h
  refine Calls.mono (calls_of_vc C.plain_ok C.mixed Try.func56 rfl h) ?_
  rintro e w' ⟨s, rfl, hK⟩
  exact ⟨s.1, rfl, hK⟩

/-- (*phosphor/store.Store).is -/
def sh_store_Store_is (s : Option Addr) (id : Int) (w : World) (K : Bool → World → Prop) : Prop :=
  onPtr s fun t9 =>
  ldM (t9.add 4) w fun t11 =>
  runK2 PG (Instr.lookup ty_map_int_store_image (.map t11) (.int .i64 id) true) (Kind.struct T_store_image.rep) Kind.bool w fun (t13 : T_store_image) (t13_1 : Bool) w1 =>
  nw ty_store_image [(.int .i64 0), (.int .i64 0), (.int .i64 0), (.slice none 0 0), (.int .i64 0), (.int .i64 0)] w1 fun x_ w2 =>
  stK x_ (T_store_image.rep.cells t13) w2 fun w3 =>
  K t13_1 w3

def an_store_Store_is : List Ann := [.none, .none, .none]

theorem vc_store_Store_is (s : Option Addr) (id : Int) (w : World) (K : Bool → World → Prop) :
    vcFn C (Try.f57.body.getD .skip) Try.f57.results.toList Try.f57.ntmps an_store_Store_is [Kind.bool] [(.pointer s), (.int .i64 id)] w (fun s w => K s.1 w) = sh_store_Store_is s id w K := by kernel_rfl

theorem call_store_Store_is (s : Option Addr) (id : Int) {w : World} {K : Bool → World → Prop} (h : sh_store_Store_is s id w K) : c_store_Store_is s id w K := by
  rw [← vc_store_Store_is] at h
  refine Calls.mono (calls_of_vc C.plain_ok C.mixed Try.func57 rfl h) ?_
  rintro e w' ⟨s, rfl, hK⟩
  exact ⟨s.1, rfl, hK⟩

/-- slices.Clip[[]byte,byte] -/
def sh_slices_Clip_byte_byte (s : Slc) (w : World) (K : Slc → World → Prop) : Prop :=
  slK3 s none ((s.n : Nat) : Int) ((s.n : Nat) : Int) 1 fun t8 =>
  K t8 w

def an_slices_Clip_byte_byte : List Ann := [.none, .none]

theorem vc_slices_Clip_byte_byte (s : Slc) (w : World) (K : Slc → World → Prop) :
    vcFn C (Try.f58.body.getD .skip) Try.f58.results.toList Try.f58.ntmps an_slices_Clip_byte_byte [Kind.slice] [(.slice s.a s.n s.c)] w (fun s w => K s.1 w) = sh_slices_Clip_byte_byte s w K := by kernel_rfl

theorem call_slices_Clip_byte_byte (s : Slc) {w : World} {K : Slc → World → Prop} (h : sh_slices_Clip_byte_byte s w K) : c_slices_Clip_byte_byte s w K := by
  rw [← vc_slices_Clip_byte_byte] at h
  refine Calls.mono (calls_of_vc C.plain_ok C.mixed Try.func58 rfl h) ?_
  rintro e w' ⟨s, rfl, hK⟩
  exact ⟨s.1, rfl, hK⟩

/-- slices.Clone[[]byte,byte] -/
def sh_slices_Clone_byte_byte (s : Slc) (w : World) (K : Slc → World → Prop) : Prop :=
  cond (s.a.isNone)
    (K (⟨none, 0, 0⟩ : Slc) w)
    (nw ty_uint8 [] w fun t5 w1 =>
     apK PG #[ty_sl_uint8, ty_sl_uint8] ty_sl_uint8 (⟨(some t5), 0, 0⟩ : Slc) s w1 fun t7 w2 =>
     K t7 w2)

def an_slices_Clone_byte_byte : List Ann := [.none, .none, .none, .none, .none]

theorem vc_slices_Clone_byte_byte (s : Slc) (w : World) (K : Slc → World → Prop) :
    vcFn C (Try.f59.body.getD .skip) Try.f59.results.toList Try.f59.ntmps an_slices_Clone_byte_byte [Kind.slice] [(.slice s.a s.n s.c)] w (fun s w => K s.1 w) = sh_slices_Clone_byte_byte s w K := by kernel_rfl

theorem call_slices_Clone_byte_byte (s : Slc) {w : World} {K : Slc → World → Prop} (h : sh_slices_Clone_byte_byte s w K) : c_slices_Clone_byte_byte s w K := by
  rw [← vc_slices_Clone_byte_byte] at h
  refine Calls.mono (calls_of_vc C.plain_ok C.mixed Try.func59 rfl h) ?_
  rintro e w' ⟨s, rfl, hK⟩
  exact ⟨s.1, rfl, hK⟩

/-- (*phosphor/store.Store).See -/
def sh_store_Store_See (s : Option Addr) (id : Int) (w : World) (K : T_api_Matrix → Bool → World → Prop) : Prop :=
  nw ty_api_Matrix [(.int .i64 0), (.int .i64 0), (.slice none 0 0)] w fun t4 w1 =>
  onPtr s fun t10 =>
  ldM (t10.add 4) w1 fun t12 =>
  runK2 PG (Instr.lookup ty_map_int_store_image (.map t12) (.int .i64 id) true) (Kind.struct T_store_image.rep) Kind.bool w1 fun (t14 : T_store_image) (t14_1 : Bool) w2 =>
  nw ty_store_image [(.int .i64 0), (.int .i64 0), (.int .i64 0), (.slice none 0 0), (.int .i64 0), (.int .i64 0)] w2 fun x w3 =>
  stK x (T_store_image.rep.cells t14) w3 fun w4 =>
  ldS T_api_Matrix.rep (x.add 1) w4 fun t18 =>
  stK t4 (T_api_Matrix.rep.cells t18) w4 fun w5 =>
  ldS T_api_Matrix.rep t4 w5 fun r =>
  K r t14_1 w5

def an_store_Store_See : List Ann := [.none, .none, .none]

theorem vc_store_Store_See (s : Option Addr) (id : Int) (w : World) (K : T_api_Matrix → Bool → World → Prop) :
    vcFn C (Try.f60.body.getD .skip) Try.f60.results.toList Try.f60.ntmps an_store_Store_See [(Kind.struct T_api_Matrix.rep), Kind.bool] [(.pointer s), (.int .i64 id)] w (fun s w => K s.1 s.2.1 w) = sh_store_Store_See s id w K := by kernel_rfl

theorem call_store_Store_See (s : Option Addr) (id : Int) {w : World} {K : T_api_Matrix → Bool → World → Prop} (h : sh_store_Store_See s id w K) : c_store_Store_See s id w K := by
  rw [← vc_store_Store_See] at h
  refine Calls.mono (calls_of_vc C.plain_ok C.mixed Try.func60 rfl h) ?_
  rintro e w' ⟨s, rfl, hK⟩
  exact ⟨s.1, s.2.1, rfl, hK⟩

/-- slices.Sorted[int] -/
def sh_slices_Sorted_int (seq : Value) (w : World) (K : Slc → World → Prop) : Prop :=
  c_slices_Collect_int seq w fun t5 w1 =>
  c_slices_Sort_int_int t5 w1 fun w2 =>
  K t5 w2

def an_slices_Sorted_int : List Ann := [.none, .none, .none, .none]

theorem vc_slices_Sorted_int (seq : Value) (w : World) (K : Slc → World → Prop) :
    vcFn C (Try.f61.body.getD .skip) Try.f61.results.toList Try.f61.ntmps an_slices_Sorted_int [Kind.slice] [seq] w (fun s w => K s.1 w) = sh_slices_Sorted_int seq w K := by kernel_rfl

theorem call_slices_Sorted_int (seq : Value) {w : World} {K : Slc → World → Prop} (h : sh_slices_Sorted_int seq w K) : c_slices_Sorted_int seq w K := by
  rw [← vc_slices_Sorted_int] at h
  refine Calls.mono (calls_of_vc C.plain_ok C.mixed Try.func61 rfl h) ?_
  rintro e w' ⟨s, rfl, hK⟩
  exact ⟨s.1, rfl, hK⟩

/-- maps.Keys[map[int]phosphor/store.image,int,phosphor/store.image] -/
def sh_maps_Keys_map_int_store_image_int_store_image (m : Option Nat) (w : World) (K : Value → World → Prop) : Prop :=
  nw ty_map_int_store_image [(.map m)] w fun m_1 w1 =>
  K ((.func (.func fn_maps_Keys_map_int_store_image_int_store_image_1) #[] #[(.pointer (some m_1))]) : Value) w1

def an_maps_Keys_map_int_store_image_int_store_image : List Ann := [.none, .none]

theorem vc_maps_Keys_map_int_store_image_int_store_image (m : Option Nat) (w : World) (K : Value → World → Prop) :
    vcFn C (Try.f62.body.getD .skip) Try.f62.results.toList Try.f62.ntmps an_maps_Keys_map_int_store_image_int_store_image [Kind.raw] [(.map m)] w (fun s w => K s.1 w) = sh_maps_Keys_map_int_store_image_int_store_image m w K := by kernel_rfl

theorem call_maps_Keys_map_int_store_image_int_store_image (m : Option Nat) {w : World} {K : Value → World → Prop} (h : sh_maps_Keys_map_int_store_image_int_store_image m w K) : c_maps_Keys_map_int_store_image_int_store_image m w K := by
  rw [← vc_maps_Keys_map_int_store_image_int_store_image] at h
  refine Calls.mono (calls_of_vc C.plain_ok C.mixed Try.func62 rfl h) ?_
  rintro e w' ⟨s, rfl, hK⟩
  exact ⟨s.1, rfl, hK⟩

/-- phosphor/huff.Fixed -/
def sh_huff_Fixed  (w : World) (K : Slc → Slc → World → Prop) : Prop :=
    (mkSl PG ty_sl_uint8 (.int .i64 288) (.int .i64 288) w.drew fun t6 w1 =>
     mkSl PG ty_sl_uint8 (.int .i64 30) (.int .i64 30) w1 fun t7 w2 =>
     loopP (σ := Int × Unit) (fun I1 s w3 =>
       cond (decide (s.1 < ((t6.n : Nat) : Int)))
         (cond (decide (s.1 < (144 : Int)))
            (ixK t6 s.1 1 fun t21 =>
             stK t21 [(.int .u8 8)] w3 fun w4 =>
             I1 ((IntKind.i64.wrap (s.1 + (1 : Int))), ()) w4)
            (cond (decide (s.1 < (256 : Int)))
               (ixK t6 s.1 1 fun t27 =>
                stK t27 [(.int .u8 9)] w3 fun w5 =>
                I1 ((IntKind.i64.wrap (s.1 + (1 : Int))), ()) w5)
               (cond (decide (s.1 < (280 : Int)))
                  (ixK t6 s.1 1 fun t33 =>
                   stK t33 [(.int .u8 7)] w3 fun w6 =>
                   I1 ((IntKind.i64.wrap (s.1 + (1 : Int))), ()) w6)
                  (ixK t6 s.1 1 fun t15 =>
                   stK t15 [(.int .u8 8)] w3 fun w7 =>
                   I1 ((IntKind.i64.wrap (s.1 + (1 : Int))), ()) w7))))
         (loopP (σ := Int × Unit) (fun I2 s_1 w8 =>
            cond (decide (s_1.1 < ((t7.n : Nat) : Int)))
              (ixK t7 s_1.1 1 fun t42 =>
               stK t42 [(.int .u8 5)] w8 fun w9 =>
               I2 ((IntKind.i64.wrap (s_1.1 + (1 : Int))), ()) w9)
              (K t6 t7 w8)) (0, ()) w3)) (0, ()) w2) ∧
  mkSl PG ty_sl_uint8 (.int .i64 30) (.int .i64 30) w.drew fun t7_1 w10 =>
  mkSl PG ty_sl_uint8 (.int .i64 288) (.int .i64 288) w10 fun t6_1 w11 =>
  loopP (σ := Int × Unit) (fun I3 s_2 w12 =>
    cond (decide (s_2.1 < ((t6_1.n : Nat) : Int)))
      (cond (decide (s_2.1 < (144 : Int)))
         (ixK t6_1 s_2.1 1 fun t21_1 =>
          stK t21_1 [(.int .u8 8)] w12 fun w13 =>
          I3 ((IntKind.i64.wrap (s_2.1 + (1 : Int))), ()) w13)
         (cond (decide (s_2.1 < (256 : Int)))
            (ixK t6_1 s_2.1 1 fun t27_1 =>
             stK t27_1 [(.int .u8 9)] w12 fun w14 =>
             I3 ((IntKind.i64.wrap (s_2.1 + (1 : Int))), ()) w14)
            (cond (decide (s_2.1 < (280 : Int)))
               (ixK t6_1 s_2.1 1 fun t33_1 =>
                stK t33_1 [(.int .u8 7)] w12 fun w15 =>
                I3 ((IntKind.i64.wrap (s_2.1 + (1 : Int))), ()) w15)
               (ixK t6_1 s_2.1 1 fun t15_1 =>
                stK t15_1 [(.int .u8 8)] w12 fun w16 =>
                I3 ((IntKind.i64.wrap (s_2.1 + (1 : Int))), ()) w16))))
      (loopP (σ := Int × Unit) (fun I4 s_3 w17 =>
         cond (decide (s_3.1 < ((t7_1.n : Nat) : Int)))
           (ixK t7_1 s_3.1 1 fun t42_1 =>
            stK t42_1 [(.int .u8 5)] w17 fun w18 =>
            I4 ((IntKind.i64.wrap (s_3.1 + (1 : Int))), ()) w18)
           (K t6_1 t7_1 w17)) (0, ()) w12)) (0, ()) w11

def an_huff_Fixed : List Ann := [.none, .none, .none, .none, .join [(10, (Kind.int .i64))] [4, 10, 11, 12, 13, 14, 15, 16, 17, 18, 19, 20, 21, 22, 23, 24, 25, 26, 27, 28, 29, 30, 31, 32, 33, 34], .none, .none, .none, .none, .none, .none, .none, .none, .none, .join [(37, (Kind.int .i64))] [5, 37, 38, 39, 40, 41, 42, 43], .none, .none, .none, .none, .none]

theorem vc_huff_Fixed  (w : World) (K : Slc → Slc → World → Prop) :
    vcFn C (Try.f63.body.getD .skip) Try.f63.results.toList Try.f63.ntmps an_huff_Fixed [Kind.slice, Kind.slice] [] w (fun s w => K s.1 s.2.1 w) = sh_huff_Fixed  w K := by kernel_rfl

theorem call_huff_Fixed  {w : World} {K : Slc → Slc → World → Prop} (h : sh_huff_Fixed  w K) : c_huff_Fixed  w K := by
  rw [← vc_huff_Fixed] at h
  refine Calls.mono (calls_of_vc C.plain_ok C.mixed Try.func63 rfl h) ?_
  rintro e w' ⟨s, rfl, hK⟩
  exact ⟨s.1, s.2.1, rfl, hK⟩

/-- phosphor/huff.New -/
def sh_huff_New (lengths : Slc) (w : World) (K : Option Addr → Int → World → Prop) : Prop :=
  cond (decide (((lengths.n : Nat) : Int) > (320 : Int)))
    (K none 1 w)
    (  (nw ty_uint8 [] w.drew fun t11 w1 =>
          (apK PG #[ty_sl_uint8, ty_sl_uint8] ty_sl_uint8 (⟨(some t11), 0, 0⟩ : Slc) lengths w1 fun t13 w2 =>
           mkSl PG ty_sl_uint32 (.int .i64 ((lengths.n : Nat) : Int)) (.int .i64 ((lengths.n : Nat) : Int)) w2 fun t16 w3 =>
           nw ty_huff_Table [(.int .i64 0), (.int .i64 0), (.int .i64 0), (.int .i64 0), (.int .i64 0), (.int .i64 0), (.int .i64 0), (.int .i64 0), (.int .i64 0), (.int .i64 0), (.int .i64 0), (.int .i64 0), (.int .i64 0), (.int .i64 0), (.int .i64 0), (.int .i64 0), (.slice none 0 0), (.slice t16.a t16.n t16.c), (.slice t13.a t13.n t13.c), (.int .i64 0)] w3 fun t18 w4 =>
           loopP (σ := Int × Unit) (fun I1 s w5 =>
             cond (decide (s.1 < ((lengths.n : Nat) : Int)))
               (ixK lengths s.1 1 fun t23 =>
                ldI .u8 t23 w5 fun t24 =>
                cond (decide (t24 > (15 : Int)))
                  (K none 1 w5)
                  (cond (decide (t24 > (0 : Int)))
                     (ixA (t18.add 0) 16 t24 1 fun t33 =>
                      ldI .i64 t33 w5.drew fun t34 =>
                      ixA (t18.add 0) 16 t24 1 fun t38 =>
                      stK t38 [(.int .i64 (IntKind.i64.wrap (t34 + (1 : Int))))] w5.drew fun w6 =>
                      ldI .i64 (t18.add 19) w6 fun t43 =>
                      stK (t18.add 19) [(.int .i64 (if (IntKind.i64.wrap t24) > t43 then (IntKind.i64.wrap t24) else t43))] w6 fun w7 =>
                      I1 ((IntKind.i64.wrap (s.1 + (1 : Int))), ()) w7)
                     (I1 ((IntKind.i64.wrap (s.1 + (1 : Int))), ()) w5)))
               (joinP (σ := Unit) (fun s_1 w8 =>
                  c_huff_Table_deal (some t18) w8 fun w9 =>
                  K (some t18) 0 w9) fun J2 =>
                c_huff_room lengths w5 fun t51 w10 =>
                cond (t51 != (32768 : Int))
                  (cond (t51 != (0 : Int))
                     (cond (t51 == (16384 : Int))
                        (ixA (t18.add 0) 16 1 1 fun t65 =>
                         ldI .i64 t65 w10 fun t66 =>
                         cond (!(t66 == (1 : Int)))
                           (K none 3 w10)
                           (J2 (()) w10))
                        (K none 3 w10))
                     (J2 (()) w10))
                  (J2 (()) w10))) (0, ()) w4) ∧
        mkSl PG ty_sl_uint32 (.int .i64 ((lengths.n : Nat) : Int)) (.int .i64 ((lengths.n : Nat) : Int)) w1 fun t16_1 w11 =>
        apK PG #[ty_sl_uint8, ty_sl_uint8] ty_sl_uint8 (⟨(some t11), 0, 0⟩ : Slc) lengths w11 fun t13_1 w12 =>
        nw ty_huff_Table [(.int .i64 0), (.int .i64 0), (.int .i64 0), (.int .i64 0), (.int .i64 0), (.int .i64 0), (.int .i64 0), (.int .i64 0), (.int .i64 0), (.int .i64 0), (.int .i64 0), (.int .i64 0), (.int .i64 0), (.int .i64 0), (.int .i64 0), (.int .i64 0), (.slice none 0 0), (.slice t16_1.a t16_1.n t16_1.c), (.slice t13_1.a t13_1.n t13_1.c), (.int .i64 0)] w12 fun t18_1 w13 =>
        loopP (σ := Int × Unit) (fun I3 s_2 w14 =>
          cond (decide (s_2.1 < ((lengths.n : Nat) : Int)))
            (ixK lengths s_2.1 1 fun t23_1 =>
             ldI .u8 t23_1 w14 fun t24_1 =>
             cond (decide (t24_1 > (15 : Int)))
               (K none 1 w14)
               (cond (decide (t24_1 > (0 : Int)))
                  (ixA (t18_1.add 0) 16 t24_1 1 fun t33_1 =>
                   ldI .i64 t33_1 w14.drew fun t34_1 =>
                   ixA (t18_1.add 0) 16 t24_1 1 fun t38_1 =>
                   stK t38_1 [(.int .i64 (IntKind.i64.wrap (t34_1 + (1 : Int))))] w14.drew fun w15 =>
                   ldI .i64 (t18_1.add 19) w15 fun t43_1 =>
                   stK (t18_1.add 19) [(.int .i64 (if (IntKind.i64.wrap t24_1) > t43_1 then (IntKind.i64.wrap t24_1) else t43_1))] w15 fun w16 =>
                   I3 ((IntKind.i64.wrap (s_2.1 + (1 : Int))), ()) w16)
                  (I3 ((IntKind.i64.wrap (s_2.1 + (1 : Int))), ()) w14)))
            (joinP (σ := Unit) (fun s_3 w17 =>
               c_huff_Table_deal (some t18_1) w17 fun w18 =>
               K (some t18_1) 0 w18) fun J4 =>
             c_huff_room lengths w14 fun t51_1 w19 =>
             cond (t51_1 != (32768 : Int))
               (cond (t51_1 != (0 : Int))
                  (cond (t51_1 == (16384 : Int))
                     (ixA (t18_1.add 0) 16 1 1 fun t65_1 =>
                      ldI .i64 t65_1 w19 fun t66_1 =>
                      cond (!(t66_1 == (1 : Int)))
                        (K none 3 w19)
                        (J4 (()) w19))
                     (K none 3 w19))
                  (J4 (()) w19))
               (J4 (()) w19))) (0, ()) w13) ∧
     mkSl PG ty_sl_uint32 (.int .i64 ((lengths.n : Nat) : Int)) (.int .i64 ((lengths.n : Nat) : Int)) w.drew fun t16_2 w20 =>
     nw ty_uint8 [] w20 fun t11_1 w21 =>
     apK PG #[ty_sl_uint8, ty_sl_uint8] ty_sl_uint8 (⟨(some t11_1), 0, 0⟩ : Slc) lengths w21 fun t13_2 w22 =>
     nw ty_huff_Table [(.int .i64 0), (.int .i64 0), (.int .i64 0), (.int .i64 0), (.int .i64 0), (.int .i64 0), (.int .i64 0), (.int .i64 0), (.int .i64 0), (.int .i64 0), (.int .i64 0), (.int .i64 0), (.int .i64 0), (.int .i64 0), (.int .i64 0), (.int .i64 0), (.slice none 0 0), (.slice t16_2.a t16_2.n t16_2.c), (.slice t13_2.a t13_2.n t13_2.c), (.int .i64 0)] w22 fun t18_2 w23 =>
     loopP (σ := Int × Unit) (fun I5 s_4 w24 =>
       cond (decide (s_4.1 < ((lengths.n : Nat) : Int)))
         (ixK lengths s_4.1 1 fun t23_2 =>
          ldI .u8 t23_2 w24 fun t24_2 =>
          cond (decide (t24_2 > (15 : Int)))
            (K none 1 w24)
            (cond (decide (t24_2 > (0 : Int)))
               (ixA (t18_2.add 0) 16 t24_2 1 fun t33_2 =>
                ldI .i64 t33_2 w24.drew fun t34_2 =>
                ixA (t18_2.add 0) 16 t24_2 1 fun t38_2 =>
                stK t38_2 [(.int .i64 (IntKind.i64.wrap (t34_2 + (1 : Int))))] w24.drew fun w25 =>
                ldI .i64 (t18_2.add 19) w25 fun t43_2 =>
                stK (t18_2.add 19) [(.int .i64 (if (IntKind.i64.wrap t24_2) > t43_2 then (IntKind.i64.wrap t24_2) else t43_2))] w25 fun w26 =>
                I5 ((IntKind.i64.wrap (s_4.1 + (1 : Int))), ()) w26)
               (I5 ((IntKind.i64.wrap (s_4.1 + (1 : Int))), ()) w24)))
         (joinP (σ := Unit) (fun s_5 w27 =>
            c_huff_Table_deal (some t18_2) w27 fun w28 =>
            K (some t18_2) 0 w28) fun J6 =>
          c_huff_room lengths w24 fun t51_2 w29 =>
          cond (t51_2 != (32768 : Int))
            (cond (t51_2 != (0 : Int))
               (cond (t51_2 == (16384 : Int))
                  (ixA (t18_2.add 0) 16 1 1 fun t65_2 =>
                   ldI .i64 t65_2 w29 fun t66_2 =>
                   cond (!(t66_2 == (1 : Int)))
                     (K none 3 w29)
                     (J6 (()) w29))
                  (K none 3 w29))
               (J6 (()) w29))
            (J6 (()) w29))) (0, ()) w23)

def an_huff_New : List Ann := [.none, .none, .none, .none, .none, .none, .none, .join [(21, (Kind.int .i64))] [2, 3, 6, 21, 22, 23, 24, 25, 26, 27, 28, 29, 30, 31, 32, 33, 34, 35, 36, 37, 38, 39, 40, 41, 42, 43, 44, 45, 46, 47, 48, 49], .none, .none, .none, .none, .none, .none, .none, .none, .none, .join [] [2, 3, 7, 50, 51, 52, 53, 54, 55, 56, 57, 58, 59, 60, 61, 62, 63, 64, 65, 66, 67, 68, 69, 70], .none, .none, .none, .none, .none]

theorem vc_huff_New (lengths : Slc) (w : World) (K : Option Addr → Int → World → Prop) :
    vcFn C (Try.f64.body.getD .skip) Try.f64.results.toList Try.f64.ntmps an_huff_New [Kind.ptr, (Kind.int .i64)] [(.slice lengths.a lengths.n lengths.c)] w (fun s w => K s.1 s.2.1 w) = sh_huff_New lengths w K := by kernel_rfl

theorem call_huff_New (lengths : Slc) {w : World} {K : Option Addr → Int → World → Prop} (h : sh_huff_New lengths w K) : c_huff_New lengths w K := by
  rw [← vc_huff_New] at h
  refine Calls.mono (calls_of_vc C.plain_ok C.mixed Try.func64 rfl h) ?_
  rintro e w' ⟨s, rfl, hK⟩
  exact ⟨s.1, s.2.1, rfl, hK⟩

/-- phosphor/bits.NewWriter -/
def sh_bits_NewWriter  (w : World) (K : Option Addr → World → Prop) : Prop :=
  nw ty_bits_Writer [(.slice none 0 0), (.int .u64 0), (.int .i64 0)] w fun t2 w1 =>
  K (some t2) w1

def an_bits_NewWriter : List Ann := [.none, .none]

theorem vc_bits_NewWriter  (w : World) (K : Option Addr → World → Prop) :
    vcFn C (Try.f65.body.getD .skip) Try.f65.results.toList Try.f65.ntmps an_bits_NewWriter [Kind.ptr] [] w (fun s w => K s.1 w) = sh_bits_NewWriter  w K := by kernel_rfl

theorem call_bits_NewWriter  {w : World} {K : Option Addr → World → Prop} (h : sh_bits_NewWriter  w K) : c_bits_NewWriter  w K := by
  rw [← vc_bits_NewWriter] at h
  refine Calls.mono (calls_of_vc C.plain_ok C.mixed Try.func65 rfl h) ?_
  rintro e w' ⟨s, rfl, hK⟩
  exact ⟨s.1, rfl, hK⟩

/-- (*phosphor/bits.Writer).Bits -/
def sh_bits_Writer_Bits (wx : Option Addr) (v : Int) (n : Int) (w : World) (K : World → Prop) : Prop :=
  joinP (σ := Unit) (fun s w1 =>
    onPtr wx fun t13 =>
    ldI .u64 (t13.add 1) w1.drew fun t15 =>
    0 ≤ n ∧
    onPtr wx fun t23 =>
    ldI .i64 (t23.add 2) w1.drew fun t25 =>
    0 ≤ t25 ∧
    onPtr wx fun t28 =>
    stK (t28.add 1) [(.int .u64 (bitsR .or .u64 t15 (IntKind.u64.wrap ((bitsR .and .u64 (IntKind.u64.wrap v) (IntKind.u64.wrap ((IntKind.u64.wrap ((1 : Int) * 2 ^ (min n.toNat IntKind.u64.bits))) - (1 : Int)))) * 2 ^ (min t25.toNat IntKind.u64.bits)))))] w1.drew fun w2 =>
    onPtr wx fun t31 =>
    ldI .i64 (t31.add 2) w2 fun t33 =>
    onPtr wx fun t36 =>
    stK (t36.add 2) [(.int .i64 (IntKind.i64.wrap (t33 + n)))] w2 fun w3 =>
    loopP (σ := Unit) (fun I2 s_1 w4 =>
      onPtr wx fun t39 =>
      ldI .i64 (t39.add 2) w4 fun t41 =>
      cond (decide (t41 ≥ (8 : Int)))
        (onPtr wx fun t52 =>
         ldSl (t52.add 0) w4.drew fun t54 =>
         onPtr wx fun t56 =>
         ldI .u64 (t56.add 1) w4.drew fun t58 =>
         nw ty_uint8 [(.int .u8 (IntKind.u8.wrap t58))] w4.drew fun t60 w5 =>
         World.cell? w5 (t52.add 0) = some (.slice t54.a t54.n t54.c) ∧
         apK PG #[ty_sl_uint8, ty_sl_uint8] ty_sl_uint8 t54 (⟨(some t60), 1, 1⟩ : Slc) w5 fun t61 w6 =>
         onPtr wx fun t62 =>
         stK (t62.add 0) [(.slice t61.a t61.n t61.c)] w6 fun w7 =>
         onPtr wx fun t65 =>
         ldI .u64 (t65.add 1) w7 fun t67 =>
         0 ≤ (8 : Int) ∧
         onPtr wx fun t69 =>
         stK (t69.add 1) [(.int .u64 (t67.fdiv (2 ^ (min (8 : Int).toNat IntKind.u64.bits))))] w7 fun w8 =>
         onPtr wx fun t44 =>
         ldI .i64 (t44.add 2) w8 fun t46 =>
         onPtr wx fun t48 =>
         stK (t48.add 2) [(.int .i64 (IntKind.i64.wrap (t46 - (8 : Int))))] w8 fun w9 =>
         I2 (()) w9)
        (K w4)) (()) w3) fun J1 =>
  cond (decide (n < (1 : Int)))
    (K w)
    (cond (decide (n > (32 : Int)))
       (K w)
       (J1 (()) w))

def an_bits_Writer_Bits : List Ann := [.join [] [6, 7, 8, 9, 10, 11], .none, .none, .none, .join [] [38, 39, 40, 41, 42, 43, 44, 45, 46, 47, 48, 49, 50, 51, 52, 53, 54, 55, 56, 57, 58, 59, 60, 61, 62, 63, 64, 65, 66, 67, 68, 69, 70], .none, .none, .none, .none]

theorem vc_bits_Writer_Bits (wx : Option Addr) (v : Int) (n : Int) (w : World) (K : World → Prop) :
    vcFn C (Try.f66.body.getD .skip) Try.f66.results.toList Try.f66.ntmps an_bits_Writer_Bits [] [(.pointer wx), (.int .u32 v), (.int .i64 n)] w (fun s w => K w) = sh_bits_Writer_Bits wx v n w K := by kernel_rfl

theorem call_bits_Writer_Bits (wx : Option Addr) (v : Int) (n : Int) {w : World} {K : World → Prop} (h : sh_bits_Writer_Bits wx v n w K) : c_bits_Writer_Bits wx v n w K := by
  rw [← vc_bits_Writer_Bits] at h
  refine Calls.mono (calls_of_vc C.plain_ok C.mixed Try.func66 rfl h) ?_
  rintro e w' ⟨s, rfl, hK⟩
  exact ⟨rfl, hK⟩

/-- (*phosphor/huff.Table).Code -/
def sh_huff_Table_Code (t : Option Addr) (symbol : Int) (w : World) (K : Int → Int → World → Prop) : Prop :=
  joinP (σ := Unit) (fun s w1 =>
    onPtr t fun t28 =>
    ldSl (t28.add 17) w1.drew fun t30 =>
    ixK t30 symbol 1 fun t32 =>
    ldI .u32 t32 w1.drew fun t33 =>
    onPtr t fun t35 =>
    ldSl (t35.add 18) w1.drew fun t37 =>
    ixK t37 symbol 1 fun t39 =>
    ldI .u8 t39 w1.drew fun t40 =>
    K t33 (IntKind.i64.wrap t40) w1.drew) fun J1 =>
  cond (decide (symbol < (0 : Int)))
    (K 0 0 w)
    (onPtr t fun t11 =>
     ldSl (t11.add 18) w fun t13 =>
     cond (decide (symbol ≥ ((t13.n : Nat) : Int)))
       (K 0 0 w)
       (onPtr t fun t19 =>
        ldSl (t19.add 18) w fun t21 =>
        ixK t21 symbol 1 fun t23 =>
        ldI .u8 t23 w fun t24 =>
        cond (t24 == (0 : Int))
          (K 0 0 w)
          (J1 (()) w)))

def an_huff_Table_Code : List Ann := [.none, .join [] [4, 5, 6, 7, 8, 9, 10, 11, 12, 13, 14, 15, 16, 17, 18, 19, 20, 21, 22, 23, 24, 25, 26], .none, .none, .none]

theorem vc_huff_Table_Code (t : Option Addr) (symbol : Int) (w : World) (K : Int → Int → World → Prop) :
    vcFn C (Try.f67.body.getD .skip) Try.f67.results.toList Try.f67.ntmps an_huff_Table_Code [(Kind.int .u32), (Kind.int .i64)] [(.pointer t), (.int .i64 symbol)] w (fun s w => K s.1 s.2.1 w) = sh_huff_Table_Code t symbol w K := by kernel_rfl

theorem call_huff_Table_Code (t : Option Addr) (symbol : Int) {w : World} {K : Int → Int → World → Prop} (h : sh_huff_Table_Code t symbol w K) : c_huff_Table_Code t symbol w K := by
  rw [← vc_huff_Table_Code] at h
  refine Calls.mono (calls_of_vc C.plain_ok C.mixed Try.func67 rfl h) ?_
  rintro e w' ⟨s, rfl, hK⟩
  exact ⟨s.1, s.2.1, rfl, hK⟩

/-- (*phosphor/bits.Writer).Done -/
def sh_bits_Writer_Done (wx : Option Addr) (w : World) (K : Slc → World → Prop) : Prop :=
  onPtr wx fun t5 =>
  ldSl (t5.add 0) w fun t7 =>
  c_slices_Clone_byte_byte t7 w fun t8 w1 =>
  onPtr wx fun t10 =>
  ldI .i64 (t10.add 2) w1 fun t12 =>
  cond (decide (t12 > (0 : Int)))
    (onPtr wx fun t16 =>
     ldI .u64 (t16.add 1) w1 fun t18 =>
     nw ty_uint8 [(.int .u8 (IntKind.u8.wrap t18))] w1 fun t20 w2 =>
     apK PG #[ty_sl_uint8, ty_sl_uint8] ty_sl_uint8 t8 (⟨(some t20), 1, 1⟩ : Slc) w2 fun t21 w3 =>
     K t21 w3)
    (K t8 w1)

def an_bits_Writer_Done : List Ann := [.none, .none, .none, .none, .none]

theorem vc_bits_Writer_Done (wx : Option Addr) (w : World) (K : Slc → World → Prop) :
    vcFn C (Try.f68.body.getD .skip) Try.f68.results.toList Try.f68.ntmps an_bits_Writer_Done [Kind.slice] [(.pointer wx)] w (fun s w => K s.1 w) = sh_bits_Writer_Done wx w K := by kernel_rfl

theorem call_bits_Writer_Done (wx : Option Addr) {w : World} {K : Slc → World → Prop} (h : sh_bits_Writer_Done wx w K) : c_bits_Writer_Done wx w K := by
  rw [← vc_bits_Writer_Done] at h
  refine Calls.mono (calls_of_vc C.plain_ok C.mixed Try.func68 rfl h) ?_
  rintro e w' ⟨s, rfl, hK⟩
  exact ⟨s.1, rfl, hK⟩

/-- phosphor/phosphorref4.Fixed -/
def sh_phosphorref4_Fixed  (w : World) (K : Slc → Slc → World → Prop) : Prop :=
  mkSl PG ty_sl_uint8 (.int .i64 288) (.int .i64 288) w fun t6 w1 =>
  loopP (σ := Int × Unit) (fun I1 s w2 =>
    cond (decide (s.1 < (288 : Int)))
      (cond (decide (s.1 < (144 : Int)))
         (ixK t6 s.1 1 fun t19 =>
          stK t19 [(.int .u8 8)] w2 fun w3 =>
          I1 ((IntKind.i64.wrap (s.1 + (1 : Int))), ()) w3)
         (cond (decide (s.1 < (256 : Int)))
            (ixK t6 s.1 1 fun t25 =>
             stK t25 [(.int .u8 9)] w2 fun w4 =>
             I1 ((IntKind.i64.wrap (s.1 + (1 : Int))), ()) w4)
            (cond (decide (s.1 < (280 : Int)))
               (ixK t6 s.1 1 fun t31 =>
                stK t31 [(.int .u8 7)] w2 fun w5 =>
                I1 ((IntKind.i64.wrap (s.1 + (1 : Int))), ()) w5)
               (ixK t6 s.1 1 fun t13 =>
                stK t13 [(.int .u8 8)] w2 fun w6 =>
                I1 ((IntKind.i64.wrap (s.1 + (1 : Int))), ()) w6))))
      (mkSl PG ty_sl_uint8 (.int .i64 30) (.int .i64 30) w2 fun t32 w7 =>
       loopP (σ := Int × Unit) (fun I2 s_1 w8 =>
         cond (decide (s_1.1 < (30 : Int)))
           (ixK t32 s_1.1 1 fun t39 =>
            stK t39 [(.int .u8 5)] w8 fun w9 =>
            I2 ((IntKind.i64.wrap (s_1.1 + (1 : Int))), ()) w9)
           (K t6 t32 w8)) (0, ()) w7)) (0, ()) w1

def an_phosphorref4_Fixed : List Ann := [.none, .none, .none, .none, .join [(3, (Kind.int .i64))] [3, 7, 8, 9, 10, 11, 12, 13, 14, 15, 16, 17, 18, 19, 20, 21, 22, 23, 24, 25, 26, 27, 28, 29, 30, 31], .none, .none, .none, .none, .none, .none, .none, .none, .none, .join [(5, (Kind.int .i64))] [5, 33, 34, 35, 36, 37, 38, 39], .none, .none, .none, .none]

theorem vc_phosphorref4_Fixed  (w : World) (K : Slc → Slc → World → Prop) :
    vcFn C (Try.f69.body.getD .skip) Try.f69.results.toList Try.f69.ntmps an_phosphorref4_Fixed [Kind.slice, Kind.slice] [] w (fun s w => K s.1 s.2.1 w) = sh_phosphorref4_Fixed  w K := by kernel_rfl

theorem call_phosphorref4_Fixed  {w : World} {K : Slc → Slc → World → Prop} (h : sh_phosphorref4_Fixed  w K) : c_phosphorref4_Fixed  w K := by
  rw [← vc_phosphorref4_Fixed] at h
  refine Calls.mono (calls_of_vc C.plain_ok C.mixed Try.func69 rfl h) ?_
  rintro e w' ⟨s, rfl, hK⟩
  exact ⟨s.1, s.2.1, rfl, hK⟩

/-- phosphor/phosphorref4.New -/
def sh_phosphorref4_New (l : Slc) (w : World) (K : Option Addr → Int → World → Prop) : Prop :=
  cond (decide (((l.n : Nat) : Int) > (320 : Int)))
    (K none 1 w)
    (loopP (σ := Int × Int × Int × Unit) (fun I1 s w1 =>
       cond (decide (s.2.2.1 < ((l.n : Nat) : Int)))
         (ixK l s.2.2.1 1 fun t23 =>
          ldI .u8 t23 w1 fun t24 =>
          cond (decide (t24 > (15 : Int)))
            (K none 1 w1)
            (ixK l s.2.2.1 1 fun t28 =>
             ldI .u8 t28 w1 fun t29 =>
             cond (decide (t29 > (0 : Int)))
               (ixK l s.2.2.1 1 fun t35 =>
                ldI .u8 t35 w1 fun t36 =>
                I1 ((IntKind.i64.wrap (s.1 + (1 : Int))), (IntKind.i64.wrap t36), (IntKind.i64.wrap (s.2.2.1 + (1 : Int))), ()) w1)
               (I1 (s.1, s.2.1, (IntKind.i64.wrap (s.2.2.1 + (1 : Int))), ()) w1)))
         (c_phosphorref4_Complete l w1 fun t39 w2 =>
          joinP (σ := Unit) (fun s_1 w3 =>
              (nw ty_uint8 [] w3.drew fun t59 w4 =>
                 (apK PG #[ty_sl_uint8, ty_sl_uint8] ty_sl_uint8 (⟨(some t59), 0, 0⟩ : Slc) l w4 fun t61 w5 =>
                  mkSl PG ty_sl_uint32 (.int .i64 ((l.n : Nat) : Int)) (.int .i64 ((l.n : Nat) : Int)) w5 fun t64 w6 =>
                  nw ty_phosphorref4_Table [(.slice t61.a t61.n t61.c), (.slice t64.a t64.n t64.c)] w6 fun t66 w7 =>
                  loopP (σ := Int × Int × Unit) (fun I3 s_2 w8 =>
                    cond (decide (s_2.2.1 ≤ (15 : Int)))
                      (loopP (σ := Int × Int × Unit) (fun I4 s_3 w9 =>
                         cond (decide (s_3.2.1 < ((l.n : Nat) : Int)))
                           (ixK l s_3.2.1 1 fun t79 =>
                            ldI .u8 t79 w9 fun t80 =>
                            cond ((IntKind.i64.wrap t80) == s_2.2.1)
                              (ldSl (t66.add 1) w9 fun t87 =>
                               ixK t87 s_3.2.1 1 fun t90 =>
                               stK t90 [(.int .u32 s_3.1)] w9 fun w10 =>
                               I4 ((IntKind.u32.wrap (s_3.1 + (1 : Int))), (IntKind.i64.wrap (s_3.2.1 + (1 : Int))), ()) w10)
                              (I4 (s_3.1, (IntKind.i64.wrap (s_3.2.1 + (1 : Int))), ()) w9))
                           (0 ≤ (1 : Int) ∧
                            I3 ((IntKind.u32.wrap (s_3.1 * 2 ^ (min (1 : Int).toNat IntKind.u32.bits))), (IntKind.i64.wrap (s_2.2.1 + (1 : Int))), ()) w9)) (s_2.1, 0, ()) w8)
                      (K (some t66) 0 w8)) (0, 1, ()) w7) ∧
               mkSl PG ty_sl_uint32 (.int .i64 ((l.n : Nat) : Int)) (.int .i64 ((l.n : Nat) : Int)) w4 fun t64_1 w11 =>
               apK PG #[ty_sl_uint8, ty_sl_uint8] ty_sl_uint8 (⟨(some t59), 0, 0⟩ : Slc) l w11 fun t61_1 w12 =>
               nw ty_phosphorref4_Table [(.slice t61_1.a t61_1.n t61_1.c), (.slice t64_1.a t64_1.n t64_1.c)] w12 fun t66_1 w13 =>
               loopP (σ := Int × Int × Unit) (fun I5 s_4 w14 =>
                 cond (decide (s_4.2.1 ≤ (15 : Int)))
                   (loopP (σ := Int × Int × Unit) (fun I6 s_5 w15 =>
                      cond (decide (s_5.2.1 < ((l.n : Nat) : Int)))
                        (ixK l s_5.2.1 1 fun t79_1 =>
                         ldI .u8 t79_1 w15 fun t80_1 =>
                         cond ((IntKind.i64.wrap t80_1) == s_4.2.1)
                           (ldSl (t66_1.add 1) w15 fun t87_1 =>
                            ixK t87_1 s_5.2.1 1 fun t90_1 =>
                            stK t90_1 [(.int .u32 s_5.1)] w15 fun w16 =>
                            I6 ((IntKind.u32.wrap (s_5.1 + (1 : Int))), (IntKind.i64.wrap (s_5.2.1 + (1 : Int))), ()) w16)
                           (I6 (s_5.1, (IntKind.i64.wrap (s_5.2.1 + (1 : Int))), ()) w15))
                        (0 ≤ (1 : Int) ∧
                         I5 ((IntKind.u32.wrap (s_5.1 * 2 ^ (min (1 : Int).toNat IntKind.u32.bits))), (IntKind.i64.wrap (s_4.2.1 + (1 : Int))), ()) w15)) (s_4.1, 0, ()) w14)
                   (K (some t66_1) 0 w14)) (0, 1, ()) w13) ∧
            mkSl PG ty_sl_uint32 (.int .i64 ((l.n : Nat) : Int)) (.int .i64 ((l.n : Nat) : Int)) w3.drew fun t64_2 w17 =>
            nw ty_uint8 [] w17 fun t59_1 w18 =>
            apK PG #[ty_sl_uint8, ty_sl_uint8] ty_sl_uint8 (⟨(some t59_1), 0, 0⟩ : Slc) l w18 fun t61_2 w19 =>
            nw ty_phosphorref4_Table [(.slice t61_2.a t61_2.n t61_2.c), (.slice t64_2.a t64_2.n t64_2.c)] w19 fun t66_2 w20 =>
            loopP (σ := Int × Int × Unit) (fun I7 s_6 w21 =>
              cond (decide (s_6.2.1 ≤ (15 : Int)))
                (loopP (σ := Int × Int × Unit) (fun I8 s_7 w22 =>
                   cond (decide (s_7.2.1 < ((l.n : Nat) : Int)))
                     (ixK l s_7.2.1 1 fun t79_2 =>
                      ldI .u8 t79_2 w22 fun t80_2 =>
                      cond ((IntKind.i64.wrap t80_2) == s_6.2.1)
                        (ldSl (t66_2.add 1) w22 fun t87_2 =>
                         ixK t87_2 s_7.2.1 1 fun t90_2 =>
                         stK t90_2 [(.int .u32 s_7.1)] w22 fun w23 =>
                         I8 ((IntKind.u32.wrap (s_7.1 + (1 : Int))), (IntKind.i64.wrap (s_7.2.1 + (1 : Int))), ()) w23)
                        (I8 (s_7.1, (IntKind.i64.wrap (s_7.2.1 + (1 : Int))), ()) w22))
                     (0 ≤ (1 : Int) ∧
                      I7 ((IntKind.u32.wrap (s_7.1 * 2 ^ (min (1 : Int).toNat IntKind.u32.bits))), (IntKind.i64.wrap (s_6.2.1 + (1 : Int))), ()) w22)) (s_6.1, 0, ()) w21)
                (K (some t66_2) 0 w21)) (0, 1, ()) w20) fun J2 =>
          cond (decide (t39 > (0 : Int)))
            (K none 3 w2)
            (cond (decide (t39 < (0 : Int)))
               (cond (decide (s.1 > (0 : Int)))
                  (cond (s.1 == (1 : Int))
                     (cond (!(s.2.1 == (1 : Int)))
                        (K none 3 w2)
                        (J2 (()) w2))
                     (K none 3 w2))
                  (J2 (()) w2))
               (J2 (()) w2)))) (0, 0, 0, ()) w)

def an_phosphorref4_New : List Ann := [.none, .none, .none, .none, .none, .none, .none, .none, .join [(4, (Kind.int .i64)), (5, (Kind.int .i64)), (6, (Kind.int .i64))] [2, 3, 4, 5, 6, 15, 16, 17, 18, 19, 20, 21, 22, 23, 24, 25, 26, 27, 28, 29, 30, 31, 32, 33, 34, 35, 36, 37], .none, .none, .none, .none, .none, .none, .none, .none, .none, .join [] [2, 3, 40, 41, 42, 43, 44, 45, 46, 47, 48, 49, 50, 51, 52, 53, 54, 55, 56, 57, 58], .none, .none, .none, .none, .none, .none, .join [(9, (Kind.int .u32)), (10, (Kind.int .i64))] [9, 10, 11, 67, 68, 69, 70, 71, 72, 73, 74, 75, 76, 77, 78, 79, 80, 81, 82, 83, 84, 85, 86, 87, 88, 89, 90, 91, 92, 93, 94], .none, .none, .none, .none, .none, .join [(9, (Kind.int .u32)), (11, (Kind.int .i64))] [9, 11, 71, 72, 73, 74, 75, 76, 77, 78, 79, 80, 81, 82, 83, 84, 85, 86, 87, 88, 89, 90, 91, 92], .none, .none, .none, .none, .none, .none]

theorem vc_phosphorref4_New (l : Slc) (w : World) (K : Option Addr → Int → World → Prop) :
    vcFn C (Try.f70.body.getD .skip) Try.f70.results.toList Try.f70.ntmps an_phosphorref4_New [Kind.ptr, (Kind.int .i64)] [(.slice l.a l.n l.c)] w (fun s w => K s.1 s.2.1 w) = sh_phosphorref4_New l w K := by kernel_rfl

theorem call_phosphorref4_New (l : Slc) {w : World} {K : Option Addr → Int → World → Prop} (h : sh_phosphorref4_New l w K) : c_phosphorref4_New l w K := by
  rw [← vc_phosphorref4_New] at h
  refine Calls.mono (calls_of_vc C.plain_ok C.mixed Try.func70 rfl h) ?_
  rintro e w' ⟨s, rfl, hK⟩
  exact ⟨s.1, s.2.1, rfl, hK⟩

/-- (*phosphor/phosphorref1.Writer).Bits -/
def sh_phosphorref1_Writer_Bits (wx : Option Addr) (v : Int) (n : Int) (w : World) (K : World → Prop) : Prop :=
  joinP (σ := Unit) (fun s w1 =>
    loopP (σ := Int × Unit) (fun I2 s_1 w2 =>
      cond (decide (s_1.1 < n))
        (onPtr wx fun t20 =>
         ldSl (t20.add 0) w2 fun t22 =>
         0 ≤ (IntKind.u64.wrap s_1.1) ∧
         nw ty_uint8 [(.int .u8 (IntKind.u8.wrap (bitsR .and .u32 (v.fdiv (2 ^ (min (IntKind.u64.wrap s_1.1).toNat IntKind.u32.bits))) (1 : Int))))] w2 fun t29 w3 =>
         apK PG #[ty_sl_uint8, ty_sl_uint8] ty_sl_uint8 t22 (⟨(some t29), 1, 1⟩ : Slc) w3 fun t30 w4 =>
         onPtr wx fun t31 =>
         stK (t31.add 0) [(.slice t30.a t30.n t30.c)] w4 fun w5 =>
         I2 ((IntKind.i64.wrap (s_1.1 + (1 : Int))), ()) w5)
        (K w2)) (0, ()) w1) fun J1 =>
  cond (decide (n < (1 : Int)))
    (K w)
    (cond (decide (n > (32 : Int)))
       (K w)
       (J1 (()) w))

def an_phosphorref1_Writer_Bits : List Ann := [.join [] [7, 8, 9, 10, 11, 12], .none, .none, .join [(6, (Kind.int .i64))] [6, 13, 14, 15, 16, 17, 18, 19, 20, 21, 22, 23, 24, 25, 26, 27, 28, 29, 30, 31, 32], .none, .none, .none]

theorem vc_phosphorref1_Writer_Bits (wx : Option Addr) (v : Int) (n : Int) (w : World) (K : World → Prop) :
    vcFn C (Try.f71.body.getD .skip) Try.f71.results.toList Try.f71.ntmps an_phosphorref1_Writer_Bits [] [(.pointer wx), (.int .u32 v), (.int .i64 n)] w (fun s w => K w) = sh_phosphorref1_Writer_Bits wx v n w K := by kernel_rfl

theorem call_phosphorref1_Writer_Bits (wx : Option Addr) (v : Int) (n : Int) {w : World} {K : World → Prop} (h : sh_phosphorref1_Writer_Bits wx v n w K) : c_phosphorref1_Writer_Bits wx v n w K := by
  rw [← vc_phosphorref1_Writer_Bits] at h
  refine Calls.mono (calls_of_vc C.plain_ok C.mixed Try.func71 rfl h) ?_
  rintro e w' ⟨s, rfl, hK⟩
  exact ⟨rfl, hK⟩

/-- (*phosphor/phosphorref4.Table).Code -/
def sh_phosphorref4_Table_Code (t : Option Addr) (s : Int) (w : World) (K : Int → Int → World → Prop) : Prop :=
  joinP (σ := Unit) (fun s_1 w1 =>
    onPtr t fun t28 =>
    ldSl (t28.add 1) w1.drew fun t30 =>
    ixK t30 s 1 fun t32 =>
    ldI .u32 t32 w1.drew fun t33 =>
    onPtr t fun t35 =>
    ldSl (t35.add 0) w1.drew fun t37 =>
    ixK t37 s 1 fun t39 =>
    ldI .u8 t39 w1.drew fun t40 =>
    onPtr t fun t44 =>
    ldSl (t44.add 0) w1.drew fun t46 =>
    ixK t46 s 1 fun t48 =>
    ldI .u8 t48 w1.drew fun t49 =>
    c_phosphorref1_Reverse t33 (IntKind.i64.wrap t40) w1.drew fun t42 w2 =>
    World.cell? w2 t48 = some (.int .u8 t49) ∧
    World.cell? w2 (t44.add 0) = some (.slice t46.a t46.n t46.c) ∧
    K t42 (IntKind.i64.wrap t49) w2) fun J1 =>
  cond (decide (s < (0 : Int)))
    (K 0 0 w)
    (onPtr t fun t11 =>
     ldSl (t11.add 0) w fun t13 =>
     cond (decide (s ≥ ((t13.n : Nat) : Int)))
       (K 0 0 w)
       (onPtr t fun t19 =>
        ldSl (t19.add 0) w fun t21 =>
        ixK t21 s 1 fun t23 =>
        ldI .u8 t23 w fun t24 =>
        cond (t24 == (0 : Int))
          (K 0 0 w)
          (J1 (()) w)))

def an_phosphorref4_Table_Code : List Ann := [.none, .join [] [4, 5, 6, 7, 8, 9, 10, 11, 12, 13, 14, 15, 16, 17, 18, 19, 20, 21, 22, 23, 24, 25, 26], .none, .none, .none]

theorem vc_phosphorref4_Table_Code (t : Option Addr) (s : Int) (w : World) (K : Int → Int → World → Prop) :
    vcFn C (Try.f72.body.getD .skip) Try.f72.results.toList Try.f72.ntmps an_phosphorref4_Table_Code [(Kind.int .u32), (Kind.int .i64)] [(.pointer t), (.int .i64 s)] w (fun s w => K s.1 s.2.1 w) = sh_phosphorref4_Table_Code t s w K := by kernel_rfl

theorem call_phosphorref4_Table_Code (t : Option Addr) (s : Int) {w : World} {K : Int → Int → World → Prop} (h : sh_phosphorref4_Table_Code t s w K) : c_phosphorref4_Table_Code t s w K := by
  rw [← vc_phosphorref4_Table_Code] at h
  refine Calls.mono (calls_of_vc C.plain_ok C.mixed Try.func72 rfl h) ?_
  rintro e w' ⟨s, rfl, hK⟩
  exact ⟨s.1, s.2.1, rfl, hK⟩

/-- (*phosphor/phosphorref1.Writer).Done -/
def sh_phosphorref1_Writer_Done (wx : Option Addr) (w : World) (K : Slc → World → Prop) : Prop :=
  onPtr wx fun t6 =>
  ldSl (t6.add 0) w fun t8 =>
  (8 : Int) ≠ 0 ∧
  mkSl PG ty_sl_uint8 (.int .i64 (IntKind.i64.wrap ((IntKind.i64.wrap (((t8.n : Nat) : Int) + (7 : Int))).tdiv (8 : Int)))) (.int .i64 (IntKind.i64.wrap ((IntKind.i64.wrap (((t8.n : Nat) : Int) + (7 : Int))).tdiv (8 : Int)))) w fun t12 w1 =>
  loopP (σ := Int × Unit) (fun I1 s w2 =>
    onPtr wx fun t15 =>
    ldSl (t15.add 0) w2 fun t17 =>
    cond (decide (s.1 < ((t17.n : Nat) : Int)))
      ((8 : Int) ≠ 0 ∧
       (8 : Int) ≠ 0 ∧
       ixK t12 (IntKind.i64.wrap (s.1.tdiv (8 : Int))) 1 fun t28 =>
       ldI .u8 t28 w2.drew fun t29 =>
       onPtr wx fun t31 =>
       ldSl (t31.add 0) w2.drew fun t33 =>
       ixK t33 s.1 1 fun t35 =>
       ldI .u8 t35 w2.drew fun t36 =>
       (8 : Int) ≠ 0 ∧
       0 ≤ (IntKind.u64.wrap (s.1.tmod (8 : Int))) ∧
       ixK t12 (IntKind.i64.wrap (s.1.tdiv (8 : Int))) 1 fun t42 =>
       stK t42 [(.int .u8 (bitsR .or .u8 t29 (IntKind.u8.wrap (t36 * 2 ^ (min (IntKind.u64.wrap (s.1.tmod (8 : Int))).toNat IntKind.u8.bits)))))] w2.drew fun w3 =>
       I1 ((IntKind.i64.wrap (s.1 + (1 : Int))), ()) w3)
      (K t12 w2)) (0, ()) w1

def an_phosphorref1_Writer_Done : List Ann := [.none, .none, .none, .none, .join [(4, (Kind.int .i64))] [4, 13, 14, 15, 16, 17, 18, 19, 20, 21, 22, 23, 24, 25, 26, 27, 28, 29, 30, 31, 32, 33, 34, 35, 36, 37, 38, 39, 40, 41, 42], .none, .none, .none, .none]

theorem vc_phosphorref1_Writer_Done (wx : Option Addr) (w : World) (K : Slc → World → Prop) :
    vcFn C (Try.f73.body.getD .skip) Try.f73.results.toList Try.f73.ntmps an_phosphorref1_Writer_Done [Kind.slice] [(.pointer wx)] w (fun s w => K s.1 w) = sh_phosphorref1_Writer_Done wx w K := by kernel_rfl

theorem call_phosphorref1_Writer_Done (wx : Option Addr) {w : World} {K : Slc → World → Prop} (h : sh_phosphorref1_Writer_Done wx w K) : c_phosphorref1_Writer_Done wx w K := by
  rw [← vc_phosphorref1_Writer_Done] at h
  refine Calls.mono (calls_of_vc C.plain_ok C.mixed Try.func73 rfl h) ?_
  rintro e w' ⟨s, rfl, hK⟩
  exact ⟨s.1, rfl, hK⟩

/-- phosphor/inflate.New -/
def sh_inflate_New (most : Int) (w : World) (K : Option Addr → Int → World → Prop) : Prop :=
  joinP (σ := Unit) (fun s w1 =>
    nw ty_inflate_Decoder [(.int .i64 most), (.int .i64 0), (.bool false), (.slice none 0 0), (.int .i64 0), (.int .i64 0), (.pointer none), (.pointer none), (.slice none 0 0), (.int .i64 0), (.int .i64 0), (.int .i64 0), (.int .i64 0), (.int .i64 0), (.slice none 0 0)] w1 fun t12 w2 =>
    K (some t12) 0 w2) fun J1 =>
  cond (decide (most < (0 : Int)))
    (K none 1 w)
    (cond (decide (most > (1073741824 : Int)))
       (K none 1 w)
       (J1 (()) w))

def an_inflate_New : List Ann := [.none, .join [] [2, 3, 4, 5, 6, 7, 8, 9], .none, .none, .none]

theorem vc_inflate_New (most : Int) (w : World) (K : Option Addr → Int → World → Prop) :
    vcFn C (Try.f74.body.getD .skip) Try.f74.results.toList Try.f74.ntmps an_inflate_New [Kind.ptr, (Kind.int .i64)] [(.int .i64 most)] w (fun s w => K s.1 s.2.1 w) = sh_inflate_New most w K := by kernel_rfl

theorem call_inflate_New (most : Int) {w : World} {K : Option Addr → Int → World → Prop} (h : sh_inflate_New most w K) : c_inflate_New most w K := by
  rw [← vc_inflate_New] at h
  refine Calls.mono (calls_of_vc C.plain_ok C.mixed Try.func74 rfl h) ?_
  rintro e w' ⟨s, rfl, hK⟩
  exact ⟨s.1, s.2.1, rfl, hK⟩

/-- (*phosphor/inflate.Decoder).Write -/
def sh_inflate_Decoder_Write (d : Option Addr) (b : Slc) (w : World) (K : Slc → Int → World → Prop) : Prop :=
  onPtr d fun t12 =>
  ldI .i64 (t12.add 12) w fun t14 =>
  onPtr d fun t18 =>
  stK (t18.add 12) [(.int .i64 (IntKind.i64.wrap (t14 + ((b.n : Nat) : Int))))] w fun w1 =>
  onPtr d fun t22 =>
  ldI .i64 (t22.add 13) w1 fun t24 =>
  cond (t24 != (0 : Int))
    (onPtr d fun t27 =>
     ldI .i64 (t27.add 13) w1.drew fun t29 =>
     K (⟨none, 0, 0⟩ : Slc) t29 w1.drew)
    (onPtr d fun t32 =>
     ldI .i64 (t32.add 1) w1 fun t34 =>
     cond (t34 == (5 : Int))
       (K (⟨none, 0, 0⟩ : Slc) 0 w1)
       (onPtr d fun t38 =>
        ldSl (t38.add 3) w1 fun t40 =>
        nw ty_sl_uint8 [(.slice t40.a t40.n t40.c), (.slice b.a b.n b.c)] w1 fun t42 w2 =>
        c_slices_Concat_byte_byte (⟨(some t42), 2, 2⟩ : Slc) w2 fun t43 w3 =>
        onPtr d fun t44 =>
        stK (t44.add 3) [(.slice t43.a t43.n t43.c)] w3 fun w4 =>
        onPtr d fun t47 =>
        ldSl (t47.add 3) w4 fun t49 =>
        c_bits_NewReader t49 w4 fun t50 w5 =>
        onPtr d fun t53 =>
        ldI .i64 (t53.add 4) w5 fun t55 =>
        c_bits_Reader_Bits t50 t55 w5 fun t56 t56_1 w6 =>
        loopP (σ := Int × Unit) (fun I1 s w7 =>
          joinP (σ := Unit) (fun s_1 w8 =>
            c_bits_Reader_At t50 w8 fun t67 w9 =>
            c_inflate_Decoder_step d t50 w9 fun t70 w10 =>
            cond (t70 == (2 : Int))
              (c_bits_Reader_Back t50 t67 w10 fun w11 =>
               I1 (t70, ()) w11)
              (I1 (t70, ()) w10)) fun J2 =>
          cond (s.1 == (0 : Int))
            (onPtr d fun t61 =>
             ldI .i64 (t61.add 1) w7 fun t63 =>
             cond (t63 != (5 : Int))
               (J2 (()) w7)
               (c_bits_Reader_At t50 w7 fun t77 w12 =>
                (8 : Int) ≠ 0 ∧
                joinP (σ := Int × Unit) (fun s_2 w13 =>
                  onPtr d fun t89 =>
                  ldI .i64 (t89.add 11) w13 fun t91 =>
                  onPtr d fun t94 =>
                  stK (t94.add 11) [(.int .i64 (IntKind.i64.wrap (t91 + s_2.1)))] w13 fun w14 =>
                  c_bits_Reader_At t50 w14 fun t98 w15 =>
                  (8 : Int) ≠ 0 ∧
                  onPtr d fun t100 =>
                  stK (t100.add 4) [(.int .i64 (t98.tmod (8 : Int)))] w15 fun w16 =>
                  onPtr d fun t104 =>
                  ldSl (t104.add 3) w16 fun t106 =>
                  slK t106 (some s_2.1) none 1 fun t108 =>
                  c_slices_Clone_byte_byte t108 w16 fun t109 w17 =>
                  onPtr d fun t110 =>
                  stK (t110.add 3) [(.slice t109.a t109.n t109.c)] w17 fun w18 =>
                  joinP (σ := Unit) (fun s_3 w19 =>
                    onPtr d fun t121 =>
                    ldSl (t121.add 14) w19 fun t123 =>
                    onPtr d fun t125 =>
                    stK (t125.add 14) [(.slice none 0 0)] w19 fun w20 =>
                    joinP (σ := Unit) (fun s_4 w21 =>
                      onPtr d fun t145 =>
                      ldI .i64 (t145.add 10) w21 fun t147 =>
                      onPtr d fun t151 =>
                      stK (t151.add 10) [(.int .i64 (IntKind.i64.wrap (t147 + ((t123.n : Nat) : Int))))] w21 fun w22 =>
                      K t123 0 w22) fun J5 =>
                    joinP (σ := Bool × Unit) (fun s_5 w23 =>
                      cond s_5.1
                        (onPtr d fun t137 =>
                         stK (t137.add 13) [(.int .i64 s.1)] w23 fun w24 =>
                         onPtr d fun t139 =>
                         stK (t139.add 3) [(.slice none 0 0)] w24 fun w25 =>
                         onPtr d fun t141 =>
                         stK (t141.add 8) [(.slice none 0 0)] w25 fun w26 =>
                         K (⟨none, 0, 0⟩ : Slc) s.1 w26)
                        (J5 (()) w23)) fun J6 =>
                    cond (s.1 != (0 : Int))
                      (J6 ((s.1 != (2 : Int)), ()) w20)
                      (J6 (false, ()) w20)) fun J4 =>
                  onPtr d fun t113 =>
                  ldI .i64 (t113.add 1) w18 fun t115 =>
                  cond (t115 == (5 : Int))
                    (onPtr d fun t118 =>
                     stK (t118.add 3) [(.slice none 0 0)] w18 fun w27 =>
                     J4 (()) w27)
                    (J4 (()) w18)) fun J3 =>
                onPtr d fun t80 =>
                ldI .i64 (t80.add 1) w12 fun t82 =>
                cond (t82 == (5 : Int))
                  (c_bits_Reader_At t50 w12 fun t85 w28 =>
                   (8 : Int) ≠ 0 ∧
                   J3 ((IntKind.i64.wrap ((IntKind.i64.wrap (t85 + (7 : Int))).tdiv (8 : Int))), ()) w28)
                  (J3 ((IntKind.i64.wrap (t77.tdiv (8 : Int))), ()) w12)))
            (c_bits_Reader_At t50 w7 fun t77_1 w29 =>
             (8 : Int) ≠ 0 ∧
             joinP (σ := Int × Unit) (fun s_6 w30 =>
               onPtr d fun t89_1 =>
               ldI .i64 (t89_1.add 11) w30 fun t91_1 =>
               onPtr d fun t94_1 =>
               stK (t94_1.add 11) [(.int .i64 (IntKind.i64.wrap (t91_1 + s_6.1)))] w30 fun w31 =>
               c_bits_Reader_At t50 w31 fun t98_1 w32 =>
               (8 : Int) ≠ 0 ∧
               onPtr d fun t100_1 =>
               stK (t100_1.add 4) [(.int .i64 (t98_1.tmod (8 : Int)))] w32 fun w33 =>
               onPtr d fun t104_1 =>
               ldSl (t104_1.add 3) w33 fun t106_1 =>
               slK t106_1 (some s_6.1) none 1 fun t108_1 =>
               c_slices_Clone_byte_byte t108_1 w33 fun t109_1 w34 =>
               onPtr d fun t110_1 =>
               stK (t110_1.add 3) [(.slice t109_1.a t109_1.n t109_1.c)] w34 fun w35 =>
               joinP (σ := Unit) (fun s_7 w36 =>
                 onPtr d fun t121_1 =>
                 ldSl (t121_1.add 14) w36 fun t123_1 =>
                 onPtr d fun t125_1 =>
                 stK (t125_1.add 14) [(.slice none 0 0)] w36 fun w37 =>
                 joinP (σ := Unit) (fun s_8 w38 =>
                   onPtr d fun t145_1 =>
                   ldI .i64 (t145_1.add 10) w38 fun t147_1 =>
                   onPtr d fun t151_1 =>
                   stK (t151_1.add 10) [(.int .i64 (IntKind.i64.wrap (t147_1 + ((t123_1.n : Nat) : Int))))] w38 fun w39 =>
                   K t123_1 0 w39) fun J9 =>
                 joinP (σ := Bool × Unit) (fun s_9 w40 =>
                   cond s_9.1
                     (onPtr d fun t137_1 =>
                      stK (t137_1.add 13) [(.int .i64 s.1)] w40 fun w41 =>
                      onPtr d fun t139_1 =>
                      stK (t139_1.add 3) [(.slice none 0 0)] w41 fun w42 =>
                      onPtr d fun t141_1 =>
                      stK (t141_1.add 8) [(.slice none 0 0)] w42 fun w43 =>
                      K (⟨none, 0, 0⟩ : Slc) s.1 w43)
                     (J9 (()) w40)) fun J10 =>
                 cond (s.1 != (0 : Int))
                   (J10 ((s.1 != (2 : Int)), ()) w37)
                   (J10 (false, ()) w37)) fun J8 =>
               onPtr d fun t113_1 =>
               ldI .i64 (t113_1.add 1) w35 fun t115_1 =>
               cond (t115_1 == (5 : Int))
                 (onPtr d fun t118_1 =>
                  stK (t118_1.add 3) [(.slice none 0 0)] w35 fun w44 =>
                  J8 (()) w44)
                 (J8 (()) w35)) fun J7 =>
             onPtr d fun t80_1 =>
             ldI .i64 (t80_1.add 1) w29 fun t82_1 =>
             cond (t82_1 == (5 : Int))
               (c_bits_Reader_At t50 w29 fun t85_1 w45 =>
                (8 : Int) ≠ 0 ∧
                J7 ((IntKind.i64.wrap ((IntKind.i64.wrap (t85_1 + (7 : Int))).tdiv (8 : Int))), ()) w45)
               (J7 ((IntKind.i64.wrap (t77_1.tdiv (8 : Int))), ()) w29))) (0, ()) w6))

def an_inflate_Decoder_Write : List Ann := [.none, .none, .none, .none, .none, .none, .none, .none, .none, .none, .none, .none, .join [(7, (Kind.int .i64))] [7, 8, 57, 58, 59, 60, 61, 62, 63, 64, 65, 66, 67, 68, 69, 70, 71, 72, 73, 74, 75], .join [] [57, 58, 59, 60, 61, 62, 63, 64, 65], .none, .none, .none, .none, .none, .join [(9, (Kind.int .i64))] [9, 79, 80, 81, 82, 83, 84, 85, 86, 87], .none, .none, .none, .none, .join [] [112, 113, 114, 115, 116, 117, 118, 119], .none, .none, .none, .join [] [4, 5, 127, 128, 129, 130, 131, 132, 133, 134, 135, 136, 137, 138, 139, 140, 141, 142, 143], .join [(132, Kind.bool)] [127, 128, 129, 130, 131, 132], .none, .none, .none, .none]

theorem vc_inflate_Decoder_Write (d : Option Addr) (b : Slc) (w : World) (K : Slc → Int → World → Prop) :
    vcFn C (Try.f75.body.getD .skip) Try.f75.results.toList Try.f75.ntmps an_inflate_Decoder_Write [Kind.slice, (Kind.int .i64)] [(.pointer d), (.slice b.a b.n b.c)] w (fun s w => K s.1 s.2.1 w) = sh_inflate_Decoder_Write d b w K := by kernel_rfl

theorem call_inflate_Decoder_Write (d : Option Addr) (b : Slc) {w : World} {K : Slc → Int → World → Prop} (h : sh_inflate_Decoder_Write d b w K) : c_inflate_Decoder_Write d b w K := by
  rw [← vc_inflate_Decoder_Write] at h
  refine Calls.mono (calls_of_vc C.plain_ok C.mixed Try.func75 rfl h) ?_
  rintro e w' ⟨s, rfl, hK⟩
  exact ⟨s.1, s.2.1, rfl, hK⟩

/-- (*phosphor/inflate.Decoder).Done -/
def sh_inflate_Decoder_Done (d : Option Addr) (w : World) (K : Bool → World → Prop) : Prop :=
  onPtr d fun t4 =>
  ldI .i64 (t4.add 1) w fun t6 =>
  cond (t6 == (5 : Int))
    (onPtr d fun t10 =>
     ldI .i64 (t10.add 13) w fun t12 =>
     K (t12 == (0 : Int)) w)
    (K false w)

def an_inflate_Decoder_Done : List Ann := [.none, .none]

theorem vc_inflate_Decoder_Done (d : Option Addr) (w : World) (K : Bool → World → Prop) :
    vcFn C (Try.f76.body.getD .skip) Try.f76.results.toList Try.f76.ntmps an_inflate_Decoder_Done [Kind.bool] [(.pointer d)] w (fun s w => K s.1 w) = sh_inflate_Decoder_Done d w K := by kernel_rfl

theorem call_inflate_Decoder_Done (d : Option Addr) {w : World} {K : Bool → World → Prop} (h : sh_inflate_Decoder_Done d w K) : c_inflate_Decoder_Done d w K := by
  rw [← vc_inflate_Decoder_Done] at h
  refine Calls.mono (calls_of_vc C.plain_ok C.mixed Try.func76 rfl h) ?_
  rintro e w' ⟨s, rfl, hK⟩
  exact ⟨s.1, rfl, hK⟩

/-- (*phosphor/inflate.Decoder).Used -/
def sh_inflate_Decoder_Used (d : Option Addr) (w : World) (K : Int → World → Prop) : Prop :=
  c_inflate_Decoder_Done d w fun t4 w1 =>
  cond t4
    (onPtr d fun t6 =>
     ldI .i64 (t6.add 11) w1 fun t8 =>
     K t8 w1)
    (onPtr d fun t10 =>
     ldI .i64 (t10.add 12) w1 fun t12 =>
     K t12 w1)

def an_inflate_Decoder_Used : List Ann := [.none, .none, .none, .none, .none]

theorem vc_inflate_Decoder_Used (d : Option Addr) (w : World) (K : Int → World → Prop) :
    vcFn C (Try.f77.body.getD .skip) Try.f77.results.toList Try.f77.ntmps an_inflate_Decoder_Used [(Kind.int .i64)] [(.pointer d)] w (fun s w => K s.1 w) = sh_inflate_Decoder_Used d w K := by kernel_rfl

theorem call_inflate_Decoder_Used (d : Option Addr) {w : World} {K : Int → World → Prop} (h : sh_inflate_Decoder_Used d w K) : c_inflate_Decoder_Used d w K := by
  rw [← vc_inflate_Decoder_Used] at h
  refine Calls.mono (calls_of_vc C.plain_ok C.mixed Try.func77 rfl h) ?_
  rintro e w' ⟨s, rfl, hK⟩
  exact ⟨s.1, rfl, hK⟩

/-- maps.Clone[map[int]phosphor/store.image,int,phosphor/store.image] -/
def sh_maps_Clone_map_int_store_image_int_store_image (m : Option Nat) (w : World) (K : Option Nat → World → Prop) : Prop :=
  cond (m.isNone)
    (K none w)
    (callX PG 116 [(.iface ty_map_int_store_image (.map m))] [Kind.raw] w fun (t7 : Value) w1 =>
     runK1 PG (Instr.typeAssert t7 ty_interface ty_map_int_store_image false) Kind.map w1 fun (t8 : Option Nat) w2 =>
     K t8 w2)

def an_maps_Clone_map_int_store_image_int_store_image : List Ann := [.none, .none, .none, .none, .none]

theorem vc_maps_Clone_map_int_store_image_int_store_image (m : Option Nat) (w : World) (K : Option Nat → World → Prop) :
    vcFn C (Try.f78.body.getD .skip) Try.f78.results.toList Try.f78.ntmps an_maps_Clone_map_int_store_image_int_store_image [Kind.map] [(.map m)] w (fun s w => K s.1 w) = sh_maps_Clone_map_int_store_image_int_store_image m w K := by kernel_rfl

theorem call_maps_Clone_map_int_store_image_int_store_image (m : Option Nat) {w : World} {K : Option Nat → World → Prop} (h : sh_maps_Clone_map_int_store_image_int_store_image m w K) : c_maps_Clone_map_int_store_image_int_store_image m w K := by
  rw [← vc_maps_Clone_map_int_store_image_int_store_image] at h
  refine Calls.mono (calls_of_vc C.plain_ok C.mixed Try.func78 rfl h) ?_
  rintro e w' ⟨s, rfl, hK⟩
  exact ⟨s.1, rfl, hK⟩

/-- phosphor/phosphorref7.Right -/
def sh_phosphorref7_Right (m : T_phosphorref7_Matrix) (w : World) (K : Bool → World → Prop) : Prop :=
  nw ty_phosphorref7_Matrix (T_phosphorref7_Matrix.rep.cells m) w fun m_1 w1 =>
  ldI .i64 (m_1.add 0) w1 fun t4 =>
  ldI .i64 (m_1.add 1) w1 fun t6 =>
  c_phosphorref7_size t4 t6 w1 fun t7 w2 =>
  cond t7
    (ldSl (m_1.add 2) w2 fun t10 =>
     ldI .i64 (m_1.add 0) w2 fun t13 =>
     ldI .i64 (m_1.add 1) w2 fun t16 =>
     K (((t10.n : Nat) : Int) == (IntKind.i64.wrap ((IntKind.i64.wrap ((4 : Int) * t13)) * t16))) w2)
    (K false w2)

def an_phosphorref7_Right : List Ann := [.none, .none]

theorem vc_phosphorref7_Right (m : T_phosphorref7_Matrix) (w : World) (K : Bool → World → Prop) :
    vcFn C (Try.f79.body.getD .skip) Try.f79.results.toList Try.f79.ntmps an_phosphorref7_Right [Kind.bool] [(.agg #[(.int .i64 m.W), (.int .i64 m.H), (.slice m.P.a m.P.n m.P.c)])] w (fun s w => K s.1 w) = sh_phosphorref7_Right m w K := by kernel_rfl

theorem call_phosphorref7_Right (m : T_phosphorref7_Matrix) {w : World} {K : Bool → World → Prop} (h : sh_phosphorref7_Right m w K) : c_phosphorref7_Right m w K := by
  rw [← vc_phosphorref7_Right] at h
  refine Calls.mono (calls_of_vc C.plain_ok C.mixed Try.func79 rfl h) ?_
  rintro e w' ⟨s, rfl, hK⟩
  exact ⟨s.1, rfl, hK⟩

/-- (*phosphor/phosphorref21.Store).room -/
def sh_phosphorref21_Store_room (s : Option Addr) (n : Int) (w : World) (K : Slc → World → Prop) : Prop :=
  loopP (σ := Slc × Unit) (fun I1 s_1 w1 =>
    joinP (σ := Unit) (fun s_2 w2 =>
      loopP (σ := Int × Int × Unit) (fun I3 s_3 w3 =>
        onPtr s fun t27 =>
        ldSl (t27.add 3) w3 fun t29 =>
        cond (decide (s_3.2.1 < ((t29.n : Nat) : Int)))
          (onPtr s fun t35 =>
           ldSl (t35.add 3) w3.drew fun t37 =>
           ixK t37 s_3.2.1 7 fun t39 =>
           ldI .i64 (t39.add 5) w3.drew fun t41 =>
           onPtr s fun t43 =>
           ldSl (t43.add 3) w3.drew fun t45 =>
           ixK t45 s_3.1 7 fun t47 =>
           ldI .i64 (t47.add 5) w3.drew fun t49 =>
           cond (decide (t41 < t49))
             (I3 (s_3.2.1, (IntKind.i64.wrap (s_3.2.1 + (1 : Int))), ()) w3.drew)
             (I3 (s_3.1, (IntKind.i64.wrap (s_3.2.1 + (1 : Int))), ()) w3.drew))
          (onPtr s fun t54 =>
           ldSl (t54.add 3) w3 fun t56 =>
           ixK t56 s_3.1 7 fun t58 =>
           ldI .i64 (t58.add 0) w3 fun t60 =>
           nw ty_int [(.int .i64 t60)] w3 fun t61 w4 =>
           apK PG #[ty_sl_int, ty_sl_int] ty_sl_int s_1.1 (⟨(some t61), 1, 1⟩ : Slc) w4 fun t62 w5 =>
           onPtr s fun t65 =>
           ldSl (t65.add 3) w5 fun t67 =>
           ixK t67 s_3.1 7 fun t69 =>
           ldI .i64 (t69.add 0) w5 fun t71 =>
           c_phosphorref21_Store_Drop s t71 w5 fun t72 w6 =>
           I1 (t62, ()) w6)) (0, 1, ()) w2) fun J2 =>
    onPtr s fun t11 =>
    ldI .i64 (t11.add 0) w1.drew fun t13 =>
    c_phosphorref21_Store_Used s w1.drew fun t9 w7 =>
    World.cell? w7 (t11.add 0) = some (.int .i64 t13) ∧
    cond (decide (t9 > (IntKind.i64.wrap (t13 - n))))
      (onPtr s fun t19 =>
       ldSl (t19.add 3) w7 fun t21 =>
       cond (decide (((t21.n : Nat) : Int) > (0 : Int)))
         (J2 (()) w7)
         (K s_1.1 w7))
      (K s_1.1 w7)) (⟨none, 0, 0⟩, ()) w

def an_phosphorref21_Store_room : List Ann := [.none, .none, .none, .join [(5, Kind.slice)] [5, 6, 7, 8, 9, 10, 11, 12, 13, 14, 15, 16, 17, 18, 19, 20, 21, 22, 23, 24, 25, 26, 27, 28, 29, 30, 31, 32, 33, 34, 35, 36, 37, 38, 39, 40, 41, 42, 43, 44, 45, 46, 47, 48, 49, 50, 51, 52, 53, 54, 55, 56, 57, 58, 59, 60, 61, 62, 63, 64, 65, 66, 67, 68, 69, 70, 71, 72], .join [] [8, 9, 10, 11, 12, 13, 14, 15, 16, 17, 18, 19, 20, 21, 22, 23, 24], .none, .none, .none, .none, .join [(6, (Kind.int .i64)), (7, (Kind.int .i64))] [6, 7, 25, 26, 27, 28, 29, 30, 31, 32, 33, 34, 35, 36, 37, 38, 39, 40, 41, 42, 43, 44, 45, 46, 47, 48, 49, 50, 51], .none, .none, .none, .none, .none, .none]

theorem vc_phosphorref21_Store_room (s : Option Addr) (n : Int) (w : World) (K : Slc → World → Prop) :
    vcFn C (Try.f80.body.getD .skip) Try.f80.results.toList Try.f80.ntmps an_phosphorref21_Store_room [Kind.slice] [(.pointer s), (.int .i64 n)] w (fun s w => K s.1 w) = sh_phosphorref21_Store_room s n w K := by kernel_rfl

theorem call_phosphorref21_Store_room (s : Option Addr) (n : Int) {w : World} {K : Slc → World → Prop} (h : sh_phosphorref21_Store_room s n w K) : c_phosphorref21_Store_room s n w K := by
  rw [← vc_phosphorref21_Store_room] at h
  refine Calls.mono (calls_of_vc C.plain_ok C.mixed Try.func80 rfl h) ?_
  rintro e w' ⟨s, rfl, hK⟩
  exact ⟨s.1, rfl, hK⟩

/-- (*phosphor/phosphorref21.Store).at -/
def sh_phosphorref21_Store_at (s : Option Addr) (id : Int) (w : World) (K : Int → World → Prop) : Prop :=
  loopP (σ := Int × Unit) (fun I1 s_1 w1 =>
    onPtr s fun t8 =>
    ldSl (t8.add 3) w1 fun t10 =>
    cond (decide (s_1.1 < ((t10.n : Nat) : Int)))
      (onPtr s fun t16 =>
       ldSl (t16.add 3) w1 fun t18 =>
       ixK t18 s_1.1 7 fun t20 =>
       ldI .i64 (t20.add 0) w1 fun t22 =>
       cond (t22 == id)
         (K s_1.1 w1)
         (I1 ((IntKind.i64.wrap (s_1.1 + (1 : Int))), ()) w1))
      (K (-1) w1)) (0, ()) w

def an_phosphorref21_Store_at : List Ann := [.none, .none, .none, .join [(5, (Kind.int .i64))] [4, 5, 6, 7, 8, 9, 10, 11, 12, 13, 14, 15, 16, 17, 18, 19, 20, 21, 22, 23, 24, 25], .none, .none, .none, .none, .none, .none]

theorem vc_phosphorref21_Store_at (s : Option Addr) (id : Int) (w : World) (K : Int → World → Prop) :
    vcFn C (Try.f81.body.getD .skip) Try.f81.results.toList Try.f81.ntmps an_phosphorref21_Store_at [(Kind.int .i64)] [(.pointer s), (.int .i64 id)] w (fun s w => K s.1 w) = sh_phosphorref21_Store_at s id w K := by kernel_rfl

theorem call_phosphorref21_Store_at (s : Option Addr) (id : Int) {w : World} {K : Int → World → Prop} (h : sh_phosphorref21_Store_at s id w K) : c_phosphorref21_Store_at s id w K := by
  rw [← vc_phosphorref21_Store_at] at h
  refine Calls.mono (calls_of_vc C.plain_ok C.mixed Try.func81 rfl h) ?_
  rintro e w' ⟨s, rfl, hK⟩
  exact ⟨s.1, rfl, hK⟩

/-- phosphor/phosphorref7.Twin -/
def sh_phosphorref7_Twin (m : T_phosphorref7_Matrix) (w : World) (K : T_phosphorref7_Matrix → World → Prop) : Prop :=
  nw ty_phosphorref7_Matrix (T_phosphorref7_Matrix.rep.cells m) w fun m_1 w1 =>
  nw ty_phosphorref7_Matrix [(.int .i64 0), (.int .i64 0), (.slice none 0 0)] w1 fun t2 w2 =>
  ldI .i64 (m_1.add 0) w2.drew fun t4 =>
  ldI .i64 (m_1.add 1) w2.drew fun t6 =>
  ldSl (m_1.add 2) w2.drew fun t9 =>
  nw ty_uint8 [] w2.drew fun t7 w3 =>
  World.cell? w3 (m_1.add 2) = some (.slice t9.a t9.n t9.c) ∧
  World.cell? w3 (m_1.add 1) = some (.int .i64 t6) ∧
  World.cell? w3 (m_1.add 0) = some (.int .i64 t4) ∧
  apK PG #[ty_sl_uint8, ty_sl_uint8] ty_sl_uint8 (⟨(some t7), 0, 0⟩ : Slc) t9 w3 fun t10 w4 =>
  World.cell? w4 (m_1.add 1) = some (.int .i64 t6) ∧
  World.cell? w4 (m_1.add 0) = some (.int .i64 t4) ∧
  stK t2 [(.int .i64 t4), (.int .i64 t6), (.slice t10.a t10.n t10.c)] w4 fun w5 =>
  ldS T_phosphorref7_Matrix.rep t2 w5 fun r =>
  K r w5

def an_phosphorref7_Twin : List Ann := [.none, .none]

theorem vc_phosphorref7_Twin (m : T_phosphorref7_Matrix) (w : World) (K : T_phosphorref7_Matrix → World → Prop) :
    vcFn C (Try.f82.body.getD .skip) Try.f82.results.toList Try.f82.ntmps an_phosphorref7_Twin [(Kind.struct T_phosphorref7_Matrix.rep)] [(.agg #[(.int .i64 m.W), (.int .i64 m.H), (.slice m.P.a m.P.n m.P.c)])] w (fun s w => K s.1 w) = sh_phosphorref7_Twin m w K := by kernel_rfl

theorem call_phosphorref7_Twin (m : T_phosphorref7_Matrix) {w : World} {K : T_phosphorref7_Matrix → World → Prop} (h : sh_phosphorref7_Twin m w K) : c_phosphorref7_Twin m w K := by
  rw [← vc_phosphorref7_Twin] at h
  refine Calls.mono (calls_of_vc C.plain_ok C.mixed Try.func82 rfl h) ?_
  rintro e w' ⟨s, rfl, hK⟩
  exact ⟨s.1, rfl, hK⟩

end Go.Proofs.Yteffnkpplhcomaa
