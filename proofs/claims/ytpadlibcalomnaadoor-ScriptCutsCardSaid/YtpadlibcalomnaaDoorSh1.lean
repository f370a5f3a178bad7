/- By program (gen.py): the typed text of the program's functions, part 1. -/
import Derived.Test.YtpadlibcalomnaaDoorDefs
set_option maxRecDepth 100000
set_option linter.unusedVariables false
namespace Go.Proofs.YtpadlibcalomnaaDoor
open Go.Vc

/-- (*strings.Builder).WriteByte -/
def sh_strings_Builder_WriteByte (b : Option Addr) (c : Int) (w : World) (K : Value → World → Prop) : Prop :=
  c_strings_Builder_copyCheck b w fun w1 =>
  onPtr b fun t9 =>
  ldSl (t9.add 1) w1 fun t11 =>
  nw ty_uint8 [(.int .u8 c)] w1 fun t13 w2 =>
  apK PG #[ty_sl_uint8, ty_sl_uint8] ty_sl_uint8 t11 (⟨(some t13), 1, 1⟩ : Slc) w2 fun t14 w3 =>
  onPtr b fun t15 =>
  stK (t15.add 1) [(.slice t14.a t14.n t14.c)] w3 fun w4 =>
  K (.nilIface : Value) w4

def an_strings_Builder_WriteByte : List Ann := [.none, .none, .none, .none]

theorem vc_strings_Builder_WriteByte (b : Option Addr) (c : Int) (w : World) (K : Value → World → Prop) :
    vcFn C (Tryd.f44.body.getD .skip) Tryd.f44.results.toList Tryd.f44.ntmps an_strings_Builder_WriteByte [Kind.raw] [(.pointer b), (.int .u8 c)] w (fun s w => K s.1 w) = sh_strings_Builder_WriteByte b c w K := by kernel_rfl

theorem call_strings_Builder_WriteByte (b : Option Addr) (c : Int) {w : World} {K : Value → World → Prop} (h : sh_strings_Builder_WriteByte b c w K) : c_strings_Builder_WriteByte b c w K := by
  rw [← vc_strings_Builder_WriteByte] at h
  refine Calls.mono (calls_of_vc C.plain_ok C.mixed Tryd.func44 rfl h) ?_
  rintro e w' ⟨s, rfl, hK⟩
  exact ⟨s.1, rfl, hK⟩

/-- (*strings.Builder).Write -/
def sh_strings_Builder_Write (b : Option Addr) (p : Slc) (w : World) (K : Int → Value → World → Prop) : Prop :=
  c_strings_Builder_copyCheck b w fun w1 =>
  onPtr b fun t10 =>
  ldSl (t10.add 1) w1 fun t12 =>
  apK PG #[ty_sl_uint8, ty_sl_uint8] ty_sl_uint8 t12 p w1 fun t14 w2 =>
  onPtr b fun t15 =>
  stK (t15.add 1) [(.slice t14.a t14.n t14.c)] w2 fun w3 =>
  K ((p.n : Nat) : Int) (.nilIface : Value) w3

def an_strings_Builder_Write : List Ann := [.none, .none, .none, .none]

theorem vc_strings_Builder_Write (b : Option Addr) (p : Slc) (w : World) (K : Int → Value → World → Prop) :
    vcFn C (Tryd.f45.body.getD .skip) Tryd.f45.results.toList Tryd.f45.ntmps an_strings_Builder_Write [(Kind.int .i64), Kind.raw] [(.pointer b), (.slice p.a p.n p.c)] w (fun s w => K s.1 s.2.1 w) = sh_strings_Builder_Write b p w K := by kernel_rfl

theorem call_strings_Builder_Write (b : Option Addr) (p : Slc) {w : World} {K : Int → Value → World → Prop} (h : sh_strings_Builder_Write b p w K) : c_strings_Builder_Write b p w K := by
  rw [← vc_strings_Builder_Write] at h
  refine Calls.mono (calls_of_vc C.plain_ok C.mixed Tryd.func45 rfl h) ?_
  rintro e w' ⟨s, rfl, hK⟩
  exact ⟨s.1, s.2.1, rfl, hK⟩

/-- (*strings.Builder).String -/
def sh_strings_Builder_String (b : Option Addr) (w : World) (K : ByteArray → World → Prop) : Prop :=
  onPtr b fun t4 =>
  ldSl (t4.add 1) w.drew fun t6 =>
  onPtr b fun t9 =>
  ldSl (t9.add 1) w.drew fun t11 =>
  runK1 PG (Builtin.unsafeSliceData_ #[ty_sl_uint8] ty_p_uint8 #[(.slice t6.a t6.n t6.c)]) Kind.ptr w.drew fun (t7 : Option Addr) w1 =>
  World.cell? w1 (t9.add 1) = some (.slice t11.a t11.n t11.c) ∧
  runK1 PG (Builtin.unsafeString_ #[ty_p_uint8, ty_int] ty_string #[(.pointer t7), (.int .i64 ((t11.n : Nat) : Int))]) Kind.string w1 fun (t13 : ByteArray) w2 =>
  K t13 w2

def an_strings_Builder_String : List Ann := [.none, .none]

theorem vc_strings_Builder_String (b : Option Addr) (w : World) (K : ByteArray → World → Prop) :
    vcFn C (Tryd.f46.body.getD .skip) Tryd.f46.results.toList Tryd.f46.ntmps an_strings_Builder_String [Kind.string] [(.pointer b)] w (fun s w => K s.1 w) = sh_strings_Builder_String b w K := by kernel_rfl

theorem call_strings_Builder_String (b : Option Addr) {w : World} {K : ByteArray → World → Prop} (h : sh_strings_Builder_String b w K) : c_strings_Builder_String b w K := by
  rw [← vc_strings_Builder_String] at h
  refine Calls.mono (calls_of_vc C.plain_ok C.mixed Tryd.func46 rfl h) ?_
  rintro e w' ⟨s, rfl, hK⟩
  exact ⟨s.1, rfl, hK⟩

/-- strings.IndexByte -/
def sh_strings_IndexByte (s : ByteArray) (c : Int) (w : World) (K : Int → World → Prop) : Prop :=
  c_internal_stringslite_IndexByte s c w fun t7 w1 =>
  K t7 w1

def an_strings_IndexByte : List Ann := [.none, .none]

theorem vc_strings_IndexByte (s : ByteArray) (c : Int) (w : World) (K : Int → World → Prop) :
    vcFn C (Tryd.f47.body.getD .skip) Tryd.f47.results.toList Tryd.f47.ntmps an_strings_IndexByte [(Kind.int .i64)] [(.string s), (.int .u8 c)] w (fun s w => K s.1 w) = sh_strings_IndexByte s c w K := by kernel_rfl

theorem call_strings_IndexByte (s : ByteArray) (c : Int) {w : World} {K : Int → World → Prop} (h : sh_strings_IndexByte s c w K) : c_strings_IndexByte s c w K := by
  rw [← vc_strings_IndexByte] at h
  refine Calls.mono (calls_of_vc C.plain_ok C.mixed Tryd.func47 rfl h) ?_
  rintro e w' ⟨s, rfl, hK⟩
  exact ⟨s.1, rfl, hK⟩

/-- phosphor/phosphorref26.digit -/
def sh_phosphorref26_digit (c : Int) (w : World) (K : Int → World → Prop) : Prop :=
  joinP (σ := Bool × Unit) (fun s w1 =>
    cond s.1
      (K (IntKind.i64.wrap (IntKind.u8.wrap (c - (48 : Int)))) w1)
      (joinP (σ := Bool × Unit) (fun s_1 w2 =>
         cond s_1.1
           (K (IntKind.i64.wrap ((IntKind.i64.wrap (IntKind.u8.wrap (c - (97 : Int)))) + (10 : Int))) w2)
           (K (-1) w2)) fun J2 =>
       cond (decide (c ≥ (97 : Int)))
         (J2 ((decide (c ≤ (102 : Int))), ()) w1)
         (J2 (false, ()) w1))) fun J1 =>
  cond (decide (c ≥ (48 : Int)))
    (J1 ((decide (c ≤ (57 : Int))), ()) w)
    (J1 (false, ()) w)

def an_phosphorref26_digit : List Ann := [.none, .none, .join [(3, Kind.bool)] [3, 4, 5, 6, 7, 8, 9], .none, .join [(13, Kind.bool)] [13, 14, 15, 16, 17, 18, 19], .none, .none]

theorem vc_phosphorref26_digit (c : Int) (w : World) (K : Int → World → Prop) :
    vcFn C (Tryd.f48.body.getD .skip) Tryd.f48.results.toList Tryd.f48.ntmps an_phosphorref26_digit [(Kind.int .i64)] [(.int .u8 c)] w (fun s w => K s.1 w) = sh_phosphorref26_digit c w K := by kernel_rfl

theorem call_phosphorref26_digit (c : Int) {w : World} {K : Int → World → Prop} (h : sh_phosphorref26_digit c w K) : c_phosphorref26_digit c w K := by
  rw [← vc_phosphorref26_digit] at h
  refine Calls.mono (calls_of_vc C.plain_ok C.mixed Tryd.func48 rfl h) ?_
  rintro e w' ⟨s, rfl, hK⟩
  exact ⟨s.1, rfl, hK⟩

/-- slices.Clone[[]byte,byte] -/
def sh_slices_Clone_byte_byte (s : Slc) (w : World) (K : Slc → World → Prop) : Prop :=
  cond (s.a.isNone)
    (K (⟨none, 0, 0⟩ : Slc) w)
    (nw ty_uint8 [] w fun t5 w1 =>
     apK PG #[ty_sl_uint8, ty_sl_uint8] ty_sl_uint8 (⟨(some t5), 0, 0⟩ : Slc) s w1 fun t7 w2 =>
     K t7 w2)

def an_slices_Clone_byte_byte : List Ann := [.none, .none, .none, .none, .none]

theorem vc_slices_Clone_byte_byte (s : Slc) (w : World) (K : Slc → World → Prop) :
    vcFn C (Tryd.f49.body.getD .skip) Tryd.f49.results.toList Tryd.f49.ntmps an_slices_Clone_byte_byte [Kind.slice] [(.slice s.a s.n s.c)] w (fun s w => K s.1 w) = sh_slices_Clone_byte_byte s w K := by kernel_rfl

theorem call_slices_Clone_byte_byte (s : Slc) {w : World} {K : Slc → World → Prop} (h : sh_slices_Clone_byte_byte s w K) : c_slices_Clone_byte_byte s w K := by
  rw [← vc_slices_Clone_byte_byte] at h
  refine Calls.mono (calls_of_vc C.plain_ok C.mixed Tryd.func49 rfl h) ?_
  rintro e w' ⟨s, rfl, hK⟩
  exact ⟨s.1, rfl, hK⟩

/-- slices.ContainsFunc[[]int,int] -/
def sh_slices_ContainsFunc_int_int (s : Slc) (f : Value) (w : World) (K : Bool → World → Prop) : Prop :=
  c_slices_IndexFunc_int_int s f w fun t7 w1 =>
  K (decide (t7 ≥ (0 : Int))) w1

def an_slices_ContainsFunc_int_int : List Ann := [.none, .none]

theorem vc_slices_ContainsFunc_int_int (s : Slc) (f : Value) (w : World) (K : Bool → World → Prop) :
    vcFn C (Tryd.f50.body.getD .skip) Tryd.f50.results.toList Tryd.f50.ntmps an_slices_ContainsFunc_int_int [Kind.bool] [(.slice s.a s.n s.c), f] w (fun s w => K s.1 w) = sh_slices_ContainsFunc_int_int s f w K := by kernel_rfl

theorem call_slices_ContainsFunc_int_int (s : Slc) (f : Value) {w : World} {K : Bool → World → Prop} (h : sh_slices_ContainsFunc_int_int s f w K) : c_slices_ContainsFunc_int_int s f w K := by
  rw [← vc_slices_ContainsFunc_int_int] at h
  refine Calls.mono (calls_of_vc C.plain_ok C.mixed Tryd.func50 rfl h) ?_
  rintro e w' ⟨s, rfl, hK⟩
  exact ⟨s.1, rfl, hK⟩

/-- phosphor/script.Cut$1 -/
def sh_script_Cut_1 (n : Int) (w : World) (K : Bool → World → Prop) : Prop :=
  K (decide (n ≥ (1 : Int))) w

def an_script_Cut_1 : List Ann := [.none, .none]

theorem vc_script_Cut_1 (n : Int) (w : World) (K : Bool → World → Prop) :
    vcFn C (Tryd.f51.body.getD .skip) Tryd.f51.results.toList Tryd.f51.ntmps an_script_Cut_1 [Kind.bool] [(.int .i64 n)] w (fun s w => K s.1 w) = sh_script_Cut_1 n w K := by kernel_rfl

theorem call_script_Cut_1 (n : Int) {w : World} {K : Bool → World → Prop} (h : sh_script_Cut_1 n w K) : c_script_Cut_1 n w K := by
  rw [← vc_script_Cut_1] at h
  refine Calls.mono (calls_of_vc C.plain_ok C.mixed Tryd.func51 rfl h) ?_
  rintro e w' ⟨s, rfl, hK⟩
  exact ⟨s.1, rfl, hK⟩

/-- phosphor/script.twin -/
def sh_script_twin (x : T_script_Item) (w : World) (K : T_script_Item → World → Prop) : Prop :=
  nw ty_script_Item (T_script_Item.rep.cells x) w fun x_1 w1 =>
  nw ty_script_Item [(.slice none 0 0), (.bool false), (.int .i64 0), (.int .i64 0)] w1 fun t2 w2 =>
  ldSl (x_1.add 0) w2 fun t4 =>
  c_slices_Clone_byte_byte t4 w2 fun t5 w3 =>
  stK (x_1.add 0) [(.slice t5.a t5.n t5.c)] w3 fun w4 =>
  ldS T_script_Item.rep x_1 w4 fun t7 =>
  stK t2 (T_script_Item.rep.cells t7) w4 fun w5 =>
  ldS T_script_Item.rep t2 w5 fun r =>
  K r w5

def an_script_twin : List Ann := [.none, .none, .none]

theorem vc_script_twin (x : T_script_Item) (w : World) (K : T_script_Item → World → Prop) :
    vcFn C (Tryd.f52.body.getD .skip) Tryd.f52.results.toList Tryd.f52.ntmps an_script_twin [(Kind.struct T_script_Item.rep)] [(.agg #[(.slice x.Feed.a x.Feed.n x.Feed.c), (.bool x.Size), (.int .i64 x.Rows), (.int .i64 x.Cols)])] w (fun s w => K s.1 w) = sh_script_twin x w K := by kernel_rfl

theorem call_script_twin (x : T_script_Item) {w : World} {K : T_script_Item → World → Prop} (h : sh_script_twin x w K) : c_script_twin x w K := by
  rw [← vc_script_twin] at h
  refine Calls.mono (calls_of_vc C.plain_ok C.mixed Tryd.func52 rfl h) ?_
  rintro e w' ⟨s, rfl, hK⟩
  exact ⟨s.1, rfl, hK⟩

/-- bytes.Cut -/
def sh_bytes_Cut (s : Slc) (sep : Slc) (w : World) (K : Slc → Slc → Bool → World → Prop) : Prop :=
  c_bytes_Index s sep w fun t10 w1 =>
  cond (decide (t10 ≥ (0 : Int)))
    (slK s none (some t10) 1 fun t15 =>
     slK s (some (IntKind.i64.wrap (t10 + ((sep.n : Nat) : Int)))) none 1 fun t21 =>
     K t15 t21 true w1.drew)
    (K s (⟨none, 0, 0⟩ : Slc) false w1)

def an_bytes_Cut : List Ann := [.none, .none, .none, .none, .none, .none]

theorem vc_bytes_Cut (s : Slc) (sep : Slc) (w : World) (K : Slc → Slc → Bool → World → Prop) :
    vcFn C (Tryd.f53.body.getD .skip) Tryd.f53.results.toList Tryd.f53.ntmps an_bytes_Cut [Kind.slice, Kind.slice, Kind.bool] [(.slice s.a s.n s.c), (.slice sep.a sep.n sep.c)] w (fun s w => K s.1 s.2.1 s.2.2.1 w) = sh_bytes_Cut s sep w K := by kernel_rfl

theorem call_bytes_Cut (s : Slc) (sep : Slc) {w : World} {K : Slc → Slc → Bool → World → Prop} (h : sh_bytes_Cut s sep w K) : c_bytes_Cut s sep w K := by
  rw [← vc_bytes_Cut] at h
  refine Calls.mono (calls_of_vc C.plain_ok C.mixed Tryd.func53 rfl h) ?_
  rintro e w' ⟨s, rfl, hK⟩
  exact ⟨s.1, s.2.1, s.2.2.1, rfl, hK⟩

/-- bytes.Clone -/
def sh_bytes_Clone (b : Slc) (w : World) (K : Slc → World → Prop) : Prop :=
  cond (b.a.isNone)
    (K (⟨none, 0, 0⟩ : Slc) w)
    (nw ty_uint8 [] w fun t5 w1 =>
     apK PG #[ty_sl_uint8, ty_sl_uint8] ty_sl_uint8 (⟨(some t5), 0, 0⟩ : Slc) b w1 fun t7 w2 =>
     K t7 w2)

def an_bytes_Clone : List Ann := [.none, .none, .none, .none, .none]

theorem vc_bytes_Clone (b : Slc) (w : World) (K : Slc → World → Prop) :
    vcFn C (Tryd.f54.body.getD .skip) Tryd.f54.results.toList Tryd.f54.ntmps an_bytes_Clone [Kind.slice] [(.slice b.a b.n b.c)] w (fun s w => K s.1 w) = sh_bytes_Clone b w K := by kernel_rfl

theorem call_bytes_Clone (b : Slc) {w : World} {K : Slc → World → Prop} (h : sh_bytes_Clone b w K) : c_bytes_Clone b w K := by
  rw [← vc_bytes_Clone] at h
  refine Calls.mono (calls_of_vc C.plain_ok C.mixed Tryd.func54 rfl h) ?_
  rintro e w' ⟨s, rfl, hK⟩
  exact ⟨s.1, rfl, hK⟩

/-- internal/strconv.Itoa -/
def sh_internal_strconv_Itoa (i : Int) (w : World) (K : ByteArray → World → Prop) : Prop :=
  c_internal_strconv_FormatInt i 10 w fun t4 w1 =>
  K t4 w1

def an_internal_strconv_Itoa : List Ann := [.none, .none]

theorem vc_internal_strconv_Itoa (i : Int) (w : World) (K : ByteArray → World → Prop) :
    vcFn C (Tryd.f55.body.getD .skip) Tryd.f55.results.toList Tryd.f55.ntmps an_internal_strconv_Itoa [Kind.string] [(.int .i64 i)] w (fun s w => K s.1 w) = sh_internal_strconv_Itoa i w K := by kernel_rfl

theorem call_internal_strconv_Itoa (i : Int) {w : World} {K : ByteArray → World → Prop} (h : sh_internal_strconv_Itoa i w K) : c_internal_strconv_Itoa i w K := by
  rw [← vc_internal_strconv_Itoa] at h
  refine Calls.mono (calls_of_vc C.plain_ok C.mixed Tryd.func55 rfl h) ?_
  rintro e w' ⟨s, rfl, hK⟩
  exact ⟨s.1, rfl, hK⟩

/-- (*strings.Builder).Grow -/
def sh_strings_Builder_Grow (b : Option Addr) (n : Int) (w : World) (K : World → Prop) : Prop :=
  c_strings_Builder_copyCheck b w fun w1 =>
  joinP (σ := Unit) (fun s w2 =>
    onPtr b fun t10 =>
    ldSl (t10.add 1) w2.drew fun t12 =>
    onPtr b fun t15 =>
    ldSl (t15.add 1) w2.drew fun t17 =>
    cond (decide ((IntKind.i64.wrap (((t12.c : Nat) : Int) - ((t17.n : Nat) : Int))) < n))
      (c_strings_Builder_grow b n w2.drew fun w3 =>
       K w3)
      (K w2.drew)) fun J1 =>
  cond (decide (n < (0 : Int)))
    (False)
    (J1 (()) w1)

def an_strings_Builder_Grow : List Ann := [.none, .join [] [6, 7, 8], .none, .none]

theorem vc_strings_Builder_Grow (b : Option Addr) (n : Int) (w : World) (K : World → Prop) :
    vcFn C (Tryd.f56.body.getD .skip) Tryd.f56.results.toList Tryd.f56.ntmps an_strings_Builder_Grow [] [(.pointer b), (.int .i64 n)] w (fun s w => K w) = sh_strings_Builder_Grow b n w K := by kernel_rfl

theorem call_strings_Builder_Grow (b : Option Addr) (n : Int) {w : World} {K : World → Prop} (h : sh_strings_Builder_Grow b n w K) : c_strings_Builder_Grow b n w K := by
  rw [← vc_strings_Builder_Grow] at h
  refine Calls.mono (calls_of_vc C.plain_ok C.mixed Tryd.func56 rfl h) ?_
  rintro e w' ⟨s, rfl, hK⟩
  exact ⟨rfl, hK⟩

/-- (*strings.Builder).WriteString -/
def sh_strings_Builder_WriteString (b : Option Addr) (s : ByteArray) (w : World) (K : Int → Value → World → Prop) : Prop :=
  c_strings_Builder_copyCheck b w fun w1 =>
  onPtr b fun t10 =>
  ldSl (t10.add 1) w1 fun t12 =>
  apS PG #[ty_sl_uint8, ty_string] ty_sl_uint8 t12 s w1 fun t14 w2 =>
  onPtr b fun t15 =>
  stK (t15.add 1) [(.slice t14.a t14.n t14.c)] w2 fun w3 =>
  K (s.size : Int) (.nilIface : Value) w3

def an_strings_Builder_WriteString : List Ann := [.none, .none, .none, .none]

theorem vc_strings_Builder_WriteString (b : Option Addr) (s : ByteArray) (w : World) (K : Int → Value → World → Prop) :
    vcFn C (Tryd.f57.body.getD .skip) Tryd.f57.results.toList Tryd.f57.ntmps an_strings_Builder_WriteString [(Kind.int .i64), Kind.raw] [(.pointer b), (.string s)] w (fun s w => K s.1 s.2.1 w) = sh_strings_Builder_WriteString b s w K := by kernel_rfl

theorem call_strings_Builder_WriteString (b : Option Addr) (s : ByteArray) {w : World} {K : Int → Value → World → Prop} (h : sh_strings_Builder_WriteString b s w K) : c_strings_Builder_WriteString b s w K := by
  rw [← vc_strings_Builder_WriteString] at h
  refine Calls.mono (calls_of_vc C.plain_ok C.mixed Tryd.func57 rfl h) ?_
  rintro e w' ⟨s, rfl, hK⟩
  exact ⟨s.1, s.2.1, rfl, hK⟩

/-- phosphor/keys.visible -/
def sh_keys_visible (c : Int) (w : World) (K : Bool → World → Prop) : Prop :=
  cond (decide (c ≥ (33 : Int)))
    (K (decide (c ≤ (126 : Int))) w)
    (K false w)

def an_keys_visible : List Ann := [.none, .none]

theorem vc_keys_visible (c : Int) (w : World) (K : Bool → World → Prop) :
    vcFn C (Tryd.f58.body.getD .skip) Tryd.f58.results.toList Tryd.f58.ntmps an_keys_visible [Kind.bool] [(.int .u8 c)] w (fun s w => K s.1 w) = sh_keys_visible c w K := by kernel_rfl

theorem call_keys_visible (c : Int) {w : World} {K : Bool → World → Prop} (h : sh_keys_visible c w K) : c_keys_visible c w K := by
  rw [← vc_keys_visible] at h
  refine Calls.mono (calls_of_vc C.plain_ok C.mixed Tryd.func58 rfl h) ?_
  rintro e w' ⟨s, rfl, hK⟩
  exact ⟨s.1, rfl, hK⟩

/-- strings.genSplit -/
def sh_strings_genSplit (s : ByteArray) (sep : ByteArray) (sepSave : Int) (n : Int) (w : World) (K : Slc → World → Prop) : Prop :=
  cond (n == (0 : Int))
    (K (⟨none, 0, 0⟩ : Slc) w)
    (cond (sep.toList == (⟨#[]⟩ : ByteArray).toList)
       (c_strings_explode s n w fun t18 w1 =>
        K t18 w1)
       (joinP (σ := Int × Unit) (fun s_1 w2 =>
          mkSl PG ty_sl_string (.int .i64 (if (IntKind.i64.wrap ((s.size : Int) + (1 : Int))) < s_1.1 then (IntKind.i64.wrap ((s.size : Int) + (1 : Int))) else s_1.1)) (.int .i64 (if (IntKind.i64.wrap ((s.size : Int) + (1 : Int))) < s_1.1 then (IntKind.i64.wrap ((s.size : Int) + (1 : Int))) else s_1.1)) w2 fun t31 w3 =>
          joinP (σ := ByteArray × Int × Unit) (fun s_2 w4 =>
            ixK t31 s_2.2.1 1 fun t61 =>
            stK t61 [(.string s_2.1)] w4 fun w5 =>
            slK t31 none (some (IntKind.i64.wrap (s_2.2.1 + (1 : Int)))) 1 fun t65 =>
            K t65 w5) fun J2 =>
          loopP (σ := ByteArray × Int × Unit) (fun I3 s_3 w6 =>
            cond (decide (s_3.2.1 < (IntKind.i64.wrap ((if (IntKind.i64.wrap ((s.size : Int) + (1 : Int))) < s_1.1 then (IntKind.i64.wrap ((s.size : Int) + (1 : Int))) else s_1.1) - (1 : Int)))))
              (c_strings_Index s_3.1 sep w6 fun t39 w7 =>
               cond (decide (t39 < (0 : Int)))
                 (J2 (s_3.1, s_3.2.1, ()) w7)
                 (slS s_3.1 none (some (IntKind.i64.wrap (t39 + sepSave))) fun t48 =>
                  ixK t31 s_3.2.1 1 fun t49 =>
                  stK t49 [(.string t48)] w7 fun w8 =>
                  slS s_3.1 (some (IntKind.i64.wrap (t39 + (sep.size : Int)))) none fun t55 =>
                  I3 (t55, (IntKind.i64.wrap (s_3.2.1 + (1 : Int))), ()) w8))
              (J2 (s_3.1, s_3.2.1, ()) w6)) (s, 0, ()) w3) fun J1 =>
        cond (decide (n < (0 : Int)))
          (c_strings_Count s sep w fun t23 w9 =>
           J1 ((IntKind.i64.wrap (t23 + (1 : Int))), ()) w9)
          (J1 (n, ()) w)))

def an_strings_genSplit : List Ann := [.none, .none, .none, .none, .none, .none, .none, .join [(3, (Kind.int .i64))] [3, 19, 20, 21, 22, 23, 24], .none, .none, .none, .none, .none, .join [(0, Kind.string), (10, (Kind.int .i64))] [0, 10, 11, 34, 35, 36, 37, 38, 39, 40, 41, 42, 43, 44, 45, 46, 47, 48, 49, 50, 51, 52, 53, 54, 55, 56, 57], .join [(0, Kind.string), (10, (Kind.int .i64))] [0, 10, 11, 34, 35, 36, 37, 38, 39, 40, 41, 42, 43, 44, 45, 46, 47, 48, 49, 50, 51, 52, 53, 54, 55, 56, 57], .none, .none, .none, .none, .none, .none, .none, .none, .none]

theorem vc_strings_genSplit (s : ByteArray) (sep : ByteArray) (sepSave : Int) (n : Int) (w : World) (K : Slc → World → Prop) :
    vcFn C (Tryd.f59.body.getD .skip) Tryd.f59.results.toList Tryd.f59.ntmps an_strings_genSplit [Kind.slice] [(.string s), (.string sep), (.int .i64 sepSave), (.int .i64 n)] w (fun s w => K s.1 w) = sh_strings_genSplit s sep sepSave n w K := by kernel_rfl

theorem call_strings_genSplit (s : ByteArray) (sep : ByteArray) (sepSave : Int) (n : Int) {w : World} {K : Slc → World → Prop} (h : sh_strings_genSplit s sep sepSave n w K) : c_strings_genSplit s sep sepSave n w K := by
  rw [← vc_strings_genSplit] at h
  refine Calls.mono (calls_of_vc C.plain_ok C.mixed Tryd.func59 rfl h) ?_
  rintro e w' ⟨s, rfl, hK⟩
  exact ⟨s.1, rfl, hK⟩

/-- phosphor/keys.depth -/
def sh_keys_depth (s : ByteArray) (w : World) (K : Int → Bool → World → Prop) : Prop :=
  c_strings_CutPrefix s (⟨#[45]⟩ : ByteArray) w fun t10 t10_1 w1 =>
  c_keys_read t10 w1 fun t15 t15_1 w2 =>
  joinP (σ := Int × Unit) (fun s_1 w3 =>
    cond t15_1
      (cond (decide (s_1.1 ≥ ((-1073741824) : Int)))
         (K s_1.1 (decide (s_1.1 < (1073741824 : Int))) w3)
         (K s_1.1 false w3))
      (K s_1.1 false w3)) fun J1 =>
  cond t10_1
    (J1 ((IntKind.i64.wrap (0 - t15)), ()) w2)
    (J1 (t15, ()) w2)

def an_keys_depth : List Ann := [.none, .none, .none, .join [(6, (Kind.int .i64))] [6, 18, 19, 20], .none, .none]

theorem vc_keys_depth (s : ByteArray) (w : World) (K : Int → Bool → World → Prop) :
    vcFn C (Tryd.f60.body.getD .skip) Tryd.f60.results.toList Tryd.f60.ntmps an_keys_depth [(Kind.int .i64), Kind.bool] [(.string s)] w (fun s w => K s.1 s.2.1 w) = sh_keys_depth s w K := by kernel_rfl

theorem call_keys_depth (s : ByteArray) {w : World} {K : Int → Bool → World → Prop} (h : sh_keys_depth s w K) : c_keys_depth s w K := by
  rw [← vc_keys_depth] at h
  refine Calls.mono (calls_of_vc C.plain_ok C.mixed Tryd.func60 rfl h) ?_
  rintro e w' ⟨s, rfl, hK⟩
  exact ⟨s.1, s.2.1, rfl, hK⟩

/-- phosphor/keys.read -/
def sh_keys_read (s : ByteArray) (w : World) (K : Int → Bool → World → Prop) : Prop :=
  joinP (σ := Unit) (fun s_1 w1 =>
    loopP (σ := Int × Int × Unit) (fun I2 s_2 w2 =>
      cond (decide (s_2.2.1 < (s.size : Int)))
        (joinP (σ := Unit) (fun s_3 w3 =>
           ixS s s_2.2.1 fun t32 =>
           I2 ((IntKind.i64.wrap ((IntKind.i64.wrap ((10 : Int) * s_2.1)) + (IntKind.i64.wrap (IntKind.u8.wrap (t32 - (48 : Int)))))), (IntKind.i64.wrap (s_2.2.1 + (1 : Int))), ()) w3) fun J3 =>
         ixS s s_2.2.1 fun t20 =>
         cond (decide (t20 < (48 : Int)))
           (K 0 false w2)
           (ixS s s_2.2.1 fun t25 =>
            cond (decide (t25 > (57 : Int)))
              (K 0 false w2)
              (J3 (()) w2)))
        (K s_2.1 (decide (s_2.1 ≤ (4294967295 : Int))) w2)) (0, 0, ()) w1) fun J1 =>
  cond (s.toList == (⟨#[]⟩ : ByteArray).toList)
    (K 0 false w)
    (cond (decide ((s.size : Int) > (10 : Int)))
       (K 0 false w)
       (J1 (()) w))

def an_keys_read : List Ann := [.none, .join [] [2, 3, 6, 7, 8, 9, 10, 11, 12], .none, .none, .none, .none, .none, .join [(4, (Kind.int .i64)), (15, (Kind.int .i64))] [2, 3, 4, 5, 15, 16, 17, 18, 19, 20, 21, 22, 23, 24, 25, 26, 27, 28, 29, 30, 31, 32, 33, 34, 35, 36], .none, .none, .none, .none, .join [] [2, 3, 18, 19, 20, 21, 22, 23, 24, 25, 26, 27], .none, .none, .none]

theorem vc_keys_read (s : ByteArray) (w : World) (K : Int → Bool → World → Prop) :
    vcFn C (Tryd.f61.body.getD .skip) Tryd.f61.results.toList Tryd.f61.ntmps an_keys_read [(Kind.int .i64), Kind.bool] [(.string s)] w (fun s w => K s.1 s.2.1 w) = sh_keys_read s w K := by kernel_rfl

theorem call_keys_read (s : ByteArray) {w : World} {K : Int → Bool → World → Prop} (h : sh_keys_read s w K) : c_keys_read s w K := by
  rw [← vc_keys_read] at h
  refine Calls.mono (calls_of_vc C.plain_ok C.mixed Tryd.func61 rfl h) ?_
  rintro e w' ⟨s, rfl, hK⟩
  exact ⟨s.1, s.2.1, rfl, hK⟩

/-- phosphor/phosphorref19.letter -/
def sh_phosphorref19_letter (c : Int) (w : World) (K : Bool → World → Prop) : Prop :=
  cond (decide (c ≥ (65 : Int)))
    (cond (decide (c ≤ (90 : Int)))
       (K true w)
       (cond (decide (c ≥ (97 : Int)))
          (K (decide (c ≤ (122 : Int))) w)
          (K false w)))
    (cond (decide (c ≥ (97 : Int)))
       (K (decide (c ≤ (122 : Int))) w)
       (K false w))

def an_phosphorref19_letter : List Ann := [.none, .none]

theorem vc_phosphorref19_letter (c : Int) (w : World) (K : Bool → World → Prop) :
    vcFn C (Tryd.f62.body.getD .skip) Tryd.f62.results.toList Tryd.f62.ntmps an_phosphorref19_letter [Kind.bool] [(.int .u8 c)] w (fun s w => K s.1 w) = sh_phosphorref19_letter c w K := by kernel_rfl

theorem call_phosphorref19_letter (c : Int) {w : World} {K : Bool → World → Prop} (h : sh_phosphorref19_letter c w K) : c_phosphorref19_letter c w K := by
  rw [← vc_phosphorref19_letter] at h
  refine Calls.mono (calls_of_vc C.plain_ok C.mixed Tryd.func62 rfl h) ?_
  rintro e w' ⟨s, rfl, hK⟩
  exact ⟨s.1, rfl, hK⟩

/-- phosphor/phosphorref19.sign -/
def sh_phosphorref19_sign (k : T_keys_Keys) (c : Int) (s : ByteArray) (w : World) (K : T_keys_Keys → Bool → World → Prop) : Prop :=
  nw ty_phosphorref19_Keys (T_keys_Keys.rep.cells k) w fun k_1 w1 =>
  nw ty_phosphorref19_Keys [(.int .u8 0), (.int .u8 0), (.int .u8 0), (.int .u8 0), (.int .i64 0), (.int .i64 0), (.int .i64 0), (.int .i64 0), (.int .i64 0), (.int .i64 0), (.int .i64 0), (.int .i64 0), (.int .i64 0), (.int .i64 0), (.int .i64 0), (.int .i64 0), (.int .i64 0), (.int .i64 0), (.int .i64 0), (.int .i64 0), (.int .i64 0), (.int .i64 0)] w1 fun t6 w2 =>
  joinP (σ := Unit) (fun s_1 w3 =>
    cond (c == (97 : Int))
      (ixS s 0 fun t26 =>
       stK (k_1.add 0) [(.int .u8 t26)] w3 fun w4 =>
       ldS T_keys_Keys.rep k_1 w4 fun t43 =>
       stK t6 (T_keys_Keys.rep.cells t43) w4 fun w5 =>
       ldS T_keys_Keys.rep t6 w5 fun r =>
       K r true w5)
      (cond (c == (116 : Int))
         (ixS s 0 fun t31 =>
          stK (k_1.add 1) [(.int .u8 t31)] w3 fun w6 =>
          ldS T_keys_Keys.rep k_1 w6 fun t43_1 =>
          stK t6 (T_keys_Keys.rep.cells t43_1) w6 fun w7 =>
          ldS T_keys_Keys.rep t6 w7 fun r_1 =>
          K r_1 true w7)
         (cond (c == (111 : Int))
            (ixS s 0 fun t36 =>
             stK (k_1.add 2) [(.int .u8 t36)] w3 fun w8 =>
             ldS T_keys_Keys.rep k_1 w8 fun t43_2 =>
             stK t6 (T_keys_Keys.rep.cells t43_2) w8 fun w9 =>
             ldS T_keys_Keys.rep t6 w9 fun r_2 =>
             K r_2 true w9)
            (cond (c == (100 : Int))
               (ixS s 0 fun t41 =>
                stK (k_1.add 3) [(.int .u8 t41)] w3 fun w10 =>
                ldS T_keys_Keys.rep k_1 w10 fun t43_3 =>
                stK t6 (T_keys_Keys.rep.cells t43_3) w10 fun w11 =>
                ldS T_keys_Keys.rep t6 w11 fun r_3 =>
                K r_3 true w11)
               (ldS T_keys_Keys.rep k_1 w3 fun t43_4 =>
                stK t6 (T_keys_Keys.rep.cells t43_4) w3 fun w12 =>
                ldS T_keys_Keys.rep t6 w12 fun r_4 =>
                K r_4 true w12))))) fun J1 =>
  joinP (σ := Bool × Unit) (fun s_2 w13 =>
    cond s_2.1
      (ldS T_keys_Keys.rep k_1 w13 fun t21 =>
       stK t6 (T_keys_Keys.rep.cells t21) w13 fun w14 =>
       ldS T_keys_Keys.rep t6 w14 fun r_5 =>
       K r_5 false w14)
      (J1 (()) w13)) fun J2 =>
  cond ((s.size : Int) != (1 : Int))
    (J2 (true, ()) w2)
    (ixS s 0 fun t13 =>
     cond (decide (t13 < (33 : Int)))
       (J2 (true, ()) w2)
       (ixS s 0 fun t18 =>
        J2 ((decide (t18 > (126 : Int))), ()) w2))

def an_phosphorref19_sign : List Ann := [.none, .join [] [7, 8, 9, 10, 11, 12, 13, 14, 15, 16, 17, 18, 19, 20, 21], .join [(20, Kind.bool)] [8, 9, 10, 11, 12, 13, 14, 15, 16, 17, 18, 19, 20], .none, .none, .none, .none, .none, .none, .none, .none]

theorem vc_phosphorref19_sign (k : T_keys_Keys) (c : Int) (s : ByteArray) (w : World) (K : T_keys_Keys → Bool → World → Prop) :
    vcFn C (Tryd.f63.body.getD .skip) Tryd.f63.results.toList Tryd.f63.ntmps an_phosphorref19_sign [(Kind.struct T_keys_Keys.rep), Kind.bool] [(.agg #[(.int .u8 k.Action), (.int .u8 k.Medium), (.int .u8 k.Zip), (.int .u8 k.What), (.int .i64 k.Quiet), (.int .i64 k.Format), (.int .i64 k.W), (.int .i64 k.H), (.int .i64 k.Id), (.int .i64 k.Number), (.int .i64 k.Place), (.int .i64 k.More), (.int .i64 k.X), (.int .i64 k.Y), (.int .i64 k.PW), (.int .i64 k.PH), (.int .i64 k.DX), (.int .i64 k.DY), (.int .i64 k.Rows), (.int .i64 k.Cols), (.int .i64 k.Z), (.int .i64 k.Stay)]), (.int .u8 c), (.string s)] w (fun s w => K s.1 s.2.1 w) = sh_phosphorref19_sign k c s w K := by kernel_rfl

theorem call_phosphorref19_sign (k : T_keys_Keys) (c : Int) (s : ByteArray) {w : World} {K : T_keys_Keys → Bool → World → Prop} (h : sh_phosphorref19_sign k c s w K) : c_phosphorref19_sign k c s w K := by
  rw [← vc_phosphorref19_sign] at h
  refine Calls.mono (calls_of_vc C.plain_ok C.mixed Tryd.func63 rfl h) ?_
  rintro e w' ⟨s, rfl, hK⟩
  exact ⟨s.1, s.2.1, rfl, hK⟩

/-- phosphor/phosphorref19.number -/
def sh_phosphorref19_number (s : ByteArray) (w : World) (K : Int → World → Prop) : Prop :=
  joinP (σ := Unit) (fun s_1 w1 =>
    loopP (σ := Int × Int × Unit) (fun I2 s_2 w2 =>
      cond (decide (s_2.2.1 < (s.size : Int)))
        (joinP (σ := Unit) (fun s_3 w3 =>
           ixS s s_2.2.1 fun t32 =>
           I2 ((IntKind.i64.wrap ((IntKind.i64.wrap ((10 : Int) * s_2.1)) + (IntKind.i64.wrap (IntKind.u8.wrap (t32 - (48 : Int)))))), (IntKind.i64.wrap (s_2.2.1 + (1 : Int))), ()) w3) fun J3 =>
         ixS s s_2.2.1 fun t20 =>
         cond (decide (t20 < (48 : Int)))
           (K (-1) w2)
           (ixS s s_2.2.1 fun t25 =>
            cond (decide (t25 > (57 : Int)))
              (K (-1) w2)
              (J3 (()) w2)))
        (cond (decide (s_2.1 > (4294967295 : Int)))
           (K (-1) w2)
           (K s_2.1 w2))) (0, 0, ()) w1) fun J1 =>
  cond (s.toList == (⟨#[]⟩ : ByteArray).toList)
    (K (-1) w)
    (cond (decide ((s.size : Int) > (10 : Int)))
       (K (-1) w)
       (J1 (()) w))

def an_phosphorref19_number : List Ann := [.none, .join [] [2, 5, 6, 7, 8, 9, 10, 11], .none, .none, .none, .none, .none, .join [(3, (Kind.int .i64)), (4, (Kind.int .i64))] [2, 3, 4, 12, 13, 14, 15, 16, 17, 18, 19, 20, 21, 22, 23, 24, 25, 26, 27, 28, 29, 30, 31, 32, 33, 34, 35], .none, .none, .none, .join [] [2, 18, 19, 20, 21, 22, 23, 24, 25, 26, 27], .none, .none, .none, .none, .none, .none]

theorem vc_phosphorref19_number (s : ByteArray) (w : World) (K : Int → World → Prop) :
    vcFn C (Tryd.f64.body.getD .skip) Tryd.f64.results.toList Tryd.f64.ntmps an_phosphorref19_number [(Kind.int .i64)] [(.string s)] w (fun s w => K s.1 w) = sh_phosphorref19_number s w K := by kernel_rfl

theorem call_phosphorref19_number (s : ByteArray) {w : World} {K : Int → World → Prop} (h : sh_phosphorref19_number s w K) : c_phosphorref19_number s w K := by
  rw [← vc_phosphorref19_number] at h
  refine Calls.mono (calls_of_vc C.plain_ok C.mixed Tryd.func64 rfl h) ?_
  rintro e w' ⟨s, rfl, hK⟩
  exact ⟨s.1, rfl, hK⟩

/-- phosphor/phosphorref19.place -/
def sh_phosphorref19_place (c : Int) (w : World) (K : Int → World → Prop) : Prop :=
  loopP (σ := Int × Unit) (fun I1 s w1 =>
    cond (decide (s.1 < (17 : Int)))
      (ixS (⟨#[113, 102, 115, 118, 105, 73, 112, 109, 120, 121, 119, 104, 88, 89, 114, 99, 67]⟩ : ByteArray) s.1 fun t9 =>
       cond (t9 == c)
         (K s.1 w1)
         (I1 ((IntKind.i64.wrap (s.1 + (1 : Int))), ()) w1))
      (K (-1) w1)) (0, ()) w

def an_phosphorref19_place : List Ann := [.none, .none, .none, .join [(3, (Kind.int .i64))] [2, 3, 4, 5, 6, 7, 8, 9, 10, 11, 12], .none, .none, .none, .none, .none, .none]

theorem vc_phosphorref19_place (c : Int) (w : World) (K : Int → World → Prop) :
    vcFn C (Tryd.f65.body.getD .skip) Tryd.f65.results.toList Tryd.f65.ntmps an_phosphorref19_place [(Kind.int .i64)] [(.int .u8 c)] w (fun s w => K s.1 w) = sh_phosphorref19_place c w K := by kernel_rfl

theorem call_phosphorref19_place (c : Int) {w : World} {K : Int → World → Prop} (h : sh_phosphorref19_place c w K) : c_phosphorref19_place c w K := by
  rw [← vc_phosphorref19_place] at h
  refine Calls.mono (calls_of_vc C.plain_ok C.mixed Tryd.func65 rfl h) ?_
  rintro e w' ⟨s, rfl, hK⟩
  exact ⟨s.1, rfl, hK⟩

/-- phosphor/phosphorref19.with -/
def sh_phosphorref19_with (k : T_keys_Keys) (i : Int) (v : Int) (w : World) (K : T_keys_Keys → World → Prop) : Prop :=
  nw ty_phosphorref19_Keys (T_keys_Keys.rep.cells k) w fun k_1 w1 =>
  nw ty_phosphorref19_Keys [(.int .u8 0), (.int .u8 0), (.int .u8 0), (.int .u8 0), (.int .i64 0), (.int .i64 0), (.int .i64 0), (.int .i64 0), (.int .i64 0), (.int .i64 0), (.int .i64 0), (.int .i64 0), (.int .i64 0), (.int .i64 0), (.int .i64 0), (.int .i64 0), (.int .i64 0), (.int .i64 0), (.int .i64 0), (.int .i64 0), (.int .i64 0), (.int .i64 0)] w1 fun t6 w2 =>
  joinP (σ := Unit) (fun s w3 =>
    ldS T_keys_Keys.rep k_1 w3 fun t40 =>
    c_phosphorref19_withMore t40 i v w3 fun t43 w4 =>
    stK t6 (T_keys_Keys.rep.cells t43) w4 fun w5 =>
    ldS T_keys_Keys.rep t6 w5 fun r =>
    K r w5) fun J1 =>
  cond (i == (0 : Int))
    (stK (k_1.add 4) [(.int .i64 v)] w2 fun w6 =>
     J1 (()) w6)
    (cond (i == (1 : Int))
       (stK (k_1.add 5) [(.int .i64 v)] w2 fun w7 =>
        J1 (()) w7)
       (cond (i == (2 : Int))
          (stK (k_1.add 6) [(.int .i64 v)] w2 fun w8 =>
           J1 (()) w8)
          (cond (i == (3 : Int))
             (stK (k_1.add 7) [(.int .i64 v)] w2 fun w9 =>
              J1 (()) w9)
             (cond (i == (4 : Int))
                (stK (k_1.add 8) [(.int .i64 v)] w2 fun w10 =>
                 J1 (()) w10)
                (cond (i == (5 : Int))
                   (stK (k_1.add 9) [(.int .i64 v)] w2 fun w11 =>
                    J1 (()) w11)
                   (cond (i == (6 : Int))
                      (stK (k_1.add 10) [(.int .i64 v)] w2 fun w12 =>
                       J1 (()) w12)
                      (cond (i == (7 : Int))
                         (stK (k_1.add 11) [(.int .i64 v)] w2 fun w13 =>
                          J1 (()) w13)
                         (J1 (()) w2))))))))

def an_phosphorref19_with : List Ann := [.none, .join [] [7, 8, 9, 10, 11, 12, 13, 14, 15, 16, 17, 18, 19, 20, 21, 22, 23, 24, 25, 26, 27, 28, 29, 30, 31, 32, 33, 34, 35, 36, 37, 38, 39], .none, .none, .none, .none, .none, .none, .none, .none, .none, .none]

theorem vc_phosphorref19_with (k : T_keys_Keys) (i : Int) (v : Int) (w : World) (K : T_keys_Keys → World → Prop) :
    vcFn C (Tryd.f66.body.getD .skip) Tryd.f66.results.toList Tryd.f66.ntmps an_phosphorref19_with [(Kind.struct T_keys_Keys.rep)] [(.agg #[(.int .u8 k.Action), (.int .u8 k.Medium), (.int .u8 k.Zip), (.int .u8 k.What), (.int .i64 k.Quiet), (.int .i64 k.Format), (.int .i64 k.W), (.int .i64 k.H), (.int .i64 k.Id), (.int .i64 k.Number), (.int .i64 k.Place), (.int .i64 k.More), (.int .i64 k.X), (.int .i64 k.Y), (.int .i64 k.PW), (.int .i64 k.PH), (.int .i64 k.DX), (.int .i64 k.DY), (.int .i64 k.Rows), (.int .i64 k.Cols), (.int .i64 k.Z), (.int .i64 k.Stay)]), (.int .i64 i), (.int .i64 v)] w (fun s w => K s.1 w) = sh_phosphorref19_with k i v w K := by kernel_rfl

theorem call_phosphorref19_with (k : T_keys_Keys) (i : Int) (v : Int) {w : World} {K : T_keys_Keys → World → Prop} (h : sh_phosphorref19_with k i v w K) : c_phosphorref19_with k i v w K := by
  rw [← vc_phosphorref19_with] at h
  refine Calls.mono (calls_of_vc C.plain_ok C.mixed Tryd.func66 rfl h) ?_
  rintro e w' ⟨s, rfl, hK⟩
  exact ⟨s.1, rfl, hK⟩

/-- strings.SplitSeq -/
def sh_strings_SplitSeq (s : ByteArray) (sep : ByteArray) (w : World) (K : Value → World → Prop) : Prop :=
  c_strings_splitSeq s sep 0 w fun t7 w1 =>
  K t7 w1

def an_strings_SplitSeq : List Ann := [.none, .none]

theorem vc_strings_SplitSeq (s : ByteArray) (sep : ByteArray) (w : World) (K : Value → World → Prop) :
    vcFn C (Tryd.f67.body.getD .skip) Tryd.f67.results.toList Tryd.f67.ntmps an_strings_SplitSeq [Kind.raw] [(.string s), (.string sep)] w (fun s w => K s.1 w) = sh_strings_SplitSeq s sep w K := by kernel_rfl

theorem call_strings_SplitSeq (s : ByteArray) (sep : ByteArray) {w : World} {K : Value → World → Prop} (h : sh_strings_SplitSeq s sep w K) : c_strings_SplitSeq s sep w K := by
  rw [← vc_strings_SplitSeq] at h
  refine Calls.mono (calls_of_vc C.plain_ok C.mixed Tryd.func67 rfl h) ?_
  rintro e w' ⟨s, rfl, hK⟩
  exact ⟨s.1, rfl, hK⟩

/-- phosphor/script.read -/
def sh_script_read (s : ByteArray) (w : World) (K : T_script_Item → Bool → World → Prop) : Prop :=
  nw ty_script_Item [(.slice none 0 0), (.bool false), (.int .i64 0), (.int .i64 0)] w fun t2 w1 =>
  c_strings_Cut s (⟨#[32]⟩ : ByteArray) w1 fun t18 t18_1 t18_2 w2 =>
  cond (t18.toList == (⟨#[102, 101, 101, 100]⟩ : ByteArray).toList)
    (c_script_Unquote t18_1 w2 fun t27 t27_1 w3 =>
     stK t2 [(.slice t27.a t27.n t27.c), (.bool false), (.int .i64 0), (.int .i64 0)] w3 fun w4 =>
     ldS T_script_Item.rep t2 w4 fun r =>
     K r (t27_1 == (0 : Int)) w4)
    (cond (t18.toList == (⟨#[115, 105, 122, 101]⟩ : ByteArray).toList)
       (c_strings_Cut t18_1 (⟨#[32]⟩ : ByteArray) w2 fun t38 t38_1 t38_2 w5 =>
        c_script_number t38 w5 fun t44 t44_1 w6 =>
        c_script_number t38_1 w6 fun t49 t49_1 w7 =>
        cond t44_1
          (stK t2 [(.slice none 0 0), (.bool true), (.int .i64 t44), (.int .i64 t49)] w7 fun w8 =>
           ldS T_script_Item.rep t2 w8 fun r_1 =>
           K r_1 t49_1 w8)
          (stK t2 [(.slice none 0 0), (.bool true), (.int .i64 t44), (.int .i64 t49)] w7 fun w9 =>
           ldS T_script_Item.rep t2 w9 fun r_2 =>
           K r_2 false w9))
       (stK t2 [(.slice none 0 0), (.bool false), (.int .i64 0), (.int .i64 0)] w2 fun w10 =>
        ldS T_script_Item.rep t2 w10 fun r_3 =>
        K r_3 false w10))

def an_script_read : List Ann := [.none, .none, .none, .none, .none, .none, .none, .none, .none, .none, .none, .none, .none]

theorem vc_script_read (s : ByteArray) (w : World) (K : T_script_Item → Bool → World → Prop) :
    vcFn C (Tryd.f68.body.getD .skip) Tryd.f68.results.toList Tryd.f68.ntmps an_script_read [(Kind.struct T_script_Item.rep), Kind.bool] [(.string s)] w (fun s w => K s.1 s.2.1 w) = sh_script_read s w K := by kernel_rfl

theorem call_script_read (s : ByteArray) {w : World} {K : T_script_Item → Bool → World → Prop} (h : sh_script_read s w K) : c_script_read s w K := by
  rw [← vc_script_read] at h
  refine Calls.mono (calls_of_vc C.plain_ok C.mixed Tryd.func68 rfl h) ?_
  rintro e w' ⟨s, rfl, hK⟩
  exact ⟨s.1, s.2.1, rfl, hK⟩

/-- (*strings.Builder).copyCheck -/
def sh_strings_Builder_copyCheck (b : Option Addr) (w : World) (K : World → Prop) : Prop :=
  onPtr b fun t3 =>
  ldP (t3.add 0) w fun t5 =>
  cond (t5.isNone)
    (runK1 PG (convert ty_p_strings_Builder ty_unsafe_Pointer (.pointer b)) Kind.ptr w fun (t9 : Option Addr) w1 =>
     callX PG 83 [(.pointer t9)] [Kind.ptr] w1 fun (t10 : Option Addr) w2 =>
     runK1 PG (convert ty_unsafe_Pointer ty_p_strings_Builder (.pointer t10)) Kind.ptr w2 fun (t11 : Option Addr) w3 =>
     onPtr b fun t12 =>
     stK (t12.add 0) [(.pointer t11)] w3 fun w4 =>
     K w4)
    (onPtr b fun t15 =>
     ldP (t15.add 0) w fun t17 =>
     ptrEqK t17 b fun t19 =>
     cond (!t19)
       (False)
       (K w))

def an_strings_Builder_copyCheck : List Ann := [.none, .none]

theorem vc_strings_Builder_copyCheck (b : Option Addr) (w : World) (K : World → Prop) :
    vcFn C (Tryd.f69.body.getD .skip) Tryd.f69.results.toList Tryd.f69.ntmps an_strings_Builder_copyCheck [] [(.pointer b)] w (fun s w => K w) = sh_strings_Builder_copyCheck b w K := by kernel_rfl

theorem call_strings_Builder_copyCheck (b : Option Addr) {w : World} {K : World → Prop} (h : sh_strings_Builder_copyCheck b w K) : c_strings_Builder_copyCheck b w K := by
  rw [← vc_strings_Builder_copyCheck] at h
  refine Calls.mono (calls_of_vc C.plain_ok C.mixed Tryd.func69 rfl h) ?_
  rintro e w' ⟨s, rfl, hK⟩
  exact ⟨rfl, hK⟩

/-- internal/stringslite.IndexByte -/
def sh_internal_stringslite_IndexByte (s : ByteArray) (c : Int) (w : World) (K : Int → World → Prop) : Prop :=
  callX PG 84 [(.string s), (.int .u8 c)] [(Kind.int .i64)] w fun (t7 : Int) w1 =>
  K t7 w1

def an_internal_stringslite_IndexByte : List Ann := [.none, .none]

theorem vc_internal_stringslite_IndexByte (s : ByteArray) (c : Int) (w : World) (K : Int → World → Prop) :
    vcFn C (Tryd.f70.body.getD .skip) Tryd.f70.results.toList Tryd.f70.ntmps an_internal_stringslite_IndexByte [(Kind.int .i64)] [(.string s), (.int .u8 c)] w (fun s w => K s.1 w) = sh_internal_stringslite_IndexByte s c w K := by kernel_rfl

theorem call_internal_stringslite_IndexByte (s : ByteArray) (c : Int) {w : World} {K : Int → World → Prop} (h : sh_internal_stringslite_IndexByte s c w K) : c_internal_stringslite_IndexByte s c w K := by
  rw [← vc_internal_stringslite_IndexByte] at h
  refine Calls.mono (calls_of_vc C.plain_ok C.mixed Tryd.func70 rfl h) ?_
  rintro e w' ⟨s, rfl, hK⟩
  exact ⟨s.1, rfl, hK⟩

/-- slices.IndexFunc[[]int,int] -/
def sh_slices_IndexFunc_int_int (s : Slc) (f : Value) (w : World) (K : Int → World → Prop) : Prop :=
  loopP (σ := Int × Unit) (fun I1 s_1 w1 =>
    cond (decide (s_1.1 < ((s.n : Nat) : Int)))
      (ixK s s_1.1 1 fun t14 =>
       ldI .i64 t14 w1 fun t15 =>
       callR C f [(.int .i64 t15)] [Kind.bool] w1 fun (t16 : Bool) w2 =>
       cond t16
         (K s_1.1 w2)
         (I1 ((IntKind.i64.wrap (s_1.1 + (1 : Int))), ()) w2))
      (K (-1) w1)) (0, ()) w

def an_slices_IndexFunc_int_int : List Ann := [.none, .none, .none, .join [(8, (Kind.int .i64))] [4, 5, 8, 9, 10, 11, 12, 13, 14, 15, 16, 17, 18], .none, .none, .none, .none, .none, .none, .none]

theorem vc_slices_IndexFunc_int_int (s : Slc) (f : Value) (w : World) (K : Int → World → Prop) :
    vcFn C (Tryd.f71.body.getD .skip) Tryd.f71.results.toList Tryd.f71.ntmps an_slices_IndexFunc_int_int [(Kind.int .i64)] [(.slice s.a s.n s.c), f] w (fun s w => K s.1 w) = sh_slices_IndexFunc_int_int s f w K := by kernel_rfl

theorem call_slices_IndexFunc_int_int (s : Slc) (f : Value) {w : World} {K : Int → World → Prop} (h : sh_slices_IndexFunc_int_int s f w K) : c_slices_IndexFunc_int_int s f w K := by
  rw [← vc_slices_IndexFunc_int_int] at h
  refine Calls.mono (calls_of_vc C.plain_ok C.mixed Tryd.func71 rfl h) ?_
  rintro e w' ⟨s, rfl, hK⟩
  exact ⟨s.1, rfl, hK⟩

/-- bytes.Index -/
def sh_bytes_Index (s : Slc) (sep : Slc) (w : World) (K : Int → World → Prop) : Prop :=
  cond (((sep.n : Nat) : Int) == (0 : Int))
    (K 0 w)
    (cond (((sep.n : Nat) : Int) == (1 : Int))
       (ixK sep 0 1 fun t30 =>
        ldI .u8 t30 w fun t31 =>
        c_bytes_IndexByte s t31 w fun t32 w1 =>
        K t32 w1)
       (cond (((sep.n : Nat) : Int) == ((s.n : Nat) : Int))
          (c_bytes_Equal sep s w fun t40 w2 =>
           cond t40
             (K 0 w2)
             (K (-1) w2))
          (cond (decide (((sep.n : Nat) : Int) > ((s.n : Nat) : Int)))
             (K (-1) w)
             (ldI .i64 (⟨gl_0, 0, none⟩ : Addr) w fun t48 =>
              cond (decide (((sep.n : Nat) : Int) ≤ t48))
                (cond (decide (((s.n : Nat) : Int) ≤ (64 : Int)))
                   (callX PG 87 [(.slice s.a s.n s.c), (.slice sep.a sep.n sep.c)] [(Kind.int .i64)] w fun (t55 : Int) w3 =>
                    K t55 w3)
                   (ixK sep 0 1 fun t57 =>
                    ldI .u8 t57 w fun t58 =>
                    ixK sep 1 1 fun t60 =>
                    ldI .u8 t60 w fun t61 =>
                    loopP (σ := Int × Int × Unit) (fun I1 s_1 w4 =>
                      cond (decide (s_1.1 < (IntKind.i64.wrap ((IntKind.i64.wrap (((s.n : Nat) : Int) - ((sep.n : Nat) : Int))) + (1 : Int)))))
                        (joinP (σ := Int × Unit) (fun s_2 w5 =>
                           joinP (σ := Unit) (fun s_3 w6 =>
                             c_internal_bytealg_Cutover (IntKind.i64.wrap (s_2.1 + (1 : Int))) w6 fun t113 w7 =>
                             cond (decide ((IntKind.i64.wrap (s_1.2.1 + (1 : Int))) > t113))
                               (slK s (some (IntKind.i64.wrap (s_2.1 + (1 : Int)))) none 1 fun t117 =>
                                callX PG 87 [(.slice t117.a t117.n t117.c), (.slice sep.a sep.n sep.c)] [(Kind.int .i64)] w7 fun (t119 : Int) w8 =>
                                cond (decide (t119 ≥ (0 : Int)))
                                  (K (IntKind.i64.wrap (t119 + (IntKind.i64.wrap (s_2.1 + (1 : Int))))) w8)
                                  (K (-1) w8))
                               (I1 ((IntKind.i64.wrap (s_2.1 + (1 : Int))), (IntKind.i64.wrap (s_1.2.1 + (1 : Int))), ()) w7)) fun J3 =>
                           ixK s (IntKind.i64.wrap (s_2.1 + (1 : Int))) 1 fun t92 =>
                           ldI .u8 t92 w5 fun t93 =>
                           cond (t93 == t61)
                             (slK s (some s_2.1) (some (IntKind.i64.wrap (s_2.1 + ((sep.n : Nat) : Int)))) 1 fun t102 =>
                              c_bytes_Equal t102 sep w5 fun t104 w9 =>
                              cond t104
                                (K s_2.1 w9)
                                (J3 (()) w9))
                             (J3 (()) w5)) fun J2 =>
                         ixK s s_1.1 1 fun t72 =>
                         ldI .u8 t72 w4 fun t73 =>
                         cond (t73 != t58)
                           (slK s (some (IntKind.i64.wrap (s_1.1 + (1 : Int)))) (some (IntKind.i64.wrap ((IntKind.i64.wrap (((s.n : Nat) : Int) - ((sep.n : Nat) : Int))) + (1 : Int)))) 1 fun t80 =>
                            c_bytes_IndexByte t80 t58 w4 fun t82 w10 =>
                            cond (decide (t82 < (0 : Int)))
                              (K (-1) w10)
                              (J2 ((IntKind.i64.wrap (s_1.1 + (IntKind.i64.wrap (t82 + (1 : Int))))), ()) w10))
                           (J2 (s_1.1, ()) w4))
                        (K (-1) w4)) (0, 0, ()) w))
                (ixK sep 0 1 fun t126 =>
                 ldI .u8 t126 w fun t127 =>
                 ixK sep 1 1 fun t129 =>
                 ldI .u8 t129 w fun t130 =>
                 loopP (σ := Int × Int × Unit) (fun I4 s_4 w11 =>
                   cond (decide (s_4.1 < (IntKind.i64.wrap ((IntKind.i64.wrap (((s.n : Nat) : Int) - ((sep.n : Nat) : Int))) + (1 : Int)))))
                     (joinP (σ := Int × Unit) (fun s_5 w12 =>
                        joinP (σ := Unit) (fun s_6 w13 =>
                          joinP (σ := Bool × Unit) (fun s_7 w14 =>
                            cond s_7.1
                              (slK s (some (IntKind.i64.wrap (s_5.1 + (1 : Int)))) none 1 fun t192 =>
                               c_internal_bytealg_IndexRabinKarp_byte t192 sep w14 fun t194 w15 =>
                               cond (decide (t194 < (0 : Int)))
                                 (K (-1) w15)
                                 (K (IntKind.i64.wrap ((IntKind.i64.wrap (s_5.1 + (1 : Int))) + t194)) w15))
                              (I4 ((IntKind.i64.wrap (s_5.1 + (1 : Int))), (IntKind.i64.wrap (s_4.2.1 + (1 : Int))), ()) w14)) fun J7 =>
                          0 ≤ (4 : Int) ∧
                          cond (decide ((IntKind.i64.wrap (s_4.2.1 + (1 : Int))) ≥ (IntKind.i64.wrap ((4 : Int) + ((IntKind.i64.wrap (s_5.1 + (1 : Int))).fdiv (2 ^ (min (4 : Int).toNat IntKind.i64.bits)))))))
                            (J7 ((decide ((IntKind.i64.wrap (s_5.1 + (1 : Int))) < (IntKind.i64.wrap ((IntKind.i64.wrap (((s.n : Nat) : Int) - ((sep.n : Nat) : Int))) + (1 : Int))))), ()) w13)
                            (J7 (false, ()) w13)) fun J6 =>
                        ixK s (IntKind.i64.wrap (s_5.1 + (1 : Int))) 1 fun t161 =>
                        ldI .u8 t161 w12 fun t162 =>
                        cond (t162 == t130)
                          (slK s (some s_5.1) (some (IntKind.i64.wrap (s_5.1 + ((sep.n : Nat) : Int)))) 1 fun t171 =>
                           c_bytes_Equal t171 sep w12 fun t173 w16 =>
                           cond t173
                             (K s_5.1 w16)
                             (J6 (()) w16))
                          (J6 (()) w12)) fun J5 =>
                      ixK s s_4.1 1 fun t141 =>
                      ldI .u8 t141 w11 fun t142 =>
                      cond (t142 != t127)
                        (slK s (some (IntKind.i64.wrap (s_4.1 + (1 : Int)))) (some (IntKind.i64.wrap ((IntKind.i64.wrap (((s.n : Nat) : Int) - ((sep.n : Nat) : Int))) + (1 : Int)))) 1 fun t149 =>
                         c_bytes_IndexByte t149 t127 w11 fun t151 w17 =>
                         cond (decide (t151 < (0 : Int)))
                           (K (-1) w17)
                           (J5 ((IntKind.i64.wrap (s_4.1 + (IntKind.i64.wrap (t151 + (1 : Int))))), ()) w17))
                        (J5 (s_4.1, ()) w11))
                     (K (-1) w11)) (0, 0, ()) w)))))

def an_bytes_Index : List Ann := [.none, .none, .none, .none, .none, .none, .none, .none, .none, .none, .none, .none, .none, .none, .none, .none, .none, .none, .none, .none, .none, .none, .none, .none, .join [(8, (Kind.int .i64)), (10, (Kind.int .i64))] [4, 8, 10, 11, 12, 67, 68, 69, 70, 71, 72, 73, 74, 75, 76, 77, 78, 79, 80, 81, 82, 83, 84, 85, 86, 87, 88, 89, 90, 91, 92, 93, 94, 95, 96, 97, 98, 99, 100, 101, 102, 103, 104, 105, 106, 107, 108, 109, 110, 111, 112, 113, 114, 115, 116, 117, 118, 119, 120, 121, 122, 123, 124], .none, .none, .join [(8, (Kind.int .i64))] [4, 8, 11, 70, 71, 72, 73, 74, 75, 76, 77, 78, 79, 80, 81, 82, 83, 84, 85, 86, 87, 88], .none, .none, .none, .none, .none, .join [] [4, 89, 90, 91, 92, 93, 94, 95, 96, 97, 98, 99, 100, 101, 102, 103, 104, 105, 106], .none, .none, .none, .none, .none, .none, .none, .none, .none, .none, .none, .none, .none, .none, .none, .none, .none, .join [(15, (Kind.int .i64)), (16, (Kind.int .i64))] [4, 15, 16, 18, 19, 136, 137, 138, 139, 140, 141, 142, 143, 144, 145, 146, 147, 148, 149, 150, 151, 152, 153, 154, 155, 156, 157, 158, 159, 160, 161, 162, 163, 164, 165, 166, 167, 168, 169, 170, 171, 172, 173, 174, 175, 176, 177, 178, 179, 180, 181, 182, 183, 184, 185, 186, 187, 188, 189, 190, 191, 192, 193, 194, 195, 196, 197, 198, 199], .none, .none, .join [(15, (Kind.int .i64))] [15, 18, 139, 140, 141, 142, 143, 144, 145, 146, 147, 148, 149, 150, 151, 152, 153, 154, 155, 156, 157], .none, .none, .none, .none, .join [] [4, 158, 159, 160, 161, 162, 163, 164, 165, 166, 167, 168, 169, 170, 171, 172, 173, 174, 175], .none, .none, .none, .none, .join [(189, Kind.bool)] [180, 181, 182, 183, 184, 185, 186, 187, 188, 189], .none, .none, .none, .none, .none, .none]

theorem vc_bytes_Index (s : Slc) (sep : Slc) (w : World) (K : Int → World → Prop) :
    vcFn C (Tryd.f72.body.getD .skip) Tryd.f72.results.toList Tryd.f72.ntmps an_bytes_Index [(Kind.int .i64)] [(.slice s.a s.n s.c), (.slice sep.a sep.n sep.c)] w (fun s w => K s.1 w) = sh_bytes_Index s sep w K := by kernel_rfl

theorem call_bytes_Index (s : Slc) (sep : Slc) {w : World} {K : Int → World → Prop} (h : sh_bytes_Index s sep w K) : c_bytes_Index s sep w K := by
  rw [← vc_bytes_Index] at h
  refine Calls.mono (calls_of_vc C.plain_ok C.mixed Tryd.func72 rfl h) ?_
  rintro e w' ⟨s, rfl, hK⟩
  exact ⟨s.1, rfl, hK⟩

/-- (*strings.Builder).grow -/
def sh_strings_Builder_grow (b : Option Addr) (n : Int) (w : World) (K : World → Prop) : Prop :=
  onPtr b fun t6 =>
  ldSl (t6.add 1) w.drew fun t8 =>
  onPtr b fun t15 =>
  ldSl (t15.add 1) w.drew fun t17 =>
  callX PG 94 [(.int .i64 (IntKind.i64.wrap ((IntKind.i64.wrap ((2 : Int) * ((t8.c : Nat) : Int))) + n)))] [Kind.slice] w.drew fun (t13 : Slc) w1 =>
  World.cell? w1 (t15.add 1) = some (.slice t17.a t17.n t17.c) ∧
  slK t13 none (some ((t17.n : Nat) : Int)) 1 fun t19 =>
  onPtr b fun t22 =>
  ldSl (t22.add 1) w1 fun t24 =>
  runK1 PG (Builtin.copy_ #[ty_sl_uint8, ty_sl_uint8] ty_int #[(.slice t19.a t19.n t19.c), (.slice t24.a t24.n t24.c)]) (Kind.int .i64) w1 fun (t25 : Int) w2 =>
  onPtr b fun t28 =>
  stK (t28.add 1) [(.slice t19.a t19.n t19.c)] w2 fun w3 =>
  K w3

def an_strings_Builder_grow : List Ann := [.none, .none]

theorem vc_strings_Builder_grow (b : Option Addr) (n : Int) (w : World) (K : World → Prop) :
    vcFn C (Tryd.f74.body.getD .skip) Tryd.f74.results.toList Tryd.f74.ntmps an_strings_Builder_grow [] [(.pointer b), (.int .i64 n)] w (fun s w => K w) = sh_strings_Builder_grow b n w K := by kernel_rfl

theorem call_strings_Builder_grow (b : Option Addr) (n : Int) {w : World} {K : World → Prop} (h : sh_strings_Builder_grow b n w K) : c_strings_Builder_grow b n w K := by
  rw [← vc_strings_Builder_grow] at h
  refine Calls.mono (calls_of_vc C.plain_ok C.mixed Tryd.func74 rfl h) ?_
  rintro e w' ⟨s, rfl, hK⟩
  exact ⟨rfl, hK⟩

/-- strings.explode -/
def sh_strings_explode (s : ByteArray) (n : Int) (w : World) (K : Slc → World → Prop) : Prop :=
  c_unicode_utf8_RuneCountInString s w fun t11 w1 =>
  joinP (σ := Int × Unit) (fun s_1 w2 =>
    mkSl PG ty_sl_string (.int .i64 s_1.1) (.int .i64 s_1.1) w2 fun t21 w3 =>
    loopP (σ := ByteArray × Int × Unit) (fun I2 s_2 w4 =>
      cond (decide (s_2.2.1 < (IntKind.i64.wrap (s_1.1 - (1 : Int)))))
        (c_unicode_utf8_DecodeRuneInString s_2.1 w4 fun t30 t30_1 w5 =>
         slS s_2.1 none (some t30_1) fun t37 =>
         ixK t21 s_2.2.1 1 fun t38 =>
         stK t38 [(.string t37)] w5 fun w6 =>
         slS s_2.1 (some t30_1) none fun t41 =>
         I2 (t41, (IntKind.i64.wrap (s_2.2.1 + (1 : Int))), ()) w6)
        (cond (decide (s_1.1 > (0 : Int)))
           (ixK t21 (IntKind.i64.wrap (s_1.1 - (1 : Int))) 1 fun t48 =>
            stK t48 [(.string s_2.1)] w4 fun w7 =>
            K t21 w7)
           (K t21 w4))) (s, 0, ()) w3) fun J1 =>
  cond (decide (n < (0 : Int)))
    (J1 (t11, ()) w1)
    (cond (decide (n > t11))
       (J1 (t11, ()) w1)
       (J1 (n, ()) w1))

def an_strings_explode : List Ann := [.none, .none, .join [(1, (Kind.int .i64))] [1, 12, 13, 14, 15, 16, 17, 18, 19], .none, .none, .none, .none, .join [(0, Kind.string), (7, (Kind.int .i64))] [0, 7, 8, 9, 22, 23, 24, 25, 26, 27, 28, 29, 30, 31, 32, 33, 34, 35, 36, 37, 38, 39, 40, 41], .none, .none, .none, .none, .none, .none, .none, .none]

theorem vc_strings_explode (s : ByteArray) (n : Int) (w : World) (K : Slc → World → Prop) :
    vcFn C (Tryd.f75.body.getD .skip) Tryd.f75.results.toList Tryd.f75.ntmps an_strings_explode [Kind.slice] [(.string s), (.int .i64 n)] w (fun s w => K s.1 w) = sh_strings_explode s n w K := by kernel_rfl

theorem call_strings_explode (s : ByteArray) (n : Int) {w : World} {K : Slc → World → Prop} (h : sh_strings_explode s n w K) : c_strings_explode s n w K := by
  rw [← vc_strings_explode] at h
  refine Calls.mono (calls_of_vc C.plain_ok C.mixed Tryd.func75 rfl h) ?_
  rintro e w' ⟨s, rfl, hK⟩
  exact ⟨s.1, rfl, hK⟩

/-- strings.Count -/
def sh_strings_Count (s : ByteArray) (substr : ByteArray) (w : World) (K : Int → World → Prop) : Prop :=
  cond ((substr.size : Int) == (0 : Int))
    (c_unicode_utf8_RuneCountInString s w fun t11 w1 =>
     K (IntKind.i64.wrap (t11 + (1 : Int))) w1)
    (cond ((substr.size : Int) == (1 : Int))
       (ixS substr 0 fun t18 =>
        callX PG 97 [(.string s), (.int .u8 t18)] [(Kind.int .i64)] w fun (t19 : Int) w2 =>
        K t19 w2)
       (loopP (σ := ByteArray × Int × Unit) (fun I1 s_1 w3 =>
          c_strings_Index s_1.1 substr w3 fun t22 w4 =>
          cond (t22 == ((-1) : Int))
            (K s_1.2.1 w4)
            (slS s_1.1 (some (IntKind.i64.wrap (t22 + (substr.size : Int)))) none fun t33 =>
             I1 (t33, (IntKind.i64.wrap (s_1.2.1 + (1 : Int))), ()) w4)) (s, 0, ()) w))

def an_strings_Count : List Ann := [.none, .none, .none, .none, .none, .none, .none, .none, .join [(0, Kind.string), (5, (Kind.int .i64))] [0, 4, 5, 6, 20, 21, 22, 23, 24, 25, 26, 27, 28, 29, 30, 31, 32, 33], .none, .none, .none, .none, .none]

theorem vc_strings_Count (s : ByteArray) (substr : ByteArray) (w : World) (K : Int → World → Prop) :
    vcFn C (Tryd.f76.body.getD .skip) Tryd.f76.results.toList Tryd.f76.ntmps an_strings_Count [(Kind.int .i64)] [(.string s), (.string substr)] w (fun s w => K s.1 w) = sh_strings_Count s substr w K := by kernel_rfl

theorem call_strings_Count (s : ByteArray) (substr : ByteArray) {w : World} {K : Int → World → Prop} (h : sh_strings_Count s substr w K) : c_strings_Count s substr w K := by
  rw [← vc_strings_Count] at h
  refine Calls.mono (calls_of_vc C.plain_ok C.mixed Tryd.func76 rfl h) ?_
  rintro e w' ⟨s, rfl, hK⟩
  exact ⟨s.1, rfl, hK⟩

/-- strings.Index -/
def sh_strings_Index (s : ByteArray) (substr : ByteArray) (w : World) (K : Int → World → Prop) : Prop :=
  c_internal_stringslite_Index s substr w fun t7 w1 =>
  K t7 w1

def an_strings_Index : List Ann := [.none, .none]

theorem vc_strings_Index (s : ByteArray) (substr : ByteArray) (w : World) (K : Int → World → Prop) :
    vcFn C (Tryd.f77.body.getD .skip) Tryd.f77.results.toList Tryd.f77.ntmps an_strings_Index [(Kind.int .i64)] [(.string s), (.string substr)] w (fun s w => K s.1 w) = sh_strings_Index s substr w K := by kernel_rfl

theorem call_strings_Index (s : ByteArray) (substr : ByteArray) {w : World} {K : Int → World → Prop} (h : sh_strings_Index s substr w K) : c_strings_Index s substr w K := by
  rw [← vc_strings_Index] at h
  refine Calls.mono (calls_of_vc C.plain_ok C.mixed Tryd.func77 rfl h) ?_
  rintro e w' ⟨s, rfl, hK⟩
  exact ⟨s.1, rfl, hK⟩

/-- strings.CutPrefix -/
def sh_strings_CutPrefix (s : ByteArray) (prefix_ : ByteArray) (w : World) (K : ByteArray → Bool → World → Prop) : Prop :=
  c_internal_stringslite_CutPrefix s prefix_ w fun t8 t8_1 w1 =>
  K t8 t8_1 w1

def an_strings_CutPrefix : List Ann := [.none, .none]

theorem vc_strings_CutPrefix (s : ByteArray) (prefix_ : ByteArray) (w : World) (K : ByteArray → Bool → World → Prop) :
    vcFn C (Tryd.f78.body.getD .skip) Tryd.f78.results.toList Tryd.f78.ntmps an_strings_CutPrefix [Kind.string, Kind.bool] [(.string s), (.string prefix_)] w (fun s w => K s.1 s.2.1 w) = sh_strings_CutPrefix s prefix_ w K := by kernel_rfl

theorem call_strings_CutPrefix (s : ByteArray) (prefix_ : ByteArray) {w : World} {K : ByteArray → Bool → World → Prop} (h : sh_strings_CutPrefix s prefix_ w K) : c_strings_CutPrefix s prefix_ w K := by
  rw [← vc_strings_CutPrefix] at h
  refine Calls.mono (calls_of_vc C.plain_ok C.mixed Tryd.func78 rfl h) ?_
  rintro e w' ⟨s, rfl, hK⟩
  exact ⟨s.1, s.2.1, rfl, hK⟩

/-- phosphor/phosphorref19.withMore -/
def sh_phosphorref19_withMore (k : T_keys_Keys) (i : Int) (v : Int) (w : World) (K : T_keys_Keys → World → Prop) : Prop :=
  nw ty_phosphorref19_Keys (T_keys_Keys.rep.cells k) w fun k_1 w1 =>
  nw ty_phosphorref19_Keys [(.int .u8 0), (.int .u8 0), (.int .u8 0), (.int .u8 0), (.int .i64 0), (.int .i64 0), (.int .i64 0), (.int .i64 0), (.int .i64 0), (.int .i64 0), (.int .i64 0), (.int .i64 0), (.int .i64 0), (.int .i64 0), (.int .i64 0), (.int .i64 0), (.int .i64 0), (.int .i64 0), (.int .i64 0), (.int .i64 0), (.int .i64 0), (.int .i64 0)] w1 fun t6 w2 =>
  cond (i == (8 : Int))
    (stK (k_1.add 12) [(.int .i64 v)] w2 fun w3 =>
     ldS T_keys_Keys.rep k_1 w3 fun t44 =>
     stK t6 (T_keys_Keys.rep.cells t44) w3 fun w4 =>
     ldS T_keys_Keys.rep t6 w4 fun r =>
     K r w4)
    (cond (i == (9 : Int))
       (stK (k_1.add 13) [(.int .i64 v)] w2 fun w5 =>
        ldS T_keys_Keys.rep k_1 w5 fun t44_1 =>
        stK t6 (T_keys_Keys.rep.cells t44_1) w5 fun w6 =>
        ldS T_keys_Keys.rep t6 w6 fun r_1 =>
        K r_1 w6)
       (cond (i == (10 : Int))
          (stK (k_1.add 14) [(.int .i64 v)] w2 fun w7 =>
           ldS T_keys_Keys.rep k_1 w7 fun t44_2 =>
           stK t6 (T_keys_Keys.rep.cells t44_2) w7 fun w8 =>
           ldS T_keys_Keys.rep t6 w8 fun r_2 =>
           K r_2 w8)
          (cond (i == (11 : Int))
             (stK (k_1.add 15) [(.int .i64 v)] w2 fun w9 =>
              ldS T_keys_Keys.rep k_1 w9 fun t44_3 =>
              stK t6 (T_keys_Keys.rep.cells t44_3) w9 fun w10 =>
              ldS T_keys_Keys.rep t6 w10 fun r_3 =>
              K r_3 w10)
             (cond (i == (12 : Int))
                (stK (k_1.add 16) [(.int .i64 v)] w2 fun w11 =>
                 ldS T_keys_Keys.rep k_1 w11 fun t44_4 =>
                 stK t6 (T_keys_Keys.rep.cells t44_4) w11 fun w12 =>
                 ldS T_keys_Keys.rep t6 w12 fun r_4 =>
                 K r_4 w12)
                (cond (i == (13 : Int))
                   (stK (k_1.add 17) [(.int .i64 v)] w2 fun w13 =>
                    ldS T_keys_Keys.rep k_1 w13 fun t44_5 =>
                    stK t6 (T_keys_Keys.rep.cells t44_5) w13 fun w14 =>
                    ldS T_keys_Keys.rep t6 w14 fun r_5 =>
                    K r_5 w14)
                   (cond (i == (14 : Int))
                      (stK (k_1.add 18) [(.int .i64 v)] w2 fun w15 =>
                       ldS T_keys_Keys.rep k_1 w15 fun t44_6 =>
                       stK t6 (T_keys_Keys.rep.cells t44_6) w15 fun w16 =>
                       ldS T_keys_Keys.rep t6 w16 fun r_6 =>
                       K r_6 w16)
                      (cond (i == (15 : Int))
                         (stK (k_1.add 19) [(.int .i64 v)] w2 fun w17 =>
                          ldS T_keys_Keys.rep k_1 w17 fun t44_7 =>
                          stK t6 (T_keys_Keys.rep.cells t44_7) w17 fun w18 =>
                          ldS T_keys_Keys.rep t6 w18 fun r_7 =>
                          K r_7 w18)
                         (cond (i == (16 : Int))
                            (stK (k_1.add 21) [(.int .i64 v)] w2 fun w19 =>
                             ldS T_keys_Keys.rep k_1 w19 fun t44_8 =>
                             stK t6 (T_keys_Keys.rep.cells t44_8) w19 fun w20 =>
                             ldS T_keys_Keys.rep t6 w20 fun r_8 =>
                             K r_8 w20)
                            (ldS T_keys_Keys.rep k_1 w2 fun t44_9 =>
                             stK t6 (T_keys_Keys.rep.cells t44_9) w2 fun w21 =>
                             ldS T_keys_Keys.rep t6 w21 fun r_9 =>
                             K r_9 w21)))))))))

def an_phosphorref19_withMore : List Ann := [.none, .none, .none, .none, .none, .none, .none, .none, .none, .none, .none, .none, .none]

theorem vc_phosphorref19_withMore (k : T_keys_Keys) (i : Int) (v : Int) (w : World) (K : T_keys_Keys → World → Prop) :
    vcFn C (Tryd.f79.body.getD .skip) Tryd.f79.results.toList Tryd.f79.ntmps an_phosphorref19_withMore [(Kind.struct T_keys_Keys.rep)] [(.agg #[(.int .u8 k.Action), (.int .u8 k.Medium), (.int .u8 k.Zip), (.int .u8 k.What), (.int .i64 k.Quiet), (.int .i64 k.Format), (.int .i64 k.W), (.int .i64 k.H), (.int .i64 k.Id), (.int .i64 k.Number), (.int .i64 k.Place), (.int .i64 k.More), (.int .i64 k.X), (.int .i64 k.Y), (.int .i64 k.PW), (.int .i64 k.PH), (.int .i64 k.DX), (.int .i64 k.DY), (.int .i64 k.Rows), (.int .i64 k.Cols), (.int .i64 k.Z), (.int .i64 k.Stay)]), (.int .i64 i), (.int .i64 v)] w (fun s w => K s.1 w) = sh_phosphorref19_withMore k i v w K := by kernel_rfl

theorem call_phosphorref19_withMore (k : T_keys_Keys) (i : Int) (v : Int) {w : World} {K : T_keys_Keys → World → Prop} (h : sh_phosphorref19_withMore k i v w K) : c_phosphorref19_withMore k i v w K := by
  rw [← vc_phosphorref19_withMore] at h
  refine Calls.mono (calls_of_vc C.plain_ok C.mixed Tryd.func79 rfl h) ?_
  rintro e w' ⟨s, rfl, hK⟩
  exact ⟨s.1, rfl, hK⟩

/-- strings.splitSeq -/
def sh_strings_splitSeq (s : ByteArray) (sep : ByteArray) (sepSave : Int) (w : World) (K : Value → World → Prop) : Prop :=
  nw ty_string [(.string s)] w fun s_1 w1 =>
  nw ty_string [(.string sep)] w1 fun sep_1 w2 =>
  nw ty_int [(.int .i64 sepSave)] w2 fun sepSave_1 w3 =>
  K ((.func (.func fn_strings_splitSeq_1) #[] #[(.pointer (some sep_1)), (.pointer (some s_1)), (.pointer (some sepSave_1))]) : Value) w3

def an_strings_splitSeq : List Ann := [.none, .none]

theorem vc_strings_splitSeq (s : ByteArray) (sep : ByteArray) (sepSave : Int) (w : World) (K : Value → World → Prop) :
    vcFn C (Tryd.f80.body.getD .skip) Tryd.f80.results.toList Tryd.f80.ntmps an_strings_splitSeq [Kind.raw] [(.string s), (.string sep), (.int .i64 sepSave)] w (fun s w => K s.1 w) = sh_strings_splitSeq s sep sepSave w K := by kernel_rfl

theorem call_strings_splitSeq (s : ByteArray) (sep : ByteArray) (sepSave : Int) {w : World} {K : Value → World → Prop} (h : sh_strings_splitSeq s sep sepSave w K) : c_strings_splitSeq s sep sepSave w K := by
  rw [← vc_strings_splitSeq] at h
  refine Calls.mono (calls_of_vc C.plain_ok C.mixed Tryd.func80 rfl h) ?_
  rintro e w' ⟨s, rfl, hK⟩
  exact ⟨s.1, rfl, hK⟩

/-- strings.Cut -/
def sh_strings_Cut (s : ByteArray) (sep : ByteArray) (w : World) (K : ByteArray → ByteArray → Bool → World → Prop) : Prop :=
  c_internal_stringslite_Cut s sep w fun t9 t9_1 t9_2 w1 =>
  K t9 t9_1 t9_2 w1

def an_strings_Cut : List Ann := [.none, .none]

theorem vc_strings_Cut (s : ByteArray) (sep : ByteArray) (w : World) (K : ByteArray → ByteArray → Bool → World → Prop) :
    vcFn C (Tryd.f81.body.getD .skip) Tryd.f81.results.toList Tryd.f81.ntmps an_strings_Cut [Kind.string, Kind.string, Kind.bool] [(.string s), (.string sep)] w (fun s w => K s.1 s.2.1 s.2.2.1 w) = sh_strings_Cut s sep w K := by kernel_rfl

theorem call_strings_Cut (s : ByteArray) (sep : ByteArray) {w : World} {K : ByteArray → ByteArray → Bool → World → Prop} (h : sh_strings_Cut s sep w K) : c_strings_Cut s sep w K := by
  rw [← vc_strings_Cut] at h
  refine Calls.mono (calls_of_vc C.plain_ok C.mixed Tryd.func81 rfl h) ?_
  rintro e w' ⟨s, rfl, hK⟩
  exact ⟨s.1, s.2.1, s.2.2.1, rfl, hK⟩

/-- bytes.IndexByte -/
def sh_bytes_IndexByte (b : Slc) (c : Int) (w : World) (K : Int → World → Prop) : Prop :=
  callX PG 104 [(.slice b.a b.n b.c), (.int .u8 c)] [(Kind.int .i64)] w fun (t7 : Int) w1 =>
  K t7 w1

def an_bytes_IndexByte : List Ann := [.none, .none]

theorem vc_bytes_IndexByte (b : Slc) (c : Int) (w : World) (K : Int → World → Prop) :
    vcFn C (Tryd.f85.body.getD .skip) Tryd.f85.results.toList Tryd.f85.ntmps an_bytes_IndexByte [(Kind.int .i64)] [(.slice b.a b.n b.c), (.int .u8 c)] w (fun s w => K s.1 w) = sh_bytes_IndexByte b c w K := by kernel_rfl

theorem call_bytes_IndexByte (b : Slc) (c : Int) {w : World} {K : Int → World → Prop} (h : sh_bytes_IndexByte b c w K) : c_bytes_IndexByte b c w K := by
  rw [← vc_bytes_IndexByte] at h
  refine Calls.mono (calls_of_vc C.plain_ok C.mixed Tryd.func85 rfl h) ?_
  rintro e w' ⟨s, rfl, hK⟩
  exact ⟨s.1, rfl, hK⟩

/-- bytes.Equal -/
def sh_bytes_Equal (a : Slc) (b : Slc) (w : World) (K : Bool → World → Prop) : Prop :=
  runK1 PG (convert ty_sl_uint8 ty_string (.slice a.a a.n a.c)) Kind.string w fun (t6 : ByteArray) w1 =>
  runK1 PG (convert ty_sl_uint8 ty_string (.slice b.a b.n b.c)) Kind.string w1 fun (t8 : ByteArray) w2 =>
  K (t6.toList == t8.toList) w2

def an_bytes_Equal : List Ann := [.none, .none]

theorem vc_bytes_Equal (a : Slc) (b : Slc) (w : World) (K : Bool → World → Prop) :
    vcFn C (Tryd.f86.body.getD .skip) Tryd.f86.results.toList Tryd.f86.ntmps an_bytes_Equal [Kind.bool] [(.slice a.a a.n a.c), (.slice b.a b.n b.c)] w (fun s w => K s.1 w) = sh_bytes_Equal a b w K := by kernel_rfl

theorem call_bytes_Equal (a : Slc) (b : Slc) {w : World} {K : Bool → World → Prop} (h : sh_bytes_Equal a b w K) : c_bytes_Equal a b w K := by
  rw [← vc_bytes_Equal] at h
  refine Calls.mono (calls_of_vc C.plain_ok C.mixed Tryd.func86 rfl h) ?_
  rintro e w' ⟨s, rfl, hK⟩
  exact ⟨s.1, rfl, hK⟩

/-- internal/bytealg.Cutover -/
def sh_internal_bytealg_Cutover (n : Int) (w : World) (K : Int → World → Prop) : Prop :=
  (8 : Int) ≠ 0 ∧
  K (IntKind.i64.wrap ((IntKind.i64.wrap (n + (16 : Int))).tdiv (8 : Int))) w

def an_internal_bytealg_Cutover : List Ann := [.none, .none]

theorem vc_internal_bytealg_Cutover (n : Int) (w : World) (K : Int → World → Prop) :
    vcFn C (Tryd.f88.body.getD .skip) Tryd.f88.results.toList Tryd.f88.ntmps an_internal_bytealg_Cutover [(Kind.int .i64)] [(.int .i64 n)] w (fun s w => K s.1 w) = sh_internal_bytealg_Cutover n w K := by kernel_rfl

theorem call_internal_bytealg_Cutover (n : Int) {w : World} {K : Int → World → Prop} (h : sh_internal_bytealg_Cutover n w K) : c_internal_bytealg_Cutover n w K := by
  rw [← vc_internal_bytealg_Cutover] at h
  refine Calls.mono (calls_of_vc C.plain_ok C.mixed Tryd.func88 rfl h) ?_
  rintro e w' ⟨s, rfl, hK⟩
  exact ⟨s.1, rfl, hK⟩

end Go.Proofs.YtpadlibcalomnaaDoor
