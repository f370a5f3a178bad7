/- By program (gen.py): the typed text of the program's functions, part 2. -/
import Derived.Test.YtpadlibcalomnaaDoorDefs
set_option maxRecDepth 100000
set_option linter.unusedVariables false
namespace Go.Proofs.YtpadlibcalomnaaDoor
open Go.Vc

/-- internal/bytealg.IndexRabinKarp[[]byte] -/
def sh_internal_bytealg_IndexRabinKarp_byte (s : Slc) (sep : Slc) (w : World) (K : Int → World → Prop) : Prop :=
  c_internal_bytealg_hashStr_byte sep w fun t13 t13_1 w1 =>
  loopP (σ := Int × Int × Unit) (fun I1 s_1 w2 =>
    cond (decide (s_1.2.1 < ((sep.n : Nat) : Int)))
      (ixK s s_1.2.1 1 fun t27 =>
       ldI .u8 t27 w2 fun t28 =>
       I1 ((IntKind.u32.wrap ((IntKind.u32.wrap (s_1.1 * (16777619 : Int))) + (IntKind.u32.wrap t28))), (IntKind.i64.wrap (s_1.2.1 + (1 : Int))), ()) w2)
      (joinP (σ := Unit) (fun s_2 w3 =>
         loopP (σ := Int × Int × Unit) (fun I3 s_3 w4 =>
           cond (decide (s_3.2.1 < ((s.n : Nat) : Int)))
             (ixK s s_3.2.1 1 fun t53 =>
              ldI .u8 t53 w4 fun t54 =>
              ixK s (IntKind.i64.wrap (s_3.2.1 - ((sep.n : Nat) : Int))) 1 fun t63 =>
              ldI .u8 t63 w4 fun t64 =>
              joinP (σ := Bool × Unit) (fun s_4 w5 =>
                cond s_4.1
                  (K (IntKind.i64.wrap ((IntKind.i64.wrap (s_3.2.1 + (1 : Int))) - ((sep.n : Nat) : Int))) w5)
                  (I3 ((IntKind.u32.wrap ((IntKind.u32.wrap ((IntKind.u32.wrap (s_3.1 * (16777619 : Int))) + (IntKind.u32.wrap t54))) - (IntKind.u32.wrap (t13_1 * (IntKind.u32.wrap t64))))), (IntKind.i64.wrap (s_3.2.1 + (1 : Int))), ()) w5)) fun J4 =>
              cond ((IntKind.u32.wrap ((IntKind.u32.wrap ((IntKind.u32.wrap (s_3.1 * (16777619 : Int))) + (IntKind.u32.wrap t54))) - (IntKind.u32.wrap (t13_1 * (IntKind.u32.wrap t64))))) == t13)
                (slK s (some (IntKind.i64.wrap ((IntKind.i64.wrap (s_3.2.1 + (1 : Int))) - ((sep.n : Nat) : Int)))) (some (IntKind.i64.wrap (s_3.2.1 + (1 : Int)))) 1 fun t79 =>
                   (runK1 PG (convert ty_sl_uint8 ty_string (.slice t79.a t79.n t79.c)) Kind.string w4.drew fun (t80 : ByteArray) w6 =>
                    runK1 PG (convert ty_sl_uint8 ty_string (.slice sep.a sep.n sep.c)) Kind.string w6 fun (t82 : ByteArray) w7 =>
                    J4 ((t80.toList == t82.toList), ()) w7) ∧
                 runK1 PG (convert ty_sl_uint8 ty_string (.slice sep.a sep.n sep.c)) Kind.string w4.drew fun (t82_1 : ByteArray) w8 =>
                 runK1 PG (convert ty_sl_uint8 ty_string (.slice t79.a t79.n t79.c)) Kind.string w8 fun (t80_1 : ByteArray) w9 =>
                 J4 ((t80_1.toList == t82_1.toList), ()) w9)
                (  (J4 (false, ()) w4.drew) ∧
                 J4 (false, ()) w4.drew))
             (K (-1) w4)) (s_1.1, ((sep.n : Nat) : Int), ()) w3) fun J2 =>
       cond (s_1.1 == t13)
         (slK s none (some ((sep.n : Nat) : Int)) 1 fun t37 =>
            (runK1 PG (convert ty_sl_uint8 ty_string (.slice t37.a t37.n t37.c)) Kind.string w2.drew fun (t38 : ByteArray) w10 =>
             runK1 PG (convert ty_sl_uint8 ty_string (.slice sep.a sep.n sep.c)) Kind.string w10 fun (t40 : ByteArray) w11 =>
             cond (t38.toList == t40.toList)
               (K 0 w11)
               (J2 (()) w11)) ∧
          runK1 PG (convert ty_sl_uint8 ty_string (.slice sep.a sep.n sep.c)) Kind.string w2.drew fun (t40_1 : ByteArray) w12 =>
          runK1 PG (convert ty_sl_uint8 ty_string (.slice t37.a t37.n t37.c)) Kind.string w12 fun (t38_1 : ByteArray) w13 =>
          cond (t38_1.toList == t40_1.toList)
            (K 0 w13)
            (J2 (()) w13))
         (  (J2 (()) w2.drew) ∧
          J2 (()) w2.drew))) (0, 0, ()) w1

def an_internal_bytealg_IndexRabinKarp_byte : List Ann := [.none, .none, .none, .none, .none, .none, .join [(8, (Kind.int .u32)), (9, (Kind.int .i64))] [8, 9, 18, 19, 20, 21, 22, 23, 24, 25, 26, 27, 28, 29, 30], .none, .none, .none, .join [] [4, 31, 32, 33, 34, 35, 36, 37, 38, 39, 40, 41, 42], .none, .none, .none, .none, .join [(8, (Kind.int .u32)), (10, (Kind.int .i64))] [4, 8, 10, 44, 45, 46, 47, 48, 49, 50, 51, 52, 53, 54, 55, 56, 57, 58, 59, 60, 61, 62, 63, 64, 65, 66, 67, 68, 69, 70, 71, 72, 73, 74, 75, 76, 77, 78, 79, 80, 81, 82, 83, 84, 85, 86, 87], .none, .none, .none, .none, .none, .none, .join [(84, Kind.bool)] [70, 71, 72, 73, 74, 75, 76, 77, 78, 79, 80, 81, 82, 83, 84], .none, .none]

theorem vc_internal_bytealg_IndexRabinKarp_byte (s : Slc) (sep : Slc) (w : World) (K : Int → World → Prop) :
    vcFn C (Tryd.f89.body.getD .skip) Tryd.f89.results.toList Tryd.f89.ntmps an_internal_bytealg_IndexRabinKarp_byte [(Kind.int .i64)] [(.slice s.a s.n s.c), (.slice sep.a sep.n sep.c)] w (fun s w => K s.1 w) = sh_internal_bytealg_IndexRabinKarp_byte s sep w K := by kernel_rfl

theorem call_internal_bytealg_IndexRabinKarp_byte (s : Slc) (sep : Slc) {w : World} {K : Int → World → Prop} (h : sh_internal_bytealg_IndexRabinKarp_byte s sep w K) : c_internal_bytealg_IndexRabinKarp_byte s sep w K := by
  rw [← vc_internal_bytealg_IndexRabinKarp_byte] at h
  refine Calls.mono (calls_of_vc C.plain_ok C.mixed Tryd.func89 rfl h) ?_
  rintro e w' ⟨s, rfl, hK⟩
  exact ⟨s.1, rfl, hK⟩

/-- internal/strconv.small -/
def sh_internal_strconv_small (i : Int) (w : World) (K : ByteArray → World → Prop) : Prop :=
  cond (decide (i < (10 : Int)))
    (slS (⟨#[48, 49, 50, 51, 52, 53, 54, 55, 56, 57, 97, 98, 99, 100, 101, 102, 103, 104, 105, 106, 107, 108, 109, 110, 111, 112, 113, 114, 115, 116, 117, 118, 119, 120, 121, 122]⟩ : ByteArray) (some i) (some (IntKind.i64.wrap (i + (1 : Int)))) fun t8 =>
     K t8 w)
    (slS (⟨#[48, 48, 48, 49, 48, 50, 48, 51, 48, 52, 48, 53, 48, 54, 48, 55, 48, 56, 48, 57, 49, 48, 49, 49, 49, 50, 49, 51, 49, 52, 49, 53, 49, 54, 49, 55, 49, 56, 49, 57, 50, 48, 50, 49, 50, 50, 50, 51, 50, 52, 50, 53, 50, 54, 50, 55, 50, 56, 50, 57, 51, 48, 51, 49, 51, 50, 51, 51, 51, 52, 51, 53, 51, 54, 51, 55, 51, 56, 51, 57, 52, 48, 52, 49, 52, 50, 52, 51, 52, 52, 52, 53, 52, 54, 52, 55, 52, 56, 52, 57, 53, 48, 53, 49, 53, 50, 53, 51, 53, 52, 53, 53, 53, 54, 53, 55, 53, 56, 53, 57, 54, 48, 54, 49, 54, 50, 54, 51, 54, 52, 54, 53, 54, 54, 54, 55, 54, 56, 54, 57, 55, 48, 55, 49, 55, 50, 55, 51, 55, 52, 55, 53, 55, 54, 55, 55, 55, 56, 55, 57, 56, 48, 56, 49, 56, 50, 56, 51, 56, 52, 56, 53, 56, 54, 56, 55, 56, 56, 56, 57, 57, 48, 57, 49, 57, 50, 57, 51, 57, 52, 57, 53, 57, 54, 57, 55, 57, 56, 57, 57]⟩ : ByteArray) (some (IntKind.i64.wrap (i * (2 : Int)))) (some (IntKind.i64.wrap ((IntKind.i64.wrap (i * (2 : Int))) + (2 : Int)))) fun t14 =>
     K t14 w)

def an_internal_strconv_small : List Ann := [.none, .none, .none, .none, .none]

theorem vc_internal_strconv_small (i : Int) (w : World) (K : ByteArray → World → Prop) :
    vcFn C (Tryd.f90.body.getD .skip) Tryd.f90.results.toList Tryd.f90.ntmps an_internal_strconv_small [Kind.string] [(.int .i64 i)] w (fun s w => K s.1 w) = sh_internal_strconv_small i w K := by kernel_rfl

theorem call_internal_strconv_small (i : Int) {w : World} {K : ByteArray → World → Prop} (h : sh_internal_strconv_small i w K) : c_internal_strconv_small i w K := by
  rw [← vc_internal_strconv_small] at h
  refine Calls.mono (calls_of_vc C.plain_ok C.mixed Tryd.func90 rfl h) ?_
  rintro e w' ⟨s, rfl, hK⟩
  exact ⟨s.1, rfl, hK⟩

/-- unicode/utf8.RuneCountInString -/
def sh_unicode_utf8_RuneCountInString (s : ByteArray) (w : World) (K : Int → World → Prop) : Prop :=
  rangeK PG ty_string (.string s) w fun it w1 =>
  loopP (σ := Int × Unit) (fun I1 s_1 w2 =>
    nextS PG (.pointer (some it)) ty_unit w2
      (fun w3 =>
       K s_1.1 w3)
      (fun k v w4 =>
       I1 ((IntKind.i64.wrap (s_1.1 + (1 : Int))), ()) w4)) (0, ()) w1

def an_unicode_utf8_RuneCountInString : List Ann := [.none, .none, .none, .join [(2, (Kind.int .i64))] [2, 5, 6, 7, 8], .none, .none, .none]

theorem vc_unicode_utf8_RuneCountInString (s : ByteArray) (w : World) (K : Int → World → Prop) :
    vcFn C (Tryd.f95.body.getD .skip) Tryd.f95.results.toList Tryd.f95.ntmps an_unicode_utf8_RuneCountInString [(Kind.int .i64)] [(.string s)] w (fun s w => K s.1 w) = sh_unicode_utf8_RuneCountInString s w K := by kernel_rfl

theorem call_unicode_utf8_RuneCountInString (s : ByteArray) {w : World} {K : Int → World → Prop} (h : sh_unicode_utf8_RuneCountInString s w K) : c_unicode_utf8_RuneCountInString s w K := by
  rw [← vc_unicode_utf8_RuneCountInString] at h
  refine Calls.mono (calls_of_vc C.plain_ok C.mixed Tryd.func95 rfl h) ?_
  rintro e w' ⟨s, rfl, hK⟩
  exact ⟨s.1, rfl, hK⟩

/-- unicode/utf8.DecodeRuneInString -/
def sh_unicode_utf8_DecodeRuneInString (s : ByteArray) (w : World) (K : Int → Int → World → Prop) : Prop :=
  joinP (σ := Bool × Unit) (fun s_1 w1 =>
    cond s_1.1
      (ixS s 0 fun t12 =>
       K (IntKind.i32.wrap t12) 1 w1)
      (c_unicode_utf8_decodeRuneInStringSlow s w1 fun t16 t16_1 w2 =>
       K t16 t16_1 w2)) fun J1 =>
  cond (!(s.toList == (⟨#[]⟩ : ByteArray).toList))
    (ixS s 0 fun t8 =>
     J1 ((decide (t8 < (128 : Int))), ()) w)
    (J1 (false, ()) w)

def an_unicode_utf8_DecodeRuneInString : List Ann := [.none, .none, .join [(10, Kind.bool)] [4, 5, 6, 7, 8, 9, 10], .none]

theorem vc_unicode_utf8_DecodeRuneInString (s : ByteArray) (w : World) (K : Int → Int → World → Prop) :
    vcFn C (Tryd.f96.body.getD .skip) Tryd.f96.results.toList Tryd.f96.ntmps an_unicode_utf8_DecodeRuneInString [(Kind.int .i32), (Kind.int .i64)] [(.string s)] w (fun s w => K s.1 s.2.1 w) = sh_unicode_utf8_DecodeRuneInString s w K := by kernel_rfl

theorem call_unicode_utf8_DecodeRuneInString (s : ByteArray) {w : World} {K : Int → Int → World → Prop} (h : sh_unicode_utf8_DecodeRuneInString s w K) : c_unicode_utf8_DecodeRuneInString s w K := by
  rw [← vc_unicode_utf8_DecodeRuneInString] at h
  refine Calls.mono (calls_of_vc C.plain_ok C.mixed Tryd.func96 rfl h) ?_
  rintro e w' ⟨s, rfl, hK⟩
  exact ⟨s.1, s.2.1, rfl, hK⟩

/-- internal/stringslite.Index -/
def sh_internal_stringslite_Index (s : ByteArray) (substr : ByteArray) (w : World) (K : Int → World → Prop) : Prop :=
  joinP (σ := Unit) (fun s_1 w1 =>
    ixS substr 0 fun t49 =>
    ixS substr 1 fun t51 =>
    loopP (σ := Int × Int × Unit) (fun I2 s_2 w2 =>
      cond (decide (s_2.1 < (IntKind.i64.wrap ((IntKind.i64.wrap ((s.size : Int) - (substr.size : Int))) + (1 : Int)))))
        (joinP (σ := Int × Unit) (fun s_3 w3 =>
           joinP (σ := Unit) (fun s_4 w4 =>
             joinP (σ := Bool × Unit) (fun s_5 w5 =>
               cond s_5.1
                 (slS s (some (IntKind.i64.wrap (s_3.1 + (1 : Int)))) none fun t110 =>
                  callX PG 112 [(.string t110), (.string substr)] [(Kind.int .i64)] w5 fun (t112 : Int) w6 =>
                  cond (decide (t112 ≥ (0 : Int)))
                    (K (IntKind.i64.wrap (t112 + (IntKind.i64.wrap (s_3.1 + (1 : Int))))) w6)
                    (K (-1) w6))
                 (joinP (σ := Bool × Unit) (fun s_6 w7 =>
                    cond s_6.1
                      (slS s (some (IntKind.i64.wrap (s_3.1 + (1 : Int)))) none fun t135 =>
                       c_internal_bytealg_IndexRabinKarp_string t135 substr w7 fun t137 w8 =>
                       cond (decide (t137 < (0 : Int)))
                         (K (-1) w8)
                         (K (IntKind.i64.wrap ((IntKind.i64.wrap (s_3.1 + (1 : Int))) + t137)) w8))
                      (I2 ((IntKind.i64.wrap (s_3.1 + (1 : Int))), (IntKind.i64.wrap (s_2.2.1 + (1 : Int))), ()) w7)) fun J6 =>
                  ldI .i64 (⟨gl_0, 0, none⟩ : Addr) w5 fun t119 =>
                  cond (decide ((substr.size : Int) > t119))
                    (0 ≤ (4 : Int) ∧
                     cond (decide ((IntKind.i64.wrap (s_2.2.1 + (1 : Int))) ≥ (IntKind.i64.wrap ((4 : Int) + ((IntKind.i64.wrap (s_3.1 + (1 : Int))).fdiv (2 ^ (min (4 : Int).toNat IntKind.i64.bits)))))))
                       (J6 ((decide ((IntKind.i64.wrap (s_3.1 + (1 : Int))) < (IntKind.i64.wrap ((IntKind.i64.wrap ((s.size : Int) - (substr.size : Int))) + (1 : Int))))), ()) w5)
                       (J6 (false, ()) w5))
                    (J6 (false, ()) w5))) fun J5 =>
             ldI .i64 (⟨gl_0, 0, none⟩ : Addr) w4 fun t100 =>
             cond (decide ((substr.size : Int) ≤ t100))
               (c_internal_bytealg_Cutover (IntKind.i64.wrap (s_3.1 + (1 : Int))) w4 fun t105 w9 =>
                J5 ((decide ((IntKind.i64.wrap (s_2.2.1 + (1 : Int))) > t105)), ()) w9)
               (J5 (false, ()) w4)) fun J4 =>
           ixS s (IntKind.i64.wrap (s_3.1 + (1 : Int))) fun t81 =>
           cond (t81 == t51)
             (slS s (some s_3.1) (some (IntKind.i64.wrap (s_3.1 + (substr.size : Int)))) fun t90 =>
              cond (t90.toList == substr.toList)
                (K s_3.1 w3)
                (J4 (()) w3))
             (J4 (()) w3)) fun J3 =>
         ixS s s_2.1 fun t62 =>
         cond (t62 != t49)
           (slS s (some (IntKind.i64.wrap (s_2.1 + (1 : Int)))) (some (IntKind.i64.wrap ((IntKind.i64.wrap ((s.size : Int) - (substr.size : Int))) + (1 : Int)))) fun t69 =>
            c_internal_stringslite_IndexByte t69 t49 w2 fun t71 w10 =>
            cond (decide (t71 < (0 : Int)))
              (K (-1) w10)
              (J3 ((IntKind.i64.wrap (s_2.1 + (IntKind.i64.wrap (t71 + (1 : Int))))), ()) w10))
           (J3 (s_2.1, ()) w2))
        (K (-1) w2)) (0, 0, ()) w1) fun J1 =>
  joinP (σ := Bool × Unit) (fun s_7 w11 =>
    cond s_7.1
      (K 0 w11)
      (cond ((substr.size : Int) == (1 : Int))
         (ixS substr 0 fun t29 =>
          c_internal_stringslite_IndexByte s t29 w11 fun t30 w12 =>
          K t30 w12)
         (cond (decide ((substr.size : Int) ≥ (s.size : Int)))
            (K (-1) w11)
            (joinP (σ := Bool × Unit) (fun s_8 w13 =>
               cond s_8.1
                 (callX PG 112 [(.string s), (.string substr)] [(Kind.int .i64)] w13 fun (t47 : Int) w14 =>
                  K t47 w14)
                 (J1 (()) w13)) fun J8 =>
             ldI .i64 (⟨gl_0, 0, none⟩ : Addr) w11 fun t38 =>
             cond (decide ((substr.size : Int) ≤ t38))
               (J8 ((decide ((s.size : Int) ≤ (64 : Int))), ()) w11)
               (J8 (false, ()) w11))))) fun J7 =>
  cond ((substr.size : Int) == (0 : Int))
    (J7 (true, ()) w)
    (J7 ((substr.toList == s.toList), ()) w)

def an_internal_stringslite_Index : List Ann := [.none, .none, .join [] [4, 16, 17, 18, 19, 20, 21, 22, 23, 24, 25, 26, 27, 28, 29, 30, 31, 32, 33, 34, 35, 36, 37, 38, 39, 40, 41, 42, 43, 44, 45, 46, 47], .join [(16, Kind.bool)] [16, 17, 18, 19, 20, 21, 22, 23], .none, .none, .none, .none, .none, .join [(36, Kind.bool)] [36, 37, 38, 39, 40, 41, 42, 43, 44], .none, .none, .none, .none, .none, .none, .none, .join [(8, (Kind.int .i64)), (10, (Kind.int .i64))] [4, 8, 10, 11, 12, 13, 57, 58, 59, 60, 61, 62, 63, 64, 65, 66, 67, 68, 69, 70, 71, 72, 73, 74, 75, 76, 77, 78, 79, 80, 81, 82, 83, 84, 85, 86, 87, 88, 89, 90, 91, 92, 93, 94, 95, 96, 97, 98, 99, 100, 101, 102, 103, 104, 105, 106, 107, 108, 109, 110, 111, 112, 113, 114, 115, 116, 117, 118, 119, 120, 121, 122, 123, 124, 125, 126, 127, 128, 129, 130, 131, 132, 133, 134, 135, 136, 137, 138, 139, 140, 141, 142], .none, .none, .join [(8, (Kind.int .i64))] [4, 8, 11, 60, 61, 62, 63, 64, 65, 66, 67, 68, 69, 70, 71, 72, 73, 74, 75, 76, 77], .none, .none, .none, .none, .none, .join [] [4, 78, 79, 80, 81, 82, 83, 84, 85, 86, 87, 88, 89, 90, 91, 92, 93, 94], .none, .none, .none, .none, .join [(107, Kind.bool)] [99, 100, 101, 102, 103, 104, 105, 106, 107], .none, .none, .none, .none, .none, .join [(132, Kind.bool)] [118, 119, 120, 121, 122, 123, 124, 125, 126, 127, 128, 129, 130, 131, 132], .none, .none, .none, .none, .none, .none]

theorem vc_internal_stringslite_Index (s : ByteArray) (substr : ByteArray) (w : World) (K : Int → World → Prop) :
    vcFn C (Tryd.f98.body.getD .skip) Tryd.f98.results.toList Tryd.f98.ntmps an_internal_stringslite_Index [(Kind.int .i64)] [(.string s), (.string substr)] w (fun s w => K s.1 w) = sh_internal_stringslite_Index s substr w K := by kernel_rfl

theorem call_internal_stringslite_Index (s : ByteArray) (substr : ByteArray) {w : World} {K : Int → World → Prop} (h : sh_internal_stringslite_Index s substr w K) : c_internal_stringslite_Index s substr w K := by
  rw [← vc_internal_stringslite_Index] at h
  refine Calls.mono (calls_of_vc C.plain_ok C.mixed Tryd.func98 rfl h) ?_
  rintro e w' ⟨s, rfl, hK⟩
  exact ⟨s.1, rfl, hK⟩

/-- internal/stringslite.CutPrefix -/
def sh_internal_stringslite_CutPrefix (s : ByteArray) (prefix_ : ByteArray) (w : World) (K : ByteArray → Bool → World → Prop) : Prop :=
  c_internal_stringslite_HasPrefix s prefix_ w fun t8 w1 =>
  cond (!t8)
    (K s false w1)
    (slS s (some (prefix_.size : Int)) none fun t14 =>
     K t14 true w1)

def an_internal_stringslite_CutPrefix : List Ann := [.none, .none, .none, .none, .none]

theorem vc_internal_stringslite_CutPrefix (s : ByteArray) (prefix_ : ByteArray) (w : World) (K : ByteArray → Bool → World → Prop) :
    vcFn C (Tryd.f99.body.getD .skip) Tryd.f99.results.toList Tryd.f99.ntmps an_internal_stringslite_CutPrefix [Kind.string, Kind.bool] [(.string s), (.string prefix_)] w (fun s w => K s.1 s.2.1 w) = sh_internal_stringslite_CutPrefix s prefix_ w K := by kernel_rfl

theorem call_internal_stringslite_CutPrefix (s : ByteArray) (prefix_ : ByteArray) {w : World} {K : ByteArray → Bool → World → Prop} (h : sh_internal_stringslite_CutPrefix s prefix_ w K) : c_internal_stringslite_CutPrefix s prefix_ w K := by
  rw [← vc_internal_stringslite_CutPrefix] at h
  refine Calls.mono (calls_of_vc C.plain_ok C.mixed Tryd.func99 rfl h) ?_
  rintro e w' ⟨s, rfl, hK⟩
  exact ⟨s.1, s.2.1, rfl, hK⟩

/-- strings.splitSeq$1 -/
def sh_strings_splitSeq_1 (yield : Value) (c0 : Addr) (c1 : Addr) (c2 : Addr) (w : World) (K : World → Prop) : Prop :=
  ldStr c0 w fun t9 =>
  cond ((t9.size : Int) == (0 : Int))
    (loopP (σ := Unit) (fun I1 s w1 =>
       ldStr c1 w1 fun t12 =>
       cond (decide ((t12.size : Int) > (0 : Int)))
         (ldStr c1 w1 fun t16 =>
          c_unicode_utf8_DecodeRuneInString t16 w1 fun t17 t17_1 w2 =>
          ldStr c1 w2 fun t21 =>
          slS t21 none (some t17_1) fun t23 =>
          callR C yield [(.string t23)] [Kind.bool] w2 fun (t24 : Bool) w3 =>
          cond (!t24)
            (K w3)
            (ldStr c1 w3 fun t26 =>
             slS t26 (some t17_1) none fun t28 =>
             stK c1 [(.string t28)] w3 fun w4 =>
             I1 (()) w4))
         (K w1)) (()) w)
    (loopP (σ := Unit) (fun I2 s_1 w5 =>
       ldStr c1 w5 fun t29 =>
       ldStr c0 w5 fun t30 =>
       c_strings_Index t29 t30 w5 fun t31 w6 =>
       cond (decide (t31 < (0 : Int)))
         (ldStr c1 w6 fun t50 =>
          callR C yield [(.string t50)] [Kind.bool] w6 fun (t51 : Bool) w7 =>
          K w7)
         (ldStr c1 w6 fun t34 =>
          ldI .i64 c2 w6 fun t36 =>
          slS t34 none (some (IntKind.i64.wrap (t31 + t36))) fun t38 =>
          callR C yield [(.string t38)] [Kind.bool] w6 fun (t41 : Bool) w8 =>
          cond (!t41)
            (K w8)
            (ldStr c1 w8 fun t43 =>
             ldStr c0 w8 fun t45 =>
             slS t43 (some (IntKind.i64.wrap (t31 + (t45.size : Int)))) none fun t48 =>
             stK c1 [(.string t48)] w8 fun w9 =>
             I2 (()) w9))) (()) w)

def an_strings_splitSeq_1 : List Ann := [.none, .none, .none, .join [] [5, 6, 12, 13, 14, 15, 16, 17, 18, 19, 20, 21, 22, 23, 24, 25, 26, 27, 28], .none, .none, .none, .none, .none, .none, .join [] [7, 8, 29, 30, 31, 32, 33, 34, 35, 36, 37, 38, 39, 40, 41, 42, 43, 44, 45, 46, 47, 48], .none, .none, .none, .none, .none, .none]

theorem vc_strings_splitSeq_1 (yield : Value) (c0 : Addr) (c1 : Addr) (c2 : Addr) (w : World) (K : World → Prop) :
    vcFn C (Tryd.f100.body.getD .skip) Tryd.f100.results.toList Tryd.f100.ntmps an_strings_splitSeq_1 [] [yield, (.pointer (some c0)), (.pointer (some c1)), (.pointer (some c2))] w (fun s w => K w) = sh_strings_splitSeq_1 yield c0 c1 c2 w K := by kernel_rfl

theorem call_strings_splitSeq_1 (yield : Value) (c0 : Addr) (c1 : Addr) (c2 : Addr) {w : World} {K : World → Prop} (h : sh_strings_splitSeq_1 yield c0 c1 c2 w K) : c_strings_splitSeq_1 yield c0 c1 c2 w K := by
  rw [← vc_strings_splitSeq_1] at h
  refine Calls.mono (calls_of_vc C.plain_ok C.mixed Tryd.func100 rfl h) ?_
  rintro e w' ⟨s, rfl, hK⟩
  exact ⟨rfl, hK⟩

/-- internal/stringslite.Cut -/
def sh_internal_stringslite_Cut (s : ByteArray) (sep : ByteArray) (w : World) (K : ByteArray → ByteArray → Bool → World → Prop) : Prop :=
  c_internal_stringslite_Index s sep w fun t10 w1 =>
  cond (decide (t10 ≥ (0 : Int)))
    (slS s none (some t10) fun t15 =>
     slS s (some (IntKind.i64.wrap (t10 + (sep.size : Int)))) none fun t21 =>
     K t15 t21 true w1.drew)
    (K s (⟨#[]⟩ : ByteArray) false w1)

def an_internal_stringslite_Cut : List Ann := [.none, .none, .none, .none, .none, .none]

theorem vc_internal_stringslite_Cut (s : ByteArray) (sep : ByteArray) (w : World) (K : ByteArray → ByteArray → Bool → World → Prop) :
    vcFn C (Tryd.f101.body.getD .skip) Tryd.f101.results.toList Tryd.f101.ntmps an_internal_stringslite_Cut [Kind.string, Kind.string, Kind.bool] [(.string s), (.string sep)] w (fun s w => K s.1 s.2.1 s.2.2.1 w) = sh_internal_stringslite_Cut s sep w K := by kernel_rfl

theorem call_internal_stringslite_Cut (s : ByteArray) (sep : ByteArray) {w : World} {K : ByteArray → ByteArray → Bool → World → Prop} (h : sh_internal_stringslite_Cut s sep w K) : c_internal_stringslite_Cut s sep w K := by
  rw [← vc_internal_stringslite_Cut] at h
  refine Calls.mono (calls_of_vc C.plain_ok C.mixed Tryd.func101 rfl h) ?_
  rintro e w' ⟨s, rfl, hK⟩
  exact ⟨s.1, s.2.1, s.2.2.1, rfl, hK⟩

/-- strings.TrimPrefix -/
def sh_strings_TrimPrefix (s : ByteArray) (prefix_ : ByteArray) (w : World) (K : ByteArray → World → Prop) : Prop :=
  c_internal_stringslite_TrimPrefix s prefix_ w fun t7 w1 =>
  K t7 w1

def an_strings_TrimPrefix : List Ann := [.none, .none]

theorem vc_strings_TrimPrefix (s : ByteArray) (prefix_ : ByteArray) (w : World) (K : ByteArray → World → Prop) :
    vcFn C (Tryd.f103.body.getD .skip) Tryd.f103.results.toList Tryd.f103.ntmps an_strings_TrimPrefix [Kind.string] [(.string s), (.string prefix_)] w (fun s w => K s.1 w) = sh_strings_TrimPrefix s prefix_ w K := by kernel_rfl

theorem call_strings_TrimPrefix (s : ByteArray) (prefix_ : ByteArray) {w : World} {K : ByteArray → World → Prop} (h : sh_strings_TrimPrefix s prefix_ w K) : c_strings_TrimPrefix s prefix_ w K := by
  rw [← vc_strings_TrimPrefix] at h
  refine Calls.mono (calls_of_vc C.plain_ok C.mixed Tryd.func103 rfl h) ?_
  rintro e w' ⟨s, rfl, hK⟩
  exact ⟨s.1, rfl, hK⟩

/-- internal/bytealg.hashStr[[]byte] -/
def sh_internal_bytealg_hashStr_byte (sep : Slc) (w : World) (K : Int → Int → World → Prop) : Prop :=
  loopP (σ := Int × Int × Unit) (fun I1 s w1 =>
    cond (decide (s.2.1 < ((sep.n : Nat) : Int)))
      (ixK sep s.2.1 1 fun t19 =>
       ldI .u8 t19 w1 fun t20 =>
       I1 ((IntKind.u32.wrap ((IntKind.u32.wrap (s.1 * (16777619 : Int))) + (IntKind.u32.wrap t20))), (IntKind.i64.wrap (s.2.1 + (1 : Int))), ()) w1)
      (loopP (σ := Int × Int × Int × Unit) (fun I2 s_1 w2 =>
         cond (decide (s_1.2.2.1 > (0 : Int)))
           (joinP (σ := Int × Unit) (fun s_2 w3 =>
              0 ≤ (1 : Int) ∧
              I2 (s_2.1, (IntKind.u32.wrap (s_1.2.1 * s_1.2.1)), (s_1.2.2.1.fdiv (2 ^ (min (1 : Int).toNat IntKind.i64.bits))), ()) w3) fun J3 =>
            cond ((bitsR .and .i64 s_1.2.2.1 (1 : Int)) != (0 : Int))
              (J3 ((IntKind.u32.wrap (s_1.1 * s_1.2.1)), ()) w2)
              (J3 (s_1.1, ()) w2))
           (K s.1 s_1.1 w2)) (1, 16777619, ((sep.n : Nat) : Int), ()) w1)) (0, 0, ()) w

def an_internal_bytealg_hashStr_byte : List Ann := [.none, .none, .none, .none, .join [(4, (Kind.int .u32)), (5, (Kind.int .i64))] [4, 5, 9, 10, 11, 12, 13, 14, 15, 16, 17, 18, 19, 20, 21, 22], .none, .none, .none, .none, .none, .none, .join [(6, (Kind.int .u32)), (7, (Kind.int .u32)), (8, (Kind.int .i64))] [6, 7, 8, 25, 26, 27, 28, 29, 30, 31, 32, 33, 34, 35, 36, 37], .none, .none, .none, .join [(6, (Kind.int .u32))] [6, 29, 30, 31, 32, 33, 34], .none, .none]

theorem vc_internal_bytealg_hashStr_byte (sep : Slc) (w : World) (K : Int → Int → World → Prop) :
    vcFn C (Tryd.f105.body.getD .skip) Tryd.f105.results.toList Tryd.f105.ntmps an_internal_bytealg_hashStr_byte [(Kind.int .u32), (Kind.int .u32)] [(.slice sep.a sep.n sep.c)] w (fun s w => K s.1 s.2.1 w) = sh_internal_bytealg_hashStr_byte sep w K := by kernel_rfl

theorem call_internal_bytealg_hashStr_byte (sep : Slc) {w : World} {K : Int → Int → World → Prop} (h : sh_internal_bytealg_hashStr_byte sep w K) : c_internal_bytealg_hashStr_byte sep w K := by
  rw [← vc_internal_bytealg_hashStr_byte] at h
  refine Calls.mono (calls_of_vc C.plain_ok C.mixed Tryd.func105 rfl h) ?_
  rintro e w' ⟨s, rfl, hK⟩
  exact ⟨s.1, s.2.1, rfl, hK⟩

/-- internal/strconv.log10Pow2 -/
def sh_internal_strconv_log10Pow2 (x : Int) (w : World) (K : Int → World → Prop) : Prop :=
  0 ≤ (18 : Int) ∧
  K ((IntKind.i64.wrap (x * (78913 : Int))).fdiv (2 ^ (min (18 : Int).toNat IntKind.i64.bits))) w

def an_internal_strconv_log10Pow2 : List Ann := [.none, .none]

theorem vc_internal_strconv_log10Pow2 (x : Int) (w : World) (K : Int → World → Prop) :
    vcFn C (Tryd.f106.body.getD .skip) Tryd.f106.results.toList Tryd.f106.ntmps an_internal_strconv_log10Pow2 [(Kind.int .i64)] [(.int .i64 x)] w (fun s w => K s.1 w) = sh_internal_strconv_log10Pow2 x w K := by kernel_rfl

theorem call_internal_strconv_log10Pow2 (x : Int) {w : World} {K : Int → World → Prop} (h : sh_internal_strconv_log10Pow2 x w K) : c_internal_strconv_log10Pow2 x w K := by
  rw [← vc_internal_strconv_log10Pow2] at h
  refine Calls.mono (calls_of_vc C.plain_ok C.mixed Tryd.func106 rfl h) ?_
  rintro e w' ⟨s, rfl, hK⟩
  exact ⟨s.1, rfl, hK⟩

/-- math/bits.Len64 -/
def sh_math_bits_Len64 (x : Int) (w : World) (K : Int → World → Prop) : Prop :=
  joinP (σ := Int × Int × Unit) (fun s w1 =>
    joinP (σ := Int × Int × Unit) (fun s_1 w2 =>
      joinP (σ := Int × Int × Unit) (fun s_2 w3 =>
        ixS (⟨#[0, 1, 2, 2, 3, 3, 3, 3, 4, 4, 4, 4, 4, 4, 4, 4, 5, 5, 5, 5, 5, 5, 5, 5, 5, 5, 5, 5, 5, 5, 5, 5, 6, 6, 6, 6, 6, 6, 6, 6, 6, 6, 6, 6, 6, 6, 6, 6, 6, 6, 6, 6, 6, 6, 6, 6, 6, 6, 6, 6, 6, 6, 6, 6, 7, 7, 7, 7, 7, 7, 7, 7, 7, 7, 7, 7, 7, 7, 7, 7, 7, 7, 7, 7, 7, 7, 7, 7, 7, 7, 7, 7, 7, 7, 7, 7, 7, 7, 7, 7, 7, 7, 7, 7, 7, 7, 7, 7, 7, 7, 7, 7, 7, 7, 7, 7, 7, 7, 7, 7, 7, 7, 7, 7, 7, 7, 7, 7, 8, 8, 8, 8, 8, 8, 8, 8, 8, 8, 8, 8, 8, 8, 8, 8, 8, 8, 8, 8, 8, 8, 8, 8, 8, 8, 8, 8, 8, 8, 8, 8, 8, 8, 8, 8, 8, 8, 8, 8, 8, 8, 8, 8, 8, 8, 8, 8, 8, 8, 8, 8, 8, 8, 8, 8, 8, 8, 8, 8, 8, 8, 8, 8, 8, 8, 8, 8, 8, 8, 8, 8, 8, 8, 8, 8, 8, 8, 8, 8, 8, 8, 8, 8, 8, 8, 8, 8, 8, 8, 8, 8, 8, 8, 8, 8, 8, 8, 8, 8, 8, 8, 8, 8, 8, 8, 8, 8, 8, 8, 8, 8, 8, 8, 8, 8, 8, 8, 8, 8, 8, 8, 8, 8, 8, 8, 8, 8]⟩ : ByteArray) (IntKind.u8.wrap s_2.1) fun t22 =>
        K (IntKind.i64.wrap (s_2.2.1 + (IntKind.i64.wrap t22))) w3) fun J3 =>
      cond (decide (s_1.1 ≥ (256 : Int)))
        (0 ≤ (8 : Int) ∧
         J3 ((s_1.1.fdiv (2 ^ (min (8 : Int).toNat IntKind.u64.bits))), (IntKind.i64.wrap (s_1.2.1 + (8 : Int))), ()) w2)
        (J3 (s_1.1, s_1.2.1, ()) w2)) fun J2 =>
    cond (decide (s.1 ≥ (65536 : Int)))
      (0 ≤ (16 : Int) ∧
       J2 ((s.1.fdiv (2 ^ (min (16 : Int).toNat IntKind.u64.bits))), (IntKind.i64.wrap (s.2.1 + (16 : Int))), ()) w1)
      (J2 (s.1, s.2.1, ()) w1)) fun J1 =>
  cond (decide (x ≥ (4294967296 : Int)))
    (0 ≤ (32 : Int) ∧
     J1 ((x.fdiv (2 ^ (min (32 : Int).toNat IntKind.u64.bits))), 32, ()) w)
    (J1 (x, 0, ()) w)

def an_math_bits_Len64 : List Ann := [.none, .join [(0, (Kind.int .u64)), (2, (Kind.int .i64))] [0, 2, 3, 4, 5, 6], .none, .none, .join [(0, (Kind.int .u64)), (2, (Kind.int .i64))] [0, 2, 7, 8, 9, 10, 11, 12], .none, .none, .join [(0, (Kind.int .u64)), (2, (Kind.int .i64))] [0, 2, 13, 14, 15, 16, 17, 18], .none, .none, .none]

theorem vc_math_bits_Len64 (x : Int) (w : World) (K : Int → World → Prop) :
    vcFn C (Tryd.f107.body.getD .skip) Tryd.f107.results.toList Tryd.f107.ntmps an_math_bits_Len64 [(Kind.int .i64)] [(.int .u64 x)] w (fun s w => K s.1 w) = sh_math_bits_Len64 x w K := by kernel_rfl

theorem call_math_bits_Len64 (x : Int) {w : World} {K : Int → World → Prop} (h : sh_math_bits_Len64 x w K) : c_math_bits_Len64 x w K := by
  rw [← vc_math_bits_Len64] at h
  refine Calls.mono (calls_of_vc C.plain_ok C.mixed Tryd.func107 rfl h) ?_
  rintro e w' ⟨s, rfl, hK⟩
  exact ⟨s.1, rfl, hK⟩

/-- internal/strconv.bool2[int] -/
def sh_internal_strconv_bool2_int (b : Bool) (w : World) (K : Int → World → Prop) : Prop :=
  cond b
    (K 1 w)
    (K 0 w)

def an_internal_strconv_bool2_int : List Ann := [.none, .none, .none, .none, .none]

theorem vc_internal_strconv_bool2_int (b : Bool) (w : World) (K : Int → World → Prop) :
    vcFn C (Tryd.f108.body.getD .skip) Tryd.f108.results.toList Tryd.f108.ntmps an_internal_strconv_bool2_int [(Kind.int .i64)] [(.bool b)] w (fun s w => K s.1 w) = sh_internal_strconv_bool2_int b w K := by kernel_rfl

theorem call_internal_strconv_bool2_int (b : Bool) {w : World} {K : Int → World → Prop} (h : sh_internal_strconv_bool2_int b w K) : c_internal_strconv_bool2_int b w K := by
  rw [← vc_internal_strconv_bool2_int] at h
  refine Calls.mono (calls_of_vc C.plain_ok C.mixed Tryd.func108 rfl h) ?_
  rintro e w' ⟨s, rfl, hK⟩
  exact ⟨s.1, rfl, hK⟩

/-- internal/strconv.isPowerOfTwo -/
def sh_internal_strconv_isPowerOfTwo (x : Int) (w : World) (K : Bool → World → Prop) : Prop :=
  K ((bitsR .and .i64 x (IntKind.i64.wrap (x - (1 : Int)))) == (0 : Int)) w

def an_internal_strconv_isPowerOfTwo : List Ann := [.none, .none]

theorem vc_internal_strconv_isPowerOfTwo (x : Int) (w : World) (K : Bool → World → Prop) :
    vcFn C (Tryd.f109.body.getD .skip) Tryd.f109.results.toList Tryd.f109.ntmps an_internal_strconv_isPowerOfTwo [Kind.bool] [(.int .i64 x)] w (fun s w => K s.1 w) = sh_internal_strconv_isPowerOfTwo x w K := by kernel_rfl

theorem call_internal_strconv_isPowerOfTwo (x : Int) {w : World} {K : Bool → World → Prop} (h : sh_internal_strconv_isPowerOfTwo x w K) : c_internal_strconv_isPowerOfTwo x w K := by
  rw [← vc_internal_strconv_isPowerOfTwo] at h
  refine Calls.mono (calls_of_vc C.plain_ok C.mixed Tryd.func109 rfl h) ?_
  rintro e w' ⟨s, rfl, hK⟩
  exact ⟨s.1, rfl, hK⟩

/-- math/bits.TrailingZeros -/
def sh_math_bits_TrailingZeros (x : Int) (w : World) (K : Int → World → Prop) : Prop :=
  c_math_bits_TrailingZeros64 x w fun t7 w1 =>
  K t7 w1

def an_math_bits_TrailingZeros : List Ann := [.none, .none, .none, .none]

theorem vc_math_bits_TrailingZeros (x : Int) (w : World) (K : Int → World → Prop) :
    vcFn C (Tryd.f110.body.getD .skip) Tryd.f110.results.toList Tryd.f110.ntmps an_math_bits_TrailingZeros [(Kind.int .i64)] [(.int .u64 x)] w (fun s w => K s.1 w) = sh_math_bits_TrailingZeros x w K := by kernel_rfl

theorem call_math_bits_TrailingZeros (x : Int) {w : World} {K : Int → World → Prop} (h : sh_math_bits_TrailingZeros x w K) : c_math_bits_TrailingZeros x w K := by
  rw [← vc_math_bits_TrailingZeros] at h
  refine Calls.mono (calls_of_vc C.plain_ok C.mixed Tryd.func110 rfl h) ?_
  rintro e w' ⟨s, rfl, hK⟩
  exact ⟨s.1, rfl, hK⟩

/-- unicode/utf8.decodeRuneInStringSlow -/
def sh_unicode_utf8_decodeRuneInStringSlow (s : ByteArray) (w : World) (K : Int → Int → World → Prop) : Prop :=
  cond (decide ((s.size : Int) < (1 : Int)))
    (K 65533 0 w)
    (ixS s 0 fun t18 =>
     ixA (⟨gl_2, 0, none⟩ : Addr) 256 t18 1 fun t20 =>
     ldI .u8 t20 w fun t21 =>
     cond (decide (t21 ≥ (240 : Int)))
       (0 ≤ (31 : Int) ∧
        0 ≤ (31 : Int) ∧
        ixS s 0 fun t29 =>
        K (bitsR .or .i32 (bitsR .andNot .i32 (IntKind.i32.wrap t29) ((IntKind.i32.wrap ((IntKind.i32.wrap t21) * 2 ^ (min (31 : Int).toNat IntKind.i32.bits))).fdiv (2 ^ (min (31 : Int).toNat IntKind.i32.bits)))) (bitsR .and .i32 (65533 : Int) ((IntKind.i32.wrap ((IntKind.i32.wrap t21) * 2 ^ (min (31 : Int).toNat IntKind.i32.bits))).fdiv (2 ^ (min (31 : Int).toNat IntKind.i32.bits))))) 1 w)
       (0 ≤ (4 : Int) ∧
        ixA (⟨gl_3, 0, none⟩ : Addr) 16 (t21.fdiv (2 ^ (min (4 : Int).toNat IntKind.u8.bits))) 2 fun t41 =>
        ldS T_utf8_acceptRange.rep t41 w fun t42 =>
        nw ty_utf8_acceptRange [(.int .u8 0), (.int .u8 0)] w fun accept w1 =>
        stK accept (T_utf8_acceptRange.rep.cells t42) w1 fun w2 =>
        cond (decide ((s.size : Int) < (IntKind.i64.wrap (bitsR .and .u8 t21 (7 : Int)))))
          (K 65533 1 w2)
          (ixS s 1 fun t47 =>
           joinP (σ := Unit) (fun s_1 w3 =>
             cond (decide ((IntKind.i64.wrap (bitsR .and .u8 t21 (7 : Int))) ≤ (2 : Int)))
               (0 ≤ (6 : Int) ∧
                K (bitsR .or .i32 (IntKind.i32.wrap ((IntKind.i32.wrap (bitsR .and .u8 t18 (31 : Int))) * 2 ^ (min (6 : Int).toNat IntKind.i32.bits))) (IntKind.i32.wrap (bitsR .and .u8 t47 (63 : Int)))) 2 w3)
               (ixS s 2 fun t69 =>
                joinP (σ := Unit) (fun s_2 w4 =>
                  cond (decide ((IntKind.i64.wrap (bitsR .and .u8 t21 (7 : Int))) ≤ (3 : Int)))
                    (0 ≤ (12 : Int) ∧
                     0 ≤ (6 : Int) ∧
                     K (bitsR .or .i32 (bitsR .or .i32 (IntKind.i32.wrap ((IntKind.i32.wrap (bitsR .and .u8 t18 (15 : Int))) * 2 ^ (min (12 : Int).toNat IntKind.i32.bits))) (IntKind.i32.wrap ((IntKind.i32.wrap (bitsR .and .u8 t47 (63 : Int))) * 2 ^ (min (6 : Int).toNat IntKind.i32.bits)))) (IntKind.i32.wrap (bitsR .and .u8 t69 (63 : Int)))) 3 w4)
                    (ixS s 3 fun t92 =>
                     joinP (σ := Unit) (fun s_3 w5 =>
                       0 ≤ (18 : Int) ∧
                       0 ≤ (12 : Int) ∧
                       0 ≤ (6 : Int) ∧
                       K (bitsR .or .i32 (bitsR .or .i32 (bitsR .or .i32 (IntKind.i32.wrap ((IntKind.i32.wrap (bitsR .and .u8 t18 (7 : Int))) * 2 ^ (min (18 : Int).toNat IntKind.i32.bits))) (IntKind.i32.wrap ((IntKind.i32.wrap (bitsR .and .u8 t47 (63 : Int))) * 2 ^ (min (12 : Int).toNat IntKind.i32.bits)))) (IntKind.i32.wrap ((IntKind.i32.wrap (bitsR .and .u8 t69 (63 : Int))) * 2 ^ (min (6 : Int).toNat IntKind.i32.bits)))) (IntKind.i32.wrap (bitsR .and .u8 t92 (63 : Int)))) 4 w5) fun J3 =>
                     cond (decide (t92 < (128 : Int)))
                       (K 65533 1 w4)
                       (cond (decide ((191 : Int) < t92))
                          (K 65533 1 w4)
                          (J3 (()) w4)))) fun J2 =>
                cond (decide (t69 < (128 : Int)))
                  (K 65533 1 w3)
                  (cond (decide ((191 : Int) < t69))
                     (K 65533 1 w3)
                     (J2 (()) w3)))) fun J1 =>
           ldI .u8 (accept.add 0) w2 fun t50 =>
           cond (decide (t47 < t50))
             (K 65533 1 w2)
             (ldI .u8 (accept.add 1) w2 fun t54 =>
              cond (decide (t54 < t47))
                (K 65533 1 w2)
                (J1 (()) w2)))))

def an_unicode_utf8_decodeRuneInStringSlow : List Ann := [.none, .none, .none, .none, .none, .none, .none, .none, .none, .none, .none, .none, .none, .none, .none, .none, .none, .join [] [2, 3, 48, 49, 50, 51, 52, 53, 54, 55, 56, 57], .none, .none, .none, .none, .none, .none, .join [] [2, 3, 70, 71, 72, 73, 74, 75], .none, .none, .none, .none, .none, .none, .join [] [2, 3, 93, 94, 95, 96, 97, 98], .none, .none, .none]

theorem vc_unicode_utf8_decodeRuneInStringSlow (s : ByteArray) (w : World) (K : Int → Int → World → Prop) :
    vcFn C (Tryd.f111.body.getD .skip) Tryd.f111.results.toList Tryd.f111.ntmps an_unicode_utf8_decodeRuneInStringSlow [(Kind.int .i32), (Kind.int .i64)] [(.string s)] w (fun s w => K s.1 s.2.1 w) = sh_unicode_utf8_decodeRuneInStringSlow s w K := by kernel_rfl

theorem call_unicode_utf8_decodeRuneInStringSlow (s : ByteArray) {w : World} {K : Int → Int → World → Prop} (h : sh_unicode_utf8_decodeRuneInStringSlow s w K) : c_unicode_utf8_decodeRuneInStringSlow s w K := by
  rw [← vc_unicode_utf8_decodeRuneInStringSlow] at h
  refine Calls.mono (calls_of_vc C.plain_ok C.mixed Tryd.func111 rfl h) ?_
  rintro e w' ⟨s, rfl, hK⟩
  exact ⟨s.1, s.2.1, rfl, hK⟩

/-- internal/bytealg.IndexRabinKarp[string] -/
def sh_internal_bytealg_IndexRabinKarp_string (s : ByteArray) (sep : ByteArray) (w : World) (K : Int → World → Prop) : Prop :=
  c_internal_bytealg_hashStr_string sep w fun t13 t13_1 w1 =>
  loopP (σ := Int × Int × Unit) (fun I1 s_1 w2 =>
    cond (decide (s_1.2.1 < (sep.size : Int)))
      (ixS s s_1.2.1 fun t27 =>
       I1 ((IntKind.u32.wrap ((IntKind.u32.wrap (s_1.1 * (16777619 : Int))) + (IntKind.u32.wrap t27))), (IntKind.i64.wrap (s_1.2.1 + (1 : Int))), ()) w2)
      (joinP (σ := Unit) (fun s_2 w3 =>
         loopP (σ := Int × Int × Unit) (fun I3 s_3 w4 =>
           cond (decide (s_3.2.1 < (s.size : Int)))
             (ixS s s_3.2.1 fun t50 =>
              ixS s (IntKind.i64.wrap (s_3.2.1 - (sep.size : Int))) fun t59 =>
              joinP (σ := Bool × Unit) (fun s_4 w5 =>
                cond s_4.1
                  (K (IntKind.i64.wrap ((IntKind.i64.wrap (s_3.2.1 + (1 : Int))) - (sep.size : Int))) w5)
                  (I3 ((IntKind.u32.wrap ((IntKind.u32.wrap ((IntKind.u32.wrap (s_3.1 * (16777619 : Int))) + (IntKind.u32.wrap t50))) - (IntKind.u32.wrap (t13_1 * (IntKind.u32.wrap t59))))), (IntKind.i64.wrap (s_3.2.1 + (1 : Int))), ()) w5)) fun J4 =>
              cond ((IntKind.u32.wrap ((IntKind.u32.wrap ((IntKind.u32.wrap (s_3.1 * (16777619 : Int))) + (IntKind.u32.wrap t50))) - (IntKind.u32.wrap (t13_1 * (IntKind.u32.wrap t59))))) == t13)
                (slS s (some (IntKind.i64.wrap ((IntKind.i64.wrap (s_3.2.1 + (1 : Int))) - (sep.size : Int)))) (some (IntKind.i64.wrap (s_3.2.1 + (1 : Int)))) fun t74 =>
                 J4 ((t74.toList == sep.toList), ()) w4)
                (J4 (false, ()) w4))
             (K (-1) w4)) (s_1.1, (sep.size : Int), ()) w3) fun J2 =>
       cond (s_1.1 == t13)
         (slS s none (some (sep.size : Int)) fun t36 =>
          cond (t36.toList == sep.toList)
            (K 0 w2)
            (J2 (()) w2))
         (J2 (()) w2))) (0, 0, ()) w1

def an_internal_bytealg_IndexRabinKarp_string : List Ann := [.none, .none, .none, .none, .none, .none, .join [(8, (Kind.int .u32)), (9, (Kind.int .i64))] [8, 9, 18, 19, 20, 21, 22, 23, 24, 25, 26, 27, 28, 29], .none, .none, .none, .join [] [4, 30, 31, 32, 33, 34, 35, 36, 37, 38, 39], .none, .none, .none, .none, .join [(8, (Kind.int .u32)), (10, (Kind.int .i64))] [4, 8, 10, 41, 42, 43, 44, 45, 46, 47, 48, 49, 50, 51, 52, 53, 54, 55, 56, 57, 58, 59, 60, 61, 62, 63, 64, 65, 66, 67, 68, 69, 70, 71, 72, 73, 74, 75, 76, 77, 78, 79, 80], .none, .none, .none, .none, .none, .none, .join [(77, Kind.bool)] [65, 66, 67, 68, 69, 70, 71, 72, 73, 74, 75, 76, 77], .none, .none]

theorem vc_internal_bytealg_IndexRabinKarp_string (s : ByteArray) (sep : ByteArray) (w : World) (K : Int → World → Prop) :
    vcFn C (Tryd.f113.body.getD .skip) Tryd.f113.results.toList Tryd.f113.ntmps an_internal_bytealg_IndexRabinKarp_string [(Kind.int .i64)] [(.string s), (.string sep)] w (fun s w => K s.1 w) = sh_internal_bytealg_IndexRabinKarp_string s sep w K := by kernel_rfl

theorem call_internal_bytealg_IndexRabinKarp_string (s : ByteArray) (sep : ByteArray) {w : World} {K : Int → World → Prop} (h : sh_internal_bytealg_IndexRabinKarp_string s sep w K) : c_internal_bytealg_IndexRabinKarp_string s sep w K := by
  rw [← vc_internal_bytealg_IndexRabinKarp_string] at h
  refine Calls.mono (calls_of_vc C.plain_ok C.mixed Tryd.func113 rfl h) ?_
  rintro e w' ⟨s, rfl, hK⟩
  exact ⟨s.1, rfl, hK⟩

/-- internal/stringslite.HasPrefix -/
def sh_internal_stringslite_HasPrefix (s : ByteArray) (prefix_ : ByteArray) (w : World) (K : Bool → World → Prop) : Prop :=
  cond (decide ((s.size : Int) ≥ (prefix_.size : Int)))
    (slS s none (some (prefix_.size : Int)) fun t14 =>
     K (t14.toList == prefix_.toList) w)
    (K false w)

def an_internal_stringslite_HasPrefix : List Ann := [.none, .none]

theorem vc_internal_stringslite_HasPrefix (s : ByteArray) (prefix_ : ByteArray) (w : World) (K : Bool → World → Prop) :
    vcFn C (Tryd.f114.body.getD .skip) Tryd.f114.results.toList Tryd.f114.ntmps an_internal_stringslite_HasPrefix [Kind.bool] [(.string s), (.string prefix_)] w (fun s w => K s.1 w) = sh_internal_stringslite_HasPrefix s prefix_ w K := by kernel_rfl

theorem call_internal_stringslite_HasPrefix (s : ByteArray) (prefix_ : ByteArray) {w : World} {K : Bool → World → Prop} (h : sh_internal_stringslite_HasPrefix s prefix_ w K) : c_internal_stringslite_HasPrefix s prefix_ w K := by
  rw [← vc_internal_stringslite_HasPrefix] at h
  refine Calls.mono (calls_of_vc C.plain_ok C.mixed Tryd.func114 rfl h) ?_
  rintro e w' ⟨s, rfl, hK⟩
  exact ⟨s.1, rfl, hK⟩

/-- internal/strconv.Atoi -/
def sh_internal_strconv_Atoi (s : ByteArray) (w : World) (K : Int → Value → World → Prop) : Prop :=
  joinP (σ := ByteArray × Unit) (fun s_1 w1 =>
    c_internal_strconv_ParseInt s_1.1 10 0 w1 fun t72 t72_1 w2 =>
    K t72 t72_1 w2) fun J1 =>
  joinP (σ := Bool × Unit) (fun s_2 w3 =>
    cond s_2.1
      (joinP (σ := ByteArray × Unit) (fun s_3 w4 =>
         runK1 PG (convert ty_string ty_sl_uint8 (.string s_3.1)) Kind.slice w4 fun (t47 : Slc) w5 =>
         loopP (σ := Int × Int × Unit) (fun I4 s_4 w6 =>
           cond (decide (s_4.2.1 < ((t47.n : Nat) : Int)))
             (ixK t47 s_4.2.1 1 fun t51 =>
              ldI .u8 t51 w6 fun t52 =>
              cond (decide ((IntKind.u8.wrap (t52 - (48 : Int))) > (9 : Int)))
                (K 0 ((.iface ty_strconv_Error (.int .i64 2)) : Value) w6)
                (I4 ((IntKind.i64.wrap ((IntKind.i64.wrap (s_4.1 * (10 : Int))) + (IntKind.i64.wrap (IntKind.u8.wrap (t52 - (48 : Int)))))), (IntKind.i64.wrap (s_4.2.1 + (1 : Int))), ()) w6))
             (ixS s 0 fun t65 =>
              cond (t65 == (45 : Int))
                (K (IntKind.i64.wrap (0 - s_4.1)) (.nilIface : Value) w6)
                (K s_4.1 (.nilIface : Value) w6))) (0, 0, ()) w5) fun J3 =>
       joinP (σ := Bool × Unit) (fun s_5 w7 =>
         cond s_5.1
           (slS s (some 1) none fun t41 =>
            cond (decide ((t41.size : Int) < (1 : Int)))
              (K 0 ((.iface ty_strconv_Error (.int .i64 2)) : Value) w7)
              (J3 (t41, ()) w7))
           (J3 (s, ()) w7)) fun J5 =>
       ixS s 0 fun t33 =>
       cond (t33 == (45 : Int))
         (J5 (true, ()) w3)
         (ixS s 0 fun t37 =>
          J5 ((t37 == (43 : Int)), ()) w3))
      (J1 (s, ()) w3)) fun J2 =>
  cond (decide ((0 : Int) < (s.size : Int)))
    (J2 ((decide ((s.size : Int) < (19 : Int))), ()) w)
    (J2 (false, ()) w)

def an_internal_strconv_Atoi : List Ann := [.none, .none, .join [(0, Kind.string)] [0, 2, 3, 5, 6, 8, 13, 14, 15, 16, 17, 18, 19, 20, 21, 22, 23, 24, 25, 26, 27, 28, 29, 30, 31, 32, 33, 34, 35, 36, 37, 38, 39, 40, 41, 42, 43, 44, 45, 46, 47, 48, 49, 50, 51, 52, 53, 54, 55, 56, 57, 58, 59, 60, 61, 62, 63, 64, 65, 66, 67, 68, 69], .join [(30, Kind.bool)] [13, 14, 15, 16, 17, 18, 19, 20, 21, 22, 23, 24, 25, 26, 27, 28, 29, 30], .none, .join [(0, Kind.string)] [0, 2, 3, 32, 33, 34, 35, 36, 37, 38, 39, 40, 41, 42, 43, 44, 45], .join [(39, Kind.bool)] [32, 33, 34, 35, 36, 37, 38, 39], .none, .none, .none, .none, .none, .none, .join [(6, (Kind.int .i64)), (49, (Kind.int .i64))] [2, 3, 6, 8, 49, 50, 51, 52, 53, 54, 55, 56, 57, 58, 59, 60, 61, 62, 63], .none, .none, .none, .none, .none, .none, .none, .none, .none, .none, .none, .none, .none]

theorem vc_internal_strconv_Atoi (s : ByteArray) (w : World) (K : Int → Value → World → Prop) :
    vcFn C (Tryd.f115.body.getD .skip) Tryd.f115.results.toList Tryd.f115.ntmps an_internal_strconv_Atoi [(Kind.int .i64), Kind.raw] [(.string s)] w (fun s w => K s.1 s.2.1 w) = sh_internal_strconv_Atoi s w K := by kernel_rfl

theorem call_internal_strconv_Atoi (s : ByteArray) {w : World} {K : Int → Value → World → Prop} (h : sh_internal_strconv_Atoi s w K) : c_internal_strconv_Atoi s w K := by
  rw [← vc_internal_strconv_Atoi] at h
  refine Calls.mono (calls_of_vc C.plain_ok C.mixed Tryd.func115 rfl h) ?_
  rintro e w' ⟨s, rfl, hK⟩
  exact ⟨s.1, s.2.1, rfl, hK⟩

/-- internal/stringslite.TrimPrefix -/
def sh_internal_stringslite_TrimPrefix (s : ByteArray) (prefix_ : ByteArray) (w : World) (K : ByteArray → World → Prop) : Prop :=
  c_internal_stringslite_HasPrefix s prefix_ w fun t7 w1 =>
  cond t7
    (slS s (some (prefix_.size : Int)) none fun t11 =>
     K t11 w1)
    (K s w1)

def an_internal_stringslite_TrimPrefix : List Ann := [.none, .none, .none, .none, .none]

theorem vc_internal_stringslite_TrimPrefix (s : ByteArray) (prefix_ : ByteArray) (w : World) (K : ByteArray → World → Prop) :
    vcFn C (Tryd.f117.body.getD .skip) Tryd.f117.results.toList Tryd.f117.ntmps an_internal_stringslite_TrimPrefix [Kind.string] [(.string s), (.string prefix_)] w (fun s w => K s.1 w) = sh_internal_stringslite_TrimPrefix s prefix_ w K := by kernel_rfl

theorem call_internal_stringslite_TrimPrefix (s : ByteArray) (prefix_ : ByteArray) {w : World} {K : ByteArray → World → Prop} (h : sh_internal_stringslite_TrimPrefix s prefix_ w K) : c_internal_stringslite_TrimPrefix s prefix_ w K := by
  rw [← vc_internal_stringslite_TrimPrefix] at h
  refine Calls.mono (calls_of_vc C.plain_ok C.mixed Tryd.func117 rfl h) ?_
  rintro e w' ⟨s, rfl, hK⟩
  exact ⟨s.1, rfl, hK⟩

/-- math/bits.TrailingZeros32 -/
def sh_math_bits_TrailingZeros32 (x : Int) (w : World) (K : Int → World → Prop) : Prop :=
  cond (x == (0 : Int))
    (K 32 w)
    (0 ≤ (27 : Int) ∧
     ixA (⟨gl_4, 0, none⟩ : Addr) 32 ((IntKind.u32.wrap ((bitsR .and .u32 x (IntKind.u32.wrap (0 - x))) * (125613361 : Int))).fdiv (2 ^ (min (27 : Int).toNat IntKind.u32.bits))) 1 fun t11 =>
     ldI .u8 t11 w fun t12 =>
     K (IntKind.i64.wrap t12) w)

def an_math_bits_TrailingZeros32 : List Ann := [.none, .none, .none, .none, .none]

theorem vc_math_bits_TrailingZeros32 (x : Int) (w : World) (K : Int → World → Prop) :
    vcFn C (Tryd.f118.body.getD .skip) Tryd.f118.results.toList Tryd.f118.ntmps an_math_bits_TrailingZeros32 [(Kind.int .i64)] [(.int .u32 x)] w (fun s w => K s.1 w) = sh_math_bits_TrailingZeros32 x w K := by kernel_rfl

theorem call_math_bits_TrailingZeros32 (x : Int) {w : World} {K : Int → World → Prop} (h : sh_math_bits_TrailingZeros32 x w K) : c_math_bits_TrailingZeros32 x w K := by
  rw [← vc_math_bits_TrailingZeros32] at h
  refine Calls.mono (calls_of_vc C.plain_ok C.mixed Tryd.func118 rfl h) ?_
  rintro e w' ⟨s, rfl, hK⟩
  exact ⟨s.1, rfl, hK⟩

/-- math/bits.TrailingZeros64 -/
def sh_math_bits_TrailingZeros64 (x : Int) (w : World) (K : Int → World → Prop) : Prop :=
  cond (x == (0 : Int))
    (K 64 w)
    (0 ≤ (58 : Int) ∧
     ixA (⟨gl_5, 0, none⟩ : Addr) 64 ((IntKind.u64.wrap ((bitsR .and .u64 x (IntKind.u64.wrap (0 - x))) * (285870213051353865 : Int))).fdiv (2 ^ (min (58 : Int).toNat IntKind.u64.bits))) 1 fun t11 =>
     ldI .u8 t11 w fun t12 =>
     K (IntKind.i64.wrap t12) w)

def an_math_bits_TrailingZeros64 : List Ann := [.none, .none, .none, .none, .none]

theorem vc_math_bits_TrailingZeros64 (x : Int) (w : World) (K : Int → World → Prop) :
    vcFn C (Tryd.f119.body.getD .skip) Tryd.f119.results.toList Tryd.f119.ntmps an_math_bits_TrailingZeros64 [(Kind.int .i64)] [(.int .u64 x)] w (fun s w => K s.1 w) = sh_math_bits_TrailingZeros64 x w K := by kernel_rfl

theorem call_math_bits_TrailingZeros64 (x : Int) {w : World} {K : Int → World → Prop} (h : sh_math_bits_TrailingZeros64 x w K) : c_math_bits_TrailingZeros64 x w K := by
  rw [← vc_math_bits_TrailingZeros64] at h
  refine Calls.mono (calls_of_vc C.plain_ok C.mixed Tryd.func119 rfl h) ?_
  rintro e w' ⟨s, rfl, hK⟩
  exact ⟨s.1, rfl, hK⟩

/-- internal/bytealg.hashStr[string] -/
def sh_internal_bytealg_hashStr_string (sep : ByteArray) (w : World) (K : Int → Int → World → Prop) : Prop :=
  loopP (σ := Int × Int × Unit) (fun I1 s w1 =>
    cond (decide (s.2.1 < (sep.size : Int)))
      (ixS sep s.2.1 fun t19 =>
       I1 ((IntKind.u32.wrap ((IntKind.u32.wrap (s.1 * (16777619 : Int))) + (IntKind.u32.wrap t19))), (IntKind.i64.wrap (s.2.1 + (1 : Int))), ()) w1)
      (loopP (σ := Int × Int × Int × Unit) (fun I2 s_1 w2 =>
         cond (decide (s_1.2.2.1 > (0 : Int)))
           (joinP (σ := Int × Unit) (fun s_2 w3 =>
              0 ≤ (1 : Int) ∧
              I2 (s_2.1, (IntKind.u32.wrap (s_1.2.1 * s_1.2.1)), (s_1.2.2.1.fdiv (2 ^ (min (1 : Int).toNat IntKind.i64.bits))), ()) w3) fun J3 =>
            cond ((bitsR .and .i64 s_1.2.2.1 (1 : Int)) != (0 : Int))
              (J3 ((IntKind.u32.wrap (s_1.1 * s_1.2.1)), ()) w2)
              (J3 (s_1.1, ()) w2))
           (K s.1 s_1.1 w2)) (1, 16777619, (sep.size : Int), ()) w1)) (0, 0, ()) w

def an_internal_bytealg_hashStr_string : List Ann := [.none, .none, .none, .none, .join [(4, (Kind.int .u32)), (5, (Kind.int .i64))] [4, 5, 9, 10, 11, 12, 13, 14, 15, 16, 17, 18, 19, 20, 21], .none, .none, .none, .none, .none, .none, .join [(6, (Kind.int .u32)), (7, (Kind.int .u32)), (8, (Kind.int .i64))] [6, 7, 8, 24, 25, 26, 27, 28, 29, 30, 31, 32, 33, 34, 35, 36], .none, .none, .none, .join [(6, (Kind.int .u32))] [6, 28, 29, 30, 31, 32, 33], .none, .none]

theorem vc_internal_bytealg_hashStr_string (sep : ByteArray) (w : World) (K : Int → Int → World → Prop) :
    vcFn C (Tryd.f120.body.getD .skip) Tryd.f120.results.toList Tryd.f120.ntmps an_internal_bytealg_hashStr_string [(Kind.int .u32), (Kind.int .u32)] [(.string sep)] w (fun s w => K s.1 s.2.1 w) = sh_internal_bytealg_hashStr_string sep w K := by kernel_rfl

theorem call_internal_bytealg_hashStr_string (sep : ByteArray) {w : World} {K : Int → Int → World → Prop} (h : sh_internal_bytealg_hashStr_string sep w K) : c_internal_bytealg_hashStr_string sep w K := by
  rw [← vc_internal_bytealg_hashStr_string] at h
  refine Calls.mono (calls_of_vc C.plain_ok C.mixed Tryd.func120 rfl h) ?_
  rintro e w' ⟨s, rfl, hK⟩
  exact ⟨s.1, s.2.1, rfl, hK⟩

/-- internal/strconv.ParseUint -/
def sh_internal_strconv_ParseUint (s : ByteArray) (base : Int) (bitSize : Int) (w : World) (K : Int → Value → World → Prop) : Prop :=
  cond (s.toList == (⟨#[]⟩ : ByteArray).toList)
    (K 0 ((.iface ty_strconv_Error (.int .i64 2)) : Value) w)
    (joinP (σ := ByteArray × Int × Unit) (fun s_1 w1 =>
       joinP (σ := Int × Unit) (fun s_2 w2 =>
         joinP (σ := Int × Unit) (fun s_3 w3 =>
           0 ≤ (IntKind.u64.wrap s_2.1) ∧
           runK1 PG (convert ty_string ty_sl_uint8 (.string s_1.1)) Kind.slice w3 fun (t99 : Slc) w4 =>
           loopP (σ := Bool × Int × Int × Unit) (fun I4 s_4 w5 =>
             cond (decide (s_4.2.2.1 < ((t99.n : Nat) : Int)))
               (ixK t99 s_4.2.2.1 1 fun t103 =>
                ldI .u8 t103 w5 fun t104 =>
                joinP (σ := Bool × Int × Unit) (fun s_5 w6 =>
                  cond (decide (s_5.2.1 ≥ (IntKind.u8.wrap s_1.2.1)))
                    (K 0 ((.iface ty_strconv_Error (.int .i64 2)) : Value) w6)
                    (cond (decide (s_4.2.1 ≥ s_3.1))
                       (K (IntKind.u64.wrap ((IntKind.u64.wrap ((1 : Int) * 2 ^ (min (IntKind.u64.wrap s_2.1).toNat IntKind.u64.bits))) - (1 : Int))) ((.iface ty_strconv_Error (.int .i64 1)) : Value) w6)
                       (joinP (σ := Bool × Unit) (fun s_6 w7 =>
                          cond s_6.1
                            (K (IntKind.u64.wrap ((IntKind.u64.wrap ((1 : Int) * 2 ^ (min (IntKind.u64.wrap s_2.1).toNat IntKind.u64.bits))) - (1 : Int))) ((.iface ty_strconv_Error (.int .i64 1)) : Value) w7)
                            (I4 (s_5.1, (IntKind.u64.wrap ((IntKind.u64.wrap (s_4.2.1 * (IntKind.u64.wrap s_1.2.1))) + (IntKind.u64.wrap s_5.2.1))), (IntKind.i64.wrap (s_4.2.2.1 + (1 : Int))), ()) w7)) fun J6 =>
                        cond (decide ((IntKind.u64.wrap ((IntKind.u64.wrap (s_4.2.1 * (IntKind.u64.wrap s_1.2.1))) + (IntKind.u64.wrap s_5.2.1))) < (IntKind.u64.wrap (s_4.2.1 * (IntKind.u64.wrap s_1.2.1)))))
                          (J6 (true, ()) w6)
                          (J6 ((decide ((IntKind.u64.wrap ((IntKind.u64.wrap (s_4.2.1 * (IntKind.u64.wrap s_1.2.1))) + (IntKind.u64.wrap s_5.2.1))) > (IntKind.u64.wrap ((IntKind.u64.wrap ((1 : Int) * 2 ^ (min (IntKind.u64.wrap s_2.1).toNat IntKind.u64.bits))) - (1 : Int))))), ()) w6)))) fun J5 =>
                joinP (σ := Bool × Unit) (fun s_7 w8 =>
                  cond s_7.1
                    (I4 (true, s_4.2.1, (IntKind.i64.wrap (s_4.2.2.1 + (1 : Int))), ()) w8)
                    (joinP (σ := Bool × Unit) (fun s_8 w9 =>
                       cond s_8.1
                         (J5 (s_4.1, (IntKind.u8.wrap (t104 - (48 : Int))), ()) w9)
                         (joinP (σ := Bool × Unit) (fun s_9 w10 =>
                            cond s_9.1
                              (c_internal_strconv_lower t104 w10 fun t131 w11 =>
                               J5 (s_4.1, (IntKind.u8.wrap ((IntKind.u8.wrap (t131 - (97 : Int))) + (10 : Int))), ()) w11)
                              (K 0 ((.iface ty_strconv_Error (.int .i64 2)) : Value) w10)) fun J9 =>
                          c_internal_strconv_lower t104 w9 fun t123 w12 =>
                          cond (decide ((97 : Int) ≤ t123))
                            (c_internal_strconv_lower t104 w12 fun t127 w13 =>
                             J9 ((decide (t127 ≤ (122 : Int))), ()) w13)
                            (J9 (false, ()) w12))) fun J8 =>
                     cond (decide ((48 : Int) ≤ t104))
                       (J8 ((decide (t104 ≤ (57 : Int))), ()) w8)
                       (J8 (false, ()) w8))) fun J7 =>
                cond (t104 == (95 : Int))
                  (J7 ((base == (0 : Int)), ()) w5)
                  (J7 (false, ()) w5))
               (joinP (σ := Bool × Unit) (fun s_10 w14 =>
                  cond s_10.1
                    (K 0 ((.iface ty_strconv_Error (.int .i64 2)) : Value) w14)
                    (K s_4.2.1 (.nilIface : Value) w14)) fun J10 =>
                cond s_4.1
                  (c_internal_strconv_underscoreOK s w5 fun t167 w15 =>
                   J10 ((!t167), ()) w15)
                  (J10 (false, ()) w5))) (false, 0, 0, ()) w4) fun J3 =>
         cond (s_1.2.1 == (10 : Int))
           (J3 (1844674407370955162, ()) w2)
           (cond (s_1.2.1 == (16 : Int))
              (J3 (1152921504606846976, ()) w2)
              ((IntKind.u64.wrap s_1.2.1) ≠ 0 ∧
               J3 ((IntKind.u64.wrap ((IntKind.u64.wrap ((18446744073709551615 : Int).tdiv (IntKind.u64.wrap s_1.2.1))) + (1 : Int))), ()) w2))) fun J2 =>
       cond (bitSize == (0 : Int))
         (J2 (64, ()) w1)
         (joinP (σ := Bool × Unit) (fun s_11 w16 =>
            cond s_11.1
              (K 0 ((.iface ty_strconv_Error (.int .i64 4)) : Value) w16)
              (J2 (bitSize, ()) w16)) fun J11 =>
          cond (decide (bitSize < (0 : Int)))
            (J11 (true, ()) w1)
            (J11 ((decide (bitSize > (64 : Int))), ()) w1))) fun J1 =>
     joinP (σ := Bool × Unit) (fun s_12 w17 =>
       cond s_12.1
         (J1 (s, base, ()) w17)
         (cond (base == (0 : Int))
            (ixS s 0 fun t36 =>
             cond (t36 == (48 : Int))
               (joinP (σ := Bool × Unit) (fun s_13 w18 =>
                  cond s_13.1
                    (slS s (some 2) none fun t51 =>
                     J1 (t51, 2, ()) w18)
                    (joinP (σ := Bool × Unit) (fun s_14 w19 =>
                       cond s_14.1
                         (slS s (some 2) none fun t63 =>
                          J1 (t63, 8, ()) w19)
                         (joinP (σ := Bool × Unit) (fun s_15 w20 =>
                            cond s_15.1
                              (slS s (some 2) none fun t75 =>
                               J1 (t75, 16, ()) w20)
                              (slS s (some 1) none fun t39 =>
                               J1 (t39, 8, ()) w20)) fun J15 =>
                          cond (decide ((s.size : Int) ≥ (3 : Int)))
                            (ixS s 1 fun t70 =>
                             c_internal_strconv_lower t70 w19 fun t71 w21 =>
                             J15 ((t71 == (120 : Int)), ()) w21)
                            (J15 (false, ()) w19))) fun J14 =>
                     cond (decide ((s.size : Int) ≥ (3 : Int)))
                       (ixS s 1 fun t58 =>
                        c_internal_strconv_lower t58 w18 fun t59 w22 =>
                        J14 ((t59 == (111 : Int)), ()) w22)
                       (J14 (false, ()) w18))) fun J13 =>
                cond (decide ((s.size : Int) ≥ (3 : Int)))
                  (ixS s 1 fun t46 =>
                   c_internal_strconv_lower t46 w17 fun t47 w23 =>
                   J13 ((t47 == (98 : Int)), ()) w23)
                  (J13 (false, ()) w17))
               (J1 (s, 10, ()) w17))
            (K 0 ((.iface ty_strconv_Error (.int .i64 3)) : Value) w17))) fun J12 =>
     cond (decide ((2 : Int) ≤ base))
       (J12 ((decide (base ≤ (36 : Int))), ()) w)
       (J12 (false, ()) w))

def an_internal_strconv_ParseUint : List Ann := [.none, .none, .none, .none, .none, .none, .join [(0, Kind.string), (1, (Kind.int .i64))] [0, 1, 6, 7, 24, 25, 26, 27, 28, 29, 30, 31, 32, 33, 34, 35, 36, 37, 38, 39, 40, 41, 42, 43, 44, 45, 46, 47, 48, 49, 50, 51, 52, 53, 54, 55, 56, 57, 58, 59, 60, 61, 62, 63, 64, 65, 66, 67, 68, 69, 70, 71, 72, 73, 74, 75], .join [(25, Kind.bool)] [25, 26, 27, 28, 29, 30, 31], .none, .none, .none, .join [(40, Kind.bool)] [40, 41, 42, 43, 44, 45, 46, 47, 48, 49], .none, .join [(52, Kind.bool)] [52, 53, 54, 55, 56, 57, 58, 59, 60, 61], .none, .join [(64, Kind.bool)] [64, 65, 66, 67, 68, 69, 70, 71, 72, 73], .none, .none, .none, .join [(2, (Kind.int .i64))] [2, 6, 7, 76, 77, 78, 79, 80, 81, 82, 83, 84], .none, .join [(83, Kind.bool)] [78, 79, 80, 81, 82, 83], .none, .none, .join [(10, (Kind.int .u64))] [10, 85, 86, 87, 88, 89, 90, 91, 92, 93], .none, .none, .none, .none, .none, .none, .none, .none, .join [(12, Kind.bool), (13, (Kind.int .u64)), (101, (Kind.int .i64))] [6, 7, 12, 13, 15, 16, 17, 101, 102, 103, 104, 105, 106, 107, 108, 109, 110, 111, 112, 113, 114, 115, 116, 117, 118, 119, 120, 121, 122, 123, 124, 125, 126, 127, 128, 129, 130, 131, 132, 133, 134, 135, 136, 137, 138, 139, 140, 141, 142, 143, 144, 145, 146, 147, 148, 149, 150, 151, 152, 153, 154, 155, 156, 157, 158, 159, 160, 161, 162, 163], .none, .none, .none, .none, .none, .join [(12, Kind.bool), (16, (Kind.int .u8))] [6, 7, 12, 16, 105, 106, 107, 108, 109, 110, 111, 112, 113, 114, 115, 116, 117, 118, 119, 120, 121, 122, 123, 124, 125, 126, 127, 128, 129, 130, 131, 132, 133], .join [(106, Kind.bool)] [106, 107, 108, 109, 110, 111], .none, .join [(112, Kind.bool)] [112, 113, 114, 115, 116, 117, 118], .join [(121, Kind.bool)] [121, 122, 123, 124, 125, 126, 127, 128, 129], .none, .none, .none, .none, .none, .none, .none, .none, .none, .none, .join [(159, Kind.bool)] [152, 153, 154, 155, 156, 157, 158, 159], .none, .none, .join [(169, Kind.bool)] [164, 165, 166, 167, 168, 169], .none, .none]

theorem vc_internal_strconv_ParseUint (s : ByteArray) (base : Int) (bitSize : Int) (w : World) (K : Int → Value → World → Prop) :
    vcFn C (Tryd.f126.body.getD .skip) Tryd.f126.results.toList Tryd.f126.ntmps an_internal_strconv_ParseUint [(Kind.int .u64), Kind.raw] [(.string s), (.int .i64 base), (.int .i64 bitSize)] w (fun s w => K s.1 s.2.1 w) = sh_internal_strconv_ParseUint s base bitSize w K := by kernel_rfl

theorem call_internal_strconv_ParseUint (s : ByteArray) (base : Int) (bitSize : Int) {w : World} {K : Int → Value → World → Prop} (h : sh_internal_strconv_ParseUint s base bitSize w K) : c_internal_strconv_ParseUint s base bitSize w K := by
  rw [← vc_internal_strconv_ParseUint] at h
  refine Calls.mono (calls_of_vc C.plain_ok C.mixed Tryd.func126 rfl h) ?_
  rintro e w' ⟨s, rfl, hK⟩
  exact ⟨s.1, s.2.1, rfl, hK⟩

/-- internal/stringslite.Clone -/
def sh_internal_stringslite_Clone (s : ByteArray) (w : World) (K : ByteArray → World → Prop) : Prop :=
  cond ((s.size : Int) == (0 : Int))
    (K (⟨#[]⟩ : ByteArray) w)
    (mkSl PG ty_sl_uint8 (.int .i64 (s.size : Int)) (.int .i64 (s.size : Int)) w fun t9 w1 =>
     runK1 PG (Builtin.copy_ #[ty_sl_uint8, ty_string] ty_int #[(.slice t9.a t9.n t9.c), (.string s)]) (Kind.int .i64) w1 fun (t12 : Int) w2 =>
     ixK t9 0 1 fun t14 =>
     runK1 PG (Builtin.unsafeString_ #[ty_p_uint8, ty_int] ty_string #[(.pointer (some t14)), (.int .i64 ((t9.n : Nat) : Int))]) Kind.string w2 fun (t17 : ByteArray) w3 =>
     K t17 w3)

def an_internal_stringslite_Clone : List Ann := [.none, .none, .none, .none, .none, .none, .none]

theorem vc_internal_stringslite_Clone (s : ByteArray) (w : World) (K : ByteArray → World → Prop) :
    vcFn C (Tryd.f127.body.getD .skip) Tryd.f127.results.toList Tryd.f127.ntmps an_internal_stringslite_Clone [Kind.string] [(.string s)] w (fun s w => K s.1 w) = sh_internal_stringslite_Clone s w K := by kernel_rfl

theorem call_internal_stringslite_Clone (s : ByteArray) {w : World} {K : ByteArray → World → Prop} (h : sh_internal_stringslite_Clone s w K) : c_internal_stringslite_Clone s w K := by
  rw [← vc_internal_stringslite_Clone] at h
  refine Calls.mono (calls_of_vc C.plain_ok C.mixed Tryd.func127 rfl h) ?_
  rintro e w' ⟨s, rfl, hK⟩
  exact ⟨s.1, rfl, hK⟩

/-- errors.New -/
def sh_errors_New (text : ByteArray) (w : World) (K : Value → World → Prop) : Prop :=
  nw ty_errors_errorString [(.string text)] w fun t5 w1 =>
  K ((.iface ty_p_errors_errorString (.pointer (some t5))) : Value) w1

def an_errors_New : List Ann := [.none, .none]

theorem vc_errors_New (text : ByteArray) (w : World) (K : Value → World → Prop) :
    vcFn C (Tryd.f128.body.getD .skip) Tryd.f128.results.toList Tryd.f128.ntmps an_errors_New [Kind.raw] [(.string text)] w (fun s w => K s.1 w) = sh_errors_New text w K := by kernel_rfl

theorem call_errors_New (text : ByteArray) {w : World} {K : Value → World → Prop} (h : sh_errors_New text w K) : c_errors_New text w K := by
  rw [← vc_errors_New] at h
  refine Calls.mono (calls_of_vc C.plain_ok C.mixed Tryd.func128 rfl h) ?_
  rintro e w' ⟨s, rfl, hK⟩
  exact ⟨s.1, rfl, hK⟩

/-- internal/strconv.lower -/
def sh_internal_strconv_lower (c : Int) (w : World) (K : Int → World → Prop) : Prop :=
  K (bitsR .or .u8 c (32 : Int)) w

def an_internal_strconv_lower : List Ann := [.none, .none]

theorem vc_internal_strconv_lower (c : Int) (w : World) (K : Int → World → Prop) :
    vcFn C (Tryd.f129.body.getD .skip) Tryd.f129.results.toList Tryd.f129.ntmps an_internal_strconv_lower [(Kind.int .u8)] [(.int .u8 c)] w (fun s w => K s.1 w) = sh_internal_strconv_lower c w K := by kernel_rfl

theorem call_internal_strconv_lower (c : Int) {w : World} {K : Int → World → Prop} (h : sh_internal_strconv_lower c w K) : c_internal_strconv_lower c w K := by
  rw [← vc_internal_strconv_lower] at h
  refine Calls.mono (calls_of_vc C.plain_ok C.mixed Tryd.func129 rfl h) ?_
  rintro e w' ⟨s, rfl, hK⟩
  exact ⟨s.1, rfl, hK⟩

/-- internal/strconv.underscoreOK -/
def sh_internal_strconv_underscoreOK (s : ByteArray) (w : World) (K : Bool → World → Prop) : Prop :=
  joinP (σ := ByteArray × Unit) (fun s_1 w1 =>
    joinP (σ := Int × Int × Bool × Unit) (fun s_2 w2 =>
      loopP (σ := Int × Int × Unit) (fun I3 s_3 w3 =>
        cond (decide (s_3.2.1 < (s_1.1.size : Int)))
          (joinP (σ := Int × Unit) (fun s_4 w4 =>
             ixS s_1.1 s_3.2.1 fun t86 =>
             cond (t86 == (95 : Int))
               (cond (s_4.1 != (48 : Int))
                  (K false w4)
                  (I3 (95, (IntKind.i64.wrap (s_3.2.1 + (1 : Int))), ()) w4))
               (cond (s_4.1 == (95 : Int))
                  (K false w4)
                  (I3 (33, (IntKind.i64.wrap (s_3.2.1 + (1 : Int))), ()) w4))) fun J4 =>
           ixS s_1.1 s_3.2.1 fun t59 =>
           cond (decide ((48 : Int) ≤ t59))
             (ixS s_1.1 s_3.2.1 fun t64 =>
              cond (decide (t64 ≤ (57 : Int)))
                (I3 (48, (IntKind.i64.wrap (s_3.2.1 + (1 : Int))), ()) w3)
                (cond s_2.2.2.1
                   (ixS s_1.1 s_3.2.1 fun t72 =>
                    c_internal_strconv_lower t72 w3 fun t73 w5 =>
                    cond (decide ((97 : Int) ≤ t73))
                      (ixS s_1.1 s_3.2.1 fun t79 =>
                       c_internal_strconv_lower t79 w5 fun t80 w6 =>
                       cond (decide (t80 ≤ (102 : Int)))
                         (I3 (48, (IntKind.i64.wrap (s_3.2.1 + (1 : Int))), ()) w6)
                         (J4 (s_3.1, ()) w6))
                      (J4 (s_3.1, ()) w5))
                   (J4 (s_3.1, ()) w3)))
             (cond s_2.2.2.1
                (ixS s_1.1 s_3.2.1 fun t72_1 =>
                 c_internal_strconv_lower t72_1 w3 fun t73_1 w7 =>
                 cond (decide ((97 : Int) ≤ t73_1))
                   (ixS s_1.1 s_3.2.1 fun t79_1 =>
                    c_internal_strconv_lower t79_1 w7 fun t80_1 w8 =>
                    cond (decide (t80_1 ≤ (102 : Int)))
                      (I3 (48, (IntKind.i64.wrap (s_3.2.1 + (1 : Int))), ()) w8)
                      (J4 (s_3.1, ()) w8))
                   (J4 (s_3.1, ()) w7))
                (J4 (s_3.1, ()) w3)))
          (K (s_3.1 != (95 : Int)) w3)) (s_2.1, s_2.2.1, ()) w2) fun J2 =>
    joinP (σ := Bool × Unit) (fun s_5 w9 =>
      cond s_5.1
        (ixS s_1.1 1 fun t48 =>
         c_internal_strconv_lower t48 w9 fun t49 w10 =>
         J2 (48, 2, (t49 == (120 : Int)), ()) w10)
        (J2 (94, 0, false, ()) w9)) fun J5 =>
    cond (decide ((s_1.1.size : Int) ≥ (2 : Int)))
      (ixS s_1.1 0 fun t26 =>
       cond (t26 == (48 : Int))
         (ixS s_1.1 1 fun t31 =>
          c_internal_strconv_lower t31 w1 fun t32 w11 =>
          cond (t32 == (98 : Int))
            (J5 (true, ()) w11)
            (ixS s_1.1 1 fun t36 =>
             c_internal_strconv_lower t36 w11 fun t37 w12 =>
             cond (t37 == (111 : Int))
               (J5 (true, ()) w12)
               (ixS s_1.1 1 fun t42 =>
                c_internal_strconv_lower t42 w12 fun t43 w13 =>
                J5 ((t43 == (120 : Int)), ()) w13)))
         (J5 (false, ()) w1))
      (J5 (false, ()) w1)) fun J1 =>
  joinP (σ := Bool × Unit) (fun s_6 w14 =>
    cond s_6.1
      (slS s (some 1) none fun t20 =>
       J1 (t20, ()) w14)
      (J1 (s, ()) w14)) fun J6 =>
  cond (decide ((s.size : Int) ≥ (1 : Int)))
    (ixS s 0 fun t11 =>
     cond (t11 == (45 : Int))
       (J6 (true, ()) w)
       (ixS s 0 fun t15 =>
        J6 ((t15 == (43 : Int)), ()) w))
    (J6 (false, ()) w)

def an_internal_strconv_underscoreOK : List Ann := [.none, .none, .none, .join [(0, Kind.string)] [0, 6, 7, 8, 9, 10, 11, 12, 13, 14, 15, 16, 17, 18, 19, 20], .join [(18, Kind.bool)] [6, 7, 8, 9, 10, 11, 12, 13, 14, 15, 16, 17, 18], .none, .join [(3, (Kind.int .i32)), (4, (Kind.int .i64)), (5, Kind.bool)] [3, 4, 5, 21, 22, 23, 24, 25, 26, 27, 28, 29, 30, 31, 32, 33, 34, 35, 36, 37, 38, 39, 40, 41, 42, 43, 44, 45, 46, 47, 48, 49, 50], .join [(46, Kind.bool)] [21, 22, 23, 24, 25, 26, 27, 28, 29, 30, 31, 32, 33, 34, 35, 36, 37, 38, 39, 40, 41, 42, 43, 44, 45, 46], .none, .none, .none, .join [(3, (Kind.int .i32)), (4, (Kind.int .i64))] [2, 3, 4, 51, 52, 53, 54, 55, 56, 57, 58, 59, 60, 61, 62, 63, 64, 65, 66, 67, 68, 69, 70, 71, 72, 73, 74, 75, 76, 77, 78, 79, 80, 81, 82, 83, 84, 85, 86, 87, 88, 89, 90, 91], .none, .none, .none, .join [(3, (Kind.int .i32))] [3, 57, 58, 59, 60, 61, 62, 63, 64, 65, 66, 67, 68, 69, 70, 71, 72, 73, 74, 75, 76, 77, 78, 79, 80, 81, 82, 83], .none, .none, .none, .none, .none, .none, .none, .none, .none, .none, .none, .none]

theorem vc_internal_strconv_underscoreOK (s : ByteArray) (w : World) (K : Bool → World → Prop) :
    vcFn C (Tryd.f130.body.getD .skip) Tryd.f130.results.toList Tryd.f130.ntmps an_internal_strconv_underscoreOK [Kind.bool] [(.string s)] w (fun s w => K s.1 w) = sh_internal_strconv_underscoreOK s w K := by kernel_rfl

theorem call_internal_strconv_underscoreOK (s : ByteArray) {w : World} {K : Bool → World → Prop} (h : sh_internal_strconv_underscoreOK s w K) : c_internal_strconv_underscoreOK s w K := by
  rw [← vc_internal_strconv_underscoreOK] at h
  refine Calls.mono (calls_of_vc C.plain_ok C.mixed Tryd.func130 rfl h) ?_
  rintro e w' ⟨s, rfl, hK⟩
  exact ⟨s.1, rfl, hK⟩

end Go.Proofs.YtpadlibcalomnaaDoor
