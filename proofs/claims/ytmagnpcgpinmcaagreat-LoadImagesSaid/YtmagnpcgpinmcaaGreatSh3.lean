import Derived.Test.YtmagnpcgpinmcaaGreatDefs
set_option maxRecDepth 100000
set_option linter.unusedVariables false
namespace Go.Proofs.YtmagnpcgpinmcaaGreat
open Go.Vc
def sh_bytes_Equal (a:Slc) (b:Slc) (w:World) (K:Bool→World→Prop):Prop :=runK1 PG (convert ty_sl_uint8 ty_string (.slice a.a a.n a.c)) Kind.string w fun (t6:ByteArray) w1 =>runK1 PG (convert ty_sl_uint8 ty_string (.slice b.a b.n b.c)) Kind.string w1 fun (t8:ByteArray) w2 =>K (t6.toList==t8.toList) w2
def an_bytes_Equal:List Ann:=[.none,.none]
theorem vc_bytes_Equal (a:Slc) (b:Slc) (w:World) (K:Bool→World→Prop) :
  vcFn C (Tryz.f129.body.getD .skip) Tryz.f129.results.toList Tryz.f129.ntmps an_bytes_Equal [Kind.bool] [(.slice a.a a.n a.c),(.slice b.a b.n b.c)] w (fun s w=>K s.1 w)=sh_bytes_Equal a b w K:=by kernel_rfl
theorem call_bytes_Equal (a:Slc) (b:Slc) {w:World} {K:Bool→World→Prop} (h:sh_bytes_Equal a b w K):c_bytes_Equal a b w K:=by
 rw [←vc_bytes_Equal] at h
 refine Calls.mono (cvc C.plain_ok C.mixed Tryz.func129 rfl h) ?_
 rintro e w' ⟨s,rfl,hK⟩
 exact ⟨s.1,rfl,hK⟩
def sh_png_chunk (b:Slc) (w:World) (K:T_png_Chunk→Int→Int→World→Prop):Prop :=nw ty_png_Chunk [(.string (⟨#[]⟩:ByteArray)),(.slice none 0 0)] w fun t2 w1 =>cond (decide (((b.n:Nat):Int)<(4:Int))) (stK t2 [(.string (⟨#[]⟩:ByteArray)),(.slice none 0 0)] w1 fun w2 =>ldS T_png_Chunk.rep t2 w2 fun r =>K r 0 2 w2) (c_bits_Big b w1 fun t12 w3 =>cond (decide ((IntKind.i64.wrap t12)>(2147483647:Int))) (stK t2 [(.string (⟨#[]⟩:ByteArray)),(.slice none 0 0)] w3 fun w4 =>ldS T_png_Chunk.rep t2 w4 fun r_1 =>K r_1 0 3 w4) (cond (decide (((b.n:Nat):Int)<(8:Int))) (stK t2 [(.string (⟨#[]⟩:ByteArray)),(.slice none 0 0)] w3 fun w5 =>ldS T_png_Chunk.rep t2 w5 fun r_2 =>K r_2 0 2 w5) (slK b (some 4) (some 8) 1 fun t25 =>c_png_letters t25 w3 fun t26 w6 =>cond (!t26) (stK t2 [(.string (⟨#[]⟩:ByteArray)),(.slice none 0 0)] w6 fun w7 =>ldS T_png_Chunk.rep t2 w7 fun r_3 =>K r_3 0 3 w7) (cond (decide ((IntKind.i64.wrap t12)>(IntKind.i64.wrap (((b.n:Nat):Int)-(12:Int))))) (stK t2 [(.string (⟨#[]⟩:ByteArray)),(.slice none 0 0)] w6 fun w8 =>ldS T_png_Chunk.rep t2 w8 fun r_4 =>K r_4 0 2 w8) (slK b (some 4) (some (IntKind.i64.wrap ((8:Int)+(IntKind.i64.wrap t12)))) 1 fun t41 =>slK b (some (IntKind.i64.wrap ((8:Int)+(IntKind.i64.wrap t12)))) none 1 fun t46 =>(c_sums_NewCrc  w6.drew fun t38 w9 =>nw ty_sl_uint8 [(.slice t41.a t41.n t41.c)] w9 fun t42 w10 =>c_sums_Of_sums_Crc t38 (⟨(some t42),1,1⟩:Slc) w10 fun t43 w11 =>c_bits_Big t46 w11 fun t47 w12 =>cond (t43 !=t47) (stK t2 [(.string (⟨#[]⟩:ByteArray)),(.slice none 0 0)] w12 fun w13 =>ldS T_png_Chunk.rep t2 w13 fun r_5 =>K r_5 0 4 w13) (slK b (some 4) (some 8) 1 fun t51 =>slK b (some 8) (some (IntKind.i64.wrap ((8:Int)+(IntKind.i64.wrap t12)))) 1 fun t55 =>(runK1 PG (convert ty_sl_uint8 ty_string (.slice t51.a t51.n t51.c)) Kind.string w12.drew fun (t52:ByteArray) w14 =>c_slices_Clone_byte_byte t55 w14 fun t56 w15 =>stK t2 [(.string t52),(.slice t56.a t56.n t56.c)] w15 fun w16 =>ldS T_png_Chunk.rep t2 w16 fun r_6 =>K r_6 (IntKind.i64.wrap ((IntKind.i64.wrap ((8:Int)+(IntKind.i64.wrap t12)))+(4:Int))) 0 w16) ∧c_slices_Clone_byte_byte t55 w12.drew fun t56_1 w17 =>runK1 PG (convert ty_sl_uint8 ty_string (.slice t51.a t51.n t51.c)) Kind.string w17 fun (t52_1:ByteArray) w18 =>stK t2 [(.string t52_1),(.slice t56_1.a t56_1.n t56_1.c)] w18 fun w19 =>ldS T_png_Chunk.rep t2 w19 fun r_7 =>K r_7 (IntKind.i64.wrap ((IntKind.i64.wrap ((8:Int)+(IntKind.i64.wrap t12)))+(4:Int))) 0 w19)) ∧nw ty_sl_uint8 [(.slice t41.a t41.n t41.c)] w6.drew fun t42_1 w20 =>c_sums_NewCrc  w20 fun t38_1 w21 =>c_sums_Of_sums_Crc t38_1 (⟨(some t42_1),1,1⟩:Slc) w21 fun t43_1 w22 =>c_bits_Big t46 w22 fun t47_1 w23 =>cond (t43_1 !=t47_1) (stK t2 [(.string (⟨#[]⟩:ByteArray)),(.slice none 0 0)] w23 fun w24 =>ldS T_png_Chunk.rep t2 w24 fun r_8 =>K r_8 0 4 w24) (slK b (some 4) (some 8) 1 fun t51_1 =>slK b (some 8) (some (IntKind.i64.wrap ((8:Int)+(IntKind.i64.wrap t12)))) 1 fun t55_1 =>(runK1 PG (convert ty_sl_uint8 ty_string (.slice t51_1.a t51_1.n t51_1.c)) Kind.string w23.drew fun (t52_2:ByteArray) w25 =>c_slices_Clone_byte_byte t55_1 w25 fun t56_2 w26 =>stK t2 [(.string t52_2),(.slice t56_2.a t56_2.n t56_2.c)] w26 fun w27 =>ldS T_png_Chunk.rep t2 w27 fun r_9 =>K r_9 (IntKind.i64.wrap ((IntKind.i64.wrap ((8:Int)+(IntKind.i64.wrap t12)))+(4:Int))) 0 w27) ∧c_slices_Clone_byte_byte t55_1 w23.drew fun t56_3 w28 =>runK1 PG (convert ty_sl_uint8 ty_string (.slice t51_1.a t51_1.n t51_1.c)) Kind.string w28 fun (t52_3:ByteArray) w29 =>stK t2 [(.string t52_3),(.slice t56_3.a t56_3.n t56_3.c)] w29 fun w30 =>ldS T_png_Chunk.rep t2 w30 fun r_10 =>K r_10 (IntKind.i64.wrap ((IntKind.i64.wrap ((8:Int)+(IntKind.i64.wrap t12)))+(4:Int))) 0 w30))))))
def an_png_chunk:List Ann:=[.none,.none,.none,.none,.none,.none,.none,.none,.none,.none,.none,.none,.none,.none,.none,.none,.none,.none,.none]
theorem vc_png_chunk (b:Slc) (w:World) (K:T_png_Chunk→Int→Int→World→Prop) :
  vcFn C (Tryz.f130.body.getD .skip) Tryz.f130.results.toList Tryz.f130.ntmps an_png_chunk [(Kind.struct T_png_Chunk.rep),(Kind.int .i64),(Kind.int .i64)] [(.slice b.a b.n b.c)] w (fun s w=>K s.1 s.2.1 s.2.2.1 w)=sh_png_chunk b w K:=by kernel_rfl
theorem call_png_chunk (b:Slc) {w:World} {K:T_png_Chunk→Int→Int→World→Prop} (h:sh_png_chunk b w K):c_png_chunk b w K:=by
 rw [←vc_png_chunk] at h
 refine Calls.mono (cvc C.plain_ok C.mixed Tryz.func130 rfl h) ?_
 rintro e w' ⟨s,rfl,hK⟩
 exact ⟨s.1,s.2.1,s.2.2.1,rfl,hK⟩
def sh_bits_Big (b:Slc) (w:World) (K:Int→World→Prop):Prop :=cond (decide (((b.n:Nat):Int)<(4:Int))) (K 0 w) (ixK b 0 1 fun t7 =>ldI .u8 t7 w.drew fun t8 =>0≤(24:Int) ∧ixK b 1 1 fun t12 =>ldI .u8 t12 w.drew fun t13 =>0≤(16:Int) ∧ixK b 2 1 fun t18 =>ldI .u8 t18 w.drew fun t19 =>0≤(8:Int) ∧ixK b 3 1 fun t24 =>ldI .u8 t24 w.drew fun t25 =>K (bitsR .or .u32 (bitsR .or .u32 (bitsR .or .u32 (IntKind.u32.wrap ((IntKind.u32.wrap t8)*2^(min (24:Int).toNat IntKind.u32.bits))) (IntKind.u32.wrap ((IntKind.u32.wrap t13)*2^(min (16:Int).toNat IntKind.u32.bits)))) (IntKind.u32.wrap ((IntKind.u32.wrap t19)*2^(min (8:Int).toNat IntKind.u32.bits)))) (IntKind.u32.wrap t25)) w.drew)
def an_bits_Big:List Ann:=[.none,.none,.none,.none,.none]
theorem vc_bits_Big (b:Slc) (w:World) (K:Int→World→Prop) :
  vcFn C (Tryz.f131.body.getD .skip) Tryz.f131.results.toList Tryz.f131.ntmps an_bits_Big [(Kind.int .u32)] [(.slice b.a b.n b.c)] w (fun s w=>K s.1 w)=sh_bits_Big b w K:=by kernel_rfl
theorem call_bits_Big (b:Slc) {w:World} {K:Int→World→Prop} (h:sh_bits_Big b w K):c_bits_Big b w K:=by
 rw [←vc_bits_Big] at h
 refine Calls.mono (cvc C.plain_ok C.mixed Tryz.func131 rfl h) ?_
 rintro e w' ⟨s,rfl,hK⟩
 exact ⟨s.1,rfl,hK⟩
def sh_base64_Decoder_put (d:Option Addr) (c:Int) (w:World) (K:Slc→Bool→World→Prop):Prop :=c_strings_IndexByte (⟨#[65,66,67,68,69,70,71,72,73,74,75,76,77,78,79,80,81,82,83,84,85,86,87,88,89,90,97,98,99,100,101,102,103,104,105,106,107,108,109,110,111,112,113,114,115,116,117,118,119,120,121,122,48,49,50,51,52,53,54,55,56,57,43,47]⟩:ByteArray) c w fun t9 w1 =>joinP (σ:=Unit) (fun s w2 =>onPtr d fun t57 =>ldI .i64 (t57.add 1) w2 fun t59 =>onPtr d fun t61 =>stK (t61.add 1) [(.int .i64 (IntKind.i64.wrap (t59+(1:Int))))] w2 fun w3 =>onPtr d fun t64 =>ldI .i64 (t64.add 1) w3 fun t66 =>cond (decide (t66<(4:Int))) (K (⟨none,0,0⟩:Slc) true w3) (c_base64_Decoder_bytes d w3 fun t69 w4 =>onPtr d fun t72 =>ldI .i64 (t72.add 2) w4 fun t74 =>onPtr d fun t77 =>stK t77 [(.int .u32 0),(.int .i64 0),(.int .i64 0),(.bool (decide (t74>(0:Int)))),(.bool false)] w4 fun w5 =>K t69 true w5)) fun J1 =>onPtr d fun t23 =>ldB (t23.add 3) w1 fun t25 =>cond t25 (K (⟨none,0,0⟩:Slc) false w1) (cond (c==(61:Int)) (joinP (σ:=Unit) (fun s_1 w6 =>onPtr d fun t40 =>ldI .i64 (t40.add 2) w6 fun t42 =>onPtr d fun t44 =>stK (t44.add 2) [(.int .i64 (IntKind.i64.wrap (t42+(1:Int))))] w6 fun w7 =>J1 (()) w7) fun J2 =>onPtr d fun t30 =>ldI .i64 (t30.add 1) w1 fun t32 =>cond (decide (t32<(2:Int))) (K (⟨none,0,0⟩:Slc) false w1) (c_base64_Decoder_clean d w1 fun t36 w8 =>cond (!t36) (K (⟨none,0,0⟩:Slc) false w8) (J2 (()) w8))) (joinP (σ:=Bool×Unit) (fun s_2 w9 =>cond s_2.1 (K (⟨none,0,0⟩:Slc) false w9) (onPtr d fun t12 =>ldI .u32 (t12.add 0) w9 fun t14 =>0≤(6:Int) ∧onPtr d fun t19 =>stK (t19.add 0) [(.int .u32 (bitsR .or .u32 (IntKind.u32.wrap (t14*2^(min (6:Int).toNat IntKind.u32.bits))) (IntKind.u32.wrap t9)))] w9 fun w10 =>J1 (()) w10)) fun J3 =>cond (decide (t9<(0:Int))) (J3 (true,()) w1) (onPtr d fun t51 =>ldI .i64 (t51.add 2) w1 fun t53 =>J3 ((decide (t53>(0:Int))),()) w1)))
def an_base64_Decoder_put:List Ann:=[.none,.none,.join [] [4,5,10,11,12,13,14,15,16,17,18,19,20,21,22,23,24,25,26,27,28,29,30,31,32,33,34,35,36,37,38,39,40,41,42,43,44,45,46,47,48,49,50,51,52,53,54,55],.none,.none,.none,.join [] [4,5,29,30,31,32,33,34,35,36,37,38],.none,.none,.join [(46,Kind.bool)] [46,47,48,49,50,51,52,53,54,55],.none,.none,.none,.none,.none,.none,.none,.none]
theorem vc_base64_Decoder_put (d:Option Addr) (c:Int) (w:World) (K:Slc→Bool→World→Prop) :
  vcFn C (Tryz.f132.body.getD .skip) Tryz.f132.results.toList Tryz.f132.ntmps an_base64_Decoder_put [Kind.slice,Kind.bool] [(.pointer d),(.int .u8 c)] w (fun s w=>K s.1 s.2.1 w)=sh_base64_Decoder_put d c w K:=by kernel_rfl
theorem call_base64_Decoder_put (d:Option Addr) (c:Int) {w:World} {K:Slc→Bool→World→Prop} (h:sh_base64_Decoder_put d c w K):c_base64_Decoder_put d c w K:=by
 rw [←vc_base64_Decoder_put] at h
 refine Calls.mono (cvc C.plain_ok C.mixed Tryz.func132 rfl h) ?_
 rintro e w' ⟨s,rfl,hK⟩
 exact ⟨s.1,s.2.1,rfl,hK⟩
def sh_base64_Decoder_clean (d:Option Addr) (w:World) (K:Bool→World→Prop):Prop :=onPtr d fun t4 =>ldI .u32 (t4.add 0) w.drew fun t6 =>onPtr d fun t8 =>ldI .i64 (t8.add 1) w.drew fun t10 =>onPtr d fun t12 =>ldI .i64 (t12.add 2) w.drew fun t14 =>(8:Int)≠0 ∧0≤((IntKind.i64.wrap ((IntKind.i64.wrap (t10-t14))*(6:Int))).tmod (8:Int)) ∧K ((bitsR .and .u32 t6 (IntKind.u32.wrap ((IntKind.u32.wrap ((1:Int)*2^(min ((IntKind.i64.wrap ((IntKind.i64.wrap (t10-t14))*(6:Int))).tmod (8:Int)).toNat IntKind.u32.bits)))-(1:Int))))==(0:Int)) w.drew
def an_base64_Decoder_clean:List Ann:=[.none,.none]
theorem vc_base64_Decoder_clean (d:Option Addr) (w:World) (K:Bool→World→Prop) :
  vcFn C (Tryz.f136.body.getD .skip) Tryz.f136.results.toList Tryz.f136.ntmps an_base64_Decoder_clean [Kind.bool] [(.pointer d)] w (fun s w=>K s.1 w)=sh_base64_Decoder_clean d w K:=by kernel_rfl
theorem call_base64_Decoder_clean (d:Option Addr) {w:World} {K:Bool→World→Prop} (h:sh_base64_Decoder_clean d w K):c_base64_Decoder_clean d w K:=by
 rw [←vc_base64_Decoder_clean] at h
 refine Calls.mono (cvc C.plain_ok C.mixed Tryz.func136 rfl h) ?_
 rintro e w' ⟨s,rfl,hK⟩
 exact ⟨s.1,rfl,hK⟩
def sh_base64_Decoder_bytes (d:Option Addr) (w:World) (K:Slc→World→Prop):Prop :=onPtr d fun t5 =>ldI .u32 (t5.add 0) w.drew fun t7 =>onPtr d fun t9 =>ldI .i64 (t9.add 1) w.drew fun t11 =>onPtr d fun t14 =>ldI .i64 (t14.add 2) w.drew fun t16 =>0≤(IntKind.i64.wrap ((6:Int)*(IntKind.i64.wrap ((IntKind.i64.wrap ((4:Int)-t11))+t16)))) ∧0≤(16:Int) ∧0≤(8:Int) ∧onPtr d fun t30 =>ldI .i64 (t30.add 1) w.drew.drew fun t32 =>onPtr d fun t34 =>ldI .i64 (t34.add 2) w.drew.drew fun t36 =>(8:Int)≠0 ∧nw ty_uint8 [(.int .u8 (IntKind.u8.wrap ((IntKind.u32.wrap (t7*2^(min (IntKind.i64.wrap ((6:Int)*(IntKind.i64.wrap ((IntKind.i64.wrap ((4:Int)-t11))+t16)))).toNat IntKind.u32.bits))).fdiv (2^(min (16:Int).toNat IntKind.u32.bits))))),(.int .u8 (IntKind.u8.wrap ((IntKind.u32.wrap (t7*2^(min (IntKind.i64.wrap ((6:Int)*(IntKind.i64.wrap ((IntKind.i64.wrap ((4:Int)-t11))+t16)))).toNat IntKind.u32.bits))).fdiv (2^(min (8:Int).toNat IntKind.u32.bits))))),(.int .u8 (IntKind.u8.wrap (IntKind.u32.wrap (t7*2^(min (IntKind.i64.wrap ((6:Int)*(IntKind.i64.wrap ((IntKind.i64.wrap ((4:Int)-t11))+t16)))).toNat IntKind.u32.bits)))))] w.drew.drew fun t28 w1 =>World.cell? w1 (t34.add 2)=some (.int .i64 t36) ∧World.cell? w1 (t30.add 1)=some (.int .i64 t32) ∧slK (⟨(some t28),3,3⟩:Slc) none (some (IntKind.i64.wrap ((IntKind.i64.wrap ((IntKind.i64.wrap (t32-t36))*(6:Int))).tdiv (8:Int)))) 1 fun t40 =>K t40 w1
def an_base64_Decoder_bytes:List Ann:=[.none,.none,.none]
theorem vc_base64_Decoder_bytes (d:Option Addr) (w:World) (K:Slc→World→Prop) :
  vcFn C (Tryz.f137.body.getD .skip) Tryz.f137.results.toList Tryz.f137.ntmps an_base64_Decoder_bytes [Kind.slice] [(.pointer d)] w (fun s w=>K s.1 w)=sh_base64_Decoder_bytes d w K:=by kernel_rfl
theorem call_base64_Decoder_bytes (d:Option Addr) {w:World} {K:Slc→World→Prop} (h:sh_base64_Decoder_bytes d w K):c_base64_Decoder_bytes d w K:=by
 rw [←vc_base64_Decoder_bytes] at h
 refine Calls.mono (cvc C.plain_ok C.mixed Tryz.func137 rfl h) ?_
 rintro e w' ⟨s,rfl,hK⟩
 exact ⟨s.1,rfl,hK⟩
def sh_base64_Decoder_Reset (d:Option Addr) (w:World) (K:World→Prop):Prop :=onPtr d fun t4 =>stK t4 [(.int .u32 0),(.int .i64 0),(.int .i64 0),(.bool false),(.bool false)] w fun w1 =>K w1
def an_base64_Decoder_Reset:List Ann:=[]
theorem vc_base64_Decoder_Reset (d:Option Addr) (w:World) (K:World→Prop) :
  vcFn C (Tryz.f138.body.getD .skip) Tryz.f138.results.toList Tryz.f138.ntmps an_base64_Decoder_Reset [] [(.pointer d)] w (fun s w=>K w)=sh_base64_Decoder_Reset d w K:=by kernel_rfl
theorem call_base64_Decoder_Reset (d:Option Addr) {w:World} {K:World→Prop} (h:sh_base64_Decoder_Reset d w K):c_base64_Decoder_Reset d w K:=by
 rw [←vc_base64_Decoder_Reset] at h
 refine Calls.mono (cvc C.plain_ok C.mixed Tryz.func138 rfl h) ?_
 rintro e w' ⟨s,rfl,hK⟩
 exact ⟨rfl,hK⟩
def sh_pixel_FromRGBA (wx:Int) (hx:Int) (b:Slc) (w:World) (K:T_api_Matrix→Int→World→Prop):Prop :=nw ty_api_Matrix [(.int .i64 0),(.int .i64 0),(.slice none 0 0)] w fun t6 w1 =>c_pixel_from wx hx 4 b w1 fun t11 t11_1 w2 =>stK t6 (T_api_Matrix.rep.cells t11) w2 fun w3 =>ldS T_api_Matrix.rep t6 w3 fun r =>K r t11_1 w3
def an_pixel_FromRGBA:List Ann:=[.none,.none]
theorem vc_pixel_FromRGBA (wx:Int) (hx:Int) (b:Slc) (w:World) (K:T_api_Matrix→Int→World→Prop) :
  vcFn C (Tryz.f139.body.getD .skip) Tryz.f139.results.toList Tryz.f139.ntmps an_pixel_FromRGBA [(Kind.struct T_api_Matrix.rep),(Kind.int .i64)] [(.int .i64 wx),(.int .i64 hx),(.slice b.a b.n b.c)] w (fun s w=>K s.1 s.2.1 w)=sh_pixel_FromRGBA wx hx b w K:=by kernel_rfl
theorem call_pixel_FromRGBA (wx:Int) (hx:Int) (b:Slc) {w:World} {K:T_api_Matrix→Int→World→Prop} (h:sh_pixel_FromRGBA wx hx b w K):c_pixel_FromRGBA wx hx b w K:=by
 rw [←vc_pixel_FromRGBA] at h
 refine Calls.mono (cvc C.plain_ok C.mixed Tryz.func139 rfl h) ?_
 rintro e w' ⟨s,rfl,hK⟩
 exact ⟨s.1,s.2.1,rfl,hK⟩
def sh_pixel_FromRGB (wx:Int) (hx:Int) (b:Slc) (w:World) (K:T_api_Matrix→Int→World→Prop):Prop :=nw ty_api_Matrix [(.int .i64 0),(.int .i64 0),(.slice none 0 0)] w fun t6 w1 =>c_pixel_from wx hx 3 b w1 fun t11 t11_1 w2 =>stK t6 (T_api_Matrix.rep.cells t11) w2 fun w3 =>ldS T_api_Matrix.rep t6 w3 fun r =>K r t11_1 w3
def an_pixel_FromRGB:List Ann:=[.none,.none]
theorem vc_pixel_FromRGB (wx:Int) (hx:Int) (b:Slc) (w:World) (K:T_api_Matrix→Int→World→Prop) :
  vcFn C (Tryz.f140.body.getD .skip) Tryz.f140.results.toList Tryz.f140.ntmps an_pixel_FromRGB [(Kind.struct T_api_Matrix.rep),(Kind.int .i64)] [(.int .i64 wx),(.int .i64 hx),(.slice b.a b.n b.c)] w (fun s w=>K s.1 s.2.1 w)=sh_pixel_FromRGB wx hx b w K:=by kernel_rfl
theorem call_pixel_FromRGB (wx:Int) (hx:Int) (b:Slc) {w:World} {K:T_api_Matrix→Int→World→Prop} (h:sh_pixel_FromRGB wx hx b w K):c_pixel_FromRGB wx hx b w K:=by
 rw [←vc_pixel_FromRGB] at h
 refine Calls.mono (cvc C.plain_ok C.mixed Tryz.func140 rfl h) ?_
 rintro e w' ⟨s,rfl,hK⟩
 exact ⟨s.1,s.2.1,rfl,hK⟩
def sh_huff_Fixed  (w:World) (K:Slc→Slc→World→Prop):Prop :=(mkSl PG ty_sl_uint8 (.int .i64 288) (.int .i64 288) w.drew fun t6 w1 =>mkSl PG ty_sl_uint8 (.int .i64 30) (.int .i64 30) w1 fun t7 w2 =>loopP (σ:=Int×Unit) (fun I1 s w3 =>cond (decide (s.1<((t6.n:Nat):Int))) (cond (decide (s.1<(144:Int))) (ixK t6 s.1 1 fun t21 =>stK t21 [(.int .u8 8)] w3 fun w4 =>I1 ((IntKind.i64.wrap (s.1+(1:Int))),()) w4) (cond (decide (s.1<(256:Int))) (ixK t6 s.1 1 fun t27 =>stK t27 [(.int .u8 9)] w3 fun w5 =>I1 ((IntKind.i64.wrap (s.1+(1:Int))),()) w5) (cond (decide (s.1<(280:Int))) (ixK t6 s.1 1 fun t33 =>stK t33 [(.int .u8 7)] w3 fun w6 =>I1 ((IntKind.i64.wrap (s.1+(1:Int))),()) w6) (ixK t6 s.1 1 fun t15 =>stK t15 [(.int .u8 8)] w3 fun w7 =>I1 ((IntKind.i64.wrap (s.1+(1:Int))),()) w7)))) (loopP (σ:=Int×Unit) (fun I2 s_1 w8 =>cond (decide (s_1.1<((t7.n:Nat):Int))) (ixK t7 s_1.1 1 fun t42 =>stK t42 [(.int .u8 5)] w8 fun w9 =>I2 ((IntKind.i64.wrap (s_1.1+(1:Int))),()) w9) (K t6 t7 w8)) (0,()) w3)) (0,()) w2) ∧mkSl PG ty_sl_uint8 (.int .i64 30) (.int .i64 30) w.drew fun t7_1 w10 =>mkSl PG ty_sl_uint8 (.int .i64 288) (.int .i64 288) w10 fun t6_1 w11 =>loopP (σ:=Int×Unit) (fun I3 s_2 w12 =>cond (decide (s_2.1<((t6_1.n:Nat):Int))) (cond (decide (s_2.1<(144:Int))) (ixK t6_1 s_2.1 1 fun t21_1 =>stK t21_1 [(.int .u8 8)] w12 fun w13 =>I3 ((IntKind.i64.wrap (s_2.1+(1:Int))),()) w13) (cond (decide (s_2.1<(256:Int))) (ixK t6_1 s_2.1 1 fun t27_1 =>stK t27_1 [(.int .u8 9)] w12 fun w14 =>I3 ((IntKind.i64.wrap (s_2.1+(1:Int))),()) w14) (cond (decide (s_2.1<(280:Int))) (ixK t6_1 s_2.1 1 fun t33_1 =>stK t33_1 [(.int .u8 7)] w12 fun w15 =>I3 ((IntKind.i64.wrap (s_2.1+(1:Int))),()) w15) (ixK t6_1 s_2.1 1 fun t15_1 =>stK t15_1 [(.int .u8 8)] w12 fun w16 =>I3 ((IntKind.i64.wrap (s_2.1+(1:Int))),()) w16)))) (loopP (σ:=Int×Unit) (fun I4 s_3 w17 =>cond (decide (s_3.1<((t7_1.n:Nat):Int))) (ixK t7_1 s_3.1 1 fun t42_1 =>stK t42_1 [(.int .u8 5)] w17 fun w18 =>I4 ((IntKind.i64.wrap (s_3.1+(1:Int))),()) w18) (K t6_1 t7_1 w17)) (0,()) w12)) (0,()) w11
def an_huff_Fixed:List Ann:=[.none,.none,.none,.none,.join [(10,(Kind.int .i64))] [4,10,11,12,13,14,15,16,17,18,19,20,21,22,23,24,25,26,27,28,29,30,31,32,33,34],.none,.none,.none,.none,.none,.none,.none,.none,.none,.join [(37,(Kind.int .i64))] [5,37,38,39,40,41,42,43],.none,.none,.none,.none,.none]
theorem vc_huff_Fixed  (w:World) (K:Slc→Slc→World→Prop) :
  vcFn C (Tryz.f144.body.getD .skip) Tryz.f144.results.toList Tryz.f144.ntmps an_huff_Fixed [Kind.slice,Kind.slice] [] w (fun s w=>K s.1 s.2.1 w)=sh_huff_Fixed  w K:=by kernel_rfl
theorem call_huff_Fixed  {w:World} {K:Slc→Slc→World→Prop} (h:sh_huff_Fixed  w K):c_huff_Fixed  w K:=by
 rw [←vc_huff_Fixed] at h
 refine Calls.mono (cvc C.plain_ok C.mixed Tryz.func144 rfl h) ?_
 rintro e w' ⟨s,rfl,hK⟩
 exact ⟨s.1,s.2.1,rfl,hK⟩
def sh_huff_New (lengths:Slc) (w:World) (K:Option Addr→Int→World→Prop):Prop :=cond (decide (((lengths.n:Nat):Int)>(320:Int))) (K none 1 w) (  (nw ty_uint8 [] w.drew fun t11 w1 =>(apK PG #[ty_sl_uint8,ty_sl_uint8] ty_sl_uint8 (⟨(some t11),0,0⟩:Slc) lengths w1 fun t13 w2 =>mkSl PG ty_sl_uint32 (.int .i64 ((lengths.n:Nat):Int)) (.int .i64 ((lengths.n:Nat):Int)) w2 fun t16 w3 =>nw ty_huff_Table [(.int .i64 0),(.int .i64 0),(.int .i64 0),(.int .i64 0),(.int .i64 0),(.int .i64 0),(.int .i64 0),(.int .i64 0),(.int .i64 0),(.int .i64 0),(.int .i64 0),(.int .i64 0),(.int .i64 0),(.int .i64 0),(.int .i64 0),(.int .i64 0),(.slice none 0 0),(.slice t16.a t16.n t16.c),(.slice t13.a t13.n t13.c),(.int .i64 0)] w3 fun t18 w4 =>loopP (σ:=Int×Unit) (fun I1 s w5 =>cond (decide (s.1<((lengths.n:Nat):Int))) (ixK lengths s.1 1 fun t23 =>ldI .u8 t23 w5 fun t24 =>cond (decide (t24>(15:Int))) (K none 1 w5) (cond (decide (t24>(0:Int))) (ixA (t18.add 0) 16 t24 1 fun t33 =>ldI .i64 t33 w5.drew fun t34 =>ixA (t18.add 0) 16 t24 1 fun t38 =>stK t38 [(.int .i64 (IntKind.i64.wrap (t34+(1:Int))))] w5.drew fun w6 =>ldI .i64 (t18.add 19) w6 fun t43 =>stK (t18.add 19) [(.int .i64 (if (IntKind.i64.wrap t24)>t43 then (IntKind.i64.wrap t24) else t43))] w6 fun w7 =>I1 ((IntKind.i64.wrap (s.1+(1:Int))),()) w7) (I1 ((IntKind.i64.wrap (s.1+(1:Int))),()) w5))) (joinP (σ:=Unit) (fun s_1 w8 =>c_huff_Table_deal (some t18) w8 fun w9 =>K (some t18) 0 w9) fun J2 =>c_huff_room lengths w5 fun t51 w10 =>cond (t51 !=(32768:Int)) (cond (t51 !=(0:Int)) (cond (t51==(16384:Int)) (ixA (t18.add 0) 16 1 1 fun t65 =>ldI .i64 t65 w10 fun t66 =>cond (!(t66==(1:Int))) (K none 3 w10) (J2 (()) w10)) (K none 3 w10)) (J2 (()) w10)) (J2 (()) w10))) (0,()) w4) ∧mkSl PG ty_sl_uint32 (.int .i64 ((lengths.n:Nat):Int)) (.int .i64 ((lengths.n:Nat):Int)) w1 fun t16_1 w11 =>apK PG #[ty_sl_uint8,ty_sl_uint8] ty_sl_uint8 (⟨(some t11),0,0⟩:Slc) lengths w11 fun t13_1 w12 =>nw ty_huff_Table [(.int .i64 0),(.int .i64 0),(.int .i64 0),(.int .i64 0),(.int .i64 0),(.int .i64 0),(.int .i64 0),(.int .i64 0),(.int .i64 0),(.int .i64 0),(.int .i64 0),(.int .i64 0),(.int .i64 0),(.int .i64 0),(.int .i64 0),(.int .i64 0),(.slice none 0 0),(.slice t16_1.a t16_1.n t16_1.c),(.slice t13_1.a t13_1.n t13_1.c),(.int .i64 0)] w12 fun t18_1 w13 =>loopP (σ:=Int×Unit) (fun I3 s_2 w14 =>cond (decide (s_2.1<((lengths.n:Nat):Int))) (ixK lengths s_2.1 1 fun t23_1 =>ldI .u8 t23_1 w14 fun t24_1 =>cond (decide (t24_1>(15:Int))) (K none 1 w14) (cond (decide (t24_1>(0:Int))) (ixA (t18_1.add 0) 16 t24_1 1 fun t33_1 =>ldI .i64 t33_1 w14.drew fun t34_1 =>ixA (t18_1.add 0) 16 t24_1 1 fun t38_1 =>stK t38_1 [(.int .i64 (IntKind.i64.wrap (t34_1+(1:Int))))] w14.drew fun w15 =>ldI .i64 (t18_1.add 19) w15 fun t43_1 =>stK (t18_1.add 19) [(.int .i64 (if (IntKind.i64.wrap t24_1)>t43_1 then (IntKind.i64.wrap t24_1) else t43_1))] w15 fun w16 =>I3 ((IntKind.i64.wrap (s_2.1+(1:Int))),()) w16) (I3 ((IntKind.i64.wrap (s_2.1+(1:Int))),()) w14))) (joinP (σ:=Unit) (fun s_3 w17 =>c_huff_Table_deal (some t18_1) w17 fun w18 =>K (some t18_1) 0 w18) fun J4 =>c_huff_room lengths w14 fun t51_1 w19 =>cond (t51_1 !=(32768:Int)) (cond (t51_1 !=(0:Int)) (cond (t51_1==(16384:Int)) (ixA (t18_1.add 0) 16 1 1 fun t65_1 =>ldI .i64 t65_1 w19 fun t66_1 =>cond (!(t66_1==(1:Int))) (K none 3 w19) (J4 (()) w19)) (K none 3 w19)) (J4 (()) w19)) (J4 (()) w19))) (0,()) w13) ∧mkSl PG ty_sl_uint32 (.int .i64 ((lengths.n:Nat):Int)) (.int .i64 ((lengths.n:Nat):Int)) w.drew fun t16_2 w20 =>nw ty_uint8 [] w20 fun t11_1 w21 =>apK PG #[ty_sl_uint8,ty_sl_uint8] ty_sl_uint8 (⟨(some t11_1),0,0⟩:Slc) lengths w21 fun t13_2 w22 =>nw ty_huff_Table [(.int .i64 0),(.int .i64 0),(.int .i64 0),(.int .i64 0),(.int .i64 0),(.int .i64 0),(.int .i64 0),(.int .i64 0),(.int .i64 0),(.int .i64 0),(.int .i64 0),(.int .i64 0),(.int .i64 0),(.int .i64 0),(.int .i64 0),(.int .i64 0),(.slice none 0 0),(.slice t16_2.a t16_2.n t16_2.c),(.slice t13_2.a t13_2.n t13_2.c),(.int .i64 0)] w22 fun t18_2 w23 =>loopP (σ:=Int×Unit) (fun I5 s_4 w24 =>cond (decide (s_4.1<((lengths.n:Nat):Int))) (ixK lengths s_4.1 1 fun t23_2 =>ldI .u8 t23_2 w24 fun t24_2 =>cond (decide (t24_2>(15:Int))) (K none 1 w24) (cond (decide (t24_2>(0:Int))) (ixA (t18_2.add 0) 16 t24_2 1 fun t33_2 =>ldI .i64 t33_2 w24.drew fun t34_2 =>ixA (t18_2.add 0) 16 t24_2 1 fun t38_2 =>stK t38_2 [(.int .i64 (IntKind.i64.wrap (t34_2+(1:Int))))] w24.drew fun w25 =>ldI .i64 (t18_2.add 19) w25 fun t43_2 =>stK (t18_2.add 19) [(.int .i64 (if (IntKind.i64.wrap t24_2)>t43_2 then (IntKind.i64.wrap t24_2) else t43_2))] w25 fun w26 =>I5 ((IntKind.i64.wrap (s_4.1+(1:Int))),()) w26) (I5 ((IntKind.i64.wrap (s_4.1+(1:Int))),()) w24))) (joinP (σ:=Unit) (fun s_5 w27 =>c_huff_Table_deal (some t18_2) w27 fun w28 =>K (some t18_2) 0 w28) fun J6 =>c_huff_room lengths w24 fun t51_2 w29 =>cond (t51_2 !=(32768:Int)) (cond (t51_2 !=(0:Int)) (cond (t51_2==(16384:Int)) (ixA (t18_2.add 0) 16 1 1 fun t65_2 =>ldI .i64 t65_2 w29 fun t66_2 =>cond (!(t66_2==(1:Int))) (K none 3 w29) (J6 (()) w29)) (K none 3 w29)) (J6 (()) w29)) (J6 (()) w29))) (0,()) w23)
def an_huff_New:List Ann:=[.none,.none,.none,.none,.none,.none,.none,.join [(21,(Kind.int .i64))] [2,3,6,21,22,23,24,25,26,27,28,29,30,31,32,33,34,35,36,37,38,39,40,41,42,43,44,45,46,47,48,49],.none,.none,.none,.none,.none,.none,.none,.none,.none,.join [] [2,3,7,50,51,52,53,54,55,56,57,58,59,60,61,62,63,64,65,66,67,68,69,70],.none,.none,.none,.none,.none]
theorem vc_huff_New (lengths:Slc) (w:World) (K:Option Addr→Int→World→Prop) :
  vcFn C (Tryz.f145.body.getD .skip) Tryz.f145.results.toList Tryz.f145.ntmps an_huff_New [Kind.ptr,(Kind.int .i64)] [(.slice lengths.a lengths.n lengths.c)] w (fun s w=>K s.1 s.2.1 w)=sh_huff_New lengths w K:=by kernel_rfl
theorem call_huff_New (lengths:Slc) {w:World} {K:Option Addr→Int→World→Prop} (h:sh_huff_New lengths w K):c_huff_New lengths w K:=by
 rw [←vc_huff_New] at h
 refine Calls.mono (cvc C.plain_ok C.mixed Tryz.func145 rfl h) ?_
 rintro e w' ⟨s,rfl,hK⟩
 exact ⟨s.1,s.2.1,rfl,hK⟩
def sh_bits_NewWriter  (w:World) (K:Option Addr→World→Prop):Prop :=nw ty_bits_Writer [(.slice none 0 0),(.int .u64 0),(.int .i64 0)] w fun t2 w1 =>K (some t2) w1
def an_bits_NewWriter:List Ann:=[.none,.none]
theorem vc_bits_NewWriter  (w:World) (K:Option Addr→World→Prop) :
  vcFn C (Tryz.f146.body.getD .skip) Tryz.f146.results.toList Tryz.f146.ntmps an_bits_NewWriter [Kind.ptr] [] w (fun s w=>K s.1 w)=sh_bits_NewWriter  w K:=by kernel_rfl
theorem call_bits_NewWriter  {w:World} {K:Option Addr→World→Prop} (h:sh_bits_NewWriter  w K):c_bits_NewWriter  w K:=by
 rw [←vc_bits_NewWriter] at h
 refine Calls.mono (cvc C.plain_ok C.mixed Tryz.func146 rfl h) ?_
 rintro e w' ⟨s,rfl,hK⟩
 exact ⟨s.1,rfl,hK⟩
def sh_bits_Writer_Bits (wx:Option Addr) (v:Int) (n:Int) (w:World) (K:World→Prop):Prop :=joinP (σ:=Unit) (fun s w1 =>onPtr wx fun t13 =>ldI .u64 (t13.add 1) w1.drew fun t15 =>0≤n ∧onPtr wx fun t23 =>ldI .i64 (t23.add 2) w1.drew fun t25 =>0≤t25 ∧onPtr wx fun t28 =>stK (t28.add 1) [(.int .u64 (bitsR .or .u64 t15 (IntKind.u64.wrap ((bitsR .and .u64 (IntKind.u64.wrap v) (IntKind.u64.wrap ((IntKind.u64.wrap ((1:Int)*2^(min n.toNat IntKind.u64.bits)))-(1:Int))))*2^(min t25.toNat IntKind.u64.bits)))))] w1.drew fun w2 =>onPtr wx fun t31 =>ldI .i64 (t31.add 2) w2 fun t33 =>onPtr wx fun t36 =>stK (t36.add 2) [(.int .i64 (IntKind.i64.wrap (t33+n)))] w2 fun w3 =>loopP (σ:=Unit) (fun I2 s_1 w4 =>onPtr wx fun t39 =>ldI .i64 (t39.add 2) w4 fun t41 =>cond (decide (t41≥(8:Int))) (onPtr wx fun t52 =>ldSl (t52.add 0) w4.drew fun t54 =>onPtr wx fun t56 =>ldI .u64 (t56.add 1) w4.drew fun t58 =>nw ty_uint8 [(.int .u8 (IntKind.u8.wrap t58))] w4.drew fun t60 w5 =>World.cell? w5 (t52.add 0)=some (.slice t54.a t54.n t54.c) ∧apK PG #[ty_sl_uint8,ty_sl_uint8] ty_sl_uint8 t54 (⟨(some t60),1,1⟩:Slc) w5 fun t61 w6 =>onPtr wx fun t62 =>stK (t62.add 0) [(.slice t61.a t61.n t61.c)] w6 fun w7 =>onPtr wx fun t65 =>ldI .u64 (t65.add 1) w7 fun t67 =>0≤(8:Int) ∧onPtr wx fun t69 =>stK (t69.add 1) [(.int .u64 (t67.fdiv (2^(min (8:Int).toNat IntKind.u64.bits))))] w7 fun w8 =>onPtr wx fun t44 =>ldI .i64 (t44.add 2) w8 fun t46 =>onPtr wx fun t48 =>stK (t48.add 2) [(.int .i64 (IntKind.i64.wrap (t46-(8:Int))))] w8 fun w9 =>I2 (()) w9) (K w4)) (()) w3) fun J1 =>cond (decide (n<(1:Int))) (K w) (cond (decide (n>(32:Int))) (K w) (J1 (()) w))
def an_bits_Writer_Bits:List Ann:=[.join [] [6,7,8,9,10,11],.none,.none,.none,.join [] [38,39,40,41,42,43,44,45,46,47,48,49,50,51,52,53,54,55,56,57,58,59,60,61,62,63,64,65,66,67,68,69,70],.none,.none,.none,.none]
theorem vc_bits_Writer_Bits (wx:Option Addr) (v:Int) (n:Int) (w:World) (K:World→Prop) :
  vcFn C (Tryz.f147.body.getD .skip) Tryz.f147.results.toList Tryz.f147.ntmps an_bits_Writer_Bits [] [(.pointer wx),(.int .u32 v),(.int .i64 n)] w (fun s w=>K w)=sh_bits_Writer_Bits wx v n w K:=by kernel_rfl
theorem call_bits_Writer_Bits (wx:Option Addr) (v:Int) (n:Int) {w:World} {K:World→Prop} (h:sh_bits_Writer_Bits wx v n w K):c_bits_Writer_Bits wx v n w K:=by
 rw [←vc_bits_Writer_Bits] at h
 refine Calls.mono (cvc C.plain_ok C.mixed Tryz.func147 rfl h) ?_
 rintro e w' ⟨s,rfl,hK⟩
 exact ⟨rfl,hK⟩
def sh_huff_Table_Code (t:Option Addr) (symbol:Int) (w:World) (K:Int→Int→World→Prop):Prop :=joinP (σ:=Unit) (fun s w1 =>onPtr t fun t28 =>ldSl (t28.add 17) w1.drew fun t30 =>ixK t30 symbol 1 fun t32 =>ldI .u32 t32 w1.drew fun t33 =>onPtr t fun t35 =>ldSl (t35.add 18) w1.drew fun t37 =>ixK t37 symbol 1 fun t39 =>ldI .u8 t39 w1.drew fun t40 =>K t33 (IntKind.i64.wrap t40) w1.drew) fun J1 =>cond (decide (symbol<(0:Int))) (K 0 0 w) (onPtr t fun t11 =>ldSl (t11.add 18) w fun t13 =>cond (decide (symbol≥((t13.n:Nat):Int))) (K 0 0 w) (onPtr t fun t19 =>ldSl (t19.add 18) w fun t21 =>ixK t21 symbol 1 fun t23 =>ldI .u8 t23 w fun t24 =>cond (t24==(0:Int)) (K 0 0 w) (J1 (()) w)))
def an_huff_Table_Code:List Ann:=[.none,.join [] [4,5,6,7,8,9,10,11,12,13,14,15,16,17,18,19,20,21,22,23,24,25,26],.none,.none,.none]
theorem vc_huff_Table_Code (t:Option Addr) (symbol:Int) (w:World) (K:Int→Int→World→Prop) :
  vcFn C (Tryz.f148.body.getD .skip) Tryz.f148.results.toList Tryz.f148.ntmps an_huff_Table_Code [(Kind.int .u32),(Kind.int .i64)] [(.pointer t),(.int .i64 symbol)] w (fun s w=>K s.1 s.2.1 w)=sh_huff_Table_Code t symbol w K:=by kernel_rfl
theorem call_huff_Table_Code (t:Option Addr) (symbol:Int) {w:World} {K:Int→Int→World→Prop} (h:sh_huff_Table_Code t symbol w K):c_huff_Table_Code t symbol w K:=by
 rw [←vc_huff_Table_Code] at h
 refine Calls.mono (cvc C.plain_ok C.mixed Tryz.func148 rfl h) ?_
 rintro e w' ⟨s,rfl,hK⟩
 exact ⟨s.1,s.2.1,rfl,hK⟩
def sh_bits_Writer_Done (wx:Option Addr) (w:World) (K:Slc→World→Prop):Prop :=onPtr wx fun t5 =>ldSl (t5.add 0) w fun t7 =>c_slices_Clone_byte_byte t7 w fun t8 w1 =>onPtr wx fun t10 =>ldI .i64 (t10.add 2) w1 fun t12 =>cond (decide (t12>(0:Int))) (onPtr wx fun t16 =>ldI .u64 (t16.add 1) w1 fun t18 =>nw ty_uint8 [(.int .u8 (IntKind.u8.wrap t18))] w1 fun t20 w2 =>apK PG #[ty_sl_uint8,ty_sl_uint8] ty_sl_uint8 t8 (⟨(some t20),1,1⟩:Slc) w2 fun t21 w3 =>K t21 w3) (K t8 w1)
def an_bits_Writer_Done:List Ann:=[.none,.none,.none,.none,.none]
theorem vc_bits_Writer_Done (wx:Option Addr) (w:World) (K:Slc→World→Prop) :
  vcFn C (Tryz.f149.body.getD .skip) Tryz.f149.results.toList Tryz.f149.ntmps an_bits_Writer_Done [Kind.slice] [(.pointer wx)] w (fun s w=>K s.1 w)=sh_bits_Writer_Done wx w K:=by kernel_rfl
theorem call_bits_Writer_Done (wx:Option Addr) {w:World} {K:Slc→World→Prop} (h:sh_bits_Writer_Done wx w K):c_bits_Writer_Done wx w K:=by
 rw [←vc_bits_Writer_Done] at h
 refine Calls.mono (cvc C.plain_ok C.mixed Tryz.func149 rfl h) ?_
 rintro e w' ⟨s,rfl,hK⟩
 exact ⟨s.1,rfl,hK⟩
def sh_filter_Passes  (w:World) (K:Slc→World→Prop):Prop :=nw ty_filter_Pass [(.int .i64 0),(.int .i64 0),(.int .i64 8),(.int .i64 8),(.int .i64 4),(.int .i64 0),(.int .i64 8),(.int .i64 8),(.int .i64 0),(.int .i64 4),(.int .i64 4),(.int .i64 8),(.int .i64 2),(.int .i64 0),(.int .i64 4),(.int .i64 4),(.int .i64 0),(.int .i64 2),(.int .i64 2),(.int .i64 4),(.int .i64 1),(.int .i64 0),(.int .i64 2),(.int .i64 2),(.int .i64 0),(.int .i64 1),(.int .i64 1),(.int .i64 2)] w fun t8 w1 =>K (⟨(some t8),7,7⟩:Slc) w1
def an_filter_Passes:List Ann:=[.none,.none]
theorem vc_filter_Passes  (w:World) (K:Slc→World→Prop) :
  vcFn C (Tryz.f158.body.getD .skip) Tryz.f158.results.toList Tryz.f158.ntmps an_filter_Passes [Kind.slice] [] w (fun s w=>K s.1 w)=sh_filter_Passes  w K:=by kernel_rfl
theorem call_filter_Passes  {w:World} {K:Slc→World→Prop} (h:sh_filter_Passes  w K):c_filter_Passes  w K:=by
 rw [←vc_filter_Passes] at h
 refine Calls.mono (cvc C.plain_ok C.mixed Tryz.func158 rfl h) ?_
 rintro e w' ⟨s,rfl,hK⟩
 exact ⟨s.1,rfl,hK⟩
def sh_filter_isSide (n:Int) (w:World) (K:Bool→World→Prop):Prop :=cond (decide (n≥(1:Int))) (K (decide (n≤(16384:Int))) w) (K false w)
def an_filter_isSide:List Ann:=[.none,.none]
theorem vc_filter_isSide (n:Int) (w:World) (K:Bool→World→Prop) :
  vcFn C (Tryz.f159.body.getD .skip) Tryz.f159.results.toList Tryz.f159.ntmps an_filter_isSide [Kind.bool] [(.int .i64 n)] w (fun s w=>K s.1 w)=sh_filter_isSide n w K:=by kernel_rfl
theorem call_filter_isSide (n:Int) {w:World} {K:Bool→World→Prop} (h:sh_filter_isSide n w K):c_filter_isSide n w K:=by
 rw [←vc_filter_isSide] at h
 refine Calls.mono (cvc C.plain_ok C.mixed Tryz.func159 rfl h) ?_
 rintro e w' ⟨s,rfl,hK⟩
 exact ⟨s.1,rfl,hK⟩
def sh_filter_Paeth (a:Int) (b:Int) (c:Int) (w:World) (K:Int→World→Prop):Prop :=nw ty_uint8 [(.int .u8 a)] w fun a_1 w1 =>nw ty_uint8 [(.int .u8 b)] w1 fun b_1 w2 =>nw ty_uint8 [(.int .u8 c)] w2 fun c_1 w3 =>joinP (σ:=Bool×Unit) (fun s w4 =>cond s.1 (ldI .u8 a_1 w4 fun t26 =>K t26 w4) (ldI .u8 b_1 w4.drew fun t29 =>ldI .u8 c_1 w4.drew fun t32 =>c_filter_Paeth_1 t29 a_1 b_1 c_1 w4.drew fun t30 w5 =>World.cell? w5 c_1=some (.int .u8 t32) ∧c_filter_Paeth_1 t32 a_1 b_1 c_1 w5 fun t33 w6 =>cond (decide (t30≤t33)) (ldI .u8 b_1 w6 fun t35 =>K t35 w6) (ldI .u8 c_1 w6 fun t36 =>K t36 w6))) fun J1 =>ldI .u8 a_1 w3.drew fun t11 =>ldI .u8 b_1 w3.drew fun t14 =>c_filter_Paeth_1 t11 a_1 b_1 c_1 w3.drew fun t12 w7 =>World.cell? w7 b_1=some (.int .u8 t14) ∧c_filter_Paeth_1 t14 a_1 b_1 c_1 w7 fun t15 w8 =>cond (decide (t12≤t15)) (ldI .u8 a_1 w8 fun t19 =>ldI .u8 c_1 w8 fun t22 =>c_filter_Paeth_1 t19 a_1 b_1 c_1 w8 fun t20 w9 =>World.cell? w9 c_1=some (.int .u8 t22) ∧c_filter_Paeth_1 t22 a_1 b_1 c_1 w9 fun t23 w10 =>J1 ((decide (t20≤t23)),()) w10) (J1 (false,()) w8)
def an_filter_Paeth:List Ann:=[.none,.none,.none,.join [(9,Kind.bool)] [9,10,11,12,13,14,15,16,17,18,19,20,21,22,23,24,25],.none,.none,.none,.none]
theorem vc_filter_Paeth (a:Int) (b:Int) (c:Int) (w:World) (K:Int→World→Prop) :
  vcFn C (Tryz.f160.body.getD .skip) Tryz.f160.results.toList Tryz.f160.ntmps an_filter_Paeth [(Kind.int .u8)] [(.int .u8 a),(.int .u8 b),(.int .u8 c)] w (fun s w=>K s.1 w)=sh_filter_Paeth a b c w K:=by kernel_rfl
theorem call_filter_Paeth (a:Int) (b:Int) (c:Int) {w:World} {K:Int→World→Prop} (h:sh_filter_Paeth a b c w K):c_filter_Paeth a b c w K:=by
 rw [←vc_filter_Paeth] at h
 refine Calls.mono (cvc C.plain_ok C.mixed Tryz.func160 rfl h) ?_
 rintro e w' ⟨s,rfl,hK⟩
 exact ⟨s.1,rfl,hK⟩
def sh_png_file_colors (f:Option Addr) (b:Slc) (w:World) (K:Bool→World→Prop):Prop :=(3:Int)≠0 ∧joinP (σ:=Unit) (fun s w1 =>onPtr f fun t70 =>stK (t70.add 5) [(.slice b.a b.n b.c)] w1 fun w2 =>onPtr f fun t72 =>stK (t72.add 7) [(.bool true)] w2 fun w3 =>K true w3) fun J1 =>onPtr f fun t10 =>ldB (t10.add 7) w fun t12 =>cond t12 (K false w) (onPtr f fun t15 =>ldB (t15.add 10) w fun t17 =>cond t17 (K false w) (onPtr f fun t21 =>ldI .i64 ((t21.add 0).add 3) w fun t24 =>cond (t24==(0:Int)) (K false w) (onPtr f fun t29 =>ldI .i64 ((t29.add 0).add 3) w fun t32 =>cond (t32==(4:Int)) (K false w) ((3:Int)≠0 ∧cond ((((b.n:Nat):Int).tmod (3:Int)) !=(0:Int)) (K false w) (cond (decide ((IntKind.i64.wrap (((b.n:Nat):Int).tdiv (3:Int)))<(1:Int))) (K false w) (cond (decide ((IntKind.i64.wrap (((b.n:Nat):Int).tdiv (3:Int)))>(256:Int))) (K false w) (onPtr f fun t51 =>ldI .i64 ((t51.add 0).add 3) w fun t54 =>cond (t54==(3:Int)) (onPtr f fun t59 =>ldI .i64 ((t59.add 0).add 2) w fun t62 =>0≤t62 ∧cond (decide ((IntKind.i64.wrap (((b.n:Nat):Int).tdiv (3:Int)))>(IntKind.i64.wrap ((1:Int)*2^(min t62.toNat IntKind.i64.bits))))) (K false w) (J1 (()) w)) (J1 (()) w))))))))
def an_png_file_colors:List Ann:=[.none,.none,.join [] [4,9,10,11,12,13,14,15,16,17,18,19,20,21,22,23,24,25,26,27,28,29,30,31,32,33,34,35,36,37,38,39,40,41,42,43,44,45,46,47,48,49,50,51,52,53,54,55,56,57,58,59,60,61,62,63,64,65,66],.none,.none,.none,.none]
theorem vc_png_file_colors (f:Option Addr) (b:Slc) (w:World) (K:Bool→World→Prop) :
  vcFn C (Tryz.f161.body.getD .skip) Tryz.f161.results.toList Tryz.f161.ntmps an_png_file_colors [Kind.bool] [(.pointer f),(.slice b.a b.n b.c)] w (fun s w=>K s.1 w)=sh_png_file_colors f b w K:=by kernel_rfl
theorem call_png_file_colors (f:Option Addr) (b:Slc) {w:World} {K:Bool→World→Prop} (h:sh_png_file_colors f b w K):c_png_file_colors f b w K:=by
 rw [←vc_png_file_colors] at h
 refine Calls.mono (cvc C.plain_ok C.mixed Tryz.func161 rfl h) ?_
 rintro e w' ⟨s,rfl,hK⟩
 exact ⟨s.1,rfl,hK⟩
def sh_png_file_clear (f:Option Addr) (b:Slc) (w:World) (K:Bool→World→Prop):Prop :=joinP (σ:=Bool×Unit) (fun s w1 =>joinP (σ:=Unit) (fun s_1 w2 =>onPtr f fun t55 =>stK (t55.add 6) [(.slice b.a b.n b.c)] w2 fun w3 =>onPtr f fun t57 =>stK (t57.add 8) [(.bool true)] w3 fun w4 =>K true w4) fun J2 =>cond (!s.1) (K false w1) (onPtr f fun t42 =>ldB (t42.add 8) w1 fun t44 =>cond t44 (K false w1) (onPtr f fun t48 =>ldB (t48.add 10) w1 fun t50 =>cond t50 (K false w1) (J2 (()) w1)))) fun J1 =>onPtr f fun t7 =>ldI .i64 ((t7.add 0).add 3) w fun t10 =>cond (t10==(0:Int)) (J1 ((((b.n:Nat):Int)==(2:Int)),()) w) (cond (t10==(2:Int)) (J1 ((((b.n:Nat):Int)==(6:Int)),()) w) (cond (t10==(3:Int)) (onPtr f fun t24 =>ldB (t24.add 7) w fun t26 =>cond t26 (onPtr f fun t31 =>ldSl (t31.add 5) w fun t33 =>(3:Int)≠0 ∧J1 ((decide (((b.n:Nat):Int)≤(IntKind.i64.wrap (((t33.n:Nat):Int).tdiv (3:Int))))),()) w) (J1 (false,()) w)) (J1 (false,()) w)))
def an_png_file_clear:List Ann:=[.none,.none,.join [(5,Kind.bool)] [5,6,7,8,9,10,11,12,13,14,15,16,17,18,19,20,21,22,23,24,25,26,27,28,29,30,31,32,33,34,35,36,37],.none,.none,.none,.none,.join [] [4,38,39,40,41,42,43,44,45,46,47,48,49,50,51],.none,.none,.none,.none]
theorem vc_png_file_clear (f:Option Addr) (b:Slc) (w:World) (K:Bool→World→Prop) :
  vcFn C (Tryz.f162.body.getD .skip) Tryz.f162.results.toList Tryz.f162.ntmps an_png_file_clear [Kind.bool] [(.pointer f),(.slice b.a b.n b.c)] w (fun s w=>K s.1 w)=sh_png_file_clear f b w K:=by kernel_rfl
theorem call_png_file_clear (f:Option Addr) (b:Slc) {w:World} {K:Bool→World→Prop} (h:sh_png_file_clear f b w K):c_png_file_clear f b w K:=by
 rw [←vc_png_file_clear] at h
 refine Calls.mono (cvc C.plain_ok C.mixed Tryz.func162 rfl h) ?_
 rintro e w' ⟨s,rfl,hK⟩
 exact ⟨s.1,rfl,hK⟩
def sh_filter_isDepth (n:Int) (w:World) (K:Bool→World→Prop):Prop :=cond (n==(1:Int)) (K true w) (cond (n==(2:Int)) (K true w) (cond (n==(4:Int)) (K true w) (cond (n==(8:Int)) (K true w) (K (n==(16:Int)) w))))
def an_filter_isDepth:List Ann:=[.none,.none]
theorem vc_filter_isDepth (n:Int) (w:World) (K:Bool→World→Prop) :
  vcFn C (Tryz.f163.body.getD .skip) Tryz.f163.results.toList Tryz.f163.ntmps an_filter_isDepth [Kind.bool] [(.int .i64 n)] w (fun s w=>K s.1 w)=sh_filter_isDepth n w K:=by kernel_rfl
theorem call_filter_isDepth (n:Int) {w:World} {K:Bool→World→Prop} (h:sh_filter_isDepth n w K):c_filter_isDepth n w K:=by
 rw [←vc_filter_isDepth] at h
 refine Calls.mono (cvc C.plain_ok C.mixed Tryz.func163 rfl h) ?_
 rintro e w' ⟨s,rfl,hK⟩
 exact ⟨s.1,rfl,hK⟩
end Go.Proofs.YtmagnpcgpinmcaaGreat
