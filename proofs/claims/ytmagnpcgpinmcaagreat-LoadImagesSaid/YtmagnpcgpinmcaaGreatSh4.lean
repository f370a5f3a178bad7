import Derived.Test.YtmagnpcgpinmcaaGreatDefs
set_option maxRecDepth 100000
set_option linter.unusedVariables false
namespace Go.Proofs.YtmagnpcgpinmcaaGreat
open Go.Vc
def sh_inflate_New (most:Int) (w:World) (K:Option Addr→Int→World→Prop):Prop :=joinP (σ:=Unit) (fun s w1 =>nw ty_inflate_Decoder [(.int .i64 most),(.int .i64 0),(.bool false),(.slice none 0 0),(.int .i64 0),(.int .i64 0),(.pointer none),(.pointer none),(.slice none 0 0),(.int .i64 0),(.int .i64 0),(.int .i64 0),(.int .i64 0),(.int .i64 0),(.slice none 0 0)] w1 fun t12 w2 =>K (some t12) 0 w2) fun J1 =>cond (decide (most<(0:Int))) (K none 1 w) (cond (decide (most>(1073741824:Int))) (K none 1 w) (J1 (()) w))
def an_inflate_New:List Ann:=[.none,.join [] [2,3,4,5,6,7,8,9],.none,.none,.none]
theorem vc_inflate_New (most:Int) (w:World) (K:Option Addr→Int→World→Prop) :
  vcFn C (Tryz.f164.body.getD .skip) Tryz.f164.results.toList Tryz.f164.ntmps an_inflate_New [Kind.ptr,(Kind.int .i64)] [(.int .i64 most)] w (fun s w=>K s.1 s.2.1 w)=sh_inflate_New most w K:=by kernel_rfl
theorem call_inflate_New (most:Int) {w:World} {K:Option Addr→Int→World→Prop} (h:sh_inflate_New most w K):c_inflate_New most w K:=by
 rw [←vc_inflate_New] at h
 refine Calls.mono (cvc C.plain_ok C.mixed Tryz.func164 rfl h) ?_
 rintro e w' ⟨s,rfl,hK⟩
 exact ⟨s.1,s.2.1,rfl,hK⟩
def sh_zlib_Decoder_begin (d:Option Addr) (c:Int) (w:World) (K:Bool→World→Prop):Prop :=onPtr d fun t7 =>ldSl (t7.add 1) w fun t9 =>nw ty_uint8 [(.int .u8 c)] w fun t11 w1 =>apK PG #[ty_sl_uint8,ty_sl_uint8] ty_sl_uint8 t9 (⟨(some t11),1,1⟩:Slc) w1 fun t12 w2 =>onPtr d fun t13 =>stK (t13.add 1) [(.slice t12.a t12.n t12.c)] w2 fun w3 =>onPtr d fun t16 =>ldSl (t16.add 1) w3 fun t18 =>cond (decide (((t18.n:Nat):Int)<(2:Int))) (cond ((bitsR .and .u8 c (15:Int))==(8:Int)) (0≤(4:Int) ∧K (decide ((c.fdiv (2^(min (4:Int).toNat IntKind.u8.bits)))≤(7:Int))) w3) (K false w3)) (onPtr d fun t30 =>ldSl (t30.add 1) w3 fun t32 =>ixK t32 0 1 fun t33 =>ldI .u8 t33 w3 fun t34 =>0≤(8:Int) ∧(31:Int)≠0 ∧cond (((bitsR .or .i64 (IntKind.i64.wrap ((IntKind.i64.wrap t34)*2^(min (8:Int).toNat IntKind.i64.bits))) (IntKind.i64.wrap c)).tmod (31:Int))==(0:Int)) (K ((bitsR .and .u8 c (32:Int))==(0:Int)) w3) (K false w3))
def an_zlib_Decoder_begin:List Ann:=[.none,.none,.none,.none,.none,.none]
theorem vc_zlib_Decoder_begin (d:Option Addr) (c:Int) (w:World) (K:Bool→World→Prop) :
  vcFn C (Tryz.f165.body.getD .skip) Tryz.f165.results.toList Tryz.f165.ntmps an_zlib_Decoder_begin [Kind.bool] [(.pointer d),(.int .u8 c)] w (fun s w=>K s.1 w)=sh_zlib_Decoder_begin d c w K:=by kernel_rfl
theorem call_zlib_Decoder_begin (d:Option Addr) (c:Int) {w:World} {K:Bool→World→Prop} (h:sh_zlib_Decoder_begin d c w K):c_zlib_Decoder_begin d c w K:=by
 rw [←vc_zlib_Decoder_begin] at h
 refine Calls.mono (cvc C.plain_ok C.mixed Tryz.func165 rfl h) ?_
 rintro e w' ⟨s,rfl,hK⟩
 exact ⟨s.1,rfl,hK⟩
def sh_zlib_Decoder_fail (d:Option Addr) (e:Int) (w:World) (K:Int→World→Prop):Prop :=onPtr d fun t7 =>stK (t7.add 5) [(.int .i64 e)] w fun w1 =>K e w1
def an_zlib_Decoder_fail:List Ann:=[.none,.none,.none]
theorem vc_zlib_Decoder_fail (d:Option Addr) (e:Int) (w:World) (K:Int→World→Prop) :
  vcFn C (Tryz.f166.body.getD .skip) Tryz.f166.results.toList Tryz.f166.ntmps an_zlib_Decoder_fail [(Kind.int .i64)] [(.pointer d),(.int .i64 e)] w (fun s w=>K s.1 w)=sh_zlib_Decoder_fail d e w K:=by kernel_rfl
theorem call_zlib_Decoder_fail (d:Option Addr) (e:Int) {w:World} {K:Int→World→Prop} (h:sh_zlib_Decoder_fail d e w K):c_zlib_Decoder_fail d e w K:=by
 rw [←vc_zlib_Decoder_fail] at h
 refine Calls.mono (cvc C.plain_ok C.mixed Tryz.func166 rfl h) ?_
 rintro e w' ⟨s,rfl,hK⟩
 exact ⟨s.1,rfl,hK⟩
def sh_inflate_Decoder_Given (d:Option Addr) (w:World) (K:Int→World→Prop):Prop :=onPtr d fun t4 =>ldI .i64 (t4.add 12) w fun t6 =>K t6 w
def an_inflate_Decoder_Given:List Ann:=[.none,.none]
theorem vc_inflate_Decoder_Given (d:Option Addr) (w:World) (K:Int→World→Prop) :
  vcFn C (Tryz.f167.body.getD .skip) Tryz.f167.results.toList Tryz.f167.ntmps an_inflate_Decoder_Given [(Kind.int .i64)] [(.pointer d)] w (fun s w=>K s.1 w)=sh_inflate_Decoder_Given d w K:=by kernel_rfl
theorem call_inflate_Decoder_Given (d:Option Addr) {w:World} {K:Int→World→Prop} (h:sh_inflate_Decoder_Given d w K):c_inflate_Decoder_Given d w K:=by
 rw [←vc_inflate_Decoder_Given] at h
 refine Calls.mono (cvc C.plain_ok C.mixed Tryz.func167 rfl h) ?_
 rintro e w' ⟨s,rfl,hK⟩
 exact ⟨s.1,rfl,hK⟩
def sh_inflate_Decoder_Write (d:Option Addr) (b:Slc) (w:World) (K:Slc→Int→World→Prop):Prop :=onPtr d fun t12 =>ldI .i64 (t12.add 12) w fun t14 =>onPtr d fun t18 =>stK (t18.add 12) [(.int .i64 (IntKind.i64.wrap (t14+((b.n:Nat):Int))))] w fun w1 =>onPtr d fun t22 =>ldI .i64 (t22.add 13) w1 fun t24 =>cond (t24 !=(0:Int)) (onPtr d fun t27 =>ldI .i64 (t27.add 13) w1.drew fun t29 =>K (⟨none,0,0⟩:Slc) t29 w1.drew) (onPtr d fun t32 =>ldI .i64 (t32.add 1) w1 fun t34 =>cond (t34==(5:Int)) (K (⟨none,0,0⟩:Slc) 0 w1) (onPtr d fun t38 =>ldSl (t38.add 3) w1 fun t40 =>nw ty_sl_uint8 [(.slice t40.a t40.n t40.c),(.slice b.a b.n b.c)] w1 fun t42 w2 =>c_slices_Concat_byte_byte (⟨(some t42),2,2⟩:Slc) w2 fun t43 w3 =>onPtr d fun t44 =>stK (t44.add 3) [(.slice t43.a t43.n t43.c)] w3 fun w4 =>onPtr d fun t47 =>ldSl (t47.add 3) w4 fun t49 =>c_bits_NewReader t49 w4 fun t50 w5 =>onPtr d fun t53 =>ldI .i64 (t53.add 4) w5 fun t55 =>c_bits_Reader_Bits t50 t55 w5 fun t56 t56_1 w6 =>loopP (σ:=Int×Unit) (fun I1 s w7 =>joinP (σ:=Unit) (fun s_1 w8 =>c_bits_Reader_At t50 w8 fun t67 w9 =>c_inflate_Decoder_step d t50 w9 fun t70 w10 =>cond (t70==(2:Int)) (c_bits_Reader_Back t50 t67 w10 fun w11 =>I1 (t70,()) w11) (I1 (t70,()) w10)) fun J2 =>cond (s.1==(0:Int)) (onPtr d fun t61 =>ldI .i64 (t61.add 1) w7 fun t63 =>cond (t63 !=(5:Int)) (J2 (()) w7) (c_bits_Reader_At t50 w7 fun t77 w12 =>(8:Int)≠0 ∧joinP (σ:=Int×Unit) (fun s_2 w13 =>onPtr d fun t89 =>ldI .i64 (t89.add 11) w13 fun t91 =>onPtr d fun t94 =>stK (t94.add 11) [(.int .i64 (IntKind.i64.wrap (t91+s_2.1)))] w13 fun w14 =>c_bits_Reader_At t50 w14 fun t98 w15 =>(8:Int)≠0 ∧onPtr d fun t100 =>stK (t100.add 4) [(.int .i64 (t98.tmod (8:Int)))] w15 fun w16 =>onPtr d fun t104 =>ldSl (t104.add 3) w16 fun t106 =>slK t106 (some s_2.1) none 1 fun t108 =>c_slices_Clone_byte_byte t108 w16 fun t109 w17 =>onPtr d fun t110 =>stK (t110.add 3) [(.slice t109.a t109.n t109.c)] w17 fun w18 =>joinP (σ:=Unit) (fun s_3 w19 =>onPtr d fun t121 =>ldSl (t121.add 14) w19 fun t123 =>onPtr d fun t125 =>stK (t125.add 14) [(.slice none 0 0)] w19 fun w20 =>joinP (σ:=Unit) (fun s_4 w21 =>onPtr d fun t145 =>ldI .i64 (t145.add 10) w21 fun t147 =>onPtr d fun t151 =>stK (t151.add 10) [(.int .i64 (IntKind.i64.wrap (t147+((t123.n:Nat):Int))))] w21 fun w22 =>K t123 0 w22) fun J5 =>joinP (σ:=Bool×Unit) (fun s_5 w23 =>cond s_5.1 (onPtr d fun t137 =>stK (t137.add 13) [(.int .i64 s.1)] w23 fun w24 =>onPtr d fun t139 =>stK (t139.add 3) [(.slice none 0 0)] w24 fun w25 =>onPtr d fun t141 =>stK (t141.add 8) [(.slice none 0 0)] w25 fun w26 =>K (⟨none,0,0⟩:Slc) s.1 w26) (J5 (()) w23)) fun J6 =>cond (s.1 !=(0:Int)) (J6 ((s.1 !=(2:Int)),()) w20) (J6 (false,()) w20)) fun J4 =>onPtr d fun t113 =>ldI .i64 (t113.add 1) w18 fun t115 =>cond (t115==(5:Int)) (onPtr d fun t118 =>stK (t118.add 3) [(.slice none 0 0)] w18 fun w27 =>J4 (()) w27) (J4 (()) w18)) fun J3 =>onPtr d fun t80 =>ldI .i64 (t80.add 1) w12 fun t82 =>cond (t82==(5:Int)) (c_bits_Reader_At t50 w12 fun t85 w28 =>(8:Int)≠0 ∧J3 ((IntKind.i64.wrap ((IntKind.i64.wrap (t85+(7:Int))).tdiv (8:Int))),()) w28) (J3 ((IntKind.i64.wrap (t77.tdiv (8:Int))),()) w12))) (c_bits_Reader_At t50 w7 fun t77_1 w29 =>(8:Int)≠0 ∧joinP (σ:=Int×Unit) (fun s_6 w30 =>onPtr d fun t89_1 =>ldI .i64 (t89_1.add 11) w30 fun t91_1 =>onPtr d fun t94_1 =>stK (t94_1.add 11) [(.int .i64 (IntKind.i64.wrap (t91_1+s_6.1)))] w30 fun w31 =>c_bits_Reader_At t50 w31 fun t98_1 w32 =>(8:Int)≠0 ∧onPtr d fun t100_1 =>stK (t100_1.add 4) [(.int .i64 (t98_1.tmod (8:Int)))] w32 fun w33 =>onPtr d fun t104_1 =>ldSl (t104_1.add 3) w33 fun t106_1 =>slK t106_1 (some s_6.1) none 1 fun t108_1 =>c_slices_Clone_byte_byte t108_1 w33 fun t109_1 w34 =>onPtr d fun t110_1 =>stK (t110_1.add 3) [(.slice t109_1.a t109_1.n t109_1.c)] w34 fun w35 =>joinP (σ:=Unit) (fun s_7 w36 =>onPtr d fun t121_1 =>ldSl (t121_1.add 14) w36 fun t123_1 =>onPtr d fun t125_1 =>stK (t125_1.add 14) [(.slice none 0 0)] w36 fun w37 =>joinP (σ:=Unit) (fun s_8 w38 =>onPtr d fun t145_1 =>ldI .i64 (t145_1.add 10) w38 fun t147_1 =>onPtr d fun t151_1 =>stK (t151_1.add 10) [(.int .i64 (IntKind.i64.wrap (t147_1+((t123_1.n:Nat):Int))))] w38 fun w39 =>K t123_1 0 w39) fun J9 =>joinP (σ:=Bool×Unit) (fun s_9 w40 =>cond s_9.1 (onPtr d fun t137_1 =>stK (t137_1.add 13) [(.int .i64 s.1)] w40 fun w41 =>onPtr d fun t139_1 =>stK (t139_1.add 3) [(.slice none 0 0)] w41 fun w42 =>onPtr d fun t141_1 =>stK (t141_1.add 8) [(.slice none 0 0)] w42 fun w43 =>K (⟨none,0,0⟩:Slc) s.1 w43) (J9 (()) w40)) fun J10 =>cond (s.1 !=(0:Int)) (J10 ((s.1 !=(2:Int)),()) w37) (J10 (false,()) w37)) fun J8 =>onPtr d fun t113_1 =>ldI .i64 (t113_1.add 1) w35 fun t115_1 =>cond (t115_1==(5:Int)) (onPtr d fun t118_1 =>stK (t118_1.add 3) [(.slice none 0 0)] w35 fun w44 =>J8 (()) w44) (J8 (()) w35)) fun J7 =>onPtr d fun t80_1 =>ldI .i64 (t80_1.add 1) w29 fun t82_1 =>cond (t82_1==(5:Int)) (c_bits_Reader_At t50 w29 fun t85_1 w45 =>(8:Int)≠0 ∧J7 ((IntKind.i64.wrap ((IntKind.i64.wrap (t85_1+(7:Int))).tdiv (8:Int))),()) w45) (J7 ((IntKind.i64.wrap (t77_1.tdiv (8:Int))),()) w29))) (0,()) w6))
def an_inflate_Decoder_Write:List Ann:=[.none,.none,.none,.none,.none,.none,.none,.none,.none,.none,.none,.none,.join [(7,(Kind.int .i64))] [7,8,57,58,59,60,61,62,63,64,65,66,67,68,69,70,71,72,73,74,75],.join [] [57,58,59,60,61,62,63,64,65],.none,.none,.none,.none,.none,.join [(9,(Kind.int .i64))] [9,79,80,81,82,83,84,85,86,87],.none,.none,.none,.none,.join [] [112,113,114,115,116,117,118,119],.none,.none,.none,.join [] [4,5,127,128,129,130,131,132,133,134,135,136,137,138,139,140,141,142,143],.join [(132,Kind.bool)] [127,128,129,130,131,132],.none,.none,.none,.none]
theorem vc_inflate_Decoder_Write (d:Option Addr) (b:Slc) (w:World) (K:Slc→Int→World→Prop) :
  vcFn C (Tryz.f168.body.getD .skip) Tryz.f168.results.toList Tryz.f168.ntmps an_inflate_Decoder_Write [Kind.slice,(Kind.int .i64)] [(.pointer d),(.slice b.a b.n b.c)] w (fun s w=>K s.1 s.2.1 w)=sh_inflate_Decoder_Write d b w K:=by kernel_rfl
theorem call_inflate_Decoder_Write (d:Option Addr) (b:Slc) {w:World} {K:Slc→Int→World→Prop} (h:sh_inflate_Decoder_Write d b w K):c_inflate_Decoder_Write d b w K:=by
 rw [←vc_inflate_Decoder_Write] at h
 refine Calls.mono (cvc C.plain_ok C.mixed Tryz.func168 rfl h) ?_
 rintro e w' ⟨s,rfl,hK⟩
 exact ⟨s.1,s.2.1,rfl,hK⟩
def sh_inflate_Decoder_Done (d:Option Addr) (w:World) (K:Bool→World→Prop):Prop :=onPtr d fun t4 =>ldI .i64 (t4.add 1) w fun t6 =>cond (t6==(5:Int)) (onPtr d fun t10 =>ldI .i64 (t10.add 13) w fun t12 =>K (t12==(0:Int)) w) (K false w)
def an_inflate_Decoder_Done:List Ann:=[.none,.none]
theorem vc_inflate_Decoder_Done (d:Option Addr) (w:World) (K:Bool→World→Prop) :
  vcFn C (Tryz.f169.body.getD .skip) Tryz.f169.results.toList Tryz.f169.ntmps an_inflate_Decoder_Done [Kind.bool] [(.pointer d)] w (fun s w=>K s.1 w)=sh_inflate_Decoder_Done d w K:=by kernel_rfl
theorem call_inflate_Decoder_Done (d:Option Addr) {w:World} {K:Bool→World→Prop} (h:sh_inflate_Decoder_Done d w K):c_inflate_Decoder_Done d w K:=by
 rw [←vc_inflate_Decoder_Done] at h
 refine Calls.mono (cvc C.plain_ok C.mixed Tryz.func169 rfl h) ?_
 rintro e w' ⟨s,rfl,hK⟩
 exact ⟨s.1,rfl,hK⟩
def sh_inflate_Decoder_Used (d:Option Addr) (w:World) (K:Int→World→Prop):Prop :=c_inflate_Decoder_Done d w fun t4 w1 =>cond t4 (onPtr d fun t6 =>ldI .i64 (t6.add 11) w1 fun t8 =>K t8 w1) (onPtr d fun t10 =>ldI .i64 (t10.add 12) w1 fun t12 =>K t12 w1)
def an_inflate_Decoder_Used:List Ann:=[.none,.none,.none,.none,.none]
theorem vc_inflate_Decoder_Used (d:Option Addr) (w:World) (K:Int→World→Prop) :
  vcFn C (Tryz.f170.body.getD .skip) Tryz.f170.results.toList Tryz.f170.ntmps an_inflate_Decoder_Used [(Kind.int .i64)] [(.pointer d)] w (fun s w=>K s.1 w)=sh_inflate_Decoder_Used d w K:=by kernel_rfl
theorem call_inflate_Decoder_Used (d:Option Addr) {w:World} {K:Int→World→Prop} (h:sh_inflate_Decoder_Used d w K):c_inflate_Decoder_Used d w K:=by
 rw [←vc_inflate_Decoder_Used] at h
 refine Calls.mono (cvc C.plain_ok C.mixed Tryz.func170 rfl h) ?_
 rintro e w' ⟨s,rfl,hK⟩
 exact ⟨s.1,rfl,hK⟩
def sh_pixel_size (wx:Int) (hx:Int) (w:World) (K:Bool→World→Prop):Prop :=cond (wx==(0:Int)) (cond (hx==(0:Int)) (K true w) (cond (decide (wx≥(1:Int))) (cond (decide (wx≤(16384:Int))) (cond (decide (hx≥(1:Int))) (cond (decide (hx≤(16384:Int))) (K (decide ((IntKind.i64.wrap (wx*hx))≤(67108864:Int))) w) (K false w)) (K false w)) (K false w)) (K false w))) (cond (decide (wx≥(1:Int))) (cond (decide (wx≤(16384:Int))) (cond (decide (hx≥(1:Int))) (cond (decide (hx≤(16384:Int))) (K (decide ((IntKind.i64.wrap (wx*hx))≤(67108864:Int))) w) (K false w)) (K false w)) (K false w)) (K false w))
def an_pixel_size:List Ann:=[.none,.none]
theorem vc_pixel_size (wx:Int) (hx:Int) (w:World) (K:Bool→World→Prop) :
  vcFn C (Tryz.f171.body.getD .skip) Tryz.f171.results.toList Tryz.f171.ntmps an_pixel_size [Kind.bool] [(.int .i64 wx),(.int .i64 hx)] w (fun s w=>K s.1 w)=sh_pixel_size wx hx w K:=by kernel_rfl
theorem call_pixel_size (wx:Int) (hx:Int) {w:World} {K:Bool→World→Prop} (h:sh_pixel_size wx hx w K):c_pixel_size wx hx w K:=by
 rw [←vc_pixel_size] at h
 refine Calls.mono (cvc C.plain_ok C.mixed Tryz.func171 rfl h) ?_
 rintro e w' ⟨s,rfl,hK⟩
 exact ⟨s.1,rfl,hK⟩
def sh_png_Head_eight (hx:T_png_Head) (v:Int) (w:World) (K:Int→World→Prop):Prop :=nw ty_png_Head (T_png_Head.rep.cells hx) w fun hx_1 w1 =>ldI .i64 (hx_1.add 2) w1 fun t6 =>cond (t6==(8:Int)) (K (IntKind.u8.wrap v) w1) (cond (t6==(16:Int)) (0≤(8:Int) ∧K (IntKind.u8.wrap (v.fdiv (2^(min (8:Int).toNat IntKind.i64.bits)))) w1) (ldI .i64 (hx_1.add 2) w1 fun t18 =>0≤t18 ∧c_pixel_Scale_int v (IntKind.i64.wrap ((IntKind.i64.wrap ((1:Int)*2^(min t18.toNat IntKind.i64.bits)))-(1:Int))) 255 w1 fun t21 w2 =>K (IntKind.u8.wrap t21) w2))
def an_png_Head_eight:List Ann:=[.none,.none,.none,.none,.none,.none,.none,.none]
theorem vc_png_Head_eight (hx:T_png_Head) (v:Int) (w:World) (K:Int→World→Prop) :
  vcFn C (Tryz.f172.body.getD .skip) Tryz.f172.results.toList Tryz.f172.ntmps an_png_Head_eight [(Kind.int .u8)] [(.agg #[(.int .i64 hx.W),(.int .i64 hx.H),(.int .i64 hx.Depth),(.int .i64 hx.Color),(.int .i64 hx.Lace)]),(.int .i64 v)] w (fun s w=>K s.1 w)=sh_png_Head_eight hx v w K:=by kernel_rfl
theorem call_png_Head_eight (hx:T_png_Head) (v:Int) {w:World} {K:Int→World→Prop} (h:sh_png_Head_eight hx v w K):c_png_Head_eight hx v w K:=by
 rw [←vc_png_Head_eight] at h
 refine Calls.mono (cvc C.plain_ok C.mixed Tryz.func172 rfl h) ?_
 rintro e w' ⟨s,rfl,hK⟩
 exact ⟨s.1,rfl,hK⟩
def sh_png_letters (b:Slc) (w:World) (K:Bool→World→Prop):Prop :=c_slices_ContainsFunc_byte_byte b ((.func (.func fn_png_letters_1) #[] #[]):Value) w fun t4 w1 =>K (!t4) w1
def an_png_letters:List Ann:=[.none,.none]
theorem vc_png_letters (b:Slc) (w:World) (K:Bool→World→Prop) :
  vcFn C (Tryz.f179.body.getD .skip) Tryz.f179.results.toList Tryz.f179.ntmps an_png_letters [Kind.bool] [(.slice b.a b.n b.c)] w (fun s w=>K s.1 w)=sh_png_letters b w K:=by kernel_rfl
theorem call_png_letters (b:Slc) {w:World} {K:Bool→World→Prop} (h:sh_png_letters b w K):c_png_letters b w K:=by
 rw [←vc_png_letters] at h
 refine Calls.mono (cvc C.plain_ok C.mixed Tryz.func179 rfl h) ?_
 rintro e w' ⟨s,rfl,hK⟩
 exact ⟨s.1,rfl,hK⟩
def sh_pixel_from (wx:Int) (hx:Int) (per:Int) (b:Slc) (w:World) (K:T_api_Matrix→Int→World→Prop):Prop :=nw ty_api_Matrix [(.int .i64 0),(.int .i64 0),(.slice none 0 0)] w fun t8 w1 =>c_pixel_New wx hx w1 fun t16 t16_1 w2 =>nw ty_api_Matrix [(.int .i64 0),(.int .i64 0),(.slice none 0 0)] w2 fun m w3 =>stK m (T_api_Matrix.rep.cells t16) w3 fun w4 =>joinP (σ:=Int×Unit) (fun s w5 =>cond (s.1 !=(0:Int)) (stK t8 [(.int .i64 0),(.int .i64 0),(.slice none 0 0)] w5 fun w6 =>ldS T_api_Matrix.rep t8 w6 fun r =>K r s.1 w6) (loopP (σ:=Int×Unit) (fun I2 s_1 w7 =>cond (decide (s_1.1<(IntKind.i64.wrap (wx*hx)))) (ldSl (m.add 2) w7 fun t51 =>ixK t51 (IntKind.i64.wrap ((IntKind.i64.wrap ((4:Int)*s_1.1))+(3:Int))) 1 fun t55 =>stK t55 [(.int .u8 255)] w7 fun w8 =>ldSl (m.add 2) w8.drew fun t57 =>slK t57 (some (IntKind.i64.wrap ((4:Int)*s_1.1))) none 1 fun t60 =>slK b (some (IntKind.i64.wrap (per*s_1.1))) (some (IntKind.i64.wrap ((IntKind.i64.wrap (per*s_1.1))+per))) 1 fun t70 =>runK1 PG (Builtin.copy_ #[ty_sl_uint8,ty_sl_uint8] ty_int #[(.slice t60.a t60.n t60.c),(.slice t70.a t70.n t70.c)]) (Kind.int .i64) w8.drew fun (t71:Int) w9 =>I2 ((IntKind.i64.wrap (s_1.1+(1:Int))),()) w9) (ldS T_api_Matrix.rep m w7 fun t73 =>stK t8 (T_api_Matrix.rep.cells t73) w7 fun w10 =>ldS T_api_Matrix.rep t8 w10 fun r_1 =>K r_1 0 w10)) (0,()) w5)) fun J1 =>cond (t16_1 !=(0:Int)) (J1 (t16_1,()) w4) (cond (decide (((b.n:Nat):Int)<(IntKind.i64.wrap ((IntKind.i64.wrap (per*wx))*hx)))) (J1 (2,()) w4) (cond (decide (((b.n:Nat):Int)>(IntKind.i64.wrap ((IntKind.i64.wrap (per*wx))*hx)))) (J1 (5,()) w4) (J1 (t16_1,()) w4)))
def an_pixel_from:List Ann:=[.none,.none,.join [(11,(Kind.int .i64))] [11,19,20,21,22,23,24,25,26,27,28,29,30,31,32,33,34,35,36,37,38,39],.none,.none,.none,.none,.none,.none,.none,.none,.join [(47,(Kind.int .i64))] [12,47,48,49,50,51,52,53,54,55,56,57,58,59,60,61,62,63,64,65,66,67,68,69,70,71,72],.none,.none,.none,.none,.none,.none]
theorem vc_pixel_from (wx:Int) (hx:Int) (per:Int) (b:Slc) (w:World) (K:T_api_Matrix→Int→World→Prop) :
  vcFn C (Tryz.f182.body.getD .skip) Tryz.f182.results.toList Tryz.f182.ntmps an_pixel_from [(Kind.struct T_api_Matrix.rep),(Kind.int .i64)] [(.int .i64 wx),(.int .i64 hx),(.int .i64 per),(.slice b.a b.n b.c)] w (fun s w=>K s.1 s.2.1 w)=sh_pixel_from wx hx per b w K:=by kernel_rfl
theorem call_pixel_from (wx:Int) (hx:Int) (per:Int) (b:Slc) {w:World} {K:T_api_Matrix→Int→World→Prop} (h:sh_pixel_from wx hx per b w K):c_pixel_from wx hx per b w K:=by
 rw [←vc_pixel_from] at h
 refine Calls.mono (cvc C.plain_ok C.mixed Tryz.func182 rfl h) ?_
 rintro e w' ⟨s,rfl,hK⟩
 exact ⟨s.1,s.2.1,rfl,hK⟩
def sh_huff_room (lengths:Slc) (w:World) (K:Int→World→Prop):Prop :=loopP (σ:=Int×Int×Unit) (fun I1 s w1 =>cond (decide (s.2.1<((lengths.n:Nat):Int))) (ixK lengths s.2.1 1 fun t10 =>ldI .u8 t10 w1 fun t11 =>joinP (σ:=Bool×Unit) (fun s_1 w2 =>cond s_1.1 (0≤t11 ∧I1 ((IntKind.i64.wrap (s.1+((32768:Int).fdiv (2^(min t11.toNat IntKind.i64.bits))))),(IntKind.i64.wrap (s.2.1+(1:Int))),()) w2) (I1 (s.1,(IntKind.i64.wrap (s.2.1+(1:Int))),()) w2)) fun J2 =>cond (decide (t11>(0:Int))) (J2 ((decide (t11≤(15:Int))),()) w1) (J2 (false,()) w1)) (K s.1 w1)) (0,0,()) w
def an_huff_room:List Ann:=[.none,.none,.none,.none,.join [(3,(Kind.int .i64)),(8,(Kind.int .i64))] [3,5,8,9,10,11,12,13,14,15,16,17,18,19,20,21,22],.none,.none,.none,.none,.join [(17,Kind.bool)] [12,13,14,15,16,17],.none]
theorem vc_huff_room (lengths:Slc) (w:World) (K:Int→World→Prop) :
  vcFn C (Tryz.f184.body.getD .skip) Tryz.f184.results.toList Tryz.f184.ntmps an_huff_room [(Kind.int .i64)] [(.slice lengths.a lengths.n lengths.c)] w (fun s w=>K s.1 w)=sh_huff_room lengths w K:=by kernel_rfl
theorem call_huff_room (lengths:Slc) {w:World} {K:Int→World→Prop} (h:sh_huff_room lengths w K):c_huff_room lengths w K:=by
 rw [←vc_huff_room] at h
 refine Calls.mono (cvc C.plain_ok C.mixed Tryz.func184 rfl h) ?_
 rintro e w' ⟨s,rfl,hK⟩
 exact ⟨s.1,rfl,hK⟩
def sh_huff_Table_deal (t:Option Addr) (w:World) (K:World→Prop):Prop :=loopP (σ:=Int×Int×Unit) (fun I1 s w1 =>cond (decide (s.2.1≤(15:Int))) (onPtr t fun t11 =>ldSl (t11.add 18) w1 fun t13 =>loopP (σ:=Int×Int×Unit) (fun I2 s_1 w2 =>cond (decide (s_1.2.1<((t13.n:Nat):Int))) (ixK t13 s_1.2.1 1 fun t18 =>ldI .u8 t18 w2 fun t19 =>cond ((IntKind.i64.wrap t19)==s.2.1) (onPtr t fun t26 =>ldSl (t26.add 16) w2 fun t28 =>nw ty_int [(.int .i64 s_1.2.1)] w2 fun t30 w3 =>apK PG #[ty_sl_int,ty_sl_int] ty_sl_int t28 (⟨(some t30),1,1⟩:Slc) w3 fun t31 w4 =>onPtr t fun t32 =>stK (t32.add 16) [(.slice t31.a t31.n t31.c)] w4 fun w5 =>onPtr t fun t35 =>ldSl (t35.add 17) w5.drew fun t37 =>c_bits_Reverse s_1.1 s.2.1 w5.drew fun t41 w6 =>World.cell? w6 (t35.add 17)=some (.slice t37.a t37.n t37.c) ∧ixK t37 s_1.2.1 1 fun t42 =>stK t42 [(.int .u32 t41)] w6 fun w7 =>I2 ((IntKind.u32.wrap (s_1.1+(1:Int))),(IntKind.i64.wrap (s_1.2.1+(1:Int))),()) w7) (I2 (s_1.1,(IntKind.i64.wrap (s_1.2.1+(1:Int))),()) w2)) (0≤(1:Int) ∧I1 ((IntKind.u32.wrap (s_1.1*2^(min (1:Int).toNat IntKind.u32.bits))),(IntKind.i64.wrap (s.2.1+(1:Int))),()) w2)) (s.1,0,()) w1) (K w1)) (0,1,()) w
def an_huff_Table_deal:List Ann:=[.none,.none,.join [(2,(Kind.int .u32)),(3,(Kind.int .i64))] [2,3,4,5,6,7,8,9,10,11,12,13,14,15,16,17,18,19,20,21,22,23,24,25,26,27,28,29,30,31,32,33,34,35,36,37,38,39,40,41,42,43,44,45,46,47],.none,.none,.none,.none,.none,.join [(2,(Kind.int .u32)),(15,(Kind.int .i64))] [2,4,5,15,16,17,18,19,20,21,22,23,24,25,26,27,28,29,30,31,32,33,34,35,36,37,38,39,40,41,42,43,44,45],.none,.none,.none,.none,.none,.none,.none]
theorem vc_huff_Table_deal (t:Option Addr) (w:World) (K:World→Prop) :
  vcFn C (Tryz.f185.body.getD .skip) Tryz.f185.results.toList Tryz.f185.ntmps an_huff_Table_deal [] [(.pointer t)] w (fun s w=>K w)=sh_huff_Table_deal t w K:=by kernel_rfl
theorem call_huff_Table_deal (t:Option Addr) {w:World} {K:World→Prop} (h:sh_huff_Table_deal t w K):c_huff_Table_deal t w K:=by
 rw [←vc_huff_Table_deal] at h
 refine Calls.mono (cvc C.plain_ok C.mixed Tryz.func185 rfl h) ?_
 rintro e w' ⟨s,rfl,hK⟩
 exact ⟨rfl,hK⟩
def sh_filter_Paeth_1 (x:Int) (c0:Addr) (c1:Addr) (c2:Addr) (w:World) (K:Int→World→Prop):Prop :=ldI .u8 c0 w fun t7 =>ldI .u8 c1 w fun t9 =>ldI .u8 c2 w fun t12 =>K (if (IntKind.i64.wrap (0-(IntKind.i64.wrap ((IntKind.i64.wrap ((IntKind.i64.wrap ((IntKind.i64.wrap t7)+(IntKind.i64.wrap t9)))-(IntKind.i64.wrap t12)))-(IntKind.i64.wrap x)))))>(IntKind.i64.wrap ((IntKind.i64.wrap ((IntKind.i64.wrap ((IntKind.i64.wrap t7)+(IntKind.i64.wrap t9)))-(IntKind.i64.wrap t12)))-(IntKind.i64.wrap x))) then (IntKind.i64.wrap (0-(IntKind.i64.wrap ((IntKind.i64.wrap ((IntKind.i64.wrap ((IntKind.i64.wrap t7)+(IntKind.i64.wrap t9)))-(IntKind.i64.wrap t12)))-(IntKind.i64.wrap x))))) else (IntKind.i64.wrap ((IntKind.i64.wrap ((IntKind.i64.wrap ((IntKind.i64.wrap t7)+(IntKind.i64.wrap t9)))-(IntKind.i64.wrap t12)))-(IntKind.i64.wrap x)))) w
def an_filter_Paeth_1:List Ann:=[.none,.none,.none]
theorem vc_filter_Paeth_1 (x:Int) (c0:Addr) (c1:Addr) (c2:Addr) (w:World) (K:Int→World→Prop) :
  vcFn C (Tryz.f191.body.getD .skip) Tryz.f191.results.toList Tryz.f191.ntmps an_filter_Paeth_1 [(Kind.int .i64)] [(.int .u8 x),(.pointer (some c0)),(.pointer (some c1)),(.pointer (some c2))] w (fun s w=>K s.1 w)=sh_filter_Paeth_1 x c0 c1 c2 w K:=by kernel_rfl
theorem call_filter_Paeth_1 (x:Int) (c0:Addr) (c1:Addr) (c2:Addr) {w:World} {K:Int→World→Prop} (h:sh_filter_Paeth_1 x c0 c1 c2 w K):c_filter_Paeth_1 x c0 c1 c2 w K:=by
 rw [←vc_filter_Paeth_1] at h
 refine Calls.mono (cvc C.plain_ok C.mixed Tryz.func191 rfl h) ?_
 rintro e w' ⟨s,rfl,hK⟩
 exact ⟨s.1,rfl,hK⟩
def sh_bits_NewReader (b:Slc) (w:World) (K:Option Addr→World→Prop):Prop :=c_slices_Clone_byte_byte b w fun t4 w1 =>nw ty_bits_Reader [(.slice t4.a t4.n t4.c),(.int .i64 0)] w1 fun t6 w2 =>K (some t6) w2
def an_bits_NewReader:List Ann:=[.none,.none]
theorem vc_bits_NewReader (b:Slc) (w:World) (K:Option Addr→World→Prop) :
  vcFn C (Tryz.f192.body.getD .skip) Tryz.f192.results.toList Tryz.f192.ntmps an_bits_NewReader [Kind.ptr] [(.slice b.a b.n b.c)] w (fun s w=>K s.1 w)=sh_bits_NewReader b w K:=by kernel_rfl
theorem call_bits_NewReader (b:Slc) {w:World} {K:Option Addr→World→Prop} (h:sh_bits_NewReader b w K):c_bits_NewReader b w K:=by
 rw [←vc_bits_NewReader] at h
 refine Calls.mono (cvc C.plain_ok C.mixed Tryz.func192 rfl h) ?_
 rintro e w' ⟨s,rfl,hK⟩
 exact ⟨s.1,rfl,hK⟩
def sh_bits_Reader_Bits (r:Option Addr) (n:Int) (w:World) (K:Int→Bool→World→Prop):Prop :=c_bits_Reader_Peek r n w fun t11 t11_1 w1 =>joinP (σ:=Unit) (fun s w2 =>K t11 t11_1 w2) fun J1 =>cond t11_1 (onPtr r fun t16 =>ldI .i64 (t16.add 1) w1 fun t18 =>onPtr r fun t21 =>stK (t21.add 1) [(.int .i64 (IntKind.i64.wrap (t18+n)))] w1 fun w3 =>J1 (()) w3) (J1 (()) w1)
def an_bits_Reader_Bits:List Ann:=[.none,.none,.join [] [14,15,16,17,18,19,20,21,22],.none,.none]
theorem vc_bits_Reader_Bits (r:Option Addr) (n:Int) (w:World) (K:Int→Bool→World→Prop) :
  vcFn C (Tryz.f193.body.getD .skip) Tryz.f193.results.toList Tryz.f193.ntmps an_bits_Reader_Bits [(Kind.int .u32),Kind.bool] [(.pointer r),(.int .i64 n)] w (fun s w=>K s.1 s.2.1 w)=sh_bits_Reader_Bits r n w K:=by kernel_rfl
theorem call_bits_Reader_Bits (r:Option Addr) (n:Int) {w:World} {K:Int→Bool→World→Prop} (h:sh_bits_Reader_Bits r n w K):c_bits_Reader_Bits r n w K:=by
 rw [←vc_bits_Reader_Bits] at h
 refine Calls.mono (cvc C.plain_ok C.mixed Tryz.func193 rfl h) ?_
 rintro e w' ⟨s,rfl,hK⟩
 exact ⟨s.1,s.2.1,rfl,hK⟩
def sh_bits_Reader_At (r:Option Addr) (w:World) (K:Int→World→Prop):Prop :=onPtr r fun t4 =>ldI .i64 (t4.add 1) w fun t6 =>K t6 w
def an_bits_Reader_At:List Ann:=[.none,.none]
theorem vc_bits_Reader_At (r:Option Addr) (w:World) (K:Int→World→Prop) :
  vcFn C (Tryz.f194.body.getD .skip) Tryz.f194.results.toList Tryz.f194.ntmps an_bits_Reader_At [(Kind.int .i64)] [(.pointer r)] w (fun s w=>K s.1 w)=sh_bits_Reader_At r w K:=by kernel_rfl
theorem call_bits_Reader_At (r:Option Addr) {w:World} {K:Int→World→Prop} (h:sh_bits_Reader_At r w K):c_bits_Reader_At r w K:=by
 rw [←vc_bits_Reader_At] at h
 refine Calls.mono (cvc C.plain_ok C.mixed Tryz.func194 rfl h) ?_
 rintro e w' ⟨s,rfl,hK⟩
 exact ⟨s.1,rfl,hK⟩
def sh_inflate_Decoder_step (d:Option Addr) (r:Option Addr) (w:World) (K:Int→World→Prop):Prop :=onPtr d fun t6 =>ldI .i64 (t6.add 1) w fun t8 =>cond (t8==(0:Int)) (c_inflate_Decoder_head d r w fun t13 w1 =>K t13 w1) (cond (t8==(1:Int)) (c_inflate_Decoder_stored d r w fun t18 w2 =>K t18 w2) (cond (t8==(2:Int)) (c_inflate_Decoder_bytes d r w fun t23 w3 =>K t23 w3) (cond (t8==(3:Int)) (c_inflate_Decoder_dynamic d r w fun t28 w4 =>K t28 w4) (c_inflate_Decoder_code d r w fun t31 w5 =>K t31 w5))))
def an_inflate_Decoder_step:List Ann:=[.none,.none,.none,.none,.none,.none,.none,.none,.none,.none,.none,.none]
theorem vc_inflate_Decoder_step (d:Option Addr) (r:Option Addr) (w:World) (K:Int→World→Prop) :
  vcFn C (Tryz.f195.body.getD .skip) Tryz.f195.results.toList Tryz.f195.ntmps an_inflate_Decoder_step [(Kind.int .i64)] [(.pointer d),(.pointer r)] w (fun s w=>K s.1 w)=sh_inflate_Decoder_step d r w K:=by kernel_rfl
theorem call_inflate_Decoder_step (d:Option Addr) (r:Option Addr) {w:World} {K:Int→World→Prop} (h:sh_inflate_Decoder_step d r w K):c_inflate_Decoder_step d r w K:=by
 rw [←vc_inflate_Decoder_step] at h
 refine Calls.mono (cvc C.plain_ok C.mixed Tryz.func195 rfl h) ?_
 rintro e w' ⟨s,rfl,hK⟩
 exact ⟨s.1,rfl,hK⟩
def sh_bits_Reader_Back (r:Option Addr) (at_:Int) (w:World) (K:World→Prop):Prop :=onPtr r fun t8 =>ldI .i64 (t8.add 1) w fun t10 =>onPtr r fun t12 =>stK (t12.add 1) [(.int .i64 (if t10<(if (0:Int)>at_ then (0:Int) else at_) then t10 else (if (0:Int)>at_ then (0:Int) else at_)))] w fun w1 =>K w1
def an_bits_Reader_Back:List Ann:=[]
theorem vc_bits_Reader_Back (r:Option Addr) (at_:Int) (w:World) (K:World→Prop) :
  vcFn C (Tryz.f196.body.getD .skip) Tryz.f196.results.toList Tryz.f196.ntmps an_bits_Reader_Back [] [(.pointer r),(.int .i64 at_)] w (fun s w=>K w)=sh_bits_Reader_Back r at_ w K:=by kernel_rfl
theorem call_bits_Reader_Back (r:Option Addr) (at_:Int) {w:World} {K:World→Prop} (h:sh_bits_Reader_Back r at_ w K):c_bits_Reader_Back r at_ w K:=by
 rw [←vc_bits_Reader_Back] at h
 refine Calls.mono (cvc C.plain_ok C.mixed Tryz.func196 rfl h) ?_
 rintro e w' ⟨s,rfl,hK⟩
 exact ⟨rfl,hK⟩
def sh_pixel_Scale_int (v:Int) (from_:Int) (to:Int) (w:World) (K:Int→World→Prop):Prop :=joinP (σ:=Unit) (fun s w1 =>(2:Int)≠0 ∧from_≠0 ∧K (IntKind.i64.wrap ((IntKind.i64.wrap ((IntKind.i64.wrap (v*to))+(IntKind.i64.wrap (from_.tdiv (2:Int))))).tdiv from_)) w1) fun J1 =>cond (decide (from_<(1:Int))) (K 0 w) (cond (decide (v<(0:Int))) (K 0 w) (cond (decide (v>from_)) (K 0 w) (cond (decide (to<(0:Int))) (K 0 w) (cond (decide (v>(0:Int))) (v≠0 ∧cond (decide (to>(IntKind.i64.wrap ((1073741824:Int).tdiv v)))) (K 0 w) (J1 (()) w)) (J1 (()) w)))))
def an_pixel_Scale_int:List Ann:=[.none,.none,.join [] [6,13,14,15,16,17,18,19,20,21,22,23,24,25,26,27,28,29,30,31,32,33,34,35,36,37],.none,.none,.none]
theorem vc_pixel_Scale_int (v:Int) (from_:Int) (to:Int) (w:World) (K:Int→World→Prop) :
  vcFn C (Tryz.f197.body.getD .skip) Tryz.f197.results.toList Tryz.f197.ntmps an_pixel_Scale_int [(Kind.int .i64)] [(.int .i64 v),(.int .i64 from_),(.int .i64 to)] w (fun s w=>K s.1 w)=sh_pixel_Scale_int v from_ to w K:=by kernel_rfl
theorem call_pixel_Scale_int (v:Int) (from_:Int) (to:Int) {w:World} {K:Int→World→Prop} (h:sh_pixel_Scale_int v from_ to w K):c_pixel_Scale_int v from_ to w K:=by
 rw [←vc_pixel_Scale_int] at h
 refine Calls.mono (cvc C.plain_ok C.mixed Tryz.func197 rfl h) ?_
 rintro e w' ⟨s,rfl,hK⟩
 exact ⟨s.1,rfl,hK⟩
def sh_slices_ContainsFunc_byte_byte (s:Slc) (f:Value) (w:World) (K:Bool→World→Prop):Prop :=c_slices_IndexFunc_byte_byte s f w fun t7 w1 =>K (decide (t7≥(0:Int))) w1
def an_slices_ContainsFunc_byte_byte:List Ann:=[.none,.none]
theorem vc_slices_ContainsFunc_byte_byte (s:Slc) (f:Value) (w:World) (K:Bool→World→Prop) :
  vcFn C (Tryz.f201.body.getD .skip) Tryz.f201.results.toList Tryz.f201.ntmps an_slices_ContainsFunc_byte_byte [Kind.bool] [(.slice s.a s.n s.c),f] w (fun s w=>K s.1 w)=sh_slices_ContainsFunc_byte_byte s f w K:=by kernel_rfl
theorem call_slices_ContainsFunc_byte_byte (s:Slc) (f:Value) {w:World} {K:Bool→World→Prop} (h:sh_slices_ContainsFunc_byte_byte s f w K):c_slices_ContainsFunc_byte_byte s f w K:=by
 rw [←vc_slices_ContainsFunc_byte_byte] at h
 refine Calls.mono (cvc C.plain_ok C.mixed Tryz.func201 rfl h) ?_
 rintro e w' ⟨s,rfl,hK⟩
 exact ⟨s.1,rfl,hK⟩
def sh_png_letters_1 (c:Int) (w:World) (K:Bool→World→Prop):Prop :=cond (decide ((bitsR .or .u8 c (32:Int))<(97:Int))) (K true w) (K (decide ((bitsR .or .u8 c (32:Int))>(122:Int))) w)
def an_png_letters_1:List Ann:=[.none,.none]
theorem vc_png_letters_1 (c:Int) (w:World) (K:Bool→World→Prop) :
  vcFn C (Tryz.f202.body.getD .skip) Tryz.f202.results.toList Tryz.f202.ntmps an_png_letters_1 [Kind.bool] [(.int .u8 c)] w (fun s w=>K s.1 w)=sh_png_letters_1 c w K:=by kernel_rfl
theorem call_png_letters_1 (c:Int) {w:World} {K:Bool→World→Prop} (h:sh_png_letters_1 c w K):c_png_letters_1 c w K:=by
 rw [←vc_png_letters_1] at h
 refine Calls.mono (cvc C.plain_ok C.mixed Tryz.func202 rfl h) ?_
 rintro e w' ⟨s,rfl,hK⟩
 exact ⟨s.1,rfl,hK⟩
end Go.Proofs.YtmagnpcgpinmcaaGreat
