import Derived.Test.YtmagnpcgpinmcaaGreatDefs
set_option maxRecDepth 100000
set_option linter.unusedVariables false
namespace Go.Proofs.YtmagnpcgpinmcaaGreat
open Go.Vc
def sh_bits_Reverse (v:Int) (n:Int) (w:World) (K:Int→World→Prop):Prop :=joinP (σ:=Unit) (fun s w1 =>loopP (σ:=Int×Int×Int×Unit) (fun I2 s_1 w2 =>cond (decide (s_1.2.2.1<n)) (0≤(1:Int) ∧0≤(1:Int) ∧I2 ((s_1.1.fdiv (2^(min (1:Int).toNat IntKind.u32.bits))),(bitsR .or .u32 (IntKind.u32.wrap (s_1.2.1*2^(min (1:Int).toNat IntKind.u32.bits))) (bitsR .and .u32 s_1.1 (1:Int))),(IntKind.i64.wrap (s_1.2.2.1+(1:Int))),()) w2) (K s_1.2.1 w2)) (v,0,0,()) w1) fun J1 =>cond (decide (n<(0:Int))) (K 0 w) (cond (decide (n>(32:Int))) (K 0 w) (J1 (()) w))
def an_bits_Reverse:List Ann:=[.none,.join [] [4,6,7,8,9,10,11],.none,.none,.none,.none,.none,.join [(0,(Kind.int .u32)),(5,(Kind.int .u32)),(13,(Kind.int .i64))] [0,5,13,14,15,16,17,18,19,20,21,22],.none,.none,.none,.none,.none]
theorem vc_bits_Reverse (v:Int) (n:Int) (w:World) (K:Int→World→Prop) :
  vcFn C (Tryz.f205.body.getD .skip) Tryz.f205.results.toList Tryz.f205.ntmps an_bits_Reverse [(Kind.int .u32)] [(.int .u32 v),(.int .i64 n)] w (fun s w=>K s.1 w)=sh_bits_Reverse v n w K:=by kernel_rfl
theorem call_bits_Reverse (v:Int) (n:Int) {w:World} {K:Int→World→Prop} (h:sh_bits_Reverse v n w K):c_bits_Reverse v n w K:=by
 rw [←vc_bits_Reverse] at h
 refine Calls.mono (cvc C.plain_ok C.mixed Tryz.func205 rfl h) ?_
 rintro e w' ⟨s,rfl,hK⟩
 exact ⟨s.1,rfl,hK⟩
def sh_bits_Reader_Peek (r:Option Addr) (n:Int) (w:World) (K:Int→Bool→World→Prop):Prop :=joinP (σ:=Unit) (fun s w1 =>onPtr r fun t22 =>ldI .i64 (t22.add 1) w1 fun t24 =>(8:Int)≠0 ∧(8:Int)≠0 ∧loopP (σ:=Int×Int×Unit) (fun I2 s_1 w2 =>cond (decide (s_1.2.1<(IntKind.i64.wrap ((IntKind.i64.wrap ((IntKind.i64.wrap ((t24.tmod (8:Int))+n))+(7:Int))).tdiv (8:Int))))) (onPtr r fun t36 =>ldSl (t36.add 0) w2.drew fun t38 =>onPtr r fun t40 =>ldI .i64 (t40.add 1) w2.drew fun t42 =>(8:Int)≠0 ∧ixK t38 (IntKind.i64.wrap ((IntKind.i64.wrap (t42.tdiv (8:Int)))+s_1.2.1)) 1 fun t46 =>ldI .u8 t46 w2.drew fun t47 =>0≤(IntKind.i64.wrap ((8:Int)*s_1.2.1)) ∧I2 ((bitsR .or .u64 s_1.1 (IntKind.u64.wrap ((IntKind.u64.wrap t47)*2^(min (IntKind.i64.wrap ((8:Int)*s_1.2.1)).toNat IntKind.u64.bits)))),(IntKind.i64.wrap (s_1.2.1+(1:Int))),()) w2.drew) (0≤(t24.tmod (8:Int)) ∧0≤n ∧K (IntKind.u32.wrap (bitsR .and .u64 (s_1.1.fdiv (2^(min (t24.tmod (8:Int)).toNat IntKind.u64.bits))) (IntKind.u64.wrap ((IntKind.u64.wrap ((1:Int)*2^(min n.toNat IntKind.u64.bits)))-(1:Int))))) true w2.drew)) (0,0,()) w1) fun J1 =>cond (decide (n<(0:Int))) (K 0 false w) (cond (decide (n>(32:Int))) (K 0 false w) (c_bits_Reader_Left r w fun t18 w3 =>cond (decide (n>t18)) (K 0 false w3) (J1 (()) w3)))
def an_bits_Reader_Peek:List Ann:=[.none,.join [] [4,5,9,10,11,12,13,14,15,16,17,18,19,20],.none,.none,.none,.none,.none,.none,.join [(6,(Kind.int .u64)),(31,(Kind.int .i64))] [6,8,31,32,33,34,35,36,37,38,39,40,41,42,43,44,45,46,47,48,49,50,51,52,53],.none,.none,.none,.none,.none]
theorem vc_bits_Reader_Peek (r:Option Addr) (n:Int) (w:World) (K:Int→Bool→World→Prop) :
  vcFn C (Tryz.f207.body.getD .skip) Tryz.f207.results.toList Tryz.f207.ntmps an_bits_Reader_Peek [(Kind.int .u32),Kind.bool] [(.pointer r),(.int .i64 n)] w (fun s w=>K s.1 s.2.1 w)=sh_bits_Reader_Peek r n w K:=by kernel_rfl
theorem call_bits_Reader_Peek (r:Option Addr) (n:Int) {w:World} {K:Int→Bool→World→Prop} (h:sh_bits_Reader_Peek r n w K):c_bits_Reader_Peek r n w K:=by
 rw [←vc_bits_Reader_Peek] at h
 refine Calls.mono (cvc C.plain_ok C.mixed Tryz.func207 rfl h) ?_
 rintro e w' ⟨s,rfl,hK⟩
 exact ⟨s.1,s.2.1,rfl,hK⟩
def sh_inflate_Decoder_head (d:Option Addr) (r:Option Addr) (w:World) (K:Int→World→Prop):Prop :=c_bits_Reader_Bits r 3 w fun t13 t13_1 w1 =>cond (!t13_1) (K 2 w1) (onPtr d fun t22 =>stK (t22.add 2) [(.bool ((bitsR .and .u32 t13 (1:Int))==(1:Int)))] w1 fun w2 =>0≤(1:Int) ∧cond ((t13.fdiv (2^(min (1:Int).toNat IntKind.u32.bits)))==(0:Int)) (onPtr d fun t35 =>stK (t35.add 1) [(.int .i64 1)] w2 fun w3 =>K 0 w3) (cond ((t13.fdiv (2^(min (1:Int).toNat IntKind.u32.bits)))==(1:Int)) (c_huff_Fixed  w2 fun t38 t38_1 w4 =>mkSl PG ty_sl_uint8 (.int .i64 32) (.int .i64 32) w4 fun t41 w5 =>loopP (σ:=Int×Unit) (fun I1 s w6 =>cond (decide (s.1<((t41.n:Nat):Int))) (ixK t41 s.1 1 fun t49 =>stK t49 [(.int .u8 5)] w6 fun w7 =>I1 ((IntKind.i64.wrap (s.1+(1:Int))),()) w7) (c_huff_New t38 w6 fun t54 t54_1 w8 =>onPtr d fun t57 =>stK (t57.add 6) [(.pointer t54)] w8 fun w9 =>c_huff_New t41 w9 fun t62 t62_1 w10 =>onPtr d fun t65 =>stK (t65.add 7) [(.pointer t62)] w10 fun w11 =>onPtr d fun t68 =>stK (t68.add 1) [(.int .i64 4)] w11 fun w12 =>K 0 w12)) (0,()) w5) (cond ((t13.fdiv (2^(min (1:Int).toNat IntKind.u32.bits)))==(2:Int)) (onPtr d fun t71 =>stK (t71.add 1) [(.int .i64 3)] w2 fun w13 =>K 0 w13) (cond ((t13.fdiv (2^(min (1:Int).toNat IntKind.u32.bits)))==(3:Int)) (K 3 w2) (K 3 w2)))))
def an_inflate_Decoder_head:List Ann:=[.none,.none,.none,.none,.none,.none,.none,.none,.none,.none,.none,.none,.none,.none,.none,.none,.none,.none,.none,.none,.none,.none,.none,.none,.none,.none,.join [(44,(Kind.int .i64))] [10,44,45,46,47,48,49,50],.none,.none,.none,.none,.none,.none,.none,.none,.none,.none]
theorem vc_inflate_Decoder_head (d:Option Addr) (r:Option Addr) (w:World) (K:Int→World→Prop) :
  vcFn C (Tryz.f208.body.getD .skip) Tryz.f208.results.toList Tryz.f208.ntmps an_inflate_Decoder_head [(Kind.int .i64)] [(.pointer d),(.pointer r)] w (fun s w=>K s.1 w)=sh_inflate_Decoder_head d r w K:=by kernel_rfl
theorem call_inflate_Decoder_head (d:Option Addr) (r:Option Addr) {w:World} {K:Int→World→Prop} (h:sh_inflate_Decoder_head d r w K):c_inflate_Decoder_head d r w K:=by
 rw [←vc_inflate_Decoder_head] at h
 refine Calls.mono (cvc C.plain_ok C.mixed Tryz.func208 rfl h) ?_
 rintro e w' ⟨s,rfl,hK⟩
 exact ⟨s.1,rfl,hK⟩
def sh_inflate_Decoder_stored (d:Option Addr) (r:Option Addr) (w:World) (K:Int→World→Prop):Prop :=c_bits_Reader_Align r w fun t9 w1 =>c_bits_Reader_Bits r 16 w1 fun t12 t12_1 w2 =>cond (!t12_1) (K 2 w2) (c_bits_Reader_Bits r 16 w2 fun t19 t19_1 w3 =>cond (!t19_1) (K 2 w3) (cond ((bitsR .xor .u32 t12 t19) !=(65535:Int)) (K 3 w3) (onPtr d fun t34 =>stK (t34.add 5) [(.int .i64 (IntKind.i64.wrap t12))] w3 fun w4 =>onPtr d fun t36 =>stK (t36.add 1) [(.int .i64 2)] w4 fun w5 =>K 0 w5)))
def an_inflate_Decoder_stored:List Ann:=[.none,.none,.none,.none,.none,.none,.none,.none,.none,.none,.none,.none,.none,.none]
theorem vc_inflate_Decoder_stored (d:Option Addr) (r:Option Addr) (w:World) (K:Int→World→Prop) :
  vcFn C (Tryz.f209.body.getD .skip) Tryz.f209.results.toList Tryz.f209.ntmps an_inflate_Decoder_stored [(Kind.int .i64)] [(.pointer d),(.pointer r)] w (fun s w=>K s.1 w)=sh_inflate_Decoder_stored d r w K:=by kernel_rfl
theorem call_inflate_Decoder_stored (d:Option Addr) (r:Option Addr) {w:World} {K:Int→World→Prop} (h:sh_inflate_Decoder_stored d r w K):c_inflate_Decoder_stored d r w K:=by
 rw [←vc_inflate_Decoder_stored] at h
 refine Calls.mono (cvc C.plain_ok C.mixed Tryz.func209 rfl h) ?_
 rintro e w' ⟨s,rfl,hK⟩
 exact ⟨s.1,rfl,hK⟩
def sh_inflate_Decoder_bytes (d:Option Addr) (r:Option Addr) (w:World) (K:Int→World→Prop):Prop :=loopP (σ:=Unit) (fun I1 s w1 =>onPtr d fun t9 =>ldI .i64 (t9.add 5) w1 fun t11 =>cond (decide (t11>(0:Int))) (c_bits_Reader_Bits r 8 w1 fun t15 t15_1 w2 =>cond (!t15_1) (c_inflate_Decoder_take d r w2 fun w3 =>K 2 w3) (c_inflate_Decoder_put d (IntKind.u8.wrap t15) w2 fun t26 w4 =>cond (t26 !=(0:Int)) (K t26 w4) (onPtr d fun t31 =>ldI .i64 (t31.add 5) w4 fun t33 =>onPtr d fun t35 =>stK (t35.add 5) [(.int .i64 (IntKind.i64.wrap (t33-(1:Int))))] w4 fun w5 =>I1 (()) w5))) (c_inflate_Decoder_next d w1 fun w6 =>K 0 w6)) (()) w
def an_inflate_Decoder_bytes:List Ann:=[.none,.none,.join [] [4,5,6,7,8,9,10,11,12,13,14,15,16,17,18,19,20,21,22,23,24,25,26,27,28,29,30,31,32,33,34,35,36],.none,.none,.none,.none,.none,.none,.none,.none,.none,.none,.none,.none,.none]
theorem vc_inflate_Decoder_bytes (d:Option Addr) (r:Option Addr) (w:World) (K:Int→World→Prop) :
  vcFn C (Tryz.f210.body.getD .skip) Tryz.f210.results.toList Tryz.f210.ntmps an_inflate_Decoder_bytes [(Kind.int .i64)] [(.pointer d),(.pointer r)] w (fun s w=>K s.1 w)=sh_inflate_Decoder_bytes d r w K:=by kernel_rfl
theorem call_inflate_Decoder_bytes (d:Option Addr) (r:Option Addr) {w:World} {K:Int→World→Prop} (h:sh_inflate_Decoder_bytes d r w K):c_inflate_Decoder_bytes d r w K:=by
 rw [←vc_inflate_Decoder_bytes] at h
 refine Calls.mono (cvc C.plain_ok C.mixed Tryz.func210 rfl h) ?_
 rintro e w' ⟨s,rfl,hK⟩
 exact ⟨s.1,rfl,hK⟩
def sh_inflate_Decoder_dynamic (d:Option Addr) (r:Option Addr) (w:World) (K:Int→World→Prop):Prop :=c_bits_Reader_Bits r 5 w fun t25 t25_1 w1 =>c_bits_Reader_Bits r 5 w1 fun t30 t30_1 w2 =>c_bits_Reader_Bits r 4 w2 fun t35 t35_1 w3 =>joinP (σ:=Unit) (fun s w4 =>nw ty_19_int [(.int .i64 0),(.int .i64 0),(.int .i64 0),(.int .i64 0),(.int .i64 0),(.int .i64 0),(.int .i64 0),(.int .i64 0),(.int .i64 0),(.int .i64 0),(.int .i64 0),(.int .i64 0),(.int .i64 0),(.int .i64 0),(.int .i64 0),(.int .i64 0),(.int .i64 0),(.int .i64 0),(.int .i64 0)] w4 fun order w5 =>stK order [(.int .i64 16),(.int .i64 17),(.int .i64 18),(.int .i64 0),(.int .i64 8),(.int .i64 7),(.int .i64 9),(.int .i64 6),(.int .i64 10),(.int .i64 5),(.int .i64 11),(.int .i64 4),(.int .i64 12),(.int .i64 3),(.int .i64 13),(.int .i64 2),(.int .i64 14),(.int .i64 1),(.int .i64 15)] w5 fun w6 =>mkSl PG ty_sl_uint8 (.int .i64 19) (.int .i64 19) w6 fun t57 w7 =>loopP (σ:=Int×Unit) (fun I2 s_1 w8 =>cond (decide (s_1.1<(IntKind.i64.wrap ((IntKind.i64.wrap t35)+(4:Int))))) (c_bits_Reader_Bits r 3 w8 fun t66 t66_1 w9 =>cond (!t66_1) (K 2 w9) (ixA order 19 s_1.1 1 fun t73 =>ldI .i64 t73 w9 fun t74 =>ixK t57 t74 1 fun t77 =>stK t77 [(.int .u8 (IntKind.u8.wrap t66))] w9 fun w10 =>I2 ((IntKind.i64.wrap (s_1.1+(1:Int))),()) w10)) (c_huff_New t57 w8 fun t81 t81_1 w11 =>cond (t81_1 !=(0:Int)) (K 3 w11) (c_inflate_read r t81 (IntKind.i64.wrap ((IntKind.i64.wrap ((IntKind.i64.wrap ((IntKind.i64.wrap t25)+(257:Int)))+(IntKind.i64.wrap t30)))+(1:Int))) w11 fun t97 t97_1 w12 =>cond (t97_1 !=(0:Int)) (K t97_1 w12) (slK t97 none (some (IntKind.i64.wrap ((IntKind.i64.wrap t25)+(257:Int)))) 1 fun t106 =>c_huff_New t106 w12 fun t107 t107_1 w13 =>slK t97 (some (IntKind.i64.wrap ((IntKind.i64.wrap t25)+(257:Int)))) none 1 fun t113 =>c_huff_New t113 w13 fun t114 t114_1 w14 =>joinP (σ:=Unit) (fun s_2 w15 =>onPtr d fun t134 =>stK (t134.add 6) [(.pointer t107)] w15 fun w16 =>onPtr d fun t136 =>stK (t136.add 7) [(.pointer t114)] w16 fun w17 =>onPtr d fun t138 =>stK (t138.add 1) [(.int .i64 4)] w17 fun w18 =>K 0 w18) fun J3 =>cond (t107_1 !=(0:Int)) (K 3 w14) (cond (t114_1 !=(0:Int)) (K 3 w14) (ixK t97 256 1 fun t125 =>ldI .u8 t125 w14 fun t126 =>cond (t126==(0:Int)) (K 3 w14) (J3 (()) w14))))))) (0,()) w7) fun J1 =>joinP (σ:=Bool×Unit) (fun s_3 w19 =>cond s_3.1 (K 2 w19) (cond (decide (t25>(29:Int))) (K 3 w19) (cond (decide (t30>(29:Int))) (K 3 w19) (J1 (()) w19)))) fun J4 =>cond (!t25_1) (J4 (true,()) w3) (cond (!t30_1) (J4 (true,()) w3) (J4 ((!t35_1),()) w3))
def an_inflate_Decoder_dynamic:List Ann:=[.none,.none,.none,.none,.join [] [4,38,39,40,41,42,43,44,45,46,47,48,49,50,51,52,53,54,55],.join [(38,Kind.bool)] [38,39,40,41,42,43,44,45,46,47,48],.none,.none,.none,.none,.none,.none,.none,.join [(61,(Kind.int .i64))] [4,13,14,15,61,62,63,64,65,66,67,68,69,70,71,72,73,74,75,76,77,78],.none,.none,.none,.none,.none,.none,.none,.none,.none,.none,.none,.none,.none,.none,.none,.none,.none,.none,.none,.join [] [4,117,118,119,120,121,122,123,124,125,126,127,128],.none,.none,.none,.none]
theorem vc_inflate_Decoder_dynamic (d:Option Addr) (r:Option Addr) (w:World) (K:Int→World→Prop) :
  vcFn C (Tryz.f211.body.getD .skip) Tryz.f211.results.toList Tryz.f211.ntmps an_inflate_Decoder_dynamic [(Kind.int .i64)] [(.pointer d),(.pointer r)] w (fun s w=>K s.1 w)=sh_inflate_Decoder_dynamic d r w K:=by kernel_rfl
theorem call_inflate_Decoder_dynamic (d:Option Addr) (r:Option Addr) {w:World} {K:Int→World→Prop} (h:sh_inflate_Decoder_dynamic d r w K):c_inflate_Decoder_dynamic d r w K:=by
 rw [←vc_inflate_Decoder_dynamic] at h
 refine Calls.mono (cvc C.plain_ok C.mixed Tryz.func211 rfl h) ?_
 rintro e w' ⟨s,rfl,hK⟩
 exact ⟨s.1,rfl,hK⟩
def sh_inflate_Decoder_code (d:Option Addr) (r:Option Addr) (w:World) (K:Int→World→Prop):Prop :=onPtr d fun t16 =>ldP (t16.add 6) w fun t18 =>c_huff_Table_Read t18 r w fun t20 t20_1 w1 =>cond (t20_1 !=(0:Int)) (K t20_1 w1) (cond (t20==(256:Int)) (c_inflate_Decoder_next d w1 fun w2 =>K 0 w2) (cond (decide (t20>(285:Int))) (K 3 w1) (cond (decide (t20<(256:Int))) (c_inflate_Decoder_put d (IntKind.u8.wrap t20) w1 fun t41 w3 =>K t41 w3) (c_inflate_length t20 w1 fun t44 t44_1 w4 =>c_bits_Reader_Bits r t44_1 w4 fun t50 t50_1 w5 =>cond (!t50_1) (K 2 w5) (onPtr d fun t61 =>ldP (t61.add 7) w5 fun t63 =>c_huff_Table_Read t63 r w5 fun t65 t65_1 w6 =>cond (t65_1 !=(0:Int)) (K t65_1 w6) (cond (decide (t65>(29:Int))) (K 3 w6) (c_inflate_distance t65 w6 fun t75 t75_1 w7 =>c_bits_Reader_Bits r t75_1 w7 fun t81 t81_1 w8 =>cond (!t81_1) (K 2 w8) (onPtr d fun t92 =>ldI .i64 (t92.add 9) w8 fun t94 =>cond (decide ((IntKind.i64.wrap (t75+(IntKind.i64.wrap t81)))>(if (32768:Int)<t94 then (32768:Int) else t94))) (K 3 w8) (loopP (σ:=Int×Unit) (fun I1 s w9 =>cond (decide (s.1<(IntKind.i64.wrap (t44+(IntKind.i64.wrap t50))))) (onPtr d fun t102 =>ldSl (t102.add 8) w9.drew fun t104 =>onPtr d fun t106 =>ldI .i64 (t106.add 9) w9.drew fun t108 =>(32768:Int)≠0 ∧ixK t104 ((IntKind.i64.wrap (t108-(IntKind.i64.wrap (t75+(IntKind.i64.wrap t81))))).tmod (32768:Int)) 1 fun t112 =>ldI .u8 t112 w9.drew fun t113 =>c_inflate_Decoder_put d t113 w9.drew fun t114 w10 =>cond (t114 !=(0:Int)) (K t114 w10) (I1 ((IntKind.i64.wrap (s.1+(1:Int))),()) w10)) (K 0 w9)) (0,()) w8)))))))))
def an_inflate_Decoder_code:List Ann:=[.none,.none,.none,.none,.none,.none,.none,.none,.none,.none,.none,.none,.none,.none,.none,.none,.none,.none,.none,.none,.none,.none,.none,.none,.none,.none,.none,.none,.none,.none,.none,.none,.none,.none,.none,.none,.join [(98,(Kind.int .i64))] [4,13,98,99,100,101,102,103,104,105,106,107,108,109,110,111,112,113,114,115,116,117,118],.none,.none,.none,.none,.none,.none,.none]
theorem vc_inflate_Decoder_code (d:Option Addr) (r:Option Addr) (w:World) (K:Int→World→Prop) :
  vcFn C (Tryz.f212.body.getD .skip) Tryz.f212.results.toList Tryz.f212.ntmps an_inflate_Decoder_code [(Kind.int .i64)] [(.pointer d),(.pointer r)] w (fun s w=>K s.1 w)=sh_inflate_Decoder_code d r w K:=by kernel_rfl
theorem call_inflate_Decoder_code (d:Option Addr) (r:Option Addr) {w:World} {K:Int→World→Prop} (h:sh_inflate_Decoder_code d r w K):c_inflate_Decoder_code d r w K:=by
 rw [←vc_inflate_Decoder_code] at h
 refine Calls.mono (cvc C.plain_ok C.mixed Tryz.func212 rfl h) ?_
 rintro e w' ⟨s,rfl,hK⟩
 exact ⟨s.1,rfl,hK⟩
def sh_slices_IndexFunc_byte_byte (s:Slc) (f:Value) (w:World) (K:Int→World→Prop):Prop :=loopP (σ:=Int×Unit) (fun I1 s_1 w1 =>cond (decide (s_1.1<((s.n:Nat):Int))) (ixK s s_1.1 1 fun t14 =>ldI .u8 t14 w1 fun t15 =>callR C f [(.int .u8 t15)] [Kind.bool] w1 fun (t16:Bool) w2 =>cond t16 (K s_1.1 w2) (I1 ((IntKind.i64.wrap (s_1.1+(1:Int))),()) w2)) (K (-1) w1)) (0,()) w
def an_slices_IndexFunc_byte_byte:List Ann:=[.none,.none,.none,.join [(8,(Kind.int .i64))] [4,5,8,9,10,11,12,13,14,15,16,17,18],.none,.none,.none,.none,.none,.none,.none]
theorem vc_slices_IndexFunc_byte_byte (s:Slc) (f:Value) (w:World) (K:Int→World→Prop) :
  vcFn C (Tryz.f213.body.getD .skip) Tryz.f213.results.toList Tryz.f213.ntmps an_slices_IndexFunc_byte_byte [(Kind.int .i64)] [(.slice s.a s.n s.c),f] w (fun s w=>K s.1 w)=sh_slices_IndexFunc_byte_byte s f w K:=by kernel_rfl
theorem call_slices_IndexFunc_byte_byte (s:Slc) (f:Value) {w:World} {K:Int→World→Prop} (h:sh_slices_IndexFunc_byte_byte s f w K):c_slices_IndexFunc_byte_byte s f w K:=by
 rw [←vc_slices_IndexFunc_byte_byte] at h
 refine Calls.mono (cvc C.plain_ok C.mixed Tryz.func213 rfl h) ?_
 rintro e w' ⟨s,rfl,hK⟩
 exact ⟨s.1,rfl,hK⟩
def sh_bits_Reader_Left (r:Option Addr) (w:World) (K:Int→World→Prop):Prop :=onPtr r fun t4 =>ldSl (t4.add 0) w.drew fun t6 =>onPtr r fun t10 =>ldI .i64 (t10.add 1) w.drew fun t12 =>K (IntKind.i64.wrap ((IntKind.i64.wrap ((8:Int)*((t6.n:Nat):Int)))-t12)) w.drew
def an_bits_Reader_Left:List Ann:=[.none,.none]
theorem vc_bits_Reader_Left (r:Option Addr) (w:World) (K:Int→World→Prop) :
  vcFn C (Tryz.f219.body.getD .skip) Tryz.f219.results.toList Tryz.f219.ntmps an_bits_Reader_Left [(Kind.int .i64)] [(.pointer r)] w (fun s w=>K s.1 w)=sh_bits_Reader_Left r w K:=by kernel_rfl
theorem call_bits_Reader_Left (r:Option Addr) {w:World} {K:Int→World→Prop} (h:sh_bits_Reader_Left r w K):c_bits_Reader_Left r w K:=by
 rw [←vc_bits_Reader_Left] at h
 refine Calls.mono (cvc C.plain_ok C.mixed Tryz.func219 rfl h) ?_
 rintro e w' ⟨s,rfl,hK⟩
 exact ⟨s.1,rfl,hK⟩
def sh_bits_Reader_Align (r:Option Addr) (w:World) (K:Int→World→Prop):Prop :=onPtr r fun t5 =>ldI .i64 (t5.add 1) w fun t7 =>onPtr r fun t11 =>ldI .i64 (t11.add 1) w fun t13 =>onPtr r fun t16 =>stK (t16.add 1) [(.int .i64 (IntKind.i64.wrap (t13+(bitsR .and .i64 (IntKind.i64.wrap (0-t7)) (7:Int)))))] w fun w1 =>K (bitsR .and .i64 (IntKind.i64.wrap (0-t7)) (7:Int)) w1
def an_bits_Reader_Align:List Ann:=[.none,.none,.none,.none]
theorem vc_bits_Reader_Align (r:Option Addr) (w:World) (K:Int→World→Prop) :
  vcFn C (Tryz.f220.body.getD .skip) Tryz.f220.results.toList Tryz.f220.ntmps an_bits_Reader_Align [(Kind.int .i64)] [(.pointer r)] w (fun s w=>K s.1 w)=sh_bits_Reader_Align r w K:=by kernel_rfl
theorem call_bits_Reader_Align (r:Option Addr) {w:World} {K:Int→World→Prop} (h:sh_bits_Reader_Align r w K):c_bits_Reader_Align r w K:=by
 rw [←vc_bits_Reader_Align] at h
 refine Calls.mono (cvc C.plain_ok C.mixed Tryz.func220 rfl h) ?_
 rintro e w' ⟨s,rfl,hK⟩
 exact ⟨s.1,rfl,hK⟩
def sh_inflate_Decoder_take (d:Option Addr) (r:Option Addr) (w:World) (K:World→Prop):Prop :=c_bits_Reader_At r w fun t6 w1 =>(8:Int)≠0 ∧onPtr d fun t9 =>ldI .i64 (t9.add 11) w1 fun t11 =>onPtr d fun t14 =>stK (t14.add 11) [(.int .i64 (IntKind.i64.wrap (t11+(IntKind.i64.wrap (t6.tdiv (8:Int))))))] w1 fun w2 =>onPtr d fun t18 =>ldSl (t18.add 3) w2 fun t20 =>slK t20 (some (IntKind.i64.wrap (t6.tdiv (8:Int)))) none 1 fun t22 =>onPtr d fun t23 =>stK (t23.add 3) [(.slice t22.a t22.n t22.c)] w2 fun w3 =>c_bits_Reader_At r w3 fun t27 w4 =>(8:Int)≠0 ∧onPtr d fun t29 =>stK (t29.add 4) [(.int .i64 (t27.tmod (8:Int)))] w4 fun w5 =>onPtr d fun t33 =>ldSl (t33.add 3) w5 fun t35 =>c_bits_NewReader t35 w5 fun t36 w6 =>onPtr t36 fun t37 =>ldS T_bits_Reader.rep t37 w6 fun t38 =>onPtr r fun t39 =>stK t39 (T_bits_Reader.rep.cells t38) w6 fun w7 =>onPtr d fun t42 =>ldI .i64 (t42.add 4) w7 fun t44 =>c_bits_Reader_Bits r t44 w7 fun t45 t45_1 w8 =>K w8
def an_inflate_Decoder_take:List Ann:=[.none,.none,.none,.none,.none]
theorem vc_inflate_Decoder_take (d:Option Addr) (r:Option Addr) (w:World) (K:World→Prop) :
  vcFn C (Tryz.f221.body.getD .skip) Tryz.f221.results.toList Tryz.f221.ntmps an_inflate_Decoder_take [] [(.pointer d),(.pointer r)] w (fun s w=>K w)=sh_inflate_Decoder_take d r w K:=by kernel_rfl
theorem call_inflate_Decoder_take (d:Option Addr) (r:Option Addr) {w:World} {K:World→Prop} (h:sh_inflate_Decoder_take d r w K):c_inflate_Decoder_take d r w K:=by
 rw [←vc_inflate_Decoder_take] at h
 refine Calls.mono (cvc C.plain_ok C.mixed Tryz.func221 rfl h) ?_
 rintro e w' ⟨s,rfl,hK⟩
 exact ⟨rfl,hK⟩
def sh_inflate_Decoder_put (d:Option Addr) (c:Int) (w:World) (K:Int→World→Prop):Prop :=onPtr d fun t6 =>ldI .i64 (t6.add 9) w.drew fun t8 =>onPtr d fun t10 =>ldI .i64 (t10.add 0) w.drew fun t12 =>cond (decide (t8≥t12)) (K 5 w.drew) (joinP (σ:=Unit) (fun s w1 =>onPtr d fun t42 =>ldI .i64 (t42.add 9) w1 fun t44 =>onPtr d fun t46 =>stK (t46.add 9) [(.int .i64 (IntKind.i64.wrap (t44+(1:Int))))] w1 fun w2 =>onPtr d fun t50 =>ldSl (t50.add 14) w2 fun t52 =>nw ty_uint8 [(.int .u8 c)] w2 fun t54 w3 =>apK PG #[ty_sl_uint8,ty_sl_uint8] ty_sl_uint8 t52 (⟨(some t54),1,1⟩:Slc) w3 fun t55 w4 =>onPtr d fun t56 =>stK (t56.add 14) [(.slice t55.a t55.n t55.c)] w4 fun w5 =>K 0 w5) fun J1 =>onPtr d fun t15 =>ldSl (t15.add 8) w.drew fun t17 =>cond (decide (((t17.n:Nat):Int)<(32768:Int))) (onPtr d fun t22 =>ldSl (t22.add 8) w.drew fun t24 =>nw ty_uint8 [(.int .u8 c)] w.drew fun t26 w6 =>apK PG #[ty_sl_uint8,ty_sl_uint8] ty_sl_uint8 t24 (⟨(some t26),1,1⟩:Slc) w6 fun t27 w7 =>onPtr d fun t28 =>stK (t28.add 8) [(.slice t27.a t27.n t27.c)] w7 fun w8 =>J1 (()) w8) (onPtr d fun t31 =>ldSl (t31.add 8) w.drew.drew fun t33 =>onPtr d fun t35 =>ldI .i64 (t35.add 9) w.drew.drew fun t37 =>(32768:Int)≠0 ∧ixK t33 (t37.tmod (32768:Int)) 1 fun t40 =>stK t40 [(.int .u8 c)] w.drew.drew fun w9 =>J1 (()) w9))
def an_inflate_Decoder_put:List Ann:=[.none,.none,.none,.none,.join [] [14,15,16,17,18,19,20,21,22,23,24,25,26,27,28,29,30,31,32,33,34,35,36,37,38,39,40],.none,.none,.none,.none]
theorem vc_inflate_Decoder_put (d:Option Addr) (c:Int) (w:World) (K:Int→World→Prop) :
  vcFn C (Tryz.f222.body.getD .skip) Tryz.f222.results.toList Tryz.f222.ntmps an_inflate_Decoder_put [(Kind.int .i64)] [(.pointer d),(.int .u8 c)] w (fun s w=>K s.1 w)=sh_inflate_Decoder_put d c w K:=by kernel_rfl
theorem call_inflate_Decoder_put (d:Option Addr) (c:Int) {w:World} {K:Int→World→Prop} (h:sh_inflate_Decoder_put d c w K):c_inflate_Decoder_put d c w K:=by
 rw [←vc_inflate_Decoder_put] at h
 refine Calls.mono (cvc C.plain_ok C.mixed Tryz.func222 rfl h) ?_
 rintro e w' ⟨s,rfl,hK⟩
 exact ⟨s.1,rfl,hK⟩
def sh_inflate_Decoder_next (d:Option Addr) (w:World) (K:World→Prop):Prop :=onPtr d fun t3 =>stK (t3.add 1) [(.int .i64 0)] w fun w1 =>onPtr d fun t6 =>ldB (t6.add 2) w1 fun t8 =>cond t8 (onPtr d fun t10 =>stK (t10.add 1) [(.int .i64 5)] w1 fun w2 =>K w2) (K w1)
def an_inflate_Decoder_next:List Ann:=[.none,.none]
theorem vc_inflate_Decoder_next (d:Option Addr) (w:World) (K:World→Prop) :
  vcFn C (Tryz.f223.body.getD .skip) Tryz.f223.results.toList Tryz.f223.ntmps an_inflate_Decoder_next [] [(.pointer d)] w (fun s w=>K w)=sh_inflate_Decoder_next d w K:=by kernel_rfl
theorem call_inflate_Decoder_next (d:Option Addr) {w:World} {K:World→Prop} (h:sh_inflate_Decoder_next d w K):c_inflate_Decoder_next d w K:=by
 rw [←vc_inflate_Decoder_next] at h
 refine Calls.mono (cvc C.plain_ok C.mixed Tryz.func223 rfl h) ?_
 rintro e w' ⟨s,rfl,hK⟩
 exact ⟨rfl,hK⟩
def sh_inflate_read (r:Option Addr) (t:Option Addr) (n:Int) (w:World) (K:Slc→Int→World→Prop):Prop :=loopP (σ:=Slc×Unit) (fun I1 s w1 =>cond (decide (((s.1.n:Nat):Int)<n)) (c_huff_Table_Read t r w1 fun t23 t23_1 w2 =>cond (t23_1 !=(0:Int)) (K (⟨none,0,0⟩:Slc) t23_1 w2) (joinP (σ:=Int×Int×Int×Unit) (fun s_1 w3 =>c_bits_Reader_Bits r s_1.2.1 w3 fun t50 t50_1 w4 =>cond (!t50_1) (K (⟨none,0,0⟩:Slc) 2 w4) (cond (decide ((IntKind.i64.wrap ((IntKind.i64.wrap (((s.1.n:Nat):Int)+s_1.1))+(IntKind.i64.wrap t50)))>n)) (K (⟨none,0,0⟩:Slc) 3 w4) (loopP (σ:=Slc×Int×Unit) (fun I3 s_2 w5 =>cond (decide (s_2.2.1<(IntKind.i64.wrap (s_1.1+(IntKind.i64.wrap t50))))) (nw ty_uint8 [(.int .u8 s_1.2.2.1)] w5 fun t74 w6 =>apK PG #[ty_sl_uint8,ty_sl_uint8] ty_sl_uint8 s_2.1 (⟨(some t74),1,1⟩:Slc) w6 fun t75 w7 =>I3 (t75,(IntKind.i64.wrap (s_2.2.1+(1:Int))),()) w7) (I1 (s_2.1,()) w5)) (s.1,0,()) w4))) fun J2 =>cond (t23==(18:Int)) (J2 (11,7,0,()) w2) (cond (t23==(17:Int)) (J2 (3,3,0,()) w2) (cond (t23==(16:Int)) (cond (((s.1.n:Nat):Int)==(0:Int)) (K (⟨none,0,0⟩:Slc) 3 w2) (ixK s.1 (IntKind.i64.wrap (((s.1.n:Nat):Int)-(1:Int))) 1 fun t45 =>ldI .u8 t45 w2 fun t46 =>J2 (3,2,t46,()) w2)) (J2 (1,0,(IntKind.u8.wrap t23),()) w2))))) (K s.1 0 w1)) (⟨none,0,0⟩,()) w
def an_inflate_read:List Ann:=[.none,.none,.none,.join [(8,Kind.slice)] [6,7,8,9,10,11,12,13,14,15,16,17,18,19,20,21,22,23,24,25,26,27,28,29,30,31,32,33,34,35,36,37,38,39,40,41,42,43,44,45,46,47,48,49,50,51,52,53,54,55,56,57,58,59,60,61,62,63,64,65,66,67,68,69,70,71,72,73,74,75,76],.none,.none,.none,.none,.none,.none,.none,.join [(11,(Kind.int .i64)),(12,(Kind.int .i64)),(13,(Kind.int .u8))] [6,7,11,12,13,29,30,31,32,33,34,35,36,37,38,39,40,41,42,43,44,45,46],.none,.none,.none,.none,.none,.none,.none,.none,.none,.none,.none,.none,.none,.none,.join [(8,Kind.slice),(70,(Kind.int .i64))] [8,70,71,72,73,74,75,76],.none,.none,.none,.none]
theorem vc_inflate_read (r:Option Addr) (t:Option Addr) (n:Int) (w:World) (K:Slc→Int→World→Prop) :
  vcFn C (Tryz.f224.body.getD .skip) Tryz.f224.results.toList Tryz.f224.ntmps an_inflate_read [Kind.slice,(Kind.int .i64)] [(.pointer r),(.pointer t),(.int .i64 n)] w (fun s w=>K s.1 s.2.1 w)=sh_inflate_read r t n w K:=by kernel_rfl
theorem call_inflate_read (r:Option Addr) (t:Option Addr) (n:Int) {w:World} {K:Slc→Int→World→Prop} (h:sh_inflate_read r t n w K):c_inflate_read r t n w K:=by
 rw [←vc_inflate_read] at h
 refine Calls.mono (cvc C.plain_ok C.mixed Tryz.func224 rfl h) ?_
 rintro e w' ⟨s,rfl,hK⟩
 exact ⟨s.1,s.2.1,rfl,hK⟩
def sh_huff_Table_Read (t:Option Addr) (r:Option Addr) (w:World) (K:Int→Int→World→Prop):Prop :=c_bits_Reader_Left r w fun t14 w1 =>c_bits_Reader_Peek r (if t14<(15:Int) then t14 else (15:Int)) w1 fun t19 t19_1 w2 =>loopP (σ:=Int×Int×Int×Int×Int×Unit) (fun I1 s w3 =>onPtr t fun t24 =>ldI .i64 (t24.add 19) w3 fun t26 =>cond (decide (s.2.2.2.2.1≤t26)) (cond (decide (s.2.2.2.2.1>(if t14<(15:Int) then t14 else (15:Int)))) (K 0 2 w3) (0≤(1:Int) ∧onPtr t fun t42 =>ixA (t42.add 0) 16 s.2.2.2.2.1 1 fun t44 =>ldI .i64 t44 w3 fun t45 =>cond (decide ((IntKind.i64.wrap ((bitsR .or .i64 s.1 (IntKind.i64.wrap (bitsR .and .u32 s.2.2.2.1 (1:Int))))-s.2.1))<t45)) (c_bits_Reader_Bits r s.2.2.2.2.1 w3 fun t53 t53_1 w4 =>onPtr t fun t55 =>ldSl (t55.add 16) w4 fun t57 =>ixK t57 (IntKind.i64.wrap ((IntKind.i64.wrap (s.2.2.1+(bitsR .or .i64 s.1 (IntKind.i64.wrap (bitsR .and .u32 s.2.2.2.1 (1:Int))))))-s.2.1)) 1 fun t63 =>ldI .i64 t63 w4 fun t64 =>K t64 0 w4) (onPtr t fun t68 =>ixA (t68.add 0) 16 s.2.2.2.2.1 1 fun t70 =>ldI .i64 t70 w3 fun t71 =>onPtr t fun t76 =>ixA (t76.add 0) 16 s.2.2.2.2.1 1 fun t78 =>ldI .i64 t78 w3 fun t79 =>0≤(1:Int) ∧0≤(1:Int) ∧I1 ((IntKind.i64.wrap ((bitsR .or .i64 s.1 (IntKind.i64.wrap (bitsR .and .u32 s.2.2.2.1 (1:Int))))*2^(min (1:Int).toNat IntKind.i64.bits))),(IntKind.i64.wrap ((IntKind.i64.wrap (s.2.1+t79))*2^(min (1:Int).toNat IntKind.i64.bits))),(IntKind.i64.wrap (s.2.2.1+t71)),(s.2.2.2.1.fdiv (2^(min (1:Int).toNat IntKind.u32.bits))),(IntKind.i64.wrap (s.2.2.2.2.1+(1:Int))),()) w3))) (K 0 3 w3)) (0,0,0,t19,1,()) w2
def an_huff_Table_Read:List Ann:=[.none,.none,.none,.none,.none,.none,.join [(6,(Kind.int .i64)),(7,(Kind.int .i64)),(8,(Kind.int .i64)),(9,(Kind.int .u32)),(11,(Kind.int .i64))] [4,5,6,7,8,9,11,12,22,23,24,25,26,27,28,29,30,31,32,33,34,35,36,37,38,39,40,41,42,43,44,45,46,47,48,49,50,51,52,53,54,55,56,57,58,59,60,61,62,63,64,65,66,67,68,69,70,71,72,73,74,75,76,77,78,79,80,81,82,83],.none,.none,.none,.none,.none,.none,.none,.none,.none,.none,.none,.none,.none,.none,.none,.none]
theorem vc_huff_Table_Read (t:Option Addr) (r:Option Addr) (w:World) (K:Int→Int→World→Prop) :
  vcFn C (Tryz.f225.body.getD .skip) Tryz.f225.results.toList Tryz.f225.ntmps an_huff_Table_Read [(Kind.int .i64),(Kind.int .i64)] [(.pointer t),(.pointer r)] w (fun s w=>K s.1 s.2.1 w)=sh_huff_Table_Read t r w K:=by kernel_rfl
theorem call_huff_Table_Read (t:Option Addr) (r:Option Addr) {w:World} {K:Int→Int→World→Prop} (h:sh_huff_Table_Read t r w K):c_huff_Table_Read t r w K:=by
 rw [←vc_huff_Table_Read] at h
 refine Calls.mono (cvc C.plain_ok C.mixed Tryz.func225 rfl h) ?_
 rintro e w' ⟨s,rfl,hK⟩
 exact ⟨s.1,s.2.1,rfl,hK⟩
def sh_inflate_length (sign:Int) (w:World) (K:Int→Int→World→Prop):Prop :=cond (sign==(285:Int)) (K 258 0 w) (cond (decide ((IntKind.i64.wrap (sign-(257:Int)))<(8:Int))) (K (IntKind.i64.wrap ((3:Int)+(IntKind.i64.wrap (sign-(257:Int))))) 0 w) ((4:Int)≠0 ∧(4:Int)≠0 ∧0≤(IntKind.i64.wrap ((IntKind.i64.wrap ((IntKind.i64.wrap (sign-(257:Int))).tdiv (4:Int)))-(1:Int))) ∧K (IntKind.i64.wrap ((3:Int)+(IntKind.i64.wrap ((IntKind.i64.wrap ((4:Int)+((IntKind.i64.wrap (sign-(257:Int))).tmod (4:Int))))*2^(min (IntKind.i64.wrap ((IntKind.i64.wrap ((IntKind.i64.wrap (sign-(257:Int))).tdiv (4:Int)))-(1:Int))).toNat IntKind.i64.bits))))) (IntKind.i64.wrap ((IntKind.i64.wrap ((IntKind.i64.wrap (sign-(257:Int))).tdiv (4:Int)))-(1:Int))) w))
def an_inflate_length:List Ann:=[.none,.none,.none,.none,.none,.none,.none,.none,.none]
theorem vc_inflate_length (sign:Int) (w:World) (K:Int→Int→World→Prop) :
  vcFn C (Tryz.f226.body.getD .skip) Tryz.f226.results.toList Tryz.f226.ntmps an_inflate_length [(Kind.int .i64),(Kind.int .i64)] [(.int .i64 sign)] w (fun s w=>K s.1 s.2.1 w)=sh_inflate_length sign w K:=by kernel_rfl
theorem call_inflate_length (sign:Int) {w:World} {K:Int→Int→World→Prop} (h:sh_inflate_length sign w K):c_inflate_length sign w K:=by
 rw [←vc_inflate_length] at h
 refine Calls.mono (cvc C.plain_ok C.mixed Tryz.func226 rfl h) ?_
 rintro e w' ⟨s,rfl,hK⟩
 exact ⟨s.1,s.2.1,rfl,hK⟩
def sh_inflate_distance (sign:Int) (w:World) (K:Int→Int→World→Prop):Prop :=cond (decide (sign<(4:Int))) (K (IntKind.i64.wrap ((1:Int)+sign)) 0 w) ((2:Int)≠0 ∧(2:Int)≠0 ∧0≤(IntKind.i64.wrap ((IntKind.i64.wrap (sign.tdiv (2:Int)))-(1:Int))) ∧K (IntKind.i64.wrap ((1:Int)+(IntKind.i64.wrap ((IntKind.i64.wrap ((2:Int)+(sign.tmod (2:Int))))*2^(min (IntKind.i64.wrap ((IntKind.i64.wrap (sign.tdiv (2:Int)))-(1:Int))).toNat IntKind.i64.bits))))) (IntKind.i64.wrap ((IntKind.i64.wrap (sign.tdiv (2:Int)))-(1:Int))) w)
def an_inflate_distance:List Ann:=[.none,.none,.none,.none,.none,.none]
theorem vc_inflate_distance (sign:Int) (w:World) (K:Int→Int→World→Prop) :
  vcFn C (Tryz.f227.body.getD .skip) Tryz.f227.results.toList Tryz.f227.ntmps an_inflate_distance [(Kind.int .i64),(Kind.int .i64)] [(.int .i64 sign)] w (fun s w=>K s.1 s.2.1 w)=sh_inflate_distance sign w K:=by kernel_rfl
theorem call_inflate_distance (sign:Int) {w:World} {K:Int→Int→World→Prop} (h:sh_inflate_distance sign w K):c_inflate_distance sign w K:=by
 rw [←vc_inflate_distance] at h
 refine Calls.mono (cvc C.plain_ok C.mixed Tryz.func227 rfl h) ?_
 rintro e w' ⟨s,rfl,hK⟩
 exact ⟨s.1,s.2.1,rfl,hK⟩
def sh_sums_Crc_Sum (c:Option Addr) (w:World) (K:Int→World→Prop):Prop :=onPtr c fun t4 =>ldI .u32 (t4.add 0) w fun t6 =>K (bitsR .xor .u32 (4294967295) t6) w
def an_sums_Crc_Sum:List Ann:=[.none,.none]
theorem vc_sums_Crc_Sum (c:Option Addr) (w:World) (K:Int→World→Prop) :
  vcFn C (Tryz.f256.body.getD .skip) Tryz.f256.results.toList Tryz.f256.ntmps an_sums_Crc_Sum [(Kind.int .u32)] [(.pointer c)] w (fun s w=>K s.1 w)=sh_sums_Crc_Sum c w K:=by kernel_rfl
theorem call_sums_Crc_Sum (c:Option Addr) {w:World} {K:Int→World→Prop} (h:sh_sums_Crc_Sum c w K):c_sums_Crc_Sum c w K:=by
 rw [←vc_sums_Crc_Sum] at h
 refine Calls.mono (cvc C.plain_ok C.mixed Tryz.func256 rfl h) ?_
 rintro e w' ⟨s,rfl,hK⟩
 exact ⟨s.1,rfl,hK⟩
def sh_sums_Crc_Write (c:Option Addr) (b:Slc) (w:World) (K:Int→Value→World→Prop):Prop :=nw ty_16_uint32 [(.int .u32 0),(.int .u32 0),(.int .u32 0),(.int .u32 0),(.int .u32 0),(.int .u32 0),(.int .u32 0),(.int .u32 0),(.int .u32 0),(.int .u32 0),(.int .u32 0),(.int .u32 0),(.int .u32 0),(.int .u32 0),(.int .u32 0),(.int .u32 0)] w fun half w1 =>stK half [(.int .u32 0),(.int .u32 498536548),(.int .u32 997073096),(.int .u32 651767980),(.int .u32 1994146192),(.int .u32 1802195444),(.int .u32 1303535960),(.int .u32 1342533948),(.int .u32 3988292384),(.int .u32 4027552580),(.int .u32 3604390888),(.int .u32 3412177804),(.int .u32 2607071920),(.int .u32 2262029012),(.int .u32 2685067896),(.int .u32 3183342108)] w1 fun w2 =>loopP (σ:=Int×Unit) (fun I1 s w3 =>cond (decide (s.1<((b.n:Nat):Int))) (ixK b s.1 1 fun t14 =>ldI .u8 t14 w3 fun t15 =>onPtr c fun t17 =>ldI .u32 (t17.add 0) w3 fun t19 =>onPtr c fun t23 =>stK (t23.add 0) [(.int .u32 (bitsR .xor .u32 t19 (IntKind.u32.wrap t15)))] w3 fun w4 =>onPtr c fun t27 =>ldI .u32 (t27.add 0) w4.drew fun t29 =>0≤(4:Int) ∧onPtr c fun t32 =>ldI .u32 (t32.add 0) w4.drew fun t34 =>ixA half 16 (bitsR .and .u32 t34 (15:Int)) 1 fun t36 =>ldI .u32 t36 w4.drew fun t37 =>onPtr c fun t39 =>stK (t39.add 0) [(.int .u32 (bitsR .xor .u32 (t29.fdiv (2^(min (4:Int).toNat IntKind.u32.bits))) t37))] w4.drew fun w5 =>onPtr c fun t43 =>ldI .u32 (t43.add 0) w5.drew fun t45 =>0≤(4:Int) ∧onPtr c fun t48 =>ldI .u32 (t48.add 0) w5.drew fun t50 =>ixA half 16 (bitsR .and .u32 t50 (15:Int)) 1 fun t52 =>ldI .u32 t52 w5.drew fun t53 =>onPtr c fun t55 =>stK (t55.add 0) [(.int .u32 (bitsR .xor .u32 (t45.fdiv (2^(min (4:Int).toNat IntKind.u32.bits))) t53))] w5.drew fun w6 =>I1 ((IntKind.i64.wrap (s.1+(1:Int))),()) w6) (K ((b.n:Nat):Int) (.nilIface:Value) w3)) (0,()) w2
def an_sums_Crc_Write:List Ann:=[.none,.none,.none,.none,.join [(12,(Kind.int .i64))] [8,12,13,14,15,16,17,18,19,20,21,22,23,24,25,26,27,28,29,30,31,32,33,34,35,36,37,38,39,40,41,42,43,44,45,46,47,48,49,50,51,52,53,54,55,56,57],.none,.none,.none,.none,.none,.none,.none]
theorem vc_sums_Crc_Write (c:Option Addr) (b:Slc) (w:World) (K:Int→Value→World→Prop) :
  vcFn C (Tryz.f257.body.getD .skip) Tryz.f257.results.toList Tryz.f257.ntmps an_sums_Crc_Write [(Kind.int .i64),Kind.raw] [(.pointer c),(.slice b.a b.n b.c)] w (fun s w=>K s.1 s.2.1 w)=sh_sums_Crc_Write c b w K:=by kernel_rfl
theorem call_sums_Crc_Write (c:Option Addr) (b:Slc) {w:World} {K:Int→Value→World→Prop} (h:sh_sums_Crc_Write c b w K):c_sums_Crc_Write c b w K:=by
 rw [←vc_sums_Crc_Write] at h
 refine Calls.mono (cvc C.plain_ok C.mixed Tryz.func257 rfl h) ?_
 rintro e w' ⟨s,rfl,hK⟩
 exact ⟨s.1,s.2.1,rfl,hK⟩
def sh_sums_Adler_Sum (a:Option Addr) (w:World) (K:Int→World→Prop):Prop :=onPtr a fun t4 =>ldI .u32 (t4.add 1) w.drew fun t6 =>0≤(16:Int) ∧onPtr a fun t9 =>ldI .u32 (t9.add 0) w.drew fun t11 =>K (bitsR .or .u32 (IntKind.u32.wrap (t6*2^(min (16:Int).toNat IntKind.u32.bits))) t11) w.drew
def an_sums_Adler_Sum:List Ann:=[.none,.none]
theorem vc_sums_Adler_Sum (a:Option Addr) (w:World) (K:Int→World→Prop) :
  vcFn C (Tryz.f258.body.getD .skip) Tryz.f258.results.toList Tryz.f258.ntmps an_sums_Adler_Sum [(Kind.int .u32)] [(.pointer a)] w (fun s w=>K s.1 w)=sh_sums_Adler_Sum a w K:=by kernel_rfl
theorem call_sums_Adler_Sum (a:Option Addr) {w:World} {K:Int→World→Prop} (h:sh_sums_Adler_Sum a w K):c_sums_Adler_Sum a w K:=by
 rw [←vc_sums_Adler_Sum] at h
 refine Calls.mono (cvc C.plain_ok C.mixed Tryz.func258 rfl h) ?_
 rintro e w' ⟨s,rfl,hK⟩
 exact ⟨s.1,rfl,hK⟩
def sh_sums_Adler_Write (a:Option Addr) (b:Slc) (w:World) (K:Int→Value→World→Prop):Prop :=loopP (σ:=Int×Unit) (fun I1 s w1 =>cond (decide (s.1<((b.n:Nat):Int))) (ixK b s.1 1 fun t12 =>ldI .u8 t12 w1 fun t13 =>onPtr a fun t16 =>ldI .u32 (t16.add 0) w1 fun t18 =>(65521:Int)≠0 ∧onPtr a fun t23 =>stK (t23.add 0) [(.int .u32 ((IntKind.u32.wrap (t18+(IntKind.u32.wrap t13))).tmod (65521:Int)))] w1 fun w2 =>onPtr a fun t27 =>ldI .u32 (t27.add 1) w2.drew fun t29 =>onPtr a fun t31 =>ldI .u32 (t31.add 0) w2.drew fun t33 =>(65521:Int)≠0 ∧onPtr a fun t36 =>stK (t36.add 1) [(.int .u32 ((IntKind.u32.wrap (t29+t33)).tmod (65521:Int)))] w2.drew fun w3 =>I1 ((IntKind.i64.wrap (s.1+(1:Int))),()) w3) (K ((b.n:Nat):Int) (.nilIface:Value) w1)) (0,()) w
def an_sums_Adler_Write:List Ann:=[.none,.none,.none,.join [(10,(Kind.int .i64))] [7,10,11,12,13,14,15,16,17,18,19,20,21,22,23,24,25,26,27,28,29,30,31,32,33,34,35,36,37,38],.none,.none,.none,.none,.none,.none]
theorem vc_sums_Adler_Write (a:Option Addr) (b:Slc) (w:World) (K:Int→Value→World→Prop) :
  vcFn C (Tryz.f259.body.getD .skip) Tryz.f259.results.toList Tryz.f259.ntmps an_sums_Adler_Write [(Kind.int .i64),Kind.raw] [(.pointer a),(.slice b.a b.n b.c)] w (fun s w=>K s.1 s.2.1 w)=sh_sums_Adler_Write a b w K:=by kernel_rfl
theorem call_sums_Adler_Write (a:Option Addr) (b:Slc) {w:World} {K:Int→Value→World→Prop} (h:sh_sums_Adler_Write a b w K):c_sums_Adler_Write a b w K:=by
 rw [←vc_sums_Adler_Write] at h
 refine Calls.mono (cvc C.plain_ok C.mixed Tryz.func259 rfl h) ?_
 rintro e w' ⟨s,rfl,hK⟩
 exact ⟨s.1,s.2.1,rfl,hK⟩
end Go.Proofs.YtmagnpcgpinmcaaGreat
