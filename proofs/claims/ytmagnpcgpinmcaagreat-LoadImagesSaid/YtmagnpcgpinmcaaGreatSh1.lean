import Derived.Test.YtmagnpcgpinmcaaGreatDefs
set_option maxRecDepth 100000
set_option linter.unusedVariables false
namespace Go.Proofs.YtmagnpcgpinmcaaGreat
open Go.Vc
def sh_keys_First  (w:World) (K:T_keys_Keys→World→Prop):Prop :=nw ty_keys_Keys [(.int .u8 0),(.int .u8 0),(.int .u8 0),(.int .u8 0),(.int .i64 0),(.int .i64 0),(.int .i64 0),(.int .i64 0),(.int .i64 0),(.int .i64 0),(.int .i64 0),(.int .i64 0),(.int .i64 0),(.int .i64 0),(.int .i64 0),(.int .i64 0),(.int .i64 0),(.int .i64 0),(.int .i64 0),(.int .i64 0),(.int .i64 0),(.int .i64 0)] w fun t0 w1 =>stK t0 [(.int .u8 116),(.int .u8 100),(.int .u8 0),(.int .u8 97),(.int .i64 0),(.int .i64 32),(.int .i64 0),(.int .i64 0),(.int .i64 0),(.int .i64 0),(.int .i64 0),(.int .i64 0),(.int .i64 0),(.int .i64 0),(.int .i64 0),(.int .i64 0),(.int .i64 0),(.int .i64 0),(.int .i64 0),(.int .i64 0),(.int .i64 0),(.int .i64 0)] w1 fun w2 =>ldS T_keys_Keys.rep t0 w2 fun r =>K r w2
def an_keys_First:List Ann:=[.none,.none]
theorem vc_keys_First  (w:World) (K:T_keys_Keys→World→Prop) :
  vcFn C (Tryz.f43.body.getD .skip) Tryz.f43.results.toList Tryz.f43.ntmps an_keys_First [(Kind.struct T_keys_Keys.rep)] [] w (fun s w=>K s.1 w)=sh_keys_First  w K:=by kernel_rfl
theorem call_keys_First  {w:World} {K:T_keys_Keys→World→Prop} (h:sh_keys_First  w K):c_keys_First  w K:=by
 rw [←vc_keys_First] at h
 refine Calls.mono (cvc C.plain_ok C.mixed Tryz.func43 rfl h) ?_
 rintro e w' ⟨s,rfl,hK⟩
 exact ⟨s.1,rfl,hK⟩
def sh_zlib_Pack (b:Slc) (fixed:Bool) (w:World) (K:Slc→World→Prop):Prop :=c_inflate_Store b w fun t8 w1 =>joinP (σ:=Slc×Unit) (fun s w2 =>c_sums_NewAdler  w2 fun t12 w3 =>nw ty_sl_uint8 [(.slice b.a b.n b.c)] w3 fun t14 w4 =>c_sums_Of_sums_Adler t12 (⟨(some t14),1,1⟩:Slc) w4 fun t15 w5 =>nw ty_uint8 [(.int .u8 120),(.int .u8 1)] w5 fun t16 w6 =>0≤(24:Int) ∧0≤(16:Int) ∧0≤(8:Int) ∧nw ty_uint8 [(.int .u8 (IntKind.u8.wrap (t15.fdiv (2^(min (24:Int).toNat IntKind.u32.bits))))),(.int .u8 (IntKind.u8.wrap (t15.fdiv (2^(min (16:Int).toNat IntKind.u32.bits))))),(.int .u8 (IntKind.u8.wrap (t15.fdiv (2^(min (8:Int).toNat IntKind.u32.bits))))),(.int .u8 (IntKind.u8.wrap t15))] w6 fun t29 w7 =>nw ty_sl_uint8 [(.slice (some t16) 2 2),(.slice s.1.a s.1.n s.1.c),(.slice (some t29) 4 4)] w7 fun t30 w8 =>c_slices_Concat_byte_byte (⟨(some t30),3,3⟩:Slc) w8 fun t31 w9 =>K t31 w9) fun J1 =>cond fixed (c_inflate_Fixed b w1 fun t11 w10 =>J1 (t11,()) w10) (J1 (t8,()) w1)
def an_zlib_Pack:List Ann:=[.none,.none,.join [(5,Kind.slice)] [5,9,10,11],.none,.none,.none]
theorem vc_zlib_Pack (b:Slc) (fixed:Bool) (w:World) (K:Slc→World→Prop) :
  vcFn C (Tryz.f45.body.getD .skip) Tryz.f45.results.toList Tryz.f45.ntmps an_zlib_Pack [Kind.slice] [(.slice b.a b.n b.c),(.bool fixed)] w (fun s w=>K s.1 w)=sh_zlib_Pack b fixed w K:=by kernel_rfl
theorem call_zlib_Pack (b:Slc) (fixed:Bool) {w:World} {K:Slc→World→Prop} (h:sh_zlib_Pack b fixed w K):c_zlib_Pack b fixed w K:=by
 rw [←vc_zlib_Pack] at h
 refine Calls.mono (cvc C.plain_ok C.mixed Tryz.func45 rfl h) ?_
 rintro e w' ⟨s,rfl,hK⟩
 exact ⟨s.1,rfl,hK⟩
def sh_png_sign  (w:World) (K:Slc→World→Prop):Prop :=nw ty_uint8 [(.int .u8 137),(.int .u8 80),(.int .u8 78),(.int .u8 71),(.int .u8 13),(.int .u8 10),(.int .u8 26),(.int .u8 10)] w fun t1 w1 =>K (⟨(some t1),8,8⟩:Slc) w1
def an_png_sign:List Ann:=[.none,.none]
theorem vc_png_sign  (w:World) (K:Slc→World→Prop) :
  vcFn C (Tryz.f50.body.getD .skip) Tryz.f50.results.toList Tryz.f50.ntmps an_png_sign [Kind.slice] [] w (fun s w=>K s.1 w)=sh_png_sign  w K:=by kernel_rfl
theorem call_png_sign  {w:World} {K:Slc→World→Prop} (h:sh_png_sign  w K):c_png_sign  w K:=by
 rw [←vc_png_sign] at h
 refine Calls.mono (cvc C.plain_ok C.mixed Tryz.func50 rfl h) ?_
 rintro e w' ⟨s,rfl,hK⟩
 exact ⟨s.1,rfl,hK⟩
def sh_slices_Concat_byte_byte (slices:Slc) (w:World) (K:Slc→World→Prop):Prop :=loopP (σ:=Int×Int×Unit) (fun I1 s w1 =>cond (decide (s.2.1<((slices.n:Nat):Int))) (ixK slices s.2.1 1 fun t13 =>ldSl t13 w1 fun t14 =>cond (decide ((IntKind.i64.wrap (s.1+((t14.n:Nat):Int)))<(0:Int))) (False) (I1 ((IntKind.i64.wrap (s.1+((t14.n:Nat):Int))),(IntKind.i64.wrap (s.2.1+(1:Int))),()) w1)) (c_slices_Grow_byte_byte (⟨none,0,0⟩:Slc) s.1 w1 fun t24 w2 =>loopP (σ:=Slc×Int×Unit) (fun I2 s_1 w3 =>cond (decide (s_1.2.1<((slices.n:Nat):Int))) (ixK slices s_1.2.1 1 fun t29 =>ldSl t29 w3 fun t30 =>apK PG #[ty_sl_uint8,ty_sl_uint8] ty_sl_uint8 s_1.1 t30 w3 fun t33 w4 =>I2 (t33,(IntKind.i64.wrap (s_1.2.1+(1:Int))),()) w4) (K s_1.1 w3)) (t24,0,()) w2)) (0,0,()) w
def an_slices_Concat_byte_byte:List Ann:=[.none,.none,.none,.none,.join [(3,(Kind.int .i64)),(11,(Kind.int .i64))] [3,5,11,12,13,14,15,16,17,18,19,20,21,22],.none,.none,.none,.none,.none,.none,.none,.none,.none,.join [(6,Kind.slice),(27,(Kind.int .i64))] [6,8,27,28,29,30,31,32,33,34],.none,.none,.none,.none,.none]
theorem vc_slices_Concat_byte_byte (slices:Slc) (w:World) (K:Slc→World→Prop) :
  vcFn C (Tryz.f51.body.getD .skip) Tryz.f51.results.toList Tryz.f51.ntmps an_slices_Concat_byte_byte [Kind.slice] [(.slice slices.a slices.n slices.c)] w (fun s w=>K s.1 w)=sh_slices_Concat_byte_byte slices w K:=by kernel_rfl
theorem call_slices_Concat_byte_byte (slices:Slc) {w:World} {K:Slc→World→Prop} (h:sh_slices_Concat_byte_byte slices w K):c_slices_Concat_byte_byte slices w K:=by
 rw [←vc_slices_Concat_byte_byte] at h
 refine Calls.mono (cvc C.plain_ok C.mixed Tryz.func51 rfl h) ?_
 rintro e w' ⟨s,rfl,hK⟩
 exact ⟨s.1,rfl,hK⟩
def sh_png_big (v:Int) (w:World) (K:Slc→World→Prop):Prop :=0≤(24:Int) ∧0≤(16:Int) ∧0≤(8:Int) ∧nw ty_uint8 [(.int .u8 (IntKind.u8.wrap (v.fdiv (2^(min (24:Int).toNat IntKind.u32.bits))))),(.int .u8 (IntKind.u8.wrap (v.fdiv (2^(min (16:Int).toNat IntKind.u32.bits))))),(.int .u8 (IntKind.u8.wrap (v.fdiv (2^(min (8:Int).toNat IntKind.u32.bits))))),(.int .u8 (IntKind.u8.wrap v))] w fun t14 w1 =>K (⟨(some t14),4,4⟩:Slc) w1
def an_png_big:List Ann:=[.none,.none]
theorem vc_png_big (v:Int) (w:World) (K:Slc→World→Prop) :
  vcFn C (Tryz.f52.body.getD .skip) Tryz.f52.results.toList Tryz.f52.ntmps an_png_big [Kind.slice] [(.int .u32 v)] w (fun s w=>K s.1 w)=sh_png_big v w K:=by kernel_rfl
theorem call_png_big (v:Int) {w:World} {K:Slc→World→Prop} (h:sh_png_big v w K):c_png_big v w K:=by
 rw [←vc_png_big] at h
 refine Calls.mono (cvc C.plain_ok C.mixed Tryz.func52 rfl h) ?_
 rintro e w' ⟨s,rfl,hK⟩
 exact ⟨s.1,rfl,hK⟩
def sh_sums_Of_sums_Crc (s:Option Addr) (parts:Slc) (w:World) (K:Int→World→Prop):Prop :=loopP (σ:=Int×Unit) (fun I1 s_1 w1 =>cond (decide (s_1.1<((parts.n:Nat):Int))) (ixK parts s_1.1 1 fun t11 =>ldSl t11 w1 fun t12 =>callI C (.iface ty_p_sums_Crc (.pointer s)) "Write" [(.slice t12.a t12.n t12.c)] [(Kind.int .i64), Kind.raw] w1 fun (t16 : Int) (t16_1 : Value) w2 =>I1 ((IntKind.i64.wrap (s_1.1+(1:Int))),()) w2) (callI C (.iface ty_p_sums_Crc (.pointer s)) "Sum" [] [(Kind.int .u32)] w1 fun (t20 : Int) w3 =>K t20 w3)) (0,()) w
def an_sums_Of_sums_Crc:List Ann:=[.none,.none,.none,.join [(9,(Kind.int .i64))] [6,9,10,11,12,13,14,15,16,17],.none,.none,.none,.none,.none]
theorem vc_sums_Of_sums_Crc (s:Option Addr) (parts:Slc) (w:World) (K:Int→World→Prop) :
  vcFn C (Tryz.f53.body.getD .skip) Tryz.f53.results.toList Tryz.f53.ntmps an_sums_Of_sums_Crc [(Kind.int .u32)] [(.pointer s),(.slice parts.a parts.n parts.c)] w (fun s w=>K s.1 w)=sh_sums_Of_sums_Crc s parts w K:=by kernel_rfl
theorem call_sums_Of_sums_Crc (s:Option Addr) (parts:Slc) {w:World} {K:Int→World→Prop} (h:sh_sums_Of_sums_Crc s parts w K):c_sums_Of_sums_Crc s parts w K:=by
 rw [←vc_sums_Of_sums_Crc] at h
 refine Calls.mono (cvc C.plain_ok C.mixed Tryz.func53 rfl h) ?_
 rintro e w' ⟨s,rfl,hK⟩
 exact ⟨s.1,rfl,hK⟩
def sh_sums_NewCrc  (w:World) (K:Option Addr→World→Prop):Prop :=nw ty_sums_Crc [(.int .u32 4294967295)] w fun t2 w1 =>K (some t2) w1
def an_sums_NewCrc:List Ann:=[.none,.none]
theorem vc_sums_NewCrc  (w:World) (K:Option Addr→World→Prop) :
  vcFn C (Tryz.f54.body.getD .skip) Tryz.f54.results.toList Tryz.f54.ntmps an_sums_NewCrc [Kind.ptr] [] w (fun s w=>K s.1 w)=sh_sums_NewCrc  w K:=by kernel_rfl
theorem call_sums_NewCrc  {w:World} {K:Option Addr→World→Prop} (h:sh_sums_NewCrc  w K):c_sums_NewCrc  w K:=by
 rw [←vc_sums_NewCrc] at h
 refine Calls.mono (cvc C.plain_ok C.mixed Tryz.func54 rfl h) ?_
 rintro e w' ⟨s,rfl,hK⟩
 exact ⟨s.1,rfl,hK⟩
def sh_slices_Contains_int_int (s:Slc) (v:Int) (w:World) (K:Bool→World→Prop):Prop :=c_slices_Index_int_int s v w fun t7 w1 =>K (decide (t7≥(0:Int))) w1
def an_slices_Contains_int_int:List Ann:=[.none,.none]
theorem vc_slices_Contains_int_int (s:Slc) (v:Int) (w:World) (K:Bool→World→Prop) :
  vcFn C (Tryz.f58.body.getD .skip) Tryz.f58.results.toList Tryz.f58.ntmps an_slices_Contains_int_int [Kind.bool] [(.slice s.a s.n s.c),(.int .i64 v)] w (fun s w=>K s.1 w)=sh_slices_Contains_int_int s v w K:=by kernel_rfl
theorem call_slices_Contains_int_int (s:Slc) (v:Int) {w:World} {K:Bool→World→Prop} (h:sh_slices_Contains_int_int s v w K):c_slices_Contains_int_int s v w K:=by
 rw [←vc_slices_Contains_int_int] at h
 refine Calls.mono (cvc C.plain_ok C.mixed Tryz.func58 rfl h) ?_
 rintro e w' ⟨s,rfl,hK⟩
 exact ⟨s.1,rfl,hK⟩
def sh_png_Head_rows (hx:T_png_Head) (f:Value) (w:World) (K:Bool→World→Prop):Prop :=nw ty_png_Head (T_png_Head.rep.cells hx) w fun hx_1 w1 =>ldS T_png_Head.rep hx_1 w1 fun t10 =>c_png_Head_passes t10 w1 fun t11 w2 =>loopP (σ:=Int×Unit) (fun I1 s w3 =>cond (decide (s.1<((t11.n:Nat):Int))) (ixK t11 s.1 4 fun t15 =>ldS T_q8_Pass.rep t15 w3 fun t16 =>nw ty_filter_Pass [(.int .i64 0),(.int .i64 0),(.int .i64 0),(.int .i64 0)] w3 fun p w4 =>stK p (T_q8_Pass.rep.cells t16) w4 fun w5 =>ldS T_q8_Pass.rep p w5 fun t18 =>ldI .i64 (hx_1.add 0) w5 fun t20 =>ldI .i64 (hx_1.add 1) w5 fun t22 =>c_filter_Size t18 t20 t22 w5 fun t23 t23_1 w6 =>loopP (σ:=Int×Unit) (fun I2 s_1 w7 =>cond (decide (s_1.1<t23_1)) (ldS T_q8_Pass.rep p w7 fun t31 =>callR C f [(.agg #[(.int .i64 t31.X),(.int .i64 t31.Y),(.int .i64 t31.DX),(.int .i64 t31.DY)]),(.int .i64 s_1.1),(.int .i64 t23)] [Kind.bool] w7 fun (t34:Bool) w8 =>cond (!t34) (K false w8) (I2 ((IntKind.i64.wrap (s_1.1+(1:Int))),()) w8)) (I1 ((IntKind.i64.wrap (s.1+(1:Int))),()) w7)) (0,()) w6) (K true w3)) (0,()) w2
def an_png_Head_rows:List Ann:=[.none,.none,.none,.join [(13,(Kind.int .i64))] [4,6,7,8,9,13,14,15,16,17,18,19,20,21,22,23,24,25,26,27,28,29,30,31,32,33,34,35,36,37],.none,.none,.none,.none,.none,.none,.join [(27,(Kind.int .i64))] [4,9,27,28,29,30,31,32,33,34,35,36],.none,.none,.none,.none,.none,.none,.none]
theorem vc_png_Head_rows (hx:T_png_Head) (f:Value) (w:World) (K:Bool→World→Prop) :
  vcFn C (Tryz.f59.body.getD .skip) Tryz.f59.results.toList Tryz.f59.ntmps an_png_Head_rows [Kind.bool] [(.agg #[(.int .i64 hx.W),(.int .i64 hx.H),(.int .i64 hx.Depth),(.int .i64 hx.Color),(.int .i64 hx.Lace)]),f] w (fun s w=>K s.1 w)=sh_png_Head_rows hx f w K:=by kernel_rfl
theorem call_png_Head_rows (hx:T_png_Head) (f:Value) {w:World} {K:Bool→World→Prop} (h:sh_png_Head_rows hx f w K):c_png_Head_rows hx f w K:=by
 rw [←vc_png_Head_rows] at h
 refine Calls.mono (cvc C.plain_ok C.mixed Tryz.func59 rfl h) ?_
 rintro e w' ⟨s,rfl,hK⟩
 exact ⟨s.1,rfl,hK⟩
def sh_png_Encode_1 (p:T_q8_Pass) (y:Int) (wx:Int) (c0:Addr) (c1:Addr) (c2:Addr) (c3:Addr) (w:World) (K:Bool→World→Prop):Prop :=nw ty_filter_Pass (T_q8_Pass.rep.cells p) w fun p_1 w1 =>joinP (σ:=Unit) (fun s w2 =>loopP (σ:=Slc×Int×Unit) (fun I2 s_1 w3 =>cond (decide (s_1.2.1<wx)) (ldS T_api_Matrix.rep c1 w3 fun t24 =>ldI .i64 (p_1.add 0) w3 fun t26 =>ldI .i64 (p_1.add 2) w3 fun t29 =>ldI .i64 (p_1.add 1) w3 fun t33 =>ldI .i64 (p_1.add 3) w3 fun t36 =>c_pixel_At t24 (IntKind.i64.wrap (t26+(IntKind.i64.wrap (s_1.2.1*t29)))) (IntKind.i64.wrap (t33+(IntKind.i64.wrap (y*t36)))) w3 fun t39 t39_1 w4 =>nw ty_pixel_Color [(.int .u8 0),(.int .u8 0),(.int .u8 0),(.int .u8 0)] w4 fun c w5 =>stK c (T_pixel_Color.rep.cells t39) w5 fun w6 =>slA c 4 none none 1 fun t43 =>apK PG #[ty_sl_uint8,ty_sl_uint8] ty_sl_uint8 s_1.1 t43 w6 fun t44 w7 =>I2 (t44,(IntKind.i64.wrap (s_1.2.1+(1:Int))),()) w7) (ldI .i64 c2 w3 fun t47 =>ldSl c0 w3 fun t49 =>c_filter_Do t47 s_1.1 t49 4 w3 fun t50 t50_1 w8 =>ldSl c3 w8 fun t53 =>ldI .i64 c2 w8 fun t54 =>nw ty_uint8 [(.int .u8 (IntKind.u8.wrap t54))] w8 fun t56 w9 =>apK PG #[ty_sl_uint8,ty_sl_uint8] ty_sl_uint8 t53 (⟨(some t56),1,1⟩:Slc) w9 fun t57 w10 =>apK PG #[ty_sl_uint8,ty_sl_uint8] ty_sl_uint8 t57 t50 w10 fun t59 w11 =>stK c3 [(.slice t59.a t59.n t59.c)] w11 fun w12 =>stK c0 [(.slice s_1.1.a s_1.1.n s_1.1.c)] w12 fun w13 =>K true w13)) (⟨none,0,0⟩,0,()) w2) fun J1 =>cond (y==(0:Int)) (stK c0 [(.slice none 0 0)] w1 fun w14 =>J1 (()) w14) (J1 (()) w1)
def an_png_Encode_1:List Ann:=[.none,.join [] [17,18],.none,.none,.none,.none,.join [(11,Kind.slice),(20,(Kind.int .i64))] [11,12,13,14,20,21,22,23,24,25,26,27,28,29,30,31,32,33,34,35,36,37,38,39,40,41,42,43,44,45],.none,.none,.none,.none,.none,.none,.none,.none,.none]
theorem vc_png_Encode_1 (p:T_q8_Pass) (y:Int) (wx:Int) (c0:Addr) (c1:Addr) (c2:Addr) (c3:Addr) (w:World) (K:Bool→World→Prop) :
  vcFn C (Tryz.f60.body.getD .skip) Tryz.f60.results.toList Tryz.f60.ntmps an_png_Encode_1 [Kind.bool] [(.agg #[(.int .i64 p.X),(.int .i64 p.Y),(.int .i64 p.DX),(.int .i64 p.DY)]),(.int .i64 y),(.int .i64 wx),(.pointer (some c0)),(.pointer (some c1)),(.pointer (some c2)),(.pointer (some c3))] w (fun s w=>K s.1 w)=sh_png_Encode_1 p y wx c0 c1 c2 c3 w K:=by kernel_rfl
theorem call_png_Encode_1 (p:T_q8_Pass) (y:Int) (wx:Int) (c0:Addr) (c1:Addr) (c2:Addr) (c3:Addr) {w:World} {K:Bool→World→Prop} (h:sh_png_Encode_1 p y wx c0 c1 c2 c3 w K):c_png_Encode_1 p y wx c0 c1 c2 c3 w K:=by
 rw [←vc_png_Encode_1] at h
 refine Calls.mono (cvc C.plain_ok C.mixed Tryz.func60 rfl h) ?_
 rintro e w' ⟨s,rfl,hK⟩
 exact ⟨s.1,rfl,hK⟩
def sh_pixel_At (m:T_api_Matrix) (x:Int) (y:Int) (w:World) (K:T_pixel_Color→Bool→World→Prop):Prop :=nw ty_api_Matrix (T_api_Matrix.rep.cells m) w fun m_1 w1 =>nw ty_pixel_Color [(.int .u8 0),(.int .u8 0),(.int .u8 0),(.int .u8 0)] w1 fun t6 w2 =>ldS T_api_Matrix.rep m_1 w2 fun t8 =>c_pixel_in t8 x y w2 fun t11 w3 =>cond (!t11) (stK t6 [(.int .u8 0),(.int .u8 0),(.int .u8 0),(.int .u8 0)] w3 fun w4 =>ldS T_pixel_Color.rep t6 w4 fun r =>K r false w4) (ldS T_api_Matrix.rep m_1 w3 fun t14 =>c_pixel_at t14 x y w3 fun t17 w5 =>stK t6 (T_pixel_Color.rep.cells t17) w5 fun w6 =>ldS T_pixel_Color.rep t6 w6 fun r_1 =>K r_1 true w6)
def an_pixel_At:List Ann:=[.none,.none,.none,.none,.none]
theorem vc_pixel_At (m:T_api_Matrix) (x:Int) (y:Int) (w:World) (K:T_pixel_Color→Bool→World→Prop) :
  vcFn C (Tryz.f61.body.getD .skip) Tryz.f61.results.toList Tryz.f61.ntmps an_pixel_At [(Kind.struct T_pixel_Color.rep),Kind.bool] [(.agg #[(.int .i64 m.W),(.int .i64 m.H),(.slice m.P.a m.P.n m.P.c)]),(.int .i64 x),(.int .i64 y)] w (fun s w=>K s.1 s.2.1 w)=sh_pixel_At m x y w K:=by kernel_rfl
theorem call_pixel_At (m:T_api_Matrix) (x:Int) (y:Int) {w:World} {K:T_pixel_Color→Bool→World→Prop} (h:sh_pixel_At m x y w K):c_pixel_At m x y w K:=by
 rw [←vc_pixel_At] at h
 refine Calls.mono (cvc C.plain_ok C.mixed Tryz.func61 rfl h) ?_
 rintro e w' ⟨s,rfl,hK⟩
 exact ⟨s.1,s.2.1,rfl,hK⟩
def sh_filter_Do (kind:Int) (row:Slc) (ahead:Slc) (step:Int) (w:World) (K:Slc→Int→World→Prop):Prop :=c_filter_check kind row ahead step w fun t16 w1 =>cond (!t16) (K (⟨none,0,0⟩:Slc) 1 w1) (c_slices_Clone_byte_byte row w1 fun t19 w2 =>loopP (σ:=Int×Unit) (fun I1 s w3 =>cond (decide (s.1<((t19.n:Nat):Int))) (ixK t19 s.1 1 fun t27 =>ldI .u8 t27 w3.drew fun t28 =>c_filter_guess kind s.1 row ahead step w3.drew fun t34 w4 =>World.cell? w4 t27=some (.int .u8 t28) ∧ixK t19 s.1 1 fun t36 =>stK t36 [(.int .u8 (IntKind.u8.wrap (t28-t34)))] w4 fun w5 =>I1 ((IntKind.i64.wrap (s.1+(1:Int))),()) w5) (K t19 0 w3)) (0,()) w2)
def an_filter_Do:List Ann:=[.none,.none,.none,.none,.none,.none,.none,.join [(22,(Kind.int .i64))] [11,22,23,24,25,26,27,28,29,30,31,32,33,34,35,36,37],.none,.none,.none,.none,.none]
theorem vc_filter_Do (kind:Int) (row:Slc) (ahead:Slc) (step:Int) (w:World) (K:Slc→Int→World→Prop) :
  vcFn C (Tryz.f62.body.getD .skip) Tryz.f62.results.toList Tryz.f62.ntmps an_filter_Do [Kind.slice,(Kind.int .i64)] [(.int .i64 kind),(.slice row.a row.n row.c),(.slice ahead.a ahead.n ahead.c),(.int .i64 step)] w (fun s w=>K s.1 s.2.1 w)=sh_filter_Do kind row ahead step w K:=by kernel_rfl
theorem call_filter_Do (kind:Int) (row:Slc) (ahead:Slc) (step:Int) {w:World} {K:Slc→Int→World→Prop} (h:sh_filter_Do kind row ahead step w K):c_filter_Do kind row ahead step w K:=by
 rw [←vc_filter_Do] at h
 refine Calls.mono (cvc C.plain_ok C.mixed Tryz.func62 rfl h) ?_
 rintro e w' ⟨s,rfl,hK⟩
 exact ⟨s.1,s.2.1,rfl,hK⟩
def sh_png_read (b:Slc) (pixels:Int) (w:World) (K:Option Addr→Int→World→Prop):Prop :=c_png_Chunks b w fun t15 t15_1 w1 =>cond (t15_1 !=(0:Int)) (K none t15_1 w1) (ixK t15 0 2 fun t23 =>ldS T_png_Chunk.rep t23 w1 fun t24 =>c_png_head t24 w1 fun t25 t25_1 w2 =>nw ty_png_Head [(.int .i64 0),(.int .i64 0),(.int .i64 0),(.int .i64 0),(.int .i64 0)] w2 fun hx w3 =>stK hx (T_png_Head.rep.cells t25) w3 fun w4 =>cond (t25_1 !=(0:Int)) (K none t25_1 w4) (ldI .i64 (hx.add 0) w4 fun t34 =>ldI .i64 (hx.add 1) w4 fun t36 =>cond (decide ((IntKind.i64.wrap (t34*t36))>(if (67108864:Int)<pixels then (67108864:Int) else pixels))) (K none 5 w4) (ldS T_png_Head.rep hx w4 fun t41 =>nw ty_png_file [(.int .i64 t41.W),(.int .i64 t41.H),(.int .i64 t41.Depth),(.int .i64 t41.Color),(.int .i64 t41.Lace),(.slice none 0 0),(.slice none 0 0),(.bool false),(.bool false),(.slice none 0 0),(.bool false),(.bool false)] w4 fun t43 w5 =>slK t15 (some 1) none 2 fun t45 =>loopP (σ:=Int×Unit) (fun I1 s w6 =>cond (decide (s.1<((t45.n:Nat):Int))) (ixK t45 s.1 2 fun t49 =>ldS T_png_Chunk.rep t49 w6 fun t50 =>nw ty_png_Chunk [(.string (⟨#[]⟩:ByteArray)),(.slice none 0 0)] w6 fun c w7 =>stK c (T_png_Chunk.rep.cells t50) w7 fun w8 =>ldS T_png_Chunk.rep c w8 fun t52 =>c_png_file_take (some t43) t52 w8 fun t53 w9 =>cond (t53 !=(0:Int)) (K none t53 w9) (I1 ((IntKind.i64.wrap (s.1+(1:Int))),()) w9)) (ldB (t43.add 10) w6 fun t61 =>cond (!t61) (K none 3 w6) (ldI .i64 (hx.add 3) w6 fun t65 =>cond (t65==(3:Int)) (ldB (t43.add 7) w6 fun t71 =>cond (!t71) (K none 3 w6) (K (some t43) 0 w6)) (K (some t43) 0 w6)))) (0,()) w5)))
def an_png_read:List Ann:=[.none,.none,.none,.none,.none,.none,.none,.none,.none,.none,.none,.none,.none,.none,.join [(47,(Kind.int .i64))] [4,5,11,12,47,48,49,50,51,52,53,54,55,56,57],.none,.none,.none,.none,.none,.none,.none,.none,.none,.none,.none]
theorem vc_png_read (b:Slc) (pixels:Int) (w:World) (K:Option Addr→Int→World→Prop) :
  vcFn C (Tryz.f63.body.getD .skip) Tryz.f63.results.toList Tryz.f63.ntmps an_png_read [Kind.ptr,(Kind.int .i64)] [(.slice b.a b.n b.c),(.int .i64 pixels)] w (fun s w=>K s.1 s.2.1 w)=sh_png_read b pixels w K:=by kernel_rfl
theorem call_png_read (b:Slc) (pixels:Int) {w:World} {K:Option Addr→Int→World→Prop} (h:sh_png_read b pixels w K):c_png_read b pixels w K:=by
 rw [←vc_png_read] at h
 refine Calls.mono (cvc C.plain_ok C.mixed Tryz.func63 rfl h) ?_
 rintro e w' ⟨s,rfl,hK⟩
 exact ⟨s.1,s.2.1,rfl,hK⟩
def sh_png_Head_need (hx:T_png_Head) (w:World) (K:Int→World→Prop):Prop :=nw ty_png_Head (T_png_Head.rep.cells hx) w fun hx_1 w1 =>nw ty_int [(.int .i64 0)] w1 fun n w2 =>stK n [(.int .i64 0)] w2 fun w3 =>ldS T_png_Head.rep hx_1 w3 fun t4 =>c_png_Head_rows t4 ((.func (.func fn_png_Head_need_1) #[] #[(.pointer (some n)),(.pointer (some hx_1))]):Value) w3 fun t6 w4 =>ldI .i64 n w4 fun t7 =>K t7 w4
def an_png_Head_need:List Ann:=[.none,.none,.none,.none]
theorem vc_png_Head_need (hx:T_png_Head) (w:World) (K:Int→World→Prop) :
  vcFn C (Tryz.f64.body.getD .skip) Tryz.f64.results.toList Tryz.f64.ntmps an_png_Head_need [(Kind.int .i64)] [(.agg #[(.int .i64 hx.W),(.int .i64 hx.H),(.int .i64 hx.Depth),(.int .i64 hx.Color),(.int .i64 hx.Lace)])] w (fun s w=>K s.1 w)=sh_png_Head_need hx w K:=by kernel_rfl
theorem call_png_Head_need (hx:T_png_Head) {w:World} {K:Int→World→Prop} (h:sh_png_Head_need hx w K):c_png_Head_need hx w K:=by
 rw [←vc_png_Head_need] at h
 refine Calls.mono (cvc C.plain_ok C.mixed Tryz.func64 rfl h) ?_
 rintro e w' ⟨s,rfl,hK⟩
 exact ⟨s.1,rfl,hK⟩
def sh_zlib_Unpack (b:Slc) (most:Int) (w:World) (K:Slc→Int→Int→World→Prop):Prop :=c_zlib_New most w fun t12 t12_1 w1 =>cond (t12_1 !=(0:Int)) (K (⟨none,0,0⟩:Slc) 0 t12_1 w1) (c_zlib_Decoder_Write t12 b w1 fun t21 t21_1 w2 =>cond (t21_1 !=(0:Int)) (K (⟨none,0,0⟩:Slc) 0 t21_1 w2) (c_zlib_Decoder_Done t12 w2 fun t30 w3 =>cond (!t30) (K (⟨none,0,0⟩:Slc) 0 2 w3) (c_zlib_Decoder_Used t12 w3 fun t34 w4 =>K t21 t34 0 w4)))
def an_zlib_Unpack:List Ann:=[.none,.none,.none,.none,.none,.none,.none,.none,.none,.none,.none,.none]
theorem vc_zlib_Unpack (b:Slc) (most:Int) (w:World) (K:Slc→Int→Int→World→Prop) :
  vcFn C (Tryz.f65.body.getD .skip) Tryz.f65.results.toList Tryz.f65.ntmps an_zlib_Unpack [Kind.slice,(Kind.int .i64),(Kind.int .i64)] [(.slice b.a b.n b.c),(.int .i64 most)] w (fun s w=>K s.1 s.2.1 s.2.2.1 w)=sh_zlib_Unpack b most w K:=by kernel_rfl
theorem call_zlib_Unpack (b:Slc) (most:Int) {w:World} {K:Slc→Int→Int→World→Prop} (h:sh_zlib_Unpack b most w K):c_zlib_Unpack b most w K:=by
 rw [←vc_zlib_Unpack] at h
 refine Calls.mono (cvc C.plain_ok C.mixed Tryz.func65 rfl h) ?_
 rintro e w' ⟨s,rfl,hK⟩
 exact ⟨s.1,s.2.1,s.2.2.1,rfl,hK⟩
def sh_png_file_pixels (f:Option Addr) (b:Slc) (w:World) (K:T_api_Matrix→Int→World→Prop):Prop :=nw ty_p_png_file [(.pointer f)] w fun f_1 w1 =>nw ty_sl_uint8 [(.slice b.a b.n b.c)] w1 fun b_1 w2 =>nw ty_api_Matrix [(.int .i64 0),(.int .i64 0),(.slice none 0 0)] w2 fun t4 w3 =>ldP f_1 w3.drew fun t13 =>onPtr t13 fun t14 =>ldI .i64 ((t14.add 0).add 0) w3.drew fun t17 =>ldP f_1 w3.drew fun t18 =>onPtr t18 fun t19 =>ldI .i64 ((t19.add 0).add 1) w3.drew fun t22 =>(c_pixel_New t17 t22 w3.drew fun t23 t23_1 w4 =>nw ty_api_Matrix [(.int .i64 0),(.int .i64 0),(.slice none 0 0)] w4 fun m w5 =>World.cell? w5 ((t19.add 0).add 1)=some (.int .i64 t22) ∧World.cell? w5 f_1=some (.pointer t18) ∧World.cell? w5 ((t14.add 0).add 0)=some (.int .i64 t17) ∧World.cell? w5 f_1=some (.pointer t13) ∧stK m (T_api_Matrix.rep.cells t23) w5 fun w6 =>ldP f_1 w6 fun t26 =>onPtr t26 fun t27 =>ldI .i64 ((t27.add 0).add 3) w6 fun t30 =>c_png_Samples t30 w6 fun t31 w7 =>nw ty_int [(.int .i64 0)] w7 fun n w8 =>stK n [(.int .i64 t31)] w8 fun w9 =>ldI .i64 n w9.drew fun t32 =>ldP f_1 w9.drew fun t33 =>onPtr t33 fun t34 =>ldI .i64 ((t34.add 0).add 2) w9.drew fun t37 =>(8:Int)≠0 ∧nw ty_int [(.int .i64 0)] w9.drew fun step w10 =>World.cell? w10 ((t34.add 0).add 2)=some (.int .i64 t37) ∧World.cell? w10 f_1=some (.pointer t33) ∧World.cell? w10 n=some (.int .i64 t32) ∧stK step [(.int .i64 (IntKind.i64.wrap ((IntKind.i64.wrap ((IntKind.i64.wrap (t32*t37))+(7:Int))).tdiv (8:Int))))] w10 fun w11 =>nw ty_sl_uint8 [(.slice none 0 0)] w11 fun ahead w12 =>ldP f_1 w12 fun t41 =>onPtr t41 fun t42 =>ldS T_png_Head.rep (t42.add 0) w12 fun t44 =>c_png_Head_rows t44 ((.func (.func fn_png_file_pixels_1) #[] #[(.pointer (some n)),(.pointer (some f_1)),(.pointer (some ahead)),(.pointer (some b_1)),(.pointer (some step)),(.pointer (some m))]):Value) w12 fun t46 w13 =>cond (!t46) (stK t4 [(.int .i64 0),(.int .i64 0),(.slice none 0 0)] w13 fun w14 =>ldS T_api_Matrix.rep t4 w14 fun r =>K r 3 w14) (ldS T_api_Matrix.rep m w13 fun t50 =>stK t4 (T_api_Matrix.rep.cells t50) w13 fun w15 =>ldS T_api_Matrix.rep t4 w15 fun r_1 =>K r_1 0 w15)) ∧nw ty_api_Matrix [(.int .i64 0),(.int .i64 0),(.slice none 0 0)] w3.drew fun m_1 w16 =>World.cell? w16 ((t19.add 0).add 1)=some (.int .i64 t22) ∧World.cell? w16 f_1=some (.pointer t18) ∧World.cell? w16 ((t14.add 0).add 0)=some (.int .i64 t17) ∧World.cell? w16 f_1=some (.pointer t13) ∧c_pixel_New t17 t22 w16 fun t23_2 t23_3 w17 =>stK m_1 (T_api_Matrix.rep.cells t23_2) w17 fun w18 =>ldP f_1 w18 fun t26_1 =>onPtr t26_1 fun t27_1 =>ldI .i64 ((t27_1.add 0).add 3) w18 fun t30_1 =>c_png_Samples t30_1 w18 fun t31_1 w19 =>nw ty_int [(.int .i64 0)] w19 fun n_1 w20 =>stK n_1 [(.int .i64 t31_1)] w20 fun w21 =>ldI .i64 n_1 w21.drew fun t32_1 =>ldP f_1 w21.drew fun t33_1 =>onPtr t33_1 fun t34_1 =>ldI .i64 ((t34_1.add 0).add 2) w21.drew fun t37_1 =>(8:Int)≠0 ∧nw ty_int [(.int .i64 0)] w21.drew fun step_1 w22 =>World.cell? w22 ((t34_1.add 0).add 2)=some (.int .i64 t37_1) ∧World.cell? w22 f_1=some (.pointer t33_1) ∧World.cell? w22 n_1=some (.int .i64 t32_1) ∧stK step_1 [(.int .i64 (IntKind.i64.wrap ((IntKind.i64.wrap ((IntKind.i64.wrap (t32_1*t37_1))+(7:Int))).tdiv (8:Int))))] w22 fun w23 =>nw ty_sl_uint8 [(.slice none 0 0)] w23 fun ahead_1 w24 =>ldP f_1 w24 fun t41_1 =>onPtr t41_1 fun t42_1 =>ldS T_png_Head.rep (t42_1.add 0) w24 fun t44_1 =>c_png_Head_rows t44_1 ((.func (.func fn_png_file_pixels_1) #[] #[(.pointer (some n_1)),(.pointer (some f_1)),(.pointer (some ahead_1)),(.pointer (some b_1)),(.pointer (some step_1)),(.pointer (some m_1))]):Value) w24 fun t46_1 w25 =>cond (!t46_1) (stK t4 [(.int .i64 0),(.int .i64 0),(.slice none 0 0)] w25 fun w26 =>ldS T_api_Matrix.rep t4 w26 fun r_2 =>K r_2 3 w26) (ldS T_api_Matrix.rep m_1 w25 fun t50_1 =>stK t4 (T_api_Matrix.rep.cells t50_1) w25 fun w27 =>ldS T_api_Matrix.rep t4 w27 fun r_3 =>K r_3 0 w27)
def an_png_file_pixels:List Ann:=[.none,.none,.none,.none,.none,.none,.none,.none,.none,.none]
theorem vc_png_file_pixels (f:Option Addr) (b:Slc) (w:World) (K:T_api_Matrix→Int→World→Prop) :
  vcFn C (Tryz.f66.body.getD .skip) Tryz.f66.results.toList Tryz.f66.ntmps an_png_file_pixels [(Kind.struct T_api_Matrix.rep),(Kind.int .i64)] [(.pointer f),(.slice b.a b.n b.c)] w (fun s w=>K s.1 s.2.1 w)=sh_png_file_pixels f b w K:=by kernel_rfl
theorem call_png_file_pixels (f:Option Addr) (b:Slc) {w:World} {K:T_api_Matrix→Int→World→Prop} (h:sh_png_file_pixels f b w K):c_png_file_pixels f b w K:=by
 rw [←vc_png_file_pixels] at h
 refine Calls.mono (cvc C.plain_ok C.mixed Tryz.func66 rfl h) ?_
 rintro e w' ⟨s,rfl,hK⟩
 exact ⟨s.1,s.2.1,rfl,hK⟩
def sh_png_each (b:Slc) (f:Value) (w:World) (K:Int→World→Prop):Prop :=c_png_sign  w fun t10 w1 =>slK b none (some (if ((t10.n:Nat):Int)<((b.n:Nat):Int) then ((t10.n:Nat):Int) else ((b.n:Nat):Int))) 1 fun t19 =>slK t10 none (some (if ((t10.n:Nat):Int)<((b.n:Nat):Int) then ((t10.n:Nat):Int) else ((b.n:Nat):Int))) 1 fun t22 =>c_bytes_Equal t19 t22 w1.drew fun t23 w2 =>cond (!t23) (K 3 w2) (cond (decide ((if ((t10.n:Nat):Int)<((b.n:Nat):Int) then ((t10.n:Nat):Int) else ((b.n:Nat):Int))<((t10.n:Nat):Int))) (K 2 w2) (slK b (some ((t10.n:Nat):Int)) none 1 fun t33 =>loopP (σ:=Slc×Unit) (fun I1 s w3 =>c_png_chunk s.1 w3 fun t36 t36_1 t36_2 w4 =>nw ty_png_Chunk [(.string (⟨#[]⟩:ByteArray)),(.slice none 0 0)] w4 fun c w5 =>stK c (T_png_Chunk.rep.cells t36) w5 fun w6 =>cond (t36_2 !=(0:Int)) (K t36_2 w6) (ldS T_png_Chunk.rep c w6 fun t44 =>callR C f [(.agg #[(.string t44.Kind),(.slice t44.Data.a t44.Data.n t44.Data.c)])] [Kind.bool] w6 fun (t45:Bool) w7 =>cond (!t45) (K 0 w7) (slK s.1 (some t36_1) none 1 fun t49 =>I1 (t49,()) w7))) (t33,()) w2))
def an_png_each:List Ann:=[.none,.none,.none,.none,.none,.none,.none,.none,.none,.join [(0,Kind.slice)] [0,4,7,8,9,34,35,36,37,38,39,40,41,42,43,44,45,46,47,48,49],.none,.none,.none,.none,.none,.none,.none]
theorem vc_png_each (b:Slc) (f:Value) (w:World) (K:Int→World→Prop) :
  vcFn C (Tryz.f72.body.getD .skip) Tryz.f72.results.toList Tryz.f72.ntmps an_png_each [(Kind.int .i64)] [(.slice b.a b.n b.c),f] w (fun s w=>K s.1 w)=sh_png_each b f w K:=by kernel_rfl
theorem call_png_each (b:Slc) (f:Value) {w:World} {K:Int→World→Prop} (h:sh_png_each b f w K):c_png_each b f w K:=by
 rw [←vc_png_each] at h
 refine Calls.mono (cvc C.plain_ok C.mixed Tryz.func72 rfl h) ?_
 rintro e w' ⟨s,rfl,hK⟩
 exact ⟨s.1,rfl,hK⟩
def sh_png_head (c:T_png_Chunk) (w:World) (K:T_png_Head→Int→World→Prop):Prop :=nw ty_png_Chunk (T_png_Chunk.rep.cells c) w fun c_1 w1 =>nw ty_png_Head [(.int .i64 0),(.int .i64 0),(.int .i64 0),(.int .i64 0),(.int .i64 0)] w1 fun t2 w2 =>ldSl (c_1.add 1) w2 fun t8 =>joinP (σ:=Unit) (fun s w3 =>slK t8 (some 4) none 1 fun t34 =>ixK t8 8 1 fun t38 =>ldI .u8 t38 w3.drew fun t39 =>ixK t8 9 1 fun t42 =>ldI .u8 t42 w3.drew fun t43 =>ixK t8 12 1 fun t46 =>ldI .u8 t46 w3.drew fun t47 =>(c_bits_Big t8 w3.drew fun t31 w4 =>World.cell? w4 t46=some (.int .u8 t47) ∧World.cell? w4 t42=some (.int .u8 t43) ∧World.cell? w4 t38=some (.int .u8 t39) ∧(c_bits_Big t34 w4 fun t35 w5 =>World.cell? w5 t46=some (.int .u8 t47) ∧World.cell? w5 t42=some (.int .u8 t43) ∧World.cell? w5 t38=some (.int .u8 t39) ∧nw ty_png_Head [(.int .i64 0),(.int .i64 0),(.int .i64 0),(.int .i64 0),(.int .i64 0)] w5 fun hx w6 =>World.cell? w6 t46=some (.int .u8 t47) ∧World.cell? w6 t42=some (.int .u8 t43) ∧World.cell? w6 t38=some (.int .u8 t39) ∧stK hx [(.int .i64 (IntKind.i64.wrap t31)),(.int .i64 (IntKind.i64.wrap t35)),(.int .i64 (IntKind.i64.wrap t39)),(.int .i64 (IntKind.i64.wrap t43)),(.int .i64 (IntKind.i64.wrap t47))] w6 fun w7 =>ldS T_png_Head.rep hx w7 fun t50 =>c_png_Check t50 w7 fun t51 w8 =>cond (t51 !=(0:Int)) (stK t2 [(.int .i64 0),(.int .i64 0),(.int .i64 0),(.int .i64 0),(.int .i64 0)] w8 fun w9 =>ldS T_png_Head.rep t2 w9 fun r =>K r t51 w9) (ldS T_png_Head.rep hx w8 fun t56 =>stK t2 (T_png_Head.rep.cells t56) w8 fun w10 =>ldS T_png_Head.rep t2 w10 fun r_1 =>K r_1 0 w10)) ∧nw ty_png_Head [(.int .i64 0),(.int .i64 0),(.int .i64 0),(.int .i64 0),(.int .i64 0)] w4 fun hx_1 w11 =>World.cell? w11 t46=some (.int .u8 t47) ∧World.cell? w11 t42=some (.int .u8 t43) ∧World.cell? w11 t38=some (.int .u8 t39) ∧c_bits_Big t34 w11 fun t35_1 w12 =>World.cell? w12 t46=some (.int .u8 t47) ∧World.cell? w12 t42=some (.int .u8 t43) ∧World.cell? w12 t38=some (.int .u8 t39) ∧stK hx_1 [(.int .i64 (IntKind.i64.wrap t31)),(.int .i64 (IntKind.i64.wrap t35_1)),(.int .i64 (IntKind.i64.wrap t39)),(.int .i64 (IntKind.i64.wrap t43)),(.int .i64 (IntKind.i64.wrap t47))] w12 fun w13 =>ldS T_png_Head.rep hx_1 w13 fun t50_1 =>c_png_Check t50_1 w13 fun t51_1 w14 =>cond (t51_1 !=(0:Int)) (stK t2 [(.int .i64 0),(.int .i64 0),(.int .i64 0),(.int .i64 0),(.int .i64 0)] w14 fun w15 =>ldS T_png_Head.rep t2 w15 fun r_2 =>K r_2 t51_1 w15) (ldS T_png_Head.rep hx_1 w14 fun t56_1 =>stK t2 (T_png_Head.rep.cells t56_1) w14 fun w16 =>ldS T_png_Head.rep t2 w16 fun r_3 =>K r_3 0 w16)) ∧nw ty_png_Head [(.int .i64 0),(.int .i64 0),(.int .i64 0),(.int .i64 0),(.int .i64 0)] w3.drew fun hx_2 w17 =>World.cell? w17 t46=some (.int .u8 t47) ∧World.cell? w17 t42=some (.int .u8 t43) ∧World.cell? w17 t38=some (.int .u8 t39) ∧c_bits_Big t8 w17 fun t31_1 w18 =>World.cell? w18 t46=some (.int .u8 t47) ∧World.cell? w18 t42=some (.int .u8 t43) ∧World.cell? w18 t38=some (.int .u8 t39) ∧c_bits_Big t34 w18 fun t35_2 w19 =>World.cell? w19 t46=some (.int .u8 t47) ∧World.cell? w19 t42=some (.int .u8 t43) ∧World.cell? w19 t38=some (.int .u8 t39) ∧stK hx_2 [(.int .i64 (IntKind.i64.wrap t31_1)),(.int .i64 (IntKind.i64.wrap t35_2)),(.int .i64 (IntKind.i64.wrap t39)),(.int .i64 (IntKind.i64.wrap t43)),(.int .i64 (IntKind.i64.wrap t47))] w19 fun w20 =>ldS T_png_Head.rep hx_2 w20 fun t50_2 =>c_png_Check t50_2 w20 fun t51_2 w21 =>cond (t51_2 !=(0:Int)) (stK t2 [(.int .i64 0),(.int .i64 0),(.int .i64 0),(.int .i64 0),(.int .i64 0)] w21 fun w22 =>ldS T_png_Head.rep t2 w22 fun r_4 =>K r_4 t51_2 w22) (ldS T_png_Head.rep hx_2 w21 fun t56_2 =>stK t2 (T_png_Head.rep.cells t56_2) w21 fun w23 =>ldS T_png_Head.rep t2 w23 fun r_5 =>K r_5 0 w23)) fun J1 =>joinP (σ:=Bool×Unit) (fun s_1 w24 =>cond s_1.1 (stK t2 [(.int .i64 0),(.int .i64 0),(.int .i64 0),(.int .i64 0),(.int .i64 0)] w24 fun w25 =>ldS T_png_Head.rep t2 w25 fun r_6 =>K r_6 3 w25) (J1 (()) w24)) fun J2 =>ldStr (c_1.add 0) w2 fun t10 =>cond (!(t10.toList==(⟨#[73,72,68,82]⟩:ByteArray).toList)) (J2 (true,()) w2) (cond (((t8.n:Nat):Int) !=(13:Int)) (J2 (true,()) w2) (ixK t8 10 1 fun t19 =>ldI .u8 t19 w2 fun t20 =>cond (t20 !=(0:Int)) (J2 (true,()) w2) (ixK t8 11 1 fun t25 =>ldI .u8 t25 w2 fun t26 =>J2 ((t26 !=(0:Int)),()) w2)))
def an_png_head:List Ann:=[.none,.none,.join [] [3,9,10,11,12,13,14,15,16,17,18,19,20,21,22,23,24,25,26,27,28,29],.join [(28,Kind.bool)] [9,10,11,12,13,14,15,16,17,18,19,20,21,22,23,24,25,26,27,28],.none,.none,.none,.none,.none,.none,.none]
theorem vc_png_head (c:T_png_Chunk) (w:World) (K:T_png_Head→Int→World→Prop) :
  vcFn C (Tryz.f74.body.getD .skip) Tryz.f74.results.toList Tryz.f74.ntmps an_png_head [(Kind.struct T_png_Head.rep),(Kind.int .i64)] [(.agg #[(.string c.Kind),(.slice c.Data.a c.Data.n c.Data.c)])] w (fun s w=>K s.1 s.2.1 w)=sh_png_head c w K:=by kernel_rfl
theorem call_png_head (c:T_png_Chunk) {w:World} {K:T_png_Head→Int→World→Prop} (h:sh_png_head c w K):c_png_head c w K:=by
 rw [←vc_png_head] at h
 refine Calls.mono (cvc C.plain_ok C.mixed Tryz.func74 rfl h) ?_
 rintro e w' ⟨s,rfl,hK⟩
 exact ⟨s.1,s.2.1,rfl,hK⟩
def sh_png_Chunks_1 (c:T_png_Chunk) (c0:Addr) (w:World) (K:Bool→World→Prop):Prop :=nw ty_png_Chunk (T_png_Chunk.rep.cells c) w fun c_1 w1 =>ldSl c0 w1 fun t4 =>ldS T_png_Chunk.rep c_1 w1 fun t5 =>nw ty_png_Chunk [(.string t5.Kind),(.slice t5.Data.a t5.Data.n t5.Data.c)] w1 fun t6 w2 =>apK PG #[ty_sl_png_Chunk,ty_sl_png_Chunk] ty_sl_png_Chunk t4 (⟨(some t6),1,1⟩:Slc) w2 fun t7 w3 =>stK c0 [(.slice t7.a t7.n t7.c)] w3 fun w4 =>ldStr (c_1.add 0) w4 fun t9 =>K (!(t9.toList==(⟨#[73,69,78,68]⟩:ByteArray).toList)) w4
def an_png_Chunks_1:List Ann:=[.none,.none,.none]
theorem vc_png_Chunks_1 (c:T_png_Chunk) (c0:Addr) (w:World) (K:Bool→World→Prop) :
  vcFn C (Tryz.f75.body.getD .skip) Tryz.f75.results.toList Tryz.f75.ntmps an_png_Chunks_1 [Kind.bool] [(.agg #[(.string c.Kind),(.slice c.Data.a c.Data.n c.Data.c)]),(.pointer (some c0))] w (fun s w=>K s.1 w)=sh_png_Chunks_1 c c0 w K:=by kernel_rfl
theorem call_png_Chunks_1 (c:T_png_Chunk) (c0:Addr) {w:World} {K:Bool→World→Prop} (h:sh_png_Chunks_1 c c0 w K):c_png_Chunks_1 c c0 w K:=by
 rw [←vc_png_Chunks_1] at h
 refine Calls.mono (cvc C.plain_ok C.mixed Tryz.func75 rfl h) ?_
 rintro e w' ⟨s,rfl,hK⟩
 exact ⟨s.1,rfl,hK⟩
def sh_load_isSide (n:Int) (w:World) (K:Bool→World→Prop):Prop :=cond (decide (n≥(1:Int))) (K (decide (n≤(16384:Int))) w) (K false w)
def an_load_isSide:List Ann:=[.none,.none]
theorem vc_load_isSide (n:Int) (w:World) (K:Bool→World→Prop) :
  vcFn C (Tryz.f76.body.getD .skip) Tryz.f76.results.toList Tryz.f76.ntmps an_load_isSide [Kind.bool] [(.int .i64 n)] w (fun s w=>K s.1 w)=sh_load_isSide n w K:=by kernel_rfl
theorem call_load_isSide (n:Int) {w:World} {K:Bool→World→Prop} (h:sh_load_isSide n w K):c_load_isSide n w K:=by
 rw [←vc_load_isSide] at h
 refine Calls.mono (cvc C.plain_ok C.mixed Tryz.func76 rfl h) ?_
 rintro e w' ⟨s,rfl,hK⟩
 exact ⟨s.1,rfl,hK⟩
def sh_base64_NewDecoder  (w:World) (K:Option Addr→World→Prop):Prop :=nw ty_base64_Decoder [(.int .u32 0),(.int .i64 0),(.int .i64 0),(.bool false),(.bool false)] w fun t2 w1 =>K (some t2) w1
def an_base64_NewDecoder:List Ann:=[.none,.none]
theorem vc_base64_NewDecoder  (w:World) (K:Option Addr→World→Prop) :
  vcFn C (Tryz.f77.body.getD .skip) Tryz.f77.results.toList Tryz.f77.ntmps an_base64_NewDecoder [Kind.ptr] [] w (fun s w=>K s.1 w)=sh_base64_NewDecoder  w K:=by kernel_rfl
theorem call_base64_NewDecoder  {w:World} {K:Option Addr→World→Prop} (h:sh_base64_NewDecoder  w K):c_base64_NewDecoder  w K:=by
 rw [←vc_base64_NewDecoder] at h
 refine Calls.mono (cvc C.plain_ok C.mixed Tryz.func77 rfl h) ?_
 rintro e w' ⟨s,rfl,hK⟩
 exact ⟨s.1,rfl,hK⟩
def sh_base64_Decoder_Put (d:Option Addr) (c:Int) (w:World) (K:Slc→Int→World→Prop):Prop :=joinP (σ:=Unit) (fun s w1 =>onPtr d fun t23 =>stK t23 [(.int .u32 0),(.int .i64 0),(.int .i64 0),(.bool false),(.bool true)] w1 fun w2 =>K (⟨none,0,0⟩:Slc) 3 w2) fun J1 =>onPtr d fun t9 =>ldB (t9.add 4) w fun t11 =>cond (!t11) (c_base64_Decoder_put d c w fun t16 t16_1 w3 =>cond t16_1 (K t16 0 w3) (J1 (()) w3)) (J1 (()) w)
def an_base64_Decoder_Put:List Ann:=[.none,.join [] [4,5,6,7,8,9,10,11,12,13,14,15,16,17,18,19,20],.none,.none,.none,.none,.none,.none]
theorem vc_base64_Decoder_Put (d:Option Addr) (c:Int) (w:World) (K:Slc→Int→World→Prop) :
  vcFn C (Tryz.f78.body.getD .skip) Tryz.f78.results.toList Tryz.f78.ntmps an_base64_Decoder_Put [Kind.slice,(Kind.int .i64)] [(.pointer d),(.int .u8 c)] w (fun s w=>K s.1 s.2.1 w)=sh_base64_Decoder_Put d c w K:=by kernel_rfl
theorem call_base64_Decoder_Put (d:Option Addr) (c:Int) {w:World} {K:Slc→Int→World→Prop} (h:sh_base64_Decoder_Put d c w K):c_base64_Decoder_Put d c w K:=by
 rw [←vc_base64_Decoder_Put] at h
 refine Calls.mono (cvc C.plain_ok C.mixed Tryz.func78 rfl h) ?_
 rintro e w' ⟨s,rfl,hK⟩
 exact ⟨s.1,s.2.1,rfl,hK⟩
def sh_load_Loader_take (l:Option Addr) (b:Slc) (w:World) (K:Int→World→Prop):Prop :=loopP (σ:=Int×Unit) (fun I1 s w1 =>cond (decide (s.1<((b.n:Nat):Int))) (ixK b s.1 1 fun t13 =>ldI .u8 t13 w1 fun t14 =>joinP (σ:=Unit) (fun s_1 w2 =>onPtr l fun t45 =>ldSl (t45.add 25) w2.drew fun t47 =>onPtr l fun t49 =>ldSl (t49.add 25) w2.drew fun t51 =>ixK t47 (IntKind.i64.wrap (((t51.n:Nat):Int)-(1:Int))) 1 fun t54 =>ldSl t54 w2.drew fun t58 =>nw ty_uint8 [(.int .u8 t14)] w2.drew fun t60 w3 =>apK PG #[ty_sl_uint8,ty_sl_uint8] ty_sl_uint8 t58 (⟨(some t60),1,1⟩:Slc) w3 fun t61 w4 =>stK t54 [(.slice t61.a t61.n t61.c)] w4 fun w5 =>I1 ((IntKind.i64.wrap (s.1+(1:Int))),()) w5) fun J2 =>onPtr l fun t16 =>ldSl (t16.add 25) w1 fun t18 =>joinP (σ:=Bool×Unit) (fun s_2 w6 =>cond s_2.1 (onPtr l fun t36 =>ldSl (t36.add 25) w6.drew fun t38 =>mkSl PG ty_sl_uint8 (.int .i64 0) (.int .i64 32768) w6.drew fun t39 w7 =>World.cell? w7 (t36.add 25)=some (.slice t38.a t38.n t38.c) ∧nw ty_sl_uint8 [(.slice t39.a t39.n t39.c)] w7 fun t40 w8 =>World.cell? w8 (t36.add 25)=some (.slice t38.a t38.n t38.c) ∧apK PG #[ty_sl_sl_uint8,ty_sl_sl_uint8] ty_sl_sl_uint8 t38 (⟨(some t40),1,1⟩:Slc) w8 fun t41 w9 =>onPtr l fun t42 =>stK (t42.add 25) [(.slice t41.a t41.n t41.c)] w9 fun w10 =>J2 (()) w10) (J2 (()) w6)) fun J3 =>cond (((t18.n:Nat):Int)==(0:Int)) (J3 (true,()) w1) (onPtr l fun t24 =>ldSl (t24.add 25) w1 fun t26 =>ixK t26 (IntKind.i64.wrap (((t18.n:Nat):Int)-(1:Int))) 1 fun t29 =>ldSl t29 w1 fun t30 =>J3 ((((t30.n:Nat):Int)==(32768:Int)),()) w1)) (onPtr l fun t65 =>ldI .i64 (t65.add 26) w1 fun t67 =>onPtr l fun t71 =>stK (t71.add 26) [(.int .i64 (IntKind.i64.wrap (t67+((b.n:Nat):Int))))] w1 fun w11 =>onPtr l fun t75 =>ldI .i64 (t75.add 26) w11.drew fun t77 =>onPtr l fun t79 =>ldI .i64 (t79.add 23) w11.drew fun t81 =>cond (decide (t77>t81)) (K 6 w11.drew) (onPtr l fun t85 =>ldI .u8 ((t85.add 1).add 2) w11.drew.drew fun t88 =>cond (t88==(0:Int)) (onPtr l fun t92 =>ldI .i64 ((t92.add 1).add 5) w11.drew.drew fun t95 =>cond (t95 !=(100:Int)) (onPtr l fun t100 =>ldI .i64 (t100.add 26) w11.drew.drew fun t102 =>onPtr l fun t104 =>ldI .i64 (t104.add 24) w11.drew.drew fun t106 =>cond (decide (t102>t106)) (K 5 w11.drew.drew) (K 0 w11.drew.drew)) (K 0 w11.drew.drew)) (K 0 w11.drew.drew)))) (0,()) w
def an_load_Loader_take:List Ann:=[.none,.none,.none,.join [(11,(Kind.int .i64))] [6,7,8,11,12,13,14,15,16,17,18,19,20,21,22,23,24,25,26,27,28,29,30,31,32,33,34,35,36,37,38,39,40,41,42,43,44,45,46,47,48,49,50,51,52,53,54,55,56,57,58,59,60,61,62,63],.none,.none,.none,.none,.join [] [7,15,16,17,18,19,20,21,22,23,24,25,26,27,28,29,30,31,32,33,34,35,36,37,38,39,40,41,42,43],.none,.join [(33,Kind.bool)] [20,21,22,23,24,25,26,27,28,29,30,31,32,33],.none,.none,.none,.none,.none,.none,.none,.none]
theorem vc_load_Loader_take (l:Option Addr) (b:Slc) (w:World) (K:Int→World→Prop) :
  vcFn C (Tryz.f79.body.getD .skip) Tryz.f79.results.toList Tryz.f79.ntmps an_load_Loader_take [(Kind.int .i64)] [(.pointer l),(.slice b.a b.n b.c)] w (fun s w=>K s.1 w)=sh_load_Loader_take l b w K:=by kernel_rfl
theorem call_load_Loader_take (l:Option Addr) (b:Slc) {w:World} {K:Int→World→Prop} (h:sh_load_Loader_take l b w K):c_load_Loader_take l b w K:=by
 rw [←vc_load_Loader_take] at h
 refine Calls.mono (cvc C.plain_ok C.mixed Tryz.func79 rfl h) ?_
 rintro e w' ⟨s,rfl,hK⟩
 exact ⟨s.1,rfl,hK⟩
def sh_load_Loader_fail (l:Option Addr) (e:Int) (w:World) (K:World→Prop):Prop :=joinP (σ:=Bool×Unit) (fun s w1 =>cond s.1 (onPtr l fun t15 =>stK (t15.add 27) [(.int .i64 e)] w1 fun w2 =>c_load_Loader_drop l w2 fun w3 =>K w3) (K w1)) fun J1 =>onPtr l fun t5 =>ldI .i64 (t5.add 27) w fun t7 =>cond (t7==(0:Int)) (J1 ((e !=(0:Int)),()) w) (J1 (false,()) w)
def an_load_Loader_fail:List Ann:=[.join [(12,Kind.bool)] [4,5,6,7,8,9,10,11,12],.none]
theorem vc_load_Loader_fail (l:Option Addr) (e:Int) (w:World) (K:World→Prop) :
  vcFn C (Tryz.f80.body.getD .skip) Tryz.f80.results.toList Tryz.f80.ntmps an_load_Loader_fail [] [(.pointer l),(.int .i64 e)] w (fun s w=>K w)=sh_load_Loader_fail l e w K:=by kernel_rfl
theorem call_load_Loader_fail (l:Option Addr) (e:Int) {w:World} {K:World→Prop} (h:sh_load_Loader_fail l e w K):c_load_Loader_fail l e w K:=by
 rw [←vc_load_Loader_fail] at h
 refine Calls.mono (cvc C.plain_ok C.mixed Tryz.func80 rfl h) ?_
 rintro e w' ⟨s,rfl,hK⟩
 exact ⟨rfl,hK⟩
end Go.Proofs.YtmagnpcgpinmcaaGreat
