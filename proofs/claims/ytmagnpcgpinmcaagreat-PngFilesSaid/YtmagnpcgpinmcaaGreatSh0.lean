import Derived.Test.YtmagnpcgpinmcaaGreatDefs
set_option maxRecDepth 100000
set_option linter.unusedVariables false
namespace Go.Proofs.YtmagnpcgpinmcaaGreat
open Go.Vc
def sh_p9_PngFiles (b:Slc) (pixels:Int) (w:World) (K:Bool→World→Prop):Prop :=c_p9_known  w fun t5 w1 =>cond (!t5) (K false w1) (joinP (σ:=Unit) (fun s w2 =>c_p9_both b pixels w2 fun t16 w3 =>K t16 w3) fun J1 =>cond (decide (((b.n:Nat):Int)>(8192:Int))) (K true w1) (cond (decide (pixels>(2048:Int))) (K true w1) (J1 (()) w1)))
def an_p9_PngFiles:List Ann:=[.none,.none,.none,.none,.join [] [4,7,8,9,10,11,12,13],.none,.none,.none]
theorem vc_p9_PngFiles (b:Slc) (pixels:Int) (w:World) (K:Bool→World→Prop) :
  vcFn C (Tryz.f3.body.getD .skip) Tryz.f3.results.toList Tryz.f3.ntmps an_p9_PngFiles [Kind.bool] [(.slice b.a b.n b.c),(.int .i64 pixels)] w (fun s w=>K s.1 w)=sh_p9_PngFiles b pixels w K:=by kernel_rfl
theorem call_p9_PngFiles (b:Slc) (pixels:Int) {w:World} {K:Bool→World→Prop} (h:sh_p9_PngFiles b pixels w K):c_p9_PngFiles b pixels w K:=by
 rw [←vc_p9_PngFiles] at h
 refine Calls.mono (calls_of_vc C.plain_ok C.mixed Tryz.func3 rfl h) ?_
 rintro e w' ⟨s,rfl,hK⟩
 exact ⟨s.1,rfl,hK⟩
def sh_p9_known  (w:World) (K:Bool→World→Prop):Prop :=nw ty_uint8 [(.int .u8 1),(.int .u8 2),(.int .u8 3),(.int .u8 4),(.int .u8 5),(.int .u8 6),(.int .u8 7),(.int .u8 8)] w fun t6 w1 =>nw ty_api_Matrix [(.int .i64 0),(.int .i64 0),(.slice none 0 0)] w1 fun m w2 =>stK m [(.int .i64 1),(.int .i64 2),(.slice (some t6) 8 8)] w2 fun w3 =>ldS T_api_Matrix.rep m w3 fun t9 =>c_png_Encode t9 true 4 w3 fun t10 w4 =>c_png_Decode t10 2 w4 fun t11 t11_1 w5 =>nw ty_api_Matrix [(.int .i64 0),(.int .i64 0),(.slice none 0 0)] w5 fun x w6 =>stK x (T_api_Matrix.rep.cells t11) w6 fun w7 =>ldS T_api_Matrix.rep m w7 fun t15 =>c_png_Encode t15 false 0 w7 fun t16 w8 =>c_png_Info t16 w8 fun t17 t17_1 w9 =>nw ty_png_Head [(.int .i64 0),(.int .i64 0),(.int .i64 0),(.int .i64 0),(.int .i64 0)] w9 fun hx w10 =>stK hx (T_png_Head.rep.cells t17) w10 fun w11 =>cond ((IntKind.i64.wrap (t11_1+t17_1))==(0:Int)) (ldSl (x.add 2) w11 fun t26 =>runK1 PG (convert ty_sl_uint8 ty_string (.slice t26.a t26.n t26.c)) Kind.string w11 fun (t27:ByteArray) w12 =>ldSl (m.add 2) w12 fun t29 =>runK1 PG (convert ty_sl_uint8 ty_string (.slice t29.a t29.n t29.c)) Kind.string w12 fun (t30:ByteArray) w13 =>cond (t27.toList==t30.toList) (ldS T_png_Head.rep hx w13 fun t34 =>cond ((t34.W==(1:Int)) && ((t34.H==(2:Int)) && ((t34.Depth==(8:Int)) && ((t34.Color==(6:Int)) && ((t34.Lace==(0:Int)) && true))))) (c_png_Samples 6 w13 fun t39 w14 =>K (t39==(4:Int)) w14) (K false w13)) (K false w13)) (K false w11)
def an_p9_known:List Ann:=[.none,.none,.none,.none,.none]
theorem vc_p9_known  (w:World) (K:Bool→World→Prop) :
  vcFn C (Tryz.f13.body.getD .skip) Tryz.f13.results.toList Tryz.f13.ntmps an_p9_known [Kind.bool] [] w (fun s w=>K s.1 w)=sh_p9_known  w K:=by kernel_rfl
theorem call_p9_known  {w:World} {K:Bool→World→Prop} (h:sh_p9_known  w K):c_p9_known  w K:=by
 rw [←vc_p9_known] at h
 refine Calls.mono (calls_of_vc C.plain_ok C.mixed Tryz.func13 rfl h) ?_
 rintro e w' ⟨s,rfl,hK⟩
 exact ⟨s.1,rfl,hK⟩
def sh_p9_both (b:Slc) (pixels:Int) (w:World) (K:Bool→World→Prop):Prop :=c_png_Chunks b w fun t19 t19_1 w1 =>c_q9_Chunks b w1 fun t24 t24_1 w2 =>c_png_Info b w2 fun t29 t29_1 w3 =>nw ty_png_Head [(.int .i64 0),(.int .i64 0),(.int .i64 0),(.int .i64 0),(.int .i64 0)] w3 fun hx w4 =>stK hx (T_png_Head.rep.cells t29) w4 fun w5 =>c_q9_Info b w5 fun t34 t34_1 w6 =>nw ty_q9_Head [(.int .i64 0),(.int .i64 0),(.int .i64 0),(.int .i64 0),(.int .i64 0)] w6 fun i w7 =>stK i (T_png_Head.rep.cells t34) w7 fun w8 =>joinP (σ:=Unit) (fun s w9 =>c_png_Decode b pixels w9 fun t59 t59_1 w10 =>nw ty_api_Matrix [(.int .i64 0),(.int .i64 0),(.slice none 0 0)] w10 fun m w11 =>stK m (T_api_Matrix.rep.cells t59) w11 fun w12 =>c_q9_Decode b pixels w12 fun t65 t65_1 w13 =>nw ty_q7_Matrix [(.int .i64 0),(.int .i64 0),(.slice none 0 0)] w13 fun n w14 =>stK n (T_api_Matrix.rep.cells t65) w14 fun w15 =>ldS T_api_Matrix.rep m w15 fun t68 =>ldS T_api_Matrix.rep n w15 fun t69 =>c_p7_Alike t68 t69 w15 fun t70 w16 =>cond t70 (K (t59_1==t65_1) w16) (K false w16)) fun J1 =>c_p9_chunks t19 t24 w8 fun t39 w17 =>cond (!t39) (K false w17) (cond (t19_1 !=t24_1) (K false w17) (ldS T_png_Head.rep hx w17 fun t47 =>ldS T_png_Head.rep i w17 fun t48 =>cond (!((t47.W==t48.W) && ((t47.H==t48.H) && ((t47.Depth==t48.Depth) && ((t47.Color==t48.Color) && ((t47.Lace==t48.Lace) && true)))))) (K false w17) (cond (t29_1 !=t34_1) (K false w17) (J1 (()) w17))))
def an_p9_both:List Ann:=[.none,.none,.none,.none,.none,.join [] [4,37,38,39,40,41,42,43,44,45,46,47,48,49,50,51,52,53,54,55],.none,.none,.none,.none,.none]
theorem vc_p9_both (b:Slc) (pixels:Int) (w:World) (K:Bool→World→Prop) :
  vcFn C (Tryz.f14.body.getD .skip) Tryz.f14.results.toList Tryz.f14.ntmps an_p9_both [Kind.bool] [(.slice b.a b.n b.c),(.int .i64 pixels)] w (fun s w=>K s.1 w)=sh_p9_both b pixels w K:=by kernel_rfl
theorem call_p9_both (b:Slc) (pixels:Int) {w:World} {K:Bool→World→Prop} (h:sh_p9_both b pixels w K):c_p9_both b pixels w K:=by
 rw [←vc_p9_both] at h
 refine Calls.mono (calls_of_vc C.plain_ok C.mixed Tryz.func14 rfl h) ?_
 rintro e w' ⟨s,rfl,hK⟩
 exact ⟨s.1,rfl,hK⟩
def sh_png_Lay (l:Slc) (w:World) (K:Slc→World→Prop):Prop :=c_png_sign  w fun t7 w1 =>loopP (σ:=Slc×Int×Unit) (fun I1 s w2 =>cond (decide (s.2.1<((l.n:Nat):Int))) (ixK l s.2.1 2 fun t12 =>ldS T_png_Chunk.rep t12 w2 fun t13 =>nw ty_png_Chunk [(.string (⟨#[]⟩:ByteArray)),(.slice none 0 0)] w2 fun c w3 =>stK c (T_png_Chunk.rep.cells t13) w3 fun w4 =>ldSl (c.add 1) w4 fun t15 =>mkSl PG ty_sl_uint8 (.int .i64 4) (.int .i64 (IntKind.i64.wrap ((4:Int)+((t15.n:Nat):Int)))) w4 fun t18 w5 =>ldStr (c.add 0) w5 fun t21 =>runK1 PG (Builtin.copy_ #[ty_sl_uint8,ty_string] ty_int #[(.slice t18.a t18.n t18.c),(.string t21)]) (Kind.int .i64) w5 fun (t22:Int) w6 =>ldSl (c.add 1) w6 fun t25 =>apK PG #[ty_sl_uint8,ty_sl_uint8] ty_sl_uint8 t18 t25 w6 fun t26 w7 =>ldSl (c.add 1) w7 fun t29 =>c_png_big (IntKind.u32.wrap ((t29.n:Nat):Int)) w7 fun t32 w8 =>c_sums_NewCrc  w8 fun t34 w9 =>nw ty_sl_uint8 [(.slice t26.a t26.n t26.c)] w9 fun t36 w10 =>c_sums_Of_sums_Crc t34 (⟨(some t36),1,1⟩:Slc) w10 fun t37 w11 =>c_png_big t37 w11 fun t38 w12 =>nw ty_sl_uint8 [(.slice s.1.a s.1.n s.1.c),(.slice t32.a t32.n t32.c),(.slice t26.a t26.n t26.c),(.slice t38.a t38.n t38.c)] w12 fun t39 w13 =>c_slices_Concat_byte_byte (⟨(some t39),4,4⟩:Slc) w13 fun t40 w14 =>I1 (t40,(IntKind.i64.wrap (s.2.1+(1:Int))),()) w14) (K s.1 w2)) (t7,0,()) w1
def an_png_Lay:List Ann:=[.none,.none,.none,.none,.join [(3,Kind.slice),(10,(Kind.int .i64))] [3,5,6,10,11,12,13,14,15,16,17,18,19,20,21,22,23,24,25,26,27,28,29,30,31,32,33,34,35,36,37,38,39,40,41],.none,.none,.none,.none,.none,.none,.none,.none]
theorem vc_png_Lay (l:Slc) (w:World) (K:Slc→World→Prop) :
  vcFn C (Tryz.f16.body.getD .skip) Tryz.f16.results.toList Tryz.f16.ntmps an_png_Lay [Kind.slice] [(.slice l.a l.n l.c)] w (fun s w=>K s.1 w)=sh_png_Lay l w K:=by kernel_rfl
theorem call_png_Lay (l:Slc) {w:World} {K:Slc→World→Prop} (h:sh_png_Lay l w K):c_png_Lay l w K:=by
 rw [←vc_png_Lay] at h
 refine Calls.mono (calls_of_vc C.plain_ok C.mixed Tryz.func16 rfl h) ?_
 rintro e w' ⟨s,rfl,hK⟩
 exact ⟨s.1,rfl,hK⟩
def sh_png_Check (hx:T_png_Head) (w:World) (K:Int→World→Prop):Prop :=nw ty_png_Head (T_png_Head.rep.cells hx) w fun hx_1 w1 =>joinP (σ:=Unit) (fun s w2 =>nw ty_int [(.int .i64 8),(.int .i64 16)] w2 fun t22 w3 =>joinP (σ:=Slc×Unit) (fun s_1 w4 =>ldI .i64 (hx_1.add 3) w4 fun t32 =>c_png_Samples t32 w4 fun t33 w5 =>cond (t33==(0:Int)) (K 8 w5) (ldI .i64 (hx_1.add 2) w5 fun t38 =>c_slices_Contains_int_int s_1.1 t38 w5 fun t39 w6 =>cond (!t39) (K 8 w6) (ldI .i64 (hx_1.add 4) w6 fun t44 =>cond (decide (t44<(0:Int))) (K 8 w6) (ldI .i64 (hx_1.add 4) w6 fun t49 =>cond (decide (t49>(1:Int))) (K 8 w6) (K 0 w6))))) fun J2 =>ldI .i64 (hx_1.add 3) w3 fun t24 =>cond (t24==(0:Int)) (nw ty_int [(.int .i64 1),(.int .i64 2),(.int .i64 4),(.int .i64 8),(.int .i64 16)] w3 fun t27 w7 =>J2 (⟨(some t27),5,5⟩,()) w7) (cond (t24==(3:Int)) (nw ty_int [(.int .i64 1),(.int .i64 2),(.int .i64 4),(.int .i64 8)] w3 fun t30 w8 =>J2 (⟨(some t30),4,4⟩,()) w8) (J2 (⟨(some t22),2,2⟩,()) w3))) fun J1 =>ldI .i64 (hx_1.add 0) w1 fun t5 =>cond (decide (t5<(1:Int))) (K 1 w1) (ldI .i64 (hx_1.add 0) w1 fun t9 =>cond (decide (t9>(16384:Int))) (K 1 w1) (ldI .i64 (hx_1.add 1) w1 fun t14 =>cond (decide (t14<(1:Int))) (K 1 w1) (ldI .i64 (hx_1.add 1) w1 fun t19 =>cond (decide (t19>(16384:Int))) (K 1 w1) (J1 (()) w1))))
def an_png_Check:List Ann:=[.none,.join [] [2,4,5,6,7,8,9,10,11,12,13,14,15,16,17,18,19,20,21],.none,.none,.none,.join [(3,Kind.slice)] [3,23,24,25,26,27,28,29,30],.none,.none,.none,.none,.none,.none,.none]
theorem vc_png_Check (hx:T_png_Head) (w:World) (K:Int→World→Prop) :
  vcFn C (Tryz.f19.body.getD .skip) Tryz.f19.results.toList Tryz.f19.ntmps an_png_Check [(Kind.int .i64)] [(.agg #[(.int .i64 hx.W),(.int .i64 hx.H),(.int .i64 hx.Depth),(.int .i64 hx.Color),(.int .i64 hx.Lace)])] w (fun s w=>K s.1 w)=sh_png_Check hx w K:=by kernel_rfl
theorem call_png_Check (hx:T_png_Head) {w:World} {K:Int→World→Prop} (h:sh_png_Check hx w K):c_png_Check hx w K:=by
 rw [←vc_png_Check] at h
 refine Calls.mono (calls_of_vc C.plain_ok C.mixed Tryz.func19 rfl h) ?_
 rintro e w' ⟨s,rfl,hK⟩
 exact ⟨s.1,rfl,hK⟩
def sh_q9_Check (hx:T_png_Head) (w:World) (K:Int→World→Prop):Prop :=nw ty_q9_Head (T_png_Head.rep.cells hx) w fun hx_1 w1 =>joinP (σ:=Unit) (fun s w2 =>ldI .i64 (hx_1.add 2) w2 fun t24 =>joinP (σ:=Bool×Unit) (fun s_1 w3 =>ldI .i64 (hx_1.add 3) w3 fun t59 =>c_q9_Samples t59 w3 fun t60 w4 =>cond (t60==(0:Int)) (K 8 w4) (cond (!s_1.1) (K 8 w4) (ldI .i64 (hx_1.add 4) w4 fun t68 =>cond (decide (t68<(0:Int))) (K 8 w4) (ldI .i64 (hx_1.add 4) w4 fun t73 =>cond (decide (t73>(1:Int))) (K 8 w4) (K 0 w4))))) fun J2 =>cond (t24==(8:Int)) (J2 (true,()) w2) (cond (t24==(16:Int)) (ldI .i64 (hx_1.add 3) w2 fun t32 =>cond (t32 !=(3:Int)) (J2 (true,()) w2) (ldI .i64 (hx_1.add 3) w2 fun t38 =>cond (t38==(0:Int)) (cond (t24==(1:Int)) (J2 (true,()) w2) (cond (t24==(2:Int)) (J2 (true,()) w2) (J2 ((t24==(4:Int)),()) w2))) (ldI .i64 (hx_1.add 3) w2 fun t42 =>cond (t42==(3:Int)) (cond (t24==(1:Int)) (J2 (true,()) w2) (cond (t24==(2:Int)) (J2 (true,()) w2) (J2 ((t24==(4:Int)),()) w2))) (J2 (false,()) w2)))) (ldI .i64 (hx_1.add 3) w2 fun t38_1 =>cond (t38_1==(0:Int)) (cond (t24==(1:Int)) (J2 (true,()) w2) (cond (t24==(2:Int)) (J2 (true,()) w2) (J2 ((t24==(4:Int)),()) w2))) (ldI .i64 (hx_1.add 3) w2 fun t42_1 =>cond (t42_1==(3:Int)) (cond (t24==(1:Int)) (J2 (true,()) w2) (cond (t24==(2:Int)) (J2 (true,()) w2) (J2 ((t24==(4:Int)),()) w2))) (J2 (false,()) w2))))) fun J1 =>ldI .i64 (hx_1.add 0) w1 fun t6 =>cond (decide (t6<(1:Int))) (K 1 w1) (ldI .i64 (hx_1.add 0) w1 fun t10 =>cond (decide (t10>(16384:Int))) (K 1 w1) (ldI .i64 (hx_1.add 1) w1 fun t15 =>cond (decide (t15<(1:Int))) (K 1 w1) (ldI .i64 (hx_1.add 1) w1 fun t20 =>cond (decide (t20>(16384:Int))) (K 1 w1) (J1 (()) w1))))
def an_q9_Check:List Ann:=[.none,.join [] [2,5,6,7,8,9,10,11,12,13,14,15,16,17,18,19,20,21,22],.none,.none,.none,.join [(4,Kind.bool)] [4,25,26,27,28,29,30,31,32,33,34,35,36,37,38,39,40,41,42,43,44,45,46,47,48,49,50,51,52,53,54,55,56,57],.none,.none,.none,.none]
theorem vc_q9_Check (hx:T_png_Head) (w:World) (K:Int→World→Prop) :
  vcFn C (Tryz.f20.body.getD .skip) Tryz.f20.results.toList Tryz.f20.ntmps an_q9_Check [(Kind.int .i64)] [(.agg #[(.int .i64 hx.W),(.int .i64 hx.H),(.int .i64 hx.Depth),(.int .i64 hx.Color),(.int .i64 hx.Lace)])] w (fun s w=>K s.1 w)=sh_q9_Check hx w K:=by kernel_rfl
theorem call_q9_Check (hx:T_png_Head) {w:World} {K:Int→World→Prop} (h:sh_q9_Check hx w K):c_q9_Check hx w K:=by
 rw [←vc_q9_Check] at h
 refine Calls.mono (calls_of_vc C.plain_ok C.mixed Tryz.func20 rfl h) ?_
 rintro e w' ⟨s,rfl,hK⟩
 exact ⟨s.1,rfl,hK⟩
def sh_png_Samples (color:Int) (w:World) (K:Int→World→Prop):Prop :=joinP (σ:=Bool×Unit) (fun s w1 =>cond s.1 (K 1 w1) (cond (color==(2:Int)) (K 3 w1) (cond (color==(4:Int)) (K 2 w1) (cond (color==(6:Int)) (K 4 w1) (K 0 w1))))) fun J1 =>cond (color==(0:Int)) (J1 ((color==(0:Int)),()) w) (J1 ((color==(3:Int)),()) w)
def an_png_Samples:List Ann:=[.none,.none,.none,.join [(4,Kind.bool)] [4,5,6],.none,.none,.none,.none,.none,.none,.none,.none,.none]
theorem vc_png_Samples (color:Int) (w:World) (K:Int→World→Prop) :
  vcFn C (Tryz.f21.body.getD .skip) Tryz.f21.results.toList Tryz.f21.ntmps an_png_Samples [(Kind.int .i64)] [(.int .i64 color)] w (fun s w=>K s.1 w)=sh_png_Samples color w K:=by kernel_rfl
theorem call_png_Samples (color:Int) {w:World} {K:Int→World→Prop} (h:sh_png_Samples color w K):c_png_Samples color w K:=by
 rw [←vc_png_Samples] at h
 refine Calls.mono (calls_of_vc C.plain_ok C.mixed Tryz.func21 rfl h) ?_
 rintro e w' ⟨s,rfl,hK⟩
 exact ⟨s.1,rfl,hK⟩
def sh_q9_Samples (color:Int) (w:World) (K:Int→World→Prop):Prop :=joinP (σ:=Bool×Unit) (fun s w1 =>cond s.1 (K 1 w1) (cond (color==(2:Int)) (K 3 w1) (cond (color==(4:Int)) (K 2 w1) (cond (color==(6:Int)) (K 4 w1) (K 0 w1))))) fun J1 =>cond (color==(0:Int)) (J1 ((color==(0:Int)),()) w) (J1 ((color==(3:Int)),()) w)
def an_q9_Samples:List Ann:=[.none,.none,.none,.join [(4,Kind.bool)] [4,5,6],.none,.none,.none,.none,.none,.none,.none,.none,.none]
theorem vc_q9_Samples (color:Int) (w:World) (K:Int→World→Prop) :
  vcFn C (Tryz.f22.body.getD .skip) Tryz.f22.results.toList Tryz.f22.ntmps an_q9_Samples [(Kind.int .i64)] [(.int .i64 color)] w (fun s w=>K s.1 w)=sh_q9_Samples color w K:=by kernel_rfl
theorem call_q9_Samples (color:Int) {w:World} {K:Int→World→Prop} (h:sh_q9_Samples color w K):c_q9_Samples color w K:=by
 rw [←vc_q9_Samples] at h
 refine Calls.mono (calls_of_vc C.plain_ok C.mixed Tryz.func22 rfl h) ?_
 rintro e w' ⟨s,rfl,hK⟩
 exact ⟨s.1,rfl,hK⟩
def sh_png_Encode (m:T_api_Matrix) (lace:Bool) (kind:Int) (w:World) (K:Slc→World→Prop):Prop :=nw ty_api_Matrix (T_api_Matrix.rep.cells m) w fun m_1 w1 =>nw ty_int [(.int .i64 kind)] w1 fun kind_1 w2 =>ldI .i64 (m_1.add 0) w2 fun t12 =>ldI .i64 (m_1.add 1) w2 fun t14 =>nw ty_png_Head [(.int .i64 0),(.int .i64 0),(.int .i64 0),(.int .i64 0),(.int .i64 0)] w2 fun hx w3 =>stK hx [(.int .i64 t12),(.int .i64 t14),(.int .i64 8),(.int .i64 6),(.int .i64 0)] w3 fun w4 =>joinP (σ:=Unit) (fun s w5 =>joinP (σ:=Unit) (fun s_1 w6 =>nw ty_sl_uint8 [(.slice none 0 0)] w6 fun all w7 =>nw ty_sl_uint8 [(.slice none 0 0)] w7 fun ahead w8 =>ldS T_png_Head.rep hx w8 fun t24 =>c_png_Head_rows t24 ((.func (.func fn_png_Encode_1) #[] #[(.pointer (some ahead)),(.pointer (some m_1)),(.pointer (some kind_1)),(.pointer (some all))]):Value) w8 fun t26 w9 =>ldI .i64 (m_1.add 0) w9.drew fun t28 =>ldI .i64 (m_1.add 1) w9.drew fun t32 =>ldI .i64 (hx.add 4) w9.drew fun t36 =>(c_png_big (IntKind.u32.wrap t28) w9.drew fun t30 w10 =>World.cell? w10 (hx.add 4)=some (.int .i64 t36) ∧World.cell? w10 (m_1.add 1)=some (.int .i64 t32) ∧(c_png_big (IntKind.u32.wrap t32) w10 fun t34 w11 =>World.cell? w11 (hx.add 4)=some (.int .i64 t36) ∧nw ty_uint8 [(.int .u8 8),(.int .u8 6),(.int .u8 0),(.int .u8 0),(.int .u8 (IntKind.u8.wrap t36))] w11 fun t38 w12 =>World.cell? w12 (m_1.add 1)=some (.int .i64 t32) ∧World.cell? w12 (m_1.add 0)=some (.int .i64 t28) ∧nw ty_sl_uint8 [(.slice t30.a t30.n t30.c),(.slice t34.a t34.n t34.c),(.slice (some t38) 5 5)] w12 fun t39 w13 =>c_slices_Concat_byte_byte (⟨(some t39),3,3⟩:Slc) w13 fun t40 w14 =>ldSl all w14 fun t43 =>c_zlib_Pack t43 false w14 fun t44 w15 =>nw ty_png_Chunk [(.string (⟨#[73,72,68,82]⟩:ByteArray)),(.slice t40.a t40.n t40.c),(.string (⟨#[73,68,65,84]⟩:ByteArray)),(.slice t44.a t44.n t44.c),(.string (⟨#[73,69,78,68]⟩:ByteArray)),(.slice none 0 0)] w15 fun t47 w16 =>c_png_Lay (⟨(some t47),3,3⟩:Slc) w16 fun t48 w17 =>K t48 w17) ∧nw ty_uint8 [(.int .u8 8),(.int .u8 6),(.int .u8 0),(.int .u8 0),(.int .u8 (IntKind.u8.wrap t36))] w10 fun t38_1 w18 =>World.cell? w18 (m_1.add 1)=some (.int .i64 t32) ∧World.cell? w18 (m_1.add 0)=some (.int .i64 t28) ∧c_png_big (IntKind.u32.wrap t32) w18 fun t34_1 w19 =>World.cell? w19 (hx.add 4)=some (.int .i64 t36) ∧nw ty_sl_uint8 [(.slice t30.a t30.n t30.c),(.slice t34_1.a t34_1.n t34_1.c),(.slice (some t38_1) 5 5)] w19 fun t39_1 w20 =>c_slices_Concat_byte_byte (⟨(some t39_1),3,3⟩:Slc) w20 fun t40_1 w21 =>ldSl all w21 fun t43_1 =>c_zlib_Pack t43_1 false w21 fun t44_1 w22 =>nw ty_png_Chunk [(.string (⟨#[73,72,68,82]⟩:ByteArray)),(.slice t40_1.a t40_1.n t40_1.c),(.string (⟨#[73,68,65,84]⟩:ByteArray)),(.slice t44_1.a t44_1.n t44_1.c),(.string (⟨#[73,69,78,68]⟩:ByteArray)),(.slice none 0 0)] w22 fun t47_1 w23 =>c_png_Lay (⟨(some t47_1),3,3⟩:Slc) w23 fun t48_1 w24 =>K t48_1 w24) ∧nw ty_uint8 [(.int .u8 8),(.int .u8 6),(.int .u8 0),(.int .u8 0),(.int .u8 (IntKind.u8.wrap t36))] w9.drew fun t38_2 w25 =>World.cell? w25 (m_1.add 1)=some (.int .i64 t32) ∧World.cell? w25 (m_1.add 0)=some (.int .i64 t28) ∧c_png_big (IntKind.u32.wrap t28) w25 fun t30_1 w26 =>World.cell? w26 (hx.add 4)=some (.int .i64 t36) ∧World.cell? w26 (m_1.add 1)=some (.int .i64 t32) ∧c_png_big (IntKind.u32.wrap t32) w26 fun t34_2 w27 =>World.cell? w27 (hx.add 4)=some (.int .i64 t36) ∧nw ty_sl_uint8 [(.slice t30_1.a t30_1.n t30_1.c),(.slice t34_2.a t34_2.n t34_2.c),(.slice (some t38_2) 5 5)] w27 fun t39_2 w28 =>c_slices_Concat_byte_byte (⟨(some t39_2),3,3⟩:Slc) w28 fun t40_2 w29 =>ldSl all w29 fun t43_2 =>c_zlib_Pack t43_2 false w29 fun t44_2 w30 =>nw ty_png_Chunk [(.string (⟨#[73,72,68,82]⟩:ByteArray)),(.slice t40_2.a t40_2.n t40_2.c),(.string (⟨#[73,68,65,84]⟩:ByteArray)),(.slice t44_2.a t44_2.n t44_2.c),(.string (⟨#[73,69,78,68]⟩:ByteArray)),(.slice none 0 0)] w30 fun t47_2 w31 =>c_png_Lay (⟨(some t47_2),3,3⟩:Slc) w31 fun t48_2 w32 =>K t48_2 w32) fun J2 =>ldI .i64 kind_1 w5 fun t18 =>cond (decide (t18<(0:Int))) (stK kind_1 [(.int .i64 0)] w5 fun w33 =>J2 (()) w33) (ldI .i64 kind_1 w5 fun t21 =>cond (decide (t21>(4:Int))) (stK kind_1 [(.int .i64 0)] w5 fun w34 =>J2 (()) w34) (J2 (()) w5))) fun J1 =>cond lace (stK (hx.add 4) [(.int .i64 1)] w4 fun w35 =>J1 (()) w35) (J1 (()) w4)
def an_png_Encode:List Ann:=[.none,.none,.join [] [16,17],.none,.join [] [18,19,20,21,22,23],.none,.none,.none,.none,.none]
theorem vc_png_Encode (m:T_api_Matrix) (lace:Bool) (kind:Int) (w:World) (K:Slc→World→Prop) :
  vcFn C (Tryz.f24.body.getD .skip) Tryz.f24.results.toList Tryz.f24.ntmps an_png_Encode [Kind.slice] [(.agg #[(.int .i64 m.W),(.int .i64 m.H),(.slice m.P.a m.P.n m.P.c)]),(.bool lace),(.int .i64 kind)] w (fun s w=>K s.1 w)=sh_png_Encode m lace kind w K:=by kernel_rfl
theorem call_png_Encode (m:T_api_Matrix) (lace:Bool) (kind:Int) {w:World} {K:Slc→World→Prop} (h:sh_png_Encode m lace kind w K):c_png_Encode m lace kind w K:=by
 rw [←vc_png_Encode] at h
 refine Calls.mono (calls_of_vc C.plain_ok C.mixed Tryz.func24 rfl h) ?_
 rintro e w' ⟨s,rfl,hK⟩
 exact ⟨s.1,rfl,hK⟩
def sh_png_Decode (b:Slc) (pixels:Int) (w:World) (K:T_api_Matrix→Int→World→Prop):Prop :=nw ty_api_Matrix [(.int .i64 0),(.int .i64 0),(.slice none 0 0)] w fun t4 w1 =>c_png_read b pixels w1 fun t14 t14_1 w2 =>cond (t14_1 !=(0:Int)) (stK t4 [(.int .i64 0),(.int .i64 0),(.slice none 0 0)] w2 fun w3 =>ldS T_api_Matrix.rep t4 w3 fun r =>K r t14_1 w3) (onPtr t14 fun t22 =>ldS T_png_Head.rep (t22.add 0) w2 fun t24 =>c_png_Head_need t24 w2 fun t25 w4 =>onPtr t14 fun t28 =>ldSl (t28.add 9) w4 fun t30 =>c_zlib_Unpack t30 t25 w4 fun t32 t32_1 t32_2 w5 =>joinP (σ:=Unit) (fun s w6 =>c_png_file_pixels t14 t32 w6 fun t58 t58_1 w7 =>stK t4 (T_api_Matrix.rep.cells t58) w7 fun w8 =>ldS T_api_Matrix.rep t4 w8 fun r_1 =>K r_1 t58_1 w8) fun J1 =>cond (t32_2 !=(0:Int)) (stK t4 [(.int .i64 0),(.int .i64 0),(.slice none 0 0)] w5 fun w9 =>ldS T_api_Matrix.rep t4 w9 fun r_2 =>K r_2 t32_2 w9) (joinP (σ:=Bool×Unit) (fun s_1 w10 =>cond s_1.1 (stK t4 [(.int .i64 0),(.int .i64 0),(.slice none 0 0)] w10 fun w11 =>ldS T_api_Matrix.rep t4 w11 fun r_3 =>K r_3 3 w11) (J1 (()) w10)) fun J2 =>cond (decide (((t32.n:Nat):Int)<t25)) (J2 (true,()) w5) (onPtr t14 fun t49 =>ldSl (t49.add 9) w5 fun t51 =>J2 ((decide (t32_1<((t51.n:Nat):Int))),()) w5)))
def an_png_Decode:List Ann:=[.none,.none,.none,.none,.none,.none,.none,.join [] [5,36,37,38,39,40,41,42,43,44,45,46,47,48,49,50,51,52,53,54,55],.none,.none,.join [(41,Kind.bool)] [41,42,43,44,45,46,47,48,49,50,51,52,53,54],.none,.none]
theorem vc_png_Decode (b:Slc) (pixels:Int) (w:World) (K:T_api_Matrix→Int→World→Prop) :
  vcFn C (Tryz.f25.body.getD .skip) Tryz.f25.results.toList Tryz.f25.ntmps an_png_Decode [(Kind.struct T_api_Matrix.rep),(Kind.int .i64)] [(.slice b.a b.n b.c),(.int .i64 pixels)] w (fun s w=>K s.1 s.2.1 w)=sh_png_Decode b pixels w K:=by kernel_rfl
theorem call_png_Decode (b:Slc) (pixels:Int) {w:World} {K:T_api_Matrix→Int→World→Prop} (h:sh_png_Decode b pixels w K):c_png_Decode b pixels w K:=by
 rw [←vc_png_Decode] at h
 refine Calls.mono (calls_of_vc C.plain_ok C.mixed Tryz.func25 rfl h) ?_
 rintro e w' ⟨s,rfl,hK⟩
 exact ⟨s.1,s.2.1,rfl,hK⟩
def sh_p7_Of (m:T_api_Matrix) (w:World) (K:T_api_Matrix→World→Prop):Prop :=nw ty_api_Matrix (T_api_Matrix.rep.cells m) w fun m_1 w1 =>nw ty_q7_Matrix [(.int .i64 0),(.int .i64 0),(.slice none 0 0)] w1 fun t2 w2 =>ldI .i64 (m_1.add 0) w2 fun t4 =>ldI .i64 (m_1.add 1) w2 fun t6 =>ldSl (m_1.add 2) w2 fun t8 =>stK t2 [(.int .i64 t4),(.int .i64 t6),(.slice t8.a t8.n t8.c)] w2 fun w3 =>ldS T_api_Matrix.rep t2 w3 fun r =>K r w3
def an_p7_Of:List Ann:=[.none,.none]
theorem vc_p7_Of (m:T_api_Matrix) (w:World) (K:T_api_Matrix→World→Prop) :
  vcFn C (Tryz.f27.body.getD .skip) Tryz.f27.results.toList Tryz.f27.ntmps an_p7_Of [(Kind.struct T_api_Matrix.rep)] [(.agg #[(.int .i64 m.W),(.int .i64 m.H),(.slice m.P.a m.P.n m.P.c)])] w (fun s w=>K s.1 w)=sh_p7_Of m w K:=by kernel_rfl
theorem call_p7_Of (m:T_api_Matrix) {w:World} {K:T_api_Matrix→World→Prop} (h:sh_p7_Of m w K):c_p7_Of m w K:=by
 rw [←vc_p7_Of] at h
 refine Calls.mono (calls_of_vc C.plain_ok C.mixed Tryz.func27 rfl h) ?_
 rintro e w' ⟨s,rfl,hK⟩
 exact ⟨s.1,rfl,hK⟩
def sh_png_Info (b:Slc) (w:World) (K:T_png_Head→Int→World→Prop):Prop :=nw ty_png_Head [(.int .i64 0),(.int .i64 0),(.int .i64 0),(.int .i64 0),(.int .i64 0)] w fun t2 w1 =>nw ty_png_Chunk [(.string (⟨#[]⟩:ByteArray)),(.slice none 0 0)] w1 fun first w2 =>c_png_each b ((.func (.func fn_png_Info_1) #[] #[(.pointer (some first))]):Value) w2 fun t8 w3 =>cond (t8 !=(0:Int)) (stK t2 [(.int .i64 0),(.int .i64 0),(.int .i64 0),(.int .i64 0),(.int .i64 0)] w3 fun w4 =>ldS T_png_Head.rep t2 w4 fun r =>K r t8 w4) (ldS T_png_Chunk.rep first w3 fun t13 =>c_png_head t13 w3 fun t14 t14_1 w5 =>stK t2 (T_png_Head.rep.cells t14) w5 fun w6 =>ldS T_png_Head.rep t2 w6 fun r_1 =>K r_1 t14_1 w6)
def an_png_Info:List Ann:=[.none,.none,.none,.none,.none,.none,.none]
theorem vc_png_Info (b:Slc) (w:World) (K:T_png_Head→Int→World→Prop) :
  vcFn C (Tryz.f28.body.getD .skip) Tryz.f28.results.toList Tryz.f28.ntmps an_png_Info [(Kind.struct T_png_Head.rep),(Kind.int .i64)] [(.slice b.a b.n b.c)] w (fun s w=>K s.1 s.2.1 w)=sh_png_Info b w K:=by kernel_rfl
theorem call_png_Info (b:Slc) {w:World} {K:T_png_Head→Int→World→Prop} (h:sh_png_Info b w K):c_png_Info b w K:=by
 rw [←vc_png_Info] at h
 refine Calls.mono (calls_of_vc C.plain_ok C.mixed Tryz.func28 rfl h) ?_
 rintro e w' ⟨s,rfl,hK⟩
 exact ⟨s.1,s.2.1,rfl,hK⟩
def sh_png_Chunks (b:Slc) (w:World) (K:Slc→Int→World→Prop):Prop :=nw ty_sl_png_Chunk [(.slice none 0 0)] w fun out w1 =>c_png_each b ((.func (.func fn_png_Chunks_1) #[] #[(.pointer (some out))]):Value) w1 fun t8 w2 =>cond (t8 !=(0:Int)) (K (⟨none,0,0⟩:Slc) t8 w2) (ldSl out w2 fun t12 =>K t12 0 w2)
def an_png_Chunks:List Ann:=[.none,.none,.none,.none,.none,.none,.none]
theorem vc_png_Chunks (b:Slc) (w:World) (K:Slc→Int→World→Prop) :
  vcFn C (Tryz.f29.body.getD .skip) Tryz.f29.results.toList Tryz.f29.ntmps an_png_Chunks [Kind.slice,(Kind.int .i64)] [(.slice b.a b.n b.c)] w (fun s w=>K s.1 s.2.1 w)=sh_png_Chunks b w K:=by kernel_rfl
theorem call_png_Chunks (b:Slc) {w:World} {K:Slc→Int→World→Prop} (h:sh_png_Chunks b w K):c_png_Chunks b w K:=by
 rw [←vc_png_Chunks] at h
 refine Calls.mono (calls_of_vc C.plain_ok C.mixed Tryz.func29 rfl h) ?_
 rintro e w' ⟨s,rfl,hK⟩
 exact ⟨s.1,s.2.1,rfl,hK⟩
def sh_p7_Alike (a:T_api_Matrix) (b:T_api_Matrix) (w:World) (K:Bool→World→Prop):Prop :=nw ty_api_Matrix (T_api_Matrix.rep.cells a) w fun a_1 w1 =>nw ty_q7_Matrix (T_api_Matrix.rep.cells b) w1 fun b_1 w2 =>ldS T_api_Matrix.rep a_1 w2.drew fun t5 =>ldS T_api_Matrix.rep b_1 w2.drew fun t7 =>c_p7_Of t5 w2.drew fun t6 w3 =>cellsAt w3 b_1 (T_api_Matrix.rep.cells t7) ∧c_q7_Same t6 t7 w3 fun t8 w4 =>K t8 w4
def an_p7_Alike:List Ann:=[.none,.none]
theorem vc_p7_Alike (a:T_api_Matrix) (b:T_api_Matrix) (w:World) (K:Bool→World→Prop) :
  vcFn C (Tryz.f42.body.getD .skip) Tryz.f42.results.toList Tryz.f42.ntmps an_p7_Alike [Kind.bool] [(.agg #[(.int .i64 a.W),(.int .i64 a.H),(.slice a.P.a a.P.n a.P.c)]),(.agg #[(.int .i64 b.W),(.int .i64 b.H),(.slice b.P.a b.P.n b.P.c)])] w (fun s w=>K s.1 w)=sh_p7_Alike a b w K:=by kernel_rfl
theorem call_p7_Alike (a:T_api_Matrix) (b:T_api_Matrix) {w:World} {K:Bool→World→Prop} (h:sh_p7_Alike a b w K):c_p7_Alike a b w K:=by
 rw [←vc_p7_Alike] at h
 refine Calls.mono (calls_of_vc C.plain_ok C.mixed Tryz.func42 rfl h) ?_
 rintro e w' ⟨s,rfl,hK⟩
 exact ⟨s.1,rfl,hK⟩
end Go.Proofs.YtmagnpcgpinmcaaGreat
