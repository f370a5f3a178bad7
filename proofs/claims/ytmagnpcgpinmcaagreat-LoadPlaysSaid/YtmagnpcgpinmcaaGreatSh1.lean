import Derived.Test.YtmagnpcgpinmcaaGreatDefs
set_option maxRecDepth 100000
set_option linter.unusedVariables false
namespace Go.Proofs.YtmagnpcgpinmcaaGreat
open Go.Vc
def qnr  (w:World) (K:T_keys_Keys→World→Prop):Prop :=nw qb5 [(.int .u8 0),(.int .u8 0),(.int .u8 0),(.int .u8 0),(.int .i64 0),(.int .i64 0),(.int .i64 0),(.int .i64 0),(.int .i64 0),(.int .i64 0),(.int .i64 0),(.int .i64 0),(.int .i64 0),(.int .i64 0),(.int .i64 0),(.int .i64 0),(.int .i64 0),(.int .i64 0),(.int .i64 0),(.int .i64 0),(.int .i64 0),(.int .i64 0)] w fun t0 w1 =>stK t0 [(.int .u8 116),(.int .u8 100),(.int .u8 0),(.int .u8 97),(.int .i64 0),(.int .i64 32),(.int .i64 0),(.int .i64 0),(.int .i64 0),(.int .i64 0),(.int .i64 0),(.int .i64 0),(.int .i64 0),(.int .i64 0),(.int .i64 0),(.int .i64 0),(.int .i64 0),(.int .i64 0),(.int .i64 0),(.int .i64 0),(.int .i64 0),(.int .i64 0)] w1 fun w2 =>ldS T_keys_Keys.rep t0 w2 fun r =>K r w2
def q95:List Ann:=[.none,.none]
theorem zal  (w:World) (K:T_keys_Keys→World→Prop) :
  vcFn C (Tryz.f43.body.getD .skip) Tryz.f43.results.toList Tryz.f43.ntmps q95 [(Kind.struct T_keys_Keys.rep)] [] w (fun s w=>K s.1 w)=qnr  w K:=by kernel_rfl
theorem q6g  {w:World} {K:T_keys_Keys→World→Prop} (h:qnr  w K):qqs  w K:=by
 rw [←zal] at h
 refine Calls.mono (cvc C.plain_ok C.mixed Tryz.func43 rfl h) ?_
 rintro e w' ⟨s,rfl,hK⟩
 exact ⟨s.1,rfl,hK⟩
def qpu (b:Slc) (w:World) (K:Slc→Int→World→Prop):Prop :=qsu b false w fun t5 t5_1 w1 =>K t5 t5_1 w1
def zbb:List Ann:=[.none,.none]
theorem zbj (b:Slc) (w:World) (K:Slc→Int→World→Prop) :
  vcFn C (Tryz.f46.body.getD .skip) Tryz.f46.results.toList Tryz.f46.ntmps zbb [Kind.slice,(Kind.int .i64)] [(.slice b.a b.n b.c)] w (fun s w=>K s.1 s.2.1 w)=qpu b w K:=by kernel_rfl
theorem q6t (b:Slc) {w:World} {K:Slc→Int→World→Prop} (h:qpu b w K):q2q b w K:=by
 rw [←zbj] at h
 refine Calls.mono (cvc C.plain_ok C.mixed Tryz.func46 rfl h) ?_
 rintro e w' ⟨s,rfl,hK⟩
 exact ⟨s.1,s.2.1,rfl,hK⟩
def qqv (b:Slc) (pixels:Int) (w:World) (K:T_api_Matrix→Int→World→Prop):Prop :=nw qao [(.int .i64 0),(.int .i64 0),(.slice none 0 0)] w fun t4 w1 =>q2q b w1 fun t16 t16_1 w2 =>cond (t16_1 !=(0:Int)) (stK t4 [(.int .i64 0),(.int .i64 0),(.slice none 0 0)] w2 fun w3 =>ldS T_api_Matrix.rep t4 w3 fun r =>K r t16_1 w3) (ixK t16 0 2 fun t25 =>ldS T_png_Chunk.rep t25 w2 fun t26 =>qzw t26 w2 fun t27 t27_1 w4 =>nw qd0 [(.int .i64 0),(.int .i64 0),(.int .i64 0),(.int .i64 0),(.int .i64 0)] w4 fun hx w5 =>stK hx (T_png_Head.rep.cells t27) w5 fun w6 =>cond (t27_1 !=(0:Int)) (stK t4 [(.int .i64 0),(.int .i64 0),(.slice none 0 0)] w6 fun w7 =>ldS T_api_Matrix.rep t4 w7 fun r_1 =>K r_1 t27_1 w7) (joinP (σ:=Unit) (fun s w8 =>ldS T_png_Head.rep hx w8 fun t50 =>nw qlr [(.int .i64 t50.W),(.int .i64 t50.H),(.int .i64 t50.Depth),(.int .i64 t50.Color),(.int .i64 t50.Lace),(.slice none 0 0),(.bool false),(.slice none 0 0),(.bool false),(.slice none 0 0),(.bool false),(.bool false)] w8 fun t52 w9 =>loopP (σ:=Int×Unit) (fun I2 s_1 w10 =>cond (decide (s_1.1<((t16.n:Nat):Int))) (ixK t16 s_1.1 2 fun t62 =>ldS T_png_Chunk.rep t62 w10 fun t63 =>qmq (some t52) t63 w10 fun t64 w11 =>cond (t64 !=(0:Int)) (stK t4 [(.int .i64 0),(.int .i64 0),(.slice none 0 0)] w11 fun w12 =>ldS T_api_Matrix.rep t4 w12 fun r_2 =>K r_2 t64 w12) (I2 ((IntKind.i64.wrap (s_1.1+(1:Int))),()) w11)) (joinP (σ:=Unit) (fun s_2 w13 =>qmm (some t52) w13 fun t88 w14 =>ldSl (t52.add 9) w14 fun t93 =>qnf t93 t88 w14 fun t95 t95_1 t95_2 w15 =>cond (t95_2 !=(0:Int)) (stK t4 [(.int .i64 0),(.int .i64 0),(.slice none 0 0)] w15 fun w16 =>ldS T_api_Matrix.rep t4 w16 fun r_3 =>K r_3 t95_2 w16) (joinP (σ:=Unit) (fun s_3 w17 =>qlb (some t52) t95 w17 fun t119 t119_1 w18 =>stK t4 (T_api_Matrix.rep.cells t119) w18 fun w19 =>ldS T_api_Matrix.rep t4 w19 fun r_4 =>K r_4 t119_1 w19) fun J4 =>joinP (σ:=Bool×Unit) (fun s_4 w20 =>cond s_4.1 (stK t4 [(.int .i64 0),(.int .i64 0),(.slice none 0 0)] w20 fun w21 =>ldS T_api_Matrix.rep t4 w21 fun r_5 =>K r_5 3 w21) (J4 (()) w20)) fun J5 =>cond (decide (((t95.n:Nat):Int)<t88)) (J5 (true,()) w15) (ldSl (t52.add 9) w15 fun t112 =>J5 ((decide (t95_1<((t112.n:Nat):Int))),()) w15))) fun J3 =>joinP (σ:=Bool×Unit) (fun s_5 w22 =>cond s_5.1 (stK t4 [(.int .i64 0),(.int .i64 0),(.slice none 0 0)] w22 fun w23 =>ldS T_api_Matrix.rep t4 w23 fun r_6 =>K r_6 3 w23) (J3 (()) w22)) fun J6 =>ldB (t52.add 10) w10 fun t72 =>cond (!t72) (J6 (true,()) w10) (ldI .i64 (hx.add 3) w10 fun t76 =>cond (t76==(3:Int)) (ldB (t52.add 6) w10 fun t82 =>J6 ((!t82),()) w10) (J6 (false,()) w10)))) (1,()) w9) fun J1 =>joinP (σ:=Bool×Unit) (fun s_6 w24 =>cond s_6.1 (stK t4 [(.int .i64 0),(.int .i64 0),(.slice none 0 0)] w24 fun w25 =>ldS T_api_Matrix.rep t4 w25 fun r_7 =>K r_7 5 w25) (J1 (()) w24)) fun J7 =>ldI .i64 (hx.add 0) w6 fun t35 =>ldI .i64 (hx.add 1) w6 fun t37 =>cond (decide ((IntKind.i64.wrap (t35*t37))>pixels)) (J7 (true,()) w6) (ldI .i64 (hx.add 0) w6 fun t43 =>ldI .i64 (hx.add 1) w6 fun t45 =>J7 ((decide ((IntKind.i64.wrap (t43*t45))>(67108864:Int))),()) w6)))
def za2:List Ann:=[.none,.none,.none,.none,.none,.none,.none,.none,.none,.join [] [5,34,35,36,37,38,39,40,41,42,43,44,45,46,47,48,49],.join [(48,Kind.bool)] [34,35,36,37,38,39,40,41,42,43,44,45,46,47,48],.none,.none,.none,.none,.join [(10,(Kind.int .i64))] [5,7,10,53,54,55,56,57,58,59,60,61,62,63,64,65,66,67,68],.none,.none,.none,.none,.none,.none,.join [] [5,69,70,71,72,73,74,75,76,77,78,79,80,81,82,83,84,85,86],.join [(85,Kind.bool)] [69,70,71,72,73,74,75,76,77,78,79,80,81,82,83,84,85],.none,.none,.none,.none,.none,.none,.join [] [5,103,104,105,106,107,108,109,110,111,112,113,114,115,116],.join [(115,Kind.bool)] [103,104,105,106,107,108,109,110,111,112,113,114,115],.none,.none]
theorem zax (b:Slc) (pixels:Int) (w:World) (K:T_api_Matrix→Int→World→Prop) :
  vcFn C (Tryz.f49.body.getD .skip) Tryz.f49.results.toList Tryz.f49.ntmps za2 [(Kind.struct T_api_Matrix.rep),(Kind.int .i64)] [(.slice b.a b.n b.c),(.int .i64 pixels)] w (fun s w=>K s.1 s.2.1 w)=qqv b pixels w K:=by kernel_rfl
theorem q75 (b:Slc) (pixels:Int) {w:World} {K:T_api_Matrix→Int→World→Prop} (h:qqv b pixels w K):qsk b pixels w K:=by
 rw [←zax] at h
 refine Calls.mono (cvc C.plain_ok C.mixed Tryz.func49 rfl h) ?_
 rintro e w' ⟨s,rfl,hK⟩
 exact ⟨s.1,s.2.1,rfl,hK⟩
def qr9  (w:World) (K:Slc→World→Prop):Prop :=nw qai [(.int .u8 137),(.int .u8 80),(.int .u8 78),(.int .u8 71),(.int .u8 13),(.int .u8 10),(.int .u8 26),(.int .u8 10)] w fun t1 w1 =>K (⟨(some t1),8,8⟩:Slc) w1
def zez:List Ann:=[.none,.none]
theorem zdq  (w:World) (K:Slc→World→Prop) :
  vcFn C (Tryz.f50.body.getD .skip) Tryz.f50.results.toList Tryz.f50.ntmps zez [Kind.slice] [] w (fun s w=>K s.1 w)=qr9  w K:=by kernel_rfl
theorem zai  {w:World} {K:Slc→World→Prop} (h:qr9  w K):qoz  w K:=by
 rw [←zdq] at h
 refine Calls.mono (cvc C.plain_ok C.mixed Tryz.func50 rfl h) ?_
 rintro e w' ⟨s,rfl,hK⟩
 exact ⟨s.1,rfl,hK⟩
def qeb (slices:Slc) (w:World) (K:Slc→World→Prop):Prop :=loopP (σ:=Int×Int×Unit) (fun I1 s w1 =>cond (decide (s.2.1<((slices.n:Nat):Int))) (ixK slices s.2.1 1 fun t13 =>ldSl t13 w1 fun t14 =>cond (decide ((IntKind.i64.wrap (s.1+((t14.n:Nat):Int)))<(0:Int))) (False) (I1 ((IntKind.i64.wrap (s.1+((t14.n:Nat):Int))),(IntKind.i64.wrap (s.2.1+(1:Int))),()) w1)) (qfe (⟨none,0,0⟩:Slc) s.1 w1 fun t24 w2 =>loopP (σ:=Slc×Int×Unit) (fun I2 s_1 w3 =>cond (decide (s_1.2.1<((slices.n:Nat):Int))) (ixK slices s_1.2.1 1 fun t29 =>ldSl t29 w3 fun t30 =>apK PG #[qab,qab] qab s_1.1 t30 w3 fun t33 w4 =>I2 (t33,(IntKind.i64.wrap (s_1.2.1+(1:Int))),()) w4) (K s_1.1 w3)) (t24,0,()) w2)) (0,0,()) w
def qoi:List Ann:=[.none,.none,.none,.none,.join [(3,(Kind.int .i64)),(11,(Kind.int .i64))] [3,5,11,12,13,14,15,16,17,18,19,20,21,22],.none,.none,.none,.none,.none,.none,.none,.none,.none,.join [(6,Kind.slice),(27,(Kind.int .i64))] [6,8,27,28,29,30,31,32,33,34],.none,.none,.none,.none,.none]
theorem qn0 (slices:Slc) (w:World) (K:Slc→World→Prop) :
  vcFn C (Tryz.f51.body.getD .skip) Tryz.f51.results.toList Tryz.f51.ntmps qoi [Kind.slice] [(.slice slices.a slices.n slices.c)] w (fun s w=>K s.1 w)=qeb slices w K:=by kernel_rfl
theorem qm4 (slices:Slc) {w:World} {K:Slc→World→Prop} (h:qeb slices w K):qa4 slices w K:=by
 rw [←qn0] at h
 refine Calls.mono (cvc C.plain_ok C.mixed Tryz.func51 rfl h) ?_
 rintro e w' ⟨s,rfl,hK⟩
 exact ⟨s.1,rfl,hK⟩
def qht (s:Option Addr) (parts:Slc) (w:World) (K:Int→World→Prop):Prop :=loopP (σ:=Int×Unit) (fun I1 s_1 w1 =>cond (decide (s_1.1<((parts.n:Nat):Int))) (ixK parts s_1.1 1 fun t11 =>ldSl t11 w1 fun t12 =>callI C (.iface qfm (.pointer s)) "Write" [(.slice t12.a t12.n t12.c)] [(Kind.int .i64), Kind.raw] w1 fun (t16 : Int) (t16_1 : Value) w2 =>I1 ((IntKind.i64.wrap (s_1.1+(1:Int))),()) w2) (callI C (.iface qfm (.pointer s)) "Sum" [] [(Kind.int .u32)] w1 fun (t20 : Int) w3 =>K t20 w3)) (0,()) w
def qxk:List Ann:=[.none,.none,.none,.join [(9,(Kind.int .i64))] [6,9,10,11,12,13,14,15,16,17],.none,.none,.none,.none,.none]
theorem qwf (s:Option Addr) (parts:Slc) (w:World) (K:Int→World→Prop) :
  vcFn C (Tryz.f53.body.getD .skip) Tryz.f53.results.toList Tryz.f53.ntmps qxk [(Kind.int .u32)] [(.pointer s),(.slice parts.a parts.n parts.c)] w (fun s w=>K s.1 w)=qht s parts w K:=by kernel_rfl
theorem qtt (s:Option Addr) (parts:Slc) {w:World} {K:Int→World→Prop} (h:qht s parts w K):qc2 s parts w K:=by
 rw [←qwf] at h
 refine Calls.mono (cvc C.plain_ok C.mixed Tryz.func53 rfl h) ?_
 rintro e w' ⟨s,rfl,hK⟩
 exact ⟨s.1,rfl,hK⟩
def qi2  (w:World) (K:Option Addr→World→Prop):Prop :=nw qcf [(.int .u32 4294967295)] w fun t2 w1 =>K (some t2) w1
def q7y:List Ann:=[.none,.none]
theorem q67  (w:World) (K:Option Addr→World→Prop) :
  vcFn C (Tryz.f54.body.getD .skip) Tryz.f54.results.toList Tryz.f54.ntmps q7y [Kind.ptr] [] w (fun s w=>K s.1 w)=qi2  w K:=by kernel_rfl
theorem qqm  {w:World} {K:Option Addr→World→Prop} (h:qi2  w K):qhg  w K:=by
 rw [←q67] at h
 refine Calls.mono (cvc C.plain_ok C.mixed Tryz.func54 rfl h) ?_
 rintro e w' ⟨s,rfl,hK⟩
 exact ⟨s.1,rfl,hK⟩
def qvm  (w:World) (K:Slc→World→Prop):Prop :=nw qai [(.int .u8 137),(.int .u8 80),(.int .u8 78),(.int .u8 71),(.int .u8 13),(.int .u8 10),(.int .u8 26),(.int .u8 10)] w fun t1 w1 =>K (⟨(some t1),8,8⟩:Slc) w1
def zhe:List Ann:=[.none,.none]
theorem zge  (w:World) (K:Slc→World→Prop) :
  vcFn C (Tryz.f55.body.getD .skip) Tryz.f55.results.toList Tryz.f55.ntmps zhe [Kind.slice] [] w (fun s w=>K s.1 w)=qvm  w K:=by kernel_rfl
theorem zcn  {w:World} {K:Slc→World→Prop} (h:qvm  w K):qye  w K:=by
 rw [←zge] at h
 refine Calls.mono (cvc C.plain_ok C.mixed Tryz.func55 rfl h) ?_
 rintro e w' ⟨s,rfl,hK⟩
 exact ⟨s.1,rfl,hK⟩
def q0b (b:Slc) (w:World) (K:Int→World→Prop):Prop :=loopP (σ:=Int×Int×Unit) (fun I1 s w1 =>cond (decide (s.2.1<((b.n:Nat):Int))) (ixK b s.2.1 1 fun t15 =>ldI .u8 t15 w1 fun t16 =>loopP (σ:=Int×Int×Unit) (fun I2 s_1 w2 =>cond (decide (s_1.2.1<(8:Int))) (cond ((bitsR .and .u32 s_1.1 (1:Int))==(1:Int)) (0≤(1:Int) ∧I2 ((bitsR .xor .u32 (s_1.1.fdiv (2^(min (1:Int).toNat IntKind.u32.bits))) (3988292384:Int)),(IntKind.i64.wrap (s_1.2.1+(1:Int))),()) w2) (0≤(1:Int) ∧I2 ((s_1.1.fdiv (2^(min (1:Int).toNat IntKind.u32.bits))),(IntKind.i64.wrap (s_1.2.1+(1:Int))),()) w2)) (I1 (s_1.1,(IntKind.i64.wrap (s.2.1+(1:Int))),()) w2)) ((bitsR .xor .u32 s.1 (IntKind.u32.wrap t16)),0,()) w1) (K (bitsR .xor .u32 (4294967295) s.1) w1)) (4294967295,0,()) w
def zj2:List Ann:=[.none,.none,.none,.none,.join [(3,(Kind.int .u32)),(4,(Kind.int .i64))] [3,4,5,6,7,8,9,10,11,12,13,14,15,16,17,18,19,20,21,22,23,24,25,26,27,28,29,30],.none,.none,.none,.none,.none,.join [(3,(Kind.int .u32)),(5,(Kind.int .i64))] [3,5,19,20,21,22,23,24,25,26,27,28,29,30],.none,.none,.none,.none,.none]
theorem zjl (b:Slc) (w:World) (K:Int→World→Prop) :
  vcFn C (Tryz.f57.body.getD .skip) Tryz.f57.results.toList Tryz.f57.ntmps zj2 [(Kind.int .u32)] [(.slice b.a b.n b.c)] w (fun s w=>K s.1 w)=q0b b w K:=by kernel_rfl
theorem zd0 (b:Slc) {w:World} {K:Int→World→Prop} (h:q0b b w K):q3h b w K:=by
 rw [←zjl] at h
 refine Calls.mono (cvc C.plain_ok C.mixed Tryz.func57 rfl h) ?_
 rintro e w' ⟨s,rfl,hK⟩
 exact ⟨s.1,rfl,hK⟩
def qef (s:Slc) (v:Int) (w:World) (K:Bool→World→Prop):Prop :=qkd s v w fun t7 w1 =>K (decide (t7≥(0:Int))) w1
def qoe:List Ann:=[.none,.none]
theorem qoa (s:Slc) (v:Int) (w:World) (K:Bool→World→Prop) :
  vcFn C (Tryz.f58.body.getD .skip) Tryz.f58.results.toList Tryz.f58.ntmps qoe [Kind.bool] [(.slice s.a s.n s.c),(.int .i64 v)] w (fun s w=>K s.1 w)=qef s v w K:=by kernel_rfl
theorem qnb (s:Slc) (v:Int) {w:World} {K:Bool→World→Prop} (h:qef s v w K):qen s v w K:=by
 rw [←qoa] at h
 refine Calls.mono (cvc C.plain_ok C.mixed Tryz.func58 rfl h) ?_
 rintro e w' ⟨s,rfl,hK⟩
 exact ⟨s.1,rfl,hK⟩
def qk1 (hx:T_png_Head) (f:Value) (w:World) (K:Bool→World→Prop):Prop :=nw qa9 (T_png_Head.rep.cells hx) w fun hx_1 w1 =>ldS T_png_Head.rep hx_1 w1 fun t10 =>qjv t10 w1 fun t11 w2 =>loopP (σ:=Int×Unit) (fun I1 s w3 =>cond (decide (s.1<((t11.n:Nat):Int))) (ixK t11 s.1 4 fun t15 =>ldS T_q8_Pass.rep t15 w3 fun t16 =>nw qbd [(.int .i64 0),(.int .i64 0),(.int .i64 0),(.int .i64 0)] w3 fun p w4 =>stK p (T_q8_Pass.rep.cells t16) w4 fun w5 =>ldS T_q8_Pass.rep p w5 fun t18 =>ldI .i64 (hx_1.add 0) w5 fun t20 =>ldI .i64 (hx_1.add 1) w5 fun t22 =>qns t18 t20 t22 w5 fun t23 t23_1 w6 =>loopP (σ:=Int×Unit) (fun I2 s_1 w7 =>cond (decide (s_1.1<t23_1)) (ldS T_q8_Pass.rep p w7 fun t31 =>callR C f [(.agg #[(.int .i64 t31.X),(.int .i64 t31.Y),(.int .i64 t31.DX),(.int .i64 t31.DY)]),(.int .i64 s_1.1),(.int .i64 t23)] [Kind.bool] w7 fun (t34:Bool) w8 =>cond (!t34) (K false w8) (I2 ((IntKind.i64.wrap (s_1.1+(1:Int))),()) w8)) (I1 ((IntKind.i64.wrap (s.1+(1:Int))),()) w7)) (0,()) w6) (K true w3)) (0,()) w2
def q3z:List Ann:=[.none,.none,.none,.join [(13,(Kind.int .i64))] [4,6,7,8,9,13,14,15,16,17,18,19,20,21,22,23,24,25,26,27,28,29,30,31,32,33,34,35,36,37],.none,.none,.none,.none,.none,.none,.join [(27,(Kind.int .i64))] [4,9,27,28,29,30,31,32,33,34,35,36],.none,.none,.none,.none,.none,.none,.none]
theorem q35 (hx:T_png_Head) (f:Value) (w:World) (K:Bool→World→Prop) :
  vcFn C (Tryz.f59.body.getD .skip) Tryz.f59.results.toList Tryz.f59.ntmps q3z [Kind.bool] [(.agg #[(.int .i64 hx.W),(.int .i64 hx.H),(.int .i64 hx.Depth),(.int .i64 hx.Color),(.int .i64 hx.Lace)]),f] w (fun s w=>K s.1 w)=qk1 hx f w K:=by kernel_rfl
theorem qzt (hx:T_png_Head) (f:Value) {w:World} {K:Bool→World→Prop} (h:qk1 hx f w K):qd8 hx f w K:=by
 rw [←q35] at h
 refine Calls.mono (cvc C.plain_ok C.mixed Tryz.func59 rfl h) ?_
 rintro e w' ⟨s,rfl,hK⟩
 exact ⟨s.1,rfl,hK⟩
def qse (b:Slc) (pixels:Int) (w:World) (K:Option Addr→Int→World→Prop):Prop :=qqu b w fun t15 t15_1 w1 =>cond (t15_1 !=(0:Int)) (K none t15_1 w1) (ixK t15 0 2 fun t23 =>ldS T_png_Chunk.rep t23 w1 fun t24 =>qu8 t24 w1 fun t25 t25_1 w2 =>nw qa9 [(.int .i64 0),(.int .i64 0),(.int .i64 0),(.int .i64 0),(.int .i64 0)] w2 fun hx w3 =>stK hx (T_png_Head.rep.cells t25) w3 fun w4 =>cond (t25_1 !=(0:Int)) (K none t25_1 w4) (ldI .i64 (hx.add 0) w4 fun t34 =>ldI .i64 (hx.add 1) w4 fun t36 =>cond (decide ((IntKind.i64.wrap (t34*t36))>(if (67108864:Int)<pixels then (67108864:Int) else pixels))) (K none 5 w4) (ldS T_png_Head.rep hx w4 fun t41 =>nw qkb [(.int .i64 t41.W),(.int .i64 t41.H),(.int .i64 t41.Depth),(.int .i64 t41.Color),(.int .i64 t41.Lace),(.slice none 0 0),(.slice none 0 0),(.bool false),(.bool false),(.slice none 0 0),(.bool false),(.bool false)] w4 fun t43 w5 =>slK t15 (some 1) none 2 fun t45 =>loopP (σ:=Int×Unit) (fun I1 s w6 =>cond (decide (s.1<((t45.n:Nat):Int))) (ixK t45 s.1 2 fun t49 =>ldS T_png_Chunk.rep t49 w6 fun t50 =>nw qcb [(.string (⟨#[]⟩:ByteArray)),(.slice none 0 0)] w6 fun c w7 =>stK c (T_png_Chunk.rep.cells t50) w7 fun w8 =>ldS T_png_Chunk.rep c w8 fun t52 =>qls (some t43) t52 w8 fun t53 w9 =>cond (t53 !=(0:Int)) (K none t53 w9) (I1 ((IntKind.i64.wrap (s.1+(1:Int))),()) w9)) (ldB (t43.add 10) w6 fun t61 =>cond (!t61) (K none 3 w6) (ldI .i64 (hx.add 3) w6 fun t65 =>cond (t65==(3:Int)) (ldB (t43.add 7) w6 fun t71 =>cond (!t71) (K none 3 w6) (K (some t43) 0 w6)) (K (some t43) 0 w6)))) (0,()) w5)))
def ze8:List Ann:=[.none,.none,.none,.none,.none,.none,.none,.none,.none,.none,.none,.none,.none,.none,.join [(47,(Kind.int .i64))] [4,5,11,12,47,48,49,50,51,52,53,54,55,56,57],.none,.none,.none,.none,.none,.none,.none,.none,.none,.none,.none]
theorem zde (b:Slc) (pixels:Int) (w:World) (K:Option Addr→Int→World→Prop) :
  vcFn C (Tryz.f63.body.getD .skip) Tryz.f63.results.toList Tryz.f63.ntmps ze8 [Kind.ptr,(Kind.int .i64)] [(.slice b.a b.n b.c),(.int .i64 pixels)] w (fun s w=>K s.1 s.2.1 w)=qse b pixels w K:=by kernel_rfl
theorem q88 (b:Slc) (pixels:Int) {w:World} {K:Option Addr→Int→World→Prop} (h:qse b pixels w K):quq b pixels w K:=by
 rw [←zde] at h
 refine Calls.mono (cvc C.plain_ok C.mixed Tryz.func63 rfl h) ?_
 rintro e w' ⟨s,rfl,hK⟩
 exact ⟨s.1,s.2.1,rfl,hK⟩
def qk5 (hx:T_png_Head) (w:World) (K:Int→World→Prop):Prop :=nw qa9 (T_png_Head.rep.cells hx) w fun hx_1 w1 =>nw qbh [(.int .i64 0)] w1 fun n w2 =>stK n [(.int .i64 0)] w2 fun w3 =>ldS T_png_Head.rep hx_1 w3 fun t4 =>qd8 t4 ((.func (.func qzj) #[] #[(.pointer (some n)),(.pointer (some hx_1))]):Value) w3 fun t6 w4 =>ldI .i64 n w4 fun t7 =>K t7 w4
def q3v:List Ann:=[.none,.none,.none,.none]
theorem q4b (hx:T_png_Head) (w:World) (K:Int→World→Prop) :
  vcFn C (Tryz.f64.body.getD .skip) Tryz.f64.results.toList Tryz.f64.ntmps q3v [(Kind.int .i64)] [(.agg #[(.int .i64 hx.W),(.int .i64 hx.H),(.int .i64 hx.Depth),(.int .i64 hx.Color),(.int .i64 hx.Lace)])] w (fun s w=>K s.1 w)=qk5 hx w K:=by kernel_rfl
theorem qyn (hx:T_png_Head) {w:World} {K:Int→World→Prop} (h:qk5 hx w K):ql7 hx w K:=by
 rw [←q4b] at h
 refine Calls.mono (cvc C.plain_ok C.mixed Tryz.func64 rfl h) ?_
 rintro e w' ⟨s,rfl,hK⟩
 exact ⟨s.1,rfl,hK⟩
def qm5 (b:Slc) (most:Int) (w:World) (K:Slc→Int→Int→World→Prop):Prop :=q6j most w fun t12 t12_1 w1 =>cond (t12_1 !=(0:Int)) (K (⟨none,0,0⟩:Slc) 0 t12_1 w1) (qg8 t12 b w1 fun t21 t21_1 w2 =>cond (t21_1 !=(0:Int)) (K (⟨none,0,0⟩:Slc) 0 t21_1 w2) (qh1 t12 w2 fun t30 w3 =>cond (!t30) (K (⟨none,0,0⟩:Slc) 0 2 w3) (qhn t12 w3 fun t34 w4 =>K t21 t34 0 w4)))
def q6x:List Ann:=[.none,.none,.none,.none,.none,.none,.none,.none,.none,.none,.none,.none]
theorem q7l (b:Slc) (most:Int) (w:World) (K:Slc→Int→Int→World→Prop) :
  vcFn C (Tryz.f65.body.getD .skip) Tryz.f65.results.toList Tryz.f65.ntmps q6x [Kind.slice,(Kind.int .i64),(Kind.int .i64)] [(.slice b.a b.n b.c),(.int .i64 most)] w (fun s w=>K s.1 s.2.1 s.2.2.1 w)=qm5 b most w K:=by kernel_rfl
theorem q3c (b:Slc) (most:Int) {w:World} {K:Slc→Int→Int→World→Prop} (h:qm5 b most w K):qkm b most w K:=by
 rw [←q7l] at h
 refine Calls.mono (cvc C.plain_ok C.mixed Tryz.func65 rfl h) ?_
 rintro e w' ⟨s,rfl,hK⟩
 exact ⟨s.1,s.2.1,s.2.2.1,rfl,hK⟩
def qiq (f:Option Addr) (b:Slc) (w:World) (K:T_api_Matrix→Int→World→Prop):Prop :=nw qod [(.pointer f)] w fun f_1 w1 =>nw qab [(.slice b.a b.n b.c)] w1 fun b_1 w2 =>nw qal [(.int .i64 0),(.int .i64 0),(.slice none 0 0)] w2 fun t4 w3 =>ldP f_1 w3.drew fun t13 =>onPtr t13 fun t14 =>ldI .i64 ((t14.add 0).add 0) w3.drew fun t17 =>ldP f_1 w3.drew fun t18 =>onPtr t18 fun t19 =>ldI .i64 ((t19.add 0).add 1) w3.drew fun t22 =>(qki t17 t22 w3.drew fun t23 t23_1 w4 =>nw qal [(.int .i64 0),(.int .i64 0),(.slice none 0 0)] w4 fun m w5 =>World.cell? w5 ((t19.add 0).add 1)=some (.int .i64 t22) ∧World.cell? w5 f_1=some (.pointer t18) ∧World.cell? w5 ((t14.add 0).add 0)=some (.int .i64 t17) ∧World.cell? w5 f_1=some (.pointer t13) ∧stK m (T_api_Matrix.rep.cells t23) w5 fun w6 =>ldP f_1 w6 fun t26 =>onPtr t26 fun t27 =>ldI .i64 ((t27.add 0).add 3) w6 fun t30 =>qed t30 w6 fun t31 w7 =>nw qbh [(.int .i64 0)] w7 fun n w8 =>stK n [(.int .i64 t31)] w8 fun w9 =>ldI .i64 n w9.drew fun t32 =>ldP f_1 w9.drew fun t33 =>onPtr t33 fun t34 =>ldI .i64 ((t34.add 0).add 2) w9.drew fun t37 =>(8:Int)≠0 ∧nw qbh [(.int .i64 0)] w9.drew fun step w10 =>World.cell? w10 ((t34.add 0).add 2)=some (.int .i64 t37) ∧World.cell? w10 f_1=some (.pointer t33) ∧World.cell? w10 n=some (.int .i64 t32) ∧stK step [(.int .i64 (IntKind.i64.wrap ((IntKind.i64.wrap ((IntKind.i64.wrap (t32*t37))+(7:Int))).tdiv (8:Int))))] w10 fun w11 =>nw qab [(.slice none 0 0)] w11 fun ahead w12 =>ldP f_1 w12 fun t41 =>onPtr t41 fun t42 =>ldS T_png_Head.rep (t42.add 0) w12 fun t44 =>qd8 t44 ((.func (.func qhd) #[] #[(.pointer (some n)),(.pointer (some f_1)),(.pointer (some ahead)),(.pointer (some b_1)),(.pointer (some step)),(.pointer (some m))]):Value) w12 fun t46 w13 =>cond (!t46) (stK t4 [(.int .i64 0),(.int .i64 0),(.slice none 0 0)] w13 fun w14 =>ldS T_api_Matrix.rep t4 w14 fun r =>K r 3 w14) (ldS T_api_Matrix.rep m w13 fun t50 =>stK t4 (T_api_Matrix.rep.cells t50) w13 fun w15 =>ldS T_api_Matrix.rep t4 w15 fun r_1 =>K r_1 0 w15)) ∧nw qal [(.int .i64 0),(.int .i64 0),(.slice none 0 0)] w3.drew fun m_1 w16 =>World.cell? w16 ((t19.add 0).add 1)=some (.int .i64 t22) ∧World.cell? w16 f_1=some (.pointer t18) ∧World.cell? w16 ((t14.add 0).add 0)=some (.int .i64 t17) ∧World.cell? w16 f_1=some (.pointer t13) ∧qki t17 t22 w16 fun t23_2 t23_3 w17 =>stK m_1 (T_api_Matrix.rep.cells t23_2) w17 fun w18 =>ldP f_1 w18 fun t26_1 =>onPtr t26_1 fun t27_1 =>ldI .i64 ((t27_1.add 0).add 3) w18 fun t30_1 =>qed t30_1 w18 fun t31_1 w19 =>nw qbh [(.int .i64 0)] w19 fun n_1 w20 =>stK n_1 [(.int .i64 t31_1)] w20 fun w21 =>ldI .i64 n_1 w21.drew fun t32_1 =>ldP f_1 w21.drew fun t33_1 =>onPtr t33_1 fun t34_1 =>ldI .i64 ((t34_1.add 0).add 2) w21.drew fun t37_1 =>(8:Int)≠0 ∧nw qbh [(.int .i64 0)] w21.drew fun step_1 w22 =>World.cell? w22 ((t34_1.add 0).add 2)=some (.int .i64 t37_1) ∧World.cell? w22 f_1=some (.pointer t33_1) ∧World.cell? w22 n_1=some (.int .i64 t32_1) ∧stK step_1 [(.int .i64 (IntKind.i64.wrap ((IntKind.i64.wrap ((IntKind.i64.wrap (t32_1*t37_1))+(7:Int))).tdiv (8:Int))))] w22 fun w23 =>nw qab [(.slice none 0 0)] w23 fun ahead_1 w24 =>ldP f_1 w24 fun t41_1 =>onPtr t41_1 fun t42_1 =>ldS T_png_Head.rep (t42_1.add 0) w24 fun t44_1 =>qd8 t44_1 ((.func (.func qhd) #[] #[(.pointer (some n_1)),(.pointer (some f_1)),(.pointer (some ahead_1)),(.pointer (some b_1)),(.pointer (some step_1)),(.pointer (some m_1))]):Value) w24 fun t46_1 w25 =>cond (!t46_1) (stK t4 [(.int .i64 0),(.int .i64 0),(.slice none 0 0)] w25 fun w26 =>ldS T_api_Matrix.rep t4 w26 fun r_2 =>K r_2 3 w26) (ldS T_api_Matrix.rep m_1 w25 fun t50_1 =>stK t4 (T_api_Matrix.rep.cells t50_1) w25 fun w27 =>ldS T_api_Matrix.rep t4 w27 fun r_3 =>K r_3 0 w27)
def qy3:List Ann:=[.none,.none,.none,.none,.none,.none,.none,.none,.none,.none]
theorem qyr (f:Option Addr) (b:Slc) (w:World) (K:T_api_Matrix→Int→World→Prop) :
  vcFn C (Tryz.f66.body.getD .skip) Tryz.f66.results.toList Tryz.f66.ntmps qy3 [(Kind.struct T_api_Matrix.rep),(Kind.int .i64)] [(.pointer f),(.slice b.a b.n b.c)] w (fun s w=>K s.1 s.2.1 w)=qiq f b w K:=by kernel_rfl
theorem qve (f:Option Addr) (b:Slc) {w:World} {K:T_api_Matrix→Int→World→Prop} (h:qiq f b w K):qjh f b w K:=by
 rw [←qyr] at h
 refine Calls.mono (cvc C.plain_ok C.mixed Tryz.func66 rfl h) ?_
 rintro e w' ⟨s,rfl,hK⟩
 exact ⟨s.1,s.2.1,rfl,hK⟩
def qj4 (f:Option Addr) (w:World) (K:Slc→World→Prop):Prop :=onPtr f fun t4 =>ldI .i64 ((t4.add 0).add 4) w fun t7 =>cond (t7==(1:Int)) (qsa  w fun t9 w1 =>K t9 w1) (nw qej [(.int .i64 0),(.int .i64 0),(.int .i64 1),(.int .i64 1)] w fun t11 w2 =>K (⟨(some t11),1,1⟩:Slc) w2)
def q1g:List Ann:=[.none,.none,.none,.none,.none]
theorem q09 (f:Option Addr) (w:World) (K:Slc→World→Prop) :
  vcFn C (Tryz.f67.body.getD .skip) Tryz.f67.results.toList Tryz.f67.ntmps q1g [Kind.slice] [(.pointer f)] w (fun s w=>K s.1 w)=qj4 f w K:=by kernel_rfl
theorem qwn (f:Option Addr) {w:World} {K:Slc→World→Prop} (h:qj4 f w K):qds f w K:=by
 rw [←q09] at h
 refine Calls.mono (cvc C.plain_ok C.mixed Tryz.func67 rfl h) ?_
 rintro e w' ⟨s,rfl,hK⟩
 exact ⟨s.1,rfl,hK⟩
def qv4 (p:T_q8_Pass) (wx:Int) (hx:Int) (w:World) (K:Int→Int→World→Prop):Prop :=nw qej (T_q8_Pass.rep.cells p) w fun p_1 w1 =>joinP (σ:=Unit) (fun s w2 =>ldI .i64 (p_1.add 0) w2.drew fun t56 =>ldI .i64 (p_1.add 2) w2.drew fun t60 =>t60≠0 ∧ldI .i64 (p_1.add 1) w2.drew fun t65 =>ldI .i64 (p_1.add 3) w2.drew fun t69 =>t69≠0 ∧K (IntKind.i64.wrap ((IntKind.i64.wrap ((IntKind.i64.wrap ((IntKind.i64.wrap (wx-t56))-(1:Int))).tdiv t60))+(1:Int))) (IntKind.i64.wrap ((IntKind.i64.wrap ((IntKind.i64.wrap ((IntKind.i64.wrap (hx-t65))-(1:Int))).tdiv t69))+(1:Int))) w2.drew) fun J1 =>cond (decide (wx<(1:Int))) (K 0 0 w1) (cond (decide (wx>(16384:Int))) (K 0 0 w1) (cond (decide (hx<(1:Int))) (K 0 0 w1) (cond (decide (hx>(16384:Int))) (K 0 0 w1) (ldI .i64 (p_1.add 2) w1 fun t24 =>cond (decide (t24<(1:Int))) (K 0 0 w1) (ldI .i64 (p_1.add 3) w1 fun t29 =>cond (decide (t29<(1:Int))) (K 0 0 w1) (ldI .i64 (p_1.add 0) w1 fun t34 =>cond (decide (t34<(0:Int))) (K 0 0 w1) (ldI .i64 (p_1.add 1) w1 fun t39 =>cond (decide (t39<(0:Int))) (K 0 0 w1) (ldI .i64 (p_1.add 0) w1 fun t44 =>cond (decide (t44≥wx)) (K 0 0 w1) (ldI .i64 (p_1.add 1) w1 fun t50 =>cond (decide (t50≥hx)) (K 0 0 w1) (J1 (()) w1))))))))))
def zf6:List Ann:=[.none,.join [] [6,7,8,9,10,11,12,13,14,15,16,17,18,19,20,21,22,23,24,25,26,27,28,29,30,31,32,33,34,35,36,37,38,39,40,41,42,43,44,45,46,47,48,49,50,51,52,53],.none,.none,.none]
theorem zgt (p:T_q8_Pass) (wx:Int) (hx:Int) (w:World) (K:Int→Int→World→Prop) :
  vcFn C (Tryz.f68.body.getD .skip) Tryz.f68.results.toList Tryz.f68.ntmps zf6 [(Kind.int .i64),(Kind.int .i64)] [(.agg #[(.int .i64 p.X),(.int .i64 p.Y),(.int .i64 p.DX),(.int .i64 p.DY)]),(.int .i64 wx),(.int .i64 hx)] w (fun s w=>K s.1 s.2.1 w)=qv4 p wx hx w K:=by kernel_rfl
theorem zbi (p:T_q8_Pass) (wx:Int) (hx:Int) {w:World} {K:Int→Int→World→Prop} (h:qv4 p wx hx w K):qlj p wx hx w K:=by
 rw [←zgt] at h
 refine Calls.mono (cvc C.plain_ok C.mixed Tryz.func68 rfl h) ?_
 rintro e w' ⟨s,rfl,hK⟩
 exact ⟨s.1,s.2.1,rfl,hK⟩
def qvu (kind:Int) (row:Slc) (ahead:Slc) (step:Int) (undo:Bool) (w:World) (K:Slc→Int→World→Prop):Prop :=joinP (σ:=Unit) (fun s w1 =>mkSl PG qab (.int .i64 ((row.n:Nat):Int)) (.int .i64 ((row.n:Nat):Int)) w1 fun t46 w2 =>loopP (σ:=Int×Unit) (fun I2 s_1 w3 =>cond (decide (s_1.1<((row.n:Nat):Int))) (joinP (σ:=Int×Unit) (fun s_2 w4 =>joinP (σ:=Int×Int×Unit) (fun s_3 w5 =>qu6 kind s_2.1 s_3.1 s_3.2.1 w5 fun t89 w6 =>cond undo (ixK row s_1.1 1 fun t95 =>ldI .u8 t95 w6 fun t96 =>ixK t46 s_1.1 1 fun t99 =>stK t99 [(.int .u8 (IntKind.u8.wrap (t96+t89)))] w6 fun w7 =>I2 ((IntKind.i64.wrap (s_1.1+(1:Int))),()) w7) (ixK row s_1.1 1 fun t104 =>ldI .u8 t104 w6 fun t105 =>ixK t46 s_1.1 1 fun t108 =>stK t108 [(.int .u8 (IntKind.u8.wrap (t105-t89)))] w6 fun w8 =>I2 ((IntKind.i64.wrap (s_1.1+(1:Int))),()) w8)) fun J4 =>cond (decide (((ahead.n:Nat):Int)>(0:Int))) (ixK ahead s_1.1 1 fun t74 =>ldI .u8 t74 w4 fun t75 =>cond (decide (s_1.1≥step)) (ixK ahead (IntKind.i64.wrap (s_1.1-step)) 1 fun t83 =>ldI .u8 t83 w4 fun t84 =>J4 (t75,t84,()) w4) (J4 (t75,0,()) w4)) (J4 (0,0,()) w4)) fun J3 =>cond (decide (s_1.1≥step)) (ixK row (IntKind.i64.wrap (s_1.1-step)) 1 fun t60 =>ldI .u8 t60 w3 fun t61 =>cond undo (ixK t46 (IntKind.i64.wrap (s_1.1-step)) 1 fun t67 =>ldI .u8 t67 w3 fun t68 =>J3 (t68,()) w3) (J3 (t61,()) w3)) (J3 (0,()) w3)) (K t46 0 w3)) (0,()) w2) fun J1 =>cond (decide (kind<(0:Int))) (K (⟨none,0,0⟩:Slc) 1 w) (cond (decide (kind>(4:Int))) (K (⟨none,0,0⟩:Slc) 1 w) (cond (decide (step<(1:Int))) (K (⟨none,0,0⟩:Slc) 1 w) (cond (decide (step>(8:Int))) (K (⟨none,0,0⟩:Slc) 1 w) (cond (((ahead.n:Nat):Int) !=(0:Int)) (cond (((ahead.n:Nat):Int) !=((row.n:Nat):Int)) (K (⟨none,0,0⟩:Slc) 1 w) (J1 (()) w)) (J1 (()) w)))))
def zhr:List Ann:=[.none,.join [] [10,11,18,19,20,21,22,23,24,25,26,27,28,29,30,31,32,33,34,35,36,37,38,39,40,41,42,43],.none,.none,.none,.none,.none,.join [(13,(Kind.int .i64))] [13,14,15,16,17,47,48,49,50,51,52,53,54,55,56,57,58,59,60,61,62,63,64,65,66,67,68,69,70,71,72,73,74,75,76,77,78,79,80,81,82,83,84,85,86,87,88,89,90,91,92,93,94,95,96,97,98,99,100,101,102,103,104,105,106,107,108],.none,.none,.none,.none,.none,.none,.join [(14,(Kind.int .u8))] [14,53,54,55,56,57,58,59,60,61,62,63,64,65,66,67,68],.none,.none,.none,.join [(15,(Kind.int .u8)),(16,(Kind.int .u8))] [15,16,69,70,71,72,73,74,75,76,77,78,79,80,81,82,83,84],.none,.none,.none,.none,.none,.none]
theorem zgm (kind:Int) (row:Slc) (ahead:Slc) (step:Int) (undo:Bool) (w:World) (K:Slc→Int→World→Prop) :
  vcFn C (Tryz.f70.body.getD .skip) Tryz.f70.results.toList Tryz.f70.ntmps zhr [Kind.slice,(Kind.int .i64)] [(.int .i64 kind),(.slice row.a row.n row.c),(.slice ahead.a ahead.n ahead.c),(.int .i64 step),(.bool undo)] w (fun s w=>K s.1 s.2.1 w)=qvu kind row ahead step undo w K:=by kernel_rfl
theorem zbe (kind:Int) (row:Slc) (ahead:Slc) (step:Int) (undo:Bool) {w:World} {K:Slc→Int→World→Prop} (h:qvu kind row ahead step undo w K):qno kind row ahead step undo w K:=by
 rw [←zgm] at h
 refine Calls.mono (cvc C.plain_ok C.mixed Tryz.func70 rfl h) ?_
 rintro e w' ⟨s,rfl,hK⟩
 exact ⟨s.1,s.2.1,rfl,hK⟩
def qss (b:Slc) (f:Value) (w:World) (K:Int→World→Prop):Prop :=qoz  w fun t10 w1 =>slK b none (some (if ((t10.n:Nat):Int)<((b.n:Nat):Int) then ((t10.n:Nat):Int) else ((b.n:Nat):Int))) 1 fun t19 =>slK t10 none (some (if ((t10.n:Nat):Int)<((b.n:Nat):Int) then ((t10.n:Nat):Int) else ((b.n:Nat):Int))) 1 fun t22 =>qn9 t19 t22 w1.drew fun t23 w2 =>cond (!t23) (K 3 w2) (cond (decide ((if ((t10.n:Nat):Int)<((b.n:Nat):Int) then ((t10.n:Nat):Int) else ((b.n:Nat):Int))<((t10.n:Nat):Int))) (K 2 w2) (slK b (some ((t10.n:Nat):Int)) none 1 fun t33 =>loopP (σ:=Slc×Unit) (fun I1 s w3 =>qsx s.1 w3 fun t36 t36_1 t36_2 w4 =>nw qcb [(.string (⟨#[]⟩:ByteArray)),(.slice none 0 0)] w4 fun c w5 =>stK c (T_png_Chunk.rep.cells t36) w5 fun w6 =>cond (t36_2 !=(0:Int)) (K t36_2 w6) (ldS T_png_Chunk.rep c w6 fun t44 =>callR C f [(.agg #[(.string t44.Kind),(.slice t44.Data.a t44.Data.n t44.Data.c)])] [Kind.bool] w6 fun (t45:Bool) w7 =>cond (!t45) (K 0 w7) (slK s.1 (some t36_1) none 1 fun t49 =>I1 (t49,()) w7))) (t33,()) w2))
def zda:List Ann:=[.none,.none,.none,.none,.none,.none,.none,.none,.none,.join [(0,Kind.slice)] [0,4,7,8,9,34,35,36,37,38,39,40,41,42,43,44,45,46,47,48,49],.none,.none,.none,.none,.none,.none,.none]
theorem zdd (b:Slc) (f:Value) (w:World) (K:Int→World→Prop) :
  vcFn C (Tryz.f72.body.getD .skip) Tryz.f72.results.toList Tryz.f72.ntmps zda [(Kind.int .i64)] [(.slice b.a b.n b.c),f] w (fun s w=>K s.1 w)=qss b f w K:=by kernel_rfl
theorem zag (b:Slc) (f:Value) {w:World} {K:Int→World→Prop} (h:qss b f w K):qva b f w K:=by
 rw [←zdd] at h
 refine Calls.mono (cvc C.plain_ok C.mixed Tryz.func72 rfl h) ?_
 rintro e w' ⟨s,rfl,hK⟩
 exact ⟨s.1,rfl,hK⟩
def qsr (c:T_png_Chunk) (w:World) (K:T_png_Head→Int→World→Prop):Prop :=nw qcb (T_png_Chunk.rep.cells c) w fun c_1 w1 =>nw qa9 [(.int .i64 0),(.int .i64 0),(.int .i64 0),(.int .i64 0),(.int .i64 0)] w1 fun t2 w2 =>ldSl (c_1.add 1) w2 fun t8 =>joinP (σ:=Unit) (fun s w3 =>slK t8 (some 4) none 1 fun t34 =>ixK t8 8 1 fun t38 =>ldI .u8 t38 w3.drew fun t39 =>ixK t8 9 1 fun t42 =>ldI .u8 t42 w3.drew fun t43 =>ixK t8 12 1 fun t46 =>ldI .u8 t46 w3.drew fun t47 =>(qb9 t8 w3.drew fun t31 w4 =>World.cell? w4 t46=some (.int .u8 t47) ∧World.cell? w4 t42=some (.int .u8 t43) ∧World.cell? w4 t38=some (.int .u8 t39) ∧(qb9 t34 w4 fun t35 w5 =>World.cell? w5 t46=some (.int .u8 t47) ∧World.cell? w5 t42=some (.int .u8 t43) ∧World.cell? w5 t38=some (.int .u8 t39) ∧nw qa9 [(.int .i64 0),(.int .i64 0),(.int .i64 0),(.int .i64 0),(.int .i64 0)] w5 fun hx w6 =>World.cell? w6 t46=some (.int .u8 t47) ∧World.cell? w6 t42=some (.int .u8 t43) ∧World.cell? w6 t38=some (.int .u8 t39) ∧stK hx [(.int .i64 (IntKind.i64.wrap t31)),(.int .i64 (IntKind.i64.wrap t35)),(.int .i64 (IntKind.i64.wrap t39)),(.int .i64 (IntKind.i64.wrap t43)),(.int .i64 (IntKind.i64.wrap t47))] w6 fun w7 =>ldS T_png_Head.rep hx w7 fun t50 =>qhj t50 w7 fun t51 w8 =>cond (t51 !=(0:Int)) (stK t2 [(.int .i64 0),(.int .i64 0),(.int .i64 0),(.int .i64 0),(.int .i64 0)] w8 fun w9 =>ldS T_png_Head.rep t2 w9 fun r =>K r t51 w9) (ldS T_png_Head.rep hx w8 fun t56 =>stK t2 (T_png_Head.rep.cells t56) w8 fun w10 =>ldS T_png_Head.rep t2 w10 fun r_1 =>K r_1 0 w10)) ∧nw qa9 [(.int .i64 0),(.int .i64 0),(.int .i64 0),(.int .i64 0),(.int .i64 0)] w4 fun hx_1 w11 =>World.cell? w11 t46=some (.int .u8 t47) ∧World.cell? w11 t42=some (.int .u8 t43) ∧World.cell? w11 t38=some (.int .u8 t39) ∧qb9 t34 w11 fun t35_1 w12 =>World.cell? w12 t46=some (.int .u8 t47) ∧World.cell? w12 t42=some (.int .u8 t43) ∧World.cell? w12 t38=some (.int .u8 t39) ∧stK hx_1 [(.int .i64 (IntKind.i64.wrap t31)),(.int .i64 (IntKind.i64.wrap t35_1)),(.int .i64 (IntKind.i64.wrap t39)),(.int .i64 (IntKind.i64.wrap t43)),(.int .i64 (IntKind.i64.wrap t47))] w12 fun w13 =>ldS T_png_Head.rep hx_1 w13 fun t50_1 =>qhj t50_1 w13 fun t51_1 w14 =>cond (t51_1 !=(0:Int)) (stK t2 [(.int .i64 0),(.int .i64 0),(.int .i64 0),(.int .i64 0),(.int .i64 0)] w14 fun w15 =>ldS T_png_Head.rep t2 w15 fun r_2 =>K r_2 t51_1 w15) (ldS T_png_Head.rep hx_1 w14 fun t56_1 =>stK t2 (T_png_Head.rep.cells t56_1) w14 fun w16 =>ldS T_png_Head.rep t2 w16 fun r_3 =>K r_3 0 w16)) ∧nw qa9 [(.int .i64 0),(.int .i64 0),(.int .i64 0),(.int .i64 0),(.int .i64 0)] w3.drew fun hx_2 w17 =>World.cell? w17 t46=some (.int .u8 t47) ∧World.cell? w17 t42=some (.int .u8 t43) ∧World.cell? w17 t38=some (.int .u8 t39) ∧qb9 t8 w17 fun t31_1 w18 =>World.cell? w18 t46=some (.int .u8 t47) ∧World.cell? w18 t42=some (.int .u8 t43) ∧World.cell? w18 t38=some (.int .u8 t39) ∧qb9 t34 w18 fun t35_2 w19 =>World.cell? w19 t46=some (.int .u8 t47) ∧World.cell? w19 t42=some (.int .u8 t43) ∧World.cell? w19 t38=some (.int .u8 t39) ∧stK hx_2 [(.int .i64 (IntKind.i64.wrap t31_1)),(.int .i64 (IntKind.i64.wrap t35_2)),(.int .i64 (IntKind.i64.wrap t39)),(.int .i64 (IntKind.i64.wrap t43)),(.int .i64 (IntKind.i64.wrap t47))] w19 fun w20 =>ldS T_png_Head.rep hx_2 w20 fun t50_2 =>qhj t50_2 w20 fun t51_2 w21 =>cond (t51_2 !=(0:Int)) (stK t2 [(.int .i64 0),(.int .i64 0),(.int .i64 0),(.int .i64 0),(.int .i64 0)] w21 fun w22 =>ldS T_png_Head.rep t2 w22 fun r_4 =>K r_4 t51_2 w22) (ldS T_png_Head.rep hx_2 w21 fun t56_2 =>stK t2 (T_png_Head.rep.cells t56_2) w21 fun w23 =>ldS T_png_Head.rep t2 w23 fun r_5 =>K r_5 0 w23)) fun J1 =>joinP (σ:=Bool×Unit) (fun s_1 w24 =>cond s_1.1 (stK t2 [(.int .i64 0),(.int .i64 0),(.int .i64 0),(.int .i64 0),(.int .i64 0)] w24 fun w25 =>ldS T_png_Head.rep t2 w25 fun r_6 =>K r_6 3 w25) (J1 (()) w24)) fun J2 =>ldStr (c_1.add 0) w2 fun t10 =>cond (!(t10.toList==(⟨#[73,72,68,82]⟩:ByteArray).toList)) (J2 (true,()) w2) (cond (((t8.n:Nat):Int) !=(13:Int)) (J2 (true,()) w2) (ixK t8 10 1 fun t19 =>ldI .u8 t19 w2 fun t20 =>cond (t20 !=(0:Int)) (J2 (true,()) w2) (ixK t8 11 1 fun t25 =>ldI .u8 t25 w2 fun t26 =>J2 ((t26 !=(0:Int)),()) w2)))
def zel:List Ann:=[.none,.none,.join [] [3,9,10,11,12,13,14,15,16,17,18,19,20,21,22,23,24,25,26,27,28,29],.join [(28,Kind.bool)] [9,10,11,12,13,14,15,16,17,18,19,20,21,22,23,24,25,26,27,28],.none,.none,.none,.none,.none,.none,.none]
theorem zer (c:T_png_Chunk) (w:World) (K:T_png_Head→Int→World→Prop) :
  vcFn C (Tryz.f74.body.getD .skip) Tryz.f74.results.toList Tryz.f74.ntmps zel [(Kind.struct T_png_Head.rep),(Kind.int .i64)] [(.agg #[(.string c.Kind),(.slice c.Data.a c.Data.n c.Data.c)])] w (fun s w=>K s.1 s.2.1 w)=qsr c w K:=by kernel_rfl
theorem q9o (c:T_png_Chunk) {w:World} {K:T_png_Head→Int→World→Prop} (h:qsr c w K):qu8 c w K:=by
 rw [←zer] at h
 refine Calls.mono (cvc C.plain_ok C.mixed Tryz.func74 rfl h) ?_
 rintro e w' ⟨s,rfl,hK⟩
 exact ⟨s.1,s.2.1,rfl,hK⟩
def qlq (c:T_png_Chunk) (c0:Addr) (w:World) (K:Bool→World→Prop):Prop :=nw qcb (T_png_Chunk.rep.cells c) w fun c_1 w1 =>ldSl c0 w1 fun t4 =>ldS T_png_Chunk.rep c_1 w1 fun t5 =>nw qcb [(.string t5.Kind),(.slice t5.Data.a t5.Data.n t5.Data.c)] w1 fun t6 w2 =>apK PG #[qda,qda] qda t4 (⟨(some t6),1,1⟩:Slc) w2 fun t7 w3 =>stK c0 [(.slice t7.a t7.n t7.c)] w3 fun w4 =>ldStr (c_1.add 0) w4 fun t9 =>K (!(t9.toList==(⟨#[73,69,78,68]⟩:ByteArray).toList)) w4
def q6l:List Ann:=[.none,.none,.none]
theorem q6e (c:T_png_Chunk) (c0:Addr) (w:World) (K:Bool→World→Prop) :
  vcFn C (Tryz.f75.body.getD .skip) Tryz.f75.results.toList Tryz.f75.ntmps q6l [Kind.bool] [(.agg #[(.string c.Kind),(.slice c.Data.a c.Data.n c.Data.c)]),(.pointer (some c0))] w (fun s w=>K s.1 w)=qlq c c0 w K:=by kernel_rfl
theorem q08 (c:T_png_Chunk) (c0:Addr) {w:World} {K:Bool→World→Prop} (h:qlq c c0 w K):qt4 c c0 w K:=by
 rw [←q6e] at h
 refine Calls.mono (cvc C.plain_ok C.mixed Tryz.func75 rfl h) ?_
 rintro e w' ⟨s,rfl,hK⟩
 exact ⟨s.1,rfl,hK⟩
def qm2 (n:Int) (w:World) (K:Bool→World→Prop):Prop :=cond (decide (n≥(1:Int))) (K (decide (n≤(16384:Int))) w) (K false w)
def q62:List Ann:=[.none,.none]
theorem q6r (n:Int) (w:World) (K:Bool→World→Prop) :
  vcFn C (Tryz.f76.body.getD .skip) Tryz.f76.results.toList Tryz.f76.ntmps q62 [Kind.bool] [(.int .i64 n)] w (fun s w=>K s.1 w)=qm2 n w K:=by kernel_rfl
theorem q4h (n:Int) {w:World} {K:Bool→World→Prop} (h:qm2 n w K):qkl n w K:=by
 rw [←q6r] at h
 refine Calls.mono (cvc C.plain_ok C.mixed Tryz.func76 rfl h) ?_
 rintro e w' ⟨s,rfl,hK⟩
 exact ⟨s.1,rfl,hK⟩
def qhe  (w:World) (K:Option Addr→World→Prop):Prop :=nw qjw [(.int .u32 0),(.int .i64 0),(.int .i64 0),(.bool false),(.bool false)] w fun t2 w1 =>K (some t2) w1
def qud:List Ann:=[.none,.none]
theorem qt9  (w:World) (K:Option Addr→World→Prop) :
  vcFn C (Tryz.f77.body.getD .skip) Tryz.f77.results.toList Tryz.f77.ntmps qud [Kind.ptr] [] w (fun s w=>K s.1 w)=qhe  w K:=by kernel_rfl
theorem qsw  {w:World} {K:Option Addr→World→Prop} (h:qhe  w K):qmj  w K:=by
 rw [←qt9] at h
 refine Calls.mono (cvc C.plain_ok C.mixed Tryz.func77 rfl h) ?_
 rintro e w' ⟨s,rfl,hK⟩
 exact ⟨s.1,rfl,hK⟩
def qgn (d:Option Addr) (c:Int) (w:World) (K:Slc→Int→World→Prop):Prop :=joinP (σ:=Unit) (fun s w1 =>onPtr d fun t23 =>stK t23 [(.int .u32 0),(.int .i64 0),(.int .i64 0),(.bool false),(.bool true)] w1 fun w2 =>K (⟨none,0,0⟩:Slc) 3 w2) fun J1 =>onPtr d fun t9 =>ldB (t9.add 4) w fun t11 =>cond (!t11) (qg3 d c w fun t16 t16_1 w3 =>cond t16_1 (K t16 0 w3) (J1 (()) w3)) (J1 (()) w)
def qtj:List Ann:=[.none,.join [] [4,5,6,7,8,9,10,11,12,13,14,15,16,17,18,19,20],.none,.none,.none,.none,.none,.none]
theorem qt3 (d:Option Addr) (c:Int) (w:World) (K:Slc→Int→World→Prop) :
  vcFn C (Tryz.f78.body.getD .skip) Tryz.f78.results.toList Tryz.f78.ntmps qtj [Kind.slice,(Kind.int .i64)] [(.pointer d),(.int .u8 c)] w (fun s w=>K s.1 s.2.1 w)=qgn d c w K:=by kernel_rfl
theorem qrb (d:Option Addr) (c:Int) {w:World} {K:Slc→Int→World→Prop} (h:qgn d c w K):qha d c w K:=by
 rw [←qt3] at h
 refine Calls.mono (cvc C.plain_ok C.mixed Tryz.func78 rfl h) ?_
 rintro e w' ⟨s,rfl,hK⟩
 exact ⟨s.1,s.2.1,rfl,hK⟩
def qhs (l:Option Addr) (b:Slc) (w:World) (K:Int→World→Prop):Prop :=loopP (σ:=Int×Unit) (fun I1 s w1 =>cond (decide (s.1<((b.n:Nat):Int))) (ixK b s.1 1 fun t13 =>ldI .u8 t13 w1 fun t14 =>joinP (σ:=Unit) (fun s_1 w2 =>onPtr l fun t45 =>ldSl (t45.add 25) w2.drew fun t47 =>onPtr l fun t49 =>ldSl (t49.add 25) w2.drew fun t51 =>ixK t47 (IntKind.i64.wrap (((t51.n:Nat):Int)-(1:Int))) 1 fun t54 =>ldSl t54 w2.drew fun t58 =>nw qai [(.int .u8 t14)] w2.drew fun t60 w3 =>apK PG #[qab,qab] qab t58 (⟨(some t60),1,1⟩:Slc) w3 fun t61 w4 =>stK t54 [(.slice t61.a t61.n t61.c)] w4 fun w5 =>I1 ((IntKind.i64.wrap (s.1+(1:Int))),()) w5) fun J2 =>onPtr l fun t16 =>ldSl (t16.add 25) w1 fun t18 =>joinP (σ:=Bool×Unit) (fun s_2 w6 =>cond s_2.1 (onPtr l fun t36 =>ldSl (t36.add 25) w6.drew fun t38 =>mkSl PG qab (.int .i64 0) (.int .i64 32768) w6.drew fun t39 w7 =>World.cell? w7 (t36.add 25)=some (.slice t38.a t38.n t38.c) ∧nw qab [(.slice t39.a t39.n t39.c)] w7 fun t40 w8 =>World.cell? w8 (t36.add 25)=some (.slice t38.a t38.n t38.c) ∧apK PG #[qi3,qi3] qi3 t38 (⟨(some t40),1,1⟩:Slc) w8 fun t41 w9 =>onPtr l fun t42 =>stK (t42.add 25) [(.slice t41.a t41.n t41.c)] w9 fun w10 =>J2 (()) w10) (J2 (()) w6)) fun J3 =>cond (((t18.n:Nat):Int)==(0:Int)) (J3 (true,()) w1) (onPtr l fun t24 =>ldSl (t24.add 25) w1 fun t26 =>ixK t26 (IntKind.i64.wrap (((t18.n:Nat):Int)-(1:Int))) 1 fun t29 =>ldSl t29 w1 fun t30 =>J3 ((((t30.n:Nat):Int)==(32768:Int)),()) w1)) (onPtr l fun t65 =>ldI .i64 (t65.add 26) w1 fun t67 =>onPtr l fun t71 =>stK (t71.add 26) [(.int .i64 (IntKind.i64.wrap (t67+((b.n:Nat):Int))))] w1 fun w11 =>onPtr l fun t75 =>ldI .i64 (t75.add 26) w11.drew fun t77 =>onPtr l fun t79 =>ldI .i64 (t79.add 23) w11.drew fun t81 =>cond (decide (t77>t81)) (K 6 w11.drew) (onPtr l fun t85 =>ldI .u8 ((t85.add 1).add 2) w11.drew.drew fun t88 =>cond (t88==(0:Int)) (onPtr l fun t92 =>ldI .i64 ((t92.add 1).add 5) w11.drew.drew fun t95 =>cond (t95 !=(100:Int)) (onPtr l fun t100 =>ldI .i64 (t100.add 26) w11.drew.drew fun t102 =>onPtr l fun t104 =>ldI .i64 (t104.add 24) w11.drew.drew fun t106 =>cond (decide (t102>t106)) (K 5 w11.drew.drew) (K 0 w11.drew.drew)) (K 0 w11.drew.drew)) (K 0 w11.drew.drew)))) (0,()) w
def qwl:List Ann:=[.none,.none,.none,.join [(11,(Kind.int .i64))] [6,7,8,11,12,13,14,15,16,17,18,19,20,21,22,23,24,25,26,27,28,29,30,31,32,33,34,35,36,37,38,39,40,41,42,43,44,45,46,47,48,49,50,51,52,53,54,55,56,57,58,59,60,61,62,63],.none,.none,.none,.none,.join [] [7,15,16,17,18,19,20,21,22,23,24,25,26,27,28,29,30,31,32,33,34,35,36,37,38,39,40,41,42,43],.none,.join [(33,Kind.bool)] [20,21,22,23,24,25,26,27,28,29,30,31,32,33],.none,.none,.none,.none,.none,.none,.none,.none]
theorem qxc (l:Option Addr) (b:Slc) (w:World) (K:Int→World→Prop) :
  vcFn C (Tryz.f79.body.getD .skip) Tryz.f79.results.toList Tryz.f79.ntmps qwl [(Kind.int .i64)] [(.pointer l),(.slice b.a b.n b.c)] w (fun s w=>K s.1 w)=qhs l b w K:=by kernel_rfl
theorem qtp (l:Option Addr) (b:Slc) {w:World} {K:Int→World→Prop} (h:qhs l b w K):qd7 l b w K:=by
 rw [←qxc] at h
 refine Calls.mono (cvc C.plain_ok C.mixed Tryz.func79 rfl h) ?_
 rintro e w' ⟨s,rfl,hK⟩
 exact ⟨s.1,rfl,hK⟩
def qhx (l:Option Addr) (e:Int) (w:World) (K:World→Prop):Prop :=joinP (σ:=Bool×Unit) (fun s w1 =>cond s.1 (onPtr l fun t15 =>stK (t15.add 27) [(.int .i64 e)] w1 fun w2 =>qiz l w2 fun w3 =>K w3) (K w1)) fun J1 =>onPtr l fun t5 =>ldI .i64 (t5.add 27) w fun t7 =>cond (t7==(0:Int)) (J1 ((e !=(0:Int)),()) w) (J1 (false,()) w)
def qwx:List Ann:=[.join [(12,Kind.bool)] [4,5,6,7,8,9,10,11,12],.none]
theorem qwd (l:Option Addr) (e:Int) (w:World) (K:World→Prop) :
  vcFn C (Tryz.f80.body.getD .skip) Tryz.f80.results.toList Tryz.f80.ntmps qwx [] [(.pointer l),(.int .i64 e)] w (fun s w=>K w)=qhx l e w K:=by kernel_rfl
theorem qty (l:Option Addr) (e:Int) {w:World} {K:World→Prop} (h:qhx l e w K):qby l e w K:=by
 rw [←qwd] at h
 refine Calls.mono (cvc C.plain_ok C.mixed Tryz.func80 rfl h) ?_
 rintro e w' ⟨s,rfl,hK⟩
 exact ⟨rfl,hK⟩
def qhw (d:Option Addr) (b:Slc) (w:World) (K:Slc→Int→World→Prop):Prop :=onPtr d fun t12 =>ldB (t12.add 2) w fun t14 =>cond t14 (K (⟨none,0,0⟩:Slc) 3 w) (loopP (σ:=Slc×Int×Unit) (fun I1 s w1 =>cond (decide (s.2.1<((b.n:Nat):Int))) (joinP (σ:=Unit) (fun s_1 w2 =>onPtr d fun t53 =>ldSl (t53.add 0) w2.drew fun t55 =>ixK b s.2.1 1 fun t58 =>ldI .u8 t58 w2.drew fun t59 =>nw qai [(.int .u8 t59)] w2.drew fun t60 w3 =>World.cell? w3 (t53.add 0)=some (.slice t55.a t55.n t55.c) ∧apK PG #[qab,qab] qab t55 (⟨(some t60),1,1⟩:Slc) w3 fun t61 w4 =>onPtr d fun t62 =>stK (t62.add 0) [(.slice t61.a t61.n t61.c)] w4 fun w5 =>onPtr d fun t65 =>ldSl (t65.add 0) w5 fun t67 =>cond (((t67.n:Nat):Int)==(4:Int)) (qc3 d w5 fun t71 w6 =>onPtr d fun t74 =>ldSl (t74.add 0) w6 fun t76 =>slK t76 none (some t71) 1 fun t78 =>ql6 t78 w6 fun t79 t79_1 w7 =>apK PG #[qab,qab] qab s.1 t79 w7 fun t84 w8 =>onPtr d fun t88 =>stK (t88.add 1) [(.bool (decide (t71<(4:Int))))] w8 fun w9 =>onPtr d fun t91 =>stK (t91.add 0) [(.slice none 0 0)] w9 fun w10 =>I1 (t84,(IntKind.i64.wrap (s.2.1+(1:Int))),()) w10) (I1 (s.1,(IntKind.i64.wrap (s.2.1+(1:Int))),()) w5)) fun J2 =>joinP (σ:=Bool×Unit) (fun s_2 w11 =>cond s_2.1 (onPtr d fun t50 =>stK t50 [(.slice none 0 0),(.bool false),(.bool true)] w11 fun w12 =>K (⟨none,0,0⟩:Slc) 3 w12) (J2 (()) w11)) fun J3 =>onPtr d fun t22 =>ldSl (t22.add 0) w1 fun t24 =>cond (decide (((t24.n:Nat):Int)>(0:Int))) (ixK b s.2.1 1 fun t30 =>ldI .u8 t30 w1 fun t31 =>cond (t31==(61:Int)) (qc3 d w1 fun t36 w13 =>cond (decide (t36<(2:Int))) (J3 (true,()) w13) (ixK b s.2.1 1 fun t43 =>ldI .u8 t43 w13 fun t44 =>qdk d t44 w13 fun t45 w14 =>J3 ((!t45),()) w14)) (ixK b s.2.1 1 fun t43_1 =>ldI .u8 t43_1 w1 fun t44_1 =>qdk d t44_1 w1 fun t45_1 w15 =>J3 ((!t45_1),()) w15)) (ixK b s.2.1 1 fun t43_2 =>ldI .u8 t43_2 w1 fun t44_2 =>qdk d t44_2 w1 fun t45_2 w16 =>J3 ((!t45_2),()) w16)) (K s.1 0 w1)) (⟨none,0,0⟩,0,()) w)
def qwq:List Ann:=[.none,.none,.none,.none,.none,.none,.none,.join [(6,Kind.slice),(7,(Kind.int .i64))] [4,5,6,7,8,9,10,15,16,17,18,19,20,21,22,23,24,25,26,27,28,29,30,31,32,33,34,35,36,37,38,39,40,41,42,43,44,45,46,47,48,49,50,51,52,53,54,55,56,57,58,59,60,61,62,63,64,65,66,67,68,69,70,71,72,73,74,75,76,77,78,79,80,81,82,83,84,85,86,87,88,89,90,91,92],.none,.none,.none,.join [] [4,5,21,22,23,24,25,26,27,28,29,30,31,32,33,34,35,36,37,38,39,40,41,42,43,44,45,46,47,48,49,50],.join [(47,Kind.bool)] [21,22,23,24,25,26,27,28,29,30,31,32,33,34,35,36,37,38,39,40,41,42,43,44,45,46,47],.none,.none,.none,.none,.none,.none,.none,.none,.none]
theorem qwc (d:Option Addr) (b:Slc) (w:World) (K:Slc→Int→World→Prop) :
  vcFn C (Tryz.f81.body.getD .skip) Tryz.f81.results.toList Tryz.f81.ntmps qwq [Kind.slice,(Kind.int .i64)] [(.pointer d),(.slice b.a b.n b.c)] w (fun s w=>K s.1 s.2.1 w)=qhw d b w K:=by kernel_rfl
theorem qtn (d:Option Addr) (b:Slc) {w:World} {K:Slc→Int→World→Prop} (h:qhw d b w K):qiv d b w K:=by
 rw [←qwc] at h
 refine Calls.mono (cvc C.plain_ok C.mixed Tryz.func81 rfl h) ?_
 rintro e w' ⟨s,rfl,hK⟩
 exact ⟨s.1,s.2.1,rfl,hK⟩
def qh6 (l:Option Addr) (b:Slc) (w:World) (K:Int→World→Prop):Prop :=onPtr l fun t7 =>ldSl (t7.add 27) w fun t9 =>apK PG #[qab,qab] qab t9 b w fun t11 w1 =>onPtr l fun t12 =>stK (t12.add 27) [(.slice t11.a t11.n t11.c)] w1 fun w2 =>onPtr l fun t16 =>ldSl (t16.add 27) w2.drew fun t18 =>onPtr l fun t21 =>ldI .i64 (t21.add 22) w2.drew fun t23 =>cond (decide (((t18.n:Nat):Int)>t23)) (K 6 w2.drew) (onPtr l fun t27 =>ldI .u8 ((t27.add 0).add 2) w2.drew.drew fun t30 =>cond (t30==(0:Int)) (onPtr l fun t34 =>ldI .i64 ((t34.add 0).add 5) w2.drew.drew fun t37 =>cond (t37 !=(100:Int)) (onPtr l fun t42 =>ldSl (t42.add 27) w2.drew.drew fun t44 =>onPtr l fun t47 =>ldI .i64 (t47.add 23) w2.drew.drew fun t49 =>cond (decide (((t44.n:Nat):Int)>t49)) (K 5 w2.drew.drew) (K 0 w2.drew.drew)) (K 0 w2.drew.drew)) (K 0 w2.drew.drew))
def qz1:List Ann:=[.none,.none,.none,.none,.none,.none,.none,.none]
theorem qx2 (l:Option Addr) (b:Slc) (w:World) (K:Int→World→Prop) :
  vcFn C (Tryz.f82.body.getD .skip) Tryz.f82.results.toList Tryz.f82.ntmps qz1 [(Kind.int .i64)] [(.pointer l),(.slice b.a b.n b.c)] w (fun s w=>K s.1 w)=qh6 l b w K:=by kernel_rfl
theorem qt6 (l:Option Addr) (b:Slc) {w:World} {K:Int→World→Prop} (h:qh6 l b w K):qf9 l b w K:=by
 rw [←qx2] at h
 refine Calls.mono (cvc C.plain_ok C.mixed Tryz.func82 rfl h) ?_
 rintro e w' ⟨s,rfl,hK⟩
 exact ⟨s.1,rfl,hK⟩
def qit (l:Option Addr) (e:Int) (w:World) (K:Int→World→Prop):Prop :=onPtr l fun t7 =>stK (t7.add 28) [(.int .i64 e)] w fun w1 =>onPtr l fun t10 =>stK (t10.add 27) [(.slice none 0 0)] w1 fun w2 =>K e w2
def qzy:List Ann:=[.none,.none,.none,.none]
theorem qyu (l:Option Addr) (e:Int) (w:World) (K:Int→World→Prop) :
  vcFn C (Tryz.f83.body.getD .skip) Tryz.f83.results.toList Tryz.f83.ntmps qzy [(Kind.int .i64)] [(.pointer l),(.int .i64 e)] w (fun s w=>K s.1 w)=qit l e w K:=by kernel_rfl
theorem qt7 (l:Option Addr) (e:Int) {w:World} {K:Int→World→Prop} (h:qit l e w K):qga l e w K:=by
 rw [←qyu] at h
 refine Calls.mono (cvc C.plain_ok C.mixed Tryz.func83 rfl h) ?_
 rintro e w' ⟨s,rfl,hK⟩
 exact ⟨s.1,rfl,hK⟩
end Go.Proofs.YtmagnpcgpinmcaaGreat
