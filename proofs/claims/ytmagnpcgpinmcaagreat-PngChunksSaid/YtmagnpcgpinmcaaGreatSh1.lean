import Derived.Test.YtmagnpcgpinmcaaGreatDefs
set_option maxRecDepth 100000
set_option linter.unusedVariables false
namespace Go.Proofs.YtmagnpcgpinmcaaGreat
open Go.Vc
def qp5 (b:Slc) (fixed:Bool) (w:World) (K:Slc→World→Prop):Prop :=qly b w fun t8 w1 =>joinP (σ:=Slc×Unit) (fun s w2 =>qlf  w2 fun t12 w3 =>nw qaa [(.slice b.a b.n b.c)] w3 fun t14 w4 =>qgs t12 (⟨(some t14),1,1⟩:Slc) w4 fun t15 w5 =>nw qag [(.int .u8 120),(.int .u8 1)] w5 fun t16 w6 =>0≤(24:Int) ∧0≤(16:Int) ∧0≤(8:Int) ∧nw qag [(.int .u8 (IntKind.u8.wrap (t15.fdiv (2^(min (24:Int).toNat IntKind.u32.bits))))),(.int .u8 (IntKind.u8.wrap (t15.fdiv (2^(min (16:Int).toNat IntKind.u32.bits))))),(.int .u8 (IntKind.u8.wrap (t15.fdiv (2^(min (8:Int).toNat IntKind.u32.bits))))),(.int .u8 (IntKind.u8.wrap t15))] w6 fun t29 w7 =>nw qaa [(.slice (some t16) 2 2),(.slice s.1.a s.1.n s.1.c),(.slice (some t29) 4 4)] w7 fun t30 w8 =>qan (⟨(some t30),3,3⟩:Slc) w8 fun t31 w9 =>K t31 w9) fun J1 =>cond fixed (qk5 b w1 fun t11 w10 =>J1 (t11,()) w10) (J1 (t8,()) w1)
def q9q:List Ann:=[.none,.none,.join [(5,Kind.slice)] [5,9,10,11],.none,.none,.none]
theorem zah (b:Slc) (fixed:Bool) (w:World) (K:Slc→World→Prop) :
  vcFn C (Tryz.f45.body.getD .skip) Tryz.f45.results.toList Tryz.f45.ntmps q9q [Kind.slice] [(.slice b.a b.n b.c),(.bool fixed)] w (fun s w=>K s.1 w)=qp5 b fixed w K:=by kernel_rfl
theorem q5m (b:Slc) (fixed:Bool) {w:World} {K:Slc→World→Prop} (h:qp5 b fixed w K):qhb b fixed w K:=by
 rw [←zah] at h
 refine Calls.mono (cvc C.plain_ok C.mixed Tryz.func45 rfl h) ?_
 rintro e w' ⟨s,rfl,hK⟩
 exact ⟨s.1,rfl,hK⟩
def qlm (b:Slc) (w:World) (K:Slc→Int→World→Prop):Prop :=qmy b false w fun t5 t5_1 w1 =>K t5 t5_1 w1
def q9i:List Ann:=[.none,.none]
theorem q9r (b:Slc) (w:World) (K:Slc→Int→World→Prop) :
  vcFn C (Tryz.f46.body.getD .skip) Tryz.f46.results.toList Tryz.f46.ntmps q9i [Kind.slice,(Kind.int .i64)] [(.slice b.a b.n b.c)] w (fun s w=>K s.1 s.2.1 w)=qlm b w K:=by kernel_rfl
theorem qsj (b:Slc) {w:World} {K:Slc→Int→World→Prop} (h:qlm b w K):qr6 b w K:=by
 rw [←q9r] at h
 refine Calls.mono (cvc C.plain_ok C.mixed Tryz.func46 rfl h) ?_
 rintro e w' ⟨s,rfl,hK⟩
 exact ⟨s.1,s.2.1,rfl,hK⟩
def qt9 (b:Slc) (w:World) (K:T_png_Head→Int→World→Prop):Prop :=nw qc4 [(.int .i64 0),(.int .i64 0),(.int .i64 0),(.int .i64 0),(.int .i64 0)] w fun t2 w1 =>qmy b true w1 fun t8 t8_1 w2 =>cond (t8_1 !=(0:Int)) (stK t2 [(.int .i64 0),(.int .i64 0),(.int .i64 0),(.int .i64 0),(.int .i64 0)] w2 fun w3 =>ldS T_png_Head.rep t2 w3 fun r =>K r t8_1 w3) (ixK t8 0 2 fun t16 =>ldS T_png_Chunk.rep t16 w2 fun t17 =>qqz t17 w2 fun t18 t18_1 w4 =>stK t2 (T_png_Head.rep.cells t18) w4 fun w5 =>ldS T_png_Head.rep t2 w5 fun r_1 =>K r_1 t18_1 w5)
def zf7:List Ann:=[.none,.none,.none,.none,.none,.none]
theorem zfm (b:Slc) (w:World) (K:T_png_Head→Int→World→Prop) :
  vcFn C (Tryz.f47.body.getD .skip) Tryz.f47.results.toList Tryz.f47.ntmps zf7 [(Kind.struct T_png_Head.rep),(Kind.int .i64)] [(.slice b.a b.n b.c)] w (fun s w=>K s.1 s.2.1 w)=qt9 b w K:=by kernel_rfl
theorem q9z (b:Slc) {w:World} {K:T_png_Head→Int→World→Prop} (h:qt9 b w K):qwr b w K:=by
 rw [←zfm] at h
 refine Calls.mono (cvc C.plain_ok C.mixed Tryz.func47 rfl h) ?_
 rintro e w' ⟨s,rfl,hK⟩
 exact ⟨s.1,s.2.1,rfl,hK⟩
def qqc (a:Slc) (b:Slc) (w:World) (K:Bool→World→Prop):Prop :=cond (((a.n:Nat):Int) !=((b.n:Nat):Int)) (K false w) (loopP (σ:=Int×Unit) (fun I1 s w1 =>cond (decide (s.1<((a.n:Nat):Int))) (ixK a s.1 2 fun t19 =>ldStr (t19.add 0) w1.drew fun t21 =>ixK b s.1 2 fun t24 =>ldStr (t24.add 0) w1.drew fun t26 =>cond (!(t21.toList==t26.toList)) (  (K false w1.drew) ∧K false w1.drew) (ixK a s.1 2 fun t31 =>ldSl (t31.add 1) w1.drew fun t33 =>ixK b s.1 2 fun t37 =>ldSl (t37.add 1) w1.drew fun t39 =>(runK1 PG (convert qaa qa1 (.slice t33.a t33.n t33.c)) Kind.string w1.drew fun (t34:ByteArray) w2 =>World.cell? w2 (t37.add 1)=some (.slice t39.a t39.n t39.c) ∧runK1 PG (convert qaa qa1 (.slice t39.a t39.n t39.c)) Kind.string w2 fun (t40:ByteArray) w3 =>World.cell? w3 (t31.add 1)=some (.slice t33.a t33.n t33.c) ∧cond (!(t34.toList==t40.toList)) (K false w3) (I1 ((IntKind.i64.wrap (s.1+(1:Int))),()) w3)) ∧runK1 PG (convert qaa qa1 (.slice t39.a t39.n t39.c)) Kind.string w1.drew fun (t40_1:ByteArray) w4 =>World.cell? w4 (t31.add 1)=some (.slice t33.a t33.n t33.c) ∧runK1 PG (convert qaa qa1 (.slice t33.a t33.n t33.c)) Kind.string w4 fun (t34_1:ByteArray) w5 =>World.cell? w5 (t37.add 1)=some (.slice t39.a t39.n t39.c) ∧cond (!(t34_1.toList==t40_1.toList)) (K false w5) (I1 ((IntKind.i64.wrap (s.1+(1:Int))),()) w5))) (K true w1)) (0,()) w)
def zby:List Ann:=[.none,.none,.none,.none,.none,.none,.join [(5,(Kind.int .i64))] [4,5,11,12,13,14,15,16,17,18,19,20,21,22,23,24,25,26,27,28,29,30,31,32,33,34,35,36,37,38,39,40,41,42],.none,.none,.none,.none,.none,.none]
theorem q9h (a:Slc) (b:Slc) (w:World) (K:Bool→World→Prop) :
  vcFn C (Tryz.f48.body.getD .skip) Tryz.f48.results.toList Tryz.f48.ntmps zby [Kind.bool] [(.slice a.a a.n a.c),(.slice b.a b.n b.c)] w (fun s w=>K s.1 w)=qqc a b w K:=by kernel_rfl
theorem q6s (a:Slc) (b:Slc) {w:World} {K:Bool→World→Prop} (h:qqc a b w K):qrm a b w K:=by
 rw [←q9h] at h
 refine Calls.mono (cvc C.plain_ok C.mixed Tryz.func48 rfl h) ?_
 rintro e w' ⟨s,rfl,hK⟩
 exact ⟨s.1,rfl,hK⟩
def qqa (b:Slc) (pixels:Int) (w:World) (K:T_api_Matrix→Int→World→Prop):Prop :=nw qa8 [(.int .i64 0),(.int .i64 0),(.slice none 0 0)] w fun t4 w1 =>qr6 b w1 fun t16 t16_1 w2 =>cond (t16_1 !=(0:Int)) (stK t4 [(.int .i64 0),(.int .i64 0),(.slice none 0 0)] w2 fun w3 =>ldS T_api_Matrix.rep t4 w3 fun r =>K r t16_1 w3) (ixK t16 0 2 fun t25 =>ldS T_png_Chunk.rep t25 w2 fun t26 =>qqz t26 w2 fun t27 t27_1 w4 =>nw qc4 [(.int .i64 0),(.int .i64 0),(.int .i64 0),(.int .i64 0),(.int .i64 0)] w4 fun hx w5 =>stK hx (T_png_Head.rep.cells t27) w5 fun w6 =>cond (t27_1 !=(0:Int)) (stK t4 [(.int .i64 0),(.int .i64 0),(.slice none 0 0)] w6 fun w7 =>ldS T_api_Matrix.rep t4 w7 fun r_1 =>K r_1 t27_1 w7) (joinP (σ:=Unit) (fun s w8 =>ldS T_png_Head.rep hx w8 fun t50 =>nw qk1 [(.int .i64 t50.W),(.int .i64 t50.H),(.int .i64 t50.Depth),(.int .i64 t50.Color),(.int .i64 t50.Lace),(.slice none 0 0),(.bool false),(.slice none 0 0),(.bool false),(.slice none 0 0),(.bool false),(.bool false)] w8 fun t52 w9 =>loopP (σ:=Int×Unit) (fun I2 s_1 w10 =>cond (decide (s_1.1<((t16.n:Nat):Int))) (ixK t16 s_1.1 2 fun t62 =>ldS T_png_Chunk.rep t62 w10 fun t63 =>ql3 (some t52) t63 w10 fun t64 w11 =>cond (t64 !=(0:Int)) (stK t4 [(.int .i64 0),(.int .i64 0),(.slice none 0 0)] w11 fun w12 =>ldS T_api_Matrix.rep t4 w12 fun r_2 =>K r_2 t64 w12) (I2 ((IntKind.i64.wrap (s_1.1+(1:Int))),()) w11)) (joinP (σ:=Unit) (fun s_2 w13 =>qma (some t52) w13 fun t88 w14 =>ldSl (t52.add 9) w14 fun t93 =>qrs t93 t88 w14 fun t95 t95_1 t95_2 w15 =>cond (t95_2 !=(0:Int)) (stK t4 [(.int .i64 0),(.int .i64 0),(.slice none 0 0)] w15 fun w16 =>ldS T_api_Matrix.rep t4 w16 fun r_3 =>K r_3 t95_2 w16) (joinP (σ:=Unit) (fun s_3 w17 =>qj4 (some t52) t95 w17 fun t119 t119_1 w18 =>stK t4 (T_api_Matrix.rep.cells t119) w18 fun w19 =>ldS T_api_Matrix.rep t4 w19 fun r_4 =>K r_4 t119_1 w19) fun J4 =>joinP (σ:=Bool×Unit) (fun s_4 w20 =>cond s_4.1 (stK t4 [(.int .i64 0),(.int .i64 0),(.slice none 0 0)] w20 fun w21 =>ldS T_api_Matrix.rep t4 w21 fun r_5 =>K r_5 3 w21) (J4 (()) w20)) fun J5 =>cond (decide (((t95.n:Nat):Int)<t88)) (J5 (true,()) w15) (ldSl (t52.add 9) w15 fun t112 =>J5 ((decide (t95_1<((t112.n:Nat):Int))),()) w15))) fun J3 =>joinP (σ:=Bool×Unit) (fun s_5 w22 =>cond s_5.1 (stK t4 [(.int .i64 0),(.int .i64 0),(.slice none 0 0)] w22 fun w23 =>ldS T_api_Matrix.rep t4 w23 fun r_6 =>K r_6 3 w23) (J3 (()) w22)) fun J6 =>ldB (t52.add 10) w10 fun t72 =>cond (!t72) (J6 (true,()) w10) (ldI .i64 (hx.add 3) w10 fun t76 =>cond (t76==(3:Int)) (ldB (t52.add 6) w10 fun t82 =>J6 ((!t82),()) w10) (J6 (false,()) w10)))) (1,()) w9) fun J1 =>joinP (σ:=Bool×Unit) (fun s_6 w24 =>cond s_6.1 (stK t4 [(.int .i64 0),(.int .i64 0),(.slice none 0 0)] w24 fun w25 =>ldS T_api_Matrix.rep t4 w25 fun r_7 =>K r_7 5 w25) (J1 (()) w24)) fun J7 =>ldI .i64 (hx.add 0) w6 fun t35 =>ldI .i64 (hx.add 1) w6 fun t37 =>cond (decide ((IntKind.i64.wrap (t35*t37))>pixels)) (J7 (true,()) w6) (ldI .i64 (hx.add 0) w6 fun t43 =>ldI .i64 (hx.add 1) w6 fun t45 =>J7 ((decide ((IntKind.i64.wrap (t43*t45))>(67108864:Int))),()) w6)))
def q92:List Ann:=[.none,.none,.none,.none,.none,.none,.none,.none,.none,.join [] [5,34,35,36,37,38,39,40,41,42,43,44,45,46,47,48,49],.join [(48,Kind.bool)] [34,35,36,37,38,39,40,41,42,43,44,45,46,47,48],.none,.none,.none,.none,.join [(10,(Kind.int .i64))] [5,7,10,53,54,55,56,57,58,59,60,61,62,63,64,65,66,67,68],.none,.none,.none,.none,.none,.none,.join [] [5,69,70,71,72,73,74,75,76,77,78,79,80,81,82,83,84,85,86],.join [(85,Kind.bool)] [69,70,71,72,73,74,75,76,77,78,79,80,81,82,83,84,85],.none,.none,.none,.none,.none,.none,.join [] [5,103,104,105,106,107,108,109,110,111,112,113,114,115,116],.join [(115,Kind.bool)] [103,104,105,106,107,108,109,110,111,112,113,114,115],.none,.none]
theorem q97 (b:Slc) (pixels:Int) (w:World) (K:T_api_Matrix→Int→World→Prop) :
  vcFn C (Tryz.f49.body.getD .skip) Tryz.f49.results.toList Tryz.f49.ntmps q92 [(Kind.struct T_api_Matrix.rep),(Kind.int .i64)] [(.slice b.a b.n b.c),(.int .i64 pixels)] w (fun s w=>K s.1 s.2.1 w)=qqa b pixels w K:=by kernel_rfl
theorem q5j (b:Slc) (pixels:Int) {w:World} {K:T_api_Matrix→Int→World→Prop} (h:qqa b pixels w K):qr9 b pixels w K:=by
 rw [←q97] at h
 refine Calls.mono (cvc C.plain_ok C.mixed Tryz.func49 rfl h) ?_
 rintro e w' ⟨s,rfl,hK⟩
 exact ⟨s.1,s.2.1,rfl,hK⟩
def qrz  (w:World) (K:Slc→World→Prop):Prop :=nw qag [(.int .u8 137),(.int .u8 80),(.int .u8 78),(.int .u8 71),(.int .u8 13),(.int .u8 10),(.int .u8 26),(.int .u8 10)] w fun t1 w1 =>K (⟨(some t1),8,8⟩:Slc) w1
def zcw:List Ann:=[.none,.none]
theorem zcr  (w:World) (K:Slc→World→Prop) :
  vcFn C (Tryz.f50.body.getD .skip) Tryz.f50.results.toList Tryz.f50.ntmps zcw [Kind.slice] [] w (fun s w=>K s.1 w)=qrz  w K:=by kernel_rfl
theorem q8s  {w:World} {K:Slc→World→Prop} (h:qrz  w K):qln  w K:=by
 rw [←zcr] at h
 refine Calls.mono (cvc C.plain_ok C.mixed Tryz.func50 rfl h) ?_
 rintro e w' ⟨s,rfl,hK⟩
 exact ⟨s.1,rfl,hK⟩
def qed (slices:Slc) (w:World) (K:Slc→World→Prop):Prop :=loopP (σ:=Int×Int×Unit) (fun I1 s w1 =>cond (decide (s.2.1<((slices.n:Nat):Int))) (ixK slices s.2.1 1 fun t13 =>ldSl t13 w1 fun t14 =>cond (decide ((IntKind.i64.wrap (s.1+((t14.n:Nat):Int)))<(0:Int))) (False) (I1 ((IntKind.i64.wrap (s.1+((t14.n:Nat):Int))),(IntKind.i64.wrap (s.2.1+(1:Int))),()) w1)) (qfc (⟨none,0,0⟩:Slc) s.1 w1 fun t24 w2 =>loopP (σ:=Slc×Int×Unit) (fun I2 s_1 w3 =>cond (decide (s_1.2.1<((slices.n:Nat):Int))) (ixK slices s_1.2.1 1 fun t29 =>ldSl t29 w3 fun t30 =>apK PG #[qaa,qaa] qaa s_1.1 t30 w3 fun t33 w4 =>I2 (t33,(IntKind.i64.wrap (s_1.2.1+(1:Int))),()) w4) (K s_1.1 w3)) (t24,0,()) w2)) (0,0,()) w
def qnz:List Ann:=[.none,.none,.none,.none,.join [(3,(Kind.int .i64)),(11,(Kind.int .i64))] [3,5,11,12,13,14,15,16,17,18,19,20,21,22],.none,.none,.none,.none,.none,.none,.none,.none,.none,.join [(6,Kind.slice),(27,(Kind.int .i64))] [6,8,27,28,29,30,31,32,33,34],.none,.none,.none,.none,.none]
theorem qn4 (slices:Slc) (w:World) (K:Slc→World→Prop) :
  vcFn C (Tryz.f51.body.getD .skip) Tryz.f51.results.toList Tryz.f51.ntmps qnz [Kind.slice] [(.slice slices.a slices.n slices.c)] w (fun s w=>K s.1 w)=qed slices w K:=by kernel_rfl
theorem qmp (slices:Slc) {w:World} {K:Slc→World→Prop} (h:qed slices w K):qan slices w K:=by
 rw [←qn4] at h
 refine Calls.mono (cvc C.plain_ok C.mixed Tryz.func51 rfl h) ?_
 rintro e w' ⟨s,rfl,hK⟩
 exact ⟨s.1,rfl,hK⟩
def qty (v:Int) (w:World) (K:Slc→World→Prop):Prop :=0≤(24:Int) ∧0≤(16:Int) ∧0≤(8:Int) ∧nw qag [(.int .u8 (IntKind.u8.wrap (v.fdiv (2^(min (24:Int).toNat IntKind.u32.bits))))),(.int .u8 (IntKind.u8.wrap (v.fdiv (2^(min (16:Int).toNat IntKind.u32.bits))))),(.int .u8 (IntKind.u8.wrap (v.fdiv (2^(min (8:Int).toNat IntKind.u32.bits))))),(.int .u8 (IntKind.u8.wrap v))] w fun t14 w1 =>K (⟨(some t14),4,4⟩:Slc) w1
def zff:List Ann:=[.none,.none]
theorem zf1 (v:Int) (w:World) (K:Slc→World→Prop) :
  vcFn C (Tryz.f52.body.getD .skip) Tryz.f52.results.toList Tryz.f52.ntmps zff [Kind.slice] [(.int .u32 v)] w (fun s w=>K s.1 w)=qty v w K:=by kernel_rfl
theorem zb2 (v:Int) {w:World} {K:Slc→World→Prop} (h:qty v w K):qfy v w K:=by
 rw [←zf1] at h
 refine Calls.mono (cvc C.plain_ok C.mixed Tryz.func52 rfl h) ?_
 rintro e w' ⟨s,rfl,hK⟩
 exact ⟨s.1,rfl,hK⟩
def qhs (s:Option Addr) (parts:Slc) (w:World) (K:Int→World→Prop):Prop :=loopP (σ:=Int×Unit) (fun I1 s_1 w1 =>cond (decide (s_1.1<((parts.n:Nat):Int))) (ixK parts s_1.1 1 fun t11 =>ldSl t11 w1 fun t12 =>callI C (.iface qfm (.pointer s)) "Write" [(.slice t12.a t12.n t12.c)] [(Kind.int .i64), Kind.raw] w1 fun (t16 : Int) (t16_1 : Value) w2 =>I1 ((IntKind.i64.wrap (s_1.1+(1:Int))),()) w2) (callI C (.iface qfm (.pointer s)) "Sum" [] [(Kind.int .u32)] w1 fun (t20 : Int) w3 =>K t20 w3)) (0,()) w
def qva:List Ann:=[.none,.none,.none,.join [(9,(Kind.int .i64))] [6,9,10,11,12,13,14,15,16,17],.none,.none,.none,.none,.none]
theorem qv6 (s:Option Addr) (parts:Slc) (w:World) (K:Int→World→Prop) :
  vcFn C (Tryz.f53.body.getD .skip) Tryz.f53.results.toList Tryz.f53.ntmps qva [(Kind.int .u32)] [(.pointer s),(.slice parts.a parts.n parts.c)] w (fun s w=>K s.1 w)=qhs s parts w K:=by kernel_rfl
theorem qsw (s:Option Addr) (parts:Slc) {w:World} {K:Int→World→Prop} (h:qhs s parts w K):qcl s parts w K:=by
 rw [←qv6] at h
 refine Calls.mono (cvc C.plain_ok C.mixed Tryz.func53 rfl h) ?_
 rintro e w' ⟨s,rfl,hK⟩
 exact ⟨s.1,rfl,hK⟩
def qin  (w:World) (K:Option Addr→World→Prop):Prop :=nw qcq [(.int .u32 4294967295)] w fun t2 w1 =>K (some t2) w1
def q5z:List Ann:=[.none,.none]
theorem q59  (w:World) (K:Option Addr→World→Prop) :
  vcFn C (Tryz.f54.body.getD .skip) Tryz.f54.results.toList Tryz.f54.ntmps q5z [Kind.ptr] [] w (fun s w=>K s.1 w)=qin  w K:=by kernel_rfl
theorem qph  {w:World} {K:Option Addr→World→Prop} (h:qin  w K):qfl  w K:=by
 rw [←q59] at h
 refine Calls.mono (cvc C.plain_ok C.mixed Tryz.func54 rfl h) ?_
 rintro e w' ⟨s,rfl,hK⟩
 exact ⟨s.1,rfl,hK⟩
def qt2  (w:World) (K:Slc→World→Prop):Prop :=nw qag [(.int .u8 137),(.int .u8 80),(.int .u8 78),(.int .u8 71),(.int .u8 13),(.int .u8 10),(.int .u8 26),(.int .u8 10)] w fun t1 w1 =>K (⟨(some t1),8,8⟩:Slc) w1
def zgy:List Ann:=[.none,.none]
theorem zg1  (w:World) (K:Slc→World→Prop) :
  vcFn C (Tryz.f55.body.getD .skip) Tryz.f55.results.toList Tryz.f55.ntmps zgy [Kind.slice] [] w (fun s w=>K s.1 w)=qt2  w K:=by kernel_rfl
theorem zao  {w:World} {K:Slc→World→Prop} (h:qt2  w K):qq3  w K:=by
 rw [←zg1] at h
 refine Calls.mono (cvc C.plain_ok C.mixed Tryz.func55 rfl h) ?_
 rintro e w' ⟨s,rfl,hK⟩
 exact ⟨s.1,rfl,hK⟩
def qtb (n:Int) (w:World) (K:Slc→World→Prop):Prop :=0≤(24:Int) ∧0≤(16:Int) ∧0≤(8:Int) ∧nw qag [(.int .u8 (IntKind.u8.wrap (n.fdiv (2^(min (24:Int).toNat IntKind.i64.bits))))),(.int .u8 (IntKind.u8.wrap (n.fdiv (2^(min (16:Int).toNat IntKind.i64.bits))))),(.int .u8 (IntKind.u8.wrap (n.fdiv (2^(min (8:Int).toNat IntKind.i64.bits))))),(.int .u8 (IntKind.u8.wrap n))] w fun t14 w1 =>K (⟨(some t14),4,4⟩:Slc) w1
def zhb:List Ann:=[.none,.none]
theorem zge (n:Int) (w:World) (K:Slc→World→Prop) :
  vcFn C (Tryz.f56.body.getD .skip) Tryz.f56.results.toList Tryz.f56.ntmps zhb [Kind.slice] [(.int .i64 n)] w (fun s w=>K s.1 w)=qtb n w K:=by kernel_rfl
theorem q9o (n:Int) {w:World} {K:Slc→World→Prop} (h:qtb n w K):qgm n w K:=by
 rw [←zge] at h
 refine Calls.mono (cvc C.plain_ok C.mixed Tryz.func56 rfl h) ?_
 rintro e w' ⟨s,rfl,hK⟩
 exact ⟨s.1,rfl,hK⟩
def qyg (b:Slc) (w:World) (K:Int→World→Prop):Prop :=loopP (σ:=Int×Int×Unit) (fun I1 s w1 =>cond (decide (s.2.1<((b.n:Nat):Int))) (ixK b s.2.1 1 fun t15 =>ldI .u8 t15 w1 fun t16 =>loopP (σ:=Int×Int×Unit) (fun I2 s_1 w2 =>cond (decide (s_1.2.1<(8:Int))) (cond ((bitsR .and .u32 s_1.1 (1:Int))==(1:Int)) (0≤(1:Int) ∧I2 ((bitsR .xor .u32 (s_1.1.fdiv (2^(min (1:Int).toNat IntKind.u32.bits))) (3988292384:Int)),(IntKind.i64.wrap (s_1.2.1+(1:Int))),()) w2) (0≤(1:Int) ∧I2 ((s_1.1.fdiv (2^(min (1:Int).toNat IntKind.u32.bits))),(IntKind.i64.wrap (s_1.2.1+(1:Int))),()) w2)) (I1 (s_1.1,(IntKind.i64.wrap (s.2.1+(1:Int))),()) w2)) ((bitsR .xor .u32 s.1 (IntKind.u32.wrap t16)),0,()) w1) (K (bitsR .xor .u32 (4294967295) s.1) w1)) (4294967295,0,()) w
def zjp:List Ann:=[.none,.none,.none,.none,.join [(3,(Kind.int .u32)),(4,(Kind.int .i64))] [3,4,5,6,7,8,9,10,11,12,13,14,15,16,17,18,19,20,21,22,23,24,25,26,27,28,29,30],.none,.none,.none,.none,.none,.join [(3,(Kind.int .u32)),(5,(Kind.int .i64))] [3,5,19,20,21,22,23,24,25,26,27,28,29,30],.none,.none,.none,.none,.none]
theorem zh8 (b:Slc) (w:World) (K:Int→World→Prop) :
  vcFn C (Tryz.f57.body.getD .skip) Tryz.f57.results.toList Tryz.f57.ntmps zjp [(Kind.int .u32)] [(.slice b.a b.n b.c)] w (fun s w=>K s.1 w)=qyg b w K:=by kernel_rfl
theorem zdy (b:Slc) {w:World} {K:Int→World→Prop} (h:qyg b w K):qmk b w K:=by
 rw [←zh8] at h
 refine Calls.mono (cvc C.plain_ok C.mixed Tryz.func57 rfl h) ?_
 rintro e w' ⟨s,rfl,hK⟩
 exact ⟨s.1,rfl,hK⟩
def qec (s:Slc) (v:Int) (w:World) (K:Bool→World→Prop):Prop :=qju s v w fun t7 w1 =>K (decide (t7≥(0:Int))) w1
def qn2:List Ann:=[.none,.none]
theorem qn3 (s:Slc) (v:Int) (w:World) (K:Bool→World→Prop) :
  vcFn C (Tryz.f58.body.getD .skip) Tryz.f58.results.toList Tryz.f58.ntmps qn2 [Kind.bool] [(.slice s.a s.n s.c),(.int .i64 v)] w (fun s w=>K s.1 w)=qec s v w K:=by kernel_rfl
theorem qmg (s:Slc) (v:Int) {w:World} {K:Bool→World→Prop} (h:qec s v w K):qes s v w K:=by
 rw [←qn3] at h
 refine Calls.mono (cvc C.plain_ok C.mixed Tryz.func58 rfl h) ?_
 rintro e w' ⟨s,rfl,hK⟩
 exact ⟨s.1,rfl,hK⟩
def qkd (hx:T_png_Head) (f:Value) (w:World) (K:Bool→World→Prop):Prop :=nw qaw (T_png_Head.rep.cells hx) w fun hx_1 w1 =>ldS T_png_Head.rep hx_1 w1 fun t10 =>qji t10 w1 fun t11 w2 =>loopP (σ:=Int×Unit) (fun I1 s w3 =>cond (decide (s.1<((t11.n:Nat):Int))) (ixK t11 s.1 4 fun t15 =>ldS T_q8_Pass.rep t15 w3 fun t16 =>nw qbd [(.int .i64 0),(.int .i64 0),(.int .i64 0),(.int .i64 0)] w3 fun p w4 =>stK p (T_q8_Pass.rep.cells t16) w4 fun w5 =>ldS T_q8_Pass.rep p w5 fun t18 =>ldI .i64 (hx_1.add 0) w5 fun t20 =>ldI .i64 (hx_1.add 1) w5 fun t22 =>qnd t18 t20 t22 w5 fun t23 t23_1 w6 =>loopP (σ:=Int×Unit) (fun I2 s_1 w7 =>cond (decide (s_1.1<t23_1)) (ldS T_q8_Pass.rep p w7 fun t31 =>callR C f [(.agg #[(.int .i64 t31.X),(.int .i64 t31.Y),(.int .i64 t31.DX),(.int .i64 t31.DY)]),(.int .i64 s_1.1),(.int .i64 t23)] [Kind.bool] w7 fun (t34:Bool) w8 =>cond (!t34) (K false w8) (I2 ((IntKind.i64.wrap (s_1.1+(1:Int))),()) w8)) (I1 ((IntKind.i64.wrap (s.1+(1:Int))),()) w7)) (0,()) w6) (K true w3)) (0,()) w2
def q2o:List Ann:=[.none,.none,.none,.join [(13,(Kind.int .i64))] [4,6,7,8,9,13,14,15,16,17,18,19,20,21,22,23,24,25,26,27,28,29,30,31,32,33,34,35,36,37],.none,.none,.none,.none,.none,.none,.join [(27,(Kind.int .i64))] [4,9,27,28,29,30,31,32,33,34,35,36],.none,.none,.none,.none,.none,.none,.none]
theorem q1h (hx:T_png_Head) (f:Value) (w:World) (K:Bool→World→Prop) :
  vcFn C (Tryz.f59.body.getD .skip) Tryz.f59.results.toList Tryz.f59.ntmps q2o [Kind.bool] [(.agg #[(.int .i64 hx.W),(.int .i64 hx.H),(.int .i64 hx.Depth),(.int .i64 hx.Color),(.int .i64 hx.Lace)]),f] w (fun s w=>K s.1 w)=qkd hx f w K:=by kernel_rfl
theorem qx6 (hx:T_png_Head) (f:Value) {w:World} {K:Bool→World→Prop} (h:qkd hx f w K):qdk hx f w K:=by
 rw [←q1h] at h
 refine Calls.mono (cvc C.plain_ok C.mixed Tryz.func59 rfl h) ?_
 rintro e w' ⟨s,rfl,hK⟩
 exact ⟨s.1,rfl,hK⟩
def qlv (p:T_q8_Pass) (y:Int) (wx:Int) (c0:Addr) (c1:Addr) (c2:Addr) (c3:Addr) (w:World) (K:Bool→World→Prop):Prop :=nw qbd (T_q8_Pass.rep.cells p) w fun p_1 w1 =>joinP (σ:=Unit) (fun s w2 =>loopP (σ:=Slc×Int×Unit) (fun I2 s_1 w3 =>cond (decide (s_1.2.1<wx)) (ldS T_api_Matrix.rep c1 w3 fun t24 =>ldI .i64 (p_1.add 0) w3 fun t26 =>ldI .i64 (p_1.add 2) w3 fun t29 =>ldI .i64 (p_1.add 1) w3 fun t33 =>ldI .i64 (p_1.add 3) w3 fun t36 =>qta t24 (IntKind.i64.wrap (t26+(IntKind.i64.wrap (s_1.2.1*t29)))) (IntKind.i64.wrap (t33+(IntKind.i64.wrap (y*t36)))) w3 fun t39 t39_1 w4 =>nw qaj [(.int .u8 0),(.int .u8 0),(.int .u8 0),(.int .u8 0)] w4 fun c w5 =>stK c (T_pixel_Color.rep.cells t39) w5 fun w6 =>slA c 4 none none 1 fun t43 =>apK PG #[qaa,qaa] qaa s_1.1 t43 w6 fun t44 w7 =>I2 (t44,(IntKind.i64.wrap (s_1.2.1+(1:Int))),()) w7) (ldI .i64 c2 w3 fun t47 =>ldSl c0 w3 fun t49 =>qru t47 s_1.1 t49 4 w3 fun t50 t50_1 w8 =>ldSl c3 w8 fun t53 =>ldI .i64 c2 w8 fun t54 =>nw qag [(.int .u8 (IntKind.u8.wrap t54))] w8 fun t56 w9 =>apK PG #[qaa,qaa] qaa t53 (⟨(some t56),1,1⟩:Slc) w9 fun t57 w10 =>apK PG #[qaa,qaa] qaa t57 t50 w10 fun t59 w11 =>stK c3 [(.slice t59.a t59.n t59.c)] w11 fun w12 =>stK c0 [(.slice s_1.1.a s_1.1.n s_1.1.c)] w12 fun w13 =>K true w13)) (⟨none,0,0⟩,0,()) w2) fun J1 =>cond (y==(0:Int)) (stK c0 [(.slice none 0 0)] w1 fun w14 =>J1 (()) w14) (J1 (()) w1)
def q4b:List Ann:=[.none,.join [] [17,18],.none,.none,.none,.none,.join [(11,Kind.slice),(20,(Kind.int .i64))] [11,12,13,14,20,21,22,23,24,25,26,27,28,29,30,31,32,33,34,35,36,37,38,39,40,41,42,43,44,45],.none,.none,.none,.none,.none,.none,.none,.none,.none]
theorem q28 (p:T_q8_Pass) (y:Int) (wx:Int) (c0:Addr) (c1:Addr) (c2:Addr) (c3:Addr) (w:World) (K:Bool→World→Prop) :
  vcFn C (Tryz.f60.body.getD .skip) Tryz.f60.results.toList Tryz.f60.ntmps q4b [Kind.bool] [(.agg #[(.int .i64 p.X),(.int .i64 p.Y),(.int .i64 p.DX),(.int .i64 p.DY)]),(.int .i64 y),(.int .i64 wx),(.pointer (some c0)),(.pointer (some c1)),(.pointer (some c2)),(.pointer (some c3))] w (fun s w=>K s.1 w)=qlv p y wx c0 c1 c2 c3 w K:=by kernel_rfl
theorem q0j (p:T_q8_Pass) (y:Int) (wx:Int) (c0:Addr) (c1:Addr) (c2:Addr) (c3:Addr) {w:World} {K:Bool→World→Prop} (h:qlv p y wx c0 c1 c2 c3 w K):qmn p y wx c0 c1 c2 c3 w K:=by
 rw [←q28] at h
 refine Calls.mono (cvc C.plain_ok C.mixed Tryz.func60 rfl h) ?_
 rintro e w' ⟨s,rfl,hK⟩
 exact ⟨s.1,rfl,hK⟩
def qre (m:T_api_Matrix) (x:Int) (y:Int) (w:World) (K:T_pixel_Color→Bool→World→Prop):Prop :=nw qat (T_api_Matrix.rep.cells m) w fun m_1 w1 =>nw qaj [(.int .u8 0),(.int .u8 0),(.int .u8 0),(.int .u8 0)] w1 fun t6 w2 =>ldS T_api_Matrix.rep m_1 w2 fun t8 =>qu0 t8 x y w2 fun t11 w3 =>cond (!t11) (stK t6 [(.int .u8 0),(.int .u8 0),(.int .u8 0),(.int .u8 0)] w3 fun w4 =>ldS T_pixel_Color.rep t6 w4 fun r =>K r false w4) (ldS T_api_Matrix.rep m_1 w3 fun t14 =>q3c t14 x y w3 fun t17 w5 =>stK t6 (T_pixel_Color.rep.cells t17) w5 fun w6 =>ldS T_pixel_Color.rep t6 w6 fun r_1 =>K r_1 true w6)
def zei:List Ann:=[.none,.none,.none,.none,.none]
theorem zda (m:T_api_Matrix) (x:Int) (y:Int) (w:World) (K:T_pixel_Color→Bool→World→Prop) :
  vcFn C (Tryz.f61.body.getD .skip) Tryz.f61.results.toList Tryz.f61.ntmps zei [(Kind.struct T_pixel_Color.rep),Kind.bool] [(.agg #[(.int .i64 m.W),(.int .i64 m.H),(.slice m.P.a m.P.n m.P.c)]),(.int .i64 x),(.int .i64 y)] w (fun s w=>K s.1 s.2.1 w)=qre m x y w K:=by kernel_rfl
theorem q8n (m:T_api_Matrix) (x:Int) (y:Int) {w:World} {K:T_pixel_Color→Bool→World→Prop} (h:qre m x y w K):qta m x y w K:=by
 rw [←zda] at h
 refine Calls.mono (cvc C.plain_ok C.mixed Tryz.func61 rfl h) ?_
 rintro e w' ⟨s,rfl,hK⟩
 exact ⟨s.1,s.2.1,rfl,hK⟩
def qqe (kind:Int) (row:Slc) (ahead:Slc) (step:Int) (w:World) (K:Slc→Int→World→Prop):Prop :=qit kind row ahead step w fun t16 w1 =>cond (!t16) (K (⟨none,0,0⟩:Slc) 1 w1) (qam row w1 fun t19 w2 =>loopP (σ:=Int×Unit) (fun I1 s w3 =>cond (decide (s.1<((t19.n:Nat):Int))) (ixK t19 s.1 1 fun t27 =>ldI .u8 t27 w3.drew fun t28 =>qiy kind s.1 row ahead step w3.drew fun t34 w4 =>World.cell? w4 t27=some (.int .u8 t28) ∧ixK t19 s.1 1 fun t36 =>stK t36 [(.int .u8 (IntKind.u8.wrap (t28-t34)))] w4 fun w5 =>I1 ((IntKind.i64.wrap (s.1+(1:Int))),()) w5) (K t19 0 w3)) (0,()) w2)
def zai:List Ann:=[.none,.none,.none,.none,.none,.none,.none,.join [(22,(Kind.int .i64))] [11,22,23,24,25,26,27,28,29,30,31,32,33,34,35,36,37],.none,.none,.none,.none,.none]
theorem zb5 (kind:Int) (row:Slc) (ahead:Slc) (step:Int) (w:World) (K:Slc→Int→World→Prop) :
  vcFn C (Tryz.f62.body.getD .skip) Tryz.f62.results.toList Tryz.f62.ntmps zai [Kind.slice,(Kind.int .i64)] [(.int .i64 kind),(.slice row.a row.n row.c),(.slice ahead.a ahead.n ahead.c),(.int .i64 step)] w (fun s w=>K s.1 s.2.1 w)=qqe kind row ahead step w K:=by kernel_rfl
theorem q5d (kind:Int) (row:Slc) (ahead:Slc) (step:Int) {w:World} {K:Slc→Int→World→Prop} (h:qqe kind row ahead step w K):qru kind row ahead step w K:=by
 rw [←zb5] at h
 refine Calls.mono (cvc C.plain_ok C.mixed Tryz.func62 rfl h) ?_
 rintro e w' ⟨s,rfl,hK⟩
 exact ⟨s.1,s.2.1,rfl,hK⟩
def qr4 (b:Slc) (pixels:Int) (w:World) (K:Option Addr→Int→World→Prop):Prop :=qlr b w fun t15 t15_1 w1 =>cond (t15_1 !=(0:Int)) (K none t15_1 w1) (ixK t15 0 2 fun t23 =>ldS T_png_Chunk.rep t23 w1 fun t24 =>qos t24 w1 fun t25 t25_1 w2 =>nw qaw [(.int .i64 0),(.int .i64 0),(.int .i64 0),(.int .i64 0),(.int .i64 0)] w2 fun hx w3 =>stK hx (T_png_Head.rep.cells t25) w3 fun w4 =>cond (t25_1 !=(0:Int)) (K none t25_1 w4) (ldI .i64 (hx.add 0) w4 fun t34 =>ldI .i64 (hx.add 1) w4 fun t36 =>cond (decide ((IntKind.i64.wrap (t34*t36))>(if (67108864:Int)<pixels then (67108864:Int) else pixels))) (K none 5 w4) (ldS T_png_Head.rep hx w4 fun t41 =>nw qjy [(.int .i64 t41.W),(.int .i64 t41.H),(.int .i64 t41.Depth),(.int .i64 t41.Color),(.int .i64 t41.Lace),(.slice none 0 0),(.slice none 0 0),(.bool false),(.bool false),(.slice none 0 0),(.bool false),(.bool false)] w4 fun t43 w5 =>slK t15 (some 1) none 2 fun t45 =>loopP (σ:=Int×Unit) (fun I1 s w6 =>cond (decide (s.1<((t45.n:Nat):Int))) (ixK t45 s.1 2 fun t49 =>ldS T_png_Chunk.rep t49 w6 fun t50 =>nw qa5 [(.string (⟨#[]⟩:ByteArray)),(.slice none 0 0)] w6 fun c w7 =>stK c (T_png_Chunk.rep.cells t50) w7 fun w8 =>ldS T_png_Chunk.rep c w8 fun t52 =>qld (some t43) t52 w8 fun t53 w9 =>cond (t53 !=(0:Int)) (K none t53 w9) (I1 ((IntKind.i64.wrap (s.1+(1:Int))),()) w9)) (ldB (t43.add 10) w6 fun t61 =>cond (!t61) (K none 3 w6) (ldI .i64 (hx.add 3) w6 fun t65 =>cond (t65==(3:Int)) (ldB (t43.add 7) w6 fun t71 =>cond (!t71) (K none 3 w6) (K (some t43) 0 w6)) (K (some t43) 0 w6)))) (0,()) w5)))
def zcu:List Ann:=[.none,.none,.none,.none,.none,.none,.none,.none,.none,.none,.none,.none,.none,.none,.join [(47,(Kind.int .i64))] [4,5,11,12,47,48,49,50,51,52,53,54,55,56,57],.none,.none,.none,.none,.none,.none,.none,.none,.none,.none,.none]
theorem zen (b:Slc) (pixels:Int) (w:World) (K:Option Addr→Int→World→Prop) :
  vcFn C (Tryz.f63.body.getD .skip) Tryz.f63.results.toList Tryz.f63.ntmps zcu [Kind.ptr,(Kind.int .i64)] [(.slice b.a b.n b.c),(.int .i64 pixels)] w (fun s w=>K s.1 s.2.1 w)=qr4 b pixels w K:=by kernel_rfl
theorem q73 (b:Slc) (pixels:Int) {w:World} {K:Option Addr→Int→World→Prop} (h:qr4 b pixels w K):qtz b pixels w K:=by
 rw [←zen] at h
 refine Calls.mono (cvc C.plain_ok C.mixed Tryz.func63 rfl h) ?_
 rintro e w' ⟨s,rfl,hK⟩
 exact ⟨s.1,s.2.1,rfl,hK⟩
def qkm (hx:T_png_Head) (w:World) (K:Int→World→Prop):Prop :=nw qaw (T_png_Head.rep.cells hx) w fun hx_1 w1 =>nw qbf [(.int .i64 0)] w1 fun n w2 =>stK n [(.int .i64 0)] w2 fun w3 =>ldS T_png_Head.rep hx_1 w3 fun t4 =>qdk t4 ((.func (.func qyp) #[] #[(.pointer (some n)),(.pointer (some hx_1))]):Value) w3 fun t6 w4 =>ldI .i64 n w4 fun t7 =>K t7 w4
def q1d:List Ann:=[.none,.none,.none,.none]
theorem q1w (hx:T_png_Head) (w:World) (K:Int→World→Prop) :
  vcFn C (Tryz.f64.body.getD .skip) Tryz.f64.results.toList Tryz.f64.ntmps q1d [(Kind.int .i64)] [(.agg #[(.int .i64 hx.W),(.int .i64 hx.H),(.int .i64 hx.Depth),(.int .i64 hx.Color),(.int .i64 hx.Lace)])] w (fun s w=>K s.1 w)=qkm hx w K:=by kernel_rfl
theorem qwn (hx:T_png_Head) {w:World} {K:Int→World→Prop} (h:qkm hx w K):qlx hx w K:=by
 rw [←q1w] at h
 refine Calls.mono (cvc C.plain_ok C.mixed Tryz.func64 rfl h) ?_
 rintro e w' ⟨s,rfl,hK⟩
 exact ⟨s.1,rfl,hK⟩
def qmj (b:Slc) (most:Int) (w:World) (K:Slc→Int→Int→World→Prop):Prop :=q4d most w fun t12 t12_1 w1 =>cond (t12_1 !=(0:Int)) (K (⟨none,0,0⟩:Slc) 0 t12_1 w1) (qgt t12 b w1 fun t21 t21_1 w2 =>cond (t21_1 !=(0:Int)) (K (⟨none,0,0⟩:Slc) 0 t21_1 w2) (qhn t12 w2 fun t30 w3 =>cond (!t30) (K (⟨none,0,0⟩:Slc) 0 2 w3) (qhi t12 w3 fun t34 w4 =>K t21 t34 0 w4)))
def q5h:List Ann:=[.none,.none,.none,.none,.none,.none,.none,.none,.none,.none,.none,.none]
theorem q58 (b:Slc) (most:Int) (w:World) (K:Slc→Int→Int→World→Prop) :
  vcFn C (Tryz.f65.body.getD .skip) Tryz.f65.results.toList Tryz.f65.ntmps q5h [Kind.slice,(Kind.int .i64),(Kind.int .i64)] [(.slice b.a b.n b.c),(.int .i64 most)] w (fun s w=>K s.1 s.2.1 s.2.2.1 w)=qmj b most w K:=by kernel_rfl
theorem q1t (b:Slc) (most:Int) {w:World} {K:Slc→Int→Int→World→Prop} (h:qmj b most w K):qno b most w K:=by
 rw [←q58] at h
 refine Calls.mono (cvc C.plain_ok C.mixed Tryz.func65 rfl h) ?_
 rintro e w' ⟨s,rfl,hK⟩
 exact ⟨s.1,s.2.1,s.2.2.1,rfl,hK⟩
def qhw (f:Option Addr) (b:Slc) (w:World) (K:T_api_Matrix→Int→World→Prop):Prop :=nw qnm [(.pointer f)] w fun f_1 w1 =>nw qaa [(.slice b.a b.n b.c)] w1 fun b_1 w2 =>nw qat [(.int .i64 0),(.int .i64 0),(.slice none 0 0)] w2 fun t4 w3 =>ldP f_1 w3.drew fun t13 =>onPtr t13 fun t14 =>ldI .i64 ((t14.add 0).add 0) w3.drew fun t17 =>ldP f_1 w3.drew fun t18 =>onPtr t18 fun t19 =>ldI .i64 ((t19.add 0).add 1) w3.drew fun t22 =>(qm2 t17 t22 w3.drew fun t23 t23_1 w4 =>nw qat [(.int .i64 0),(.int .i64 0),(.slice none 0 0)] w4 fun m w5 =>World.cell? w5 ((t19.add 0).add 1)=some (.int .i64 t22) ∧World.cell? w5 f_1=some (.pointer t18) ∧World.cell? w5 ((t14.add 0).add 0)=some (.int .i64 t17) ∧World.cell? w5 f_1=some (.pointer t13) ∧stK m (T_api_Matrix.rep.cells t23) w5 fun w6 =>ldP f_1 w6 fun t26 =>onPtr t26 fun t27 =>ldI .i64 ((t27.add 0).add 3) w6 fun t30 =>qdw t30 w6 fun t31 w7 =>nw qbf [(.int .i64 0)] w7 fun n w8 =>stK n [(.int .i64 t31)] w8 fun w9 =>ldI .i64 n w9.drew fun t32 =>ldP f_1 w9.drew fun t33 =>onPtr t33 fun t34 =>ldI .i64 ((t34.add 0).add 2) w9.drew fun t37 =>(8:Int)≠0 ∧nw qbf [(.int .i64 0)] w9.drew fun step w10 =>World.cell? w10 ((t34.add 0).add 2)=some (.int .i64 t37) ∧World.cell? w10 f_1=some (.pointer t33) ∧World.cell? w10 n=some (.int .i64 t32) ∧stK step [(.int .i64 (IntKind.i64.wrap ((IntKind.i64.wrap ((IntKind.i64.wrap (t32*t37))+(7:Int))).tdiv (8:Int))))] w10 fun w11 =>nw qaa [(.slice none 0 0)] w11 fun ahead w12 =>ldP f_1 w12 fun t41 =>onPtr t41 fun t42 =>ldS T_png_Head.rep (t42.add 0) w12 fun t44 =>qdk t44 ((.func (.func qgz) #[] #[(.pointer (some n)),(.pointer (some f_1)),(.pointer (some ahead)),(.pointer (some b_1)),(.pointer (some step)),(.pointer (some m))]):Value) w12 fun t46 w13 =>cond (!t46) (stK t4 [(.int .i64 0),(.int .i64 0),(.slice none 0 0)] w13 fun w14 =>ldS T_api_Matrix.rep t4 w14 fun r =>K r 3 w14) (ldS T_api_Matrix.rep m w13 fun t50 =>stK t4 (T_api_Matrix.rep.cells t50) w13 fun w15 =>ldS T_api_Matrix.rep t4 w15 fun r_1 =>K r_1 0 w15)) ∧nw qat [(.int .i64 0),(.int .i64 0),(.slice none 0 0)] w3.drew fun m_1 w16 =>World.cell? w16 ((t19.add 0).add 1)=some (.int .i64 t22) ∧World.cell? w16 f_1=some (.pointer t18) ∧World.cell? w16 ((t14.add 0).add 0)=some (.int .i64 t17) ∧World.cell? w16 f_1=some (.pointer t13) ∧qm2 t17 t22 w16 fun t23_2 t23_3 w17 =>stK m_1 (T_api_Matrix.rep.cells t23_2) w17 fun w18 =>ldP f_1 w18 fun t26_1 =>onPtr t26_1 fun t27_1 =>ldI .i64 ((t27_1.add 0).add 3) w18 fun t30_1 =>qdw t30_1 w18 fun t31_1 w19 =>nw qbf [(.int .i64 0)] w19 fun n_1 w20 =>stK n_1 [(.int .i64 t31_1)] w20 fun w21 =>ldI .i64 n_1 w21.drew fun t32_1 =>ldP f_1 w21.drew fun t33_1 =>onPtr t33_1 fun t34_1 =>ldI .i64 ((t34_1.add 0).add 2) w21.drew fun t37_1 =>(8:Int)≠0 ∧nw qbf [(.int .i64 0)] w21.drew fun step_1 w22 =>World.cell? w22 ((t34_1.add 0).add 2)=some (.int .i64 t37_1) ∧World.cell? w22 f_1=some (.pointer t33_1) ∧World.cell? w22 n_1=some (.int .i64 t32_1) ∧stK step_1 [(.int .i64 (IntKind.i64.wrap ((IntKind.i64.wrap ((IntKind.i64.wrap (t32_1*t37_1))+(7:Int))).tdiv (8:Int))))] w22 fun w23 =>nw qaa [(.slice none 0 0)] w23 fun ahead_1 w24 =>ldP f_1 w24 fun t41_1 =>onPtr t41_1 fun t42_1 =>ldS T_png_Head.rep (t42_1.add 0) w24 fun t44_1 =>qdk t44_1 ((.func (.func qgz) #[] #[(.pointer (some n_1)),(.pointer (some f_1)),(.pointer (some ahead_1)),(.pointer (some b_1)),(.pointer (some step_1)),(.pointer (some m_1))]):Value) w24 fun t46_1 w25 =>cond (!t46_1) (stK t4 [(.int .i64 0),(.int .i64 0),(.slice none 0 0)] w25 fun w26 =>ldS T_api_Matrix.rep t4 w26 fun r_2 =>K r_2 3 w26) (ldS T_api_Matrix.rep m_1 w25 fun t50_1 =>stK t4 (T_api_Matrix.rep.cells t50_1) w25 fun w27 =>ldS T_api_Matrix.rep t4 w27 fun r_3 =>K r_3 0 w27)
def qwq:List Ann:=[.none,.none,.none,.none,.none,.none,.none,.none,.none,.none]
theorem qwy (f:Option Addr) (b:Slc) (w:World) (K:T_api_Matrix→Int→World→Prop) :
  vcFn C (Tryz.f66.body.getD .skip) Tryz.f66.results.toList Tryz.f66.ntmps qwq [(Kind.struct T_api_Matrix.rep),(Kind.int .i64)] [(.pointer f),(.slice b.a b.n b.c)] w (fun s w=>K s.1 s.2.1 w)=qhw f b w K:=by kernel_rfl
theorem qtr (f:Option Addr) (b:Slc) {w:World} {K:T_api_Matrix→Int→World→Prop} (h:qhw f b w K):qjp f b w K:=by
 rw [←qwy] at h
 refine Calls.mono (cvc C.plain_ok C.mixed Tryz.func66 rfl h) ?_
 rintro e w' ⟨s,rfl,hK⟩
 exact ⟨s.1,s.2.1,rfl,hK⟩
def qi8 (f:Option Addr) (w:World) (K:Slc→World→Prop):Prop :=onPtr f fun t4 =>ldI .i64 ((t4.add 0).add 4) w fun t7 =>cond (t7==(1:Int)) (qr2  w fun t9 w1 =>K t9 w1) (nw qeq [(.int .i64 0),(.int .i64 0),(.int .i64 1),(.int .i64 1)] w fun t11 w2 =>K (⟨(some t11),1,1⟩:Slc) w2)
def qzv:List Ann:=[.none,.none,.none,.none,.none]
theorem q0f (f:Option Addr) (w:World) (K:Slc→World→Prop) :
  vcFn C (Tryz.f67.body.getD .skip) Tryz.f67.results.toList Tryz.f67.ntmps qzv [Kind.slice] [(.pointer f)] w (fun s w=>K s.1 w)=qi8 f w K:=by kernel_rfl
theorem qvy (f:Option Addr) {w:World} {K:Slc→World→Prop} (h:qi8 f w K):qd0 f w K:=by
 rw [←q0f] at h
 refine Calls.mono (cvc C.plain_ok C.mixed Tryz.func67 rfl h) ?_
 rintro e w' ⟨s,rfl,hK⟩
 exact ⟨s.1,rfl,hK⟩
def qtw (p:T_q8_Pass) (wx:Int) (hx:Int) (w:World) (K:Int→Int→World→Prop):Prop :=nw qeq (T_q8_Pass.rep.cells p) w fun p_1 w1 =>joinP (σ:=Unit) (fun s w2 =>ldI .i64 (p_1.add 0) w2.drew fun t56 =>ldI .i64 (p_1.add 2) w2.drew fun t60 =>t60≠0 ∧ldI .i64 (p_1.add 1) w2.drew fun t65 =>ldI .i64 (p_1.add 3) w2.drew fun t69 =>t69≠0 ∧K (IntKind.i64.wrap ((IntKind.i64.wrap ((IntKind.i64.wrap ((IntKind.i64.wrap (wx-t56))-(1:Int))).tdiv t60))+(1:Int))) (IntKind.i64.wrap ((IntKind.i64.wrap ((IntKind.i64.wrap ((IntKind.i64.wrap (hx-t65))-(1:Int))).tdiv t69))+(1:Int))) w2.drew) fun J1 =>cond (decide (wx<(1:Int))) (K 0 0 w1) (cond (decide (wx>(16384:Int))) (K 0 0 w1) (cond (decide (hx<(1:Int))) (K 0 0 w1) (cond (decide (hx>(16384:Int))) (K 0 0 w1) (ldI .i64 (p_1.add 2) w1 fun t24 =>cond (decide (t24<(1:Int))) (K 0 0 w1) (ldI .i64 (p_1.add 3) w1 fun t29 =>cond (decide (t29<(1:Int))) (K 0 0 w1) (ldI .i64 (p_1.add 0) w1 fun t34 =>cond (decide (t34<(0:Int))) (K 0 0 w1) (ldI .i64 (p_1.add 1) w1 fun t39 =>cond (decide (t39<(0:Int))) (K 0 0 w1) (ldI .i64 (p_1.add 0) w1 fun t44 =>cond (decide (t44≥wx)) (K 0 0 w1) (ldI .i64 (p_1.add 1) w1 fun t50 =>cond (decide (t50≥hx)) (K 0 0 w1) (J1 (()) w1))))))))))
def zg3:List Ann:=[.none,.join [] [6,7,8,9,10,11,12,13,14,15,16,17,18,19,20,21,22,23,24,25,26,27,28,29,30,31,32,33,34,35,36,37,38,39,40,41,42,43,44,45,46,47,48,49,50,51,52,53],.none,.none,.none]
theorem zfi (p:T_q8_Pass) (wx:Int) (hx:Int) (w:World) (K:Int→Int→World→Prop) :
  vcFn C (Tryz.f68.body.getD .skip) Tryz.f68.results.toList Tryz.f68.ntmps zg3 [(Kind.int .i64),(Kind.int .i64)] [(.agg #[(.int .i64 p.X),(.int .i64 p.Y),(.int .i64 p.DX),(.int .i64 p.DY)]),(.int .i64 wx),(.int .i64 hx)] w (fun s w=>K s.1 s.2.1 w)=qtw p wx hx w K:=by kernel_rfl
theorem zbu (p:T_q8_Pass) (wx:Int) (hx:Int) {w:World} {K:Int→Int→World→Prop} (h:qtw p wx hx w K):qkz p wx hx w K:=by
 rw [←zfi] at h
 refine Calls.mono (cvc C.plain_ok C.mixed Tryz.func68 rfl h) ?_
 rintro e w' ⟨s,rfl,hK⟩
 exact ⟨s.1,s.2.1,rfl,hK⟩
def qut (kind:Int) (row:Slc) (ahead:Slc) (step:Int) (undo:Bool) (w:World) (K:Slc→Int→World→Prop):Prop :=joinP (σ:=Unit) (fun s w1 =>mkSl PG qaa (.int .i64 ((row.n:Nat):Int)) (.int .i64 ((row.n:Nat):Int)) w1 fun t46 w2 =>loopP (σ:=Int×Unit) (fun I2 s_1 w3 =>cond (decide (s_1.1<((row.n:Nat):Int))) (joinP (σ:=Int×Unit) (fun s_2 w4 =>joinP (σ:=Int×Int×Unit) (fun s_3 w5 =>qth kind s_2.1 s_3.1 s_3.2.1 w5 fun t89 w6 =>cond undo (ixK row s_1.1 1 fun t95 =>ldI .u8 t95 w6 fun t96 =>ixK t46 s_1.1 1 fun t99 =>stK t99 [(.int .u8 (IntKind.u8.wrap (t96+t89)))] w6 fun w7 =>I2 ((IntKind.i64.wrap (s_1.1+(1:Int))),()) w7) (ixK row s_1.1 1 fun t104 =>ldI .u8 t104 w6 fun t105 =>ixK t46 s_1.1 1 fun t108 =>stK t108 [(.int .u8 (IntKind.u8.wrap (t105-t89)))] w6 fun w8 =>I2 ((IntKind.i64.wrap (s_1.1+(1:Int))),()) w8)) fun J4 =>cond (decide (((ahead.n:Nat):Int)>(0:Int))) (ixK ahead s_1.1 1 fun t74 =>ldI .u8 t74 w4 fun t75 =>cond (decide (s_1.1≥step)) (ixK ahead (IntKind.i64.wrap (s_1.1-step)) 1 fun t83 =>ldI .u8 t83 w4 fun t84 =>J4 (t75,t84,()) w4) (J4 (t75,0,()) w4)) (J4 (0,0,()) w4)) fun J3 =>cond (decide (s_1.1≥step)) (ixK row (IntKind.i64.wrap (s_1.1-step)) 1 fun t60 =>ldI .u8 t60 w3 fun t61 =>cond undo (ixK t46 (IntKind.i64.wrap (s_1.1-step)) 1 fun t67 =>ldI .u8 t67 w3 fun t68 =>J3 (t68,()) w3) (J3 (t61,()) w3)) (J3 (0,()) w3)) (K t46 0 w3)) (0,()) w2) fun J1 =>cond (decide (kind<(0:Int))) (K (⟨none,0,0⟩:Slc) 1 w) (cond (decide (kind>(4:Int))) (K (⟨none,0,0⟩:Slc) 1 w) (cond (decide (step<(1:Int))) (K (⟨none,0,0⟩:Slc) 1 w) (cond (decide (step>(8:Int))) (K (⟨none,0,0⟩:Slc) 1 w) (cond (((ahead.n:Nat):Int) !=(0:Int)) (cond (((ahead.n:Nat):Int) !=((row.n:Nat):Int)) (K (⟨none,0,0⟩:Slc) 1 w) (J1 (()) w)) (J1 (()) w)))))
def zfr:List Ann:=[.none,.join [] [10,11,18,19,20,21,22,23,24,25,26,27,28,29,30,31,32,33,34,35,36,37,38,39,40,41,42,43],.none,.none,.none,.none,.none,.join [(13,(Kind.int .i64))] [13,14,15,16,17,47,48,49,50,51,52,53,54,55,56,57,58,59,60,61,62,63,64,65,66,67,68,69,70,71,72,73,74,75,76,77,78,79,80,81,82,83,84,85,86,87,88,89,90,91,92,93,94,95,96,97,98,99,100,101,102,103,104,105,106,107,108],.none,.none,.none,.none,.none,.none,.join [(14,(Kind.int .u8))] [14,53,54,55,56,57,58,59,60,61,62,63,64,65,66,67,68],.none,.none,.none,.join [(15,(Kind.int .u8)),(16,(Kind.int .u8))] [15,16,69,70,71,72,73,74,75,76,77,78,79,80,81,82,83,84],.none,.none,.none,.none,.none,.none]
theorem zgx (kind:Int) (row:Slc) (ahead:Slc) (step:Int) (undo:Bool) (w:World) (K:Slc→Int→World→Prop) :
  vcFn C (Tryz.f70.body.getD .skip) Tryz.f70.results.toList Tryz.f70.ntmps zfr [Kind.slice,(Kind.int .i64)] [(.int .i64 kind),(.slice row.a row.n row.c),(.slice ahead.a ahead.n ahead.c),(.int .i64 step),(.bool undo)] w (fun s w=>K s.1 s.2.1 w)=qut kind row ahead step undo w K:=by kernel_rfl
theorem zbq (kind:Int) (row:Slc) (ahead:Slc) (step:Int) (undo:Bool) {w:World} {K:Slc→Int→World→Prop} (h:qut kind row ahead step undo w K):qm3 kind row ahead step undo w K:=by
 rw [←zgx] at h
 refine Calls.mono (cvc C.plain_ok C.mixed Tryz.func70 rfl h) ?_
 rintro e w' ⟨s,rfl,hK⟩
 exact ⟨s.1,s.2.1,rfl,hK⟩
def qrn (b:Slc) (f:Value) (w:World) (K:Int→World→Prop):Prop :=qln  w fun t10 w1 =>slK b none (some (if ((t10.n:Nat):Int)<((b.n:Nat):Int) then ((t10.n:Nat):Int) else ((b.n:Nat):Int))) 1 fun t19 =>slK t10 none (some (if ((t10.n:Nat):Int)<((b.n:Nat):Int) then ((t10.n:Nat):Int) else ((b.n:Nat):Int))) 1 fun t22 =>qnp t19 t22 w1.drew fun t23 w2 =>cond (!t23) (K 3 w2) (cond (decide ((if ((t10.n:Nat):Int)<((b.n:Nat):Int) then ((t10.n:Nat):Int) else ((b.n:Nat):Int))<((t10.n:Nat):Int))) (K 2 w2) (slK b (some ((t10.n:Nat):Int)) none 1 fun t33 =>loopP (σ:=Slc×Unit) (fun I1 s w3 =>qrp s.1 w3 fun t36 t36_1 t36_2 w4 =>nw qa5 [(.string (⟨#[]⟩:ByteArray)),(.slice none 0 0)] w4 fun c w5 =>stK c (T_png_Chunk.rep.cells t36) w5 fun w6 =>cond (t36_2 !=(0:Int)) (K t36_2 w6) (ldS T_png_Chunk.rep c w6 fun t44 =>callR C f [(.agg #[(.string t44.Kind),(.slice t44.Data.a t44.Data.n t44.Data.c)])] [Kind.bool] w6 fun (t45:Bool) w7 =>cond (!t45) (K 0 w7) (slK s.1 (some t36_1) none 1 fun t49 =>I1 (t49,()) w7))) (t33,()) w2))
def zdt:List Ann:=[.none,.none,.none,.none,.none,.none,.none,.none,.none,.join [(0,Kind.slice)] [0,4,7,8,9,34,35,36,37,38,39,40,41,42,43,44,45,46,47,48,49],.none,.none,.none,.none,.none,.none,.none]
theorem zcc (b:Slc) (f:Value) (w:World) (K:Int→World→Prop) :
  vcFn C (Tryz.f72.body.getD .skip) Tryz.f72.results.toList Tryz.f72.ntmps zdt [(Kind.int .i64)] [(.slice b.a b.n b.c),f] w (fun s w=>K s.1 w)=qrn b f w K:=by kernel_rfl
theorem q8m (b:Slc) (f:Value) {w:World} {K:Int→World→Prop} (h:qrn b f w K):qol b f w K:=by
 rw [←zcc] at h
 refine Calls.mono (cvc C.plain_ok C.mixed Tryz.func72 rfl h) ?_
 rintro e w' ⟨s,rfl,hK⟩
 exact ⟨s.1,rfl,hK⟩
def qnj (c:T_png_Chunk) (c0:Addr) (w:World) (K:Bool→World→Prop):Prop :=nw qa5 (T_png_Chunk.rep.cells c) w fun c_1 w1 =>ldS T_png_Chunk.rep c_1 w1 fun t4 =>stK c0 (T_png_Chunk.rep.cells t4) w1 fun w2 =>K false w2
def q8d:List Ann:=[.none,.none,.none]
theorem q8o (c:T_png_Chunk) (c0:Addr) (w:World) (K:Bool→World→Prop) :
  vcFn C (Tryz.f73.body.getD .skip) Tryz.f73.results.toList Tryz.f73.ntmps q8d [Kind.bool] [(.agg #[(.string c.Kind),(.slice c.Data.a c.Data.n c.Data.c)]),(.pointer (some c0))] w (fun s w=>K s.1 w)=qnj c c0 w K:=by kernel_rfl
theorem q3b (c:T_png_Chunk) (c0:Addr) {w:World} {K:Bool→World→Prop} (h:qnj c c0 w K):qxy c c0 w K:=by
 rw [←q8o] at h
 refine Calls.mono (cvc C.plain_ok C.mixed Tryz.func73 rfl h) ?_
 rintro e w' ⟨s,rfl,hK⟩
 exact ⟨s.1,rfl,hK⟩
def qry (c:T_png_Chunk) (w:World) (K:T_png_Head→Int→World→Prop):Prop :=nw qa5 (T_png_Chunk.rep.cells c) w fun c_1 w1 =>nw qaw [(.int .i64 0),(.int .i64 0),(.int .i64 0),(.int .i64 0),(.int .i64 0)] w1 fun t2 w2 =>ldSl (c_1.add 1) w2 fun t8 =>joinP (σ:=Unit) (fun s w3 =>slK t8 (some 4) none 1 fun t34 =>ixK t8 8 1 fun t38 =>ldI .u8 t38 w3.drew fun t39 =>ixK t8 9 1 fun t42 =>ldI .u8 t42 w3.drew fun t43 =>ixK t8 12 1 fun t46 =>ldI .u8 t46 w3.drew fun t47 =>(qcf t8 w3.drew fun t31 w4 =>World.cell? w4 t46=some (.int .u8 t47) ∧World.cell? w4 t42=some (.int .u8 t43) ∧World.cell? w4 t38=some (.int .u8 t39) ∧(qcf t34 w4 fun t35 w5 =>World.cell? w5 t46=some (.int .u8 t47) ∧World.cell? w5 t42=some (.int .u8 t43) ∧World.cell? w5 t38=some (.int .u8 t39) ∧nw qaw [(.int .i64 0),(.int .i64 0),(.int .i64 0),(.int .i64 0),(.int .i64 0)] w5 fun hx w6 =>World.cell? w6 t46=some (.int .u8 t47) ∧World.cell? w6 t42=some (.int .u8 t43) ∧World.cell? w6 t38=some (.int .u8 t39) ∧stK hx [(.int .i64 (IntKind.i64.wrap t31)),(.int .i64 (IntKind.i64.wrap t35)),(.int .i64 (IntKind.i64.wrap t39)),(.int .i64 (IntKind.i64.wrap t43)),(.int .i64 (IntKind.i64.wrap t47))] w6 fun w7 =>ldS T_png_Head.rep hx w7 fun t50 =>qhf t50 w7 fun t51 w8 =>cond (t51 !=(0:Int)) (stK t2 [(.int .i64 0),(.int .i64 0),(.int .i64 0),(.int .i64 0),(.int .i64 0)] w8 fun w9 =>ldS T_png_Head.rep t2 w9 fun r =>K r t51 w9) (ldS T_png_Head.rep hx w8 fun t56 =>stK t2 (T_png_Head.rep.cells t56) w8 fun w10 =>ldS T_png_Head.rep t2 w10 fun r_1 =>K r_1 0 w10)) ∧nw qaw [(.int .i64 0),(.int .i64 0),(.int .i64 0),(.int .i64 0),(.int .i64 0)] w4 fun hx_1 w11 =>World.cell? w11 t46=some (.int .u8 t47) ∧World.cell? w11 t42=some (.int .u8 t43) ∧World.cell? w11 t38=some (.int .u8 t39) ∧qcf t34 w11 fun t35_1 w12 =>World.cell? w12 t46=some (.int .u8 t47) ∧World.cell? w12 t42=some (.int .u8 t43) ∧World.cell? w12 t38=some (.int .u8 t39) ∧stK hx_1 [(.int .i64 (IntKind.i64.wrap t31)),(.int .i64 (IntKind.i64.wrap t35_1)),(.int .i64 (IntKind.i64.wrap t39)),(.int .i64 (IntKind.i64.wrap t43)),(.int .i64 (IntKind.i64.wrap t47))] w12 fun w13 =>ldS T_png_Head.rep hx_1 w13 fun t50_1 =>qhf t50_1 w13 fun t51_1 w14 =>cond (t51_1 !=(0:Int)) (stK t2 [(.int .i64 0),(.int .i64 0),(.int .i64 0),(.int .i64 0),(.int .i64 0)] w14 fun w15 =>ldS T_png_Head.rep t2 w15 fun r_2 =>K r_2 t51_1 w15) (ldS T_png_Head.rep hx_1 w14 fun t56_1 =>stK t2 (T_png_Head.rep.cells t56_1) w14 fun w16 =>ldS T_png_Head.rep t2 w16 fun r_3 =>K r_3 0 w16)) ∧nw qaw [(.int .i64 0),(.int .i64 0),(.int .i64 0),(.int .i64 0),(.int .i64 0)] w3.drew fun hx_2 w17 =>World.cell? w17 t46=some (.int .u8 t47) ∧World.cell? w17 t42=some (.int .u8 t43) ∧World.cell? w17 t38=some (.int .u8 t39) ∧qcf t8 w17 fun t31_1 w18 =>World.cell? w18 t46=some (.int .u8 t47) ∧World.cell? w18 t42=some (.int .u8 t43) ∧World.cell? w18 t38=some (.int .u8 t39) ∧qcf t34 w18 fun t35_2 w19 =>World.cell? w19 t46=some (.int .u8 t47) ∧World.cell? w19 t42=some (.int .u8 t43) ∧World.cell? w19 t38=some (.int .u8 t39) ∧stK hx_2 [(.int .i64 (IntKind.i64.wrap t31_1)),(.int .i64 (IntKind.i64.wrap t35_2)),(.int .i64 (IntKind.i64.wrap t39)),(.int .i64 (IntKind.i64.wrap t43)),(.int .i64 (IntKind.i64.wrap t47))] w19 fun w20 =>ldS T_png_Head.rep hx_2 w20 fun t50_2 =>qhf t50_2 w20 fun t51_2 w21 =>cond (t51_2 !=(0:Int)) (stK t2 [(.int .i64 0),(.int .i64 0),(.int .i64 0),(.int .i64 0),(.int .i64 0)] w21 fun w22 =>ldS T_png_Head.rep t2 w22 fun r_4 =>K r_4 t51_2 w22) (ldS T_png_Head.rep hx_2 w21 fun t56_2 =>stK t2 (T_png_Head.rep.cells t56_2) w21 fun w23 =>ldS T_png_Head.rep t2 w23 fun r_5 =>K r_5 0 w23)) fun J1 =>joinP (σ:=Bool×Unit) (fun s_1 w24 =>cond s_1.1 (stK t2 [(.int .i64 0),(.int .i64 0),(.int .i64 0),(.int .i64 0),(.int .i64 0)] w24 fun w25 =>ldS T_png_Head.rep t2 w25 fun r_6 =>K r_6 3 w25) (J1 (()) w24)) fun J2 =>ldStr (c_1.add 0) w2 fun t10 =>cond (!(t10.toList==(⟨#[73,72,68,82]⟩:ByteArray).toList)) (J2 (true,()) w2) (cond (((t8.n:Nat):Int) !=(13:Int)) (J2 (true,()) w2) (ixK t8 10 1 fun t19 =>ldI .u8 t19 w2 fun t20 =>cond (t20 !=(0:Int)) (J2 (true,()) w2) (ixK t8 11 1 fun t25 =>ldI .u8 t25 w2 fun t26 =>J2 ((t26 !=(0:Int)),()) w2)))
def zc2:List Ann:=[.none,.none,.join [] [3,9,10,11,12,13,14,15,16,17,18,19,20,21,22,23,24,25,26,27,28,29],.join [(28,Kind.bool)] [9,10,11,12,13,14,15,16,17,18,19,20,21,22,23,24,25,26,27,28],.none,.none,.none,.none,.none,.none,.none]
theorem zcf (c:T_png_Chunk) (w:World) (K:T_png_Head→Int→World→Prop) :
  vcFn C (Tryz.f74.body.getD .skip) Tryz.f74.results.toList Tryz.f74.ntmps zc2 [(Kind.struct T_png_Head.rep),(Kind.int .i64)] [(.agg #[(.string c.Kind),(.slice c.Data.a c.Data.n c.Data.c)])] w (fun s w=>K s.1 s.2.1 w)=qry c w K:=by kernel_rfl
theorem q74 (c:T_png_Chunk) {w:World} {K:T_png_Head→Int→World→Prop} (h:qry c w K):qos c w K:=by
 rw [←zcf] at h
 refine Calls.mono (cvc C.plain_ok C.mixed Tryz.func74 rfl h) ?_
 rintro e w' ⟨s,rfl,hK⟩
 exact ⟨s.1,s.2.1,rfl,hK⟩
def qll (c:T_png_Chunk) (c0:Addr) (w:World) (K:Bool→World→Prop):Prop :=nw qa5 (T_png_Chunk.rep.cells c) w fun c_1 w1 =>ldSl c0 w1 fun t4 =>ldS T_png_Chunk.rep c_1 w1 fun t5 =>nw qa5 [(.string t5.Kind),(.slice t5.Data.a t5.Data.n t5.Data.c)] w1 fun t6 w2 =>apK PG #[qdj,qdj] qdj t4 (⟨(some t6),1,1⟩:Slc) w2 fun t7 w3 =>stK c0 [(.slice t7.a t7.n t7.c)] w3 fun w4 =>ldStr (c_1.add 0) w4 fun t9 =>K (!(t9.toList==(⟨#[73,69,78,68]⟩:ByteArray).toList)) w4
def q5b:List Ann:=[.none,.none,.none]
theorem q3d (c:T_png_Chunk) (c0:Addr) (w:World) (K:Bool→World→Prop) :
  vcFn C (Tryz.f75.body.getD .skip) Tryz.f75.results.toList Tryz.f75.ntmps q5b [Kind.bool] [(.agg #[(.string c.Kind),(.slice c.Data.a c.Data.n c.Data.c)]),(.pointer (some c0))] w (fun s w=>K s.1 w)=qll c c0 w K:=by kernel_rfl
theorem qzc (c:T_png_Chunk) (c0:Addr) {w:World} {K:Bool→World→Prop} (h:qll c c0 w K):qsu c c0 w K:=by
 rw [←q3d] at h
 refine Calls.mono (cvc C.plain_ok C.mixed Tryz.func75 rfl h) ?_
 rintro e w' ⟨s,rfl,hK⟩
 exact ⟨s.1,rfl,hK⟩
end Go.Proofs.YtmagnpcgpinmcaaGreat
