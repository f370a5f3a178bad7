import Derived.Test.YtmagnpcgpinmcaaGreatDefs
set_option maxRecDepth 100000
set_option linter.unusedVariables false
namespace Go.Proofs.YtmagnpcgpinmcaaGreat
open Go.Vc
def qk4 (l:Slc) (pixels:Int) (w:World) (K:Bool→World→Prop):Prop :=qtq  w fun t6 w1 =>cond (!t6) (K false w1) (joinP (σ:=Unit) (fun s w2 =>qig l w2 fun t16 w3 =>(runK1 PG (convert qaa qa1 (.slice t16.a t16.n t16.c)) Kind.string w3.drew fun (t18:ByteArray) w4 =>qyv l w4 fun t20 w5 =>qmq t20 w5 fun t21 w6 =>runK1 PG (convert qaa qa1 (.slice t21.a t21.n t21.c)) Kind.string w6 fun (t22:ByteArray) w7 =>cond (t18.toList==t22.toList) (qib t16 pixels w7 fun t27 w8 =>K t27 w8) (K false w7)) ∧qyv l w3.drew fun t20_1 w9 =>(runK1 PG (convert qaa qa1 (.slice t16.a t16.n t16.c)) Kind.string w9 fun (t18_1:ByteArray) w10 =>qmq t20_1 w10 fun t21_1 w11 =>runK1 PG (convert qaa qa1 (.slice t21_1.a t21_1.n t21_1.c)) Kind.string w11 fun (t22_1:ByteArray) w12 =>cond (t18_1.toList==t22_1.toList) (qib t16 pixels w12 fun t27_1 w13 =>K t27_1 w13) (K false w12)) ∧qmq t20_1 w9 fun t21_2 w14 =>(runK1 PG (convert qaa qa1 (.slice t16.a t16.n t16.c)) Kind.string w14 fun (t18_2:ByteArray) w15 =>runK1 PG (convert qaa qa1 (.slice t21_2.a t21_2.n t21_2.c)) Kind.string w15 fun (t22_2:ByteArray) w16 =>cond (t18_2.toList==t22_2.toList) (qib t16 pixels w16 fun t27_2 w17 =>K t27_2 w17) (K false w16)) ∧runK1 PG (convert qaa qa1 (.slice t21_2.a t21_2.n t21_2.c)) Kind.string w14 fun (t22_3:ByteArray) w18 =>runK1 PG (convert qaa qa1 (.slice t16.a t16.n t16.c)) Kind.string w18 fun (t18_3:ByteArray) w19 =>cond (t18_3.toList==t22_3.toList) (qib t16 pixels w19 fun t27_3 w20 =>K t27_3 w20) (K false w19)) fun J1 =>q2g l w1 fun t9 w21 =>cond (!t9) (K true w21) (cond (decide (pixels>(2048:Int))) (K true w21) (J1 (()) w21)))
def q3h:List Ann:=[.none,.none,.none,.none,.join [] [4,8,9,10,11,12,13,14],.none,.none,.none,.none]
theorem q4i (l:Slc) (pixels:Int) (w:World) (K:Bool→World→Prop) :
  vcFn C (Tryz.f4.body.getD .skip) Tryz.f4.results.toList Tryz.f4.ntmps q3h [Kind.bool] [(.slice l.a l.n l.c),(.int .i64 pixels)] w (fun s w=>K s.1 w)=qk4 l pixels w K:=by kernel_rfl
theorem qzi (l:Slc) (pixels:Int) {w:World} {K:Bool→World→Prop} (h:qk4 l pixels w K):qsm l pixels w K:=by
 rw [←q4i] at h
 refine Calls.mono (cvc C.plain_ok C.mixed Tryz.func4 rfl h) ?_
 rintro e w' ⟨s,rfl,hK⟩
 exact ⟨s.1,rfl,hK⟩
def qro  (w:World) (K:Bool→World→Prop):Prop :=nw qag [(.int .u8 1),(.int .u8 2),(.int .u8 3),(.int .u8 4),(.int .u8 5),(.int .u8 6),(.int .u8 7),(.int .u8 8)] w fun t6 w1 =>nw qat [(.int .i64 0),(.int .i64 0),(.slice none 0 0)] w1 fun m w2 =>stK m [(.int .i64 1),(.int .i64 2),(.slice (some t6) 8 8)] w2 fun w3 =>ldS T_api_Matrix.rep m w3 fun t9 =>qli t9 true 4 w3 fun t10 w4 =>qlb t10 2 w4 fun t11 t11_1 w5 =>nw qat [(.int .i64 0),(.int .i64 0),(.slice none 0 0)] w5 fun x w6 =>stK x (T_api_Matrix.rep.cells t11) w6 fun w7 =>ldS T_api_Matrix.rep m w7 fun t15 =>qli t15 false 0 w7 fun t16 w8 =>qom t16 w8 fun t17 t17_1 w9 =>nw qaw [(.int .i64 0),(.int .i64 0),(.int .i64 0),(.int .i64 0),(.int .i64 0)] w9 fun hx w10 =>stK hx (T_png_Head.rep.cells t17) w10 fun w11 =>cond ((IntKind.i64.wrap (t11_1+t17_1))==(0:Int)) (ldSl (x.add 2) w11 fun t26 =>runK1 PG (convert qaa qa1 (.slice t26.a t26.n t26.c)) Kind.string w11 fun (t27:ByteArray) w12 =>ldSl (m.add 2) w12 fun t29 =>runK1 PG (convert qaa qa1 (.slice t29.a t29.n t29.c)) Kind.string w12 fun (t30:ByteArray) w13 =>cond (t27.toList==t30.toList) (ldS T_png_Head.rep hx w13 fun t34 =>cond ((t34.W==(1:Int)) && ((t34.H==(2:Int)) && ((t34.Depth==(8:Int)) && ((t34.Color==(6:Int)) && ((t34.Lace==(0:Int)) && true))))) (qdw 6 w13 fun t39 w14 =>K (t39==(4:Int)) w14) (K false w13)) (K false w13)) (K false w11)
def zd8:List Ann:=[.none,.none,.none,.none,.none]
theorem zd0  (w:World) (K:Bool→World→Prop) :
  vcFn C (Tryz.f13.body.getD .skip) Tryz.f13.results.toList Tryz.f13.ntmps zd8 [Kind.bool] [] w (fun s w=>K s.1 w)=qro  w K:=by kernel_rfl
theorem q8g  {w:World} {K:Bool→World→Prop} (h:qro  w K):qtq  w K:=by
 rw [←zd0] at h
 refine Calls.mono (cvc C.plain_ok C.mixed Tryz.func13 rfl h) ?_
 rintro e w' ⟨s,rfl,hK⟩
 exact ⟨s.1,rfl,hK⟩
def quw (b:Slc) (pixels:Int) (w:World) (K:Bool→World→Prop):Prop :=qlr b w fun t19 t19_1 w1 =>qr6 b w1 fun t24 t24_1 w2 =>qom b w2 fun t29 t29_1 w3 =>nw qaw [(.int .i64 0),(.int .i64 0),(.int .i64 0),(.int .i64 0),(.int .i64 0)] w3 fun hx w4 =>stK hx (T_png_Head.rep.cells t29) w4 fun w5 =>qwr b w5 fun t34 t34_1 w6 =>nw qc4 [(.int .i64 0),(.int .i64 0),(.int .i64 0),(.int .i64 0),(.int .i64 0)] w6 fun i w7 =>stK i (T_png_Head.rep.cells t34) w7 fun w8 =>joinP (σ:=Unit) (fun s w9 =>qlb b pixels w9 fun t59 t59_1 w10 =>nw qat [(.int .i64 0),(.int .i64 0),(.slice none 0 0)] w10 fun m w11 =>stK m (T_api_Matrix.rep.cells t59) w11 fun w12 =>qr9 b pixels w12 fun t65 t65_1 w13 =>nw qa8 [(.int .i64 0),(.int .i64 0),(.slice none 0 0)] w13 fun n w14 =>stK n (T_api_Matrix.rep.cells t65) w14 fun w15 =>ldS T_api_Matrix.rep m w15 fun t68 =>ldS T_api_Matrix.rep n w15 fun t69 =>qob t68 t69 w15 fun t70 w16 =>cond t70 (K (t59_1==t65_1) w16) (K false w16)) fun J1 =>qrm t19 t24 w8 fun t39 w17 =>cond (!t39) (K false w17) (cond (t19_1 !=t24_1) (K false w17) (ldS T_png_Head.rep hx w17 fun t47 =>ldS T_png_Head.rep i w17 fun t48 =>cond (!((t47.W==t48.W) && ((t47.H==t48.H) && ((t47.Depth==t48.Depth) && ((t47.Color==t48.Color) && ((t47.Lace==t48.Lace) && true)))))) (K false w17) (cond (t29_1 !=t34_1) (K false w17) (J1 (()) w17))))
def zfh:List Ann:=[.none,.none,.none,.none,.none,.join [] [4,37,38,39,40,41,42,43,44,45,46,47,48,49,50,51,52,53,54,55],.none,.none,.none,.none,.none]
theorem zfg (b:Slc) (pixels:Int) (w:World) (K:Bool→World→Prop) :
  vcFn C (Tryz.f14.body.getD .skip) Tryz.f14.results.toList Tryz.f14.ntmps zfh [Kind.bool] [(.slice b.a b.n b.c),(.int .i64 pixels)] w (fun s w=>K s.1 w)=quw b pixels w K:=by kernel_rfl
theorem zbm (b:Slc) (pixels:Int) {w:World} {K:Bool→World→Prop} (h:quw b pixels w K):qib b pixels w K:=by
 rw [←zfg] at h
 refine Calls.mono (cvc C.plain_ok C.mixed Tryz.func14 rfl h) ?_
 rintro e w' ⟨s,rfl,hK⟩
 exact ⟨s.1,rfl,hK⟩
def qyh (l:Slc) (w:World) (K:Bool→World→Prop):Prop :=loopP (σ:=Int×Int×Unit) (fun I1 s w1 =>cond (decide (s.2.1<((l.n:Nat):Int))) (joinP (σ:=Unit) (fun s_1 w2 =>ixK l s.2.1 2 fun t36 =>ldSl (t36.add 1) w2.drew fun t38 =>ixK l s.2.1 2 fun t43 =>ldStr (t43.add 0) w2.drew fun t45 =>I1 ((IntKind.i64.wrap ((IntKind.i64.wrap (s.1+((t38.n:Nat):Int)))+(t45.size:Int))),(IntKind.i64.wrap (s.2.1+(1:Int))),()) w2.drew) fun J2 =>ixK l s.2.1 2 fun t15 =>ldSl (t15.add 1) w1 fun t17 =>cond (decide (((t17.n:Nat):Int)>(65536:Int))) (K false w1) (ixK l s.2.1 2 fun t23 =>ldStr (t23.add 0) w1 fun t25 =>cond (decide ((t25.size:Int)>(65536:Int))) (K false w1) (cond (decide (s.1>(65536:Int))) (K false w1) (J2 (()) w1)))) (K (decide (s.1≤(8192:Int))) w1)) (((l.n:Nat):Int),0,()) w
def zit:List Ann:=[.none,.none,.none,.none,.join [(3,(Kind.int .i64)),(4,(Kind.int .i64))] [2,3,4,7,8,9,10,11,12,13,14,15,16,17,18,19,20,21,22,23,24,25,26,27,28,29,30,31,32,33,34,35,36,37,38,39,40,41,42,43,44,45,46,47],.none,.none,.none,.join [] [2,13,14,15,16,17,18,19,20,21,22,23,24,25,26,27,28,29,30,31,32],.none,.none,.none]
theorem zht (l:Slc) (w:World) (K:Bool→World→Prop) :
  vcFn C (Tryz.f15.body.getD .skip) Tryz.f15.results.toList Tryz.f15.ntmps zit [Kind.bool] [(.slice l.a l.n l.c)] w (fun s w=>K s.1 w)=qyh l w K:=by kernel_rfl
theorem zex (l:Slc) {w:World} {K:Bool→World→Prop} (h:qyh l w K):q2g l w K:=by
 rw [←zht] at h
 refine Calls.mono (cvc C.plain_ok C.mixed Tryz.func15 rfl h) ?_
 rintro e w' ⟨s,rfl,hK⟩
 exact ⟨s.1,rfl,hK⟩
def qtp (l:Slc) (w:World) (K:Slc→World→Prop):Prop :=qln  w fun t7 w1 =>loopP (σ:=Slc×Int×Unit) (fun I1 s w2 =>cond (decide (s.2.1<((l.n:Nat):Int))) (ixK l s.2.1 2 fun t12 =>ldS T_png_Chunk.rep t12 w2 fun t13 =>nw qa5 [(.string (⟨#[]⟩:ByteArray)),(.slice none 0 0)] w2 fun c w3 =>stK c (T_png_Chunk.rep.cells t13) w3 fun w4 =>ldSl (c.add 1) w4 fun t15 =>mkSl PG qaa (.int .i64 4) (.int .i64 (IntKind.i64.wrap ((4:Int)+((t15.n:Nat):Int)))) w4 fun t18 w5 =>ldStr (c.add 0) w5 fun t21 =>runK1 PG (Builtin.copy_ #[qaa,qa1] qbf #[(.slice t18.a t18.n t18.c),(.string t21)]) (Kind.int .i64) w5 fun (t22:Int) w6 =>ldSl (c.add 1) w6 fun t25 =>apK PG #[qaa,qaa] qaa t18 t25 w6 fun t26 w7 =>ldSl (c.add 1) w7 fun t29 =>qfy (IntKind.u32.wrap ((t29.n:Nat):Int)) w7 fun t32 w8 =>qfl  w8 fun t34 w9 =>nw qaa [(.slice t26.a t26.n t26.c)] w9 fun t36 w10 =>qcl t34 (⟨(some t36),1,1⟩:Slc) w10 fun t37 w11 =>qfy t37 w11 fun t38 w12 =>nw qaa [(.slice s.1.a s.1.n s.1.c),(.slice t32.a t32.n t32.c),(.slice t26.a t26.n t26.c),(.slice t38.a t38.n t38.c)] w12 fun t39 w13 =>qan (⟨(some t39),4,4⟩:Slc) w13 fun t40 w14 =>I1 (t40,(IntKind.i64.wrap (s.2.1+(1:Int))),()) w14) (K s.1 w2)) (t7,0,()) w1
def zgw:List Ann:=[.none,.none,.none,.none,.join [(3,Kind.slice),(10,(Kind.int .i64))] [3,5,6,10,11,12,13,14,15,16,17,18,19,20,21,22,23,24,25,26,27,28,29,30,31,32,33,34,35,36,37,38,39,40,41],.none,.none,.none,.none,.none,.none,.none,.none]
theorem zgp (l:Slc) (w:World) (K:Slc→World→Prop) :
  vcFn C (Tryz.f16.body.getD .skip) Tryz.f16.results.toList Tryz.f16.ntmps zgw [Kind.slice] [(.slice l.a l.n l.c)] w (fun s w=>K s.1 w)=qtp l w K:=by kernel_rfl
theorem zbr (l:Slc) {w:World} {K:Slc→World→Prop} (h:qtp l w K):qig l w K:=by
 rw [←zgp] at h
 refine Calls.mono (cvc C.plain_ok C.mixed Tryz.func16 rfl h) ?_
 rintro e w' ⟨s,rfl,hK⟩
 exact ⟨s.1,rfl,hK⟩
def qxe (l:Slc) (w:World) (K:Slc→World→Prop):Prop :=qq3  w fun t8 w1 =>loopP (σ:=Slc×Int×Unit) (fun I1 s w2 =>cond (decide (s.2.1<((l.n:Nat):Int))) (mkSl PG qaa (.int .i64 4) (.int .i64 4) w2 fun t15 w3 =>loopP (σ:=Int×Unit) (fun I2 s_1 w4 =>joinP (σ:=Unit) (fun s_2 w5 =>ixK l s.2.1 2 fun t34 =>ldStr (t34.add 0) w5 fun t36 =>ixS t36 s_1.1 fun t38 =>ixK t15 s_1.1 1 fun t39 =>stK t39 [(.int .u8 t38)] w5 fun w6 =>I2 ((IntKind.i64.wrap (s_1.1+(1:Int))),()) w6) fun J3 =>cond (decide (s_1.1<(4:Int))) (ixK l s.2.1 2 fun t22 =>ldStr (t22.add 0) w4 fun t24 =>cond (decide (s_1.1<(t24.size:Int))) (J3 (()) w4) (ixK l s.2.1 2 fun t43 =>ldSl (t43.add 1) w4 fun t45 =>apK PG #[qaa,qaa] qaa t15 t45 w4 fun t46 w7 =>ixK l s.2.1 2 fun t50 =>ldSl (t50.add 1) w7 fun t52 =>qgm ((t52.n:Nat):Int) w7 fun t54 w8 =>apK PG #[qaa,qaa] qaa s.1 t54 w8 fun t55 w9 =>apK PG #[qaa,qaa] qaa t55 t46 w9 fun t58 w10 =>qmk t46 w10 fun t61 w11 =>qgm (IntKind.i64.wrap t61) w11 fun t63 w12 =>apK PG #[qaa,qaa] qaa t58 t63 w12 fun t64 w13 =>I1 (t64,(IntKind.i64.wrap (s.2.1+(1:Int))),()) w13)) (ixK l s.2.1 2 fun t43_1 =>ldSl (t43_1.add 1) w4 fun t45_1 =>apK PG #[qaa,qaa] qaa t15 t45_1 w4 fun t46_1 w14 =>ixK l s.2.1 2 fun t50_1 =>ldSl (t50_1.add 1) w14 fun t52_1 =>qgm ((t52_1.n:Nat):Int) w14 fun t54_1 w15 =>apK PG #[qaa,qaa] qaa s.1 t54_1 w15 fun t55_1 w16 =>apK PG #[qaa,qaa] qaa t55_1 t46_1 w16 fun t58_1 w17 =>qmk t46_1 w17 fun t61_1 w18 =>qgm (IntKind.i64.wrap t61_1) w18 fun t63_1 w19 =>apK PG #[qaa,qaa] qaa t58_1 t63_1 w19 fun t64_1 w20 =>I1 (t64_1,(IntKind.i64.wrap (s.2.1+(1:Int))),()) w20)) (0,()) w3) (K s.1 w2)) (t8,0,()) w1
def zjc:List Ann:=[.none,.none,.none,.none,.join [(3,Kind.slice),(4,(Kind.int .i64))] [3,4,5,6,7,9,10,11,12,13,14,15,16,17,18,19,20,21,22,23,24,25,26,27,28,29,30,31,32,33,34,35,36,37,38,39,40,41,42,43,44,45,46,47,48,49,50,51,52,53,54,55,56,57,58,59,60,61,62,63,64],.none,.none,.none,.none,.none,.none,.join [(6,(Kind.int .i64))] [6,16,17,18,19,20,21,22,23,24,25,26,27,28,29,30,31,32,33,34,35,36,37,38,39],.join [] [16,17,18,19,20,21,22,23,24,25,26,27],.none,.none,.none,.none,.none,.none]
theorem zil (l:Slc) (w:World) (K:Slc→World→Prop) :
  vcFn C (Tryz.f17.body.getD .skip) Tryz.f17.results.toList Tryz.f17.ntmps zjc [Kind.slice] [(.slice l.a l.n l.c)] w (fun s w=>K s.1 w)=qxe l w K:=by kernel_rfl
theorem zez (l:Slc) {w:World} {K:Slc→World→Prop} (h:qxe l w K):qmq l w K:=by
 rw [←zil] at h
 refine Calls.mono (cvc C.plain_ok C.mixed Tryz.func17 rfl h) ?_
 rintro e w' ⟨s,rfl,hK⟩
 exact ⟨s.1,rfl,hK⟩
def q1s (l:Slc) (w:World) (K:Slc→World→Prop):Prop :=loopP (σ:=Slc×Int×Unit) (fun I1 s w1 =>cond (decide (s.2.1<((l.n:Nat):Int))) (ixK l s.2.1 2 fun t14 =>ldStr (t14.add 0) w1.drew fun t16 =>ixK l s.2.1 2 fun t19 =>ldSl (t19.add 1) w1.drew fun t21 =>nw qdh [(.string t16),(.slice t21.a t21.n t21.c)] w1.drew fun t23 w2 =>apK PG #[qca,qca] qca s.1 (⟨(some t23),1,1⟩:Slc) w2 fun t24 w3 =>I1 (t24,(IntKind.i64.wrap (s.2.1+(1:Int))),()) w3) (K s.1 w1)) (⟨none,0,0⟩,0,()) w
def zjt:List Ann:=[.none,.none,.none,.none,.join [(3,Kind.slice),(4,(Kind.int .i64))] [3,4,5,6,7,8,9,10,11,12,13,14,15,16,17,18,19,20,21,22,23,24],.none,.none,.none,.none]
theorem zj3 (l:Slc) (w:World) (K:Slc→World→Prop) :
  vcFn C (Tryz.f18.body.getD .skip) Tryz.f18.results.toList Tryz.f18.ntmps zjt [Kind.slice] [(.slice l.a l.n l.c)] w (fun s w=>K s.1 w)=q1s l w K:=by kernel_rfl
theorem zfy (l:Slc) {w:World} {K:Slc→World→Prop} (h:q1s l w K):qyv l w K:=by
 rw [←zj3] at h
 refine Calls.mono (cvc C.plain_ok C.mixed Tryz.func18 rfl h) ?_
 rintro e w' ⟨s,rfl,hK⟩
 exact ⟨s.1,rfl,hK⟩
def qqb (hx:T_png_Head) (w:World) (K:Int→World→Prop):Prop :=nw qaw (T_png_Head.rep.cells hx) w fun hx_1 w1 =>joinP (σ:=Unit) (fun s w2 =>nw qbf [(.int .i64 8),(.int .i64 16)] w2 fun t22 w3 =>joinP (σ:=Slc×Unit) (fun s_1 w4 =>ldI .i64 (hx_1.add 3) w4 fun t32 =>qdw t32 w4 fun t33 w5 =>cond (t33==(0:Int)) (K 8 w5) (ldI .i64 (hx_1.add 2) w5 fun t38 =>qes s_1.1 t38 w5 fun t39 w6 =>cond (!t39) (K 8 w6) (ldI .i64 (hx_1.add 4) w6 fun t44 =>cond (decide (t44<(0:Int))) (K 8 w6) (ldI .i64 (hx_1.add 4) w6 fun t49 =>cond (decide (t49>(1:Int))) (K 8 w6) (K 0 w6))))) fun J2 =>ldI .i64 (hx_1.add 3) w3 fun t24 =>cond (t24==(0:Int)) (nw qbf [(.int .i64 1),(.int .i64 2),(.int .i64 4),(.int .i64 8),(.int .i64 16)] w3 fun t27 w7 =>J2 (⟨(some t27),5,5⟩,()) w7) (cond (t24==(3:Int)) (nw qbf [(.int .i64 1),(.int .i64 2),(.int .i64 4),(.int .i64 8)] w3 fun t30 w8 =>J2 (⟨(some t30),4,4⟩,()) w8) (J2 (⟨(some t22),2,2⟩,()) w3))) fun J1 =>ldI .i64 (hx_1.add 0) w1 fun t5 =>cond (decide (t5<(1:Int))) (K 1 w1) (ldI .i64 (hx_1.add 0) w1 fun t9 =>cond (decide (t9>(16384:Int))) (K 1 w1) (ldI .i64 (hx_1.add 1) w1 fun t14 =>cond (decide (t14<(1:Int))) (K 1 w1) (ldI .i64 (hx_1.add 1) w1 fun t19 =>cond (decide (t19>(16384:Int))) (K 1 w1) (J1 (()) w1))))
def zaq:List Ann:=[.none,.join [] [2,4,5,6,7,8,9,10,11,12,13,14,15,16,17,18,19,20,21],.none,.none,.none,.join [(3,Kind.slice)] [3,23,24,25,26,27,28,29,30],.none,.none,.none,.none,.none,.none,.none]
theorem zbj (hx:T_png_Head) (w:World) (K:Int→World→Prop) :
  vcFn C (Tryz.f19.body.getD .skip) Tryz.f19.results.toList Tryz.f19.ntmps zaq [(Kind.int .i64)] [(.agg #[(.int .i64 hx.W),(.int .i64 hx.H),(.int .i64 hx.Depth),(.int .i64 hx.Color),(.int .i64 hx.Lace)])] w (fun s w=>K s.1 w)=qqb hx w K:=by kernel_rfl
theorem q52 (hx:T_png_Head) {w:World} {K:Int→World→Prop} (h:qqb hx w K):qhf hx w K:=by
 rw [←zbj] at h
 refine Calls.mono (cvc C.plain_ok C.mixed Tryz.func19 rfl h) ?_
 rintro e w' ⟨s,rfl,hK⟩
 exact ⟨s.1,rfl,hK⟩
def qr0 (hx:T_png_Head) (w:World) (K:Int→World→Prop):Prop :=nw qc4 (T_png_Head.rep.cells hx) w fun hx_1 w1 =>joinP (σ:=Unit) (fun s w2 =>ldI .i64 (hx_1.add 2) w2 fun t24 =>joinP (σ:=Bool×Unit) (fun s_1 w3 =>ldI .i64 (hx_1.add 3) w3 fun t59 =>qe7 t59 w3 fun t60 w4 =>cond (t60==(0:Int)) (K 8 w4) (cond (!s_1.1) (K 8 w4) (ldI .i64 (hx_1.add 4) w4 fun t68 =>cond (decide (t68<(0:Int))) (K 8 w4) (ldI .i64 (hx_1.add 4) w4 fun t73 =>cond (decide (t73>(1:Int))) (K 8 w4) (K 0 w4))))) fun J2 =>cond (t24==(8:Int)) (J2 (true,()) w2) (cond (t24==(16:Int)) (ldI .i64 (hx_1.add 3) w2 fun t32 =>cond (t32 !=(3:Int)) (J2 (true,()) w2) (ldI .i64 (hx_1.add 3) w2 fun t38 =>cond (t38==(0:Int)) (cond (t24==(1:Int)) (J2 (true,()) w2) (cond (t24==(2:Int)) (J2 (true,()) w2) (J2 ((t24==(4:Int)),()) w2))) (ldI .i64 (hx_1.add 3) w2 fun t42 =>cond (t42==(3:Int)) (cond (t24==(1:Int)) (J2 (true,()) w2) (cond (t24==(2:Int)) (J2 (true,()) w2) (J2 ((t24==(4:Int)),()) w2))) (J2 (false,()) w2)))) (ldI .i64 (hx_1.add 3) w2 fun t38_1 =>cond (t38_1==(0:Int)) (cond (t24==(1:Int)) (J2 (true,()) w2) (cond (t24==(2:Int)) (J2 (true,()) w2) (J2 ((t24==(4:Int)),()) w2))) (ldI .i64 (hx_1.add 3) w2 fun t42_1 =>cond (t42_1==(3:Int)) (cond (t24==(1:Int)) (J2 (true,()) w2) (cond (t24==(2:Int)) (J2 (true,()) w2) (J2 ((t24==(4:Int)),()) w2))) (J2 (false,()) w2))))) fun J1 =>ldI .i64 (hx_1.add 0) w1 fun t6 =>cond (decide (t6<(1:Int))) (K 1 w1) (ldI .i64 (hx_1.add 0) w1 fun t10 =>cond (decide (t10>(16384:Int))) (K 1 w1) (ldI .i64 (hx_1.add 1) w1 fun t15 =>cond (decide (t15<(1:Int))) (K 1 w1) (ldI .i64 (hx_1.add 1) w1 fun t20 =>cond (decide (t20>(16384:Int))) (K 1 w1) (J1 (()) w1))))
def zch:List Ann:=[.none,.join [] [2,5,6,7,8,9,10,11,12,13,14,15,16,17,18,19,20,21,22],.none,.none,.none,.join [(4,Kind.bool)] [4,25,26,27,28,29,30,31,32,33,34,35,36,37,38,39,40,41,42,43,44,45,46,47,48,49,50,51,52,53,54,55,56,57],.none,.none,.none,.none]
theorem zdr (hx:T_png_Head) (w:World) (K:Int→World→Prop) :
  vcFn C (Tryz.f20.body.getD .skip) Tryz.f20.results.toList Tryz.f20.ntmps zch [(Kind.int .i64)] [(.agg #[(.int .i64 hx.W),(.int .i64 hx.H),(.int .i64 hx.Depth),(.int .i64 hx.Color),(.int .i64 hx.Lace)])] w (fun s w=>K s.1 w)=qr0 hx w K:=by kernel_rfl
theorem q8a (hx:T_png_Head) {w:World} {K:Int→World→Prop} (h:qr0 hx w K):qir hx w K:=by
 rw [←zdr] at h
 refine Calls.mono (cvc C.plain_ok C.mixed Tryz.func20 rfl h) ?_
 rintro e w' ⟨s,rfl,hK⟩
 exact ⟨s.1,rfl,hK⟩
def ql7 (color:Int) (w:World) (K:Int→World→Prop):Prop :=joinP (σ:=Bool×Unit) (fun s w1 =>cond s.1 (K 1 w1) (cond (color==(2:Int)) (K 3 w1) (cond (color==(4:Int)) (K 2 w1) (cond (color==(6:Int)) (K 4 w1) (K 0 w1))))) fun J1 =>cond (color==(0:Int)) (J1 ((color==(0:Int)),()) w) (J1 ((color==(3:Int)),()) w)
def q6o:List Ann:=[.none,.none,.none,.join [(4,Kind.bool)] [4,5,6],.none,.none,.none,.none,.none,.none,.none,.none,.none]
theorem q6a (color:Int) (w:World) (K:Int→World→Prop) :
  vcFn C (Tryz.f21.body.getD .skip) Tryz.f21.results.toList Tryz.f21.ntmps q6o [(Kind.int .i64)] [(.int .i64 color)] w (fun s w=>K s.1 w)=ql7 color w K:=by kernel_rfl
theorem q2y (color:Int) {w:World} {K:Int→World→Prop} (h:ql7 color w K):qdw color w K:=by
 rw [←q6a] at h
 refine Calls.mono (cvc C.plain_ok C.mixed Tryz.func21 rfl h) ?_
 rintro e w' ⟨s,rfl,hK⟩
 exact ⟨s.1,rfl,hK⟩
def qn5 (color:Int) (w:World) (K:Int→World→Prop):Prop :=joinP (σ:=Bool×Unit) (fun s w1 =>cond s.1 (K 1 w1) (cond (color==(2:Int)) (K 3 w1) (cond (color==(4:Int)) (K 2 w1) (cond (color==(6:Int)) (K 4 w1) (K 0 w1))))) fun J1 =>cond (color==(0:Int)) (J1 ((color==(0:Int)),()) w) (J1 ((color==(3:Int)),()) w)
def q8w:List Ann:=[.none,.none,.none,.join [(4,Kind.bool)] [4,5,6],.none,.none,.none,.none,.none,.none,.none,.none,.none]
theorem q8b (color:Int) (w:World) (K:Int→World→Prop) :
  vcFn C (Tryz.f22.body.getD .skip) Tryz.f22.results.toList Tryz.f22.ntmps q8w [(Kind.int .i64)] [(.int .i64 color)] w (fun s w=>K s.1 w)=qn5 color w K:=by kernel_rfl
theorem q4p (color:Int) {w:World} {K:Int→World→Prop} (h:qn5 color w K):qe7 color w K:=by
 rw [←q8b] at h
 refine Calls.mono (cvc C.plain_ok C.mixed Tryz.func22 rfl h) ?_
 rintro e w' ⟨s,rfl,hK⟩
 exact ⟨s.1,rfl,hK⟩
def qng (m:T_api_Matrix) (lace:Bool) (kind:Int) (w:World) (K:Slc→World→Prop):Prop :=nw qat (T_api_Matrix.rep.cells m) w fun m_1 w1 =>nw qbf [(.int .i64 kind)] w1 fun kind_1 w2 =>ldI .i64 (m_1.add 0) w2 fun t12 =>ldI .i64 (m_1.add 1) w2 fun t14 =>nw qaw [(.int .i64 0),(.int .i64 0),(.int .i64 0),(.int .i64 0),(.int .i64 0)] w2 fun hx w3 =>stK hx [(.int .i64 t12),(.int .i64 t14),(.int .i64 8),(.int .i64 6),(.int .i64 0)] w3 fun w4 =>joinP (σ:=Unit) (fun s w5 =>joinP (σ:=Unit) (fun s_1 w6 =>nw qaa [(.slice none 0 0)] w6 fun all w7 =>nw qaa [(.slice none 0 0)] w7 fun ahead w8 =>ldS T_png_Head.rep hx w8 fun t24 =>qdk t24 ((.func (.func q4k) #[] #[(.pointer (some ahead)),(.pointer (some m_1)),(.pointer (some kind_1)),(.pointer (some all))]):Value) w8 fun t26 w9 =>ldI .i64 (m_1.add 0) w9.drew fun t28 =>ldI .i64 (m_1.add 1) w9.drew fun t32 =>ldI .i64 (hx.add 4) w9.drew fun t36 =>(qfy (IntKind.u32.wrap t28) w9.drew fun t30 w10 =>World.cell? w10 (hx.add 4)=some (.int .i64 t36) ∧World.cell? w10 (m_1.add 1)=some (.int .i64 t32) ∧(qfy (IntKind.u32.wrap t32) w10 fun t34 w11 =>World.cell? w11 (hx.add 4)=some (.int .i64 t36) ∧nw qag [(.int .u8 8),(.int .u8 6),(.int .u8 0),(.int .u8 0),(.int .u8 (IntKind.u8.wrap t36))] w11 fun t38 w12 =>World.cell? w12 (m_1.add 1)=some (.int .i64 t32) ∧World.cell? w12 (m_1.add 0)=some (.int .i64 t28) ∧nw qaa [(.slice t30.a t30.n t30.c),(.slice t34.a t34.n t34.c),(.slice (some t38) 5 5)] w12 fun t39 w13 =>qan (⟨(some t39),3,3⟩:Slc) w13 fun t40 w14 =>ldSl all w14 fun t43 =>qhb t43 false w14 fun t44 w15 =>nw qa5 [(.string (⟨#[73,72,68,82]⟩:ByteArray)),(.slice t40.a t40.n t40.c),(.string (⟨#[73,68,65,84]⟩:ByteArray)),(.slice t44.a t44.n t44.c),(.string (⟨#[73,69,78,68]⟩:ByteArray)),(.slice none 0 0)] w15 fun t47 w16 =>qig (⟨(some t47),3,3⟩:Slc) w16 fun t48 w17 =>K t48 w17) ∧nw qag [(.int .u8 8),(.int .u8 6),(.int .u8 0),(.int .u8 0),(.int .u8 (IntKind.u8.wrap t36))] w10 fun t38_1 w18 =>World.cell? w18 (m_1.add 1)=some (.int .i64 t32) ∧World.cell? w18 (m_1.add 0)=some (.int .i64 t28) ∧qfy (IntKind.u32.wrap t32) w18 fun t34_1 w19 =>World.cell? w19 (hx.add 4)=some (.int .i64 t36) ∧nw qaa [(.slice t30.a t30.n t30.c),(.slice t34_1.a t34_1.n t34_1.c),(.slice (some t38_1) 5 5)] w19 fun t39_1 w20 =>qan (⟨(some t39_1),3,3⟩:Slc) w20 fun t40_1 w21 =>ldSl all w21 fun t43_1 =>qhb t43_1 false w21 fun t44_1 w22 =>nw qa5 [(.string (⟨#[73,72,68,82]⟩:ByteArray)),(.slice t40_1.a t40_1.n t40_1.c),(.string (⟨#[73,68,65,84]⟩:ByteArray)),(.slice t44_1.a t44_1.n t44_1.c),(.string (⟨#[73,69,78,68]⟩:ByteArray)),(.slice none 0 0)] w22 fun t47_1 w23 =>qig (⟨(some t47_1),3,3⟩:Slc) w23 fun t48_1 w24 =>K t48_1 w24) ∧nw qag [(.int .u8 8),(.int .u8 6),(.int .u8 0),(.int .u8 0),(.int .u8 (IntKind.u8.wrap t36))] w9.drew fun t38_2 w25 =>World.cell? w25 (m_1.add 1)=some (.int .i64 t32) ∧World.cell? w25 (m_1.add 0)=some (.int .i64 t28) ∧qfy (IntKind.u32.wrap t28) w25 fun t30_1 w26 =>World.cell? w26 (hx.add 4)=some (.int .i64 t36) ∧World.cell? w26 (m_1.add 1)=some (.int .i64 t32) ∧qfy (IntKind.u32.wrap t32) w26 fun t34_2 w27 =>World.cell? w27 (hx.add 4)=some (.int .i64 t36) ∧nw qaa [(.slice t30_1.a t30_1.n t30_1.c),(.slice t34_2.a t34_2.n t34_2.c),(.slice (some t38_2) 5 5)] w27 fun t39_2 w28 =>qan (⟨(some t39_2),3,3⟩:Slc) w28 fun t40_2 w29 =>ldSl all w29 fun t43_2 =>qhb t43_2 false w29 fun t44_2 w30 =>nw qa5 [(.string (⟨#[73,72,68,82]⟩:ByteArray)),(.slice t40_2.a t40_2.n t40_2.c),(.string (⟨#[73,68,65,84]⟩:ByteArray)),(.slice t44_2.a t44_2.n t44_2.c),(.string (⟨#[73,69,78,68]⟩:ByteArray)),(.slice none 0 0)] w30 fun t47_2 w31 =>qig (⟨(some t47_2),3,3⟩:Slc) w31 fun t48_2 w32 =>K t48_2 w32) fun J2 =>ldI .i64 kind_1 w5 fun t18 =>cond (decide (t18<(0:Int))) (stK kind_1 [(.int .i64 0)] w5 fun w33 =>J2 (()) w33) (ldI .i64 kind_1 w5 fun t21 =>cond (decide (t21>(4:Int))) (stK kind_1 [(.int .i64 0)] w5 fun w34 =>J2 (()) w34) (J2 (()) w5))) fun J1 =>cond lace (stK (hx.add 4) [(.int .i64 1)] w4 fun w35 =>J1 (()) w35) (J1 (()) w4)
def q8z:List Ann:=[.none,.none,.join [] [16,17],.none,.join [] [18,19,20,21,22,23],.none,.none,.none,.none,.none]
theorem q8r (m:T_api_Matrix) (lace:Bool) (kind:Int) (w:World) (K:Slc→World→Prop) :
  vcFn C (Tryz.f24.body.getD .skip) Tryz.f24.results.toList Tryz.f24.ntmps q8z [Kind.slice] [(.agg #[(.int .i64 m.W),(.int .i64 m.H),(.slice m.P.a m.P.n m.P.c)]),(.bool lace),(.int .i64 kind)] w (fun s w=>K s.1 w)=qng m lace kind w K:=by kernel_rfl
theorem q3u (m:T_api_Matrix) (lace:Bool) (kind:Int) {w:World} {K:Slc→World→Prop} (h:qng m lace kind w K):qli m lace kind w K:=by
 rw [←q8r] at h
 refine Calls.mono (cvc C.plain_ok C.mixed Tryz.func24 rfl h) ?_
 rintro e w' ⟨s,rfl,hK⟩
 exact ⟨s.1,rfl,hK⟩
def qn8 (b:Slc) (pixels:Int) (w:World) (K:T_api_Matrix→Int→World→Prop):Prop :=nw qat [(.int .i64 0),(.int .i64 0),(.slice none 0 0)] w fun t4 w1 =>qtz b pixels w1 fun t14 t14_1 w2 =>cond (t14_1 !=(0:Int)) (stK t4 [(.int .i64 0),(.int .i64 0),(.slice none 0 0)] w2 fun w3 =>ldS T_api_Matrix.rep t4 w3 fun r =>K r t14_1 w3) (onPtr t14 fun t22 =>ldS T_png_Head.rep (t22.add 0) w2 fun t24 =>qlx t24 w2 fun t25 w4 =>onPtr t14 fun t28 =>ldSl (t28.add 9) w4 fun t30 =>qno t30 t25 w4 fun t32 t32_1 t32_2 w5 =>joinP (σ:=Unit) (fun s w6 =>qjp t14 t32 w6 fun t58 t58_1 w7 =>stK t4 (T_api_Matrix.rep.cells t58) w7 fun w8 =>ldS T_api_Matrix.rep t4 w8 fun r_1 =>K r_1 t58_1 w8) fun J1 =>cond (t32_2 !=(0:Int)) (stK t4 [(.int .i64 0),(.int .i64 0),(.slice none 0 0)] w5 fun w9 =>ldS T_api_Matrix.rep t4 w9 fun r_2 =>K r_2 t32_2 w9) (joinP (σ:=Bool×Unit) (fun s_1 w10 =>cond s_1.1 (stK t4 [(.int .i64 0),(.int .i64 0),(.slice none 0 0)] w10 fun w11 =>ldS T_api_Matrix.rep t4 w11 fun r_3 =>K r_3 3 w11) (J1 (()) w10)) fun J2 =>cond (decide (((t32.n:Nat):Int)<t25)) (J2 (true,()) w5) (onPtr t14 fun t49 =>ldSl (t49.add 9) w5 fun t51 =>J2 ((decide (t32_1<((t51.n:Nat):Int))),()) w5)))
def q8e:List Ann:=[.none,.none,.none,.none,.none,.none,.none,.join [] [5,36,37,38,39,40,41,42,43,44,45,46,47,48,49,50,51,52,53,54,55],.none,.none,.join [(41,Kind.bool)] [41,42,43,44,45,46,47,48,49,50,51,52,53,54],.none,.none]
theorem q86 (b:Slc) (pixels:Int) (w:World) (K:T_api_Matrix→Int→World→Prop) :
  vcFn C (Tryz.f25.body.getD .skip) Tryz.f25.results.toList Tryz.f25.ntmps q8e [(Kind.struct T_api_Matrix.rep),(Kind.int .i64)] [(.slice b.a b.n b.c),(.int .i64 pixels)] w (fun s w=>K s.1 s.2.1 w)=qn8 b pixels w K:=by kernel_rfl
theorem q39 (b:Slc) (pixels:Int) {w:World} {K:T_api_Matrix→Int→World→Prop} (h:qn8 b pixels w K):qlb b pixels w K:=by
 rw [←q86] at h
 refine Calls.mono (cvc C.plain_ok C.mixed Tryz.func25 rfl h) ?_
 rintro e w' ⟨s,rfl,hK⟩
 exact ⟨s.1,s.2.1,rfl,hK⟩
def q2s (m:T_api_Matrix) (w:World) (K:T_api_Matrix→World→Prop):Prop :=nw qat (T_api_Matrix.rep.cells m) w fun m_1 w1 =>nw qa8 [(.int .i64 0),(.int .i64 0),(.slice none 0 0)] w1 fun t2 w2 =>ldI .i64 (m_1.add 0) w2 fun t4 =>ldI .i64 (m_1.add 1) w2 fun t6 =>ldSl (m_1.add 2) w2 fun t8 =>stK t2 [(.int .i64 t4),(.int .i64 t6),(.slice t8.a t8.n t8.c)] w2 fun w3 =>ldS T_api_Matrix.rep t2 w3 fun r =>K r w3
def zke:List Ann:=[.none,.none]
theorem zki (m:T_api_Matrix) (w:World) (K:T_api_Matrix→World→Prop) :
  vcFn C (Tryz.f27.body.getD .skip) Tryz.f27.results.toList Tryz.f27.ntmps zke [(Kind.struct T_api_Matrix.rep)] [(.agg #[(.int .i64 m.W),(.int .i64 m.H),(.slice m.P.a m.P.n m.P.c)])] w (fun s w=>K s.1 w)=q2s m w K:=by kernel_rfl
theorem zgs (m:T_api_Matrix) {w:World} {K:T_api_Matrix→World→Prop} (h:q2s m w K):q6k m w K:=by
 rw [←zki] at h
 refine Calls.mono (cvc C.plain_ok C.mixed Tryz.func27 rfl h) ?_
 rintro e w' ⟨s,rfl,hK⟩
 exact ⟨s.1,rfl,hK⟩
def qrq (b:Slc) (w:World) (K:T_png_Head→Int→World→Prop):Prop :=nw qaw [(.int .i64 0),(.int .i64 0),(.int .i64 0),(.int .i64 0),(.int .i64 0)] w fun t2 w1 =>nw qa5 [(.string (⟨#[]⟩:ByteArray)),(.slice none 0 0)] w1 fun first w2 =>qol b ((.func (.func q8u) #[] #[(.pointer (some first))]):Value) w2 fun t8 w3 =>cond (t8 !=(0:Int)) (stK t2 [(.int .i64 0),(.int .i64 0),(.int .i64 0),(.int .i64 0),(.int .i64 0)] w3 fun w4 =>ldS T_png_Head.rep t2 w4 fun r =>K r t8 w4) (ldS T_png_Chunk.rep first w3 fun t13 =>qos t13 w3 fun t14 t14_1 w5 =>stK t2 (T_png_Head.rep.cells t14) w5 fun w6 =>ldS T_png_Head.rep t2 w6 fun r_1 =>K r_1 t14_1 w6)
def zet:List Ann:=[.none,.none,.none,.none,.none,.none,.none]
theorem zds (b:Slc) (w:World) (K:T_png_Head→Int→World→Prop) :
  vcFn C (Tryz.f28.body.getD .skip) Tryz.f28.results.toList Tryz.f28.ntmps zet [(Kind.struct T_png_Head.rep),(Kind.int .i64)] [(.slice b.a b.n b.c)] w (fun s w=>K s.1 s.2.1 w)=qrq b w K:=by kernel_rfl
theorem q9f (b:Slc) {w:World} {K:T_png_Head→Int→World→Prop} (h:qrq b w K):qom b w K:=by
 rw [←zds] at h
 refine Calls.mono (cvc C.plain_ok C.mixed Tryz.func28 rfl h) ?_
 rintro e w' ⟨s,rfl,hK⟩
 exact ⟨s.1,s.2.1,rfl,hK⟩
def qnw (b:Slc) (w:World) (K:Slc→Int→World→Prop):Prop :=nw qdj [(.slice none 0 0)] w fun out w1 =>qol b ((.func (.func q3s) #[] #[(.pointer (some out))]):Value) w1 fun t8 w2 =>cond (t8 !=(0:Int)) (K (⟨none,0,0⟩:Slc) t8 w2) (ldSl out w2 fun t12 =>K t12 0 w2)
def q8l:List Ann:=[.none,.none,.none,.none,.none,.none,.none]
theorem q8f (b:Slc) (w:World) (K:Slc→Int→World→Prop) :
  vcFn C (Tryz.f29.body.getD .skip) Tryz.f29.results.toList Tryz.f29.ntmps q8l [Kind.slice,(Kind.int .i64)] [(.slice b.a b.n b.c)] w (fun s w=>K s.1 s.2.1 w)=qnw b w K:=by kernel_rfl
theorem q4y (b:Slc) {w:World} {K:Slc→Int→World→Prop} (h:qnw b w K):qlr b w K:=by
 rw [←q8f] at h
 refine Calls.mono (cvc C.plain_ok C.mixed Tryz.func29 rfl h) ?_
 rintro e w' ⟨s,rfl,hK⟩
 exact ⟨s.1,s.2.1,rfl,hK⟩
def qrh (a:T_api_Matrix) (b:T_api_Matrix) (w:World) (K:Bool→World→Prop):Prop :=nw qat (T_api_Matrix.rep.cells a) w fun a_1 w1 =>nw qa8 (T_api_Matrix.rep.cells b) w1 fun b_1 w2 =>ldS T_api_Matrix.rep a_1 w2.drew fun t5 =>ldS T_api_Matrix.rep b_1 w2.drew fun t7 =>q6k t5 w2.drew fun t6 w3 =>qbc w3 b_1 (T_api_Matrix.rep.cells t7) ∧qxz t6 t7 w3 fun t8 w4 =>K t8 w4
def zd7:List Ann:=[.none,.none]
theorem zeo (a:T_api_Matrix) (b:T_api_Matrix) (w:World) (K:Bool→World→Prop) :
  vcFn C (Tryz.f42.body.getD .skip) Tryz.f42.results.toList Tryz.f42.ntmps zd7 [Kind.bool] [(.agg #[(.int .i64 a.W),(.int .i64 a.H),(.slice a.P.a a.P.n a.P.c)]),(.agg #[(.int .i64 b.W),(.int .i64 b.H),(.slice b.P.a b.P.n b.P.c)])] w (fun s w=>K s.1 w)=qrh a b w K:=by kernel_rfl
theorem q8v (a:T_api_Matrix) (b:T_api_Matrix) {w:World} {K:Bool→World→Prop} (h:qrh a b w K):qob a b w K:=by
 rw [←zeo] at h
 refine Calls.mono (cvc C.plain_ok C.mixed Tryz.func42 rfl h) ?_
 rintro e w' ⟨s,rfl,hK⟩
 exact ⟨s.1,rfl,hK⟩
end Go.Proofs.YtmagnpcgpinmcaaGreat
