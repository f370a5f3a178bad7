import Derived.Test.YtmagnpcgpinmcaaGreatDefs
set_option maxRecDepth 100000
set_option linter.unusedVariables false
namespace Go.Proofs.YtmagnpcgpinmcaaGreat
open Go.Vc
def qk3 (k:T_keys_Keys) (most:Int) (pieces:Slc) (w:World) (K:Bool→World→Prop):Prop :=nw qb5 (T_keys_Keys.rep.cells k) w fun k_1 w1 =>qs0  w1 fun t20 w2 =>cond (!t20) (K false w2) (ldS T_keys_Keys.rep k_1 w2 fun t22 =>qzc t22 most pieces w2 fun t25 w3 =>cond (!t25) (K true w3) (ldS T_keys_Keys.rep k_1 w3 fun t28 =>qlx t28 w3 fun t29 t29_1 w4 =>ldS T_keys_Keys.rep k_1 w4 fun t33 =>qni t33 w4 fun t34 t34_1 w5 =>joinP (σ:=Unit) (fun s w6 =>ldS T_keys_Keys.rep k_1 w6 fun t46 =>qox t46 most w6 fun t48 t48_1 w7 =>ldS T_keys_Keys.rep k_1 w7 fun t52 =>qyo t52 most w7 fun t54 t54_1 w8 =>joinP (σ:=Unit) (fun s_1 w9 =>cond (t48.isNone) (K true w9) (loopP (σ:=Int×Unit) (fun I3 s_2 w10 =>cond (decide (s_2.1<((pieces.n:Nat):Int))) (ixK pieces s_2.1 1 fun t78 =>ldSl t78 w10.drew fun t79 =>ixK pieces s_2.1 1 fun t84 =>ldSl t84 w10.drew fun t85 =>qdl t48 t79 w10.drew fun t80 w11 =>World.cell? w11 t84=some (.slice t85.a t85.n t85.c) ∧qlh t54 t85 w11 fun t86 w12 =>cond (t80 !=t86) (K false w12) (qd6 t48 w12 fun t90 w13 =>qja t54 w13 fun t92 w14 =>cond (t90 !=t92) (K false w14) (I3 ((IntKind.i64.wrap (s_2.1+(1:Int))),()) w14))) (qeg t48 w10 fun t97 t97_1 w15 =>nw qal [(.int .i64 0),(.int .i64 0),(.slice none 0 0)] w15 fun x w16 =>stK x (T_api_Matrix.rep.cells t97) w16 fun w17 =>qlf t54 w17 fun t102 t102_1 w18 =>nw qao [(.int .i64 0),(.int .i64 0),(.slice none 0 0)] w18 fun y w19 =>stK y (T_api_Matrix.rep.cells t102) w19 fun w20 =>qeg t48 w20 fun t107 t107_1 w21 =>nw qal [(.int .i64 0),(.int .i64 0),(.slice none 0 0)] w21 fun z w22 =>stK z (T_api_Matrix.rep.cells t107) w22 fun w23 =>ldS T_api_Matrix.rep x w23 fun t110 =>ldS T_api_Matrix.rep y w23 fun t111 =>qur t110 t111 w23 fun t112 w24 =>cond t112 (cond (t97_1==t102_1) (qd6 t48 w24 fun t120 w25 =>cond (t120==(0:Int)) (ldSl (z.add 2) w25 fun t125 =>cond (((t125.n:Nat):Int)==(0:Int)) (cond (t107_1==(7:Int)) (qdl t48 (⟨none,0,0⟩:Slc) w25 fun t135 w26 =>K (t135==(7:Int)) w26) (K false w25)) (K false w25)) (K false w25)) (K false w24)) (K false w24))) (0,()) w9)) fun J2 =>cond (t48_1 !=t54_1) (K false w8) (cond (!((t48.isNone)==(t54.isNone))) (K false w8) (J2 (()) w8))) fun J1 =>cond (t29 !=t34) (K false w5) (cond (t29_1 !=t34_1) (K false w5) (J1 (()) w5))))
def q3a:List Ann:=[.none,.none,.none,.none,.none,.none,.none,.none,.none,.join [] [6,37,38,39,40,41,42,43,44],.none,.none,.none,.none,.join [] [6,57,58,59,60,61,62,63,64,65,66],.none,.none,.none,.none,.none,.none,.none,.join [(13,(Kind.int .i64))] [6,13,69,70,71,72,73,74,75,76,77,78,79,80,81,82,83,84,85,86,87,88,89,90,91,92,93,94],.none,.none,.none,.none,.none,.none,.none,.none,.none]
theorem q3d (k:T_keys_Keys) (most:Int) (pieces:Slc) (w:World) (K:Bool→World→Prop) :
  vcFn C (Tryz.f9.body.getD .skip) Tryz.f9.results.toList Tryz.f9.ntmps q3a [Kind.bool] [(.agg #[(.int .u8 k.Action),(.int .u8 k.Medium),(.int .u8 k.Zip),(.int .u8 k.What),(.int .i64 k.Quiet),(.int .i64 k.Format),(.int .i64 k.W),(.int .i64 k.H),(.int .i64 k.Id),(.int .i64 k.Number),(.int .i64 k.Place),(.int .i64 k.More),(.int .i64 k.X),(.int .i64 k.Y),(.int .i64 k.PW),(.int .i64 k.PH),(.int .i64 k.DX),(.int .i64 k.DY),(.int .i64 k.Rows),(.int .i64 k.Cols),(.int .i64 k.Z),(.int .i64 k.Stay)]),(.int .i64 most),(.slice pieces.a pieces.n pieces.c)] w (fun s w=>K s.1 w)=qk3 k most pieces w K:=by kernel_rfl
theorem qx7 (k:T_keys_Keys) (most:Int) (pieces:Slc) {w:World} {K:Bool→World→Prop} (h:qk3 k most pieces w K):qrr k most pieces w K:=by
 rw [←q3d] at h
 refine Calls.mono (cvc C.plain_ok C.mixed Tryz.func9 rfl h) ?_
 rintro e w' ⟨s,rfl,hK⟩
 exact ⟨s.1,rfl,hK⟩
def qp7 (hx:T_png_Head) (w:World) (K:Int→World→Prop):Prop :=nw qa9 (T_png_Head.rep.cells hx) w fun hx_1 w1 =>joinP (σ:=Unit) (fun s w2 =>nw qbh [(.int .i64 8),(.int .i64 16)] w2 fun t22 w3 =>joinP (σ:=Slc×Unit) (fun s_1 w4 =>ldI .i64 (hx_1.add 3) w4 fun t32 =>qed t32 w4 fun t33 w5 =>cond (t33==(0:Int)) (K 8 w5) (ldI .i64 (hx_1.add 2) w5 fun t38 =>qen s_1.1 t38 w5 fun t39 w6 =>cond (!t39) (K 8 w6) (ldI .i64 (hx_1.add 4) w6 fun t44 =>cond (decide (t44<(0:Int))) (K 8 w6) (ldI .i64 (hx_1.add 4) w6 fun t49 =>cond (decide (t49>(1:Int))) (K 8 w6) (K 0 w6))))) fun J2 =>ldI .i64 (hx_1.add 3) w3 fun t24 =>cond (t24==(0:Int)) (nw qbh [(.int .i64 1),(.int .i64 2),(.int .i64 4),(.int .i64 8),(.int .i64 16)] w3 fun t27 w7 =>J2 (⟨(some t27),5,5⟩,()) w7) (cond (t24==(3:Int)) (nw qbh [(.int .i64 1),(.int .i64 2),(.int .i64 4),(.int .i64 8)] w3 fun t30 w8 =>J2 (⟨(some t30),4,4⟩,()) w8) (J2 (⟨(some t22),2,2⟩,()) w3))) fun J1 =>ldI .i64 (hx_1.add 0) w1 fun t5 =>cond (decide (t5<(1:Int))) (K 1 w1) (ldI .i64 (hx_1.add 0) w1 fun t9 =>cond (decide (t9>(16384:Int))) (K 1 w1) (ldI .i64 (hx_1.add 1) w1 fun t14 =>cond (decide (t14<(1:Int))) (K 1 w1) (ldI .i64 (hx_1.add 1) w1 fun t19 =>cond (decide (t19>(16384:Int))) (K 1 w1) (J1 (()) w1))))
def zcb:List Ann:=[.none,.join [] [2,4,5,6,7,8,9,10,11,12,13,14,15,16,17,18,19,20,21],.none,.none,.none,.join [(3,Kind.slice)] [3,23,24,25,26,27,28,29,30],.none,.none,.none,.none,.none,.none,.none]
theorem zat (hx:T_png_Head) (w:World) (K:Int→World→Prop) :
  vcFn C (Tryz.f19.body.getD .skip) Tryz.f19.results.toList Tryz.f19.ntmps zcb [(Kind.int .i64)] [(.agg #[(.int .i64 hx.W),(.int .i64 hx.H),(.int .i64 hx.Depth),(.int .i64 hx.Color),(.int .i64 hx.Lace)])] w (fun s w=>K s.1 w)=qp7 hx w K:=by kernel_rfl
theorem q6v (hx:T_png_Head) {w:World} {K:Int→World→Prop} (h:qp7 hx w K):qhj hx w K:=by
 rw [←zat] at h
 refine Calls.mono (cvc C.plain_ok C.mixed Tryz.func19 rfl h) ?_
 rintro e w' ⟨s,rfl,hK⟩
 exact ⟨s.1,rfl,hK⟩
def qsy (hx:T_png_Head) (w:World) (K:Int→World→Prop):Prop :=nw qd0 (T_png_Head.rep.cells hx) w fun hx_1 w1 =>joinP (σ:=Unit) (fun s w2 =>ldI .i64 (hx_1.add 2) w2 fun t24 =>joinP (σ:=Bool×Unit) (fun s_1 w3 =>ldI .i64 (hx_1.add 3) w3 fun t59 =>qeu t59 w3 fun t60 w4 =>cond (t60==(0:Int)) (K 8 w4) (cond (!s_1.1) (K 8 w4) (ldI .i64 (hx_1.add 4) w4 fun t68 =>cond (decide (t68<(0:Int))) (K 8 w4) (ldI .i64 (hx_1.add 4) w4 fun t73 =>cond (decide (t73>(1:Int))) (K 8 w4) (K 0 w4))))) fun J2 =>cond (t24==(8:Int)) (J2 (true,()) w2) (cond (t24==(16:Int)) (ldI .i64 (hx_1.add 3) w2 fun t32 =>cond (t32 !=(3:Int)) (J2 (true,()) w2) (ldI .i64 (hx_1.add 3) w2 fun t38 =>cond (t38==(0:Int)) (cond (t24==(1:Int)) (J2 (true,()) w2) (cond (t24==(2:Int)) (J2 (true,()) w2) (J2 ((t24==(4:Int)),()) w2))) (ldI .i64 (hx_1.add 3) w2 fun t42 =>cond (t42==(3:Int)) (cond (t24==(1:Int)) (J2 (true,()) w2) (cond (t24==(2:Int)) (J2 (true,()) w2) (J2 ((t24==(4:Int)),()) w2))) (J2 (false,()) w2)))) (ldI .i64 (hx_1.add 3) w2 fun t38_1 =>cond (t38_1==(0:Int)) (cond (t24==(1:Int)) (J2 (true,()) w2) (cond (t24==(2:Int)) (J2 (true,()) w2) (J2 ((t24==(4:Int)),()) w2))) (ldI .i64 (hx_1.add 3) w2 fun t42_1 =>cond (t42_1==(3:Int)) (cond (t24==(1:Int)) (J2 (true,()) w2) (cond (t24==(2:Int)) (J2 (true,()) w2) (J2 ((t24==(4:Int)),()) w2))) (J2 (false,()) w2))))) fun J1 =>ldI .i64 (hx_1.add 0) w1 fun t6 =>cond (decide (t6<(1:Int))) (K 1 w1) (ldI .i64 (hx_1.add 0) w1 fun t10 =>cond (decide (t10>(16384:Int))) (K 1 w1) (ldI .i64 (hx_1.add 1) w1 fun t15 =>cond (decide (t15<(1:Int))) (K 1 w1) (ldI .i64 (hx_1.add 1) w1 fun t20 =>cond (decide (t20>(16384:Int))) (K 1 w1) (J1 (()) w1))))
def zew:List Ann:=[.none,.join [] [2,5,6,7,8,9,10,11,12,13,14,15,16,17,18,19,20,21,22],.none,.none,.none,.join [(4,Kind.bool)] [4,25,26,27,28,29,30,31,32,33,34,35,36,37,38,39,40,41,42,43,44,45,46,47,48,49,50,51,52,53,54,55,56,57],.none,.none,.none,.none]
theorem ze1 (hx:T_png_Head) (w:World) (K:Int→World→Prop) :
  vcFn C (Tryz.f20.body.getD .skip) Tryz.f20.results.toList Tryz.f20.ntmps zew [(Kind.int .i64)] [(.agg #[(.int .i64 hx.W),(.int .i64 hx.H),(.int .i64 hx.Depth),(.int .i64 hx.Color),(.int .i64 hx.Lace)])] w (fun s w=>K s.1 w)=qsy hx w K:=by kernel_rfl
theorem q86 (hx:T_png_Head) {w:World} {K:Int→World→Prop} (h:qsy hx w K):qi6 hx w K:=by
 rw [←ze1] at h
 refine Calls.mono (cvc C.plain_ok C.mixed Tryz.func20 rfl h) ?_
 rintro e w' ⟨s,rfl,hK⟩
 exact ⟨s.1,rfl,hK⟩
def qmr (color:Int) (w:World) (K:Int→World→Prop):Prop :=joinP (σ:=Bool×Unit) (fun s w1 =>cond s.1 (K 1 w1) (cond (color==(2:Int)) (K 3 w1) (cond (color==(4:Int)) (K 2 w1) (cond (color==(6:Int)) (K 4 w1) (K 0 w1))))) fun J1 =>cond (color==(0:Int)) (J1 ((color==(0:Int)),()) w) (J1 ((color==(3:Int)),()) w)
def q7c:List Ann:=[.none,.none,.none,.join [(4,Kind.bool)] [4,5,6],.none,.none,.none,.none,.none,.none,.none,.none,.none]
theorem q7g (color:Int) (w:World) (K:Int→World→Prop) :
  vcFn C (Tryz.f21.body.getD .skip) Tryz.f21.results.toList Tryz.f21.ntmps q7c [(Kind.int .i64)] [(.int .i64 color)] w (fun s w=>K s.1 w)=qmr color w K:=by kernel_rfl
theorem q39 (color:Int) {w:World} {K:Int→World→Prop} (h:qmr color w K):qed color w K:=by
 rw [←q7g] at h
 refine Calls.mono (cvc C.plain_ok C.mixed Tryz.func21 rfl h) ?_
 rintro e w' ⟨s,rfl,hK⟩
 exact ⟨s.1,rfl,hK⟩
def qn7 (color:Int) (w:World) (K:Int→World→Prop):Prop :=joinP (σ:=Bool×Unit) (fun s w1 =>cond s.1 (K 1 w1) (cond (color==(2:Int)) (K 3 w1) (cond (color==(4:Int)) (K 2 w1) (cond (color==(6:Int)) (K 4 w1) (K 0 w1))))) fun J1 =>cond (color==(0:Int)) (J1 ((color==(0:Int)),()) w) (J1 ((color==(3:Int)),()) w)
def q9g:List Ann:=[.none,.none,.none,.join [(4,Kind.bool)] [4,5,6],.none,.none,.none,.none,.none,.none,.none,.none,.none]
theorem q9a (color:Int) (w:World) (K:Int→World→Prop) :
  vcFn C (Tryz.f22.body.getD .skip) Tryz.f22.results.toList Tryz.f22.ntmps q9g [(Kind.int .i64)] [(.int .i64 color)] w (fun s w=>K s.1 w)=qn7 color w K:=by kernel_rfl
theorem q5f (color:Int) {w:World} {K:Int→World→Prop} (h:qn7 color w K):qeu color w K:=by
 rw [←q9a] at h
 refine Calls.mono (cvc C.plain_ok C.mixed Tryz.func22 rfl h) ?_
 rintro e w' ⟨s,rfl,hK⟩
 exact ⟨s.1,rfl,hK⟩
def qnv (b:Slc) (pixels:Int) (w:World) (K:T_api_Matrix→Int→World→Prop):Prop :=nw qal [(.int .i64 0),(.int .i64 0),(.slice none 0 0)] w fun t4 w1 =>quq b pixels w1 fun t14 t14_1 w2 =>cond (t14_1 !=(0:Int)) (stK t4 [(.int .i64 0),(.int .i64 0),(.slice none 0 0)] w2 fun w3 =>ldS T_api_Matrix.rep t4 w3 fun r =>K r t14_1 w3) (onPtr t14 fun t22 =>ldS T_png_Head.rep (t22.add 0) w2 fun t24 =>ql7 t24 w2 fun t25 w4 =>onPtr t14 fun t28 =>ldSl (t28.add 9) w4 fun t30 =>qkm t30 t25 w4 fun t32 t32_1 t32_2 w5 =>joinP (σ:=Unit) (fun s w6 =>qjh t14 t32 w6 fun t58 t58_1 w7 =>stK t4 (T_api_Matrix.rep.cells t58) w7 fun w8 =>ldS T_api_Matrix.rep t4 w8 fun r_1 =>K r_1 t58_1 w8) fun J1 =>cond (t32_2 !=(0:Int)) (stK t4 [(.int .i64 0),(.int .i64 0),(.slice none 0 0)] w5 fun w9 =>ldS T_api_Matrix.rep t4 w9 fun r_2 =>K r_2 t32_2 w9) (joinP (σ:=Bool×Unit) (fun s_1 w10 =>cond s_1.1 (stK t4 [(.int .i64 0),(.int .i64 0),(.slice none 0 0)] w10 fun w11 =>ldS T_api_Matrix.rep t4 w11 fun r_3 =>K r_3 3 w11) (J1 (()) w10)) fun J2 =>cond (decide (((t32.n:Nat):Int)<t25)) (J2 (true,()) w5) (onPtr t14 fun t49 =>ldSl (t49.add 9) w5 fun t51 =>J2 ((decide (t32_1<((t51.n:Nat):Int))),()) w5)))
def q9n:List Ann:=[.none,.none,.none,.none,.none,.none,.none,.join [] [5,36,37,38,39,40,41,42,43,44,45,46,47,48,49,50,51,52,53,54,55],.none,.none,.join [(41,Kind.bool)] [41,42,43,44,45,46,47,48,49,50,51,52,53,54],.none,.none]
theorem q91 (b:Slc) (pixels:Int) (w:World) (K:T_api_Matrix→Int→World→Prop) :
  vcFn C (Tryz.f25.body.getD .skip) Tryz.f25.results.toList Tryz.f25.ntmps q9n [(Kind.struct T_api_Matrix.rep),(Kind.int .i64)] [(.slice b.a b.n b.c),(.int .i64 pixels)] w (fun s w=>K s.1 s.2.1 w)=qnv b pixels w K:=by kernel_rfl
theorem q5d (b:Slc) (pixels:Int) {w:World} {K:T_api_Matrix→Int→World→Prop} (h:qnv b pixels w K):qp9 b pixels w K:=by
 rw [←q91] at h
 refine Calls.mono (cvc C.plain_ok C.mixed Tryz.func25 rfl h) ?_
 rintro e w' ⟨s,rfl,hK⟩
 exact ⟨s.1,s.2.1,rfl,hK⟩
def q3n (m:T_api_Matrix) (w:World) (K:T_api_Matrix→World→Prop):Prop :=nw qal (T_api_Matrix.rep.cells m) w fun m_1 w1 =>nw qao [(.int .i64 0),(.int .i64 0),(.slice none 0 0)] w1 fun t2 w2 =>ldI .i64 (m_1.add 0) w2 fun t4 =>ldI .i64 (m_1.add 1) w2 fun t6 =>ldSl (m_1.add 2) w2 fun t8 =>stK t2 [(.int .i64 t4),(.int .i64 t6),(.slice t8.a t8.n t8.c)] w2 fun w3 =>ldS T_api_Matrix.rep t2 w3 fun r =>K r w3
def zlm:List Ann:=[.none,.none]
theorem zk6 (m:T_api_Matrix) (w:World) (K:T_api_Matrix→World→Prop) :
  vcFn C (Tryz.f27.body.getD .skip) Tryz.f27.results.toList Tryz.f27.ntmps zlm [(Kind.struct T_api_Matrix.rep)] [(.agg #[(.int .i64 m.W),(.int .i64 m.H),(.slice m.P.a m.P.n m.P.c)])] w (fun s w=>K s.1 w)=q3n m w K:=by kernel_rfl
theorem zgg (m:T_api_Matrix) {w:World} {K:T_api_Matrix→World→Prop} (h:q3n m w K):q7n m w K:=by
 rw [←zk6] at h
 refine Calls.mono (cvc C.plain_ok C.mixed Tryz.func27 rfl h) ?_
 rintro e w' ⟨s,rfl,hK⟩
 exact ⟨s.1,rfl,hK⟩
def qnt (b:Slc) (w:World) (K:Slc→Int→World→Prop):Prop :=nw qda [(.slice none 0 0)] w fun out w1 =>qva b ((.func (.func q5r) #[] #[(.pointer (some out))]):Value) w1 fun t8 w2 =>cond (t8 !=(0:Int)) (K (⟨none,0,0⟩:Slc) t8 w2) (ldSl out w2 fun t12 =>K t12 0 w2)
def q9m:List Ann:=[.none,.none,.none,.none,.none,.none,.none]
theorem q9q (b:Slc) (w:World) (K:Slc→Int→World→Prop) :
  vcFn C (Tryz.f29.body.getD .skip) Tryz.f29.results.toList Tryz.f29.ntmps q9m [Kind.slice,(Kind.int .i64)] [(.slice b.a b.n b.c)] w (fun s w=>K s.1 s.2.1 w)=qnt b w K:=by kernel_rfl
theorem q56 (b:Slc) {w:World} {K:Slc→Int→World→Prop} (h:qnt b w K):qqu b w K:=by
 rw [←q9q] at h
 refine Calls.mono (cvc C.plain_ok C.mixed Tryz.func29 rfl h) ?_
 rintro e w' ⟨s,rfl,hK⟩
 exact ⟨s.1,s.2.1,rfl,hK⟩
def qql  (w:World) (K:Bool→World→Prop):Prop :=qqs  w fun t9 w1 =>nw qb5 [(.int .u8 0),(.int .u8 0),(.int .u8 0),(.int .u8 0),(.int .i64 0),(.int .i64 0),(.int .i64 0),(.int .i64 0),(.int .i64 0),(.int .i64 0),(.int .i64 0),(.int .i64 0),(.int .i64 0),(.int .i64 0),(.int .i64 0),(.int .i64 0),(.int .i64 0),(.int .i64 0),(.int .i64 0),(.int .i64 0),(.int .i64 0),(.int .i64 0)] w1 fun k w2 =>stK k (T_keys_Keys.rep.cells t9) w2 fun w3 =>stK (k.add 5) [(.int .i64 24)] w3 fun w4 =>stK (k.add 6) [(.int .i64 1)] w4 fun w5 =>stK (k.add 7) [(.int .i64 1)] w5 fun w6 =>ldS T_keys_Keys.rep k w6 fun t14 =>qox t14 4 w6 fun t15 t15_1 w7 =>joinP (σ:=Unit) (fun s w8 =>nw qai [(.int .u8 65),(.int .u8 81)] w8 fun t25 w9 =>runK1 PG (convert qab qab (.slice (some t25) 2 2)) Kind.slice w9 fun (t26:Slc) w10 =>qdl t15 t26 w10 fun t27 w11 =>nw qai [(.int .u8 73),(.int .u8 68)] w11 fun t29 w12 =>runK1 PG (convert qab qab (.slice (some t29) 2 2)) Kind.slice w12 fun (t30:Slc) w13 =>qdl t15 t30 w13 fun t31 w14 =>qd6 t15 w14 fun t33 w15 =>qeg t15 w15 fun t36 t36_1 w16 =>nw qal [(.int .i64 0),(.int .i64 0),(.slice none 0 0)] w16 fun m w17 =>stK m (T_api_Matrix.rep.cells t36) w17 fun w18 =>cond ((IntKind.i64.wrap ((IntKind.i64.wrap (t27+t31))+t36_1))==(0:Int)) (cond (t33==(3:Int)) (ldSl (m.add 2) w18 fun t51 =>runK1 PG (convert qab qb0 (.slice t51.a t51.n t51.c)) Kind.string w18 fun (t52:ByteArray) w19 =>K (t52.toList==(⟨#[1,2,3,255]⟩:ByteArray).toList) w19) (K false w18)) (K false w18)) fun J1 =>cond (t15_1 !=(0:Int)) (K false w7) (cond (t15.isNone) (K false w7) (J1 (()) w7))
def zbw:List Ann:=[.none,.none,.none,.none,.none,.none,.join [] [0,18,19,20,21,22,23],.none,.none,.none,.none,.none,.none,.none]
theorem zcs  (w:World) (K:Bool→World→Prop) :
  vcFn C (Tryz.f30.body.getD .skip) Tryz.f30.results.toList Tryz.f30.ntmps zbw [Kind.bool] [] w (fun s w=>K s.1 w)=qql  w K:=by kernel_rfl
theorem q7k  {w:World} {K:Bool→World→Prop} (h:qql  w K):qs0  w K:=by
 rw [←zcs] at h
 refine Calls.mono (cvc C.plain_ok C.mixed Tryz.func30 rfl h) ?_
 rintro e w' ⟨s,rfl,hK⟩
 exact ⟨s.1,rfl,hK⟩
def qvf (k:T_keys_Keys) (most:Int) (pieces:Slc) (w:World) (K:Bool→World→Prop):Prop :=nw qb5 (T_keys_Keys.rep.cells k) w fun k_1 w1 =>loopP (σ:=Int×Int×Unit) (fun I1 s w2 =>cond (decide (s.2.1<((pieces.n:Nat):Int))) (joinP (σ:=Unit) (fun s_1 w3 =>ixK pieces s.2.1 1 fun t30 =>ldSl t30 w3 fun t31 =>I1 ((IntKind.i64.wrap (s.1+((t31.n:Nat):Int))),(IntKind.i64.wrap (s.2.1+(1:Int))),()) w3) fun J2 =>ixK pieces s.2.1 1 fun t19 =>ldSl t19 w2 fun t20 =>cond (decide (((t20.n:Nat):Int)>(65536:Int))) (K false w2) (cond (decide (s.1>(65536:Int))) (K false w2) (J2 (()) w2))) (cond (decide (s.1≤(4096:Int))) (cond (decide (most≤(8192:Int))) (K true w2) (K (decide (most>(1073741824:Int))) w2)) (K false w2))) (((pieces.n:Nat):Int),0,()) w1
def zhs:List Ann:=[.none,.none,.none,.none,.join [(7,(Kind.int .i64)),(8,(Kind.int .i64))] [6,7,8,11,12,13,14,15,16,17,18,19,20,21,22,23,24,25,26,27,28,29,30,31,32,33],.none,.none,.none,.join [] [6,17,18,19,20,21,22,23,24,25,26],.none,.none,.none]
theorem zgk (k:T_keys_Keys) (most:Int) (pieces:Slc) (w:World) (K:Bool→World→Prop) :
  vcFn C (Tryz.f31.body.getD .skip) Tryz.f31.results.toList Tryz.f31.ntmps zhs [Kind.bool] [(.agg #[(.int .u8 k.Action),(.int .u8 k.Medium),(.int .u8 k.Zip),(.int .u8 k.What),(.int .i64 k.Quiet),(.int .i64 k.Format),(.int .i64 k.W),(.int .i64 k.H),(.int .i64 k.Id),(.int .i64 k.Number),(.int .i64 k.Place),(.int .i64 k.More),(.int .i64 k.X),(.int .i64 k.Y),(.int .i64 k.PW),(.int .i64 k.PH),(.int .i64 k.DX),(.int .i64 k.DY),(.int .i64 k.Rows),(.int .i64 k.Cols),(.int .i64 k.Z),(.int .i64 k.Stay)]),(.int .i64 most),(.slice pieces.a pieces.n pieces.c)] w (fun s w=>K s.1 w)=qvf k most pieces w K:=by kernel_rfl
theorem zc1 (k:T_keys_Keys) (most:Int) (pieces:Slc) {w:World} {K:Bool→World→Prop} (h:qvf k most pieces w K):qzc k most pieces w K:=by
 rw [←zgk] at h
 refine Calls.mono (cvc C.plain_ok C.mixed Tryz.func31 rfl h) ?_
 rintro e w' ⟨s,rfl,hK⟩
 exact ⟨s.1,rfl,hK⟩
def qn2 (k:T_keys_Keys) (w:World) (K:Int→Int→World→Prop):Prop :=nw qb5 (T_keys_Keys.rep.cells k) w fun k_1 w1 =>joinP (σ:=Unit) (fun s w2 =>ldI .i64 (k_1.add 5) w2 fun t43 =>(8:Int)≠0 ∧ldI .i64 (k_1.add 6) w2 fun t46 =>ldI .i64 (k_1.add 7) w2 fun t49 =>K (IntKind.i64.wrap ((IntKind.i64.wrap ((IntKind.i64.wrap (t43.tdiv (8:Int)))*t46))*t49)) 0 w2) fun J1 =>joinP (σ:=Bool×Unit) (fun s_1 w3 =>cond s_1.1 (K 0 8 w3) (ldI .i64 (k_1.add 5) w3 fun t20 =>cond (t20==(100:Int)) (K 0 0 w3) (joinP (σ:=Bool×Unit) (fun s_2 w4 =>cond s_2.1 (K 0 8 w4) (ldI .i64 (k_1.add 6) w4 fun t33 =>qkl t33 w4 fun t34 w5 =>cond (!t34) (K 0 1 w5) (ldI .i64 (k_1.add 7) w5 fun t38 =>qkl t38 w5 fun t39 w6 =>cond (!t39) (K 0 1 w6) (J1 (()) w6)))) fun J3 =>ldI .i64 (k_1.add 5) w3 fun t24 =>cond (t24 !=(24:Int)) (ldI .i64 (k_1.add 5) w3 fun t28 =>J3 ((t28 !=(32:Int)),()) w3) (J3 (false,()) w3)))) fun J2 =>ldI .u8 (k_1.add 1) w1 fun t6 =>cond (t6 !=(100:Int)) (J2 (true,()) w1) (ldI .u8 (k_1.add 2) w1 fun t10 =>cond (t10 !=(0:Int)) (ldI .u8 (k_1.add 2) w1 fun t14 =>J2 ((t14 !=(122:Int)),()) w1) (J2 (false,()) w1))
def q96:List Ann:=[.none,.join [] [2,3,4,5,6,7,8,9,10,11,12,13,14,15,16,17,18,19,20,21,22,23,24,25,26,27,28,29,30,31,32,33,34,35,36,37,38,39,40,41],.join [(4,Kind.bool)] [4,5,6,7,8,9,10,11,12,13,14,15,16,17],.none,.none,.none,.join [(22,Kind.bool)] [22,23,24,25,26,27,28,29,30],.none,.none,.none,.none]
theorem q9d (k:T_keys_Keys) (w:World) (K:Int→Int→World→Prop) :
  vcFn C (Tryz.f32.body.getD .skip) Tryz.f32.results.toList Tryz.f32.ntmps q96 [(Kind.int .i64),(Kind.int .i64)] [(.agg #[(.int .u8 k.Action),(.int .u8 k.Medium),(.int .u8 k.Zip),(.int .u8 k.What),(.int .i64 k.Quiet),(.int .i64 k.Format),(.int .i64 k.W),(.int .i64 k.H),(.int .i64 k.Id),(.int .i64 k.Number),(.int .i64 k.Place),(.int .i64 k.More),(.int .i64 k.X),(.int .i64 k.Y),(.int .i64 k.PW),(.int .i64 k.PH),(.int .i64 k.DX),(.int .i64 k.DY),(.int .i64 k.Rows),(.int .i64 k.Cols),(.int .i64 k.Z),(.int .i64 k.Stay)])] w (fun s w=>K s.1 s.2.1 w)=qn2 k w K:=by kernel_rfl
theorem q6i (k:T_keys_Keys) {w:World} {K:Int→Int→World→Prop} (h:qn2 k w K):qlx k w K:=by
 rw [←q9d] at h
 refine Calls.mono (cvc C.plain_ok C.mixed Tryz.func32 rfl h) ?_
 rintro e w' ⟨s,rfl,hK⟩
 exact ⟨s.1,s.2.1,rfl,hK⟩
def qpz (k:T_keys_Keys) (w:World) (K:Int→Int→World→Prop):Prop :=nw q2v (T_keys_Keys.rep.cells k) w fun k_1 w1 =>joinP (σ:=Unit) (fun s w2 =>ldI .i64 (k_1.add 5) w2 fun t33 =>cond (t33==(100:Int)) (K 0 0 w2) (joinP (σ:=Unit) (fun s_1 w3 =>ldI .i64 (k_1.add 5) w3 fun t54 =>(8:Int)≠0 ∧ldI .i64 (k_1.add 6) w3 fun t57 =>ldI .i64 (k_1.add 7) w3 fun t60 =>K (IntKind.i64.wrap ((IntKind.i64.wrap ((IntKind.i64.wrap (t54.tdiv (8:Int)))*t57))*t60)) 0 w3) fun J2 =>ldI .i64 (k_1.add 6) w2 fun t36 =>cond (decide (t36<(1:Int))) (K 0 1 w2) (ldI .i64 (k_1.add 6) w2 fun t40 =>cond (decide (t40>(16384:Int))) (K 0 1 w2) (ldI .i64 (k_1.add 7) w2 fun t45 =>cond (decide (t45<(1:Int))) (K 0 1 w2) (ldI .i64 (k_1.add 7) w2 fun t50 =>cond (decide (t50>(16384:Int))) (K 0 1 w2) (J2 (()) w2)))))) fun J1 =>ldI .u8 (k_1.add 1) w1 fun t5 =>cond (t5 !=(100:Int)) (K 0 8 w1) (ldI .i64 (k_1.add 5) w1 fun t9 =>cond (t9 !=(24:Int)) (ldI .i64 (k_1.add 5) w1 fun t13 =>cond (t13 !=(32:Int)) (ldI .i64 (k_1.add 5) w1 fun t18 =>cond (t18 !=(100:Int)) (K 0 8 w1) (ldI .u8 (k_1.add 2) w1 fun t24 =>cond (t24 !=(0:Int)) (ldI .u8 (k_1.add 2) w1 fun t28 =>cond (t28 !=(122:Int)) (K 0 8 w1) (J1 (()) w1)) (J1 (()) w1))) (ldI .u8 (k_1.add 2) w1 fun t24_1 =>cond (t24_1 !=(0:Int)) (ldI .u8 (k_1.add 2) w1 fun t28_1 =>cond (t28_1 !=(122:Int)) (K 0 8 w1) (J1 (()) w1)) (J1 (()) w1))) (ldI .u8 (k_1.add 2) w1 fun t24_2 =>cond (t24_2 !=(0:Int)) (ldI .u8 (k_1.add 2) w1 fun t28_2 =>cond (t28_2 !=(122:Int)) (K 0 8 w1) (J1 (()) w1)) (J1 (()) w1)))
def zao:List Ann:=[.none,.join [] [2,3,4,5,6,7,8,9,10,11,12,13,14,15,16,17,18,19,20,21,22,23,24,25,26,27,28,29,30,31],.none,.none,.none,.none,.none,.join [] [2,3,35,36,37,38,39,40,41,42,43,44,45,46,47,48,49,50,51,52],.none,.none,.none]
theorem zb4 (k:T_keys_Keys) (w:World) (K:Int→Int→World→Prop) :
  vcFn C (Tryz.f33.body.getD .skip) Tryz.f33.results.toList Tryz.f33.ntmps zao [(Kind.int .i64),(Kind.int .i64)] [(.agg #[(.int .u8 k.Action),(.int .u8 k.Medium),(.int .u8 k.Zip),(.int .u8 k.What),(.int .i64 k.Quiet),(.int .i64 k.Format),(.int .i64 k.W),(.int .i64 k.H),(.int .i64 k.Id),(.int .i64 k.Number),(.int .i64 k.Place),(.int .i64 k.More),(.int .i64 k.X),(.int .i64 k.Y),(.int .i64 k.PW),(.int .i64 k.PH),(.int .i64 k.DX),(.int .i64 k.DY),(.int .i64 k.Rows),(.int .i64 k.Cols),(.int .i64 k.Z),(.int .i64 k.Stay)])] w (fun s w=>K s.1 s.2.1 w)=qpz k w K:=by kernel_rfl
theorem q6s (k:T_keys_Keys) {w:World} {K:Int→Int→World→Prop} (h:qpz k w K):qni k w K:=by
 rw [←zb4] at h
 refine Calls.mono (cvc C.plain_ok C.mixed Tryz.func33 rfl h) ?_
 rintro e w' ⟨s,rfl,hK⟩
 exact ⟨s.1,s.2.1,rfl,hK⟩
def qr1 (k:T_keys_Keys) (room:Int) (w:World) (K:Option Addr→Int→World→Prop):Prop :=nw qb5 (T_keys_Keys.rep.cells k) w fun k_1 w1 =>joinP (σ:=Unit) (fun s w2 =>ldS T_keys_Keys.rep k_1 w2 fun t15 =>qlx t15 w2 fun t16 t16_1 w3 =>joinP (σ:=Unit) (fun s_1 w4 =>ldS T_keys_Keys.rep k_1 w4.drew fun t38 =>qmj  w4.drew fun t37 w5 =>qbe w5 k_1 (T_keys_Keys.rep.cells t38) ∧nw qbu [(.pointer t37),(.int .u8 t38.Action),(.int .u8 t38.Medium),(.int .u8 t38.Zip),(.int .u8 t38.What),(.int .i64 t38.Quiet),(.int .i64 t38.Format),(.int .i64 t38.W),(.int .i64 t38.H),(.int .i64 t38.Id),(.int .i64 t38.Number),(.int .i64 t38.Place),(.int .i64 t38.More),(.int .i64 t38.X),(.int .i64 t38.Y),(.int .i64 t38.PW),(.int .i64 t38.PH),(.int .i64 t38.DX),(.int .i64 t38.DY),(.int .i64 t38.Rows),(.int .i64 t38.Cols),(.int .i64 t38.Z),(.int .i64 t38.Stay),(.int .i64 room),(.int .i64 t16),(.slice none 0 0),(.int .i64 0),(.int .i64 0),(.bool false)] w5 fun t42 w6 =>K (some t42) 0 w6) fun J2 =>cond (t16_1 !=(0:Int)) (K none t16_1 w3) (ldI .i64 (k_1.add 5) w3 fun t25 =>cond (t25 !=(100:Int)) (ldI .i64 (k_1.add 6) w3 fun t29 =>ldI .i64 (k_1.add 7) w3 fun t32 =>cond (decide ((IntKind.i64.wrap ((IntKind.i64.wrap ((4:Int)*t29))*t32))>room)) (K none 6 w3) (J2 (()) w3)) (J2 (()) w3))) fun J1 =>cond (decide (room<(0:Int))) (K none 1 w1) (cond (decide (room>(1073741824:Int))) (K none 1 w1) (J1 (()) w1))
def zc6:List Ann:=[.none,.join [] [4,5,8,9,10,11,12,13],.none,.none,.none,.join [] [4,5,19,20,21,22,23,24,25,26,27,28,29,30,31,32,33,34,35,36],.none,.none,.none,.none,.none]
theorem zdl (k:T_keys_Keys) (room:Int) (w:World) (K:Option Addr→Int→World→Prop) :
  vcFn C (Tryz.f34.body.getD .skip) Tryz.f34.results.toList Tryz.f34.ntmps zc6 [Kind.ptr,(Kind.int .i64)] [(.agg #[(.int .u8 k.Action),(.int .u8 k.Medium),(.int .u8 k.Zip),(.int .u8 k.What),(.int .i64 k.Quiet),(.int .i64 k.Format),(.int .i64 k.W),(.int .i64 k.H),(.int .i64 k.Id),(.int .i64 k.Number),(.int .i64 k.Place),(.int .i64 k.More),(.int .i64 k.X),(.int .i64 k.Y),(.int .i64 k.PW),(.int .i64 k.PH),(.int .i64 k.DX),(.int .i64 k.DY),(.int .i64 k.Rows),(.int .i64 k.Cols),(.int .i64 k.Z),(.int .i64 k.Stay)]),(.int .i64 room)] w (fun s w=>K s.1 s.2.1 w)=qr1 k room w K:=by kernel_rfl
theorem q9c (k:T_keys_Keys) (room:Int) {w:World} {K:Option Addr→Int→World→Prop} (h:qr1 k room w K):qox k room w K:=by
 rw [←zdl] at h
 refine Calls.mono (cvc C.plain_ok C.mixed Tryz.func34 rfl h) ?_
 rintro e w' ⟨s,rfl,hK⟩
 exact ⟨s.1,s.2.1,rfl,hK⟩
def qvs (k:T_keys_Keys) (most:Int) (w:World) (K:Option Addr→Int→World→Prop):Prop :=nw q2v (T_keys_Keys.rep.cells k) w fun k_1 w1 =>joinP (σ:=Unit) (fun s w2 =>ldS T_keys_Keys.rep k_1 w2 fun t15 =>qni t15 w2 fun t16 t16_1 w3 =>cond (t16_1 !=(0:Int)) (K none t16_1 w3) (joinP (σ:=Unit) (fun s_1 w4 =>ldS T_keys_Keys.rep k_1 w4 fun t35 =>nw qb3 [(.int .u8 t35.Action),(.int .u8 t35.Medium),(.int .u8 t35.Zip),(.int .u8 t35.What),(.int .i64 t35.Quiet),(.int .i64 t35.Format),(.int .i64 t35.W),(.int .i64 t35.H),(.int .i64 t35.Id),(.int .i64 t35.Number),(.int .i64 t35.Place),(.int .i64 t35.More),(.int .i64 t35.X),(.int .i64 t35.Y),(.int .i64 t35.PW),(.int .i64 t35.PH),(.int .i64 t35.DX),(.int .i64 t35.DY),(.int .i64 t35.Rows),(.int .i64 t35.Cols),(.int .i64 t35.Z),(.int .i64 t35.Stay),(.int .i64 most),(.int .i64 t16),(.slice none 0 0),(.bool false),(.bool false),(.slice none 0 0),(.int .i64 0),(.bool false)] w4 fun t39 w5 =>K (some t39) 0 w5) fun J2 =>ldI .i64 (k_1.add 5) w3 fun t23 =>cond (t23 !=(100:Int)) (ldI .i64 (k_1.add 6) w3 fun t27 =>ldI .i64 (k_1.add 7) w3 fun t30 =>cond (decide ((IntKind.i64.wrap ((IntKind.i64.wrap ((4:Int)*t27))*t30))>most)) (K none 6 w3) (J2 (()) w3)) (J2 (()) w3))) fun J1 =>cond (decide (most<(0:Int))) (K none 1 w1) (cond (decide (most>(1073741824:Int))) (K none 1 w1) (J1 (()) w1))
def zgn:List Ann:=[.none,.join [] [4,5,8,9,10,11,12,13],.none,.none,.none,.none,.none,.none,.join [] [4,5,22,23,24,25,26,27,28,29,30,31,32,33,34],.none,.none,.none]
theorem zhg (k:T_keys_Keys) (most:Int) (w:World) (K:Option Addr→Int→World→Prop) :
  vcFn C (Tryz.f35.body.getD .skip) Tryz.f35.results.toList Tryz.f35.ntmps zgn [Kind.ptr,(Kind.int .i64)] [(.agg #[(.int .u8 k.Action),(.int .u8 k.Medium),(.int .u8 k.Zip),(.int .u8 k.What),(.int .i64 k.Quiet),(.int .i64 k.Format),(.int .i64 k.W),(.int .i64 k.H),(.int .i64 k.Id),(.int .i64 k.Number),(.int .i64 k.Place),(.int .i64 k.More),(.int .i64 k.X),(.int .i64 k.Y),(.int .i64 k.PW),(.int .i64 k.PH),(.int .i64 k.DX),(.int .i64 k.DY),(.int .i64 k.Rows),(.int .i64 k.Cols),(.int .i64 k.Z),(.int .i64 k.Stay)]),(.int .i64 most)] w (fun s w=>K s.1 s.2.1 w)=qvs k most w K:=by kernel_rfl
theorem zbf (k:T_keys_Keys) (most:Int) {w:World} {K:Option Addr→Int→World→Prop} (h:qvs k most w K):qyo k most w K:=by
 rw [←zhg] at h
 refine Calls.mono (cvc C.plain_ok C.mixed Tryz.func35 rfl h) ?_
 rintro e w' ⟨s,rfl,hK⟩
 exact ⟨s.1,s.2.1,rfl,hK⟩
def qfp (l:Option Addr) (text:Slc) (w:World) (K:Int→World→Prop):Prop :=onPtr l fun t10 =>ldB (t10.add 28) w fun t12 =>cond t12 (K 7 w) (joinP (σ:=Unit) (fun s w1 =>onPtr l fun t43 =>ldI .i64 (t43.add 27) w1 fun t45 =>K t45 w1) fun J1 =>loopP (σ:=Int×Unit) (fun I2 s_1 w2 =>cond (decide (s_1.1<((text.n:Nat):Int))) (ixK text s_1.1 1 fun t17 =>ldI .u8 t17 w2 fun t18 =>onPtr l fun t20 =>ldI .i64 (t20.add 27) w2 fun t22 =>cond (t22 !=(0:Int)) (J1 (()) w2) (onPtr l fun t26 =>ldP (t26.add 0) w2 fun t28 =>qha t28 t18 w2 fun t30 t30_1 w3 =>cond (t30_1==(0:Int)) (qd7 l t30 w3 fun t37 w4 =>qby l t37 w4 fun w5 =>I2 ((IntKind.i64.wrap (s_1.1+(1:Int))),()) w5) (qby l t30_1 w3 fun w6 =>I2 ((IntKind.i64.wrap (s_1.1+(1:Int))),()) w6))) (J1 (()) w2)) (0,()) w)
def qym:List Ann:=[.none,.none,.none,.none,.join [] [6,7,8,13,14,15,16,17,18,19,20,21,22,23,24,25,26,27,28,29,30,31,32,33,34,35,36,37,38,39,40,41],.none,.join [(15,(Kind.int .i64))] [6,7,8,15,16,17,18,19,20,21,22,23,24,25,26,27,28,29,30,31,32,33,34,35,36,37,38,39,40,41],.none,.none,.none,.none,.none,.none,.none,.none,.none,.none]
theorem qzb (l:Option Addr) (text:Slc) (w:World) (K:Int→World→Prop) :
  vcFn C (Tryz.f36.body.getD .skip) Tryz.f36.results.toList Tryz.f36.ntmps qym [(Kind.int .i64)] [(.pointer l),(.slice text.a text.n text.c)] w (fun s w=>K s.1 w)=qfp l text w K:=by kernel_rfl
theorem qmb (l:Option Addr) (text:Slc) {w:World} {K:Int→World→Prop} (h:qfp l text w K):qdl l text w K:=by
 rw [←qzb] at h
 refine Calls.mono (cvc C.plain_ok C.mixed Tryz.func36 rfl h) ?_
 rintro e w' ⟨s,rfl,hK⟩
 exact ⟨s.1,rfl,hK⟩
def qj7 (l:Option Addr) (text:Slc) (w:World) (K:Int→World→Prop):Prop :=onPtr l fun t9 =>ldB (t9.add 29) w fun t11 =>cond t11 (K 7 w) (loopP (σ:=Int×Unit) (fun I1 s w1 =>joinP (σ:=Unit) (fun s_1 w2 =>onPtr l fun t27 =>slK text (some s.1) (some (IntKind.i64.wrap (s.1+(1:Int)))) 1 fun t33 =>qiv (some (t27.add 24)) t33 w2.drew fun t34 t34_1 w3 =>joinP (σ:=Int×Unit) (fun s_2 w4 =>cond (s_2.1 !=(0:Int)) (qga l s_2.1 w4 fun t46 w5 =>I1 ((IntKind.i64.wrap (s.1+(1:Int))),()) w5) (I1 ((IntKind.i64.wrap (s.1+(1:Int))),()) w4)) fun J3 =>cond (t34_1==(0:Int)) (qf9 l t34 w3 fun t41 w6 =>J3 (t41,()) w6) (J3 (t34_1,()) w3)) fun J2 =>cond (decide (s.1<((text.n:Nat):Int))) (onPtr l fun t18 =>ldI .i64 (t18.add 28) w1 fun t20 =>cond (t20==(0:Int)) (J2 (()) w1) (onPtr l fun t48 =>ldI .i64 (t48.add 28) w1 fun t50 =>K t50 w1)) (onPtr l fun t48_1 =>ldI .i64 (t48_1.add 28) w1 fun t50_1 =>K t50_1 w1)) (0,()) w)
def q01:List Ann:=[.none,.none,.none,.none,.none,.none,.join [(5,(Kind.int .i64))] [5,6,7,12,13,14,15,16,17,18,19,20,21,22,23,24,25,26,27,28,29,30,31,32,33,34,35,36,37,38,39,40,41,42,43,44,45,46],.join [] [12,13,14,15,16,17,18,19,20,21,22],.none,.none,.none,.join [(7,(Kind.int .i64))] [7,37,38,39,40,41],.none,.none,.none]
theorem q1t (l:Option Addr) (text:Slc) (w:World) (K:Int→World→Prop) :
  vcFn C (Tryz.f37.body.getD .skip) Tryz.f37.results.toList Tryz.f37.ntmps q01 [(Kind.int .i64)] [(.pointer l),(.slice text.a text.n text.c)] w (fun s w=>K s.1 w)=qj7 l text w K:=by kernel_rfl
theorem qwt (l:Option Addr) (text:Slc) {w:World} {K:Int→World→Prop} (h:qj7 l text w K):qlh l text w K:=by
 rw [←q1t] at h
 refine Calls.mono (cvc C.plain_ok C.mixed Tryz.func37 rfl h) ?_
 rintro e w' ⟨s,rfl,hK⟩
 exact ⟨s.1,rfl,hK⟩
def qh0 (l:Option Addr) (w:World) (K:Int→World→Prop):Prop :=onPtr l fun t4 =>ldI .i64 (t4.add 26) w fun t6 =>K t6 w
def qw7:List Ann:=[.none,.none]
theorem qww (l:Option Addr) (w:World) (K:Int→World→Prop) :
  vcFn C (Tryz.f38.body.getD .skip) Tryz.f38.results.toList Tryz.f38.ntmps qw7 [(Kind.int .i64)] [(.pointer l)] w (fun s w=>K s.1 w)=qh0 l w K:=by kernel_rfl
theorem qta (l:Option Addr) {w:World} {K:Int→World→Prop} (h:qh0 l w K):qd6 l w K:=by
 rw [←qww] at h
 refine Calls.mono (cvc C.plain_ok C.mixed Tryz.func38 rfl h) ?_
 rintro e w' ⟨s,rfl,hK⟩
 exact ⟨s.1,rfl,hK⟩
def qig (l:Option Addr) (w:World) (K:Int→World→Prop):Prop :=onPtr l fun t4 =>ldSl (t4.add 27) w fun t6 =>K ((t6.n:Nat):Int) w
def qyp:List Ann:=[.none,.none]
theorem qzn (l:Option Addr) (w:World) (K:Int→World→Prop) :
  vcFn C (Tryz.f39.body.getD .skip) Tryz.f39.results.toList Tryz.f39.ntmps qyp [(Kind.int .i64)] [(.pointer l)] w (fun s w=>K s.1 w)=qig l w K:=by kernel_rfl
theorem qu7 (l:Option Addr) {w:World} {K:Int→World→Prop} (h:qig l w K):qja l w K:=by
 rw [←qzn] at h
 refine Calls.mono (cvc C.plain_ok C.mixed Tryz.func39 rfl h) ?_
 rintro e w' ⟨s,rfl,hK⟩
 exact ⟨s.1,rfl,hK⟩
def qia (l:Option Addr) (w:World) (K:T_api_Matrix→Int→World→Prop):Prop :=nw qal [(.int .i64 0),(.int .i64 0),(.slice none 0 0)] w fun t2 w1 =>onPtr l fun t10 =>ldB (t10.add 28) w1 fun t12 =>cond t12 (stK t2 [(.int .i64 0),(.int .i64 0),(.slice none 0 0)] w1 fun w2 =>ldS T_api_Matrix.rep t2 w2 fun r =>K r 7 w2) (onPtr l fun t15 =>stK (t15.add 28) [(.bool true)] w1 fun w3 =>joinP (σ:=Unit) (fun s w4 =>onPtr l fun t39 =>ldSl (t39.add 25) w4 fun t41 =>qa4 t41 w4 fun t42 w5 =>qiz l w5 fun w6 =>onPtr l fun t46 =>ldI .i64 (t46.add 27) w6 fun t48 =>cond (t48 !=(0:Int)) (onPtr l fun t52 =>ldI .i64 (t52.add 27) w6.drew fun t54 =>stK t2 [(.int .i64 0),(.int .i64 0),(.slice none 0 0)] w6.drew fun w7 =>World.cell? w7 (t52.add 27)=some (.int .i64 t54) ∧ldS T_api_Matrix.rep t2 w7 fun r_1 =>K r_1 t54 w7) (joinP (σ:=Slc×Unit) (fun s_1 w8 =>qhp l s_1.1 w8 fun t74 t74_1 w9 =>stK t2 (T_api_Matrix.rep.cells t74) w9 fun w10 =>ldS T_api_Matrix.rep t2 w10 fun r_2 =>K r_2 t74_1 w10) fun J2 =>onPtr l fun t56 =>ldI .u8 ((t56.add 1).add 2) w6 fun t59 =>cond (t59==(122:Int)) (qgz l t42 w6 fun t64 t64_1 w11 =>cond (t64_1 !=(0:Int)) (stK t2 [(.int .i64 0),(.int .i64 0),(.slice none 0 0)] w11 fun w12 =>ldS T_api_Matrix.rep t2 w12 fun r_3 =>K r_3 t64_1 w12) (J2 (t64,()) w11)) (J2 (t42,()) w6))) fun J1 =>onPtr l fun t18 =>ldI .i64 (t18.add 27) w3 fun t20 =>cond (t20==(0:Int)) (onPtr l fun t24 =>ldP (t24.add 0) w3 fun t26 =>qg1 t26 w3 fun t27 t27_1 w13 =>cond (t27_1==(0:Int)) (qd7 l t27 w13 fun t34 w14 =>qby l t34 w14 fun w15 =>J1 (()) w15) (qby l t27_1 w13 fun w16 =>J1 (()) w16)) (J1 (()) w3))
def qxy:List Ann:=[.none,.none,.none,.none,.none,.join [] [4,5,17,18,19,20,21,22,23,24,25,26,27,28,29,30,31,32,33,34,35,36,37],.none,.none,.none,.none,.none,.none,.none,.none,.none,.join [(6,Kind.slice)] [3,6,7,8,55,56,57,58,59,60,61,62,63,64,65,66,67,68,69,70,71],.none,.none,.none,.none,.none,.none]
theorem qxw (l:Option Addr) (w:World) (K:T_api_Matrix→Int→World→Prop) :
  vcFn C (Tryz.f40.body.getD .skip) Tryz.f40.results.toList Tryz.f40.ntmps qxy [(Kind.struct T_api_Matrix.rep),(Kind.int .i64)] [(.pointer l)] w (fun s w=>K s.1 s.2.1 w)=qia l w K:=by kernel_rfl
theorem qua (l:Option Addr) {w:World} {K:T_api_Matrix→Int→World→Prop} (h:qia l w K):qeg l w K:=by
 rw [←qxw] at h
 refine Calls.mono (cvc C.plain_ok C.mixed Tryz.func40 rfl h) ?_
 rintro e w' ⟨s,rfl,hK⟩
 exact ⟨s.1,s.2.1,rfl,hK⟩
def qjd (l:Option Addr) (w:World) (K:T_api_Matrix→Int→World→Prop):Prop :=nw qao [(.int .i64 0),(.int .i64 0),(.slice none 0 0)] w fun t2 w1 =>onPtr l fun t12 =>ldB (t12.add 29) w1 fun t14 =>cond t14 (stK t2 [(.int .i64 0),(.int .i64 0),(.slice none 0 0)] w1 fun w2 =>ldS T_api_Matrix.rep t2 w2 fun r =>K r 7 w2) (onPtr l fun t17 =>stK (t17.add 29) [(.bool true)] w1 fun w3 =>joinP (σ:=Unit) (fun s w4 =>onPtr l fun t42 =>ldSl (t42.add 27) w4 fun t44 =>onPtr l fun t46 =>stK (t46.add 27) [(.slice none 0 0)] w4 fun w5 =>onPtr l fun t49 =>ldI .i64 (t49.add 28) w5 fun t51 =>cond (t51 !=(0:Int)) (onPtr l fun t55 =>ldI .i64 (t55.add 28) w5.drew fun t57 =>stK t2 [(.int .i64 0),(.int .i64 0),(.slice none 0 0)] w5.drew fun w6 =>World.cell? w6 (t55.add 28)=some (.int .i64 t57) ∧ldS T_api_Matrix.rep t2 w6 fun r_1 =>K r_1 t57 w6) (joinP (σ:=Slc×Unit) (fun s_1 w7 =>qjy l s_1.1 w7 fun t97 t97_1 w8 =>stK t2 (T_api_Matrix.rep.cells t97) w8 fun w9 =>ldS T_api_Matrix.rep t2 w9 fun r_2 =>K r_2 t97_1 w9) fun J2 =>onPtr l fun t59 =>ldI .u8 ((t59.add 0).add 2) w5 fun t62 =>cond (t62==(122:Int)) (onPtr l fun t65 =>ldI .i64 (t65.add 23) w5 fun t67 =>joinP (σ:=Int×Unit) (fun s_2 w10 =>qnf t44 s_2.1 w10 fun t81 t81_1 t81_2 w11 =>cond (t81_2 !=(0:Int)) (stK t2 [(.int .i64 0),(.int .i64 0),(.slice none 0 0)] w11 fun w12 =>ldS T_api_Matrix.rep t2 w12 fun r_3 =>K r_3 t81_2 w12) (cond (decide (t81_1<((t44.n:Nat):Int))) (stK t2 [(.int .i64 0),(.int .i64 0),(.slice none 0 0)] w11 fun w13 =>ldS T_api_Matrix.rep t2 w13 fun r_4 =>K r_4 3 w13) (J2 (t81,()) w11))) fun J3 =>onPtr l fun t69 =>ldI .i64 ((t69.add 0).add 5) w5 fun t72 =>cond (t72==(100:Int)) (onPtr l fun t75 =>ldI .i64 (t75.add 22) w5 fun t77 =>J3 (t77,()) w5) (J3 (t67,()) w5)) (J2 (t44,()) w5))) fun J1 =>onPtr l fun t20 =>ldI .i64 (t20.add 28) w3 fun t22 =>cond (t22==(0:Int)) (onPtr l fun t26 =>qkv (some (t26.add 24)) w3 fun t28 t28_1 w14 =>joinP (σ:=Int×Unit) (fun s_3 w15 =>cond (s_3.1 !=(0:Int)) (qga l s_3.1 w15 fun t40 w16 =>J1 (()) w16) (J1 (()) w15)) fun J4 =>cond (t28_1==(0:Int)) (qf9 l t28 w14 fun t35 w17 =>J4 (t35,()) w17) (J4 (t28_1,()) w14)) (J1 (()) w3))
def q17:List Ann:=[.none,.none,.none,.none,.none,.join [] [4,5,19,20,21,22,23,24,25,26,27,28,29,30,31,32,33,34,35,36,37,38,39,40],.none,.none,.join [(5,(Kind.int .i64))] [5,31,32,33,34,35],.none,.none,.none,.none,.none,.none,.none,.join [(6,Kind.slice)] [3,6,7,8,9,10,58,59,60,61,62,63,64,65,66,67,68,69,70,71,72,73,74,75,76,77,78,79,80,81,82,83,84,85,86,87,88,89,90,91,92,93,94],.none,.none,.join [(7,(Kind.int .i64))] [7,68,69,70,71,72,73,74,75,76,77],.none,.none,.none,.none,.none,.none,.none,.none,.none]
theorem q0z (l:Option Addr) (w:World) (K:T_api_Matrix→Int→World→Prop) :
  vcFn C (Tryz.f41.body.getD .skip) Tryz.f41.results.toList Tryz.f41.ntmps q17 [(Kind.struct T_api_Matrix.rep),(Kind.int .i64)] [(.pointer l)] w (fun s w=>K s.1 s.2.1 w)=qjd l w K:=by kernel_rfl
theorem qxh (l:Option Addr) {w:World} {K:T_api_Matrix→Int→World→Prop} (h:qjd l w K):qlf l w K:=by
 rw [←q0z] at h
 refine Calls.mono (cvc C.plain_ok C.mixed Tryz.func41 rfl h) ?_
 rintro e w' ⟨s,rfl,hK⟩
 exact ⟨s.1,s.2.1,rfl,hK⟩
def qr4 (a:T_api_Matrix) (b:T_api_Matrix) (w:World) (K:Bool→World→Prop):Prop :=nw qal (T_api_Matrix.rep.cells a) w fun a_1 w1 =>nw qao (T_api_Matrix.rep.cells b) w1 fun b_1 w2 =>ldS T_api_Matrix.rep a_1 w2.drew fun t5 =>ldS T_api_Matrix.rep b_1 w2.drew fun t7 =>q7n t5 w2.drew fun t6 w3 =>qbe w3 b_1 (T_api_Matrix.rep.cells t7) ∧qyj t6 t7 w3 fun t8 w4 =>K t8 w4
def zfk:List Ann:=[.none,.none]
theorem zfh (a:T_api_Matrix) (b:T_api_Matrix) (w:World) (K:Bool→World→Prop) :
  vcFn C (Tryz.f42.body.getD .skip) Tryz.f42.results.toList Tryz.f42.ntmps zfk [Kind.bool] [(.agg #[(.int .i64 a.W),(.int .i64 a.H),(.slice a.P.a a.P.n a.P.c)]),(.agg #[(.int .i64 b.W),(.int .i64 b.H),(.slice b.P.a b.P.n b.P.c)])] w (fun s w=>K s.1 w)=qr4 a b w K:=by kernel_rfl
theorem q94 (a:T_api_Matrix) (b:T_api_Matrix) {w:World} {K:Bool→World→Prop} (h:qr4 a b w K):qur a b w K:=by
 rw [←zfh] at h
 refine Calls.mono (cvc C.plain_ok C.mixed Tryz.func42 rfl h) ?_
 rintro e w' ⟨s,rfl,hK⟩
 exact ⟨s.1,rfl,hK⟩
end Go.Proofs.YtmagnpcgpinmcaaGreat
