import Derived.Test.YtmagnpcgpinmcaaGreatDefs
set_option maxRecDepth 100000
set_option linter.unusedVariables false
namespace Go.Proofs.YtmagnpcgpinmcaaGreat
open Go.Vc
def qmn (most:Int) (w:World) (K:Option Addr→Int→World→Prop):Prop :=joinP (σ:=Unit) (fun s w1 =>nw qa2 [(.int .i64 most),(.int .i64 0),(.bool false),(.slice none 0 0),(.int .i64 0),(.int .i64 0),(.pointer none),(.pointer none),(.slice none 0 0),(.int .i64 0),(.int .i64 0),(.int .i64 0),(.int .i64 0),(.int .i64 0),(.slice none 0 0)] w1 fun t12 w2 =>K (some t12) 0 w2) fun J1 =>cond (decide (most<(0:Int))) (K none 1 w) (cond (decide (most>(1073741824:Int))) (K none 1 w) (J1 (()) w))
def q7s:List Ann:=[.none,.join [] [2,3,4,5,6,7,8,9],.none,.none,.none]
theorem q7o (most:Int) (w:World) (K:Option Addr→Int→World→Prop) :
  vcFn C (Tryz.f164.body.getD .skip) Tryz.f164.results.toList Tryz.f164.ntmps q7s [Kind.ptr,(Kind.int .i64)] [(.int .i64 most)] w (fun s w=>K s.1 s.2.1 w)=qmn most w K:=by kernel_rfl
theorem q4q (most:Int) {w:World} {K:Option Addr→Int→World→Prop} (h:qmn most w K):qn8 most w K:=by
 rw [←q7o] at h
 refine Calls.mono (cvc C.plain_ok C.mixed Tryz.func164 rfl h) ?_
 rintro e w' ⟨s,rfl,hK⟩
 exact ⟨s.1,s.2.1,rfl,hK⟩
def qgq (d:Option Addr) (c:Int) (w:World) (K:Bool→World→Prop):Prop :=onPtr d fun t7 =>ldSl (t7.add 1) w fun t9 =>nw qai [(.int .u8 c)] w fun t11 w1 =>apK PG #[qab,qab] qab t9 (⟨(some t11),1,1⟩:Slc) w1 fun t12 w2 =>onPtr d fun t13 =>stK (t13.add 1) [(.slice t12.a t12.n t12.c)] w2 fun w3 =>onPtr d fun t16 =>ldSl (t16.add 1) w3 fun t18 =>cond (decide (((t18.n:Nat):Int)<(2:Int))) (cond ((bitsR .and .u8 c (15:Int))==(8:Int)) (0≤(4:Int) ∧K (decide ((c.fdiv (2^(min (4:Int).toNat IntKind.u8.bits)))≤(7:Int))) w3) (K false w3)) (onPtr d fun t30 =>ldSl (t30.add 1) w3 fun t32 =>ixK t32 0 1 fun t33 =>ldI .u8 t33 w3 fun t34 =>0≤(8:Int) ∧(31:Int)≠0 ∧cond (((bitsR .or .i64 (IntKind.i64.wrap ((IntKind.i64.wrap t34)*2^(min (8:Int).toNat IntKind.i64.bits))) (IntKind.i64.wrap c)).tmod (31:Int))==(0:Int)) (K ((bitsR .and .u8 c (32:Int))==(0:Int)) w3) (K false w3))
def qtq:List Ann:=[.none,.none,.none,.none,.none,.none]
theorem qtv (d:Option Addr) (c:Int) (w:World) (K:Bool→World→Prop) :
  vcFn C (Tryz.f165.body.getD .skip) Tryz.f165.results.toList Tryz.f165.ntmps qtq [Kind.bool] [(.pointer d),(.int .u8 c)] w (fun s w=>K s.1 w)=qgq d c w K:=by kernel_rfl
theorem qra (d:Option Addr) (c:Int) {w:World} {K:Bool→World→Prop} (h:qgq d c w K):qgw d c w K:=by
 rw [←qtv] at h
 refine Calls.mono (cvc C.plain_ok C.mixed Tryz.func165 rfl h) ?_
 rintro e w' ⟨s,rfl,hK⟩
 exact ⟨s.1,rfl,hK⟩
def qg7 (d:Option Addr) (e:Int) (w:World) (K:Int→World→Prop):Prop :=onPtr d fun t7 =>stK (t7.add 5) [(.int .i64 e)] w fun w1 =>K e w1
def qvz:List Ann:=[.none,.none,.none]
theorem qvr (d:Option Addr) (e:Int) (w:World) (K:Int→World→Prop) :
  vcFn C (Tryz.f166.body.getD .skip) Tryz.f166.results.toList Tryz.f166.ntmps qvz [(Kind.int .i64)] [(.pointer d),(.int .i64 e)] w (fun s w=>K s.1 w)=qg7 d e w K:=by kernel_rfl
theorem qr8 (d:Option Addr) (e:Int) {w:World} {K:Int→World→Prop} (h:qg7 d e w K):qbb d e w K:=by
 rw [←qvr] at h
 refine Calls.mono (cvc C.plain_ok C.mixed Tryz.func166 rfl h) ?_
 rintro e w' ⟨s,rfl,hK⟩
 exact ⟨s.1,rfl,hK⟩
def qez (d:Option Addr) (w:World) (K:Int→World→Prop):Prop :=onPtr d fun t4 =>ldI .i64 (t4.add 12) w fun t6 =>K t6 w
def qqx:List Ann:=[.none,.none]
theorem qqk (d:Option Addr) (w:World) (K:Int→World→Prop) :
  vcFn C (Tryz.f167.body.getD .skip) Tryz.f167.results.toList Tryz.f167.ntmps qqx [(Kind.int .i64)] [(.pointer d)] w (fun s w=>K s.1 w)=qez d w K:=by kernel_rfl
theorem qnz (d:Option Addr) {w:World} {K:Int→World→Prop} (h:qez d w K):qdn d w K:=by
 rw [←qqk] at h
 refine Calls.mono (cvc C.plain_ok C.mixed Tryz.func167 rfl h) ?_
 rintro e w' ⟨s,rfl,hK⟩
 exact ⟨s.1,rfl,hK⟩
def qey (d:Option Addr) (b:Slc) (w:World) (K:Slc→Int→World→Prop):Prop :=onPtr d fun t12 =>ldI .i64 (t12.add 12) w fun t14 =>onPtr d fun t18 =>stK (t18.add 12) [(.int .i64 (IntKind.i64.wrap (t14+((b.n:Nat):Int))))] w fun w1 =>onPtr d fun t22 =>ldI .i64 (t22.add 13) w1 fun t24 =>cond (t24 !=(0:Int)) (onPtr d fun t27 =>ldI .i64 (t27.add 13) w1.drew fun t29 =>K (⟨none,0,0⟩:Slc) t29 w1.drew) (onPtr d fun t32 =>ldI .i64 (t32.add 1) w1 fun t34 =>cond (t34==(5:Int)) (K (⟨none,0,0⟩:Slc) 0 w1) (onPtr d fun t38 =>ldSl (t38.add 3) w1 fun t40 =>nw qab [(.slice t40.a t40.n t40.c),(.slice b.a b.n b.c)] w1 fun t42 w2 =>qa4 (⟨(some t42),2,2⟩:Slc) w2 fun t43 w3 =>onPtr d fun t44 =>stK (t44.add 3) [(.slice t43.a t43.n t43.c)] w3 fun w4 =>onPtr d fun t47 =>ldSl (t47.add 3) w4 fun t49 =>qhb t49 w4 fun t50 w5 =>onPtr d fun t53 =>ldI .i64 (t53.add 4) w5 fun t55 =>qaq t50 t55 w5 fun t56 t56_1 w6 =>loopP (σ:=Int×Unit) (fun I1 s w7 =>joinP (σ:=Unit) (fun s_1 w8 =>qa6 t50 w8 fun t67 w9 =>qf7 d t50 w9 fun t70 w10 =>cond (t70==(2:Int)) (qft t50 t67 w10 fun w11 =>I1 (t70,()) w11) (I1 (t70,()) w10)) fun J2 =>cond (s.1==(0:Int)) (onPtr d fun t61 =>ldI .i64 (t61.add 1) w7 fun t63 =>cond (t63 !=(5:Int)) (J2 (()) w7) (qa6 t50 w7 fun t77 w12 =>(8:Int)≠0 ∧joinP (σ:=Int×Unit) (fun s_2 w13 =>onPtr d fun t89 =>ldI .i64 (t89.add 11) w13 fun t91 =>onPtr d fun t94 =>stK (t94.add 11) [(.int .i64 (IntKind.i64.wrap (t91+s_2.1)))] w13 fun w14 =>qa6 t50 w14 fun t98 w15 =>(8:Int)≠0 ∧onPtr d fun t100 =>stK (t100.add 4) [(.int .i64 (t98.tmod (8:Int)))] w15 fun w16 =>onPtr d fun t104 =>ldSl (t104.add 3) w16 fun t106 =>slK t106 (some s_2.1) none 1 fun t108 =>qas t108 w16 fun t109 w17 =>onPtr d fun t110 =>stK (t110.add 3) [(.slice t109.a t109.n t109.c)] w17 fun w18 =>joinP (σ:=Unit) (fun s_3 w19 =>onPtr d fun t121 =>ldSl (t121.add 14) w19 fun t123 =>onPtr d fun t125 =>stK (t125.add 14) [(.slice none 0 0)] w19 fun w20 =>joinP (σ:=Unit) (fun s_4 w21 =>onPtr d fun t145 =>ldI .i64 (t145.add 10) w21 fun t147 =>onPtr d fun t151 =>stK (t151.add 10) [(.int .i64 (IntKind.i64.wrap (t147+((t123.n:Nat):Int))))] w21 fun w22 =>K t123 0 w22) fun J5 =>joinP (σ:=Bool×Unit) (fun s_5 w23 =>cond s_5.1 (onPtr d fun t137 =>stK (t137.add 13) [(.int .i64 s.1)] w23 fun w24 =>onPtr d fun t139 =>stK (t139.add 3) [(.slice none 0 0)] w24 fun w25 =>onPtr d fun t141 =>stK (t141.add 8) [(.slice none 0 0)] w25 fun w26 =>K (⟨none,0,0⟩:Slc) s.1 w26) (J5 (()) w23)) fun J6 =>cond (s.1 !=(0:Int)) (J6 ((s.1 !=(2:Int)),()) w20) (J6 (false,()) w20)) fun J4 =>onPtr d fun t113 =>ldI .i64 (t113.add 1) w18 fun t115 =>cond (t115==(5:Int)) (onPtr d fun t118 =>stK (t118.add 3) [(.slice none 0 0)] w18 fun w27 =>J4 (()) w27) (J4 (()) w18)) fun J3 =>onPtr d fun t80 =>ldI .i64 (t80.add 1) w12 fun t82 =>cond (t82==(5:Int)) (qa6 t50 w12 fun t85 w28 =>(8:Int)≠0 ∧J3 ((IntKind.i64.wrap ((IntKind.i64.wrap (t85+(7:Int))).tdiv (8:Int))),()) w28) (J3 ((IntKind.i64.wrap (t77.tdiv (8:Int))),()) w12))) (qa6 t50 w7 fun t77_1 w29 =>(8:Int)≠0 ∧joinP (σ:=Int×Unit) (fun s_6 w30 =>onPtr d fun t89_1 =>ldI .i64 (t89_1.add 11) w30 fun t91_1 =>onPtr d fun t94_1 =>stK (t94_1.add 11) [(.int .i64 (IntKind.i64.wrap (t91_1+s_6.1)))] w30 fun w31 =>qa6 t50 w31 fun t98_1 w32 =>(8:Int)≠0 ∧onPtr d fun t100_1 =>stK (t100_1.add 4) [(.int .i64 (t98_1.tmod (8:Int)))] w32 fun w33 =>onPtr d fun t104_1 =>ldSl (t104_1.add 3) w33 fun t106_1 =>slK t106_1 (some s_6.1) none 1 fun t108_1 =>qas t108_1 w33 fun t109_1 w34 =>onPtr d fun t110_1 =>stK (t110_1.add 3) [(.slice t109_1.a t109_1.n t109_1.c)] w34 fun w35 =>joinP (σ:=Unit) (fun s_7 w36 =>onPtr d fun t121_1 =>ldSl (t121_1.add 14) w36 fun t123_1 =>onPtr d fun t125_1 =>stK (t125_1.add 14) [(.slice none 0 0)] w36 fun w37 =>joinP (σ:=Unit) (fun s_8 w38 =>onPtr d fun t145_1 =>ldI .i64 (t145_1.add 10) w38 fun t147_1 =>onPtr d fun t151_1 =>stK (t151_1.add 10) [(.int .i64 (IntKind.i64.wrap (t147_1+((t123_1.n:Nat):Int))))] w38 fun w39 =>K t123_1 0 w39) fun J9 =>joinP (σ:=Bool×Unit) (fun s_9 w40 =>cond s_9.1 (onPtr d fun t137_1 =>stK (t137_1.add 13) [(.int .i64 s.1)] w40 fun w41 =>onPtr d fun t139_1 =>stK (t139_1.add 3) [(.slice none 0 0)] w41 fun w42 =>onPtr d fun t141_1 =>stK (t141_1.add 8) [(.slice none 0 0)] w42 fun w43 =>K (⟨none,0,0⟩:Slc) s.1 w43) (J9 (()) w40)) fun J10 =>cond (s.1 !=(0:Int)) (J10 ((s.1 !=(2:Int)),()) w37) (J10 (false,()) w37)) fun J8 =>onPtr d fun t113_1 =>ldI .i64 (t113_1.add 1) w35 fun t115_1 =>cond (t115_1==(5:Int)) (onPtr d fun t118_1 =>stK (t118_1.add 3) [(.slice none 0 0)] w35 fun w44 =>J8 (()) w44) (J8 (()) w35)) fun J7 =>onPtr d fun t80_1 =>ldI .i64 (t80_1.add 1) w29 fun t82_1 =>cond (t82_1==(5:Int)) (qa6 t50 w29 fun t85_1 w45 =>(8:Int)≠0 ∧J7 ((IntKind.i64.wrap ((IntKind.i64.wrap (t85_1+(7:Int))).tdiv (8:Int))),()) w45) (J7 ((IntKind.i64.wrap (t77_1.tdiv (8:Int))),()) w29))) (0,()) w6))
def qqo:List Ann:=[.none,.none,.none,.none,.none,.none,.none,.none,.none,.none,.none,.none,.join [(7,(Kind.int .i64))] [7,8,57,58,59,60,61,62,63,64,65,66,67,68,69,70,71,72,73,74,75],.join [] [57,58,59,60,61,62,63,64,65],.none,.none,.none,.none,.none,.join [(9,(Kind.int .i64))] [9,79,80,81,82,83,84,85,86,87],.none,.none,.none,.none,.join [] [112,113,114,115,116,117,118,119],.none,.none,.none,.join [] [4,5,127,128,129,130,131,132,133,134,135,136,137,138,139,140,141,142,143],.join [(132,Kind.bool)] [127,128,129,130,131,132],.none,.none,.none,.none]
theorem qpy (d:Option Addr) (b:Slc) (w:World) (K:Slc→Int→World→Prop) :
  vcFn C (Tryz.f168.body.getD .skip) Tryz.f168.results.toList Tryz.f168.ntmps qqo [Kind.slice,(Kind.int .i64)] [(.pointer d),(.slice b.a b.n b.c)] w (fun s w=>K s.1 s.2.1 w)=qey d b w K:=by kernel_rfl
theorem qnu (d:Option Addr) (b:Slc) {w:World} {K:Slc→Int→World→Prop} (h:qey d b w K):qcm d b w K:=by
 rw [←qpy] at h
 refine Calls.mono (cvc C.plain_ok C.mixed Tryz.func168 rfl h) ?_
 rintro e w' ⟨s,rfl,hK⟩
 exact ⟨s.1,s.2.1,rfl,hK⟩
def qfi (d:Option Addr) (w:World) (K:Bool→World→Prop):Prop :=onPtr d fun t4 =>ldI .i64 (t4.add 1) w fun t6 =>cond (t6==(5:Int)) (onPtr d fun t10 =>ldI .i64 (t10.add 13) w fun t12 =>K (t12==(0:Int)) w) (K false w)
def qre:List Ann:=[.none,.none]
theorem qrf (d:Option Addr) (w:World) (K:Bool→World→Prop) :
  vcFn C (Tryz.f169.body.getD .skip) Tryz.f169.results.toList Tryz.f169.ntmps qre [Kind.bool] [(.pointer d)] w (fun s w=>K s.1 w)=qfi d w K:=by kernel_rfl
theorem qo9 (d:Option Addr) {w:World} {K:Bool→World→Prop} (h:qfi d w K):qb7 d w K:=by
 rw [←qrf] at h
 refine Calls.mono (cvc C.plain_ok C.mixed Tryz.func169 rfl h) ?_
 rintro e w' ⟨s,rfl,hK⟩
 exact ⟨s.1,rfl,hK⟩
def qfb (d:Option Addr) (w:World) (K:Int→World→Prop):Prop :=qb7 d w fun t4 w1 =>cond t4 (onPtr d fun t6 =>ldI .i64 (t6.add 11) w1 fun t8 =>K t8 w1) (onPtr d fun t10 =>ldI .i64 (t10.add 12) w1 fun t12 =>K t12 w1)
def qrp:List Ann:=[.none,.none,.none,.none,.none]
theorem qrj (d:Option Addr) (w:World) (K:Int→World→Prop) :
  vcFn C (Tryz.f170.body.getD .skip) Tryz.f170.results.toList Tryz.f170.ntmps qrp [(Kind.int .i64)] [(.pointer d)] w (fun s w=>K s.1 w)=qfb d w K:=by kernel_rfl
theorem qo3 (d:Option Addr) {w:World} {K:Int→World→Prop} (h:qfb d w K):qb6 d w K:=by
 rw [←qrj] at h
 refine Calls.mono (cvc C.plain_ok C.mixed Tryz.func170 rfl h) ?_
 rintro e w' ⟨s,rfl,hK⟩
 exact ⟨s.1,rfl,hK⟩
def qny (wx:Int) (hx:Int) (w:World) (K:Bool→World→Prop):Prop :=cond (wx==(0:Int)) (cond (hx==(0:Int)) (K true w) (cond (decide (wx≥(1:Int))) (cond (decide (wx≤(16384:Int))) (cond (decide (hx≥(1:Int))) (cond (decide (hx≤(16384:Int))) (K (decide ((IntKind.i64.wrap (wx*hx))≤(67108864:Int))) w) (K false w)) (K false w)) (K false w)) (K false w))) (cond (decide (wx≥(1:Int))) (cond (decide (wx≤(16384:Int))) (cond (decide (hx≥(1:Int))) (cond (decide (hx≤(16384:Int))) (K (decide ((IntKind.i64.wrap (wx*hx))≤(67108864:Int))) w) (K false w)) (K false w)) (K false w)) (K false w))
def q9t:List Ann:=[.none,.none]
theorem zah (wx:Int) (hx:Int) (w:World) (K:Bool→World→Prop) :
  vcFn C (Tryz.f171.body.getD .skip) Tryz.f171.results.toList Tryz.f171.ntmps q9t [Kind.bool] [(.int .i64 wx),(.int .i64 hx)] w (fun s w=>K s.1 w)=qny wx hx w K:=by kernel_rfl
theorem q5p (wx:Int) (hx:Int) {w:World} {K:Bool→World→Prop} (h:qny wx hx w K):qp5 wx hx w K:=by
 rw [←zah] at h
 refine Calls.mono (cvc C.plain_ok C.mixed Tryz.func171 rfl h) ?_
 rintro e w' ⟨s,rfl,hK⟩
 exact ⟨s.1,rfl,hK⟩
def qjk (hx:T_png_Head) (v:Int) (w:World) (K:Int→World→Prop):Prop :=nw qa9 (T_png_Head.rep.cells hx) w fun hx_1 w1 =>ldI .i64 (hx_1.add 2) w1 fun t6 =>cond (t6==(8:Int)) (K (IntKind.u8.wrap v) w1) (cond (t6==(16:Int)) (0≤(8:Int) ∧K (IntKind.u8.wrap (v.fdiv (2^(min (8:Int).toNat IntKind.i64.bits)))) w1) (ldI .i64 (hx_1.add 2) w1 fun t18 =>0≤t18 ∧qjq v (IntKind.i64.wrap ((IntKind.i64.wrap ((1:Int)*2^(min t18.toNat IntKind.i64.bits)))-(1:Int))) 255 w1 fun t21 w2 =>K (IntKind.u8.wrap t21) w2))
def q2d:List Ann:=[.none,.none,.none,.none,.none,.none,.none,.none]
theorem q1c (hx:T_png_Head) (v:Int) (w:World) (K:Int→World→Prop) :
  vcFn C (Tryz.f172.body.getD .skip) Tryz.f172.results.toList Tryz.f172.ntmps q2d [(Kind.int .u8)] [(.agg #[(.int .i64 hx.W),(.int .i64 hx.H),(.int .i64 hx.Depth),(.int .i64 hx.Color),(.int .i64 hx.Lace)]),(.int .i64 v)] w (fun s w=>K s.1 w)=qjk hx v w K:=by kernel_rfl
theorem qwb (hx:T_png_Head) (v:Int) {w:World} {K:Int→World→Prop} (h:qjk hx v w K):qcz hx v w K:=by
 rw [←q1c] at h
 refine Calls.mono (cvc C.plain_ok C.mixed Tryz.func172 rfl h) ?_
 rintro e w' ⟨s,rfl,hK⟩
 exact ⟨s.1,rfl,hK⟩
def qsi (a:Int) (b:Int) (c:Int) (w:World) (K:Int→World→Prop):Prop :=qqa (IntKind.i64.wrap ((IntKind.i64.wrap ((IntKind.i64.wrap a)+(IntKind.i64.wrap b)))-(IntKind.i64.wrap c))) (IntKind.i64.wrap a) w fun t22 w1 =>qqa (IntKind.i64.wrap ((IntKind.i64.wrap ((IntKind.i64.wrap a)+(IntKind.i64.wrap b)))-(IntKind.i64.wrap c))) (IntKind.i64.wrap b) w1 fun t26 w2 =>qqa (IntKind.i64.wrap ((IntKind.i64.wrap ((IntKind.i64.wrap a)+(IntKind.i64.wrap b)))-(IntKind.i64.wrap c))) (IntKind.i64.wrap c) w2 fun t30 w3 =>joinP (σ:=Bool×Unit) (fun s w4 =>cond s.1 (K a w4) (cond (decide (t26≤t30)) (K b w4) (K c w4))) fun J1 =>cond (decide (t22≤t26)) (J1 ((decide (t22≤t30)),()) w3) (J1 (false,()) w3)
def zec:List Ann:=[.none,.none,.none,.none,.none,.none,.join [(31,Kind.bool)] [31,32,33,34,35,36,37,38,39],.none,.none,.none,.none]
theorem zdf (a:Int) (b:Int) (c:Int) (w:World) (K:Int→World→Prop) :
  vcFn C (Tryz.f173.body.getD .skip) Tryz.f173.results.toList Tryz.f173.ntmps zec [(Kind.int .u8)] [(.int .u8 a),(.int .u8 b),(.int .u8 c)] w (fun s w=>K s.1 w)=qsi a b c w K:=by kernel_rfl
theorem q9e (a:Int) (b:Int) (c:Int) {w:World} {K:Int→World→Prop} (h:qsi a b c w K):qu0 a b c w K:=by
 rw [←zdf] at h
 refine Calls.mono (cvc C.plain_ok C.mixed Tryz.func173 rfl h) ?_
 rintro e w' ⟨s,rfl,hK⟩
 exact ⟨s.1,rfl,hK⟩
def qsb  (w:World) (K:Slc→Slc→World→Prop):Prop :=mkSl PG qab (.int .i64 288) (.int .i64 288) w fun t6 w1 =>loopP (σ:=Int×Unit) (fun I1 s w2 =>cond (decide (s.1<(288:Int))) (cond (decide (s.1<(144:Int))) (ixK t6 s.1 1 fun t19 =>stK t19 [(.int .u8 8)] w2 fun w3 =>I1 ((IntKind.i64.wrap (s.1+(1:Int))),()) w3) (cond (decide (s.1<(256:Int))) (ixK t6 s.1 1 fun t25 =>stK t25 [(.int .u8 9)] w2 fun w4 =>I1 ((IntKind.i64.wrap (s.1+(1:Int))),()) w4) (cond (decide (s.1<(280:Int))) (ixK t6 s.1 1 fun t31 =>stK t31 [(.int .u8 7)] w2 fun w5 =>I1 ((IntKind.i64.wrap (s.1+(1:Int))),()) w5) (ixK t6 s.1 1 fun t13 =>stK t13 [(.int .u8 8)] w2 fun w6 =>I1 ((IntKind.i64.wrap (s.1+(1:Int))),()) w6)))) (mkSl PG qab (.int .i64 30) (.int .i64 30) w2 fun t32 w7 =>loopP (σ:=Int×Unit) (fun I2 s_1 w8 =>cond (decide (s_1.1<(30:Int))) (ixK t32 s_1.1 1 fun t39 =>stK t39 [(.int .u8 5)] w8 fun w9 =>I2 ((IntKind.i64.wrap (s_1.1+(1:Int))),()) w9) (K t6 t32 w8)) (0,()) w7)) (0,()) w1
def zfp:List Ann:=[.none,.none,.none,.none,.join [(3,(Kind.int .i64))] [3,7,8,9,10,11,12,13,14,15,16,17,18,19,20,21,22,23,24,25,26,27,28,29,30,31],.none,.none,.none,.none,.none,.none,.none,.none,.none,.join [(5,(Kind.int .i64))] [5,33,34,35,36,37,38,39],.none,.none,.none,.none]
theorem zdt  (w:World) (K:Slc→Slc→World→Prop) :
  vcFn C (Tryz.f174.body.getD .skip) Tryz.f174.results.toList Tryz.f174.ntmps zfp [Kind.slice,Kind.slice] [] w (fun s w=>K s.1 s.2.1 w)=qsb  w K:=by kernel_rfl
theorem zae  {w:World} {K:Slc→Slc→World→Prop} (h:qsb  w K):qv0  w K:=by
 rw [←zdt] at h
 refine Calls.mono (cvc C.plain_ok C.mixed Tryz.func174 rfl h) ?_
 rintro e w' ⟨s,rfl,hK⟩
 exact ⟨s.1,s.2.1,rfl,hK⟩
def qz2 (l:Slc) (w:World) (K:Option Addr→Int→World→Prop):Prop :=cond (decide (((l.n:Nat):Int)>(320:Int))) (K none 1 w) (loopP (σ:=Int×Int×Int×Unit) (fun I1 s w1 =>cond (decide (s.2.2.1<((l.n:Nat):Int))) (ixK l s.2.2.1 1 fun t23 =>ldI .u8 t23 w1 fun t24 =>cond (decide (t24>(15:Int))) (K none 1 w1) (ixK l s.2.2.1 1 fun t28 =>ldI .u8 t28 w1 fun t29 =>cond (decide (t29>(0:Int))) (ixK l s.2.2.1 1 fun t35 =>ldI .u8 t35 w1 fun t36 =>I1 ((IntKind.i64.wrap (s.1+(1:Int))),(IntKind.i64.wrap t36),(IntKind.i64.wrap (s.2.2.1+(1:Int))),()) w1) (I1 (s.1,s.2.1,(IntKind.i64.wrap (s.2.2.1+(1:Int))),()) w1))) (qn1 l w1 fun t39 w2 =>joinP (σ:=Unit) (fun s_1 w3 =>(nw qai [] w3.drew fun t59 w4 =>(apK PG #[qab,qab] qab (⟨(some t59),0,0⟩:Slc) l w4 fun t61 w5 =>mkSl PG qc9 (.int .i64 ((l.n:Nat):Int)) (.int .i64 ((l.n:Nat):Int)) w5 fun t64 w6 =>nw qfz [(.slice t61.a t61.n t61.c),(.slice t64.a t64.n t64.c)] w6 fun t66 w7 =>loopP (σ:=Int×Int×Unit) (fun I3 s_2 w8 =>cond (decide (s_2.2.1≤(15:Int))) (loopP (σ:=Int×Int×Unit) (fun I4 s_3 w9 =>cond (decide (s_3.2.1<((l.n:Nat):Int))) (ixK l s_3.2.1 1 fun t79 =>ldI .u8 t79 w9 fun t80 =>cond ((IntKind.i64.wrap t80)==s_2.2.1) (ldSl (t66.add 1) w9 fun t87 =>ixK t87 s_3.2.1 1 fun t90 =>stK t90 [(.int .u32 s_3.1)] w9 fun w10 =>I4 ((IntKind.u32.wrap (s_3.1+(1:Int))),(IntKind.i64.wrap (s_3.2.1+(1:Int))),()) w10) (I4 (s_3.1,(IntKind.i64.wrap (s_3.2.1+(1:Int))),()) w9)) (0≤(1:Int) ∧I3 ((IntKind.u32.wrap (s_3.1*2^(min (1:Int).toNat IntKind.u32.bits))),(IntKind.i64.wrap (s_2.2.1+(1:Int))),()) w9)) (s_2.1,0,()) w8) (K (some t66) 0 w8)) (0,1,()) w7) ∧mkSl PG qc9 (.int .i64 ((l.n:Nat):Int)) (.int .i64 ((l.n:Nat):Int)) w4 fun t64_1 w11 =>apK PG #[qab,qab] qab (⟨(some t59),0,0⟩:Slc) l w11 fun t61_1 w12 =>nw qfz [(.slice t61_1.a t61_1.n t61_1.c),(.slice t64_1.a t64_1.n t64_1.c)] w12 fun t66_1 w13 =>loopP (σ:=Int×Int×Unit) (fun I5 s_4 w14 =>cond (decide (s_4.2.1≤(15:Int))) (loopP (σ:=Int×Int×Unit) (fun I6 s_5 w15 =>cond (decide (s_5.2.1<((l.n:Nat):Int))) (ixK l s_5.2.1 1 fun t79_1 =>ldI .u8 t79_1 w15 fun t80_1 =>cond ((IntKind.i64.wrap t80_1)==s_4.2.1) (ldSl (t66_1.add 1) w15 fun t87_1 =>ixK t87_1 s_5.2.1 1 fun t90_1 =>stK t90_1 [(.int .u32 s_5.1)] w15 fun w16 =>I6 ((IntKind.u32.wrap (s_5.1+(1:Int))),(IntKind.i64.wrap (s_5.2.1+(1:Int))),()) w16) (I6 (s_5.1,(IntKind.i64.wrap (s_5.2.1+(1:Int))),()) w15)) (0≤(1:Int) ∧I5 ((IntKind.u32.wrap (s_5.1*2^(min (1:Int).toNat IntKind.u32.bits))),(IntKind.i64.wrap (s_4.2.1+(1:Int))),()) w15)) (s_4.1,0,()) w14) (K (some t66_1) 0 w14)) (0,1,()) w13) ∧mkSl PG qc9 (.int .i64 ((l.n:Nat):Int)) (.int .i64 ((l.n:Nat):Int)) w3.drew fun t64_2 w17 =>nw qai [] w17 fun t59_1 w18 =>apK PG #[qab,qab] qab (⟨(some t59_1),0,0⟩:Slc) l w18 fun t61_2 w19 =>nw qfz [(.slice t61_2.a t61_2.n t61_2.c),(.slice t64_2.a t64_2.n t64_2.c)] w19 fun t66_2 w20 =>loopP (σ:=Int×Int×Unit) (fun I7 s_6 w21 =>cond (decide (s_6.2.1≤(15:Int))) (loopP (σ:=Int×Int×Unit) (fun I8 s_7 w22 =>cond (decide (s_7.2.1<((l.n:Nat):Int))) (ixK l s_7.2.1 1 fun t79_2 =>ldI .u8 t79_2 w22 fun t80_2 =>cond ((IntKind.i64.wrap t80_2)==s_6.2.1) (ldSl (t66_2.add 1) w22 fun t87_2 =>ixK t87_2 s_7.2.1 1 fun t90_2 =>stK t90_2 [(.int .u32 s_7.1)] w22 fun w23 =>I8 ((IntKind.u32.wrap (s_7.1+(1:Int))),(IntKind.i64.wrap (s_7.2.1+(1:Int))),()) w23) (I8 (s_7.1,(IntKind.i64.wrap (s_7.2.1+(1:Int))),()) w22)) (0≤(1:Int) ∧I7 ((IntKind.u32.wrap (s_7.1*2^(min (1:Int).toNat IntKind.u32.bits))),(IntKind.i64.wrap (s_6.2.1+(1:Int))),()) w22)) (s_6.1,0,()) w21) (K (some t66_2) 0 w21)) (0,1,()) w20) fun J2 =>cond (decide (t39>(0:Int))) (K none 3 w2) (cond (decide (t39<(0:Int))) (cond (decide (s.1>(0:Int))) (cond (s.1==(1:Int)) (cond (!(s.2.1==(1:Int))) (K none 3 w2) (J2 (()) w2)) (K none 3 w2)) (J2 (()) w2)) (J2 (()) w2)))) (0,0,0,()) w)
def zjd:List Ann:=[.none,.none,.none,.none,.none,.none,.none,.none,.join [(4,(Kind.int .i64)),(5,(Kind.int .i64)),(6,(Kind.int .i64))] [2,3,4,5,6,15,16,17,18,19,20,21,22,23,24,25,26,27,28,29,30,31,32,33,34,35,36,37],.none,.none,.none,.none,.none,.none,.none,.none,.none,.join [] [2,3,40,41,42,43,44,45,46,47,48,49,50,51,52,53,54,55,56,57,58],.none,.none,.none,.none,.none,.none,.join [(9,(Kind.int .u32)),(10,(Kind.int .i64))] [9,10,11,67,68,69,70,71,72,73,74,75,76,77,78,79,80,81,82,83,84,85,86,87,88,89,90,91,92,93,94],.none,.none,.none,.none,.none,.join [(9,(Kind.int .u32)),(11,(Kind.int .i64))] [9,11,71,72,73,74,75,76,77,78,79,80,81,82,83,84,85,86,87,88,89,90,91,92],.none,.none,.none,.none,.none,.none]
theorem zjb (l:Slc) (w:World) (K:Option Addr→Int→World→Prop) :
  vcFn C (Tryz.f175.body.getD .skip) Tryz.f175.results.toList Tryz.f175.ntmps zjd [Kind.ptr,(Kind.int .i64)] [(.slice l.a l.n l.c)] w (fun s w=>K s.1 s.2.1 w)=qz2 l w K:=by kernel_rfl
theorem zey (l:Slc) {w:World} {K:Option Addr→Int→World→Prop} (h:qz2 l w K):qk6 l w K:=by
 rw [←zjb] at h
 refine Calls.mono (cvc C.plain_ok C.mixed Tryz.func175 rfl h) ?_
 rintro e w' ⟨s,rfl,hK⟩
 exact ⟨s.1,s.2.1,rfl,hK⟩
def qnc (b:Slc) (w:World) (K:Bool→World→Prop):Prop :=qe5 b ((.func (.func q3e) #[] #[]):Value) w fun t4 w1 =>K (!t4) w1
def q73:List Ann:=[.none,.none]
theorem q64 (b:Slc) (w:World) (K:Bool→World→Prop) :
  vcFn C (Tryz.f179.body.getD .skip) Tryz.f179.results.toList Tryz.f179.ntmps q73 [Kind.bool] [(.slice b.a b.n b.c)] w (fun s w=>K s.1 w)=qnc b w K:=by kernel_rfl
theorem q32 (b:Slc) {w:World} {K:Bool→World→Prop} (h:qnc b w K):qoj b w K:=by
 rw [←q64] at h
 refine Calls.mono (cvc C.plain_ok C.mixed Tryz.func179 rfl h) ?_
 rintro e w' ⟨s,rfl,hK⟩
 exact ⟨s.1,rfl,hK⟩
def qsq (c:Int) (w:World) (K:Int→World→Prop):Prop :=joinP (σ:=Bool×Unit) (fun s w1 =>cond s.1 (K (IntKind.i64.wrap (IntKind.u8.wrap (c-(65:Int)))) w1) (joinP (σ:=Bool×Unit) (fun s_1 w2 =>cond s_1.1 (K (IntKind.i64.wrap ((IntKind.i64.wrap (IntKind.u8.wrap (c-(97:Int))))+(26:Int))) w2) (joinP (σ:=Bool×Unit) (fun s_2 w3 =>cond s_2.1 (K (IntKind.i64.wrap ((IntKind.i64.wrap (IntKind.u8.wrap (c-(48:Int))))+(52:Int))) w3) (cond (c==(43:Int)) (K 62 w3) (cond (c==(47:Int)) (K 63 w3) (K (-1) w3)))) fun J3 =>cond (decide (c≥(48:Int))) (J3 ((decide (c≤(57:Int))),()) w2) (J3 (false,()) w2))) fun J2 =>cond (decide (c≥(97:Int))) (J2 ((decide (c≤(122:Int))),()) w1) (J2 (false,()) w1))) fun J1 =>cond (decide (c≥(65:Int))) (J1 ((decide (c≤(90:Int))),()) w) (J1 (false,()) w)
def zd5:List Ann:=[.none,.none,.join [(3,Kind.bool)] [3,4,5,6,7,8,9],.none,.join [(13,Kind.bool)] [13,14,15,16,17,18,19],.none,.join [(24,Kind.bool)] [24,25,26,27,28,29,30],.none,.none,.none,.none,.none,.none]
theorem zfc (c:Int) (w:World) (K:Int→World→Prop) :
  vcFn C (Tryz.f181.body.getD .skip) Tryz.f181.results.toList Tryz.f181.ntmps zd5 [(Kind.int .i64)] [(.int .u8 c)] w (fun s w=>K s.1 w)=qsq c w K:=by kernel_rfl
theorem q99 (c:Int) {w:World} {K:Int→World→Prop} (h:qsq c w K):qo5 c w K:=by
 rw [←zfc] at h
 refine Calls.mono (cvc C.plain_ok C.mixed Tryz.func181 rfl h) ?_
 rintro e w' ⟨s,rfl,hK⟩
 exact ⟨s.1,rfl,hK⟩
def qom (wx:Int) (hx:Int) (per:Int) (b:Slc) (w:World) (K:T_api_Matrix→Int→World→Prop):Prop :=nw qal [(.int .i64 0),(.int .i64 0),(.slice none 0 0)] w fun t8 w1 =>qki wx hx w1 fun t16 t16_1 w2 =>nw qal [(.int .i64 0),(.int .i64 0),(.slice none 0 0)] w2 fun m w3 =>stK m (T_api_Matrix.rep.cells t16) w3 fun w4 =>joinP (σ:=Int×Unit) (fun s w5 =>cond (s.1 !=(0:Int)) (stK t8 [(.int .i64 0),(.int .i64 0),(.slice none 0 0)] w5 fun w6 =>ldS T_api_Matrix.rep t8 w6 fun r =>K r s.1 w6) (loopP (σ:=Int×Unit) (fun I2 s_1 w7 =>cond (decide (s_1.1<(IntKind.i64.wrap (wx*hx)))) (ldSl (m.add 2) w7 fun t51 =>ixK t51 (IntKind.i64.wrap ((IntKind.i64.wrap ((4:Int)*s_1.1))+(3:Int))) 1 fun t55 =>stK t55 [(.int .u8 255)] w7 fun w8 =>ldSl (m.add 2) w8.drew fun t57 =>slK t57 (some (IntKind.i64.wrap ((4:Int)*s_1.1))) none 1 fun t60 =>slK b (some (IntKind.i64.wrap (per*s_1.1))) (some (IntKind.i64.wrap ((IntKind.i64.wrap (per*s_1.1))+per))) 1 fun t70 =>runK1 PG (Builtin.copy_ #[qab,qab] qbh #[(.slice t60.a t60.n t60.c),(.slice t70.a t70.n t70.c)]) (Kind.int .i64) w8.drew fun (t71:Int) w9 =>I2 ((IntKind.i64.wrap (s_1.1+(1:Int))),()) w9) (ldS T_api_Matrix.rep m w7 fun t73 =>stK t8 (T_api_Matrix.rep.cells t73) w7 fun w10 =>ldS T_api_Matrix.rep t8 w10 fun r_1 =>K r_1 0 w10)) (0,()) w5)) fun J1 =>cond (t16_1 !=(0:Int)) (J1 (t16_1,()) w4) (cond (decide (((b.n:Nat):Int)<(IntKind.i64.wrap ((IntKind.i64.wrap (per*wx))*hx)))) (J1 (2,()) w4) (cond (decide (((b.n:Nat):Int)>(IntKind.i64.wrap ((IntKind.i64.wrap (per*wx))*hx)))) (J1 (5,()) w4) (J1 (t16_1,()) w4)))
def q9i:List Ann:=[.none,.none,.join [(11,(Kind.int .i64))] [11,19,20,21,22,23,24,25,26,27,28,29,30,31,32,33,34,35,36,37,38,39],.none,.none,.none,.none,.none,.none,.none,.none,.join [(47,(Kind.int .i64))] [12,47,48,49,50,51,52,53,54,55,56,57,58,59,60,61,62,63,64,65,66,67,68,69,70,71,72],.none,.none,.none,.none,.none,.none]
theorem q9h (wx:Int) (hx:Int) (per:Int) (b:Slc) (w:World) (K:T_api_Matrix→Int→World→Prop) :
  vcFn C (Tryz.f182.body.getD .skip) Tryz.f182.results.toList Tryz.f182.ntmps q9i [(Kind.struct T_api_Matrix.rep),(Kind.int .i64)] [(.int .i64 wx),(.int .i64 hx),(.int .i64 per),(.slice b.a b.n b.c)] w (fun s w=>K s.1 s.2.1 w)=qom wx hx per b w K:=by kernel_rfl
theorem q5e (wx:Int) (hx:Int) (per:Int) (b:Slc) {w:World} {K:T_api_Matrix→Int→World→Prop} (h:qom wx hx per b w K):ql4 wx hx per b w K:=by
 rw [←q9h] at h
 refine Calls.mono (cvc C.plain_ok C.mixed Tryz.func182 rfl h) ?_
 rintro e w' ⟨s,rfl,hK⟩
 exact ⟨s.1,s.2.1,rfl,hK⟩
def qsl (b:Slc) (most:Int) (w:World) (K:Slc→Int→Int→World→Prop):Prop :=nw qzf [(.slice b.a b.n b.c),(.int .i64 0)] w fun t12 w1 =>nw qs3 [(.pointer (some t12)),(.slice none 0 0),(.int .i64 most)] w1 fun t15 w2 =>loopP (σ:=Unit) (fun I1 s w3 =>qko (some t15) w3 fun t18 t18_1 w4 =>cond (t18_1 !=(0:Int)) (ldSl (t15.add 1) w4 fun t26 =>K t26 0 t18_1 w4) (cond t18 (ldSl (t15.add 1) w4.drew fun t32 =>ldP (t15.add 0) w4.drew fun t36 =>onPtr t36 fun t37 =>ldI .i64 (t37.add 1) w4.drew fun t39 =>(8:Int)≠0 ∧K t32 (IntKind.i64.wrap ((IntKind.i64.wrap (t39+(7:Int))).tdiv (8:Int))) 0 w4.drew) (I1 (()) w4))) (()) w2
def zdc:List Ann:=[.none,.none,.join [] [4,5,6,8,9,16,17,18,19,20,21,22,23,24,25,26,27,28,29,30,31,32,33,34,35,36,37,38,39,40,41],.none,.none,.none,.none,.none,.none]
theorem zfo (b:Slc) (most:Int) (w:World) (K:Slc→Int→Int→World→Prop) :
  vcFn C (Tryz.f183.body.getD .skip) Tryz.f183.results.toList Tryz.f183.ntmps zdc [Kind.slice,(Kind.int .i64),(Kind.int .i64)] [(.slice b.a b.n b.c),(.int .i64 most)] w (fun s w=>K s.1 s.2.1 s.2.2.1 w)=qsl b most w K:=by kernel_rfl
theorem q9p (b:Slc) (most:Int) {w:World} {K:Slc→Int→Int→World→Prop} (h:qsl b most w K):qpa b most w K:=by
 rw [←zfo] at h
 refine Calls.mono (cvc C.plain_ok C.mixed Tryz.func183 rfl h) ?_
 rintro e w' ⟨s,rfl,hK⟩
 exact ⟨s.1,s.2.1,s.2.2.1,rfl,hK⟩
def qqc (lengths:Slc) (w:World) (K:Int→World→Prop):Prop :=loopP (σ:=Int×Int×Unit) (fun I1 s w1 =>cond (decide (s.2.1<((lengths.n:Nat):Int))) (ixK lengths s.2.1 1 fun t10 =>ldI .u8 t10 w1 fun t11 =>joinP (σ:=Bool×Unit) (fun s_1 w2 =>cond s_1.1 (0≤t11 ∧I1 ((IntKind.i64.wrap (s.1+((32768:Int).fdiv (2^(min t11.toNat IntKind.i64.bits))))),(IntKind.i64.wrap (s.2.1+(1:Int))),()) w2) (I1 (s.1,(IntKind.i64.wrap (s.2.1+(1:Int))),()) w2)) fun J2 =>cond (decide (t11>(0:Int))) (J2 ((decide (t11≤(15:Int))),()) w1) (J2 (false,()) w1)) (K s.1 w1)) (0,0,()) w
def zb2:List Ann:=[.none,.none,.none,.none,.join [(3,(Kind.int .i64)),(8,(Kind.int .i64))] [3,5,8,9,10,11,12,13,14,15,16,17,18,19,20,21,22],.none,.none,.none,.none,.join [(17,Kind.bool)] [12,13,14,15,16,17],.none]
theorem zbq (lengths:Slc) (w:World) (K:Int→World→Prop) :
  vcFn C (Tryz.f184.body.getD .skip) Tryz.f184.results.toList Tryz.f184.ntmps zb2 [(Kind.int .i64)] [(.slice lengths.a lengths.n lengths.c)] w (fun s w=>K s.1 w)=qqc lengths w K:=by kernel_rfl
theorem q6u (lengths:Slc) {w:World} {K:Int→World→Prop} (h:qqc lengths w K):qhh lengths w K:=by
 rw [←zbq] at h
 refine Calls.mono (cvc C.plain_ok C.mixed Tryz.func184 rfl h) ?_
 rintro e w' ⟨s,rfl,hK⟩
 exact ⟨s.1,rfl,hK⟩
def qh9 (t:Option Addr) (w:World) (K:World→Prop):Prop :=loopP (σ:=Int×Int×Unit) (fun I1 s w1 =>cond (decide (s.2.1≤(15:Int))) (onPtr t fun t11 =>ldSl (t11.add 18) w1 fun t13 =>loopP (σ:=Int×Int×Unit) (fun I2 s_1 w2 =>cond (decide (s_1.2.1<((t13.n:Nat):Int))) (ixK t13 s_1.2.1 1 fun t18 =>ldI .u8 t18 w2 fun t19 =>cond ((IntKind.i64.wrap t19)==s.2.1) (onPtr t fun t26 =>ldSl (t26.add 16) w2 fun t28 =>nw qbh [(.int .i64 s_1.2.1)] w2 fun t30 w3 =>apK PG #[qlm,qlm] qlm t28 (⟨(some t30),1,1⟩:Slc) w3 fun t31 w4 =>onPtr t fun t32 =>stK (t32.add 16) [(.slice t31.a t31.n t31.c)] w4 fun w5 =>onPtr t fun t35 =>ldSl (t35.add 17) w5.drew fun t37 =>qm6 s_1.1 s.2.1 w5.drew fun t41 w6 =>World.cell? w6 (t35.add 17)=some (.slice t37.a t37.n t37.c) ∧ixK t37 s_1.2.1 1 fun t42 =>stK t42 [(.int .u32 t41)] w6 fun w7 =>I2 ((IntKind.u32.wrap (s_1.1+(1:Int))),(IntKind.i64.wrap (s_1.2.1+(1:Int))),()) w7) (I2 (s_1.1,(IntKind.i64.wrap (s_1.2.1+(1:Int))),()) w2)) (0≤(1:Int) ∧I1 ((IntKind.u32.wrap (s_1.1*2^(min (1:Int).toNat IntKind.u32.bits))),(IntKind.i64.wrap (s.2.1+(1:Int))),()) w2)) (s.1,0,()) w1) (K w1)) (0,1,()) w
def qyd:List Ann:=[.none,.none,.join [(2,(Kind.int .u32)),(3,(Kind.int .i64))] [2,3,4,5,6,7,8,9,10,11,12,13,14,15,16,17,18,19,20,21,22,23,24,25,26,27,28,29,30,31,32,33,34,35,36,37,38,39,40,41,42,43,44,45,46,47],.none,.none,.none,.none,.none,.join [(2,(Kind.int .u32)),(15,(Kind.int .i64))] [2,4,5,15,16,17,18,19,20,21,22,23,24,25,26,27,28,29,30,31,32,33,34,35,36,37,38,39,40,41,42,43,44,45],.none,.none,.none,.none,.none,.none,.none]
theorem qz0 (t:Option Addr) (w:World) (K:World→Prop) :
  vcFn C (Tryz.f185.body.getD .skip) Tryz.f185.results.toList Tryz.f185.ntmps qyd [] [(.pointer t)] w (fun s w=>K w)=qh9 t w K:=by kernel_rfl
theorem qun (t:Option Addr) {w:World} {K:World→Prop} (h:qh9 t w K):qdj t w K:=by
 rw [←qz0] at h
 refine Calls.mono (cvc C.plain_ok C.mixed Tryz.func185 rfl h) ?_
 rintro e w' ⟨s,rfl,hK⟩
 exact ⟨rfl,hK⟩
def qnw (b:Slc) (w:World) (K:Bool→World→Prop):Prop :=loopP (σ:=Int×Unit) (fun I1 s w1 =>cond (decide (s.1<(4:Int))) (ixK b s.1 1 fun t11 =>ldI .u8 t11 w1 fun t12 =>cond (decide (t12≥(65:Int))) (cond (decide (t12≤(90:Int))) (I1 ((IntKind.i64.wrap (s.1+(1:Int))),()) w1) (cond (decide (t12≥(97:Int))) (cond (!(decide (t12≤(122:Int)))) (K false w1) (I1 ((IntKind.i64.wrap (s.1+(1:Int))),()) w1)) (K false w1))) (cond (decide (t12≥(97:Int))) (cond (!(decide (t12≤(122:Int)))) (K false w1) (I1 ((IntKind.i64.wrap (s.1+(1:Int))),()) w1)) (K false w1))) (K true w1)) (0,()) w
def zaf:List Ann:=[.none,.none,.none,.join [(3,(Kind.int .i64))] [2,3,4,5,6,7,8,9,10,11,12,13,14,15,16,17,18,19,20,21,22,23,24,25,26,27],.none,.none,.none,.none,.none,.none,.none]
theorem q9k (b:Slc) (w:World) (K:Bool→World→Prop) :
  vcFn C (Tryz.f186.body.getD .skip) Tryz.f186.results.toList Tryz.f186.ntmps zaf [Kind.bool] [(.slice b.a b.n b.c)] w (fun s w=>K s.1 w)=qnw b w K:=by kernel_rfl
theorem q6d (b:Slc) {w:World} {K:Bool→World→Prop} (h:qnw b w K):qpx b w K:=by
 rw [←q9k] at h
 refine Calls.mono (cvc C.plain_ok C.mixed Tryz.func186 rfl h) ?_
 rintro e w' ⟨s,rfl,hK⟩
 exact ⟨s.1,rfl,hK⟩
def qsj (d:Int) (w:World) (K:Bool→World→Prop):Prop :=cond (d==(1:Int)) (K true w) (cond (d==(2:Int)) (K true w) (cond (d==(4:Int)) (K true w) (cond (d==(8:Int)) (K true w) (K (d==(16:Int)) w))))
def zek:List Ann:=[.none,.none]
theorem zd9 (d:Int) (w:World) (K:Bool→World→Prop) :
  vcFn C (Tryz.f187.body.getD .skip) Tryz.f187.results.toList Tryz.f187.ntmps zek [Kind.bool] [(.int .i64 d)] w (fun s w=>K s.1 w)=qsj d w K:=by kernel_rfl
theorem q9y (d:Int) {w:World} {K:Bool→World→Prop} (h:qsj d w K):qpe d w K:=by
 rw [←zd9] at h
 refine Calls.mono (cvc C.plain_ok C.mixed Tryz.func187 rfl h) ?_
 rintro e w' ⟨s,rfl,hK⟩
 exact ⟨s.1,rfl,hK⟩
def qui (wx:Int) (hx:Int) (w:World) (K:Bool→World→Prop):Prop :=cond (wx==(0:Int)) (cond (hx==(0:Int)) (K true w) (cond (decide (wx≥(1:Int))) (cond (decide (wx≤(16384:Int))) (cond (decide (hx≥(1:Int))) (cond (decide (hx≤(16384:Int))) (K (decide ((IntKind.i64.wrap (wx*hx))≤(67108864:Int))) w) (K false w)) (K false w)) (K false w)) (K false w))) (cond (decide (wx≥(1:Int))) (cond (decide (wx≤(16384:Int))) (cond (decide (hx≥(1:Int))) (cond (decide (hx≤(16384:Int))) (K (decide ((IntKind.i64.wrap (wx*hx))≤(67108864:Int))) w) (K false w)) (K false w)) (K false w)) (K false w))
def zhf:List Ann:=[.none,.none]
theorem zgp (wx:Int) (hx:Int) (w:World) (K:Bool→World→Prop) :
  vcFn C (Tryz.f188.body.getD .skip) Tryz.f188.results.toList Tryz.f188.ntmps zhf [Kind.bool] [(.int .i64 wx),(.int .i64 hx)] w (fun s w=>K s.1 w)=qui wx hx w K:=by kernel_rfl
theorem zci (wx:Int) (hx:Int) {w:World} {K:Bool→World→Prop} (h:qui wx hx w K):qyf wx hx w K:=by
 rw [←zgp] at h
 refine Calls.mono (cvc C.plain_ok C.mixed Tryz.func188 rfl h) ?_
 rintro e w' ⟨s,rfl,hK⟩
 exact ⟨s.1,rfl,hK⟩
def qkx (f:Option Addr) (v:Int) (w:World) (K:Int→World→Prop):Prop :=onPtr f fun t7 =>ldI .i64 ((t7.add 0).add 2) w fun t10 =>cond (t10==(16:Int)) ((256:Int)≠0 ∧K (IntKind.u8.wrap (IntKind.i64.wrap (v.tdiv (256:Int)))) w) (onPtr f fun t17 =>ldI .i64 ((t17.add 0).add 2) w fun t20 =>cond (t20==(8:Int)) (K (IntKind.u8.wrap v) w) (onPtr f fun t26 =>ldI .i64 ((t26.add 0).add 2) w fun t29 =>0≤(IntKind.u64.wrap t29) ∧qux v (IntKind.i64.wrap ((IntKind.i64.wrap ((1:Int)*2^(min (IntKind.u64.wrap t29).toNat IntKind.i64.bits)))-(1:Int))) 255 w fun t33 w1 =>K (IntKind.u8.wrap t33) w1))
def q3u:List Ann:=[.none,.none,.none,.none,.none,.none,.none]
theorem q4n (f:Option Addr) (v:Int) (w:World) (K:Int→World→Prop) :
  vcFn C (Tryz.f189.body.getD .skip) Tryz.f189.results.toList Tryz.f189.ntmps q3u [(Kind.int .u8)] [(.pointer f),(.int .i64 v)] w (fun s w=>K s.1 w)=qkx f v w K:=by kernel_rfl
theorem qzg (f:Option Addr) (v:Int) {w:World} {K:Int→World→Prop} (h:qkx f v w K):qde f v w K:=by
 rw [←q4n] at h
 refine Calls.mono (cvc C.plain_ok C.mixed Tryz.func189 rfl h) ?_
 rintro e w' ⟨s,rfl,hK⟩
 exact ⟨s.1,rfl,hK⟩
def qjt (f:Option Addr) (d:Slc) (w:World) (K:Int→World→Prop):Prop :=ixK d 0 1 fun t6 =>ldI .u8 t6 w.drew fun t7 =>ixK d 1 1 fun t11 =>ldI .u8 t11 w.drew fun t12 =>onPtr f fun t16 =>ldI .i64 ((t16.add 0).add 2) w.drew fun t19 =>0≤(IntKind.u64.wrap t19) ∧(IntKind.i64.wrap ((1:Int)*2^(min (IntKind.u64.wrap t19).toNat IntKind.i64.bits)))≠0 ∧K ((IntKind.i64.wrap ((IntKind.i64.wrap ((256:Int)*(IntKind.i64.wrap t7)))+(IntKind.i64.wrap t12))).tmod (IntKind.i64.wrap ((1:Int)*2^(min (IntKind.u64.wrap t19).toNat IntKind.i64.bits)))) w.drew
def q0y:List Ann:=[.none,.none]
theorem q2i (f:Option Addr) (d:Slc) (w:World) (K:Int→World→Prop) :
  vcFn C (Tryz.f190.body.getD .skip) Tryz.f190.results.toList Tryz.f190.ntmps q0y [(Kind.int .i64)] [(.pointer f),(.slice d.a d.n d.c)] w (fun s w=>K s.1 w)=qjt f d w K:=by kernel_rfl
theorem qxb (f:Option Addr) (d:Slc) {w:World} {K:Int→World→Prop} (h:qjt f d w K):qk0 f d w K:=by
 rw [←q2i] at h
 refine Calls.mono (cvc C.plain_ok C.mixed Tryz.func190 rfl h) ?_
 rintro e w' ⟨s,rfl,hK⟩
 exact ⟨s.1,rfl,hK⟩
def qjf (x:Int) (c0:Addr) (c1:Addr) (c2:Addr) (w:World) (K:Int→World→Prop):Prop :=ldI .u8 c0 w fun t7 =>ldI .u8 c1 w fun t9 =>ldI .u8 c2 w fun t12 =>K (if (IntKind.i64.wrap (0-(IntKind.i64.wrap ((IntKind.i64.wrap ((IntKind.i64.wrap ((IntKind.i64.wrap t7)+(IntKind.i64.wrap t9)))-(IntKind.i64.wrap t12)))-(IntKind.i64.wrap x)))))>(IntKind.i64.wrap ((IntKind.i64.wrap ((IntKind.i64.wrap ((IntKind.i64.wrap t7)+(IntKind.i64.wrap t9)))-(IntKind.i64.wrap t12)))-(IntKind.i64.wrap x))) then (IntKind.i64.wrap (0-(IntKind.i64.wrap ((IntKind.i64.wrap ((IntKind.i64.wrap ((IntKind.i64.wrap t7)+(IntKind.i64.wrap t9)))-(IntKind.i64.wrap t12)))-(IntKind.i64.wrap x))))) else (IntKind.i64.wrap ((IntKind.i64.wrap ((IntKind.i64.wrap ((IntKind.i64.wrap t7)+(IntKind.i64.wrap t9)))-(IntKind.i64.wrap t12)))-(IntKind.i64.wrap x)))) w
def q19:List Ann:=[.none,.none,.none]
theorem q0w (x:Int) (c0:Addr) (c1:Addr) (c2:Addr) (w:World) (K:Int→World→Prop) :
  vcFn C (Tryz.f191.body.getD .skip) Tryz.f191.results.toList Tryz.f191.ntmps q19 [(Kind.int .i64)] [(.int .u8 x),(.pointer (some c0)),(.pointer (some c1)),(.pointer (some c2))] w (fun s w=>K s.1 w)=qjf x c0 c1 c2 w K:=by kernel_rfl
theorem qwz (x:Int) (c0:Addr) (c1:Addr) (c2:Addr) {w:World} {K:Int→World→Prop} (h:qjf x c0 c1 c2 w K):qcc x c0 c1 c2 w K:=by
 rw [←q0w] at h
 refine Calls.mono (cvc C.plain_ok C.mixed Tryz.func191 rfl h) ?_
 rintro e w' ⟨s,rfl,hK⟩
 exact ⟨s.1,rfl,hK⟩
def qj8 (b:Slc) (w:World) (K:Option Addr→World→Prop):Prop :=qas b w fun t4 w1 =>nw qm1 [(.slice t4.a t4.n t4.c),(.int .i64 0)] w1 fun t6 w2 =>K (some t6) w2
def q1h:List Ann:=[.none,.none]
theorem q0x (b:Slc) (w:World) (K:Option Addr→World→Prop) :
  vcFn C (Tryz.f192.body.getD .skip) Tryz.f192.results.toList Tryz.f192.ntmps q1h [Kind.ptr] [(.slice b.a b.n b.c)] w (fun s w=>K s.1 w)=qj8 b w K:=by kernel_rfl
theorem qxj (b:Slc) {w:World} {K:Option Addr→World→Prop} (h:qj8 b w K):qhb b w K:=by
 rw [←q0x] at h
 refine Calls.mono (cvc C.plain_ok C.mixed Tryz.func192 rfl h) ?_
 rintro e w' ⟨s,rfl,hK⟩
 exact ⟨s.1,rfl,hK⟩
def qh2 (r:Option Addr) (n:Int) (w:World) (K:Int→Bool→World→Prop):Prop :=qfv r n w fun t11 t11_1 w1 =>joinP (σ:=Unit) (fun s w2 =>K t11 t11_1 w2) fun J1 =>cond t11_1 (onPtr r fun t16 =>ldI .i64 (t16.add 1) w1 fun t18 =>onPtr r fun t21 =>stK (t21.add 1) [(.int .i64 (IntKind.i64.wrap (t18+n)))] w1 fun w3 =>J1 (()) w3) (J1 (()) w1)
def qxp:List Ann:=[.none,.none,.join [] [14,15,16,17,18,19,20,21,22],.none,.none]
theorem qxo (r:Option Addr) (n:Int) (w:World) (K:Int→Bool→World→Prop) :
  vcFn C (Tryz.f193.body.getD .skip) Tryz.f193.results.toList Tryz.f193.ntmps qxp [(Kind.int .u32),Kind.bool] [(.pointer r),(.int .i64 n)] w (fun s w=>K s.1 s.2.1 w)=qh2 r n w K:=by kernel_rfl
theorem qtl (r:Option Addr) (n:Int) {w:World} {K:Int→Bool→World→Prop} (h:qh2 r n w K):qaq r n w K:=by
 rw [←qxo] at h
 refine Calls.mono (cvc C.plain_ok C.mixed Tryz.func193 rfl h) ?_
 rintro e w' ⟨s,rfl,hK⟩
 exact ⟨s.1,s.2.1,rfl,hK⟩
def qjl (r:Option Addr) (w:World) (K:Int→World→Prop):Prop :=onPtr r fun t4 =>ldI .i64 (t4.add 1) w fun t6 =>K t6 w
def q1n:List Ann:=[.none,.none]
theorem q1l (r:Option Addr) (w:World) (K:Int→World→Prop) :
  vcFn C (Tryz.f194.body.getD .skip) Tryz.f194.results.toList Tryz.f194.ntmps q1n [(Kind.int .i64)] [(.pointer r)] w (fun s w=>K s.1 w)=qjl r w K:=by kernel_rfl
theorem qw4 (r:Option Addr) {w:World} {K:Int→World→Prop} (h:qjl r w K):qa6 r w K:=by
 rw [←q1l] at h
 refine Calls.mono (cvc C.plain_ok C.mixed Tryz.func194 rfl h) ?_
 rintro e w' ⟨s,rfl,hK⟩
 exact ⟨s.1,rfl,hK⟩
def qfd (d:Option Addr) (r:Option Addr) (w:World) (K:Int→World→Prop):Prop :=onPtr d fun t6 =>ldI .i64 (t6.add 1) w fun t8 =>cond (t8==(0:Int)) (qf2 d r w fun t13 w1 =>K t13 w1) (cond (t8==(1:Int)) (qe1 d r w fun t18 w2 =>K t18 w2) (cond (t8==(2:Int)) (qff d r w fun t23 w3 =>K t23 w3) (cond (t8==(3:Int)) (qel d r w fun t28 w4 =>K t28 w4) (qf4 d r w fun t31 w5 =>K t31 w5))))
def qrn:List Ann:=[.none,.none,.none,.none,.none,.none,.none,.none,.none,.none,.none,.none]
theorem qq7 (d:Option Addr) (r:Option Addr) (w:World) (K:Int→World→Prop) :
  vcFn C (Tryz.f195.body.getD .skip) Tryz.f195.results.toList Tryz.f195.ntmps qrn [(Kind.int .i64)] [(.pointer d),(.pointer r)] w (fun s w=>K s.1 w)=qfd d r w K:=by kernel_rfl
theorem qpb (d:Option Addr) (r:Option Addr) {w:World} {K:Int→World→Prop} (h:qfd d r w K):qf7 d r w K:=by
 rw [←qq7] at h
 refine Calls.mono (cvc C.plain_ok C.mixed Tryz.func195 rfl h) ?_
 rintro e w' ⟨s,rfl,hK⟩
 exact ⟨s.1,rfl,hK⟩
def qe3 (r:Option Addr) (at_:Int) (w:World) (K:World→Prop):Prop :=onPtr r fun t8 =>ldI .i64 (t8.add 1) w fun t10 =>onPtr r fun t12 =>stK (t12.add 1) [(.int .i64 (if t10<(if (0:Int)>at_ then (0:Int) else at_) then t10 else (if (0:Int)>at_ then (0:Int) else at_)))] w fun w1 =>K w1
def qxr:List Ann:=[]
theorem qw8 (r:Option Addr) (at_:Int) (w:World) (K:World→Prop) :
  vcFn C (Tryz.f196.body.getD .skip) Tryz.f196.results.toList Tryz.f196.ntmps qxr [] [(.pointer r),(.int .i64 at_)] w (fun s w=>K w)=qe3 r at_ w K:=by kernel_rfl
theorem qli (r:Option Addr) (at_:Int) {w:World} {K:World→Prop} (h:qe3 r at_ w K):qft r at_ w K:=by
 rw [←qw8] at h
 refine Calls.mono (cvc C.plain_ok C.mixed Tryz.func196 rfl h) ?_
 rintro e w' ⟨s,rfl,hK⟩
 exact ⟨rfl,hK⟩
def qin (v:Int) (from_:Int) (to:Int) (w:World) (K:Int→World→Prop):Prop :=joinP (σ:=Unit) (fun s w1 =>(2:Int)≠0 ∧from_≠0 ∧K (IntKind.i64.wrap ((IntKind.i64.wrap ((IntKind.i64.wrap (v*to))+(IntKind.i64.wrap (from_.tdiv (2:Int))))).tdiv from_)) w1) fun J1 =>cond (decide (from_<(1:Int))) (K 0 w) (cond (decide (v<(0:Int))) (K 0 w) (cond (decide (v>from_)) (K 0 w) (cond (decide (to<(0:Int))) (K 0 w) (cond (decide (v>(0:Int))) (v≠0 ∧cond (decide (to>(IntKind.i64.wrap ((1073741824:Int).tdiv v)))) (K 0 w) (J1 (()) w)) (J1 (()) w)))))
def qx1:List Ann:=[.none,.none,.join [] [6,13,14,15,16,17,18,19,20,21,22,23,24,25,26,27,28,29,30,31,32,33,34,35,36,37],.none,.none,.none]
theorem qx3 (v:Int) (from_:Int) (to:Int) (w:World) (K:Int→World→Prop) :
  vcFn C (Tryz.f197.body.getD .skip) Tryz.f197.results.toList Tryz.f197.ntmps qx1 [(Kind.int .i64)] [(.int .i64 v),(.int .i64 from_),(.int .i64 to)] w (fun s w=>K s.1 w)=qin v from_ to w K:=by kernel_rfl
theorem qvi (v:Int) (from_:Int) (to:Int) {w:World} {K:Int→World→Prop} (h:qin v from_ to w K):qjq v from_ to w K:=by
 rw [←qx3] at h
 refine Calls.mono (cvc C.plain_ok C.mixed Tryz.func197 rfl h) ?_
 rintro e w' ⟨s,rfl,hK⟩
 exact ⟨s.1,rfl,hK⟩
def qz8 (a:Int) (b:Int) (w:World) (K:Int→World→Prop):Prop :=cond (decide (a<b)) (K (IntKind.i64.wrap (b-a)) w) (K (IntKind.i64.wrap (a-b)) w)
def ziw:List Ann:=[.none,.none,.none,.none,.none]
theorem zjx (a:Int) (b:Int) (w:World) (K:Int→World→Prop) :
  vcFn C (Tryz.f198.body.getD .skip) Tryz.f198.results.toList Tryz.f198.ntmps ziw [(Kind.int .i64)] [(.int .i64 a),(.int .i64 b)] w (fun s w=>K s.1 w)=qz8 a b w K:=by kernel_rfl
theorem zdw (a:Int) (b:Int) {w:World} {K:Int→World→Prop} (h:qz8 a b w K):qqa a b w K:=by
 rw [←zjx] at h
 refine Calls.mono (cvc C.plain_ok C.mixed Tryz.func198 rfl h) ?_
 rintro e w' ⟨s,rfl,hK⟩
 exact ⟨s.1,rfl,hK⟩
def qmt (l:Slc) (w:World) (K:Int→World→Prop):Prop :=loopP (σ:=Int×Int×Unit) (fun I1 s w1 =>cond (decide (s.2.1<((l.n:Nat):Int))) (joinP (σ:=Bool×Unit) (fun s_1 w2 =>cond s_1.1 (ixK l s.2.1 1 fun t26 =>ldI .u8 t26 w2 fun t27 =>0≤(IntKind.u64.wrap (IntKind.u8.wrap ((15:Int)-t27))) ∧I1 ((IntKind.i64.wrap (s.1+(IntKind.i64.wrap ((1:Int)*2^(min (IntKind.u64.wrap (IntKind.u8.wrap ((15:Int)-t27))).toNat IntKind.i64.bits))))),(IntKind.i64.wrap (s.2.1+(1:Int))),()) w2) (I1 (s.1,(IntKind.i64.wrap (s.2.1+(1:Int))),()) w2)) fun J2 =>ixK l s.2.1 1 fun t13 =>ldI .u8 t13 w1 fun t14 =>cond (decide (t14≥(1:Int))) (ixK l s.2.1 1 fun t19 =>ldI .u8 t19 w1 fun t20 =>J2 ((decide (t20≤(15:Int))),()) w1) (J2 (false,()) w1)) (cond (decide (s.1<(32768:Int))) (K (-1) w1) (cond (decide (s.1>(32768:Int))) (K 1 w1) (K 0 w1)))) (0,0,()) w
def q71:List Ann:=[.none,.none,.none,.none,.join [(3,(Kind.int .i64)),(4,(Kind.int .i64))] [3,4,5,6,7,8,9,10,11,12,13,14,15,16,17,18,19,20,21,22,23,24,25,26,27,28,29,30,31],.none,.none,.none,.join [(22,Kind.bool)] [11,12,13,14,15,16,17,18,19,20,21,22],.none,.none,.none,.none,.none,.none]
theorem q7i (l:Slc) (w:World) (K:Int→World→Prop) :
  vcFn C (Tryz.f199.body.getD .skip) Tryz.f199.results.toList Tryz.f199.ntmps q71 [(Kind.int .i64)] [(.slice l.a l.n l.c)] w (fun s w=>K s.1 w)=qmt l w K:=by kernel_rfl
theorem q3q (l:Slc) {w:World} {K:Int→World→Prop} (h:qmt l w K):qn1 l w K:=by
 rw [←q7i] at h
 refine Calls.mono (cvc C.plain_ok C.mixed Tryz.func199 rfl h) ?_
 rintro e w' ⟨s,rfl,hK⟩
 exact ⟨s.1,rfl,hK⟩
def qcy (s:Slc) (f:Value) (w:World) (K:Bool→World→Prop):Prop :=qgb s f w fun t7 w1 =>K (decide (t7≥(0:Int))) w1
def qkt:List Ann:=[.none,.none]
theorem qky (s:Slc) (f:Value) (w:World) (K:Bool→World→Prop) :
  vcFn C (Tryz.f201.body.getD .skip) Tryz.f201.results.toList Tryz.f201.ntmps qkt [Kind.bool] [(.slice s.a s.n s.c),f] w (fun s w=>K s.1 w)=qcy s f w K:=by kernel_rfl
theorem qj1 (s:Slc) (f:Value) {w:World} {K:Bool→World→Prop} (h:qcy s f w K):qe5 s f w K:=by
 rw [←qky] at h
 refine Calls.mono (cvc C.plain_ok C.mixed Tryz.func201 rfl h) ?_
 rintro e w' ⟨s,rfl,hK⟩
 exact ⟨s.1,rfl,hK⟩
def qkq (c:Int) (w:World) (K:Bool→World→Prop):Prop :=cond (decide ((bitsR .or .u8 c (32:Int))<(97:Int))) (K true w) (K (decide ((bitsR .or .u8 c (32:Int))>(122:Int))) w)
def q4g:List Ann:=[.none,.none]
theorem q3i (c:Int) (w:World) (K:Bool→World→Prop) :
  vcFn C (Tryz.f202.body.getD .skip) Tryz.f202.results.toList Tryz.f202.ntmps q4g [Kind.bool] [(.int .u8 c)] w (fun s w=>K s.1 w)=qkq c w K:=by kernel_rfl
theorem qzq (c:Int) {w:World} {K:Bool→World→Prop} (h:qkq c w K):qrw c w K:=by
 rw [←q3i] at h
 refine Calls.mono (cvc C.plain_ok C.mixed Tryz.func202 rfl h) ?_
 rintro e w' ⟨s,rfl,hK⟩
 exact ⟨s.1,rfl,hK⟩
end Go.Proofs.YtmagnpcgpinmcaaGreat
