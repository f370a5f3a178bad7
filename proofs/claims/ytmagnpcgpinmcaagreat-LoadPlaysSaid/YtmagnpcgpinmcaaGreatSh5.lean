import Derived.Test.YtmagnpcgpinmcaaGreatDefs
set_option maxRecDepth 100000
set_option linter.unusedVariables false
namespace Go.Proofs.YtmagnpcgpinmcaaGreat
open Go.Vc
def qjg (s:Option Addr) (w:World) (K:Bool→Int→World→Prop):Prop :=onPtr s fun t17 =>ldP (t17.add 0) w fun t19 =>qay t19 1 w fun t20 t20_1 w1 =>cond (!t20_1) (K false 2 w1) (onPtr s fun t27 =>ldP (t27.add 0) w1 fun t29 =>qay t29 2 w1 fun t30 t30_1 w2 =>cond (!t30_1) (K false 2 w2) (cond (t30==(0:Int)) (qje s w2 fun t41 w3 =>K (t20==(1:Int)) t41 w3) (cond (t30==(1:Int)) (qv0  w2 fun t45 t45_1 w4 =>qk6 t45 w4 fun t50 t50_1 w5 =>mkSl PG qab (.int .i64 32) (.int .i64 32) w5 fun t53 w6 =>loopP (σ:=Int×Unit) (fun I1 s_1 w7 =>cond (decide (s_1.1<(32:Int))) (ixK t53 s_1.1 1 fun t60 =>stK t60 [(.int .u8 5)] w7 fun w8 =>I1 ((IntKind.i64.wrap (s_1.1+(1:Int))),()) w8) (qk6 t53 w7 fun t63 t63_1 w9 =>qg0 s t50 t63 w9 fun t71 w10 =>K (t20==(1:Int)) t71 w10)) (0,()) w6) (cond (t30==(2:Int)) (qh8 s w2 fun t77 w11 =>K (t20==(1:Int)) t77 w11) (K false 3 w2)))))
def q1w:List Ann:=[.none,.none,.none,.none,.none,.none,.none,.none,.none,.none,.none,.none,.none,.none,.none,.none,.none,.none,.none,.join [(12,(Kind.int .i64))] [12,54,55,56,57,58,59,60],.none,.none,.none,.none,.none,.none,.none,.none]
theorem q0v (s:Option Addr) (w:World) (K:Bool→Int→World→Prop) :
  vcFn C (Tryz.f204.body.getD .skip) Tryz.f204.results.toList Tryz.f204.ntmps q1w [Kind.bool,(Kind.int .i64)] [(.pointer s)] w (fun s w=>K s.1 s.2.1 w)=qjg s w K:=by kernel_rfl
theorem qwu (s:Option Addr) {w:World} {K:Bool→Int→World→Prop} (h:qjg s w K):qko s w K:=by
 rw [←q0v] at h
 refine Calls.mono (cvc C.plain_ok C.mixed Tryz.func204 rfl h) ?_
 rintro e w' ⟨s,rfl,hK⟩
 exact ⟨s.1,s.2.1,rfl,hK⟩
def qlz (v:Int) (n:Int) (w:World) (K:Int→World→Prop):Prop :=joinP (σ:=Unit) (fun s w1 =>loopP (σ:=Int×Int×Int×Unit) (fun I2 s_1 w2 =>cond (decide (s_1.2.2.1<n)) (0≤(1:Int) ∧0≤(1:Int) ∧I2 ((s_1.1.fdiv (2^(min (1:Int).toNat IntKind.u32.bits))),(bitsR .or .u32 (IntKind.u32.wrap (s_1.2.1*2^(min (1:Int).toNat IntKind.u32.bits))) (bitsR .and .u32 s_1.1 (1:Int))),(IntKind.i64.wrap (s_1.2.2.1+(1:Int))),()) w2) (K s_1.2.1 w2)) (v,0,0,()) w1) fun J1 =>cond (decide (n<(0:Int))) (K 0 w) (cond (decide (n>(32:Int))) (K 0 w) (J1 (()) w))
def q44:List Ann:=[.none,.join [] [4,6,7,8,9,10,11],.none,.none,.none,.none,.none,.join [(0,(Kind.int .u32)),(5,(Kind.int .u32)),(13,(Kind.int .i64))] [0,5,13,14,15,16,17,18,19,20,21,22],.none,.none,.none,.none,.none]
theorem q6a (v:Int) (n:Int) (w:World) (K:Int→World→Prop) :
  vcFn C (Tryz.f205.body.getD .skip) Tryz.f205.results.toList Tryz.f205.ntmps q44 [(Kind.int .u32)] [(.int .u32 v),(.int .i64 n)] w (fun s w=>K s.1 w)=qlz v n w K:=by kernel_rfl
theorem q05 (v:Int) (n:Int) {w:World} {K:Int→World→Prop} (h:qlz v n w K):qm6 v n w K:=by
 rw [←q6a] at h
 refine Calls.mono (cvc C.plain_ok C.mixed Tryz.func205 rfl h) ?_
 rintro e w' ⟨s,rfl,hK⟩
 exact ⟨s.1,rfl,hK⟩
def qsv (v:Int) (from_:Int) (to:Int) (w:World) (K:Int→World→Prop):Prop :=joinP (σ:=Unit) (fun s w1 =>(2:Int)≠0 ∧from_≠0 ∧K (IntKind.i64.wrap ((IntKind.i64.wrap ((IntKind.i64.wrap (v*to))+(IntKind.i64.wrap (from_.tdiv (2:Int))))).tdiv from_)) w1) fun J1 =>cond (decide (from_<(1:Int))) (K 0 w) (cond (decide (v<(0:Int))) (K 0 w) (cond (decide (v>from_)) (K 0 w) (cond (decide (to<(0:Int))) (K 0 w) (cond (decide (v>(0:Int))) (v≠0 ∧cond (decide (to>(IntKind.i64.wrap ((1073741824:Int).tdiv v)))) (K 0 w) (J1 (()) w)) (J1 (()) w)))))
def zfa:List Ann:=[.none,.join [] [6,7,8,9,10,11,12,13,14,15,16,17,18,19,20,21,22,23,24,25,26,27,28,29,30,31],.none,.none,.none]
theorem zep (v:Int) (from_:Int) (to:Int) (w:World) (K:Int→World→Prop) :
  vcFn C (Tryz.f206.body.getD .skip) Tryz.f206.results.toList Tryz.f206.ntmps zfa [(Kind.int .i64)] [(.int .i64 v),(.int .i64 from_),(.int .i64 to)] w (fun s w=>K s.1 w)=qsv v from_ to w K:=by kernel_rfl
theorem zad (v:Int) (from_:Int) (to:Int) {w:World} {K:Int→World→Prop} (h:qsv v from_ to w K):qux v from_ to w K:=by
 rw [←zep] at h
 refine Calls.mono (cvc C.plain_ok C.mixed Tryz.func206 rfl h) ?_
 rintro e w' ⟨s,rfl,hK⟩
 exact ⟨s.1,rfl,hK⟩
def qhm (r:Option Addr) (n:Int) (w:World) (K:Int→Bool→World→Prop):Prop :=joinP (σ:=Unit) (fun s w1 =>onPtr r fun t22 =>ldI .i64 (t22.add 1) w1 fun t24 =>(8:Int)≠0 ∧(8:Int)≠0 ∧loopP (σ:=Int×Int×Unit) (fun I2 s_1 w2 =>cond (decide (s_1.2.1<(IntKind.i64.wrap ((IntKind.i64.wrap ((IntKind.i64.wrap ((t24.tmod (8:Int))+n))+(7:Int))).tdiv (8:Int))))) (onPtr r fun t36 =>ldSl (t36.add 0) w2.drew fun t38 =>onPtr r fun t40 =>ldI .i64 (t40.add 1) w2.drew fun t42 =>(8:Int)≠0 ∧ixK t38 (IntKind.i64.wrap ((IntKind.i64.wrap (t42.tdiv (8:Int)))+s_1.2.1)) 1 fun t46 =>ldI .u8 t46 w2.drew fun t47 =>0≤(IntKind.i64.wrap ((8:Int)*s_1.2.1)) ∧I2 ((bitsR .or .u64 s_1.1 (IntKind.u64.wrap ((IntKind.u64.wrap t47)*2^(min (IntKind.i64.wrap ((8:Int)*s_1.2.1)).toNat IntKind.u64.bits)))),(IntKind.i64.wrap (s_1.2.1+(1:Int))),()) w2.drew) (0≤(t24.tmod (8:Int)) ∧0≤n ∧K (IntKind.u32.wrap (bitsR .and .u64 (s_1.1.fdiv (2^(min (t24.tmod (8:Int)).toNat IntKind.u64.bits))) (IntKind.u64.wrap ((IntKind.u64.wrap ((1:Int)*2^(min n.toNat IntKind.u64.bits)))-(1:Int))))) true w2.drew)) (0,0,()) w1) fun J1 =>cond (decide (n<(0:Int))) (K 0 false w) (cond (decide (n>(32:Int))) (K 0 false w) (qfy r w fun t18 w3 =>cond (decide (n>t18)) (K 0 false w3) (J1 (()) w3)))
def qwh:List Ann:=[.none,.join [] [4,5,9,10,11,12,13,14,15,16,17,18,19,20],.none,.none,.none,.none,.none,.none,.join [(6,(Kind.int .u64)),(31,(Kind.int .i64))] [6,8,31,32,33,34,35,36,37,38,39,40,41,42,43,44,45,46,47,48,49,50,51,52,53],.none,.none,.none,.none,.none]
theorem qxi (r:Option Addr) (n:Int) (w:World) (K:Int→Bool→World→Prop) :
  vcFn C (Tryz.f207.body.getD .skip) Tryz.f207.results.toList Tryz.f207.ntmps qwh [(Kind.int .u32),Kind.bool] [(.pointer r),(.int .i64 n)] w (fun s w=>K s.1 s.2.1 w)=qhm r n w K:=by kernel_rfl
theorem qs8 (r:Option Addr) (n:Int) {w:World} {K:Int→Bool→World→Prop} (h:qhm r n w K):qfv r n w K:=by
 rw [←qxi] at h
 refine Calls.mono (cvc C.plain_ok C.mixed Tryz.func207 rfl h) ?_
 rintro e w' ⟨s,rfl,hK⟩
 exact ⟨s.1,s.2.1,rfl,hK⟩
def qfh (d:Option Addr) (r:Option Addr) (w:World) (K:Int→World→Prop):Prop :=qaq r 3 w fun t13 t13_1 w1 =>cond (!t13_1) (K 2 w1) (onPtr d fun t22 =>stK (t22.add 2) [(.bool ((bitsR .and .u32 t13 (1:Int))==(1:Int)))] w1 fun w2 =>0≤(1:Int) ∧cond ((t13.fdiv (2^(min (1:Int).toNat IntKind.u32.bits)))==(0:Int)) (onPtr d fun t35 =>stK (t35.add 1) [(.int .i64 1)] w2 fun w3 =>K 0 w3) (cond ((t13.fdiv (2^(min (1:Int).toNat IntKind.u32.bits)))==(1:Int)) (qqf  w2 fun t38 t38_1 w4 =>mkSl PG qab (.int .i64 32) (.int .i64 32) w4 fun t41 w5 =>loopP (σ:=Int×Unit) (fun I1 s w6 =>cond (decide (s.1<((t41.n:Nat):Int))) (ixK t41 s.1 1 fun t49 =>stK t49 [(.int .u8 5)] w6 fun w7 =>I1 ((IntKind.i64.wrap (s.1+(1:Int))),()) w7) (qfq t38 w6 fun t54 t54_1 w8 =>onPtr d fun t57 =>stK (t57.add 6) [(.pointer t54)] w8 fun w9 =>qfq t41 w9 fun t62 t62_1 w10 =>onPtr d fun t65 =>stK (t65.add 7) [(.pointer t62)] w10 fun w11 =>onPtr d fun t68 =>stK (t68.add 1) [(.int .i64 4)] w11 fun w12 =>K 0 w12)) (0,()) w5) (cond ((t13.fdiv (2^(min (1:Int).toNat IntKind.u32.bits)))==(2:Int)) (onPtr d fun t71 =>stK (t71.add 1) [(.int .i64 3)] w2 fun w13 =>K 0 w13) (cond ((t13.fdiv (2^(min (1:Int).toNat IntKind.u32.bits)))==(3:Int)) (K 3 w2) (K 3 w2)))))
def qq3:List Ann:=[.none,.none,.none,.none,.none,.none,.none,.none,.none,.none,.none,.none,.none,.none,.none,.none,.none,.none,.none,.none,.none,.none,.none,.none,.none,.none,.join [(44,(Kind.int .i64))] [10,44,45,46,47,48,49,50],.none,.none,.none,.none,.none,.none,.none,.none,.none,.none]
theorem qrc (d:Option Addr) (r:Option Addr) (w:World) (K:Int→World→Prop) :
  vcFn C (Tryz.f208.body.getD .skip) Tryz.f208.results.toList Tryz.f208.ntmps qq3 [(Kind.int .i64)] [(.pointer d),(.pointer r)] w (fun s w=>K s.1 w)=qfh d r w K:=by kernel_rfl
theorem qoy (d:Option Addr) (r:Option Addr) {w:World} {K:Int→World→Prop} (h:qfh d r w K):qf2 d r w K:=by
 rw [←qrc] at h
 refine Calls.mono (cvc C.plain_ok C.mixed Tryz.func208 rfl h) ?_
 rintro e w' ⟨s,rfl,hK⟩
 exact ⟨s.1,rfl,hK⟩
def qeo (d:Option Addr) (r:Option Addr) (w:World) (K:Int→World→Prop):Prop :=qhv r w fun t9 w1 =>qaq r 16 w1 fun t12 t12_1 w2 =>cond (!t12_1) (K 2 w2) (qaq r 16 w2 fun t19 t19_1 w3 =>cond (!t19_1) (K 2 w3) (cond ((bitsR .xor .u32 t12 t19) !=(65535:Int)) (K 3 w3) (onPtr d fun t34 =>stK (t34.add 5) [(.int .i64 (IntKind.i64.wrap t12))] w3 fun w4 =>onPtr d fun t36 =>stK (t36.add 1) [(.int .i64 2)] w4 fun w5 =>K 0 w5)))
def qo6:List Ann:=[.none,.none,.none,.none,.none,.none,.none,.none,.none,.none,.none,.none,.none,.none]
theorem qoq (d:Option Addr) (r:Option Addr) (w:World) (K:Int→World→Prop) :
  vcFn C (Tryz.f209.body.getD .skip) Tryz.f209.results.toList Tryz.f209.ntmps qo6 [(Kind.int .i64)] [(.pointer d),(.pointer r)] w (fun s w=>K s.1 w)=qeo d r w K:=by kernel_rfl
theorem qnn (d:Option Addr) (r:Option Addr) {w:World} {K:Int→World→Prop} (h:qeo d r w K):qe1 d r w K:=by
 rw [←qoq] at h
 refine Calls.mono (cvc C.plain_ok C.mixed Tryz.func209 rfl h) ?_
 rintro e w' ⟨s,rfl,hK⟩
 exact ⟨s.1,rfl,hK⟩
def qex (d:Option Addr) (r:Option Addr) (w:World) (K:Int→World→Prop):Prop :=loopP (σ:=Unit) (fun I1 s w1 =>onPtr d fun t9 =>ldI .i64 (t9.add 5) w1 fun t11 =>cond (decide (t11>(0:Int))) (qaq r 8 w1 fun t15 t15_1 w2 =>cond (!t15_1) (qf5 d r w2 fun w3 =>K 2 w3) (qca d (IntKind.u8.wrap t15) w2 fun t26 w4 =>cond (t26 !=(0:Int)) (K t26 w4) (onPtr d fun t31 =>ldI .i64 (t31.add 5) w4 fun t33 =>onPtr d fun t35 =>stK (t35.add 5) [(.int .i64 (IntKind.i64.wrap (t33-(1:Int))))] w4 fun w5 =>I1 (()) w5))) (qcr d w1 fun w6 =>K 0 w6)) (()) w
def qpv:List Ann:=[.none,.none,.join [] [4,5,6,7,8,9,10,11,12,13,14,15,16,17,18,19,20,21,22,23,24,25,26,27,28,29,30,31,32,33,34,35,36],.none,.none,.none,.none,.none,.none,.none,.none,.none,.none,.none,.none,.none]
theorem qqn (d:Option Addr) (r:Option Addr) (w:World) (K:Int→World→Prop) :
  vcFn C (Tryz.f210.body.getD .skip) Tryz.f210.results.toList Tryz.f210.ntmps qpv [(Kind.int .i64)] [(.pointer d),(.pointer r)] w (fun s w=>K s.1 w)=qex d r w K:=by kernel_rfl
theorem qok (d:Option Addr) (r:Option Addr) {w:World} {K:Int→World→Prop} (h:qex d r w K):qff d r w K:=by
 rw [←qqn] at h
 refine Calls.mono (cvc C.plain_ok C.mixed Tryz.func210 rfl h) ?_
 rintro e w' ⟨s,rfl,hK⟩
 exact ⟨s.1,rfl,hK⟩
def qec (d:Option Addr) (r:Option Addr) (w:World) (K:Int→World→Prop):Prop :=qaq r 5 w fun t25 t25_1 w1 =>qaq r 5 w1 fun t30 t30_1 w2 =>qaq r 4 w2 fun t35 t35_1 w3 =>joinP (σ:=Unit) (fun s w4 =>nw qzi [(.int .i64 0),(.int .i64 0),(.int .i64 0),(.int .i64 0),(.int .i64 0),(.int .i64 0),(.int .i64 0),(.int .i64 0),(.int .i64 0),(.int .i64 0),(.int .i64 0),(.int .i64 0),(.int .i64 0),(.int .i64 0),(.int .i64 0),(.int .i64 0),(.int .i64 0),(.int .i64 0),(.int .i64 0)] w4 fun order w5 =>stK order [(.int .i64 16),(.int .i64 17),(.int .i64 18),(.int .i64 0),(.int .i64 8),(.int .i64 7),(.int .i64 9),(.int .i64 6),(.int .i64 10),(.int .i64 5),(.int .i64 11),(.int .i64 4),(.int .i64 12),(.int .i64 3),(.int .i64 13),(.int .i64 2),(.int .i64 14),(.int .i64 1),(.int .i64 15)] w5 fun w6 =>mkSl PG qab (.int .i64 19) (.int .i64 19) w6 fun t57 w7 =>loopP (σ:=Int×Unit) (fun I2 s_1 w8 =>cond (decide (s_1.1<(IntKind.i64.wrap ((IntKind.i64.wrap t35)+(4:Int))))) (qaq r 3 w8 fun t66 t66_1 w9 =>cond (!t66_1) (K 2 w9) (ixA order 19 s_1.1 1 fun t73 =>ldI .i64 t73 w9 fun t74 =>ixK t57 t74 1 fun t77 =>stK t77 [(.int .u8 (IntKind.u8.wrap t66))] w9 fun w10 =>I2 ((IntKind.i64.wrap (s_1.1+(1:Int))),()) w10)) (qfq t57 w8 fun t81 t81_1 w11 =>cond (t81_1 !=(0:Int)) (K 3 w11) (qm9 r t81 (IntKind.i64.wrap ((IntKind.i64.wrap ((IntKind.i64.wrap ((IntKind.i64.wrap t25)+(257:Int)))+(IntKind.i64.wrap t30)))+(1:Int))) w11 fun t97 t97_1 w12 =>cond (t97_1 !=(0:Int)) (K t97_1 w12) (slK t97 none (some (IntKind.i64.wrap ((IntKind.i64.wrap t25)+(257:Int)))) 1 fun t106 =>qfq t106 w12 fun t107 t107_1 w13 =>slK t97 (some (IntKind.i64.wrap ((IntKind.i64.wrap t25)+(257:Int)))) none 1 fun t113 =>qfq t113 w13 fun t114 t114_1 w14 =>joinP (σ:=Unit) (fun s_2 w15 =>onPtr d fun t134 =>stK (t134.add 6) [(.pointer t107)] w15 fun w16 =>onPtr d fun t136 =>stK (t136.add 7) [(.pointer t114)] w16 fun w17 =>onPtr d fun t138 =>stK (t138.add 1) [(.int .i64 4)] w17 fun w18 =>K 0 w18) fun J3 =>cond (t107_1 !=(0:Int)) (K 3 w14) (cond (t114_1 !=(0:Int)) (K 3 w14) (ixK t97 256 1 fun t125 =>ldI .u8 t125 w14 fun t126 =>cond (t126==(0:Int)) (K 3 w14) (J3 (()) w14))))))) (0,()) w7) fun J1 =>joinP (σ:=Bool×Unit) (fun s_3 w19 =>cond s_3.1 (K 2 w19) (cond (decide (t25>(29:Int))) (K 3 w19) (cond (decide (t30>(29:Int))) (K 3 w19) (J1 (()) w19)))) fun J4 =>cond (!t25_1) (J4 (true,()) w3) (cond (!t30_1) (J4 (true,()) w3) (J4 ((!t35_1),()) w3))
def qnx:List Ann:=[.none,.none,.none,.none,.join [] [4,38,39,40,41,42,43,44,45,46,47,48,49,50,51,52,53,54,55],.join [(38,Kind.bool)] [38,39,40,41,42,43,44,45,46,47,48],.none,.none,.none,.none,.none,.none,.none,.join [(61,(Kind.int .i64))] [4,13,14,15,61,62,63,64,65,66,67,68,69,70,71,72,73,74,75,76,77,78],.none,.none,.none,.none,.none,.none,.none,.none,.none,.none,.none,.none,.none,.none,.none,.none,.none,.none,.none,.join [] [4,117,118,119,120,121,122,123,124,125,126,127,128],.none,.none,.none,.none]
theorem qoh (d:Option Addr) (r:Option Addr) (w:World) (K:Int→World→Prop) :
  vcFn C (Tryz.f211.body.getD .skip) Tryz.f211.results.toList Tryz.f211.ntmps qnx [(Kind.int .i64)] [(.pointer d),(.pointer r)] w (fun s w=>K s.1 w)=qec d r w K:=by kernel_rfl
theorem qmv (d:Option Addr) (r:Option Addr) {w:World} {K:Int→World→Prop} (h:qec d r w K):qel d r w K:=by
 rw [←qoh] at h
 refine Calls.mono (cvc C.plain_ok C.mixed Tryz.func211 rfl h) ?_
 rintro e w' ⟨s,rfl,hK⟩
 exact ⟨s.1,rfl,hK⟩
def qe6 (d:Option Addr) (r:Option Addr) (w:World) (K:Int→World→Prop):Prop :=onPtr d fun t16 =>ldP (t16.add 6) w fun t18 =>qdi t18 r w fun t20 t20_1 w1 =>cond (t20_1 !=(0:Int)) (K t20_1 w1) (cond (t20==(256:Int)) (qcr d w1 fun w2 =>K 0 w2) (cond (decide (t20>(285:Int))) (K 3 w1) (cond (decide (t20<(256:Int))) (qca d (IntKind.u8.wrap t20) w1 fun t41 w3 =>K t41 w3) (qk2 t20 w1 fun t44 t44_1 w4 =>qaq r t44_1 w4 fun t50 t50_1 w5 =>cond (!t50_1) (K 2 w5) (onPtr d fun t61 =>ldP (t61.add 7) w5 fun t63 =>qdi t63 r w5 fun t65 t65_1 w6 =>cond (t65_1 !=(0:Int)) (K t65_1 w6) (cond (decide (t65>(29:Int))) (K 3 w6) (qir t65 w6 fun t75 t75_1 w7 =>qaq r t75_1 w7 fun t81 t81_1 w8 =>cond (!t81_1) (K 2 w8) (onPtr d fun t92 =>ldI .i64 (t92.add 9) w8 fun t94 =>cond (decide ((IntKind.i64.wrap (t75+(IntKind.i64.wrap t81)))>(if (32768:Int)<t94 then (32768:Int) else t94))) (K 3 w8) (loopP (σ:=Int×Unit) (fun I1 s w9 =>cond (decide (s.1<(IntKind.i64.wrap (t44+(IntKind.i64.wrap t50))))) (onPtr d fun t102 =>ldSl (t102.add 8) w9.drew fun t104 =>onPtr d fun t106 =>ldI .i64 (t106.add 9) w9.drew fun t108 =>(32768:Int)≠0 ∧ixK t104 ((IntKind.i64.wrap (t108-(IntKind.i64.wrap (t75+(IntKind.i64.wrap t81))))).tmod (32768:Int)) 1 fun t112 =>ldI .u8 t112 w9.drew fun t113 =>qca d t113 w9.drew fun t114 w10 =>cond (t114 !=(0:Int)) (K t114 w10) (I1 ((IntKind.i64.wrap (s.1+(1:Int))),()) w10)) (K 0 w9)) (0,()) w8)))))))))
def qq4:List Ann:=[.none,.none,.none,.none,.none,.none,.none,.none,.none,.none,.none,.none,.none,.none,.none,.none,.none,.none,.none,.none,.none,.none,.none,.none,.none,.none,.none,.none,.none,.none,.none,.none,.none,.none,.none,.none,.join [(98,(Kind.int .i64))] [4,13,98,99,100,101,102,103,104,105,106,107,108,109,110,111,112,113,114,115,116,117,118],.none,.none,.none,.none,.none,.none,.none]
theorem qq6 (d:Option Addr) (r:Option Addr) (w:World) (K:Int→World→Prop) :
  vcFn C (Tryz.f212.body.getD .skip) Tryz.f212.results.toList Tryz.f212.ntmps qq4 [(Kind.int .i64)] [(.pointer d),(.pointer r)] w (fun s w=>K s.1 w)=qe6 d r w K:=by kernel_rfl
theorem qov (d:Option Addr) (r:Option Addr) {w:World} {K:Int→World→Prop} (h:qe6 d r w K):qf4 d r w K:=by
 rw [←qq6] at h
 refine Calls.mono (cvc C.plain_ok C.mixed Tryz.func212 rfl h) ?_
 rintro e w' ⟨s,rfl,hK⟩
 exact ⟨s.1,rfl,hK⟩
def qdm (s:Slc) (f:Value) (w:World) (K:Int→World→Prop):Prop :=loopP (σ:=Int×Unit) (fun I1 s_1 w1 =>cond (decide (s_1.1<((s.n:Nat):Int))) (ixK s s_1.1 1 fun t14 =>ldI .u8 t14 w1 fun t15 =>callR C f [(.int .u8 t15)] [Kind.bool] w1 fun (t16:Bool) w2 =>cond t16 (K s_1.1 w2) (I1 ((IntKind.i64.wrap (s_1.1+(1:Int))),()) w2)) (K (-1) w1)) (0,()) w
def qmg:List Ann:=[.none,.none,.none,.join [(8,(Kind.int .i64))] [4,5,8,9,10,11,12,13,14,15,16,17,18],.none,.none,.none,.none,.none,.none,.none]
theorem qmh (s:Slc) (f:Value) (w:World) (K:Int→World→Prop) :
  vcFn C (Tryz.f213.body.getD .skip) Tryz.f213.results.toList Tryz.f213.ntmps qmg [(Kind.int .i64)] [(.slice s.a s.n s.c),f] w (fun s w=>K s.1 w)=qdm s f w K:=by kernel_rfl
theorem qlo (s:Slc) (f:Value) {w:World} {K:Int→World→Prop} (h:qdm s f w K):qgb s f w K:=by
 rw [←qmh] at h
 refine Calls.mono (cvc C.plain_ok C.mixed Tryz.func213 rfl h) ?_
 rintro e w' ⟨s,rfl,hK⟩
 exact ⟨s.1,rfl,hK⟩
def qjp (r:Option Addr) (n:Int) (w:World) (K:Int→Bool→World→Prop):Prop :=qkp r n w fun t11 t11_1 w1 =>joinP (σ:=Unit) (fun s w2 =>K t11 t11_1 w2) fun J1 =>cond t11_1 (onPtr r fun t17 =>ldI .i64 (t17.add 1) w1 fun t19 =>onPtr r fun t22 =>stK (t22.add 1) [(.int .i64 (IntKind.i64.wrap (t19+n)))] w1 fun w3 =>J1 (()) w3) (J1 (()) w1)
def q1s:List Ann:=[.none,.none,.join [] [14,15,16,17,18,19,20,21,22,23],.none,.none]
theorem q1d (r:Option Addr) (n:Int) (w:World) (K:Int→Bool→World→Prop) :
  vcFn C (Tryz.f215.body.getD .skip) Tryz.f215.results.toList Tryz.f215.ntmps q1s [(Kind.int .u32),Kind.bool] [(.pointer r),(.int .i64 n)] w (fun s w=>K s.1 s.2.1 w)=qjp r n w K:=by kernel_rfl
theorem qw6 (r:Option Addr) (n:Int) {w:World} {K:Int→Bool→World→Prop} (h:qjp r n w K):qay r n w K:=by
 rw [←q1d] at h
 refine Calls.mono (cvc C.plain_ok C.mixed Tryz.func215 rfl h) ?_
 rintro e w' ⟨s,rfl,hK⟩
 exact ⟨s.1,s.2.1,rfl,hK⟩
def qiu (s:Option Addr) (w:World) (K:Int→World→Prop):Prop :=onPtr s fun t10 =>ldP (t10.add 0) w fun t12 =>qj5 t12 w fun t13 w1 =>onPtr s fun t16 =>ldP (t16.add 0) w1 fun t18 =>qay t18 16 w1 fun t19 t19_1 w2 =>cond (!t19_1) (K 2 w2) (onPtr s fun t26 =>ldP (t26.add 0) w2 fun t28 =>qay t28 16 w2 fun t29 t29_1 w3 =>cond (!t29_1) (K 2 w3) (cond ((bitsR .xor .u32 t19 t29) !=(65535:Int)) (K 3 w3) (loopP (σ:=Int×Unit) (fun I1 s_1 w4 =>cond (decide (s_1.1<(IntKind.i64.wrap t19))) (onPtr s fun t46 =>ldP (t46.add 0) w4 fun t48 =>qay t48 8 w4 fun t49 t49_1 w5 =>cond (!t49_1) (K 2 w5) (onPtr s fun t55 =>ldSl (t55.add 1) w5.drew fun t57 =>onPtr s fun t60 =>ldI .i64 (t60.add 2) w5.drew fun t62 =>cond (decide (((t57.n:Nat):Int)≥t62)) (K 5 w5.drew) (onPtr s fun t66 =>ldSl (t66.add 1) w5.drew fun t68 =>nw qai [(.int .u8 (IntKind.u8.wrap t49))] w5.drew fun t71 w6 =>apK PG #[qab,qab] qab t68 (⟨(some t71),1,1⟩:Slc) w6 fun t72 w7 =>onPtr s fun t73 =>stK (t73.add 1) [(.slice t72.a t72.n t72.c)] w7 fun w8 =>I1 ((IntKind.i64.wrap (s_1.1+(1:Int))),()) w8))) (K 0 w4)) (0,()) w3)))
def qz7:List Ann:=[.none,.none,.none,.none,.none,.none,.none,.none,.none,.none,.none,.none,.none,.none,.none,.join [(6,(Kind.int .i64))] [2,6,7,8,38,39,40,41,42,43,44,45,46,47,48,49,50,51,52,53,54,55,56,57,58,59,60,61,62,63,64,65,66,67,68,69,70,71,72,73,74],.none,.none,.none,.none,.none,.none,.none,.none,.none,.none,.none]
theorem qyg (s:Option Addr) (w:World) (K:Int→World→Prop) :
  vcFn C (Tryz.f216.body.getD .skip) Tryz.f216.results.toList Tryz.f216.ntmps qz7 [(Kind.int .i64)] [(.pointer s)] w (fun s w=>K s.1 w)=qiu s w K:=by kernel_rfl
theorem qvd (s:Option Addr) {w:World} {K:Int→World→Prop} (h:qiu s w K):qje s w K:=by
 rw [←qyg] at h
 refine Calls.mono (cvc C.plain_ok C.mixed Tryz.func216 rfl h) ?_
 rintro e w' ⟨s,rfl,hK⟩
 exact ⟨s.1,rfl,hK⟩
def qjc (s:Option Addr) (l:Option Addr) (d:Option Addr) (w:World) (K:Int→World→Prop):Prop :=loopP (σ:=Unit) (fun I1 s_1 w1 =>onPtr s fun t13 =>ldP (t13.add 0) w1 fun t15 =>qd9 l t15 w1 fun t16 t16_1 w2 =>cond (t16_1 !=(0:Int)) (K t16_1 w2) (cond (t16==(256:Int)) (K 0 w2) (cond (decide (t16>(285:Int))) (K 3 w2) (cond (decide (t16<(256:Int))) (onPtr s fun t39 =>ldSl (t39.add 1) w2.drew fun t41 =>onPtr s fun t44 =>ldI .i64 (t44.add 2) w2.drew fun t46 =>cond (decide (((t41.n:Nat):Int)≥t46)) (K 5 w2.drew) (onPtr s fun t50 =>ldSl (t50.add 1) w2.drew fun t52 =>nw qai [(.int .u8 (IntKind.u8.wrap t16))] w2.drew fun t55 w3 =>apK PG #[qab,qab] qab t52 (⟨(some t55),1,1⟩:Slc) w3 fun t56 w4 =>onPtr s fun t57 =>stK (t57.add 1) [(.slice t56.a t56.n t56.c)] w4 fun w5 =>I1 (()) w5)) (qjr s t16 d w2 fun t25 w6 =>cond (t25 !=(0:Int)) (K t25 w6) (I1 (()) w6)))))) (()) w
def q1u:List Ann:=[.none,.join [] [6,7,8,9,10,11,12,13,14,15,16,17,18,19,20,21,22,23,24,25,26,27,28,29,30,31,32,33,34,35,36,37,38,39,40,41,42,43,44,45,46,47,48,49,50,51,52,53,54,55,56,57,58],.none,.none,.none,.none,.none,.none,.none,.none,.none,.none,.none,.none,.none,.none,.none]
theorem q16 (s:Option Addr) (l:Option Addr) (d:Option Addr) (w:World) (K:Int→World→Prop) :
  vcFn C (Tryz.f217.body.getD .skip) Tryz.f217.results.toList Tryz.f217.ntmps q1u [(Kind.int .i64)] [(.pointer s),(.pointer l),(.pointer d)] w (fun s w=>K s.1 w)=qjc s l d w K:=by kernel_rfl
theorem qwp (s:Option Addr) (l:Option Addr) (d:Option Addr) {w:World} {K:Int→World→Prop} (h:qjc s l d w K):qg0 s l d w K:=by
 rw [←q16] at h
 refine Calls.mono (cvc C.plain_ok C.mixed Tryz.func217 rfl h) ?_
 rintro e w' ⟨s,rfl,hK⟩
 exact ⟨s.1,rfl,hK⟩
def qhq (s:Option Addr) (w:World) (K:Int→World→Prop):Prop :=onPtr s fun t21 =>ldP (t21.add 0) w fun t23 =>qay t23 5 w fun t24 t24_1 w1 =>cond (!t24_1) (K 2 w1) (onPtr s fun t31 =>ldP (t31.add 0) w1 fun t33 =>qay t33 5 w1 fun t34 t34_1 w2 =>cond (!t34_1) (K 2 w2) (onPtr s fun t41 =>ldP (t41.add 0) w2 fun t43 =>qay t43 4 w2 fun t44 t44_1 w3 =>cond (!t44_1) (K 2 w3) (joinP (σ:=Unit) (fun s_1 w4 =>nw qbh [(.int .i64 16),(.int .i64 17),(.int .i64 18),(.int .i64 0),(.int .i64 8),(.int .i64 7),(.int .i64 9),(.int .i64 6),(.int .i64 10),(.int .i64 5),(.int .i64 11),(.int .i64 4),(.int .i64 12),(.int .i64 3),(.int .i64 13),(.int .i64 2),(.int .i64 14),(.int .i64 1),(.int .i64 15)] w4 fun t55 w5 =>mkSl PG qab (.int .i64 19) (.int .i64 19) w5 fun t56 w6 =>loopP (σ:=Int×Unit) (fun I2 s_2 w7 =>cond (decide (s_2.1<(IntKind.i64.wrap ((IntKind.i64.wrap t44)+(4:Int))))) (onPtr s fun t66 =>ldP (t66.add 0) w7 fun t68 =>qay t68 3 w7 fun t69 t69_1 w8 =>cond (!t69_1) (K 2 w8) ((0≤s_2.1∧s_2.1<(19:Nat)) ∧ldI .i64 (t55.add ((s_2.1:Int).toNat*1)) w8 fun t78 =>ixK t56 t78 1 fun t81 =>stK t81 [(.int .u8 (IntKind.u8.wrap t69))] w8 fun w9 =>I2 ((IntKind.i64.wrap (s_2.1+(1:Int))),()) w9)) (qk6 t56 w7 fun t84 t84_1 w10 =>cond (t84_1 !=(0:Int)) (K 3 w10) (qip s t84 (IntKind.i64.wrap ((IntKind.i64.wrap ((IntKind.i64.wrap ((IntKind.i64.wrap t24)+(257:Int)))+(IntKind.i64.wrap t34)))+(1:Int))) w10 fun t100 t100_1 w11 =>cond (t100_1 !=(0:Int)) (K t100_1 w11) (slK t100 none (some (IntKind.i64.wrap ((IntKind.i64.wrap t24)+(257:Int)))) 1 fun t109 =>qk6 t109 w11 fun t110 t110_1 w12 =>cond (t110_1 !=(0:Int)) (K 3 w12) (slK t100 (some (IntKind.i64.wrap ((IntKind.i64.wrap t24)+(257:Int)))) none 1 fun t118 =>qk6 t118 w12 fun t119 t119_1 w13 =>joinP (σ:=Unit) (fun s_3 w14 =>qg0 s t110 t119 w14 fun t133 w15 =>K t133 w15) fun J3 =>cond (t119_1 !=(0:Int)) (K 3 w13) (ixK t100 256 1 fun t126 =>ldI .u8 t126 w13 fun t127 =>cond (t127==(0:Int)) (K 3 w13) (J3 (()) w13))))))) (0,()) w6) fun J1 =>cond (decide (t24>(29:Int))) (K 3 w3) (cond (decide (t34>(29:Int))) (K 3 w3) (J1 (()) w3)))))
def qxe:List Ann:=[.none,.none,.none,.none,.none,.none,.none,.none,.none,.none,.none,.none,.none,.join [] [2,49,50,51,52,53,54],.none,.none,.none,.none,.none,.none,.join [(9,(Kind.int .i64))] [2,9,10,11,57,58,59,60,61,62,63,64,65,66,67,68,69,70,71,72,73,74,75,76,77,78,79,80,81],.none,.none,.none,.none,.none,.none,.none,.none,.none,.none,.none,.none,.none,.none,.none,.none,.none,.none,.none,.none,.none,.join [] [2,122,123,124,125,126,127,128,129],.none,.none,.none]
theorem qwe (s:Option Addr) (w:World) (K:Int→World→Prop) :
  vcFn C (Tryz.f218.body.getD .skip) Tryz.f218.results.toList Tryz.f218.ntmps qxe [(Kind.int .i64)] [(.pointer s)] w (fun s w=>K s.1 w)=qhq s w K:=by kernel_rfl
theorem qtc (s:Option Addr) {w:World} {K:Int→World→Prop} (h:qhq s w K):qh8 s w K:=by
 rw [←qwe] at h
 refine Calls.mono (cvc C.plain_ok C.mixed Tryz.func218 rfl h) ?_
 rintro e w' ⟨s,rfl,hK⟩
 exact ⟨s.1,rfl,hK⟩
def qh3 (r:Option Addr) (w:World) (K:Int→World→Prop):Prop :=onPtr r fun t4 =>ldSl (t4.add 0) w.drew fun t6 =>onPtr r fun t10 =>ldI .i64 (t10.add 1) w.drew fun t12 =>K (IntKind.i64.wrap ((IntKind.i64.wrap ((8:Int)*((t6.n:Nat):Int)))-t12)) w.drew
def qxs:List Ann:=[.none,.none]
theorem qw3 (r:Option Addr) (w:World) (K:Int→World→Prop) :
  vcFn C (Tryz.f219.body.getD .skip) Tryz.f219.results.toList Tryz.f219.ntmps qxs [(Kind.int .i64)] [(.pointer r)] w (fun s w=>K s.1 w)=qh3 r w K:=by kernel_rfl
theorem qtx (r:Option Addr) {w:World} {K:Int→World→Prop} (h:qh3 r w K):qfy r w K:=by
 rw [←qw3] at h
 refine Calls.mono (cvc C.plain_ok C.mixed Tryz.func219 rfl h) ?_
 rintro e w' ⟨s,rfl,hK⟩
 exact ⟨s.1,rfl,hK⟩
def qg4 (r:Option Addr) (w:World) (K:Int→World→Prop):Prop :=onPtr r fun t5 =>ldI .i64 (t5.add 1) w fun t7 =>onPtr r fun t11 =>ldI .i64 (t11.add 1) w fun t13 =>onPtr r fun t16 =>stK (t16.add 1) [(.int .i64 (IntKind.i64.wrap (t13+(bitsR .and .i64 (IntKind.i64.wrap (0-t7)) (7:Int)))))] w fun w1 =>K (bitsR .and .i64 (IntKind.i64.wrap (0-t7)) (7:Int)) w1
def qv3:List Ann:=[.none,.none,.none,.none]
theorem qv2 (r:Option Addr) (w:World) (K:Int→World→Prop) :
  vcFn C (Tryz.f220.body.getD .skip) Tryz.f220.results.toList Tryz.f220.ntmps qv3 [(Kind.int .i64)] [(.pointer r)] w (fun s w=>K s.1 w)=qg4 r w K:=by kernel_rfl
theorem qs2 (r:Option Addr) {w:World} {K:Int→World→Prop} (h:qg4 r w K):qhv r w K:=by
 rw [←qv2] at h
 refine Calls.mono (cvc C.plain_ok C.mixed Tryz.func220 rfl h) ?_
 rintro e w' ⟨s,rfl,hK⟩
 exact ⟨s.1,rfl,hK⟩
def qe7 (d:Option Addr) (r:Option Addr) (w:World) (K:World→Prop):Prop :=qa6 r w fun t6 w1 =>(8:Int)≠0 ∧onPtr d fun t9 =>ldI .i64 (t9.add 11) w1 fun t11 =>onPtr d fun t14 =>stK (t14.add 11) [(.int .i64 (IntKind.i64.wrap (t11+(IntKind.i64.wrap (t6.tdiv (8:Int))))))] w1 fun w2 =>onPtr d fun t18 =>ldSl (t18.add 3) w2 fun t20 =>slK t20 (some (IntKind.i64.wrap (t6.tdiv (8:Int)))) none 1 fun t22 =>onPtr d fun t23 =>stK (t23.add 3) [(.slice t22.a t22.n t22.c)] w2 fun w3 =>qa6 r w3 fun t27 w4 =>(8:Int)≠0 ∧onPtr d fun t29 =>stK (t29.add 4) [(.int .i64 (t27.tmod (8:Int)))] w4 fun w5 =>onPtr d fun t33 =>ldSl (t33.add 3) w5 fun t35 =>qhb t35 w5 fun t36 w6 =>onPtr t36 fun t37 =>ldS T_bits_Reader.rep t37 w6 fun t38 =>onPtr r fun t39 =>stK t39 (T_bits_Reader.rep.cells t38) w6 fun w7 =>onPtr d fun t42 =>ldI .i64 (t42.add 4) w7 fun t44 =>qaq r t44 w7 fun t45 t45_1 w8 =>K w8
def qrd:List Ann:=[.none,.none,.none,.none,.none]
theorem qrl (d:Option Addr) (r:Option Addr) (w:World) (K:World→Prop) :
  vcFn C (Tryz.f221.body.getD .skip) Tryz.f221.results.toList Tryz.f221.ntmps qrd [] [(.pointer d),(.pointer r)] w (fun s w=>K w)=qe7 d r w K:=by kernel_rfl
theorem qor (d:Option Addr) (r:Option Addr) {w:World} {K:World→Prop} (h:qe7 d r w K):qf5 d r w K:=by
 rw [←qrl] at h
 refine Calls.mono (cvc C.plain_ok C.mixed Tryz.func221 rfl h) ?_
 rintro e w' ⟨s,rfl,hK⟩
 exact ⟨rfl,hK⟩
def qf8 (d:Option Addr) (c:Int) (w:World) (K:Int→World→Prop):Prop :=onPtr d fun t6 =>ldI .i64 (t6.add 9) w.drew fun t8 =>onPtr d fun t10 =>ldI .i64 (t10.add 0) w.drew fun t12 =>cond (decide (t8≥t12)) (K 5 w.drew) (joinP (σ:=Unit) (fun s w1 =>onPtr d fun t42 =>ldI .i64 (t42.add 9) w1 fun t44 =>onPtr d fun t46 =>stK (t46.add 9) [(.int .i64 (IntKind.i64.wrap (t44+(1:Int))))] w1 fun w2 =>onPtr d fun t50 =>ldSl (t50.add 14) w2 fun t52 =>nw qai [(.int .u8 c)] w2 fun t54 w3 =>apK PG #[qab,qab] qab t52 (⟨(some t54),1,1⟩:Slc) w3 fun t55 w4 =>onPtr d fun t56 =>stK (t56.add 14) [(.slice t55.a t55.n t55.c)] w4 fun w5 =>K 0 w5) fun J1 =>onPtr d fun t15 =>ldSl (t15.add 8) w.drew fun t17 =>cond (decide (((t17.n:Nat):Int)<(32768:Int))) (onPtr d fun t22 =>ldSl (t22.add 8) w.drew fun t24 =>nw qai [(.int .u8 c)] w.drew fun t26 w6 =>apK PG #[qab,qab] qab t24 (⟨(some t26),1,1⟩:Slc) w6 fun t27 w7 =>onPtr d fun t28 =>stK (t28.add 8) [(.slice t27.a t27.n t27.c)] w7 fun w8 =>J1 (()) w8) (onPtr d fun t31 =>ldSl (t31.add 8) w.drew.drew fun t33 =>onPtr d fun t35 =>ldI .i64 (t35.add 9) w.drew.drew fun t37 =>(32768:Int)≠0 ∧ixK t33 (t37.tmod (32768:Int)) 1 fun t40 =>stK t40 [(.int .u8 c)] w.drew.drew fun w9 =>J1 (()) w9))
def qs1:List Ann:=[.none,.none,.none,.none,.join [] [14,15,16,17,18,19,20,21,22,23,24,25,26,27,28,29,30,31,32,33,34,35,36,37,38,39,40],.none,.none,.none,.none]
theorem qr2 (d:Option Addr) (c:Int) (w:World) (K:Int→World→Prop) :
  vcFn C (Tryz.f222.body.getD .skip) Tryz.f222.results.toList Tryz.f222.ntmps qs1 [(Kind.int .i64)] [(.pointer d),(.int .u8 c)] w (fun s w=>K s.1 w)=qf8 d c w K:=by kernel_rfl
theorem qqi (d:Option Addr) (c:Int) {w:World} {K:Int→World→Prop} (h:qf8 d c w K):qca d c w K:=by
 rw [←qr2] at h
 refine Calls.mono (cvc C.plain_ok C.mixed Tryz.func222 rfl h) ?_
 rintro e w' ⟨s,rfl,hK⟩
 exact ⟨s.1,rfl,hK⟩
def qfa (d:Option Addr) (w:World) (K:World→Prop):Prop :=onPtr d fun t3 =>stK (t3.add 1) [(.int .i64 0)] w fun w1 =>onPtr d fun t6 =>ldB (t6.add 2) w1 fun t8 =>cond t8 (onPtr d fun t10 =>stK (t10.add 1) [(.int .i64 5)] w1 fun w2 =>K w2) (K w1)
def qrm:List Ann:=[.none,.none]
theorem qrg (d:Option Addr) (w:World) (K:World→Prop) :
  vcFn C (Tryz.f223.body.getD .skip) Tryz.f223.results.toList Tryz.f223.ntmps qrm [] [(.pointer d)] w (fun s w=>K w)=qfa d w K:=by kernel_rfl
theorem qo4 (d:Option Addr) {w:World} {K:World→Prop} (h:qfa d w K):qcr d w K:=by
 rw [←qrg] at h
 refine Calls.mono (cvc C.plain_ok C.mixed Tryz.func223 rfl h) ?_
 rintro e w' ⟨s,rfl,hK⟩
 exact ⟨rfl,hK⟩
def qmc (r:Option Addr) (t:Option Addr) (n:Int) (w:World) (K:Slc→Int→World→Prop):Prop :=loopP (σ:=Slc×Unit) (fun I1 s w1 =>cond (decide (((s.1.n:Nat):Int)<n)) (qdi t r w1 fun t23 t23_1 w2 =>cond (t23_1 !=(0:Int)) (K (⟨none,0,0⟩:Slc) t23_1 w2) (joinP (σ:=Int×Int×Int×Unit) (fun s_1 w3 =>qaq r s_1.2.1 w3 fun t50 t50_1 w4 =>cond (!t50_1) (K (⟨none,0,0⟩:Slc) 2 w4) (cond (decide ((IntKind.i64.wrap ((IntKind.i64.wrap (((s.1.n:Nat):Int)+s_1.1))+(IntKind.i64.wrap t50)))>n)) (K (⟨none,0,0⟩:Slc) 3 w4) (loopP (σ:=Slc×Int×Unit) (fun I3 s_2 w5 =>cond (decide (s_2.2.1<(IntKind.i64.wrap (s_1.1+(IntKind.i64.wrap t50))))) (nw qai [(.int .u8 s_1.2.2.1)] w5 fun t74 w6 =>apK PG #[qab,qab] qab s_2.1 (⟨(some t74),1,1⟩:Slc) w6 fun t75 w7 =>I3 (t75,(IntKind.i64.wrap (s_2.2.1+(1:Int))),()) w7) (I1 (s_2.1,()) w5)) (s.1,0,()) w4))) fun J2 =>cond (t23==(18:Int)) (J2 (11,7,0,()) w2) (cond (t23==(17:Int)) (J2 (3,3,0,()) w2) (cond (t23==(16:Int)) (cond (((s.1.n:Nat):Int)==(0:Int)) (K (⟨none,0,0⟩:Slc) 3 w2) (ixK s.1 (IntKind.i64.wrap (((s.1.n:Nat):Int)-(1:Int))) 1 fun t45 =>ldI .u8 t45 w2 fun t46 =>J2 (3,2,t46,()) w2)) (J2 (1,0,(IntKind.u8.wrap t23),()) w2))))) (K s.1 0 w1)) (⟨none,0,0⟩,()) w
def q5b:List Ann:=[.none,.none,.none,.join [(8,Kind.slice)] [6,7,8,9,10,11,12,13,14,15,16,17,18,19,20,21,22,23,24,25,26,27,28,29,30,31,32,33,34,35,36,37,38,39,40,41,42,43,44,45,46,47,48,49,50,51,52,53,54,55,56,57,58,59,60,61,62,63,64,65,66,67,68,69,70,71,72,73,74,75,76],.none,.none,.none,.none,.none,.none,.none,.join [(11,(Kind.int .i64)),(12,(Kind.int .i64)),(13,(Kind.int .u8))] [6,7,11,12,13,29,30,31,32,33,34,35,36,37,38,39,40,41,42,43,44,45,46],.none,.none,.none,.none,.none,.none,.none,.none,.none,.none,.none,.none,.none,.none,.join [(8,Kind.slice),(70,(Kind.int .i64))] [8,70,71,72,73,74,75,76],.none,.none,.none,.none]
theorem q59 (r:Option Addr) (t:Option Addr) (n:Int) (w:World) (K:Slc→Int→World→Prop) :
  vcFn C (Tryz.f224.body.getD .skip) Tryz.f224.results.toList Tryz.f224.ntmps q5b [Kind.slice,(Kind.int .i64)] [(.pointer r),(.pointer t),(.int .i64 n)] w (fun s w=>K s.1 s.2.1 w)=qmc r t n w K:=by kernel_rfl
theorem q1i (r:Option Addr) (t:Option Addr) (n:Int) {w:World} {K:Slc→Int→World→Prop} (h:qmc r t n w K):qm9 r t n w K:=by
 rw [←q59] at h
 refine Calls.mono (cvc C.plain_ok C.mixed Tryz.func224 rfl h) ?_
 rintro e w' ⟨s,rfl,hK⟩
 exact ⟨s.1,s.2.1,rfl,hK⟩
def qil (t:Option Addr) (r:Option Addr) (w:World) (K:Int→Int→World→Prop):Prop :=qfy r w fun t14 w1 =>qfv r (if t14<(15:Int) then t14 else (15:Int)) w1 fun t19 t19_1 w2 =>loopP (σ:=Int×Int×Int×Int×Int×Unit) (fun I1 s w3 =>onPtr t fun t24 =>ldI .i64 (t24.add 19) w3 fun t26 =>cond (decide (s.2.2.2.2.1≤t26)) (cond (decide (s.2.2.2.2.1>(if t14<(15:Int) then t14 else (15:Int)))) (K 0 2 w3) (0≤(1:Int) ∧onPtr t fun t42 =>ixA (t42.add 0) 16 s.2.2.2.2.1 1 fun t44 =>ldI .i64 t44 w3 fun t45 =>cond (decide ((IntKind.i64.wrap ((bitsR .or .i64 s.1 (IntKind.i64.wrap (bitsR .and .u32 s.2.2.2.1 (1:Int))))-s.2.1))<t45)) (qaq r s.2.2.2.2.1 w3 fun t53 t53_1 w4 =>onPtr t fun t55 =>ldSl (t55.add 16) w4 fun t57 =>ixK t57 (IntKind.i64.wrap ((IntKind.i64.wrap (s.2.2.1+(bitsR .or .i64 s.1 (IntKind.i64.wrap (bitsR .and .u32 s.2.2.2.1 (1:Int))))))-s.2.1)) 1 fun t63 =>ldI .i64 t63 w4 fun t64 =>K t64 0 w4) (onPtr t fun t68 =>ixA (t68.add 0) 16 s.2.2.2.2.1 1 fun t70 =>ldI .i64 t70 w3 fun t71 =>onPtr t fun t76 =>ixA (t76.add 0) 16 s.2.2.2.2.1 1 fun t78 =>ldI .i64 t78 w3 fun t79 =>0≤(1:Int) ∧0≤(1:Int) ∧I1 ((IntKind.i64.wrap ((bitsR .or .i64 s.1 (IntKind.i64.wrap (bitsR .and .u32 s.2.2.2.1 (1:Int))))*2^(min (1:Int).toNat IntKind.i64.bits))),(IntKind.i64.wrap ((IntKind.i64.wrap (s.2.1+t79))*2^(min (1:Int).toNat IntKind.i64.bits))),(IntKind.i64.wrap (s.2.2.1+t71)),(s.2.2.2.1.fdiv (2^(min (1:Int).toNat IntKind.u32.bits))),(IntKind.i64.wrap (s.2.2.2.2.1+(1:Int))),()) w3))) (K 0 3 w3)) (0,0,0,t19,1,()) w2
def qyw:List Ann:=[.none,.none,.none,.none,.none,.none,.join [(6,(Kind.int .i64)),(7,(Kind.int .i64)),(8,(Kind.int .i64)),(9,(Kind.int .u32)),(11,(Kind.int .i64))] [4,5,6,7,8,9,11,12,22,23,24,25,26,27,28,29,30,31,32,33,34,35,36,37,38,39,40,41,42,43,44,45,46,47,48,49,50,51,52,53,54,55,56,57,58,59,60,61,62,63,64,65,66,67,68,69,70,71,72,73,74,75,76,77,78,79,80,81,82,83],.none,.none,.none,.none,.none,.none,.none,.none,.none,.none,.none,.none,.none,.none,.none,.none]
theorem qy1 (t:Option Addr) (r:Option Addr) (w:World) (K:Int→Int→World→Prop) :
  vcFn C (Tryz.f225.body.getD .skip) Tryz.f225.results.toList Tryz.f225.ntmps qyw [(Kind.int .i64),(Kind.int .i64)] [(.pointer t),(.pointer r)] w (fun s w=>K s.1 s.2.1 w)=qil t r w K:=by kernel_rfl
theorem qut (t:Option Addr) (r:Option Addr) {w:World} {K:Int→Int→World→Prop} (h:qil t r w K):qdi t r w K:=by
 rw [←qy1] at h
 refine Calls.mono (cvc C.plain_ok C.mixed Tryz.func225 rfl h) ?_
 rintro e w' ⟨s,rfl,hK⟩
 exact ⟨s.1,s.2.1,rfl,hK⟩
def qjs (sign:Int) (w:World) (K:Int→Int→World→Prop):Prop :=cond (sign==(285:Int)) (K 258 0 w) (cond (decide ((IntKind.i64.wrap (sign-(257:Int)))<(8:Int))) (K (IntKind.i64.wrap ((3:Int)+(IntKind.i64.wrap (sign-(257:Int))))) 0 w) ((4:Int)≠0 ∧(4:Int)≠0 ∧0≤(IntKind.i64.wrap ((IntKind.i64.wrap ((IntKind.i64.wrap (sign-(257:Int))).tdiv (4:Int)))-(1:Int))) ∧K (IntKind.i64.wrap ((3:Int)+(IntKind.i64.wrap ((IntKind.i64.wrap ((4:Int)+((IntKind.i64.wrap (sign-(257:Int))).tmod (4:Int))))*2^(min (IntKind.i64.wrap ((IntKind.i64.wrap ((IntKind.i64.wrap (sign-(257:Int))).tdiv (4:Int)))-(1:Int))).toNat IntKind.i64.bits))))) (IntKind.i64.wrap ((IntKind.i64.wrap ((IntKind.i64.wrap (sign-(257:Int))).tdiv (4:Int)))-(1:Int))) w))
def q1e:List Ann:=[.none,.none,.none,.none,.none,.none,.none,.none,.none]
theorem q2h (sign:Int) (w:World) (K:Int→Int→World→Prop) :
  vcFn C (Tryz.f226.body.getD .skip) Tryz.f226.results.toList Tryz.f226.ntmps q1e [(Kind.int .i64),(Kind.int .i64)] [(.int .i64 sign)] w (fun s w=>K s.1 s.2.1 w)=qjs sign w K:=by kernel_rfl
theorem qw1 (sign:Int) {w:World} {K:Int→Int→World→Prop} (h:qjs sign w K):qk2 sign w K:=by
 rw [←q2h] at h
 refine Calls.mono (cvc C.plain_ok C.mixed Tryz.func226 rfl h) ?_
 rintro e w' ⟨s,rfl,hK⟩
 exact ⟨s.1,s.2.1,rfl,hK⟩
def qhu (sign:Int) (w:World) (K:Int→Int→World→Prop):Prop :=cond (decide (sign<(4:Int))) (K (IntKind.i64.wrap ((1:Int)+sign)) 0 w) ((2:Int)≠0 ∧(2:Int)≠0 ∧0≤(IntKind.i64.wrap ((IntKind.i64.wrap (sign.tdiv (2:Int)))-(1:Int))) ∧K (IntKind.i64.wrap ((1:Int)+(IntKind.i64.wrap ((IntKind.i64.wrap ((2:Int)+(sign.tmod (2:Int))))*2^(min (IntKind.i64.wrap ((IntKind.i64.wrap (sign.tdiv (2:Int)))-(1:Int))).toNat IntKind.i64.bits))))) (IntKind.i64.wrap ((IntKind.i64.wrap (sign.tdiv (2:Int)))-(1:Int))) w)
def qxm:List Ann:=[.none,.none,.none,.none,.none,.none]
theorem qw0 (sign:Int) (w:World) (K:Int→Int→World→Prop) :
  vcFn C (Tryz.f227.body.getD .skip) Tryz.f227.results.toList Tryz.f227.ntmps qxm [(Kind.int .i64),(Kind.int .i64)] [(.int .i64 sign)] w (fun s w=>K s.1 s.2.1 w)=qhu sign w K:=by kernel_rfl
theorem qte (sign:Int) {w:World} {K:Int→Int→World→Prop} (h:qhu sign w K):qir sign w K:=by
 rw [←qw0] at h
 refine Calls.mono (cvc C.plain_ok C.mixed Tryz.func227 rfl h) ?_
 rintro e w' ⟨s,rfl,hK⟩
 exact ⟨s.1,s.2.1,rfl,hK⟩
def qj3 (r:Option Addr) (n:Int) (w:World) (K:Int→Bool→World→Prop):Prop :=joinP (σ:=Unit) (fun s w1 =>loopP (σ:=Int×Int×Unit) (fun I2 s_1 w2 =>cond (decide (s_1.2.1<n)) (onPtr r fun t28 =>ldI .i64 (t28.add 1) w2 fun t30 =>qme r (IntKind.i64.wrap (t30+s_1.2.1)) w2 fun t33 w3 =>0≤(IntKind.u64.wrap s_1.2.1) ∧I2 ((bitsR .or .u32 s_1.1 (IntKind.u32.wrap (t33*2^(min (IntKind.u64.wrap s_1.2.1).toNat IntKind.u32.bits)))),(IntKind.i64.wrap (s_1.2.1+(1:Int))),()) w3) (K s_1.1 true w2)) (0,0,()) w1) fun J1 =>cond (decide (n<(0:Int))) (K 0 false w) (cond (decide (n>(32:Int))) (K 0 false w) (qkw r w fun t17 w4 =>cond (decide (n>t17)) (K 0 false w4) (J1 (()) w4)))
def q1z:List Ann:=[.none,.join [] [4,5,8,9,10,11,12,13,14,15,16,17,18,19],.none,.none,.none,.none,.none,.join [(6,(Kind.int .u32)),(7,(Kind.int .i64))] [6,7,20,21,22,23,24,25,26,27,28,29,30,31,32,33,34,35,36,37],.none,.none,.none,.none]
theorem q1a (r:Option Addr) (n:Int) (w:World) (K:Int→Bool→World→Prop) :
  vcFn C (Tryz.f228.body.getD .skip) Tryz.f228.results.toList Tryz.f228.ntmps q1z [(Kind.int .u32),Kind.bool] [(.pointer r),(.int .i64 n)] w (fun s w=>K s.1 s.2.1 w)=qj3 r n w K:=by kernel_rfl
theorem qw5 (r:Option Addr) (n:Int) {w:World} {K:Int→Bool→World→Prop} (h:qj3 r n w K):qkp r n w K:=by
 rw [←q1a] at h
 refine Calls.mono (cvc C.plain_ok C.mixed Tryz.func228 rfl h) ?_
 rintro e w' ⟨s,rfl,hK⟩
 exact ⟨s.1,s.2.1,rfl,hK⟩
def qic (r:Option Addr) (w:World) (K:Int→World→Prop):Prop :=loopP (σ:=Int×Unit) (fun I1 s w1 =>onPtr r fun t5 =>ldI .i64 (t5.add 1) w1 fun t7 =>(8:Int)≠0 ∧cond ((t7.tmod (8:Int)) !=(0:Int)) (onPtr r fun t11 =>ldI .i64 (t11.add 1) w1 fun t13 =>onPtr r fun t15 =>stK (t15.add 1) [(.int .i64 (IntKind.i64.wrap (t13+(1:Int))))] w1 fun w2 =>I1 ((IntKind.i64.wrap (s.1+(1:Int))),()) w2) (K s.1 w1)) (0,()) w
def qya:List Ann:=[.none,.none,.none,.join [(3,(Kind.int .i64))] [3,4,5,6,7,8,9,10,11,12,13,14,15,16,17,18],.none,.none,.none,.none]
theorem qzm (r:Option Addr) (w:World) (K:Int→World→Prop) :
  vcFn C (Tryz.f229.body.getD .skip) Tryz.f229.results.toList Tryz.f229.ntmps qya [(Kind.int .i64)] [(.pointer r)] w (fun s w=>K s.1 w)=qic r w K:=by kernel_rfl
theorem qu9 (r:Option Addr) {w:World} {K:Int→World→Prop} (h:qic r w K):qj5 r w K:=by
 rw [←qzm] at h
 refine Calls.mono (cvc C.plain_ok C.mixed Tryz.func229 rfl h) ?_
 rintro e w' ⟨s,rfl,hK⟩
 exact ⟨s.1,rfl,hK⟩
def qle (t:Option Addr) (r:Option Addr) (w:World) (K:Int→Int→World→Prop):Prop :=onPtr r fun t13 =>ldI .i64 (t13.add 1) w fun t15 =>loopP (σ:=Int×Int×Unit) (fun I1 s w1 =>cond (decide (s.2.1≤(15:Int))) (loopP (σ:=Int×Unit) (fun I2 s_1 w2 =>onPtr t fun t22 =>ldSl (t22.add 0) w2 fun t24 =>cond (decide (s_1.1<((t24.n:Nat):Int))) (joinP (σ:=Bool×Unit) (fun s_2 w3 =>cond s_2.1 (K s_1.1 0 w3) (I2 ((IntKind.i64.wrap (s_1.1+(1:Int))),()) w3)) fun J3 =>cond (decide (s.2.1>(0:Int))) (onPtr t fun t33 =>ldSl (t33.add 0) w2 fun t35 =>ixK t35 s_1.1 1 fun t37 =>ldI .u8 t37 w2 fun t38 =>cond ((IntKind.i64.wrap t38)==s.2.1) (onPtr t fun t45 =>ldSl (t45.add 1) w2 fun t47 =>ixK t47 s_1.1 1 fun t49 =>ldI .u32 t49 w2 fun t50 =>J3 ((t50==s.1),()) w2) (J3 (false,()) w2)) (J3 (false,()) w2)) (qjn t s.1 s.2.1 w2 fun t58 w4 =>cond (!t58) (onPtr r fun t62 =>stK (t62.add 1) [(.int .i64 t15)] w4 fun w5 =>K 0 3 w5) (qay r 1 w4 fun t66 t66_1 w6 =>cond (!t66_1) (onPtr r fun t73 =>stK (t73.add 1) [(.int .i64 t15)] w6 fun w7 =>K 0 2 w7) (0≤(1:Int) ∧I1 ((bitsR .or .u32 (IntKind.u32.wrap (s.1*2^(min (1:Int).toNat IntKind.u32.bits))) t66),(IntKind.i64.wrap (s.2.1+(1:Int))),()) w6)))) (0,()) w1) (onPtr r fun t81 =>stK (t81.add 1) [(.int .i64 t15)] w1 fun w8 =>K 0 3 w8)) (0,0,()) w
def q36:List Ann:=[.none,.none,.none,.none,.none,.join [(7,(Kind.int .u32)),(8,(Kind.int .i64))] [4,5,7,8,9,10,11,16,17,18,19,20,21,22,23,24,25,26,27,28,29,30,31,32,33,34,35,36,37,38,39,40,41,42,43,44,45,46,47,48,49,50,51,52,53,54,55,56,57,58,59,60,61,62,63,64,65,66,67,68,69,70,71,72,73,74,75,76,77,78],.none,.none,.none,.none,.none,.join [(9,(Kind.int .i64))] [4,5,9,20,21,22,23,24,25,26,27,28,29,30,31,32,33,34,35,36,37,38,39,40,41,42,43,44,45,46,47,48,49,50,51,52,53,54],.none,.none,.none,.join [(53,Kind.bool)] [29,30,31,32,33,34,35,36,37,38,39,40,41,42,43,44,45,46,47,48,49,50,51,52,53],.none,.none,.none,.none,.none,.none,.none,.none,.none,.none,.none,.none]
theorem q4d (t:Option Addr) (r:Option Addr) (w:World) (K:Int→Int→World→Prop) :
  vcFn C (Tryz.f230.body.getD .skip) Tryz.f230.results.toList Tryz.f230.ntmps q36 [(Kind.int .i64),(Kind.int .i64)] [(.pointer t),(.pointer r)] w (fun s w=>K s.1 s.2.1 w)=qle t r w K:=by kernel_rfl
theorem qzp (t:Option Addr) (r:Option Addr) {w:World} {K:Int→Int→World→Prop} (h:qle t r w K):qd9 t r w K:=by
 rw [←q4d] at h
 refine Calls.mono (cvc C.plain_ok C.mixed Tryz.func230 rfl h) ?_
 rintro e w' ⟨s,rfl,hK⟩
 exact ⟨s.1,s.2.1,rfl,hK⟩
def qid (s:Option Addr) (sym:Int) (d:Option Addr) (w:World) (K:Int→World→Prop):Prop :=qso sym w fun t18 t18_1 w1 =>onPtr s fun t23 =>ldP (t23.add 0) w1 fun t25 =>qay t25 t18_1 w1 fun t27 t27_1 w2 =>cond (!t27_1) (K 2 w2) (onPtr s fun t39 =>ldP (t39.add 0) w2 fun t41 =>qd9 d t41 w2 fun t42 t42_1 w3 =>cond (t42_1 !=(0:Int)) (K t42_1 w3) (cond (decide (t42≥(30:Int))) (K 3 w3) (qof t42 w3 fun t52 t52_1 w4 =>onPtr s fun t57 =>ldP (t57.add 0) w4 fun t59 =>qay t59 t52_1 w4 fun t61 t61_1 w5 =>cond (!t61_1) (K 2 w5) (joinP (σ:=Unit) (fun s_1 w6 =>loopP (σ:=Int×Unit) (fun I2 s_2 w7 =>cond (decide (s_2.1<(IntKind.i64.wrap (t18+(IntKind.i64.wrap t27))))) (onPtr s fun t87 =>ldSl (t87.add 1) w7.drew fun t89 =>onPtr s fun t92 =>ldI .i64 (t92.add 2) w7.drew fun t94 =>cond (decide (((t89.n:Nat):Int)≥t94)) (K 5 w7.drew) (onPtr s fun t98 =>ldSl (t98.add 1) w7.drew.drew fun t100 =>onPtr s fun t102 =>ldSl (t102.add 1) w7.drew.drew fun t104 =>onPtr s fun t106 =>ldSl (t106.add 1) w7.drew.drew fun t108 =>ixK t104 (IntKind.i64.wrap (((t108.n:Nat):Int)-(IntKind.i64.wrap (t52+(IntKind.i64.wrap t61))))) 1 fun t112 =>ldI .u8 t112 w7.drew.drew fun t113 =>nw qai [(.int .u8 t113)] w7.drew.drew fun t114 w8 =>World.cell? w8 (t98.add 1)=some (.slice t100.a t100.n t100.c) ∧apK PG #[qab,qab] qab t100 (⟨(some t114),1,1⟩:Slc) w8 fun t115 w9 =>onPtr s fun t116 =>stK (t116.add 1) [(.slice t115.a t115.n t115.c)] w9 fun w10 =>I2 ((IntKind.i64.wrap (s_2.1+(1:Int))),()) w10)) (K 0 w7)) (0,()) w6) fun J1 =>onPtr s fun t72 =>ldSl (t72.add 1) w5 fun t74 =>cond (decide ((IntKind.i64.wrap (t52+(IntKind.i64.wrap t61)))>((t74.n:Nat):Int))) (K 3 w5) (cond (decide ((IntKind.i64.wrap (t52+(IntKind.i64.wrap t61)))>(32768:Int))) (K 3 w5) (J1 (()) w5))))))
def qyt:List Ann:=[.none,.none,.none,.none,.none,.none,.none,.none,.none,.none,.none,.none,.none,.none,.none,.none,.none,.none,.none,.none,.join [] [6,70,71,72,73,74,75,76,77,78,79,80],.none,.none,.none,.none,.join [(15,(Kind.int .i64))] [6,15,81,82,83,84,85,86,87,88,89,90,91,92,93,94,95,96,97,98,99,100,101,102,103,104,105,106,107,108,109,110,111,112,113,114,115,116,117],.none,.none,.none,.none,.none,.none,.none]
theorem q0c (s:Option Addr) (sym:Int) (d:Option Addr) (w:World) (K:Int→World→Prop) :
  vcFn C (Tryz.f231.body.getD .skip) Tryz.f231.results.toList Tryz.f231.ntmps qyt [(Kind.int .i64)] [(.pointer s),(.int .i64 sym),(.pointer d)] w (fun s w=>K s.1 w)=qid s sym d w K:=by kernel_rfl
theorem qu2 (s:Option Addr) (sym:Int) (d:Option Addr) {w:World} {K:Int→World→Prop} (h:qid s sym d w K):qjr s sym d w K:=by
 rw [←q0c] at h
 refine Calls.mono (cvc C.plain_ok C.mixed Tryz.func231 rfl h) ?_
 rintro e w' ⟨s,rfl,hK⟩
 exact ⟨s.1,rfl,hK⟩
def qho (s:Option Addr) (t:Option Addr) (n:Int) (w:World) (K:Slc→Int→World→Prop):Prop :=loopP (σ:=Slc×Unit) (fun I1 s_1 w1 =>cond (decide (((s_1.1.n:Nat):Int)<n)) (onPtr s fun t25 =>ldP (t25.add 0) w1 fun t27 =>qd9 t t27 w1 fun t28 t28_1 w2 =>cond (t28_1 !=(0:Int)) (K (⟨none,0,0⟩:Slc) t28_1 w2) (cond (decide (t28<(16:Int))) (nw qai [(.int .u8 (IntKind.u8.wrap t28))] w2 fun t39 w3 =>apK PG #[qab,qab] qab s_1.1 (⟨(some t39),1,1⟩:Slc) w3 fun t40 w4 =>I1 (t40,()) w4) (joinP (σ:=Int×Int×Int×Unit) (fun s_2 w5 =>onPtr s fun t59 =>ldP (t59.add 0) w5 fun t61 =>qay t61 s_2.2.1 w5 fun t63 t63_1 w6 =>cond (!t63_1) (K (⟨none,0,0⟩:Slc) 2 w6) (cond (decide ((IntKind.i64.wrap (((s_1.1.n:Nat):Int)+(IntKind.i64.wrap (s_2.1+(IntKind.i64.wrap t63)))))>n)) (K (⟨none,0,0⟩:Slc) 3 w6) (loopP (σ:=Slc×Int×Unit) (fun I3 s_3 w7 =>cond (decide (s_3.2.1<(IntKind.i64.wrap (s_2.1+(IntKind.i64.wrap t63))))) (nw qai [(.int .u8 s_2.2.2.1)] w7 fun t85 w8 =>apK PG #[qab,qab] qab s_3.1 (⟨(some t85),1,1⟩:Slc) w8 fun t86 w9 =>I3 (t86,(IntKind.i64.wrap (s_3.2.1+(1:Int))),()) w9) (I1 (s_3.1,()) w7)) (s_1.1,0,()) w6))) fun J2 =>cond (t28==(16:Int)) (cond (((s_1.1.n:Nat):Int)==(0:Int)) (K (⟨none,0,0⟩:Slc) 3 w2) (ixK s_1.1 (IntKind.i64.wrap (((s_1.1.n:Nat):Int)-(1:Int))) 1 fun t51 =>ldI .u8 t51 w2 fun t52 =>J2 (3,2,t52,()) w2)) (cond (t28==(17:Int)) (J2 (3,3,0,()) w2) (cond (t28==(18:Int)) (J2 (11,7,0,()) w2) (J2 (3,2,0,()) w2)))))) (K s_1.1 0 w1)) (⟨none,0,0⟩,()) w
def qw2:List Ann:=[.none,.none,.none,.join [(8,Kind.slice)] [6,7,8,9,10,11,12,13,14,15,16,17,18,19,20,21,22,23,24,25,26,27,28,29,30,31,32,33,34,35,36,37,38,39,40,41,42,43,44,45,46,47,48,49,50,51,52,53,54,55,56,57,58,59,60,61,62,63,64,65,66,67,68,69,70,71,72,73,74,75,76,77,78,79,80,81,82,83,84,85,86],.none,.none,.none,.none,.none,.none,.none,.none,.none,.none,.none,.none,.join [(11,(Kind.int .i64)),(12,(Kind.int .i64)),(13,(Kind.int .u8))] [6,7,11,12,13,41,42,43,44,45,46,47,48,49,50,51,52,53,54,55,56],.none,.none,.none,.none,.none,.none,.none,.none,.none,.none,.none,.none,.none,.none,.none,.none,.none,.join [(8,Kind.slice),(17,(Kind.int .i64))] [8,17,78,79,80,81,82,83,84,85,86],.none,.none,.none,.none]
theorem qwv (s:Option Addr) (t:Option Addr) (n:Int) (w:World) (K:Slc→Int→World→Prop) :
  vcFn C (Tryz.f232.body.getD .skip) Tryz.f232.results.toList Tryz.f232.ntmps qw2 [Kind.slice,(Kind.int .i64)] [(.pointer s),(.pointer t),(.int .i64 n)] w (fun s w=>K s.1 s.2.1 w)=qho s t n w K:=by kernel_rfl
theorem qs6 (s:Option Addr) (t:Option Addr) (n:Int) {w:World} {K:Slc→Int→World→Prop} (h:qho s t n w K):qip s t n w K:=by
 rw [←qwv] at h
 refine Calls.mono (cvc C.plain_ok C.mixed Tryz.func232 rfl h) ?_
 rintro e w' ⟨s,rfl,hK⟩
 exact ⟨s.1,s.2.1,rfl,hK⟩
def qjb (r:Option Addr) (w:World) (K:Int→World→Prop):Prop :=onPtr r fun t4 =>ldSl (t4.add 0) w.drew fun t6 =>onPtr r fun t10 =>ldI .i64 (t10.add 1) w.drew fun t12 =>K (IntKind.i64.wrap ((IntKind.i64.wrap ((8:Int)*((t6.n:Nat):Int)))-t12)) w.drew
def q13:List Ann:=[.none,.none]
theorem q1q (r:Option Addr) (w:World) (K:Int→World→Prop) :
  vcFn C (Tryz.f233.body.getD .skip) Tryz.f233.results.toList Tryz.f233.ntmps q13 [(Kind.int .i64)] [(.pointer r)] w (fun s w=>K s.1 w)=qjb r w K:=by kernel_rfl
theorem qwi (r:Option Addr) {w:World} {K:Int→World→Prop} (h:qjb r w K):qkw r w K:=by
 rw [←q1q] at h
 refine Calls.mono (cvc C.plain_ok C.mixed Tryz.func233 rfl h) ?_
 rintro e w' ⟨s,rfl,hK⟩
 exact ⟨s.1,rfl,hK⟩
def qk9 (r:Option Addr) (at_:Int) (w:World) (K:Int→World→Prop):Prop :=onPtr r fun t6 =>ldSl (t6.add 0) w fun t8 =>(8:Int)≠0 ∧ixK t8 (IntKind.i64.wrap (at_.tdiv (8:Int))) 1 fun t11 =>ldI .u8 t11 w fun t12 =>(8:Int)≠0 ∧0≤(IntKind.u64.wrap (at_.tmod (8:Int))) ∧K (bitsR .and .u32 (IntKind.u32.wrap (t12.fdiv (2^(min (IntKind.u64.wrap (at_.tmod (8:Int))).toNat IntKind.u8.bits)))) (1:Int)) w
def q4p:List Ann:=[.none,.none]
theorem q3g (r:Option Addr) (at_:Int) (w:World) (K:Int→World→Prop) :
  vcFn C (Tryz.f234.body.getD .skip) Tryz.f234.results.toList Tryz.f234.ntmps q4p [(Kind.int .u32)] [(.pointer r),(.int .i64 at_)] w (fun s w=>K s.1 w)=qk9 r at_ w K:=by kernel_rfl
theorem qy7 (r:Option Addr) (at_:Int) {w:World} {K:Int→World→Prop} (h:qk9 r at_ w K):qme r at_ w K:=by
 rw [←q3g] at h
 refine Calls.mono (cvc C.plain_ok C.mixed Tryz.func234 rfl h) ?_
 rintro e w' ⟨s,rfl,hK⟩
 exact ⟨s.1,rfl,hK⟩
def qij (t:Option Addr) (code:Int) (n:Int) (w:World) (K:Bool→World→Prop):Prop :=loopP (σ:=Int×Unit) (fun I1 s w1 =>onPtr t fun t11 =>ldSl (t11.add 0) w1 fun t13 =>cond (decide (s.1<((t13.n:Nat):Int))) (onPtr t fun t19 =>ldSl (t19.add 0) w1 fun t21 =>ixK t21 s.1 1 fun t23 =>ldI .u8 t23 w1 fun t24 =>cond (decide ((IntKind.i64.wrap t24)≥n)) (cond (decide ((IntKind.i64.wrap t24)>(0:Int))) (onPtr t fun t35 =>ldSl (t35.add 1) w1 fun t37 =>ixK t37 s.1 1 fun t39 =>ldI .u32 t39 w1 fun t40 =>0≤(IntKind.u64.wrap (IntKind.i64.wrap ((IntKind.i64.wrap t24)-n))) ∧cond ((t40.fdiv (2^(min (IntKind.u64.wrap (IntKind.i64.wrap ((IntKind.i64.wrap t24)-n))).toNat IntKind.u32.bits)))==code) (K true w1) (I1 ((IntKind.i64.wrap (s.1+(1:Int))),()) w1)) (I1 ((IntKind.i64.wrap (s.1+(1:Int))),()) w1)) (I1 ((IntKind.i64.wrap (s.1+(1:Int))),()) w1)) (K false w1)) (0,()) w
def qyb:List Ann:=[.none,.none,.none,.join [(7,(Kind.int .i64))] [6,7,8,9,10,11,12,13,14,15,16,17,18,19,20,21,22,23,24,25,26,27,28,29,30,31,32,33,34,35,36,37,38,39,40,41,42,43,44,45,46,47,48],.none,.none,.none,.none,.none,.none,.none]
theorem q0e (t:Option Addr) (code:Int) (n:Int) (w:World) (K:Bool→World→Prop) :
  vcFn C (Tryz.f235.body.getD .skip) Tryz.f235.results.toList Tryz.f235.ntmps qyb [Kind.bool] [(.pointer t),(.int .u32 code),(.int .i64 n)] w (fun s w=>K s.1 w)=qij t code n w K:=by kernel_rfl
theorem qt8 (t:Option Addr) (code:Int) (n:Int) {w:World} {K:Bool→World→Prop} (h:qij t code n w K):qjn t code n w K:=by
 rw [←q0e] at h
 refine Calls.mono (cvc C.plain_ok C.mixed Tryz.func235 rfl h) ?_
 rintro e w' ⟨s,rfl,hK⟩
 exact ⟨s.1,rfl,hK⟩
def qp3 (s:Int) (w:World) (K:Int→Int→World→Prop):Prop :=cond (s==(285:Int)) (K 258 0 w) (cond (decide ((IntKind.i64.wrap (s-(257:Int)))<(8:Int))) (K (IntKind.i64.wrap ((3:Int)+(IntKind.i64.wrap (s-(257:Int))))) 0 w) ((4:Int)≠0 ∧(4:Int)≠0 ∧0≤(IntKind.u64.wrap (IntKind.i64.wrap ((IntKind.i64.wrap ((IntKind.i64.wrap (s-(257:Int))).tdiv (4:Int)))-(1:Int)))) ∧K (IntKind.i64.wrap ((3:Int)+(IntKind.i64.wrap ((IntKind.i64.wrap ((4:Int)+((IntKind.i64.wrap (s-(257:Int))).tmod (4:Int))))*2^(min (IntKind.u64.wrap (IntKind.i64.wrap ((IntKind.i64.wrap ((IntKind.i64.wrap (s-(257:Int))).tdiv (4:Int)))-(1:Int)))).toNat IntKind.i64.bits))))) (IntKind.i64.wrap ((IntKind.i64.wrap ((IntKind.i64.wrap (s-(257:Int))).tdiv (4:Int)))-(1:Int))) w))
def za9:List Ann:=[.none,.none,.none,.none,.none,.none,.none,.none,.none,.none]
theorem zba (s:Int) (w:World) (K:Int→Int→World→Prop) :
  vcFn C (Tryz.f236.body.getD .skip) Tryz.f236.results.toList Tryz.f236.ntmps za9 [(Kind.int .i64),(Kind.int .i64)] [(.int .i64 s)] w (fun s w=>K s.1 s.2.1 w)=qp3 s w K:=by kernel_rfl
theorem q61 (s:Int) {w:World} {K:Int→Int→World→Prop} (h:qp3 s w K):qso s w K:=by
 rw [←zba] at h
 refine Calls.mono (cvc C.plain_ok C.mixed Tryz.func236 rfl h) ?_
 rintro e w' ⟨s,rfl,hK⟩
 exact ⟨s.1,s.2.1,rfl,hK⟩
def qnd (s:Int) (w:World) (K:Int→Int→World→Prop):Prop :=cond (decide (s<(4:Int))) (K (IntKind.i64.wrap ((1:Int)+s)) 0 w) ((2:Int)≠0 ∧(2:Int)≠0 ∧0≤(IntKind.u64.wrap (IntKind.i64.wrap ((IntKind.i64.wrap (s.tdiv (2:Int)))-(1:Int)))) ∧K (IntKind.i64.wrap ((1:Int)+(IntKind.i64.wrap ((IntKind.i64.wrap ((2:Int)+(s.tmod (2:Int))))*2^(min (IntKind.u64.wrap (IntKind.i64.wrap ((IntKind.i64.wrap (s.tdiv (2:Int)))-(1:Int)))).toNat IntKind.i64.bits))))) (IntKind.i64.wrap ((IntKind.i64.wrap (s.tdiv (2:Int)))-(1:Int))) w)
def q6z:List Ann:=[.none,.none,.none,.none,.none,.none]
theorem q74 (s:Int) (w:World) (K:Int→Int→World→Prop) :
  vcFn C (Tryz.f237.body.getD .skip) Tryz.f237.results.toList Tryz.f237.ntmps q6z [(Kind.int .i64),(Kind.int .i64)] [(.int .i64 s)] w (fun s w=>K s.1 s.2.1 w)=qnd s w K:=by kernel_rfl
theorem q4f (s:Int) {w:World} {K:Int→Int→World→Prop} (h:qnd s w K):qof s w K:=by
 rw [←q74] at h
 refine Calls.mono (cvc C.plain_ok C.mixed Tryz.func237 rfl h) ?_
 rintro e w' ⟨s,rfl,hK⟩
 exact ⟨s.1,s.2.1,rfl,hK⟩
def qmd (c:Option Addr) (w:World) (K:Int→World→Prop):Prop :=onPtr c fun t4 =>ldI .u32 (t4.add 0) w fun t6 =>K (bitsR .xor .u32 (4294967295) t6) w
def q4v:List Ann:=[.none,.none]
theorem q42 (c:Option Addr) (w:World) (K:Int→World→Prop) :
  vcFn C (Tryz.f256.body.getD .skip) Tryz.f256.results.toList Tryz.f256.ntmps q4v [(Kind.int .u32)] [(.pointer c)] w (fun s w=>K s.1 w)=qmd c w K:=by kernel_rfl
theorem q2f (c:Option Addr) {w:World} {K:Int→World→Prop} (h:qmd c w K):qm3 c w K:=by
 rw [←q42] at h
 refine Calls.mono (cvc C.plain_ok C.mixed Tryz.func256 rfl h) ?_
 rintro e w' ⟨s,rfl,hK⟩
 exact ⟨s.1,rfl,hK⟩
def qjz (c:Option Addr) (b:Slc) (w:World) (K:Int→Value→World→Prop):Prop :=nw qgk [(.int .u32 0),(.int .u32 0),(.int .u32 0),(.int .u32 0),(.int .u32 0),(.int .u32 0),(.int .u32 0),(.int .u32 0),(.int .u32 0),(.int .u32 0),(.int .u32 0),(.int .u32 0),(.int .u32 0),(.int .u32 0),(.int .u32 0),(.int .u32 0)] w fun half w1 =>stK half [(.int .u32 0),(.int .u32 498536548),(.int .u32 997073096),(.int .u32 651767980),(.int .u32 1994146192),(.int .u32 1802195444),(.int .u32 1303535960),(.int .u32 1342533948),(.int .u32 3988292384),(.int .u32 4027552580),(.int .u32 3604390888),(.int .u32 3412177804),(.int .u32 2607071920),(.int .u32 2262029012),(.int .u32 2685067896),(.int .u32 3183342108)] w1 fun w2 =>loopP (σ:=Int×Unit) (fun I1 s w3 =>cond (decide (s.1<((b.n:Nat):Int))) (ixK b s.1 1 fun t14 =>ldI .u8 t14 w3 fun t15 =>onPtr c fun t17 =>ldI .u32 (t17.add 0) w3 fun t19 =>onPtr c fun t23 =>stK (t23.add 0) [(.int .u32 (bitsR .xor .u32 t19 (IntKind.u32.wrap t15)))] w3 fun w4 =>onPtr c fun t27 =>ldI .u32 (t27.add 0) w4.drew fun t29 =>0≤(4:Int) ∧onPtr c fun t32 =>ldI .u32 (t32.add 0) w4.drew fun t34 =>ixA half 16 (bitsR .and .u32 t34 (15:Int)) 1 fun t36 =>ldI .u32 t36 w4.drew fun t37 =>onPtr c fun t39 =>stK (t39.add 0) [(.int .u32 (bitsR .xor .u32 (t29.fdiv (2^(min (4:Int).toNat IntKind.u32.bits))) t37))] w4.drew fun w5 =>onPtr c fun t43 =>ldI .u32 (t43.add 0) w5.drew fun t45 =>0≤(4:Int) ∧onPtr c fun t48 =>ldI .u32 (t48.add 0) w5.drew fun t50 =>ixA half 16 (bitsR .and .u32 t50 (15:Int)) 1 fun t52 =>ldI .u32 t52 w5.drew fun t53 =>onPtr c fun t55 =>stK (t55.add 0) [(.int .u32 (bitsR .xor .u32 (t45.fdiv (2^(min (4:Int).toNat IntKind.u32.bits))) t53))] w5.drew fun w6 =>I1 ((IntKind.i64.wrap (s.1+(1:Int))),()) w6) (K ((b.n:Nat):Int) (.nilIface:Value) w3)) (0,()) w2
def q2j:List Ann:=[.none,.none,.none,.none,.join [(12,(Kind.int .i64))] [8,12,13,14,15,16,17,18,19,20,21,22,23,24,25,26,27,28,29,30,31,32,33,34,35,36,37,38,39,40,41,42,43,44,45,46,47,48,49,50,51,52,53,54,55,56,57],.none,.none,.none,.none,.none,.none,.none]
theorem q10 (c:Option Addr) (b:Slc) (w:World) (K:Int→Value→World→Prop) :
  vcFn C (Tryz.f257.body.getD .skip) Tryz.f257.results.toList Tryz.f257.ntmps q2j [(Kind.int .i64),Kind.raw] [(.pointer c),(.slice b.a b.n b.c)] w (fun s w=>K s.1 s.2.1 w)=qjz c b w K:=by kernel_rfl
theorem qxl (c:Option Addr) (b:Slc) {w:World} {K:Int→Value→World→Prop} (h:qjz c b w K):qk4 c b w K:=by
 rw [←q10] at h
 refine Calls.mono (cvc C.plain_ok C.mixed Tryz.func257 rfl h) ?_
 rintro e w' ⟨s,rfl,hK⟩
 exact ⟨s.1,s.2.1,rfl,hK⟩
def qjj (a:Option Addr) (w:World) (K:Int→World→Prop):Prop :=onPtr a fun t4 =>ldI .u32 (t4.add 1) w.drew fun t6 =>0≤(16:Int) ∧onPtr a fun t9 =>ldI .u32 (t9.add 0) w.drew fun t11 =>K (bitsR .or .u32 (IntKind.u32.wrap (t6*2^(min (16:Int).toNat IntKind.u32.bits))) t11) w.drew
def q1b:List Ann:=[.none,.none]
theorem q18 (a:Option Addr) (w:World) (K:Int→World→Prop) :
  vcFn C (Tryz.f258.body.getD .skip) Tryz.f258.results.toList Tryz.f258.ntmps q1b [(Kind.int .u32)] [(.pointer a)] w (fun s w=>K s.1 w)=qjj a w K:=by kernel_rfl
theorem qw9 (a:Option Addr) {w:World} {K:Int→World→Prop} (h:qjj a w K):qld a w K:=by
 rw [←q18] at h
 refine Calls.mono (cvc C.plain_ok C.mixed Tryz.func258 rfl h) ?_
 rintro e w' ⟨s,rfl,hK⟩
 exact ⟨s.1,rfl,hK⟩
def qhy (a:Option Addr) (b:Slc) (w:World) (K:Int→Value→World→Prop):Prop :=loopP (σ:=Int×Unit) (fun I1 s w1 =>cond (decide (s.1<((b.n:Nat):Int))) (ixK b s.1 1 fun t12 =>ldI .u8 t12 w1 fun t13 =>onPtr a fun t16 =>ldI .u32 (t16.add 0) w1 fun t18 =>(65521:Int)≠0 ∧onPtr a fun t23 =>stK (t23.add 0) [(.int .u32 ((IntKind.u32.wrap (t18+(IntKind.u32.wrap t13))).tmod (65521:Int)))] w1 fun w2 =>onPtr a fun t27 =>ldI .u32 (t27.add 1) w2.drew fun t29 =>onPtr a fun t31 =>ldI .u32 (t31.add 0) w2.drew fun t33 =>(65521:Int)≠0 ∧onPtr a fun t36 =>stK (t36.add 1) [(.int .u32 ((IntKind.u32.wrap (t29+t33)).tmod (65521:Int)))] w2.drew fun w3 =>I1 ((IntKind.i64.wrap (s.1+(1:Int))),()) w3) (K ((b.n:Nat):Int) (.nilIface:Value) w1)) (0,()) w
def qwk:List Ann:=[.none,.none,.none,.join [(10,(Kind.int .i64))] [7,10,11,12,13,14,15,16,17,18,19,20,21,22,23,24,25,26,27,28,29,30,31,32,33,34,35,36,37,38],.none,.none,.none,.none,.none,.none]
theorem qxa (a:Option Addr) (b:Slc) (w:World) (K:Int→Value→World→Prop) :
  vcFn C (Tryz.f259.body.getD .skip) Tryz.f259.results.toList Tryz.f259.ntmps qwk [(Kind.int .i64),Kind.raw] [(.pointer a),(.slice b.a b.n b.c)] w (fun s w=>K s.1 s.2.1 w)=qhy a b w K:=by kernel_rfl
theorem qtz (a:Option Addr) (b:Slc) {w:World} {K:Int→Value→World→Prop} (h:qhy a b w K):qib a b w K:=by
 rw [←qxa] at h
 refine Calls.mono (cvc C.plain_ok C.mixed Tryz.func259 rfl h) ?_
 rintro e w' ⟨s,rfl,hK⟩
 exact ⟨s.1,s.2.1,rfl,hK⟩
end Go.Proofs.YtmagnpcgpinmcaaGreat
