import Derived.Test.YtcigiaecigedmaaGreatDoorDefs
set_option maxRecDepth 100000
set_option linter.unusedVariables false
namespace Go.Proofs.YtcigiaecigedmaaGreatDoor
open Go.Vc
open IntKind (i64)
def qhm (r:Option Addr) (w:World) (K:World->Prop):Prop :=onPtr r fun t3 =>ldI .i64 (t3.add 3) w.drew fun t5 =>onPtr r fun t7 =>ldSl (t7.add 1) w.drew fun t9 =>onPtr r fun t12 =>stK (t12.add 3) [(.int .i64 (i64.wrap (t5+((t9.n:Nat):Int))))] w.drew fun w1 =>onPtr r fun t16 =>stK (t16.add 1) [(.slice none 0 0)] w1 fun w2 =>onPtr r fun t18 =>stK (t18.add 2) [(.int .i64 0)] w2 fun w3 =>K w3
theorem qoy (r) {w K} (h:qhm r w K):qd8 r w K :=
 fnOf (n:=[.none]) (ks:=[]) (a:=[(.pointer r)]) (Q:=fun s w=>K w) Tryz.func386 rfl h (by kernel_rfl) fun s w' hK=>⟨rfl,hK⟩
def qsb (g:Option Addr) (row:Int) (from_:Int) (to:Int) (a:qac) (w:World) (K:Bool->World->Prop):Prop :=nw qbz [(.int .i64 from_)] w fun from__1 w1 =>nw qbz [(.int .i64 to)] w1 fun to_1 w2 =>nw qa4 (qac.rep.cells a) w2 fun a_1 w3 =>qeg g row ((.func (.func qjd) #[] #[(.pointer (some from__1)),(.pointer (some to_1)),(.pointer (some a_1))]):Value) w3 fun t14 w4 =>K t14 w4
theorem qzs (g row from_ to a) {w K} (h:qsb g row from_ to a w K):qit g row from_ to a w K :=
 fnOf (n:=[.none,.none]) (ks:=[Kind.bool]) (a:=[(.pointer g),(.int .i64 row),(.int .i64 from_),(.int .i64 to),(.agg #[(.int .i64 a.Fg),(.int .i64 a.Bg),(.int .i64 a.Flags)])]) (Q:=fun s w=>K s.1 w) Tryz.func387 rfl h (by kernel_rfl) fun s w' hK=>⟨s.1,rfl,hK⟩
def qzl (v:Int) (w:World) (K:Bool->World->Prop):Prop :=cond (decide (v>=(0:Int))) (K (decide (v<=(255:Int))) w) (K false w)
theorem q4w (v) {w K} (h:qzl v w K):qhj v w K :=
 fnOf (n:=[.none,.none]) (ks:=[Kind.bool]) (a:=[(.int .i64 v)]) (Q:=fun s w=>K s.1 w) Tryz.func392 rfl h (by kernel_rfl) fun s w' hK=>⟨s.1,rfl,hK⟩
def qpr (l:Slc) (c0:Addr) (c1:Addr) (c2:Addr) (w:World) (K:Slc->World->Prop):Prop :=ldI .i64 c0 w fun t7 =>ldI .i64 c1 w fun t8 =>ldS qac.rep c2 w fun t9 =>qlq l t7 t8 t9 w fun t10 w1 =>K t10 w1
theorem qw0 (l c0 c1 c2) {w K} (h:qpr l c0 c1 c2 w K):qq5 l c0 c1 c2 w K :=
 fnOf (n:=[.none,.none]) (ks:=[Kind.slice]) (a:=[(.slice l.a l.n l.c),(.pointer (some c0)),(.pointer (some c1)),(.pointer (some c2))]) (Q:=fun s w=>K s.1 w) Tryz.func412 rfl h (by kernel_rfl) fun s w' hK=>⟨s.1,rfl,hK⟩
def qqz (l:Slc) (from_:Int) (to:Int) (a:qac) (w:World) (K:Slc->World->Prop):Prop :=nw qa4 (qac.rep.cells a) w fun a_1 w1 =>qb0 l w1 fun t12 w2 =>cond (decide ((if (0:Int)>from_ then (0:Int) else from_)>=(if ((l.n:Nat):Int)<to then ((l.n:Nat):Int) else to))) (K t12 w2) (loopP (σ:=Int×Unit) (fun I1 s w3 =>cond (decide (s.1<(if ((l.n:Nat):Int)<to then ((l.n:Nat):Int) else to))) (ldS qac.rep a_1 w3 fun t31 =>ixK t12 s.1 5 fun t33 =>stK t33 [(.int .i32 0),(.int .i64 0),(.int .i64 t31.Fg),(.int .i64 t31.Bg),(.int .i64 t31.Flags)] w3 fun w4 =>I1 ((i64.wrap (s.1+(1:Int))),()) w4) (qgu t12 (if (0:Int)>from_ then (0:Int) else from_) (if ((l.n:Nat):Int)<to then ((l.n:Nat):Int) else to) w3 fun t37 w5 =>K t37 w5)) ((if (0:Int)>from_ then (0:Int) else from_),()) w2)
theorem qyd (l from_ to a) {w K} (h:qqz l from_ to a w K):qlq l from_ to a w K :=
 fnOf (n:=[.none,.none,.none,.none,.none,.none,.none,.none,.join [(10,(Kind.int .i64))] [10,24,25,26,27,28,29,30,31,32,33],.none,.none,.none,.none]) (ks:=[Kind.slice]) (a:=[(.slice l.a l.n l.c),(.int .i64 from_),(.int .i64 to),(.agg #[(.int .i64 a.Fg),(.int .i64 a.Bg),(.int .i64 a.Flags)])]) (Q:=fun s w=>K s.1 w) Tryz.func413 rfl h (by kernel_rfl) fun s w' hK=>⟨s.1,rfl,hK⟩
end Go.Proofs.YtcigiaecigedmaaGreatDoor
