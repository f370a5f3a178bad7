import Derived.Test.YtjhgepnpnapnoaaGreatDoorDefs
set_option maxRecDepth 100000
set_option linter.unusedVariables false
namespace Go.Proofs.YtjhgepnpnapnoaaGreatDoor
open Go.Vc
open Tryz
variable {w:World}
theorem ql2(s:qy)(f:Value){K:Ub}(h:nw zo (qy.rep.cells s) w λw t=>ldI .i64 (w.add 0) t λs=>zh (σ:=Int×Unit) (λt a b=>cond (decide (a.1<s)) ( ldI .i64 (w.add 1) b λs=>zh (σ:=Int×Unit) (λb c d=>cond (decide (c.1<s)) ( ldS qy.rep w d λw=>JE w a.1 c.1 d λw t=>j7 C f [Ua a.1,Ua c.1,.agg #[.int .i32 w.R,Ua w.Kind,Ua w.A.Fg,Ua w.A.Bg,Ua w.A.Flags]] [] t λw=>b (IntKind.i64.wrap (c.1+1),()) w) (t (IntKind.i64.wrap (a.1+1),()) d)) (0,()) b) (K b)) (0,()) t):yK s f w K:=fnO [Ui,Ui,.jn [(8,(Kind.int .i64))],Ui,Ui,Ui,Ui,Ui,.jn [(13,(Kind.int .i64))]] func522 h
end Go.Proofs.YtjhgepnpnapnoaaGreatDoor
