import Derived.Test.YtjhgepnpnapnoaaGreatDoorDefs
set_option maxRecDepth 100000
set_option linter.unusedVariables false
open Go.IntKind (i64)
namespace Go.Proofs.YtjhgepnpnapnoaaGreatDoor
open Go.Vc
open Tryz
variable {w:World}
theorem qxs(wx hx per:Int)(b:Slc){K:qf->Int->Ub}(h:nw qx yE w λw t=>qe3 wx hx t λt s a=>nw qx yE a λa c=>stK a (qf.rep.cells t) c λt=>zf (σ:=Int×Unit) (λt s=>cond (t.1 !=0) ( stK w yE s λs=>ldS qf.rep w s λw=>K w t.1 s) (zh (σ:=Int×Unit) (λt s c=>cond (decide (s.1<(i64.wrap (wx*hx)))) ( zW (a.add 2) c λw=>ixK w (i64.wrap ((i64.wrap (4*s.1))+3)) 1 λw=>stK w [.int .u8 255] c λw=>zW (a.add 2) w.drew λa=>slK a (some (i64.wrap (4*s.1))) none 1 λa=>slK b (some (i64.wrap (per*s.1))) (some (i64.wrap ((i64.wrap (per*s.1))+per))) 1 λb=>zO PG (Builtin.copy_ #[qj,qj] zJ #[.slice a.a a.n a.c,.slice b.a b.n b.c]) (Kind.int .i64) w.drew λ(_:Int) w =>t (i64.wrap (s.1+1),()) w) ( ldS qf.rep a c λt=>stK w (qf.rep.cells t) c λt=>ldS qf.rep w t λw=>K w 0 t)) (0,()) s)) λw=>cond (s !=0) (w (s,()) t) (cond (decide ((b.n:Int)<(i64.wrap ((i64.wrap (per*wx))*hx)))) (w (2,()) t) (cond (decide ((b.n:Int)>(i64.wrap ((i64.wrap (per*wx))*hx)))) (w (5,()) t) (w (s,()) t)))):qbh wx hx per b w K:=fnO [Ui,Ui,.jn [(11,(Kind.int .i64))],Ui,Ui,Ui,Ui,Ui,Ui,Ui,Ui,.jn [(47,(Kind.int .i64))]] func427 h
end Go.Proofs.YtjhgepnpnapnoaaGreatDoor
