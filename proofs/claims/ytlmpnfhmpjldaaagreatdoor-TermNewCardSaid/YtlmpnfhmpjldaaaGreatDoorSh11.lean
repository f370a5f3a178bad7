import Derived.Test.YtlmpnfhmpjldaaaGreatDoorDefs
set_option maxRecDepth 100000
set_option linter.unusedVariables false
namespace Go.Proofs.YtlmpnfhmpjldaaaGreatDoor
open Go.Vc
open IntKind (i64)
theorem Zk(s prefix_:ByteArray){w:World}{K:Bool->Ub}(h:cond (decide ((s.size:Int)>=(prefix_.size:Int))) ( slS s none (some (prefix_.size:Int)) λt14=>K (t14.toList==prefix_.toList) w) (K false w)):xc s prefix_ w K:=fnO [] Tryz.func472 h
theorem qv3(wx hx per:Int)(b:Slc){w:World}{K:qa->Int->Ub}(h:nw qz [Ua 0,Ua 0,.slice none 0 0] w λt8 w1=>qc9 wx hx w1 λt16 t16_1 w2=>nw qz [Ua 0,Ua 0,.slice none 0 0] w2 λm w3=>stK m (qa.rep.cells t16) w3 λw4=>qX (σ:=Int×Unit) (λs w5=>cond (s.1 !=0) ( stK t8 [Ua 0,Ua 0,.slice none 0 0] w5 λw6=>ldS qa.rep t8 w6 λr=>K r s.1 w6) (zc (σ:=Int×Unit) (λI2 s_1 w7=>cond (decide (s_1.1<(i64.wrap (wx*hx)))) ( zF (m.add 2) w7 λt51=>ixK t51 (i64.wrap ((i64.wrap (4*s_1.1))+3)) 1 λt55=>stK t55 [.int .u8 255] w7 λw8=>zF (m.add 2) w8.drew λt57=>slK t57 (some (i64.wrap (4*s_1.1))) none 1 λt60=>slK b (some (i64.wrap (per*s_1.1))) (some (i64.wrap ((i64.wrap (per*s_1.1))+per))) 1 λt70=>jq PG (Builtin.copy_ #[qm,qm] zz #[.slice t60.a t60.n t60.c,.slice t70.a t70.n t70.c]) (Kind.int .i64) w8.drew λ(t71:Int) w9 =>I2 (i64.wrap (s_1.1+1),()) w9) ( ldS qa.rep m w7 λt73=>stK t8 (qa.rep.cells t73) w7 λw10=>ldS qa.rep t8 w10 λr_1=>K r_1 0 w10)) (0,()) w5)) λJ1=>cond (t16_1 !=0) (J1 (t16_1,()) w4) (cond (decide ((b.n:Int)<(i64.wrap ((i64.wrap (per*wx))*hx)))) (J1 (2,()) w4) (cond (decide ((b.n:Int)>(i64.wrap ((i64.wrap (per*wx))*hx)))) (J1 (5,()) w4) (J1 (t16_1,()) w4)))):YF wx hx per b w K:=fnO [Ui,Ui,.jn [(11,(Kind.int .i64))],Ui,Ui,Ui,Ui,Ui,Ui,Ui,Ui,.jn [(47,(Kind.int .i64))]] Tryz.func477 h
end Go.Proofs.YtlmpnfhmpjldaaaGreatDoor
