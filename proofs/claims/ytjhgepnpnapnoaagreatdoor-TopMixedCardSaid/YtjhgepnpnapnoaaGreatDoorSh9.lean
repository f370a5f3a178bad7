import Derived.Test.YtjhgepnpnapnoaaGreatDoorDefs
set_option maxRecDepth 100000
set_option linter.unusedVariables false
open Go.IntKind (i64 u8)
namespace Go.Proofs.YtjhgepnpnapnoaaGreatDoor
open Go.Vc
open IntKind (u32)
open Tryz
variable {w:World}
theorem qj6(l:ub)(b:Slc){K:qf->Int->Ub}(h:nw qx yE w λw t=>zf (σ:=Value×Unit) (λt s=>qH l λa=>ldI .i64 ((a.add 1).add 6) s.drew λa=>qH l λc=>ldI .i64 ((c.add 1).add 7) s.drew λc=>j7 C t.1 [Ua a,Ua c,.slice b.a b.n b.c] [Kind.struct qf.rep,Kind.int .i64] s.drew λ(t:qf) (s:Int) a =>stK w (qf.rep.cells t) a λt=>ldS qf.rep w t λw=>K w s t) λs=>qH l λa=>ldI .i64 ((a.add 1).add 5) t λa=>zf (σ:=Value×Unit) (λt a=>gI l 24 a λc=>cond (decide ((b.n:Int)<c)) (stK w yE a λt=>ldS qf.rep w t λw=>K w 2 t) (s (t.1,()) a)) λs=>cond (a==100) (gI l 23 t λs=>(4:Int)≠0 /\q5v b (i64.wrap (s.tdiv (4:Int))) t λt s a=>stK w (qf.rep.cells t) a λt=>ldS qf.rep w t λw=>K w s t) (cond (a==24) (s (.func (.func qvl) #[] #[],()) t) (s (.func (.func qtx) #[] #[],()) t))):ZG l b w K:=fnO [Ui,Ui,.jn [(6,Kind.raw)],Ui,.jn [(6,Kind.raw)]] func379 h
theorem qvd(n:Int){K:Bool->Ub}(h:cond (decide (n>=1)) (K (decide (n<=16384)) w) (K false w)):VM n w K:=fnO [] func380 h
theorem vA(s:Slc)(f:Value){K:Bool->Ub}(h:xA s f w λw t=>K (decide (w>=0)) t):xg s f w K:=fnO [] func381 h
theorem qko(p:qm)(c0:Addr){K:Bool->Ub}(h:nw qJ (qm.rep.cells p) w λw t=>ldI .i64 (w.add 0) t λw=>ldI .i64 c0 t λs=>K (w==s) t):qar p c0 w K:=fnO [] func382 h
theorem Jh(s:Slc)(n:Int){K:Slc->Ub}(h:qW (λw=>cond (decide ((i64.wrap (n-(i64.wrap ((s.c:Int)-(s.n:Int)))))>0)) (slK s none (some (s.c:Int)) 5 λt=>apM PG #[zA,zJ] zA t (i64.wrap (n-(i64.wrap ((s.c:Int)-(s.n:Int))))) .i64 w λw t=>slK w none (some (s.n:Int)) 5 λw=>K w t) (K s w)) λt=>cond (decide (n<0)) (False) (t w)):xC s n w K:=fnO [Ui,Uj] func385 h
theorem Jb(s prefix_:uc){K:ByteArray->Bool->Ub}(h:xB s prefix_ w λw t=>cond (!w) (K s false t) (slS s (some (prefix_.size:Int)) none λw=>K w true t)):vW s prefix_ w K:=fnO [] func402 h
theorem qdx(d:ub){K:Bool->Ub}(h:gN .u32 d 0 w.drew λt=>gI d 1 w.drew λs=>gI d 2 w.drew λa=>(8:Int)≠0 /\0<=((i64.wrap ((i64.wrap (s-a))*6)).tmod (8:Int)) /\K ((jN .and .u32 t (u32.wrap ((u32.wrap ((1:Int)*2^(min ((i64.wrap ((i64.wrap (s-a))*6)).tmod (8:Int)).toNat u32.bits)))-1)))==0) w.drew):kJ d w K:=fnO [] func403 h
theorem qd1(d:ub){K:Slc->Ub}(h:gN .u32 d 0 w.drew λt=>gI d 1 w.drew λs=>gI d 2 w.drew λa=>0<=(i64.wrap (6*(i64.wrap ((i64.wrap (4-s))+a)))) /\0<=(16:Int) /\0<=(8:Int) /\qH d λb=>ldI .i64 (b.add 1) w.drew.drew λc=>qH d λd=>ldI .i64 (d.add 2) w.drew.drew λe=>(8:Int)≠0 /\nw qF [.int .u8 (u8.wrap ((u32.wrap (t*2^(min (i64.wrap (6*(i64.wrap ((i64.wrap (4-s))+a)))).toNat u32.bits))).fdiv (2^(min (16:Int).toNat u32.bits)))),.int .u8 (u8.wrap ((u32.wrap (t*2^(min (i64.wrap (6*(i64.wrap ((i64.wrap (4-s))+a)))).toNat u32.bits))).fdiv (2^(min (8:Int).toNat u32.bits)))),.int .u8 (u8.wrap (u32.wrap (t*2^(min (i64.wrap (6*(i64.wrap ((i64.wrap (4-s))+a)))).toNat u32.bits))))] w.drew.drew λw t=>t.cell? (d.add 2)=some (Ua e) /\t.cell? (b.add 1)=some (Ua c) /\slK (⟨some w,3,3⟩:Slc) none (some (i64.wrap ((i64.wrap ((i64.wrap (c-e))*6)).tdiv (8:Int)))) 1 λw=>K w t):kH d w K:=fnO [] func404 h
theorem qd5(d:ub){K:Ub}(h:qH d λt=>stK t [.int .u32 0,Ua 0,Ua 0,.bool false,.bool false] w λw=>K w):X8 d w K:=fnO [] func405 h
theorem qdn(s:Slc)(n:Int){K:Slc->Ub}(h:qW (λw=>cond (decide ((i64.wrap (n-(i64.wrap ((s.c:Int)-(s.n:Int)))))>0)) (slK s none (some (s.c:Int)) 1 λt=>apM PG #[qj,zJ] qj t (i64.wrap (n-(i64.wrap ((s.c:Int)-(s.n:Int))))) .i64 w λw t=>slK w none (some (s.n:Int)) 1 λw=>K w t) (K s w)) λt=>cond (decide (n<0)) (False) (t w)):y3 s n w K:=fnO [Ui,Uj] func406 h
theorem qpi(wx hx:Int)(b:Slc){K:qf->Int->Ub}(h:nw qx yE w λw t=>qbh wx hx 4 b t λt s a=>stK w (qf.rep.cells t) a λt=>ldS qf.rep w t λw=>K w s t):V6 wx hx b w K:=fnO [] func408 h
theorem qq5(wx hx:Int)(b:Slc){K:qf->Int->Ub}(h:nw qx yE w λw t=>qbh wx hx 3 b t λt s a=>stK w (qf.rep.cells t) a λt=>ldS qf.rep w t λw=>K w s t):YU wx hx b w K:=fnO [] func410 h
theorem ym(s:Slc)(f:Value){K:Int->Ub}(h:zh (σ:=Int×Unit) (λw t a=>cond (decide (t.1<(s.n:Int))) (ixK s t.1 14 λs=>ldS qm.rep s a λs=>j7 C f [.agg #[Ua s.Image,Ua s.Id,.bool s.Alt,Ua s.Line,Ua s.Col,Ua s.Rows,Ua s.Cols,Ua s.X,Ua s.Y,Ua s.W,Ua s.H,Ua s.DX,Ua s.DY,Ua s.Z]] [Kind.bool] a λ(s:Bool) a =>cond s (K t.1 a) (w (i64.wrap (t.1+1),()) a)) (K (-1) a)) (0,()) w):xA s f w K:=fnO [Ui,Ui,Ui,.jn [(8,(Kind.int .i64))]] func411 h
theorem Jn(s prefix_:uc){K:Bool->Ub}(h:cond (decide ((s.size:Int)>=(prefix_.size:Int))) (slS s none (some (prefix_.size:Int)) λt=>K (t.toList==prefix_.toList) w) (K false w)):xB s prefix_ w K:=fnO [] func422 h
end Go.Proofs.YtjhgepnpnapnoaaGreatDoor
