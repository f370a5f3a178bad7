import Derived.Test.YtedcpbkcamckoaaGreatDoorVc
import Derived.Test.YtedcpbkcamckoaaGreatDoorChecked
import Derived.KernelRfl
set_option maxRecDepth 100000
set_option linter.unusedVariables false
namespace Go.Proofs.YtedcpbkcamckoaaGreatDoor
open Go.Vc
structure qay where
 Alt:Bool
 Top:Int
 Rows:Int
 Cols:Int
 Row:Int
 Col:Int
def qay.rep:Rep where
 T:=qay
 cells x:=[(.bool x.Alt),(.int .i64 x.Top),(.int .i64 x.Rows),(.int .i64 x.Cols),(.int .i64 x.Row),(.int .i64 x.Col)]
 get l:=match l with
  | [.bool v1,.int .i64 v2,.int .i64 v3,.int .i64 v4,.int .i64 v5,.int .i64 v6]=>some ⟨v1,v2,v3,v4,v5,v6⟩
  | _=>none
 ok l c h:=by
  split at h
  ·injection h with h;subst h;rfl
  ·cases h
structure qac where
 View:qay
 CellW:Int
 CellH:Int
def qac.rep:Rep where
 T:=qac
 cells x:=[(.bool x.View.Alt),(.int .i64 x.View.Top),(.int .i64 x.View.Rows),(.int .i64 x.View.Cols),(.int .i64 x.View.Row),(.int .i64 x.View.Col),(.int .i64 x.CellW),(.int .i64 x.CellH)]
 get l:=match l with
  | [.bool v1,.int .i64 v2,.int .i64 v3,.int .i64 v4,.int .i64 v5,.int .i64 v6,.int .i64 v7,.int .i64 v8]=>some ⟨⟨v1,v2,v3,v4,v5,v6⟩,v7,v8⟩
  | _=>none
 ok l c h:=by
  split at h
  ·injection h with h;subst h;rfl
  ·cases h
structure qad where
 Reply:Slc
 Rows:Int
 Cols:Int
 Moves:Bool
def qad.rep:Rep where
 T:=qad
 cells x:=[(.slice x.Reply.a x.Reply.n x.Reply.c),(.int .i64 x.Rows),(.int .i64 x.Cols),(.bool x.Moves)]
 get l:=match l with
  | [.slice v1a v1n v1c,.int .i64 v2,.int .i64 v3,.bool v4]=>some ⟨⟨v1a,v1n,v1c⟩,v2,v3,v4⟩
  | _=>none
 ok l c h:=by
  split at h
  ·injection h with h;subst h;rfl
  ·cases h
structure qab where
 W:Int
 H:Int
 P:Slc
def qab.rep:Rep where
 T:=qab
 cells x:=[(.int .i64 x.W),(.int .i64 x.H),(.slice x.P.a x.P.n x.P.c)]
 get l:=match l with
  | [.int .i64 v1,.int .i64 v2,.slice v3a v3n v3c]=>some ⟨v1,v2,⟨v3a,v3n,v3c⟩⟩
  | _=>none
 ok l c h:=by
  split at h
  ·injection h with h;subst h;rfl
  ·cases h
structure qef where
 Op:Int
 Command:Slc
 V:qac
 M:qab
 Alt:Bool
 Line:Int
 Rows:Int
 From:Int
 Past:Int
 N:Int
def qef.rep:Rep where
 T:=qef
 cells x:=[(.int .i64 x.Op),(.slice x.Command.a x.Command.n x.Command.c),(.bool x.V.View.Alt),(.int .i64 x.V.View.Top),(.int .i64 x.V.View.Rows),(.int .i64 x.V.View.Cols),(.int .i64 x.V.View.Row),(.int .i64 x.V.View.Col),(.int .i64 x.V.CellW),(.int .i64 x.V.CellH),(.int .i64 x.M.W),(.int .i64 x.M.H),(.slice x.M.P.a x.M.P.n x.M.P.c),(.bool x.Alt),(.int .i64 x.Line),(.int .i64 x.Rows),(.int .i64 x.From),(.int .i64 x.Past),(.int .i64 x.N)]
 get l:=match l with
  | [.int .i64 v1,.slice v2a v2n v2c,.bool v3,.int .i64 v4,.int .i64 v5,.int .i64 v6,.int .i64 v7,.int .i64 v8,.int .i64 v9,.int .i64 v10,.int .i64 v11,.int .i64 v12,.slice v13a v13n v13c,.bool v14,.int .i64 v15,.int .i64 v16,.int .i64 v17,.int .i64 v18,.int .i64 v19]=>some ⟨v1,⟨v2a,v2n,v2c⟩,⟨⟨v3,v4,v5,v6,v7,v8⟩,v9,v10⟩,⟨v11,v12,⟨v13a,v13n,v13c⟩⟩,v14,v15,v16,v17,v18,v19⟩
  | _=>none
 ok l c h:=by
  split at h
  ·injection h with h;subst h;rfl
  ·cases h
structure qaa where
 Action:Int
 Medium:Int
 Zip:Int
 What:Int
 Quiet:Int
 Format:Int
 W:Int
 H:Int
 Id:Int
 Number:Int
 Place:Int
 More:Int
 X:Int
 Y:Int
 PW:Int
 PH:Int
 DX:Int
 DY:Int
 Rows:Int
 Cols:Int
 Z:Int
 Stay:Int
def qaa.rep:Rep where
 T:=qaa
 cells x:=[(.int .u8 x.Action),(.int .u8 x.Medium),(.int .u8 x.Zip),(.int .u8 x.What),(.int .i64 x.Quiet),(.int .i64 x.Format),(.int .i64 x.W),(.int .i64 x.H),(.int .i64 x.Id),(.int .i64 x.Number),(.int .i64 x.Place),(.int .i64 x.More),(.int .i64 x.X),(.int .i64 x.Y),(.int .i64 x.PW),(.int .i64 x.PH),(.int .i64 x.DX),(.int .i64 x.DY),(.int .i64 x.Rows),(.int .i64 x.Cols),(.int .i64 x.Z),(.int .i64 x.Stay)]
 get l:=match l with
  | [.int .u8 v1,.int .u8 v2,.int .u8 v3,.int .u8 v4,.int .i64 v5,.int .i64 v6,.int .i64 v7,.int .i64 v8,.int .i64 v9,.int .i64 v10,.int .i64 v11,.int .i64 v12,.int .i64 v13,.int .i64 v14,.int .i64 v15,.int .i64 v16,.int .i64 v17,.int .i64 v18,.int .i64 v19,.int .i64 v20,.int .i64 v21,.int .i64 v22]=>some ⟨v1,v2,v3,v4,v5,v6,v7,v8,v9,v10,v11,v12,v13,v14,v15,v16,v17,v18,v19,v20,v21,v22⟩
  | _=>none
 ok l c h:=by
  split at h
  ·injection h with h;subst h;rfl
  ·cases h
structure qo9 where
 quota:Int
 s:Option Addr
 t:Option Addr
 l:Option Addr
 first:qaa
def qo9.rep:Rep where
 T:=qo9
 cells x:=[(.int .i64 x.quota),(.pointer x.s),(.pointer x.t),(.pointer x.l),(.int .u8 x.first.Action),(.int .u8 x.first.Medium),(.int .u8 x.first.Zip),(.int .u8 x.first.What),(.int .i64 x.first.Quiet),(.int .i64 x.first.Format),(.int .i64 x.first.W),(.int .i64 x.first.H),(.int .i64 x.first.Id),(.int .i64 x.first.Number),(.int .i64 x.first.Place),(.int .i64 x.first.More),(.int .i64 x.first.X),(.int .i64 x.first.Y),(.int .i64 x.first.PW),(.int .i64 x.first.PH),(.int .i64 x.first.DX),(.int .i64 x.first.DY),(.int .i64 x.first.Rows),(.int .i64 x.first.Cols),(.int .i64 x.first.Z),(.int .i64 x.first.Stay)]
 get l:=match l with
  | [.int .i64 v1,.pointer v2,.pointer v3,.pointer v4,.int .u8 v5,.int .u8 v6,.int .u8 v7,.int .u8 v8,.int .i64 v9,.int .i64 v10,.int .i64 v11,.int .i64 v12,.int .i64 v13,.int .i64 v14,.int .i64 v15,.int .i64 v16,.int .i64 v17,.int .i64 v18,.int .i64 v19,.int .i64 v20,.int .i64 v21,.int .i64 v22,.int .i64 v23,.int .i64 v24,.int .i64 v25,.int .i64 v26]=>some ⟨v1,v2,v3,v4,⟨v5,v6,v7,v8,v9,v10,v11,v12,v13,v14,v15,v16,v17,v18,v19,v20,v21,v22,v23,v24,v25,v26⟩⟩
  | _=>none
 ok l c h:=by
  split at h
  ·injection h with h;subst h;rfl
  ·cases h
structure qbi where
 What:Int
 Image:Int
 Place:Int
 X:Int
 Y:Int
 Z:Int
def qbi.rep:Rep where
 T:=qbi
 cells x:=[(.int .u8 x.What),(.int .i64 x.Image),(.int .i64 x.Place),(.int .i64 x.X),(.int .i64 x.Y),(.int .i64 x.Z)]
 get l:=match l with
  | [.int .u8 v1,.int .i64 v2,.int .i64 v3,.int .i64 v4,.int .i64 v5,.int .i64 v6]=>some ⟨v1,v2,v3,v4,v5,v6⟩
  | _=>none
 ok l c h:=by
  split at h
  ·injection h with h;subst h;rfl
  ·cases h
structure qag where
 Image:Int
 Id:Int
 Alt:Bool
 Line:Int
 Col:Int
 Rows:Int
 Cols:Int
 X:Int
 Y:Int
 W:Int
 H:Int
 DX:Int
 DY:Int
 Z:Int
def qag.rep:Rep where
 T:=qag
 cells x:=[(.int .i64 x.Image),(.int .i64 x.Id),(.bool x.Alt),(.int .i64 x.Line),(.int .i64 x.Col),(.int .i64 x.Rows),(.int .i64 x.Cols),(.int .i64 x.X),(.int .i64 x.Y),(.int .i64 x.W),(.int .i64 x.H),(.int .i64 x.DX),(.int .i64 x.DY),(.int .i64 x.Z)]
 get l:=match l with
  | [.int .i64 v1,.int .i64 v2,.bool v3,.int .i64 v4,.int .i64 v5,.int .i64 v6,.int .i64 v7,.int .i64 v8,.int .i64 v9,.int .i64 v10,.int .i64 v11,.int .i64 v12,.int .i64 v13,.int .i64 v14]=>some ⟨v1,v2,v3,v4,v5,v6,v7,v8,v9,v10,v11,v12,v13,v14⟩
  | _=>none
 ok l c h:=by
  split at h
  ·injection h with h;subst h;rfl
  ·cases h
structure qee where
 quota:Int
 reserved:Int
 used:Int
 clock:Int
 l:Option Nat
def qee.rep:Rep where
 T:=qee
 cells x:=[(.int .i64 x.quota),(.int .i64 x.reserved),(.int .i64 x.used),(.int .i64 x.clock),(.map x.l)]
 get l:=match l with
  | [.int .i64 v1,.int .i64 v2,.int .i64 v3,.int .i64 v4,.map v5]=>some ⟨v1,v2,v3,v4,v5⟩
  | _=>none
 ok l c h:=by
  split at h
  ·injection h with h;subst h;rfl
  ·cases h
structure qrf where
 l:Slc
def qrf.rep:Rep where
 T:=qrf
 cells x:=[(.slice x.l.a x.l.n x.l.c)]
 get l:=match l with
  | [.slice v1a v1n v1c]=>some ⟨⟨v1a,v1n,v1c⟩⟩
  | _=>none
 ok l c h:=by
  split at h
  ·injection h with h;subst h;rfl
  ·cases h
structure qar where
 number:Int
 m:qab
 stamp:Int
 born:Int
def qar.rep:Rep where
 T:=qar
 cells x:=[(.int .i64 x.number),(.int .i64 x.m.W),(.int .i64 x.m.H),(.slice x.m.P.a x.m.P.n x.m.P.c),(.int .i64 x.stamp),(.int .i64 x.born)]
 get l:=match l with
  | [.int .i64 v1,.int .i64 v2,.int .i64 v3,.slice v4a v4n v4c,.int .i64 v5,.int .i64 v6]=>some ⟨v1,⟨v2,v3,⟨v4a,v4n,v4c⟩⟩,v5,v6⟩
  | _=>none
 ok l c h:=by
  split at h
  ·injection h with h;subst h;rfl
  ·cases h
structure qro where
 Decoder:Option Addr
 k:qaa
 most:Int
 need:Int
 pieces:Slc
 held:Int
 failed:Int
 over:Bool
def qro.rep:Rep where
 T:=qro
 cells x:=[(.pointer x.Decoder),(.int .u8 x.k.Action),(.int .u8 x.k.Medium),(.int .u8 x.k.Zip),(.int .u8 x.k.What),(.int .i64 x.k.Quiet),(.int .i64 x.k.Format),(.int .i64 x.k.W),(.int .i64 x.k.H),(.int .i64 x.k.Id),(.int .i64 x.k.Number),(.int .i64 x.k.Place),(.int .i64 x.k.More),(.int .i64 x.k.X),(.int .i64 x.k.Y),(.int .i64 x.k.PW),(.int .i64 x.k.PH),(.int .i64 x.k.DX),(.int .i64 x.k.DY),(.int .i64 x.k.Rows),(.int .i64 x.k.Cols),(.int .i64 x.k.Z),(.int .i64 x.k.Stay),(.int .i64 x.most),(.int .i64 x.need),(.slice x.pieces.a x.pieces.n x.pieces.c),(.int .i64 x.held),(.int .i64 x.failed),(.bool x.over)]
 get l:=match l with
  | [.pointer v1,.int .u8 v2,.int .u8 v3,.int .u8 v4,.int .u8 v5,.int .i64 v6,.int .i64 v7,.int .i64 v8,.int .i64 v9,.int .i64 v10,.int .i64 v11,.int .i64 v12,.int .i64 v13,.int .i64 v14,.int .i64 v15,.int .i64 v16,.int .i64 v17,.int .i64 v18,.int .i64 v19,.int .i64 v20,.int .i64 v21,.int .i64 v22,.int .i64 v23,.int .i64 v24,.int .i64 v25,.slice v26a v26n v26c,.int .i64 v27,.int .i64 v28,.bool v29]=>some ⟨v1,⟨v2,v3,v4,v5,v6,v7,v8,v9,v10,v11,v12,v13,v14,v15,v16,v17,v18,v19,v20,v21,v22,v23⟩,v24,v25,⟨v26a,v26n,v26c⟩,v27,v28,v29⟩
  | _=>none
 ok l c h:=by
  split at h
  ·injection h with h;subst h;rfl
  ·cases h
structure qbn where
 key:ByteArray
 n:Int
def qbn.rep:Rep where
 T:=qbn
 cells x:=[(.string x.key),(.int .i64 x.n)]
 get l:=match l with
  | [.string v1,.int .i64 v2]=>some ⟨v1,v2⟩
  | _=>none
 ok l c h:=by
  split at h
  ·injection h with h;subst h;rfl
  ·cases h
structure qma where
 v:Int
 n:Int
 fill:Int
 over:Bool
 bad:Bool
def qma.rep:Rep where
 T:=qma
 cells x:=[(.int .u32 x.v),(.int .i64 x.n),(.int .i64 x.fill),(.bool x.over),(.bool x.bad)]
 get l:=match l with
  | [.int .u32 v1,.int .i64 v2,.int .i64 v3,.bool v4,.bool v5]=>some ⟨v1,v2,v3,v4,v5⟩
  | _=>none
 ok l c h:=by
  split at h
  ·injection h with h;subst h;rfl
  ·cases h
structure qlf where
 addr:Option Addr
 buf:Slc
def qlf.rep:Rep where
 T:=qlf
 cells x:=[(.pointer x.addr),(.slice x.buf.a x.buf.n x.buf.c)]
 get l:=match l with
  | [.pointer v1,.slice v2a v2n v2c]=>some ⟨v1,⟨v2a,v2n,v2c⟩⟩
  | _=>none
 ok l c h:=by
  split at h
  ·injection h with h;subst h;rfl
  ·cases h
structure qah where
 W:Int
 H:Int
 Depth:Int
 Color:Int
 Lace:Int
def qah.rep:Rep where
 T:=qah
 cells x:=[(.int .i64 x.W),(.int .i64 x.H),(.int .i64 x.Depth),(.int .i64 x.Color),(.int .i64 x.Lace)]
 get l:=match l with
  | [.int .i64 v1,.int .i64 v2,.int .i64 v3,.int .i64 v4,.int .i64 v5]=>some ⟨v1,v2,v3,v4,v5⟩
  | _=>none
 ok l c h:=by
  split at h
  ·injection h with h;subst h;rfl
  ·cases h
structure qjk where
 lo:Int
 hi:Int
def qjk.rep:Rep where
 T:=qjk
 cells x:=[(.int .u8 x.lo),(.int .u8 x.hi)]
 get l:=match l with
  | [.int .u8 v1,.int .u8 v2]=>some ⟨v1,v2⟩
  | _=>none
 ok l c h:=by
  split at h
  ·injection h with h;subst h;rfl
  ·cases h
structure qpd where
 Decoder:Option Addr
 head:Slc
 tail:Slc
 sum:Value
 over:Int
 failed:Int
def qpd.rep:Rep where
 T:=qpd
 cells x:=[(.pointer x.Decoder),(.slice x.head.a x.head.n x.head.c),(.slice x.tail.a x.tail.n x.tail.c),x.sum,(.int .i64 x.over),(.int .i64 x.failed)]
 get l:=match l with
  | [.pointer v1,.slice v2a v2n v2c,.slice v3a v3n v3c,v4,.int .i64 v5,.int .i64 v6]=>some ⟨v1,⟨v2a,v2n,v2c⟩,⟨v3a,v3n,v3c⟩,v4,v5,v6⟩
  | _=>none
 ok l c h:=by
  split at h
  ·injection h with h;subst h;rfl
  ·cases h
structure qan where
 Kind:ByteArray
 Data:Slc
def qan.rep:Rep where
 T:=qan
 cells x:=[(.string x.Kind),(.slice x.Data.a x.Data.n x.Data.c)]
 get l:=match l with
  | [.string v1,.slice v2a v2n v2c]=>some ⟨v1,⟨v2a,v2n,v2c⟩⟩
  | _=>none
 ok l c h:=by
  split at h
  ·injection h with h;subst h;rfl
  ·cases h
structure qd3 where
 Head:qah
 palette:Slc
 trans:Slc
 hasPalette:Bool
 hasTr:Bool
 data:Slc
 hasData:Bool
 wasData:Bool
def qd3.rep:Rep where
 T:=qd3
 cells x:=[(.int .i64 x.Head.W),(.int .i64 x.Head.H),(.int .i64 x.Head.Depth),(.int .i64 x.Head.Color),(.int .i64 x.Head.Lace),(.slice x.palette.a x.palette.n x.palette.c),(.slice x.trans.a x.trans.n x.trans.c),(.bool x.hasPalette),(.bool x.hasTr),(.slice x.data.a x.data.n x.data.c),(.bool x.hasData),(.bool x.wasData)]
 get l:=match l with
  | [.int .i64 v1,.int .i64 v2,.int .i64 v3,.int .i64 v4,.int .i64 v5,.slice v6a v6n v6c,.slice v7a v7n v7c,.bool v8,.bool v9,.slice v10a v10n v10c,.bool v11,.bool v12]=>some ⟨⟨v1,v2,v3,v4,v5⟩,⟨v6a,v6n,v6c⟩,⟨v7a,v7n,v7c⟩,v8,v9,⟨v10a,v10n,v10c⟩,v11,v12⟩
  | _=>none
 ok l c h:=by
  split at h
  ·injection h with h;subst h;rfl
  ·cases h
structure qlc where
 most:Int
 state:Int
 last:Bool
 wait:Slc
 skip:Int
 left:Int
 signs:Option Addr
 dists:Option Addr
 ring:Slc
 total:Int
 told:Int
 took:Int
 given:Int
 failed:Int
 out:Slc
def qlc.rep:Rep where
 T:=qlc
 cells x:=[(.int .i64 x.most),(.int .i64 x.state),(.bool x.last),(.slice x.wait.a x.wait.n x.wait.c),(.int .i64 x.skip),(.int .i64 x.left),(.pointer x.signs),(.pointer x.dists),(.slice x.ring.a x.ring.n x.ring.c),(.int .i64 x.total),(.int .i64 x.told),(.int .i64 x.took),(.int .i64 x.given),(.int .i64 x.failed),(.slice x.out.a x.out.n x.out.c)]
 get l:=match l with
  | [.int .i64 v1,.int .i64 v2,.bool v3,.slice v4a v4n v4c,.int .i64 v5,.int .i64 v6,.pointer v7,.pointer v8,.slice v9a v9n v9c,.int .i64 v10,.int .i64 v11,.int .i64 v12,.int .i64 v13,.int .i64 v14,.slice v15a v15n v15c]=>some ⟨v1,v2,v3,⟨v4a,v4n,v4c⟩,v5,v6,v7,v8,⟨v9a,v9n,v9c⟩,v10,v11,v12,v13,v14,⟨v15a,v15n,v15c⟩⟩
  | _=>none
 ok l c h:=by
  split at h
  ·injection h with h;subst h;rfl
  ·cases h
structure qtt where
 a:Int
 b:Int
def qtt.rep:Rep where
 T:=qtt
 cells x:=[(.int .u32 x.a),(.int .u32 x.b)]
 get l:=match l with
  | [.int .u32 v1,.int .u32 v2]=>some ⟨v1,v2⟩
  | _=>none
 ok l c h:=by
  split at h
  ·injection h with h;subst h;rfl
  ·cases h
structure qa0 where
 X:Int
 Y:Int
 DX:Int
 DY:Int
def qa0.rep:Rep where
 T:=qa0
 cells x:=[(.int .i64 x.X),(.int .i64 x.Y),(.int .i64 x.DX),(.int .i64 x.DY)]
 get l:=match l with
  | [.int .i64 v1,.int .i64 v2,.int .i64 v3,.int .i64 v4]=>some ⟨v1,v2,v3,v4⟩
  | _=>none
 ok l c h:=by
  split at h
  ·injection h with h;subst h;rfl
  ·cases h
structure qap where
 e0:Int
 e1:Int
 e2:Int
 e3:Int
def qap.rep:Rep where
 T:=qap
 cells x:=[(.int .u8 x.e0),(.int .u8 x.e1),(.int .u8 x.e2),(.int .u8 x.e3)]
 get l:=match l with
  | [.int .u8 v1,.int .u8 v2,.int .u8 v3,.int .u8 v4]=>some ⟨v1,v2,v3,v4⟩
  | _=>none
 ok l c h:=by
  split at h
  ·injection h with h;subst h;rfl
  ·cases h
structure qff where
 b:Slc
 at_:Int
def qff.rep:Rep where
 T:=qff
 cells x:=[(.slice x.b.a x.b.n x.b.c),(.int .i64 x.at_)]
 get l:=match l with
  | [.slice v1a v1n v1c,.int .i64 v2]=>some ⟨⟨v1a,v1n,v1c⟩,v2⟩
  | _=>none
 ok l c h:=by
  split at h
  ·injection h with h;subst h;rfl
  ·cases h
structure q32 where
 e0:Int
 e1:Int
 e2:Int
 e3:Int
 e4:Int
 e5:Int
 e6:Int
 e7:Int
 e8:Int
 e9:Int
 e10:Int
 e11:Int
 e12:Int
 e13:Int
 e14:Int
 e15:Int
 e16:Int
 e17:Int
 e18:Int
def q32.rep:Rep where
 T:=q32
 cells x:=[(.int .i64 x.e0),(.int .i64 x.e1),(.int .i64 x.e2),(.int .i64 x.e3),(.int .i64 x.e4),(.int .i64 x.e5),(.int .i64 x.e6),(.int .i64 x.e7),(.int .i64 x.e8),(.int .i64 x.e9),(.int .i64 x.e10),(.int .i64 x.e11),(.int .i64 x.e12),(.int .i64 x.e13),(.int .i64 x.e14),(.int .i64 x.e15),(.int .i64 x.e16),(.int .i64 x.e17),(.int .i64 x.e18)]
 get l:=match l with
  | [.int .i64 v1,.int .i64 v2,.int .i64 v3,.int .i64 v4,.int .i64 v5,.int .i64 v6,.int .i64 v7,.int .i64 v8,.int .i64 v9,.int .i64 v10,.int .i64 v11,.int .i64 v12,.int .i64 v13,.int .i64 v14,.int .i64 v15,.int .i64 v16,.int .i64 v17,.int .i64 v18,.int .i64 v19]=>some ⟨v1,v2,v3,v4,v5,v6,v7,v8,v9,v10,v11,v12,v13,v14,v15,v16,v17,v18,v19⟩
  | _=>none
 ok l c h:=by
  split at h
  ·injection h with h;subst h;rfl
  ·cases h
structure qya where
 e0:Int
 e1:Int
 e2:Int
 e3:Int
 e4:Int
 e5:Int
 e6:Int
 e7:Int
 e8:Int
 e9:Int
 e10:Int
 e11:Int
 e12:Int
 e13:Int
 e14:Int
 e15:Int
def qya.rep:Rep where
 T:=qya
 cells x:=[(.int .i64 x.e0),(.int .i64 x.e1),(.int .i64 x.e2),(.int .i64 x.e3),(.int .i64 x.e4),(.int .i64 x.e5),(.int .i64 x.e6),(.int .i64 x.e7),(.int .i64 x.e8),(.int .i64 x.e9),(.int .i64 x.e10),(.int .i64 x.e11),(.int .i64 x.e12),(.int .i64 x.e13),(.int .i64 x.e14),(.int .i64 x.e15)]
 get l:=match l with
  | [.int .i64 v1,.int .i64 v2,.int .i64 v3,.int .i64 v4,.int .i64 v5,.int .i64 v6,.int .i64 v7,.int .i64 v8,.int .i64 v9,.int .i64 v10,.int .i64 v11,.int .i64 v12,.int .i64 v13,.int .i64 v14,.int .i64 v15,.int .i64 v16]=>some ⟨v1,v2,v3,v4,v5,v6,v7,v8,v9,v10,v11,v12,v13,v14,v15,v16⟩
  | _=>none
 ok l c h:=by
  split at h
  ·injection h with h;subst h;rfl
  ·cases h
structure qti where
 count:qya
 sorted:Slc
 codes:Slc
 lengths:Slc
 last:Int
def qti.rep:Rep where
 T:=qti
 cells x:=[(.int .i64 x.count.e0),(.int .i64 x.count.e1),(.int .i64 x.count.e2),(.int .i64 x.count.e3),(.int .i64 x.count.e4),(.int .i64 x.count.e5),(.int .i64 x.count.e6),(.int .i64 x.count.e7),(.int .i64 x.count.e8),(.int .i64 x.count.e9),(.int .i64 x.count.e10),(.int .i64 x.count.e11),(.int .i64 x.count.e12),(.int .i64 x.count.e13),(.int .i64 x.count.e14),(.int .i64 x.count.e15),(.slice x.sorted.a x.sorted.n x.sorted.c),(.slice x.codes.a x.codes.n x.codes.c),(.slice x.lengths.a x.lengths.n x.lengths.c),(.int .i64 x.last)]
 get l:=match l with
  | [.int .i64 v1,.int .i64 v2,.int .i64 v3,.int .i64 v4,.int .i64 v5,.int .i64 v6,.int .i64 v7,.int .i64 v8,.int .i64 v9,.int .i64 v10,.int .i64 v11,.int .i64 v12,.int .i64 v13,.int .i64 v14,.int .i64 v15,.int .i64 v16,.slice v17a v17n v17c,.slice v18a v18n v18c,.slice v19a v19n v19c,.int .i64 v20]=>some ⟨⟨v1,v2,v3,v4,v5,v6,v7,v8,v9,v10,v11,v12,v13,v14,v15,v16⟩,⟨v17a,v17n,v17c⟩,⟨v18a,v18n,v18c⟩,⟨v19a,v19n,v19c⟩,v20⟩
  | _=>none
 ok l c h:=by
  split at h
  ·injection h with h;subst h;rfl
  ·cases h
structure qye where
 v:Int
def qye.rep:Rep where
 T:=qye
 cells x:=[(.int .u32 x.v)]
 get l:=match l with
  | [.int .u32 v1]=>some ⟨v1⟩
  | _=>none
 ok l c h:=by
  split at h
  ·injection h with h;subst h;rfl
  ·cases h
structure qv2 where
 e0:Int
 e1:Int
 e2:Int
 e3:Int
 e4:Int
 e5:Int
 e6:Int
 e7:Int
 e8:Int
 e9:Int
 e10:Int
 e11:Int
 e12:Int
 e13:Int
 e14:Int
 e15:Int
def qv2.rep:Rep where
 T:=qv2
 cells x:=[(.int .u32 x.e0),(.int .u32 x.e1),(.int .u32 x.e2),(.int .u32 x.e3),(.int .u32 x.e4),(.int .u32 x.e5),(.int .u32 x.e6),(.int .u32 x.e7),(.int .u32 x.e8),(.int .u32 x.e9),(.int .u32 x.e10),(.int .u32 x.e11),(.int .u32 x.e12),(.int .u32 x.e13),(.int .u32 x.e14),(.int .u32 x.e15)]
 get l:=match l with
  | [.int .u32 v1,.int .u32 v2,.int .u32 v3,.int .u32 v4,.int .u32 v5,.int .u32 v6,.int .u32 v7,.int .u32 v8,.int .u32 v9,.int .u32 v10,.int .u32 v11,.int .u32 v12,.int .u32 v13,.int .u32 v14,.int .u32 v15,.int .u32 v16]=>some ⟨v1,v2,v3,v4,v5,v6,v7,v8,v9,v10,v11,v12,v13,v14,v15,v16⟩
  | _=>none
 ok l c h:=by
  split at h
  ·injection h with h;subst h;rfl
  ·cases h
noncomputable abbrev PG:Program:=Tryz.prog
abbrev q17:TypeId:=0
abbrev qa9:TypeId:=3
abbrev qau:TypeId:=5
abbrev qa3:TypeId:=9
abbrev zab:TypeId:=20
abbrev ql3:TypeId:=28
abbrev qbe:TypeId:=30
abbrev qaf:TypeId:=37
abbrev qaq:TypeId:=39
abbrev qai:TypeId:=43
abbrev qbr:TypeId:=45
abbrev qbh:TypeId:=49
abbrev qh9:TypeId:=50
abbrev q5h:TypeId:=55
abbrev qs8:TypeId:=58
abbrev qas:TypeId:=61
abbrev q20:TypeId:=63
abbrev qax:TypeId:=80
abbrev qb0:TypeId:=82
abbrev qck:TypeId:=93
abbrev qav:TypeId:=98
abbrev qci:TypeId:=100
abbrev qbx:TypeId:=102
abbrev qe7:TypeId:=119
abbrev qhe:TypeId:=127
abbrev qkh:TypeId:=146
abbrev qcl:TypeId:=148
abbrev zfs:TypeId:=153
abbrev zjj:TypeId:=156
abbrev qcq:TypeId:=168
abbrev zgy:TypeId:=189
abbrev qk7:TypeId:=191
abbrev qq8:TypeId:=242
abbrev qbs:TypeId:=246
abbrev qln:TypeId:=248
abbrev qfd:TypeId:=266
abbrev qbv:TypeId:=271
abbrev qd6:TypeId:=277
abbrev qc0:TypeId:=283
abbrev qbw:TypeId:=287
abbrev qa4:TypeId:=292
abbrev qbj:TypeId:=300
abbrev qb9:TypeId:=302
abbrev qo8:TypeId:=319
abbrev q0w:TypeId:=331
abbrev qgi:TypeId:=336
abbrev qjn:TypeId:=340
abbrev qb2:TypeId:=343
abbrev qc8:TypeId:=347
abbrev qg9:TypeId:=362
abbrev qob:Nat:=50
abbrev qjt:Nat:=72
abbrev qkn:Nat:=107
abbrev qmw:Nat:=116
abbrev qml:Nat:=119
abbrev qnb:Nat:=122
abbrev q2i:Nat:=171
abbrev q3w:Nat:=173
abbrev q06:Nat:=218
abbrev qh5:Nat:=221
abbrev q4u:Nat:=235
abbrev q4e:Nat:=279
abbrev gl_0:Nat:=0
def reg (t:TypeId):Option Rep:=match t with
 | 28=>some qay.rep
 | 63=>some qay.rep
 | 30=>some qac.rep
 | 43=>some qad.rep
 | 39=>some qab.rep
 | 41=>some qef.rep
 | 80=>some qaa.rep
 | 82=>some qo9.rep
 | 55=>some qbi.rep
 | 127=>some qbi.rep
 | 58=>some qag.rep
 | 61=>some qag.rep
 | 102=>some qee.rep
 | 93=>some qrf.rep
 | 100=>some qar.rep
 | 148=>some qro.rep
 | 168=>some qbn.rep
 | 191=>some qma.rep
 | 202=>some qlf.rep
 | 246=>some qah.rep
 | 260=>some qjk.rep
 | 271=>some qpd.rep
 | 283=>some qan.rep
 | 248=>some qd3.rep
 | 300=>some qlc.rep
 | 302=>some qtt.rep
 | 287=>some qa0.rep
 | 292=>some qap.rep
 | 319=>some qff.rep
 | 331=>some q32.rep
 | 341=>some qya.rep
 | 343=>some qti.rep
 | 347=>some qye.rep
 | 362=>some qv2.rep
 | _=>none
def zaf:List Nat:=[2,3,4,5,6,7,8,9,10,11,12,13,14,15,16,17,18,19,20,21,22,23,24,25,26,27,28,29,30,31,32,33,34,35,36,37,38,39,40,41,42,43,44,45,46,47,48,49,50,51,52,53,54,55,56,57,58,59,60,61,62,63,64,65,66,67,68,69,70,71,72,73,74,75,76,77,78,79,80,81,82,83,84,85,86,87,88,89,90,91,92,93,94,95,96,97,98,99,100,101,102,103,104,105,106,107,108,109,110,112,113,114,115,116,117,118,119,120,121,122,123,124,126,127,128,129,130,131,132,133,134,135,136,137,138,139,140,141,142,143,144,145,146,147,148,149,150,151,152,153,154,155,156,157,159,160,161,163,164,165,166,167,168,169,170,171,172,173,174,175,176,177,178,179,180,181,182,183,185,186,188,189,190,191,192,193,194,195,196,197,198,199,202,203,204,205,206,207,208,209,210,211,212,213,214,215,216,217,218,219,220,221,222,223,224,225,226,227,228,229,230,231,232,233,234,235,236,237,238,239,240,241,242,243,244,245,246,247,248,249,250,251,252,253,254,255,256,257,258,259,260,261,262,263,264,265,266,267,268,269,270,271,272,273,274,275,276,277,278,279,280,281,300,302,303,304,305,306,315]
noncomputable def C:Cx:={ P:=Tryz.prog,reg:=reg,plain:=fun n=>zaf.elem n }
theorem C.plain_ok (g:Nat) (h:C.plain g=true):qf1 C.P g=true:=by
 have h':g∈zaf:=by simpa [C] using h
 have:zaf.all (fun g=>qf1 Tryz.prog g)=true:=by kernel_rfl
 exact List.all_eq_true.1 this g h'
theorem C.mixed:C.P.follows .mixedOrders=true:=by kernel_rfl
theorem fnOf {f:FuncId} {fn:Func} {n:List Ann} {ks:List Kind} {a:List Value} {w:World} {Q:DenL ks->World->Prop} {sh:Prop} {X:Ending->World->Prop} (hf:C.P.funcs[f]?=some fn) (hb:fn.body=some (fn.body.getD .skip)) (h:sh)
  (e:vcFn C (fn.body.getD .skip) fn.results.toList fn.ntmps n ks a w Q=sh) (m:∀s w',Q s w'->X (.returned (tup (encL ks s))) w'):Calls C.P f a.toArray w X:=by
 rw [<-e] at h;refine Calls.mono (cvc C.plain_ok C.mixed hf hb h) ?_;rintro e w' ⟨s,rfl,hK⟩;exact m s w' hK
def qu9  (w:World) (K:Bool->World->Prop):Prop :=Calls PG 7 #[] w fun e w'=>∃r0:Bool,e=.returned (.bool r0)/\K r0 w'
def qrl (wx:Int) (hx:Int) (dx:Int) (dy:Int) (cw:Int) (ch:Int) (w:World) (K:Int->Int->World->Prop):Prop :=Calls PG 8 #[(.int .i64 wx),(.int .i64 hx),(.int .i64 dx),(.int .i64 dy),(.int .i64 cw),(.int .i64 ch)] w fun e w'=>∃r0:Int,∃r1:Int,e=.returned (.tuple #[(.int .i64 r0),(.int .i64 r1)])/\K r0 r1 w'
def q1p (l:Slc) (w:World) (K:Bool->World->Prop):Prop :=Calls PG 10 #[(.slice l.a l.n l.c)] w fun e w'=>∃r0:Bool,e=.returned (.bool r0)/\K r0 w'
def qp1 (v:qac) (w:World) (K:Bool->World->Prop):Prop :=Calls PG 11 #[(.agg #[(.bool v.View.Alt),(.int .i64 v.View.Top),(.int .i64 v.View.Rows),(.int .i64 v.View.Cols),(.int .i64 v.View.Row),(.int .i64 v.View.Col),(.int .i64 v.CellW),(.int .i64 v.CellH)])] w fun e w'=>∃r0:Bool,e=.returned (.bool r0)/\K r0 w'
def qpz (quota:Int) (w:World) (K:Option Addr->Int->World->Prop):Prop :=Calls PG 12 #[(.int .i64 quota)] w fun e w'=>∃r0:Option Addr,∃r1:Int,e=.returned (.tuple #[(.pointer r0),(.int .i64 r1)])/\K r0 r1 w'
def qcg (e:Option Addr) (command:Slc) (v:qac) (w:World) (K:qad->World->Prop):Prop :=Calls PG 13 #[(.pointer e),(.slice command.a command.n command.c),(.agg #[(.bool v.View.Alt),(.int .i64 v.View.Top),(.int .i64 v.View.Rows),(.int .i64 v.View.Cols),(.int .i64 v.View.Row),(.int .i64 v.View.Col),(.int .i64 v.CellW),(.int .i64 v.CellH)])] w fun e w'=>∃r0:qad,e=.returned (.agg #[(.slice r0.Reply.a r0.Reply.n r0.Reply.c),(.int .i64 r0.Rows),(.int .i64 r0.Cols),(.bool r0.Moves)])/\K r0 w'
def qb1 (e:Option Addr) (w:World) (K:Option Addr->World->Prop):Prop :=Calls PG 14 #[(.pointer e)] w fun e w'=>∃r0:Option Addr,e=.returned (.pointer r0)/\K r0 w'
def qfm (t:Option Addr) (w:World) (K:Slc->World->Prop):Prop :=Calls PG 15 #[(.pointer t)] w fun e w'=>∃r0:Slc,e=.returned (.slice r0.a r0.n r0.c)/\K r0 w'
def qcp (e:Option Addr) (w:World) (K:Option Addr->World->Prop):Prop :=Calls PG 16 #[(.pointer e)] w fun e w'=>∃r0:Option Addr,e=.returned (.pointer r0)/\K r0 w'
def qeb (s:Option Addr) (w:World) (K:Slc->World->Prop):Prop :=Calls PG 17 #[(.pointer s)] w fun e w'=>∃r0:Slc,e=.returned (.slice r0.a r0.n r0.c)/\K r0 w'
def qbd (n:Int) (w:World) (K:ByteArray->World->Prop):Prop :=Calls PG 18 #[(.int .i64 n)] w fun e w'=>∃r0:ByteArray,e=.returned (.string r0)/\K r0 w'
def qvl (a:qbi) (p:qag) (v:qay) (w:World) (K:Bool->World->Prop):Prop :=Calls PG 19 #[(.agg #[(.int .u8 a.What),(.int .i64 a.Image),(.int .i64 a.Place),(.int .i64 a.X),(.int .i64 a.Y),(.int .i64 a.Z)]),(.agg #[(.int .i64 p.Image),(.int .i64 p.Id),(.bool p.Alt),(.int .i64 p.Line),(.int .i64 p.Col),(.int .i64 p.Rows),(.int .i64 p.Cols),(.int .i64 p.X),(.int .i64 p.Y),(.int .i64 p.W),(.int .i64 p.H),(.int .i64 p.DX),(.int .i64 p.DY),(.int .i64 p.Z)]),(.agg #[(.bool v.Alt),(.int .i64 v.Top),(.int .i64 v.Rows),(.int .i64 v.Cols),(.int .i64 v.Row),(.int .i64 v.Col)])] w fun e w'=>∃r0:Bool,e=.returned (.bool r0)/\K r0 w'
def q38 (p:qag) (w:World) (K:qag->World->Prop):Prop :=Calls PG 20 #[(.agg #[(.int .i64 p.Image),(.int .i64 p.Id),(.bool p.Alt),(.int .i64 p.Line),(.int .i64 p.Col),(.int .i64 p.Rows),(.int .i64 p.Cols),(.int .i64 p.X),(.int .i64 p.Y),(.int .i64 p.W),(.int .i64 p.H),(.int .i64 p.DX),(.int .i64 p.DY),(.int .i64 p.Z)])] w fun e w'=>∃r0:qag,e=.returned (.agg #[(.int .i64 r0.Image),(.int .i64 r0.Id),(.bool r0.Alt),(.int .i64 r0.Line),(.int .i64 r0.Col),(.int .i64 r0.Rows),(.int .i64 r0.Cols),(.int .i64 r0.X),(.int .i64 r0.Y),(.int .i64 r0.W),(.int .i64 r0.H),(.int .i64 r0.DX),(.int .i64 r0.DY),(.int .i64 r0.Z)])/\K r0 w'
def qx8 (v:qay) (w:World) (K:qay->World->Prop):Prop :=Calls PG 21 #[(.agg #[(.bool v.Alt),(.int .i64 v.Top),(.int .i64 v.Rows),(.int .i64 v.Cols),(.int .i64 v.Row),(.int .i64 v.Col)])] w fun e w'=>∃r0:qay,e=.returned (.agg #[(.bool r0.Alt),(.int .i64 r0.Top),(.int .i64 r0.Rows),(.int .i64 r0.Cols),(.int .i64 r0.Row),(.int .i64 r0.Col)])/\K r0 w'
def qde (s:Option Addr) (id:Int) (w:World) (K:qab->Bool->World->Prop):Prop :=Calls PG 22 #[(.pointer s),(.int .i64 id)] w fun e w'=>∃r0:qab,∃r1:Bool,e=.returned (.tuple #[(.agg #[(.int .i64 r0.W),(.int .i64 r0.H),(.slice r0.P.a r0.P.n r0.P.c)]),(.bool r1)])/\K r0 r1 w'
def qdf (t:Option Addr) (image:Int) (w:World) (K:Bool->World->Prop):Prop :=Calls PG 23 #[(.pointer t),(.int .i64 image)] w fun e w'=>∃r0:Bool,e=.returned (.bool r0)/\K r0 w'
def qiv (e:Option Addr) (w:World) (K:Int->World->Prop):Prop :=Calls PG 27 #[(.pointer e)] w fun e w'=>∃r0:Int,e=.returned (.int .i64 r0)/\K r0 w'
def qcw (v:Int) (lo:Int) (hi:Int) (w:World) (K:Bool->World->Prop):Prop :=Calls PG 28 #[(.int .i64 v),(.int .i64 lo),(.int .i64 hi)] w fun e w'=>∃r0:Bool,e=.returned (.bool r0)/\K r0 w'
def ql0 (n:Int) (more:Int) (size:Int) (w:World) (K:Int->World->Prop):Prop :=Calls PG 29 #[(.int .i64 n),(.int .i64 more),(.int .i64 size)] w fun e w'=>∃r0:Int,e=.returned (.int .i64 r0)/\K r0 w'
def qvk (quota:Int) (w:World) (K:Option Addr->Int->World->Prop):Prop :=Calls PG 30 #[(.int .i64 quota)] w fun e w'=>∃r0:Option Addr,∃r1:Int,e=.returned (.tuple #[(.pointer r0),(.int .i64 r1)])/\K r0 r1 w'
def q22  (w:World) (K:Option Addr->World->Prop):Prop :=Calls PG 31 #[] w fun e w'=>∃r0:Option Addr,e=.returned (.pointer r0)/\K r0 w'
def qtv (b:Slc) (w:World) (K:Slc->Slc->World->Prop):Prop :=Calls PG 32 #[(.slice b.a b.n b.c)] w fun e w'=>∃r0:Slc,∃r1:Slc,e=.returned (.tuple #[(.slice r0.a r0.n r0.c),(.slice r1.a r1.n r1.c)])/\K r0 r1 w'
def qs2 (b:Slc) (w:World) (K:qaa->Int->World->Prop):Prop :=Calls PG 33 #[(.slice b.a b.n b.c)] w fun e w'=>∃r0:qaa,∃r1:Int,e=.returned (.tuple #[(.agg #[(.int .u8 r0.Action),(.int .u8 r0.Medium),(.int .u8 r0.Zip),(.int .u8 r0.What),(.int .i64 r0.Quiet),(.int .i64 r0.Format),(.int .i64 r0.W),(.int .i64 r0.H),(.int .i64 r0.Id),(.int .i64 r0.Number),(.int .i64 r0.Place),(.int .i64 r0.More),(.int .i64 r0.X),(.int .i64 r0.Y),(.int .i64 r0.PW),(.int .i64 r0.PH),(.int .i64 r0.DX),(.int .i64 r0.DY),(.int .i64 r0.Rows),(.int .i64 r0.Cols),(.int .i64 r0.Z),(.int .i64 r0.Stay)]),(.int .i64 r1)])/\K r0 r1 w'
def qgb (e:Option Addr) (k:qaa) (text:Slc) (v:qac) (w:World) (K:qad->World->Prop):Prop :=Calls PG 34 #[(.pointer e),(.agg #[(.int .u8 k.Action),(.int .u8 k.Medium),(.int .u8 k.Zip),(.int .u8 k.What),(.int .i64 k.Quiet),(.int .i64 k.Format),(.int .i64 k.W),(.int .i64 k.H),(.int .i64 k.Id),(.int .i64 k.Number),(.int .i64 k.Place),(.int .i64 k.More),(.int .i64 k.X),(.int .i64 k.Y),(.int .i64 k.PW),(.int .i64 k.PH),(.int .i64 k.DX),(.int .i64 k.DY),(.int .i64 k.Rows),(.int .i64 k.Cols),(.int .i64 k.Z),(.int .i64 k.Stay)]),(.slice text.a text.n text.c),(.agg #[(.bool v.View.Alt),(.int .i64 v.View.Top),(.int .i64 v.View.Rows),(.int .i64 v.View.Cols),(.int .i64 v.View.Row),(.int .i64 v.View.Col),(.int .i64 v.CellW),(.int .i64 v.CellH)])] w fun e w'=>∃r0:qad,e=.returned (.agg #[(.slice r0.Reply.a r0.Reply.n r0.Reply.c),(.int .i64 r0.Rows),(.int .i64 r0.Cols),(.bool r0.Moves)])/\K r0 w'
def qeo (e:Option Addr) (w:World) (K:World->Prop):Prop :=Calls PG 35 #[(.pointer e)] w fun e w'=>e=.returned (.tuple #[])/\K w'
def qhv (e:Option Addr) (k:qaa) (text:Slc) (v:qac) (w:World) (K:qad->World->Prop):Prop :=Calls PG 36 #[(.pointer e),(.agg #[(.int .u8 k.Action),(.int .u8 k.Medium),(.int .u8 k.Zip),(.int .u8 k.What),(.int .i64 k.Quiet),(.int .i64 k.Format),(.int .i64 k.W),(.int .i64 k.H),(.int .i64 k.Id),(.int .i64 k.Number),(.int .i64 k.Place),(.int .i64 k.More),(.int .i64 k.X),(.int .i64 k.Y),(.int .i64 k.PW),(.int .i64 k.PH),(.int .i64 k.DX),(.int .i64 k.DY),(.int .i64 k.Rows),(.int .i64 k.Cols),(.int .i64 k.Z),(.int .i64 k.Stay)]),(.slice text.a text.n text.c),(.agg #[(.bool v.View.Alt),(.int .i64 v.View.Top),(.int .i64 v.View.Rows),(.int .i64 v.View.Cols),(.int .i64 v.View.Row),(.int .i64 v.View.Col),(.int .i64 v.CellW),(.int .i64 v.CellH)])] w fun e w'=>∃r0:qad,e=.returned (.agg #[(.slice r0.Reply.a r0.Reply.n r0.Reply.c),(.int .i64 r0.Rows),(.int .i64 r0.Cols),(.bool r0.Moves)])/\K r0 w'
def qir (e:Option Addr) (k:qaa) (v:qac) (w:World) (K:qad->World->Prop):Prop :=Calls PG 37 #[(.pointer e),(.agg #[(.int .u8 k.Action),(.int .u8 k.Medium),(.int .u8 k.Zip),(.int .u8 k.What),(.int .i64 k.Quiet),(.int .i64 k.Format),(.int .i64 k.W),(.int .i64 k.H),(.int .i64 k.Id),(.int .i64 k.Number),(.int .i64 k.Place),(.int .i64 k.More),(.int .i64 k.X),(.int .i64 k.Y),(.int .i64 k.PW),(.int .i64 k.PH),(.int .i64 k.DX),(.int .i64 k.DY),(.int .i64 k.Rows),(.int .i64 k.Cols),(.int .i64 k.Z),(.int .i64 k.Stay)]),(.agg #[(.bool v.View.Alt),(.int .i64 v.View.Top),(.int .i64 v.View.Rows),(.int .i64 v.View.Cols),(.int .i64 v.View.Row),(.int .i64 v.View.Col),(.int .i64 v.CellW),(.int .i64 v.CellH)])] w fun e w'=>∃r0:qad,e=.returned (.agg #[(.slice r0.Reply.a r0.Reply.n r0.Reply.c),(.int .i64 r0.Rows),(.int .i64 r0.Cols),(.bool r0.Moves)])/\K r0 w'
def qhb (e:Option Addr) (k:qaa) (v:qac) (w:World) (K:World->Prop):Prop :=Calls PG 38 #[(.pointer e),(.agg #[(.int .u8 k.Action),(.int .u8 k.Medium),(.int .u8 k.Zip),(.int .u8 k.What),(.int .i64 k.Quiet),(.int .i64 k.Format),(.int .i64 k.W),(.int .i64 k.H),(.int .i64 k.Id),(.int .i64 k.Number),(.int .i64 k.Place),(.int .i64 k.More),(.int .i64 k.X),(.int .i64 k.Y),(.int .i64 k.PW),(.int .i64 k.PH),(.int .i64 k.DX),(.int .i64 k.DY),(.int .i64 k.Rows),(.int .i64 k.Cols),(.int .i64 k.Z),(.int .i64 k.Stay)]),(.agg #[(.bool v.View.Alt),(.int .i64 v.View.Top),(.int .i64 v.View.Rows),(.int .i64 v.View.Cols),(.int .i64 v.View.Row),(.int .i64 v.View.Col),(.int .i64 v.CellW),(.int .i64 v.CellH)])] w fun e w'=>e=.returned (.tuple #[])/\K w'
def qbu (e:Option Addr) (k:qaa) (x:Int) (word:ByteArray) (w:World) (K:qad->World->Prop):Prop :=Calls PG 39 #[(.pointer e),(.agg #[(.int .u8 k.Action),(.int .u8 k.Medium),(.int .u8 k.Zip),(.int .u8 k.What),(.int .i64 k.Quiet),(.int .i64 k.Format),(.int .i64 k.W),(.int .i64 k.H),(.int .i64 k.Id),(.int .i64 k.Number),(.int .i64 k.Place),(.int .i64 k.More),(.int .i64 k.X),(.int .i64 k.Y),(.int .i64 k.PW),(.int .i64 k.PH),(.int .i64 k.DX),(.int .i64 k.DY),(.int .i64 k.Rows),(.int .i64 k.Cols),(.int .i64 k.Z),(.int .i64 k.Stay)]),(.int .i64 x),(.string word)] w fun e w'=>∃r0:qad,e=.returned (.agg #[(.slice r0.Reply.a r0.Reply.n r0.Reply.c),(.int .i64 r0.Rows),(.int .i64 r0.Cols),(.bool r0.Moves)])/\K r0 w'
def qqn (t:Option Addr) (w:World) (K:Option Addr->World->Prop):Prop :=Calls PG 40 #[(.pointer t)] w fun e w'=>∃r0:Option Addr,e=.returned (.pointer r0)/\K r0 w'
def qb6 (s:Slc) (w:World) (K:Slc->World->Prop):Prop :=Calls PG 41 #[(.slice s.a s.n s.c)] w fun e w'=>∃r0:Slc,e=.returned (.slice r0.a r0.n r0.c)/\K r0 w'
def qj5 (s:Option Addr) (w:World) (K:Option Addr->World->Prop):Prop :=Calls PG 42 #[(.pointer s)] w fun e w'=>∃r0:Option Addr,e=.returned (.pointer r0)/\K r0 w'
def qom (seq:Value) (w:World) (K:Slc->World->Prop):Prop :=Calls PG 43 #[seq] w fun e w'=>∃r0:Slc,e=.returned (.slice r0.a r0.n r0.c)/\K r0 w'
def qb7 (m:Option Nat) (w:World) (K:Value->World->Prop):Prop :=Calls PG 44 #[(.map m)] w fun e w'=>∃r0:Value,e=.returned r0/\K r0 w'
def qv8 (c:Int) (w:World) (K:Int->World->Prop):Prop :=Calls PG 45 #[(.int .u8 c)] w fun e w'=>∃r0:Int,e=.returned (.int .u8 r0)/\K r0 w'
def qew (p:qag) (line:Int) (rows:Int) (from_:Int) (past:Int) (w:World) (K:Bool->World->Prop):Prop :=Calls PG 46 #[(.agg #[(.int .i64 p.Image),(.int .i64 p.Id),(.bool p.Alt),(.int .i64 p.Line),(.int .i64 p.Col),(.int .i64 p.Rows),(.int .i64 p.Cols),(.int .i64 p.X),(.int .i64 p.Y),(.int .i64 p.W),(.int .i64 p.H),(.int .i64 p.DX),(.int .i64 p.DY),(.int .i64 p.Z)]),(.int .i64 line),(.int .i64 rows),(.int .i64 from_),(.int .i64 past)] w fun e w'=>∃r0:Bool,e=.returned (.bool r0)/\K r0 w'
def qd9 (s:Option Addr) (id:Int) (w:World) (K:qab->Bool->World->Prop):Prop :=Calls PG 47 #[(.pointer s),(.int .i64 id)] w fun e w'=>∃r0:qab,∃r1:Bool,e=.returned (.tuple #[(.agg #[(.int .i64 r0.W),(.int .i64 r0.H),(.slice r0.P.a r0.P.n r0.P.c)]),(.bool r1)])/\K r0 r1 w'
def qaz (s:Slc) (w:World) (K:Slc->World->Prop):Prop :=Calls PG 48 #[(.slice s.a s.n s.c)] w fun e w'=>∃r0:Slc,e=.returned (.slice r0.a r0.n r0.c)/\K r0 w'
def qdh (s:Slc) (f:Value) (w:World) (K:Bool->World->Prop):Prop :=Calls PG 49 #[(.slice s.a s.n s.c),f] w fun e w'=>∃r0:Bool,e=.returned (.bool r0)/\K r0 w'
def qou (p:qag) (c0:Addr) (w:World) (K:Bool->World->Prop):Prop :=Calls PG 50 #[(.agg #[(.int .i64 p.Image),(.int .i64 p.Id),(.bool p.Alt),(.int .i64 p.Line),(.int .i64 p.Col),(.int .i64 p.Rows),(.int .i64 p.Cols),(.int .i64 p.X),(.int .i64 p.Y),(.int .i64 p.W),(.int .i64 p.H),(.int .i64 p.DX),(.int .i64 p.DY),(.int .i64 p.Z)]),(.pointer (some c0))] w fun e w'=>∃r0:Bool,e=.returned (.bool r0)/\K r0 w'
def qk6 (s:Option Addr) (id:Int) (number:Int) (m:qab) (w:World) (K:Int->Slc->Int->World->Prop):Prop :=Calls PG 51 #[(.pointer s),(.int .i64 id),(.int .i64 number),(.agg #[(.int .i64 m.W),(.int .i64 m.H),(.slice m.P.a m.P.n m.P.c)])] w fun e w'=>∃r0:Int,∃r1:Slc,∃r2:Int,e=.returned (.tuple #[(.int .i64 r0),(.slice r1.a r1.n r1.c),(.int .i64 r2)])/\K r0 r1 r2 w'
def qgd (e:Option Addr) (ids:Slc) (w:World) (K:World->Prop):Prop :=Calls PG 52 #[(.pointer e),(.slice ids.a ids.n ids.c)] w fun e w'=>e=.returned (.tuple #[])/\K w'
def qfq (e:Option Addr) (k:qaa) (id:Int) (v:qac) (w:World) (K:qad->Bool->World->Prop):Prop :=Calls PG 53 #[(.pointer e),(.agg #[(.int .u8 k.Action),(.int .u8 k.Medium),(.int .u8 k.Zip),(.int .u8 k.What),(.int .i64 k.Quiet),(.int .i64 k.Format),(.int .i64 k.W),(.int .i64 k.H),(.int .i64 k.Id),(.int .i64 k.Number),(.int .i64 k.Place),(.int .i64 k.More),(.int .i64 k.X),(.int .i64 k.Y),(.int .i64 k.PW),(.int .i64 k.PH),(.int .i64 k.DX),(.int .i64 k.DY),(.int .i64 k.Rows),(.int .i64 k.Cols),(.int .i64 k.Z),(.int .i64 k.Stay)]),(.int .i64 id),(.agg #[(.bool v.View.Alt),(.int .i64 v.View.Top),(.int .i64 v.View.Rows),(.int .i64 v.View.Cols),(.int .i64 v.View.Row),(.int .i64 v.View.Col),(.int .i64 v.CellW),(.int .i64 v.CellH)])] w fun e w'=>∃r0:qad,∃r1:Bool,e=.returned (.tuple #[(.agg #[(.slice r0.Reply.a r0.Reply.n r0.Reply.c),(.int .i64 r0.Rows),(.int .i64 r0.Cols),(.bool r0.Moves)]),(.bool r1)])/\K r0 r1 w'
def qtx  (w:World) (K:qaa->World->Prop):Prop :=Calls PG 54 #[] w fun e w'=>∃r0:qaa,e=.returned (.agg #[(.int .u8 r0.Action),(.int .u8 r0.Medium),(.int .u8 r0.Zip),(.int .u8 r0.What),(.int .i64 r0.Quiet),(.int .i64 r0.Format),(.int .i64 r0.W),(.int .i64 r0.H),(.int .i64 r0.Id),(.int .i64 r0.Number),(.int .i64 r0.Place),(.int .i64 r0.More),(.int .i64 r0.X),(.int .i64 r0.Y),(.int .i64 r0.PW),(.int .i64 r0.PH),(.int .i64 r0.DX),(.int .i64 r0.DY),(.int .i64 r0.Rows),(.int .i64 r0.Cols),(.int .i64 r0.Z),(.int .i64 r0.Stay)])/\K r0 w'
def qg2 (e:Option Addr) (n:Int) (w:World) (K:Int->World->Prop):Prop :=Calls PG 55 #[(.pointer e),(.int .i64 n)] w fun e w'=>∃r0:Int,e=.returned (.int .i64 r0)/\K r0 w'
def qj2 (l:Option Addr) (w:World) (K:Int->World->Prop):Prop :=Calls PG 58 #[(.pointer l)] w fun e w'=>∃r0:Int,e=.returned (.int .i64 r0)/\K r0 w'
def qvw (s:Slc) (sep:Slc) (w:World) (K:Slc->Slc->Bool->World->Prop):Prop :=Calls PG 59 #[(.slice s.a s.n s.c),(.slice sep.a sep.n sep.c)] w fun e w'=>∃r0:Slc,∃r1:Slc,∃r2:Bool,e=.returned (.tuple #[(.slice r0.a r0.n r0.c),(.slice r1.a r1.n r1.c),(.bool r2)])/\K r0 r1 r2 w'
def qih (b:Slc) (w:World) (K:Slc->World->Prop):Prop :=Calls PG 60 #[(.slice b.a b.n b.c)] w fun e w'=>∃r0:Slc,e=.returned (.slice r0.a r0.n r0.c)/\K r0 w'
def qn7 (s:ByteArray) (sep:ByteArray) (w:World) (K:Slc->World->Prop):Prop :=Calls PG 61 #[(.string s),(.string sep)] w fun e w'=>∃r0:Slc,e=.returned (.slice r0.a r0.n r0.c)/\K r0 w'
def qnw (k:Option Addr) (s:ByteArray) (w:World) (K:Bool->World->Prop):Prop :=Calls PG 62 #[(.pointer k),(.string s)] w fun e w'=>∃r0:Bool,e=.returned (.bool r0)/\K r0 w'
def qld (l:Option Addr) (text:Slc) (w:World) (K:Int->World->Prop):Prop :=Calls PG 63 #[(.pointer l),(.slice text.a text.n text.c)] w fun e w'=>∃r0:Int,e=.returned (.int .i64 r0)/\K r0 w'
def qja (e:Option Addr) (k:qaa) (v:qac) (w:World) (K:qad->World->Prop):Prop :=Calls PG 64 #[(.pointer e),(.agg #[(.int .u8 k.Action),(.int .u8 k.Medium),(.int .u8 k.Zip),(.int .u8 k.What),(.int .i64 k.Quiet),(.int .i64 k.Format),(.int .i64 k.W),(.int .i64 k.H),(.int .i64 k.Id),(.int .i64 k.Number),(.int .i64 k.Place),(.int .i64 k.More),(.int .i64 k.X),(.int .i64 k.Y),(.int .i64 k.PW),(.int .i64 k.PH),(.int .i64 k.DX),(.int .i64 k.DY),(.int .i64 k.Rows),(.int .i64 k.Cols),(.int .i64 k.Z),(.int .i64 k.Stay)]),(.agg #[(.bool v.View.Alt),(.int .i64 v.View.Top),(.int .i64 v.View.Rows),(.int .i64 v.View.Cols),(.int .i64 v.View.Row),(.int .i64 v.View.Col),(.int .i64 v.CellW),(.int .i64 v.CellH)])] w fun e w'=>∃r0:qad,e=.returned (.agg #[(.slice r0.Reply.a r0.Reply.n r0.Reply.c),(.int .i64 r0.Rows),(.int .i64 r0.Cols),(.bool r0.Moves)])/\K r0 w'
def qe9 (s:Option Addr) (w:World) (K:World->Prop):Prop :=Calls PG 65 #[(.pointer s)] w fun e w'=>e=.returned (.tuple #[])/\K w'
def qyk (k:qaa) (room:Int) (w:World) (K:Option Addr->Int->World->Prop):Prop :=Calls PG 66 #[(.agg #[(.int .u8 k.Action),(.int .u8 k.Medium),(.int .u8 k.Zip),(.int .u8 k.What),(.int .i64 k.Quiet),(.int .i64 k.Format),(.int .i64 k.W),(.int .i64 k.H),(.int .i64 k.Id),(.int .i64 k.Number),(.int .i64 k.Place),(.int .i64 k.More),(.int .i64 k.X),(.int .i64 k.Y),(.int .i64 k.PW),(.int .i64 k.PH),(.int .i64 k.DX),(.int .i64 k.DY),(.int .i64 k.Rows),(.int .i64 k.Cols),(.int .i64 k.Z),(.int .i64 k.Stay)]),(.int .i64 room)] w fun e w'=>∃r0:Option Addr,∃r1:Int,e=.returned (.tuple #[(.pointer r0),(.int .i64 r1)])/\K r0 r1 w'
def qh3 (e:Option Addr) (k:qaa) (w:World) (K:Int->Bool->World->Prop):Prop :=Calls PG 67 #[(.pointer e),(.agg #[(.int .u8 k.Action),(.int .u8 k.Medium),(.int .u8 k.Zip),(.int .u8 k.What),(.int .i64 k.Quiet),(.int .i64 k.Format),(.int .i64 k.W),(.int .i64 k.H),(.int .i64 k.Id),(.int .i64 k.Number),(.int .i64 k.Place),(.int .i64 k.More),(.int .i64 k.X),(.int .i64 k.Y),(.int .i64 k.PW),(.int .i64 k.PH),(.int .i64 k.DX),(.int .i64 k.DY),(.int .i64 k.Rows),(.int .i64 k.Cols),(.int .i64 k.Z),(.int .i64 k.Stay)])] w fun e w'=>∃r0:Int,∃r1:Bool,e=.returned (.tuple #[(.int .i64 r0),(.bool r1)])/\K r0 r1 w'
def qle (s:Option Addr) (id:Int) (w:World) (K:Bool->World->Prop):Prop :=Calls PG 68 #[(.pointer s),(.int .i64 id)] w fun e w'=>∃r0:Bool,e=.returned (.bool r0)/\K r0 w'
def qd7 (s:Option Addr) (n:Int) (w:World) (K:Int->Bool->World->Prop):Prop :=Calls PG 69 #[(.pointer s),(.int .i64 n)] w fun e w'=>∃r0:Int,∃r1:Bool,e=.returned (.tuple #[(.int .i64 r0),(.bool r1)])/\K r0 r1 w'
def qhr (t:Option Addr) (a:qbi) (v:qay) (w:World) (K:Slc->World->Prop):Prop :=Calls PG 70 #[(.pointer t),(.agg #[(.int .u8 a.What),(.int .i64 a.Image),(.int .i64 a.Place),(.int .i64 a.X),(.int .i64 a.Y),(.int .i64 a.Z)]),(.agg #[(.bool v.Alt),(.int .i64 v.Top),(.int .i64 v.Rows),(.int .i64 v.Cols),(.int .i64 v.Row),(.int .i64 v.Col)])] w fun e w'=>∃r0:Slc,e=.returned (.slice r0.a r0.n r0.c)/\K r0 w'
def qhy (e:Option Addr) (ids:Slc) (goes:Value) (w:World) (K:World->Prop):Prop :=Calls PG 71 #[(.pointer e),(.slice ids.a ids.n ids.c),goes] w fun e w'=>e=.returned (.tuple #[])/\K w'
def qkq (p0:Int) (w:World) (K:Bool->World->Prop):Prop :=Calls PG 72 #[(.int .i64 p0)] w fun e w'=>∃r0:Bool,e=.returned (.bool r0)/\K r0 w'
def q24 (e:Int) (w:World) (K:ByteArray->World->Prop):Prop :=Calls PG 73 #[(.int .i64 e)] w fun e w'=>∃r0:ByteArray,e=.returned (.string r0)/\K r0 w'
def qs4 (k:qaa) (word:ByteArray) (w:World) (K:Slc->World->Prop):Prop :=Calls PG 74 #[(.agg #[(.int .u8 k.Action),(.int .u8 k.Medium),(.int .u8 k.Zip),(.int .u8 k.What),(.int .i64 k.Quiet),(.int .i64 k.Format),(.int .i64 k.W),(.int .i64 k.H),(.int .i64 k.Id),(.int .i64 k.Number),(.int .i64 k.Place),(.int .i64 k.More),(.int .i64 k.X),(.int .i64 k.Y),(.int .i64 k.PW),(.int .i64 k.PH),(.int .i64 k.DX),(.int .i64 k.DY),(.int .i64 k.Rows),(.int .i64 k.Cols),(.int .i64 k.Z),(.int .i64 k.Stay)]),(.string word)] w fun e w'=>∃r0:Slc,e=.returned (.slice r0.a r0.n r0.c)/\K r0 w'
def qb5 (m:Option Nat) (w:World) (K:Option Nat->World->Prop):Prop :=Calls PG 75 #[(.map m)] w fun e w'=>∃r0:Option Nat,e=.returned (.map r0)/\K r0 w'
def qn6 (seq:Value) (w:World) (K:Slc->World->Prop):Prop :=Calls PG 76 #[seq] w fun e w'=>∃r0:Slc,e=.returned (.slice r0.a r0.n r0.c)/\K r0 w'
def qdu (s:Slc) (f:Value) (w:World) (K:Int->World->Prop):Prop :=Calls PG 79 #[(.slice s.a s.n s.c),f] w fun e w'=>∃r0:Int,e=.returned (.int .i64 r0)/\K r0 w'
def qrn (m:qab) (w:World) (K:Bool->World->Prop):Prop :=Calls PG 80 #[(.agg #[(.int .i64 m.W),(.int .i64 m.H),(.slice m.P.a m.P.n m.P.c)])] w fun e w'=>∃r0:Bool,e=.returned (.bool r0)/\K r0 w'
def qht (n:Int) (w:World) (K:Bool->World->Prop):Prop :=Calls PG 81 #[(.int .i64 n)] w fun e w'=>∃r0:Bool,e=.returned (.bool r0)/\K r0 w'
def qe3 (s:Option Addr) (id:Int) (w:World) (K:Bool->World->Prop):Prop :=Calls PG 82 #[(.pointer s),(.int .i64 id)] w fun e w'=>∃r0:Bool,e=.returned (.bool r0)/\K r0 w'
def qgl (s:Option Addr) (n:Int) (w:World) (K:Slc->World->Prop):Prop :=Calls PG 83 #[(.pointer s),(.int .i64 n)] w fun e w'=>∃r0:Slc,e=.returned (.slice r0.a r0.n r0.c)/\K r0 w'
def qme (s:Option Addr) (id:Int) (w:World) (K:Bool->World->Prop):Prop :=Calls PG 84 #[(.pointer s),(.int .i64 id)] w fun e w'=>∃r0:Bool,e=.returned (.bool r0)/\K r0 w'
def qej (s:Slc) (w:World) (K:Slc->World->Prop):Prop :=Calls PG 85 #[(.slice s.a s.n s.c)] w fun e w'=>∃r0:Slc,e=.returned (.slice r0.a r0.n r0.c)/\K r0 w'
def qjl (t:Option Addr) (image:Int) (w:World) (K:Int->World->Prop):Prop :=Calls PG 86 #[(.pointer t),(.int .i64 image)] w fun e w'=>∃r0:Int,e=.returned (.int .i64 r0)/\K r0 w'
def qhw (e:Option Addr) (k:qaa) (id:Int) (v:qac) (w:World) (K:qag->Int->World->Prop):Prop :=Calls PG 87 #[(.pointer e),(.agg #[(.int .u8 k.Action),(.int .u8 k.Medium),(.int .u8 k.Zip),(.int .u8 k.What),(.int .i64 k.Quiet),(.int .i64 k.Format),(.int .i64 k.W),(.int .i64 k.H),(.int .i64 k.Id),(.int .i64 k.Number),(.int .i64 k.Place),(.int .i64 k.More),(.int .i64 k.X),(.int .i64 k.Y),(.int .i64 k.PW),(.int .i64 k.PH),(.int .i64 k.DX),(.int .i64 k.DY),(.int .i64 k.Rows),(.int .i64 k.Cols),(.int .i64 k.Z),(.int .i64 k.Stay)]),(.int .i64 id),(.agg #[(.bool v.View.Alt),(.int .i64 v.View.Top),(.int .i64 v.View.Rows),(.int .i64 v.View.Cols),(.int .i64 v.View.Row),(.int .i64 v.View.Col),(.int .i64 v.CellW),(.int .i64 v.CellH)])] w fun e w'=>∃r0:qag,∃r1:Int,e=.returned (.tuple #[(.agg #[(.int .i64 r0.Image),(.int .i64 r0.Id),(.bool r0.Alt),(.int .i64 r0.Line),(.int .i64 r0.Col),(.int .i64 r0.Rows),(.int .i64 r0.Cols),(.int .i64 r0.X),(.int .i64 r0.Y),(.int .i64 r0.W),(.int .i64 r0.H),(.int .i64 r0.DX),(.int .i64 r0.DY),(.int .i64 r0.Z)]),(.int .i64 r1)])/\K r0 r1 w'
def qlg (t:Option Addr) (p:qag) (w:World) (K:Int->World->Prop):Prop :=Calls PG 88 #[(.pointer t),(.agg #[(.int .i64 p.Image),(.int .i64 p.Id),(.bool p.Alt),(.int .i64 p.Line),(.int .i64 p.Col),(.int .i64 p.Rows),(.int .i64 p.Cols),(.int .i64 p.X),(.int .i64 p.Y),(.int .i64 p.W),(.int .i64 p.H),(.int .i64 p.DX),(.int .i64 p.DY),(.int .i64 p.Z)])] w fun e w'=>∃r0:Int,e=.returned (.int .i64 r0)/\K r0 w'
def qg6 (s:Option Addr) (n:Int) (w:World) (K:Slc->Int->World->Prop):Prop :=Calls PG 89 #[(.pointer s),(.int .i64 n)] w fun e w'=>∃r0:Slc,∃r1:Int,e=.returned (.tuple #[(.slice r0.a r0.n r0.c),(.int .i64 r1)])/\K r0 r1 w'
def qe2 (t:Option Addr) (goes:Value) (w:World) (K:Slc->World->Prop):Prop :=Calls PG 91 #[(.pointer t),goes] w fun e w'=>∃r0:Slc,e=.returned (.slice r0.a r0.n r0.c)/\K r0 w'
def qrg (s:Slc) (sep:Slc) (w:World) (K:Int->World->Prop):Prop :=Calls PG 93 #[(.slice s.a s.n s.c),(.slice sep.a sep.n sep.c)] w fun e w'=>∃r0:Int,e=.returned (.int .i64 r0)/\K r0 w'
def qqj (s:ByteArray) (sep:ByteArray) (sepSave:Int) (n:Int) (w:World) (K:Slc->World->Prop):Prop :=Calls PG 94 #[(.string s),(.string sep),(.int .i64 sepSave),(.int .i64 n)] w fun e w'=>∃r0:Slc,e=.returned (.slice r0.a r0.n r0.c)/\K r0 w'
def qts (s:ByteArray) (w:World) (K:Int->Bool->World->Prop):Prop :=Calls PG 95 #[(.string s)] w fun e w'=>∃r0:Int,∃r1:Bool,e=.returned (.tuple #[(.int .i64 r0),(.bool r1)])/\K r0 r1 w'
def qh7 (k:Option Addr) (c:Int) (w:World) (K:Option Addr->World->Prop):Prop :=Calls PG 96 #[(.pointer k),(.int .u8 c)] w fun e w'=>∃r0:Option Addr,e=.returned (.pointer r0)/\K r0 w'
def qpk (c:Int) (w:World) (K:Bool->World->Prop):Prop :=Calls PG 97 #[(.int .u8 c)] w fun e w'=>∃r0:Bool,e=.returned (.bool r0)/\K r0 w'
def qgp (k:Option Addr) (c:Int) (w:World) (K:Option Addr->World->Prop):Prop :=Calls PG 98 #[(.pointer k),(.int .u8 c)] w fun e w'=>∃r0:Option Addr,e=.returned (.pointer r0)/\K r0 w'
def qp2 (s:ByteArray) (w:World) (K:Int->Bool->World->Prop):Prop :=Calls PG 99 #[(.string s)] w fun e w'=>∃r0:Int,∃r1:Bool,e=.returned (.tuple #[(.int .i64 r0),(.bool r1)])/\K r0 r1 w'
def qh4 (d:Option Addr) (c:Int) (w:World) (K:Slc->Int->World->Prop):Prop :=Calls PG 100 #[(.pointer d),(.int .u8 c)] w fun e w'=>∃r0:Slc,∃r1:Int,e=.returned (.tuple #[(.slice r0.a r0.n r0.c),(.int .i64 r1)])/\K r0 r1 w'
def qe1 (l:Option Addr) (b:Slc) (w:World) (K:Int->World->Prop):Prop :=Calls PG 101 #[(.pointer l),(.slice b.a b.n b.c)] w fun e w'=>∃r0:Int,e=.returned (.int .i64 r0)/\K r0 w'
def qcm (l:Option Addr) (e:Int) (w:World) (K:World->Prop):Prop :=Calls PG 102 #[(.pointer l),(.int .i64 e)] w fun e w'=>e=.returned (.tuple #[])/\K w'
def qk8 (l:Option Addr) (w:World) (K:qab->Int->World->Prop):Prop :=Calls PG 103 #[(.pointer l)] w fun e w'=>∃r0:qab,∃r1:Int,e=.returned (.tuple #[(.agg #[(.int .i64 r0.W),(.int .i64 r0.H),(.slice r0.P.a r0.P.n r0.P.c)]),(.int .i64 r1)])/\K r0 r1 w'
def qiw (e:Option Addr) (k:qaa) (m:qab) (v:qac) (w:World) (K:qad->World->Prop):Prop :=Calls PG 104 #[(.pointer e),(.agg #[(.int .u8 k.Action),(.int .u8 k.Medium),(.int .u8 k.Zip),(.int .u8 k.What),(.int .i64 k.Quiet),(.int .i64 k.Format),(.int .i64 k.W),(.int .i64 k.H),(.int .i64 k.Id),(.int .i64 k.Number),(.int .i64 k.Place),(.int .i64 k.More),(.int .i64 k.X),(.int .i64 k.Y),(.int .i64 k.PW),(.int .i64 k.PH),(.int .i64 k.DX),(.int .i64 k.DY),(.int .i64 k.Rows),(.int .i64 k.Cols),(.int .i64 k.Z),(.int .i64 k.Stay)]),(.agg #[(.int .i64 m.W),(.int .i64 m.H),(.slice m.P.a m.P.n m.P.c)]),(.agg #[(.bool v.View.Alt),(.int .i64 v.View.Top),(.int .i64 v.View.Rows),(.int .i64 v.View.Cols),(.int .i64 v.View.Row),(.int .i64 v.View.Col),(.int .i64 v.CellW),(.int .i64 v.CellH)])] w fun e w'=>∃r0:qad,e=.returned (.agg #[(.slice r0.Reply.a r0.Reply.n r0.Reply.c),(.int .i64 r0.Rows),(.int .i64 r0.Cols),(.bool r0.Moves)])/\K r0 w'
def qte (k:qaa) (w:World) (K:Int->Int->World->Prop):Prop :=Calls PG 105 #[(.agg #[(.int .u8 k.Action),(.int .u8 k.Medium),(.int .u8 k.Zip),(.int .u8 k.What),(.int .i64 k.Quiet),(.int .i64 k.Format),(.int .i64 k.W),(.int .i64 k.H),(.int .i64 k.Id),(.int .i64 k.Number),(.int .i64 k.Place),(.int .i64 k.More),(.int .i64 k.X),(.int .i64 k.Y),(.int .i64 k.PW),(.int .i64 k.PH),(.int .i64 k.DX),(.int .i64 k.DY),(.int .i64 k.Rows),(.int .i64 k.Cols),(.int .i64 k.Z),(.int .i64 k.Stay)])] w fun e w'=>∃r0:Int,∃r1:Int,e=.returned (.tuple #[(.int .i64 r0),(.int .i64 r1)])/\K r0 r1 w'
def qo5  (w:World) (K:Option Addr->World->Prop):Prop :=Calls PG 106 #[] w fun e w'=>∃r0:Option Addr,e=.returned (.pointer r0)/\K r0 w'
def qlz (p:qag) (c0:Addr) (c1:Addr) (w:World) (K:Bool->World->Prop):Prop :=Calls PG 107 #[(.agg #[(.int .i64 p.Image),(.int .i64 p.Id),(.bool p.Alt),(.int .i64 p.Line),(.int .i64 p.Col),(.int .i64 p.Rows),(.int .i64 p.Cols),(.int .i64 p.X),(.int .i64 p.Y),(.int .i64 p.W),(.int .i64 p.H),(.int .i64 p.DX),(.int .i64 p.DY),(.int .i64 p.Z)]),(.pointer (some c0)),(.pointer (some c1))] w fun e w'=>∃r0:Bool,e=.returned (.bool r0)/\K r0 w'
def qra (a:qbi) (p:qag) (v:qay) (w:World) (K:Bool->World->Prop):Prop :=Calls PG 108 #[(.agg #[(.int .u8 a.What),(.int .i64 a.Image),(.int .i64 a.Place),(.int .i64 a.X),(.int .i64 a.Y),(.int .i64 a.Z)]),(.agg #[(.int .i64 p.Image),(.int .i64 p.Id),(.bool p.Alt),(.int .i64 p.Line),(.int .i64 p.Col),(.int .i64 p.Rows),(.int .i64 p.Cols),(.int .i64 p.X),(.int .i64 p.Y),(.int .i64 p.W),(.int .i64 p.H),(.int .i64 p.DX),(.int .i64 p.DY),(.int .i64 p.Z)]),(.agg #[(.bool v.Alt),(.int .i64 v.Top),(.int .i64 v.Rows),(.int .i64 v.Cols),(.int .i64 v.Row),(.int .i64 v.Col)])] w fun e w'=>∃r0:Bool,e=.returned (.bool r0)/\K r0 w'
def qwn (i:Int) (w:World) (K:ByteArray->World->Prop):Prop :=Calls PG 109 #[(.int .i64 i)] w fun e w'=>∃r0:ByteArray,e=.returned (.string r0)/\K r0 w'
def qw0 (elems:Slc) (sep:ByteArray) (w:World) (K:ByteArray->World->Prop):Prop :=Calls PG 110 #[(.slice elems.a elems.n elems.c),(.string sep)] w fun e w'=>∃r0:ByteArray,e=.returned (.string r0)/\K r0 w'
def qjs (wx:Int) (hx:Int) (w:World) (K:Bool->World->Prop):Prop :=Calls PG 115 #[(.int .i64 wx),(.int .i64 hx)] w fun e w'=>∃r0:Bool,e=.returned (.bool r0)/\K r0 w'
def qh2 (a:Int) (b:Int) (c0:Addr) (w:World) (K:Int->World->Prop):Prop :=Calls PG 116 #[(.int .i64 a),(.int .i64 b),(.pointer (some c0))] w fun e w'=>∃r0:Int,e=.returned (.int .i64 r0)/\K r0 w'
def qgc (x:Int) (y:Int) (w:World) (K:Int->World->Prop):Prop :=Calls PG 117 #[(.int .i64 x),(.int .i64 y)] w fun e w'=>∃r0:Int,e=.returned (.int .i64 r0)/\K r0 w'
def qf8 (x:Slc) (cmp:Value) (w:World) (K:Int->World->Prop):Prop :=Calls PG 118 #[(.slice x.a x.n x.c),cmp] w fun e w'=>∃r0:Int,e=.returned (.int .i64 r0)/\K r0 w'
def qnj (p:qag) (c0:Addr) (w:World) (K:Bool->World->Prop):Prop :=Calls PG 119 #[(.agg #[(.int .i64 p.Image),(.int .i64 p.Id),(.bool p.Alt),(.int .i64 p.Line),(.int .i64 p.Col),(.int .i64 p.Rows),(.int .i64 p.Cols),(.int .i64 p.X),(.int .i64 p.Y),(.int .i64 p.W),(.int .i64 p.H),(.int .i64 p.DX),(.int .i64 p.DY),(.int .i64 p.Z)]),(.pointer (some c0))] w fun e w'=>∃r0:Bool,e=.returned (.bool r0)/\K r0 w'
def qnu (at_:Int) (n:Int) (side:Int) (w:World) (K:Int->World->Prop):Prop :=Calls PG 120 #[(.int .i64 at_),(.int .i64 n),(.int .i64 side)] w fun e w'=>∃r0:Int,e=.returned (.int .i64 r0)/\K r0 w'
def qvm (p:qag) (w:World) (K:Bool->World->Prop):Prop :=Calls PG 121 #[(.agg #[(.int .i64 p.Image),(.int .i64 p.Id),(.bool p.Alt),(.int .i64 p.Line),(.int .i64 p.Col),(.int .i64 p.Rows),(.int .i64 p.Cols),(.int .i64 p.X),(.int .i64 p.Y),(.int .i64 p.W),(.int .i64 p.H),(.int .i64 p.DX),(.int .i64 p.DY),(.int .i64 p.Z)])] w fun e w'=>∃r0:Bool,e=.returned (.bool r0)/\K r0 w'
def qok (o:qag) (c0:Addr) (w:World) (K:Bool->World->Prop):Prop :=Calls PG 122 #[(.agg #[(.int .i64 o.Image),(.int .i64 o.Id),(.bool o.Alt),(.int .i64 o.Line),(.int .i64 o.Col),(.int .i64 o.Rows),(.int .i64 o.Cols),(.int .i64 o.X),(.int .i64 o.Y),(.int .i64 o.W),(.int .i64 o.H),(.int .i64 o.DX),(.int .i64 o.DY),(.int .i64 o.Z)]),(.pointer (some c0))] w fun e w'=>∃r0:Bool,e=.returned (.bool r0)/\K r0 w'
def qk1 (b:Slc) (c:Int) (w:World) (K:Int->World->Prop):Prop :=Calls PG 123 #[(.slice b.a b.n b.c),(.int .u8 c)] w fun e w'=>∃r0:Int,e=.returned (.int .i64 r0)/\K r0 w'
def qgh (a:Slc) (b:Slc) (w:World) (K:Bool->World->Prop):Prop :=Calls PG 124 #[(.slice a.a a.n a.c),(.slice b.a b.n b.c)] w fun e w'=>∃r0:Bool,e=.returned (.bool r0)/\K r0 w'
def qq9 (n:Int) (w:World) (K:Int->World->Prop):Prop :=Calls PG 126 #[(.int .i64 n)] w fun e w'=>∃r0:Int,e=.returned (.int .i64 r0)/\K r0 w'
def qix (s:Slc) (sep:Slc) (w:World) (K:Int->World->Prop):Prop :=Calls PG 127 #[(.slice s.a s.n s.c),(.slice sep.a sep.n sep.c)] w fun e w'=>∃r0:Int,e=.returned (.int .i64 r0)/\K r0 w'
def q2h (s:ByteArray) (n:Int) (w:World) (K:Slc->World->Prop):Prop :=Calls PG 128 #[(.string s),(.int .i64 n)] w fun e w'=>∃r0:Slc,e=.returned (.slice r0.a r0.n r0.c)/\K r0 w'
def quw (s:ByteArray) (substr:ByteArray) (w:World) (K:Int->World->Prop):Prop :=Calls PG 129 #[(.string s),(.string substr)] w fun e w'=>∃r0:Int,e=.returned (.int .i64 r0)/\K r0 w'
def qu3 (s:ByteArray) (substr:ByteArray) (w:World) (K:Int->World->Prop):Prop :=Calls PG 130 #[(.string s),(.string substr)] w fun e w'=>∃r0:Int,e=.returned (.int .i64 r0)/\K r0 w'
def qiz (s:ByteArray) (prefix_:ByteArray) (w:World) (K:ByteArray->Bool->World->Prop):Prop :=Calls PG 131 #[(.string s),(.string prefix_)] w fun e w'=>∃r0:ByteArray,∃r1:Bool,e=.returned (.tuple #[(.string r0),(.bool r1)])/\K r0 r1 w'
def qep (s:ByteArray) (c:Int) (w:World) (K:Int->World->Prop):Prop :=Calls PG 132 #[(.string s),(.int .u8 c)] w fun e w'=>∃r0:Int,e=.returned (.int .i64 r0)/\K r0 w'
def qhu (d:Option Addr) (c:Int) (w:World) (K:Slc->Bool->World->Prop):Prop :=Calls PG 133 #[(.pointer d),(.int .u8 c)] w fun e w'=>∃r0:Slc,∃r1:Bool,e=.returned (.tuple #[(.slice r0.a r0.n r0.c),(.bool r1)])/\K r0 r1 w'
def qjy (l:Option Addr) (w:World) (K:World->Prop):Prop :=Calls PG 134 #[(.pointer l)] w fun e w'=>e=.returned (.tuple #[])/\K w'
def qh0 (d:Option Addr) (w:World) (K:Slc->Int->World->Prop):Prop :=Calls PG 135 #[(.pointer d)] w fun e w'=>∃r0:Slc,∃r1:Int,e=.returned (.tuple #[(.slice r0.a r0.n r0.c),(.int .i64 r1)])/\K r0 r1 w'
def qbm (slices:Slc) (w:World) (K:Slc->World->Prop):Prop :=Calls PG 136 #[(.slice slices.a slices.n slices.c)] w fun e w'=>∃r0:Slc,e=.returned (.slice r0.a r0.n r0.c)/\K r0 w'
def qhs (l:Option Addr) (b:Slc) (w:World) (K:Slc->Int->World->Prop):Prop :=Calls PG 137 #[(.pointer l),(.slice b.a b.n b.c)] w fun e w'=>∃r0:Slc,∃r1:Int,e=.returned (.tuple #[(.slice r0.a r0.n r0.c),(.int .i64 r1)])/\K r0 r1 w'
def qip (l:Option Addr) (b:Slc) (w:World) (K:qab->Int->World->Prop):Prop :=Calls PG 138 #[(.pointer l),(.slice b.a b.n b.c)] w fun e w'=>∃r0:qab,∃r1:Int,e=.returned (.tuple #[(.agg #[(.int .i64 r0.W),(.int .i64 r0.H),(.slice r0.P.a r0.P.n r0.P.c)]),(.int .i64 r1)])/\K r0 r1 w'
def ql2 (n:Int) (w:World) (K:Bool->World->Prop):Prop :=Calls PG 139 #[(.int .i64 n)] w fun e w'=>∃r0:Bool,e=.returned (.bool r0)/\K r0 w'
def qcf (p:qag) (line:Int) (rows:Int) (from_:Int) (past:Int) (w:World) (K:Bool->World->Prop):Prop :=Calls PG 140 #[(.agg #[(.int .i64 p.Image),(.int .i64 p.Id),(.bool p.Alt),(.int .i64 p.Line),(.int .i64 p.Col),(.int .i64 p.Rows),(.int .i64 p.Cols),(.int .i64 p.X),(.int .i64 p.Y),(.int .i64 p.W),(.int .i64 p.H),(.int .i64 p.DX),(.int .i64 p.DY),(.int .i64 p.Z)]),(.int .i64 line),(.int .i64 rows),(.int .i64 from_),(.int .i64 past)] w fun e w'=>∃r0:Bool,e=.returned (.bool r0)/\K r0 w'
def qk2 (x:Int) (w:World) (K:Bool->World->Prop):Prop :=Calls PG 156 #[(.int .i64 x)] w fun e w'=>∃r0:Bool,e=.returned (.bool r0)/\K r0 w'
def qca (v:Int) (lo:Int) (hi:Int) (w:World) (K:Bool->World->Prop):Prop :=Calls PG 157 #[(.int .i64 v),(.int .i64 lo),(.int .i64 hi)] w fun e w'=>∃r0:Bool,e=.returned (.bool r0)/\K r0 w'
def qga (s:ByteArray) (prefix_:ByteArray) (w:World) (K:ByteArray->Bool->World->Prop):Prop :=Calls PG 164 #[(.string s),(.string prefix_)] w fun e w'=>∃r0:ByteArray,∃r1:Bool,e=.returned (.tuple #[(.string r0),(.bool r1)])/\K r0 r1 w'
def qev (d:Option Addr) (w:World) (K:Bool->World->Prop):Prop :=Calls PG 166 #[(.pointer d)] w fun e w'=>∃r0:Bool,e=.returned (.bool r0)/\K r0 w'
def qey (d:Option Addr) (w:World) (K:Slc->World->Prop):Prop :=Calls PG 167 #[(.pointer d)] w fun e w'=>∃r0:Slc,e=.returned (.slice r0.a r0.n r0.c)/\K r0 w'
def qli (d:Option Addr) (w:World) (K:World->Prop):Prop :=Calls PG 168 #[(.pointer d)] w fun e w'=>e=.returned (.tuple #[])/\K w'
def qgf (s:Slc) (n:Int) (w:World) (K:Slc->World->Prop):Prop :=Calls PG 169 #[(.slice s.a s.n s.c),(.int .i64 n)] w fun e w'=>∃r0:Slc,e=.returned (.slice r0.a r0.n r0.c)/\K r0 w'
def ql1 (b:Slc) (most:Int) (w:World) (K:Slc->Int->Int->World->Prop):Prop :=Calls PG 170 #[(.slice b.a b.n b.c),(.int .i64 most)] w fun e w'=>∃r0:Slc,∃r1:Int,∃r2:Int,e=.returned (.tuple #[(.slice r0.a r0.n r0.c),(.int .i64 r1),(.int .i64 r2)])/\K r0 r1 r2 w'
def qmd (wx:Int) (hx:Int) (b:Slc) (w:World) (K:qab->Int->World->Prop):Prop :=Calls PG 171 #[(.int .i64 wx),(.int .i64 hx),(.slice b.a b.n b.c)] w fun e w'=>∃r0:qab,∃r1:Int,e=.returned (.tuple #[(.agg #[(.int .i64 r0.W),(.int .i64 r0.H),(.slice r0.P.a r0.P.n r0.P.c)]),(.int .i64 r1)])/\K r0 r1 w'
def qt2 (b:Slc) (pixels:Int) (w:World) (K:qab->Int->World->Prop):Prop :=Calls PG 172 #[(.slice b.a b.n b.c),(.int .i64 pixels)] w fun e w'=>∃r0:qab,∃r1:Int,e=.returned (.tuple #[(.agg #[(.int .i64 r0.W),(.int .i64 r0.H),(.slice r0.P.a r0.P.n r0.P.c)]),(.int .i64 r1)])/\K r0 r1 w'
def qn8 (wx:Int) (hx:Int) (b:Slc) (w:World) (K:qab->Int->World->Prop):Prop :=Calls PG 173 #[(.int .i64 wx),(.int .i64 hx),(.slice b.a b.n b.c)] w fun e w'=>∃r0:qab,∃r1:Int,e=.returned (.tuple #[(.agg #[(.int .i64 r0.W),(.int .i64 r0.H),(.slice r0.P.a r0.P.n r0.P.c)]),(.int .i64 r1)])/\K r0 r1 w'
def qdp (s:ByteArray) (prefix_:ByteArray) (w:World) (K:Bool->World->Prop):Prop :=Calls PG 186 #[(.string s),(.string prefix_)] w fun e w'=>∃r0:Bool,e=.returned (.bool r0)/\K r0 w'
def q4j (most:Int) (w:World) (K:Option Addr->Int->World->Prop):Prop :=Calls PG 188 #[(.int .i64 most)] w fun e w'=>∃r0:Option Addr,∃r1:Int,e=.returned (.tuple #[(.pointer r0),(.int .i64 r1)])/\K r0 r1 w'
def qhx (d:Option Addr) (b:Slc) (w:World) (K:Slc->Int->World->Prop):Prop :=Calls PG 189 #[(.pointer d),(.slice b.a b.n b.c)] w fun e w'=>∃r0:Slc,∃r1:Int,e=.returned (.tuple #[(.slice r0.a r0.n r0.c),(.int .i64 r1)])/\K r0 r1 w'
def qiy (d:Option Addr) (w:World) (K:Bool->World->Prop):Prop :=Calls PG 190 #[(.pointer d)] w fun e w'=>∃r0:Bool,e=.returned (.bool r0)/\K r0 w'
def qi0 (d:Option Addr) (w:World) (K:Int->World->Prop):Prop :=Calls PG 191 #[(.pointer d)] w fun e w'=>∃r0:Int,e=.returned (.int .i64 r0)/\K r0 w'
def qno (wx:Int) (hx:Int) (per:Int) (b:Slc) (w:World) (K:qab->Int->World->Prop):Prop :=Calls PG 192 #[(.int .i64 wx),(.int .i64 hx),(.int .i64 per),(.slice b.a b.n b.c)] w fun e w'=>∃r0:qab,∃r1:Int,e=.returned (.tuple #[(.agg #[(.int .i64 r0.W),(.int .i64 r0.H),(.slice r0.P.a r0.P.n r0.P.c)]),(.int .i64 r1)])/\K r0 r1 w'
def qyw (b:Slc) (pixels:Int) (w:World) (K:Option Addr->Int->World->Prop):Prop :=Calls PG 193 #[(.slice b.a b.n b.c),(.int .i64 pixels)] w fun e w'=>∃r0:Option Addr,∃r1:Int,e=.returned (.tuple #[(.pointer r0),(.int .i64 r1)])/\K r0 r1 w'
def qn9 (hx:qah) (w:World) (K:Int->World->Prop):Prop :=Calls PG 194 #[(.agg #[(.int .i64 hx.W),(.int .i64 hx.H),(.int .i64 hx.Depth),(.int .i64 hx.Color),(.int .i64 hx.Lace)])] w fun e w'=>∃r0:Int,e=.returned (.int .i64 r0)/\K r0 w'
def qk4 (f:Option Addr) (b:Slc) (w:World) (K:qab->Int->World->Prop):Prop :=Calls PG 195 #[(.pointer f),(.slice b.a b.n b.c)] w fun e w'=>∃r0:qab,∃r1:Int,e=.returned (.tuple #[(.agg #[(.int .i64 r0.W),(.int .i64 r0.H),(.slice r0.P.a r0.P.n r0.P.c)]),(.int .i64 r1)])/\K r0 r1 w'
def qrm (most:Int) (w:World) (K:Option Addr->Int->World->Prop):Prop :=Calls PG 204 #[(.int .i64 most)] w fun e w'=>∃r0:Option Addr,∃r1:Int,e=.returned (.tuple #[(.pointer r0),(.int .i64 r1)])/\K r0 r1 w'
def quz  (w:World) (K:Option Addr->World->Prop):Prop :=Calls PG 205 #[] w fun e w'=>∃r0:Option Addr,e=.returned (.pointer r0)/\K r0 w'
def qia (d:Option Addr) (c:Int) (w:World) (K:Bool->World->Prop):Prop :=Calls PG 206 #[(.pointer d),(.int .u8 c)] w fun e w'=>∃r0:Bool,e=.returned (.bool r0)/\K r0 w'
def qbt (d:Option Addr) (e:Int) (w:World) (K:Int->World->Prop):Prop :=Calls PG 207 #[(.pointer d),(.int .i64 e)] w fun e w'=>∃r0:Int,e=.returned (.int .i64 r0)/\K r0 w'
def qei (d:Option Addr) (w:World) (K:Int->World->Prop):Prop :=Calls PG 208 #[(.pointer d)] w fun e w'=>∃r0:Int,e=.returned (.int .i64 r0)/\K r0 w'
def qdb (d:Option Addr) (b:Slc) (w:World) (K:Slc->Int->World->Prop):Prop :=Calls PG 209 #[(.pointer d),(.slice b.a b.n b.c)] w fun e w'=>∃r0:Slc,∃r1:Int,e=.returned (.tuple #[(.slice r0.a r0.n r0.c),(.int .i64 r1)])/\K r0 r1 w'
def qcs (d:Option Addr) (w:World) (K:Bool->World->Prop):Prop :=Calls PG 210 #[(.pointer d)] w fun e w'=>∃r0:Bool,e=.returned (.bool r0)/\K r0 w'
def qcr (d:Option Addr) (w:World) (K:Int->World->Prop):Prop :=Calls PG 211 #[(.pointer d)] w fun e w'=>∃r0:Int,e=.returned (.int .i64 r0)/\K r0 w'
def qcv (b:Slc) (w:World) (K:Int->World->Prop):Prop :=Calls PG 212 #[(.slice b.a b.n b.c)] w fun e w'=>∃r0:Int,e=.returned (.int .u32 r0)/\K r0 w'
def qlh (wx:Int) (hx:Int) (w:World) (K:qab->Int->World->Prop):Prop :=Calls PG 213 #[(.int .i64 wx),(.int .i64 hx)] w fun e w'=>∃r0:qab,∃r1:Int,e=.returned (.tuple #[(.agg #[(.int .i64 r0.W),(.int .i64 r0.H),(.slice r0.P.a r0.P.n r0.P.c)]),(.int .i64 r1)])/\K r0 r1 w'
def qs9 (b:Slc) (w:World) (K:Slc->Int->World->Prop):Prop :=Calls PG 214 #[(.slice b.a b.n b.c)] w fun e w'=>∃r0:Slc,∃r1:Int,e=.returned (.tuple #[(.slice r0.a r0.n r0.c),(.int .i64 r1)])/\K r0 r1 w'
def qxx (c:qan) (w:World) (K:qah->Int->World->Prop):Prop :=Calls PG 215 #[(.agg #[(.string c.Kind),(.slice c.Data.a c.Data.n c.Data.c)])] w fun e w'=>∃r0:qah,∃r1:Int,e=.returned (.tuple #[(.agg #[(.int .i64 r0.W),(.int .i64 r0.H),(.int .i64 r0.Depth),(.int .i64 r0.Color),(.int .i64 r0.Lace)]),(.int .i64 r1)])/\K r0 r1 w'
def qoa (f:Option Addr) (c:qan) (w:World) (K:Int->World->Prop):Prop :=Calls PG 216 #[(.pointer f),(.agg #[(.string c.Kind),(.slice c.Data.a c.Data.n c.Data.c)])] w fun e w'=>∃r0:Int,e=.returned (.int .i64 r0)/\K r0 w'
def qfa (hx:qah) (f:Value) (w:World) (K:Bool->World->Prop):Prop :=Calls PG 217 #[(.agg #[(.int .i64 hx.W),(.int .i64 hx.H),(.int .i64 hx.Depth),(.int .i64 hx.Color),(.int .i64 hx.Lace)]),f] w fun e w'=>∃r0:Bool,e=.returned (.bool r0)/\K r0 w'
def qr2 (x_:qa0) (x_x:Int) (wx:Int) (c0:Addr) (c1:Addr) (w:World) (K:Bool->World->Prop):Prop :=Calls PG 218 #[(.agg #[(.int .i64 x_.X),(.int .i64 x_.Y),(.int .i64 x_.DX),(.int .i64 x_.DY)]),(.int .i64 x_x),(.int .i64 wx),(.pointer (some c0)),(.pointer (some c1))] w fun e w'=>∃r0:Bool,e=.returned (.bool r0)/\K r0 w'
def qoh (wx:Int) (samples:Int) (depth:Int) (w:World) (K:Int->World->Prop):Prop :=Calls PG 219 #[(.int .i64 wx),(.int .i64 samples),(.int .i64 depth)] w fun e w'=>∃r0:Int,e=.returned (.int .i64 r0)/\K r0 w'
def qfg (color:Int) (w:World) (K:Int->World->Prop):Prop :=Calls PG 220 #[(.int .i64 color)] w fun e w'=>∃r0:Int,e=.returned (.int .i64 r0)/\K r0 w'
def qiq (p:qa0) (y:Int) (wx:Int) (c0:Addr) (c1:Addr) (c2:Addr) (c3:Addr) (c4:Addr) (c5:Addr) (w:World) (K:Bool->World->Prop):Prop :=Calls PG 221 #[(.agg #[(.int .i64 p.X),(.int .i64 p.Y),(.int .i64 p.DX),(.int .i64 p.DY)]),(.int .i64 y),(.int .i64 wx),(.pointer (some c0)),(.pointer (some c1)),(.pointer (some c2)),(.pointer (some c3)),(.pointer (some c4)),(.pointer (some c5))] w fun e w'=>∃r0:Bool,e=.returned (.bool r0)/\K r0 w'
def qrr (kind:Int) (row:Slc) (ahead:Slc) (step:Int) (w:World) (K:Slc->Int->World->Prop):Prop :=Calls PG 222 #[(.int .i64 kind),(.slice row.a row.n row.c),(.slice ahead.a ahead.n ahead.c),(.int .i64 step)] w fun e w'=>∃r0:Slc,∃r1:Int,e=.returned (.tuple #[(.slice r0.a r0.n r0.c),(.int .i64 r1)])/\K r0 r1 w'
def qmg (row:Slc) (depth:Int) (n:Int) (w:World) (K:Slc->Int->World->Prop):Prop :=Calls PG 223 #[(.slice row.a row.n row.c),(.int .i64 depth),(.int .i64 n)] w fun e w'=>∃r0:Slc,∃r1:Int,e=.returned (.tuple #[(.slice r0.a r0.n r0.c),(.int .i64 r1)])/\K r0 r1 w'
def qet (f:Option Addr) (s:Slc) (w:World) (K:qap->Bool->World->Prop):Prop :=Calls PG 224 #[(.pointer f),(.slice s.a s.n s.c)] w fun e w'=>∃r0:qap,∃r1:Bool,e=.returned (.tuple #[(.agg #[(.int .u8 r0.e0),(.int .u8 r0.e1),(.int .u8 r0.e2),(.int .u8 r0.e3)]),(.bool r1)])/\K r0 r1 w'
def qhz (b:Slc) (w:World) (K:Option Addr->World->Prop):Prop :=Calls PG 229 #[(.slice b.a b.n b.c)] w fun e w'=>∃r0:Option Addr,e=.returned (.pointer r0)/\K r0 w'
def qa6 (r:Option Addr) (n:Int) (w:World) (K:Int->Bool->World->Prop):Prop :=Calls PG 230 #[(.pointer r),(.int .i64 n)] w fun e w'=>∃r0:Int,∃r1:Bool,e=.returned (.tuple #[(.int .u32 r0),(.bool r1)])/\K r0 r1 w'
def qbq (r:Option Addr) (w:World) (K:Int->World->Prop):Prop :=Calls PG 231 #[(.pointer r)] w fun e w'=>∃r0:Int,e=.returned (.int .i64 r0)/\K r0 w'
def qg1 (d:Option Addr) (r:Option Addr) (w:World) (K:Int->World->Prop):Prop :=Calls PG 232 #[(.pointer d),(.pointer r)] w fun e w'=>∃r0:Int,e=.returned (.int .i64 r0)/\K r0 w'
def qgq (r:Option Addr) (at_:Int) (w:World) (K:World->Prop):Prop :=Calls PG 233 #[(.pointer r),(.int .i64 at_)] w fun e w'=>e=.returned (.tuple #[])/\K w'
def qyb (b:Slc) (f:Value) (w:World) (K:Int->World->Prop):Prop :=Calls PG 234 #[(.slice b.a b.n b.c),f] w fun e w'=>∃r0:Int,e=.returned (.int .i64 r0)/\K r0 w'
def qxl (c:qan) (c0:Addr) (w:World) (K:Bool->World->Prop):Prop :=Calls PG 235 #[(.agg #[(.string c.Kind),(.slice c.Data.a c.Data.n c.Data.c)]),(.pointer (some c0))] w fun e w'=>∃r0:Bool,e=.returned (.bool r0)/\K r0 w'
def qil (hx:qah) (w:World) (K:Int->World->Prop):Prop :=Calls PG 236 #[(.agg #[(.int .i64 hx.W),(.int .i64 hx.H),(.int .i64 hx.Depth),(.int .i64 hx.Color),(.int .i64 hx.Lace)])] w fun e w'=>∃r0:Int,e=.returned (.int .i64 r0)/\K r0 w'
def qk9 (f:Option Addr) (b:Slc) (w:World) (K:Bool->World->Prop):Prop :=Calls PG 237 #[(.pointer f),(.slice b.a b.n b.c)] w fun e w'=>∃r0:Bool,e=.returned (.bool r0)/\K r0 w'
def qmj (f:Option Addr) (b:Slc) (w:World) (K:Bool->World->Prop):Prop :=Calls PG 238 #[(.pointer f),(.slice b.a b.n b.c)] w fun e w'=>∃r0:Bool,e=.returned (.bool r0)/\K r0 w'
def qk5 (hx:qah) (w:World) (K:Slc->World->Prop):Prop :=Calls PG 239 #[(.agg #[(.int .i64 hx.W),(.int .i64 hx.H),(.int .i64 hx.Depth),(.int .i64 hx.Color),(.int .i64 hx.Lace)])] w fun e w'=>∃r0:Slc,e=.returned (.slice r0.a r0.n r0.c)/\K r0 w'
def qrc (p:qa0) (wx:Int) (hx:Int) (w:World) (K:Int->Int->World->Prop):Prop :=Calls PG 240 #[(.agg #[(.int .i64 p.X),(.int .i64 p.Y),(.int .i64 p.DX),(.int .i64 p.DY)]),(.int .i64 wx),(.int .i64 hx)] w fun e w'=>∃r0:Int,∃r1:Int,e=.returned (.tuple #[(.int .i64 r0),(.int .i64 r1)])/\K r0 r1 w'
def qhp (n:Int) (w:World) (K:Bool->World->Prop):Prop :=Calls PG 241 #[(.int .i64 n)] w fun e w'=>∃r0:Bool,e=.returned (.bool r0)/\K r0 w'
def qpt (kind:Int) (row:Slc) (ahead:Slc) (step:Int) (w:World) (K:Bool->World->Prop):Prop :=Calls PG 242 #[(.int .i64 kind),(.slice row.a row.n row.c),(.slice ahead.a ahead.n ahead.c),(.int .i64 step)] w fun e w'=>∃r0:Bool,e=.returned (.bool r0)/\K r0 w'
def qpp (kind:Int) (i:Int) (row:Slc) (ahead:Slc) (step:Int) (w:World) (K:Int->World->Prop):Prop :=Calls PG 243 #[(.int .i64 kind),(.int .i64 i),(.slice row.a row.n row.c),(.slice ahead.a ahead.n ahead.c),(.int .i64 step)] w fun e w'=>∃r0:Int,e=.returned (.int .u8 r0)/\K r0 w'
def qdt (hx:qah) (v:Int) (w:World) (K:Int->World->Prop):Prop :=Calls PG 244 #[(.agg #[(.int .i64 hx.W),(.int .i64 hx.H),(.int .i64 hx.Depth),(.int .i64 hx.Color),(.int .i64 hx.Lace)]),(.int .i64 v)] w fun e w'=>∃r0:Int,e=.returned (.int .u8 r0)/\K r0 w'
def qgt (r:Option Addr) (n:Int) (w:World) (K:Int->Bool->World->Prop):Prop :=Calls PG 247 #[(.pointer r),(.int .i64 n)] w fun e w'=>∃r0:Int,∃r1:Bool,e=.returned (.tuple #[(.int .u32 r0),(.bool r1)])/\K r0 r1 w'
def qgx (d:Option Addr) (r:Option Addr) (w:World) (K:Int->World->Prop):Prop :=Calls PG 248 #[(.pointer d),(.pointer r)] w fun e w'=>∃r0:Int,e=.returned (.int .i64 r0)/\K r0 w'
def qf2 (d:Option Addr) (r:Option Addr) (w:World) (K:Int->World->Prop):Prop :=Calls PG 249 #[(.pointer d),(.pointer r)] w fun e w'=>∃r0:Int,e=.returned (.int .i64 r0)/\K r0 w'
def qgg (d:Option Addr) (r:Option Addr) (w:World) (K:Int->World->Prop):Prop :=Calls PG 250 #[(.pointer d),(.pointer r)] w fun e w'=>∃r0:Int,e=.returned (.int .i64 r0)/\K r0 w'
def qfo (d:Option Addr) (r:Option Addr) (w:World) (K:Int->World->Prop):Prop :=Calls PG 251 #[(.pointer d),(.pointer r)] w fun e w'=>∃r0:Int,e=.returned (.int .i64 r0)/\K r0 w'
def qgv (d:Option Addr) (r:Option Addr) (w:World) (K:Int->World->Prop):Prop :=Calls PG 252 #[(.pointer d),(.pointer r)] w fun e w'=>∃r0:Int,e=.returned (.int .i64 r0)/\K r0 w'
def qsj  (w:World) (K:Slc->World->Prop):Prop :=Calls PG 253 #[] w fun e w'=>∃r0:Slc,e=.returned (.slice r0.a r0.n r0.c)/\K r0 w'
def qv1 (b:Slc) (w:World) (K:qan->Int->Int->World->Prop):Prop :=Calls PG 254 #[(.slice b.a b.n b.c)] w fun e w'=>∃r0:qan,∃r1:Int,∃r2:Int,e=.returned (.tuple #[(.agg #[(.string r0.Kind),(.slice r0.Data.a r0.Data.n r0.Data.c)]),(.int .i64 r1),(.int .i64 r2)])/\K r0 r1 r2 w'
def qfp (s:Slc) (v:Int) (w:World) (K:Bool->World->Prop):Prop :=Calls PG 255 #[(.slice s.a s.n s.c),(.int .i64 v)] w fun e w'=>∃r0:Bool,e=.returned (.bool r0)/\K r0 w'
def qnq  (w:World) (K:Slc->World->Prop):Prop :=Calls PG 256 #[] w fun e w'=>∃r0:Slc,e=.returned (.slice r0.a r0.n r0.c)/\K r0 w'
def qi4 (n:Int) (w:World) (K:Bool->World->Prop):Prop :=Calls PG 257 #[(.int .i64 n)] w fun e w'=>∃r0:Bool,e=.returned (.bool r0)/\K r0 w'
def qpl (a:Int) (b:Int) (c:Int) (w:World) (K:Int->World->Prop):Prop :=Calls PG 258 #[(.int .u8 a),(.int .u8 b),(.int .u8 c)] w fun e w'=>∃r0:Int,e=.returned (.int .u8 r0)/\K r0 w'
def qk3 (v:Int) (from_:Int) (to:Int) (w:World) (K:Int->World->Prop):Prop :=Calls PG 259 #[(.int .i64 v),(.int .i64 from_),(.int .i64 to)] w fun e w'=>∃r0:Int,e=.returned (.int .i64 r0)/\K r0 w'
def qgm (r:Option Addr) (w:World) (K:Int->World->Prop):Prop :=Calls PG 260 #[(.pointer r)] w fun e w'=>∃r0:Int,e=.returned (.int .i64 r0)/\K r0 w'
def qta  (w:World) (K:Slc->Slc->World->Prop):Prop :=Calls PG 261 #[] w fun e w'=>∃r0:Slc,∃r1:Slc,e=.returned (.tuple #[(.slice r0.a r0.n r0.c),(.slice r1.a r1.n r1.c)])/\K r0 r1 w'
def qgk (lengths:Slc) (w:World) (K:Option Addr->Int->World->Prop):Prop :=Calls PG 262 #[(.slice lengths.a lengths.n lengths.c)] w fun e w'=>∃r0:Option Addr,∃r1:Int,e=.returned (.tuple #[(.pointer r0),(.int .i64 r1)])/\K r0 r1 w'
def qis (r:Option Addr) (w:World) (K:Int->World->Prop):Prop :=Calls PG 263 #[(.pointer r)] w fun e w'=>∃r0:Int,e=.returned (.int .i64 r0)/\K r0 w'
def qg0 (d:Option Addr) (r:Option Addr) (w:World) (K:World->Prop):Prop :=Calls PG 264 #[(.pointer d),(.pointer r)] w fun e w'=>e=.returned (.tuple #[])/\K w'
def qcy (d:Option Addr) (c:Int) (w:World) (K:Int->World->Prop):Prop :=Calls PG 265 #[(.pointer d),(.int .u8 c)] w fun e w'=>∃r0:Int,e=.returned (.int .i64 r0)/\K r0 w'
def qdi (d:Option Addr) (w:World) (K:World->Prop):Prop :=Calls PG 266 #[(.pointer d)] w fun e w'=>e=.returned (.tuple #[])/\K w'
def qo7 (r:Option Addr) (t:Option Addr) (n:Int) (w:World) (K:Slc->Int->World->Prop):Prop :=Calls PG 267 #[(.pointer r),(.pointer t),(.int .i64 n)] w fun e w'=>∃r0:Slc,∃r1:Int,e=.returned (.tuple #[(.slice r0.a r0.n r0.c),(.int .i64 r1)])/\K r0 r1 w'
def qea (t:Option Addr) (r:Option Addr) (w:World) (K:Int->Int->World->Prop):Prop :=Calls PG 268 #[(.pointer t),(.pointer r)] w fun e w'=>∃r0:Int,∃r1:Int,e=.returned (.tuple #[(.int .i64 r0),(.int .i64 r1)])/\K r0 r1 w'
def qmb (sign:Int) (w:World) (K:Int->Int->World->Prop):Prop :=Calls PG 269 #[(.int .i64 sign)] w fun e w'=>∃r0:Int,∃r1:Int,e=.returned (.tuple #[(.int .i64 r0),(.int .i64 r1)])/\K r0 r1 w'
def qjq (sign:Int) (w:World) (K:Int->Int->World->Prop):Prop :=Calls PG 270 #[(.int .i64 sign)] w fun e w'=>∃r0:Int,∃r1:Int,e=.returned (.tuple #[(.int .i64 r0),(.int .i64 r1)])/\K r0 r1 w'
def qrk (b:Slc) (w:World) (K:Bool->World->Prop):Prop :=Calls PG 271 #[(.slice b.a b.n b.c)] w fun e w'=>∃r0:Bool,e=.returned (.bool r0)/\K r0 w'
def qdx (s:Option Addr) (parts:Slc) (w:World) (K:Int->World->Prop):Prop :=Calls PG 272 #[(.pointer s),(.slice parts.a parts.n parts.c)] w fun e w'=>∃r0:Int,e=.returned (.int .u32 r0)/\K r0 w'
def qib  (w:World) (K:Option Addr->World->Prop):Prop :=Calls PG 273 #[] w fun e w'=>∃r0:Option Addr,e=.returned (.pointer r0)/\K r0 w'
def qlo (s:Slc) (v:Int) (w:World) (K:Int->World->Prop):Prop :=Calls PG 274 #[(.slice s.a s.n s.c),(.int .i64 v)] w fun e w'=>∃r0:Int,e=.returned (.int .i64 r0)/\K r0 w'
def qc6 (x:Int) (c0:Addr) (c1:Addr) (c2:Addr) (w:World) (K:Int->World->Prop):Prop :=Calls PG 275 #[(.int .u8 x),(.pointer (some c0)),(.pointer (some c1)),(.pointer (some c2))] w fun e w'=>∃r0:Int,e=.returned (.int .i64 r0)/\K r0 w'
def qio (lengths:Slc) (w:World) (K:Int->World->Prop):Prop :=Calls PG 276 #[(.slice lengths.a lengths.n lengths.c)] w fun e w'=>∃r0:Int,e=.returned (.int .i64 r0)/\K r0 w'
def qed (t:Option Addr) (w:World) (K:World->Prop):Prop :=Calls PG 277 #[(.pointer t)] w fun e w'=>e=.returned (.tuple #[])/\K w'
def qge (s:Slc) (f:Value) (w:World) (K:Bool->World->Prop):Prop :=Calls PG 278 #[(.slice s.a s.n s.c),f] w fun e w'=>∃r0:Bool,e=.returned (.bool r0)/\K r0 w'
def qur (c:Int) (w:World) (K:Bool->World->Prop):Prop :=Calls PG 279 #[(.int .u8 c)] w fun e w'=>∃r0:Bool,e=.returned (.bool r0)/\K r0 w'
def qpo (v:Int) (n:Int) (w:World) (K:Int->World->Prop):Prop :=Calls PG 280 #[(.int .u32 v),(.int .i64 n)] w fun e w'=>∃r0:Int,e=.returned (.int .u32 r0)/\K r0 w'
def qhl (s:Slc) (f:Value) (w:World) (K:Int->World->Prop):Prop :=Calls PG 281 #[(.slice s.a s.n s.c),f] w fun e w'=>∃r0:Int,e=.returned (.int .i64 r0)/\K r0 w'
def ql8 (a:Option Addr) (w:World) (K:Int->World->Prop):Prop :=Calls PG 303 #[(.pointer a)] w fun e w'=>∃r0:Int,e=.returned (.int .u32 r0)/\K r0 w'
def qj1 (a:Option Addr) (b:Slc) (w:World) (K:Int->Value->World->Prop):Prop :=Calls PG 304 #[(.pointer a),(.slice b.a b.n b.c)] w fun e w'=>∃r0:Int,∃r1:Value,e=.returned (.tuple #[(.int .i64 r0),r1])/\K r0 r1 w'
def qps (c:Option Addr) (w:World) (K:Int->World->Prop):Prop :=Calls PG 305 #[(.pointer c)] w fun e w'=>∃r0:Int,e=.returned (.int .u32 r0)/\K r0 w'
def qmc (c:Option Addr) (b:Slc) (w:World) (K:Int->Value->World->Prop):Prop :=Calls PG 306 #[(.pointer c),(.slice b.a b.n b.c)] w fun e w'=>∃r0:Int,∃r1:Value,e=.returned (.tuple #[(.int .i64 r0),r1])/\K r0 r1 w'
end Go.Proofs.YtedcpbkcamckoaaGreatDoor
