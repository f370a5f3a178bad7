import Derived.Test.YtmagnpcgpinmcaaGreatVc
import Derived.Test.YtmagnpcgpinmcaaGreatChecked
import Derived.KernelRfl
set_option maxRecDepth 100000
set_option linter.unusedVariables false
namespace Go.Proofs.YtmagnpcgpinmcaaGreat
open Go.Vc
structure T_png_Head where
 W:Int
 H:Int
 Depth:Int
 Color:Int
 Lace:Int
def T_png_Head.rep:Rep where
 T:=T_png_Head
 cells x:=[(.int .i64 x.W),(.int .i64 x.H),(.int .i64 x.Depth),(.int .i64 x.Color),(.int .i64 x.Lace)]
 get l:=match l with
  | [.int .i64 v1,.int .i64 v2,.int .i64 v3,.int .i64 v4,.int .i64 v5]=>some ⟨v1,v2,v3,v4,v5⟩
  | _=>none
 ok l c h:=by
  split at h
  ·injection h with h;subst h;rfl
  ·cases h
structure T_api_Matrix where
 W:Int
 H:Int
 P:Slc
def T_api_Matrix.rep:Rep where
 T:=T_api_Matrix
 cells x:=[(.int .i64 x.W),(.int .i64 x.H),(.slice x.P.a x.P.n x.P.c)]
 get l:=match l with
  | [.int .i64 v1,.int .i64 v2,.slice v3a v3n v3c]=>some ⟨v1,v2,⟨v3a,v3n,v3c⟩⟩
  | _=>none
 ok l c h:=by
  split at h
  ·injection h with h;subst h;rfl
  ·cases h
structure T_png_Chunk where
 Kind:ByteArray
 Data:Slc
def T_png_Chunk.rep:Rep where
 T:=T_png_Chunk
 cells x:=[(.string x.Kind),(.slice x.Data.a x.Data.n x.Data.c)]
 get l:=match l with
  | [.string v1,.slice v2a v2n v2c]=>some ⟨v1,⟨v2a,v2n,v2c⟩⟩
  | _=>none
 ok l c h:=by
  split at h
  ·injection h with h;subst h;rfl
  ·cases h
structure T_keys_Keys where
 Action:Int
 Medium:Int
 Zip:Int
 What:Int
 Quiet:Int
 Format:Int
 W:Int
 H:Int
 Id:Int
 Number:Int
 Place:Int
 More:Int
 X:Int
 Y:Int
 PW:Int
 PH:Int
 DX:Int
 DY:Int
 Rows:Int
 Cols:Int
 Z:Int
 Stay:Int
def T_keys_Keys.rep:Rep where
 T:=T_keys_Keys
 cells x:=[(.int .u8 x.Action),(.int .u8 x.Medium),(.int .u8 x.Zip),(.int .u8 x.What),(.int .i64 x.Quiet),(.int .i64 x.Format),(.int .i64 x.W),(.int .i64 x.H),(.int .i64 x.Id),(.int .i64 x.Number),(.int .i64 x.Place),(.int .i64 x.More),(.int .i64 x.X),(.int .i64 x.Y),(.int .i64 x.PW),(.int .i64 x.PH),(.int .i64 x.DX),(.int .i64 x.DY),(.int .i64 x.Rows),(.int .i64 x.Cols),(.int .i64 x.Z),(.int .i64 x.Stay)]
 get l:=match l with
  | [.int .u8 v1,.int .u8 v2,.int .u8 v3,.int .u8 v4,.int .i64 v5,.int .i64 v6,.int .i64 v7,.int .i64 v8,.int .i64 v9,.int .i64 v10,.int .i64 v11,.int .i64 v12,.int .i64 v13,.int .i64 v14,.int .i64 v15,.int .i64 v16,.int .i64 v17,.int .i64 v18,.int .i64 v19,.int .i64 v20,.int .i64 v21,.int .i64 v22]=>some ⟨v1,v2,v3,v4,v5,v6,v7,v8,v9,v10,v11,v12,v13,v14,v15,v16,v17,v18,v19,v20,v21,v22⟩
  | _=>none
 ok l c h:=by
  split at h
  ·injection h with h;subst h;rfl
  ·cases h
structure T_q9_file where
 h:T_png_Head
 palette:Slc
 hasP:Bool
 trans:Slc
 hasT:Bool
 data:Slc
 hasD:Bool
 lastIdat:Bool
def T_q9_file.rep:Rep where
 T:=T_q9_file
 cells x:=[(.int .i64 x.h.W),(.int .i64 x.h.H),(.int .i64 x.h.Depth),(.int .i64 x.h.Color),(.int .i64 x.h.Lace),(.slice x.palette.a x.palette.n x.palette.c),(.bool x.hasP),(.slice x.trans.a x.trans.n x.trans.c),(.bool x.hasT),(.slice x.data.a x.data.n x.data.c),(.bool x.hasD),(.bool x.lastIdat)]
 get l:=match l with
  | [.int .i64 v1,.int .i64 v2,.int .i64 v3,.int .i64 v4,.int .i64 v5,.slice v6a v6n v6c,.bool v7,.slice v8a v8n v8c,.bool v9,.slice v10a v10n v10c,.bool v11,.bool v12]=>some ⟨⟨v1,v2,v3,v4,v5⟩,⟨v6a,v6n,v6c⟩,v7,⟨v8a,v8n,v8c⟩,v9,⟨v10a,v10n,v10c⟩,v11,v12⟩
  | _=>none
 ok l c h:=by
  split at h
  ·injection h with h;subst h;rfl
  ·cases h
structure T_q8_Pass where
 X:Int
 Y:Int
 DX:Int
 DY:Int
def T_q8_Pass.rep:Rep where
 T:=T_q8_Pass
 cells x:=[(.int .i64 x.X),(.int .i64 x.Y),(.int .i64 x.DX),(.int .i64 x.DY)]
 get l:=match l with
  | [.int .i64 v1,.int .i64 v2,.int .i64 v3,.int .i64 v4]=>some ⟨v1,v2,v3,v4⟩
  | _=>none
 ok l c h:=by
  split at h
  ·injection h with h;subst h;rfl
  ·cases h
structure T_4_uint8 where
 e0:Int
 e1:Int
 e2:Int
 e3:Int
def T_4_uint8.rep:Rep where
 T:=T_4_uint8
 cells x:=[(.int .u8 x.e0),(.int .u8 x.e1),(.int .u8 x.e2),(.int .u8 x.e3)]
 get l:=match l with
  | [.int .u8 v1,.int .u8 v2,.int .u8 v3,.int .u8 v4]=>some ⟨v1,v2,v3,v4⟩
  | _=>none
 ok l c h:=by
  split at h
  ·injection h with h;subst h;rfl
  ·cases h
structure T_sums_Crc where
 v:Int
def T_sums_Crc.rep:Rep where
 T:=T_sums_Crc
 cells x:=[(.int .u32 x.v)]
 get l:=match l with
  | [.int .u32 v1]=>some ⟨v1⟩
  | _=>none
 ok l c h:=by
  split at h
  ·injection h with h;subst h;rfl
  ·cases h
structure T_pixel_Color where
 e0:Int
 e1:Int
 e2:Int
 e3:Int
def T_pixel_Color.rep:Rep where
 T:=T_pixel_Color
 cells x:=[(.int .u8 x.e0),(.int .u8 x.e1),(.int .u8 x.e2),(.int .u8 x.e3)]
 get l:=match l with
  | [.int .u8 v1,.int .u8 v2,.int .u8 v3,.int .u8 v4]=>some ⟨v1,v2,v3,v4⟩
  | _=>none
 ok l c h:=by
  split at h
  ·injection h with h;subst h;rfl
  ·cases h
structure T_png_file where
 Head:T_png_Head
 palette:Slc
 trans:Slc
 hasPalette:Bool
 hasTr:Bool
 data:Slc
 hasData:Bool
 wasData:Bool
def T_png_file.rep:Rep where
 T:=T_png_file
 cells x:=[(.int .i64 x.Head.W),(.int .i64 x.Head.H),(.int .i64 x.Head.Depth),(.int .i64 x.Head.Color),(.int .i64 x.Head.Lace),(.slice x.palette.a x.palette.n x.palette.c),(.slice x.trans.a x.trans.n x.trans.c),(.bool x.hasPalette),(.bool x.hasTr),(.slice x.data.a x.data.n x.data.c),(.bool x.hasData),(.bool x.wasData)]
 get l:=match l with
  | [.int .i64 v1,.int .i64 v2,.int .i64 v3,.int .i64 v4,.int .i64 v5,.slice v6a v6n v6c,.slice v7a v7n v7c,.bool v8,.bool v9,.slice v10a v10n v10c,.bool v11,.bool v12]=>some ⟨⟨v1,v2,v3,v4,v5⟩,⟨v6a,v6n,v6c⟩,⟨v7a,v7n,v7c⟩,v8,v9,⟨v10a,v10n,v10c⟩,v11,v12⟩
  | _=>none
 ok l c h:=by
  split at h
  ·injection h with h;subst h;rfl
  ·cases h
structure T_base64_Decoder where
 v:Int
 n:Int
 fill:Int
 over:Bool
 bad:Bool
def T_base64_Decoder.rep:Rep where
 T:=T_base64_Decoder
 cells x:=[(.int .u32 x.v),(.int .i64 x.n),(.int .i64 x.fill),(.bool x.over),(.bool x.bad)]
 get l:=match l with
  | [.int .u32 v1,.int .i64 v2,.int .i64 v3,.bool v4,.bool v5]=>some ⟨v1,v2,v3,v4,v5⟩
  | _=>none
 ok l c h:=by
  split at h
  ·injection h with h;subst h;rfl
  ·cases h
structure T_q3_Decoder where
 Wait:Slc
 Last:Bool
 Bad:Bool
def T_q3_Decoder.rep:Rep where
 T:=T_q3_Decoder
 cells x:=[(.slice x.Wait.a x.Wait.n x.Wait.c),(.bool x.Last),(.bool x.Bad)]
 get l:=match l with
  | [.slice v1a v1n v1c,.bool v2,.bool v3]=>some ⟨⟨v1a,v1n,v1c⟩,v2,v3⟩
  | _=>none
 ok l c h:=by
  split at h
  ·injection h with h;subst h;rfl
  ·cases h
structure T_sums_Adler where
 a:Int
 b:Int
def T_sums_Adler.rep:Rep where
 T:=T_sums_Adler
 cells x:=[(.int .u32 x.a),(.int .u32 x.b)]
 get l:=match l with
  | [.int .u32 v1,.int .u32 v2]=>some ⟨v1,v2⟩
  | _=>none
 ok l c h:=by
  split at h
  ·injection h with h;subst h;rfl
  ·cases h
structure T_zlib_Decoder where
 Decoder:Option Addr
 head:Slc
 tail:Slc
 sum:Value
 over:Int
 failed:Int
def T_zlib_Decoder.rep:Rep where
 T:=T_zlib_Decoder
 cells x:=[(.pointer x.Decoder),(.slice x.head.a x.head.n x.head.c),(.slice x.tail.a x.tail.n x.tail.c),x.sum,(.int .i64 x.over),(.int .i64 x.failed)]
 get l:=match l with
  | [.pointer v1,.slice v2a v2n v2c,.slice v3a v3n v3c,v4,.int .i64 v5,.int .i64 v6]=>some ⟨v1,⟨v2a,v2n,v2c⟩,⟨v3a,v3n,v3c⟩,v4,v5,v6⟩
  | _=>none
 ok l c h:=by
  split at h
  ·injection h with h;subst h;rfl
  ·cases h
structure T_q1_Writer where
 L:Slc
def T_q1_Writer.rep:Rep where
 T:=T_q1_Writer
 cells x:=[(.slice x.L.a x.L.n x.L.c)]
 get l:=match l with
  | [.slice v1a v1n v1c]=>some ⟨⟨v1a,v1n,v1c⟩⟩
  | _=>none
 ok l c h:=by
  split at h
  ·injection h with h;subst h;rfl
  ·cases h
structure T_16_int where
 e0:Int
 e1:Int
 e2:Int
 e3:Int
 e4:Int
 e5:Int
 e6:Int
 e7:Int
 e8:Int
 e9:Int
 e10:Int
 e11:Int
 e12:Int
 e13:Int
 e14:Int
 e15:Int
def T_16_int.rep:Rep where
 T:=T_16_int
 cells x:=[(.int .i64 x.e0),(.int .i64 x.e1),(.int .i64 x.e2),(.int .i64 x.e3),(.int .i64 x.e4),(.int .i64 x.e5),(.int .i64 x.e6),(.int .i64 x.e7),(.int .i64 x.e8),(.int .i64 x.e9),(.int .i64 x.e10),(.int .i64 x.e11),(.int .i64 x.e12),(.int .i64 x.e13),(.int .i64 x.e14),(.int .i64 x.e15)]
 get l:=match l with
  | [.int .i64 v1,.int .i64 v2,.int .i64 v3,.int .i64 v4,.int .i64 v5,.int .i64 v6,.int .i64 v7,.int .i64 v8,.int .i64 v9,.int .i64 v10,.int .i64 v11,.int .i64 v12,.int .i64 v13,.int .i64 v14,.int .i64 v15,.int .i64 v16]=>some ⟨v1,v2,v3,v4,v5,v6,v7,v8,v9,v10,v11,v12,v13,v14,v15,v16⟩
  | _=>none
 ok l c h:=by
  split at h
  ·injection h with h;subst h;rfl
  ·cases h
structure T_huff_Table where
 count:T_16_int
 sorted:Slc
 codes:Slc
 lengths:Slc
 last:Int
def T_huff_Table.rep:Rep where
 T:=T_huff_Table
 cells x:=[(.int .i64 x.count.e0),(.int .i64 x.count.e1),(.int .i64 x.count.e2),(.int .i64 x.count.e3),(.int .i64 x.count.e4),(.int .i64 x.count.e5),(.int .i64 x.count.e6),(.int .i64 x.count.e7),(.int .i64 x.count.e8),(.int .i64 x.count.e9),(.int .i64 x.count.e10),(.int .i64 x.count.e11),(.int .i64 x.count.e12),(.int .i64 x.count.e13),(.int .i64 x.count.e14),(.int .i64 x.count.e15),(.slice x.sorted.a x.sorted.n x.sorted.c),(.slice x.codes.a x.codes.n x.codes.c),(.slice x.lengths.a x.lengths.n x.lengths.c),(.int .i64 x.last)]
 get l:=match l with
  | [.int .i64 v1,.int .i64 v2,.int .i64 v3,.int .i64 v4,.int .i64 v5,.int .i64 v6,.int .i64 v7,.int .i64 v8,.int .i64 v9,.int .i64 v10,.int .i64 v11,.int .i64 v12,.int .i64 v13,.int .i64 v14,.int .i64 v15,.int .i64 v16,.slice v17a v17n v17c,.slice v18a v18n v18c,.slice v19a v19n v19c,.int .i64 v20]=>some ⟨⟨v1,v2,v3,v4,v5,v6,v7,v8,v9,v10,v11,v12,v13,v14,v15,v16⟩,⟨v17a,v17n,v17c⟩,⟨v18a,v18n,v18c⟩,⟨v19a,v19n,v19c⟩,v20⟩
  | _=>none
 ok l c h:=by
  split at h
  ·injection h with h;subst h;rfl
  ·cases h
structure T_bits_Writer where
 b:Slc
 held:Int
 n:Int
def T_bits_Writer.rep:Rep where
 T:=T_bits_Writer
 cells x:=[(.slice x.b.a x.b.n x.b.c),(.int .u64 x.held),(.int .i64 x.n)]
 get l:=match l with
  | [.slice v1a v1n v1c,.int .u64 v2,.int .i64 v3]=>some ⟨⟨v1a,v1n,v1c⟩,v2,v3⟩
  | _=>none
 ok l c h:=by
  split at h
  ·injection h with h;subst h;rfl
  ·cases h
structure T_inflate_Decoder where
 most:Int
 state:Int
 last:Bool
 wait:Slc
 skip:Int
 left:Int
 signs:Option Addr
 dists:Option Addr
 ring:Slc
 total:Int
 told:Int
 took:Int
 given:Int
 failed:Int
 out:Slc
def T_inflate_Decoder.rep:Rep where
 T:=T_inflate_Decoder
 cells x:=[(.int .i64 x.most),(.int .i64 x.state),(.bool x.last),(.slice x.wait.a x.wait.n x.wait.c),(.int .i64 x.skip),(.int .i64 x.left),(.pointer x.signs),(.pointer x.dists),(.slice x.ring.a x.ring.n x.ring.c),(.int .i64 x.total),(.int .i64 x.told),(.int .i64 x.took),(.int .i64 x.given),(.int .i64 x.failed),(.slice x.out.a x.out.n x.out.c)]
 get l:=match l with
  | [.int .i64 v1,.int .i64 v2,.bool v3,.slice v4a v4n v4c,.int .i64 v5,.int .i64 v6,.pointer v7,.pointer v8,.slice v9a v9n v9c,.int .i64 v10,.int .i64 v11,.int .i64 v12,.int .i64 v13,.int .i64 v14,.slice v15a v15n v15c]=>some ⟨v1,v2,v3,⟨v4a,v4n,v4c⟩,v5,v6,v7,v8,⟨v9a,v9n,v9c⟩,v10,v11,v12,v13,v14,⟨v15a,v15n,v15c⟩⟩
  | _=>none
 ok l c h:=by
  split at h
  ·injection h with h;subst h;rfl
  ·cases h
structure T_q4_Table where
 L:Slc
 C:Slc
def T_q4_Table.rep:Rep where
 T:=T_q4_Table
 cells x:=[(.slice x.L.a x.L.n x.L.c),(.slice x.C.a x.C.n x.C.c)]
 get l:=match l with
  | [.slice v1a v1n v1c,.slice v2a v2n v2c]=>some ⟨⟨v1a,v1n,v1c⟩,⟨v2a,v2n,v2c⟩⟩
  | _=>none
 ok l c h:=by
  split at h
  ·injection h with h;subst h;rfl
  ·cases h
structure T_q1_Reader where
 B:Slc
 At:Int
def T_q1_Reader.rep:Rep where
 T:=T_q1_Reader
 cells x:=[(.slice x.B.a x.B.n x.B.c),(.int .i64 x.At)]
 get l:=match l with
  | [.slice v1a v1n v1c,.int .i64 v2]=>some ⟨⟨v1a,v1n,v1c⟩,v2⟩
  | _=>none
 ok l c h:=by
  split at h
  ·injection h with h;subst h;rfl
  ·cases h
structure T_q5_state where
 r:Option Addr
 out:Slc
 most:Int
def T_q5_state.rep:Rep where
 T:=T_q5_state
 cells x:=[(.pointer x.r),(.slice x.out.a x.out.n x.out.c),(.int .i64 x.most)]
 get l:=match l with
  | [.pointer v1,.slice v2a v2n v2c,.int .i64 v3]=>some ⟨v1,⟨v2a,v2n,v2c⟩,v3⟩
  | _=>none
 ok l c h:=by
  split at h
  ·injection h with h;subst h;rfl
  ·cases h
structure T_bits_Reader where
 b:Slc
 at_:Int
def T_bits_Reader.rep:Rep where
 T:=T_bits_Reader
 cells x:=[(.slice x.b.a x.b.n x.b.c),(.int .i64 x.at_)]
 get l:=match l with
  | [.slice v1a v1n v1c,.int .i64 v2]=>some ⟨⟨v1a,v1n,v1c⟩,v2⟩
  | _=>none
 ok l c h:=by
  split at h
  ·injection h with h;subst h;rfl
  ·cases h
structure T_19_int where
 e0:Int
 e1:Int
 e2:Int
 e3:Int
 e4:Int
 e5:Int
 e6:Int
 e7:Int
 e8:Int
 e9:Int
 e10:Int
 e11:Int
 e12:Int
 e13:Int
 e14:Int
 e15:Int
 e16:Int
 e17:Int
 e18:Int
def T_19_int.rep:Rep where
 T:=T_19_int
 cells x:=[(.int .i64 x.e0),(.int .i64 x.e1),(.int .i64 x.e2),(.int .i64 x.e3),(.int .i64 x.e4),(.int .i64 x.e5),(.int .i64 x.e6),(.int .i64 x.e7),(.int .i64 x.e8),(.int .i64 x.e9),(.int .i64 x.e10),(.int .i64 x.e11),(.int .i64 x.e12),(.int .i64 x.e13),(.int .i64 x.e14),(.int .i64 x.e15),(.int .i64 x.e16),(.int .i64 x.e17),(.int .i64 x.e18)]
 get l:=match l with
  | [.int .i64 v1,.int .i64 v2,.int .i64 v3,.int .i64 v4,.int .i64 v5,.int .i64 v6,.int .i64 v7,.int .i64 v8,.int .i64 v9,.int .i64 v10,.int .i64 v11,.int .i64 v12,.int .i64 v13,.int .i64 v14,.int .i64 v15,.int .i64 v16,.int .i64 v17,.int .i64 v18,.int .i64 v19]=>some ⟨v1,v2,v3,v4,v5,v6,v7,v8,v9,v10,v11,v12,v13,v14,v15,v16,v17,v18,v19⟩
  | _=>none
 ok l c h:=by
  split at h
  ·injection h with h;subst h;rfl
  ·cases h
structure T_16_uint32 where
 e0:Int
 e1:Int
 e2:Int
 e3:Int
 e4:Int
 e5:Int
 e6:Int
 e7:Int
 e8:Int
 e9:Int
 e10:Int
 e11:Int
 e12:Int
 e13:Int
 e14:Int
 e15:Int
def T_16_uint32.rep:Rep where
 T:=T_16_uint32
 cells x:=[(.int .u32 x.e0),(.int .u32 x.e1),(.int .u32 x.e2),(.int .u32 x.e3),(.int .u32 x.e4),(.int .u32 x.e5),(.int .u32 x.e6),(.int .u32 x.e7),(.int .u32 x.e8),(.int .u32 x.e9),(.int .u32 x.e10),(.int .u32 x.e11),(.int .u32 x.e12),(.int .u32 x.e13),(.int .u32 x.e14),(.int .u32 x.e15)]
 get l:=match l with
  | [.int .u32 v1,.int .u32 v2,.int .u32 v3,.int .u32 v4,.int .u32 v5,.int .u32 v6,.int .u32 v7,.int .u32 v8,.int .u32 v9,.int .u32 v10,.int .u32 v11,.int .u32 v12,.int .u32 v13,.int .u32 v14,.int .u32 v15,.int .u32 v16]=>some ⟨v1,v2,v3,v4,v5,v6,v7,v8,v9,v10,v11,v12,v13,v14,v15,v16⟩
  | _=>none
 ok l c h:=by
  split at h
  ·injection h with h;subst h;rfl
  ·cases h
noncomputable abbrev PG:Program:=Tryz.prog
abbrev ty_int:TypeId:=3
abbrev ty_uint8:TypeId:=5
abbrev ty_string:TypeId:=9
abbrev ty_sl_uint8:TypeId:=22
abbrev ty_sl_png_Chunk:TypeId:=25
abbrev ty_png_Head:TypeId:=33
abbrev ty_api_Matrix:TypeId:=41
abbrev ty_png_Chunk:TypeId:=57
abbrev ty_keys_Keys:TypeId:=60
abbrev ty_sl_sl_uint8:TypeId:=61
abbrev ty_sl_int:TypeId:=81
abbrev ty_uint32:TypeId:=97
abbrev ty_p_sums_Crc:TypeId:=99
abbrev ty_filter_Pass:TypeId:=107
abbrev ty_pixel_Color:TypeId:=109
abbrev ty_p_png_file:TypeId:=115
abbrev ty_png_file:TypeId:=119
abbrev ty_load_Loader:TypeId:=141
abbrev ty_p_sums_Adler:TypeId:=160
abbrev ty_sums_Crc:TypeId:=172
abbrev ty_base64_Decoder:TypeId:=196
abbrev ty_sums_Adler:TypeId:=217
abbrev ty_zlib_Decoder:TypeId:=231
abbrev ty_sl_uint32:TypeId:=243
abbrev ty_huff_Table:TypeId:=246
abbrev ty_bits_Writer:TypeId:=249
abbrev ty_inflate_Decoder:TypeId:=251
abbrev ty_bits_Reader:TypeId:=272
abbrev ty_19_int:TypeId:=277
abbrev ty_16_uint32:TypeId:=300
abbrev fn_png_Encode_1:Nat:=60
abbrev fn_png_Chunks_1:Nat:=75
abbrev fn_png_Head_need_1:Nat:=112
abbrev fn_png_file_pixels_1:Nat:=119
abbrev fn_pixel_FromRGBA:Nat:=139
abbrev fn_pixel_FromRGB:Nat:=140
abbrev fn_slices_Chunk_byte_byte_1:Nat:=143
abbrev fn_png_letters_1:Nat:=202
def reg (t:TypeId):Option Rep:=match t with
 | 33=>some T_png_Head.rep
 | 37=>some T_png_Head.rep
 | 41=>some T_api_Matrix.rep
 | 47=>some T_api_Matrix.rep
 | 57=>some T_png_Chunk.rep
 | 101=>some T_png_Chunk.rep
 | 60=>some T_keys_Keys.rep
 | 67=>some T_keys_Keys.rep
 | 125=>some T_q9_file.rep
 | 107=>some T_q8_Pass.rep
 | 129=>some T_q8_Pass.rep
 | 108=>some T_4_uint8.rep
 | 172=>some T_sums_Crc.rep
 | 109=>some T_pixel_Color.rep
 | 119=>some T_png_file.rep
 | 196=>some T_base64_Decoder.rep
 | 143=>some T_q3_Decoder.rep
 | 217=>some T_sums_Adler.rep
 | 231=>some T_zlib_Decoder.rep
 | 239=>some T_q1_Writer.rep
 | 244=>some T_16_int.rep
 | 246=>some T_huff_Table.rep
 | 249=>some T_bits_Writer.rep
 | 251=>some T_inflate_Decoder.rep
 | 260=>some T_q4_Table.rep
 | 266=>some T_q1_Reader.rep
 | 268=>some T_q5_state.rep
 | 272=>some T_bits_Reader.rep
 | 277=>some T_19_int.rep
 | 300=>some T_16_uint32.rep
 | _=>none
def plainL:List Nat:=[2,3,4,5,6,7,8,9,10,11,12,13,14,15,16,17,18,19,20,21,22,23,24,25,26,27,28,29,30,31,32,33,34,35,36,37,38,39,40,41,42,43,44,45,46,47,48,49,50,51,52,53,54,55,56,57,58,59,60,61,62,63,64,65,66,67,68,69,70,71,72,73,74,75,76,77,78,79,80,81,82,83,84,85,86,87,88,89,90,91,92,93,94,95,96,97,98,99,100,101,102,103,104,105,106,107,108,109,110,111,112,113,114,115,116,117,118,119,120,121,122,123,124,125,126,127,128,129,130,131,132,133,134,135,136,137,138,139,140,141,142,143,144,145,146,147,148,149,150,151,152,153,154,155,156,157,158,159,160,161,162,163,164,165,166,167,168,169,170,171,172,173,174,175,176,177,178,179,180,181,182,183,184,185,186,187,188,189,190,191,192,193,194,195,196,197,198,199,200,201,202,203,204,205,206,207,208,209,210,211,212,213,215,216,217,218,219,220,221,222,223,224,225,226,227,228,229,230,231,232,233,234,235,236,237,254,255,256,257,258,259]
noncomputable def C:Cx:={ P:=Tryz.prog,reg:=reg,plain:=fun n=>plainL.elem n }
theorem C.plain_ok (g:Nat) (h:C.plain g=true):plainFn C.P g=true:=by
 have h':g∈plainL:=by simpa [C] using h
 have:plainL.all (fun g=>plainFn Tryz.prog g)=true:=by kernel_rfl
 exact List.all_eq_true.1 this g h'
theorem C.mixed:C.P.follows .mixedOrders=true:=by kernel_rfl
def c_p20_LoadImages (m:T_api_Matrix) (how:Int) (zip:Bool) (fixed:Bool) (w:World) (K:Bool→World→Prop):Prop :=Calls PG 12 #[(.agg #[(.int .i64 m.W),(.int .i64 m.H),(.slice m.P.a m.P.n m.P.c)]),(.int .i64 how),(.bool zip),(.bool fixed)] w fun e w'=>∃r0:Bool,e=.returned (.bool r0)∧K r0 w'
def c_png_Lay (l:Slc) (w:World) (K:Slc→World→Prop):Prop :=Calls PG 16 #[(.slice l.a l.n l.c)] w fun e w'=>∃r0:Slc,e=.returned (.slice r0.a r0.n r0.c)∧K r0 w'
def c_png_Check (hx:T_png_Head) (w:World) (K:Int→World→Prop):Prop :=Calls PG 19 #[(.agg #[(.int .i64 hx.W),(.int .i64 hx.H),(.int .i64 hx.Depth),(.int .i64 hx.Color),(.int .i64 hx.Lace)])] w fun e w'=>∃r0:Int,e=.returned (.int .i64 r0)∧K r0 w'
def c_png_Samples (color:Int) (w:World) (K:Int→World→Prop):Prop :=Calls PG 21 #[(.int .i64 color)] w fun e w'=>∃r0:Int,e=.returned (.int .i64 r0)∧K r0 w'
def c_png_Encode (m:T_api_Matrix) (lace:Bool) (kind:Int) (w:World) (K:Slc→World→Prop):Prop :=Calls PG 24 #[(.agg #[(.int .i64 m.W),(.int .i64 m.H),(.slice m.P.a m.P.n m.P.c)]),(.bool lace),(.int .i64 kind)] w fun e w'=>∃r0:Slc,e=.returned (.slice r0.a r0.n r0.c)∧K r0 w'
def c_png_Decode (b:Slc) (pixels:Int) (w:World) (K:T_api_Matrix→Int→World→Prop):Prop :=Calls PG 25 #[(.slice b.a b.n b.c),(.int .i64 pixels)] w fun e w'=>∃r0:T_api_Matrix,∃r1:Int,e=.returned (.tuple #[(.agg #[(.int .i64 r0.W),(.int .i64 r0.H),(.slice r0.P.a r0.P.n r0.P.c)]),(.int .i64 r1)])∧K r0 r1 w'
def c_png_Chunks (b:Slc) (w:World) (K:Slc→Int→World→Prop):Prop :=Calls PG 29 #[(.slice b.a b.n b.c)] w fun e w'=>∃r0:Slc,∃r1:Int,e=.returned (.tuple #[(.slice r0.a r0.n r0.c),(.int .i64 r1)])∧K r0 r1 w'
def c_p20_known  (w:World) (K:Bool→World→Prop):Prop :=Calls PG 30 #[] w fun e w'=>∃r0:Bool,e=.returned (.bool r0)∧K r0 w'
def c_load_Needs (k:T_keys_Keys) (w:World) (K:Int→Int→World→Prop):Prop :=Calls PG 32 #[(.agg #[(.int .u8 k.Action),(.int .u8 k.Medium),(.int .u8 k.Zip),(.int .u8 k.What),(.int .i64 k.Quiet),(.int .i64 k.Format),(.int .i64 k.W),(.int .i64 k.H),(.int .i64 k.Id),(.int .i64 k.Number),(.int .i64 k.Place),(.int .i64 k.More),(.int .i64 k.X),(.int .i64 k.Y),(.int .i64 k.PW),(.int .i64 k.PH),(.int .i64 k.DX),(.int .i64 k.DY),(.int .i64 k.Rows),(.int .i64 k.Cols),(.int .i64 k.Z),(.int .i64 k.Stay)])] w fun e w'=>∃r0:Int,∃r1:Int,e=.returned (.tuple #[(.int .i64 r0),(.int .i64 r1)])∧K r0 r1 w'
def c_load_New (k:T_keys_Keys) (room:Int) (w:World) (K:Option Addr→Int→World→Prop):Prop :=Calls PG 34 #[(.agg #[(.int .u8 k.Action),(.int .u8 k.Medium),(.int .u8 k.Zip),(.int .u8 k.What),(.int .i64 k.Quiet),(.int .i64 k.Format),(.int .i64 k.W),(.int .i64 k.H),(.int .i64 k.Id),(.int .i64 k.Number),(.int .i64 k.Place),(.int .i64 k.More),(.int .i64 k.X),(.int .i64 k.Y),(.int .i64 k.PW),(.int .i64 k.PH),(.int .i64 k.DX),(.int .i64 k.DY),(.int .i64 k.Rows),(.int .i64 k.Cols),(.int .i64 k.Z),(.int .i64 k.Stay)]),(.int .i64 room)] w fun e w'=>∃r0:Option Addr,∃r1:Int,e=.returned (.tuple #[(.pointer r0),(.int .i64 r1)])∧K r0 r1 w'
def c_load_Loader_Add (l:Option Addr) (text:Slc) (w:World) (K:Int→World→Prop):Prop :=Calls PG 36 #[(.pointer l),(.slice text.a text.n text.c)] w fun e w'=>∃r0:Int,e=.returned (.int .i64 r0)∧K r0 w'
def c_load_Loader_Held (l:Option Addr) (w:World) (K:Int→World→Prop):Prop :=Calls PG 38 #[(.pointer l)] w fun e w'=>∃r0:Int,e=.returned (.int .i64 r0)∧K r0 w'
def c_load_Loader_End (l:Option Addr) (w:World) (K:T_api_Matrix→Int→World→Prop):Prop :=Calls PG 40 #[(.pointer l)] w fun e w'=>∃r0:T_api_Matrix,∃r1:Int,e=.returned (.tuple #[(.agg #[(.int .i64 r0.W),(.int .i64 r0.H),(.slice r0.P.a r0.P.n r0.P.c)]),(.int .i64 r1)])∧K r0 r1 w'
def c_keys_First  (w:World) (K:T_keys_Keys→World→Prop):Prop :=Calls PG 43 #[] w fun e w'=>∃r0:T_keys_Keys,e=.returned (.agg #[(.int .u8 r0.Action),(.int .u8 r0.Medium),(.int .u8 r0.Zip),(.int .u8 r0.What),(.int .i64 r0.Quiet),(.int .i64 r0.Format),(.int .i64 r0.W),(.int .i64 r0.H),(.int .i64 r0.Id),(.int .i64 r0.Number),(.int .i64 r0.Place),(.int .i64 r0.More),(.int .i64 r0.X),(.int .i64 r0.Y),(.int .i64 r0.PW),(.int .i64 r0.PH),(.int .i64 r0.DX),(.int .i64 r0.DY),(.int .i64 r0.Rows),(.int .i64 r0.Cols),(.int .i64 r0.Z),(.int .i64 r0.Stay)])∧K r0 w'
def c_base64_Encode (b:Slc) (w:World) (K:Slc→World→Prop):Prop :=Calls PG 44 #[(.slice b.a b.n b.c)] w fun e w'=>∃r0:Slc,e=.returned (.slice r0.a r0.n r0.c)∧K r0 w'
def c_zlib_Pack (b:Slc) (fixed:Bool) (w:World) (K:Slc→World→Prop):Prop :=Calls PG 45 #[(.slice b.a b.n b.c),(.bool fixed)] w fun e w'=>∃r0:Slc,e=.returned (.slice r0.a r0.n r0.c)∧K r0 w'
def c_png_sign  (w:World) (K:Slc→World→Prop):Prop :=Calls PG 50 #[] w fun e w'=>∃r0:Slc,e=.returned (.slice r0.a r0.n r0.c)∧K r0 w'
def c_slices_Concat_byte_byte (slices:Slc) (w:World) (K:Slc→World→Prop):Prop :=Calls PG 51 #[(.slice slices.a slices.n slices.c)] w fun e w'=>∃r0:Slc,e=.returned (.slice r0.a r0.n r0.c)∧K r0 w'
def c_png_big (v:Int) (w:World) (K:Slc→World→Prop):Prop :=Calls PG 52 #[(.int .u32 v)] w fun e w'=>∃r0:Slc,e=.returned (.slice r0.a r0.n r0.c)∧K r0 w'
def c_sums_Of_sums_Crc (s:Option Addr) (parts:Slc) (w:World) (K:Int→World→Prop):Prop :=Calls PG 53 #[(.pointer s),(.slice parts.a parts.n parts.c)] w fun e w'=>∃r0:Int,e=.returned (.int .u32 r0)∧K r0 w'
def c_sums_NewCrc  (w:World) (K:Option Addr→World→Prop):Prop :=Calls PG 54 #[] w fun e w'=>∃r0:Option Addr,e=.returned (.pointer r0)∧K r0 w'
def c_slices_Contains_int_int (s:Slc) (v:Int) (w:World) (K:Bool→World→Prop):Prop :=Calls PG 58 #[(.slice s.a s.n s.c),(.int .i64 v)] w fun e w'=>∃r0:Bool,e=.returned (.bool r0)∧K r0 w'
def c_png_Head_rows (hx:T_png_Head) (f:Value) (w:World) (K:Bool→World→Prop):Prop :=Calls PG 59 #[(.agg #[(.int .i64 hx.W),(.int .i64 hx.H),(.int .i64 hx.Depth),(.int .i64 hx.Color),(.int .i64 hx.Lace)]),f] w fun e w'=>∃r0:Bool,e=.returned (.bool r0)∧K r0 w'
def c_png_Encode_1 (p:T_q8_Pass) (y:Int) (wx:Int) (c0:Addr) (c1:Addr) (c2:Addr) (c3:Addr) (w:World) (K:Bool→World→Prop):Prop :=Calls PG 60 #[(.agg #[(.int .i64 p.X),(.int .i64 p.Y),(.int .i64 p.DX),(.int .i64 p.DY)]),(.int .i64 y),(.int .i64 wx),(.pointer (some c0)),(.pointer (some c1)),(.pointer (some c2)),(.pointer (some c3))] w fun e w'=>∃r0:Bool,e=.returned (.bool r0)∧K r0 w'
def c_pixel_At (m:T_api_Matrix) (x:Int) (y:Int) (w:World) (K:T_pixel_Color→Bool→World→Prop):Prop :=Calls PG 61 #[(.agg #[(.int .i64 m.W),(.int .i64 m.H),(.slice m.P.a m.P.n m.P.c)]),(.int .i64 x),(.int .i64 y)] w fun e w'=>∃r0:T_pixel_Color,∃r1:Bool,e=.returned (.tuple #[(.agg #[(.int .u8 r0.e0),(.int .u8 r0.e1),(.int .u8 r0.e2),(.int .u8 r0.e3)]),(.bool r1)])∧K r0 r1 w'
def c_filter_Do (kind:Int) (row:Slc) (ahead:Slc) (step:Int) (w:World) (K:Slc→Int→World→Prop):Prop :=Calls PG 62 #[(.int .i64 kind),(.slice row.a row.n row.c),(.slice ahead.a ahead.n ahead.c),(.int .i64 step)] w fun e w'=>∃r0:Slc,∃r1:Int,e=.returned (.tuple #[(.slice r0.a r0.n r0.c),(.int .i64 r1)])∧K r0 r1 w'
def c_png_read (b:Slc) (pixels:Int) (w:World) (K:Option Addr→Int→World→Prop):Prop :=Calls PG 63 #[(.slice b.a b.n b.c),(.int .i64 pixels)] w fun e w'=>∃r0:Option Addr,∃r1:Int,e=.returned (.tuple #[(.pointer r0),(.int .i64 r1)])∧K r0 r1 w'
def c_png_Head_need (hx:T_png_Head) (w:World) (K:Int→World→Prop):Prop :=Calls PG 64 #[(.agg #[(.int .i64 hx.W),(.int .i64 hx.H),(.int .i64 hx.Depth),(.int .i64 hx.Color),(.int .i64 hx.Lace)])] w fun e w'=>∃r0:Int,e=.returned (.int .i64 r0)∧K r0 w'
def c_zlib_Unpack (b:Slc) (most:Int) (w:World) (K:Slc→Int→Int→World→Prop):Prop :=Calls PG 65 #[(.slice b.a b.n b.c),(.int .i64 most)] w fun e w'=>∃r0:Slc,∃r1:Int,∃r2:Int,e=.returned (.tuple #[(.slice r0.a r0.n r0.c),(.int .i64 r1),(.int .i64 r2)])∧K r0 r1 r2 w'
def c_png_file_pixels (f:Option Addr) (b:Slc) (w:World) (K:T_api_Matrix→Int→World→Prop):Prop :=Calls PG 66 #[(.pointer f),(.slice b.a b.n b.c)] w fun e w'=>∃r0:T_api_Matrix,∃r1:Int,e=.returned (.tuple #[(.agg #[(.int .i64 r0.W),(.int .i64 r0.H),(.slice r0.P.a r0.P.n r0.P.c)]),(.int .i64 r1)])∧K r0 r1 w'
def c_png_each (b:Slc) (f:Value) (w:World) (K:Int→World→Prop):Prop :=Calls PG 72 #[(.slice b.a b.n b.c),f] w fun e w'=>∃r0:Int,e=.returned (.int .i64 r0)∧K r0 w'
def c_png_head (c:T_png_Chunk) (w:World) (K:T_png_Head→Int→World→Prop):Prop :=Calls PG 74 #[(.agg #[(.string c.Kind),(.slice c.Data.a c.Data.n c.Data.c)])] w fun e w'=>∃r0:T_png_Head,∃r1:Int,e=.returned (.tuple #[(.agg #[(.int .i64 r0.W),(.int .i64 r0.H),(.int .i64 r0.Depth),(.int .i64 r0.Color),(.int .i64 r0.Lace)]),(.int .i64 r1)])∧K r0 r1 w'
def c_png_Chunks_1 (c:T_png_Chunk) (c0:Addr) (w:World) (K:Bool→World→Prop):Prop :=Calls PG 75 #[(.agg #[(.string c.Kind),(.slice c.Data.a c.Data.n c.Data.c)]),(.pointer (some c0))] w fun e w'=>∃r0:Bool,e=.returned (.bool r0)∧K r0 w'
def c_load_isSide (n:Int) (w:World) (K:Bool→World→Prop):Prop :=Calls PG 76 #[(.int .i64 n)] w fun e w'=>∃r0:Bool,e=.returned (.bool r0)∧K r0 w'
def c_base64_NewDecoder  (w:World) (K:Option Addr→World→Prop):Prop :=Calls PG 77 #[] w fun e w'=>∃r0:Option Addr,e=.returned (.pointer r0)∧K r0 w'
def c_base64_Decoder_Put (d:Option Addr) (c:Int) (w:World) (K:Slc→Int→World→Prop):Prop :=Calls PG 78 #[(.pointer d),(.int .u8 c)] w fun e w'=>∃r0:Slc,∃r1:Int,e=.returned (.tuple #[(.slice r0.a r0.n r0.c),(.int .i64 r1)])∧K r0 r1 w'
def c_load_Loader_take (l:Option Addr) (b:Slc) (w:World) (K:Int→World→Prop):Prop :=Calls PG 79 #[(.pointer l),(.slice b.a b.n b.c)] w fun e w'=>∃r0:Int,e=.returned (.int .i64 r0)∧K r0 w'
def c_load_Loader_fail (l:Option Addr) (e:Int) (w:World) (K:World→Prop):Prop :=Calls PG 80 #[(.pointer l),(.int .i64 e)] w fun e w'=>e=.returned (.tuple #[])∧K w'
def c_base64_Decoder_End (d:Option Addr) (w:World) (K:Slc→Int→World→Prop):Prop :=Calls PG 84 #[(.pointer d)] w fun e w'=>∃r0:Slc,∃r1:Int,e=.returned (.tuple #[(.slice r0.a r0.n r0.c),(.int .i64 r1)])∧K r0 r1 w'
def c_load_Loader_drop (l:Option Addr) (w:World) (K:World→Prop):Prop :=Calls PG 85 #[(.pointer l)] w fun e w'=>e=.returned (.tuple #[])∧K w'
def c_load_Loader_unpack (l:Option Addr) (b:Slc) (w:World) (K:Slc→Int→World→Prop):Prop :=Calls PG 86 #[(.pointer l),(.slice b.a b.n b.c)] w fun e w'=>∃r0:Slc,∃r1:Int,e=.returned (.tuple #[(.slice r0.a r0.n r0.c),(.int .i64 r1)])∧K r0 r1 w'
def c_load_Loader_image (l:Option Addr) (b:Slc) (w:World) (K:T_api_Matrix→Int→World→Prop):Prop :=Calls PG 87 #[(.pointer l),(.slice b.a b.n b.c)] w fun e w'=>∃r0:T_api_Matrix,∃r1:Int,e=.returned (.tuple #[(.agg #[(.int .i64 r0.W),(.int .i64 r0.H),(.slice r0.P.a r0.P.n r0.P.c)]),(.int .i64 r1)])∧K r0 r1 w'
def c_slices_Chunk_byte_byte (s:Slc) (n:Int) (w:World) (K:Value→World→Prop):Prop :=Calls PG 92 #[(.slice s.a s.n s.c),(.int .i64 n)] w fun e w'=>∃r0:Value,e=.returned r0∧K r0 w'
def c_inflate_Store (b:Slc) (w:World) (K:Slc→World→Prop):Prop :=Calls PG 93 #[(.slice b.a b.n b.c)] w fun e w'=>∃r0:Slc,e=.returned (.slice r0.a r0.n r0.c)∧K r0 w'
def c_inflate_Fixed (b:Slc) (w:World) (K:Slc→World→Prop):Prop :=Calls PG 94 #[(.slice b.a b.n b.c)] w fun e w'=>∃r0:Slc,e=.returned (.slice r0.a r0.n r0.c)∧K r0 w'
def c_sums_Of_sums_Adler (s:Option Addr) (parts:Slc) (w:World) (K:Int→World→Prop):Prop :=Calls PG 95 #[(.pointer s),(.slice parts.a parts.n parts.c)] w fun e w'=>∃r0:Int,e=.returned (.int .u32 r0)∧K r0 w'
def c_sums_NewAdler  (w:World) (K:Option Addr→World→Prop):Prop :=Calls PG 96 #[] w fun e w'=>∃r0:Option Addr,e=.returned (.pointer r0)∧K r0 w'
def c_slices_Grow_byte_byte (s:Slc) (n:Int) (w:World) (K:Slc→World→Prop):Prop :=Calls PG 102 #[(.slice s.a s.n s.c),(.int .i64 n)] w fun e w'=>∃r0:Slc,e=.returned (.slice r0.a r0.n r0.c)∧K r0 w'
def c_slices_Index_int_int (s:Slc) (v:Int) (w:World) (K:Int→World→Prop):Prop :=Calls PG 103 #[(.slice s.a s.n s.c),(.int .i64 v)] w fun e w'=>∃r0:Int,e=.returned (.int .i64 r0)∧K r0 w'
def c_png_Head_passes (hx:T_png_Head) (w:World) (K:Slc→World→Prop):Prop :=Calls PG 104 #[(.agg #[(.int .i64 hx.W),(.int .i64 hx.H),(.int .i64 hx.Depth),(.int .i64 hx.Color),(.int .i64 hx.Lace)])] w fun e w'=>∃r0:Slc,e=.returned (.slice r0.a r0.n r0.c)∧K r0 w'
def c_filter_Size (p:T_q8_Pass) (wx:Int) (hx:Int) (w:World) (K:Int→Int→World→Prop):Prop :=Calls PG 105 #[(.agg #[(.int .i64 p.X),(.int .i64 p.Y),(.int .i64 p.DX),(.int .i64 p.DY)]),(.int .i64 wx),(.int .i64 hx)] w fun e w'=>∃r0:Int,∃r1:Int,e=.returned (.tuple #[(.int .i64 r0),(.int .i64 r1)])∧K r0 r1 w'
def c_pixel_in (m:T_api_Matrix) (x:Int) (y:Int) (w:World) (K:Bool→World→Prop):Prop :=Calls PG 106 #[(.agg #[(.int .i64 m.W),(.int .i64 m.H),(.slice m.P.a m.P.n m.P.c)]),(.int .i64 x),(.int .i64 y)] w fun e w'=>∃r0:Bool,e=.returned (.bool r0)∧K r0 w'
def c_pixel_at (m:T_api_Matrix) (x:Int) (y:Int) (w:World) (K:T_pixel_Color→World→Prop):Prop :=Calls PG 107 #[(.agg #[(.int .i64 m.W),(.int .i64 m.H),(.slice m.P.a m.P.n m.P.c)]),(.int .i64 x),(.int .i64 y)] w fun e w'=>∃r0:T_pixel_Color,e=.returned (.agg #[(.int .u8 r0.e0),(.int .u8 r0.e1),(.int .u8 r0.e2),(.int .u8 r0.e3)])∧K r0 w'
def c_filter_check (kind:Int) (row:Slc) (ahead:Slc) (step:Int) (w:World) (K:Bool→World→Prop):Prop :=Calls PG 108 #[(.int .i64 kind),(.slice row.a row.n row.c),(.slice ahead.a ahead.n ahead.c),(.int .i64 step)] w fun e w'=>∃r0:Bool,e=.returned (.bool r0)∧K r0 w'
def c_slices_Clone_byte_byte (s:Slc) (w:World) (K:Slc→World→Prop):Prop :=Calls PG 109 #[(.slice s.a s.n s.c)] w fun e w'=>∃r0:Slc,e=.returned (.slice r0.a r0.n r0.c)∧K r0 w'
def c_filter_guess (kind:Int) (i:Int) (row:Slc) (ahead:Slc) (step:Int) (w:World) (K:Int→World→Prop):Prop :=Calls PG 110 #[(.int .i64 kind),(.int .i64 i),(.slice row.a row.n row.c),(.slice ahead.a ahead.n ahead.c),(.int .i64 step)] w fun e w'=>∃r0:Int,e=.returned (.int .u8 r0)∧K r0 w'
def c_png_file_take (f:Option Addr) (c:T_png_Chunk) (w:World) (K:Int→World→Prop):Prop :=Calls PG 111 #[(.pointer f),(.agg #[(.string c.Kind),(.slice c.Data.a c.Data.n c.Data.c)])] w fun e w'=>∃r0:Int,e=.returned (.int .i64 r0)∧K r0 w'
def c_png_Head_need_1 (x_:T_q8_Pass) (x_x:Int) (wx:Int) (c0:Addr) (c1:Addr) (w:World) (K:Bool→World→Prop):Prop :=Calls PG 112 #[(.agg #[(.int .i64 x_.X),(.int .i64 x_.Y),(.int .i64 x_.DX),(.int .i64 x_.DY)]),(.int .i64 x_x),(.int .i64 wx),(.pointer (some c0)),(.pointer (some c1))] w fun e w'=>∃r0:Bool,e=.returned (.bool r0)∧K r0 w'
def c_filter_Row (wx:Int) (samples:Int) (depth:Int) (w:World) (K:Int→World→Prop):Prop :=Calls PG 113 #[(.int .i64 wx),(.int .i64 samples),(.int .i64 depth)] w fun e w'=>∃r0:Int,e=.returned (.int .i64 r0)∧K r0 w'
def c_zlib_New (most:Int) (w:World) (K:Option Addr→Int→World→Prop):Prop :=Calls PG 114 #[(.int .i64 most)] w fun e w'=>∃r0:Option Addr,∃r1:Int,e=.returned (.tuple #[(.pointer r0),(.int .i64 r1)])∧K r0 r1 w'
def c_zlib_Decoder_Write (d:Option Addr) (b:Slc) (w:World) (K:Slc→Int→World→Prop):Prop :=Calls PG 115 #[(.pointer d),(.slice b.a b.n b.c)] w fun e w'=>∃r0:Slc,∃r1:Int,e=.returned (.tuple #[(.slice r0.a r0.n r0.c),(.int .i64 r1)])∧K r0 r1 w'
def c_zlib_Decoder_Done (d:Option Addr) (w:World) (K:Bool→World→Prop):Prop :=Calls PG 116 #[(.pointer d)] w fun e w'=>∃r0:Bool,e=.returned (.bool r0)∧K r0 w'
def c_zlib_Decoder_Used (d:Option Addr) (w:World) (K:Int→World→Prop):Prop :=Calls PG 117 #[(.pointer d)] w fun e w'=>∃r0:Int,e=.returned (.int .i64 r0)∧K r0 w'
def c_pixel_New (wx:Int) (hx:Int) (w:World) (K:T_api_Matrix→Int→World→Prop):Prop :=Calls PG 118 #[(.int .i64 wx),(.int .i64 hx)] w fun e w'=>∃r0:T_api_Matrix,∃r1:Int,e=.returned (.tuple #[(.agg #[(.int .i64 r0.W),(.int .i64 r0.H),(.slice r0.P.a r0.P.n r0.P.c)]),(.int .i64 r1)])∧K r0 r1 w'
def c_png_file_pixels_1 (p:T_q8_Pass) (y:Int) (wx:Int) (c0:Addr) (c1:Addr) (c2:Addr) (c3:Addr) (c4:Addr) (c5:Addr) (w:World) (K:Bool→World→Prop):Prop :=Calls PG 119 #[(.agg #[(.int .i64 p.X),(.int .i64 p.Y),(.int .i64 p.DX),(.int .i64 p.DY)]),(.int .i64 y),(.int .i64 wx),(.pointer (some c0)),(.pointer (some c1)),(.pointer (some c2)),(.pointer (some c3)),(.pointer (some c4)),(.pointer (some c5))] w fun e w'=>∃r0:Bool,e=.returned (.bool r0)∧K r0 w'
def c_filter_Undo (kind:Int) (row:Slc) (ahead:Slc) (step:Int) (w:World) (K:Slc→Int→World→Prop):Prop :=Calls PG 120 #[(.int .i64 kind),(.slice row.a row.n row.c),(.slice ahead.a ahead.n ahead.c),(.int .i64 step)] w fun e w'=>∃r0:Slc,∃r1:Int,e=.returned (.tuple #[(.slice r0.a r0.n r0.c),(.int .i64 r1)])∧K r0 r1 w'
def c_filter_Samples (row:Slc) (depth:Int) (n:Int) (w:World) (K:Slc→Int→World→Prop):Prop :=Calls PG 121 #[(.slice row.a row.n row.c),(.int .i64 depth),(.int .i64 n)] w fun e w'=>∃r0:Slc,∃r1:Int,e=.returned (.tuple #[(.slice r0.a r0.n r0.c),(.int .i64 r1)])∧K r0 r1 w'
def c_png_file_color (f:Option Addr) (s:Slc) (w:World) (K:T_pixel_Color→Bool→World→Prop):Prop :=Calls PG 122 #[(.pointer f),(.slice s.a s.n s.c)] w fun e w'=>∃r0:T_pixel_Color,∃r1:Bool,e=.returned (.tuple #[(.agg #[(.int .u8 r0.e0),(.int .u8 r0.e1),(.int .u8 r0.e2),(.int .u8 r0.e3)]),(.bool r1)])∧K r0 r1 w'
def c_bytes_Equal (a:Slc) (b:Slc) (w:World) (K:Bool→World→Prop):Prop :=Calls PG 129 #[(.slice a.a a.n a.c),(.slice b.a b.n b.c)] w fun e w'=>∃r0:Bool,e=.returned (.bool r0)∧K r0 w'
def c_png_chunk (b:Slc) (w:World) (K:T_png_Chunk→Int→Int→World→Prop):Prop :=Calls PG 130 #[(.slice b.a b.n b.c)] w fun e w'=>∃r0:T_png_Chunk,∃r1:Int,∃r2:Int,e=.returned (.tuple #[(.agg #[(.string r0.Kind),(.slice r0.Data.a r0.Data.n r0.Data.c)]),(.int .i64 r1),(.int .i64 r2)])∧K r0 r1 r2 w'
def c_bits_Big (b:Slc) (w:World) (K:Int→World→Prop):Prop :=Calls PG 131 #[(.slice b.a b.n b.c)] w fun e w'=>∃r0:Int,e=.returned (.int .u32 r0)∧K r0 w'
def c_base64_Decoder_put (d:Option Addr) (c:Int) (w:World) (K:Slc→Bool→World→Prop):Prop :=Calls PG 132 #[(.pointer d),(.int .u8 c)] w fun e w'=>∃r0:Slc,∃r1:Bool,e=.returned (.tuple #[(.slice r0.a r0.n r0.c),(.bool r1)])∧K r0 r1 w'
def c_base64_Decoder_clean (d:Option Addr) (w:World) (K:Bool→World→Prop):Prop :=Calls PG 136 #[(.pointer d)] w fun e w'=>∃r0:Bool,e=.returned (.bool r0)∧K r0 w'
def c_base64_Decoder_bytes (d:Option Addr) (w:World) (K:Slc→World→Prop):Prop :=Calls PG 137 #[(.pointer d)] w fun e w'=>∃r0:Slc,e=.returned (.slice r0.a r0.n r0.c)∧K r0 w'
def c_base64_Decoder_Reset (d:Option Addr) (w:World) (K:World→Prop):Prop :=Calls PG 138 #[(.pointer d)] w fun e w'=>e=.returned (.tuple #[])∧K w'
def c_pixel_FromRGBA (wx:Int) (hx:Int) (b:Slc) (w:World) (K:T_api_Matrix→Int→World→Prop):Prop :=Calls PG 139 #[(.int .i64 wx),(.int .i64 hx),(.slice b.a b.n b.c)] w fun e w'=>∃r0:T_api_Matrix,∃r1:Int,e=.returned (.tuple #[(.agg #[(.int .i64 r0.W),(.int .i64 r0.H),(.slice r0.P.a r0.P.n r0.P.c)]),(.int .i64 r1)])∧K r0 r1 w'
def c_pixel_FromRGB (wx:Int) (hx:Int) (b:Slc) (w:World) (K:T_api_Matrix→Int→World→Prop):Prop :=Calls PG 140 #[(.int .i64 wx),(.int .i64 hx),(.slice b.a b.n b.c)] w fun e w'=>∃r0:T_api_Matrix,∃r1:Int,e=.returned (.tuple #[(.agg #[(.int .i64 r0.W),(.int .i64 r0.H),(.slice r0.P.a r0.P.n r0.P.c)]),(.int .i64 r1)])∧K r0 r1 w'
def c_huff_Fixed  (w:World) (K:Slc→Slc→World→Prop):Prop :=Calls PG 144 #[] w fun e w'=>∃r0:Slc,∃r1:Slc,e=.returned (.tuple #[(.slice r0.a r0.n r0.c),(.slice r1.a r1.n r1.c)])∧K r0 r1 w'
def c_huff_New (lengths:Slc) (w:World) (K:Option Addr→Int→World→Prop):Prop :=Calls PG 145 #[(.slice lengths.a lengths.n lengths.c)] w fun e w'=>∃r0:Option Addr,∃r1:Int,e=.returned (.tuple #[(.pointer r0),(.int .i64 r1)])∧K r0 r1 w'
def c_bits_NewWriter  (w:World) (K:Option Addr→World→Prop):Prop :=Calls PG 146 #[] w fun e w'=>∃r0:Option Addr,e=.returned (.pointer r0)∧K r0 w'
def c_bits_Writer_Bits (wx:Option Addr) (v:Int) (n:Int) (w:World) (K:World→Prop):Prop :=Calls PG 147 #[(.pointer wx),(.int .u32 v),(.int .i64 n)] w fun e w'=>e=.returned (.tuple #[])∧K w'
def c_huff_Table_Code (t:Option Addr) (symbol:Int) (w:World) (K:Int→Int→World→Prop):Prop :=Calls PG 148 #[(.pointer t),(.int .i64 symbol)] w fun e w'=>∃r0:Int,∃r1:Int,e=.returned (.tuple #[(.int .u32 r0),(.int .i64 r1)])∧K r0 r1 w'
def c_bits_Writer_Done (wx:Option Addr) (w:World) (K:Slc→World→Prop):Prop :=Calls PG 149 #[(.pointer wx)] w fun e w'=>∃r0:Slc,e=.returned (.slice r0.a r0.n r0.c)∧K r0 w'
def c_filter_Passes  (w:World) (K:Slc→World→Prop):Prop :=Calls PG 158 #[] w fun e w'=>∃r0:Slc,e=.returned (.slice r0.a r0.n r0.c)∧K r0 w'
def c_filter_isSide (n:Int) (w:World) (K:Bool→World→Prop):Prop :=Calls PG 159 #[(.int .i64 n)] w fun e w'=>∃r0:Bool,e=.returned (.bool r0)∧K r0 w'
def c_filter_Paeth (a:Int) (b:Int) (c:Int) (w:World) (K:Int→World→Prop):Prop :=Calls PG 160 #[(.int .u8 a),(.int .u8 b),(.int .u8 c)] w fun e w'=>∃r0:Int,e=.returned (.int .u8 r0)∧K r0 w'
def c_png_file_colors (f:Option Addr) (b:Slc) (w:World) (K:Bool→World→Prop):Prop :=Calls PG 161 #[(.pointer f),(.slice b.a b.n b.c)] w fun e w'=>∃r0:Bool,e=.returned (.bool r0)∧K r0 w'
def c_png_file_clear (f:Option Addr) (b:Slc) (w:World) (K:Bool→World→Prop):Prop :=Calls PG 162 #[(.pointer f),(.slice b.a b.n b.c)] w fun e w'=>∃r0:Bool,e=.returned (.bool r0)∧K r0 w'
def c_filter_isDepth (n:Int) (w:World) (K:Bool→World→Prop):Prop :=Calls PG 163 #[(.int .i64 n)] w fun e w'=>∃r0:Bool,e=.returned (.bool r0)∧K r0 w'
def c_inflate_New (most:Int) (w:World) (K:Option Addr→Int→World→Prop):Prop :=Calls PG 164 #[(.int .i64 most)] w fun e w'=>∃r0:Option Addr,∃r1:Int,e=.returned (.tuple #[(.pointer r0),(.int .i64 r1)])∧K r0 r1 w'
def c_zlib_Decoder_begin (d:Option Addr) (c:Int) (w:World) (K:Bool→World→Prop):Prop :=Calls PG 165 #[(.pointer d),(.int .u8 c)] w fun e w'=>∃r0:Bool,e=.returned (.bool r0)∧K r0 w'
def c_zlib_Decoder_fail (d:Option Addr) (e:Int) (w:World) (K:Int→World→Prop):Prop :=Calls PG 166 #[(.pointer d),(.int .i64 e)] w fun e w'=>∃r0:Int,e=.returned (.int .i64 r0)∧K r0 w'
def c_inflate_Decoder_Given (d:Option Addr) (w:World) (K:Int→World→Prop):Prop :=Calls PG 167 #[(.pointer d)] w fun e w'=>∃r0:Int,e=.returned (.int .i64 r0)∧K r0 w'
def c_inflate_Decoder_Write (d:Option Addr) (b:Slc) (w:World) (K:Slc→Int→World→Prop):Prop :=Calls PG 168 #[(.pointer d),(.slice b.a b.n b.c)] w fun e w'=>∃r0:Slc,∃r1:Int,e=.returned (.tuple #[(.slice r0.a r0.n r0.c),(.int .i64 r1)])∧K r0 r1 w'
def c_inflate_Decoder_Done (d:Option Addr) (w:World) (K:Bool→World→Prop):Prop :=Calls PG 169 #[(.pointer d)] w fun e w'=>∃r0:Bool,e=.returned (.bool r0)∧K r0 w'
def c_inflate_Decoder_Used (d:Option Addr) (w:World) (K:Int→World→Prop):Prop :=Calls PG 170 #[(.pointer d)] w fun e w'=>∃r0:Int,e=.returned (.int .i64 r0)∧K r0 w'
def c_pixel_size (wx:Int) (hx:Int) (w:World) (K:Bool→World→Prop):Prop :=Calls PG 171 #[(.int .i64 wx),(.int .i64 hx)] w fun e w'=>∃r0:Bool,e=.returned (.bool r0)∧K r0 w'
def c_png_Head_eight (hx:T_png_Head) (v:Int) (w:World) (K:Int→World→Prop):Prop :=Calls PG 172 #[(.agg #[(.int .i64 hx.W),(.int .i64 hx.H),(.int .i64 hx.Depth),(.int .i64 hx.Color),(.int .i64 hx.Lace)]),(.int .i64 v)] w fun e w'=>∃r0:Int,e=.returned (.int .u8 r0)∧K r0 w'
def c_png_letters (b:Slc) (w:World) (K:Bool→World→Prop):Prop :=Calls PG 179 #[(.slice b.a b.n b.c)] w fun e w'=>∃r0:Bool,e=.returned (.bool r0)∧K r0 w'
def c_strings_IndexByte (s:ByteArray) (c:Int) (w:World) (K:Int→World→Prop):Prop :=Calls PG 180 #[(.string s),(.int .u8 c)] w fun e w'=>∃r0:Int,e=.returned (.int .i64 r0)∧K r0 w'
def c_pixel_from (wx:Int) (hx:Int) (per:Int) (b:Slc) (w:World) (K:T_api_Matrix→Int→World→Prop):Prop :=Calls PG 182 #[(.int .i64 wx),(.int .i64 hx),(.int .i64 per),(.slice b.a b.n b.c)] w fun e w'=>∃r0:T_api_Matrix,∃r1:Int,e=.returned (.tuple #[(.agg #[(.int .i64 r0.W),(.int .i64 r0.H),(.slice r0.P.a r0.P.n r0.P.c)]),(.int .i64 r1)])∧K r0 r1 w'
def c_huff_room (lengths:Slc) (w:World) (K:Int→World→Prop):Prop :=Calls PG 184 #[(.slice lengths.a lengths.n lengths.c)] w fun e w'=>∃r0:Int,e=.returned (.int .i64 r0)∧K r0 w'
def c_huff_Table_deal (t:Option Addr) (w:World) (K:World→Prop):Prop :=Calls PG 185 #[(.pointer t)] w fun e w'=>e=.returned (.tuple #[])∧K w'
def c_filter_Paeth_1 (x:Int) (c0:Addr) (c1:Addr) (c2:Addr) (w:World) (K:Int→World→Prop):Prop :=Calls PG 191 #[(.int .u8 x),(.pointer (some c0)),(.pointer (some c1)),(.pointer (some c2))] w fun e w'=>∃r0:Int,e=.returned (.int .i64 r0)∧K r0 w'
def c_bits_NewReader (b:Slc) (w:World) (K:Option Addr→World→Prop):Prop :=Calls PG 192 #[(.slice b.a b.n b.c)] w fun e w'=>∃r0:Option Addr,e=.returned (.pointer r0)∧K r0 w'
def c_bits_Reader_Bits (r:Option Addr) (n:Int) (w:World) (K:Int→Bool→World→Prop):Prop :=Calls PG 193 #[(.pointer r),(.int .i64 n)] w fun e w'=>∃r0:Int,∃r1:Bool,e=.returned (.tuple #[(.int .u32 r0),(.bool r1)])∧K r0 r1 w'
def c_bits_Reader_At (r:Option Addr) (w:World) (K:Int→World→Prop):Prop :=Calls PG 194 #[(.pointer r)] w fun e w'=>∃r0:Int,e=.returned (.int .i64 r0)∧K r0 w'
def c_inflate_Decoder_step (d:Option Addr) (r:Option Addr) (w:World) (K:Int→World→Prop):Prop :=Calls PG 195 #[(.pointer d),(.pointer r)] w fun e w'=>∃r0:Int,e=.returned (.int .i64 r0)∧K r0 w'
def c_bits_Reader_Back (r:Option Addr) (at_:Int) (w:World) (K:World→Prop):Prop :=Calls PG 196 #[(.pointer r),(.int .i64 at_)] w fun e w'=>e=.returned (.tuple #[])∧K w'
def c_pixel_Scale_int (v:Int) (from_:Int) (to:Int) (w:World) (K:Int→World→Prop):Prop :=Calls PG 197 #[(.int .i64 v),(.int .i64 from_),(.int .i64 to)] w fun e w'=>∃r0:Int,e=.returned (.int .i64 r0)∧K r0 w'
def c_slices_ContainsFunc_byte_byte (s:Slc) (f:Value) (w:World) (K:Bool→World→Prop):Prop :=Calls PG 201 #[(.slice s.a s.n s.c),f] w fun e w'=>∃r0:Bool,e=.returned (.bool r0)∧K r0 w'
def c_png_letters_1 (c:Int) (w:World) (K:Bool→World→Prop):Prop :=Calls PG 202 #[(.int .u8 c)] w fun e w'=>∃r0:Bool,e=.returned (.bool r0)∧K r0 w'
def c_bits_Reverse (v:Int) (n:Int) (w:World) (K:Int→World→Prop):Prop :=Calls PG 205 #[(.int .u32 v),(.int .i64 n)] w fun e w'=>∃r0:Int,e=.returned (.int .u32 r0)∧K r0 w'
def c_bits_Reader_Peek (r:Option Addr) (n:Int) (w:World) (K:Int→Bool→World→Prop):Prop :=Calls PG 207 #[(.pointer r),(.int .i64 n)] w fun e w'=>∃r0:Int,∃r1:Bool,e=.returned (.tuple #[(.int .u32 r0),(.bool r1)])∧K r0 r1 w'
def c_inflate_Decoder_head (d:Option Addr) (r:Option Addr) (w:World) (K:Int→World→Prop):Prop :=Calls PG 208 #[(.pointer d),(.pointer r)] w fun e w'=>∃r0:Int,e=.returned (.int .i64 r0)∧K r0 w'
def c_inflate_Decoder_stored (d:Option Addr) (r:Option Addr) (w:World) (K:Int→World→Prop):Prop :=Calls PG 209 #[(.pointer d),(.pointer r)] w fun e w'=>∃r0:Int,e=.returned (.int .i64 r0)∧K r0 w'
def c_inflate_Decoder_bytes (d:Option Addr) (r:Option Addr) (w:World) (K:Int→World→Prop):Prop :=Calls PG 210 #[(.pointer d),(.pointer r)] w fun e w'=>∃r0:Int,e=.returned (.int .i64 r0)∧K r0 w'
def c_inflate_Decoder_dynamic (d:Option Addr) (r:Option Addr) (w:World) (K:Int→World→Prop):Prop :=Calls PG 211 #[(.pointer d),(.pointer r)] w fun e w'=>∃r0:Int,e=.returned (.int .i64 r0)∧K r0 w'
def c_inflate_Decoder_code (d:Option Addr) (r:Option Addr) (w:World) (K:Int→World→Prop):Prop :=Calls PG 212 #[(.pointer d),(.pointer r)] w fun e w'=>∃r0:Int,e=.returned (.int .i64 r0)∧K r0 w'
def c_slices_IndexFunc_byte_byte (s:Slc) (f:Value) (w:World) (K:Int→World→Prop):Prop :=Calls PG 213 #[(.slice s.a s.n s.c),f] w fun e w'=>∃r0:Int,e=.returned (.int .i64 r0)∧K r0 w'
def c_bits_Reader_Left (r:Option Addr) (w:World) (K:Int→World→Prop):Prop :=Calls PG 219 #[(.pointer r)] w fun e w'=>∃r0:Int,e=.returned (.int .i64 r0)∧K r0 w'
def c_bits_Reader_Align (r:Option Addr) (w:World) (K:Int→World→Prop):Prop :=Calls PG 220 #[(.pointer r)] w fun e w'=>∃r0:Int,e=.returned (.int .i64 r0)∧K r0 w'
def c_inflate_Decoder_take (d:Option Addr) (r:Option Addr) (w:World) (K:World→Prop):Prop :=Calls PG 221 #[(.pointer d),(.pointer r)] w fun e w'=>e=.returned (.tuple #[])∧K w'
def c_inflate_Decoder_put (d:Option Addr) (c:Int) (w:World) (K:Int→World→Prop):Prop :=Calls PG 222 #[(.pointer d),(.int .u8 c)] w fun e w'=>∃r0:Int,e=.returned (.int .i64 r0)∧K r0 w'
def c_inflate_Decoder_next (d:Option Addr) (w:World) (K:World→Prop):Prop :=Calls PG 223 #[(.pointer d)] w fun e w'=>e=.returned (.tuple #[])∧K w'
def c_inflate_read (r:Option Addr) (t:Option Addr) (n:Int) (w:World) (K:Slc→Int→World→Prop):Prop :=Calls PG 224 #[(.pointer r),(.pointer t),(.int .i64 n)] w fun e w'=>∃r0:Slc,∃r1:Int,e=.returned (.tuple #[(.slice r0.a r0.n r0.c),(.int .i64 r1)])∧K r0 r1 w'
def c_huff_Table_Read (t:Option Addr) (r:Option Addr) (w:World) (K:Int→Int→World→Prop):Prop :=Calls PG 225 #[(.pointer t),(.pointer r)] w fun e w'=>∃r0:Int,∃r1:Int,e=.returned (.tuple #[(.int .i64 r0),(.int .i64 r1)])∧K r0 r1 w'
def c_inflate_length (sign:Int) (w:World) (K:Int→Int→World→Prop):Prop :=Calls PG 226 #[(.int .i64 sign)] w fun e w'=>∃r0:Int,∃r1:Int,e=.returned (.tuple #[(.int .i64 r0),(.int .i64 r1)])∧K r0 r1 w'
def c_inflate_distance (sign:Int) (w:World) (K:Int→Int→World→Prop):Prop :=Calls PG 227 #[(.int .i64 sign)] w fun e w'=>∃r0:Int,∃r1:Int,e=.returned (.tuple #[(.int .i64 r0),(.int .i64 r1)])∧K r0 r1 w'
def c_sums_Crc_Sum (c:Option Addr) (w:World) (K:Int→World→Prop):Prop :=Calls PG 256 #[(.pointer c)] w fun e w'=>∃r0:Int,e=.returned (.int .u32 r0)∧K r0 w'
def c_sums_Crc_Write (c:Option Addr) (b:Slc) (w:World) (K:Int→Value→World→Prop):Prop :=Calls PG 257 #[(.pointer c),(.slice b.a b.n b.c)] w fun e w'=>∃r0:Int,∃r1:Value,e=.returned (.tuple #[(.int .i64 r0),r1])∧K r0 r1 w'
def c_sums_Adler_Sum (a:Option Addr) (w:World) (K:Int→World→Prop):Prop :=Calls PG 258 #[(.pointer a)] w fun e w'=>∃r0:Int,e=.returned (.int .u32 r0)∧K r0 w'
def c_sums_Adler_Write (a:Option Addr) (b:Slc) (w:World) (K:Int→Value→World→Prop):Prop :=Calls PG 259 #[(.pointer a),(.slice b.a b.n b.c)] w fun e w'=>∃r0:Int,∃r1:Value,e=.returned (.tuple #[(.int .i64 r0),r1])∧K r0 r1 w'
end Go.Proofs.YtmagnpcgpinmcaaGreat
