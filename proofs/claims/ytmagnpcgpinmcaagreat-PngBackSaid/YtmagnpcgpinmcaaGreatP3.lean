import Derived.Test.YtmagnpcgpinmcaaGreatP2
import Derived.Lib.SlBytesConst
set_option linter.unusedVariables false
set_option linter.unusedVariables false
namespace Go.Proofs.YtmagnpcgpinmcaaGreat
open Go.Vc Go.RowKit
set_option maxRecDepth 400000
theorem putL_all {zs vs:List Value} (hl:vs.length=zs.length):putL zs 0 vs=vs:=by
 refine List.ext_getElem? fun m=>?_
 rw [putL_get vs zs 0 m (by omega)]
 by_cases hm:m<vs.length
 ·rw [if_pos (by omega)];rfl
 ·rw [if_neg (by omega),List.getElem?_eq_none (by omega),List.getElem?_eq_none (by omega)]
theorem all_of {g:Nat} {t:TypeId} {vs us:List Value} {w:World} {K:World→Prop} (h:Blk w g t vs) (hl:us.length=vs.length) (hK:∀w',Blk w' g t us→Chg (fun k=>k=g) w w'→w'.heap.size=w.heap.size→K w'):stK ⟨g,0,none⟩ us w K :=
 stK_blk h (by omega) fun w' hb hg hs=>hK w' (by rw [putL_all hl] at hb;exact hb) (Chg.gg hg) hs
theorem res_of {r:Rep} {g:Nat} {t:TypeId} {vs us:List Value} {x:r.T} {w:World} {K:r.T→World→Prop} (h:Blk w g t vs) (hus:r.cells x=us) (hl:us.length=vs.length) (hK:∀w',Chg (fun k=>k=g) w w'→w'.heap.size=w.heap.size→K x w') :
  stK ⟨g,0,none⟩ us w fun w'=>ldS r ⟨g,0,none⟩ w' fun y=>K y w' :=
 all_of h hl fun w' hb hc hs=>ldS_of (x:=x) (by rw [hus];exact hb.cells) (hK w' hc hs)
theorem below_drew (w:World):Below w.heap.size w w.drew:=(Below.refl _ w).drew
theorem below_one {w w1 w2:World} {g:Nat} (h:Below w.heap.size w w1) (hc:Chg (fun k=>k=g) w1 w2) (hg:w.heap.size≤g):Below w.heap.size w w2 :=
 h.trans (hc.below h.size fun i hi e=>by omega)
theorem below_t {w w1 w2:World} (h:Below w.heap.size w w1) (h2:Below w1.heap.size w1 w2):Below w.heap.size w w2:=h.trans (h2.mono h.size)
structure ChA (w:World) (x:T_png_Chunk) (c:ChL):Prop where
 kind:x.Kind=strB c.kind
 data:Rd E_uint8 w x.Data c.data
theorem ChA.ext {w w':World} {x:T_png_Chunk} {c:ChL} (h:ChA w x c) (hB:Below w.heap.size w w'):ChA w' x c:=⟨h.kind,h.data.ext hB⟩
structure ChO (w:World) (b:Nat) (x:T_png_Chunk) (c:ChL):Prop where
 kind:x.Kind=strB c.kind
 data:Go.Vc.Own E_uint8 w b x.Data c.data
theorem ChO.a {w:World} {b:Nat} {x:T_png_Chunk} {c:ChL} (h:ChO w b x c):ChA w x c:=⟨h.kind,h.data.rd⟩
theorem ChO.ext {w w':World} {b:Nat} {x:T_png_Chunk} {c:ChL} (h:ChO w b x c) (hB:Below w.heap.size w w'):ChO w' b x c:=⟨h.kind,h.data.ext hB⟩
theorem ChO.base {w:World} {b b':Nat} {x:T_png_Chunk} {c:ChL} (h:ChO w b x c) (hb:b'≤b):ChO w b' x c:=⟨h.kind,h.data.base hb⟩
theorem ChO.chg {S:Nat→Prop} {w w':World} {b:Nat} {x:T_png_Chunk} {c:ChL} (h:ChO w b x c) (hc:Chg S w w') (hs:∀k,x.Data.blk=some k→¬S k):ChO w' b x c:=⟨h.kind,h.data.chg hc hs⟩
theorem letter_or:∀x:Nat,x<256→((x ||| 32)<97∨(x ||| 32)>122↔¬(65≤x∧x≤90∨97≤x∧x≤122)):=by decide +kernel
section
variable {w:World}
theorem letters1_spec {x:UInt8} {K:Bool→World→Prop} (hK:K (!letterP x) w):c_png_letters_1 (x.toNat:Int) w K:=by
 refine call_png_letters_1 _ ?_
 unfold sh_png_letters_1
 have h8:=x.toNat_lt
 rw [show (32:Int)=((32:Nat):Int) from rfl,bits_or .u8 (by show _<2^8;omega) (by decide)]
 have h:=letter_or x.toNat h8
 refine cond_of (fun h1=>?_) fun h1=>?_
 ·have h1:=of_decide_eq_true h1
  have:letterP x=false:=decide_eq_false (h.1 (.inl (by omega)))
  rw [this] at hK
  exact hK
 ·have h1:=of_decide_eq_false h1
  by_cases h2:(x.toNat ||| 32)>122
  ·have:letterP x=false:=decide_eq_false (h.1 (.inr h2))
   rw [this] at hK
   rw [decide_eq_true (by omega)]
   exact hK
  ·have:letterP x=true:=decide_eq_true (Classical.not_not.1 fun e=>by have:=h.2 e;omega)
   rw [this] at hK
   rw [decide_eq_false (by omega)]
   exact hK
theorem letters_spec {s:Slc} {bs:List UInt8} {K:Bool→World→Prop} (hs:Rd E_uint8 w s bs) (hl:bs.length≤1000000) (hK:K (bs.all letterP) w):c_png_letters s w K:=by
 refine call_png_letters _ ?_
 unfold sh_png_letters
 refine call_slices_ContainsFunc_byte_byte _ _ ?_
 unfold sh_slices_ContainsFunc_byte_byte
 refine call_slices_IndexFunc_byte_byte _ _ ?_
 unfold sh_slices_IndexFunc_byte_byte
 rw [hs.n]
 refine loopP_rule (fun (st:Int×Unit) w1=>w1=w∧∃i:Nat,st.1=i∧i≤bs.length∧(bs.take i).all letterP=true) (fun st=>bs.length-st.1.toNat) ⟨rfl,0,rfl,by omega,rfl⟩ ?_
 rintro ⟨i,u⟩ w1 ⟨rfl,m,hi,hm,hno⟩ I hI
 dsimp only at hi ⊢
 subst hi
 by_cases hlt:m<bs.length
 ·refine cond_t (decide_eq_true (by omega)) ?_
  obtain ⟨x,hx,hxs⟩:=get_of (xs:=bs) (k:=m) hlt
  refine hs.ix (i:=(m:Int)) (k:=1) rfl (by omega) (by omega) fun hcell=>?_
  rw [hxs] at hcell
  refine ldB8 (b:=x) hcell (callR_plain (by kernel_rfl) ?_)
  refine Calls.mono (letters1_spec (x:=x) (K:=fun t16 w2=>cond t16 (K (!(decide ((m:Int)≥(0:Int)))) w2) (I ((IntKind.i64.wrap ((m:Int)+(1:Int))),()) w2)) ?_) ?_
  ·cases hxl:letterP x with
   | false =>
    have:bs.all letterP=false:=by
     rw [List.all_eq_false]
     exact ⟨x,List.mem_of_getElem? hx,by rw [hxl];simp⟩
    rw [this] at hK
    refine cond_t rfl ?_
    rw [decide_eq_true (by omega)]
    exact hK
   | true =>
    refine cond_f rfl ?_
    rw [wrap64_id (by omega)]
    refine hI _ _ ⟨rfl,m+1,rfl,by omega,?_⟩ (by simp;omega)
    rw [List.take_add_one,hx,List.all_append,hno]
    simp [hxl]
  ·rintro e w' ⟨r,rfl,hk⟩
   exact ⟨r,rfl,hk⟩
 ·refine cond_f (decide_eq_false (by omega)) ?_
  obtain rfl:m=bs.length:=by omega
  rw [List.take_length] at hno
  rw [hno] at hK
  exact hK
theorem chunk_spec {b:Slc} {bs:List UInt8} {K:T_png_Chunk→Int→Int→World→Prop} (hb:Rd E_uint8 w b bs) (hl:bs.length≤1000000000)
  (hE:∀n x w',chunkP bs=.err n→n≠0→Below w.heap.size w w'→K x 0 n w')
  (hO:∀c n x w',chunkP bs=.ok c n→ChO w' w.heap.size x c→Below w.heap.size w w'→12≤n→n≤bs.length→K x n 0 w'):c_png_chunk b w K:=by
 refine call_png_chunk _ ?_
 unfold sh_png_chunk
 rw [hb.n]
 refine nw_blk fun w1 h1 hB1 hs1=>?_
 have hend:∀(n:Nat) w2,chunkP bs=.err n→n≠0→Below w.heap.size w w2→Below w1.heap.size w1 w2→stK ⟨w.heap.size,0,none⟩ [(.string (⟨#[]⟩:ByteArray)),(.slice none 0 0)] w2 fun w3=>ldS T_png_Chunk.rep ⟨w.heap.size,0,none⟩ w3 fun r=>K r 0 n w3:=by
  intro n w2 hc hn hB hB'
  exact res_of (r:=T_png_Chunk.rep) (x:=⟨⟨#[]⟩,⟨none,0,0⟩⟩) (h1.ext hB') rfl rfl fun w3 hc3 hs3=>hE n _ w3 hc hn (below_one hB hc3 (Nat.le_refl _))
 refine cond_of (fun h4=>?_) fun h4=>?_
 ·have h4:=of_decide_eq_true h4
  exact hend 2 w1 (by unfold chunkP;rw [if_pos (by omega)]) (by decide) hB1 (Below.refl _ _)
 have h4:=of_decide_eq_false h4
 have h4':¬bs.length<4:=by omega
 have hb1:=hb.ext hB1
 refine BigG hb1 (by omega) ?_
 have hB3:Below w.heap.size w w1.drew:=below_t hB1 (below_drew _)
 have hB3':Below w1.heap.size w1 w1.drew:=below_drew _
 obtain ⟨w3,hw3⟩:∃w3,w3=w1.drew:=⟨_,rfl⟩
 rw [←hw3] at hB3 hB3' ⊢
 have hnl:=bigN_lt (bs:=bs.take 4) (by rw [List.length_take];omega)
 obtain ⟨n,hn⟩:∃n,n=bigN (bs.take 4):=⟨_,rfl⟩
 rw [←hn] at hnl ⊢
 rw [wrap64_id (x:=(n:Int)) (by omega)]
 refine cond_of (fun h5=>?_) fun h5=>?_
 ·have h5:=of_decide_eq_true h5
  exact hend 3 w3 (by unfold chunkP;rw [if_neg h4',←hn,if_pos (by omega)]) (by decide) hB3 hB3'
 have h5:=of_decide_eq_false h5
 have h5':¬n>2147483647:=by omega
 refine cond_of (fun h6=>?_) fun h6=>?_
 ·have h6:=of_decide_eq_true h6
  exact hend 2 w3 (by unfold chunkP;rw [if_neg h4',←hn,if_neg h5',if_pos (by omega)]) (by decide) hB3 hB3'
 have h6:=of_decide_eq_false h6
 have h6':¬bs.length<8:=by omega
 have hb3:=hb.ext hB3
 refine hb3.slK (l:=4) (m:=8) rfl (.inr rfl) (.inr rfl) (by omega) (by omega) fun hp=>?_
 refine letters_spec hp (by rw [List.length_drop,List.length_take];omega) ?_
 refine cond_of (fun h7=>?_) fun h7=>?_
 ·have h7:((bs.take 8).drop 4).all letterP=false:=by simpa using h7
  exact hend 3 w3 (by unfold chunkP;rw [if_neg h4',←hn,if_neg h5',if_neg h6',if_pos h7]) (by decide) hB3 hB3'
 have h7:((bs.take 8).drop 4).all letterP=true:=by simpa using h7
 have h7':¬((bs.take 8).drop 4).all letterP=false:=by rw [h7];simp
 rw [wrap64_id (x:=((bs.length:Nat):Int)-12) (by omega)]
 refine cond_of (fun h8=>?_) fun h8=>?_
 ·have h8:=of_decide_eq_true h8
  exact hend 2 w3 (by unfold chunkP;rw [if_neg h4',←hn,if_neg h5',if_neg h6',if_neg h7',if_pos (by omega)]) (by decide) hB3 hB3'
 have h8:=of_decide_eq_false h8
 have h8':¬n+12>bs.length:=by omega
 have e8:IntKind.i64.wrap ((8:Int)+(n:Int))=((8+n:Nat):Int):=by rw [wrap64_id (by omega)];simp
 have e12:IntKind.i64.wrap ((((8+n:Nat):Nat):Int)+(4:Int))=((12+n:Nat):Int):=by rw [wrap64_id (by omega)];omega
 rw [e8,e12]
 refine hb3.slK (l:=4) (m:=8+n) rfl (.inr rfl) (.inr rfl) (by omega) (by omega) fun hp1=>?_
 refine hb3.slK (l:=8+n) (m:=bs.length) rfl (.inr rfl) (.inl ⟨rfl,rfl⟩) (by omega) (by omega) fun hp2=>?_
 rw [List.take_length] at hp2
 have htail:∀w12 (t43 t47:Int),t43=((crcN ((bs.take (8+n)).drop 4):Nat):Int)→t47=((bigN ((bs.drop (8+n)).take 4):Nat):Int)→Below w.heap.size w w12→Below w1.heap.size w1 w12 →
   cond (t43 !=t47) (stK ⟨w.heap.size,0,none⟩ [(.string (⟨#[]⟩:ByteArray)),(.slice none 0 0)] w12 fun w13=>ldS T_png_Chunk.rep ⟨w.heap.size,0,none⟩ w13 fun r_5=>K r_5 0 4 w13)
    (
    slK b (some 4) (some 8) 1 fun t51=>slK b (some 8) (some ((8+n:Nat):Int)) 1 fun t55 =>
    (runK1 PG (convert ty_sl_uint8 ty_string (.slice t51.a t51.n t51.c)) Kind.string w12.drew fun (t52:ByteArray) w14 =>
     c_slices_Clone_byte_byte t55 w14 fun t56 w15=>stK ⟨w.heap.size,0,none⟩ [(.string t52),(.slice t56.a t56.n t56.c)] w15 fun w16=>ldS T_png_Chunk.rep ⟨w.heap.size,0,none⟩ w16 fun r_6=>K r_6 ((12+n:Nat):Int) 0 w16) ∧
    c_slices_Clone_byte_byte t55 w12.drew fun t56_1 w17=>runK1 PG (convert ty_sl_uint8 ty_string (.slice t51.a t51.n t51.c)) Kind.string w17 fun (t52_1:ByteArray) w18 =>
     stK ⟨w.heap.size,0,none⟩ [(.string t52_1),(.slice t56_1.a t56_1.n t56_1.c)] w18 fun w19=>ldS T_png_Chunk.rep ⟨w.heap.size,0,none⟩ w19 fun r_7=>K r_7 ((12+n:Nat):Int) 0 w19):=by
  intro w12 t43 t47 e43 e47 hB hB'
  subst e43 e47
  refine cond_of (fun h9=>?_) fun h9=>?_
  ·have h9:crcN ((bs.take (8+n)).drop 4)≠bigN ((bs.drop (8+n)).take 4):=fun e=>by rw [e] at h9;simp at h9
   exact hend 4 w12 (by unfold chunkP;rw [if_neg h4',←hn,if_neg h5',if_neg h6',if_neg h7',if_neg h8',if_pos h9]) (by decide) hB hB'
  ·have h9:¬crcN ((bs.take (8+n)).drop 4)≠bigN ((bs.drop (8+n)).take 4):=fun e=>by
    refine e ?_
    have:((crcN ((bs.take (8+n)).drop 4):Nat):Int)=((bigN ((bs.drop (8+n)).take 4):Nat):Int):=by simpa using h9
    exact Int.ofNat.inj this
   have hok:chunkP bs=.ok ⟨(bs.take 8).drop 4,(bs.take (8+n)).drop 8⟩ (12+n):=by unfold chunkP;rw [if_neg h4',←hn,if_neg h5',if_neg h6',if_neg h7',if_neg h8',if_neg h9]
   have hBd:=below_t hB (below_drew w12)
   have hBd':=below_t hB' (below_drew w12)
   have hbd:=hb.ext hBd
   have hb12:=hb.ext hB
   refine hb12.slK (l:=4) (m:=8) rfl (.inr rfl) (.inr rfl) (by omega) (by omega) fun hq1=>?_
   refine hb12.slK (l:=8) (m:=8+n) rfl (.inr rfl) (.inr rfl) (by omega) (by omega) fun hq2=>?_
   have hq1d:=hq1.ext (below_drew w12)
   have hq2d:=hq2.ext (below_drew w12)
   have hsz:=hBd.size
   have fin:∀(t:Slc) w15,Go.Vc.Own E_uint8 w15 w12.drew.heap.size t ((bs.take (8+n)).drop 8)→Below w12.drew.heap.size w12.drew w15 →
     stK ⟨w.heap.size,0,none⟩ [(.string (strB ((bs.take 8).drop 4))),(.slice t.a t.n t.c)] w15 fun w16=>ldS T_png_Chunk.rep ⟨w.heap.size,0,none⟩ w16 fun r_6=>K r_6 ((12+n:Nat):Int) 0 w16:=by
    intro t w15 ht hB15
    refine res_of (r:=T_png_Chunk.rep) (x:=⟨strB ((bs.take 8).drop 4),t⟩) (h1.ext (below_t hBd' hB15)) rfl rfl fun w16 hc16 hs16=>?_
    refine hO _ (12+n) _ w16 hok ⟨rfl,?_⟩ (below_one (below_t hBd hB15) hc16 (Nat.le_refl _)) (by omega) (by omega)
    refine (ht.chg hc16 fun g hg e=>?_).base (by omega)
    have:=(ht.lt g hg).1
    have:=hBd'.size
    omega
   refine ⟨⟨_,_,run_bytes_strB hq1d,?_⟩,?_⟩
   ·exact CloneB_spec hq2d (by rw [List.length_drop,List.length_take];omega) fun r w15 hr hB15=>fin r w15 hr hB15
   ·refine CloneB_spec hq2d (by rw [List.length_drop,List.length_take];omega) fun r w15 hr hB15=>?_
    exact ⟨_,_,run_bytes_strB (hq1d.ext hB15),fin r w15 hr hB15⟩
 have hBd:=below_t hB3 (below_drew w3)
 have hBd':=below_t hB3' (below_drew w3)
 have hp1d:=hp1.ext (below_drew w3)
 have hp2d:=hp2.ext (below_drew w3)
 refine ⟨?_,?_⟩
 ·refine CrcOf hp1d (by rw [List.length_drop,List.length_take];omega) fun w11 hB11=>?_
  refine BigG (hp2d.ext hB11) (by rw [List.length_drop];omega) ?_
  exact htail _ _ _ rfl rfl (below_t (below_t hBd hB11) (below_drew _)) (below_t (below_t hBd' hB11) (below_drew _))
 ·refine CrcOf2 hp1d (by rw [List.length_drop,List.length_take];omega) fun w11 hB11=>?_
  refine BigG (hp2d.ext hB11) (by rw [List.length_drop];omega) ?_
  exact htail _ _ _ rfl rfl (below_t (below_t hBd hB11) (below_drew _)) (below_t (below_t hBd' hB11) (below_drew _))
end
end Go.Proofs.YtmagnpcgpinmcaaGreat
set_option linter.unusedVariables false
namespace Go.Proofs.YtmagnpcgpinmcaaGreat
open Go.Vc Go.RowKit
set_option maxRecDepth 400000
def eachR (one:Bool) (bs:List UInt8):Nat×List ChL:=if signP bs≠0 then (signP bs,[]) else chunksF one bs.length (bs.drop 8)
theorem chunksP_eq (one:Bool) (bs:List UInt8):chunksP one bs=((eachR one bs).1,if (eachR one bs).1≠0 then [] else (eachR one bs).2):=by
 unfold chunksP eachR
 by_cases h:signP bs≠0
 ·rw [if_pos h,if_pos h,if_pos h]
 ·rw [if_neg h,if_neg h]
  by_cases h2:(chunksF one bs.length (bs.drop 8)).1≠0
  ·rw [if_pos h2,if_pos h2]
  ·rw [if_neg h2,if_neg h2]
   have:(chunksF one bs.length (bs.drop 8)).1=0:=by omega
   rw [this]
def goP (one:Bool) (c:ChL):Bool:=!(one || decide (c.kind=iendL))
theorem chunkP_err {bs:List UInt8} {n:Nat} (h:chunkP bs=.err n):n≠0:=by
 unfold chunkP at h
 repeat' (split at h)
 all_goals (cases h;try decide)
section
variable {w:World}
theorem signO_spec {K:Slc→World→Prop} (hK:∀t w',Go.Vc.Own E_uint8 w' w.heap.size ⟨some t,8,8⟩ signL→Below w.heap.size w w'→K ⟨some t,8,8⟩ w'):c_png_sign w K:=by
 refine call_png_sign ?_
 unfold sh_png_sign
 exact nw_blk fun w1 h1 hB1 hs1=>hK _ w1 (own_lits (E:=E_uint8) (ys:=signL) (Nat.le_refl _) h1 (by decide) rfl) hB1
theorem sign_spec {K:Slc→World→Prop} (hK:∀t w',Rd E_uint8 w' ⟨some t,8,8⟩ signL→Below w.heap.size w w'→K ⟨some t,8,8⟩ w'):c_png_sign w K:=signO_spec fun t w' h hB=>hK t w' h.rd hB
theorem bytesEq_spec {a b:Slc} {xs ys:List UInt8} {K:Bool→World→Prop} (ha:Rd E_uint8 w a xs) (hb:Rd E_uint8 w b ys) (hK:K (decide (xs=ys)) w):c_bytes_Equal a b w K:=by
 refine call_bytes_Equal _ _ ?_
 unfold sh_bytes_Equal
 refine ⟨_,_,run_bytes_strB ha,⟨_,_,run_bytes_strB hb,?_⟩⟩
 dsimp only
 rw [strB_toList,strB_toList]
 have:(xs==ys)=decide (xs=ys):=by rw [Bool.eq_iff_iff];simp
 rw [this]
 exact hK
theorem each_spec {b:Slc} {bs:List UInt8} {f:Value} {one:Bool} {S:Nat→Prop} (Inv:List ChL→World→Prop) {K:Int→World→Prop} (hb:Rd E_uint8 w b bs) (hl:bs.length≤1000000000) (hbS:∀a,b.a=some a→¬S a.block)
  (h0:Inv [] w) (hI:∀L w1 w2,Inv L w1→Below w1.heap.size w1 w2→Inv L w2) (hS:∀L w1,Inv L w1→Chg S w w1)
  (step:∀L w1 x c,Inv L w1→L.length≤bs.length→ChO w1 w.heap.size x c→∀J:Bool→World→Prop,(∀w2,Inv (L++[c]) w2→J (goP one c) w2)→callR C f [(.agg #[(.string x.Kind),(.slice x.Data.a x.Data.n x.Data.c)])] [Kind.bool] w1 J)
  (hK:∀w1,Inv (eachR one bs).2 w1→K (eachR one bs).1 w1):c_png_each b f w K:=by
 refine call_png_each _ _ ?_
 unfold sh_png_each
 refine sign_spec fun t w1 hs hB1=>?_
 rw [hb.n]
 have hb1:=hb.ext hB1
 obtain ⟨m,hm⟩:∃m,m=min bs.length 8:=⟨_,rfl⟩
 have em:(if ((8:Nat):Int)<((bs.length:Nat):Int) then ((8:Nat):Int) else ((bs.length:Nat):Int))=(m:Int):=by
  by_cases h:((8:Nat):Int)<((bs.length:Nat):Int)
  ·rw [if_pos h];omega
  ·rw [if_neg h];omega
 dsimp only
 rw [em]
 have hm1:m≤bs.length:=by omega
 have hm8:m≤signL.length:=by show m≤8;omega
 refine hb1.slK (l:=0) (m:=m) rfl (.inl ⟨rfl,rfl⟩) (.inr rfl) (by omega) hm1 fun hp=>?_
 refine hs.slK (l:=0) (m:=m) rfl (.inl ⟨rfl,rfl⟩) (.inr rfl) (by omega) hm8 fun hq=>?_
 rw [List.drop_zero] at hp hq
 have hBd:=below_drew w1
 refine bytesEq_spec (hp.ext hBd) (hq.ext hBd) ?_
 have e1:bs.take m=bs.take 8:=by
  rcases Nat.le_total bs.length 8 with h | h
  ·rw [List.take_of_length_le (show bs.length≤8 from h),List.take_of_length_le (by omega)]
  ·rw [show m=8 by omega]
 have e2:signL.take m=signL.take bs.length:=by
  rcases Nat.le_total bs.length 8 with h | h
  ·rw [show m=bs.length by omega]
  ·rw [List.take_of_length_le (show signL.length≤bs.length from h),List.take_of_length_le (show signL.length≤m by show 8≤m;omega)]
 rw [e1,e2]
 have hB2:=below_t hB1 hBd
 obtain ⟨w2,hw2⟩:∃w2,w2=w1.drew:=⟨_,rfl⟩
 rw [←hw2] at hB2 ⊢
 have hI2:Inv [] w2:=hI _ _ _ h0 hB2
 refine cond_of (fun hne=>?_) fun heq=>?_
 ·have hne:bs.take 8≠signL.take bs.length:=by simpa using hne
  have hs3:signP bs=3:=by unfold signP;rw [if_pos hne]
  have he:eachR one bs=(3,[]):=by unfold eachR;rw [hs3,if_pos (by decide)]
  rw [he] at hK
  exact hK _ hI2
 have heq:bs.take 8=signL.take bs.length:=by simpa using heq
 have heq':¬bs.take 8≠signL.take bs.length:=fun h=>h heq
 refine cond_of (fun hlt=>?_) fun hge=>?_
 ·have hlt:=of_decide_eq_true hlt
  have hs2:signP bs=2:=by unfold signP;rw [if_neg heq',if_pos (by omega)]
  have he:eachR one bs=(2,[]):=by unfold eachR;rw [hs2,if_pos (by decide)]
  rw [he] at hK
  exact hK _ hI2
 have hge:=of_decide_eq_false hge
 have hs0:signP bs=0:=by unfold signP;rw [if_neg heq',if_neg (by omega)]
 have he:eachR one bs=chunksF one bs.length (bs.drop 8):=by unfold eachR;rw [hs0,if_neg (by decide)]
 have hb2:=hb.ext hB2
 refine hb2.slK (l:=8) (m:=bs.length) rfl (.inr rfl) (.inl ⟨rfl,rfl⟩) (by omega) (by omega) fun hr=>?_
 have hr0:=hb.part (l:=8) (m:=bs.length) (by omega) (by omega)
 rw [List.take_length] at hr hr0
 have hrS:∀a,(⟨cut b.a 8 b.c E_uint8.k,bs.length-8,b.c-8⟩:Slc).a=some a→¬S a.block:=fun a ha=>by
  obtain ⟨a',ha',e⟩:=cut_block ha
  rw [e]
  exact hbS a' ha'
 refine loopP_rule (fun (s:Slc×Unit) w3=>∃(L:List ChL) (rest:List UInt8) (fu:Nat),Inv L w3∧Rd E_uint8 w s.1 rest∧(∀a,s.1.a=some a→¬S a.block)∧rest.length<fu∧L.length+rest.length≤bs.length∧chunksF one bs.length (bs.drop 8)=((chunksF one fu rest).1,L++(chunksF one fu rest).2)) (fun s=>s.1.n)
  ⟨[],bs.drop 8,bs.length,hI2,hr0,hrS,by rw [List.length_drop];omega,by rw [List.length_drop];simp,by simp⟩ ?_
 rintro ⟨s,u⟩ w3 ⟨L,rest,fu,hL,hrd,hsS,hfu,hlen,hch⟩ I hIl
 dsimp only at hrd hsS ⊢
 obtain ⟨fu,rfl⟩:∃k,fu=k+1:=⟨fu-1,by omega⟩
 have hC:=hS _ _ hL
 have hrd3:Rd E_uint8 w3 s rest:=hrd.chg hC fun a ha=>hsS a ha
 refine chunk_spec hrd3 (by omega) (fun n x w4 hcp hn hB4=>?_) (fun c n x w4 hcp hx hB4 hn12 hnle=>?_)
 ·refine nw_blk fun w5 h5 hB5 hs5=>?_
  refine all_of h5 rfl fun w6 h6 hc6 hs6=>?_
  have hn':((n:Int) !=0)=true:=by simp;exact hn
  refine cond_t hn' ?_
  have:eachR one bs=(n,L):=by rw [he,hch,chunksF,hcp];simp
  rw [this] at hK
  refine hK _ (hI _ _ _ hL (below_one (below_t hB4 hB5) hc6 hB4.size))
 ·refine nw_blk fun w5 h5 hB5 hs5=>?_
  refine all_of h5 rfl fun w6 h6 hc6 hs6=>?_
  refine cond_f rfl ?_
  refine ldS_of (r:=T_png_Chunk.rep) (x:=x) h6.cells ?_
  have hB6:=below_one (below_t hB4 hB5) hc6 hB4.size
  have hL6:=hI _ _ _ hL hB6
  have hx6:ChO w6 w.heap.size x c:=((hx.ext hB5).chg hc6 fun k hk e=>by have:=(hx.data.lt k hk).2;omega).base hC.size
  refine step L w6 x c hL6 (by omega) hx6 _ fun w7 hL7=>?_
  cases hg:goP one c with
  | false =>
   refine cond_t rfl ?_
   have hg':(one || decide (c.kind=iendL))=true:=by unfold goP at hg;revert hg;cases (one || decide (c.kind=iendL))<;>simp
   have:eachR one bs=(0,L++[c]):=by rw [he,hch,chunksF,hcp];simp only [hg'];rfl
   rw [this] at hK
   exact hK _ hL7
  | true =>
   refine cond_f rfl ?_
   have hg':(one || decide (c.kind=iendL))=false:=by unfold goP at hg;revert hg;cases (one || decide (c.kind=iendL))<;>simp
   have hC7:=hS _ _ hL7
   have hrd7:Rd E_uint8 w7 s rest:=hrd.chg hC7 fun a ha=>hsS a ha
   refine hrd7.slK (l:=n) (m:=rest.length) rfl (.inr rfl) (.inl ⟨rfl,rfl⟩) hnle (Nat.le_refl _) fun hrn=>?_
   have hrn0:=hrd.part (l:=n) (m:=rest.length) hnle (Nat.le_refl _)
   rw [List.take_length] at hrn0
   refine hIl _ _ ⟨L++[c],rest.drop n,fu,hL7,hrn0,fun a ha=>?_,by rw [List.length_drop];omega,by rw [List.length_append,List.length_drop,List.length_singleton];omega,?_⟩ ?_
   ·obtain ⟨a',ha',e⟩:=cut_block ha
    rw [e]
    exact hsS a' ha'
   ·rw [hch,chunksF,hcp]
    simp only [hg']
    simp
   ·have:=hrd.n
    show rest.length-n<s.n
    omega
structure ChsO (w:World) (b:Nat) (s:Slc) (L:List ChL):Prop where
 ex:∃xs,Go.Vc.Own E_png_Chunk w b s xs∧xs.length=L.length∧∀(i:Nat) x c,xs[i]?=some x→L[i]?=some c→ChO w b x c
theorem ChsO.ext {w w':World} {b:Nat} {s:Slc} {L:List ChL} (h:ChsO w b s L) (hB:Below w.heap.size w w'):ChsO w' b s L:=by
 obtain ⟨xs,h1,h2,h3⟩:=h
 exact ⟨xs,h1.ext hB,h2,fun i x c hx hc=>(h3 i x c hx hc).ext hB⟩
theorem Chunks_spec {b:Slc} {bs:List UInt8} {K:Slc→Int→World→Prop} (hb:Rd E_uint8 w b bs) (hbl:∀k,b.blk=some k→k<w.heap.size) (hl:bs.length≤1000000)
  (hK:∀s w',ChsO w' w.heap.size s (chunksP false bs).2→Below w.heap.size w w'→K s (chunksP false bs).1 w'):c_png_Chunks b w K:=by
 refine call_png_Chunks _ ?_
 unfold sh_png_Chunks
 refine nw_blk fun w1 h1 hB1 hs1=>?_
 have hb1:=hb.ext hB1
 refine each_spec (one:=false) (S:=fun k=>k=w.heap.size) (fun L w2=>Chg (fun k=>k=w.heap.size) w1 w2∧∃s:Slc,Blk w2 w.heap.size ty_sl_png_Chunk [.slice s.a s.n s.c]∧ChsO w2 (w.heap.size+1) s L) hb1 (by omega)
  (fun a ha e=>by have:=hbl a.block (slk.2 ⟨a,ha,rfl⟩);omega)
  ⟨Chg.refl _ _,⟨none,0,0⟩,h1,[],Own.nil _ _ _,rfl,fun i x c hx=>by simp at hx⟩ ?_ (fun L w2 h=>h.1) ?_ ?_
 ·rintro L w2 w3 ⟨hc,s,hs,hL⟩ hB
  exact ⟨hc.trans (Chg.of_ext (S:=fun k=>k=w.heap.size) hB) fun i _ hi=>hi,s,hs.ext hB,hL.ext hB⟩
 ·rintro L w2 x c ⟨hc,s,hs,xs,h2,h3,h4⟩ hLl hx J hJ
  refine callR_plain (by kernel_rfl) ?_
  have hcall:c_png_Chunks_1 x ⟨w.heap.size,0,none⟩ w2 J:=by
   refine call_png_Chunks_1 _ _ ?_
   unfold sh_png_Chunks_1
   refine nw_blk fun w3 hb3 hB3 hs3=>?_
   refine ldSl_of (x:=s) ((hs.ext hB3).cell 0 rfl) ?_
   refine ldS_of (r:=T_png_Chunk.rep) (x:=x) hb3.cells ?_
   have hsz:=hc.size
   have hx3:=hx.ext hB3
   refine snoc_own (E:=E_png_Chunk) (y:=x) sT_sl_png_Chunk (h2.ext hB3) rfl (by omega) (by rw [by_sl_png_Chunk];omega) (by unfold maxLen;omega) fun r w5 hr5 hch hrb=>?_
   have hne:∀k,s.blk=some k→k≠w.heap.size:=own_ne_blk h2 hs (by decide)
   have hs5:Blk w5 w.heap.size ty_sl_png_Chunk [.slice s.a s.n s.c]:=(hs.ext hB3).chg hch fun e=>hne _ e rfl
   refine all_of hs5 rfl fun w6 h6 hc6 hs6=>?_
   have hb5:Blk w5 w2.heap.size ty_png_Chunk (T_png_Chunk.rep.cells x):=hb3.chg hch fun e=>by have:=(h2.lt _ e).2;omega
   have hb6:=hb5.chg hc6 (by omega)
   refine ldStr_of (x:=x.Kind) (hb6.cells 0 _ rfl) ?_
   have hke:(!(x.Kind.toList==(⟨#[73,69,78,68]⟩:ByteArray).toList))=goP false c:=by
    rw [hx.kind,strB_toList,show (⟨#[73,69,78,68]⟩:ByteArray)=strB iendL from rfl,strB_toList]
    unfold goP
    rw [Bool.false_or]
    congr 1
    rw [Bool.eq_iff_iff]
    simp
   rw [hke]
   have hC3:Chg (fun k=>k=w.heap.size) w1 w3:=hc.trans (Chg.of_ext (S:=fun k=>k=w.heap.size) hB3) fun i _ hi=>hi
   have hlo:=h2.lt
   have hC5:Chg (fun k=>k=w.heap.size) w1 w5:=hC3.trans hch fun i hi e=>by have:=(hlo i e).1;omega
   refine hJ w6 ⟨hC5.trans hc6 fun i _ hi=>hi,r,h6,xs++[x],?_,by simp [h3],fun i y d hy hd=>?_⟩
   ·refine hr5.chg hc6 fun g hg e=>?_
    have:=(hr5.lt g hg).1
    omega
   ·have key:∀{y d},ChO w3 (w.heap.size+1) y d→ChO w6 (w.heap.size+1) y d:=fun {y d} h=>by
     refine (h.chg hch fun k hk e=>?_).chg hc6 fun k hk e=>?_
     ·exact own_ne_row h.data (h2.ext hB3) (by decide) k hk e
     ·have:=(h.data.lt k hk).1
      omega
    rcases Nat.lt_or_ge i xs.length with hi | hi
    ·rw [List.getElem?_append_left hi] at hy
     rw [List.getElem?_append_left (by omega)] at hd
     exact key ((h4 i y d hy hd).ext hB3)
    ·rw [List.getElem?_append_right hi] at hy
     rw [List.getElem?_append_right (by omega)] at hd
     rw [h3] at hy
     generalize i-L.length=j at hy hd
     match j,hy,hd with
     | 0,hy,hd =>
      simp at hy hd
      subst hy hd
      exact key (hx3.base (by omega))
     | j+1,hy,hd=>simp at hy
  refine Calls.mono hcall ?_
  rintro e w' ⟨r,rfl,hk⟩
  exact ⟨r,rfl,hk⟩
 ·rintro w2 ⟨hc,s,hs,hL⟩
  rw [chunksP_eq] at hK
  have hB2:Below w.heap.size w w2:=below_one hB1 hc (Nat.le_refl _)
  by_cases h:(eachR false bs).1≠0
  ·have hn':(((eachR false bs).1:Int) !=0)=true:=by simp;exact h
   refine cond_t hn' ?_
   rw [if_pos h] at hK
   exact hK _ w2 ⟨[],Own.nil _ _ _,rfl,fun i x c hx=>by simp at hx⟩ hB2
  ·have h0:(eachR false bs).1=0:=by omega
   rw [h0] at hK ⊢
   refine cond_f rfl ?_
   refine ldSl_of (x:=s) (hs.cell 0 rfl) ?_
   rw [if_neg (by decide)] at hK
   obtain ⟨xs,h1,h2,h3⟩:=hL
   exact hK s w2 ⟨xs,h1.base (by omega),h2,fun i x c hx hc=>(h3 i x c hx hc).base (by omega)⟩ hB2
end
end Go.Proofs.YtmagnpcgpinmcaaGreat
set_option linter.unusedVariables false
namespace Go.Proofs.YtmagnpcgpinmcaaGreat
open Go.Vc Go.RowKit
set_option maxRecDepth 400000
theorem rdcell {w:World} {s:Slc} {xs:List UInt8} (h:Rd E_uint8 w s xs) {i:Nat} {x:UInt8} (hx:xs[i]?=some x):w.cell? (s.at_ 1 i)=some (.int .u8 (x.toNat:Int)):=by
 have:=h.at_ i x hx 0 _ rfl
 have h2:w.cell? (s.at_ E_uint8.k i)=some (.int .u8 (x.toNat:Int)):=by simpa using this
 exact h2
theorem beqI_t {a b:Int} (h:a=b):(a==b)=true:=by rw [h];exact beq_self_eq_true b
theorem beqI_f {a b:Int} (h:a≠b):(a==b)=false:=by simpa using h
theorem bneI_t {a b:Int} (h:a≠b):(a !=b)=true:=by simpa using h
theorem bneI_f {a b:Int} (h:a=b):(a !=b)=false:=by rw [h];simp
theorem eachR_one {bs:List UInt8} (h:(eachR true bs).1=0):∃c,(eachR true bs).2=[c]:=by
 unfold eachR at h ⊢
 split at h
 ·rename_i hs;exact absurd h hs
 ·rename_i hs
  rw [if_neg hs]
  cases hl:bs.length with
  | zero=>rw [hl] at h;cases h
  | succ n =>
   rw [hl,chunksF] at h
   rw [chunksF]
   cases hc:chunkP (bs.drop 8) with
   | err k=>rw [hc] at h;exact absurd h (chunkP_err hc)
   | ok c k=>exact ⟨c,rfl⟩
section
variable {w:World}
theorem Samples_spec {color:Int} {K:Int→World→Prop} (hK:K ((samplesOf color:Nat):Int) w):c_png_Samples color w K:=by
 refine call_png_Samples _ ?_
 unfold sh_png_Samples
 refine joinP_of fun J hJ=>?_
 unfold samplesOf at hK
 have h2:∀b:Bool,(b=true↔color=0∨color=3)→J (b,()) w:=fun b hb=>hJ _ _ (by
  refine cond_of (fun h=>?_) fun h=>?_
  ·rw [if_pos (hb.1 h)] at hK
   exact hK
  ·rw [if_neg (fun e=>by rw [hb.2 e] at h;cases h)] at hK
   refine cond_of (fun h=>?_) fun h=>?_
   ·rw [if_pos (by simpa using h)] at hK
    exact hK
   ·rw [if_neg (by simpa using h)] at hK
    refine cond_of (fun h=>?_) fun h=>?_
    ·rw [if_pos (by simpa using h)] at hK
     exact hK
    ·rw [if_neg (by simpa using h)] at hK
     refine cond_of (fun h=>?_) fun h=>?_
     ·rw [if_pos (by simpa using h)] at hK
      exact hK
     ·rw [if_neg (by simpa using h)] at hK
      exact hK)
 refine cond_of (fun h=>h2 _ ?_) fun h=>h2 _ ?_
 ·have h:color=0:=by simpa using h
  simp [h]
 ·have h:color≠0:=by simpa using h
  simp [h]
theorem ContainsI_spec {s:Slc} {zs:List Int} {v:Int} {K:Bool→World→Prop} (hs:Rd E_int w s zs) (hl:zs.length≤1000000) (hK:K (decide (v∈zs)) w):c_slices_Contains_int_int s v w K:=by
 refine call_slices_Contains_int_int _ _ ?_
 unfold sh_slices_Contains_int_int
 refine call_slices_Index_int_int _ _ ?_
 unfold sh_slices_Index_int_int
 rw [hs.n]
 refine loopP_rule (fun (st:Int×Unit) w1=>w1=w∧∃i:Nat,st.1=i∧i≤zs.length∧v ∉ zs.take i) (fun st=>zs.length-st.1.toNat) ⟨rfl,0,rfl,by omega,by simp⟩ ?_
 rintro ⟨i,u⟩ w1 ⟨rfl,m,hi,hm,hno⟩ I hI
 dsimp only at hi ⊢
 subst hi
 by_cases hlt:m<zs.length
 ·refine cond_t (decide_eq_true (by omega)) ?_
  obtain ⟨z,hz⟩:∃z,zs[m]?=some z:=⟨_,List.getElem?_eq_getElem hlt⟩
  refine hs.ix (i:=(m:Int)) (k:=1) rfl (by omega) (by omega) fun hcell=>?_
  refine ldI_of (x:=z) (hs.at_ m z hz 0 _ rfl) ?_
  refine cond_of (fun h=>?_) fun h=>?_
  ·have h:v=z:=by simpa using h
   have:decide (v∈zs)=true:=decide_eq_true (h ▸ List.mem_of_getElem? hz)
   rw [this] at hK
   rw [decide_eq_true (by omega)]
   exact hK
  ·have h:v≠z:=by simpa using h
   rw [wrap64_id (by omega)]
   refine hI _ _ ⟨rfl,m+1,rfl,by omega,?_⟩ (by simp;omega)
   rw [List.take_add_one,hz]
   simp [hno,h]
 ·refine cond_f (decide_eq_false (by omega)) ?_
  obtain rfl:m=zs.length:=by omega
  rw [List.take_length] at hno
  rw [decide_eq_false hno] at hK
  exact hK
def depthsOf (color:Int):List Int:=if color=0 then [1,2,4,8,16] else if color=3 then [1,2,4,8] else [8,16]
theorem depths_ok (h:T_png_Head):decide (h.Depth∈depthsOf h.Color)=depthOk h:=by
 unfold depthsOf depthOk
 by_cases h0:h.Color=0
 ·rw [if_pos h0,decide_eq_decide]
  simp only [List.mem_cons,List.mem_nil_iff,or_false]
  omega
 ·rw [if_neg h0]
  by_cases h3:h.Color=3
  ·rw [if_pos h3,decide_eq_decide]
   simp only [List.mem_cons,List.mem_nil_iff,or_false]
   omega
  ·rw [if_neg h3,decide_eq_decide]
   simp only [List.mem_cons,List.mem_nil_iff,or_false]
   omega
theorem Check_spec {h:T_png_Head} {K:Int→World→Prop} (hK:∀w',Below w.heap.size w w'→K ((checkP h:Nat):Int) w'):c_png_Check h w K:=by
 refine call_png_Check _ ?_
 unfold sh_png_Check
 refine nw_blk fun w1 h1 hB1 hs1=>?_
 refine joinP_of fun J1 hJ1=>?_
 unfold checkP at hK
 refine ldI_of (x:=h.W) (h1.cells 0 _ rfl) ?_
 refine cond_of (fun c1=>?_) fun c1=>?_
 ·have c1:=of_decide_eq_true c1
  rw [if_pos (by omega)] at hK
  exact hK w1 hB1
 have c1:=of_decide_eq_false c1
 refine ldI_of (x:=h.W) (h1.cells 0 _ rfl) ?_
 refine cond_of (fun c2=>?_) fun c2=>?_
 ·have c2:=of_decide_eq_true c2
  rw [if_pos (by omega)] at hK
  exact hK w1 hB1
 have c2:=of_decide_eq_false c2
 refine ldI_of (x:=h.H) (h1.cells 1 _ rfl) ?_
 refine cond_of (fun c3=>?_) fun c3=>?_
 ·have c3:=of_decide_eq_true c3
  rw [if_pos (by omega)] at hK
  exact hK w1 hB1
 have c3:=of_decide_eq_false c3
 refine ldI_of (x:=h.H) (h1.cells 1 _ rfl) ?_
 refine cond_of (fun c4=>?_) fun c4=>?_
 ·have c4:=of_decide_eq_true c4
  rw [if_pos (by omega)] at hK
  exact hK w1 hB1
 have c4:=of_decide_eq_false c4
 rw [if_neg (by omega)] at hK
 refine hJ1 _ _ ?_
 refine nw_blk fun w3 h3 hB3 hs3=>?_
 have hB13:=below_t hB1 hB3
 have h13:=h1.ext hB3
 refine joinP_of fun J2 hJ2=>?_
 have key:∀(s:Slc) w4,Rd E_int w4 s (depthsOf h.Color)→Below w.heap.size w w4→Below w1.heap.size w1 w4→J2 (s,()) w4:=by
  intro s w4 hs hB hB'
  refine hJ2 _ _ ?_
  have h4:=h1.ext hB'
  refine ldI_of (x:=h.Color) (h4.cells 3 _ rfl) (Samples_spec ?_)
  refine cond_of (fun e=>?_) fun e=>?_
  ·have e:samplesOf h.Color=0:=by
    have:((samplesOf h.Color:Nat):Int)=0:=by simpa using e
    omega
   rw [if_pos (.inl e)] at hK
   exact hK w4 hB
  have e:samplesOf h.Color≠0:=by
   have:((samplesOf h.Color:Nat):Int)≠0:=by simpa using e
   omega
  refine ldI_of (x:=h.Depth) (h4.cells 2 _ rfl) (ContainsI_spec hs (by unfold depthsOf;split<;>(try split)<;>decide) ?_)
  rw [depths_ok]
  refine cond_of (fun e2=>?_) fun e2=>?_
  ·have e2:depthOk h=false:=by simpa using e2
   rw [if_pos (.inr (.inl e2))] at hK
   exact hK w4 hB
  have e2:depthOk h=true:=by simpa using e2
  refine ldI_of (x:=h.Lace) (h4.cells 4 _ rfl) ?_
  refine cond_of (fun e3=>?_) fun e3=>?_
  ·have e3:=of_decide_eq_true e3
   rw [if_pos (.inr (.inr (.inl e3)))] at hK
   exact hK w4 hB
  have e3:=of_decide_eq_false e3
  refine ldI_of (x:=h.Lace) (h4.cells 4 _ rfl) ?_
  refine cond_of (fun e4=>?_) fun e4=>?_
  ·have e4:=of_decide_eq_true e4
   rw [if_pos (.inr (.inr (.inr e4)))] at hK
   exact hK w4 hB
  have e4:=of_decide_eq_false e4
  rw [if_neg (by rw [e2];simp;omega)] at hK
  exact hK w4 hB
 refine ldI_of (x:=h.Color) (h13.cells 3 _ rfl) ?_
 refine cond_of (fun e=>?_) fun e=>?_
 ·have e:h.Color=0:=by simpa using e
  refine nw_blk fun w7 h7 hB7 hs7=>key _ w7 ?_ (below_t hB13 hB7) (below_t hB3 hB7)
  have:depthsOf h.Color=[1,2,4,8,16]:=by unfold depthsOf;rw [if_pos e]
  rw [this]
  exact rd_lits (E:=E_int) (ys:=[1,2,4,8,16]) h7 (by decide) rfl
 have e:h.Color≠0:=by simpa using e
 refine cond_of (fun e3=>?_) fun e3=>?_
 ·have e3:h.Color=3:=by simpa using e3
  refine nw_blk fun w7 h7 hB7 hs7=>key _ w7 ?_ (below_t hB13 hB7) (below_t hB3 hB7)
  have:depthsOf h.Color=[1,2,4,8]:=by unfold depthsOf;rw [if_neg e,if_pos e3]
  rw [this]
  exact rd_lits (E:=E_int) (ys:=[1,2,4,8]) h7 (by decide) rfl
 ·have e3:h.Color≠3:=by simpa using e3
  refine key _ w3 ?_ hB13 hB3
  have:depthsOf h.Color=[8,16]:=by unfold depthsOf;rw [if_neg e,if_neg e3]
  rw [this]
  exact rd_lits (E:=E_int) (ys:=[8,16]) h3 (by decide) rfl
theorem pHead_spec {x:T_png_Chunk} {c:ChL} {K:T_png_Head→Int→World→Prop} (hx:ChA w x c) (hK:∀w',Below w.heap.size w w'→K (headP c).2 ((headP c).1:Nat) w'):c_png_head x w K:=by
 refine call_png_head _ ?_
 unfold sh_png_head
 refine nw_blk fun w1 h1 hB1 hs1=>nw_blk fun w2 h2 hB2 hs2=>?_
 have hB12:=below_t hB1 hB2
 have h12:=h1.ext hB2
 have hx2:=hx.ext hB12
 refine ldSl_of (x:=x.Data) (h12.cells 1 _ rfl) ?_
 refine joinP_of fun J1 hJ1=>joinP_of fun J2 hJ2=>?_
 have hbad:∀w',Below w2.heap.size w2 w'→∀(n:Nat),headP c=(n,headZ)→stK ⟨w1.heap.size,0,none⟩ [(.int .i64 0),(.int .i64 0),(.int .i64 0),(.int .i64 0),(.int .i64 0)] w' fun w25=>ldS T_png_Head.rep ⟨w1.heap.size,0,none⟩ w25 fun r_6=>K r_6 n w25:=by
  intro w' hB n hn
  rw [hn] at hK
  exact res_of (r:=T_png_Head.rep) (x:=headZ) (h2.ext hB) rfl rfl fun w3 hc hs=>hK w3 (below_one (below_t hB12 hB) hc (by omega))
 have hJ2f:(c.kind≠ihdrL∨c.data.length≠13∨c.data[10]?.getD 0≠0∨c.data[11]?.getD 0≠0)→J2 (true,()) w2:=fun h=>hJ2 _ _ (cond_t rfl (hbad w2 (Below.refl _ _) 3 (by unfold headP;rw [if_pos h])))
 refine ldStr_of (x:=x.Kind) (h12.cells 0 _ rfl) ?_
 rw [hx.kind,strB_toList,show (⟨#[73,72,68,82]⟩:ByteArray)=strB ihdrL from rfl,strB_toList,hx.data.n]
 refine cond_of (fun e=>?_) fun e=>?_
 ·exact hJ2f (.inl (by simpa using e))
 have e1:c.kind=ihdrL:=by simpa using e
 refine cond_of (fun e=>?_) fun e=>?_
 ·refine hJ2f (.inr (.inl fun h=>?_))
  rw [h] at e
  cases e
 have e2:c.data.length=13:=by
  have:((c.data.length:Nat):Int)=13:=by simpa using e
  omega
 have gt:∀i,i<13→∃y,c.data[i]?=some y:=fun i hi=>⟨_,List.getElem?_eq_getElem (by omega)⟩
 have rd:∀{i:Nat} {y:UInt8} {w':World} {K:Addr→Prop},Below w.heap.size w w'→i<13→c.data[i]?=some y→K (x.Data.at_ 1 i)→ixK x.Data (i:Int) 1 K:=fun {i y w' K} hB hi hy hk=>by
  refine (hx.data.ext hB).ix (i:=(i:Int)) rfl (by omega) (by omega) fun _=>?_
  exact hk
 obtain ⟨y10,hy10⟩:=gt 10 (by omega)
 obtain ⟨y11,hy11⟩:=gt 11 (by omega)
 refine rd (i:=10) hB12 (by omega) hy10 (ldI_of (rdcell hx2.data hy10) ?_)
 refine cond_of (fun e=>?_) fun e=>?_
 ·refine hJ2f (.inr (.inr (.inl ?_)))
  rw [hy10]
  intro h
  rw [show y10=0 from h] at e
  simp at e
 have e3:y10=0:=by
  have:((y10.toNat:Nat):Int)=0:=by simpa using e
  exact UInt8.toNat_inj.1 (by simpa using this)
 refine rd (i:=11) hB12 (by omega) hy11 (ldI_of (rdcell hx2.data hy11) ?_)
 by_cases e4:y11≠0
 ·have:(((y11.toNat:Nat):Int) !=0)=true:=by
   refine bneI_t fun h=>e4 (UInt8.toNat_inj.1 ?_)
   have:y11.toNat=0:=by omega
   simpa using this
  rw [this]
  exact hJ2f (.inr (.inr (.inr (by rw [hy11];exact e4))))
 have e4:y11=0:=Classical.not_not.1 e4
 have:(((y11.toNat:Nat):Int) !=0)=false:=by rw [e4];rfl
 rw [this]
 have hg:¬(c.kind≠ihdrL∨c.data.length≠13∨c.data[10]?.getD 0≠0∨c.data[11]?.getD 0≠0):=by
  rw [hy10,hy11,e3,e4]
  simp [e1,e2]
 refine hJ2 _ _ (cond_f rfl (hJ1 _ _ ?_))
 clear hJ2 hJ1 hJ2f
 obtain ⟨y8,hy8⟩:=gt 8 (by omega)
 obtain ⟨y9,hy9⟩:=gt 9 (by omega)
 obtain ⟨y12,hy12⟩:=gt 12 (by omega)
 have dd:∀{w'},Below w.heap.size w w'→Rd E_uint8 w' x.Data c.data:=fun hB=>hx.data.ext hB
 have hBd:=below_t hB12 (below_drew w2)
 have hBd2:Below w2.heap.size w2 w2.drew:=below_drew w2
 refine hx2.data.slK (l:=4) (m:=13) rfl (.inr rfl) (.inl ⟨rfl,e2.symm⟩) (by omega) (by omega) fun hp=>?_
 rw [List.take_of_length_le (by omega)] at hp
 refine rd (i:=8) hB12 (by omega) hy8 (ldI_of (rdcell (dd hBd) hy8) ?_)
 refine rd (i:=9) hB12 (by omega) hy9 (ldI_of (rdcell (dd hBd) hy9) ?_)
 refine rd (i:=12) hB12 (by omega) hy12 (ldI_of (rdcell (dd hBd) hy12) ?_)
 have hw8:∀y:UInt8,IntKind.i64.wrap ((y.toNat:Nat):Int)=((y.toNat:Nat):Int):=fun y=>wrap64_id (by have:=y.toNat_lt;omega)
 have hwb:∀l:List UInt8,IntKind.i64.wrap ((bigN (l.take 4):Nat):Int)=((bigN (l.take 4):Nat):Int):=fun l=>wrap64_id (by have:=bigN_lt (bs:=l.take 4) (by rw [List.length_take];omega);omega)
 have hH:headOf c.data=⟨(bigN (c.data.take 4):Nat),(bigN ((c.data.drop 4).take 4):Nat),(y8.toNat:Nat),(y9.toNat:Nat),(y12.toNat:Nat)⟩:=by
  unfold headOf
  rw [hy8,hy9,hy12]
  rfl
 rw [hw8,hw8,hw8]
 have tail:∀(g:Nat) (vs:List Value) w6,vs.length=5→w2.heap.size≤g→Below w2.heap.size w2 w6→Blk w6 g ty_png_Head vs →
   stK ⟨g,0,none⟩ [(.int .i64 ((bigN (c.data.take 4):Nat):Int)),(.int .i64 ((bigN ((c.data.drop 4).take 4):Nat):Int)),(.int .i64 ((y8.toNat:Nat):Int)),(.int .i64 ((y9.toNat:Nat):Int)),(.int .i64 ((y12.toNat:Nat):Int))] w6 fun w7 =>
     ldS T_png_Head.rep ⟨g,0,none⟩ w7 fun t50 =>
     c_png_Check t50 w7 fun t51 w8 =>
     cond (t51 !=(0:Int))
      (stK ⟨w1.heap.size,0,none⟩ [(.int .i64 0),(.int .i64 0),(.int .i64 0),(.int .i64 0),(.int .i64 0)] w8 fun w9=>ldS T_png_Head.rep ⟨w1.heap.size,0,none⟩ w9 fun r=>K r t51 w9)
      (ldS T_png_Head.rep ⟨g,0,none⟩ w8 fun t56=>stK ⟨w1.heap.size,0,none⟩ (T_png_Head.rep.cells t56) w8 fun w10=>ldS T_png_Head.rep ⟨w1.heap.size,0,none⟩ w10 fun r_1=>K r_1 0 w10):=by
  intro g vs w6 hvs hg6 hB6 hb6
  refine all_of hb6 hvs.symm fun w7 hb7 hc7 hs7=>?_
  have hb7:Blk w7 g ty_png_Head (T_png_Head.rep.cells (headOf c.data)):=by rw [hH];exact hb7
  have hB7:Below w2.heap.size w2 w7:=below_one hB6 hc7 hg6
  refine ldS_of (r:=T_png_Head.rep) (x:=headOf c.data) hb7.cells ?_
  refine Check_spec fun w8 hB8=>?_
  have hB28:=below_t hB7 hB8
  by_cases hz:checkP (headOf c.data)≠0
  ·refine cond_t (bneI_t (by omega)) ?_
   exact hbad w8 hB28 _ (by unfold headP;rw [if_neg hg,if_pos hz])
  ·have hz:checkP (headOf c.data)=0:=by omega
   rw [hz]
   refine cond_f rfl ?_
   refine ldS_of (r:=T_png_Head.rep) (x:=headOf c.data) (hb7.ext hB8).cells ?_
   have hh:headP c=(0,headOf c.data):=by unfold headP;rw [if_neg hg,hz,if_neg (by decide)]
   rw [hh] at hK
   exact res_of (r:=T_png_Head.rep) (x:=headOf c.data) (h2.ext hB28) rfl rfl fun w3 hc hs=>hK w3 (below_one (below_t hB12 hB28) hc (by omega))
 have hp':∀{w'},Below w2.heap.size w2 w'→Rd E_uint8 w' _ _:=fun hB=>hp.ext hB
 have c8:∀{w'},Below w2.heap.size w2 w'→w'.cell? (x.Data.at_ 1 8)=some (.int .u8 (y8.toNat:Int)):=fun hB=>rdcell (hx2.data.ext hB) hy8
 have c9:∀{w'},Below w2.heap.size w2 w'→w'.cell? (x.Data.at_ 1 9)=some (.int .u8 (y9.toNat:Int)):=fun hB=>rdcell (hx2.data.ext hB) hy9
 have c12:∀{w'},Below w2.heap.size w2 w'→w'.cell? (x.Data.at_ 1 12)=some (.int .u8 (y12.toNat:Int)):=fun hB=>rdcell (hx2.data.ext hB) hy12
 have l4:4≤(c.data.drop 4).length:=by rw [List.length_drop];omega
 refine ⟨?_,?_⟩
 ·refine BigG (hx2.data.ext hBd2) (by omega) ?_
  have hB4:=below_t hBd2 (below_drew _)
  refine ⟨c12 hB4,c9 hB4,c8 hB4,?_,?_⟩
  ·refine BigG (hp' hB4) l4 ?_
   have hB5:=below_t hB4 (below_drew _)
   refine ⟨c12 hB5,c9 hB5,c8 hB5,nw_blk fun w6 hb6 hB6 hs6=>?_⟩
   have hB6':=below_t hB5 hB6
   refine ⟨c12 hB6',c9 hB6',c8 hB6',?_⟩
   rw [hwb,hwb]
   exact tail _ _ w6 rfl hB5.size hB6' hb6
  ·refine nw_blk fun w6 hb6 hB6 hs6=>?_
   have hB6':=below_t hB4 hB6
   refine ⟨c12 hB6',c9 hB6',c8 hB6',BigG (hp' hB6') l4 ?_⟩
   have hB7':=below_t hB6' (below_drew _)
   refine ⟨c12 hB7',c9 hB7',c8 hB7',?_⟩
   rw [hwb,hwb]
   exact tail _ _ _ rfl hB4.size hB7' (hb6.ext (below_drew _))
 ·refine nw_blk fun w6 hb6 hB6 hs6=>?_
  have hB6':=below_t hBd2 hB6
  refine ⟨c12 hB6',c9 hB6',c8 hB6',BigG (hx2.data.ext hB6') (by omega) ?_⟩
  have hB7':=below_t hB6' (below_drew _)
  refine ⟨c12 hB7',c9 hB7',c8 hB7',BigG (hp' hB7') l4 ?_⟩
  have hB8':=below_t hB7' (below_drew _)
  refine ⟨c12 hB8',c9 hB8',c8 hB8',?_⟩
  rw [hwb,hwb]
  exact tail _ _ _ rfl hBd2.size hB8' ((hb6.ext (below_drew _)).ext (below_drew _))
theorem Info_spec {b:Slc} {bs:List UInt8} {K:T_png_Head→Int→World→Prop} (hb:Rd E_uint8 w b bs) (hbl:∀k,b.blk=some k→k<w.heap.size) (hl:bs.length≤1000000)
  (hK:∀w',Below w.heap.size w w'→K (infoP bs).2 ((infoP bs).1:Nat) w'):c_png_Info b w K:=by
 refine call_png_Info _ ?_
 unfold sh_png_Info
 refine nw_blk fun w1 h1 hB1 hs1=>nw_blk fun w2 h2 hB2 hs2=>?_
 have hB12:=below_t hB1 hB2
 have hb2:=hb.ext hB12
 refine each_spec (one:=true) (S:=fun k=>k=w1.heap.size) (fun L w3=>Chg (fun k=>k=w1.heap.size) w2 w3∧∃x,Blk w3 w1.heap.size ty_png_Chunk (T_png_Chunk.rep.cells x)∧(∀c,L.getLast?=some c→ChO w3 (w2.heap.size) x c)) hb2 (by omega)
  (fun a ha e=>by have:=hbl a.block (slk.2 ⟨a,ha,rfl⟩);omega)
  ⟨Chg.refl _ _,⟨⟨#[]⟩,⟨none,0,0⟩⟩,h2,fun c hc=>by cases hc⟩ ?_ (fun L w3 h=>h.1) ?_ ?_
 ·rintro L w3 w4 ⟨hc,x,hx,hL⟩ hB
  exact ⟨hc.trans (Chg.of_ext (S:=fun k=>k=w1.heap.size) hB) fun i _ hi=>hi,x,hx.ext hB,fun c h=>(hL c h).ext hB⟩
 ·rintro L w3 x c ⟨hc,x0,hx0,hL⟩ hLl hx J hJ
  refine callR_plain (by kernel_rfl) ?_
  have hcall:c_png_Info_1 x ⟨w1.heap.size,0,none⟩ w3 J:=by
   refine call_png_Info_1 _ _ ?_
   unfold sh_png_Info_1
   refine nw_blk fun w4 hb4 hB4 hs4=>?_
   refine ldS_of (r:=T_png_Chunk.rep) (x:=x) hb4.cells ?_
   refine all_of (hx0.ext hB4) rfl fun w5 h5 hc5 hs5=>?_
   have:goP true c=false:=rfl
   rw [this] at hJ
   refine hJ w5 ⟨(hc.trans (Chg.of_ext (S:=fun k=>k=w1.heap.size) hB4) fun i _ hi=>hi).trans hc5 fun i _ hi=>hi,x,h5,fun d hd=>?_⟩
   rw [List.getLast?_append] at hd
   simp at hd
   subst hd
   refine (hx.ext hB4).chg hc5 fun k hk e=>?_
   have:=(hx.data.lt k hk).1
   have:=hx0.lt
   omega
  refine Calls.mono hcall ?_
  rintro e w' ⟨r,rfl,hk⟩
  exact ⟨r,rfl,hk⟩
 ·rintro w3 ⟨hc,x,hx,hL⟩
  have hB3:Below w.heap.size w w3:=below_one hB12 hc (by omega)
  have h13:Blk w3 w.heap.size ty_png_Head _:=(h1.ext hB2).chg hc (by omega)
  unfold infoP at hK
  rw [chunksP_eq] at hK
  by_cases h:(eachR true bs).1≠0
  ·refine cond_t (bneI_t (by omega)) ?_
   rw [if_pos h] at hK
   refine res_of (r:=T_png_Head.rep) (x:=headZ) h13 rfl rfl fun w4 hc4 hs4=>?_
   have hK:=hK w4 (below_one hB3 hc4 (Nat.le_refl _))
   split at hK
   ·rename_i heq
    have:=congrArg Prod.snd heq
    cases this
   ·rename_i e x hne heq
    have:=congrArg Prod.fst heq
    dsimp only at this
    rw [this]
    exact hK
  ·have h0:(eachR true bs).1=0:=by omega
   obtain ⟨c,hcL⟩:=eachR_one h0
   rw [h0,hcL,if_neg (by decide)] at hK
   replace hK:∀w',Below w.heap.size w w'→K (headP c).2 ((headP c).1:Nat) w':=hK
   rw [h0]
   refine cond_f rfl ?_
   rw [hcL] at hL
   have hxc:=hL c rfl
   refine ldS_of (r:=T_png_Chunk.rep) (x:=x) hx.cells ?_
   refine pHead_spec hxc.a fun w4 hB4=>?_
   exact res_of (r:=T_png_Head.rep) (x:=(headP c).2) (h13.ext hB4) rfl rfl fun w5 hc5 hs5=>hK w5 (below_one (below_t hB3 hB4) hc5 (Nat.le_refl _))
end
end Go.Proofs.YtmagnpcgpinmcaaGreat
set_option linter.unusedVariables false
namespace Go.Proofs.YtmagnpcgpinmcaaGreat
open Go.Vc Go.RowKit
set_option maxRecDepth 400000
theorem w8 (y:UInt8):IntKind.i64.wrap ((y.toNat:Nat):Int)=((y.toNat:Nat):Int):=wrap64_id (by have:=y.toNat_lt;omega)
theorem wrap8_add (x y:UInt8):IntKind.u8.wrap ((x.toNat:Int)+(y.toNat:Int))=(((x+y).toNat:Nat):Int):=by
 rw [IntKind.wrap_u8,UInt8.toNat_add]
 omega
theorem wrap8_sub (x y:UInt8):IntKind.u8.wrap ((x.toNat:Int)-(y.toNat:Int))=(((x-y).toNat:Nat):Int):=by
 have hx:=x.toNat_lt
 have hy:=y.toNat_lt
 rw [IntKind.wrap_u8,UInt8.toNat_sub]
 omega
def u8c (x:UInt8):List Value:=[.int .u8 (x.toNat:Int)]
theorem abs_if (z:Int):(if (0-z)>z then (0-z) else z)=(z.natAbs:Int):=by split<;>omega
section
variable {w:World}
theorem Paeth1_spec {a b c x:UInt8} {ga gb gc:Nat} {K:Int→World→Prop} (ha:Blk w ga ty_uint8 (u8c a)) (hb:Blk w gb ty_uint8 (u8c b)) (hc:Blk w gc ty_uint8 (u8c c))
  (hK:K ((((a.toNat:Int)+(b.toNat:Int)-(c.toNat:Int)-(x.toNat:Int)).natAbs:Nat):Int) w):c_filter_Paeth_1 (x.toNat:Int) ⟨ga,0,none⟩ ⟨gb,0,none⟩ ⟨gc,0,none⟩ w K:=by
 refine call_filter_Paeth_1 _ _ _ _ ?_
 unfold sh_filter_Paeth_1
 refine ldI_of (x:=(a.toNat:Int)) (ha.cell 0 rfl) (ldI_of (x:=(b.toNat:Int)) (hb.cell 0 rfl) (ldI_of (x:=(c.toNat:Int)) (hc.cell 0 rfl) ?_))
 have a8:=a.toNat_lt
 have b8:=b.toNat_lt
 have c8:=c.toNat_lt
 have x8:=x.toNat_lt
 rw [w8,w8,w8,w8,wrap64_id (x:=(a.toNat:Int)+(b.toNat:Int)) (by omega),wrap64_id (x:=(a.toNat:Int)+(b.toNat:Int)-(c.toNat:Int)) (by omega),wrap64_id (x:=(a.toNat:Int)+(b.toNat:Int)-(c.toNat:Int)-(x.toNat:Int)) (by omega),
  wrap64_id (x:=0-((a.toNat:Int)+(b.toNat:Int)-(c.toNat:Int)-(x.toNat:Int))) (by omega),abs_if]
 exact hK
theorem Paeth_spec {a b c:UInt8} {K:Int→World→Prop} (hK:∀w',Below w.heap.size w w'→K (((paethP a b c).toNat:Nat):Int) w'):c_filter_Paeth (a.toNat:Int) (b.toNat:Int) (c.toNat:Int) w K:=by
 refine call_filter_Paeth _ _ _ ?_
 unfold sh_filter_Paeth
 refine nw_blk fun w1 h1 hB1 hs1=>nw_blk fun w2 h2 hB2 hs2=>nw_blk fun w3 h3 hB3 hs3=>?_
 have hB13:=below_t (below_t hB1 hB2) hB3
 have ha:Blk w3 w.heap.size ty_uint8 (u8c a):=(h1.ext hB2).ext hB3
 have hb:Blk w3 w1.heap.size ty_uint8 (u8c b):=h2.ext hB3
 have hc:Blk w3 w2.heap.size ty_uint8 (u8c c):=h3
 have hBd:=below_t hB13 (below_drew w3)
 have had:=ha.ext (below_drew w3)
 have hbd:=hb.ext (below_drew w3)
 have hcd:=hc.ext (below_drew w3)
 refine joinP_of fun J1 hJ1=>?_
 refine ldI_of (x:=(a.toNat:Int)) (had.cell 0 rfl) (ldI_of (x:=(b.toNat:Int)) (hbd.cell 0 rfl) ?_)
 obtain ⟨p,hp⟩:∃p:Int,p=(a.toNat:Int)+(b.toNat:Int)-(c.toNat:Int):=⟨_,rfl⟩
 have kB:(¬((p-(a.toNat:Int)).natAbs≤(p-(b.toNat:Int)).natAbs∧(p-(a.toNat:Int)).natAbs≤(p-(c.toNat:Int)).natAbs))→J1 (false,()) w3.drew:=by
  intro hn
  refine hJ1 _ _ (cond_f rfl ?_)
  have hBd2:=below_t hBd (below_drew _)
  have had:=had.ext (below_drew _)
  have hbd:=hbd.ext (below_drew _)
  have hcd:=hcd.ext (below_drew _)
  refine ldI_of (x:=(b.toNat:Int)) (hbd.cell 0 rfl) (ldI_of (x:=(c.toNat:Int)) (hcd.cell 0 rfl) ?_)
  refine Paeth1_spec had hbd hcd ⟨hcd.cell 0 rfl,Paeth1_spec had hbd hcd ?_⟩
  rw [←hp]
  refine cond_of (fun h=>?_) fun h=>?_
  ·have h:=of_decide_eq_true h
   refine ldI_of (x:=(b.toNat:Int)) (hbd.cell 0 rfl) ?_
   have:paethP a b c=b:=by unfold paethP;rw [←hp];dsimp only;rw [if_neg hn,if_pos (by omega)]
   rw [this] at hK
   exact hK _ hBd2
  ·have h:=of_decide_eq_false h
   refine ldI_of (x:=(c.toNat:Int)) (hcd.cell 0 rfl) ?_
   have:paethP a b c=c:=by unfold paethP;rw [←hp];dsimp only;rw [if_neg hn,if_neg (by omega)]
   rw [this] at hK
   exact hK _ hBd2
 refine Paeth1_spec had hbd hcd ⟨hbd.cell 0 rfl,Paeth1_spec had hbd hcd ?_⟩
 rw [←hp]
 refine cond_of (fun h=>?_) fun h=>?_
 ·have h:=of_decide_eq_true h
  refine ldI_of (x:=(a.toNat:Int)) (had.cell 0 rfl) (ldI_of (x:=(c.toNat:Int)) (hcd.cell 0 rfl) ?_)
  refine Paeth1_spec had hbd hcd ⟨hcd.cell 0 rfl,Paeth1_spec had hbd hcd ?_⟩
  rw [←hp]
  by_cases h2:(p-(a.toNat:Int)).natAbs≤(p-(c.toNat:Int)).natAbs
  ·rw [decide_eq_true (by omega)]
   refine hJ1 _ _ (cond_t rfl (ldI_of (x:=(a.toNat:Int)) (had.cell 0 rfl) ?_))
   have:paethP a b c=a:=by unfold paethP;rw [←hp];dsimp only;rw [if_pos ⟨by omega,h2⟩]
   rw [this] at hK
   exact hK _ hBd
  ·rw [decide_eq_false (by omega)]
   exact kB fun e=>h2 e.2
 ·have h:=of_decide_eq_false h
  exact kB fun e=>h (by omega)
theorem check_spec {kind step:Int} {row ahead:Slc} {K:Bool→World→Prop} (hK:K (decide (0≤kind∧kind≤4∧1≤step∧step≤8∧(ahead.n=0∨ahead.n=row.n))) w):c_filter_check kind row ahead step w K:=by
 refine call_filter_check _ _ _ _ ?_
 unfold sh_filter_check
 by_cases h1:kind≥0
 ·refine cond_t (decide_eq_true h1) ?_
  by_cases h2:kind≤4
  ·refine cond_t (decide_eq_true h2) ?_
   by_cases h3:step≥1
   ·refine cond_t (decide_eq_true h3) ?_
    by_cases h4:step≤8
    ·refine cond_t (decide_eq_true h4) ?_
     by_cases h5:ahead.n=0
     ·refine cond_t (beqI_t (by omega)) ?_
      rw [decide_eq_true ⟨h1,h2,h3,h4,.inl h5⟩] at hK
      exact hK
     ·refine cond_f (beqI_f (by omega)) ?_
      by_cases h6:ahead.n=row.n
      ·rw [decide_eq_true ⟨h1,h2,h3,h4,.inr h6⟩] at hK
       rw [beqI_t (by omega)]
       exact hK
      ·rw [decide_eq_false (by omega)] at hK
       rw [beqI_f (by omega)]
       exact hK
    ·refine cond_f (decide_eq_false h4) ?_
     rw [decide_eq_false (by omega)] at hK
     exact hK
   ·refine cond_f (decide_eq_false h3) ?_
    rw [decide_eq_false (by omega)] at hK
    exact hK
  ·refine cond_f (decide_eq_false h2) ?_
   rw [decide_eq_false (by omega)] at hK
   exact hK
 ·refine cond_f (decide_eq_false h1) ?_
  rw [decide_eq_false (by omega)] at hK
  exact hK
theorem guess_spec {kind i step:Nat} {row ahead:Slc} {rs ah:List UInt8} {K:Int→World→Prop} (hr:Rd E_uint8 w row rs) (ha:Rd E_uint8 w ahead ah) (hk:kind≤4) (h1:1≤step) (hil:i<rs.length) (hal:ah=[]∨ah.length=rs.length) (hl:rs.length≤1000000000)
  (hK:∀w',Below w.heap.size w w'→K ((gAt kind rs ah step i).toNat:Nat) w'):c_filter_guess (kind:Int) (i:Int) row ahead (step:Int) w K:=by
 refine call_filter_guess _ _ _ _ _ ?_
 unfold sh_filter_guess
 unfold gAt at hK
 have hp0:¬step≤i→∀l,prevP l i step=0:=fun h l=>by unfold prevP;rw [if_neg h]
 have hp1:step≤i→∀l:List UInt8,∀x,l[i-step]?=some x→prevP l i step=x:=fun h l x hx=>by unfold prevP;rw [if_pos h,hx];rfl
 refine joinP_of fun J1 hJ1=>?_
 have key:∀a:UInt8,prevP rs i step=a→J1 (((a.toNat:Nat):Int),()) w:=by
  intro a ea
  rw [ea] at hK
  refine hJ1 _ _ (joinP_of fun J2 hJ2=>?_)
  have key2:∀b c:UInt8,ah[i]?.getD 0=b→prevP ah i step=c→J2 (((b.toNat:Nat):Int),((c.toNat:Nat):Int),()) w:=by
   intro b c eb ec
   rw [eb,ec] at hK
   refine hJ2 _ _ ?_
   dsimp only
   have a8:=a.toNat_lt
   have b8:=b.toNat_lt
   refine cond_of (fun h=>?_) fun h=>?_
   ·have h:kind=3:=by
                have:(kind:Int)=3:=by simpa using h
                omega
    subst h
    refine ⟨by decide,?_⟩
    have e:IntKind.u8.wrap (IntKind.i64.wrap ((IntKind.i64.wrap ((IntKind.i64.wrap ((a.toNat:Nat):Int))+(IntKind.i64.wrap ((b.toNat:Nat):Int)))).tdiv (2:Int)))=(((UInt8.ofNat ((a.toNat+b.toNat)/2)).toNat:Nat):Int):=by
     rw [w8,w8,show ((a.toNat:Nat):Int)+((b.toNat:Nat):Int)=((a.toNat+b.toNat:Nat):Int) from rfl,wrap64_id (x:=((a.toNat+b.toNat:Nat):Int)) (by omega),show (2:Int)=((2:Nat):Int) from rfl,←Int.ofNat_tdiv,wrap64_id (by omega),wrap8_of]
    rw [e]
    exact hK w (Below.refl _ _)
   have h3:kind≠3:=by
                have:(kind:Int)≠3:=by simpa using h
                omega
   refine cond_of (fun h=>?_) fun h=>?_
   ·have h:kind=4:=by
                have:(kind:Int)=4:=by simpa using h
                omega
    subst h
    exact Paeth_spec fun w3 hB3=>hK w3 hB3
   have h4:kind≠4:=by
                have:(kind:Int)≠4:=by simpa using h
                omega
   refine cond_of (fun h=>?_) fun h=>?_
   ·have h:kind=2:=by
                have:(kind:Int)=2:=by simpa using h
                omega
    subst h
    exact hK w (Below.refl _ _)
   have h2:kind≠2:=by
                have:(kind:Int)≠2:=by simpa using h
                omega
   refine cond_of (fun h=>?_) fun h=>?_
   ·have h:kind=1:=by
                have:(kind:Int)=1:=by simpa using h
                omega
    subst h
    exact hK w (Below.refl _ _)
   have h1:kind≠1:=by
                have:(kind:Int)≠1:=by simpa using h
                omega
   obtain rfl:kind=0:=by omega
   exact hK w (Below.refl _ _)
  rw [ha.n]
  refine cond_of (fun hlt=>?_) fun hge=>?_
  ·have hlt:=of_decide_eq_true hlt
   obtain ⟨b,hb,hbs⟩:=get_of (xs:=ah) (k:=i) (by omega)
   refine ha.ix (i:=(i:Int)) rfl (by omega) (by omega) fun hcb=>?_
   rw [hbs] at hcb
   refine ldB8 (b:=b) hcb ?_
   refine cond_of (fun hs=>?_) fun hs=>?_
   ·have hs:=of_decide_eq_true hs
    have e:IntKind.i64.wrap ((i:Int)-(step:Int))=((i-step:Nat):Int):=by rw [wrap64_id (by omega)];omega
    rw [e]
    obtain ⟨c,hc,hcs⟩:=get_of (xs:=ah) (k:=i-step) (by omega)
    refine ha.ix (i:=((i-step:Nat):Int)) rfl (by omega) (by omega) fun hcc=>?_
    rw [hcs] at hcc
    refine ldB8 (b:=c) hcc ?_
    exact key2 b c (by rw [hb];rfl) (hp1 (by omega) _ _ hc)
   ·have hs:=of_decide_eq_false hs
    exact key2 b 0 (by rw [hb];rfl) (hp0 (by omega) _)
  ·have hge:=of_decide_eq_false hge
   have he:ah=[]:=by
    rcases hal with h | h
    ·exact h
    ·exact absurd hil (by omega)
   subst he
   refine key2 0 0 rfl ?_
   unfold prevP
   split<;>rfl
 refine cond_of (fun hs=>?_) fun hs=>?_
 ·have hs:=of_decide_eq_true hs
  have e:IntKind.i64.wrap ((i:Int)-(step:Int))=((i-step:Nat):Int):=by rw [wrap64_id (by omega)];omega
  rw [e]
  obtain ⟨a,ha',has⟩:=get_of (xs:=rs) (k:=i-step) (by omega)
  refine hr.ix (i:=((i-step:Nat):Int)) rfl (by omega) (by omega) fun hca=>?_
  rw [has] at hca
  refine ldB8 (b:=a) hca ?_
  exact key a (hp1 (by omega) _ _ ha')
 ·have hs:=of_decide_eq_false hs
  exact key 0 (hp0 (by omega) _)
theorem undoP_get (kind:Nat) (row ahead:List UInt8) (step i:Nat) {x:UInt8} (hx:row[i]?=some x) (hs:1≤step):(undoP kind row ahead step)[i]?=some (x+gAt kind (undoP kind row ahead step) ahead step i):=by
 have h:=undoP_step kind row ahead step i hx hs
 have hi:i<row.length:=(List.getElem?_eq_some_iff.1 hx).1
 have h2:((undoP kind row ahead step).take (i+1))[i]?=(undoP kind row ahead step)[i]?:=List.getElem?_take_of_lt (by omega)
 rw [←h2,h,List.getElem?_append_right (by rw [List.length_take];omega),List.length_take,undoP_length,Nat.min_eq_left (by omega),Nat.sub_self]
 rfl
theorem gAt_mix {kind:Nat} {ys xs ah:List UInt8} {step i:Nat} (h:ys.length=xs.length) (hi:i<xs.length) (hs:1≤step):gAt kind (mix ys xs i) ah step i=gAt kind ys ah step i:=by
 unfold gAt
 congr 1
 unfold prevP
 split
 ·rw [mix_get h hi,if_pos (by omega)]
 ·rfl
theorem Undo_spec {kind step:Nat} {row ahead:Slc} {rs ah:List UInt8} {K:Slc→Int→World→Prop} (hr:Rd E_uint8 w row rs) (ha:Rd E_uint8 w ahead ah) (h1:1≤step) (h8:step≤8) (hal:ah=[]∨ah.length=rs.length) (hl:rs.length≤1000000000)
  (hB:4<kind→K ⟨none,0,0⟩ 1 w) (hK:kind≤4→∀r w',Go.Vc.Own E_uint8 w' w.heap.size r (undoP kind rs ah step)→Below w.heap.size w w'→K r 0 w'):c_filter_Undo (kind:Int) row ahead (step:Int) w K:=by
 refine call_filter_Undo _ _ _ _ ?_
 unfold sh_filter_Undo
 refine check_spec ?_
 have hno:ahead.n=0∨ahead.n=row.n:=by
  rw [ha.n,hr.n]
  rcases hal with h | h
  ·left;rw [h];rfl
  ·exact .inr h
 refine cond_of (fun h=>?_) fun h=>?_
 ·refine hB (Nat.lt_of_not_le fun e=>?_)
  rw [decide_eq_true ⟨by omega,by omega,by omega,by omega,hno⟩] at h
  cases h
 have hk:kind≤4:=by
  by_cases hk:kind≤4
  ·exact hk
  ·rw [decide_eq_false (by omega)] at h
   cases h
 have hK:=hK hk
 obtain ⟨ys,hys⟩:∃ys,ys=undoP kind rs ah step:=⟨_,rfl⟩
 have hyl:ys.length=rs.length:=by rw [hys,undoP_length]
 rw [←hys] at hK
 refine CloneB_spec hr (by omega) fun t w2 ht hB2=>?_
 refine loopP_rule (fun (st:Int×Unit) w3=>∃i:Nat,st.1=i∧i≤rs.length∧Go.Vc.Own E_uint8 w3 w.heap.size t (mix ys rs i)∧Below w.heap.size w w3) (fun st=>rs.length-st.1.toNat) ⟨0,rfl,by omega,by rw [mix_zero];exact ht,hB2⟩ ?_
 rintro ⟨i,u⟩ w3 ⟨i,rfl,hi,hT,hB3⟩ I hI
 dsimp only
 have htn:=hT.rd.n
 rw [mix_length hyl] at htn
 rw [htn]
 refine cond_of (fun hlt=>?_) fun hge=>?_
 ·have hlt:=of_decide_eq_true hlt
  have hil:i<rs.length:=by omega
  have hml:=mix_length hyl i
  obtain ⟨x,hx,hxs⟩:=get_of (xs:=rs) (k:=i) hil
  have hxm:(mix ys rs i)[i]?=some x:=by rw [mix_get hyl hil,if_neg (by omega)];exact hx
  have ix:∀{w':World} {K:Addr→Prop},Go.Vc.Own E_uint8 w' w.heap.size t (mix ys rs i)→K (t.at_ E_uint8.k i)→ixK t (i:Int) 1 K:=fun {w' K} h hk=>h.rd.ix (i:=(i:Int)) rfl (by omega) (by omega) fun _=>by simpa using hk
  have hTd:=hT.ext (below_drew w3)
  refine ix hT (ldI_of (rdcell hTd.rd hxm) ?_)
  have hBd:=below_t hB3 (below_drew w3)
  refine guess_spec hTd.rd (ha.ext hBd) hk h1 (by omega) (by rw [hml];exact hal) (by omega) fun w4 hB4=>?_
  have hT4:=hTd.ext hB4
  refine ⟨rdcell hT4.rd hxm,ix hT4 ?_⟩
  rw [gAt_mix hyl hil h1,wrap8_add]
  refine hT4.st0 (x:=x) (y:=x+gAt kind ys ah step i) hxm rfl fun w5 hT5 hg5 hs5=>?_
  have hy:ys[i]?=some (x+gAt kind ys ah step i):=by rw [hys];exact undoP_get kind rs ah step i hx h1
  rw [mix_set hyl hil hy] at hT5
  rw [wrap64_id (by omega)]
  refine hI _ _ ⟨i+1,rfl,by omega,hT5,?_⟩ (by simp;omega)
  exact (below_t hBd hB4).grown hg5 (below_t hBd hB4).size fun k hk=>(hT4.lt k hk).1
 ·have hge:=of_decide_eq_false hge
  obtain rfl:i=rs.length:=by omega
  rw [mix_all hyl] at hT
  exact hK t w3 hT hB3
theorem Do_spec {kind step:Nat} {row ahead:Slc} {rs ah:List UInt8} {K:Slc→Int→World→Prop} (hr:Rd E_uint8 w row rs) (ha:Rd E_uint8 w ahead ah) (hk:kind≤4) (h1:1≤step) (h8:step≤8) (hal:ah=[]∨ah.length=rs.length) (hl:rs.length≤1000000000)
  (hK:∀r w',Go.Vc.Own E_uint8 w' w.heap.size r (doP kind rs ah step)→Below w.heap.size w w'→K r 0 w'):c_filter_Do (kind:Int) row ahead (step:Int) w K:=by
 refine call_filter_Do _ _ _ _ ?_
 unfold sh_filter_Do
 refine check_spec ?_
 have hno:ahead.n=0∨ahead.n=row.n:=by
  rw [ha.n,hr.n]
  rcases hal with h | h
  ·left;rw [h];rfl
  ·exact .inr h
 rw [decide_eq_true ⟨by omega,by omega,by omega,by omega,hno⟩]
 refine cond_f rfl ?_
 obtain ⟨ys,hys⟩:∃ys,ys=doP kind rs ah step:=⟨_,rfl⟩
 have hyl:ys.length=rs.length:=by rw [hys,doP_length]
 rw [←hys] at hK
 refine CloneB_spec hr (by omega) fun t w2 ht hB2=>?_
 refine loopP_rule (fun (st:Int×Unit) w3=>∃i:Nat,st.1=i∧i≤rs.length∧Go.Vc.Own E_uint8 w3 w.heap.size t (mix ys rs i)∧Below w.heap.size w w3) (fun st=>rs.length-st.1.toNat) ⟨0,rfl,by omega,by rw [mix_zero];exact ht,hB2⟩ ?_
 rintro ⟨i,u⟩ w3 ⟨i,rfl,hi,hT,hB3⟩ I hI
 dsimp only
 have htn:=hT.rd.n
 rw [mix_length hyl] at htn
 rw [htn]
 refine cond_of (fun hlt=>?_) fun hge=>?_
 ·have hlt:=of_decide_eq_true hlt
  have hil:i<rs.length:=by omega
  have hml:=mix_length hyl i
  obtain ⟨x,hx,hxs⟩:=get_of (xs:=rs) (k:=i) hil
  have hxm:(mix ys rs i)[i]?=some x:=by rw [mix_get hyl hil,if_neg (by omega)];exact hx
  have ix:∀{w':World} {K:Addr→Prop},Go.Vc.Own E_uint8 w' w.heap.size t (mix ys rs i)→K (t.at_ E_uint8.k i)→ixK t (i:Int) 1 K:=fun {w' K} h hk=>h.rd.ix (i:=(i:Int)) rfl (by omega) (by omega) fun _=>by simpa using hk
  have hTd:=hT.ext (below_drew w3)
  refine ix hT (ldI_of (rdcell hTd.rd hxm) ?_)
  have hBd:=below_t hB3 (below_drew w3)
  refine guess_spec (hr.ext hBd) (ha.ext hBd) hk h1 hil hal hl fun w4 hB4=>?_
  have hT4:=hTd.ext hB4
  refine ⟨rdcell hT4.rd hxm,ix hT4 ?_⟩
  rw [wrap8_sub]
  refine hT4.st0 (x:=x) (y:=x-gAt kind rs ah step i) hxm rfl fun w5 hT5 hg5 hs5=>?_
  have hy:ys[i]?=some (x-gAt kind rs ah step i):=by rw [hys];exact doP_get kind rs ah step i hx
  rw [mix_set hyl hil hy] at hT5
  rw [wrap64_id (by omega)]
  refine hI _ _ ⟨i+1,rfl,by omega,hT5,?_⟩ (by simp;omega)
  exact (below_t hBd hB4).grown hg5 (below_t hBd hB4).size fun k hk=>(hT4.lt k hk).1
 ·have hge:=of_decide_eq_false hge
  obtain rfl:i=rs.length:=by omega
  rw [mix_all hyl] at hT
  exact hK t w3 hT hB3
theorem isDepth_spec {n:Int} {K:Bool→World→Prop} (hK:K (isDepthP n) w):c_filter_isDepth n w K:=by
 refine call_filter_isDepth _ ?_
 unfold sh_filter_isDepth
 unfold isDepthP at hK
 refine cond_of (fun h=>?_) fun h=>?_
 ·rw [eq_of_beq h] at hK
  exact hK
 have h1:n≠1:=by simpa using h
 refine cond_of (fun h=>?_) fun h=>?_
 ·rw [eq_of_beq h] at hK
  exact hK
 have h2:n≠2:=by simpa using h
 refine cond_of (fun h=>?_) fun h=>?_
 ·rw [eq_of_beq h] at hK
  exact hK
 have h4:n≠4:=by simpa using h
 refine cond_of (fun h=>?_) fun h=>?_
 ·rw [eq_of_beq h] at hK
  exact hK
 have h8:n≠8:=by simpa using h
 rw [decide_eq_false h1,decide_eq_false h2,decide_eq_false h4,decide_eq_false h8] at hK
 have e:(n==(16:Int))=decide (n=16):=by rw [Bool.eq_iff_iff];simp
 rw [e]
 exact hK
theorem Row_spec {wx samples depth:Int} {K:Int→World→Prop} (hK:K ((rowP wx samples depth:Nat):Int) w):c_filter_Row wx samples depth w K:=by
 refine call_filter_Row _ _ _ ?_
 unfold sh_filter_Row
 unfold rowP at hK
 refine joinP_of fun J hJ=>?_
 refine cond_of (fun h=>?_) fun h=>?_
 ·rw [if_pos (.inl (of_decide_eq_true h))] at hK;exact hK
 have h1:=of_decide_eq_false h
 refine cond_of (fun h=>?_) fun h=>?_
 ·rw [if_pos (.inr (.inl (of_decide_eq_true h)))] at hK;exact hK
 have h2:=of_decide_eq_false h
 refine cond_of (fun h=>?_) fun h=>?_
 ·rw [if_pos (.inr (.inr (.inl (of_decide_eq_true h))))] at hK;exact hK
 have h3:=of_decide_eq_false h
 refine cond_of (fun h=>?_) fun h=>?_
 ·rw [if_pos (.inr (.inr (.inr (.inl (of_decide_eq_true h)))))] at hK;exact hK
 have h4:=of_decide_eq_false h
 refine isDepth_spec ?_
 cases hd:isDepthP depth with
 | false =>
  rw [if_pos (.inr (.inr (.inr (.inr hd))))] at hK
  exact cond_t rfl hK
 | true =>
  rw [if_neg (by rw [hd];simp;omega)] at hK
  refine cond_f rfl (hJ _ _ ⟨by decide,?_⟩)
  have hdp:1≤depth∧depth≤16:=by
   unfold isDepthP at hd
   simp at hd
   omega
  have a1:0≤wx*samples:=Int.mul_nonneg (by omega) (by omega)
  have a2:wx*samples≤16384*4:=Int.mul_le_mul (by omega) (by omega) (by omega) (by omega)
  have a3:0≤wx*samples*depth:=Int.mul_nonneg a1 (by omega)
  have a4:wx*samples*depth≤16384*4*16:=Int.mul_le_mul a2 (by omega) (by omega) (by omega)
  rw [wrap64_id (x:=wx*samples) (by omega),wrap64_id (x:=wx*samples*depth) (by omega),wrap64_id (x:=wx*samples*depth+7) (by omega),Int.tdiv_eq_ediv_of_nonneg (by omega),wrap64_id (by omega)]
  have e:(((wx*samples*depth+7)/8).toNat:Int)=(wx*samples*depth+7)/8:=by omega
  rw [e] at hK
  exact hK
def passT (p:PassP):T_q8_Pass:=⟨p.x,p.y,p.dx,p.dy⟩
theorem isSide_spec {n:Nat} {K:Bool→World→Prop} (h1:1≤n) (h2:n≤16384) (hK:K true w):c_filter_isSide (n:Int) w K:=by
 refine call_filter_isSide _ ?_
 unfold sh_filter_isSide
 refine cond_t (decide_eq_true (by omega)) ?_
 rw [decide_eq_true (by omega)]
 exact hK
theorem Size_spec {p:PassP} {W H:Nat} {K:Int→Int→World→Prop} (hW1:1≤W) (hW2:W≤16384) (hH1:1≤H) (hH2:H≤16384) (hdx:1≤p.dx) (hdy:1≤p.dy)
  (hK:∀w',Below w.heap.size w w'→K ((sizeP p W H).1:Nat) ((sizeP p W H).2:Nat) w'):c_filter_Size (passT p) (W:Int) (H:Int) w K:=by
 refine call_filter_Size _ _ _ ?_
 unfold sh_filter_Size
 refine nw_blk fun w1 h1 hB1 hs1=>?_
 refine joinP_of fun J hJ=>?_
 refine isSide_spec hW1 hW2 (cond_f rfl (isSide_spec hH1 hH2 (cond_f rfl ?_)))
 unfold sizeP at hK
 refine ldI_of (x:=(p.x:Int)) (h1.cells 0 _ rfl) (cond_f (decide_eq_false (by omega)) ?_)
 refine ldI_of (x:=(p.y:Int)) (h1.cells 1 _ rfl) (cond_f (decide_eq_false (by omega)) ?_)
 refine ldI_of (x:=(p.dx:Int)) (h1.cells 2 _ rfl) (cond_f (decide_eq_false (by omega)) ?_)
 refine ldI_of (x:=(p.dy:Int)) (h1.cells 3 _ rfl) (cond_f (decide_eq_false (by omega)) ?_)
 refine ldI_of (x:=(p.x:Int)) (h1.cells 0 _ rfl) ?_
 refine cond_of (fun h=>?_) fun h=>?_
 ·have h:=of_decide_eq_true h
  rw [if_pos (.inl (by omega))] at hK
  exact hK w1 hB1
 have hx:=of_decide_eq_false h
 refine ldI_of (x:=(p.y:Int)) (h1.cells 1 _ rfl) ?_
 refine cond_of (fun h=>?_) fun h=>?_
 ·have h:=of_decide_eq_true h
  rw [if_pos (.inr (by omega))] at hK
  exact hK w1 hB1
 have hy:=of_decide_eq_false h
 rw [if_neg (by omega)] at hK
 refine ldS_of (r:=T_q8_Pass.rep) (x:=passT p) h1.cells ?_
 have hz:(((passT p).X==(0:Int)) && (((passT p).Y==(0:Int)) && (((passT p).DX==(0:Int)) && (((passT p).DY==(0:Int)) && true))))=false:=by
  have:((passT p).DX==(0:Int))=false:=beqI_f (by show (p.dx:Int)≠0;omega)
  rw [this]
  simp
 refine cond_f hz (hJ _ _ ?_)
 have hd:=h1.ext (below_drew w1)
 refine ldI_of (x:=(p.x:Int)) (hd.cells 0 _ rfl) (ldI_of (x:=(p.dx:Int)) (hd.cells 2 _ rfl) ⟨by omega,?_⟩)
 refine ldI_of (x:=(p.y:Int)) (hd.cells 1 _ rfl) (ldI_of (x:=(p.dy:Int)) (hd.cells 3 _ rfl) ⟨by omega,?_⟩)
 have e:∀(n a d:Nat),n≤16384→a<n→1≤d→IntKind.i64.wrap ((IntKind.i64.wrap ((IntKind.i64.wrap ((IntKind.i64.wrap ((n:Int)-(a:Int)))-(1:Int))).tdiv (d:Int)))+(1:Int))=(((n-a-1)/d+1:Nat):Int):=by
  intro n a d hn ha hd
  rw [wrap64_id (x:=(n:Int)-(a:Int)) (by omega),wrap64_id (x:=(n:Int)-(a:Int)-1) (by omega),show (n:Int)-(a:Int)-1=((n-a-1:Nat):Int) by omega,←Int.ofNat_tdiv]
  have:(n-a-1)/d≤n-a-1:=Nat.div_le_self _ _
  generalize (n-a-1)/d=q at this ⊢
  rw [wrap64_id (x:=(q:Int)) (by omega),wrap64_id (by omega)]
  rfl
 rw [e W p.x p.dx hW2 (by omega) hdx,e H p.y p.dy hH2 (by omega) hdy]
 exact hK _ (below_t hB1 (below_drew w1))
theorem deep_small {d i:Nat} (h:d=1∨d=2∨d=4∨d=8):i*d%8+d≤8:=by
 rcases h with rfl | rfl | rfl | rfl<;>omega
def intsN (l:List Nat):List Int:=l.map fun (v:Nat)=>(v:Int)
theorem ints_length (l:List Nat):(intsN l).length=l.length:=by simp [intsN]
theorem ints_get (l:List Nat) (i:Nat):(intsN l)[i]?=(l[i]?).map fun (v:Nat)=>(v:Int):=by simp [intsN]
theorem FSamples_spec {row:Slc} {rs:List UInt8} {d n:Nat} {K:Slc→Int→World→Prop} (hr:Rd E_uint8 w row rs) (hd:d=1∨d=2∨d=4∨d=8∨d=16) (hn:n*d≤8*rs.length) (hl:rs.length≤1000000000)
  (hK:∀r w',Go.Vc.Own E_int w' w.heap.size r (intsN (samplesP rs d n))→Below w.heap.size w w'→K r 0 w'):c_filter_Samples row (d:Int) (n:Int) w K:=by
 refine call_filter_Samples _ _ _ ?_
 unfold sh_filter_Samples
 have hd1:1≤d∧d≤16:=by omega
 have hnl:n≤8*rs.length:=Nat.le_trans (Nat.le_mul_of_pos_right n (by omega)) hn
 have hdP:isDepthP (d:Int)=true:=by
  unfold isDepthP
  rcases hd with rfl | rfl | rfl | rfl | rfl<;>rfl
 refine joinP_of fun J1 hJ1=>joinP_of fun J3 hJ3=>?_
 refine isDepth_spec ?_
 rw [hdP]
 refine cond_f rfl ?_
 rw [decide_eq_false (by omega)]
 refine hJ3 _ _ (cond_f rfl ⟨by omega,?_⟩)
 rw [hr.n]
 have e1:IntKind.i64.wrap ((IntKind.i64.wrap ((8:Int)*((rs.length:Nat):Int))).tdiv (d:Int))=((8*rs.length/d:Nat):Int):=by
  rw [wrap64_id (x:=(8:Int)*((rs.length:Nat):Int)) (by omega),show (8:Int)*((rs.length:Nat):Int)=((8*rs.length:Nat):Int) by simp,←Int.ofNat_tdiv]
  have:8*rs.length/d≤8*rs.length:=Nat.div_le_self _ _
  generalize 8*rs.length/d=q at this ⊢
  rw [wrap64_id (by omega)]
 rw [e1]
 have hle:n≤8*rs.length/d:=(Nat.le_div_iff_mul_le (by omega)).2 hn
 refine cond_f (decide_eq_false (by omega)) (hJ1 _ _ ?_)
 clear hJ1 hJ3
 obtain ⟨ys,hys⟩:∃ys,ys=intsN (samplesP rs d n):=⟨_,rfl⟩
 have hyl:ys.length=n:=by rw [hys,ints_length];simp [samplesP]
 have hyg:∀i,i<n→ys[i]?=some ((sampleN rs d i:Nat):Int):=fun i hi=>by
  rw [hys,ints_get]
  simp [samplesP,hi]
 rw [←hys] at hK
 have hyl':ys.length=(List.replicate n (0:Int)).length:=by rw [List.length_replicate];exact hyl
 have hml:∀i,(mix ys (List.replicate n 0) i).length=n:=fun i=>by rw [mix_length hyl',List.length_replicate]
 refine mkSl_of sT_sl_int (x0:=(0:Int)) rfl (n:=n) rfl rfl (by rw [by_sl_int];omega) (by unfold maxLen;omega) fun w2 hT0 hB2=>?_
 obtain ⟨t,ht⟩:∃t:Slc,t=⟨some ⟨w.heap.size,0,none⟩,n,n⟩:=⟨_,rfl⟩
 rw [←ht] at hT0 ⊢
 have htn:t.n=n:=by rw [ht]
 refine loopP_rule (fun (st:Int×Unit) w3=>∃i:Nat,st.1=i∧i≤n∧Go.Vc.Own E_int w3 w.heap.size t (mix ys (List.replicate n 0) i)∧Below w.heap.size w w3) (fun st=>n-st.1.toNat) ⟨0,rfl,by omega,by rw [mix_zero];exact hT0,hB2⟩ ?_
 rintro ⟨i,u⟩ w3 ⟨i,rfl,hi,hT,hB3⟩ I hI
 dsimp only
 rw [htn]
 refine cond_of (fun hlt=>?_) fun hge=>?_
 ·have hlt:=of_decide_eq_true hlt
  have hil:i<n:=by omega
  have hBd:=below_t hB3 (below_drew w3)
  have hr3:=hr.ext hB3
  have hrd:=hr.ext hBd
  have hTd:=hT.ext (below_drew w3)
  have hzi:(mix ys (List.replicate n 0) i)[i]?=some (0:Int):=by rw [mix_get hyl' (by simpa using hil),if_neg (by omega)];simp [hil]
  have hid:i*d<n*d:=Nat.mul_lt_mul_of_pos_right hil (by omega)
  have st:∀v:Int,v=((sampleN rs d i:Nat):Int)→ixK t (i:Int) 1 fun t53=>stK t53 [.int .i64 v] w3.drew fun w4=>I ((IntKind.i64.wrap ((i:Int)+(1:Int))),()) w4:=by
   intro v hv
   refine hTd.rd.ix (i:=(i:Int)) rfl (by omega) (by rw [hml];omega) fun _=>?_
   refine hTd.st0 (x:=(0:Int)) (y:=v) (by simpa using hzi) rfl fun w4 hT4 hg4 hs4=>?_
   rw [Int.toNat_natCast,hv,mix_set hyl' (by simpa using hil) (hyg i hil)] at hT4
   rw [wrap64_id (by omega)]
   refine hI _ _ ⟨i+1,rfl,by omega,hT4,?_⟩ (by simp;omega)
   exact hBd.grown hg4 hBd.size fun k hk=>(hTd.lt k hk).1
  refine cond_of (fun h16=>?_) fun h16=>?_
  ·have h16:d=16:=by
    have:=eq_of_beq h16
    omega
   subst h16
   obtain ⟨x,hx,hxs⟩:=get_of (xs:=rs) (k:=2*i) (by omega)
   obtain ⟨y,hy,hys'⟩:=get_of (xs:=rs) (k:=2*i+1) (by omega)
   have x8:=x.toNat_lt
   have y8:=y.toNat_lt
   have ei:IntKind.i64.wrap ((2:Int)*(i:Int))=((2*i:Nat):Int):=by rw [wrap64_id (by omega)];simp
   have ei1:IntKind.i64.wrap ((((2*i:Nat)):Int)+(1:Int))=((2*i+1:Nat):Int):=by rw [wrap64_id (by omega)];rfl
   rw [ei,ei1]
   refine hr3.ix (i:=((2*i:Nat):Int)) rfl (by omega) (by omega) fun _=>?_
   refine ldI_of (x:=(x.toNat:Int)) (by rw [Int.toNat_natCast];exact rdcell hrd hx) ⟨by decide,?_⟩
   refine hr3.ix (i:=((2*i+1:Nat):Int)) rfl (by omega) (by omega) fun _=>?_
   refine ldI_of (x:=(y.toNat:Int)) (by rw [Int.toNat_natCast];exact rdcell hrd hy) (st _ ?_)
   rw [w8,w8,show min ((8:Int)).toNat IntKind.i64.bits=8 by decide,mul_pow_nat,wrap_nat .i64 (x:=x.toNat*2^8) (by show _<2^63;omega),bits_or .i64 (by show _<2^63;omega) (by show _<2^63;omega)]
   have e:x.toNat*2^8 ||| y.toNat=x.toNat*256+y.toNat:=by
    rw [Nat.or_comm,Nat.mul_comm,add_or (by omega)]
    omega
   rw [e]
   unfold sampleN
   rw [if_pos rfl,hx,hy]
   rfl
  ·have h16:d≠16:=by
    intro h
    rw [h] at h16
    cases h16
   have hd':d=1∨d=2∨d=4∨d=8:=by omega
   have hsm:=deep_small (i:=i) hd'
   refine ⟨by decide,?_⟩
   have ei:IntKind.i64.wrap ((i:Int)*(d:Int))=((i*d:Nat):Int):=by
    have:i*d≤n*d:=by omega
    rw [show (i:Int)*(d:Int)=((i*d:Nat):Int) by simp,wrap64_id (by omega)]
   have e8:IntKind.i64.wrap ((((i*d:Nat)):Int).tdiv (8:Int))=((i*d/8:Nat):Int):=by
    rw [show (8:Int)=((8:Nat):Int) from rfl,←Int.ofNat_tdiv,wrap64_id (by omega)]
   have em:(((i*d:Nat)):Int).tmod (8:Int)=((i*d%8:Nat):Int):=by
    rw [show (8:Int)=((8:Nat):Int) from rfl,Int.ofNat_tmod]
   rw [ei,e8,em]
   obtain ⟨x,hx,hxs⟩:=get_of (xs:=rs) (k:=i*d/8) (by omega)
   have x8:=x.toNat_lt
   refine hr3.ix (i:=((i*d/8:Nat):Int)) rfl (by omega) (by omega) fun _=>?_
   refine ldI_of (x:=(x.toNat:Int)) (by rw [Int.toNat_natCast];exact rdcell hrd hx) ?_
   have esh:IntKind.i64.wrap ((IntKind.i64.wrap ((8:Int)-(d:Int)))-((i*d%8:Nat):Int))=((8-d-i*d%8:Nat):Int):=by
    rw [wrap64_id (x:=(8:Int)-(d:Int)) (by omega),wrap64_id (by omega)]
    omega
   rw [esh]
   refine ⟨by decide,by omega,by omega,st _ ?_⟩
   rw [w8,show min (((8-d-i*d%8:Nat):Int)).toNat IntKind.i64.bits=8-d-i*d%8 by rw [Int.toNat_natCast];show min _ 64=_;omega,show min ((d:Int)).toNat IntKind.i64.bits=d by rw [Int.toNat_natCast];show min _ 64=_;omega,fdiv_nat,Int.one_mul]
   have hpd:(2:Nat)^d≤2^8:=Nat.pow_le_pow_right (by decide) (by omega)
   have hp0:0<(2:Nat)^d:=Nat.pow_pos (by decide)
   rw [show (2:Int)^d=((2^d:Nat):Int) by simp,wrap64_id (x:=((2^d:Nat):Int)) (by omega),show ((2^d:Nat):Int)-1=((2^d-1:Nat):Int) by omega,wrap64_id (by omega)]
   have hxd:x.toNat/2^(8-d-i*d%8)≤x.toNat:=Nat.div_le_self _ _
   rw [bits_and .i64 (by show _<2^63;omega) (by show _<2^63;omega),Nat.and_two_pow_sub_one_eq_mod]
   unfold sampleN
   rw [if_neg h16,hx]
   rfl
 ·have hge:=of_decide_eq_false hge
  obtain rfl:i=n:=by omega
  have:=mix_all hyl'
  rw [List.length_replicate] at this
  rw [this] at hT
  exact hK t w3 hT hB3
end
end Go.Proofs.YtmagnpcgpinmcaaGreat
set_option linter.unusedVariables false
namespace Go.Proofs.YtmagnpcgpinmcaaGreat
open Go.Vc Go.RowKit
set_option maxRecDepth 400000
def bcells (l:List UInt8):List Value:=l.map fun b=>Value.int .u8 (b.toNat:Int)
theorem bcells_flat (l:List UInt8):flat E_uint8 l=bcells l:=by
 unfold flat bcells
 induction l with
 | nil=>rfl
 | cons x r ih=>rw [List.flatMap_cons,ih];rfl
theorem bcells_length (l:List UInt8):(bcells l).length=l.length:=by simp [bcells]
theorem bcells_oneB (l:List UInt8):∀v∈bcells l,oneB v=true:=by
 intro v hv
 unfold bcells at hv
 obtain ⟨b,_,rfl⟩:=List.mem_map.1 hv
 rfl
theorem load_bytes {w:World} {a:Addr} {l:List UInt8} (h:∀(i:Nat) x,l[i]?=some x→w.cell? (a.add i)=some (.int .u8 (x.toNat:Int))):(loadCells a l.length).run PG w=.ok (bcells l).toArray w:=by
 have:=run_loadCells_list (P:=PG) w a (bcells l) (fun j v hj=>by
  unfold bcells at hj
  rw [List.getElem?_map] at hj
  cases hb:l[j]? with
  | none=>rw [hb] at hj;cases hj
  | some b =>
   rw [hb] at hj
   cases hj
   exact h j b hb)
 rwa [bcells_length] at this
theorem copyB {w:World} {g o dn dc n:Nat} {t:TypeId} {cur:List Value} {x:Slc} {ys:List UInt8} {K:Int→World→Prop} (hb:Blk w g t cur) (hx:Rd E_uint8 w x ys) (hn:n=min ys.length dn) (hf:o+n≤cur.length)
  (hK:∀w',Blk w' g t (putL cur o (bcells (ys.take n)))→Chg (fun k=>k=g) w w'→w'.heap.size=w.heap.size→K (n:Int) w') :
  runK1 PG (Builtin.copy_ #[ty_sl_uint8,ty_sl_uint8] ty_int #[.slice (some ⟨g,o,none⟩) dn dc,.slice x.a x.n x.c]) (Kind.int .i64) w K:=by
 have htl:(ys.take n).length=n:=by rw [List.length_take];omega
 have hst:(storeCells ⟨g,o,none⟩ (bcells (ys.take n)) 0).run PG w=.ok () (wr w ⟨g,o,none⟩ (bcells (ys.take n))) :=
  run_storeCells_wr (bcells (ys.take n)) 0 w (bcells_oneB _) (fun j hj=>by
   rw [bcells_length,htl] at hj
   rw [Nat.zero_add,add_mk]
   refine ⟨⟨cur[o+j]'(by omega),hb.cell (o+j) (List.getElem?_eq_getElem (by omega))⟩,hb.frozen _⟩)
 refine ⟨(n:Int),wr w ⟨g,o,none⟩ (bcells (ys.take n)),?_,hK _ (wr_blk hb) (Chg.gg (wr_grown w ⟨g,o,none⟩ _)) (size_wr _ _ _)⟩
 have hu:PG.underlying ty_sl_uint8=some (.slice ty_uint8):=by kernel_rfl
 have hi:=sT_sl_uint8.hi
 have hs:sT_sl_uint8.i.size=1:=sT_sl_uint8.hs
 have hi':PG.info? ty_uint8=some sT_sl_uint8.i:=hi
 have hxn:=hx.n
 have hmin:Nat.min ys.length dn=n:=hn.symm
 cases ha:x.a with
 | none =>
  have hy:=hx.none_nil ha
  subst hy
  have hn0:n=0:=by rw [hn];simp
  subst hn0
  simp [Builtin.copy_,run_underlying hu,Builtin.lenOf,Builtin.firstCells,sizeOf,typeInfo,hi',hxn,storeCells,wr,wrFrom,bcells,Kind.enc,goInt]
 | some a =>
  have hload:=load_bytes (w:=w) (a:=a) (l:=ys.take n) (fun i y hy=>by
   have hi2:i<n:=by rw [←htl];exact (List.getElem?_eq_some_iff.1 hy).1
   rw [List.getElem?_take_of_lt hi2] at hy
   have:=rdcell hx hy
   simp only [Slc.at_,ha,Option.getD_some,Nat.mul_one] at this
   exact this)
  rw [htl] at hload
  simp [Builtin.copy_,run_underlying hu,Builtin.lenOf,Builtin.firstCells,sizeOf,typeInfo,hi',hs,hxn,hmin,hload,hst,Kind.enc,goInt]
theorem copyS {w:World} {g o dn dc n:Nat} {t:TypeId} {cur:List Value} {ys:List UInt8} {K:Int→World→Prop} (hb:Blk w g t cur) (hn:n=min ys.length dn) (hf:o+n≤cur.length)
  (hK:∀w',Blk w' g t (putL cur o (bcells (ys.take n)))→Chg (fun k=>k=g) w w'→w'.heap.size=w.heap.size→K (n:Int) w') :
  runK1 PG (Builtin.copy_ #[ty_sl_uint8,ty_string] ty_int #[.slice (some ⟨g,o,none⟩) dn dc,.string (strB ys)]) (Kind.int .i64) w K:=by
 have htl:(ys.take n).length=n:=by rw [List.length_take];omega
 have hst:(storeCells ⟨g,o,none⟩ (bcells (ys.take n)) 0).run PG w=.ok () (wr w ⟨g,o,none⟩ (bcells (ys.take n))) :=
  run_storeCells_wr (bcells (ys.take n)) 0 w (bcells_oneB _) (fun j hj=>by
   rw [bcells_length,htl] at hj
   rw [Nat.zero_add,add_mk]
   refine ⟨⟨cur[o+j]'(by omega),hb.cell (o+j) (List.getElem?_eq_getElem (by omega))⟩,hb.frozen _⟩)
 refine ⟨(n:Int),wr w ⟨g,o,none⟩ (bcells (ys.take n)),?_,hK _ (wr_blk hb) (Chg.gg (wr_grown w ⟨g,o,none⟩ _)) (size_wr _ _ _)⟩
 have hu:PG.underlying ty_sl_uint8=some (.slice ty_uint8):=by kernel_rfl
 have hi:=sT_sl_uint8.hi
 have hs:sT_sl_uint8.i.size=1:=sT_sl_uint8.hs
 have hi':PG.info? ty_uint8=some sT_sl_uint8.i:=hi
 have hsz:(strB ys).size=ys.length:=by show ys.toArray.size=_;simp
 have hmin:Nat.min ys.length dn=n:=hn.symm
 have hex:List.take n (List.map (fun b=>Value.int .u8 (b.toNat:Int)) (strB ys).data.toList)=bcells (ys.take n):=by
  show List.take n (List.map (fun b=>Value.int .u8 (b.toNat:Int)) ys)=_
  unfold bcells
  rw [List.map_take]
 simp [Builtin.copy_,run_underlying hu,Builtin.lenOf,Builtin.firstCells,sizeOf,typeInfo,hi',hsz,hmin,Kind.enc,goInt]
 rw [hex,hst]
 simp
theorem own_cur {w:World} {b g c:Nat} {xs:List UInt8} {s:Slc} (h:Go.Vc.Own E_uint8 w b s xs) (hs:s.a=some ⟨g,0,none⟩):∃cur,Blk w g ty_uint8 cur∧cur.length=s.c∧cur.take xs.length=bcells xs∧xs.length≤s.c∧s.c≤maxLen∧b≤g∧s.n=xs.length:=by
 rcases h.form with ⟨rfl,rfl⟩ | ⟨g',cur,e,hg,hb,h1,h2,h3,h4⟩
 ·cases hs
 ·rw [e] at hs
  have hg':g'=g:=congrArg Addr.block (Option.some.inj hs)
  subst hg'
  refine ⟨cur,hb,by rw [h3];exact Nat.mul_one _,?_,h1,h2,hg,by rw [e]⟩
  rw [←bcells_flat,←h4]
  show _=cur.take (xs.length*1)
  rw [Nat.mul_one]
theorem own_put {w w':World} {b g:Nat} {xs ys:List UInt8} {s:Slc} {cur:List Value} {k:Nat} (h:Go.Vc.Own E_uint8 w b s xs) (hs:s.a=some ⟨g,0,none⟩) (hc:Blk w g ty_uint8 cur) (hk:k+ys.length≤xs.length) (hw:Blk w' g ty_uint8 (putL cur k (bcells ys))) :
  Go.Vc.Own E_uint8 w' b s (xs.take k++ys++xs.drop (k+ys.length)):=by
 obtain ⟨cur',hb,hl,ht,h1,h2,h3,h4⟩:=own_cur (c:=0) h hs
 have e:cur'=cur:=by
  unfold Blk at hb hc
  rw [hb] at hc
  injection hc with hc
  injection hc with hc _ _
  simpa using hc
 subst e
 have hlen:(xs.take k++ys++xs.drop (k+ys.length)).length=xs.length:=by simp;omega
 obtain ⟨a,n,c⟩:=s
 dsimp only at hs hl h1 h2 h4
 subst hs h4
 have:=Go.Vc.Own.of_blk (E:=E_uint8) (xs:=xs.take k++ys++xs.drop (k+ys.length)) (c:=c) h3 hw (by omega) h2 (by rw [putL_length,hl];exact (Nat.mul_one _).symm) (by
  rw [bcells_flat,hlen]
  show (putL cur' k (bcells ys)).take (xs.length*1)=_
  rw [Nat.mul_one]
  refine List.ext_getElem? fun m=>?_
  by_cases hm:m<xs.length
  ·rw [List.getElem?_take_of_lt hm,putL_get _ _ _ _ (by rw [bcells_length];omega),bcells_length]
   have hcm:cur'[m]?=(bcells xs)[m]?:=by rw [←ht,List.getElem?_take_of_lt hm]
   have hbm:∀l:List UInt8,(bcells l)[m]?=(l[m]?).map fun b=>Value.int .u8 (b.toNat:Int):=fun l=>by unfold bcells;rw [List.getElem?_map]
   by_cases hin:k≤m∧m<k+ys.length
   ·rw [if_pos hin,hbm,List.append_assoc,List.getElem?_append_right (by rw [List.length_take];omega),List.length_take,Nat.min_eq_left (by omega),List.getElem?_append_left (by omega)]
    unfold bcells
    rw [List.getElem?_map]
   ·rw [if_neg hin,hcm,hbm,hbm]
    congr 1
    by_cases hmk:m<k
    ·rw [List.append_assoc,List.getElem?_append_left (by rw [List.length_take];omega),List.getElem?_take_of_lt hmk]
    ·rw [List.append_assoc,List.getElem?_append_right (by rw [List.length_take];omega),List.length_take,Nat.min_eq_left (by omega),List.getElem?_append_right (by omega),List.getElem?_drop]
     congr 1
     omega
  ·rw [List.getElem?_eq_none (by rw [List.length_take];omega),List.getElem?_eq_none (by rw [bcells_length];omega)])
 rw [hlen] at this
 exact this
def E_pass:El T_q8_Pass where
 cells:=T_q8_Pass.rep.cells
 t:=ty_filter_Pass
 k:=4
 pos:=by decide
 len _:=rfl
 one x v hv:=by
  simp only [T_q8_Pass.rep,List.mem_cons,List.mem_nil_iff,or_false] at hv
  rcases hv with rfl | rfl | rfl | rfl<;>rfl
def passTs (lace:Int):List T_q8_Pass:=(passesP lace).map passT
theorem passes_dx (lace:Int):∀p∈passesP lace,1≤p.dx∧1≤p.dy∧p.x≤4∧p.y≤4∧p.dx≤8∧p.dy≤8:=by
 unfold passesP
 split
 ·simp [passesL]
 ·simp [onePass]
theorem passes_len (lace:Int):(passesP lace).length≤7:=by
 unfold passesP
 split<;>decide
structure HeadOk (h:T_png_Head) (W H:Nat):Prop where
 w:h.W=W
 h:h.H=H
 w1:1≤W
 w2:W≤16384
 h1:1≤H
 h2:H≤16384
theorem HeadOk.wn {h:T_png_Head} {W H:Nat} (o:HeadOk h W H):h.W.toNat=W:=by rw [o.w];rfl
theorem HeadOk.hn {h:T_png_Head} {W H:Nat} (o:HeadOk h W H):h.H.toNat=H:=by rw [o.h];rfl
theorem sizeP_le (p:PassP) (W H:Nat):(sizeP p W H).1≤W∧(sizeP p W H).2≤H:=by
 unfold sizeP
 split
 ·exact ⟨by omega,by omega⟩
 ·have h1:(W-p.x-1)/p.dx≤W-p.x-1:=Nat.div_le_self _ _
  have h2:(H-p.y-1)/p.dy≤H-p.y-1:=Nat.div_le_self _ _
  exact ⟨by dsimp only;omega,by dsimp only;omega⟩
theorem rowsOf_length (W H:Nat) (p:PassP):(rowsOf W H p).length=(sizeP p W H).2:=by simp [rowsOf]
theorem rowsOf_split (W H:Nat) (p:PassP) {y:Nat} (hy:y<(sizeP p W H).2):rowsOf W H p=(rowsOf W H p).take y++(p,y,(sizeP p W H).1)::(rowsOf W H p).drop (y+1):=by
 have hl:=rowsOf_length W H p
 have e:(rowsOf W H p)[y]'(by omega)=(p,y,(sizeP p W H).1):=by simp [rowsOf]
 rw [←e,←List.drop_eq_getElem_cons,List.take_append_drop]
theorem rowsOf_take_succ (W H:Nat) (p:PassP) {y:Nat} (hy:y<(sizeP p W H).2):(rowsOf W H p).take (y+1)=(rowsOf W H p).take y++[(p,y,(sizeP p W H).1)]:=by
 have hl:=rowsOf_length W H p
 rw [List.take_succ_eq_append_getElem (by omega)]
 simp [rowsOf]
def KeepT (w w':World):Prop:=∀(k:Nat) t cs,(t=ty_filter_Pass∨t=ty_png_Head)→Blk w k t cs→Blk w' k t cs
section
variable {w:World}
theorem Passes_spec {K:Slc→World→Prop} (hK:∀(g:Nat) w',Blk w' g ty_filter_Pass (flat E_pass (passTs 1))→Below w.heap.size w w'→w.heap.size≤g→K ⟨some ⟨g,0,none⟩,7,7⟩ w'):c_filter_Passes w K:=by
 refine call_filter_Passes ?_
 unfold sh_filter_Passes
 exact nw_blk fun w1 h1 hB1 hs1=>hK _ w1 h1 hB1 (Nat.le_refl _)
theorem passes_spec {h:T_png_Head} {K:Slc→World→Prop} (hK:∀(g n:Nat) w',Blk w' g ty_filter_Pass (flat E_pass (passTs h.Lace))→n=(passTs h.Lace).length→Below w.heap.size w w'→w.heap.size≤g→K ⟨some ⟨g,0,none⟩,n,n⟩ w'):c_png_Head_passes h w K:=by
 refine call_png_Head_passes _ ?_
 unfold sh_png_Head_passes
 refine nw_blk fun w1 h1 hB1 hs1=>?_
 refine ldI_of (x:=h.Lace) (h1.cells 4 _ rfl) ?_
 refine cond_of (fun e=>?_) fun e=>?_
 ·have e:h.Lace=1:=eq_of_beq e
  rw [e] at hK
  exact Passes_spec fun g w2 h2 hB2 hg=>hK g 7 w2 h2 rfl (below_t hB1 hB2) (by have:=hB1.size;omega)
 ·have e:h.Lace≠1:=by simpa using e
  have hp:passTs h.Lace=[⟨0,0,1,1⟩]:=by unfold passTs passesP;rw [if_neg e];rfl
  rw [hp] at hK
  exact nw_blk fun w2 h2 hB2 hs2=>hK _ 1 w2 h2 rfl (below_t hB1 hB2) hB1.size
theorem rows_spec {h:T_png_Head} {W H:Nat} (ho:HeadOk h W H) {f:Value} {K:Bool→World→Prop} (Inv:List (PassP×Nat×Nat)→World→Prop) (Bad:World→Prop)
  (h0:Inv [] w) (hI:∀L w1 w2,Inv L w1→Below w1.heap.size w1 w2→Inv L w2)
  (step:∀L r R w1,rowsL h=L++r::R→Inv L w1→w.heap.size≤w1.heap.size→∀J:Bool→World→Prop,(∀w2,Inv (L++[r]) w2→KeepT w1 w2→w1.heap.size≤w2.heap.size→J true w2)→(∀w2,Bad w2→J false w2) →
   callR C f [(.agg #[(.int .i64 (passT r.1).X),(.int .i64 (passT r.1).Y),(.int .i64 (passT r.1).DX),(.int .i64 (passT r.1).DY)]),(.int .i64 (r.2.1:Int)),(.int .i64 (r.2.2:Int))] [Kind.bool] w1 J)
  (hK1:∀w1,Inv (rowsL h) w1→K true w1) (hK0:∀w1,Bad w1→K false w1):c_png_Head_rows h f w K:=by
 refine call_png_Head_rows _ _ ?_
 unfold sh_png_Head_rows
 refine nw_blk fun w1 hb1 hB1 hs1=>?_
 refine ldS_of (r:=T_png_Head.rep) (x:=h) hb1.cells ?_
 refine passes_spec fun g n w2 hg hn hB2 hgl=>?_
 have hb2:=hb1.ext hB2
 have hs2:=hB2.size
 obtain ⟨ps,hps⟩:∃ps,ps=passesP h.Lace:=⟨_,rfl⟩
 have hpT:passTs h.Lace=ps.map passT:=by rw [hps];rfl
 have hnl:n=ps.length:=by rw [hn,hpT,List.length_map]
 rw [hpT] at hg
 have hrows:rowsL h=ps.flatMap (rowsOf W H):=by unfold rowsL;rw [ho.wn,ho.hn,←hps]
 have hpl:ps.length≤7:=by rw [hps];exact passes_len _
 have hdx:=passes_dx h.Lace
 rw [←hps] at hdx
 dsimp only
 refine loopP_rule (fun (s:Int×Unit) w3=>∃i:Nat,s.1=i∧i≤ps.length∧Inv ((ps.take i).flatMap (rowsOf W H)) w3∧Blk w3 w.heap.size ty_png_Head (T_png_Head.rep.cells h)∧Blk w3 g ty_filter_Pass (flat E_pass (ps.map passT))∧w.heap.size≤w3.heap.size) (fun s=>ps.length-s.1.toNat)
  ⟨0,rfl,by omega,hI _ _ _ h0 (below_t hB1 hB2),hb2,hg,by omega⟩ ?_
 rintro ⟨i,u⟩ w3 ⟨i,rfl,hi,hInv,hb3,hg3,hs3⟩ I hIl
 dsimp only
 rw [hnl]
 refine cond_of (fun hlt=>?_) fun hge=>?_
 ·have hlt:=of_decide_eq_true hlt
  have hil:i<ps.length:=by omega
  obtain ⟨p,hp⟩:∃p,ps[i]?=some p:=⟨_,List.getElem?_eq_getElem hil⟩
  have hpd:=hdx p (List.mem_of_getElem? hp)
  have hrd:Rd E_pass w3 ⟨some ⟨g,0,none⟩,(ps.map passT).length,(ps.map passT).length⟩ (ps.map passT):=rd_lits (E:=E_pass) hg3 (by rw [List.length_map];unfold maxLen;omega) rfl
  rw [List.length_map] at hrd
  have hpT':(ps.map passT)[i]?=some (passT p):=by rw [List.getElem?_map,hp];rfl
  refine hrd.ix (i:=(i:Int)) (k:=4) rfl (by omega) (by rw [List.length_map];omega) fun _=>?_
  refine ldS_of (r:=T_q8_Pass.rep) (x:=passT p) (hrd.at_ i _ hpT') ?_
  refine nw_blk fun w4 hb4 hB4 hs4=>?_
  refine all_of hb4 rfl fun w5 hb5 hc5 hs5=>?_
  have hB35:Below w3.heap.size w3 w5:=below_one hB4 hc5 (Nat.le_refl _)
  refine ldS_of (r:=T_q8_Pass.rep) (x:=passT p) hb5.cells ?_
  have hb35:=hb3.ext hB35
  refine ldI_of (x:=(W:Int)) (by have:=hb35.cells 0 _ rfl;rw [ho.w] at this;exact this) (ldI_of (x:=(H:Int)) (by have:=hb35.cells 1 _ rfl;rw [ho.h] at this;exact this) ?_)
  refine Size_spec ho.w1 ho.w2 ho.h1 ho.h2 hpd.1 hpd.2.1 fun w6 hB6=>?_
  have hB36:=below_t hB35 hB6
  have hsz:=sizeP_le p W H
  have hH2:=ho.h2
  refine loopP_rule (fun (s:Int×Unit) w7=>∃y:Nat,s.1=y∧y≤(sizeP p W H).2∧Inv ((ps.take i).flatMap (rowsOf W H)++(rowsOf W H p).take y) w7∧Blk w7 w.heap.size ty_png_Head (T_png_Head.rep.cells h)∧Blk w7 g ty_filter_Pass (flat E_pass (ps.map passT))∧Blk w7 w3.heap.size ty_filter_Pass (T_q8_Pass.rep.cells (passT p))∧w.heap.size≤w7.heap.size) (fun s=>(sizeP p W H).2-s.1.toNat)
   ⟨0,rfl,by omega,by rw [List.take_zero,List.append_nil];exact hI _ _ _ hInv hB36,hb3.ext hB36,hg3.ext hB36,hb5.ext hB6,by have:=hB36.size;omega⟩ ?_
  rintro ⟨y,u⟩ w7 ⟨y,rfl,hy,hInv7,hb7,hg7,hp7,hs7⟩ I2 hI2
  dsimp only
  refine cond_of (fun hlt2=>?_) fun hge2=>?_
  ·have hlt2:=of_decide_eq_true hlt2
   have hyl:y<(sizeP p W H).2:=by omega
   refine ldS_of (r:=T_q8_Pass.rep) (x:=passT p) hp7.cells ?_
   have hsplit:rowsL h=((ps.take i).flatMap (rowsOf W H)++(rowsOf W H p).take y)++(p,y,(sizeP p W H).1)::((rowsOf W H p).drop (y+1)++(ps.drop (i+1)).flatMap (rowsOf W H)):=by
    have e:ps=ps.take i++p::ps.drop (i+1):=by
     rw [List.getElem?_eq_getElem hil] at hp
     rw [←Option.some.inj hp,←List.drop_eq_getElem_cons hil,List.take_append_drop]
    conv=>lhs;rw [hrows,e,List.flatMap_append,List.flatMap_cons,rowsOf_split W H p hyl]
    simp [List.append_assoc]
   refine step _ _ _ w7 hsplit hInv7 hs7 _ (fun w8 h8 hk8 hs8=>?_) (fun w8 h8=>cond_t rfl (hK0 w8 h8))
   refine cond_f rfl ?_
   rw [wrap64_id (by omega)]
   refine hI2 _ _ ⟨y+1,rfl,by omega,?_,hk8 _ _ _ (.inr rfl) hb7,hk8 _ _ _ (.inl rfl) hg7,hk8 _ _ _ (.inl rfl) hp7,by omega⟩ (by simp;omega)
   rw [rowsOf_take_succ W H p hyl,←List.append_assoc]
   exact h8
  ·have hge2:=of_decide_eq_false hge2
   obtain rfl:y=(sizeP p W H).2:=by omega
   rw [wrap64_id (by omega)]
   refine hIl _ _ ⟨i+1,rfl,by omega,?_,hb7,hg7,hs7⟩ (by simp;omega)
   rw [List.take_add_one,hp,List.flatMap_append]
   rw [List.take_of_length_le (show (rowsOf W H p).length≤(sizeP p W H).2 by rw [rowsOf_length];exact Nat.le_refl _)] at hInv7
   simpa using hInv7
 ·have hge:=of_decide_eq_false hge
  obtain rfl:i=ps.length:=by omega
  rw [List.take_length,←hrows] at hInv
  exact hK1 w3 hInv
end
end Go.Proofs.YtmagnpcgpinmcaaGreat
set_option linter.unusedVariables false
namespace Go.Proofs.YtmagnpcgpinmcaaGreat
open Go.Vc Go.RowKit
set_option maxRecDepth 400000
def fCells (F:FilL) (p t d:Slc):List Value:=T_png_file.rep.cells ⟨F.h,p,t,F.hasP,F.hasT,d,F.hasD,F.wasD⟩
structure FilA (w:World) (g b:Nat) (F:FilL) (p t d:Slc):Prop where
 blk:Blk w g ty_png_file (fCells F p t d)
 pal:Rd E_uint8 w p F.pal
 tr:Rd E_uint8 w t F.tr
 data:Go.Vc.Own E_uint8 w b d F.data
 pb:∀k,p.blk=some k→k<b
 tb:∀k,t.blk=some k→k<b
theorem FilA.ext {w w':World} {g b:Nat} {F:FilL} {p t d:Slc} (h:FilA w g b F p t d) (hB:Below w.heap.size w w'):FilA w' g b F p t d:=⟨h.blk.ext hB,h.pal.ext hB,h.tr.ext hB,h.data.ext hB,h.pb,h.tb⟩
structure ColOk (h:T_png_Head):Prop where
 c:h.Color=0∨h.Color=2∨h.Color=3∨h.Color=4∨h.Color=6
 d:h.Depth=1∨h.Depth=2∨h.Depth=4∨h.Depth=8∨h.Depth=16
theorem checkP_ok {h:T_png_Head} (hc:checkP h=0):(∃W H,HeadOk h W H)∧ColOk h:=by
 unfold checkP at hc
 split at hc
 ·cases hc
 ·rename_i h1
  split at hc
  ·cases hc
  ·rename_i h2
   refine ⟨⟨h.W.toNat,h.H.toNat,by omega,by omega,by omega,by omega,by omega,by omega⟩,?_,?_⟩
   ·have hs:samplesOf h.Color≠0:=fun e=>h2 (.inl e)
    unfold samplesOf at hs
    by_cases h0:h.Color=0∨h.Color=3
    ·omega
    ·rw [if_neg h0] at hs
     by_cases h22:h.Color=2
     ·omega
     ·rw [if_neg h22] at hs
      by_cases h4:h.Color=4
      ·omega
      ·rw [if_neg h4] at hs
       by_cases h6:h.Color=6
       ·omega
       ·rw [if_neg h6] at hs
        exact absurd rfl hs
   ·have hd:depthOk h=true:=by
     cases e:depthOk h with
     | true=>rfl
     | false=>exact absurd (.inr (.inl e)) h2
    unfold depthOk at hd
    have:=of_decide_eq_true hd
    omega
structure FilOk (F:FilL):Prop where
 hd:checkP F.h=0
 tr:F.hasT=true→F.h.Color=0∧F.tr.length=2∨F.h.Color=2∧F.tr.length=6∨F.h.Color=3
 pal:F.pal.length%3=0
theorem takeP_ok {F:FilL} {c:ChL} (h:FilOk F) (h0:(takeP F c).1=0):FilOk (takeP F c).2∧(takeP F c).2.h=F.h:=by
 unfold takeP at h0 ⊢
 by_cases h1:c.kind=ihdrL
 ·rw [if_pos h1] at h0;cases h0
 rw [if_neg h1] at h0 ⊢
 by_cases h2:c.kind=plteL
 ·rw [if_pos h2] at h0 ⊢
  cases hp:plteOk F c.data with
  | false=>rw [hp] at h0;cases h0
  | true =>
   unfold plteOk at hp
   simp only [Bool.not_eq_true',Bool.or_eq_false_iff,decide_eq_false_iff_not] at hp
   exact ⟨⟨h.hd,h.tr,by show c.data.length%3=0;omega⟩,rfl⟩
 rw [if_neg h2] at h0 ⊢
 by_cases h3:c.kind=trnsL
 ·rw [if_pos h3] at h0 ⊢
  cases hp:trnsOk F c.data with
  | false=>rw [hp] at h0;cases h0
  | true =>
   refine ⟨⟨h.hd,fun _=>?_,h.pal⟩,rfl⟩
   unfold trnsOk at hp
   simp only [Bool.and_eq_true] at hp
   have hp:=hp.2
   show F.h.Color=0∧c.data.length=2∨F.h.Color=2∧c.data.length=6∨F.h.Color=3
   by_cases e0:F.h.Color=0
   ·rw [if_pos e0] at hp;exact .inl ⟨e0,of_decide_eq_true hp⟩
   ·rw [if_neg e0] at hp
    by_cases e2:F.h.Color=2
    ·rw [if_pos e2] at hp;exact .inr (.inl ⟨e2,of_decide_eq_true hp⟩)
    ·rw [if_neg e2] at hp
     by_cases e3:F.h.Color=3
     ·exact .inr (.inr e3)
     ·rw [if_neg e3] at hp;cases hp
 rw [if_neg h3] at h0 ⊢
 by_cases h4:c.kind=idatL
 ·rw [if_pos h4] at h0 ⊢
  split
  ·exact ⟨⟨h.hd,h.tr,h.pal⟩,rfl⟩
  ·rename_i hn;rw [if_neg hn] at h0;cases h0
 rw [if_neg h4] at h0 ⊢
 by_cases h5:c.kind=iendL
 ·rw [if_pos h5] at h0 ⊢
  split
  ·exact ⟨⟨h.hd,h.tr,h.pal⟩,rfl⟩
  ·rename_i hn;rw [if_neg hn] at h0;cases h0
 rw [if_neg h5] at h0 ⊢
 split
 ·rename_i hn;rw [if_pos hn] at h0;cases h0
 ·exact ⟨⟨h.hd,h.tr,h.pal⟩,rfl⟩
section
variable {w:World} {g b:Nat} {F:FilL} {p t d:Slc}
theorem colors_spec (h:FilA w g b F p t d) (hc:ColOk F.h) {x:Slc} {ds:List UInt8} (hx:Rd E_uint8 w x ds) (hxb:∀k,x.blk=some k→k<b) (hbg:b≤g) (hl:ds.length≤1000000000) {K:Bool→World→Prop}
  (hN:plteOk F ds=false→K false w) (hY:plteOk F ds=true→∀w',FilA w' g b { F with pal:=ds,hasP:=true } x t d→Chg (fun k=>k=g) w w'→K true w'):c_png_file_colors (some ⟨g,0,none⟩) x w K:=by
 refine call_png_file_colors _ _ ?_
 unfold sh_png_file_colors
 simp only [onPtr_some]
 refine ⟨by decide,joinP_of fun J hJ=>?_⟩
 unfold plteOk at hN hY
 refine ldB_of (x:=F.hasP) (h.blk.cells 7 _ rfl) ?_
 refine cond_of (fun e=>hN (by rw [e];rfl)) fun e1=>?_
 refine ldB_of (x:=F.hasD) (h.blk.cells 10 _ rfl) ?_
 refine cond_of (fun e=>hN (by rw [e];simp)) fun e2=>?_
 refine ldI_of (x:=F.h.Color) (by rw [add_zero];exact h.blk.cells 3 _ rfl) ?_
 refine cond_of (fun e=>hN (by rw [eq_of_beq e];simp)) fun e3=>?_
 have e3:F.h.Color≠0:=by simpa using e3
 refine ldI_of (x:=F.h.Color) (by rw [add_zero];exact h.blk.cells 3 _ rfl) ?_
 refine cond_of (fun e=>hN (by rw [eq_of_beq e];simp)) fun e4=>⟨by decide,?_⟩
 have e4:F.h.Color≠4:=by simpa using e4
 rw [hx.n,show (3:Int)=((3:Nat):Int) from rfl,←Int.ofNat_tmod,←Int.ofNat_tdiv,wrap64_id (x:=((ds.length/3:Nat):Int)) (by omega)]
 refine cond_of (fun e=>hN ?_) fun e5=>?_
 ·have e:ds.length%3≠0:=fun h=>by rw [h] at e;cases e
  rw [decide_eq_true e];simp
 have e5:ds.length%3=0:=by
  rcases Nat.eq_zero_or_pos (ds.length%3) with h | h
  ·exact h
  ·rw [bneI_t (by omega)] at e5;cases e5
 refine cond_of (fun e=>hN ?_) fun e6=>?_
 ·have e:=of_decide_eq_true e
  rw [decide_eq_true (show ds.length/3<1 by omega)];simp
 have e6:=of_decide_eq_false e6
 refine cond_of (fun e=>hN ?_) fun e7=>?_
 ·have e:=of_decide_eq_true e
  rw [decide_eq_true (show ds.length/3>256 by omega)];simp
 have e7:=of_decide_eq_false e7
 have hgo:(F.h.Color=3→¬ds.length/3>2^F.h.Depth.toNat)→J () w:=by
  intro e8
  have hall:(!(F.hasP || F.hasD || decide (F.h.Color=0) || decide (F.h.Color=4) || decide (ds.length%3≠0) || decide (ds.length/3<1) || decide (ds.length/3>256) || (decide (F.h.Color=3) && decide (ds.length/3>2^F.h.Depth.toNat))))=true:=by
   rw [e1,e2,decide_eq_false e3,decide_eq_false e4,decide_eq_false (show ¬ds.length%3≠0 by omega),decide_eq_false (show ¬ds.length/3<1 by omega),decide_eq_false (show ¬ds.length/3>256 by omega)]
   by_cases e:F.h.Color=3
   ·rw [decide_eq_false (e8 e)];simp
   ·rw [decide_eq_false e];simp
  refine hJ _ _ ?_
  rw [add_mk]
  refine stK_blk h.blk (by simp [fCells,T_png_file.rep]) fun w2 hb2 hg2 hs2=>?_
  rw [add_mk]
  refine stK_blk hb2 (by simp [fCells,T_png_file.rep,putL]) fun w3 hb3 hg3 hs3=>?_
  have hc3:Chg (fun k=>k=g) w w3:=(Chg.gg hg2).trans (Chg.gg hg3) fun i _ hi=>hi
  refine hY hall w3 ⟨hb3,hx.chg hc3 fun a ha e=>?_,h.tr.chg hc3 fun a ha e=>?_,h.data.chg hc3 fun k hk e=>own_ne_blk h.data h.blk (by decide) k hk e,hxb,h.tb⟩ hc3
  ·have:=hxb a.block (slk.2 ⟨a,ha,rfl⟩);omega
  ·have:=h.tb a.block (slk.2 ⟨a,ha,rfl⟩);omega
 refine ldI_of (x:=F.h.Color) (by rw [add_zero];exact h.blk.cells 3 _ rfl) ?_
 refine cond_of (fun e=>?_) fun e=>?_
 ·have e:F.h.Color=3:=eq_of_beq e
  refine ldI_of (x:=F.h.Depth) (by rw [add_zero];exact h.blk.cells 2 _ rfl) ⟨by have:=hc.d;omega,?_⟩
  have hsh:IntKind.i64.wrap ((1:Int)*2^(min F.h.Depth.toNat IntKind.i64.bits))=((2^F.h.Depth.toNat:Nat):Int):=by
   rcases hc.d with h | h | h | h | h<;>rw [h]<;>decide
  rw [hsh]
  refine cond_of (fun e8=>hN ?_) fun e8=>hgo fun _=>?_
  ·have e8:=of_decide_eq_true e8
   rw [decide_eq_true e,decide_eq_true (show ds.length/3>2^F.h.Depth.toNat from by exact_mod_cast e8)];simp
  ·have e8:=of_decide_eq_false e8
   intro h9
   exact e8 (by exact_mod_cast h9)
 ·have e:F.h.Color≠3:=by simpa using e
  exact hgo fun h=>absurd h e
theorem clear_spec (h:FilA w g b F p t d) (hc:ColOk F.h) {x:Slc} {ds:List UInt8} (hx:Rd E_uint8 w x ds) (hxb:∀k,x.blk=some k→k<b) (hbg:b≤g) (hl:ds.length≤1000000000) (hpl:F.pal.length≤1000000000) {K:Bool→World→Prop}
  (hN:trnsOk F ds=false→K false w) (hY:trnsOk F ds=true→∀w',FilA w' g b { F with tr:=ds,hasT:=true } p x d→Chg (fun k=>k=g) w w'→K true w'):c_png_file_clear (some ⟨g,0,none⟩) x w K:=by
 refine call_png_file_clear _ _ ?_
 unfold sh_png_file_clear
 simp only [onPtr_some]
 refine joinP_of fun J1 hJ1=>?_
 unfold trnsOk at hN hY
 have key:∀ok:Bool,ok=(if F.h.Color=0 then decide (ds.length=2) else if F.h.Color=2 then decide (ds.length=6) else if F.h.Color=3 then F.hasP && decide (ds.length≤F.pal.length/3) else false)→J1 (ok,()) w:=by
  intro ok hok
  rw [←hok] at hN hY
  refine hJ1 _ _ (joinP_of fun J2 hJ2=>?_)
  refine cond_of (fun e=>hN ?_) fun e1=>?_
  ·have:ok=false:=by simpa using e
   rw [this];simp
  have e1:ok=true:=by simpa using e1
  refine ldB_of (x:=F.hasT) (h.blk.cells 8 _ rfl) (cond_of (fun e=>hN (by rw [e];simp)) fun e2=>?_)
  refine ldB_of (x:=F.hasD) (h.blk.cells 10 _ rfl) (cond_of (fun e=>hN (by rw [e];simp)) fun e3=>?_)
  refine hJ2 _ _ ?_
  rw [add_mk]
  refine stK_blk h.blk (by simp [fCells,T_png_file.rep]) fun w2 hb2 hg2 hs2=>?_
  rw [add_mk]
  refine stK_blk hb2 (by simp [fCells,T_png_file.rep,putL]) fun w3 hb3 hg3 hs3=>?_
  have hc3:Chg (fun k=>k=g) w w3:=(Chg.gg hg2).trans (Chg.gg hg3) fun i _ hi=>hi
  refine hY (by rw [e1,e2,e3];rfl) w3 ⟨hb3,h.pal.chg hc3 fun a ha e=>?_,hx.chg hc3 fun a ha e=>?_,h.data.chg hc3 fun k hk e=>own_ne_blk h.data h.blk (by decide) k hk e,h.pb,hxb⟩ hc3
  ·have:=h.pb a.block (slk.2 ⟨a,ha,rfl⟩);omega
  ·have:=hxb a.block (slk.2 ⟨a,ha,rfl⟩);omega
 have hnn:∀m:Nat,((((ds.length:Nat):Int))==(m:Int))=decide (ds.length=m):=fun m=>by rw [Bool.eq_iff_iff];simp;omega
 refine ldI_of (x:=F.h.Color) (by rw [add_zero];exact h.blk.cells 3 _ rfl) ?_
 rw [hx.n]
 refine cond_of (fun e=>?_) fun e0=>?_
 ·refine key _ ?_
  rw [if_pos (eq_of_beq e)]
  exact hnn 2
 have e0:F.h.Color≠0:=by simpa using e0
 refine cond_of (fun e=>?_) fun e2=>?_
 ·refine key _ ?_
  rw [if_neg e0,if_pos (eq_of_beq e)]
  exact hnn 6
 have e2:F.h.Color≠2:=by simpa using e2
 refine cond_of (fun e=>?_) fun e3=>?_
 ·have e3:F.h.Color=3:=eq_of_beq e
  refine ldB_of (x:=F.hasP) (h.blk.cells 7 _ rfl) (cond_of (fun e=>?_) fun e=>?_)
  ·refine ldSl_of (x:=p) (h.blk.cells 5 _ rfl) ⟨by decide,key _ ?_⟩
   rw [if_neg e0,if_neg e2,if_pos e3,e,h.pal.n,show (3:Int)=((3:Nat):Int) from rfl,←Int.ofNat_tdiv,wrap64_id (x:=((F.pal.length/3:Nat):Int)) (by omega),Bool.true_and]
   rw [decide_eq_decide]
   omega
  ·refine key _ ?_
   rw [if_neg e0,if_neg e2,if_pos e3,e]
   rfl
 ·have e3:F.h.Color≠3:=by simpa using e3
  refine key _ ?_
  rw [if_neg e0,if_neg e2,if_neg e3]
theorem kind_beq (k l:List UInt8):((strB k).toList==(strB l).toList)=decide (k=l):=by
 rw [strB_toList,strB_toList,Bool.eq_iff_iff]
 simp
theorem FilA.setW (h:FilA w g b F p t d) (v:Bool) {w':World} (hb:Blk w' g ty_png_file (fCells { F with wasD:=v } p t d)) (hc:Chg (fun k=>k=g) w w') (hbg:b≤g):FilA w' g b { F with wasD:=v } p t d :=
 ⟨hb,h.pal.chg hc fun a ha e=>by have:=h.pb a.block (slk.2 ⟨a,ha,rfl⟩);omega,h.tr.chg hc fun a ha e=>by have:=h.tb a.block (slk.2 ⟨a,ha,rfl⟩);omega,h.data.chg hc fun k hk e=>own_ne_blk h.data h.blk (by decide) k hk e,h.pb,h.tb⟩
theorem pTake_spec (h:FilA w g b F p t d) (hc:ColOk F.h) {x:T_png_Chunk} {c:ChL} (hx:ChA w x c) (hxb:∀k,x.Data.blk=some k→k<b) (hbg:b≤g) (hk4:c.kind.length=4) (hl:c.data.length≤1000000) (hpl:F.pal.length≤1000000) (hdl:F.data.length≤1000000000) {K:Int→World→Prop}
  (hN:∀w',(takeP F c).1≠0→Below b w w'→K ((takeP F c).1:Nat) w') (hY:(takeP F c).1=0→∀p' t' d' w',FilA w' g b (takeP F c).2 p' t' d'→Below b w w'→K 0 w'):c_png_file_take (some ⟨g,0,none⟩) x w K:=by
 refine call_png_file_take _ _ ?_
 unfold sh_png_file_take
 simp only [onPtr_some]
 have hgl:=h.blk.lt
 refine nw_blk fun w1 h1 hB1 hs1=>?_
 have hf1:=h.ext hB1
 refine ldB_of (x:=F.wasD) (hf1.blk.cells 11 _ rfl) ?_
 refine ldStr_of (x:=x.Kind) (h1.cells 0 _ rfl) ?_
 rw [hx.kind,show (⟨#[73,68,65,84]⟩:ByteArray)=strB idatL from rfl,show (⟨#[73,72,68,82]⟩:ByteArray)=strB ihdrL from rfl,show (⟨#[80,76,84,69]⟩:ByteArray)=strB plteL from rfl,show (⟨#[116,82,78,83]⟩:ByteArray)=strB trnsL from rfl,show (⟨#[73,69,78,68]⟩:ByteArray)=strB iendL from rfl,kind_beq]
 rw [add_mk]
 refine stK_blk hf1.blk (by simp [fCells,T_png_file.rep]) fun w2 hb2 hg2 hs2=>?_
 have hc2:Chg (fun k=>k=g) w1 w2:=Chg.gg hg2
 have hf2:FilA w2 g b { F with wasD:=decide (c.kind=idatL) } p t d:=hf1.setW _ hb2 hc2 hbg
 have h12:Blk w2 w.heap.size ty_png_Chunk (T_png_Chunk.rep.cells x):=h1.chg hc2 (by omega)
 have hB2:Below b w w2:=(hB1.mono (by omega)).trans (hc2.below (by have:=hB1.size;omega) fun i hi e=>by omega)
 have hx2:ChA w2 x c:=⟨hx.kind,(hx.data.ext hB1).chg hc2 fun a ha e=>by have:=hxb a.block (slk.2 ⟨a,ha,rfl⟩);omega⟩
 obtain ⟨F2,hF2⟩:∃F2:FilL,F2={ F with wasD:=decide (c.kind=idatL) }:=⟨_,rfl⟩
 rw [←hF2] at hf2
 unfold takeP at hN hY
 refine joinP_of fun J hJ=>?_
 have hbad:∀w',Below b w w'→(∀w',Below b w w'→K 3 w')→J (false,()) w':=fun w' hB hk=>hJ _ _ (cond_t rfl (hk w' hB))
 refine ldStr_of (x:=x.Kind) (h12.cells 0 _ rfl) ?_
 rw [hx.kind]
 simp only [kind_beq]
 refine cond_of (fun e=>?_) fun e1=>?_
 ·have e:=of_decide_eq_true e
  rw [if_pos e] at hN
  exact hbad w2 hB2 fun w' hB=>hN w' (show (3:Nat)≠0 by decide) hB
 have e1:=of_decide_eq_false e1
 rw [if_neg e1] at hN hY
 refine cond_of (fun e=>?_) fun e2=>?_
 ·have e:=of_decide_eq_true e
  rw [if_pos e] at hN hY
  refine ldSl_of (x:=x.Data) (h12.cells 1 _ rfl) ?_
  have hnd:decide (c.kind=idatL)=false:=decide_eq_false (by rw [e];decide)
  have hpo:plteOk F2 c.data=plteOk F c.data:=by rw [hF2];rfl
  refine colors_spec hf2 (by rw [hF2];exact hc) hx2.data hxb hbg (by omega) (fun hp=>?_) (fun hp w3 hf3 hc3=>?_)
  ·rw [hpo] at hp
   rw [hp] at hN
   exact hbad w2 hB2 fun w' hB=>hN w' (show (3:Nat)≠0 by decide) hB
  ·rw [hpo] at hp
   rw [hp] at hY
   refine hJ _ _ (cond_f rfl (hY rfl x.Data t d w3 ?_ (hB2.trans (hc3.below (by have:=hB2.size;have:=h.blk.lt;omega) fun i hi e=>by omega))))
   rw [hF2,hnd] at hf3
   exact hf3
 have e2:=of_decide_eq_false e2
 rw [if_neg e2] at hN hY
 refine cond_of (fun e=>?_) fun e3=>?_
 ·have e:=of_decide_eq_true e
  rw [if_pos e] at hN hY
  refine ldSl_of (x:=x.Data) (h12.cells 1 _ rfl) ?_
  have hnd:decide (c.kind=idatL)=false:=decide_eq_false (by rw [e];decide)
  have hpo:trnsOk F2 c.data=trnsOk F c.data:=by rw [hF2];rfl
  refine clear_spec hf2 (by rw [hF2];exact hc) hx2.data hxb hbg (by omega) (by rw [hF2];show F.pal.length≤_;omega) (fun hp=>?_) (fun hp w3 hf3 hc3=>?_)
  ·rw [hpo] at hp
   rw [hp] at hN
   exact hbad w2 hB2 fun w' hB=>hN w' (show (3:Nat)≠0 by decide) hB
  ·rw [hpo] at hp
   rw [hp] at hY
   refine hJ _ _ (cond_f rfl (hY rfl p x.Data d w3 ?_ (hB2.trans (hc3.below (by have:=hB2.size;have:=h.blk.lt;omega) fun i hi e=>by omega))))
   rw [hF2,hnd] at hf3
   exact hf3
 have e3:=of_decide_eq_false e3
 rw [if_neg e3] at hN hY
 refine cond_of (fun e=>?_) fun e4=>?_
 ·have e:=of_decide_eq_true e
  rw [if_pos e] at hN hY
  have hnd:decide (c.kind=idatL)=true:=decide_eq_true e
  refine joinP_of fun J2 hJ2=>?_
  have key:J2 (!F.hasD || F.wasD,()) w2:=by
   refine hJ2 _ _ ?_
   rw [add_mk]
   refine stK_blk hf2.blk (by simp [fCells,T_png_file.rep]) fun w3 hb3 hg3 hs3=>?_
   have hc3:Chg (fun k=>k=g) w2 w3:=Chg.gg hg3
   have h13:Blk w3 w.heap.size ty_png_Chunk (T_png_Chunk.rep.cells x):=h12.chg hc3 (by omega)
   have hb3:Blk w3 g ty_png_file (fCells { F2 with hasD:=true } p t d):=hb3
   have hx3:ChA w3 x c:=⟨hx.kind,hx2.data.chg hc3 fun a ha e=>by have:=hxb a.block (slk.2 ⟨a,ha,rfl⟩);omega⟩
   have hd3:Go.Vc.Own E_uint8 w3 b d F.data:=by
    have:=hf2.data.chg hc3 fun k hk e=>own_ne_blk hf2.data hf2.blk (by decide) k hk e
    rw [hF2] at this
    exact this
   have hBd:=below_drew w3
   refine ldSl_of (x:=d) ((hb3.ext hBd).cells 9 _ rfl) (ldSl_of (x:=x.Data) ((h13.ext hBd).cells 1 _ rfl) ?_)
   have hsz3:w3.drew.heap.size=w3.heap.size:=rfl
   refine apB (hd3.ext hBd) (hx3.data.ext hBd) (by have:=hB2.size;omega) (by omega) fun r w4 hr hg4 hrb=>?_
   have hc4:Chg (fun k=>d.blk=some k) w3 w4:=(Chg.of_ext hBd).trans hg4 fun i _ hi=>hi
   have hdg:∀k,d.blk=some k→k≠g:=own_ne_blk hd3 hb3 (by decide)
   have hb4:=hb3.chg hc4 fun e=>hdg _ e rfl
   rw [add_mk]
   refine stK_blk hb4 (by simp [fCells,T_png_file.rep]) fun w5 hb5 hg5 hs5=>?_
   have hc5:Chg (fun k=>k=g) w4 w5:=Chg.gg hg5
   have hb5:Blk w5 g ty_png_file (fCells { F2 with hasD:=true,data:=F.data++c.data } p t r):=hb5
   have hrg:∀k,r.blk=some k→k≠g:=own_ne_blk hr hb4 (by decide)
   have hlow:∀{s:Slc} {l:List UInt8},Rd E_uint8 w2 s l→(∀k,s.blk=some k→k<b)→Rd E_uint8 w5 s l:=fun {s l} hs hsb =>
    ((
     hs.chg hc3 fun a ha e=>by have:=hsb a.block (slk.2 ⟨a,ha,rfl⟩);omega).chg hc4 fun a ha e=>by
     have h1:=hsb a.block (slk.2 ⟨a,ha,rfl⟩)
     have h2:=(hd3.lt _ e).1
     omega).chg hc5 fun a ha e=>by have:=hsb a.block (slk.2 ⟨a,ha,rfl⟩);omega
   have hB5:Below b w w5:=by
    have s2:=hB2.size
    have s3:=hc3.size
    have s4:=hc4.size
    exact ((hB2.trans (hc3.below (by omega) fun i hi e=>by omega)).trans (hc4.below (by omega) fun i hi e=>by have:=(hd3.lt i e).1;omega)).trans (hc5.below (by omega) fun i hi e=>by omega)
   refine hJ _ _ ?_
   cases hok:(!F.hasD || F.wasD) with
   | false =>
    rw [hok] at hN
    exact cond_t rfl (hN w5 (show (3:Nat)≠0 by decide) hB5)
   | true =>
    rw [hok] at hY
    refine cond_f rfl (hY rfl p t r w5 ?_ hB5)
    refine ⟨?_,?_,?_,hr.chg hc5 fun k hk e=>hrg k hk e,hf2.pb,hf2.tb⟩
    ·rw [hF2,hnd] at hb5
     exact hb5
    ·have:=hlow hf2.pal hf2.pb
     rw [hF2] at this
     exact this
    ·have:=hlow hf2.tr hf2.tb
     rw [hF2] at this
     exact this
  refine ldB_of (x:=F.hasD) (by have:=hf2.blk.cells 10 _ rfl;rw [hF2] at this;exact this) ?_
  refine cond_of (fun e=>?_) fun e=>?_
  ·have e:F.hasD=false:=by simpa using e
   rw [e] at key
   exact key
  ·have e:F.hasD=true:=by simpa using e
   rw [e] at key
   exact key
 have e4:=of_decide_eq_false e4
 rw [if_neg e4] at hN hY
 have hnd:decide (c.kind=idatL)=false:=decide_eq_false e4
 have hf2':FilA w2 g b { F with wasD:=false } p t d:=by rw [hF2,hnd] at hf2;exact hf2
 refine cond_of (fun e=>?_) fun e5=>?_
 ·have e:=of_decide_eq_true e
  rw [if_pos e] at hN hY
  refine ldSl_of (x:=x.Data) (h12.cells 1 _ rfl) ?_
  rw [hx.data.n]
  by_cases he:c.data=[]
  ·rw [if_pos he] at hN hY
   rw [he]
   exact hJ _ _ (cond_f rfl (hY rfl p t d w2 hf2' hB2))
  ·rw [if_neg he] at hN
   rw [beqI_f (by have:=List.length_pos_iff.2 he;omega)]
   exact hbad w2 hB2 fun w' hB=>hN w' (show (3:Nat)≠0 by decide) hB
 have e5:=of_decide_eq_false e5
 rw [if_neg e5] at hN hY
 refine ldStr_of (x:=x.Kind) (h12.cells 0 _ rfl) ?_
 rw [hx.kind]
 have hsz:(strB c.kind).size=c.kind.length:=by show c.kind.toArray.size=_;simp
 refine ⟨⟨by decide,by rw [hsz,hk4];decide⟩,?_⟩
 have hch:((strB c.kind).data.getD (0:Int).toNat 0).toNat=(c.kind[0]?.getD 0).toNat:=by
  show (c.kind.toArray.getD 0 0).toNat=_
  rw [Array.getD_eq_getD_getElem?]
  simp
 rw [hch]
 by_cases h90:(c.kind[0]?.getD 0).toNat≤90
 ·rw [if_pos h90] at hN
  exact cond_t (decide_eq_true (by omega)) (hN w2 (show (8:Nat)≠0 by decide) hB2)
 ·rw [if_neg h90] at hN hY
  exact cond_f (decide_eq_false (by omega)) (hJ _ _ (cond_f rfl (hY rfl p t d w2 hf2' hB2)))
end
end Go.Proofs.YtmagnpcgpinmcaaGreat
set_option linter.unusedVariables false
namespace Go.Proofs.YtmagnpcgpinmcaaGreat
open Go.Vc Go.RowKit
set_option maxRecDepth 400000
theorem rowP_le (wx samples depth:Int):rowP wx samples depth≤131072:=by
 unfold rowP
 split
 ·omega
 ·rename_i h
  simp only [not_or] at h
  obtain ⟨h1,h2,h3,h4,h5⟩:=h
  have hd:isDepthP depth=true:=by cases e:isDepthP depth with | true=>rfl | false=>exact absurd e h5
  have hdp:1≤depth∧depth≤16:=by
   unfold isDepthP at hd
   simp at hd
   omega
  have a1:0≤wx*samples:=Int.mul_nonneg (by omega) (by omega)
  have a2:wx*samples≤16384*4:=Int.mul_le_mul (by omega) (by omega) (by omega) (by omega)
  have a4:wx*samples*depth≤16384*4*16:=Int.mul_le_mul a2 (by omega) (by omega) (by omega)
  omega
def needL (h:T_png_Head) (L:List (PassP×Nat×Nat)):Nat:=(L.map fun r=>1+rowB h r.2.2).sum
theorem needL_le (h:T_png_Head):∀L:List (PassP×Nat×Nat),needL h L≤L.length*200000
 | []=>by simp [needL]
 | r::l=>by
  have:=needL_le h l
  have h2:rowB h r.2.2≤131072:=rowP_le _ _ _
  unfold needL at this ⊢
  rw [List.map_cons,List.sum_cons,List.length_cons]
  omega
theorem needL_snoc (h:T_png_Head) (L:List (PassP×Nat×Nat)) (r:PassP×Nat×Nat):needL h (L++[r])=needL h L+(1+rowB h r.2.2):=by simp [needL]
theorem flat_len (W H:Nat) (hH:H≤16384):∀ps:List PassP,(ps.flatMap (rowsOf W H)).length≤ps.length*16384
 | []=>by simp
 | p::r=>by
  have:=flat_len W H hH r
  have h2:=(sizeP_le p W H).2
  rw [List.flatMap_cons,List.length_append,rowsOf_length,List.length_cons]
  omega
theorem rowsL_len {h:T_png_Head} {W H:Nat} (ho:HeadOk h W H):(rowsL h).length≤7*16384:=by
 unfold rowsL
 rw [ho.wn,ho.hn]
 have h1:=flat_len W H ho.h2 (passesP h.Lace)
 have h2:=passes_len h.Lace
 omega
theorem keepT_of {w w':World} {S:Nat→Prop} (h:Chg S w w') (hS:∀k,S k→∃t cs,Blk w k t cs∧t≠ty_filter_Pass∧t≠ty_png_Head):KeepT w w':=fun k t cs ht hb=>hb.chg h fun e=>by
 obtain ⟨t',cs',hb',h1,h2⟩:=hS k e
 refine hb.ne_t hb' ?_ rfl
 rcases ht with rfl | rfl
 ·exact fun e=>h1 e.symm
 ·exact fun e=>h2 e.symm
section
variable {w:World}
theorem need_spec {h:T_png_Head} {W H:Nat} (ho:HeadOk h W H) {K:Int→World→Prop} (hK:∀w',Below w.heap.size w w'→K ((needP h:Nat):Int) w'):c_png_Head_need h w K:=by
 refine call_png_Head_need _ ?_
 unfold sh_png_Head_need
 refine nw_blk fun w1 h1 hB1 hs1=>nw_blk fun w2 h2 hB2 hs2=>?_
 have hB12:=below_t hB1 hB2
 refine all_of h2 rfl fun w3 h3 hc3 hs3=>?_
 have hB3:=below_one hB12 hc3 (by omega)
 have h13:Blk w3 w.heap.size ty_png_Head _:=(h1.ext hB2).chg hc3 (by omega)
 refine ldS_of (r:=T_png_Head.rep) (x:=h) h13.cells ?_
 refine rows_spec ho (fun L w4=>Blk w4 w1.heap.size ty_int [.int .i64 ((needL h L:Nat):Int)]∧Blk w4 w.heap.size ty_png_Head (T_png_Head.rep.cells h)∧Below w.heap.size w w4) (fun _=>False) ⟨h3,h13,hB3⟩ ?_ ?_ ?_ (fun _ h=>h.elim)
 ·rintro L w4 w5 ⟨a,b,c⟩ hB
  exact ⟨a.ext hB,b.ext hB,below_t c hB⟩
 ·rintro L r R w4 hL ⟨a,b,c⟩ hs4 J hJ1 hJ0
  refine callR_plain (by kernel_rfl) ?_
  have hcall:c_png_Head_need_1 (passT r.1) (r.2.1:Int) (r.2.2:Int) ⟨w1.heap.size,0,none⟩ ⟨w.heap.size,0,none⟩ w4 J:=by
   refine call_png_Head_need_1 _ _ _ _ _ ?_
   unfold sh_png_Head_need_1
   refine nw_blk fun w5 h5 hB5 hs5=>?_
   have hBd:=below_t hB5 (below_drew w5)
   have ad:=a.ext hBd
   have bd:=b.ext hBd
   refine ldI_of (x:=((needL h L:Nat):Int)) (ad.cell 0 rfl) (ldI_of (x:=h.Color) (bd.cells 3 _ rfl) (ldI_of (x:=h.Depth) (bd.cells 2 _ rfl) ?_))
   refine Samples_spec ⟨bd.cells 2 _ rfl,ad.cell 0 rfl,Row_spec ⟨ad.cell 0 rfl,?_⟩⟩
   have hle:=needL_le h L
   have hll:=rowsL_len ho
   rw [hL,List.length_append,List.length_cons] at hll
   have hrl:rowP (r.2.2:Int) (samplesOf h.Color) h.Depth≤131072:=rowP_le _ _ _
   have hrb:rowB h r.2.2=rowP (r.2.2:Int) (samplesOf h.Color) h.Depth:=rfl
   rw [wrap64_id (x:=(1:Int)+((rowP (r.2.2:Int) (samplesOf h.Color) h.Depth:Nat):Int)) (by omega),wrap64_id (by omega)]
   refine all_of ad rfl fun w6 h6 hc6 hs6=>?_
   have hne:w.heap.size≠w1.heap.size:=by omega
   refine hJ1 w6 ⟨?_,bd.chg hc6 hne,below_one (below_t c hBd) hc6 (by omega)⟩ ?_ (by have:=hBd.size;omega)
   ·rw [needL_snoc,hrb]
    have e:((needL h L:Nat):Int)+((1:Int)+((rowP (r.2.2:Int) (samplesOf h.Color) h.Depth:Nat):Int))=((needL h L+(1+rowP (r.2.2:Int) (samplesOf h.Color) h.Depth):Nat):Int):=by omega
    rw [e] at h6
    exact h6
   ·refine keepT_of (S:=fun k=>k=w1.heap.size) ((Chg.of_ext hBd).trans hc6 fun i _ hi=>hi) fun k hk=>⟨ty_int,[.int .i64 ((needL h L:Nat):Int)],by rw [hk];exact a,by decide,by decide⟩
  refine Calls.mono hcall ?_
  rintro e w' ⟨r,rfl,hk⟩
  exact ⟨r,rfl,hk⟩
 ·rintro w4 ⟨a,b,c⟩
  exact ldI_of (x:=((needP h:Nat):Int)) (a.cell 0 rfl) (hK w4 c)
theorem Scale_spec {v n:Nat} {K:Int→World→Prop} (hv:v≤1000000) (hn:1≤n) (hn2:n≤1000000) (hvn:v≤n) (h255:v≤1000) (hK:K ((scaleP v n 255:Nat):Int) w):c_pixel_Scale_int (v:Int) (n:Int) 255 w K:=by
 refine call_pixel_Scale_int _ _ _ ?_
 unfold sh_pixel_Scale_int
 refine joinP_of fun J hJ=>?_
 have hj:J () w:=hJ _ _ ⟨by decide,by omega,by
  unfold scaleP at hK
  rw [if_neg (by omega)] at hK
  have hq:(v*255+n/2)/n≤v*255+n/2:=Nat.div_le_self _ _
  rw [wrap64_id (x:=(v:Int)*255) (by omega),show (2:Int)=((2:Nat):Int) from rfl,←Int.ofNat_tdiv,wrap64_id (x:=((n/2:Nat):Int)) (by omega),show (v:Int)*255+((n/2:Nat):Int)=((v*255+n/2:Nat):Int) by omega,wrap64_id (x:=((v*255+n/2:Nat):Int)) (by omega),←Int.ofNat_tdiv]
  generalize (v*255+n/2)/n=q at hK hq ⊢
  rw [wrap64_id (by omega)]
  exact hK⟩
 refine cond_f (decide_eq_false (by omega)) (cond_f (decide_eq_false (by omega)) (cond_f (decide_eq_false (by omega)) (cond_f (by decide) ?_)))
 refine cond_of (fun h=>?_) fun h=>hj
 have h:=of_decide_eq_true h
 refine ⟨by omega,cond_f (decide_eq_false ?_) hj⟩
 rw [show (1073741824:Int)=((1073741824:Nat):Int) from rfl,←Int.ofNat_tdiv]
 have h1:1073741824/v≤1073741824:=Nat.div_le_self _ _
 have h2:255≤1073741824/v:=(Nat.le_div_iff_mul_le (by omega)).2 (by omega)
 generalize 1073741824/v=q at h1 h2 ⊢
 rw [wrap64_id (by omega)]
 omega
theorem wrap8_n (n:Nat):IntKind.u8.wrap (n:Int)=(((UInt8.ofNat n).toNat:Nat):Int):=wrap8_of n
theorem eight_spec {h:T_png_Head} {v:Nat} {K:Int→World→Prop} (hc:ColOk h) (hv:v<2^h.Depth.toNat) (hK:∀w',Below w.heap.size w w'→K (((eightP h.Depth v).toNat:Nat):Int) w'):c_png_Head_eight h (v:Int) w K:=by
 refine call_png_Head_eight _ _ ?_
 unfold sh_png_Head_eight
 refine nw_blk fun w1 h1 hB1 hs1=>?_
 refine ldI_of (x:=h.Depth) (h1.cells 2 _ rfl) ?_
 unfold eightP at hK
 refine cond_of (fun e=>?_) fun e8=>?_
 ·rw [if_pos (eq_of_beq e)] at hK
  rw [wrap8_n]
  exact hK w1 hB1
 have e8:h.Depth≠8:=by simpa using e8
 rw [if_neg e8] at hK
 refine cond_of (fun e=>⟨by decide,?_⟩) fun e16=>?_
 ·rw [if_pos (eq_of_beq e)] at hK
  rw [show min ((8:Int)).toNat IntKind.i64.bits=8 by decide,fdiv_nat,wrap8_n]
  exact hK w1 hB1
 have e16:h.Depth≠16:=by simpa using e16
 rw [if_neg e16] at hK
 refine ldI_of (x:=h.Depth) (h1.cells 2 _ rfl) ⟨by have:=hc.d;omega,?_⟩
 have hd:h.Depth=1∨h.Depth=2∨h.Depth=4:=by have:=hc.d;omega
 have hsh:IntKind.i64.wrap ((IntKind.i64.wrap ((1:Int)*2^(min h.Depth.toNat IntKind.i64.bits)))-(1:Int))=((2^h.Depth.toNat-1:Nat):Int):=by
  rcases hd with h | h | h<;>rw [h]<;>decide
 have hp:2≤2^h.Depth.toNat∧2^h.Depth.toNat≤16:=by rcases hd with h | h | h<;>rw [h]<;>decide
 rw [hsh]
 refine Scale_spec (by omega) (by omega) (by omega) (by omega) (by omega) ?_
 rw [wrap8_n]
 exact hK w1 hB1
def colT (a b c d:UInt8):T_pixel_Color:=⟨(a.toNat:Nat),(b.toNat:Nat),(c.toNat:Nat),(d.toNat:Nat)⟩
theorem tr_val {f:FilL} {i:Nat} {d:Nat} (hd:d=1∨d=2∨d=4∨d=8∨d=16) (x y:UInt8) :
  bitsR .and .i64 (bitsR .or .i64 (IntKind.i64.wrap ((IntKind.i64.wrap ((x.toNat:Nat):Int))*2^(min (8:Int).toNat IntKind.i64.bits))) (IntKind.i64.wrap ((y.toNat:Nat):Int))) (IntKind.i64.wrap ((IntKind.i64.wrap ((1:Int)*2^(min ((d:Nat):Int).toNat IntKind.i64.bits)))-(1:Int)))=(((x.toNat*256+y.toNat)%2^d:Nat):Int):=by
 have hx:=x.toNat_lt
 have hy:=y.toNat_lt
 rw [w8,w8,show min ((8:Int)).toNat IntKind.i64.bits=8 by decide,mul_pow_nat,wrap_nat .i64 (x:=x.toNat*2^8) (by show _<2^63;omega),bits_or .i64 (by show _<2^63;omega) (by show _<2^63;omega)]
 have e:x.toNat*2^8 ||| y.toNat=x.toNat*256+y.toNat:=by
  rw [Nat.or_comm,Nat.mul_comm,add_or (by omega)]
  omega
 have hsh:IntKind.i64.wrap ((IntKind.i64.wrap ((1:Int)*2^(min ((d:Nat):Int).toNat IntKind.i64.bits)))-(1:Int))=((2^d-1:Nat):Int):=by
  rcases hd with rfl | rfl | rfl | rfl | rfl<;>decide
 have hp:2^d≤65536:=by rcases hd with rfl | rfl | rfl | rfl | rfl<;>decide
 rw [e,hsh,bits_and .i64 (by show _<2^63;omega) (by show _<2^63;omega),Nat.and_two_pow_sub_one_eq_mod]
theorem trSame_succ (F:FilL) (ss:List Nat) (i:Nat):trSame F ss (i+1)=(trSame F ss i && decide (ss[i]?.getD 0=((F.tr[2*i]?.getD 0).toNat*256+(F.tr[2*i+1]?.getD 0).toNat)%2^F.h.Depth.toNat)):=by
 unfold trSame
 rw [List.range_succ,List.all_append]
 simp
theorem trSame_false {F:FilL} {ss:List Nat} {i n:Nat} (h:trSame F ss i=false) (hin:i≤n):trSame F ss n=false:=by
 unfold trSame at h ⊢
 rw [List.all_eq_false] at h ⊢
 obtain ⟨x,hx,hh⟩:=h
 exact ⟨x,List.mem_range.2 (by have:=List.mem_range.1 hx;omega),hh⟩
theorem FilA.head {g b:Nat} {F:FilL} {p t d:Slc} (h:FilA w g b F p t d):cellsAt w ⟨g,0,none⟩ (T_png_Head.rep.cells F.h):=by
 have:cellsAt w ((⟨g,0,none⟩:Addr).add 0) (T_png_Head.rep.cells F.h):=h.blk.cells.sub 0 (by rintro j v hj;rw [Nat.zero_add];match j,hj with
     | 0,hj=>exact hj
     | 1,hj=>exact hj
     | 2,hj=>exact hj
     | 3,hj=>exact hj
     | 4,hj=>exact hj
     | j+5,hj=>simp [T_png_Head.rep] at hj)
 rwa [add_zero] at this
theorem color_spec {g b:Nat} {F:FilL} {p t d:Slc} (h:FilA w g b F p t d) (ho:FilOk F) {s:Slc} {ss:List Nat} (hs:Rd E_int w s (intsN ss)) (hsl:ss.length=samplesOf F.h.Color) (hsv:∀v∈ss,v<2^F.h.Depth.toNat) (hpl:F.pal.length≤1000000) (htl:F.tr.length≤1000000) {K:T_pixel_Color→Bool→World→Prop}
  (hN:∀x w',colorP F ss=none→Below w.heap.size w w'→K x false w') (hY:∀a b c d w',colorP F ss=some [a,b,c,d]→Below w.heap.size w w'→K (colT a b c d) true w'):c_png_file_color (some ⟨g,0,none⟩) s w K:=by
 obtain ⟨_,hc⟩:=checkP_ok ho.hd
 refine call_png_file_color _ _ ?_
 unfold sh_png_file_color
 simp only [onPtr_some]
 refine nw_blk fun w1 h1 hB1 hs1=>nw_blk fun w2 h2 hB2 hs2=>?_
 have hB12:=below_t hB1 hB2
 refine all_of h2 rfl fun w3 h3 hc3 hs3=>?_
 have hB3:=below_one hB12 hc3 (by omega)
 have h13:Blk w3 w.heap.size ty_pixel_Color _:=(h1.ext hB2).chg hc3 (by omega)
 have h3:Blk w3 w1.heap.size ty_pixel_Color (bcells [0,0,0,255]):=h3
 have hss:∀i,i<ss.length→∃v,ss[i]?=some v∧v<2^F.h.Depth.toNat:=fun i hi=>⟨ss[i],List.getElem?_eq_getElem hi,hsv _ (List.getElem_mem hi)⟩
 have hsn:=hs.n
 rw [ints_length] at hsn
 have scell:∀{w':World} {i v:Nat},Below w.heap.size w w'→ss[i]?=some v→w'.cell? (s.at_ 1 i)=some (.int .i64 (v:Int)):=fun {w' i v} hB hv=>by
  have:=(hs.ext hB).at_ i (v:Int) (by rw [ints_get,hv];rfl) 0 _ rfl
  have h2:w'.cell? (s.at_ E_int.k i)=some (.int .i64 (v:Int)):=by simpa using this
  exact h2
 have six:∀{w':World} {i:Nat} {K:Addr→Prop},i<ss.length→K (s.at_ 1 i)→ixK s (i:Int) 1 K:=fun {w' i K} hi hk=>hs.ix (i:=(i:Int)) rfl (by omega) (by rw [ints_length];omega) fun _=>hk
 have hsmp1:1≤ss.length:=by
  rw [hsl]
  unfold samplesOf
  rcases hc.c with e | e | e | e | e<;>rw [e]<;>decide
 have hs4:ss.length≤4:=by
  rw [hsl]
  unfold samplesOf
  rcases hc.c with e | e | e | e | e<;>rw [e]<;>decide
 obtain ⟨v0,hv0,hv0l⟩:=hss 0 (by omega)
 have told:∀(a b' c d':UInt8) w',Blk w' w1.heap.size ty_pixel_Color (bcells [a,b',c,d'])→Blk w' w.heap.size ty_pixel_Color (bcells [0,0,0,0])→Below w.heap.size w w'→colorP F ss=some [a,b',c,d'] →
   ldS T_pixel_Color.rep ⟨w1.heap.size,0,none⟩ w' fun t175=>stK ⟨w.heap.size,0,none⟩ (T_pixel_Color.rep.cells t175) w' fun w9=>ldS T_pixel_Color.rep ⟨w.heap.size,0,none⟩ w9 fun r=>K r true w9:=by
  intro a b' c d' w' hb ht hB hcol
  refine ldS_of (r:=T_pixel_Color.rep) (x:=colT a b' c d') hb.cells ?_
  exact res_of (r:=T_pixel_Color.rep) (x:=colT a b' c d') ht rfl rfl fun w9 hc9 _=>hY a b' c d' w9 hcol (below_one hB hc9 (Nat.le_refl _))
 refine joinP_of fun J1 hJ1=>?_
 have base:∀(a b' c:UInt8) w4,F.h.Color≠3→Blk w4 w1.heap.size ty_pixel_Color (bcells [a,b',c,255])→Blk w4 w.heap.size ty_pixel_Color (bcells [0,0,0,0])→Below w.heap.size w w4 →
   (∀al:UInt8,al=(if F.hasT && trSame F ss ss.length then 0 else if F.h.Color=4∨F.h.Color=6 then eightP F.h.Depth (ss[ss.length-1]?.getD 0) else 255)→colorP F ss=some [a,b',c,al])→J1 () w4:=by
  intro a b' c w4 hn3 hb4 ht4 hB4 hcol
  refine hJ1 _ _ (joinP_of fun J2 hJ2=>?_)
  have tail:∀(al:UInt8) w5,Blk w5 w1.heap.size ty_pixel_Color (bcells [a,b',c,al])→Blk w5 w.heap.size ty_pixel_Color (bcells [0,0,0,0])→Below w.heap.size w w5→al=(if F.h.Color=4∨F.h.Color=6 then eightP F.h.Depth (ss[ss.length-1]?.getD 0) else 255)→J2 () w5:=by
   intro al w5 hb5 ht5 hB5 hal
   refine hJ2 _ _ ?_
   have hf5:=h.ext hB5
   refine ldB_of (x:=F.hasT) (hf5.blk.cells 8 _ rfl) ?_
   refine loopP_rule (fun (st:Bool×Int×Unit) w6=>∃i:Nat,st.2.1=i∧i≤ss.length∧st.1=(F.hasT && trSame F ss i)∧Blk w6 w1.heap.size ty_pixel_Color (bcells [a,b',c,al])∧Blk w6 w.heap.size ty_pixel_Color (bcells [0,0,0,0])∧Below w.heap.size w w6) (fun st=>ss.length-st.2.1.toNat)
    ⟨0,rfl,by omega,by rw [show trSame F ss 0=true from rfl,Bool.and_true],hb5,ht5,hB5⟩ ?_
   rintro ⟨sm,i,u⟩ w6 ⟨i,rfl,hi,hsm,hb6,ht6,hB6⟩ I hI
   dsimp only at hsm ⊢
   have hend:(F.hasT && trSame F ss ss.length)=sm→cond sm
       (ixA (⟨w1.heap.size,0,none⟩:Addr) 4 3 1 fun t174=>stK t174 [(.int .u8 0)] w6 fun w8=>ldS T_pixel_Color.rep (⟨w1.heap.size,0,none⟩:Addr) w8 fun t175=>stK (⟨w.heap.size,0,none⟩:Addr) (T_pixel_Color.rep.cells t175) w8 fun w9=>ldS T_pixel_Color.rep (⟨w.heap.size,0,none⟩:Addr) w9 fun r=>K r true w9)
       (ldS T_pixel_Color.rep (⟨w1.heap.size,0,none⟩:Addr) w6 fun t175_1=>stK (⟨w.heap.size,0,none⟩:Addr) (T_pixel_Color.rep.cells t175_1) w6 fun w10=>ldS T_pixel_Color.rep (⟨w.heap.size,0,none⟩:Addr) w10 fun r_1=>K r_1 true w10):=by
    intro hes
    cases hsm':sm with
    | true =>
     rw [hsm'] at hes
     refine cond_t rfl ⟨⟨by decide,by decide⟩,?_⟩
     rw [add_mk]
     refine stK_blk hb6 (by simp [bcells]) fun w8 hb8 hg8 hs8=>?_
     have hb8:Blk w8 w1.heap.size ty_pixel_Color (bcells [a,b',c,0]):=hb8
     have hc8:Chg (fun k=>k=w1.heap.size) w6 w8:=Chg.gg hg8
     refine told a b' c 0 w8 hb8 (ht6.chg hc8 (by omega)) (below_one hB6 hc8 (by omega)) (hcol 0 ?_)
     rw [hes,if_pos rfl]
    | false =>
     rw [hsm'] at hes
     refine cond_f rfl (told a b' c al w6 hb6 ht6 hB6 (hcol al ?_))
     rw [hes,if_neg (by decide)]
     exact hal
   refine joinP_of fun J4 hJ4=>?_
   rw [hsn]
   refine cond_of (fun hlt=>?_) fun hge=>?_
   ·have hlt:=of_decide_eq_true hlt
    have hil:i<ss.length:=by omega
    cases hsm':sm with
    | false =>
     rw [hsm'] at hsm
     refine cond_f rfl ?_
     rw [hsm'] at hend
     refine hend ?_
     cases hT:F.hasT with
     | false=>rfl
     | true =>
      rw [hT,Bool.true_and] at hsm
      rw [Bool.true_and]
      exact trSame_false hsm.symm (by omega)
    | true =>
     rw [hsm'] at hsm
     have hT:F.hasT=true:=by cases e:F.hasT with | true=>rfl | false=>rw [e] at hsm;cases hsm
     have htr:=ho.tr hT
     refine cond_t rfl (hJ4 _ _ ?_)
     have hBd:=below_t hB6 (below_drew w6)
     have hfd:=h.ext hBd
     obtain ⟨v,hv,hvl⟩:=hss i hil
     have htl2:2*i+1<F.tr.length:=by
      rcases htr with ⟨e,e2⟩ | ⟨e,e2⟩ | e
      ·rw [hsl,e] at hil
       have:samplesOf 0=1:=rfl
       omega
      ·rw [hsl,e] at hil
       have:samplesOf 2=3:=rfl
       omega
      ·exact absurd e hn3
     obtain ⟨x,hx,hxs⟩:=get_of (xs:=F.tr) (k:=2*i) (by omega)
     obtain ⟨y,hy,hys⟩:=get_of (xs:=F.tr) (k:=2*i+1) htl2
     refine six (w':=w6) hil (ldI_of (scell hBd hv) ?_)
     refine ldSl_of (x:=t) (hfd.blk.cells 6 _ rfl) ?_
     have ei:IntKind.i64.wrap ((2:Int)*(i:Int))=((2*i:Nat):Int):=by rw [wrap64_id (by omega)];simp
     have ei1:IntKind.i64.wrap ((((2*i:Nat)):Int)+(1:Int))=((2*i+1:Nat):Int):=by rw [wrap64_id (by omega)];rfl
     rw [ei,ei1]
     refine hfd.tr.ix (i:=((2*i:Nat):Int)) rfl (by omega) (by omega) fun _=>?_
     refine ldI_of (x:=(x.toNat:Int)) (by rw [Int.toNat_natCast];exact rdcell hfd.tr hx) ⟨by decide,?_⟩
     refine ldSl_of (x:=t) (hfd.blk.cells 6 _ rfl) ?_
     refine hfd.tr.ix (i:=((2*i+1:Nat):Int)) rfl (by omega) (by omega) fun _=>?_
     refine ldI_of (x:=(y.toNat:Int)) (by rw [Int.toNat_natCast];exact rdcell hfd.tr hy) ?_
     refine ldI_of (x:=F.h.Depth) (by rw [add_zero];exact hfd.blk.cells 2 _ rfl) ⟨by have:=hc.d;omega,?_⟩
     have hdn:F.h.Depth=((F.h.Depth.toNat:Nat):Int):=by have:=hc.d;omega
     have hv2:=tr_val (f:=F) (i:=i) (d:=F.h.Depth.toNat) (by have:=hc.d;omega) x y
     rw [←hdn] at hv2
     rw [hv2,wrap64_id (by omega)]
     refine hI _ _ ⟨i+1,rfl,by omega,?_,hb6.ext (below_drew w6),ht6.ext (below_drew w6),hBd⟩ (by simp;omega)
     dsimp only
     rw [hT,Bool.true_and] at hsm ⊢
     rw [trSame_succ,←hsm,hv,hx,hy,Bool.true_and,Bool.eq_iff_iff]
     simp only [beq_iff_eq,decide_eq_true_eq,Option.getD_some]
     omega
   ·have hge:=of_decide_eq_false hge
    obtain rfl:i=ss.length:=by omega
    exact hend hsm.symm
  refine joinP_of fun J5 hJ5=>?_
  have al:∀bb:Bool,(bb=true↔F.h.Color=4∨F.h.Color=6)→J5 (bb,()) w4:=by
   intro bb hbb
   refine hJ5 _ _ ?_
   refine cond_of (fun e=>?_) fun e=>?_
   ·have hBd:=below_t hB4 (below_drew w4)
    have hfd:=h.ext hBd
    refine ldS_of (r:=T_png_Head.rep) (x:=F.h) (by rw [add_zero];exact hfd.head) ?_
    rw [hsn,wrap64_id (by omega),show ((ss.length:Nat):Int)-1=((ss.length-1:Nat):Int) by omega]
    obtain ⟨v,hv,hvl⟩:=hss (ss.length-1) (by omega)
    refine six (w':=w4) (by omega) (ldI_of (scell hBd hv) ?_)
    refine eight_spec hc hvl fun w5 hB5=>⟨⟨by decide,by decide⟩,?_⟩
    rw [add_mk]
    refine stK_blk ((hb4.ext (below_drew w4)).ext hB5) (by simp [bcells]) fun w6 hb6 hg6 hs6=>?_
    have hb6:Blk w6 w1.heap.size ty_pixel_Color (bcells [a,b',c,eightP F.h.Depth v]):=hb6
    have hc6:Chg (fun k=>k=w1.heap.size) w5 w6:=Chg.gg hg6
    refine tail (eightP F.h.Depth v) w6 hb6 (((ht4.ext (below_drew w4)).ext hB5).chg hc6 (by omega)) (below_one (below_t hBd hB5) hc6 (by omega)) ?_
    rw [if_pos (hbb.1 e),hv]
    rfl
   ·refine tail 255 w4 hb4 ht4 hB4 ?_
    rw [if_neg fun h=>by rw [hbb.2 h] at e;cases e]
  have hf4:=h.ext hB4
  refine ldI_of (x:=F.h.Color) (by rw [add_zero];exact hf4.blk.cells 3 _ rfl) ?_
  refine cond_of (fun e=>al _ ?_) fun e=>?_
  ·have:=eq_of_beq e;simp [this]
  ·have e:F.h.Color≠4:=by simpa using e
   refine ldI_of (x:=F.h.Color) (by rw [add_zero];exact hf4.blk.cells 3 _ rfl) (al _ ?_)
   simp [e]
 have hf3:=h.ext hB3
 refine ldI_of (x:=F.h.Color) (by rw [add_zero];exact hf3.blk.cells 3 _ rfl) ?_
 have hBd:=below_t hB3 (below_drew w3)
 have hfd:=h.ext hBd
 have h3d:=h3.ext (below_drew w3)
 have h13d:Blk w3.drew w.heap.size ty_pixel_Color (bcells [0,0,0,0]):=h13.ext (below_drew w3)
 refine cond_of (fun e=>?_) fun e3=>?_
 ·have e:F.h.Color=3:=eq_of_beq e
  have hv16:v0<65536:=Nat.lt_of_lt_of_le hv0l (show 2^F.h.Depth.toNat≤2^16 from Nat.pow_le_pow_right (by decide) (by have:=hc.d;omega))
  refine six (w':=w3) (i:=0) (by omega) (ldI_of (scell hBd hv0) ?_)
  refine ldSl_of (x:=p) (hfd.blk.cells 5 _ rfl) ?_
  have e3v:IntKind.i64.wrap ((3:Int)*(v0:Int))=((3*v0:Nat):Int):=by rw [wrap64_id (by omega)];simp
  rw [e3v,hfd.pal.n]
  have hval:colorP F ss=(if 3*v0≥F.pal.length then none else some [F.pal[3*v0]?.getD 0,F.pal[3*v0+1]?.getD 0,F.pal[3*v0+2]?.getD 0,if v0<F.tr.length then F.tr[v0]?.getD 0 else 255]):=by
   unfold colorP
   rw [hv0]
   dsimp only [Option.getD_some]
   rw [if_pos e]
  refine cond_of (fun hge=>?_) fun hlt=>?_
  ·have hge:=of_decide_eq_true hge
   rw [if_pos (by omega)] at hval
   refine ldS_of (r:=T_pixel_Color.rep) (x:=colT 0 0 0 255) h3d.cells ?_
   exact res_of (r:=T_pixel_Color.rep) (x:=colT 0 0 0 255) h13d rfl rfl fun w9 hc9 _=>hN _ w9 hval (below_one hBd hc9 (Nat.le_refl _))
  have hlt:=of_decide_eq_false hlt
  rw [if_neg (by omega)] at hval
  have hp3:=ho.pal
  have hBdd:=below_t hBd (below_drew _)
  have hfdd:=h.ext hBdd
  have h3dd:=h3d.ext (below_drew _)
  have h13dd:=h13d.ext (below_drew _)
  refine ⟨⟨by decide,by decide⟩,?_⟩
  refine ldSl_of (x:=p) (hfdd.blk.cells 5 _ rfl) ?_
  refine six (w':=w3) (i:=0) (by omega) (ldI_of (scell hBdd hv0) ?_)
  rw [e3v]
  refine hfdd.pal.slK (l:=3*v0) (m:=F.pal.length) rfl (.inr rfl) (.inl ⟨rfl,rfl⟩) (by omega) (by omega) fun hpp=>?_
  rw [List.take_length] at hpp
  have hmin:(3:Nat)=min ((F.pal.drop (3*v0)).length) 3:=by rw [List.length_drop];omega
  refine copyB (o:=0) (dn:=3) (dc:=4) h3dd hpp hmin (by simp [bcells]) fun w18 hb18 hc18 hs18=>?_
  obtain ⟨q0,hq0,_⟩:=get_of (xs:=F.pal) (k:=3*v0) (by omega)
  obtain ⟨q1,hq1,_⟩:=get_of (xs:=F.pal) (k:=3*v0+1) (by omega)
  obtain ⟨q2,hq2,_⟩:=get_of (xs:=F.pal) (k:=3*v0+2) (by omega)
  have htk:(F.pal.drop (3*v0)).take 3=[q0,q1,q2]:=by
   have c0:F.pal.drop (3*v0)=q0::F.pal.drop (3*v0+1):=by
    rw [List.getElem?_eq_getElem (by omega)] at hq0
    rw [←Option.some.inj hq0,←List.drop_eq_getElem_cons]
   have c1:F.pal.drop (3*v0+1)=q1::F.pal.drop (3*v0+2):=by
    rw [List.getElem?_eq_getElem (by omega)] at hq1
    rw [←Option.some.inj hq1,←List.drop_eq_getElem_cons]
   have c2:F.pal.drop (3*v0+2)=q2::F.pal.drop (3*v0+3):=by
    rw [List.getElem?_eq_getElem (by omega)] at hq2
    rw [←Option.some.inj hq2,←List.drop_eq_getElem_cons]
   rw [c0,c1,c2]
   rfl
  rw [htk] at hb18
  have hb18:Blk w18 w1.heap.size ty_pixel_Color (bcells [q0,q1,q2,255]):=hb18
  have hB18:=below_one hBdd hc18 (by omega)
  have h18:=h13dd.chg hc18 (by omega)
  rw [hq0,hq1,hq2] at hval
  have hBd18:=below_t hB18 (below_drew w18)
  have hf18:=h.ext hBd18
  refine six (w':=w3) (i:=0) (by omega) (ldI_of (scell hBd18 hv0) ?_)
  refine ldSl_of (x:=t) (hf18.blk.cells 6 _ rfl) ?_
  rw [hf18.tr.n]
  refine cond_of (fun ht=>?_) fun ht=>?_
  ·have ht:=of_decide_eq_true ht
   rw [if_pos (by omega)] at hval
   have hBdd18:=below_t hBd18 (below_drew _)
   have hff:=h.ext hBdd18
   refine ldSl_of (x:=t) (hff.blk.cells 6 _ rfl) ?_
   refine six (w':=w3) (i:=0) (by omega) (ldI_of (scell hBdd18 hv0) ?_)
   obtain ⟨y,hy,_⟩:=get_of (xs:=F.tr) (k:=v0) (by omega)
   refine hff.tr.ix (i:=(v0:Int)) rfl (by omega) (by omega) fun _=>?_
   refine ldI_of (x:=(y.toNat:Int)) (by rw [Int.toNat_natCast];exact rdcell hff.tr hy) ⟨⟨by decide,by decide⟩,?_⟩
   rw [add_mk]
   refine stK_blk ((hb18.ext (below_drew _)).ext (below_drew _)) (by simp [bcells]) fun w19 hb19 hg19 hs19=>?_
   have hb19:Blk w19 w1.heap.size ty_pixel_Color (bcells [q0,q1,q2,y]):=hb19
   have hc19:Chg (fun k=>k=w1.heap.size) w18.drew.drew w19:=Chg.gg hg19
   rw [hy] at hval
   exact told q0 q1 q2 y w19 hb19 (((h18.ext (below_drew _)).ext (below_drew _)).chg hc19 (by omega)) (below_one hBdd18 hc19 (by omega)) hval
  ·have ht:=of_decide_eq_false ht
   rw [if_neg (by omega)] at hval
   exact told q0 q1 q2 255 w18.drew (hb18.ext (below_drew _)) (h18.ext (below_drew _)) hBd18 hval
 have e3:F.h.Color≠3:=by simpa using e3
 have hcells:∀{w':World},Below w.heap.size w w'→cellsAt w' ⟨g,0,none⟩ (T_png_Head.rep.cells F.h):=fun hB=>(h.ext hB).head
 refine joinP_of fun J6 hJ6=>?_
 have key:∀bb:Bool,(bb=true↔F.h.Color=0∨F.h.Color=4)→J6 (bb,()) w3:=by
  intro bb hbb
  refine hJ6 _ _ (cond_of (fun e=>?_) fun e=>?_)
  ·refine ldS_of (r:=T_png_Head.rep) (x:=F.h) (by rw [add_zero];exact hcells hBd) ?_
   refine six (w':=w3) (i:=0) (by omega) (ldI_of (scell hBd hv0) ?_)
   refine eight_spec hc hv0l fun w23 hB23=>?_
   refine all_of (h3d.ext hB23) rfl fun w24 h24 hc24 hs24=>?_
   have h24:Blk w24 w1.heap.size ty_pixel_Color (bcells [eightP F.h.Depth v0,eightP F.h.Depth v0,eightP F.h.Depth v0,255]):=h24
   refine base _ _ _ w24 e3 h24 ((h13d.ext hB23).chg hc24 (by omega)) (below_one (below_t hBd hB23) hc24 (by omega)) fun al hal=>?_
   unfold colorP
   dsimp only
   rw [if_neg e3,if_pos (hbb.1 e),hal,hv0]
   rfl
  ·have hn:¬(F.h.Color=0∨F.h.Color=4):=fun h=>by rw [hbb.2 h] at e;cases e
   have h3l:3≤ss.length:=by
    rw [hsl]
    rcases hc.c with e | e | e | e | e
    ·exact absurd (.inl e) hn
    ·rw [e];decide
    ·exact absurd e e3
    ·exact absurd (.inr e) hn
    ·rw [e];decide
   obtain ⟨v1,hv1,hv1l⟩:=hss 1 (by omega)
   obtain ⟨v2,hv2,hv2l⟩:=hss 2 (by omega)
   refine ldS_of (r:=T_png_Head.rep) (x:=F.h) (by rw [add_zero];exact hcells hBd) ?_
   refine six (w':=w3) (i:=0) (by omega) (ldI_of (scell hBd hv0) ?_)
   refine ldS_of (r:=T_png_Head.rep) (x:=F.h) (by rw [add_zero];exact hcells hBd) ?_
   refine six (w':=w3) (i:=1) (by omega) (ldI_of (scell hBd hv1) ?_)
   refine ldS_of (r:=T_png_Head.rep) (x:=F.h) (by rw [add_zero];exact hcells hBd) ?_
   refine six (w':=w3) (i:=2) (by omega) (ldI_of (scell hBd hv2) ?_)
   refine eight_spec hc hv0l fun w25 hB25=>?_
   have hB25':=below_t hBd hB25
   refine ⟨scell hB25' hv2,by rw [add_zero];exact hcells hB25',scell hB25' hv1,by rw [add_zero];exact hcells hB25',?_⟩
   refine eight_spec hc hv1l fun w26 hB26=>?_
   have hB26':=below_t hB25' hB26
   refine ⟨scell hB26' hv2,by rw [add_zero];exact hcells hB26',?_⟩
   refine eight_spec hc hv2l fun w27 hB27=>?_
   refine all_of (((h3d.ext hB25).ext hB26).ext hB27) rfl fun w28 h28 hc28 hs28=>?_
   have h28:Blk w28 w1.heap.size ty_pixel_Color (bcells [eightP F.h.Depth v0,eightP F.h.Depth v1,eightP F.h.Depth v2,255]):=h28
   refine base _ _ _ w28 e3 h28 ((((h13d.ext hB25).ext hB26).ext hB27).chg hc28 (by omega)) (below_one (below_t hB26' hB27) hc28 (by omega)) fun al hal=>?_
   unfold colorP
   dsimp only
   rw [if_neg e3,if_neg hn,hal,hv0,hv1,hv2]
   rfl
 refine cond_of (fun e=>key _ ?_) fun e=>key _ ?_
 ·have:=eq_of_beq e;simp [this]
 ·have e:F.h.Color≠0:=by simpa using e
  simp [e]
end
end Go.Proofs.YtmagnpcgpinmcaaGreat
set_option linter.unusedVariables false
namespace Go.Proofs.YtmagnpcgpinmcaaGreat
open Go.Vc
set_option maxRecDepth 400000
theorem flatMap_split {α β:Type} (f:α→List β):∀(ps:List α) (L R:List β) (r:β),ps.flatMap f=L++r::R→∃(ps1:List α) (p:α) (ps2:List α) (A B:List β),ps=ps1++p::ps2∧f p=A++r::B∧L=ps1.flatMap f++A
 | [],L,R,r,h=>by simp at h
 | p::ps,L,R,r,h=>by
  rw [List.flatMap_cons] at h
  rcases List.append_eq_append_iff.1 h with ⟨a',e1,e2⟩ | ⟨c',e1,e2⟩
  ·obtain ⟨ps1,q,ps2,A,B,h1,h2,h3⟩:=flatMap_split f ps a' R r e2
   exact ⟨p::ps1,q,ps2,A,B,by rw [h1];rfl,h2,by rw [e1,h3,List.flatMap_cons,List.append_assoc]⟩
  ·cases c' with
   | nil =>
    obtain ⟨ps1,q,ps2,A,B,h1,h2,h3⟩:=flatMap_split f ps [] R r (by simpa using e2.symm)
    refine ⟨p::ps1,q,ps2,A,B,by rw [h1];rfl,h2,?_⟩
    rw [List.append_nil] at e1
    rw [←e1,List.flatMap_cons,List.append_assoc,←h3,List.append_nil]
   | cons x c' =>
    injection e2 with e2 e3
    subst e2
    exact ⟨[],p,ps,L,c',rfl,e1,rfl⟩
structure RowAt (h:T_png_Head) (W H:Nat) (L:List (PassP×Nat×Nat)) (r:PassP×Nat×Nat):Prop where
 mem:r.1∈passesP h.Lace
 w:r.2.2=(sizeP r.1 W H).1
 y:r.2.1<(sizeP r.1 W H).2
 last:r.2.1=0∨∃L',L=L'++[(r.1,r.2.1-1,r.2.2)]
theorem rowsL_split {h:T_png_Head} {W H:Nat} (ho:HeadOk h W H) {L R:List (PassP×Nat×Nat)} {r:PassP×Nat×Nat} (hL:rowsL h=L++r::R):RowAt h W H L r:=by
 unfold rowsL at hL
 rw [ho.wn,ho.hn] at hL
 obtain ⟨ps1,p,ps2,A,B,h1,h2,h3⟩:=flatMap_split _ _ _ _ _ hL
 have hAl:A.length<(sizeP p W H).2:=by
  rw [←rowsOf_length W H p,h2,List.length_append,List.length_cons]
  omega
 have hr:r=(p,A.length,(sizeP p W H).1):=by
  have e:=rowsOf_split W H p hAl
  rw [h2] at e
  have hl1:A.length=((A++r::B).take A.length).length:=by simp
  have:=(List.append_inj e hl1).2
  injection this
 refine ⟨by rw [hr,h1];simp,by rw [hr],by rw [hr];exact hAl,?_⟩
 rw [hr]
 by_cases h0:A.length=0
 ·exact .inl h0
 ·right
  have hA:A=(rowsOf W H p).take A.length:=by rw [h2];simp
  have e:=rowsOf_take_succ W H p (y:=A.length-1) (by omega)
  rw [show A.length-1+1=A.length by omega,←hA] at e
  refine ⟨ps1.flatMap (rowsOf W H)++(rowsOf W H p).take (A.length-1),?_⟩
  rw [h3]
  conv=>lhs;rw [e]
  rw [List.append_assoc]
theorem rowsRun_append (F:FilL):∀(a b:List (PassP×Nat×Nat)) (s:PxS),rowsRun F (a++b) s=match rowsRun F a s with | none=>none | some s'=>rowsRun F b s'
 | [],b,s=>rfl
 | r::a,b,s=>by
  rw [List.cons_append,rowsRun,rowsRun]
  cases rowStep F r s with
  | none=>rfl
  | some s'=>exact rowsRun_append F a b s'
theorem rowsRun_snoc {F:FilL} {a:List (PassP×Nat×Nat)} {s s' s2:PxS} {r:PassP×Nat×Nat} (h:rowsRun F a s=some s') (h2:rowStep F r s'=some s2):rowsRun F (a++[r]) s=some s2:=by
 rw [rowsRun_append,h]
 simp only [rowsRun,h2]
theorem rowsRun_bad {F:FilL} {a b:List (PassP×Nat×Nat)} {s s':PxS} {r:PassP×Nat×Nat} (h:rowsRun F a s=some s') (h2:rowStep F r s'=none):rowsRun F (a++r::b) s=none:=by
 rw [rowsRun_append,h]
 simp only [rowsRun,h2]
theorem putRow_none {F:FilL} {p:PassP} {y:Nat} {ss:List Nat} {m:List UInt8} {i n:Nat} (h:putRow F p y ss i m=none) (hin:i≤n):putRow F p y ss n m=none:=by
 induction n with
 | zero =>
      have:i=0:=by omega
      subst this;exact h
 | succ n ih =>
  by_cases e:i=n+1
  ·subst e;exact h
  ·rw [putRow,ih (by omega)]
theorem rowStep_b {F:FilL} {r:PassP×Nat×Nat} {s s':PxS} (h:rowStep F r s=some s'):s'.b=s.b.drop (1+rowB F.h r.2.2)∧s'.ahead.length=min (rowB F.h r.2.2) (s.b.length-1):=by
 unfold rowStep at h
 split at h
 ·cases h
 ·rename_i k b hb
  split at h
  ·cases h
  ·obtain ⟨m,hm,e⟩:=Option.map_eq_some_iff.1 h
   subst e
   rw [hb]
   refine ⟨?_,?_⟩
   ·rw [Nat.add_comm,List.drop_succ_cons]
   ·rw [undoP_length,List.length_take,List.length_cons]
    simp
theorem rowsRun_b {F:FilL}:∀(L:List (PassP×Nat×Nat)) (s s':PxS),rowsRun F L s=some s'→s'.b=s.b.drop (needL F.h L)
 | [],s,s',h=>by cases h;simp [needL]
 | r::L,s,s',h=>by
  rw [rowsRun] at h
  cases h1:rowStep F r s with
  | none=>rw [h1] at h;cases h
  | some s1 =>
   rw [h1] at h
   have:=rowsRun_b L s1 s' h
   rw [this,(rowStep_b h1).1,List.drop_drop]
   rfl
theorem needL_append (h:T_png_Head) (a b:List (PassP×Nat×Nat)):needL h (a++b)=needL h a+needL h b:=by simp [needL]
theorem ahead_len {F:FilL} {W H:Nat} (ho:HeadOk F.h W H) {L R:List (PassP×Nat×Nat)} {r:PassP×Nat×Nat} (hL:rowsL F.h=L++r::R) {s0 s:PxS} (hs:rowsRun F L s0=some s) (hn:needP F.h≤s0.b.length) :
  aheadOf r.2.1 s.ahead=[]∨(aheadOf r.2.1 s.ahead).length=rowB F.h r.2.2:=by
 unfold aheadOf
 by_cases h0:r.2.1=0
 ·rw [if_pos h0];exact .inl rfl
 rw [if_neg h0]
 right
 rcases (rowsL_split ho hL).last with h | ⟨L',hL'⟩
 ·exact absurd h h0
 subst hL'
 rw [rowsRun_append] at hs
 cases h1:rowsRun F L' s0 with
 | none=>rw [h1] at hs;cases hs
 | some s1 =>
  rw [h1] at hs
  simp only [rowsRun] at hs
  cases h2:rowStep F (r.1,r.2.1-1,r.2.2) s1 with
  | none=>rw [h2] at hs;cases hs
  | some s2 =>
   rw [h2] at hs
   cases hs
   have e:s.ahead.length=min (rowB F.h r.2.2) (s1.b.length-1):=(rowStep_b h2).2
   have hb:=rowsRun_b L' s0 s1 h1
   have hneed:needP F.h=needL F.h L'+(1+rowB F.h r.2.2)+needL F.h (r::R):=by
    show needL F.h (rowsL F.h)=_
    rw [hL,needL_append,needL_append]
    simp [needL]
   rw [e,hb,List.length_drop]
   omega
theorem need_room {F:FilL} {L R:List (PassP×Nat×Nat)} {r:PassP×Nat×Nat} (hL:rowsL F.h=L++r::R) {s0 s:PxS} (hs:rowsRun F L s0=some s) (hn:needP F.h≤s0.b.length):1+rowB F.h r.2.2≤s.b.length:=by
 have hb:=rowsRun_b L s0 s hs
 have hneed:needP F.h=needL F.h L+(1+rowB F.h r.2.2)+needL F.h R:=by
  show needL F.h (rowsL F.h)=_
  rw [hL,needL_append]
  simp [needL]
  omega
 rw [hb,List.length_drop]
 omega
theorem pix_room {W H:Nat} {p:PassP} {y x:Nat} (hx:x<(sizeP p W H).1) (hy:y<(sizeP p W H).2):pixAt W p y x+4≤4*W*H∧p.x+x*p.dx<W∧p.y+y*p.dy<H:=by
 unfold sizeP at hx hy
 split at hx
 ·exact absurd hx (by simp)
 ·rename_i hn
  rw [if_neg hn] at hy
  dsimp only at hx hy
  have h1:x*p.dx≤W-p.x-1:=by
   have:x≤(W-p.x-1)/p.dx:=by omega
   exact Nat.le_trans (Nat.mul_le_mul_right _ this) (Nat.div_mul_le_self _ _)
  have h2:y*p.dy≤H-p.y-1:=by
   have:y≤(H-p.y-1)/p.dy:=by omega
   exact Nat.le_trans (Nat.mul_le_mul_right _ this) (Nat.div_mul_le_self _ _)
  have hX:p.x+x*p.dx<W:=by omega
  have hY:p.y+y*p.dy<H:=by omega
  refine ⟨?_,hX,hY⟩
  unfold pixAt
  have h3:(p.y+y*p.dy+1)*W≤H*W:=Nat.mul_le_mul_right _ hY
  rw [Nat.add_mul,Nat.one_mul] at h3
  have h4:4*W*H=4*(H*W):=by rw [Nat.mul_assoc,Nat.mul_comm W H]
  rw [h4]
  generalize (p.y+y*p.dy)*W=Q at h3 ⊢
  generalize H*W=T at h3 ⊢
  generalize x*p.dx=V at hX ⊢
  omega
theorem sampleN_lt (row:List UInt8) (d i:Nat):sampleN row d i<2^d:=by
 unfold sampleN
 split
 ·rename_i h
  subst h
  have h1:=(row[2*i]?.getD 0).toNat_lt
  have h2:=(row[2*i+1]?.getD 0).toNat_lt
  omega
 ·exact Nat.mod_lt _ (Nat.pow_pos (by decide))
theorem samplesP_lt {row:List UInt8} {d n:Nat}:∀v∈samplesP row d n,v<2^d:=by
 intro v hv
 unfold samplesP at hv
 obtain ⟨i,_,rfl⟩:=List.mem_map.1 hv
 exact sampleN_lt _ _ _
theorem samplesP_length (row:List UInt8) (d n:Nat):(samplesP row d n).length=n:=by simp [samplesP]
theorem samplesOf_pos {h:T_png_Head} (hc:ColOk h):1≤samplesOf h.Color∧samplesOf h.Color≤4:=by
 unfold samplesOf
 rcases hc.c with e | e | e | e | e<;>rw [e]<;>decide
theorem rowB_bits {h:T_png_Head} (hc:ColOk h) {w:Nat} (h1:1≤w) (h2:w≤16384):samplesOf h.Color*w*h.Depth.toNat≤8*rowB h w:=by
 have hs:=samplesOf_pos hc
 have hd:isDepthP h.Depth=true:=by
  unfold isDepthP
  rcases hc.d with e | e | e | e | e<;>rw [e]<;>rfl
 have hdn:h.Depth=(h.Depth.toNat:Int):=by have:=hc.d;omega
 unfold rowB rowP
 rw [if_neg (by rw [hd];simp;omega)]
 have e:(w:Int)*(samplesOf h.Color:Int)*h.Depth=((samplesOf h.Color*w*h.Depth.toNat:Nat):Int):=by
  rw [hdn]
  simp only [Int.toNat_natCast,Int.natCast_mul]
  rw [Int.mul_comm (w:Int)]
 rw [e]
 omega
theorem stepN_ok {h:T_png_Head} (hc:ColOk h):1≤pStepN h∧pStepN h≤8:=by
 have hs:=samplesOf_pos hc
 have hd:1≤h.Depth.toNat∧h.Depth.toNat≤16:=by have:=hc.d;omega
 unfold pStepN
 have h1:1*1≤samplesOf h.Color*h.Depth.toNat:=Nat.mul_le_mul hs.1 hd.1
 have h2:samplesOf h.Color*h.Depth.toNat≤4*16:=Nat.mul_le_mul hs.2 hd.2
 omega
theorem sizeP_pos {p:PassP} {W H y:Nat} (hy:y<(sizeP p W H).2):1≤(sizeP p W H).1:=by
 unfold sizeP at hy ⊢
 split
 ·rename_i h;rw [if_pos h] at hy;exact absurd hy (by simp)
 ·exact Nat.le_add_left 1 _
end Go.Proofs.YtmagnpcgpinmcaaGreat
set_option linter.unusedVariables false
namespace Go.Proofs.YtmagnpcgpinmcaaGreat
open Go.Vc Go.RowKit
set_option maxRecDepth 400000
structure PxI (w0:World) (g:Nat) (F:FilL) (W H:Nat) (bn bf ba bb bs bm gm:Nat) (tm:Slc) (S:PxS) (w1:World):Prop where
 n:Blk w1 bn ty_int [.int .i64 ((samplesOf F.h.Color:Nat):Int)]
 f:Blk w1 bf ty_p_png_file [.pointer (some ⟨g,0,none⟩)]
 st:Blk w1 bs ty_int [.int .i64 ((pStepN F.h:Nat):Int)]
 m:Blk w1 bm ty_api_Matrix (T_api_Matrix.rep.cells ⟨W,H,tm⟩)
 ah:∃sa:Slc,Blk w1 ba ty_sl_uint8 [.slice sa.a sa.n sa.c]∧Go.Vc.Own E_uint8 w1 w0.heap.size sa S.ahead∧(∀k,sa.blk=some k→k≠gm)
 b:∃sb:Slc,Blk w1 bb ty_sl_uint8 [.slice sb.a sb.n sb.c]∧Rd E_uint8 w0 sb S.b
 row:Go.Vc.Own E_uint8 w1 w0.heap.size tm S.m
 B:Below w0.heap.size w0 w1
structure PxC (w0:World) (bn bf ba bb bs bm gm:Nat) (tm:Slc):Prop where
 ab:ba≠bb
 ns:bn≠bs
 al:w0.heap.size≤ba
 bl:w0.heap.size≤bb
 gl:w0.heap.size≤gm
 tm:tm.a=some ⟨gm,0,none⟩
section
variable {w0:World} {g b:Nat} {F:FilL} {p t d:Slc} {W H bn bf ba bb bs bm gm:Nat} {tm:Slc} {S:PxS}
theorem PxI.ext {w1 w2:World} (h:PxI w0 g F W H bn bf ba bb bs bm gm tm S w1) (hB:Below w1.heap.size w1 w2):PxI w0 g F W H bn bf ba bb bs bm gm tm S w2:=by
 obtain ⟨h1,h2,h3,h4,⟨sa,h5,h6,h7⟩,⟨sb,h8,h9⟩,h10,h11⟩:=h
 exact ⟨h1.ext hB,h2.ext hB,h3.ext hB,h4.ext hB,⟨sa,h5.ext hB,h6.ext hB,h7⟩,⟨sb,h8.ext hB,h9⟩,h10.ext hB,below_t h11 hB⟩
theorem at_cell {w:World} {bx t:Nat} {v:Value} (h:Blk w bx t [v]):w.cell? ⟨bx,0,none⟩=some v:=h.cell 0 rfl
theorem pixels1_spec (hF:FilA w0 g b F p t d) (ho:FilOk F) (hh:HeadOk F.h W H) (hpl:F.pal.length≤1000000) (htl:F.tr.length≤1000000) (hc:PxC w0 bn bf ba bb bs bm gm tm) {x0:PxS} {L R:List (PassP×Nat×Nat)} {r:PassP×Nat×Nat} (hL:rowsL F.h=L++r::R) (hx0:needP F.h≤x0.b.length) (hx0l:x0.b.length≤1000000000) (hS:rowsRun F L x0=some S)
  (hml:S.m.length=4*W*H) {w1:World} (hI:PxI w0 g F W H bn bf ba bb bs bm gm tm S w1) {J:Bool→World→Prop}
  (hJ1:∀S' w2,rowStep F r S=some S'→S'.m.length=4*W*H→PxI w0 g F W H bn bf ba bb bs bm gm tm S' w2→Chg (fun k=>k=ba∨k=bb∨k=gm) w1 w2→J true w2) (hJ0:∀w2,rowStep F r S=none→Chg (fun k=>k=ba∨k=bb∨k=gm) w1 w2→J false w2) :
  c_png_file_pixels_1 (passT r.1) (r.2.1:Int) (r.2.2:Int) ⟨bn,0,none⟩ ⟨bf,0,none⟩ ⟨ba,0,none⟩ ⟨bb,0,none⟩ ⟨bs,0,none⟩ ⟨bm,0,none⟩ w1 J:=by
 obtain ⟨_,hco⟩:=checkP_ok ho.hd
 have hra:=rowsL_split hh hL
 have hroom:=need_room hL hS hx0
 have hal:=ahead_len hh hL hS hx0
 have hSb:=rowsRun_b L x0 S hS
 have hSbl:S.b.length≤1000000000:=by rw [hSb,List.length_drop];omega
 have hw1:1≤r.2.2:=by rw [hra.w];exact sizeP_pos hra.y
 have hw2:r.2.2≤16384:=by rw [hra.w];have:=(sizeP_le r.1 W H).1;have:=hh.w2;omega
 have hdx:=passes_dx F.h.Lace r.1 hra.mem
 have hW2:=hh.w2
 have hH2:=hh.h2
 have hyH:r.2.1<16384:=by have:=hra.y;have:=(sizeP_le r.1 W H).2;omega
 have hsm:=samplesOf_pos hco
 have hbits:=rowB_bits hco hw1 hw2
 have hstep:=stepN_ok hco
 have hrowb:rowB F.h r.2.2≤131072:=rowP_le _ _ _
 obtain ⟨cs,hcs⟩:∃cs,cs=samplesOf F.h.Color:=⟨_,rfl⟩
 obtain ⟨sz,hsz⟩:∃sz,sz=rowB F.h r.2.2:=⟨_,rfl⟩
 have hrP:rowP (r.2.2:Int) ((samplesOf F.h.Color:Nat):Int) F.h.Depth=sz:=hsz.symm
 rw [←hsz] at hroom hal hbits hrowb
 obtain ⟨hn,hf,hst,hm,⟨sa,hba,hsa,hsag⟩,⟨sb,hbb,hsb⟩,hrow,hB01⟩:=hI
 refine call_png_file_pixels_1 _ _ _ _ _ _ _ _ _ ?_
 unfold sh_png_file_pixels_1
 refine nw_blk fun w2 hp2 hB2 hs2=>?_
 have hBd:=below_t hB2 (below_drew w2)
 have hF2:=hF.ext (below_t hB01 hBd)
 refine ldI_of (x:=((samplesOf F.h.Color:Nat):Int)) (at_cell (hn.ext hBd)) (ldP_of (x:=some ⟨g,0,none⟩) (at_cell (hf.ext hBd)) ?_)
 simp only [onPtr_some]
 refine ldI_of (x:=F.h.Depth) (by rw [add_zero];exact hF2.blk.cells 2 _ rfl) (Row_spec ?_)
 rw [hrP]
 have e1:IntKind.i64.wrap ((1:Int)+(sz:Int))=((1+sz:Nat):Int):=by rw [wrap64_id (by omega)];simp
 rw [e1]
 have hgF:g<w0.heap.size:=hF.blk.lt
 have hs01:=hB01.size
 refine joinP_of fun J1 hJ1'=>?_
 have main:∀(sa':Slc) w3,Blk w3 ba ty_sl_uint8 [.slice sa'.a sa'.n sa'.c]→Go.Vc.Own E_uint8 w3 w0.heap.size sa' (aheadOf r.2.1 S.ahead)→Chg (fun k=>k=ba) w1 w3→Blk w3 w1.heap.size ty_filter_Pass (T_q8_Pass.rep.cells (passT r.1))→J1 () w3:=by
  intro sa' w3 hba3 hsa3 hc3 hp3
  refine hJ1' _ _ ?_
  have hn3:Blk w3 bn ty_int _:=hn.chg hc3 fun e=>by subst e;exact hn.ne_t hba (by decide) rfl
  have hf3:Blk w3 bf ty_p_png_file _:=hf.chg hc3 fun e=>by subst e;exact hf.ne_t hba (by decide) rfl
  have hst3:Blk w3 bs ty_int _:=hst.chg hc3 fun e=>by subst e;exact hst.ne_t hba (by decide) rfl
  have hm3:Blk w3 bm ty_api_Matrix _:=hm.chg hc3 fun e=>by subst e;exact hm.ne_t hba (by decide) rfl
  have hbb3:Blk w3 bb ty_sl_uint8 _:=hbb.chg hc3 fun e=>hc.ab e.symm
  have hrow3:=hrow.chg hc3 fun k hk=>own_ne_blk hrow hba (by decide) k hk
  have hB03:Below w0.heap.size w0 w3:=below_one hB01 hc3 hc.al
  have hBd3:=below_drew w3
  have hB03d:=below_t hB03 hBd3
  have hbb3d:=hbb3.ext hBd3
  have hsbd:=hsb.ext hB03d
  obtain ⟨k0,bt,hSbe⟩:∃k0 bt,S.b=k0::bt:=by
   match hb:S.b,hroom with
   | [],h=>simp at h
   | k0::bt,_=>exact ⟨k0,bt,rfl⟩
  have hbtl:sz≤bt.length:=by rw [hSbe,List.length_cons] at hroom;omega
  have hSl:S.b.length=bt.length+1:=by rw [hSbe];rfl
  refine ldSl_of (x:=sb) (at_cell hbb3d) ?_
  refine hsbd.ix (i:=0) rfl (by omega) (by omega) fun _=>?_
  refine ldI_of (x:=(k0.toNat:Int)) (rdcell (i:=0) hsbd (by rw [hSbe];rfl)) ?_
  refine ldSl_of (x:=sb) (at_cell hbb3d) ?_
  refine hsbd.slK (l:=1) (m:=1+sz) rfl (.inr rfl) (.inr rfl) (by omega) (by omega) fun hpart=>?_
  have hpe:(S.b.take (1+sz)).drop 1=bt.take sz:=by rw [hSbe,Nat.add_comm 1 sz,List.take_succ_cons];rfl
  rw [hpe] at hpart
  refine ldSl_of (x:=sa') (at_cell (hba3.ext hBd3)) (ldI_of (x:=((pStepN F.h:Nat):Int)) (at_cell (hst3.ext hBd3)) ?_)
  rw [w8]
  have hsa3d:=hsa3.ext hBd3
  have hstepE:rowStep F r S=if k0.toNat>4 then none else (putRow F r.1 r.2.1 (samplesP (undoP k0.toNat (bt.take sz) (aheadOf r.2.1 S.ahead) (pStepN F.h)) F.h.Depth.toNat (samplesOf F.h.Color*r.2.2)) r.2.2 S.m).map fun m=>⟨bt.drop sz,undoP k0.toNat (bt.take sz) (aheadOf r.2.1 S.ahead) (pStepN F.h),m⟩:=by
   unfold rowStep
   rw [hSbe,hsz]
  have htkl:(bt.take sz).length=sz:=by rw [List.length_take];omega
  refine Undo_spec hpart hsa3d.rd hstep.1 hstep.2 (by rw [htkl];exact hal) (by omega) (fun h4=>?_) (fun h4 rw_ w4 hrw hB4=>?_)
  ·refine cond_t (by decide) (hJ0 _ ?_ ?_)
   ·rw [hstepE,if_pos h4]
   ·exact (hc3.trans (Chg.of_ext (S:=fun k=>k=ba) hBd3) fun i _ hi=>hi).mono fun i _ hi=>.inl hi
  rw [if_neg (by omega)] at hstepE
  refine cond_f rfl ?_
  obtain ⟨rl,hrl⟩:∃rl,rl=undoP k0.toNat (bt.take sz) (aheadOf r.2.1 S.ahead) (pStepN F.h):=⟨_,rfl⟩
  rw [←hrl] at hstepE hrw
  have hrll:rl.length=sz:=by rw [hrl,undoP_length,htkl]
  have hBd4:=below_t hBd3 hB4
  have hbb4:=hbb3.ext hBd4
  have hB04:=below_t hB03 hBd4
  have hsb4:=hsb.ext hB04
  refine ldSl_of (x:=sb) (at_cell hbb4) ?_
  refine hsb4.slK (l:=1+sz) (m:=S.b.length) rfl (.inr rfl) (.inl ⟨rfl,rfl⟩) (by omega) (by omega) fun _=>?_
  have hsb':=hsb.part (l:=1+sz) (m:=S.b.length) (by omega) (by omega)
  rw [List.take_length] at hsb'
  have hde:S.b.drop (1+sz)=bt.drop sz:=by rw [hSbe,Nat.add_comm 1 sz,List.drop_succ_cons]
  rw [hde] at hsb'
  obtain ⟨sb2,hsb2⟩:∃sb2:Slc,sb2=⟨cut sb.a (1+sz) sb.c E_uint8.k,S.b.length-(1+sz),sb.c-(1+sz)⟩:=⟨_,rfl⟩
  rw [←hsb2] at hsb' ⊢
  refine all_of hbb4 rfl fun w5 hbb5 hc5 hs5=>?_
  have hba5:=(hba3.ext hBd4).chg hc5 hc.ab
  refine all_of hba5 rfl fun w6 hba6 hc6 hs6=>?_
  have hbb6:=hbb5.chg hc6 fun e=>hc.ab e.symm
  have hrwg:∀k,rw_.blk=some k→w3.drew.heap.size≤k:=fun k hk=>(hrw.lt k hk).1
  have hsz3:w3.drew.heap.size=w3.heap.size:=rfl
  have hbal:=hba3.lt
  have hbbl:=hbb3.lt
  have hrw6:=(hrw.chg hc5 fun k hk e=>by have:=hrwg k hk;omega).chg hc6 fun k hk e=>by have:=hrwg k hk;omega
  have hc56:Chg (fun k=>k=ba∨k=bb) w3 w6:=((Chg.of_ext (S:=fun k=>k=ba∨k=bb) hBd4).trans (hc5.mono fun i _ hi=>.inr hi) fun i _ hi=>hi).trans (hc6.mono fun i _ hi=>.inl hi) fun i _ hi=>hi
  have keep:∀{k tt:Nat} {cs:List Value},tt≠ty_sl_uint8→Blk w3 k tt cs→Blk w6 k tt cs:=fun {k tt cs} hne hb=>hb.chg hc56 fun e=>by
   rcases e with e | e
   ·subst e;exact hb.ne_t hba3 hne rfl
   ·subst e;exact hb.ne_t hbb3 hne rfl
  have hn6:=keep (by decide) hn3
  have hf6:=keep (by decide) hf3
  have hst6:=keep (by decide) hst3
  have hm6:=keep (by decide) hm3
  have hp6:=keep (by decide) hp3
  have hrow6:=hrow3.chg hc56 fun k hk e=>by
   rcases e with e | e
   ·exact own_ne_blk hrow3 hba3 (by decide) k hk e
   ·exact own_ne_blk hrow3 hbb3 (by decide) k hk e
  have hB06:Below w0.heap.size w0 w6:=(hB03).trans (hc56.below (by have:=hB03.size;omega) fun i hi e=>by have:=hc.al;have:=hc.bl;omega)
  have hBd6:=below_drew w6
  have hB06d:=below_t hB06 hBd6
  have hF6:=hF.ext hB06d
  refine ldP_of (x:=some ⟨g,0,none⟩) (at_cell (hf6.ext hBd6)) ?_
  simp only [onPtr_some]
  refine ldI_of (x:=F.h.Depth) (by rw [add_zero];exact hF6.blk.cells 2 _ rfl) (ldI_of (x:=((samplesOf F.h.Color:Nat):Int)) (at_cell (hn6.ext hBd6)) ?_)
  have hnw:samplesOf F.h.Color*r.2.2≤4*16384:=Nat.mul_le_mul hsm.2 hw2
  have e2:IntKind.i64.wrap (((samplesOf F.h.Color:Nat):Int)*(r.2.2:Int))=((samplesOf F.h.Color*r.2.2:Nat):Int):=by
   rw [show ((samplesOf F.h.Color:Nat):Int)*(r.2.2:Int)=((samplesOf F.h.Color*r.2.2:Nat):Int) by simp,wrap64_id (by omega)]
  rw [e2]
  have hdn:F.h.Depth=((F.h.Depth.toNat:Nat):Int):=by have:=hco.d;omega
  have hrw6d:=hrw6.ext hBd6
  have hsam:=FSamples_spec (w:=w6.drew) (d:=F.h.Depth.toNat) (n:=samplesOf F.h.Color*r.2.2) hrw6d.rd (by have:=hco.d;omega) (by rw [hrll];exact hbits) (by omega)
   (K:=fun t62 t62_1 w7=>loopP (σ:=Int×Unit) (fun I2 s_1 w8 =>
     cond (decide (s_1.1<(r.2.2:Int)))
      (
      ldP (⟨bf,0,none⟩:Addr) w8.drew fun t70 =>
      ldI .i64 (⟨bn,0,none⟩:Addr) w8.drew fun t72 =>
      ldI .i64 (⟨bn,0,none⟩:Addr) w8.drew fun t75 =>
      ldI .i64 (⟨bn,0,none⟩:Addr) w8.drew fun t78 =>
      slK t62 (some (IntKind.i64.wrap (t72*s_1.1))) (some (IntKind.i64.wrap ((IntKind.i64.wrap (t75*s_1.1))+t78))) 1 fun t80 =>
       (
        c_png_file_color t70 t80 w8.drew fun t81 t81_1 w9 =>
        nw ty_pixel_Color [(.int .u8 0),(.int .u8 0),(.int .u8 0),(.int .u8 0)] w9 fun c w10 =>
        World.cell? w10 (⟨bn,0,none⟩:Addr)=some (.int .i64 t78) ∧
        World.cell? w10 (⟨bn,0,none⟩:Addr)=some (.int .i64 t75) ∧
        World.cell? w10 (⟨bn,0,none⟩:Addr)=some (.int .i64 t72) ∧
        World.cell? w10 (⟨bf,0,none⟩:Addr)=some (.pointer t70) ∧
        stK c (T_pixel_Color.rep.cells t81) w10 fun w11 =>
        cond (!t81_1)
         (J false w11)
         (
         ldSl ((⟨bm,0,none⟩:Addr).add 2) w11.drew fun t87 =>
         ldI .i64 ((⟨w1.heap.size,0,none⟩:Addr).add 1) w11.drew fun t89 =>
         ldI .i64 ((⟨w1.heap.size,0,none⟩:Addr).add 3) w11.drew fun t92 =>
         ldP (⟨bf,0,none⟩:Addr) w11.drew fun t95 =>
         onPtr t95 fun t96 =>
         ldI .i64 ((t96.add 0).add 0) w11.drew fun t99 =>
         ldI .i64 ((⟨w1.heap.size,0,none⟩:Addr).add 0) w11.drew fun t102 =>
         ldI .i64 ((⟨w1.heap.size,0,none⟩:Addr).add 2) w11.drew fun t106 =>
         slK t87 (some (IntKind.i64.wrap ((4:Int)*(IntKind.i64.wrap ((IntKind.i64.wrap ((IntKind.i64.wrap ((IntKind.i64.wrap (t89+(IntKind.i64.wrap ((r.2.1:Int)*t92))))*t99))+t102))+(IntKind.i64.wrap (s_1.1*t106))))))) none 1 fun t110 =>
         slA c 4 none none 1 fun t111 =>
         runK1 PG (Builtin.copy_ #[ty_sl_uint8,ty_sl_uint8] ty_int #[(.slice t110.a t110.n t110.c),(.slice t111.a t111.n t111.c)]) (Kind.int .i64) w11.drew fun (t112:Int) w12 =>
         I2 ((IntKind.i64.wrap (s_1.1+(1:Int))),()) w12)) ∧
      nw ty_pixel_Color [(.int .u8 0),(.int .u8 0),(.int .u8 0),(.int .u8 0)] w8.drew fun c_1 w13 =>
      World.cell? w13 (⟨bn,0,none⟩:Addr)=some (.int .i64 t78) ∧
      World.cell? w13 (⟨bn,0,none⟩:Addr)=some (.int .i64 t75) ∧
      World.cell? w13 (⟨bn,0,none⟩:Addr)=some (.int .i64 t72) ∧
      World.cell? w13 (⟨bf,0,none⟩:Addr)=some (.pointer t70) ∧
      c_png_file_color t70 t80 w13 fun t81_2 t81_3 w14 =>
      stK c_1 (T_pixel_Color.rep.cells t81_2) w14 fun w15 =>
      cond (!t81_3)
       (J false w15)
       (
        ldSl ((⟨bm,0,none⟩:Addr).add 2) w15.drew fun t87_1 =>
        ldI .i64 ((⟨w1.heap.size,0,none⟩:Addr).add 1) w15.drew fun t89_1 =>
        ldI .i64 ((⟨w1.heap.size,0,none⟩:Addr).add 3) w15.drew fun t92_1 =>
        ldP (⟨bf,0,none⟩:Addr) w15.drew fun t95_1 =>
        onPtr t95_1 fun t96_1 =>
        ldI .i64 ((t96_1.add 0).add 0) w15.drew fun t99_1 =>
        ldI .i64 ((⟨w1.heap.size,0,none⟩:Addr).add 0) w15.drew fun t102_1 =>
        ldI .i64 ((⟨w1.heap.size,0,none⟩:Addr).add 2) w15.drew fun t106_1 =>
        slK t87_1 (some (IntKind.i64.wrap ((4:Int)*(IntKind.i64.wrap ((IntKind.i64.wrap ((IntKind.i64.wrap ((IntKind.i64.wrap (t89_1+(IntKind.i64.wrap ((r.2.1:Int)*t92_1))))*t99_1))+t102_1))+(IntKind.i64.wrap (s_1.1*t106_1))))))) none 1 fun t110_1 =>
        slA c_1 4 none none 1 fun t111_1 =>
        runK1 PG (Builtin.copy_ #[ty_sl_uint8,ty_sl_uint8] ty_int #[(.slice t110_1.a t110_1.n t110_1.c),(.slice t111_1.a t111_1.n t111_1.c)]) (Kind.int .i64) w15.drew fun (t112_1:Int) w16 =>
        I2 ((IntKind.i64.wrap (s_1.1+(1:Int))),()) w16))
      (J true w8)) (0,()) w7)
  rw [←hdn] at hsam
  refine hsam fun sp w7 hsp hB7=>?_
  clear hsam
  obtain ⟨ss,hss⟩:∃ss,ss=samplesP rl F.h.Depth.toNat (samplesOf F.h.Color*r.2.2):=⟨_,rfl⟩
  rw [←hss] at hsp hstepE
  have hssl:ss.length=samplesOf F.h.Color*r.2.2:=by rw [hss,samplesP_length]
  have hssv:∀v∈ss,v<2^F.h.Depth.toNat:=by rw [hss];exact samplesP_lt
  have hB67:=below_t hBd6 hB7
  have hs67:=hB67.size
  have hrow7:=hrow6.ext hB67
  have hWn:=hh.wn
  have hrooms:∀x,x<r.2.2→pixAt W r.1 r.2.1 x+4≤4*W*H:=fun x hx=>(pix_room (by rw [hra.w] at hx;exact hx) hra.y).1
  have hWH:4*W*H≤4*16384*16384:=Nat.mul_le_mul (Nat.mul_le_mul_left 4 hW2) hH2
  refine loopP_rule (fun (st:Int×Unit) w8=>∃(x:Nat) (m:List UInt8),st.1=x∧x≤r.2.2∧putRow F r.1 r.2.1 ss x S.m=some m∧m.length=4*W*H∧Go.Vc.Own E_uint8 w8 w0.heap.size tm m∧Chg (fun k=>k=gm) w7 w8) (fun st=>r.2.2-st.1.toNat)
   ⟨0,S.m,rfl,by omega,rfl,hml,hrow7,Chg.refl _ _⟩ ?_
  rintro ⟨x,u⟩ w8 ⟨x,m,rfl,hx,hput,hmlen,hrow8,hc8⟩ I hIl
  dsimp only
  have hgm6:gm<w6.heap.size:=(hrow6.lt gm (by unfold Slc.blk;rw [hc.tm];rfl)).2
  have keep8:∀{k tt:Nat} {cs:List Value},tt≠ty_uint8→Blk w6 k tt cs→Blk w8 k tt cs:=fun {k tt cs} hne hb=>(hb.ext hB67).chg hc8 fun e=>by
   subst e
   obtain ⟨cs',hcs'⟩:=hrow7.blk_t (g:=k) (by unfold Slc.blk;rw [hc.tm];rfl)
   exact (hb.ext hB67).ne_t hcs' hne rfl
  have hn8:=keep8 (by decide) hn6
  have hf8:=keep8 (by decide) hf6
  have hm8:=keep8 (by decide) hm6
  have hp8:=keep8 (by decide) hp6
  have hB08:Below w0.heap.size w0 w8:=below_one (below_t hB06 hB67) hc8 hc.gl
  have hC38:Chg (fun k=>k=ba∨k=bb∨k=gm) w1 w8:=by
   refine (((hc3.mono fun i _ hi=>(.inl hi:i=ba∨i=bb∨i=gm)).trans (hc56.mono fun i _ hi=>(by rcases hi with h | h;exact .inl h;exact .inr (.inl h):i=ba∨i=bb∨i=gm)) fun i _ hi=>hi).trans (Chg.of_ext (S:=fun k=>k=ba∨k=bb∨k=gm) hB67) fun i _ hi=>hi).trans (hc8.mono fun i _ hi=>.inr (.inr hi)) fun i _ hi=>hi
  refine cond_of (fun hlt=>?_) fun hge=>?_
  ·have hlt:=of_decide_eq_true hlt
   have hxl:x<r.2.2:=by omega
   have hBd8:=below_drew w8
   have hcx:samplesOf F.h.Color*x+samplesOf F.h.Color≤samplesOf F.h.Color*r.2.2:=by
    have:=Nat.mul_le_mul_left (samplesOf F.h.Color) (show x+1≤r.2.2 from hxl)
    rw [Nat.mul_add,Nat.mul_one] at this
    exact this
   have ex:IntKind.i64.wrap (((samplesOf F.h.Color:Nat):Int)*(x:Int))=((samplesOf F.h.Color*x:Nat):Int):=by
    rw [show ((samplesOf F.h.Color:Nat):Int)*(x:Int)=((samplesOf F.h.Color*x:Nat):Int) by simp,wrap64_id (by omega)]
   have ex2:IntKind.i64.wrap (((samplesOf F.h.Color*x:Nat):Int)+((samplesOf F.h.Color:Nat):Int))=((samplesOf F.h.Color*x+samplesOf F.h.Color:Nat):Int):=by
    rw [wrap64_id (by omega)];simp
   refine ldP_of (x:=some ⟨g,0,none⟩) (at_cell (hf8.ext hBd8)) (ldI_of (x:=((samplesOf F.h.Color:Nat):Int)) (at_cell (hn8.ext hBd8)) (ldI_of (x:=((samplesOf F.h.Color:Nat):Int)) (at_cell (hn8.ext hBd8)) (ldI_of (x:=((samplesOf F.h.Color:Nat):Int)) (at_cell (hn8.ext hBd8)) ?_)))
   rw [ex,ex2]
   have hsp8:Go.Vc.Own E_int w8 w6.drew.heap.size sp (intsN ss):=hsp.chg hc8 fun k hk e=>by have:=(hsp.lt k hk).1;have h6:w6.drew.heap.size=w6.heap.size:=rfl;omega
   refine hsp8.rd.slK (l:=samplesOf F.h.Color*x) (m:=samplesOf F.h.Color*x+samplesOf F.h.Color) rfl (.inr rfl) (.inr rfl) (by omega) (by rw [ints_length,hssl];exact hcx) fun hpt=>?_
   obtain ⟨s4,hs4⟩:∃s4,s4=(ss.drop (samplesOf F.h.Color*x)).take (samplesOf F.h.Color):=⟨_,rfl⟩
   have hpe4:((intsN ss).take (samplesOf F.h.Color*x+samplesOf F.h.Color)).drop (samplesOf F.h.Color*x)=intsN s4:=by
    rw [hs4,List.drop_take,Nat.add_sub_cancel_left]
    unfold intsN
    rw [List.map_take,List.map_drop]
   rw [hpe4] at hpt
   have hs4l:s4.length=samplesOf F.h.Color:=by rw [hs4,List.length_take,List.length_drop,hssl];omega
   have hs4v:∀v∈s4,v<2^F.h.Depth.toNat:=fun v hv=>hssv v (by rw [hs4] at hv;exact List.mem_of_mem_drop (List.mem_of_mem_take hv))
   have hputn:putRow F r.1 r.2.1 ss (x+1) S.m=(colorP F s4).map (set4 m (pixAt W r.1 r.2.1 x)):=by
    rw [putRow,hput,hs4,hWn]
   have hbadp:colorP F s4=none→rowStep F r S=none:=fun hcn=>by
    rw [hcn] at hputn
    rw [hstepE,putRow_none hputn (show x+1≤r.2.2 from hxl)]
    rfl
   have hF8:∀{w'},Below w8.heap.size w8 w'→FilA w' g b F p t d:=fun hB=>hF.ext (below_t hB08 hB)
   have fin:∀(a b' c' d':UInt8) (bc:Nat) w11,colorP F s4=some [a,b',c',d']→Blk w11 bc ty_pixel_Color (bcells [a,b',c',d'])→Below w8.heap.size w8 w11 →
     (ldSl ((
         ⟨bm,0,none⟩:Addr).add 2) w11.drew fun t87 =>
         ldI .i64 ((⟨w1.heap.size,0,none⟩:Addr).add 1) w11.drew fun t89 =>
         ldI .i64 ((⟨w1.heap.size,0,none⟩:Addr).add 3) w11.drew fun t92 =>
         ldP (⟨bf,0,none⟩:Addr) w11.drew fun t95 =>
         onPtr t95 fun t96 =>
         ldI .i64 ((t96.add 0).add 0) w11.drew fun t99 =>
         ldI .i64 ((⟨w1.heap.size,0,none⟩:Addr).add 0) w11.drew fun t102 =>
         ldI .i64 ((⟨w1.heap.size,0,none⟩:Addr).add 2) w11.drew fun t106 =>
         slK t87 (some (IntKind.i64.wrap ((4:Int)*(IntKind.i64.wrap ((IntKind.i64.wrap ((IntKind.i64.wrap ((IntKind.i64.wrap (t89+(IntKind.i64.wrap ((r.2.1:Int)*t92))))*t99))+t102))+(IntKind.i64.wrap ((x:Int)*t106))))))) none 1 fun t110 =>
         slA (⟨bc,0,none⟩:Addr) 4 none none 1 fun t111 =>
         runK1 PG (Builtin.copy_ #[ty_sl_uint8,ty_sl_uint8] ty_int #[(.slice t110.a t110.n t110.c),(.slice t111.a t111.n t111.c)]) (Kind.int .i64) w11.drew fun (t112:Int) w12 =>
         I ((IntKind.i64.wrap ((x:Int)+(1:Int))),()) w12):=by
    intro a b' c' d' bc w11 hcol hbc hB11
    have hB11d:=below_t hB11 (below_drew w11)
    have hm11:=hm8.ext hB11d
    have hp11:=hp8.ext hB11d
    have hF11:=hF8 hB11d
    have hrow11:=hrow8.ext hB11d
    refine ldSl_of (x:=tm) (hm11.cells 2 _ rfl) ?_
    refine ldI_of (x:=(r.1.y:Int)) (hp11.cells 1 _ rfl) (ldI_of (x:=(r.1.dy:Int)) (hp11.cells 3 _ rfl) ?_)
    refine ldP_of (x:=some ⟨g,0,none⟩) (at_cell (hf8.ext hB11d)) ?_
    simp only [onPtr_some]
    refine ldI_of (x:=(W:Int)) (by rw [add_zero,←hh.w];exact hF11.blk.cells 0 _ rfl) ?_
    refine ldI_of (x:=(r.1.x:Int)) (hp11.cells 0 _ rfl) (ldI_of (x:=(r.1.dx:Int)) (hp11.cells 2 _ rfl) ?_)
    have hroom:=hrooms x hxl
    obtain ⟨hr1,hr2,hr3⟩:=pix_room (W:=W) (H:=H) (p:=r.1) (y:=r.2.1) (x:=x) (by rw [←hra.w];exact hxl) hra.y
    have eidx:IntKind.i64.wrap ((4:Int)*(IntKind.i64.wrap ((IntKind.i64.wrap ((IntKind.i64.wrap ((IntKind.i64.wrap ((r.1.y:Int)+(IntKind.i64.wrap ((r.2.1:Int)*(r.1.dy:Int)))))*(W:Int)))+(r.1.x:Int)))+(IntKind.i64.wrap ((x:Int)*(r.1.dx:Int))))))=((pixAt W r.1 r.2.1 x:Nat):Int):=by
     unfold pixAt at hr1 ⊢
     have h1:r.2.1*r.1.dy≤16384:=by omega
     have h2:x*r.1.dx≤16384:=by omega
     rw [show (r.2.1:Int)*(r.1.dy:Int)=((r.2.1*r.1.dy:Nat):Int) by simp,wrap64_id (x:=((r.2.1*r.1.dy:Nat):Int)) (by omega),show (x:Int)*(r.1.dx:Int)=((x*r.1.dx:Nat):Int) by simp,wrap64_id (x:=((x*r.1.dx:Nat):Int)) (by omega),
      show (r.1.y:Int)+((r.2.1*r.1.dy:Nat):Int)=((r.1.y+r.2.1*r.1.dy:Nat):Int) by simp,wrap64_id (x:=((r.1.y+r.2.1*r.1.dy:Nat):Int)) (by omega),show ((r.1.y+r.2.1*r.1.dy:Nat):Int)*(W:Int)=(((r.1.y+r.2.1*r.1.dy)*W:Nat):Int) by simp]
     generalize (r.1.y+r.2.1*r.1.dy)*W=q at hr1 ⊢
     generalize x*r.1.dx=v at hr1 h2 ⊢
     generalize 4*W*H=T at hr1 hWH
     rw [wrap64_id (x:=((q:Nat):Int)) (by omega),wrap64_id (x:=((q:Nat):Int)+(r.1.x:Int)) (by omega),wrap64_id (x:=((q:Nat):Int)+(r.1.x:Int)+((v:Nat):Int)) (by omega),wrap64_id (by omega)]
     omega
    rw [eidx]
    obtain ⟨k,hk⟩:∃k,k=pixAt W r.1 r.2.1 x:=⟨_,rfl⟩
    rw [←hk] at hroom ⊢
    obtain ⟨cur,hcur,hcl,hct,hc1,hc2,hc3',hc4⟩:=own_cur (c:=0) hrow11 hc.tm
    refine hrow11.rd.slK (l:=k) (m:=m.length) rfl (.inr rfl) (.inl ⟨rfl,rfl⟩) (by omega) (by omega) fun _=>?_
    have hcut:cut tm.a k tm.c E_uint8.k=some ⟨gm,k,none⟩:=by
     unfold cut
     rw [if_neg (by omega),hc.tm]
     show some ((⟨gm,0,none⟩:Addr).add (k*1))=_
     rw [add_mk,Nat.mul_one,Nat.zero_add]
    rw [hcut]
    have hrc:Rd E_uint8 w11.drew ⟨some ⟨bc,0,none⟩,4,4⟩ [a,b',c',d']:=by
     refine ⟨rfl,Nat.le_refl _,by simp [maxLen],fun _=>rfl,fun i y hy=>?_⟩
     have hbc':=(hbc.ext (below_drew w11)).cells i (.int .u8 (y.toNat:Int)) (by unfold bcells;rw [List.getElem?_map,hy];rfl)
     intro j v hj
     match j,hj with
     | 0,hj =>
      cases hj
      show w11.drew.cell? (((⟨bc,0,none⟩:Addr).add (i*1)).add 0)=_
      rw [add_zero,Nat.mul_one]
      exact hbc'
     | j+1,hj=>simp [E_uint8] at hj
    show runK1 PG (Builtin.copy_ #[ty_sl_uint8,ty_sl_uint8] ty_int #[(.slice (some ⟨gm,k,none⟩) (m.length-k) (tm.c-k)),(.slice (some ((⟨bc,0,none⟩:Addr).add (0*1))) 4 4)]) (Kind.int .i64) w11.drew _
    rw [Nat.zero_mul,add_zero]
    refine copyB (x:=⟨some ⟨bc,0,none⟩,4,4⟩) (n:=4) hcur hrc (by show 4=min 4 (m.length-k);omega) (by omega) fun w12 hb12 hc12 hs12=>?_
    have hrow12:=own_put (ys:=[a,b',c',d']) (k:=k) hrow11 hc.tm hcur (by show k+4≤m.length;omega) hb12
    rw [wrap64_id (by omega)]
    refine hIl _ _ ⟨x+1,set4 m k [a,b',c',d'],rfl,by omega,?_,?_,hrow12,?_⟩ (by simp;omega)
    ·rw [hputn,hcol,←hk];rfl
    ·unfold set4
     simp only [List.length_append,List.length_take,List.length_drop,List.length_cons,List.length_nil]
     omega
    ·exact (hc8.trans (Chg.of_ext (S:=fun k=>k=gm) hB11d) fun i _ hi=>hi).trans hc12 fun i _ hi=>hi
   refine ⟨?_,?_⟩
   ·refine color_spec (hF8 hBd8) ho (hpt.ext hBd8) hs4l hs4v hpl htl (fun cx w9 hcn hB9=>?_) (fun a b' c' d' w9 hcol hB9=>?_)
    ·refine nw_blk fun w10 h10 hB10 hs10=>?_
     have hB810:=below_t (below_t hBd8 hB9) hB10
     refine ⟨at_cell (hn8.ext hB810),at_cell (hn8.ext hB810),at_cell (hn8.ext hB810),at_cell (hf8.ext hB810),?_⟩
     refine all_of h10 rfl fun w11 h11 hc11 hs11=>?_
     refine cond_t rfl (hJ0 _ (hbadp hcn) ?_)
     exact hC38.trans (Chg.of_ext (S:=fun k=>k=ba∨k=bb∨k=gm) (below_one hB810 hc11 (below_t hBd8 hB9).size)) fun i _ hi=>hi
    ·refine nw_blk fun w10 h10 hB10 hs10=>?_
     have hB810:=below_t (below_t hBd8 hB9) hB10
     refine ⟨at_cell (hn8.ext hB810),at_cell (hn8.ext hB810),at_cell (hn8.ext hB810),at_cell (hf8.ext hB810),?_⟩
     refine all_of h10 rfl fun w11 h11 hc11 hs11=>?_
     exact cond_f rfl (fin a b' c' d' _ w11 hcol h11 (below_one hB810 hc11 (below_t hBd8 hB9).size))
   ·refine nw_blk fun w13 h13 hB13 hs13=>?_
    have hB813:=below_t hBd8 hB13
    refine ⟨at_cell (hn8.ext hB813),at_cell (hn8.ext hB813),at_cell (hn8.ext hB813),at_cell (hf8.ext hB813),?_⟩
    refine color_spec (hF8 hB813) ho (hpt.ext hB813) hs4l hs4v hpl htl (fun cx w14 hcn hB14=>?_) (fun a b' c' d' w14 hcol hB14=>?_)
    ·refine all_of (h13.ext hB14) rfl fun w15 h15 hc15 hs15=>?_
     refine cond_t rfl (hJ0 _ (hbadp hcn) ?_)
     exact hC38.trans (Chg.of_ext (S:=fun k=>k=ba∨k=bb∨k=gm) (below_one (below_t hB813 hB14) hc15 hBd8.size)) fun i _ hi=>hi
    ·refine all_of (h13.ext hB14) rfl fun w15 h15 hc15 hs15=>?_
     exact cond_f rfl (fin a b' c' d' _ w15 hcol h15 (below_one (below_t hB813 hB14) hc15 hBd8.size))
  ·have hge:=of_decide_eq_false hge
   obtain rfl:x=r.2.2:=by omega
   have hba8:=keep8 (by decide) hba6
   have hbb8:=keep8 (by decide) hbb6
   have hst8:=keep8 (by decide) hst6
   rw [hput] at hstepE
   refine hJ1 ⟨bt.drop sz,rl,m⟩ w8 hstepE hmlen ⟨hn8,hf8,hst8,hm8,⟨rw_,hba8,?_,?_⟩,⟨sb2,hbb8,hsb'⟩,hrow8,hB08⟩ hC38
   ·refine ((hrw6.ext hB67).chg hc8 fun k hk e=>?_).base (by have:=hB03.size;omega)
    have:=hrwg k hk
    have h3g:gm<w3.heap.size:=(hrow3.lt gm (by unfold Slc.blk;rw [hc.tm];rfl)).2
    omega
   ·intro k hk e
    have:=hrwg k hk
    have h3g:gm<w3.heap.size:=(hrow3.lt gm (by unfold Slc.blk;rw [hc.tm];rfl)).2
    omega
 refine cond_of (fun e=>?_) fun e=>?_
 ·have e0:r.2.1=0:=by have:=eq_of_beq e;omega
  refine all_of (hba.ext hBd) rfl fun w3 h3 hc3 hs3=>?_
  have hsz2:w2.drew.heap.size=w2.heap.size:=rfl
  refine main ⟨none,0,0⟩ w3 h3 ?_ ((Chg.of_ext (S:=fun k=>k=ba) hBd).trans hc3 fun i _ hi=>hi) ((hp2.ext (below_drew w2)).chg hc3 (by have:=hba.lt;omega))
  unfold aheadOf
  rw [if_pos e0]
  exact Own.nil _ _ _
 ·have e0:r.2.1≠0:=fun h=>by rw [h] at e;cases e
  refine main sa w2.drew (hba.ext hBd) ?_ (Chg.of_ext hBd) (hp2.ext (below_drew w2))
  unfold aheadOf
  rw [if_neg e0]
  exact hsa.ext hBd
end
end Go.Proofs.YtmagnpcgpinmcaaGreat
namespace Go.Proofs.YtmagnpcgpinmcaaGreat
open Go.Vc Go.RowKit
set_option maxRecDepth 400000
section
variable {w w':World} {g:Nat} {s:Slc} {bs:List UInt8} {at_:Nat}
end
section
variable {w:World} {base tg:Nat} {lo co:Slc} {ls:List UInt8}
end
end Go.Proofs.YtmagnpcgpinmcaaGreat
namespace Go.Proofs.YtmagnpcgpinmcaaGreat
open Go.Vc Go.RowKit
set_option maxRecDepth 400000
section
variable {w w':World} {base g rg:Nat} {s out:Slc} {bs hist:List UInt8} {most at_:Nat}
end
section
variable {w:World} {base g rg:Nat} {s out:Slc} {bs:List UInt8} {most at_:Nat}
end
end Go.Proofs.YtmagnpcgpinmcaaGreat
namespace Go.Proofs.YtmagnpcgpinmcaaGreat
open Go.Vc Go.RowKit
set_option maxRecDepth 400000
section
variable {w w':World} {base g rg:Nat} {s out out':Slc} {bs hist ls:List UInt8} {most at_:Nat} {t:Nat×Slc×Slc}
end
end Go.Proofs.YtmagnpcgpinmcaaGreat
namespace Go.Proofs.YtmagnpcgpinmcaaGreat
open Go.Vc Go.RowKit
set_option maxRecDepth 400000
section
variable {w w':World} {base g rg:Nat} {s out:Slc} {bs hist ls:List UInt8} {most at_ B:Nat}
end
end Go.Proofs.YtmagnpcgpinmcaaGreat
namespace Go.Proofs.YtmagnpcgpinmcaaGreat
open Go.Vc Go.RowKit
set_option maxRecDepth 400000
section
variable {w w':World} {base g rg:Nat} {s out:Slc} {bs:List UInt8} {most at_:Nat}
end
end Go.Proofs.YtmagnpcgpinmcaaGreat
namespace Go.Proofs.YtmagnpcgpinmcaaGreat
open Go.Vc Go.RowKit
set_option maxRecDepth 400000
def bitsV:List UInt8→Nat
 | []=>0
 | b::r=>b.toNat+2*bitsV r
theorem bitsV_append (a b:List UInt8):bitsV (a++b)=bitsV a+2^a.length*bitsV b:=by
 induction a with
 | nil=>simp [bitsV]
 | cons x r ih =>
  rw [List.cons_append,bitsV,bitsV,ih,List.length_cons,Nat.pow_succ,Nat.mul_add]
  have e:2*(2^r.length*bitsV b)=2^r.length*2*bitsV b:=by rw [←Nat.mul_assoc,Nat.mul_comm 2]
  omega
theorem bitsV_lt {a:List UInt8} (h:∀x∈a,x.toNat≤1):bitsV a<2^a.length:=by
 induction a with
 | nil=>simp [bitsV]
 | cons x r ih =>
  have h1:=h x (by simp)
  have h2:=ih fun y hy=>h y (by simp [hy])
  rw [bitsV,List.length_cons,Nat.pow_succ]
  omega
theorem bitsV_mod (x k:Nat):x%2^(k+1)=x%2^k+2^k*(x/2^k%2):=by
 rw [Nat.pow_succ,Nat.mod_mul]
structure RWrH (w:World) (base g:Nat) (s:Slc) (L:List UInt8):Prop where
 blk:Blk w g ty_q1_Writer [.slice s.a s.n s.c]
 own:Own E_uint8 w base s L
 hg:base≤g
 one:∀x∈L,x.toNat≤1
def RWr (w:World) (base g V n:Nat):Prop:=∃s L,RWrH w base g s L∧bitsV L=V∧L.length=n
theorem RWr.ext {w w':World} {base g V n:Nat} (h:RWr w base g V n) (hb:Below w.heap.size w w'):RWr w' base g V n:=by
 obtain ⟨s,L,h,h1,h2⟩:=h
 exact ⟨s,L,⟨h.blk.ext hb,h.own.ext hb,h.hg,h.one⟩,h1,h2⟩
theorem rWBits_spec {w:World} {base g V n x k:Nat} {K:World→Prop} (h:RWr w base g V n) (hbase:base≤w.heap.size) (hx:x<2^32) (hk1:1≤k) (hk:k≤32) (hn:n≤100000000000)
  (hK:∀w',RWr w' base g (V+2^n*(x%2^k)) (n+k)→Below base w w'→K w'):c_q1_Writer_Bits (some ⟨g,0,none⟩) (x:Int) (k:Int) w K:=by
 refine call_q1_Writer_Bits _ _ _ ?_
 unfold sh_q1_Writer_Bits
 simp only [onPtr_some]
 refine joinP_of fun J hJ=>?_
 refine cond_f (decide_eq_false (by omega)) (cond_f (decide_eq_false (by omega)) (hJ _ _ ?_))
 refine loopP_rule (fun (s:Int×Unit) w1=>∃i:Nat,s.1=i∧i≤k∧RWr w1 base g (V+2^n*(x%2^i)) (n+i)∧Below base w w1) (fun s=>k-s.1.toNat) ⟨0,rfl,by omega,by simpa [Nat.mod_one] using h,Below.refl _ _⟩ ?_
 rintro ⟨i,_⟩ w1 ⟨i,rfl,hi,⟨s,L,h1,hV,hl⟩,hB⟩ I hI
 dsimp only at *
 have hs1:=Nat.le_trans hbase hB.size
 refine cond_of (fun hlt=>?_) (fun hge=>?_)
 ·have hlt:=of_decide_eq_true hlt
  refine ldSl_of (x:=s) (h1.blk.cells 0 _ rfl) ?_
  rw [wrap_nat .u64 (x:=i) (by show i<2^64;omega)]
  refine ⟨by omega,?_⟩
  have em:min ((i:Int)).toNat IntKind.u32.bits=i:=by show min i 32=i;omega
  rw [em,fdiv_nat]
  have hd:x/2^i<2^32:=Nat.lt_of_le_of_lt (Nat.div_le_self _ _) hx
  have e1:bitsR .and .u32 ((x/2^i:Nat):Int) 1=((x/2^i%2:Nat):Int):=by
   rw [show (1:Int)=((1:Nat):Int) from rfl,bits_and .u32 hd (by decide),one_and]
  have hbit:(UInt8.ofNat (x/2^i%2)).toNat=x/2^i%2:=by rw [UInt8.toNat_ofNat'];omega
  rw [e1,wrap_nat .u8 (x:=x/2^i%2) (by show _<2^8;omega)]
  refine apB1 (c:=UInt8.ofNat (x/2^i%2)) (by rw [hbit]) h1.own hs1 (by omega) fun r w2 ho2 hc2 hq=>?_
  have hb2:=h1.blk.chg hc2 fun e=>own_ne_blk h1.own h1.blk (by decide) g e rfl
  rw [add_mk]
  refine stK_blk hb2 (by simp) fun w3 hb3 hg3 hs3=>?_
  have hb3:Blk w3 g ty_q1_Writer [.slice r.a r.n r.c]:=hb3
  have ho3:=ho2.chg (Chg.gg hg3) (own_ne_blk ho2 hb2 (by decide))
  rw [wrap64_id (by omega)]
  have hgb:=h1.hg
  refine hI _ _ ⟨i+1,rfl,by omega,⟨r,_,⟨hb3,ho3,h1.hg,fun y hy=>?_⟩,?_,by simp;omega⟩,?_⟩ (by simp;omega)
  ·rw [List.mem_append,List.mem_singleton] at hy
   rcases hy with hy | rfl
   ·exact h1.one y hy
   ·omega
  ·rw [bitsV_append,hV,hl,bitsV_mod x i,Nat.mul_add,Nat.pow_add]
   simp only [bitsV,hbit,Nat.mul_zero,Nat.add_zero]
   rw [Nat.add_assoc,Nat.mul_assoc]
  ·refine hB.trans ((hc2.below hs1 fun j hj e=>by have:=(h1.own.lt j e).1;omega).trans ((Chg.gg hg3).below ?_ fun j hj e=>by omega))
   exact Nat.le_trans hs1 hc2.size
 ·have hge:=of_decide_eq_false hge
  have:i=k:=by omega
  subst this
  exact hK w1 ⟨s,L,h1,hV,hl⟩ hB
theorem le_get (ys:List UInt8) (j:Nat) (hj:j<ys.length):le ys/256^j%256=(ys[j]).toNat:=by
 rw [le_drop ys j (by omega),List.drop_eq_getElem_cons hj,le]
 have:=(ys[j]).toNat_lt
 omega
theorem le_set:∀(ys:List UInt8) (j:Nat) (y:UInt8) (hj:j<ys.length),le (ys.set j y)+256^j*(ys[j]).toNat=le ys+256^j*y.toNat
 | x::r,0,y,_=>by
  simp only [List.set_cons_zero,le,Nat.pow_zero,Nat.one_mul,List.getElem_cons_zero]
  omega
 | x::r,j+1,y,hj=>by
  have ih:=le_set r j y (by simpa using hj)
  simp only [List.set_cons_succ,le,List.getElem_cons_succ,Nat.pow_succ]
  have e1:256^j*256*(r[j]'(by simpa using hj)).toNat=256*(256^j*(r[j]'(by simpa using hj)).toNat):=by rw [Nat.mul_comm (256^j),Nat.mul_assoc]
  have e2:256^j*256*y.toNat=256*(256^j*y.toNat):=by rw [Nat.mul_comm (256^j),Nat.mul_assoc]
  rw [e1,e2]
  omega
theorem le_zeros (n:Nat):le (List.replicate n 0)=0:=by
 induction n with
 | zero=>rfl
 | succ n ih=>rw [List.replicate_succ,le,ih];rfl
theorem rWDone_spec {w:World} {base g V n:Nat} {K:Slc→World→Prop} (h:RWr w base g V n) (hn:n≤100000000000)
  (hK:∀r ys w',Own E_uint8 w' w.heap.size r ys→le ys=V→ys.length=(n+7)/8→Below w.heap.size w w'→K r w'):c_q1_Writer_Done (some ⟨g,0,none⟩) w K:=by
 refine call_q1_Writer_Done _ ?_
 unfold sh_q1_Writer_Done
 simp only [onPtr_some]
 obtain ⟨s,L,h0,hV,hl⟩:=h
 have hln:=h0.own.rd.n
 refine ldSl_of (x:=s) (h0.blk.cells 0 _ rfl) ⟨by decide,?_⟩
 have e8:IntKind.i64.wrap ((IntKind.i64.wrap (((s.n:Nat):Int)+(7:Int))).tdiv (8:Int))=(((n+7)/8:Nat):Int):=by
  rw [wrap64_id (x:=((s.n:Nat):Int)+7) (by omega),wrap64_id]
  ·rw [hln,hl,show ((n:Nat):Int)+7=((n+7:Nat):Int) from rfl,show (8:Int)=((8:Nat):Int) from rfl,←Int.ofNat_tdiv]
  ·rw [hln,hl,show ((n:Nat):Int)+7=((n+7:Nat):Int) from rfl,show (8:Int)=((8:Nat):Int) from rfl,←Int.ofNat_tdiv]
   omega
 rw [e8]
 refine mkSl_of sT_sl_uint8 (x0:=(0:UInt8)) rfl rfl rfl (by rw [by_sl_uint8];omega) (by simp only [maxLen];omega) fun w1 ho1 hB1=>?_
 obtain ⟨t,ht⟩:∃t:Slc,t=⟨some ⟨w.heap.size,0,none⟩,(n+7)/8,(n+7)/8⟩:=⟨_,rfl⟩
 rw [←ht] at ho1 ⊢
 refine loopP_rule (fun (s:Int×Unit) w2=>∃(i:Nat) (ys:List UInt8),s.1=i∧i≤n∧Own E_uint8 w2 w.heap.size t ys∧ys.length=(n+7)/8∧le ys=bitsV (L.take i)∧Below w.heap.size w w2) (fun s=>n-s.1.toNat) ⟨0,_,rfl,by omega,ho1,by simp,by rw [le_zeros];rfl,hB1⟩ ?_
 rintro ⟨i,_⟩ w2 ⟨i,ys,rfl,hi,ho2,hyl,hle,hB2⟩ I hI
 dsimp only at *
 have hb2:=h0.blk.ext hB2
 have hL2:=h0.own.ext hB2
 refine ldSl_of (x:=s) (hb2.cells 0 _ rfl) ?_
 refine cond_of (fun hlt=>?_) (fun hge=>?_)
 ·have hlt:=of_decide_eq_true hlt
  have hil:i<L.length:=by omega
  have hj:i/8<ys.length:=by omega
  have e1:IntKind.i64.wrap ((i:Int).tdiv (8:Int))=((i/8:Nat):Int):=by
   rw [show (8:Int)=((8:Nat):Int) from rfl,←Int.ofNat_tdiv,wrap64_id (by omega)]
  have e2:(i:Int).tmod (8:Int)=((i%8:Nat):Int):=by rw [show (8:Int)=((8:Nat):Int) from rfl,←Int.ofNat_tmod]
  rw [e1,e2]
  refine ⟨by decide,by decide,?_⟩
  have hod:Own E_uint8 w2.drew w.heap.size t ys:=ho2
  have hLd:Own E_uint8 w2.drew base s L:=hL2
  have hbd:Blk w2.drew g ty_q1_Writer [.slice s.a s.n s.c]:=hb2
  obtain ⟨y,hy,hys⟩:=get_of (xs:=ys) (k:=i/8) hj
  obtain ⟨b,hb,hbs⟩:=get_of (xs:=L) (k:=i) hil
  refine hod.rd.ix (i:=((i/8:Nat):Int)) rfl (by omega) (by omega) fun hc=>?_
  rw [hys] at hc
  refine ldB8 (b:=y) hc ?_
  refine ldSl_of (x:=s) (hbd.cells 0 _ rfl) ?_
  refine hLd.rd.ix (i:=(i:Int)) rfl (by omega) (by omega) fun hc2=>?_
  rw [hbs] at hc2
  refine ldB8 (b:=b) hc2 ⟨by decide,?_⟩
  rw [wrap_nat .u64 (x:=i%8) (by show _<2^64;omega)]
  refine ⟨by omega,?_⟩
  have em:min (((i%8:Nat):Int)).toNat IntKind.u8.bits=i%8:=by show min (i%8) 8=i%8;omega
  have hb1:b.toNat≤1:=h0.one b (List.mem_of_getElem? hb)
  have hp:2^(i%8)≤2^7:=Nat.pow_le_pow_right (by decide) (by omega)
  have hbp:b.toNat*2^(i%8)≤2^(i%8):=by
   have:=Nat.mul_le_mul_right (2^(i%8)) hb1
   rwa [Nat.one_mul] at this
  have hlt2:bitsV (L.take i)<2^i:=by
   have:=bitsV_lt (a:=L.take i) fun x hx=>h0.one x (List.mem_of_mem_take hx)
   rwa [List.length_take,Nat.min_eq_left (by omega)] at this
  have hyv:y.toNat<2^(i%8):=by
   have hg:=le_get ys (i/8) hj
   have hye:ys[i/8]=y:=(List.getElem_eq_iff hj).2 hy
   rw [hye,hle] at hg
   rw [←hg]
   have e:2^i=256^(i/8)*2^(i%8):=by
    rw [pow256,←Nat.pow_add]
    congr 1
    omega
   have:bitsV (L.take i)/256^(i/8)<2^(i%8):=by
    rw [Nat.div_lt_iff_lt_mul (Nat.pow_pos (by decide)),Nat.mul_comm,←e]
    exact hlt2
   exact Nat.lt_of_le_of_lt (Nat.mod_le _ _) this
  rw [em,mul_pow_nat,wrap_nat .u8 (x:=b.toNat*2^(i%8)) (by show _<2^8;omega),bits_or .u8 (by show _<2^8;omega) (by show _<2^8;omega),Nat.mul_comm,add_or hyv]
  have hv:y.toNat+2^(i%8)*b.toNat<256:=by rw [Nat.mul_comm];omega
  have hw:(UInt8.ofNat (y.toNat+2^(i%8)*b.toNat)).toNat=y.toNat+2^(i%8)*b.toNat:=by rw [UInt8.toNat_ofNat'];omega
  refine hod.rd.ix (i:=((i/8:Nat):Int)) rfl (by omega) (by omega) fun _=>?_
  refine hod.st0 (x:=y) (y:=UInt8.ofNat (y.toNat+2^(i%8)*b.toNat)) hy (by show [Value.int .u8 _]=_;rw [hw]) fun w3 ho3 hg3 hs3=>?_
  have hc3:Chg (fun j=>t.blk=some j) w2.drew w3:=Chg.of_grown hg3 fun j hj=>hj
  rw [wrap64_id (by omega)]
  have hBd:Below w2.heap.size w2 w2.drew:=(Below.refl _ w2).drew
  refine hI _ _ ⟨i+1,_,rfl,by omega,ho3,by rw [List.length_set];exact hyl,?_,(hB2.trans (hBd.mono hB2.size)).trans (hc3.below hB2.size fun j hj e=>by have:=(ho2.lt j e).1;omega)⟩ (by simp;omega)
  have hset:=le_set ys (i/8) (UInt8.ofNat (y.toNat+2^(i%8)*b.toNat)) hj
  have hye:ys[i/8]=y:=(List.getElem_eq_iff hj).2 hy
  rw [hye,hw,hle] at hset
  rw [List.take_add_one,hb,bitsV_append,List.length_take,Nat.min_eq_left (by omega)]
  have e:2^i=256^(i/8)*2^(i%8):=by
   rw [pow256,←Nat.pow_add]
   congr 1
   omega
  simp only [Option.toList_some,bitsV,Nat.mul_zero,Nat.add_zero]
  rw [e,Nat.mul_assoc]
  rw [Nat.mul_add] at hset
  omega
 ·have hge:=of_decide_eq_false hge
  have:i=n:=by omega
  subst this
  rw [←hl,List.take_length,hV] at hle
  exact hK t ys w2 ho2 hle hyl hB2
theorem fixed_at:∀i,i<288→fixedL[i]?=some (if i<144 then 8 else if i<256 then 9 else if i<280 then 7 else 8):=by decide +kernel
theorem fixed_good:goodTab fixedL∧¬badTab fixedL:=by
 have a:∀x∈fixedL,x.toNat≤15:=by decide +kernel
 have b:roomN fixedL=32768:=by decide +kernel
 refine ⟨⟨a,.inl b⟩,fun h=>?_⟩
 rcases h with (h | ⟨x,hx,hx15⟩) | h
 ·exact absurd h (by decide +kernel)
 ·have:=a x hx;omega
 ·exact h (.inl b)
theorem rHFixed_spec {w:World} {K:Slc→Slc→World→Prop} (hK:∀r q w',Own E_uint8 w' w.heap.size r fixedL→Own E_uint8 w' w.heap.size q (List.replicate 30 5)→Below w.heap.size w w'→K r q w'):c_q4_Fixed w K:=by
 refine call_q4_Fixed ?_
 unfold sh_q4_Fixed
 refine mkSl_of sT_sl_uint8 (x0:=(0:UInt8)) (n:=288) rfl rfl rfl (by rw [by_sl_uint8];omega) (by simp only [maxLen];omega) fun w1 ho1 hB1=>?_
 obtain ⟨t,ht⟩:∃t:Slc,t=⟨some ⟨w.heap.size,0,none⟩,288,288⟩:=⟨_,rfl⟩
 rw [←ht] at ho1 ⊢
 have hfl:fixedL.length=(List.replicate 288 (0:UInt8)).length:=by decide
 have hrl:(List.replicate 288 (0:UInt8)).length=288:=by decide
 refine loopP_rule (fun (s:Int×Unit) w2=>∃i:Nat,s.1=i∧i≤288∧Own E_uint8 w2 w.heap.size t (mix fixedL (List.replicate 288 0) i)∧Below w.heap.size w w2) (fun s=>288-s.1.toNat) ⟨0,rfl,by omega,by rw [mix_zero];exact ho1,hB1⟩ ?_
 rintro ⟨i,_⟩ w2 ⟨i,rfl,hi,ho2,hB2⟩ I hI
 dsimp only at *
 refine cond_of (fun hlt=>?_) (fun hge=>?_)
 ·have hlt:=of_decide_eq_true hlt
  have hi2:i<288:=by omega
  rw [wrap64_id (by omega)]
  have hf:=fixed_at i hi2
  have one:∀v:UInt8,fixedL[i]?=some v→ixK t (i:Int) 1 fun t19=>stK t19 [(.int .u8 (v.toNat:Int))] w2 fun w3=>I ((i:Int)+1,()) w3:=fun v hv=>by
   refine ho2.rd.ix (i:=(i:Int)) rfl (by omega) (by rw [mix_length hfl,hrl];omega) fun _=>?_
   refine ho2.st0 (x:=0) (y:=v) (by rw [show ((i:Int)).toNat=i from rfl,mix_get hfl (by rw [hrl];exact hi2),if_neg (by omega),List.getElem?_replicate,if_pos hi2]) rfl fun w3 ho3 hg3 hs3=>?_
   rw [show ((i:Int)).toNat=i from rfl,mix_set hfl (by rw [hrl];exact hi2) hv] at ho3
   have hc3:Chg (fun j=>t.blk=some j) w2 w3:=Chg.of_grown hg3 fun j hj=>hj
   exact hI _ _ ⟨i+1,rfl,by omega,ho3,hB2.trans (hc3.below hB2.size fun j hj e=>by have:=(ho2.lt j e).1;omega)⟩ (by simp;omega)
  refine cond_of (fun h1=>?_) (fun h1=>?_)
  ·have h1:=of_decide_eq_true h1
   rw [if_pos (by omega)] at hf
   exact one 8 hf
  ·have h1:=of_decide_eq_false h1
   rw [if_neg (by omega)] at hf
   refine cond_of (fun h2=>?_) (fun h2=>?_)
   ·have h2:=of_decide_eq_true h2
    rw [if_pos (by omega)] at hf
    exact one 9 hf
   ·have h2:=of_decide_eq_false h2
    rw [if_neg (by omega)] at hf
    refine cond_of (fun h3=>?_) (fun h3=>?_)
    ·have h3:=of_decide_eq_true h3
     rw [if_pos (by omega)] at hf
     exact one 7 hf
    ·have h3:=of_decide_eq_false h3
     rw [if_neg (by omega)] at hf
     exact one 8 hf
 ·have hge:=of_decide_eq_false hge
  have:i=288:=by omega
  subst this
  have hm:=mix_all hfl
  rw [hrl] at hm
  rw [hm] at ho2
  refine mkSl_of sT_sl_uint8 (x0:=(0:UInt8)) (n:=30) rfl rfl rfl (by rw [by_sl_uint8];omega) (by simp only [maxLen];omega) fun w3 ho3 hB3=>?_
  obtain ⟨u,hu⟩:∃u:Slc,u=⟨some ⟨w2.heap.size,0,none⟩,30,30⟩:=⟨_,rfl⟩
  rw [←hu] at ho3 ⊢
  have hfl:(List.replicate 30 (5:UInt8)).length=(List.replicate 30 (0:UInt8)).length:=by decide
  have hrl:(List.replicate 30 (0:UInt8)).length=30:=by decide
  refine loopP_rule (fun (s:Int×Unit) w4=>∃i:Nat,s.1=i∧i≤30∧Own E_uint8 w4 w2.heap.size u (mix (List.replicate 30 5) (List.replicate 30 0) i)∧Below w2.heap.size w2 w4) (fun s=>30-s.1.toNat) ⟨0,rfl,by omega,by rw [mix_zero];exact ho3,hB3⟩ ?_
  rintro ⟨i,_⟩ w4 ⟨i,rfl,hi,ho4,hB4⟩ I hI
  dsimp only at *
  refine cond_of (fun hlt=>?_) (fun hge=>?_)
  ·have hlt:=of_decide_eq_true hlt
   have hi2:i<30:=by omega
   rw [wrap64_id (by omega)]
   refine ho4.rd.ix (i:=(i:Int)) rfl (by omega) (by rw [mix_length hfl,hrl];omega) fun _=>?_
   refine ho4.st0 (x:=0) (y:=5) (by rw [show ((i:Int)).toNat=i from rfl,mix_get hfl (by rw [hrl];exact hi2),if_neg (by omega),List.getElem?_replicate,if_pos hi2]) rfl fun w5 ho5 hg5 hs5=>?_
   rw [show ((i:Int)).toNat=i from rfl,mix_set hfl (by rw [hrl];exact hi2) (by rw [List.getElem?_replicate,if_pos hi2])] at ho5
   have hc5:Chg (fun j=>u.blk=some j) w4 w5:=Chg.of_grown hg5 fun j hj=>hj
   exact hI _ _ ⟨i+1,rfl,by omega,ho5,hB4.trans (hc5.below hB4.size fun j hj e=>by have:=(ho4.lt j e).1;omega)⟩ (by simp;omega)
  ·have hge:=of_decide_eq_false hge
   have:i=30:=by omega
   subst this
   have hm:=mix_all hfl
   rw [hrl] at hm
   rw [hm] at ho4
   exact hK t u w4 (ho2.ext hB4) (ho4.base hB2.size) (hB2.trans (hB4.mono hB2.size))
theorem rone_sym {base g base2 tg:Nat} {lo co:Slc} {p:Nat×Nat} {y:Nat} {w:World} {K:World→Prop} (ht:RTab w base2 tg lo co fixedL) (h:RWr w base g p.1 p.2) (hy:y<288) (hbase:base≤w.heap.size) (hn:p.2≤100000000000)
  (hK:∀w',RWr w' base g (putN p y).1 (putN p y).2→Below base w w'→K w'):c_q4_Table_Code (some ⟨tg,0,none⟩) (y:Int) w fun t32 t32_1 w6=>c_q1_Writer_Bits (some ⟨g,0,none⟩) t32 t32_1 w6 fun w7=>K w7:=by
 obtain ⟨x,hx,hxk,hk7,hk9⟩:=kN_get hy
 refine rCode_spec ht hx (by omega) ?_
 rw [hxk]
 have hlt:=revN_lt (codeK fixedL (kN y) y) (kN y)
 have h32:2^kN y≤2^9:=Nat.pow_le_pow_right (by decide) hk9
 have hBd:Below w.heap.size w w.drew:=(Below.refl _ w).drew
 refine rWBits_spec (h.ext hBd) hbase (by omega) (by omega) (by omega) (by omega) fun w' h' hB=>?_
 rw [Nat.mod_eq_of_lt hlt] at h'
 exact hK w' h' ((hBd.mono hbase).trans hB)
theorem rFixed_spec {b:Slc} {bs:List UInt8} {w:World} {K:Slc→World→Prop} (hb:Rd E_uint8 w b bs) (hl:bs.length≤1000000000)
  (hK:∀r ys w',Own E_uint8 w' w.heap.size r ys→le ys=(fixedN bs).1→ys.length=((fixedN bs).2+7)/8→Below w.heap.size w w'→K r w'):c_q5_Fixed b w K:=by
 refine call_q5_Fixed _ ?_
 unfold sh_q5_Fixed
 rw [hb.n]
 refine rHFixed_spec fun t6 t7 w1 ho1 _ hB1=>?_
 refine rNew_spec ho1.rd (fun h=>absurd h fixed_good.2) fun _ tg lo co w2 hf hB2=>?_
 have hs1:=hB1.size
 have hs2:=hB2.size
 refine nw_blk fun w3 hb3 hB3 hs3=>?_
 obtain ⟨g,hg⟩:∃g,g=w2.heap.size:=⟨_,rfl⟩
 rw [←hg] at hb3 ⊢
 have h3:RWr w3 w2.heap.size g 0 0:=⟨nilS,[],⟨hb3,Own.nil _ _ _,by omega,fun x hx=>by simp at hx⟩,rfl,rfl⟩
 have hs3:=hB3.size
 refine rWBits_spec (x:=1) (k:=1) h3 hs3 (by decide) (by decide) (by decide) (by decide) fun w4 h4 hB4=>?_
 have hs4:=hB4.size
 refine rWBits_spec (x:=1) (k:=2) h4 (by omega) (by decide) (by decide) (by decide) (by decide) fun w5 h5 hB5=>?_
 have hB13:Below w.heap.size w w3:=hB1.trans ((hB2.mono hs1).trans (hB3.mono (Nat.le_trans hs1 hs2)))
 have hB35:Below w2.heap.size w3 w5:=hB4.trans hB5
 have tab:∀{w'},Below w2.heap.size w3 w'→RTab w' w1.heap.size tg lo co fixedL:=fun hB=>hf.ext (hB3.trans hB)
 have h5:RWr w5 w2.heap.size g (bytesN []).1 (bytesN []).2:=h5
 have row:∀{w'},Below w2.heap.size w3 w'→Rd E_uint8 w' b bs:=fun hB=>hb.ext (hB13.trans (hB.mono (Nat.le_trans hs1 hs2)))
 refine loopP_rule_w (fun m (s:Int×Unit) w5=>∃i:Nat,s.1=(i:Int)∧i≤bs.length∧m=bs.length+1-i∧RWr w5 w2.heap.size g (bytesN (bs.take i)).1 (bytesN (bs.take i)).2∧Below w2.heap.size w3 w5∨s.1=((bs.length+1:Nat):Int)∧m=0∧RWr w5 w2.heap.size g (fixedN bs).1 (fixedN bs).2∧Below w2.heap.size w3 w5) (bs.length+1) ⟨0,.inl ⟨rfl,Nat.zero_le _,by omega,h5,hB35⟩⟩ ?_
 rintro m ⟨s,_⟩ w6 ⟨i,h⟩ I hI
 have hle:=bytesN_le bs
 have hk9:kN 256≤9:=by obtain ⟨_,_,_,_,hk9⟩:=kN_get (y:=256) (by decide);exact hk9
 have e2:(fixedN bs).2=(bytesN bs).2+kN 256:=rfl
 dsimp only at *
 rcases h with ⟨rfl,hi,rfl,h6,hB6⟩ | ⟨rfl,rfl,h6,hB6⟩
 ·have hs6:w2.heap.size≤w6.heap.size:=Nat.le_trans hs3 hB6.size
  have hle:=bytesN_le (bs.take i)
  rw [List.length_take] at hle
  refine cond_t (decide_eq_true (by omega)) ?_
  refine joinP_of fun J hJ=>?_
  refine cond_of (fun hlt=>?_) (fun hge=>?_)
  ·have hlt:i<bs.length:=by have:=of_decide_eq_true hlt;omega
   refine (row hB6).ix (i:=(i:Int)) rfl (by omega) (by omega) fun hc=>?_
   refine ldB8 (b:=bs[i]) hc (hJ _ _ ?_)
   have hbl:=(bs[i]).toNat_lt
   dsimp only
   rw [wrap_nat .i64 (x:=(bs[i]).toNat) (by show _<2^63;omega)]
   refine rone_sym (p:=bytesN (bs.take i)) (tab hB6) h6 (by omega) hs6 (by omega) fun w7 h7 hB7=>?_
   rw [wrap64_id (by omega),show (i:Int)+1=((i+1:Nat):Int) from rfl]
   refine hI (bs.length+1-(i+1)) (((i+1:Nat):Int),()) w7 ⟨i+1,.inl ⟨rfl,by omega,rfl,?_,hB6.trans hB7⟩⟩ (by omega)
   rw [List.take_succ_eq_append_getElem hlt,bytesN_snoc]
   exact h7
  ·have hge:i=bs.length:=by have:=of_decide_eq_false hge;omega
   subst hge
   rw [List.take_length] at h6 hle
   refine hJ _ _ ?_
   dsimp only
   refine rone_sym (p:=bytesN bs) (y:=256) (tab hB6) h6 (by decide) hs6 (by omega) fun w7 h7 hB7=>?_
   rw [wrap64_id (by omega)]
   exact hI 0 _ w7 ⟨0,.inr ⟨rfl,rfl,h7,hB6.trans hB7⟩⟩ (by omega)
 ·have hs6:w2.heap.size≤w6.heap.size:=Nat.le_trans hs3 hB6.size
  refine cond_f (decide_eq_false (by omega)) ?_
  refine rWDone_spec h6 (by omega) fun r ys w7 ho hle7 hlen hB7=>?_
  exact hK r ys w7 (ho.base (by omega)) hle7 hlen (hB13.trans ((hB6.mono (Nat.le_trans hs1 hs2)).trans (hB7.mono (by omega))))
theorem rStore_spec {b:Slc} {bs:List UInt8} {w:World} {K:Slc→World→Prop} (hb:Rd E_uint8 w b bs) (hl:bs.length≤1000000000)
  (hK:∀r w',Own E_uint8 w' w.heap.size r (storeL bs)→Below w.heap.size w w'→K r w'):c_q5_Store b w K:=by
 refine call_q5_Store _ ?_
 unfold sh_q5_Store
 have hsl:=storeL_length _ bs (Nat.le_refl _)
 rw [hb.n]
 refine loopP_rule_w (fun m (s:Slc×Int×Unit) w1=>∃(at_:Nat) (done:List UInt8),s.2.1=(at_:Int)∧at_≤bs.length∧m=bs.length-at_∧storeL bs=done++storeL (bs.drop at_)∧Own E_uint8 w1 w.heap.size s.1 done∧Below w.heap.size w w1) bs.length ⟨0,[],rfl,Nat.zero_le _,by omega,by simp,Own.nil _ _ _,Below.refl _ _⟩ ?_
 rintro m ⟨t,a,_⟩ w1 ⟨at_,done,rfl,hat,rfl,hst,ho,hB⟩ I hI
 dsimp only at *
 have hs1:=hB.size
 obtain ⟨rest,hrest⟩:∃rest,rest=bs.drop at_:=⟨_,rfl⟩
 have hrl:rest.length=bs.length-at_:=by rw [hrest,List.length_drop]
 rw [←hrest] at hst
 have hdl:done.length+(storeL rest).length≤6*bs.length+5:=by
  rw [hst,List.length_append] at hsl;exact hsl
 obtain ⟨n,hn⟩:∃n:Nat,n=min 65535 rest.length:=⟨_,rfl⟩
 rw [wrap64_id (x:=((bs.length:Nat):Int)-(at_:Int)) (by omega)]
 refine joinP_of fun J hJ=>?_
 have go:∀lastN:Nat,(lastN=1∧n=rest.length∨lastN=0∧n=65535∧65535<rest.length)→J ((n:Int),(lastN:Int),()) w1:=fun lastN hlast=>hJ _ _ (by
  clear hJ
  dsimp only
  refine ⟨by decide,by decide,?_⟩
  have w1b:IntKind.u8.wrap (n:Int)=(((UInt8.ofNat (n%256)).toNat:Nat):Int):=by
   rw [wrap8_u8]
   show (((UInt8.ofNat ((n:Int)%256).toNat).toNat:Nat):Int)=_
   rw [UInt8.toNat_ofNat',UInt8.toNat_ofNat']
   omega
  have w2b:IntKind.u8.wrap ((n:Int).fdiv (2^(min ((8:Int)).toNat IntKind.i64.bits)))=(((UInt8.ofNat (n/256)).toNat:Nat):Int):=by
   rw [show min ((8:Int)).toNat IntKind.i64.bits=8 by decide,fdiv_nat,wrap8_u8]
   show (((UInt8.ofNat (((n/2^8:Nat):Int)%256).toNat).toNat:Nat):Int)=_
   rw [UInt8.toNat_ofNat',UInt8.toNat_ofNat']
   omega
  have c1:(UInt8.ofNat (n%256)).toNat=n%256:=by rw [UInt8.toNat_ofNat'];omega
  have c2:(UInt8.ofNat (n/256)).toNat=n/256:=by rw [UInt8.toNat_ofNat'];omega
  have x1:bitsR .xor .u8 (255) (((UInt8.ofNat (n%256)).toNat:Nat):Int)=(((UInt8.ofNat (255-n%256)).toNat:Nat):Int):=by
   rw [show (255:Int)=((255:Nat):Int) from rfl,bits_xor .u8 (by decide) (by show _<2^8;omega),c1,xor255 _ (by omega),UInt8.toNat_ofNat']
   omega
  have x2:bitsR .xor .u8 (255) (((UInt8.ofNat (n/256)).toNat:Nat):Int)=(((UInt8.ofNat (255-n/256)).toNat:Nat):Int):=by
   rw [show (255:Int)=((255:Nat):Int) from rfl,bits_xor .u8 (by decide) (by show _<2^8;omega),c2,xor255 _ (by omega),UInt8.toNat_ofNat']
   omega
  have l1:((lastN:Nat):Int)=(((UInt8.ofNat lastN).toNat:Nat):Int):=by rw [UInt8.toNat_ofNat'];omega
  rw [w2b,w1b,x1,x2]
  conv=>arg 2;rw [l1]
  refine nw_blk fun w2 hb2 hB2 hs2=>?_
  have hs2':w1.heap.size≤w2.heap.size:=hB2.size
  have hhd:Rd E_uint8 w2 ⟨some ⟨w1.heap.size,0,none⟩,5,5⟩ (headS lastN n):=rd_lits (E:=E_uint8) (ys:=headS lastN n) hb2 (by simp [maxLen,headS]) rfl
  have hsr:5+n≤(storeL rest).length:=by
   rw [storeL]
   split
   ·simp [headS];omega
   ·simp [headS];omega
  have h5:(headS lastN n).length=5:=rfl
  refine apB (ho.ext hB2) hhd (by omega) (by omega) fun r3 w3 ho3 hc3 hq3=>?_
  have hs3:=hc3.size
  have own1:∀i,i<w.heap.size→¬t.blk=some i:=fun i hi e=>by have:=(ho.lt i e).1;omega
  have hB3:Below w.heap.size w w3:=(hB.trans (hB2.mono hs1)).trans (hc3.below (by omega) own1)
  rw [wrap64_id (x:=(at_:Int)+(n:Int)) (by omega)]
  refine hb.slK (l:=at_) (m:=at_+n) rfl (.inr rfl) (.inr rfl) (by omega) (by omega) fun hp=>?_
  have ep:(bs.take (at_+n)).drop at_=rest.take n:=by rw [hrest,List.drop_take];congr 1;omega
  rw [ep] at hp
  have htl:(rest.take n).length=n:=by rw [List.length_take];omega
  have h5':(done++headS lastN n).length=done.length+5:=by rw [List.length_append,h5]
  refine apB ho3 (hp.ext hB3) (by omega) (by omega) fun r4 w4 ho4 hc4 hq4=>?_
  have hs4:=hc4.size
  have own3:∀i,i<w.heap.size→¬r3.blk=some i:=fun i hi e=>by have:=(ho3.lt i e).1;omega
  have hB4:Below w.heap.size w w4:=hB3.trans (hc4.below (by omega) own3)
  refine cond_of (fun e1=>?_) (fun e0=>?_)
  ·have e1:lastN=1:=by have:=eq_of_beq e1;omega
   have hnr:n=rest.length:=by rcases hlast with ⟨_,h⟩ | ⟨h,_⟩<;>omega
   refine hK r4 w4 ?_ hB4
   have:storeL bs=done++headS lastN n++rest.take n:=by
    rw [hst,storeL,dif_pos (by omega),e1,hnr,List.take_length,List.append_assoc]
   rw [this]
   exact ho4
  ·have e0:lastN≠1:=by intro e;subst e;exact absurd rfl (beq_eq_false_iff_ne.1 e0)
   obtain ⟨hn65,hlong⟩:n=65535∧65535<rest.length:=by rcases hlast with ⟨h,_⟩ | ⟨_,h⟩;exact absurd h e0;exact h
   have hl0:lastN=0:=by rcases hlast with ⟨h,_⟩ | ⟨h,_⟩;exact absurd h e0;exact h
   rw [wrap64_id (x:=(at_:Int)+65535) (by omega),show (at_:Int)+65535=((at_+65535:Nat):Int) from rfl]
   refine hI (bs.length-(at_+65535)) _ w4 ⟨at_+65535,done++headS lastN n++rest.take n,rfl,by omega,rfl,?_,ho4,hB4⟩ (by omega)
   rw [hst]
   conv=>lhs;rw [storeL,dif_neg (by omega)]
   rw [hl0,hn65,List.append_assoc,List.append_assoc,List.append_assoc,hrest,List.drop_drop])
 refine cond_of (fun e=>?_) (fun e=>?_)
 ·have e:=of_decide_eq_true e
  have:=go 0 (.inr ⟨rfl,by omega,by omega⟩)
  rwa [show n=65535 by omega] at this
 ·have e:=of_decide_eq_false e
  have:=go 1 (.inl ⟨rfl,by omega⟩)
  rwa [show ((n:Nat):Int)=((bs.length:Nat):Int)-(at_:Int) by omega] at this
end Go.Proofs.YtmagnpcgpinmcaaGreat
namespace Go.Proofs.YtmagnpcgpinmcaaGreat
open Go.Vc Go.RowKit
set_option maxRecDepth 400000
section
variable {w w':World} {base g rg:Nat} {s out:Slc} {bs:List UInt8} {most at_:Nat}
end
end Go.Proofs.YtmagnpcgpinmcaaGreat
namespace Go.Proofs.YtmagnpcgpinmcaaGreat
open Go.Vc Go.RowKit
set_option maxRecDepth 400000
end Go.Proofs.YtmagnpcgpinmcaaGreat
namespace Go.Proofs.YtmagnpcgpinmcaaGreat
open Go.Vc Go.RowKit
set_option maxRecDepth 400000
def isBody (fixed:Bool) (body bs:List UInt8):Prop:=(fixed=false→body=storeL bs)∧(fixed=true→le body=(fixedN bs).1∧body.length=((fixedN bs).2+7)/8)
theorem body_run {fixed:Bool} {body bs tail:List UInt8} {most:Nat} (h:isBody fixed body bs) (hm:bs.length≤most):∃c' p',Ch most (body++tail) cfg0 0 c' p'∧c'.mode=5∧c'.hist=bs∧(p'+7)/8=body.length:=by
 cases fixed with
 | true =>
  obtain ⟨h1,h2⟩:=h.2 rfl
  obtain ⟨c',hch,h5,hh⟩:=run_fixed (tail:=tail) h1 h2 hm
  exact ⟨c',_,hch,h5,hh,h2.symm⟩
 | false =>
  have h1:=h.1 rfl
  subst h1
  obtain ⟨c',hch,h5,hh⟩:=run_store (most:=most) (B:=storeL bs++tail) (tail:=tail) bs.length bs 0 cfg0 (Nat.le_refl _) (by simp) rfl (by show 0+bs.length≤_;omega)
  exact ⟨c',_,hch,h5,by rw [hh];rfl,by omega⟩
theorem body_le {fixed:Bool} {body bs:List UInt8} (h:isBody fixed body bs):body.length≤9*bs.length+20∧0<body.length:=by
 cases fixed with
 | true =>
  obtain ⟨h1,h2⟩:=h.2 rfl
  have:=fixedN_le bs
  have h3:3≤(bytesN bs).2:=(foldN_goes bs (3,3)).1
  have e:(fixedN bs).2=(bytesN bs).2+kN 256:=rfl
  omega
 | false =>
  have h1:=h.1 rfl
  subst h1
  have:=storeL_length _ bs (Nat.le_refl _)
  have hp:0<(storeL bs).length:=by
   rw [storeL]
   split<;>simp [headS]
  omega
theorem tail_at {c:Cfg} {p:Nat} {body s more:List UInt8} (h5:c.mode=5) (hp:(p+7)/8=body.length) (hs:s.length=4):tailL c p (body++(s++more))=s:=by
 rw [tailL,if_pos h5,hp,List.drop_left,List.take_append_of_le_length (by omega),List.take_of_length_le (by omega)]
theorem packed_drop (body s more:List UInt8):([120,1]++body++s++more).drop 2=body++(s++more):=by
 simp
theorem packed_head (body s more:List UInt8):headOK ([120,1]++body++s++more)=true:=by
 show (zh1 120 && zh2 120 1)=true
 decide
theorem zerr_of {body s more:List UInt8} {c:Cfg} {p:Nat} {bs:List UInt8} (h5:c.mode=5) (hp:(p+7)/8=body.length) (hs:s.length=4) (hh:c.hist=bs):zerr ([120,1]++body++s++more) c p .short=if bigN s=adlN bs then 0 else 4:=by
 rw [zerr.eq_def,packed_head,if_neg (by decide)]
 show zend _ c p=_
 rw [zend,packed_drop,tail_at h5 hp hs,if_pos hs,hh]
section
variable {w:World}
theorem big_inj {a b:List UInt8} (ha:a.length=4) (hb:b.length=4) (h:bigN a=bigN b):a=b:=by
 match a,ha,b,hb with
 | [a0,a1,a2,a3],_,[b0,b1,b2,b3],_ =>
  rw [big4,big4] at h
  have h0:=a0.toNat_lt
  have h1:=a1.toNat_lt
  have h2:=a2.toNat_lt
  have h3:=a3.toNat_lt
  have g0:=b0.toNat_lt
  have g1:=b1.toNat_lt
  have g2:=b2.toNat_lt
  have g3:=b3.toNat_lt
  rw [UInt8.toNat.inj (show a0.toNat=b0.toNat by omega),UInt8.toNat.inj (show a1.toNat=b1.toNat by omega),UInt8.toNat.inj (show a2.toNat=b2.toNat by omega),UInt8.toNat.inj (show a3.toNat=b3.toNat by omega)]
end
end Go.Proofs.YtmagnpcgpinmcaaGreat
namespace Go.Proofs.YtmagnpcgpinmcaaGreat
open Go.Vc Go.RowKit
set_option maxRecDepth 400000
theorem run_stops (most:Nat) (B:List UInt8):∀(n:Nat) (c:Cfg) (a:Nat),mu B c a≤n→a≤8*B.length→∃c1 a1 r,Ch most B c a c1 a1∧step1 most B a1 c1=r∧∀c a,r≠.next c a
 | n,c,a,hn,ha=>by
  cases h:step1 most B a c with
  | short=>exact ⟨c,a,_,.refl _ _,h,by intro _ _ e;cases e⟩
  | err m=>exact ⟨c,a,_,.refl _ _,h,by intro _ _ e;cases e⟩
  | next c2 a2 =>
   obtain ⟨h1,h2,h3⟩:=step1_next h ha
   cases n with
   | zero=>omega
   | succ n =>
    obtain ⟨c1,a1,r,hc,hs,hr⟩:=run_stops most B n c2 a2 (by omega) h1
    exact ⟨c1,a1,r,.step h hc,hs,hr⟩
section
variable {w:World}
theorem rPack_spec {b:Slc} {bs:List UInt8} {fixed:Bool} {K:Slc→World→Prop} (hb:Rd E_uint8 w b bs) (hl:bs.length≤1000000000)
  (hK:∀r body w',Own E_uint8 w' w.heap.size r (packL body bs)→isBody fixed body bs→Below w.heap.size w w'→K r w'):c_q6_Pack b fixed w K:=by
 refine call_q6_Pack _ _ ?_
 unfold sh_q6_Pack
 have hsl:=storeL_length _ bs (Nat.le_refl _)
 refine rStore_spec hb hl fun t w1 ho1 hB1=>?_
 have hs1:=hB1.size
 refine joinP_of fun J hJ=>?_
 have go:∀(x:Slc) body w2,Own E_uint8 w2 w.heap.size x body→Below w.heap.size w w2→body.length≤100000000000→isBody fixed body bs→J (x,()) w2:=fun x body w2 hx hB hbl hbd=>hJ _ _ (by
  clear hJ
  dsimp only
  have hs2:=hB.size
  refine rAdler_spec (hb.ext hB) (by omega) ?_
  refine nw_blk fun w3 hb3 hB3 hs3=>?_
  have r3:Own E_uint8 w3 w2.heap.size ⟨some ⟨w2.heap.size,0,none⟩,2,2⟩ [120,1]:=own_lits (E:=E_uint8) (ys:=[120,1]) (Nat.le_refl _) hb3 (by decide) rfl
  refine apB r3 (hx.ext hB3).rd (by omega) (by show 2+body.length≤_;omega) fun r4 w4 ho4 hc4 hq4=>⟨by decide,by decide,by decide,?_⟩
  have hB24:Below w2.heap.size w2 w4:=hB3.trans (hc4.below (by omega) fun i hi e=>by injection e with e;have e:w2.heap.size=i:=e;omega)
  have hs4:=hB24.size
  rw [show min ((24:Int)).toNat IntKind.u32.bits=24 by decide,show min ((16:Int)).toNat IntKind.u32.bits=16 by decide,show min ((8:Int)).toNat IntKind.u32.bits=8 by decide,fdiv_nat,fdiv_nat,fdiv_nat,wrap8_of,wrap8_of,wrap8_of,wrap8_of]
  refine nw_blk fun w5 hb5 hB5 hs5=>?_
  have r5:Rd E_uint8 w5 ⟨some ⟨w4.heap.size,0,none⟩,4,4⟩ (be4 (adlN bs)):=rd_lits (E:=E_uint8) (ys:=be4 (adlN bs)) hb5 (by show 4≤maxLen;simp [maxLen]) rfl
  refine apB (ho4.ext hB5) r5 (by omega) (by rw [List.length_append];show 2+body.length+4≤_;omega) fun r6 w6 ho6 hc6 hq6=>?_
  have hB25:Below w2.heap.size w2 w5:=hB24.trans (hB5.mono hs4)
  have hB26:Below w2.heap.size w2 w6:=hB25.trans (hc6.below hB25.size fun i hi e=>by have:=(ho4.lt i e).1;omega)
  exact hK r6 body w6 (ho6.base hs2) hbd (hB.trans (hB26.mono hs2)))
 cases fixed with
 | true =>
  refine cond_t rfl ?_
  refine rFixed_spec (hb.ext hB1) hl fun r ys w2 ho2 hle2 hlen2 hB2=>?_
  have:=fixedN_le bs
  exact go r ys w2 (ho2.base hs1) (hB1.trans (hB2.mono hs1)) (by omega) ⟨(fun e=>by cases e),fun _=>⟨hle2,hlen2⟩⟩
 | false =>
  exact cond_f rfl (go t _ w1 ho1 hB1 (by omega) ⟨fun _=>rfl,(fun e=>by cases e)⟩)
end
end Go.Proofs.YtmagnpcgpinmcaaGreat
set_option linter.unusedVariables false
namespace Go.Proofs.YtmagnpcgpinmcaaGreat
open Go.Vc
set_option maxRecDepth 400000
theorem unpack_ex (most:Nat) (bs:List UInt8):∃r:Cfg×Nat×SR,Ch most (bs.drop 2) cfg0 0 r.1 r.2.1∧step1 most (bs.drop 2) r.2.1 r.1=r.2.2∧∀c a,r.2.2≠.next c a:=by
 obtain ⟨c1,a1,r0,h1,h2,h3⟩:=run_stops most (bs.drop 2) _ cfg0 0 (Nat.le_refl _) (Nat.zero_le _)
 exact ⟨(c1,a1,r0),h1,h2,h3⟩
noncomputable def unRun (most:Nat) (bs:List UInt8):Cfg×Nat×SR:=Classical.choose (unpack_ex most bs)
theorem unRun_spec (most:Nat) (bs:List UInt8):Ch most (bs.drop 2) cfg0 0 (unRun most bs).1 (unRun most bs).2.1∧step1 most (bs.drop 2) (unRun most bs).2.1 (unRun most bs).1=(unRun most bs).2.2∧∀c a,(unRun most bs).2.2≠.next c a:=Classical.choose_spec (unpack_ex most bs)
noncomputable def unErr (most:Nat) (bs:List UInt8):Nat:=zerr bs (unRun most bs).1 (unRun most bs).2.1 (unRun most bs).2.2
noncomputable def unOut (most:Nat) (bs:List UInt8):List UInt8:=(unRun most bs).1.hist
noncomputable def unUsed (most:Nat) (bs:List UInt8):Nat:=6+((unRun most bs).2.1+7)/8
noncomputable def decF (F:FilL):Nat×Nat×Nat×List UInt8 :=
 if unErr (needP F.h) F.data≠0 then (unErr (needP F.h) F.data,0,0,[])
 else if (unOut (needP F.h) F.data).length<needP F.h∨unUsed (needP F.h) F.data<F.data.length then (3,0,0,[])
 else match pixelsP F (unOut (needP F.h) F.data) with
  | none=>(3,0,0,[])
  | some m=>(0,F.h.W.toNat,F.h.H.toNat,m)
noncomputable def decodeP (b:List UInt8) (pixels:Int):Nat×Nat×Nat×List UInt8 :=
 if (readAll b pixels).1≠0 then ((readAll b pixels).1,0,0,[]) else decF (readAll b pixels).2
def dsum (l:List ChL):Nat:=(l.map fun c=>c.data.length).sum
theorem chunkP_ok {b:List UInt8} {c:ChL} {n:Nat} (h:chunkP b=.ok c n):c.kind.length=4∧n=12+c.data.length∧n≤b.length∧c.kind.all letterP=true:=by
 unfold chunkP at h
 split at h
 ·cases h
 rename_i h1
 split at h
 ·cases h
 rename_i h2
 split at h
 ·cases h
 rename_i h3
 split at h
 ·cases h
 rename_i h4
 split at h
 ·cases h
 rename_i h5
 split at h
 ·cases h
 rename_i h6
 cases h
 refine ⟨by simp;omega,?_,by omega,?_⟩
 ·rw [List.length_drop,List.length_take]
  omega
 ·cases e:((b.take 8).drop 4).all letterP with
  | true=>rfl
  | false=>exact absurd e h4
theorem chunksF_facts (one:Bool):∀(f:Nat) (b:List UInt8),dsum (chunksF one f b).2≤b.length∧(∀c∈(chunksF one f b).2,c.kind.length=4)∧(chunksF one f b).2.length≤b.length∧((chunksF one f b).1=0→∃c l,(chunksF one f b).2=c::l)
 | 0,b=>⟨by simp [chunksF,dsum],by simp [chunksF],by simp [chunksF],fun h=>by cases h⟩
 | f+1,b=>by
  rw [chunksF]
  cases hc:chunkP b with
  | err n=>exact ⟨by simp [dsum],by simp,by simp,fun h=>absurd h (chunkP_err hc)⟩
  | ok c n =>
   obtain ⟨h1,h2,h3,_⟩:=chunkP_ok hc
   dsimp only
   split
   ·exact ⟨by simp [dsum];omega,by simp [h1],by simp;omega,fun _=>⟨c,[],rfl⟩⟩
   ·obtain ⟨i1,i2,i3,i4⟩:=chunksF_facts one f (b.drop n)
    rw [List.length_drop] at i1 i3
    refine ⟨?_,?_,?_,fun _=>⟨_,_,rfl⟩⟩
    ·unfold dsum at i1 ⊢
     rw [List.map_cons,List.sum_cons]
     omega
    ·intro d hd
     rcases List.mem_cons.1 hd with rfl | hd
     ·exact h1
     ·exact i2 d hd
    ·rw [List.length_cons];omega
theorem chunksP_facts (one:Bool) (b:List UInt8):dsum (chunksP one b).2≤b.length∧(∀c∈(chunksP one b).2,c.kind.length=4)∧(chunksP one b).2.length≤b.length∧((chunksP one b).1=0→∃c l,(chunksP one b).2=c::l):=by
 obtain ⟨i1,i2,i3,i4⟩:=chunksF_facts one b.length (b.drop 8)
 rw [List.length_drop] at i1 i3
 unfold chunksP
 split
 ·rename_i h
  exact ⟨by simp [dsum],by simp,by simp,fun e=>absurd e h⟩
 ·split
  ·rename_i h
   exact ⟨by simp [dsum],by simp,by simp,fun e=>absurd e h⟩
  ·rename_i h
   exact ⟨by dsimp only;omega,i2,by dsimp only;omega,fun _=>i4 (by omega)⟩
theorem takeP_len {F:FilL} {c:ChL} {n:Nat} (h:F.data.length≤n∧F.pal.length≤n∧F.tr.length≤n):(takeP F c).2.data.length≤n+c.data.length∧(takeP F c).2.pal.length≤n+c.data.length∧(takeP F c).2.tr.length≤n+c.data.length:=by
 obtain ⟨h1,h2,h3⟩:=h
 unfold takeP
 repeat' split
 all_goals (refine ⟨?_,?_,?_⟩<;>simp<;>omega)
theorem takeAll_len:∀(l:List ChL) (F:FilL) (n:Nat),F.data.length≤n∧F.pal.length≤n∧F.tr.length≤n→(takeAll F l).2.data.length≤n+dsum l∧(takeAll F l).2.pal.length≤n+dsum l∧(takeAll F l).2.tr.length≤n+dsum l
 | [],F,n,h=>by simp only [takeAll,dsum,List.map_nil,List.sum_nil];exact ⟨by omega,by omega,by omega⟩
 | c::l,F,n,h=>by
  have e:dsum (c::l)=c.data.length+dsum l:=by simp [dsum]
  rw [takeAll]
  split
  ·rw [e];exact ⟨by dsimp only;omega,by dsimp only;omega,by dsimp only;omega⟩
  ·obtain ⟨a,b,d⟩:=takeAll_len l (takeP F c).2 (n+c.data.length) (takeP_len h)
   rw [e]
   exact ⟨by omega,by omega,by omega⟩
theorem takeAll_ok:∀(l:List ChL) {F:FilL},FilOk F→(takeAll F l).1=0→FilOk (takeAll F l).2∧(takeAll F l).2.h=F.h
 | [],F,h,_=>⟨h,rfl⟩
 | c::l,F,h,h0=>by
  rw [takeAll] at h0 ⊢
  split at h0
  ·rename_i hn;exact absurd h0 hn
  ·rename_i hn
   obtain ⟨a,b⟩:=takeP_ok (c:=c) h (by omega)
   rw [if_neg hn]
   obtain ⟨a2,b2⟩:=takeAll_ok l a h0
   exact ⟨a2,b2.trans b⟩
theorem headP_ok {c:ChL} (h:(headP c).1=0):checkP (headP c).2=0:=by
 unfold headP at h ⊢
 split at h
 ·cases h
 ·rename_i h1
  split at h
  ·rename_i h2;exact absurd h h2
  ·rename_i h2
   rw [if_neg h1,if_neg h2]
   show checkP (headOf c.data)=0
   omega
theorem fil0_ok {h:T_png_Head} (hc:checkP h=0):FilOk (fil0 h):=⟨hc,(fun h=>by cases h),rfl⟩
structure ReadOk (b:List UInt8) (pixels:Int) (F:FilL):Prop where
 ok:FilOk F
 area:F.h.W*F.h.H≤pixels∧F.h.W*F.h.H≤67108864
 data:F.data.length≤b.length
 pal:F.pal.length≤b.length
 tr:F.tr.length≤b.length
theorem readAll_ok {b:List UInt8} {pixels:Int} (h:(readAll b pixels).1=0):ReadOk b pixels (readAll b pixels).2:=by
 obtain ⟨f1,f2,f3,f4⟩:=chunksP_facts false b
 unfold readAll at h ⊢
 cases hcp:chunksP false b with
 | mk e l =>
  rw [hcp] at h f1 f2 f3 f4
  match e,l with
  | 0,c::l =>
   replace h:(readCh c l pixels).1=0:=h
   show ReadOk b pixels (readCh c l pixels).2
   unfold readCh at h ⊢
   by_cases h1:(headP c).1≠0
   ·rw [if_pos h1] at h;exact absurd h h1
   rw [if_neg h1] at h ⊢
   by_cases h2:(headP c).2.W*(headP c).2.H>pixels∨(headP c).2.W*(headP c).2.H>67108864
   ·rw [if_pos h2] at h;cases h
   rw [if_neg h2] at h ⊢
   by_cases h3:(takeAll (fil0 (headP c).2) l).1≠0
   ·rw [if_pos h3] at h;exact absurd h h3
   rw [if_neg h3] at h ⊢
   split
   ·rename_i h4;rw [if_pos h4] at h;cases h
   ·obtain ⟨a,bb⟩:=takeAll_ok l (fil0_ok (headP_ok (c:=c) (by omega))) (by omega)
    obtain ⟨d1,d2,d3⟩:=takeAll_len l (fil0 (headP c).2) 0 ⟨Nat.le_refl _,Nat.le_refl _,Nat.le_refl _⟩
    have e:dsum (c::l)=c.data.length+dsum l:=by simp [dsum]
    replace f1:dsum (c::l)≤b.length:=f1
    rw [e] at f1
    refine ⟨a,?_,Nat.le_trans d1 (by omega),Nat.le_trans d2 (by omega),Nat.le_trans d3 (by omega)⟩
    rw [bb]
    show (headP c).2.W*(headP c).2.H≤pixels∧(headP c).2.W*(headP c).2.H≤67108864
    omega
  | 0,[]=>obtain ⟨c,l,hcl⟩:=f4 rfl;cases hcl
  | e+1,l=>cases h
theorem needP_le {h:T_png_Head} {W H:Nat} (ho:HeadOk h W H) {M:Nat} (hM:W*H≤M):needP h≤140*M:=by
 have hrow:∀w:Nat,1+rowB h w≤2+8*w:=by
  intro w
  unfold rowB rowP
  split
  ·omega
  ·rename_i hn
   simp only [not_or] at hn
   obtain ⟨h1,h2,h3,h4,h5⟩:=hn
   have hd:isDepthP h.Depth=true:=by cases e:isDepthP h.Depth with | true=>rfl | false=>exact absurd e h5
   have hdp:1≤h.Depth∧h.Depth≤16:=by
    unfold isDepthP at hd
    simp at hd
    omega
   have a1:0≤(w:Int)*(samplesOf h.Color:Int):=Int.mul_nonneg (by omega) (by omega)
   have a2:(w:Int)*(samplesOf h.Color:Int)≤(w:Int)*4:=Int.mul_le_mul_of_nonneg_left (by omega) (by omega)
   have a4:(w:Int)*(samplesOf h.Color:Int)*h.Depth≤(w:Int)*4*16:=Int.mul_le_mul a2 (by omega) (by omega) (by omega)
   omega
 have one:∀p:PassP,needL h (rowsOf W H p)≤20*M:=by
  intro p
  have hs:=sizeP_le p W H
  have key:∀(l:List Nat),((l.map fun y=>(p,y,(sizeP p W H).1)).map fun r=>1+rowB h r.2.2).sum≤l.length*(2+8*W):=by
   intro l
   induction l with
   | nil=>simp
   | cons y l ih =>
    rw [List.map_cons,List.map_cons,List.sum_cons,List.length_cons,Nat.add_mul]
    have:=hrow (sizeP p W H).1
    dsimp only
    have h8:8*(sizeP p W H).1≤8*W:=by omega
    omega
  have h1:=key (List.range (sizeP p W H).2)
  rw [List.length_range] at h1
  have h2:(sizeP p W H).2*(2+8*W)≤H*(2+8*W):=Nat.mul_le_mul_right _ hs.2
  have h3:H*(2+8*W)=2*H+8*(W*H):=by rw [Nat.mul_add,Nat.mul_comm H 2,Nat.mul_left_comm,Nat.mul_comm H W]
  have h4:H≤W*H:=Nat.le_mul_of_pos_left H ho.w1
  unfold needL rowsOf
  omega
 have all:∀ps:List PassP,needL h (ps.flatMap (rowsOf W H))≤ps.length*(20*M):=by
  intro ps
  induction ps with
  | nil=>simp [needL]
  | cons p ps ih =>
   rw [List.flatMap_cons,needL_append,List.length_cons,Nat.add_mul]
   have:=one p
   omega
 have h1:=all (passesP h.Lace)
 have h2:=passes_len h.Lace
 have h3:(passesP h.Lace).length*(20*M)≤7*(20*M):=Nat.mul_le_mul_right _ h2
 have e:needP h=needL h ((passesP h.Lace).flatMap (rowsOf W H)):=by
  show needL h (rowsL h)=_
  unfold rowsL
  rw [ho.wn,ho.hn]
 rw [e]
 omega
end Go.Proofs.YtmagnpcgpinmcaaGreat
