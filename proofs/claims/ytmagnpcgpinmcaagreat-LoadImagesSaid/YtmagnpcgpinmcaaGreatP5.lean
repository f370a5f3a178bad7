import Derived.Test.YtmagnpcgpinmcaaGreatP4
import Derived.Test.YtmagnpcgpinmcaaGreatP3
set_option linter.unusedVariables false
set_option linter.unusedVariables false
namespace Go.Proofs.YtmagnpcgpinmcaaGreat
open Go.Vc Go.RowKit
set_option maxRecDepth 400000
section
variable {w:World}
theorem newP_cfg {k:T_keys_Keys} {room:Int} (h:newP k room=0) (hr:room≤100000):CfgOk ⟨k,room.toNat,(needsP k).2⟩:=by
 have h0:¬(room<0∨room>1073741824):=fun hh=>by unfold newP at h;rw [if_pos hh] at h;cases h
 refine ⟨?_,rfl,?_⟩
 ·show newP k ((room.toNat:Nat):Int)=0
  rw [show ((room.toNat:Nat):Int)=room by omega]
  exact h
 ·show room.toNat≤100000
  omega
end
end Go.Proofs.YtmagnpcgpinmcaaGreat
set_option linter.unusedVariables false
namespace Go.Proofs.YtmagnpcgpinmcaaGreat
open Go.Vc Go.RowKit
set_option maxRecDepth 400000
def keyF (z:Int) (f:Int) (W H:Int):T_keys_Keys:=⟨116,100,z,97,0,f,W,H,0,0,0,0,0,0,0,0,0,0,0,0,0,0⟩
theorem needs_keyF {z f:Int} {W H:Nat} (hz:z=0∨z=122) (hf:f=24∨f=32) (h1:1≤W∧W≤20) (h2:1≤H∧H≤20):needsP (keyF z f W H)=(0,f.toNat/8*W*H):=by
 unfold needsP keyF
 dsimp only
 rw [if_neg (by omega),if_neg (by omega),if_neg (by omega),if_neg (by omega)]
 rfl
theorem new_keyF {z f:Int} {W H room:Nat} (hz:z=0∨z=122) (hf:f=24∨f=32) (h1:1≤W∧W≤20) (h2:1≤H∧H≤20) (hr:room≤10000):newP (keyF z f W H) room=if 4*(W*H)≤room then 0 else 6:=by
 unfold newP
 rw [if_neg (by omega),needs_keyF hz hf h1 h2]
 have e:4*(keyF z f W H).W*(keyF z f W H).H=((4*(W*H):Nat):Int):=by
  show 4*(W:Int)*(H:Int)=_
  rw [Int.mul_assoc]
  simp
 have hF:(keyF z f W H).Format≠100:=by show f≠100;omega
 rw [e,if_neg (by simp)]
 by_cases h:4*(W*H)≤room
 ·rw [if_pos h,if_neg (fun hh=>by omega)]
 ·rw [if_neg h,if_pos ⟨hF,by omega⟩]
section
variable {w:World}
end
end Go.Proofs.YtmagnpcgpinmcaaGreat
set_option linter.unusedVariables false
namespace Go.Proofs.YtmagnpcgpinmcaaGreat
open Go.Vc Go.RowKit
set_option maxRecDepth 400000
theorem needs_key100 {z:Int} {W H:Nat} (hz:z=0∨z=122):needsP (keyF z 100 W H)=(0,0):=by
 unfold needsP keyF
 dsimp only
 rw [if_neg (by omega),if_pos rfl]
theorem new_key100 {z:Int} {W H room:Nat} (hz:z=0∨z=122) (hr:room≤10000):newP (keyF z 100 W H) room=0:=by
 unfold newP
 rw [if_neg (by omega),needs_key100 hz,if_neg (by decide),if_neg (fun hh=>hh.1 rfl)]
structure ImOk (z f:Int) (W H:Nat) (bs want:List UInt8):Prop where
 made:madeL ⟨keyF z f W H,8192,(needsP (keyF z f W H)).2⟩ bs=(0,W,H,want)
 room:bs.length≤roomL ⟨keyF z f W H,8192,(needsP (keyF z f W H)).2⟩
 take:z=0→takeE ⟨keyF z f W H,8192,(needsP (keyF z f W H)).2⟩ bs.length=0
 nw:newP (keyF z f W H) 8192=0
theorem im_raw {z f:Int} {W H:Nat} {bs want:List UInt8} (hz:z=0∨z=122) (hf:f=24∧bs.length=3*(W*H)∧fromP 3 (W*H) bs=want∨f=32∧bs.length=4*(W*H)∧fromP 4 (W*H) bs=want) (h1:1≤W∧W≤20) (h2:1≤H∧H≤20):ImOk z f W H bs want:=by
 have hWH:W*H≤20*20:=Nat.mul_le_mul h1.2 h2.2
 have hf':f=24∨f=32:=by rcases hf with h | h;exact .inl h.1;exact .inr h.1
 have hn:(needsP (keyF z f W H)).2=bs.length:=by
  rw [needs_keyF hz hf' h1 h2,Nat.mul_assoc]
  rcases hf with ⟨rfl,h,_⟩ | ⟨rfl,h,_⟩<;>rw [h]<;>rfl
 have h100:f≠100:=by omega
 refine ⟨?_,?_,fun hz0=>?_,?_⟩
 ·unfold madeL
  show (if f=100 then _ else if bs.length<(needsP (keyF z f W H)).2 then _ else if bs.length>(needsP (keyF z f W H)).2 then _ else (0,(W:Int).toNat,(H:Int).toNat,fromP (if f=24 then 3 else 4) ((W:Int).toNat*(H:Int).toNat) bs))=_
  rw [if_neg h100,hn,if_neg (Nat.lt_irrefl _),if_neg (Nat.lt_irrefl _),Int.toNat_natCast,Int.toNat_natCast]
  rcases hf with ⟨rfl,_,h⟩ | ⟨rfl,_,h⟩
  ·rw [if_pos rfl,h]
  ·rw [if_neg (by decide),h]
 ·unfold roomL
  show bs.length≤if f=100 then 8192 else _
  rw [if_neg h100]
  exact Nat.le_of_eq hn.symm
 ·unfold takeE
  show (if bs.length>8192 then 6 else if _∧_∧bs.length>(needsP (keyF z f W H)).2 then 5 else 0)=0
  rw [if_neg (by rcases hf with ⟨_,h,_⟩ | ⟨_,h,_⟩<;>omega),if_neg (fun hh=>by have:=hh.2.2;omega)]
 ·have:=new_keyF (room:=8192) hz hf' h1 h2 (by omega)
  rw [if_pos (by omega)] at this
  exact this
theorem im_png {z:Int} {W H:Nat} {P:List UInt8} {lace:Bool} {kind:Int} (hz:z=0∨z=122) (h1:1≤W∧W≤20) (h2:1≤H∧H≤20) (hl:P.length=4*W*H):ImOk z 100 W H (encodeP W H P lace kind) P:=by
 have hWH:W*H≤20*20:=Nat.mul_le_mul h1.2 h2.2
 have ht:=enc_tiny (W:=W) (H:=H) lace h1.2 h2.2 P kind
 refine ⟨?_,?_,fun hz0=>?_,new_key100 (room:=8192) hz (by omega)⟩
 ·unfold madeL
  show (if (100:Int)=100 then decodeP (encodeP W H P lace kind) ((8192/4:Nat):Int) else _)=_
  rw [if_pos rfl]
  exact decode_enc lace h1.1 (by omega) h2.1 (by omega) hl kind (by omega)
 ·unfold roomL
  show _≤if (100:Int)=100 then 8192 else _
  rw [if_pos rfl]
  omega
 ·unfold takeE
  rw [if_neg (show ¬(encodeP W H P lace kind).length>8192 by omega),if_neg (fun hh=>hh.2.1 rfl)]
theorem take_zip {f:Int} {W H need n:Nat} (h:n≤8192):takeE ⟨keyF 122 f W H,8192,need⟩ n=0:=by
 unfold takeE
 rw [if_neg (show ¬n>8192 by omega),if_neg (fun hh=>absurd (show (122:Int)=0 from hh.1) (by decide))]
section
variable {w:World}
theorem loadimages_law {m:T_api_Matrix} {P:List UInt8} {how:Int} {zip fixed:Bool} {K:Bool→World→Prop} (hP:Rd E_uint8 w m.P P) (hK:∀w',Below w.heap.size w w'→K true w'):c_p20_LoadImages m how zip fixed w K:=by
 refine call_p20_LoadImages _ _ _ _ ?_
 unfold sh_p20_LoadImages
 refine nwb fun w1 hm1 hB1 hs1=>known20_spec fun w2 hB2=>cF rfl (jpO fun J1 hJ1=>?_)
 have hB02:=bT hB1 hB2
 have hm2:=hm1.ext hB2
 refine lI (x:=m.W) (hm2.cells 0 _ rfl) (cO (fun _=>hK w2 hB02) fun c1=>?_)
 refine lI (x:=m.H) (hm2.cells 1 _ rfl) (cO (fun _=>hK w2 hB02) fun c2=>?_)
 refine lI (x:=m.W) (hm2.cells 0 _ rfl) (cO (fun _=>hK w2 hB02) fun c3=>?_)
 refine lI (x:=m.H) (hm2.cells 1 _ rfl) (cO (fun _=>hK w2 hB02) fun c4=>?_)
 have c1:=of_decide_eq_false c1
 have c2:=of_decide_eq_false c2
 have c3:=of_decide_eq_false c3
 have c4:=of_decide_eq_false c4
 obtain ⟨W,hWe⟩:∃W:Nat,m.W=(W:Int):=⟨m.W.toNat,by omega⟩
 obtain ⟨H,hHe⟩:∃H:Nat,m.H=(H:Int):=⟨m.H.toNat,by omega⟩
 have hW:1≤W∧W≤20:=by omega
 have hH:1≤H∧H≤20:=by omega
 have hWH:W*H≤20*20:=Nat.mul_le_mul hW.2 hH.2
 have hWH1:1*1≤W*H:=Nat.mul_le_mul hW.1 hH.1
 have h4:4*W*H=4*(W*H):=Nat.mul_assoc _ _ _
 refine lSl (x:=m.P) (hm2.cells 2 _ rfl) (lI (x:=m.W) (hm2.cells 0 _ rfl) (lI (x:=m.H) (hm2.cells 1 _ rfl) ?_))
 rw [hP.n,hWe,hHe,w64i (x:=(4:Int)*(W:Int)) (by omega),show (4:Int)*(W:Int)*(H:Int)=((4*W*H:Nat):Int) by simp,w64i (by omega)]
 refine cO (fun _=>hK w2 hB02) fun c5=>?_
 have hl:P.length=4*W*H:=by
  rcases Nat.lt_trichotomy P.length (4*W*H) with h | h | h
  ·rw [bneI_t (by omega)] at c5;cases c5
  ·exact h
  ·rw [bneI_t (by omega)] at c5;cases c5
 refine hJ1 _ _ ?_
 clear hJ1
 obtain ⟨mp,hmp⟩:∃mp,mp=m.P:=⟨_,rfl⟩
 have hme:m=⟨(W:Int),(H:Int),mp⟩:=by rw [←hWe,←hHe,hmp]
 rw [←hmp] at hP
 clear hmp
 subst hme
 clear hWe hHe c1 c2 c3 c4 c5
 refine First_spec fun w4 hB4=>nwb fun w5 h5 hB5 hs5=>all_of h5 rfl fun w6 h6 hc6 hs6=>?_
 have hB04:=bT hB02 hB4
 have hB6:Below w.heap.size w w6:=b1o (bT hB04 hB5) hc6 hB04.size
 have s2:=hB02.size
 have s4:=hB4.size
 have s1:w1.heap.size=w.heap.size+1:=hs1
 have s12:=hB2.size
 have hgm:w.heap.size≠w4.heap.size:=by omega
 have hm6:=((hm2.ext hB4).ext hB5).chg hc6 hgm
 refine lI (x:=(W:Int)) (hm6.cells 0 _ rfl) ?_
 rw [add_mk]
 refine stK_blk h6 (by simp [T_keys_Keys.rep]) fun w7 h7 hg7 hs7=>?_
 have hm7:=hm6.chg (Chg.gg hg7) hgm
 refine lI (x:=(H:Int)) (hm7.cells 1 _ rfl) ?_
 rw [add_mk]
 refine stK_blk h7 (by simp [T_keys_Keys.rep,putL]) fun w8 h8 hg8 hs8=>?_
 have hm8:=hm7.chg (Chg.gg hg8) hgm
 have hB8:Below w.heap.size w w8:=b1o hB6 ((Chg.gg hg7).trans (Chg.gg hg8) fun i _ hi=>hi) hB04.size
 have h8:Blk w8 w4.heap.size ty_keys_Keys (T_keys_Keys.rep.cells (keyF 0 32 W H)):=h8
 have hPl:P.length≤1600:=by omega
 refine nwb fun w9 h9 hB9 hs9=>lSl (x:=mp) ((hm8.ext hB9).cells 2 _ rfl) ?_
 have hB09:=bT hB8 hB9
 refine apB (b:=w8.heap.size) (own_empty (E:=E_uint8) h9 (Nat.le_refl _)) (hP.ext hB09) (by omega) (by simp only [List.length_nil];omega) fun t59 w10 ho10 hc10 hq10=>?_
 rw [List.nil_append] at ho10
 have hc10:Chg (fun k=>k=w8.heap.size) w9 w10:=hc10.mono fun i hi e=>(Option.some.inj e).symm
 have hB10:Below w.heap.size w w10:=b1o hB09 hc10 hB8.size
 have s10:=hc10.size
 have s8:=hB8.size
 refine nwb fun w11 h11 hB11 hs11=>?_
 have hm10:=(hm8.ext hB9).chg hc10 (by omega)
 have hk10:=(h8.ext hB9).chg hc10 (by omega)
 refine lSl (x:=mp) ((hm10.ext hB11).cells 2 _ rfl) ?_
 have hB011:=bT hB10 hB11
 refine apB (b:=w10.heap.size) (own_empty (E:=E_uint8) h11 (Nat.le_refl _)) (hP.ext hB011) (by omega) (by simp only [List.length_nil];omega) fun t63 w12 ho12 hc12 hq12=>?_
 rw [List.nil_append] at ho12
 have hc12:Chg (fun k=>k=w10.heap.size) w11 w12:=hc12.mono fun i hi e=>(Option.some.inj e).symm
 have hB12:Below w.heap.size w w12:=b1o hB011 hc12 (by omega)
 have s12':=hc12.size
 have hm12:=(hm10.ext hB11).chg hc12 (by omega)
 have hk12:=(hk10.ext hB11).chg hc12 (by omega)
 have ho10':Go.Vc.Own E_uint8 w12 w.heap.size t59 P:=((ho10.ext hB11).chg hc12 fun k hk=>by have:=(ho10.lt k hk).2;omega).base (by omega)
 refine jpO fun J2 hJ2=>?_
 have key:∀(f:Int) (b:Slc) (bs want:List UInt8) (w13:World),(∀z,z=0∨z=122→ImOk z f W H bs want)→bs.length≤2000→Blk w13 w4.heap.size ty_keys_Keys (T_keys_Keys.rep.cells (keyF 0 f W H))→Blk w13 w.heap.size ty_api_Matrix (T_api_Matrix.rep.cells ⟨(W:Int),(H:Int),mp⟩)→Go.Vc.Own E_uint8 w13 w.heap.size b bs→Go.Vc.Own E_uint8 w13 w.heap.size t63 want→Below w.heap.size w w13→J2 (b,()) w13:=by
  intro f b bs want w13 hI hbl hk13 hm13 hb13 ho13 hB13
  refine hJ2 _ _ ?_
  dsimp only
  refine jpO fun J3 hJ3=>?_
  have s13:=hB13.size
  have key3:∀(z:Int) (b2:Slc) (bs2:List UInt8) (w14:World),(z=0∨z=122)→lastL ⟨keyF z f W H,8192,(needsP (keyF z f W H)).2⟩ bs2=(0,W,H,want)→takeE ⟨keyF z f W H,8192,(needsP (keyF z f W H)).2⟩ bs2.length=0→bs2.length≤2300 →
    Blk w14 w4.heap.size ty_keys_Keys (T_keys_Keys.rep.cells (keyF z f W H))→Blk w14 w.heap.size ty_api_Matrix (T_api_Matrix.rep.cells ⟨(W:Int),(H:Int),mp⟩)→Go.Vc.Own E_uint8 w14 w.heap.size b2 bs2→Go.Vc.Own E_uint8 w14 w.heap.size t63 want→Below w.heap.size w w14→J3 (b2,()) w14:=by
   intro z b2 bs2 w14 hz hlast htake hbl2 hk14 hm14 hb14 ho14 hB14
   refine hJ3 _ _ ?_
   dsimp only
   have hnw:=(hI z hz).nw
   refine ldS_of (r:=T_keys_Keys.rep) (x:=keyF z f W H) hk14.cells ?_
   refine lNew_spec (fun hne=>absurd hnw hne) fun _ g gd w15 hA15 hB15=>?_
   obtain ⟨C,hCe⟩:∃C:LdK,C=⟨keyF z f W H,8192,(needsP (keyF z f W H)).2⟩:=⟨_,rfl⟩
   have hC:CfgOk C:=by
    have:=newP_cfg (room:=8192) hnw (by decide)
    rw [hCe]
    exact this
   have hA15:LdA w15 w14.heap.size g gd C ld0 (fun i=>i=g∨i=gd):=by rw [hCe];exact hA15
   rw [←hCe] at hlast htake
   refine jpO fun J4 hJ4=>cF rfl (cF rfl (hJ4 _ _ ?_))
   refine jpO fun J5 hJ5=>?_
   have s14:=hB14.size
   have s15:=hB15.size
   refine Encode_spec64 (hb14.ext hB15) (by omega) fun t w16 ht16 hB16=>?_
   have s16:=hB16.size
   have hA16:=hA15.ext hB16
   have hel:=encB_len _ bs2 (Nat.le_refl _)
   refine ladd_spec hA16 (by omega) rfl ht16.rd (fun i hi _ hS=>by have:=(ht16.lt i hi).1;have:=(hA15.lt i hS).2;omega) (by simp only [ld0,List.length_nil];omega) fun S17 w17 hA17 ho17 hl17 hS17 hc17=>?_
   have s17:=hc17.size
   have hadd:=addL_enc0 htake
   have hres:=resL_enc htake
   have her:(addL C ld0 (encB bs2)).err=0:=by rw [hadd];rfl
   have hab:(addL C ld0 (encB bs2)).b=bs2:=by rw [hadd]
   rw [her]
   refine cF rfl (lheld_spec hA17 ?_)
   rw [hab,hb14.rd.n]
   refine cF (bneI_f rfl) (hJ5 _ _ ?_)
   refine lEnd_spec hA17 (by omega) hC (by rw [hab];omega) fun x S18 w18 hA18 hx hxS hS18 hc18=>?_
   have s18:=hc18.size
   rw [hres,hlast] at hx ⊢
   obtain ⟨hxW,hxH,hxP⟩:=hx
   have hBn:Below w14.heap.size w14 w18:=by
    have b17:=(bT hB15 hB16).trans (hc17.below (by omega) fun i hi hS=>by have:=(hA16.lt i hS).1;omega)
    exact b17.trans (hc18.below (by omega) fun i hi hS=>by
     rcases hS17 i hS with h | h
     ·have:=(hA16.lt i h).1;omega
     ·omega)
   refine nwb fun w19 h19 hB19 hs19=>all_of h19 rfl fun w20 h20 hc20 hs20=>?_
   have hBn20:Below w18.heap.size w18 w20:=b1o hB19 hc20 (Nat.le_refl _)
   have hB1420:Below w14.heap.size w14 w20:=bT hBn hBn20
   have hm20:=hm14.ext hB1420
   have hxW:x.W=(W:Int):=hxW
   have hxH:x.H=(H:Int):=hxH
   refine cT rfl ?_
   refine lI (x:=x.W) (h20.cells 0 _ rfl) (lI (x:=(W:Int)) (hm20.cells 0 _ rfl) (cT (by rw [hxW];exact beq_self_eq_true _) ?_))
   refine lI (x:=x.H) (h20.cells 1 _ rfl) (lI (x:=(H:Int)) (hm20.cells 1 _ rfl) (cT (by rw [hxH];exact beq_self_eq_true _) ?_))
   refine lSl (x:=x.P) (h20.cells 2 _ rfl) ⟨_,_,run_bytes_strB (hxP.rd.ext hBn20),?_⟩
   refine ⟨_,_,run_bytes_strB (ho14.ext hB1420).rd,?_⟩
   dsimp only
   rw [beq_self_eq_true]
   exact hK w20 (bT hB14 hB1420)
  refine cO (fun _=>?_) fun _=>?_
  ·rw [add_mk]
   refine stK_blk hk13 (by simp [T_keys_Keys.rep]) fun w26 h26 hg26 hs26=>?_
   have hc26:=Chg.gg hg26
   have hb26:Go.Vc.Own E_uint8 w26 w.heap.size b bs:=hb13.chg hc26 fun k hk=>own_ne_blk hb13 hk13 (by decide) k hk
   have ho26:Go.Vc.Own E_uint8 w26 w.heap.size t63 want:=ho13.chg hc26 fun k hk=>own_ne_blk ho13 hk13 (by decide) k hk
   have hm26:=hm13.chg hc26 hgm
   have hB26:Below w.heap.size w w26:=b1o hB13 hc26 hB04.size
   refine Pack_spec hb26.rd (by omega) fun r body w27 hr27 hf1 hf2 hB27=>?_
   have hbd:isBody fixed body bs:=⟨hf1,hf2⟩
   have hsm:=body_small hbd hbl
   exact key3 122 r (packL body bs) w27 (.inr rfl) ((lastL_zip hbd rfl (hI 122 (.inr rfl)).room).trans (hI 122 (.inr rfl)).made) (take_zip (by omega)) hsm (h26.ext hB27) (hm26.ext hB27) (hr27.base hB26.size) (ho26.ext hB27) (bT hB26 hB27)
  ·refine key3 0 b bs w13 (.inl rfl) ?_ ((hI 0 (.inl rfl)).take rfl) (by omega) hk13 hm13 hb13 ho13 hB13
   unfold lastL
   refine (if_neg (fun h=>absurd (show (0:Int)=122 from h) (by decide))).trans ?_
   exact (hI 0 (.inl rfl)).made
 have hl4:P.length=4*(W*H):=by omega
 refine cO (fun _=>?_) fun _=>cO (fun _=>?_) fun _=>?_
 ·rw [add_mk]
  refine stK_blk hk12 (by simp [T_keys_Keys.rep]) fun w28 h28 hg28 hs28=>?_
  have hc28:=Chg.gg hg28
  have hm28:=hm12.chg hc28 hgm
  have ho28:Go.Vc.Own E_uint8 w28 w10.heap.size t63 P:=ho12.chg hc28 fun k hk=>own_ne_blk ho12 hk12 (by decide) k hk
  have hB28:Below w.heap.size w w28:=b1o hB12 hc28 hB04.size
  have h28:Blk w28 w4.heap.size ty_keys_Keys (T_keys_Keys.rep.cells (keyF 0 24 W H)):=h28
  have htb:∀k,t63.blk=some k→w10.heap.size≤k∧k<w28.heap.size:=ho28.lt
  have ho0:Go.Vc.Own E_uint8 w28 w10.heap.size t63 (want4 (P.take (4*0))++P.drop (4*0)):=by simpa [want4] using ho28
  refine lpR (fun (st:Slc×Int×Unit) w29=>∃i:Nat,st.2.1=((4*i:Nat):Int)∧i≤W*H∧Go.Vc.Own E_uint8 w29 w28.heap.size st.1 (rgb4 (P.take (4*i)))∧Go.Vc.Own E_uint8 w29 w10.heap.size t63 (want4 (P.take (4*i))++P.drop (4*i))∧Blk w29 w4.heap.size ty_keys_Keys (T_keys_Keys.rep.cells (keyF 0 24 W H))∧Blk w29 w.heap.size ty_api_Matrix (T_api_Matrix.rep.cells ⟨(W:Int),(H:Int),mp⟩)∧Below w.heap.size w w29∧w28.heap.size≤w29.heap.size) (fun st=>1600-st.2.1.toNat)
   ⟨0,rfl,Nat.zero_le _,by simpa [rgb4] using Own.nil _ _ _,ho0,h28,hm28,hB28,Nat.le_refl _⟩ ?_
  rintro ⟨b,i0,u⟩ w29 ⟨i,hi,hiW,hb29,ho29,hk29,hm29,hB29,hs29⟩ I hI
  dsimp only at hi hb29 ⊢
  subst hi
  refine lSl (x:=mp) (hm29.cells 2 _ rfl) ?_
  rw [hP.n,hl4]
  refine cO (fun e=>?_) fun e=>?_
  ·have e:=of_decide_eq_true e
   have hin:i<W*H:=by omega
   obtain ⟨a,b1,c,d,ga,gb,gc,gd,hrgb,hwant⟩:=px_step hl4 hin
   have hBd:=bdw w29
   have hPd:=hP.ext (bT hB29 hBd)
   have hmd:=hm29.ext hBd
   have rd:∀(j:Nat) (y:UInt8) (K:Addr→Prop),P[4*i+j]?=some y→(∀p,w29.drew.cell? p=some (.int .u8 ((y.toNat:Nat):Int))→K p)→ixK mp (((4*i+j:Nat)):Int) 1 K:=by
    intro j y K hy hk
    have hlt:4*i+j<P.length:=(List.getElem?_eq_some_iff.1 hy).1
    refine hPd.ix (i:=((4*i+j:Nat):Int)) rfl (by omega) (by omega) fun _=>hk _ ?_
    have h5:=hPd.at_ (4*i+j) y hy 0 _ rfl
    rw [Int.toNat_natCast]
    simpa using h5
   rw [w64i (x:=((4*i:Nat):Int)+1) (by omega),w64i (x:=((4*i:Nat):Int)+2) (by omega),w64i (x:=((4*i:Nat):Int)+3) (by omega),w64i (x:=((4*i:Nat):Int)+4) (by omega)]
   refine lSl (x:=mp) (hmd.cells 2 _ rfl) (rd 0 a _ ga fun p0 hp0=>lI (x:=((a.toNat:Nat):Int)) hp0 ?_)
   refine lSl (x:=mp) (hmd.cells 2 _ rfl) ?_
   rw [show ((4*i:Nat):Int)+1=((4*i+1:Nat):Int) by simp]
   refine rd 1 b1 _ gb fun p1 hp1=>lI (x:=((b1.toNat:Nat):Int)) hp1 ?_
   refine lSl (x:=mp) (hmd.cells 2 _ rfl) ?_
   rw [show ((4*i:Nat):Int)+2=((4*i+2:Nat):Int) by simp]
   refine rd 2 c _ gc fun p2 hp2=>lI (x:=((c.toNat:Nat):Int)) hp2 ?_
   have hrl:(rgb4 (P.take (4*i))).length=3*i:=rgb4_len i _ (by rw [List.length_take];omega)
   have hbd:=hb29.ext hBd
   refine nwb fun w30 h30 hB30 hs30=>?_
   have ht94:Rd E_uint8 w30 ⟨some ⟨w29.drew.heap.size,0,none⟩,3,3⟩ [a,b1,c]:=rd_lits (E:=E_uint8) (ys:=[a,b1,c]) h30 (by unfold maxLen;simp) rfl
   refine apB (hbd.ext hB30) ht94 (by have:=hB30.size;have e1:w29.drew.heap.size=w29.heap.size:=rfl;omega) (by rw [hrl];simp only [List.length_cons,List.length_nil];omega) fun t95 w31 ho31 hc31 hq31=>?_
   have hB29d:Below w29.heap.size w29 w30:=bT hBd hB30
   have s30:=hB29d.size
   have s31:=hc31.size
   have hne:∀k,b.blk=some k→w28.heap.size≤k:=fun k hk=>(hb29.lt k hk).1
   have o31:Go.Vc.Own E_uint8 w31 w10.heap.size t63 (want4 (P.take (4*i))++P.drop (4*i)):=(ho29.ext hB29d).chg hc31 fun k hk e=>by have:=hne k e;have:=(htb k hk).2;omega
   have k31:=(hk29.ext hB29d).chg hc31 fun e=>by have:=hne _ e;have:=h28.lt;omega
   have m31:=(hm29.ext hB29d).chg hc31 fun e=>by have:=hne _ e;have:=hm28.lt;omega
   have B31:Below w.heap.size w w31:=(bT hB29 hB29d).trans (hc31.below (by have:=hB29.size;omega) fun j hj e=>by have:=hne j e;have:=hB28.size;omega)
   rw [show ((4*i:Nat):Int)+3=((4*i+3:Nat):Int) by simp]
   have hwl:=want4_len i (P.take (4*i)) (by rw [List.length_take];omega)
   have hlen:(want4 (P.take (4*i))++P.drop (4*i)).length=4*(W*H):=by rw [List.length_append,hwl,List.length_drop];omega
   refine o31.rd.ix (i:=((4*i+3:Nat):Int)) rfl (by omega) (by omega) fun _=>?_
   rw [Int.toNat_natCast]
   have hgt:(want4 (P.take (4*i))++P.drop (4*i))[4*i+3]?=some ((want4 (P.take (4*i))++P.drop (4*i))[4*i+3]'(by omega)):=List.getElem?_eq_getElem _
   refine o31.st0 (y:=255) hgt rfl fun w32 o32 hg32 hs32=>?_
   rw [hwant] at o32
   have hc32:Chg (fun k=>t63.blk=some k) w31 w32:=Chg.of_grown hg32 fun k hk=>hk
   have hbt:∀k,t95.blk=some k→¬t63.blk=some k:=fun k hk e=>by
    have:=(ho31.lt k hk).1
    have:=(htb k e).2
    omega
   refine hI _ _ ⟨i+1,by simp;omega,by omega,?_,o32,k31.chg hc32 fun e=>by have:=(htb _ e).1;omega,m31.chg hc32 fun e=>by have:=(htb _ e).1;omega,B31.trans (hc32.below (by have:=B31.size;omega) fun j hj e=>by have:=(htb j e).1;omega),by omega⟩ (by dsimp only;omega)
   rw [hrgb]
   exact ho31.chg hc32 hbt
  ·have e:=of_decide_eq_false e
   obtain rfl:i=W*H:=by omega
   have et:P.take (4*(W*H))=P:=List.take_of_length_le (by omega)
   have ed:P.drop (4*(W*H))=[]:=List.drop_eq_nil_of_le (by omega)
   rw [et] at hb29 ho29
   rw [ed,List.append_nil] at ho29
   have hrl:=rgb4_len (W*H) P hl4
   exact key 24 b (rgb4 P) (want4 P) w29 (fun z hz=>im_raw hz (.inl ⟨rfl,hrl,from3 (W*H) P hl4⟩) hW hH) (by omega) hk29 hm29 (hb29.base (by have:=hB28.size;omega)) (ho29.base (by omega)) hB29
 ·rw [add_mk]
  refine stK_blk hk12 (by simp [T_keys_Keys.rep]) fun w33 h33 hg33 hs33=>?_
  have hc33:=Chg.gg hg33
  have hm33:=hm12.chg hc33 hgm
  have ho33:Go.Vc.Own E_uint8 w33 w10.heap.size t63 P:=ho12.chg hc33 fun k hk=>own_ne_blk ho12 hk12 (by decide) k hk
  have hB33:Below w.heap.size w w33:=b1o hB12 hc33 hB04.size
  have h33:Blk w33 w4.heap.size ty_keys_Keys (T_keys_Keys.rep.cells (keyF 0 100 W H)):=h33
  refine ldS_of (r:=T_api_Matrix.rep) (x:=⟨(W:Int),(H:Int),mp⟩) hm33.cells ⟨by omega,?_⟩
  refine Encode_spec (hP.ext hB33) hl hW.1 (by omega) hH.1 (by omega) fun t w34 ht34 hB34=>?_
  exact key 100 t _ P w34 (fun z hz=>im_png hz hW hH hl) (enc_tiny _ hW.2 hH.2 P _) (h33.ext hB34) (hm33.ext hB34) (ht34.base hB33.size) ((ho33.ext hB34).base (by omega)) (bT hB33 hB34)
 ·exact key 32 t59 P P w12 (fun z hz=>im_raw hz (.inr ⟨rfl,hl4,from4 (W*H) P hl4⟩) hW hH) (by omega) hk12 hm12 ho10' (ho12.base (by omega)) hB12
end
end Go.Proofs.YtmagnpcgpinmcaaGreat
