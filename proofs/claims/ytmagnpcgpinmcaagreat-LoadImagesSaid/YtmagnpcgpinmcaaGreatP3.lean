import Derived.Test.YtmagnpcgpinmcaaGreatP2
import Derived.Lib.SlBytesConst
set_option linter.unusedVariables false
set_option linter.unusedVariables false
namespace Go.Proofs.YtmagnpcgpinmcaaGreat
open Go.Vc Go.RowKit
set_option maxRecDepth 400000
theorem rdcell {w:World} {s:Slc} {xs:List UInt8} (h:Rd E_uint8 w s xs) {i:Nat} {x:UInt8} (hx:xs[i]?=some x):w.cell? (s.at_ 1 i)=some (.int .u8 (x.toNat:Int)):=by
 have:=h.at_ i x hx 0 _ rfl
 have h2:w.cell? (s.at_ E_uint8.k i)=some (.int .u8 (x.toNat:Int)):=by simpa using this
 exact h2
theorem beqI_t {a b:Int} (h:a=b):(a==b)=true:=by rw [h];exact beq_self_eq_true b
theorem beqI_f {a b:Int} (h:a≠b):(a==b)=false:=by simpa using h
theorem bneI_t {a b:Int} (h:a≠b):(a !=b)=true:=by simpa using h
theorem bneI_f {a b:Int} (h:a=b):(a !=b)=false:=by rw [h];simp
section
variable {w:World}
theorem Samples_spec {color:Int} {K:Int→World→Prop} (hK:K ((samplesOf color:Nat):Int) w):c_png_Samples color w K:=by
 refine call_png_Samples _ ?_
 unfold sh_png_Samples
 refine jpO fun J hJ=>?_
 unfold samplesOf at hK
 have h2:∀b:Bool,(b=true↔color=0∨color=3)→J (b,()) w:=fun b hb=>hJ _ _ (by
  refine cO (fun h=>?_) fun h=>?_
  ·rw [if_pos (hb.1 h)] at hK
   exact hK
  ·rw [if_neg (fun e=>by rw [hb.2 e] at h;cases h)] at hK
   refine cO (fun h=>?_) fun h=>?_
   ·rw [if_pos (by simpa using h)] at hK
    exact hK
   ·rw [if_neg (by simpa using h)] at hK
    refine cO (fun h=>?_) fun h=>?_
    ·rw [if_pos (by simpa using h)] at hK
     exact hK
    ·rw [if_neg (by simpa using h)] at hK
     refine cO (fun h=>?_) fun h=>?_
     ·rw [if_pos (by simpa using h)] at hK
      exact hK
     ·rw [if_neg (by simpa using h)] at hK
      exact hK)
 refine cO (fun h=>h2 _ ?_) fun h=>h2 _ ?_
 ·have h:color=0:=by simpa using h
  simp [h]
 ·have h:color≠0:=by simpa using h
  simp [h]
theorem ContainsI_spec {s:Slc} {zs:List Int} {v:Int} {K:Bool→World→Prop} (hs:Rd E_int w s zs) (hl:zs.length≤1000000) (hK:K (decide (v∈zs)) w):c_slices_Contains_int_int s v w K:=by
 refine call_slices_Contains_int_int _ _ ?_
 unfold sh_slices_Contains_int_int
 refine call_slices_Index_int_int _ _ ?_
 unfold sh_slices_Index_int_int
 rw [hs.n]
 refine lpR (fun (st:Int×Unit) w1=>w1=w∧∃i:Nat,st.1=i∧i≤zs.length∧v ∉ zs.take i) (fun st=>zs.length-st.1.toNat) ⟨rfl,0,rfl,by omega,by simp⟩ ?_
 rintro ⟨i,u⟩ w1 ⟨rfl,m,hi,hm,hno⟩ I hI
 dsimp only at hi ⊢
 subst hi
 by_cases hlt:m<zs.length
 ·refine cT (decide_eq_true (by omega)) ?_
  obtain ⟨z,hz⟩:∃z,zs[m]?=some z:=⟨_,List.getElem?_eq_getElem hlt⟩
  refine hs.ix (i:=(m:Int)) (k:=1) rfl (by omega) (by omega) fun hcell=>?_
  refine lI (x:=z) (hs.at_ m z hz 0 _ rfl) ?_
  refine cO (fun h=>?_) fun h=>?_
  ·have h:v=z:=by simpa using h
   have:decide (v∈zs)=true:=decide_eq_true (h ▸ List.mem_of_getElem? hz)
   rw [this] at hK
   rw [decide_eq_true (by omega)]
   exact hK
  ·have h:v≠z:=by simpa using h
   rw [w64i (by omega)]
   refine hI _ _ ⟨rfl,m+1,rfl,by omega,?_⟩ (by simp;omega)
   rw [List.take_add_one,hz]
   simp [hno,h]
 ·refine cF (decide_eq_false (by omega)) ?_
  obtain rfl:m=zs.length:=by omega
  rw [List.take_length] at hno
  rw [decide_eq_false hno] at hK
  exact hK
def depthsOf (color:Int):List Int:=if color=0 then [1,2,4,8,16] else if color=3 then [1,2,4,8] else [8,16]
theorem depths_ok (h:T_png_Head):decide (h.Depth∈depthsOf h.Color)=depthOk h:=by
 unfold depthsOf depthOk
 by_cases h0:h.Color=0
 ·rw [if_pos h0,decide_eq_decide]
  simp only [List.mem_cons,List.mem_nil_iff,or_false]
  omega
 ·rw [if_neg h0]
  by_cases h3:h.Color=3
  ·rw [if_pos h3,decide_eq_decide]
   simp only [List.mem_cons,List.mem_nil_iff,or_false]
   omega
  ·rw [if_neg h3,decide_eq_decide]
   simp only [List.mem_cons,List.mem_nil_iff,or_false]
   omega
theorem Check_spec {h:T_png_Head} {K:Int→World→Prop} (hK:∀w',Below w.heap.size w w'→K ((checkP h:Nat):Int) w'):c_png_Check h w K:=by
 refine call_png_Check _ ?_
 unfold sh_png_Check
 refine nwb fun w1 h1 hB1 hs1=>?_
 refine jpO fun J1 hJ1=>?_
 unfold checkP at hK
 refine lI (x:=h.W) (h1.cells 0 _ rfl) ?_
 refine cO (fun c1=>?_) fun c1=>?_
 ·have c1:=of_decide_eq_true c1
  rw [if_pos (by omega)] at hK
  exact hK w1 hB1
 have c1:=of_decide_eq_false c1
 refine lI (x:=h.W) (h1.cells 0 _ rfl) ?_
 refine cO (fun c2=>?_) fun c2=>?_
 ·have c2:=of_decide_eq_true c2
  rw [if_pos (by omega)] at hK
  exact hK w1 hB1
 have c2:=of_decide_eq_false c2
 refine lI (x:=h.H) (h1.cells 1 _ rfl) ?_
 refine cO (fun c3=>?_) fun c3=>?_
 ·have c3:=of_decide_eq_true c3
  rw [if_pos (by omega)] at hK
  exact hK w1 hB1
 have c3:=of_decide_eq_false c3
 refine lI (x:=h.H) (h1.cells 1 _ rfl) ?_
 refine cO (fun c4=>?_) fun c4=>?_
 ·have c4:=of_decide_eq_true c4
  rw [if_pos (by omega)] at hK
  exact hK w1 hB1
 have c4:=of_decide_eq_false c4
 rw [if_neg (by omega)] at hK
 refine hJ1 _ _ ?_
 refine nwb fun w3 h3 hB3 hs3=>?_
 have hB13:=bT hB1 hB3
 have h13:=h1.ext hB3
 refine jpO fun J2 hJ2=>?_
 have key:∀(s:Slc) w4,Rd E_int w4 s (depthsOf h.Color)→Below w.heap.size w w4→Below w1.heap.size w1 w4→J2 (s,()) w4:=by
  intro s w4 hs hB hB'
  refine hJ2 _ _ ?_
  have h4:=h1.ext hB'
  refine lI (x:=h.Color) (h4.cells 3 _ rfl) (Samples_spec ?_)
  refine cO (fun e=>?_) fun e=>?_
  ·have e:samplesOf h.Color=0:=by
    have:((samplesOf h.Color:Nat):Int)=0:=by simpa using e
    omega
   rw [if_pos (.inl e)] at hK
   exact hK w4 hB
  have e:samplesOf h.Color≠0:=by
   have:((samplesOf h.Color:Nat):Int)≠0:=by simpa using e
   omega
  refine lI (x:=h.Depth) (h4.cells 2 _ rfl) (ContainsI_spec hs (by unfold depthsOf;split<;>(try split)<;>decide) ?_)
  rw [depths_ok]
  refine cO (fun e2=>?_) fun e2=>?_
  ·have e2:depthOk h=false:=by simpa using e2
   rw [if_pos (.inr (.inl e2))] at hK
   exact hK w4 hB
  have e2:depthOk h=true:=by simpa using e2
  refine lI (x:=h.Lace) (h4.cells 4 _ rfl) ?_
  refine cO (fun e3=>?_) fun e3=>?_
  ·have e3:=of_decide_eq_true e3
   rw [if_pos (.inr (.inr (.inl e3)))] at hK
   exact hK w4 hB
  have e3:=of_decide_eq_false e3
  refine lI (x:=h.Lace) (h4.cells 4 _ rfl) ?_
  refine cO (fun e4=>?_) fun e4=>?_
  ·have e4:=of_decide_eq_true e4
   rw [if_pos (.inr (.inr (.inr e4)))] at hK
   exact hK w4 hB
  have e4:=of_decide_eq_false e4
  rw [if_neg (by rw [e2];simp;omega)] at hK
  exact hK w4 hB
 refine lI (x:=h.Color) (h13.cells 3 _ rfl) ?_
 refine cO (fun e=>?_) fun e=>?_
 ·have e:h.Color=0:=by simpa using e
  refine nwb fun w7 h7 hB7 hs7=>key _ w7 ?_ (bT hB13 hB7) (bT hB3 hB7)
  have:depthsOf h.Color=[1,2,4,8,16]:=by unfold depthsOf;rw [if_pos e]
  rw [this]
  exact rd_lits (E:=E_int) (ys:=[1,2,4,8,16]) h7 (by decide) rfl
 have e:h.Color≠0:=by simpa using e
 refine cO (fun e3=>?_) fun e3=>?_
 ·have e3:h.Color=3:=by simpa using e3
  refine nwb fun w7 h7 hB7 hs7=>key _ w7 ?_ (bT hB13 hB7) (bT hB3 hB7)
  have:depthsOf h.Color=[1,2,4,8]:=by unfold depthsOf;rw [if_neg e,if_pos e3]
  rw [this]
  exact rd_lits (E:=E_int) (ys:=[1,2,4,8]) h7 (by decide) rfl
 ·have e3:h.Color≠3:=by simpa using e3
  refine key _ w3 ?_ hB13 hB3
  have:depthsOf h.Color=[8,16]:=by unfold depthsOf;rw [if_neg e,if_neg e3]
  rw [this]
  exact rd_lits (E:=E_int) (ys:=[8,16]) h3 (by decide) rfl
theorem pHead_spec {x:T_png_Chunk} {c:ChL} {K:T_png_Head→Int→World→Prop} (hx:ChA w x c) (hK:∀w',Below w.heap.size w w'→K (headP c).2 ((headP c).1:Nat) w'):c_png_head x w K:=by
 refine call_png_head _ ?_
 unfold sh_png_head
 refine nwb fun w1 h1 hB1 hs1=>nwb fun w2 h2 hB2 hs2=>?_
 have hB12:=bT hB1 hB2
 have h12:=h1.ext hB2
 have hx2:=hx.ext hB12
 refine lSl (x:=x.Data) (h12.cells 1 _ rfl) ?_
 refine jpO fun J1 hJ1=>jpO fun J2 hJ2=>?_
 have hbad:∀w',Below w2.heap.size w2 w'→∀(n:Nat),headP c=(n,headZ)→stK ⟨w1.heap.size,0,none⟩ [(.int .i64 0),(.int .i64 0),(.int .i64 0),(.int .i64 0),(.int .i64 0)] w' fun w25=>ldS T_png_Head.rep ⟨w1.heap.size,0,none⟩ w25 fun r_6=>K r_6 n w25:=by
  intro w' hB n hn
  rw [hn] at hK
  exact res_of (r:=T_png_Head.rep) (x:=headZ) (h2.ext hB) rfl rfl fun w3 hc hs=>hK w3 (b1o (bT hB12 hB) hc (by omega))
 have hJ2f:(c.kind≠ihdrL∨c.data.length≠13∨c.data[10]?.getD 0≠0∨c.data[11]?.getD 0≠0)→J2 (true,()) w2:=fun h=>hJ2 _ _ (cT rfl (hbad w2 (Below.refl _ _) 3 (by unfold headP;rw [if_pos h])))
 refine ldStr_of (x:=x.Kind) (h12.cells 0 _ rfl) ?_
 rw [hx.kind,strB_toList,show (⟨#[73,72,68,82]⟩:ByteArray)=strB ihdrL from rfl,strB_toList,hx.data.n]
 refine cO (fun e=>?_) fun e=>?_
 ·exact hJ2f (.inl (by simpa using e))
 have e1:c.kind=ihdrL:=by simpa using e
 refine cO (fun e=>?_) fun e=>?_
 ·refine hJ2f (.inr (.inl fun h=>?_))
  rw [h] at e
  cases e
 have e2:c.data.length=13:=by
  have:((c.data.length:Nat):Int)=13:=by simpa using e
  omega
 have gt:∀i,i<13→∃y,c.data[i]?=some y:=fun i hi=>⟨_,List.getElem?_eq_getElem (by omega)⟩
 have rd:∀{i:Nat} {y:UInt8} {w':World} {K:Addr→Prop},Below w.heap.size w w'→i<13→c.data[i]?=some y→K (x.Data.at_ 1 i)→ixK x.Data (i:Int) 1 K:=fun {i y w' K} hB hi hy hk=>by
  refine (hx.data.ext hB).ix (i:=(i:Int)) rfl (by omega) (by omega) fun _=>?_
  exact hk
 obtain ⟨y10,hy10⟩:=gt 10 (by omega)
 obtain ⟨y11,hy11⟩:=gt 11 (by omega)
 refine rd (i:=10) hB12 (by omega) hy10 (lI (rdcell hx2.data hy10) ?_)
 refine cO (fun e=>?_) fun e=>?_
 ·refine hJ2f (.inr (.inr (.inl ?_)))
  rw [hy10]
  intro h
  rw [show y10=0 from h] at e
  simp at e
 have e3:y10=0:=by
  have:((y10.toNat:Nat):Int)=0:=by simpa using e
  exact UInt8.toNat_inj.1 (by simpa using this)
 refine rd (i:=11) hB12 (by omega) hy11 (lI (rdcell hx2.data hy11) ?_)
 by_cases e4:y11≠0
 ·have:(((y11.toNat:Nat):Int) !=0)=true:=by
   refine bneI_t fun h=>e4 (UInt8.toNat_inj.1 ?_)
   have:y11.toNat=0:=by omega
   simpa using this
  rw [this]
  exact hJ2f (.inr (.inr (.inr (by rw [hy11];exact e4))))
 have e4:y11=0:=Classical.not_not.1 e4
 have:(((y11.toNat:Nat):Int) !=0)=false:=by rw [e4];rfl
 rw [this]
 have hg:¬(c.kind≠ihdrL∨c.data.length≠13∨c.data[10]?.getD 0≠0∨c.data[11]?.getD 0≠0):=by
  rw [hy10,hy11,e3,e4]
  simp [e1,e2]
 refine hJ2 _ _ (cF rfl (hJ1 _ _ ?_))
 clear hJ2 hJ1 hJ2f
 obtain ⟨y8,hy8⟩:=gt 8 (by omega)
 obtain ⟨y9,hy9⟩:=gt 9 (by omega)
 obtain ⟨y12,hy12⟩:=gt 12 (by omega)
 have dd:∀{w'},Below w.heap.size w w'→Rd E_uint8 w' x.Data c.data:=fun hB=>hx.data.ext hB
 have hBd:=bT hB12 (bdw w2)
 have hBd2:Below w2.heap.size w2 w2.drew:=bdw w2
 refine hx2.data.slK (l:=4) (m:=13) rfl (.inr rfl) (.inl ⟨rfl,e2.symm⟩) (by omega) (by omega) fun hp=>?_
 rw [List.take_of_length_le (by omega)] at hp
 refine rd (i:=8) hB12 (by omega) hy8 (lI (rdcell (dd hBd) hy8) ?_)
 refine rd (i:=9) hB12 (by omega) hy9 (lI (rdcell (dd hBd) hy9) ?_)
 refine rd (i:=12) hB12 (by omega) hy12 (lI (rdcell (dd hBd) hy12) ?_)
 have hw8:∀y:UInt8,IntKind.i64.wrap ((y.toNat:Nat):Int)=((y.toNat:Nat):Int):=fun y=>w64i (by have:=y.toNat_lt;omega)
 have hwb:∀l:List UInt8,IntKind.i64.wrap ((bigN (l.take 4):Nat):Int)=((bigN (l.take 4):Nat):Int):=fun l=>w64i (by have:=bigN_lt (bs:=l.take 4) (by rw [List.length_take];omega);omega)
 have hH:headOf c.data=⟨(bigN (c.data.take 4):Nat),(bigN ((c.data.drop 4).take 4):Nat),(y8.toNat:Nat),(y9.toNat:Nat),(y12.toNat:Nat)⟩:=by
  unfold headOf
  rw [hy8,hy9,hy12]
  rfl
 rw [hw8,hw8,hw8]
 have tail:∀(g:Nat) (vs:List Value) w6,vs.length=5→w2.heap.size≤g→Below w2.heap.size w2 w6→Blk w6 g ty_png_Head vs →
   stK ⟨g,0,none⟩ [(.int .i64 ((bigN (c.data.take 4):Nat):Int)),(.int .i64 ((bigN ((c.data.drop 4).take 4):Nat):Int)),(.int .i64 ((y8.toNat:Nat):Int)),(.int .i64 ((y9.toNat:Nat):Int)),(.int .i64 ((y12.toNat:Nat):Int))] w6 fun w7 =>
     ldS T_png_Head.rep ⟨g,0,none⟩ w7 fun t50 =>
     c_png_Check t50 w7 fun t51 w8 =>
     cond (t51 !=(0:Int))
      (stK ⟨w1.heap.size,0,none⟩ [(.int .i64 0),(.int .i64 0),(.int .i64 0),(.int .i64 0),(.int .i64 0)] w8 fun w9=>ldS T_png_Head.rep ⟨w1.heap.size,0,none⟩ w9 fun r=>K r t51 w9)
      (ldS T_png_Head.rep ⟨g,0,none⟩ w8 fun t56=>stK ⟨w1.heap.size,0,none⟩ (T_png_Head.rep.cells t56) w8 fun w10=>ldS T_png_Head.rep ⟨w1.heap.size,0,none⟩ w10 fun r_1=>K r_1 0 w10):=by
  intro g vs w6 hvs hg6 hB6 hb6
  refine all_of hb6 hvs.symm fun w7 hb7 hc7 hs7=>?_
  have hb7:Blk w7 g ty_png_Head (T_png_Head.rep.cells (headOf c.data)):=by rw [hH];exact hb7
  have hB7:Below w2.heap.size w2 w7:=b1o hB6 hc7 hg6
  refine ldS_of (r:=T_png_Head.rep) (x:=headOf c.data) hb7.cells ?_
  refine Check_spec fun w8 hB8=>?_
  have hB28:=bT hB7 hB8
  by_cases hz:checkP (headOf c.data)≠0
  ·refine cT (bneI_t (by omega)) ?_
   exact hbad w8 hB28 _ (by unfold headP;rw [if_neg hg,if_pos hz])
  ·have hz:checkP (headOf c.data)=0:=by omega
   rw [hz]
   refine cF rfl ?_
   refine ldS_of (r:=T_png_Head.rep) (x:=headOf c.data) (hb7.ext hB8).cells ?_
   have hh:headP c=(0,headOf c.data):=by unfold headP;rw [if_neg hg,hz,if_neg (by decide)]
   rw [hh] at hK
   exact res_of (r:=T_png_Head.rep) (x:=headOf c.data) (h2.ext hB28) rfl rfl fun w3 hc hs=>hK w3 (b1o (bT hB12 hB28) hc (by omega))
 have hp':∀{w'},Below w2.heap.size w2 w'→Rd E_uint8 w' _ _:=fun hB=>hp.ext hB
 have c8:∀{w'},Below w2.heap.size w2 w'→w'.cell? (x.Data.at_ 1 8)=some (.int .u8 (y8.toNat:Int)):=fun hB=>rdcell (hx2.data.ext hB) hy8
 have c9:∀{w'},Below w2.heap.size w2 w'→w'.cell? (x.Data.at_ 1 9)=some (.int .u8 (y9.toNat:Int)):=fun hB=>rdcell (hx2.data.ext hB) hy9
 have c12:∀{w'},Below w2.heap.size w2 w'→w'.cell? (x.Data.at_ 1 12)=some (.int .u8 (y12.toNat:Int)):=fun hB=>rdcell (hx2.data.ext hB) hy12
 have l4:4≤(c.data.drop 4).length:=by rw [List.length_drop];omega
 refine ⟨?_,?_⟩
 ·refine BigG (hx2.data.ext hBd2) (by omega) ?_
  have hB4:=bT hBd2 (bdw _)
  refine ⟨c12 hB4,c9 hB4,c8 hB4,?_,?_⟩
  ·refine BigG (hp' hB4) l4 ?_
   have hB5:=bT hB4 (bdw _)
   refine ⟨c12 hB5,c9 hB5,c8 hB5,nwb fun w6 hb6 hB6 hs6=>?_⟩
   have hB6':=bT hB5 hB6
   refine ⟨c12 hB6',c9 hB6',c8 hB6',?_⟩
   rw [hwb,hwb]
   exact tail _ _ w6 rfl hB5.size hB6' hb6
  ·refine nwb fun w6 hb6 hB6 hs6=>?_
   have hB6':=bT hB4 hB6
   refine ⟨c12 hB6',c9 hB6',c8 hB6',BigG (hp' hB6') l4 ?_⟩
   have hB7':=bT hB6' (bdw _)
   refine ⟨c12 hB7',c9 hB7',c8 hB7',?_⟩
   rw [hwb,hwb]
   exact tail _ _ _ rfl hB4.size hB7' (hb6.ext (bdw _))
 ·refine nwb fun w6 hb6 hB6 hs6=>?_
  have hB6':=bT hBd2 hB6
  refine ⟨c12 hB6',c9 hB6',c8 hB6',BigG (hx2.data.ext hB6') (by omega) ?_⟩
  have hB7':=bT hB6' (bdw _)
  refine ⟨c12 hB7',c9 hB7',c8 hB7',BigG (hp' hB7') l4 ?_⟩
  have hB8':=bT hB7' (bdw _)
  refine ⟨c12 hB8',c9 hB8',c8 hB8',?_⟩
  rw [hwb,hwb]
  exact tail _ _ _ rfl hBd2.size hB8' ((hb6.ext (bdw _)).ext (bdw _))
end
end Go.Proofs.YtmagnpcgpinmcaaGreat
set_option linter.unusedVariables false
namespace Go.Proofs.YtmagnpcgpinmcaaGreat
open Go.Vc Go.RowKit
set_option maxRecDepth 400000
theorem w8 (y:UInt8):IntKind.i64.wrap ((y.toNat:Nat):Int)=((y.toNat:Nat):Int):=w64i (by have:=y.toNat_lt;omega)
theorem wrap8_add (x y:UInt8):IntKind.u8.wrap ((x.toNat:Int)+(y.toNat:Int))=(((x+y).toNat:Nat):Int):=by
 rw [IntKind.wrap_u8,UInt8.toNat_add]
 omega
theorem wrap8_sub (x y:UInt8):IntKind.u8.wrap ((x.toNat:Int)-(y.toNat:Int))=(((x-y).toNat:Nat):Int):=by
 have hx:=x.toNat_lt
 have hy:=y.toNat_lt
 rw [IntKind.wrap_u8,UInt8.toNat_sub]
 omega
def u8c (x:UInt8):List Value:=[.int .u8 (x.toNat:Int)]
theorem abs_if (z:Int):(if (0-z)>z then (0-z) else z)=(z.natAbs:Int):=by split<;>omega
section
variable {w:World}
theorem Paeth1_spec {a b c x:UInt8} {ga gb gc:Nat} {K:Int→World→Prop} (ha:Blk w ga ty_uint8 (u8c a)) (hb:Blk w gb ty_uint8 (u8c b)) (hc:Blk w gc ty_uint8 (u8c c))
  (hK:K ((((a.toNat:Int)+(b.toNat:Int)-(c.toNat:Int)-(x.toNat:Int)).natAbs:Nat):Int) w):c_filter_Paeth_1 (x.toNat:Int) ⟨ga,0,none⟩ ⟨gb,0,none⟩ ⟨gc,0,none⟩ w K:=by
 refine call_filter_Paeth_1 _ _ _ _ ?_
 unfold sh_filter_Paeth_1
 refine lI (x:=(a.toNat:Int)) (ha.cell 0 rfl) (lI (x:=(b.toNat:Int)) (hb.cell 0 rfl) (lI (x:=(c.toNat:Int)) (hc.cell 0 rfl) ?_))
 have a8:=a.toNat_lt
 have b8:=b.toNat_lt
 have c8:=c.toNat_lt
 have x8:=x.toNat_lt
 rw [w8,w8,w8,w8,w64i (x:=(a.toNat:Int)+(b.toNat:Int)) (by omega),w64i (x:=(a.toNat:Int)+(b.toNat:Int)-(c.toNat:Int)) (by omega),w64i (x:=(a.toNat:Int)+(b.toNat:Int)-(c.toNat:Int)-(x.toNat:Int)) (by omega),
  w64i (x:=0-((a.toNat:Int)+(b.toNat:Int)-(c.toNat:Int)-(x.toNat:Int))) (by omega),abs_if]
 exact hK
theorem Paeth_spec {a b c:UInt8} {K:Int→World→Prop} (hK:∀w',Below w.heap.size w w'→K (((paethP a b c).toNat:Nat):Int) w'):c_filter_Paeth (a.toNat:Int) (b.toNat:Int) (c.toNat:Int) w K:=by
 refine call_filter_Paeth _ _ _ ?_
 unfold sh_filter_Paeth
 refine nwb fun w1 h1 hB1 hs1=>nwb fun w2 h2 hB2 hs2=>nwb fun w3 h3 hB3 hs3=>?_
 have hB13:=bT (bT hB1 hB2) hB3
 have ha:Blk w3 w.heap.size ty_uint8 (u8c a):=(h1.ext hB2).ext hB3
 have hb:Blk w3 w1.heap.size ty_uint8 (u8c b):=h2.ext hB3
 have hc:Blk w3 w2.heap.size ty_uint8 (u8c c):=h3
 have hBd:=bT hB13 (bdw w3)
 have had:=ha.ext (bdw w3)
 have hbd:=hb.ext (bdw w3)
 have hcd:=hc.ext (bdw w3)
 refine jpO fun J1 hJ1=>?_
 refine lI (x:=(a.toNat:Int)) (had.cell 0 rfl) (lI (x:=(b.toNat:Int)) (hbd.cell 0 rfl) ?_)
 obtain ⟨p,hp⟩:∃p:Int,p=(a.toNat:Int)+(b.toNat:Int)-(c.toNat:Int):=⟨_,rfl⟩
 have kB:(¬((p-(a.toNat:Int)).natAbs≤(p-(b.toNat:Int)).natAbs∧(p-(a.toNat:Int)).natAbs≤(p-(c.toNat:Int)).natAbs))→J1 (false,()) w3.drew:=by
  intro hn
  refine hJ1 _ _ (cF rfl ?_)
  have hBd2:=bT hBd (bdw _)
  have had:=had.ext (bdw _)
  have hbd:=hbd.ext (bdw _)
  have hcd:=hcd.ext (bdw _)
  refine lI (x:=(b.toNat:Int)) (hbd.cell 0 rfl) (lI (x:=(c.toNat:Int)) (hcd.cell 0 rfl) ?_)
  refine Paeth1_spec had hbd hcd ⟨hcd.cell 0 rfl,Paeth1_spec had hbd hcd ?_⟩
  rw [←hp]
  refine cO (fun h=>?_) fun h=>?_
  ·have h:=of_decide_eq_true h
   refine lI (x:=(b.toNat:Int)) (hbd.cell 0 rfl) ?_
   have:paethP a b c=b:=by unfold paethP;rw [←hp];dsimp only;rw [if_neg hn,if_pos (by omega)]
   rw [this] at hK
   exact hK _ hBd2
  ·have h:=of_decide_eq_false h
   refine lI (x:=(c.toNat:Int)) (hcd.cell 0 rfl) ?_
   have:paethP a b c=c:=by unfold paethP;rw [←hp];dsimp only;rw [if_neg hn,if_neg (by omega)]
   rw [this] at hK
   exact hK _ hBd2
 refine Paeth1_spec had hbd hcd ⟨hbd.cell 0 rfl,Paeth1_spec had hbd hcd ?_⟩
 rw [←hp]
 refine cO (fun h=>?_) fun h=>?_
 ·have h:=of_decide_eq_true h
  refine lI (x:=(a.toNat:Int)) (had.cell 0 rfl) (lI (x:=(c.toNat:Int)) (hcd.cell 0 rfl) ?_)
  refine Paeth1_spec had hbd hcd ⟨hcd.cell 0 rfl,Paeth1_spec had hbd hcd ?_⟩
  rw [←hp]
  by_cases h2:(p-(a.toNat:Int)).natAbs≤(p-(c.toNat:Int)).natAbs
  ·rw [decide_eq_true (by omega)]
   refine hJ1 _ _ (cT rfl (lI (x:=(a.toNat:Int)) (had.cell 0 rfl) ?_))
   have:paethP a b c=a:=by unfold paethP;rw [←hp];dsimp only;rw [if_pos ⟨by omega,h2⟩]
   rw [this] at hK
   exact hK _ hBd
  ·rw [decide_eq_false (by omega)]
   exact kB fun e=>h2 e.2
 ·have h:=of_decide_eq_false h
  exact kB fun e=>h (by omega)
theorem check_spec {kind step:Int} {row ahead:Slc} {K:Bool→World→Prop} (hK:K (decide (0≤kind∧kind≤4∧1≤step∧step≤8∧(ahead.n=0∨ahead.n=row.n))) w):c_filter_check kind row ahead step w K:=by
 refine call_filter_check _ _ _ _ ?_
 unfold sh_filter_check
 by_cases h1:kind≥0
 ·refine cT (decide_eq_true h1) ?_
  by_cases h2:kind≤4
  ·refine cT (decide_eq_true h2) ?_
   by_cases h3:step≥1
   ·refine cT (decide_eq_true h3) ?_
    by_cases h4:step≤8
    ·refine cT (decide_eq_true h4) ?_
     by_cases h5:ahead.n=0
     ·refine cT (beqI_t (by omega)) ?_
      rw [decide_eq_true ⟨h1,h2,h3,h4,.inl h5⟩] at hK
      exact hK
     ·refine cF (beqI_f (by omega)) ?_
      by_cases h6:ahead.n=row.n
      ·rw [decide_eq_true ⟨h1,h2,h3,h4,.inr h6⟩] at hK
       rw [beqI_t (by omega)]
       exact hK
      ·rw [decide_eq_false (by omega)] at hK
       rw [beqI_f (by omega)]
       exact hK
    ·refine cF (decide_eq_false h4) ?_
     rw [decide_eq_false (by omega)] at hK
     exact hK
   ·refine cF (decide_eq_false h3) ?_
    rw [decide_eq_false (by omega)] at hK
    exact hK
  ·refine cF (decide_eq_false h2) ?_
   rw [decide_eq_false (by omega)] at hK
   exact hK
 ·refine cF (decide_eq_false h1) ?_
  rw [decide_eq_false (by omega)] at hK
  exact hK
theorem guess_spec {kind i step:Nat} {row ahead:Slc} {rs ah:List UInt8} {K:Int→World→Prop} (hr:Rd E_uint8 w row rs) (ha:Rd E_uint8 w ahead ah) (hk:kind≤4) (h1:1≤step) (hil:i<rs.length) (hal:ah=[]∨ah.length=rs.length) (hl:rs.length≤1000000000)
  (hK:∀w',Below w.heap.size w w'→K ((gAt kind rs ah step i).toNat:Nat) w'):c_filter_guess (kind:Int) (i:Int) row ahead (step:Int) w K:=by
 refine call_filter_guess _ _ _ _ _ ?_
 unfold sh_filter_guess
 unfold gAt at hK
 have hp0:¬step≤i→∀l,prevP l i step=0:=fun h l=>by unfold prevP;rw [if_neg h]
 have hp1:step≤i→∀l:List UInt8,∀x,l[i-step]?=some x→prevP l i step=x:=fun h l x hx=>by unfold prevP;rw [if_pos h,hx];rfl
 refine jpO fun J1 hJ1=>?_
 have key:∀a:UInt8,prevP rs i step=a→J1 (((a.toNat:Nat):Int),()) w:=by
  intro a ea
  rw [ea] at hK
  refine hJ1 _ _ (jpO fun J2 hJ2=>?_)
  have key2:∀b c:UInt8,ah[i]?.getD 0=b→prevP ah i step=c→J2 (((b.toNat:Nat):Int),((c.toNat:Nat):Int),()) w:=by
   intro b c eb ec
   rw [eb,ec] at hK
   refine hJ2 _ _ ?_
   dsimp only
   have a8:=a.toNat_lt
   have b8:=b.toNat_lt
   refine cO (fun h=>?_) fun h=>?_
   ·have h:kind=3:=by
                have:(kind:Int)=3:=by simpa using h
                omega
    subst h
    refine ⟨by decide,?_⟩
    have e:IntKind.u8.wrap (IntKind.i64.wrap ((IntKind.i64.wrap ((IntKind.i64.wrap ((a.toNat:Nat):Int))+(IntKind.i64.wrap ((b.toNat:Nat):Int)))).tdiv (2:Int)))=(((UInt8.ofNat ((a.toNat+b.toNat)/2)).toNat:Nat):Int):=by
     rw [w8,w8,show ((a.toNat:Nat):Int)+((b.toNat:Nat):Int)=((a.toNat+b.toNat:Nat):Int) from rfl,w64i (x:=((a.toNat+b.toNat:Nat):Int)) (by omega),show (2:Int)=((2:Nat):Int) from rfl,←Int.ofNat_tdiv,w64i (by omega),wrap8_of]
    rw [e]
    exact hK w (Below.refl _ _)
   have h3:kind≠3:=by
                have:(kind:Int)≠3:=by simpa using h
                omega
   refine cO (fun h=>?_) fun h=>?_
   ·have h:kind=4:=by
                have:(kind:Int)=4:=by simpa using h
                omega
    subst h
    exact Paeth_spec fun w3 hB3=>hK w3 hB3
   have h4:kind≠4:=by
                have:(kind:Int)≠4:=by simpa using h
                omega
   refine cO (fun h=>?_) fun h=>?_
   ·have h:kind=2:=by
                have:(kind:Int)=2:=by simpa using h
                omega
    subst h
    exact hK w (Below.refl _ _)
   have h2:kind≠2:=by
                have:(kind:Int)≠2:=by simpa using h
                omega
   refine cO (fun h=>?_) fun h=>?_
   ·have h:kind=1:=by
                have:(kind:Int)=1:=by simpa using h
                omega
    subst h
    exact hK w (Below.refl _ _)
   have h1:kind≠1:=by
                have:(kind:Int)≠1:=by simpa using h
                omega
   obtain rfl:kind=0:=by omega
   exact hK w (Below.refl _ _)
  rw [ha.n]
  refine cO (fun hlt=>?_) fun hge=>?_
  ·have hlt:=of_decide_eq_true hlt
   obtain ⟨b,hb,hbs⟩:=get_of (xs:=ah) (k:=i) (by omega)
   refine ha.ix (i:=(i:Int)) rfl (by omega) (by omega) fun hcb=>?_
   rw [hbs] at hcb
   refine ldB8 (b:=b) hcb ?_
   refine cO (fun hs=>?_) fun hs=>?_
   ·have hs:=of_decide_eq_true hs
    have e:IntKind.i64.wrap ((i:Int)-(step:Int))=((i-step:Nat):Int):=by rw [w64i (by omega)];omega
    rw [e]
    obtain ⟨c,hc,hcs⟩:=get_of (xs:=ah) (k:=i-step) (by omega)
    refine ha.ix (i:=((i-step:Nat):Int)) rfl (by omega) (by omega) fun hcc=>?_
    rw [hcs] at hcc
    refine ldB8 (b:=c) hcc ?_
    exact key2 b c (by rw [hb];rfl) (hp1 (by omega) _ _ hc)
   ·have hs:=of_decide_eq_false hs
    exact key2 b 0 (by rw [hb];rfl) (hp0 (by omega) _)
  ·have hge:=of_decide_eq_false hge
   have he:ah=[]:=by
    rcases hal with h | h
    ·exact h
    ·exact absurd hil (by omega)
   subst he
   refine key2 0 0 rfl ?_
   unfold prevP
   split<;>rfl
 refine cO (fun hs=>?_) fun hs=>?_
 ·have hs:=of_decide_eq_true hs
  have e:IntKind.i64.wrap ((i:Int)-(step:Int))=((i-step:Nat):Int):=by rw [w64i (by omega)];omega
  rw [e]
  obtain ⟨a,ha',has⟩:=get_of (xs:=rs) (k:=i-step) (by omega)
  refine hr.ix (i:=((i-step:Nat):Int)) rfl (by omega) (by omega) fun hca=>?_
  rw [has] at hca
  refine ldB8 (b:=a) hca ?_
  exact key a (hp1 (by omega) _ _ ha')
 ·have hs:=of_decide_eq_false hs
  exact key 0 (hp0 (by omega) _)
theorem undoP_get (kind:Nat) (row ahead:List UInt8) (step i:Nat) {x:UInt8} (hx:row[i]?=some x) (hs:1≤step):(undoP kind row ahead step)[i]?=some (x+gAt kind (undoP kind row ahead step) ahead step i):=by
 have h:=undoP_step kind row ahead step i hx hs
 have hi:i<row.length:=(List.getElem?_eq_some_iff.1 hx).1
 have h2:((undoP kind row ahead step).take (i+1))[i]?=(undoP kind row ahead step)[i]?:=List.getElem?_take_of_lt (by omega)
 rw [←h2,h,List.getElem?_append_right (by rw [List.length_take];omega),List.length_take,undoP_length,Nat.min_eq_left (by omega),Nat.sub_self]
 rfl
theorem gAt_mix {kind:Nat} {ys xs ah:List UInt8} {step i:Nat} (h:ys.length=xs.length) (hi:i<xs.length) (hs:1≤step):gAt kind (mix ys xs i) ah step i=gAt kind ys ah step i:=by
 unfold gAt
 congr 1
 unfold prevP
 split
 ·rw [mix_get h hi,if_pos (by omega)]
 ·rfl
theorem Undo_spec {kind step:Nat} {row ahead:Slc} {rs ah:List UInt8} {K:Slc→Int→World→Prop} (hr:Rd E_uint8 w row rs) (ha:Rd E_uint8 w ahead ah) (h1:1≤step) (h8:step≤8) (hal:ah=[]∨ah.length=rs.length) (hl:rs.length≤1000000000)
  (hB:4<kind→K ⟨none,0,0⟩ 1 w) (hK:kind≤4→∀r w',Go.Vc.Own E_uint8 w' w.heap.size r (undoP kind rs ah step)→Below w.heap.size w w'→K r 0 w'):c_filter_Undo (kind:Int) row ahead (step:Int) w K:=by
 refine call_filter_Undo _ _ _ _ ?_
 unfold sh_filter_Undo
 refine check_spec ?_
 have hno:ahead.n=0∨ahead.n=row.n:=by
  rw [ha.n,hr.n]
  rcases hal with h | h
  ·left;rw [h];rfl
  ·exact .inr h
 refine cO (fun h=>?_) fun h=>?_
 ·refine hB (Nat.lt_of_not_le fun e=>?_)
  rw [decide_eq_true ⟨by omega,by omega,by omega,by omega,hno⟩] at h
  cases h
 have hk:kind≤4:=by
  by_cases hk:kind≤4
  ·exact hk
  ·rw [decide_eq_false (by omega)] at h
   cases h
 have hK:=hK hk
 obtain ⟨ys,hys⟩:∃ys,ys=undoP kind rs ah step:=⟨_,rfl⟩
 have hyl:ys.length=rs.length:=by rw [hys,undoP_length]
 rw [←hys] at hK
 refine CloneB_spec hr (by omega) fun t w2 ht hB2=>?_
 refine lpR (fun (st:Int×Unit) w3=>∃i:Nat,st.1=i∧i≤rs.length∧Go.Vc.Own E_uint8 w3 w.heap.size t (mix ys rs i)∧Below w.heap.size w w3) (fun st=>rs.length-st.1.toNat) ⟨0,rfl,by omega,by rw [mix_zero];exact ht,hB2⟩ ?_
 rintro ⟨i,u⟩ w3 ⟨i,rfl,hi,hT,hB3⟩ I hI
 dsimp only
 have htn:=hT.rd.n
 rw [mix_length hyl] at htn
 rw [htn]
 refine cO (fun hlt=>?_) fun hge=>?_
 ·have hlt:=of_decide_eq_true hlt
  have hil:i<rs.length:=by omega
  have hml:=mix_length hyl i
  obtain ⟨x,hx,hxs⟩:=get_of (xs:=rs) (k:=i) hil
  have hxm:(mix ys rs i)[i]?=some x:=by rw [mix_get hyl hil,if_neg (by omega)];exact hx
  have ix:∀{w':World} {K:Addr→Prop},Go.Vc.Own E_uint8 w' w.heap.size t (mix ys rs i)→K (t.at_ E_uint8.k i)→ixK t (i:Int) 1 K:=fun {w' K} h hk=>h.rd.ix (i:=(i:Int)) rfl (by omega) (by omega) fun _=>by simpa using hk
  have hTd:=hT.ext (bdw w3)
  refine ix hT (lI (rdcell hTd.rd hxm) ?_)
  have hBd:=bT hB3 (bdw w3)
  refine guess_spec hTd.rd (ha.ext hBd) hk h1 (by omega) (by rw [hml];exact hal) (by omega) fun w4 hB4=>?_
  have hT4:=hTd.ext hB4
  refine ⟨rdcell hT4.rd hxm,ix hT4 ?_⟩
  rw [gAt_mix hyl hil h1,wrap8_add]
  refine hT4.st0 (x:=x) (y:=x+gAt kind ys ah step i) hxm rfl fun w5 hT5 hg5 hs5=>?_
  have hy:ys[i]?=some (x+gAt kind ys ah step i):=by rw [hys];exact undoP_get kind rs ah step i hx h1
  rw [mix_set hyl hil hy] at hT5
  rw [w64i (by omega)]
  refine hI _ _ ⟨i+1,rfl,by omega,hT5,?_⟩ (by simp;omega)
  exact (bT hBd hB4).grown hg5 (bT hBd hB4).size fun k hk=>(hT4.lt k hk).1
 ·have hge:=of_decide_eq_false hge
  obtain rfl:i=rs.length:=by omega
  rw [mix_all hyl] at hT
  exact hK t w3 hT hB3
theorem Do_spec {kind step:Nat} {row ahead:Slc} {rs ah:List UInt8} {K:Slc→Int→World→Prop} (hr:Rd E_uint8 w row rs) (ha:Rd E_uint8 w ahead ah) (hk:kind≤4) (h1:1≤step) (h8:step≤8) (hal:ah=[]∨ah.length=rs.length) (hl:rs.length≤1000000000)
  (hK:∀r w',Go.Vc.Own E_uint8 w' w.heap.size r (doP kind rs ah step)→Below w.heap.size w w'→K r 0 w'):c_filter_Do (kind:Int) row ahead (step:Int) w K:=by
 refine call_filter_Do _ _ _ _ ?_
 unfold sh_filter_Do
 refine check_spec ?_
 have hno:ahead.n=0∨ahead.n=row.n:=by
  rw [ha.n,hr.n]
  rcases hal with h | h
  ·left;rw [h];rfl
  ·exact .inr h
 rw [decide_eq_true ⟨by omega,by omega,by omega,by omega,hno⟩]
 refine cF rfl ?_
 obtain ⟨ys,hys⟩:∃ys,ys=doP kind rs ah step:=⟨_,rfl⟩
 have hyl:ys.length=rs.length:=by rw [hys,doP_length]
 rw [←hys] at hK
 refine CloneB_spec hr (by omega) fun t w2 ht hB2=>?_
 refine lpR (fun (st:Int×Unit) w3=>∃i:Nat,st.1=i∧i≤rs.length∧Go.Vc.Own E_uint8 w3 w.heap.size t (mix ys rs i)∧Below w.heap.size w w3) (fun st=>rs.length-st.1.toNat) ⟨0,rfl,by omega,by rw [mix_zero];exact ht,hB2⟩ ?_
 rintro ⟨i,u⟩ w3 ⟨i,rfl,hi,hT,hB3⟩ I hI
 dsimp only
 have htn:=hT.rd.n
 rw [mix_length hyl] at htn
 rw [htn]
 refine cO (fun hlt=>?_) fun hge=>?_
 ·have hlt:=of_decide_eq_true hlt
  have hil:i<rs.length:=by omega
  have hml:=mix_length hyl i
  obtain ⟨x,hx,hxs⟩:=get_of (xs:=rs) (k:=i) hil
  have hxm:(mix ys rs i)[i]?=some x:=by rw [mix_get hyl hil,if_neg (by omega)];exact hx
  have ix:∀{w':World} {K:Addr→Prop},Go.Vc.Own E_uint8 w' w.heap.size t (mix ys rs i)→K (t.at_ E_uint8.k i)→ixK t (i:Int) 1 K:=fun {w' K} h hk=>h.rd.ix (i:=(i:Int)) rfl (by omega) (by omega) fun _=>by simpa using hk
  have hTd:=hT.ext (bdw w3)
  refine ix hT (lI (rdcell hTd.rd hxm) ?_)
  have hBd:=bT hB3 (bdw w3)
  refine guess_spec (hr.ext hBd) (ha.ext hBd) hk h1 hil hal hl fun w4 hB4=>?_
  have hT4:=hTd.ext hB4
  refine ⟨rdcell hT4.rd hxm,ix hT4 ?_⟩
  rw [wrap8_sub]
  refine hT4.st0 (x:=x) (y:=x-gAt kind rs ah step i) hxm rfl fun w5 hT5 hg5 hs5=>?_
  have hy:ys[i]?=some (x-gAt kind rs ah step i):=by rw [hys];exact doP_get kind rs ah step i hx
  rw [mix_set hyl hil hy] at hT5
  rw [w64i (by omega)]
  refine hI _ _ ⟨i+1,rfl,by omega,hT5,?_⟩ (by simp;omega)
  exact (bT hBd hB4).grown hg5 (bT hBd hB4).size fun k hk=>(hT4.lt k hk).1
 ·have hge:=of_decide_eq_false hge
  obtain rfl:i=rs.length:=by omega
  rw [mix_all hyl] at hT
  exact hK t w3 hT hB3
theorem isDepth_spec {n:Int} {K:Bool→World→Prop} (hK:K (isDepthP n) w):c_filter_isDepth n w K:=by
 refine call_filter_isDepth _ ?_
 unfold sh_filter_isDepth
 unfold isDepthP at hK
 refine cO (fun h=>?_) fun h=>?_
 ·rw [eq_of_beq h] at hK
  exact hK
 have h1:n≠1:=by simpa using h
 refine cO (fun h=>?_) fun h=>?_
 ·rw [eq_of_beq h] at hK
  exact hK
 have h2:n≠2:=by simpa using h
 refine cO (fun h=>?_) fun h=>?_
 ·rw [eq_of_beq h] at hK
  exact hK
 have h4:n≠4:=by simpa using h
 refine cO (fun h=>?_) fun h=>?_
 ·rw [eq_of_beq h] at hK
  exact hK
 have h8:n≠8:=by simpa using h
 rw [decide_eq_false h1,decide_eq_false h2,decide_eq_false h4,decide_eq_false h8] at hK
 have e:(n==(16:Int))=decide (n=16):=by rw [Bool.eq_iff_iff];simp
 rw [e]
 exact hK
theorem Row_spec {wx samples depth:Int} {K:Int→World→Prop} (hK:K ((rowP wx samples depth:Nat):Int) w):c_filter_Row wx samples depth w K:=by
 refine call_filter_Row _ _ _ ?_
 unfold sh_filter_Row
 unfold rowP at hK
 refine jpO fun J hJ=>?_
 refine cO (fun h=>?_) fun h=>?_
 ·rw [if_pos (.inl (of_decide_eq_true h))] at hK;exact hK
 have h1:=of_decide_eq_false h
 refine cO (fun h=>?_) fun h=>?_
 ·rw [if_pos (.inr (.inl (of_decide_eq_true h)))] at hK;exact hK
 have h2:=of_decide_eq_false h
 refine cO (fun h=>?_) fun h=>?_
 ·rw [if_pos (.inr (.inr (.inl (of_decide_eq_true h))))] at hK;exact hK
 have h3:=of_decide_eq_false h
 refine cO (fun h=>?_) fun h=>?_
 ·rw [if_pos (.inr (.inr (.inr (.inl (of_decide_eq_true h)))))] at hK;exact hK
 have h4:=of_decide_eq_false h
 refine isDepth_spec ?_
 cases hd:isDepthP depth with
 | false =>
  rw [if_pos (.inr (.inr (.inr (.inr hd))))] at hK
  exact cT rfl hK
 | true =>
  rw [if_neg (by rw [hd];simp;omega)] at hK
  refine cF rfl (hJ _ _ ⟨by decide,?_⟩)
  have hdp:1≤depth∧depth≤16:=by
   unfold isDepthP at hd
   simp at hd
   omega
  have a1:0≤wx*samples:=Int.mul_nonneg (by omega) (by omega)
  have a2:wx*samples≤16384*4:=Int.mul_le_mul (by omega) (by omega) (by omega) (by omega)
  have a3:0≤wx*samples*depth:=Int.mul_nonneg a1 (by omega)
  have a4:wx*samples*depth≤16384*4*16:=Int.mul_le_mul a2 (by omega) (by omega) (by omega)
  rw [w64i (x:=wx*samples) (by omega),w64i (x:=wx*samples*depth) (by omega),w64i (x:=wx*samples*depth+7) (by omega),Int.tdiv_eq_ediv_of_nonneg (by omega),w64i (by omega)]
  have e:(((wx*samples*depth+7)/8).toNat:Int)=(wx*samples*depth+7)/8:=by omega
  rw [e] at hK
  exact hK
def passT (p:PassP):T_q8_Pass:=⟨p.x,p.y,p.dx,p.dy⟩
theorem isSide_spec {n:Nat} {K:Bool→World→Prop} (h1:1≤n) (h2:n≤16384) (hK:K true w):c_filter_isSide (n:Int) w K:=by
 refine call_filter_isSide _ ?_
 unfold sh_filter_isSide
 refine cT (decide_eq_true (by omega)) ?_
 rw [decide_eq_true (by omega)]
 exact hK
theorem Size_spec {p:PassP} {W H:Nat} {K:Int→Int→World→Prop} (hW1:1≤W) (hW2:W≤16384) (hH1:1≤H) (hH2:H≤16384) (hdx:1≤p.dx) (hdy:1≤p.dy)
  (hK:∀w',Below w.heap.size w w'→K ((sizeP p W H).1:Nat) ((sizeP p W H).2:Nat) w'):c_filter_Size (passT p) (W:Int) (H:Int) w K:=by
 refine call_filter_Size _ _ _ ?_
 unfold sh_filter_Size
 refine nwb fun w1 h1 hB1 hs1=>?_
 refine jpO fun J hJ=>?_
 refine isSide_spec hW1 hW2 (cF rfl (isSide_spec hH1 hH2 (cF rfl ?_)))
 unfold sizeP at hK
 refine lI (x:=(p.x:Int)) (h1.cells 0 _ rfl) (cF (decide_eq_false (by omega)) ?_)
 refine lI (x:=(p.y:Int)) (h1.cells 1 _ rfl) (cF (decide_eq_false (by omega)) ?_)
 refine lI (x:=(p.dx:Int)) (h1.cells 2 _ rfl) (cF (decide_eq_false (by omega)) ?_)
 refine lI (x:=(p.dy:Int)) (h1.cells 3 _ rfl) (cF (decide_eq_false (by omega)) ?_)
 refine lI (x:=(p.x:Int)) (h1.cells 0 _ rfl) ?_
 refine cO (fun h=>?_) fun h=>?_
 ·have h:=of_decide_eq_true h
  rw [if_pos (.inl (by omega))] at hK
  exact hK w1 hB1
 have hx:=of_decide_eq_false h
 refine lI (x:=(p.y:Int)) (h1.cells 1 _ rfl) ?_
 refine cO (fun h=>?_) fun h=>?_
 ·have h:=of_decide_eq_true h
  rw [if_pos (.inr (by omega))] at hK
  exact hK w1 hB1
 have hy:=of_decide_eq_false h
 rw [if_neg (by omega)] at hK
 refine ldS_of (r:=T_q8_Pass.rep) (x:=passT p) h1.cells ?_
 have hz:(((passT p).X==(0:Int)) && (((passT p).Y==(0:Int)) && (((passT p).DX==(0:Int)) && (((passT p).DY==(0:Int)) && true))))=false:=by
  have:((passT p).DX==(0:Int))=false:=beqI_f (by show (p.dx:Int)≠0;omega)
  rw [this]
  simp
 refine cF hz (hJ _ _ ?_)
 have hd:=h1.ext (bdw w1)
 refine lI (x:=(p.x:Int)) (hd.cells 0 _ rfl) (lI (x:=(p.dx:Int)) (hd.cells 2 _ rfl) ⟨by omega,?_⟩)
 refine lI (x:=(p.y:Int)) (hd.cells 1 _ rfl) (lI (x:=(p.dy:Int)) (hd.cells 3 _ rfl) ⟨by omega,?_⟩)
 have e:∀(n a d:Nat),n≤16384→a<n→1≤d→IntKind.i64.wrap ((IntKind.i64.wrap ((IntKind.i64.wrap ((IntKind.i64.wrap ((n:Int)-(a:Int)))-(1:Int))).tdiv (d:Int)))+(1:Int))=(((n-a-1)/d+1:Nat):Int):=by
  intro n a d hn ha hd
  rw [w64i (x:=(n:Int)-(a:Int)) (by omega),w64i (x:=(n:Int)-(a:Int)-1) (by omega),show (n:Int)-(a:Int)-1=((n-a-1:Nat):Int) by omega,←Int.ofNat_tdiv]
  have:(n-a-1)/d≤n-a-1:=Nat.div_le_self _ _
  generalize (n-a-1)/d=q at this ⊢
  rw [w64i (x:=(q:Int)) (by omega),w64i (by omega)]
  rfl
 rw [e W p.x p.dx hW2 (by omega) hdx,e H p.y p.dy hH2 (by omega) hdy]
 exact hK _ (bT hB1 (bdw w1))
theorem deep_small {d i:Nat} (h:d=1∨d=2∨d=4∨d=8):i*d%8+d≤8:=by
 rcases h with rfl | rfl | rfl | rfl<;>omega
def intsN (l:List Nat):List Int:=l.map fun (v:Nat)=>(v:Int)
theorem ints_length (l:List Nat):(intsN l).length=l.length:=by simp [intsN]
theorem ints_get (l:List Nat) (i:Nat):(intsN l)[i]?=(l[i]?).map fun (v:Nat)=>(v:Int):=by simp [intsN]
theorem FSamples_spec {row:Slc} {rs:List UInt8} {d n:Nat} {K:Slc→Int→World→Prop} (hr:Rd E_uint8 w row rs) (hd:d=1∨d=2∨d=4∨d=8∨d=16) (hn:n*d≤8*rs.length) (hl:rs.length≤1000000000)
  (hK:∀r w',Go.Vc.Own E_int w' w.heap.size r (intsN (samplesP rs d n))→Below w.heap.size w w'→K r 0 w'):c_filter_Samples row (d:Int) (n:Int) w K:=by
 refine call_filter_Samples _ _ _ ?_
 unfold sh_filter_Samples
 have hd1:1≤d∧d≤16:=by omega
 have hnl:n≤8*rs.length:=Nat.le_trans (Nat.le_mul_of_pos_right n (by omega)) hn
 have hdP:isDepthP (d:Int)=true:=by
  unfold isDepthP
  rcases hd with rfl | rfl | rfl | rfl | rfl<;>rfl
 refine jpO fun J1 hJ1=>jpO fun J3 hJ3=>?_
 refine isDepth_spec ?_
 rw [hdP]
 refine cF rfl ?_
 rw [decide_eq_false (by omega)]
 refine hJ3 _ _ (cF rfl ⟨by omega,?_⟩)
 rw [hr.n]
 have e1:IntKind.i64.wrap ((IntKind.i64.wrap ((8:Int)*((rs.length:Nat):Int))).tdiv (d:Int))=((8*rs.length/d:Nat):Int):=by
  rw [w64i (x:=(8:Int)*((rs.length:Nat):Int)) (by omega),show (8:Int)*((rs.length:Nat):Int)=((8*rs.length:Nat):Int) by simp,←Int.ofNat_tdiv]
  have:8*rs.length/d≤8*rs.length:=Nat.div_le_self _ _
  generalize 8*rs.length/d=q at this ⊢
  rw [w64i (by omega)]
 rw [e1]
 have hle:n≤8*rs.length/d:=(Nat.le_div_iff_mul_le (by omega)).2 hn
 refine cF (decide_eq_false (by omega)) (hJ1 _ _ ?_)
 clear hJ1 hJ3
 obtain ⟨ys,hys⟩:∃ys,ys=intsN (samplesP rs d n):=⟨_,rfl⟩
 have hyl:ys.length=n:=by rw [hys,ints_length];simp [samplesP]
 have hyg:∀i,i<n→ys[i]?=some ((sampleN rs d i:Nat):Int):=fun i hi=>by
  rw [hys,ints_get]
  simp [samplesP,hi]
 rw [←hys] at hK
 have hyl':ys.length=(List.replicate n (0:Int)).length:=by rw [List.length_replicate];exact hyl
 have hml:∀i,(mix ys (List.replicate n 0) i).length=n:=fun i=>by rw [mix_length hyl',List.length_replicate]
 refine mkSl_of sT_sl_int (x0:=(0:Int)) rfl (n:=n) rfl rfl (by rw [by_sl_int];omega) (by unfold maxLen;omega) fun w2 hT0 hB2=>?_
 obtain ⟨t,ht⟩:∃t:Slc,t=⟨some ⟨w.heap.size,0,none⟩,n,n⟩:=⟨_,rfl⟩
 rw [←ht] at hT0 ⊢
 have htn:t.n=n:=by rw [ht]
 refine lpR (fun (st:Int×Unit) w3=>∃i:Nat,st.1=i∧i≤n∧Go.Vc.Own E_int w3 w.heap.size t (mix ys (List.replicate n 0) i)∧Below w.heap.size w w3) (fun st=>n-st.1.toNat) ⟨0,rfl,by omega,by rw [mix_zero];exact hT0,hB2⟩ ?_
 rintro ⟨i,u⟩ w3 ⟨i,rfl,hi,hT,hB3⟩ I hI
 dsimp only
 rw [htn]
 refine cO (fun hlt=>?_) fun hge=>?_
 ·have hlt:=of_decide_eq_true hlt
  have hil:i<n:=by omega
  have hBd:=bT hB3 (bdw w3)
  have hr3:=hr.ext hB3
  have hrd:=hr.ext hBd
  have hTd:=hT.ext (bdw w3)
  have hzi:(mix ys (List.replicate n 0) i)[i]?=some (0:Int):=by rw [mix_get hyl' (by simpa using hil),if_neg (by omega)];simp [hil]
  have hid:i*d<n*d:=Nat.mul_lt_mul_of_pos_right hil (by omega)
  have st:∀v:Int,v=((sampleN rs d i:Nat):Int)→ixK t (i:Int) 1 fun t53=>stK t53 [.int .i64 v] w3.drew fun w4=>I ((IntKind.i64.wrap ((i:Int)+(1:Int))),()) w4:=by
   intro v hv
   refine hTd.rd.ix (i:=(i:Int)) rfl (by omega) (by rw [hml];omega) fun _=>?_
   refine hTd.st0 (x:=(0:Int)) (y:=v) (by simpa using hzi) rfl fun w4 hT4 hg4 hs4=>?_
   rw [Int.toNat_natCast,hv,mix_set hyl' (by simpa using hil) (hyg i hil)] at hT4
   rw [w64i (by omega)]
   refine hI _ _ ⟨i+1,rfl,by omega,hT4,?_⟩ (by simp;omega)
   exact hBd.grown hg4 hBd.size fun k hk=>(hTd.lt k hk).1
  refine cO (fun h16=>?_) fun h16=>?_
  ·have h16:d=16:=by
    have:=eq_of_beq h16
    omega
   subst h16
   obtain ⟨x,hx,hxs⟩:=get_of (xs:=rs) (k:=2*i) (by omega)
   obtain ⟨y,hy,hys'⟩:=get_of (xs:=rs) (k:=2*i+1) (by omega)
   have x8:=x.toNat_lt
   have y8:=y.toNat_lt
   have ei:IntKind.i64.wrap ((2:Int)*(i:Int))=((2*i:Nat):Int):=by rw [w64i (by omega)];simp
   have ei1:IntKind.i64.wrap ((((2*i:Nat)):Int)+(1:Int))=((2*i+1:Nat):Int):=by rw [w64i (by omega)];rfl
   rw [ei,ei1]
   refine hr3.ix (i:=((2*i:Nat):Int)) rfl (by omega) (by omega) fun _=>?_
   refine lI (x:=(x.toNat:Int)) (by rw [Int.toNat_natCast];exact rdcell hrd hx) ⟨by decide,?_⟩
   refine hr3.ix (i:=((2*i+1:Nat):Int)) rfl (by omega) (by omega) fun _=>?_
   refine lI (x:=(y.toNat:Int)) (by rw [Int.toNat_natCast];exact rdcell hrd hy) (st _ ?_)
   rw [w8,w8,show min ((8:Int)).toNat IntKind.i64.bits=8 by decide,mul_pow_nat,wrap_nat .i64 (x:=x.toNat*2^8) (by show _<2^63;omega),bits_or .i64 (by show _<2^63;omega) (by show _<2^63;omega)]
   have e:x.toNat*2^8 ||| y.toNat=x.toNat*256+y.toNat:=by
    rw [Nat.or_comm,Nat.mul_comm,add_or (by omega)]
    omega
   rw [e]
   unfold sampleN
   rw [if_pos rfl,hx,hy]
   rfl
  ·have h16:d≠16:=by
    intro h
    rw [h] at h16
    cases h16
   have hd':d=1∨d=2∨d=4∨d=8:=by omega
   have hsm:=deep_small (i:=i) hd'
   refine ⟨by decide,?_⟩
   have ei:IntKind.i64.wrap ((i:Int)*(d:Int))=((i*d:Nat):Int):=by
    have:i*d≤n*d:=by omega
    rw [show (i:Int)*(d:Int)=((i*d:Nat):Int) by simp,w64i (by omega)]
   have e8:IntKind.i64.wrap ((((i*d:Nat)):Int).tdiv (8:Int))=((i*d/8:Nat):Int):=by
    rw [show (8:Int)=((8:Nat):Int) from rfl,←Int.ofNat_tdiv,w64i (by omega)]
   have em:(((i*d:Nat)):Int).tmod (8:Int)=((i*d%8:Nat):Int):=by
    rw [show (8:Int)=((8:Nat):Int) from rfl,Int.ofNat_tmod]
   rw [ei,e8,em]
   obtain ⟨x,hx,hxs⟩:=get_of (xs:=rs) (k:=i*d/8) (by omega)
   have x8:=x.toNat_lt
   refine hr3.ix (i:=((i*d/8:Nat):Int)) rfl (by omega) (by omega) fun _=>?_
   refine lI (x:=(x.toNat:Int)) (by rw [Int.toNat_natCast];exact rdcell hrd hx) ?_
   have esh:IntKind.i64.wrap ((IntKind.i64.wrap ((8:Int)-(d:Int)))-((i*d%8:Nat):Int))=((8-d-i*d%8:Nat):Int):=by
    rw [w64i (x:=(8:Int)-(d:Int)) (by omega),w64i (by omega)]
    omega
   rw [esh]
   refine ⟨by decide,by omega,by omega,st _ ?_⟩
   rw [w8,show min (((8-d-i*d%8:Nat):Int)).toNat IntKind.i64.bits=8-d-i*d%8 by rw [Int.toNat_natCast];show min _ 64=_;omega,show min ((d:Int)).toNat IntKind.i64.bits=d by rw [Int.toNat_natCast];show min _ 64=_;omega,fdiv_nat,Int.one_mul]
   have hpd:(2:Nat)^d≤2^8:=Nat.pow_le_pow_right (by decide) (by omega)
   have hp0:0<(2:Nat)^d:=Nat.pow_pos (by decide)
   rw [show (2:Int)^d=((2^d:Nat):Int) by simp,w64i (x:=((2^d:Nat):Int)) (by omega),show ((2^d:Nat):Int)-1=((2^d-1:Nat):Int) by omega,w64i (by omega)]
   have hxd:x.toNat/2^(8-d-i*d%8)≤x.toNat:=Nat.div_le_self _ _
   rw [bits_and .i64 (by show _<2^63;omega) (by show _<2^63;omega),Nat.and_two_pow_sub_one_eq_mod]
   unfold sampleN
   rw [if_neg h16,hx]
   rfl
 ·have hge:=of_decide_eq_false hge
  obtain rfl:i=n:=by omega
  have:=mix_all hyl'
  rw [List.length_replicate] at this
  rw [this] at hT
  exact hK t w3 hT hB3
end
end Go.Proofs.YtmagnpcgpinmcaaGreat
set_option linter.unusedVariables false
namespace Go.Proofs.YtmagnpcgpinmcaaGreat
open Go.Vc Go.RowKit
set_option maxRecDepth 400000
def bcells (l:List UInt8):List Value:=l.map fun b=>Value.int .u8 (b.toNat:Int)
theorem bcells_flat (l:List UInt8):flat E_uint8 l=bcells l:=by
 unfold flat bcells
 induction l with
 | nil=>rfl
 | cons x r ih=>rw [List.flatMap_cons,ih];rfl
theorem bcells_length (l:List UInt8):(bcells l).length=l.length:=by simp [bcells]
theorem bcells_oneB (l:List UInt8):∀v∈bcells l,oneB v=true:=by
 intro v hv
 unfold bcells at hv
 obtain ⟨b,_,rfl⟩:=List.mem_map.1 hv
 rfl
theorem load_bytes {w:World} {a:Addr} {l:List UInt8} (h:∀(i:Nat) x,l[i]?=some x→w.cell? (a.add i)=some (.int .u8 (x.toNat:Int))):(loadCells a l.length).run PG w=.ok (bcells l).toArray w:=by
 have:=run_loadCells_list (P:=PG) w a (bcells l) (fun j v hj=>by
  unfold bcells at hj
  rw [List.getElem?_map] at hj
  cases hb:l[j]? with
  | none=>rw [hb] at hj;cases hj
  | some b =>
   rw [hb] at hj
   cases hj
   exact h j b hb)
 rwa [bcells_length] at this
theorem copyB {w:World} {g o dn dc n:Nat} {t:TypeId} {cur:List Value} {x:Slc} {ys:List UInt8} {K:Int→World→Prop} (hb:Blk w g t cur) (hx:Rd E_uint8 w x ys) (hn:n=min ys.length dn) (hf:o+n≤cur.length)
  (hK:∀w',Blk w' g t (putL cur o (bcells (ys.take n)))→Chg (fun k=>k=g) w w'→w'.heap.size=w.heap.size→K (n:Int) w') :
  runK1 PG (Builtin.copy_ #[ty_sl_uint8,ty_sl_uint8] ty_int #[.slice (some ⟨g,o,none⟩) dn dc,.slice x.a x.n x.c]) (Kind.int .i64) w K:=by
 have htl:(ys.take n).length=n:=by rw [List.length_take];omega
 have hst:(storeCells ⟨g,o,none⟩ (bcells (ys.take n)) 0).run PG w=.ok () (wr w ⟨g,o,none⟩ (bcells (ys.take n))) :=
  run_storeCells_wr (bcells (ys.take n)) 0 w (bcells_oneB _) (fun j hj=>by
   rw [bcells_length,htl] at hj
   rw [Nat.zero_add,add_mk]
   refine ⟨⟨cur[o+j]'(by omega),hb.cell (o+j) (List.getElem?_eq_getElem (by omega))⟩,hb.frozen _⟩)
 refine ⟨(n:Int),wr w ⟨g,o,none⟩ (bcells (ys.take n)),?_,hK _ (wr_blk hb) (Chg.gg (wr_grown w ⟨g,o,none⟩ _)) (size_wr _ _ _)⟩
 have hu:PG.underlying ty_sl_uint8=some (.slice ty_uint8):=by kernel_rfl
 have hi:=sT_sl_uint8.hi
 have hs:sT_sl_uint8.i.size=1:=sT_sl_uint8.hs
 have hi':PG.info? ty_uint8=some sT_sl_uint8.i:=hi
 have hxn:=hx.n
 have hmin:Nat.min ys.length dn=n:=hn.symm
 cases ha:x.a with
 | none =>
  have hy:=hx.none_nil ha
  subst hy
  have hn0:n=0:=by rw [hn];simp
  subst hn0
  simp [Builtin.copy_,run_underlying hu,Builtin.lenOf,Builtin.firstCells,sizeOf,typeInfo,hi',hxn,storeCells,wr,wrFrom,bcells,Kind.enc,goInt]
 | some a =>
  have hload:=load_bytes (w:=w) (a:=a) (l:=ys.take n) (fun i y hy=>by
   have hi2:i<n:=by rw [←htl];exact (List.getElem?_eq_some_iff.1 hy).1
   rw [List.getElem?_take_of_lt hi2] at hy
   have:=rdcell hx hy
   simp only [Slc.at_,ha,Option.getD_some,Nat.mul_one] at this
   exact this)
  rw [htl] at hload
  simp [Builtin.copy_,run_underlying hu,Builtin.lenOf,Builtin.firstCells,sizeOf,typeInfo,hi',hs,hxn,hmin,hload,hst,Kind.enc,goInt]
theorem copyS {w:World} {g o dn dc n:Nat} {t:TypeId} {cur:List Value} {ys:List UInt8} {K:Int→World→Prop} (hb:Blk w g t cur) (hn:n=min ys.length dn) (hf:o+n≤cur.length)
  (hK:∀w',Blk w' g t (putL cur o (bcells (ys.take n)))→Chg (fun k=>k=g) w w'→w'.heap.size=w.heap.size→K (n:Int) w') :
  runK1 PG (Builtin.copy_ #[ty_sl_uint8,ty_string] ty_int #[.slice (some ⟨g,o,none⟩) dn dc,.string (strB ys)]) (Kind.int .i64) w K:=by
 have htl:(ys.take n).length=n:=by rw [List.length_take];omega
 have hst:(storeCells ⟨g,o,none⟩ (bcells (ys.take n)) 0).run PG w=.ok () (wr w ⟨g,o,none⟩ (bcells (ys.take n))) :=
  run_storeCells_wr (bcells (ys.take n)) 0 w (bcells_oneB _) (fun j hj=>by
   rw [bcells_length,htl] at hj
   rw [Nat.zero_add,add_mk]
   refine ⟨⟨cur[o+j]'(by omega),hb.cell (o+j) (List.getElem?_eq_getElem (by omega))⟩,hb.frozen _⟩)
 refine ⟨(n:Int),wr w ⟨g,o,none⟩ (bcells (ys.take n)),?_,hK _ (wr_blk hb) (Chg.gg (wr_grown w ⟨g,o,none⟩ _)) (size_wr _ _ _)⟩
 have hu:PG.underlying ty_sl_uint8=some (.slice ty_uint8):=by kernel_rfl
 have hi:=sT_sl_uint8.hi
 have hs:sT_sl_uint8.i.size=1:=sT_sl_uint8.hs
 have hi':PG.info? ty_uint8=some sT_sl_uint8.i:=hi
 have hsz:(strB ys).size=ys.length:=by show ys.toArray.size=_;simp
 have hmin:Nat.min ys.length dn=n:=hn.symm
 have hex:List.take n (List.map (fun b=>Value.int .u8 (b.toNat:Int)) (strB ys).data.toList)=bcells (ys.take n):=by
  show List.take n (List.map (fun b=>Value.int .u8 (b.toNat:Int)) ys)=_
  unfold bcells
  rw [List.map_take]
 simp [Builtin.copy_,run_underlying hu,Builtin.lenOf,Builtin.firstCells,sizeOf,typeInfo,hi',hsz,hmin,Kind.enc,goInt]
 rw [hex,hst]
 simp
theorem own_cur {w:World} {b g c:Nat} {xs:List UInt8} {s:Slc} (h:Go.Vc.Own E_uint8 w b s xs) (hs:s.a=some ⟨g,0,none⟩):∃cur,Blk w g ty_uint8 cur∧cur.length=s.c∧cur.take xs.length=bcells xs∧xs.length≤s.c∧s.c≤maxLen∧b≤g∧s.n=xs.length:=by
 rcases h.form with ⟨rfl,rfl⟩ | ⟨g',cur,e,hg,hb,h1,h2,h3,h4⟩
 ·cases hs
 ·rw [e] at hs
  have hg':g'=g:=congrArg Addr.block (Option.some.inj hs)
  subst hg'
  refine ⟨cur,hb,by rw [h3];exact Nat.mul_one _,?_,h1,h2,hg,by rw [e]⟩
  rw [←bcells_flat,←h4]
  show _=cur.take (xs.length*1)
  rw [Nat.mul_one]
theorem own_put {w w':World} {b g:Nat} {xs ys:List UInt8} {s:Slc} {cur:List Value} {k:Nat} (h:Go.Vc.Own E_uint8 w b s xs) (hs:s.a=some ⟨g,0,none⟩) (hc:Blk w g ty_uint8 cur) (hk:k+ys.length≤xs.length) (hw:Blk w' g ty_uint8 (putL cur k (bcells ys))) :
  Go.Vc.Own E_uint8 w' b s (xs.take k++ys++xs.drop (k+ys.length)):=by
 obtain ⟨cur',hb,hl,ht,h1,h2,h3,h4⟩:=own_cur (c:=0) h hs
 have e:cur'=cur:=by
  unfold Blk at hb hc
  rw [hb] at hc
  injection hc with hc
  injection hc with hc _ _
  simpa using hc
 subst e
 have hlen:(xs.take k++ys++xs.drop (k+ys.length)).length=xs.length:=by simp;omega
 obtain ⟨a,n,c⟩:=s
 dsimp only at hs hl h1 h2 h4
 subst hs h4
 have:=Go.Vc.Own.of_blk (E:=E_uint8) (xs:=xs.take k++ys++xs.drop (k+ys.length)) (c:=c) h3 hw (by omega) h2 (by rw [putL_length,hl];exact (Nat.mul_one _).symm) (by
  rw [bcells_flat,hlen]
  show (putL cur' k (bcells ys)).take (xs.length*1)=_
  rw [Nat.mul_one]
  refine List.ext_getElem? fun m=>?_
  by_cases hm:m<xs.length
  ·rw [List.getElem?_take_of_lt hm,putL_get _ _ _ _ (by rw [bcells_length];omega),bcells_length]
   have hcm:cur'[m]?=(bcells xs)[m]?:=by rw [←ht,List.getElem?_take_of_lt hm]
   have hbm:∀l:List UInt8,(bcells l)[m]?=(l[m]?).map fun b=>Value.int .u8 (b.toNat:Int):=fun l=>by unfold bcells;rw [List.getElem?_map]
   by_cases hin:k≤m∧m<k+ys.length
   ·rw [if_pos hin,hbm,List.append_assoc,List.getElem?_append_right (by rw [List.length_take];omega),List.length_take,Nat.min_eq_left (by omega),List.getElem?_append_left (by omega)]
    unfold bcells
    rw [List.getElem?_map]
   ·rw [if_neg hin,hcm,hbm,hbm]
    congr 1
    by_cases hmk:m<k
    ·rw [List.append_assoc,List.getElem?_append_left (by rw [List.length_take];omega),List.getElem?_take_of_lt hmk]
    ·rw [List.append_assoc,List.getElem?_append_right (by rw [List.length_take];omega),List.length_take,Nat.min_eq_left (by omega),List.getElem?_append_right (by omega),List.getElem?_drop]
     congr 1
     omega
  ·rw [List.getElem?_eq_none (by rw [List.length_take];omega),List.getElem?_eq_none (by rw [bcells_length];omega)])
 rw [hlen] at this
 exact this
def E_pass:El T_q8_Pass where
 cells:=T_q8_Pass.rep.cells
 t:=ty_filter_Pass
 k:=4
 pos:=by decide
 len _:=rfl
 one x v hv:=by
  simp only [T_q8_Pass.rep,List.mem_cons,List.mem_nil_iff,or_false] at hv
  rcases hv with rfl | rfl | rfl | rfl<;>rfl
def passTs (lace:Int):List T_q8_Pass:=(passesP lace).map passT
theorem passes_dx (lace:Int):∀p∈passesP lace,1≤p.dx∧1≤p.dy∧p.x≤4∧p.y≤4∧p.dx≤8∧p.dy≤8:=by
 unfold passesP
 split
 ·simp [passesL]
 ·simp [onePass]
theorem passes_len (lace:Int):(passesP lace).length≤7:=by
 unfold passesP
 split<;>decide
structure HeadOk (h:T_png_Head) (W H:Nat):Prop where
 w:h.W=W
 h:h.H=H
 w1:1≤W
 w2:W≤16384
 h1:1≤H
 h2:H≤16384
theorem HeadOk.wn {h:T_png_Head} {W H:Nat} (o:HeadOk h W H):h.W.toNat=W:=by rw [o.w];rfl
theorem HeadOk.hn {h:T_png_Head} {W H:Nat} (o:HeadOk h W H):h.H.toNat=H:=by rw [o.h];rfl
theorem sizeP_le (p:PassP) (W H:Nat):(sizeP p W H).1≤W∧(sizeP p W H).2≤H:=by
 unfold sizeP
 split
 ·exact ⟨by omega,by omega⟩
 ·have h1:(W-p.x-1)/p.dx≤W-p.x-1:=Nat.div_le_self _ _
  have h2:(H-p.y-1)/p.dy≤H-p.y-1:=Nat.div_le_self _ _
  exact ⟨by dsimp only;omega,by dsimp only;omega⟩
theorem rowsOf_length (W H:Nat) (p:PassP):(rowsOf W H p).length=(sizeP p W H).2:=by simp [rowsOf]
theorem rowsOf_split (W H:Nat) (p:PassP) {y:Nat} (hy:y<(sizeP p W H).2):rowsOf W H p=(rowsOf W H p).take y++(p,y,(sizeP p W H).1)::(rowsOf W H p).drop (y+1):=by
 have hl:=rowsOf_length W H p
 have e:(rowsOf W H p)[y]'(by omega)=(p,y,(sizeP p W H).1):=by simp [rowsOf]
 rw [←e,←List.drop_eq_getElem_cons,List.take_append_drop]
theorem rowsOf_take_succ (W H:Nat) (p:PassP) {y:Nat} (hy:y<(sizeP p W H).2):(rowsOf W H p).take (y+1)=(rowsOf W H p).take y++[(p,y,(sizeP p W H).1)]:=by
 have hl:=rowsOf_length W H p
 rw [List.take_succ_eq_append_getElem (by omega)]
 simp [rowsOf]
def KeepT (w w':World):Prop:=∀(k:Nat) t cs,(t=ty_filter_Pass∨t=ty_png_Head)→Blk w k t cs→Blk w' k t cs
section
variable {w:World}
theorem Passes_spec {K:Slc→World→Prop} (hK:∀(g:Nat) w',Blk w' g ty_filter_Pass (flat E_pass (passTs 1))→Below w.heap.size w w'→w.heap.size≤g→K ⟨some ⟨g,0,none⟩,7,7⟩ w'):c_filter_Passes w K:=by
 refine call_filter_Passes ?_
 unfold sh_filter_Passes
 exact nwb fun w1 h1 hB1 hs1=>hK _ w1 h1 hB1 (Nat.le_refl _)
theorem passes_spec {h:T_png_Head} {K:Slc→World→Prop} (hK:∀(g n:Nat) w',Blk w' g ty_filter_Pass (flat E_pass (passTs h.Lace))→n=(passTs h.Lace).length→Below w.heap.size w w'→w.heap.size≤g→K ⟨some ⟨g,0,none⟩,n,n⟩ w'):c_png_Head_passes h w K:=by
 refine call_png_Head_passes _ ?_
 unfold sh_png_Head_passes
 refine nwb fun w1 h1 hB1 hs1=>?_
 refine lI (x:=h.Lace) (h1.cells 4 _ rfl) ?_
 refine cO (fun e=>?_) fun e=>?_
 ·have e:h.Lace=1:=eq_of_beq e
  rw [e] at hK
  exact Passes_spec fun g w2 h2 hB2 hg=>hK g 7 w2 h2 rfl (bT hB1 hB2) (by have:=hB1.size;omega)
 ·have e:h.Lace≠1:=by simpa using e
  have hp:passTs h.Lace=[⟨0,0,1,1⟩]:=by unfold passTs passesP;rw [if_neg e];rfl
  rw [hp] at hK
  exact nwb fun w2 h2 hB2 hs2=>hK _ 1 w2 h2 rfl (bT hB1 hB2) hB1.size
theorem rows_spec {h:T_png_Head} {W H:Nat} (ho:HeadOk h W H) {f:Value} {K:Bool→World→Prop} (Inv:List (PassP×Nat×Nat)→World→Prop) (Bad:World→Prop)
  (h0:Inv [] w) (hI:∀L w1 w2,Inv L w1→Below w1.heap.size w1 w2→Inv L w2)
  (step:∀L r R w1,rowsL h=L++r::R→Inv L w1→w.heap.size≤w1.heap.size→∀J:Bool→World→Prop,(∀w2,Inv (L++[r]) w2→KeepT w1 w2→w1.heap.size≤w2.heap.size→J true w2)→(∀w2,Bad w2→J false w2) →
   callR C f [(.agg #[(.int .i64 (passT r.1).X),(.int .i64 (passT r.1).Y),(.int .i64 (passT r.1).DX),(.int .i64 (passT r.1).DY)]),(.int .i64 (r.2.1:Int)),(.int .i64 (r.2.2:Int))] [Kind.bool] w1 J)
  (hK1:∀w1,Inv (rowsL h) w1→K true w1) (hK0:∀w1,Bad w1→K false w1):c_png_Head_rows h f w K:=by
 refine call_png_Head_rows _ _ ?_
 unfold sh_png_Head_rows
 refine nwb fun w1 hb1 hB1 hs1=>?_
 refine ldS_of (r:=T_png_Head.rep) (x:=h) hb1.cells ?_
 refine passes_spec fun g n w2 hg hn hB2 hgl=>?_
 have hb2:=hb1.ext hB2
 have hs2:=hB2.size
 obtain ⟨ps,hps⟩:∃ps,ps=passesP h.Lace:=⟨_,rfl⟩
 have hpT:passTs h.Lace=ps.map passT:=by rw [hps];rfl
 have hnl:n=ps.length:=by rw [hn,hpT,List.length_map]
 rw [hpT] at hg
 have hrows:rowsL h=ps.flatMap (rowsOf W H):=by unfold rowsL;rw [ho.wn,ho.hn,←hps]
 have hpl:ps.length≤7:=by rw [hps];exact passes_len _
 have hdx:=passes_dx h.Lace
 rw [←hps] at hdx
 dsimp only
 refine lpR (fun (s:Int×Unit) w3=>∃i:Nat,s.1=i∧i≤ps.length∧Inv ((ps.take i).flatMap (rowsOf W H)) w3∧Blk w3 w.heap.size ty_png_Head (T_png_Head.rep.cells h)∧Blk w3 g ty_filter_Pass (flat E_pass (ps.map passT))∧w.heap.size≤w3.heap.size) (fun s=>ps.length-s.1.toNat)
  ⟨0,rfl,by omega,hI _ _ _ h0 (bT hB1 hB2),hb2,hg,by omega⟩ ?_
 rintro ⟨i,u⟩ w3 ⟨i,rfl,hi,hInv,hb3,hg3,hs3⟩ I hIl
 dsimp only
 rw [hnl]
 refine cO (fun hlt=>?_) fun hge=>?_
 ·have hlt:=of_decide_eq_true hlt
  have hil:i<ps.length:=by omega
  obtain ⟨p,hp⟩:∃p,ps[i]?=some p:=⟨_,List.getElem?_eq_getElem hil⟩
  have hpd:=hdx p (List.mem_of_getElem? hp)
  have hrd:Rd E_pass w3 ⟨some ⟨g,0,none⟩,(ps.map passT).length,(ps.map passT).length⟩ (ps.map passT):=rd_lits (E:=E_pass) hg3 (by rw [List.length_map];unfold maxLen;omega) rfl
  rw [List.length_map] at hrd
  have hpT':(ps.map passT)[i]?=some (passT p):=by rw [List.getElem?_map,hp];rfl
  refine hrd.ix (i:=(i:Int)) (k:=4) rfl (by omega) (by rw [List.length_map];omega) fun _=>?_
  refine ldS_of (r:=T_q8_Pass.rep) (x:=passT p) (hrd.at_ i _ hpT') ?_
  refine nwb fun w4 hb4 hB4 hs4=>?_
  refine all_of hb4 rfl fun w5 hb5 hc5 hs5=>?_
  have hB35:Below w3.heap.size w3 w5:=b1o hB4 hc5 (Nat.le_refl _)
  refine ldS_of (r:=T_q8_Pass.rep) (x:=passT p) hb5.cells ?_
  have hb35:=hb3.ext hB35
  refine lI (x:=(W:Int)) (by have:=hb35.cells 0 _ rfl;rw [ho.w] at this;exact this) (lI (x:=(H:Int)) (by have:=hb35.cells 1 _ rfl;rw [ho.h] at this;exact this) ?_)
  refine Size_spec ho.w1 ho.w2 ho.h1 ho.h2 hpd.1 hpd.2.1 fun w6 hB6=>?_
  have hB36:=bT hB35 hB6
  have hsz:=sizeP_le p W H
  have hH2:=ho.h2
  refine lpR (fun (s:Int×Unit) w7=>∃y:Nat,s.1=y∧y≤(sizeP p W H).2∧Inv ((ps.take i).flatMap (rowsOf W H)++(rowsOf W H p).take y) w7∧Blk w7 w.heap.size ty_png_Head (T_png_Head.rep.cells h)∧Blk w7 g ty_filter_Pass (flat E_pass (ps.map passT))∧Blk w7 w3.heap.size ty_filter_Pass (T_q8_Pass.rep.cells (passT p))∧w.heap.size≤w7.heap.size) (fun s=>(sizeP p W H).2-s.1.toNat)
   ⟨0,rfl,by omega,by rw [List.take_zero,List.append_nil];exact hI _ _ _ hInv hB36,hb3.ext hB36,hg3.ext hB36,hb5.ext hB6,by have:=hB36.size;omega⟩ ?_
  rintro ⟨y,u⟩ w7 ⟨y,rfl,hy,hInv7,hb7,hg7,hp7,hs7⟩ I2 hI2
  dsimp only
  refine cO (fun hlt2=>?_) fun hge2=>?_
  ·have hlt2:=of_decide_eq_true hlt2
   have hyl:y<(sizeP p W H).2:=by omega
   refine ldS_of (r:=T_q8_Pass.rep) (x:=passT p) hp7.cells ?_
   have hsplit:rowsL h=((ps.take i).flatMap (rowsOf W H)++(rowsOf W H p).take y)++(p,y,(sizeP p W H).1)::((rowsOf W H p).drop (y+1)++(ps.drop (i+1)).flatMap (rowsOf W H)):=by
    have e:ps=ps.take i++p::ps.drop (i+1):=by
     rw [List.getElem?_eq_getElem hil] at hp
     rw [←Option.some.inj hp,←List.drop_eq_getElem_cons hil,List.take_append_drop]
    conv=>lhs;rw [hrows,e,List.flatMap_append,List.flatMap_cons,rowsOf_split W H p hyl]
    simp [List.append_assoc]
   refine step _ _ _ w7 hsplit hInv7 hs7 _ (fun w8 h8 hk8 hs8=>?_) (fun w8 h8=>cT rfl (hK0 w8 h8))
   refine cF rfl ?_
   rw [w64i (by omega)]
   refine hI2 _ _ ⟨y+1,rfl,by omega,?_,hk8 _ _ _ (.inr rfl) hb7,hk8 _ _ _ (.inl rfl) hg7,hk8 _ _ _ (.inl rfl) hp7,by omega⟩ (by simp;omega)
   rw [rowsOf_take_succ W H p hyl,←List.append_assoc]
   exact h8
  ·have hge2:=of_decide_eq_false hge2
   obtain rfl:y=(sizeP p W H).2:=by omega
   rw [w64i (by omega)]
   refine hIl _ _ ⟨i+1,rfl,by omega,?_,hb7,hg7,hs7⟩ (by simp;omega)
   rw [List.take_add_one,hp,List.flatMap_append]
   rw [List.take_of_length_le (show (rowsOf W H p).length≤(sizeP p W H).2 by rw [rowsOf_length];exact Nat.le_refl _)] at hInv7
   simpa using hInv7
 ·have hge:=of_decide_eq_false hge
  obtain rfl:i=ps.length:=by omega
  rw [List.take_length,←hrows] at hInv
  exact hK1 w3 hInv
end
end Go.Proofs.YtmagnpcgpinmcaaGreat
set_option linter.unusedVariables false
namespace Go.Proofs.YtmagnpcgpinmcaaGreat
open Go.Vc Go.RowKit
set_option maxRecDepth 400000
def fCells (F:FilL) (p t d:Slc):List Value:=T_png_file.rep.cells ⟨F.h,p,t,F.hasP,F.hasT,d,F.hasD,F.wasD⟩
structure FilA (w:World) (g b:Nat) (F:FilL) (p t d:Slc):Prop where
 blk:Blk w g ty_png_file (fCells F p t d)
 pal:Rd E_uint8 w p F.pal
 tr:Rd E_uint8 w t F.tr
 data:Go.Vc.Own E_uint8 w b d F.data
 pb:∀k,p.blk=some k→k<b
 tb:∀k,t.blk=some k→k<b
theorem FilA.ext {w w':World} {g b:Nat} {F:FilL} {p t d:Slc} (h:FilA w g b F p t d) (hB:Below w.heap.size w w'):FilA w' g b F p t d:=⟨h.blk.ext hB,h.pal.ext hB,h.tr.ext hB,h.data.ext hB,h.pb,h.tb⟩
structure ColOk (h:T_png_Head):Prop where
 c:h.Color=0∨h.Color=2∨h.Color=3∨h.Color=4∨h.Color=6
 d:h.Depth=1∨h.Depth=2∨h.Depth=4∨h.Depth=8∨h.Depth=16
theorem checkP_ok {h:T_png_Head} (hc:checkP h=0):(∃W H,HeadOk h W H)∧ColOk h:=by
 unfold checkP at hc
 split at hc
 ·cases hc
 ·rename_i h1
  split at hc
  ·cases hc
  ·rename_i h2
   refine ⟨⟨h.W.toNat,h.H.toNat,by omega,by omega,by omega,by omega,by omega,by omega⟩,?_,?_⟩
   ·have hs:samplesOf h.Color≠0:=fun e=>h2 (.inl e)
    unfold samplesOf at hs
    by_cases h0:h.Color=0∨h.Color=3
    ·omega
    ·rw [if_neg h0] at hs
     by_cases h22:h.Color=2
     ·omega
     ·rw [if_neg h22] at hs
      by_cases h4:h.Color=4
      ·omega
      ·rw [if_neg h4] at hs
       by_cases h6:h.Color=6
       ·omega
       ·rw [if_neg h6] at hs
        exact absurd rfl hs
   ·have hd:depthOk h=true:=by
     cases e:depthOk h with
     | true=>rfl
     | false=>exact absurd (.inr (.inl e)) h2
    unfold depthOk at hd
    have:=of_decide_eq_true hd
    omega
structure FilOk (F:FilL):Prop where
 hd:checkP F.h=0
 tr:F.hasT=true→F.h.Color=0∧F.tr.length=2∨F.h.Color=2∧F.tr.length=6∨F.h.Color=3
 pal:F.pal.length%3=0
theorem takeP_ok {F:FilL} {c:ChL} (h:FilOk F) (h0:(takeP F c).1=0):FilOk (takeP F c).2∧(takeP F c).2.h=F.h:=by
 unfold takeP at h0 ⊢
 by_cases h1:c.kind=ihdrL
 ·rw [if_pos h1] at h0;cases h0
 rw [if_neg h1] at h0 ⊢
 by_cases h2:c.kind=plteL
 ·rw [if_pos h2] at h0 ⊢
  cases hp:plteOk F c.data with
  | false=>rw [hp] at h0;cases h0
  | true =>
   unfold plteOk at hp
   simp only [Bool.not_eq_true',Bool.or_eq_false_iff,decide_eq_false_iff_not] at hp
   exact ⟨⟨h.hd,h.tr,by show c.data.length%3=0;omega⟩,rfl⟩
 rw [if_neg h2] at h0 ⊢
 by_cases h3:c.kind=trnsL
 ·rw [if_pos h3] at h0 ⊢
  cases hp:trnsOk F c.data with
  | false=>rw [hp] at h0;cases h0
  | true =>
   refine ⟨⟨h.hd,fun _=>?_,h.pal⟩,rfl⟩
   unfold trnsOk at hp
   simp only [Bool.and_eq_true] at hp
   have hp:=hp.2
   show F.h.Color=0∧c.data.length=2∨F.h.Color=2∧c.data.length=6∨F.h.Color=3
   by_cases e0:F.h.Color=0
   ·rw [if_pos e0] at hp;exact .inl ⟨e0,of_decide_eq_true hp⟩
   ·rw [if_neg e0] at hp
    by_cases e2:F.h.Color=2
    ·rw [if_pos e2] at hp;exact .inr (.inl ⟨e2,of_decide_eq_true hp⟩)
    ·rw [if_neg e2] at hp
     by_cases e3:F.h.Color=3
     ·exact .inr (.inr e3)
     ·rw [if_neg e3] at hp;cases hp
 rw [if_neg h3] at h0 ⊢
 by_cases h4:c.kind=idatL
 ·rw [if_pos h4] at h0 ⊢
  split
  ·exact ⟨⟨h.hd,h.tr,h.pal⟩,rfl⟩
  ·rename_i hn;rw [if_neg hn] at h0;cases h0
 rw [if_neg h4] at h0 ⊢
 by_cases h5:c.kind=iendL
 ·rw [if_pos h5] at h0 ⊢
  split
  ·exact ⟨⟨h.hd,h.tr,h.pal⟩,rfl⟩
  ·rename_i hn;rw [if_neg hn] at h0;cases h0
 rw [if_neg h5] at h0 ⊢
 split
 ·rename_i hn;rw [if_pos hn] at h0;cases h0
 ·exact ⟨⟨h.hd,h.tr,h.pal⟩,rfl⟩
section
variable {w:World} {g b:Nat} {F:FilL} {p t d:Slc}
theorem colors_spec (h:FilA w g b F p t d) (hc:ColOk F.h) {x:Slc} {ds:List UInt8} (hx:Rd E_uint8 w x ds) (hxb:∀k,x.blk=some k→k<b) (hbg:b≤g) (hl:ds.length≤1000000000) {K:Bool→World→Prop}
  (hN:plteOk F ds=false→K false w) (hY:plteOk F ds=true→∀w',FilA w' g b { F with pal:=ds,hasP:=true } x t d→Chg (fun k=>k=g) w w'→K true w'):c_png_file_colors (some ⟨g,0,none⟩) x w K:=by
 refine call_png_file_colors _ _ ?_
 unfold sh_png_file_colors
 simp only [onPtr_some]
 refine ⟨by decide,jpO fun J hJ=>?_⟩
 unfold plteOk at hN hY
 refine ldB_of (x:=F.hasP) (h.blk.cells 7 _ rfl) ?_
 refine cO (fun e=>hN (by rw [e];rfl)) fun e1=>?_
 refine ldB_of (x:=F.hasD) (h.blk.cells 10 _ rfl) ?_
 refine cO (fun e=>hN (by rw [e];simp)) fun e2=>?_
 refine lI (x:=F.h.Color) (by rw [add_zero];exact h.blk.cells 3 _ rfl) ?_
 refine cO (fun e=>hN (by rw [eq_of_beq e];simp)) fun e3=>?_
 have e3:F.h.Color≠0:=by simpa using e3
 refine lI (x:=F.h.Color) (by rw [add_zero];exact h.blk.cells 3 _ rfl) ?_
 refine cO (fun e=>hN (by rw [eq_of_beq e];simp)) fun e4=>⟨by decide,?_⟩
 have e4:F.h.Color≠4:=by simpa using e4
 rw [hx.n,show (3:Int)=((3:Nat):Int) from rfl,←Int.ofNat_tmod,←Int.ofNat_tdiv,w64i (x:=((ds.length/3:Nat):Int)) (by omega)]
 refine cO (fun e=>hN ?_) fun e5=>?_
 ·have e:ds.length%3≠0:=fun h=>by rw [h] at e;cases e
  rw [decide_eq_true e];simp
 have e5:ds.length%3=0:=by
  rcases Nat.eq_zero_or_pos (ds.length%3) with h | h
  ·exact h
  ·rw [bneI_t (by omega)] at e5;cases e5
 refine cO (fun e=>hN ?_) fun e6=>?_
 ·have e:=of_decide_eq_true e
  rw [decide_eq_true (show ds.length/3<1 by omega)];simp
 have e6:=of_decide_eq_false e6
 refine cO (fun e=>hN ?_) fun e7=>?_
 ·have e:=of_decide_eq_true e
  rw [decide_eq_true (show ds.length/3>256 by omega)];simp
 have e7:=of_decide_eq_false e7
 have hgo:(F.h.Color=3→¬ds.length/3>2^F.h.Depth.toNat)→J () w:=by
  intro e8
  have hall:(!(F.hasP || F.hasD || decide (F.h.Color=0) || decide (F.h.Color=4) || decide (ds.length%3≠0) || decide (ds.length/3<1) || decide (ds.length/3>256) || (decide (F.h.Color=3) && decide (ds.length/3>2^F.h.Depth.toNat))))=true:=by
   rw [e1,e2,decide_eq_false e3,decide_eq_false e4,decide_eq_false (show ¬ds.length%3≠0 by omega),decide_eq_false (show ¬ds.length/3<1 by omega),decide_eq_false (show ¬ds.length/3>256 by omega)]
   by_cases e:F.h.Color=3
   ·rw [decide_eq_false (e8 e)];simp
   ·rw [decide_eq_false e];simp
  refine hJ _ _ ?_
  rw [add_mk]
  refine stK_blk h.blk (by simp [fCells,T_png_file.rep]) fun w2 hb2 hg2 hs2=>?_
  rw [add_mk]
  refine stK_blk hb2 (by simp [fCells,T_png_file.rep,putL]) fun w3 hb3 hg3 hs3=>?_
  have hc3:Chg (fun k=>k=g) w w3:=(Chg.gg hg2).trans (Chg.gg hg3) fun i _ hi=>hi
  refine hY hall w3 ⟨hb3,hx.chg hc3 fun a ha e=>?_,h.tr.chg hc3 fun a ha e=>?_,h.data.chg hc3 fun k hk e=>own_ne_blk h.data h.blk (by decide) k hk e,hxb,h.tb⟩ hc3
  ·have:=hxb a.block (slk.2 ⟨a,ha,rfl⟩);omega
  ·have:=h.tb a.block (slk.2 ⟨a,ha,rfl⟩);omega
 refine lI (x:=F.h.Color) (by rw [add_zero];exact h.blk.cells 3 _ rfl) ?_
 refine cO (fun e=>?_) fun e=>?_
 ·have e:F.h.Color=3:=eq_of_beq e
  refine lI (x:=F.h.Depth) (by rw [add_zero];exact h.blk.cells 2 _ rfl) ⟨by have:=hc.d;omega,?_⟩
  have hsh:IntKind.i64.wrap ((1:Int)*2^(min F.h.Depth.toNat IntKind.i64.bits))=((2^F.h.Depth.toNat:Nat):Int):=by
   rcases hc.d with h | h | h | h | h<;>rw [h]<;>decide
  rw [hsh]
  refine cO (fun e8=>hN ?_) fun e8=>hgo fun _=>?_
  ·have e8:=of_decide_eq_true e8
   rw [decide_eq_true e,decide_eq_true (show ds.length/3>2^F.h.Depth.toNat from by exact_mod_cast e8)];simp
  ·have e8:=of_decide_eq_false e8
   intro h9
   exact e8 (by exact_mod_cast h9)
 ·have e:F.h.Color≠3:=by simpa using e
  exact hgo fun h=>absurd h e
theorem clear_spec (h:FilA w g b F p t d) (hc:ColOk F.h) {x:Slc} {ds:List UInt8} (hx:Rd E_uint8 w x ds) (hxb:∀k,x.blk=some k→k<b) (hbg:b≤g) (hl:ds.length≤1000000000) (hpl:F.pal.length≤1000000000) {K:Bool→World→Prop}
  (hN:trnsOk F ds=false→K false w) (hY:trnsOk F ds=true→∀w',FilA w' g b { F with tr:=ds,hasT:=true } p x d→Chg (fun k=>k=g) w w'→K true w'):c_png_file_clear (some ⟨g,0,none⟩) x w K:=by
 refine call_png_file_clear _ _ ?_
 unfold sh_png_file_clear
 simp only [onPtr_some]
 refine jpO fun J1 hJ1=>?_
 unfold trnsOk at hN hY
 have key:∀ok:Bool,ok=(if F.h.Color=0 then decide (ds.length=2) else if F.h.Color=2 then decide (ds.length=6) else if F.h.Color=3 then F.hasP && decide (ds.length≤F.pal.length/3) else false)→J1 (ok,()) w:=by
  intro ok hok
  rw [←hok] at hN hY
  refine hJ1 _ _ (jpO fun J2 hJ2=>?_)
  refine cO (fun e=>hN ?_) fun e1=>?_
  ·have:ok=false:=by simpa using e
   rw [this];simp
  have e1:ok=true:=by simpa using e1
  refine ldB_of (x:=F.hasT) (h.blk.cells 8 _ rfl) (cO (fun e=>hN (by rw [e];simp)) fun e2=>?_)
  refine ldB_of (x:=F.hasD) (h.blk.cells 10 _ rfl) (cO (fun e=>hN (by rw [e];simp)) fun e3=>?_)
  refine hJ2 _ _ ?_
  rw [add_mk]
  refine stK_blk h.blk (by simp [fCells,T_png_file.rep]) fun w2 hb2 hg2 hs2=>?_
  rw [add_mk]
  refine stK_blk hb2 (by simp [fCells,T_png_file.rep,putL]) fun w3 hb3 hg3 hs3=>?_
  have hc3:Chg (fun k=>k=g) w w3:=(Chg.gg hg2).trans (Chg.gg hg3) fun i _ hi=>hi
  refine hY (by rw [e1,e2,e3];rfl) w3 ⟨hb3,h.pal.chg hc3 fun a ha e=>?_,hx.chg hc3 fun a ha e=>?_,h.data.chg hc3 fun k hk e=>own_ne_blk h.data h.blk (by decide) k hk e,h.pb,hxb⟩ hc3
  ·have:=h.pb a.block (slk.2 ⟨a,ha,rfl⟩);omega
  ·have:=hxb a.block (slk.2 ⟨a,ha,rfl⟩);omega
 have hnn:∀m:Nat,((((ds.length:Nat):Int))==(m:Int))=decide (ds.length=m):=fun m=>by rw [Bool.eq_iff_iff];simp;omega
 refine lI (x:=F.h.Color) (by rw [add_zero];exact h.blk.cells 3 _ rfl) ?_
 rw [hx.n]
 refine cO (fun e=>?_) fun e0=>?_
 ·refine key _ ?_
  rw [if_pos (eq_of_beq e)]
  exact hnn 2
 have e0:F.h.Color≠0:=by simpa using e0
 refine cO (fun e=>?_) fun e2=>?_
 ·refine key _ ?_
  rw [if_neg e0,if_pos (eq_of_beq e)]
  exact hnn 6
 have e2:F.h.Color≠2:=by simpa using e2
 refine cO (fun e=>?_) fun e3=>?_
 ·have e3:F.h.Color=3:=eq_of_beq e
  refine ldB_of (x:=F.hasP) (h.blk.cells 7 _ rfl) (cO (fun e=>?_) fun e=>?_)
  ·refine lSl (x:=p) (h.blk.cells 5 _ rfl) ⟨by decide,key _ ?_⟩
   rw [if_neg e0,if_neg e2,if_pos e3,e,h.pal.n,show (3:Int)=((3:Nat):Int) from rfl,←Int.ofNat_tdiv,w64i (x:=((F.pal.length/3:Nat):Int)) (by omega),Bool.true_and]
   rw [decide_eq_decide]
   omega
  ·refine key _ ?_
   rw [if_neg e0,if_neg e2,if_pos e3,e]
   rfl
 ·have e3:F.h.Color≠3:=by simpa using e3
  refine key _ ?_
  rw [if_neg e0,if_neg e2,if_neg e3]
theorem kind_beq (k l:List UInt8):((strB k).toList==(strB l).toList)=decide (k=l):=by
 rw [strB_toList,strB_toList,Bool.eq_iff_iff]
 simp
theorem FilA.setW (h:FilA w g b F p t d) (v:Bool) {w':World} (hb:Blk w' g ty_png_file (fCells { F with wasD:=v } p t d)) (hc:Chg (fun k=>k=g) w w') (hbg:b≤g):FilA w' g b { F with wasD:=v } p t d :=
 ⟨hb,h.pal.chg hc fun a ha e=>by have:=h.pb a.block (slk.2 ⟨a,ha,rfl⟩);omega,h.tr.chg hc fun a ha e=>by have:=h.tb a.block (slk.2 ⟨a,ha,rfl⟩);omega,h.data.chg hc fun k hk e=>own_ne_blk h.data h.blk (by decide) k hk e,h.pb,h.tb⟩
theorem pTake_spec (h:FilA w g b F p t d) (hc:ColOk F.h) {x:T_png_Chunk} {c:ChL} (hx:ChA w x c) (hxb:∀k,x.Data.blk=some k→k<b) (hbg:b≤g) (hk4:c.kind.length=4) (hl:c.data.length≤1000000) (hpl:F.pal.length≤1000000) (hdl:F.data.length≤1000000000) {K:Int→World→Prop}
  (hN:∀w',(takeP F c).1≠0→Below b w w'→K ((takeP F c).1:Nat) w') (hY:(takeP F c).1=0→∀p' t' d' w',FilA w' g b (takeP F c).2 p' t' d'→Below b w w'→K 0 w'):c_png_file_take (some ⟨g,0,none⟩) x w K:=by
 refine call_png_file_take _ _ ?_
 unfold sh_png_file_take
 simp only [onPtr_some]
 have hgl:=h.blk.lt
 refine nwb fun w1 h1 hB1 hs1=>?_
 have hf1:=h.ext hB1
 refine ldB_of (x:=F.wasD) (hf1.blk.cells 11 _ rfl) ?_
 refine ldStr_of (x:=x.Kind) (h1.cells 0 _ rfl) ?_
 rw [hx.kind,show (⟨#[73,68,65,84]⟩:ByteArray)=strB idatL from rfl,show (⟨#[73,72,68,82]⟩:ByteArray)=strB ihdrL from rfl,show (⟨#[80,76,84,69]⟩:ByteArray)=strB plteL from rfl,show (⟨#[116,82,78,83]⟩:ByteArray)=strB trnsL from rfl,show (⟨#[73,69,78,68]⟩:ByteArray)=strB iendL from rfl,kind_beq]
 rw [add_mk]
 refine stK_blk hf1.blk (by simp [fCells,T_png_file.rep]) fun w2 hb2 hg2 hs2=>?_
 have hc2:Chg (fun k=>k=g) w1 w2:=Chg.gg hg2
 have hf2:FilA w2 g b { F with wasD:=decide (c.kind=idatL) } p t d:=hf1.setW _ hb2 hc2 hbg
 have h12:Blk w2 w.heap.size ty_png_Chunk (T_png_Chunk.rep.cells x):=h1.chg hc2 (by omega)
 have hB2:Below b w w2:=(hB1.mono (by omega)).trans (hc2.below (by have:=hB1.size;omega) fun i hi e=>by omega)
 have hx2:ChA w2 x c:=⟨hx.kind,(hx.data.ext hB1).chg hc2 fun a ha e=>by have:=hxb a.block (slk.2 ⟨a,ha,rfl⟩);omega⟩
 obtain ⟨F2,hF2⟩:∃F2:FilL,F2={ F with wasD:=decide (c.kind=idatL) }:=⟨_,rfl⟩
 rw [←hF2] at hf2
 unfold takeP at hN hY
 refine jpO fun J hJ=>?_
 have hbad:∀w',Below b w w'→(∀w',Below b w w'→K 3 w')→J (false,()) w':=fun w' hB hk=>hJ _ _ (cT rfl (hk w' hB))
 refine ldStr_of (x:=x.Kind) (h12.cells 0 _ rfl) ?_
 rw [hx.kind]
 simp only [kind_beq]
 refine cO (fun e=>?_) fun e1=>?_
 ·have e:=of_decide_eq_true e
  rw [if_pos e] at hN
  exact hbad w2 hB2 fun w' hB=>hN w' (show (3:Nat)≠0 by decide) hB
 have e1:=of_decide_eq_false e1
 rw [if_neg e1] at hN hY
 refine cO (fun e=>?_) fun e2=>?_
 ·have e:=of_decide_eq_true e
  rw [if_pos e] at hN hY
  refine lSl (x:=x.Data) (h12.cells 1 _ rfl) ?_
  have hnd:decide (c.kind=idatL)=false:=decide_eq_false (by rw [e];decide)
  have hpo:plteOk F2 c.data=plteOk F c.data:=by rw [hF2];rfl
  refine colors_spec hf2 (by rw [hF2];exact hc) hx2.data hxb hbg (by omega) (fun hp=>?_) (fun hp w3 hf3 hc3=>?_)
  ·rw [hpo] at hp
   rw [hp] at hN
   exact hbad w2 hB2 fun w' hB=>hN w' (show (3:Nat)≠0 by decide) hB
  ·rw [hpo] at hp
   rw [hp] at hY
   refine hJ _ _ (cF rfl (hY rfl x.Data t d w3 ?_ (hB2.trans (hc3.below (by have:=hB2.size;have:=h.blk.lt;omega) fun i hi e=>by omega))))
   rw [hF2,hnd] at hf3
   exact hf3
 have e2:=of_decide_eq_false e2
 rw [if_neg e2] at hN hY
 refine cO (fun e=>?_) fun e3=>?_
 ·have e:=of_decide_eq_true e
  rw [if_pos e] at hN hY
  refine lSl (x:=x.Data) (h12.cells 1 _ rfl) ?_
  have hnd:decide (c.kind=idatL)=false:=decide_eq_false (by rw [e];decide)
  have hpo:trnsOk F2 c.data=trnsOk F c.data:=by rw [hF2];rfl
  refine clear_spec hf2 (by rw [hF2];exact hc) hx2.data hxb hbg (by omega) (by rw [hF2];show F.pal.length≤_;omega) (fun hp=>?_) (fun hp w3 hf3 hc3=>?_)
  ·rw [hpo] at hp
   rw [hp] at hN
   exact hbad w2 hB2 fun w' hB=>hN w' (show (3:Nat)≠0 by decide) hB
  ·rw [hpo] at hp
   rw [hp] at hY
   refine hJ _ _ (cF rfl (hY rfl p x.Data d w3 ?_ (hB2.trans (hc3.below (by have:=hB2.size;have:=h.blk.lt;omega) fun i hi e=>by omega))))
   rw [hF2,hnd] at hf3
   exact hf3
 have e3:=of_decide_eq_false e3
 rw [if_neg e3] at hN hY
 refine cO (fun e=>?_) fun e4=>?_
 ·have e:=of_decide_eq_true e
  rw [if_pos e] at hN hY
  have hnd:decide (c.kind=idatL)=true:=decide_eq_true e
  refine jpO fun J2 hJ2=>?_
  have key:J2 (!F.hasD || F.wasD,()) w2:=by
   refine hJ2 _ _ ?_
   rw [add_mk]
   refine stK_blk hf2.blk (by simp [fCells,T_png_file.rep]) fun w3 hb3 hg3 hs3=>?_
   have hc3:Chg (fun k=>k=g) w2 w3:=Chg.gg hg3
   have h13:Blk w3 w.heap.size ty_png_Chunk (T_png_Chunk.rep.cells x):=h12.chg hc3 (by omega)
   have hb3:Blk w3 g ty_png_file (fCells { F2 with hasD:=true } p t d):=hb3
   have hx3:ChA w3 x c:=⟨hx.kind,hx2.data.chg hc3 fun a ha e=>by have:=hxb a.block (slk.2 ⟨a,ha,rfl⟩);omega⟩
   have hd3:Go.Vc.Own E_uint8 w3 b d F.data:=by
    have:=hf2.data.chg hc3 fun k hk e=>own_ne_blk hf2.data hf2.blk (by decide) k hk e
    rw [hF2] at this
    exact this
   have hBd:=bdw w3
   refine lSl (x:=d) ((hb3.ext hBd).cells 9 _ rfl) (lSl (x:=x.Data) ((h13.ext hBd).cells 1 _ rfl) ?_)
   have hsz3:w3.drew.heap.size=w3.heap.size:=rfl
   refine apB (hd3.ext hBd) (hx3.data.ext hBd) (by have:=hB2.size;omega) (by omega) fun r w4 hr hg4 hrb=>?_
   have hc4:Chg (fun k=>d.blk=some k) w3 w4:=(Chg.of_ext hBd).trans hg4 fun i _ hi=>hi
   have hdg:∀k,d.blk=some k→k≠g:=own_ne_blk hd3 hb3 (by decide)
   have hb4:=hb3.chg hc4 fun e=>hdg _ e rfl
   rw [add_mk]
   refine stK_blk hb4 (by simp [fCells,T_png_file.rep]) fun w5 hb5 hg5 hs5=>?_
   have hc5:Chg (fun k=>k=g) w4 w5:=Chg.gg hg5
   have hb5:Blk w5 g ty_png_file (fCells { F2 with hasD:=true,data:=F.data++c.data } p t r):=hb5
   have hrg:∀k,r.blk=some k→k≠g:=own_ne_blk hr hb4 (by decide)
   have hlow:∀{s:Slc} {l:List UInt8},Rd E_uint8 w2 s l→(∀k,s.blk=some k→k<b)→Rd E_uint8 w5 s l:=fun {s l} hs hsb =>
    ((
     hs.chg hc3 fun a ha e=>by have:=hsb a.block (slk.2 ⟨a,ha,rfl⟩);omega).chg hc4 fun a ha e=>by
     have h1:=hsb a.block (slk.2 ⟨a,ha,rfl⟩)
     have h2:=(hd3.lt _ e).1
     omega).chg hc5 fun a ha e=>by have:=hsb a.block (slk.2 ⟨a,ha,rfl⟩);omega
   have hB5:Below b w w5:=by
    have s2:=hB2.size
    have s3:=hc3.size
    have s4:=hc4.size
    exact ((hB2.trans (hc3.below (by omega) fun i hi e=>by omega)).trans (hc4.below (by omega) fun i hi e=>by have:=(hd3.lt i e).1;omega)).trans (hc5.below (by omega) fun i hi e=>by omega)
   refine hJ _ _ ?_
   cases hok:(!F.hasD || F.wasD) with
   | false =>
    rw [hok] at hN
    exact cT rfl (hN w5 (show (3:Nat)≠0 by decide) hB5)
   | true =>
    rw [hok] at hY
    refine cF rfl (hY rfl p t r w5 ?_ hB5)
    refine ⟨?_,?_,?_,hr.chg hc5 fun k hk e=>hrg k hk e,hf2.pb,hf2.tb⟩
    ·rw [hF2,hnd] at hb5
     exact hb5
    ·have:=hlow hf2.pal hf2.pb
     rw [hF2] at this
     exact this
    ·have:=hlow hf2.tr hf2.tb
     rw [hF2] at this
     exact this
  refine ldB_of (x:=F.hasD) (by have:=hf2.blk.cells 10 _ rfl;rw [hF2] at this;exact this) ?_
  refine cO (fun e=>?_) fun e=>?_
  ·have e:F.hasD=false:=by simpa using e
   rw [e] at key
   exact key
  ·have e:F.hasD=true:=by simpa using e
   rw [e] at key
   exact key
 have e4:=of_decide_eq_false e4
 rw [if_neg e4] at hN hY
 have hnd:decide (c.kind=idatL)=false:=decide_eq_false e4
 have hf2':FilA w2 g b { F with wasD:=false } p t d:=by rw [hF2,hnd] at hf2;exact hf2
 refine cO (fun e=>?_) fun e5=>?_
 ·have e:=of_decide_eq_true e
  rw [if_pos e] at hN hY
  refine lSl (x:=x.Data) (h12.cells 1 _ rfl) ?_
  rw [hx.data.n]
  by_cases he:c.data=[]
  ·rw [if_pos he] at hN hY
   rw [he]
   exact hJ _ _ (cF rfl (hY rfl p t d w2 hf2' hB2))
  ·rw [if_neg he] at hN
   rw [beqI_f (by have:=List.length_pos_iff.2 he;omega)]
   exact hbad w2 hB2 fun w' hB=>hN w' (show (3:Nat)≠0 by decide) hB
 have e5:=of_decide_eq_false e5
 rw [if_neg e5] at hN hY
 refine ldStr_of (x:=x.Kind) (h12.cells 0 _ rfl) ?_
 rw [hx.kind]
 have hsz:(strB c.kind).size=c.kind.length:=by show c.kind.toArray.size=_;simp
 refine ⟨⟨by decide,by rw [hsz,hk4];decide⟩,?_⟩
 have hch:((strB c.kind).data.getD (0:Int).toNat 0).toNat=(c.kind[0]?.getD 0).toNat:=by
  show (c.kind.toArray.getD 0 0).toNat=_
  rw [Array.getD_eq_getD_getElem?]
  simp
 rw [hch]
 by_cases h90:(c.kind[0]?.getD 0).toNat≤90
 ·rw [if_pos h90] at hN
  exact cT (decide_eq_true (by omega)) (hN w2 (show (8:Nat)≠0 by decide) hB2)
 ·rw [if_neg h90] at hN hY
  exact cF (decide_eq_false (by omega)) (hJ _ _ (cF rfl (hY rfl p t d w2 hf2' hB2)))
end
end Go.Proofs.YtmagnpcgpinmcaaGreat
set_option linter.unusedVariables false
namespace Go.Proofs.YtmagnpcgpinmcaaGreat
open Go.Vc Go.RowKit
set_option maxRecDepth 400000
theorem rowP_le (wx samples depth:Int):rowP wx samples depth≤131072:=by
 unfold rowP
 split
 ·omega
 ·rename_i h
  simp only [not_or] at h
  obtain ⟨h1,h2,h3,h4,h5⟩:=h
  have hd:isDepthP depth=true:=by cases e:isDepthP depth with | true=>rfl | false=>exact absurd e h5
  have hdp:1≤depth∧depth≤16:=by
   unfold isDepthP at hd
   simp at hd
   omega
  have a1:0≤wx*samples:=Int.mul_nonneg (by omega) (by omega)
  have a2:wx*samples≤16384*4:=Int.mul_le_mul (by omega) (by omega) (by omega) (by omega)
  have a4:wx*samples*depth≤16384*4*16:=Int.mul_le_mul a2 (by omega) (by omega) (by omega)
  omega
def needL (h:T_png_Head) (L:List (PassP×Nat×Nat)):Nat:=(L.map fun r=>1+rowB h r.2.2).sum
theorem needL_le (h:T_png_Head):∀L:List (PassP×Nat×Nat),needL h L≤L.length*200000
 | []=>by simp [needL]
 | r::l=>by
  have:=needL_le h l
  have h2:rowB h r.2.2≤131072:=rowP_le _ _ _
  unfold needL at this ⊢
  rw [List.map_cons,List.sum_cons,List.length_cons]
  omega
theorem needL_snoc (h:T_png_Head) (L:List (PassP×Nat×Nat)) (r:PassP×Nat×Nat):needL h (L++[r])=needL h L+(1+rowB h r.2.2):=by simp [needL]
theorem flat_len (W H:Nat) (hH:H≤16384):∀ps:List PassP,(ps.flatMap (rowsOf W H)).length≤ps.length*16384
 | []=>by simp
 | p::r=>by
  have:=flat_len W H hH r
  have h2:=(sizeP_le p W H).2
  rw [List.flatMap_cons,List.length_append,rowsOf_length,List.length_cons]
  omega
theorem rowsL_len {h:T_png_Head} {W H:Nat} (ho:HeadOk h W H):(rowsL h).length≤7*16384:=by
 unfold rowsL
 rw [ho.wn,ho.hn]
 have h1:=flat_len W H ho.h2 (passesP h.Lace)
 have h2:=passes_len h.Lace
 omega
theorem keepT_of {w w':World} {S:Nat→Prop} (h:Chg S w w') (hS:∀k,S k→∃t cs,Blk w k t cs∧t≠ty_filter_Pass∧t≠ty_png_Head):KeepT w w':=fun k t cs ht hb=>hb.chg h fun e=>by
 obtain ⟨t',cs',hb',h1,h2⟩:=hS k e
 refine hb.ne_t hb' ?_ rfl
 rcases ht with rfl | rfl
 ·exact fun e=>h1 e.symm
 ·exact fun e=>h2 e.symm
section
variable {w:World}
theorem need_spec {h:T_png_Head} {W H:Nat} (ho:HeadOk h W H) {K:Int→World→Prop} (hK:∀w',Below w.heap.size w w'→K ((needP h:Nat):Int) w'):c_png_Head_need h w K:=by
 refine call_png_Head_need _ ?_
 unfold sh_png_Head_need
 refine nwb fun w1 h1 hB1 hs1=>nwb fun w2 h2 hB2 hs2=>?_
 have hB12:=bT hB1 hB2
 refine all_of h2 rfl fun w3 h3 hc3 hs3=>?_
 have hB3:=b1o hB12 hc3 (by omega)
 have h13:Blk w3 w.heap.size ty_png_Head _:=(h1.ext hB2).chg hc3 (by omega)
 refine ldS_of (r:=T_png_Head.rep) (x:=h) h13.cells ?_
 refine rows_spec ho (fun L w4=>Blk w4 w1.heap.size ty_int [.int .i64 ((needL h L:Nat):Int)]∧Blk w4 w.heap.size ty_png_Head (T_png_Head.rep.cells h)∧Below w.heap.size w w4) (fun _=>False) ⟨h3,h13,hB3⟩ ?_ ?_ ?_ (fun _ h=>h.elim)
 ·rintro L w4 w5 ⟨a,b,c⟩ hB
  exact ⟨a.ext hB,b.ext hB,bT c hB⟩
 ·rintro L r R w4 hL ⟨a,b,c⟩ hs4 J hJ1 hJ0
  refine callR_plain (by kernel_rfl) ?_
  have hcall:c_png_Head_need_1 (passT r.1) (r.2.1:Int) (r.2.2:Int) ⟨w1.heap.size,0,none⟩ ⟨w.heap.size,0,none⟩ w4 J:=by
   refine call_png_Head_need_1 _ _ _ _ _ ?_
   unfold sh_png_Head_need_1
   refine nwb fun w5 h5 hB5 hs5=>?_
   have hBd:=bT hB5 (bdw w5)
   have ad:=a.ext hBd
   have bd:=b.ext hBd
   refine lI (x:=((needL h L:Nat):Int)) (ad.cell 0 rfl) (lI (x:=h.Color) (bd.cells 3 _ rfl) (lI (x:=h.Depth) (bd.cells 2 _ rfl) ?_))
   refine Samples_spec ⟨bd.cells 2 _ rfl,ad.cell 0 rfl,Row_spec ⟨ad.cell 0 rfl,?_⟩⟩
   have hle:=needL_le h L
   have hll:=rowsL_len ho
   rw [hL,List.length_append,List.length_cons] at hll
   have hrl:rowP (r.2.2:Int) (samplesOf h.Color) h.Depth≤131072:=rowP_le _ _ _
   have hrb:rowB h r.2.2=rowP (r.2.2:Int) (samplesOf h.Color) h.Depth:=rfl
   rw [w64i (x:=(1:Int)+((rowP (r.2.2:Int) (samplesOf h.Color) h.Depth:Nat):Int)) (by omega),w64i (by omega)]
   refine all_of ad rfl fun w6 h6 hc6 hs6=>?_
   have hne:w.heap.size≠w1.heap.size:=by omega
   refine hJ1 w6 ⟨?_,bd.chg hc6 hne,b1o (bT c hBd) hc6 (by omega)⟩ ?_ (by have:=hBd.size;omega)
   ·rw [needL_snoc,hrb]
    have e:((needL h L:Nat):Int)+((1:Int)+((rowP (r.2.2:Int) (samplesOf h.Color) h.Depth:Nat):Int))=((needL h L+(1+rowP (r.2.2:Int) (samplesOf h.Color) h.Depth):Nat):Int):=by omega
    rw [e] at h6
    exact h6
   ·refine keepT_of (S:=fun k=>k=w1.heap.size) ((Chg.of_ext hBd).trans hc6 fun i _ hi=>hi) fun k hk=>⟨ty_int,[.int .i64 ((needL h L:Nat):Int)],by rw [hk];exact a,by decide,by decide⟩
  refine Calls.mono hcall ?_
  rintro e w' ⟨r,rfl,hk⟩
  exact ⟨r,rfl,hk⟩
 ·rintro w4 ⟨a,b,c⟩
  exact lI (x:=((needP h:Nat):Int)) (a.cell 0 rfl) (hK w4 c)
theorem Scale_spec {v n:Nat} {K:Int→World→Prop} (hv:v≤1000000) (hn:1≤n) (hn2:n≤1000000) (hvn:v≤n) (h255:v≤1000) (hK:K ((scaleP v n 255:Nat):Int) w):c_pixel_Scale_int (v:Int) (n:Int) 255 w K:=by
 refine call_pixel_Scale_int _ _ _ ?_
 unfold sh_pixel_Scale_int
 refine jpO fun J hJ=>?_
 have hj:J () w:=hJ _ _ ⟨by decide,by omega,by
  unfold scaleP at hK
  rw [if_neg (by omega)] at hK
  have hq:(v*255+n/2)/n≤v*255+n/2:=Nat.div_le_self _ _
  rw [w64i (x:=(v:Int)*255) (by omega),show (2:Int)=((2:Nat):Int) from rfl,←Int.ofNat_tdiv,w64i (x:=((n/2:Nat):Int)) (by omega),show (v:Int)*255+((n/2:Nat):Int)=((v*255+n/2:Nat):Int) by omega,w64i (x:=((v*255+n/2:Nat):Int)) (by omega),←Int.ofNat_tdiv]
  generalize (v*255+n/2)/n=q at hK hq ⊢
  rw [w64i (by omega)]
  exact hK⟩
 refine cF (decide_eq_false (by omega)) (cF (decide_eq_false (by omega)) (cF (decide_eq_false (by omega)) (cF (by decide) ?_)))
 refine cO (fun h=>?_) fun h=>hj
 have h:=of_decide_eq_true h
 refine ⟨by omega,cF (decide_eq_false ?_) hj⟩
 rw [show (1073741824:Int)=((1073741824:Nat):Int) from rfl,←Int.ofNat_tdiv]
 have h1:1073741824/v≤1073741824:=Nat.div_le_self _ _
 have h2:255≤1073741824/v:=(Nat.le_div_iff_mul_le (by omega)).2 (by omega)
 generalize 1073741824/v=q at h1 h2 ⊢
 rw [w64i (by omega)]
 omega
theorem wrap8_n (n:Nat):IntKind.u8.wrap (n:Int)=(((UInt8.ofNat n).toNat:Nat):Int):=wrap8_of n
theorem eight_spec {h:T_png_Head} {v:Nat} {K:Int→World→Prop} (hc:ColOk h) (hv:v<2^h.Depth.toNat) (hK:∀w',Below w.heap.size w w'→K (((eightP h.Depth v).toNat:Nat):Int) w'):c_png_Head_eight h (v:Int) w K:=by
 refine call_png_Head_eight _ _ ?_
 unfold sh_png_Head_eight
 refine nwb fun w1 h1 hB1 hs1=>?_
 refine lI (x:=h.Depth) (h1.cells 2 _ rfl) ?_
 unfold eightP at hK
 refine cO (fun e=>?_) fun e8=>?_
 ·rw [if_pos (eq_of_beq e)] at hK
  rw [wrap8_n]
  exact hK w1 hB1
 have e8:h.Depth≠8:=by simpa using e8
 rw [if_neg e8] at hK
 refine cO (fun e=>⟨by decide,?_⟩) fun e16=>?_
 ·rw [if_pos (eq_of_beq e)] at hK
  rw [show min ((8:Int)).toNat IntKind.i64.bits=8 by decide,fdiv_nat,wrap8_n]
  exact hK w1 hB1
 have e16:h.Depth≠16:=by simpa using e16
 rw [if_neg e16] at hK
 refine lI (x:=h.Depth) (h1.cells 2 _ rfl) ⟨by have:=hc.d;omega,?_⟩
 have hd:h.Depth=1∨h.Depth=2∨h.Depth=4:=by have:=hc.d;omega
 have hsh:IntKind.i64.wrap ((IntKind.i64.wrap ((1:Int)*2^(min h.Depth.toNat IntKind.i64.bits)))-(1:Int))=((2^h.Depth.toNat-1:Nat):Int):=by
  rcases hd with h | h | h<;>rw [h]<;>decide
 have hp:2≤2^h.Depth.toNat∧2^h.Depth.toNat≤16:=by rcases hd with h | h | h<;>rw [h]<;>decide
 rw [hsh]
 refine Scale_spec (by omega) (by omega) (by omega) (by omega) (by omega) ?_
 rw [wrap8_n]
 exact hK w1 hB1
def colT (a b c d:UInt8):T_pixel_Color:=⟨(a.toNat:Nat),(b.toNat:Nat),(c.toNat:Nat),(d.toNat:Nat)⟩
theorem tr_val {f:FilL} {i:Nat} {d:Nat} (hd:d=1∨d=2∨d=4∨d=8∨d=16) (x y:UInt8) :
  bitsR .and .i64 (bitsR .or .i64 (IntKind.i64.wrap ((IntKind.i64.wrap ((x.toNat:Nat):Int))*2^(min (8:Int).toNat IntKind.i64.bits))) (IntKind.i64.wrap ((y.toNat:Nat):Int))) (IntKind.i64.wrap ((IntKind.i64.wrap ((1:Int)*2^(min ((d:Nat):Int).toNat IntKind.i64.bits)))-(1:Int)))=(((x.toNat*256+y.toNat)%2^d:Nat):Int):=by
 have hx:=x.toNat_lt
 have hy:=y.toNat_lt
 rw [w8,w8,show min ((8:Int)).toNat IntKind.i64.bits=8 by decide,mul_pow_nat,wrap_nat .i64 (x:=x.toNat*2^8) (by show _<2^63;omega),bits_or .i64 (by show _<2^63;omega) (by show _<2^63;omega)]
 have e:x.toNat*2^8 ||| y.toNat=x.toNat*256+y.toNat:=by
  rw [Nat.or_comm,Nat.mul_comm,add_or (by omega)]
  omega
 have hsh:IntKind.i64.wrap ((IntKind.i64.wrap ((1:Int)*2^(min ((d:Nat):Int).toNat IntKind.i64.bits)))-(1:Int))=((2^d-1:Nat):Int):=by
  rcases hd with rfl | rfl | rfl | rfl | rfl<;>decide
 have hp:2^d≤65536:=by rcases hd with rfl | rfl | rfl | rfl | rfl<;>decide
 rw [e,hsh,bits_and .i64 (by show _<2^63;omega) (by show _<2^63;omega),Nat.and_two_pow_sub_one_eq_mod]
theorem trSame_succ (F:FilL) (ss:List Nat) (i:Nat):trSame F ss (i+1)=(trSame F ss i && decide (ss[i]?.getD 0=((F.tr[2*i]?.getD 0).toNat*256+(F.tr[2*i+1]?.getD 0).toNat)%2^F.h.Depth.toNat)):=by
 unfold trSame
 rw [List.range_succ,List.all_append]
 simp
theorem trSame_false {F:FilL} {ss:List Nat} {i n:Nat} (h:trSame F ss i=false) (hin:i≤n):trSame F ss n=false:=by
 unfold trSame at h ⊢
 rw [List.all_eq_false] at h ⊢
 obtain ⟨x,hx,hh⟩:=h
 exact ⟨x,List.mem_range.2 (by have:=List.mem_range.1 hx;omega),hh⟩
theorem FilA.head {g b:Nat} {F:FilL} {p t d:Slc} (h:FilA w g b F p t d):cellsAt w ⟨g,0,none⟩ (T_png_Head.rep.cells F.h):=by
 have:cellsAt w ((⟨g,0,none⟩:Addr).add 0) (T_png_Head.rep.cells F.h):=h.blk.cells.sub 0 (by rintro j v hj;rw [Nat.zero_add];match j,hj with
     | 0,hj=>exact hj
     | 1,hj=>exact hj
     | 2,hj=>exact hj
     | 3,hj=>exact hj
     | 4,hj=>exact hj
     | j+5,hj=>simp [T_png_Head.rep] at hj)
 rwa [add_zero] at this
theorem color_spec {g b:Nat} {F:FilL} {p t d:Slc} (h:FilA w g b F p t d) (ho:FilOk F) {s:Slc} {ss:List Nat} (hs:Rd E_int w s (intsN ss)) (hsl:ss.length=samplesOf F.h.Color) (hsv:∀v∈ss,v<2^F.h.Depth.toNat) (hpl:F.pal.length≤1000000) (htl:F.tr.length≤1000000) {K:T_pixel_Color→Bool→World→Prop}
  (hN:∀x w',colorP F ss=none→Below w.heap.size w w'→K x false w') (hY:∀a b c d w',colorP F ss=some [a,b,c,d]→Below w.heap.size w w'→K (colT a b c d) true w'):c_png_file_color (some ⟨g,0,none⟩) s w K:=by
 obtain ⟨_,hc⟩:=checkP_ok ho.hd
 refine call_png_file_color _ _ ?_
 unfold sh_png_file_color
 simp only [onPtr_some]
 refine nwb fun w1 h1 hB1 hs1=>nwb fun w2 h2 hB2 hs2=>?_
 have hB12:=bT hB1 hB2
 refine all_of h2 rfl fun w3 h3 hc3 hs3=>?_
 have hB3:=b1o hB12 hc3 (by omega)
 have h13:Blk w3 w.heap.size ty_pixel_Color _:=(h1.ext hB2).chg hc3 (by omega)
 have h3:Blk w3 w1.heap.size ty_pixel_Color (bcells [0,0,0,255]):=h3
 have hss:∀i,i<ss.length→∃v,ss[i]?=some v∧v<2^F.h.Depth.toNat:=fun i hi=>⟨ss[i],List.getElem?_eq_getElem hi,hsv _ (List.getElem_mem hi)⟩
 have hsn:=hs.n
 rw [ints_length] at hsn
 have scell:∀{w':World} {i v:Nat},Below w.heap.size w w'→ss[i]?=some v→w'.cell? (s.at_ 1 i)=some (.int .i64 (v:Int)):=fun {w' i v} hB hv=>by
  have:=(hs.ext hB).at_ i (v:Int) (by rw [ints_get,hv];rfl) 0 _ rfl
  have h2:w'.cell? (s.at_ E_int.k i)=some (.int .i64 (v:Int)):=by simpa using this
  exact h2
 have six:∀{w':World} {i:Nat} {K:Addr→Prop},i<ss.length→K (s.at_ 1 i)→ixK s (i:Int) 1 K:=fun {w' i K} hi hk=>hs.ix (i:=(i:Int)) rfl (by omega) (by rw [ints_length];omega) fun _=>hk
 have hsmp1:1≤ss.length:=by
  rw [hsl]
  unfold samplesOf
  rcases hc.c with e | e | e | e | e<;>rw [e]<;>decide
 have hs4:ss.length≤4:=by
  rw [hsl]
  unfold samplesOf
  rcases hc.c with e | e | e | e | e<;>rw [e]<;>decide
 obtain ⟨v0,hv0,hv0l⟩:=hss 0 (by omega)
 have told:∀(a b' c d':UInt8) w',Blk w' w1.heap.size ty_pixel_Color (bcells [a,b',c,d'])→Blk w' w.heap.size ty_pixel_Color (bcells [0,0,0,0])→Below w.heap.size w w'→colorP F ss=some [a,b',c,d'] →
   ldS T_pixel_Color.rep ⟨w1.heap.size,0,none⟩ w' fun t175=>stK ⟨w.heap.size,0,none⟩ (T_pixel_Color.rep.cells t175) w' fun w9=>ldS T_pixel_Color.rep ⟨w.heap.size,0,none⟩ w9 fun r=>K r true w9:=by
  intro a b' c d' w' hb ht hB hcol
  refine ldS_of (r:=T_pixel_Color.rep) (x:=colT a b' c d') hb.cells ?_
  exact res_of (r:=T_pixel_Color.rep) (x:=colT a b' c d') ht rfl rfl fun w9 hc9 _=>hY a b' c d' w9 hcol (b1o hB hc9 (Nat.le_refl _))
 refine jpO fun J1 hJ1=>?_
 have base:∀(a b' c:UInt8) w4,F.h.Color≠3→Blk w4 w1.heap.size ty_pixel_Color (bcells [a,b',c,255])→Blk w4 w.heap.size ty_pixel_Color (bcells [0,0,0,0])→Below w.heap.size w w4 →
   (∀al:UInt8,al=(if F.hasT && trSame F ss ss.length then 0 else if F.h.Color=4∨F.h.Color=6 then eightP F.h.Depth (ss[ss.length-1]?.getD 0) else 255)→colorP F ss=some [a,b',c,al])→J1 () w4:=by
  intro a b' c w4 hn3 hb4 ht4 hB4 hcol
  refine hJ1 _ _ (jpO fun J2 hJ2=>?_)
  have tail:∀(al:UInt8) w5,Blk w5 w1.heap.size ty_pixel_Color (bcells [a,b',c,al])→Blk w5 w.heap.size ty_pixel_Color (bcells [0,0,0,0])→Below w.heap.size w w5→al=(if F.h.Color=4∨F.h.Color=6 then eightP F.h.Depth (ss[ss.length-1]?.getD 0) else 255)→J2 () w5:=by
   intro al w5 hb5 ht5 hB5 hal
   refine hJ2 _ _ ?_
   have hf5:=h.ext hB5
   refine ldB_of (x:=F.hasT) (hf5.blk.cells 8 _ rfl) ?_
   refine lpR (fun (st:Bool×Int×Unit) w6=>∃i:Nat,st.2.1=i∧i≤ss.length∧st.1=(F.hasT && trSame F ss i)∧Blk w6 w1.heap.size ty_pixel_Color (bcells [a,b',c,al])∧Blk w6 w.heap.size ty_pixel_Color (bcells [0,0,0,0])∧Below w.heap.size w w6) (fun st=>ss.length-st.2.1.toNat)
    ⟨0,rfl,by omega,by rw [show trSame F ss 0=true from rfl,Bool.and_true],hb5,ht5,hB5⟩ ?_
   rintro ⟨sm,i,u⟩ w6 ⟨i,rfl,hi,hsm,hb6,ht6,hB6⟩ I hI
   dsimp only at hsm ⊢
   have hend:(F.hasT && trSame F ss ss.length)=sm→cond sm
       (ixA (⟨w1.heap.size,0,none⟩:Addr) 4 3 1 fun t174=>stK t174 [(.int .u8 0)] w6 fun w8=>ldS T_pixel_Color.rep (⟨w1.heap.size,0,none⟩:Addr) w8 fun t175=>stK (⟨w.heap.size,0,none⟩:Addr) (T_pixel_Color.rep.cells t175) w8 fun w9=>ldS T_pixel_Color.rep (⟨w.heap.size,0,none⟩:Addr) w9 fun r=>K r true w9)
       (ldS T_pixel_Color.rep (⟨w1.heap.size,0,none⟩:Addr) w6 fun t175_1=>stK (⟨w.heap.size,0,none⟩:Addr) (T_pixel_Color.rep.cells t175_1) w6 fun w10=>ldS T_pixel_Color.rep (⟨w.heap.size,0,none⟩:Addr) w10 fun r_1=>K r_1 true w10):=by
    intro hes
    cases hsm':sm with
    | true =>
     rw [hsm'] at hes
     refine cT rfl ⟨⟨by decide,by decide⟩,?_⟩
     rw [add_mk]
     refine stK_blk hb6 (by simp [bcells]) fun w8 hb8 hg8 hs8=>?_
     have hb8:Blk w8 w1.heap.size ty_pixel_Color (bcells [a,b',c,0]):=hb8
     have hc8:Chg (fun k=>k=w1.heap.size) w6 w8:=Chg.gg hg8
     refine told a b' c 0 w8 hb8 (ht6.chg hc8 (by omega)) (b1o hB6 hc8 (by omega)) (hcol 0 ?_)
     rw [hes,if_pos rfl]
    | false =>
     rw [hsm'] at hes
     refine cF rfl (told a b' c al w6 hb6 ht6 hB6 (hcol al ?_))
     rw [hes,if_neg (by decide)]
     exact hal
   refine jpO fun J4 hJ4=>?_
   rw [hsn]
   refine cO (fun hlt=>?_) fun hge=>?_
   ·have hlt:=of_decide_eq_true hlt
    have hil:i<ss.length:=by omega
    cases hsm':sm with
    | false =>
     rw [hsm'] at hsm
     refine cF rfl ?_
     rw [hsm'] at hend
     refine hend ?_
     cases hT:F.hasT with
     | false=>rfl
     | true =>
      rw [hT,Bool.true_and] at hsm
      rw [Bool.true_and]
      exact trSame_false hsm.symm (by omega)
    | true =>
     rw [hsm'] at hsm
     have hT:F.hasT=true:=by cases e:F.hasT with | true=>rfl | false=>rw [e] at hsm;cases hsm
     have htr:=ho.tr hT
     refine cT rfl (hJ4 _ _ ?_)
     have hBd:=bT hB6 (bdw w6)
     have hfd:=h.ext hBd
     obtain ⟨v,hv,hvl⟩:=hss i hil
     have htl2:2*i+1<F.tr.length:=by
      rcases htr with ⟨e,e2⟩ | ⟨e,e2⟩ | e
      ·rw [hsl,e] at hil
       have:samplesOf 0=1:=rfl
       omega
      ·rw [hsl,e] at hil
       have:samplesOf 2=3:=rfl
       omega
      ·exact absurd e hn3
     obtain ⟨x,hx,hxs⟩:=get_of (xs:=F.tr) (k:=2*i) (by omega)
     obtain ⟨y,hy,hys⟩:=get_of (xs:=F.tr) (k:=2*i+1) htl2
     refine six (w':=w6) hil (lI (scell hBd hv) ?_)
     refine lSl (x:=t) (hfd.blk.cells 6 _ rfl) ?_
     have ei:IntKind.i64.wrap ((2:Int)*(i:Int))=((2*i:Nat):Int):=by rw [w64i (by omega)];simp
     have ei1:IntKind.i64.wrap ((((2*i:Nat)):Int)+(1:Int))=((2*i+1:Nat):Int):=by rw [w64i (by omega)];rfl
     rw [ei,ei1]
     refine hfd.tr.ix (i:=((2*i:Nat):Int)) rfl (by omega) (by omega) fun _=>?_
     refine lI (x:=(x.toNat:Int)) (by rw [Int.toNat_natCast];exact rdcell hfd.tr hx) ⟨by decide,?_⟩
     refine lSl (x:=t) (hfd.blk.cells 6 _ rfl) ?_
     refine hfd.tr.ix (i:=((2*i+1:Nat):Int)) rfl (by omega) (by omega) fun _=>?_
     refine lI (x:=(y.toNat:Int)) (by rw [Int.toNat_natCast];exact rdcell hfd.tr hy) ?_
     refine lI (x:=F.h.Depth) (by rw [add_zero];exact hfd.blk.cells 2 _ rfl) ⟨by have:=hc.d;omega,?_⟩
     have hdn:F.h.Depth=((F.h.Depth.toNat:Nat):Int):=by have:=hc.d;omega
     have hv2:=tr_val (f:=F) (i:=i) (d:=F.h.Depth.toNat) (by have:=hc.d;omega) x y
     rw [←hdn] at hv2
     rw [hv2,w64i (by omega)]
     refine hI _ _ ⟨i+1,rfl,by omega,?_,hb6.ext (bdw w6),ht6.ext (bdw w6),hBd⟩ (by simp;omega)
     dsimp only
     rw [hT,Bool.true_and] at hsm ⊢
     rw [trSame_succ,←hsm,hv,hx,hy,Bool.true_and,Bool.eq_iff_iff]
     simp only [beq_iff_eq,decide_eq_true_eq,Option.getD_some]
     omega
   ·have hge:=of_decide_eq_false hge
    obtain rfl:i=ss.length:=by omega
    exact hend hsm.symm
  refine jpO fun J5 hJ5=>?_
  have al:∀bb:Bool,(bb=true↔F.h.Color=4∨F.h.Color=6)→J5 (bb,()) w4:=by
   intro bb hbb
   refine hJ5 _ _ ?_
   refine cO (fun e=>?_) fun e=>?_
   ·have hBd:=bT hB4 (bdw w4)
    have hfd:=h.ext hBd
    refine ldS_of (r:=T_png_Head.rep) (x:=F.h) (by rw [add_zero];exact hfd.head) ?_
    rw [hsn,w64i (by omega),show ((ss.length:Nat):Int)-1=((ss.length-1:Nat):Int) by omega]
    obtain ⟨v,hv,hvl⟩:=hss (ss.length-1) (by omega)
    refine six (w':=w4) (by omega) (lI (scell hBd hv) ?_)
    refine eight_spec hc hvl fun w5 hB5=>⟨⟨by decide,by decide⟩,?_⟩
    rw [add_mk]
    refine stK_blk ((hb4.ext (bdw w4)).ext hB5) (by simp [bcells]) fun w6 hb6 hg6 hs6=>?_
    have hb6:Blk w6 w1.heap.size ty_pixel_Color (bcells [a,b',c,eightP F.h.Depth v]):=hb6
    have hc6:Chg (fun k=>k=w1.heap.size) w5 w6:=Chg.gg hg6
    refine tail (eightP F.h.Depth v) w6 hb6 (((ht4.ext (bdw w4)).ext hB5).chg hc6 (by omega)) (b1o (bT hBd hB5) hc6 (by omega)) ?_
    rw [if_pos (hbb.1 e),hv]
    rfl
   ·refine tail 255 w4 hb4 ht4 hB4 ?_
    rw [if_neg fun h=>by rw [hbb.2 h] at e;cases e]
  have hf4:=h.ext hB4
  refine lI (x:=F.h.Color) (by rw [add_zero];exact hf4.blk.cells 3 _ rfl) ?_
  refine cO (fun e=>al _ ?_) fun e=>?_
  ·have:=eq_of_beq e;simp [this]
  ·have e:F.h.Color≠4:=by simpa using e
   refine lI (x:=F.h.Color) (by rw [add_zero];exact hf4.blk.cells 3 _ rfl) (al _ ?_)
   simp [e]
 have hf3:=h.ext hB3
 refine lI (x:=F.h.Color) (by rw [add_zero];exact hf3.blk.cells 3 _ rfl) ?_
 have hBd:=bT hB3 (bdw w3)
 have hfd:=h.ext hBd
 have h3d:=h3.ext (bdw w3)
 have h13d:Blk w3.drew w.heap.size ty_pixel_Color (bcells [0,0,0,0]):=h13.ext (bdw w3)
 refine cO (fun e=>?_) fun e3=>?_
 ·have e:F.h.Color=3:=eq_of_beq e
  have hv16:v0<65536:=Nat.lt_of_lt_of_le hv0l (show 2^F.h.Depth.toNat≤2^16 from Nat.pow_le_pow_right (by decide) (by have:=hc.d;omega))
  refine six (w':=w3) (i:=0) (by omega) (lI (scell hBd hv0) ?_)
  refine lSl (x:=p) (hfd.blk.cells 5 _ rfl) ?_
  have e3v:IntKind.i64.wrap ((3:Int)*(v0:Int))=((3*v0:Nat):Int):=by rw [w64i (by omega)];simp
  rw [e3v,hfd.pal.n]
  have hval:colorP F ss=(if 3*v0≥F.pal.length then none else some [F.pal[3*v0]?.getD 0,F.pal[3*v0+1]?.getD 0,F.pal[3*v0+2]?.getD 0,if v0<F.tr.length then F.tr[v0]?.getD 0 else 255]):=by
   unfold colorP
   rw [hv0]
   dsimp only [Option.getD_some]
   rw [if_pos e]
  refine cO (fun hge=>?_) fun hlt=>?_
  ·have hge:=of_decide_eq_true hge
   rw [if_pos (by omega)] at hval
   refine ldS_of (r:=T_pixel_Color.rep) (x:=colT 0 0 0 255) h3d.cells ?_
   exact res_of (r:=T_pixel_Color.rep) (x:=colT 0 0 0 255) h13d rfl rfl fun w9 hc9 _=>hN _ w9 hval (b1o hBd hc9 (Nat.le_refl _))
  have hlt:=of_decide_eq_false hlt
  rw [if_neg (by omega)] at hval
  have hp3:=ho.pal
  have hBdd:=bT hBd (bdw _)
  have hfdd:=h.ext hBdd
  have h3dd:=h3d.ext (bdw _)
  have h13dd:=h13d.ext (bdw _)
  refine ⟨⟨by decide,by decide⟩,?_⟩
  refine lSl (x:=p) (hfdd.blk.cells 5 _ rfl) ?_
  refine six (w':=w3) (i:=0) (by omega) (lI (scell hBdd hv0) ?_)
  rw [e3v]
  refine hfdd.pal.slK (l:=3*v0) (m:=F.pal.length) rfl (.inr rfl) (.inl ⟨rfl,rfl⟩) (by omega) (by omega) fun hpp=>?_
  rw [List.take_length] at hpp
  have hmin:(3:Nat)=min ((F.pal.drop (3*v0)).length) 3:=by rw [List.length_drop];omega
  refine copyB (o:=0) (dn:=3) (dc:=4) h3dd hpp hmin (by simp [bcells]) fun w18 hb18 hc18 hs18=>?_
  obtain ⟨q0,hq0,_⟩:=get_of (xs:=F.pal) (k:=3*v0) (by omega)
  obtain ⟨q1,hq1,_⟩:=get_of (xs:=F.pal) (k:=3*v0+1) (by omega)
  obtain ⟨q2,hq2,_⟩:=get_of (xs:=F.pal) (k:=3*v0+2) (by omega)
  have htk:(F.pal.drop (3*v0)).take 3=[q0,q1,q2]:=by
   have c0:F.pal.drop (3*v0)=q0::F.pal.drop (3*v0+1):=by
    rw [List.getElem?_eq_getElem (by omega)] at hq0
    rw [←Option.some.inj hq0,←List.drop_eq_getElem_cons]
   have c1:F.pal.drop (3*v0+1)=q1::F.pal.drop (3*v0+2):=by
    rw [List.getElem?_eq_getElem (by omega)] at hq1
    rw [←Option.some.inj hq1,←List.drop_eq_getElem_cons]
   have c2:F.pal.drop (3*v0+2)=q2::F.pal.drop (3*v0+3):=by
    rw [List.getElem?_eq_getElem (by omega)] at hq2
    rw [←Option.some.inj hq2,←List.drop_eq_getElem_cons]
   rw [c0,c1,c2]
   rfl
  rw [htk] at hb18
  have hb18:Blk w18 w1.heap.size ty_pixel_Color (bcells [q0,q1,q2,255]):=hb18
  have hB18:=b1o hBdd hc18 (by omega)
  have h18:=h13dd.chg hc18 (by omega)
  rw [hq0,hq1,hq2] at hval
  have hBd18:=bT hB18 (bdw w18)
  have hf18:=h.ext hBd18
  refine six (w':=w3) (i:=0) (by omega) (lI (scell hBd18 hv0) ?_)
  refine lSl (x:=t) (hf18.blk.cells 6 _ rfl) ?_
  rw [hf18.tr.n]
  refine cO (fun ht=>?_) fun ht=>?_
  ·have ht:=of_decide_eq_true ht
   rw [if_pos (by omega)] at hval
   have hBdd18:=bT hBd18 (bdw _)
   have hff:=h.ext hBdd18
   refine lSl (x:=t) (hff.blk.cells 6 _ rfl) ?_
   refine six (w':=w3) (i:=0) (by omega) (lI (scell hBdd18 hv0) ?_)
   obtain ⟨y,hy,_⟩:=get_of (xs:=F.tr) (k:=v0) (by omega)
   refine hff.tr.ix (i:=(v0:Int)) rfl (by omega) (by omega) fun _=>?_
   refine lI (x:=(y.toNat:Int)) (by rw [Int.toNat_natCast];exact rdcell hff.tr hy) ⟨⟨by decide,by decide⟩,?_⟩
   rw [add_mk]
   refine stK_blk ((hb18.ext (bdw _)).ext (bdw _)) (by simp [bcells]) fun w19 hb19 hg19 hs19=>?_
   have hb19:Blk w19 w1.heap.size ty_pixel_Color (bcells [q0,q1,q2,y]):=hb19
   have hc19:Chg (fun k=>k=w1.heap.size) w18.drew.drew w19:=Chg.gg hg19
   rw [hy] at hval
   exact told q0 q1 q2 y w19 hb19 (((h18.ext (bdw _)).ext (bdw _)).chg hc19 (by omega)) (b1o hBdd18 hc19 (by omega)) hval
  ·have ht:=of_decide_eq_false ht
   rw [if_neg (by omega)] at hval
   exact told q0 q1 q2 255 w18.drew (hb18.ext (bdw _)) (h18.ext (bdw _)) hBd18 hval
 have e3:F.h.Color≠3:=by simpa using e3
 have hcells:∀{w':World},Below w.heap.size w w'→cellsAt w' ⟨g,0,none⟩ (T_png_Head.rep.cells F.h):=fun hB=>(h.ext hB).head
 refine jpO fun J6 hJ6=>?_
 have key:∀bb:Bool,(bb=true↔F.h.Color=0∨F.h.Color=4)→J6 (bb,()) w3:=by
  intro bb hbb
  refine hJ6 _ _ (cO (fun e=>?_) fun e=>?_)
  ·refine ldS_of (r:=T_png_Head.rep) (x:=F.h) (by rw [add_zero];exact hcells hBd) ?_
   refine six (w':=w3) (i:=0) (by omega) (lI (scell hBd hv0) ?_)
   refine eight_spec hc hv0l fun w23 hB23=>?_
   refine all_of (h3d.ext hB23) rfl fun w24 h24 hc24 hs24=>?_
   have h24:Blk w24 w1.heap.size ty_pixel_Color (bcells [eightP F.h.Depth v0,eightP F.h.Depth v0,eightP F.h.Depth v0,255]):=h24
   refine base _ _ _ w24 e3 h24 ((h13d.ext hB23).chg hc24 (by omega)) (b1o (bT hBd hB23) hc24 (by omega)) fun al hal=>?_
   unfold colorP
   dsimp only
   rw [if_neg e3,if_pos (hbb.1 e),hal,hv0]
   rfl
  ·have hn:¬(F.h.Color=0∨F.h.Color=4):=fun h=>by rw [hbb.2 h] at e;cases e
   have h3l:3≤ss.length:=by
    rw [hsl]
    rcases hc.c with e | e | e | e | e
    ·exact absurd (.inl e) hn
    ·rw [e];decide
    ·exact absurd e e3
    ·exact absurd (.inr e) hn
    ·rw [e];decide
   obtain ⟨v1,hv1,hv1l⟩:=hss 1 (by omega)
   obtain ⟨v2,hv2,hv2l⟩:=hss 2 (by omega)
   refine ldS_of (r:=T_png_Head.rep) (x:=F.h) (by rw [add_zero];exact hcells hBd) ?_
   refine six (w':=w3) (i:=0) (by omega) (lI (scell hBd hv0) ?_)
   refine ldS_of (r:=T_png_Head.rep) (x:=F.h) (by rw [add_zero];exact hcells hBd) ?_
   refine six (w':=w3) (i:=1) (by omega) (lI (scell hBd hv1) ?_)
   refine ldS_of (r:=T_png_Head.rep) (x:=F.h) (by rw [add_zero];exact hcells hBd) ?_
   refine six (w':=w3) (i:=2) (by omega) (lI (scell hBd hv2) ?_)
   refine eight_spec hc hv0l fun w25 hB25=>?_
   have hB25':=bT hBd hB25
   refine ⟨scell hB25' hv2,by rw [add_zero];exact hcells hB25',scell hB25' hv1,by rw [add_zero];exact hcells hB25',?_⟩
   refine eight_spec hc hv1l fun w26 hB26=>?_
   have hB26':=bT hB25' hB26
   refine ⟨scell hB26' hv2,by rw [add_zero];exact hcells hB26',?_⟩
   refine eight_spec hc hv2l fun w27 hB27=>?_
   refine all_of (((h3d.ext hB25).ext hB26).ext hB27) rfl fun w28 h28 hc28 hs28=>?_
   have h28:Blk w28 w1.heap.size ty_pixel_Color (bcells [eightP F.h.Depth v0,eightP F.h.Depth v1,eightP F.h.Depth v2,255]):=h28
   refine base _ _ _ w28 e3 h28 ((((h13d.ext hB25).ext hB26).ext hB27).chg hc28 (by omega)) (b1o (bT hB26' hB27) hc28 (by omega)) fun al hal=>?_
   unfold colorP
   dsimp only
   rw [if_neg e3,if_neg hn,hal,hv0,hv1,hv2]
   rfl
 refine cO (fun e=>key _ ?_) fun e=>key _ ?_
 ·have:=eq_of_beq e;simp [this]
 ·have e:F.h.Color≠0:=by simpa using e
  simp [e]
end
end Go.Proofs.YtmagnpcgpinmcaaGreat
set_option linter.unusedVariables false
namespace Go.Proofs.YtmagnpcgpinmcaaGreat
open Go.Vc
set_option maxRecDepth 400000
theorem flatMap_split {α β:Type} (f:α→List β):∀(ps:List α) (L R:List β) (r:β),ps.flatMap f=L++r::R→∃(ps1:List α) (p:α) (ps2:List α) (A B:List β),ps=ps1++p::ps2∧f p=A++r::B∧L=ps1.flatMap f++A
 | [],L,R,r,h=>by simp at h
 | p::ps,L,R,r,h=>by
  rw [List.flatMap_cons] at h
  rcases List.append_eq_append_iff.1 h with ⟨a',e1,e2⟩ | ⟨c',e1,e2⟩
  ·obtain ⟨ps1,q,ps2,A,B,h1,h2,h3⟩:=flatMap_split f ps a' R r e2
   exact ⟨p::ps1,q,ps2,A,B,by rw [h1];rfl,h2,by rw [e1,h3,List.flatMap_cons,List.append_assoc]⟩
  ·cases c' with
   | nil =>
    obtain ⟨ps1,q,ps2,A,B,h1,h2,h3⟩:=flatMap_split f ps [] R r (by simpa using e2.symm)
    refine ⟨p::ps1,q,ps2,A,B,by rw [h1];rfl,h2,?_⟩
    rw [List.append_nil] at e1
    rw [←e1,List.flatMap_cons,List.append_assoc,←h3,List.append_nil]
   | cons x c' =>
    injection e2 with e2 e3
    subst e2
    exact ⟨[],p,ps,L,c',rfl,e1,rfl⟩
structure RowAt (h:T_png_Head) (W H:Nat) (L:List (PassP×Nat×Nat)) (r:PassP×Nat×Nat):Prop where
 mem:r.1∈passesP h.Lace
 w:r.2.2=(sizeP r.1 W H).1
 y:r.2.1<(sizeP r.1 W H).2
 last:r.2.1=0∨∃L',L=L'++[(r.1,r.2.1-1,r.2.2)]
theorem rowsL_split {h:T_png_Head} {W H:Nat} (ho:HeadOk h W H) {L R:List (PassP×Nat×Nat)} {r:PassP×Nat×Nat} (hL:rowsL h=L++r::R):RowAt h W H L r:=by
 unfold rowsL at hL
 rw [ho.wn,ho.hn] at hL
 obtain ⟨ps1,p,ps2,A,B,h1,h2,h3⟩:=flatMap_split _ _ _ _ _ hL
 have hAl:A.length<(sizeP p W H).2:=by
  rw [←rowsOf_length W H p,h2,List.length_append,List.length_cons]
  omega
 have hr:r=(p,A.length,(sizeP p W H).1):=by
  have e:=rowsOf_split W H p hAl
  rw [h2] at e
  have hl1:A.length=((A++r::B).take A.length).length:=by simp
  have:=(List.append_inj e hl1).2
  injection this
 refine ⟨by rw [hr,h1];simp,by rw [hr],by rw [hr];exact hAl,?_⟩
 rw [hr]
 by_cases h0:A.length=0
 ·exact .inl h0
 ·right
  have hA:A=(rowsOf W H p).take A.length:=by rw [h2];simp
  have e:=rowsOf_take_succ W H p (y:=A.length-1) (by omega)
  rw [show A.length-1+1=A.length by omega,←hA] at e
  refine ⟨ps1.flatMap (rowsOf W H)++(rowsOf W H p).take (A.length-1),?_⟩
  rw [h3]
  conv=>lhs;rw [e]
  rw [List.append_assoc]
theorem rowsRun_append (F:FilL):∀(a b:List (PassP×Nat×Nat)) (s:PxS),rowsRun F (a++b) s=match rowsRun F a s with | none=>none | some s'=>rowsRun F b s'
 | [],b,s=>rfl
 | r::a,b,s=>by
  rw [List.cons_append,rowsRun,rowsRun]
  cases rowStep F r s with
  | none=>rfl
  | some s'=>exact rowsRun_append F a b s'
theorem rowsRun_snoc {F:FilL} {a:List (PassP×Nat×Nat)} {s s' s2:PxS} {r:PassP×Nat×Nat} (h:rowsRun F a s=some s') (h2:rowStep F r s'=some s2):rowsRun F (a++[r]) s=some s2:=by
 rw [rowsRun_append,h]
 simp only [rowsRun,h2]
theorem rowsRun_bad {F:FilL} {a b:List (PassP×Nat×Nat)} {s s':PxS} {r:PassP×Nat×Nat} (h:rowsRun F a s=some s') (h2:rowStep F r s'=none):rowsRun F (a++r::b) s=none:=by
 rw [rowsRun_append,h]
 simp only [rowsRun,h2]
theorem putRow_none {F:FilL} {p:PassP} {y:Nat} {ss:List Nat} {m:List UInt8} {i n:Nat} (h:putRow F p y ss i m=none) (hin:i≤n):putRow F p y ss n m=none:=by
 induction n with
 | zero =>
      have:i=0:=by omega
      subst this;exact h
 | succ n ih =>
  by_cases e:i=n+1
  ·subst e;exact h
  ·rw [putRow,ih (by omega)]
theorem rowStep_b {F:FilL} {r:PassP×Nat×Nat} {s s':PxS} (h:rowStep F r s=some s'):s'.b=s.b.drop (1+rowB F.h r.2.2)∧s'.ahead.length=min (rowB F.h r.2.2) (s.b.length-1):=by
 unfold rowStep at h
 split at h
 ·cases h
 ·rename_i k b hb
  split at h
  ·cases h
  ·obtain ⟨m,hm,e⟩:=Option.map_eq_some_iff.1 h
   subst e
   rw [hb]
   refine ⟨?_,?_⟩
   ·rw [Nat.add_comm,List.drop_succ_cons]
   ·rw [undoP_length,List.length_take,List.length_cons]
    simp
theorem rowsRun_b {F:FilL}:∀(L:List (PassP×Nat×Nat)) (s s':PxS),rowsRun F L s=some s'→s'.b=s.b.drop (needL F.h L)
 | [],s,s',h=>by cases h;simp [needL]
 | r::L,s,s',h=>by
  rw [rowsRun] at h
  cases h1:rowStep F r s with
  | none=>rw [h1] at h;cases h
  | some s1 =>
   rw [h1] at h
   have:=rowsRun_b L s1 s' h
   rw [this,(rowStep_b h1).1,List.drop_drop]
   rfl
theorem needL_append (h:T_png_Head) (a b:List (PassP×Nat×Nat)):needL h (a++b)=needL h a+needL h b:=by simp [needL]
theorem ahead_len {F:FilL} {W H:Nat} (ho:HeadOk F.h W H) {L R:List (PassP×Nat×Nat)} {r:PassP×Nat×Nat} (hL:rowsL F.h=L++r::R) {s0 s:PxS} (hs:rowsRun F L s0=some s) (hn:needP F.h≤s0.b.length) :
  aheadOf r.2.1 s.ahead=[]∨(aheadOf r.2.1 s.ahead).length=rowB F.h r.2.2:=by
 unfold aheadOf
 by_cases h0:r.2.1=0
 ·rw [if_pos h0];exact .inl rfl
 rw [if_neg h0]
 right
 rcases (rowsL_split ho hL).last with h | ⟨L',hL'⟩
 ·exact absurd h h0
 subst hL'
 rw [rowsRun_append] at hs
 cases h1:rowsRun F L' s0 with
 | none=>rw [h1] at hs;cases hs
 | some s1 =>
  rw [h1] at hs
  simp only [rowsRun] at hs
  cases h2:rowStep F (r.1,r.2.1-1,r.2.2) s1 with
  | none=>rw [h2] at hs;cases hs
  | some s2 =>
   rw [h2] at hs
   cases hs
   have e:s.ahead.length=min (rowB F.h r.2.2) (s1.b.length-1):=(rowStep_b h2).2
   have hb:=rowsRun_b L' s0 s1 h1
   have hneed:needP F.h=needL F.h L'+(1+rowB F.h r.2.2)+needL F.h (r::R):=by
    show needL F.h (rowsL F.h)=_
    rw [hL,needL_append,needL_append]
    simp [needL]
   rw [e,hb,List.length_drop]
   omega
theorem need_room {F:FilL} {L R:List (PassP×Nat×Nat)} {r:PassP×Nat×Nat} (hL:rowsL F.h=L++r::R) {s0 s:PxS} (hs:rowsRun F L s0=some s) (hn:needP F.h≤s0.b.length):1+rowB F.h r.2.2≤s.b.length:=by
 have hb:=rowsRun_b L s0 s hs
 have hneed:needP F.h=needL F.h L+(1+rowB F.h r.2.2)+needL F.h R:=by
  show needL F.h (rowsL F.h)=_
  rw [hL,needL_append]
  simp [needL]
  omega
 rw [hb,List.length_drop]
 omega
theorem pix_room {W H:Nat} {p:PassP} {y x:Nat} (hx:x<(sizeP p W H).1) (hy:y<(sizeP p W H).2):pixAt W p y x+4≤4*W*H∧p.x+x*p.dx<W∧p.y+y*p.dy<H:=by
 unfold sizeP at hx hy
 split at hx
 ·exact absurd hx (by simp)
 ·rename_i hn
  rw [if_neg hn] at hy
  dsimp only at hx hy
  have h1:x*p.dx≤W-p.x-1:=by
   have:x≤(W-p.x-1)/p.dx:=by omega
   exact Nat.le_trans (Nat.mul_le_mul_right _ this) (Nat.div_mul_le_self _ _)
  have h2:y*p.dy≤H-p.y-1:=by
   have:y≤(H-p.y-1)/p.dy:=by omega
   exact Nat.le_trans (Nat.mul_le_mul_right _ this) (Nat.div_mul_le_self _ _)
  have hX:p.x+x*p.dx<W:=by omega
  have hY:p.y+y*p.dy<H:=by omega
  refine ⟨?_,hX,hY⟩
  unfold pixAt
  have h3:(p.y+y*p.dy+1)*W≤H*W:=Nat.mul_le_mul_right _ hY
  rw [Nat.add_mul,Nat.one_mul] at h3
  have h4:4*W*H=4*(H*W):=by rw [Nat.mul_assoc,Nat.mul_comm W H]
  rw [h4]
  generalize (p.y+y*p.dy)*W=Q at h3 ⊢
  generalize H*W=T at h3 ⊢
  generalize x*p.dx=V at hX ⊢
  omega
theorem sampleN_lt (row:List UInt8) (d i:Nat):sampleN row d i<2^d:=by
 unfold sampleN
 split
 ·rename_i h
  subst h
  have h1:=(row[2*i]?.getD 0).toNat_lt
  have h2:=(row[2*i+1]?.getD 0).toNat_lt
  omega
 ·exact Nat.mod_lt _ (Nat.pow_pos (by decide))
theorem samplesP_lt {row:List UInt8} {d n:Nat}:∀v∈samplesP row d n,v<2^d:=by
 intro v hv
 unfold samplesP at hv
 obtain ⟨i,_,rfl⟩:=List.mem_map.1 hv
 exact sampleN_lt _ _ _
theorem samplesP_length (row:List UInt8) (d n:Nat):(samplesP row d n).length=n:=by simp [samplesP]
theorem samplesOf_pos {h:T_png_Head} (hc:ColOk h):1≤samplesOf h.Color∧samplesOf h.Color≤4:=by
 unfold samplesOf
 rcases hc.c with e | e | e | e | e<;>rw [e]<;>decide
theorem rowB_bits {h:T_png_Head} (hc:ColOk h) {w:Nat} (h1:1≤w) (h2:w≤16384):samplesOf h.Color*w*h.Depth.toNat≤8*rowB h w:=by
 have hs:=samplesOf_pos hc
 have hd:isDepthP h.Depth=true:=by
  unfold isDepthP
  rcases hc.d with e | e | e | e | e<;>rw [e]<;>rfl
 have hdn:h.Depth=(h.Depth.toNat:Int):=by have:=hc.d;omega
 unfold rowB rowP
 rw [if_neg (by rw [hd];simp;omega)]
 have e:(w:Int)*(samplesOf h.Color:Int)*h.Depth=((samplesOf h.Color*w*h.Depth.toNat:Nat):Int):=by
  rw [hdn]
  simp only [Int.toNat_natCast,Int.natCast_mul]
  rw [Int.mul_comm (w:Int)]
 rw [e]
 omega
theorem stepN_ok {h:T_png_Head} (hc:ColOk h):1≤pStepN h∧pStepN h≤8:=by
 have hs:=samplesOf_pos hc
 have hd:1≤h.Depth.toNat∧h.Depth.toNat≤16:=by have:=hc.d;omega
 unfold pStepN
 have h1:1*1≤samplesOf h.Color*h.Depth.toNat:=Nat.mul_le_mul hs.1 hd.1
 have h2:samplesOf h.Color*h.Depth.toNat≤4*16:=Nat.mul_le_mul hs.2 hd.2
 omega
theorem sizeP_pos {p:PassP} {W H y:Nat} (hy:y<(sizeP p W H).2):1≤(sizeP p W H).1:=by
 unfold sizeP at hy ⊢
 split
 ·rename_i h;rw [if_pos h] at hy;exact absurd hy (by simp)
 ·exact Nat.le_add_left 1 _
end Go.Proofs.YtmagnpcgpinmcaaGreat
set_option linter.unusedVariables false
namespace Go.Proofs.YtmagnpcgpinmcaaGreat
open Go.Vc Go.RowKit
set_option maxRecDepth 400000
structure PxI (w0:World) (g:Nat) (F:FilL) (W H:Nat) (bn bf ba bb bs bm gm:Nat) (tm:Slc) (S:PxS) (w1:World):Prop where
 n:Blk w1 bn ty_int [.int .i64 ((samplesOf F.h.Color:Nat):Int)]
 f:Blk w1 bf ty_p_png_file [.pointer (some ⟨g,0,none⟩)]
 st:Blk w1 bs ty_int [.int .i64 ((pStepN F.h:Nat):Int)]
 m:Blk w1 bm ty_api_Matrix (T_api_Matrix.rep.cells ⟨W,H,tm⟩)
 ah:∃sa:Slc,Blk w1 ba ty_sl_uint8 [.slice sa.a sa.n sa.c]∧Go.Vc.Own E_uint8 w1 w0.heap.size sa S.ahead∧(∀k,sa.blk=some k→k≠gm)
 b:∃sb:Slc,Blk w1 bb ty_sl_uint8 [.slice sb.a sb.n sb.c]∧Rd E_uint8 w0 sb S.b
 row:Go.Vc.Own E_uint8 w1 w0.heap.size tm S.m
 B:Below w0.heap.size w0 w1
structure PxC (w0:World) (bn bf ba bb bs bm gm:Nat) (tm:Slc):Prop where
 ab:ba≠bb
 ns:bn≠bs
 al:w0.heap.size≤ba
 bl:w0.heap.size≤bb
 gl:w0.heap.size≤gm
 tm:tm.a=some ⟨gm,0,none⟩
section
variable {w0:World} {g b:Nat} {F:FilL} {p t d:Slc} {W H bn bf ba bb bs bm gm:Nat} {tm:Slc} {S:PxS}
theorem PxI.ext {w1 w2:World} (h:PxI w0 g F W H bn bf ba bb bs bm gm tm S w1) (hB:Below w1.heap.size w1 w2):PxI w0 g F W H bn bf ba bb bs bm gm tm S w2:=by
 obtain ⟨h1,h2,h3,h4,⟨sa,h5,h6,h7⟩,⟨sb,h8,h9⟩,h10,h11⟩:=h
 exact ⟨h1.ext hB,h2.ext hB,h3.ext hB,h4.ext hB,⟨sa,h5.ext hB,h6.ext hB,h7⟩,⟨sb,h8.ext hB,h9⟩,h10.ext hB,bT h11 hB⟩
theorem at_cell {w:World} {bx t:Nat} {v:Value} (h:Blk w bx t [v]):w.cell? ⟨bx,0,none⟩=some v:=h.cell 0 rfl
theorem pixels1_spec (hF:FilA w0 g b F p t d) (ho:FilOk F) (hh:HeadOk F.h W H) (hpl:F.pal.length≤1000000) (htl:F.tr.length≤1000000) (hc:PxC w0 bn bf ba bb bs bm gm tm) {x0:PxS} {L R:List (PassP×Nat×Nat)} {r:PassP×Nat×Nat} (hL:rowsL F.h=L++r::R) (hx0:needP F.h≤x0.b.length) (hx0l:x0.b.length≤1000000000) (hS:rowsRun F L x0=some S)
  (hml:S.m.length=4*W*H) {w1:World} (hI:PxI w0 g F W H bn bf ba bb bs bm gm tm S w1) {J:Bool→World→Prop}
  (hJ1:∀S' w2,rowStep F r S=some S'→S'.m.length=4*W*H→PxI w0 g F W H bn bf ba bb bs bm gm tm S' w2→Chg (fun k=>k=ba∨k=bb∨k=gm) w1 w2→J true w2) (hJ0:∀w2,rowStep F r S=none→Chg (fun k=>k=ba∨k=bb∨k=gm) w1 w2→J false w2) :
  c_png_file_pixels_1 (passT r.1) (r.2.1:Int) (r.2.2:Int) ⟨bn,0,none⟩ ⟨bf,0,none⟩ ⟨ba,0,none⟩ ⟨bb,0,none⟩ ⟨bs,0,none⟩ ⟨bm,0,none⟩ w1 J:=by
 obtain ⟨_,hco⟩:=checkP_ok ho.hd
 have hra:=rowsL_split hh hL
 have hroom:=need_room hL hS hx0
 have hal:=ahead_len hh hL hS hx0
 have hSb:=rowsRun_b L x0 S hS
 have hSbl:S.b.length≤1000000000:=by rw [hSb,List.length_drop];omega
 have hw1:1≤r.2.2:=by rw [hra.w];exact sizeP_pos hra.y
 have hw2:r.2.2≤16384:=by rw [hra.w];have:=(sizeP_le r.1 W H).1;have:=hh.w2;omega
 have hdx:=passes_dx F.h.Lace r.1 hra.mem
 have hW2:=hh.w2
 have hH2:=hh.h2
 have hyH:r.2.1<16384:=by have:=hra.y;have:=(sizeP_le r.1 W H).2;omega
 have hsm:=samplesOf_pos hco
 have hbits:=rowB_bits hco hw1 hw2
 have hstep:=stepN_ok hco
 have hrowb:rowB F.h r.2.2≤131072:=rowP_le _ _ _
 obtain ⟨cs,hcs⟩:∃cs,cs=samplesOf F.h.Color:=⟨_,rfl⟩
 obtain ⟨sz,hsz⟩:∃sz,sz=rowB F.h r.2.2:=⟨_,rfl⟩
 have hrP:rowP (r.2.2:Int) ((samplesOf F.h.Color:Nat):Int) F.h.Depth=sz:=hsz.symm
 rw [←hsz] at hroom hal hbits hrowb
 obtain ⟨hn,hf,hst,hm,⟨sa,hba,hsa,hsag⟩,⟨sb,hbb,hsb⟩,hrow,hB01⟩:=hI
 refine call_png_file_pixels_1 _ _ _ _ _ _ _ _ _ ?_
 unfold sh_png_file_pixels_1
 refine nwb fun w2 hp2 hB2 hs2=>?_
 have hBd:=bT hB2 (bdw w2)
 have hF2:=hF.ext (bT hB01 hBd)
 refine lI (x:=((samplesOf F.h.Color:Nat):Int)) (at_cell (hn.ext hBd)) (ldP_of (x:=some ⟨g,0,none⟩) (at_cell (hf.ext hBd)) ?_)
 simp only [onPtr_some]
 refine lI (x:=F.h.Depth) (by rw [add_zero];exact hF2.blk.cells 2 _ rfl) (Row_spec ?_)
 rw [hrP]
 have e1:IntKind.i64.wrap ((1:Int)+(sz:Int))=((1+sz:Nat):Int):=by rw [w64i (by omega)];simp
 rw [e1]
 have hgF:g<w0.heap.size:=hF.blk.lt
 have hs01:=hB01.size
 refine jpO fun J1 hJ1'=>?_
 have main:∀(sa':Slc) w3,Blk w3 ba ty_sl_uint8 [.slice sa'.a sa'.n sa'.c]→Go.Vc.Own E_uint8 w3 w0.heap.size sa' (aheadOf r.2.1 S.ahead)→Chg (fun k=>k=ba) w1 w3→Blk w3 w1.heap.size ty_filter_Pass (T_q8_Pass.rep.cells (passT r.1))→J1 () w3:=by
  intro sa' w3 hba3 hsa3 hc3 hp3
  refine hJ1' _ _ ?_
  have hn3:Blk w3 bn ty_int _:=hn.chg hc3 fun e=>by subst e;exact hn.ne_t hba (by decide) rfl
  have hf3:Blk w3 bf ty_p_png_file _:=hf.chg hc3 fun e=>by subst e;exact hf.ne_t hba (by decide) rfl
  have hst3:Blk w3 bs ty_int _:=hst.chg hc3 fun e=>by subst e;exact hst.ne_t hba (by decide) rfl
  have hm3:Blk w3 bm ty_api_Matrix _:=hm.chg hc3 fun e=>by subst e;exact hm.ne_t hba (by decide) rfl
  have hbb3:Blk w3 bb ty_sl_uint8 _:=hbb.chg hc3 fun e=>hc.ab e.symm
  have hrow3:=hrow.chg hc3 fun k hk=>own_ne_blk hrow hba (by decide) k hk
  have hB03:Below w0.heap.size w0 w3:=b1o hB01 hc3 hc.al
  have hBd3:=bdw w3
  have hB03d:=bT hB03 hBd3
  have hbb3d:=hbb3.ext hBd3
  have hsbd:=hsb.ext hB03d
  obtain ⟨k0,bt,hSbe⟩:∃k0 bt,S.b=k0::bt:=by
   match hb:S.b,hroom with
   | [],h=>simp at h
   | k0::bt,_=>exact ⟨k0,bt,rfl⟩
  have hbtl:sz≤bt.length:=by rw [hSbe,List.length_cons] at hroom;omega
  have hSl:S.b.length=bt.length+1:=by rw [hSbe];rfl
  refine lSl (x:=sb) (at_cell hbb3d) ?_
  refine hsbd.ix (i:=0) rfl (by omega) (by omega) fun _=>?_
  refine lI (x:=(k0.toNat:Int)) (rdcell (i:=0) hsbd (by rw [hSbe];rfl)) ?_
  refine lSl (x:=sb) (at_cell hbb3d) ?_
  refine hsbd.slK (l:=1) (m:=1+sz) rfl (.inr rfl) (.inr rfl) (by omega) (by omega) fun hpart=>?_
  have hpe:(S.b.take (1+sz)).drop 1=bt.take sz:=by rw [hSbe,Nat.add_comm 1 sz,List.take_succ_cons];rfl
  rw [hpe] at hpart
  refine lSl (x:=sa') (at_cell (hba3.ext hBd3)) (lI (x:=((pStepN F.h:Nat):Int)) (at_cell (hst3.ext hBd3)) ?_)
  rw [w8]
  have hsa3d:=hsa3.ext hBd3
  have hstepE:rowStep F r S=if k0.toNat>4 then none else (putRow F r.1 r.2.1 (samplesP (undoP k0.toNat (bt.take sz) (aheadOf r.2.1 S.ahead) (pStepN F.h)) F.h.Depth.toNat (samplesOf F.h.Color*r.2.2)) r.2.2 S.m).map fun m=>⟨bt.drop sz,undoP k0.toNat (bt.take sz) (aheadOf r.2.1 S.ahead) (pStepN F.h),m⟩:=by
   unfold rowStep
   rw [hSbe,hsz]
  have htkl:(bt.take sz).length=sz:=by rw [List.length_take];omega
  refine Undo_spec hpart hsa3d.rd hstep.1 hstep.2 (by rw [htkl];exact hal) (by omega) (fun h4=>?_) (fun h4 rw_ w4 hrw hB4=>?_)
  ·refine cT (by decide) (hJ0 _ ?_ ?_)
   ·rw [hstepE,if_pos h4]
   ·exact (hc3.trans (Chg.of_ext (S:=fun k=>k=ba) hBd3) fun i _ hi=>hi).mono fun i _ hi=>.inl hi
  rw [if_neg (by omega)] at hstepE
  refine cF rfl ?_
  obtain ⟨rl,hrl⟩:∃rl,rl=undoP k0.toNat (bt.take sz) (aheadOf r.2.1 S.ahead) (pStepN F.h):=⟨_,rfl⟩
  rw [←hrl] at hstepE hrw
  have hrll:rl.length=sz:=by rw [hrl,undoP_length,htkl]
  have hBd4:=bT hBd3 hB4
  have hbb4:=hbb3.ext hBd4
  have hB04:=bT hB03 hBd4
  have hsb4:=hsb.ext hB04
  refine lSl (x:=sb) (at_cell hbb4) ?_
  refine hsb4.slK (l:=1+sz) (m:=S.b.length) rfl (.inr rfl) (.inl ⟨rfl,rfl⟩) (by omega) (by omega) fun _=>?_
  have hsb':=hsb.part (l:=1+sz) (m:=S.b.length) (by omega) (by omega)
  rw [List.take_length] at hsb'
  have hde:S.b.drop (1+sz)=bt.drop sz:=by rw [hSbe,Nat.add_comm 1 sz,List.drop_succ_cons]
  rw [hde] at hsb'
  obtain ⟨sb2,hsb2⟩:∃sb2:Slc,sb2=⟨cut sb.a (1+sz) sb.c E_uint8.k,S.b.length-(1+sz),sb.c-(1+sz)⟩:=⟨_,rfl⟩
  rw [←hsb2] at hsb' ⊢
  refine all_of hbb4 rfl fun w5 hbb5 hc5 hs5=>?_
  have hba5:=(hba3.ext hBd4).chg hc5 hc.ab
  refine all_of hba5 rfl fun w6 hba6 hc6 hs6=>?_
  have hbb6:=hbb5.chg hc6 fun e=>hc.ab e.symm
  have hrwg:∀k,rw_.blk=some k→w3.drew.heap.size≤k:=fun k hk=>(hrw.lt k hk).1
  have hsz3:w3.drew.heap.size=w3.heap.size:=rfl
  have hbal:=hba3.lt
  have hbbl:=hbb3.lt
  have hrw6:=(hrw.chg hc5 fun k hk e=>by have:=hrwg k hk;omega).chg hc6 fun k hk e=>by have:=hrwg k hk;omega
  have hc56:Chg (fun k=>k=ba∨k=bb) w3 w6:=((Chg.of_ext (S:=fun k=>k=ba∨k=bb) hBd4).trans (hc5.mono fun i _ hi=>.inr hi) fun i _ hi=>hi).trans (hc6.mono fun i _ hi=>.inl hi) fun i _ hi=>hi
  have keep:∀{k tt:Nat} {cs:List Value},tt≠ty_sl_uint8→Blk w3 k tt cs→Blk w6 k tt cs:=fun {k tt cs} hne hb=>hb.chg hc56 fun e=>by
   rcases e with e | e
   ·subst e;exact hb.ne_t hba3 hne rfl
   ·subst e;exact hb.ne_t hbb3 hne rfl
  have hn6:=keep (by decide) hn3
  have hf6:=keep (by decide) hf3
  have hst6:=keep (by decide) hst3
  have hm6:=keep (by decide) hm3
  have hp6:=keep (by decide) hp3
  have hrow6:=hrow3.chg hc56 fun k hk e=>by
   rcases e with e | e
   ·exact own_ne_blk hrow3 hba3 (by decide) k hk e
   ·exact own_ne_blk hrow3 hbb3 (by decide) k hk e
  have hB06:Below w0.heap.size w0 w6:=(hB03).trans (hc56.below (by have:=hB03.size;omega) fun i hi e=>by have:=hc.al;have:=hc.bl;omega)
  have hBd6:=bdw w6
  have hB06d:=bT hB06 hBd6
  have hF6:=hF.ext hB06d
  refine ldP_of (x:=some ⟨g,0,none⟩) (at_cell (hf6.ext hBd6)) ?_
  simp only [onPtr_some]
  refine lI (x:=F.h.Depth) (by rw [add_zero];exact hF6.blk.cells 2 _ rfl) (lI (x:=((samplesOf F.h.Color:Nat):Int)) (at_cell (hn6.ext hBd6)) ?_)
  have hnw:samplesOf F.h.Color*r.2.2≤4*16384:=Nat.mul_le_mul hsm.2 hw2
  have e2:IntKind.i64.wrap (((samplesOf F.h.Color:Nat):Int)*(r.2.2:Int))=((samplesOf F.h.Color*r.2.2:Nat):Int):=by
   rw [show ((samplesOf F.h.Color:Nat):Int)*(r.2.2:Int)=((samplesOf F.h.Color*r.2.2:Nat):Int) by simp,w64i (by omega)]
  rw [e2]
  have hdn:F.h.Depth=((F.h.Depth.toNat:Nat):Int):=by have:=hco.d;omega
  have hrw6d:=hrw6.ext hBd6
  have hsam:=FSamples_spec (w:=w6.drew) (d:=F.h.Depth.toNat) (n:=samplesOf F.h.Color*r.2.2) hrw6d.rd (by have:=hco.d;omega) (by rw [hrll];exact hbits) (by omega)
   (K:=fun t62 t62_1 w7=>loopP (σ:=Int×Unit) (fun I2 s_1 w8 =>
     cond (decide (s_1.1<(r.2.2:Int)))
      (
      ldP (⟨bf,0,none⟩:Addr) w8.drew fun t70 =>
      ldI .i64 (⟨bn,0,none⟩:Addr) w8.drew fun t72 =>
      ldI .i64 (⟨bn,0,none⟩:Addr) w8.drew fun t75 =>
      ldI .i64 (⟨bn,0,none⟩:Addr) w8.drew fun t78 =>
      slK t62 (some (IntKind.i64.wrap (t72*s_1.1))) (some (IntKind.i64.wrap ((IntKind.i64.wrap (t75*s_1.1))+t78))) 1 fun t80 =>
       (
        c_png_file_color t70 t80 w8.drew fun t81 t81_1 w9 =>
        nw ty_pixel_Color [(.int .u8 0),(.int .u8 0),(.int .u8 0),(.int .u8 0)] w9 fun c w10 =>
        World.cell? w10 (⟨bn,0,none⟩:Addr)=some (.int .i64 t78) ∧
        World.cell? w10 (⟨bn,0,none⟩:Addr)=some (.int .i64 t75) ∧
        World.cell? w10 (⟨bn,0,none⟩:Addr)=some (.int .i64 t72) ∧
        World.cell? w10 (⟨bf,0,none⟩:Addr)=some (.pointer t70) ∧
        stK c (T_pixel_Color.rep.cells t81) w10 fun w11 =>
        cond (!t81_1)
         (J false w11)
         (
         ldSl ((⟨bm,0,none⟩:Addr).add 2) w11.drew fun t87 =>
         ldI .i64 ((⟨w1.heap.size,0,none⟩:Addr).add 1) w11.drew fun t89 =>
         ldI .i64 ((⟨w1.heap.size,0,none⟩:Addr).add 3) w11.drew fun t92 =>
         ldP (⟨bf,0,none⟩:Addr) w11.drew fun t95 =>
         onPtr t95 fun t96 =>
         ldI .i64 ((t96.add 0).add 0) w11.drew fun t99 =>
         ldI .i64 ((⟨w1.heap.size,0,none⟩:Addr).add 0) w11.drew fun t102 =>
         ldI .i64 ((⟨w1.heap.size,0,none⟩:Addr).add 2) w11.drew fun t106 =>
         slK t87 (some (IntKind.i64.wrap ((4:Int)*(IntKind.i64.wrap ((IntKind.i64.wrap ((IntKind.i64.wrap ((IntKind.i64.wrap (t89+(IntKind.i64.wrap ((r.2.1:Int)*t92))))*t99))+t102))+(IntKind.i64.wrap (s_1.1*t106))))))) none 1 fun t110 =>
         slA c 4 none none 1 fun t111 =>
         runK1 PG (Builtin.copy_ #[ty_sl_uint8,ty_sl_uint8] ty_int #[(.slice t110.a t110.n t110.c),(.slice t111.a t111.n t111.c)]) (Kind.int .i64) w11.drew fun (t112:Int) w12 =>
         I2 ((IntKind.i64.wrap (s_1.1+(1:Int))),()) w12)) ∧
      nw ty_pixel_Color [(.int .u8 0),(.int .u8 0),(.int .u8 0),(.int .u8 0)] w8.drew fun c_1 w13 =>
      World.cell? w13 (⟨bn,0,none⟩:Addr)=some (.int .i64 t78) ∧
      World.cell? w13 (⟨bn,0,none⟩:Addr)=some (.int .i64 t75) ∧
      World.cell? w13 (⟨bn,0,none⟩:Addr)=some (.int .i64 t72) ∧
      World.cell? w13 (⟨bf,0,none⟩:Addr)=some (.pointer t70) ∧
      c_png_file_color t70 t80 w13 fun t81_2 t81_3 w14 =>
      stK c_1 (T_pixel_Color.rep.cells t81_2) w14 fun w15 =>
      cond (!t81_3)
       (J false w15)
       (
        ldSl ((⟨bm,0,none⟩:Addr).add 2) w15.drew fun t87_1 =>
        ldI .i64 ((⟨w1.heap.size,0,none⟩:Addr).add 1) w15.drew fun t89_1 =>
        ldI .i64 ((⟨w1.heap.size,0,none⟩:Addr).add 3) w15.drew fun t92_1 =>
        ldP (⟨bf,0,none⟩:Addr) w15.drew fun t95_1 =>
        onPtr t95_1 fun t96_1 =>
        ldI .i64 ((t96_1.add 0).add 0) w15.drew fun t99_1 =>
        ldI .i64 ((⟨w1.heap.size,0,none⟩:Addr).add 0) w15.drew fun t102_1 =>
        ldI .i64 ((⟨w1.heap.size,0,none⟩:Addr).add 2) w15.drew fun t106_1 =>
        slK t87_1 (some (IntKind.i64.wrap ((4:Int)*(IntKind.i64.wrap ((IntKind.i64.wrap ((IntKind.i64.wrap ((IntKind.i64.wrap (t89_1+(IntKind.i64.wrap ((r.2.1:Int)*t92_1))))*t99_1))+t102_1))+(IntKind.i64.wrap (s_1.1*t106_1))))))) none 1 fun t110_1 =>
        slA c_1 4 none none 1 fun t111_1 =>
        runK1 PG (Builtin.copy_ #[ty_sl_uint8,ty_sl_uint8] ty_int #[(.slice t110_1.a t110_1.n t110_1.c),(.slice t111_1.a t111_1.n t111_1.c)]) (Kind.int .i64) w15.drew fun (t112_1:Int) w16 =>
        I2 ((IntKind.i64.wrap (s_1.1+(1:Int))),()) w16))
      (J true w8)) (0,()) w7)
  rw [←hdn] at hsam
  refine hsam fun sp w7 hsp hB7=>?_
  clear hsam
  obtain ⟨ss,hss⟩:∃ss,ss=samplesP rl F.h.Depth.toNat (samplesOf F.h.Color*r.2.2):=⟨_,rfl⟩
  rw [←hss] at hsp hstepE
  have hssl:ss.length=samplesOf F.h.Color*r.2.2:=by rw [hss,samplesP_length]
  have hssv:∀v∈ss,v<2^F.h.Depth.toNat:=by rw [hss];exact samplesP_lt
  have hB67:=bT hBd6 hB7
  have hs67:=hB67.size
  have hrow7:=hrow6.ext hB67
  have hWn:=hh.wn
  have hrooms:∀x,x<r.2.2→pixAt W r.1 r.2.1 x+4≤4*W*H:=fun x hx=>(pix_room (by rw [hra.w] at hx;exact hx) hra.y).1
  have hWH:4*W*H≤4*16384*16384:=Nat.mul_le_mul (Nat.mul_le_mul_left 4 hW2) hH2
  refine lpR (fun (st:Int×Unit) w8=>∃(x:Nat) (m:List UInt8),st.1=x∧x≤r.2.2∧putRow F r.1 r.2.1 ss x S.m=some m∧m.length=4*W*H∧Go.Vc.Own E_uint8 w8 w0.heap.size tm m∧Chg (fun k=>k=gm) w7 w8) (fun st=>r.2.2-st.1.toNat)
   ⟨0,S.m,rfl,by omega,rfl,hml,hrow7,Chg.refl _ _⟩ ?_
  rintro ⟨x,u⟩ w8 ⟨x,m,rfl,hx,hput,hmlen,hrow8,hc8⟩ I hIl
  dsimp only
  have hgm6:gm<w6.heap.size:=(hrow6.lt gm (by unfold Slc.blk;rw [hc.tm];rfl)).2
  have keep8:∀{k tt:Nat} {cs:List Value},tt≠ty_uint8→Blk w6 k tt cs→Blk w8 k tt cs:=fun {k tt cs} hne hb=>(hb.ext hB67).chg hc8 fun e=>by
   subst e
   obtain ⟨cs',hcs'⟩:=hrow7.blk_t (g:=k) (by unfold Slc.blk;rw [hc.tm];rfl)
   exact (hb.ext hB67).ne_t hcs' hne rfl
  have hn8:=keep8 (by decide) hn6
  have hf8:=keep8 (by decide) hf6
  have hm8:=keep8 (by decide) hm6
  have hp8:=keep8 (by decide) hp6
  have hB08:Below w0.heap.size w0 w8:=b1o (bT hB06 hB67) hc8 hc.gl
  have hC38:Chg (fun k=>k=ba∨k=bb∨k=gm) w1 w8:=by
   refine (((hc3.mono fun i _ hi=>(.inl hi:i=ba∨i=bb∨i=gm)).trans (hc56.mono fun i _ hi=>(by rcases hi with h | h;exact .inl h;exact .inr (.inl h):i=ba∨i=bb∨i=gm)) fun i _ hi=>hi).trans (Chg.of_ext (S:=fun k=>k=ba∨k=bb∨k=gm) hB67) fun i _ hi=>hi).trans (hc8.mono fun i _ hi=>.inr (.inr hi)) fun i _ hi=>hi
  refine cO (fun hlt=>?_) fun hge=>?_
  ·have hlt:=of_decide_eq_true hlt
   have hxl:x<r.2.2:=by omega
   have hBd8:=bdw w8
   have hcx:samplesOf F.h.Color*x+samplesOf F.h.Color≤samplesOf F.h.Color*r.2.2:=by
    have:=Nat.mul_le_mul_left (samplesOf F.h.Color) (show x+1≤r.2.2 from hxl)
    rw [Nat.mul_add,Nat.mul_one] at this
    exact this
   have ex:IntKind.i64.wrap (((samplesOf F.h.Color:Nat):Int)*(x:Int))=((samplesOf F.h.Color*x:Nat):Int):=by
    rw [show ((samplesOf F.h.Color:Nat):Int)*(x:Int)=((samplesOf F.h.Color*x:Nat):Int) by simp,w64i (by omega)]
   have ex2:IntKind.i64.wrap (((samplesOf F.h.Color*x:Nat):Int)+((samplesOf F.h.Color:Nat):Int))=((samplesOf F.h.Color*x+samplesOf F.h.Color:Nat):Int):=by
    rw [w64i (by omega)];simp
   refine ldP_of (x:=some ⟨g,0,none⟩) (at_cell (hf8.ext hBd8)) (lI (x:=((samplesOf F.h.Color:Nat):Int)) (at_cell (hn8.ext hBd8)) (lI (x:=((samplesOf F.h.Color:Nat):Int)) (at_cell (hn8.ext hBd8)) (lI (x:=((samplesOf F.h.Color:Nat):Int)) (at_cell (hn8.ext hBd8)) ?_)))
   rw [ex,ex2]
   have hsp8:Go.Vc.Own E_int w8 w6.drew.heap.size sp (intsN ss):=hsp.chg hc8 fun k hk e=>by have:=(hsp.lt k hk).1;have h6:w6.drew.heap.size=w6.heap.size:=rfl;omega
   refine hsp8.rd.slK (l:=samplesOf F.h.Color*x) (m:=samplesOf F.h.Color*x+samplesOf F.h.Color) rfl (.inr rfl) (.inr rfl) (by omega) (by rw [ints_length,hssl];exact hcx) fun hpt=>?_
   obtain ⟨s4,hs4⟩:∃s4,s4=(ss.drop (samplesOf F.h.Color*x)).take (samplesOf F.h.Color):=⟨_,rfl⟩
   have hpe4:((intsN ss).take (samplesOf F.h.Color*x+samplesOf F.h.Color)).drop (samplesOf F.h.Color*x)=intsN s4:=by
    rw [hs4,List.drop_take,Nat.add_sub_cancel_left]
    unfold intsN
    rw [List.map_take,List.map_drop]
   rw [hpe4] at hpt
   have hs4l:s4.length=samplesOf F.h.Color:=by rw [hs4,List.length_take,List.length_drop,hssl];omega
   have hs4v:∀v∈s4,v<2^F.h.Depth.toNat:=fun v hv=>hssv v (by rw [hs4] at hv;exact List.mem_of_mem_drop (List.mem_of_mem_take hv))
   have hputn:putRow F r.1 r.2.1 ss (x+1) S.m=(colorP F s4).map (set4 m (pixAt W r.1 r.2.1 x)):=by
    rw [putRow,hput,hs4,hWn]
   have hbadp:colorP F s4=none→rowStep F r S=none:=fun hcn=>by
    rw [hcn] at hputn
    rw [hstepE,putRow_none hputn (show x+1≤r.2.2 from hxl)]
    rfl
   have hF8:∀{w'},Below w8.heap.size w8 w'→FilA w' g b F p t d:=fun hB=>hF.ext (bT hB08 hB)
   have fin:∀(a b' c' d':UInt8) (bc:Nat) w11,colorP F s4=some [a,b',c',d']→Blk w11 bc ty_pixel_Color (bcells [a,b',c',d'])→Below w8.heap.size w8 w11 →
     (ldSl ((
         ⟨bm,0,none⟩:Addr).add 2) w11.drew fun t87 =>
         ldI .i64 ((⟨w1.heap.size,0,none⟩:Addr).add 1) w11.drew fun t89 =>
         ldI .i64 ((⟨w1.heap.size,0,none⟩:Addr).add 3) w11.drew fun t92 =>
         ldP (⟨bf,0,none⟩:Addr) w11.drew fun t95 =>
         onPtr t95 fun t96 =>
         ldI .i64 ((t96.add 0).add 0) w11.drew fun t99 =>
         ldI .i64 ((⟨w1.heap.size,0,none⟩:Addr).add 0) w11.drew fun t102 =>
         ldI .i64 ((⟨w1.heap.size,0,none⟩:Addr).add 2) w11.drew fun t106 =>
         slK t87 (some (IntKind.i64.wrap ((4:Int)*(IntKind.i64.wrap ((IntKind.i64.wrap ((IntKind.i64.wrap ((IntKind.i64.wrap (t89+(IntKind.i64.wrap ((r.2.1:Int)*t92))))*t99))+t102))+(IntKind.i64.wrap ((x:Int)*t106))))))) none 1 fun t110 =>
         slA (⟨bc,0,none⟩:Addr) 4 none none 1 fun t111 =>
         runK1 PG (Builtin.copy_ #[ty_sl_uint8,ty_sl_uint8] ty_int #[(.slice t110.a t110.n t110.c),(.slice t111.a t111.n t111.c)]) (Kind.int .i64) w11.drew fun (t112:Int) w12 =>
         I ((IntKind.i64.wrap ((x:Int)+(1:Int))),()) w12):=by
    intro a b' c' d' bc w11 hcol hbc hB11
    have hB11d:=bT hB11 (bdw w11)
    have hm11:=hm8.ext hB11d
    have hp11:=hp8.ext hB11d
    have hF11:=hF8 hB11d
    have hrow11:=hrow8.ext hB11d
    refine lSl (x:=tm) (hm11.cells 2 _ rfl) ?_
    refine lI (x:=(r.1.y:Int)) (hp11.cells 1 _ rfl) (lI (x:=(r.1.dy:Int)) (hp11.cells 3 _ rfl) ?_)
    refine ldP_of (x:=some ⟨g,0,none⟩) (at_cell (hf8.ext hB11d)) ?_
    simp only [onPtr_some]
    refine lI (x:=(W:Int)) (by rw [add_zero,←hh.w];exact hF11.blk.cells 0 _ rfl) ?_
    refine lI (x:=(r.1.x:Int)) (hp11.cells 0 _ rfl) (lI (x:=(r.1.dx:Int)) (hp11.cells 2 _ rfl) ?_)
    have hroom:=hrooms x hxl
    obtain ⟨hr1,hr2,hr3⟩:=pix_room (W:=W) (H:=H) (p:=r.1) (y:=r.2.1) (x:=x) (by rw [←hra.w];exact hxl) hra.y
    have eidx:IntKind.i64.wrap ((4:Int)*(IntKind.i64.wrap ((IntKind.i64.wrap ((IntKind.i64.wrap ((IntKind.i64.wrap ((r.1.y:Int)+(IntKind.i64.wrap ((r.2.1:Int)*(r.1.dy:Int)))))*(W:Int)))+(r.1.x:Int)))+(IntKind.i64.wrap ((x:Int)*(r.1.dx:Int))))))=((pixAt W r.1 r.2.1 x:Nat):Int):=by
     unfold pixAt at hr1 ⊢
     have h1:r.2.1*r.1.dy≤16384:=by omega
     have h2:x*r.1.dx≤16384:=by omega
     rw [show (r.2.1:Int)*(r.1.dy:Int)=((r.2.1*r.1.dy:Nat):Int) by simp,w64i (x:=((r.2.1*r.1.dy:Nat):Int)) (by omega),show (x:Int)*(r.1.dx:Int)=((x*r.1.dx:Nat):Int) by simp,w64i (x:=((x*r.1.dx:Nat):Int)) (by omega),
      show (r.1.y:Int)+((r.2.1*r.1.dy:Nat):Int)=((r.1.y+r.2.1*r.1.dy:Nat):Int) by simp,w64i (x:=((r.1.y+r.2.1*r.1.dy:Nat):Int)) (by omega),show ((r.1.y+r.2.1*r.1.dy:Nat):Int)*(W:Int)=(((r.1.y+r.2.1*r.1.dy)*W:Nat):Int) by simp]
     generalize (r.1.y+r.2.1*r.1.dy)*W=q at hr1 ⊢
     generalize x*r.1.dx=v at hr1 h2 ⊢
     generalize 4*W*H=T at hr1 hWH
     rw [w64i (x:=((q:Nat):Int)) (by omega),w64i (x:=((q:Nat):Int)+(r.1.x:Int)) (by omega),w64i (x:=((q:Nat):Int)+(r.1.x:Int)+((v:Nat):Int)) (by omega),w64i (by omega)]
     omega
    rw [eidx]
    obtain ⟨k,hk⟩:∃k,k=pixAt W r.1 r.2.1 x:=⟨_,rfl⟩
    rw [←hk] at hroom ⊢
    obtain ⟨cur,hcur,hcl,hct,hc1,hc2,hc3',hc4⟩:=own_cur (c:=0) hrow11 hc.tm
    refine hrow11.rd.slK (l:=k) (m:=m.length) rfl (.inr rfl) (.inl ⟨rfl,rfl⟩) (by omega) (by omega) fun _=>?_
    have hcut:cut tm.a k tm.c E_uint8.k=some ⟨gm,k,none⟩:=by
     unfold cut
     rw [if_neg (by omega),hc.tm]
     show some ((⟨gm,0,none⟩:Addr).add (k*1))=_
     rw [add_mk,Nat.mul_one,Nat.zero_add]
    rw [hcut]
    have hrc:Rd E_uint8 w11.drew ⟨some ⟨bc,0,none⟩,4,4⟩ [a,b',c',d']:=by
     refine ⟨rfl,Nat.le_refl _,by simp [maxLen],fun _=>rfl,fun i y hy=>?_⟩
     have hbc':=(hbc.ext (bdw w11)).cells i (.int .u8 (y.toNat:Int)) (by unfold bcells;rw [List.getElem?_map,hy];rfl)
     intro j v hj
     match j,hj with
     | 0,hj =>
      cases hj
      show w11.drew.cell? (((⟨bc,0,none⟩:Addr).add (i*1)).add 0)=_
      rw [add_zero,Nat.mul_one]
      exact hbc'
     | j+1,hj=>simp [E_uint8] at hj
    show runK1 PG (Builtin.copy_ #[ty_sl_uint8,ty_sl_uint8] ty_int #[(.slice (some ⟨gm,k,none⟩) (m.length-k) (tm.c-k)),(.slice (some ((⟨bc,0,none⟩:Addr).add (0*1))) 4 4)]) (Kind.int .i64) w11.drew _
    rw [Nat.zero_mul,add_zero]
    refine copyB (x:=⟨some ⟨bc,0,none⟩,4,4⟩) (n:=4) hcur hrc (by show 4=min 4 (m.length-k);omega) (by omega) fun w12 hb12 hc12 hs12=>?_
    have hrow12:=own_put (ys:=[a,b',c',d']) (k:=k) hrow11 hc.tm hcur (by show k+4≤m.length;omega) hb12
    rw [w64i (by omega)]
    refine hIl _ _ ⟨x+1,set4 m k [a,b',c',d'],rfl,by omega,?_,?_,hrow12,?_⟩ (by simp;omega)
    ·rw [hputn,hcol,←hk];rfl
    ·unfold set4
     simp only [List.length_append,List.length_take,List.length_drop,List.length_cons,List.length_nil]
     omega
    ·exact (hc8.trans (Chg.of_ext (S:=fun k=>k=gm) hB11d) fun i _ hi=>hi).trans hc12 fun i _ hi=>hi
   refine ⟨?_,?_⟩
   ·refine color_spec (hF8 hBd8) ho (hpt.ext hBd8) hs4l hs4v hpl htl (fun cx w9 hcn hB9=>?_) (fun a b' c' d' w9 hcol hB9=>?_)
    ·refine nwb fun w10 h10 hB10 hs10=>?_
     have hB810:=bT (bT hBd8 hB9) hB10
     refine ⟨at_cell (hn8.ext hB810),at_cell (hn8.ext hB810),at_cell (hn8.ext hB810),at_cell (hf8.ext hB810),?_⟩
     refine all_of h10 rfl fun w11 h11 hc11 hs11=>?_
     refine cT rfl (hJ0 _ (hbadp hcn) ?_)
     exact hC38.trans (Chg.of_ext (S:=fun k=>k=ba∨k=bb∨k=gm) (b1o hB810 hc11 (bT hBd8 hB9).size)) fun i _ hi=>hi
    ·refine nwb fun w10 h10 hB10 hs10=>?_
     have hB810:=bT (bT hBd8 hB9) hB10
     refine ⟨at_cell (hn8.ext hB810),at_cell (hn8.ext hB810),at_cell (hn8.ext hB810),at_cell (hf8.ext hB810),?_⟩
     refine all_of h10 rfl fun w11 h11 hc11 hs11=>?_
     exact cF rfl (fin a b' c' d' _ w11 hcol h11 (b1o hB810 hc11 (bT hBd8 hB9).size))
   ·refine nwb fun w13 h13 hB13 hs13=>?_
    have hB813:=bT hBd8 hB13
    refine ⟨at_cell (hn8.ext hB813),at_cell (hn8.ext hB813),at_cell (hn8.ext hB813),at_cell (hf8.ext hB813),?_⟩
    refine color_spec (hF8 hB813) ho (hpt.ext hB813) hs4l hs4v hpl htl (fun cx w14 hcn hB14=>?_) (fun a b' c' d' w14 hcol hB14=>?_)
    ·refine all_of (h13.ext hB14) rfl fun w15 h15 hc15 hs15=>?_
     refine cT rfl (hJ0 _ (hbadp hcn) ?_)
     exact hC38.trans (Chg.of_ext (S:=fun k=>k=ba∨k=bb∨k=gm) (b1o (bT hB813 hB14) hc15 hBd8.size)) fun i _ hi=>hi
    ·refine all_of (h13.ext hB14) rfl fun w15 h15 hc15 hs15=>?_
     exact cF rfl (fin a b' c' d' _ w15 hcol h15 (b1o (bT hB813 hB14) hc15 hBd8.size))
  ·have hge:=of_decide_eq_false hge
   obtain rfl:x=r.2.2:=by omega
   have hba8:=keep8 (by decide) hba6
   have hbb8:=keep8 (by decide) hbb6
   have hst8:=keep8 (by decide) hst6
   rw [hput] at hstepE
   refine hJ1 ⟨bt.drop sz,rl,m⟩ w8 hstepE hmlen ⟨hn8,hf8,hst8,hm8,⟨rw_,hba8,?_,?_⟩,⟨sb2,hbb8,hsb'⟩,hrow8,hB08⟩ hC38
   ·refine ((hrw6.ext hB67).chg hc8 fun k hk e=>?_).base (by have:=hB03.size;omega)
    have:=hrwg k hk
    have h3g:gm<w3.heap.size:=(hrow3.lt gm (by unfold Slc.blk;rw [hc.tm];rfl)).2
    omega
   ·intro k hk e
    have:=hrwg k hk
    have h3g:gm<w3.heap.size:=(hrow3.lt gm (by unfold Slc.blk;rw [hc.tm];rfl)).2
    omega
 refine cO (fun e=>?_) fun e=>?_
 ·have e0:r.2.1=0:=by have:=eq_of_beq e;omega
  refine all_of (hba.ext hBd) rfl fun w3 h3 hc3 hs3=>?_
  have hsz2:w2.drew.heap.size=w2.heap.size:=rfl
  refine main ⟨none,0,0⟩ w3 h3 ?_ ((Chg.of_ext (S:=fun k=>k=ba) hBd).trans hc3 fun i _ hi=>hi) ((hp2.ext (bdw w2)).chg hc3 (by have:=hba.lt;omega))
  unfold aheadOf
  rw [if_pos e0]
  exact Own.nil _ _ _
 ·have e0:r.2.1≠0:=fun h=>by rw [h] at e;cases e
  refine main sa w2.drew (hba.ext hBd) ?_ (Chg.of_ext hBd) (hp2.ext (bdw w2))
  unfold aheadOf
  rw [if_neg e0]
  exact hsa.ext hBd
end
end Go.Proofs.YtmagnpcgpinmcaaGreat
namespace Go.Proofs.YtmagnpcgpinmcaaGreat
open Go.Vc Go.RowKit
set_option maxRecDepth 400000
section
variable {w w':World} {g:Nat} {s:Slc} {bs:List UInt8} {at_:Nat}
end
section
variable {w:World} {base tg:Nat} {lo co:Slc} {ls:List UInt8}
end
end Go.Proofs.YtmagnpcgpinmcaaGreat
namespace Go.Proofs.YtmagnpcgpinmcaaGreat
open Go.Vc Go.RowKit
set_option maxRecDepth 400000
section
variable {w w':World} {base g rg:Nat} {s out:Slc} {bs hist:List UInt8} {most at_:Nat}
end
section
variable {w:World} {base g rg:Nat} {s out:Slc} {bs:List UInt8} {most at_:Nat}
end
end Go.Proofs.YtmagnpcgpinmcaaGreat
namespace Go.Proofs.YtmagnpcgpinmcaaGreat
open Go.Vc Go.RowKit
set_option maxRecDepth 400000
section
variable {w w':World} {base g rg:Nat} {s out out':Slc} {bs hist ls:List UInt8} {most at_:Nat} {t:Nat×Slc×Slc}
end
end Go.Proofs.YtmagnpcgpinmcaaGreat
namespace Go.Proofs.YtmagnpcgpinmcaaGreat
open Go.Vc Go.RowKit
set_option maxRecDepth 400000
section
variable {w w':World} {base g rg:Nat} {s out:Slc} {bs hist ls:List UInt8} {most at_ B:Nat}
end
end Go.Proofs.YtmagnpcgpinmcaaGreat
namespace Go.Proofs.YtmagnpcgpinmcaaGreat
open Go.Vc Go.RowKit
set_option maxRecDepth 400000
section
variable {w w':World} {base g rg:Nat} {s out:Slc} {bs:List UInt8} {most at_:Nat}
end
end Go.Proofs.YtmagnpcgpinmcaaGreat
namespace Go.Proofs.YtmagnpcgpinmcaaGreat
open Go.Vc Go.RowKit
set_option maxRecDepth 400000
end Go.Proofs.YtmagnpcgpinmcaaGreat
namespace Go.Proofs.YtmagnpcgpinmcaaGreat
open Go.Vc Go.RowKit
set_option maxRecDepth 400000
section
variable {w w':World} {base g rg:Nat} {s out:Slc} {bs:List UInt8} {most at_:Nat}
end
end Go.Proofs.YtmagnpcgpinmcaaGreat
namespace Go.Proofs.YtmagnpcgpinmcaaGreat
open Go.Vc Go.RowKit
set_option maxRecDepth 400000
end Go.Proofs.YtmagnpcgpinmcaaGreat
namespace Go.Proofs.YtmagnpcgpinmcaaGreat
open Go.Vc Go.RowKit
set_option maxRecDepth 400000
def isBody (fixed:Bool) (body bs:List UInt8):Prop:=(fixed=false→body=storeL bs)∧(fixed=true→le body=(fixedN bs).1∧body.length=((fixedN bs).2+7)/8)
theorem body_run {fixed:Bool} {body bs tail:List UInt8} {most:Nat} (h:isBody fixed body bs) (hm:bs.length≤most):∃c' p',Ch most (body++tail) cfg0 0 c' p'∧c'.mode=5∧c'.hist=bs∧(p'+7)/8=body.length:=by
 cases fixed with
 | true =>
  obtain ⟨h1,h2⟩:=h.2 rfl
  obtain ⟨c',hch,h5,hh⟩:=run_fixed (tail:=tail) h1 h2 hm
  exact ⟨c',_,hch,h5,hh,h2.symm⟩
 | false =>
  have h1:=h.1 rfl
  subst h1
  obtain ⟨c',hch,h5,hh⟩:=run_store (most:=most) (B:=storeL bs++tail) (tail:=tail) bs.length bs 0 cfg0 (Nat.le_refl _) (by simp) rfl (by show 0+bs.length≤_;omega)
  exact ⟨c',_,hch,h5,by rw [hh];rfl,by omega⟩
theorem body_le {fixed:Bool} {body bs:List UInt8} (h:isBody fixed body bs):body.length≤9*bs.length+20∧0<body.length:=by
 cases fixed with
 | true =>
  obtain ⟨h1,h2⟩:=h.2 rfl
  have:=fixedN_le bs
  have h3:3≤(bytesN bs).2:=(foldN_goes bs (3,3)).1
  have e:(fixedN bs).2=(bytesN bs).2+kN 256:=rfl
  omega
 | false =>
  have h1:=h.1 rfl
  subst h1
  have:=storeL_length _ bs (Nat.le_refl _)
  have hp:0<(storeL bs).length:=by
   rw [storeL]
   split<;>simp [headS]
  omega
theorem tail_at {c:Cfg} {p:Nat} {body s more:List UInt8} (h5:c.mode=5) (hp:(p+7)/8=body.length) (hs:s.length=4):tailL c p (body++(s++more))=s:=by
 rw [tailL,if_pos h5,hp,List.drop_left,List.take_append_of_le_length (by omega),List.take_of_length_le (by omega)]
theorem packed_drop (body s more:List UInt8):([120,1]++body++s++more).drop 2=body++(s++more):=by
 simp
theorem packed_head (body s more:List UInt8):headOK ([120,1]++body++s++more)=true:=by
 show (zh1 120 && zh2 120 1)=true
 decide
theorem zerr_of {body s more:List UInt8} {c:Cfg} {p:Nat} {bs:List UInt8} (h5:c.mode=5) (hp:(p+7)/8=body.length) (hs:s.length=4) (hh:c.hist=bs):zerr ([120,1]++body++s++more) c p .short=if bigN s=adlN bs then 0 else 4:=by
 rw [zerr.eq_def,packed_head,if_neg (by decide)]
 show zend _ c p=_
 rw [zend,packed_drop,tail_at h5 hp hs,if_pos hs,hh]
section
variable {w:World}
theorem lits_bytes {vs:List Value} {n:Nat} {bs:List UInt8} {K:Slc→World→Prop} (hv:vs=bs.map fun b=>Value.int .u8 (b.toNat:Int)) (hn:n=bs.length) (hl:bs.length≤1000000)
  (hK:∀s w',Rd E_uint8 w' s bs→s.blk=some w.heap.size→Below w.heap.size w w'→w'.heap.size=w.heap.size+1→K s w') :
  nw ty_uint8 vs w fun t w1=>runK1 PG (convert ty_sl_uint8 ty_sl_uint8 (.slice (some t) n n)) Kind.slice w1 K:=by
 subst hn hv
 refine ⟨⟨some ⟨w.heap.size,0,none⟩,bs.length,bs.length⟩,_,Lib.run_convert_bytes_const w ty_sl_uint8 ty_uint8 _ _ _ (by kernel_rfl) (by kernel_rfl),hK _ _ ⟨rfl,Nat.le_refl _,by show bs.length≤maxLen;simp only [maxLen];omega,fun _=>rfl,fun i x hx j v hj=>?_⟩ rfl ((Below.refl _ w).alloc (Nat.le_refl _) _) (by simp)⟩
 have hj0:j=0:=by
  have:=(List.getElem?_eq_some_iff.1 hj).1
  simp [E_uint8] at this
  exact this
 subst hj0
 have hv:v=.int .u8 (x.toNat:Int):=by
  simp [E_uint8] at hj
  exact hj.symm
 subst hv
 have hi:i<bs.length:=(List.getElem?_eq_some_iff.1 hx).1
 show World.cell? _ (((⟨w.heap.size,0,none⟩:Addr).add (i*1)).add 0)=_
 rw [add_zero,add_mk,Nat.mul_one,Nat.zero_add]
 have hnew:∀o:Obj,(w.alloc o).heap[w.heap.size]?=some o:=fun o=>by
  show (w.heap.push o)[w.heap.size]?=_
  simp
 unfold World.cell?
 dsimp only
 rw [hnew]
 show (bs.map fun b=>Value.int .u8 (b.toNat:Int)).toArray[i]?=_
 rw [List.getElem?_toArray,List.getElem?_map,hx]
 rfl
theorem big_inj {a b:List UInt8} (ha:a.length=4) (hb:b.length=4) (h:bigN a=bigN b):a=b:=by
 match a,ha,b,hb with
 | [a0,a1,a2,a3],_,[b0,b1,b2,b3],_ =>
  rw [big4,big4] at h
  have h0:=a0.toNat_lt
  have h1:=a1.toNat_lt
  have h2:=a2.toNat_lt
  have h3:=a3.toNat_lt
  have g0:=b0.toNat_lt
  have g1:=b1.toNat_lt
  have g2:=b2.toNat_lt
  have g3:=b3.toNat_lt
  rw [UInt8.toNat.inj (show a0.toNat=b0.toNat by omega),UInt8.toNat.inj (show a1.toNat=b1.toNat by omega),UInt8.toNat.inj (show a2.toNat=b2.toNat by omega),UInt8.toNat.inj (show a3.toNat=b3.toNat by omega)]
end
end Go.Proofs.YtmagnpcgpinmcaaGreat
namespace Go.Proofs.YtmagnpcgpinmcaaGreat
open Go.Vc Go.RowKit
set_option maxRecDepth 400000
theorem run_stops (most:Nat) (B:List UInt8):∀(n:Nat) (c:Cfg) (a:Nat),mu B c a≤n→a≤8*B.length→∃c1 a1 r,Ch most B c a c1 a1∧step1 most B a1 c1=r∧∀c a,r≠.next c a
 | n,c,a,hn,ha=>by
  cases h:step1 most B a c with
  | short=>exact ⟨c,a,_,.refl _ _,h,by intro _ _ e;cases e⟩
  | err m=>exact ⟨c,a,_,.refl _ _,h,by intro _ _ e;cases e⟩
  | next c2 a2 =>
   obtain ⟨h1,h2,h3⟩:=step1_next h ha
   cases n with
   | zero=>omega
   | succ n =>
    obtain ⟨c1,a1,r,hc,hs,hr⟩:=run_stops most B n c2 a2 (by omega) h1
    exact ⟨c1,a1,r,.step h hc,hs,hr⟩
section
variable {w:World}
end
end Go.Proofs.YtmagnpcgpinmcaaGreat
set_option linter.unusedVariables false
namespace Go.Proofs.YtmagnpcgpinmcaaGreat
open Go.Vc
set_option maxRecDepth 400000
theorem unpack_ex (most:Nat) (bs:List UInt8):∃r:Cfg×Nat×SR,Ch most (bs.drop 2) cfg0 0 r.1 r.2.1∧step1 most (bs.drop 2) r.2.1 r.1=r.2.2∧∀c a,r.2.2≠.next c a:=by
 obtain ⟨c1,a1,r0,h1,h2,h3⟩:=run_stops most (bs.drop 2) _ cfg0 0 (Nat.le_refl _) (Nat.zero_le _)
 exact ⟨(c1,a1,r0),h1,h2,h3⟩
noncomputable def unRun (most:Nat) (bs:List UInt8):Cfg×Nat×SR:=Classical.choose (unpack_ex most bs)
theorem unRun_spec (most:Nat) (bs:List UInt8):Ch most (bs.drop 2) cfg0 0 (unRun most bs).1 (unRun most bs).2.1∧step1 most (bs.drop 2) (unRun most bs).2.1 (unRun most bs).1=(unRun most bs).2.2∧∀c a,(unRun most bs).2.2≠.next c a:=Classical.choose_spec (unpack_ex most bs)
noncomputable def unErr (most:Nat) (bs:List UInt8):Nat:=zerr bs (unRun most bs).1 (unRun most bs).2.1 (unRun most bs).2.2
noncomputable def unOut (most:Nat) (bs:List UInt8):List UInt8:=(unRun most bs).1.hist
noncomputable def unUsed (most:Nat) (bs:List UInt8):Nat:=6+((unRun most bs).2.1+7)/8
noncomputable def decF (F:FilL):Nat×Nat×Nat×List UInt8 :=
 if unErr (needP F.h) F.data≠0 then (unErr (needP F.h) F.data,0,0,[])
 else if (unOut (needP F.h) F.data).length<needP F.h∨unUsed (needP F.h) F.data<F.data.length then (3,0,0,[])
 else match pixelsP F (unOut (needP F.h) F.data) with
  | none=>(3,0,0,[])
  | some m=>(0,F.h.W.toNat,F.h.H.toNat,m)
noncomputable def decodeP (b:List UInt8) (pixels:Int):Nat×Nat×Nat×List UInt8 :=
 if (readAll b pixels).1≠0 then ((readAll b pixels).1,0,0,[]) else decF (readAll b pixels).2
def dsum (l:List ChL):Nat:=(l.map fun c=>c.data.length).sum
theorem chunkP_ok {b:List UInt8} {c:ChL} {n:Nat} (h:chunkP b=.ok c n):c.kind.length=4∧n=12+c.data.length∧n≤b.length∧c.kind.all letterP=true:=by
 unfold chunkP at h
 split at h
 ·cases h
 rename_i h1
 split at h
 ·cases h
 rename_i h2
 split at h
 ·cases h
 rename_i h3
 split at h
 ·cases h
 rename_i h4
 split at h
 ·cases h
 rename_i h5
 split at h
 ·cases h
 rename_i h6
 cases h
 refine ⟨by simp;omega,?_,by omega,?_⟩
 ·rw [List.length_drop,List.length_take]
  omega
 ·cases e:((b.take 8).drop 4).all letterP with
  | true=>rfl
  | false=>exact absurd e h4
theorem chunksF_facts (one:Bool):∀(f:Nat) (b:List UInt8),dsum (chunksF one f b).2≤b.length∧(∀c∈(chunksF one f b).2,c.kind.length=4)∧(chunksF one f b).2.length≤b.length∧((chunksF one f b).1=0→∃c l,(chunksF one f b).2=c::l)
 | 0,b=>⟨by simp [chunksF,dsum],by simp [chunksF],by simp [chunksF],fun h=>by cases h⟩
 | f+1,b=>by
  rw [chunksF]
  cases hc:chunkP b with
  | err n=>exact ⟨by simp [dsum],by simp,by simp,fun h=>absurd h (chunkP_err hc)⟩
  | ok c n =>
   obtain ⟨h1,h2,h3,_⟩:=chunkP_ok hc
   dsimp only
   split
   ·exact ⟨by simp [dsum];omega,by simp [h1],by simp;omega,fun _=>⟨c,[],rfl⟩⟩
   ·obtain ⟨i1,i2,i3,i4⟩:=chunksF_facts one f (b.drop n)
    rw [List.length_drop] at i1 i3
    refine ⟨?_,?_,?_,fun _=>⟨_,_,rfl⟩⟩
    ·unfold dsum at i1 ⊢
     rw [List.map_cons,List.sum_cons]
     omega
    ·intro d hd
     rcases List.mem_cons.1 hd with rfl | hd
     ·exact h1
     ·exact i2 d hd
    ·rw [List.length_cons];omega
theorem chunksP_facts (one:Bool) (b:List UInt8):dsum (chunksP one b).2≤b.length∧(∀c∈(chunksP one b).2,c.kind.length=4)∧(chunksP one b).2.length≤b.length∧((chunksP one b).1=0→∃c l,(chunksP one b).2=c::l):=by
 obtain ⟨i1,i2,i3,i4⟩:=chunksF_facts one b.length (b.drop 8)
 rw [List.length_drop] at i1 i3
 unfold chunksP
 split
 ·rename_i h
  exact ⟨by simp [dsum],by simp,by simp,fun e=>absurd e h⟩
 ·split
  ·rename_i h
   exact ⟨by simp [dsum],by simp,by simp,fun e=>absurd e h⟩
  ·rename_i h
   exact ⟨by dsimp only;omega,i2,by dsimp only;omega,fun _=>i4 (by omega)⟩
theorem takeP_len {F:FilL} {c:ChL} {n:Nat} (h:F.data.length≤n∧F.pal.length≤n∧F.tr.length≤n):(takeP F c).2.data.length≤n+c.data.length∧(takeP F c).2.pal.length≤n+c.data.length∧(takeP F c).2.tr.length≤n+c.data.length:=by
 obtain ⟨h1,h2,h3⟩:=h
 unfold takeP
 repeat' split
 all_goals (refine ⟨?_,?_,?_⟩<;>simp<;>omega)
theorem takeAll_len:∀(l:List ChL) (F:FilL) (n:Nat),F.data.length≤n∧F.pal.length≤n∧F.tr.length≤n→(takeAll F l).2.data.length≤n+dsum l∧(takeAll F l).2.pal.length≤n+dsum l∧(takeAll F l).2.tr.length≤n+dsum l
 | [],F,n,h=>by simp only [takeAll,dsum,List.map_nil,List.sum_nil];exact ⟨by omega,by omega,by omega⟩
 | c::l,F,n,h=>by
  have e:dsum (c::l)=c.data.length+dsum l:=by simp [dsum]
  rw [takeAll]
  split
  ·rw [e];exact ⟨by dsimp only;omega,by dsimp only;omega,by dsimp only;omega⟩
  ·obtain ⟨a,b,d⟩:=takeAll_len l (takeP F c).2 (n+c.data.length) (takeP_len h)
   rw [e]
   exact ⟨by omega,by omega,by omega⟩
theorem takeAll_ok:∀(l:List ChL) {F:FilL},FilOk F→(takeAll F l).1=0→FilOk (takeAll F l).2∧(takeAll F l).2.h=F.h
 | [],F,h,_=>⟨h,rfl⟩
 | c::l,F,h,h0=>by
  rw [takeAll] at h0 ⊢
  split at h0
  ·rename_i hn;exact absurd h0 hn
  ·rename_i hn
   obtain ⟨a,b⟩:=takeP_ok (c:=c) h (by omega)
   rw [if_neg hn]
   obtain ⟨a2,b2⟩:=takeAll_ok l a h0
   exact ⟨a2,b2.trans b⟩
theorem headP_ok {c:ChL} (h:(headP c).1=0):checkP (headP c).2=0:=by
 unfold headP at h ⊢
 split at h
 ·cases h
 ·rename_i h1
  split at h
  ·rename_i h2;exact absurd h h2
  ·rename_i h2
   rw [if_neg h1,if_neg h2]
   show checkP (headOf c.data)=0
   omega
theorem fil0_ok {h:T_png_Head} (hc:checkP h=0):FilOk (fil0 h):=⟨hc,(fun h=>by cases h),rfl⟩
structure ReadOk (b:List UInt8) (pixels:Int) (F:FilL):Prop where
 ok:FilOk F
 area:F.h.W*F.h.H≤pixels∧F.h.W*F.h.H≤67108864
 data:F.data.length≤b.length
 pal:F.pal.length≤b.length
 tr:F.tr.length≤b.length
theorem readAll_ok {b:List UInt8} {pixels:Int} (h:(readAll b pixels).1=0):ReadOk b pixels (readAll b pixels).2:=by
 obtain ⟨f1,f2,f3,f4⟩:=chunksP_facts false b
 unfold readAll at h ⊢
 cases hcp:chunksP false b with
 | mk e l =>
  rw [hcp] at h f1 f2 f3 f4
  match e,l with
  | 0,c::l =>
   replace h:(readCh c l pixels).1=0:=h
   show ReadOk b pixels (readCh c l pixels).2
   unfold readCh at h ⊢
   by_cases h1:(headP c).1≠0
   ·rw [if_pos h1] at h;exact absurd h h1
   rw [if_neg h1] at h ⊢
   by_cases h2:(headP c).2.W*(headP c).2.H>pixels∨(headP c).2.W*(headP c).2.H>67108864
   ·rw [if_pos h2] at h;cases h
   rw [if_neg h2] at h ⊢
   by_cases h3:(takeAll (fil0 (headP c).2) l).1≠0
   ·rw [if_pos h3] at h;exact absurd h h3
   rw [if_neg h3] at h ⊢
   split
   ·rename_i h4;rw [if_pos h4] at h;cases h
   ·obtain ⟨a,bb⟩:=takeAll_ok l (fil0_ok (headP_ok (c:=c) (by omega))) (by omega)
    obtain ⟨d1,d2,d3⟩:=takeAll_len l (fil0 (headP c).2) 0 ⟨Nat.le_refl _,Nat.le_refl _,Nat.le_refl _⟩
    have e:dsum (c::l)=c.data.length+dsum l:=by simp [dsum]
    replace f1:dsum (c::l)≤b.length:=f1
    rw [e] at f1
    refine ⟨a,?_,Nat.le_trans d1 (by omega),Nat.le_trans d2 (by omega),Nat.le_trans d3 (by omega)⟩
    rw [bb]
    show (headP c).2.W*(headP c).2.H≤pixels∧(headP c).2.W*(headP c).2.H≤67108864
    omega
  | 0,[]=>obtain ⟨c,l,hcl⟩:=f4 rfl;cases hcl
  | e+1,l=>cases h
theorem needP_le {h:T_png_Head} {W H:Nat} (ho:HeadOk h W H) {M:Nat} (hM:W*H≤M):needP h≤140*M:=by
 have hrow:∀w:Nat,1+rowB h w≤2+8*w:=by
  intro w
  unfold rowB rowP
  split
  ·omega
  ·rename_i hn
   simp only [not_or] at hn
   obtain ⟨h1,h2,h3,h4,h5⟩:=hn
   have hd:isDepthP h.Depth=true:=by cases e:isDepthP h.Depth with | true=>rfl | false=>exact absurd e h5
   have hdp:1≤h.Depth∧h.Depth≤16:=by
    unfold isDepthP at hd
    simp at hd
    omega
   have a1:0≤(w:Int)*(samplesOf h.Color:Int):=Int.mul_nonneg (by omega) (by omega)
   have a2:(w:Int)*(samplesOf h.Color:Int)≤(w:Int)*4:=Int.mul_le_mul_of_nonneg_left (by omega) (by omega)
   have a4:(w:Int)*(samplesOf h.Color:Int)*h.Depth≤(w:Int)*4*16:=Int.mul_le_mul a2 (by omega) (by omega) (by omega)
   omega
 have one:∀p:PassP,needL h (rowsOf W H p)≤20*M:=by
  intro p
  have hs:=sizeP_le p W H
  have key:∀(l:List Nat),((l.map fun y=>(p,y,(sizeP p W H).1)).map fun r=>1+rowB h r.2.2).sum≤l.length*(2+8*W):=by
   intro l
   induction l with
   | nil=>simp
   | cons y l ih =>
    rw [List.map_cons,List.map_cons,List.sum_cons,List.length_cons,Nat.add_mul]
    have:=hrow (sizeP p W H).1
    dsimp only
    have h8:8*(sizeP p W H).1≤8*W:=by omega
    omega
  have h1:=key (List.range (sizeP p W H).2)
  rw [List.length_range] at h1
  have h2:(sizeP p W H).2*(2+8*W)≤H*(2+8*W):=Nat.mul_le_mul_right _ hs.2
  have h3:H*(2+8*W)=2*H+8*(W*H):=by rw [Nat.mul_add,Nat.mul_comm H 2,Nat.mul_left_comm,Nat.mul_comm H W]
  have h4:H≤W*H:=Nat.le_mul_of_pos_left H ho.w1
  unfold needL rowsOf
  omega
 have all:∀ps:List PassP,needL h (ps.flatMap (rowsOf W H))≤ps.length*(20*M):=by
  intro ps
  induction ps with
  | nil=>simp [needL]
  | cons p ps ih =>
   rw [List.flatMap_cons,needL_append,List.length_cons,Nat.add_mul]
   have:=one p
   omega
 have h1:=all (passesP h.Lace)
 have h2:=passes_len h.Lace
 have h3:(passesP h.Lace).length*(20*M)≤7*(20*M):=Nat.mul_le_mul_right _ h2
 have e:needP h=needL h ((passesP h.Lace).flatMap (rowsOf W H)):=by
  show needL h (rowsL h)=_
  unfold rowsL
  rw [ho.wn,ho.hn]
 rw [e]
 omega
end Go.Proofs.YtmagnpcgpinmcaaGreat
set_option linter.unusedVariables false
namespace Go.Proofs.YtmagnpcgpinmcaaGreat
open Go.Vc Go.RowKit
set_option maxRecDepth 400000
section
variable {w:World}
theorem size_spec {W H:Nat} {K:Bool→World→Prop} (hW1:1≤W) (hW2:W≤16384) (hH1:1≤H) (hH2:H≤16384) (hA:W*H≤67108864) (hK:K true w):c_pixel_size (W:Int) (H:Int) w K:=by
 refine call_pixel_size _ _ ?_
 unfold sh_pixel_size
 refine cF (beqI_f (by omega)) (cT (decide_eq_true (by omega)) (cT (decide_eq_true (by omega)) (cT (decide_eq_true (by omega)) (cT (decide_eq_true (by omega)) ?_))))
 rw [show (W:Int)*(H:Int)=((W*H:Nat):Int) by simp,w64i (by omega),decide_eq_true (by omega)]
 exact hK
theorem pNew_spec {W H:Nat} {K:T_api_Matrix→Int→World→Prop} (hW1:1≤W) (hW2:W≤16384) (hH1:1≤H) (hH2:H≤16384) (hA:W*H≤67108864)
  (hK:∀(t:Slc) (gm:Nat) w',Go.Vc.Own E_uint8 w' w.heap.size t (List.replicate (4*W*H) 0)→t.a=some ⟨gm,0,none⟩→w.heap.size≤gm→Below w.heap.size w w'→K ⟨W,H,t⟩ 0 w'):c_pixel_New (W:Int) (H:Int) w K:=by
 refine call_pixel_New _ _ ?_
 unfold sh_pixel_New
 refine nwb fun w1 h1 hB1 hs1=>size_spec hW1 hW2 hH1 hH2 hA (cF rfl ?_)
 have e:IntKind.i64.wrap ((IntKind.i64.wrap ((4:Int)*(W:Int)))*(H:Int))=((4*W*H:Nat):Int):=by
  have h4:4*W*H=4*(W*H):=Nat.mul_assoc _ _ _
  rw [w64i (x:=(4:Int)*(W:Int)) (by omega),show (4:Int)*(W:Int)*(H:Int)=((4*W*H:Nat):Int) by simp,w64i (by omega)]
 rw [e]
 have h4:4*W*H=4*(W*H):=Nat.mul_assoc _ _ _
 refine mkSl_of sT_sl_uint8 (x0:=(0:UInt8)) rfl (n:=4*W*H) rfl rfl (by rw [by_sl_uint8];omega) (by unfold maxLen;omega) fun w4 ho hB4=>?_
 refine res_of (r:=T_api_Matrix.rep) (x:=⟨W,H,⟨some ⟨w1.heap.size,0,none⟩,4*W*H,4*W*H⟩⟩) (h1.ext hB4) rfl rfl fun w5 hc5 hs5=>?_
 refine hK _ w1.heap.size w5 ((ho.chg hc5 fun k hk e=>?_).base (by omega)) rfl (by omega) (b1o (bT hB1 hB4) hc5 (Nat.le_refl _))
 have:=(ho.lt k hk).1
 omega
theorem pixels_spec {g b:Nat} {F:FilL} {p t d:Slc} (hF:FilA w g b F p t d) (ho:FilOk F) {W H:Nat} (hh:HeadOk F.h W H) (hA:W*H≤67108864) (hpl:F.pal.length≤1000000) (htl:F.tr.length≤1000000) {bS:Slc} {xs:List UInt8} (hx:Rd E_uint8 w bS xs) (hxn:needP F.h≤xs.length) (hxl:xs.length≤1000000000) {K:T_api_Matrix→Int→World→Prop}
  (hN:pixelsP F xs=none→∀w',Below w.heap.size w w'→K ⟨0,0,⟨none,0,0⟩⟩ 3 w') (hY:∀m,pixelsP F xs=some m→∀s w',Go.Vc.Own E_uint8 w' w.heap.size s m→m.length=4*W*H→Below w.heap.size w w'→K ⟨W,H,s⟩ 0 w'):c_png_file_pixels (some ⟨g,0,none⟩) bS w K:=by
 obtain ⟨_,hco⟩:=checkP_ok ho.hd
 refine call_png_file_pixels _ _ ?_
 unfold sh_png_file_pixels
 refine nwb fun w1 h1 hB1 hs1=>nwb fun w2 h2 hB2 hs2=>nwb fun w3 h3 hB3 hs3=>?_
 have hB13:=bT (bT hB1 hB2) hB3
 have hf:=(h1.ext hB2).ext hB3
 have hb:=h2.ext hB3
 have hBd:=bdw w3
 have hB3d:=bT hB13 hBd
 have hFd:=hF.ext hB3d
 refine ldP_of (x:=some ⟨g,0,none⟩) (at_cell (hf.ext hBd)) ?_
 simp only [onPtr_some]
 refine lI (x:=(W:Int)) (by rw [add_zero,←hh.w];exact hFd.blk.cells 0 _ rfl) ?_
 refine ldP_of (x:=some ⟨g,0,none⟩) (at_cell (hf.ext hBd)) ?_
 simp only [onPtr_some]
 refine lI (x:=(H:Int)) (by rw [add_zero,←hh.h];exact hFd.blk.cells 1 _ rfl) ?_
 have hs3d:w3.drew.heap.size=w3.heap.size:=rfl
 have cw:∀{w'},Below w3.heap.size w3 w'→w'.cell? ((⟨g,0,none⟩:Addr).add 0)=some (.int .i64 (W:Int)):=fun hB=>by
  have:=(hF.ext (bT hB13 hB)).blk.cells 0 _ rfl
  rw [hh.w] at this
  exact this
 have chh:∀{w'},Below w3.heap.size w3 w'→w'.cell? ((⟨g,0,none⟩:Addr).add 1)=some (.int .i64 (H:Int)):=fun hB=>by
  have:=(hF.ext (bT hB13 hB)).blk.cells 1 _ rfl
  rw [hh.h] at this
  exact this
 have tail:∀(bmx gm:Nat) (vs:List Value) (tm:Slc) w5,vs.length=3→Blk w5 bmx ty_api_Matrix vs→w3.heap.size≤bmx→Go.Vc.Own E_uint8 w5 (w3.heap.size) tm (List.replicate (4*W*H) 0)→tm.a=some ⟨gm,0,none⟩→w3.heap.size≤gm→Below w3.heap.size w3 w5 →
   stK ⟨bmx,0,none⟩ (T_api_Matrix.rep.cells ⟨W,H,tm⟩) w5 fun w6 =>
   ldP (⟨w.heap.size,0,none⟩:Addr) w6 fun t26 =>
   onPtr t26 fun t27 =>
   ldI .i64 ((t27.add 0).add 3) w6 fun t30 =>
   c_png_Samples t30 w6 fun t31 w7 =>
   nw ty_int [(.int .i64 0)] w7 fun n w8 =>
   stK n [(.int .i64 t31)] w8 fun w9 =>
   ldI .i64 n w9.drew fun t32 =>
   ldP (⟨w.heap.size,0,none⟩:Addr) w9.drew fun t33 =>
   onPtr t33 fun t34 =>
   ldI .i64 ((t34.add 0).add 2) w9.drew fun t37 =>
   (8:Int)≠0 ∧
   nw ty_int [(.int .i64 0)] w9.drew fun step w10 =>
   World.cell? w10 ((t34.add 0).add 2)=some (.int .i64 t37) ∧
   World.cell? w10 (⟨w.heap.size,0,none⟩:Addr)=some (.pointer t33) ∧
   World.cell? w10 n=some (.int .i64 t32) ∧
   stK step [(.int .i64 (IntKind.i64.wrap ((IntKind.i64.wrap ((IntKind.i64.wrap (t32*t37))+(7:Int))).tdiv (8:Int))))] w10 fun w11 =>
   nw ty_sl_uint8 [(.slice none 0 0)] w11 fun ahead w12 =>
   ldP (⟨w.heap.size,0,none⟩:Addr) w12 fun t41 =>
   onPtr t41 fun t42 =>
   ldS T_png_Head.rep (t42.add 0) w12 fun t44 =>
   c_png_Head_rows t44 ((.func (.func fn_png_file_pixels_1) #[] #[(.pointer (some n)),(.pointer (some ⟨w.heap.size,0,none⟩)),(.pointer (some ahead)),(.pointer (some ⟨w1.heap.size,0,none⟩)),(.pointer (some step)),(.pointer (some ⟨bmx,0,none⟩))]):Value) w12 fun t46 w13 =>
   cond (!t46)
    (
    stK ⟨w2.heap.size,0,none⟩ [(.int .i64 0),(.int .i64 0),(.slice none 0 0)] w13 fun w14 =>
    ldS T_api_Matrix.rep ⟨w2.heap.size,0,none⟩ w14 fun r =>
    K r 3 w14)
    (
    ldS T_api_Matrix.rep ⟨bmx,0,none⟩ w13 fun t50 =>
    stK ⟨w2.heap.size,0,none⟩ (T_api_Matrix.rep.cells t50) w13 fun w15 =>
    ldS T_api_Matrix.rep ⟨w2.heap.size,0,none⟩ w15 fun r_1 =>
    K r_1 0 w15):=by
  intro bmx gm vs tm w5 hvl hbm hbmn htm hta hgm hB5
  refine all_of hbm hvl.symm fun w6 hm6 hc6 hs6=>?_
  have tl:=htm.lt
  have hB36:Below w3.heap.size w3 w6:=b1o hB5 hc6 (by omega)
  have hm5:bmx<w5.heap.size:=hbm.lt
  have htm6:=htm.chg hc6 fun k hk=>own_ne_blk htm hbm (by decide) k hk
  have hB16:Below w.heap.size w w6:=bT hB13 hB36
  have hF6:=hF.ext hB16
  have hf6:=hf.ext hB36
  refine ldP_of (x:=some ⟨g,0,none⟩) (at_cell hf6) ?_
  simp only [onPtr_some]
  refine lI (x:=F.h.Color) (by rw [add_zero];exact hF6.blk.cells 3 _ rfl) (Samples_spec ?_)
  refine nwb fun w8 h8 hB8 hs8=>?_
  refine all_of h8 rfl fun w9 h9 hc9 hs9=>?_
  have hB69:Below w6.heap.size w6 w9:=b1o hB8 hc9 (Nat.le_refl _)
  have hBd9:=bdw w9
  have hB69d:=bT hB69 hBd9
  have hF9:=hF6.ext hB69d
  refine lI (x:=((samplesOf F.h.Color:Nat):Int)) (at_cell (h9.ext hBd9)) (ldP_of (x:=some ⟨g,0,none⟩) (at_cell (hf6.ext hB69d)) ?_)
  simp only [onPtr_some]
  refine lI (x:=F.h.Depth) (by rw [add_zero];exact hF9.blk.cells 2 _ rfl) ⟨by decide,?_⟩
  refine nwb fun w10 h10 hB10 hs10=>?_
  have hB910:=bT hB69d hB10
  have hF10:=hF6.ext hB910
  have h910:=(h9.ext hBd9).ext hB10
  refine ⟨by rw [add_zero];exact hF10.blk.cells 2 _ rfl,at_cell (hf6.ext hB910),at_cell h910,?_⟩
  have hst:IntKind.i64.wrap ((IntKind.i64.wrap ((IntKind.i64.wrap (((samplesOf F.h.Color:Nat):Int)*F.h.Depth))+(7:Int))).tdiv (8:Int))=((pStepN F.h:Nat):Int):=by
   have hs:=samplesOf_pos hco
   have hd:1≤F.h.Depth.toNat∧F.h.Depth.toNat≤16:=by have:=hco.d;omega
   have hdn:F.h.Depth=((F.h.Depth.toNat:Nat):Int):=by have:=hco.d;omega
   have h2:samplesOf F.h.Color*F.h.Depth.toNat≤4*16:=Nat.mul_le_mul hs.2 hd.2
   unfold pStepN
   rw [hdn,show ((samplesOf F.h.Color:Nat):Int)*((F.h.Depth.toNat:Nat):Int)=((samplesOf F.h.Color*F.h.Depth.toNat:Nat):Int) by simp,Int.toNat_natCast]
   generalize samplesOf F.h.Color*F.h.Depth.toNat=q at h2 ⊢
   rw [w64i (x:=((q:Nat):Int)) (by omega),w64i (x:=((q:Nat):Int)+7) (by omega),show ((q:Nat):Int)+7=((q+7:Nat):Int) by simp,show (8:Int)=((8:Nat):Int) from rfl,←Int.ofNat_tdiv,w64i (by omega)]
  rw [hst]
  refine all_of h10 rfl fun w11 h11 hc11 hs11=>?_
  have hsz9:w9.drew.heap.size=w9.heap.size:=rfl
  refine nwb fun w12 h12 hB12 hs12=>?_
  have hB611:Below w6.heap.size w6 w11:=b1o hB910 hc11 (by have:=hB69.size;omega)
  have hB612:=bT hB611 hB12
  have hF12:=hF6.ext hB612
  refine ldP_of (x:=some ⟨g,0,none⟩) (at_cell (hf6.ext hB612)) ?_
  simp only [onPtr_some]
  refine ldS_of (r:=T_png_Head.rep) (x:=F.h) (by rw [add_zero];exact hF12.head) ?_
  have hs6':w6.heap.size=w5.heap.size:=hs6
  have hb12:=((hb.ext hB5).chg hc6 (show w1.heap.size≠bmx by omega)).ext hB612
  have h3_12:=((h3.ext hB5).chg hc6 (show w2.heap.size≠bmx by omega)).ext hB612
  have hB3_12:=bT hB36 hB612
  have hBw12:Below w.heap.size w w12:=bT hB16 hB612
  have hn12:Blk w12 w6.heap.size ty_int _:=(h910.chg hc11 (by omega)).ext hB12
  have hst12:Blk w12 w9.drew.heap.size ty_int _:=h11.ext hB12
  have hc:PxC w w6.heap.size w.heap.size w11.heap.size (w1.heap.size) w9.drew.heap.size bmx gm tm:=⟨by omega,by omega,by omega,by omega,by omega,hta⟩
  have hI0:PxI w g F W H w6.heap.size w.heap.size w11.heap.size (w1.heap.size) w9.drew.heap.size bmx gm tm ⟨xs,[],List.replicate (4*W*H) 0⟩ w12:=by
   refine ⟨hn12,hf6.ext hB612,hst12,hm6.ext hB612,⟨⟨none,0,0⟩,h12,Own.nil _ _ _,fun k hk=>by cases hk⟩,⟨bS,hb12,hx⟩,(htm6.ext hB612).base (by omega),hBw12⟩
  have hval:pixelsP F xs=(rowsRun F (rowsL F.h) ⟨xs,[],List.replicate (4*W*H) 0⟩).map (·.m):=by
   unfold pixelsP
   rw [hh.wn,hh.hn]
  refine rows_spec hh (fun L w13=>∃S,rowsRun F L ⟨xs,[],List.replicate (4*W*H) 0⟩=some S∧S.m.length=4*W*H∧PxI w g F W H w6.heap.size w.heap.size w11.heap.size (w1.heap.size) w9.drew.heap.size bmx gm tm S w13∧Blk w13 (w2.heap.size) ty_api_Matrix [(.int .i64 0),(.int .i64 0),(.slice none 0 0)]∧w12.heap.size≤w13.heap.size)
   (fun w13=>pixelsP F xs=none∧Blk w13 (w2.heap.size) ty_api_Matrix [(.int .i64 0),(.int .i64 0),(.slice none 0 0)]∧Below w.heap.size w w13) ⟨_,rfl,by simp,hI0,h3_12,Nat.le_refl _⟩ ?_ ?_ ?_ ?_
  ·rintro L wa wb ⟨S,a,b,c,d',e⟩ hB
   exact ⟨S,a,b,c.ext hB,d'.ext hB,by have:=hB.size;omega⟩
  ·rintro L r R wa hL ⟨S,a,bb,c,d',e⟩ hsa J hJ1 hJ0
   refine callR_plain (by kernel_rfl) ?_
   have hcall:c_png_file_pixels_1 (passT r.1) (r.2.1:Int) (r.2.2:Int) ⟨w6.heap.size,0,none⟩ ⟨w.heap.size,0,none⟩ ⟨w11.heap.size,0,none⟩ ⟨w1.heap.size,0,none⟩ ⟨w9.drew.heap.size,0,none⟩ ⟨bmx,0,none⟩ wa J:=by
    obtain ⟨sa,q1,q2,q3⟩:=c.ah
    obtain ⟨sb,q4,q5⟩:=c.b
    refine pixels1_spec hF ho hh hpl htl hc hL hxn hxl a bb c (fun S' wb hS' hm' hI' hch=>?_) (fun wb hS' hch=>?_)
    ·refine hJ1 wb ⟨S',rowsRun_snoc a hS',hm',hI',d'.chg hch (by omega),by have:=hch.size;omega⟩ ?_ hch.size
     refine keepT_of hch fun k hk=>?_
     rcases hk with rfl | rfl | rfl
     ·exact ⟨_,_,q1,by decide,by decide⟩
     ·exact ⟨_,_,q4,by decide,by decide⟩
     ·obtain ⟨cs,hcs⟩:=c.row.blk_t (g:=k) (by unfold Slc.blk;rw [hta];rfl)
      exact ⟨_,_,hcs,by decide,by decide⟩
    ·refine hJ0 wb ⟨?_,d'.chg hch (by omega),c.B.trans (hch.below (by have:=c.B.size;omega) fun i hi e=>by omega)⟩
     rw [hval,hL,rowsRun_bad a hS']
     rfl
   refine Calls.mono hcall ?_
   rintro e w' ⟨r,rfl,hk⟩
   exact ⟨r,rfl,hk⟩
  ·rintro wa ⟨S,a,bb,c,d',e⟩
   refine cF rfl (ldS_of (r:=T_api_Matrix.rep) (x:=⟨W,H,tm⟩) c.m.cells ?_)
   refine res_of (r:=T_api_Matrix.rep) (x:=⟨W,H,tm⟩) d' rfl rfl fun wb hcb hsb=>?_
   rw [a] at hval
   exact hY S.m hval tm wb ((c.row.chg hcb fun k hk=>own_ne_blk c.row d' (by decide) k hk).base (by omega)) bb (b1o c.B hcb (by omega))
  ·rintro wa ⟨a,d',e⟩
   refine cT rfl ?_
   exact res_of (r:=T_api_Matrix.rep) (x:=⟨0,0,⟨none,0,0⟩⟩) d' rfl rfl fun wb hcb hsb=>hN a wb (b1o e hcb (by omega))
 refine ⟨?_,?_⟩
 ·refine pNew_spec hh.w1 hh.w2 hh.h1 hh.h2 hA fun tm gm w4 htm hta hgm hB4=>?_
  have hBd4:Below w3.heap.size w3 w4:=bT hBd hB4
  refine nwb fun w5 h5 hB5 hs5=>?_
  have hB35:=bT hBd4 hB5
  refine ⟨by rw [add_zero];exact chh hB35,at_cell (hf.ext hB35),by rw [add_zero];have:=cw hB35;rwa [add_zero] at this ⊢,at_cell (hf.ext hB35),?_⟩
  exact tail _ gm _ tm w5 rfl h5 (by have:=hB4.size;omega) (htm.ext hB5) hta (by omega) hB35
 ·refine nwb fun w5 h5 hB5 hs5=>?_
  have hB35:=bT hBd hB5
  refine ⟨by rw [add_zero];exact chh hB35,at_cell (hf.ext hB35),by rw [add_zero];have:=cw hB35;rwa [add_zero] at this ⊢,at_cell (hf.ext hB35),?_⟩
  refine pNew_spec hh.w1 hh.w2 hh.h1 hh.h2 hA fun tm gm w4 htm hta hgm hB4=>?_
  exact tail _ gm _ tm w4 rfl (h5.ext hB4) (by omega) (htm.base (by omega)) hta (by omega) (bT hB35 hB4)
end
end Go.Proofs.YtmagnpcgpinmcaaGreat
set_option linter.unusedVariables false
namespace Go.Proofs.YtmagnpcgpinmcaaGreat
open Go.Vc Go.RowKit
set_option maxRecDepth 400000
theorem readAll_err {b:List UInt8} {pixels:Int} (h:(chunksP false b).1≠0):(readAll b pixels).1=(chunksP false b).1:=by
 unfold readAll
 cases hc:chunksP false b with
 | mk e l =>
  rw [hc] at h
  match e,l with
  | 0,_=>exact absurd rfl h
  | e+1,_=>rfl
theorem readAll_of {b:List UInt8} {pixels:Int} {c:ChL} {l:List ChL} (h:chunksP false b=(0,c::l)):readAll b pixels=readCh c l pixels:=by
 unfold readAll
 rw [h]
 rfl
theorem Below.rdT {T:Type} {E:El T} {B:Nat} {w w':World} {s:Slc} {xs:List T} (h:Rd E w s xs) (hB:Below B w w') (hs:∀k,s.blk=some k→k<B):Rd E w' s xs:=h.chg (Chg.of_below hB) fun a ha e=>by have:=hs a.block (slk.2 ⟨a,ha,rfl⟩);omega
section
variable {w:World}
theorem pRead_spec {b:Slc} {bs:List UInt8} {pixels:Int} {K:Option Addr→Int→World→Prop} (hb:Rd E_uint8 w b bs) (hbl:∀k,b.blk=some k→k<w.heap.size) (hl:bs.length≤1000000)
  (hE:(readAll bs pixels).1≠0→∀w',Below w.heap.size w w'→K none ((readAll bs pixels).1:Nat) w') (hO:(readAll bs pixels).1=0→∀g b p t d w',FilA w' g b (readAll bs pixels).2 p t d→w.heap.size≤g→Below w.heap.size w w'→K (some ⟨g,0,none⟩) 0 w'):c_png_read b pixels w K:=by
 refine call_png_read _ _ ?_
 unfold sh_png_read
 refine Chunks_spec hb hbl hl fun s w1 hcs hB1=>?_
 obtain ⟨f1,f2,f3,f4⟩:=chunksP_facts false bs
 refine cO (fun e=>?_) fun e=>?_
 ·have e:(chunksP false bs).1≠0:=fun h=>by rw [h] at e;cases e
  rw [readAll_err e] at hE
  exact hE e w1 hB1
 have e0:(chunksP false bs).1=0:=by
  rcases Nat.eq_zero_or_pos (chunksP false bs).1 with h | h
  ·exact h
  ·rw [bneI_t (by omega)] at e;cases e
 obtain ⟨c,l,hcl⟩:=f4 e0
 have hcp:chunksP false bs=(0,c::l):=by rw [←e0,←hcl]
 rw [hcl] at f1 f2 f3 hcs
 rw [readAll_of hcp] at hE hO
 obtain ⟨xs,hxs,hxl,hxc⟩:=hcs
 have hxl:xs.length=l.length+1:=hxl
 have hds:dsum (c::l)=c.data.length+dsum l:=by simp [dsum]
 rw [hds] at f1
 rw [List.length_cons] at f3
 have hrd:=hxs.rd
 obtain ⟨x0,hx0⟩:∃x0,xs[0]?=some x0:=⟨_,List.getElem?_eq_getElem (by omega)⟩
 have hc0:=hxc 0 x0 c hx0 rfl
 refine hrd.ix (i:=0) (k:=2) rfl (by omega) (by omega) fun _=>?_
 refine ldS_of (r:=T_png_Chunk.rep) (x:=x0) (hrd.at_ 0 x0 hx0) ?_
 refine pHead_spec hc0.a fun w2 hB2=>?_
 refine nwb fun w3 h3 hB3 hs3=>all_of h3 rfl fun w4 h4 hc4 hs4=>?_
 have hB14:Below w1.heap.size w1 w4:=b1o (bT hB2 hB3) hc4 hB2.size
 have hB4:=bT hB1 hB14
 unfold readCh at hE hO
 refine cO (fun e=>?_) fun e=>?_
 ·have e:(headP c).1≠0:=fun h=>by rw [h] at e;cases e
  rw [if_pos e] at hE
  exact hE e w4 hB4
 have e1:(headP c).1=0:=by
  rcases Nat.eq_zero_or_pos (headP c).1 with h | h
  ·exact h
  ·rw [bneI_t (by omega)] at e;cases e
 rw [if_neg (by omega)] at hE hO
 obtain ⟨h,hh⟩:∃h,h=(headP c).2:=⟨_,rfl⟩
 rw [←hh] at hE hO h4
 have hck:checkP h=0:=by rw [hh];exact headP_ok e1
 obtain ⟨⟨W,H,ho⟩,hco⟩:=checkP_ok hck
 have hWH:W*H≤16384*16384:=Nat.mul_le_mul ho.w2 ho.h2
 refine lI (x:=h.W) (h4.cells 0 _ rfl) (lI (x:=h.H) (h4.cells 1 _ rfl) ?_)
 have hmul:h.W*h.H=((W*H:Nat):Int):=by rw [ho.w,ho.h];simp
 rw [hmul] at hE hO ⊢
 rw [w64i (x:=((W*H:Nat):Int)) (by omega)]
 have hmin:((W*H:Nat):Int)>(if (67108864:Int)<pixels then (67108864:Int) else pixels)↔((W*H:Nat):Int)>pixels∨((W*H:Nat):Int)>67108864:=by
  split<;>omega
 refine cO (fun e=>?_) fun e=>?_
 ·have e:=hmin.1 (of_decide_eq_true e)
  rw [if_pos e] at hE
  exact hE (show (5:Nat)≠0 by decide) w4 hB4
 have e2:=fun h=>of_decide_eq_false e (hmin.2 h)
 rw [if_neg e2] at hE hO
 refine ldS_of (r:=T_png_Head.rep) (x:=h) h4.cells ?_
 refine nwb fun w5 h5 hB5 hs5=>?_
 have hB15:=bT hB14 hB5
 obtain ⟨g,hg⟩:∃g,g=w4.heap.size:=⟨_,rfl⟩
 rw [←hg] at h5 ⊢
 have hf0:FilA w5 g g (fil0 h) ⟨none,0,0⟩ ⟨none,0,0⟩ ⟨none,0,0⟩:=⟨h5,Rd.nil _ _,Rd.nil _ _,Own.nil _ _ _,(fun k hk=>by cases hk),(fun k hk=>by cases hk)⟩
 have hxs5:=hxs.ext hB15
 refine hxs5.rd.slK (l:=1) (m:=xs.length) rfl (.inr rfl) (.inl ⟨rfl,rfl⟩) (by omega) (by omega) fun hp=>?_
 rw [List.take_length] at hp
 have hs15:=hB15.size
 have hs1g:w1.heap.size≤g:=by rw [hg];exact hB14.size
 have hblk:∀k,(⟨cut s.a 1 s.c E_png_Chunk.k,xs.length-1,s.c-1⟩:Slc).blk=some k→k<g:=fun k hk=>by
  obtain ⟨a,ha,rfl⟩:=slk.1 hk
  obtain ⟨a',ha',e⟩:=cut_block ha
  have:=(hxs.lt a'.block (slk.2 ⟨a',ha',rfl⟩)).2
  rw [e]
  omega
 have hn:xs.length-1=l.length:=by omega
 rw [hn] at hp hblk ⊢
 have h45:Blk w5 w2.heap.size ty_png_Head (T_png_Head.rep.cells h):=h4.ext hB5
 have hs2g:w2.heap.size<g:=by rw [hg];have:=h4.lt;omega
 refine lpR (fun (st:Int×Unit) w6=>∃(i:Nat) (F:FilL) (p t d:Slc) (m:Nat),st.1=i∧i≤l.length∧FilA w6 g g F p t d∧FilOk F∧F.h=h∧takeAll (fil0 h) l=takeAll F (l.drop i)∧Below g w5 w6∧(F.data.length≤m∧F.pal.length≤m∧F.tr.length≤m)∧m+dsum (l.drop i)≤bs.length) (fun st=>l.length-st.1.toNat)
  ⟨0,fil0 h,_,_,_,0,rfl,by omega,hf0,fil0_ok hck,rfl,rfl,Below.refl _ _,⟨Nat.le_refl _,Nat.le_refl _,Nat.le_refl _⟩,by rw [List.drop_zero];omega⟩ ?_
 rintro ⟨i,u⟩ w6 ⟨i,F,p,t,d,m,rfl,hi,hF,hFo,hFh,htk,hB56,hlen,hsum⟩ I hI
 dsimp only
 have hBw6:Below w.heap.size w w6:=(bT hB1 hB15).trans (hB56.mono (by have:=hB1.size;omega))
 refine cO (fun hlt=>?_) fun hge=>?_
 ·have hlt:=of_decide_eq_true hlt
  have hil:i<l.length:=by omega
  obtain ⟨ci,hci⟩:∃ci,l[i]?=some ci:=⟨_,List.getElem?_eq_getElem hil⟩
  obtain ⟨xi,hxi⟩:∃xi,xs[i+1]?=some xi:=⟨_,List.getElem?_eq_getElem (by omega)⟩
  have hoi:=hxc (i+1) xi ci hxi (by simpa using hci)
  have hdrop:l.drop i=ci::l.drop (i+1):=by
   rw [List.getElem?_eq_getElem hil] at hci
   rw [←Option.some.inj hci,←List.drop_eq_getElem_cons]
  have hmem:ci∈c::l:=List.mem_cons_of_mem _ (List.mem_of_getElem? hci)
  have hdsum:dsum (l.drop i)=ci.data.length+dsum (l.drop (i+1)):=by rw [hdrop];simp [dsum]
  rw [hdsum] at hsum
  have hp6:=Below.rdT hp hB56 hblk
  have hxi':(xs.drop 1)[i]?=some xi:=by rw [List.getElem?_drop,Nat.add_comm];exact hxi
  refine hp6.ix (i:=(i:Int)) (k:=2) rfl (by omega) (by rw [List.length_drop];omega) fun _=>?_
  refine ldS_of (r:=T_png_Chunk.rep) (x:=xi) (hp6.at_ i xi hxi') ?_
  refine nwb fun w7 h7 hB7 hs7=>all_of h7 rfl fun w8 h8 hc8 hs8=>?_
  have hB68:Below w6.heap.size w6 w8:=b1o hB7 hc8 (Nat.le_refl _)
  refine ldS_of (r:=T_png_Chunk.rep) (x:=xi) h8.cells ?_
  have hg6:g≤w6.heap.size:=by have:=hF.blk.lt;omega
  have hB58:Below g w5 w8:=hB56.trans (hB68.mono hg6)
  have hxblk:∀k,xi.Data.blk=some k→k<g:=fun k hk=>by have:=(hoi.data.lt k hk).2;omega
  have hxa:ChA w8 xi ci:=⟨hoi.kind,Below.rdT (hoi.data.rd.ext hB15) hB58 hxblk⟩
  rw [hdrop,takeAll] at htk
  refine pTake_spec (hF.ext hB68) (by rw [hFh];exact hco) hxa hxblk (Nat.le_refl _) (f2 ci hmem) (by omega) (by omega) (by omega) (fun w9 hne hB9=>?_) (fun h0 p' t' d' w9 hF9 hB9=>?_)
  ·rw [if_pos hne] at htk
   have hBw9:Below w.heap.size w w9:=(hBw6.trans (hB68.mono (by have:=hBw6.size;omega))).trans (hB9.mono (by have:=hB1.size;omega))
   refine cT (bneI_t (by omega)) ?_
   rw [htk] at hE
   rw [if_pos hne] at hE
   exact hE hne w9 hBw9
  ·rw [if_neg (by omega)] at htk
   refine cF rfl ?_
   rw [w64i (by omega)]
   obtain ⟨ho9,hh9⟩:=takeP_ok hFo h0
   obtain ⟨l1,l2,l3⟩:=takeP_len (c:=ci) hlen
   exact hI _ _ ⟨i+1,(takeP F ci).2,p',t',d',m+ci.data.length,rfl,by omega,hF9,ho9,hh9.trans hFh,htk,hB58.trans hB9,⟨l1,l2,l3⟩,by omega⟩ (by simp;omega)
 ·have hge:=of_decide_eq_false hge
  obtain rfl:i=l.length:=by omega
  rw [List.drop_length,takeAll] at htk
  rw [htk] at hE hO
  rw [if_neg (by simp)] at hE hO
  refine ldB_of (x:=F.hasD) (hF.blk.cells 10 _ rfl) ?_
  refine cO (fun e=>?_) fun e=>?_
  ·have e:F.hasD=false:=by simpa using e
   rw [if_pos (.inl e)] at hE
   exact hE (show (3:Nat)≠0 by decide) w6 hBw6
  have e3:F.hasD=true:=by simpa using e
  have h46:Blk w6 w2.heap.size ty_png_Head (T_png_Head.rep.cells h):=h45.below hB56 hs2g
  refine lI (x:=h.Color) (h46.cells 3 _ rfl) ?_
  refine cO (fun e=>?_) fun e=>?_
  ·have e:h.Color=3:=eq_of_beq e
   refine ldB_of (x:=F.hasP) (hF.blk.cells 7 _ rfl) ?_
   refine cO (fun e4=>?_) fun e4=>?_
   ·have e4:F.hasP=false:=by simpa using e4
    rw [if_pos (.inr ⟨e,e4⟩)] at hE
    exact hE (show (3:Nat)≠0 by decide) w6 hBw6
   ·have e4:F.hasP=true:=by simpa using e4
    rw [if_neg (by rw [e3,e4];simp)] at hO
    exact hO rfl g g p t d w6 hF (by have:=hB1.size;omega) hBw6
  ·have e:h.Color≠3:=by simpa using e
   rw [if_neg (by rw [e3];simp [e])] at hO
   exact hO rfl g g p t d w6 hF (by have:=hB1.size;omega) hBw6
theorem Decode_spec {b:Slc} {bs:List UInt8} {pixels:Int} {K:T_api_Matrix→Int→World→Prop} (hb:Rd E_uint8 w b bs) (hbl:∀k,b.blk=some k→k<w.heap.size) (hl:bs.length≤1000000) (hpx:pixels≤4000000)
  (hE:(decodeP bs pixels).1≠0→∀w',Below w.heap.size w w'→K ⟨0,0,⟨none,0,0⟩⟩ ((decodeP bs pixels).1:Nat) w')
  (hO:∀W H m,decodeP bs pixels=(0,W,H,m)→∀s w',Go.Vc.Own E_uint8 w' w.heap.size s m→m.length=4*W*H→Below w.heap.size w w'→K ⟨W,H,s⟩ 0 w'):c_png_Decode b pixels w K:=by
 refine call_png_Decode _ _ ?_
 unfold sh_png_Decode
 refine nwb fun w1 h1 hB1 hs1=>?_
 unfold decodeP at hE hO
 have bad:∀(n:Nat) w2,Below w1.heap.size w1 w2→(∀w',Below w.heap.size w w'→K ⟨0,0,⟨none,0,0⟩⟩ (n:Int) w')→stK ⟨w.heap.size,0,none⟩ [(.int .i64 0),(.int .i64 0),(.slice none 0 0)] w2 fun w3=>ldS T_api_Matrix.rep ⟨w.heap.size,0,none⟩ w3 fun r=>K r (n:Int) w3:=fun n w2 hB hk =>
  res_of (r:=T_api_Matrix.rep) (x:=⟨0,0,⟨none,0,0⟩⟩) (h1.ext hB) rfl rfl fun w3 hc3 hs3=>hk w3 (b1o (bT hB1 hB) hc3 (Nat.le_refl _))
 refine pRead_spec (hb.ext hB1) (fun k hk=>by have:=hbl k hk;omega) hl (fun hne w2 hB2=>?_) (fun h0 g bb p t d w2 hF hgl hB2=>?_)
 ·rw [if_pos hne] at hE
  exact cT (bneI_t (by omega)) (bad _ w2 hB2 (hE hne))
 obtain ⟨hok,harea,hd,hp,ht⟩:=readAll_ok h0
 rw [if_neg (by omega)] at hE hO
 obtain ⟨F,hFe⟩:∃F,F=(readAll bs pixels).2:=⟨_,rfl⟩
 rw [←hFe] at hE hO hF hok harea hd hp ht
 obtain ⟨⟨W,H,hh⟩,hco⟩:=checkP_ok hok.hd
 have hmul:F.h.W*F.h.H=((W*H:Nat):Int):=by rw [hh.w,hh.h];simp
 rw [hmul] at harea
 have hneed:=needP_le hh (M:=W*H) (Nat.le_refl _)
 refine cF rfl (onPtr_a ?_)
 refine ldS_of (r:=T_png_Head.rep) (x:=F.h) (by rw [add_zero];exact hF.head) ?_
 refine need_spec hh fun w4 hB4=>onPtr_a ?_
 have hF4:=hF.ext hB4
 have hB24:=bT hB2 hB4
 refine lSl (x:=d) (hF4.blk.cells 9 _ rfl) ?_
 obtain ⟨u1,u2,u3⟩:=unRun_spec (needP F.h) F.data
 unfold decF at hE hO
 refine Unpack_spec (by omega) hF4.data.rd (fun k hk=>(hF4.data.lt k hk).2) (by omega) u1 u2 u3 (fun hz o w5 ho hB5=>?_) (fun n hz hn w5 hB5=>?_)
 ·have hz:unErr (needP F.h) F.data=0:=hz
  rw [hz,if_neg (by decide)] at hE hO
  have hB15:=bT hB24 hB5
  have hF5:=hF4.ext hB5
  have hu:((6+((unRun (needP F.h) F.data).2.1+7)/8:Nat):Int)=((unUsed (needP F.h) F.data:Nat):Int):=rfl
  rw [hu,ho.rd.n]
  have hoo:(unRun (needP F.h) F.data).1.hist=unOut (needP F.h) F.data:=rfl
  rw [hoo] at ho ⊢
  obtain ⟨xs,hxs⟩:∃xs,xs=unOut (needP F.h) F.data:=⟨_,rfl⟩
  rw [←hxs] at ho hE hO ⊢
  have hxm:xs.length≤needP F.h:=by rw [hxs];exact u1.most (Nat.zero_le _)
  refine jpO fun J1 hJ1=>?_
  refine cF rfl (jpO fun J2 hJ2=>?_)
  have key:∀bb':Bool,(bb'=true↔xs.length<needP F.h∨unUsed (needP F.h) F.data<F.data.length)→J2 (bb',()) w5:=by
   intro bb' hbb
   refine hJ2 _ _ (cO (fun e=>?_) fun e=>?_)
   ·rw [if_pos (hbb.1 e)] at hE
    exact bad 3 w5 hB15 (hE (show (3:Nat)≠0 by decide))
   ·have hn:¬(xs.length<needP F.h∨unUsed (needP F.h) F.data<F.data.length):=fun h=>by rw [hbb.2 h] at e;cases e
    rw [if_neg hn] at hE hO
    refine hJ1 _ _ ?_
    refine pixels_spec hF5 hok hh (by omega) (by omega) (by omega) ho.rd (by omega) (by omega) (fun hpn w7 hB7=>?_) (fun m hpm s w7 hs hml hB7=>?_)
    ·rw [hpn] at hE
     exact bad 3 w7 (bT hB15 hB7) (hE (show (3:Nat)≠0 by decide))
    ·rw [hpm] at hO
     have hB17:=bT hB15 hB7
     refine res_of (r:=T_api_Matrix.rep) (x:=⟨W,H,s⟩) (h1.ext hB17) rfl rfl fun w8 hc8 hs8=>?_
     have e1:(0,F.h.W.toNat,F.h.H.toNat,m)=(0,W,H,m):=by rw [hh.wn,hh.hn]
     exact hO W H m e1 s w8 ((hs.chg hc8 fun k hk=>own_ne_blk hs (h1.ext hB17) (by decide) k hk).base (by have:=hB1.size;have:=hB15.size;omega)) hml (b1o (bT hB1 hB17) hc8 (Nat.le_refl _))
  refine cO (fun e=>key _ ?_) fun e=>?_
  ·have e:=of_decide_eq_true e
   simp
   exact .inl (by omega)
  ·have e:=of_decide_eq_false e
   refine onPtr_a (lSl (x:=d) (hF5.blk.cells 9 _ rfl) (key _ ?_))
   rw [hF5.data.rd.n,decide_eq_true_iff]
   omega
 ·have hz:unErr (needP F.h) F.data=n:=hz
  rw [hz,if_pos hn] at hE
  refine jpO fun J1 hJ1=>?_
  exact cT (bneI_t (by omega)) (bad n w5 (bT hB24 hB5) (hE hn))
end
end Go.Proofs.YtmagnpcgpinmcaaGreat
set_option linter.unusedVariables false
namespace Go.Proofs.YtmagnpcgpinmcaaGreat
open Go.Vc Go.RowKit
set_option maxRecDepth 400000
theorem bcells_replicate (n:Nat):bcells (List.replicate n 0)=List.replicate n (.int .u8 0):=by
 unfold bcells
 rw [List.map_replicate]
 rfl
theorem mkB {n m:Nat} {l c:Int} (hl:l=n) (hc:c=m) (hnm:n≤m) (hm:m≤100000000000) {w:World} {K:Slc→World→Prop}
  (hK:∀w',Go.Vc.Own E_uint8 w' w.heap.size ⟨some ⟨w.heap.size,0,none⟩,n,m⟩ (List.replicate n 0)→Below w.heap.size w w'→K ⟨some ⟨w.heap.size,0,none⟩,n,m⟩ w'):mkSl PG ty_sl_uint8 (.int .i64 l) (.int .i64 c) w K:=by
 subst hl hc
 have hr:=run_make (P:=PG) w ty_sl_uint8 E_uint8.t sT_sl_uint8.i sT_sl_uint8.z sT_sl_uint8.ht sT_sl_uint8.hi sT_sl_uint8.hz .i64 .i64 (n:Int) (m:Int) (by omega) (by omega) (by rw [by_sl_uint8];omega) (by omega)
 refine ⟨⟨some ⟨w.heap.size,0,none⟩,n,m⟩,_,by simpa using hr,hK _ ?_ ((Below.refl _ w).alloc (Nat.le_refl _) _)⟩
 have hcur:(madeCells sT_sl_uint8.z.cells ((m:Int).toNat*sT_sl_uint8.i.size)).toList=List.replicate m (.int .u8 0):=by
  have hs:sT_sl_uint8.i.size=1:=sT_sl_uint8.hs
  rw [hs,Int.toNat_natCast,Nat.mul_one]
  refine List.ext_getElem? fun j=>?_
  have hz:sT_sl_uint8.z.cells=#[.int .u8 0]:=rfl
  rw [hz]
  by_cases hj:j<m
  ·rw [Array.getElem?_toList,List.getElem?_replicate,if_pos hj]
   simp [madeCells,hj]
   rw [Nat.mod_one]
   rfl
  ·rw [List.getElem?_eq_none (by simp [madeCells];omega),List.getElem?_eq_none (by simp;omega)]
 have hb:Blk (w.alloc (.cells (madeCells sT_sl_uint8.z.cells ((m:Int).toNat*sT_sl_uint8.i.size)) E_uint8.t)) w.heap.size E_uint8.t (List.replicate m (.int .u8 0)):=by
  have:=Blk.new w E_uint8.t (madeCells sT_sl_uint8.z.cells ((m:Int).toNat*sT_sl_uint8.i.size)).toList
  rw [hcur,←hcur,Array.toArray_toList] at this
  rw [hcur] at this
  exact this
 have:=Go.Vc.Own.of_blk (E:=E_uint8) (xs:=List.replicate n (0:UInt8)) (c:=m) (base:=w.heap.size) (Nat.le_refl _) hb (by simpa using hnm) (by unfold maxLen;omega) (by rw [List.length_replicate];exact (Nat.mul_one _).symm) (by
  rw [bcells_flat,bcells_replicate,List.length_replicate]
  show (List.replicate m _).take (n*1)=_
  rw [Nat.mul_one,List.take_replicate,Nat.min_eq_left hnm])
 simpa using this
theorem be4_len (n:Nat):(be4 n).length=4:=rfl
section
variable {w:World}
theorem big_spec {n:Nat} {K:Slc→World→Prop} (hn:n<2^32) (hK:∀t w',Rd E_uint8 w' ⟨some t,4,4⟩ (be4 n)→Below w.heap.size w w'→K ⟨some t,4,4⟩ w'):c_png_big (n:Int) w K:=by
 refine call_png_big _ ?_
 unfold sh_png_big
 refine ⟨by decide,by decide,by decide,?_⟩
 rw [show min ((24:Int)).toNat IntKind.u32.bits=24 by decide,show min ((16:Int)).toNat IntKind.u32.bits=16 by decide,show min ((8:Int)).toNat IntKind.u32.bits=8 by decide,fdiv_nat,fdiv_nat,fdiv_nat,wrap8_of,wrap8_of,wrap8_of,wrap8_of]
 exact nwb fun w1 h1 hB1 hs1=>hK _ w1 (rd_lits (E:=E_uint8) (ys:=be4 n) h1 (by rw [be4_len];decide) rfl) hB1
def ChsA (w:World) (xs:List T_png_Chunk) (L:List ChL):Prop:=xs.length=L.length∧∀(i:Nat) x c,xs[i]?=some x→L[i]?=some c→ChA w x c
theorem kind4_len (k:List UInt8):(kind4 k).length=4:=by unfold kind4;rw [List.length_append,List.length_take,List.length_replicate];omega
theorem layC_len (c:ChL):(layC c).length=12+c.data.length:=by
 unfold layC
 simp only [List.length_append,be4_len,kind4_len]
 omega
theorem lay_take (L:List ChL) {i:Nat} {c:ChL} (h:L[i]?=some c):layP (L.take (i+1))=layP (L.take i)++layC c:=by
 unfold layP
 rw [List.take_add_one,h,List.flatMap_append]
 simp
theorem layP_len (L:List ChL):(layP L).length=8+12*L.length+dsum L:=by
 unfold layP
 have:(L.flatMap layC).length=12*L.length+dsum L:=by
  induction L with
  | nil=>rfl
  | cons c L ih =>
   rw [List.flatMap_cons,List.length_append,ih,layC_len,List.length_cons]
   unfold dsum
   rw [List.map_cons,List.sum_cons]
   omega
 rw [List.length_append,this]
 show 8+_=_
 omega
theorem dsum_take (L:List ChL) (i:Nat):dsum (L.take i)≤dsum L:=by
 have:dsum L=dsum (L.take i)+dsum (L.drop i):=by
  unfold dsum
  rw [←List.sum_append,←List.map_append,List.take_append_drop]
 omega
theorem dsum_get {L:List ChL} {i:Nat} {c:ChL} (h:L[i]?=some c):c.data.length≤dsum L:=by
 obtain ⟨hi,e⟩:=List.getElem?_eq_some_iff.1 h
 have h2:=dsum_take L (i+1)
 rw [List.take_add_one,h] at h2
 unfold dsum at h2 ⊢
 rw [List.map_append,List.sum_append] at h2
 simp at h2
 omega
theorem Lay_spec {l:Slc} {xs:List T_png_Chunk} {L:List ChL} (hl:Rd E_png_Chunk w l xs) (hL:ChsA w xs L) (hn:L.length≤1000000) (hd:dsum L≤1000000000) {K:Slc→World→Prop} (hK:∀t w',Go.Vc.Own E_uint8 w' w.heap.size t (layP L)→Below w.heap.size w w'→K t w'):c_png_Lay l w K:=by
 refine call_png_Lay _ ?_
 unfold sh_png_Lay
 refine signO_spec fun t w1 hs hB1=>?_
 have hln:=hl.n
 have hxl:=hL.1
 refine lpR (fun (s:Slc×Int×Unit) w2=>∃i:Nat,s.2.1=i∧i≤L.length∧Go.Vc.Own E_uint8 w2 w.heap.size s.1 (layP (L.take i))∧Below w.heap.size w w2) (fun s=>L.length-s.2.1.toNat) ⟨0,rfl,by omega,hs,hB1⟩ ?_
 rintro ⟨o,i,u⟩ w2 ⟨i,rfl,hi,hoo,hB2⟩ I hI
 dsimp only at hoo ⊢
 have hro:=hoo.rd
 rw [hln,hxl]
 refine cO (fun hlt=>?_) fun hge=>?_
 ·have hlt:=of_decide_eq_true hlt
  have hil:i<L.length:=by omega
  obtain ⟨x,hx⟩:∃x,xs[i]?=some x:=⟨_,List.getElem?_eq_getElem (by omega)⟩
  obtain ⟨c,hc⟩:∃c,L[i]?=some c:=⟨_,List.getElem?_eq_getElem hil⟩
  have hxc:=(hL.2 i x c hx hc).ext hB2
  have hl2:=hl.ext hB2
  have hcd:=dsum_get hc
  refine hl2.ix (i:=(i:Int)) (k:=2) rfl (by omega) (by omega) fun _=>?_
  refine ldS_of (r:=T_png_Chunk.rep) (x:=x) (hl2.at_ i x hx) ?_
  refine nwb fun w3 h3 hB3 hs3=>all_of h3 rfl fun w4 h4 hc4 hs4=>?_
  have hB24:Below w2.heap.size w2 w4:=b1o hB3 hc4 (Nat.le_refl _)
  have hx4:=hxc.ext hB24
  refine lSl (x:=x.Data) (h4.cells 1 _ rfl) ?_
  rw [hx4.data.n,w64i (x:=(4:Int)+((c.data.length:Nat):Int)) (by omega)]
  refine mkB (n:=4) (m:=4+c.data.length) rfl (by omega) (by omega) (by omega) fun w5 hk5 hB5=>?_
  refine ldStr_of (x:=x.Kind) ((h4.ext hB5).cells 0 _ rfl) ?_
  rw [hx4.kind]
  obtain ⟨cur,hcur,hcl,hct,hc1,hc2,hc3,hc4'⟩:=own_cur (c:=0) hk5 (g:=w4.heap.size) rfl
  have hcl:cur.length=4+c.data.length:=hcl
  have hmn:min c.kind.length 4≤4:=Nat.min_le_right _ _
  refine copyS (dc:=4+c.data.length) hcur rfl (by omega) fun w6 hb6 hc6 hs6=>?_
  have hput:=own_put (ys:=c.kind.take (min c.kind.length 4)) (k:=0) hk5 rfl hcur (by rw [List.length_take,List.length_replicate];omega) hb6
  have hke:(List.replicate 4 (0:UInt8)).take 0++c.kind.take (min c.kind.length 4)++(List.replicate 4 (0:UInt8)).drop (0+(c.kind.take (min c.kind.length 4)).length)=kind4 c.kind:=by
   unfold kind4
   rw [List.take_zero,List.nil_append,Nat.zero_add,List.length_take,List.drop_replicate]
   rcases Nat.le_total c.kind.length 4 with h | h
   ·rw [Nat.min_eq_left h,Nat.min_self,List.take_length,List.take_of_length_le h]
   ·rw [Nat.min_eq_right h,Nat.min_eq_left h,show 4-4=4-c.kind.length by omega]
  rw [hke] at hput
  have hB46:Below w4.heap.size w4 w6:=b1o hB5 hc6 (Nat.le_refl _)
  have h46:=h4.ext hB46
  have hB26:=bT hB24 hB46
  refine lSl (x:=x.Data) (h46.cells 1 _ rfl) ?_
  refine apB hput ((hx4.ext hB46).data) (by have:=hB46.size;omega) (by rw [kind4_len];omega) fun r w7 hr hc7 hrb=>?_
  have hB47:Below w4.heap.size w4 w7:=hB46.trans (hc7.below hB46.size fun k hk e=>by
   have:k=w4.heap.size:=by
    cases e
    rfl
   omega)
  have hB27:=bT hB24 hB47
  refine lSl (x:=x.Data) ((h4.ext hB47).cells 1 _ rfl) ?_
  rw [hx4.data.n]
  have ew:IntKind.u32.wrap ((c.data.length:Nat):Int)=((c.data.length:Nat):Int):=wrap_nat .u32 (show c.data.length<2^32 by omega)
  rw [ew]
  refine big_spec (by omega) fun t32 w8 h32 hB8=>?_
  have hr8:=hr.ext hB8
  refine CrcOf hr8.rd (by rw [List.length_append,kind4_len];omega) fun w11 hB11=>?_
  refine big_spec (crcN_lt _) fun t38 w12 h38 hB12=>?_
  have hB712:=bT (bT hB8 hB11) hB12
  have hB212:=bT hB27 hB712
  refine nwb fun w13 h13 hB13 hs13=>?_
  have ho13:=(hro.ext hB212).ext hB13
  have h32':=((h32.ext hB11).ext hB12).ext hB13
  have hr13:=(hr.ext hB712).ext hB13
  have h38':=h38.ext hB13
  have htl:=layP_len (L.take i)
  have hdt:=dsum_take L i
  have htk:(L.take i).length≤L.length:=by rw [List.length_take];omega
  have hfl:[layP (L.take i),be4 c.data.length,kind4 c.kind++c.data,be4 (crcN (kind4 c.kind++c.data))].flatten=layP (L.take (i+1)):=by
   rw [lay_take L hc]
   unfold layC
   simp [List.append_assoc]
  refine ConcatB_spec (p:=⟨some ⟨w12.heap.size,0,none⟩,4,4⟩) (ss:=[o,⟨some t32,4,4⟩,r,⟨some t38,4,4⟩]) (xss:=[layP (L.take i),be4 c.data.length,kind4 c.kind++c.data,be4 (crcN (kind4 c.kind++c.data))])
   (rd_lits (E:=slsE) (ys:=[o,⟨some t32,4,4⟩,r,⟨some t38,4,4⟩]) h13 (by simp [maxLen]) rfl) ⟨rfl,?_⟩ ?_ (by simp) fun q w14 hq hB14=>?_
  ·intro j s ys hs' hy
   match j,hs',hy with
   | 0,hs',hy=>cases hs';cases hy;exact ho13
   | 1,hs',hy=>cases hs';cases hy;exact h32'
   | 2,hs',hy=>cases hs';cases hy;exact hr13.rd
   | 3,hs',hy=>cases hs';cases hy;exact h38'
   | j+4,hs',hy=>simp at hs'
  ·rw [hfl,layP_len]
   have:=dsum_take L (i+1)
   rw [List.length_take]
   omega
  ·rw [hfl] at hq
   rw [w64i (by omega)]
   have hB14':=bT (bT (bT hB2 hB212) hB13) hB14
   have hsz:w.heap.size≤w13.heap.size:=(bT (bT hB2 hB212) hB13).size
   exact hI _ _ ⟨i+1,rfl,by omega,hq.base hsz,hB14'⟩ (by simp;omega)
 ·have hge:=of_decide_eq_false hge
  obtain rfl:i=L.length:=by omega
  rw [List.take_length] at hoo
  exact hK o w2 hoo hB2
end
end Go.Proofs.YtmagnpcgpinmcaaGreat
set_option linter.unusedVariables false
namespace Go.Proofs.YtmagnpcgpinmcaaGreat
open Go.Vc Go.RowKit
set_option maxRecDepth 400000
theorem take4_of {l:List UInt8} {k:Nat} (h:k+4≤l.length):∃a b c d,(l.drop k).take 4=[a,b,c,d]∧l[k]?=some a∧l[k+1]?=some b∧l[k+2]?=some c∧l[k+3]?=some d:=by
 refine ⟨l[k],l[k+1],l[k+2],l[k+3],?_,List.getElem?_eq_getElem _,List.getElem?_eq_getElem _,List.getElem?_eq_getElem _,List.getElem?_eq_getElem _⟩
 rw [List.drop_eq_getElem_cons (by omega),List.drop_eq_getElem_cons (by omega),List.drop_eq_getElem_cons (by omega),List.drop_eq_getElem_cons (by omega)]
 rfl
theorem rd_box4 {w:World} {bc t:Nat} {a b c d:UInt8} (h:Blk w bc t (bcells [a,b,c,d])):Rd E_uint8 w ⟨some ⟨bc,0,none⟩,4,4⟩ [a,b,c,d]:=by
 refine ⟨rfl,Nat.le_refl _,by simp [maxLen],fun _=>rfl,fun i y hy=>?_⟩
 have hbc':=h.cells i (.int .u8 (y.toNat:Int)) (by unfold bcells;rw [List.getElem?_map,hy];rfl)
 intro j v hj
 match j,hj with
 | 0,hj =>
  cases hj
  show w.cell? (((⟨bc,0,none⟩:Addr).add (i*1)).add 0)=_
  rw [add_zero,Nat.mul_one]
  exact hbc'
 | j+1,hj=>simp [E_uint8] at hj
section
variable {w:World}
theorem in_spec {W H X Y:Nat} {s:Slc} {P:List UInt8} {K:Bool→World→Prop} (hP:Rd E_uint8 w s P) (hl:P.length=4*W*H) (hW:W≤16384) (hH:H≤16384) (hX:X<W) (hY:Y<H) (hK:∀w',Below w.heap.size w w'→K true w'):c_pixel_in ⟨W,H,s⟩ (X:Int) (Y:Int) w K:=by
 refine call_pixel_in _ _ _ ?_
 unfold sh_pixel_in
 refine nwb fun w1 h1 hB1 hs1=>?_
 refine cT (decide_eq_true (by omega)) (lI (x:=(W:Int)) (h1.cells 0 _ rfl) (cT (decide_eq_true (by omega)) (cT (decide_eq_true (by omega)) (lI (x:=(H:Int)) (h1.cells 1 _ rfl) (cT (decide_eq_true (by omega)) ?_)))))
 refine lSl (x:=s) (h1.cells 2 _ rfl) (lI (x:=(W:Int)) (h1.cells 0 _ rfl) (lI (x:=(H:Int)) (h1.cells 1 _ rfl) ?_))
 have h4:4*W*H≤4*16384*16384:=Nat.mul_le_mul (Nat.mul_le_mul_left 4 hW) hH
 rw [hP.n,w64i (x:=(4:Int)*(W:Int)) (by omega),show (4:Int)*(W:Int)*(H:Int)=((4*W*H:Nat):Int) by simp,w64i (by omega),decide_eq_true (by omega)]
 exact hK w1 hB1
theorem pAt_spec {W H X Y:Nat} {s:Slc} {P:List UInt8} {K:T_pixel_Color→Bool→World→Prop} (hP:Rd E_uint8 w s P) (hl:P.length=4*W*H) (hW:W≤16384) (hH:H≤16384) (hX:X<W) (hY:Y<H)
  (hK:∀a b c d w',(P.drop (4*(Y*W+X))).take 4=[a,b,c,d]→Below w.heap.size w w'→K (colT a b c d) true w'):c_pixel_At ⟨W,H,s⟩ (X:Int) (Y:Int) w K:=by
 refine call_pixel_At _ _ _ ?_
 unfold sh_pixel_At
 refine nwb fun w1 h1 hB1 hs1=>nwb fun w2 h2 hB2 hs2=>?_
 have hB12:=bT hB1 hB2
 refine ldS_of (r:=T_api_Matrix.rep) (x:=⟨W,H,s⟩) (h1.ext hB2).cells ?_
 refine in_spec (hP.ext hB12) hl hW hH hX hY fun w3 hB3=>cF rfl ?_
 have hB13:=bT hB12 hB3
 refine ldS_of (r:=T_api_Matrix.rep) (x:=⟨W,H,s⟩) ((h1.ext hB2).ext hB3).cells ?_
 refine call_pixel_at _ _ _ ?_
 unfold sh_pixel_at
 refine nwb fun w4 h4 hB4 hs4=>nwb fun w5 h5 hB5 hs5=>?_
 have hB35:=bT hB4 hB5
 have hB15:=bT hB13 hB35
 have hP5:=hP.ext hB15
 refine lSl (x:=s) ((h4.ext hB5).cells 2 _ rfl) (lI (x:=(W:Int)) ((h4.ext hB5).cells 0 _ rfl) ?_)
 have hWH:4*W*H=4*(W*H):=Nat.mul_assoc _ _ _
 have hWH2:W*H≤16384*16384:=Nat.mul_le_mul hW hH
 have hYW:(Y+1)*W≤H*W:=Nat.mul_le_mul_right _ hY
 rw [Nat.add_mul,Nat.one_mul,Nat.mul_comm H W] at hYW
 obtain ⟨k,hk⟩:∃k,k=4*(Y*W+X):=⟨_,rfl⟩
 have ek:IntKind.i64.wrap ((4:Int)*(IntKind.i64.wrap ((IntKind.i64.wrap ((Y:Int)*(W:Int)))+(X:Int))))=(k:Int):=by
  rw [show (Y:Int)*(W:Int)=((Y*W:Nat):Int) by simp,w64i (x:=((Y*W:Nat):Int)) (by omega),w64i (x:=((Y*W:Nat):Int)+(X:Int)) (by omega),w64i (by omega)]
  omega
 rw [ek]
 have hkl:k+4≤P.length:=by omega
 obtain ⟨a,b,c,d,ht,g0,g1,g2,g3⟩:=take4_of hkl
 rw [←hk] at hK
 refine hP5.slK (l:=k) (m:=P.length) rfl (.inr rfl) (.inl ⟨rfl,rfl⟩) (by omega) (Nat.le_refl _) fun hr=>?_
 rw [List.take_length] at hr
 have hsome:=hr.some_ (by rw [List.length_drop];omega)
 obtain ⟨ad,had⟩:=Option.isSome_iff_exists.1 hsome
 rw [had,onPtr_some]
 have hcc:cellsAt w5 ad (T_pixel_Color.rep.cells (colT a b c d)):=by
  intro j v hj
  have key:∀(j:Nat) (y:UInt8),(P.drop k)[j]?=some y→w5.cell? (ad.add j)=some (.int .u8 (y.toNat:Int)):=fun j y hy=>by
   have:=rdcell hr hy
   have had':cut s.a k s.c E_uint8.k=some ad:=had
   simp only [Slc.at_,had',Option.getD_some,Nat.mul_one] at this
   exact this
  match j,hj with
  | 0,hj=>cases hj;exact key 0 a (by rw [List.getElem?_drop];exact g0)
  | 1,hj=>cases hj;exact key 1 b (by rw [List.getElem?_drop];exact g1)
  | 2,hj=>cases hj;exact key 2 c (by rw [List.getElem?_drop];exact g2)
  | 3,hj=>cases hj;exact key 3 d (by rw [List.getElem?_drop];exact g3)
  | j+4,hj=>simp [T_pixel_Color.rep] at hj
 refine ⟨by show 4≤P.length-k;omega,ldS_of (r:=T_pixel_Color.rep) (x:=colT a b c d) hcc ?_⟩
 refine res_of (r:=T_pixel_Color.rep) (x:=colT a b c d) h5 rfl rfl fun w6 hc6 hs6=>?_
 have hB36:Below w3.heap.size w3 w6:=b1o hB35 hc6 (by omega)
 refine res_of (r:=T_pixel_Color.rep) (x:=colT a b c d) ((h2.ext hB3).ext hB36) rfl rfl fun w7 hc7 hs7=>?_
 exact hK a b c d w7 ht (b1o (bT hB13 hB36) hc7 (by omega))
structure EnI (w0:World) (W H:Nat) (ms:Slc) (kd:Nat) (ba bl bm bk:Nat) (st:List UInt8×List UInt8) (w1:World):Prop where
 m:Blk w1 bm ty_api_Matrix (T_api_Matrix.rep.cells ⟨W,H,ms⟩)
 k:Blk w1 bk ty_int [.int .i64 (kd:Int)]
 ex:∃sa sl:Slc,Blk w1 ba ty_sl_uint8 [.slice sa.a sa.n sa.c]∧Go.Vc.Own E_uint8 w1 w0.heap.size sa st.2∧Blk w1 bl ty_sl_uint8 [.slice sl.a sl.n sl.c]∧Go.Vc.Own E_uint8 w1 w0.heap.size sl st.1∧(∀k,sa.blk=some k→sl.blk≠some k)
 B:Below w0.heap.size w0 w1
theorem rowPix_len {W H:Nat} {P:List UInt8} {r:PassP×Nat×Nat} (hl:P.length=4*W*H):∀n,(∀x,x<n→pixAt W r.1 r.2.1 x+4≤4*W*H)→(rowPix W P r n).length=4*n
 | 0,_=>by simp [rowPix]
 | n+1,h=>by
  have ih:=rowPix_len hl n fun x hx=>h x (by omega)
  unfold rowPix at ih ⊢
  have:=h n (by omega)
  rw [List.range_succ,List.flatMap_append,List.length_append,ih]
  simp only [List.flatMap_cons,List.flatMap_nil,List.append_nil,List.length_take,List.length_drop]
  omega
theorem rowPix_succ (W:Nat) (P:List UInt8) (r:PassP×Nat×Nat) (n:Nat):rowPix W P r (n+1)=rowPix W P r n++(P.drop (pixAt W r.1 r.2.1 n)).take 4:=by
 unfold rowPix
 rw [List.range_succ,List.flatMap_append]
 simp
theorem encRow1_spec {w0:World} {W H:Nat} {h:T_png_Head} (hh:HeadOk h W H) {ms:Slc} {P:List UInt8} (hP:Rd E_uint8 w0 ms P) (hl:P.length=4*W*H) {kd:Nat} (hkd:kd≤4) {ba bl bm bk:Nat} (hab:ba≠bl) (hal:w0.heap.size≤ba) (hbl:w0.heap.size≤bl)
  {st:List UInt8×List UInt8} {L R:List (PassP×Nat×Nat)} {r:PassP×Nat×Nat} (hL:rowsL h=L++r::R) (hst:aheadOf r.2.1 st.2=[]∨(aheadOf r.2.1 st.2).length=4*r.2.2) (hsl:st.1.length≤500000000000) {w1:World} (hI:EnI w0 W H ms kd ba bl bm bk st w1) {J:Bool→World→Prop}
  (hJ:∀w2 row,EnI w0 W H ms kd ba bl bm bk (encRow W P kd st r) w2→row=none∨(∃k cs,row=some k∧Blk w1 k ty_uint8 cs)→Chg (fun k=>k=ba∨k=bl∨row=some k) w1 w2→J true w2) :
  c_png_Encode_1 (passT r.1) (r.2.1:Int) (r.2.2:Int) ⟨ba,0,none⟩ ⟨bm,0,none⟩ ⟨bk,0,none⟩ ⟨bl,0,none⟩ w1 J:=by
 have hra:=rowsL_split hh hL
 have hw2:r.2.2≤16384:=by rw [hra.w];have:=(sizeP_le r.1 W H).1;have:=hh.w2;omega
 have hyH:r.2.1<16384:=by have:=hra.y;have:=(sizeP_le r.1 W H).2;have:=hh.h2;omega
 have hdx:=passes_dx h.Lace r.1 hra.mem
 have hrooms:∀x,x<r.2.2→pixAt W r.1 r.2.1 x+4≤4*W*H∧r.1.x+x*r.1.dx<W∧r.1.y+r.2.1*r.1.dy<H:=fun x hx=>pix_room (by rw [hra.w] at hx;exact hx) hra.y
 have hpl:=fun n (hn:n≤r.2.2)=>rowPix_len (P:=P) (r:=r) hl n fun x hx=>(hrooms x (by omega)).1
 have hW2:=hh.w2
 have hH2:=hh.h2
 obtain ⟨hm,hk,⟨sa,sl,hba,hsa,hbl',hslO,hap⟩,hB01⟩:=hI
 have hs01:=hB01.size
 have hbal:=hba.lt
 have hbll:=hbl'.lt
 refine call_png_Encode_1 _ _ _ _ _ _ _ ?_
 unfold sh_png_Encode_1
 refine nwb fun w2 hp2 hB2 hs2=>?_
 refine jpO fun J1 hJ1=>?_
 have main:∀(sa':Slc) w3,Blk w3 ba ty_sl_uint8 [.slice sa'.a sa'.n sa'.c]→Go.Vc.Own E_uint8 w3 w0.heap.size sa' (aheadOf r.2.1 st.2)→Chg (fun k=>k=ba) w1 w3→Blk w3 w1.heap.size ty_filter_Pass (T_q8_Pass.rep.cells (passT r.1))→J1 () w3:=by
  intro sa' w3 hba3 hsa3 hc3 hp3
  refine hJ1 _ _ ?_
  have hs3:=hc3.size
  have hm3:=hm.chg hc3 fun e=>by subst e;exact hm.ne_t hba (by decide) rfl
  have hk3:=hk.chg hc3 fun e=>by subst e;exact hk.ne_t hba (by decide) rfl
  have hbl3:=hbl'.chg hc3 fun e=>hab e.symm
  have hsl3:=hslO.chg hc3 fun k hk=>own_ne_blk hslO hba (by decide) k hk
  have hB03:Below w0.heap.size w0 w3:=b1o hB01 hc3 hal
  refine lpR (fun (s:Slc×Int×Unit) w4=>∃x:Nat,s.2.1=x∧x≤r.2.2∧Go.Vc.Own E_uint8 w4 w3.heap.size s.1 (rowPix W P r x)∧Below w3.heap.size w3 w4) (fun s=>r.2.2-s.2.1.toNat) ⟨0,rfl,by omega,Own.nil _ _ _,Below.refl _ _⟩ ?_
  rintro ⟨o,x,u⟩ w4 ⟨x,rfl,hx,ho,hB4⟩ I hIl
  dsimp only at ho ⊢
  have hB04:=bT hB03 hB4
  have hs4:=hB4.size
  refine cO (fun hlt=>?_) fun hge=>?_
  ·have hlt:=of_decide_eq_true hlt
   have hxl:x<r.2.2:=by omega
   obtain ⟨hr1,hr2,hr3⟩:=hrooms x hxl
   have hp4:=hp3.ext hB4
   refine ldS_of (r:=T_api_Matrix.rep) (x:=⟨W,H,ms⟩) (hm3.ext hB4).cells ?_
   refine lI (x:=(r.1.x:Int)) (hp4.cells 0 _ rfl) (lI (x:=(r.1.dx:Int)) (hp4.cells 2 _ rfl) (lI (x:=(r.1.y:Int)) (hp4.cells 1 _ rfl) (lI (x:=(r.1.dy:Int)) (hp4.cells 3 _ rfl) ?_)))
   have eX:IntKind.i64.wrap ((r.1.x:Int)+(IntKind.i64.wrap ((x:Int)*(r.1.dx:Int))))=((r.1.x+x*r.1.dx:Nat):Int):=by
    rw [show (x:Int)*(r.1.dx:Int)=((x*r.1.dx:Nat):Int) by simp]
    generalize x*r.1.dx=v at hr2 ⊢
    rw [w64i (x:=((v:Nat):Int)) (by omega),w64i (by omega)]
    rfl
   have eY:IntKind.i64.wrap ((r.1.y:Int)+(IntKind.i64.wrap ((r.2.1:Int)*(r.1.dy:Int))))=((r.1.y+r.2.1*r.1.dy:Nat):Int):=by
    rw [show (r.2.1:Int)*(r.1.dy:Int)=((r.2.1*r.1.dy:Nat):Int) by simp]
    generalize r.2.1*r.1.dy=v at hr3 ⊢
    rw [w64i (x:=((v:Nat):Int)) (by omega),w64i (by omega)]
    rfl
   rw [eX,eY]
   refine pAt_spec (hP.ext hB04) hl hW2 hH2 hr2 hr3 fun a b c d w5 htk hB5=>?_
   refine nwb fun w6 h6 hB6 hs6=>all_of h6 rfl fun w7 h7 hc7 hs7=>?_
   have hB47:Below w4.heap.size w4 w7:=b1o (bT hB5 hB6) hc7 hB5.size
   have h7:Blk w7 w5.heap.size ty_pixel_Color (bcells [a,b,c,d]):=h7
   have ho7:=ho.ext hB47
   have hpn:=hpl x (by omega)
   show apK PG #[ty_sl_uint8,ty_sl_uint8] ty_sl_uint8 o ⟨some ((⟨w5.heap.size,0,none⟩:Addr).add (0*1)),4,4⟩ w7 _
   rw [Nat.zero_mul,add_zero]
   refine apB ho7 (rd_box4 h7) (by have:=hB47.size;omega) (by rw [hpn];simp only [List.length_cons,List.length_nil];omega) fun q w8 hq hc8 hqb=>?_
   rw [w64i (by omega)]
   have hB37:=bT hB4 hB47
   refine hIl _ _ ⟨x+1,rfl,by omega,?_,hB37.trans (hc8.below hB37.size fun i hi e=>by have:=(ho7.lt i e).1;omega)⟩ (by simp;omega)
   have hpe:rowPix W P r (x+1)=rowPix W P r x++[a,b,c,d]:=by
    rw [rowPix_succ,←htk]
    unfold pixAt
    rw [Nat.add_assoc]
   rw [hpe]
   exact hq
  ·have hge:=of_decide_eq_false hge
   obtain rfl:x=r.2.2:=by omega
   have hpn:=hpl r.2.2 (Nat.le_refl _)
   have hk4:=hk3.ext hB4
   have hba4:=hba3.ext hB4
   have hsa4:=hsa3.ext hB4
   have hbl4:=hbl3.ext hB4
   have hsl4:=hsl3.ext hB4
   refine lI (x:=(kd:Int)) (at_cell hk4) (lSl (x:=sa') (at_cell hba4) ?_)
   refine Do_spec (step:=4) ho.rd hsa4.rd hkd (by decide) (by decide) (by rw [hpn];exact hst) (by omega) fun z w5 hz hB5=>?_
   have hs5:=hB5.size
   refine lSl (x:=sl) (at_cell (hbl4.ext hB5)) (lI (x:=(kd:Int)) (at_cell (hk4.ext hB5)) ?_)
   refine apB1 (c:=UInt8.ofNat kd) (wrap8_of kd) (hsl4.ext hB5) (by omega) (by omega) fun q w7 hq hc7 hqb=>?_
   have hslt:=(hsl4.ext hB5).lt
   have hzl:=hz.lt
   have hz7:=hz.chg hc7 fun k hk e=>by have h1:=(hzl k hk).1;have h2:=(hsl4.lt k e).2;omega
   refine apB hq hz7.rd (by have:=hc7.size;omega) (by rw [doP_length,hpn,List.length_append,List.length_singleton];omega) fun q2 w8 hq2 hc8 hq2b=>?_
   have hqo:∀k,q.blk=some k→k<w5.heap.size→sl.blk=some k:=fun k hk hlt=>by
    rcases hqb with e | ⟨k',e,hge'⟩
    ·rw [←e];exact hk
    ·rw [e] at hk;cases hk;omega
   have hc58:Chg (fun k=>sl.blk=some k) w5 w8:=hc7.trans hc8 fun i hi e=>hqo i e hi
   have hB15:Chg (fun k=>k=ba) w1 w5:=(hc3.trans (Chg.of_ext (S:=fun k=>k=ba) hB4) fun i _ hi=>hi).trans (Chg.of_ext (S:=fun k=>k=ba) hB5) fun i _ hi=>hi
   have hne:∀{k tt:Nat} {cs:List Value},tt≠ty_uint8→Blk w5 k tt cs→sl.blk≠some k:=fun {k tt cs} hne hb e=>by
    obtain ⟨cs',hcs'⟩:=(hsl4.ext hB5).blk_t e
    exact hb.ne_t hcs' hne rfl
   have hbl8:Blk w8 bl ty_sl_uint8 _:=(hbl4.ext hB5).chg hc58 (hne (by decide) (hbl4.ext hB5))
   refine all_of hbl8 rfl fun w9 hbl9 hc9 hs9=>?_
   have hba8:Blk w8 ba ty_sl_uint8 _:=(hba4.ext hB5).chg hc58 (hne (by decide) (hba4.ext hB5))
   refine all_of (hba8.chg hc9 hab) rfl fun w10 hba10 hc10 hs10=>?_
   have hm8:=((hm3.ext hB4).ext hB5).chg hc58 (hne (by decide) ((hm3.ext hB4).ext hB5))
   have hk8:=(hk4.ext hB5).chg hc58 (hne (by decide) (hk4.ext hB5))
   have hch:Chg (fun k=>k=ba∨k=bl∨sl.blk=some k) w1 w10 :=
    (((hB15.mono fun i _ hi=>(.inl hi:i=ba∨i=bl∨sl.blk=some i)).trans (hc58.mono fun i _ hi=>(.inr (.inr hi):i=ba∨i=bl∨sl.blk=some i)) fun i _ hi=>hi).trans (hc9.mono fun i _ hi=>(.inr (.inl hi):i=ba∨i=bl∨sl.blk=some i)) fun i _ hi=>hi).trans (hc10.mono fun i _ hi=>.inl hi) fun i _ hi=>hi
   have hoT:∀k,o.blk=some k→w3.heap.size≤k∧k<w5.heap.size:=fun k hk=>⟨(ho.lt k hk).1,by have:=(ho.lt k hk).2;omega⟩
   have ho10:Go.Vc.Own E_uint8 w10 w3.heap.size o (rowPix W P r r.2.2):=by
    refine (((ho.ext hB5).chg hc58 fun k hk e=>?_).chg hc9 fun k hk e=>?_).chg hc10 fun k hk e=>?_
    ·have:=(hsl3.lt k e).2;have:=(hoT k hk).1;omega
    ·have:=(hoT k hk).1;omega
    ·have:=(hoT k hk).1;omega
   have hq10:=(hq2.chg hc9 fun k hk=>own_ne_blk hq2 hbl8 (by decide) k hk).chg hc10 fun k hk e=>own_ne_blk hq2 (hba8) (by decide) k hk e
   refine hJ w10 sl.blk ⟨?_,?_,⟨o,q2,hba10,?_,hbl9.chg hc10 fun e=>hab e.symm,?_,?_⟩,?_⟩ ?_ hch
   ·exact (hm8.chg hc9 fun e=>by subst e;exact hm8.ne_t hbl8 (by decide) rfl).chg hc10 fun e=>by subst e;exact hm8.ne_t hba8 (by decide) rfl
   ·exact (hk8.chg hc9 fun e=>by subst e;exact hk8.ne_t hbl8 (by decide) rfl).chg hc10 fun e=>by subst e;exact hk8.ne_t hba8 (by decide) rfl
   ·exact ho10.base (by omega)
   ·exact hq10
   ·intro k hk e
    have h1:=hoT k hk
    rcases hq2b with e2 | e2
    ·rw [e2] at e
     have:=hqo k e h1.2
     have:=(hsl3.lt k this).2
     omega
    ·rw [e2] at e
     cases e
     have:=hc7.size
     omega
   ·exact hB01.trans (hch.below (by omega) fun i hi e=>by
     rcases e with e | e | e
     ·omega
     ·omega
     ·have:=(hslO.lt i e).1;omega)
   ·cases hsb:sl.blk with
    | none=>exact .inl rfl
    | some k =>
     obtain ⟨cs,hcs⟩:=hslO.blk_t hsb
     exact .inr ⟨k,cs,rfl,hcs⟩
 refine cO (fun e=>?_) fun e=>?_
 ·have e0:r.2.1=0:=by have:=eq_of_beq e;omega
  refine all_of (hba.ext hB2) rfl fun w3 h3 hc3 hs3=>?_
  refine main ⟨none,0,0⟩ w3 h3 ?_ ((Chg.of_ext (S:=fun k=>k=ba) hB2).trans hc3 fun i _ hi=>hi) (hp2.chg hc3 (by omega))
  unfold aheadOf
  rw [if_pos e0]
  exact Own.nil _ _ _
 ·have e0:r.2.1≠0:=fun h=>by rw [h] at e;cases e
  refine main sa w2 (hba.ext hB2) ?_ (Chg.of_ext hB2) hp2
  unfold aheadOf
  rw [if_neg e0]
  exact hsa.ext hB2
end
end Go.Proofs.YtmagnpcgpinmcaaGreat
