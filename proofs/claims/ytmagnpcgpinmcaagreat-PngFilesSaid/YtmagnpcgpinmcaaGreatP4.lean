import Derived.Test.YtmagnpcgpinmcaaGreatP3
import Derived.Test.YtmagnpcgpinmcaaGreatP2
import Derived.Lib.SlBytesConst
import Derived.Test.YtmagnpcgpinmcaaGreatP1
set_option linter.unusedVariables false
namespace Go.Proofs.YtmagnpcgpinmcaaGreat
open Go.Vc Go.RowKit
set_option maxRecDepth 400000
structure RSt (w:World) (base g rg:Nat) (s out:Slc) (bs hist:List UInt8) (most at_:Nat):Prop where
 blk:Blk w g ty_q5_state [.pointer (some ⟨rg,0,none⟩),.slice out.a out.n out.c,.int .i64 (most:Int)]
 rdr:RRd w rg s bs at_
 out:Own E_uint8 w base out hist
 hg:base≤g
 hr:base≤rg
 sb:∀k,s.blk=some k→k<base
 hm:hist.length≤most
 mo:most≤1073741824
def rS (g rg:Nat) (out:Slc) (k:Nat):Prop:=k=g∨k=rg∨out.blk=some k
structure RTo (w w':World) (g rg:Nat) (out out':Slc):Prop where
 chg:Chg (rS g rg out) w w'
 out:out'.blk=out.blk∨∃k,out'.blk=some k∧w.heap.size≤k
theorem RTo.refl (w:World) (g rg:Nat) (out:Slc):RTo w w g rg out out:=⟨Chg.refl _ _,.inl rfl⟩
theorem RTo.trans {w w1 w2:World} {g rg:Nat} {out out1 out2:Slc} (h:RTo w w1 g rg out out1) (h':RTo w1 w2 g rg out1 out2):RTo w w2 g rg out out2:=by
 refine ⟨h.chg.trans h'.chg fun i hi hs=>?_,?_⟩
 ·rcases hs with e | e | e
  ·exact .inl e
  ·exact .inr (.inl e)
  ·rcases h.out with e' | ⟨k,e',hk⟩
   ·exact .inr (.inr (by rw [←e',e]))
   ·rw [e'] at e;cases e;omega
 ·have:=h.chg.size
  rcases h'.out with e | ⟨k,e,hk⟩
  ·rcases h.out with e' | ⟨j,e',hj⟩
   ·exact .inl (e.trans e')
   ·exact .inr ⟨j,e.trans e',hj⟩
  ·exact .inr ⟨k,e,by omega⟩
section
variable {w w':World} {base g rg:Nat} {s out:Slc} {bs hist:List UInt8} {most at_:Nat}
theorem RSt.grg (h:RSt w base g rg s out bs hist most at_):g≠rg:=h.blk.ne_t h.rdr.blk (by decide)
theorem RSt.below (h:RSt w base g rg s out bs hist most at_):∀k,rS g rg out k→base≤k:=by
 rintro k (rfl | rfl | e)
 ·exact h.hg
 ·exact h.hr
 ·exact (h.out.lt k e).1
theorem RTo.below {out':Slc} (t:RTo w w' g rg out out') (h:RSt w base g rg s out bs hist most at_) (hb:base≤w.heap.size):Below base w w':=t.chg.below hb fun i hi hs=>by have:=h.below i hs;omega
theorem RSt.ext (h:RSt w base g rg s out bs hist most at_) (hb:Below w.heap.size w w'):RSt w' base g rg s out bs hist most at_:=⟨h.blk.ext hb,h.rdr.ext hb,h.out.ext hb,h.hg,h.hr,h.sb,h.hm,h.mo⟩
theorem RSt.drew (h:RSt w base g rg s out bs hist most at_):RSt w.drew base g rg s out bs hist most at_:=h.ext ((Below.refl _ w).drew)
theorem RTo.drew (w:World) (g rg:Nat) (out:Slc):RTo w w.drew g rg out out:=⟨Chg.of_ext ((Below.refl _ w).drew),.inl rfl⟩
theorem RSt.read {a:Nat} (h:RSt w base g rg s out bs hist most at_) (hr:RRd w' rg s bs a) (hc:Chg (fun k=>k=rg) w w'):RSt w' base g rg s out bs hist most a∧RTo w w' g rg out out :=
 ⟨⟨h.blk.chg hc fun e=>h.grg e,hr,h.out.chg hc fun k hk e=>own_ne_blk h.out h.rdr.blk (by decide) k hk e,h.hg,h.hr,h.sb,h.hm,h.mo⟩,⟨hc.mono fun i _ hi=>.inr (.inl hi),.inl rfl⟩⟩
theorem sBits_spec {n:Nat} {K:Int→Bool→World→Prop} (h:RSt w base g rg s out bs hist most at_) (hn:n≤32) (hK1:at_+n≤8*bs.length→∀w',RSt w' base g rg s out bs hist most (at_+n)→RTo w w' g rg out out→K ((peekN bs at_ n:Nat):Int) true w')
  (hK2:8*bs.length<at_+n→∀w',RSt w' base g rg s out bs hist most at_→RTo w w' g rg out out→K 0 false w'):c_q1_Reader_Bits (some ⟨rg,0,none⟩) (n:Int) w K :=
 rBits_spec h.rdr hn (fun hf w1 h1 hc=>(hK1 hf w1 (h.read h1 hc).1 (h.read h1 hc).2)) fun hs=>hK2 hs _ h.drew (RTo.drew w g rg out)
theorem RSt.put {b:UInt8} {v:Int} {K:World→Prop} (h:RSt w base g rg s out bs hist most at_) (hb:base≤w.heap.size) (hv:v=(b.toNat:Int)) (hlt:hist.length<most)
  (hK:∀out' w',RSt w' base g rg s out' bs (hist++[b]) most at_→RTo w w' g rg out out'→K w') :
  nw ty_uint8 [(.int .u8 v)] w fun t71 w6=>apK PG #[ty_sl_uint8,ty_sl_uint8] ty_sl_uint8 out (⟨(some t71),1,1⟩:Slc) w6 fun t72 w7=>stK ((⟨g,0,none⟩:Addr).add 1) [(.slice t72.a t72.n t72.c)] w7 fun w8=>K w8:=by
 have hmo:=h.mo
 refine apB1 (c:=b) hv h.out hb (by omega) fun r w2 ho2 hc2 hq=>?_
 have hb2:=h.blk.chg hc2 fun e=>own_ne_blk h.out h.blk (by decide) g e rfl
 have hr2:=h.rdr.chg hc2 (fun e=>own_ne_blk h.out h.rdr.blk (by decide) rg e rfl) fun k hk e=>by have:=h.sb k hk;have:=(h.out.lt k e).1;omega
 rw [add_mk]
 refine stK_blk hb2 (by simp) fun w3 hb3 hg3 hs3=>?_
 have hb3:Blk w3 g ty_q5_state [.pointer (some ⟨rg,0,none⟩),.slice r.a r.n r.c,.int .i64 (most:Int)]:=hb3
 have hc3:=Chg.gg hg3
 have hgh:=h.hg
 refine hK r w3 ⟨hb3,hr2.chg hc3 (fun e=>h.grg e.symm) fun k hk e=>by have:=h.sb k hk;omega,ho2.chg hc3 (own_ne_blk ho2 hb2 (by decide)),h.hg,h.hr,h.sb,by rw [List.length_append,List.length_singleton];omega,h.mo⟩ ⟨(hc2.mono fun i _ hi=>.inr (.inr hi)).trans hc3 fun i _ hi=>.inl hi,hq⟩
end
def RRes (most:Nat) (bs:List UInt8) (c:Cfg) (a m':Nat) (e:Int) (a':Nat) (hist':List UInt8):Prop :=
 (e=0∧∃c',Ch most bs c a c' a'∧c'.mode=m'∧c'.hist=hist') ∨
 (∃c' a'' n,Ch most bs c a c' a''∧(step1 most bs a'' c'=.short∧c'.mode≠5∧n=2∨step1 most bs a'' c'=.err n∧n≠0)∧e=((n:Nat):Int)∧c'.hist <+: hist')
theorem RRes.of_ch {most:Nat} {bs:List UInt8} {c c1:Cfg} {a a1 m':Nat} {e:Int} {a':Nat} {hist':List UInt8} (h:Ch most bs c a c1 a1) (r:RRes most bs c1 a1 m' e a' hist'):RRes most bs c a m' e a' hist':=by
 rcases r with ⟨e0,c',h1,h2,h3⟩ | ⟨c',a'',n,h1,h2⟩
 ·exact .inl ⟨e0,c',h.trans h1,h2,h3⟩
 ·exact .inr ⟨c',a'',n,h.trans h1,h2⟩
theorem RRes.short {most:Nat} {bs:List UInt8} {c:Cfg} {a m':Nat} {a':Nat} {hist':List UInt8} (h:step1 most bs a c=.short) (h5:c.mode≠5) (hp:c.hist <+: hist'):RRes most bs c a m' 2 a' hist':=.inr ⟨c,a,2,.refl _ _,.inl ⟨h,h5,rfl⟩,rfl,hp⟩
theorem RRes.err {most:Nat} {bs:List UInt8} {c:Cfg} {a m':Nat} {a' n:Nat} {e:Int} {hist':List UInt8} (h:step1 most bs a c=.err n) (hn:n≠0) (he:e=(n:Int)) (hp:c.hist <+: hist'):RRes most bs c a m' e a' hist':=.inr ⟨c,a,n,.refl _ _,.inr ⟨h,hn⟩,he,hp⟩
theorem RRes.done {most:Nat} {bs:List UInt8} {c c':Cfg} {a a':Nat} (h:step1 most bs a c=.next c' a'):RRes most bs c a c'.mode 0 a' c'.hist:=.inl ⟨rfl,c',.one h,rfl,rfl⟩
section
variable {w:World} {base g rg:Nat} {s out:Slc} {bs:List UInt8} {most at_:Nat}
theorem rstored_spec {c:Cfg} {K:Int→World→Prop} (h:RSt w base g rg s out bs c.hist most at_) (hm:c.mode=1) (hbase:base≤w.heap.size)
  (hK:∀e out' hist' a' w',RSt w' base g rg s out' bs hist' most a'→RTo w w' g rg out out'→RRes most bs c at_ (if c.last then 5 else 0) e a' hist'→K e w'):c_q5_state_stored (some ⟨g,0,none⟩) w K:=by
 refine call_q5_state_stored _ ?_
 unfold sh_q5_state_stored
 simp only [onPtr_some]
 have hsm:=h.rdr.sm
 have st1:step1 most bs at_ c=stepStored bs at_ c:=by rw [step1,if_neg (by omega),stepN,if_neg (by omega),if_pos hm]
 have hpre:c.hist <+: c.hist:=List.prefix_refl _
 refine ldP_of (x:=some ⟨rg,0,none⟩) (h.blk.cells 0 _ rfl) ?_
 refine rAlign_spec h.rdr fun _ w1 h1 hc1=>?_
 obtain ⟨h1,t1⟩:=h.read h1 hc1
 refine ldP_of (x:=some ⟨rg,0,none⟩) (h1.blk.cells 0 _ rfl) ?_
 refine sBits_spec (n:=16) h1 (by decide) (fun hf1 w2 h2 t2=>?_) (fun hs1 w2 h2 t2=>?_)
 rotate_left
 ·refine cond_t rfl (hK _ _ _ _ _ h2 (t1.trans t2) (RRes.short ?_ (by omega) hpre))
  rw [st1,stepStored,if_pos (by omega)]
 refine cond_f rfl ?_
 refine ldP_of (x:=some ⟨rg,0,none⟩) (h2.blk.cells 0 _ rfl) ?_
 refine sBits_spec (n:=16) h2 (by decide) (fun hf2 w3 h3 t3=>?_) (fun hs2 w3 h3 t3=>?_)
 rotate_left
 ·refine cond_t rfl (hK _ _ _ _ _ h3 ((t1.trans t2).trans t3) (RRes.short ?_ (by omega) hpre))
  rw [st1,stepStored,if_pos (by omega)]
 refine cond_f rfl ?_
 have b1:=peekN_lt bs (up8 at_) 16
 have b2:=peekN_lt bs (up8 at_+16) 16
 have t03:=(t1.trans t2).trans t3
 rw [bits_xor .u32 (by show _<2^32;omega) (by show _<2^32;omega)]
 by_cases hx:peekN bs (up8 at_) 16 ^^^ peekN bs (up8 at_+16) 16=65535
 rotate_left
 ·refine cond_t (by
           have:((peekN bs (up8 at_) 16 ^^^ peekN bs (up8 at_+16) 16:Nat):Int)≠65535:=by omega
           simpa using this) (hK _ _ _ _ _ h3 t03 (RRes.err (n:=3) ?_ (by decide) rfl hpre))
  rw [st1,stepStored,if_neg (by omega),if_pos hx]
 refine cond_f (by rw [hx];rfl) ?_
 obtain ⟨n,hn⟩:∃n,n=peekN bs (up8 at_) 16:=⟨_,rfl⟩
 rw [←hn,wrap_nat .i64 (x:=n) (by show _<2^63;omega)]
 obtain ⟨c2,hc2⟩:∃c2:Cfg,c2={ c with mode:=2,left:=n }:=⟨_,rfl⟩
 have hst:step1 most bs at_ c=.next c2 (up8 at_+32):=by
  rw [st1,stepStored,if_neg (by omega),if_neg (by omega),←hn,hc2]
 have ebase:∀{w4 out4},RTo w w4 g rg out out4→base≤w4.heap.size:=fun t=>Nat.le_trans hbase t.chg.size
 refine loopP_rule (fun (t:Int×Unit) w4=>∃(i:Nat) (out4:Slc) (c4:Cfg),t.1=i∧i≤n∧RSt w4 base g rg s out4 bs c4.hist most (up8 at_+32+8*i)∧RTo w w4 g rg out out4∧Ch most bs c at_ c4 (up8 at_+32+8*i)∧c4.mode=2∧c4.left=n-i∧c4.last=c.last) (fun t=>n-t.1.toNat)
  ⟨0,out,c2,rfl,by omega,by rw [hc2];exact h3,t03,.one hst,by rw [hc2],by rw [hc2];rfl,by rw [hc2]⟩ ?_
 rintro ⟨i,_⟩ w4 ⟨i,out4,c4,rfl,hi,h4,t4,hch,hm4,hl4,hla⟩ I hI
 dsimp only at *
 have st4:step1 most bs (up8 at_+32+8*i) c4=stepByte most bs (up8 at_+32+8*i) c4:=by rw [step1,if_neg (by omega),stepN,if_neg (by omega),if_neg (by omega),if_pos hm4]
 have hpre4:c4.hist <+: c4.hist:=List.prefix_refl _
 refine cond_of (fun hlt=>?_) (fun hge=>?_)
 ·have hlt:=of_decide_eq_true hlt
  refine ldP_of (x:=some ⟨rg,0,none⟩) (h4.blk.cells 0 _ rfl) ?_
  refine sBits_spec (n:=8) h4 (by decide) (fun hf w5 h5 t5=>?_) (fun hs w5 h5 t5=>?_)
  rotate_left
  ·refine cond_t rfl (hK _ _ _ _ _ h5 (t4.trans t5) (.of_ch hch (RRes.short ?_ (by omega) hpre4)))
   rw [st4,stepByte,if_neg (by omega),if_pos hs]
  refine cond_f rfl ?_
  have h5d:=h5.drew
  have t5d:=t5.trans (RTo.drew w5 g rg out4)
  refine ldSl_of (x:=out4) (h5d.blk.cells 1 _ rfl) ?_
  refine ldI_of (x:=(most:Int)) (h5d.blk.cells 2 _ rfl) ?_
  rw [h5d.out.rd.n]
  refine cond_of (fun hfull=>?_) (fun hroom=>?_)
  ·have hfull:=of_decide_eq_true hfull
   refine hK _ _ _ _ _ h5d (t4.trans t5d) (.of_ch hch (RRes.err (n:=5) ?_ (by decide) rfl hpre4))
   rw [st4,stepByte,if_neg (by omega),if_neg (by omega),if_pos (by omega)]
  ·have hroom:=of_decide_eq_false hroom
   refine ldSl_of (x:=out4) (h5d.blk.cells 1 _ rfl) ?_
   have hb8:=peekN_lt bs (up8 at_+32+8*i) 8
   have hbv:(UInt8.ofNat (peekN bs (up8 at_+32+8*i) 8)).toNat=peekN bs (up8 at_+32+8*i) 8:=by rw [UInt8.toNat_ofNat'];omega
   refine h5d.put (b:=UInt8.ofNat (peekN bs (up8 at_+32+8*i) 8)) (ebase (t4.trans t5d)) (by rw [hbv,wrap_nat .u8 (x:=peekN bs (up8 at_+32+8*i) 8) hb8]) (by omega) fun out6 w6 h6 t6=>?_
   rw [wrap64_id (by omega)]
   have hst4:step1 most bs (up8 at_+32+8*i) c4=.next { c4 with left:=c4.left-1,hist:=c4.hist++[UInt8.ofNat (peekN bs (up8 at_+32+8*i) 8)] } (up8 at_+32+8*i+8):=by
    rw [st4,stepByte,if_neg (by omega),if_neg (by omega),if_neg (by omega)]
   have ea:up8 at_+32+8*(i+1)=up8 at_+32+8*i+8:=by omega
   refine hI _ _ ⟨i+1,out6,{ c4 with left:=c4.left-1,hist:=c4.hist++[UInt8.ofNat (peekN bs (up8 at_+32+8*i) 8)] },rfl,by omega,by rw [ea];exact h6,(t4.trans t5d).trans t6,by rw [ea];exact hch.trans (.one hst4),hm4,?_,hla⟩ (by simp;omega)
   show c4.left-1=_
   omega
 ·have hge:=of_decide_eq_false hge
  have:i=n:=by omega
  subst this
  have hend:step1 most bs (up8 at_+32+8*i) c4=.next c4.behind (up8 at_+32+8*i):=by
   rw [st4,stepByte,if_pos (by omega)]
  have r:=RRes.of_ch hch (RRes.done hend)
  have em:c4.behind.mode=if c.last then 5 else 0:=by unfold Cfg.behind;rw [hla]
  rw [em] at r
  exact hK _ _ _ _ _ h4 t4 r
theorem rlength_spec {y:Nat} {K:Int→Int→World→Prop} (h1:257≤y) (h2:y≤285) (hK:K ((lenBase y).1:Int) ((lenBase y).2:Int) w):c_q5_length (y:Int) w K:=by
 refine call_q5_length _ ?_
 unfold sh_q5_length
 unfold lenBase at hK
 by_cases h:y=285
 ·subst h
  exact cond_t rfl hK
 rw [if_neg h] at hK
 refine cond_f (beq_eq_false_iff_ne.2 (by omega)) ?_
 obtain ⟨k,rfl⟩:∃k,y=k+257:=⟨y-257,by omega⟩
 have hk:k≤27:=by omega
 rw [Nat.add_sub_cancel] at hK
 rw [wrap64_id (x:=((k+257:Nat):Int)-257) (by omega),show ((k+257:Nat):Int)-257=(k:Int) by omega]
 by_cases h8:k<8
 ·rw [if_pos h8] at hK
  refine cond_t (decide_eq_true (by omega)) ?_
  rw [wrap64_id (by omega),show (3:Int)+(k:Int)=((3+k:Nat):Int) by omega]
  exact hK
 ·rw [if_neg h8] at hK
  refine cond_f (decide_eq_false (by omega)) ⟨by decide,by decide,?_⟩
  rw [show (4:Int)=((4:Nat):Int) from rfl,←Int.ofNat_tdiv,←Int.ofNat_tmod,wrap64_id (x:=((k/4:Nat):Int)) (by omega),wrap64_id (x:=((k/4:Nat):Int)-1) (by omega),show ((k/4:Nat):Int)-1=((k/4-1:Nat):Int) by omega,
   wrap_nat .u64 (x:=k/4-1) (by show _<2^64;omega)]
  refine ⟨by omega,?_⟩
  have em:min (((k/4-1:Nat):Int)).toNat IntKind.i64.bits=k/4-1:=by show min (k/4-1) 64=_;omega
  have hp:2^(k/4-1)≤2^6:=Nat.pow_le_pow_right (by decide) (by omega)
  have hmul:(4+k%4)*2^(k/4-1)≤8*2^6:=Nat.mul_le_mul (by omega) hp
  rw [em,show ((4:Nat):Int)+((k%4:Nat):Int)=((4+k%4:Nat):Int) from rfl,wrap_nat .i64 (x:=4+k%4) (by show _<2^63;omega),mul_pow_nat,wrap_nat .i64 (x:=(4+k%4)*2^(k/4-1)) (by show _<2^63;omega),
   show (3:Int)+(((4+k%4)*2^(k/4-1):Nat):Int)=((3+(4+k%4)*2^(k/4-1):Nat):Int) by omega,wrap_nat .i64 (x:=3+(4+k%4)*2^(k/4-1)) (by show _<2^63;omega)]
  exact hK
theorem rdistance_spec {y:Nat} {K:Int→Int→World→Prop} (h2:y<30) (hK:K ((distBase y).1:Int) ((distBase y).2:Int) w):c_q5_distance (y:Int) w K:=by
 refine call_q5_distance _ ?_
 unfold sh_q5_distance
 unfold distBase at hK
 by_cases h4:y<4
 ·rw [if_pos h4] at hK
  refine cond_t (decide_eq_true (by omega)) ?_
  rw [wrap64_id (by omega),show (1:Int)+(y:Int)=((1+y:Nat):Int) by omega]
  exact hK
 ·rw [if_neg h4] at hK
  refine cond_f (decide_eq_false (by omega)) ⟨by decide,by decide,?_⟩
  rw [show (2:Int)=((2:Nat):Int) from rfl,←Int.ofNat_tdiv,←Int.ofNat_tmod,wrap64_id (x:=((y/2:Nat):Int)) (by omega),wrap64_id (x:=((y/2:Nat):Int)-1) (by omega),show ((y/2:Nat):Int)-1=((y/2-1:Nat):Int) by omega,
   wrap_nat .u64 (x:=y/2-1) (by show _<2^64;omega)]
  refine ⟨by omega,?_⟩
  have em:min (((y/2-1:Nat):Int)).toNat IntKind.i64.bits=y/2-1:=by show min (y/2-1) 64=_;omega
  have hp:2^(y/2-1)≤2^13:=Nat.pow_le_pow_right (by decide) (by omega)
  have hmul:(2+y%2)*2^(y/2-1)≤4*2^13:=Nat.mul_le_mul (by omega) hp
  have e2:(((2:Nat):Int))^(y/2-1)=(2:Int)^(y/2-1):=rfl
  rw [em,show ((2:Nat):Int)+((y%2:Nat):Int)=((2+y%2:Nat):Int) from rfl,wrap_nat .i64 (x:=2+y%2) (by show _<2^63;omega),e2,mul_pow_nat,wrap_nat .i64 (x:=(2+y%2)*2^(y/2-1)) (by show _<2^63;omega),
   show (1:Int)+(((2+y%2)*2^(y/2-1):Nat):Int)=((1+(2+y%2)*2^(y/2-1):Nat):Int) by omega,wrap_nat .i64 (x:=1+(2+y%2)*2^(y/2-1)) (by show _<2^63;omega)]
  exact hK
end
end Go.Proofs.YtmagnpcgpinmcaaGreat
namespace Go.Proofs.YtmagnpcgpinmcaaGreat
open Go.Vc Go.RowKit
set_option maxRecDepth 400000
def copyR (most:Nat) (bs:List UInt8) (a1 y:Nat) (c:Cfg):SR :=
 if 8*bs.length<a1+(lenBase y).2 then .short
 else match readT c.ds bs (a1+(lenBase y).2) with
  | .short=>.short
  | .form=>.err 3
  | .sym z j =>
   if 29<z then .err 3
   else if 8*bs.length<a1+(lenBase y).2+j+(distBase z).2 then .short
   else if min c.hist.length 32768<(distBase z).1+peekN bs (a1+(lenBase y).2+j) (distBase z).2 then .err 3
   else match copyN most ((distBase z).1+peekN bs (a1+(lenBase y).2+j) (distBase z).2) ((lenBase y).1+peekN bs a1 (lenBase y).2) c.hist with
    | none=>.err 5
    | some h=>.next { c with hist:=h } (a1+(lenBase y).2+j+(distBase z).2)
theorem stepCode_copy {most:Nat} {bs:List UInt8} {at_ y k:Nat} {c:Cfg} (h:readT c.sg bs at_=.sym y k) (h1:256<y) (h2:y≤285):stepCode most bs at_ c=copyR most bs (at_+k) y c:=by
 unfold stepCode
 rw [h]
 dsimp only
 rw [if_neg (by omega),if_neg (by omega),if_neg (by omega)]
 rfl
def TabK (w:World) (base:Nat) (out:Slc) (t:Nat×Slc×Slc) (ls:List UInt8):Prop:=RTab w base t.1 t.2.1 t.2.2 ls∧∀k,t.2.1.blk=some k→out.blk≠some k
section
variable {w w':World} {base g rg:Nat} {s out out':Slc} {bs hist ls:List UInt8} {most at_:Nat} {t:Nat×Slc×Slc}
theorem TabK.keep (h:TabK w base out t ls) (hs:RSt w base g rg s out bs hist most at_) (r:RTo w w' g rg out out'):TabK w' base out' t ls:=by
 obtain ⟨h,ho⟩:=h
 refine ⟨⟨h.blk.chg r.chg ?_,h.hg,h.lo.chg r.chg ?_,h.co.chg r.chg ?_,h.sm,h.good⟩,fun k hk e=>?_⟩
 ·rintro (e | e | e)
  ·exact h.blk.ne_t hs.blk (by decide) e
  ·exact h.blk.ne_t hs.rdr.blk (by decide) e
  ·exact own_ne_blk hs.out h.blk (by decide) _ e rfl
 ·rintro k hk (e | e | e)
  ·exact own_ne_blk h.lo hs.blk (by decide) k hk e
  ·exact own_ne_blk h.lo hs.rdr.blk (by decide) k hk e
  ·exact ho k hk e
 ·rintro k hk (e | e | e)
  ·exact own_ne_blk h.co hs.blk (by decide) k hk e
  ·exact own_ne_blk h.co hs.rdr.blk (by decide) k hk e
  ·exact own_ne h.co hs.out (by decide) k hk e
 ·rcases r.out with e' | ⟨j,e',hj⟩
  ·exact ho k hk (by rw [←e',e])
  ·rw [e'] at e
   cases e
   have:=(h.lo.lt k hk).2
   omega
theorem sRead_spec {K:Int→Int→World→Prop} (h:RSt w base g rg s out bs hist most at_) (ht:TabK w base out t ls)
  (hK:∀w' a' y e,RSt w' base g rg s out bs hist most a'→RTo w w' g rg out out→(match readT ls bs at_ with | .sym z k=>e=0∧y=((z:Nat):Int)∧a'=at_+k∧z<ls.length | .short=>e=2∧a'=at_ | .form=>e=3∧a'=at_)→K y e w'):c_q4_Table_Read (some ⟨t.1,0,none⟩) (some ⟨rg,0,none⟩) w K :=
 rRead_spec ht.1 h.rdr (fun e=>h.rdr.blk.ne_t ht.1.blk (by decide) e) (fun k hk=>by
  rcases hk with hk | hk
  ·exact own_ne_blk ht.1.lo h.rdr.blk (by decide) k hk
  ·exact own_ne_blk ht.1.co h.rdr.blk (by decide) k hk) fun w1 a' y e hr hc hm=>hK w1 a' y e (h.read hr hc).1 (h.read hr hc).2 hm
theorem rlenBase_le {y:Nat} (h1:257≤y) (h2:y≤285):(lenBase y).1≤258∧(lenBase y).2≤5:=by
 have:∀y,y<286→257≤y→(lenBase y).1≤258∧(lenBase y).2≤5:=by decide +kernel
 exact this y (by omega) h1
theorem rdistBase_le {y:Nat} (h2:y<30):1≤(distBase y).1∧(distBase y).1≤24577∧(distBase y).2≤13:=by
 have:∀y,y<30→1≤(distBase y).1∧(distBase y).1≤24577∧(distBase y).2≤13:=by decide +kernel
 exact this y h2
theorem copied_spec {c:Cfg} {y:Nat} {K:Int→World→Prop} (h:RSt w base g rg s out bs c.hist most at_) (ht:TabK w base out t c.ds) (h1:257≤y) (h2:y≤285) (hbase:base≤w.heap.size)
  (hK:∀e out' hist' a' w',RSt w' base g rg s out' bs hist' most a'→RTo w w' g rg out out'→(match copyR most bs at_ y c with | .next c' a=>e=0∧hist'=c'.hist∧a'=a | .short=>e=2∧c.hist <+: hist' | .err n=>e=((n:Nat):Int)∧n≠0∧c.hist <+: hist')→K e w'):c_q5_state_copied (some ⟨g,0,none⟩) (y:Int) (some ⟨t.1,0,none⟩) w K:=by
 refine call_q5_state_copied _ _ _ ?_
 unfold sh_q5_state_copied
 have hpre:c.hist <+: c.hist:=List.prefix_refl _
 obtain ⟨lb1,lb2⟩:=rlenBase_le h1 h2
 refine rlength_spec h1 h2 ?_
 simp only [onPtr_some]
 obtain ⟨b,n,hbn⟩:∃b n,lenBase y=(b,n):=⟨_,_,rfl⟩
 unfold copyR at hK
 rw [hbn] at hK lb1 lb2 ⊢
 dsimp only at hK lb1 lb2 ⊢
 refine ldP_of (x:=some ⟨rg,0,none⟩) (h.blk.cells 0 _ rfl) ?_
 refine sBits_spec (n:=n) h (by omega) (fun hf1 w1 h3 t1=>?_) (fun hs1 w1 h3 t1=>?_)
 rotate_left
 ·refine cond_t rfl (hK _ _ _ _ _ h3 t1 ?_)
  rw [if_pos hs1]
  exact ⟨rfl,hpre⟩
 rw [if_neg (by omega)] at hK
 refine cond_f rfl ?_
 refine ldP_of (x:=some ⟨rg,0,none⟩) (h3.blk.cells 0 _ rfl) ?_
 have ht1:=ht.keep h t1
 refine sRead_spec h3 ht1 fun w2 a2 z e h4 t2 hm=>?_
 have t02:=t1.trans t2
 cases hrd:readT c.ds bs (at_+n) with
 | short =>
  rw [hrd] at hm hK
  obtain ⟨rfl,rfl⟩:=hm
  exact cond_t rfl (hK _ _ _ _ _ h4 t02 ⟨rfl,hpre⟩)
 | form =>
  rw [hrd] at hm hK
  obtain ⟨rfl,rfl⟩:=hm
  exact cond_t rfl (hK _ _ _ _ _ h4 t02 ⟨rfl,by decide,hpre⟩)
 | sym z' j =>
  rw [hrd] at hm hK
  obtain ⟨rfl,rfl,rfl,_⟩:=hm
  dsimp only at hK
  refine cond_f rfl ?_
  by_cases hz:29<z'
  ·refine cond_t (decide_eq_true (by omega)) (hK _ _ _ _ _ h4 t02 ?_)
   rw [if_pos hz]
   exact ⟨rfl,by decide,hpre⟩
  rw [if_neg hz] at hK
  refine cond_f (decide_eq_false (by omega)) ?_
  obtain ⟨db0,db1,db2⟩:=rdistBase_le (y:=z') (by omega)
  refine rdistance_spec (by omega) ?_
  obtain ⟨b2,n2,hbn2⟩:∃b n,distBase z'=(b,n):=⟨_,_,rfl⟩
  rw [hbn2] at hK db0 db1 db2 ⊢
  dsimp only at hK db0 db1 db2 ⊢
  refine ldP_of (x:=some ⟨rg,0,none⟩) (h4.blk.cells 0 _ rfl) ?_
  refine sBits_spec (n:=n2) h4 (by omega) (fun hf3 w3 h5 t3=>?_) (fun hs3 w3 h5 t3=>?_)
  rotate_left
  ·refine cond_t rfl (hK _ _ _ _ _ h5 (t02.trans t3) ?_)
   rw [if_pos hs3]
   exact ⟨rfl,hpre⟩
  rw [if_neg (by omega)] at hK
  refine cond_f rfl ?_
  have t03:=t02.trans t3
  have p1:=peekN_lt bs at_ n
  have p2:=peekN_lt bs (at_+n+j) n2
  have q1:2^n≤2^5:=Nat.pow_le_pow_right (by decide) lb2
  have q2:2^n2≤2^13:=Nat.pow_le_pow_right (by decide) db2
  have hmo:=h.mo
  have hmm:=h.hm
  obtain ⟨far,hfar⟩:∃far,far=b2+peekN bs (at_+n+j) n2:=⟨_,rfl⟩
  obtain ⟨m,hmdef⟩:∃m,m=b+peekN bs at_ n:=⟨_,rfl⟩
  have ef:IntKind.i64.wrap ((b2:Int)+IntKind.i64.wrap ((peekN bs (at_+n+j) n2:Nat):Int))=(far:Int):=by
   rw [wrap_nat .i64 (x:=peekN bs (at_+n+j) n2) (by show _<2^63;omega),wrap64_id (by omega),hfar];rfl
  have eM:IntKind.i64.wrap ((b:Int)+IntKind.i64.wrap ((peekN bs at_ n:Nat):Int))=(m:Int):=by
   rw [wrap_nat .i64 (x:=peekN bs at_ n) (by show _<2^63;omega),wrap64_id (by omega),hmdef];rfl
  rw [ef,eM]
  rw [←hfar,←hmdef] at hK
  refine joinP_of fun J hJ=>?_
  refine ldSl_of (x:=out) (h5.blk.cells 1 _ rfl) ?_
  rw [h5.out.rd.n]
  by_cases hfl:min c.hist.length 32768<far
  ·have:K 3 w3:=hK _ _ _ _ _ h5 t03 (by rw [if_pos hfl];exact ⟨rfl,by decide,hpre⟩)
   by_cases hl:c.hist.length<far
   ·exact cond_t (decide_eq_true (by omega)) this
   ·exact cond_f (decide_eq_false (by omega)) (cond_t (decide_eq_true (by omega)) this)
  rw [if_neg hfl] at hK
  refine cond_f (decide_eq_false (by omega)) (cond_f (decide_eq_false (by omega)) (hJ _ _ ?_))
  clear hJ
  have ebase:∀{w4 out4},RTo w w4 g rg out out4→base≤w4.heap.size:=fun t=>Nat.le_trans hbase t.chg.size
  refine loopP_rule (fun (t:Int×Unit) w4=>∃(i:Nat) (out4:Slc) (h4:List UInt8),t.1=i∧i≤m∧RSt w4 base g rg s out4 bs h4 most (at_+n+j+n2)∧RTo w w4 g rg out out4∧copyN most far m c.hist=copyN most far (m-i) h4∧c.hist <+: h4) (fun t=>m-t.1.toNat)
   ⟨0,out,c.hist,rfl,by omega,h5,t03,rfl,hpre⟩ ?_
  rintro ⟨i,_⟩ w4 ⟨i,out4,hi4,rfl,hi,h6,t6,hcp,hpx⟩ I hI
  dsimp only at *
  have hlen:=hpx.length_le
  have hm6:=h6.hm
  refine cond_of (fun hlt=>?_) (fun hge=>?_)
  ·have hlt:=of_decide_eq_true hlt
   have hmi:m-i=(m-(i+1))+1:=by omega
   rw [hmi,copyN] at hcp
   have h6d:=h6.drew
   refine ldSl_of (x:=out4) (h6d.blk.cells 1 _ rfl) ?_
   refine ldI_of (x:=(most:Int)) (h6d.blk.cells 2 _ rfl) ?_
   rw [h6d.out.rd.n]
   refine cond_of (fun hfull=>?_) (fun hroom=>?_)
   ·have hfull:=of_decide_eq_true hfull
    rw [if_pos (by omega)] at hcp
    refine hK 5 _ _ _ _ h6d (t6.trans (RTo.drew w4 g rg out4)) ?_
    rw [hcp]
    exact ⟨rfl,by decide,hpx⟩
   ·have hroom:=of_decide_eq_false hroom
    rw [if_neg (by omega)] at hcp
    have h6dd:=h6d.drew
    have t6dd:=(t6.trans (RTo.drew w4 g rg out4)).trans (RTo.drew _ g rg out4)
    refine ldSl_of (x:=out4) (h6dd.blk.cells 1 _ rfl) ?_
    refine ldSl_of (x:=out4) (h6dd.blk.cells 1 _ rfl) ?_
    refine ldSl_of (x:=out4) (h6dd.blk.cells 1 _ rfl) ?_
    rw [h6dd.out.rd.n,wrap64_id (by omega),show ((hi4.length:Nat):Int)-(far:Int)=((hi4.length-far:Nat):Int) by omega]
    have hin:hi4.length-far<hi4.length:=by omega
    obtain ⟨x,hx,hxs⟩:=get_of (xs:=hi4) (k:=hi4.length-far) hin
    refine h6dd.out.rd.ix (i:=((hi4.length-far:Nat):Int)) rfl (by omega) (by omega) fun hc=>?_
    rw [hxs] at hc
    refine ldB8 (b:=x) hc ?_
    have hgd:hi4.getD (hi4.length-far) 0=x:=by rw [List.getD_eq_getElem?_getD,hx];rfl
    rw [hgd] at hcp
    have key:=h6dd.put (b:=x) (v:=(x.toNat:Int)) (K:=fun w8=>I (IntKind.i64.wrap ((i:Int)+1),()) w8) (ebase t6dd) rfl (by omega) fun out6 w6 h7 t7=>by
     rw [wrap64_id (by omega)]
     exact hI _ _ ⟨i+1,out6,hi4++[x],rfl,by omega,h7,t6dd.trans t7,hcp,hpx.trans (List.prefix_append _ _)⟩ (by simp;omega)
    have hB:Below w4.drew.drew.heap.size w4.drew.drew (w4.drew.drew.alloc (.cells [Value.int .u8 (x.toNat:Int)].toArray ty_uint8)):=(Below.refl _ _).alloc (Nat.le_refl _) _
    have hcell:=(h6dd.blk.ext hB).cells 1 _ rfl
    rw [h6dd.out.rd.n] at hcell
    exact ⟨hcell,key⟩
  ·have hge:=of_decide_eq_false hge
   have:i=m:=by omega
   subst this
   rw [Nat.sub_self,copyN] at hcp
   refine hK 0 _ _ _ _ h6 t6 ?_
   rw [hcp]
   exact ⟨rfl,rfl,rfl⟩
theorem codes_spec {c:Cfg} {K:Int→World→Prop} {td:Nat×Slc×Slc} (h:RSt w base g rg s out bs c.hist most at_) (ht:TabK w base out t c.sg) (htd:TabK w base out td c.ds) (hm:c.mode=4) (hbase:base≤w.heap.size)
  (hK:∀e out' hist' a' w',RSt w' base g rg s out' bs hist' most a'→RTo w w' g rg out out'→RRes most bs c at_ (if c.last then 5 else 0) e a' hist'→K e w'):c_q5_state_codes (some ⟨g,0,none⟩) (some ⟨t.1,0,none⟩) (some ⟨td.1,0,none⟩) w K:=by
 refine call_q5_state_codes _ _ _ ?_
 unfold sh_q5_state_codes
 simp only [onPtr_some]
 have ebase:∀{w4 out4},RTo w w4 g rg out out4→base≤w4.heap.size:=fun t=>Nat.le_trans hbase t.chg.size
 refine loopP_rule_w (fun m (_:Unit) w4=>∃(out4:Slc) (c4:Cfg) (a4:Nat),m=8*bs.length-a4∧RSt w4 base g rg s out4 bs c4.hist most a4∧RTo w w4 g rg out out4∧Ch most bs c at_ c4 a4∧c4.mode=4∧c4.sg=c.sg∧c4.ds=c.ds∧c4.last=c.last∧TabK w4 base out4 t c.sg∧TabK w4 base out4 td c.ds) _
  ⟨out,c,at_,rfl,h,RTo.refl _ _ _ _,.refl _ _,hm,rfl,rfl,rfl,ht,htd⟩ ?_
 rintro m _ w4 ⟨out4,c4,a4,rfl,h4,t4,hch,hm4,hsg,hds,hla,ht4,htd4⟩ I hI
 have hpre:c4.hist <+: c4.hist:=List.prefix_refl _
 have st4:step1 most bs a4 c4=stepCode most bs a4 c4:=by rw [step1,if_neg (by omega),stepN,if_neg (by omega),if_neg (by omega),if_neg (by omega),if_neg (by omega)]
 refine ldP_of (x:=some ⟨rg,0,none⟩) (h4.blk.cells 0 _ rfl) ?_
 refine sRead_spec h4 ht4 fun w5 a5 z e h5 t5 hmm=>?_
 have t05:=t4.trans t5
 rw [←hsg] at hmm
 cases hrd:readT c4.sg bs a4 with
 | short =>
  rw [hrd] at hmm
  obtain ⟨rfl,rfl⟩:=hmm
  refine cond_t rfl (hK _ _ _ _ _ h5 t05 (.of_ch hch (RRes.short ?_ (by omega) hpre)))
  rw [st4,stepCode,hrd]
 | form =>
  rw [hrd] at hmm
  obtain ⟨rfl,rfl⟩:=hmm
  refine cond_t rfl (hK _ _ _ _ _ h5 t05 (.of_ch hch (RRes.err (n:=3) ?_ (by decide) rfl hpre)))
  rw [st4,stepCode,hrd]
 | sym y k =>
  rw [hrd] at hmm
  obtain ⟨rfl,rfl,rfl,_⟩:=hmm
  have hle5:=h5.rdr.le
  have hk1:=(readT_le hrd).1
  refine cond_f rfl ?_
  by_cases h256:y=256
  ·refine cond_t (beq_iff_eq.2 (by omega)) ?_
   have hst:step1 most bs a4 c4=.next c4.behind (a4+k):=by
    rw [st4,stepCode,hrd];dsimp only;rw [if_pos h256]
   have r:=RRes.of_ch hch (RRes.done hst)
   have em:c4.behind.mode=if c.last then 5 else 0:=by unfold Cfg.behind;rw [hla]
   rw [em] at r
   exact hK _ _ _ _ _ h5 t05 r
  refine cond_f (beq_eq_false_iff_ne.2 (by omega)) ?_
  by_cases h285:285<y
  ·refine cond_t (decide_eq_true (by omega)) (hK _ _ _ _ _ h5 t05 (.of_ch hch (RRes.err (n:=3) ?_ (by decide) rfl hpre)))
   rw [st4,stepCode,hrd];dsimp only;rw [if_neg h256,if_pos h285]
  refine cond_f (decide_eq_false (by omega)) ?_
  have ht5:=ht4.keep h4 t5
  have htd5:=htd4.keep h4 t5
  by_cases hlt:y<256
  ·refine cond_t (decide_eq_true (by omega)) ?_
   have h5d:=h5.drew
   have t5d:=RTo.drew w5 g rg out4
   refine ldSl_of (x:=out4) (h5d.blk.cells 1 _ rfl) ?_
   refine ldI_of (x:=(most:Int)) (h5d.blk.cells 2 _ rfl) ?_
   rw [h5d.out.rd.n]
   refine cond_of (fun hfull=>?_) (fun hroom=>?_)
   ·have hfull:=of_decide_eq_true hfull
    refine hK _ _ _ _ _ h5d (t05.trans t5d) (.of_ch hch (RRes.err (n:=5) ?_ (by decide) rfl hpre))
    rw [st4,stepCode,hrd];dsimp only;rw [if_neg h256,if_neg h285,if_pos hlt,if_pos (by omega)]
   ·have hroom:=of_decide_eq_false hroom
    refine ldSl_of (x:=out4) (h5d.blk.cells 1 _ rfl) ?_
    have hbv:(UInt8.ofNat y).toNat=y:=by rw [UInt8.toNat_ofNat'];omega
    refine h5d.put (b:=UInt8.ofNat y) (ebase (t05.trans t5d)) (by rw [hbv,wrap_nat .u8 (x:=y) (by show _<2^8;omega)]) (by omega) fun out6 w6 h6 t6=>?_
    have hst:step1 most bs a4 c4=.next { c4 with hist:=c4.hist++[UInt8.ofNat y] } (a4+k):=by
     rw [st4,stepCode,hrd];dsimp only;rw [if_neg h256,if_neg h285,if_pos hlt,if_neg (by omega)]
    exact hI (8*bs.length-(a4+k)) _ w6 ⟨out6,{ c4 with hist:=c4.hist++[UInt8.ofNat y] },a4+k,rfl,h6,(t05.trans t5d).trans t6,hch.trans (.one hst),hm4,hsg,hds,hla,(ht5.keep h5 t5d).keep h5d t6,(htd5.keep h5 t5d).keep h5d t6⟩ (by omega)
  ·refine cond_f (decide_eq_false (by omega)) ?_
   have hcop:=stepCode_copy (most:=most) hrd (by omega) (by omega)
   rw [←st4] at hcop
   rw [←hds] at htd5
   refine copied_spec h5 htd5 (by omega) (by omega) (ebase t05) fun e out6 hist6 a6 w6 h6 t6 hmm=>?_
   have t06:=t05.trans t6
   rw [←hcop] at hmm
   cases hr:step1 most bs a4 c4 with
   | short =>
    rw [hr] at hmm
    obtain ⟨rfl,hp⟩:=hmm
    exact cond_t rfl (hK _ _ _ _ _ h6 t06 (.of_ch hch (RRes.short hr (by omega) hp)))
   | err n =>
    rw [hr] at hmm
    obtain ⟨rfl,hn,hp⟩:=hmm
    exact cond_t (by
             have:((n:Nat):Int)≠0:=by omega
             simpa using this) (hK _ _ _ _ _ h6 t06 (.of_ch hch (RRes.err hr hn rfl hp)))
   | next c6 a6' =>
    rw [hr] at hmm
    obtain ⟨rfl,rfl,rfl⟩:=hmm
    have hcc:c6={ c4 with hist:=c6.hist }:=by
     rw [hcop] at hr
     unfold copyR at hr
     split at hr
     ·cases hr
     ·split at hr
      ·cases hr
      ·cases hr
      ·split at hr
       ·cases hr
       ·split at hr
        ·cases hr
        ·split at hr
         ·cases hr
         ·split at hr
          ·cases hr
          ·injection hr with hr _;rw [←hr]
    have hle6:=h6.rdr.le
    have hmu:=step1_next hr (h4.rdr.le)
    have ht6:=ht5.keep h5 t6
    have htd6:=htd5.keep h5 t6
    rw [hds] at htd6
    have hm6:c6.mode=4:=by rw [hcc];exact hm4
    have hmu2:=hmu.2.2
    unfold mu at hmu2
    rw [if_neg (by omega),if_neg (by omega)] at hmu2
    refine cond_f rfl ?_
    exact hI (8*bs.length-a6) _ w6 ⟨out6,c6,a6,rfl,h6,t06,hch.trans (.one hr),hm6,by rw [hcc];exact hsg,by rw [hcc];exact hds,by rw [hcc];exact hla,ht6,htd6⟩ (by omega)
end
end Go.Proofs.YtmagnpcgpinmcaaGreat
namespace Go.Proofs.YtmagnpcgpinmcaaGreat
open Go.Vc Go.RowKit
set_option maxRecDepth 400000
section
variable {w w':World} {base g rg:Nat} {s out:Slc} {bs hist ls:List UInt8} {most at_ B:Nat}
theorem RSt.lt (h:RSt w base g rg s out bs hist most at_) (hb:base≤w.heap.size):∀k,rS g rg out k∨s.blk=some k→k<w.heap.size:=by
 rintro k ((rfl | rfl | e) | e)
 ·exact h.blk.lt
 ·exact h.rdr.blk.lt
 ·exact (h.out.lt k e).2
 ·have:=h.sb k e;omega
theorem RSt.keepB (h:RSt w base g rg s out bs hist most at_) (hl:∀k,rS g rg out k∨s.blk=some k→k<B) (hb:Below B w w'):RSt w' base g rg s out bs hist most at_:=by
 have hc:=Chg.of_below hb
 refine ⟨h.blk.chg hc fun e=>?_,h.rdr.chg hc (fun e=>?_) fun k hk e=>?_,h.out.chg hc fun k hk e=>?_,h.hg,h.hr,h.sb,h.hm,h.mo⟩
 ·have:=hl g (.inl (.inl rfl));omega
 ·have:=hl rg (.inl (.inr (.inl rfl)));omega
 ·have:=hl k (.inr hk);omega
 ·have:=hl k (.inl (.inr (.inr hk)));omega
theorem RTo.keepB {w0:World} (h:RTo w0 w g rg out out) (hb:Below w0.heap.size w w'):RTo w0 w' g rg out out:=⟨h.chg.trans (Chg.of_below hb) fun i hi hs=>by omega,.inl rfl⟩
theorem RTab.keepB {b t:Nat} {lo co:Slc} (h:RTab w b t lo co ls) (hl:t<B∧∀k,lo.blk=some k∨co.blk=some k→k<B) (hb:Below B w w'):RTab w' b t lo co ls:=by
 have hc:=Chg.of_below hb
 refine ⟨h.blk.chg hc fun e=>?_,h.hg,h.lo.chg hc fun k hk e=>?_,h.co.chg hc fun k hk e=>?_,h.sm,h.good⟩
 ·have:=hl.1;omega
 ·have:=hl.2 k (.inl hk);omega
 ·have:=hl.2 k (.inr hk);omega
theorem RTab.lt {b t:Nat} {lo co:Slc} (h:RTab w b t lo co ls):t<w.heap.size∧∀k,lo.blk=some k∨co.blk=some k→k<w.heap.size :=
 ⟨h.blk.lt,fun k hk=>by
  rcases hk with hk | hk
  ·exact (h.lo.lt k hk).2
  ·exact (h.co.lt k hk).2⟩
theorem lengths_spec {t:Nat×Slc×Slc} {n:Nat} {K:Slc→Int→World→Prop} (h:RSt w base g rg s out bs hist most at_) (ht:TabK w base out t ls) (hls:ls.length≤19) (hn:n≤399) (hbase:base≤w.heap.size)
  (hK:∀(r:Slc) (e:Int) (a':Nat) w',RSt w' base g rg s out bs hist most a'→RTo w w' g rg out out→(match lensGo ls bs n 400 at_ [] with | .lens l a=>e=0∧Own E_uint8 w' w.heap.size r l∧a'=a | .short=>e=2 | .form=>e=3)→K r e w'):c_q5_state_lengths (some ⟨g,0,none⟩) (some ⟨t.1,0,none⟩) (n:Int) w K:=by
 refine call_q5_state_lengths _ _ _ ?_
 unfold sh_q5_state_lengths
 simp only [onPtr_some]
 have hlt:=h.lt hbase
 have htlt:=ht.1.lt
 obtain ⟨R,hR⟩:∃R,R=lensGo ls bs n 400 at_ []:=⟨_,rfl⟩
 rw [←hR] at hK
 refine loopP_rule_w (fun m (r:Slc×Unit) w1=>∃(l:List UInt8) (f a1:Nat),m=n-l.length∧l.length≤n∧400≤f+l.length∧R=lensGo ls bs n f a1 l∧RSt w1 base g rg s out bs hist most a1∧RTo w w1 g rg out out∧TabK w1 base out t ls∧Own E_uint8 w1 w.heap.size r.1 l) n
  ⟨[],400,at_,by simp,by simp,by simp,hR,h,RTo.refl _ _ _ _,ht,Own.nil _ _ _⟩ ?_
 rintro m ⟨r,_⟩ w1 ⟨l,f,a1,rfl,hln,hf,hgo,h1,t1,ht1,ho1⟩ I hI
 dsimp only at *
 clear hR
 have hs1:=t1.chg.size
 rw [ho1.rd.n]
 obtain ⟨f',rfl⟩:∃f',f=f'+1:=⟨f-1,by omega⟩
 rw [lensGo] at hgo
 have row:∀{w2 w3},RTo w2 w3 g rg out out→∀{r:Slc} {l:List UInt8},Own E_uint8 w2 w.heap.size r l→Own E_uint8 w3 w.heap.size r l:=fun {w2 w3} hto {r l} ho=>Own.chg ho hto.chg fun k hk e=>by
  have:=(ho.lt k hk).1
  have:=hlt k (.inl e)
  omega
 refine cond_of (fun hl=>?_) (fun hl=>?_)
 rotate_left
 ·have hl:=of_decide_eq_false hl
  rw [if_pos (by omega)] at hgo
  refine hK r 0 a1 w1 h1 t1 ?_
  rw [hgo]
  exact ⟨rfl,ho1,rfl⟩
 have hl:=of_decide_eq_true hl
 rw [if_neg (by omega)] at hgo
 refine ldP_of (x:=some ⟨rg,0,none⟩) (h1.blk.cells 0 _ rfl) ?_
 refine sRead_spec h1 ht1 fun w2 a2 z e h2 t2 hm=>?_
 have t02:=t1.trans t2
 cases hrd:readT ls bs a1 with
 | short =>
  rw [hrd] at hm hgo
  obtain ⟨rfl,rfl⟩:=hm
  have hgo:R=.short:=hgo
  refine cond_t rfl (hK _ _ _ _ h2 t02 ?_)
  rw [hgo]
  rfl
 | form =>
  rw [hrd] at hm hgo
  obtain ⟨rfl,rfl⟩:=hm
  have hgo:R=.form:=hgo
  refine cond_t rfl (hK _ _ _ _ h2 t02 ?_)
  rw [hgo]
  rfl
 | sym y k =>
  rw [hrd] at hm hgo
  obtain ⟨rfl,rfl,rfl,hy⟩:=hm
  dsimp only at hgo
  refine cond_f rfl ?_
  have ho2:=row t2 ho1
  have ht2:=ht1.keep h1 t2
  have hs2:=t02.chg.size
  have hle2:=h2.rdr.le
  by_cases h16:y<16
  ·
   refine cond_t (decide_eq_true (by omega)) ?_
   have hyv:(UInt8.ofNat y).toNat=y:=by rw [UInt8.toNat_ofNat'];omega
   refine apB1 (c:=UInt8.ofNat y) (by rw [hyv,wrap_nat .u8 (x:=y) (by show _<2^8;omega)]) ho2 hs2 (by omega) fun r3 w3 ho3 hc3 _=>?_
   have hB3:Below w.heap.size w2 w3:=hc3.below hs2 fun i hi e=>by have:=(ho2.lt i e).1;omega
   have e3:(if y=18 then ((11:Nat),(7:Nat),(0:UInt8)) else if y=17 then (3,3,0) else if y=16 then (3,2,l.getLastD 0) else (1,0,UInt8.ofNat y))=(1,0,UInt8.ofNat y):=by rw [if_neg (by omega),if_neg (by omega),if_neg (by omega)]
   rw [if_neg (show ¬(y=16∧l=[]) by omega)] at hgo
   simp only [e3] at hgo
   have hp0:peekN bs (a1+k) 0=0:=by have:=peekN_lt bs (a1+k) 0;omega
   rw [if_neg (by omega),hp0,if_neg (by omega)] at hgo
   exact hI (n-(l++[UInt8.ofNat y]).length) _ w3 ⟨l++[UInt8.ofNat y],f',a1+k,rfl,by simp;omega,by simp;omega,hgo,h2.keepB hlt hB3,t02.keepB hB3,⟨ht2.1.keepB htlt hB3,ht2.2⟩,ho3⟩ (by simp;omega)
  refine cond_f (decide_eq_false (by omega)) ?_
  refine joinP_of fun J hJ=>?_
  have go:∀(b m:Nat) (v:UInt8),1≤b→b≤11→m≤7→R=(if 8*bs.length<a1+k+m then .short else if n<l.length+b+peekN bs (a1+k) m then .form else lensGo ls bs n f' (a1+k+m) (l++List.replicate (b+peekN bs (a1+k) m) v))→J ((b:Int),(m:Int),(v.toNat:Int),()) w2:=fun b m v hb1 hb2 hm7 hgo=>hJ _ _ (by
   clear hJ
   dsimp only
   refine ldP_of (x:=some ⟨rg,0,none⟩) (h2.blk.cells 0 _ rfl) ?_
   refine sBits_spec (n:=m) h2 (by omega) (fun hf1 w3 h3 t3=>?_) (fun hs3 w3 h3 t3=>?_)
   rotate_left
   ·refine cond_t rfl (hK _ _ _ _ h3 (t02.trans t3) ?_)
    rw [hgo,if_pos hs3]
   rw [if_neg (by omega)] at hgo
   refine cond_f rfl ?_
   have p1:=peekN_lt bs (a1+k) m
   have q1:2^m≤2^7:=Nat.pow_le_pow_right (by decide) hm7
   obtain ⟨q,hq⟩:∃q,q=b+peekN bs (a1+k) m:=⟨_,rfl⟩
   have eq1:IntKind.i64.wrap ((b:Int)+IntKind.i64.wrap ((peekN bs (a1+k) m:Nat):Int))=(q:Int):=by
    rw [wrap_nat .i64 (x:=peekN bs (a1+k) m) (by show _<2^63;omega),wrap64_id (by omega),hq];rfl
   rw [eq1,wrap64_id (x:=((l.length:Nat):Int)+(q:Int)) (by omega)]
   have t03:=t02.trans t3
   by_cases hbig:n<l.length+b+peekN bs (a1+k) m
   ·refine cond_t (decide_eq_true (by omega)) (hK _ _ _ _ h3 t03 ?_)
    rw [hgo,if_pos hbig]
   rw [if_neg hbig,←hq] at hgo
   refine cond_f (decide_eq_false (by omega)) ?_
   have ho3:=row t3 ho2
   have ht3:=ht2.keep h2 t3
   have hs3:=t03.chg.size
   refine loopP_rule (fun (u:Slc×Int×Unit) w4=>∃i:Nat,u.2.1=i∧i≤q∧Own E_uint8 w4 w.heap.size u.1 (l++List.replicate i v)∧Below w.heap.size w3 w4) (fun u=>q-u.2.1.toNat) ⟨0,rfl,by omega,by simpa using ho3,Below.refl _ _⟩ ?_
   rintro ⟨u,i,_⟩ w4 ⟨i,rfl,hi,ho4,hB4⟩ I3 hI3
   dsimp only at *
   have hs4:=hB4.size
   refine cond_of (fun hlt4=>?_) (fun hge4=>?_)
   ·have hlt4:=of_decide_eq_true hlt4
    refine apB1 (c:=v) rfl ho4 (by omega) (by simp;omega) fun r5 w5 ho5 hc5 _=>?_
    have hB5:Below w.heap.size w4 w5:=hc5.below (by omega) fun j hj e=>by have:=(ho4.lt j e).1;omega
    rw [wrap64_id (by omega)]
    refine hI3 _ _ ⟨i+1,rfl,by omega,?_,hB4.trans hB5⟩ (by simp;omega)
    rw [List.replicate_succ',←List.append_assoc]
    exact ho5
   ·have hge4:=of_decide_eq_false hge4
    have:i=q:=by omega
    subst this
    have el:(l++List.replicate i v).length=l.length+i:=by simp
    exact hI (n-(l++List.replicate i v).length) _ w4 ⟨l++List.replicate i v,f',a1+k+m,rfl,by omega,by omega,hgo,h3.keepB hlt hB4,t03.keepB hB4,⟨ht3.1.keepB htlt hB4,ht3.2⟩,ho4⟩ (by omega))
  by_cases e16:y=16
  ·subst e16
   refine cond_t rfl ?_
   by_cases hnil:l=[]
   ·refine cond_t (by rw [hnil];rfl) (hK _ _ _ _ h2 t02 ?_)
    rw [if_pos ⟨rfl,hnil⟩] at hgo
    rw [hgo]
   ·have hpos:0<l.length:=List.length_pos_iff.2 hnil
    have e3:(if 16=18 then ((11:Nat),(7:Nat),(0:UInt8)) else if 16=17 then (3,3,0) else if 16=16 then (3,2,l.getLastD 0) else (1,0,UInt8.ofNat 16))=(3,2,l.getLastD 0):=rfl
    rw [if_neg (show ¬(16=16∧l=[]) from fun hh=>hnil hh.2)] at hgo
    simp only [e3] at hgo
    refine cond_f (beq_eq_false_iff_ne.2 (by omega)) ?_
    rw [wrap64_id (x:=((l.length:Nat):Int)-1) (by omega),show ((l.length:Nat):Int)-1=((l.length-1:Nat):Int) by omega]
    obtain ⟨x,hx,hxs⟩:=get_of (xs:=l) (k:=l.length-1) (by omega)
    refine ho2.rd.ix (i:=((l.length-1:Nat):Int)) rfl (by omega) (by omega) fun hc=>?_
    rw [hxs] at hc
    refine ldB8 (b:=x) hc ?_
    have hlast:l.getLastD 0=x:=by
     rw [List.getLastD_eq_getLast?,List.getLast?_eq_getElem?,hx]
     rfl
    rw [hlast] at hgo
    exact go 3 2 x (by decide) (by decide) (by decide) hgo
  ·rw [if_neg (show ¬(y=16∧l=[]) from fun hh=>e16 hh.1)] at hgo
   refine cond_f (beq_eq_false_iff_ne.2 (by omega)) ?_
   by_cases e17:y=17
   ·subst e17
    have e3:(if 17=18 then ((11:Nat),(7:Nat),(0:UInt8)) else if 17=17 then (3,3,0) else if 17=16 then (3,2,l.getLastD 0) else (1,0,UInt8.ofNat 17))=(3,3,0):=rfl
    simp only [e3] at hgo
    exact cond_t rfl (go 3 3 0 (by decide) (by decide) (by decide) hgo)
   ·have e18:y=18:=by omega
    subst e18
    have e3:(if 18=18 then ((11:Nat),(7:Nat),(0:UInt8)) else if 18=17 then (3,3,0) else if 18=16 then (3,2,l.getLastD 0) else (1,0,UInt8.ofNat 18))=(11,7,0):=rfl
    simp only [e3] at hgo
    exact cond_f rfl (cond_t rfl (go 11 7 0 (by decide) (by decide) (by decide) hgo))
end
end Go.Proofs.YtmagnpcgpinmcaaGreat
namespace Go.Proofs.YtmagnpcgpinmcaaGreat
open Go.Vc Go.RowKit
set_option maxRecDepth 400000
theorem lensGo_len (t bs:List UInt8) (n:Nat) {l':List UInt8} {a':Nat}:∀(f a:Nat) (l:List UInt8),lensGo t bs n f a l=.lens l' a'→n≤l'.length
 | 0,a,l,h=>by cases h
 | f+1,a,l,h=>by
  rw [lensGo] at h
  split at h
  ·next hn=>cases h;exact hn
  ·split at h
   ·cases h
   ·cases h
   ·next y k hr =>
    split at h
    ·cases h
    ·generalize (if y=18 then ((11:Nat),(7:Nat),(0:UInt8)) else if y=17 then (3,3,0) else if y=16 then (3,2,l.getLastD 0) else (1,0,UInt8.ofNat y))=T at h
     obtain ⟨b,m,v⟩:=T
     dsimp only at h
     split at h
     ·cases h
     ·split at h
      ·cases h
      ·exact lensGo_len t bs n f _ _ h
section
variable {w w':World} {base g rg:Nat} {s out:Slc} {bs:List UInt8} {most at_:Nat}
theorem rdynamic_spec {c:Cfg} {K:Int→World→Prop} (h:RSt w base g rg s out bs c.hist most at_) (hm:c.mode=3) (hbase:base≤w.heap.size)
  (hK:∀(e:Int) out' hist' a' w',RSt w' base g rg s out' bs hist' most a'→RTo w w' g rg out out'→RRes most bs c at_ (if c.last then 5 else 0) e a' hist'→K e w'):c_q5_state_dynamic (some ⟨g,0,none⟩) w K:=by
 refine call_q5_state_dynamic _ ?_
 unfold sh_q5_state_dynamic
 simp only [onPtr_some]
 have hpre:c.hist <+: c.hist:=List.prefix_refl _
 have st0:step1 most bs at_ c=stepDyn bs at_ c:=by rw [step1,if_neg (by omega),stepN,if_neg (by omega),if_neg (by omega),if_neg (by omega),if_pos hm]
 unfold stepDyn at st0
 have hlt:=h.lt hbase
 have short:∀a' w',step1 most bs at_ c=.short→RSt w' base g rg s out bs c.hist most a'→RTo w w' g rg out out→K 2 w':=fun a' w' hs h' t'=>hK _ _ _ _ _ h' t' (RRes.short hs (by omega) hpre)
 have bad:∀a' w',step1 most bs at_ c=.err 3→RSt w' base g rg s out bs c.hist most a'→RTo w w' g rg out out→K 3 w':=fun a' w' hs h' t'=>hK _ _ _ _ _ h' t' (RRes.err hs (by decide) rfl hpre)
 refine ldP_of (x:=some ⟨rg,0,none⟩) (h.blk.cells 0 _ rfl) ?_
 refine sBits_spec (n:=5) h (by decide) (fun hf1 w1 h1 t1=>?_) (fun hs1 w1 h1 t1=>?_)
 rotate_left
 ·rw [if_pos (by omega)] at st0
  exact cond_t rfl (short _ _ st0 h1 t1)
 refine cond_f rfl ?_
 refine ldP_of (x:=some ⟨rg,0,none⟩) (h1.blk.cells 0 _ rfl) ?_
 refine sBits_spec (n:=5) h1 (by decide) (fun hf2 w2 h2 t2=>?_) (fun hs2 w2 h2 t2=>?_)
 rotate_left
 ·rw [if_pos (by omega)] at st0
  exact cond_t rfl (short _ _ st0 h2 (t1.trans t2))
 refine cond_f rfl ?_
 refine ldP_of (x:=some ⟨rg,0,none⟩) (h2.blk.cells 0 _ rfl) ?_
 refine sBits_spec (n:=4) h2 (by decide) (fun hf3 w3 h3 t3=>?_) (fun hs3 w3 h3 t3=>?_)
 rotate_left
 ·rw [if_pos (by omega)] at st0
  exact cond_t rfl (short _ _ st0 h3 ((t1.trans t2).trans t3))
 refine cond_f rfl ?_
 rw [if_neg (by omega)] at st0
 dsimp only at st0
 rw [show at_+5+5=at_+10 by omega] at h3 hf3 ⊢
 rw [show at_+10+4=at_+14 by omega] at h3 hf3
 have t03:=(t1.trans t2).trans t3
 have pa:=peekN_lt bs at_ 5
 have pb:=peekN_lt bs (at_+5) 5
 have pd:=peekN_lt bs (at_+10) 4
 obtain ⟨a,ha⟩:∃a,a=peekN bs at_ 5:=⟨_,rfl⟩
 obtain ⟨b,hb⟩:∃b,b=peekN bs (at_+5) 5:=⟨_,rfl⟩
 obtain ⟨d,hd⟩:∃d,d=peekN bs (at_+10) 4:=⟨_,rfl⟩
 rw [←ha] at pa st0 ⊢
 rw [←hb] at pb st0 ⊢
 rw [←hd] at pd st0 ⊢
 refine joinP_of fun J hJ=>?_
 by_cases hab:29<a∨29<b
 ·rw [if_pos hab] at st0
  by_cases h29:29<a
  ·exact cond_t (decide_eq_true (by omega)) (bad _ _ st0 h3 t03)
  ·exact cond_f (decide_eq_false (by omega)) (cond_t (decide_eq_true (by omega)) (bad _ _ st0 h3 t03))
 rw [if_neg hab] at st0
 refine cond_f (decide_eq_false (by omega)) (cond_f (decide_eq_false (by omega)) (hJ _ _ ?_))
 clear hJ
 have hs03:=t03.chg.size
 refine nw_blk fun w5 hb5 hB5 hs5=>?_
 obtain ⟨T,hT⟩:∃T,T=w3.heap.size:=⟨_,rfl⟩
 rw [←hT] at hb5 ⊢
 refine mkSl_of sT_sl_uint8 (x0:=(0:UInt8)) (n:=19) rfl rfl rfl (by rw [by_sl_uint8];omega) (by simp only [maxLen];omega) fun w6 ho6 hB6=>?_
 obtain ⟨q,hq⟩:∃q:Slc,q=⟨some ⟨w5.heap.size,0,none⟩,19,19⟩:=⟨_,rfl⟩
 rw [←hq] at ho6 ⊢
 have hB36:Below w.heap.size w3 w6:=(hB5.mono hs03).trans (hB6.mono (by omega))
 have h6:=h3.keepB hlt hB36
 have t06:=t03.keepB hB36
 have hb6:=hb5.ext hB6
 have ho6:Own E_uint8 w6 w.heap.size q (List.replicate 19 0):=ho6.base (by omega)
 have hTb:w.heap.size≤T:=by omega
 have d4:IntKind.i64.wrap (IntKind.i64.wrap (d:Int)+4)=((d+4:Nat):Int):=by
  rw [wrap_nat .i64 (x:=d) (by show _<2^63;omega),wrap64_id (by omega)];rfl
 rw [d4]
 have row:∀{w2 w3},RTo w2 w3 g rg out out→∀{r:Slc} {l:List UInt8},Own E_uint8 w2 w.heap.size r l→Own E_uint8 w3 w.heap.size r l:=fun {w2 w3} hto {r l} ho=>Own.chg ho hto.chg fun k hk e=>by
  have:=(ho.lt k hk).1
  have:=hlt k (.inl e)
  omega
 obtain ⟨oc,hoc⟩:∃oc:List Value,oc=[(.int .i64 16),(.int .i64 17),(.int .i64 18),(.int .i64 0),(.int .i64 8),(.int .i64 7),(.int .i64 9),(.int .i64 6),(.int .i64 10),(.int .i64 5),(.int .i64 11),(.int .i64 4),(.int .i64 12),(.int .i64 3),(.int .i64 13),(.int .i64 2),(.int .i64 14),(.int .i64 1),(.int .i64 15)]:=⟨_,rfl⟩
 have hocg:∀i,i<19→oc[i]?=some (.int .i64 ((orderL.getD i 0:Nat):Int)):=by
  intro i hi
  have e:oc=orderL.map (fun n:Nat=>Value.int .i64 (n:Int)):=by rw [hoc];rfl
  have hl:orderL[i]?=some (orderL.getD i 0):=by
   rw [List.getD_eq_getElem?_getD,List.getElem?_eq_getElem (show i<orderL.length from hi)]
   rfl
  rw [e,List.getElem?_map,hl]
  rfl
 rw [←hoc] at hb6
 refine loopP_rule (fun (u:Int×Unit) w7=>∃i:Nat,u.1=i∧i≤d+4∧RSt w7 base g rg s out bs c.hist most (at_+14+3*i)∧RTo w w7 g rg out out∧Blk w7 T ty_int oc∧Own E_uint8 w7 w.heap.size q (clens bs (at_+14) i)) (fun u=>d+4-u.1.toNat)
  ⟨0,rfl,by omega,h6,t06,hb6,ho6⟩ ?_
 rintro ⟨i,_⟩ w7 ⟨i,rfl,hi,h7,t7,hb7,ho7⟩ I hI
 dsimp only at *
 have hs7:=t7.chg.size
 have hclen:∀i,(clens bs (at_+14) i).length=19:=fun i=>by
  induction i with
  | zero=>simp [clens]
  | succ i ih=>rw [clens,List.length_set];exact ih
 refine cond_of (fun hl=>?_) (fun hl=>?_)
 ·have hl:=of_decide_eq_true hl
  refine ldP_of (x:=some ⟨rg,0,none⟩) (h7.blk.cells 0 _ rfl) ?_
  refine sBits_spec (n:=3) h7 (by decide) (fun hf8 w8 h8 t8=>?_) (fun hs8 w8 h8 t8=>?_)
  rotate_left
  ·rw [if_pos (by omega)] at st0
   exact cond_t rfl (short _ _ st0 h8 (t7.trans t8))
  refine cond_f rfl ⟨by omega,?_⟩
  have hb8:Blk w8 T ty_int oc:=hb7.chg t8.chg fun e=>by have:=hlt T (.inl e);omega
  have ho8:=row t8 ho7
  have hs8:=(t7.trans t8).chg.size
  have hcell:=hb8.cells i _ (hocg i (by omega))
  refine ldI_of (x:=((orderL.getD i 0:Nat):Int)) (by simpa using hcell) ?_
  have hord:=orderL_lt i (by omega)
  have p3:=peekN_lt bs (at_+14+3*i) 3
  obtain ⟨x,hx,hxs⟩:=get_of (xs:=clens bs (at_+14) i) (k:=orderL.getD i 0) (by rw [hclen];exact hord)
  have hpv:(UInt8.ofNat (peekN bs (at_+14+3*i) 3)).toNat=peekN bs (at_+14+3*i) 3:=by rw [UInt8.toNat_ofNat'];omega
  refine ho8.rd.ix (i:=((orderL.getD i 0:Nat):Int)) rfl (by omega) (by rw [hclen];omega) fun _=>?_
  refine ho8.st0 (x:=x) (y:=UInt8.ofNat (peekN bs (at_+14+3*i) 3)) hx (by show [Value.int .u8 _]=_;rw [hpv,wrap_nat .u8 (x:=peekN bs (at_+14+3*i) 3) (by show _<2^8;omega)]) fun w9 ho9 hg9 hs9=>?_
  have hc9:Chg (fun j=>q.blk=some j) w8 w9:=Chg.of_grown hg9 fun j hj=>hj
  have hB9:Below w.heap.size w8 w9:=hc9.below hs8 fun j hj e=>by have:=(ho8.lt j e).1;omega
  rw [wrap64_id (by omega)]
  refine hI _ _ ⟨i+1,rfl,by omega,?_,(t7.trans t8).keepB hB9,hb8.chg hc9 fun e=>own_ne_blk ho8 hb8 (by decide) T e rfl,ho9⟩ (by simp;omega)
  have:=h8.keepB hlt hB9
  rwa [show at_+14+3*i+3=at_+14+3*(i+1) by omega] at this
 have hl:=of_decide_eq_false hl
 have hid:i=d+4:=by omega
 subst hid
 have hle7:=h7.rdr.le
 rw [if_neg (by omega)] at st0
 obtain ⟨cl,hcl⟩:∃cl,cl=clens bs (at_+14) (d+4):=⟨_,rfl⟩
 rw [←hcl] at st0 ho7
 have hcl19:cl.length=19:=by rw [hcl,hclen]
 refine rNew_spec ho7.rd (fun hbad e he=>?_) (fun hok tg lo co w8 tab8 hB8=>?_)
 ·rw [if_pos hbad] at st0
  exact cond_t (by simpa using he) (bad _ _ st0 h7 t7)
 rw [if_neg hok] at st0
 refine cond_f rfl ?_
 have hB78:Below w.heap.size w7 w8:=hB8.mono hs7
 have h8:=h7.keepB hlt hB78
 have t8:=t7.keepB hB78
 have hs8:=t8.chg.size
 have tabK:∀{w2 w3:World} {tg lo co ls},w.heap.size≤w2.heap.size→RTab w3 w2.heap.size tg lo co ls→TabK w3 base out (tg,lo,co) ls:=fun {w2 w3 tg lo co ls} hle tab=>⟨tab.base (by omega),fun k hk e=>by
  have:=(tab.lo.lt k hk).1
  have:=hlt k (.inl (.inr (.inr e)))
  omega⟩
 have en:IntKind.i64.wrap ((IntKind.i64.wrap ((IntKind.i64.wrap ((IntKind.i64.wrap (a:Int))+(257:Int)))+(IntKind.i64.wrap (b:Int))))+(1:Int))=((a+257+b+1:Nat):Int):=by
  rw [wrap_nat .i64 (x:=a) (by show _<2^63;omega),wrap_nat .i64 (x:=b) (by show _<2^63;omega),wrap64_id (x:=(a:Int)+257) (by omega),wrap64_id (x:=(a:Int)+257+(b:Int)) (by omega),wrap64_id (by omega)]
  omega
 have en2:IntKind.i64.wrap ((IntKind.i64.wrap (a:Int))+(257:Int))=((a+257:Nat):Int):=by
  rw [wrap_nat .i64 (x:=a) (by show _<2^63;omega),wrap64_id (by omega)];rfl
 rw [en,en2]
 refine lengths_spec (t:=(tg,lo,co)) (n:=a+257+b+1) h8 (tabK hs7 tab8) (by omega) (by omega) (by omega) fun r e a9 w9 h9 t9 hmm=>?_
 have t09:=t8.trans t9
 rw [show at_+14+3*(d+4)=at_+14+3*(d+4) from rfl] at hmm
 cases hgo:lensGo cl bs (a+257+b+1) 400 (at_+14+3*(d+4)) [] with
 | short =>
  rw [hgo] at hmm st0
  have hmm:e=2:=hmm
  subst hmm
  exact cond_t rfl (short _ _ st0 h9 t09)
 | form =>
  rw [hgo] at hmm st0
  have hmm:e=3:=hmm
  subst hmm
  exact cond_t rfl (bad _ _ st0 h9 t09)
 | lens l a9' =>
  rw [hgo] at hmm st0
  obtain ⟨rfl,hol,rfl⟩:=hmm
  dsimp only at st0
  have hll:=lensGo_len cl bs _ _ _ _ hgo
  refine cond_f rfl ?_
  have hs9:=t09.chg.size
  have hln:=hol.rd.n
  refine hol.rd.slK (l:=0) (m:=a+257) rfl (.inl ⟨rfl,rfl⟩) (.inr rfl) (by omega) (by omega) fun hp1=>?_
  rw [List.drop_zero] at hp1
  refine rNew_spec hp1 (fun hbad e he=>?_) (fun hok1 tg1 lo1 co1 w10 tab10 hB10=>?_)
  ·rw [if_pos (.inl hbad)] at st0
   exact cond_t (by simpa using he) (bad _ _ st0 h9 t09)
  refine cond_f rfl ?_
  have hB9':Below w.heap.size w9 w10:=hB10.mono hs9
  have h10:=h9.keepB hlt hB9'
  have t10:=t09.keepB hB9'
  have hs10:=t10.chg.size
  have hol10:=hol.ext hB10
  refine hol10.rd.slK (l:=a+257) (m:=l.length) rfl (.inr rfl) (.inl ⟨rfl,rfl⟩) (by omega) (Nat.le_refl _) fun hp2=>?_
  rw [List.take_length] at hp2
  refine rNew_spec hp2 (fun hbad e he=>?_) (fun hok2 tg2 lo2 co2 w11 tab11 hB11=>?_)
  ·rw [if_pos (.inr (.inl hbad))] at st0
   refine joinP_of fun J3 _=>?_
   exact cond_t (by simpa using he) (bad _ _ st0 h10 t10)
  have hB10':Below w.heap.size w10 w11:=hB11.mono hs10
  have h11:=h10.keepB hlt hB10'
  have t11:=t10.keepB hB10'
  have hs11:=t11.chg.size
  have hol11:=hol10.ext hB11
  refine joinP_of fun J3 hJ3=>cond_f rfl ?_
  obtain ⟨x,hx,hxs⟩:=get_of (xs:=l) (k:=256) (by omega)
  have hgd:l.getD 256 0=x:=by rw [List.getD_eq_getElem?_getD,hx];rfl
  refine hol11.rd.ix (i:=256) rfl (by omega) (by omega) fun hc=>?_
  have hxs':∀h,l[((256:Int)).toNat]'h=x:=hxs
  rw [hxs'] at hc
  refine ldB8 (b:=x) hc ?_
  by_cases hx0:x=0
  ·rw [if_pos (.inr (.inr (by rw [hgd,hx0])))] at st0
   exact cond_t (by rw [hx0];rfl) (bad _ _ st0 h11 t11)
  rw [if_neg (fun hh=>by
   rcases hh with hh | hh | hh
   ·exact hok1 hh
   ·exact hok2 hh
   ·rw [hgd] at hh;exact hx0 hh)] at st0
  refine cond_f (beq_eq_false_iff_ne.2 fun e=>hx0 (UInt8.toNat.inj (by rw [show (0:UInt8).toNat=0 from rfl];omega))) (hJ3 _ _ ?_)
  have k1:=tabK hs9 (tab10.ext hB11)
  have k2:=tabK hs10 tab11
  refine codes_spec (c:={ c with mode:=4,sg:=l.take (a+257),ds:=l.drop (a+257) }) (t:=(tg1,lo1,co1)) (td:=(tg2,lo2,co2)) h11 k1 k2 rfl (by omega) fun e out' hist' a' w' h' t' r=>?_
  exact hK e out' hist' a' w' h' (t11.trans t') (.of_ch (.one st0) r)
end
end Go.Proofs.YtmagnpcgpinmcaaGreat
namespace Go.Proofs.YtmagnpcgpinmcaaGreat
open Go.Vc Go.RowKit
set_option maxRecDepth 400000
theorem fixed_at:∀i,i<288→fixedL[i]?=some (if i<144 then 8 else if i<256 then 9 else if i<280 then 7 else 8):=by decide +kernel
theorem fixed_good:goodTab fixedL∧¬badTab fixedL:=by
 have a:∀x∈fixedL,x.toNat≤15:=by decide +kernel
 have b:roomN fixedL=32768:=by decide +kernel
 refine ⟨⟨a,.inl b⟩,fun h=>?_⟩
 rcases h with (h | ⟨x,hx,hx15⟩) | h
 ·exact absurd h (by decide +kernel)
 ·have:=a x hx;omega
 ·exact h (.inl b)
theorem rHFixed_spec {w:World} {K:Slc→Slc→World→Prop} (hK:∀r q w',Own E_uint8 w' w.heap.size r fixedL→Own E_uint8 w' w.heap.size q (List.replicate 30 5)→Below w.heap.size w w'→K r q w'):c_q4_Fixed w K:=by
 refine call_q4_Fixed ?_
 unfold sh_q4_Fixed
 refine mkSl_of sT_sl_uint8 (x0:=(0:UInt8)) (n:=288) rfl rfl rfl (by rw [by_sl_uint8];omega) (by simp only [maxLen];omega) fun w1 ho1 hB1=>?_
 obtain ⟨t,ht⟩:∃t:Slc,t=⟨some ⟨w.heap.size,0,none⟩,288,288⟩:=⟨_,rfl⟩
 rw [←ht] at ho1 ⊢
 have hfl:fixedL.length=(List.replicate 288 (0:UInt8)).length:=by decide
 have hrl:(List.replicate 288 (0:UInt8)).length=288:=by decide
 refine loopP_rule (fun (s:Int×Unit) w2=>∃i:Nat,s.1=i∧i≤288∧Own E_uint8 w2 w.heap.size t (mix fixedL (List.replicate 288 0) i)∧Below w.heap.size w w2) (fun s=>288-s.1.toNat) ⟨0,rfl,by omega,by rw [mix_zero];exact ho1,hB1⟩ ?_
 rintro ⟨i,_⟩ w2 ⟨i,rfl,hi,ho2,hB2⟩ I hI
 dsimp only at *
 refine cond_of (fun hlt=>?_) (fun hge=>?_)
 ·have hlt:=of_decide_eq_true hlt
  have hi2:i<288:=by omega
  rw [wrap64_id (by omega)]
  have hf:=fixed_at i hi2
  have one:∀v:UInt8,fixedL[i]?=some v→ixK t (i:Int) 1 fun t19=>stK t19 [(.int .u8 (v.toNat:Int))] w2 fun w3=>I ((i:Int)+1,()) w3:=fun v hv=>by
   refine ho2.rd.ix (i:=(i:Int)) rfl (by omega) (by rw [mix_length hfl,hrl];omega) fun _=>?_
   refine ho2.st0 (x:=0) (y:=v) (by rw [show ((i:Int)).toNat=i from rfl,mix_get hfl (by rw [hrl];exact hi2),if_neg (by omega),List.getElem?_replicate,if_pos hi2]) rfl fun w3 ho3 hg3 hs3=>?_
   rw [show ((i:Int)).toNat=i from rfl,mix_set hfl (by rw [hrl];exact hi2) hv] at ho3
   have hc3:Chg (fun j=>t.blk=some j) w2 w3:=Chg.of_grown hg3 fun j hj=>hj
   exact hI _ _ ⟨i+1,rfl,by omega,ho3,hB2.trans (hc3.below hB2.size fun j hj e=>by have:=(ho2.lt j e).1;omega)⟩ (by simp;omega)
  refine cond_of (fun h1=>?_) (fun h1=>?_)
  ·have h1:=of_decide_eq_true h1
   rw [if_pos (by omega)] at hf
   exact one 8 hf
  ·have h1:=of_decide_eq_false h1
   rw [if_neg (by omega)] at hf
   refine cond_of (fun h2=>?_) (fun h2=>?_)
   ·have h2:=of_decide_eq_true h2
    rw [if_pos (by omega)] at hf
    exact one 9 hf
   ·have h2:=of_decide_eq_false h2
    rw [if_neg (by omega)] at hf
    refine cond_of (fun h3=>?_) (fun h3=>?_)
    ·have h3:=of_decide_eq_true h3
     rw [if_pos (by omega)] at hf
     exact one 7 hf
    ·have h3:=of_decide_eq_false h3
     rw [if_neg (by omega)] at hf
     exact one 8 hf
 ·have hge:=of_decide_eq_false hge
  have:i=288:=by omega
  subst this
  have hm:=mix_all hfl
  rw [hrl] at hm
  rw [hm] at ho2
  refine mkSl_of sT_sl_uint8 (x0:=(0:UInt8)) (n:=30) rfl rfl rfl (by rw [by_sl_uint8];omega) (by simp only [maxLen];omega) fun w3 ho3 hB3=>?_
  obtain ⟨u,hu⟩:∃u:Slc,u=⟨some ⟨w2.heap.size,0,none⟩,30,30⟩:=⟨_,rfl⟩
  rw [←hu] at ho3 ⊢
  have hfl:(List.replicate 30 (5:UInt8)).length=(List.replicate 30 (0:UInt8)).length:=by decide
  have hrl:(List.replicate 30 (0:UInt8)).length=30:=by decide
  refine loopP_rule (fun (s:Int×Unit) w4=>∃i:Nat,s.1=i∧i≤30∧Own E_uint8 w4 w2.heap.size u (mix (List.replicate 30 5) (List.replicate 30 0) i)∧Below w2.heap.size w2 w4) (fun s=>30-s.1.toNat) ⟨0,rfl,by omega,by rw [mix_zero];exact ho3,hB3⟩ ?_
  rintro ⟨i,_⟩ w4 ⟨i,rfl,hi,ho4,hB4⟩ I hI
  dsimp only at *
  refine cond_of (fun hlt=>?_) (fun hge=>?_)
  ·have hlt:=of_decide_eq_true hlt
   have hi2:i<30:=by omega
   rw [wrap64_id (by omega)]
   refine ho4.rd.ix (i:=(i:Int)) rfl (by omega) (by rw [mix_length hfl,hrl];omega) fun _=>?_
   refine ho4.st0 (x:=0) (y:=5) (by rw [show ((i:Int)).toNat=i from rfl,mix_get hfl (by rw [hrl];exact hi2),if_neg (by omega),List.getElem?_replicate,if_pos hi2]) rfl fun w5 ho5 hg5 hs5=>?_
   rw [show ((i:Int)).toNat=i from rfl,mix_set hfl (by rw [hrl];exact hi2) (by rw [List.getElem?_replicate,if_pos hi2])] at ho5
   have hc5:Chg (fun j=>u.blk=some j) w4 w5:=Chg.of_grown hg5 fun j hj=>hj
   exact hI _ _ ⟨i+1,rfl,by omega,ho5,hB4.trans (hc5.below hB4.size fun j hj e=>by have:=(ho4.lt j e).1;omega)⟩ (by simp;omega)
  ·have hge:=of_decide_eq_false hge
   have:i=30:=by omega
   subst this
   have hm:=mix_all hfl
   rw [hrl] at hm
   rw [hm] at ho4
   exact hK t u w4 (ho2.ext hB4) (ho4.base hB2.size) (hB2.trans (hB4.mono hB2.size))
end Go.Proofs.YtmagnpcgpinmcaaGreat
namespace Go.Proofs.YtmagnpcgpinmcaaGreat
open Go.Vc Go.RowKit
set_option maxRecDepth 400000
theorem RRes.le {most:Nat} {bs:List UInt8} {c:Cfg} {a m':Nat} {e:Int} {a':Nat} {hist':List UInt8} (h:RRes most bs c a m' e a' hist') (ha:a≤8*bs.length) (he:e=0):a≤a':=by
 rcases h with ⟨_,c',h1,_,_⟩ | ⟨c',a'',n,h1,h2,h3,_⟩
 ·exact (h1.le ha).2.1
 ·exfalso
  rcases h2 with ⟨_,_,rfl⟩ | ⟨_,hn⟩
  ·omega
  ·omega
section
variable {w w':World} {base g rg:Nat} {s out:Slc} {bs:List UInt8} {most at_:Nat}
theorem five_good:goodTab fiveL∧¬badTab fiveL:=by
 have a:∀x∈fiveL,x.toNat≤15:=by decide +kernel
 have b:roomN fiveL=32768:=by decide +kernel
 refine ⟨⟨a,.inl b⟩,fun h=>?_⟩
 rcases h with (h | ⟨x,hx,hx15⟩) | h
 ·exact absurd h (by decide +kernel)
 ·have:=a x hx;omega
 ·exact h (.inl b)
theorem rblock_spec {c:Cfg} {K:Bool→Int→World→Prop} (h:RSt w base g rg s out bs c.hist most at_) (hm:c.mode=0) (hbase:base≤w.heap.size)
  (hK:∀(last:Bool) (e:Int) out' hist' a' w',RSt w' base g rg s out' bs hist' most a'→RTo w w' g rg out out'→RRes most bs c at_ (if last then 5 else 0) e a' hist'→(e=0→at_+3≤a')→K last e w'):c_q5_state_block (some ⟨g,0,none⟩) w K:=by
 refine call_q5_state_block _ ?_
 unfold sh_q5_state_block
 simp only [onPtr_some]
 have hpre:c.hist <+: c.hist:=List.prefix_refl _
 have st0:step1 most bs at_ c=stepHead bs at_ c:=by rw [step1,if_neg (by omega),stepN,if_pos hm]
 unfold stepHead at st0
 have hlt:=h.lt hbase
 refine ldP_of (x:=some ⟨rg,0,none⟩) (h.blk.cells 0 _ rfl) ?_
 refine sBits_spec (n:=1) h (by decide) (fun hf1 w1 h1 t1=>?_) (fun hs1 w1 h1 t1=>?_)
 rotate_left
 ·rw [if_pos (by omega)] at st0
  exact cond_t rfl (hK false 2 _ _ _ _ h1 t1 (RRes.short st0 (by omega) hpre) fun e=>by omega)
 refine cond_f rfl ?_
 refine ldP_of (x:=some ⟨rg,0,none⟩) (h1.blk.cells 0 _ rfl) ?_
 refine sBits_spec (n:=2) h1 (by decide) (fun hf2 w2 h2 t2=>?_) (fun hs2 w2 h2 t2=>?_)
 rotate_left
 ·rw [if_pos (by omega)] at st0
  exact cond_t rfl (hK false 2 _ _ _ _ h2 (t1.trans t2) (RRes.short st0 (by omega) hpre) fun e=>by omega)
 refine cond_f rfl ?_
 have t02:=t1.trans t2
 rw [if_neg (by omega)] at st0
 dsimp only at st0
 have ev1:peekN bs at_ 3%2=peekN bs at_ 1:=peekN_mod bs at_ 1 3 (by decide)
 have ev2:peekN bs at_ 3/2=peekN bs (at_+1) 2:=by
  have:=peekN_div bs at_ 1 3 (by decide)
  rwa [Nat.pow_one] at this
 rw [ev1,ev2] at st0
 have p1:=peekN_lt bs at_ 1
 have p2:=peekN_lt bs (at_+1) 2
 obtain ⟨v,hv⟩:∃v,v=peekN bs at_ 1:=⟨_,rfl⟩
 obtain ⟨k,hk⟩:∃k,k=peekN bs (at_+1) 2:=⟨_,rfl⟩
 rw [←hv] at p1 st0 ⊢
 rw [←hk] at p2 st0 ⊢
 rw [show at_+1+2=at_+3 by omega] at h2 hf2
 have el:((v:Int)==(1:Int))=(v==1):=by
  cases hh:(v==1) with
  | true=>rw [eq_of_beq hh];rfl
  | false=>exact beq_eq_false_iff_ne.2 (by have:=beq_eq_false_iff_ne.1 hh;omega)
 rw [el]
 have hs02:=t02.chg.size
 have go:∀(c1:Cfg),step1 most bs at_ c=.next c1 (at_+3)→c1.last=(v==1)→∀{w3:World},RTo w w3 g rg out out→∀(e:Int) out' hist' a' w',RSt w' base g rg s out' bs hist' most a'→RTo w3 w' g rg out out'→RRes most bs c1 (at_+3) (if c1.last then 5 else 0) e a' hist'→K (v==1) e w':=fun c1 hst hla {w3} t3 e out' hist' a' w' h' t' r=>by
  rw [hla] at r
  exact hK (v==1) e out' hist' a' w' h' (t3.trans t') (.of_ch (.one hst) r) fun e0=>r.le hf2 e0
 by_cases k0:k=0
 ·refine cond_t (by rw [k0];rfl) ?_
  rw [if_pos k0] at st0
  exact rstored_spec (c:={ c with last:=v==1,mode:=1 }) h2 rfl (by omega) fun e out' hist' a' w' h' t' r=>go _ st0 rfl t02 e out' hist' a' w' h' t' r
 rw [if_neg k0] at st0
 refine cond_f (beq_eq_false_iff_ne.2 (by omega)) ?_
 by_cases k1:k=1
 ·refine cond_t (by rw [k1];rfl) ?_
  rw [if_pos k1] at st0
  refine rHFixed_spec fun q6 q7 w3 ho3 _ hB3=>?_
  refine rNew_spec ho3.rd (fun hh=>absurd hh fixed_good.2) fun _ tg lo co w4 tab4 hB4=>?_
  have hs3:=hB3.size
  have hB24:Below w2.heap.size w2 w4:=hB3.trans (hB4.mono hs3)
  have hs4:=hB24.size
  refine mkSl_of sT_sl_uint8 (x0:=(0:UInt8)) (n:=32) rfl rfl rfl (by rw [by_sl_uint8];omega) (by simp only [maxLen];omega) fun w5 ho5 hB5=>?_
  obtain ⟨u,hu⟩:∃u:Slc,u=⟨some ⟨w4.heap.size,0,none⟩,32,32⟩:=⟨_,rfl⟩
  rw [←hu] at ho5 ⊢
  have hfl:(List.replicate 32 (5:UInt8)).length=(List.replicate 32 (0:UInt8)).length:=by decide
  have hrl:(List.replicate 32 (0:UInt8)).length=32:=by decide
  refine loopP_rule (fun (t:Int×Unit) w6=>∃i:Nat,t.1=i∧i≤32∧Own E_uint8 w6 w4.heap.size u (mix (List.replicate 32 5) (List.replicate 32 0) i)∧Below w4.heap.size w4 w6) (fun t=>32-t.1.toNat) ⟨0,rfl,by omega,by rw [mix_zero];exact ho5,hB5⟩ ?_
  rintro ⟨i,_⟩ w6 ⟨i,rfl,hi,ho6,hB6⟩ I hI
  dsimp only at *
  refine cond_of (fun hlt6=>?_) (fun hge=>?_)
  ·have hlt6:=of_decide_eq_true hlt6
   have hi2:i<32:=by omega
   rw [wrap64_id (by omega)]
   refine ho6.rd.ix (i:=(i:Int)) rfl (by omega) (by rw [mix_length hfl,hrl];omega) fun _=>?_
   refine ho6.st0 (x:=0) (y:=5) (by rw [show ((i:Int)).toNat=i from rfl,mix_get hfl (by rw [hrl];exact hi2),if_neg (by omega),List.getElem?_replicate,if_pos hi2]) rfl fun w7 ho7 hg7 hs7=>?_
   rw [show ((i:Int)).toNat=i from rfl,mix_set hfl (by rw [hrl];exact hi2) (by rw [List.getElem?_replicate,if_pos hi2])] at ho7
   have hc7:Chg (fun j=>u.blk=some j) w6 w7:=Chg.of_grown hg7 fun j hj=>hj
   exact hI _ _ ⟨i+1,rfl,by omega,ho7,hB6.trans (hc7.below hB6.size fun j hj e=>by have:=(ho6.lt j e).1;omega)⟩ (by simp;omega)
  ·have hge:=of_decide_eq_false hge
   have:i=32:=by omega
   subst this
   have hm6:=mix_all hfl
   rw [hrl] at hm6
   rw [hm6] at ho6
   have hs6:=hB6.size
   have ho6':Rd E_uint8 w6 u fiveL:=ho6.rd
   refine rNew_spec ho6' (fun hh=>absurd hh five_good.2) fun _ tg2 lo2 co2 w8 tab8 hB8=>?_
   have hB48:Below w4.heap.size w4 w8:=hB6.trans (hB8.mono hs6)
   have hB28:Below w.heap.size w2 w8:=(hB24.trans (hB48.mono hs4)).mono hs02
   have h8:=h2.keepB hlt hB28
   have t8:=t02.keepB hB28
   have hs8:=hB28.size
   have tabK:∀{b:Nat} {tg lo co ls},w.heap.size≤b→RTab w8 b tg lo co ls→TabK w8 base out (tg,lo,co) ls:=fun {b tg lo co ls} hle tab=>⟨tab.base (by omega),fun k hk e=>by
    have:=(tab.lo.lt k hk).1
    have:=hlt k (.inl (.inr (.inr e)))
    omega⟩
   have k1:=tabK (by omega) (tab4.ext hB48)
   have k2:=tabK (by omega) tab8
   exact codes_spec (c:={ c with last:=v==1,mode:=4,sg:=fixedL,ds:=fiveL }) (t:=(tg,lo,co)) (td:=(tg2,lo2,co2)) h8 k1 k2 rfl (by omega) fun e out' hist' a' w' h' t' r=>go _ st0 rfl t8 e out' hist' a' w' h' t' r
 rw [if_neg k1] at st0
 refine cond_f (beq_eq_false_iff_ne.2 (by omega)) ?_
 by_cases k2:k=2
 ·refine cond_t (by rw [k2];rfl) ?_
  rw [if_pos k2] at st0
  exact rdynamic_spec (c:={ c with last:=v==1,mode:=3 }) h2 rfl (by omega) fun e out' hist' a' w' h' t' r=>go _ st0 rfl t02 e out' hist' a' w' h' t' r
 ·rw [if_neg k2] at st0
  exact cond_f (beq_eq_false_iff_ne.2 (by omega)) (hK false 3 _ _ _ _ h2 t02 (RRes.err st0 (by decide) rfl hpre) fun e=>by omega)
end
def RFront (most:Nat) (bs:List UInt8) (e u:Int) (hist':List UInt8):Prop :=
 (e=0∧∃c' a',Ch most bs cfg0 0 c' a'∧c'.mode=5∧c'.hist=hist'∧u=(((a'+7)/8:Nat):Int)) ∨
 (u=0∧∃c' a'' n,Ch most bs cfg0 0 c' a''∧(step1 most bs a'' c'=.short∧c'.mode≠5∧n=2∨step1 most bs a'' c'=.err n∧n≠0)∧e=((n:Nat):Int)∧c'.hist <+: hist')
theorem rFront_spec {w:World} {b:Slc} {bs:List UInt8} {most:Nat} {K:Slc→Int→Int→World→Prop} (hb:Rd E_uint8 w b bs) (hbl:∀k,b.blk=some k→k<w.heap.size) (hl:bs.length≤1000000000) (hm:most≤1073741824)
  (hK:∀o u e hist' w',RFront most bs e u hist'→hist'.length≤most→Own E_uint8 w' w.heap.size o hist'→Below w.heap.size w w'→K o u e w'):c_q5_Front b (most:Int) w K:=by
 refine call_q5_Front _ _ ?_
 unfold sh_q5_Front
 refine nw_blk fun w1 hb1 hB1 hs1=>?_
 obtain ⟨rg,hrg⟩:∃rg,rg=w.heap.size:=⟨_,rfl⟩
 refine nw_blk fun w2 hb2 hB2 hs2=>?_
 obtain ⟨g,hg⟩:∃g,g=w1.heap.size:=⟨_,rfl⟩
 rw [←hrg] at hb1 hb2
 rw [←hg] at hb2 ⊢
 have hB02:Below w.heap.size w w2:=hB1.trans (hB2.mono (by omega))
 have h2:RSt w2 w.heap.size g rg b nilS bs (cfg0).hist most 0:=⟨hb2,⟨hb1.ext hB2,hb.ext hB02,fun k hk=>by have:=hbl k hk;omega,Nat.zero_le _,hl⟩,Own.nil _ _ _,by omega,by omega,fun k hk=>hbl k hk,Nat.zero_le _,hm⟩
 have hs02:=hB02.size
 refine loopP_rule_w (fun m (_:Unit) w3=>∃(out3:Slc) (c3:Cfg) (a3:Nat),m=8*bs.length-a3∧RSt w3 w.heap.size g rg b out3 bs c3.hist most a3∧Below w.heap.size w w3∧Ch most bs cfg0 0 c3 a3∧c3.mode=0) _ ⟨nilS,cfg0,0,rfl,h2,hB02,.refl _ _,rfl⟩ ?_
 rintro m _ w3 ⟨out3,c3,a3,rfl,h3,hB3,hch,hm3⟩ I hI
 have hs3:=hB3.size
 refine rblock_spec h3 hm3 hs3 fun last e out4 hist4 a4 w4 h4 t4 r hle=>?_
 have hB4:=hB3.trans (t4.below h3 hs3)
 have hs4:=hB4.size
 rcases r with ⟨rfl,c',hc',hmode,rfl⟩ | ⟨c',a'',n,hc',hst,rfl,hp⟩
 ·refine cond_f rfl ?_
  have hle3:=hle rfl
  have hle4:=h4.rdr.le
  cases last with
  | true =>
   refine cond_t rfl ?_
   have h4d:=h4.drew
   refine ldSl_of (x:=out4) (h4d.blk.cells 1 _ rfl) ?_
   refine ldP_of (x:=some ⟨rg,0,none⟩) (h4d.blk.cells 0 _ rfl) ?_
   rw [onPtr_some]
   refine ldI_of (x:=(a4:Int)) (h4d.rdr.blk.cells 1 _ rfl) ⟨by decide,?_⟩
   have eu:IntKind.i64.wrap ((IntKind.i64.wrap ((a4:Int)+(7:Int))).tdiv (8:Int))=(((a4+7)/8:Nat):Int):=by
    rw [wrap64_id (x:=(a4:Int)+7) (by omega),show (a4:Int)+7=((a4+7:Nat):Int) from rfl,show (8:Int)=((8:Nat):Int) from rfl,←Int.ofNat_tdiv,wrap64_id (by omega)]
   rw [eu]
   have hBd:Below w.heap.size w4 w4.drew:=((Below.refl _ w4).drew).mono hs4
   exact hK out4 _ 0 c'.hist _ (.inl ⟨rfl,c',a4,hch.trans hc',hmode,rfl,rfl⟩) h4.hm h4d.out (hB4.trans hBd)
  | false =>
   refine cond_f rfl ?_
   exact hI (8*bs.length-a4) _ w4 ⟨out4,c',a4,rfl,h4,hB4,hch.trans hc',hmode⟩ (by omega)
 ·have hn0:n≠0:=by
   rcases hst with ⟨_,_,rfl⟩ | ⟨_,hn⟩
   ·decide
   ·exact hn
  refine cond_t (by
           have:((n:Nat):Int)≠0:=by omega
           simpa using this) ?_
  refine ldSl_of (x:=out4) (h4.blk.cells 1 _ rfl) ?_
  exact hK out4 0 _ hist4 w4 (.inr ⟨rfl,c',a'',n,hch.trans hc',hst,rfl,hp⟩) h4.hm h4.out hB4
end Go.Proofs.YtmagnpcgpinmcaaGreat
namespace Go.Proofs.YtmagnpcgpinmcaaGreat
open Go.Vc Go.RowKit
set_option maxRecDepth 400000
end Go.Proofs.YtmagnpcgpinmcaaGreat
namespace Go.Proofs.YtmagnpcgpinmcaaGreat
open Go.Vc Go.RowKit
set_option maxRecDepth 400000
def isBody (fixed:Bool) (body bs:List UInt8):Prop:=(fixed=false→body=storeL bs)∧(fixed=true→le body=(fixedN bs).1∧body.length=((fixedN bs).2+7)/8)
theorem body_run {fixed:Bool} {body bs tail:List UInt8} {most:Nat} (h:isBody fixed body bs) (hm:bs.length≤most):∃c' p',Ch most (body++tail) cfg0 0 c' p'∧c'.mode=5∧c'.hist=bs∧(p'+7)/8=body.length:=by
 cases fixed with
 | true =>
  obtain ⟨h1,h2⟩:=h.2 rfl
  obtain ⟨c',hch,h5,hh⟩:=run_fixed (tail:=tail) h1 h2 hm
  exact ⟨c',_,hch,h5,hh,h2.symm⟩
 | false =>
  have h1:=h.1 rfl
  subst h1
  obtain ⟨c',hch,h5,hh⟩:=run_store (most:=most) (B:=storeL bs++tail) (tail:=tail) bs.length bs 0 cfg0 (Nat.le_refl _) (by simp) rfl (by show 0+bs.length≤_;omega)
  exact ⟨c',_,hch,h5,by rw [hh];rfl,by omega⟩
theorem body_le {fixed:Bool} {body bs:List UInt8} (h:isBody fixed body bs):body.length≤9*bs.length+20∧0<body.length:=by
 cases fixed with
 | true =>
  obtain ⟨h1,h2⟩:=h.2 rfl
  have:=fixedN_le bs
  have h3:3≤(bytesN bs).2:=(foldN_goes bs (3,3)).1
  have e:(fixedN bs).2=(bytesN bs).2+kN 256:=rfl
  omega
 | false =>
  have h1:=h.1 rfl
  subst h1
  have:=storeL_length _ bs (Nat.le_refl _)
  have hp:0<(storeL bs).length:=by
   rw [storeL]
   split<;>simp [headS]
  omega
theorem tail_at {c:Cfg} {p:Nat} {body s more:List UInt8} (h5:c.mode=5) (hp:(p+7)/8=body.length) (hs:s.length=4):tailL c p (body++(s++more))=s:=by
 rw [tailL,if_pos h5,hp,List.drop_left,List.take_append_of_le_length (by omega),List.take_of_length_le (by omega)]
theorem packed_drop (body s more:List UInt8):([120,1]++body++s++more).drop 2=body++(s++more):=by
 simp
theorem packed_head (body s more:List UInt8):headOK ([120,1]++body++s++more)=true:=by
 show (zh1 120 && zh2 120 1)=true
 decide
theorem zerr_of {body s more:List UInt8} {c:Cfg} {p:Nat} {bs:List UInt8} (h5:c.mode=5) (hp:(p+7)/8=body.length) (hs:s.length=4) (hh:c.hist=bs):zerr ([120,1]++body++s++more) c p .short=if bigN s=adlN bs then 0 else 4:=by
 rw [zerr.eq_def,packed_head,if_neg (by decide)]
 show zend _ c p=_
 rw [zend,packed_drop,tail_at h5 hp hs,if_pos hs,hh]
section
variable {w:World}
theorem big_inj {a b:List UInt8} (ha:a.length=4) (hb:b.length=4) (h:bigN a=bigN b):a=b:=by
 match a,ha,b,hb with
 | [a0,a1,a2,a3],_,[b0,b1,b2,b3],_ =>
  rw [big4,big4] at h
  have h0:=a0.toNat_lt
  have h1:=a1.toNat_lt
  have h2:=a2.toNat_lt
  have h3:=a3.toNat_lt
  have g0:=b0.toNat_lt
  have g1:=b1.toNat_lt
  have g2:=b2.toNat_lt
  have g3:=b3.toNat_lt
  rw [UInt8.toNat.inj (show a0.toNat=b0.toNat by omega),UInt8.toNat.inj (show a1.toNat=b1.toNat by omega),UInt8.toNat.inj (show a2.toNat=b2.toNat by omega),UInt8.toNat.inj (show a3.toNat=b3.toNat by omega)]
end
end Go.Proofs.YtmagnpcgpinmcaaGreat
namespace Go.Proofs.YtmagnpcgpinmcaaGreat
open Go.Vc Go.RowKit
set_option maxRecDepth 400000
theorem run_stops (most:Nat) (B:List UInt8):∀(n:Nat) (c:Cfg) (a:Nat),mu B c a≤n→a≤8*B.length→∃c1 a1 r,Ch most B c a c1 a1∧step1 most B a1 c1=r∧∀c a,r≠.next c a
 | n,c,a,hn,ha=>by
  cases h:step1 most B a c with
  | short=>exact ⟨c,a,_,.refl _ _,h,by intro _ _ e;cases e⟩
  | err m=>exact ⟨c,a,_,.refl _ _,h,by intro _ _ e;cases e⟩
  | next c2 a2 =>
   obtain ⟨h1,h2,h3⟩:=step1_next h ha
   cases n with
   | zero=>omega
   | succ n =>
    obtain ⟨c1,a1,r,hc,hs,hr⟩:=run_stops most B n c2 a2 (by omega) h1
    exact ⟨c1,a1,r,.step h hc,hs,hr⟩
theorem run_nil {most:Nat} {c1:Cfg} {a1:Nat} {r0:SR} (hch:Ch most [] cfg0 0 c1 a1) (hst:step1 most [] a1 c1=r0) (hr0:∀c a,r0≠.next c a):c1=cfg0∧a1=0∧r0=.short:=by
 have h0:step1 most ([]:List UInt8) 0 cfg0=.short:=rfl
 obtain ⟨rfl,rfl⟩:=(Ch.refl (most:=most) (bs:=[]) cfg0 0).same hch (by rw [h0];intro _ _ e;cases e) (by rw [hst];exact hr0)
 exact ⟨rfl,rfl,by rw [←hst];rfl⟩
theorem ne_nat {a b:Nat}:(((a:Nat):Int) !=((b:Nat):Int))=(a !=b):=by
 cases h:(a !=b) with
 | true=>exact bne_iff_ne.2 (by have:=bne_iff_ne.1 h;omega)
 | false =>
  have:a=b:=by simpa using h
  rw [this];simp
section
variable {w:World}
theorem rzFront_rest {b:Slc} {x y:UInt8} {ys:List UInt8} {most:Nat} {c1:Cfg} {a1:Nat} {r0:SR} {K:Slc→Int→Int→World→Prop} (hm:most≤1073741824) (hb:Rd E_uint8 w b (x::y::ys)) (hbl:∀k,b.blk=some k→k<w.heap.size) (hl:ys.length≤999999990)
  (hch:Ch most ys cfg0 0 c1 a1) (hst:step1 most ys a1 c1=r0) (hr0:∀c a,r0≠.next c a) (hhd:headOK (x::y::ys)=true)
  (hK1:zerr (x::y::ys) c1 a1 r0=0→∀o w',Own E_uint8 w' w.heap.size o c1.hist→Below w.heap.size w w'→K o ((6+(a1+7)/8:Nat):Int) 0 w')
  (hK2:∀n,zerr (x::y::ys) c1 a1 r0=n→n≠0→∀o w',Below w.heap.size w w'→K o 0 n w') :
   slK b (some 2) none 1 fun t51 =>
      c_q5_Front t51 most w fun t53 t53_1 t53_2 w3 =>
      cond (t53_2 !=(0:Int))
       (K t53 0 t53_2 w3)
       (cond (decide (((b.n:Nat):Int)<(IntKind.i64.wrap ((6:Int)+t53_1))))
         (K t53 0 2 w3)
         (
         c_q2_Adler t53 w3 fun t68 w4 =>
         slK b (some (IntKind.i64.wrap ((2:Int)+t53_1))) none 1 fun t72 =>
         joinP (σ:=Unit) (fun s_2 w5 =>
          K t53 (IntKind.i64.wrap ((6:Int)+t53_1)) 0 w5) fun J3 =>
         joinP (σ:=Bool×Unit) (fun s_3 w6 =>
          cond s_3.1
           (K t53 0 4 w6)
           (J3 (()) w6)) fun J4 =>
         0≤(24:Int) ∧
         ixK t72 0 1 fun t77 =>
         ldI .u8 t77 w4 fun t78 =>
         cond ((IntKind.u8.wrap (t68.fdiv (2^(min (24:Int).toNat IntKind.u32.bits)))) !=t78)
          (J4 (true,()) w4)
          (
           0≤(16:Int) ∧
           ixK t72 1 1 fun t85 =>
           ldI .u8 t85 w4 fun t86 =>
           cond ((IntKind.u8.wrap (t68.fdiv (2^(min (16:Int).toNat IntKind.u32.bits)))) !=t86)
            (J4 (true,()) w4)
            (
            0≤(8:Int) ∧
            ixK t72 2 1 fun t94 =>
            ldI .u8 t94 w4 fun t95 =>
            cond ((IntKind.u8.wrap (t68.fdiv (2^(min (8:Int).toNat IntKind.u32.bits)))) !=t95)
             (J4 (true,()) w4)
             (
              ixK t72 3 1 fun t102 =>
              ldI .u8 t102 w4 fun t103 =>
              J4 (((IntKind.u8.wrap t68) !=t103),()) w4))))):=by
 have hyl:(x::y::ys).length=ys.length+2:=rfl
 have hys:(x::y::ys).drop 2=ys:=rfl
 have hbn:=hb.n
 refine hb.slK (l:=2) (m:=(x::y::ys).length) rfl (.inr rfl) (.inl ⟨rfl,rfl⟩) (by omega) (Nat.le_refl _) fun hp=>?_
 rw [List.take_length,hys] at hp
 obtain ⟨q,hq⟩:∃q:Slc,q=⟨cut b.a 2 b.c E_uint8.k,(x::y::ys).length-2,b.c-2⟩:=⟨_,rfl⟩
 rw [←hq] at hp ⊢
 have hqb:∀k,q.blk=some k→k<w.heap.size:=fun k hk=>by
  rw [hq] at hk
  obtain ⟨a,ha,rfl⟩:=slk.1 hk
  obtain ⟨a',ha',e⟩:=cut_block ha
  rw [e]
  exact hbl _ (slk.2 ⟨a',ha',rfl⟩)
 refine rFront_spec hp hqb (by omega) hm fun o u e hist' w1 hfr hhl ho hB1=>?_
 have ehd:¬headOK (x::y::ys)=false:=by rw [hhd];decide
 rcases hfr with ⟨rfl,c',a',hch2,h5,rfl,rfl⟩ | ⟨rfl,c',a'',n,hch2,hst2,rfl,hpx⟩
 ·obtain ⟨rfl,rfl⟩:=hch.same hch2 (by rw [hst];exact hr0) (by rw [step1_five h5];intro _ _ e;cases e)
  have hr:r0=.short:=by rw [←hst,step1_five h5]
  subst hr
  have hal:=(hch.le (Nat.zero_le _)).1
  obtain ⟨v,hv⟩:∃v,v=(a1+7)/8:=⟨_,rfl⟩
  rw [←hv] at hK1 ⊢
  refine cond_f rfl ?_
  rw [wrap64_id (x:=(6:Int)+(v:Int)) (by omega),wrap64_id (x:=(2:Int)+(v:Int)) (by omega)]
  have ez:zerr (x::y::ys) c1 a1 .short=zend (x::y::ys) c1 a1:=by rw [zerr.eq_def,if_neg ehd]
  have etl:tailL c1 a1 ((x::y::ys).drop 2)=(ys.drop v).take 4:=by rw [tailL,if_pos h5,hys,hv]
  rw [hbn]
  by_cases hsh:ys.length<v+4
  ·have hz:zerr (x::y::ys) c1 a1 .short=2:=by
    rw [ez,zend,if_neg]
    rw [etl,List.length_take,List.length_drop]
    omega
   exact cond_t (decide_eq_true (by omega)) (hK2 2 hz (by decide) o w1 hB1)
  refine cond_f (decide_eq_false (by omega)) ?_
  have h4:((ys.drop v).take 4).length=4:=by rw [List.length_take,List.length_drop];omega
  refine rAdler_spec ho.rd (by omega) ?_
  have hb1:=hb.ext hB1
  refine hb1.slK (l:=2+v) (m:=(x::y::ys).length) rfl (.inr rfl) (.inl ⟨rfl,rfl⟩) (by omega) (Nat.le_refl _) fun hp2=>?_
  have ed:(x::y::ys).drop (2+v)=ys.drop v:=by rw [←List.drop_drop,hys]
  rw [List.take_length,ed] at hp2
  obtain ⟨x0,x1,x2,x3,zs,ex⟩:∃x0 x1 x2 x3 zs,ys.drop v=x0::x1::x2::x3::zs:=by
   have:4≤(ys.drop v).length:=by rw [List.length_drop];omega
   match ys.drop v,this with
   | x0::x1::x2::x3::zs,_=>exact ⟨x0,x1,x2,x3,zs,rfl⟩
  have etl4:tailL c1 a1 ((x::y::ys).drop 2)=[x0,x1,x2,x3]:=by rw [etl,ex];rfl
  rw [ex] at hp2
  have hzl:(x0::x1::x2::x3::zs).length=zs.length+4:=rfl
  have hsum:=adlN_lt c1.hist
  obtain ⟨S,hS⟩:∃S,S=adlN c1.hist:=⟨_,rfl⟩
  rw [←hS] at hsum ⊢
  have hz:zerr (x::y::ys) c1 a1 .short=if [x0,x1,x2,x3]=be4 S then 0 else 4:=by
   rw [ez,zend,etl4,if_pos (show [x0,x1,x2,x3].length=4 from rfl),←hS]
   by_cases hh:[x0,x1,x2,x3]=be4 S
   ·rw [if_pos hh,hh,if_pos (big_be4 hsum)]
   ·rw [if_neg hh,if_neg fun e=>hh (big_inj rfl rfl (by rw [e,big_be4 hsum]))]
  refine joinP_of fun J3 hJ3=>?_
  refine joinP_of fun J4 hJ4=>?_
  rw [show (6:Int)+(v:Int)=((6+v:Nat):Int) by omega] at hJ3
  have no:[x0,x1,x2,x3]≠be4 S→J4 (true,()) w1:=fun hne=>hJ4 _ _ (cond_t rfl (hK2 4 (by rw [hz,if_neg hne]) (by decide) o w1 hB1))
  have yes:[x0,x1,x2,x3]=be4 S→J4 (false,()) w1:=fun he=>hJ4 _ _ (cond_f rfl (hJ3 _ _ (hK1 (by rw [hz,if_pos he]) o w1 ho hB1)))
  rw [show min ((24:Int)).toNat IntKind.u32.bits=24 by decide,show min ((16:Int)).toNat IntKind.u32.bits=16 by decide,show min ((8:Int)).toNat IntKind.u32.bits=8 by decide,fdiv_nat,fdiv_nat,fdiv_nat,wrap8_of,wrap8_of,wrap8_of,wrap8_of]
  have ne:∀{p:UInt8} {n:Nat},(((((UInt8.ofNat n).toNat:Nat):Int)) !=((p.toNat:Nat):Int))=true→UInt8.ofNat n≠p:=fun {p n} h e=>by rw [e] at h;simp at h
  have eq:∀{p:UInt8} {n:Nat},(((((UInt8.ofNat n).toNat:Nat):Int)) !=((p.toNat:Nat):Int))=false→UInt8.ofNat n=p:=fun {p n} h=>UInt8.toNat.inj (by rw [ne_nat] at h;simpa using h)
  refine ⟨by decide,?_⟩
  refine hp2.ix (i:=0) rfl (by omega) (by omega) fun hc=>ldB8 (b:=x0) hc ?_
  refine cond_of (fun h0=>no fun e=>?_) (fun h0=>⟨by decide,?_⟩)
  ·injection e with e _;exact ne h0 e.symm
  refine hp2.ix (i:=1) rfl (by omega) (by omega) fun hc=>ldB8 (b:=x1) hc ?_
  refine cond_of (fun h1=>no fun e=>?_) (fun h1=>⟨by decide,?_⟩)
  ·injection e with _ e;injection e with e _;exact ne h1 e.symm
  refine hp2.ix (i:=2) rfl (by omega) (by omega) fun hc=>ldB8 (b:=x2) hc ?_
  refine cond_of (fun h2=>no fun e=>?_) (fun h2=>?_)
  ·injection e with _ e;injection e with _ e;injection e with e _;exact ne h2 e.symm
  refine hp2.ix (i:=3) rfl (by omega) (by omega) fun hc=>ldB8 (b:=x3) hc ?_
  cases h3:((((UInt8.ofNat S).toNat:Nat):Int) !=((x3.toNat:Nat):Int)) with
  | true=>exact no fun e=>by injection e with _ e;injection e with _ e;injection e with _ e;injection e with e _;exact ne h3 e.symm
  | false=>exact yes (by unfold be4;rw [eq h0,eq h1,eq h2,eq h3])
 ·obtain ⟨rfl,rfl⟩:=hch.same hch2 (by rw [hst];exact hr0) (by
   rcases hst2 with ⟨e,_⟩ | ⟨e,_⟩
   ·rw [e];intro _ _ e;cases e
   ·rw [e];intro _ _ e;cases e)
  have hn0:n≠0:=by
   rcases hst2 with ⟨_,_,rfl⟩ | ⟨_,hn⟩
   ·decide
   ·exact hn
  refine cond_t (by
           have:((n:Nat):Int)≠0:=by omega
           simpa using this) (hK2 n ?_ hn0 o w1 hB1)
  rw [zerr.eq_def,if_neg ehd]
  rcases hst2 with ⟨e,hm5,rfl⟩ | ⟨e,_⟩
  ·rw [hst] at e
   subst e
   show zend _ _ _=2
   rw [zend,if_neg]
   rw [tailL,if_neg hm5]
   decide
  ·rw [hst] at e
   subst e
   rfl
theorem rzFront_spec {b:Slc} {bs:List UInt8} {most:Nat} {c1:Cfg} {a1:Nat} {r0:SR} {K:Slc→Int→Int→World→Prop} (hm:most≤1073741824) (hb:Rd E_uint8 w b bs) (hbl:∀k,b.blk=some k→k<w.heap.size) (hl:bs.length≤999999990)
  (hch:Ch most (bs.drop 2) cfg0 0 c1 a1) (hst:step1 most (bs.drop 2) a1 c1=r0) (hr0:∀c a,r0≠.next c a)
  (hK1:zerr bs c1 a1 r0=0→∀o w',Own E_uint8 w' w.heap.size o c1.hist→Below w.heap.size w w'→K o ((6+(a1+7)/8:Nat):Int) 0 w')
  (hK2:∀n,zerr bs c1 a1 r0=n→n≠0→∀o w',Below w.heap.size w w'→K o 0 n w'):c_q6_Front b most w K:=by
 refine call_q6_Front _ _ ?_
 unfold sh_q6_Front
 have hBd:Below w.heap.size w w.drew:=(Below.refl _ w).drew
 have hbn:=hb.n
 match bs with
 | [] =>
  have hbn:b.n=0:=hbn
  obtain ⟨rfl,rfl,rfl⟩:=run_nil hch hst hr0
  rw [hbn]
  exact cond_t rfl (hK2 2 rfl (by decide) _ _ (Below.refl _ _))
 | x::xs =>
  have hxl:(x::xs).length=xs.length+1:=rfl
  have hx8:=x.toNat_lt
  refine cond_f (beq_eq_false_iff_ne.2 (by omega)) ?_
  refine joinP_of fun J1 hJ1=>?_
  refine joinP_of fun J6 hJ6=>?_
  refine hb.ix (i:=0) rfl (by omega) (by omega) fun hc=>ldB8 (b:=x) hc ⟨by decide,?_⟩
  have no:zh1 x=false→J6 (true,()) w:=fun hz=>hJ6 _ _ (cond_t rfl (hK2 3 (by
   rw [zerr.eq_def,if_pos]
   match xs with
   | []=>exact hz
   | y::ys=>show (zh1 x && zh2 x y)=false;rw [hz,Bool.false_and]) (by decide) _ _ (Below.refl _ _)))
  have yes:zh1 x=true→J6 (false,()) w:=fun hz=>hJ6 _ _ (cond_f rfl (hJ1 _ _ (by
   clear hJ6 no hJ1
   match xs with
   | [] =>
    have hbn:b.n=1:=hbn
    obtain ⟨rfl,rfl,rfl⟩:=run_nil hch hst hr0
    rw [hbn]
    refine cond_t rfl (hK2 2 ?_ (by decide) _ _ (Below.refl _ _))
    rw [zerr.eq_def,if_neg (by show ¬zh1 x=false;rw [hz];decide)]
    rfl
   | y::ys =>
    have hy8:=y.toNat_lt
    have hyl:(x::y::ys).length=ys.length+2:=rfl
    refine cond_f (decide_eq_false (by omega)) ?_
    refine joinP_of fun J2 hJ2=>?_
    refine joinP_of fun J5 hJ5=>?_
    refine (hb.ext hBd).ix (i:=0) rfl (by omega) (by omega) fun hc=>ldB8 (b:=x) hc ?_
    refine (hb.ext hBd).ix (i:=1) rfl (by omega) (by omega) fun hc=>ldB8 (b:=y) hc ⟨by decide,?_⟩
    rw [wrap_nat .i64 (x:=x.toNat) (by show _<2^63;omega),wrap_nat .i64 (x:=y.toNat) (by show _<2^63;omega),show ((x.toNat:Nat):Int)*256=((x.toNat*256:Nat):Int) by omega,wrap_nat .i64 (x:=x.toNat*256) (by show _<2^63;omega),
     show ((x.toNat*256:Nat):Int)+((y.toNat:Nat):Int)=((x.toNat*256+y.toNat:Nat):Int) from rfl,wrap_nat .i64 (x:=x.toNat*256+y.toNat) (by show _<2^63;omega),show (31:Int)=((31:Nat):Int) from rfl,←Int.ofNat_tmod]
    have no5:zh2 x y=false→J5 (true,()) w.drew:=fun hz2=>hJ5 _ _ (cond_t rfl (hK2 3 (by
     rw [zerr.eq_def,if_pos]
     show (zh1 x && zh2 x y)=false
     rw [hz2,Bool.and_false]) (by decide) _ _ hBd))
    have yes5:zh2 x y=true→J5 (false,()) w.drew:=fun hz2=>hJ5 _ _ (cond_f rfl (hJ2 _ _ (by
     have hhd:headOK (x::y::ys)=true:=by show (zh1 x && zh2 x y)=true;rw [hz,hz2];rfl
     exact rzFront_rest hm (hb.ext hBd) (fun k hk=>hbl k hk) (by omega) hch hst hr0 hhd (fun h0 o w' ho hB=>hK1 h0 o w' ho (hBd.trans hB)) (fun n hn h0 o w' hB=>hK2 n hn h0 o w' (hBd.trans hB)))))
    unfold zh2 at no5 yes5
    cases h31:((x.toNat*256+y.toNat)%31==0) with
    | false =>
     have h31':=beq_eq_false_iff_ne.1 h31
     rw [h31,Bool.false_and] at no5
     exact cond_t (bne_iff_ne.2 (by omega)) (no5 rfl)
    | true =>
     have h31':=eq_of_beq h31
     rw [h31,Bool.true_and] at no5 yes5
     refine cond_f (by rw [h31'];rfl) ?_
     refine (hb.ext hBd).ix (i:=1) rfl (by omega) (by omega) fun hc=>ldB8 (b:=y) hc ?_
     rw [show (32:Int)=((32:Nat):Int) from rfl,bits_and .u8 (by show _<2^8;omega) (by decide)]
     cases h32:(y.toNat &&& 32==0) with
     | true =>
      rw [eq_of_beq h32]
      exact yes5 h32
     | false =>
      have:=no5 h32
      have e:(((y.toNat &&& 32:Nat):Int) !=(0:Int))=true:=bne_iff_ne.2 (by have:=beq_eq_false_iff_ne.1 h32;omega)
      rw [e]
      exact this)))
  unfold zh1 at no yes
  rw [show (16:Int)=((16:Nat):Int) from rfl,←Int.ofNat_tmod]
  cases h16:(x.toNat%16==8) with
  | false =>
   have h16':=beq_eq_false_iff_ne.1 h16
   rw [h16,Bool.false_and] at no
   exact cond_t (bne_iff_ne.2 (by omega)) (no rfl)
  | true =>
   have h16':=eq_of_beq h16
   rw [h16,Bool.true_and] at no yes
   refine cond_f (by rw [h16'];rfl) ?_
   refine hb.ix (i:=0) rfl (by omega) (by omega) fun hc=>ldB8 (b:=x) hc ⟨by decide,?_⟩
   rw [←Int.ofNat_tdiv,wrap_nat .u8 (x:=x.toNat/16) (by show _<2^8;omega)]
   by_cases h7:x.toNat/16≤7
   ·have:=yes (decide_eq_true h7)
    rw [show decide (((x.toNat/16:Nat):Int)>7)=false from decide_eq_false (by omega)]
    exact this
   ·have:=no (decide_eq_false h7)
    rw [show decide (((x.toNat/16:Nat):Int)>7)=true from decide_eq_true (by omega)]
    exact this
theorem rUnpack_spec {b:Slc} {bs:List UInt8} {most:Nat} {c1:Cfg} {a1:Nat} {r0:SR} {K:Slc→Int→Int→World→Prop} (hm:most≤1073741824) (hb:Rd E_uint8 w b bs) (hbl:∀k,b.blk=some k→k<w.heap.size) (hl:bs.length≤999999990)
  (hch:Ch most (bs.drop 2) cfg0 0 c1 a1) (hst:step1 most (bs.drop 2) a1 c1=r0) (hr0:∀c a,r0≠.next c a)
  (hK1:zerr bs c1 a1 r0=0→∀o w',Own E_uint8 w' w.heap.size o c1.hist→Below w.heap.size w w'→K o ((6+(a1+7)/8:Nat):Int) 0 w')
  (hK2:∀n,zerr bs c1 a1 r0=n→n≠0→∀w',Below w.heap.size w w'→K nilS 0 n w'):c_q6_Unpack b most w K:=by
 refine call_q6_Unpack _ _ ?_
 unfold sh_q6_Unpack
 refine joinP_of fun J1 hJ1=>?_
 refine joinP_of fun J2 hJ2=>?_
 refine cond_f (decide_eq_false (by omega)) (hJ2 _ _ (cond_f (decide_eq_false (by omega)) (hJ1 _ _ ?_)))
 exact rzFront_spec hm hb hbl hl hch hst hr0 (fun h0 o w' ho hB=>cond_f rfl (hK1 h0 o w' ho hB)) fun n hn h0 o w' hB=>cond_t (by
  have:((n:Nat):Int)≠0:=by omega
  simpa using this) (hK2 n hn h0 w' hB)
end
end Go.Proofs.YtmagnpcgpinmcaaGreat
set_option linter.unusedVariables false
namespace Go.Proofs.YtmagnpcgpinmcaaGreat
open Go.Vc
set_option maxRecDepth 400000
theorem unpack_ex (most:Nat) (bs:List UInt8):∃r:Cfg×Nat×SR,Ch most (bs.drop 2) cfg0 0 r.1 r.2.1∧step1 most (bs.drop 2) r.2.1 r.1=r.2.2∧∀c a,r.2.2≠.next c a:=by
 obtain ⟨c1,a1,r0,h1,h2,h3⟩:=run_stops most (bs.drop 2) _ cfg0 0 (Nat.le_refl _) (Nat.zero_le _)
 exact ⟨(c1,a1,r0),h1,h2,h3⟩
noncomputable def unRun (most:Nat) (bs:List UInt8):Cfg×Nat×SR:=Classical.choose (unpack_ex most bs)
theorem unRun_spec (most:Nat) (bs:List UInt8):Ch most (bs.drop 2) cfg0 0 (unRun most bs).1 (unRun most bs).2.1∧step1 most (bs.drop 2) (unRun most bs).2.1 (unRun most bs).1=(unRun most bs).2.2∧∀c a,(unRun most bs).2.2≠.next c a:=Classical.choose_spec (unpack_ex most bs)
noncomputable def unErr (most:Nat) (bs:List UInt8):Nat:=zerr bs (unRun most bs).1 (unRun most bs).2.1 (unRun most bs).2.2
noncomputable def unOut (most:Nat) (bs:List UInt8):List UInt8:=(unRun most bs).1.hist
noncomputable def unUsed (most:Nat) (bs:List UInt8):Nat:=6+((unRun most bs).2.1+7)/8
noncomputable def decF (F:FilL):Nat×Nat×Nat×List UInt8 :=
 if unErr (needP F.h) F.data≠0 then (unErr (needP F.h) F.data,0,0,[])
 else if (unOut (needP F.h) F.data).length<needP F.h∨unUsed (needP F.h) F.data<F.data.length then (3,0,0,[])
 else match pixelsP F (unOut (needP F.h) F.data) with
  | none=>(3,0,0,[])
  | some m=>(0,F.h.W.toNat,F.h.H.toNat,m)
noncomputable def decodeP (b:List UInt8) (pixels:Int):Nat×Nat×Nat×List UInt8 :=
 if (readAll b pixels).1≠0 then ((readAll b pixels).1,0,0,[]) else decF (readAll b pixels).2
def dsum (l:List ChL):Nat:=(l.map fun c=>c.data.length).sum
theorem chunkP_ok {b:List UInt8} {c:ChL} {n:Nat} (h:chunkP b=.ok c n):c.kind.length=4∧n=12+c.data.length∧n≤b.length∧c.kind.all letterP=true:=by
 unfold chunkP at h
 split at h
 ·cases h
 rename_i h1
 split at h
 ·cases h
 rename_i h2
 split at h
 ·cases h
 rename_i h3
 split at h
 ·cases h
 rename_i h4
 split at h
 ·cases h
 rename_i h5
 split at h
 ·cases h
 rename_i h6
 cases h
 refine ⟨by simp;omega,?_,by omega,?_⟩
 ·rw [List.length_drop,List.length_take]
  omega
 ·cases e:((b.take 8).drop 4).all letterP with
  | true=>rfl
  | false=>exact absurd e h4
theorem chunksF_facts (one:Bool):∀(f:Nat) (b:List UInt8),dsum (chunksF one f b).2≤b.length∧(∀c∈(chunksF one f b).2,c.kind.length=4)∧(chunksF one f b).2.length≤b.length∧((chunksF one f b).1=0→∃c l,(chunksF one f b).2=c::l)
 | 0,b=>⟨by simp [chunksF,dsum],by simp [chunksF],by simp [chunksF],fun h=>by cases h⟩
 | f+1,b=>by
  rw [chunksF]
  cases hc:chunkP b with
  | err n=>exact ⟨by simp [dsum],by simp,by simp,fun h=>absurd h (chunkP_err hc)⟩
  | ok c n =>
   obtain ⟨h1,h2,h3,_⟩:=chunkP_ok hc
   dsimp only
   split
   ·exact ⟨by simp [dsum];omega,by simp [h1],by simp;omega,fun _=>⟨c,[],rfl⟩⟩
   ·obtain ⟨i1,i2,i3,i4⟩:=chunksF_facts one f (b.drop n)
    rw [List.length_drop] at i1 i3
    refine ⟨?_,?_,?_,fun _=>⟨_,_,rfl⟩⟩
    ·unfold dsum at i1 ⊢
     rw [List.map_cons,List.sum_cons]
     omega
    ·intro d hd
     rcases List.mem_cons.1 hd with rfl | hd
     ·exact h1
     ·exact i2 d hd
    ·rw [List.length_cons];omega
theorem chunksP_facts (one:Bool) (b:List UInt8):dsum (chunksP one b).2≤b.length∧(∀c∈(chunksP one b).2,c.kind.length=4)∧(chunksP one b).2.length≤b.length∧((chunksP one b).1=0→∃c l,(chunksP one b).2=c::l):=by
 obtain ⟨i1,i2,i3,i4⟩:=chunksF_facts one b.length (b.drop 8)
 rw [List.length_drop] at i1 i3
 unfold chunksP
 split
 ·rename_i h
  exact ⟨by simp [dsum],by simp,by simp,fun e=>absurd e h⟩
 ·split
  ·rename_i h
   exact ⟨by simp [dsum],by simp,by simp,fun e=>absurd e h⟩
  ·rename_i h
   exact ⟨by dsimp only;omega,i2,by dsimp only;omega,fun _=>i4 (by omega)⟩
theorem takeP_len {F:FilL} {c:ChL} {n:Nat} (h:F.data.length≤n∧F.pal.length≤n∧F.tr.length≤n):(takeP F c).2.data.length≤n+c.data.length∧(takeP F c).2.pal.length≤n+c.data.length∧(takeP F c).2.tr.length≤n+c.data.length:=by
 obtain ⟨h1,h2,h3⟩:=h
 unfold takeP
 repeat' split
 all_goals (refine ⟨?_,?_,?_⟩<;>simp<;>omega)
theorem takeAll_len:∀(l:List ChL) (F:FilL) (n:Nat),F.data.length≤n∧F.pal.length≤n∧F.tr.length≤n→(takeAll F l).2.data.length≤n+dsum l∧(takeAll F l).2.pal.length≤n+dsum l∧(takeAll F l).2.tr.length≤n+dsum l
 | [],F,n,h=>by simp only [takeAll,dsum,List.map_nil,List.sum_nil];exact ⟨by omega,by omega,by omega⟩
 | c::l,F,n,h=>by
  have e:dsum (c::l)=c.data.length+dsum l:=by simp [dsum]
  rw [takeAll]
  split
  ·rw [e];exact ⟨by dsimp only;omega,by dsimp only;omega,by dsimp only;omega⟩
  ·obtain ⟨a,b,d⟩:=takeAll_len l (takeP F c).2 (n+c.data.length) (takeP_len h)
   rw [e]
   exact ⟨by omega,by omega,by omega⟩
theorem takeAll_ok:∀(l:List ChL) {F:FilL},FilOk F→(takeAll F l).1=0→FilOk (takeAll F l).2∧(takeAll F l).2.h=F.h
 | [],F,h,_=>⟨h,rfl⟩
 | c::l,F,h,h0=>by
  rw [takeAll] at h0 ⊢
  split at h0
  ·rename_i hn;exact absurd h0 hn
  ·rename_i hn
   obtain ⟨a,b⟩:=takeP_ok (c:=c) h (by omega)
   rw [if_neg hn]
   obtain ⟨a2,b2⟩:=takeAll_ok l a h0
   exact ⟨a2,b2.trans b⟩
theorem headP_ok {c:ChL} (h:(headP c).1=0):checkP (headP c).2=0:=by
 unfold headP at h ⊢
 split at h
 ·cases h
 ·rename_i h1
  split at h
  ·rename_i h2;exact absurd h h2
  ·rename_i h2
   rw [if_neg h1,if_neg h2]
   show checkP (headOf c.data)=0
   omega
theorem fil0_ok {h:T_png_Head} (hc:checkP h=0):FilOk (fil0 h):=⟨hc,(fun h=>by cases h),rfl⟩
structure ReadOk (b:List UInt8) (pixels:Int) (F:FilL):Prop where
 ok:FilOk F
 area:F.h.W*F.h.H≤pixels∧F.h.W*F.h.H≤67108864
 data:F.data.length≤b.length
 pal:F.pal.length≤b.length
 tr:F.tr.length≤b.length
theorem readAll_ok {b:List UInt8} {pixels:Int} (h:(readAll b pixels).1=0):ReadOk b pixels (readAll b pixels).2:=by
 obtain ⟨f1,f2,f3,f4⟩:=chunksP_facts false b
 unfold readAll at h ⊢
 cases hcp:chunksP false b with
 | mk e l =>
  rw [hcp] at h f1 f2 f3 f4
  match e,l with
  | 0,c::l =>
   replace h:(readCh c l pixels).1=0:=h
   show ReadOk b pixels (readCh c l pixels).2
   unfold readCh at h ⊢
   by_cases h1:(headP c).1≠0
   ·rw [if_pos h1] at h;exact absurd h h1
   rw [if_neg h1] at h ⊢
   by_cases h2:(headP c).2.W*(headP c).2.H>pixels∨(headP c).2.W*(headP c).2.H>67108864
   ·rw [if_pos h2] at h;cases h
   rw [if_neg h2] at h ⊢
   by_cases h3:(takeAll (fil0 (headP c).2) l).1≠0
   ·rw [if_pos h3] at h;exact absurd h h3
   rw [if_neg h3] at h ⊢
   split
   ·rename_i h4;rw [if_pos h4] at h;cases h
   ·obtain ⟨a,bb⟩:=takeAll_ok l (fil0_ok (headP_ok (c:=c) (by omega))) (by omega)
    obtain ⟨d1,d2,d3⟩:=takeAll_len l (fil0 (headP c).2) 0 ⟨Nat.le_refl _,Nat.le_refl _,Nat.le_refl _⟩
    have e:dsum (c::l)=c.data.length+dsum l:=by simp [dsum]
    replace f1:dsum (c::l)≤b.length:=f1
    rw [e] at f1
    refine ⟨a,?_,Nat.le_trans d1 (by omega),Nat.le_trans d2 (by omega),Nat.le_trans d3 (by omega)⟩
    rw [bb]
    show (headP c).2.W*(headP c).2.H≤pixels∧(headP c).2.W*(headP c).2.H≤67108864
    omega
  | 0,[]=>obtain ⟨c,l,hcl⟩:=f4 rfl;cases hcl
  | e+1,l=>cases h
theorem needP_le {h:T_png_Head} {W H:Nat} (ho:HeadOk h W H) {M:Nat} (hM:W*H≤M):needP h≤140*M:=by
 have hrow:∀w:Nat,1+rowB h w≤2+8*w:=by
  intro w
  unfold rowB rowP
  split
  ·omega
  ·rename_i hn
   simp only [not_or] at hn
   obtain ⟨h1,h2,h3,h4,h5⟩:=hn
   have hd:isDepthP h.Depth=true:=by cases e:isDepthP h.Depth with | true=>rfl | false=>exact absurd e h5
   have hdp:1≤h.Depth∧h.Depth≤16:=by
    unfold isDepthP at hd
    simp at hd
    omega
   have a1:0≤(w:Int)*(samplesOf h.Color:Int):=Int.mul_nonneg (by omega) (by omega)
   have a2:(w:Int)*(samplesOf h.Color:Int)≤(w:Int)*4:=Int.mul_le_mul_of_nonneg_left (by omega) (by omega)
   have a4:(w:Int)*(samplesOf h.Color:Int)*h.Depth≤(w:Int)*4*16:=Int.mul_le_mul a2 (by omega) (by omega) (by omega)
   omega
 have one:∀p:PassP,needL h (rowsOf W H p)≤20*M:=by
  intro p
  have hs:=sizeP_le p W H
  have key:∀(l:List Nat),((l.map fun y=>(p,y,(sizeP p W H).1)).map fun r=>1+rowB h r.2.2).sum≤l.length*(2+8*W):=by
   intro l
   induction l with
   | nil=>simp
   | cons y l ih =>
    rw [List.map_cons,List.map_cons,List.sum_cons,List.length_cons,Nat.add_mul]
    have:=hrow (sizeP p W H).1
    dsimp only
    have h8:8*(sizeP p W H).1≤8*W:=by omega
    omega
  have h1:=key (List.range (sizeP p W H).2)
  rw [List.length_range] at h1
  have h2:(sizeP p W H).2*(2+8*W)≤H*(2+8*W):=Nat.mul_le_mul_right _ hs.2
  have h3:H*(2+8*W)=2*H+8*(W*H):=by rw [Nat.mul_add,Nat.mul_comm H 2,Nat.mul_left_comm,Nat.mul_comm H W]
  have h4:H≤W*H:=Nat.le_mul_of_pos_left H ho.w1
  unfold needL rowsOf
  omega
 have all:∀ps:List PassP,needL h (ps.flatMap (rowsOf W H))≤ps.length*(20*M):=by
  intro ps
  induction ps with
  | nil=>simp [needL]
  | cons p ps ih =>
   rw [List.flatMap_cons,needL_append,List.length_cons,Nat.add_mul]
   have:=one p
   omega
 have h1:=all (passesP h.Lace)
 have h2:=passes_len h.Lace
 have h3:(passesP h.Lace).length*(20*M)≤7*(20*M):=Nat.mul_le_mul_right _ h2
 have e:needP h=needL h ((passesP h.Lace).flatMap (rowsOf W H)):=by
  show needL h (rowsL h)=_
  unfold rowsL
  rw [ho.wn,ho.hn]
 rw [e]
 omega
end Go.Proofs.YtmagnpcgpinmcaaGreat
set_option linter.unusedVariables false
namespace Go.Proofs.YtmagnpcgpinmcaaGreat
open Go.Vc Go.RowKit
set_option maxRecDepth 400000
section
variable {w:World}
theorem size_spec {W H:Nat} {K:Bool→World→Prop} (hW1:1≤W) (hW2:W≤16384) (hH1:1≤H) (hH2:H≤16384) (hA:W*H≤67108864) (hK:K true w):c_pixel_size (W:Int) (H:Int) w K:=by
 refine call_pixel_size _ _ ?_
 unfold sh_pixel_size
 refine cond_f (beqI_f (by omega)) (cond_t (decide_eq_true (by omega)) (cond_t (decide_eq_true (by omega)) (cond_t (decide_eq_true (by omega)) (cond_t (decide_eq_true (by omega)) ?_))))
 rw [show (W:Int)*(H:Int)=((W*H:Nat):Int) by simp,wrap64_id (by omega),decide_eq_true (by omega)]
 exact hK
theorem pNew_spec {W H:Nat} {K:T_api_Matrix→Int→World→Prop} (hW1:1≤W) (hW2:W≤16384) (hH1:1≤H) (hH2:H≤16384) (hA:W*H≤67108864)
  (hK:∀(t:Slc) (gm:Nat) w',Go.Vc.Own E_uint8 w' w.heap.size t (List.replicate (4*W*H) 0)→t.a=some ⟨gm,0,none⟩→w.heap.size≤gm→Below w.heap.size w w'→K ⟨W,H,t⟩ 0 w'):c_pixel_New (W:Int) (H:Int) w K:=by
 refine call_pixel_New _ _ ?_
 unfold sh_pixel_New
 refine nw_blk fun w1 h1 hB1 hs1=>size_spec hW1 hW2 hH1 hH2 hA (cond_f rfl ?_)
 have e:IntKind.i64.wrap ((IntKind.i64.wrap ((4:Int)*(W:Int)))*(H:Int))=((4*W*H:Nat):Int):=by
  have h4:4*W*H=4*(W*H):=Nat.mul_assoc _ _ _
  rw [wrap64_id (x:=(4:Int)*(W:Int)) (by omega),show (4:Int)*(W:Int)*(H:Int)=((4*W*H:Nat):Int) by simp,wrap64_id (by omega)]
 rw [e]
 have h4:4*W*H=4*(W*H):=Nat.mul_assoc _ _ _
 refine mkSl_of sT_sl_uint8 (x0:=(0:UInt8)) rfl (n:=4*W*H) rfl rfl (by rw [by_sl_uint8];omega) (by unfold maxLen;omega) fun w4 ho hB4=>?_
 refine res_of (r:=T_api_Matrix.rep) (x:=⟨W,H,⟨some ⟨w1.heap.size,0,none⟩,4*W*H,4*W*H⟩⟩) (h1.ext hB4) rfl rfl fun w5 hc5 hs5=>?_
 refine hK _ w1.heap.size w5 ((ho.chg hc5 fun k hk e=>?_).base (by omega)) rfl (by omega) (below_one (below_t hB1 hB4) hc5 (Nat.le_refl _))
 have:=(ho.lt k hk).1
 omega
theorem pixels_spec {g b:Nat} {F:FilL} {p t d:Slc} (hF:FilA w g b F p t d) (ho:FilOk F) {W H:Nat} (hh:HeadOk F.h W H) (hA:W*H≤67108864) (hpl:F.pal.length≤1000000) (htl:F.tr.length≤1000000) {bS:Slc} {xs:List UInt8} (hx:Rd E_uint8 w bS xs) (hxn:needP F.h≤xs.length) (hxl:xs.length≤1000000000) {K:T_api_Matrix→Int→World→Prop}
  (hN:pixelsP F xs=none→∀w',Below w.heap.size w w'→K ⟨0,0,⟨none,0,0⟩⟩ 3 w') (hY:∀m,pixelsP F xs=some m→∀s w',Go.Vc.Own E_uint8 w' w.heap.size s m→m.length=4*W*H→Below w.heap.size w w'→K ⟨W,H,s⟩ 0 w'):c_png_file_pixels (some ⟨g,0,none⟩) bS w K:=by
 obtain ⟨_,hco⟩:=checkP_ok ho.hd
 refine call_png_file_pixels _ _ ?_
 unfold sh_png_file_pixels
 refine nw_blk fun w1 h1 hB1 hs1=>nw_blk fun w2 h2 hB2 hs2=>nw_blk fun w3 h3 hB3 hs3=>?_
 have hB13:=below_t (below_t hB1 hB2) hB3
 have hf:=(h1.ext hB2).ext hB3
 have hb:=h2.ext hB3
 have hBd:=below_drew w3
 have hB3d:=below_t hB13 hBd
 have hFd:=hF.ext hB3d
 refine ldP_of (x:=some ⟨g,0,none⟩) (at_cell (hf.ext hBd)) ?_
 simp only [onPtr_some]
 refine ldI_of (x:=(W:Int)) (by rw [add_zero,←hh.w];exact hFd.blk.cells 0 _ rfl) ?_
 refine ldP_of (x:=some ⟨g,0,none⟩) (at_cell (hf.ext hBd)) ?_
 simp only [onPtr_some]
 refine ldI_of (x:=(H:Int)) (by rw [add_zero,←hh.h];exact hFd.blk.cells 1 _ rfl) ?_
 have hs3d:w3.drew.heap.size=w3.heap.size:=rfl
 have cw:∀{w'},Below w3.heap.size w3 w'→w'.cell? ((⟨g,0,none⟩:Addr).add 0)=some (.int .i64 (W:Int)):=fun hB=>by
  have:=(hF.ext (below_t hB13 hB)).blk.cells 0 _ rfl
  rw [hh.w] at this
  exact this
 have chh:∀{w'},Below w3.heap.size w3 w'→w'.cell? ((⟨g,0,none⟩:Addr).add 1)=some (.int .i64 (H:Int)):=fun hB=>by
  have:=(hF.ext (below_t hB13 hB)).blk.cells 1 _ rfl
  rw [hh.h] at this
  exact this
 have tail:∀(bmx gm:Nat) (vs:List Value) (tm:Slc) w5,vs.length=3→Blk w5 bmx ty_api_Matrix vs→w3.heap.size≤bmx→Go.Vc.Own E_uint8 w5 (w3.heap.size) tm (List.replicate (4*W*H) 0)→tm.a=some ⟨gm,0,none⟩→w3.heap.size≤gm→Below w3.heap.size w3 w5 →
   stK ⟨bmx,0,none⟩ (T_api_Matrix.rep.cells ⟨W,H,tm⟩) w5 fun w6 =>
   ldP (⟨w.heap.size,0,none⟩:Addr) w6 fun t26 =>
   onPtr t26 fun t27 =>
   ldI .i64 ((t27.add 0).add 3) w6 fun t30 =>
   c_png_Samples t30 w6 fun t31 w7 =>
   nw ty_int [(.int .i64 0)] w7 fun n w8 =>
   stK n [(.int .i64 t31)] w8 fun w9 =>
   ldI .i64 n w9.drew fun t32 =>
   ldP (⟨w.heap.size,0,none⟩:Addr) w9.drew fun t33 =>
   onPtr t33 fun t34 =>
   ldI .i64 ((t34.add 0).add 2) w9.drew fun t37 =>
   (8:Int)≠0 ∧
   nw ty_int [(.int .i64 0)] w9.drew fun step w10 =>
   World.cell? w10 ((t34.add 0).add 2)=some (.int .i64 t37) ∧
   World.cell? w10 (⟨w.heap.size,0,none⟩:Addr)=some (.pointer t33) ∧
   World.cell? w10 n=some (.int .i64 t32) ∧
   stK step [(.int .i64 (IntKind.i64.wrap ((IntKind.i64.wrap ((IntKind.i64.wrap (t32*t37))+(7:Int))).tdiv (8:Int))))] w10 fun w11 =>
   nw ty_sl_uint8 [(.slice none 0 0)] w11 fun ahead w12 =>
   ldP (⟨w.heap.size,0,none⟩:Addr) w12 fun t41 =>
   onPtr t41 fun t42 =>
   ldS T_png_Head.rep (t42.add 0) w12 fun t44 =>
   c_png_Head_rows t44 ((.func (.func fn_png_file_pixels_1) #[] #[(.pointer (some n)),(.pointer (some ⟨w.heap.size,0,none⟩)),(.pointer (some ahead)),(.pointer (some ⟨w1.heap.size,0,none⟩)),(.pointer (some step)),(.pointer (some ⟨bmx,0,none⟩))]):Value) w12 fun t46 w13 =>
   cond (!t46)
    (
    stK ⟨w2.heap.size,0,none⟩ [(.int .i64 0),(.int .i64 0),(.slice none 0 0)] w13 fun w14 =>
    ldS T_api_Matrix.rep ⟨w2.heap.size,0,none⟩ w14 fun r =>
    K r 3 w14)
    (
    ldS T_api_Matrix.rep ⟨bmx,0,none⟩ w13 fun t50 =>
    stK ⟨w2.heap.size,0,none⟩ (T_api_Matrix.rep.cells t50) w13 fun w15 =>
    ldS T_api_Matrix.rep ⟨w2.heap.size,0,none⟩ w15 fun r_1 =>
    K r_1 0 w15):=by
  intro bmx gm vs tm w5 hvl hbm hbmn htm hta hgm hB5
  refine all_of hbm hvl.symm fun w6 hm6 hc6 hs6=>?_
  have tl:=htm.lt
  have hB36:Below w3.heap.size w3 w6:=below_one hB5 hc6 (by omega)
  have hm5:bmx<w5.heap.size:=hbm.lt
  have htm6:=htm.chg hc6 fun k hk=>own_ne_blk htm hbm (by decide) k hk
  have hB16:Below w.heap.size w w6:=below_t hB13 hB36
  have hF6:=hF.ext hB16
  have hf6:=hf.ext hB36
  refine ldP_of (x:=some ⟨g,0,none⟩) (at_cell hf6) ?_
  simp only [onPtr_some]
  refine ldI_of (x:=F.h.Color) (by rw [add_zero];exact hF6.blk.cells 3 _ rfl) (Samples_spec ?_)
  refine nw_blk fun w8 h8 hB8 hs8=>?_
  refine all_of h8 rfl fun w9 h9 hc9 hs9=>?_
  have hB69:Below w6.heap.size w6 w9:=below_one hB8 hc9 (Nat.le_refl _)
  have hBd9:=below_drew w9
  have hB69d:=below_t hB69 hBd9
  have hF9:=hF6.ext hB69d
  refine ldI_of (x:=((samplesOf F.h.Color:Nat):Int)) (at_cell (h9.ext hBd9)) (ldP_of (x:=some ⟨g,0,none⟩) (at_cell (hf6.ext hB69d)) ?_)
  simp only [onPtr_some]
  refine ldI_of (x:=F.h.Depth) (by rw [add_zero];exact hF9.blk.cells 2 _ rfl) ⟨by decide,?_⟩
  refine nw_blk fun w10 h10 hB10 hs10=>?_
  have hB910:=below_t hB69d hB10
  have hF10:=hF6.ext hB910
  have h910:=(h9.ext hBd9).ext hB10
  refine ⟨by rw [add_zero];exact hF10.blk.cells 2 _ rfl,at_cell (hf6.ext hB910),at_cell h910,?_⟩
  have hst:IntKind.i64.wrap ((IntKind.i64.wrap ((IntKind.i64.wrap (((samplesOf F.h.Color:Nat):Int)*F.h.Depth))+(7:Int))).tdiv (8:Int))=((pStepN F.h:Nat):Int):=by
   have hs:=samplesOf_pos hco
   have hd:1≤F.h.Depth.toNat∧F.h.Depth.toNat≤16:=by have:=hco.d;omega
   have hdn:F.h.Depth=((F.h.Depth.toNat:Nat):Int):=by have:=hco.d;omega
   have h2:samplesOf F.h.Color*F.h.Depth.toNat≤4*16:=Nat.mul_le_mul hs.2 hd.2
   unfold pStepN
   rw [hdn,show ((samplesOf F.h.Color:Nat):Int)*((F.h.Depth.toNat:Nat):Int)=((samplesOf F.h.Color*F.h.Depth.toNat:Nat):Int) by simp,Int.toNat_natCast]
   generalize samplesOf F.h.Color*F.h.Depth.toNat=q at h2 ⊢
   rw [wrap64_id (x:=((q:Nat):Int)) (by omega),wrap64_id (x:=((q:Nat):Int)+7) (by omega),show ((q:Nat):Int)+7=((q+7:Nat):Int) by simp,show (8:Int)=((8:Nat):Int) from rfl,←Int.ofNat_tdiv,wrap64_id (by omega)]
  rw [hst]
  refine all_of h10 rfl fun w11 h11 hc11 hs11=>?_
  have hsz9:w9.drew.heap.size=w9.heap.size:=rfl
  refine nw_blk fun w12 h12 hB12 hs12=>?_
  have hB611:Below w6.heap.size w6 w11:=below_one hB910 hc11 (by have:=hB69.size;omega)
  have hB612:=below_t hB611 hB12
  have hF12:=hF6.ext hB612
  refine ldP_of (x:=some ⟨g,0,none⟩) (at_cell (hf6.ext hB612)) ?_
  simp only [onPtr_some]
  refine ldS_of (r:=T_png_Head.rep) (x:=F.h) (by rw [add_zero];exact hF12.head) ?_
  have hs6':w6.heap.size=w5.heap.size:=hs6
  have hb12:=((hb.ext hB5).chg hc6 (show w1.heap.size≠bmx by omega)).ext hB612
  have h3_12:=((h3.ext hB5).chg hc6 (show w2.heap.size≠bmx by omega)).ext hB612
  have hB3_12:=below_t hB36 hB612
  have hBw12:Below w.heap.size w w12:=below_t hB16 hB612
  have hn12:Blk w12 w6.heap.size ty_int _:=(h910.chg hc11 (by omega)).ext hB12
  have hst12:Blk w12 w9.drew.heap.size ty_int _:=h11.ext hB12
  have hc:PxC w w6.heap.size w.heap.size w11.heap.size (w1.heap.size) w9.drew.heap.size bmx gm tm:=⟨by omega,by omega,by omega,by omega,by omega,hta⟩
  have hI0:PxI w g F W H w6.heap.size w.heap.size w11.heap.size (w1.heap.size) w9.drew.heap.size bmx gm tm ⟨xs,[],List.replicate (4*W*H) 0⟩ w12:=by
   refine ⟨hn12,hf6.ext hB612,hst12,hm6.ext hB612,⟨⟨none,0,0⟩,h12,Own.nil _ _ _,fun k hk=>by cases hk⟩,⟨bS,hb12,hx⟩,(htm6.ext hB612).base (by omega),hBw12⟩
  have hval:pixelsP F xs=(rowsRun F (rowsL F.h) ⟨xs,[],List.replicate (4*W*H) 0⟩).map (·.m):=by
   unfold pixelsP
   rw [hh.wn,hh.hn]
  refine rows_spec hh (fun L w13=>∃S,rowsRun F L ⟨xs,[],List.replicate (4*W*H) 0⟩=some S∧S.m.length=4*W*H∧PxI w g F W H w6.heap.size w.heap.size w11.heap.size (w1.heap.size) w9.drew.heap.size bmx gm tm S w13∧Blk w13 (w2.heap.size) ty_api_Matrix [(.int .i64 0),(.int .i64 0),(.slice none 0 0)]∧w12.heap.size≤w13.heap.size)
   (fun w13=>pixelsP F xs=none∧Blk w13 (w2.heap.size) ty_api_Matrix [(.int .i64 0),(.int .i64 0),(.slice none 0 0)]∧Below w.heap.size w w13) ⟨_,rfl,by simp,hI0,h3_12,Nat.le_refl _⟩ ?_ ?_ ?_ ?_
  ·rintro L wa wb ⟨S,a,b,c,d',e⟩ hB
   exact ⟨S,a,b,c.ext hB,d'.ext hB,by have:=hB.size;omega⟩
  ·rintro L r R wa hL ⟨S,a,bb,c,d',e⟩ hsa J hJ1 hJ0
   refine callR_plain (by kernel_rfl) ?_
   have hcall:c_png_file_pixels_1 (passT r.1) (r.2.1:Int) (r.2.2:Int) ⟨w6.heap.size,0,none⟩ ⟨w.heap.size,0,none⟩ ⟨w11.heap.size,0,none⟩ ⟨w1.heap.size,0,none⟩ ⟨w9.drew.heap.size,0,none⟩ ⟨bmx,0,none⟩ wa J:=by
    obtain ⟨sa,q1,q2,q3⟩:=c.ah
    obtain ⟨sb,q4,q5⟩:=c.b
    refine pixels1_spec hF ho hh hpl htl hc hL hxn hxl a bb c (fun S' wb hS' hm' hI' hch=>?_) (fun wb hS' hch=>?_)
    ·refine hJ1 wb ⟨S',rowsRun_snoc a hS',hm',hI',d'.chg hch (by omega),by have:=hch.size;omega⟩ ?_ hch.size
     refine keepT_of hch fun k hk=>?_
     rcases hk with rfl | rfl | rfl
     ·exact ⟨_,_,q1,by decide,by decide⟩
     ·exact ⟨_,_,q4,by decide,by decide⟩
     ·obtain ⟨cs,hcs⟩:=c.row.blk_t (g:=k) (by unfold Slc.blk;rw [hta];rfl)
      exact ⟨_,_,hcs,by decide,by decide⟩
    ·refine hJ0 wb ⟨?_,d'.chg hch (by omega),c.B.trans (hch.below (by have:=c.B.size;omega) fun i hi e=>by omega)⟩
     rw [hval,hL,rowsRun_bad a hS']
     rfl
   refine Calls.mono hcall ?_
   rintro e w' ⟨r,rfl,hk⟩
   exact ⟨r,rfl,hk⟩
  ·rintro wa ⟨S,a,bb,c,d',e⟩
   refine cond_f rfl (ldS_of (r:=T_api_Matrix.rep) (x:=⟨W,H,tm⟩) c.m.cells ?_)
   refine res_of (r:=T_api_Matrix.rep) (x:=⟨W,H,tm⟩) d' rfl rfl fun wb hcb hsb=>?_
   rw [a] at hval
   exact hY S.m hval tm wb ((c.row.chg hcb fun k hk=>own_ne_blk c.row d' (by decide) k hk).base (by omega)) bb (below_one c.B hcb (by omega))
  ·rintro wa ⟨a,d',e⟩
   refine cond_t rfl ?_
   exact res_of (r:=T_api_Matrix.rep) (x:=⟨0,0,⟨none,0,0⟩⟩) d' rfl rfl fun wb hcb hsb=>hN a wb (below_one e hcb (by omega))
 refine ⟨?_,?_⟩
 ·refine pNew_spec hh.w1 hh.w2 hh.h1 hh.h2 hA fun tm gm w4 htm hta hgm hB4=>?_
  have hBd4:Below w3.heap.size w3 w4:=below_t hBd hB4
  refine nw_blk fun w5 h5 hB5 hs5=>?_
  have hB35:=below_t hBd4 hB5
  refine ⟨by rw [add_zero];exact chh hB35,at_cell (hf.ext hB35),by rw [add_zero];have:=cw hB35;rwa [add_zero] at this ⊢,at_cell (hf.ext hB35),?_⟩
  exact tail _ gm _ tm w5 rfl h5 (by have:=hB4.size;omega) (htm.ext hB5) hta (by omega) hB35
 ·refine nw_blk fun w5 h5 hB5 hs5=>?_
  have hB35:=below_t hBd hB5
  refine ⟨by rw [add_zero];exact chh hB35,at_cell (hf.ext hB35),by rw [add_zero];have:=cw hB35;rwa [add_zero] at this ⊢,at_cell (hf.ext hB35),?_⟩
  refine pNew_spec hh.w1 hh.w2 hh.h1 hh.h2 hA fun tm gm w4 htm hta hgm hB4=>?_
  exact tail _ gm _ tm w4 rfl (h5.ext hB4) (by omega) (htm.base (by omega)) hta (by omega) (below_t hB35 hB4)
end
end Go.Proofs.YtmagnpcgpinmcaaGreat
set_option linter.unusedVariables false
namespace Go.Proofs.YtmagnpcgpinmcaaGreat
open Go.Vc Go.RowKit
set_option maxRecDepth 400000
theorem readAll_err {b:List UInt8} {pixels:Int} (h:(chunksP false b).1≠0):(readAll b pixels).1=(chunksP false b).1:=by
 unfold readAll
 cases hc:chunksP false b with
 | mk e l =>
  rw [hc] at h
  match e,l with
  | 0,_=>exact absurd rfl h
  | e+1,_=>rfl
theorem readAll_of {b:List UInt8} {pixels:Int} {c:ChL} {l:List ChL} (h:chunksP false b=(0,c::l)):readAll b pixels=readCh c l pixels:=by
 unfold readAll
 rw [h]
 rfl
theorem Below.rdT {T:Type} {E:El T} {B:Nat} {w w':World} {s:Slc} {xs:List T} (h:Rd E w s xs) (hB:Below B w w') (hs:∀k,s.blk=some k→k<B):Rd E w' s xs:=h.chg (Chg.of_below hB) fun a ha e=>by have:=hs a.block (slk.2 ⟨a,ha,rfl⟩);omega
section
variable {w:World}
theorem pRead_spec {b:Slc} {bs:List UInt8} {pixels:Int} {K:Option Addr→Int→World→Prop} (hb:Rd E_uint8 w b bs) (hbl:∀k,b.blk=some k→k<w.heap.size) (hl:bs.length≤1000000)
  (hE:(readAll bs pixels).1≠0→∀w',Below w.heap.size w w'→K none ((readAll bs pixels).1:Nat) w') (hO:(readAll bs pixels).1=0→∀g b p t d w',FilA w' g b (readAll bs pixels).2 p t d→w.heap.size≤g→Below w.heap.size w w'→K (some ⟨g,0,none⟩) 0 w'):c_png_read b pixels w K:=by
 refine call_png_read _ _ ?_
 unfold sh_png_read
 refine Chunks_spec hb hbl hl fun s w1 hcs hB1=>?_
 obtain ⟨f1,f2,f3,f4⟩:=chunksP_facts false bs
 refine cond_of (fun e=>?_) fun e=>?_
 ·have e:(chunksP false bs).1≠0:=fun h=>by rw [h] at e;cases e
  rw [readAll_err e] at hE
  exact hE e w1 hB1
 have e0:(chunksP false bs).1=0:=by
  rcases Nat.eq_zero_or_pos (chunksP false bs).1 with h | h
  ·exact h
  ·rw [bneI_t (by omega)] at e;cases e
 obtain ⟨c,l,hcl⟩:=f4 e0
 have hcp:chunksP false bs=(0,c::l):=by rw [←e0,←hcl]
 rw [hcl] at f1 f2 f3 hcs
 rw [readAll_of hcp] at hE hO
 obtain ⟨xs,hxs,hxl,hxc⟩:=hcs
 have hxl:xs.length=l.length+1:=hxl
 have hds:dsum (c::l)=c.data.length+dsum l:=by simp [dsum]
 rw [hds] at f1
 rw [List.length_cons] at f3
 have hrd:=hxs.rd
 obtain ⟨x0,hx0⟩:∃x0,xs[0]?=some x0:=⟨_,List.getElem?_eq_getElem (by omega)⟩
 have hc0:=hxc 0 x0 c hx0 rfl
 refine hrd.ix (i:=0) (k:=2) rfl (by omega) (by omega) fun _=>?_
 refine ldS_of (r:=T_png_Chunk.rep) (x:=x0) (hrd.at_ 0 x0 hx0) ?_
 refine pHead_spec hc0.a fun w2 hB2=>?_
 refine nw_blk fun w3 h3 hB3 hs3=>all_of h3 rfl fun w4 h4 hc4 hs4=>?_
 have hB14:Below w1.heap.size w1 w4:=below_one (below_t hB2 hB3) hc4 hB2.size
 have hB4:=below_t hB1 hB14
 unfold readCh at hE hO
 refine cond_of (fun e=>?_) fun e=>?_
 ·have e:(headP c).1≠0:=fun h=>by rw [h] at e;cases e
  rw [if_pos e] at hE
  exact hE e w4 hB4
 have e1:(headP c).1=0:=by
  rcases Nat.eq_zero_or_pos (headP c).1 with h | h
  ·exact h
  ·rw [bneI_t (by omega)] at e;cases e
 rw [if_neg (by omega)] at hE hO
 obtain ⟨h,hh⟩:∃h,h=(headP c).2:=⟨_,rfl⟩
 rw [←hh] at hE hO h4
 have hck:checkP h=0:=by rw [hh];exact headP_ok e1
 obtain ⟨⟨W,H,ho⟩,hco⟩:=checkP_ok hck
 have hWH:W*H≤16384*16384:=Nat.mul_le_mul ho.w2 ho.h2
 refine ldI_of (x:=h.W) (h4.cells 0 _ rfl) (ldI_of (x:=h.H) (h4.cells 1 _ rfl) ?_)
 have hmul:h.W*h.H=((W*H:Nat):Int):=by rw [ho.w,ho.h];simp
 rw [hmul] at hE hO ⊢
 rw [wrap64_id (x:=((W*H:Nat):Int)) (by omega)]
 have hmin:((W*H:Nat):Int)>(if (67108864:Int)<pixels then (67108864:Int) else pixels)↔((W*H:Nat):Int)>pixels∨((W*H:Nat):Int)>67108864:=by
  split<;>omega
 refine cond_of (fun e=>?_) fun e=>?_
 ·have e:=hmin.1 (of_decide_eq_true e)
  rw [if_pos e] at hE
  exact hE (show (5:Nat)≠0 by decide) w4 hB4
 have e2:=fun h=>of_decide_eq_false e (hmin.2 h)
 rw [if_neg e2] at hE hO
 refine ldS_of (r:=T_png_Head.rep) (x:=h) h4.cells ?_
 refine nw_blk fun w5 h5 hB5 hs5=>?_
 have hB15:=below_t hB14 hB5
 obtain ⟨g,hg⟩:∃g,g=w4.heap.size:=⟨_,rfl⟩
 rw [←hg] at h5 ⊢
 have hf0:FilA w5 g g (fil0 h) ⟨none,0,0⟩ ⟨none,0,0⟩ ⟨none,0,0⟩:=⟨h5,Rd.nil _ _,Rd.nil _ _,Own.nil _ _ _,(fun k hk=>by cases hk),(fun k hk=>by cases hk)⟩
 have hxs5:=hxs.ext hB15
 refine hxs5.rd.slK (l:=1) (m:=xs.length) rfl (.inr rfl) (.inl ⟨rfl,rfl⟩) (by omega) (by omega) fun hp=>?_
 rw [List.take_length] at hp
 have hs15:=hB15.size
 have hs1g:w1.heap.size≤g:=by rw [hg];exact hB14.size
 have hblk:∀k,(⟨cut s.a 1 s.c E_png_Chunk.k,xs.length-1,s.c-1⟩:Slc).blk=some k→k<g:=fun k hk=>by
  obtain ⟨a,ha,rfl⟩:=slk.1 hk
  obtain ⟨a',ha',e⟩:=cut_block ha
  have:=(hxs.lt a'.block (slk.2 ⟨a',ha',rfl⟩)).2
  rw [e]
  omega
 have hn:xs.length-1=l.length:=by omega
 rw [hn] at hp hblk ⊢
 have h45:Blk w5 w2.heap.size ty_png_Head (T_png_Head.rep.cells h):=h4.ext hB5
 have hs2g:w2.heap.size<g:=by rw [hg];have:=h4.lt;omega
 refine loopP_rule (fun (st:Int×Unit) w6=>∃(i:Nat) (F:FilL) (p t d:Slc) (m:Nat),st.1=i∧i≤l.length∧FilA w6 g g F p t d∧FilOk F∧F.h=h∧takeAll (fil0 h) l=takeAll F (l.drop i)∧Below g w5 w6∧(F.data.length≤m∧F.pal.length≤m∧F.tr.length≤m)∧m+dsum (l.drop i)≤bs.length) (fun st=>l.length-st.1.toNat)
  ⟨0,fil0 h,_,_,_,0,rfl,by omega,hf0,fil0_ok hck,rfl,rfl,Below.refl _ _,⟨Nat.le_refl _,Nat.le_refl _,Nat.le_refl _⟩,by rw [List.drop_zero];omega⟩ ?_
 rintro ⟨i,u⟩ w6 ⟨i,F,p,t,d,m,rfl,hi,hF,hFo,hFh,htk,hB56,hlen,hsum⟩ I hI
 dsimp only
 have hBw6:Below w.heap.size w w6:=(below_t hB1 hB15).trans (hB56.mono (by have:=hB1.size;omega))
 refine cond_of (fun hlt=>?_) fun hge=>?_
 ·have hlt:=of_decide_eq_true hlt
  have hil:i<l.length:=by omega
  obtain ⟨ci,hci⟩:∃ci,l[i]?=some ci:=⟨_,List.getElem?_eq_getElem hil⟩
  obtain ⟨xi,hxi⟩:∃xi,xs[i+1]?=some xi:=⟨_,List.getElem?_eq_getElem (by omega)⟩
  have hoi:=hxc (i+1) xi ci hxi (by simpa using hci)
  have hdrop:l.drop i=ci::l.drop (i+1):=by
   rw [List.getElem?_eq_getElem hil] at hci
   rw [←Option.some.inj hci,←List.drop_eq_getElem_cons]
  have hmem:ci∈c::l:=List.mem_cons_of_mem _ (List.mem_of_getElem? hci)
  have hdsum:dsum (l.drop i)=ci.data.length+dsum (l.drop (i+1)):=by rw [hdrop];simp [dsum]
  rw [hdsum] at hsum
  have hp6:=Below.rdT hp hB56 hblk
  have hxi':(xs.drop 1)[i]?=some xi:=by rw [List.getElem?_drop,Nat.add_comm];exact hxi
  refine hp6.ix (i:=(i:Int)) (k:=2) rfl (by omega) (by rw [List.length_drop];omega) fun _=>?_
  refine ldS_of (r:=T_png_Chunk.rep) (x:=xi) (hp6.at_ i xi hxi') ?_
  refine nw_blk fun w7 h7 hB7 hs7=>all_of h7 rfl fun w8 h8 hc8 hs8=>?_
  have hB68:Below w6.heap.size w6 w8:=below_one hB7 hc8 (Nat.le_refl _)
  refine ldS_of (r:=T_png_Chunk.rep) (x:=xi) h8.cells ?_
  have hg6:g≤w6.heap.size:=by have:=hF.blk.lt;omega
  have hB58:Below g w5 w8:=hB56.trans (hB68.mono hg6)
  have hxblk:∀k,xi.Data.blk=some k→k<g:=fun k hk=>by have:=(hoi.data.lt k hk).2;omega
  have hxa:ChA w8 xi ci:=⟨hoi.kind,Below.rdT (hoi.data.rd.ext hB15) hB58 hxblk⟩
  rw [hdrop,takeAll] at htk
  refine pTake_spec (hF.ext hB68) (by rw [hFh];exact hco) hxa hxblk (Nat.le_refl _) (f2 ci hmem) (by omega) (by omega) (by omega) (fun w9 hne hB9=>?_) (fun h0 p' t' d' w9 hF9 hB9=>?_)
  ·rw [if_pos hne] at htk
   have hBw9:Below w.heap.size w w9:=(hBw6.trans (hB68.mono (by have:=hBw6.size;omega))).trans (hB9.mono (by have:=hB1.size;omega))
   refine cond_t (bneI_t (by omega)) ?_
   rw [htk] at hE
   rw [if_pos hne] at hE
   exact hE hne w9 hBw9
  ·rw [if_neg (by omega)] at htk
   refine cond_f rfl ?_
   rw [wrap64_id (by omega)]
   obtain ⟨ho9,hh9⟩:=takeP_ok hFo h0
   obtain ⟨l1,l2,l3⟩:=takeP_len (c:=ci) hlen
   exact hI _ _ ⟨i+1,(takeP F ci).2,p',t',d',m+ci.data.length,rfl,by omega,hF9,ho9,hh9.trans hFh,htk,hB58.trans hB9,⟨l1,l2,l3⟩,by omega⟩ (by simp;omega)
 ·have hge:=of_decide_eq_false hge
  obtain rfl:i=l.length:=by omega
  rw [List.drop_length,takeAll] at htk
  rw [htk] at hE hO
  rw [if_neg (by simp)] at hE hO
  refine ldB_of (x:=F.hasD) (hF.blk.cells 10 _ rfl) ?_
  refine cond_of (fun e=>?_) fun e=>?_
  ·have e:F.hasD=false:=by simpa using e
   rw [if_pos (.inl e)] at hE
   exact hE (show (3:Nat)≠0 by decide) w6 hBw6
  have e3:F.hasD=true:=by simpa using e
  have h46:Blk w6 w2.heap.size ty_png_Head (T_png_Head.rep.cells h):=h45.below hB56 hs2g
  refine ldI_of (x:=h.Color) (h46.cells 3 _ rfl) ?_
  refine cond_of (fun e=>?_) fun e=>?_
  ·have e:h.Color=3:=eq_of_beq e
   refine ldB_of (x:=F.hasP) (hF.blk.cells 7 _ rfl) ?_
   refine cond_of (fun e4=>?_) fun e4=>?_
   ·have e4:F.hasP=false:=by simpa using e4
    rw [if_pos (.inr ⟨e,e4⟩)] at hE
    exact hE (show (3:Nat)≠0 by decide) w6 hBw6
   ·have e4:F.hasP=true:=by simpa using e4
    rw [if_neg (by rw [e3,e4];simp)] at hO
    exact hO rfl g g p t d w6 hF (by have:=hB1.size;omega) hBw6
  ·have e:h.Color≠3:=by simpa using e
   rw [if_neg (by rw [e3];simp [e])] at hO
   exact hO rfl g g p t d w6 hF (by have:=hB1.size;omega) hBw6
theorem Decode_spec {b:Slc} {bs:List UInt8} {pixels:Int} {K:T_api_Matrix→Int→World→Prop} (hb:Rd E_uint8 w b bs) (hbl:∀k,b.blk=some k→k<w.heap.size) (hl:bs.length≤1000000) (hpx:pixels≤4000000)
  (hE:(decodeP bs pixels).1≠0→∀w',Below w.heap.size w w'→K ⟨0,0,⟨none,0,0⟩⟩ ((decodeP bs pixels).1:Nat) w')
  (hO:∀W H m,decodeP bs pixels=(0,W,H,m)→∀s w',Go.Vc.Own E_uint8 w' w.heap.size s m→m.length=4*W*H→Below w.heap.size w w'→K ⟨W,H,s⟩ 0 w'):c_png_Decode b pixels w K:=by
 refine call_png_Decode _ _ ?_
 unfold sh_png_Decode
 refine nw_blk fun w1 h1 hB1 hs1=>?_
 unfold decodeP at hE hO
 have bad:∀(n:Nat) w2,Below w1.heap.size w1 w2→(∀w',Below w.heap.size w w'→K ⟨0,0,⟨none,0,0⟩⟩ (n:Int) w')→stK ⟨w.heap.size,0,none⟩ [(.int .i64 0),(.int .i64 0),(.slice none 0 0)] w2 fun w3=>ldS T_api_Matrix.rep ⟨w.heap.size,0,none⟩ w3 fun r=>K r (n:Int) w3:=fun n w2 hB hk =>
  res_of (r:=T_api_Matrix.rep) (x:=⟨0,0,⟨none,0,0⟩⟩) (h1.ext hB) rfl rfl fun w3 hc3 hs3=>hk w3 (below_one (below_t hB1 hB) hc3 (Nat.le_refl _))
 refine pRead_spec (hb.ext hB1) (fun k hk=>by have:=hbl k hk;omega) hl (fun hne w2 hB2=>?_) (fun h0 g bb p t d w2 hF hgl hB2=>?_)
 ·rw [if_pos hne] at hE
  exact cond_t (bneI_t (by omega)) (bad _ w2 hB2 (hE hne))
 obtain ⟨hok,harea,hd,hp,ht⟩:=readAll_ok h0
 rw [if_neg (by omega)] at hE hO
 obtain ⟨F,hFe⟩:∃F,F=(readAll bs pixels).2:=⟨_,rfl⟩
 rw [←hFe] at hE hO hF hok harea hd hp ht
 obtain ⟨⟨W,H,hh⟩,hco⟩:=checkP_ok hok.hd
 have hmul:F.h.W*F.h.H=((W*H:Nat):Int):=by rw [hh.w,hh.h];simp
 rw [hmul] at harea
 have hneed:=needP_le hh (M:=W*H) (Nat.le_refl _)
 refine cond_f rfl (onPtr_a ?_)
 refine ldS_of (r:=T_png_Head.rep) (x:=F.h) (by rw [add_zero];exact hF.head) ?_
 refine need_spec hh fun w4 hB4=>onPtr_a ?_
 have hF4:=hF.ext hB4
 have hB24:=below_t hB2 hB4
 refine ldSl_of (x:=d) (hF4.blk.cells 9 _ rfl) ?_
 obtain ⟨u1,u2,u3⟩:=unRun_spec (needP F.h) F.data
 unfold decF at hE hO
 refine Unpack_spec (by omega) hF4.data.rd (fun k hk=>(hF4.data.lt k hk).2) (by omega) u1 u2 u3 (fun hz o w5 ho hB5=>?_) (fun n hz hn w5 hB5=>?_)
 ·have hz:unErr (needP F.h) F.data=0:=hz
  rw [hz,if_neg (by decide)] at hE hO
  have hB15:=below_t hB24 hB5
  have hF5:=hF4.ext hB5
  have hu:((6+((unRun (needP F.h) F.data).2.1+7)/8:Nat):Int)=((unUsed (needP F.h) F.data:Nat):Int):=rfl
  rw [hu,ho.rd.n]
  have hoo:(unRun (needP F.h) F.data).1.hist=unOut (needP F.h) F.data:=rfl
  rw [hoo] at ho ⊢
  obtain ⟨xs,hxs⟩:∃xs,xs=unOut (needP F.h) F.data:=⟨_,rfl⟩
  rw [←hxs] at ho hE hO ⊢
  have hxm:xs.length≤needP F.h:=by rw [hxs];exact u1.most (Nat.zero_le _)
  refine joinP_of fun J1 hJ1=>?_
  refine cond_f rfl (joinP_of fun J2 hJ2=>?_)
  have key:∀bb':Bool,(bb'=true↔xs.length<needP F.h∨unUsed (needP F.h) F.data<F.data.length)→J2 (bb',()) w5:=by
   intro bb' hbb
   refine hJ2 _ _ (cond_of (fun e=>?_) fun e=>?_)
   ·rw [if_pos (hbb.1 e)] at hE
    exact bad 3 w5 hB15 (hE (show (3:Nat)≠0 by decide))
   ·have hn:¬(xs.length<needP F.h∨unUsed (needP F.h) F.data<F.data.length):=fun h=>by rw [hbb.2 h] at e;cases e
    rw [if_neg hn] at hE hO
    refine hJ1 _ _ ?_
    refine pixels_spec hF5 hok hh (by omega) (by omega) (by omega) ho.rd (by omega) (by omega) (fun hpn w7 hB7=>?_) (fun m hpm s w7 hs hml hB7=>?_)
    ·rw [hpn] at hE
     exact bad 3 w7 (below_t hB15 hB7) (hE (show (3:Nat)≠0 by decide))
    ·rw [hpm] at hO
     have hB17:=below_t hB15 hB7
     refine res_of (r:=T_api_Matrix.rep) (x:=⟨W,H,s⟩) (h1.ext hB17) rfl rfl fun w8 hc8 hs8=>?_
     have e1:(0,F.h.W.toNat,F.h.H.toNat,m)=(0,W,H,m):=by rw [hh.wn,hh.hn]
     exact hO W H m e1 s w8 ((hs.chg hc8 fun k hk=>own_ne_blk hs (h1.ext hB17) (by decide) k hk).base (by have:=hB1.size;have:=hB15.size;omega)) hml (below_one (below_t hB1 hB17) hc8 (Nat.le_refl _))
  refine cond_of (fun e=>key _ ?_) fun e=>?_
  ·have e:=of_decide_eq_true e
   simp
   exact .inl (by omega)
  ·have e:=of_decide_eq_false e
   refine onPtr_a (ldSl_of (x:=d) (hF5.blk.cells 9 _ rfl) (key _ ?_))
   rw [hF5.data.rd.n,decide_eq_true_iff]
   omega
 ·have hz:unErr (needP F.h) F.data=n:=hz
  rw [hz,if_pos hn] at hE
  refine joinP_of fun J1 hJ1=>?_
  exact cond_t (bneI_t (by omega)) (bad n w5 (below_t hB24 hB5) (hE hn))
end
end Go.Proofs.YtmagnpcgpinmcaaGreat
set_option linter.unusedVariables false
namespace Go.Proofs.YtmagnpcgpinmcaaGreat
open Go.Vc Go.RowKit
set_option maxRecDepth 400000
theorem bcells_replicate (n:Nat):bcells (List.replicate n 0)=List.replicate n (.int .u8 0):=by
 unfold bcells
 rw [List.map_replicate]
 rfl
theorem mkB {n m:Nat} {l c:Int} (hl:l=n) (hc:c=m) (hnm:n≤m) (hm:m≤100000000000) {w:World} {K:Slc→World→Prop}
  (hK:∀w',Go.Vc.Own E_uint8 w' w.heap.size ⟨some ⟨w.heap.size,0,none⟩,n,m⟩ (List.replicate n 0)→Below w.heap.size w w'→K ⟨some ⟨w.heap.size,0,none⟩,n,m⟩ w'):mkSl PG ty_sl_uint8 (.int .i64 l) (.int .i64 c) w K:=by
 subst hl hc
 have hr:=run_make (P:=PG) w ty_sl_uint8 E_uint8.t sT_sl_uint8.i sT_sl_uint8.z sT_sl_uint8.ht sT_sl_uint8.hi sT_sl_uint8.hz .i64 .i64 (n:Int) (m:Int) (by omega) (by omega) (by rw [by_sl_uint8];omega) (by omega)
 refine ⟨⟨some ⟨w.heap.size,0,none⟩,n,m⟩,_,by simpa using hr,hK _ ?_ ((Below.refl _ w).alloc (Nat.le_refl _) _)⟩
 have hcur:(madeCells sT_sl_uint8.z.cells ((m:Int).toNat*sT_sl_uint8.i.size)).toList=List.replicate m (.int .u8 0):=by
  have hs:sT_sl_uint8.i.size=1:=sT_sl_uint8.hs
  rw [hs,Int.toNat_natCast,Nat.mul_one]
  refine List.ext_getElem? fun j=>?_
  have hz:sT_sl_uint8.z.cells=#[.int .u8 0]:=rfl
  rw [hz]
  by_cases hj:j<m
  ·rw [Array.getElem?_toList,List.getElem?_replicate,if_pos hj]
   simp [madeCells,hj]
   rw [Nat.mod_one]
   rfl
  ·rw [List.getElem?_eq_none (by simp [madeCells];omega),List.getElem?_eq_none (by simp;omega)]
 have hb:Blk (w.alloc (.cells (madeCells sT_sl_uint8.z.cells ((m:Int).toNat*sT_sl_uint8.i.size)) E_uint8.t)) w.heap.size E_uint8.t (List.replicate m (.int .u8 0)):=by
  have:=Blk.new w E_uint8.t (madeCells sT_sl_uint8.z.cells ((m:Int).toNat*sT_sl_uint8.i.size)).toList
  rw [hcur,←hcur,Array.toArray_toList] at this
  rw [hcur] at this
  exact this
 have:=Go.Vc.Own.of_blk (E:=E_uint8) (xs:=List.replicate n (0:UInt8)) (c:=m) (base:=w.heap.size) (Nat.le_refl _) hb (by simpa using hnm) (by unfold maxLen;omega) (by rw [List.length_replicate];exact (Nat.mul_one _).symm) (by
  rw [bcells_flat,bcells_replicate,List.length_replicate]
  show (List.replicate m _).take (n*1)=_
  rw [Nat.mul_one,List.take_replicate,Nat.min_eq_left hnm])
 simpa using this
theorem be4_len (n:Nat):(be4 n).length=4:=rfl
section
variable {w:World}
theorem big_spec {n:Nat} {K:Slc→World→Prop} (hn:n<2^32) (hK:∀t w',Rd E_uint8 w' ⟨some t,4,4⟩ (be4 n)→Below w.heap.size w w'→K ⟨some t,4,4⟩ w'):c_png_big (n:Int) w K:=by
 refine call_png_big _ ?_
 unfold sh_png_big
 refine ⟨by decide,by decide,by decide,?_⟩
 rw [show min ((24:Int)).toNat IntKind.u32.bits=24 by decide,show min ((16:Int)).toNat IntKind.u32.bits=16 by decide,show min ((8:Int)).toNat IntKind.u32.bits=8 by decide,fdiv_nat,fdiv_nat,fdiv_nat,wrap8_of,wrap8_of,wrap8_of,wrap8_of]
 exact nw_blk fun w1 h1 hB1 hs1=>hK _ w1 (rd_lits (E:=E_uint8) (ys:=be4 n) h1 (by rw [be4_len];decide) rfl) hB1
def ChsA (w:World) (xs:List T_png_Chunk) (L:List ChL):Prop:=xs.length=L.length∧∀(i:Nat) x c,xs[i]?=some x→L[i]?=some c→ChA w x c
theorem kind4_len (k:List UInt8):(kind4 k).length=4:=by unfold kind4;rw [List.length_append,List.length_take,List.length_replicate];omega
theorem layC_len (c:ChL):(layC c).length=12+c.data.length:=by
 unfold layC
 simp only [List.length_append,be4_len,kind4_len]
 omega
theorem lay_take (L:List ChL) {i:Nat} {c:ChL} (h:L[i]?=some c):layP (L.take (i+1))=layP (L.take i)++layC c:=by
 unfold layP
 rw [List.take_add_one,h,List.flatMap_append]
 simp
theorem layP_len (L:List ChL):(layP L).length=8+12*L.length+dsum L:=by
 unfold layP
 have:(L.flatMap layC).length=12*L.length+dsum L:=by
  induction L with
  | nil=>rfl
  | cons c L ih =>
   rw [List.flatMap_cons,List.length_append,ih,layC_len,List.length_cons]
   unfold dsum
   rw [List.map_cons,List.sum_cons]
   omega
 rw [List.length_append,this]
 show 8+_=_
 omega
theorem dsum_take (L:List ChL) (i:Nat):dsum (L.take i)≤dsum L:=by
 have:dsum L=dsum (L.take i)+dsum (L.drop i):=by
  unfold dsum
  rw [←List.sum_append,←List.map_append,List.take_append_drop]
 omega
theorem dsum_get {L:List ChL} {i:Nat} {c:ChL} (h:L[i]?=some c):c.data.length≤dsum L:=by
 obtain ⟨hi,e⟩:=List.getElem?_eq_some_iff.1 h
 have h2:=dsum_take L (i+1)
 rw [List.take_add_one,h] at h2
 unfold dsum at h2 ⊢
 rw [List.map_append,List.sum_append] at h2
 simp at h2
 omega
theorem Lay_spec {l:Slc} {xs:List T_png_Chunk} {L:List ChL} (hl:Rd E_png_Chunk w l xs) (hL:ChsA w xs L) (hn:L.length≤1000000) (hd:dsum L≤1000000000) {K:Slc→World→Prop} (hK:∀t w',Go.Vc.Own E_uint8 w' w.heap.size t (layP L)→Below w.heap.size w w'→K t w'):c_png_Lay l w K:=by
 refine call_png_Lay _ ?_
 unfold sh_png_Lay
 refine signO_spec fun t w1 hs hB1=>?_
 have hln:=hl.n
 have hxl:=hL.1
 refine loopP_rule (fun (s:Slc×Int×Unit) w2=>∃i:Nat,s.2.1=i∧i≤L.length∧Go.Vc.Own E_uint8 w2 w.heap.size s.1 (layP (L.take i))∧Below w.heap.size w w2) (fun s=>L.length-s.2.1.toNat) ⟨0,rfl,by omega,hs,hB1⟩ ?_
 rintro ⟨o,i,u⟩ w2 ⟨i,rfl,hi,hoo,hB2⟩ I hI
 dsimp only at hoo ⊢
 have hro:=hoo.rd
 rw [hln,hxl]
 refine cond_of (fun hlt=>?_) fun hge=>?_
 ·have hlt:=of_decide_eq_true hlt
  have hil:i<L.length:=by omega
  obtain ⟨x,hx⟩:∃x,xs[i]?=some x:=⟨_,List.getElem?_eq_getElem (by omega)⟩
  obtain ⟨c,hc⟩:∃c,L[i]?=some c:=⟨_,List.getElem?_eq_getElem hil⟩
  have hxc:=(hL.2 i x c hx hc).ext hB2
  have hl2:=hl.ext hB2
  have hcd:=dsum_get hc
  refine hl2.ix (i:=(i:Int)) (k:=2) rfl (by omega) (by omega) fun _=>?_
  refine ldS_of (r:=T_png_Chunk.rep) (x:=x) (hl2.at_ i x hx) ?_
  refine nw_blk fun w3 h3 hB3 hs3=>all_of h3 rfl fun w4 h4 hc4 hs4=>?_
  have hB24:Below w2.heap.size w2 w4:=below_one hB3 hc4 (Nat.le_refl _)
  have hx4:=hxc.ext hB24
  refine ldSl_of (x:=x.Data) (h4.cells 1 _ rfl) ?_
  rw [hx4.data.n,wrap64_id (x:=(4:Int)+((c.data.length:Nat):Int)) (by omega)]
  refine mkB (n:=4) (m:=4+c.data.length) rfl (by omega) (by omega) (by omega) fun w5 hk5 hB5=>?_
  refine ldStr_of (x:=x.Kind) ((h4.ext hB5).cells 0 _ rfl) ?_
  rw [hx4.kind]
  obtain ⟨cur,hcur,hcl,hct,hc1,hc2,hc3,hc4'⟩:=own_cur (c:=0) hk5 (g:=w4.heap.size) rfl
  have hcl:cur.length=4+c.data.length:=hcl
  have hmn:min c.kind.length 4≤4:=Nat.min_le_right _ _
  refine copyS (dc:=4+c.data.length) hcur rfl (by omega) fun w6 hb6 hc6 hs6=>?_
  have hput:=own_put (ys:=c.kind.take (min c.kind.length 4)) (k:=0) hk5 rfl hcur (by rw [List.length_take,List.length_replicate];omega) hb6
  have hke:(List.replicate 4 (0:UInt8)).take 0++c.kind.take (min c.kind.length 4)++(List.replicate 4 (0:UInt8)).drop (0+(c.kind.take (min c.kind.length 4)).length)=kind4 c.kind:=by
   unfold kind4
   rw [List.take_zero,List.nil_append,Nat.zero_add,List.length_take,List.drop_replicate]
   rcases Nat.le_total c.kind.length 4 with h | h
   ·rw [Nat.min_eq_left h,Nat.min_self,List.take_length,List.take_of_length_le h]
   ·rw [Nat.min_eq_right h,Nat.min_eq_left h,show 4-4=4-c.kind.length by omega]
  rw [hke] at hput
  have hB46:Below w4.heap.size w4 w6:=below_one hB5 hc6 (Nat.le_refl _)
  have h46:=h4.ext hB46
  have hB26:=below_t hB24 hB46
  refine ldSl_of (x:=x.Data) (h46.cells 1 _ rfl) ?_
  refine apB hput ((hx4.ext hB46).data) (by have:=hB46.size;omega) (by rw [kind4_len];omega) fun r w7 hr hc7 hrb=>?_
  have hB47:Below w4.heap.size w4 w7:=hB46.trans (hc7.below hB46.size fun k hk e=>by
   have:k=w4.heap.size:=by
    cases e
    rfl
   omega)
  have hB27:=below_t hB24 hB47
  refine ldSl_of (x:=x.Data) ((h4.ext hB47).cells 1 _ rfl) ?_
  rw [hx4.data.n]
  have ew:IntKind.u32.wrap ((c.data.length:Nat):Int)=((c.data.length:Nat):Int):=wrap_nat .u32 (show c.data.length<2^32 by omega)
  rw [ew]
  refine big_spec (by omega) fun t32 w8 h32 hB8=>?_
  have hr8:=hr.ext hB8
  refine CrcOf hr8.rd (by rw [List.length_append,kind4_len];omega) fun w11 hB11=>?_
  refine big_spec (crcN_lt _) fun t38 w12 h38 hB12=>?_
  have hB712:=below_t (below_t hB8 hB11) hB12
  have hB212:=below_t hB27 hB712
  refine nw_blk fun w13 h13 hB13 hs13=>?_
  have ho13:=(hro.ext hB212).ext hB13
  have h32':=((h32.ext hB11).ext hB12).ext hB13
  have hr13:=(hr.ext hB712).ext hB13
  have h38':=h38.ext hB13
  have htl:=layP_len (L.take i)
  have hdt:=dsum_take L i
  have htk:(L.take i).length≤L.length:=by rw [List.length_take];omega
  have hfl:[layP (L.take i),be4 c.data.length,kind4 c.kind++c.data,be4 (crcN (kind4 c.kind++c.data))].flatten=layP (L.take (i+1)):=by
   rw [lay_take L hc]
   unfold layC
   simp [List.append_assoc]
  refine ConcatB_spec (p:=⟨some ⟨w12.heap.size,0,none⟩,4,4⟩) (ss:=[o,⟨some t32,4,4⟩,r,⟨some t38,4,4⟩]) (xss:=[layP (L.take i),be4 c.data.length,kind4 c.kind++c.data,be4 (crcN (kind4 c.kind++c.data))])
   (rd_lits (E:=slsE) (ys:=[o,⟨some t32,4,4⟩,r,⟨some t38,4,4⟩]) h13 (by simp [maxLen]) rfl) ⟨rfl,?_⟩ ?_ (by simp) fun q w14 hq hB14=>?_
  ·intro j s ys hs' hy
   match j,hs',hy with
   | 0,hs',hy=>cases hs';cases hy;exact ho13
   | 1,hs',hy=>cases hs';cases hy;exact h32'
   | 2,hs',hy=>cases hs';cases hy;exact hr13.rd
   | 3,hs',hy=>cases hs';cases hy;exact h38'
   | j+4,hs',hy=>simp at hs'
  ·rw [hfl,layP_len]
   have:=dsum_take L (i+1)
   rw [List.length_take]
   omega
  ·rw [hfl] at hq
   rw [wrap64_id (by omega)]
   have hB14':=below_t (below_t (below_t hB2 hB212) hB13) hB14
   have hsz:w.heap.size≤w13.heap.size:=(below_t (below_t hB2 hB212) hB13).size
   exact hI _ _ ⟨i+1,rfl,by omega,hq.base hsz,hB14'⟩ (by simp;omega)
 ·have hge:=of_decide_eq_false hge
  obtain rfl:i=L.length:=by omega
  rw [List.take_length] at hoo
  exact hK o w2 hoo hB2
end
end Go.Proofs.YtmagnpcgpinmcaaGreat
set_option linter.unusedVariables false
namespace Go.Proofs.YtmagnpcgpinmcaaGreat
open Go.Vc Go.RowKit
set_option maxRecDepth 400000
theorem take4_of {l:List UInt8} {k:Nat} (h:k+4≤l.length):∃a b c d,(l.drop k).take 4=[a,b,c,d]∧l[k]?=some a∧l[k+1]?=some b∧l[k+2]?=some c∧l[k+3]?=some d:=by
 refine ⟨l[k],l[k+1],l[k+2],l[k+3],?_,List.getElem?_eq_getElem _,List.getElem?_eq_getElem _,List.getElem?_eq_getElem _,List.getElem?_eq_getElem _⟩
 rw [List.drop_eq_getElem_cons (by omega),List.drop_eq_getElem_cons (by omega),List.drop_eq_getElem_cons (by omega),List.drop_eq_getElem_cons (by omega)]
 rfl
theorem rd_box4 {w:World} {bc t:Nat} {a b c d:UInt8} (h:Blk w bc t (bcells [a,b,c,d])):Rd E_uint8 w ⟨some ⟨bc,0,none⟩,4,4⟩ [a,b,c,d]:=by
 refine ⟨rfl,Nat.le_refl _,by simp [maxLen],fun _=>rfl,fun i y hy=>?_⟩
 have hbc':=h.cells i (.int .u8 (y.toNat:Int)) (by unfold bcells;rw [List.getElem?_map,hy];rfl)
 intro j v hj
 match j,hj with
 | 0,hj =>
  cases hj
  show w.cell? (((⟨bc,0,none⟩:Addr).add (i*1)).add 0)=_
  rw [add_zero,Nat.mul_one]
  exact hbc'
 | j+1,hj=>simp [E_uint8] at hj
section
variable {w:World}
theorem in_spec {W H X Y:Nat} {s:Slc} {P:List UInt8} {K:Bool→World→Prop} (hP:Rd E_uint8 w s P) (hl:P.length=4*W*H) (hW:W≤16384) (hH:H≤16384) (hX:X<W) (hY:Y<H) (hK:∀w',Below w.heap.size w w'→K true w'):c_pixel_in ⟨W,H,s⟩ (X:Int) (Y:Int) w K:=by
 refine call_pixel_in _ _ _ ?_
 unfold sh_pixel_in
 refine nw_blk fun w1 h1 hB1 hs1=>?_
 refine cond_t (decide_eq_true (by omega)) (ldI_of (x:=(W:Int)) (h1.cells 0 _ rfl) (cond_t (decide_eq_true (by omega)) (cond_t (decide_eq_true (by omega)) (ldI_of (x:=(H:Int)) (h1.cells 1 _ rfl) (cond_t (decide_eq_true (by omega)) ?_)))))
 refine ldSl_of (x:=s) (h1.cells 2 _ rfl) (ldI_of (x:=(W:Int)) (h1.cells 0 _ rfl) (ldI_of (x:=(H:Int)) (h1.cells 1 _ rfl) ?_))
 have h4:4*W*H≤4*16384*16384:=Nat.mul_le_mul (Nat.mul_le_mul_left 4 hW) hH
 rw [hP.n,wrap64_id (x:=(4:Int)*(W:Int)) (by omega),show (4:Int)*(W:Int)*(H:Int)=((4*W*H:Nat):Int) by simp,wrap64_id (by omega),decide_eq_true (by omega)]
 exact hK w1 hB1
theorem pAt_spec {W H X Y:Nat} {s:Slc} {P:List UInt8} {K:T_pixel_Color→Bool→World→Prop} (hP:Rd E_uint8 w s P) (hl:P.length=4*W*H) (hW:W≤16384) (hH:H≤16384) (hX:X<W) (hY:Y<H)
  (hK:∀a b c d w',(P.drop (4*(Y*W+X))).take 4=[a,b,c,d]→Below w.heap.size w w'→K (colT a b c d) true w'):c_pixel_At ⟨W,H,s⟩ (X:Int) (Y:Int) w K:=by
 refine call_pixel_At _ _ _ ?_
 unfold sh_pixel_At
 refine nw_blk fun w1 h1 hB1 hs1=>nw_blk fun w2 h2 hB2 hs2=>?_
 have hB12:=below_t hB1 hB2
 refine ldS_of (r:=T_api_Matrix.rep) (x:=⟨W,H,s⟩) (h1.ext hB2).cells ?_
 refine in_spec (hP.ext hB12) hl hW hH hX hY fun w3 hB3=>cond_f rfl ?_
 have hB13:=below_t hB12 hB3
 refine ldS_of (r:=T_api_Matrix.rep) (x:=⟨W,H,s⟩) ((h1.ext hB2).ext hB3).cells ?_
 refine call_pixel_at _ _ _ ?_
 unfold sh_pixel_at
 refine nw_blk fun w4 h4 hB4 hs4=>nw_blk fun w5 h5 hB5 hs5=>?_
 have hB35:=below_t hB4 hB5
 have hB15:=below_t hB13 hB35
 have hP5:=hP.ext hB15
 refine ldSl_of (x:=s) ((h4.ext hB5).cells 2 _ rfl) (ldI_of (x:=(W:Int)) ((h4.ext hB5).cells 0 _ rfl) ?_)
 have hWH:4*W*H=4*(W*H):=Nat.mul_assoc _ _ _
 have hWH2:W*H≤16384*16384:=Nat.mul_le_mul hW hH
 have hYW:(Y+1)*W≤H*W:=Nat.mul_le_mul_right _ hY
 rw [Nat.add_mul,Nat.one_mul,Nat.mul_comm H W] at hYW
 obtain ⟨k,hk⟩:∃k,k=4*(Y*W+X):=⟨_,rfl⟩
 have ek:IntKind.i64.wrap ((4:Int)*(IntKind.i64.wrap ((IntKind.i64.wrap ((Y:Int)*(W:Int)))+(X:Int))))=(k:Int):=by
  rw [show (Y:Int)*(W:Int)=((Y*W:Nat):Int) by simp,wrap64_id (x:=((Y*W:Nat):Int)) (by omega),wrap64_id (x:=((Y*W:Nat):Int)+(X:Int)) (by omega),wrap64_id (by omega)]
  omega
 rw [ek]
 have hkl:k+4≤P.length:=by omega
 obtain ⟨a,b,c,d,ht,g0,g1,g2,g3⟩:=take4_of hkl
 rw [←hk] at hK
 refine hP5.slK (l:=k) (m:=P.length) rfl (.inr rfl) (.inl ⟨rfl,rfl⟩) (by omega) (Nat.le_refl _) fun hr=>?_
 rw [List.take_length] at hr
 have hsome:=hr.some_ (by rw [List.length_drop];omega)
 obtain ⟨ad,had⟩:=Option.isSome_iff_exists.1 hsome
 rw [had,onPtr_some]
 have hcc:cellsAt w5 ad (T_pixel_Color.rep.cells (colT a b c d)):=by
  intro j v hj
  have key:∀(j:Nat) (y:UInt8),(P.drop k)[j]?=some y→w5.cell? (ad.add j)=some (.int .u8 (y.toNat:Int)):=fun j y hy=>by
   have:=rdcell hr hy
   have had':cut s.a k s.c E_uint8.k=some ad:=had
   simp only [Slc.at_,had',Option.getD_some,Nat.mul_one] at this
   exact this
  match j,hj with
  | 0,hj=>cases hj;exact key 0 a (by rw [List.getElem?_drop];exact g0)
  | 1,hj=>cases hj;exact key 1 b (by rw [List.getElem?_drop];exact g1)
  | 2,hj=>cases hj;exact key 2 c (by rw [List.getElem?_drop];exact g2)
  | 3,hj=>cases hj;exact key 3 d (by rw [List.getElem?_drop];exact g3)
  | j+4,hj=>simp [T_pixel_Color.rep] at hj
 refine ⟨by show 4≤P.length-k;omega,ldS_of (r:=T_pixel_Color.rep) (x:=colT a b c d) hcc ?_⟩
 refine res_of (r:=T_pixel_Color.rep) (x:=colT a b c d) h5 rfl rfl fun w6 hc6 hs6=>?_
 have hB36:Below w3.heap.size w3 w6:=below_one hB35 hc6 (by omega)
 refine res_of (r:=T_pixel_Color.rep) (x:=colT a b c d) ((h2.ext hB3).ext hB36) rfl rfl fun w7 hc7 hs7=>?_
 exact hK a b c d w7 ht (below_one (below_t hB13 hB36) hc7 (by omega))
structure EnI (w0:World) (W H:Nat) (ms:Slc) (kd:Nat) (ba bl bm bk:Nat) (st:List UInt8×List UInt8) (w1:World):Prop where
 m:Blk w1 bm ty_api_Matrix (T_api_Matrix.rep.cells ⟨W,H,ms⟩)
 k:Blk w1 bk ty_int [.int .i64 (kd:Int)]
 ex:∃sa sl:Slc,Blk w1 ba ty_sl_uint8 [.slice sa.a sa.n sa.c]∧Go.Vc.Own E_uint8 w1 w0.heap.size sa st.2∧Blk w1 bl ty_sl_uint8 [.slice sl.a sl.n sl.c]∧Go.Vc.Own E_uint8 w1 w0.heap.size sl st.1∧(∀k,sa.blk=some k→sl.blk≠some k)
 B:Below w0.heap.size w0 w1
theorem rowPix_len {W H:Nat} {P:List UInt8} {r:PassP×Nat×Nat} (hl:P.length=4*W*H):∀n,(∀x,x<n→pixAt W r.1 r.2.1 x+4≤4*W*H)→(rowPix W P r n).length=4*n
 | 0,_=>by simp [rowPix]
 | n+1,h=>by
  have ih:=rowPix_len hl n fun x hx=>h x (by omega)
  unfold rowPix at ih ⊢
  have:=h n (by omega)
  rw [List.range_succ,List.flatMap_append,List.length_append,ih]
  simp only [List.flatMap_cons,List.flatMap_nil,List.append_nil,List.length_take,List.length_drop]
  omega
theorem rowPix_succ (W:Nat) (P:List UInt8) (r:PassP×Nat×Nat) (n:Nat):rowPix W P r (n+1)=rowPix W P r n++(P.drop (pixAt W r.1 r.2.1 n)).take 4:=by
 unfold rowPix
 rw [List.range_succ,List.flatMap_append]
 simp
theorem encRow1_spec {w0:World} {W H:Nat} {h:T_png_Head} (hh:HeadOk h W H) {ms:Slc} {P:List UInt8} (hP:Rd E_uint8 w0 ms P) (hl:P.length=4*W*H) {kd:Nat} (hkd:kd≤4) {ba bl bm bk:Nat} (hab:ba≠bl) (hal:w0.heap.size≤ba) (hbl:w0.heap.size≤bl)
  {st:List UInt8×List UInt8} {L R:List (PassP×Nat×Nat)} {r:PassP×Nat×Nat} (hL:rowsL h=L++r::R) (hst:aheadOf r.2.1 st.2=[]∨(aheadOf r.2.1 st.2).length=4*r.2.2) (hsl:st.1.length≤500000000000) {w1:World} (hI:EnI w0 W H ms kd ba bl bm bk st w1) {J:Bool→World→Prop}
  (hJ:∀w2 row,EnI w0 W H ms kd ba bl bm bk (encRow W P kd st r) w2→row=none∨(∃k cs,row=some k∧Blk w1 k ty_uint8 cs)→Chg (fun k=>k=ba∨k=bl∨row=some k) w1 w2→J true w2) :
  c_png_Encode_1 (passT r.1) (r.2.1:Int) (r.2.2:Int) ⟨ba,0,none⟩ ⟨bm,0,none⟩ ⟨bk,0,none⟩ ⟨bl,0,none⟩ w1 J:=by
 have hra:=rowsL_split hh hL
 have hw2:r.2.2≤16384:=by rw [hra.w];have:=(sizeP_le r.1 W H).1;have:=hh.w2;omega
 have hyH:r.2.1<16384:=by have:=hra.y;have:=(sizeP_le r.1 W H).2;have:=hh.h2;omega
 have hdx:=passes_dx h.Lace r.1 hra.mem
 have hrooms:∀x,x<r.2.2→pixAt W r.1 r.2.1 x+4≤4*W*H∧r.1.x+x*r.1.dx<W∧r.1.y+r.2.1*r.1.dy<H:=fun x hx=>pix_room (by rw [hra.w] at hx;exact hx) hra.y
 have hpl:=fun n (hn:n≤r.2.2)=>rowPix_len (P:=P) (r:=r) hl n fun x hx=>(hrooms x (by omega)).1
 have hW2:=hh.w2
 have hH2:=hh.h2
 obtain ⟨hm,hk,⟨sa,sl,hba,hsa,hbl',hslO,hap⟩,hB01⟩:=hI
 have hs01:=hB01.size
 have hbal:=hba.lt
 have hbll:=hbl'.lt
 refine call_png_Encode_1 _ _ _ _ _ _ _ ?_
 unfold sh_png_Encode_1
 refine nw_blk fun w2 hp2 hB2 hs2=>?_
 refine joinP_of fun J1 hJ1=>?_
 have main:∀(sa':Slc) w3,Blk w3 ba ty_sl_uint8 [.slice sa'.a sa'.n sa'.c]→Go.Vc.Own E_uint8 w3 w0.heap.size sa' (aheadOf r.2.1 st.2)→Chg (fun k=>k=ba) w1 w3→Blk w3 w1.heap.size ty_filter_Pass (T_q8_Pass.rep.cells (passT r.1))→J1 () w3:=by
  intro sa' w3 hba3 hsa3 hc3 hp3
  refine hJ1 _ _ ?_
  have hs3:=hc3.size
  have hm3:=hm.chg hc3 fun e=>by subst e;exact hm.ne_t hba (by decide) rfl
  have hk3:=hk.chg hc3 fun e=>by subst e;exact hk.ne_t hba (by decide) rfl
  have hbl3:=hbl'.chg hc3 fun e=>hab e.symm
  have hsl3:=hslO.chg hc3 fun k hk=>own_ne_blk hslO hba (by decide) k hk
  have hB03:Below w0.heap.size w0 w3:=below_one hB01 hc3 hal
  refine loopP_rule (fun (s:Slc×Int×Unit) w4=>∃x:Nat,s.2.1=x∧x≤r.2.2∧Go.Vc.Own E_uint8 w4 w3.heap.size s.1 (rowPix W P r x)∧Below w3.heap.size w3 w4) (fun s=>r.2.2-s.2.1.toNat) ⟨0,rfl,by omega,Own.nil _ _ _,Below.refl _ _⟩ ?_
  rintro ⟨o,x,u⟩ w4 ⟨x,rfl,hx,ho,hB4⟩ I hIl
  dsimp only at ho ⊢
  have hB04:=below_t hB03 hB4
  have hs4:=hB4.size
  refine cond_of (fun hlt=>?_) fun hge=>?_
  ·have hlt:=of_decide_eq_true hlt
   have hxl:x<r.2.2:=by omega
   obtain ⟨hr1,hr2,hr3⟩:=hrooms x hxl
   have hp4:=hp3.ext hB4
   refine ldS_of (r:=T_api_Matrix.rep) (x:=⟨W,H,ms⟩) (hm3.ext hB4).cells ?_
   refine ldI_of (x:=(r.1.x:Int)) (hp4.cells 0 _ rfl) (ldI_of (x:=(r.1.dx:Int)) (hp4.cells 2 _ rfl) (ldI_of (x:=(r.1.y:Int)) (hp4.cells 1 _ rfl) (ldI_of (x:=(r.1.dy:Int)) (hp4.cells 3 _ rfl) ?_)))
   have eX:IntKind.i64.wrap ((r.1.x:Int)+(IntKind.i64.wrap ((x:Int)*(r.1.dx:Int))))=((r.1.x+x*r.1.dx:Nat):Int):=by
    rw [show (x:Int)*(r.1.dx:Int)=((x*r.1.dx:Nat):Int) by simp]
    generalize x*r.1.dx=v at hr2 ⊢
    rw [wrap64_id (x:=((v:Nat):Int)) (by omega),wrap64_id (by omega)]
    rfl
   have eY:IntKind.i64.wrap ((r.1.y:Int)+(IntKind.i64.wrap ((r.2.1:Int)*(r.1.dy:Int))))=((r.1.y+r.2.1*r.1.dy:Nat):Int):=by
    rw [show (r.2.1:Int)*(r.1.dy:Int)=((r.2.1*r.1.dy:Nat):Int) by simp]
    generalize r.2.1*r.1.dy=v at hr3 ⊢
    rw [wrap64_id (x:=((v:Nat):Int)) (by omega),wrap64_id (by omega)]
    rfl
   rw [eX,eY]
   refine pAt_spec (hP.ext hB04) hl hW2 hH2 hr2 hr3 fun a b c d w5 htk hB5=>?_
   refine nw_blk fun w6 h6 hB6 hs6=>all_of h6 rfl fun w7 h7 hc7 hs7=>?_
   have hB47:Below w4.heap.size w4 w7:=below_one (below_t hB5 hB6) hc7 hB5.size
   have h7:Blk w7 w5.heap.size ty_pixel_Color (bcells [a,b,c,d]):=h7
   have ho7:=ho.ext hB47
   have hpn:=hpl x (by omega)
   show apK PG #[ty_sl_uint8,ty_sl_uint8] ty_sl_uint8 o ⟨some ((⟨w5.heap.size,0,none⟩:Addr).add (0*1)),4,4⟩ w7 _
   rw [Nat.zero_mul,add_zero]
   refine apB ho7 (rd_box4 h7) (by have:=hB47.size;omega) (by rw [hpn];simp only [List.length_cons,List.length_nil];omega) fun q w8 hq hc8 hqb=>?_
   rw [wrap64_id (by omega)]
   have hB37:=below_t hB4 hB47
   refine hIl _ _ ⟨x+1,rfl,by omega,?_,hB37.trans (hc8.below hB37.size fun i hi e=>by have:=(ho7.lt i e).1;omega)⟩ (by simp;omega)
   have hpe:rowPix W P r (x+1)=rowPix W P r x++[a,b,c,d]:=by
    rw [rowPix_succ,←htk]
    unfold pixAt
    rw [Nat.add_assoc]
   rw [hpe]
   exact hq
  ·have hge:=of_decide_eq_false hge
   obtain rfl:x=r.2.2:=by omega
   have hpn:=hpl r.2.2 (Nat.le_refl _)
   have hk4:=hk3.ext hB4
   have hba4:=hba3.ext hB4
   have hsa4:=hsa3.ext hB4
   have hbl4:=hbl3.ext hB4
   have hsl4:=hsl3.ext hB4
   refine ldI_of (x:=(kd:Int)) (at_cell hk4) (ldSl_of (x:=sa') (at_cell hba4) ?_)
   refine Do_spec (step:=4) ho.rd hsa4.rd hkd (by decide) (by decide) (by rw [hpn];exact hst) (by omega) fun z w5 hz hB5=>?_
   have hs5:=hB5.size
   refine ldSl_of (x:=sl) (at_cell (hbl4.ext hB5)) (ldI_of (x:=(kd:Int)) (at_cell (hk4.ext hB5)) ?_)
   refine apB1 (c:=UInt8.ofNat kd) (wrap8_of kd) (hsl4.ext hB5) (by omega) (by omega) fun q w7 hq hc7 hqb=>?_
   have hslt:=(hsl4.ext hB5).lt
   have hzl:=hz.lt
   have hz7:=hz.chg hc7 fun k hk e=>by have h1:=(hzl k hk).1;have h2:=(hsl4.lt k e).2;omega
   refine apB hq hz7.rd (by have:=hc7.size;omega) (by rw [doP_length,hpn,List.length_append,List.length_singleton];omega) fun q2 w8 hq2 hc8 hq2b=>?_
   have hqo:∀k,q.blk=some k→k<w5.heap.size→sl.blk=some k:=fun k hk hlt=>by
    rcases hqb with e | ⟨k',e,hge'⟩
    ·rw [←e];exact hk
    ·rw [e] at hk;cases hk;omega
   have hc58:Chg (fun k=>sl.blk=some k) w5 w8:=hc7.trans hc8 fun i hi e=>hqo i e hi
   have hB15:Chg (fun k=>k=ba) w1 w5:=(hc3.trans (Chg.of_ext (S:=fun k=>k=ba) hB4) fun i _ hi=>hi).trans (Chg.of_ext (S:=fun k=>k=ba) hB5) fun i _ hi=>hi
   have hne:∀{k tt:Nat} {cs:List Value},tt≠ty_uint8→Blk w5 k tt cs→sl.blk≠some k:=fun {k tt cs} hne hb e=>by
    obtain ⟨cs',hcs'⟩:=(hsl4.ext hB5).blk_t e
    exact hb.ne_t hcs' hne rfl
   have hbl8:Blk w8 bl ty_sl_uint8 _:=(hbl4.ext hB5).chg hc58 (hne (by decide) (hbl4.ext hB5))
   refine all_of hbl8 rfl fun w9 hbl9 hc9 hs9=>?_
   have hba8:Blk w8 ba ty_sl_uint8 _:=(hba4.ext hB5).chg hc58 (hne (by decide) (hba4.ext hB5))
   refine all_of (hba8.chg hc9 hab) rfl fun w10 hba10 hc10 hs10=>?_
   have hm8:=((hm3.ext hB4).ext hB5).chg hc58 (hne (by decide) ((hm3.ext hB4).ext hB5))
   have hk8:=(hk4.ext hB5).chg hc58 (hne (by decide) (hk4.ext hB5))
   have hch:Chg (fun k=>k=ba∨k=bl∨sl.blk=some k) w1 w10 :=
    (((hB15.mono fun i _ hi=>(.inl hi:i=ba∨i=bl∨sl.blk=some i)).trans (hc58.mono fun i _ hi=>(.inr (.inr hi):i=ba∨i=bl∨sl.blk=some i)) fun i _ hi=>hi).trans (hc9.mono fun i _ hi=>(.inr (.inl hi):i=ba∨i=bl∨sl.blk=some i)) fun i _ hi=>hi).trans (hc10.mono fun i _ hi=>.inl hi) fun i _ hi=>hi
   have hoT:∀k,o.blk=some k→w3.heap.size≤k∧k<w5.heap.size:=fun k hk=>⟨(ho.lt k hk).1,by have:=(ho.lt k hk).2;omega⟩
   have ho10:Go.Vc.Own E_uint8 w10 w3.heap.size o (rowPix W P r r.2.2):=by
    refine (((ho.ext hB5).chg hc58 fun k hk e=>?_).chg hc9 fun k hk e=>?_).chg hc10 fun k hk e=>?_
    ·have:=(hsl3.lt k e).2;have:=(hoT k hk).1;omega
    ·have:=(hoT k hk).1;omega
    ·have:=(hoT k hk).1;omega
   have hq10:=(hq2.chg hc9 fun k hk=>own_ne_blk hq2 hbl8 (by decide) k hk).chg hc10 fun k hk e=>own_ne_blk hq2 (hba8) (by decide) k hk e
   refine hJ w10 sl.blk ⟨?_,?_,⟨o,q2,hba10,?_,hbl9.chg hc10 fun e=>hab e.symm,?_,?_⟩,?_⟩ ?_ hch
   ·exact (hm8.chg hc9 fun e=>by subst e;exact hm8.ne_t hbl8 (by decide) rfl).chg hc10 fun e=>by subst e;exact hm8.ne_t hba8 (by decide) rfl
   ·exact (hk8.chg hc9 fun e=>by subst e;exact hk8.ne_t hbl8 (by decide) rfl).chg hc10 fun e=>by subst e;exact hk8.ne_t hba8 (by decide) rfl
   ·exact ho10.base (by omega)
   ·exact hq10
   ·intro k hk e
    have h1:=hoT k hk
    rcases hq2b with e2 | e2
    ·rw [e2] at e
     have:=hqo k e h1.2
     have:=(hsl3.lt k this).2
     omega
    ·rw [e2] at e
     cases e
     have:=hc7.size
     omega
   ·exact hB01.trans (hch.below (by omega) fun i hi e=>by
     rcases e with e | e | e
     ·omega
     ·omega
     ·have:=(hslO.lt i e).1;omega)
   ·cases hsb:sl.blk with
    | none=>exact .inl rfl
    | some k =>
     obtain ⟨cs,hcs⟩:=hslO.blk_t hsb
     exact .inr ⟨k,cs,rfl,hcs⟩
 refine cond_of (fun e=>?_) fun e=>?_
 ·have e0:r.2.1=0:=by have:=eq_of_beq e;omega
  refine all_of (hba.ext hB2) rfl fun w3 h3 hc3 hs3=>?_
  refine main ⟨none,0,0⟩ w3 h3 ?_ ((Chg.of_ext (S:=fun k=>k=ba) hB2).trans hc3 fun i _ hi=>hi) (hp2.chg hc3 (by omega))
  unfold aheadOf
  rw [if_pos e0]
  exact Own.nil _ _ _
 ·have e0:r.2.1≠0:=fun h=>by rw [h] at e;cases e
  refine main sa w2 (hba.ext hB2) ?_ (Chg.of_ext hB2) hp2
  unfold aheadOf
  rw [if_neg e0]
  exact hsa.ext hB2
end
end Go.Proofs.YtmagnpcgpinmcaaGreat
set_option linter.unusedVariables false
namespace Go.Proofs.YtmagnpcgpinmcaaGreat
open Go.Vc Go.RowKit
set_option maxRecDepth 400000
theorem rowPix_le (W:Nat) (P:List UInt8) (r:PassP×Nat×Nat) (n:Nat):(rowPix W P r n).length≤4*n:=by
 unfold rowPix
 induction n with
 | zero=>simp
 | succ n ih =>
  rw [List.range_succ,List.flatMap_append,List.length_append]
  simp only [List.flatMap_cons,List.flatMap_nil,List.append_nil,List.length_take,List.length_drop]
  omega
theorem enc_len (W:Nat) (P:List UInt8) (kd:Nat):∀(L:List (PassP×Nat×Nat)) (st:List UInt8×List UInt8),(∀r∈L,r.2.2≤W)→(L.foldl (encRow W P kd) st).1.length≤st.1.length+L.length*(1+4*W)
 | [],st,_=>by simp
 | r::L,st,h=>by
  rw [List.foldl_cons,List.length_cons,Nat.add_mul,Nat.one_mul]
  have ih:=enc_len W P kd L (encRow W P kd st r) fun q hq=>h q (List.mem_cons_of_mem _ hq)
  have hr:=rowPix_le W P r r.2.2
  have hw:=h r List.mem_cons_self
  have e:(encRow W P kd st r).1.length=st.1.length+1+(rowPix W P r r.2.2).length:=by
   unfold encRow
   simp only [List.length_append,List.length_singleton,doP_length]
  omega
theorem flat_len2 (W H:Nat):∀ps:List PassP,(ps.flatMap (rowsOf W H)).length≤ps.length*H
 | []=>by simp
 | p::r=>by
  have:=flat_len2 W H r
  have h2:=(sizeP_le p W H).2
  rw [List.flatMap_cons,List.length_append,rowsOf_length,List.length_cons,Nat.add_mul,Nat.one_mul]
  omega
theorem rowsL_len2 {h:T_png_Head} {W H:Nat} (ho:HeadOk h W H):(rowsL h).length≤7*H:=by
 unfold rowsL
 rw [ho.wn,ho.hn]
 exact Nat.le_trans (flat_len2 W H (passesP h.Lace)) (Nat.mul_le_mul_right _ (passes_len h.Lace))
theorem rowsL_w {h:T_png_Head} {W H:Nat} (ho:HeadOk h W H):∀r∈rowsL h,r.2.2≤W:=by
 intro r hr
 obtain ⟨L,R,e⟩:=List.append_of_mem hr
 rw [(rowsL_split ho e).w]
 exact (sizeP_le _ _ _).1
theorem encHead_ok {W H:Nat} (lace:Bool) (h1:1≤W) (h2:W≤16384) (h3:1≤H) (h4:H≤16384):HeadOk (encHead W H lace) W H:=⟨rfl,rfl,h1,h2,h3,h4⟩
theorem enc_ahead {h:T_png_Head} {W H:Nat} (ho:HeadOk h W H) {P:List UInt8} (hl:P.length=4*W*H) (kd:Nat) {L R:List (PassP×Nat×Nat)} {r:PassP×Nat×Nat} (hL:rowsL h=L++r::R) :
  aheadOf r.2.1 (L.foldl (encRow W P kd) ([],[])).2=[]∨(aheadOf r.2.1 (L.foldl (encRow W P kd) ([],[])).2).length=4*r.2.2:=by
 have hra:=rowsL_split ho hL
 unfold aheadOf
 by_cases h0:r.2.1=0
 ·rw [if_pos h0];exact .inl rfl
 rw [if_neg h0]
 right
 rcases hra.last with e | ⟨L',e⟩
 ·exact absurd e h0
 subst e
 rw [List.foldl_append]
 show (rowPix W P (r.1,r.2.1-1,r.2.2) r.2.2).length=_
 refine rowPix_len (r:=(r.1,r.2.1-1,r.2.2)) hl r.2.2 fun x hx=>?_
 have hx':x<(sizeP r.1 W H).1:=by rw [←hra.w];exact hx
 have hy':r.2.1-1<(sizeP r.1 W H).2:=by have:=hra.y;omega
 exact (pix_room hx' hy').1
section
variable {w:World}
theorem Encode_spec {s:Slc} {P:List UInt8} {W H:Nat} {lace:Bool} {kind:Int} (hP:Rd E_uint8 w s P) (hl:P.length=4*W*H) (hW1:1≤W) (hW2:W≤1000) (hH1:1≤H) (hH2:H≤1000) {K:Slc→World→Prop}
  (hK:∀t w',Go.Vc.Own E_uint8 w' w.heap.size t (encodeP W H P lace kind)→Below w.heap.size w w'→K t w'):c_png_Encode ⟨W,H,s⟩ lace kind w K:=by
 refine call_png_Encode _ _ _ ?_
 unfold sh_png_Encode
 refine nw_blk fun w1 h1 hB1 hs1=>nw_blk fun w2 h2 hB2 hs2=>?_
 have hB12:=below_t hB1 hB2
 have hm:=h1.ext hB2
 refine ldI_of (x:=(W:Int)) (hm.cells 0 _ rfl) (ldI_of (x:=(H:Int)) (hm.cells 1 _ rfl) ?_)
 refine nw_blk fun w3 h3 hB3 hs3=>all_of h3 rfl fun w4 h4 hc4 hs4=>?_
 have hB24:Below w2.heap.size w2 w4:=below_one hB3 hc4 (Nat.le_refl _)
 have hB4:=below_t hB12 hB24
 have hm4:=hm.ext hB24
 have hk4:=h2.ext hB24
 have hho:=encHead_ok (W:=W) (H:=H) lace hW1 (by omega) hH1 (by omega)
 refine joinP_of fun J1 hJ1=>?_
 have main1:∀w5,Blk w5 w2.heap.size ty_png_Head (T_png_Head.rep.cells (encHead W H lace))→Blk w5 w.heap.size ty_api_Matrix (T_api_Matrix.rep.cells ⟨W,H,s⟩)→Blk w5 w1.heap.size ty_int [.int .i64 kind]→Below w.heap.size w w5→J1 () w5:=by
  intro w5 hh5 hm5 hk5 hB5
  refine hJ1 _ _ (joinP_of fun J2 hJ2=>?_)
  have main2:∀w6,Blk w6 w2.heap.size ty_png_Head (T_png_Head.rep.cells (encHead W H lace))→Blk w6 w.heap.size ty_api_Matrix (T_api_Matrix.rep.cells ⟨W,H,s⟩)→Blk w6 w1.heap.size ty_int [.int .i64 ((kindOf kind:Nat):Int)]→Below w.heap.size w w6→J2 () w6:=by
   intro w6 hh6 hm6 hk6 hB6
   refine hJ2 _ _ ?_
   refine nw_blk fun w7 h7 hB7 hs7=>nw_blk fun w8 h8 hB8 hs8=>?_
   have hB68:=below_t hB7 hB8
   have hB08:=below_t hB6 hB68
   refine ldS_of (r:=T_png_Head.rep) (x:=encHead W H lace) (hh6.ext hB68).cells ?_
   have hs6:=hB6.size
   have h26:=hh6.lt
   have hkd:kindOf kind≤4:=by unfold kindOf;split<;>omega
   have hI0:EnI w W H s (kindOf kind) w7.heap.size w6.heap.size w.heap.size w1.heap.size ([],[]) w8 :=
    ⟨hm6.ext hB68,hk6.ext hB68,⟨⟨none,0,0⟩,⟨none,0,0⟩,h8,Own.nil _ _ _,h7.ext hB8,Own.nil _ _ _,fun k hk=>by cases hk⟩,hB08⟩
   refine rows_spec hho (fun L w9=>EnI w W H s (kindOf kind) w7.heap.size w6.heap.size w.heap.size w1.heap.size (L.foldl (encRow W P (kindOf kind)) ([],[])) w9∧Blk w9 w2.heap.size ty_png_Head (T_png_Head.rep.cells (encHead W H lace))) (fun _=>False) ⟨hI0,hh6.ext hB68⟩ ?_ ?_ ?_ (fun _ h=>h.elim)
   ·rintro L wa wb ⟨⟨a1,a2,⟨sa,sl,a3,a4,a5,a6,a7⟩,a8⟩,b⟩ hB
    exact ⟨⟨a1.ext hB,a2.ext hB,⟨sa,sl,a3.ext hB,a4.ext hB,a5.ext hB,a6.ext hB,a7⟩,below_t a8 hB⟩,b.ext hB⟩
   ·rintro L r R wa hL ⟨a,b⟩ hsa J hj1 hj0
    refine callR_plain (by kernel_rfl) ?_
    have hlen:=enc_len W P (kindOf kind) L ([],[]) (fun q hq=>rowsL_w hho q (by rw [hL];exact List.mem_append.2 (.inl hq)))
    have hLl:L.length≤7*H:=by have:=rowsL_len2 hho;rw [hL,List.length_append] at this;omega
    have hlw:L.length*(1+4*W)≤7000*4001:=Nat.mul_le_mul (by omega) (by omega)
    have hcall:c_png_Encode_1 (passT r.1) (r.2.1:Int) (r.2.2:Int) ⟨w7.heap.size,0,none⟩ ⟨w.heap.size,0,none⟩ ⟨w1.heap.size,0,none⟩ ⟨w6.heap.size,0,none⟩ wa J:=by
     refine encRow1_spec hho hP hl hkd (by omega) (by omega) (by omega) hL (enc_ahead hho hl (kindOf kind) hL) (by simp only [List.length_nil] at hlen;omega) a fun wb row hI hrow hch=>?_
     obtain ⟨sa,sl,q1,_,q2,_⟩:=a.ex
     refine hj1 wb ⟨?_,?_⟩ ?_ hch.size
     ·rw [List.foldl_append];exact hI
     ·refine b.chg hch fun e=>?_
      rcases e with e | e | e
      ·omega
      ·omega
      ·rcases hrow with h | ⟨k,cs,h,hk⟩
       ·rw [h] at e;cases e
       ·rw [h] at e
        cases e
        exact b.ne_t hk (by decide) rfl
     ·refine keepT_of hch fun k hk=>?_
      rcases hk with rfl | rfl | hk
      ·exact ⟨_,_,q1,by decide,by decide⟩
      ·exact ⟨_,_,q2,by decide,by decide⟩
      ·rcases hrow with h | ⟨k',cs,h,hk'⟩
       ·rw [h] at hk;cases hk
       ·rw [h] at hk
        cases hk
        exact ⟨_,_,hk',by decide,by decide⟩
    refine Calls.mono hcall ?_
    rintro e w' ⟨r,rfl,hk⟩
    exact ⟨r,rfl,hk⟩
   ·rintro w9 ⟨⟨a1,a2,⟨sa,sl,a3,a4,a5,a6,a7⟩,a8⟩,b⟩
    have hall:((rowsL (encHead W H lace)).foldl (encRow W P (kindOf kind)) ([],[])).1=encAll W H P lace kind:=rfl
    rw [hall] at a6
    have hlen:=enc_len W P (kindOf kind) (rowsL (encHead W H lace)) ([],[]) (rowsL_w hho)
    rw [hall] at hlen
    have hLl:=rowsL_len2 hho
    have hlw:(rowsL (encHead W H lace)).length*(1+4*W)≤7000*4001:=Nat.mul_le_mul (by omega) (by omega)
    have hal:(encAll W H P lace kind).length≤28007000:=by simp only [List.length_nil] at hlen;omega
    have hBd:=below_drew w9
    obtain ⟨lb,hlb⟩:∃lb:UInt8,lb=if lace then 1 else 0:=⟨_,rfl⟩
    have hlace:(encHead W H lace).Lace=((lb.toNat:Nat):Int):=by rw [hlb];cases lace<;>rfl
    obtain ⟨lv,hlv⟩:∃lv:Int,lv=((lb.toNat:Nat):Int):=⟨_,rfl⟩
    have cm0:∀{w'},Below w9.heap.size w9 w'→w'.cell? ((⟨w.heap.size,0,none⟩:Addr).add 0)=some (.int .i64 (W:Int)):=fun hB=>(a1.ext hB).cells 0 _ rfl
    have cm1:∀{w'},Below w9.heap.size w9 w'→w'.cell? ((⟨w.heap.size,0,none⟩:Addr).add 1)=some (.int .i64 (H:Int)):=fun hB=>(a1.ext hB).cells 1 _ rfl
    have ch4:∀{w'},Below w9.heap.size w9 w'→w'.cell? ((⟨w2.heap.size,0,none⟩:Addr).add 4)=some (.int .i64 lv):=fun hB=>by
     have:=(b.ext hB).cells 4 _ rfl
     rw [hlace] at this
     rw [hlv]
     exact this
    refine ldI_of (cm0 hBd) (ldI_of (cm1 hBd) (ldI_of (ch4 hBd) ?_))
    have uW:IntKind.u32.wrap (W:Int)=(W:Int):=wrap_nat .u32 (show W<2^32 by omega)
    have uH:IntKind.u32.wrap (H:Int)=(H:Int):=wrap_nat .u32 (show H<2^32 by omega)
    rw [uW,uH]
    have hlb1:lb.toNat≤1:=by rw [hlb];cases lace<;>decide
    have uL:IntKind.u8.wrap lv=lv:=by rw [hlv];exact wrap_nat .u8 (show lb.toNat<2^8 by omega)
    rw [uL]
    have hl5:∀{w':World} {t5:Nat},Blk w' t5 ty_uint8 [(.int .u8 8),(.int .u8 6),(.int .u8 0),(.int .u8 0),(.int .u8 lv)]→Rd E_uint8 w' ⟨some ⟨t5,0,none⟩,5,5⟩ [8,6,0,0,lb]:=fun h=>by
     rw [hlv] at h
     exact rd_lits (E:=E_uint8) (ys:=[8,6,0,0,lb]) h (by simp [maxLen]) rfl
    have tail:∀(q30 q34 q38:Addr) w12,Rd E_uint8 w12 ⟨some q30,4,4⟩ (be4 W)→Rd E_uint8 w12 ⟨some q34,4,4⟩ (be4 H)→Rd E_uint8 w12 ⟨some q38,5,5⟩ [8,6,0,0,lb]→Below w9.heap.size w9 w12 →
      nw ty_sl_uint8 [(.slice (⟨some q30,4,4⟩:Slc).a (⟨some q30,4,4⟩:Slc).n (⟨some q30,4,4⟩:Slc).c),(.slice (⟨some q34,4,4⟩:Slc).a (⟨some q34,4,4⟩:Slc).n (⟨some q34,4,4⟩:Slc).c),(.slice (some q38) 5 5)] w12 fun t39 w13 =>
      c_slices_Concat_byte_byte (⟨(some t39),3,3⟩:Slc) w13 fun t40 w14 =>
      ldSl (⟨w6.heap.size,0,none⟩:Addr) w14 fun t43 =>
      c_zlib_Pack t43 false w14 fun t44 w15 =>
      nw ty_png_Chunk [(.string (⟨#[73,72,68,82]⟩:ByteArray)),(.slice t40.a t40.n t40.c),(.string (⟨#[73,68,65,84]⟩:ByteArray)),(.slice t44.a t44.n t44.c),(.string (⟨#[73,69,78,68]⟩:ByteArray)),(.slice none 0 0)] w15 fun t47 w16 =>
      c_png_Lay (⟨(some t47),3,3⟩:Slc) w16 fun t48 w17=>K t48 w17:=by
     intro q30 q34 q38 w12 h30 h34 h38 hB12'
     refine ConcatB3 (a:=⟨some q30,4,4⟩) (b:=⟨some q34,4,4⟩) (c:=⟨some q38,5,5⟩) h30 h34 h38 (by rw [be4_len,be4_len];simp only [List.length_cons,List.length_nil];omega) fun t40 w14 h40 hB14=>?_
     have hB914:=below_t hB12' hB14
     refine ldSl_of (x:=sl) (at_cell (a5.ext hB914)) ?_
     refine Pack_spec (a6.ext hB914).rd (by omega) fun t44 body w15 h44 hb0 _ hB15=>?_
     have hb0:=hb0 rfl
     subst hb0
     have hble:=(body_le (fixed:=false) (body:=storeL (encAll W H P lace kind)) (bs:=encAll W H P lace kind) ⟨fun _=>rfl,fun h=>by cases h⟩).1
     refine nw_blk fun w16 h16 hB16 hs16=>?_
     have hB1416:=below_t hB15 hB16
     have hrd:Rd E_png_Chunk w16 ⟨some ⟨w15.heap.size,0,none⟩,3,3⟩ [⟨strB ihdrL,t40⟩,⟨strB idatL,t44⟩,⟨strB iendL,⟨none,0,0⟩⟩]:=rd_lits (E:=E_png_Chunk) (ys:=[⟨strB ihdrL,t40⟩,⟨strB idatL,t44⟩,⟨strB iendL,⟨none,0,0⟩⟩]) h16 (by simp [maxLen]) rfl
     have hC:ChsA w16 [⟨strB ihdrL,t40⟩,⟨strB idatL,t44⟩,⟨strB iendL,⟨none,0,0⟩⟩] (encCh W H P lace kind):=by
      refine ⟨rfl,fun i x c hx hc=>?_⟩
      match i,hx,hc with
      | 0,hx,hc=>cases hx;cases hc;exact ⟨rfl,by have:=(h40.ext hB1416).rd;rw [hlb] at this;exact this⟩
      | 1,hx,hc=>cases hx;cases hc;exact ⟨rfl,(h44.ext hB16).rd⟩
      | 2,hx,hc=>cases hx;cases hc;exact ⟨rfl,Rd.nil _ _⟩
      | i+3,hx,hc=>simp at hx
     have hds:dsum (encCh W H P lace kind)≤1000000000:=by
      have hp:(packL (storeL (encAll W H P lace kind)) (encAll W H P lace kind)).length=6+(storeL (encAll W H P lace kind)).length:=by
       unfold packL
       simp only [List.length_append,be4_len,List.length_cons,List.length_nil]
       omega
      unfold dsum encCh
      simp only [List.map_cons,List.map_nil,List.sum_cons,List.sum_nil,List.length_append,be4_len,List.length_cons,List.length_nil,hp]
      omega
     refine Lay_spec hrd hC (by unfold encCh;simp only [List.length_cons,List.length_nil];omega) hds fun t48 w17 h48 hB17=>?_
     have hB916:=below_t hB914 hB1416
     exact hK t48 w17 (h48.base (by have:=hB916.size;have:=a8.size;omega)) (below_t (below_t a8 hB916) hB17)
    refine ⟨?_,?_⟩
    ·refine big_spec (by omega) fun t30 w10 h30 hB10=>?_
     have hB910:=below_t hBd hB10
     refine ⟨ch4 hB910,cm1 hB910,?_,?_⟩
     ·refine big_spec (by omega) fun t34 w11 h34 hB11=>?_
      have hB911:=below_t hB910 hB11
      refine ⟨ch4 hB911,nw_blk fun w12 h12 hB12' hs12=>?_⟩
      have hB912:=below_t hB911 hB12'
      refine ⟨cm1 hB912,cm0 hB912,?_⟩
      exact tail t30 t34 _ w12 ((h30.ext hB11).ext hB12') (h34.ext hB12') (hl5 h12) hB912
     ·refine nw_blk fun w12 h12 hB12' hs12=>?_
      have hB912:=below_t hB910 hB12'
      refine ⟨cm1 hB912,cm0 hB912,big_spec (by omega) fun t34 w11 h34 hB11=>?_⟩
      have hB911:=below_t hB912 hB11
      exact ⟨ch4 hB911,tail t30 t34 _ w11 ((h30.ext hB12').ext hB11) h34 (hl5 (h12.ext hB11)) hB911⟩
    ·refine nw_blk fun w12 h12 hB12' hs12=>?_
     have hB912:=below_t hBd hB12'
     refine ⟨cm1 hB912,cm0 hB912,big_spec (by omega) fun t30 w10 h30 hB10=>?_⟩
     have hB910:=below_t hB912 hB10
     refine ⟨ch4 hB910,cm1 hB910,big_spec (by omega) fun t34 w11 h34 hB11=>?_⟩
     have hB911:=below_t hB910 hB11
     exact ⟨ch4 hB911,tail t30 t34 _ w11 (h30.ext hB11) h34 (hl5 ((h12.ext hB10).ext hB11)) hB911⟩
  refine ldI_of (x:=kind) (at_cell hk5) ?_
  have hset:kindOf kind=0→stK ⟨w1.heap.size,0,none⟩ [(.int .i64 0)] w5 fun w33=>J2 () w33:=by
   intro h0
   refine all_of hk5 rfl fun w6 h6 hc6 hs6=>?_
   rw [h0] at main2
   exact main2 w6 (hh5.chg hc6 (by omega)) (hm5.chg hc6 (by omega)) h6 (below_one hB5 hc6 (by omega))
  refine cond_of (fun e=>?_) fun e1=>?_
  ·have e:=of_decide_eq_true e
   exact hset (by unfold kindOf;rw [if_pos (.inl e)])
  have e1:=of_decide_eq_false e1
  refine ldI_of (x:=kind) (at_cell hk5) (cond_of (fun e=>?_) fun e2=>?_)
  ·have e:=of_decide_eq_true e
   exact hset (by unfold kindOf;rw [if_pos (.inr e)])
  have e2:=of_decide_eq_false e2
  have hkk:((kindOf kind:Nat):Int)=kind:=by unfold kindOf;rw [if_neg (by omega)];omega
  rw [hkk] at main2
  exact main2 w5 hh5 hm5 hk5 hB5
 cases lace with
 | true =>
  refine cond_t rfl ?_
  rw [add_mk]
  refine stK_blk h4 (by simp) fun w5 hb5 hg5 hs5=>?_
  have hc5:Chg (fun k=>k=w2.heap.size) w4 w5:=Chg.gg hg5
  exact main1 w5 hb5 (hm4.chg hc5 (by omega)) (hk4.chg hc5 (by omega)) (below_one hB4 hc5 (by omega))
 | false=>exact cond_f rfl (main1 w4 h4 hm4 hk4 hB4)
end
end Go.Proofs.YtmagnpcgpinmcaaGreat
set_option linter.unusedVariables false
namespace Go.Proofs.YtmagnpcgpinmcaaGreat
open Go.Vc
set_option maxRecDepth 400000
theorem unpack_pack {bs:List UInt8} {most:Nat} (hm:bs.length≤most):unErr most (packL (storeL bs) bs)=0∧unOut most (packL (storeL bs) bs)=bs∧unUsed most (packL (storeL bs) bs)=(packL (storeL bs) bs).length:=by
 have hbd:isBody false (storeL bs) bs:=⟨fun _=>rfl,fun h=>by cases h⟩
 obtain ⟨c',p',hch,h5,hh,hp⟩:=body_run (tail:=be4 (adlN bs)++[]) (most:=most) hbd hm
 have hpk:packL (storeL bs) bs=[120,1]++storeL bs++be4 (adlN bs)++[]:=by unfold packL;rw [List.append_nil]
 obtain ⟨u1,u2,u3⟩:=unRun_spec most (packL (storeL bs) bs)
 have hd:(packL (storeL bs) bs).drop 2=storeL bs++(be4 (adlN bs)++[]):=by rw [hpk,packed_drop]
 rw [hd] at u1 u2
 have hs5:=step1_five (most:=most) (B:=storeL bs++(be4 (adlN bs)++[])) (a:=p') h5
 obtain ⟨e1,e2⟩:=Ch.same u1 hch (fun c' a' e=>by rw [u2] at e;exact u3 _ _ e) (fun c' a' e=>by rw [hs5] at e;cases e)
 have e3:(unRun most (packL (storeL bs) bs)).2.2=.short:=by rw [←u2,e1,e2,hs5]
 have ez:=zerr_of (more:=[]) (s:=be4 (adlN bs)) h5 hp rfl hh
 rw [if_pos (big_be4 (adlN_lt bs)),←hpk] at ez
 refine ⟨?_,?_,?_⟩
 ·unfold unErr
  rw [e1,e2,e3]
  exact ez
 ·unfold unOut
  rw [e1,hh]
 ·unfold unUsed
  rw [e2,hp,hpk]
  simp only [List.length_append,be4_len,List.length_cons,List.length_nil]
  omega
structure ChGood (c:ChL):Prop where
 k:c.kind.length=4
 l:c.kind.all letterP=true
 d:c.data.length<2^31
theorem kind4_good {c:ChL} (h:ChGood c):kind4 c.kind=c.kind:=by
 unfold kind4
 rw [h.k,List.take_of_length_le (by rw [h.k];exact Nat.le_refl _)]
 simp
theorem chunkP_lay {c:ChL} (h:ChGood c) (rest:List UInt8):chunkP (layC c++rest)=.ok c (12+c.data.length)∧(layC c++rest).drop (12+c.data.length)=rest:=by
 have hk:=h.k
 have hd:=h.d
 have hl:(layC c++rest).length=12+c.data.length+rest.length:=by rw [List.length_append,layC_len]
 have e0:layC c++rest=be4 c.data.length++(c.kind++(c.data++(be4 (crcN (c.kind++c.data))++rest))):=by
  unfold layC
  rw [kind4_good h]
  simp [List.append_assoc]
 have e4:(layC c++rest).take 4=be4 c.data.length:=by rw [e0];exact List.take_left' (be4_len _)
 have d4:(layC c++rest).drop 4=c.kind++(c.data++(be4 (crcN (c.kind++c.data))++rest)):=by rw [e0];exact List.drop_left' (be4_len _)
 have d8:(layC c++rest).drop 8=c.data++(be4 (crcN (c.kind++c.data))++rest):=by
  rw [show (8:Nat)=4+4 from rfl,←List.drop_drop,d4]
  exact List.drop_left' hk
 have dn:(layC c++rest).drop (8+c.data.length)=be4 (crcN (c.kind++c.data))++rest:=by
  rw [←List.drop_drop,d8]
  exact List.drop_left' rfl
 have hn:bigN ((layC c++rest).take 4)=c.data.length:=by rw [e4,big_be4 (by omega)]
 have t8:((layC c++rest).take 8).drop 4=c.kind:=by
  rw [List.drop_take,d4]
  exact List.take_left' hk
 have tn4:((layC c++rest).take (8+c.data.length)).drop 4=c.kind++c.data:=by
  rw [List.drop_take,d4,←List.append_assoc]
  exact List.take_left' (by rw [List.length_append];omega)
 have tn8:((layC c++rest).take (8+c.data.length)).drop 8=c.data:=by
  rw [List.drop_take,d8]
  exact List.take_left' (by omega)
 refine ⟨?_,?_⟩
 ·unfold chunkP
  rw [hn,t8,tn4,tn8,dn,if_neg (by omega),if_neg (by omega),if_neg (by omega),if_neg (by rw [h.l];simp),if_neg (by omega),if_neg]
  intro hne
  refine hne ?_
  have:(be4 (crcN (c.kind++c.data))++rest).take 4=be4 (crcN (c.kind++c.data)):=List.take_left' (be4_len _)
  rw [this,big_be4 (crcN_lt _)]
 ·rw [show 12+c.data.length=8+c.data.length+4 by omega,←List.drop_drop,dn]
  exact List.drop_left' (be4_len _)
theorem chunksF_lay (rest:List UInt8):∀(L:List ChL) (e:ChL) (f:Nat),(∀c∈L,ChGood c∧c.kind≠iendL)→ChGood e→e.kind=iendL→L.length<f→chunksF false f (L.flatMap layC++(layC e++rest))=(0,L++[e])
 | [],e,f+1,_,he,hk,_=>by
  rw [List.flatMap_nil,List.nil_append,chunksF,(chunkP_lay he rest).1]
  simp [hk]
 | c::L,e,f+1,hL,he,hk,hf=>by
  obtain ⟨hc,hck⟩:=hL c List.mem_cons_self
  rw [List.flatMap_cons,List.append_assoc,chunksF,(chunkP_lay hc _).1]
  have ih:=chunksF_lay rest L e f (fun d hd=>hL d (List.mem_cons_of_mem _ hd)) he hk (by rw [List.length_cons] at hf;omega)
  dsimp only
  rw [(chunkP_lay hc _).2,ih]
  simp [hck]
theorem signP_lay (b:List UInt8):signP (signL++b)=0∧(signL++b).drop 8=b:=by
 refine ⟨?_,List.drop_left' rfl⟩
 unfold signP
 have h1:(signL++b).take 8=signL:=List.take_left' rfl
 have hl:(signL++b).length=8+b.length:=by rw [List.length_append];rfl
 rw [h1,hl,List.take_of_length_le (show signL.length≤8+b.length by show 8≤_;omega),if_neg (by simp),if_neg (by omega)]
theorem chunksP_lay (L:List ChL) (e:ChL) (rest:List UInt8) (hL:∀c∈L,ChGood c∧c.kind≠iendL) (he:ChGood e) (hk:e.kind=iendL):chunksP false (signL++(L.flatMap layC++(layC e++rest)))=(0,L++[e]):=by
 obtain ⟨h1,h2⟩:=signP_lay (L.flatMap layC++(layC e++rest))
 have hlen:L.length<(signL++(L.flatMap layC++(layC e++rest))).length:=by
  have:L.length≤(L.flatMap layC).length:=by
   clear h1 h2 hL
   induction L with
   | nil=>simp
   | cons c L ih=>rw [List.flatMap_cons,List.length_append,layC_len,List.length_cons];omega
  simp only [List.length_append]
  show _<8+_
  omega
 have hc:=chunksF_lay rest L e _ hL he hk hlen
 unfold chunksP
 rw [h1,h2,if_neg (by decide),hc,if_neg (by simp)]
theorem chunksP_one (c:ChL) (rest:List UInt8) (hc:ChGood c):chunksP true (signL++(layC c++rest))=(0,[c]):=by
 obtain ⟨h1,h2⟩:=signP_lay (layC c++rest)
 have hl:(signL++(layC c++rest)).length=((layC c++rest).length+7)+1:=by rw [List.length_append];show 8+_=_;omega
 have hf:chunksF true (((layC c++rest).length+7)+1) (layC c++rest)=(0,[c]):=by
  rw [chunksF,(chunkP_lay hc _).1]
  rfl
 unfold chunksP
 rw [h1,h2,hl,hf,if_neg (by decide),if_neg (by simp)]
def headD (W H:Nat) (lace:Bool):List UInt8:=be4 W++be4 H++[8,6,0,0,if lace then 1 else 0]
theorem headP_enc {W H:Nat} (lace:Bool) (h1:1≤W) (h2:W≤16384) (h3:1≤H) (h4:H≤16384):headP ⟨ihdrL,headD W H lace⟩=(0,encHead W H lace):=by
 have hof:headOf (headD W H lace)=encHead W H lace:=by
  have e1:(headD W H lace).take 4=be4 W:=by unfold headD;rw [List.append_assoc];exact List.take_left' (be4_len _)
  have e2:((headD W H lace).drop 4).take 4=be4 H:=by
   unfold headD
   rw [List.append_assoc,List.drop_left' (be4_len _)]
   exact List.take_left' (be4_len _)
  unfold headOf
  rw [e1,e2,big_be4 (by omega),big_be4 (by omega)]
  unfold encHead
  have g8:(headD W H lace)[8]?=some 8:=rfl
  have g9:(headD W H lace)[9]?=some 6:=rfl
  have g12:(headD W H lace)[12]?=some (if lace then 1 else 0):=rfl
  rw [g8,g9,g12]
  cases lace<;>rfl
 have hck:checkP (encHead W H lace)=0:=by
  unfold checkP encHead
  dsimp only
  rw [if_neg (by omega)]
  have hd:depthOk (⟨W,H,8,6,if lace then 1 else 0⟩:T_png_Head)=true:=by unfold depthOk;simp
  rw [hd]
  rw [if_neg]
  cases lace<;>decide
 unfold headP
 rw [hof,hck]
 rw [if_neg,if_neg (by decide)]
 intro h
 rcases h with h | h | h | h
 ·exact h rfl
 ·exact h rfl
 ·exact h rfl
 ·exact h rfl
theorem ihdr_good (W H:Nat) (lace:Bool):ChGood ⟨ihdrL,headD W H lace⟩:=⟨rfl,(by decide:ihdrL.all letterP=true),by show (13:Nat)<2^31;decide⟩
theorem iend_good:ChGood ⟨iendL,[]⟩:=⟨rfl,by decide,by decide⟩
theorem idat_good {d:List UInt8} (h:d.length<2^31):ChGood ⟨idatL,d⟩:=⟨rfl,(by decide:idatL.all letterP=true),h⟩
def encBytes (W:Nat) (P:List UInt8) (kd:Nat):List UInt8→List (PassP×Nat×Nat)→List UInt8
 | _,[]=>[]
 | ah,r::L=>(UInt8.ofNat kd::doP kd (rowPix W P r r.2.2) (aheadOf r.2.1 ah) 4)++encBytes W P kd (rowPix W P r r.2.2) L
theorem enc_fold (W:Nat) (P:List UInt8) (kd:Nat):∀(L:List (PassP×Nat×Nat)) (acc ah:List UInt8),(L.foldl (encRow W P kd) (acc,ah)).1=acc++encBytes W P kd ah L
 | [],acc,ah=>by simp [encBytes]
 | r::L,acc,ah=>by
  rw [List.foldl_cons]
  show (L.foldl (encRow W P kd) (acc++[UInt8.ofNat kd]++doP kd (rowPix W P r r.2.2) (aheadOf r.2.1 ah) 4,rowPix W P r r.2.2)).1=_
  rw [enc_fold W P kd L,encBytes]
  simp [List.append_assoc]
def putK (P:List UInt8) (ks:List Nat) (m:List UInt8):List UInt8:=ks.foldl (fun m k=>set4 m k ((P.drop k).take 4)) m
def rowKs (W:Nat) (r:PassP×Nat×Nat) (n:Nat):List Nat:=(List.range n).map fun x=>pixAt W r.1 r.2.1 x
theorem rowPix_get (W:Nat) (P:List UInt8) (r:PassP×Nat×Nat) {W' H:Nat} (hl:P.length=4*W'*H):∀n,(∀x,x<n→pixAt W r.1 r.2.1 x+4≤P.length)→∀x,x<n→((rowPix W P r n).drop (4*x)).take 4=(P.drop (pixAt W r.1 r.2.1 x)).take 4
 | 0,_,x,hx=>by omega
 | n+1,hn,x,hx=>by
  have hlen:(rowPix W P r n).length=4*n:=by
   clear hx
   have:∀k,k≤n→(rowPix W P r k).length=4*k:=by
    intro k
    induction k with
    | zero=>intro _;simp [rowPix]
    | succ k ih =>
     intro hk
     have:=hn k (by omega)
     rw [rowPix_succ,List.length_append,ih (by omega),List.length_take,List.length_drop]
     omega
   exact this n (Nat.le_refl _)
  rw [rowPix_succ]
  rcases Nat.lt_or_ge x n with h | h
  ·rw [List.drop_append_of_le_length (by omega),List.take_append_of_le_length (by rw [List.length_drop];omega)]
   exact rowPix_get W P r hl n (fun y hy=>hn y (by omega)) x h
  ·obtain rfl:x=n:=by omega
   rw [List.drop_left' hlen,List.take_of_length_le (by rw [List.length_take];omega)]
theorem sample8 {row:List UInt8} {i:Nat} {x:UInt8} (h:row[i]?=some x):sampleN row 8 i=x.toNat:=by
 unfold sampleN
 rw [if_neg (by decide),Nat.mul_div_cancel i (by decide),h,Nat.mul_mod_left]
 show x.toNat/2^0%2^8=_
 have:=x.toNat_lt
 rw [Nat.pow_zero,Nat.div_one]
 omega
theorem samples8 {row:List UInt8}:samplesP row 8 row.length=row.map (·.toNat):=by
 refine List.ext_getElem? fun i=>?_
 unfold samplesP
 rw [List.getElem?_map,List.getElem?_map]
 rcases Nat.lt_or_ge i row.length with h | h
 ·rw [List.getElem?_range h,List.getElem?_eq_getElem h]
  exact congrArg some (sample8 (List.getElem?_eq_getElem h))
 ·rw [List.getElem?_eq_none (by simpa using h),List.getElem?_eq_none h]
  rfl
structure FEnc (F:FilL) (W H:Nat) (lace:Bool):Prop where
 h:F.h=encHead W H lace
 t:F.hasT=false
theorem color_enc {F:FilL} {W H:Nat} {lace:Bool} (hF:FEnc F W H lace) (a b c d:UInt8):colorP F [a.toNat,b.toNat,c.toNat,d.toNat]=some [a,b,c,d]:=by
 have hc:F.h.Color=6:=by rw [hF.h];rfl
 have hd:F.h.Depth=8:=by rw [hF.h];rfl
 have he:∀v:UInt8,eightP F.h.Depth v.toNat=v:=fun v=>by
  unfold eightP
  rw [hd,if_pos rfl]
  exact UInt8.toNat_inj.1 (by rw [UInt8.toNat_ofNat'];have:=v.toNat_lt;omega)
 unfold colorP
 dsimp only
 rw [hF.t,Bool.false_and,if_neg (by rw [hc];decide),if_neg (by rw [hc];decide),if_neg (by decide),if_pos (Or.inr hc)]
 show some [eightP F.h.Depth a.toNat,eightP F.h.Depth b.toNat,eightP F.h.Depth c.toNat,eightP F.h.Depth d.toNat]=_
 rw [he,he,he,he]
theorem putRow_enc {F:FilL} {W H:Nat} {lace:Bool} (hF:FEnc F W H lace) {P:List UInt8} (hl:P.length=4*W*H) (r:PassP×Nat×Nat) {n:Nat} (hn:∀x,x<n→pixAt W r.1 r.2.1 x+4≤P.length):∀(k:Nat) (m:List UInt8),k≤n →
  putRow F r.1 r.2.1 ((rowPix W P r n).map (·.toNat)) k m=some (putK P (rowKs W r k) m)
 | 0,m,_=>rfl
 | k+1,m,hk=>by
  have hsm:samplesOf F.h.Color=4:=by rw [hF.h];rfl
  have hW:F.h.W.toNat=W:=by rw [hF.h];rfl
  rw [putRow,putRow_enc hF hl r hn k m (by omega)]
  dsimp only
  rw [hsm,hW]
  obtain ⟨a,b,c,d,ht,_⟩:=take4_of (hn k (by omega))
  have hs4:(((rowPix W P r n).map (·.toNat)).drop (4*k)).take 4=[a.toNat,b.toNat,c.toNat,d.toNat]:=by
   rw [←List.map_drop,←List.map_take,rowPix_get W P r hl n hn k (by omega),ht]
   rfl
  rw [hs4,color_enc hF]
  show some (set4 _ _ [a,b,c,d])=_
  unfold putK rowKs
  rw [List.range_succ,List.map_append,List.foldl_append,←ht]
  rfl
def allKs (W:Nat) (L:List (PassP×Nat×Nat)):List Nat:=L.flatMap fun r=>rowKs W r r.2.2
theorem rows_enc {F:FilL} {W H:Nat} {lace:Bool} (hF:FEnc F W H lace) (hW:W≤16384) {P:List UInt8} (hl:P.length=4*W*H) {kd:Nat} (hk:kd≤4) (rest:List UInt8):∀(L:List (PassP×Nat×Nat)) (ah m:List UInt8),(∀r∈L,1≤r.2.2∧r.2.2≤W∧∀x,x<r.2.2→pixAt W r.1 r.2.1 x+4≤P.length) →
  ∃ah',rowsRun F L ⟨encBytes W P kd ah L++rest,ah,m⟩=some ⟨rest,ah',putK P (allKs W L) m⟩
 | [],ah,m,_=>⟨ah,rfl⟩
 | r::L,ah,m,h=>by
  obtain ⟨hr1,hr2,hr3⟩:=h r List.mem_cons_self
  have hsm:samplesOf F.h.Color=4:=by rw [hF.h];rfl
  have hdep:F.h.Depth=8:=by rw [hF.h];rfl
  have hrow:rowB F.h r.2.2=4*r.2.2:=by
   unfold rowB rowP
   rw [hsm,hdep,if_neg (by
                have:isDepthP 8=true:=by decide
                rw [this];simp;omega)]
   have e:((r.2.2:Int)*((4:Nat):Int)*8+7)/8=4*(r.2.2:Int):=by omega
   rw [e]
   omega
  have hstep:pStepN F.h=4:=by unfold pStepN;rw [hsm,hdep];rfl
  have hpl:(rowPix W P r r.2.2).length=4*r.2.2:=by
   rw [hl] at hr3
   exact rowPix_len hl r.2.2 hr3
  have hdo:(doP kd (rowPix W P r r.2.2) (aheadOf r.2.1 ah) 4).length=4*r.2.2:=by rw [doP_length,hpl]
  have hone:rowStep F r ⟨encBytes W P kd ah (r::L)++rest,ah,m⟩=some ⟨encBytes W P kd (rowPix W P r r.2.2) L++rest,rowPix W P r r.2.2,putK P (rowKs W r r.2.2) m⟩:=by
   have hkd:(UInt8.ofNat kd).toNat=kd:=by rw [UInt8.toNat_ofNat'];omega
   have hE:encBytes W P kd ah (r::L)=(UInt8.ofNat kd::doP kd (rowPix W P r r.2.2) (aheadOf r.2.1 ah) 4)++encBytes W P kd (rowPix W P r r.2.2) L:=rfl
   unfold rowStep
   rw [hE,List.cons_append,List.cons_append]
   dsimp only
   rw [hkd,if_neg (by omega),hrow,hstep,List.append_assoc,List.take_left' hdo,List.drop_left' hdo,undo_do kd _ _ 4 (by decide)]
   have hsam:samplesP (rowPix W P r r.2.2) F.h.Depth.toNat (samplesOf F.h.Color*r.2.2)=(rowPix W P r r.2.2).map (·.toNat):=by
    rw [hsm,hdep,←hpl]
    exact samples8
   rw [hsam,putRow_enc hF hl r hr3 r.2.2 m (Nat.le_refl _)]
   rfl
  obtain ⟨ah',ih⟩:=rows_enc hF hW hl hk rest L (rowPix W P r r.2.2) (putK P (rowKs W r r.2.2) m) fun q hq=>h q (List.mem_cons_of_mem _ hq)
  refine ⟨ah',?_⟩
  rw [rowsRun,hone]
  dsimp only
  rw [ih]
  unfold putK allKs
  rw [List.flatMap_cons,List.foldl_append]
theorem putK_get (P:List UInt8):∀(ks:List Nat) (m:List UInt8),m.length=P.length→(∀k∈ks,k+4≤P.length)→(putK P ks m).length=P.length∧∀j,(putK P ks m)[j]?=if ∃k∈ks,k≤j∧j<k+4 then P[j]? else m[j]?
 | [],m,hm,_=>⟨hm,fun j=>by rw [if_neg (by simp)];rfl⟩
 | k::ks,m,hm,h=>by
  have hk:=h k List.mem_cons_self
  have hs:(set4 m k ((P.drop k).take 4)).length=P.length:=by
   unfold set4
   simp only [List.length_append,List.length_take,List.length_drop]
   omega
  obtain ⟨i1,i2⟩:=putK_get P ks (set4 m k ((P.drop k).take 4)) hs fun q hq=>h q (List.mem_cons_of_mem _ hq)
  refine ⟨i1,fun j=>?_⟩
  show (putK P ks (set4 m k ((P.drop k).take 4)))[j]?=_
  rw [i2 j]
  by_cases h1:∃q∈ks,q≤j∧j<q+4
  ·obtain ⟨q,hq,hj⟩:=h1
   rw [if_pos ⟨q,hq,hj⟩,if_pos ⟨q,List.mem_cons_of_mem _ hq,hj⟩]
  ·rw [if_neg h1]
   have hg:(set4 m k ((P.drop k).take 4))[j]?=if k≤j∧j<k+4 then P[j]? else m[j]?:=by
    unfold set4
    have l1:(m.take k).length=k:=by rw [List.length_take];omega
    have l2:((P.drop k).take 4).length=4:=by rw [List.length_take,List.length_drop];omega
    by_cases c1:j<k
    ·rw [if_neg (by omega),List.append_assoc,List.getElem?_append_left (by omega),List.getElem?_take_of_lt c1]
    ·rw [List.append_assoc,List.getElem?_append_right (by omega),l1]
     by_cases c2:j<k+4
     ·rw [if_pos (by omega),List.getElem?_append_left (by omega),List.getElem?_take_of_lt (by omega),List.getElem?_drop]
      congr 1
      omega
     ·rw [if_neg (by omega),List.getElem?_append_right (by omega),l2,List.getElem?_drop]
      congr 1
      omega
   rw [hg]
   by_cases h2:k≤j∧j<k+4
   ·rw [if_pos h2,if_pos ⟨k,List.mem_cons_self,h2⟩]
   ·rw [if_neg h2,if_neg]
    rintro ⟨q,hq,hj⟩
    rcases List.mem_cons.1 hq with rfl | hq
    ·exact h2 hj
    ·exact h1 ⟨q,hq,hj⟩
theorem adam7:∀a:Nat,a<8→∀b:Nat,b<8→∃p∈passesL,p.x≤a∧(a-p.x)%p.dx=0∧p.y≤b∧(b-p.y)%p.dy=0∧8%p.dx=0∧8%p.dy=0:=by decide +kernel
theorem div_step {X a x dx:Nat} (ha:a=X%8) (hx:x≤a) (h:(a-x)%dx=0) (h8:8%dx=0):(X-x)%dx=0:=by
 have e:X-x=8*(X/8)+(a-x):=by omega
 rw [e,Nat.add_mod,Nat.mul_mod,h8,Nat.zero_mul,h]
 simp
theorem covered {W H:Nat} {h:T_png_Head} (ho:HeadOk h W H) {X Y:Nat} (hX:X<W) (hY:Y<H):∃r∈rowsL h,∃x,x<r.2.2∧pixAt W r.1 r.2.1 x=4*(Y*W+X):=by
 have key:∃p∈passesP h.Lace,p.x≤X∧p.y≤Y∧(X-p.x)%p.dx=0∧(Y-p.y)%p.dy=0:=by
  unfold passesP
  split
  ·obtain ⟨p,hp,h1,h2,h3,h4,h5,h6⟩:=adam7 (X%8) (Nat.mod_lt _ (by decide)) (Y%8) (Nat.mod_lt _ (by decide))
   exact ⟨p,hp,by omega,by omega,div_step rfl h1 h2 h5,div_step rfl h3 h4 h6⟩
  ·exact ⟨⟨0,0,1,1⟩,by simp [onePass],Nat.zero_le _,Nat.zero_le _,Nat.mod_one _,Nat.mod_one _⟩
 obtain ⟨p,hp,h1,h2,h3,h4⟩:=key
 have hd:=passes_dx h.Lace p hp
 have ex:(X-p.x)/p.dx*p.dx=X-p.x:=Nat.div_mul_cancel (Nat.dvd_of_mod_eq_zero h3)
 have ey:(Y-p.y)/p.dy*p.dy=Y-p.y:=Nat.div_mul_cancel (Nat.dvd_of_mod_eq_zero h4)
 have hsz:sizeP p W H=((W-p.x-1)/p.dx+1,(H-p.y-1)/p.dy+1):=by unfold sizeP;rw [if_neg (by omega)]
 have hx:(X-p.x)/p.dx<(sizeP p W H).1:=by
  rw [hsz]
  exact Nat.lt_succ_of_le (Nat.div_le_div_right (by omega))
 have hy:(Y-p.y)/p.dy<(sizeP p W H).2:=by
  rw [hsz]
  exact Nat.lt_succ_of_le (Nat.div_le_div_right (by omega))
 refine ⟨(p,(Y-p.y)/p.dy,(sizeP p W H).1),?_,(X-p.x)/p.dx,hx,?_⟩
 ·unfold rowsL
  rw [ho.wn,ho.hn]
  refine List.mem_flatMap.2 ⟨p,hp,?_⟩
  unfold rowsOf
  exact List.mem_map.2 ⟨_,List.mem_range.2 hy,rfl⟩
 ·unfold pixAt
  rw [ex,ey,show p.y+(Y-p.y)=Y by omega,Nat.add_assoc,show p.x+(X-p.x)=X by omega]
theorem rowsL_room {h:T_png_Head} {W H:Nat} (ho:HeadOk h W H):∀r∈rowsL h,1≤r.2.2∧r.2.2≤W∧∀x,x<r.2.2→pixAt W r.1 r.2.1 x+4≤4*W*H:=by
 intro r hr
 obtain ⟨L,R,e⟩:=List.append_of_mem hr
 have ha:=rowsL_split ho e
 refine ⟨by rw [ha.w];exact sizeP_pos ha.y,by rw [ha.w];exact (sizeP_le _ _ _).1,fun x hx=>(pix_room (by rw [ha.w] at hx;exact hx) ha.y).1⟩
theorem pixels_enc {F:FilL} {W H:Nat} {lace:Bool} (hF:FEnc F W H lace) (h1:1≤W) (h2:W≤16384) (h3:1≤H) (h4:H≤16384) {P:List UInt8} (hl:P.length=4*W*H) (kind:Int):pixelsP F (encAll W H P lace kind)=some P:=by
 have ho:HeadOk F.h W H:=by rw [hF.h];exact encHead_ok lace h1 h2 h3 h4
 have hkd:kindOf kind≤4:=by unfold kindOf;split<;>omega
 have hroom:=rowsL_room ho
 rw [←hl] at hroom
 obtain ⟨ah',hrun⟩:=rows_enc hF h2 hl hkd [] (rowsL F.h) [] (List.replicate (4*W*H) 0) hroom
 rw [List.append_nil] at hrun
 have hall:encAll W H P lace kind=encBytes W P (kindOf kind) [] (rowsL F.h):=by
  unfold encAll
  rw [enc_fold,List.nil_append,hF.h]
 unfold pixelsP
 rw [ho.wn,ho.hn,hall,hrun]
 show some (putK P (allKs W (rowsL F.h)) (List.replicate (4*W*H) 0))=some P
 congr 1
 obtain ⟨k1,k2⟩:=putK_get P (allKs W (rowsL F.h)) (List.replicate (4*W*H) 0) (by rw [List.length_replicate,hl]) (fun k hk=>by
  unfold allKs at hk
  obtain ⟨r,hr,hk⟩:=List.mem_flatMap.1 hk
  unfold rowKs at hk
  obtain ⟨x,hx,rfl⟩:=List.mem_map.1 hk
  exact (hroom r hr).2.2 x (List.mem_range.1 hx))
 refine List.ext_getElem? fun j=>?_
 rcases Nat.lt_or_ge j P.length with hj | hj
 ·rw [k2 j,if_pos]
  have hq:j/4<W*H:=by rw [hl,Nat.mul_assoc] at hj;omega
  have hX:j/4%W<W:=Nat.mod_lt _ h1
  have hY:j/4/W<H:=(Nat.div_lt_iff_lt_mul h1).2 (by rw [Nat.mul_comm];exact hq)
  obtain ⟨r,hr,x,hx,e⟩:=covered ho hX hY
  refine ⟨pixAt W r.1 r.2.1 x,?_,?_⟩
  ·unfold allKs rowKs
   exact List.mem_flatMap.2 ⟨r,hr,List.mem_map.2 ⟨x,List.mem_range.2 hx,rfl⟩⟩
  ·have:=Nat.div_add_mod (j/4) W
   rw [Nat.mul_comm] at this
   rw [e,this]
   omega
 ·rw [List.getElem?_eq_none (by omega),List.getElem?_eq_none hj]
theorem need_enc {W H:Nat} {lace:Bool} (h1:1≤W) (h2:W≤16384) (h3:1≤H) (h4:H≤16384) {P:List UInt8} (hl:P.length=4*W*H) (kind:Int):(encAll W H P lace kind).length=needP (encHead W H lace):=by
 have ho:=encHead_ok (W:=W) (H:=H) lace h1 h2 h3 h4
 have hroom:=rowsL_room ho
 have key:∀(L:List (PassP×Nat×Nat)) (ah:List UInt8),(∀r∈L,1≤r.2.2∧r.2.2≤W∧∀x,x<r.2.2→pixAt W r.1 r.2.1 x+4≤4*W*H)→(encBytes W P (kindOf kind) ah L).length=needL (encHead W H lace) L:=by
  intro L
  induction L with
  | nil=>intro _ _;rfl
  | cons r L ih =>
   intro ah h
   obtain ⟨hr1,hr2,hr3⟩:=h r List.mem_cons_self
   have hrow:rowB (encHead W H lace) r.2.2=4*r.2.2:=by
    unfold rowB rowP
    show (if (r.2.2:Int)<1∨(r.2.2:Int)>16384∨((4:Nat):Int)<1∨((4:Nat):Int)>4∨isDepthP 8=false then 0 else (((r.2.2:Int)*((4:Nat):Int)*8+7)/8).toNat)=_
    rw [if_neg (by
            have:isDepthP 8=true:=by decide
            rw [this];simp;omega)]
    omega
   rw [encBytes,List.length_append,List.length_cons,doP_length,rowPix_len hl r.2.2 hr3,ih _ fun q hq=>h q (List.mem_cons_of_mem _ hq)]
   unfold needL
   rw [List.map_cons,List.sum_cons,hrow]
   omega
 unfold encAll
 rw [enc_fold,List.nil_append,key _ _ hroom]
 rfl
end Go.Proofs.YtmagnpcgpinmcaaGreat
set_option linter.unusedVariables false
namespace Go.Proofs.YtmagnpcgpinmcaaGreat
open Go.Vc
set_option maxRecDepth 400000
theorem headD_len (W H:Nat) (lace:Bool):(headD W H lace).length=13:=rfl
theorem encCh_eq (W H:Nat) (P:List UInt8) (lace:Bool) (kind:Int):encCh W H P lace kind=[⟨ihdrL,headD W H lace⟩,⟨idatL,packL (storeL (encAll W H P lace kind)) (encAll W H P lace kind)⟩,⟨iendL,[]⟩]:=rfl
theorem pack_len (bs:List UInt8):(packL (storeL bs) bs).length≤9*bs.length+26:=by
 have h:=(body_le (fixed:=false) (body:=storeL bs) (bs:=bs) ⟨fun _=>rfl,fun h=>by cases h⟩).1
 unfold packL
 simp only [List.length_append,be4_len,List.length_cons,List.length_nil]
 omega
theorem all_len {W H:Nat} (lace:Bool) (h1:1≤W) (h2:W≤1000) (h3:1≤H) (h4:H≤1000) {P:List UInt8} (hl:P.length=4*W*H) (kind:Int):(encAll W H P lace kind).length≤28007000:=by
 have hho:=encHead_ok (W:=W) (H:=H) lace h1 (by omega) h3 (by omega)
 have hlen:=enc_len W P (kindOf kind) (rowsL (encHead W H lace)) ([],[]) (rowsL_w hho)
 have hLl:=rowsL_len2 hho
 have hlw:(rowsL (encHead W H lace)).length*(1+4*W)≤7000*4001:=Nat.mul_le_mul (by omega) (by omega)
 simp only [List.length_nil] at hlen
 unfold encAll
 omega
def encData (W H:Nat) (P:List UInt8) (lace:Bool) (kind:Int):List UInt8:=packL (storeL (encAll W H P lace kind)) (encAll W H P lace kind)
theorem decF_enc {F:FilL} {W H:Nat} {lace:Bool} (hF:FEnc F W H lace) (h1:1≤W) (h2:W≤16384) (h3:1≤H) (h4:H≤16384) {P:List UInt8} (hl:P.length=4*W*H) (kind:Int) (hd:F.data=encData W H P lace kind):decF F=(0,W,H,P):=by
 have hn:needP F.h=(encAll W H P lace kind).length:=by rw [hF.h];exact (need_enc h1 h2 h3 h4 hl kind).symm
 obtain ⟨u1,u2,u3⟩:=unpack_pack (bs:=encAll W H P lace kind) (most:=needP F.h) (by omega)
 unfold decF
 rw [hd]
 unfold encData
 rw [u1,u2,u3,if_neg (by decide),if_neg (by omega),pixels_enc hF h1 h2 h3 h4 hl kind]
 show (0,F.h.W.toNat,F.h.H.toNat,P)=_
 rw [hF.h]
 rfl
theorem decodeP_of {b:List UInt8} {pixels:Int} {c:ChL} {l:List ChL} (h:chunksP false b=(0,c::l)):decodeP b pixels=if (readCh c l pixels).1≠0 then ((readCh c l pixels).1,0,0,[]) else decF (readCh c l pixels).2:=by
 unfold decodeP
 rw [readAll_of h]
theorem readCh_head {W H:Nat} (lace:Bool) (h1:1≤W) (h2:W≤16384) (h3:1≤H) (h4:H≤16384) {l:List ChL} {F:FilL} {pixels:Int} (ha:((W*H:Nat):Int)≤pixels∧((W*H:Nat):Int)≤67108864) (ht:takeAll (fil0 (encHead W H lace)) l=(0,F)) (hD:F.hasD=true) :
  readCh ⟨ihdrL,headD W H lace⟩ l pixels=(0,F):=by
 unfold readCh
 rw [headP_enc lace h1 h2 h3 h4,if_neg (by simp)]
 have hm:(encHead W H lace).W*(encHead W H lace).H=((W*H:Nat):Int):=by show (W:Int)*(H:Int)=_;simp
 have hc:(encHead W H lace).Color=6:=rfl
 dsimp only
 rw [hm,if_neg (by omega),ht,if_neg (by simp),if_neg]
 rw [hD,hc]
 simp
theorem encF (W H:Nat) (P:List UInt8) (lace:Bool) (kind:Int):takeAll (fil0 (encHead W H lace)) [⟨idatL,encData W H P lace kind⟩,⟨iendL,[]⟩]=(0,{ fil0 (encHead W H lace) with data:=encData W H P lace kind,hasD:=true,wasD:=false }):=by
 have e1:takeP (fil0 (encHead W H lace)) ⟨idatL,encData W H P lace kind⟩=(0,{ fil0 (encHead W H lace) with wasD:=true,hasD:=true,data:=encData W H P lace kind }):=by
  unfold takeP
  rw [if_neg (by show ¬idatL=ihdrL;decide),if_neg (by show ¬idatL=plteL;decide),if_neg (by show ¬idatL=trnsL;decide),if_pos rfl]
  rfl
 have e2:∀F:FilL,takeP F ⟨iendL,[]⟩=(0,{ F with wasD:=false }):=fun F=>by
  unfold takeP
  rw [if_neg (by show ¬iendL=ihdrL;decide),if_neg (by show ¬iendL=plteL;decide),if_neg (by show ¬iendL=trnsL;decide),if_neg (by show ¬iendL=idatL;decide),if_pos rfl,if_pos rfl]
 rw [takeAll,e1,if_neg (by simp)]
 dsimp only
 rw [takeAll,e2,if_neg (by simp)]
 rfl
theorem encData_good {W H:Nat} (lace:Bool) (h1:1≤W) (h2:W≤1000) (h3:1≤H) (h4:H≤1000) {P:List UInt8} (hl:P.length=4*W*H) (kind:Int):(encData W H P lace kind).length<2^31:=by
 have:=pack_len (encAll W H P lace kind)
 have:=all_len lace h1 h2 h3 h4 hl kind
 unfold encData
 omega
theorem chunks_enc {W H:Nat} (lace:Bool) (h1:1≤W) (h2:W≤1000) (h3:1≤H) (h4:H≤1000) {P:List UInt8} (hl:P.length=4*W*H) (kind:Int):chunksP false (encodeP W H P lace kind)=(0,[⟨ihdrL,headD W H lace⟩,⟨idatL,encData W H P lace kind⟩,⟨iendL,[]⟩]):=by
 have:=chunksP_lay [⟨ihdrL,headD W H lace⟩,⟨idatL,encData W H P lace kind⟩] ⟨iendL,[]⟩ [] (fun c hc=>by
  rcases List.mem_cons.1 hc with rfl | hc
  ·exact ⟨ihdr_good W H lace,by show ¬ihdrL=iendL;decide⟩
  ·rcases List.mem_cons.1 hc with rfl | hc
   ·exact ⟨idat_good (encData_good lace h1 h2 h3 h4 hl kind),by show ¬idatL=iendL;decide⟩
   ·cases hc) iend_good rfl
 have e:encodeP W H P lace kind=signL++([⟨ihdrL,headD W H lace⟩,⟨idatL,encData W H P lace kind⟩].flatMap layC++(layC ⟨iendL,[]⟩++[])):=by
  unfold encodeP layP
  rw [encCh_eq]
  simp [encData]
 rw [e,this]
 rfl
theorem decode_enc {W H:Nat} (lace:Bool) (h1:1≤W) (h2:W≤1000) (h3:1≤H) (h4:H≤1000) {P:List UInt8} (hl:P.length=4*W*H) (kind:Int) {pixels:Int} (hp:((W*H:Nat):Int)≤pixels):decodeP (encodeP W H P lace kind) pixels=(0,W,H,P):=by
 have hWH:W*H≤1000*1000:=Nat.mul_le_mul h2 h4
 rw [decodeP_of (chunks_enc lace h1 h2 h3 h4 hl kind),readCh_head lace h1 (by omega) h3 (by omega) ⟨hp,by omega⟩ (encF W H P lace kind) rfl,if_neg (by simp)]
 exact decF_enc ⟨rfl,rfl⟩ h1 (by omega) h3 (by omega) hl kind rfl
theorem info_enc {W H:Nat} (lace:Bool) (h1:1≤W) (h2:W≤16384) (h3:1≤H) (h4:H≤16384) (P:List UInt8) (kind:Int):infoP (encodeP W H P lace kind)=(0,encHead W H lace):=by
 have e:encodeP W H P lace kind=signL++(layC ⟨ihdrL,headD W H lace⟩++(layC ⟨idatL,encData W H P lace kind⟩++layC ⟨iendL,[]⟩)):=by
  unfold encodeP layP
  rw [encCh_eq]
  simp [encData]
 unfold infoP
 rw [e,chunksP_one _ _ (ihdr_good W H lace)]
 exact headP_enc lace h1 h2 h3 h4
theorem chunkP_parts {n:Nat} {y s rest:List UInt8} (hn:n<2^31) (hy:y.length=4+n) (hs:s.length=4):chunkP (be4 n++(y++(s++rest)))=if (y.take 4).all letterP=false then .err 3 else if crcN y≠bigN s then .err 4 else .ok ⟨y.take 4,y.drop 4⟩ (12+n):=by
 have hl:(be4 n++(y++(s++rest))).length=12+n+rest.length:=by simp only [List.length_append,be4_len,hy,hs];omega
 have e4:(be4 n++(y++(s++rest))).take 4=be4 n:=List.take_left' (be4_len _)
 have d4:(be4 n++(y++(s++rest))).drop 4=y++(s++rest):=List.drop_left' (be4_len _)
 have hb:bigN ((be4 n++(y++(s++rest))).take 4)=n:=by rw [e4,big_be4 (by omega)]
 have t8:((be4 n++(y++(s++rest))).take 8).drop 4=y.take 4:=by
  rw [List.drop_take,d4,List.take_append_of_le_length (by omega)]
 have tn4:((be4 n++(y++(s++rest))).take (8+n)).drop 4=y:=by
  rw [List.drop_take,d4]
  exact List.take_left' (by omega)
 have tn8:((be4 n++(y++(s++rest))).take (8+n)).drop 8=y.drop 4:=by
  rw [show (8:Nat)=4+4 from rfl,←List.drop_drop,show 4+4+n=8+n by omega,tn4]
 have dn:(be4 n++(y++(s++rest))).drop (8+n)=s++rest:=by
  rw [show 8+n=4+(4+n) by omega,←List.drop_drop,d4]
  exact List.drop_left' hy
 have ds:((be4 n++(y++(s++rest))).drop (8+n)).take 4=s:=by rw [dn];exact List.take_left' hs
 unfold chunkP
 rw [hb,t8,tn4,tn8,ds,if_neg (by omega),if_neg (by omega),if_neg (by omega)]
 by_cases hx:(y.take 4).all letterP=false
 ·rw [if_pos hx,if_pos hx]
 ·rw [if_neg hx,if_neg hx,if_neg (by omega)]
theorem set_mid {α:Type} (a b c:List α) {i:Nat} (hi:i<b.length) (v:α):(a++(b++c)).set (a.length+i) v=a++(b.set i v++c):=by
 rw [List.set_append_right _ _ (by omega),Nat.add_sub_cancel_left,List.set_append_left _ _ hi]
theorem crc_set {y:List UInt8} {i:Nat} {x v:UInt8} (hx:y[i]?=some x) (hv:v≠x):crcN (y.set i v)≠crcN y:=by
 obtain ⟨hi,e⟩:=List.getElem?_eq_some_iff.1 hx
 have e1:y=y.take i++x::y.drop (i+1):=by rw [←e,←List.drop_eq_getElem_cons,List.take_append_drop]
 have e2:y.set i v=y.take i++v::y.drop (i+1):=by
  rw [List.set_eq_take_append_cons_drop,if_pos hi]
 rw [e2]
 conv=>rhs;rw [e1]
 exact crc_turned _ _ hv
theorem turned {W H:Nat} (lace:Bool) (P:List UInt8) (kind:Int) {k:Nat} (hk:k<21) {x v:UInt8} (hx:(encodeP W H P lace kind)[12+k]?=some x) (hv:v≠x):∃n,n≠0∧(∀pixels,(decodeP ((encodeP W H P lace kind).set (12+k) v) pixels).1=n)∧infoP ((encodeP W H P lace kind).set (12+k) v)=(n,headZ):=by
 obtain ⟨y,hy⟩:∃y,y=ihdrL++headD W H lace:=⟨_,rfl⟩
 obtain ⟨s,hs⟩:∃s,s=be4 (crcN y):=⟨_,rfl⟩
 have hyl:y.length=4+13:=by rw [hy];rfl
 have hsl:s.length=4:=by rw [hs];rfl
 obtain ⟨rest,hr⟩:∃rest,rest=layC ⟨idatL,encData W H P lace kind⟩++layC ⟨iendL,[]⟩:=⟨_,rfl⟩
 have e:encodeP W H P lace kind=signL++(be4 13++(y++(s++rest))):=by
  unfold encodeP layP
  rw [encCh_eq]
  have:layC ⟨ihdrL,headD W H lace⟩=be4 13++(y++s):=by
   unfold layC
   rw [kind4_good (ihdr_good W H lace),hs,hy,headD_len]
   simp [List.append_assoc]
  rw [List.flatMap_cons,this,hr]
  simp [encData,List.append_assoc]
 have hset:∃y' s',(encodeP W H P lace kind).set (12+k) v=signL++(be4 13++(y'++(s'++rest)))∧y'.length=4+13∧s'.length=4∧crcN y'≠bigN s':=by
  rw [e] at hx ⊢
  have e12:signL++(be4 13++(y++(s++rest)))=(signL++be4 13)++(y++(s++rest)):=by rw [List.append_assoc]
  have l12:(signL++be4 13).length=12:=rfl
  rw [e12] at hx ⊢
  rw [List.getElem?_append_right (by omega),l12,Nat.add_sub_cancel_left] at hx
  by_cases hk17:k<17
  ·rw [List.getElem?_append_left (by omega)] at hx
   have:=set_mid (signL++be4 13) y (s++rest) (i:=k) (by omega) v
   rw [l12] at this
   refine ⟨y.set k v,s,by rw [this,List.append_assoc],by rw [List.length_set,hyl],hsl,?_⟩
   rw [hs,big_be4 (crcN_lt _)]
   exact crc_set hx hv
  ·rw [List.getElem?_append_right (by omega),hyl,List.getElem?_append_left (by omega)] at hx
   have h2:=set_mid (signL++be4 13++y) s rest (i:=k-17) (by omega) v
   have l29:(signL++be4 13++y).length=29:=by rw [List.length_append,l12,hyl]
   rw [l29,show 29+(k-17)=12+k by omega] at h2
   refine ⟨y,s.set (k-17) v,?_,hyl,by rw [List.length_set,hsl],?_⟩
   ·rw [←List.append_assoc,h2]
    simp [List.append_assoc]
   ·intro hc
    have hb:bigN s=crcN y:=by rw [hs,big_be4 (crcN_lt _)]
    rw [←hb] at hc
    have hse:=big_inj hsl (by rw [List.length_set,hsl]) hc
    have:s[k-17]?=(s.set (k-17) v)[k-17]?:=by rw [←hse]
    have hx:s[k-17]?=some x:=by rw [show k-17=k-(4+13) by omega];exact hx
    rw [hx,List.getElem?_set_self (by omega)] at this
    exact hv (Option.some.inj this).symm
 obtain ⟨y',s',he,hyl',hsl',hne⟩:=hset
 have hcp:=chunkP_parts (n:=13) (rest:=rest) (by decide) hyl' hsl'
 obtain ⟨n,hn,hcpn⟩:∃n,n≠0∧chunkP (be4 13++(y'++(s'++rest)))=.err n:=by
  rw [hcp]
  by_cases hx:(y'.take 4).all letterP=false
  ·exact ⟨3,by decide,by rw [if_pos hx]⟩
  ·exact ⟨4,by decide,by rw [if_neg hx,if_pos hne]⟩
 obtain ⟨h1,h2⟩:=signP_lay (be4 13++(y'++(s'++rest)))
 have hchunks:∀one,chunksP one ((encodeP W H P lace kind).set (12+k) v)=(n,[]):=by
  intro one
  rw [he]
  have hl:(signL++(be4 13++(y'++(s'++rest)))).length=(be4 13++(y'++(s'++rest))).length+7+1:=by rw [List.length_append];show 8+_=_;omega
  have hf:chunksF one ((be4 13++(y'++(s'++rest))).length+7+1) (be4 13++(y'++(s'++rest)))=(n,[]):=by rw [chunksF,hcpn]
  unfold chunksP
  rw [h1,h2,if_neg (by decide),hl,hf,if_pos hn]
 refine ⟨n,hn,fun pixels=>?_,?_⟩
 ·have hr:(readAll ((encodeP W H P lace kind).set (12+k) v) pixels).1=n:=by
   rw [readAll_err (by rw [hchunks];exact hn),hchunks]
  unfold decodeP
  rw [hr,if_pos hn]
 ·unfold infoP
  rw [hchunks]
  match n,hn with
  | n+1,_=>rfl
end Go.Proofs.YtmagnpcgpinmcaaGreat
set_option linter.unusedVariables false
namespace Go.Proofs.YtmagnpcgpinmcaaGreat
open Go.Vc Go.RowKit
set_option maxRecDepth 400000
section
variable {w:World}
theorem pKnown_spec {K:Bool→World→Prop} (hK:∀w',Below w.heap.size w w'→K true w'):c_p9_known w K:=by
 refine call_p9_known ?_
 unfold sh_p9_known
 refine nw_blk fun w1 h1 hB1 hs1=>nw_blk fun w2 h2 hB2 hs2=>?_
 have hP1:Rd E_uint8 w1 ⟨some ⟨w.heap.size,0,none⟩,8,8⟩ [1,2,3,4,5,6,7,8]:=rd_lits (E:=E_uint8) (ys:=[1,2,3,4,5,6,7,8]) h1 (by simp [maxLen]) rfl
 refine all_of h2 rfl fun w3 h3 hc3 hs3=>?_
 have hB13:Below w1.heap.size w1 w3:=below_one hB2 hc3 (Nat.le_refl _)
 have hB3:=below_t hB1 hB13
 have hP3:=hP1.ext hB13
 have h3:Blk w3 w1.heap.size ty_api_Matrix (T_api_Matrix.rep.cells ⟨((1:Nat):Int),((2:Nat):Int),⟨some ⟨w.heap.size,0,none⟩,8,8⟩⟩):=h3
 refine ldS_of (r:=T_api_Matrix.rep) (x:=⟨((1:Nat):Int),((2:Nat):Int),⟨some ⟨w.heap.size,0,none⟩,8,8⟩⟩) h3.cells ?_
 refine Encode_spec (lace:=true) (kind:=4) hP3 (W:=1) (H:=2) rfl (by decide) (by decide) (by decide) (by decide) fun t10 w4 ht10 hB4=>?_
 have hd:=decode_enc true (W:=1) (H:=2) (P:=[1,2,3,4,5,6,7,8]) (by decide) (by decide) (by decide) (by decide) rfl 4 (pixels:=2) (by decide)
 have hlen:(encodeP 1 2 [1,2,3,4,5,6,7,8] true 4).length≤1000000:=by
  have h:=layP_len (encCh 1 2 [1,2,3,4,5,6,7,8] true 4)
  have h2:=pack_len (encAll 1 2 [1,2,3,4,5,6,7,8] true 4)
  have h3:=need_enc (W:=1) (H:=2) (lace:=true) (P:=[1,2,3,4,5,6,7,8]) (by decide) (by decide) (by decide) (by decide) rfl 4
  have h4:=needP_le (encHead_ok (W:=1) (H:=2) true (by decide) (by decide) (by decide) (by decide)) (M:=2) (by decide)
  unfold encodeP
  rw [h,encCh_eq]
  unfold dsum
  simp only [List.map_cons,List.map_nil,List.sum_cons,List.sum_nil,headD_len,List.length_cons,List.length_nil]
  omega
 refine Decode_spec ht10.rd (fun k hk=>(ht10.lt k hk).2) hlen (by decide) (fun hne=>absurd (congrArg Prod.fst hd) hne) (fun W H m hdm s w5 hs hml hB5=>?_)
 rw [hd] at hdm
 injection hdm with _ hdm
 injection hdm with e1 hdm
 injection hdm with e2 e3
 subst e1 e2 e3
 refine nw_blk fun w6 h6 hB6 hs6=>all_of h6 rfl fun w7 h7 hc7 hs7=>?_
 have hB57:Below w5.heap.size w5 w7:=below_one hB6 hc7 (Nat.le_refl _)
 have hB37:=below_t (below_t hB4 hB5) hB57
 have h37:=h3.ext hB37
 refine ldS_of (r:=T_api_Matrix.rep) (x:=⟨((1:Nat):Int),((2:Nat):Int),⟨some ⟨w.heap.size,0,none⟩,8,8⟩⟩) h37.cells ?_
 refine Encode_spec (lace:=false) (kind:=0) (hP3.ext hB37) (W:=1) (H:=2) rfl (by decide) (by decide) (by decide) (by decide) fun t16 w8 ht16 hB8=>?_
 have hi:=info_enc false (W:=1) (H:=2) (by decide) (by decide) (by decide) (by decide) [1,2,3,4,5,6,7,8] 0
 have hlen2:(encodeP 1 2 [1,2,3,4,5,6,7,8] false 0).length≤1000000:=by
  have h:=layP_len (encCh 1 2 [1,2,3,4,5,6,7,8] false 0)
  have h2:=pack_len (encAll 1 2 [1,2,3,4,5,6,7,8] false 0)
  have h3:=need_enc (W:=1) (H:=2) (lace:=false) (P:=[1,2,3,4,5,6,7,8]) (by decide) (by decide) (by decide) (by decide) rfl 0
  have h4:=needP_le (encHead_ok (W:=1) (H:=2) false (by decide) (by decide) (by decide) (by decide)) (M:=2) (by decide)
  unfold encodeP
  rw [h,encCh_eq]
  unfold dsum
  simp only [List.map_cons,List.map_nil,List.sum_cons,List.sum_nil,headD_len,List.length_cons,List.length_nil]
  omega
 refine Info_spec ht16.rd (fun k hk=>(ht16.lt k hk).2) hlen2 fun w9 hB9=>?_
 rw [hi]
 refine nw_blk fun w10 h10 hB10 hs10=>all_of h10 rfl fun w11 h11 hc11 hs11=>?_
 have hB911:Below w9.heap.size w9 w11:=below_one hB10 hc11 (Nat.le_refl _)
 have hB711:=below_t (below_t hB8 hB9) hB911
 refine cond_t rfl ?_
 have h711:=h7.ext hB711
 refine ldSl_of (x:=s) (h711.cells 2 _ rfl) ?_
 have hs11':=(hs.ext hB57).ext hB711
 refine ⟨_,_,run_bytes_strB hs11'.rd,?_⟩
 have h311:=h37.ext hB711
 refine ldSl_of (x:=⟨some ⟨w.heap.size,0,none⟩,8,8⟩) (h311.cells 2 _ rfl) ?_
 refine ⟨_,_,run_bytes_strB ((hP3.ext hB37).ext hB711),?_⟩
 dsimp only
 refine cond_t (beq_self_eq_true _) ?_
 refine ldS_of (r:=T_png_Head.rep) (x:=encHead 1 2 false) h11.cells ?_
 refine cond_t rfl (Samples_spec ?_)
 exact hK w11 (below_t (below_t hB3 hB37) hB711)
end
end Go.Proofs.YtmagnpcgpinmcaaGreat
set_option linter.unusedVariables false
namespace Go.Proofs.YtmagnpcgpinmcaaGreat
open Go.Vc Go.RowKit
set_option maxRecDepth 400000
section
variable {w:World}
end
end Go.Proofs.YtmagnpcgpinmcaaGreat
set_option linter.unusedVariables false
namespace Go.Proofs.YtmagnpcgpinmcaaGreat
open Go.Vc Go.RowKit
set_option maxRecDepth 400000
theorem Rd.slE {T:Type} {E:El T} {w:World} {s:Slc} {xs:List T} (h:Rd E w s xs) {lo hi:Option Int} {k:Nat} (hk:k=E.k) {l m:Nat} {K:Slc→Prop} (hlo:lo=none∧l=0∨lo=some (l:Int)) (hhi:hi=none∧m=xs.length∨hi=some (m:Int))
  (hl:l≤m) (hm:m≤xs.length) (hK:∀r:Slc,Rd E w r ((xs.take m).drop l)→(∀k,r.blk=some k→s.blk=some k)→K r):slK s lo hi k K :=
 h.slK hk hlo hhi hl hm fun hr=>hK _ hr fun k hk=>by
  obtain ⟨a,ha,rfl⟩:=slk.1 hk
  obtain ⟨a',ha',e⟩:=cut_block ha
  exact slk.2 ⟨a',ha',e.symm⟩
section
variable {w:World}
end
end Go.Proofs.YtmagnpcgpinmcaaGreat
set_option linter.unusedVariables false
namespace Go.Vc
open Go.ChangeShapes Go.WideShapes Go.ChangeAt Go.RowKit Go.Deep
section
variable {H:Type} {enc:TypeId×Value→H} {P:Program} {w:World} {base:Nat} {spare:Nat→Bool} {held:Bool}
end
end Go.Vc
namespace Go.Proofs.YtmagnpcgpinmcaaGreat
open Go.Vc Go.ChangeShapes Go.WideShapes Go.ChangeAt Go.RowKit
set_option maxRecDepth 100000
section
variable {H:Type} {enc:TypeId×Value→H} {w:World} {base:Nat} {held:Bool} {r:Reach} {b0:Nat} {v:Value} {d:DataW H} {p:List MemPlace}
end
section
variable {H:Type} {enc:TypeId×Value→H} {w:World} {base:Nat} {held:Bool} {r:Reach} {b0:Nat} {v:Value} {d:DataW H} {p:List MemPlace}
end
end Go.Proofs.YtmagnpcgpinmcaaGreat
