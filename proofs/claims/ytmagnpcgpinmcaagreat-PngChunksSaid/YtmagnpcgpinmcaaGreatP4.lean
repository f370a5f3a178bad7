import Derived.Test.YtmagnpcgpinmcaaGreatP3
import Derived.Test.YtmagnpcgpinmcaaGreatP2
import Derived.Lib.SlBytesConst
import Derived.Test.YtmagnpcgpinmcaaGreatP1
set_option linter.unusedVariables false
namespace Go.Proofs.YtmagnpcgpinmcaaGreat
open Go.Vc Go.RowKit
set_option maxRecDepth 400000
def copyR (most:Nat) (bs:List UInt8) (a1 y:Nat) (c:Cfg):SR :=
 if 8*bs.length<a1+(qbr y).2 then .short
 else match readT c.ds bs (a1+(qbr y).2) with
  | .short=>.short
  | .form=>.err 3
  | .sym z j =>
   if 29<z then .err 3
   else if 8*bs.length<a1+(qbr y).2+j+(qba z).2 then .short
   else if min c.hist.length 32768<(qba z).1+peekN bs (a1+(qbr y).2+j) (qba z).2 then .err 3
   else match copyN most ((qba z).1+peekN bs (a1+(qbr y).2+j) (qba z).2) ((qbr y).1+peekN bs a1 (qbr y).2) c.hist with
    | none=>.err 5
    | some h=>.next { c with hist:=h } (a1+(qbr y).2+j+(qba z).2)
theorem q8i {most:Nat} {bs:List UInt8} {at_ y k:Nat} {c:Cfg} (h:readT c.sg bs at_=.sym y k) (h1:256<y) (h2:y≤285):qcc most bs at_ c=copyR most bs (at_+k) y c:=by
 unfold qcc
 rw [h]
 dsimp only
 rw [if_neg (by omega),if_neg (by omega),if_neg (by omega)]
 rfl
def TabK (w:World) (base:Nat) (out:Slc) (t:Nat×Slc×Slc) (ls:List UInt8):Prop:=RTab w base t.1 t.2.1 t.2.2 ls∧∀k,t.2.1.blk=some k→out.blk≠some k
section
variable {w w':World} {base g rg:Nat} {s out out':Slc} {bs hist ls:List UInt8} {most at_:Nat} {t:Nat×Slc×Slc}
theorem TabK.keep (h:TabK w base out t ls) (hs:RSt w base g rg s out bs hist most at_) (r:RTo w w' g rg out out'):TabK w' base out' t ls:=by
 obtain ⟨h,ho⟩:=h
 refine ⟨⟨h.blk.chg r.chg ?_,h.hg,h.lo.chg r.chg ?_,h.co.chg r.chg ?_,h.sm,h.good⟩,fun k hk e=>?_⟩
 ·rintro (e | e | e)
  ·exact h.blk.ne_t hs.blk (by decide) e
  ·exact h.blk.ne_t hs.rdr.blk (by decide) e
  ·exact qai hs.out h.blk (by decide) _ e rfl
 ·rintro k hk (e | e | e)
  ·exact qai h.lo hs.blk (by decide) k hk e
  ·exact qai h.lo hs.rdr.blk (by decide) k hk e
  ·exact ho k hk e
 ·rintro k hk (e | e | e)
  ·exact qai h.co hs.blk (by decide) k hk e
  ·exact qai h.co hs.rdr.blk (by decide) k hk e
  ·exact zig h.co hs.out (by decide) k hk e
 ·rcases r.out with e' | ⟨j,e',hj⟩
  ·exact ho k hk (by rw [←e',e])
  ·rw [e'] at e
   cases e
   have:=(h.lo.lt k hk).2
   omega
theorem qum {K:Int→Int→World→Prop} (h:RSt w base g rg s out bs hist most at_) (ht:TabK w base out t ls)
  (hK:∀w' a' y e,RSt w' base g rg s out bs hist most a'→RTo w w' g rg out out→(match readT ls bs at_ with | .sym z k=>e=0∧y=((z:Nat):Int)∧a'=at_+k∧z<ls.length | .short=>e=2∧a'=at_ | .form=>e=3∧a'=at_)→K y e w'):qeb (some ⟨t.1,0,none⟩) (some ⟨rg,0,none⟩) w K :=
 zfq ht.1 h.rdr (fun e=>h.rdr.blk.ne_t ht.1.blk (by decide) e) (fun k hk=>by
  rcases hk with hk | hk
  ·exact qai ht.1.lo h.rdr.blk (by decide) k hk
  ·exact qai ht.1.co h.rdr.blk (by decide) k hk) fun w1 a' y e hr hc hm=>hK w1 a' y e (h.read hr hc).1 (h.read hr hc).2 hm
theorem zea {y:Nat} (h1:257≤y) (h2:y≤285):(qbr y).1≤258∧(qbr y).2≤5:=by
 have:∀y,y<286→257≤y→(qbr y).1≤258∧(qbr y).2≤5:=by decide +kernel
 exact this y (by omega) h1
theorem zb0 {y:Nat} (h2:y<30):1≤(qba y).1∧(qba y).1≤24577∧(qba y).2≤13:=by
 have:∀y,y<30→1≤(qba y).1∧(qba y).1≤24577∧(qba y).2≤13:=by decide +kernel
 exact this y h2
theorem zde {c:Cfg} {y:Nat} {K:Int→World→Prop} (h:RSt w base g rg s out bs c.hist most at_) (ht:TabK w base out t c.ds) (h1:257≤y) (h2:y≤285) (hbase:base≤w.heap.size)
  (hK:∀e out' hist' a' w',RSt w' base g rg s out' bs hist' most a'→RTo w w' g rg out out'→(match copyR most bs at_ y c with | .next c' a=>e=0∧hist'=c'.hist∧a'=a | .short=>e=2∧c.hist <+: hist' | .err n=>e=((n:Nat):Int)∧n≠0∧c.hist <+: hist')→K e w'):qi3 (some ⟨g,0,none⟩) (y:Int) (some ⟨t.1,0,none⟩) w K:=by
 refine qt7 _ _ _ ?_
 unfold qif
 have hpre:c.hist <+: c.hist:=List.prefix_refl _
 obtain ⟨lb1,lb2⟩:=zea h1 h2
 refine za6 h1 h2 ?_
 simp only [onPtr_some]
 obtain ⟨b,n,hbn⟩:∃b n,qbr y=(b,n):=⟨_,_,rfl⟩
 unfold copyR at hK
 rw [hbn] at hK lb1 lb2 ⊢
 dsimp only at hK lb1 lb2 ⊢
 refine qbt (x:=some ⟨rg,0,none⟩) (h.blk.cells 0 _ rfl) ?_
 refine qc2 (n:=n) h (by omega) (fun hf1 w1 h3 t1=>?_) (fun hs1 w1 h3 t1=>?_)
 rotate_left
 ·refine cT rfl (hK _ _ _ _ _ h3 t1 ?_)
  rw [if_pos hs1]
  exact ⟨rfl,hpre⟩
 rw [if_neg (by omega)] at hK
 refine cF rfl ?_
 refine qbt (x:=some ⟨rg,0,none⟩) (h3.blk.cells 0 _ rfl) ?_
 have ht1:=ht.keep h t1
 refine qum h3 ht1 fun w2 a2 z e h4 t2 hm=>?_
 have t02:=t1.trans t2
 cases hrd:readT c.ds bs (at_+n) with
 | short =>
  rw [hrd] at hm hK
  obtain ⟨rfl,rfl⟩:=hm
  exact cT rfl (hK _ _ _ _ _ h4 t02 ⟨rfl,hpre⟩)
 | form =>
  rw [hrd] at hm hK
  obtain ⟨rfl,rfl⟩:=hm
  exact cT rfl (hK _ _ _ _ _ h4 t02 ⟨rfl,by decide,hpre⟩)
 | sym z' j =>
  rw [hrd] at hm hK
  obtain ⟨rfl,rfl,rfl,_⟩:=hm
  dsimp only at hK
  refine cF rfl ?_
  by_cases hz:29<z'
  ·refine cT (decide_eq_true (by omega)) (hK _ _ _ _ _ h4 t02 ?_)
   rw [if_pos hz]
   exact ⟨rfl,by decide,hpre⟩
  rw [if_neg hz] at hK
  refine cF (decide_eq_false (by omega)) ?_
  obtain ⟨db0,db1,db2⟩:=zb0 (y:=z') (by omega)
  refine q5f (by omega) ?_
  obtain ⟨b2,n2,hbn2⟩:∃b n,qba z'=(b,n):=⟨_,_,rfl⟩
  rw [hbn2] at hK db0 db1 db2 ⊢
  dsimp only at hK db0 db1 db2 ⊢
  refine qbt (x:=some ⟨rg,0,none⟩) (h4.blk.cells 0 _ rfl) ?_
  refine qc2 (n:=n2) h4 (by omega) (fun hf3 w3 h5 t3=>?_) (fun hs3 w3 h5 t3=>?_)
  rotate_left
  ·refine cT rfl (hK _ _ _ _ _ h5 (t02.trans t3) ?_)
   rw [if_pos hs3]
   exact ⟨rfl,hpre⟩
  rw [if_neg (by omega)] at hK
  refine cF rfl ?_
  have t03:=t02.trans t3
  have p1:=qav bs at_ n
  have p2:=qav bs (at_+n+j) n2
  have q1:2^n≤2^5:=Nat.pow_le_pow_right (by decide) lb2
  have q2:2^n2≤2^13:=Nat.pow_le_pow_right (by decide) db2
  have hmo:=h.mo
  have hmm:=h.hm
  obtain ⟨far,hfar⟩:∃far,far=b2+peekN bs (at_+n+j) n2:=⟨_,rfl⟩
  obtain ⟨m,hmdef⟩:∃m,m=b+peekN bs at_ n:=⟨_,rfl⟩
  have ef:IntKind.i64.wrap ((b2:Int)+IntKind.i64.wrap ((peekN bs (at_+n+j) n2:Nat):Int))=(far:Int):=by
   rw [qad .i64 (x:=peekN bs (at_+n+j) n2) (by show _<2^63;omega),w64i (by omega),hfar];rfl
  have eM:IntKind.i64.wrap ((b:Int)+IntKind.i64.wrap ((peekN bs at_ n:Nat):Int))=(m:Int):=by
   rw [qad .i64 (x:=peekN bs at_ n) (by show _<2^63;omega),w64i (by omega),hmdef];rfl
  rw [ef,eM]
  rw [←hfar,←hmdef] at hK
  refine jpO fun J hJ=>?_
  refine lSl (x:=out) (h5.blk.cells 1 _ rfl) ?_
  rw [h5.out.rd.n]
  by_cases hfl:min c.hist.length 32768<far
  ·have:K 3 w3:=hK _ _ _ _ _ h5 t03 (by rw [if_pos hfl];exact ⟨rfl,by decide,hpre⟩)
   by_cases hl:c.hist.length<far
   ·exact cT (decide_eq_true (by omega)) this
   ·exact cF (decide_eq_false (by omega)) (cT (decide_eq_true (by omega)) this)
  rw [if_neg hfl] at hK
  refine cF (decide_eq_false (by omega)) (cF (decide_eq_false (by omega)) (hJ _ _ ?_))
  clear hJ
  have ebase:∀{w4 out4},RTo w w4 g rg out out4→base≤w4.heap.size:=fun t=>Nat.le_trans hbase t.chg.size
  refine lpR (fun (t:Int×Unit) w4=>∃(i:Nat) (out4:Slc) (h4:List UInt8),t.1=i∧i≤m∧RSt w4 base g rg s out4 bs h4 most (at_+n+j+n2)∧RTo w w4 g rg out out4∧copyN most far m c.hist=copyN most far (m-i) h4∧c.hist <+: h4) (fun t=>m-t.1.toNat)
   ⟨0,out,c.hist,rfl,by omega,h5,t03,rfl,hpre⟩ ?_
  rintro ⟨i,_⟩ w4 ⟨i,out4,hi4,rfl,hi,h6,t6,hcp,hpx⟩ I hI
  dsimp only at *
  have hlen:=hpx.length_le
  have hm6:=h6.hm
  refine cO (fun hlt=>?_) (fun hge=>?_)
  ·have hlt:=of_decide_eq_true hlt
   have hmi:m-i=(m-(i+1))+1:=by omega
   rw [hmi,copyN] at hcp
   have h6d:=h6.drew
   refine lSl (x:=out4) (h6d.blk.cells 1 _ rfl) ?_
   refine lI (x:=(most:Int)) (h6d.blk.cells 2 _ rfl) ?_
   rw [h6d.out.rd.n]
   refine cO (fun hfull=>?_) (fun hroom=>?_)
   ·have hfull:=of_decide_eq_true hfull
    rw [if_pos (by omega)] at hcp
    refine hK 5 _ _ _ _ h6d (t6.trans (RTo.drew w4 g rg out4)) ?_
    rw [hcp]
    exact ⟨rfl,by decide,hpx⟩
   ·have hroom:=of_decide_eq_false hroom
    rw [if_neg (by omega)] at hcp
    have h6dd:=h6d.drew
    have t6dd:=(t6.trans (RTo.drew w4 g rg out4)).trans (RTo.drew _ g rg out4)
    refine lSl (x:=out4) (h6dd.blk.cells 1 _ rfl) ?_
    refine lSl (x:=out4) (h6dd.blk.cells 1 _ rfl) ?_
    refine lSl (x:=out4) (h6dd.blk.cells 1 _ rfl) ?_
    rw [h6dd.out.rd.n,w64i (by omega),show ((hi4.length:Nat):Int)-(far:Int)=((hi4.length-far:Nat):Int) by omega]
    have hin:hi4.length-far<hi4.length:=by omega
    obtain ⟨x,hx,hxs⟩:=qa0 (xs:=hi4) (k:=hi4.length-far) hin
    refine h6dd.out.rd.ix (i:=((hi4.length-far:Nat):Int)) rfl (by omega) (by omega) fun hc=>?_
    rw [hxs] at hc
    refine ldB8 (b:=x) hc ?_
    have hgd:hi4.getD (hi4.length-far) 0=x:=by rw [List.getD_eq_getElem?_getD,hx];rfl
    rw [hgd] at hcp
    have key:=h6dd.put (b:=x) (v:=(x.toNat:Int)) (K:=fun w8=>I (IntKind.i64.wrap ((i:Int)+1),()) w8) (ebase t6dd) rfl (by omega) fun out6 w6 h7 t7=>by
     rw [w64i (by omega)]
     exact hI _ _ ⟨i+1,out6,hi4++[x],rfl,by omega,h7,t6dd.trans t7,hcp,hpx.trans (List.prefix_append _ _)⟩ (by simp;omega)
    have hB:Below w4.drew.drew.heap.size w4.drew.drew (w4.drew.drew.alloc (.cells [Value.int .u8 (x.toNat:Int)].toArray qag)):=(Below.refl _ _).alloc (Nat.le_refl _) _
    have hcell:=(h6dd.blk.ext hB).cells 1 _ rfl
    rw [h6dd.out.rd.n] at hcell
    exact ⟨hcell,key⟩
  ·have hge:=of_decide_eq_false hge
   have:i=m:=by omega
   subst this
   rw [Nat.sub_self,copyN] at hcp
   refine hK 0 _ _ _ _ h6 t6 ?_
   rw [hcp]
   exact ⟨rfl,rfl,rfl⟩
theorem q48 {c:Cfg} {K:Int→World→Prop} {td:Nat×Slc×Slc} (h:RSt w base g rg s out bs c.hist most at_) (ht:TabK w base out t c.sg) (htd:TabK w base out td c.ds) (hm:c.mode=4) (hbase:base≤w.heap.size)
  (hK:∀e out' hist' a' w',RSt w' base g rg s out' bs hist' most a'→RTo w w' g rg out out'→RRes most bs c at_ (if c.last then 5 else 0) e a' hist'→K e w'):qg0 (some ⟨g,0,none⟩) (some ⟨t.1,0,none⟩) (some ⟨td.1,0,none⟩) w K:=by
 refine qvf _ _ _ ?_
 unfold qiz
 simp only [onPtr_some]
 have ebase:∀{w4 out4},RTo w w4 g rg out out4→base≤w4.heap.size:=fun t=>Nat.le_trans hbase t.chg.size
 refine qb7 (fun m (_:Unit) w4=>∃(out4:Slc) (c4:Cfg) (a4:Nat),m=8*bs.length-a4∧RSt w4 base g rg s out4 bs c4.hist most a4∧RTo w w4 g rg out out4∧Ch most bs c at_ c4 a4∧c4.mode=4∧c4.sg=c.sg∧c4.ds=c.ds∧c4.last=c.last∧TabK w4 base out4 t c.sg∧TabK w4 base out4 td c.ds) _
  ⟨out,c,at_,rfl,h,RTo.refl _ _ _ _,.refl _ _,hm,rfl,rfl,rfl,ht,htd⟩ ?_
 rintro m _ w4 ⟨out4,c4,a4,rfl,h4,t4,hch,hm4,hsg,hds,hla,ht4,htd4⟩ I hI
 have hpre:c4.hist <+: c4.hist:=List.prefix_refl _
 have st4:step1 most bs a4 c4=qcc most bs a4 c4:=by rw [step1,if_neg (by omega),stepN,if_neg (by omega),if_neg (by omega),if_neg (by omega),if_neg (by omega)]
 refine qbt (x:=some ⟨rg,0,none⟩) (h4.blk.cells 0 _ rfl) ?_
 refine qum h4 ht4 fun w5 a5 z e h5 t5 hmm=>?_
 have t05:=t4.trans t5
 rw [←hsg] at hmm
 cases hrd:readT c4.sg bs a4 with
 | short =>
  rw [hrd] at hmm
  obtain ⟨rfl,rfl⟩:=hmm
  refine cT rfl (hK _ _ _ _ _ h5 t05 (.of_ch hch (RRes.short ?_ (by omega) hpre)))
  rw [st4,qcc,hrd]
 | form =>
  rw [hrd] at hmm
  obtain ⟨rfl,rfl⟩:=hmm
  refine cT rfl (hK _ _ _ _ _ h5 t05 (.of_ch hch (RRes.err (n:=3) ?_ (by decide) rfl hpre)))
  rw [st4,qcc,hrd]
 | sym y k =>
  rw [hrd] at hmm
  obtain ⟨rfl,rfl,rfl,_⟩:=hmm
  have hle5:=h5.rdr.le
  have hk1:=(zbe hrd).1
  refine cF rfl ?_
  by_cases h256:y=256
  ·refine cT (beq_iff_eq.2 (by omega)) ?_
   have hst:step1 most bs a4 c4=.next c4.behind (a4+k):=by
    rw [st4,qcc,hrd];dsimp only;rw [if_pos h256]
   have r:=RRes.of_ch hch (RRes.done hst)
   have em:c4.behind.mode=if c.last then 5 else 0:=by unfold Cfg.behind;rw [hla]
   rw [em] at r
   exact hK _ _ _ _ _ h5 t05 r
  refine cF (beq_eq_false_iff_ne.2 (by omega)) ?_
  by_cases h285:285<y
  ·refine cT (decide_eq_true (by omega)) (hK _ _ _ _ _ h5 t05 (.of_ch hch (RRes.err (n:=3) ?_ (by decide) rfl hpre)))
   rw [st4,qcc,hrd];dsimp only;rw [if_neg h256,if_pos h285]
  refine cF (decide_eq_false (by omega)) ?_
  have ht5:=ht4.keep h4 t5
  have htd5:=htd4.keep h4 t5
  by_cases hlt:y<256
  ·refine cT (decide_eq_true (by omega)) ?_
   have h5d:=h5.drew
   have t5d:=RTo.drew w5 g rg out4
   refine lSl (x:=out4) (h5d.blk.cells 1 _ rfl) ?_
   refine lI (x:=(most:Int)) (h5d.blk.cells 2 _ rfl) ?_
   rw [h5d.out.rd.n]
   refine cO (fun hfull=>?_) (fun hroom=>?_)
   ·have hfull:=of_decide_eq_true hfull
    refine hK _ _ _ _ _ h5d (t05.trans t5d) (.of_ch hch (RRes.err (n:=5) ?_ (by decide) rfl hpre))
    rw [st4,qcc,hrd];dsimp only;rw [if_neg h256,if_neg h285,if_pos hlt,if_pos (by omega)]
   ·have hroom:=of_decide_eq_false hroom
    refine lSl (x:=out4) (h5d.blk.cells 1 _ rfl) ?_
    have hbv:(UInt8.ofNat y).toNat=y:=by rw [UInt8.toNat_ofNat'];omega
    refine h5d.put (b:=UInt8.ofNat y) (ebase (t05.trans t5d)) (by rw [hbv,qad .u8 (x:=y) (by show _<2^8;omega)]) (by omega) fun out6 w6 h6 t6=>?_
    have hst:step1 most bs a4 c4=.next { c4 with hist:=c4.hist++[UInt8.ofNat y] } (a4+k):=by
     rw [st4,qcc,hrd];dsimp only;rw [if_neg h256,if_neg h285,if_pos hlt,if_neg (by omega)]
    exact hI (8*bs.length-(a4+k)) _ w6 ⟨out6,{ c4 with hist:=c4.hist++[UInt8.ofNat y] },a4+k,rfl,h6,(t05.trans t5d).trans t6,hch.trans (.one hst),hm4,hsg,hds,hla,(ht5.keep h5 t5d).keep h5d t6,(htd5.keep h5 t5d).keep h5d t6⟩ (by omega)
  ·refine cF (decide_eq_false (by omega)) ?_
   have hcop:=q8i (most:=most) hrd (by omega) (by omega)
   rw [←st4] at hcop
   rw [←hds] at htd5
   refine zde h5 htd5 (by omega) (by omega) (ebase t05) fun e out6 hist6 a6 w6 h6 t6 hmm=>?_
   have t06:=t05.trans t6
   rw [←hcop] at hmm
   cases hr:step1 most bs a4 c4 with
   | short =>
    rw [hr] at hmm
    obtain ⟨rfl,hp⟩:=hmm
    exact cT rfl (hK _ _ _ _ _ h6 t06 (.of_ch hch (RRes.short hr (by omega) hp)))
   | err n =>
    rw [hr] at hmm
    obtain ⟨rfl,hn,hp⟩:=hmm
    exact cT (by
             have:((n:Nat):Int)≠0:=by omega
             simpa using this) (hK _ _ _ _ _ h6 t06 (.of_ch hch (RRes.err hr hn rfl hp)))
   | next c6 a6' =>
    rw [hr] at hmm
    obtain ⟨rfl,rfl,rfl⟩:=hmm
    have hcc:c6={ c4 with hist:=c6.hist }:=by
     rw [hcop] at hr
     unfold copyR at hr
     split at hr
     ·cases hr
     ·split at hr
      ·cases hr
      ·cases hr
      ·split at hr
       ·cases hr
       ·split at hr
        ·cases hr
        ·split at hr
         ·cases hr
         ·split at hr
          ·cases hr
          ·injection hr with hr _;rw [←hr]
    have hle6:=h6.rdr.le
    have hmu:=qok hr (h4.rdr.le)
    have ht6:=ht5.keep h5 t6
    have htd6:=htd5.keep h5 t6
    rw [hds] at htd6
    have hm6:c6.mode=4:=by rw [hcc];exact hm4
    have hmu2:=hmu.2.2
    unfold mu at hmu2
    rw [if_neg (by omega),if_neg (by omega)] at hmu2
    refine cF rfl ?_
    exact hI (8*bs.length-a6) _ w6 ⟨out6,c6,a6,rfl,h6,t06,hch.trans (.one hr),hm6,by rw [hcc];exact hsg,by rw [hcc];exact hds,by rw [hcc];exact hla,ht6,htd6⟩ (by omega)
end
end Go.Proofs.YtmagnpcgpinmcaaGreat
namespace Go.Proofs.YtmagnpcgpinmcaaGreat
open Go.Vc Go.RowKit
set_option maxRecDepth 400000
section
variable {w w':World} {base g rg:Nat} {s out:Slc} {bs hist ls:List UInt8} {most at_ B:Nat}
theorem RSt.lt (h:RSt w base g rg s out bs hist most at_) (hb:base≤w.heap.size):∀k,rS g rg out k∨s.blk=some k→k<w.heap.size:=by
 rintro k ((rfl | rfl | e) | e)
 ·exact h.blk.lt
 ·exact h.rdr.blk.lt
 ·exact (h.out.lt k e).2
 ·have:=h.sb k e;omega
theorem RSt.keepB (h:RSt w base g rg s out bs hist most at_) (hl:∀k,rS g rg out k∨s.blk=some k→k<B) (hb:Below B w w'):RSt w' base g rg s out bs hist most at_:=by
 have hc:=Chg.of_below hb
 refine ⟨h.blk.chg hc fun e=>?_,h.rdr.chg hc (fun e=>?_) fun k hk e=>?_,h.out.chg hc fun k hk e=>?_,h.hg,h.hr,h.sb,h.hm,h.mo⟩
 ·have:=hl g (.inl (.inl rfl));omega
 ·have:=hl rg (.inl (.inr (.inl rfl)));omega
 ·have:=hl k (.inr hk);omega
 ·have:=hl k (.inl (.inr (.inr hk)));omega
theorem RTo.keepB {w0:World} (h:RTo w0 w g rg out out) (hb:Below w0.heap.size w w'):RTo w0 w' g rg out out:=⟨h.chg.trans (Chg.of_below hb) fun i hi hs=>by omega,.inl rfl⟩
theorem RTab.keepB {b t:Nat} {lo co:Slc} (h:RTab w b t lo co ls) (hl:t<B∧∀k,lo.blk=some k∨co.blk=some k→k<B) (hb:Below B w w'):RTab w' b t lo co ls:=by
 have hc:=Chg.of_below hb
 refine ⟨h.blk.chg hc fun e=>?_,h.hg,h.lo.chg hc fun k hk e=>?_,h.co.chg hc fun k hk e=>?_,h.sm,h.good⟩
 ·have:=hl.1;omega
 ·have:=hl.2 k (.inl hk);omega
 ·have:=hl.2 k (.inr hk);omega
theorem RTab.lt {b t:Nat} {lo co:Slc} (h:RTab w b t lo co ls):t<w.heap.size∧∀k,lo.blk=some k∨co.blk=some k→k<w.heap.size :=
 ⟨h.blk.lt,fun k hk=>by
  rcases hk with hk | hk
  ·exact (h.lo.lt k hk).2
  ·exact (h.co.lt k hk).2⟩
theorem zbl {t:Nat×Slc×Slc} {n:Nat} {K:Slc→Int→World→Prop} (h:RSt w base g rg s out bs hist most at_) (ht:TabK w base out t ls) (hls:ls.length≤19) (hn:n≤399) (hbase:base≤w.heap.size)
  (hK:∀(r:Slc) (e:Int) (a':Nat) w',RSt w' base g rg s out bs hist most a'→RTo w w' g rg out out→(match qb4 ls bs n 400 at_ [] with | .lens l a=>e=0∧Own qab w' w.heap.size r l∧a'=a | .short=>e=2 | .form=>e=3)→K r e w'):qie (some ⟨g,0,none⟩) (some ⟨t.1,0,none⟩) (n:Int) w K:=by
 refine qs0 _ _ _ ?_
 unfold qhk
 simp only [onPtr_some]
 have hlt:=h.lt hbase
 have htlt:=ht.1.lt
 obtain ⟨R,hR⟩:∃R,R=qb4 ls bs n 400 at_ []:=⟨_,rfl⟩
 rw [←hR] at hK
 refine qb7 (fun m (r:Slc×Unit) w1=>∃(l:List UInt8) (f a1:Nat),m=n-l.length∧l.length≤n∧400≤f+l.length∧R=qb4 ls bs n f a1 l∧RSt w1 base g rg s out bs hist most a1∧RTo w w1 g rg out out∧TabK w1 base out t ls∧Own qab w1 w.heap.size r.1 l) n
  ⟨[],400,at_,by simp,by simp,by simp,hR,h,RTo.refl _ _ _ _,ht,Own.nil _ _ _⟩ ?_
 rintro m ⟨r,_⟩ w1 ⟨l,f,a1,rfl,hln,hf,hgo,h1,t1,ht1,ho1⟩ I hI
 dsimp only at *
 clear hR
 have hs1:=t1.chg.size
 rw [ho1.rd.n]
 obtain ⟨f',rfl⟩:∃f',f=f'+1:=⟨f-1,by omega⟩
 rw [qb4] at hgo
 have row:∀{w2 w3},RTo w2 w3 g rg out out→∀{r:Slc} {l:List UInt8},Own qab w2 w.heap.size r l→Own qab w3 w.heap.size r l:=fun {w2 w3} hto {r l} ho=>Own.chg ho hto.chg fun k hk e=>by
  have:=(ho.lt k hk).1
  have:=hlt k (.inl e)
  omega
 refine cO (fun hl=>?_) (fun hl=>?_)
 rotate_left
 ·have hl:=of_decide_eq_false hl
  rw [if_pos (by omega)] at hgo
  refine hK r 0 a1 w1 h1 t1 ?_
  rw [hgo]
  exact ⟨rfl,ho1,rfl⟩
 have hl:=of_decide_eq_true hl
 rw [if_neg (by omega)] at hgo
 refine qbt (x:=some ⟨rg,0,none⟩) (h1.blk.cells 0 _ rfl) ?_
 refine qum h1 ht1 fun w2 a2 z e h2 t2 hm=>?_
 have t02:=t1.trans t2
 cases hrd:readT ls bs a1 with
 | short =>
  rw [hrd] at hm hgo
  obtain ⟨rfl,rfl⟩:=hm
  have hgo:R=.short:=hgo
  refine cT rfl (hK _ _ _ _ h2 t02 ?_)
  rw [hgo]
  rfl
 | form =>
  rw [hrd] at hm hgo
  obtain ⟨rfl,rfl⟩:=hm
  have hgo:R=.form:=hgo
  refine cT rfl (hK _ _ _ _ h2 t02 ?_)
  rw [hgo]
  rfl
 | sym y k =>
  rw [hrd] at hm hgo
  obtain ⟨rfl,rfl,rfl,hy⟩:=hm
  dsimp only at hgo
  refine cF rfl ?_
  have ho2:=row t2 ho1
  have ht2:=ht1.keep h1 t2
  have hs2:=t02.chg.size
  have hle2:=h2.rdr.le
  by_cases h16:y<16
  ·
   refine cT (decide_eq_true (by omega)) ?_
   have hyv:(UInt8.ofNat y).toNat=y:=by rw [UInt8.toNat_ofNat'];omega
   refine apB1 (c:=UInt8.ofNat y) (by rw [hyv,qad .u8 (x:=y) (by show _<2^8;omega)]) ho2 hs2 (by omega) fun r3 w3 ho3 hc3 _=>?_
   have hB3:Below w.heap.size w2 w3:=hc3.below hs2 fun i hi e=>by have:=(ho2.lt i e).1;omega
   have e3:(if y=18 then ((11:Nat),(7:Nat),(0:UInt8)) else if y=17 then (3,3,0) else if y=16 then (3,2,l.getLastD 0) else (1,0,UInt8.ofNat y))=(1,0,UInt8.ofNat y):=by rw [if_neg (by omega),if_neg (by omega),if_neg (by omega)]
   rw [if_neg (show ¬(y=16∧l=[]) by omega)] at hgo
   simp only [e3] at hgo
   have hp0:peekN bs (a1+k) 0=0:=by have:=qav bs (a1+k) 0;omega
   rw [if_neg (by omega),hp0,if_neg (by omega)] at hgo
   exact hI (n-(l++[UInt8.ofNat y]).length) _ w3 ⟨l++[UInt8.ofNat y],f',a1+k,rfl,by simp;omega,by simp;omega,hgo,h2.keepB hlt hB3,t02.keepB hB3,⟨ht2.1.keepB htlt hB3,ht2.2⟩,ho3⟩ (by simp;omega)
  refine cF (decide_eq_false (by omega)) ?_
  refine jpO fun J hJ=>?_
  have go:∀(b m:Nat) (v:UInt8),1≤b→b≤11→m≤7→R=(if 8*bs.length<a1+k+m then .short else if n<l.length+b+peekN bs (a1+k) m then .form else qb4 ls bs n f' (a1+k+m) (l++List.replicate (b+peekN bs (a1+k) m) v))→J ((b:Int),(m:Int),(v.toNat:Int),()) w2:=fun b m v hb1 hb2 hm7 hgo=>hJ _ _ (by
   clear hJ
   dsimp only
   refine qbt (x:=some ⟨rg,0,none⟩) (h2.blk.cells 0 _ rfl) ?_
   refine qc2 (n:=m) h2 (by omega) (fun hf1 w3 h3 t3=>?_) (fun hs3 w3 h3 t3=>?_)
   rotate_left
   ·refine cT rfl (hK _ _ _ _ h3 (t02.trans t3) ?_)
    rw [hgo,if_pos hs3]
   rw [if_neg (by omega)] at hgo
   refine cF rfl ?_
   have p1:=qav bs (a1+k) m
   have q1:2^m≤2^7:=Nat.pow_le_pow_right (by decide) hm7
   obtain ⟨q,hq⟩:∃q,q=b+peekN bs (a1+k) m:=⟨_,rfl⟩
   have eq1:IntKind.i64.wrap ((b:Int)+IntKind.i64.wrap ((peekN bs (a1+k) m:Nat):Int))=(q:Int):=by
    rw [qad .i64 (x:=peekN bs (a1+k) m) (by show _<2^63;omega),w64i (by omega),hq];rfl
   rw [eq1,w64i (x:=((l.length:Nat):Int)+(q:Int)) (by omega)]
   have t03:=t02.trans t3
   by_cases hbig:n<l.length+b+peekN bs (a1+k) m
   ·refine cT (decide_eq_true (by omega)) (hK _ _ _ _ h3 t03 ?_)
    rw [hgo,if_pos hbig]
   rw [if_neg hbig,←hq] at hgo
   refine cF (decide_eq_false (by omega)) ?_
   have ho3:=row t3 ho2
   have ht3:=ht2.keep h2 t3
   have hs3:=t03.chg.size
   refine lpR (fun (u:Slc×Int×Unit) w4=>∃i:Nat,u.2.1=i∧i≤q∧Own qab w4 w.heap.size u.1 (l++List.replicate i v)∧Below w.heap.size w3 w4) (fun u=>q-u.2.1.toNat) ⟨0,rfl,by omega,by simpa using ho3,Below.refl _ _⟩ ?_
   rintro ⟨u,i,_⟩ w4 ⟨i,rfl,hi,ho4,hB4⟩ I3 hI3
   dsimp only at *
   have hs4:=hB4.size
   refine cO (fun hlt4=>?_) (fun hge4=>?_)
   ·have hlt4:=of_decide_eq_true hlt4
    refine apB1 (c:=v) rfl ho4 (by omega) (by simp;omega) fun r5 w5 ho5 hc5 _=>?_
    have hB5:Below w.heap.size w4 w5:=hc5.below (by omega) fun j hj e=>by have:=(ho4.lt j e).1;omega
    rw [w64i (by omega)]
    refine hI3 _ _ ⟨i+1,rfl,by omega,?_,hB4.trans hB5⟩ (by simp;omega)
    rw [List.replicate_succ',←List.append_assoc]
    exact ho5
   ·have hge4:=of_decide_eq_false hge4
    have:i=q:=by omega
    subst this
    have el:(l++List.replicate i v).length=l.length+i:=by simp
    exact hI (n-(l++List.replicate i v).length) _ w4 ⟨l++List.replicate i v,f',a1+k+m,rfl,by omega,by omega,hgo,h3.keepB hlt hB4,t03.keepB hB4,⟨ht3.1.keepB htlt hB4,ht3.2⟩,ho4⟩ (by omega))
  by_cases e16:y=16
  ·subst e16
   refine cT rfl ?_
   by_cases hnil:l=[]
   ·refine cT (by rw [hnil];rfl) (hK _ _ _ _ h2 t02 ?_)
    rw [if_pos ⟨rfl,hnil⟩] at hgo
    rw [hgo]
   ·have hpos:0<l.length:=List.length_pos_iff.2 hnil
    have e3:(if 16=18 then ((11:Nat),(7:Nat),(0:UInt8)) else if 16=17 then (3,3,0) else if 16=16 then (3,2,l.getLastD 0) else (1,0,UInt8.ofNat 16))=(3,2,l.getLastD 0):=rfl
    rw [if_neg (show ¬(16=16∧l=[]) from fun hh=>hnil hh.2)] at hgo
    simp only [e3] at hgo
    refine cF (beq_eq_false_iff_ne.2 (by omega)) ?_
    rw [w64i (x:=((l.length:Nat):Int)-1) (by omega),show ((l.length:Nat):Int)-1=((l.length-1:Nat):Int) by omega]
    obtain ⟨x,hx,hxs⟩:=qa0 (xs:=l) (k:=l.length-1) (by omega)
    refine ho2.rd.ix (i:=((l.length-1:Nat):Int)) rfl (by omega) (by omega) fun hc=>?_
    rw [hxs] at hc
    refine ldB8 (b:=x) hc ?_
    have hlast:l.getLastD 0=x:=by
     rw [List.getLastD_eq_getLast?,List.getLast?_eq_getElem?,hx]
     rfl
    rw [hlast] at hgo
    exact go 3 2 x (by decide) (by decide) (by decide) hgo
  ·rw [if_neg (show ¬(y=16∧l=[]) from fun hh=>e16 hh.1)] at hgo
   refine cF (beq_eq_false_iff_ne.2 (by omega)) ?_
   by_cases e17:y=17
   ·subst e17
    have e3:(if 17=18 then ((11:Nat),(7:Nat),(0:UInt8)) else if 17=17 then (3,3,0) else if 17=16 then (3,2,l.getLastD 0) else (1,0,UInt8.ofNat 17))=(3,3,0):=rfl
    simp only [e3] at hgo
    exact cT rfl (go 3 3 0 (by decide) (by decide) (by decide) hgo)
   ·have e18:y=18:=by omega
    subst e18
    have e3:(if 18=18 then ((11:Nat),(7:Nat),(0:UInt8)) else if 18=17 then (3,3,0) else if 18=16 then (3,2,l.getLastD 0) else (1,0,UInt8.ofNat 18))=(11,7,0):=rfl
    simp only [e3] at hgo
    exact cF rfl (cT rfl (go 11 7 0 (by decide) (by decide) (by decide) hgo))
end
end Go.Proofs.YtmagnpcgpinmcaaGreat
namespace Go.Proofs.YtmagnpcgpinmcaaGreat
open Go.Vc Go.RowKit
set_option maxRecDepth 400000
theorem q4t (t bs:List UInt8) (n:Nat) {l':List UInt8} {a':Nat}:∀(f a:Nat) (l:List UInt8),qb4 t bs n f a l=.lens l' a'→n≤l'.length
 | 0,a,l,h=>by cases h
 | f+1,a,l,h=>by
  rw [qb4] at h
  split at h
  ·next hn=>cases h;exact hn
  ·split at h
   ·cases h
   ·cases h
   ·next y k hr =>
    split at h
    ·cases h
    ·generalize (if y=18 then ((11:Nat),(7:Nat),(0:UInt8)) else if y=17 then (3,3,0) else if y=16 then (3,2,l.getLastD 0) else (1,0,UInt8.ofNat y))=T at h
     obtain ⟨b,m,v⟩:=T
     dsimp only at h
     split at h
     ·cases h
     ·split at h
      ·cases h
      ·exact q4t t bs n f _ _ h
section
variable {w w':World} {base g rg:Nat} {s out:Slc} {bs:List UInt8} {most at_:Nat}
theorem q8h {c:Cfg} {K:Int→World→Prop} (h:RSt w base g rg s out bs c.hist most at_) (hm:c.mode=3) (hbase:base≤w.heap.size)
  (hK:∀(e:Int) out' hist' a' w',RSt w' base g rg s out' bs hist' most a'→RTo w w' g rg out out'→RRes most bs c at_ (if c.last then 5 else 0) e a' hist'→K e w'):qh0 (some ⟨g,0,none⟩) w K:=by
 refine qs6 _ ?_
 unfold qhp
 simp only [onPtr_some]
 have hpre:c.hist <+: c.hist:=List.prefix_refl _
 have st0:step1 most bs at_ c=qiu bs at_ c:=by rw [step1,if_neg (by omega),stepN,if_neg (by omega),if_neg (by omega),if_neg (by omega),if_pos hm]
 unfold qiu at st0
 have hlt:=h.lt hbase
 have short:∀a' w',step1 most bs at_ c=.short→RSt w' base g rg s out bs c.hist most a'→RTo w w' g rg out out→K 2 w':=fun a' w' hs h' t'=>hK _ _ _ _ _ h' t' (RRes.short hs (by omega) hpre)
 have bad:∀a' w',step1 most bs at_ c=.err 3→RSt w' base g rg s out bs c.hist most a'→RTo w w' g rg out out→K 3 w':=fun a' w' hs h' t'=>hK _ _ _ _ _ h' t' (RRes.err hs (by decide) rfl hpre)
 refine qbt (x:=some ⟨rg,0,none⟩) (h.blk.cells 0 _ rfl) ?_
 refine qc2 (n:=5) h (by decide) (fun hf1 w1 h1 t1=>?_) (fun hs1 w1 h1 t1=>?_)
 rotate_left
 ·rw [if_pos (by omega)] at st0
  exact cT rfl (short _ _ st0 h1 t1)
 refine cF rfl ?_
 refine qbt (x:=some ⟨rg,0,none⟩) (h1.blk.cells 0 _ rfl) ?_
 refine qc2 (n:=5) h1 (by decide) (fun hf2 w2 h2 t2=>?_) (fun hs2 w2 h2 t2=>?_)
 rotate_left
 ·rw [if_pos (by omega)] at st0
  exact cT rfl (short _ _ st0 h2 (t1.trans t2))
 refine cF rfl ?_
 refine qbt (x:=some ⟨rg,0,none⟩) (h2.blk.cells 0 _ rfl) ?_
 refine qc2 (n:=4) h2 (by decide) (fun hf3 w3 h3 t3=>?_) (fun hs3 w3 h3 t3=>?_)
 rotate_left
 ·rw [if_pos (by omega)] at st0
  exact cT rfl (short _ _ st0 h3 ((t1.trans t2).trans t3))
 refine cF rfl ?_
 rw [if_neg (by omega)] at st0
 dsimp only at st0
 rw [show at_+5+5=at_+10 by omega] at h3 hf3 ⊢
 rw [show at_+10+4=at_+14 by omega] at h3 hf3
 have t03:=(t1.trans t2).trans t3
 have pa:=qav bs at_ 5
 have pb:=qav bs (at_+5) 5
 have pd:=qav bs (at_+10) 4
 obtain ⟨a,ha⟩:∃a,a=peekN bs at_ 5:=⟨_,rfl⟩
 obtain ⟨b,hb⟩:∃b,b=peekN bs (at_+5) 5:=⟨_,rfl⟩
 obtain ⟨d,hd⟩:∃d,d=peekN bs (at_+10) 4:=⟨_,rfl⟩
 rw [←ha] at pa st0 ⊢
 rw [←hb] at pb st0 ⊢
 rw [←hd] at pd st0 ⊢
 refine jpO fun J hJ=>?_
 by_cases hab:29<a∨29<b
 ·rw [if_pos hab] at st0
  by_cases h29:29<a
  ·exact cT (decide_eq_true (by omega)) (bad _ _ st0 h3 t03)
  ·exact cF (decide_eq_false (by omega)) (cT (decide_eq_true (by omega)) (bad _ _ st0 h3 t03))
 rw [if_neg hab] at st0
 refine cF (decide_eq_false (by omega)) (cF (decide_eq_false (by omega)) (hJ _ _ ?_))
 clear hJ
 have hs03:=t03.chg.size
 refine nwb fun w5 hb5 hB5 hs5=>?_
 obtain ⟨T,hT⟩:∃T,T=w3.heap.size:=⟨_,rfl⟩
 rw [←hT] at hb5 ⊢
 refine qeu qal (x0:=(0:UInt8)) (n:=19) rfl rfl rfl (by rw [qcp];omega) (by simp only [maxLen];omega) fun w6 ho6 hB6=>?_
 obtain ⟨q,hq⟩:∃q:Slc,q=⟨some ⟨w5.heap.size,0,none⟩,19,19⟩:=⟨_,rfl⟩
 rw [←hq] at ho6 ⊢
 have hB36:Below w.heap.size w3 w6:=(hB5.mono hs03).trans (hB6.mono (by omega))
 have h6:=h3.keepB hlt hB36
 have t06:=t03.keepB hB36
 have hb6:=hb5.ext hB6
 have ho6:Own qab w6 w.heap.size q (List.replicate 19 0):=ho6.base (by omega)
 have hTb:w.heap.size≤T:=by omega
 have d4:IntKind.i64.wrap (IntKind.i64.wrap (d:Int)+4)=((d+4:Nat):Int):=by
  rw [qad .i64 (x:=d) (by show _<2^63;omega),w64i (by omega)];rfl
 rw [d4]
 have row:∀{w2 w3},RTo w2 w3 g rg out out→∀{r:Slc} {l:List UInt8},Own qab w2 w.heap.size r l→Own qab w3 w.heap.size r l:=fun {w2 w3} hto {r l} ho=>Own.chg ho hto.chg fun k hk e=>by
  have:=(ho.lt k hk).1
  have:=hlt k (.inl e)
  omega
 obtain ⟨oc,hoc⟩:∃oc:List Value,oc=[(.int .i64 16),(.int .i64 17),(.int .i64 18),(.int .i64 0),(.int .i64 8),(.int .i64 7),(.int .i64 9),(.int .i64 6),(.int .i64 10),(.int .i64 5),(.int .i64 11),(.int .i64 4),(.int .i64 12),(.int .i64 3),(.int .i64 13),(.int .i64 2),(.int .i64 14),(.int .i64 1),(.int .i64 15)]:=⟨_,rfl⟩
 have hocg:∀i,i<19→oc[i]?=some (.int .i64 ((qfv.getD i 0:Nat):Int)):=by
  intro i hi
  have e:oc=qfv.map (fun n:Nat=>Value.int .i64 (n:Int)):=by rw [hoc];rfl
  have hl:qfv[i]?=some (qfv.getD i 0):=by
   rw [List.getD_eq_getElem?_getD,List.getElem?_eq_getElem (show i<qfv.length from hi)]
   rfl
  rw [e,List.getElem?_map,hl]
  rfl
 rw [←hoc] at hb6
 refine lpR (fun (u:Int×Unit) w7=>∃i:Nat,u.1=i∧i≤d+4∧RSt w7 base g rg s out bs c.hist most (at_+14+3*i)∧RTo w w7 g rg out out∧Blk w7 T qbf oc∧Own qab w7 w.heap.size q (clens bs (at_+14) i)) (fun u=>d+4-u.1.toNat)
  ⟨0,rfl,by omega,h6,t06,hb6,ho6⟩ ?_
 rintro ⟨i,_⟩ w7 ⟨i,rfl,hi,h7,t7,hb7,ho7⟩ I hI
 dsimp only at *
 have hs7:=t7.chg.size
 have hclen:∀i,(clens bs (at_+14) i).length=19:=fun i=>by
  induction i with
  | zero=>simp [clens]
  | succ i ih=>rw [clens,List.length_set];exact ih
 refine cO (fun hl=>?_) (fun hl=>?_)
 ·have hl:=of_decide_eq_true hl
  refine qbt (x:=some ⟨rg,0,none⟩) (h7.blk.cells 0 _ rfl) ?_
  refine qc2 (n:=3) h7 (by decide) (fun hf8 w8 h8 t8=>?_) (fun hs8 w8 h8 t8=>?_)
  rotate_left
  ·rw [if_pos (by omega)] at st0
   exact cT rfl (short _ _ st0 h8 (t7.trans t8))
  refine cF rfl ⟨by omega,?_⟩
  have hb8:Blk w8 T qbf oc:=hb7.chg t8.chg fun e=>by have:=hlt T (.inl e);omega
  have ho8:=row t8 ho7
  have hs8:=(t7.trans t8).chg.size
  have hcell:=hb8.cells i _ (hocg i (by omega))
  refine lI (x:=((qfv.getD i 0:Nat):Int)) (by simpa using hcell) ?_
  have hord:=q7d i (by omega)
  have p3:=qav bs (at_+14+3*i) 3
  obtain ⟨x,hx,hxs⟩:=qa0 (xs:=clens bs (at_+14) i) (k:=qfv.getD i 0) (by rw [hclen];exact hord)
  have hpv:(UInt8.ofNat (peekN bs (at_+14+3*i) 3)).toNat=peekN bs (at_+14+3*i) 3:=by rw [UInt8.toNat_ofNat'];omega
  refine ho8.rd.ix (i:=((qfv.getD i 0:Nat):Int)) rfl (by omega) (by rw [hclen];omega) fun _=>?_
  refine ho8.st0 (x:=x) (y:=UInt8.ofNat (peekN bs (at_+14+3*i) 3)) hx (by show [Value.int .u8 _]=_;rw [hpv,qad .u8 (x:=peekN bs (at_+14+3*i) 3) (by show _<2^8;omega)]) fun w9 ho9 hg9 hs9=>?_
  have hc9:Chg (fun j=>q.blk=some j) w8 w9:=Chg.of_grown hg9 fun j hj=>hj
  have hB9:Below w.heap.size w8 w9:=hc9.below hs8 fun j hj e=>by have:=(ho8.lt j e).1;omega
  rw [w64i (by omega)]
  refine hI _ _ ⟨i+1,rfl,by omega,?_,(t7.trans t8).keepB hB9,hb8.chg hc9 fun e=>qai ho8 hb8 (by decide) T e rfl,ho9⟩ (by simp;omega)
  have:=h8.keepB hlt hB9
  rwa [show at_+14+3*i+3=at_+14+3*(i+1) by omega] at this
 have hl:=of_decide_eq_false hl
 have hid:i=d+4:=by omega
 subst hid
 have hle7:=h7.rdr.le
 rw [if_neg (by omega)] at st0
 obtain ⟨cl,hcl⟩:∃cl,cl=clens bs (at_+14) (d+4):=⟨_,rfl⟩
 rw [←hcl] at st0 ho7
 have hcl19:cl.length=19:=by rw [hcl,hclen]
 refine qm8 ho7.rd (fun hbad e he=>?_) (fun hok tg lo co w8 tab8 hB8=>?_)
 ·rw [if_pos hbad] at st0
  exact cT (by simpa using he) (bad _ _ st0 h7 t7)
 rw [if_neg hok] at st0
 refine cF rfl ?_
 have hB78:Below w.heap.size w7 w8:=hB8.mono hs7
 have h8:=h7.keepB hlt hB78
 have t8:=t7.keepB hB78
 have hs8:=t8.chg.size
 have tabK:∀{w2 w3:World} {tg lo co ls},w.heap.size≤w2.heap.size→RTab w3 w2.heap.size tg lo co ls→TabK w3 base out (tg,lo,co) ls:=fun {w2 w3 tg lo co ls} hle tab=>⟨tab.base (by omega),fun k hk e=>by
  have:=(tab.lo.lt k hk).1
  have:=hlt k (.inl (.inr (.inr e)))
  omega⟩
 have en:IntKind.i64.wrap ((IntKind.i64.wrap ((IntKind.i64.wrap ((IntKind.i64.wrap (a:Int))+(257:Int)))+(IntKind.i64.wrap (b:Int))))+(1:Int))=((a+257+b+1:Nat):Int):=by
  rw [qad .i64 (x:=a) (by show _<2^63;omega),qad .i64 (x:=b) (by show _<2^63;omega),w64i (x:=(a:Int)+257) (by omega),w64i (x:=(a:Int)+257+(b:Int)) (by omega),w64i (by omega)]
  omega
 have en2:IntKind.i64.wrap ((IntKind.i64.wrap (a:Int))+(257:Int))=((a+257:Nat):Int):=by
  rw [qad .i64 (x:=a) (by show _<2^63;omega),w64i (by omega)];rfl
 rw [en,en2]
 refine zbl (t:=(tg,lo,co)) (n:=a+257+b+1) h8 (tabK hs7 tab8) (by omega) (by omega) (by omega) fun r e a9 w9 h9 t9 hmm=>?_
 have t09:=t8.trans t9
 rw [show at_+14+3*(d+4)=at_+14+3*(d+4) from rfl] at hmm
 cases hgo:qb4 cl bs (a+257+b+1) 400 (at_+14+3*(d+4)) [] with
 | short =>
  rw [hgo] at hmm st0
  have hmm:e=2:=hmm
  subst hmm
  exact cT rfl (short _ _ st0 h9 t09)
 | form =>
  rw [hgo] at hmm st0
  have hmm:e=3:=hmm
  subst hmm
  exact cT rfl (bad _ _ st0 h9 t09)
 | lens l a9' =>
  rw [hgo] at hmm st0
  obtain ⟨rfl,hol,rfl⟩:=hmm
  dsimp only at st0
  have hll:=q4t cl bs _ _ _ _ hgo
  refine cF rfl ?_
  have hs9:=t09.chg.size
  have hln:=hol.rd.n
  refine hol.rd.slK (l:=0) (m:=a+257) rfl (.inl ⟨rfl,rfl⟩) (.inr rfl) (by omega) (by omega) fun hp1=>?_
  rw [List.drop_zero] at hp1
  refine qm8 hp1 (fun hbad e he=>?_) (fun hok1 tg1 lo1 co1 w10 tab10 hB10=>?_)
  ·rw [if_pos (.inl hbad)] at st0
   exact cT (by simpa using he) (bad _ _ st0 h9 t09)
  refine cF rfl ?_
  have hB9':Below w.heap.size w9 w10:=hB10.mono hs9
  have h10:=h9.keepB hlt hB9'
  have t10:=t09.keepB hB9'
  have hs10:=t10.chg.size
  have hol10:=hol.ext hB10
  refine hol10.rd.slK (l:=a+257) (m:=l.length) rfl (.inr rfl) (.inl ⟨rfl,rfl⟩) (by omega) (Nat.le_refl _) fun hp2=>?_
  rw [List.take_length] at hp2
  refine qm8 hp2 (fun hbad e he=>?_) (fun hok2 tg2 lo2 co2 w11 tab11 hB11=>?_)
  ·rw [if_pos (.inr (.inl hbad))] at st0
   refine jpO fun J3 _=>?_
   exact cT (by simpa using he) (bad _ _ st0 h10 t10)
  have hB10':Below w.heap.size w10 w11:=hB11.mono hs10
  have h11:=h10.keepB hlt hB10'
  have t11:=t10.keepB hB10'
  have hs11:=t11.chg.size
  have hol11:=hol10.ext hB11
  refine jpO fun J3 hJ3=>cF rfl ?_
  obtain ⟨x,hx,hxs⟩:=qa0 (xs:=l) (k:=256) (by omega)
  have hgd:l.getD 256 0=x:=by rw [List.getD_eq_getElem?_getD,hx];rfl
  refine hol11.rd.ix (i:=256) rfl (by omega) (by omega) fun hc=>?_
  have hxs':∀h,l[((256:Int)).toNat]'h=x:=hxs
  rw [hxs'] at hc
  refine ldB8 (b:=x) hc ?_
  by_cases hx0:x=0
  ·rw [if_pos (.inr (.inr (by rw [hgd,hx0])))] at st0
   exact cT (by rw [hx0];rfl) (bad _ _ st0 h11 t11)
  rw [if_neg (fun hh=>by
   rcases hh with hh | hh | hh
   ·exact hok1 hh
   ·exact hok2 hh
   ·rw [hgd] at hh;exact hx0 hh)] at st0
  refine cF (beq_eq_false_iff_ne.2 fun e=>hx0 (UInt8.toNat.inj (by rw [show (0:UInt8).toNat=0 from rfl];omega))) (hJ3 _ _ ?_)
  have k1:=tabK hs9 (tab10.ext hB11)
  have k2:=tabK hs10 tab11
  refine q48 (c:={ c with mode:=4,sg:=l.take (a+257),ds:=l.drop (a+257) }) (t:=(tg1,lo1,co1)) (td:=(tg2,lo2,co2)) h11 k1 k2 rfl (by omega) fun e out' hist' a' w' h' t' r=>?_
  exact hK e out' hist' a' w' h' (t11.trans t') (.of_ch (.one st0) r)
end
end Go.Proofs.YtmagnpcgpinmcaaGreat
namespace Go.Proofs.YtmagnpcgpinmcaaGreat
open Go.Vc Go.RowKit
set_option maxRecDepth 400000
theorem zkb:∀i,i<288→qap[i]?=some (if i<144 then 8 else if i<256 then 9 else if i<280 then 7 else 8):=by decide +kernel
theorem zfo:qgg qap∧¬qel qap:=by
 have a:∀x∈qap,x.toNat≤15:=by decide +kernel
 have b:roomN qap=32768:=by decide +kernel
 refine ⟨⟨a,.inl b⟩,fun h=>?_⟩
 rcases h with (h | ⟨x,hx,hx15⟩) | h
 ·exact absurd h (by decide +kernel)
 ·have:=a x hx;omega
 ·exact h (.inl b)
theorem zad {w:World} {K:Slc→Slc→World→Prop} (hK:∀r q w',Own qab w' w.heap.size r qap→Own qab w' w.heap.size q (List.replicate 30 5)→Below w.heap.size w w'→K r q w'):qte w K:=by
 refine q9d ?_
 unfold qrd
 refine qeu qal (x0:=(0:UInt8)) (n:=288) rfl rfl rfl (by rw [qcp];omega) (by simp only [maxLen];omega) fun w1 ho1 hB1=>?_
 obtain ⟨t,ht⟩:∃t:Slc,t=⟨some ⟨w.heap.size,0,none⟩,288,288⟩:=⟨_,rfl⟩
 rw [←ht] at ho1 ⊢
 have hfl:qap.length=(List.replicate 288 (0:UInt8)).length:=by decide
 have hrl:(List.replicate 288 (0:UInt8)).length=288:=by decide
 refine lpR (fun (s:Int×Unit) w2=>∃i:Nat,s.1=i∧i≤288∧Own qab w2 w.heap.size t (mix qap (List.replicate 288 0) i)∧Below w.heap.size w w2) (fun s=>288-s.1.toNat) ⟨0,rfl,by omega,by rw [qf9];exact ho1,hB1⟩ ?_
 rintro ⟨i,_⟩ w2 ⟨i,rfl,hi,ho2,hB2⟩ I hI
 dsimp only at *
 refine cO (fun hlt=>?_) (fun hge=>?_)
 ·have hlt:=of_decide_eq_true hlt
  have hi2:i<288:=by omega
  rw [w64i (by omega)]
  have hf:=zkb i hi2
  have one:∀v:UInt8,qap[i]?=some v→ixK t (i:Int) 1 fun t19=>stK t19 [(.int .u8 (v.toNat:Int))] w2 fun w3=>I ((i:Int)+1,()) w3:=fun v hv=>by
   refine ho2.rd.ix (i:=(i:Int)) rfl (by omega) (by rw [qc3 hfl,hrl];omega) fun _=>?_
   refine ho2.st0 (x:=0) (y:=v) (by rw [show ((i:Int)).toNat=i from rfl,qfk hfl (by rw [hrl];exact hi2),if_neg (by omega),List.getElem?_replicate,if_pos hi2]) rfl fun w3 ho3 hg3 hs3=>?_
   rw [show ((i:Int)).toNat=i from rfl,qhe hfl (by rw [hrl];exact hi2) hv] at ho3
   have hc3:Chg (fun j=>t.blk=some j) w2 w3:=Chg.of_grown hg3 fun j hj=>hj
   exact hI _ _ ⟨i+1,rfl,by omega,ho3,hB2.trans (hc3.below hB2.size fun j hj e=>by have:=(ho2.lt j e).1;omega)⟩ (by simp;omega)
  refine cO (fun h1=>?_) (fun h1=>?_)
  ·have h1:=of_decide_eq_true h1
   rw [if_pos (by omega)] at hf
   exact one 8 hf
  ·have h1:=of_decide_eq_false h1
   rw [if_neg (by omega)] at hf
   refine cO (fun h2=>?_) (fun h2=>?_)
   ·have h2:=of_decide_eq_true h2
    rw [if_pos (by omega)] at hf
    exact one 9 hf
   ·have h2:=of_decide_eq_false h2
    rw [if_neg (by omega)] at hf
    refine cO (fun h3=>?_) (fun h3=>?_)
    ·have h3:=of_decide_eq_true h3
     rw [if_pos (by omega)] at hf
     exact one 7 hf
    ·have h3:=of_decide_eq_false h3
     rw [if_neg (by omega)] at hf
     exact one 8 hf
 ·have hge:=of_decide_eq_false hge
  have:i=288:=by omega
  subst this
  have hm:=qg9 hfl
  rw [hrl] at hm
  rw [hm] at ho2
  refine qeu qal (x0:=(0:UInt8)) (n:=30) rfl rfl rfl (by rw [qcp];omega) (by simp only [maxLen];omega) fun w3 ho3 hB3=>?_
  obtain ⟨u,hu⟩:∃u:Slc,u=⟨some ⟨w2.heap.size,0,none⟩,30,30⟩:=⟨_,rfl⟩
  rw [←hu] at ho3 ⊢
  have hfl:(List.replicate 30 (5:UInt8)).length=(List.replicate 30 (0:UInt8)).length:=by decide
  have hrl:(List.replicate 30 (0:UInt8)).length=30:=by decide
  refine lpR (fun (s:Int×Unit) w4=>∃i:Nat,s.1=i∧i≤30∧Own qab w4 w2.heap.size u (mix (List.replicate 30 5) (List.replicate 30 0) i)∧Below w2.heap.size w2 w4) (fun s=>30-s.1.toNat) ⟨0,rfl,by omega,by rw [qf9];exact ho3,hB3⟩ ?_
  rintro ⟨i,_⟩ w4 ⟨i,rfl,hi,ho4,hB4⟩ I hI
  dsimp only at *
  refine cO (fun hlt=>?_) (fun hge=>?_)
  ·have hlt:=of_decide_eq_true hlt
   have hi2:i<30:=by omega
   rw [w64i (by omega)]
   refine ho4.rd.ix (i:=(i:Int)) rfl (by omega) (by rw [qc3 hfl,hrl];omega) fun _=>?_
   refine ho4.st0 (x:=0) (y:=5) (by rw [show ((i:Int)).toNat=i from rfl,qfk hfl (by rw [hrl];exact hi2),if_neg (by omega),List.getElem?_replicate,if_pos hi2]) rfl fun w5 ho5 hg5 hs5=>?_
   rw [show ((i:Int)).toNat=i from rfl,qhe hfl (by rw [hrl];exact hi2) (by rw [List.getElem?_replicate,if_pos hi2])] at ho5
   have hc5:Chg (fun j=>u.blk=some j) w4 w5:=Chg.of_grown hg5 fun j hj=>hj
   exact hI _ _ ⟨i+1,rfl,by omega,ho5,hB4.trans (hc5.below hB4.size fun j hj e=>by have:=(ho4.lt j e).1;omega)⟩ (by simp;omega)
  ·have hge:=of_decide_eq_false hge
   have:i=30:=by omega
   subst this
   have hm:=qg9 hfl
   rw [hrl] at hm
   rw [hm] at ho4
   exact hK t u w4 (ho2.ext hB4) (ho4.base hB2.size) (hB2.trans (hB4.mono hB2.size))
end Go.Proofs.YtmagnpcgpinmcaaGreat
namespace Go.Proofs.YtmagnpcgpinmcaaGreat
open Go.Vc Go.RowKit
set_option maxRecDepth 400000
theorem RRes.le {most:Nat} {bs:List UInt8} {c:Cfg} {a m':Nat} {e:Int} {a':Nat} {hist':List UInt8} (h:RRes most bs c a m' e a' hist') (ha:a≤8*bs.length) (he:e=0):a≤a':=by
 rcases h with ⟨_,c',h1,_,_⟩ | ⟨c',a'',n,h1,h2,h3,_⟩
 ·exact (h1.le ha).2.1
 ·exfalso
  rcases h2 with ⟨_,_,rfl⟩ | ⟨_,hn⟩
  ·omega
  ·omega
section
variable {w w':World} {base g rg:Nat} {s out:Slc} {bs:List UInt8} {most at_:Nat}
theorem zia:qgg fiveL∧¬qel fiveL:=by
 have a:∀x∈fiveL,x.toNat≤15:=by decide +kernel
 have b:roomN fiveL=32768:=by decide +kernel
 refine ⟨⟨a,.inl b⟩,fun h=>?_⟩
 rcases h with (h | ⟨x,hx,hx15⟩) | h
 ·exact absurd h (by decide +kernel)
 ·have:=a x hx;omega
 ·exact h (.inl b)
theorem zd5 {c:Cfg} {K:Bool→Int→World→Prop} (h:RSt w base g rg s out bs c.hist most at_) (hm:c.mode=0) (hbase:base≤w.heap.size)
  (hK:∀(last:Bool) (e:Int) out' hist' a' w',RSt w' base g rg s out' bs hist' most a'→RTo w w' g rg out out'→RRes most bs c at_ (if last then 5 else 0) e a' hist'→(e=0→at_+3≤a')→K last e w'):qkn (some ⟨g,0,none⟩) w K:=by
 refine qu9 _ ?_
 unfold qi9
 simp only [onPtr_some]
 have hpre:c.hist <+: c.hist:=List.prefix_refl _
 have st0:step1 most bs at_ c=qeg bs at_ c:=by rw [step1,if_neg (by omega),stepN,if_pos hm]
 unfold qeg at st0
 have hlt:=h.lt hbase
 refine qbt (x:=some ⟨rg,0,none⟩) (h.blk.cells 0 _ rfl) ?_
 refine qc2 (n:=1) h (by decide) (fun hf1 w1 h1 t1=>?_) (fun hs1 w1 h1 t1=>?_)
 rotate_left
 ·rw [if_pos (by omega)] at st0
  exact cT rfl (hK false 2 _ _ _ _ h1 t1 (RRes.short st0 (by omega) hpre) fun e=>by omega)
 refine cF rfl ?_
 refine qbt (x:=some ⟨rg,0,none⟩) (h1.blk.cells 0 _ rfl) ?_
 refine qc2 (n:=2) h1 (by decide) (fun hf2 w2 h2 t2=>?_) (fun hs2 w2 h2 t2=>?_)
 rotate_left
 ·rw [if_pos (by omega)] at st0
  exact cT rfl (hK false 2 _ _ _ _ h2 (t1.trans t2) (RRes.short st0 (by omega) hpre) fun e=>by omega)
 refine cF rfl ?_
 have t02:=t1.trans t2
 rw [if_neg (by omega)] at st0
 dsimp only at st0
 have ev1:peekN bs at_ 3%2=peekN bs at_ 1:=qx7 bs at_ 1 3 (by decide)
 have ev2:peekN bs at_ 3/2=peekN bs (at_+1) 2:=by
  have:=q7g bs at_ 1 3 (by decide)
  rwa [Nat.pow_one] at this
 rw [ev1,ev2] at st0
 have p1:=qav bs at_ 1
 have p2:=qav bs (at_+1) 2
 obtain ⟨v,hv⟩:∃v,v=peekN bs at_ 1:=⟨_,rfl⟩
 obtain ⟨k,hk⟩:∃k,k=peekN bs (at_+1) 2:=⟨_,rfl⟩
 rw [←hv] at p1 st0 ⊢
 rw [←hk] at p2 st0 ⊢
 rw [show at_+1+2=at_+3 by omega] at h2 hf2
 have el:((v:Int)==(1:Int))=(v==1):=by
  cases hh:(v==1) with
  | true=>rw [eq_of_beq hh];rfl
  | false=>exact beq_eq_false_iff_ne.2 (by have:=beq_eq_false_iff_ne.1 hh;omega)
 rw [el]
 have hs02:=t02.chg.size
 have go:∀(c1:Cfg),step1 most bs at_ c=.next c1 (at_+3)→c1.last=(v==1)→∀{w3:World},RTo w w3 g rg out out→∀(e:Int) out' hist' a' w',RSt w' base g rg s out' bs hist' most a'→RTo w3 w' g rg out out'→RRes most bs c1 (at_+3) (if c1.last then 5 else 0) e a' hist'→K (v==1) e w':=fun c1 hst hla {w3} t3 e out' hist' a' w' h' t' r=>by
  rw [hla] at r
  exact hK (v==1) e out' hist' a' w' h' (t3.trans t') (.of_ch (.one hst) r) fun e0=>r.le hf2 e0
 by_cases k0:k=0
 ·refine cT (by rw [k0];rfl) ?_
  rw [if_pos k0] at st0
  exact zbw (c:={ c with last:=v==1,mode:=1 }) h2 rfl (by omega) fun e out' hist' a' w' h' t' r=>go _ st0 rfl t02 e out' hist' a' w' h' t' r
 rw [if_neg k0] at st0
 refine cF (beq_eq_false_iff_ne.2 (by omega)) ?_
 by_cases k1:k=1
 ·refine cT (by rw [k1];rfl) ?_
  rw [if_pos k1] at st0
  refine zad fun q6 q7 w3 ho3 _ hB3=>?_
  refine qm8 ho3.rd (fun hh=>absurd hh zfo.2) fun _ tg lo co w4 tab4 hB4=>?_
  have hs3:=hB3.size
  have hB24:Below w2.heap.size w2 w4:=hB3.trans (hB4.mono hs3)
  have hs4:=hB24.size
  refine qeu qal (x0:=(0:UInt8)) (n:=32) rfl rfl rfl (by rw [qcp];omega) (by simp only [maxLen];omega) fun w5 ho5 hB5=>?_
  obtain ⟨u,hu⟩:∃u:Slc,u=⟨some ⟨w4.heap.size,0,none⟩,32,32⟩:=⟨_,rfl⟩
  rw [←hu] at ho5 ⊢
  have hfl:(List.replicate 32 (5:UInt8)).length=(List.replicate 32 (0:UInt8)).length:=by decide
  have hrl:(List.replicate 32 (0:UInt8)).length=32:=by decide
  refine lpR (fun (t:Int×Unit) w6=>∃i:Nat,t.1=i∧i≤32∧Own qab w6 w4.heap.size u (mix (List.replicate 32 5) (List.replicate 32 0) i)∧Below w4.heap.size w4 w6) (fun t=>32-t.1.toNat) ⟨0,rfl,by omega,by rw [qf9];exact ho5,hB5⟩ ?_
  rintro ⟨i,_⟩ w6 ⟨i,rfl,hi,ho6,hB6⟩ I hI
  dsimp only at *
  refine cO (fun hlt6=>?_) (fun hge=>?_)
  ·have hlt6:=of_decide_eq_true hlt6
   have hi2:i<32:=by omega
   rw [w64i (by omega)]
   refine ho6.rd.ix (i:=(i:Int)) rfl (by omega) (by rw [qc3 hfl,hrl];omega) fun _=>?_
   refine ho6.st0 (x:=0) (y:=5) (by rw [show ((i:Int)).toNat=i from rfl,qfk hfl (by rw [hrl];exact hi2),if_neg (by omega),List.getElem?_replicate,if_pos hi2]) rfl fun w7 ho7 hg7 hs7=>?_
   rw [show ((i:Int)).toNat=i from rfl,qhe hfl (by rw [hrl];exact hi2) (by rw [List.getElem?_replicate,if_pos hi2])] at ho7
   have hc7:Chg (fun j=>u.blk=some j) w6 w7:=Chg.of_grown hg7 fun j hj=>hj
   exact hI _ _ ⟨i+1,rfl,by omega,ho7,hB6.trans (hc7.below hB6.size fun j hj e=>by have:=(ho6.lt j e).1;omega)⟩ (by simp;omega)
  ·have hge:=of_decide_eq_false hge
   have:i=32:=by omega
   subst this
   have hm6:=qg9 hfl
   rw [hrl] at hm6
   rw [hm6] at ho6
   have hs6:=hB6.size
   have ho6':Rd qab w6 u fiveL:=ho6.rd
   refine qm8 ho6' (fun hh=>absurd hh zia.2) fun _ tg2 lo2 co2 w8 tab8 hB8=>?_
   have hB48:Below w4.heap.size w4 w8:=hB6.trans (hB8.mono hs6)
   have hB28:Below w.heap.size w2 w8:=(hB24.trans (hB48.mono hs4)).mono hs02
   have h8:=h2.keepB hlt hB28
   have t8:=t02.keepB hB28
   have hs8:=hB28.size
   have tabK:∀{b:Nat} {tg lo co ls},w.heap.size≤b→RTab w8 b tg lo co ls→TabK w8 base out (tg,lo,co) ls:=fun {b tg lo co ls} hle tab=>⟨tab.base (by omega),fun k hk e=>by
    have:=(tab.lo.lt k hk).1
    have:=hlt k (.inl (.inr (.inr e)))
    omega⟩
   have k1:=tabK (by omega) (tab4.ext hB48)
   have k2:=tabK (by omega) tab8
   exact q48 (c:={ c with last:=v==1,mode:=4,sg:=qap,ds:=fiveL }) (t:=(tg,lo,co)) (td:=(tg2,lo2,co2)) h8 k1 k2 rfl (by omega) fun e out' hist' a' w' h' t' r=>go _ st0 rfl t8 e out' hist' a' w' h' t' r
 rw [if_neg k1] at st0
 refine cF (beq_eq_false_iff_ne.2 (by omega)) ?_
 by_cases k2:k=2
 ·refine cT (by rw [k2];rfl) ?_
  rw [if_pos k2] at st0
  exact q8h (c:={ c with last:=v==1,mode:=3 }) h2 rfl (by omega) fun e out' hist' a' w' h' t' r=>go _ st0 rfl t02 e out' hist' a' w' h' t' r
 ·rw [if_neg k2] at st0
  exact cF (beq_eq_false_iff_ne.2 (by omega)) (hK false 3 _ _ _ _ h2 t02 (RRes.err st0 (by decide) rfl hpre) fun e=>by omega)
end
def zl0 (most:Nat) (bs:List UInt8) (e u:Int) (hist':List UInt8):Prop :=
 (e=0∧∃c' a',Ch most bs cfg0 0 c' a'∧c'.mode=5∧c'.hist=hist'∧u=(((a'+7)/8:Nat):Int)) ∨
 (u=0∧∃c' a'' n,Ch most bs cfg0 0 c' a''∧(step1 most bs a'' c'=.short∧c'.mode≠5∧n=2∨step1 most bs a'' c'=.err n∧n≠0)∧e=((n:Nat):Int)∧c'.hist <+: hist')
theorem zd9 {w:World} {b:Slc} {bs:List UInt8} {most:Nat} {K:Slc→Int→Int→World→Prop} (hb:Rd qab w b bs) (hbl:∀k,b.blk=some k→k<w.heap.size) (hl:bs.length≤1000000000) (hm:most≤1073741824)
  (hK:∀o u e hist' w',zl0 most bs e u hist'→hist'.length≤most→Own qab w' w.heap.size o hist'→Below w.heap.size w w'→K o u e w'):qor b (most:Int) w K:=by
 refine q8k _ _ ?_
 unfold qq9
 refine nwb fun w1 hb1 hB1 hs1=>?_
 obtain ⟨rg,hrg⟩:∃rg,rg=w.heap.size:=⟨_,rfl⟩
 refine nwb fun w2 hb2 hB2 hs2=>?_
 obtain ⟨g,hg⟩:∃g,g=w1.heap.size:=⟨_,rfl⟩
 rw [←hrg] at hb1 hb2
 rw [←hg] at hb2 ⊢
 have hB02:Below w.heap.size w w2:=hB1.trans (hB2.mono (by omega))
 have h2:RSt w2 w.heap.size g rg b nilS bs (cfg0).hist most 0:=⟨hb2,⟨hb1.ext hB2,hb.ext hB02,fun k hk=>by have:=hbl k hk;omega,Nat.zero_le _,hl⟩,Own.nil _ _ _,by omega,by omega,fun k hk=>hbl k hk,Nat.zero_le _,hm⟩
 have hs02:=hB02.size
 refine qb7 (fun m (_:Unit) w3=>∃(out3:Slc) (c3:Cfg) (a3:Nat),m=8*bs.length-a3∧RSt w3 w.heap.size g rg b out3 bs c3.hist most a3∧Below w.heap.size w w3∧Ch most bs cfg0 0 c3 a3∧c3.mode=0) _ ⟨nilS,cfg0,0,rfl,h2,hB02,.refl _ _,rfl⟩ ?_
 rintro m _ w3 ⟨out3,c3,a3,rfl,h3,hB3,hch,hm3⟩ I hI
 have hs3:=hB3.size
 refine zd5 h3 hm3 hs3 fun last e out4 hist4 a4 w4 h4 t4 r hle=>?_
 have hB4:=hB3.trans (t4.below h3 hs3)
 have hs4:=hB4.size
 rcases r with ⟨rfl,c',hc',hmode,rfl⟩ | ⟨c',a'',n,hc',hst,rfl,hp⟩
 ·refine cF rfl ?_
  have hle3:=hle rfl
  have hle4:=h4.rdr.le
  cases last with
  | true =>
   refine cT rfl ?_
   have h4d:=h4.drew
   refine lSl (x:=out4) (h4d.blk.cells 1 _ rfl) ?_
   refine qbt (x:=some ⟨rg,0,none⟩) (h4d.blk.cells 0 _ rfl) ?_
   rw [onPtr_some]
   refine lI (x:=(a4:Int)) (h4d.rdr.blk.cells 1 _ rfl) ⟨by decide,?_⟩
   have eu:IntKind.i64.wrap ((IntKind.i64.wrap ((a4:Int)+(7:Int))).tdiv (8:Int))=(((a4+7)/8:Nat):Int):=by
    rw [w64i (x:=(a4:Int)+7) (by omega),show (a4:Int)+7=((a4+7:Nat):Int) from rfl,show (8:Int)=((8:Nat):Int) from rfl,←Int.ofNat_tdiv,w64i (by omega)]
   rw [eu]
   have hBd:Below w.heap.size w4 w4.drew:=((Below.refl _ w4).drew).mono hs4
   exact hK out4 _ 0 c'.hist _ (.inl ⟨rfl,c',a4,hch.trans hc',hmode,rfl,rfl⟩) h4.hm h4d.out (hB4.trans hBd)
  | false =>
   refine cF rfl ?_
   exact hI (8*bs.length-a4) _ w4 ⟨out4,c',a4,rfl,h4,hB4,hch.trans hc',hmode⟩ (by omega)
 ·have hn0:n≠0:=by
   rcases hst with ⟨_,_,rfl⟩ | ⟨_,hn⟩
   ·decide
   ·exact hn
  refine cT (by
           have:((n:Nat):Int)≠0:=by omega
           simpa using this) ?_
  refine lSl (x:=out4) (h4.blk.cells 1 _ rfl) ?_
  exact hK out4 0 _ hist4 w4 (.inr ⟨rfl,c',a'',n,hch.trans hc',hst,rfl,hp⟩) h4.hm h4.out hB4
end Go.Proofs.YtmagnpcgpinmcaaGreat
namespace Go.Proofs.YtmagnpcgpinmcaaGreat
open Go.Vc Go.RowKit
set_option maxRecDepth 400000
end Go.Proofs.YtmagnpcgpinmcaaGreat
namespace Go.Proofs.YtmagnpcgpinmcaaGreat
open Go.Vc Go.RowKit
set_option maxRecDepth 400000
def za5 (fixed:Bool) (body bs:List UInt8):Prop:=(fixed=false→body=qax bs)∧(fixed=true→le body=(qbz bs).1∧body.length=((qbz bs).2+7)/8)
theorem zj6 {fixed:Bool} {body bs tail:List UInt8} {most:Nat} (h:za5 fixed body bs) (hm:bs.length≤most):∃c' p',Ch most (body++tail) cfg0 0 c' p'∧c'.mode=5∧c'.hist=bs∧(p'+7)/8=body.length:=by
 cases fixed with
 | true =>
  obtain ⟨h1,h2⟩:=h.2 rfl
  obtain ⟨c',hch,h5,hh⟩:=zib (tail:=tail) h1 h2 hm
  exact ⟨c',_,hch,h5,hh,h2.symm⟩
 | false =>
  have h1:=h.1 rfl
  subst h1
  obtain ⟨c',hch,h5,hh⟩:=zin (most:=most) (B:=qax bs++tail) (tail:=tail) bs.length bs 0 cfg0 (Nat.le_refl _) (by simp) rfl (by show 0+bs.length≤_;omega)
  exact ⟨c',_,hch,h5,by rw [hh];rfl,by omega⟩
theorem zfa {fixed:Bool} {body bs:List UInt8} (h:za5 fixed body bs):body.length≤9*bs.length+20∧0<body.length:=by
 cases fixed with
 | true =>
  obtain ⟨h1,h2⟩:=h.2 rfl
  have:=q60 bs
  have h3:3≤(qb6 bs).2:=(qoj bs (3,3)).1
  have e:(qbz bs).2=(qb6 bs).2+kN 256:=rfl
  omega
 | false =>
  have h1:=h.1 rfl
  subst h1
  have:=qnv _ bs (Nat.le_refl _)
  have hp:0<(qax bs).length:=by
   rw [qax]
   split<;>simp [headS]
  omega
theorem zle {c:Cfg} {p:Nat} {body s more:List UInt8} (h5:c.mode=5) (hp:(p+7)/8=body.length) (hs:s.length=4):tailL c p (body++(s++more))=s:=by
 rw [tailL,if_pos h5,hp,List.drop_left,List.take_append_of_le_length (by omega),List.take_of_length_le (by omega)]
theorem q02 (body s more:List UInt8):([120,1]++body++s++more).drop 2=body++(s++more):=by
 simp
theorem zey (body s more:List UInt8):qdr ([120,1]++body++s++more)=true:=by
 show (zh1 120 && zh2 120 1)=true
 decide
theorem zk3 {body s more:List UInt8} {c:Cfg} {p:Nat} {bs:List UInt8} (h5:c.mode=5) (hp:(p+7)/8=body.length) (hs:s.length=4) (hh:c.hist=bs):zerr ([120,1]++body++s++more) c p .short=if bigN s=adlN bs then 0 else 4:=by
 rw [zerr.eq_def,zey,if_neg (by decide)]
 show zend _ c p=_
 rw [zend,q02,zle h5 hp hs,if_pos hs,hh]
section
variable {w:World}
theorem ze8 {a b:List UInt8} (ha:a.length=4) (hb:b.length=4) (h:bigN a=bigN b):a=b:=by
 match a,ha,b,hb with
 | [a0,a1,a2,a3],_,[b0,b1,b2,b3],_ =>
  rw [big4,big4] at h
  have h0:=a0.toNat_lt
  have h1:=a1.toNat_lt
  have h2:=a2.toNat_lt
  have h3:=a3.toNat_lt
  have g0:=b0.toNat_lt
  have g1:=b1.toNat_lt
  have g2:=b2.toNat_lt
  have g3:=b3.toNat_lt
  rw [UInt8.toNat.inj (show a0.toNat=b0.toNat by omega),UInt8.toNat.inj (show a1.toNat=b1.toNat by omega),UInt8.toNat.inj (show a2.toNat=b2.toNat by omega),UInt8.toNat.inj (show a3.toNat=b3.toNat by omega)]
end
end Go.Proofs.YtmagnpcgpinmcaaGreat
namespace Go.Proofs.YtmagnpcgpinmcaaGreat
open Go.Vc Go.RowKit
set_option maxRecDepth 400000
theorem q7u (most:Nat) (B:List UInt8):∀(n:Nat) (c:Cfg) (a:Nat),mu B c a≤n→a≤8*B.length→∃c1 a1 r,Ch most B c a c1 a1∧step1 most B a1 c1=r∧∀c a,r≠.next c a
 | n,c,a,hn,ha=>by
  cases h:step1 most B a c with
  | short=>exact ⟨c,a,_,.refl _ _,h,by intro _ _ e;cases e⟩
  | err m=>exact ⟨c,a,_,.refl _ _,h,by intro _ _ e;cases e⟩
  | next c2 a2 =>
   obtain ⟨h1,h2,h3⟩:=qok h ha
   cases n with
   | zero=>omega
   | succ n =>
    obtain ⟨c1,a1,r,hc,hs,hr⟩:=q7u most B n c2 a2 (by omega) h1
    exact ⟨c1,a1,r,.step h hc,hs,hr⟩
theorem ze2 {most:Nat} {c1:Cfg} {a1:Nat} {r0:SR} (hch:Ch most [] cfg0 0 c1 a1) (hst:step1 most [] a1 c1=r0) (hr0:∀c a,r0≠.next c a):c1=cfg0∧a1=0∧r0=.short:=by
 have h0:step1 most ([]:List UInt8) 0 cfg0=.short:=rfl
 obtain ⟨rfl,rfl⟩:=(Ch.refl (most:=most) (bs:=[]) cfg0 0).same hch (by rw [h0];intro _ _ e;cases e) (by rw [hst];exact hr0)
 exact ⟨rfl,rfl,by rw [←hst];rfl⟩
theorem zme {a b:Nat}:(((a:Nat):Int) !=((b:Nat):Int))=(a !=b):=by
 cases h:(a !=b) with
 | true=>exact bne_iff_ne.2 (by have:=bne_iff_ne.1 h;omega)
 | false =>
  have:a=b:=by simpa using h
  rw [this];simp
section
variable {w:World}
theorem q9y {b:Slc} {x y:UInt8} {ys:List UInt8} {most:Nat} {c1:Cfg} {a1:Nat} {r0:SR} {K:Slc→Int→Int→World→Prop} (hm:most≤1073741824) (hb:Rd qab w b (x::y::ys)) (hbl:∀k,b.blk=some k→k<w.heap.size) (hl:ys.length≤999999990)
  (hch:Ch most ys cfg0 0 c1 a1) (hst:step1 most ys a1 c1=r0) (hr0:∀c a,r0≠.next c a) (hhd:qdr (x::y::ys)=true)
  (hK1:zerr (x::y::ys) c1 a1 r0=0→∀o w',Own qab w' w.heap.size o c1.hist→Below w.heap.size w w'→K o ((6+(a1+7)/8:Nat):Int) 0 w')
  (hK2:∀n,zerr (x::y::ys) c1 a1 r0=n→n≠0→∀o w',Below w.heap.size w w'→K o 0 n w') :
   slK b (some 2) none 1 fun t51 =>
      qor t51 most w fun t53 t53_1 t53_2 w3 =>
      cond (t53_2 !=(0:Int))
       (K t53 0 t53_2 w3)
       (cond (decide (((b.n:Nat):Int)<(IntKind.i64.wrap ((6:Int)+t53_1))))
         (K t53 0 2 w3)
         (
         qo0 t53 w3 fun t68 w4 =>
         slK b (some (IntKind.i64.wrap ((2:Int)+t53_1))) none 1 fun t72 =>
         joinP (σ:=Unit) (fun s_2 w5 =>
          K t53 (IntKind.i64.wrap ((6:Int)+t53_1)) 0 w5) fun J3 =>
         joinP (σ:=Bool×Unit) (fun s_3 w6 =>
          cond s_3.1
           (K t53 0 4 w6)
           (J3 (()) w6)) fun J4 =>
         0≤(24:Int) ∧
         ixK t72 0 1 fun t77 =>
         ldI .u8 t77 w4 fun t78 =>
         cond ((IntKind.u8.wrap (t68.fdiv (2^(min (24:Int).toNat IntKind.u32.bits)))) !=t78)
          (J4 (true,()) w4)
          (
           0≤(16:Int) ∧
           ixK t72 1 1 fun t85 =>
           ldI .u8 t85 w4 fun t86 =>
           cond ((IntKind.u8.wrap (t68.fdiv (2^(min (16:Int).toNat IntKind.u32.bits)))) !=t86)
            (J4 (true,()) w4)
            (
            0≤(8:Int) ∧
            ixK t72 2 1 fun t94 =>
            ldI .u8 t94 w4 fun t95 =>
            cond ((IntKind.u8.wrap (t68.fdiv (2^(min (8:Int).toNat IntKind.u32.bits)))) !=t95)
             (J4 (true,()) w4)
             (
              ixK t72 3 1 fun t102 =>
              ldI .u8 t102 w4 fun t103 =>
              J4 (((IntKind.u8.wrap t68) !=t103),()) w4))))):=by
 have hyl:(x::y::ys).length=ys.length+2:=rfl
 have hys:(x::y::ys).drop 2=ys:=rfl
 have hbn:=hb.n
 refine hb.slK (l:=2) (m:=(x::y::ys).length) rfl (.inr rfl) (.inl ⟨rfl,rfl⟩) (by omega) (Nat.le_refl _) fun hp=>?_
 rw [List.take_length,hys] at hp
 obtain ⟨q,hq⟩:∃q:Slc,q=⟨cut b.a 2 b.c qab.k,(x::y::ys).length-2,b.c-2⟩:=⟨_,rfl⟩
 rw [←hq] at hp ⊢
 have hqb:∀k,q.blk=some k→k<w.heap.size:=fun k hk=>by
  rw [hq] at hk
  obtain ⟨a,ha,rfl⟩:=slk.1 hk
  obtain ⟨a',ha',e⟩:=qia ha
  rw [e]
  exact hbl _ (slk.2 ⟨a',ha',rfl⟩)
 refine zd9 hp hqb (by omega) hm fun o u e hist' w1 hfr hhl ho hB1=>?_
 have ehd:¬qdr (x::y::ys)=false:=by rw [hhd];decide
 rcases hfr with ⟨rfl,c',a',hch2,h5,rfl,rfl⟩ | ⟨rfl,c',a'',n,hch2,hst2,rfl,hpx⟩
 ·obtain ⟨rfl,rfl⟩:=hch.same hch2 (by rw [hst];exact hr0) (by rw [qis h5];intro _ _ e;cases e)
  have hr:r0=.short:=by rw [←hst,qis h5]
  subst hr
  have hal:=(hch.le (Nat.zero_le _)).1
  obtain ⟨v,hv⟩:∃v,v=(a1+7)/8:=⟨_,rfl⟩
  rw [←hv] at hK1 ⊢
  refine cF rfl ?_
  rw [w64i (x:=(6:Int)+(v:Int)) (by omega),w64i (x:=(2:Int)+(v:Int)) (by omega)]
  have ez:zerr (x::y::ys) c1 a1 .short=zend (x::y::ys) c1 a1:=by rw [zerr.eq_def,if_neg ehd]
  have etl:tailL c1 a1 ((x::y::ys).drop 2)=(ys.drop v).take 4:=by rw [tailL,if_pos h5,hys,hv]
  rw [hbn]
  by_cases hsh:ys.length<v+4
  ·have hz:zerr (x::y::ys) c1 a1 .short=2:=by
    rw [ez,zend,if_neg]
    rw [etl,List.length_take,List.length_drop]
    omega
   exact cT (decide_eq_true (by omega)) (hK2 2 hz (by decide) o w1 hB1)
  refine cF (decide_eq_false (by omega)) ?_
  have h4:((ys.drop v).take 4).length=4:=by rw [List.length_take,List.length_drop];omega
  refine zd3 ho.rd (by omega) ?_
  have hb1:=hb.ext hB1
  refine hb1.slK (l:=2+v) (m:=(x::y::ys).length) rfl (.inr rfl) (.inl ⟨rfl,rfl⟩) (by omega) (Nat.le_refl _) fun hp2=>?_
  have ed:(x::y::ys).drop (2+v)=ys.drop v:=by rw [←List.drop_drop,hys]
  rw [List.take_length,ed] at hp2
  obtain ⟨x0,x1,x2,x3,zs,ex⟩:∃x0 x1 x2 x3 zs,ys.drop v=x0::x1::x2::x3::zs:=by
   have:4≤(ys.drop v).length:=by rw [List.length_drop];omega
   match ys.drop v,this with
   | x0::x1::x2::x3::zs,_=>exact ⟨x0,x1,x2,x3,zs,rfl⟩
  have etl4:tailL c1 a1 ((x::y::ys).drop 2)=[x0,x1,x2,x3]:=by rw [etl,ex];rfl
  rw [ex] at hp2
  have hzl:(x0::x1::x2::x3::zs).length=zs.length+4:=rfl
  have hsum:=q5l c1.hist
  obtain ⟨S,hS⟩:∃S,S=adlN c1.hist:=⟨_,rfl⟩
  rw [←hS] at hsum ⊢
  have hz:zerr (x::y::ys) c1 a1 .short=if [x0,x1,x2,x3]=be4 S then 0 else 4:=by
   rw [ez,zend,etl4,if_pos (show [x0,x1,x2,x3].length=4 from rfl),←hS]
   by_cases hh:[x0,x1,x2,x3]=be4 S
   ·rw [if_pos hh,hh,if_pos (qg8 hsum)]
   ·rw [if_neg hh,if_neg fun e=>hh (ze8 rfl rfl (by rw [e,qg8 hsum]))]
  refine jpO fun J3 hJ3=>?_
  refine jpO fun J4 hJ4=>?_
  rw [show (6:Int)+(v:Int)=((6+v:Nat):Int) by omega] at hJ3
  have no:[x0,x1,x2,x3]≠be4 S→J4 (true,()) w1:=fun hne=>hJ4 _ _ (cT rfl (hK2 4 (by rw [hz,if_neg hne]) (by decide) o w1 hB1))
  have yes:[x0,x1,x2,x3]=be4 S→J4 (false,()) w1:=fun he=>hJ4 _ _ (cF rfl (hJ3 _ _ (hK1 (by rw [hz,if_pos he]) o w1 ho hB1)))
  rw [show min ((24:Int)).toNat IntKind.u32.bits=24 by decide,show min ((16:Int)).toNat IntKind.u32.bits=16 by decide,show min ((8:Int)).toNat IntKind.u32.bits=8 by decide,qbl,qbl,qbl,qb3,qb3,qb3,qb3]
  have ne:∀{p:UInt8} {n:Nat},(((((UInt8.ofNat n).toNat:Nat):Int)) !=((p.toNat:Nat):Int))=true→UInt8.ofNat n≠p:=fun {p n} h e=>by rw [e] at h;simp at h
  have eq:∀{p:UInt8} {n:Nat},(((((UInt8.ofNat n).toNat:Nat):Int)) !=((p.toNat:Nat):Int))=false→UInt8.ofNat n=p:=fun {p n} h=>UInt8.toNat.inj (by rw [zme] at h;simpa using h)
  refine ⟨by decide,?_⟩
  refine hp2.ix (i:=0) rfl (by omega) (by omega) fun hc=>ldB8 (b:=x0) hc ?_
  refine cO (fun h0=>no fun e=>?_) (fun h0=>⟨by decide,?_⟩)
  ·injection e with e _;exact ne h0 e.symm
  refine hp2.ix (i:=1) rfl (by omega) (by omega) fun hc=>ldB8 (b:=x1) hc ?_
  refine cO (fun h1=>no fun e=>?_) (fun h1=>⟨by decide,?_⟩)
  ·injection e with _ e;injection e with e _;exact ne h1 e.symm
  refine hp2.ix (i:=2) rfl (by omega) (by omega) fun hc=>ldB8 (b:=x2) hc ?_
  refine cO (fun h2=>no fun e=>?_) (fun h2=>?_)
  ·injection e with _ e;injection e with _ e;injection e with e _;exact ne h2 e.symm
  refine hp2.ix (i:=3) rfl (by omega) (by omega) fun hc=>ldB8 (b:=x3) hc ?_
  cases h3:((((UInt8.ofNat S).toNat:Nat):Int) !=((x3.toNat:Nat):Int)) with
  | true=>exact no fun e=>by injection e with _ e;injection e with _ e;injection e with _ e;injection e with e _;exact ne h3 e.symm
  | false=>exact yes (by unfold be4;rw [eq h0,eq h1,eq h2,eq h3])
 ·obtain ⟨rfl,rfl⟩:=hch.same hch2 (by rw [hst];exact hr0) (by
   rcases hst2 with ⟨e,_⟩ | ⟨e,_⟩
   ·rw [e];intro _ _ e;cases e
   ·rw [e];intro _ _ e;cases e)
  have hn0:n≠0:=by
   rcases hst2 with ⟨_,_,rfl⟩ | ⟨_,hn⟩
   ·decide
   ·exact hn
  refine cT (by
           have:((n:Nat):Int)≠0:=by omega
           simpa using this) (hK2 n ?_ hn0 o w1 hB1)
  rw [zerr.eq_def,if_neg ehd]
  rcases hst2 with ⟨e,hm5,rfl⟩ | ⟨e,_⟩
  ·rw [hst] at e
   subst e
   show zend _ _ _=2
   rw [zend,if_neg]
   rw [tailL,if_neg hm5]
   decide
  ·rw [hst] at e
   subst e
   rfl
theorem zae {b:Slc} {bs:List UInt8} {most:Nat} {c1:Cfg} {a1:Nat} {r0:SR} {K:Slc→Int→Int→World→Prop} (hm:most≤1073741824) (hb:Rd qab w b bs) (hbl:∀k,b.blk=some k→k<w.heap.size) (hl:bs.length≤999999990)
  (hch:Ch most (bs.drop 2) cfg0 0 c1 a1) (hst:step1 most (bs.drop 2) a1 c1=r0) (hr0:∀c a,r0≠.next c a)
  (hK1:zerr bs c1 a1 r0=0→∀o w',Own qab w' w.heap.size o c1.hist→Below w.heap.size w w'→K o ((6+(a1+7)/8:Nat):Int) 0 w')
  (hK2:∀n,zerr bs c1 a1 r0=n→n≠0→∀o w',Below w.heap.size w w'→K o 0 n w'):que b most w K:=by
 refine q78 _ _ ?_
 unfold qrj
 have hBd:Below w.heap.size w w.drew:=(Below.refl _ w).drew
 have hbn:=hb.n
 match bs with
 | [] =>
  have hbn:b.n=0:=hbn
  obtain ⟨rfl,rfl,rfl⟩:=ze2 hch hst hr0
  rw [hbn]
  exact cT rfl (hK2 2 rfl (by decide) _ _ (Below.refl _ _))
 | x::xs =>
  have hxl:(x::xs).length=xs.length+1:=rfl
  have hx8:=x.toNat_lt
  refine cF (beq_eq_false_iff_ne.2 (by omega)) ?_
  refine jpO fun J1 hJ1=>?_
  refine jpO fun J6 hJ6=>?_
  refine hb.ix (i:=0) rfl (by omega) (by omega) fun hc=>ldB8 (b:=x) hc ⟨by decide,?_⟩
  have no:zh1 x=false→J6 (true,()) w:=fun hz=>hJ6 _ _ (cT rfl (hK2 3 (by
   rw [zerr.eq_def,if_pos]
   match xs with
   | []=>exact hz
   | y::ys=>show (zh1 x && zh2 x y)=false;rw [hz,Bool.false_and]) (by decide) _ _ (Below.refl _ _)))
  have yes:zh1 x=true→J6 (false,()) w:=fun hz=>hJ6 _ _ (cF rfl (hJ1 _ _ (by
   clear hJ6 no hJ1
   match xs with
   | [] =>
    have hbn:b.n=1:=hbn
    obtain ⟨rfl,rfl,rfl⟩:=ze2 hch hst hr0
    rw [hbn]
    refine cT rfl (hK2 2 ?_ (by decide) _ _ (Below.refl _ _))
    rw [zerr.eq_def,if_neg (by show ¬zh1 x=false;rw [hz];decide)]
    rfl
   | y::ys =>
    have hy8:=y.toNat_lt
    have hyl:(x::y::ys).length=ys.length+2:=rfl
    refine cF (decide_eq_false (by omega)) ?_
    refine jpO fun J2 hJ2=>?_
    refine jpO fun J5 hJ5=>?_
    refine (hb.ext hBd).ix (i:=0) rfl (by omega) (by omega) fun hc=>ldB8 (b:=x) hc ?_
    refine (hb.ext hBd).ix (i:=1) rfl (by omega) (by omega) fun hc=>ldB8 (b:=y) hc ⟨by decide,?_⟩
    rw [qad .i64 (x:=x.toNat) (by show _<2^63;omega),qad .i64 (x:=y.toNat) (by show _<2^63;omega),show ((x.toNat:Nat):Int)*256=((x.toNat*256:Nat):Int) by omega,qad .i64 (x:=x.toNat*256) (by show _<2^63;omega),
     show ((x.toNat*256:Nat):Int)+((y.toNat:Nat):Int)=((x.toNat*256+y.toNat:Nat):Int) from rfl,qad .i64 (x:=x.toNat*256+y.toNat) (by show _<2^63;omega),show (31:Int)=((31:Nat):Int) from rfl,←Int.ofNat_tmod]
    have no5:zh2 x y=false→J5 (true,()) w.drew:=fun hz2=>hJ5 _ _ (cT rfl (hK2 3 (by
     rw [zerr.eq_def,if_pos]
     show (zh1 x && zh2 x y)=false
     rw [hz2,Bool.and_false]) (by decide) _ _ hBd))
    have yes5:zh2 x y=true→J5 (false,()) w.drew:=fun hz2=>hJ5 _ _ (cF rfl (hJ2 _ _ (by
     have hhd:qdr (x::y::ys)=true:=by show (zh1 x && zh2 x y)=true;rw [hz,hz2];rfl
     exact q9y hm (hb.ext hBd) (fun k hk=>hbl k hk) (by omega) hch hst hr0 hhd (fun h0 o w' ho hB=>hK1 h0 o w' ho (hBd.trans hB)) (fun n hn h0 o w' hB=>hK2 n hn h0 o w' (hBd.trans hB)))))
    unfold zh2 at no5 yes5
    cases h31:((x.toNat*256+y.toNat)%31==0) with
    | false =>
     have h31':=beq_eq_false_iff_ne.1 h31
     rw [h31,Bool.false_and] at no5
     exact cT (bne_iff_ne.2 (by omega)) (no5 rfl)
    | true =>
     have h31':=eq_of_beq h31
     rw [h31,Bool.true_and] at no5 yes5
     refine cF (by rw [h31'];rfl) ?_
     refine (hb.ext hBd).ix (i:=1) rfl (by omega) (by omega) fun hc=>ldB8 (b:=y) hc ?_
     rw [show (32:Int)=((32:Nat):Int) from rfl,qdn .u8 (by show _<2^8;omega) (by decide)]
     cases h32:(y.toNat &&& 32==0) with
     | true =>
      rw [eq_of_beq h32]
      exact yes5 h32
     | false =>
      have:=no5 h32
      have e:(((y.toNat &&& 32:Nat):Int) !=(0:Int))=true:=bne_iff_ne.2 (by have:=beq_eq_false_iff_ne.1 h32;omega)
      rw [e]
      exact this)))
  unfold zh1 at no yes
  rw [show (16:Int)=((16:Nat):Int) from rfl,←Int.ofNat_tmod]
  cases h16:(x.toNat%16==8) with
  | false =>
   have h16':=beq_eq_false_iff_ne.1 h16
   rw [h16,Bool.false_and] at no
   exact cT (bne_iff_ne.2 (by omega)) (no rfl)
  | true =>
   have h16':=eq_of_beq h16
   rw [h16,Bool.true_and] at no yes
   refine cF (by rw [h16'];rfl) ?_
   refine hb.ix (i:=0) rfl (by omega) (by omega) fun hc=>ldB8 (b:=x) hc ⟨by decide,?_⟩
   rw [←Int.ofNat_tdiv,qad .u8 (x:=x.toNat/16) (by show _<2^8;omega)]
   by_cases h7:x.toNat/16≤7
   ·have:=yes (decide_eq_true h7)
    rw [show decide (((x.toNat/16:Nat):Int)>7)=false from decide_eq_false (by omega)]
    exact this
   ·have:=no (decide_eq_false h7)
    rw [show decide (((x.toNat/16:Nat):Int)>7)=true from decide_eq_true (by omega)]
    exact this
theorem zas {b:Slc} {bs:List UInt8} {most:Nat} {c1:Cfg} {a1:Nat} {r0:SR} {K:Slc→Int→Int→World→Prop} (hm:most≤1073741824) (hb:Rd qab w b bs) (hbl:∀k,b.blk=some k→k<w.heap.size) (hl:bs.length≤999999990)
  (hch:Ch most (bs.drop 2) cfg0 0 c1 a1) (hst:step1 most (bs.drop 2) a1 c1=r0) (hr0:∀c a,r0≠.next c a)
  (hK1:zerr bs c1 a1 r0=0→∀o w',Own qab w' w.heap.size o c1.hist→Below w.heap.size w w'→K o ((6+(a1+7)/8:Nat):Int) 0 w')
  (hK2:∀n,zerr bs c1 a1 r0=n→n≠0→∀w',Below w.heap.size w w'→K nilS 0 n w'):qrs b most w K:=by
 refine q57 _ _ ?_
 unfold qpp
 refine jpO fun J1 hJ1=>?_
 refine jpO fun J2 hJ2=>?_
 refine cF (decide_eq_false (by omega)) (hJ2 _ _ (cF (decide_eq_false (by omega)) (hJ1 _ _ ?_)))
 exact zae hm hb hbl hl hch hst hr0 (fun h0 o w' ho hB=>cF rfl (hK1 h0 o w' ho hB)) fun n hn h0 o w' hB=>cT (by
  have:((n:Nat):Int)≠0:=by omega
  simpa using this) (hK2 n hn h0 w' hB)
end
end Go.Proofs.YtmagnpcgpinmcaaGreat
set_option linter.unusedVariables false
namespace Go.Proofs.YtmagnpcgpinmcaaGreat
open Go.Vc
set_option maxRecDepth 400000
theorem q7q (most:Nat) (bs:List UInt8):∃r:Cfg×Nat×SR,Ch most (bs.drop 2) cfg0 0 r.1 r.2.1∧step1 most (bs.drop 2) r.2.1 r.1=r.2.2∧∀c a,r.2.2≠.next c a:=by
 obtain ⟨c1,a1,r0,h1,h2,h3⟩:=q7u most (bs.drop 2) _ cfg0 0 (Nat.le_refl _) (Nat.zero_le _)
 exact ⟨(c1,a1,r0),h1,h2,h3⟩
noncomputable def unRun (most:Nat) (bs:List UInt8):Cfg×Nat×SR:=Classical.choose (q7q most bs)
theorem qtn (most:Nat) (bs:List UInt8):Ch most (bs.drop 2) cfg0 0 (unRun most bs).1 (unRun most bs).2.1∧step1 most (bs.drop 2) (unRun most bs).2.1 (unRun most bs).1=(unRun most bs).2.2∧∀c a,(unRun most bs).2.2≠.next c a:=Classical.choose_spec (q7q most bs)
noncomputable def unErr (most:Nat) (bs:List UInt8):Nat:=zerr bs (unRun most bs).1 (unRun most bs).2.1 (unRun most bs).2.2
noncomputable def unOut (most:Nat) (bs:List UInt8):List UInt8:=(unRun most bs).1.hist
noncomputable def qk6 (most:Nat) (bs:List UInt8):Nat:=6+((unRun most bs).2.1+7)/8
noncomputable def decF (F:FilL):Nat×Nat×Nat×List UInt8 :=
 if unErr (needP F.h) F.data≠0 then (unErr (needP F.h) F.data,0,0,[])
 else if (unOut (needP F.h) F.data).length<needP F.h∨qk6 (needP F.h) F.data<F.data.length then (3,0,0,[])
 else match qd9 F (unOut (needP F.h) F.data) with
  | none=>(3,0,0,[])
  | some m=>(0,F.h.W.toNat,F.h.H.toNat,m)
noncomputable def qex (b:List UInt8) (pixels:Int):Nat×Nat×Nat×List UInt8 :=
 if (qc9 b pixels).1≠0 then ((qc9 b pixels).1,0,0,[]) else decF (qc9 b pixels).2
def dsum (l:List ChL):Nat:=(l.map fun c=>c.data.length).sum
theorem ziu {b:List UInt8} {c:ChL} {n:Nat} (h:qbq b=.ok c n):c.kind.length=4∧n=12+c.data.length∧n≤b.length∧c.kind.all qbp=true:=by
 unfold qbq at h
 split at h
 ·cases h
 rename_i h1
 split at h
 ·cases h
 rename_i h2
 split at h
 ·cases h
 rename_i h3
 split at h
 ·cases h
 rename_i h4
 split at h
 ·cases h
 rename_i h5
 split at h
 ·cases h
 rename_i h6
 cases h
 refine ⟨by simp;omega,?_,by omega,?_⟩
 ·rw [List.length_drop,List.length_take]
  omega
 ·cases e:((b.take 8).drop 4).all qbp with
  | true=>rfl
  | false=>exact absurd e h4
theorem qu8 (one:Bool):∀(f:Nat) (b:List UInt8),dsum (qay one f b).2≤b.length∧(∀c∈(qay one f b).2,c.kind.length=4)∧(qay one f b).2.length≤b.length∧((qay one f b).1=0→∃c l,(qay one f b).2=c::l)
 | 0,b=>⟨by simp [qay,dsum],by simp [qay],by simp [qay],fun h=>by cases h⟩
 | f+1,b=>by
  rw [qay]
  cases hc:qbq b with
  | err n=>exact ⟨by simp [dsum],by simp,by simp,fun h=>absurd h (q40 hc)⟩
  | ok c n =>
   obtain ⟨h1,h2,h3,_⟩:=ziu hc
   dsimp only
   split
   ·exact ⟨by simp [dsum];omega,by simp [h1],by simp;omega,fun _=>⟨c,[],rfl⟩⟩
   ·obtain ⟨i1,i2,i3,i4⟩:=qu8 one f (b.drop n)
    rw [List.length_drop] at i1 i3
    refine ⟨?_,?_,?_,fun _=>⟨_,_,rfl⟩⟩
    ·unfold dsum at i1 ⊢
     rw [List.map_cons,List.sum_cons]
     omega
    ·intro d hd
     rcases List.mem_cons.1 hd with rfl | hd
     ·exact h1
     ·exact i2 d hd
    ·rw [List.length_cons];omega
theorem qg2 (one:Bool) (b:List UInt8):dsum (qaz one b).2≤b.length∧(∀c∈(qaz one b).2,c.kind.length=4)∧(qaz one b).2.length≤b.length∧((qaz one b).1=0→∃c l,(qaz one b).2=c::l):=by
 obtain ⟨i1,i2,i3,i4⟩:=qu8 one b.length (b.drop 8)
 rw [List.length_drop] at i1 i3
 unfold qaz
 split
 ·rename_i h
  exact ⟨by simp [dsum],by simp,by simp,fun e=>absurd e h⟩
 ·split
  ·rename_i h
   exact ⟨by simp [dsum],by simp,by simp,fun e=>absurd e h⟩
  ·rename_i h
   exact ⟨by dsimp only;omega,i2,by dsimp only;omega,fun _=>i4 (by omega)⟩
theorem qw6 {F:FilL} {c:ChL} {n:Nat} (h:F.data.length≤n∧F.pal.length≤n∧F.tr.length≤n):(takeP F c).2.data.length≤n+c.data.length∧(takeP F c).2.pal.length≤n+c.data.length∧(takeP F c).2.tr.length≤n+c.data.length:=by
 obtain ⟨h1,h2,h3⟩:=h
 unfold takeP
 repeat' split
 all_goals (refine ⟨?_,?_,?_⟩<;>simp<;>omega)
theorem q0t:∀(l:List ChL) (F:FilL) (n:Nat),F.data.length≤n∧F.pal.length≤n∧F.tr.length≤n→(qbu F l).2.data.length≤n+dsum l∧(qbu F l).2.pal.length≤n+dsum l∧(qbu F l).2.tr.length≤n+dsum l
 | [],F,n,h=>by simp only [qbu,dsum,List.map_nil,List.sum_nil];exact ⟨by omega,by omega,by omega⟩
 | c::l,F,n,h=>by
  have e:dsum (c::l)=c.data.length+dsum l:=by simp [dsum]
  rw [qbu]
  split
  ·rw [e];exact ⟨by dsimp only;omega,by dsimp only;omega,by dsimp only;omega⟩
  ·obtain ⟨a,b,d⟩:=q0t l (takeP F c).2 (n+c.data.length) (qw6 h)
   rw [e]
   exact ⟨by omega,by omega,by omega⟩
theorem q4x:∀(l:List ChL) {F:FilL},FilOk F→(qbu F l).1=0→FilOk (qbu F l).2∧(qbu F l).2.h=F.h
 | [],F,h,_=>⟨h,rfl⟩
 | c::l,F,h,h0=>by
  rw [qbu] at h0 ⊢
  split at h0
  ·rename_i hn;exact absurd h0 hn
  ·rename_i hn
   obtain ⟨a,b⟩:=q2n (c:=c) h (by omega)
   rw [if_neg hn]
   obtain ⟨a2,b2⟩:=q4x l a h0
   exact ⟨a2,b2.trans b⟩
theorem q19 {c:ChL} (h:(headP c).1=0):qdd (headP c).2=0:=by
 unfold headP at h ⊢
 split at h
 ·cases h
 ·rename_i h1
  split at h
  ·rename_i h2;exact absurd h h2
  ·rename_i h2
   rw [if_neg h1,if_neg h2]
   show qdd (qce c.data)=0
   omega
theorem q5w {h:T_png_Head} (hc:qdd h=0):FilOk (fil0 h):=⟨hc,(fun h=>by cases h),rfl⟩
structure ReadOk (b:List UInt8) (pixels:Int) (F:FilL):Prop where
 ok:FilOk F
 area:F.h.W*F.h.H≤pixels∧F.h.W*F.h.H≤67108864
 data:F.data.length≤b.length
 pal:F.pal.length≤b.length
 tr:F.tr.length≤b.length
theorem q4u {b:List UInt8} {pixels:Int} (h:(qc9 b pixels).1=0):ReadOk b pixels (qc9 b pixels).2:=by
 obtain ⟨f1,f2,f3,f4⟩:=qg2 false b
 unfold qc9 at h ⊢
 cases hcp:qaz false b with
 | mk e l =>
  rw [hcp] at h f1 f2 f3 f4
  match e,l with
  | 0,c::l =>
   replace h:(qg4 c l pixels).1=0:=h
   show ReadOk b pixels (qg4 c l pixels).2
   unfold qg4 at h ⊢
   by_cases h1:(headP c).1≠0
   ·rw [if_pos h1] at h;exact absurd h h1
   rw [if_neg h1] at h ⊢
   by_cases h2:(headP c).2.W*(headP c).2.H>pixels∨(headP c).2.W*(headP c).2.H>67108864
   ·rw [if_pos h2] at h;cases h
   rw [if_neg h2] at h ⊢
   by_cases h3:(qbu (fil0 (headP c).2) l).1≠0
   ·rw [if_pos h3] at h;exact absurd h h3
   rw [if_neg h3] at h ⊢
   split
   ·rename_i h4;rw [if_pos h4] at h;cases h
   ·obtain ⟨a,bb⟩:=q4x l (q5w (q19 (c:=c) (by omega))) (by omega)
    obtain ⟨d1,d2,d3⟩:=q0t l (fil0 (headP c).2) 0 ⟨Nat.le_refl _,Nat.le_refl _,Nat.le_refl _⟩
    have e:dsum (c::l)=c.data.length+dsum l:=by simp [dsum]
    replace f1:dsum (c::l)≤b.length:=f1
    rw [e] at f1
    refine ⟨a,?_,Nat.le_trans d1 (by omega),Nat.le_trans d2 (by omega),Nat.le_trans d3 (by omega)⟩
    rw [bb]
    show (headP c).2.W*(headP c).2.H≤pixels∧(headP c).2.W*(headP c).2.H≤67108864
    omega
  | 0,[]=>obtain ⟨c,l,hcl⟩:=f4 rfl;cases hcl
  | e+1,l=>cases h
theorem qtk {h:T_png_Head} {W H:Nat} (ho:HeadOk h W H) {M:Nat} (hM:W*H≤M):needP h≤140*M:=by
 have hrow:∀w:Nat,1+rowB h w≤2+8*w:=by
  intro w
  unfold rowB rowP
  split
  ·omega
  ·rename_i hn
   simp only [not_or] at hn
   obtain ⟨h1,h2,h3,h4,h5⟩:=hn
   have hd:qbv h.Depth=true:=by cases e:qbv h.Depth with | true=>rfl | false=>exact absurd e h5
   have hdp:1≤h.Depth∧h.Depth≤16:=by
    unfold qbv at hd
    simp at hd
    omega
   have a1:0≤(w:Int)*(qac h.Color:Int):=Int.mul_nonneg (by omega) (by omega)
   have a2:(w:Int)*(qac h.Color:Int)≤(w:Int)*4:=Int.mul_le_mul_of_nonneg_left (by omega) (by omega)
   have a4:(w:Int)*(qac h.Color:Int)*h.Depth≤(w:Int)*4*16:=Int.mul_le_mul a2 (by omega) (by omega) (by omega)
   omega
 have one:∀p:PassP,needL h (qak W H p)≤20*M:=by
  intro p
  have hs:=qd5 p W H
  have key:∀(l:List Nat),((l.map fun y=>(p,y,(sizeP p W H).1)).map fun r=>1+rowB h r.2.2).sum≤l.length*(2+8*W):=by
   intro l
   induction l with
   | nil=>simp
   | cons y l ih =>
    rw [List.map_cons,List.map_cons,List.sum_cons,List.length_cons,Nat.add_mul]
    have:=hrow (sizeP p W H).1
    dsimp only
    have h8:8*(sizeP p W H).1≤8*W:=by omega
    omega
  have h1:=key (List.range (sizeP p W H).2)
  rw [List.length_range] at h1
  have h2:(sizeP p W H).2*(2+8*W)≤H*(2+8*W):=Nat.mul_le_mul_right _ hs.2
  have h3:H*(2+8*W)=2*H+8*(W*H):=by rw [Nat.mul_add,Nat.mul_comm H 2,Nat.mul_left_comm,Nat.mul_comm H W]
  have h4:H≤W*H:=Nat.le_mul_of_pos_left H ho.w1
  unfold needL qak
  omega
 have all:∀ps:List PassP,needL h (ps.flatMap (qak W H))≤ps.length*(20*M):=by
  intro ps
  induction ps with
  | nil=>simp [needL]
  | cons p ps ih =>
   rw [List.flatMap_cons,qh4,List.length_cons,Nat.add_mul]
   have:=one p
   omega
 have h1:=all (qcr h.Lace)
 have h2:=qio h.Lace
 have h3:(qcr h.Lace).length*(20*M)≤7*(20*M):=Nat.mul_le_mul_right _ h2
 have e:needP h=needL h ((qcr h.Lace).flatMap (qak W H)):=by
  show needL h (rowsL h)=_
  unfold rowsL
  rw [ho.wn,ho.hn]
 rw [e]
 omega
end Go.Proofs.YtmagnpcgpinmcaaGreat
set_option linter.unusedVariables false
namespace Go.Proofs.YtmagnpcgpinmcaaGreat
open Go.Vc Go.RowKit
set_option maxRecDepth 400000
section
variable {w:World}
theorem zix {W H:Nat} {K:Bool→World→Prop} (hW1:1≤W) (hW2:W≤16384) (hH1:1≤H) (hH2:H≤16384) (hA:W*H≤67108864) (hK:K true w):qpv (W:Int) (H:Int) w K:=by
 refine q4h _ _ ?_
 unfold qnr
 refine cF (qqd (by omega)) (cT (decide_eq_true (by omega)) (cT (decide_eq_true (by omega)) (cT (decide_eq_true (by omega)) (cT (decide_eq_true (by omega)) ?_))))
 rw [show (W:Int)*(H:Int)=((W*H:Nat):Int) by simp,w64i (by omega),decide_eq_true (by omega)]
 exact hK
theorem q6x {W H:Nat} {K:T_api_Matrix→Int→World→Prop} (hW1:1≤W) (hW2:W≤16384) (hH1:1≤H) (hH2:H≤16384) (hA:W*H≤67108864)
  (hK:∀(t:Slc) (gm:Nat) w',Go.Vc.Own qab w' w.heap.size t (List.replicate (4*W*H) 0)→t.a=some ⟨gm,0,none⟩→w.heap.size≤gm→Below w.heap.size w w'→K ⟨W,H,t⟩ 0 w'):qm2 (W:Int) (H:Int) w K:=by
 refine q5v _ _ ?_
 unfold qps
 refine nwb fun w1 h1 hB1 hs1=>zix hW1 hW2 hH1 hH2 hA (cF rfl ?_)
 have e:IntKind.i64.wrap ((IntKind.i64.wrap ((4:Int)*(W:Int)))*(H:Int))=((4*W*H:Nat):Int):=by
  have h4:4*W*H=4*(W*H):=Nat.mul_assoc _ _ _
  rw [w64i (x:=(4:Int)*(W:Int)) (by omega),show (4:Int)*(W:Int)*(H:Int)=((4*W*H:Nat):Int) by simp,w64i (by omega)]
 rw [e]
 have h4:4*W*H=4*(W*H):=Nat.mul_assoc _ _ _
 refine qeu qal (x0:=(0:UInt8)) rfl (n:=4*W*H) rfl rfl (by rw [qcp];omega) (by unfold maxLen;omega) fun w4 ho hB4=>?_
 refine qby (r:=T_api_Matrix.rep) (x:=⟨W,H,⟨some ⟨w1.heap.size,0,none⟩,4*W*H,4*W*H⟩⟩) (h1.ext hB4) rfl rfl fun w5 hc5 hs5=>?_
 refine hK _ w1.heap.size w5 ((ho.chg hc5 fun k hk e=>?_).base (by omega)) rfl (by omega) (b1o (bT hB1 hB4) hc5 (Nat.le_refl _))
 have:=(ho.lt k hk).1
 omega
theorem zej {g b:Nat} {F:FilL} {p t d:Slc} (hF:FilA w g b F p t d) (ho:FilOk F) {W H:Nat} (hh:HeadOk F.h W H) (hA:W*H≤67108864) (hpl:F.pal.length≤1000000) (htl:F.tr.length≤1000000) {bS:Slc} {xs:List UInt8} (hx:Rd qab w bS xs) (hxn:needP F.h≤xs.length) (hxl:xs.length≤1000000000) {K:T_api_Matrix→Int→World→Prop}
  (hN:qd9 F xs=none→∀w',Below w.heap.size w w'→K ⟨0,0,⟨none,0,0⟩⟩ 3 w') (hY:∀m,qd9 F xs=some m→∀s w',Go.Vc.Own qab w' w.heap.size s m→m.length=4*W*H→Below w.heap.size w w'→K ⟨W,H,s⟩ 0 w'):qjp (some ⟨g,0,none⟩) bS w K:=by
 obtain ⟨_,hco⟩:=qfs ho.hd
 refine qtr _ _ ?_
 unfold qhw
 refine nwb fun w1 h1 hB1 hs1=>nwb fun w2 h2 hB2 hs2=>nwb fun w3 h3 hB3 hs3=>?_
 have hB13:=bT (bT hB1 hB2) hB3
 have hf:=(h1.ext hB2).ext hB3
 have hb:=h2.ext hB3
 have hBd:=bdw w3
 have hB3d:=bT hB13 hBd
 have hFd:=hF.ext hB3d
 refine qbt (x:=some ⟨g,0,none⟩) (qau (hf.ext hBd)) ?_
 simp only [onPtr_some]
 refine lI (x:=(W:Int)) (by rw [add_zero,←hh.w];exact hFd.blk.cells 0 _ rfl) ?_
 refine qbt (x:=some ⟨g,0,none⟩) (qau (hf.ext hBd)) ?_
 simp only [onPtr_some]
 refine lI (x:=(H:Int)) (by rw [add_zero,←hh.h];exact hFd.blk.cells 1 _ rfl) ?_
 have hs3d:w3.drew.heap.size=w3.heap.size:=rfl
 have cw:∀{w'},Below w3.heap.size w3 w'→w'.cell? ((⟨g,0,none⟩:Addr).add 0)=some (.int .i64 (W:Int)):=fun hB=>by
  have:=(hF.ext (bT hB13 hB)).blk.cells 0 _ rfl
  rw [hh.w] at this
  exact this
 have chh:∀{w'},Below w3.heap.size w3 w'→w'.cell? ((⟨g,0,none⟩:Addr).add 1)=some (.int .i64 (H:Int)):=fun hB=>by
  have:=(hF.ext (bT hB13 hB)).blk.cells 1 _ rfl
  rw [hh.h] at this
  exact this
 have tail:∀(bmx gm:Nat) (vs:List Value) (tm:Slc) w5,vs.length=3→Blk w5 bmx qat vs→w3.heap.size≤bmx→Go.Vc.Own qab w5 (w3.heap.size) tm (List.replicate (4*W*H) 0)→tm.a=some ⟨gm,0,none⟩→w3.heap.size≤gm→Below w3.heap.size w3 w5 →
   stK ⟨bmx,0,none⟩ (T_api_Matrix.rep.cells ⟨W,H,tm⟩) w5 fun w6 =>
   ldP (⟨w.heap.size,0,none⟩:Addr) w6 fun t26 =>
   onPtr t26 fun t27 =>
   ldI .i64 ((t27.add 0).add 3) w6 fun t30 =>
   qdw t30 w6 fun t31 w7 =>
   nw qbf [(.int .i64 0)] w7 fun n w8 =>
   stK n [(.int .i64 t31)] w8 fun w9 =>
   ldI .i64 n w9.drew fun t32 =>
   ldP (⟨w.heap.size,0,none⟩:Addr) w9.drew fun t33 =>
   onPtr t33 fun t34 =>
   ldI .i64 ((t34.add 0).add 2) w9.drew fun t37 =>
   (8:Int)≠0 ∧
   nw qbf [(.int .i64 0)] w9.drew fun step w10 =>
   World.cell? w10 ((t34.add 0).add 2)=some (.int .i64 t37) ∧
   World.cell? w10 (⟨w.heap.size,0,none⟩:Addr)=some (.pointer t33) ∧
   World.cell? w10 n=some (.int .i64 t32) ∧
   stK step [(.int .i64 (IntKind.i64.wrap ((IntKind.i64.wrap ((IntKind.i64.wrap (t32*t37))+(7:Int))).tdiv (8:Int))))] w10 fun w11 =>
   nw qaa [(.slice none 0 0)] w11 fun ahead w12 =>
   ldP (⟨w.heap.size,0,none⟩:Addr) w12 fun t41 =>
   onPtr t41 fun t42 =>
   ldS T_png_Head.rep (t42.add 0) w12 fun t44 =>
   qdk t44 ((.func (.func qgz) #[] #[(.pointer (some n)),(.pointer (some ⟨w.heap.size,0,none⟩)),(.pointer (some ahead)),(.pointer (some ⟨w1.heap.size,0,none⟩)),(.pointer (some step)),(.pointer (some ⟨bmx,0,none⟩))]):Value) w12 fun t46 w13 =>
   cond (!t46)
    (
    stK ⟨w2.heap.size,0,none⟩ [(.int .i64 0),(.int .i64 0),(.slice none 0 0)] w13 fun w14 =>
    ldS T_api_Matrix.rep ⟨w2.heap.size,0,none⟩ w14 fun r =>
    K r 3 w14)
    (
    ldS T_api_Matrix.rep ⟨bmx,0,none⟩ w13 fun t50 =>
    stK ⟨w2.heap.size,0,none⟩ (T_api_Matrix.rep.cells t50) w13 fun w15 =>
    ldS T_api_Matrix.rep ⟨w2.heap.size,0,none⟩ w15 fun r_1 =>
    K r_1 0 w15):=by
  intro bmx gm vs tm w5 hvl hbm hbmn htm hta hgm hB5
  refine qa2 hbm hvl.symm fun w6 hm6 hc6 hs6=>?_
  have tl:=htm.lt
  have hB36:Below w3.heap.size w3 w6:=b1o hB5 hc6 (by omega)
  have hm5:bmx<w5.heap.size:=hbm.lt
  have htm6:=htm.chg hc6 fun k hk=>qai htm hbm (by decide) k hk
  have hB16:Below w.heap.size w w6:=bT hB13 hB36
  have hF6:=hF.ext hB16
  have hf6:=hf.ext hB36
  refine qbt (x:=some ⟨g,0,none⟩) (qau hf6) ?_
  simp only [onPtr_some]
  refine lI (x:=F.h.Color) (by rw [add_zero];exact hF6.blk.cells 3 _ rfl) (qlc ?_)
  refine nwb fun w8 h8 hB8 hs8=>?_
  refine qa2 h8 rfl fun w9 h9 hc9 hs9=>?_
  have hB69:Below w6.heap.size w6 w9:=b1o hB8 hc9 (Nat.le_refl _)
  have hBd9:=bdw w9
  have hB69d:=bT hB69 hBd9
  have hF9:=hF6.ext hB69d
  refine lI (x:=((qac F.h.Color:Nat):Int)) (qau (h9.ext hBd9)) (qbt (x:=some ⟨g,0,none⟩) (qau (hf6.ext hB69d)) ?_)
  simp only [onPtr_some]
  refine lI (x:=F.h.Depth) (by rw [add_zero];exact hF9.blk.cells 2 _ rfl) ⟨by decide,?_⟩
  refine nwb fun w10 h10 hB10 hs10=>?_
  have hB910:=bT hB69d hB10
  have hF10:=hF6.ext hB910
  have h910:=(h9.ext hBd9).ext hB10
  refine ⟨by rw [add_zero];exact hF10.blk.cells 2 _ rfl,qau (hf6.ext hB910),qau h910,?_⟩
  have hst:IntKind.i64.wrap ((IntKind.i64.wrap ((IntKind.i64.wrap (((qac F.h.Color:Nat):Int)*F.h.Depth))+(7:Int))).tdiv (8:Int))=((qdc F.h:Nat):Int):=by
   have hs:=qc5 hco
   have hd:1≤F.h.Depth.toNat∧F.h.Depth.toNat≤16:=by have:=hco.d;omega
   have hdn:F.h.Depth=((F.h.Depth.toNat:Nat):Int):=by have:=hco.d;omega
   have h2:qac F.h.Color*F.h.Depth.toNat≤4*16:=Nat.mul_le_mul hs.2 hd.2
   unfold qdc
   rw [hdn,show ((qac F.h.Color:Nat):Int)*((F.h.Depth.toNat:Nat):Int)=((qac F.h.Color*F.h.Depth.toNat:Nat):Int) by simp,Int.toNat_natCast]
   generalize qac F.h.Color*F.h.Depth.toNat=q at h2 ⊢
   rw [w64i (x:=((q:Nat):Int)) (by omega),w64i (x:=((q:Nat):Int)+7) (by omega),show ((q:Nat):Int)+7=((q+7:Nat):Int) by simp,show (8:Int)=((8:Nat):Int) from rfl,←Int.ofNat_tdiv,w64i (by omega)]
  rw [hst]
  refine qa2 h10 rfl fun w11 h11 hc11 hs11=>?_
  have hsz9:w9.drew.heap.size=w9.heap.size:=rfl
  refine nwb fun w12 h12 hB12 hs12=>?_
  have hB611:Below w6.heap.size w6 w11:=b1o hB910 hc11 (by have:=hB69.size;omega)
  have hB612:=bT hB611 hB12
  have hF12:=hF6.ext hB612
  refine qbt (x:=some ⟨g,0,none⟩) (qau (hf6.ext hB612)) ?_
  simp only [onPtr_some]
  refine qas (r:=T_png_Head.rep) (x:=F.h) (by rw [add_zero];exact hF12.head) ?_
  have hs6':w6.heap.size=w5.heap.size:=hs6
  have hb12:=((hb.ext hB5).chg hc6 (show w1.heap.size≠bmx by omega)).ext hB612
  have h3_12:=((h3.ext hB5).chg hc6 (show w2.heap.size≠bmx by omega)).ext hB612
  have hB3_12:=bT hB36 hB612
  have hBw12:Below w.heap.size w w12:=bT hB16 hB612
  have hn12:Blk w12 w6.heap.size qbf _:=(h910.chg hc11 (by omega)).ext hB12
  have hst12:Blk w12 w9.drew.heap.size qbf _:=h11.ext hB12
  have hc:PxC w w6.heap.size w.heap.size w11.heap.size (w1.heap.size) w9.drew.heap.size bmx gm tm:=⟨by omega,by omega,by omega,by omega,by omega,hta⟩
  have hI0:PxI w g F W H w6.heap.size w.heap.size w11.heap.size (w1.heap.size) w9.drew.heap.size bmx gm tm ⟨xs,[],List.replicate (4*W*H) 0⟩ w12:=by
   refine ⟨hn12,hf6.ext hB612,hst12,hm6.ext hB612,⟨⟨none,0,0⟩,h12,Own.nil _ _ _,fun k hk=>by cases hk⟩,⟨bS,hb12,hx⟩,(htm6.ext hB612).base (by omega),hBw12⟩
  have hval:qd9 F xs=(qbw F (rowsL F.h) ⟨xs,[],List.replicate (4*W*H) 0⟩).map (·.m):=by
   unfold qd9
   rw [hh.wn,hh.hn]
  refine qwj hh (fun L w13=>∃S,qbw F L ⟨xs,[],List.replicate (4*W*H) 0⟩=some S∧S.m.length=4*W*H∧PxI w g F W H w6.heap.size w.heap.size w11.heap.size (w1.heap.size) w9.drew.heap.size bmx gm tm S w13∧Blk w13 (w2.heap.size) qat [(.int .i64 0),(.int .i64 0),(.slice none 0 0)]∧w12.heap.size≤w13.heap.size)
   (fun w13=>qd9 F xs=none∧Blk w13 (w2.heap.size) qat [(.int .i64 0),(.int .i64 0),(.slice none 0 0)]∧Below w.heap.size w w13) ⟨_,rfl,by simp,hI0,h3_12,Nat.le_refl _⟩ ?_ ?_ ?_ ?_
  ·rintro L wa wb ⟨S,a,b,c,d',e⟩ hB
   exact ⟨S,a,b,c.ext hB,d'.ext hB,by have:=hB.size;omega⟩
  ·rintro L r R wa hL ⟨S,a,bb,c,d',e⟩ hsa J hJ1 hJ0
   refine qg5 (by kernel_rfl) ?_
   have hcall:qhm (passT r.1) (r.2.1:Int) (r.2.2:Int) ⟨w6.heap.size,0,none⟩ ⟨w.heap.size,0,none⟩ ⟨w11.heap.size,0,none⟩ ⟨w1.heap.size,0,none⟩ ⟨w9.drew.heap.size,0,none⟩ ⟨bmx,0,none⟩ wa J:=by
    obtain ⟨sa,q1,q2,q3⟩:=c.ah
    obtain ⟨sb,q4,q5⟩:=c.b
    refine zbv hF ho hh hpl htl hc hL hxn hxl a bb c (fun S' wb hS' hm' hI' hch=>?_) (fun wb hS' hch=>?_)
    ·refine hJ1 wb ⟨S',qyo a hS',hm',hI',d'.chg hch (by omega),by have:=hch.size;omega⟩ ?_ hch.size
     refine q1x hch fun k hk=>?_
     rcases hk with rfl | rfl | rfl
     ·exact ⟨_,_,q1,by decide,by decide⟩
     ·exact ⟨_,_,q4,by decide,by decide⟩
     ·obtain ⟨cs,hcs⟩:=c.row.blk_t (g:=k) (by unfold Slc.blk;rw [hta];rfl)
      exact ⟨_,_,hcs,by decide,by decide⟩
    ·refine hJ0 wb ⟨?_,d'.chg hch (by omega),c.B.trans (hch.below (by have:=c.B.size;omega) fun i hi e=>by omega)⟩
     rw [hval,hL,qrf a hS']
     rfl
   refine Calls.mono hcall ?_
   rintro e w' ⟨r,rfl,hk⟩
   exact ⟨r,rfl,hk⟩
  ·rintro wa ⟨S,a,bb,c,d',e⟩
   refine cF rfl (qas (r:=T_api_Matrix.rep) (x:=⟨W,H,tm⟩) c.m.cells ?_)
   refine qby (r:=T_api_Matrix.rep) (x:=⟨W,H,tm⟩) d' rfl rfl fun wb hcb hsb=>?_
   rw [a] at hval
   exact hY S.m hval tm wb ((c.row.chg hcb fun k hk=>qai c.row d' (by decide) k hk).base (by omega)) bb (b1o c.B hcb (by omega))
  ·rintro wa ⟨a,d',e⟩
   refine cT rfl ?_
   exact qby (r:=T_api_Matrix.rep) (x:=⟨0,0,⟨none,0,0⟩⟩) d' rfl rfl fun wb hcb hsb=>hN a wb (b1o e hcb (by omega))
 refine ⟨?_,?_⟩
 ·refine q6x hh.w1 hh.w2 hh.h1 hh.h2 hA fun tm gm w4 htm hta hgm hB4=>?_
  have hBd4:Below w3.heap.size w3 w4:=bT hBd hB4
  refine nwb fun w5 h5 hB5 hs5=>?_
  have hB35:=bT hBd4 hB5
  refine ⟨by rw [add_zero];exact chh hB35,qau (hf.ext hB35),by rw [add_zero];have:=cw hB35;rwa [add_zero] at this ⊢,qau (hf.ext hB35),?_⟩
  exact tail _ gm _ tm w5 rfl h5 (by have:=hB4.size;omega) (htm.ext hB5) hta (by omega) hB35
 ·refine nwb fun w5 h5 hB5 hs5=>?_
  have hB35:=bT hBd hB5
  refine ⟨by rw [add_zero];exact chh hB35,qau (hf.ext hB35),by rw [add_zero];have:=cw hB35;rwa [add_zero] at this ⊢,qau (hf.ext hB35),?_⟩
  refine q6x hh.w1 hh.w2 hh.h1 hh.h2 hA fun tm gm w4 htm hta hgm hB4=>?_
  exact tail _ gm _ tm w4 rfl (h5.ext hB4) (by omega) (htm.base (by omega)) hta (by omega) (bT hB35 hB4)
end
end Go.Proofs.YtmagnpcgpinmcaaGreat
set_option linter.unusedVariables false
namespace Go.Proofs.YtmagnpcgpinmcaaGreat
open Go.Vc Go.RowKit
set_option maxRecDepth 400000
theorem qsd {b:List UInt8} {pixels:Int} (h:(qaz false b).1≠0):(qc9 b pixels).1=(qaz false b).1:=by
 unfold qc9
 cases hc:qaz false b with
 | mk e l =>
  rw [hc] at h
  match e,l with
  | 0,_=>exact absurd rfl h
  | e+1,_=>rfl
theorem qux {b:List UInt8} {pixels:Int} {c:ChL} {l:List ChL} (h:qaz false b=(0,c::l)):qc9 b pixels=qg4 c l pixels:=by
 unfold qc9
 rw [h]
 rfl
theorem Below.rdT {T:Type} {E:El T} {B:Nat} {w w':World} {s:Slc} {xs:List T} (h:Rd E w s xs) (hB:Below B w w') (hs:∀k,s.blk=some k→k<B):Rd E w' s xs:=h.chg (Chg.of_below hB) fun a ha e=>by have:=hs a.block (slk.2 ⟨a,ha,rfl⟩);omega
section
variable {w:World}
theorem zf4 {b:Slc} {bs:List UInt8} {pixels:Int} {K:Option Addr→Int→World→Prop} (hb:Rd qab w b bs) (hbl:∀k,b.blk=some k→k<w.heap.size) (hl:bs.length≤1000000)
  (hE:(qc9 bs pixels).1≠0→∀w',Below w.heap.size w w'→K none ((qc9 bs pixels).1:Nat) w') (hO:(qc9 bs pixels).1=0→∀g b p t d w',FilA w' g b (qc9 bs pixels).2 p t d→w.heap.size≤g→Below w.heap.size w w'→K (some ⟨g,0,none⟩) 0 w'):qtz b pixels w K:=by
 refine q73 _ _ ?_
 unfold qr4
 refine q06 hb hbl hl fun s w1 hcs hB1=>?_
 obtain ⟨f1,f2,f3,f4⟩:=qg2 false bs
 refine cO (fun e=>?_) fun e=>?_
 ·have e:(qaz false bs).1≠0:=fun h=>by rw [h] at e;cases e
  rw [qsd e] at hE
  exact hE e w1 hB1
 have e0:(qaz false bs).1=0:=by
  rcases Nat.eq_zero_or_pos (qaz false bs).1 with h | h
  ·exact h
  ·rw [qdz (by omega)] at e;cases e
 obtain ⟨c,l,hcl⟩:=f4 e0
 have hcp:qaz false bs=(0,c::l):=by rw [←e0,←hcl]
 rw [hcl] at f1 f2 f3 hcs
 rw [qux hcp] at hE hO
 obtain ⟨xs,hxs,hxl,hxc⟩:=hcs
 have hxl:xs.length=l.length+1:=hxl
 have hds:dsum (c::l)=c.data.length+dsum l:=by simp [dsum]
 rw [hds] at f1
 rw [List.length_cons] at f3
 have hrd:=hxs.rd
 obtain ⟨x0,hx0⟩:∃x0,xs[0]?=some x0:=⟨_,List.getElem?_eq_getElem (by omega)⟩
 have hc0:=hxc 0 x0 c hx0 rfl
 refine hrd.ix (i:=0) (k:=2) rfl (by omega) (by omega) fun _=>?_
 refine qas (r:=T_png_Chunk.rep) (x:=x0) (hrd.at_ 0 x0 hx0) ?_
 refine q3z hc0.a fun w2 hB2=>?_
 refine nwb fun w3 h3 hB3 hs3=>qa2 h3 rfl fun w4 h4 hc4 hs4=>?_
 have hB14:Below w1.heap.size w1 w4:=b1o (bT hB2 hB3) hc4 hB2.size
 have hB4:=bT hB1 hB14
 unfold qg4 at hE hO
 refine cO (fun e=>?_) fun e=>?_
 ·have e:(headP c).1≠0:=fun h=>by rw [h] at e;cases e
  rw [if_pos e] at hE
  exact hE e w4 hB4
 have e1:(headP c).1=0:=by
  rcases Nat.eq_zero_or_pos (headP c).1 with h | h
  ·exact h
  ·rw [qdz (by omega)] at e;cases e
 rw [if_neg (by omega)] at hE hO
 obtain ⟨h,hh⟩:∃h,h=(headP c).2:=⟨_,rfl⟩
 rw [←hh] at hE hO h4
 have hck:qdd h=0:=by rw [hh];exact q19 e1
 obtain ⟨⟨W,H,ho⟩,hco⟩:=qfs hck
 have hWH:W*H≤16384*16384:=Nat.mul_le_mul ho.w2 ho.h2
 refine lI (x:=h.W) (h4.cells 0 _ rfl) (lI (x:=h.H) (h4.cells 1 _ rfl) ?_)
 have hmul:h.W*h.H=((W*H:Nat):Int):=by rw [ho.w,ho.h];simp
 rw [hmul] at hE hO ⊢
 rw [w64i (x:=((W*H:Nat):Int)) (by omega)]
 have hmin:((W*H:Nat):Int)>(if (67108864:Int)<pixels then (67108864:Int) else pixels)↔((W*H:Nat):Int)>pixels∨((W*H:Nat):Int)>67108864:=by
  split<;>omega
 refine cO (fun e=>?_) fun e=>?_
 ·have e:=hmin.1 (of_decide_eq_true e)
  rw [if_pos e] at hE
  exact hE (show (5:Nat)≠0 by decide) w4 hB4
 have e2:=fun h=>of_decide_eq_false e (hmin.2 h)
 rw [if_neg e2] at hE hO
 refine qas (r:=T_png_Head.rep) (x:=h) h4.cells ?_
 refine nwb fun w5 h5 hB5 hs5=>?_
 have hB15:=bT hB14 hB5
 obtain ⟨g,hg⟩:∃g,g=w4.heap.size:=⟨_,rfl⟩
 rw [←hg] at h5 ⊢
 have hf0:FilA w5 g g (fil0 h) ⟨none,0,0⟩ ⟨none,0,0⟩ ⟨none,0,0⟩:=⟨h5,Rd.nil _ _,Rd.nil _ _,Own.nil _ _ _,(fun k hk=>by cases hk),(fun k hk=>by cases hk)⟩
 have hxs5:=hxs.ext hB15
 refine hxs5.rd.slK (l:=1) (m:=xs.length) rfl (.inr rfl) (.inl ⟨rfl,rfl⟩) (by omega) (by omega) fun hp=>?_
 rw [List.take_length] at hp
 have hs15:=hB15.size
 have hs1g:w1.heap.size≤g:=by rw [hg];exact hB14.size
 have hblk:∀k,(⟨cut s.a 1 s.c qb1.k,xs.length-1,s.c-1⟩:Slc).blk=some k→k<g:=fun k hk=>by
  obtain ⟨a,ha,rfl⟩:=slk.1 hk
  obtain ⟨a',ha',e⟩:=qia ha
  have:=(hxs.lt a'.block (slk.2 ⟨a',ha',rfl⟩)).2
  rw [e]
  omega
 have hn:xs.length-1=l.length:=by omega
 rw [hn] at hp hblk ⊢
 have h45:Blk w5 w2.heap.size qaw (T_png_Head.rep.cells h):=h4.ext hB5
 have hs2g:w2.heap.size<g:=by rw [hg];have:=h4.lt;omega
 refine lpR (fun (st:Int×Unit) w6=>∃(i:Nat) (F:FilL) (p t d:Slc) (m:Nat),st.1=i∧i≤l.length∧FilA w6 g g F p t d∧FilOk F∧F.h=h∧qbu (fil0 h) l=qbu F (l.drop i)∧Below g w5 w6∧(F.data.length≤m∧F.pal.length≤m∧F.tr.length≤m)∧m+dsum (l.drop i)≤bs.length) (fun st=>l.length-st.1.toNat)
  ⟨0,fil0 h,_,_,_,0,rfl,by omega,hf0,q5w hck,rfl,rfl,Below.refl _ _,⟨Nat.le_refl _,Nat.le_refl _,Nat.le_refl _⟩,by rw [List.drop_zero];omega⟩ ?_
 rintro ⟨i,u⟩ w6 ⟨i,F,p,t,d,m,rfl,hi,hF,hFo,hFh,htk,hB56,hlen,hsum⟩ I hI
 dsimp only
 have hBw6:Below w.heap.size w w6:=(bT hB1 hB15).trans (hB56.mono (by have:=hB1.size;omega))
 refine cO (fun hlt=>?_) fun hge=>?_
 ·have hlt:=of_decide_eq_true hlt
  have hil:i<l.length:=by omega
  obtain ⟨ci,hci⟩:∃ci,l[i]?=some ci:=⟨_,List.getElem?_eq_getElem hil⟩
  obtain ⟨xi,hxi⟩:∃xi,xs[i+1]?=some xi:=⟨_,List.getElem?_eq_getElem (by omega)⟩
  have hoi:=hxc (i+1) xi ci hxi (by simpa using hci)
  have hdrop:l.drop i=ci::l.drop (i+1):=by
   rw [List.getElem?_eq_getElem hil] at hci
   rw [←Option.some.inj hci,←List.drop_eq_getElem_cons]
  have hmem:ci∈c::l:=List.mem_cons_of_mem _ (List.mem_of_getElem? hci)
  have hdsum:dsum (l.drop i)=ci.data.length+dsum (l.drop (i+1)):=by rw [hdrop];simp [dsum]
  rw [hdsum] at hsum
  have hp6:=Below.rdT hp hB56 hblk
  have hxi':(xs.drop 1)[i]?=some xi:=by rw [List.getElem?_drop,Nat.add_comm];exact hxi
  refine hp6.ix (i:=(i:Int)) (k:=2) rfl (by omega) (by rw [List.length_drop];omega) fun _=>?_
  refine qas (r:=T_png_Chunk.rep) (x:=xi) (hp6.at_ i xi hxi') ?_
  refine nwb fun w7 h7 hB7 hs7=>qa2 h7 rfl fun w8 h8 hc8 hs8=>?_
  have hB68:Below w6.heap.size w6 w8:=b1o hB7 hc8 (Nat.le_refl _)
  refine qas (r:=T_png_Chunk.rep) (x:=xi) h8.cells ?_
  have hg6:g≤w6.heap.size:=by have:=hF.blk.lt;omega
  have hB58:Below g w5 w8:=hB56.trans (hB68.mono hg6)
  have hxblk:∀k,xi.Data.blk=some k→k<g:=fun k hk=>by have:=(hoi.data.lt k hk).2;omega
  have hxa:ChA w8 xi ci:=⟨hoi.kind,Below.rdT (hoi.data.rd.ext hB15) hB58 hxblk⟩
  rw [hdrop,qbu] at htk
  refine zf0 (hF.ext hB68) (by rw [hFh];exact hco) hxa hxblk (Nat.le_refl _) (f2 ci hmem) (by omega) (by omega) (by omega) (fun w9 hne hB9=>?_) (fun h0 p' t' d' w9 hF9 hB9=>?_)
  ·rw [if_pos hne] at htk
   have hBw9:Below w.heap.size w w9:=(hBw6.trans (hB68.mono (by have:=hBw6.size;omega))).trans (hB9.mono (by have:=hB1.size;omega))
   refine cT (qdz (by omega)) ?_
   rw [htk] at hE
   rw [if_pos hne] at hE
   exact hE hne w9 hBw9
  ·rw [if_neg (by omega)] at htk
   refine cF rfl ?_
   rw [w64i (by omega)]
   obtain ⟨ho9,hh9⟩:=q2n hFo h0
   obtain ⟨l1,l2,l3⟩:=qw6 (c:=ci) hlen
   exact hI _ _ ⟨i+1,(takeP F ci).2,p',t',d',m+ci.data.length,rfl,by omega,hF9,ho9,hh9.trans hFh,htk,hB58.trans hB9,⟨l1,l2,l3⟩,by omega⟩ (by simp;omega)
 ·have hge:=of_decide_eq_false hge
  obtain rfl:i=l.length:=by omega
  rw [List.drop_length,qbu] at htk
  rw [htk] at hE hO
  rw [if_neg (by simp)] at hE hO
  refine qcy (x:=F.hasD) (hF.blk.cells 10 _ rfl) ?_
  refine cO (fun e=>?_) fun e=>?_
  ·have e:F.hasD=false:=by simpa using e
   rw [if_pos (.inl e)] at hE
   exact hE (show (3:Nat)≠0 by decide) w6 hBw6
  have e3:F.hasD=true:=by simpa using e
  have h46:Blk w6 w2.heap.size qaw (T_png_Head.rep.cells h):=h45.below hB56 hs2g
  refine lI (x:=h.Color) (h46.cells 3 _ rfl) ?_
  refine cO (fun e=>?_) fun e=>?_
  ·have e:h.Color=3:=eq_of_beq e
   refine qcy (x:=F.hasP) (hF.blk.cells 7 _ rfl) ?_
   refine cO (fun e4=>?_) fun e4=>?_
   ·have e4:F.hasP=false:=by simpa using e4
    rw [if_pos (.inr ⟨e,e4⟩)] at hE
    exact hE (show (3:Nat)≠0 by decide) w6 hBw6
   ·have e4:F.hasP=true:=by simpa using e4
    rw [if_neg (by rw [e3,e4];simp)] at hO
    exact hO rfl g g p t d w6 hF (by have:=hB1.size;omega) hBw6
  ·have e:h.Color≠3:=by simpa using e
   rw [if_neg (by rw [e3];simp [e])] at hO
   exact hO rfl g g p t d w6 hF (by have:=hB1.size;omega) hBw6
theorem q1b {b:Slc} {bs:List UInt8} {pixels:Int} {K:T_api_Matrix→Int→World→Prop} (hb:Rd qab w b bs) (hbl:∀k,b.blk=some k→k<w.heap.size) (hl:bs.length≤1000000) (hpx:pixels≤4000000)
  (hE:(qex bs pixels).1≠0→∀w',Below w.heap.size w w'→K ⟨0,0,⟨none,0,0⟩⟩ ((qex bs pixels).1:Nat) w')
  (hO:∀W H m,qex bs pixels=(0,W,H,m)→∀s w',Go.Vc.Own qab w' w.heap.size s m→m.length=4*W*H→Below w.heap.size w w'→K ⟨W,H,s⟩ 0 w'):qlb b pixels w K:=by
 refine q39 _ _ ?_
 unfold qn8
 refine nwb fun w1 h1 hB1 hs1=>?_
 unfold qex at hE hO
 have bad:∀(n:Nat) w2,Below w1.heap.size w1 w2→(∀w',Below w.heap.size w w'→K ⟨0,0,⟨none,0,0⟩⟩ (n:Int) w')→stK ⟨w.heap.size,0,none⟩ [(.int .i64 0),(.int .i64 0),(.slice none 0 0)] w2 fun w3=>ldS T_api_Matrix.rep ⟨w.heap.size,0,none⟩ w3 fun r=>K r (n:Int) w3:=fun n w2 hB hk =>
  qby (r:=T_api_Matrix.rep) (x:=⟨0,0,⟨none,0,0⟩⟩) (h1.ext hB) rfl rfl fun w3 hc3 hs3=>hk w3 (b1o (bT hB1 hB) hc3 (Nat.le_refl _))
 refine zf4 (hb.ext hB1) (fun k hk=>by have:=hbl k hk;omega) hl (fun hne w2 hB2=>?_) (fun h0 g bb p t d w2 hF hgl hB2=>?_)
 ·rw [if_pos hne] at hE
  exact cT (qdz (by omega)) (bad _ w2 hB2 (hE hne))
 obtain ⟨hok,harea,hd,hp,ht⟩:=q4u h0
 rw [if_neg (by omega)] at hE hO
 obtain ⟨F,hFe⟩:∃F,F=(qc9 bs pixels).2:=⟨_,rfl⟩
 rw [←hFe] at hE hO hF hok harea hd hp ht
 obtain ⟨⟨W,H,hh⟩,hco⟩:=qfs hok.hd
 have hmul:F.h.W*F.h.H=((W*H:Nat):Int):=by rw [hh.w,hh.h];simp
 rw [hmul] at harea
 have hneed:=qtk hh (M:=W*H) (Nat.le_refl _)
 refine cF rfl (q6d ?_)
 refine qas (r:=T_png_Head.rep) (x:=F.h) (by rw [add_zero];exact hF.head) ?_
 refine zi6 hh fun w4 hB4=>q6d ?_
 have hF4:=hF.ext hB4
 have hB24:=bT hB2 hB4
 refine lSl (x:=d) (hF4.blk.cells 9 _ rfl) ?_
 obtain ⟨u1,u2,u3⟩:=qtn (needP F.h) F.data
 unfold decF at hE hO
 refine zc1 (by omega) hF4.data.rd (fun k hk=>(hF4.data.lt k hk).2) (by omega) u1 u2 u3 (fun hz o w5 ho hB5=>?_) (fun n hz hn w5 hB5=>?_)
 ·have hz:unErr (needP F.h) F.data=0:=hz
  rw [hz,if_neg (by decide)] at hE hO
  have hB15:=bT hB24 hB5
  have hF5:=hF4.ext hB5
  have hu:((6+((unRun (needP F.h) F.data).2.1+7)/8:Nat):Int)=((qk6 (needP F.h) F.data:Nat):Int):=rfl
  rw [hu,ho.rd.n]
  have hoo:(unRun (needP F.h) F.data).1.hist=unOut (needP F.h) F.data:=rfl
  rw [hoo] at ho ⊢
  obtain ⟨xs,hxs⟩:∃xs,xs=unOut (needP F.h) F.data:=⟨_,rfl⟩
  rw [←hxs] at ho hE hO ⊢
  have hxm:xs.length≤needP F.h:=by rw [hxs];exact u1.most (Nat.zero_le _)
  refine jpO fun J1 hJ1=>?_
  refine cF rfl (jpO fun J2 hJ2=>?_)
  have key:∀bb':Bool,(bb'=true↔xs.length<needP F.h∨qk6 (needP F.h) F.data<F.data.length)→J2 (bb',()) w5:=by
   intro bb' hbb
   refine hJ2 _ _ (cO (fun e=>?_) fun e=>?_)
   ·rw [if_pos (hbb.1 e)] at hE
    exact bad 3 w5 hB15 (hE (show (3:Nat)≠0 by decide))
   ·have hn:¬(xs.length<needP F.h∨qk6 (needP F.h) F.data<F.data.length):=fun h=>by rw [hbb.2 h] at e;cases e
    rw [if_neg hn] at hE hO
    refine hJ1 _ _ ?_
    refine zej hF5 hok hh (by omega) (by omega) (by omega) ho.rd (by omega) (by omega) (fun hpn w7 hB7=>?_) (fun m hpm s w7 hs hml hB7=>?_)
    ·rw [hpn] at hE
     exact bad 3 w7 (bT hB15 hB7) (hE (show (3:Nat)≠0 by decide))
    ·rw [hpm] at hO
     have hB17:=bT hB15 hB7
     refine qby (r:=T_api_Matrix.rep) (x:=⟨W,H,s⟩) (h1.ext hB17) rfl rfl fun w8 hc8 hs8=>?_
     have e1:(0,F.h.W.toNat,F.h.H.toNat,m)=(0,W,H,m):=by rw [hh.wn,hh.hn]
     exact hO W H m e1 s w8 ((hs.chg hc8 fun k hk=>qai hs (h1.ext hB17) (by decide) k hk).base (by have:=hB1.size;have:=hB15.size;omega)) hml (b1o (bT hB1 hB17) hc8 (Nat.le_refl _))
  refine cO (fun e=>key _ ?_) fun e=>?_
  ·have e:=of_decide_eq_true e
   simp
   exact .inl (by omega)
  ·have e:=of_decide_eq_false e
   refine q6d (lSl (x:=d) (hF5.blk.cells 9 _ rfl) (key _ ?_))
   rw [hF5.data.rd.n,decide_eq_true_iff]
   omega
 ·have hz:unErr (needP F.h) F.data=n:=hz
  rw [hz,if_pos hn] at hE
  refine jpO fun J1 hJ1=>?_
  exact cT (qdz (by omega)) (bad n w5 (bT hB24 hB5) (hE hn))
end
end Go.Proofs.YtmagnpcgpinmcaaGreat
set_option linter.unusedVariables false
namespace Go.Proofs.YtmagnpcgpinmcaaGreat
open Go.Vc Go.RowKit
set_option maxRecDepth 400000
theorem q2q (n:Nat):qaf (List.replicate n 0)=List.replicate n (.int .u8 0):=by
 unfold qaf
 rw [List.map_replicate]
 rfl
theorem mkB {n m:Nat} {l c:Int} (hl:l=n) (hc:c=m) (hnm:n≤m) (hm:m≤100000000000) {w:World} {K:Slc→World→Prop}
  (hK:∀w',Go.Vc.Own qab w' w.heap.size ⟨some ⟨w.heap.size,0,none⟩,n,m⟩ (List.replicate n 0)→Below w.heap.size w w'→K ⟨some ⟨w.heap.size,0,none⟩,n,m⟩ w'):mkSl PG qaa (.int .i64 l) (.int .i64 c) w K:=by
 subst hl hc
 have hr:=run_make (P:=PG) w qaa qab.t qal.i qal.z qal.ht qal.hi qal.hz .i64 .i64 (n:Int) (m:Int) (by omega) (by omega) (by rw [qcp];omega) (by omega)
 refine ⟨⟨some ⟨w.heap.size,0,none⟩,n,m⟩,_,by simpa using hr,hK _ ?_ ((Below.refl _ w).alloc (Nat.le_refl _) _)⟩
 have hcur:(madeCells qal.z.cells ((m:Int).toNat*qal.i.size)).toList=List.replicate m (.int .u8 0):=by
  have hs:qal.i.size=1:=qal.hs
  rw [hs,Int.toNat_natCast,Nat.mul_one]
  refine List.ext_getElem? fun j=>?_
  have hz:qal.z.cells=#[.int .u8 0]:=rfl
  rw [hz]
  by_cases hj:j<m
  ·rw [Array.getElem?_toList,List.getElem?_replicate,if_pos hj]
   simp [madeCells,hj]
   rw [Nat.mod_one]
   rfl
  ·rw [List.getElem?_eq_none (by simp [madeCells];omega),List.getElem?_eq_none (by simp;omega)]
 have hb:Blk (w.alloc (.cells (madeCells qal.z.cells ((m:Int).toNat*qal.i.size)) qab.t)) w.heap.size qab.t (List.replicate m (.int .u8 0)):=by
  have:=Blk.new w qab.t (madeCells qal.z.cells ((m:Int).toNat*qal.i.size)).toList
  rw [hcur,←hcur,Array.toArray_toList] at this
  rw [hcur] at this
  exact this
 have:=Go.Vc.Own.of_blk (E:=qab) (xs:=List.replicate n (0:UInt8)) (c:=m) (base:=w.heap.size) (Nat.le_refl _) hb (by simpa using hnm) (by unfold maxLen;omega) (by rw [List.length_replicate];exact (Nat.mul_one _).symm) (by
  rw [qrc,q2q,List.length_replicate]
  show (List.replicate m _).take (n*1)=_
  rw [Nat.mul_one,List.take_replicate,Nat.min_eq_left hnm])
 simpa using this
theorem qb5 (n:Nat):(be4 n).length=4:=rfl
section
variable {w:World}
theorem qj9 {n:Nat} {K:Slc→World→Prop} (hn:n<2^32) (hK:∀t w',Rd qab w' ⟨some t,4,4⟩ (be4 n)→Below w.heap.size w w'→K ⟨some t,4,4⟩ w'):qfy (n:Int) w K:=by
 refine zb2 _ ?_
 unfold qty
 refine ⟨by decide,by decide,by decide,?_⟩
 rw [show min ((24:Int)).toNat IntKind.u32.bits=24 by decide,show min ((16:Int)).toNat IntKind.u32.bits=16 by decide,show min ((8:Int)).toNat IntKind.u32.bits=8 by decide,qbl,qbl,qbl,qb3,qb3,qb3,qb3]
 exact nwb fun w1 h1 hB1 hs1=>hK _ w1 (qda (E:=qab) (ys:=be4 n) h1 (by rw [qb5];decide) rfl) hB1
def ChsA (w:World) (xs:List T_png_Chunk) (L:List ChL):Prop:=xs.length=L.length∧∀(i:Nat) x c,xs[i]?=some x→L[i]?=some c→ChA w x c
theorem ChsA.ext {w w':World} {xs:List T_png_Chunk} {L:List ChL} (h:ChsA w xs L) (hB:Below w.heap.size w w'):ChsA w' xs L:=⟨h.1,fun i x c hx hc=>(h.2 i x c hx hc).ext hB⟩
theorem qii (k:List UInt8):(kind4 k).length=4:=by unfold kind4;rw [List.length_append,List.length_take,List.length_replicate];omega
theorem q1g (c:ChL):(layC c).length=12+c.data.length:=by
 unfold layC
 simp only [List.length_append,qb5,qii]
 omega
theorem q94 (L:List ChL) {i:Nat} {c:ChL} (h:L[i]?=some c):layP (L.take (i+1))=layP (L.take i)++layC c:=by
 unfold layP
 rw [List.take_add_one,h,List.flatMap_append]
 simp
theorem qmw (L:List ChL):(layP L).length=8+12*L.length+dsum L:=by
 unfold layP
 have:(L.flatMap layC).length=12*L.length+dsum L:=by
  induction L with
  | nil=>rfl
  | cons c L ih =>
   rw [List.flatMap_cons,List.length_append,ih,q1g,List.length_cons]
   unfold dsum
   rw [List.map_cons,List.sum_cons]
   omega
 rw [List.length_append,this]
 show 8+_=_
 omega
theorem qqy (L:List ChL) (i:Nat):dsum (L.take i)≤dsum L:=by
 have:dsum L=dsum (L.take i)+dsum (L.drop i):=by
  unfold dsum
  rw [←List.sum_append,←List.map_append,List.take_append_drop]
 omega
theorem q98 {L:List ChL} {i:Nat} {c:ChL} (h:L[i]?=some c):c.data.length≤dsum L:=by
 obtain ⟨hi,e⟩:=List.getElem?_eq_some_iff.1 h
 have h2:=qqy L (i+1)
 rw [List.take_add_one,h] at h2
 unfold dsum at h2 ⊢
 rw [List.map_append,List.sum_append] at h2
 simp at h2
 omega
theorem zb1 {l:Slc} {xs:List T_png_Chunk} {L:List ChL} (hl:Rd qb1 w l xs) (hL:ChsA w xs L) (hn:L.length≤1000000) (hd:dsum L≤1000000000) {K:Slc→World→Prop} (hK:∀t w',Go.Vc.Own qab w' w.heap.size t (layP L)→Below w.heap.size w w'→K t w'):qig l w K:=by
 refine zbr _ ?_
 unfold qtp
 refine q21 fun t w1 hs hB1=>?_
 have hln:=hl.n
 have hxl:=hL.1
 refine lpR (fun (s:Slc×Int×Unit) w2=>∃i:Nat,s.2.1=i∧i≤L.length∧Go.Vc.Own qab w2 w.heap.size s.1 (layP (L.take i))∧Below w.heap.size w w2) (fun s=>L.length-s.2.1.toNat) ⟨0,rfl,by omega,hs,hB1⟩ ?_
 rintro ⟨o,i,u⟩ w2 ⟨i,rfl,hi,hoo,hB2⟩ I hI
 dsimp only at hoo ⊢
 have hro:=hoo.rd
 rw [hln,hxl]
 refine cO (fun hlt=>?_) fun hge=>?_
 ·have hlt:=of_decide_eq_true hlt
  have hil:i<L.length:=by omega
  obtain ⟨x,hx⟩:∃x,xs[i]?=some x:=⟨_,List.getElem?_eq_getElem (by omega)⟩
  obtain ⟨c,hc⟩:∃c,L[i]?=some c:=⟨_,List.getElem?_eq_getElem hil⟩
  have hxc:=(hL.2 i x c hx hc).ext hB2
  have hl2:=hl.ext hB2
  have hcd:=q98 hc
  refine hl2.ix (i:=(i:Int)) (k:=2) rfl (by omega) (by omega) fun _=>?_
  refine qas (r:=T_png_Chunk.rep) (x:=x) (hl2.at_ i x hx) ?_
  refine nwb fun w3 h3 hB3 hs3=>qa2 h3 rfl fun w4 h4 hc4 hs4=>?_
  have hB24:Below w2.heap.size w2 w4:=b1o hB3 hc4 (Nat.le_refl _)
  have hx4:=hxc.ext hB24
  refine lSl (x:=x.Data) (h4.cells 1 _ rfl) ?_
  rw [hx4.data.n,w64i (x:=(4:Int)+((c.data.length:Nat):Int)) (by omega)]
  refine mkB (n:=4) (m:=4+c.data.length) rfl (by omega) (by omega) (by omega) fun w5 hk5 hB5=>?_
  refine qcd (x:=x.Kind) ((h4.ext hB5).cells 0 _ rfl) ?_
  rw [hx4.kind]
  obtain ⟨cur,hcur,hcl,hct,hc1,hc2,hc3,hc4'⟩:=q6g (c:=0) hk5 (g:=w4.heap.size) rfl
  have hcl:cur.length=4+c.data.length:=hcl
  have hmn:min c.kind.length 4≤4:=Nat.min_le_right _ _
  refine copyS (dc:=4+c.data.length) hcur rfl (by omega) fun w6 hb6 hc6 hs6=>?_
  have hput:=zfc (ys:=c.kind.take (min c.kind.length 4)) (k:=0) hk5 rfl hcur (by rw [List.length_take,List.length_replicate];omega) hb6
  have hke:(List.replicate 4 (0:UInt8)).take 0++c.kind.take (min c.kind.length 4)++(List.replicate 4 (0:UInt8)).drop (0+(c.kind.take (min c.kind.length 4)).length)=kind4 c.kind:=by
   unfold kind4
   rw [List.take_zero,List.nil_append,Nat.zero_add,List.length_take,List.drop_replicate]
   rcases Nat.le_total c.kind.length 4 with h | h
   ·rw [Nat.min_eq_left h,Nat.min_self,List.take_length,List.take_of_length_le h]
   ·rw [Nat.min_eq_right h,Nat.min_eq_left h,show 4-4=4-c.kind.length by omega]
  rw [hke] at hput
  have hB46:Below w4.heap.size w4 w6:=b1o hB5 hc6 (Nat.le_refl _)
  have h46:=h4.ext hB46
  have hB26:=bT hB24 hB46
  refine lSl (x:=x.Data) (h46.cells 1 _ rfl) ?_
  refine apB hput ((hx4.ext hB46).data) (by have:=hB46.size;omega) (by rw [qii];omega) fun r w7 hr hc7 hrb=>?_
  have hB47:Below w4.heap.size w4 w7:=hB46.trans (hc7.below hB46.size fun k hk e=>by
   have:k=w4.heap.size:=by
    cases e
    rfl
   omega)
  have hB27:=bT hB24 hB47
  refine lSl (x:=x.Data) ((h4.ext hB47).cells 1 _ rfl) ?_
  rw [hx4.data.n]
  have ew:IntKind.u32.wrap ((c.data.length:Nat):Int)=((c.data.length:Nat):Int):=qad .u32 (show c.data.length<2^32 by omega)
  rw [ew]
  refine qj9 (by omega) fun t32 w8 h32 hB8=>?_
  have hr8:=hr.ext hB8
  refine CrcOf hr8.rd (by rw [List.length_append,qii];omega) fun w11 hB11=>?_
  refine qj9 (qs5 _) fun t38 w12 h38 hB12=>?_
  have hB712:=bT (bT hB8 hB11) hB12
  have hB212:=bT hB27 hB712
  refine nwb fun w13 h13 hB13 hs13=>?_
  have ho13:=(hro.ext hB212).ext hB13
  have h32':=((h32.ext hB11).ext hB12).ext hB13
  have hr13:=(hr.ext hB712).ext hB13
  have h38':=h38.ext hB13
  have htl:=qmw (L.take i)
  have hdt:=qqy L i
  have htk:(L.take i).length≤L.length:=by rw [List.length_take];omega
  have hfl:[layP (L.take i),be4 c.data.length,kind4 c.kind++c.data,be4 (crcN (kind4 c.kind++c.data))].flatten=layP (L.take (i+1)):=by
   rw [q94 L hc]
   unfold layC
   simp [List.append_assoc]
  refine qpg (p:=⟨some ⟨w12.heap.size,0,none⟩,4,4⟩) (ss:=[o,⟨some t32,4,4⟩,r,⟨some t38,4,4⟩]) (xss:=[layP (L.take i),be4 c.data.length,kind4 c.kind++c.data,be4 (crcN (kind4 c.kind++c.data))])
   (qda (E:=slsE) (ys:=[o,⟨some t32,4,4⟩,r,⟨some t38,4,4⟩]) h13 (by simp [maxLen]) rfl) ⟨rfl,?_⟩ ?_ (by simp) fun q w14 hq hB14=>?_
  ·intro j s ys hs' hy
   match j,hs',hy with
   | 0,hs',hy=>cases hs';cases hy;exact ho13
   | 1,hs',hy=>cases hs';cases hy;exact h32'
   | 2,hs',hy=>cases hs';cases hy;exact hr13.rd
   | 3,hs',hy=>cases hs';cases hy;exact h38'
   | j+4,hs',hy=>simp at hs'
  ·rw [hfl,qmw]
   have:=qqy L (i+1)
   rw [List.length_take]
   omega
  ·rw [hfl] at hq
   rw [w64i (by omega)]
   have hB14':=bT (bT (bT hB2 hB212) hB13) hB14
   have hsz:w.heap.size≤w13.heap.size:=(bT (bT hB2 hB212) hB13).size
   exact hI _ _ ⟨i+1,rfl,by omega,hq.base hsz,hB14'⟩ (by simp;omega)
 ·have hge:=of_decide_eq_false hge
  obtain rfl:i=L.length:=by omega
  rw [List.take_length] at hoo
  exact hK o w2 hoo hB2
end
end Go.Proofs.YtmagnpcgpinmcaaGreat
set_option linter.unusedVariables false
namespace Go.Proofs.YtmagnpcgpinmcaaGreat
open Go.Vc Go.RowKit
set_option maxRecDepth 400000
theorem za7 {l:List UInt8} {k:Nat} (h:k+4≤l.length):∃a b c d,(l.drop k).take 4=[a,b,c,d]∧l[k]?=some a∧l[k+1]?=some b∧l[k+2]?=some c∧l[k+3]?=some d:=by
 refine ⟨l[k],l[k+1],l[k+2],l[k+3],?_,List.getElem?_eq_getElem _,List.getElem?_eq_getElem _,List.getElem?_eq_getElem _,List.getElem?_eq_getElem _⟩
 rw [List.drop_eq_getElem_cons (by omega),List.drop_eq_getElem_cons (by omega),List.drop_eq_getElem_cons (by omega),List.drop_eq_getElem_cons (by omega)]
 rfl
theorem zk8 {w:World} {bc t:Nat} {a b c d:UInt8} (h:Blk w bc t (qaf [a,b,c,d])):Rd qab w ⟨some ⟨bc,0,none⟩,4,4⟩ [a,b,c,d]:=by
 refine ⟨rfl,Nat.le_refl _,by simp [maxLen],fun _=>rfl,fun i y hy=>?_⟩
 have hbc':=h.cells i (.int .u8 (y.toNat:Int)) (by unfold qaf;rw [List.getElem?_map,hy];rfl)
 intro j v hj
 match j,hj with
 | 0,hj =>
  cases hj
  show w.cell? (((⟨bc,0,none⟩:Addr).add (i*1)).add 0)=_
  rw [add_zero,Nat.mul_one]
  exact hbc'
 | j+1,hj=>simp [qab] at hj
section
variable {w:World}
theorem zlf {W H X Y:Nat} {s:Slc} {P:List UInt8} {K:Bool→World→Prop} (hP:Rd qab w s P) (hl:P.length=4*W*H) (hW:W≤16384) (hH:H≤16384) (hX:X<W) (hY:Y<H) (hK:∀w',Below w.heap.size w w'→K true w'):qu0 ⟨W,H,s⟩ (X:Int) (Y:Int) w K:=by
 refine q82 _ _ _ ?_
 unfold qrk
 refine nwb fun w1 h1 hB1 hs1=>?_
 refine cT (decide_eq_true (by omega)) (lI (x:=(W:Int)) (h1.cells 0 _ rfl) (cT (decide_eq_true (by omega)) (cT (decide_eq_true (by omega)) (lI (x:=(H:Int)) (h1.cells 1 _ rfl) (cT (decide_eq_true (by omega)) ?_)))))
 refine lSl (x:=s) (h1.cells 2 _ rfl) (lI (x:=(W:Int)) (h1.cells 0 _ rfl) (lI (x:=(H:Int)) (h1.cells 1 _ rfl) ?_))
 have h4:4*W*H≤4*16384*16384:=Nat.mul_le_mul (Nat.mul_le_mul_left 4 hW) hH
 rw [hP.n,w64i (x:=(4:Int)*(W:Int)) (by omega),show (4:Int)*(W:Int)*(H:Int)=((4*W*H:Nat):Int) by simp,w64i (by omega),decide_eq_true (by omega)]
 exact hK w1 hB1
theorem zjz {W H X Y:Nat} {s:Slc} {P:List UInt8} {K:T_pixel_Color→Bool→World→Prop} (hP:Rd qab w s P) (hl:P.length=4*W*H) (hW:W≤16384) (hH:H≤16384) (hX:X<W) (hY:Y<H)
  (hK:∀a b c d w',(P.drop (4*(Y*W+X))).take 4=[a,b,c,d]→Below w.heap.size w w'→K (colT a b c d) true w'):qta ⟨W,H,s⟩ (X:Int) (Y:Int) w K:=by
 refine q8n _ _ _ ?_
 unfold qre
 refine nwb fun w1 h1 hB1 hs1=>nwb fun w2 h2 hB2 hs2=>?_
 have hB12:=bT hB1 hB2
 refine qas (r:=T_api_Matrix.rep) (x:=⟨W,H,s⟩) (h1.ext hB2).cells ?_
 refine zlf (hP.ext hB12) hl hW hH hX hY fun w3 hB3=>cF rfl ?_
 have hB13:=bT hB12 hB3
 refine qas (r:=T_api_Matrix.rep) (x:=⟨W,H,s⟩) ((h1.ext hB2).ext hB3).cells ?_
 refine q81 _ _ _ ?_
 unfold qr3
 refine nwb fun w4 h4 hB4 hs4=>nwb fun w5 h5 hB5 hs5=>?_
 have hB35:=bT hB4 hB5
 have hB15:=bT hB13 hB35
 have hP5:=hP.ext hB15
 refine lSl (x:=s) ((h4.ext hB5).cells 2 _ rfl) (lI (x:=(W:Int)) ((h4.ext hB5).cells 0 _ rfl) ?_)
 have hWH:4*W*H=4*(W*H):=Nat.mul_assoc _ _ _
 have hWH2:W*H≤16384*16384:=Nat.mul_le_mul hW hH
 have hYW:(Y+1)*W≤H*W:=Nat.mul_le_mul_right _ hY
 rw [Nat.add_mul,Nat.one_mul,Nat.mul_comm H W] at hYW
 obtain ⟨k,hk⟩:∃k,k=4*(Y*W+X):=⟨_,rfl⟩
 have ek:IntKind.i64.wrap ((4:Int)*(IntKind.i64.wrap ((IntKind.i64.wrap ((Y:Int)*(W:Int)))+(X:Int))))=(k:Int):=by
  rw [show (Y:Int)*(W:Int)=((Y*W:Nat):Int) by simp,w64i (x:=((Y*W:Nat):Int)) (by omega),w64i (x:=((Y*W:Nat):Int)+(X:Int)) (by omega),w64i (by omega)]
  omega
 rw [ek]
 have hkl:k+4≤P.length:=by omega
 obtain ⟨a,b,c,d,ht,g0,g1,g2,g3⟩:=za7 hkl
 rw [←hk] at hK
 refine hP5.slK (l:=k) (m:=P.length) rfl (.inr rfl) (.inl ⟨rfl,rfl⟩) (by omega) (Nat.le_refl _) fun hr=>?_
 rw [List.take_length] at hr
 have hsome:=hr.some_ (by rw [List.length_drop];omega)
 obtain ⟨ad,had⟩:=Option.isSome_iff_exists.1 hsome
 rw [had,onPtr_some]
 have hcc:qbc w5 ad (T_pixel_Color.rep.cells (colT a b c d)):=by
  intro j v hj
  have key:∀(j:Nat) (y:UInt8),(P.drop k)[j]?=some y→w5.cell? (ad.add j)=some (.int .u8 (y.toNat:Int)):=fun j y hy=>by
   have:=qa9 hr hy
   have had':cut s.a k s.c qab.k=some ad:=had
   simp only [Slc.at_,had',Option.getD_some,Nat.mul_one] at this
   exact this
  match j,hj with
  | 0,hj=>cases hj;exact key 0 a (by rw [List.getElem?_drop];exact g0)
  | 1,hj=>cases hj;exact key 1 b (by rw [List.getElem?_drop];exact g1)
  | 2,hj=>cases hj;exact key 2 c (by rw [List.getElem?_drop];exact g2)
  | 3,hj=>cases hj;exact key 3 d (by rw [List.getElem?_drop];exact g3)
  | j+4,hj=>simp [T_pixel_Color.rep] at hj
 refine ⟨by show 4≤P.length-k;omega,qas (r:=T_pixel_Color.rep) (x:=colT a b c d) hcc ?_⟩
 refine qby (r:=T_pixel_Color.rep) (x:=colT a b c d) h5 rfl rfl fun w6 hc6 hs6=>?_
 have hB36:Below w3.heap.size w3 w6:=b1o hB35 hc6 (by omega)
 refine qby (r:=T_pixel_Color.rep) (x:=colT a b c d) ((h2.ext hB3).ext hB36) rfl rfl fun w7 hc7 hs7=>?_
 exact hK a b c d w7 ht (b1o (bT hB13 hB36) hc7 (by omega))
structure EnI (w0:World) (W H:Nat) (ms:Slc) (kd:Nat) (ba bl bm bk:Nat) (st:List UInt8×List UInt8) (w1:World):Prop where
 m:Blk w1 bm qat (T_api_Matrix.rep.cells ⟨W,H,ms⟩)
 k:Blk w1 bk qbf [.int .i64 (kd:Int)]
 ex:∃sa sl:Slc,Blk w1 ba qaa [.slice sa.a sa.n sa.c]∧Go.Vc.Own qab w1 w0.heap.size sa st.2∧Blk w1 bl qaa [.slice sl.a sl.n sl.c]∧Go.Vc.Own qab w1 w0.heap.size sl st.1∧(∀k,sa.blk=some k→sl.blk≠some k)
 B:Below w0.heap.size w0 w1
theorem qlq {W H:Nat} {P:List UInt8} {r:PassP×Nat×Nat} (hl:P.length=4*W*H):∀n,(∀x,x<n→pixAt W r.1 r.2.1 x+4≤4*W*H)→(qbo W P r n).length=4*n
 | 0,_=>by simp [qbo]
 | n+1,h=>by
  have ih:=qlq hl n fun x hx=>h x (by omega)
  unfold qbo at ih ⊢
  have:=h n (by omega)
  rw [List.range_succ,List.flatMap_append,List.length_append,ih]
  simp only [List.flatMap_cons,List.flatMap_nil,List.append_nil,List.length_take,List.length_drop]
  omega
theorem qr5 (W:Nat) (P:List UInt8) (r:PassP×Nat×Nat) (n:Nat):qbo W P r (n+1)=qbo W P r n++(P.drop (pixAt W r.1 r.2.1 n)).take 4:=by
 unfold qbo
 rw [List.range_succ,List.flatMap_append]
 simp
theorem za9 {w0:World} {W H:Nat} {h:T_png_Head} (hh:HeadOk h W H) {ms:Slc} {P:List UInt8} (hP:Rd qab w0 ms P) (hl:P.length=4*W*H) {kd:Nat} (hkd:kd≤4) {ba bl bm bk:Nat} (hab:ba≠bl) (hal:w0.heap.size≤ba) (hbl:w0.heap.size≤bl)
  {st:List UInt8×List UInt8} {L R:List (PassP×Nat×Nat)} {r:PassP×Nat×Nat} (hL:rowsL h=L++r::R) (hst:qbn r.2.1 st.2=[]∨(qbn r.2.1 st.2).length=4*r.2.2) (hsl:st.1.length≤500000000000) {w1:World} (hI:EnI w0 W H ms kd ba bl bm bk st w1) {J:Bool→World→Prop}
  (hJ:∀w2 row,EnI w0 W H ms kd ba bl bm bk (qg3 W P kd st r) w2→row=none∨(∃k cs,row=some k∧Blk w1 k qag cs)→Chg (fun k=>k=ba∨k=bl∨row=some k) w1 w2→J true w2) :
  qmn (passT r.1) (r.2.1:Int) (r.2.2:Int) ⟨ba,0,none⟩ ⟨bm,0,none⟩ ⟨bk,0,none⟩ ⟨bl,0,none⟩ w1 J:=by
 have hra:=qha hh hL
 have hw2:r.2.2≤16384:=by rw [hra.w];have:=(qd5 r.1 W H).1;have:=hh.w2;omega
 have hyH:r.2.1<16384:=by have:=hra.y;have:=(qd5 r.1 W H).2;have:=hh.h2;omega
 have hdx:=qkw h.Lace r.1 hra.mem
 have hrooms:∀x,x<r.2.2→pixAt W r.1 r.2.1 x+4≤4*W*H∧r.1.x+x*r.1.dx<W∧r.1.y+r.2.1*r.1.dy<H:=fun x hx=>qj1 (by rw [hra.w] at hx;exact hx) hra.y
 have hpl:=fun n (hn:n≤r.2.2)=>qlq (P:=P) (r:=r) hl n fun x hx=>(hrooms x (by omega)).1
 have hW2:=hh.w2
 have hH2:=hh.h2
 obtain ⟨hm,hk,⟨sa,sl,hba,hsa,hbl',hslO,hap⟩,hB01⟩:=hI
 have hs01:=hB01.size
 have hbal:=hba.lt
 have hbll:=hbl'.lt
 refine q0j _ _ _ _ _ _ _ ?_
 unfold qlv
 refine nwb fun w2 hp2 hB2 hs2=>?_
 refine jpO fun J1 hJ1=>?_
 have main:∀(sa':Slc) w3,Blk w3 ba qaa [.slice sa'.a sa'.n sa'.c]→Go.Vc.Own qab w3 w0.heap.size sa' (qbn r.2.1 st.2)→Chg (fun k=>k=ba) w1 w3→Blk w3 w1.heap.size qbd (T_q8_Pass.rep.cells (passT r.1))→J1 () w3:=by
  intro sa' w3 hba3 hsa3 hc3 hp3
  refine hJ1 _ _ ?_
  have hs3:=hc3.size
  have hm3:=hm.chg hc3 fun e=>by subst e;exact hm.ne_t hba (by decide) rfl
  have hk3:=hk.chg hc3 fun e=>by subst e;exact hk.ne_t hba (by decide) rfl
  have hbl3:=hbl'.chg hc3 fun e=>hab e.symm
  have hsl3:=hslO.chg hc3 fun k hk=>qai hslO hba (by decide) k hk
  have hB03:Below w0.heap.size w0 w3:=b1o hB01 hc3 hal
  refine lpR (fun (s:Slc×Int×Unit) w4=>∃x:Nat,s.2.1=x∧x≤r.2.2∧Go.Vc.Own qab w4 w3.heap.size s.1 (qbo W P r x)∧Below w3.heap.size w3 w4) (fun s=>r.2.2-s.2.1.toNat) ⟨0,rfl,by omega,Own.nil _ _ _,Below.refl _ _⟩ ?_
  rintro ⟨o,x,u⟩ w4 ⟨x,rfl,hx,ho,hB4⟩ I hIl
  dsimp only at ho ⊢
  have hB04:=bT hB03 hB4
  have hs4:=hB4.size
  refine cO (fun hlt=>?_) fun hge=>?_
  ·have hlt:=of_decide_eq_true hlt
   have hxl:x<r.2.2:=by omega
   obtain ⟨hr1,hr2,hr3⟩:=hrooms x hxl
   have hp4:=hp3.ext hB4
   refine qas (r:=T_api_Matrix.rep) (x:=⟨W,H,ms⟩) (hm3.ext hB4).cells ?_
   refine lI (x:=(r.1.x:Int)) (hp4.cells 0 _ rfl) (lI (x:=(r.1.dx:Int)) (hp4.cells 2 _ rfl) (lI (x:=(r.1.y:Int)) (hp4.cells 1 _ rfl) (lI (x:=(r.1.dy:Int)) (hp4.cells 3 _ rfl) ?_)))
   have eX:IntKind.i64.wrap ((r.1.x:Int)+(IntKind.i64.wrap ((x:Int)*(r.1.dx:Int))))=((r.1.x+x*r.1.dx:Nat):Int):=by
    rw [show (x:Int)*(r.1.dx:Int)=((x*r.1.dx:Nat):Int) by simp]
    generalize x*r.1.dx=v at hr2 ⊢
    rw [w64i (x:=((v:Nat):Int)) (by omega),w64i (by omega)]
    rfl
   have eY:IntKind.i64.wrap ((r.1.y:Int)+(IntKind.i64.wrap ((r.2.1:Int)*(r.1.dy:Int))))=((r.1.y+r.2.1*r.1.dy:Nat):Int):=by
    rw [show (r.2.1:Int)*(r.1.dy:Int)=((r.2.1*r.1.dy:Nat):Int) by simp]
    generalize r.2.1*r.1.dy=v at hr3 ⊢
    rw [w64i (x:=((v:Nat):Int)) (by omega),w64i (by omega)]
    rfl
   rw [eX,eY]
   refine zjz (hP.ext hB04) hl hW2 hH2 hr2 hr3 fun a b c d w5 htk hB5=>?_
   refine nwb fun w6 h6 hB6 hs6=>qa2 h6 rfl fun w7 h7 hc7 hs7=>?_
   have hB47:Below w4.heap.size w4 w7:=b1o (bT hB5 hB6) hc7 hB5.size
   have h7:Blk w7 w5.heap.size qaj (qaf [a,b,c,d]):=h7
   have ho7:=ho.ext hB47
   have hpn:=hpl x (by omega)
   show apK PG #[qaa,qaa] qaa o ⟨some ((⟨w5.heap.size,0,none⟩:Addr).add (0*1)),4,4⟩ w7 _
   rw [Nat.zero_mul,add_zero]
   refine apB ho7 (zk8 h7) (by have:=hB47.size;omega) (by rw [hpn];simp only [List.length_cons,List.length_nil];omega) fun q w8 hq hc8 hqb=>?_
   rw [w64i (by omega)]
   have hB37:=bT hB4 hB47
   refine hIl _ _ ⟨x+1,rfl,by omega,?_,hB37.trans (hc8.below hB37.size fun i hi e=>by have:=(ho7.lt i e).1;omega)⟩ (by simp;omega)
   have hpe:qbo W P r (x+1)=qbo W P r x++[a,b,c,d]:=by
    rw [qr5,←htk]
    unfold pixAt
    rw [Nat.add_assoc]
   rw [hpe]
   exact hq
  ·have hge:=of_decide_eq_false hge
   obtain rfl:x=r.2.2:=by omega
   have hpn:=hpl r.2.2 (Nat.le_refl _)
   have hk4:=hk3.ext hB4
   have hba4:=hba3.ext hB4
   have hsa4:=hsa3.ext hB4
   have hbl4:=hbl3.ext hB4
   have hsl4:=hsl3.ext hB4
   refine lI (x:=(kd:Int)) (qau hk4) (lSl (x:=sa') (qau hba4) ?_)
   refine zlm (step:=4) ho.rd hsa4.rd hkd (by decide) (by decide) (by rw [hpn];exact hst) (by omega) fun z w5 hz hB5=>?_
   have hs5:=hB5.size
   refine lSl (x:=sl) (qau (hbl4.ext hB5)) (lI (x:=(kd:Int)) (qau (hk4.ext hB5)) ?_)
   refine apB1 (c:=UInt8.ofNat kd) (qb3 kd) (hsl4.ext hB5) (by omega) (by omega) fun q w7 hq hc7 hqb=>?_
   have hslt:=(hsl4.ext hB5).lt
   have hzl:=hz.lt
   have hz7:=hz.chg hc7 fun k hk e=>by have h1:=(hzl k hk).1;have h2:=(hsl4.lt k e).2;omega
   refine apB hq hz7.rd (by have:=hc7.size;omega) (by rw [qgr,hpn,List.length_append,List.length_singleton];omega) fun q2 w8 hq2 hc8 hq2b=>?_
   have hqo:∀k,q.blk=some k→k<w5.heap.size→sl.blk=some k:=fun k hk hlt=>by
    rcases hqb with e | ⟨k',e,hge'⟩
    ·rw [←e];exact hk
    ·rw [e] at hk;cases hk;omega
   have hc58:Chg (fun k=>sl.blk=some k) w5 w8:=hc7.trans hc8 fun i hi e=>hqo i e hi
   have hB15:Chg (fun k=>k=ba) w1 w5:=(hc3.trans (Chg.of_ext (S:=fun k=>k=ba) hB4) fun i _ hi=>hi).trans (Chg.of_ext (S:=fun k=>k=ba) hB5) fun i _ hi=>hi
   have hne:∀{k tt:Nat} {cs:List Value},tt≠qag→Blk w5 k tt cs→sl.blk≠some k:=fun {k tt cs} hne hb e=>by
    obtain ⟨cs',hcs'⟩:=(hsl4.ext hB5).blk_t e
    exact hb.ne_t hcs' hne rfl
   have hbl8:Blk w8 bl qaa _:=(hbl4.ext hB5).chg hc58 (hne (by decide) (hbl4.ext hB5))
   refine qa2 hbl8 rfl fun w9 hbl9 hc9 hs9=>?_
   have hba8:Blk w8 ba qaa _:=(hba4.ext hB5).chg hc58 (hne (by decide) (hba4.ext hB5))
   refine qa2 (hba8.chg hc9 hab) rfl fun w10 hba10 hc10 hs10=>?_
   have hm8:=((hm3.ext hB4).ext hB5).chg hc58 (hne (by decide) ((hm3.ext hB4).ext hB5))
   have hk8:=(hk4.ext hB5).chg hc58 (hne (by decide) (hk4.ext hB5))
   have hch:Chg (fun k=>k=ba∨k=bl∨sl.blk=some k) w1 w10 :=
    (((hB15.mono fun i _ hi=>(.inl hi:i=ba∨i=bl∨sl.blk=some i)).trans (hc58.mono fun i _ hi=>(.inr (.inr hi):i=ba∨i=bl∨sl.blk=some i)) fun i _ hi=>hi).trans (hc9.mono fun i _ hi=>(.inr (.inl hi):i=ba∨i=bl∨sl.blk=some i)) fun i _ hi=>hi).trans (hc10.mono fun i _ hi=>.inl hi) fun i _ hi=>hi
   have hoT:∀k,o.blk=some k→w3.heap.size≤k∧k<w5.heap.size:=fun k hk=>⟨(ho.lt k hk).1,by have:=(ho.lt k hk).2;omega⟩
   have ho10:Go.Vc.Own qab w10 w3.heap.size o (qbo W P r r.2.2):=by
    refine (((ho.ext hB5).chg hc58 fun k hk e=>?_).chg hc9 fun k hk e=>?_).chg hc10 fun k hk e=>?_
    ·have:=(hsl3.lt k e).2;have:=(hoT k hk).1;omega
    ·have:=(hoT k hk).1;omega
    ·have:=(hoT k hk).1;omega
   have hq10:=(hq2.chg hc9 fun k hk=>qai hq2 hbl8 (by decide) k hk).chg hc10 fun k hk e=>qai hq2 (hba8) (by decide) k hk e
   refine hJ w10 sl.blk ⟨?_,?_,⟨o,q2,hba10,?_,hbl9.chg hc10 fun e=>hab e.symm,?_,?_⟩,?_⟩ ?_ hch
   ·exact (hm8.chg hc9 fun e=>by subst e;exact hm8.ne_t hbl8 (by decide) rfl).chg hc10 fun e=>by subst e;exact hm8.ne_t hba8 (by decide) rfl
   ·exact (hk8.chg hc9 fun e=>by subst e;exact hk8.ne_t hbl8 (by decide) rfl).chg hc10 fun e=>by subst e;exact hk8.ne_t hba8 (by decide) rfl
   ·exact ho10.base (by omega)
   ·exact hq10
   ·intro k hk e
    have h1:=hoT k hk
    rcases hq2b with e2 | e2
    ·rw [e2] at e
     have:=hqo k e h1.2
     have:=(hsl3.lt k this).2
     omega
    ·rw [e2] at e
     cases e
     have:=hc7.size
     omega
   ·exact hB01.trans (hch.below (by omega) fun i hi e=>by
     rcases e with e | e | e
     ·omega
     ·omega
     ·have:=(hslO.lt i e).1;omega)
   ·cases hsb:sl.blk with
    | none=>exact .inl rfl
    | some k =>
     obtain ⟨cs,hcs⟩:=hslO.blk_t hsb
     exact .inr ⟨k,cs,rfl,hcs⟩
 refine cO (fun e=>?_) fun e=>?_
 ·have e0:r.2.1=0:=by have:=eq_of_beq e;omega
  refine qa2 (hba.ext hB2) rfl fun w3 h3 hc3 hs3=>?_
  refine main ⟨none,0,0⟩ w3 h3 ?_ ((Chg.of_ext (S:=fun k=>k=ba) hB2).trans hc3 fun i _ hi=>hi) (hp2.chg hc3 (by omega))
  unfold qbn
  rw [if_pos e0]
  exact Own.nil _ _ _
 ·have e0:r.2.1≠0:=fun h=>by rw [h] at e;cases e
  refine main sa w2 (hba.ext hB2) ?_ (Chg.of_ext hB2) hp2
  unfold qbn
  rw [if_neg e0]
  exact hsa.ext hB2
end
end Go.Proofs.YtmagnpcgpinmcaaGreat
set_option linter.unusedVariables false
namespace Go.Proofs.YtmagnpcgpinmcaaGreat
open Go.Vc Go.RowKit
set_option maxRecDepth 400000
theorem zip (W:Nat) (P:List UInt8) (r:PassP×Nat×Nat) (n:Nat):(qbo W P r n).length≤4*n:=by
 unfold qbo
 induction n with
 | zero=>simp
 | succ n ih =>
  rw [List.range_succ,List.flatMap_append,List.length_append]
  simp only [List.flatMap_cons,List.flatMap_nil,List.append_nil,List.length_take,List.length_drop]
  omega
theorem qy0 (W:Nat) (P:List UInt8) (kd:Nat):∀(L:List (PassP×Nat×Nat)) (st:List UInt8×List UInt8),(∀r∈L,r.2.2≤W)→(L.foldl (qg3 W P kd) st).1.length≤st.1.length+L.length*(1+4*W)
 | [],st,_=>by simp
 | r::L,st,h=>by
  rw [List.foldl_cons,List.length_cons,Nat.add_mul,Nat.one_mul]
  have ih:=qy0 W P kd L (qg3 W P kd st r) fun q hq=>h q (List.mem_cons_of_mem _ hq)
  have hr:=zip W P r r.2.2
  have hw:=h r List.mem_cons_self
  have e:(qg3 W P kd st r).1.length=st.1.length+1+(qbo W P r r.2.2).length:=by
   unfold qg3
   simp only [List.length_append,List.length_singleton,qgr]
  omega
theorem q7p (W H:Nat):∀ps:List PassP,(ps.flatMap (qak W H)).length≤ps.length*H
 | []=>by simp
 | p::r=>by
  have:=q7p W H r
  have h2:=(qd5 p W H).2
  rw [List.flatMap_cons,List.length_append,qeh,List.length_cons,Nat.add_mul,Nat.one_mul]
  omega
theorem qtj {h:T_png_Head} {W H:Nat} (ho:HeadOk h W H):(rowsL h).length≤7*H:=by
 unfold rowsL
 rw [ho.wn,ho.hn]
 exact Nat.le_trans (q7p W H (qcr h.Lace)) (Nat.mul_le_mul_right _ (qio h.Lace))
theorem q6j {h:T_png_Head} {W H:Nat} (ho:HeadOk h W H):∀r∈rowsL h,r.2.2≤W:=by
 intro r hr
 obtain ⟨L,R,e⟩:=List.append_of_mem hr
 rw [(qha ho e).w]
 exact (qd5 _ _ _).1
theorem qix {W H:Nat} (lace:Bool) (h1:1≤W) (h2:W≤16384) (h3:1≤H) (h4:H≤16384):HeadOk (qbk W H lace) W H:=⟨rfl,rfl,h1,h2,h3,h4⟩
theorem zhk {h:T_png_Head} {W H:Nat} (ho:HeadOk h W H) {P:List UInt8} (hl:P.length=4*W*H) (kd:Nat) {L R:List (PassP×Nat×Nat)} {r:PassP×Nat×Nat} (hL:rowsL h=L++r::R) :
  qbn r.2.1 (L.foldl (qg3 W P kd) ([],[])).2=[]∨(qbn r.2.1 (L.foldl (qg3 W P kd) ([],[])).2).length=4*r.2.2:=by
 have hra:=qha ho hL
 unfold qbn
 by_cases h0:r.2.1=0
 ·rw [if_pos h0];exact .inl rfl
 rw [if_neg h0]
 right
 rcases hra.last with e | ⟨L',e⟩
 ·exact absurd e h0
 subst e
 rw [List.foldl_append]
 show (qbo W P (r.1,r.2.1-1,r.2.2) r.2.2).length=_
 refine qlq (r:=(r.1,r.2.1-1,r.2.2)) hl r.2.2 fun x hx=>?_
 have hx':x<(sizeP r.1 W H).1:=by rw [←hra.w];exact hx
 have hy':r.2.1-1<(sizeP r.1 W H).2:=by have:=hra.y;omega
 exact (qj1 hx' hy').1
section
variable {w:World}
theorem q0v {s:Slc} {P:List UInt8} {W H:Nat} {lace:Bool} {kind:Int} (hP:Rd qab w s P) (hl:P.length=4*W*H) (hW1:1≤W) (hW2:W≤1000) (hH1:1≤H) (hH2:H≤1000) {K:Slc→World→Prop}
  (hK:∀t w',Go.Vc.Own qab w' w.heap.size t (qci W H P lace kind)→Below w.heap.size w w'→K t w'):qli ⟨W,H,s⟩ lace kind w K:=by
 refine q3u _ _ _ ?_
 unfold qng
 refine nwb fun w1 h1 hB1 hs1=>nwb fun w2 h2 hB2 hs2=>?_
 have hB12:=bT hB1 hB2
 have hm:=h1.ext hB2
 refine lI (x:=(W:Int)) (hm.cells 0 _ rfl) (lI (x:=(H:Int)) (hm.cells 1 _ rfl) ?_)
 refine nwb fun w3 h3 hB3 hs3=>qa2 h3 rfl fun w4 h4 hc4 hs4=>?_
 have hB24:Below w2.heap.size w2 w4:=b1o hB3 hc4 (Nat.le_refl _)
 have hB4:=bT hB12 hB24
 have hm4:=hm.ext hB24
 have hk4:=h2.ext hB24
 have hho:=qix (W:=W) (H:=H) lace hW1 (by omega) hH1 (by omega)
 refine jpO fun J1 hJ1=>?_
 have main1:∀w5,Blk w5 w2.heap.size qaw (T_png_Head.rep.cells (qbk W H lace))→Blk w5 w.heap.size qat (T_api_Matrix.rep.cells ⟨W,H,s⟩)→Blk w5 w1.heap.size qbf [.int .i64 kind]→Below w.heap.size w w5→J1 () w5:=by
  intro w5 hh5 hm5 hk5 hB5
  refine hJ1 _ _ (jpO fun J2 hJ2=>?_)
  have main2:∀w6,Blk w6 w2.heap.size qaw (T_png_Head.rep.cells (qbk W H lace))→Blk w6 w.heap.size qat (T_api_Matrix.rep.cells ⟨W,H,s⟩)→Blk w6 w1.heap.size qbf [.int .i64 ((qc1 kind:Nat):Int)]→Below w.heap.size w w6→J2 () w6:=by
   intro w6 hh6 hm6 hk6 hB6
   refine hJ2 _ _ ?_
   refine nwb fun w7 h7 hB7 hs7=>nwb fun w8 h8 hB8 hs8=>?_
   have hB68:=bT hB7 hB8
   have hB08:=bT hB6 hB68
   refine qas (r:=T_png_Head.rep) (x:=qbk W H lace) (hh6.ext hB68).cells ?_
   have hs6:=hB6.size
   have h26:=hh6.lt
   have hkd:qc1 kind≤4:=by unfold qc1;split<;>omega
   have hI0:EnI w W H s (qc1 kind) w7.heap.size w6.heap.size w.heap.size w1.heap.size ([],[]) w8 :=
    ⟨hm6.ext hB68,hk6.ext hB68,⟨⟨none,0,0⟩,⟨none,0,0⟩,h8,Own.nil _ _ _,h7.ext hB8,Own.nil _ _ _,fun k hk=>by cases hk⟩,hB08⟩
   refine qwj hho (fun L w9=>EnI w W H s (qc1 kind) w7.heap.size w6.heap.size w.heap.size w1.heap.size (L.foldl (qg3 W P (qc1 kind)) ([],[])) w9∧Blk w9 w2.heap.size qaw (T_png_Head.rep.cells (qbk W H lace))) (fun _=>False) ⟨hI0,hh6.ext hB68⟩ ?_ ?_ ?_ (fun _ h=>h.elim)
   ·rintro L wa wb ⟨⟨a1,a2,⟨sa,sl,a3,a4,a5,a6,a7⟩,a8⟩,b⟩ hB
    exact ⟨⟨a1.ext hB,a2.ext hB,⟨sa,sl,a3.ext hB,a4.ext hB,a5.ext hB,a6.ext hB,a7⟩,bT a8 hB⟩,b.ext hB⟩
   ·rintro L r R wa hL ⟨a,b⟩ hsa J hj1 hj0
    refine qg5 (by kernel_rfl) ?_
    have hlen:=qy0 W P (qc1 kind) L ([],[]) (fun q hq=>q6j hho q (by rw [hL];exact List.mem_append.2 (.inl hq)))
    have hLl:L.length≤7*H:=by have:=qtj hho;rw [hL,List.length_append] at this;omega
    have hlw:L.length*(1+4*W)≤7000*4001:=Nat.mul_le_mul (by omega) (by omega)
    have hcall:qmn (passT r.1) (r.2.1:Int) (r.2.2:Int) ⟨w7.heap.size,0,none⟩ ⟨w.heap.size,0,none⟩ ⟨w1.heap.size,0,none⟩ ⟨w6.heap.size,0,none⟩ wa J:=by
     refine za9 hho hP hl hkd (by omega) (by omega) (by omega) hL (zhk hho hl (qc1 kind) hL) (by simp only [List.length_nil] at hlen;omega) a fun wb row hI hrow hch=>?_
     obtain ⟨sa,sl,q1,_,q2,_⟩:=a.ex
     refine hj1 wb ⟨?_,?_⟩ ?_ hch.size
     ·rw [List.foldl_append];exact hI
     ·refine b.chg hch fun e=>?_
      rcases e with e | e | e
      ·omega
      ·omega
      ·rcases hrow with h | ⟨k,cs,h,hk⟩
       ·rw [h] at e;cases e
       ·rw [h] at e
        cases e
        exact b.ne_t hk (by decide) rfl
     ·refine q1x hch fun k hk=>?_
      rcases hk with rfl | rfl | hk
      ·exact ⟨_,_,q1,by decide,by decide⟩
      ·exact ⟨_,_,q2,by decide,by decide⟩
      ·rcases hrow with h | ⟨k',cs,h,hk'⟩
       ·rw [h] at hk;cases hk
       ·rw [h] at hk
        cases hk
        exact ⟨_,_,hk',by decide,by decide⟩
    refine Calls.mono hcall ?_
    rintro e w' ⟨r,rfl,hk⟩
    exact ⟨r,rfl,hk⟩
   ·rintro w9 ⟨⟨a1,a2,⟨sa,sl,a3,a4,a5,a6,a7⟩,a8⟩,b⟩
    have hall:((rowsL (qbk W H lace)).foldl (qg3 W P (qc1 kind)) ([],[])).1=qb8 W H P lace kind:=rfl
    rw [hall] at a6
    have hlen:=qy0 W P (qc1 kind) (rowsL (qbk W H lace)) ([],[]) (q6j hho)
    rw [hall] at hlen
    have hLl:=qtj hho
    have hlw:(rowsL (qbk W H lace)).length*(1+4*W)≤7000*4001:=Nat.mul_le_mul (by omega) (by omega)
    have hal:(qb8 W H P lace kind).length≤28007000:=by simp only [List.length_nil] at hlen;omega
    have hBd:=bdw w9
    obtain ⟨lb,hlb⟩:∃lb:UInt8,lb=if lace then 1 else 0:=⟨_,rfl⟩
    have hlace:(qbk W H lace).Lace=((lb.toNat:Nat):Int):=by rw [hlb];cases lace<;>rfl
    obtain ⟨lv,hlv⟩:∃lv:Int,lv=((lb.toNat:Nat):Int):=⟨_,rfl⟩
    have cm0:∀{w'},Below w9.heap.size w9 w'→w'.cell? ((⟨w.heap.size,0,none⟩:Addr).add 0)=some (.int .i64 (W:Int)):=fun hB=>(a1.ext hB).cells 0 _ rfl
    have cm1:∀{w'},Below w9.heap.size w9 w'→w'.cell? ((⟨w.heap.size,0,none⟩:Addr).add 1)=some (.int .i64 (H:Int)):=fun hB=>(a1.ext hB).cells 1 _ rfl
    have ch4:∀{w'},Below w9.heap.size w9 w'→w'.cell? ((⟨w2.heap.size,0,none⟩:Addr).add 4)=some (.int .i64 lv):=fun hB=>by
     have:=(b.ext hB).cells 4 _ rfl
     rw [hlace] at this
     rw [hlv]
     exact this
    refine lI (cm0 hBd) (lI (cm1 hBd) (lI (ch4 hBd) ?_))
    have uW:IntKind.u32.wrap (W:Int)=(W:Int):=qad .u32 (show W<2^32 by omega)
    have uH:IntKind.u32.wrap (H:Int)=(H:Int):=qad .u32 (show H<2^32 by omega)
    rw [uW,uH]
    have hlb1:lb.toNat≤1:=by rw [hlb];cases lace<;>decide
    have uL:IntKind.u8.wrap lv=lv:=by rw [hlv];exact qad .u8 (show lb.toNat<2^8 by omega)
    rw [uL]
    have hl5:∀{w':World} {t5:Nat},Blk w' t5 qag [(.int .u8 8),(.int .u8 6),(.int .u8 0),(.int .u8 0),(.int .u8 lv)]→Rd qab w' ⟨some ⟨t5,0,none⟩,5,5⟩ [8,6,0,0,lb]:=fun h=>by
     rw [hlv] at h
     exact qda (E:=qab) (ys:=[8,6,0,0,lb]) h (by simp [maxLen]) rfl
    have tail:∀(q30 q34 q38:Addr) w12,Rd qab w12 ⟨some q30,4,4⟩ (be4 W)→Rd qab w12 ⟨some q34,4,4⟩ (be4 H)→Rd qab w12 ⟨some q38,5,5⟩ [8,6,0,0,lb]→Below w9.heap.size w9 w12 →
      nw qaa [(.slice (⟨some q30,4,4⟩:Slc).a (⟨some q30,4,4⟩:Slc).n (⟨some q30,4,4⟩:Slc).c),(.slice (⟨some q34,4,4⟩:Slc).a (⟨some q34,4,4⟩:Slc).n (⟨some q34,4,4⟩:Slc).c),(.slice (some q38) 5 5)] w12 fun t39 w13 =>
      qan (⟨(some t39),3,3⟩:Slc) w13 fun t40 w14 =>
      ldSl (⟨w6.heap.size,0,none⟩:Addr) w14 fun t43 =>
      qhb t43 false w14 fun t44 w15 =>
      nw qa5 [(.string (⟨#[73,72,68,82]⟩:ByteArray)),(.slice t40.a t40.n t40.c),(.string (⟨#[73,68,65,84]⟩:ByteArray)),(.slice t44.a t44.n t44.c),(.string (⟨#[73,69,78,68]⟩:ByteArray)),(.slice none 0 0)] w15 fun t47 w16 =>
      qig (⟨(some t47),3,3⟩:Slc) w16 fun t48 w17=>K t48 w17:=by
     intro q30 q34 q38 w12 h30 h34 h38 hB12'
     refine zbk (a:=⟨some q30,4,4⟩) (b:=⟨some q34,4,4⟩) (c:=⟨some q38,5,5⟩) h30 h34 h38 (by rw [qb5,qb5];simp only [List.length_cons,List.length_nil];omega) fun t40 w14 h40 hB14=>?_
     have hB914:=bT hB12' hB14
     refine lSl (x:=sl) (qau (a5.ext hB914)) ?_
     refine zik (a6.ext hB914).rd (by omega) fun t44 body w15 h44 hb0 _ hB15=>?_
     have hb0:=hb0 rfl
     subst hb0
     have hble:=(zfa (fixed:=false) (body:=qax (qb8 W H P lace kind)) (bs:=qb8 W H P lace kind) ⟨fun _=>rfl,fun h=>by cases h⟩).1
     refine nwb fun w16 h16 hB16 hs16=>?_
     have hB1416:=bT hB15 hB16
     have hrd:Rd qb1 w16 ⟨some ⟨w15.heap.size,0,none⟩,3,3⟩ [⟨strB ihdrL,t40⟩,⟨strB idatL,t44⟩,⟨strB iendL,⟨none,0,0⟩⟩]:=qda (E:=qb1) (ys:=[⟨strB ihdrL,t40⟩,⟨strB idatL,t44⟩,⟨strB iendL,⟨none,0,0⟩⟩]) h16 (by simp [maxLen]) rfl
     have hC:ChsA w16 [⟨strB ihdrL,t40⟩,⟨strB idatL,t44⟩,⟨strB iendL,⟨none,0,0⟩⟩] (encCh W H P lace kind):=by
      refine ⟨rfl,fun i x c hx hc=>?_⟩
      match i,hx,hc with
      | 0,hx,hc=>cases hx;cases hc;exact ⟨rfl,by have:=(h40.ext hB1416).rd;rw [hlb] at this;exact this⟩
      | 1,hx,hc=>cases hx;cases hc;exact ⟨rfl,(h44.ext hB16).rd⟩
      | 2,hx,hc=>cases hx;cases hc;exact ⟨rfl,Rd.nil _ _⟩
      | i+3,hx,hc=>simp at hx
     have hds:dsum (encCh W H P lace kind)≤1000000000:=by
      have hp:(packL (qax (qb8 W H P lace kind)) (qb8 W H P lace kind)).length=6+(qax (qb8 W H P lace kind)).length:=by
       unfold packL
       simp only [List.length_append,qb5,List.length_cons,List.length_nil]
       omega
      unfold dsum encCh
      simp only [List.map_cons,List.map_nil,List.sum_cons,List.sum_nil,List.length_append,qb5,List.length_cons,List.length_nil,hp]
      omega
     refine zb1 hrd hC (by unfold encCh;simp only [List.length_cons,List.length_nil];omega) hds fun t48 w17 h48 hB17=>?_
     have hB916:=bT hB914 hB1416
     exact hK t48 w17 (h48.base (by have:=hB916.size;have:=a8.size;omega)) (bT (bT a8 hB916) hB17)
    refine ⟨?_,?_⟩
    ·refine qj9 (by omega) fun t30 w10 h30 hB10=>?_
     have hB910:=bT hBd hB10
     refine ⟨ch4 hB910,cm1 hB910,?_,?_⟩
     ·refine qj9 (by omega) fun t34 w11 h34 hB11=>?_
      have hB911:=bT hB910 hB11
      refine ⟨ch4 hB911,nwb fun w12 h12 hB12' hs12=>?_⟩
      have hB912:=bT hB911 hB12'
      refine ⟨cm1 hB912,cm0 hB912,?_⟩
      exact tail t30 t34 _ w12 ((h30.ext hB11).ext hB12') (h34.ext hB12') (hl5 h12) hB912
     ·refine nwb fun w12 h12 hB12' hs12=>?_
      have hB912:=bT hB910 hB12'
      refine ⟨cm1 hB912,cm0 hB912,qj9 (by omega) fun t34 w11 h34 hB11=>?_⟩
      have hB911:=bT hB912 hB11
      exact ⟨ch4 hB911,tail t30 t34 _ w11 ((h30.ext hB12').ext hB11) h34 (hl5 (h12.ext hB11)) hB911⟩
    ·refine nwb fun w12 h12 hB12' hs12=>?_
     have hB912:=bT hBd hB12'
     refine ⟨cm1 hB912,cm0 hB912,qj9 (by omega) fun t30 w10 h30 hB10=>?_⟩
     have hB910:=bT hB912 hB10
     refine ⟨ch4 hB910,cm1 hB910,qj9 (by omega) fun t34 w11 h34 hB11=>?_⟩
     have hB911:=bT hB910 hB11
     exact ⟨ch4 hB911,tail t30 t34 _ w11 (h30.ext hB11) h34 (hl5 ((h12.ext hB10).ext hB11)) hB911⟩
  refine lI (x:=kind) (qau hk5) ?_
  have hset:qc1 kind=0→stK ⟨w1.heap.size,0,none⟩ [(.int .i64 0)] w5 fun w33=>J2 () w33:=by
   intro h0
   refine qa2 hk5 rfl fun w6 h6 hc6 hs6=>?_
   rw [h0] at main2
   exact main2 w6 (hh5.chg hc6 (by omega)) (hm5.chg hc6 (by omega)) h6 (b1o hB5 hc6 (by omega))
  refine cO (fun e=>?_) fun e1=>?_
  ·have e:=of_decide_eq_true e
   exact hset (by unfold qc1;rw [if_pos (.inl e)])
  have e1:=of_decide_eq_false e1
  refine lI (x:=kind) (qau hk5) (cO (fun e=>?_) fun e2=>?_)
  ·have e:=of_decide_eq_true e
   exact hset (by unfold qc1;rw [if_pos (.inr e)])
  have e2:=of_decide_eq_false e2
  have hkk:((qc1 kind:Nat):Int)=kind:=by unfold qc1;rw [if_neg (by omega)];omega
  rw [hkk] at main2
  exact main2 w5 hh5 hm5 hk5 hB5
 cases lace with
 | true =>
  refine cT rfl ?_
  rw [qah]
  refine qae h4 (by simp) fun w5 hb5 hg5 hs5=>?_
  have hc5:Chg (fun k=>k=w2.heap.size) w4 w5:=Chg.gg hg5
  exact main1 w5 hb5 (hm4.chg hc5 (by omega)) (hk4.chg hc5 (by omega)) (b1o hB4 hc5 (by omega))
 | false=>exact cF rfl (main1 w4 h4 hm4 hk4 hB4)
end
end Go.Proofs.YtmagnpcgpinmcaaGreat
set_option linter.unusedVariables false
namespace Go.Proofs.YtmagnpcgpinmcaaGreat
open Go.Vc
set_option maxRecDepth 400000
theorem zee {bs:List UInt8} {most:Nat} (hm:bs.length≤most):unErr most (packL (qax bs) bs)=0∧unOut most (packL (qax bs) bs)=bs∧qk6 most (packL (qax bs) bs)=(packL (qax bs) bs).length:=by
 have hbd:za5 false (qax bs) bs:=⟨fun _=>rfl,fun h=>by cases h⟩
 obtain ⟨c',p',hch,h5,hh,hp⟩:=zj6 (tail:=be4 (adlN bs)++[]) (most:=most) hbd hm
 have hpk:packL (qax bs) bs=[120,1]++qax bs++be4 (adlN bs)++[]:=by unfold packL;rw [List.append_nil]
 obtain ⟨u1,u2,u3⟩:=qtn most (packL (qax bs) bs)
 have hd:(packL (qax bs) bs).drop 2=qax bs++(be4 (adlN bs)++[]):=by rw [hpk,q02]
 rw [hd] at u1 u2
 have hs5:=qis (most:=most) (B:=qax bs++(be4 (adlN bs)++[])) (a:=p') h5
 obtain ⟨e1,e2⟩:=Ch.same u1 hch (fun c' a' e=>by rw [u2] at e;exact u3 _ _ e) (fun c' a' e=>by rw [hs5] at e;cases e)
 have e3:(unRun most (packL (qax bs) bs)).2.2=.short:=by rw [←u2,e1,e2,hs5]
 have ez:=zk3 (more:=[]) (s:=be4 (adlN bs)) h5 hp rfl hh
 rw [if_pos (qg8 (q5l bs)),←hpk] at ez
 refine ⟨?_,?_,?_⟩
 ·unfold unErr
  rw [e1,e2,e3]
  exact ez
 ·unfold unOut
  rw [e1,hh]
 ·unfold qk6
  rw [e2,hp,hpk]
  simp only [List.length_append,qb5,List.length_cons,List.length_nil]
  omega
structure ChGood (c:ChL):Prop where
 k:c.kind.length=4
 l:c.kind.all qbp=true
 d:c.data.length<2^31
theorem q24 {c:ChL} (h:ChGood c):kind4 c.kind=c.kind:=by
 unfold kind4
 rw [h.k,List.take_of_length_le (by rw [h.k];exact Nat.le_refl _)]
 simp
theorem qow {c:ChL} (h:ChGood c) (rest:List UInt8):qbq (layC c++rest)=.ok c (12+c.data.length)∧(layC c++rest).drop (12+c.data.length)=rest:=by
 have hk:=h.k
 have hd:=h.d
 have hl:(layC c++rest).length=12+c.data.length+rest.length:=by rw [List.length_append,q1g]
 have e0:layC c++rest=be4 c.data.length++(c.kind++(c.data++(be4 (crcN (c.kind++c.data))++rest))):=by
  unfold layC
  rw [q24 h]
  simp [List.append_assoc]
 have e4:(layC c++rest).take 4=be4 c.data.length:=by rw [e0];exact List.take_left' (qb5 _)
 have d4:(layC c++rest).drop 4=c.kind++(c.data++(be4 (crcN (c.kind++c.data))++rest)):=by rw [e0];exact List.drop_left' (qb5 _)
 have d8:(layC c++rest).drop 8=c.data++(be4 (crcN (c.kind++c.data))++rest):=by
  rw [show (8:Nat)=4+4 from rfl,←List.drop_drop,d4]
  exact List.drop_left' hk
 have dn:(layC c++rest).drop (8+c.data.length)=be4 (crcN (c.kind++c.data))++rest:=by
  rw [←List.drop_drop,d8]
  exact List.drop_left' rfl
 have hn:bigN ((layC c++rest).take 4)=c.data.length:=by rw [e4,qg8 (by omega)]
 have t8:((layC c++rest).take 8).drop 4=c.kind:=by
  rw [List.drop_take,d4]
  exact List.take_left' hk
 have tn4:((layC c++rest).take (8+c.data.length)).drop 4=c.kind++c.data:=by
  rw [List.drop_take,d4,←List.append_assoc]
  exact List.take_left' (by rw [List.length_append];omega)
 have tn8:((layC c++rest).take (8+c.data.length)).drop 8=c.data:=by
  rw [List.drop_take,d8]
  exact List.take_left' (by omega)
 refine ⟨?_,?_⟩
 ·unfold qbq
  rw [hn,t8,tn4,tn8,dn,if_neg (by omega),if_neg (by omega),if_neg (by omega),if_neg (by rw [h.l];simp),if_neg (by omega),if_neg]
  intro hne
  refine hne ?_
  have:(be4 (crcN (c.kind++c.data))++rest).take 4=be4 (crcN (c.kind++c.data)):=List.take_left' (qb5 _)
  rw [this,qg8 (qs5 _)]
 ·rw [show 12+c.data.length=8+c.data.length+4 by omega,←List.drop_drop,dn]
  exact List.drop_left' (qb5 _)
theorem q07 (rest:List UInt8):∀(L:List ChL) (e:ChL) (f:Nat),(∀c∈L,ChGood c∧c.kind≠iendL)→ChGood e→e.kind=iendL→L.length<f→qay false f (L.flatMap layC++(layC e++rest))=(0,L++[e])
 | [],e,f+1,_,he,hk,_=>by
  rw [List.flatMap_nil,List.nil_append,qay,(qow he rest).1]
  simp [hk]
 | c::L,e,f+1,hL,he,hk,hf=>by
  obtain ⟨hc,hck⟩:=hL c List.mem_cons_self
  rw [List.flatMap_cons,List.append_assoc,qay,(qow hc _).1]
  have ih:=q07 rest L e f (fun d hd=>hL d (List.mem_cons_of_mem _ hd)) he hk (by rw [List.length_cons] at hf;omega)
  dsimp only
  rw [(qow hc _).2,ih]
  simp [hck]
theorem qwo (b:List UInt8):signP (signL++b)=0∧(signL++b).drop 8=b:=by
 refine ⟨?_,List.drop_left' rfl⟩
 unfold signP
 have h1:(signL++b).take 8=signL:=List.take_left' rfl
 have hl:(signL++b).length=8+b.length:=by rw [List.length_append];rfl
 rw [h1,hl,List.take_of_length_le (show signL.length≤8+b.length by show 8≤_;omega),if_neg (by simp),if_neg (by omega)]
theorem zdz (L:List ChL) (e:ChL) (rest:List UInt8) (hL:∀c∈L,ChGood c∧c.kind≠iendL) (he:ChGood e) (hk:e.kind=iendL):qaz false (signL++(L.flatMap layC++(layC e++rest)))=(0,L++[e]):=by
 obtain ⟨h1,h2⟩:=qwo (L.flatMap layC++(layC e++rest))
 have hlen:L.length<(signL++(L.flatMap layC++(layC e++rest))).length:=by
  have:L.length≤(L.flatMap layC).length:=by
   clear h1 h2 hL
   induction L with
   | nil=>simp
   | cons c L ih=>rw [List.flatMap_cons,List.length_append,q1g,List.length_cons];omega
  simp only [List.length_append]
  show _<8+_
  omega
 have hc:=q07 rest L e _ hL he hk hlen
 unfold qaz
 rw [h1,h2,if_neg (by decide),hc,if_neg (by simp)]
theorem zc0 (c:ChL) (rest:List UInt8) (hc:ChGood c):qaz true (signL++(layC c++rest))=(0,[c]):=by
 obtain ⟨h1,h2⟩:=qwo (layC c++rest)
 have hl:(signL++(layC c++rest)).length=((layC c++rest).length+7)+1:=by rw [List.length_append];show 8+_=_;omega
 have hf:qay true (((layC c++rest).length+7)+1) (layC c++rest)=(0,[c]):=by
  rw [qay,(qow hc _).1]
  rfl
 unfold qaz
 rw [h1,h2,hl,hf,if_neg (by decide),if_neg (by simp)]
def headD (W H:Nat) (lace:Bool):List UInt8:=be4 W++be4 H++[8,6,0,0,if lace then 1 else 0]
theorem q7w {W H:Nat} (lace:Bool) (h1:1≤W) (h2:W≤16384) (h3:1≤H) (h4:H≤16384):headP ⟨ihdrL,headD W H lace⟩=(0,qbk W H lace):=by
 have hof:qce (headD W H lace)=qbk W H lace:=by
  have e1:(headD W H lace).take 4=be4 W:=by unfold headD;rw [List.append_assoc];exact List.take_left' (qb5 _)
  have e2:((headD W H lace).drop 4).take 4=be4 H:=by
   unfold headD
   rw [List.append_assoc,List.drop_left' (qb5 _)]
   exact List.take_left' (qb5 _)
  unfold qce
  rw [e1,e2,qg8 (by omega),qg8 (by omega)]
  unfold qbk
  have g8:(headD W H lace)[8]?=some 8:=rfl
  have g9:(headD W H lace)[9]?=some 6:=rfl
  have g12:(headD W H lace)[12]?=some (if lace then 1 else 0):=rfl
  rw [g8,g9,g12]
  cases lace<;>rfl
 have hck:qdd (qbk W H lace)=0:=by
  unfold qdd qbk
  dsimp only
  rw [if_neg (by omega)]
  have hd:qd4 (⟨W,H,8,6,if lace then 1 else 0⟩:T_png_Head)=true:=by unfold qd4;simp
  rw [hd]
  rw [if_neg]
  cases lace<;>decide
 unfold headP
 rw [hof,hck]
 rw [if_neg,if_neg (by decide)]
 intro h
 rcases h with h | h | h | h
 ·exact h rfl
 ·exact h rfl
 ·exact h rfl
 ·exact h rfl
theorem qwv (W H:Nat) (lace:Bool):ChGood ⟨ihdrL,headD W H lace⟩:=⟨rfl,(by decide:ihdrL.all qbp=true),by show (13:Nat)<2^31;decide⟩
theorem zh9:ChGood ⟨iendL,[]⟩:=⟨rfl,by decide,by decide⟩
theorem zif {d:List UInt8} (h:d.length<2^31):ChGood ⟨idatL,d⟩:=⟨rfl,(by decide:idatL.all qbp=true),h⟩
def qee (W:Nat) (P:List UInt8) (kd:Nat):List UInt8→List (PassP×Nat×Nat)→List UInt8
 | _,[]=>[]
 | ah,r::L=>(UInt8.ofNat kd::doP kd (qbo W P r r.2.2) (qbn r.2.1 ah) 4)++qee W P kd (qbo W P r r.2.2) L
theorem q14 (W:Nat) (P:List UInt8) (kd:Nat):∀(L:List (PassP×Nat×Nat)) (acc ah:List UInt8),(L.foldl (qg3 W P kd) (acc,ah)).1=acc++qee W P kd ah L
 | [],acc,ah=>by simp [qee]
 | r::L,acc,ah=>by
  rw [List.foldl_cons]
  show (L.foldl (qg3 W P kd) (acc++[UInt8.ofNat kd]++doP kd (qbo W P r r.2.2) (qbn r.2.1 ah) 4,qbo W P r r.2.2)).1=_
  rw [q14 W P kd L,qee]
  simp [List.append_assoc]
def putK (P:List UInt8) (ks:List Nat) (m:List UInt8):List UInt8:=ks.foldl (fun m k=>set4 m k ((P.drop k).take 4)) m
def rowKs (W:Nat) (r:PassP×Nat×Nat) (n:Nat):List Nat:=(List.range n).map fun x=>pixAt W r.1 r.2.1 x
theorem q4f (W:Nat) (P:List UInt8) (r:PassP×Nat×Nat) {W' H:Nat} (hl:P.length=4*W'*H):∀n,(∀x,x<n→pixAt W r.1 r.2.1 x+4≤P.length)→∀x,x<n→((qbo W P r n).drop (4*x)).take 4=(P.drop (pixAt W r.1 r.2.1 x)).take 4
 | 0,_,x,hx=>by omega
 | n+1,hn,x,hx=>by
  have hlen:(qbo W P r n).length=4*n:=by
   clear hx
   have:∀k,k≤n→(qbo W P r k).length=4*k:=by
    intro k
    induction k with
    | zero=>intro _;simp [qbo]
    | succ k ih =>
     intro hk
     have:=hn k (by omega)
     rw [qr5,List.length_append,ih (by omega),List.length_take,List.length_drop]
     omega
   exact this n (Nat.le_refl _)
  rw [qr5]
  rcases Nat.lt_or_ge x n with h | h
  ·rw [List.drop_append_of_le_length (by omega),List.take_append_of_le_length (by rw [List.length_drop];omega)]
   exact q4f W P r hl n (fun y hy=>hn y (by omega)) x h
  ·obtain rfl:x=n:=by omega
   rw [List.drop_left' hlen,List.take_of_length_le (by rw [List.length_take];omega)]
theorem zli {row:List UInt8} {i:Nat} {x:UInt8} (h:row[i]?=some x):qea row 8 i=x.toNat:=by
 unfold qea
 rw [if_neg (by decide),Nat.mul_div_cancel i (by decide),h,Nat.mul_mod_left]
 show x.toNat/2^0%2^8=_
 have:=x.toNat_lt
 rw [Nat.pow_zero,Nat.div_one]
 omega
theorem zj1 {row:List UInt8}:qb2 row 8 row.length=row.map (·.toNat):=by
 refine List.ext_getElem? fun i=>?_
 unfold qb2
 rw [List.getElem?_map,List.getElem?_map]
 rcases Nat.lt_or_ge i row.length with h | h
 ·rw [List.getElem?_range h,List.getElem?_eq_getElem h]
  exact congrArg some (zli (List.getElem?_eq_getElem h))
 ·rw [List.getElem?_eq_none (by simpa using h),List.getElem?_eq_none h]
  rfl
structure FEnc (F:FilL) (W H:Nat) (lace:Bool):Prop where
 h:F.h=qbk W H lace
 t:F.hasT=false
theorem zi8 {F:FilL} {W H:Nat} {lace:Bool} (hF:FEnc F W H lace) (a b c d:UInt8):qcj F [a.toNat,b.toNat,c.toNat,d.toNat]=some [a,b,c,d]:=by
 have hc:F.h.Color=6:=by rw [hF.h];rfl
 have hd:F.h.Depth=8:=by rw [hF.h];rfl
 have he:∀v:UInt8,qbx F.h.Depth v.toNat=v:=fun v=>by
  unfold qbx
  rw [hd,if_pos rfl]
  exact UInt8.toNat_inj.1 (by rw [UInt8.toNat_ofNat'];have:=v.toNat_lt;omega)
 unfold qcj
 dsimp only
 rw [hF.t,Bool.false_and,if_neg (by rw [hc];decide),if_neg (by rw [hc];decide),if_neg (by decide),if_pos (Or.inr hc)]
 show some [qbx F.h.Depth a.toNat,qbx F.h.Depth b.toNat,qbx F.h.Depth c.toNat,qbx F.h.Depth d.toNat]=_
 rw [he,he,he,he]
theorem q4e {F:FilL} {W H:Nat} {lace:Bool} (hF:FEnc F W H lace) {P:List UInt8} (hl:P.length=4*W*H) (r:PassP×Nat×Nat) {n:Nat} (hn:∀x,x<n→pixAt W r.1 r.2.1 x+4≤P.length):∀(k:Nat) (m:List UInt8),k≤n →
  qd8 F r.1 r.2.1 ((qbo W P r n).map (·.toNat)) k m=some (putK P (rowKs W r k) m)
 | 0,m,_=>rfl
 | k+1,m,hk=>by
  have hsm:qac F.h.Color=4:=by rw [hF.h];rfl
  have hW:F.h.W.toNat=W:=by rw [hF.h];rfl
  rw [qd8,q4e hF hl r hn k m (by omega)]
  dsimp only
  rw [hsm,hW]
  obtain ⟨a,b,c,d,ht,_⟩:=za7 (hn k (by omega))
  have hs4:(((qbo W P r n).map (·.toNat)).drop (4*k)).take 4=[a.toNat,b.toNat,c.toNat,d.toNat]:=by
   rw [←List.map_drop,←List.map_take,q4f W P r hl n hn k (by omega),ht]
   rfl
  rw [hs4,zi8 hF]
  show some (set4 _ _ [a,b,c,d])=_
  unfold putK rowKs
  rw [List.range_succ,List.map_append,List.foldl_append,←ht]
  rfl
def allKs (W:Nat) (L:List (PassP×Nat×Nat)):List Nat:=L.flatMap fun r=>rowKs W r r.2.2
theorem za8 {F:FilL} {W H:Nat} {lace:Bool} (hF:FEnc F W H lace) (hW:W≤16384) {P:List UInt8} (hl:P.length=4*W*H) {kd:Nat} (hk:kd≤4) (rest:List UInt8):∀(L:List (PassP×Nat×Nat)) (ah m:List UInt8),(∀r∈L,1≤r.2.2∧r.2.2≤W∧∀x,x<r.2.2→pixAt W r.1 r.2.1 x+4≤P.length) →
  ∃ah',qbw F L ⟨qee W P kd ah L++rest,ah,m⟩=some ⟨rest,ah',putK P (allKs W L) m⟩
 | [],ah,m,_=>⟨ah,rfl⟩
 | r::L,ah,m,h=>by
  obtain ⟨hr1,hr2,hr3⟩:=h r List.mem_cons_self
  have hsm:qac F.h.Color=4:=by rw [hF.h];rfl
  have hdep:F.h.Depth=8:=by rw [hF.h];rfl
  have hrow:rowB F.h r.2.2=4*r.2.2:=by
   unfold rowB rowP
   rw [hsm,hdep,if_neg (by
                have:qbv 8=true:=by decide
                rw [this];simp;omega)]
   have e:((r.2.2:Int)*((4:Nat):Int)*8+7)/8=4*(r.2.2:Int):=by omega
   rw [e]
   omega
  have hstep:qdc F.h=4:=by unfold qdc;rw [hsm,hdep];rfl
  have hpl:(qbo W P r r.2.2).length=4*r.2.2:=by
   rw [hl] at hr3
   exact qlq hl r.2.2 hr3
  have hdo:(doP kd (qbo W P r r.2.2) (qbn r.2.1 ah) 4).length=4*r.2.2:=by rw [qgr,hpl]
  have hone:qdf F r ⟨qee W P kd ah (r::L)++rest,ah,m⟩=some ⟨qee W P kd (qbo W P r r.2.2) L++rest,qbo W P r r.2.2,putK P (rowKs W r r.2.2) m⟩:=by
   have hkd:(UInt8.ofNat kd).toNat=kd:=by rw [UInt8.toNat_ofNat'];omega
   have hE:qee W P kd ah (r::L)=(UInt8.ofNat kd::doP kd (qbo W P r r.2.2) (qbn r.2.1 ah) 4)++qee W P kd (qbo W P r r.2.2) L:=rfl
   unfold qdf
   rw [hE,List.cons_append,List.cons_append]
   dsimp only
   rw [hkd,if_neg (by omega),hrow,hstep,List.append_assoc,List.take_left' hdo,List.drop_left' hdo,zlt kd _ _ 4 (by decide)]
   have hsam:qb2 (qbo W P r r.2.2) F.h.Depth.toNat (qac F.h.Color*r.2.2)=(qbo W P r r.2.2).map (·.toNat):=by
    rw [hsm,hdep,←hpl]
    exact zj1
   rw [hsam,q4e hF hl r hr3 r.2.2 m (Nat.le_refl _)]
   rfl
  obtain ⟨ah',ih⟩:=za8 hF hW hl hk rest L (qbo W P r r.2.2) (putK P (rowKs W r r.2.2) m) fun q hq=>h q (List.mem_cons_of_mem _ hq)
  refine ⟨ah',?_⟩
  rw [qbw,hone]
  dsimp only
  rw [ih]
  unfold putK allKs
  rw [List.flatMap_cons,List.foldl_append]
theorem q9j (P:List UInt8):∀(ks:List Nat) (m:List UInt8),m.length=P.length→(∀k∈ks,k+4≤P.length)→(putK P ks m).length=P.length∧∀j,(putK P ks m)[j]?=if ∃k∈ks,k≤j∧j<k+4 then P[j]? else m[j]?
 | [],m,hm,_=>⟨hm,fun j=>by rw [if_neg (by simp)];rfl⟩
 | k::ks,m,hm,h=>by
  have hk:=h k List.mem_cons_self
  have hs:(set4 m k ((P.drop k).take 4)).length=P.length:=by
   unfold set4
   simp only [List.length_append,List.length_take,List.length_drop]
   omega
  obtain ⟨i1,i2⟩:=q9j P ks (set4 m k ((P.drop k).take 4)) hs fun q hq=>h q (List.mem_cons_of_mem _ hq)
  refine ⟨i1,fun j=>?_⟩
  show (putK P ks (set4 m k ((P.drop k).take 4)))[j]?=_
  rw [i2 j]
  by_cases h1:∃q∈ks,q≤j∧j<q+4
  ·obtain ⟨q,hq,hj⟩:=h1
   rw [if_pos ⟨q,hq,hj⟩,if_pos ⟨q,List.mem_cons_of_mem _ hq,hj⟩]
  ·rw [if_neg h1]
   have hg:(set4 m k ((P.drop k).take 4))[j]?=if k≤j∧j<k+4 then P[j]? else m[j]?:=by
    unfold set4
    have l1:(m.take k).length=k:=by rw [List.length_take];omega
    have l2:((P.drop k).take 4).length=4:=by rw [List.length_take,List.length_drop];omega
    by_cases c1:j<k
    ·rw [if_neg (by omega),List.append_assoc,List.getElem?_append_left (by omega),List.getElem?_take_of_lt c1]
    ·rw [List.append_assoc,List.getElem?_append_right (by omega),l1]
     by_cases c2:j<k+4
     ·rw [if_pos (by omega),List.getElem?_append_left (by omega),List.getElem?_take_of_lt (by omega),List.getElem?_drop]
      congr 1
      omega
     ·rw [if_neg (by omega),List.getElem?_append_right (by omega),l2,List.getElem?_drop]
      congr 1
      omega
   rw [hg]
   by_cases h2:k≤j∧j<k+4
   ·rw [if_pos h2,if_pos ⟨k,List.mem_cons_self,h2⟩]
   ·rw [if_neg h2,if_neg]
    rintro ⟨q,hq,hj⟩
    rcases List.mem_cons.1 hq with rfl | hq
    ·exact h2 hj
    ·exact h1 ⟨q,hq,hj⟩
theorem adam7:∀a:Nat,a<8→∀b:Nat,b<8→∃p∈q6l,p.x≤a∧(a-p.x)%p.dx=0∧p.y≤b∧(b-p.y)%p.dy=0∧8%p.dx=0∧8%p.dy=0:=by decide +kernel
theorem q99 {X a x dx:Nat} (ha:a=X%8) (hx:x≤a) (h:(a-x)%dx=0) (h8:8%dx=0):(X-x)%dx=0:=by
 have e:X-x=8*(X/8)+(a-x):=by omega
 rw [e,Nat.add_mod,Nat.mul_mod,h8,Nat.zero_mul,h]
 simp
theorem zk4 {W H:Nat} {h:T_png_Head} (ho:HeadOk h W H) {X Y:Nat} (hX:X<W) (hY:Y<H):∃r∈rowsL h,∃x,x<r.2.2∧pixAt W r.1 r.2.1 x=4*(Y*W+X):=by
 have key:∃p∈qcr h.Lace,p.x≤X∧p.y≤Y∧(X-p.x)%p.dx=0∧(Y-p.y)%p.dy=0:=by
  unfold qcr
  split
  ·obtain ⟨p,hp,h1,h2,h3,h4,h5,h6⟩:=adam7 (X%8) (Nat.mod_lt _ (by decide)) (Y%8) (Nat.mod_lt _ (by decide))
   exact ⟨p,hp,by omega,by omega,q99 rfl h1 h2 h5,q99 rfl h3 h4 h6⟩
  ·exact ⟨⟨0,0,1,1⟩,by simp [q5y],Nat.zero_le _,Nat.zero_le _,Nat.mod_one _,Nat.mod_one _⟩
 obtain ⟨p,hp,h1,h2,h3,h4⟩:=key
 have hd:=qkw h.Lace p hp
 have ex:(X-p.x)/p.dx*p.dx=X-p.x:=Nat.div_mul_cancel (Nat.dvd_of_mod_eq_zero h3)
 have ey:(Y-p.y)/p.dy*p.dy=Y-p.y:=Nat.div_mul_cancel (Nat.dvd_of_mod_eq_zero h4)
 have hsz:sizeP p W H=((W-p.x-1)/p.dx+1,(H-p.y-1)/p.dy+1):=by unfold sizeP;rw [if_neg (by omega)]
 have hx:(X-p.x)/p.dx<(sizeP p W H).1:=by
  rw [hsz]
  exact Nat.lt_succ_of_le (Nat.div_le_div_right (by omega))
 have hy:(Y-p.y)/p.dy<(sizeP p W H).2:=by
  rw [hsz]
  exact Nat.lt_succ_of_le (Nat.div_le_div_right (by omega))
 refine ⟨(p,(Y-p.y)/p.dy,(sizeP p W H).1),?_,(X-p.x)/p.dx,hx,?_⟩
 ·unfold rowsL
  rw [ho.wn,ho.hn]
  refine List.mem_flatMap.2 ⟨p,hp,?_⟩
  unfold qak
  exact List.mem_map.2 ⟨_,List.mem_range.2 hy,rfl⟩
 ·unfold pixAt
  rw [ex,ey,show p.y+(Y-p.y)=Y by omega,Nat.add_assoc,show p.x+(X-p.x)=X by omega]
theorem q20 {h:T_png_Head} {W H:Nat} (ho:HeadOk h W H):∀r∈rowsL h,1≤r.2.2∧r.2.2≤W∧∀x,x<r.2.2→pixAt W r.1 r.2.1 x+4≤4*W*H:=by
 intro r hr
 obtain ⟨L,R,e⟩:=List.append_of_mem hr
 have ha:=qha ho e
 refine ⟨by rw [ha.w];exact qxc ha.y,by rw [ha.w];exact (qd5 _ _ _).1,fun x hx=>(qj1 (by rw [ha.w] at hx;exact hx) ha.y).1⟩
theorem zg6 {F:FilL} {W H:Nat} {lace:Bool} (hF:FEnc F W H lace) (h1:1≤W) (h2:W≤16384) (h3:1≤H) (h4:H≤16384) {P:List UInt8} (hl:P.length=4*W*H) (kind:Int):qd9 F (qb8 W H P lace kind)=some P:=by
 have ho:HeadOk F.h W H:=by rw [hF.h];exact qix lace h1 h2 h3 h4
 have hkd:qc1 kind≤4:=by unfold qc1;split<;>omega
 have hroom:=q20 ho
 rw [←hl] at hroom
 obtain ⟨ah',hrun⟩:=za8 hF h2 hl hkd [] (rowsL F.h) [] (List.replicate (4*W*H) 0) hroom
 rw [List.append_nil] at hrun
 have hall:qb8 W H P lace kind=qee W P (qc1 kind) [] (rowsL F.h):=by
  unfold qb8
  rw [q14,List.nil_append,hF.h]
 unfold qd9
 rw [ho.wn,ho.hn,hall,hrun]
 show some (putK P (allKs W (rowsL F.h)) (List.replicate (4*W*H) 0))=some P
 congr 1
 obtain ⟨k1,k2⟩:=q9j P (allKs W (rowsL F.h)) (List.replicate (4*W*H) 0) (by rw [List.length_replicate,hl]) (fun k hk=>by
  unfold allKs at hk
  obtain ⟨r,hr,hk⟩:=List.mem_flatMap.1 hk
  unfold rowKs at hk
  obtain ⟨x,hx,rfl⟩:=List.mem_map.1 hk
  exact (hroom r hr).2.2 x (List.mem_range.1 hx))
 refine List.ext_getElem? fun j=>?_
 rcases Nat.lt_or_ge j P.length with hj | hj
 ·rw [k2 j,if_pos]
  have hq:j/4<W*H:=by rw [hl,Nat.mul_assoc] at hj;omega
  have hX:j/4%W<W:=Nat.mod_lt _ h1
  have hY:j/4/W<H:=(Nat.div_lt_iff_lt_mul h1).2 (by rw [Nat.mul_comm];exact hq)
  obtain ⟨r,hr,x,hx,e⟩:=zk4 ho hX hY
  refine ⟨pixAt W r.1 r.2.1 x,?_,?_⟩
  ·unfold allKs rowKs
   exact List.mem_flatMap.2 ⟨r,hr,List.mem_map.2 ⟨x,List.mem_range.2 hx,rfl⟩⟩
  ·have:=Nat.div_add_mod (j/4) W
   rw [Nat.mul_comm] at this
   rw [e,this]
   omega
 ·rw [List.getElem?_eq_none (by omega),List.getElem?_eq_none hj]
theorem q2x {W H:Nat} {lace:Bool} (h1:1≤W) (h2:W≤16384) (h3:1≤H) (h4:H≤16384) {P:List UInt8} (hl:P.length=4*W*H) (kind:Int):(qb8 W H P lace kind).length=needP (qbk W H lace):=by
 have ho:=qix (W:=W) (H:=H) lace h1 h2 h3 h4
 have hroom:=q20 ho
 have key:∀(L:List (PassP×Nat×Nat)) (ah:List UInt8),(∀r∈L,1≤r.2.2∧r.2.2≤W∧∀x,x<r.2.2→pixAt W r.1 r.2.1 x+4≤4*W*H)→(qee W P (qc1 kind) ah L).length=needL (qbk W H lace) L:=by
  intro L
  induction L with
  | nil=>intro _ _;rfl
  | cons r L ih =>
   intro ah h
   obtain ⟨hr1,hr2,hr3⟩:=h r List.mem_cons_self
   have hrow:rowB (qbk W H lace) r.2.2=4*r.2.2:=by
    unfold rowB rowP
    show (if (r.2.2:Int)<1∨(r.2.2:Int)>16384∨((4:Nat):Int)<1∨((4:Nat):Int)>4∨qbv 8=false then 0 else (((r.2.2:Int)*((4:Nat):Int)*8+7)/8).toNat)=_
    rw [if_neg (by
            have:qbv 8=true:=by decide
            rw [this];simp;omega)]
    omega
   rw [qee,List.length_append,List.length_cons,qgr,qlq hl r.2.2 hr3,ih _ fun q hq=>h q (List.mem_cons_of_mem _ hq)]
   unfold needL
   rw [List.map_cons,List.sum_cons,hrow]
   omega
 unfold qb8
 rw [q14,List.nil_append,key _ _ hroom]
 rfl
end Go.Proofs.YtmagnpcgpinmcaaGreat
set_option linter.unusedVariables false
namespace Go.Proofs.YtmagnpcgpinmcaaGreat
open Go.Vc
set_option maxRecDepth 400000
theorem qxw (W H:Nat) (lace:Bool):(headD W H lace).length=13:=rfl
theorem qp8 (W H:Nat) (P:List UInt8) (lace:Bool) (kind:Int):encCh W H P lace kind=[⟨ihdrL,headD W H lace⟩,⟨idatL,packL (qax (qb8 W H P lace kind)) (qb8 W H P lace kind)⟩,⟨iendL,[]⟩]:=rfl
theorem q17 (bs:List UInt8):(packL (qax bs) bs).length≤9*bs.length+26:=by
 have h:=(zfa (fixed:=false) (body:=qax bs) (bs:=bs) ⟨fun _=>rfl,fun h=>by cases h⟩).1
 unfold packL
 simp only [List.length_append,qb5,List.length_cons,List.length_nil]
 omega
theorem zln {W H:Nat} (lace:Bool) (h1:1≤W) (h2:W≤1000) (h3:1≤H) (h4:H≤1000) {P:List UInt8} (hl:P.length=4*W*H) (kind:Int):(qb8 W H P lace kind).length≤28007000:=by
 have hho:=qix (W:=W) (H:=H) lace h1 (by omega) h3 (by omega)
 have hlen:=qy0 W P (qc1 kind) (rowsL (qbk W H lace)) ([],[]) (q6j hho)
 have hLl:=qtj hho
 have hlw:(rowsL (qbk W H lace)).length*(1+4*W)≤7000*4001:=Nat.mul_le_mul (by omega) (by omega)
 simp only [List.length_nil] at hlen
 unfold qb8
 omega
def qdt (W H:Nat) (P:List UInt8) (lace:Bool) (kind:Int):List UInt8:=packL (qax (qb8 W H P lace kind)) (qb8 W H P lace kind)
theorem zkm {F:FilL} {W H:Nat} {lace:Bool} (hF:FEnc F W H lace) (h1:1≤W) (h2:W≤16384) (h3:1≤H) (h4:H≤16384) {P:List UInt8} (hl:P.length=4*W*H) (kind:Int) (hd:F.data=qdt W H P lace kind):decF F=(0,W,H,P):=by
 have hn:needP F.h=(qb8 W H P lace kind).length:=by rw [hF.h];exact (q2x h1 h2 h3 h4 hl kind).symm
 obtain ⟨u1,u2,u3⟩:=zee (bs:=qb8 W H P lace kind) (most:=needP F.h) (by omega)
 unfold decF
 rw [hd]
 unfold qdt
 rw [u1,u2,u3,if_neg (by decide),if_neg (by omega),zg6 hF h1 h2 h3 h4 hl kind]
 show (0,F.h.W.toNat,F.h.H.toNat,P)=_
 rw [hF.h]
 rfl
theorem zgn {b:List UInt8} {pixels:Int} {c:ChL} {l:List ChL} (h:qaz false b=(0,c::l)):qex b pixels=if (qg4 c l pixels).1≠0 then ((qg4 c l pixels).1,0,0,[]) else decF (qg4 c l pixels).2:=by
 unfold qex
 rw [qux h]
theorem zem {W H:Nat} (lace:Bool) (h1:1≤W) (h2:W≤16384) (h3:1≤H) (h4:H≤16384) {l:List ChL} {F:FilL} {pixels:Int} (ha:((W*H:Nat):Int)≤pixels∧((W*H:Nat):Int)≤67108864) (ht:qbu (fil0 (qbk W H lace)) l=(0,F)) (hD:F.hasD=true) :
  qg4 ⟨ihdrL,headD W H lace⟩ l pixels=(0,F):=by
 unfold qg4
 rw [q7w lace h1 h2 h3 h4,if_neg (by simp)]
 have hm:(qbk W H lace).W*(qbk W H lace).H=((W*H:Nat):Int):=by show (W:Int)*(H:Int)=_;simp
 have hc:(qbk W H lace).Color=6:=rfl
 dsimp only
 rw [hm,if_neg (by omega),ht,if_neg (by simp),if_neg]
 rw [hD,hc]
 simp
theorem encF (W H:Nat) (P:List UInt8) (lace:Bool) (kind:Int):qbu (fil0 (qbk W H lace)) [⟨idatL,qdt W H P lace kind⟩,⟨iendL,[]⟩]=(0,{ fil0 (qbk W H lace) with data:=qdt W H P lace kind,hasD:=true,wasD:=false }):=by
 have e1:takeP (fil0 (qbk W H lace)) ⟨idatL,qdt W H P lace kind⟩=(0,{ fil0 (qbk W H lace) with wasD:=true,hasD:=true,data:=qdt W H P lace kind }):=by
  unfold takeP
  rw [if_neg (by show ¬idatL=ihdrL;decide),if_neg (by show ¬idatL=plteL;decide),if_neg (by show ¬idatL=trnsL;decide),if_pos rfl]
  rfl
 have e2:∀F:FilL,takeP F ⟨iendL,[]⟩=(0,{ F with wasD:=false }):=fun F=>by
  unfold takeP
  rw [if_neg (by show ¬iendL=ihdrL;decide),if_neg (by show ¬iendL=plteL;decide),if_neg (by show ¬iendL=trnsL;decide),if_neg (by show ¬iendL=idatL;decide),if_pos rfl,if_pos rfl]
 rw [qbu,e1,if_neg (by simp)]
 dsimp only
 rw [qbu,e2,if_neg (by simp)]
 rfl
theorem q9n {W H:Nat} (lace:Bool) (h1:1≤W) (h2:W≤1000) (h3:1≤H) (h4:H≤1000) {P:List UInt8} (hl:P.length=4*W*H) (kind:Int):(qdt W H P lace kind).length<2^31:=by
 have:=q17 (qb8 W H P lace kind)
 have:=zln lace h1 h2 h3 h4 hl kind
 unfold qdt
 omega
theorem zfx {W H:Nat} (lace:Bool) (h1:1≤W) (h2:W≤1000) (h3:1≤H) (h4:H≤1000) {P:List UInt8} (hl:P.length=4*W*H) (kind:Int):qaz false (qci W H P lace kind)=(0,[⟨ihdrL,headD W H lace⟩,⟨idatL,qdt W H P lace kind⟩,⟨iendL,[]⟩]):=by
 have:=zdz [⟨ihdrL,headD W H lace⟩,⟨idatL,qdt W H P lace kind⟩] ⟨iendL,[]⟩ [] (fun c hc=>by
  rcases List.mem_cons.1 hc with rfl | hc
  ·exact ⟨qwv W H lace,by show ¬ihdrL=iendL;decide⟩
  ·rcases List.mem_cons.1 hc with rfl | hc
   ·exact ⟨zif (q9n lace h1 h2 h3 h4 hl kind),by show ¬idatL=iendL;decide⟩
   ·cases hc) zh9 rfl
 have e:qci W H P lace kind=signL++([⟨ihdrL,headD W H lace⟩,⟨idatL,qdt W H P lace kind⟩].flatMap layC++(layC ⟨iendL,[]⟩++[])):=by
  unfold qci layP
  rw [qp8]
  simp [qdt]
 rw [e,this]
 rfl
theorem zgk {W H:Nat} (lace:Bool) (h1:1≤W) (h2:W≤1000) (h3:1≤H) (h4:H≤1000) {P:List UInt8} (hl:P.length=4*W*H) (kind:Int) {pixels:Int} (hp:((W*H:Nat):Int)≤pixels):qex (qci W H P lace kind) pixels=(0,W,H,P):=by
 have hWH:W*H≤1000*1000:=Nat.mul_le_mul h2 h4
 rw [zgn (zfx lace h1 h2 h3 h4 hl kind),zem lace h1 (by omega) h3 (by omega) ⟨hp,by omega⟩ (encF W H P lace kind) rfl,if_neg (by simp)]
 exact zkm ⟨rfl,rfl⟩ h1 (by omega) h3 (by omega) hl kind rfl
theorem zkc {W H:Nat} (lace:Bool) (h1:1≤W) (h2:W≤16384) (h3:1≤H) (h4:H≤16384) (P:List UInt8) (kind:Int):infoP (qci W H P lace kind)=(0,qbk W H lace):=by
 have e:qci W H P lace kind=signL++(layC ⟨ihdrL,headD W H lace⟩++(layC ⟨idatL,qdt W H P lace kind⟩++layC ⟨iendL,[]⟩)):=by
  unfold qci layP
  rw [qp8]
  simp [qdt]
 unfold infoP
 rw [e,zc0 _ _ (qwv W H lace)]
 exact q7w lace h1 h2 h3 h4
theorem zbc {n:Nat} {y s rest:List UInt8} (hn:n<2^31) (hy:y.length=4+n) (hs:s.length=4):qbq (be4 n++(y++(s++rest)))=if (y.take 4).all qbp=false then .err 3 else if crcN y≠bigN s then .err 4 else .ok ⟨y.take 4,y.drop 4⟩ (12+n):=by
 have hl:(be4 n++(y++(s++rest))).length=12+n+rest.length:=by simp only [List.length_append,qb5,hy,hs];omega
 have e4:(be4 n++(y++(s++rest))).take 4=be4 n:=List.take_left' (qb5 _)
 have d4:(be4 n++(y++(s++rest))).drop 4=y++(s++rest):=List.drop_left' (qb5 _)
 have hb:bigN ((be4 n++(y++(s++rest))).take 4)=n:=by rw [e4,qg8 (by omega)]
 have t8:((be4 n++(y++(s++rest))).take 8).drop 4=y.take 4:=by
  rw [List.drop_take,d4,List.take_append_of_le_length (by omega)]
 have tn4:((be4 n++(y++(s++rest))).take (8+n)).drop 4=y:=by
  rw [List.drop_take,d4]
  exact List.take_left' (by omega)
 have tn8:((be4 n++(y++(s++rest))).take (8+n)).drop 8=y.drop 4:=by
  rw [show (8:Nat)=4+4 from rfl,←List.drop_drop,show 4+4+n=8+n by omega,tn4]
 have dn:(be4 n++(y++(s++rest))).drop (8+n)=s++rest:=by
  rw [show 8+n=4+(4+n) by omega,←List.drop_drop,d4]
  exact List.drop_left' hy
 have ds:((be4 n++(y++(s++rest))).drop (8+n)).take 4=s:=by rw [dn];exact List.take_left' hs
 unfold qbq
 rw [hb,t8,tn4,tn8,ds,if_neg (by omega),if_neg (by omega),if_neg (by omega)]
 by_cases hx:(y.take 4).all qbp=false
 ·rw [if_pos hx,if_pos hx]
 ·rw [if_neg hx,if_neg hx,if_neg (by omega)]
theorem ze5 {α:Type} (a b c:List α) {i:Nat} (hi:i<b.length) (v:α):(a++(b++c)).set (a.length+i) v=a++(b.set i v++c):=by
 rw [List.set_append_right _ _ (by omega),Nat.add_sub_cancel_left,List.set_append_left _ _ hi]
theorem zls {y:List UInt8} {i:Nat} {x v:UInt8} (hx:y[i]?=some x) (hv:v≠x):crcN (y.set i v)≠crcN y:=by
 obtain ⟨hi,e⟩:=List.getElem?_eq_some_iff.1 hx
 have e1:y=y.take i++x::y.drop (i+1):=by rw [←e,←List.drop_eq_getElem_cons,List.take_append_drop]
 have e2:y.set i v=y.take i++v::y.drop (i+1):=by
  rw [List.set_eq_take_append_cons_drop,if_pos hi]
 rw [e2]
 conv=>rhs;rw [e1]
 exact zg0 _ _ hv
theorem zmh {W H:Nat} (lace:Bool) (P:List UInt8) (kind:Int) {k:Nat} (hk:k<21) {x v:UInt8} (hx:(qci W H P lace kind)[12+k]?=some x) (hv:v≠x):∃n,n≠0∧(∀pixels,(qex ((qci W H P lace kind).set (12+k) v) pixels).1=n)∧infoP ((qci W H P lace kind).set (12+k) v)=(n,headZ):=by
 obtain ⟨y,hy⟩:∃y,y=ihdrL++headD W H lace:=⟨_,rfl⟩
 obtain ⟨s,hs⟩:∃s,s=be4 (crcN y):=⟨_,rfl⟩
 have hyl:y.length=4+13:=by rw [hy];rfl
 have hsl:s.length=4:=by rw [hs];rfl
 obtain ⟨rest,hr⟩:∃rest,rest=layC ⟨idatL,qdt W H P lace kind⟩++layC ⟨iendL,[]⟩:=⟨_,rfl⟩
 have e:qci W H P lace kind=signL++(be4 13++(y++(s++rest))):=by
  unfold qci layP
  rw [qp8]
  have:layC ⟨ihdrL,headD W H lace⟩=be4 13++(y++s):=by
   unfold layC
   rw [q24 (qwv W H lace),hs,hy,qxw]
   simp [List.append_assoc]
  rw [List.flatMap_cons,this,hr]
  simp [qdt,List.append_assoc]
 have hset:∃y' s',(qci W H P lace kind).set (12+k) v=signL++(be4 13++(y'++(s'++rest)))∧y'.length=4+13∧s'.length=4∧crcN y'≠bigN s':=by
  rw [e] at hx ⊢
  have e12:signL++(be4 13++(y++(s++rest)))=(signL++be4 13)++(y++(s++rest)):=by rw [List.append_assoc]
  have l12:(signL++be4 13).length=12:=rfl
  rw [e12] at hx ⊢
  rw [List.getElem?_append_right (by omega),l12,Nat.add_sub_cancel_left] at hx
  by_cases hk17:k<17
  ·rw [List.getElem?_append_left (by omega)] at hx
   have:=ze5 (signL++be4 13) y (s++rest) (i:=k) (by omega) v
   rw [l12] at this
   refine ⟨y.set k v,s,by rw [this,List.append_assoc],by rw [List.length_set,hyl],hsl,?_⟩
   rw [hs,qg8 (qs5 _)]
   exact zls hx hv
  ·rw [List.getElem?_append_right (by omega),hyl,List.getElem?_append_left (by omega)] at hx
   have h2:=ze5 (signL++be4 13++y) s rest (i:=k-17) (by omega) v
   have l29:(signL++be4 13++y).length=29:=by rw [List.length_append,l12,hyl]
   rw [l29,show 29+(k-17)=12+k by omega] at h2
   refine ⟨y,s.set (k-17) v,?_,hyl,by rw [List.length_set,hsl],?_⟩
   ·rw [←List.append_assoc,h2]
    simp [List.append_assoc]
   ·intro hc
    have hb:bigN s=crcN y:=by rw [hs,qg8 (qs5 _)]
    rw [←hb] at hc
    have hse:=ze8 hsl (by rw [List.length_set,hsl]) hc
    have:s[k-17]?=(s.set (k-17) v)[k-17]?:=by rw [←hse]
    have hx:s[k-17]?=some x:=by rw [show k-17=k-(4+13) by omega];exact hx
    rw [hx,List.getElem?_set_self (by omega)] at this
    exact hv (Option.some.inj this).symm
 obtain ⟨y',s',he,hyl',hsl',hne⟩:=hset
 have hcp:=zbc (n:=13) (rest:=rest) (by decide) hyl' hsl'
 obtain ⟨n,hn,hcpn⟩:∃n,n≠0∧qbq (be4 13++(y'++(s'++rest)))=.err n:=by
  rw [hcp]
  by_cases hx:(y'.take 4).all qbp=false
  ·exact ⟨3,by decide,by rw [if_pos hx]⟩
  ·exact ⟨4,by decide,by rw [if_neg hx,if_pos hne]⟩
 obtain ⟨h1,h2⟩:=qwo (be4 13++(y'++(s'++rest)))
 have hchunks:∀one,qaz one ((qci W H P lace kind).set (12+k) v)=(n,[]):=by
  intro one
  rw [he]
  have hl:(signL++(be4 13++(y'++(s'++rest)))).length=(be4 13++(y'++(s'++rest))).length+7+1:=by rw [List.length_append];show 8+_=_;omega
  have hf:qay one ((be4 13++(y'++(s'++rest))).length+7+1) (be4 13++(y'++(s'++rest)))=(n,[]):=by rw [qay,hcpn]
  unfold qaz
  rw [h1,h2,if_neg (by decide),hl,hf,if_pos hn]
 refine ⟨n,hn,fun pixels=>?_,?_⟩
 ·have hr:(qc9 ((qci W H P lace kind).set (12+k) v) pixels).1=n:=by
   rw [qsd (by rw [hchunks];exact hn),hchunks]
  unfold qex
  rw [hr,if_pos hn]
 ·unfold infoP
  rw [hchunks]
  match n,hn with
  | n+1,_=>rfl
end Go.Proofs.YtmagnpcgpinmcaaGreat
set_option linter.unusedVariables false
namespace Go.Proofs.YtmagnpcgpinmcaaGreat
open Go.Vc Go.RowKit
set_option maxRecDepth 400000
section
variable {w:World}
theorem zcs {K:Bool→World→Prop} (hK:∀w',Below w.heap.size w w'→K true w'):qtq w K:=by
 refine q8g ?_
 unfold qro
 refine nwb fun w1 h1 hB1 hs1=>nwb fun w2 h2 hB2 hs2=>?_
 have hP1:Rd qab w1 ⟨some ⟨w.heap.size,0,none⟩,8,8⟩ [1,2,3,4,5,6,7,8]:=qda (E:=qab) (ys:=[1,2,3,4,5,6,7,8]) h1 (by simp [maxLen]) rfl
 refine qa2 h2 rfl fun w3 h3 hc3 hs3=>?_
 have hB13:Below w1.heap.size w1 w3:=b1o hB2 hc3 (Nat.le_refl _)
 have hB3:=bT hB1 hB13
 have hP3:=hP1.ext hB13
 have h3:Blk w3 w1.heap.size qat (T_api_Matrix.rep.cells ⟨((1:Nat):Int),((2:Nat):Int),⟨some ⟨w.heap.size,0,none⟩,8,8⟩⟩):=h3
 refine qas (r:=T_api_Matrix.rep) (x:=⟨((1:Nat):Int),((2:Nat):Int),⟨some ⟨w.heap.size,0,none⟩,8,8⟩⟩) h3.cells ?_
 refine q0v (lace:=true) (kind:=4) hP3 (W:=1) (H:=2) rfl (by decide) (by decide) (by decide) (by decide) fun t10 w4 ht10 hB4=>?_
 have hd:=zgk true (W:=1) (H:=2) (P:=[1,2,3,4,5,6,7,8]) (by decide) (by decide) (by decide) (by decide) rfl 4 (pixels:=2) (by decide)
 have hlen:(qci 1 2 [1,2,3,4,5,6,7,8] true 4).length≤1000000:=by
  have h:=qmw (encCh 1 2 [1,2,3,4,5,6,7,8] true 4)
  have h2:=q17 (qb8 1 2 [1,2,3,4,5,6,7,8] true 4)
  have h3:=q2x (W:=1) (H:=2) (lace:=true) (P:=[1,2,3,4,5,6,7,8]) (by decide) (by decide) (by decide) (by decide) rfl 4
  have h4:=qtk (qix (W:=1) (H:=2) true (by decide) (by decide) (by decide) (by decide)) (M:=2) (by decide)
  unfold qci
  rw [h,qp8]
  unfold dsum
  simp only [List.map_cons,List.map_nil,List.sum_cons,List.sum_nil,qxw,List.length_cons,List.length_nil]
  omega
 refine q1b ht10.rd (fun k hk=>(ht10.lt k hk).2) hlen (by decide) (fun hne=>absurd (congrArg Prod.fst hd) hne) (fun W H m hdm s w5 hs hml hB5=>?_)
 rw [hd] at hdm
 injection hdm with _ hdm
 injection hdm with e1 hdm
 injection hdm with e2 e3
 subst e1 e2 e3
 refine nwb fun w6 h6 hB6 hs6=>qa2 h6 rfl fun w7 h7 hc7 hs7=>?_
 have hB57:Below w5.heap.size w5 w7:=b1o hB6 hc7 (Nat.le_refl _)
 have hB37:=bT (bT hB4 hB5) hB57
 have h37:=h3.ext hB37
 refine qas (r:=T_api_Matrix.rep) (x:=⟨((1:Nat):Int),((2:Nat):Int),⟨some ⟨w.heap.size,0,none⟩,8,8⟩⟩) h37.cells ?_
 refine q0v (lace:=false) (kind:=0) (hP3.ext hB37) (W:=1) (H:=2) rfl (by decide) (by decide) (by decide) (by decide) fun t16 w8 ht16 hB8=>?_
 have hi:=zkc false (W:=1) (H:=2) (by decide) (by decide) (by decide) (by decide) [1,2,3,4,5,6,7,8] 0
 have hlen2:(qci 1 2 [1,2,3,4,5,6,7,8] false 0).length≤1000000:=by
  have h:=qmw (encCh 1 2 [1,2,3,4,5,6,7,8] false 0)
  have h2:=q17 (qb8 1 2 [1,2,3,4,5,6,7,8] false 0)
  have h3:=q2x (W:=1) (H:=2) (lace:=false) (P:=[1,2,3,4,5,6,7,8]) (by decide) (by decide) (by decide) (by decide) rfl 0
  have h4:=qtk (qix (W:=1) (H:=2) false (by decide) (by decide) (by decide) (by decide)) (M:=2) (by decide)
  unfold qci
  rw [h,qp8]
  unfold dsum
  simp only [List.map_cons,List.map_nil,List.sum_cons,List.sum_nil,qxw,List.length_cons,List.length_nil]
  omega
 refine q63 ht16.rd (fun k hk=>(ht16.lt k hk).2) hlen2 fun w9 hB9=>?_
 rw [hi]
 refine nwb fun w10 h10 hB10 hs10=>qa2 h10 rfl fun w11 h11 hc11 hs11=>?_
 have hB911:Below w9.heap.size w9 w11:=b1o hB10 hc11 (Nat.le_refl _)
 have hB711:=bT (bT hB8 hB9) hB911
 refine cT rfl ?_
 have h711:=h7.ext hB711
 refine lSl (x:=s) (h711.cells 2 _ rfl) ?_
 have hs11':=(hs.ext hB57).ext hB711
 refine ⟨_,_,qa3 hs11'.rd,?_⟩
 have h311:=h37.ext hB711
 refine lSl (x:=⟨some ⟨w.heap.size,0,none⟩,8,8⟩) (h311.cells 2 _ rfl) ?_
 refine ⟨_,_,qa3 ((hP3.ext hB37).ext hB711),?_⟩
 dsimp only
 refine cT (beq_self_eq_true _) ?_
 refine qas (r:=T_png_Head.rep) (x:=qbk 1 2 false) h11.cells ?_
 refine cT rfl (qlc ?_)
 exact hK w11 (bT (bT hB3 hB37) hB711)
end
end Go.Proofs.YtmagnpcgpinmcaaGreat
set_option linter.unusedVariables false
namespace Go.Proofs.YtmagnpcgpinmcaaGreat
open Go.Vc Go.RowKit
set_option maxRecDepth 400000
section
variable {w:World}
end
end Go.Proofs.YtmagnpcgpinmcaaGreat
set_option linter.unusedVariables false
namespace Go.Proofs.YtmagnpcgpinmcaaGreat
open Go.Vc Go.RowKit
set_option maxRecDepth 400000
theorem zhm (k:ByteArray):k=strB k.data.toList:=by cases k;simp [strB]
theorem Rd.slE {T:Type} {E:El T} {w:World} {s:Slc} {xs:List T} (h:Rd E w s xs) {lo hi:Option Int} {k:Nat} (hk:k=E.k) {l m:Nat} {K:Slc→Prop} (hlo:lo=none∧l=0∨lo=some (l:Int)) (hhi:hi=none∧m=xs.length∨hi=some (m:Int))
  (hl:l≤m) (hm:m≤xs.length) (hK:∀r:Slc,Rd E w r ((xs.take m).drop l)→(∀k,r.blk=some k→s.blk=some k)→K r):slK s lo hi k K :=
 h.slK hk hlo hhi hl hm fun hr=>hK _ hr fun k hk=>by
  obtain ⟨a,ha,rfl⟩:=slk.1 hk
  obtain ⟨a',ha',e⟩:=qia ha
  exact slk.2 ⟨a',ha',e.symm⟩
section
variable {w:World}
end
end Go.Proofs.YtmagnpcgpinmcaaGreat
set_option linter.unusedVariables false
namespace Go.Vc
open Go.ChangeShapes Go.WideShapes Go.ChangeAt Go.RowKit Go.Deep
inductive Leaf2 where
 | one (l:Leaf)
 | sl
def Leaf2.ok (R:Slc→Prop):Leaf2→Value→Prop
 | .one l,v=>l.ok v
 | .sl,v=>∃s:Slc,v=.slice s.a s.n s.c∧R s
def goF2 (P:Program) (g:TypeId→Option (List Leaf2)):List Field→Nat→Option (List Leaf2)
 | [],_=>some []
 | f::r,off =>
  match g f.type with
  | some ls=>if f.offset=off∧P.cellsOf f.type=ls.length then (goF2 P g r (off+ls.length)).map (ls++·) else none
  | none=>none
def qui (P:Program) (e0:TypeId):Nat→TypeId→Option (List Leaf2)
 | 0,_=>none
 | n+1,t =>
  match P.underlying t with
  | some (.int k)=>some [.one (.int k)]
  | some .bool=>some [.one .bool]
  | some .string=>some [.one .str]
  | some (.slice e)=>if e=e0 then some [.sl] else none
  | some (.struct fs)=>goF2 P (qui P e0 n) fs.toList 0
  | _=>none
def qp7 (R:Slc→Prop) (ls:List Leaf2) (cs:List Value):Prop:=∀(j:Nat) l,ls[j]?=some l→∃v,cs[j]?=some v∧l.ok R v
theorem q7x {P:Program} {R:Slc→Prop} {g:TypeId→Option (List Leaf2)} {cs:List Value}:∀(fs:List Field) (off:Nat) (ls:List Leaf2),goF2 P g fs off=some ls →
  (∀f∈fs,∀lf,g f.type=some lf→P.cellsOf f.type=lf.length→qp7 R lf ((cs.drop f.offset).take (P.cellsOf f.type)))→∀(j:Nat) l,ls[j]?=some l→∃v,cs[off+j]?=some v∧l.ok R v
 | [],_,ls,h,_,j,l,hl=>by
  simp only [goF2,Option.some.injEq] at h
  subst h
  simp at hl
 | f::r,off,ls,h,hf,j,l,hl=>by
  unfold goF2 at h
  split at h
  ·rename_i lf hg
   split at h
   ·rename_i hc
    obtain ⟨rest,hr,e⟩:=Option.map_eq_some_iff.1 h
    subst e
    rcases Nat.lt_or_ge j lf.length with hj | hj
    ·rw [List.getElem?_append_left hj] at hl
     obtain ⟨v,hv,ok⟩:=hf f (by simp) lf hg hc.2 j l hl
     rw [hc.2,List.getElem?_take_of_lt hj,List.getElem?_drop,hc.1] at hv
     exact ⟨v,hv,ok⟩
    ·rw [List.getElem?_append_right hj] at hl
     obtain ⟨v,hv,ok⟩:=q7x r (off+lf.length) rest hr (fun f' hf'=>hf f' (by simp [hf'])) _ l hl
     exact ⟨v,by rw [←hv];congr 1;omega,ok⟩
   ·cases h
  ·cases h
section
variable {H:Type} {enc:TypeId×Value→H} {P:Program} {w:World} {base:Nat} {spare:Nat→Bool} {held:Bool}
theorem q2z {R:Slc→Prop} {e0:TypeId} (hR:∀{t:TypeId} {fuel:Nat} {cs:List Value} {x:DataW H×List MemPlace},P.underlying t=some (.slice e0)→DataW.trod enc P w base spare held fuel t cs=some x→∃s:Slc,cs=[.slice s.a s.n s.c]∧R s) :
  ∀(n:Nat) {t:TypeId} {ls:List Leaf2} {fuel:Nat} {cs:List Value} {x:DataW H×List MemPlace},qui P e0 n t=some ls→DataW.trod enc P w base spare held fuel t cs=some x→qp7 R ls cs
 | 0,_,_,_,_,_,h,_=>by cases h
 | n+1,t,ls,fuel,cs,x,h,ht=>by
  unfold qui at h
  split at h
  ·next k hu =>
   cases h
   obtain ⟨z,rfl,_,hw⟩:=DataW.trod_int hu ht
   intro j l hl
   match j,hl with
   | 0,hl=>cases hl;exact ⟨_,rfl,z,rfl,hw⟩
   | j+1,hl=>cases hl
  ·next hu =>
   cases h
   obtain ⟨z,rfl,_⟩:=DataW.trod_bool hu ht
   intro j l hl
   match j,hl with
   | 0,hl=>cases hl;exact ⟨_,rfl,z,rfl⟩
   | j+1,hl=>cases hl
  ·next hu =>
   cases h
   obtain ⟨z,rfl,_⟩:=DataW.trod_string hu ht
   intro j l hl
   match j,hl with
   | 0,hl=>cases hl;exact ⟨_,rfl,z,rfl⟩
   | j+1,hl=>cases hl
  ·next e hu =>
   split at h
   ·next he =>
    subst he
    cases h
    obtain ⟨s,rfl,hs⟩:=hR hu ht
    intro j l hl
    match j,hl with
    | 0,hl=>cases hl;exact ⟨_,rfl,s,rfl,hs⟩
    | j+1,hl=>cases hl
   ·cases h
  ·next fs hu =>
   obtain ⟨xs,m,_,_,_,hxl,hf⟩:=DataW.trod_struct hu ht
   intro j l hl
   have:=q7x (cs:=cs) fs.toList 0 ls h (fun f hfm lf hg _=>by
    obtain ⟨i,hi⟩:=List.getElem?_of_mem hfm
    rw [Array.getElem?_toList] at hi
    have h1:=hf i f hi
    have hil:i<xs.length:=by rw [hxl];exact (Array.getElem?_eq_some_iff.1 hi).1
    rw [List.getElem?_eq_getElem hil] at h1
    exact q2z hR n hg h1) j l hl
   simpa using this
  ·cases h
theorem q0s {T:Type} (E:El T) (Q:T→Prop) {t e:TypeId} {fuel:Nat} {cs:List Value} {x:DataW H×List MemPlace} (ht:P.underlying t=some (.slice e)) (hC:P.cellsOf e=E.k)
  (mk:∀(fuel:Nat) (vs:List Value) (y:DataW H×List MemPlace),vs.length=E.k→DataW.trod enc P w base (fun _=>true) held fuel e vs=some y→∃x:T,E.cells x=vs∧Q x) (hf:DataW.trod enc P w base (fun _=>true) held fuel t cs=some x):∃(s:Slc) (xs:List T),cs=[.slice s.a s.n s.c]∧Rd E w s xs∧∀x∈xs,Q x:=by
 rcases open_slice ht hf with ⟨hcs,_⟩ | ⟨a,n0,c0,m,n',D,Pl,hcs,hb,hl,hm,hmm,hx,hi⟩
 ·exact ⟨⟨none,0,0⟩,[],hcs,Rd.nil E w,fun x hx=>by cases hx⟩
 ·rw [if_pos rfl] at hmm
  have:∀i,i<n0→∃x:T,qbc w (a.add (i*E.k)) (E.cells x)∧Q x:=by
   intro i hil
   obtain ⟨cs',hc,ht'⟩:=hi i (by omega)
   rw [hC] at hc
   obtain ⟨_,hcl,hat⟩:=World.cells?_some hc
   obtain ⟨x,hx,hq⟩:=mk _ cs' _ hcl ht'
   refine ⟨x,fun j u hu=>?_,hq⟩
   rw [hx] at hu
   have hj:j<E.k:=by rw [←hcl];exact (List.getElem?_eq_some_iff.1 hu).1
   rw [hat j hj,hu]
  obtain ⟨xs,hxl,hxs⟩:=q04 n0 this
  refine ⟨⟨some a,n0,c0⟩,xs,hcs,⟨hxl.symm,hl,hm,fun _=>rfl,fun i x hx=>(hxs i x hx).1⟩,fun x hx=>?_⟩
  obtain ⟨i,hi⟩:=List.getElem?_of_mem hx
  exact (hxs i x hi).2
end
end Go.Vc
namespace Go.Proofs.YtmagnpcgpinmcaaGreat
open Go.Vc Go.ChangeShapes Go.WideShapes Go.ChangeAt Go.RowKit
set_option maxRecDepth 100000
theorem zka {R:Slc→Prop} {ls:List Leaf2} {vs:List Value} (h:qp7 R ls vs) (j:Nat) (hj:ls[j]?=some .sl):∃s:Slc,vs[j]?=some (.slice s.a s.n s.c)∧R s:=by
 obtain ⟨v,hv,s,rfl,hw⟩:=h j _ hj
 exact ⟨s,hv,hw⟩
section
variable {H:Type} {enc:TypeId×Value→H} {w:World} {base:Nat} {held:Bool} {r:Reach} {b0:Nat} {v:Value} {d:DataW H} {p:List MemPlace}
theorem q5e {t:TypeId} {fuel:Nat} {cs:List Value} {x:DataW H×List MemPlace} (ht:Tryz.prog.underlying t=some (.slice 5)) (hf:DataW.trod enc Tryz.prog w base (fun _=>true) held fuel t cs=some x):∃s:Slc,cs=[.slice s.a s.n s.c]∧∃xs,Rd qab w s xs:=by
 have a:=@q0s H enc Tryz.prog w base held UInt8 qab (fun _=>True) t 5 fuel cs x ht (by kernel_rfl) (fun fuel vs y hl hf=>zla vs hl (q6z 4 zcg hf)) hf
 obtain ⟨s,xs,h1,h2,h3⟩:=a
 exact ⟨s,h1,xs,h2⟩
end
theorem zi5 {R:Slc→Prop} {ls:List Leaf2} {vs:List Value} (h:qp7 R ls vs) (j:Nat) (hj:ls[j]?=some (.one .str)):∃z,vs[j]?=some (.string z):=by
 obtain ⟨v,hv,z,rfl⟩:=h j _ hj
 exact ⟨z,hv⟩
def chLs:List Leaf2:=[.one .str,.sl]
theorem zi9:qui Tryz.prog 5 4 qa5=some chLs:=by kernel_rfl
def chQ (w:World) (x:T_png_Chunk):Prop:=∃f,Rd qab w x.Data f
theorem ch_mk {w:World} (vs:List Value) (hl:vs.length=2) (h:qp7 (fun s=>∃xs,Rd qab w s xs) chLs vs):∃x:T_png_Chunk,qb1.cells x=vs∧chQ w x:=by
 obtain ⟨z0,h0⟩:=zi5 h 0 rfl
 obtain ⟨s1,h1,hs⟩:=zka h 1 rfl
 refine ⟨⟨z0,s1⟩,q0z hl fun j hj=>?_,hs⟩
 match j,hj with
 | 0,_=>exact h0.symm
 | 1,_=>exact h1.symm
 | j+2,hj=>exact absurd hj (by simp [qb1,T_png_Chunk.rep])
section
variable {H:Type} {enc:TypeId×Value→H} {w:World} {base:Nat} {held:Bool} {r:Reach} {b0:Nat} {v:Value} {d:DataW H} {p:List MemPlace}
theorem zl3 {xs:List T_png_Chunk} (h:∀x∈xs,chQ w x):∃L,ChsA w xs L:=by
 induction xs with
 | nil=>exact ⟨[],rfl,fun i x c hx=>by simp at hx⟩
 | cons x xs ih =>
  obtain ⟨L,hL⟩:=ih fun y hy=>h y (by simp [hy])
  obtain ⟨f,hf⟩:=h x (by simp)
  refine ⟨⟨x.Kind.data.toList,f⟩::L,by simp [hL.1],fun i y it hy hi=>?_⟩
  cases i with
  | zero=>cases hy;cases hi;exact ⟨zhm _,hf⟩
  | succ i=>exact hL.2 i y it (by simpa using hy) (by simpa using hi)
theorem zce {t:TypeId} (ht:Tryz.prog.underlying t=some (.slice qa5)) (hv:Value.okWide Tryz.prog w r b0 t v) (h:DataW.Trod enc Tryz.prog w base (fun _=>true) held t v d p):∃(s:Slc) (xs:List T_png_Chunk) (L:List ChL),v=.slice s.a s.n s.c∧Rd qb1 w s xs∧ChsA w xs L:=by
 obtain ⟨a0,n0,c0,rfl⟩:=okWide_slice ht hv
 obtain ⟨fuel,hf⟩:=h
 have a:=@q0s H enc Tryz.prog w base held T_png_Chunk qb1 (chQ w) t qa5 fuel _ _ ht (by kernel_rfl) (fun fuel vs y hl hf=>ch_mk vs hl (q2z (fun ht hf=>q5e ht hf) 4 zi9 hf)) hf
 obtain ⟨s,xs,h1,h2,h3⟩:=a
 simp only [Value.cells,List.cons.injEq,and_true] at h1
 obtain ⟨L,hL⟩:=zl3 h3
 exact ⟨s,xs,L,h1,h2,hL⟩
end
end Go.Proofs.YtmagnpcgpinmcaaGreat
set_option linter.unusedVariables false
namespace Go.Proofs.YtmagnpcgpinmcaaGreat
open Go.Vc Go.RowKit
set_option maxRecDepth 400000
section
variable {w:World}
theorem qnt {color:Int} {K:Int→World→Prop} (hK:K ((qac color:Nat):Int) w):qe7 color w K:=by
 refine q4p _ ?_
 unfold qn5
 refine jpO fun J hJ=>?_
 unfold qac at hK
 have h2:∀b:Bool,(b=true↔color=0∨color=3)→J (b,()) w:=fun b hb=>hJ _ _ (by
  refine cO (fun h=>?_) fun h=>?_
  ·rw [if_pos (hb.1 h)] at hK
   exact hK
  ·rw [if_neg (fun e=>by rw [hb.2 e] at h;cases h)] at hK
   refine cO (fun h=>?_) fun h=>?_
   ·rw [if_pos (by simpa using h)] at hK
    exact hK
   ·rw [if_neg (by simpa using h)] at hK
    refine cO (fun h=>?_) fun h=>?_
    ·rw [if_pos (by simpa using h)] at hK
     exact hK
    ·rw [if_neg (by simpa using h)] at hK
     refine cO (fun h=>?_) fun h=>?_
     ·rw [if_pos (by simpa using h)] at hK
      exact hK
     ·rw [if_neg (by simpa using h)] at hK
      exact hK)
 refine cO (fun h=>h2 _ ?_) fun h=>h2 _ ?_
 ·have h:color=0:=by simpa using h
  simp [h]
 ·have h:color≠0:=by simpa using h
  simp [h]
theorem zdj {h:T_png_Head} {K:Int→World→Prop} (hK:∀w',Below w.heap.size w w'→K ((qdd h:Nat):Int) w'):qir h w K:=by
 refine q8a _ ?_
 unfold qr0
 refine nwb fun w1 h1 hB1 hs1=>?_
 refine jpO fun J1 hJ1=>?_
 unfold qdd at hK
 refine lI (x:=h.W) (h1.cells 0 _ rfl) ?_
 refine cO (fun c1=>?_) fun c1=>?_
 ·have c1:=of_decide_eq_true c1
  rw [if_pos (by omega)] at hK
  exact hK w1 hB1
 have c1:=of_decide_eq_false c1
 refine lI (x:=h.W) (h1.cells 0 _ rfl) ?_
 refine cO (fun c2=>?_) fun c2=>?_
 ·have c2:=of_decide_eq_true c2
  rw [if_pos (by omega)] at hK
  exact hK w1 hB1
 have c2:=of_decide_eq_false c2
 refine lI (x:=h.H) (h1.cells 1 _ rfl) ?_
 refine cO (fun c3=>?_) fun c3=>?_
 ·have c3:=of_decide_eq_true c3
  rw [if_pos (by omega)] at hK
  exact hK w1 hB1
 have c3:=of_decide_eq_false c3
 refine lI (x:=h.H) (h1.cells 1 _ rfl) ?_
 refine cO (fun c4=>?_) fun c4=>?_
 ·have c4:=of_decide_eq_true c4
  rw [if_pos (by omega)] at hK
  exact hK w1 hB1
 have c4:=of_decide_eq_false c4
 rw [if_neg (by omega)] at hK
 refine hJ1 _ _ ?_
 refine lI (x:=h.Depth) (h1.cells 2 _ rfl) (jpO fun J2 hJ2=>?_)
 have key:∀ok:Bool,ok=qd4 h→J2 (ok,()) w1:=by
  intro ok hok
  refine hJ2 _ _ ?_
  refine lI (x:=h.Color) (h1.cells 3 _ rfl) (qnt ?_)
  refine cO (fun e=>?_) fun e=>?_
  ·have e:qac h.Color=0:=by
    have:((qac h.Color:Nat):Int)=0:=by simpa using e
    omega
   rw [if_pos (.inl e)] at hK
   exact hK w1 hB1
  have e:qac h.Color≠0:=by
   have:((qac h.Color:Nat):Int)≠0:=by simpa using e
   omega
  rw [hok]
  refine cO (fun e2=>?_) fun e2=>?_
  ·have e2:qd4 h=false:=by simpa using e2
   rw [if_pos (.inr (.inl e2))] at hK
   exact hK w1 hB1
  have e2:qd4 h=true:=by simpa using e2
  refine lI (x:=h.Lace) (h1.cells 4 _ rfl) ?_
  refine cO (fun e3=>?_) fun e3=>?_
  ·have e3:=of_decide_eq_true e3
   rw [if_pos (.inr (.inr (.inl e3)))] at hK
   exact hK w1 hB1
  have e3:=of_decide_eq_false e3
  refine lI (x:=h.Lace) (h1.cells 4 _ rfl) ?_
  refine cO (fun e4=>?_) fun e4=>?_
  ·have e4:=of_decide_eq_true e4
   rw [if_pos (.inr (.inr (.inr e4)))] at hK
   exact hK w1 hB1
  have e4:=of_decide_eq_false e4
  rw [if_neg (by rw [e2];simp;omega)] at hK
  exact hK w1 hB1
 have kt:(h.Depth=8∨h.Depth=16∧h.Color≠3∨(h.Color=0∨h.Color=3)∧(h.Depth=1∨h.Depth=2∨h.Depth=4))→J2 (true,()) w1:=fun hh=>key true (by unfold qd4;exact (decide_eq_true hh).symm)
 have kf:¬(h.Depth=8∨h.Depth=16∧h.Color≠3∨(h.Color=0∨h.Color=3)∧(h.Depth=1∨h.Depth=2∨h.Depth=4))→J2 (false,()) w1:=fun hh=>key false (by unfold qd4;exact (decide_eq_false hh).symm)
 refine cO (fun e=>kt (.inl (eq_of_beq e))) fun e8=>?_
 have e8:h.Depth≠8:=by simpa using e8
 have low:¬(h.Depth=16∧h.Color≠3)→∀(hc:h.Color=0∨h.Color=3),cond (h.Depth==(1:Int)) (J2 (true,()) w1) (cond (h.Depth==(2:Int)) (J2 (true,()) w1) (J2 ((h.Depth==(4:Int)),()) w1)):=by
  intro hx16 hc
  refine cO (fun e=>kt (.inr (.inr ⟨hc,.inl (eq_of_beq e)⟩))) fun e1=>?_
  have e1:h.Depth≠1:=by simpa using e1
  refine cO (fun e=>kt (.inr (.inr ⟨hc,.inr (.inl (eq_of_beq e))⟩))) fun e2=>?_
  have e2:h.Depth≠2:=by simpa using e2
  by_cases e4:h.Depth=4
  ·rw [zbt e4];exact kt (.inr (.inr ⟨hc,.inr (.inr e4)⟩))
  ·rw [qqd e4]
   refine kf fun hh=>?_
   rcases hh with hh | ⟨hh,hh2⟩ | ⟨_,hh | hh | hh⟩
   ·exact e8 hh
   ·rcases hc with hc | hc
    ·exact hx16 ⟨hh,hh2⟩
    ·exact hh2 hc
   ·exact e1 hh
   ·exact e2 hh
   ·exact e4 hh
 have rest:¬(h.Depth=16∧h.Color≠3)→ldI .i64 ((⟨w.heap.size,0,none⟩:Addr).add 3) w1 fun t38 =>
      cond (t38==(0:Int))
       (cond (h.Depth==(1:Int)) (J2 (true,()) w1) (cond (h.Depth==(2:Int)) (J2 (true,()) w1) (J2 ((h.Depth==(4:Int)),()) w1)))
       (
        ldI .i64 ((⟨w.heap.size,0,none⟩:Addr).add 3) w1 fun t42 =>
        cond (t42==(3:Int))
         (cond (h.Depth==(1:Int)) (J2 (true,()) w1) (cond (h.Depth==(2:Int)) (J2 (true,()) w1) (J2 ((h.Depth==(4:Int)),()) w1)))
         (J2 (false,()) w1)):=by
  intro hn
  refine lI (x:=h.Color) (h1.cells 3 _ rfl) (cO (fun e=>low hn (.inl (eq_of_beq e))) fun e0=>?_)
  have e0:h.Color≠0:=by simpa using e0
  refine lI (x:=h.Color) (h1.cells 3 _ rfl) (cO (fun e=>low hn (.inr (eq_of_beq e))) fun e3=>?_)
  have e3:h.Color≠3:=by simpa using e3
  exact kf fun hh=>by
   rcases hh with hh | hh | ⟨hh | hh,_⟩
   ·exact e8 hh
   ·exact hn hh
   ·exact e0 hh
   ·exact e3 hh
 refine cO (fun e=>?_) fun e=>?_
 ·have e16:h.Depth=16:=eq_of_beq e
  refine lI (x:=h.Color) (h1.cells 3 _ rfl) (cO (fun e=>kt (.inr (.inl ⟨e16,by simpa using e⟩))) fun e=>rest ?_)
  have:h.Color=3:=by simpa using e
  omega
 ·have e16:h.Depth≠16:=by simpa using e
  exact rest fun h=>e16 h.1
theorem q0w {K:Slc→World→Prop} (hK:∀t w',Go.Vc.Own qab w' w.heap.size ⟨some t,8,8⟩ signL→Below w.heap.size w w'→K ⟨some t,8,8⟩ w'):qq3 w K:=by
 refine zao ?_
 unfold qt2
 exact nwb fun w1 h1 hB1 hs1=>hK _ w1 (q1m (E:=qab) (ys:=signL) (Nat.le_refl _) h1 (by decide) rfl) hB1
theorem q8x {s:Slc} {bs:List UInt8} {K:Bool→World→Prop} (hs:Rd qab w s bs) (hl:bs.length=4) (hK:K (bs.all qbp) w):qpx s w K:=by
 refine q3k _ ?_
 unfold qn6
 refine lpR (fun (st:Int×Unit) w1=>w1=w∧∃i:Nat,st.1=i∧i≤4∧(bs.take i).all qbp=true) (fun st=>4-st.1.toNat) ⟨rfl,0,rfl,by omega,rfl⟩ ?_
 rintro ⟨i,u⟩ w1 ⟨rfl,m,hi,hm,hno⟩ I hI
 dsimp only at hi ⊢
 subst hi
 by_cases hlt:m<4
 ·refine cT (decide_eq_true (by omega)) ?_
  obtain ⟨x,hx,hxs⟩:=qa0 (xs:=bs) (k:=m) (by omega)
  refine hs.ix (i:=(m:Int)) (k:=1) rfl (by omega) (by omega) fun hcell=>?_
  rw [hxs] at hcell
  refine ldB8 (b:=x) hcell ?_
  have yes:qbp x=true→I ((IntKind.i64.wrap ((m:Int)+(1:Int))),()) w1:=fun hxl=>by
   rw [w64i (by omega)]
   refine hI _ _ ⟨rfl,m+1,rfl,by omega,?_⟩ (by simp;omega)
   rw [List.take_add_one,hx,List.all_append,hno]
   simp [hxl]
  have no:qbp x=false→K false w1:=fun hxl=>by
   have:bs.all qbp=false:=by
    rw [List.all_eq_false]
    exact ⟨x,List.mem_of_getElem? hx,by rw [hxl];simp⟩
   rw [this] at hK
   exact hK
  unfold qbp at yes no
  have low:¬(65≤x.toNat∧x.toNat≤90)→cond (decide ((x.toNat:Int)≥(97:Int))) (cond (!(decide ((x.toNat:Int)≤(122:Int)))) (K false w1) (I ((IntKind.i64.wrap ((m:Int)+(1:Int))),()) w1)) (K false w1):=by
   intro hn
   refine cO (fun e=>?_) fun e=>?_
   ·have e:=of_decide_eq_true e
    refine cO (fun e2=>no (decide_eq_false ?_)) fun e2=>yes (decide_eq_true ?_)
    ·have e2:¬((x.toNat:Int)≤122):=by simpa using e2
     omega
    ·have e2:((x.toNat:Int)≤122):=by simpa using e2
     omega
   ·have e:=of_decide_eq_false e
    exact no (decide_eq_false (by omega))
  refine cO (fun e=>?_) fun e=>?_
  ·have e:=of_decide_eq_true e
   refine cO (fun e2=>yes (decide_eq_true ?_)) fun e2=>low ?_
   ·have e2:=of_decide_eq_true e2
    omega
   ·have e2:=of_decide_eq_false e2
    omega
  ·have e:=of_decide_eq_false e
   exact low (by omega)
 ·refine cF (decide_eq_false (by omega)) ?_
  obtain rfl:m=4:=by omega
  rw [List.take_of_length_le (by omega)] at hno
  rw [hno] at hK
  exact hK
theorem zef {b:Slc} {bs:List UInt8} {K:T_png_Chunk→Int→Int→World→Prop} (hb:Rd qab w b bs) (hl:bs.length≤1000000000)
  (hE:∀n x w',qbq bs=.err n→n≠0→Below w.heap.size w w'→K x 0 n w')
  (hO:∀c n x w',qbq bs=.ok c n→ChO w' w.heap.size x c→Below w.heap.size w w'→12≤n→n≤bs.length→K x n 0 w'):quc b w K:=by
 refine q8j _ ?_
 unfold qsa
 rw [hb.n]
 refine nwb fun w1 h1 hB1 hs1=>?_
 have hend:∀(n:Nat) w2,qbq bs=.err n→n≠0→Below w.heap.size w w2→Below w1.heap.size w1 w2→stK ⟨w.heap.size,0,none⟩ [(.string (⟨#[]⟩:ByteArray)),(.slice none 0 0)] w2 fun w3=>ldS T_png_Chunk.rep ⟨w.heap.size,0,none⟩ w3 fun r=>K r 0 n w3:=by
  intro n w2 hc hn hB hB'
  exact qby (r:=T_png_Chunk.rep) (x:=⟨⟨#[]⟩,⟨none,0,0⟩⟩) (h1.ext hB') rfl rfl fun w3 hc3 hs3=>hE n _ w3 hc hn (b1o hB hc3 (Nat.le_refl _))
 refine cO (fun h4=>?_) fun h4=>?_
 ·have h4:=of_decide_eq_true h4
  exact hend 2 w1 (by unfold qbq;rw [if_pos (by omega)]) (by decide) hB1 (Below.refl _ _)
 have h4:=of_decide_eq_false h4
 have h4':¬bs.length<4:=by omega
 have hb1:=hb.ext hB1
 refine rBigG hb1 (by omega) ?_
 have hB3:Below w.heap.size w w1.drew:=bT hB1 (bdw _)
 have hB3':Below w1.heap.size w1 w1.drew:=bdw _
 obtain ⟨w3,hw3⟩:∃w3,w3=w1.drew:=⟨_,rfl⟩
 rw [←hw3] at hB3 hB3' ⊢
 have hnl:=qyx (bs:=bs.take 4) (by rw [List.length_take];omega)
 obtain ⟨n,hn⟩:∃n,n=bigN (bs.take 4):=⟨_,rfl⟩
 rw [←hn] at hnl ⊢
 rw [w64i (x:=(n:Int)) (by omega)]
 refine cO (fun h5=>?_) fun h5=>?_
 ·have h5:=of_decide_eq_true h5
  exact hend 3 w3 (by unfold qbq;rw [if_neg h4',←hn,if_pos (by omega)]) (by decide) hB3 hB3'
 have h5:=of_decide_eq_false h5
 have h5':¬n>2147483647:=by omega
 refine cO (fun h6=>?_) fun h6=>?_
 ·have h6:=of_decide_eq_true h6
  exact hend 2 w3 (by unfold qbq;rw [if_neg h4',←hn,if_neg h5',if_pos (by omega)]) (by decide) hB3 hB3'
 have h6:=of_decide_eq_false h6
 have h6':¬bs.length<8:=by omega
 have hb3:=hb.ext hB3
 refine hb3.slK (l:=4) (m:=8) rfl (.inr rfl) (.inr rfl) (by omega) (by omega) fun hp=>?_
 refine q8x hp (by rw [List.length_drop,List.length_take];omega) ?_
 refine cO (fun h7=>?_) fun h7=>?_
 ·have h7:((bs.take 8).drop 4).all qbp=false:=by simpa using h7
  exact hend 3 w3 (by unfold qbq;rw [if_neg h4',←hn,if_neg h5',if_neg h6',if_pos h7]) (by decide) hB3 hB3'
 have h7:((bs.take 8).drop 4).all qbp=true:=by simpa using h7
 have h7':¬((bs.take 8).drop 4).all qbp=false:=by rw [h7];simp
 rw [w64i (x:=((bs.length:Nat):Int)-12) (by omega)]
 refine cO (fun h8=>?_) fun h8=>?_
 ·have h8:=of_decide_eq_true h8
  exact hend 2 w3 (by unfold qbq;rw [if_neg h4',←hn,if_neg h5',if_neg h6',if_neg h7',if_pos (by omega)]) (by decide) hB3 hB3'
 have h8:=of_decide_eq_false h8
 have h8':¬n+12>bs.length:=by omega
 have e8:IntKind.i64.wrap ((8:Int)+(n:Int))=((8+n:Nat):Int):=by rw [w64i (by omega)];simp
 have e12:IntKind.i64.wrap ((12:Int)+(n:Int))=((12+n:Nat):Int):=by rw [w64i (by omega)];omega
 rw [e8,e12]
 refine hb3.slK (l:=4) (m:=8+n) rfl (.inr rfl) (.inr rfl) (by omega) (by omega) fun hp1=>?_
 refine hb3.slK (l:=8+n) (m:=bs.length) rfl (.inr rfl) (.inl ⟨rfl,rfl⟩) (by omega) (by omega) fun hp2=>?_
 rw [List.take_length] at hp2
 have hBd:=bT hB3 (bdw w3)
 have hBd':=bT hB3' (bdw w3)
 have hp1d:=hp1.ext (bdw w3)
 have hp2d:=hp2.ext (bdw w3)
 refine q65 hp1d (by rw [List.length_drop,List.length_take];omega) (rBigG hp2d (by rw [List.length_drop];omega) ?_)
 have hB:=bT hBd (bdw _)
 have hB':=bT hBd' (bdw _)
 obtain ⟨w12,hw12⟩:∃w12,w12=w3.drew.drew:=⟨_,rfl⟩
 rw [←hw12] at hB hB' ⊢
 refine cO (fun h9=>?_) fun h9=>?_
 ·have h9:crcN ((bs.take (8+n)).drop 4)≠bigN ((bs.drop (8+n)).take 4):=fun e=>by rw [e] at h9;simp at h9
  exact hend 4 w12 (by unfold qbq;rw [if_neg h4',←hn,if_neg h5',if_neg h6',if_neg h7',if_neg h8',if_pos h9]) (by decide) hB hB'
 ·have h9:¬crcN ((bs.take (8+n)).drop 4)≠bigN ((bs.drop (8+n)).take 4):=fun e=>by
   refine e ?_
   have:((crcN ((bs.take (8+n)).drop 4):Nat):Int)=((bigN ((bs.drop (8+n)).take 4):Nat):Int):=by simpa using h9
   exact Int.ofNat.inj this
  have hok:qbq bs=.ok ⟨(bs.take 8).drop 4,(bs.take (8+n)).drop 8⟩ (12+n):=by unfold qbq;rw [if_neg h4',←hn,if_neg h5',if_neg h6',if_neg h7',if_neg h8',if_neg h9]
  have hBd:=bT hB (bdw w12)
  have hBd':=bT hB' (bdw w12)
  have hb12:=hb.ext hB
  refine hb12.slK (l:=4) (m:=8) rfl (.inr rfl) (.inr rfl) (by omega) (by omega) fun hq1=>?_
  refine hb12.slK (l:=8) (m:=8+n) rfl (.inr rfl) (.inr rfl) (by omega) (by omega) fun hq2=>?_
  have hq1d:=hq1.ext (bdw w12)
  have hq2d:=hq2.ext (bdw w12)
  have hsz:=hBd.size
  have fin:∀(t:Slc) w15,Go.Vc.Own qab w15 w12.drew.heap.size t ((bs.take (8+n)).drop 8)→Below w12.drew.heap.size w12.drew w15 →
    stK ⟨w.heap.size,0,none⟩ [(.string (strB ((bs.take 8).drop 4))),(.slice t.a t.n t.c)] w15 fun w16=>ldS T_png_Chunk.rep ⟨w.heap.size,0,none⟩ w16 fun r_6=>K r_6 ((12+n:Nat):Int) 0 w16:=by
   intro t w15 ht hB15
   refine qby (r:=T_png_Chunk.rep) (x:=⟨strB ((bs.take 8).drop 4),t⟩) (h1.ext (bT hBd' hB15)) rfl rfl fun w16 hc16 hs16=>?_
   refine hO _ (12+n) _ w16 hok ⟨rfl,?_⟩ (b1o (bT hBd hB15) hc16 (Nat.le_refl _)) (by omega) (by omega)
   refine (ht.chg hc16 fun g hg e=>?_).base (by omega)
   have:=(ht.lt g hg).1
   have:=hBd'.size
   omega
  have hlen2:((bs.take (8+n)).drop 8).length≤1000000000:=by rw [List.length_drop,List.length_take];omega
  refine ⟨⟨_,_,qa3 hq1d,?_⟩,?_⟩
  ·refine nwb fun w13 h13 hB13 hs13=>?_
   refine apB (qku (E:=qab) (base:=w12.drew.heap.size) h13 (Nat.le_refl _)) (hq2d.ext hB13) (by omega) (by simp only [List.length_nil];omega) fun r w14 hr hc14 _=>?_
   exact fin r w14 hr (hB13.trans (hc14.below hB13.size fun i hi e=>absurd (show i=w12.drew.heap.size by cases e;rfl) (by omega)))
  ·refine nwb fun w13 h13 hB13 hs13=>⟨⟨_,_,qa3 (hq1d.ext hB13),?_⟩,?_⟩
   ·refine apB (qku (E:=qab) (base:=w12.drew.heap.size) h13 (Nat.le_refl _)) (hq2d.ext hB13) (by omega) (by simp only [List.length_nil];omega) fun r w14 hr hc14 _=>?_
    exact fin r w14 hr (hB13.trans (hc14.below hB13.size fun i hi e=>absurd (show i=w12.drew.heap.size by cases e;rfl) (by omega)))
   ·refine apB (qku (E:=qab) (base:=w12.drew.heap.size) h13 (Nat.le_refl _)) (hq2d.ext hB13) (by omega) (by simp only [List.length_nil];omega) fun r w14 hr hc14 _=>?_
    have hB14:=hB13.trans (hc14.below hB13.size fun i hi e=>absurd (show i=w12.drew.heap.size by cases e;rfl) (by omega))
    exact ⟨_,_,qa3 (hq1d.ext hB14),fin r w14 hr hB14⟩
structure ChsR (w:World) (b:Nat) (s:Slc) (L:List ChL):Prop where
 ex:∃xs,Go.Vc.Own qem w b s xs∧xs.length=L.length∧∀(i:Nat) x c,xs[i]?=some x→L[i]?=some c→ChO w b x c
theorem ChsR.ext {w w':World} {b:Nat} {s:Slc} {L:List ChL} (h:ChsR w b s L) (hB:Below w.heap.size w w'):ChsR w' b s L:=by
 obtain ⟨xs,h1,h2,h3⟩:=h
 exact ⟨xs,h1.ext hB,h2,fun i x c hx hc=>(h3 i x c hx hc).ext hB⟩
theorem ChsR.push {b:Nat} {s:Slc} {L:List ChL} (h:ChsR w b s L) (hL:L.length≤10000000) (hb:b≤w.heap.size) {x:T_png_Chunk} {c:ChL} (hx:ChO w b x c) {K:Slc→World→Prop} (hK:∀r w',ChsR w' b r (L++[c])→Below b w w'→w.heap.size≤w'.heap.size→Chg (fun k=>s.blk=some k) w w'→K r w') :
  nw qdh (T_png_Chunk.rep.cells x) w fun a w1=>apK PG #[qca,qca] qca s ⟨some a,1,1⟩ w1 K:=by
 obtain ⟨xs,h2,h3,h4⟩:=h
 refine q1v (E:=qem) (y:=x) ql9 h2 rfl hb (by rw [qs1];omega) (by unfold maxLen;omega) fun r w5 hr5 hch hrb=>?_
 have key:∀{y d},ChO w b y d→ChO w5 b y d:=fun {y d} h=>h.chg hch fun k hk e=>q41 h.data h2 (by decide) k hk e
 refine hK r w5 ⟨xs++[x],hr5,by simp [h3],fun i y d hy hd=>?_⟩ (hch.below hb fun i hi e=>by have:=(h2.lt i e).1;omega) hch.size hch
 rcases Nat.lt_or_ge i xs.length with hi | hi
 ·rw [List.getElem?_append_left hi] at hy
  rw [List.getElem?_append_left (by omega)] at hd
  exact key (h4 i y d hy hd)
 ·rw [List.getElem?_append_right hi] at hy
  rw [List.getElem?_append_right (by omega)] at hd
  rw [h3] at hy
  generalize i-L.length=j at hy hd
  match j,hy,hd with
  | 0,hy,hd =>
   simp at hy hd
   subst hy hd
   exact key hx
  | j+1,hy,hd=>simp at hy
theorem q7s {bs:List UInt8} {i:Nat} (hi:i≤8) (h:∀j,j<i→bs[j]?=signL[j]?):bs.take i=signL.take i:=by
 refine List.ext_getElem? fun j=>?_
 by_cases hj:j<i
 ·rw [List.getElem?_take_of_lt hj,List.getElem?_take_of_lt hj,h j hj]
 ·rw [List.getElem?_take,List.getElem?_take,if_neg hj,if_neg hj]
theorem qpi {b:Slc} {bs:List UInt8} {one:Bool} {K:Slc→Int→World→Prop} (hb:Rd qab w b bs) (hl:bs.length≤1000000)
  (hK:∀s w',ChsR w' w.heap.size s (qaz one bs).2→Below w.heap.size w w'→K s (qaz one bs).1 w'):qmy b one w K:=by
 refine q56 _ _ ?_
 unfold qpm
 refine q0w fun t w1 hs hB1=>?_
 have nil:∀w',ChsR w' w.heap.size ⟨none,0,0⟩ []:=fun w'=>⟨[],Own.nil _ _ _,rfl,fun i x c hx=>by simp at hx⟩
 refine lpR (fun (st:Int×Unit) w2=>∃i:Nat,st.1=i∧i≤8∧i≤bs.length∧(∀j,j<i→bs[j]?=signL[j]?)∧Below w1.heap.size w1 w2) (fun st=>8-st.1.toNat) ⟨0,rfl,by omega,by omega,fun j hj=>by omega,Below.refl _ _⟩ ?_
 rintro ⟨i,u⟩ w2 ⟨i,rfl,hi,hib,hsg,hB12⟩ I hI
 dsimp only
 have hB2:=bT hB1 hB12
 refine cO (fun hlt=>?_) fun hge=>?_
 ·have hlt:=of_decide_eq_true hlt
  rw [hb.n]
  refine cO (fun h=>?_) fun h=>?_
  ·have h:=of_decide_eq_true h
   have hil:i=bs.length:=by omega
   have ht:=q7s hi hsg
   have hs2:signP bs=2:=by
    unfold signP
    rw [if_neg,if_pos (by omega)]
    rw [hil,List.take_length] at ht
    rw [List.take_of_length_le (by omega),←ht]
    simp
   have hc:qaz one bs=(2,[]):=by unfold qaz;rw [hs2,if_pos (by decide)]
   rw [hc] at hK
   exact hK _ w2 (nil w2) hB2
  have h:=of_decide_eq_false h
  have hil:i<bs.length:=by omega
  obtain ⟨x,hx,hxs⟩:=qa0 (xs:=bs) (k:=i) hil
  obtain ⟨y,hy,hys⟩:=qa0 (xs:=signL) (k:=i) (show i<8 by omega)
  have hBd:=bdw w2
  have hbd:=hb.ext (bT hB2 hBd)
  have hsd:=(hs.ext hB12).ext hBd
  refine (hb.ext hB2).ix (i:=(i:Int)) rfl (by omega) (by omega) fun _=>lI (x:=(x.toNat:Int)) (by rw [Int.toNat_natCast];exact qa9 hbd hx) ?_
  refine (hs.ext hB12).rd.ix (i:=(i:Int)) rfl (by omega) (by show (i:Int)<8;omega) fun _=>lI (x:=(y.toNat:Int)) (by rw [Int.toNat_natCast];exact qa9 hsd.rd hy) ?_
  refine cO (fun e=>?_) fun e=>?_
  ·have hne:x≠y:=fun h=>by rw [h] at e;simp at e
   have hs3:signP bs=3:=by
    unfold signP
    rw [if_pos]
    intro h8
    have h1:(bs.take 8)[i]?=(signL.take bs.length)[i]?:=by rw [h8]
    rw [List.getElem?_take_of_lt (by omega),List.getElem?_take_of_lt hil,hx,hy] at h1
    exact hne (Option.some.inj h1)
   have hc:qaz one bs=(3,[]):=by unfold qaz;rw [hs3,if_pos (by decide)]
   rw [hc] at hK
   exact hK _ _ (nil _) (bT hB2 hBd)
  ·have he:x=y:=by
    have:((x.toNat:Nat):Int)=((y.toNat:Nat):Int):=by simpa using e
    exact UInt8.toNat_inj.1 (by omega)
   rw [w64i (by omega)]
   refine hI _ _ ⟨i+1,rfl,by omega,by omega,fun j hj=>?_,bT hB12 hBd⟩ (by simp;omega)
   by_cases hji:j=i
   ·rw [hji,hx,hy,he]
   ·exact hsg j (by omega)
 have hge:=of_decide_eq_false hge
 obtain rfl:i=8:=by omega
 have ht:=q7s hi hsg
 have hs0:signP bs=0:=by
  unfold signP
  rw [if_neg,if_neg (by omega)]
  rw [ht,List.take_of_length_le (show signL.length≤8 from Nat.le_refl 8),List.take_of_length_le (show signL.length≤bs.length from hib)]
  simp
 refine Rd.slE (hb.ext hB2) (l:=8) (m:=bs.length) rfl (.inr rfl) (.inl ⟨rfl,rfl⟩) (by omega) (Nat.le_refl _) fun r0 hr0 _=>?_
 rw [List.take_length] at hr0
 have hcs:qaz one bs=if (qay one bs.length (bs.drop 8)).1≠0 then ((qay one bs.length (bs.drop 8)).1,[]) else (0,(qay one bs.length (bs.drop 8)).2):=by
  unfold qaz
  rw [hs0,if_neg (by decide)]
 rw [hcs] at hK
 have nil2:∀w',ChsR w' w2.heap.size ⟨none,0,0⟩ []:=fun w'=>⟨[],Own.nil _ _ _,rfl,fun i x c hx=>by simp at hx⟩
 have hs2:=hB2.size
 have up:∀{w':World} {s:Slc} {L:List ChL},ChsR w' w2.heap.size s L→ChsR w' w.heap.size s L:=fun {w' s L} h=>by
  obtain ⟨xs,h1,h2,h3⟩:=h
  exact ⟨xs,h1.base hs2,h2,fun i x c hx hc=>(h3 i x c hx hc).base hs2⟩
 refine lpR (fun (s:Slc×Slc×Unit) w3=>∃(L:List ChL) (rest:List UInt8) (fu:Nat),ChsR w3 w2.heap.size s.2.1 L∧Rd qab w2 s.1 rest∧Below w2.heap.size w2 w3∧rest.length<fu∧L.length+rest.length≤bs.length∧qay one bs.length (bs.drop 8)=((qay one fu rest).1,L++(qay one fu rest).2)) (fun s=>s.1.n)
  ⟨[],bs.drop 8,bs.length,nil2 w2,hr0,Below.refl _ _,by rw [List.length_drop];omega,by rw [List.length_drop];simp,by simp⟩ ?_
 rintro ⟨s,o,u⟩ w3 ⟨L,rest,fu,hL,hrd,hB23,hfu,hlen,hch⟩ I2 hI2
 dsimp only at hL hrd ⊢
 obtain ⟨fu,rfl⟩:∃k,fu=k+1:=⟨fu-1,by omega⟩
 have hrd3:=hrd.ext hB23
 have hB3:=bT hB2 hB23
 refine zef hrd3 (by omega) (fun n x w4 hcp hn hB4=>?_) (fun c n x w4 hcp hx hB4 hn12 hnle=>?_)
 ·refine nwb fun w5 h5 hB5 hs5=>qa2 h5 rfl fun w6 h6 hc6 hs6=>?_
  refine cT (qdz (by omega)) ?_
  have:qay one bs.length (bs.drop 8)=(n,L):=by rw [hch,qay,hcp];simp
  rw [this,if_pos hn] at hK
  exact hK _ w6 (nil w6) (b1o (bT (bT hB3 hB4) hB5) hc6 (bT hB3 hB4).size)
 ·refine nwb fun w5 h5 hB5 hs5=>qa2 h5 rfl fun w6 h6 hc6 hs6=>?_
  have hB46:Below w4.heap.size w4 w6:=b1o hB5 hc6 (Nat.le_refl _)
  have hB36:=bT hB4 hB46
  have hB26:=bT hB23 hB36
  refine cF rfl (qas (r:=T_png_Chunk.rep) (x:=x) h6.cells ?_)
  have hx6:ChO w6 w2.heap.size x c:=(hx.ext hB46).base hB23.size
  have holt:∀k,o.blk=some k→k<w3.heap.size:=by
   obtain ⟨xs,h1,_,_⟩:=hL
   exact fun k hk=>(h1.lt k hk).2
  refine (hL.ext hB36).push (by omega) hB26.size hx6 fun r w8 hr8 hB8 hs8 hkeep=>?_
  have hB28:Below w2.heap.size w2 w8:=hB26.trans hB8
  have hB08:=bT hB2 hB28
  refine jpO fun J3 hJ3=>jpO fun J4 hJ4=>?_
  have stop:(one || decide (c.kind=iendL))=true→J4 (true,()) w8:=fun hg=>by
   refine hJ4 _ _ (cT rfl ?_)
   have:qay one bs.length (bs.drop 8)=(0,L++[c]):=by rw [hch,qay,hcp];simp only [hg];rfl
   rw [this,if_neg (by simp)] at hK
   exact hK r w8 (up hr8) hB08
  have on:(one || decide (c.kind=iendL))=false→J4 (false,()) w8:=fun hg=>by
   refine hJ4 _ _ (cF rfl (hJ3 _ _ ?_))
   have hrd8:=hrd.ext hB28
   refine hrd8.slK (l:=n) (m:=rest.length) rfl (.inr rfl) (.inl ⟨rfl,rfl⟩) hnle (Nat.le_refl _) fun _=>?_
   have hrn0:=hrd.part (l:=n) (m:=rest.length) hnle (Nat.le_refl _)
   rw [List.take_length] at hrn0
   refine hI2 _ _ ⟨L++[c],rest.drop n,fu,hr8,hrn0,hB28,by rw [List.length_drop];omega,by rw [List.length_append,List.length_drop,List.length_singleton];omega,?_⟩ ?_
   ·rw [hch,qay,hcp]
    simp only [hg]
    simp
   ·have:=hrd.n
    show rest.length-n<s.n
    omega
  cases hone:one with
  | true =>
   rw [hone] at stop
   exact cT rfl (stop rfl)
  | false =>
   rw [hone,Bool.false_or] at stop on
   refine cF rfl (qcd (x:=x.Kind) ((h6.chg hkeep fun e=>by have:=holt _ e;have:=hB4.size;omega).cells 0 _ rfl) ?_)
   rw [hx.kind,show (⟨#[73,69,78,68]⟩:ByteArray)=strB iendL from rfl,qpw]
   cases hk:decide (c.kind=iendL) with
   | true=>exact stop hk
   | false=>exact on hk
end
end Go.Proofs.YtmagnpcgpinmcaaGreat
