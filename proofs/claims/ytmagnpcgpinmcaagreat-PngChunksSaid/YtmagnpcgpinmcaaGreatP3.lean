import Derived.Test.YtmagnpcgpinmcaaGreatP2
set_option linter.unusedVariables false
set_option linter.unusedVariables false
namespace Go.Proofs.YtmagnpcgpinmcaaGreat
open Go.Vc Go.RowKit
set_option maxRecDepth 400000
abbrev q3y:Nat:=256
abbrev qy4:Nat:=257
def qd1 (v:Nat):List Value:=[.int .u32 (v:Int)]
def qhz:List Value:=halfT.map fun (v:Nat)=>Value.int .u32 (v:Int)
theorem zj8:∀i:Nat,i<16→halfT[i]?.getD 0<2^32:=by decide +kernel
theorem q7a (v:Nat) (bs:List UInt8) (b:UInt8):crcS v (bs++[b])=byteC (crcS v bs) b:=by unfold crcS;rw [List.foldl_append];rfl
theorem and15 (v:Nat):v &&& 15=v%16:=by
 have:=Nat.and_two_pow_sub_one_eq_mod v 4
 simpa using this
section
variable {w:World}
theorem zjd {s:Nat} {v:Nat} {b:Slc} {bs:List UInt8} {K:Int→Value→World→Prop} (hs:Blk w s qcq (qd1 v)) (hv:v<2^32) (hb:Rd qab w b bs) (hne:bs≠[]→∀k,b.blk=some k→k≠s) (hl:bs.length≤1000000000000)
  (hK:∀w',Blk w' s qcq (qd1 (crcS v bs))→Chg (fun k=>k=s) w w'→K ((bs.length:Nat):Int) .nilIface w'):qj2 (some ⟨s,0,none⟩) b w K:=by
 refine qv5 _ _ ?_
 unfold qjq
 simp only [onPtr_some]
 rw [hb.n]
 refine nwb fun w1 hf1 hB1 hs1=>?_
 refine qae hf1 (by simp) fun w2 hf2 hg2 hs2=>?_
 have hsl:=hs.lt
 obtain ⟨hn,hhn⟩:∃hn,hn=w.heap.size:=⟨_,rfl⟩
 rw [←hhn] at hf2 hg2 ⊢
 have hf2:Blk w2 hn qgj qhz:=hf2
 have hsn:s≠hn:=by omega
 have hB2:Below w.heap.size w w2:=hB1.grown hg2 (by omega) fun k hk=>by cases hk;omega
 have hs2:Blk w2 s qcq (qd1 v):=hs.ext hB2
 have hb2:Rd qab w2 b bs:=hb.ext hB2
 clear hf1 hB1
 refine lpR (fun (t:Int×Unit) w3=>∃i:Nat,t.1=i∧i≤bs.length∧Blk w3 s qcq (qd1 (crcS v (bs.take i)))∧Blk w3 hn qgj qhz∧Chg (fun k=>k=s) w2 w3) (fun t=>bs.length-t.1.toNat) ⟨0,rfl,by omega,hs2,hf2,Chg.refl _ _⟩ ?_
 rintro ⟨i,_⟩ w3 ⟨i,rfl,hi,h3,hf3,hc⟩ I hI
 dsimp only at *
 refine cO (fun hlt=>?_) (fun hge=>?_)
 ·have hlt:=of_decide_eq_true hlt
  have hil:i<bs.length:=by omega
  obtain ⟨x,hx,hxs⟩:=qa0 (xs:=bs) (k:=i) hil
  have hbn:bs≠[]:=fun e=>by rw [e] at hil;exact absurd hil (Nat.not_lt_zero _)
  have hb3:Rd qab w3 b bs:=hb2.chg hc fun a ha e=>hne hbn _ (slk.2 ⟨a,ha,rfl⟩) e
  refine hb3.ix (i:=(i:Int)) rfl (by omega) (by omega) fun hcx=>?_
  rw [hxs] at hcx
  refine ldB8 (b:=x) hcx ?_
  obtain ⟨q,hq⟩:∃q,q=crcS v (bs.take i):=⟨_,rfl⟩
  rw [←hq] at h3
  have hql:q<2^32:=hq ▸ qo6 _ hv
  have h8:=x.toNat_lt
  have hxl:=qmc hql x
  refine lI (x:=(q:Int)) (h3.cells 0 _ rfl) ?_
  rw [qad .u32 (x:=x.toNat) (by show _<2^32;omega),qf0 .u32 hql (by show _<2^32;omega),add_zero]
  have nib:∀{u:Nat} {wa:World} {J:World→Prop},u<2^32→Blk wa s qcq (qd1 u)→Blk wa hn qgj qhz→(∀w',Blk w' s qcq (qd1 (nibC u))→Blk w' hn qgj qhz→Chg (fun k=>k=s) wa w'→J w') →
    ldI .u32 (⟨s,0,none⟩:Addr) wa.drew fun t29=>0≤(4:Int)∧ldI .u32 (⟨s,0,none⟩:Addr) wa.drew fun t34=>ixA (⟨hn,0,none⟩:Addr) 16 (bitsR .and .u32 t34 (15:Int)) 1 fun t36=>ldI .u32 t36 wa.drew fun t37 =>
     stK (⟨s,0,none⟩:Addr) [(.int .u32 (bitsR .xor .u32 (t29.fdiv (2^(min (4:Int).toNat IntKind.u32.bits))) t37))] wa.drew J:=by
   intro u wa J hu ha hfa hJ
   have had:Blk wa.drew s qcq (qd1 u):=ha
   have hfd:Blk wa.drew hn qgj qhz:=hfa
   refine lI (x:=(u:Int)) (had.cell 0 rfl) ⟨by decide,lI (x:=(u:Int)) (had.cell 0 rfl) ?_⟩
   rw [show (15:Int)=((15:Nat):Int) from rfl,qdn .u32 hu (by decide),and15]
   have h16:u%16<16:=Nat.mod_lt _ (by decide)
   refine ⟨⟨by omega,by show ((u%16:Nat):Int)<((16:Nat):Int);omega⟩,?_⟩
   rw [Int.toNat_natCast,Nat.mul_one]
   have hcell:qhz[u%16]?=some (.int .u32 ((halfT[u%16]?.getD 0:Nat):Int)):=by
    unfold qhz
    rw [List.getElem?_map,List.getElem?_eq_getElem (show u%16<halfT.length from h16)]
    rfl
   refine lI (x:=((halfT[u%16]?.getD 0:Nat):Int)) (hfd.cells _ _ hcell) ?_
   rw [show min ((4:Int)).toNat IntKind.u32.bits=4 by decide,qbl,qf0 .u32 (by show _<2^32;omega) (zj8 _ h16)]
   refine qae had (by simp [qd1]) fun w' hb' hg' hs'=>hJ w' hb' (hfd.grown hg' (fun e=>by have:=Option.some.inj e;omega)) ?_
   have hBd:Below wa.heap.size wa wa.drew:=(Below.refl _ wa).drew
   exact (Chg.of_ext (S:=fun k=>k=s) hBd).trans (Chg.gg hg') fun i _ hi=>hi
  refine qae h3 (by simp [qd1]) fun w4 hb4 hg4 hs4=>?_
  have hb4:Blk w4 s qcq (qd1 (q ^^^ x.toNat)):=hb4
  have hf4:=hf3.grown hg4 (fun e=>by have:=Option.some.inj e;omega)
  refine nib hxl hb4 hf4 fun w5 hb5 hf5 hc5=>?_
  refine nib (qso hxl) hb5 hf5 fun w6 hb6 hf6 hc6=>?_
  rw [w64i (by omega)]
  refine hI _ _ ⟨i+1,rfl,by omega,?_,hf6,((hc.trans (Chg.gg hg4) fun i _ hi=>hi).trans hc5 fun i _ hi=>hi).trans hc6 fun i _ hi=>hi⟩ (by simp;omega)
  have e:bs.take (i+1)=bs.take i++[x]:=by rw [List.take_add_one,hx];rfl
  rw [e,q7a,←hq]
  exact hb6
 ·have hge:=of_decide_eq_false hge
  have:i=bs.length:=by omega
  subst this
  rw [List.take_length] at h3
  exact hK w3 h3 ((Chg.of_ext hB2).trans hc fun i _ hi=>hi)
theorem zhp {s:Nat} {v:Nat} {K:Int→World→Prop} (hs:Blk w s qcq (qd1 v)) (hv:v<2^32) (hK:K ((v ^^^ 4294967295:Nat):Int) w):qmf (some ⟨s,0,none⟩) w K:=by
 refine q0l _ ?_
 unfold qls
 simp only [onPtr_some]
 refine lI (x:=(v:Int)) (hs.cells 0 _ rfl) ?_
 rw [show (4294967295:Int)=((4294967295:Nat):Int) from rfl,qf0 .u32 (by decide) hv,Nat.xor_comm]
 exact hK
theorem zky (s : Option Addr) (w : World) : (method (PG.types.size + Made.depth) qfm (.pointer s) "Write").run PG w = .ok (qy4, .pointer s) w := qjw _ (by kernel_rfl) w
theorem zkt (s : Option Addr) (w : World) : (method (PG.types.size + Made.depth) qfm (.pointer s) "Sum").run PG w = .ok (q3y, .pointer s) w := qjw _ (by kernel_rfl) w
theorem zmc {s : Option Addr} {b : Slc} {K : Int → Value → World → Prop} (h : qj2 s b w K) : callI C (.iface qfm (.pointer s)) "Write" [.slice b.a b.n b.c] [(Kind.int .i64), Kind.raw] w K :=
 ⟨_,_,_,_,rfl,zky s w,by kernel_rfl,h⟩
theorem zl4 {s : Option Addr} {K : Int → World → Prop} (h : qmf s w K) : callI C (.iface qfm (.pointer s)) "Sum" [] [(Kind.int .u32)] w K :=
 ⟨_,_,_,_,rfl,zkt s w,by kernel_rfl,h⟩
theorem zaz {s g:Nat} {b:Slc} {bs:List UInt8} {K:Int→World→Prop} (hs:Blk w s qcq (qd1 4294967295)) (hg:Blk w g qaa [.slice b.a b.n b.c]) (hb:Rd qab w b bs) (hne:bs≠[]→∀k,b.blk=some k→k≠s) (hl:bs.length≤1000000000000)
  (hK:∀w',Chg (fun k=>k=s) w w'→K ((crcN bs:Nat):Int) w'):qcl (some ⟨s,0,none⟩) ⟨some ⟨g,0,none⟩,1,1⟩ w K:=by
 refine qsw _ _ ?_
 unfold qhs
 refine lpR (fun (t:Int×Unit) w1=>(t.1=0∧w1=w)∨(t.1=1∧Blk w1 s qcq (qd1 (crcS 4294967295 bs))∧Chg (fun k=>k=s) w w1)) (fun t=>1-t.1.toNat) (.inl ⟨rfl,rfl⟩) ?_
 rintro ⟨i,_⟩ w1 h I hI
 dsimp only at *
 rcases h with ⟨rfl,rfl⟩ | ⟨rfl,h1,hc⟩
 ·refine cT rfl ?_
  refine zbx rfl (by omega) (by show (0:Int)<((1:Nat):Int);omega) ?_
  refine lSl (x:=b) ?_ ?_
  ·have:=hg.cells 0 _ rfl
   simpa [Slc.at_] using this
  ·refine zmc (zjd hs (by decide) hb hne hl fun w2 hb2 hc2=>?_)
   exact hI _ _ (.inr ⟨rfl,hb2,hc2⟩) (by decide)
 ·refine cF rfl ?_
  exact zl4 (zhp h1 (qo6 _ (by decide)) (hK _ hc))
theorem CrcOf {b:Slc} {bs:List UInt8} {K:Int→World→Prop} (hb:Rd qab w b bs) (hl:bs.length≤1000000000000) (hK:∀w',Below w.heap.size w w'→K ((crcN bs:Nat):Int) w') :
  qfl w fun t38 w9=>nw qaa [(.slice b.a b.n b.c)] w9 fun t42 w10=>qcl t38 (⟨(some t42),1,1⟩:Slc) w10 K:=by
 refine qph ?_
 unfold qin
 refine nwb fun w1 h1 hB1 hs1=>nwb fun w2 h2 hB2 hs2=>?_
 have hB12:=hB1.trans (hB2.mono (by omega))
 refine zaz (h1.ext hB2) h2 (hb.ext hB12) (fun hne k hk e=>?_) hl fun w3 hc3=>hK w3 (hB12.trans (hc3.below (by omega) fun i hi e=>by omega))
 have:=Rd.blk_lt hb hne k hk
 omega
theorem zmb {b:Slc} {bs:List UInt8} {K:Int→World→Prop} (hb:Rd qab w b bs) (hl:bs.length≤1000000000000) (hK:∀w',Below w.heap.size w w'→K ((crcN bs:Nat):Int) w') :
  nw qaa [(.slice b.a b.n b.c)] w fun t42 w9=>qfl w9 fun t38 w10=>qcl t38 (⟨(some t42),1,1⟩:Slc) w10 K:=by
 refine nwb fun w1 h1 hB1 hs1=>?_
 refine qph ?_
 unfold qin
 refine nwb fun w2 h2 hB2 hs2=>?_
 have hB12:=hB1.trans (hB2.mono (by omega))
 refine zaz h2 (h1.ext hB2) (hb.ext hB12) (fun hne k hk e=>?_) hl fun w3 hc3=>hK w3 (hB12.trans (hc3.below (by omega) fun i hi e=>by omega))
 have:=Rd.blk_lt hb hne k hk
 omega
theorem q65 {b:Slc} {bs:List UInt8} {K:Int→World→Prop} (hb:Rd qab w b bs) (hl:bs.length≤1000000000000) (hK:K ((crcN bs:Nat):Int) w):qmk b w K:=by
 refine zdy _ ?_
 unfold qyg
 rw [hb.n]
 refine lpR (fun (t:Int×Int×Unit) w1=>∃i:Nat,t.2.1=i∧i≤bs.length∧t.1=(crcS 4294967295 (bs.take i):Int)∧w1=w) (fun t=>bs.length-t.2.1.toNat) ⟨0,rfl,by omega,rfl,rfl⟩ ?_
 rintro ⟨a,i,_⟩ w1 ⟨i,rfl,hi,rfl,rfl⟩ I hI
 dsimp only at *
 obtain ⟨q,hq⟩:∃q,q=crcS 4294967295 (bs.take i):=⟨_,rfl⟩
 rw [←hq]
 have hql:q<2^32:=hq ▸ qo6 _ (by decide)
 refine cO (fun hlt=>?_) (fun hge=>?_)
 ·have hlt:=of_decide_eq_true hlt
  have hil:i<bs.length:=by omega
  obtain ⟨x,hx,hxs⟩:=qa0 (xs:=bs) (k:=i) hil
  have h8:=x.toNat_lt
  refine hb.ix (i:=(i:Int)) rfl (by omega) (by omega) fun hcx=>?_
  rw [hxs] at hcx
  refine ldB8 (b:=x) hcx ?_
  rw [qad .u32 (x:=x.toNat) (by show _<2^32;omega),qf0 .u32 hql (by show _<2^32;omega)]
  have hxl:=qmc hql x
  generalize hu:q ^^^ x.toNat=u at hxl
  have hbit:byteC q x=bitC (bitC (bitC (bitC (bitC (bitC (bitC (bitC u))))))):=by rw [zic,hu]
  have e:crcS 4294967295 (bs.take (i+1))=byteC q x:=by rw [List.take_add_one,hx,hq];exact q7a _ _ _
  refine lpR (fun (t:Int×Int×Unit) w2=>∃(k:Nat) (v:Nat),t.2.1=k∧k≤8∧t.1=(v:Int)∧v<2^32∧v=(Nat.repeat bitC k u)∧w2=w1) (fun t=>8-t.2.1.toNat) ⟨0,u,rfl,by omega,rfl,hxl,rfl,rfl⟩ ?_
  rintro ⟨v,k,_⟩ w2 ⟨k,v,rfl,hk,rfl,hvl,hv,rfl⟩ I2 hI2
  dsimp only at *
  refine cO (fun hlt=>?_) (fun hge=>?_)
  ·have hlt:=of_decide_eq_true hlt
   rw [show (1:Int)=((1:Nat):Int) from rfl,qdn .u32 hvl (by decide),Nat.and_one_is_mod,show min (((1:Nat):Int)).toNat IntKind.u32.bits=1 by decide,qbl,
    show (3988292384:Int)=((3988292384:Nat):Int) from rfl,qf0 .u32 (by show _<2^32;omega) (by decide),show (k:Int)+((1:Nat):Int)=((k+1:Nat):Int) from rfl,w64i (by omega)]
   have hn:bitC v=Nat.repeat bitC (k+1) u:=by rw [hv];rfl
   have hbl:=qdb hvl
   rcases Nat.mod_two_eq_zero_or_one v with hm | hm
   ·rw [hm]
    refine cF rfl ⟨by decide,hI2 _ _ ⟨k+1,bitC v,rfl,by omega,?_,hbl,hn,rfl⟩ (by simp;omega)⟩
    dsimp only
    unfold bitC
    rw [hm];rfl
   ·rw [hm]
    refine cT rfl ⟨by decide,hI2 _ _ ⟨k+1,bitC v,rfl,by omega,?_,hbl,hn,rfl⟩ (by simp;omega)⟩
    dsimp only
    unfold bitC
    rw [hm];rfl
  ·have hge:=of_decide_eq_false hge
   have:k=8:=by omega
   subst this
   rw [w64i (by omega)]
   refine hI _ _ ⟨i+1,rfl,by omega,?_,rfl⟩ (by simp;omega)
   dsimp only
   rw [e,hbit,hv]
   rfl
 ·have hge:=of_decide_eq_false hge
  have:i=bs.length:=by omega
  subst this
  rw [List.take_length] at hq
  rw [show (4294967295:Int)=((4294967295:Nat):Int) from rfl,qf0 .u32 (by decide) hql,Nat.xor_comm,hq]
  exact hK
theorem zhs {x0 x1 x2 x3:Nat} (a0:x0<256) (a1:x1<256) (a2:x2<256) (a3:x3<256) :
  bitsR .or .u32 (bitsR .or .u32 (bitsR .or .u32 (IntKind.u32.wrap ((IntKind.u32.wrap (x0:Int))*2^(min (24:Int).toNat IntKind.u32.bits))) (IntKind.u32.wrap ((IntKind.u32.wrap (x1:Int))*2^(min (16:Int).toNat IntKind.u32.bits)))) (IntKind.u32.wrap ((IntKind.u32.wrap (x2:Int))*2^(min (8:Int).toNat IntKind.u32.bits)))) (IntKind.u32.wrap (x3:Int))=(((x0*256+x1)*256+x2)*256+x3:Nat):=by
 rw [show min ((24:Int)).toNat IntKind.u32.bits=24 by decide,show min ((16:Int)).toNat IntKind.u32.bits=16 by decide,show min ((8:Int)).toNat IntKind.u32.bits=8 by decide]
 rw [qad .u32 (x:=x0) (by show _<2^32;omega),qad .u32 (x:=x1) (by show _<2^32;omega),qad .u32 (x:=x2) (by show _<2^32;omega),qad .u32 (x:=x3) (by show _<2^32;omega),
  qa4,qa4,qa4,qad .u32 (x:=x0*2^24) (by show _<2^32;omega),qad .u32 (x:=x1*2^16) (by show _<2^32;omega),qad .u32 (x:=x2*2^8) (by show _<2^32;omega)]
 have e1:x0*2^24 ||| x1*2^16=x0*2^24+x1*2^16:=by
  rw [Nat.or_comm,Nat.mul_comm x0,qe6 (by omega)];omega
 have e2:(x0*2^24+x1*2^16) ||| x2*2^8=x0*2^24+x1*2^16+x2*2^8:=by
  rw [show x0*2^24+x1*2^16=2^16*(x0*2^8+x1) by omega,Nat.or_comm,qe6 (by omega)];omega
 have e3:(x0*2^24+x1*2^16+x2*2^8) ||| x3=x0*2^24+x1*2^16+x2*2^8+x3:=by
  rw [show x0*2^24+x1*2^16+x2*2^8=2^8*(x0*2^16+x1*2^8+x2) by omega,Nat.or_comm,qe6 (by omega)];omega
 rw [qcx .u32 (by show _<2^32;omega) (by show _<2^32;omega),e1,qcx .u32 (by show _<2^32;omega) (by show _<2^32;omega),e2,qcx .u32 (by show _<2^32;omega) (by show _<2^32;omega),e3]
 congr 1
 omega
theorem zfb {bs:List UInt8} (h:4≤bs.length):∃x0 x1 x2 x3 r,bs=x0::x1::x2::x3::r:=by
 match bs,h with
 | x0::x1::x2::x3::r,_=>exact ⟨x0,x1,x2,x3,r,rfl⟩
theorem BigG {b:Slc} {bs:List UInt8} {K:Int→World→Prop} (hb:Rd qab w b bs) (h4:4≤bs.length) (hK:K ((bigN (bs.take 4):Nat):Int) w.drew):qcf b w K:=by
 obtain ⟨x0,x1,x2,x3,r,rfl⟩:=zfb h4
 refine qu4 _ ?_
 unfold qm0
 rw [hb.n]
 have hd:Rd qab w.drew b _:=hb.drew
 simp only [List.length_cons] at h4 ⊢
 refine cF (decide_eq_false (by omega)) ?_
 refine hd.ix (i:=0) rfl (by omega) (by simp only [List.length_cons];omega) fun h0=>ldB8 (b:=x0) h0 ⟨by decide,?_⟩
 refine hd.ix (i:=1) rfl (by omega) (by simp only [List.length_cons];omega) fun h1=>ldB8 (b:=x1) h1 ⟨by decide,?_⟩
 refine hd.ix (i:=2) rfl (by omega) (by simp only [List.length_cons];omega) fun h2=>ldB8 (b:=x2) h2 ⟨by decide,?_⟩
 refine hd.ix (i:=3) rfl (by omega) (by simp only [List.length_cons];omega) fun h3=>ldB8 (b:=x3) h3 ?_
 rw [zhs x0.toNat_lt x1.toNat_lt x2.toNat_lt x3.toNat_lt,←big4]
 exact hK
theorem rBigG {b:Slc} {bs:List UInt8} {K:Int→World→Prop} (hb:Rd qab w b bs) (h4:4≤bs.length) (hK:K ((bigN (bs.take 4):Nat):Int) w.drew):qgn b w K:=by
 obtain ⟨x0,x1,x2,x3,r,rfl⟩:=zfb h4
 refine zdi _ ?_
 unfold qwl
 rw [hb.n]
 have hd:Rd qab w.drew b _:=hb.drew
 simp only [List.length_cons] at h4 ⊢
 refine cF (decide_eq_false (by omega)) ?_
 refine hd.ix (i:=0) rfl (by omega) (by simp only [List.length_cons];omega) fun h0=>ldB8 (b:=x0) h0 ⟨by decide,?_⟩
 refine hd.ix (i:=1) rfl (by omega) (by simp only [List.length_cons];omega) fun h1=>ldB8 (b:=x1) h1 ⟨by decide,?_⟩
 refine hd.ix (i:=2) rfl (by omega) (by simp only [List.length_cons];omega) fun h2=>ldB8 (b:=x2) h2 ⟨by decide,?_⟩
 refine hd.ix (i:=3) rfl (by omega) (by simp only [List.length_cons];omega) fun h3=>ldB8 (b:=x3) h3 ?_
 rw [zhs x0.toNat_lt x1.toNat_lt x2.toNat_lt x3.toNat_lt,←big4]
 exact hK
theorem qyx {bs:List UInt8} (h:bs.length≤4):bigN bs<2^32:=by
 have key:∀(l:List UInt8) (n:Nat),(l.foldl (fun n b=>n*256+b.toNat) n)<(n+1)*256^l.length:=by
  intro l
  induction l with
  | nil=>intro n;simp
  | cons x r ih =>
   intro n
   have h1:=ih (n*256+x.toNat)
   have hx:=x.toNat_lt
   rw [List.foldl_cons,List.length_cons,Nat.pow_succ]
   refine Nat.lt_of_lt_of_le h1 ?_
   rw [Nat.mul_comm (256^r.length) 256,←Nat.mul_assoc]
   exact Nat.mul_le_mul_right _ (by omega)
 have:=key bs 0
 have h2:256^bs.length≤256^4:=Nat.pow_le_pow_right (by decide) h
 unfold bigN
 omega
end
end Go.Proofs.YtmagnpcgpinmcaaGreat
set_option linter.unusedVariables false
namespace Go.Proofs.YtmagnpcgpinmcaaGreat
open Go.Vc Go.RowKit
set_option maxRecDepth 400000
theorem zj2 {zs vs:List Value} (hl:vs.length=zs.length):putL zs 0 vs=vs:=by
 refine List.ext_getElem? fun m=>?_
 rw [ql2 vs zs 0 m (by omega)]
 by_cases hm:m<vs.length
 ·rw [if_pos (by omega)];rfl
 ·rw [if_neg (by omega),List.getElem?_eq_none (by omega),List.getElem?_eq_none (by omega)]
theorem qa2 {g:Nat} {t:TypeId} {vs us:List Value} {w:World} {K:World→Prop} (h:Blk w g t vs) (hl:us.length=vs.length) (hK:∀w',Blk w' g t us→Chg (fun k=>k=g) w w'→w'.heap.size=w.heap.size→K w'):stK ⟨g,0,none⟩ us w K :=
 qae h (by omega) fun w' hb hg hs=>hK w' (by rw [zj2 hl] at hb;exact hb) (Chg.gg hg) hs
theorem qby {r:Rep} {g:Nat} {t:TypeId} {vs us:List Value} {x:r.T} {w:World} {K:r.T→World→Prop} (h:Blk w g t vs) (hus:r.cells x=us) (hl:us.length=vs.length) (hK:∀w',Chg (fun k=>k=g) w w'→w'.heap.size=w.heap.size→K x w') :
  stK ⟨g,0,none⟩ us w fun w'=>ldS r ⟨g,0,none⟩ w' fun y=>K y w' :=
 qa2 h hl fun w' hb hc hs=>qas (x:=x) (by rw [hus];exact hb.cells) (hK w' hc hs)
theorem bdw (w:World):Below w.heap.size w w.drew:=(Below.refl _ w).drew
theorem b1o {w w1 w2:World} {g:Nat} (h:Below w.heap.size w w1) (hc:Chg (fun k=>k=g) w1 w2) (hg:w.heap.size≤g):Below w.heap.size w w2 :=
 h.trans (hc.below h.size fun i hi e=>by omega)
theorem bT {w w1 w2:World} (h:Below w.heap.size w w1) (h2:Below w1.heap.size w1 w2):Below w.heap.size w w2:=h.trans (h2.mono h.size)
structure ChA (w:World) (x:T_png_Chunk) (c:ChL):Prop where
 kind:x.Kind=strB c.kind
 data:Rd qab w x.Data c.data
theorem ChA.ext {w w':World} {x:T_png_Chunk} {c:ChL} (h:ChA w x c) (hB:Below w.heap.size w w'):ChA w' x c:=⟨h.kind,h.data.ext hB⟩
structure ChO (w:World) (b:Nat) (x:T_png_Chunk) (c:ChL):Prop where
 kind:x.Kind=strB c.kind
 data:Go.Vc.Own qab w b x.Data c.data
theorem ChO.a {w:World} {b:Nat} {x:T_png_Chunk} {c:ChL} (h:ChO w b x c):ChA w x c:=⟨h.kind,h.data.rd⟩
theorem ChO.ext {w w':World} {b:Nat} {x:T_png_Chunk} {c:ChL} (h:ChO w b x c) (hB:Below w.heap.size w w'):ChO w' b x c:=⟨h.kind,h.data.ext hB⟩
theorem ChO.base {w:World} {b b':Nat} {x:T_png_Chunk} {c:ChL} (h:ChO w b x c) (hb:b'≤b):ChO w b' x c:=⟨h.kind,h.data.base hb⟩
theorem ChO.chg {S:Nat→Prop} {w w':World} {b:Nat} {x:T_png_Chunk} {c:ChL} (h:ChO w b x c) (hc:Chg S w w') (hs:∀k,x.Data.blk=some k→¬S k):ChO w' b x c:=⟨h.kind,h.data.chg hc hs⟩
theorem zh7:∀x:Nat,x<256→((x ||| 32)<97∨(x ||| 32)>122↔¬(65≤x∧x≤90∨97≤x∧x≤122)):=by decide +kernel
section
variable {w:World}
theorem q8t {x:UInt8} {K:Bool→World→Prop} (hK:K (!qbp x) w):qq7 (x.toNat:Int) w K:=by
 refine qwh _ ?_
 unfold qj3
 have h8:=x.toNat_lt
 rw [show (32:Int)=((32:Nat):Int) from rfl,qcx .u8 (by show _<2^8;omega) (by decide)]
 have h:=zh7 x.toNat h8
 refine cO (fun h1=>?_) fun h1=>?_
 ·have h1:=of_decide_eq_true h1
  have:qbp x=false:=decide_eq_false (h.1 (.inl (by omega)))
  rw [this] at hK
  exact hK
 ·have h1:=of_decide_eq_false h1
  by_cases h2:(x.toNat ||| 32)>122
  ·have:qbp x=false:=decide_eq_false (h.1 (.inr h2))
   rw [this] at hK
   rw [decide_eq_true (by omega)]
   exact hK
  ·have:qbp x=true:=decide_eq_true (Classical.not_not.1 fun e=>by have:=h.2 e;omega)
   rw [this] at hK
   rw [decide_eq_false (by omega)]
   exact hK
theorem zaj {s:Slc} {bs:List UInt8} {K:Bool→World→Prop} (hs:Rd qab w s bs) (hl:bs.length≤1000000) (hK:K (bs.all qbp) w):qnl s w K:=by
 refine q1r _ ?_
 unfold qmi
 refine qje _ _ ?_
 unfold qc7
 refine qk0 _ _ ?_
 unfold qdx
 rw [hs.n]
 refine lpR (fun (st:Int×Unit) w1=>w1=w∧∃i:Nat,st.1=i∧i≤bs.length∧(bs.take i).all qbp=true) (fun st=>bs.length-st.1.toNat) ⟨rfl,0,rfl,by omega,rfl⟩ ?_
 rintro ⟨i,u⟩ w1 ⟨rfl,m,hi,hm,hno⟩ I hI
 dsimp only at hi ⊢
 subst hi
 by_cases hlt:m<bs.length
 ·refine cT (decide_eq_true (by omega)) ?_
  obtain ⟨x,hx,hxs⟩:=qa0 (xs:=bs) (k:=m) hlt
  refine hs.ix (i:=(m:Int)) (k:=1) rfl (by omega) (by omega) fun hcell=>?_
  rw [hxs] at hcell
  refine ldB8 (b:=x) hcell (qg5 (by kernel_rfl) ?_)
  refine Calls.mono (q8t (x:=x) (K:=fun t16 w2=>cond t16 (K (!(decide ((m:Int)≥(0:Int)))) w2) (I ((IntKind.i64.wrap ((m:Int)+(1:Int))),()) w2)) ?_) ?_
  ·cases hxl:qbp x with
   | false =>
    have:bs.all qbp=false:=by
     rw [List.all_eq_false]
     exact ⟨x,List.mem_of_getElem? hx,by rw [hxl];simp⟩
    rw [this] at hK
    refine cT rfl ?_
    rw [decide_eq_true (by omega)]
    exact hK
   | true =>
    refine cF rfl ?_
    rw [w64i (by omega)]
    refine hI _ _ ⟨rfl,m+1,rfl,by omega,?_⟩ (by simp;omega)
    rw [List.take_add_one,hx,List.all_append,hno]
    simp [hxl]
  ·rintro e w' ⟨r,rfl,hk⟩
   exact ⟨r,rfl,hk⟩
 ·refine cF (decide_eq_false (by omega)) ?_
  obtain rfl:m=bs.length:=by omega
  rw [List.take_length] at hno
  rw [hno] at hK
  exact hK
theorem zfs {b:Slc} {bs:List UInt8} {K:T_png_Chunk→Int→Int→World→Prop} (hb:Rd qab w b bs) (hl:bs.length≤1000000000)
  (hE:∀n x w',qbq bs=.err n→n≠0→Below w.heap.size w w'→K x 0 n w')
  (hO:∀c n x w',qbq bs=.ok c n→ChO w' w.heap.size x c→Below w.heap.size w w'→12≤n→n≤bs.length→K x n 0 w'):qrp b w K:=by
 refine q6p _ ?_
 unfold qpu
 rw [hb.n]
 refine nwb fun w1 h1 hB1 hs1=>?_
 have hend:∀(n:Nat) w2,qbq bs=.err n→n≠0→Below w.heap.size w w2→Below w1.heap.size w1 w2→stK ⟨w.heap.size,0,none⟩ [(.string (⟨#[]⟩:ByteArray)),(.slice none 0 0)] w2 fun w3=>ldS T_png_Chunk.rep ⟨w.heap.size,0,none⟩ w3 fun r=>K r 0 n w3:=by
  intro n w2 hc hn hB hB'
  exact qby (r:=T_png_Chunk.rep) (x:=⟨⟨#[]⟩,⟨none,0,0⟩⟩) (h1.ext hB') rfl rfl fun w3 hc3 hs3=>hE n _ w3 hc hn (b1o hB hc3 (Nat.le_refl _))
 refine cO (fun h4=>?_) fun h4=>?_
 ·have h4:=of_decide_eq_true h4
  exact hend 2 w1 (by unfold qbq;rw [if_pos (by omega)]) (by decide) hB1 (Below.refl _ _)
 have h4:=of_decide_eq_false h4
 have h4':¬bs.length<4:=by omega
 have hb1:=hb.ext hB1
 refine BigG hb1 (by omega) ?_
 have hB3:Below w.heap.size w w1.drew:=bT hB1 (bdw _)
 have hB3':Below w1.heap.size w1 w1.drew:=bdw _
 obtain ⟨w3,hw3⟩:∃w3,w3=w1.drew:=⟨_,rfl⟩
 rw [←hw3] at hB3 hB3' ⊢
 have hnl:=qyx (bs:=bs.take 4) (by rw [List.length_take];omega)
 obtain ⟨n,hn⟩:∃n,n=bigN (bs.take 4):=⟨_,rfl⟩
 rw [←hn] at hnl ⊢
 rw [w64i (x:=(n:Int)) (by omega)]
 refine cO (fun h5=>?_) fun h5=>?_
 ·have h5:=of_decide_eq_true h5
  exact hend 3 w3 (by unfold qbq;rw [if_neg h4',←hn,if_pos (by omega)]) (by decide) hB3 hB3'
 have h5:=of_decide_eq_false h5
 have h5':¬n>2147483647:=by omega
 refine cO (fun h6=>?_) fun h6=>?_
 ·have h6:=of_decide_eq_true h6
  exact hend 2 w3 (by unfold qbq;rw [if_neg h4',←hn,if_neg h5',if_pos (by omega)]) (by decide) hB3 hB3'
 have h6:=of_decide_eq_false h6
 have h6':¬bs.length<8:=by omega
 have hb3:=hb.ext hB3
 refine hb3.slK (l:=4) (m:=8) rfl (.inr rfl) (.inr rfl) (by omega) (by omega) fun hp=>?_
 refine zaj hp (by rw [List.length_drop,List.length_take];omega) ?_
 refine cO (fun h7=>?_) fun h7=>?_
 ·have h7:((bs.take 8).drop 4).all qbp=false:=by simpa using h7
  exact hend 3 w3 (by unfold qbq;rw [if_neg h4',←hn,if_neg h5',if_neg h6',if_pos h7]) (by decide) hB3 hB3'
 have h7:((bs.take 8).drop 4).all qbp=true:=by simpa using h7
 have h7':¬((bs.take 8).drop 4).all qbp=false:=by rw [h7];simp
 rw [w64i (x:=((bs.length:Nat):Int)-12) (by omega)]
 refine cO (fun h8=>?_) fun h8=>?_
 ·have h8:=of_decide_eq_true h8
  exact hend 2 w3 (by unfold qbq;rw [if_neg h4',←hn,if_neg h5',if_neg h6',if_neg h7',if_pos (by omega)]) (by decide) hB3 hB3'
 have h8:=of_decide_eq_false h8
 have h8':¬n+12>bs.length:=by omega
 have e8:IntKind.i64.wrap ((8:Int)+(n:Int))=((8+n:Nat):Int):=by rw [w64i (by omega)];simp
 have e12:IntKind.i64.wrap ((((8+n:Nat):Nat):Int)+(4:Int))=((12+n:Nat):Int):=by rw [w64i (by omega)];omega
 rw [e8,e12]
 refine hb3.slK (l:=4) (m:=8+n) rfl (.inr rfl) (.inr rfl) (by omega) (by omega) fun hp1=>?_
 refine hb3.slK (l:=8+n) (m:=bs.length) rfl (.inr rfl) (.inl ⟨rfl,rfl⟩) (by omega) (by omega) fun hp2=>?_
 rw [List.take_length] at hp2
 have htail:∀w12 (t43 t47:Int),t43=((crcN ((bs.take (8+n)).drop 4):Nat):Int)→t47=((bigN ((bs.drop (8+n)).take 4):Nat):Int)→Below w.heap.size w w12→Below w1.heap.size w1 w12 →
   cond (t43 !=t47) (stK ⟨w.heap.size,0,none⟩ [(.string (⟨#[]⟩:ByteArray)),(.slice none 0 0)] w12 fun w13=>ldS T_png_Chunk.rep ⟨w.heap.size,0,none⟩ w13 fun r_5=>K r_5 0 4 w13)
    (
    slK b (some 4) (some 8) 1 fun t51=>slK b (some 8) (some ((8+n:Nat):Int)) 1 fun t55 =>
    (runK1 PG (convert qaa qa1 (.slice t51.a t51.n t51.c)) Kind.string w12.drew fun (t52:ByteArray) w14 =>
     qam t55 w14 fun t56 w15=>stK ⟨w.heap.size,0,none⟩ [(.string t52),(.slice t56.a t56.n t56.c)] w15 fun w16=>ldS T_png_Chunk.rep ⟨w.heap.size,0,none⟩ w16 fun r_6=>K r_6 ((12+n:Nat):Int) 0 w16) ∧
    qam t55 w12.drew fun t56_1 w17=>runK1 PG (convert qaa qa1 (.slice t51.a t51.n t51.c)) Kind.string w17 fun (t52_1:ByteArray) w18 =>
     stK ⟨w.heap.size,0,none⟩ [(.string t52_1),(.slice t56_1.a t56_1.n t56_1.c)] w18 fun w19=>ldS T_png_Chunk.rep ⟨w.heap.size,0,none⟩ w19 fun r_7=>K r_7 ((12+n:Nat):Int) 0 w19):=by
  intro w12 t43 t47 e43 e47 hB hB'
  subst e43 e47
  refine cO (fun h9=>?_) fun h9=>?_
  ·have h9:crcN ((bs.take (8+n)).drop 4)≠bigN ((bs.drop (8+n)).take 4):=fun e=>by rw [e] at h9;simp at h9
   exact hend 4 w12 (by unfold qbq;rw [if_neg h4',←hn,if_neg h5',if_neg h6',if_neg h7',if_neg h8',if_pos h9]) (by decide) hB hB'
  ·have h9:¬crcN ((bs.take (8+n)).drop 4)≠bigN ((bs.drop (8+n)).take 4):=fun e=>by
    refine e ?_
    have:((crcN ((bs.take (8+n)).drop 4):Nat):Int)=((bigN ((bs.drop (8+n)).take 4):Nat):Int):=by simpa using h9
    exact Int.ofNat.inj this
   have hok:qbq bs=.ok ⟨(bs.take 8).drop 4,(bs.take (8+n)).drop 8⟩ (12+n):=by unfold qbq;rw [if_neg h4',←hn,if_neg h5',if_neg h6',if_neg h7',if_neg h8',if_neg h9]
   have hBd:=bT hB (bdw w12)
   have hBd':=bT hB' (bdw w12)
   have hbd:=hb.ext hBd
   have hb12:=hb.ext hB
   refine hb12.slK (l:=4) (m:=8) rfl (.inr rfl) (.inr rfl) (by omega) (by omega) fun hq1=>?_
   refine hb12.slK (l:=8) (m:=8+n) rfl (.inr rfl) (.inr rfl) (by omega) (by omega) fun hq2=>?_
   have hq1d:=hq1.ext (bdw w12)
   have hq2d:=hq2.ext (bdw w12)
   have hsz:=hBd.size
   have fin:∀(t:Slc) w15,Go.Vc.Own qab w15 w12.drew.heap.size t ((bs.take (8+n)).drop 8)→Below w12.drew.heap.size w12.drew w15 →
     stK ⟨w.heap.size,0,none⟩ [(.string (strB ((bs.take 8).drop 4))),(.slice t.a t.n t.c)] w15 fun w16=>ldS T_png_Chunk.rep ⟨w.heap.size,0,none⟩ w16 fun r_6=>K r_6 ((12+n:Nat):Int) 0 w16:=by
    intro t w15 ht hB15
    refine qby (r:=T_png_Chunk.rep) (x:=⟨strB ((bs.take 8).drop 4),t⟩) (h1.ext (bT hBd' hB15)) rfl rfl fun w16 hc16 hs16=>?_
    refine hO _ (12+n) _ w16 hok ⟨rfl,?_⟩ (b1o (bT hBd hB15) hc16 (Nat.le_refl _)) (by omega) (by omega)
    refine (ht.chg hc16 fun g hg e=>?_).base (by omega)
    have:=(ht.lt g hg).1
    have:=hBd'.size
    omega
   refine ⟨⟨_,_,qa3 hq1d,?_⟩,?_⟩
   ·exact qf5 hq2d (by rw [List.length_drop,List.length_take];omega) fun r w15 hr hB15=>fin r w15 hr hB15
   ·refine qf5 hq2d (by rw [List.length_drop,List.length_take];omega) fun r w15 hr hB15=>?_
    exact ⟨_,_,qa3 (hq1d.ext hB15),fin r w15 hr hB15⟩
 have hBd:=bT hB3 (bdw w3)
 have hBd':=bT hB3' (bdw w3)
 have hp1d:=hp1.ext (bdw w3)
 have hp2d:=hp2.ext (bdw w3)
 refine ⟨?_,?_⟩
 ·refine CrcOf hp1d (by rw [List.length_drop,List.length_take];omega) fun w11 hB11=>?_
  refine BigG (hp2d.ext hB11) (by rw [List.length_drop];omega) ?_
  exact htail _ _ _ rfl rfl (bT (bT hBd hB11) (bdw _)) (bT (bT hBd' hB11) (bdw _))
 ·refine zmb hp1d (by rw [List.length_drop,List.length_take];omega) fun w11 hB11=>?_
  refine BigG (hp2d.ext hB11) (by rw [List.length_drop];omega) ?_
  exact htail _ _ _ rfl rfl (bT (bT hBd hB11) (bdw _)) (bT (bT hBd' hB11) (bdw _))
end
end Go.Proofs.YtmagnpcgpinmcaaGreat
set_option linter.unusedVariables false
namespace Go.Proofs.YtmagnpcgpinmcaaGreat
open Go.Vc Go.RowKit
set_option maxRecDepth 400000
def eachR (one:Bool) (bs:List UInt8):Nat×List ChL:=if signP bs≠0 then (signP bs,[]) else qay one bs.length (bs.drop 8)
theorem q45 (one:Bool) (bs:List UInt8):qaz one bs=((eachR one bs).1,if (eachR one bs).1≠0 then [] else (eachR one bs).2):=by
 unfold qaz eachR
 by_cases h:signP bs≠0
 ·rw [if_pos h,if_pos h,if_pos h]
 ·rw [if_neg h,if_neg h]
  by_cases h2:(qay one bs.length (bs.drop 8)).1≠0
  ·rw [if_pos h2,if_pos h2]
  ·rw [if_neg h2,if_neg h2]
   have:(qay one bs.length (bs.drop 8)).1=0:=by omega
   rw [this]
def goP (one:Bool) (c:ChL):Bool:=!(one || decide (c.kind=iendL))
theorem q40 {bs:List UInt8} {n:Nat} (h:qbq bs=.err n):n≠0:=by
 unfold qbq at h
 repeat' (split at h)
 all_goals (cases h;try decide)
section
variable {w:World}
theorem q21 {K:Slc→World→Prop} (hK:∀t w',Go.Vc.Own qab w' w.heap.size ⟨some t,8,8⟩ signL→Below w.heap.size w w'→K ⟨some t,8,8⟩ w'):qln w K:=by
 refine q8s ?_
 unfold qrz
 exact nwb fun w1 h1 hB1 hs1=>hK _ w1 (q1m (E:=qab) (ys:=signL) (Nat.le_refl _) h1 (by decide) rfl) hB1
theorem zi2 {K:Slc→World→Prop} (hK:∀t w',Rd qab w' ⟨some t,8,8⟩ signL→Below w.heap.size w w'→K ⟨some t,8,8⟩ w'):qln w K:=q21 fun t w' h hB=>hK t w' h.rd hB
theorem q93 {a b:Slc} {xs ys:List UInt8} {K:Bool→World→Prop} (ha:Rd qab w a xs) (hb:Rd qab w b ys) (hK:K (decide (xs=ys)) w):qnp a b w K:=by
 refine q2u _ _ ?_
 unfold ql1
 refine ⟨_,_,qa3 ha,⟨_,_,qa3 hb,?_⟩⟩
 dsimp only
 rw [qdg,qdg]
 have:(xs==ys)=decide (xs=ys):=by rw [Bool.eq_iff_iff];simp
 rw [this]
 exact hK
theorem q6w {b:Slc} {bs:List UInt8} {f:Value} {one:Bool} {S:Nat→Prop} (Inv:List ChL→World→Prop) {K:Int→World→Prop} (hb:Rd qab w b bs) (hl:bs.length≤1000000000) (hbS:∀a,b.a=some a→¬S a.block)
  (h0:Inv [] w) (hI:∀L w1 w2,Inv L w1→Below w1.heap.size w1 w2→Inv L w2) (hS:∀L w1,Inv L w1→Chg S w w1)
  (step:∀L w1 x c,Inv L w1→L.length≤bs.length→ChO w1 w.heap.size x c→∀J:Bool→World→Prop,(∀w2,Inv (L++[c]) w2→J (goP one c) w2)→callR C f [(.agg #[(.string x.Kind),(.slice x.Data.a x.Data.n x.Data.c)])] [Kind.bool] w1 J)
  (hK:∀w1,Inv (eachR one bs).2 w1→K (eachR one bs).1 w1):qol b f w K:=by
 refine q8m _ _ ?_
 unfold qrn
 refine zi2 fun t w1 hs hB1=>?_
 rw [hb.n]
 have hb1:=hb.ext hB1
 obtain ⟨m,hm⟩:∃m,m=min bs.length 8:=⟨_,rfl⟩
 have em:(if ((8:Nat):Int)<((bs.length:Nat):Int) then ((8:Nat):Int) else ((bs.length:Nat):Int))=(m:Int):=by
  by_cases h:((8:Nat):Int)<((bs.length:Nat):Int)
  ·rw [if_pos h];omega
  ·rw [if_neg h];omega
 dsimp only
 rw [em]
 have hm1:m≤bs.length:=by omega
 have hm8:m≤signL.length:=by show m≤8;omega
 refine hb1.slK (l:=0) (m:=m) rfl (.inl ⟨rfl,rfl⟩) (.inr rfl) (by omega) hm1 fun hp=>?_
 refine hs.slK (l:=0) (m:=m) rfl (.inl ⟨rfl,rfl⟩) (.inr rfl) (by omega) hm8 fun hq=>?_
 rw [List.drop_zero] at hp hq
 have hBd:=bdw w1
 refine q93 (hp.ext hBd) (hq.ext hBd) ?_
 have e1:bs.take m=bs.take 8:=by
  rcases Nat.le_total bs.length 8 with h | h
  ·rw [List.take_of_length_le (show bs.length≤8 from h),List.take_of_length_le (by omega)]
  ·rw [show m=8 by omega]
 have e2:signL.take m=signL.take bs.length:=by
  rcases Nat.le_total bs.length 8 with h | h
  ·rw [show m=bs.length by omega]
  ·rw [List.take_of_length_le (show signL.length≤bs.length from h),List.take_of_length_le (show signL.length≤m by show 8≤m;omega)]
 rw [e1,e2]
 have hB2:=bT hB1 hBd
 obtain ⟨w2,hw2⟩:∃w2,w2=w1.drew:=⟨_,rfl⟩
 rw [←hw2] at hB2 ⊢
 have hI2:Inv [] w2:=hI _ _ _ h0 hB2
 refine cO (fun hne=>?_) fun heq=>?_
 ·have hne:bs.take 8≠signL.take bs.length:=by simpa using hne
  have hs3:signP bs=3:=by unfold signP;rw [if_pos hne]
  have he:eachR one bs=(3,[]):=by unfold eachR;rw [hs3,if_pos (by decide)]
  rw [he] at hK
  exact hK _ hI2
 have heq:bs.take 8=signL.take bs.length:=by simpa using heq
 have heq':¬bs.take 8≠signL.take bs.length:=fun h=>h heq
 refine cO (fun hlt=>?_) fun hge=>?_
 ·have hlt:=of_decide_eq_true hlt
  have hs2:signP bs=2:=by unfold signP;rw [if_neg heq',if_pos (by omega)]
  have he:eachR one bs=(2,[]):=by unfold eachR;rw [hs2,if_pos (by decide)]
  rw [he] at hK
  exact hK _ hI2
 have hge:=of_decide_eq_false hge
 have hs0:signP bs=0:=by unfold signP;rw [if_neg heq',if_neg (by omega)]
 have he:eachR one bs=qay one bs.length (bs.drop 8):=by unfold eachR;rw [hs0,if_neg (by decide)]
 have hb2:=hb.ext hB2
 refine hb2.slK (l:=8) (m:=bs.length) rfl (.inr rfl) (.inl ⟨rfl,rfl⟩) (by omega) (by omega) fun hr=>?_
 have hr0:=hb.part (l:=8) (m:=bs.length) (by omega) (by omega)
 rw [List.take_length] at hr hr0
 have hrS:∀a,(⟨cut b.a 8 b.c qab.k,bs.length-8,b.c-8⟩:Slc).a=some a→¬S a.block:=fun a ha=>by
  obtain ⟨a',ha',e⟩:=qia ha
  rw [e]
  exact hbS a' ha'
 refine lpR (fun (s:Slc×Unit) w3=>∃(L:List ChL) (rest:List UInt8) (fu:Nat),Inv L w3∧Rd qab w s.1 rest∧(∀a,s.1.a=some a→¬S a.block)∧rest.length<fu∧L.length+rest.length≤bs.length∧qay one bs.length (bs.drop 8)=((qay one fu rest).1,L++(qay one fu rest).2)) (fun s=>s.1.n)
  ⟨[],bs.drop 8,bs.length,hI2,hr0,hrS,by rw [List.length_drop];omega,by rw [List.length_drop];simp,by simp⟩ ?_
 rintro ⟨s,u⟩ w3 ⟨L,rest,fu,hL,hrd,hsS,hfu,hlen,hch⟩ I hIl
 dsimp only at hrd hsS ⊢
 obtain ⟨fu,rfl⟩:∃k,fu=k+1:=⟨fu-1,by omega⟩
 have hC:=hS _ _ hL
 have hrd3:Rd qab w3 s rest:=hrd.chg hC fun a ha=>hsS a ha
 refine zfs hrd3 (by omega) (fun n x w4 hcp hn hB4=>?_) (fun c n x w4 hcp hx hB4 hn12 hnle=>?_)
 ·refine nwb fun w5 h5 hB5 hs5=>?_
  refine qa2 h5 rfl fun w6 h6 hc6 hs6=>?_
  have hn':((n:Int) !=0)=true:=by simp;exact hn
  refine cT hn' ?_
  have:eachR one bs=(n,L):=by rw [he,hch,qay,hcp];simp
  rw [this] at hK
  refine hK _ (hI _ _ _ hL (b1o (bT hB4 hB5) hc6 hB4.size))
 ·refine nwb fun w5 h5 hB5 hs5=>?_
  refine qa2 h5 rfl fun w6 h6 hc6 hs6=>?_
  refine cF rfl ?_
  refine qas (r:=T_png_Chunk.rep) (x:=x) h6.cells ?_
  have hB6:=b1o (bT hB4 hB5) hc6 hB4.size
  have hL6:=hI _ _ _ hL hB6
  have hx6:ChO w6 w.heap.size x c:=((hx.ext hB5).chg hc6 fun k hk e=>by have:=(hx.data.lt k hk).2;omega).base hC.size
  refine step L w6 x c hL6 (by omega) hx6 _ fun w7 hL7=>?_
  cases hg:goP one c with
  | false =>
   refine cT rfl ?_
   have hg':(one || decide (c.kind=iendL))=true:=by unfold goP at hg;revert hg;cases (one || decide (c.kind=iendL))<;>simp
   have:eachR one bs=(0,L++[c]):=by rw [he,hch,qay,hcp];simp only [hg'];rfl
   rw [this] at hK
   exact hK _ hL7
  | true =>
   refine cF rfl ?_
   have hg':(one || decide (c.kind=iendL))=false:=by unfold goP at hg;revert hg;cases (one || decide (c.kind=iendL))<;>simp
   have hC7:=hS _ _ hL7
   have hrd7:Rd qab w7 s rest:=hrd.chg hC7 fun a ha=>hsS a ha
   refine hrd7.slK (l:=n) (m:=rest.length) rfl (.inr rfl) (.inl ⟨rfl,rfl⟩) hnle (Nat.le_refl _) fun hrn=>?_
   have hrn0:=hrd.part (l:=n) (m:=rest.length) hnle (Nat.le_refl _)
   rw [List.take_length] at hrn0
   refine hIl _ _ ⟨L++[c],rest.drop n,fu,hL7,hrn0,fun a ha=>?_,by rw [List.length_drop];omega,by rw [List.length_append,List.length_drop,List.length_singleton];omega,?_⟩ ?_
   ·obtain ⟨a',ha',e⟩:=qia ha
    rw [e]
    exact hsS a' ha'
   ·rw [hch,qay,hcp]
    simp only [hg']
    simp
   ·have:=hrd.n
    show rest.length-n<s.n
    omega
structure ChsO (w:World) (b:Nat) (s:Slc) (L:List ChL):Prop where
 ex:∃xs,Go.Vc.Own qb1 w b s xs∧xs.length=L.length∧∀(i:Nat) x c,xs[i]?=some x→L[i]?=some c→ChO w b x c
theorem ChsO.ext {w w':World} {b:Nat} {s:Slc} {L:List ChL} (h:ChsO w b s L) (hB:Below w.heap.size w w'):ChsO w' b s L:=by
 obtain ⟨xs,h1,h2,h3⟩:=h
 exact ⟨xs,h1.ext hB,h2,fun i x c hx hc=>(h3 i x c hx hc).ext hB⟩
theorem q06 {b:Slc} {bs:List UInt8} {K:Slc→Int→World→Prop} (hb:Rd qab w b bs) (hbl:∀k,b.blk=some k→k<w.heap.size) (hl:bs.length≤1000000)
  (hK:∀s w',ChsO w' w.heap.size s (qaz false bs).2→Below w.heap.size w w'→K s (qaz false bs).1 w'):qlr b w K:=by
 refine q4y _ ?_
 unfold qnw
 refine nwb fun w1 h1 hB1 hs1=>?_
 have hb1:=hb.ext hB1
 refine q6w (one:=false) (S:=fun k=>k=w.heap.size) (fun L w2=>Chg (fun k=>k=w.heap.size) w1 w2∧∃s:Slc,Blk w2 w.heap.size qdj [.slice s.a s.n s.c]∧ChsO w2 (w.heap.size+1) s L) hb1 (by omega)
  (fun a ha e=>by have:=hbl a.block (slk.2 ⟨a,ha,rfl⟩);omega)
  ⟨Chg.refl _ _,⟨none,0,0⟩,h1,[],Own.nil _ _ _,rfl,fun i x c hx=>by simp at hx⟩ ?_ (fun L w2 h=>h.1) ?_ ?_
 ·rintro L w2 w3 ⟨hc,s,hs,hL⟩ hB
  exact ⟨hc.trans (Chg.of_ext (S:=fun k=>k=w.heap.size) hB) fun i _ hi=>hi,s,hs.ext hB,hL.ext hB⟩
 ·rintro L w2 x c ⟨hc,s,hs,xs,h2,h3,h4⟩ hLl hx J hJ
  refine qg5 (by kernel_rfl) ?_
  have hcall:qsu x ⟨w.heap.size,0,none⟩ w2 J:=by
   refine qzc _ _ ?_
   unfold qll
   refine nwb fun w3 hb3 hB3 hs3=>?_
   refine lSl (x:=s) ((hs.ext hB3).cell 0 rfl) ?_
   refine qas (r:=T_png_Chunk.rep) (x:=x) hb3.cells ?_
   have hsz:=hc.size
   have hx3:=hx.ext hB3
   refine q1v (E:=qb1) (y:=x) qq1 (h2.ext hB3) rfl (by omega) (by rw [q4v];omega) (by unfold maxLen;omega) fun r w5 hr5 hch hrb=>?_
   have hne:∀k,s.blk=some k→k≠w.heap.size:=qai h2 hs (by decide)
   have hs5:Blk w5 w.heap.size qdj [.slice s.a s.n s.c]:=(hs.ext hB3).chg hch fun e=>hne _ e rfl
   refine qa2 hs5 rfl fun w6 h6 hc6 hs6=>?_
   have hb5:Blk w5 w2.heap.size qa5 (T_png_Chunk.rep.cells x):=hb3.chg hch fun e=>by have:=(h2.lt _ e).2;omega
   have hb6:=hb5.chg hc6 (by omega)
   refine qcd (x:=x.Kind) (hb6.cells 0 _ rfl) ?_
   have hke:(!(x.Kind.toList==(⟨#[73,69,78,68]⟩:ByteArray).toList))=goP false c:=by
    rw [hx.kind,qdg,show (⟨#[73,69,78,68]⟩:ByteArray)=strB iendL from rfl,qdg]
    unfold goP
    rw [Bool.false_or]
    congr 1
    rw [Bool.eq_iff_iff]
    simp
   rw [hke]
   have hC3:Chg (fun k=>k=w.heap.size) w1 w3:=hc.trans (Chg.of_ext (S:=fun k=>k=w.heap.size) hB3) fun i _ hi=>hi
   have hlo:=h2.lt
   have hC5:Chg (fun k=>k=w.heap.size) w1 w5:=hC3.trans hch fun i hi e=>by have:=(hlo i e).1;omega
   refine hJ w6 ⟨hC5.trans hc6 fun i _ hi=>hi,r,h6,xs++[x],?_,by simp [h3],fun i y d hy hd=>?_⟩
   ·refine hr5.chg hc6 fun g hg e=>?_
    have:=(hr5.lt g hg).1
    omega
   ·have key:∀{y d},ChO w3 (w.heap.size+1) y d→ChO w6 (w.heap.size+1) y d:=fun {y d} h=>by
     refine (h.chg hch fun k hk e=>?_).chg hc6 fun k hk e=>?_
     ·exact q41 h.data (h2.ext hB3) (by decide) k hk e
     ·have:=(h.data.lt k hk).1
      omega
    rcases Nat.lt_or_ge i xs.length with hi | hi
    ·rw [List.getElem?_append_left hi] at hy
     rw [List.getElem?_append_left (by omega)] at hd
     exact key ((h4 i y d hy hd).ext hB3)
    ·rw [List.getElem?_append_right hi] at hy
     rw [List.getElem?_append_right (by omega)] at hd
     rw [h3] at hy
     generalize i-L.length=j at hy hd
     match j,hy,hd with
     | 0,hy,hd =>
      simp at hy hd
      subst hy hd
      exact key (hx3.base (by omega))
     | j+1,hy,hd=>simp at hy
  refine Calls.mono hcall ?_
  rintro e w' ⟨r,rfl,hk⟩
  exact ⟨r,rfl,hk⟩
 ·rintro w2 ⟨hc,s,hs,hL⟩
  rw [q45] at hK
  have hB2:Below w.heap.size w w2:=b1o hB1 hc (Nat.le_refl _)
  by_cases h:(eachR false bs).1≠0
  ·have hn':(((eachR false bs).1:Int) !=0)=true:=by simp;exact h
   refine cT hn' ?_
   rw [if_pos h] at hK
   exact hK _ w2 ⟨[],Own.nil _ _ _,rfl,fun i x c hx=>by simp at hx⟩ hB2
  ·have h0:(eachR false bs).1=0:=by omega
   rw [h0] at hK ⊢
   refine cF rfl ?_
   refine lSl (x:=s) (hs.cell 0 rfl) ?_
   rw [if_neg (by decide)] at hK
   obtain ⟨xs,h1,h2,h3⟩:=hL
   exact hK s w2 ⟨xs,h1.base (by omega),h2,fun i x c hx hc=>(h3 i x c hx hc).base (by omega)⟩ hB2
end
end Go.Proofs.YtmagnpcgpinmcaaGreat
set_option linter.unusedVariables false
namespace Go.Proofs.YtmagnpcgpinmcaaGreat
open Go.Vc Go.RowKit
set_option maxRecDepth 400000
theorem qa9 {w:World} {s:Slc} {xs:List UInt8} (h:Rd qab w s xs) {i:Nat} {x:UInt8} (hx:xs[i]?=some x):w.cell? (s.at_ 1 i)=some (.int .u8 (x.toNat:Int)):=by
 have:=h.at_ i x hx 0 _ rfl
 have h2:w.cell? (s.at_ qab.k i)=some (.int .u8 (x.toNat:Int)):=by simpa using this
 exact h2
theorem zbt {a b:Int} (h:a=b):(a==b)=true:=by rw [h];exact beq_self_eq_true b
theorem qqd {a b:Int} (h:a≠b):(a==b)=false:=by simpa using h
theorem qdz {a b:Int} (h:a≠b):(a !=b)=true:=by simpa using h
theorem zma {a b:Int} (h:a=b):(a !=b)=false:=by rw [h];simp
theorem zih {bs:List UInt8} (h:(eachR true bs).1=0):∃c,(eachR true bs).2=[c]:=by
 unfold eachR at h ⊢
 split at h
 ·rename_i hs;exact absurd h hs
 ·rename_i hs
  rw [if_neg hs]
  cases hl:bs.length with
  | zero=>rw [hl] at h;cases h
  | succ n =>
   rw [hl,qay] at h
   rw [qay]
   cases hc:qbq (bs.drop 8) with
   | err k=>rw [hc] at h;exact absurd h (q40 hc)
   | ok c k=>exact ⟨c,rfl⟩
section
variable {w:World}
theorem qlc {color:Int} {K:Int→World→Prop} (hK:K ((qac color:Nat):Int) w):qdw color w K:=by
 refine q2y _ ?_
 unfold ql7
 refine jpO fun J hJ=>?_
 unfold qac at hK
 have h2:∀b:Bool,(b=true↔color=0∨color=3)→J (b,()) w:=fun b hb=>hJ _ _ (by
  refine cO (fun h=>?_) fun h=>?_
  ·rw [if_pos (hb.1 h)] at hK
   exact hK
  ·rw [if_neg (fun e=>by rw [hb.2 e] at h;cases h)] at hK
   refine cO (fun h=>?_) fun h=>?_
   ·rw [if_pos (by simpa using h)] at hK
    exact hK
   ·rw [if_neg (by simpa using h)] at hK
    refine cO (fun h=>?_) fun h=>?_
    ·rw [if_pos (by simpa using h)] at hK
     exact hK
    ·rw [if_neg (by simpa using h)] at hK
     refine cO (fun h=>?_) fun h=>?_
     ·rw [if_pos (by simpa using h)] at hK
      exact hK
     ·rw [if_neg (by simpa using h)] at hK
      exact hK)
 refine cO (fun h=>h2 _ ?_) fun h=>h2 _ ?_
 ·have h:color=0:=by simpa using h
  simp [h]
 ·have h:color≠0:=by simpa using h
  simp [h]
theorem q5c {s:Slc} {zs:List Int} {v:Int} {K:Bool→World→Prop} (hs:Rd E_int w s zs) (hl:zs.length≤1000000) (hK:K (decide (v∈zs)) w):qes s v w K:=by
 refine qmg _ _ ?_
 unfold qec
 refine qof _ _ ?_
 unfold qfj
 rw [hs.n]
 refine lpR (fun (st:Int×Unit) w1=>w1=w∧∃i:Nat,st.1=i∧i≤zs.length∧v ∉ zs.take i) (fun st=>zs.length-st.1.toNat) ⟨rfl,0,rfl,by omega,by simp⟩ ?_
 rintro ⟨i,u⟩ w1 ⟨rfl,m,hi,hm,hno⟩ I hI
 dsimp only at hi ⊢
 subst hi
 by_cases hlt:m<zs.length
 ·refine cT (decide_eq_true (by omega)) ?_
  obtain ⟨z,hz⟩:∃z,zs[m]?=some z:=⟨_,List.getElem?_eq_getElem hlt⟩
  refine hs.ix (i:=(m:Int)) (k:=1) rfl (by omega) (by omega) fun hcell=>?_
  refine lI (x:=z) (hs.at_ m z hz 0 _ rfl) ?_
  refine cO (fun h=>?_) fun h=>?_
  ·have h:v=z:=by simpa using h
   have:decide (v∈zs)=true:=decide_eq_true (h ▸ List.mem_of_getElem? hz)
   rw [this] at hK
   rw [decide_eq_true (by omega)]
   exact hK
  ·have h:v≠z:=by simpa using h
   rw [w64i (by omega)]
   refine hI _ _ ⟨rfl,m+1,rfl,by omega,?_⟩ (by simp;omega)
   rw [List.take_add_one,hz]
   simp [hno,h]
 ·refine cF (decide_eq_false (by omega)) ?_
  obtain rfl:m=zs.length:=by omega
  rw [List.take_length] at hno
  rw [decide_eq_false hno] at hK
  exact hK
def qf7 (color:Int):List Int:=if color=0 then [1,2,4,8,16] else if color=3 then [1,2,4,8] else [8,16]
theorem zja (h:T_png_Head):decide (h.Depth∈qf7 h.Color)=qd4 h:=by
 unfold qf7 qd4
 by_cases h0:h.Color=0
 ·rw [if_pos h0,decide_eq_decide]
  simp only [List.mem_cons,List.mem_nil_iff,or_false]
  omega
 ·rw [if_neg h0]
  by_cases h3:h.Color=3
  ·rw [if_pos h3,decide_eq_decide]
   simp only [List.mem_cons,List.mem_nil_iff,or_false]
   omega
  ·rw [if_neg h3,decide_eq_decide]
   simp only [List.mem_cons,List.mem_nil_iff,or_false]
   omega
theorem zg9 {h:T_png_Head} {K:Int→World→Prop} (hK:∀w',Below w.heap.size w w'→K ((qdd h:Nat):Int) w'):qhf h w K:=by
 refine q52 _ ?_
 unfold qqb
 refine nwb fun w1 h1 hB1 hs1=>?_
 refine jpO fun J1 hJ1=>?_
 unfold qdd at hK
 refine lI (x:=h.W) (h1.cells 0 _ rfl) ?_
 refine cO (fun c1=>?_) fun c1=>?_
 ·have c1:=of_decide_eq_true c1
  rw [if_pos (by omega)] at hK
  exact hK w1 hB1
 have c1:=of_decide_eq_false c1
 refine lI (x:=h.W) (h1.cells 0 _ rfl) ?_
 refine cO (fun c2=>?_) fun c2=>?_
 ·have c2:=of_decide_eq_true c2
  rw [if_pos (by omega)] at hK
  exact hK w1 hB1
 have c2:=of_decide_eq_false c2
 refine lI (x:=h.H) (h1.cells 1 _ rfl) ?_
 refine cO (fun c3=>?_) fun c3=>?_
 ·have c3:=of_decide_eq_true c3
  rw [if_pos (by omega)] at hK
  exact hK w1 hB1
 have c3:=of_decide_eq_false c3
 refine lI (x:=h.H) (h1.cells 1 _ rfl) ?_
 refine cO (fun c4=>?_) fun c4=>?_
 ·have c4:=of_decide_eq_true c4
  rw [if_pos (by omega)] at hK
  exact hK w1 hB1
 have c4:=of_decide_eq_false c4
 rw [if_neg (by omega)] at hK
 refine hJ1 _ _ ?_
 refine nwb fun w3 h3 hB3 hs3=>?_
 have hB13:=bT hB1 hB3
 have h13:=h1.ext hB3
 refine jpO fun J2 hJ2=>?_
 have key:∀(s:Slc) w4,Rd E_int w4 s (qf7 h.Color)→Below w.heap.size w w4→Below w1.heap.size w1 w4→J2 (s,()) w4:=by
  intro s w4 hs hB hB'
  refine hJ2 _ _ ?_
  have h4:=h1.ext hB'
  refine lI (x:=h.Color) (h4.cells 3 _ rfl) (qlc ?_)
  refine cO (fun e=>?_) fun e=>?_
  ·have e:qac h.Color=0:=by
    have:((qac h.Color:Nat):Int)=0:=by simpa using e
    omega
   rw [if_pos (.inl e)] at hK
   exact hK w4 hB
  have e:qac h.Color≠0:=by
   have:((qac h.Color:Nat):Int)≠0:=by simpa using e
   omega
  refine lI (x:=h.Depth) (h4.cells 2 _ rfl) (q5c hs (by unfold qf7;split<;>(try split)<;>decide) ?_)
  rw [zja]
  refine cO (fun e2=>?_) fun e2=>?_
  ·have e2:qd4 h=false:=by simpa using e2
   rw [if_pos (.inr (.inl e2))] at hK
   exact hK w4 hB
  have e2:qd4 h=true:=by simpa using e2
  refine lI (x:=h.Lace) (h4.cells 4 _ rfl) ?_
  refine cO (fun e3=>?_) fun e3=>?_
  ·have e3:=of_decide_eq_true e3
   rw [if_pos (.inr (.inr (.inl e3)))] at hK
   exact hK w4 hB
  have e3:=of_decide_eq_false e3
  refine lI (x:=h.Lace) (h4.cells 4 _ rfl) ?_
  refine cO (fun e4=>?_) fun e4=>?_
  ·have e4:=of_decide_eq_true e4
   rw [if_pos (.inr (.inr (.inr e4)))] at hK
   exact hK w4 hB
  have e4:=of_decide_eq_false e4
  rw [if_neg (by rw [e2];simp;omega)] at hK
  exact hK w4 hB
 refine lI (x:=h.Color) (h13.cells 3 _ rfl) ?_
 refine cO (fun e=>?_) fun e=>?_
 ·have e:h.Color=0:=by simpa using e
  refine nwb fun w7 h7 hB7 hs7=>key _ w7 ?_ (bT hB13 hB7) (bT hB3 hB7)
  have:qf7 h.Color=[1,2,4,8,16]:=by unfold qf7;rw [if_pos e]
  rw [this]
  exact qda (E:=E_int) (ys:=[1,2,4,8,16]) h7 (by decide) rfl
 have e:h.Color≠0:=by simpa using e
 refine cO (fun e3=>?_) fun e3=>?_
 ·have e3:h.Color=3:=by simpa using e3
  refine nwb fun w7 h7 hB7 hs7=>key _ w7 ?_ (bT hB13 hB7) (bT hB3 hB7)
  have:qf7 h.Color=[1,2,4,8]:=by unfold qf7;rw [if_neg e,if_pos e3]
  rw [this]
  exact qda (E:=E_int) (ys:=[1,2,4,8]) h7 (by decide) rfl
 ·have e3:h.Color≠3:=by simpa using e3
  refine key _ w3 ?_ hB13 hB3
  have:qf7 h.Color=[8,16]:=by unfold qf7;rw [if_neg e,if_neg e3]
  rw [this]
  exact qda (E:=E_int) (ys:=[8,16]) h3 (by decide) rfl
theorem q3z {x:T_png_Chunk} {c:ChL} {K:T_png_Head→Int→World→Prop} (hx:ChA w x c) (hK:∀w',Below w.heap.size w w'→K (headP c).2 ((headP c).1:Nat) w'):qos x w K:=by
 refine q74 _ ?_
 unfold qry
 refine nwb fun w1 h1 hB1 hs1=>nwb fun w2 h2 hB2 hs2=>?_
 have hB12:=bT hB1 hB2
 have h12:=h1.ext hB2
 have hx2:=hx.ext hB12
 refine lSl (x:=x.Data) (h12.cells 1 _ rfl) ?_
 refine jpO fun J1 hJ1=>jpO fun J2 hJ2=>?_
 have hbad:∀w',Below w2.heap.size w2 w'→∀(n:Nat),headP c=(n,headZ)→stK ⟨w1.heap.size,0,none⟩ [(.int .i64 0),(.int .i64 0),(.int .i64 0),(.int .i64 0),(.int .i64 0)] w' fun w25=>ldS T_png_Head.rep ⟨w1.heap.size,0,none⟩ w25 fun r_6=>K r_6 n w25:=by
  intro w' hB n hn
  rw [hn] at hK
  exact qby (r:=T_png_Head.rep) (x:=headZ) (h2.ext hB) rfl rfl fun w3 hc hs=>hK w3 (b1o (bT hB12 hB) hc (by omega))
 have hJ2f:(c.kind≠ihdrL∨c.data.length≠13∨c.data[10]?.getD 0≠0∨c.data[11]?.getD 0≠0)→J2 (true,()) w2:=fun h=>hJ2 _ _ (cT rfl (hbad w2 (Below.refl _ _) 3 (by unfold headP;rw [if_pos h])))
 refine qcd (x:=x.Kind) (h12.cells 0 _ rfl) ?_
 rw [hx.kind,qdg,show (⟨#[73,72,68,82]⟩:ByteArray)=strB ihdrL from rfl,qdg,hx.data.n]
 refine cO (fun e=>?_) fun e=>?_
 ·exact hJ2f (.inl (by simpa using e))
 have e1:c.kind=ihdrL:=by simpa using e
 refine cO (fun e=>?_) fun e=>?_
 ·refine hJ2f (.inr (.inl fun h=>?_))
  rw [h] at e
  cases e
 have e2:c.data.length=13:=by
  have:((c.data.length:Nat):Int)=13:=by simpa using e
  omega
 have gt:∀i,i<13→∃y,c.data[i]?=some y:=fun i hi=>⟨_,List.getElem?_eq_getElem (by omega)⟩
 have rd:∀{i:Nat} {y:UInt8} {w':World} {K:Addr→Prop},Below w.heap.size w w'→i<13→c.data[i]?=some y→K (x.Data.at_ 1 i)→ixK x.Data (i:Int) 1 K:=fun {i y w' K} hB hi hy hk=>by
  refine (hx.data.ext hB).ix (i:=(i:Int)) rfl (by omega) (by omega) fun _=>?_
  exact hk
 obtain ⟨y10,hy10⟩:=gt 10 (by omega)
 obtain ⟨y11,hy11⟩:=gt 11 (by omega)
 refine rd (i:=10) hB12 (by omega) hy10 (lI (qa9 hx2.data hy10) ?_)
 refine cO (fun e=>?_) fun e=>?_
 ·refine hJ2f (.inr (.inr (.inl ?_)))
  rw [hy10]
  intro h
  rw [show y10=0 from h] at e
  simp at e
 have e3:y10=0:=by
  have:((y10.toNat:Nat):Int)=0:=by simpa using e
  exact UInt8.toNat_inj.1 (by simpa using this)
 refine rd (i:=11) hB12 (by omega) hy11 (lI (qa9 hx2.data hy11) ?_)
 by_cases e4:y11≠0
 ·have:(((y11.toNat:Nat):Int) !=0)=true:=by
   refine qdz fun h=>e4 (UInt8.toNat_inj.1 ?_)
   have:y11.toNat=0:=by omega
   simpa using this
  rw [this]
  exact hJ2f (.inr (.inr (.inr (by rw [hy11];exact e4))))
 have e4:y11=0:=Classical.not_not.1 e4
 have:(((y11.toNat:Nat):Int) !=0)=false:=by rw [e4];rfl
 rw [this]
 have hg:¬(c.kind≠ihdrL∨c.data.length≠13∨c.data[10]?.getD 0≠0∨c.data[11]?.getD 0≠0):=by
  rw [hy10,hy11,e3,e4]
  simp [e1,e2]
 refine hJ2 _ _ (cF rfl (hJ1 _ _ ?_))
 clear hJ2 hJ1 hJ2f
 obtain ⟨y8,hy8⟩:=gt 8 (by omega)
 obtain ⟨y9,hy9⟩:=gt 9 (by omega)
 obtain ⟨y12,hy12⟩:=gt 12 (by omega)
 have dd:∀{w'},Below w.heap.size w w'→Rd qab w' x.Data c.data:=fun hB=>hx.data.ext hB
 have hBd:=bT hB12 (bdw w2)
 have hBd2:Below w2.heap.size w2 w2.drew:=bdw w2
 refine hx2.data.slK (l:=4) (m:=13) rfl (.inr rfl) (.inl ⟨rfl,e2.symm⟩) (by omega) (by omega) fun hp=>?_
 rw [List.take_of_length_le (by omega)] at hp
 refine rd (i:=8) hB12 (by omega) hy8 (lI (qa9 (dd hBd) hy8) ?_)
 refine rd (i:=9) hB12 (by omega) hy9 (lI (qa9 (dd hBd) hy9) ?_)
 refine rd (i:=12) hB12 (by omega) hy12 (lI (qa9 (dd hBd) hy12) ?_)
 have hw8:∀y:UInt8,IntKind.i64.wrap ((y.toNat:Nat):Int)=((y.toNat:Nat):Int):=fun y=>w64i (by have:=y.toNat_lt;omega)
 have hwb:∀l:List UInt8,IntKind.i64.wrap ((bigN (l.take 4):Nat):Int)=((bigN (l.take 4):Nat):Int):=fun l=>w64i (by have:=qyx (bs:=l.take 4) (by rw [List.length_take];omega);omega)
 have hH:qce c.data=⟨(bigN (c.data.take 4):Nat),(bigN ((c.data.drop 4).take 4):Nat),(y8.toNat:Nat),(y9.toNat:Nat),(y12.toNat:Nat)⟩:=by
  unfold qce
  rw [hy8,hy9,hy12]
  rfl
 rw [hw8,hw8,hw8]
 have tail:∀(g:Nat) (vs:List Value) w6,vs.length=5→w2.heap.size≤g→Below w2.heap.size w2 w6→Blk w6 g qaw vs →
   stK ⟨g,0,none⟩ [(.int .i64 ((bigN (c.data.take 4):Nat):Int)),(.int .i64 ((bigN ((c.data.drop 4).take 4):Nat):Int)),(.int .i64 ((y8.toNat:Nat):Int)),(.int .i64 ((y9.toNat:Nat):Int)),(.int .i64 ((y12.toNat:Nat):Int))] w6 fun w7 =>
     ldS T_png_Head.rep ⟨g,0,none⟩ w7 fun t50 =>
     qhf t50 w7 fun t51 w8 =>
     cond (t51 !=(0:Int))
      (stK ⟨w1.heap.size,0,none⟩ [(.int .i64 0),(.int .i64 0),(.int .i64 0),(.int .i64 0),(.int .i64 0)] w8 fun w9=>ldS T_png_Head.rep ⟨w1.heap.size,0,none⟩ w9 fun r=>K r t51 w9)
      (ldS T_png_Head.rep ⟨g,0,none⟩ w8 fun t56=>stK ⟨w1.heap.size,0,none⟩ (T_png_Head.rep.cells t56) w8 fun w10=>ldS T_png_Head.rep ⟨w1.heap.size,0,none⟩ w10 fun r_1=>K r_1 0 w10):=by
  intro g vs w6 hvs hg6 hB6 hb6
  refine qa2 hb6 hvs.symm fun w7 hb7 hc7 hs7=>?_
  have hb7:Blk w7 g qaw (T_png_Head.rep.cells (qce c.data)):=by rw [hH];exact hb7
  have hB7:Below w2.heap.size w2 w7:=b1o hB6 hc7 hg6
  refine qas (r:=T_png_Head.rep) (x:=qce c.data) hb7.cells ?_
  refine zg9 fun w8 hB8=>?_
  have hB28:=bT hB7 hB8
  by_cases hz:qdd (qce c.data)≠0
  ·refine cT (qdz (by omega)) ?_
   exact hbad w8 hB28 _ (by unfold headP;rw [if_neg hg,if_pos hz])
  ·have hz:qdd (qce c.data)=0:=by omega
   rw [hz]
   refine cF rfl ?_
   refine qas (r:=T_png_Head.rep) (x:=qce c.data) (hb7.ext hB8).cells ?_
   have hh:headP c=(0,qce c.data):=by unfold headP;rw [if_neg hg,hz,if_neg (by decide)]
   rw [hh] at hK
   exact qby (r:=T_png_Head.rep) (x:=qce c.data) (h2.ext hB28) rfl rfl fun w3 hc hs=>hK w3 (b1o (bT hB12 hB28) hc (by omega))
 have hp':∀{w'},Below w2.heap.size w2 w'→Rd qab w' _ _:=fun hB=>hp.ext hB
 have c8:∀{w'},Below w2.heap.size w2 w'→w'.cell? (x.Data.at_ 1 8)=some (.int .u8 (y8.toNat:Int)):=fun hB=>qa9 (hx2.data.ext hB) hy8
 have c9:∀{w'},Below w2.heap.size w2 w'→w'.cell? (x.Data.at_ 1 9)=some (.int .u8 (y9.toNat:Int)):=fun hB=>qa9 (hx2.data.ext hB) hy9
 have c12:∀{w'},Below w2.heap.size w2 w'→w'.cell? (x.Data.at_ 1 12)=some (.int .u8 (y12.toNat:Int)):=fun hB=>qa9 (hx2.data.ext hB) hy12
 have l4:4≤(c.data.drop 4).length:=by rw [List.length_drop];omega
 refine ⟨?_,?_⟩
 ·refine BigG (hx2.data.ext hBd2) (by omega) ?_
  have hB4:=bT hBd2 (bdw _)
  refine ⟨c12 hB4,c9 hB4,c8 hB4,?_,?_⟩
  ·refine BigG (hp' hB4) l4 ?_
   have hB5:=bT hB4 (bdw _)
   refine ⟨c12 hB5,c9 hB5,c8 hB5,nwb fun w6 hb6 hB6 hs6=>?_⟩
   have hB6':=bT hB5 hB6
   refine ⟨c12 hB6',c9 hB6',c8 hB6',?_⟩
   rw [hwb,hwb]
   exact tail _ _ w6 rfl hB5.size hB6' hb6
  ·refine nwb fun w6 hb6 hB6 hs6=>?_
   have hB6':=bT hB4 hB6
   refine ⟨c12 hB6',c9 hB6',c8 hB6',BigG (hp' hB6') l4 ?_⟩
   have hB7':=bT hB6' (bdw _)
   refine ⟨c12 hB7',c9 hB7',c8 hB7',?_⟩
   rw [hwb,hwb]
   exact tail _ _ _ rfl hB4.size hB7' (hb6.ext (bdw _))
 ·refine nwb fun w6 hb6 hB6 hs6=>?_
  have hB6':=bT hBd2 hB6
  refine ⟨c12 hB6',c9 hB6',c8 hB6',BigG (hx2.data.ext hB6') (by omega) ?_⟩
  have hB7':=bT hB6' (bdw _)
  refine ⟨c12 hB7',c9 hB7',c8 hB7',BigG (hp' hB7') l4 ?_⟩
  have hB8':=bT hB7' (bdw _)
  refine ⟨c12 hB8',c9 hB8',c8 hB8',?_⟩
  rw [hwb,hwb]
  exact tail _ _ _ rfl hBd2.size hB8' ((hb6.ext (bdw _)).ext (bdw _))
theorem q63 {b:Slc} {bs:List UInt8} {K:T_png_Head→Int→World→Prop} (hb:Rd qab w b bs) (hbl:∀k,b.blk=some k→k<w.heap.size) (hl:bs.length≤1000000)
  (hK:∀w',Below w.heap.size w w'→K (infoP bs).2 ((infoP bs).1:Nat) w'):qom b w K:=by
 refine q9f _ ?_
 unfold qrq
 refine nwb fun w1 h1 hB1 hs1=>nwb fun w2 h2 hB2 hs2=>?_
 have hB12:=bT hB1 hB2
 have hb2:=hb.ext hB12
 refine q6w (one:=true) (S:=fun k=>k=w1.heap.size) (fun L w3=>Chg (fun k=>k=w1.heap.size) w2 w3∧∃x,Blk w3 w1.heap.size qa5 (T_png_Chunk.rep.cells x)∧(∀c,L.getLast?=some c→ChO w3 (w2.heap.size) x c)) hb2 (by omega)
  (fun a ha e=>by have:=hbl a.block (slk.2 ⟨a,ha,rfl⟩);omega)
  ⟨Chg.refl _ _,⟨⟨#[]⟩,⟨none,0,0⟩⟩,h2,fun c hc=>by cases hc⟩ ?_ (fun L w3 h=>h.1) ?_ ?_
 ·rintro L w3 w4 ⟨hc,x,hx,hL⟩ hB
  exact ⟨hc.trans (Chg.of_ext (S:=fun k=>k=w1.heap.size) hB) fun i _ hi=>hi,x,hx.ext hB,fun c h=>(hL c h).ext hB⟩
 ·rintro L w3 x c ⟨hc,x0,hx0,hL⟩ hLl hx J hJ
  refine qg5 (by kernel_rfl) ?_
  have hcall:qxy x ⟨w1.heap.size,0,none⟩ w3 J:=by
   refine q3b _ _ ?_
   unfold qnj
   refine nwb fun w4 hb4 hB4 hs4=>?_
   refine qas (r:=T_png_Chunk.rep) (x:=x) hb4.cells ?_
   refine qa2 (hx0.ext hB4) rfl fun w5 h5 hc5 hs5=>?_
   have:goP true c=false:=rfl
   rw [this] at hJ
   refine hJ w5 ⟨(hc.trans (Chg.of_ext (S:=fun k=>k=w1.heap.size) hB4) fun i _ hi=>hi).trans hc5 fun i _ hi=>hi,x,h5,fun d hd=>?_⟩
   rw [List.getLast?_append] at hd
   simp at hd
   subst hd
   refine (hx.ext hB4).chg hc5 fun k hk e=>?_
   have:=(hx.data.lt k hk).1
   have:=hx0.lt
   omega
  refine Calls.mono hcall ?_
  rintro e w' ⟨r,rfl,hk⟩
  exact ⟨r,rfl,hk⟩
 ·rintro w3 ⟨hc,x,hx,hL⟩
  have hB3:Below w.heap.size w w3:=b1o hB12 hc (by omega)
  have h13:Blk w3 w.heap.size qaw _:=(h1.ext hB2).chg hc (by omega)
  unfold infoP at hK
  rw [q45] at hK
  by_cases h:(eachR true bs).1≠0
  ·refine cT (qdz (by omega)) ?_
   rw [if_pos h] at hK
   refine qby (r:=T_png_Head.rep) (x:=headZ) h13 rfl rfl fun w4 hc4 hs4=>?_
   have hK:=hK w4 (b1o hB3 hc4 (Nat.le_refl _))
   split at hK
   ·rename_i heq
    have:=congrArg Prod.snd heq
    cases this
   ·rename_i e x hne heq
    have:=congrArg Prod.fst heq
    dsimp only at this
    rw [this]
    exact hK
  ·have h0:(eachR true bs).1=0:=by omega
   obtain ⟨c,hcL⟩:=zih h0
   rw [h0,hcL,if_neg (by decide)] at hK
   replace hK:∀w',Below w.heap.size w w'→K (headP c).2 ((headP c).1:Nat) w':=hK
   rw [h0]
   refine cF rfl ?_
   rw [hcL] at hL
   have hxc:=hL c rfl
   refine qas (r:=T_png_Chunk.rep) (x:=x) hx.cells ?_
   refine q3z hxc.a fun w4 hB4=>?_
   exact qby (r:=T_png_Head.rep) (x:=(headP c).2) (h13.ext hB4) rfl rfl fun w5 hc5 hs5=>hK w5 (b1o (bT hB3 hB4) hc5 (Nat.le_refl _))
end
end Go.Proofs.YtmagnpcgpinmcaaGreat
set_option linter.unusedVariables false
namespace Go.Proofs.YtmagnpcgpinmcaaGreat
open Go.Vc Go.RowKit
set_option maxRecDepth 400000
theorem w8 (y:UInt8):IntKind.i64.wrap ((y.toNat:Nat):Int)=((y.toNat:Nat):Int):=w64i (by have:=y.toNat_lt;omega)
theorem q7h (x y:UInt8):IntKind.u8.wrap ((x.toNat:Int)+(y.toNat:Int))=(((x+y).toNat:Nat):Int):=by
 rw [IntKind.wrap_u8,UInt8.toNat_add]
 omega
theorem q68 (x y:UInt8):IntKind.u8.wrap ((x.toNat:Int)-(y.toNat:Int))=(((x-y).toNat:Nat):Int):=by
 have hx:=x.toNat_lt
 have hy:=y.toNat_lt
 rw [IntKind.wrap_u8,UInt8.toNat_sub]
 omega
def u8c (x:UInt8):List Value:=[.int .u8 (x.toNat:Int)]
theorem zl2 (z:Int):(if (0-z)>z then (0-z) else z)=(z.natAbs:Int):=by split<;>omega
section
variable {w:World}
theorem qhc {a b c x:UInt8} {ga gb gc:Nat} {K:Int→World→Prop} (ha:Blk w ga qag (u8c a)) (hb:Blk w gb qag (u8c b)) (hc:Blk w gc qag (u8c c))
  (hK:K ((((a.toNat:Int)+(b.toNat:Int)-(c.toNat:Int)-(x.toNat:Int)).natAbs:Nat):Int) w):qck (x.toNat:Int) ⟨ga,0,none⟩ ⟨gb,0,none⟩ ⟨gc,0,none⟩ w K:=by
 refine qvb _ _ _ _ ?_
 unfold qjb
 refine lI (x:=(a.toNat:Int)) (ha.cell 0 rfl) (lI (x:=(b.toNat:Int)) (hb.cell 0 rfl) (lI (x:=(c.toNat:Int)) (hc.cell 0 rfl) ?_))
 have a8:=a.toNat_lt
 have b8:=b.toNat_lt
 have c8:=c.toNat_lt
 have x8:=x.toNat_lt
 rw [w8,w8,w8,w8,w64i (x:=(a.toNat:Int)+(b.toNat:Int)) (by omega),w64i (x:=(a.toNat:Int)+(b.toNat:Int)-(c.toNat:Int)) (by omega),w64i (x:=(a.toNat:Int)+(b.toNat:Int)-(c.toNat:Int)-(x.toNat:Int)) (by omega),
  w64i (x:=0-((a.toNat:Int)+(b.toNat:Int)-(c.toNat:Int)-(x.toNat:Int))) (by omega),zl2]
 exact hK
theorem zf5 {a b c:UInt8} {K:Int→World→Prop} (hK:∀w',Below w.heap.size w w'→K (((qjx a b c).toNat:Nat):Int) w'):qmh (a.toNat:Int) (b.toNat:Int) (c.toNat:Int) w K:=by
 refine qy5 _ _ _ ?_
 unfold qle
 refine nwb fun w1 h1 hB1 hs1=>nwb fun w2 h2 hB2 hs2=>nwb fun w3 h3 hB3 hs3=>?_
 have hB13:=bT (bT hB1 hB2) hB3
 have ha:Blk w3 w.heap.size qag (u8c a):=(h1.ext hB2).ext hB3
 have hb:Blk w3 w1.heap.size qag (u8c b):=h2.ext hB3
 have hc:Blk w3 w2.heap.size qag (u8c c):=h3
 have hBd:=bT hB13 (bdw w3)
 have had:=ha.ext (bdw w3)
 have hbd:=hb.ext (bdw w3)
 have hcd:=hc.ext (bdw w3)
 refine jpO fun J1 hJ1=>?_
 refine lI (x:=(a.toNat:Int)) (had.cell 0 rfl) (lI (x:=(b.toNat:Int)) (hbd.cell 0 rfl) ?_)
 obtain ⟨p,hp⟩:∃p:Int,p=(a.toNat:Int)+(b.toNat:Int)-(c.toNat:Int):=⟨_,rfl⟩
 have kB:(¬((p-(a.toNat:Int)).natAbs≤(p-(b.toNat:Int)).natAbs∧(p-(a.toNat:Int)).natAbs≤(p-(c.toNat:Int)).natAbs))→J1 (false,()) w3.drew:=by
  intro hn
  refine hJ1 _ _ (cF rfl ?_)
  have hBd2:=bT hBd (bdw _)
  have had:=had.ext (bdw _)
  have hbd:=hbd.ext (bdw _)
  have hcd:=hcd.ext (bdw _)
  refine lI (x:=(b.toNat:Int)) (hbd.cell 0 rfl) (lI (x:=(c.toNat:Int)) (hcd.cell 0 rfl) ?_)
  refine qhc had hbd hcd ⟨hcd.cell 0 rfl,qhc had hbd hcd ?_⟩
  rw [←hp]
  refine cO (fun h=>?_) fun h=>?_
  ·have h:=of_decide_eq_true h
   refine lI (x:=(b.toNat:Int)) (hbd.cell 0 rfl) ?_
   have:qjx a b c=b:=by unfold qjx;rw [←hp];dsimp only;rw [if_neg hn,if_pos (by omega)]
   rw [this] at hK
   exact hK _ hBd2
  ·have h:=of_decide_eq_false h
   refine lI (x:=(c.toNat:Int)) (hcd.cell 0 rfl) ?_
   have:qjx a b c=c:=by unfold qjx;rw [←hp];dsimp only;rw [if_neg hn,if_neg (by omega)]
   rw [this] at hK
   exact hK _ hBd2
 refine qhc had hbd hcd ⟨hbd.cell 0 rfl,qhc had hbd hcd ?_⟩
 rw [←hp]
 refine cO (fun h=>?_) fun h=>?_
 ·have h:=of_decide_eq_true h
  refine lI (x:=(a.toNat:Int)) (had.cell 0 rfl) (lI (x:=(c.toNat:Int)) (hcd.cell 0 rfl) ?_)
  refine qhc had hbd hcd ⟨hcd.cell 0 rfl,qhc had hbd hcd ?_⟩
  rw [←hp]
  by_cases h2:(p-(a.toNat:Int)).natAbs≤(p-(c.toNat:Int)).natAbs
  ·rw [decide_eq_true (by omega)]
   refine hJ1 _ _ (cT rfl (lI (x:=(a.toNat:Int)) (had.cell 0 rfl) ?_))
   have:qjx a b c=a:=by unfold qjx;rw [←hp];dsimp only;rw [if_pos ⟨by omega,h2⟩]
   rw [this] at hK
   exact hK _ hBd
  ·rw [decide_eq_false (by omega)]
   exact kB fun e=>h2 e.2
 ·have h:=of_decide_eq_false h
  exact kB fun e=>h (by omega)
theorem q3e {kind step:Int} {row ahead:Slc} {K:Bool→World→Prop} (hK:K (decide (0≤kind∧kind≤4∧1≤step∧step≤8∧(ahead.n=0∨ahead.n=row.n))) w):qit kind row ahead step w K:=by
 refine q0e _ _ _ _ ?_
 unfold qlk
 by_cases h1:kind≥0
 ·refine cT (decide_eq_true h1) ?_
  by_cases h2:kind≤4
  ·refine cT (decide_eq_true h2) ?_
   by_cases h3:step≥1
   ·refine cT (decide_eq_true h3) ?_
    by_cases h4:step≤8
    ·refine cT (decide_eq_true h4) ?_
     by_cases h5:ahead.n=0
     ·refine cT (zbt (by omega)) ?_
      rw [decide_eq_true ⟨h1,h2,h3,h4,.inl h5⟩] at hK
      exact hK
     ·refine cF (qqd (by omega)) ?_
      by_cases h6:ahead.n=row.n
      ·rw [decide_eq_true ⟨h1,h2,h3,h4,.inr h6⟩] at hK
       rw [zbt (by omega)]
       exact hK
      ·rw [decide_eq_false (by omega)] at hK
       rw [qqd (by omega)]
       exact hK
    ·refine cF (decide_eq_false h4) ?_
     rw [decide_eq_false (by omega)] at hK
     exact hK
   ·refine cF (decide_eq_false h3) ?_
    rw [decide_eq_false (by omega)] at hK
    exact hK
  ·refine cF (decide_eq_false h2) ?_
   rw [decide_eq_false (by omega)] at hK
   exact hK
 ·refine cF (decide_eq_false h1) ?_
  rw [decide_eq_false (by omega)] at hK
  exact hK
theorem q5a {kind i step:Nat} {row ahead:Slc} {rs ah:List UInt8} {K:Int→World→Prop} (hr:Rd qab w row rs) (ha:Rd qab w ahead ah) (hk:kind≤4) (h1:1≤step) (hil:i<rs.length) (hal:ah=[]∨ah.length=rs.length) (hl:rs.length≤1000000000)
  (hK:∀w',Below w.heap.size w w'→K ((gAt kind rs ah step i).toNat:Nat) w'):qiy (kind:Int) (i:Int) row ahead (step:Int) w K:=by
 refine qy6 _ _ _ _ _ ?_
 unfold qk8
 unfold gAt at hK
 have hp0:¬step≤i→∀l,prevP l i step=0:=fun h l=>by unfold prevP;rw [if_neg h]
 have hp1:step≤i→∀l:List UInt8,∀x,l[i-step]?=some x→prevP l i step=x:=fun h l x hx=>by unfold prevP;rw [if_pos h,hx];rfl
 refine jpO fun J1 hJ1=>?_
 have key:∀a:UInt8,prevP rs i step=a→J1 (((a.toNat:Nat):Int),()) w:=by
  intro a ea
  rw [ea] at hK
  refine hJ1 _ _ (jpO fun J2 hJ2=>?_)
  have key2:∀b c:UInt8,ah[i]?.getD 0=b→prevP ah i step=c→J2 (((b.toNat:Nat):Int),((c.toNat:Nat):Int),()) w:=by
   intro b c eb ec
   rw [eb,ec] at hK
   refine hJ2 _ _ ?_
   dsimp only
   have a8:=a.toNat_lt
   have b8:=b.toNat_lt
   refine cO (fun h=>?_) fun h=>?_
   ·have h:kind=3:=by
                have:(kind:Int)=3:=by simpa using h
                omega
    subst h
    refine ⟨by decide,?_⟩
    have e:IntKind.u8.wrap (IntKind.i64.wrap ((IntKind.i64.wrap ((IntKind.i64.wrap ((a.toNat:Nat):Int))+(IntKind.i64.wrap ((b.toNat:Nat):Int)))).tdiv (2:Int)))=(((UInt8.ofNat ((a.toNat+b.toNat)/2)).toNat:Nat):Int):=by
     rw [w8,w8,show ((a.toNat:Nat):Int)+((b.toNat:Nat):Int)=((a.toNat+b.toNat:Nat):Int) from rfl,w64i (x:=((a.toNat+b.toNat:Nat):Int)) (by omega),show (2:Int)=((2:Nat):Int) from rfl,←Int.ofNat_tdiv,w64i (by omega),qb3]
    rw [e]
    exact hK w (Below.refl _ _)
   have h3:kind≠3:=by
                have:(kind:Int)≠3:=by simpa using h
                omega
   refine cO (fun h=>?_) fun h=>?_
   ·have h:kind=4:=by
                have:(kind:Int)=4:=by simpa using h
                omega
    subst h
    exact zf5 fun w3 hB3=>hK w3 hB3
   have h4:kind≠4:=by
                have:(kind:Int)≠4:=by simpa using h
                omega
   refine cO (fun h=>?_) fun h=>?_
   ·have h:kind=2:=by
                have:(kind:Int)=2:=by simpa using h
                omega
    subst h
    exact hK w (Below.refl _ _)
   have h2:kind≠2:=by
                have:(kind:Int)≠2:=by simpa using h
                omega
   refine cO (fun h=>?_) fun h=>?_
   ·have h:kind=1:=by
                have:(kind:Int)=1:=by simpa using h
                omega
    subst h
    exact hK w (Below.refl _ _)
   have h1:kind≠1:=by
                have:(kind:Int)≠1:=by simpa using h
                omega
   obtain rfl:kind=0:=by omega
   exact hK w (Below.refl _ _)
  rw [ha.n]
  refine cO (fun hlt=>?_) fun hge=>?_
  ·have hlt:=of_decide_eq_true hlt
   obtain ⟨b,hb,hbs⟩:=qa0 (xs:=ah) (k:=i) (by omega)
   refine ha.ix (i:=(i:Int)) rfl (by omega) (by omega) fun hcb=>?_
   rw [hbs] at hcb
   refine ldB8 (b:=b) hcb ?_
   refine cO (fun hs=>?_) fun hs=>?_
   ·have hs:=of_decide_eq_true hs
    have e:IntKind.i64.wrap ((i:Int)-(step:Int))=((i-step:Nat):Int):=by rw [w64i (by omega)];omega
    rw [e]
    obtain ⟨c,hc,hcs⟩:=qa0 (xs:=ah) (k:=i-step) (by omega)
    refine ha.ix (i:=((i-step:Nat):Int)) rfl (by omega) (by omega) fun hcc=>?_
    rw [hcs] at hcc
    refine ldB8 (b:=c) hcc ?_
    exact key2 b c (by rw [hb];rfl) (hp1 (by omega) _ _ hc)
   ·have hs:=of_decide_eq_false hs
    exact key2 b 0 (by rw [hb];rfl) (hp0 (by omega) _)
  ·have hge:=of_decide_eq_false hge
   have he:ah=[]:=by
    rcases hal with h | h
    ·exact h
    ·exact absurd hil (by omega)
   subst he
   refine key2 0 0 rfl ?_
   unfold prevP
   split<;>rfl
 refine cO (fun hs=>?_) fun hs=>?_
 ·have hs:=of_decide_eq_true hs
  have e:IntKind.i64.wrap ((i:Int)-(step:Int))=((i-step:Nat):Int):=by rw [w64i (by omega)];omega
  rw [e]
  obtain ⟨a,ha',has⟩:=qa0 (xs:=rs) (k:=i-step) (by omega)
  refine hr.ix (i:=((i-step:Nat):Int)) rfl (by omega) (by omega) fun hca=>?_
  rw [has] at hca
  refine ldB8 (b:=a) hca ?_
  exact key a (hp1 (by omega) _ _ ha')
 ·have hs:=of_decide_eq_false hs
  exact key 0 (hp0 (by omega) _)
theorem q7t (kind:Nat) (row ahead:List UInt8) (step i:Nat) {x:UInt8} (hx:row[i]?=some x) (hs:1≤step):(undoP kind row ahead step)[i]?=some (x+gAt kind (undoP kind row ahead step) ahead step i):=by
 have h:=q4a kind row ahead step i hx hs
 have hi:i<row.length:=(List.getElem?_eq_some_iff.1 hx).1
 have h2:((undoP kind row ahead step).take (i+1))[i]?=(undoP kind row ahead step)[i]?:=List.getElem?_take_of_lt (by omega)
 rw [←h2,h,List.getElem?_append_right (by rw [List.length_take];omega),List.length_take,qe1,Nat.min_eq_left (by omega),Nat.sub_self]
 rfl
theorem zk9 {kind:Nat} {ys xs ah:List UInt8} {step i:Nat} (h:ys.length=xs.length) (hi:i<xs.length) (hs:1≤step):gAt kind (mix ys xs i) ah step i=gAt kind ys ah step i:=by
 unfold gAt
 congr 1
 unfold prevP
 split
 ·rw [qfk h hi,if_pos (by omega)]
 ·rfl
theorem ziw {kind step:Nat} {row ahead:Slc} {rs ah:List UInt8} {K:Slc→Int→World→Prop} (hr:Rd qab w row rs) (ha:Rd qab w ahead ah) (h1:1≤step) (h8:step≤8) (hal:ah=[]∨ah.length=rs.length) (hl:rs.length≤1000000000)
  (hB:4<kind→K ⟨none,0,0⟩ 1 w) (hK:kind≤4→∀r w',Go.Vc.Own qab w' w.heap.size r (undoP kind rs ah step)→Below w.heap.size w w'→K r 0 w'):qn9 (kind:Int) row ahead (step:Int) w K:=by
 refine q11 _ _ _ _ ?_
 unfold qmm
 refine q3e ?_
 have hno:ahead.n=0∨ahead.n=row.n:=by
  rw [ha.n,hr.n]
  rcases hal with h | h
  ·left;rw [h];rfl
  ·exact .inr h
 refine cO (fun h=>?_) fun h=>?_
 ·refine hB (Nat.lt_of_not_le fun e=>?_)
  rw [decide_eq_true ⟨by omega,by omega,by omega,by omega,hno⟩] at h
  cases h
 have hk:kind≤4:=by
  by_cases hk:kind≤4
  ·exact hk
  ·rw [decide_eq_false (by omega)] at h
   cases h
 have hK:=hK hk
 obtain ⟨ys,hys⟩:∃ys,ys=undoP kind rs ah step:=⟨_,rfl⟩
 have hyl:ys.length=rs.length:=by rw [hys,qe1]
 rw [←hys] at hK
 refine qf5 hr (by omega) fun t w2 ht hB2=>?_
 refine lpR (fun (st:Int×Unit) w3=>∃i:Nat,st.1=i∧i≤rs.length∧Go.Vc.Own qab w3 w.heap.size t (mix ys rs i)∧Below w.heap.size w w3) (fun st=>rs.length-st.1.toNat) ⟨0,rfl,by omega,by rw [qf9];exact ht,hB2⟩ ?_
 rintro ⟨i,u⟩ w3 ⟨i,rfl,hi,hT,hB3⟩ I hI
 dsimp only
 have htn:=hT.rd.n
 rw [qc3 hyl] at htn
 rw [htn]
 refine cO (fun hlt=>?_) fun hge=>?_
 ·have hlt:=of_decide_eq_true hlt
  have hil:i<rs.length:=by omega
  have hml:=qc3 hyl i
  obtain ⟨x,hx,hxs⟩:=qa0 (xs:=rs) (k:=i) hil
  have hxm:(mix ys rs i)[i]?=some x:=by rw [qfk hyl hil,if_neg (by omega)];exact hx
  have ix:∀{w':World} {K:Addr→Prop},Go.Vc.Own qab w' w.heap.size t (mix ys rs i)→K (t.at_ qab.k i)→ixK t (i:Int) 1 K:=fun {w' K} h hk=>h.rd.ix (i:=(i:Int)) rfl (by omega) (by omega) fun _=>by simpa using hk
  have hTd:=hT.ext (bdw w3)
  refine ix hT (lI (qa9 hTd.rd hxm) ?_)
  have hBd:=bT hB3 (bdw w3)
  refine q5a hTd.rd (ha.ext hBd) hk h1 (by omega) (by rw [hml];exact hal) (by omega) fun w4 hB4=>?_
  have hT4:=hTd.ext hB4
  refine ⟨qa9 hT4.rd hxm,ix hT4 ?_⟩
  rw [zk9 hyl hil h1,q7h]
  refine hT4.st0 (x:=x) (y:=x+gAt kind ys ah step i) hxm rfl fun w5 hT5 hg5 hs5=>?_
  have hy:ys[i]?=some (x+gAt kind ys ah step i):=by rw [hys];exact q7t kind rs ah step i hx h1
  rw [qhe hyl hil hy] at hT5
  rw [w64i (by omega)]
  refine hI _ _ ⟨i+1,rfl,by omega,hT5,?_⟩ (by simp;omega)
  exact (bT hBd hB4).grown hg5 (bT hBd hB4).size fun k hk=>(hT4.lt k hk).1
 ·have hge:=of_decide_eq_false hge
  obtain rfl:i=rs.length:=by omega
  rw [qg9 hyl] at hT
  exact hK t w3 hT hB3
theorem zlm {kind step:Nat} {row ahead:Slc} {rs ah:List UInt8} {K:Slc→Int→World→Prop} (hr:Rd qab w row rs) (ha:Rd qab w ahead ah) (hk:kind≤4) (h1:1≤step) (h8:step≤8) (hal:ah=[]∨ah.length=rs.length) (hl:rs.length≤1000000000)
  (hK:∀r w',Go.Vc.Own qab w' w.heap.size r (doP kind rs ah step)→Below w.heap.size w w'→K r 0 w'):qru (kind:Int) row ahead (step:Int) w K:=by
 refine q5d _ _ _ _ ?_
 unfold qqe
 refine q3e ?_
 have hno:ahead.n=0∨ahead.n=row.n:=by
  rw [ha.n,hr.n]
  rcases hal with h | h
  ·left;rw [h];rfl
  ·exact .inr h
 rw [decide_eq_true ⟨by omega,by omega,by omega,by omega,hno⟩]
 refine cF rfl ?_
 obtain ⟨ys,hys⟩:∃ys,ys=doP kind rs ah step:=⟨_,rfl⟩
 have hyl:ys.length=rs.length:=by rw [hys,qgr]
 rw [←hys] at hK
 refine qf5 hr (by omega) fun t w2 ht hB2=>?_
 refine lpR (fun (st:Int×Unit) w3=>∃i:Nat,st.1=i∧i≤rs.length∧Go.Vc.Own qab w3 w.heap.size t (mix ys rs i)∧Below w.heap.size w w3) (fun st=>rs.length-st.1.toNat) ⟨0,rfl,by omega,by rw [qf9];exact ht,hB2⟩ ?_
 rintro ⟨i,u⟩ w3 ⟨i,rfl,hi,hT,hB3⟩ I hI
 dsimp only
 have htn:=hT.rd.n
 rw [qc3 hyl] at htn
 rw [htn]
 refine cO (fun hlt=>?_) fun hge=>?_
 ·have hlt:=of_decide_eq_true hlt
  have hil:i<rs.length:=by omega
  have hml:=qc3 hyl i
  obtain ⟨x,hx,hxs⟩:=qa0 (xs:=rs) (k:=i) hil
  have hxm:(mix ys rs i)[i]?=some x:=by rw [qfk hyl hil,if_neg (by omega)];exact hx
  have ix:∀{w':World} {K:Addr→Prop},Go.Vc.Own qab w' w.heap.size t (mix ys rs i)→K (t.at_ qab.k i)→ixK t (i:Int) 1 K:=fun {w' K} h hk=>h.rd.ix (i:=(i:Int)) rfl (by omega) (by omega) fun _=>by simpa using hk
  have hTd:=hT.ext (bdw w3)
  refine ix hT (lI (qa9 hTd.rd hxm) ?_)
  have hBd:=bT hB3 (bdw w3)
  refine q5a (hr.ext hBd) (ha.ext hBd) hk h1 hil hal hl fun w4 hB4=>?_
  have hT4:=hTd.ext hB4
  refine ⟨qa9 hT4.rd hxm,ix hT4 ?_⟩
  rw [q68]
  refine hT4.st0 (x:=x) (y:=x-gAt kind rs ah step i) hxm rfl fun w5 hT5 hg5 hs5=>?_
  have hy:ys[i]?=some (x-gAt kind rs ah step i):=by rw [hys];exact q55 kind rs ah step i hx
  rw [qhe hyl hil hy] at hT5
  rw [w64i (by omega)]
  refine hI _ _ ⟨i+1,rfl,by omega,hT5,?_⟩ (by simp;omega)
  exact (bT hBd hB4).grown hg5 (bT hBd hB4).size fun k hk=>(hT4.lt k hk).1
 ·have hge:=of_decide_eq_false hge
  obtain rfl:i=rs.length:=by omega
  rw [qg9 hyl] at hT
  exact hK t w3 hT hB3
theorem qws {n:Int} {K:Bool→World→Prop} (hK:K (qbv n) w):qgo n w K:=by
 refine qv2 _ ?_
 unfold qi0
 unfold qbv at hK
 refine cO (fun h=>?_) fun h=>?_
 ·rw [eq_of_beq h] at hK
  exact hK
 have h1:n≠1:=by simpa using h
 refine cO (fun h=>?_) fun h=>?_
 ·rw [eq_of_beq h] at hK
  exact hK
 have h2:n≠2:=by simpa using h
 refine cO (fun h=>?_) fun h=>?_
 ·rw [eq_of_beq h] at hK
  exact hK
 have h4:n≠4:=by simpa using h
 refine cO (fun h=>?_) fun h=>?_
 ·rw [eq_of_beq h] at hK
  exact hK
 have h8:n≠8:=by simpa using h
 rw [decide_eq_false h1,decide_eq_false h2,decide_eq_false h4,decide_eq_false h8] at hK
 have e:(n==(16:Int))=decide (n=16):=by rw [Bool.eq_iff_iff];simp
 rw [e]
 exact hK
theorem q9w {wx samples depth:Int} {K:Int→World→Prop} (hK:K ((rowP wx samples depth:Nat):Int) w):qlj wx samples depth w K:=by
 refine q26 _ _ _ ?_
 unfold qnh
 unfold rowP at hK
 refine jpO fun J hJ=>?_
 refine cO (fun h=>?_) fun h=>?_
 ·rw [if_pos (.inl (of_decide_eq_true h))] at hK;exact hK
 have h1:=of_decide_eq_false h
 refine cO (fun h=>?_) fun h=>?_
 ·rw [if_pos (.inr (.inl (of_decide_eq_true h)))] at hK;exact hK
 have h2:=of_decide_eq_false h
 refine cO (fun h=>?_) fun h=>?_
 ·rw [if_pos (.inr (.inr (.inl (of_decide_eq_true h))))] at hK;exact hK
 have h3:=of_decide_eq_false h
 refine cO (fun h=>?_) fun h=>?_
 ·rw [if_pos (.inr (.inr (.inr (.inl (of_decide_eq_true h)))))] at hK;exact hK
 have h4:=of_decide_eq_false h
 refine qws ?_
 cases hd:qbv depth with
 | false =>
  rw [if_pos (.inr (.inr (.inr (.inr hd))))] at hK
  exact cT rfl hK
 | true =>
  rw [if_neg (by rw [hd];simp;omega)] at hK
  refine cF rfl (hJ _ _ ⟨by decide,?_⟩)
  have hdp:1≤depth∧depth≤16:=by
   unfold qbv at hd
   simp at hd
   omega
  have a1:0≤wx*samples:=Int.mul_nonneg (by omega) (by omega)
  have a2:wx*samples≤16384*4:=Int.mul_le_mul (by omega) (by omega) (by omega) (by omega)
  have a3:0≤wx*samples*depth:=Int.mul_nonneg a1 (by omega)
  have a4:wx*samples*depth≤16384*4*16:=Int.mul_le_mul a2 (by omega) (by omega) (by omega)
  rw [w64i (x:=wx*samples) (by omega),w64i (x:=wx*samples*depth) (by omega),w64i (x:=wx*samples*depth+7) (by omega),Int.tdiv_eq_ediv_of_nonneg (by omega),w64i (by omega)]
  have e:(((wx*samples*depth+7)/8).toNat:Int)=(wx*samples*depth+7)/8:=by omega
  rw [e] at hK
  exact hK
def passT (p:PassP):T_q8_Pass:=⟨p.x,p.y,p.dx,p.dy⟩
theorem q03 {n:Nat} {K:Bool→World→Prop} (h1:1≤n) (h2:n≤16384) (hK:K true w):qhu (n:Int) w K:=by
 refine qw2 _ ?_
 unfold qkb
 refine cT (decide_eq_true (by omega)) ?_
 rw [decide_eq_true (by omega)]
 exact hK
theorem zh5 {p:PassP} {W H:Nat} {K:Int→Int→World→Prop} (hW1:1≤W) (hW2:W≤16384) (hH1:1≤H) (hH2:H≤16384) (hdx:1≤p.dx) (hdy:1≤p.dy)
  (hK:∀w',Below w.heap.size w w'→K ((sizeP p W H).1:Nat) ((sizeP p W H).2:Nat) w'):qnd (passT p) (W:Int) (H:Int) w K:=by
 refine q13 _ _ _ ?_
 unfold qmu
 refine nwb fun w1 h1 hB1 hs1=>?_
 refine jpO fun J hJ=>?_
 refine q03 hW1 hW2 (cF rfl (q03 hH1 hH2 (cF rfl ?_)))
 unfold sizeP at hK
 refine lI (x:=(p.x:Int)) (h1.cells 0 _ rfl) (cF (decide_eq_false (by omega)) ?_)
 refine lI (x:=(p.y:Int)) (h1.cells 1 _ rfl) (cF (decide_eq_false (by omega)) ?_)
 refine lI (x:=(p.dx:Int)) (h1.cells 2 _ rfl) (cF (decide_eq_false (by omega)) ?_)
 refine lI (x:=(p.dy:Int)) (h1.cells 3 _ rfl) (cF (decide_eq_false (by omega)) ?_)
 refine lI (x:=(p.x:Int)) (h1.cells 0 _ rfl) ?_
 refine cO (fun h=>?_) fun h=>?_
 ·have h:=of_decide_eq_true h
  rw [if_pos (.inl (by omega))] at hK
  exact hK w1 hB1
 have hx:=of_decide_eq_false h
 refine lI (x:=(p.y:Int)) (h1.cells 1 _ rfl) ?_
 refine cO (fun h=>?_) fun h=>?_
 ·have h:=of_decide_eq_true h
  rw [if_pos (.inr (by omega))] at hK
  exact hK w1 hB1
 have hy:=of_decide_eq_false h
 rw [if_neg (by omega)] at hK
 refine qas (r:=T_q8_Pass.rep) (x:=passT p) h1.cells ?_
 have hz:(((passT p).X==(0:Int)) && (((passT p).Y==(0:Int)) && (((passT p).DX==(0:Int)) && (((passT p).DY==(0:Int)) && true))))=false:=by
  have:((passT p).DX==(0:Int))=false:=qqd (by show (p.dx:Int)≠0;omega)
  rw [this]
  simp
 refine cF hz (hJ _ _ ?_)
 have hd:=h1.ext (bdw w1)
 refine lI (x:=(p.x:Int)) (hd.cells 0 _ rfl) (lI (x:=(p.dx:Int)) (hd.cells 2 _ rfl) ⟨by omega,?_⟩)
 refine lI (x:=(p.y:Int)) (hd.cells 1 _ rfl) (lI (x:=(p.dy:Int)) (hd.cells 3 _ rfl) ⟨by omega,?_⟩)
 have e:∀(n a d:Nat),n≤16384→a<n→1≤d→IntKind.i64.wrap ((IntKind.i64.wrap ((IntKind.i64.wrap ((IntKind.i64.wrap ((n:Int)-(a:Int)))-(1:Int))).tdiv (d:Int)))+(1:Int))=(((n-a-1)/d+1:Nat):Int):=by
  intro n a d hn ha hd
  rw [w64i (x:=(n:Int)-(a:Int)) (by omega),w64i (x:=(n:Int)-(a:Int)-1) (by omega),show (n:Int)-(a:Int)-1=((n-a-1:Nat):Int) by omega,←Int.ofNat_tdiv]
  have:(n-a-1)/d≤n-a-1:=Nat.div_le_self _ _
  generalize (n-a-1)/d=q at this ⊢
  rw [w64i (x:=(q:Int)) (by omega),w64i (by omega)]
  rfl
 rw [e W p.x p.dx hW2 (by omega) hdx,e H p.y p.dy hH2 (by omega) hdy]
 exact hK _ (bT hB1 (bdw w1))
theorem q43 {d i:Nat} (h:d=1∨d=2∨d=4∨d=8):i*d%8+d≤8:=by
 rcases h with rfl | rfl | rfl | rfl<;>omega
def intsN (l:List Nat):List Int:=l.map fun (v:Nat)=>(v:Int)
theorem qet (l:List Nat):(intsN l).length=l.length:=by simp [intsN]
theorem quj (l:List Nat) (i:Nat):(intsN l)[i]?=(l[i]?).map fun (v:Nat)=>(v:Int):=by simp [intsN]
theorem q85 {row:Slc} {rs:List UInt8} {d n:Nat} {K:Slc→Int→World→Prop} (hr:Rd qab w row rs) (hd:d=1∨d=2∨d=4∨d=8∨d=16) (hn:n*d≤8*rs.length) (hl:rs.length≤1000000000)
  (hK:∀r w',Go.Vc.Own E_int w' w.heap.size r (intsN (qb2 rs d n))→Below w.heap.size w w'→K r 0 w'):qko row (d:Int) (n:Int) w K:=by
 refine qvj _ _ _ ?_
 unfold qi4
 have hd1:1≤d∧d≤16:=by omega
 have hnl:n≤8*rs.length:=Nat.le_trans (Nat.le_mul_of_pos_right n (by omega)) hn
 have hdP:qbv (d:Int)=true:=by
  unfold qbv
  rcases hd with rfl | rfl | rfl | rfl | rfl<;>rfl
 refine jpO fun J1 hJ1=>jpO fun J3 hJ3=>?_
 refine qws ?_
 rw [hdP]
 refine cF rfl ?_
 rw [decide_eq_false (by omega)]
 refine hJ3 _ _ (cF rfl ⟨by omega,?_⟩)
 rw [hr.n]
 have e1:IntKind.i64.wrap ((IntKind.i64.wrap ((8:Int)*((rs.length:Nat):Int))).tdiv (d:Int))=((8*rs.length/d:Nat):Int):=by
  rw [w64i (x:=(8:Int)*((rs.length:Nat):Int)) (by omega),show (8:Int)*((rs.length:Nat):Int)=((8*rs.length:Nat):Int) by simp,←Int.ofNat_tdiv]
  have:8*rs.length/d≤8*rs.length:=Nat.div_le_self _ _
  generalize 8*rs.length/d=q at this ⊢
  rw [w64i (by omega)]
 rw [e1]
 have hle:n≤8*rs.length/d:=(Nat.le_div_iff_mul_le (by omega)).2 hn
 refine cF (decide_eq_false (by omega)) (hJ1 _ _ ?_)
 clear hJ1 hJ3
 obtain ⟨ys,hys⟩:∃ys,ys=intsN (qb2 rs d n):=⟨_,rfl⟩
 have hyl:ys.length=n:=by rw [hys,qet];simp [qb2]
 have hyg:∀i,i<n→ys[i]?=some ((qea rs d i:Nat):Int):=fun i hi=>by
  rw [hys,quj]
  simp [qb2,hi]
 rw [←hys] at hK
 have hyl':ys.length=(List.replicate n (0:Int)).length:=by rw [List.length_replicate];exact hyl
 have hml:∀i,(mix ys (List.replicate n 0) i).length=n:=fun i=>by rw [qc3 hyl',List.length_replicate]
 refine qeu qq6 (x0:=(0:Int)) rfl (n:=n) rfl rfl (by rw [qxn];omega) (by unfold maxLen;omega) fun w2 hT0 hB2=>?_
 obtain ⟨t,ht⟩:∃t:Slc,t=⟨some ⟨w.heap.size,0,none⟩,n,n⟩:=⟨_,rfl⟩
 rw [←ht] at hT0 ⊢
 have htn:t.n=n:=by rw [ht]
 refine lpR (fun (st:Int×Unit) w3=>∃i:Nat,st.1=i∧i≤n∧Go.Vc.Own E_int w3 w.heap.size t (mix ys (List.replicate n 0) i)∧Below w.heap.size w w3) (fun st=>n-st.1.toNat) ⟨0,rfl,by omega,by rw [qf9];exact hT0,hB2⟩ ?_
 rintro ⟨i,u⟩ w3 ⟨i,rfl,hi,hT,hB3⟩ I hI
 dsimp only
 rw [htn]
 refine cO (fun hlt=>?_) fun hge=>?_
 ·have hlt:=of_decide_eq_true hlt
  have hil:i<n:=by omega
  have hBd:=bT hB3 (bdw w3)
  have hr3:=hr.ext hB3
  have hrd:=hr.ext hBd
  have hTd:=hT.ext (bdw w3)
  have hzi:(mix ys (List.replicate n 0) i)[i]?=some (0:Int):=by rw [qfk hyl' (by simpa using hil),if_neg (by omega)];simp [hil]
  have hid:i*d<n*d:=Nat.mul_lt_mul_of_pos_right hil (by omega)
  have st:∀v:Int,v=((qea rs d i:Nat):Int)→ixK t (i:Int) 1 fun t53=>stK t53 [.int .i64 v] w3.drew fun w4=>I ((IntKind.i64.wrap ((i:Int)+(1:Int))),()) w4:=by
   intro v hv
   refine hTd.rd.ix (i:=(i:Int)) rfl (by omega) (by rw [hml];omega) fun _=>?_
   refine hTd.st0 (x:=(0:Int)) (y:=v) (by simpa using hzi) rfl fun w4 hT4 hg4 hs4=>?_
   rw [Int.toNat_natCast,hv,qhe hyl' (by simpa using hil) (hyg i hil)] at hT4
   rw [w64i (by omega)]
   refine hI _ _ ⟨i+1,rfl,by omega,hT4,?_⟩ (by simp;omega)
   exact hBd.grown hg4 hBd.size fun k hk=>(hTd.lt k hk).1
  refine cO (fun h16=>?_) fun h16=>?_
  ·have h16:d=16:=by
    have:=eq_of_beq h16
    omega
   subst h16
   obtain ⟨x,hx,hxs⟩:=qa0 (xs:=rs) (k:=2*i) (by omega)
   obtain ⟨y,hy,hys'⟩:=qa0 (xs:=rs) (k:=2*i+1) (by omega)
   have x8:=x.toNat_lt
   have y8:=y.toNat_lt
   have ei:IntKind.i64.wrap ((2:Int)*(i:Int))=((2*i:Nat):Int):=by rw [w64i (by omega)];simp
   have ei1:IntKind.i64.wrap ((((2*i:Nat)):Int)+(1:Int))=((2*i+1:Nat):Int):=by rw [w64i (by omega)];rfl
   rw [ei,ei1]
   refine hr3.ix (i:=((2*i:Nat):Int)) rfl (by omega) (by omega) fun _=>?_
   refine lI (x:=(x.toNat:Int)) (by rw [Int.toNat_natCast];exact qa9 hrd hx) ⟨by decide,?_⟩
   refine hr3.ix (i:=((2*i+1:Nat):Int)) rfl (by omega) (by omega) fun _=>?_
   refine lI (x:=(y.toNat:Int)) (by rw [Int.toNat_natCast];exact qa9 hrd hy) (st _ ?_)
   rw [w8,w8,show min ((8:Int)).toNat IntKind.i64.bits=8 by decide,qa4,qad .i64 (x:=x.toNat*2^8) (by show _<2^63;omega),qcx .i64 (by show _<2^63;omega) (by show _<2^63;omega)]
   have e:x.toNat*2^8 ||| y.toNat=x.toNat*256+y.toNat:=by
    rw [Nat.or_comm,Nat.mul_comm,qe6 (by omega)]
    omega
   rw [e]
   unfold qea
   rw [if_pos rfl,hx,hy]
   rfl
  ·have h16:d≠16:=by
    intro h
    rw [h] at h16
    cases h16
   have hd':d=1∨d=2∨d=4∨d=8:=by omega
   have hsm:=q43 (i:=i) hd'
   refine ⟨by decide,?_⟩
   have ei:IntKind.i64.wrap ((i:Int)*(d:Int))=((i*d:Nat):Int):=by
    have:i*d≤n*d:=by omega
    rw [show (i:Int)*(d:Int)=((i*d:Nat):Int) by simp,w64i (by omega)]
   have e8:IntKind.i64.wrap ((((i*d:Nat)):Int).tdiv (8:Int))=((i*d/8:Nat):Int):=by
    rw [show (8:Int)=((8:Nat):Int) from rfl,←Int.ofNat_tdiv,w64i (by omega)]
   have em:(((i*d:Nat)):Int).tmod (8:Int)=((i*d%8:Nat):Int):=by
    rw [show (8:Int)=((8:Nat):Int) from rfl,Int.ofNat_tmod]
   rw [ei,e8,em]
   obtain ⟨x,hx,hxs⟩:=qa0 (xs:=rs) (k:=i*d/8) (by omega)
   have x8:=x.toNat_lt
   refine hr3.ix (i:=((i*d/8:Nat):Int)) rfl (by omega) (by omega) fun _=>?_
   refine lI (x:=(x.toNat:Int)) (by rw [Int.toNat_natCast];exact qa9 hrd hx) ?_
   have esh:IntKind.i64.wrap ((IntKind.i64.wrap ((8:Int)-(d:Int)))-((i*d%8:Nat):Int))=((8-d-i*d%8:Nat):Int):=by
    rw [w64i (x:=(8:Int)-(d:Int)) (by omega),w64i (by omega)]
    omega
   rw [esh]
   refine ⟨by decide,by omega,by omega,st _ ?_⟩
   rw [w8,show min (((8-d-i*d%8:Nat):Int)).toNat IntKind.i64.bits=8-d-i*d%8 by rw [Int.toNat_natCast];show min _ 64=_;omega,show min ((d:Int)).toNat IntKind.i64.bits=d by rw [Int.toNat_natCast];show min _ 64=_;omega,qbl,Int.one_mul]
   have hpd:(2:Nat)^d≤2^8:=Nat.pow_le_pow_right (by decide) (by omega)
   have hp0:0<(2:Nat)^d:=Nat.pow_pos (by decide)
   rw [show (2:Int)^d=((2^d:Nat):Int) by simp,w64i (x:=((2^d:Nat):Int)) (by omega),show ((2^d:Nat):Int)-1=((2^d-1:Nat):Int) by omega,w64i (by omega)]
   have hxd:x.toNat/2^(8-d-i*d%8)≤x.toNat:=Nat.div_le_self _ _
   rw [qdn .i64 (by show _<2^63;omega) (by show _<2^63;omega),Nat.and_two_pow_sub_one_eq_mod]
   unfold qea
   rw [if_neg h16,hx]
   rfl
 ·have hge:=of_decide_eq_false hge
  obtain rfl:i=n:=by omega
  have:=qg9 hyl'
  rw [List.length_replicate] at this
  rw [this] at hT
  exact hK t w3 hT hB3
end
end Go.Proofs.YtmagnpcgpinmcaaGreat
set_option linter.unusedVariables false
namespace Go.Proofs.YtmagnpcgpinmcaaGreat
open Go.Vc Go.RowKit
set_option maxRecDepth 400000
def qaf (l:List UInt8):List Value:=l.map fun b=>Value.int .u8 (b.toNat:Int)
theorem qrc (l:List UInt8):flat qab l=qaf l:=by
 unfold flat qaf
 induction l with
 | nil=>rfl
 | cons x r ih=>rw [List.flatMap_cons,ih];rfl
theorem qfn (l:List UInt8):(qaf l).length=l.length:=by simp [qaf]
theorem q01 (l:List UInt8):∀v∈qaf l,oneB v=true:=by
 intro v hv
 unfold qaf at hv
 obtain ⟨b,_,rfl⟩:=List.mem_map.1 hv
 rfl
theorem zfj {w:World} {a:Addr} {l:List UInt8} (h:∀(i:Nat) x,l[i]?=some x→w.cell? (a.add i)=some (.int .u8 (x.toNat:Int))):(loadCells a l.length).run PG w=.ok (qaf l).toArray w:=by
 have:=run_loadCells_list (P:=PG) w a (qaf l) (fun j v hj=>by
  unfold qaf at hj
  rw [List.getElem?_map] at hj
  cases hb:l[j]? with
  | none=>rw [hb] at hj;cases hj
  | some b =>
   rw [hb] at hj
   cases hj
   exact h j b hb)
 rwa [qfn] at this
theorem copyB {w:World} {g o dn dc n:Nat} {t:TypeId} {cur:List Value} {x:Slc} {ys:List UInt8} {K:Int→World→Prop} (hb:Blk w g t cur) (hx:Rd qab w x ys) (hn:n=min ys.length dn) (hf:o+n≤cur.length)
  (hK:∀w',Blk w' g t (putL cur o (qaf (ys.take n)))→Chg (fun k=>k=g) w w'→w'.heap.size=w.heap.size→K (n:Int) w') :
  runK1 PG (Builtin.copy_ #[qaa,qaa] qbf #[.slice (some ⟨g,o,none⟩) dn dc,.slice x.a x.n x.c]) (Kind.int .i64) w K:=by
 have htl:(ys.take n).length=n:=by rw [List.length_take];omega
 have hst:(storeCells ⟨g,o,none⟩ (qaf (ys.take n)) 0).run PG w=.ok () (wr w ⟨g,o,none⟩ (qaf (ys.take n))) :=
  qjd (qaf (ys.take n)) 0 w (q01 _) (fun j hj=>by
   rw [qfn,htl] at hj
   rw [Nat.zero_add,qah]
   refine ⟨⟨cur[o+j]'(by omega),hb.cell (o+j) (List.getElem?_eq_getElem (by omega))⟩,hb.frozen _⟩)
 refine ⟨(n:Int),wr w ⟨g,o,none⟩ (qaf (ys.take n)),?_,hK _ (zaf hb) (Chg.gg (q1z w ⟨g,o,none⟩ _)) (size_wr _ _ _)⟩
 have hu:PG.underlying qaa=some (.slice qag):=by kernel_rfl
 have hi:=qal.hi
 have hs:qal.i.size=1:=qal.hs
 have hi':PG.info? qag=some qal.i:=hi
 have hxn:=hx.n
 have hmin:Nat.min ys.length dn=n:=hn.symm
 cases ha:x.a with
 | none =>
  have hy:=hx.none_nil ha
  subst hy
  have hn0:n=0:=by rw [hn];simp
  subst hn0
  simp [Builtin.copy_,run_underlying hu,Builtin.lenOf,Builtin.firstCells,sizeOf,typeInfo,hi',hxn,storeCells,wr,qc0,qaf,Kind.enc,goInt]
 | some a =>
  have hload:=zfj (w:=w) (a:=a) (l:=ys.take n) (fun i y hy=>by
   have hi2:i<n:=by rw [←htl];exact (List.getElem?_eq_some_iff.1 hy).1
   rw [List.getElem?_take_of_lt hi2] at hy
   have:=qa9 hx hy
   simp only [Slc.at_,ha,Option.getD_some,Nat.mul_one] at this
   exact this)
  rw [htl] at hload
  simp [Builtin.copy_,run_underlying hu,Builtin.lenOf,Builtin.firstCells,sizeOf,typeInfo,hi',hs,hxn,hmin,hload,hst,Kind.enc,goInt]
theorem copyS {w:World} {g o dn dc n:Nat} {t:TypeId} {cur:List Value} {ys:List UInt8} {K:Int→World→Prop} (hb:Blk w g t cur) (hn:n=min ys.length dn) (hf:o+n≤cur.length)
  (hK:∀w',Blk w' g t (putL cur o (qaf (ys.take n)))→Chg (fun k=>k=g) w w'→w'.heap.size=w.heap.size→K (n:Int) w') :
  runK1 PG (Builtin.copy_ #[qaa,qa1] qbf #[.slice (some ⟨g,o,none⟩) dn dc,.string (strB ys)]) (Kind.int .i64) w K:=by
 have htl:(ys.take n).length=n:=by rw [List.length_take];omega
 have hst:(storeCells ⟨g,o,none⟩ (qaf (ys.take n)) 0).run PG w=.ok () (wr w ⟨g,o,none⟩ (qaf (ys.take n))) :=
  qjd (qaf (ys.take n)) 0 w (q01 _) (fun j hj=>by
   rw [qfn,htl] at hj
   rw [Nat.zero_add,qah]
   refine ⟨⟨cur[o+j]'(by omega),hb.cell (o+j) (List.getElem?_eq_getElem (by omega))⟩,hb.frozen _⟩)
 refine ⟨(n:Int),wr w ⟨g,o,none⟩ (qaf (ys.take n)),?_,hK _ (zaf hb) (Chg.gg (q1z w ⟨g,o,none⟩ _)) (size_wr _ _ _)⟩
 have hu:PG.underlying qaa=some (.slice qag):=by kernel_rfl
 have hi:=qal.hi
 have hs:qal.i.size=1:=qal.hs
 have hi':PG.info? qag=some qal.i:=hi
 have hsz:(strB ys).size=ys.length:=by show ys.toArray.size=_;simp
 have hmin:Nat.min ys.length dn=n:=hn.symm
 have hex:List.take n (List.map (fun b=>Value.int .u8 (b.toNat:Int)) (strB ys).data.toList)=qaf (ys.take n):=by
  show List.take n (List.map (fun b=>Value.int .u8 (b.toNat:Int)) ys)=_
  unfold qaf
  rw [List.map_take]
 simp [Builtin.copy_,run_underlying hu,Builtin.lenOf,Builtin.firstCells,sizeOf,typeInfo,hi',hsz,hmin,Kind.enc,goInt]
 rw [hex,hst]
 simp
theorem q6g {w:World} {b g c:Nat} {xs:List UInt8} {s:Slc} (h:Go.Vc.Own qab w b s xs) (hs:s.a=some ⟨g,0,none⟩):∃cur,Blk w g qag cur∧cur.length=s.c∧cur.take xs.length=qaf xs∧xs.length≤s.c∧s.c≤maxLen∧b≤g∧s.n=xs.length:=by
 rcases h.form with ⟨rfl,rfl⟩ | ⟨g',cur,e,hg,hb,h1,h2,h3,h4⟩
 ·cases hs
 ·rw [e] at hs
  have hg':g'=g:=congrArg Addr.block (Option.some.inj hs)
  subst hg'
  refine ⟨cur,hb,by rw [h3];exact Nat.mul_one _,?_,h1,h2,hg,by rw [e]⟩
  rw [←qrc,←h4]
  show _=cur.take (xs.length*1)
  rw [Nat.mul_one]
theorem zfc {w w':World} {b g:Nat} {xs ys:List UInt8} {s:Slc} {cur:List Value} {k:Nat} (h:Go.Vc.Own qab w b s xs) (hs:s.a=some ⟨g,0,none⟩) (hc:Blk w g qag cur) (hk:k+ys.length≤xs.length) (hw:Blk w' g qag (putL cur k (qaf ys))) :
  Go.Vc.Own qab w' b s (xs.take k++ys++xs.drop (k+ys.length)):=by
 obtain ⟨cur',hb,hl,ht,h1,h2,h3,h4⟩:=q6g (c:=0) h hs
 have e:cur'=cur:=by
  unfold Blk at hb hc
  rw [hb] at hc
  injection hc with hc
  injection hc with hc _ _
  simpa using hc
 subst e
 have hlen:(xs.take k++ys++xs.drop (k+ys.length)).length=xs.length:=by simp;omega
 obtain ⟨a,n,c⟩:=s
 dsimp only at hs hl h1 h2 h4
 subst hs h4
 have:=Go.Vc.Own.of_blk (E:=qab) (xs:=xs.take k++ys++xs.drop (k+ys.length)) (c:=c) h3 hw (by omega) h2 (by rw [qjt,hl];exact (Nat.mul_one _).symm) (by
  rw [qrc,hlen]
  show (putL cur' k (qaf ys)).take (xs.length*1)=_
  rw [Nat.mul_one]
  refine List.ext_getElem? fun m=>?_
  by_cases hm:m<xs.length
  ·rw [List.getElem?_take_of_lt hm,ql2 _ _ _ _ (by rw [qfn];omega),qfn]
   have hcm:cur'[m]?=(qaf xs)[m]?:=by rw [←ht,List.getElem?_take_of_lt hm]
   have hbm:∀l:List UInt8,(qaf l)[m]?=(l[m]?).map fun b=>Value.int .u8 (b.toNat:Int):=fun l=>by unfold qaf;rw [List.getElem?_map]
   by_cases hin:k≤m∧m<k+ys.length
   ·rw [if_pos hin,hbm,List.append_assoc,List.getElem?_append_right (by rw [List.length_take];omega),List.length_take,Nat.min_eq_left (by omega),List.getElem?_append_left (by omega)]
    unfold qaf
    rw [List.getElem?_map]
   ·rw [if_neg hin,hcm,hbm,hbm]
    congr 1
    by_cases hmk:m<k
    ·rw [List.append_assoc,List.getElem?_append_left (by rw [List.length_take];omega),List.getElem?_take_of_lt hmk]
    ·rw [List.append_assoc,List.getElem?_append_right (by rw [List.length_take];omega),List.length_take,Nat.min_eq_left (by omega),List.getElem?_append_right (by omega),List.getElem?_drop]
     congr 1
     omega
  ·rw [List.getElem?_eq_none (by rw [List.length_take];omega),List.getElem?_eq_none (by rw [qfn];omega)])
 rw [hlen] at this
 exact this
def qsy:El T_q8_Pass where
 cells:=T_q8_Pass.rep.cells
 t:=qbd
 k:=4
 pos:=by decide
 len _:=rfl
 one x v hv:=by
  simp only [T_q8_Pass.rep,List.mem_cons,List.mem_nil_iff,or_false] at hv
  rcases hv with rfl | rfl | rfl | rfl<;>rfl
def qgd (lace:Int):List T_q8_Pass:=(qcr lace).map passT
theorem qkw (lace:Int):∀p∈qcr lace,1≤p.dx∧1≤p.dy∧p.x≤4∧p.y≤4∧p.dx≤8∧p.dy≤8:=by
 unfold qcr
 split
 ·simp [q6l]
 ·simp [q5y]
theorem qio (lace:Int):(qcr lace).length≤7:=by
 unfold qcr
 split<;>decide
structure HeadOk (h:T_png_Head) (W H:Nat):Prop where
 w:h.W=W
 h:h.H=H
 w1:1≤W
 w2:W≤16384
 h1:1≤H
 h2:H≤16384
theorem HeadOk.wn {h:T_png_Head} {W H:Nat} (o:HeadOk h W H):h.W.toNat=W:=by rw [o.w];rfl
theorem HeadOk.hn {h:T_png_Head} {W H:Nat} (o:HeadOk h W H):h.H.toNat=H:=by rw [o.h];rfl
theorem qd5 (p:PassP) (W H:Nat):(sizeP p W H).1≤W∧(sizeP p W H).2≤H:=by
 unfold sizeP
 split
 ·exact ⟨by omega,by omega⟩
 ·have h1:(W-p.x-1)/p.dx≤W-p.x-1:=Nat.div_le_self _ _
  have h2:(H-p.y-1)/p.dy≤H-p.y-1:=Nat.div_le_self _ _
  exact ⟨by dsimp only;omega,by dsimp only;omega⟩
theorem qeh (W H:Nat) (p:PassP):(qak W H p).length=(sizeP p W H).2:=by simp [qak]
theorem qpc (W H:Nat) (p:PassP) {y:Nat} (hy:y<(sizeP p W H).2):qak W H p=(qak W H p).take y++(p,y,(sizeP p W H).1)::(qak W H p).drop (y+1):=by
 have hl:=qeh W H p
 have e:(qak W H p)[y]'(by omega)=(p,y,(sizeP p W H).1):=by simp [qak]
 rw [←e,←List.drop_eq_getElem_cons,List.take_append_drop]
theorem qkr (W H:Nat) (p:PassP) {y:Nat} (hy:y<(sizeP p W H).2):(qak W H p).take (y+1)=(qak W H p).take y++[(p,y,(sizeP p W H).1)]:=by
 have hl:=qeh W H p
 rw [List.take_succ_eq_append_getElem (by omega)]
 simp [qak]
def KeepT (w w':World):Prop:=∀(k:Nat) t cs,(t=qbd∨t=qaw)→Blk w k t cs→Blk w' k t cs
section
variable {w:World}
theorem zek {K:Slc→World→Prop} (hK:∀(g:Nat) w',Blk w' g qbd (flat qsy (qgd 1))→Below w.heap.size w w'→w.heap.size≤g→K ⟨some ⟨g,0,none⟩,7,7⟩ w'):qk3 w K:=by
 refine qys ?_
 unfold qkp
 exact nwb fun w1 h1 hB1 hs1=>hK _ w1 h1 hB1 (Nat.le_refl _)
theorem zeu {h:T_png_Head} {K:Slc→World→Prop} (hK:∀(g n:Nat) w',Blk w' g qbd (flat qsy (qgd h.Lace))→n=(qgd h.Lace).length→Below w.heap.size w w'→w.heap.size≤g→K ⟨some ⟨g,0,none⟩,n,n⟩ w'):qji h w K:=by
 refine qu1 _ ?_
 unfold qh9
 refine nwb fun w1 h1 hB1 hs1=>?_
 refine lI (x:=h.Lace) (h1.cells 4 _ rfl) ?_
 refine cO (fun e=>?_) fun e=>?_
 ·have e:h.Lace=1:=eq_of_beq e
  rw [e] at hK
  exact zek fun g w2 h2 hB2 hg=>hK g 7 w2 h2 rfl (bT hB1 hB2) (by have:=hB1.size;omega)
 ·have e:h.Lace≠1:=by simpa using e
  have hp:qgd h.Lace=[⟨0,0,1,1⟩]:=by unfold qgd qcr;rw [if_neg e];rfl
  rw [hp] at hK
  exact nwb fun w2 h2 hB2 hs2=>hK _ 1 w2 h2 rfl (bT hB1 hB2) hB1.size
theorem qwj {h:T_png_Head} {W H:Nat} (ho:HeadOk h W H) {f:Value} {K:Bool→World→Prop} (Inv:List (PassP×Nat×Nat)→World→Prop) (Bad:World→Prop)
  (h0:Inv [] w) (hI:∀L w1 w2,Inv L w1→Below w1.heap.size w1 w2→Inv L w2)
  (step:∀L r R w1,rowsL h=L++r::R→Inv L w1→w.heap.size≤w1.heap.size→∀J:Bool→World→Prop,(∀w2,Inv (L++[r]) w2→KeepT w1 w2→w1.heap.size≤w2.heap.size→J true w2)→(∀w2,Bad w2→J false w2) →
   callR C f [(.agg #[(.int .i64 (passT r.1).X),(.int .i64 (passT r.1).Y),(.int .i64 (passT r.1).DX),(.int .i64 (passT r.1).DY)]),(.int .i64 (r.2.1:Int)),(.int .i64 (r.2.2:Int))] [Kind.bool] w1 J)
  (hK1:∀w1,Inv (rowsL h) w1→K true w1) (hK0:∀w1,Bad w1→K false w1):qdk h f w K:=by
 refine qx6 _ _ ?_
 unfold qkd
 refine nwb fun w1 hb1 hB1 hs1=>?_
 refine qas (r:=T_png_Head.rep) (x:=h) hb1.cells ?_
 refine zeu fun g n w2 hg hn hB2 hgl=>?_
 have hb2:=hb1.ext hB2
 have hs2:=hB2.size
 obtain ⟨ps,hps⟩:∃ps,ps=qcr h.Lace:=⟨_,rfl⟩
 have hpT:qgd h.Lace=ps.map passT:=by rw [hps];rfl
 have hnl:n=ps.length:=by rw [hn,hpT,List.length_map]
 rw [hpT] at hg
 have hrows:rowsL h=ps.flatMap (qak W H):=by unfold rowsL;rw [ho.wn,ho.hn,←hps]
 have hpl:ps.length≤7:=by rw [hps];exact qio _
 have hdx:=qkw h.Lace
 rw [←hps] at hdx
 dsimp only
 refine lpR (fun (s:Int×Unit) w3=>∃i:Nat,s.1=i∧i≤ps.length∧Inv ((ps.take i).flatMap (qak W H)) w3∧Blk w3 w.heap.size qaw (T_png_Head.rep.cells h)∧Blk w3 g qbd (flat qsy (ps.map passT))∧w.heap.size≤w3.heap.size) (fun s=>ps.length-s.1.toNat)
  ⟨0,rfl,by omega,hI _ _ _ h0 (bT hB1 hB2),hb2,hg,by omega⟩ ?_
 rintro ⟨i,u⟩ w3 ⟨i,rfl,hi,hInv,hb3,hg3,hs3⟩ I hIl
 dsimp only
 rw [hnl]
 refine cO (fun hlt=>?_) fun hge=>?_
 ·have hlt:=of_decide_eq_true hlt
  have hil:i<ps.length:=by omega
  obtain ⟨p,hp⟩:∃p,ps[i]?=some p:=⟨_,List.getElem?_eq_getElem hil⟩
  have hpd:=hdx p (List.mem_of_getElem? hp)
  have hrd:Rd qsy w3 ⟨some ⟨g,0,none⟩,(ps.map passT).length,(ps.map passT).length⟩ (ps.map passT):=qda (E:=qsy) hg3 (by rw [List.length_map];unfold maxLen;omega) rfl
  rw [List.length_map] at hrd
  have hpT':(ps.map passT)[i]?=some (passT p):=by rw [List.getElem?_map,hp];rfl
  refine hrd.ix (i:=(i:Int)) (k:=4) rfl (by omega) (by rw [List.length_map];omega) fun _=>?_
  refine qas (r:=T_q8_Pass.rep) (x:=passT p) (hrd.at_ i _ hpT') ?_
  refine nwb fun w4 hb4 hB4 hs4=>?_
  refine qa2 hb4 rfl fun w5 hb5 hc5 hs5=>?_
  have hB35:Below w3.heap.size w3 w5:=b1o hB4 hc5 (Nat.le_refl _)
  refine qas (r:=T_q8_Pass.rep) (x:=passT p) hb5.cells ?_
  have hb35:=hb3.ext hB35
  refine lI (x:=(W:Int)) (by have:=hb35.cells 0 _ rfl;rw [ho.w] at this;exact this) (lI (x:=(H:Int)) (by have:=hb35.cells 1 _ rfl;rw [ho.h] at this;exact this) ?_)
  refine zh5 ho.w1 ho.w2 ho.h1 ho.h2 hpd.1 hpd.2.1 fun w6 hB6=>?_
  have hB36:=bT hB35 hB6
  have hsz:=qd5 p W H
  have hH2:=ho.h2
  refine lpR (fun (s:Int×Unit) w7=>∃y:Nat,s.1=y∧y≤(sizeP p W H).2∧Inv ((ps.take i).flatMap (qak W H)++(qak W H p).take y) w7∧Blk w7 w.heap.size qaw (T_png_Head.rep.cells h)∧Blk w7 g qbd (flat qsy (ps.map passT))∧Blk w7 w3.heap.size qbd (T_q8_Pass.rep.cells (passT p))∧w.heap.size≤w7.heap.size) (fun s=>(sizeP p W H).2-s.1.toNat)
   ⟨0,rfl,by omega,by rw [List.take_zero,List.append_nil];exact hI _ _ _ hInv hB36,hb3.ext hB36,hg3.ext hB36,hb5.ext hB6,by have:=hB36.size;omega⟩ ?_
  rintro ⟨y,u⟩ w7 ⟨y,rfl,hy,hInv7,hb7,hg7,hp7,hs7⟩ I2 hI2
  dsimp only
  refine cO (fun hlt2=>?_) fun hge2=>?_
  ·have hlt2:=of_decide_eq_true hlt2
   have hyl:y<(sizeP p W H).2:=by omega
   refine qas (r:=T_q8_Pass.rep) (x:=passT p) hp7.cells ?_
   have hsplit:rowsL h=((ps.take i).flatMap (qak W H)++(qak W H p).take y)++(p,y,(sizeP p W H).1)::((qak W H p).drop (y+1)++(ps.drop (i+1)).flatMap (qak W H)):=by
    have e:ps=ps.take i++p::ps.drop (i+1):=by
     rw [List.getElem?_eq_getElem hil] at hp
     rw [←Option.some.inj hp,←List.drop_eq_getElem_cons hil,List.take_append_drop]
    conv=>lhs;rw [hrows,e,List.flatMap_append,List.flatMap_cons,qpc W H p hyl]
    simp [List.append_assoc]
   refine step _ _ _ w7 hsplit hInv7 hs7 _ (fun w8 h8 hk8 hs8=>?_) (fun w8 h8=>cT rfl (hK0 w8 h8))
   refine cF rfl ?_
   rw [w64i (by omega)]
   refine hI2 _ _ ⟨y+1,rfl,by omega,?_,hk8 _ _ _ (.inr rfl) hb7,hk8 _ _ _ (.inl rfl) hg7,hk8 _ _ _ (.inl rfl) hp7,by omega⟩ (by simp;omega)
   rw [qkr W H p hyl,←List.append_assoc]
   exact h8
  ·have hge2:=of_decide_eq_false hge2
   obtain rfl:y=(sizeP p W H).2:=by omega
   rw [w64i (by omega)]
   refine hIl _ _ ⟨i+1,rfl,by omega,?_,hb7,hg7,hs7⟩ (by simp;omega)
   rw [List.take_add_one,hp,List.flatMap_append]
   rw [List.take_of_length_le (show (qak W H p).length≤(sizeP p W H).2 by rw [qeh];exact Nat.le_refl _)] at hInv7
   simpa using hInv7
 ·have hge:=of_decide_eq_false hge
  obtain rfl:i=ps.length:=by omega
  rw [List.take_length,←hrows] at hInv
  exact hK1 w3 hInv
end
end Go.Proofs.YtmagnpcgpinmcaaGreat
set_option linter.unusedVariables false
namespace Go.Proofs.YtmagnpcgpinmcaaGreat
open Go.Vc Go.RowKit
set_option maxRecDepth 400000
def qh6 (F:FilL) (p t d:Slc):List Value:=T_png_file.rep.cells ⟨F.h,p,t,F.hasP,F.hasT,d,F.hasD,F.wasD⟩
structure FilA (w:World) (g b:Nat) (F:FilL) (p t d:Slc):Prop where
 blk:Blk w g qjy (qh6 F p t d)
 pal:Rd qab w p F.pal
 tr:Rd qab w t F.tr
 data:Go.Vc.Own qab w b d F.data
 pb:∀k,p.blk=some k→k<b
 tb:∀k,t.blk=some k→k<b
theorem FilA.ext {w w':World} {g b:Nat} {F:FilL} {p t d:Slc} (h:FilA w g b F p t d) (hB:Below w.heap.size w w'):FilA w' g b F p t d:=⟨h.blk.ext hB,h.pal.ext hB,h.tr.ext hB,h.data.ext hB,h.pb,h.tb⟩
structure ColOk (h:T_png_Head):Prop where
 c:h.Color=0∨h.Color=2∨h.Color=3∨h.Color=4∨h.Color=6
 d:h.Depth=1∨h.Depth=2∨h.Depth=4∨h.Depth=8∨h.Depth=16
theorem qfs {h:T_png_Head} (hc:qdd h=0):(∃W H,HeadOk h W H)∧ColOk h:=by
 unfold qdd at hc
 split at hc
 ·cases hc
 ·rename_i h1
  split at hc
  ·cases hc
  ·rename_i h2
   refine ⟨⟨h.W.toNat,h.H.toNat,by omega,by omega,by omega,by omega,by omega,by omega⟩,?_,?_⟩
   ·have hs:qac h.Color≠0:=fun e=>h2 (.inl e)
    unfold qac at hs
    by_cases h0:h.Color=0∨h.Color=3
    ·omega
    ·rw [if_neg h0] at hs
     by_cases h22:h.Color=2
     ·omega
     ·rw [if_neg h22] at hs
      by_cases h4:h.Color=4
      ·omega
      ·rw [if_neg h4] at hs
       by_cases h6:h.Color=6
       ·omega
       ·rw [if_neg h6] at hs
        exact absurd rfl hs
   ·have hd:qd4 h=true:=by
     cases e:qd4 h with
     | true=>rfl
     | false=>exact absurd (.inr (.inl e)) h2
    unfold qd4 at hd
    have:=of_decide_eq_true hd
    omega
structure FilOk (F:FilL):Prop where
 hd:qdd F.h=0
 tr:F.hasT=true→F.h.Color=0∧F.tr.length=2∨F.h.Color=2∧F.tr.length=6∨F.h.Color=3
 pal:F.pal.length%3=0
theorem q2n {F:FilL} {c:ChL} (h:FilOk F) (h0:(takeP F c).1=0):FilOk (takeP F c).2∧(takeP F c).2.h=F.h:=by
 unfold takeP at h0 ⊢
 by_cases h1:c.kind=ihdrL
 ·rw [if_pos h1] at h0;cases h0
 rw [if_neg h1] at h0 ⊢
 by_cases h2:c.kind=plteL
 ·rw [if_pos h2] at h0 ⊢
  cases hp:qga F c.data with
  | false=>rw [hp] at h0;cases h0
  | true =>
   unfold qga at hp
   simp only [Bool.not_eq_true',Bool.or_eq_false_iff,decide_eq_false_iff_not] at hp
   exact ⟨⟨h.hd,h.tr,by show c.data.length%3=0;omega⟩,rfl⟩
 rw [if_neg h2] at h0 ⊢
 by_cases h3:c.kind=trnsL
 ·rw [if_pos h3] at h0 ⊢
  cases hp:qgc F c.data with
  | false=>rw [hp] at h0;cases h0
  | true =>
   refine ⟨⟨h.hd,fun _=>?_,h.pal⟩,rfl⟩
   unfold qgc at hp
   simp only [Bool.and_eq_true] at hp
   have hp:=hp.2
   show F.h.Color=0∧c.data.length=2∨F.h.Color=2∧c.data.length=6∨F.h.Color=3
   by_cases e0:F.h.Color=0
   ·rw [if_pos e0] at hp;exact .inl ⟨e0,of_decide_eq_true hp⟩
   ·rw [if_neg e0] at hp
    by_cases e2:F.h.Color=2
    ·rw [if_pos e2] at hp;exact .inr (.inl ⟨e2,of_decide_eq_true hp⟩)
    ·rw [if_neg e2] at hp
     by_cases e3:F.h.Color=3
     ·exact .inr (.inr e3)
     ·rw [if_neg e3] at hp;cases hp
 rw [if_neg h3] at h0 ⊢
 by_cases h4:c.kind=idatL
 ·rw [if_pos h4] at h0 ⊢
  split
  ·exact ⟨⟨h.hd,h.tr,h.pal⟩,rfl⟩
  ·rename_i hn;rw [if_neg hn] at h0;cases h0
 rw [if_neg h4] at h0 ⊢
 by_cases h5:c.kind=iendL
 ·rw [if_pos h5] at h0 ⊢
  split
  ·exact ⟨⟨h.hd,h.tr,h.pal⟩,rfl⟩
  ·rename_i hn;rw [if_neg hn] at h0;cases h0
 rw [if_neg h5] at h0 ⊢
 split
 ·rename_i hn;rw [if_pos hn] at h0;cases h0
 ·exact ⟨⟨h.hd,h.tr,h.pal⟩,rfl⟩
section
variable {w:World} {g b:Nat} {F:FilL} {p t d:Slc}
theorem zct (h:FilA w g b F p t d) (hc:ColOk F.h) {x:Slc} {ds:List UInt8} (hx:Rd qab w x ds) (hxb:∀k,x.blk=some k→k<b) (hbg:b≤g) (hl:ds.length≤1000000000) {K:Bool→World→Prop}
  (hN:qga F ds=false→K false w) (hY:qga F ds=true→∀w',FilA w' g b { F with pal:=ds,hasP:=true } x t d→Chg (fun k=>k=g) w w'→K true w'):qjj (some ⟨g,0,none⟩) x w K:=by
 refine quu _ _ ?_
 unfold qh8
 simp only [onPtr_some]
 refine ⟨by decide,jpO fun J hJ=>?_⟩
 unfold qga at hN hY
 refine qcy (x:=F.hasP) (h.blk.cells 7 _ rfl) ?_
 refine cO (fun e=>hN (by rw [e];rfl)) fun e1=>?_
 refine qcy (x:=F.hasD) (h.blk.cells 10 _ rfl) ?_
 refine cO (fun e=>hN (by rw [e];simp)) fun e2=>?_
 refine lI (x:=F.h.Color) (by rw [add_zero];exact h.blk.cells 3 _ rfl) ?_
 refine cO (fun e=>hN (by rw [eq_of_beq e];simp)) fun e3=>?_
 have e3:F.h.Color≠0:=by simpa using e3
 refine lI (x:=F.h.Color) (by rw [add_zero];exact h.blk.cells 3 _ rfl) ?_
 refine cO (fun e=>hN (by rw [eq_of_beq e];simp)) fun e4=>⟨by decide,?_⟩
 have e4:F.h.Color≠4:=by simpa using e4
 rw [hx.n,show (3:Int)=((3:Nat):Int) from rfl,←Int.ofNat_tmod,←Int.ofNat_tdiv,w64i (x:=((ds.length/3:Nat):Int)) (by omega)]
 refine cO (fun e=>hN ?_) fun e5=>?_
 ·have e:ds.length%3≠0:=fun h=>by rw [h] at e;cases e
  rw [decide_eq_true e];simp
 have e5:ds.length%3=0:=by
  rcases Nat.eq_zero_or_pos (ds.length%3) with h | h
  ·exact h
  ·rw [qdz (by omega)] at e5;cases e5
 refine cO (fun e=>hN ?_) fun e6=>?_
 ·have e:=of_decide_eq_true e
  rw [decide_eq_true (show ds.length/3<1 by omega)];simp
 have e6:=of_decide_eq_false e6
 refine cO (fun e=>hN ?_) fun e7=>?_
 ·have e:=of_decide_eq_true e
  rw [decide_eq_true (show ds.length/3>256 by omega)];simp
 have e7:=of_decide_eq_false e7
 have hgo:(F.h.Color=3→¬ds.length/3>2^F.h.Depth.toNat)→J () w:=by
  intro e8
  have hall:(!(F.hasP || F.hasD || decide (F.h.Color=0) || decide (F.h.Color=4) || decide (ds.length%3≠0) || decide (ds.length/3<1) || decide (ds.length/3>256) || (decide (F.h.Color=3) && decide (ds.length/3>2^F.h.Depth.toNat))))=true:=by
   rw [e1,e2,decide_eq_false e3,decide_eq_false e4,decide_eq_false (show ¬ds.length%3≠0 by omega),decide_eq_false (show ¬ds.length/3<1 by omega),decide_eq_false (show ¬ds.length/3>256 by omega)]
   by_cases e:F.h.Color=3
   ·rw [decide_eq_false (e8 e)];simp
   ·rw [decide_eq_false e];simp
  refine hJ _ _ ?_
  rw [qah]
  refine qae h.blk (by simp [qh6,T_png_file.rep]) fun w2 hb2 hg2 hs2=>?_
  rw [qah]
  refine qae hb2 (by simp [qh6,T_png_file.rep,putL]) fun w3 hb3 hg3 hs3=>?_
  have hc3:Chg (fun k=>k=g) w w3:=(Chg.gg hg2).trans (Chg.gg hg3) fun i _ hi=>hi
  refine hY hall w3 ⟨hb3,hx.chg hc3 fun a ha e=>?_,h.tr.chg hc3 fun a ha e=>?_,h.data.chg hc3 fun k hk e=>qai h.data h.blk (by decide) k hk e,hxb,h.tb⟩ hc3
  ·have:=hxb a.block (slk.2 ⟨a,ha,rfl⟩);omega
  ·have:=h.tb a.block (slk.2 ⟨a,ha,rfl⟩);omega
 refine lI (x:=F.h.Color) (by rw [add_zero];exact h.blk.cells 3 _ rfl) ?_
 refine cO (fun e=>?_) fun e=>?_
 ·have e:F.h.Color=3:=eq_of_beq e
  refine lI (x:=F.h.Depth) (by rw [add_zero];exact h.blk.cells 2 _ rfl) ⟨by have:=hc.d;omega,?_⟩
  have hsh:IntKind.i64.wrap ((1:Int)*2^(min F.h.Depth.toNat IntKind.i64.bits))=((2^F.h.Depth.toNat:Nat):Int):=by
   rcases hc.d with h | h | h | h | h<;>rw [h]<;>decide
  rw [hsh]
  refine cO (fun e8=>hN ?_) fun e8=>hgo fun _=>?_
  ·have e8:=of_decide_eq_true e8
   rw [decide_eq_true e,decide_eq_true (show ds.length/3>2^F.h.Depth.toNat from by exact_mod_cast e8)];simp
  ·have e8:=of_decide_eq_false e8
   intro h9
   exact e8 (by exact_mod_cast h9)
 ·have e:F.h.Color≠3:=by simpa using e
  exact hgo fun h=>absurd h e
theorem zf6 (h:FilA w g b F p t d) (hc:ColOk F.h) {x:Slc} {ds:List UInt8} (hx:Rd qab w x ds) (hxb:∀k,x.blk=some k→k<b) (hbg:b≤g) (hl:ds.length≤1000000000) (hpl:F.pal.length≤1000000000) {K:Bool→World→Prop}
  (hN:qgc F ds=false→K false w) (hY:qgc F ds=true→∀w',FilA w' g b { F with tr:=ds,hasT:=true } p x d→Chg (fun k=>k=g) w w'→K true w'):qj8 (some ⟨g,0,none⟩) x w K:=by
 refine qwf _ _ ?_
 unfold qjl
 simp only [onPtr_some]
 refine jpO fun J1 hJ1=>?_
 unfold qgc at hN hY
 have key:∀ok:Bool,ok=(if F.h.Color=0 then decide (ds.length=2) else if F.h.Color=2 then decide (ds.length=6) else if F.h.Color=3 then F.hasP && decide (ds.length≤F.pal.length/3) else false)→J1 (ok,()) w:=by
  intro ok hok
  rw [←hok] at hN hY
  refine hJ1 _ _ (jpO fun J2 hJ2=>?_)
  refine cO (fun e=>hN ?_) fun e1=>?_
  ·have:ok=false:=by simpa using e
   rw [this];simp
  have e1:ok=true:=by simpa using e1
  refine qcy (x:=F.hasT) (h.blk.cells 8 _ rfl) (cO (fun e=>hN (by rw [e];simp)) fun e2=>?_)
  refine qcy (x:=F.hasD) (h.blk.cells 10 _ rfl) (cO (fun e=>hN (by rw [e];simp)) fun e3=>?_)
  refine hJ2 _ _ ?_
  rw [qah]
  refine qae h.blk (by simp [qh6,T_png_file.rep]) fun w2 hb2 hg2 hs2=>?_
  rw [qah]
  refine qae hb2 (by simp [qh6,T_png_file.rep,putL]) fun w3 hb3 hg3 hs3=>?_
  have hc3:Chg (fun k=>k=g) w w3:=(Chg.gg hg2).trans (Chg.gg hg3) fun i _ hi=>hi
  refine hY (by rw [e1,e2,e3];rfl) w3 ⟨hb3,h.pal.chg hc3 fun a ha e=>?_,hx.chg hc3 fun a ha e=>?_,h.data.chg hc3 fun k hk e=>qai h.data h.blk (by decide) k hk e,h.pb,hxb⟩ hc3
  ·have:=h.pb a.block (slk.2 ⟨a,ha,rfl⟩);omega
  ·have:=hxb a.block (slk.2 ⟨a,ha,rfl⟩);omega
 have hnn:∀m:Nat,((((ds.length:Nat):Int))==(m:Int))=decide (ds.length=m):=fun m=>by rw [Bool.eq_iff_iff];simp;omega
 refine lI (x:=F.h.Color) (by rw [add_zero];exact h.blk.cells 3 _ rfl) ?_
 rw [hx.n]
 refine cO (fun e=>?_) fun e0=>?_
 ·refine key _ ?_
  rw [if_pos (eq_of_beq e)]
  exact hnn 2
 have e0:F.h.Color≠0:=by simpa using e0
 refine cO (fun e=>?_) fun e2=>?_
 ·refine key _ ?_
  rw [if_neg e0,if_pos (eq_of_beq e)]
  exact hnn 6
 have e2:F.h.Color≠2:=by simpa using e2
 refine cO (fun e=>?_) fun e3=>?_
 ·have e3:F.h.Color=3:=eq_of_beq e
  refine qcy (x:=F.hasP) (h.blk.cells 7 _ rfl) (cO (fun e=>?_) fun e=>?_)
  ·refine lSl (x:=p) (h.blk.cells 5 _ rfl) ⟨by decide,key _ ?_⟩
   rw [if_neg e0,if_neg e2,if_pos e3,e,h.pal.n,show (3:Int)=((3:Nat):Int) from rfl,←Int.ofNat_tdiv,w64i (x:=((F.pal.length/3:Nat):Int)) (by omega),Bool.true_and]
   rw [decide_eq_decide]
   omega
  ·refine key _ ?_
   rw [if_neg e0,if_neg e2,if_pos e3,e]
   rfl
 ·have e3:F.h.Color≠3:=by simpa using e3
  refine key _ ?_
  rw [if_neg e0,if_neg e2,if_neg e3]
theorem qpw (k l:List UInt8):((strB k).toList==(strB l).toList)=decide (k=l):=by
 rw [qdg,qdg,Bool.eq_iff_iff]
 simp
theorem FilA.setW (h:FilA w g b F p t d) (v:Bool) {w':World} (hb:Blk w' g qjy (qh6 { F with wasD:=v } p t d)) (hc:Chg (fun k=>k=g) w w') (hbg:b≤g):FilA w' g b { F with wasD:=v } p t d :=
 ⟨hb,h.pal.chg hc fun a ha e=>by have:=h.pb a.block (slk.2 ⟨a,ha,rfl⟩);omega,h.tr.chg hc fun a ha e=>by have:=h.tb a.block (slk.2 ⟨a,ha,rfl⟩);omega,h.data.chg hc fun k hk e=>qai h.data h.blk (by decide) k hk e,h.pb,h.tb⟩
theorem zf0 (h:FilA w g b F p t d) (hc:ColOk F.h) {x:T_png_Chunk} {c:ChL} (hx:ChA w x c) (hxb:∀k,x.Data.blk=some k→k<b) (hbg:b≤g) (hk4:c.kind.length=4) (hl:c.data.length≤1000000) (hpl:F.pal.length≤1000000) (hdl:F.data.length≤1000000000) {K:Int→World→Prop}
  (hN:∀w',(takeP F c).1≠0→Below b w w'→K ((takeP F c).1:Nat) w') (hY:(takeP F c).1=0→∀p' t' d' w',FilA w' g b (takeP F c).2 p' t' d'→Below b w w'→K 0 w'):qld (some ⟨g,0,none⟩) x w K:=by
 refine qwk _ _ ?_
 unfold qks
 simp only [onPtr_some]
 have hgl:=h.blk.lt
 refine nwb fun w1 h1 hB1 hs1=>?_
 have hf1:=h.ext hB1
 refine qcy (x:=F.wasD) (hf1.blk.cells 11 _ rfl) ?_
 refine qcd (x:=x.Kind) (h1.cells 0 _ rfl) ?_
 rw [hx.kind,show (⟨#[73,68,65,84]⟩:ByteArray)=strB idatL from rfl,show (⟨#[73,72,68,82]⟩:ByteArray)=strB ihdrL from rfl,show (⟨#[80,76,84,69]⟩:ByteArray)=strB plteL from rfl,show (⟨#[116,82,78,83]⟩:ByteArray)=strB trnsL from rfl,show (⟨#[73,69,78,68]⟩:ByteArray)=strB iendL from rfl,qpw]
 rw [qah]
 refine qae hf1.blk (by simp [qh6,T_png_file.rep]) fun w2 hb2 hg2 hs2=>?_
 have hc2:Chg (fun k=>k=g) w1 w2:=Chg.gg hg2
 have hf2:FilA w2 g b { F with wasD:=decide (c.kind=idatL) } p t d:=hf1.setW _ hb2 hc2 hbg
 have h12:Blk w2 w.heap.size qa5 (T_png_Chunk.rep.cells x):=h1.chg hc2 (by omega)
 have hB2:Below b w w2:=(hB1.mono (by omega)).trans (hc2.below (by have:=hB1.size;omega) fun i hi e=>by omega)
 have hx2:ChA w2 x c:=⟨hx.kind,(hx.data.ext hB1).chg hc2 fun a ha e=>by have:=hxb a.block (slk.2 ⟨a,ha,rfl⟩);omega⟩
 obtain ⟨F2,hF2⟩:∃F2:FilL,F2={ F with wasD:=decide (c.kind=idatL) }:=⟨_,rfl⟩
 rw [←hF2] at hf2
 unfold takeP at hN hY
 refine jpO fun J hJ=>?_
 have hbad:∀w',Below b w w'→(∀w',Below b w w'→K 3 w')→J (false,()) w':=fun w' hB hk=>hJ _ _ (cT rfl (hk w' hB))
 refine qcd (x:=x.Kind) (h12.cells 0 _ rfl) ?_
 rw [hx.kind]
 simp only [qpw]
 refine cO (fun e=>?_) fun e1=>?_
 ·have e:=of_decide_eq_true e
  rw [if_pos e] at hN
  exact hbad w2 hB2 fun w' hB=>hN w' (show (3:Nat)≠0 by decide) hB
 have e1:=of_decide_eq_false e1
 rw [if_neg e1] at hN hY
 refine cO (fun e=>?_) fun e2=>?_
 ·have e:=of_decide_eq_true e
  rw [if_pos e] at hN hY
  refine lSl (x:=x.Data) (h12.cells 1 _ rfl) ?_
  have hnd:decide (c.kind=idatL)=false:=decide_eq_false (by rw [e];decide)
  have hpo:qga F2 c.data=qga F c.data:=by rw [hF2];rfl
  refine zct hf2 (by rw [hF2];exact hc) hx2.data hxb hbg (by omega) (fun hp=>?_) (fun hp w3 hf3 hc3=>?_)
  ·rw [hpo] at hp
   rw [hp] at hN
   exact hbad w2 hB2 fun w' hB=>hN w' (show (3:Nat)≠0 by decide) hB
  ·rw [hpo] at hp
   rw [hp] at hY
   refine hJ _ _ (cF rfl (hY rfl x.Data t d w3 ?_ (hB2.trans (hc3.below (by have:=hB2.size;have:=h.blk.lt;omega) fun i hi e=>by omega))))
   rw [hF2,hnd] at hf3
   exact hf3
 have e2:=of_decide_eq_false e2
 rw [if_neg e2] at hN hY
 refine cO (fun e=>?_) fun e3=>?_
 ·have e:=of_decide_eq_true e
  rw [if_pos e] at hN hY
  refine lSl (x:=x.Data) (h12.cells 1 _ rfl) ?_
  have hnd:decide (c.kind=idatL)=false:=decide_eq_false (by rw [e];decide)
  have hpo:qgc F2 c.data=qgc F c.data:=by rw [hF2];rfl
  refine zf6 hf2 (by rw [hF2];exact hc) hx2.data hxb hbg (by omega) (by rw [hF2];show F.pal.length≤_;omega) (fun hp=>?_) (fun hp w3 hf3 hc3=>?_)
  ·rw [hpo] at hp
   rw [hp] at hN
   exact hbad w2 hB2 fun w' hB=>hN w' (show (3:Nat)≠0 by decide) hB
  ·rw [hpo] at hp
   rw [hp] at hY
   refine hJ _ _ (cF rfl (hY rfl p x.Data d w3 ?_ (hB2.trans (hc3.below (by have:=hB2.size;have:=h.blk.lt;omega) fun i hi e=>by omega))))
   rw [hF2,hnd] at hf3
   exact hf3
 have e3:=of_decide_eq_false e3
 rw [if_neg e3] at hN hY
 refine cO (fun e=>?_) fun e4=>?_
 ·have e:=of_decide_eq_true e
  rw [if_pos e] at hN hY
  have hnd:decide (c.kind=idatL)=true:=decide_eq_true e
  refine jpO fun J2 hJ2=>?_
  have key:J2 (!F.hasD || F.wasD,()) w2:=by
   refine hJ2 _ _ ?_
   rw [qah]
   refine qae hf2.blk (by simp [qh6,T_png_file.rep]) fun w3 hb3 hg3 hs3=>?_
   have hc3:Chg (fun k=>k=g) w2 w3:=Chg.gg hg3
   have h13:Blk w3 w.heap.size qa5 (T_png_Chunk.rep.cells x):=h12.chg hc3 (by omega)
   have hb3:Blk w3 g qjy (qh6 { F2 with hasD:=true } p t d):=hb3
   have hx3:ChA w3 x c:=⟨hx.kind,hx2.data.chg hc3 fun a ha e=>by have:=hxb a.block (slk.2 ⟨a,ha,rfl⟩);omega⟩
   have hd3:Go.Vc.Own qab w3 b d F.data:=by
    have:=hf2.data.chg hc3 fun k hk e=>qai hf2.data hf2.blk (by decide) k hk e
    rw [hF2] at this
    exact this
   have hBd:=bdw w3
   refine lSl (x:=d) ((hb3.ext hBd).cells 9 _ rfl) (lSl (x:=x.Data) ((h13.ext hBd).cells 1 _ rfl) ?_)
   have hsz3:w3.drew.heap.size=w3.heap.size:=rfl
   refine apB (hd3.ext hBd) (hx3.data.ext hBd) (by have:=hB2.size;omega) (by omega) fun r w4 hr hg4 hrb=>?_
   have hc4:Chg (fun k=>d.blk=some k) w3 w4:=(Chg.of_ext hBd).trans hg4 fun i _ hi=>hi
   have hdg:∀k,d.blk=some k→k≠g:=qai hd3 hb3 (by decide)
   have hb4:=hb3.chg hc4 fun e=>hdg _ e rfl
   rw [qah]
   refine qae hb4 (by simp [qh6,T_png_file.rep]) fun w5 hb5 hg5 hs5=>?_
   have hc5:Chg (fun k=>k=g) w4 w5:=Chg.gg hg5
   have hb5:Blk w5 g qjy (qh6 { F2 with hasD:=true,data:=F.data++c.data } p t r):=hb5
   have hrg:∀k,r.blk=some k→k≠g:=qai hr hb4 (by decide)
   have hlow:∀{s:Slc} {l:List UInt8},Rd qab w2 s l→(∀k,s.blk=some k→k<b)→Rd qab w5 s l:=fun {s l} hs hsb =>
    ((
     hs.chg hc3 fun a ha e=>by have:=hsb a.block (slk.2 ⟨a,ha,rfl⟩);omega).chg hc4 fun a ha e=>by
     have h1:=hsb a.block (slk.2 ⟨a,ha,rfl⟩)
     have h2:=(hd3.lt _ e).1
     omega).chg hc5 fun a ha e=>by have:=hsb a.block (slk.2 ⟨a,ha,rfl⟩);omega
   have hB5:Below b w w5:=by
    have s2:=hB2.size
    have s3:=hc3.size
    have s4:=hc4.size
    exact ((hB2.trans (hc3.below (by omega) fun i hi e=>by omega)).trans (hc4.below (by omega) fun i hi e=>by have:=(hd3.lt i e).1;omega)).trans (hc5.below (by omega) fun i hi e=>by omega)
   refine hJ _ _ ?_
   cases hok:(!F.hasD || F.wasD) with
   | false =>
    rw [hok] at hN
    exact cT rfl (hN w5 (show (3:Nat)≠0 by decide) hB5)
   | true =>
    rw [hok] at hY
    refine cF rfl (hY rfl p t r w5 ?_ hB5)
    refine ⟨?_,?_,?_,hr.chg hc5 fun k hk e=>hrg k hk e,hf2.pb,hf2.tb⟩
    ·rw [hF2,hnd] at hb5
     exact hb5
    ·have:=hlow hf2.pal hf2.pb
     rw [hF2] at this
     exact this
    ·have:=hlow hf2.tr hf2.tb
     rw [hF2] at this
     exact this
  refine qcy (x:=F.hasD) (by have:=hf2.blk.cells 10 _ rfl;rw [hF2] at this;exact this) ?_
  refine cO (fun e=>?_) fun e=>?_
  ·have e:F.hasD=false:=by simpa using e
   rw [e] at key
   exact key
  ·have e:F.hasD=true:=by simpa using e
   rw [e] at key
   exact key
 have e4:=of_decide_eq_false e4
 rw [if_neg e4] at hN hY
 have hnd:decide (c.kind=idatL)=false:=decide_eq_false e4
 have hf2':FilA w2 g b { F with wasD:=false } p t d:=by rw [hF2,hnd] at hf2;exact hf2
 refine cO (fun e=>?_) fun e5=>?_
 ·have e:=of_decide_eq_true e
  rw [if_pos e] at hN hY
  refine lSl (x:=x.Data) (h12.cells 1 _ rfl) ?_
  rw [hx.data.n]
  by_cases he:c.data=[]
  ·rw [if_pos he] at hN hY
   rw [he]
   exact hJ _ _ (cF rfl (hY rfl p t d w2 hf2' hB2))
  ·rw [if_neg he] at hN
   rw [qqd (by have:=List.length_pos_iff.2 he;omega)]
   exact hbad w2 hB2 fun w' hB=>hN w' (show (3:Nat)≠0 by decide) hB
 have e5:=of_decide_eq_false e5
 rw [if_neg e5] at hN hY
 refine qcd (x:=x.Kind) (h12.cells 0 _ rfl) ?_
 rw [hx.kind]
 have hsz:(strB c.kind).size=c.kind.length:=by show c.kind.toArray.size=_;simp
 refine ⟨⟨by decide,by rw [hsz,hk4];decide⟩,?_⟩
 have hch:((strB c.kind).data.getD (0:Int).toNat 0).toNat=(c.kind[0]?.getD 0).toNat:=by
  show (c.kind.toArray.getD 0 0).toNat=_
  rw [Array.getD_eq_getD_getElem?]
  simp
 rw [hch]
 by_cases h90:(c.kind[0]?.getD 0).toNat≤90
 ·rw [if_pos h90] at hN
  exact cT (decide_eq_true (by omega)) (hN w2 (show (8:Nat)≠0 by decide) hB2)
 ·rw [if_neg h90] at hN hY
  exact cF (decide_eq_false (by omega)) (hJ _ _ (cF rfl (hY rfl p t d w2 hf2' hB2)))
end
end Go.Proofs.YtmagnpcgpinmcaaGreat
set_option linter.unusedVariables false
namespace Go.Proofs.YtmagnpcgpinmcaaGreat
open Go.Vc Go.RowKit
set_option maxRecDepth 400000
theorem qsr (wx samples depth:Int):rowP wx samples depth≤131072:=by
 unfold rowP
 split
 ·omega
 ·rename_i h
  simp only [not_or] at h
  obtain ⟨h1,h2,h3,h4,h5⟩:=h
  have hd:qbv depth=true:=by cases e:qbv depth with | true=>rfl | false=>exact absurd e h5
  have hdp:1≤depth∧depth≤16:=by
   unfold qbv at hd
   simp at hd
   omega
  have a1:0≤wx*samples:=Int.mul_nonneg (by omega) (by omega)
  have a2:wx*samples≤16384*4:=Int.mul_le_mul (by omega) (by omega) (by omega) (by omega)
  have a4:wx*samples*depth≤16384*4*16:=Int.mul_le_mul a2 (by omega) (by omega) (by omega)
  omega
def needL (h:T_png_Head) (L:List (PassP×Nat×Nat)):Nat:=(L.map fun r=>1+rowB h r.2.2).sum
theorem q1f (h:T_png_Head):∀L:List (PassP×Nat×Nat),needL h L≤L.length*200000
 | []=>by simp [needL]
 | r::l=>by
  have:=q1f h l
  have h2:rowB h r.2.2≤131072:=qsr _ _ _
  unfold needL at this ⊢
  rw [List.map_cons,List.sum_cons,List.length_cons]
  omega
theorem q4m (h:T_png_Head) (L:List (PassP×Nat×Nat)) (r:PassP×Nat×Nat):needL h (L++[r])=needL h L+(1+rowB h r.2.2):=by simp [needL]
theorem q2m (W H:Nat) (hH:H≤16384):∀ps:List PassP,(ps.flatMap (qak W H)).length≤ps.length*16384
 | []=>by simp
 | p::r=>by
  have:=q2m W H hH r
  have h2:=(qd5 p W H).2
  rw [List.flatMap_cons,List.length_append,qeh,List.length_cons]
  omega
theorem q7r {h:T_png_Head} {W H:Nat} (ho:HeadOk h W H):(rowsL h).length≤7*16384:=by
 unfold rowsL
 rw [ho.wn,ho.hn]
 have h1:=q2m W H ho.h2 (qcr h.Lace)
 have h2:=qio h.Lace
 omega
theorem q1x {w w':World} {S:Nat→Prop} (h:Chg S w w') (hS:∀k,S k→∃t cs,Blk w k t cs∧t≠qbd∧t≠qaw):KeepT w w':=fun k t cs ht hb=>hb.chg h fun e=>by
 obtain ⟨t',cs',hb',h1,h2⟩:=hS k e
 refine hb.ne_t hb' ?_ rfl
 rcases ht with rfl | rfl
 ·exact fun e=>h1 e.symm
 ·exact fun e=>h2 e.symm
section
variable {w:World}
theorem zi6 {h:T_png_Head} {W H:Nat} (ho:HeadOk h W H) {K:Int→World→Prop} (hK:∀w',Below w.heap.size w w'→K ((needP h:Nat):Int) w'):qlx h w K:=by
 refine qwn _ ?_
 unfold qkm
 refine nwb fun w1 h1 hB1 hs1=>nwb fun w2 h2 hB2 hs2=>?_
 have hB12:=bT hB1 hB2
 refine qa2 h2 rfl fun w3 h3 hc3 hs3=>?_
 have hB3:=b1o hB12 hc3 (by omega)
 have h13:Blk w3 w.heap.size qaw _:=(h1.ext hB2).chg hc3 (by omega)
 refine qas (r:=T_png_Head.rep) (x:=h) h13.cells ?_
 refine qwj ho (fun L w4=>Blk w4 w1.heap.size qbf [.int .i64 ((needL h L:Nat):Int)]∧Blk w4 w.heap.size qaw (T_png_Head.rep.cells h)∧Below w.heap.size w w4) (fun _=>False) ⟨h3,h13,hB3⟩ ?_ ?_ ?_ (fun _ h=>h.elim)
 ·rintro L w4 w5 ⟨a,b,c⟩ hB
  exact ⟨a.ext hB,b.ext hB,bT c hB⟩
 ·rintro L r R w4 hL ⟨a,b,c⟩ hs4 J hJ1 hJ0
  refine qg5 (by kernel_rfl) ?_
  have hcall:qoa (passT r.1) (r.2.1:Int) (r.2.2:Int) ⟨w1.heap.size,0,none⟩ ⟨w.heap.size,0,none⟩ w4 J:=by
   refine qur _ _ _ _ _ ?_
   unfold qh3
   refine nwb fun w5 h5 hB5 hs5=>?_
   have hBd:=bT hB5 (bdw w5)
   have ad:=a.ext hBd
   have bd:=b.ext hBd
   refine lI (x:=((needL h L:Nat):Int)) (ad.cell 0 rfl) (lI (x:=h.Color) (bd.cells 3 _ rfl) (lI (x:=h.Depth) (bd.cells 2 _ rfl) ?_))
   refine qlc ⟨bd.cells 2 _ rfl,ad.cell 0 rfl,q9w ⟨ad.cell 0 rfl,?_⟩⟩
   have hle:=q1f h L
   have hll:=q7r ho
   rw [hL,List.length_append,List.length_cons] at hll
   have hrl:rowP (r.2.2:Int) (qac h.Color) h.Depth≤131072:=qsr _ _ _
   have hrb:rowB h r.2.2=rowP (r.2.2:Int) (qac h.Color) h.Depth:=rfl
   rw [w64i (x:=(1:Int)+((rowP (r.2.2:Int) (qac h.Color) h.Depth:Nat):Int)) (by omega),w64i (by omega)]
   refine qa2 ad rfl fun w6 h6 hc6 hs6=>?_
   have hne:w.heap.size≠w1.heap.size:=by omega
   refine hJ1 w6 ⟨?_,bd.chg hc6 hne,b1o (bT c hBd) hc6 (by omega)⟩ ?_ (by have:=hBd.size;omega)
   ·rw [q4m,hrb]
    have e:((needL h L:Nat):Int)+((1:Int)+((rowP (r.2.2:Int) (qac h.Color) h.Depth:Nat):Int))=((needL h L+(1+rowP (r.2.2:Int) (qac h.Color) h.Depth):Nat):Int):=by omega
    rw [e] at h6
    exact h6
   ·refine q1x (S:=fun k=>k=w1.heap.size) ((Chg.of_ext hBd).trans hc6 fun i _ hi=>hi) fun k hk=>⟨qbf,[.int .i64 ((needL h L:Nat):Int)],by rw [hk];exact a,by decide,by decide⟩
  refine Calls.mono hcall ?_
  rintro e w' ⟨r,rfl,hk⟩
  exact ⟨r,rfl,hk⟩
 ·rintro w4 ⟨a,b,c⟩
  exact lI (x:=((needP h:Nat):Int)) (a.cell 0 rfl) (hK w4 c)
theorem zgz {v n:Nat} {K:Int→World→Prop} (hv:v≤1000000) (hn:1≤n) (hn2:n≤1000000) (hvn:v≤n) (h255:v≤1000) (hK:K ((qyc v n 255:Nat):Int) w):qi2 (v:Int) (n:Int) 255 w K:=by
 refine qtf _ _ _ ?_
 unfold qik
 refine jpO fun J hJ=>?_
 have hj:J () w:=hJ _ _ ⟨by decide,by omega,by
  unfold qyc at hK
  rw [if_neg (by omega)] at hK
  have hq:(v*255+n/2)/n≤v*255+n/2:=Nat.div_le_self _ _
  rw [w64i (x:=(v:Int)*255) (by omega),show (2:Int)=((2:Nat):Int) from rfl,←Int.ofNat_tdiv,w64i (x:=((n/2:Nat):Int)) (by omega),show (v:Int)*255+((n/2:Nat):Int)=((v*255+n/2:Nat):Int) by omega,w64i (x:=((v*255+n/2:Nat):Int)) (by omega),←Int.ofNat_tdiv]
  generalize (v*255+n/2)/n=q at hK hq ⊢
  rw [w64i (by omega)]
  exact hK⟩
 refine cF (decide_eq_false (by omega)) (cF (decide_eq_false (by omega)) (cF (decide_eq_false (by omega)) (cF (by decide) ?_)))
 refine cO (fun h=>?_) fun h=>hj
 have h:=of_decide_eq_true h
 refine ⟨by omega,cF (decide_eq_false ?_) hj⟩
 rw [show (1073741824:Int)=((1073741824:Nat):Int) from rfl,←Int.ofNat_tdiv]
 have h1:1073741824/v≤1073741824:=Nat.div_le_self _ _
 have h2:255≤1073741824/v:=(Nat.le_div_iff_mul_le (by omega)).2 (by omega)
 generalize 1073741824/v=q at h1 h2 ⊢
 rw [w64i (by omega)]
 omega
theorem qo4 (n:Nat):IntKind.u8.wrap (n:Int)=(((UInt8.ofNat n).toNat:Nat):Int):=qb3 n
theorem qla {h:T_png_Head} {v:Nat} {K:Int→World→Prop} (hc:ColOk h) (hv:v<2^h.Depth.toNat) (hK:∀w',Below w.heap.size w w'→K (((qbx h.Depth v).toNat:Nat):Int) w'):qc8 h (v:Int) w K:=by
 refine qv9 _ _ ?_
 unfold qjn
 refine nwb fun w1 h1 hB1 hs1=>?_
 refine lI (x:=h.Depth) (h1.cells 2 _ rfl) ?_
 unfold qbx at hK
 refine cO (fun e=>?_) fun e8=>?_
 ·rw [if_pos (eq_of_beq e)] at hK
  rw [qo4]
  exact hK w1 hB1
 have e8:h.Depth≠8:=by simpa using e8
 rw [if_neg e8] at hK
 refine cO (fun e=>⟨by decide,?_⟩) fun e16=>?_
 ·rw [if_pos (eq_of_beq e)] at hK
  rw [show min ((8:Int)).toNat IntKind.i64.bits=8 by decide,qbl,qo4]
  exact hK w1 hB1
 have e16:h.Depth≠16:=by simpa using e16
 rw [if_neg e16] at hK
 refine lI (x:=h.Depth) (h1.cells 2 _ rfl) ⟨by have:=hc.d;omega,?_⟩
 have hd:h.Depth=1∨h.Depth=2∨h.Depth=4:=by have:=hc.d;omega
 have hsh:IntKind.i64.wrap ((IntKind.i64.wrap ((1:Int)*2^(min h.Depth.toNat IntKind.i64.bits)))-(1:Int))=((2^h.Depth.toNat-1:Nat):Int):=by
  rcases hd with h | h | h<;>rw [h]<;>decide
 have hp:2≤2^h.Depth.toNat∧2^h.Depth.toNat≤16:=by rcases hd with h | h | h<;>rw [h]<;>decide
 rw [hsh]
 refine zgz (by omega) (by omega) (by omega) (by omega) (by omega) ?_
 rw [qo4]
 exact hK w1 hB1
def colT (a b c d:UInt8):T_pixel_Color:=⟨(a.toNat:Nat),(b.toNat:Nat),(c.toNat:Nat),(d.toNat:Nat)⟩
theorem zl6 {f:FilL} {i:Nat} {d:Nat} (hd:d=1∨d=2∨d=4∨d=8∨d=16) (x y:UInt8) :
  bitsR .and .i64 (bitsR .or .i64 (IntKind.i64.wrap ((IntKind.i64.wrap ((x.toNat:Nat):Int))*2^(min (8:Int).toNat IntKind.i64.bits))) (IntKind.i64.wrap ((y.toNat:Nat):Int))) (IntKind.i64.wrap ((IntKind.i64.wrap ((1:Int)*2^(min ((d:Nat):Int).toNat IntKind.i64.bits)))-(1:Int)))=(((x.toNat*256+y.toNat)%2^d:Nat):Int):=by
 have hx:=x.toNat_lt
 have hy:=y.toNat_lt
 rw [w8,w8,show min ((8:Int)).toNat IntKind.i64.bits=8 by decide,qa4,qad .i64 (x:=x.toNat*2^8) (by show _<2^63;omega),qcx .i64 (by show _<2^63;omega) (by show _<2^63;omega)]
 have e:x.toNat*2^8 ||| y.toNat=x.toNat*256+y.toNat:=by
  rw [Nat.or_comm,Nat.mul_comm,qe6 (by omega)]
  omega
 have hsh:IntKind.i64.wrap ((IntKind.i64.wrap ((1:Int)*2^(min ((d:Nat):Int).toNat IntKind.i64.bits)))-(1:Int))=((2^d-1:Nat):Int):=by
  rcases hd with rfl | rfl | rfl | rfl | rfl<;>decide
 have hp:2^d≤65536:=by rcases hd with rfl | rfl | rfl | rfl | rfl<;>decide
 rw [e,hsh,qdn .i64 (by show _<2^63;omega) (by show _<2^63;omega),Nat.and_two_pow_sub_one_eq_mod]
theorem qrt (F:FilL) (ss:List Nat) (i:Nat):qgi F ss (i+1)=(qgi F ss i && decide (ss[i]?.getD 0=((F.tr[2*i]?.getD 0).toNat*256+(F.tr[2*i+1]?.getD 0).toNat)%2^F.h.Depth.toNat)):=by
 unfold qgi
 rw [List.range_succ,List.all_append]
 simp
theorem zap {F:FilL} {ss:List Nat} {i n:Nat} (h:qgi F ss i=false) (hin:i≤n):qgi F ss n=false:=by
 unfold qgi at h ⊢
 rw [List.all_eq_false] at h ⊢
 obtain ⟨x,hx,hh⟩:=h
 exact ⟨x,List.mem_range.2 (by have:=List.mem_range.1 hx;omega),hh⟩
theorem FilA.head {g b:Nat} {F:FilL} {p t d:Slc} (h:FilA w g b F p t d):qbc w ⟨g,0,none⟩ (T_png_Head.rep.cells F.h):=by
 have:qbc w ((⟨g,0,none⟩:Addr).add 0) (T_png_Head.rep.cells F.h):=h.blk.cells.sub 0 (by rintro j v hj;rw [Nat.zero_add];match j,hj with
     | 0,hj=>exact hj
     | 1,hj=>exact hj
     | 2,hj=>exact hj
     | 3,hj=>exact hj
     | 4,hj=>exact hj
     | j+5,hj=>simp [T_png_Head.rep] at hj)
 rwa [add_zero] at this
theorem q4q {g b:Nat} {F:FilL} {p t d:Slc} (h:FilA w g b F p t d) (ho:FilOk F) {s:Slc} {ss:List Nat} (hs:Rd E_int w s (intsN ss)) (hsl:ss.length=qac F.h.Color) (hsv:∀v∈ss,v<2^F.h.Depth.toNat) (hpl:F.pal.length≤1000000) (htl:F.tr.length≤1000000) {K:T_pixel_Color→Bool→World→Prop}
  (hN:∀x w',qcj F ss=none→Below w.heap.size w w'→K x false w') (hY:∀a b c d w',qcj F ss=some [a,b,c,d]→Below w.heap.size w w'→K (colT a b c d) true w'):qd3 (some ⟨g,0,none⟩) s w K:=by
 obtain ⟨_,hc⟩:=qfs ho.hd
 refine qvm _ _ ?_
 unfold qi1
 simp only [onPtr_some]
 refine nwb fun w1 h1 hB1 hs1=>nwb fun w2 h2 hB2 hs2=>?_
 have hB12:=bT hB1 hB2
 refine qa2 h2 rfl fun w3 h3 hc3 hs3=>?_
 have hB3:=b1o hB12 hc3 (by omega)
 have h13:Blk w3 w.heap.size qaj _:=(h1.ext hB2).chg hc3 (by omega)
 have h3:Blk w3 w1.heap.size qaj (qaf [0,0,0,255]):=h3
 have hss:∀i,i<ss.length→∃v,ss[i]?=some v∧v<2^F.h.Depth.toNat:=fun i hi=>⟨ss[i],List.getElem?_eq_getElem hi,hsv _ (List.getElem_mem hi)⟩
 have hsn:=hs.n
 rw [qet] at hsn
 have scell:∀{w':World} {i v:Nat},Below w.heap.size w w'→ss[i]?=some v→w'.cell? (s.at_ 1 i)=some (.int .i64 (v:Int)):=fun {w' i v} hB hv=>by
  have:=(hs.ext hB).at_ i (v:Int) (by rw [quj,hv];rfl) 0 _ rfl
  have h2:w'.cell? (s.at_ E_int.k i)=some (.int .i64 (v:Int)):=by simpa using this
  exact h2
 have six:∀{w':World} {i:Nat} {K:Addr→Prop},i<ss.length→K (s.at_ 1 i)→ixK s (i:Int) 1 K:=fun {w' i K} hi hk=>hs.ix (i:=(i:Int)) rfl (by omega) (by rw [qet];omega) fun _=>hk
 have hsmp1:1≤ss.length:=by
  rw [hsl]
  unfold qac
  rcases hc.c with e | e | e | e | e<;>rw [e]<;>decide
 have hs4:ss.length≤4:=by
  rw [hsl]
  unfold qac
  rcases hc.c with e | e | e | e | e<;>rw [e]<;>decide
 obtain ⟨v0,hv0,hv0l⟩:=hss 0 (by omega)
 have told:∀(a b' c d':UInt8) w',Blk w' w1.heap.size qaj (qaf [a,b',c,d'])→Blk w' w.heap.size qaj (qaf [0,0,0,0])→Below w.heap.size w w'→qcj F ss=some [a,b',c,d'] →
   ldS T_pixel_Color.rep ⟨w1.heap.size,0,none⟩ w' fun t175=>stK ⟨w.heap.size,0,none⟩ (T_pixel_Color.rep.cells t175) w' fun w9=>ldS T_pixel_Color.rep ⟨w.heap.size,0,none⟩ w9 fun r=>K r true w9:=by
  intro a b' c d' w' hb ht hB hcol
  refine qas (r:=T_pixel_Color.rep) (x:=colT a b' c d') hb.cells ?_
  exact qby (r:=T_pixel_Color.rep) (x:=colT a b' c d') ht rfl rfl fun w9 hc9 _=>hY a b' c d' w9 hcol (b1o hB hc9 (Nat.le_refl _))
 refine jpO fun J1 hJ1=>?_
 have base:∀(a b' c:UInt8) w4,F.h.Color≠3→Blk w4 w1.heap.size qaj (qaf [a,b',c,255])→Blk w4 w.heap.size qaj (qaf [0,0,0,0])→Below w.heap.size w w4 →
   (∀al:UInt8,al=(if F.hasT && qgi F ss ss.length then 0 else if F.h.Color=4∨F.h.Color=6 then qbx F.h.Depth (ss[ss.length-1]?.getD 0) else 255)→qcj F ss=some [a,b',c,al])→J1 () w4:=by
  intro a b' c w4 hn3 hb4 ht4 hB4 hcol
  refine hJ1 _ _ (jpO fun J2 hJ2=>?_)
  have tail:∀(al:UInt8) w5,Blk w5 w1.heap.size qaj (qaf [a,b',c,al])→Blk w5 w.heap.size qaj (qaf [0,0,0,0])→Below w.heap.size w w5→al=(if F.h.Color=4∨F.h.Color=6 then qbx F.h.Depth (ss[ss.length-1]?.getD 0) else 255)→J2 () w5:=by
   intro al w5 hb5 ht5 hB5 hal
   refine hJ2 _ _ ?_
   have hf5:=h.ext hB5
   refine qcy (x:=F.hasT) (hf5.blk.cells 8 _ rfl) ?_
   refine lpR (fun (st:Bool×Int×Unit) w6=>∃i:Nat,st.2.1=i∧i≤ss.length∧st.1=(F.hasT && qgi F ss i)∧Blk w6 w1.heap.size qaj (qaf [a,b',c,al])∧Blk w6 w.heap.size qaj (qaf [0,0,0,0])∧Below w.heap.size w w6) (fun st=>ss.length-st.2.1.toNat)
    ⟨0,rfl,by omega,by rw [show qgi F ss 0=true from rfl,Bool.and_true],hb5,ht5,hB5⟩ ?_
   rintro ⟨sm,i,u⟩ w6 ⟨i,rfl,hi,hsm,hb6,ht6,hB6⟩ I hI
   dsimp only at hsm ⊢
   have hend:(F.hasT && qgi F ss ss.length)=sm→cond sm
       (ixA (⟨w1.heap.size,0,none⟩:Addr) 4 3 1 fun t174=>stK t174 [(.int .u8 0)] w6 fun w8=>ldS T_pixel_Color.rep (⟨w1.heap.size,0,none⟩:Addr) w8 fun t175=>stK (⟨w.heap.size,0,none⟩:Addr) (T_pixel_Color.rep.cells t175) w8 fun w9=>ldS T_pixel_Color.rep (⟨w.heap.size,0,none⟩:Addr) w9 fun r=>K r true w9)
       (ldS T_pixel_Color.rep (⟨w1.heap.size,0,none⟩:Addr) w6 fun t175_1=>stK (⟨w.heap.size,0,none⟩:Addr) (T_pixel_Color.rep.cells t175_1) w6 fun w10=>ldS T_pixel_Color.rep (⟨w.heap.size,0,none⟩:Addr) w10 fun r_1=>K r_1 true w10):=by
    intro hes
    cases hsm':sm with
    | true =>
     rw [hsm'] at hes
     refine cT rfl ⟨⟨by decide,by decide⟩,?_⟩
     rw [qah]
     refine qae hb6 (by simp [qaf]) fun w8 hb8 hg8 hs8=>?_
     have hb8:Blk w8 w1.heap.size qaj (qaf [a,b',c,0]):=hb8
     have hc8:Chg (fun k=>k=w1.heap.size) w6 w8:=Chg.gg hg8
     refine told a b' c 0 w8 hb8 (ht6.chg hc8 (by omega)) (b1o hB6 hc8 (by omega)) (hcol 0 ?_)
     rw [hes,if_pos rfl]
    | false =>
     rw [hsm'] at hes
     refine cF rfl (told a b' c al w6 hb6 ht6 hB6 (hcol al ?_))
     rw [hes,if_neg (by decide)]
     exact hal
   refine jpO fun J4 hJ4=>?_
   rw [hsn]
   refine cO (fun hlt=>?_) fun hge=>?_
   ·have hlt:=of_decide_eq_true hlt
    have hil:i<ss.length:=by omega
    cases hsm':sm with
    | false =>
     rw [hsm'] at hsm
     refine cF rfl ?_
     rw [hsm'] at hend
     refine hend ?_
     cases hT:F.hasT with
     | false=>rfl
     | true =>
      rw [hT,Bool.true_and] at hsm
      rw [Bool.true_and]
      exact zap hsm.symm (by omega)
    | true =>
     rw [hsm'] at hsm
     have hT:F.hasT=true:=by cases e:F.hasT with | true=>rfl | false=>rw [e] at hsm;cases hsm
     have htr:=ho.tr hT
     refine cT rfl (hJ4 _ _ ?_)
     have hBd:=bT hB6 (bdw w6)
     have hfd:=h.ext hBd
     obtain ⟨v,hv,hvl⟩:=hss i hil
     have htl2:2*i+1<F.tr.length:=by
      rcases htr with ⟨e,e2⟩ | ⟨e,e2⟩ | e
      ·rw [hsl,e] at hil
       have:qac 0=1:=rfl
       omega
      ·rw [hsl,e] at hil
       have:qac 2=3:=rfl
       omega
      ·exact absurd e hn3
     obtain ⟨x,hx,hxs⟩:=qa0 (xs:=F.tr) (k:=2*i) (by omega)
     obtain ⟨y,hy,hys⟩:=qa0 (xs:=F.tr) (k:=2*i+1) htl2
     refine six (w':=w6) hil (lI (scell hBd hv) ?_)
     refine lSl (x:=t) (hfd.blk.cells 6 _ rfl) ?_
     have ei:IntKind.i64.wrap ((2:Int)*(i:Int))=((2*i:Nat):Int):=by rw [w64i (by omega)];simp
     have ei1:IntKind.i64.wrap ((((2*i:Nat)):Int)+(1:Int))=((2*i+1:Nat):Int):=by rw [w64i (by omega)];rfl
     rw [ei,ei1]
     refine hfd.tr.ix (i:=((2*i:Nat):Int)) rfl (by omega) (by omega) fun _=>?_
     refine lI (x:=(x.toNat:Int)) (by rw [Int.toNat_natCast];exact qa9 hfd.tr hx) ⟨by decide,?_⟩
     refine lSl (x:=t) (hfd.blk.cells 6 _ rfl) ?_
     refine hfd.tr.ix (i:=((2*i+1:Nat):Int)) rfl (by omega) (by omega) fun _=>?_
     refine lI (x:=(y.toNat:Int)) (by rw [Int.toNat_natCast];exact qa9 hfd.tr hy) ?_
     refine lI (x:=F.h.Depth) (by rw [add_zero];exact hfd.blk.cells 2 _ rfl) ⟨by have:=hc.d;omega,?_⟩
     have hdn:F.h.Depth=((F.h.Depth.toNat:Nat):Int):=by have:=hc.d;omega
     have hv2:=zl6 (f:=F) (i:=i) (d:=F.h.Depth.toNat) (by have:=hc.d;omega) x y
     rw [←hdn] at hv2
     rw [hv2,w64i (by omega)]
     refine hI _ _ ⟨i+1,rfl,by omega,?_,hb6.ext (bdw w6),ht6.ext (bdw w6),hBd⟩ (by simp;omega)
     dsimp only
     rw [hT,Bool.true_and] at hsm ⊢
     rw [qrt,←hsm,hv,hx,hy,Bool.true_and,Bool.eq_iff_iff]
     simp only [beq_iff_eq,decide_eq_true_eq,Option.getD_some]
     omega
   ·have hge:=of_decide_eq_false hge
    obtain rfl:i=ss.length:=by omega
    exact hend hsm.symm
  refine jpO fun J5 hJ5=>?_
  have al:∀bb:Bool,(bb=true↔F.h.Color=4∨F.h.Color=6)→J5 (bb,()) w4:=by
   intro bb hbb
   refine hJ5 _ _ ?_
   refine cO (fun e=>?_) fun e=>?_
   ·have hBd:=bT hB4 (bdw w4)
    have hfd:=h.ext hBd
    refine qas (r:=T_png_Head.rep) (x:=F.h) (by rw [add_zero];exact hfd.head) ?_
    rw [hsn,w64i (by omega),show ((ss.length:Nat):Int)-1=((ss.length-1:Nat):Int) by omega]
    obtain ⟨v,hv,hvl⟩:=hss (ss.length-1) (by omega)
    refine six (w':=w4) (by omega) (lI (scell hBd hv) ?_)
    refine qla hc hvl fun w5 hB5=>⟨⟨by decide,by decide⟩,?_⟩
    rw [qah]
    refine qae ((hb4.ext (bdw w4)).ext hB5) (by simp [qaf]) fun w6 hb6 hg6 hs6=>?_
    have hb6:Blk w6 w1.heap.size qaj (qaf [a,b',c,qbx F.h.Depth v]):=hb6
    have hc6:Chg (fun k=>k=w1.heap.size) w5 w6:=Chg.gg hg6
    refine tail (qbx F.h.Depth v) w6 hb6 (((ht4.ext (bdw w4)).ext hB5).chg hc6 (by omega)) (b1o (bT hBd hB5) hc6 (by omega)) ?_
    rw [if_pos (hbb.1 e),hv]
    rfl
   ·refine tail 255 w4 hb4 ht4 hB4 ?_
    rw [if_neg fun h=>by rw [hbb.2 h] at e;cases e]
  have hf4:=h.ext hB4
  refine lI (x:=F.h.Color) (by rw [add_zero];exact hf4.blk.cells 3 _ rfl) ?_
  refine cO (fun e=>al _ ?_) fun e=>?_
  ·have:=eq_of_beq e;simp [this]
  ·have e:F.h.Color≠4:=by simpa using e
   refine lI (x:=F.h.Color) (by rw [add_zero];exact hf4.blk.cells 3 _ rfl) (al _ ?_)
   simp [e]
 have hf3:=h.ext hB3
 refine lI (x:=F.h.Color) (by rw [add_zero];exact hf3.blk.cells 3 _ rfl) ?_
 have hBd:=bT hB3 (bdw w3)
 have hfd:=h.ext hBd
 have h3d:=h3.ext (bdw w3)
 have h13d:Blk w3.drew w.heap.size qaj (qaf [0,0,0,0]):=h13.ext (bdw w3)
 refine cO (fun e=>?_) fun e3=>?_
 ·have e:F.h.Color=3:=eq_of_beq e
  have hv16:v0<65536:=Nat.lt_of_lt_of_le hv0l (show 2^F.h.Depth.toNat≤2^16 from Nat.pow_le_pow_right (by decide) (by have:=hc.d;omega))
  refine six (w':=w3) (i:=0) (by omega) (lI (scell hBd hv0) ?_)
  refine lSl (x:=p) (hfd.blk.cells 5 _ rfl) ?_
  have e3v:IntKind.i64.wrap ((3:Int)*(v0:Int))=((3*v0:Nat):Int):=by rw [w64i (by omega)];simp
  rw [e3v,hfd.pal.n]
  have hval:qcj F ss=(if 3*v0≥F.pal.length then none else some [F.pal[3*v0]?.getD 0,F.pal[3*v0+1]?.getD 0,F.pal[3*v0+2]?.getD 0,if v0<F.tr.length then F.tr[v0]?.getD 0 else 255]):=by
   unfold qcj
   rw [hv0]
   dsimp only [Option.getD_some]
   rw [if_pos e]
  refine cO (fun hge=>?_) fun hlt=>?_
  ·have hge:=of_decide_eq_true hge
   rw [if_pos (by omega)] at hval
   refine qas (r:=T_pixel_Color.rep) (x:=colT 0 0 0 255) h3d.cells ?_
   exact qby (r:=T_pixel_Color.rep) (x:=colT 0 0 0 255) h13d rfl rfl fun w9 hc9 _=>hN _ w9 hval (b1o hBd hc9 (Nat.le_refl _))
  have hlt:=of_decide_eq_false hlt
  rw [if_neg (by omega)] at hval
  have hp3:=ho.pal
  have hBdd:=bT hBd (bdw _)
  have hfdd:=h.ext hBdd
  have h3dd:=h3d.ext (bdw _)
  have h13dd:=h13d.ext (bdw _)
  refine ⟨⟨by decide,by decide⟩,?_⟩
  refine lSl (x:=p) (hfdd.blk.cells 5 _ rfl) ?_
  refine six (w':=w3) (i:=0) (by omega) (lI (scell hBdd hv0) ?_)
  rw [e3v]
  refine hfdd.pal.slK (l:=3*v0) (m:=F.pal.length) rfl (.inr rfl) (.inl ⟨rfl,rfl⟩) (by omega) (by omega) fun hpp=>?_
  rw [List.take_length] at hpp
  have hmin:(3:Nat)=min ((F.pal.drop (3*v0)).length) 3:=by rw [List.length_drop];omega
  refine copyB (o:=0) (dn:=3) (dc:=4) h3dd hpp hmin (by simp [qaf]) fun w18 hb18 hc18 hs18=>?_
  obtain ⟨q0,hq0,_⟩:=qa0 (xs:=F.pal) (k:=3*v0) (by omega)
  obtain ⟨q1,hq1,_⟩:=qa0 (xs:=F.pal) (k:=3*v0+1) (by omega)
  obtain ⟨q2,hq2,_⟩:=qa0 (xs:=F.pal) (k:=3*v0+2) (by omega)
  have htk:(F.pal.drop (3*v0)).take 3=[q0,q1,q2]:=by
   have c0:F.pal.drop (3*v0)=q0::F.pal.drop (3*v0+1):=by
    rw [List.getElem?_eq_getElem (by omega)] at hq0
    rw [←Option.some.inj hq0,←List.drop_eq_getElem_cons]
   have c1:F.pal.drop (3*v0+1)=q1::F.pal.drop (3*v0+2):=by
    rw [List.getElem?_eq_getElem (by omega)] at hq1
    rw [←Option.some.inj hq1,←List.drop_eq_getElem_cons]
   have c2:F.pal.drop (3*v0+2)=q2::F.pal.drop (3*v0+3):=by
    rw [List.getElem?_eq_getElem (by omega)] at hq2
    rw [←Option.some.inj hq2,←List.drop_eq_getElem_cons]
   rw [c0,c1,c2]
   rfl
  rw [htk] at hb18
  have hb18:Blk w18 w1.heap.size qaj (qaf [q0,q1,q2,255]):=hb18
  have hB18:=b1o hBdd hc18 (by omega)
  have h18:=h13dd.chg hc18 (by omega)
  rw [hq0,hq1,hq2] at hval
  have hBd18:=bT hB18 (bdw w18)
  have hf18:=h.ext hBd18
  refine six (w':=w3) (i:=0) (by omega) (lI (scell hBd18 hv0) ?_)
  refine lSl (x:=t) (hf18.blk.cells 6 _ rfl) ?_
  rw [hf18.tr.n]
  refine cO (fun ht=>?_) fun ht=>?_
  ·have ht:=of_decide_eq_true ht
   rw [if_pos (by omega)] at hval
   have hBdd18:=bT hBd18 (bdw _)
   have hff:=h.ext hBdd18
   refine lSl (x:=t) (hff.blk.cells 6 _ rfl) ?_
   refine six (w':=w3) (i:=0) (by omega) (lI (scell hBdd18 hv0) ?_)
   obtain ⟨y,hy,_⟩:=qa0 (xs:=F.tr) (k:=v0) (by omega)
   refine hff.tr.ix (i:=(v0:Int)) rfl (by omega) (by omega) fun _=>?_
   refine lI (x:=(y.toNat:Int)) (by rw [Int.toNat_natCast];exact qa9 hff.tr hy) ⟨⟨by decide,by decide⟩,?_⟩
   rw [qah]
   refine qae ((hb18.ext (bdw _)).ext (bdw _)) (by simp [qaf]) fun w19 hb19 hg19 hs19=>?_
   have hb19:Blk w19 w1.heap.size qaj (qaf [q0,q1,q2,y]):=hb19
   have hc19:Chg (fun k=>k=w1.heap.size) w18.drew.drew w19:=Chg.gg hg19
   rw [hy] at hval
   exact told q0 q1 q2 y w19 hb19 (((h18.ext (bdw _)).ext (bdw _)).chg hc19 (by omega)) (b1o hBdd18 hc19 (by omega)) hval
  ·have ht:=of_decide_eq_false ht
   rw [if_neg (by omega)] at hval
   exact told q0 q1 q2 255 w18.drew (hb18.ext (bdw _)) (h18.ext (bdw _)) hBd18 hval
 have e3:F.h.Color≠3:=by simpa using e3
 have hcells:∀{w':World},Below w.heap.size w w'→qbc w' ⟨g,0,none⟩ (T_png_Head.rep.cells F.h):=fun hB=>(h.ext hB).head
 refine jpO fun J6 hJ6=>?_
 have key:∀bb:Bool,(bb=true↔F.h.Color=0∨F.h.Color=4)→J6 (bb,()) w3:=by
  intro bb hbb
  refine hJ6 _ _ (cO (fun e=>?_) fun e=>?_)
  ·refine qas (r:=T_png_Head.rep) (x:=F.h) (by rw [add_zero];exact hcells hBd) ?_
   refine six (w':=w3) (i:=0) (by omega) (lI (scell hBd hv0) ?_)
   refine qla hc hv0l fun w23 hB23=>?_
   refine qa2 (h3d.ext hB23) rfl fun w24 h24 hc24 hs24=>?_
   have h24:Blk w24 w1.heap.size qaj (qaf [qbx F.h.Depth v0,qbx F.h.Depth v0,qbx F.h.Depth v0,255]):=h24
   refine base _ _ _ w24 e3 h24 ((h13d.ext hB23).chg hc24 (by omega)) (b1o (bT hBd hB23) hc24 (by omega)) fun al hal=>?_
   unfold qcj
   dsimp only
   rw [if_neg e3,if_pos (hbb.1 e),hal,hv0]
   rfl
  ·have hn:¬(F.h.Color=0∨F.h.Color=4):=fun h=>by rw [hbb.2 h] at e;cases e
   have h3l:3≤ss.length:=by
    rw [hsl]
    rcases hc.c with e | e | e | e | e
    ·exact absurd (.inl e) hn
    ·rw [e];decide
    ·exact absurd e e3
    ·exact absurd (.inr e) hn
    ·rw [e];decide
   obtain ⟨v1,hv1,hv1l⟩:=hss 1 (by omega)
   obtain ⟨v2,hv2,hv2l⟩:=hss 2 (by omega)
   refine qas (r:=T_png_Head.rep) (x:=F.h) (by rw [add_zero];exact hcells hBd) ?_
   refine six (w':=w3) (i:=0) (by omega) (lI (scell hBd hv0) ?_)
   refine qas (r:=T_png_Head.rep) (x:=F.h) (by rw [add_zero];exact hcells hBd) ?_
   refine six (w':=w3) (i:=1) (by omega) (lI (scell hBd hv1) ?_)
   refine qas (r:=T_png_Head.rep) (x:=F.h) (by rw [add_zero];exact hcells hBd) ?_
   refine six (w':=w3) (i:=2) (by omega) (lI (scell hBd hv2) ?_)
   refine qla hc hv0l fun w25 hB25=>?_
   have hB25':=bT hBd hB25
   refine ⟨scell hB25' hv2,by rw [add_zero];exact hcells hB25',scell hB25' hv1,by rw [add_zero];exact hcells hB25',?_⟩
   refine qla hc hv1l fun w26 hB26=>?_
   have hB26':=bT hB25' hB26
   refine ⟨scell hB26' hv2,by rw [add_zero];exact hcells hB26',?_⟩
   refine qla hc hv2l fun w27 hB27=>?_
   refine qa2 (((h3d.ext hB25).ext hB26).ext hB27) rfl fun w28 h28 hc28 hs28=>?_
   have h28:Blk w28 w1.heap.size qaj (qaf [qbx F.h.Depth v0,qbx F.h.Depth v1,qbx F.h.Depth v2,255]):=h28
   refine base _ _ _ w28 e3 h28 ((((h13d.ext hB25).ext hB26).ext hB27).chg hc28 (by omega)) (b1o (bT hB26' hB27) hc28 (by omega)) fun al hal=>?_
   unfold qcj
   dsimp only
   rw [if_neg e3,if_neg hn,hal,hv0,hv1,hv2]
   rfl
 refine cO (fun e=>key _ ?_) fun e=>key _ ?_
 ·have:=eq_of_beq e;simp [this]
 ·have e:F.h.Color≠0:=by simpa using e
  simp [e]
end
end Go.Proofs.YtmagnpcgpinmcaaGreat
set_option linter.unusedVariables false
namespace Go.Proofs.YtmagnpcgpinmcaaGreat
open Go.Vc
set_option maxRecDepth 400000
theorem qnx {α β:Type} (f:α→List β):∀(ps:List α) (L R:List β) (r:β),ps.flatMap f=L++r::R→∃(ps1:List α) (p:α) (ps2:List α) (A B:List β),ps=ps1++p::ps2∧f p=A++r::B∧L=ps1.flatMap f++A
 | [],L,R,r,h=>by simp at h
 | p::ps,L,R,r,h=>by
  rw [List.flatMap_cons] at h
  rcases List.append_eq_append_iff.1 h with ⟨a',e1,e2⟩ | ⟨c',e1,e2⟩
  ·obtain ⟨ps1,q,ps2,A,B,h1,h2,h3⟩:=qnx f ps a' R r e2
   exact ⟨p::ps1,q,ps2,A,B,by rw [h1];rfl,h2,by rw [e1,h3,List.flatMap_cons,List.append_assoc]⟩
  ·cases c' with
   | nil =>
    obtain ⟨ps1,q,ps2,A,B,h1,h2,h3⟩:=qnx f ps [] R r (by simpa using e2.symm)
    refine ⟨p::ps1,q,ps2,A,B,by rw [h1];rfl,h2,?_⟩
    rw [List.append_nil] at e1
    rw [←e1,List.flatMap_cons,List.append_assoc,←h3,List.append_nil]
   | cons x c' =>
    injection e2 with e2 e3
    subst e2
    exact ⟨[],p,ps,L,c',rfl,e1,rfl⟩
structure RowAt (h:T_png_Head) (W H:Nat) (L:List (PassP×Nat×Nat)) (r:PassP×Nat×Nat):Prop where
 mem:r.1∈qcr h.Lace
 w:r.2.2=(sizeP r.1 W H).1
 y:r.2.1<(sizeP r.1 W H).2
 last:r.2.1=0∨∃L',L=L'++[(r.1,r.2.1-1,r.2.2)]
theorem qha {h:T_png_Head} {W H:Nat} (ho:HeadOk h W H) {L R:List (PassP×Nat×Nat)} {r:PassP×Nat×Nat} (hL:rowsL h=L++r::R):RowAt h W H L r:=by
 unfold rowsL at hL
 rw [ho.wn,ho.hn] at hL
 obtain ⟨ps1,p,ps2,A,B,h1,h2,h3⟩:=qnx _ _ _ _ _ hL
 have hAl:A.length<(sizeP p W H).2:=by
  rw [←qeh W H p,h2,List.length_append,List.length_cons]
  omega
 have hr:r=(p,A.length,(sizeP p W H).1):=by
  have e:=qpc W H p hAl
  rw [h2] at e
  have hl1:A.length=((A++r::B).take A.length).length:=by simp
  have:=(List.append_inj e hl1).2
  injection this
 refine ⟨by rw [hr,h1];simp,by rw [hr],by rw [hr];exact hAl,?_⟩
 rw [hr]
 by_cases h0:A.length=0
 ·exact .inl h0
 ·right
  have hA:A=(qak W H p).take A.length:=by rw [h2];simp
  have e:=qkr W H p (y:=A.length-1) (by omega)
  rw [show A.length-1+1=A.length by omega,←hA] at e
  refine ⟨ps1.flatMap (qak W H)++(qak W H p).take (A.length-1),?_⟩
  rw [h3]
  conv=>lhs;rw [e]
  rw [List.append_assoc]
theorem qiv (F:FilL):∀(a b:List (PassP×Nat×Nat)) (s:PxS),qbw F (a++b) s=match qbw F a s with | none=>none | some s'=>qbw F b s'
 | [],b,s=>rfl
 | r::a,b,s=>by
  rw [List.cons_append,qbw,qbw]
  cases qdf F r s with
  | none=>rfl
  | some s'=>exact qiv F a b s'
theorem qyo {F:FilL} {a:List (PassP×Nat×Nat)} {s s' s2:PxS} {r:PassP×Nat×Nat} (h:qbw F a s=some s') (h2:qdf F r s'=some s2):qbw F (a++[r]) s=some s2:=by
 rw [qiv,h]
 simp only [qbw,h2]
theorem qrf {F:FilL} {a b:List (PassP×Nat×Nat)} {s s':PxS} {r:PassP×Nat×Nat} (h:qbw F a s=some s') (h2:qdf F r s'=none):qbw F (a++r::b) s=none:=by
 rw [qiv,h]
 simp only [qbw,h2]
theorem q0x {F:FilL} {p:PassP} {y:Nat} {ss:List Nat} {m:List UInt8} {i n:Nat} (h:qd8 F p y ss i m=none) (hin:i≤n):qd8 F p y ss n m=none:=by
 induction n with
 | zero =>
      have:i=0:=by omega
      subst this;exact h
 | succ n ih =>
  by_cases e:i=n+1
  ·subst e;exact h
  ·rw [qd8,ih (by omega)]
theorem q6v {F:FilL} {r:PassP×Nat×Nat} {s s':PxS} (h:qdf F r s=some s'):s'.b=s.b.drop (1+rowB F.h r.2.2)∧s'.ahead.length=min (rowB F.h r.2.2) (s.b.length-1):=by
 unfold qdf at h
 split at h
 ·cases h
 ·rename_i k b hb
  split at h
  ·cases h
  ·obtain ⟨m,hm,e⟩:=Option.map_eq_some_iff.1 h
   subst e
   rw [hb]
   refine ⟨?_,?_⟩
   ·rw [Nat.add_comm,List.drop_succ_cons]
   ·rw [qe1,List.length_take,List.length_cons]
    simp
theorem qm5 {F:FilL}:∀(L:List (PassP×Nat×Nat)) (s s':PxS),qbw F L s=some s'→s'.b=s.b.drop (needL F.h L)
 | [],s,s',h=>by cases h;simp [needL]
 | r::L,s,s',h=>by
  rw [qbw] at h
  cases h1:qdf F r s with
  | none=>rw [h1] at h;cases h
  | some s1 =>
   rw [h1] at h
   have:=qm5 L s1 s' h
   rw [this,(q6v h1).1,List.drop_drop]
   rfl
theorem qh4 (h:T_png_Head) (a b:List (PassP×Nat×Nat)):needL h (a++b)=needL h a+needL h b:=by simp [needL]
theorem q7c {F:FilL} {W H:Nat} (ho:HeadOk F.h W H) {L R:List (PassP×Nat×Nat)} {r:PassP×Nat×Nat} (hL:rowsL F.h=L++r::R) {s0 s:PxS} (hs:qbw F L s0=some s) (hn:needP F.h≤s0.b.length) :
  qbn r.2.1 s.ahead=[]∨(qbn r.2.1 s.ahead).length=rowB F.h r.2.2:=by
 unfold qbn
 by_cases h0:r.2.1=0
 ·rw [if_pos h0];exact .inl rfl
 rw [if_neg h0]
 right
 rcases (qha ho hL).last with h | ⟨L',hL'⟩
 ·exact absurd h h0
 subst hL'
 rw [qiv] at hs
 cases h1:qbw F L' s0 with
 | none=>rw [h1] at hs;cases hs
 | some s1 =>
  rw [h1] at hs
  simp only [qbw] at hs
  cases h2:qdf F (r.1,r.2.1-1,r.2.2) s1 with
  | none=>rw [h2] at hs;cases hs
  | some s2 =>
   rw [h2] at hs
   cases hs
   have e:s.ahead.length=min (rowB F.h r.2.2) (s1.b.length-1):=(q6v h2).2
   have hb:=qm5 L' s0 s1 h1
   have hneed:needP F.h=needL F.h L'+(1+rowB F.h r.2.2)+needL F.h (r::R):=by
    show needL F.h (rowsL F.h)=_
    rw [hL,qh4,qh4]
    simp [needL]
   rw [e,hb,List.length_drop]
   omega
theorem q7n {F:FilL} {L R:List (PassP×Nat×Nat)} {r:PassP×Nat×Nat} (hL:rowsL F.h=L++r::R) {s0 s:PxS} (hs:qbw F L s0=some s) (hn:needP F.h≤s0.b.length):1+rowB F.h r.2.2≤s.b.length:=by
 have hb:=qm5 L s0 s hs
 have hneed:needP F.h=needL F.h L+(1+rowB F.h r.2.2)+needL F.h R:=by
  show needL F.h (rowsL F.h)=_
  rw [hL,qh4]
  simp [needL]
  omega
 rw [hb,List.length_drop]
 omega
theorem qj1 {W H:Nat} {p:PassP} {y x:Nat} (hx:x<(sizeP p W H).1) (hy:y<(sizeP p W H).2):pixAt W p y x+4≤4*W*H∧p.x+x*p.dx<W∧p.y+y*p.dy<H:=by
 unfold sizeP at hx hy
 split at hx
 ·exact absurd hx (by simp)
 ·rename_i hn
  rw [if_neg hn] at hy
  dsimp only at hx hy
  have h1:x*p.dx≤W-p.x-1:=by
   have:x≤(W-p.x-1)/p.dx:=by omega
   exact Nat.le_trans (Nat.mul_le_mul_right _ this) (Nat.div_mul_le_self _ _)
  have h2:y*p.dy≤H-p.y-1:=by
   have:y≤(H-p.y-1)/p.dy:=by omega
   exact Nat.le_trans (Nat.mul_le_mul_right _ this) (Nat.div_mul_le_self _ _)
  have hX:p.x+x*p.dx<W:=by omega
  have hY:p.y+y*p.dy<H:=by omega
  refine ⟨?_,hX,hY⟩
  unfold pixAt
  have h3:(p.y+y*p.dy+1)*W≤H*W:=Nat.mul_le_mul_right _ hY
  rw [Nat.add_mul,Nat.one_mul] at h3
  have h4:4*W*H=4*(H*W):=by rw [Nat.mul_assoc,Nat.mul_comm W H]
  rw [h4]
  generalize (p.y+y*p.dy)*W=Q at h3 ⊢
  generalize H*W=T at h3 ⊢
  generalize x*p.dx=V at hX ⊢
  omega
theorem q33 (row:List UInt8) (d i:Nat):qea row d i<2^d:=by
 unfold qea
 split
 ·rename_i h
  subst h
  have h1:=(row[2*i]?.getD 0).toNat_lt
  have h2:=(row[2*i+1]?.getD 0).toNat_lt
  omega
 ·exact Nat.mod_lt _ (Nat.pow_pos (by decide))
theorem q0y {row:List UInt8} {d n:Nat}:∀v∈qb2 row d n,v<2^d:=by
 intro v hv
 unfold qb2 at hv
 obtain ⟨i,_,rfl⟩:=List.mem_map.1 hv
 exact q33 _ _ _
theorem qq5 (row:List UInt8) (d n:Nat):(qb2 row d n).length=n:=by simp [qb2]
theorem qc5 {h:T_png_Head} (hc:ColOk h):1≤qac h.Color∧qac h.Color≤4:=by
 unfold qac
 rcases hc.c with e | e | e | e | e<;>rw [e]<;>decide
theorem q7k {h:T_png_Head} (hc:ColOk h) {w:Nat} (h1:1≤w) (h2:w≤16384):qac h.Color*w*h.Depth.toNat≤8*rowB h w:=by
 have hs:=qc5 hc
 have hd:qbv h.Depth=true:=by
  unfold qbv
  rcases hc.d with e | e | e | e | e<;>rw [e]<;>rfl
 have hdn:h.Depth=(h.Depth.toNat:Int):=by have:=hc.d;omega
 unfold rowB rowP
 rw [if_neg (by rw [hd];simp;omega)]
 have e:(w:Int)*(qac h.Color:Int)*h.Depth=((qac h.Color*w*h.Depth.toNat:Nat):Int):=by
  rw [hdn]
  simp only [Int.toNat_natCast,Int.natCast_mul]
  rw [Int.mul_comm (w:Int)]
 rw [e]
 omega
theorem zbb {h:T_png_Head} (hc:ColOk h):1≤qdc h∧qdc h≤8:=by
 have hs:=qc5 hc
 have hd:1≤h.Depth.toNat∧h.Depth.toNat≤16:=by have:=hc.d;omega
 unfold qdc
 have h1:1*1≤qac h.Color*h.Depth.toNat:=Nat.mul_le_mul hs.1 hd.1
 have h2:qac h.Color*h.Depth.toNat≤4*16:=Nat.mul_le_mul hs.2 hd.2
 omega
theorem qxc {p:PassP} {W H y:Nat} (hy:y<(sizeP p W H).2):1≤(sizeP p W H).1:=by
 unfold sizeP at hy ⊢
 split
 ·rename_i h;rw [if_pos h] at hy;exact absurd hy (by simp)
 ·exact Nat.le_add_left 1 _
end Go.Proofs.YtmagnpcgpinmcaaGreat
set_option linter.unusedVariables false
namespace Go.Proofs.YtmagnpcgpinmcaaGreat
open Go.Vc Go.RowKit
set_option maxRecDepth 400000
structure PxI (w0:World) (g:Nat) (F:FilL) (W H:Nat) (bn bf ba bb bs bm gm:Nat) (tm:Slc) (S:PxS) (w1:World):Prop where
 n:Blk w1 bn qbf [.int .i64 ((qac F.h.Color:Nat):Int)]
 f:Blk w1 bf qnm [.pointer (some ⟨g,0,none⟩)]
 st:Blk w1 bs qbf [.int .i64 ((qdc F.h:Nat):Int)]
 m:Blk w1 bm qat (T_api_Matrix.rep.cells ⟨W,H,tm⟩)
 ah:∃sa:Slc,Blk w1 ba qaa [.slice sa.a sa.n sa.c]∧Go.Vc.Own qab w1 w0.heap.size sa S.ahead∧(∀k,sa.blk=some k→k≠gm)
 b:∃sb:Slc,Blk w1 bb qaa [.slice sb.a sb.n sb.c]∧Rd qab w0 sb S.b
 row:Go.Vc.Own qab w1 w0.heap.size tm S.m
 B:Below w0.heap.size w0 w1
structure PxC (w0:World) (bn bf ba bb bs bm gm:Nat) (tm:Slc):Prop where
 ab:ba≠bb
 ns:bn≠bs
 al:w0.heap.size≤ba
 bl:w0.heap.size≤bb
 gl:w0.heap.size≤gm
 tm:tm.a=some ⟨gm,0,none⟩
section
variable {w0:World} {g b:Nat} {F:FilL} {p t d:Slc} {W H bn bf ba bb bs bm gm:Nat} {tm:Slc} {S:PxS}
theorem PxI.ext {w1 w2:World} (h:PxI w0 g F W H bn bf ba bb bs bm gm tm S w1) (hB:Below w1.heap.size w1 w2):PxI w0 g F W H bn bf ba bb bs bm gm tm S w2:=by
 obtain ⟨h1,h2,h3,h4,⟨sa,h5,h6,h7⟩,⟨sb,h8,h9⟩,h10,h11⟩:=h
 exact ⟨h1.ext hB,h2.ext hB,h3.ext hB,h4.ext hB,⟨sa,h5.ext hB,h6.ext hB,h7⟩,⟨sb,h8.ext hB,h9⟩,h10.ext hB,bT h11 hB⟩
theorem qau {w:World} {bx t:Nat} {v:Value} (h:Blk w bx t [v]):w.cell? ⟨bx,0,none⟩=some v:=h.cell 0 rfl
theorem zbv (hF:FilA w0 g b F p t d) (ho:FilOk F) (hh:HeadOk F.h W H) (hpl:F.pal.length≤1000000) (htl:F.tr.length≤1000000) (hc:PxC w0 bn bf ba bb bs bm gm tm) {x0:PxS} {L R:List (PassP×Nat×Nat)} {r:PassP×Nat×Nat} (hL:rowsL F.h=L++r::R) (hx0:needP F.h≤x0.b.length) (hx0l:x0.b.length≤1000000000) (hS:qbw F L x0=some S)
  (hml:S.m.length=4*W*H) {w1:World} (hI:PxI w0 g F W H bn bf ba bb bs bm gm tm S w1) {J:Bool→World→Prop}
  (hJ1:∀S' w2,qdf F r S=some S'→S'.m.length=4*W*H→PxI w0 g F W H bn bf ba bb bs bm gm tm S' w2→Chg (fun k=>k=ba∨k=bb∨k=gm) w1 w2→J true w2) (hJ0:∀w2,qdf F r S=none→Chg (fun k=>k=ba∨k=bb∨k=gm) w1 w2→J false w2) :
  qhm (passT r.1) (r.2.1:Int) (r.2.2:Int) ⟨bn,0,none⟩ ⟨bf,0,none⟩ ⟨ba,0,none⟩ ⟨bb,0,none⟩ ⟨bs,0,none⟩ ⟨bm,0,none⟩ w1 J:=by
 obtain ⟨_,hco⟩:=qfs ho.hd
 have hra:=qha hh hL
 have hroom:=q7n hL hS hx0
 have hal:=q7c hh hL hS hx0
 have hSb:=qm5 L x0 S hS
 have hSbl:S.b.length≤1000000000:=by rw [hSb,List.length_drop];omega
 have hw1:1≤r.2.2:=by rw [hra.w];exact qxc hra.y
 have hw2:r.2.2≤16384:=by rw [hra.w];have:=(qd5 r.1 W H).1;have:=hh.w2;omega
 have hdx:=qkw F.h.Lace r.1 hra.mem
 have hW2:=hh.w2
 have hH2:=hh.h2
 have hyH:r.2.1<16384:=by have:=hra.y;have:=(qd5 r.1 W H).2;omega
 have hsm:=qc5 hco
 have hbits:=q7k hco hw1 hw2
 have hstep:=zbb hco
 have hrowb:rowB F.h r.2.2≤131072:=qsr _ _ _
 obtain ⟨cs,hcs⟩:∃cs,cs=qac F.h.Color:=⟨_,rfl⟩
 obtain ⟨sz,hsz⟩:∃sz,sz=rowB F.h r.2.2:=⟨_,rfl⟩
 have hrP:rowP (r.2.2:Int) ((qac F.h.Color:Nat):Int) F.h.Depth=sz:=hsz.symm
 rw [←hsz] at hroom hal hbits hrowb
 obtain ⟨hn,hf,hst,hm,⟨sa,hba,hsa,hsag⟩,⟨sb,hbb,hsb⟩,hrow,hB01⟩:=hI
 refine qse _ _ _ _ _ _ _ _ _ ?_
 unfold qgv
 refine nwb fun w2 hp2 hB2 hs2=>?_
 have hBd:=bT hB2 (bdw w2)
 have hF2:=hF.ext (bT hB01 hBd)
 refine lI (x:=((qac F.h.Color:Nat):Int)) (qau (hn.ext hBd)) (qbt (x:=some ⟨g,0,none⟩) (qau (hf.ext hBd)) ?_)
 simp only [onPtr_some]
 refine lI (x:=F.h.Depth) (by rw [add_zero];exact hF2.blk.cells 2 _ rfl) (q9w ?_)
 rw [hrP]
 have e1:IntKind.i64.wrap ((1:Int)+(sz:Int))=((1+sz:Nat):Int):=by rw [w64i (by omega)];simp
 rw [e1]
 have hgF:g<w0.heap.size:=hF.blk.lt
 have hs01:=hB01.size
 refine jpO fun J1 hJ1'=>?_
 have main:∀(sa':Slc) w3,Blk w3 ba qaa [.slice sa'.a sa'.n sa'.c]→Go.Vc.Own qab w3 w0.heap.size sa' (qbn r.2.1 S.ahead)→Chg (fun k=>k=ba) w1 w3→Blk w3 w1.heap.size qbd (T_q8_Pass.rep.cells (passT r.1))→J1 () w3:=by
  intro sa' w3 hba3 hsa3 hc3 hp3
  refine hJ1' _ _ ?_
  have hn3:Blk w3 bn qbf _:=hn.chg hc3 fun e=>by subst e;exact hn.ne_t hba (by decide) rfl
  have hf3:Blk w3 bf qnm _:=hf.chg hc3 fun e=>by subst e;exact hf.ne_t hba (by decide) rfl
  have hst3:Blk w3 bs qbf _:=hst.chg hc3 fun e=>by subst e;exact hst.ne_t hba (by decide) rfl
  have hm3:Blk w3 bm qat _:=hm.chg hc3 fun e=>by subst e;exact hm.ne_t hba (by decide) rfl
  have hbb3:Blk w3 bb qaa _:=hbb.chg hc3 fun e=>hc.ab e.symm
  have hrow3:=hrow.chg hc3 fun k hk=>qai hrow hba (by decide) k hk
  have hB03:Below w0.heap.size w0 w3:=b1o hB01 hc3 hc.al
  have hBd3:=bdw w3
  have hB03d:=bT hB03 hBd3
  have hbb3d:=hbb3.ext hBd3
  have hsbd:=hsb.ext hB03d
  obtain ⟨k0,bt,hSbe⟩:∃k0 bt,S.b=k0::bt:=by
   match hb:S.b,hroom with
   | [],h=>simp at h
   | k0::bt,_=>exact ⟨k0,bt,rfl⟩
  have hbtl:sz≤bt.length:=by rw [hSbe,List.length_cons] at hroom;omega
  have hSl:S.b.length=bt.length+1:=by rw [hSbe];rfl
  refine lSl (x:=sb) (qau hbb3d) ?_
  refine hsbd.ix (i:=0) rfl (by omega) (by omega) fun _=>?_
  refine lI (x:=(k0.toNat:Int)) (qa9 (i:=0) hsbd (by rw [hSbe];rfl)) ?_
  refine lSl (x:=sb) (qau hbb3d) ?_
  refine hsbd.slK (l:=1) (m:=1+sz) rfl (.inr rfl) (.inr rfl) (by omega) (by omega) fun hpart=>?_
  have hpe:(S.b.take (1+sz)).drop 1=bt.take sz:=by rw [hSbe,Nat.add_comm 1 sz,List.take_succ_cons];rfl
  rw [hpe] at hpart
  refine lSl (x:=sa') (qau (hba3.ext hBd3)) (lI (x:=((qdc F.h:Nat):Int)) (qau (hst3.ext hBd3)) ?_)
  rw [w8]
  have hsa3d:=hsa3.ext hBd3
  have hstepE:qdf F r S=if k0.toNat>4 then none else (qd8 F r.1 r.2.1 (qb2 (undoP k0.toNat (bt.take sz) (qbn r.2.1 S.ahead) (qdc F.h)) F.h.Depth.toNat (qac F.h.Color*r.2.2)) r.2.2 S.m).map fun m=>⟨bt.drop sz,undoP k0.toNat (bt.take sz) (qbn r.2.1 S.ahead) (qdc F.h),m⟩:=by
   unfold qdf
   rw [hSbe,hsz]
  have htkl:(bt.take sz).length=sz:=by rw [List.length_take];omega
  refine ziw hpart hsa3d.rd hstep.1 hstep.2 (by rw [htkl];exact hal) (by omega) (fun h4=>?_) (fun h4 rw_ w4 hrw hB4=>?_)
  ·refine cT (by decide) (hJ0 _ ?_ ?_)
   ·rw [hstepE,if_pos h4]
   ·exact (hc3.trans (Chg.of_ext (S:=fun k=>k=ba) hBd3) fun i _ hi=>hi).mono fun i _ hi=>.inl hi
  rw [if_neg (by omega)] at hstepE
  refine cF rfl ?_
  obtain ⟨rl,hrl⟩:∃rl,rl=undoP k0.toNat (bt.take sz) (qbn r.2.1 S.ahead) (qdc F.h):=⟨_,rfl⟩
  rw [←hrl] at hstepE hrw
  have hrll:rl.length=sz:=by rw [hrl,qe1,htkl]
  have hBd4:=bT hBd3 hB4
  have hbb4:=hbb3.ext hBd4
  have hB04:=bT hB03 hBd4
  have hsb4:=hsb.ext hB04
  refine lSl (x:=sb) (qau hbb4) ?_
  refine hsb4.slK (l:=1+sz) (m:=S.b.length) rfl (.inr rfl) (.inl ⟨rfl,rfl⟩) (by omega) (by omega) fun _=>?_
  have hsb':=hsb.part (l:=1+sz) (m:=S.b.length) (by omega) (by omega)
  rw [List.take_length] at hsb'
  have hde:S.b.drop (1+sz)=bt.drop sz:=by rw [hSbe,Nat.add_comm 1 sz,List.drop_succ_cons]
  rw [hde] at hsb'
  obtain ⟨sb2,hsb2⟩:∃sb2:Slc,sb2=⟨cut sb.a (1+sz) sb.c qab.k,S.b.length-(1+sz),sb.c-(1+sz)⟩:=⟨_,rfl⟩
  rw [←hsb2] at hsb' ⊢
  refine qa2 hbb4 rfl fun w5 hbb5 hc5 hs5=>?_
  have hba5:=(hba3.ext hBd4).chg hc5 hc.ab
  refine qa2 hba5 rfl fun w6 hba6 hc6 hs6=>?_
  have hbb6:=hbb5.chg hc6 fun e=>hc.ab e.symm
  have hrwg:∀k,rw_.blk=some k→w3.drew.heap.size≤k:=fun k hk=>(hrw.lt k hk).1
  have hsz3:w3.drew.heap.size=w3.heap.size:=rfl
  have hbal:=hba3.lt
  have hbbl:=hbb3.lt
  have hrw6:=(hrw.chg hc5 fun k hk e=>by have:=hrwg k hk;omega).chg hc6 fun k hk e=>by have:=hrwg k hk;omega
  have hc56:Chg (fun k=>k=ba∨k=bb) w3 w6:=((Chg.of_ext (S:=fun k=>k=ba∨k=bb) hBd4).trans (hc5.mono fun i _ hi=>.inr hi) fun i _ hi=>hi).trans (hc6.mono fun i _ hi=>.inl hi) fun i _ hi=>hi
  have keep:∀{k tt:Nat} {cs:List Value},tt≠qaa→Blk w3 k tt cs→Blk w6 k tt cs:=fun {k tt cs} hne hb=>hb.chg hc56 fun e=>by
   rcases e with e | e
   ·subst e;exact hb.ne_t hba3 hne rfl
   ·subst e;exact hb.ne_t hbb3 hne rfl
  have hn6:=keep (by decide) hn3
  have hf6:=keep (by decide) hf3
  have hst6:=keep (by decide) hst3
  have hm6:=keep (by decide) hm3
  have hp6:=keep (by decide) hp3
  have hrow6:=hrow3.chg hc56 fun k hk e=>by
   rcases e with e | e
   ·exact qai hrow3 hba3 (by decide) k hk e
   ·exact qai hrow3 hbb3 (by decide) k hk e
  have hB06:Below w0.heap.size w0 w6:=(hB03).trans (hc56.below (by have:=hB03.size;omega) fun i hi e=>by have:=hc.al;have:=hc.bl;omega)
  have hBd6:=bdw w6
  have hB06d:=bT hB06 hBd6
  have hF6:=hF.ext hB06d
  refine qbt (x:=some ⟨g,0,none⟩) (qau (hf6.ext hBd6)) ?_
  simp only [onPtr_some]
  refine lI (x:=F.h.Depth) (by rw [add_zero];exact hF6.blk.cells 2 _ rfl) (lI (x:=((qac F.h.Color:Nat):Int)) (qau (hn6.ext hBd6)) ?_)
  have hnw:qac F.h.Color*r.2.2≤4*16384:=Nat.mul_le_mul hsm.2 hw2
  have e2:IntKind.i64.wrap (((qac F.h.Color:Nat):Int)*(r.2.2:Int))=((qac F.h.Color*r.2.2:Nat):Int):=by
   rw [show ((qac F.h.Color:Nat):Int)*(r.2.2:Int)=((qac F.h.Color*r.2.2:Nat):Int) by simp,w64i (by omega)]
  rw [e2]
  have hdn:F.h.Depth=((F.h.Depth.toNat:Nat):Int):=by have:=hco.d;omega
  have hrw6d:=hrw6.ext hBd6
  have hsam:=q85 (w:=w6.drew) (d:=F.h.Depth.toNat) (n:=qac F.h.Color*r.2.2) hrw6d.rd (by have:=hco.d;omega) (by rw [hrll];exact hbits) (by omega)
   (K:=fun t62 t62_1 w7=>loopP (σ:=Int×Unit) (fun I2 s_1 w8 =>
     cond (decide (s_1.1<(r.2.2:Int)))
      (
      ldP (⟨bf,0,none⟩:Addr) w8.drew fun t70 =>
      ldI .i64 (⟨bn,0,none⟩:Addr) w8.drew fun t72 =>
      ldI .i64 (⟨bn,0,none⟩:Addr) w8.drew fun t75 =>
      ldI .i64 (⟨bn,0,none⟩:Addr) w8.drew fun t78 =>
      slK t62 (some (IntKind.i64.wrap (t72*s_1.1))) (some (IntKind.i64.wrap ((IntKind.i64.wrap (t75*s_1.1))+t78))) 1 fun t80 =>
       (
        qd3 t70 t80 w8.drew fun t81 t81_1 w9 =>
        nw qaj [(.int .u8 0),(.int .u8 0),(.int .u8 0),(.int .u8 0)] w9 fun c w10 =>
        World.cell? w10 (⟨bn,0,none⟩:Addr)=some (.int .i64 t78) ∧
        World.cell? w10 (⟨bn,0,none⟩:Addr)=some (.int .i64 t75) ∧
        World.cell? w10 (⟨bn,0,none⟩:Addr)=some (.int .i64 t72) ∧
        World.cell? w10 (⟨bf,0,none⟩:Addr)=some (.pointer t70) ∧
        stK c (T_pixel_Color.rep.cells t81) w10 fun w11 =>
        cond (!t81_1)
         (J false w11)
         (
         ldSl ((⟨bm,0,none⟩:Addr).add 2) w11.drew fun t87 =>
         ldI .i64 ((⟨w1.heap.size,0,none⟩:Addr).add 1) w11.drew fun t89 =>
         ldI .i64 ((⟨w1.heap.size,0,none⟩:Addr).add 3) w11.drew fun t92 =>
         ldP (⟨bf,0,none⟩:Addr) w11.drew fun t95 =>
         onPtr t95 fun t96 =>
         ldI .i64 ((t96.add 0).add 0) w11.drew fun t99 =>
         ldI .i64 ((⟨w1.heap.size,0,none⟩:Addr).add 0) w11.drew fun t102 =>
         ldI .i64 ((⟨w1.heap.size,0,none⟩:Addr).add 2) w11.drew fun t106 =>
         slK t87 (some (IntKind.i64.wrap ((4:Int)*(IntKind.i64.wrap ((IntKind.i64.wrap ((IntKind.i64.wrap ((IntKind.i64.wrap (t89+(IntKind.i64.wrap ((r.2.1:Int)*t92))))*t99))+t102))+(IntKind.i64.wrap (s_1.1*t106))))))) none 1 fun t110 =>
         slA c 4 none none 1 fun t111 =>
         runK1 PG (Builtin.copy_ #[qaa,qaa] qbf #[(.slice t110.a t110.n t110.c),(.slice t111.a t111.n t111.c)]) (Kind.int .i64) w11.drew fun (t112:Int) w12 =>
         I2 ((IntKind.i64.wrap (s_1.1+(1:Int))),()) w12)) ∧
      nw qaj [(.int .u8 0),(.int .u8 0),(.int .u8 0),(.int .u8 0)] w8.drew fun c_1 w13 =>
      World.cell? w13 (⟨bn,0,none⟩:Addr)=some (.int .i64 t78) ∧
      World.cell? w13 (⟨bn,0,none⟩:Addr)=some (.int .i64 t75) ∧
      World.cell? w13 (⟨bn,0,none⟩:Addr)=some (.int .i64 t72) ∧
      World.cell? w13 (⟨bf,0,none⟩:Addr)=some (.pointer t70) ∧
      qd3 t70 t80 w13 fun t81_2 t81_3 w14 =>
      stK c_1 (T_pixel_Color.rep.cells t81_2) w14 fun w15 =>
      cond (!t81_3)
       (J false w15)
       (
        ldSl ((⟨bm,0,none⟩:Addr).add 2) w15.drew fun t87_1 =>
        ldI .i64 ((⟨w1.heap.size,0,none⟩:Addr).add 1) w15.drew fun t89_1 =>
        ldI .i64 ((⟨w1.heap.size,0,none⟩:Addr).add 3) w15.drew fun t92_1 =>
        ldP (⟨bf,0,none⟩:Addr) w15.drew fun t95_1 =>
        onPtr t95_1 fun t96_1 =>
        ldI .i64 ((t96_1.add 0).add 0) w15.drew fun t99_1 =>
        ldI .i64 ((⟨w1.heap.size,0,none⟩:Addr).add 0) w15.drew fun t102_1 =>
        ldI .i64 ((⟨w1.heap.size,0,none⟩:Addr).add 2) w15.drew fun t106_1 =>
        slK t87_1 (some (IntKind.i64.wrap ((4:Int)*(IntKind.i64.wrap ((IntKind.i64.wrap ((IntKind.i64.wrap ((IntKind.i64.wrap (t89_1+(IntKind.i64.wrap ((r.2.1:Int)*t92_1))))*t99_1))+t102_1))+(IntKind.i64.wrap (s_1.1*t106_1))))))) none 1 fun t110_1 =>
        slA c_1 4 none none 1 fun t111_1 =>
        runK1 PG (Builtin.copy_ #[qaa,qaa] qbf #[(.slice t110_1.a t110_1.n t110_1.c),(.slice t111_1.a t111_1.n t111_1.c)]) (Kind.int .i64) w15.drew fun (t112_1:Int) w16 =>
        I2 ((IntKind.i64.wrap (s_1.1+(1:Int))),()) w16))
      (J true w8)) (0,()) w7)
  rw [←hdn] at hsam
  refine hsam fun sp w7 hsp hB7=>?_
  clear hsam
  obtain ⟨ss,hss⟩:∃ss,ss=qb2 rl F.h.Depth.toNat (qac F.h.Color*r.2.2):=⟨_,rfl⟩
  rw [←hss] at hsp hstepE
  have hssl:ss.length=qac F.h.Color*r.2.2:=by rw [hss,qq5]
  have hssv:∀v∈ss,v<2^F.h.Depth.toNat:=by rw [hss];exact q0y
  have hB67:=bT hBd6 hB7
  have hs67:=hB67.size
  have hrow7:=hrow6.ext hB67
  have hWn:=hh.wn
  have hrooms:∀x,x<r.2.2→pixAt W r.1 r.2.1 x+4≤4*W*H:=fun x hx=>(qj1 (by rw [hra.w] at hx;exact hx) hra.y).1
  have hWH:4*W*H≤4*16384*16384:=Nat.mul_le_mul (Nat.mul_le_mul_left 4 hW2) hH2
  refine lpR (fun (st:Int×Unit) w8=>∃(x:Nat) (m:List UInt8),st.1=x∧x≤r.2.2∧qd8 F r.1 r.2.1 ss x S.m=some m∧m.length=4*W*H∧Go.Vc.Own qab w8 w0.heap.size tm m∧Chg (fun k=>k=gm) w7 w8) (fun st=>r.2.2-st.1.toNat)
   ⟨0,S.m,rfl,by omega,rfl,hml,hrow7,Chg.refl _ _⟩ ?_
  rintro ⟨x,u⟩ w8 ⟨x,m,rfl,hx,hput,hmlen,hrow8,hc8⟩ I hIl
  dsimp only
  have hgm6:gm<w6.heap.size:=(hrow6.lt gm (by unfold Slc.blk;rw [hc.tm];rfl)).2
  have keep8:∀{k tt:Nat} {cs:List Value},tt≠qag→Blk w6 k tt cs→Blk w8 k tt cs:=fun {k tt cs} hne hb=>(hb.ext hB67).chg hc8 fun e=>by
   subst e
   obtain ⟨cs',hcs'⟩:=hrow7.blk_t (g:=k) (by unfold Slc.blk;rw [hc.tm];rfl)
   exact (hb.ext hB67).ne_t hcs' hne rfl
  have hn8:=keep8 (by decide) hn6
  have hf8:=keep8 (by decide) hf6
  have hm8:=keep8 (by decide) hm6
  have hp8:=keep8 (by decide) hp6
  have hB08:Below w0.heap.size w0 w8:=b1o (bT hB06 hB67) hc8 hc.gl
  have hC38:Chg (fun k=>k=ba∨k=bb∨k=gm) w1 w8:=by
   refine (((hc3.mono fun i _ hi=>(.inl hi:i=ba∨i=bb∨i=gm)).trans (hc56.mono fun i _ hi=>(by rcases hi with h | h;exact .inl h;exact .inr (.inl h):i=ba∨i=bb∨i=gm)) fun i _ hi=>hi).trans (Chg.of_ext (S:=fun k=>k=ba∨k=bb∨k=gm) hB67) fun i _ hi=>hi).trans (hc8.mono fun i _ hi=>.inr (.inr hi)) fun i _ hi=>hi
  refine cO (fun hlt=>?_) fun hge=>?_
  ·have hlt:=of_decide_eq_true hlt
   have hxl:x<r.2.2:=by omega
   have hBd8:=bdw w8
   have hcx:qac F.h.Color*x+qac F.h.Color≤qac F.h.Color*r.2.2:=by
    have:=Nat.mul_le_mul_left (qac F.h.Color) (show x+1≤r.2.2 from hxl)
    rw [Nat.mul_add,Nat.mul_one] at this
    exact this
   have ex:IntKind.i64.wrap (((qac F.h.Color:Nat):Int)*(x:Int))=((qac F.h.Color*x:Nat):Int):=by
    rw [show ((qac F.h.Color:Nat):Int)*(x:Int)=((qac F.h.Color*x:Nat):Int) by simp,w64i (by omega)]
   have ex2:IntKind.i64.wrap (((qac F.h.Color*x:Nat):Int)+((qac F.h.Color:Nat):Int))=((qac F.h.Color*x+qac F.h.Color:Nat):Int):=by
    rw [w64i (by omega)];simp
   refine qbt (x:=some ⟨g,0,none⟩) (qau (hf8.ext hBd8)) (lI (x:=((qac F.h.Color:Nat):Int)) (qau (hn8.ext hBd8)) (lI (x:=((qac F.h.Color:Nat):Int)) (qau (hn8.ext hBd8)) (lI (x:=((qac F.h.Color:Nat):Int)) (qau (hn8.ext hBd8)) ?_)))
   rw [ex,ex2]
   have hsp8:Go.Vc.Own E_int w8 w6.drew.heap.size sp (intsN ss):=hsp.chg hc8 fun k hk e=>by have:=(hsp.lt k hk).1;have h6:w6.drew.heap.size=w6.heap.size:=rfl;omega
   refine hsp8.rd.slK (l:=qac F.h.Color*x) (m:=qac F.h.Color*x+qac F.h.Color) rfl (.inr rfl) (.inr rfl) (by omega) (by rw [qet,hssl];exact hcx) fun hpt=>?_
   obtain ⟨s4,hs4⟩:∃s4,s4=(ss.drop (qac F.h.Color*x)).take (qac F.h.Color):=⟨_,rfl⟩
   have hpe4:((intsN ss).take (qac F.h.Color*x+qac F.h.Color)).drop (qac F.h.Color*x)=intsN s4:=by
    rw [hs4,List.drop_take,Nat.add_sub_cancel_left]
    unfold intsN
    rw [List.map_take,List.map_drop]
   rw [hpe4] at hpt
   have hs4l:s4.length=qac F.h.Color:=by rw [hs4,List.length_take,List.length_drop,hssl];omega
   have hs4v:∀v∈s4,v<2^F.h.Depth.toNat:=fun v hv=>hssv v (by rw [hs4] at hv;exact List.mem_of_mem_drop (List.mem_of_mem_take hv))
   have hputn:qd8 F r.1 r.2.1 ss (x+1) S.m=(qcj F s4).map (set4 m (pixAt W r.1 r.2.1 x)):=by
    rw [qd8,hput,hs4,hWn]
   have hbadp:qcj F s4=none→qdf F r S=none:=fun hcn=>by
    rw [hcn] at hputn
    rw [hstepE,q0x hputn (show x+1≤r.2.2 from hxl)]
    rfl
   have hF8:∀{w'},Below w8.heap.size w8 w'→FilA w' g b F p t d:=fun hB=>hF.ext (bT hB08 hB)
   have fin:∀(a b' c' d':UInt8) (bc:Nat) w11,qcj F s4=some [a,b',c',d']→Blk w11 bc qaj (qaf [a,b',c',d'])→Below w8.heap.size w8 w11 →
     (ldSl ((
         ⟨bm,0,none⟩:Addr).add 2) w11.drew fun t87 =>
         ldI .i64 ((⟨w1.heap.size,0,none⟩:Addr).add 1) w11.drew fun t89 =>
         ldI .i64 ((⟨w1.heap.size,0,none⟩:Addr).add 3) w11.drew fun t92 =>
         ldP (⟨bf,0,none⟩:Addr) w11.drew fun t95 =>
         onPtr t95 fun t96 =>
         ldI .i64 ((t96.add 0).add 0) w11.drew fun t99 =>
         ldI .i64 ((⟨w1.heap.size,0,none⟩:Addr).add 0) w11.drew fun t102 =>
         ldI .i64 ((⟨w1.heap.size,0,none⟩:Addr).add 2) w11.drew fun t106 =>
         slK t87 (some (IntKind.i64.wrap ((4:Int)*(IntKind.i64.wrap ((IntKind.i64.wrap ((IntKind.i64.wrap ((IntKind.i64.wrap (t89+(IntKind.i64.wrap ((r.2.1:Int)*t92))))*t99))+t102))+(IntKind.i64.wrap ((x:Int)*t106))))))) none 1 fun t110 =>
         slA (⟨bc,0,none⟩:Addr) 4 none none 1 fun t111 =>
         runK1 PG (Builtin.copy_ #[qaa,qaa] qbf #[(.slice t110.a t110.n t110.c),(.slice t111.a t111.n t111.c)]) (Kind.int .i64) w11.drew fun (t112:Int) w12 =>
         I ((IntKind.i64.wrap ((x:Int)+(1:Int))),()) w12):=by
    intro a b' c' d' bc w11 hcol hbc hB11
    have hB11d:=bT hB11 (bdw w11)
    have hm11:=hm8.ext hB11d
    have hp11:=hp8.ext hB11d
    have hF11:=hF8 hB11d
    have hrow11:=hrow8.ext hB11d
    refine lSl (x:=tm) (hm11.cells 2 _ rfl) ?_
    refine lI (x:=(r.1.y:Int)) (hp11.cells 1 _ rfl) (lI (x:=(r.1.dy:Int)) (hp11.cells 3 _ rfl) ?_)
    refine qbt (x:=some ⟨g,0,none⟩) (qau (hf8.ext hB11d)) ?_
    simp only [onPtr_some]
    refine lI (x:=(W:Int)) (by rw [add_zero,←hh.w];exact hF11.blk.cells 0 _ rfl) ?_
    refine lI (x:=(r.1.x:Int)) (hp11.cells 0 _ rfl) (lI (x:=(r.1.dx:Int)) (hp11.cells 2 _ rfl) ?_)
    have hroom:=hrooms x hxl
    obtain ⟨hr1,hr2,hr3⟩:=qj1 (W:=W) (H:=H) (p:=r.1) (y:=r.2.1) (x:=x) (by rw [←hra.w];exact hxl) hra.y
    have eidx:IntKind.i64.wrap ((4:Int)*(IntKind.i64.wrap ((IntKind.i64.wrap ((IntKind.i64.wrap ((IntKind.i64.wrap ((r.1.y:Int)+(IntKind.i64.wrap ((r.2.1:Int)*(r.1.dy:Int)))))*(W:Int)))+(r.1.x:Int)))+(IntKind.i64.wrap ((x:Int)*(r.1.dx:Int))))))=((pixAt W r.1 r.2.1 x:Nat):Int):=by
     unfold pixAt at hr1 ⊢
     have h1:r.2.1*r.1.dy≤16384:=by omega
     have h2:x*r.1.dx≤16384:=by omega
     rw [show (r.2.1:Int)*(r.1.dy:Int)=((r.2.1*r.1.dy:Nat):Int) by simp,w64i (x:=((r.2.1*r.1.dy:Nat):Int)) (by omega),show (x:Int)*(r.1.dx:Int)=((x*r.1.dx:Nat):Int) by simp,w64i (x:=((x*r.1.dx:Nat):Int)) (by omega),
      show (r.1.y:Int)+((r.2.1*r.1.dy:Nat):Int)=((r.1.y+r.2.1*r.1.dy:Nat):Int) by simp,w64i (x:=((r.1.y+r.2.1*r.1.dy:Nat):Int)) (by omega),show ((r.1.y+r.2.1*r.1.dy:Nat):Int)*(W:Int)=(((r.1.y+r.2.1*r.1.dy)*W:Nat):Int) by simp]
     generalize (r.1.y+r.2.1*r.1.dy)*W=q at hr1 ⊢
     generalize x*r.1.dx=v at hr1 h2 ⊢
     generalize 4*W*H=T at hr1 hWH
     rw [w64i (x:=((q:Nat):Int)) (by omega),w64i (x:=((q:Nat):Int)+(r.1.x:Int)) (by omega),w64i (x:=((q:Nat):Int)+(r.1.x:Int)+((v:Nat):Int)) (by omega),w64i (by omega)]
     omega
    rw [eidx]
    obtain ⟨k,hk⟩:∃k,k=pixAt W r.1 r.2.1 x:=⟨_,rfl⟩
    rw [←hk] at hroom ⊢
    obtain ⟨cur,hcur,hcl,hct,hc1,hc2,hc3',hc4⟩:=q6g (c:=0) hrow11 hc.tm
    refine hrow11.rd.slK (l:=k) (m:=m.length) rfl (.inr rfl) (.inl ⟨rfl,rfl⟩) (by omega) (by omega) fun _=>?_
    have hcut:cut tm.a k tm.c qab.k=some ⟨gm,k,none⟩:=by
     unfold cut
     rw [if_neg (by omega),hc.tm]
     show some ((⟨gm,0,none⟩:Addr).add (k*1))=_
     rw [qah,Nat.mul_one,Nat.zero_add]
    rw [hcut]
    have hrc:Rd qab w11.drew ⟨some ⟨bc,0,none⟩,4,4⟩ [a,b',c',d']:=by
     refine ⟨rfl,Nat.le_refl _,by simp [maxLen],fun _=>rfl,fun i y hy=>?_⟩
     have hbc':=(hbc.ext (bdw w11)).cells i (.int .u8 (y.toNat:Int)) (by unfold qaf;rw [List.getElem?_map,hy];rfl)
     intro j v hj
     match j,hj with
     | 0,hj =>
      cases hj
      show w11.drew.cell? (((⟨bc,0,none⟩:Addr).add (i*1)).add 0)=_
      rw [add_zero,Nat.mul_one]
      exact hbc'
     | j+1,hj=>simp [qab] at hj
    show runK1 PG (Builtin.copy_ #[qaa,qaa] qbf #[(.slice (some ⟨gm,k,none⟩) (m.length-k) (tm.c-k)),(.slice (some ((⟨bc,0,none⟩:Addr).add (0*1))) 4 4)]) (Kind.int .i64) w11.drew _
    rw [Nat.zero_mul,add_zero]
    refine copyB (x:=⟨some ⟨bc,0,none⟩,4,4⟩) (n:=4) hcur hrc (by show 4=min 4 (m.length-k);omega) (by omega) fun w12 hb12 hc12 hs12=>?_
    have hrow12:=zfc (ys:=[a,b',c',d']) (k:=k) hrow11 hc.tm hcur (by show k+4≤m.length;omega) hb12
    rw [w64i (by omega)]
    refine hIl _ _ ⟨x+1,set4 m k [a,b',c',d'],rfl,by omega,?_,?_,hrow12,?_⟩ (by simp;omega)
    ·rw [hputn,hcol,←hk];rfl
    ·unfold set4
     simp only [List.length_append,List.length_take,List.length_drop,List.length_cons,List.length_nil]
     omega
    ·exact (hc8.trans (Chg.of_ext (S:=fun k=>k=gm) hB11d) fun i _ hi=>hi).trans hc12 fun i _ hi=>hi
   refine ⟨?_,?_⟩
   ·refine q4q (hF8 hBd8) ho (hpt.ext hBd8) hs4l hs4v hpl htl (fun cx w9 hcn hB9=>?_) (fun a b' c' d' w9 hcol hB9=>?_)
    ·refine nwb fun w10 h10 hB10 hs10=>?_
     have hB810:=bT (bT hBd8 hB9) hB10
     refine ⟨qau (hn8.ext hB810),qau (hn8.ext hB810),qau (hn8.ext hB810),qau (hf8.ext hB810),?_⟩
     refine qa2 h10 rfl fun w11 h11 hc11 hs11=>?_
     refine cT rfl (hJ0 _ (hbadp hcn) ?_)
     exact hC38.trans (Chg.of_ext (S:=fun k=>k=ba∨k=bb∨k=gm) (b1o hB810 hc11 (bT hBd8 hB9).size)) fun i _ hi=>hi
    ·refine nwb fun w10 h10 hB10 hs10=>?_
     have hB810:=bT (bT hBd8 hB9) hB10
     refine ⟨qau (hn8.ext hB810),qau (hn8.ext hB810),qau (hn8.ext hB810),qau (hf8.ext hB810),?_⟩
     refine qa2 h10 rfl fun w11 h11 hc11 hs11=>?_
     exact cF rfl (fin a b' c' d' _ w11 hcol h11 (b1o hB810 hc11 (bT hBd8 hB9).size))
   ·refine nwb fun w13 h13 hB13 hs13=>?_
    have hB813:=bT hBd8 hB13
    refine ⟨qau (hn8.ext hB813),qau (hn8.ext hB813),qau (hn8.ext hB813),qau (hf8.ext hB813),?_⟩
    refine q4q (hF8 hB813) ho (hpt.ext hB813) hs4l hs4v hpl htl (fun cx w14 hcn hB14=>?_) (fun a b' c' d' w14 hcol hB14=>?_)
    ·refine qa2 (h13.ext hB14) rfl fun w15 h15 hc15 hs15=>?_
     refine cT rfl (hJ0 _ (hbadp hcn) ?_)
     exact hC38.trans (Chg.of_ext (S:=fun k=>k=ba∨k=bb∨k=gm) (b1o (bT hB813 hB14) hc15 hBd8.size)) fun i _ hi=>hi
    ·refine qa2 (h13.ext hB14) rfl fun w15 h15 hc15 hs15=>?_
     exact cF rfl (fin a b' c' d' _ w15 hcol h15 (b1o (bT hB813 hB14) hc15 hBd8.size))
  ·have hge:=of_decide_eq_false hge
   obtain rfl:x=r.2.2:=by omega
   have hba8:=keep8 (by decide) hba6
   have hbb8:=keep8 (by decide) hbb6
   have hst8:=keep8 (by decide) hst6
   rw [hput] at hstepE
   refine hJ1 ⟨bt.drop sz,rl,m⟩ w8 hstepE hmlen ⟨hn8,hf8,hst8,hm8,⟨rw_,hba8,?_,?_⟩,⟨sb2,hbb8,hsb'⟩,hrow8,hB08⟩ hC38
   ·refine ((hrw6.ext hB67).chg hc8 fun k hk e=>?_).base (by have:=hB03.size;omega)
    have:=hrwg k hk
    have h3g:gm<w3.heap.size:=(hrow3.lt gm (by unfold Slc.blk;rw [hc.tm];rfl)).2
    omega
   ·intro k hk e
    have:=hrwg k hk
    have h3g:gm<w3.heap.size:=(hrow3.lt gm (by unfold Slc.blk;rw [hc.tm];rfl)).2
    omega
 refine cO (fun e=>?_) fun e=>?_
 ·have e0:r.2.1=0:=by have:=eq_of_beq e;omega
  refine qa2 (hba.ext hBd) rfl fun w3 h3 hc3 hs3=>?_
  have hsz2:w2.drew.heap.size=w2.heap.size:=rfl
  refine main ⟨none,0,0⟩ w3 h3 ?_ ((Chg.of_ext (S:=fun k=>k=ba) hBd).trans hc3 fun i _ hi=>hi) ((hp2.ext (bdw w2)).chg hc3 (by have:=hba.lt;omega))
  unfold qbn
  rw [if_pos e0]
  exact Own.nil _ _ _
 ·have e0:r.2.1≠0:=fun h=>by rw [h] at e;cases e
  refine main sa w2.drew (hba.ext hBd) ?_ (Chg.of_ext hBd) (hp2.ext (bdw w2))
  unfold qbn
  rw [if_neg e0]
  exact hsa.ext hBd
end
end Go.Proofs.YtmagnpcgpinmcaaGreat
namespace Go.Proofs.YtmagnpcgpinmcaaGreat
open Go.Vc Go.RowKit
set_option maxRecDepth 400000
structure RRd (w:World) (g:Nat) (s:Slc) (bs:List UInt8) (at_:Nat):Prop where
 blk:Blk w g qyr [.slice s.a s.n s.c,.int .i64 (at_:Int)]
 rd:Rd qab w s bs
 ne:∀k,s.blk=some k→k≠g
 le:at_≤8*bs.length
 sm:bs.length≤1000000000
section
variable {w w':World} {g:Nat} {s:Slc} {bs:List UInt8} {at_:Nat}
theorem RRd.ext (h:RRd w g s bs at_) (hb:Below w.heap.size w w'):RRd w' g s bs at_:=⟨h.blk.ext hb,h.rd.ext hb,h.ne,h.le,h.sm⟩
theorem RRd.drew (h:RRd w g s bs at_):RRd w.drew g s bs at_:=h.ext ((Below.refl _ w).drew)
theorem RRd.chg {S:Nat→Prop} (h:RRd w g s bs at_) (hc:Chg S w w') (h1:¬S g) (h2:∀k,s.blk=some k→¬S k):RRd w' g s bs at_ :=
 ⟨h.blk.chg hc h1,h.rd.chg hc fun a ha=>h2 _ (slk.2 ⟨a,ha,rfl⟩),h.ne,h.le,h.sm⟩
theorem RRd.set_ {n:Nat} {K:World→Prop} (h:RRd w g s bs at_) (hn:n≤8*bs.length) (hK:∀w',RRd w' g s bs n→Chg (fun k=>k=g) w w'→K w'):stK ((⟨g,0,none⟩:Addr).add 1) [.int .i64 (n:Int)] w K:=by
 rw [qah]
 refine qae h.blk (by simp) fun w1 hb1 hg1 hs1=>hK w1 ⟨hb1,?_,h.ne,hn,h.sm⟩ (Chg.gg hg1)
 exact h.rd.chg (Chg.gg hg1) fun a ha e=>h.ne _ (slk.2 ⟨a,ha,rfl⟩) e
theorem zfe {K:Int→World→Prop} (h:RRd w g s bs at_) (hK:K ((8*bs.length-at_:Nat):Int) w.drew):qj5 (some ⟨g,0,none⟩) w K:=by
 refine qvw _ ?_
 unfold qja
 simp only [onPtr_some]
 have hd:=h.drew
 have hle:=h.le
 have hsm:=h.sm
 refine lSl (x:=s) (hd.blk.cells 0 _ rfl) ?_
 refine lI (x:=(at_:Int)) (hd.blk.cells 1 _ rfl) ?_
 rw [h.rd.n,w64i (x:=8*((bs.length:Nat):Int)) (by omega),w64i (by omega)]
 rw [show (8:Int)*((bs.length:Nat):Int)-(at_:Int)=((8*bs.length-at_:Nat):Int) by omega]
 exact hK
theorem zjg {a:Nat} {K:Int→World→Prop} (h:RRd w g s bs at_) (ha:a<8*bs.length) (hK:K ((peekN bs a 1:Nat):Int) w):qlp (some ⟨g,0,none⟩) (a:Int) w K:=by
 refine qw5 _ _ ?_
 unfold qkq
 simp only [onPtr_some]
 have hsm:=h.sm
 have hi:a/8<bs.length:=by omega
 refine lSl (x:=s) (h.blk.cells 0 _ rfl) ⟨by decide,?_⟩
 have e1:IntKind.i64.wrap ((a:Int).tdiv (8:Int))=((a/8:Nat):Int):=by
  rw [show (8:Int)=((8:Nat):Int) from rfl,←Int.ofNat_tdiv,w64i (by omega)]
 have e2:(a:Int).tmod (8:Int)=((a%8:Nat):Int):=by rw [show (8:Int)=((8:Nat):Int) from rfl,←Int.ofNat_tmod]
 rw [e1,e2]
 obtain ⟨x,hx,hxs⟩:=qa0 (xs:=bs) (k:=a/8) hi
 refine h.rd.ix (i:=((a/8:Nat):Int)) rfl (by omega) (by omega) fun hc=>?_
 rw [hxs] at hc
 refine ldB8 (b:=x) hc ⟨by decide,?_⟩
 rw [qad .u64 (x:=a%8) (by show _<2^64;omega)]
 refine ⟨by omega,?_⟩
 have hx8:=x.toNat_lt
 have em:min (((a%8:Nat):Int)).toNat IntKind.u8.bits=a%8:=by show min (a%8) 8=a%8;omega
 have hd:x.toNat/2^(a%8)<2^32:=Nat.lt_of_le_of_lt (Nat.div_le_self _ _) (by omega)
 rw [em,qbl,qad .u32 (x:=x.toNat/2^(a%8)) hd,show (1:Int)=((1:Nat):Int) from rfl,qdn .u32 hd (by decide),qy1]
 have e:peekN bs a 1=x.toNat/2^(a%8)%2:=by
  rw [qrw bs a 1 1 (by omega) (by omega)]
  have et:(bs.drop (a/8)).take 1=[x]:=by
   rw [List.drop_eq_getElem_cons hi]
   have:bs[a/8]=x:=(List.getElem_eq_iff hi).2 hx
   rw [this];rfl
  rw [et]
  show (x.toNat+256*0)/_%2^1=_
  rw [Nat.mul_zero,Nat.add_zero,Nat.pow_one]
 rw [←e]
 exact hK
theorem zfn {n:Nat} {K:Int→Bool→World→Prop} (h:RRd w g s bs at_) (hn:n≤32) (hK1:at_+n≤8*bs.length→K ((peekN bs at_ n:Nat):Int) true w.drew) (hK2:8*bs.length<at_+n→K 0 false w.drew):qki (some ⟨g,0,none⟩) (n:Int) w K:=by
 refine qvk _ _ ?_
 unfold qi7
 refine jpO fun J hJ=>?_
 refine cF (decide_eq_false (by omega)) (cF (decide_eq_false (by omega)) ?_)
 have hle:=h.le
 have hsm:=h.sm
 refine zfe h ?_
 refine cO (fun hlt=>?_) (fun hge=>hJ _ _ ?_)
 ·have hlt:=of_decide_eq_true hlt
  exact hK2 (by omega)
 have hge:=of_decide_eq_false hge
 have hfit:at_+n≤8*bs.length:=by omega
 have hd:=h.drew
 clear hJ
 refine lpR (fun (t:Int×Int×Unit) w2=>∃i:Nat,t.2.1=i∧i≤n∧t.1=((peekN bs at_ i:Nat):Int)∧w2=w.drew) (fun t=>n-t.2.1.toNat) ⟨0,rfl,by omega,by simp [peekN,Nat.mod_one],rfl⟩ ?_
 rintro ⟨v,i,_⟩ w2 ⟨i,rfl,hi,rfl,rfl⟩ I hI
 dsimp only at *
 refine cO (fun hlt=>?_) (fun hge=>?_)
 ·have hlt:=of_decide_eq_true hlt
  simp only [onPtr_some]
  refine lI (x:=(at_:Int)) (hd.blk.cells 1 _ rfl) ?_
  rw [w64i (x:=(at_:Int)+(i:Int)) (by omega),show (at_:Int)+(i:Int)=((at_+i:Nat):Int) from rfl]
  refine zjg hd (by omega) ?_
  rw [qad .u64 (x:=i) (by show _<2^64;omega)]
  refine ⟨by omega,?_⟩
  have em:min ((i:Int)).toNat IntKind.u32.bits=i:=by show min i 32=i;omega
  have hb:=qav bs (at_+i) 1
  have hp:=qav bs at_ i
  have hpi:2^i*2≤2^32:=by rw [←Nat.pow_succ];exact Nat.pow_le_pow_right (by decide) (by omega)
  have hmul:peekN bs (at_+i) 1*2^i≤2^i:=by
   have h1:peekN bs (at_+i) 1≤1:=by omega
   have:=Nat.mul_le_mul_right (2^i) h1
   rwa [Nat.one_mul] at this
  rw [em,qa4,qad .u32 (x:=peekN bs (at_+i) 1*2^i) (by show _<2^32;omega),qcx .u32 (by show _<2^32;omega) (by show _<2^32;omega),Nat.mul_comm,qe6 hp,←qkv]
  refine hI _ _ ⟨i+1,by dsimp only;rw [w64i (by omega)];rfl,by omega,rfl,rfl⟩ (by dsimp only;rw [w64i (by omega)];omega)
 ·have hge:=of_decide_eq_false hge
  have:i=n:=by omega
  subst this
  exact hK1 hfit
theorem q23 {n:Nat} {K:Int→Bool→World→Prop} (h:RRd w g s bs at_) (hn:n≤32) (hK1:at_+n≤8*bs.length→∀w',RRd w' g s bs (at_+n)→Chg (fun k=>k=g) w w'→K ((peekN bs at_ n:Nat):Int) true w') (hK2:8*bs.length<at_+n→K 0 false w.drew):qa6 (some ⟨g,0,none⟩) (n:Int) w K:=by
 refine qwb _ _ ?_
 unfold qjh
 have hle:=h.le
 have hsm:=h.sm
 refine zfn h hn (fun hfit=>?_) (fun hs=>?_)
 ·refine jpO fun J hJ=>cT rfl ?_
  simp only [onPtr_some]
  refine lI (x:=(at_:Int)) (h.drew.blk.cells 1 _ rfl) ?_
  rw [w64i (x:=(at_:Int)+(n:Int)) (by omega),show (at_:Int)+(n:Int)=((at_+n:Nat):Int) from rfl]
  refine h.drew.set_ hfit fun w1 h1 hc=>hJ _ _ (hK1 hfit w1 h1 ?_)
  exact (Chg.of_ext (S:=fun k=>k=g) ((Below.refl _ w).drew)).trans hc fun i _ hi=>hi
 ·refine jpO fun J hJ=>cF rfl (hJ _ _ (hK2 hs))
theorem zb8 {K:Int→World→Prop} (h:RRd w g s bs at_) (hK:∀v w',RRd w' g s bs (up8 at_)→Chg (fun k=>k=g) w w'→K v w'):qjk (some ⟨g,0,none⟩) w K:=by
 refine quk _ ?_
 unfold qic
 simp only [onPtr_some]
 have hle:=h.le
 have hsm:=h.sm
 refine qb7 (fun m (t:Int×Unit) w1=>∃i:Nat,m=up8 at_-i∧at_≤i∧i≤up8 at_∧RRd w1 g s bs i∧Chg (fun k=>k=g) w w1) (up8 at_-at_) ⟨at_,rfl,Nat.le_refl _,by unfold up8;omega,h,Chg.refl _ _⟩ ?_
 rintro m ⟨v,_⟩ w1 ⟨i,rfl,hi1,hi2,h1,hc1⟩ I hI
 dsimp only
 refine lI (x:=(i:Int)) (h1.blk.cells 1 _ rfl) ⟨by decide,?_⟩
 have e2:(i:Int).tmod (8:Int)=((i%8:Nat):Int):=by rw [show (8:Int)=((8:Nat):Int) from rfl,←Int.ofNat_tmod]
 rw [e2]
 have hle1:=h1.le
 by_cases h8:i%8=0
 ·refine cF (by rw [h8];rfl) ?_
  have:i=up8 at_:=by unfold up8 at *;omega
  subst this
  exact hK v w1 h1 hc1
 ·refine cT (by
           have:((i%8:Nat):Int)≠0:=by omega
           simpa using this) ?_
  refine lI (x:=(i:Int)) (h1.blk.cells 1 _ rfl) ?_
  rw [w64i (x:=(i:Int)+1) (by omega),show (i:Int)+1=((i+1:Nat):Int) from rfl]
  refine h1.set_ (n:=i+1) (by omega) fun w2 h2 hc2=>?_
  exact hI (up8 at_-(i+1)) _ w2 ⟨i+1,rfl,by omega,by unfold up8 at *;omega,h2,hc1.trans hc2 fun i _ hi=>hi⟩ (by unfold up8 at *;omega)
end
section
variable {w:World} {base tg:Nat} {lo co:Slc} {ls:List UInt8}
theorem zc9 {c n:Nat} {K:Bool→World→Prop} (h:RTab w base tg lo co ls) (hn:n≤15) (hK1:qx0 ls c n→K true w) (hK2:¬qx0 ls c n→K false w):qjg (some ⟨tg,0,none⟩) (c:Int) (n:Int) w K:=by
 refine quf _ _ _ ?_
 unfold qh1
 simp only [onPtr_some]
 have hsm:=h.sm
 refine lpR (fun (t:Int×Unit) w2=>∃i:Nat,t.1=i∧i≤ls.length∧(∀j,j<i→∀x,ls[j]?=some x→¬(n≤x.toNat∧0<x.toNat∧codeK ls x.toNat j/2^(x.toNat-n)=c))∧w2=w) (fun t=>ls.length-t.1.toNat) ⟨0,rfl,by omega,fun j hj=>absurd hj (Nat.not_lt_zero _),rfl⟩ ?_
 rintro ⟨i,_⟩ w2 ⟨i,rfl,hi,hno,rfl⟩ I hI
 dsimp only at *
 refine lSl (x:=lo) (h.blk.cells 0 _ rfl) ?_
 rw [h.lo.rd.n]
 refine cO (fun hlt=>?_) (fun hge=>?_)
 ·have hlt:=of_decide_eq_true hlt
  have hil:i<ls.length:=by omega
  obtain ⟨x,hx,hxs⟩:=qa0 (xs:=ls) (k:=i) hil
  have h15:=h.good.1 x (List.mem_of_getElem? hx)
  refine lSl (x:=lo) (h.blk.cells 0 _ rfl) ?_
  refine h.lo.rd.ix (i:=(i:Int)) rfl (by omega) (by omega) fun hc=>?_
  rw [hxs] at hc
  refine ldB8 (b:=x) hc ?_
  rw [qad .i64 (x:=x.toNat) (by show _<2^63;omega),w64i (x:=(i:Int)+1) (by omega)]
  have next:¬(n≤x.toNat∧0<x.toNat∧codeK ls x.toNat i/2^(x.toNat-n)=c)→I ((i:Int)+1,()) w2:=fun hx'=>by
   refine hI _ _ ⟨i+1,rfl,by omega,fun j hj y hy=>?_,rfl⟩ (by simp;omega)
   by_cases e:j=i
   ·subst e
    rw [hx] at hy
    obtain rfl:=Option.some.inj hy
    exact hx'
   ·exact hno j (by omega) y hy
  refine cO (fun h1=>?_) (fun h1=>next fun hh=>by have:=of_decide_eq_false h1;omega)
  have h1:=of_decide_eq_true h1
  refine cO (fun h2=>?_) (fun h2=>next fun hh=>by have:=of_decide_eq_false h2;omega)
  have h2:=of_decide_eq_true h2
  have hcv:∀h,(qct ls 16 0)[((i:Int)).toNat]'h=((codeK ls x.toNat i:Nat):Int):=fun hh=>by
   rw [List.getElem_eq_iff]
   rw [show ((i:Int)).toNat=i from rfl,qf3 hx,if_pos (by omega)]
  refine lSl (x:=co) (h.blk.cells 1 _ rfl) ?_
  refine h.co.rd.ix (i:=(i:Int)) rfl (by omega) (by rw [qd2];omega) fun hc2=>?_
  rw [hcv] at hc2
  refine lI (x:=((codeK ls x.toNat i:Nat):Int)) (by simpa using hc2 0 _ rfl) ?_
  rw [w64i (x:=(x.toNat:Int)-(n:Int)) (by omega),show (x.toNat:Int)-(n:Int)=((x.toNat-n:Nat):Int) by omega,qad .u64 (x:=x.toNat-n) (by show _<2^64;omega)]
  refine ⟨by omega,?_⟩
  have em:min (((x.toNat-n:Nat):Int)).toNat IntKind.u32.bits=x.toNat-n:=by show min (x.toNat-n) 32=_;omega
  rw [em,qbl]
  refine cO (fun he=>hK1 ⟨i,x,hx,by omega,by omega,?_⟩) (fun he=>next fun hh=>?_)
  ·have:=eq_of_beq he;omega
  ·have:=beq_eq_false_iff_ne.1 he
   exact this (by rw [hh.2.2])
 ·have hge:=of_decide_eq_false hge
  refine hK2 fun ⟨j,x,hx,h1,h2,h3⟩=>hno j ?_ x hx ⟨h1,h2,h3⟩
  have:=(List.getElem?_eq_some_iff.1 hx).1
  omega
theorem zfq {g:Nat} {s:Slc} {bs:List UInt8} {at_:Nat} {K:Int→Int→World→Prop} (h:RTab w base tg lo co ls) (hr:RRd w g s bs at_) (hgt:g≠tg) (hgl:∀k,lo.blk=some k∨co.blk=some k→k≠g)
  (hK:∀w' a' y e,RRd w' g s bs a'→Chg (fun k=>k=g) w w'→(match readT ls bs at_ with | .sym z k=>e=0∧y=((z:Nat):Int)∧a'=at_+k∧z<ls.length | .short=>e=2∧a'=at_ | .form=>e=3∧a'=at_)→K y e w'):qeb (some ⟨tg,0,none⟩) (some ⟨g,0,none⟩) w K:=by
 refine qwm _ _ ?_
 unfold qkf
 simp only [onPtr_some]
 have hle:=hr.le
 have hsm:=hr.sm
 have htsm:=h.sm
 refine lI (x:=(at_:Int)) (hr.blk.cells 1 _ rfl) ?_
 have keepT:∀{w'},Chg (fun k=>k=g) w w'→RTab w' base tg lo co ls:=fun hc=>⟨h.blk.chg hc (fun e=>hgt e.symm),h.hg,h.lo.chg hc fun k hk e=>hgl k (.inl hk) e,h.co.chg hc fun k hk e=>hgl k (.inr hk) e,h.sm,h.good⟩
 refine qb7 (fun m (t:Int×Int×Unit) w1=>∃n:Nat,m=16-n∧t.2.1=(n:Int)∧t.1=((msb bs at_ n:Nat):Int)∧ReadInv ls bs at_ n∧RRd w1 g s bs (at_+n)∧Chg (fun k=>k=g) w w1) 16 ⟨0,rfl,rfl,rfl,ReadInv.start hle,hr,Chg.refl _ _⟩ ?_
 rintro m ⟨c,n,_⟩ w1 ⟨n,rfl,rfl,rfl,inv,h1,hc1⟩ I hI
 dsimp only at *
 have hn15:=inv.n15
 refine cT (decide_eq_true (by omega)) ?_
 have ht1:=keepT hc1
 refine lpR (fun (t:Int×Unit) w2=>∃i:Nat,t.1=i∧i≤ls.length∧(∀j,j<i→¬qlh ls n (msb bs at_ n) j)∧w2=w1) (fun t=>ls.length-t.1.toNat) ⟨0,rfl,by omega,fun j hj=>absurd hj (Nat.not_lt_zero _),rfl⟩ ?_
 rintro ⟨i,_⟩ w2 ⟨i,rfl,hi,hno,rfl⟩ I2 hI2
 dsimp only at *
 refine lSl (x:=lo) (ht1.blk.cells 0 _ rfl) ?_
 rw [ht1.lo.rd.n]
 refine cO (fun hlt=>?_) (fun hge=>?_)
 ·have hlt:=of_decide_eq_true hlt
  have hil:i<ls.length:=by omega
  obtain ⟨x,hx,hxs⟩:=qa0 (xs:=ls) (k:=i) hil
  have h15:=h.good.1 x (List.mem_of_getElem? hx)
  refine jpO fun J hJ=>?_
  rw [w64i (x:=(i:Int)+1) (by omega)] at hJ
  have yes:qlh ls n (msb bs at_ n) i→J (true,()) w2:=fun hc=>hJ _ _ (cT rfl (hK w2 (at_+n) _ _ h1 hc1 (by rw [inv.found hc];exact ⟨rfl,rfl,rfl,hil⟩)))
  have no:¬qlh ls n (msb bs at_ n) i→J (false,()) w2:=fun hc=>hJ _ _ (cF rfl (hI2 _ _ ⟨i+1,rfl,by omega,fun j hj=>by
   by_cases e:j=i
   ·subst e;exact hc
   ·exact hno j (by omega),rfl⟩ (by simp;omega)))
  refine cO (fun hp=>?_) (fun hp=>no fun hc=>by have:=of_decide_eq_false hp;have:=hc.1;omega)
  have hp:=of_decide_eq_true hp
  refine lSl (x:=lo) (ht1.blk.cells 0 _ rfl) ?_
  refine ht1.lo.rd.ix (i:=(i:Int)) rfl (by omega) (by omega) fun hc=>?_
  rw [hxs] at hc
  refine ldB8 (b:=x) hc ?_
  rw [qad .i64 (x:=x.toNat) (by show _<2^63;omega)]
  refine cO (fun he=>?_) (fun he=>no fun hc=>?_)
  ·have he:x.toNat=n:=by have:=eq_of_beq he;omega
   have hcv:∀h,(qct ls 16 0)[((i:Int)).toNat]'h=((codeK ls x.toNat i:Nat):Int):=fun hh=>by
    rw [List.getElem_eq_iff]
    rw [show ((i:Int)).toNat=i from rfl,qf3 hx,if_pos (by omega)]
   refine lSl (x:=co) (ht1.blk.cells 1 _ rfl) ?_
   refine ht1.co.rd.ix (i:=(i:Int)) rfl (by omega) (by rw [qd2];omega) fun hc2=>?_
   rw [hcv] at hc2
   refine lI (x:=((codeK ls x.toNat i:Nat):Int)) (by simpa using hc2 0 _ rfl) ?_
   by_cases hcc:codeK ls n i=msb bs at_ n
   ·have:=yes ⟨by omega,x,hx,he,hcc⟩
    rw [show (((codeK ls x.toNat i:Nat):Int)==((msb bs at_ n:Nat):Int))=true from beq_iff_eq.2 (by rw [he,hcc])]
    exact this
   ·have:=no fun ⟨_,y,hy,hyk,hyc⟩=>hcc hyc
    rw [show (((codeK ls x.toNat i:Nat):Int)==((msb bs at_ n:Nat):Int))=false from beq_eq_false_iff_ne.2 (by rw [he];omega)]
    exact this
  ·have he:=beq_eq_false_iff_ne.1 he
   obtain ⟨_,y,hy,hyk,hyc⟩:=hc
   rw [hx] at hy
   obtain rfl:=Option.some.inj hy
   omega
 ·have hge:=of_decide_eq_false hge
  have hnone:∀i,¬qlh ls n (msb bs at_ n) i:=fun j hc=>by
   obtain ⟨_,y,hy,_,_⟩:=id hc
   have:=(List.getElem?_eq_some_iff.1 hy).1
   exact hno j (by omega) hc
  obtain ⟨nx1,nx2⟩:=inv.next h.good hnone
  refine zc9 ht1 hn15 (fun hb=>?_) (fun hb=>?_)
  ·obtain ⟨hn,hs,hi'⟩:=nx2 hb
   refine cF rfl ?_
   refine q23 (n:=1) h1 (by decide) (fun hfit w3 h3 hc3=>?_) (fun hsh=>?_)
   ·refine cF rfl ⟨by decide,?_⟩
    have hm:=qxv bs at_ n
    have hp:2^n≤2^15:=Nat.pow_le_pow_right (by decide) hn15
    have hb1:=qav bs (at_+n) 1
    rw [show min ((1:Int)).toNat IntKind.u32.bits=1 by decide,qa4,qad .u32 (x:=msb bs at_ n*2^1) (by show _<2^32;omega),qcx .u32 (by show _<2^32;omega) (by show _<2^32;omega),Nat.pow_one,Nat.mul_comm,za0 _ _ (by omega),w64i (by omega)]
    exact hI (16-(n+1)) _ w3 ⟨n+1,rfl,rfl,rfl,hi' (by omega),by rw [←Nat.add_assoc];exact h3,hc1.trans hc3 fun i _ hi=>hi⟩ (by omega)
   ·refine cT rfl ?_
    have hcd:=hc1.trans (Chg.of_ext (S:=fun k=>k=g) ((Below.refl _ w2).drew)) fun i _ hi=>hi
    refine h1.drew.set_ (n:=at_) hle fun w3 h3 hc3=>?_
    exact hK w3 at_ _ _ h3 (hcd.trans hc3 fun i _ hi=>hi) (by rw [hs (by omega)];exact ⟨rfl,rfl⟩)
  ·refine cT rfl ?_
   refine h1.set_ (n:=at_) hle fun w3 h3 hc3=>?_
   exact hK w3 at_ _ _ h3 (hc1.trans hc3 fun i _ hi=>hi) (by rw [nx1 hb];exact ⟨rfl,rfl⟩)
end
end Go.Proofs.YtmagnpcgpinmcaaGreat
namespace Go.Proofs.YtmagnpcgpinmcaaGreat
open Go.Vc Go.RowKit
set_option maxRecDepth 400000
structure RSt (w:World) (base g rg:Nat) (s out:Slc) (bs hist:List UInt8) (most at_:Nat):Prop where
 blk:Blk w g qr8 [.pointer (some ⟨rg,0,none⟩),.slice out.a out.n out.c,.int .i64 (most:Int)]
 rdr:RRd w rg s bs at_
 out:Own qab w base out hist
 hg:base≤g
 hr:base≤rg
 sb:∀k,s.blk=some k→k<base
 hm:hist.length≤most
 mo:most≤1073741824
def rS (g rg:Nat) (out:Slc) (k:Nat):Prop:=k=g∨k=rg∨out.blk=some k
structure RTo (w w':World) (g rg:Nat) (out out':Slc):Prop where
 chg:Chg (rS g rg out) w w'
 out:out'.blk=out.blk∨∃k,out'.blk=some k∧w.heap.size≤k
theorem RTo.refl (w:World) (g rg:Nat) (out:Slc):RTo w w g rg out out:=⟨Chg.refl _ _,.inl rfl⟩
theorem RTo.trans {w w1 w2:World} {g rg:Nat} {out out1 out2:Slc} (h:RTo w w1 g rg out out1) (h':RTo w1 w2 g rg out1 out2):RTo w w2 g rg out out2:=by
 refine ⟨h.chg.trans h'.chg fun i hi hs=>?_,?_⟩
 ·rcases hs with e | e | e
  ·exact .inl e
  ·exact .inr (.inl e)
  ·rcases h.out with e' | ⟨k,e',hk⟩
   ·exact .inr (.inr (by rw [←e',e]))
   ·rw [e'] at e;cases e;omega
 ·have:=h.chg.size
  rcases h'.out with e | ⟨k,e,hk⟩
  ·rcases h.out with e' | ⟨j,e',hj⟩
   ·exact .inl (e.trans e')
   ·exact .inr ⟨j,e.trans e',hj⟩
  ·exact .inr ⟨k,e,by omega⟩
section
variable {w w':World} {base g rg:Nat} {s out:Slc} {bs hist:List UInt8} {most at_:Nat}
theorem RSt.grg (h:RSt w base g rg s out bs hist most at_):g≠rg:=h.blk.ne_t h.rdr.blk (by decide)
theorem RSt.below (h:RSt w base g rg s out bs hist most at_):∀k,rS g rg out k→base≤k:=by
 rintro k (rfl | rfl | e)
 ·exact h.hg
 ·exact h.hr
 ·exact (h.out.lt k e).1
theorem RTo.below {out':Slc} (t:RTo w w' g rg out out') (h:RSt w base g rg s out bs hist most at_) (hb:base≤w.heap.size):Below base w w':=t.chg.below hb fun i hi hs=>by have:=h.below i hs;omega
theorem RSt.ext (h:RSt w base g rg s out bs hist most at_) (hb:Below w.heap.size w w'):RSt w' base g rg s out bs hist most at_:=⟨h.blk.ext hb,h.rdr.ext hb,h.out.ext hb,h.hg,h.hr,h.sb,h.hm,h.mo⟩
theorem RSt.drew (h:RSt w base g rg s out bs hist most at_):RSt w.drew base g rg s out bs hist most at_:=h.ext ((Below.refl _ w).drew)
theorem RTo.drew (w:World) (g rg:Nat) (out:Slc):RTo w w.drew g rg out out:=⟨Chg.of_ext ((Below.refl _ w).drew),.inl rfl⟩
theorem RSt.read {a:Nat} (h:RSt w base g rg s out bs hist most at_) (hr:RRd w' rg s bs a) (hc:Chg (fun k=>k=rg) w w'):RSt w' base g rg s out bs hist most a∧RTo w w' g rg out out :=
 ⟨⟨h.blk.chg hc fun e=>h.grg e,hr,h.out.chg hc fun k hk e=>qai h.out h.rdr.blk (by decide) k hk e,h.hg,h.hr,h.sb,h.hm,h.mo⟩,⟨hc.mono fun i _ hi=>.inr (.inl hi),.inl rfl⟩⟩
theorem qc2 {n:Nat} {K:Int→Bool→World→Prop} (h:RSt w base g rg s out bs hist most at_) (hn:n≤32) (hK1:at_+n≤8*bs.length→∀w',RSt w' base g rg s out bs hist most (at_+n)→RTo w w' g rg out out→K ((peekN bs at_ n:Nat):Int) true w')
  (hK2:8*bs.length<at_+n→∀w',RSt w' base g rg s out bs hist most at_→RTo w w' g rg out out→K 0 false w'):qa6 (some ⟨rg,0,none⟩) (n:Int) w K :=
 q23 h.rdr hn (fun hf w1 h1 hc=>(hK1 hf w1 (h.read h1 hc).1 (h.read h1 hc).2)) fun hs=>hK2 hs _ h.drew (RTo.drew w g rg out)
theorem RSt.put {b:UInt8} {v:Int} {K:World→Prop} (h:RSt w base g rg s out bs hist most at_) (hb:base≤w.heap.size) (hv:v=(b.toNat:Int)) (hlt:hist.length<most)
  (hK:∀out' w',RSt w' base g rg s out' bs (hist++[b]) most at_→RTo w w' g rg out out'→K w') :
  nw qag [(.int .u8 v)] w fun t71 w6=>apK PG #[qaa,qaa] qaa out (⟨(some t71),1,1⟩:Slc) w6 fun t72 w7=>stK ((⟨g,0,none⟩:Addr).add 1) [(.slice t72.a t72.n t72.c)] w7 fun w8=>K w8:=by
 have hmo:=h.mo
 refine apB1 (c:=b) hv h.out hb (by omega) fun r w2 ho2 hc2 hq=>?_
 have hb2:=h.blk.chg hc2 fun e=>qai h.out h.blk (by decide) g e rfl
 have hr2:=h.rdr.chg hc2 (fun e=>qai h.out h.rdr.blk (by decide) rg e rfl) fun k hk e=>by have:=h.sb k hk;have:=(h.out.lt k e).1;omega
 rw [qah]
 refine qae hb2 (by simp) fun w3 hb3 hg3 hs3=>?_
 have hb3:Blk w3 g qr8 [.pointer (some ⟨rg,0,none⟩),.slice r.a r.n r.c,.int .i64 (most:Int)]:=hb3
 have hc3:=Chg.gg hg3
 have hgh:=h.hg
 refine hK r w3 ⟨hb3,hr2.chg hc3 (fun e=>h.grg e.symm) fun k hk e=>by have:=h.sb k hk;omega,ho2.chg hc3 (qai ho2 hb2 (by decide)),h.hg,h.hr,h.sb,by rw [List.length_append,List.length_singleton];omega,h.mo⟩ ⟨(hc2.mono fun i _ hi=>.inr (.inr hi)).trans hc3 fun i _ hi=>.inl hi,hq⟩
end
def RRes (most:Nat) (bs:List UInt8) (c:Cfg) (a m':Nat) (e:Int) (a':Nat) (hist':List UInt8):Prop :=
 (e=0∧∃c',Ch most bs c a c' a'∧c'.mode=m'∧c'.hist=hist') ∨
 (∃c' a'' n,Ch most bs c a c' a''∧(step1 most bs a'' c'=.short∧c'.mode≠5∧n=2∨step1 most bs a'' c'=.err n∧n≠0)∧e=((n:Nat):Int)∧c'.hist <+: hist')
theorem RRes.of_ch {most:Nat} {bs:List UInt8} {c c1:Cfg} {a a1 m':Nat} {e:Int} {a':Nat} {hist':List UInt8} (h:Ch most bs c a c1 a1) (r:RRes most bs c1 a1 m' e a' hist'):RRes most bs c a m' e a' hist':=by
 rcases r with ⟨e0,c',h1,h2,h3⟩ | ⟨c',a'',n,h1,h2⟩
 ·exact .inl ⟨e0,c',h.trans h1,h2,h3⟩
 ·exact .inr ⟨c',a'',n,h.trans h1,h2⟩
theorem RRes.short {most:Nat} {bs:List UInt8} {c:Cfg} {a m':Nat} {a':Nat} {hist':List UInt8} (h:step1 most bs a c=.short) (h5:c.mode≠5) (hp:c.hist <+: hist'):RRes most bs c a m' 2 a' hist':=.inr ⟨c,a,2,.refl _ _,.inl ⟨h,h5,rfl⟩,rfl,hp⟩
theorem RRes.err {most:Nat} {bs:List UInt8} {c:Cfg} {a m':Nat} {a' n:Nat} {e:Int} {hist':List UInt8} (h:step1 most bs a c=.err n) (hn:n≠0) (he:e=(n:Int)) (hp:c.hist <+: hist'):RRes most bs c a m' e a' hist':=.inr ⟨c,a,n,.refl _ _,.inr ⟨h,hn⟩,he,hp⟩
theorem RRes.done {most:Nat} {bs:List UInt8} {c c':Cfg} {a a':Nat} (h:step1 most bs a c=.next c' a'):RRes most bs c a c'.mode 0 a' c'.hist:=.inl ⟨rfl,c',.one h,rfl,rfl⟩
section
variable {w:World} {base g rg:Nat} {s out:Slc} {bs:List UInt8} {most at_:Nat}
theorem zbw {c:Cfg} {K:Int→World→Prop} (h:RSt w base g rg s out bs c.hist most at_) (hm:c.mode=1) (hbase:base≤w.heap.size)
  (hK:∀e out' hist' a' w',RSt w' base g rg s out' bs hist' most a'→RTo w w' g rg out out'→RRes most bs c at_ (if c.last then 5 else 0) e a' hist'→K e w'):qjr (some ⟨g,0,none⟩) w K:=by
 refine quy _ ?_
 unfold qhy
 simp only [onPtr_some]
 have hsm:=h.rdr.sm
 have st1:step1 most bs at_ c=qcg bs at_ c:=by rw [step1,if_neg (by omega),stepN,if_neg (by omega),if_pos hm]
 have hpre:c.hist <+: c.hist:=List.prefix_refl _
 refine qbt (x:=some ⟨rg,0,none⟩) (h.blk.cells 0 _ rfl) ?_
 refine zb8 h.rdr fun _ w1 h1 hc1=>?_
 obtain ⟨h1,t1⟩:=h.read h1 hc1
 refine qbt (x:=some ⟨rg,0,none⟩) (h1.blk.cells 0 _ rfl) ?_
 refine qc2 (n:=16) h1 (by decide) (fun hf1 w2 h2 t2=>?_) (fun hs1 w2 h2 t2=>?_)
 rotate_left
 ·refine cT rfl (hK _ _ _ _ _ h2 (t1.trans t2) (RRes.short ?_ (by omega) hpre))
  rw [st1,qcg,if_pos (by omega)]
 refine cF rfl ?_
 refine qbt (x:=some ⟨rg,0,none⟩) (h2.blk.cells 0 _ rfl) ?_
 refine qc2 (n:=16) h2 (by decide) (fun hf2 w3 h3 t3=>?_) (fun hs2 w3 h3 t3=>?_)
 rotate_left
 ·refine cT rfl (hK _ _ _ _ _ h3 ((t1.trans t2).trans t3) (RRes.short ?_ (by omega) hpre))
  rw [st1,qcg,if_pos (by omega)]
 refine cF rfl ?_
 have b1:=qav bs (up8 at_) 16
 have b2:=qav bs (up8 at_+16) 16
 have t03:=(t1.trans t2).trans t3
 rw [qf0 .u32 (by show _<2^32;omega) (by show _<2^32;omega)]
 by_cases hx:peekN bs (up8 at_) 16 ^^^ peekN bs (up8 at_+16) 16=65535
 rotate_left
 ·refine cT (by
           have:((peekN bs (up8 at_) 16 ^^^ peekN bs (up8 at_+16) 16:Nat):Int)≠65535:=by omega
           simpa using this) (hK _ _ _ _ _ h3 t03 (RRes.err (n:=3) ?_ (by decide) rfl hpre))
  rw [st1,qcg,if_neg (by omega),if_pos hx]
 refine cF (by rw [hx];rfl) ?_
 obtain ⟨n,hn⟩:∃n,n=peekN bs (up8 at_) 16:=⟨_,rfl⟩
 rw [←hn,qad .i64 (x:=n) (by show _<2^63;omega)]
 obtain ⟨c2,hc2⟩:∃c2:Cfg,c2={ c with mode:=2,left:=n }:=⟨_,rfl⟩
 have hst:step1 most bs at_ c=.next c2 (up8 at_+32):=by
  rw [st1,qcg,if_neg (by omega),if_neg (by omega),←hn,hc2]
 have ebase:∀{w4 out4},RTo w w4 g rg out out4→base≤w4.heap.size:=fun t=>Nat.le_trans hbase t.chg.size
 refine lpR (fun (t:Int×Unit) w4=>∃(i:Nat) (out4:Slc) (c4:Cfg),t.1=i∧i≤n∧RSt w4 base g rg s out4 bs c4.hist most (up8 at_+32+8*i)∧RTo w w4 g rg out out4∧Ch most bs c at_ c4 (up8 at_+32+8*i)∧c4.mode=2∧c4.left=n-i∧c4.last=c.last) (fun t=>n-t.1.toNat)
  ⟨0,out,c2,rfl,by omega,by rw [hc2];exact h3,t03,.one hst,by rw [hc2],by rw [hc2];rfl,by rw [hc2]⟩ ?_
 rintro ⟨i,_⟩ w4 ⟨i,out4,c4,rfl,hi,h4,t4,hch,hm4,hl4,hla⟩ I hI
 dsimp only at *
 have st4:step1 most bs (up8 at_+32+8*i) c4=qcv most bs (up8 at_+32+8*i) c4:=by rw [step1,if_neg (by omega),stepN,if_neg (by omega),if_neg (by omega),if_pos hm4]
 have hpre4:c4.hist <+: c4.hist:=List.prefix_refl _
 refine cO (fun hlt=>?_) (fun hge=>?_)
 ·have hlt:=of_decide_eq_true hlt
  refine qbt (x:=some ⟨rg,0,none⟩) (h4.blk.cells 0 _ rfl) ?_
  refine qc2 (n:=8) h4 (by decide) (fun hf w5 h5 t5=>?_) (fun hs w5 h5 t5=>?_)
  rotate_left
  ·refine cT rfl (hK _ _ _ _ _ h5 (t4.trans t5) (.of_ch hch (RRes.short ?_ (by omega) hpre4)))
   rw [st4,qcv,if_neg (by omega),if_pos hs]
  refine cF rfl ?_
  have h5d:=h5.drew
  have t5d:=t5.trans (RTo.drew w5 g rg out4)
  refine lSl (x:=out4) (h5d.blk.cells 1 _ rfl) ?_
  refine lI (x:=(most:Int)) (h5d.blk.cells 2 _ rfl) ?_
  rw [h5d.out.rd.n]
  refine cO (fun hfull=>?_) (fun hroom=>?_)
  ·have hfull:=of_decide_eq_true hfull
   refine hK _ _ _ _ _ h5d (t4.trans t5d) (.of_ch hch (RRes.err (n:=5) ?_ (by decide) rfl hpre4))
   rw [st4,qcv,if_neg (by omega),if_neg (by omega),if_pos (by omega)]
  ·have hroom:=of_decide_eq_false hroom
   refine lSl (x:=out4) (h5d.blk.cells 1 _ rfl) ?_
   have hb8:=qav bs (up8 at_+32+8*i) 8
   have hbv:(UInt8.ofNat (peekN bs (up8 at_+32+8*i) 8)).toNat=peekN bs (up8 at_+32+8*i) 8:=by rw [UInt8.toNat_ofNat'];omega
   refine h5d.put (b:=UInt8.ofNat (peekN bs (up8 at_+32+8*i) 8)) (ebase (t4.trans t5d)) (by rw [hbv,qad .u8 (x:=peekN bs (up8 at_+32+8*i) 8) hb8]) (by omega) fun out6 w6 h6 t6=>?_
   rw [w64i (by omega)]
   have hst4:step1 most bs (up8 at_+32+8*i) c4=.next { c4 with left:=c4.left-1,hist:=c4.hist++[UInt8.ofNat (peekN bs (up8 at_+32+8*i) 8)] } (up8 at_+32+8*i+8):=by
    rw [st4,qcv,if_neg (by omega),if_neg (by omega),if_neg (by omega)]
   have ea:up8 at_+32+8*(i+1)=up8 at_+32+8*i+8:=by omega
   refine hI _ _ ⟨i+1,out6,{ c4 with left:=c4.left-1,hist:=c4.hist++[UInt8.ofNat (peekN bs (up8 at_+32+8*i) 8)] },rfl,by omega,by rw [ea];exact h6,(t4.trans t5d).trans t6,by rw [ea];exact hch.trans (.one hst4),hm4,?_,hla⟩ (by simp;omega)
   show c4.left-1=_
   omega
 ·have hge:=of_decide_eq_false hge
  have:i=n:=by omega
  subst this
  have hend:step1 most bs (up8 at_+32+8*i) c4=.next c4.behind (up8 at_+32+8*i):=by
   rw [st4,qcv,if_pos (by omega)]
  have r:=RRes.of_ch hch (RRes.done hend)
  have em:c4.behind.mode=if c.last then 5 else 0:=by unfold Cfg.behind;rw [hla]
  rw [em] at r
  exact hK _ _ _ _ _ h4 t4 r
theorem za6 {y:Nat} {K:Int→Int→World→Prop} (h1:257≤y) (h2:y≤285) (hK:K ((qbr y).1:Int) ((qbr y).2:Int) w):qsc (y:Int) w K:=by
 refine q5g _ ?_
 unfold qpa
 unfold qbr at hK
 by_cases h:y=285
 ·subst h
  exact cT rfl hK
 rw [if_neg h] at hK
 refine cF (beq_eq_false_iff_ne.2 (by omega)) ?_
 obtain ⟨k,rfl⟩:∃k,y=k+257:=⟨y-257,by omega⟩
 have hk:k≤27:=by omega
 rw [Nat.add_sub_cancel] at hK
 rw [w64i (x:=((k+257:Nat):Int)-257) (by omega),show ((k+257:Nat):Int)-257=(k:Int) by omega]
 by_cases h8:k<8
 ·rw [if_pos h8] at hK
  refine cT (decide_eq_true (by omega)) ?_
  rw [w64i (by omega),show (3:Int)+(k:Int)=((3+k:Nat):Int) by omega]
  exact hK
 ·rw [if_neg h8] at hK
  refine cF (decide_eq_false (by omega)) ⟨by decide,by decide,?_⟩
  rw [show (4:Int)=((4:Nat):Int) from rfl,←Int.ofNat_tdiv,←Int.ofNat_tmod,w64i (x:=((k/4:Nat):Int)) (by omega),w64i (x:=((k/4:Nat):Int)-1) (by omega),show ((k/4:Nat):Int)-1=((k/4-1:Nat):Int) by omega,
   qad .u64 (x:=k/4-1) (by show _<2^64;omega)]
  refine ⟨by omega,?_⟩
  have em:min (((k/4-1:Nat):Int)).toNat IntKind.i64.bits=k/4-1:=by show min (k/4-1) 64=_;omega
  have hp:2^(k/4-1)≤2^6:=Nat.pow_le_pow_right (by decide) (by omega)
  have hmul:(4+k%4)*2^(k/4-1)≤8*2^6:=Nat.mul_le_mul (by omega) hp
  rw [em,show ((4:Nat):Int)+((k%4:Nat):Int)=((4+k%4:Nat):Int) from rfl,qad .i64 (x:=4+k%4) (by show _<2^63;omega),qa4,qad .i64 (x:=(4+k%4)*2^(k/4-1)) (by show _<2^63;omega),
   show (3:Int)+(((4+k%4)*2^(k/4-1):Nat):Int)=((3+(4+k%4)*2^(k/4-1):Nat):Int) by omega,qad .i64 (x:=3+(4+k%4)*2^(k/4-1)) (by show _<2^63;omega)]
  exact hK
theorem q5f {y:Nat} {K:Int→Int→World→Prop} (h2:y<30) (hK:K ((qba y).1:Int) ((qba y).2:Int) w):qn0 (y:Int) w K:=by
 refine q1p _ ?_
 unfold qmd
 unfold qba at hK
 by_cases h4:y<4
 ·rw [if_pos h4] at hK
  refine cT (decide_eq_true (by omega)) ?_
  rw [w64i (by omega),show (1:Int)+(y:Int)=((1+y:Nat):Int) by omega]
  exact hK
 ·rw [if_neg h4] at hK
  refine cF (decide_eq_false (by omega)) ⟨by decide,by decide,?_⟩
  rw [show (2:Int)=((2:Nat):Int) from rfl,←Int.ofNat_tdiv,←Int.ofNat_tmod,w64i (x:=((y/2:Nat):Int)) (by omega),w64i (x:=((y/2:Nat):Int)-1) (by omega),show ((y/2:Nat):Int)-1=((y/2-1:Nat):Int) by omega,
   qad .u64 (x:=y/2-1) (by show _<2^64;omega)]
  refine ⟨by omega,?_⟩
  have em:min (((y/2-1:Nat):Int)).toNat IntKind.i64.bits=y/2-1:=by show min (y/2-1) 64=_;omega
  have hp:2^(y/2-1)≤2^13:=Nat.pow_le_pow_right (by decide) (by omega)
  have hmul:(2+y%2)*2^(y/2-1)≤4*2^13:=Nat.mul_le_mul (by omega) hp
  have e2:(((2:Nat):Int))^(y/2-1)=(2:Int)^(y/2-1):=rfl
  rw [em,show ((2:Nat):Int)+((y%2:Nat):Int)=((2+y%2:Nat):Int) from rfl,qad .i64 (x:=2+y%2) (by show _<2^63;omega),e2,qa4,qad .i64 (x:=(2+y%2)*2^(y/2-1)) (by show _<2^63;omega),
   show (1:Int)+(((2+y%2)*2^(y/2-1):Nat):Int)=((1+(2+y%2)*2^(y/2-1):Nat):Int) by omega,qad .i64 (x:=1+(2+y%2)*2^(y/2-1)) (by show _<2^63;omega)]
  exact hK
end
end Go.Proofs.YtmagnpcgpinmcaaGreat
