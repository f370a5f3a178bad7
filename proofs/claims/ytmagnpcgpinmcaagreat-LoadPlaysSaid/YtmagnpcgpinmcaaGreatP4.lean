import Derived.Test.YtmagnpcgpinmcaaGreatP3
import Derived.Test.YtmagnpcgpinmcaaGreatP2
import Derived.Test.YtmagnpcgpinmcaaGreatP1
import Derived.Shelf.Small.Strs
import Derived.Shelf.Strings.Search1
import Derived.Test.YtmagnpcgpinmcaaGreatProg
set_option linter.unusedVariables false
namespace Go.Proofs.YtmagnpcgpinmcaaGreat
open Go.Vc Go.RowKit
set_option maxRecDepth 400000
theorem q8m (most:Nat) (B:List UInt8):∀(n:Nat) (c:Cfg) (a:Nat),mu B c a≤n→a≤8*B.length→∃c1 a1 r,Ch most B c a c1 a1∧step1 most B a1 c1=r∧∀c a,r≠.next c a
 | n,c,a,hn,ha=>by
  cases h:step1 most B a c with
  | short=>exact ⟨c,a,_,.refl _ _,h,by intro _ _ e;cases e⟩
  | err m=>exact ⟨c,a,_,.refl _ _,h,by intro _ _ e;cases e⟩
  | next c2 a2 =>
   obtain ⟨h1,h2,h3⟩:=qo1 h ha
   cases n with
   | zero=>omega
   | succ n =>
    obtain ⟨c1,a1,r,hc,hs,hr⟩:=q8m most B n c2 a2 (by omega) h1
    exact ⟨c1,a1,r,.step h hc,hs,hr⟩
theorem zfw {most:Nat} {c1:Cfg} {a1:Nat} {r0:SR} (hch:Ch most [] cfg0 0 c1 a1) (hst:step1 most [] a1 c1=r0) (hr0:∀c a,r0≠.next c a):c1=cfg0∧a1=0∧r0=.short:=by
 have h0:step1 most ([]:List UInt8) 0 cfg0=.short:=rfl
 obtain ⟨rfl,rfl⟩:=(Ch.refl (most:=most) (bs:=[]) cfg0 0).same hch (by rw [h0];intro _ _ e;cases e) (by rw [hst];exact hr0)
 exact ⟨rfl,rfl,by rw [←hst];rfl⟩
theorem zme {a b:Nat}:(((a:Nat):Int) !=((b:Nat):Int))=(a !=b):=by
 cases h:(a !=b) with
 | true=>exact bne_iff_ne.2 (by have:=bne_iff_ne.1 h;omega)
 | false =>
  have:a=b:=by simpa using h
  rw [this];simp
section
variable {w:World}
theorem zck {b:Slc} {x y:UInt8} {ys:List UInt8} {most:Nat} {c1:Cfg} {a1:Nat} {r0:SR} {K:Slc→Int→Int→World→Prop} (hm:most≤1073741824) (hb:Rd qaa w b (x::y::ys)) (hbl:∀k,b.blk=some k→k<w.heap.size) (hl:ys.length≤999999990)
  (hch:Ch most ys cfg0 0 c1 a1) (hst:step1 most ys a1 c1=r0) (hr0:∀c a,r0≠.next c a) (hhd:qdp (x::y::ys)=true)
  (hK1:zerr (x::y::ys) c1 a1 r0=0→∀o w',Own qaa w' w.heap.size o c1.hist→Below w.heap.size w w'→K o ((6+(a1+7)/8:Nat):Int) 0 w')
  (hK2:∀n,zerr (x::y::ys) c1 a1 r0=n→n≠0→∀o w',Below w.heap.size w w'→K o 0 n w') :
   slK b (some 2) none 1 fun t51 =>
      qpa t51 most w fun t53 t53_1 t53_2 w3 =>
      cond (t53_2 !=(0:Int))
       (K t53 0 t53_2 w3)
       (cond (decide (((b.n:Nat):Int)<(IntKind.i64.wrap ((6:Int)+t53_1))))
         (K t53 0 2 w3)
         (
         qot t53 w3 fun t68 w4 =>
         slK b (some (IntKind.i64.wrap ((2:Int)+t53_1))) none 1 fun t72 =>
         joinP (σ:=Unit) (fun s_2 w5 =>
          K t53 (IntKind.i64.wrap ((6:Int)+t53_1)) 0 w5) fun J3 =>
         joinP (σ:=Bool×Unit) (fun s_3 w6 =>
          cond s_3.1
           (K t53 0 4 w6)
           (J3 (()) w6)) fun J4 =>
         0≤(24:Int) ∧
         ixK t72 0 1 fun t77 =>
         ldI .u8 t77 w4 fun t78 =>
         cond ((IntKind.u8.wrap (t68.fdiv (2^(min (24:Int).toNat IntKind.u32.bits)))) !=t78)
          (J4 (true,()) w4)
          (
           0≤(16:Int) ∧
           ixK t72 1 1 fun t85 =>
           ldI .u8 t85 w4 fun t86 =>
           cond ((IntKind.u8.wrap (t68.fdiv (2^(min (16:Int).toNat IntKind.u32.bits)))) !=t86)
            (J4 (true,()) w4)
            (
            0≤(8:Int) ∧
            ixK t72 2 1 fun t94 =>
            ldI .u8 t94 w4 fun t95 =>
            cond ((IntKind.u8.wrap (t68.fdiv (2^(min (8:Int).toNat IntKind.u32.bits)))) !=t95)
             (J4 (true,()) w4)
             (
              ixK t72 3 1 fun t102 =>
              ldI .u8 t102 w4 fun t103 =>
              J4 (((IntKind.u8.wrap t68) !=t103),()) w4))))):=by
 have hyl:(x::y::ys).length=ys.length+2:=rfl
 have hys:(x::y::ys).drop 2=ys:=rfl
 have hbn:=hb.n
 refine hb.slK (l:=2) (m:=(x::y::ys).length) rfl (.inr rfl) (.inl ⟨rfl,rfl⟩) (by omega) (Nat.le_refl _) fun hp=>?_
 rw [List.take_length,hys] at hp
 obtain ⟨q,hq⟩:∃q:Slc,q=⟨cut b.a 2 b.c qaa.k,(x::y::ys).length-2,b.c-2⟩:=⟨_,rfl⟩
 rw [←hq] at hp ⊢
 have hqb:∀k,q.blk=some k→k<w.heap.size:=fun k hk=>by
  rw [hq] at hk
  obtain ⟨a,ha,rfl⟩:=slk.1 hk
  obtain ⟨a',ha',e⟩:=qep ha
  rw [e]
  exact hbl _ (slk.2 ⟨a',ha',rfl⟩)
 refine ze7 hp hqb (by omega) hm fun o u e hist' w1 hfr hhl ho hB1=>?_
 have ehd:¬qdp (x::y::ys)=false:=by rw [hhd];decide
 rcases hfr with ⟨rfl,c',a',hch2,h5,rfl,rfl⟩ | ⟨rfl,c',a'',n,hch2,hst2,rfl,hpx⟩
 ·obtain ⟨rfl,rfl⟩:=hch.same hch2 (by rw [hst];exact hr0) (by rw [ql3 h5];intro _ _ e;cases e)
  have hr:r0=.short:=by rw [←hst,ql3 h5]
  subst hr
  have hal:=(hch.le (Nat.zero_le _)).1
  obtain ⟨v,hv⟩:∃v,v=(a1+7)/8:=⟨_,rfl⟩
  rw [←hv] at hK1 ⊢
  refine cF rfl ?_
  rw [w64i (x:=(6:Int)+(v:Int)) (by omega),w64i (x:=(2:Int)+(v:Int)) (by omega)]
  have ez:zerr (x::y::ys) c1 a1 .short=zend (x::y::ys) c1 a1:=by rw [zerr.eq_def,if_neg ehd]
  have etl:tailL c1 a1 ((x::y::ys).drop 2)=(ys.drop v).take 4:=by rw [tailL,if_pos h5,hys,hv]
  rw [hbn]
  by_cases hsh:ys.length<v+4
  ·have hz:zerr (x::y::ys) c1 a1 .short=2:=by
    rw [ez,zend,if_neg]
    rw [etl,List.length_take,List.length_drop]
    omega
   exact cT (decide_eq_true (by omega)) (hK2 2 hz (by decide) o w1 hB1)
  refine cF (decide_eq_false (by omega)) ?_
  have h4:((ys.drop v).take 4).length=4:=by rw [List.length_take,List.length_drop];omega
  refine zc9 ho.rd (by omega) ?_
  have hb1:=hb.ext hB1
  refine hb1.slK (l:=2+v) (m:=(x::y::ys).length) rfl (.inr rfl) (.inl ⟨rfl,rfl⟩) (by omega) (Nat.le_refl _) fun hp2=>?_
  have ed:(x::y::ys).drop (2+v)=ys.drop v:=by rw [←List.drop_drop,hys]
  rw [List.take_length,ed] at hp2
  obtain ⟨x0,x1,x2,x3,zs,ex⟩:∃x0 x1 x2 x3 zs,ys.drop v=x0::x1::x2::x3::zs:=by
   have:4≤(ys.drop v).length:=by rw [List.length_drop];omega
   match ys.drop v,this with
   | x0::x1::x2::x3::zs,_=>exact ⟨x0,x1,x2,x3,zs,rfl⟩
  have etl4:tailL c1 a1 ((x::y::ys).drop 2)=[x0,x1,x2,x3]:=by rw [etl,ex];rfl
  rw [ex] at hp2
  have hzl:(x0::x1::x2::x3::zs).length=zs.length+4:=rfl
  have hsum:=zl2 c1.hist
  obtain ⟨S,hS⟩:∃S,S=adlN c1.hist:=⟨_,rfl⟩
  rw [←hS] at hsum ⊢
  have hz:zerr (x::y::ys) c1 a1 .short=if [x0,x1,x2,x3]=be4 S then 0 else 4:=by
   rw [ez,zend,etl4,if_pos (show [x0,x1,x2,x3].length=4 from rfl),←hS]
   by_cases hh:[x0,x1,x2,x3]=be4 S
   ·rw [if_pos hh,hh,if_pos (zfq hsum)]
   ·rw [if_neg hh,if_neg fun e=>hh (zl0 rfl rfl (by rw [e,zfq hsum]))]
  refine jpO fun J3 hJ3=>?_
  refine jpO fun J4 hJ4=>?_
  rw [show (6:Int)+(v:Int)=((6+v:Nat):Int) by omega] at hJ3
  have no:[x0,x1,x2,x3]≠be4 S→J4 (true,()) w1:=fun hne=>hJ4 _ _ (cT rfl (hK2 4 (by rw [hz,if_neg hne]) (by decide) o w1 hB1))
  have yes:[x0,x1,x2,x3]=be4 S→J4 (false,()) w1:=fun he=>hJ4 _ _ (cF rfl (hJ3 _ _ (hK1 (by rw [hz,if_pos he]) o w1 ho hB1)))
  rw [show min ((24:Int)).toNat IntKind.u32.bits=24 by decide,show min ((16:Int)).toNat IntKind.u32.bits=16 by decide,show min ((8:Int)).toNat IntKind.u32.bits=8 by decide,qbt,qbt,qbt,qdv,qdv,qdv,qdv]
  have ne:∀{p:UInt8} {n:Nat},(((((UInt8.ofNat n).toNat:Nat):Int)) !=((p.toNat:Nat):Int))=true→UInt8.ofNat n≠p:=fun {p n} h e=>by rw [e] at h;simp at h
  have eq:∀{p:UInt8} {n:Nat},(((((UInt8.ofNat n).toNat:Nat):Int)) !=((p.toNat:Nat):Int))=false→UInt8.ofNat n=p:=fun {p n} h=>UInt8.toNat.inj (by rw [zme] at h;simpa using h)
  refine ⟨by decide,?_⟩
  refine hp2.ix (i:=0) rfl (by omega) (by omega) fun hc=>ldB8 (b:=x0) hc ?_
  refine cO (fun h0=>no fun e=>?_) (fun h0=>⟨by decide,?_⟩)
  ·injection e with e _;exact ne h0 e.symm
  refine hp2.ix (i:=1) rfl (by omega) (by omega) fun hc=>ldB8 (b:=x1) hc ?_
  refine cO (fun h1=>no fun e=>?_) (fun h1=>⟨by decide,?_⟩)
  ·injection e with _ e;injection e with e _;exact ne h1 e.symm
  refine hp2.ix (i:=2) rfl (by omega) (by omega) fun hc=>ldB8 (b:=x2) hc ?_
  refine cO (fun h2=>no fun e=>?_) (fun h2=>?_)
  ·injection e with _ e;injection e with _ e;injection e with e _;exact ne h2 e.symm
  refine hp2.ix (i:=3) rfl (by omega) (by omega) fun hc=>ldB8 (b:=x3) hc ?_
  cases h3:((((UInt8.ofNat S).toNat:Nat):Int) !=((x3.toNat:Nat):Int)) with
  | true=>exact no fun e=>by injection e with _ e;injection e with _ e;injection e with _ e;injection e with e _;exact ne h3 e.symm
  | false=>exact yes (by unfold be4;rw [eq h0,eq h1,eq h2,eq h3])
 ·obtain ⟨rfl,rfl⟩:=hch.same hch2 (by rw [hst];exact hr0) (by
   rcases hst2 with ⟨e,_⟩ | ⟨e,_⟩
   ·rw [e];intro _ _ e;cases e
   ·rw [e];intro _ _ e;cases e)
  have hn0:n≠0:=by
   rcases hst2 with ⟨_,_,rfl⟩ | ⟨_,hn⟩
   ·decide
   ·exact hn
  refine cT (by
           have:((n:Nat):Int)≠0:=by omega
           simpa using this) (hK2 n ?_ hn0 o w1 hB1)
  rw [zerr.eq_def,if_neg ehd]
  rcases hst2 with ⟨e,hm5,rfl⟩ | ⟨e,_⟩
  ·rw [hst] at e
   subst e
   show zend _ _ _=2
   rw [zend,if_neg]
   rw [tailL,if_neg hm5]
   decide
  ·rw [hst] at e
   subst e
   rfl
theorem za6 {b:Slc} {bs:List UInt8} {most:Nat} {c1:Cfg} {a1:Nat} {r0:SR} {K:Slc→Int→Int→World→Prop} (hm:most≤1073741824) (hb:Rd qaa w b bs) (hbl:∀k,b.blk=some k→k<w.heap.size) (hl:bs.length≤999999990)
  (hch:Ch most (bs.drop 2) cfg0 0 c1 a1) (hst:step1 most (bs.drop 2) a1 c1=r0) (hr0:∀c a,r0≠.next c a)
  (hK1:zerr bs c1 a1 r0=0→∀o w',Own qaa w' w.heap.size o c1.hist→Below w.heap.size w w'→K o ((6+(a1+7)/8:Nat):Int) 0 w')
  (hK2:∀n,zerr bs c1 a1 r0=n→n≠0→∀o w',Below w.heap.size w w'→K o 0 n w'):qv5 b most w K:=by
 refine zac _ _ ?_
 unfold qsg
 have hBd:Below w.heap.size w w.drew:=(Below.refl _ w).drew
 have hbn:=hb.n
 match bs with
 | [] =>
  have hbn:b.n=0:=hbn
  obtain ⟨rfl,rfl,rfl⟩:=zfw hch hst hr0
  rw [hbn]
  exact cT rfl (hK2 2 rfl (by decide) _ _ (Below.refl _ _))
 | x::xs =>
  have hxl:(x::xs).length=xs.length+1:=rfl
  have hx8:=x.toNat_lt
  refine cF (beq_eq_false_iff_ne.2 (by omega)) ?_
  refine jpO fun J1 hJ1=>?_
  refine jpO fun J6 hJ6=>?_
  refine hb.ix (i:=0) rfl (by omega) (by omega) fun hc=>ldB8 (b:=x) hc ⟨by decide,?_⟩
  have no:zh1 x=false→J6 (true,()) w:=fun hz=>hJ6 _ _ (cT rfl (hK2 3 (by
   rw [zerr.eq_def,if_pos]
   match xs with
   | []=>exact hz
   | y::ys=>show (zh1 x && zh2 x y)=false;rw [hz,Bool.false_and]) (by decide) _ _ (Below.refl _ _)))
  have yes:zh1 x=true→J6 (false,()) w:=fun hz=>hJ6 _ _ (cF rfl (hJ1 _ _ (by
   clear hJ6 no hJ1
   match xs with
   | [] =>
    have hbn:b.n=1:=hbn
    obtain ⟨rfl,rfl,rfl⟩:=zfw hch hst hr0
    rw [hbn]
    refine cT rfl (hK2 2 ?_ (by decide) _ _ (Below.refl _ _))
    rw [zerr.eq_def,if_neg (by show ¬zh1 x=false;rw [hz];decide)]
    rfl
   | y::ys =>
    have hy8:=y.toNat_lt
    have hyl:(x::y::ys).length=ys.length+2:=rfl
    refine cF (decide_eq_false (by omega)) ?_
    refine jpO fun J2 hJ2=>?_
    refine jpO fun J5 hJ5=>?_
    refine (hb.ext hBd).ix (i:=0) rfl (by omega) (by omega) fun hc=>ldB8 (b:=x) hc ?_
    refine (hb.ext hBd).ix (i:=1) rfl (by omega) (by omega) fun hc=>ldB8 (b:=y) hc ⟨by decide,?_⟩
    rw [qad .i64 (x:=x.toNat) (by show _<2^63;omega),qad .i64 (x:=y.toNat) (by show _<2^63;omega),show ((x.toNat:Nat):Int)*256=((x.toNat*256:Nat):Int) by omega,qad .i64 (x:=x.toNat*256) (by show _<2^63;omega),
     show ((x.toNat*256:Nat):Int)+((y.toNat:Nat):Int)=((x.toNat*256+y.toNat:Nat):Int) from rfl,qad .i64 (x:=x.toNat*256+y.toNat) (by show _<2^63;omega),show (31:Int)=((31:Nat):Int) from rfl,←Int.ofNat_tmod]
    have no5:zh2 x y=false→J5 (true,()) w.drew:=fun hz2=>hJ5 _ _ (cT rfl (hK2 3 (by
     rw [zerr.eq_def,if_pos]
     show (zh1 x && zh2 x y)=false
     rw [hz2,Bool.and_false]) (by decide) _ _ hBd))
    have yes5:zh2 x y=true→J5 (false,()) w.drew:=fun hz2=>hJ5 _ _ (cF rfl (hJ2 _ _ (by
     have hhd:qdp (x::y::ys)=true:=by show (zh1 x && zh2 x y)=true;rw [hz,hz2];rfl
     exact zck hm (hb.ext hBd) (fun k hk=>hbl k hk) (by omega) hch hst hr0 hhd (fun h0 o w' ho hB=>hK1 h0 o w' ho (hBd.trans hB)) (fun n hn h0 o w' hB=>hK2 n hn h0 o w' (hBd.trans hB)))))
    unfold zh2 at no5 yes5
    cases h31:((x.toNat*256+y.toNat)%31==0) with
    | false =>
     have h31':=beq_eq_false_iff_ne.1 h31
     rw [h31,Bool.false_and] at no5
     exact cT (bne_iff_ne.2 (by omega)) (no5 rfl)
    | true =>
     have h31':=eq_of_beq h31
     rw [h31,Bool.true_and] at no5 yes5
     refine cF (by rw [h31'];rfl) ?_
     refine (hb.ext hBd).ix (i:=1) rfl (by omega) (by omega) fun hc=>ldB8 (b:=y) hc ?_
     rw [show (32:Int)=((32:Nat):Int) from rfl,qdd .u8 (by show _<2^8;omega) (by decide)]
     cases h32:(y.toNat &&& 32==0) with
     | true =>
      rw [eq_of_beq h32]
      exact yes5 h32
     | false =>
      have:=no5 h32
      have e:(((y.toNat &&& 32:Nat):Int) !=(0:Int))=true:=bne_iff_ne.2 (by have:=beq_eq_false_iff_ne.1 h32;omega)
      rw [e]
      exact this)))
  unfold zh1 at no yes
  rw [show (16:Int)=((16:Nat):Int) from rfl,←Int.ofNat_tmod]
  cases h16:(x.toNat%16==8) with
  | false =>
   have h16':=beq_eq_false_iff_ne.1 h16
   rw [h16,Bool.false_and] at no
   exact cT (bne_iff_ne.2 (by omega)) (no rfl)
  | true =>
   have h16':=eq_of_beq h16
   rw [h16,Bool.true_and] at no yes
   refine cF (by rw [h16'];rfl) ?_
   refine hb.ix (i:=0) rfl (by omega) (by omega) fun hc=>ldB8 (b:=x) hc ⟨by decide,?_⟩
   rw [←Int.ofNat_tdiv,qad .u8 (x:=x.toNat/16) (by show _<2^8;omega)]
   by_cases h7:x.toNat/16≤7
   ·have:=yes (decide_eq_true h7)
    rw [show decide (((x.toNat/16:Nat):Int)>7)=false from decide_eq_false (by omega)]
    exact this
   ·have:=no (decide_eq_false h7)
    rw [show decide (((x.toNat/16:Nat):Int)>7)=true from decide_eq_true (by omega)]
    exact this
theorem qzs {b:Slc} {bs:List UInt8} {most:Nat} {c1:Cfg} {a1:Nat} {r0:SR} {K:Slc→Int→Int→World→Prop} (hm:most≤1073741824) (hb:Rd qaa w b bs) (hbl:∀k,b.blk=some k→k<w.heap.size) (hl:bs.length≤999999990)
  (hch:Ch most (bs.drop 2) cfg0 0 c1 a1) (hst:step1 most (bs.drop 2) a1 c1=r0) (hr0:∀c a,r0≠.next c a)
  (hK1:zerr bs c1 a1 r0=0→∀o w',Own qaa w' w.heap.size o c1.hist→Below w.heap.size w w'→K o ((6+(a1+7)/8:Nat):Int) 0 w')
  (hK2:∀n,zerr bs c1 a1 r0=n→n≠0→∀w',Below w.heap.size w w'→K nilS 0 n w'):qnf b most w K:=by
 refine q7z _ _ ?_
 unfold qp2
 refine jpO fun J1 hJ1=>?_
 refine jpO fun J2 hJ2=>?_
 refine cF (decide_eq_false (by omega)) (hJ2 _ _ (cF (decide_eq_false (by omega)) (hJ1 _ _ ?_)))
 exact za6 hm hb hbl hl hch hst hr0 (fun h0 o w' ho hB=>cF rfl (hK1 h0 o w' ho hB)) fun n hn h0 o w' hB=>cT (by
  have:((n:Nat):Int)≠0:=by omega
  simpa using this) (hK2 n hn h0 w' hB)
end
end Go.Proofs.YtmagnpcgpinmcaaGreat
set_option linter.unusedVariables false
namespace Go.Proofs.YtmagnpcgpinmcaaGreat
open Go.Vc
set_option maxRecDepth 400000
theorem q8f (most:Nat) (bs:List UInt8):∃r:Cfg×Nat×SR,Ch most (bs.drop 2) cfg0 0 r.1 r.2.1∧step1 most (bs.drop 2) r.2.1 r.1=r.2.2∧∀c a,r.2.2≠.next c a:=by
 obtain ⟨c1,a1,r0,h1,h2,h3⟩:=q8m most (bs.drop 2) _ cfg0 0 (Nat.le_refl _) (Nat.zero_le _)
 exact ⟨(c1,a1,r0),h1,h2,h3⟩
noncomputable def unRun (most:Nat) (bs:List UInt8):Cfg×Nat×SR:=Classical.choose (q8f most bs)
theorem qpf (most:Nat) (bs:List UInt8):Ch most (bs.drop 2) cfg0 0 (unRun most bs).1 (unRun most bs).2.1∧step1 most (bs.drop 2) (unRun most bs).2.1 (unRun most bs).1=(unRun most bs).2.2∧∀c a,(unRun most bs).2.2≠.next c a:=Classical.choose_spec (q8f most bs)
noncomputable def unErr (most:Nat) (bs:List UInt8):Nat:=zerr bs (unRun most bs).1 (unRun most bs).2.1 (unRun most bs).2.2
noncomputable def unOut (most:Nat) (bs:List UInt8):List UInt8:=(unRun most bs).1.hist
noncomputable def qgr (most:Nat) (bs:List UInt8):Nat:=6+((unRun most bs).2.1+7)/8
noncomputable def decF (F:FilL):Nat×Nat×Nat×List UInt8 :=
 if unErr (needP F.h) F.data≠0 then (unErr (needP F.h) F.data,0,0,[])
 else if (unOut (needP F.h) F.data).length<needP F.h∨qgr (needP F.h) F.data<F.data.length then (3,0,0,[])
 else match qfl F (unOut (needP F.h) F.data) with
  | none=>(3,0,0,[])
  | some m=>(0,F.h.W.toNat,F.h.H.toNat,m)
noncomputable def qdu (b:List UInt8) (pixels:Int):Nat×Nat×Nat×List UInt8 :=
 if (qdg b pixels).1≠0 then ((qdg b pixels).1,0,0,[]) else decF (qdg b pixels).2
def dsum (l:List ChL):Nat:=(l.map fun c=>c.data.length).sum
theorem zka {b:List UInt8} {c:ChL} {n:Nat} (h:qbs b=.ok c n):c.kind.length=4∧n=12+c.data.length∧n≤b.length∧c.kind.all qbv=true:=by
 unfold qbs at h
 split at h
 ·cases h
 rename_i h1
 split at h
 ·cases h
 rename_i h2
 split at h
 ·cases h
 rename_i h3
 split at h
 ·cases h
 rename_i h4
 split at h
 ·cases h
 rename_i h5
 split at h
 ·cases h
 rename_i h6
 cases h
 refine ⟨by simp;omega,?_,by omega,?_⟩
 ·rw [List.length_drop,List.length_take]
  omega
 ·cases e:((b.take 8).drop 4).all qbv with
  | true=>rfl
  | false=>exact absurd e h4
theorem qv6 (one:Bool):∀(f:Nat) (b:List UInt8),dsum (qa3 one f b).2≤b.length∧(∀c∈(qa3 one f b).2,c.kind.length=4)∧(qa3 one f b).2.length≤b.length∧((qa3 one f b).1=0→∃c l,(qa3 one f b).2=c::l)
 | 0,b=>⟨by simp [qa3,dsum],by simp [qa3],by simp [qa3],fun h=>by cases h⟩
 | f+1,b=>by
  rw [qa3]
  cases hc:qbs b with
  | err n=>exact ⟨by simp [dsum],by simp,by simp,fun h=>absurd h (zgf hc)⟩
  | ok c n =>
   obtain ⟨h1,h2,h3,_⟩:=zka hc
   dsimp only
   split
   ·exact ⟨by simp [dsum];omega,by simp [h1],by simp;omega,fun _=>⟨c,[],rfl⟩⟩
   ·obtain ⟨i1,i2,i3,i4⟩:=qv6 one f (b.drop n)
    rw [List.length_drop] at i1 i3
    refine ⟨?_,?_,?_,fun _=>⟨_,_,rfl⟩⟩
    ·unfold dsum at i1 ⊢
     rw [List.map_cons,List.sum_cons]
     omega
    ·intro d hd
     rcases List.mem_cons.1 hd with rfl | hd
     ·exact h1
     ·exact i2 d hd
    ·rw [List.length_cons];omega
theorem qog (one:Bool) (b:List UInt8):dsum (qa7 one b).2≤b.length∧(∀c∈(qa7 one b).2,c.kind.length=4)∧(qa7 one b).2.length≤b.length∧((qa7 one b).1=0→∃c l,(qa7 one b).2=c::l):=by
 obtain ⟨i1,i2,i3,i4⟩:=qv6 one b.length (b.drop 8)
 rw [List.length_drop] at i1 i3
 unfold qa7
 split
 ·rename_i h
  exact ⟨by simp [dsum],by simp,by simp,fun e=>absurd e h⟩
 ·split
  ·rename_i h
   exact ⟨by simp [dsum],by simp,by simp,fun e=>absurd e h⟩
  ·rename_i h
   exact ⟨by dsimp only;omega,i2,by dsimp only;omega,fun _=>i4 (by omega)⟩
theorem qy9 {F:FilL} {c:ChL} {n:Nat} (h:F.data.length≤n∧F.pal.length≤n∧F.tr.length≤n):(takeP F c).2.data.length≤n+c.data.length∧(takeP F c).2.pal.length≤n+c.data.length∧(takeP F c).2.tr.length≤n+c.data.length:=by
 obtain ⟨h1,h2,h3⟩:=h
 unfold takeP
 repeat' split
 all_goals (refine ⟨?_,?_,?_⟩<;>simp<;>omega)
theorem q20:∀(l:List ChL) (F:FilL) (n:Nat),F.data.length≤n∧F.pal.length≤n∧F.tr.length≤n→(qbq F l).2.data.length≤n+dsum l∧(qbq F l).2.pal.length≤n+dsum l∧(qbq F l).2.tr.length≤n+dsum l
 | [],F,n,h=>by simp only [qbq,dsum,List.map_nil,List.sum_nil];exact ⟨by omega,by omega,by omega⟩
 | c::l,F,n,h=>by
  have e:dsum (c::l)=c.data.length+dsum l:=by simp [dsum]
  rw [qbq]
  split
  ·rw [e];exact ⟨by dsimp only;omega,by dsimp only;omega,by dsimp only;omega⟩
  ·obtain ⟨a,b,d⟩:=q20 l (takeP F c).2 (n+c.data.length) (qy9 h)
   rw [e]
   exact ⟨by omega,by omega,by omega⟩
theorem q5u:∀(l:List ChL) {F:FilL},FilOk F→(qbq F l).1=0→FilOk (qbq F l).2∧(qbq F l).2.h=F.h
 | [],F,h,_=>⟨h,rfl⟩
 | c::l,F,h,h0=>by
  rw [qbq] at h0 ⊢
  split at h0
  ·rename_i hn;exact absurd h0 hn
  ·rename_i hn
   obtain ⟨a,b⟩:=q3t (c:=c) h (by omega)
   rw [if_neg hn]
   obtain ⟨a2,b2⟩:=q5u l a h0
   exact ⟨a2,b2.trans b⟩
theorem q4j {c:ChL} (h:(headP c).1=0):qdo (headP c).2=0:=by
 unfold headP at h ⊢
 split at h
 ·cases h
 ·rename_i h1
  split at h
  ·rename_i h2;exact absurd h h2
  ·rename_i h2
   rw [if_neg h1,if_neg h2]
   show qdo (qcl c.data)=0
   omega
theorem q7w {h:T_png_Head} (hc:qdo h=0):FilOk (fil0 h):=⟨hc,(fun h=>by cases h),rfl⟩
structure ReadOk (b:List UInt8) (pixels:Int) (F:FilL):Prop where
 ok:FilOk F
 area:F.h.W*F.h.H≤pixels∧F.h.W*F.h.H≤67108864
 data:F.data.length≤b.length
 pal:F.pal.length≤b.length
 tr:F.tr.length≤b.length
theorem q57 {b:List UInt8} {pixels:Int} (h:(qdg b pixels).1=0):ReadOk b pixels (qdg b pixels).2:=by
 obtain ⟨f1,f2,f3,f4⟩:=qog false b
 unfold qdg at h ⊢
 cases hcp:qa7 false b with
 | mk e l =>
  rw [hcp] at h f1 f2 f3 f4
  match e,l with
  | 0,c::l =>
   replace h:(qp1 c l pixels).1=0:=h
   show ReadOk b pixels (qp1 c l pixels).2
   unfold qp1 at h ⊢
   by_cases h1:(headP c).1≠0
   ·rw [if_pos h1] at h;exact absurd h h1
   rw [if_neg h1] at h ⊢
   by_cases h2:(headP c).2.W*(headP c).2.H>pixels∨(headP c).2.W*(headP c).2.H>67108864
   ·rw [if_pos h2] at h;cases h
   rw [if_neg h2] at h ⊢
   by_cases h3:(qbq (fil0 (headP c).2) l).1≠0
   ·rw [if_pos h3] at h;exact absurd h h3
   rw [if_neg h3] at h ⊢
   split
   ·rename_i h4;rw [if_pos h4] at h;cases h
   ·obtain ⟨a,bb⟩:=q5u l (q7w (q4j (c:=c) (by omega))) (by omega)
    obtain ⟨d1,d2,d3⟩:=q20 l (fil0 (headP c).2) 0 ⟨Nat.le_refl _,Nat.le_refl _,Nat.le_refl _⟩
    have e:dsum (c::l)=c.data.length+dsum l:=by simp [dsum]
    replace f1:dsum (c::l)≤b.length:=f1
    rw [e] at f1
    refine ⟨a,?_,Nat.le_trans d1 (by omega),Nat.le_trans d2 (by omega),Nat.le_trans d3 (by omega)⟩
    rw [bb]
    show (headP c).2.W*(headP c).2.H≤pixels∧(headP c).2.W*(headP c).2.H≤67108864
    omega
  | 0,[]=>obtain ⟨c,l,hcl⟩:=f4 rfl;cases hcl
  | e+1,l=>cases h
theorem zbg {h:T_png_Head} {W H:Nat} (ho:HeadOk h W H) {M:Nat} (hM:W*H≤M):needP h≤140*M:=by
 have hrow:∀w:Nat,1+rowB h w≤2+8*w:=by
  intro w
  unfold rowB rowP
  split
  ·omega
  ·rename_i hn
   simp only [not_or] at hn
   obtain ⟨h1,h2,h3,h4,h5⟩:=hn
   have hd:qbo h.Depth=true:=by cases e:qbo h.Depth with | true=>rfl | false=>exact absurd e h5
   have hdp:1≤h.Depth∧h.Depth≤16:=by
    unfold qbo at hd
    simp at hd
    omega
   have a1:0≤(w:Int)*(qac h.Color:Int):=Int.mul_nonneg (by omega) (by omega)
   have a2:(w:Int)*(qac h.Color:Int)≤(w:Int)*4:=Int.mul_le_mul_of_nonneg_left (by omega) (by omega)
   have a4:(w:Int)*(qac h.Color:Int)*h.Depth≤(w:Int)*4*16:=Int.mul_le_mul a2 (by omega) (by omega) (by omega)
   omega
 have one:∀p:PassP,needL h (qaj W H p)≤20*M:=by
  intro p
  have hs:=qh5 p W H
  have key:∀(l:List Nat),((l.map fun y=>(p,y,(sizeP p W H).1)).map fun r=>1+rowB h r.2.2).sum≤l.length*(2+8*W):=by
   intro l
   induction l with
   | nil=>simp
   | cons y l ih =>
    rw [List.map_cons,List.map_cons,List.sum_cons,List.length_cons,Nat.add_mul]
    have:=hrow (sizeP p W H).1
    dsimp only
    have h8:8*(sizeP p W H).1≤8*W:=by omega
    omega
  have h1:=key (List.range (sizeP p W H).2)
  rw [List.length_range] at h1
  have h2:(sizeP p W H).2*(2+8*W)≤H*(2+8*W):=Nat.mul_le_mul_right _ hs.2
  have h3:H*(2+8*W)=2*H+8*(W*H):=by rw [Nat.mul_add,Nat.mul_comm H 2,Nat.mul_left_comm,Nat.mul_comm H W]
  have h4:H≤W*H:=Nat.le_mul_of_pos_left H ho.w1
  unfold needL qaj
  omega
 have all:∀ps:List PassP,needL h (ps.flatMap (qaj W H))≤ps.length*(20*M):=by
  intro ps
  induction ps with
  | nil=>simp [needL]
  | cons p ps ih =>
   rw [List.flatMap_cons,qie,List.length_cons,Nat.add_mul]
   have:=one p
   omega
 have h1:=all (qdh h.Lace)
 have h2:=ql0 h.Lace
 have h3:(qdh h.Lace).length*(20*M)≤7*(20*M):=Nat.mul_le_mul_right _ h2
 have e:needP h=needL h ((qdh h.Lace).flatMap (qaj W H)):=by
  show needL h (rowsL h)=_
  unfold rowsL
  rw [ho.wn,ho.hn]
 rw [e]
 omega
end Go.Proofs.YtmagnpcgpinmcaaGreat
set_option linter.unusedVariables false
namespace Go.Proofs.YtmagnpcgpinmcaaGreat
open Go.Vc Go.RowKit
set_option maxRecDepth 400000
section
variable {w:World}
theorem ziz {W H:Nat} {K:Bool→World→Prop} (hW1:1≤W) (hW2:W≤16384) (hH1:1≤H) (hH2:H≤16384) (hA:W*H≤67108864) (hK:K true w):qp5 (W:Int) (H:Int) w K:=by
 refine q5p _ _ ?_
 unfold qny
 refine cF (qkg (by omega)) (cT (decide_eq_true (by omega)) (cT (decide_eq_true (by omega)) (cT (decide_eq_true (by omega)) (cT (decide_eq_true (by omega)) ?_))))
 rw [show (W:Int)*(H:Int)=((W*H:Nat):Int) by simp,w64i (by omega),decide_eq_true (by omega)]
 exact hK
theorem qxx {W H:Nat} {K:T_api_Matrix→Int→World→Prop} (hW1:1≤W) (hW2:W≤16384) (hH1:1≤H) (hH2:H≤16384) (hA:W*H≤67108864)
  (hK:∀(t:Slc) (gm:Nat) w',Go.Vc.Own qaa w' w.heap.size t (List.replicate (4*W*H) 0)→t.a=some ⟨gm,0,none⟩→w.heap.size≤gm→Below w.heap.size w w'→K ⟨W,H,t⟩ 0 w'):qki (W:Int) (H:Int) w K:=by
 refine q6y _ _ ?_
 unfold qqq
 refine nwb fun w1 h1 hB1 hs1=>ziz hW1 hW2 hH1 hH2 hA (cF rfl ?_)
 have e:IntKind.i64.wrap ((IntKind.i64.wrap ((4:Int)*(W:Int)))*(H:Int))=((4*W*H:Nat):Int):=by
  have h4:4*W*H=4*(W*H):=Nat.mul_assoc _ _ _
  rw [w64i (x:=(4:Int)*(W:Int)) (by omega),show (4:Int)*(W:Int)*(H:Int)=((4*W*H:Nat):Int) by simp,w64i (by omega)]
 rw [e]
 have h4:4*W*H=4*(W*H):=Nat.mul_assoc _ _ _
 refine qes qar (x0:=(0:UInt8)) rfl (n:=4*W*H) rfl rfl (by rw [qcg];omega) (by unfold maxLen;omega) fun w4 ho hB4=>?_
 refine qa5 (r:=T_api_Matrix.rep) (x:=⟨W,H,⟨some ⟨w1.heap.size,0,none⟩,4*W*H,4*W*H⟩⟩) (h1.ext hB4) rfl rfl fun w5 hc5 hs5=>?_
 refine hK _ w1.heap.size w5 ((ho.chg hc5 fun k hk e=>?_).base (by omega)) rfl (by omega) (b1o (bT hB1 hB4) hc5 (Nat.le_refl _))
 have:=(ho.lt k hk).1
 omega
theorem zem {g b:Nat} {F:FilL} {p t d:Slc} (hF:FilA w g b F p t d) (ho:FilOk F) {W H:Nat} (hh:HeadOk F.h W H) (hA:W*H≤67108864) (hpl:F.pal.length≤1000000) (htl:F.tr.length≤1000000) {bS:Slc} {xs:List UInt8} (hx:Rd qaa w bS xs) (hxn:needP F.h≤xs.length) (hxl:xs.length≤1000000000) {K:T_api_Matrix→Int→World→Prop}
  (hN:qfl F xs=none→∀w',Below w.heap.size w w'→K ⟨0,0,⟨none,0,0⟩⟩ 3 w') (hY:∀m,qfl F xs=some m→∀s w',Go.Vc.Own qaa w' w.heap.size s m→m.length=4*W*H→Below w.heap.size w w'→K ⟨W,H,s⟩ 0 w'):qjh (some ⟨g,0,none⟩) bS w K:=by
 obtain ⟨_,hco⟩:=qfr ho.hd
 refine qve _ _ ?_
 unfold qiq
 refine nwb fun w1 h1 hB1 hs1=>nwb fun w2 h2 hB2 hs2=>nwb fun w3 h3 hB3 hs3=>?_
 have hB13:=bT (bT hB1 hB2) hB3
 have hf:=(h1.ext hB2).ext hB3
 have hb:=h2.ext hB3
 have hBd:=bdw w3
 have hB3d:=bT hB13 hBd
 have hFd:=hF.ext hB3d
 refine qbf (x:=some ⟨g,0,none⟩) (qax (hf.ext hBd)) ?_
 simp only [onPtr_some]
 refine lI (x:=(W:Int)) (by rw [add_zero,←hh.w];exact hFd.blk.cells 0 _ rfl) ?_
 refine qbf (x:=some ⟨g,0,none⟩) (qax (hf.ext hBd)) ?_
 simp only [onPtr_some]
 refine lI (x:=(H:Int)) (by rw [add_zero,←hh.h];exact hFd.blk.cells 1 _ rfl) ?_
 have hs3d:w3.drew.heap.size=w3.heap.size:=rfl
 have cw:∀{w'},Below w3.heap.size w3 w'→w'.cell? ((⟨g,0,none⟩:Addr).add 0)=some (.int .i64 (W:Int)):=fun hB=>by
  have:=(hF.ext (bT hB13 hB)).blk.cells 0 _ rfl
  rw [hh.w] at this
  exact this
 have chh:∀{w'},Below w3.heap.size w3 w'→w'.cell? ((⟨g,0,none⟩:Addr).add 1)=some (.int .i64 (H:Int)):=fun hB=>by
  have:=(hF.ext (bT hB13 hB)).blk.cells 1 _ rfl
  rw [hh.h] at this
  exact this
 have tail:∀(bmx gm:Nat) (vs:List Value) (tm:Slc) w5,vs.length=3→Blk w5 bmx qal vs→w3.heap.size≤bmx→Go.Vc.Own qaa w5 (w3.heap.size) tm (List.replicate (4*W*H) 0)→tm.a=some ⟨gm,0,none⟩→w3.heap.size≤gm→Below w3.heap.size w3 w5 →
   stK ⟨bmx,0,none⟩ (T_api_Matrix.rep.cells ⟨W,H,tm⟩) w5 fun w6 =>
   ldP (⟨w.heap.size,0,none⟩:Addr) w6 fun t26 =>
   onPtr t26 fun t27 =>
   ldI .i64 ((t27.add 0).add 3) w6 fun t30 =>
   qed t30 w6 fun t31 w7 =>
   nw qbh [(.int .i64 0)] w7 fun n w8 =>
   stK n [(.int .i64 t31)] w8 fun w9 =>
   ldI .i64 n w9.drew fun t32 =>
   ldP (⟨w.heap.size,0,none⟩:Addr) w9.drew fun t33 =>
   onPtr t33 fun t34 =>
   ldI .i64 ((t34.add 0).add 2) w9.drew fun t37 =>
   (8:Int)≠0 ∧
   nw qbh [(.int .i64 0)] w9.drew fun step w10 =>
   World.cell? w10 ((t34.add 0).add 2)=some (.int .i64 t37) ∧
   World.cell? w10 (⟨w.heap.size,0,none⟩:Addr)=some (.pointer t33) ∧
   World.cell? w10 n=some (.int .i64 t32) ∧
   stK step [(.int .i64 (IntKind.i64.wrap ((IntKind.i64.wrap ((IntKind.i64.wrap (t32*t37))+(7:Int))).tdiv (8:Int))))] w10 fun w11 =>
   nw qab [(.slice none 0 0)] w11 fun ahead w12 =>
   ldP (⟨w.heap.size,0,none⟩:Addr) w12 fun t41 =>
   onPtr t41 fun t42 =>
   ldS T_png_Head.rep (t42.add 0) w12 fun t44 =>
   qd8 t44 ((.func (.func qhd) #[] #[(.pointer (some n)),(.pointer (some ⟨w.heap.size,0,none⟩)),(.pointer (some ahead)),(.pointer (some ⟨w1.heap.size,0,none⟩)),(.pointer (some step)),(.pointer (some ⟨bmx,0,none⟩))]):Value) w12 fun t46 w13 =>
   cond (!t46)
    (
    stK ⟨w2.heap.size,0,none⟩ [(.int .i64 0),(.int .i64 0),(.slice none 0 0)] w13 fun w14 =>
    ldS T_api_Matrix.rep ⟨w2.heap.size,0,none⟩ w14 fun r =>
    K r 3 w14)
    (
    ldS T_api_Matrix.rep ⟨bmx,0,none⟩ w13 fun t50 =>
    stK ⟨w2.heap.size,0,none⟩ (T_api_Matrix.rep.cells t50) w13 fun w15 =>
    ldS T_api_Matrix.rep ⟨w2.heap.size,0,none⟩ w15 fun r_1 =>
    K r_1 0 w15):=by
  intro bmx gm vs tm w5 hvl hbm hbmn htm hta hgm hB5
  refine qav hbm hvl.symm fun w6 hm6 hc6 hs6=>?_
  have tl:=htm.lt
  have hB36:Below w3.heap.size w3 w6:=b1o hB5 hc6 (by omega)
  have hm5:bmx<w5.heap.size:=hbm.lt
  have htm6:=htm.chg hc6 fun k hk=>qae htm hbm (by decide) k hk
  have hB16:Below w.heap.size w w6:=bT hB13 hB36
  have hF6:=hF.ext hB16
  have hf6:=hf.ext hB36
  refine qbf (x:=some ⟨g,0,none⟩) (qax hf6) ?_
  simp only [onPtr_some]
  refine lI (x:=F.h.Color) (by rw [add_zero];exact hF6.blk.cells 3 _ rfl) (qpw ?_)
  refine nwb fun w8 h8 hB8 hs8=>?_
  refine qav h8 rfl fun w9 h9 hc9 hs9=>?_
  have hB69:Below w6.heap.size w6 w9:=b1o hB8 hc9 (Nat.le_refl _)
  have hBd9:=bdw w9
  have hB69d:=bT hB69 hBd9
  have hF9:=hF6.ext hB69d
  refine lI (x:=((qac F.h.Color:Nat):Int)) (qax (h9.ext hBd9)) (qbf (x:=some ⟨g,0,none⟩) (qax (hf6.ext hB69d)) ?_)
  simp only [onPtr_some]
  refine lI (x:=F.h.Depth) (by rw [add_zero];exact hF9.blk.cells 2 _ rfl) ⟨by decide,?_⟩
  refine nwb fun w10 h10 hB10 hs10=>?_
  have hB910:=bT hB69d hB10
  have hF10:=hF6.ext hB910
  have h910:=(h9.ext hBd9).ext hB10
  refine ⟨by rw [add_zero];exact hF10.blk.cells 2 _ rfl,qax (hf6.ext hB910),qax h910,?_⟩
  have hst:IntKind.i64.wrap ((IntKind.i64.wrap ((IntKind.i64.wrap (((qac F.h.Color:Nat):Int)*F.h.Depth))+(7:Int))).tdiv (8:Int))=((qdq F.h:Nat):Int):=by
   have hs:=qcv hco
   have hd:1≤F.h.Depth.toNat∧F.h.Depth.toNat≤16:=by have:=hco.d;omega
   have hdn:F.h.Depth=((F.h.Depth.toNat:Nat):Int):=by have:=hco.d;omega
   have h2:qac F.h.Color*F.h.Depth.toNat≤4*16:=Nat.mul_le_mul hs.2 hd.2
   unfold qdq
   rw [hdn,show ((qac F.h.Color:Nat):Int)*((F.h.Depth.toNat:Nat):Int)=((qac F.h.Color*F.h.Depth.toNat:Nat):Int) by simp,Int.toNat_natCast]
   generalize qac F.h.Color*F.h.Depth.toNat=q at h2 ⊢
   rw [w64i (x:=((q:Nat):Int)) (by omega),w64i (x:=((q:Nat):Int)+7) (by omega),show ((q:Nat):Int)+7=((q+7:Nat):Int) by simp,show (8:Int)=((8:Nat):Int) from rfl,←Int.ofNat_tdiv,w64i (by omega)]
  rw [hst]
  refine qav h10 rfl fun w11 h11 hc11 hs11=>?_
  have hsz9:w9.drew.heap.size=w9.heap.size:=rfl
  refine nwb fun w12 h12 hB12 hs12=>?_
  have hB611:Below w6.heap.size w6 w11:=b1o hB910 hc11 (by have:=hB69.size;omega)
  have hB612:=bT hB611 hB12
  have hF12:=hF6.ext hB612
  refine qbf (x:=some ⟨g,0,none⟩) (qax (hf6.ext hB612)) ?_
  simp only [onPtr_some]
  refine qak (r:=T_png_Head.rep) (x:=F.h) (by rw [add_zero];exact hF12.head) ?_
  have hs6':w6.heap.size=w5.heap.size:=hs6
  have hb12:=((hb.ext hB5).chg hc6 (show w1.heap.size≠bmx by omega)).ext hB612
  have h3_12:=((h3.ext hB5).chg hc6 (show w2.heap.size≠bmx by omega)).ext hB612
  have hB3_12:=bT hB36 hB612
  have hBw12:Below w.heap.size w w12:=bT hB16 hB612
  have hn12:Blk w12 w6.heap.size qbh _:=(h910.chg hc11 (by omega)).ext hB12
  have hst12:Blk w12 w9.drew.heap.size qbh _:=h11.ext hB12
  have hc:PxC w w6.heap.size w.heap.size w11.heap.size (w1.heap.size) w9.drew.heap.size bmx gm tm:=⟨by omega,by omega,by omega,by omega,by omega,hta⟩
  have hI0:PxI w g F W H w6.heap.size w.heap.size w11.heap.size (w1.heap.size) w9.drew.heap.size bmx gm tm ⟨xs,[],List.replicate (4*W*H) 0⟩ w12:=by
   refine ⟨hn12,hf6.ext hB612,hst12,hm6.ext hB612,⟨⟨none,0,0⟩,h12,Own.nil _ _ _,fun k hk=>by cases hk⟩,⟨bS,hb12,hx⟩,(htm6.ext hB612).base (by omega),hBw12⟩
  have hval:qfl F xs=(qbn F (rowsL F.h) ⟨xs,[],List.replicate (4*W*H) 0⟩).map (·.m):=by
   unfold qfl
   rw [hh.wn,hh.hn]
  refine q8k hh (fun L w13=>∃S,qbn F L ⟨xs,[],List.replicate (4*W*H) 0⟩=some S∧S.m.length=4*W*H∧PxI w g F W H w6.heap.size w.heap.size w11.heap.size (w1.heap.size) w9.drew.heap.size bmx gm tm S w13∧Blk w13 (w2.heap.size) qal [(.int .i64 0),(.int .i64 0),(.slice none 0 0)]∧w12.heap.size≤w13.heap.size)
   (fun w13=>qfl F xs=none∧Blk w13 (w2.heap.size) qal [(.int .i64 0),(.int .i64 0),(.slice none 0 0)]∧Below w.heap.size w w13) ⟨_,rfl,by simp,hI0,h3_12,Nat.le_refl _⟩ ?_ ?_ ?_ ?_
  ·rintro L wa wb ⟨S,a,b,c,d',e⟩ hB
   exact ⟨S,a,b,c.ext hB,d'.ext hB,by have:=hB.size;omega⟩
  ·rintro L r R wa hL ⟨S,a,bb,c,d',e⟩ hsa J hJ1 hJ0
   refine qhi (by kernel_rfl) ?_
   have hcall:qhz (passT r.1) (r.2.1:Int) (r.2.2:Int) ⟨w6.heap.size,0,none⟩ ⟨w.heap.size,0,none⟩ ⟨w11.heap.size,0,none⟩ ⟨w1.heap.size,0,none⟩ ⟨w9.drew.heap.size,0,none⟩ ⟨bmx,0,none⟩ wa J:=by
    obtain ⟨sa,q1,q2,q3⟩:=c.ah
    obtain ⟨sb,q4,q5⟩:=c.b
    refine zce hF ho hh hpl htl hc hL hxn hxl a bb c (fun S' wb hS' hm' hI' hch=>?_) (fun wb hS' hch=>?_)
    ·refine hJ1 wb ⟨S',qz9 a hS',hm',hI',d'.chg hch (by omega),by have:=hch.size;omega⟩ ?_ hch.size
     refine zb7 hch fun k hk=>?_
     rcases hk with rfl | rfl | rfl
     ·exact ⟨_,_,q1,by decide,by decide⟩
     ·exact ⟨_,_,q4,by decide,by decide⟩
     ·obtain ⟨cs,hcs⟩:=c.row.blk_t (g:=k) (by unfold Slc.blk;rw [hta];rfl)
      exact ⟨_,_,hcs,by decide,by decide⟩
    ·refine hJ0 wb ⟨?_,d'.chg hch (by omega),c.B.trans (hch.below (by have:=c.B.size;omega) fun i hi e=>by omega)⟩
     rw [hval,hL,qsn a hS']
     rfl
   refine Calls.mono hcall ?_
   rintro e w' ⟨r,rfl,hk⟩
   exact ⟨r,rfl,hk⟩
  ·rintro wa ⟨S,a,bb,c,d',e⟩
   refine cF rfl (qak (r:=T_api_Matrix.rep) (x:=⟨W,H,tm⟩) c.m.cells ?_)
   refine qa5 (r:=T_api_Matrix.rep) (x:=⟨W,H,tm⟩) d' rfl rfl fun wb hcb hsb=>?_
   rw [a] at hval
   exact hY S.m hval tm wb ((c.row.chg hcb fun k hk=>qae c.row d' (by decide) k hk).base (by omega)) bb (b1o c.B hcb (by omega))
  ·rintro wa ⟨a,d',e⟩
   refine cT rfl ?_
   exact qa5 (r:=T_api_Matrix.rep) (x:=⟨0,0,⟨none,0,0⟩⟩) d' rfl rfl fun wb hcb hsb=>hN a wb (b1o e hcb (by omega))
 refine ⟨?_,?_⟩
 ·refine qxx hh.w1 hh.w2 hh.h1 hh.h2 hA fun tm gm w4 htm hta hgm hB4=>?_
  have hBd4:Below w3.heap.size w3 w4:=bT hBd hB4
  refine nwb fun w5 h5 hB5 hs5=>?_
  have hB35:=bT hBd4 hB5
  refine ⟨by rw [add_zero];exact chh hB35,qax (hf.ext hB35),by rw [add_zero];have:=cw hB35;rwa [add_zero] at this ⊢,qax (hf.ext hB35),?_⟩
  exact tail _ gm _ tm w5 rfl h5 (by have:=hB4.size;omega) (htm.ext hB5) hta (by omega) hB35
 ·refine nwb fun w5 h5 hB5 hs5=>?_
  have hB35:=bT hBd hB5
  refine ⟨by rw [add_zero];exact chh hB35,qax (hf.ext hB35),by rw [add_zero];have:=cw hB35;rwa [add_zero] at this ⊢,qax (hf.ext hB35),?_⟩
  refine qxx hh.w1 hh.w2 hh.h1 hh.h2 hA fun tm gm w4 htm hta hgm hB4=>?_
  exact tail _ gm _ tm w4 rfl (h5.ext hB4) (by omega) (htm.base (by omega)) hta (by omega) (bT hB35 hB4)
end
end Go.Proofs.YtmagnpcgpinmcaaGreat
set_option linter.unusedVariables false
namespace Go.Proofs.YtmagnpcgpinmcaaGreat
open Go.Vc Go.RowKit
set_option maxRecDepth 400000
theorem q2w {b:List UInt8} {pixels:Int} (h:(qa7 false b).1≠0):(qdg b pixels).1=(qa7 false b).1:=by
 unfold qdg
 cases hc:qa7 false b with
 | mk e l =>
  rw [hc] at h
  match e,l with
  | 0,_=>exact absurd rfl h
  | e+1,_=>rfl
theorem q5q {b:List UInt8} {pixels:Int} {c:ChL} {l:List ChL} (h:qa7 false b=(0,c::l)):qdg b pixels=qp1 c l pixels:=by
 unfold qdg
 rw [h]
 rfl
theorem Below.rdT {T:Type} {E:El T} {B:Nat} {w w':World} {s:Slc} {xs:List T} (h:Rd E w s xs) (hB:Below B w w') (hs:∀k,s.blk=some k→k<B):Rd E w' s xs:=h.chg (Chg.of_below hB) fun a ha e=>by have:=hs a.block (slk.2 ⟨a,ha,rfl⟩);omega
section
variable {w:World}
theorem zf4 {b:Slc} {bs:List UInt8} {pixels:Int} {K:Option Addr→Int→World→Prop} (hb:Rd qaa w b bs) (hbl:∀k,b.blk=some k→k<w.heap.size) (hl:bs.length≤1000000)
  (hE:(qdg bs pixels).1≠0→∀w',Below w.heap.size w w'→K none ((qdg bs pixels).1:Nat) w') (hO:(qdg bs pixels).1=0→∀g b p t d w',FilA w' g b (qdg bs pixels).2 p t d→w.heap.size≤g→Below w.heap.size w w'→K (some ⟨g,0,none⟩) 0 w'):quq b pixels w K:=by
 refine q88 _ _ ?_
 unfold qse
 refine zei hb hbl hl fun s w1 hcs hB1=>?_
 obtain ⟨f1,f2,f3,f4⟩:=qog false bs
 refine cO (fun e=>?_) fun e=>?_
 ·have e:(qa7 false bs).1≠0:=fun h=>by rw [h] at e;cases e
  rw [q2w e] at hE
  exact hE e w1 hB1
 have e0:(qa7 false bs).1=0:=by
  rcases Nat.eq_zero_or_pos (qa7 false bs).1 with h | h
  ·exact h
  ·rw [qbk (by omega)] at e;cases e
 obtain ⟨c,l,hcl⟩:=f4 e0
 have hcp:qa7 false bs=(0,c::l):=by rw [←e0,←hcl]
 rw [hcl] at f1 f2 f3 hcs
 rw [q5q hcp] at hE hO
 obtain ⟨xs,hxs,hxl,hxc⟩:=hcs
 have hxl:xs.length=l.length+1:=hxl
 have hds:dsum (c::l)=c.data.length+dsum l:=by simp [dsum]
 rw [hds] at f1
 rw [List.length_cons] at f3
 have hrd:=hxs.rd
 obtain ⟨x0,hx0⟩:∃x0,xs[0]?=some x0:=⟨_,List.getElem?_eq_getElem (by omega)⟩
 have hc0:=hxc 0 x0 c hx0 rfl
 refine hrd.ix (i:=0) (k:=2) rfl (by omega) (by omega) fun _=>?_
 refine qak (r:=T_png_Chunk.rep) (x:=x0) (hrd.at_ 0 x0 hx0) ?_
 refine zgr hc0.a fun w2 hB2=>?_
 refine nwb fun w3 h3 hB3 hs3=>qav h3 rfl fun w4 h4 hc4 hs4=>?_
 have hB14:Below w1.heap.size w1 w4:=b1o (bT hB2 hB3) hc4 hB2.size
 have hB4:=bT hB1 hB14
 unfold qp1 at hE hO
 refine cO (fun e=>?_) fun e=>?_
 ·have e:(headP c).1≠0:=fun h=>by rw [h] at e;cases e
  rw [if_pos e] at hE
  exact hE e w4 hB4
 have e1:(headP c).1=0:=by
  rcases Nat.eq_zero_or_pos (headP c).1 with h | h
  ·exact h
  ·rw [qbk (by omega)] at e;cases e
 rw [if_neg (by omega)] at hE hO
 obtain ⟨h,hh⟩:∃h,h=(headP c).2:=⟨_,rfl⟩
 rw [←hh] at hE hO h4
 have hck:qdo h=0:=by rw [hh];exact q4j e1
 obtain ⟨⟨W,H,ho⟩,hco⟩:=qfr hck
 have hWH:W*H≤16384*16384:=Nat.mul_le_mul ho.w2 ho.h2
 refine lI (x:=h.W) (h4.cells 0 _ rfl) (lI (x:=h.H) (h4.cells 1 _ rfl) ?_)
 have hmul:h.W*h.H=((W*H:Nat):Int):=by rw [ho.w,ho.h];simp
 rw [hmul] at hE hO ⊢
 rw [w64i (x:=((W*H:Nat):Int)) (by omega)]
 have hmin:((W*H:Nat):Int)>(if (67108864:Int)<pixels then (67108864:Int) else pixels)↔((W*H:Nat):Int)>pixels∨((W*H:Nat):Int)>67108864:=by
  split<;>omega
 refine cO (fun e=>?_) fun e=>?_
 ·have e:=hmin.1 (of_decide_eq_true e)
  rw [if_pos e] at hE
  exact hE (show (5:Nat)≠0 by decide) w4 hB4
 have e2:=fun h=>of_decide_eq_false e (hmin.2 h)
 rw [if_neg e2] at hE hO
 refine qak (r:=T_png_Head.rep) (x:=h) h4.cells ?_
 refine nwb fun w5 h5 hB5 hs5=>?_
 have hB15:=bT hB14 hB5
 obtain ⟨g,hg⟩:∃g,g=w4.heap.size:=⟨_,rfl⟩
 rw [←hg] at h5 ⊢
 have hf0:FilA w5 g g (fil0 h) ⟨none,0,0⟩ ⟨none,0,0⟩ ⟨none,0,0⟩:=⟨h5,Rd.nil _ _,Rd.nil _ _,Own.nil _ _ _,(fun k hk=>by cases hk),(fun k hk=>by cases hk)⟩
 have hxs5:=hxs.ext hB15
 refine hxs5.rd.slK (l:=1) (m:=xs.length) rfl (.inr rfl) (.inl ⟨rfl,rfl⟩) (by omega) (by omega) fun hp=>?_
 rw [List.take_length] at hp
 have hs15:=hB15.size
 have hs1g:w1.heap.size≤g:=by rw [hg];exact hB14.size
 have hblk:∀k,(⟨cut s.a 1 s.c qnh.k,xs.length-1,s.c-1⟩:Slc).blk=some k→k<g:=fun k hk=>by
  obtain ⟨a,ha,rfl⟩:=slk.1 hk
  obtain ⟨a',ha',e⟩:=qep ha
  have:=(hxs.lt a'.block (slk.2 ⟨a',ha',rfl⟩)).2
  rw [e]
  omega
 have hn:xs.length-1=l.length:=by omega
 rw [hn] at hp hblk ⊢
 have h45:Blk w5 w2.heap.size qa9 (T_png_Head.rep.cells h):=h4.ext hB5
 have hs2g:w2.heap.size<g:=by rw [hg];have:=h4.lt;omega
 refine lpR (fun (st:Int×Unit) w6=>∃(i:Nat) (F:FilL) (p t d:Slc) (m:Nat),st.1=i∧i≤l.length∧FilA w6 g g F p t d∧FilOk F∧F.h=h∧qbq (fil0 h) l=qbq F (l.drop i)∧Below g w5 w6∧(F.data.length≤m∧F.pal.length≤m∧F.tr.length≤m)∧m+dsum (l.drop i)≤bs.length) (fun st=>l.length-st.1.toNat)
  ⟨0,fil0 h,_,_,_,0,rfl,by omega,hf0,q7w hck,rfl,rfl,Below.refl _ _,⟨Nat.le_refl _,Nat.le_refl _,Nat.le_refl _⟩,by rw [List.drop_zero];omega⟩ ?_
 rintro ⟨i,u⟩ w6 ⟨i,F,p,t,d,m,rfl,hi,hF,hFo,hFh,htk,hB56,hlen,hsum⟩ I hI
 dsimp only
 have hBw6:Below w.heap.size w w6:=(bT hB1 hB15).trans (hB56.mono (by have:=hB1.size;omega))
 refine cO (fun hlt=>?_) fun hge=>?_
 ·have hlt:=of_decide_eq_true hlt
  have hil:i<l.length:=by omega
  obtain ⟨ci,hci⟩:∃ci,l[i]?=some ci:=⟨_,List.getElem?_eq_getElem hil⟩
  obtain ⟨xi,hxi⟩:∃xi,xs[i+1]?=some xi:=⟨_,List.getElem?_eq_getElem (by omega)⟩
  have hoi:=hxc (i+1) xi ci hxi (by simpa using hci)
  have hdrop:l.drop i=ci::l.drop (i+1):=by
   rw [List.getElem?_eq_getElem hil] at hci
   rw [←Option.some.inj hci,←List.drop_eq_getElem_cons]
  have hmem:ci∈c::l:=List.mem_cons_of_mem _ (List.mem_of_getElem? hci)
  have hdsum:dsum (l.drop i)=ci.data.length+dsum (l.drop (i+1)):=by rw [hdrop];simp [dsum]
  rw [hdsum] at hsum
  have hp6:=Below.rdT hp hB56 hblk
  have hxi':(xs.drop 1)[i]?=some xi:=by rw [List.getElem?_drop,Nat.add_comm];exact hxi
  refine hp6.ix (i:=(i:Int)) (k:=2) rfl (by omega) (by rw [List.length_drop];omega) fun _=>?_
  refine qak (r:=T_png_Chunk.rep) (x:=xi) (hp6.at_ i xi hxi') ?_
  refine nwb fun w7 h7 hB7 hs7=>qav h7 rfl fun w8 h8 hc8 hs8=>?_
  have hB68:Below w6.heap.size w6 w8:=b1o hB7 hc8 (Nat.le_refl _)
  refine qak (r:=T_png_Chunk.rep) (x:=xi) h8.cells ?_
  have hg6:g≤w6.heap.size:=by have:=hF.blk.lt;omega
  have hB58:Below g w5 w8:=hB56.trans (hB68.mono hg6)
  have hxblk:∀k,xi.Data.blk=some k→k<g:=fun k hk=>by have:=(hoi.data.lt k hk).2;omega
  have hxa:ChA w8 xi ci:=⟨hoi.kind,Below.rdT (hoi.data.rd.ext hB15) hB58 hxblk⟩
  rw [hdrop,qbq] at htk
  refine zg4 (hF.ext hB68) (by rw [hFh];exact hco) hxa hxblk (Nat.le_refl _) (f2 ci hmem) (by omega) (by omega) (by omega) (fun w9 hne hB9=>?_) (fun h0 p' t' d' w9 hF9 hB9=>?_)
  ·rw [if_pos hne] at htk
   have hBw9:Below w.heap.size w w9:=(hBw6.trans (hB68.mono (by have:=hBw6.size;omega))).trans (hB9.mono (by have:=hB1.size;omega))
   refine cT (qbk (by omega)) ?_
   rw [htk] at hE
   rw [if_pos hne] at hE
   exact hE hne w9 hBw9
  ·rw [if_neg (by omega)] at htk
   refine cF rfl ?_
   rw [w64i (by omega)]
   obtain ⟨ho9,hh9⟩:=q3t hFo h0
   obtain ⟨l1,l2,l3⟩:=qy9 (c:=ci) hlen
   exact hI _ _ ⟨i+1,(takeP F ci).2,p',t',d',m+ci.data.length,rfl,by omega,hF9,ho9,hh9.trans hFh,htk,hB58.trans hB9,⟨l1,l2,l3⟩,by omega⟩ (by simp;omega)
 ·have hge:=of_decide_eq_false hge
  obtain rfl:i=l.length:=by omega
  rw [List.drop_length,qbq] at htk
  rw [htk] at hE hO
  rw [if_neg (by simp)] at hE hO
  refine qbj (x:=F.hasD) (hF.blk.cells 10 _ rfl) ?_
  refine cO (fun e=>?_) fun e=>?_
  ·have e:F.hasD=false:=by simpa using e
   rw [if_pos (.inl e)] at hE
   exact hE (show (3:Nat)≠0 by decide) w6 hBw6
  have e3:F.hasD=true:=by simpa using e
  have h46:Blk w6 w2.heap.size qa9 (T_png_Head.rep.cells h):=h45.below hB56 hs2g
  refine lI (x:=h.Color) (h46.cells 3 _ rfl) ?_
  refine cO (fun e=>?_) fun e=>?_
  ·have e:h.Color=3:=eq_of_beq e
   refine qbj (x:=F.hasP) (hF.blk.cells 7 _ rfl) ?_
   refine cO (fun e4=>?_) fun e4=>?_
   ·have e4:F.hasP=false:=by simpa using e4
    rw [if_pos (.inr ⟨e,e4⟩)] at hE
    exact hE (show (3:Nat)≠0 by decide) w6 hBw6
   ·have e4:F.hasP=true:=by simpa using e4
    rw [if_neg (by rw [e3,e4];simp)] at hO
    exact hO rfl g g p t d w6 hF (by have:=hB1.size;omega) hBw6
  ·have e:h.Color≠3:=by simpa using e
   rw [if_neg (by rw [e3];simp [e])] at hO
   exact hO rfl g g p t d w6 hF (by have:=hB1.size;omega) hBw6
theorem zdi {b:Slc} {bs:List UInt8} {pixels:Int} {K:T_api_Matrix→Int→World→Prop} (hb:Rd qaa w b bs) (hbl:∀k,b.blk=some k→k<w.heap.size) (hl:bs.length≤1000000) (hpx:pixels≤4000000)
  (hE:(qdu bs pixels).1≠0→∀w',Below w.heap.size w w'→K ⟨0,0,⟨none,0,0⟩⟩ ((qdu bs pixels).1:Nat) w')
  (hO:∀W H m,qdu bs pixels=(0,W,H,m)→∀s w',Go.Vc.Own qaa w' w.heap.size s m→m.length=4*W*H→Below w.heap.size w w'→K ⟨W,H,s⟩ 0 w'):qp9 b pixels w K:=by
 refine q5d _ _ ?_
 unfold qnv
 refine nwb fun w1 h1 hB1 hs1=>?_
 unfold qdu at hE hO
 have bad:∀(n:Nat) w2,Below w1.heap.size w1 w2→(∀w',Below w.heap.size w w'→K ⟨0,0,⟨none,0,0⟩⟩ (n:Int) w')→stK ⟨w.heap.size,0,none⟩ [(.int .i64 0),(.int .i64 0),(.slice none 0 0)] w2 fun w3=>ldS T_api_Matrix.rep ⟨w.heap.size,0,none⟩ w3 fun r=>K r (n:Int) w3:=fun n w2 hB hk =>
  qa5 (r:=T_api_Matrix.rep) (x:=⟨0,0,⟨none,0,0⟩⟩) (h1.ext hB) rfl rfl fun w3 hc3 hs3=>hk w3 (b1o (bT hB1 hB) hc3 (Nat.le_refl _))
 refine zf4 (hb.ext hB1) (fun k hk=>by have:=hbl k hk;omega) hl (fun hne w2 hB2=>?_) (fun h0 g bb p t d w2 hF hgl hB2=>?_)
 ·rw [if_pos hne] at hE
  exact cT (qbk (by omega)) (bad _ w2 hB2 (hE hne))
 obtain ⟨hok,harea,hd,hp,ht⟩:=q57 h0
 rw [if_neg (by omega)] at hE hO
 obtain ⟨F,hFe⟩:∃F,F=(qdg bs pixels).2:=⟨_,rfl⟩
 rw [←hFe] at hE hO hF hok harea hd hp ht
 obtain ⟨⟨W,H,hh⟩,hco⟩:=qfr hok.hd
 have hmul:F.h.W*F.h.H=((W*H:Nat):Int):=by rw [hh.w,hh.h];simp
 rw [hmul] at harea
 have hneed:=zbg hh (M:=W*H) (Nat.le_refl _)
 refine cF rfl (q68 ?_)
 refine qak (r:=T_png_Head.rep) (x:=F.h) (by rw [add_zero];exact hF.head) ?_
 refine zi9 hh fun w4 hB4=>q68 ?_
 have hF4:=hF.ext hB4
 have hB24:=bT hB2 hB4
 refine lSl (x:=d) (hF4.blk.cells 9 _ rfl) ?_
 obtain ⟨u1,u2,u3⟩:=qpf (needP F.h) F.data
 unfold decF at hE hO
 refine q2m (by omega) hF4.data.rd (fun k hk=>(hF4.data.lt k hk).2) (by omega) u1 u2 u3 (fun hz o w5 ho hB5=>?_) (fun n hz hn w5 hB5=>?_)
 ·have hz:unErr (needP F.h) F.data=0:=hz
  rw [hz,if_neg (by decide)] at hE hO
  have hB15:=bT hB24 hB5
  have hF5:=hF4.ext hB5
  have hu:((6+((unRun (needP F.h) F.data).2.1+7)/8:Nat):Int)=((qgr (needP F.h) F.data:Nat):Int):=rfl
  rw [hu,ho.rd.n]
  have hoo:(unRun (needP F.h) F.data).1.hist=unOut (needP F.h) F.data:=rfl
  rw [hoo] at ho ⊢
  obtain ⟨xs,hxs⟩:∃xs,xs=unOut (needP F.h) F.data:=⟨_,rfl⟩
  rw [←hxs] at ho hE hO ⊢
  have hxm:xs.length≤needP F.h:=by rw [hxs];exact u1.most (Nat.zero_le _)
  refine jpO fun J1 hJ1=>?_
  refine cF rfl (jpO fun J2 hJ2=>?_)
  have key:∀bb':Bool,(bb'=true↔xs.length<needP F.h∨qgr (needP F.h) F.data<F.data.length)→J2 (bb',()) w5:=by
   intro bb' hbb
   refine hJ2 _ _ (cO (fun e=>?_) fun e=>?_)
   ·rw [if_pos (hbb.1 e)] at hE
    exact bad 3 w5 hB15 (hE (show (3:Nat)≠0 by decide))
   ·have hn:¬(xs.length<needP F.h∨qgr (needP F.h) F.data<F.data.length):=fun h=>by rw [hbb.2 h] at e;cases e
    rw [if_neg hn] at hE hO
    refine hJ1 _ _ ?_
    refine zem hF5 hok hh (by omega) (by omega) (by omega) ho.rd (by omega) (by omega) (fun hpn w7 hB7=>?_) (fun m hpm s w7 hs hml hB7=>?_)
    ·rw [hpn] at hE
     exact bad 3 w7 (bT hB15 hB7) (hE (show (3:Nat)≠0 by decide))
    ·rw [hpm] at hO
     have hB17:=bT hB15 hB7
     refine qa5 (r:=T_api_Matrix.rep) (x:=⟨W,H,s⟩) (h1.ext hB17) rfl rfl fun w8 hc8 hs8=>?_
     have e1:(0,F.h.W.toNat,F.h.H.toNat,m)=(0,W,H,m):=by rw [hh.wn,hh.hn]
     exact hO W H m e1 s w8 ((hs.chg hc8 fun k hk=>qae hs (h1.ext hB17) (by decide) k hk).base (by have:=hB1.size;have:=hB15.size;omega)) hml (b1o (bT hB1 hB17) hc8 (Nat.le_refl _))
  refine cO (fun e=>key _ ?_) fun e=>?_
  ·have e:=of_decide_eq_true e
   simp
   exact .inl (by omega)
  ·have e:=of_decide_eq_false e
   refine q68 (lSl (x:=d) (hF5.blk.cells 9 _ rfl) (key _ ?_))
   rw [hF5.data.rd.n,decide_eq_true_iff]
   omega
 ·have hz:unErr (needP F.h) F.data=n:=hz
  rw [hz,if_pos hn] at hE
  refine jpO fun J1 hJ1=>?_
  exact cT (qbk (by omega)) (bad n w5 (bT hB24 hB5) (hE hn))
end
end Go.Proofs.YtmagnpcgpinmcaaGreat
set_option linter.unusedVariables false
namespace Go.Proofs.YtmagnpcgpinmcaaGreat
open Go.Vc Go.RowKit
set_option maxRecDepth 400000
theorem q4l (n:Nat):qah (List.replicate n 0)=List.replicate n (.int .u8 0):=by
 unfold qah
 rw [List.map_replicate]
 rfl
theorem mkB {n m:Nat} {l c:Int} (hl:l=n) (hc:c=m) (hnm:n≤m) (hm:m≤100000000000) {w:World} {K:Slc→World→Prop}
  (hK:∀w',Go.Vc.Own qaa w' w.heap.size ⟨some ⟨w.heap.size,0,none⟩,n,m⟩ (List.replicate n 0)→Below w.heap.size w w'→K ⟨some ⟨w.heap.size,0,none⟩,n,m⟩ w'):mkSl PG qab (.int .i64 l) (.int .i64 c) w K:=by
 subst hl hc
 have hr:=run_make (P:=PG) w qab qaa.t qar.i qar.z qar.ht qar.hi qar.hz .i64 .i64 (n:Int) (m:Int) (by omega) (by omega) (by rw [qcg];omega) (by omega)
 refine ⟨⟨some ⟨w.heap.size,0,none⟩,n,m⟩,_,by simpa using hr,hK _ ?_ ((Below.refl _ w).alloc (Nat.le_refl _) _)⟩
 have hcur:(madeCells qar.z.cells ((m:Int).toNat*qar.i.size)).toList=List.replicate m (.int .u8 0):=by
  have hs:qar.i.size=1:=qar.hs
  rw [hs,Int.toNat_natCast,Nat.mul_one]
  refine List.ext_getElem? fun j=>?_
  have hz:qar.z.cells=#[.int .u8 0]:=rfl
  rw [hz]
  by_cases hj:j<m
  ·rw [Array.getElem?_toList,List.getElem?_replicate,if_pos hj]
   simp [madeCells,hj]
   rw [Nat.mod_one]
   rfl
  ·rw [List.getElem?_eq_none (by simp [madeCells];omega),List.getElem?_eq_none (by simp;omega)]
 have hb:Blk (w.alloc (.cells (madeCells qar.z.cells ((m:Int).toNat*qar.i.size)) qaa.t)) w.heap.size qaa.t (List.replicate m (.int .u8 0)):=by
  have:=Blk.new w qaa.t (madeCells qar.z.cells ((m:Int).toNat*qar.i.size)).toList
  rw [hcur,←hcur,Array.toArray_toList] at this
  rw [hcur] at this
  exact this
 have:=Go.Vc.Own.of_blk (E:=qaa) (xs:=List.replicate n (0:UInt8)) (c:=m) (base:=w.heap.size) (Nat.le_refl _) hb (by simpa using hnm) (by unfold maxLen;omega) (by rw [List.length_replicate];exact (Nat.mul_one _).symm) (by
  rw [qst,q4l,List.length_replicate]
  show (List.replicate m _).take (n*1)=_
  rw [Nat.mul_one,List.take_replicate,Nat.min_eq_left hnm])
 simpa using this
section
variable {w:World}
end
end Go.Proofs.YtmagnpcgpinmcaaGreat
set_option linter.unusedVariables false
namespace Go.Proofs.YtmagnpcgpinmcaaGreat
open Go.Vc Go.RowKit
set_option maxRecDepth 400000
section
variable {w:World}
end
end Go.Proofs.YtmagnpcgpinmcaaGreat
set_option linter.unusedVariables false
namespace Go.Proofs.YtmagnpcgpinmcaaGreat
open Go.Vc Go.RowKit
set_option maxRecDepth 400000
section
variable {w:World}
end
end Go.Proofs.YtmagnpcgpinmcaaGreat
set_option linter.unusedVariables false
namespace Go.Proofs.YtmagnpcgpinmcaaGreat
open Go.Vc
set_option maxRecDepth 400000
end Go.Proofs.YtmagnpcgpinmcaaGreat
set_option linter.unusedVariables false
namespace Go.Proofs.YtmagnpcgpinmcaaGreat
open Go.Vc
set_option maxRecDepth 400000
end Go.Proofs.YtmagnpcgpinmcaaGreat
set_option linter.unusedVariables false
namespace Go.Proofs.YtmagnpcgpinmcaaGreat
open Go.Vc Go.RowKit
set_option maxRecDepth 400000
section
variable {w:World}
end
end Go.Proofs.YtmagnpcgpinmcaaGreat
set_option linter.unusedVariables false
namespace Go.Proofs.YtmagnpcgpinmcaaGreat
open Go.Vc Go.RowKit
set_option maxRecDepth 400000
section
variable {w:World}
end
end Go.Proofs.YtmagnpcgpinmcaaGreat
set_option linter.unusedVariables false
namespace Go.Proofs.YtmagnpcgpinmcaaGreat
open Go.Vc Go.RowKit
set_option maxRecDepth 400000
theorem Rd.slE {T:Type} {E:El T} {w:World} {s:Slc} {xs:List T} (h:Rd E w s xs) {lo hi:Option Int} {k:Nat} (hk:k=E.k) {l m:Nat} {K:Slc→Prop} (hlo:lo=none∧l=0∨lo=some (l:Int)) (hhi:hi=none∧m=xs.length∨hi=some (m:Int))
  (hl:l≤m) (hm:m≤xs.length) (hK:∀r:Slc,Rd E w r ((xs.take m).drop l)→(∀k,r.blk=some k→s.blk=some k)→K r):slK s lo hi k K :=
 h.slK hk hlo hhi hl hm fun hr=>hK _ hr fun k hk=>by
  obtain ⟨a,ha,rfl⟩:=slk.1 hk
  obtain ⟨a',ha',e⟩:=qep ha
  exact slk.2 ⟨a',ha',e.symm⟩
section
variable {w:World}
end
end Go.Proofs.YtmagnpcgpinmcaaGreat
set_option linter.unusedVariables false
namespace Go.Vc
open Go.ChangeShapes Go.WideShapes Go.ChangeAt Go.RowKit Go.Deep
section
variable {H:Type} {enc:TypeId×Value→H} {P:Program} {w:World} {base:Nat} {spare:Nat→Bool} {held:Bool}
theorem q2t {T:Type} (E:El T) (Q:T→Prop) {t e:TypeId} {fuel:Nat} {cs:List Value} {x:DataW H×List MemPlace} (ht:P.underlying t=some (.slice e)) (hC:P.cellsOf e=E.k)
  (mk:∀(fuel:Nat) (vs:List Value) (y:DataW H×List MemPlace),vs.length=E.k→DataW.trod enc P w base (fun _=>true) held fuel e vs=some y→∃x:T,E.cells x=vs∧Q x) (hf:DataW.trod enc P w base (fun _=>true) held fuel t cs=some x):∃(s:Slc) (xs:List T),cs=[.slice s.a s.n s.c]∧Rd E w s xs∧∀x∈xs,Q x:=by
 rcases open_slice ht hf with ⟨hcs,_⟩ | ⟨a,n0,c0,m,n',D,Pl,hcs,hb,hl,hm,hmm,hx,hi⟩
 ·exact ⟨⟨none,0,0⟩,[],hcs,Rd.nil E w,fun x hx=>by cases hx⟩
 ·rw [if_pos rfl] at hmm
  have:∀i,i<n0→∃x:T,qbe w (a.add (i*E.k)) (E.cells x)∧Q x:=by
   intro i hil
   obtain ⟨cs',hc,ht'⟩:=hi i (by omega)
   rw [hC] at hc
   obtain ⟨_,hcl,hat⟩:=World.cells?_some hc
   obtain ⟨x,hx,hq⟩:=mk _ cs' _ hcl ht'
   refine ⟨x,fun j u hu=>?_,hq⟩
   rw [hx] at hu
   have hj:j<E.k:=by rw [←hcl];exact (List.getElem?_eq_some_iff.1 hu).1
   rw [hat j hj,hu]
  obtain ⟨xs,hxl,hxs⟩:=q2p n0 this
  refine ⟨⟨some a,n0,c0⟩,xs,hcs,⟨hxl.symm,hl,hm,fun _=>rfl,fun i x hx=>(hxs i x hx).1⟩,fun x hx=>?_⟩
  obtain ⟨i,hi⟩:=List.getElem?_of_mem hx
  exact (hxs i x hi).2
end
end Go.Vc
namespace Go.Proofs.YtmagnpcgpinmcaaGreat
open Go.Vc Go.ChangeShapes Go.WideShapes Go.ChangeAt Go.RowKit
set_option maxRecDepth 100000
section
variable {H:Type} {enc:TypeId×Value→H} {w:World} {base:Nat} {held:Bool} {r:Reach} {b0:Nat} {v:Value} {d:DataW H} {p:List MemPlace}
theorem q66 {t:TypeId} {fuel:Nat} {cs:List Value} {x:DataW H×List MemPlace} (ht:Tryz.prog.underlying t=some (.slice 5)) (hf:DataW.trod enc Tryz.prog w base (fun _=>true) held fuel t cs=some x):∃s:Slc,cs=[.slice s.a s.n s.c]∧∃xs,Rd qaa w s xs:=by
 have a:=@q2t H enc Tryz.prog w base held UInt8 qaa (fun _=>True) t 5 fuel cs x ht (by kernel_rfl) (fun fuel vs y hl hf=>zl6 vs hl (qy8 4 zdo hf)) hf
 obtain ⟨s,xs,h1,h2,h3⟩:=a
 exact ⟨s,h1,xs,h2⟩
end
section
variable {H:Type} {enc:TypeId×Value→H} {w:World} {base:Nat} {held:Bool} {r:Reach} {b0:Nat} {v:Value} {d:DataW H} {p:List MemPlace}
end
end Go.Proofs.YtmagnpcgpinmcaaGreat
set_option linter.unusedVariables false
namespace Go.Proofs.YtmagnpcgpinmcaaGreat
open Go.Vc Go.ChangeShapes Go.WideShapes Go.ChangeAt Go.RowKit
set_option maxRecDepth 100000
def zjz:List Leaf:=[.int .u8,.int .u8,.int .u8,.int .u8,.int .i64,.int .i64,.int .i64,.int .i64,.int .i64,.int .i64,.int .i64,.int .i64,.int .i64,.int .i64,.int .i64,.int .i64,.int .i64,.int .i64,.int .i64,.int .i64,.int .i64,.int .i64]
theorem zen:qpo Tryz.prog 4 qb5=some zjz:=by kernel_rfl
def keysE:El T_keys_Keys where
 cells:=T_keys_Keys.rep.cells
 t:=qb5
 k:=22
 pos:=by decide
 len _:=rfl
 one x v hv:=by
  simp only [T_keys_Keys.rep,List.mem_cons,List.mem_nil_iff,or_false] at hv
  rcases hv with rfl | rfl | rfl | rfl | rfl | rfl | rfl | rfl | rfl | rfl | rfl | rfl | rfl | rfl | rfl | rfl | rfl | rfl | rfl | rfl | rfl | rfl<;>rfl
theorem zl9 (vs:List Value) (hl:vs.length=22) (h:qpq zjz vs):∃x:T_keys_Keys,keysE.cells x=vs∧True:=by
 obtain ⟨z0,h0,_⟩:=qbl h 0 rfl
 obtain ⟨z1,h1,_⟩:=qbl h 1 rfl
 obtain ⟨z2,h2,_⟩:=qbl h 2 rfl
 obtain ⟨z3,h3,_⟩:=qbl h 3 rfl
 obtain ⟨z4,h4,_⟩:=qbl h 4 rfl
 obtain ⟨z5,h5,_⟩:=qbl h 5 rfl
 obtain ⟨z6,h6,_⟩:=qbl h 6 rfl
 obtain ⟨z7,h7,_⟩:=qbl h 7 rfl
 obtain ⟨z8,h8,_⟩:=qbl h 8 rfl
 obtain ⟨z9,h9,_⟩:=qbl h 9 rfl
 obtain ⟨z10,h10,_⟩:=qbl h 10 rfl
 obtain ⟨z11,h11,_⟩:=qbl h 11 rfl
 obtain ⟨z12,h12,_⟩:=qbl h 12 rfl
 obtain ⟨z13,h13,_⟩:=qbl h 13 rfl
 obtain ⟨z14,h14,_⟩:=qbl h 14 rfl
 obtain ⟨z15,h15,_⟩:=qbl h 15 rfl
 obtain ⟨z16,h16,_⟩:=qbl h 16 rfl
 obtain ⟨z17,h17,_⟩:=qbl h 17 rfl
 obtain ⟨z18,h18,_⟩:=qbl h 18 rfl
 obtain ⟨z19,h19,_⟩:=qbl h 19 rfl
 obtain ⟨z20,h20,_⟩:=qbl h 20 rfl
 obtain ⟨z21,h21,_⟩:=qbl h 21 rfl
 refine ⟨⟨z0,z1,z2,z3,z4,z5,z6,z7,z8,z9,z10,z11,z12,z13,z14,z15,z16,z17,z18,z19,z20,z21⟩,q2s hl fun j hj=>?_,trivial⟩
 match j,hj with
 | 0,_=>exact h0.symm
 | 1,_=>exact h1.symm
 | 2,_=>exact h2.symm
 | 3,_=>exact h3.symm
 | 4,_=>exact h4.symm
 | 5,_=>exact h5.symm
 | 6,_=>exact h6.symm
 | 7,_=>exact h7.symm
 | 8,_=>exact h8.symm
 | 9,_=>exact h9.symm
 | 10,_=>exact h10.symm
 | 11,_=>exact h11.symm
 | 12,_=>exact h12.symm
 | 13,_=>exact h13.symm
 | 14,_=>exact h14.symm
 | 15,_=>exact h15.symm
 | 16,_=>exact h16.symm
 | 17,_=>exact h17.symm
 | 18,_=>exact h18.symm
 | 19,_=>exact h19.symm
 | 20,_=>exact h20.symm
 | 21,_=>exact h21.symm
 | j+22,hj=>exact absurd hj (by simp [keysE,T_keys_Keys.rep])
section
variable {H:Type} {enc:TypeId×Value→H} {w:World} {base:Nat} {held:Bool} {r:Reach} {b0:Nat} {v:Value} {d:DataW H} {p:List MemPlace}
theorem zie {fs:Array Field} (ht:Tryz.prog.underlying qb5=some (.struct fs)) (hv:Value.okWide Tryz.prog w r b0 qb5 v) (h:DataW.Trod enc Tryz.prog w base (fun _=>true) held qb5 v d p):∃x:T_keys_Keys,v=.agg (keysE.cells x).toArray∧True :=
 zd3 keysE (fun _=>True) ht (by kernel_rfl) zen zl9 hv h
theorem zk0 {xs:List Slc} (h:∀x∈xs,∃f,Rd qaa w x f):∃pss,qqg w xs pss:=by
 induction xs with
 | nil=>exact ⟨[],rfl,fun i s f hs=>by simp at hs⟩
 | cons x xs ih =>
  obtain ⟨L,hL⟩:=ih fun y hy=>h y (by simp [hy])
  obtain ⟨f,hf⟩:=h x (by simp)
  refine ⟨f::L,by simp [hL.1],fun i y g hy hg=>?_⟩
  cases i with
  | zero=>cases hy;cases hg;exact hf
  | succ i=>exact hL.2 i y g (by simpa using hy) (by simpa using hg)
theorem ze5 {t:TypeId} (ht:Tryz.prog.underlying t=some (.slice 22)) (hv:Value.okWide Tryz.prog w r b0 t v) (h:DataW.Trod enc Tryz.prog w base (fun _=>true) held t v d p):∃(s:Slc) (ss:List Slc) (pss:List (List UInt8)),v=.slice s.a s.n s.c∧Rd qb2 w s ss∧qqg w ss pss:=by
 obtain ⟨a0,n0,c0,rfl⟩:=okWide_slice ht hv
 obtain ⟨fuel,hf⟩:=h
 have a:=@q2t H enc Tryz.prog w base held Slc qb2 (fun x=>∃f,Rd qaa w x f) t 22 fuel _ _ ht (by kernel_rfl) (fun fuel vs y hl hf=>by
  obtain ⟨s,hs,xs,hx⟩:=q66 (t:=22) (by kernel_rfl) hf
  exact ⟨s,hs.symm,xs,hx⟩) hf
 obtain ⟨s,xs,h1,h2,h3⟩:=a
 simp only [Value.cells,List.cons.injEq,and_true] at h1
 obtain ⟨L,hL⟩:=zk0 h3
 exact ⟨s,xs,L,h1,h2,hL⟩
end
end Go.Proofs.YtmagnpcgpinmcaaGreat
set_option linter.unusedVariables false
namespace Go.Proofs
open Go.Shelf
def Tryz.lays137_ren:Go.Shelf.Ren:=⟨fun | 137=>180 | 217=>203 | 266=>214 | n=>n,fun | 9=>9 | 5=>5 | 3=>3 | n=>n,fun | n=>n⟩
theorem Tryz.lays137:Go.Proofs.Lays.n137 Tryz.prog Tryz.lays137_ren:={
 mixed:=by kernel_rfl
 f137:=Tryz.func180.trans (congrArg some (by kernel_rfl))
 f217:=Tryz.func203.trans (congrArg some (by kernel_rfl))
 f266:=Tryz.func214.trans (congrArg some (by kernel_rfl))
 t3:=Tryz.underlying3
 a3:=Tryz.isAgg3
 z3:=Tryz.sizeOf3
 v3:=Tryz.zeroValue3
 t5:=Tryz.underlying5
 a5:=Tryz.isAgg5
 z5:=Tryz.sizeOf5
 v5:=Tryz.zeroValue5
 t9:=Tryz.underlying9
 a9:=Tryz.isAgg9
 z9:=Tryz.sizeOf9
 v9:=Tryz.zeroValue9 }
open Go.RowKit in
theorem Tryz.strings_IndexByte (s:ByteArray) (c:Int) (w:World) :
  Calls Tryz.prog 180 #[.string s,.int .u8 c] w fun e w'=>e=.returned (.int .i64 (Lib.indexByte s.data.toList c.toNat.toUInt8))∧w'=w:=Any.strings_IndexByte Tryz.lays137 s c w
end Go.Proofs
set_option linter.unusedVariables false
namespace Go.Proofs.YtmagnpcgpinmcaaGreat
open Go.Vc Go.RowKit
set_option maxRecDepth 400000
def q5x:List UInt8:=[65,66,67,68,69,70,71,72,73,74,75,76,77,78,79,80,81,82,83,84,85,86,87,88,89,90,97,98,99,100,101,102,103,104,105,106,107,108,109,110,111,112,113,114,115,116,117,118,119,120,121,122,48,49,50,51,52,53,54,55,56,57,43,47]
def valB (c:UInt8):Option Nat :=
 if 65≤c.toNat∧c.toNat≤90 then some (c.toNat-65) else if 97≤c.toNat∧c.toNat≤122 then some (c.toNat-97+26) else if 48≤c.toNat∧c.toNat≤57 then some (c.toNat-48+52) else if c.toNat=43 then some 62 else if c.toNat=47 then some 63 else none
theorem q0p {c:UInt8} {v:Nat} (h:valB c=some v):v<64:=by
 unfold valB at h
 repeat' split at h
 all_goals (first | (cases h;omega) | cases h)
def valI (c:UInt8):Int:=match valB c with | some v=>(v:Int) | none=>-1
theorem zig {P:UInt8→Prop} (h:∀n,n<256→P (UInt8.ofNat n)) (c:UInt8):P c:=by
 have:=h c.toNat c.toNat_lt
 rwa [UInt8.ofNat_toNat] at this
theorem zkz (c:UInt8):Lib.indexByte q5x c=valI c:=by
 have h:∀n,n<256→Lib.indexByte q5x (UInt8.ofNat n)=valI (UInt8.ofNat n):=by decide +kernel
 exact zig (P:=fun c=>Lib.indexByte q5x c=valI c) h c
structure B64 where
 w:List Nat
 f:Nat
 last:Bool
 bad:Bool
def b64N:B64:=⟨[],0,false,false⟩
def b64X:B64:=⟨[],0,false,true⟩
def valN (w:List Nat):Nat:=w.foldl (fun a x=>64*a+x) 0
def be3 (v:Nat):List UInt8:=[UInt8.ofNat (v/2^16),UInt8.ofNat (v/2^8),UInt8.ofNat v]
def outB (w:List Nat):List UInt8:=(be3 (valN w*2^(6*(4-w.length)))).take (w.length*6/8)
def qdc (w:List Nat):Bool:=decide (valN w%2^(w.length*6%8)=0)
def qd5 (s:B64):List UInt8×B64:=if s.w.length+s.f<4 then ([],s) else (outB s.w,⟨[],0,decide (0<s.f),false⟩)
def qck (s:B64) (c:UInt8):Option (List UInt8×B64) :=
 if s.last then none
 else if c.toNat=61 then (if s.w.length+s.f<2∨qdc s.w=false then none else some (qd5 { s with f:=s.f+1 }))
 else match valB c with
  | none=>none
  | some v=>if 0<s.f then none else some (qd5 { s with w:=s.w++[v] })
def qbw (s:B64) (c:UInt8):Nat×List UInt8×B64 :=
 if s.bad then (3,[],b64X) else match qck s c with
  | none=>(3,[],b64X)
  | some (o,s')=>(0,o,s')
def qcp (s:B64):Nat×List UInt8×B64 :=
 if s.bad∨s.w.length+s.f=1∨0<s.f∨qdc s.w=false then (3,[],b64X) else (0,outB s.w,b64N)
structure B64Ok (s:B64):Prop where
 n:s.w.length+s.f<4
 v:∀x∈s.w,x<64
 two:0<s.f→2≤s.w.length
theorem q77 (w:List Nat) (x:Nat):valN (w++[x])=64*valN w+x:=by simp [valN]
theorem zfr:∀(w:List Nat) (a n:Nat),a<64^n→(∀x∈w,x<64)→w.foldl (fun a x=>64*a+x) a<64^(n+w.length)
 | [],a,n,h,_=>by simpa using h
 | x::w,a,n,h,hw=>by
  have hx:=hw x (by simp)
  have:=zfr w (64*a+x) (n+1) (by rw [Nat.pow_succ];omega) fun y hy=>hw y (by simp [hy])
  rw [List.foldl_cons,List.length_cons,show n+(w.length+1)=n+1+w.length by omega]
  exact this
theorem qtu (w:List Nat) (h:∀x∈w,x<64):valN w<64^w.length:=by
 have:=zfr w 0 0 (by decide) h
 rwa [Nat.zero_add] at this
theorem qpm:B64Ok b64X:=⟨by decide,by simp [b64X],by simp [b64X]⟩
theorem q7m:B64Ok b64N:=⟨by decide,by simp [b64N],by simp [b64N]⟩
theorem q8y {s:B64} (h1:s.w.length+s.f≤4) (h2:∀x∈s.w,x<64) (h3:0<s.f→2≤s.w.length):B64Ok (qd5 s).2:=by
 unfold qd5
 split
 ·exact ⟨by assumption,h2,h3⟩
 ·exact ⟨by simp,by simp,by simp⟩
theorem q8c {s:B64} (h:B64Ok s) (c:UInt8):B64Ok (qbw s c).2.2:=by
 unfold qbw
 split
 ·exact qpm
 ·cases hp:qck s c with
  | none=>exact qpm
  | some r =>
   obtain ⟨o,s'⟩:=r
   show B64Ok s'
   unfold qck at hp
   split at hp
   ·cases hp
   ·split at hp
    ·split at hp
     ·cases hp
     ·rename_i hc
      have:=Option.some.inj hp
      have e:s'=(qd5 { s with f:=s.f+1 }).2:=by rw [this]
      rw [e]
      refine q8y (by have:=h.n;show s.w.length+(s.f+1)≤4;omega) h.v fun _=>?_
      show 2≤s.w.length
      by_cases hf:0<s.f
      ·exact h.two hf
      ·omega
    ·cases hv:valB c with
     | none=>rw [hv] at hp;cases hp
     | some v =>
      rw [hv] at hp
      dsimp only at hp
      split at hp
      ·cases hp
      ·rename_i hf
       have:=Option.some.inj hp
       have e:s'=(qd5 { s with w:=s.w++[v] }).2:=by rw [this]
       rw [e]
       refine q8y (by have:=h.n;show (s.w++[v]).length+s.f≤4;rw [List.length_append,List.length_singleton];omega) (fun x hx=>?_) fun h0=>absurd h0 hf
       rcases List.mem_append.1 hx with hx | hx
       ·exact h.v x hx
       ·rw [List.mem_singleton] at hx;subst hx;exact q0p hv
theorem zcl (w:List Nat) (h:w.length≤4):(outB w).length=w.length*6/8:=by
 unfold outB
 rw [List.length_take]
 show min _ 3=_
 omega
def zbx (s:B64):List Value:=[.int .u32 (valN s.w:Int),.int .i64 ((s.w.length+s.f:Nat):Int),.int .i64 (s.f:Int),.bool s.last,.bool s.bad]
def DecB (w:World) (g:Nat) (s:B64):Prop:=Blk w g qjw (zbx s)
section
variable {w:World} {g:Nat} {s:B64}
theorem q7d {bs:List UInt8} {c:UInt8} {i:Int} (hi:i=c.toNat) {K:Int→World→Prop} (hK:K (Lib.indexByte bs c) w):qmi (strB bs) i w K:=by
 subst hi
 refine Calls.mono (Tryz.strings_IndexByte (strB bs) c.toNat w) ?_
 rintro e w' ⟨rfl,rfl⟩
 refine ⟨_,rfl,?_⟩
 rw [show ((c.toNat:Int)).toNat.toUInt8=c by simp]
 exact hK
theorem q4c {n:Nat} (h:n≤4):64^n≤16777216:=Nat.le_trans (Nat.pow_le_pow_right (by decide) h) (by decide)
theorem q23 (h:DecB w g s) (hn:s.w.length+s.f≤4) (hv:∀x∈s.w,x<64) {K:Slc→World→Prop} (hK:∀t w',Rd qaa w' t (outB s.w)→(∀k,t.blk=some k→w.heap.size≤k)→DecB w' g s→Below w.heap.size w w'→K t w'):qd3 (some ⟨g,0,none⟩) w K:=by
 refine qou _ ?_
 unfold qe8
 simp only [onPtr_some]
 have hvl:=Nat.lt_of_lt_of_le (qtu s.w hv) (q4c (n:=s.w.length) (by omega))
 have hd:DecB w.drew g s:=h.ext (bdw w)
 have hdd:DecB w.drew.drew g s:=hd.ext (bdw _)
 refine lI (x:=(valN s.w:Int)) (hd.cells 0 _ rfl) (lI (x:=((s.w.length+s.f:Nat):Int)) (hd.cells 1 _ rfl) (lI (x:=(s.f:Int)) (hd.cells 2 _ rfl) ?_))
 have es:IntKind.i64.wrap ((6:Int)*(IntKind.i64.wrap ((IntKind.i64.wrap ((4:Int)-((s.w.length+s.f:Nat):Int)))+(s.f:Int))))=((6*(4-s.w.length):Nat):Int):=by
  rw [w64i (x:=(4:Int)-((s.w.length+s.f:Nat):Int)) (by omega),w64i (x:=(4:Int)-((s.w.length+s.f:Nat):Int)+(s.f:Int)) (by omega),w64i (by omega)]
  omega
 rw [es]
 refine ⟨by omega,by decide,by decide,?_⟩
 refine lI (x:=((s.w.length+s.f:Nat):Int)) (hdd.cells 1 _ rfl) (lI (x:=(s.f:Int)) (hdd.cells 2 _ rfl) ⟨by decide,?_⟩)
 have hpw:valN s.w*2^(6*(4-s.w.length))<2^24:=by
  have h1:=qtu s.w hv
  have e:(64:Nat)^s.w.length=2^(6*s.w.length):=by rw [Nat.pow_mul]
  rw [e] at h1
  have h2:valN s.w*2^(6*(4-s.w.length))<2^(6*s.w.length)*2^(6*(4-s.w.length)):=Nat.mul_lt_mul_of_pos_right h1 (Nat.pow_pos (by decide))
  rw [←Nat.pow_add,show 6*s.w.length+6*(4-s.w.length)=24 by omega] at h2
  exact h2
 have ev:IntKind.u32.wrap ((valN s.w:Int)*2^(min ((6*(4-s.w.length):Nat):Int).toNat IntKind.u32.bits))=((valN s.w*2^(6*(4-s.w.length)):Nat):Int):=by
  rw [Int.toNat_natCast,show min (6*(4-s.w.length)) IntKind.u32.bits=6*(4-s.w.length) by show min _ 32=_;omega,qau]
  exact qad .u32 (show _<2^32 by omega)
 rw [ev]
 obtain ⟨V,hV⟩:∃V,V=valN s.w*2^(6*(4-s.w.length)):=⟨_,rfl⟩
 rw [←hV,show min ((16:Int)).toNat IntKind.u32.bits=16 by decide,show min ((8:Int)).toNat IntKind.u32.bits=8 by decide,qbt,qbt,qdv,qdv,qdv]
 refine nwb fun w1 h1 hB1 hs1=>?_
 have hBw1:=bT (bT (bdw w) (bdw _)) hB1
 have h11:DecB w1 g s:=h.ext hBw1
 refine ⟨h11.cells 2 _ rfl,h11.cells 1 _ rfl,?_⟩
 have el:IntKind.i64.wrap ((IntKind.i64.wrap ((IntKind.i64.wrap (((s.w.length+s.f:Nat):Int)-(s.f:Int)))*(6:Int))).tdiv (8:Int))=((s.w.length*6/8:Nat):Int):=by
  rw [w64i (x:=((s.w.length+s.f:Nat):Int)-(s.f:Int)) (by omega),show ((s.w.length+s.f:Nat):Int)-(s.f:Int)=(s.w.length:Int) by omega,w64i (x:=(s.w.length:Int)*6) (by omega),show (s.w.length:Int)*6=((s.w.length*6:Nat):Int) by simp,show (8:Int)=((8:Nat):Int) from rfl,←Int.ofNat_tdiv,w64i (by omega)]
 rw [el]
 have hr:Rd qaa w1 ⟨some ⟨w.drew.drew.heap.size,0,none⟩,3,3⟩ (be3 V):=qgg (E:=qaa) (ys:=be3 V) h1 (by show 3≤maxLen;simp [maxLen]) rfl
 refine hr.slK (l:=0) (m:=s.w.length*6/8) rfl (.inl ⟨rfl,rfl⟩) (.inr rfl) (by omega) (by show _≤3;omega) fun hp=>?_
 rw [List.drop_zero,hV] at hp
 refine hK _ w1 hp (fun k hk=>?_) h11 hBw1
 obtain ⟨a,ha,rfl⟩:=slk.1 hk
 obtain ⟨a',ha',e⟩:=qep (show cut (some ⟨w.drew.drew.heap.size,0,none⟩) 0 3 1=some a from ha)
 cases ha'
 rw [e]
 exact Nat.le_refl _
theorem q29 (h:DecB w g s) (hn:s.w.length+s.f≤4) (hv:∀x∈s.w,x<64) {K:Bool→World→Prop} (hK:K (qdc s.w) w.drew):qdz (some ⟨g,0,none⟩) w K:=by
 refine qo0 _ ?_
 unfold qe9
 simp only [onPtr_some]
 have hvl:=Nat.lt_of_lt_of_le (qtu s.w hv) (q4c (n:=s.w.length) (by omega))
 have hd:DecB w.drew g s:=h.ext (bdw w)
 refine lI (x:=(valN s.w:Int)) (hd.cells 0 _ rfl) (lI (x:=((s.w.length+s.f:Nat):Int)) (hd.cells 1 _ rfl) (lI (x:=(s.f:Int)) (hd.cells 2 _ rfl) ⟨by decide,?_⟩))
 have el:((IntKind.i64.wrap ((IntKind.i64.wrap (((s.w.length+s.f:Nat):Int)-(s.f:Int)))*(6:Int))).tmod (8:Int))=((s.w.length*6%8:Nat):Int):=by
  rw [w64i (x:=((s.w.length+s.f:Nat):Int)-(s.f:Int)) (by omega),show ((s.w.length+s.f:Nat):Int)-(s.f:Int)=(s.w.length:Int) by omega,w64i (x:=(s.w.length:Int)*6) (by omega),show (s.w.length:Int)*6=((s.w.length*6:Nat):Int) by simp,show (8:Int)=((8:Nat):Int) from rfl,←Int.ofNat_tmod]
 rw [el]
 refine ⟨by omega,?_⟩
 have hm:s.w.length*6%8<8:=Nat.mod_lt _ (by decide)
 have hp:2^(s.w.length*6%8)≤2^8:=Nat.pow_le_pow_right (by decide) (by omega)
 have hp0:0<2^(s.w.length*6%8):=Nat.pow_pos (by decide)
 have em:IntKind.u32.wrap ((IntKind.u32.wrap ((1:Int)*2^(min ((s.w.length*6%8:Nat):Int).toNat IntKind.u32.bits)))-(1:Int))=((2^(s.w.length*6%8)-1:Nat):Int):=by
  rw [Int.toNat_natCast,show min (s.w.length*6%8) IntKind.u32.bits=s.w.length*6%8 by show min _ 32=_;omega,show (1:Int)=((1:Nat):Int) from rfl,qau,Nat.one_mul]
  generalize 2^(s.w.length*6%8)=q at hp hp0 ⊢
  rw [qad .u32 (show q<2^32 by omega),show (q:Int)-((1:Nat):Int)=((q-1:Nat):Int) by omega]
  exact qad .u32 (show q-1<2^32 by omega)
 rw [em,qdd .u32 (show _<2^32 by omega) (show _<2^32 by omega),Nat.and_two_pow_sub_one_eq_mod]
 have:((((valN s.w%2^(s.w.length*6%8):Nat):Int))==(0:Int))=qdc s.w:=by
  unfold qdc
  generalize valN s.w%2^(s.w.length*6%8)=q
  rw [Bool.eq_iff_iff]
  simp
 rw [this]
 exact hK
theorem zif {c:UInt8} (h:DecB w g s) (hs:B64Ok s) (hb:s.bad=false) {K:Slc→Bool→World→Prop} (hN:qck s c=none→∀w',Below w.heap.size w w'→K ⟨none,0,0⟩ false w')
  (hY:∀o s' t w',qck s c=some (o,s')→Rd qaa w' t o→(∀k,t.blk=some k→w.heap.size≤k)→DecB w' g s'→Chg (fun k=>k=g) w w'→K t true w'):qg3 (some ⟨g,0,none⟩) (c.toNat:Int) w K:=by
 refine qrh _ _ ?_
 unfold qgm
 simp only [onPtr_some]
 have hn:=hs.n
 have hgl:=h.lt
 refine q7d (bs:=q5x) rfl ?_
 rw [zkz]
 refine jpO fun J1 hJ1=>?_
 have fin:∀s1 w2,s1.w.length+s1.f=s.w.length+s.f+1→s1.last=false→s1.bad=false→(∀x∈s1.w,x<64)→Blk w2 g qjw [.int .u32 (valN s1.w:Int),.int .i64 ((s.w.length+s.f:Nat):Int),.int .i64 (s1.f:Int),.bool s1.last,.bool s1.bad]→Chg (fun k=>k=g) w w2→qck s c=some (qd5 s1)→J1 () w2:=by
  intro s1 w2 hl hla hba hv hb2 hc2 hp
  refine hJ1 _ _ ?_
  refine lI (x:=((s.w.length+s.f:Nat):Int)) (hb2.cells 1 _ rfl) ?_
  rw [qag,w64i (by omega),show ((s.w.length+s.f:Nat):Int)+1=((s1.w.length+s1.f:Nat):Int) by omega]
  refine qaf hb2 (by simp) fun w3 hb3 hg3 hs3=>?_
  have hc3:Chg (fun k=>k=g) w2 w3:=Chg.gg hg3
  have hd3:DecB w3 g s1:=hb3
  refine lI (x:=((s1.w.length+s1.f:Nat):Int)) (hd3.cells 1 _ rfl) ?_
  have hc03:=hc2.trans hc3 fun i _ hi=>hi
  refine cO (fun e=>?_) fun e=>?_
  ·have e:=of_decide_eq_true e
   refine hY [] s1 ⟨none,0,0⟩ w3 ?_ (Rd.nil _ _) (fun k hk=>by cases hk) hd3 hc03
   rw [hp]
   unfold qd5
   rw [if_pos (by omega)]
  ·have e:=of_decide_eq_false e
   refine q23 hd3 (by omega) hv fun t w4 ht htb hd4 hB4=>?_
   refine lI (x:=(s1.f:Int)) (hd4.cells 2 _ rfl) ?_
   refine qav hd4 rfl fun w5 hd5 hc5 hs5=>?_
   have hs13:=hc03.size
   refine hY (outB s1.w) ⟨[],0,decide (0<s1.f),false⟩ t w5 ?_ (ht.chg hc5 fun a ha e=>?_) (fun k hk=>by have:=htb k hk;omega) ?_ ?_
   ·rw [hp]
    unfold qd5
    rw [if_neg (by omega)]
   ·have:=htb a.block (slk.2 ⟨a,ha,rfl⟩);omega
   ·have:decide ((s1.f:Int)>0)=decide (0<s1.f):=by rw [decide_eq_decide];omega
    rw [this] at hd5
    exact hd5
   ·exact (hc03.trans (Chg.of_ext (S:=fun k=>k=g) hB4) fun i _ hi=>hi).trans hc5 fun i _ hi=>hi
 unfold qck at hN hY fin
 refine qbj (x:=s.last) (h.cells 3 _ rfl) (cO (fun e=>?_) fun e1=>?_)
 ·have e:s.last=true:=e
  rw [if_pos e] at hN
  exact hN rfl w (Below.refl _ _)
 have e1:s.last=false:=e1
 rw [if_neg (by rw [e1];decide)] at hN hY fin
 refine cO (fun e=>?_) fun e2=>?_
 ·have e:c.toNat=61:=by have:=eq_of_beq e;omega
  rw [if_pos e] at hN hY fin
  refine jpO fun J2 hJ2=>?_
  refine lI (x:=((s.w.length+s.f:Nat):Int)) (h.cells 1 _ rfl) (cO (fun e3=>?_) fun e3=>?_)
  ·have e3:=of_decide_eq_true e3
   rw [if_pos (.inl (by omega))] at hN
   exact hN rfl w (Below.refl _ _)
  have e3:=of_decide_eq_false e3
  refine q29 h (by omega) hs.v (cO (fun e4=>?_) fun e4=>?_)
  ·have e4:qdc s.w=false:=by simpa using e4
   rw [if_pos (.inr e4)] at hN
   exact hN rfl _ (bdw w)
  have e4:qdc s.w=true:=by simpa using e4
  rw [if_neg (by rw [e4];simp;omega)] at fin
  refine hJ2 _ _ ?_
  have hd:DecB w.drew g s:=h.ext (bdw w)
  refine lI (x:=(s.f:Int)) (hd.cells 2 _ rfl) ?_
  rw [qag,w64i (by omega)]
  refine qaf hd (by simp [zbx]) fun w3 hb3 hg3 hs3=>?_
  have hc3:Chg (fun k=>k=g) w.drew w3:=Chg.gg hg3
  refine fin { s with f:=s.f+1 } w3 (by dsimp only;omega) e1 hb hs.v hb3 ((Chg.of_ext (S:=fun k=>k=g) (bdw w)).trans hc3 fun i _ hi=>hi) rfl
 ·have e2:c.toNat≠61:=fun h=>by rw [h] at e2;cases e2
  rw [if_neg e2] at hN hY fin
  refine jpO fun J3 hJ3=>?_
  unfold valI
  cases hv:valB c with
  | none =>
   rw [hv] at hN
   refine cT (by decide) (hJ3 _ _ (cT rfl ?_))
   exact hN rfl w (Below.refl _ _)
  | some v =>
   rw [hv] at hN hY fin
   dsimp only at hN hY fin ⊢
   have hvl:=q0p hv
   refine cF (decide_eq_false (by omega)) (lI (x:=(s.f:Int)) (h.cells 2 _ rfl) (hJ3 _ _ ?_))
   refine cO (fun e=>?_) fun e=>?_
   ·have e:=of_decide_eq_true e
    rw [if_pos (by omega)] at hN
    exact hN rfl w (Below.refl _ _)
   ·have e:=of_decide_eq_false e
    rw [if_neg (by omega)] at fin
    have hvn:=Nat.lt_of_lt_of_le (qtu s.w hs.v) (Nat.le_trans (Nat.pow_le_pow_right (show 0<64 by decide) (show s.w.length≤3 by omega)) (show (64:Nat)^3≤262144 by decide))
    refine lI (x:=(valN s.w:Int)) (h.cells 0 _ rfl) ⟨by decide,?_⟩
    have ev:bitsR .or .u32 (IntKind.u32.wrap ((valN s.w:Int)*2^(min (6:Int).toNat IntKind.u32.bits))) (IntKind.u32.wrap (v:Int))=((valN (s.w++[v]):Nat):Int):=by
     rw [show min ((6:Int)).toNat IntKind.u32.bits=6 by decide,qau,qad .u32 (x:=valN s.w*2^6) (by show _<2^32;omega),qad .u32 (x:=v) (by show _<2^32;omega),qco .u32 (by show _<2^32;omega) (by show _<2^32;omega),q77]
     congr 1
     rw [Nat.or_comm,Nat.mul_comm,qew (by omega)]
     omega
    rw [show valI c=(v:Int) by unfold valI;rw [hv],ev,qag]
    refine qaf h (by simp [zbx]) fun w3 hb3 hg3 hs3=>?_
    have hc3:Chg (fun k=>k=g) w w3:=Chg.gg hg3
    refine fin { s with w:=s.w++[v] } w3 (by dsimp only;rw [List.length_append,List.length_singleton];omega) e1 hb (fun x hx=>?_) hb3 hc3 rfl
    rcases List.mem_append.1 hx with hx | hx
    ·exact hs.v x hx
    ·rw [List.mem_singleton] at hx;subst hx;exact hvl
theorem zj1 {c:UInt8} (h:DecB w g s) (hs:B64Ok s) {K:Slc→Int→World→Prop}
  (hK:∀t w',Rd qaa w' t (qbw s c).2.1→(∀k,t.blk=some k→w.heap.size≤k)→DecB w' g (qbw s c).2.2→Chg (fun k=>k=g) w w'→K t ((qbw s c).1:Nat) w'):qha (some ⟨g,0,none⟩) (c.toNat:Int) w K:=by
 refine qrb _ _ ?_
 unfold qgn
 simp only [onPtr_some]
 refine jpO fun J1 hJ1=>?_
 unfold qbw at hK
 have bad:(qbw s c=(3,[],b64X))→∀w2,DecB w2 g s→Chg (fun k=>k=g) w w2→J1 () w2:=by
  intro hp w2 h2 hc2
  unfold qbw at hp
  rw [hp] at hK
  refine hJ1 _ _ (qav h2 rfl fun w3 h3 hc3 hs3=>?_)
  exact hK ⟨none,0,0⟩ w3 (Rd.nil _ _) (fun k hk=>by cases hk) h3 (hc2.trans hc3 fun i _ hi=>hi)
 refine qbj (x:=s.bad) (h.cells 4 _ rfl) (cO (fun e=>?_) fun e=>?_)
 ·have e:s.bad=false:=by simpa using e
  rw [if_neg (by rw [e];decide)] at hK
  refine zif h hs e (fun hp w2 hB2=>cF rfl (bad ?_ w2 (h.ext hB2) (Chg.of_ext hB2))) (fun o s' t w2 hp ht htb hd hc=>cT rfl ?_)
  ·unfold qbw
   rw [if_neg (by rw [e];decide),hp]
  ·rw [hp] at hK
   exact hK t w2 ht htb hd hc
 ·have e:s.bad=true:=by simpa using e
  refine bad ?_ w h (Chg.refl _ _)
  unfold qbw
  rw [if_pos e]
theorem zia (h:DecB w g s) (hs:B64Ok s) {K:Slc→Int→World→Prop}
  (hK:∀t w',Rd qaa w' t (qcp s).2.1→(∀k,t.blk=some k→w.heap.size≤k)→DecB w' g (qcp s).2.2→Chg (fun k=>k=g) w w'→K t ((qcp s).1:Nat) w'):qg1 (some ⟨g,0,none⟩) w K:=by
 refine qq2 _ ?_
 unfold qgs
 simp only [onPtr_some]
 have hn:=hs.n
 have hgl:=h.lt
 refine jpO fun J1 hJ1=>jpO fun J2 hJ2=>?_
 unfold qcp at hK
 have key:∀(bb:Bool) w2,(bb=true↔s.bad=true∨s.w.length+s.f=1∨0<s.f∨qdc s.w=false)→DecB w2 g s→Below w.heap.size w w2→J2 (bb,()) w2:=by
  intro bb w2 hbb h2 hB2
  refine hJ2 _ _ (cO (fun e=>?_) fun e=>?_)
  ·rw [if_pos (hbb.1 e)] at hK
   refine qav h2 rfl fun w3 h3 hc3 hs3=>?_
   exact hK ⟨none,0,0⟩ w3 (Rd.nil _ _) (fun k hk=>by cases hk) h3 ((Chg.of_ext (S:=fun k=>k=g) hB2).trans hc3 fun i _ hi=>hi)
  ·rw [if_neg fun h=>by rw [hbb.2 h] at e;cases e] at hK
   refine hJ1 _ _ (q23 h2 (by omega) hs.v fun t w3 ht htb h3 hB3=>?_)
   refine qpi _ ?_
   unfold qfc
   simp only [onPtr_some]
   refine qav h3 rfl fun w4 h4 hc4 hs4=>?_
   have hs2:=hB2.size
   refine hK t w4 (ht.chg hc4 fun a ha e=>?_) (fun k hk=>by have:=htb k hk;omega) h4 (((Chg.of_ext (S:=fun k=>k=g) hB2).trans (Chg.of_ext (S:=fun k=>k=g) hB3) fun i _ hi=>hi).trans hc4 fun i _ hi=>hi)
   have:=htb a.block (slk.2 ⟨a,ha,rfl⟩);omega
 have hrf:=Below.refl w.heap.size w
 refine qbj (x:=s.bad) (h.cells 4 _ rfl) (cO (fun e=>key _ w ?_ h hrf) fun e1=>?_)
 ·have e:s.bad=true:=e
  simp [e]
 have e1:s.bad=false:=e1
 refine lI (x:=((s.w.length+s.f:Nat):Int)) (h.cells 1 _ rfl) (cO (fun e=>key _ w ?_ h hrf) fun e2=>?_)
 ·have e:s.w.length+s.f=1:=by have:=eq_of_beq e;omega
  simp [e]
 have e2:s.w.length+s.f≠1:=fun h=>by rw [h] at e2;cases e2
 refine lI (x:=(s.f:Int)) (h.cells 2 _ rfl) (cO (fun e=>key _ w ?_ h hrf) fun e3=>?_)
 ·have e:=of_decide_eq_true e
  exact iff_of_true rfl (.inr (.inr (.inl (by omega))))
 have e3:=of_decide_eq_false e3
 refine q29 h (by omega) hs.v (key _ _ ?_ (h.ext (bdw w)) (bdw w))
 rw [e1]
 constructor
 ·intro h;exact .inr (.inr (.inr (by simpa using h)))
 ·rintro (h | h | h | h)
  ·cases h
  ·exact absurd h e2
  ·omega
  ·rw [h];rfl
end
end Go.Proofs.YtmagnpcgpinmcaaGreat
set_option linter.unusedVariables false
namespace Go.Proofs.YtmagnpcgpinmcaaGreat
open Go.Vc Go.RowKit
set_option maxRecDepth 400000
def WtR (ws:List UInt8) (vs:List Nat) (f:Nat):Prop:=∃sg:List UInt8,ws=sg++List.replicate f 61∧sg.map valB=vs.map some
theorem WtR.len {ws:List UInt8} {vs:List Nat} {f:Nat} (h:WtR ws vs f):ws.length=vs.length+f:=by
 obtain ⟨sg,rfl,h2⟩:=h
 have:=congrArg List.length h2
 rw [List.length_map,List.length_map] at this
 rw [List.length_append,List.length_replicate,this]
theorem val61:valB 61=none:=by decide
theorem WtR.get {ws:List UInt8} {vs:List Nat} {f:Nat} (h:WtR ws vs f) {i:Nat} {c:UInt8} (hc:ws[i]?=some c):(i<vs.length→∃v,vs[i]?=some v∧valB c=some v)∧(vs.length≤i→c=61):=by
 obtain ⟨sg,rfl,h2⟩:=h
 have hl:=congrArg List.length h2
 rw [List.length_map,List.length_map] at hl
 refine ⟨fun hi=>?_,fun hi=>?_⟩
 ·rw [List.getElem?_append_left (by omega)] at hc
  have:=congrArg (fun l=>l[i]?) h2
  simp only [List.getElem?_map,hc,Option.map_some] at this
  cases hv:vs[i]? with
  | none=>rw [hv] at this;simp at this
  | some v =>
   rw [hv] at this
   simp at this
   exact ⟨v,rfl,this⟩
 ·rw [List.getElem?_append_right (by omega)] at hc
  have hm:=List.mem_of_getElem? hc
  exact (List.mem_replicate.1 hm).2
section
variable {w:World}
theorem q5n {c:UInt8} {K:Int→World→Prop} (hK:K (valI c) w):qo5 (c.toNat:Int) w K:=by
 refine q99 _ ?_
 unfold qsq
 have hc8:=c.toNat_lt
 unfold valI valB at hK
 refine jpO fun J1 hJ1=>?_
 have k1:∀bb:Bool,(bb=true↔65≤c.toNat∧c.toNat≤90)→J1 (bb,()) w:=by
  intro bb hbb
  refine hJ1 _ _ (cO (fun e=>?_) fun e=>?_)
  ·have h:=hbb.1 e
   rw [if_pos h] at hK
   have e1:IntKind.u8.wrap ((c.toNat:Int)-65)=((c.toNat-65:Nat):Int):=by
    rw [show (c.toNat:Int)-65=((c.toNat-65:Nat):Int) by omega]
    exact qad .u8 (show c.toNat-65<2^8 by omega)
   rw [e1,w64i (by omega)]
   exact hK
  rw [if_neg fun h=>by rw [hbb.2 h] at e;cases e] at hK
  refine jpO fun J2 hJ2=>?_
  have k2:∀bb:Bool,(bb=true↔97≤c.toNat∧c.toNat≤122)→J2 (bb,()) w:=by
   intro bb hbb
   refine hJ2 _ _ (cO (fun e=>?_) fun e=>?_)
   ·have h:=hbb.1 e
    rw [if_pos h] at hK
    have e1:IntKind.u8.wrap ((c.toNat:Int)-97)=((c.toNat-97:Nat):Int):=by
     rw [show (c.toNat:Int)-97=((c.toNat-97:Nat):Int) by omega]
     exact qad .u8 (show c.toNat-97<2^8 by omega)
    rw [e1,w64i (x:=((c.toNat-97:Nat):Int)) (by omega),w64i (by omega)]
    exact hK
   rw [if_neg fun h=>by rw [hbb.2 h] at e;cases e] at hK
   refine jpO fun J3 hJ3=>?_
   have k3:∀bb:Bool,(bb=true↔48≤c.toNat∧c.toNat≤57)→J3 (bb,()) w:=by
    intro bb hbb
    refine hJ3 _ _ (cO (fun e=>?_) fun e=>?_)
    ·have h:=hbb.1 e
     rw [if_pos h] at hK
     have e1:IntKind.u8.wrap ((c.toNat:Int)-48)=((c.toNat-48:Nat):Int):=by
      rw [show (c.toNat:Int)-48=((c.toNat-48:Nat):Int) by omega]
      exact qad .u8 (show c.toNat-48<2^8 by omega)
     rw [e1,w64i (x:=((c.toNat-48:Nat):Int)) (by omega),w64i (by omega)]
     exact hK
    rw [if_neg fun h=>by rw [hbb.2 h] at e;cases e] at hK
    refine cO (fun e4=>?_) fun e4=>cO (fun e5=>?_) fun e5=>?_
    ·have e4:c.toNat=43:=by have:=eq_of_beq e4;omega
     rw [if_pos e4] at hK
     exact hK
    ·have e5:c.toNat=47:=by have:=eq_of_beq e5;omega
     rw [if_neg (by omega),if_pos e5] at hK
     exact hK
    ·have e4:c.toNat≠43:=fun h=>by rw [h] at e4;cases e4
     have e5:c.toNat≠47:=fun h=>by rw [h] at e5;cases e5
     rw [if_neg e4,if_neg e5] at hK
     exact hK
   refine cO (fun e=>k3 _ ?_) fun e=>k3 _ ?_
   ·have e:=of_decide_eq_true e
    rw [decide_eq_true_iff];omega
   ·have e:=of_decide_eq_false e
    exact iff_of_false (by decide) (by omega)
  refine cO (fun e=>k2 _ ?_) fun e=>k2 _ ?_
  ·have e:=of_decide_eq_true e
   rw [decide_eq_true_iff];omega
  ·have e:=of_decide_eq_false e
   exact iff_of_false (by decide) (by omega)
 refine cO (fun e=>k1 _ ?_) fun e=>k1 _ ?_
 ·have e:=of_decide_eq_true e
  rw [decide_eq_true_iff];omega
 ·have e:=of_decide_eq_false e
  exact iff_of_false (by decide) (by omega)
theorem zf2 {c:UInt8} {v:Nat} (h:valB c=some v):valI c=(v:Int):=by unfold valI;rw [h]
theorem zkc {vs:List Nat} {i v:Nat} (h:vs[i]?=some v):valN (vs.take (i+1))=64*valN (vs.take i)+v:=by
 rw [List.take_add_one,h]
 exact q77 _ _
theorem quy {x:Slc} {ws:List UInt8} {vs:List Nat} (hx:Rd qaa w x ws) (hv:WtR ws vs 0) (h2:2≤vs.length) (h4:vs.length≤4) {K:Slc→Bool→World→Prop}
  (hN:qdc vs=false→∀w',Below w.heap.size w w'→K ⟨none,0,0⟩ false w') (hY:qdc vs=true→∀t w',Rd qaa w' t (outB vs)→(∀k,t.blk=some k→w.heap.size≤k)→Below w.heap.size w w'→K t true w'):ql6 x w K:=by
 refine q9u _ ?_
 unfold qsc
 have hwl:=hv.len
 rw [Nat.add_zero] at hwl
 have hvl:∀v∈vs,v<64:=fun v hm=>by
  obtain ⟨i,hi⟩:=List.getElem?_of_mem hm
  have hil:i<vs.length:=(List.getElem?_eq_some_iff.1 hi).1
  obtain ⟨c,hc,_⟩:=qat (xs:=ws) (k:=i) (by omega)
  obtain ⟨v',e1,e2⟩:=(hv.get hc).1 hil
  rw [hi] at e1
  cases e1
  exact q0p e2
 have hb:∀i,valN (vs.take i)<64^(vs.take i).length:=fun i=>qtu _ fun v hm=>hvl v (List.mem_of_mem_take hm)
 rw [hx.n]
 refine lpR (fun (s:Int×Int×Unit) w1=>∃i:Nat,s.2.1=i∧i≤4∧s.1=((valN (vs.take i)*64^(i-vs.length):Nat):Int)∧w1=w) (fun s=>4-s.2.1.toNat) ⟨0,rfl,by omega,by simp [valN],rfl⟩ ?_
 rintro ⟨v,i,u⟩ w1 ⟨i,rfl,hi,hva,rfl⟩ I hI
 dsimp only at hva ⊢
 refine cO (fun hlt=>?_) fun hge=>?_
 ·have hlt:=of_decide_eq_true hlt
  have hbi:=hb i
  refine cO (fun e=>?_) fun e=>?_
  ·have e:=of_decide_eq_true e
   have hil:i<vs.length:=by omega
   obtain ⟨c,hc,_⟩:=qat (xs:=ws) (k:=i) (by omega)
   obtain ⟨n,hn,hcn⟩:=(hv.get hc).1 hil
   have hn64:=q0p hcn
   refine hx.ix (i:=(i:Int)) rfl (by omega) (by omega) fun _=>?_
   rw [Int.toNat_natCast]
   refine lI (x:=(c.toNat:Int)) (qaw hx hc) (q5n ?_)
   rw [zf2 hcn]
   have h0:i-vs.length=0:=by omega
   have h1:i+1-vs.length=0:=by omega
   rw [h0,Nat.pow_zero,Nat.mul_one] at hva
   have hle:valN (vs.take i)<16777216:=Nat.lt_of_lt_of_le hbi (q4c (by rw [List.length_take];omega))
   have hs:=zkc hn
   rw [hva,w64i (x:=((valN (vs.take i):Nat):Int)*64) (by omega),w64i (x:=((valN (vs.take i):Nat):Int)*64+(n:Int)) (by omega),w64i (by omega)]
   exact hI _ _ ⟨i+1,rfl,by omega,by dsimp only;rw [h1,Nat.pow_zero,Nat.mul_one,hs];omega,rfl⟩ (by simp;omega)
  ·have e:=of_decide_eq_false e
   have htk:vs.take (i+1)=vs.take i:=by rw [List.take_of_length_le (by omega),List.take_of_length_le (by omega)]
   have hp:i+1-vs.length=(i-vs.length)+1:=by omega
   have hle:valN (vs.take i)*64^(i-vs.length)<64^4:=by
    have h1:valN (vs.take i)*64^(i-vs.length)<64^(vs.take i).length*64^(i-vs.length):=Nat.mul_lt_mul_of_pos_right hbi (Nat.pow_pos (by decide))
    rw [←Nat.pow_add] at h1
    refine Nat.lt_of_lt_of_le h1 (Nat.pow_le_pow_right (by decide) ?_)
    rw [List.length_take]
    omega
   have h64:(64:Nat)^4=16777216:=by decide
   rw [hva]
   have hsv:valN (vs.take (i+1))*64^(i+1-vs.length)=valN (vs.take i)*64^(i-vs.length)*64:=by rw [htk,hp,Nat.pow_succ,Nat.mul_assoc]
   generalize valN (vs.take i)*64^(i-vs.length)=q at hle hsv ⊢
   rw [w64i (x:=(q:Int)*64) (by omega),w64i (by omega)]
   exact hI _ _ ⟨i+1,rfl,by omega,by dsimp only;rw [hsv];simp,rfl⟩ (by simp;omega)
 ·have hge:=of_decide_eq_false hge
  obtain rfl:i=4:=by omega
  refine ⟨by decide,by decide,?_⟩
  rw [List.take_of_length_le h4] at hva
  obtain ⟨V,hV⟩:∃V,V=valN vs*2^(6*(4-vs.length)):=⟨_,rfl⟩
  have hVe:valN vs*64^(4-vs.length)=V:=by rw [hV,Nat.pow_mul]
  rw [hVe] at hva
  rw [hva,show min ((16:Int)).toNat IntKind.i64.bits=16 by decide,show min ((8:Int)).toNat IntKind.i64.bits=8 by decide,qbt,qbt,qdv,qdv,qdv]
  refine nwb fun w3 h3 hB3 hs3=>?_
  have hcl:∀i b,(be3 V)[i]?=some b→w3.cell? (⟨w1.heap.size,i,none⟩:Addr)=some (.int .u8 (b.toNat:Int)):=fun i b hb=>h3.cell i (by
   show ((be3 V).map fun b=>Value.int .u8 (b.toNat:Int))[i]?=_
   rw [List.getElem?_map,hb];rfl)
  have hclean:qdc vs=true↔∀i b,vs.length-1≤i→(be3 V)[i]?=some b→b.toNat=0:=by
   have h3:vs.length=2∨vs.length=3∨vs.length=4:=by omega
   unfold qdc
   rw [decide_eq_true_iff]
   rcases h3 with h | h | h
   ·rw [h] at hV ⊢
    have hV:V=valN vs*4096:=hV
    constructor
    ·intro hc i b hi hbi
     have hc:valN vs%16=0:=hc
     match i,hbi with
     | 1,hbi=>cases hbi;rw [UInt8.toNat_ofNat'];omega
     | 2,hbi=>cases hbi;rw [UInt8.toNat_ofNat'];omega
     | i+3,hbi=>simp [be3] at hbi
    ·intro hall
     have:=hall 1 _ (by omega) rfl
     rw [UInt8.toNat_ofNat'] at this
     show valN vs%16=0
     omega
   ·rw [h] at hV ⊢
    have hV:V=valN vs*64:=hV
    constructor
    ·intro hc i b hi hbi
     have hc:valN vs%4=0:=hc
     match i,hbi with
     | 2,hbi=>cases hbi;rw [UInt8.toNat_ofNat'];omega
     | i+3,hbi=>simp [be3] at hbi
    ·intro hall
     have:=hall 2 _ (by omega) rfl
     rw [UInt8.toNat_ofNat'] at this
     show valN vs%4=0
     omega
   ·rw [h]
    constructor
    ·intro _ i b hi hbi
     match i,hbi with
     | i+3,hbi=>simp [be3] at hbi
    ·intro _
     show valN vs%1=0
     omega
  have e1:IntKind.i64.wrap (((ws.length:Nat):Int)-(1:Int))=((vs.length-1:Nat):Int):=by rw [w64i (by omega)];omega
  rw [e1]
  refine lpR (fun (s:Int×Unit) w4=>∃j:Nat,s.1=j∧vs.length-1≤j∧j≤3∧(∀i b,vs.length-1≤i→i<j→(be3 V)[i]?=some b→b.toNat=0)∧w4=w3) (fun s=>3-s.1.toNat) ⟨vs.length-1,rfl,Nat.le_refl _,by omega,fun i b h1 h2=>by omega,rfl⟩ ?_
  rintro ⟨j,u⟩ w4 ⟨j,rfl,hj1,hj3,hz,rfl⟩ I2 hI2
  dsimp only
  refine cO (fun hlt=>?_) fun hge=>?_
  ·have hlt:=of_decide_eq_true hlt
   obtain ⟨b,hb'⟩:∃b,(be3 V)[j]?=some b:=⟨_,List.getElem?_eq_getElem (show j<3 by omega)⟩
   refine ⟨⟨by omega,by omega⟩,?_⟩
   rw [Int.toNat_natCast,qag,Nat.mul_one,Nat.zero_add]
   refine lI (x:=(b.toNat:Int)) (hcl j b hb') (cO (fun e=>?_) fun e=>?_)
   ·have e:b.toNat≠0:=fun h=>by rw [h] at e;cases e
    refine hN ?_ w4 hB3
    cases hcb:qdc vs with
    | false=>rfl
    | true=>exact absurd (hclean.1 hcb j b hj1 hb') e
   ·have e:b.toNat=0:=by
     rcases Nat.eq_zero_or_pos b.toNat with h | h
     ·exact h
     ·rw [qbk (by omega)] at e;cases e
    rw [w64i (by omega)]
    refine hI2 _ _ ⟨j+1,rfl,by omega,by omega,fun i b2 h1 h2 h3=>?_,rfl⟩ (by simp;omega)
    rcases Nat.lt_or_ge i j with hij | hij
    ·exact hz i b2 h1 hij h3
    ·obtain rfl:i=j:=by omega
     rw [hb'] at h3
     cases h3
     exact e
  ·have hge:=of_decide_eq_false hge
   obtain rfl:j=3:=by omega
   have hc:qdc vs=true:=hclean.2 fun i b h1 h2=>hz i b h1 (by
    have:=(List.getElem?_eq_some_iff.1 h2).1
    exact this) h2
   have hr:Rd qaa w4 ⟨some ⟨w1.heap.size,0,none⟩,3,3⟩ (be3 V):=qgg (E:=qaa) (ys:=be3 V) h3 (by show 3≤maxLen;simp [maxLen]) rfl
   refine hr.slK (l:=0) (m:=vs.length-1) rfl (.inl ⟨rfl,rfl⟩) (.inr rfl) (by omega) (by show _≤3;omega) fun hp=>?_
   rw [List.drop_zero] at hp
   have ho:outB vs=(be3 V).take (vs.length-1):=by
    unfold outB
    rw [←hV]
    congr 1
    omega
   rw [←ho] at hp
   refine hY hc _ w4 hp (fun k hk=>?_) hB3
   obtain ⟨a,ha,rfl⟩:=slk.1 hk
   obtain ⟨a',ha',e⟩:=qep (show cut (some ⟨w1.heap.size,0,none⟩) 0 3 1=some a from ha)
   cases ha'
   rw [e]
   exact Nat.le_refl _
end
end Go.Proofs.YtmagnpcgpinmcaaGreat
set_option linter.unusedVariables false
namespace Go.Proofs.YtmagnpcgpinmcaaGreat
open Go.Vc Go.RowKit
set_option maxRecDepth 400000
structure LdK where
 k:T_keys_Keys
 most:Nat
 need:Nat
structure LdS where
 d:B64
 b:List UInt8
 err:Nat
 over:Bool
def takeE (C:LdK) (n:Nat):Nat:=if n>C.most then 6 else if C.k.Zip=0∧C.k.Format≠100∧n>C.need then 5 else 0
def failL (s:LdS) (e:Nat):LdS:=if s.err=0∧e≠0 then { s with b:=[],err:=e } else s
def gotL (C:LdK) (s:LdS) (r:Nat×List UInt8×B64):LdS :=
 if r.1≠0 then failL { s with d:=r.2.2 } r.1 else failL { s with d:=r.2.2,b:=s.b++r.2.1 } (takeE C (s.b++r.2.1).length)
def addC (C:LdK) (s:LdS) (c:UInt8):LdS:=if s.err≠0 then s else gotL C s (qbw s.d c)
def addL (C:LdK) (s:LdS) (text:List UInt8):LdS:=text.foldl (addC C) s
def endL (C:LdK) (s:LdS):LdS:=if s.err≠0 then s else gotL C s (qcp s.d)
theorem qka (C:LdK) (s:LdS) (a b:List UInt8):addL C s (a++b)=addL C (addL C s a) b:=List.foldl_append
theorem q81 (C:LdK) (s:LdS) (c:UInt8):(addC C s c).over=s.over:=by
 unfold addC gotL failL
 repeat' split
 all_goals rfl
theorem quj (s:B64) (hs:B64Ok s) (c:UInt8):(qbw s c).2.1.length≤3:=by
 unfold qbw
 split
 ·simp
 ·cases hp:qck s c with
  | none=>simp
  | some r =>
   obtain ⟨o,s'⟩:=r
   show o.length≤3
   have fin:∀s1:B64,some (qd5 s1)=some (o,s')→o.length≤3:=by
    intro s1 h
    have:o=(qd5 s1).1:=by rw [Option.some.inj h]
    rw [this]
    unfold qd5
    split
    ·simp
    ·unfold outB
     rw [List.length_take]
     exact Nat.min_le_right _ 3
   unfold qck at hp
   split at hp
   ·cases hp
   ·split at hp
    ·split at hp
     ·cases hp
     ·exact fin _ hp
    ·split at hp
     ·cases hp
     ·split at hp
      ·cases hp
      ·exact fin _ hp
theorem za3 (C:LdK) (s:LdS) (r:Nat×List UInt8×B64):(gotL C s r).b.length≤s.b.length+r.2.1.length:=by
 unfold gotL failL
 repeat' split
 all_goals simp
theorem zcz (C:LdK) (s:LdS) (hs:B64Ok s.d) (c:UInt8):(addC C s c).b.length≤s.b.length+3:=by
 unfold addC
 split
 ·omega
 ·have h1:=za3 C s (qbw s.d c)
  have h2:=quj s.d hs c
  omega
theorem zku {C:LdK} {s:LdS} (h:s.err≠0) (c:UInt8):addC C s c=s:=by unfold addC;rw [if_pos h]
theorem za7 {C:LdK} {s:LdS} (h:s.err≠0) (l:List UInt8):addL C s l=s:=by
 induction l with
 | nil=>rfl
 | cons c l ih=>show addL C (addC C s c) l=s;rw [zku h];exact ih
def qc0 (gd:Nat) (C:LdK) (p:Slc) (held err:Nat) (over:Bool):List Value:=.pointer (some ⟨gd,0,none⟩)::(T_keys_Keys.rep.cells C.k++[.int .i64 (C.most:Int),.int .i64 (C.need:Int),.slice p.a p.n p.c,.int .i64 (held:Int),.int .i64 (err:Int),.bool over])
def PcS (w:World) (B:Nat) (S:Nat→Prop) (p:Slc) (bs:List UInt8):Prop :=
 (bs=[]∧p=⟨none,0,0⟩)∨∃x,Go.Vc.Own qb2 w B p [x]∧Go.Vc.Own qaa w B x bs∧bs≠[]∧(∀k,p.blk=some k→S k)∧(∀k,x.blk=some k→S k)
structure LdA (w:World) (B g gd:Nat) (C:LdK) (s:LdS) (S:Nat→Prop):Prop where
 ex:∃p:Slc,Blk w g qbu (qc0 gd C p s.b.length s.err s.over)∧PcS w B S p s.b
 d:DecB w gd s.d
 ok:B64Ok s.d
 sg:S g
 sd:S gd
 lt:∀k,S k→B≤k∧k<w.heap.size
section
variable {w:World} {B g gd:Nat} {C:LdK} {s:LdS} {S:Nat→Prop}
theorem PcS.chg {w':World} {p:Slc} {bs:List UInt8} {T:Nat→Prop} (h:PcS w B S p bs) (hc:Chg T w w') (hT:∀k,S k→¬T k):PcS w' B S p bs:=by
 rcases h with h | ⟨x,h1,h2,h3,h4,h5⟩
 ·exact .inl h
 ·exact .inr ⟨x,h1.chg hc fun k hk=>hT k (h4 k hk),h2.chg hc fun k hk=>hT k (h5 k hk),h3,h4,h5⟩
theorem LdA.chg {w':World} {T:Nat→Prop} (h:LdA w B g gd C s S) (hc:Chg T w w') (hT:∀k,S k→¬T k):LdA w' B g gd C s S:=by
 obtain ⟨⟨p,h1,h2⟩,h3,h4,h5,h6,h7⟩:=h
 exact ⟨⟨p,h1.chg hc (hT g h5),h2.chg hc hT⟩,Blk.chg h3 hc (hT gd h6),h4,h5,h6,fun k hk=>⟨(h7 k hk).1,Nat.lt_of_lt_of_le (h7 k hk).2 hc.size⟩⟩
theorem LdA.ext {w':World} (h:LdA w B g gd C s S) (hB:Below w.heap.size w w'):LdA w' B g gd C s S:=h.chg (Chg.of_ext (S:=fun _=>False) hB) fun k _ hf=>hf
end
end Go.Proofs.YtmagnpcgpinmcaaGreat
set_option linter.unusedVariables false
namespace Go.Proofs.YtmagnpcgpinmcaaGreat
open Go.Vc Go.RowKit
set_option maxRecDepth 400000
theorem WtR.front {ws:List UInt8} {vs:List Nat} {f:Nat} (h:WtR ws vs f):WtR (ws.take vs.length) vs 0:=by
 obtain ⟨sg,rfl,h2⟩:=h
 have hl:=congrArg List.length h2
 rw [List.length_map,List.length_map] at hl
 refine ⟨sg,?_,h2⟩
 rw [←hl,List.take_left]
 simp
theorem WtR.snoc_v {ws:List UInt8} {vs:List Nat} {c:UInt8} {v:Nat} (h:WtR ws vs 0) (hc:valB c=some v):WtR (ws++[c]) (vs++[v]) 0:=by
 obtain ⟨sg,rfl,h2⟩:=h
 refine ⟨sg++[c],by simp,?_⟩
 rw [List.map_append,List.map_append,h2]
 simp [hc]
theorem WtR.snoc_f {ws:List UInt8} {vs:List Nat} {f:Nat} (h:WtR ws vs f):WtR (ws++[61]) vs (f+1):=by
 obtain ⟨sg,rfl,h2⟩:=h
 refine ⟨sg,?_,h2⟩
 rw [List.append_assoc,List.replicate_succ']
def qb1 (C:LdK) (wt:Slc) (last bad:Bool) (bs:Slc) (err:Nat) (over:Bool):List Value:=T_keys_Keys.rep.cells C.k++[.int .i64 (C.most:Int),.int .i64 (C.need:Int),.slice wt.a wt.n wt.c,.bool last,.bool bad,.slice bs.a bs.n bs.c,.int .i64 (err:Int),.bool over]
def fitB (s:B64) (c:UInt8):Bool:=(qck s c).isSome
section
variable {w:World} {g:Nat} {wt:Slc} {ws:List UInt8} {s:B64}
theorem add24 (j:Nat):(⟨g,24,none⟩:Addr).add j=⟨g,24+j,none⟩:=qag _ _ _
theorem qpj {vs:List Nat} {f:Nat} (hc:w.cell? ⟨g,24,none⟩=some (.slice wt.a wt.n wt.c)) (hw:Rd qaa w wt ws) (hW:WtR ws vs f) (hl:ws.length≤100) {K:Int→World→Prop} (hK:K ((vs.length:Nat):Int) w):qc3 (some ⟨g,24,none⟩) w K:=by
 refine qtr _ ?_
 unfold qhr
 simp only [onPtr_some]
 have hwl:=hW.len
 refine lpR (fun (st:Int×Unit) w1=>∃i:Nat,st.1=i∧i≤vs.length∧w1=w) (fun st=>vs.length-st.1.toNat) ⟨0,rfl,by omega,rfl⟩ ?_
 rintro ⟨i,u⟩ w1 ⟨i,rfl,hi,rfl⟩ I hI
 dsimp only
 rw [add_zero]
 refine lSl (x:=wt) hc ?_
 rw [hw.n]
 refine cO (fun e=>?_) fun e=>?_
 ·have e:=of_decide_eq_true e
  obtain ⟨c,hcc,_⟩:=qat (xs:=ws) (k:=i) (by omega)
  refine lSl (x:=wt) hc (hw.ix (i:=(i:Int)) rfl (by omega) (by omega) fun _=>?_)
  rw [Int.toNat_natCast]
  refine lI (x:=(c.toNat:Int)) (qaw hw hcc) (cO (fun e2=>?_) fun e2=>?_)
  ·have e2:c.toNat≠61:=fun h=>by rw [h] at e2;cases e2
   have hil:i<vs.length:=by
    rcases Nat.lt_or_ge i vs.length with h | h
    ·exact h
    ·have:=(hW.get hcc).2 h
     rw [this] at e2
     exact absurd rfl e2
   rw [w64i (by omega)]
   exact hI _ _ ⟨i+1,rfl,by omega,rfl⟩ (by simp;omega)
  ·have e2:c.toNat=61:=by
    rcases Nat.decEq c.toNat 61 with h | h
    ·rw [qbk (by omega)] at e2;cases e2
    ·exact h
   have hil:i=vs.length:=by
    rcases Nat.lt_or_ge i vs.length with h | h
    ·obtain ⟨v,_,hv⟩:=(hW.get hcc).1 h
     have:c=61:=by rw [←UInt8.toNat_inj];exact e2
     rw [this,val61] at hv
     cases hv
    ·omega
   subst hil
   exact hK
 ·have e:=of_decide_eq_false e
  obtain rfl:i=vs.length:=by omega
  exact hK
theorem zji {c:UInt8} (hc:w.cell? ⟨g,24,none⟩=some (.slice wt.a wt.n wt.c)) (hc1:w.cell? ⟨g,25,none⟩=some (.bool s.last)) (hg:g<w.heap.size) (hw:Rd qaa w wt ws) (hW:WtR ws s.w s.f) (hs:B64Ok s) {K:Bool→World→Prop} (hK:∀w',Below w.heap.size w w'→K (fitB s c) w'):qdk (some ⟨g,24,none⟩) (c.toNat:Int) w K:=by
 refine qv1 _ _ ?_
 unfold qih
 simp only [onPtr_some]
 have hwl:=hW.len
 have hn:=hs.n
 have hrf:=Below.refl w.heap.size w
 refine qpj hc hw hW (by omega) ?_
 unfold fitB qck at hK
 rw [add24]
 refine qbj (x:=s.last) hc1 (cO (fun e=>?_) fun e=>?_)
 ·have e:s.last=true:=e
  rw [if_pos e] at hK
  exact hK w hrf
 have e:s.last=false:=e
 rw [if_neg (by rw [e];decide)] at hK
 refine cO (fun e2=>?_) fun e2=>?_
 ·have e2:c.toNat=61:=by have:=eq_of_beq e2;omega
  rw [if_pos e2] at hK
  refine cO (fun e3=>?_) fun e3=>?_
  ·have e3:=of_decide_eq_true e3
   have hf:s.f=0:=by
    rcases Nat.eq_zero_or_pos s.f with h | h
    ·exact h
    ·have:=hs.two h;omega
   rw [if_pos (.inl (by omega))] at hK
   exact hK w hrf
  ·have e3:=of_decide_eq_false e3
   rw [add_zero]
   refine lSl (x:=wt) hc ?_
   refine hw.slK (l:=0) (m:=s.w.length) rfl (.inl ⟨rfl,rfl⟩) (.inr rfl) (by omega) (by omega) fun hp=>?_
   rw [List.drop_zero] at hp
   refine quy hp hW.front (by omega) (by omega) (fun hcl w2 hB2=>?_) (fun hcl t w2 ht htb hB2=>?_)
   ·rw [if_pos (.inr hcl)] at hK
    exact hK w2 hB2
   ·rw [if_neg (by rw [hcl];simp;omega)] at hK
    exact hK w2 hB2
 ·have e2:c.toNat≠61:=fun h=>by rw [h] at e2;cases e2
  rw [if_neg e2] at hK
  refine q5n ?_
  cases hv:valB c with
  | none =>
   rw [hv] at hK
   have:valI c=-1:=by unfold valI;rw [hv]
   rw [this]
   exact cF (by decide) (hK w hrf)
  | some v =>
   rw [hv] at hK
   rw [zf2 hv]
   refine cT (decide_eq_true (by omega)) ?_
   rw [add_zero]
   refine lSl (x:=wt) hc ?_
   rw [hw.n,hwl]
   dsimp only at hK
   by_cases hf:0<s.f
   ·rw [if_pos hf] at hK
    rw [qkg (by omega)]
    exact hK w hrf
   ·rw [if_neg hf] at hK
    have:s.f=0:=by omega
    rw [this,Nat.add_zero,beq_self_eq_true]
    exact hK w hrf
end
structure RlA (w:World) (B g:Nat) (C:LdK) (s:LdS) (S:Nat→Prop):Prop where
 ex:∃(wt bs:Slc) (ws:List UInt8),Blk w g qb3 (qb1 C wt s.d.last s.d.bad bs s.err s.over)∧Go.Vc.Own qaa w B wt ws∧WtR ws s.d.w s.d.f∧Go.Vc.Own qaa w B bs s.b∧(∀k,wt.blk=some k→S k)∧(∀k,bs.blk=some k→S k)∧(∀k,wt.blk=some k→bs.blk≠some k)
 ok:B64Ok s.d
 bad:s.d.bad=true→s.d=b64X
 sg:S g
 lt:∀k,S k→B≤k∧k<w.heap.size
section
variable {w:World} {B g:Nat} {C:LdK} {s:LdS} {S:Nat→Prop}
theorem RlA.chg {w':World} {T:Nat→Prop} (h:RlA w B g C s S) (hc:Chg T w w') (hT:∀k,S k→¬T k):RlA w' B g C s S:=by
 obtain ⟨⟨wt,bs,ws,h1,h2,h3,h4,h5,h6,h7⟩,h8,h9,h10,h11⟩:=h
 exact ⟨⟨wt,bs,ws,h1.chg hc (hT g h10),h2.chg hc fun k hk=>hT k (h5 k hk),h3,h4.chg hc fun k hk=>hT k (h6 k hk),h5,h6,h7⟩,h8,h9,h10,fun k hk=>⟨(h11 k hk).1,Nat.lt_of_lt_of_le (h11 k hk).2 hc.size⟩⟩
theorem RlA.ext {w':World} (h:RlA w B g C s S) (hB:Below w.heap.size w w'):RlA w' B g C s S:=h.chg (Chg.of_ext (S:=fun _=>False) hB) fun k _ hf=>hf
theorem zlf {s s':B64} {c:UInt8} {o:List UInt8} (hs:B64Ok s) (h:qck s c=some (o,s')):(∃v,valB c=some v∧c.toNat≠61∧s.f=0∧(o,s')=qd5 { s with w:=s.w++[v] })∨(c=61∧2≤s.w.length∧(o,s')=qd5 { s with f:=s.f+1 }):=by
 unfold qck at h
 split at h
 ·cases h
 ·split at h
  ·rename_i h61
   split at h
   ·cases h
   ·rename_i hn
    right
    refine ⟨by rw [←UInt8.toNat_inj];exact h61,?_,(Option.some.inj h).symm⟩
    rcases Nat.eq_zero_or_pos s.f with hf | hf
    ·omega
    ·exact hs.two hf
  ·rename_i h61
   left
   cases hv:valB c with
   | none=>rw [hv] at h;cases h
   | some v =>
    rw [hv] at h
    dsimp only at h
    split at h
    ·cases h
    ·exact ⟨v,rfl,h61,by omega,(Option.some.inj h).symm⟩
end
end Go.Proofs.YtmagnpcgpinmcaaGreat
set_option linter.unusedVariables false
namespace Go.Proofs.YtmagnpcgpinmcaaGreat
open Go.Vc Go.RowKit
set_option maxRecDepth 400000
theorem zks {s s':B64} {c:UInt8} {o:List UInt8} (hs:B64Ok s) (h:qck s c=some (o,s')):∃s1:B64,(o,s')=qd5 s1∧s1.last=s.last∧s1.bad=s.bad∧s.last=false∧s1.w.length+s1.f=s.w.length+s.f+1∧(∀ws,WtR ws s.w s.f→WtR (ws++[c]) s1.w s1.f)∧(s1.w.length+s1.f=4→qdc s1.w=true)∧2*s1.f≤4∧(0<s1.f→2≤s1.w.length):=by
 have hn:=hs.n
 have hl:s.last=false:=by
  cases e:s.last with
  | false=>rfl
  | true=>unfold qck at h;rw [if_pos e] at h;cases h
 rcases zlf hs h with ⟨v,hv,h61,hf,he⟩ | ⟨hc,h2,he⟩
 ·refine ⟨_,he,rfl,rfl,hl,by simp;omega,fun ws hW=>?_,fun h4=>?_,by simp;omega,fun h0=>by simp at h0;omega⟩
  ·rw [hf] at hW
   show WtR (ws++[c]) (s.w++[v]) s.f
   rw [hf]
   exact hW.snoc_v hv
  ·have hl4:(s.w++[v]).length=4:=by simp at h4 ⊢;omega
   unfold qdc
   rw [hl4]
   exact decide_eq_true (Nat.mod_one _)
 ·have hclean:qdc s.w=true:=by
   unfold qck at h
   rw [if_neg (by rw [hl];decide),if_pos (by rw [hc];rfl)] at h
   split at h
   ·cases h
   ·rename_i hn
    cases hcl:qdc s.w with
    | true=>rfl
    | false=>exact absurd (.inr hcl) hn
  refine ⟨_,he,rfl,rfl,hl,by simp;omega,fun ws hW=>?_,fun _=>hclean,by simp;omega,fun _=>h2⟩
  rw [hc]
  exact hW.snoc_f
section
variable {w:World} {B g:Nat} {C:LdK} {s:LdS} {S:Nat→Prop}
theorem zeq {c:UInt8} {x:Slc} (h:RlA w B g C s S) (hBw:B≤w.heap.size) (hx:Rd qaa w x [c]) (hxS:∀k,x.blk=some k→¬S k) {K:Slc→Int→World→Prop}
  (hK:∀t S' w',RlA w' B g C { s with d:=(qbw s.d c).2.2 } S'→Rd qaa w' t (qbw s.d c).2.1→(∀k,t.blk=some k→w.heap.size≤k∧¬S' k)→(∀k,S' k→S k∨w.heap.size≤k)→Chg S w w'→K t ((qbw s.d c).1:Nat) w'):qiv (some ⟨g,24,none⟩) x w K:=by
 obtain ⟨⟨wt,bs,ws,hb,hwt,hW,hbs,hwS,hbS,hdis⟩,hok,hbad,hsg,hlt⟩:=h
 refine qtn _ _ ?_
 unfold qhw
 simp only [onPtr_some]
 have hn:=hok.n
 have hwl:=hW.len
 rw [add24]
 unfold qbw at hK
 refine qbj (x:=s.d.bad) (hb.cells 26 _ rfl) (cO (fun e=>?_) fun e=>?_)
 ·have e:s.d.bad=true:=e
  rw [if_pos e] at hK
  refine hK ⟨none,0,0⟩ S w ⟨⟨wt,bs,ws,?_,hwt,?_,hbs,hwS,hbS,hdis⟩,qpm,fun _=>rfl,hsg,hlt⟩ (Rd.nil _ _) (fun k hk=>by cases hk) (fun k hk=>.inl hk) (Chg.refl _ _)
  ·rw [hbad e] at hb;exact hb
  ·rw [hbad e] at hW;exact hW
 have e:s.d.bad=false:=e
 rw [if_neg (by rw [e];decide)] at hK
 rw [hx.n]
 have hxc:x.blk=none∨True:=.inr trivial
 intro I hI
 refine hI _ _ ?_
 dsimp only
 refine cT rfl (jpO fun J2 hJ2=>jpO fun J3 hJ3=>?_)
 have key:∀(bb:Bool) w2,(bb=true↔fitB s.d c=false)→Below w.heap.size w w2→J3 (bb,()) w2:=by
  intro bb w2 hbb hB2
  have hb2:=hb.ext hB2
  have hwt2:=hwt.ext hB2
  have hbs2:=hbs.ext hB2
  refine hJ3 _ _ (cO (fun e2=>?_) fun e2=>?_)
  ·have hf:qck s.d c=none:=by
    have:=hbb.1 e2
    unfold fitB at this
    cases hp:qck s.d c with
    | none=>rfl
    | some r=>rw [hp] at this;cases this
   rw [hf] at hK
   refine qaf hb2 (by simp [qb1,T_keys_Keys.rep]) fun w3 hb3 hg3 hs3=>?_
   have hb3:Blk w3 g qb3 (qb1 C ⟨none,0,0⟩ false true bs s.err s.over):=hb3
   have hc3:Chg (fun k=>k=g) w2 w3:=Chg.gg hg3
   refine hK ⟨none,0,0⟩ S w3 ⟨⟨⟨none,0,0⟩,bs,[],hb3,Own.nil _ _ _,⟨[],rfl,rfl⟩,hbs2.chg hc3 fun k hk=>qae hbs2 hb2 (by decide) k hk,(fun k hk=>by cases hk),hbS,(fun k hk=>by cases hk)⟩,qpm,fun _=>rfl,hsg,fun k hk=>⟨(hlt k hk).1,by have:=(hlt k hk).2;have:=hB2.size;have:=hc3.size;omega⟩⟩ (Rd.nil _ _) (fun k hk=>by cases hk) (fun k hk=>.inl hk) ((Chg.of_ext (S:=S) hB2).trans hc3 fun k _ hk=>by subst hk;exact hsg)
  ·obtain ⟨o,s',hp⟩:∃o s',qck s.d c=some (o,s'):=by
    have:fitB s.d c=true:=by
     cases hf:fitB s.d c with
     | true=>rfl
     | false=>rw [hbb.2 hf] at e2;cases e2
    unfold fitB at this
    cases hp:qck s.d c with
    | none=>rw [hp] at this;cases this
    | some r=>exact ⟨r.1,r.2,rfl⟩
   obtain ⟨s1,he,hl1,hb1,hlast,hlen,hWs,hcl,hf1,htwo⟩:=zks hok hp
   have hput:=q8c hok c
   unfold qbw at hput
   rw [if_neg (by rw [e];decide),hp] at hput
   rw [hp] at hK
   dsimp only at hK hput
   refine hJ2 _ _ ?_
   have hBd:=bT hB2 (bdw w2)
   have hbd:=hb.ext hBd
   have hwtd:=hwt.ext hBd
   have hbsd:=hbs.ext hBd
   have hxd:=hx.ext hBd
   rw [add24]
   refine lSl (x:=wt) (hbd.cells 24 _ rfl) ?_
   refine hxd.ix (i:=0) rfl (by omega) (by simp) fun _=>?_
   refine lI (x:=(c.toNat:Int)) (qaw (i:=0) hxd rfl) ?_
   refine nwb fun w3 h3 hB3 hs3=>⟨(hbd.ext hB3).cells 24 _ rfl,?_⟩
   have hB03:=bT hBd hB3
   have hs03:=hB03.size
   have hb3:=hb.ext hB03
   have hbs3:=hbs.ext hB03
   refine apB (hwt.ext hB03) (qgg (E:=qaa) (ys:=[c]) h3 (by simp [maxLen]) rfl) (by omega) (by simp;omega) fun r w4 hr hc4 hrb=>?_
   have hws4:=hc4.size
   have hbs4:=hbs3.chg hc4 fun k hk e=>hdis k e hk
   have hb4:=hb3.chg hc4 fun e=>qae (hwt.ext hB03) hb3 (by decide) g e rfl
   refine qaf hb4 (by simp [qb1,T_keys_Keys.rep]) fun w5 hb5 hg5 hs5=>?_
   have hb5:Blk w5 g qb3 (qb1 C r s.d.last s.d.bad bs s.err s.over):=hb5
   have hc5:Chg (fun k=>k=g) w4 w5:=Chg.gg hg5
   have hr5:=hr.chg hc5 fun k hk=>qae hr hb4 (by decide) k hk
   have hbs5:=hbs4.chg hc5 fun k hk=>qae hbs4 hb4 (by decide) k hk
   have hW5:=hWs ws hW
   have hws5:=hc5.size
   have hrS:∀k,r.blk=some k→S k∨w.heap.size≤k:=fun k hk=>by
    rcases hrb with e3 | e3
    ·rw [e3] at hk;exact .inl (hwS k hk)
    ·rw [e3] at hk;cases hk;right;omega
   have hrdis:∀k,r.blk=some k→bs.blk≠some k:=fun k hk e4=>by
    rcases hrb with e3 | e3
    ·rw [e3] at hk;exact hdis k hk e4
    ·rw [e3] at hk;cases hk
     have:=(hbs.lt w3.heap.size e4).2
     omega
   have hC5:Chg S w w5:=((Chg.of_ext (S:=S) hB03).trans hc4 fun k _ hk=>hwS k hk).trans hc5 fun k _ hk=>by subst hk;exact hsg
   refine lSl (x:=r) (hb5.cells 24 _ rfl) ?_
   have hrl:(ws++[c]).length=s1.w.length+s1.f:=hW5.len
   rw [hr5.rd.n,hrl]
   have ew:IntKind.i64.wrap ((0:Int)+1)=1:=by decide
   rw [ew]
   refine cO (fun e4=>?_) fun e4=>?_
   ·have e4:s1.w.length+s1.f=4:=by have:=eq_of_beq e4;omega
    have hfin:(o,s')=(outB s1.w,⟨[],0,decide (0<s1.f),false⟩):=by rw [he];unfold qd5;rw [if_neg (by omega)]
    obtain ⟨rfl,rfl⟩:=Prod.mk.inj hfin
    have hc24:w5.cell? ⟨g,24,none⟩=some (.slice r.a r.n r.c):=hb5.cells 24 _ rfl
    refine qpj hc24 hr5.rd hW5 (by omega) ?_
    refine lSl (x:=r) hc24 ?_
    refine hr5.rd.slK (l:=0) (m:=s1.w.length) rfl (.inl ⟨rfl,rfl⟩) (.inr rfl) (by omega) (by omega) fun hp2=>?_
    rw [List.drop_zero] at hp2
    refine quy hp2 hW5.front (by omega) (by omega) (fun hn=>absurd (hcl e4) (by rw [hn];decide)) fun _ t w7 ht htb hB7=>?_
    have hB57:=hB7
    have hb7:=hb5.ext hB7
    have hbs7:=hbs5.ext hB7
    have hs7:=hB7.size
    refine apB (Own.nil qaa w7 w.heap.size) ht (by omega) (by have:=zcl s1.w (by omega);simp only [List.length_nil];omega) fun q w8 hq hc8 hqb=>?_
    have hB8:Below w7.heap.size w7 w8:=hc8.ext fun i _ hf=>by cases hf
    have hb8:=hb7.ext hB8
    have hbs8:=hbs7.ext hB8
    have hs8:=hc8.size
    rw [add24]
    refine qaf hb8 (by simp [qb1,T_keys_Keys.rep]) fun w9 hb9 hg9 hs9=>?_
    refine qaf hb9 (by simp [qb1,T_keys_Keys.rep,putL]) fun w10 hb10 hg10 hs10=>?_
    have hc10:Chg (fun k=>k=g) w8 w10:=(Chg.gg hg9).trans (Chg.gg hg10) fun i _ hi=>hi
    have hdec:decide (((s1.w.length:Nat):Int)<4)=decide (0<s1.f):=by rw [decide_eq_decide];omega
    have hb10:Blk w10 g qb3 (qb1 C ⟨none,0,0⟩ (decide (((s1.w.length:Nat):Int)<4)) s.d.bad bs s.err s.over):=hb10
    rw [hdec,e] at hb10
    have hq10:=hq.chg hc10 fun k hk=>qae hq hb8 (by decide) k hk
    have hbs10:=hbs8.chg hc10 fun k hk=>qae hbs8 hb8 (by decide) k hk
    have hs10':=hc10.size
    refine hI _ _ (cF rfl ?_)
    refine hK q S w10 ⟨⟨⟨none,0,0⟩,bs,[],hb10,Own.nil _ _ _,⟨[],rfl,rfl⟩,hbs10,(fun k hk=>by cases hk),hbS,(fun k hk=>by cases hk)⟩,hput,(fun hh=>by cases hh),hsg,fun k hk=>⟨(hlt k hk).1,by have:=(hlt k hk).2;omega⟩⟩ ?_ (fun k hk=>⟨(hq10.lt k hk).1,fun hS=>by have h1:=(hq10.lt k hk).1;have h2:=(hlt k hS).2;omega⟩) (fun k hk=>.inl hk) (((hC5.trans (Chg.of_ext (S:=S) hB7) fun k _ hk=>hk).trans (Chg.of_ext (S:=S) hB8) fun k _ hk=>hk).trans hc10 fun k _ hk=>by subst hk;exact hsg)
    have:=hq10.rd
    rw [List.nil_append] at this
    exact this
   ·have e4:s1.w.length+s1.f≠4:=fun h=>by rw [h] at e4;cases e4
    have hfin:(o,s')=([],s1):=by rw [he];unfold qd5;rw [if_pos (by omega)]
    obtain ⟨rfl,rfl⟩:=Prod.mk.inj hfin
    refine hI _ _ (cF rfl ?_)
    refine hK ⟨none,0,0⟩ (fun k=>S k∨r.blk=some k) w5 ⟨⟨r,bs,ws++[c],?_,hr5,hW5,hbs5,fun k hk=>.inr hk,fun k hk=>.inl (hbS k hk),hrdis⟩,hput,(fun hh=>by rw [hb1,e] at hh;cases hh),.inl hsg,fun k hk=>?_⟩ (Rd.nil _ _) (fun k hk=>by cases hk) (fun k hk=>?_) hC5
    ·rw [←hl1,←hb1] at hb5
     exact hb5
    ·rcases hk with hk | hk
     ·exact ⟨(hlt k hk).1,by have:=(hlt k hk).2;omega⟩
     ·exact hr5.lt k hk
    ·rcases hk with hk | hk
     ·exact .inl hk
     ·exact hrS k hk
 have hc24:w.cell? ⟨g,24,none⟩=some (.slice wt.a wt.n wt.c):=hb.cells 24 _ rfl
 have hc25:w.cell? ⟨g,25,none⟩=some (.bool s.d.last):=hb.cells 25 _ rfl
 have hrf:=Below.refl w.heap.size w
 have fit:qdk (some ⟨g,24,none⟩) (c.toNat:Int) w fun t45 w14=>J3 ((!t45),()) w14:=by
  refine zji hc24 hc25 hb.lt hwt.rd hW hok fun w2 hB2=>key _ w2 ?_ hB2
  cases fitB s.d c<;>simp
 have xix:∀{K:Addr→Prop},K (x.at_ 1 0)→ixK x 0 1 K:=fun {K} hk=>hx.ix (i:=0) rfl (by omega) (by simp) fun _=>hk
 have xc:w.cell? (x.at_ 1 0)=some (.int .u8 (c.toNat:Int)):=qaw (i:=0) hx rfl
 rw [add_zero]
 refine lSl (x:=wt) hc24 (cO (fun e2=>?_) fun e2=>xix (lI xc fit))
 refine xix (lI xc (cO (fun e3=>?_) fun e3=>xix (lI xc fit)))
 have e3:c.toNat=61:=by have:=eq_of_beq e3;omega
 refine qpj hc24 hwt.rd hW (by omega) (cO (fun e4=>key _ w ?_ hrf) fun e4=>xix (lI xc fit))
 have e4:=of_decide_eq_true e4
 have h2:s.d.w.length+s.d.f<2:=by
  rcases Nat.eq_zero_or_pos s.d.f with hf | hf
  ·omega
  ·have:=hok.two hf;omega
 have hp:qck s.d c=none:=by
  unfold qck
  by_cases hl:s.d.last=true
  ·rw [if_pos hl]
  ·rw [if_neg hl,if_pos e3,if_pos (.inl h2)]
 refine iff_of_true rfl ?_
 unfold fitB
 rw [hp]
 rfl
end
end Go.Proofs.YtmagnpcgpinmcaaGreat
set_option linter.unusedVariables false
namespace Go.Proofs.YtmagnpcgpinmcaaGreat
open Go.Vc Go.RowKit
set_option maxRecDepth 400000
section
variable {w:World} {B g:Nat} {C:LdK} {s:LdS} {S:Nat→Prop}
theorem zgc (h:RlA w B g C s S) (hBw:B≤w.heap.size) {K:Slc→Int→World→Prop}
  (hK:∀t w',RlA w' B g C { s with d:=(qcp s.d).2.2 } S→Rd qaa w' t (qcp s.d).2.1→(∀k,t.blk=some k→w.heap.size≤k∧¬S k)→Chg S w w'→K t ((qcp s.d).1:Nat) w'):qkv (some ⟨g,24,none⟩) w K:=by
 obtain ⟨⟨wt,bs,ws,hb,hwt,hW,hbs,hwS,hbS,hdis⟩,hok,hbad,hsg,hlt⟩:=h
 refine qxg _ ?_
 unfold qjo
 simp only [onPtr_some]
 have hn:=hok.n
 have hwl:=hW.len
 rw [add24]
 unfold qcp at hK
 refine qbj (x:=s.d.bad) (hb.cells 26 _ rfl) (cO (fun e=>?_) fun e=>?_)
 ·have e:s.d.bad=true:=e
  rw [if_pos (.inl e)] at hK
  refine hK ⟨none,0,0⟩ w ⟨⟨wt,bs,ws,?_,hwt,?_,hbs,hwS,hbS,hdis⟩,qpm,fun _=>rfl,hsg,hlt⟩ (Rd.nil _ _) (fun k hk=>by cases hk) (Chg.refl _ _)
  ·rw [hbad e] at hb;exact hb
  ·rw [hbad e] at hW;exact hW
 have e:s.d.bad=false:=e
 have hc24:w.cell? ⟨g,24,none⟩=some (.slice wt.a wt.n wt.c):=hb.cells 24 _ rfl
 have set:∀(d':B64) (b1:Bool) (t:Slc) (o:List UInt8) (e':Nat) w2,d'=⟨[],0,false,b1⟩→Below w.heap.size w w2→Rd qaa w2 t o→(∀k,t.blk=some k→w.heap.size≤k)→(∀t w',RlA w' B g C { s with d:=d' } S→Rd qaa w' t o→(∀k,t.blk=some k→w.heap.size≤k∧¬S k)→Chg S w w'→K t (e':Int) w') →
   stK ⟨g,24,none⟩ [(.slice none 0 0),(.bool false),(.bool b1)] w2 fun w4=>K t (e':Int) w4:=by
  intro d' b1 t o e' w2 hd' hB2 ht htb hk
  subst hd'
  have hb2:=hb.ext hB2
  have hbs2:=hbs.ext hB2
  refine qaf hb2 (by simp [qb1,T_keys_Keys.rep]) fun w3 hb3 hg3 hs3=>?_
  have hb3:Blk w3 g qb3 (qb1 C ⟨none,0,0⟩ false b1 bs s.err s.over):=hb3
  have hc3:Chg (fun k=>k=g) w2 w3:=Chg.gg hg3
  have hs2:=hB2.size
  have hs3':=hc3.size
  refine hk t w3 ⟨⟨⟨none,0,0⟩,bs,[],hb3,Own.nil _ _ _,⟨[],rfl,rfl⟩,hbs2.chg hc3 fun k hk=>qae hbs2 hb2 (by decide) k hk,(fun k hk=>by cases hk),hbS,(fun k hk=>by cases hk)⟩,⟨by simp,by simp,by simp⟩,fun hh=>?_,hsg,fun k hk=>⟨(hlt k hk).1,by have:=(hlt k hk).2;omega⟩⟩ (ht.chg hc3 fun a ha e=>?_) (fun k hk=>⟨htb k hk,fun hS=>by have:=htb k hk;have:=(hlt k hS).2;omega⟩) ((Chg.of_ext (S:=S) hB2).trans hc3 fun k _ hk=>by subst hk;exact hsg)
  ·cases hh;rfl
  ·have:=htb a.block (slk.2 ⟨a,ha,rfl⟩);have:=(hlt g hsg).2;omega
 have hrf:=Below.refl w.heap.size w
 rw [add_zero]
 refine lSl (x:=wt) hc24 ?_
 rw [hwt.rd.n,hwl]
 refine cO (fun e2=>?_) fun e2=>?_
 ·have e2:s.d.w.length+s.d.f=0:=by have:=eq_of_beq e2;omega
  have hw0:s.d.w=[]:=List.eq_nil_of_length_eq_zero (by omega)
  have hres:(if s.d.bad=true∨s.d.w.length+s.d.f=1∨0<s.d.f∨qdc s.d.w=false then ((3,[],b64X):Nat×List UInt8×B64) else (0,outB s.d.w,b64N))=(0,[],b64N):=by
   rw [if_neg (by rw [e,hw0];simp;constructor;omega;constructor;omega;decide),hw0]
   rfl
  rw [hres] at hK
  exact set b64N false ⟨none,0,0⟩ [] 0 w rfl hrf (Rd.nil _ _) (fun k hk=>by cases hk) hK
 have e2:s.d.w.length+s.d.f≠0:=fun h=>by rw [h] at e2;cases e2
 refine jpO fun J1 hJ1=>jpO fun J2 hJ2=>?_
 have key:∀bb:Bool,(bb=true↔s.d.w.length+s.d.f=1∨0<s.d.f)→J2 (bb,()) w:=by
  intro bb hbb
  refine hJ2 _ _ (cO (fun e3=>?_) fun e3=>?_)
  ·have hc:=hbb.1 e3
   rw [if_pos (by rcases hc with h | h;exact .inr (.inl h);exact .inr (.inr (.inl h)))] at hK
   exact set b64X true ⟨none,0,0⟩ [] 3 w rfl hrf (Rd.nil _ _) (fun k hk=>by cases hk) hK
  ·have hc:¬(s.d.w.length+s.d.f=1∨0<s.d.f):=fun h=>by rw [hbb.2 h] at e3;cases e3
   have hf0:s.d.f=0:=by omega
   refine hJ1 _ _ ?_
   refine lSl (x:=wt) hc24 ?_
   rw [hf0] at hW
   refine quy hwt.rd hW (by omega) (by omega) (fun hcl w2 hB2=>cT rfl ?_) (fun hcl t w2 ht htb hB2=>cF rfl ?_)
   ·rw [if_pos (.inr (.inr (.inr hcl)))] at hK
    exact set b64X true ⟨none,0,0⟩ [] 3 w2 rfl hB2 (Rd.nil _ _) (fun k hk=>by cases hk) hK
   ·rw [if_neg (by rw [e,hcl];simp;omega)] at hK
    exact set b64N false t (outB s.d.w) 0 w2 rfl hB2 ht htb hK
 refine cO (fun e3=>key _ ?_) fun e3=>?_
 ·have e3:=eq_of_beq e3
  exact iff_of_true rfl (.inl (by omega))
 ·have e3:s.d.w.length+s.d.f≠1:=fun h=>by rw [h] at e3;cases e3
  refine qpj hc24 hwt.rd hW (by omega) (key _ ?_)
  rw [decide_eq_true_iff]
  omega
theorem q49 (h:RlA w B g C s S) (hBw:B≤w.heap.size) {t:Slc} {xs:List UInt8} (ht:Rd qaa w t xs) (htS:∀k,t.blk=some k→¬S k) (hsm:s.b.length+xs.length≤1000000) {K:Int→World→Prop}
  (hK:∀S' w',RlA w' B g C { s with b:=s.b++xs } S'→(∀k,S' k→S k∨w.heap.size≤k)→Chg S w w'→K ((takeE C (s.b++xs).length:Nat):Int) w'):qf9 (some ⟨g,0,none⟩) t w K:=by
 obtain ⟨⟨wt,bs,ws,hb,hwt,hW,hbs,hwS,hbS,hdis⟩,hok,hbad,hsg,hlt⟩:=h
 refine qt6 _ _ ?_
 unfold qh6
 simp only [onPtr_some]
 refine lSl (x:=bs) (hb.cells 27 _ rfl) ?_
 refine apB hbs ht hBw (by omega) fun r w1 hr hc1 hrb=>?_
 have hs1:=hc1.size
 have hb1:=hb.chg hc1 fun e=>qae hbs hb (by decide) g e rfl
 have hwt1:=hwt.chg hc1 fun k hk e=>hdis k hk e
 rw [qag]
 refine qaf hb1 (by simp [qb1,T_keys_Keys.rep]) fun w2 hb2 hg2 hs2=>?_
 have hb2:Blk w2 g qb3 (qb1 C wt s.d.last s.d.bad r s.err s.over):=hb2
 have hc2:Chg (fun k=>k=g) w1 w2:=Chg.gg hg2
 have hs2':=hc2.size
 have hr2:=hr.chg hc2 fun k hk=>qae hr hb1 (by decide) k hk
 have hwt2:=hwt1.chg hc2 fun k hk=>qae hwt1 hb1 (by decide) k hk
 have hA2:RlA w2 B g C { s with b:=s.b++xs } (fun k=>S k∨r.blk=some k):=by
  refine ⟨⟨wt,r,ws,hb2,hwt2,hW,hr2,fun k hk=>.inl (hwS k hk),fun k hk=>.inr hk,fun k hk e=>?_⟩,hok,hbad,.inl hsg,fun k hk=>?_⟩
  ·rcases hrb with e3 | e3
   ·rw [e3] at e;exact hdis k hk e
   ·rw [e3] at e;cases e
    have:=(hwt.lt _ hk).2
    omega
  ·rcases hk with hk | hk
   ·exact ⟨(hlt k hk).1,by have:=(hlt k hk).2;omega⟩
   ·exact hr2.lt k hk
 have hgrow:∀k,(S k∨r.blk=some k)→S k∨w.heap.size≤k:=fun k hk=>by
  rcases hk with hk | hk
  ·exact .inl hk
  ·rcases hrb with e3 | e3
   ·rw [e3] at hk;exact .inl (hbS k hk)
   ·rw [e3] at hk;cases hk;exact .inr (Nat.le_refl _)
 have hC2:Chg S w w2:=(hc1.mono fun k _ hk=>hbS k hk).trans hc2 fun k _ hk=>by subst hk;exact hsg
 have hBd:=bdw w2
 have hBdd:=bT hBd (bdw w2.drew)
 have hb2d:=hb2.ext hBd
 have hb2dd:=hb2.ext hBdd
 have hKd:=hK _ w2.drew (hA2.ext hBd) hgrow (hC2.trans (Chg.of_ext (S:=S) hBd) fun k _ hk=>hk)
 have hKdd:=hK _ w2.drew.drew (hA2.ext hBdd) hgrow (hC2.trans (Chg.of_ext (S:=S) hBdd) fun k _ hk=>hk)
 unfold takeE at hKd hKdd
 have hrn:r.n=(s.b++xs).length:=hr.rd.n
 refine lSl (x:=r) (hb2d.cells 27 _ rfl) (lI (x:=(C.most:Int)) (hb2d.cells 22 _ rfl) ?_)
 rw [hrn]
 refine cO (fun e=>?_) fun e=>?_
 ·have e:=of_decide_eq_true e
  rw [if_pos (by omega)] at hKd
  exact hKd
 have e:=of_decide_eq_false e
 rw [if_neg (by omega)] at hKdd
 refine lI (x:=C.k.Zip) (by rw [add_zero];exact hb2dd.cells 2 _ rfl) (cO (fun ez=>?_) fun ez=>?_)
 ·have ez:C.k.Zip=0:=eq_of_beq ez
  refine lI (x:=C.k.Format) (by rw [add_zero];exact hb2dd.cells 5 _ rfl) (cO (fun ef=>?_) fun ef=>?_)
  ·have ef:C.k.Format≠100:=by simpa using ef
   refine lSl (x:=r) (hb2dd.cells 27 _ rfl) (lI (x:=(C.need:Int)) (hb2dd.cells 23 _ rfl) ?_)
   rw [hrn]
   refine cO (fun en=>?_) fun en=>?_
   ·have en:=of_decide_eq_true en
    rw [if_pos ⟨ez,ef,by omega⟩] at hKdd
    exact hKdd
   ·have en:=of_decide_eq_false en
    rw [if_neg fun h=>en (by have:=h.2.2;omega)] at hKdd
    exact hKdd
  ·have ef:C.k.Format=100:=by simpa using ef
   rw [if_neg fun h=>h.2.1 ef] at hKdd
   exact hKdd
 ·have ez:C.k.Zip≠0:=by simpa using ez
  rw [if_neg fun h=>ez h.1] at hKdd
  exact hKdd
theorem qo7 (h:RlA w B g C s S) {e:Nat} {K:Int→World→Prop} (hK:∀w',RlA w' B g C { s with b:=[],err:=e } S→Chg S w w'→K (e:Int) w'):qga (some ⟨g,0,none⟩) (e:Int) w K:=by
 obtain ⟨⟨wt,bs,ws,hb,hwt,hW,hbs,hwS,hbS,hdis⟩,hok,hbad,hsg,hlt⟩:=h
 refine qt7 _ _ ?_
 unfold qit
 simp only [onPtr_some]
 rw [qag]
 refine qaf hb (by simp [qb1,T_keys_Keys.rep]) fun w2 hb2 hg2 hs2=>?_
 rw [qag]
 refine qaf hb2 (by simp [qb1,T_keys_Keys.rep,putL]) fun w3 hb3 hg3 hs3=>?_
 have hc:Chg (fun k=>k=g) w w3:=(Chg.gg hg2).trans (Chg.gg hg3) fun i _ hi=>hi
 have hb3:Blk w3 g qb3 (qb1 C wt s.d.last s.d.bad ⟨none,0,0⟩ e s.over):=hb3
 exact hK w3 ⟨⟨wt,⟨none,0,0⟩,ws,hb3,hwt.chg hc fun k hk=>qae hwt hb (by decide) k hk,hW,Own.nil _ _ _,hwS,(fun k hk=>by cases hk),fun k hk e=>by cases e⟩,hok,hbad,hsg,fun k hk=>⟨(hlt k hk).1,Nat.lt_of_lt_of_le (hlt k hk).2 hc.size⟩⟩ (hc.mono fun k _ hk=>by subst hk;exact hsg)
theorem zgq (h:RlA w B g C s S) {K:Int→World→Prop} (hK:K ((s.b.length:Nat):Int) w):qja (some ⟨g,0,none⟩) w K:=by
 obtain ⟨⟨wt,bs,ws,hb,hwt,hW,hbs,hwS,hbS,hdis⟩,hok,hbad,hsg,hlt⟩:=h
 refine qu7 _ ?_
 unfold qig
 simp only [onPtr_some]
 refine lSl (x:=bs) (hb.cells 27 _ rfl) ?_
 rw [hbs.rd.n]
 exact hK
end
end Go.Proofs.YtmagnpcgpinmcaaGreat
set_option linter.unusedVariables false
namespace Go.Proofs.YtmagnpcgpinmcaaGreat
open Go.Vc Go.RowKit
set_option maxRecDepth 400000
section
variable {w:World} {B g gd:Nat} {C:LdK} {s:LdS} {S:Nat→Prop}
theorem zgz (h:LdA w B g gd C s S) (hBw:B≤w.heap.size) {t:Slc} {xs:List UInt8} (ht:Rd qaa w t xs) (htS:∀k,t.blk=some k→¬S k) (hsm:s.b.length+xs.length≤32768) {K:Int→World→Prop}
  (hK:∀S' w',LdA w' B g gd C { s with b:=s.b++xs } S'→(∀k,S' k→S k∨w.heap.size≤k)→Chg S w w'→K ((takeE C (s.b++xs).length:Nat):Int) w'):qd7 (some ⟨g,0,none⟩) t w K:=by
 obtain ⟨⟨p0,hb0,hp0⟩,hd0,hok,hsg,hsd,hlt⟩:=h
 refine qtp _ _ ?_
 unfold qhs
 simp only [onPtr_some]
 rw [ht.n]
 refine lpR (fun (st:Int×Unit) w1=>∃(i:Nat) (p:Slc) (S1:Nat→Prop),st.1=i∧i≤xs.length∧Blk w1 g qbu (qc0 gd C p s.b.length s.err s.over)∧PcS w1 B S1 p (s.b++xs.take i)∧DecB w1 gd s.d∧(∀k,S k→S1 k)∧(∀k,S1 k→S k∨w.heap.size≤k)∧(∀k,S1 k→B≤k∧k<w1.heap.size)∧Chg S w w1) (fun st=>xs.length-st.1.toNat)
  ⟨0,p0,S,rfl,by omega,hb0,by rw [List.take_zero,List.append_nil];exact hp0,hd0,fun k hk=>hk,fun k hk=>.inl hk,hlt,Chg.refl _ _⟩ ?_
 rintro ⟨i,u⟩ w1 ⟨i,p,S1,rfl,hi,hb1,hp1,hd1,hS1,hS1',hlt1,hc1⟩ I hI
 dsimp only
 have hw1:=hc1.size
 refine cO (fun hl=>?_) fun hl=>?_
 ·have hl:=of_decide_eq_true hl
  have hil:i<xs.length:=by omega
  obtain ⟨c,hc,_⟩:=qat (xs:=xs) (k:=i) hil
  have ht1:=ht.chg hc1 fun a ha=>htS a.block (slk.2 ⟨a,ha,rfl⟩)
  refine ht1.ix (i:=(i:Int)) rfl (by omega) (by omega) fun _=>?_
  rw [Int.toNat_natCast]
  refine lI (x:=(c.toNat:Int)) (qaw ht1 hc) ?_
  refine jpO fun J2 hJ2=>?_
  have app:∀(x q:Slc) (S2:Nat→Prop) w2,Blk w2 g qbu (qc0 gd C q s.b.length s.err s.over)→Go.Vc.Own qb2 w2 B q [x]→Go.Vc.Own qaa w2 B x (s.b++xs.take i)→(∀k,q.blk=some k→S2 k)→(∀k,x.blk=some k→S2 k)→DecB w2 gd s.d→(∀k,S k→S2 k)→(∀k,S2 k→S k∨w.heap.size≤k)→(∀k,S2 k→B≤k∧k<w2.heap.size)→Chg S w w2→J2 () w2:=by
   intro x q S2 w2 hb2 hq hx hqS hxS hd2 hS2 hS2' hlt2 hc2
   refine hJ2 _ _ ?_
   have hw2:=hc2.size
   have hBd:=bdw w2
   have hb2d:=hb2.ext hBd
   have hqd:=hq.ext hBd
   have hxd:=hx.ext hBd
   refine lSl (x:=q) (hb2d.cells 25 _ rfl) (lSl (x:=q) (hb2d.cells 25 _ rfl) ?_)
   have hqn:q.n=1:=hq.rd.n
   have e0:IntKind.i64.wrap (((q.n:Nat):Int)-1)=0:=by rw [hqn];decide
   rw [e0]
   refine hqd.rd.ix (i:=0) (k:=1) rfl (by omega) (by simp) fun hcell=>?_
   refine lSl (x:=x) (by
    have:=hqd.rd.at_ 0 x rfl 0 _ rfl
    have h2:w2.drew.cell? (q.at_ qb2.k 0)=some (.slice x.a x.n x.c):=by simpa using this
    exact h2) ?_
   have hsz:w2.drew.heap.size=w2.heap.size:=rfl
   refine apB1 (c:=c) rfl hxd (by omega) (by rw [List.length_append,List.length_take];omega) fun r w4 hr hc4 hrb=>?_
   have hq4:=hqd.chg hc4 fun k hk e=>qo8 hqd hxd (by decide) k hk e
   have hb4:=hb2d.chg hc4 fun e=>qae hxd hb2d (by decide) g e rfl
   have hd4:DecB w4 gd s.d:=Blk.chg (hd2.ext hBd) hc4 fun e=>qae hxd (hd2.ext hBd) (by decide) gd e rfl
   refine hq4.st0 (i:=0) (x:=x) (y:=r) rfl rfl fun w5 hq5 hg5 hs5=>?_
   have hc5:Chg (fun k=>q.blk=some k) w4 w5:=Chg.of_grown hg5 fun k hk=>hk
   have hr5:=hr.chg hc5 fun k hk e=>qo8 hq4 hr (by decide) k e hk
   have hb5:=hb4.chg hc5 fun e=>qae hq4 hb4 (by decide) g e rfl
   have hd5:DecB w5 gd s.d:=Blk.chg hd4 hc5 fun e=>qae hq4 hd4 (by decide) gd e rfl
   have hs4:=hc4.size
   have hs5':=hc5.size
   have hc25:Chg S2 w2 w5:=((Chg.of_ext (S:=S2) hBd).trans hc4 fun k hk e=>hxS k e).trans hc5 fun k hk e=>hqS k e
   rw [w64i (by omega)]
   refine hI _ _ ⟨i+1,q,fun k=>S2 k∨r.blk=some k,rfl,by omega,hb5,.inr ⟨r,hq5,?_,?_,fun k hk=>.inl (hqS k hk),fun k hk=>.inr hk⟩,hd5,fun k hk=>.inl (hS2 k hk),fun k hk=>?_,fun k hk=>?_,?_⟩ (by simp;omega)
   ·have:xs.take (i+1)=xs.take i++[c]:=by rw [List.take_add_one,hc];rfl
    rw [this,←List.append_assoc]
    exact hr5
   ·rw [List.take_add_one,hc]
    simp
   ·rcases hk with hk | hk
    ·exact hS2' k hk
    ·rcases hrb with e | ⟨k',e,hge⟩
     ·rw [e] at hk;exact hS2' k (hxS k hk)
     ·rw [e] at hk;cases hk;right;omega
   ·rcases hk with hk | hk
    ·exact ⟨(hlt2 k hk).1,by have:=(hlt2 k hk).2;omega⟩
    ·have:=hr5.lt k hk;exact ⟨this.1,this.2⟩
   ·exact hc2.trans hc25 fun k hk hS=>by
     rcases hS2' k hS with h | h
     ·exact h
     ·omega
  refine lSl (x:=p) (hb1.cells 25 _ rfl) (jpO fun J3 hJ3=>?_)
  rcases hp1 with ⟨hnil,rfl⟩ | ⟨x,hq,hx,hne,hqS,hxS⟩
  ·refine cT rfl (hJ3 _ _ (cT rfl ?_))
   have hBd:=bdw w1
   have hb1d:=hb1.ext hBd
   refine lSl (x:=⟨none,0,0⟩) (hb1d.cells 25 _ rfl) ?_
   refine mkB (n:=0) (m:=32768) rfl rfl (by omega) (by omega) fun w7 hx7 hB7=>?_
   have hB17:=bT hBd hB7
   have hb7:=hb1.ext hB17
   refine ⟨hb7.cells 25 _ rfl,nwb fun w8 h8 hB8 hs8=>⟨(hb7.ext hB8).cells 25 _ rfl,?_⟩⟩
   have hB18:=bT hB17 hB8
   have hw8:=hB18.size
   refine q0u qts (E:=qb2) (base:=B) (Own.nil qb2 w8 B) (q6p (E:=qb2) (y:=⟨some ⟨w1.drew.heap.size,0,none⟩,0,32768⟩) h8 rfl) (by omega) (by rw [q65];simp) (by simp [maxLen]) fun q w9 hq9 hg9 hqb=>?_
   have hc9:Chg (fun k=>False) w8 w9:=Chg.of_grown hg9 fun k hk=>by cases hk
   have hB9:Below w8.heap.size w8 w9:=hc9.ext fun _ _ hf=>hf
   have hb9:=(hb7.ext hB8).ext hB9
   have hq9:Go.Vc.Own qb2 w9 B q [⟨some ⟨w1.drew.heap.size,0,none⟩,0,32768⟩]:=hq9
   have hx9:=(hx7.ext hB8).ext hB9
   rw [qag]
   refine qaf hb9 (by simp [qc0,T_keys_Keys.rep]) fun w10 hb10 hg10 hs10=>?_
   have hc10:Chg (fun k=>k=g) w9 w10:=Chg.gg hg10
   have hb10:Blk w10 g qbu (qc0 gd C q s.b.length s.err s.over):=hb10
   have hB19:=bT hB18 hB9
   have hw9:=hB19.size
   have hw10:=hc10.size
   refine app _ q (fun k=>S1 k∨q.blk=some k∨k=w1.drew.heap.size) w10 hb10 (hq9.chg hc10 fun k hk=>qae hq9 hb9 (by decide) k hk) ?_ (fun k hk=>.inr (.inl hk)) (fun k hk=>.inr (.inr (by cases hk;rfl))) (Blk.chg (hd1.ext hB19) hc10 fun e=>by subst e;exact (hd1.ext hB19).ne_t hb9 (by decide) rfl) (fun k hk=>.inl (hS1 k hk)) (fun k hk=>?_) (fun k hk=>?_) ?_
   ·rw [hnil]
    refine (hx9.chg hc10 fun k hk=>qae hx9 hb9 (by decide) k hk).base ?_
    show B≤w1.heap.size
    omega
   ·rcases hk with hk | hk | hk
    ·exact hS1' k hk
    ·right
     rcases hqb with e | e
     ·rw [e] at hk;cases hk
     ·rw [e] at hk;cases hk;omega
    ·right;have:w1.drew.heap.size=w1.heap.size:=rfl;omega
   ·rcases hk with hk | hk | hk
    ·exact ⟨(hlt1 k hk).1,by have:=(hlt1 k hk).2;omega⟩
    ·have:=(hq9.lt k hk);exact ⟨this.1,by omega⟩
    ·have h1:w1.drew.heap.size=w1.heap.size:=rfl
     have:=(hx9.lt k (by rw [hk];rfl)).2
     exact ⟨by omega,by omega⟩
   ·refine (hc1.trans (Chg.of_ext (S:=S) hB19) fun k _ hk=>hk).trans hc10 fun k _ hk=>?_
    subst hk;exact hsg
  ·have hqn:p.n=1:=hq.rd.n
   have hxn:x.n=(s.b++xs.take i).length:=hx.rd.n
   rw [List.length_append,List.length_take] at hxn
   refine cF (by rw [hqn];rfl) ?_
   have e0:IntKind.i64.wrap (((p.n:Nat):Int)-1)=0:=by rw [hqn];decide
   refine lSl (x:=p) (hb1.cells 25 _ rfl) ?_
   rw [e0]
   refine hq.rd.ix (i:=0) (k:=1) rfl (by omega) (by simp) fun hcell=>?_
   refine lSl (x:=x) (by
    have:=hq.rd.at_ 0 x rfl 0 _ rfl
    have h2:w1.cell? (p.at_ qb2.k 0)=some (.slice x.a x.n x.c):=by simpa using this
    exact h2) (hJ3 _ _ (cF ?_ (app x p S1 w1 hb1 hq hx hqS hxS hd1 hS1 hS1' hlt1 hc1)))
   dsimp only
   exact qkg (by omega)
 ·have hl:=of_decide_eq_false hl
  obtain rfl:i=xs.length:=by omega
  rw [List.take_length] at hp1
  refine lI (x:=(s.b.length:Int)) (hb1.cells 26 _ rfl) ?_
  rw [qag,w64i (by omega),show ((s.b.length:Nat):Int)+((xs.length:Nat):Int)=(((s.b++xs).length:Nat):Int) by simp]
  refine qaf hb1 (by simp [qc0,T_keys_Keys.rep]) fun w2 hb2 hg2 hs2=>?_
  have hb2:Blk w2 g qbu (qc0 gd C p (s.b++xs).length s.err s.over):=hb2
  have hc2:Chg (fun k=>k=g) w1 w2:=Chg.gg hg2
  have hp2:PcS w2 B S1 p (s.b++xs):=by
   rcases hp1 with h | ⟨x,h1,h2,h3,h4,h5⟩
   ·exact .inl h
   ·exact .inr ⟨x,h1.chg hc2 fun k hk=>qae h1 hb1 (by decide) k hk,h2.chg hc2 fun k hk=>qae h2 hb1 (by decide) k hk,h3,h4,h5⟩
  have hd2:DecB w2 gd s.d:=Blk.chg hd1 hc2 fun e=>by subst e;exact hd1.ne_t hb1 (by decide) rfl
  have hA2:LdA w2 B g gd C { s with b:=s.b++xs } S1:=⟨⟨p,hb2,hp2⟩,hd2,hok,hS1 g hsg,hS1 gd hsd,fun k hk=>⟨(hlt1 k hk).1,Nat.lt_of_lt_of_le (hlt1 k hk).2 hc2.size⟩⟩
  have hC2:Chg S w w2:=hc1.trans hc2 fun k _ hk=>by subst hk;exact hsg
  have hBd:=bdw w2
  have hBdd:=bT hBd (bdw w2.drew)
  have hb2d:=hb2.ext hBd
  have hb2dd:=hb2.ext hBdd
  have hKd:=hK S1 w2.drew (hA2.ext hBd) hS1' (hC2.trans (Chg.of_ext (S:=S) hBd) fun k _ hk=>hk)
  have hKdd:=hK S1 w2.drew.drew (hA2.ext hBdd) hS1' (hC2.trans (Chg.of_ext (S:=S) hBdd) fun k _ hk=>hk)
  unfold takeE at hKd hKdd
  refine lI (x:=(((s.b++xs).length:Nat):Int)) (hb2d.cells 26 _ rfl) (lI (x:=(C.most:Int)) (hb2d.cells 23 _ rfl) ?_)
  refine cO (fun e=>?_) fun e=>?_
  ·have e:=of_decide_eq_true e
   rw [if_pos (by omega)] at hKd
   exact hKd
  have e:=of_decide_eq_false e
  rw [if_neg (by omega)] at hKdd
  refine lI (x:=C.k.Zip) (hb2dd.cells 3 _ rfl) (cO (fun ez=>?_) fun ez=>?_)
  ·have ez:C.k.Zip=0:=eq_of_beq ez
   refine lI (x:=C.k.Format) (hb2dd.cells 6 _ rfl) (cO (fun ef=>?_) fun ef=>?_)
   ·have ef:C.k.Format≠100:=by simpa using ef
    refine lI (x:=(((s.b++xs).length:Nat):Int)) (hb2dd.cells 26 _ rfl) (lI (x:=(C.need:Int)) (hb2dd.cells 24 _ rfl) (cO (fun en=>?_) fun en=>?_))
    ·have en:=of_decide_eq_true en
     rw [if_pos ⟨ez,ef,by omega⟩] at hKdd
     exact hKdd
    ·have en:=of_decide_eq_false en
     rw [if_neg fun h=>en (by have:=h.2.2;omega)] at hKdd
     exact hKdd
   ·have ef:C.k.Format=100:=by simpa using ef
    rw [if_neg fun h=>h.2.1 ef] at hKdd
    exact hKdd
  ·have ez:C.k.Zip≠0:=by simpa using ez
   rw [if_neg fun h=>ez h.1] at hKdd
   exact hKdd
theorem q55 (h:LdA w B g gd C s S) {e:Nat} {K:World→Prop} (hK:∀w',LdA w' B g gd C (failL s e) S→Chg S w w'→K w'):qby (some ⟨g,0,none⟩) (e:Int) w K:=by
 obtain ⟨⟨p,hb,hp⟩,hd,hok,hsg,hsd,hlt⟩:=h
 refine qty _ _ ?_
 unfold qhx
 simp only [onPtr_some]
 refine jpO fun J1 hJ1=>?_
 unfold failL at hK
 have no:¬(s.err=0∧e≠0)→K w:=fun hn=>by
  rw [if_neg hn] at hK
  exact hK w ⟨⟨p,hb,hp⟩,hd,hok,hsg,hsd,hlt⟩ (Chg.refl _ _)
 refine lI (x:=(s.err:Int)) (hb.cells 27 _ rfl) (cO (fun e1=>hJ1 _ _ ?_) fun e1=>hJ1 _ _ (cF rfl (no fun h=>?_)))
 ·have e1:s.err=0:=by have:=eq_of_beq e1;omega
  refine cO (fun e2=>?_) fun e2=>no fun h=>?_
  ·have e2:e≠0:=fun h=>by rw [h] at e2;cases e2
   rw [if_pos ⟨e1,e2⟩] at hK
   rw [qag]
   refine qaf hb (by simp [qc0,T_keys_Keys.rep]) fun w2 hb2 hg2 hs2=>?_
   refine qlk _ ?_
   unfold qe4
   simp only [onPtr_some]
   rw [qag]
   refine qaf hb2 (by simp [qc0,T_keys_Keys.rep,putL]) fun w3 hb3 hg3 hs3=>?_
   rw [qag]
   refine qaf hb3 (by simp [qc0,T_keys_Keys.rep,putL]) fun w4 hb4 hg4 hs4=>?_
   have hc:Chg (fun k=>k=g) w w4:=((Chg.gg hg2).trans (Chg.gg hg3) fun i _ hi=>hi).trans (Chg.gg hg4) fun i _ hi=>hi
   have hb4:Blk w4 g qbu (qc0 gd C ⟨none,0,0⟩ 0 e s.over):=hb4
   have hd4:DecB w4 gd s.d:=Blk.chg hd hc fun e=>by subst e;exact hd.ne_t hb (by decide) rfl
   exact hK w4 ⟨⟨⟨none,0,0⟩,hb4,.inl ⟨rfl,rfl⟩⟩,hd4,hok,hsg,hsd,fun k hk=>⟨(hlt k hk).1,Nat.lt_of_lt_of_le (hlt k hk).2 hc.size⟩⟩ (hc.mono fun k _ hk=>by subst hk;exact hsg)
  ·rw [qbk (by have:=h.2;omega)] at e2;cases e2
 ·rw [h.1] at e1;cases e1
end
end Go.Proofs.YtmagnpcgpinmcaaGreat
set_option linter.unusedVariables false
namespace Go.Proofs.YtmagnpcgpinmcaaGreat
open Go.Vc Go.RowKit
set_option maxRecDepth 400000
section
variable {w:World} {B g gd:Nat} {C:LdK} {s:LdS} {S:Nat→Prop}
theorem LdA.setD {w':World} {d':B64} (h:LdA w B g gd C s S) (hd':DecB w' gd d') (hok:B64Ok d') (hc:Chg (fun k=>k=gd) w w'):LdA w' B g gd C { s with d:=d' } S:=by
 obtain ⟨⟨p,h1,h2⟩,h3,h4,h5,h6,h7⟩:=h
 refine ⟨⟨p,h1.chg hc fun e=>by subst e;exact h1.ne_t h3 (by decide) rfl,?_⟩,hd',hok,h5,h6,fun k hk=>⟨(h7 k hk).1,Nat.lt_of_lt_of_le (h7 k hk).2 hc.size⟩⟩
 rcases h2 with h | ⟨x,a1,a2,a3,a4,a5⟩
 ·exact .inl h
 ·exact .inr ⟨x,a1.chg hc fun k hk=>qae a1 h3 (by decide) k hk,a2.chg hc fun k hk=>qae a2 h3 (by decide) k hk,a3,a4,a5⟩
theorem q8x (h:LdA w B g gd C s S) (hBw:B≤w.heap.size) {r:Nat×List UInt8×B64} {t:Slc} {w2:World} (ht:Rd qaa w2 t r.2.1) (htb:∀k,t.blk=some k→w.heap.size≤k) (hd:DecB w2 gd r.2.2) (hok:B64Ok r.2.2) (hc:Chg (fun k=>k=gd) w w2) (hsm:s.b.length+r.2.1.length≤32768) {K:World→Prop}
  (hK:∀S' w',LdA w' B g gd C (gotL C s r) S'→(∀k,S' k→S k∨w.heap.size≤k)→Chg S w w'→K w') :
  cond ((r.1:Int)==(0:Int)) (qd7 (some ⟨g,0,none⟩) t w2 fun t37 w4=>qby (some ⟨g,0,none⟩) t37 w4 fun w5=>K w5) (qby (some ⟨g,0,none⟩) (r.1:Int) w2 fun w6=>K w6):=by
 have h2:=h.setD hd hok hc
 have hs:=hc.size
 have hC:Chg S w w2:=hc.mono fun k _ hk=>by subst hk;exact h.sd
 unfold gotL at hK
 refine cO (fun e=>?_) fun e=>?_
 ·have e:r.1=0:=by have:=eq_of_beq e;omega
  rw [if_neg (by omega)] at hK
  refine zgz h2 (by omega) ht (fun k hk hS=>by have:=htb k hk;have:=(h.lt k hS).2;omega) hsm fun S' w4 h4 hS' hc4=>?_
  refine q55 h4 fun w5 h5 hc5=>?_
  refine hK S' w5 h5 (fun k hk=>?_) ((hC.trans hc4 fun k _ hk=>hk).trans hc5 fun k hk hS=>?_)
  ·rcases hS' k hk with h | h
   ·exact .inl h
   ·right;omega
  ·rcases hS' k hS with h | h
   ·exact h
   ·omega
 ·have e:r.1≠0:=fun h=>by rw [h] at e;cases e
  rw [if_pos e] at hK
  refine q55 h2 fun w5 h5 hc5=>?_
  exact hK S w5 h5 (fun k hk=>.inl hk) (hC.trans hc5 fun k _ hk=>hk)
theorem qz5 (h:LdA w B g gd C s S) (hBw:B≤w.heap.size) (hov:s.over=false) {t:Slc} {ts:List UInt8} (ht:Rd qaa w t ts) (htS:∀k,t.blk=some k→ts≠[]→¬S k) (hsm:s.b.length+3*ts.length≤30000) {K:Int→World→Prop}
  (hK:∀S' w',LdA w' B g gd C (addL C s ts) S'→(addL C s ts).over=false→(addL C s ts).b.length≤s.b.length+3*ts.length→(∀k,S' k→S k∨w.heap.size≤k)→Chg S w w'→K (((addL C s ts).err:Nat):Int) w'):qdl (some ⟨g,0,none⟩) t w K:=by
 refine qmb _ _ ?_
 unfold qfp
 simp only [onPtr_some]
 obtain ⟨p0,hb0,_⟩:=h.ex
 refine qbj (x:=s.over) (hb0.cells 28 _ rfl) (cF hov (jpO fun J1 hJ1=>?_))
 have tell:∀S1 w1 i,i≤ts.length→LdA w1 B g gd C (addL C s (ts.take i)) S1→(addL C s (ts.take i)).over=false→(addL C s (ts.take i)).b.length≤s.b.length+3*i→(∀k,S1 k→S k∨w.heap.size≤k)→Chg S w w1→(i=ts.length∨(addL C s (ts.take i)).err≠0)→J1 () w1:=by
  intro S1 w1 i hi h1 ho hl hS1 hc1 hor
  refine hJ1 _ _ ?_
  have e:addL C s ts=addL C s (ts.take i):=by
   rcases hor with rfl | he
   ·rw [List.take_length]
   ·conv=>lhs;rw [←List.take_append_drop i ts,qka,za7 he]
  rw [e] at hK
  obtain ⟨p1,hb1,_⟩:=h1.ex
  exact lI (x:=(((addL C s (ts.take i)).err:Nat):Int)) (hb1.cells 27 _ rfl) (hK S1 w1 h1 ho (by omega) hS1 hc1)
 rw [ht.n]
 refine lpR (fun (st:Int×Unit) w1=>∃(i:Nat) (S1:Nat→Prop),st.1=i∧i≤ts.length∧LdA w1 B g gd C (addL C s (ts.take i)) S1∧(addL C s (ts.take i)).over=false∧(addL C s (ts.take i)).b.length≤s.b.length+3*i∧(∀k,S1 k→S k∨w.heap.size≤k)∧Chg S w w1) (fun st=>ts.length-st.1.toNat)
  ⟨0,S,rfl,by omega,h,hov,Nat.le_refl _,fun k hk=>.inl hk,Chg.refl _ _⟩ ?_
 rintro ⟨i,u⟩ w1 ⟨i,S1,rfl,hi,h1,ho1,hl1,hS1,hc1⟩ I hI
 dsimp only
 have hw1:=hc1.size
 refine cO (fun hlt=>?_) fun hge=>?_
 ·have hlt:=of_decide_eq_true hlt
  have hil:i<ts.length:=by omega
  obtain ⟨c,hc,_⟩:=qat (xs:=ts) (k:=i) hil
  have htn:ts≠[]:=fun h=>by rw [h] at hil;simp at hil
  have ht1:=ht.chg hc1 fun a ha=>htS a.block (slk.2 ⟨a,ha,rfl⟩) htn
  refine ht1.ix (i:=(i:Int)) rfl (by omega) (by omega) fun _=>?_
  rw [Int.toNat_natCast]
  refine lI (x:=(c.toNat:Int)) (qaw ht1 hc) ?_
  obtain ⟨s1,hs1⟩:∃s1,s1=addL C s (ts.take i):=⟨_,rfl⟩
  have hsucc:addL C s (ts.take (i+1))=addC C s1 c:=by
   rw [List.take_add_one,hc,qka,←hs1];rfl
  rw [←hs1] at h1 ho1 hl1
  obtain ⟨p1,hb1,_⟩:=h1.ex
  refine lI (x:=(s1.err:Int)) (hb1.cells 27 _ rfl) (cO (fun e=>?_) fun e=>?_)
  ·have e:s1.err≠0:=fun h=>by rw [h] at e;cases e
   rw [hs1] at h1 ho1 hl1 e
   exact tell S1 w1 i hi h1 ho1 hl1 hS1 hc1 (.inr e)
  ·have e:s1.err=0:=by
    rcases Nat.eq_zero_or_pos s1.err with h | h
    ·exact h
    ·rw [qbk (by omega)] at e;cases e
   refine qbf (x:=some ⟨gd,0,none⟩) (hb1.cells 0 _ rfl) ?_
   refine zj1 h1.d h1.ok fun t3 w3 ht3 htb3 hd3 hc3=>?_
   have hpl:=quj s1.d h1.ok c
   have hac:addC C s1 c=gotL C s1 (qbw s1.d c):=by unfold addC;rw [if_neg (by omega)]
   have:=q8x h1 (by omega) ht3 htb3 hd3 (q8c h1.ok c) hc3 (by omega) (K:=fun w5=>I ((IntKind.i64.wrap ((i:Int)+(1:Int))),()) w5) fun S' w5 h5 hS' hc5=>by
    rw [w64i (by omega)]
    rw [←hac] at h5
    refine hI _ _ ⟨i+1,S',rfl,by omega,by rw [hsucc];exact h5,by rw [hsucc,q81];exact ho1,?_,fun k hk=>?_,hc1.trans hc5 fun k hk hS=>?_⟩ (by simp;omega)
    ·rw [hsucc]
     have:=zcz C s1 h1.ok c
     omega
    ·rcases hS' k hk with h | h
     ·exact hS1 k h
     ·right;omega
    ·rcases hS1 k hS with h | h
     ·exact h
     ·omega
   exact this
 ·have hge:=of_decide_eq_false hge
  obtain rfl:i=ts.length:=by omega
  exact tell S1 w1 ts.length (Nat.le_refl _) h1 ho1 hl1 hS1 hc1 (.inl rfl)
theorem qu1 (h:LdA w B g gd C s S) {K:Int→World→Prop} (hK:K ((s.b.length:Nat):Int) w):qd6 (some ⟨g,0,none⟩) w K:=by
 refine qta _ ?_
 unfold qh0
 simp only [onPtr_some]
 obtain ⟨p,hb,_⟩:=h.ex
 exact lI (x:=(s.b.length:Int)) (hb.cells 26 _ rfl) hK
def qbr (k:T_keys_Keys):Nat×Nat :=
 if k.Medium≠100∨(k.Zip≠0∧k.Zip≠122) then (8,0)
 else if k.Format=100 then (0,0)
 else if k.Format≠24∧k.Format≠32 then (8,0)
 else if k.W<1∨k.W>16384∨k.H<1∨k.H>16384 then (1,0)
 else (0,k.Format.toNat/8*k.W.toNat*k.H.toNat)
theorem q40 {n:Int} {K:Bool→World→Prop} (hK:K (decide (1≤n∧n≤16384)) w):qkl n w K:=by
 refine q4h _ ?_
 unfold qm2
 refine cO (fun e=>?_) fun e=>?_
 ·have e:=of_decide_eq_true e
  have:decide (1≤n∧n≤16384)=decide (n≤16384):=by rw [decide_eq_decide];omega
  rw [this] at hK
  exact hK
 ·have e:=of_decide_eq_false e
  rw [decide_eq_false (by omega)] at hK
  exact hK
theorem q4r {k:T_keys_Keys} {K:Int→Int→World→Prop} (hK:∀w',Below w.heap.size w w'→K ((qbr k).2:Nat) ((qbr k).1:Nat) w'):qlx k w K:=by
 refine q6i _ ?_
 unfold qn2
 refine nwb fun w1 h1 hB1 hs1=>jpO fun J1 hJ1=>jpO fun J2 hJ2=>?_
 have hk:=hK w1 hB1
 unfold qbr at hk
 have key:∀bb:Bool,(bb=true↔k.Medium≠100∨(k.Zip≠0∧k.Zip≠122))→J2 (bb,()) w1:=by
  intro bb hbb
  refine hJ2 _ _ (cO (fun e=>?_) fun e=>?_)
  ·rw [if_pos (hbb.1 e)] at hk;exact hk
  rw [if_neg fun h=>by rw [hbb.2 h] at e;cases e] at hk
  refine lI (x:=k.Format) (h1.cells 5 _ rfl) (cO (fun e=>?_) fun e5=>?_)
  ·rw [if_pos (eq_of_beq e)] at hk;exact hk
  have e5:k.Format≠100:=by simpa using e5
  rw [if_neg e5] at hk
  refine jpO fun J3 hJ3=>?_
  have key2:∀bb:Bool,(bb=true↔k.Format≠24∧k.Format≠32)→J3 (bb,()) w1:=by
   intro bb hbb
   refine hJ3 _ _ (cO (fun e=>?_) fun e=>?_)
   ·rw [if_pos (hbb.1 e)] at hk;exact hk
   have hf:¬(k.Format≠24∧k.Format≠32):=fun h=>by rw [hbb.2 h] at e;cases e
   rw [if_neg hf] at hk
   refine lI (x:=k.W) (h1.cells 6 _ rfl) (q40 (cO (fun e=>?_) fun e=>?_))
   ·have e:¬(1≤k.W∧k.W≤16384):=fun h=>by rw [decide_eq_true h] at e;cases e
    rw [if_pos (by omega)] at hk;exact hk
   have e1:1≤k.W∧k.W≤16384:=by simpa using e
   refine lI (x:=k.H) (h1.cells 7 _ rfl) (q40 (cO (fun e=>?_) fun e=>?_))
   ·have e:¬(1≤k.H∧k.H≤16384):=fun h=>by rw [decide_eq_true h] at e;cases e
    rw [if_pos (by omega)] at hk;exact hk
   have e2:1≤k.H∧k.H≤16384:=by simpa using e
   rw [if_neg (by omega)] at hk
   refine hJ1 _ _ (lI (x:=k.Format) (h1.cells 5 _ rfl) ⟨by decide,lI (x:=k.W) (h1.cells 6 _ rfl) (lI (x:=k.H) (h1.cells 7 _ rfl) ?_)⟩)
   obtain ⟨W,hW⟩:∃W:Nat,k.W=W:=⟨k.W.toNat,by omega⟩
   obtain ⟨H,hH⟩:∃H:Nat,k.H=H:=⟨k.H.toNat,by omega⟩
   obtain ⟨f,hF⟩:∃f:Nat,k.Format=f:=⟨k.Format.toNat,by omega⟩
   have hf8:f/8≤4:=by omega
   rw [hW,hH,hF] at hk ⊢
   have h3:f/8*W≤4*16384:=Nat.mul_le_mul hf8 (by omega)
   have h4:f/8*W*H≤4*16384*16384:=Nat.mul_le_mul h3 (by omega)
   have ev:IntKind.i64.wrap ((IntKind.i64.wrap ((IntKind.i64.wrap ((f:Int).tdiv (8:Int)))*(W:Int)))*(H:Int))=((f/8*W*H:Nat):Int):=by
    rw [show (8:Int)=((8:Nat):Int) from rfl,←Int.ofNat_tdiv,w64i (x:=((f/8:Nat):Int)) (by omega),show ((f/8:Nat):Int)*(W:Int)=((f/8*W:Nat):Int) by simp,w64i (x:=((f/8*W:Nat):Int)) (by omega),show ((f/8*W:Nat):Int)*(H:Int)=((f/8*W*H:Nat):Int) by simp,w64i (by omega)]
   rw [ev]
   exact hk
  refine lI (x:=k.Format) (h1.cells 5 _ rfl) (cO (fun e=>?_) fun e=>?_)
  ·have e:k.Format≠24:=by simpa using e
   refine lI (x:=k.Format) (h1.cells 5 _ rfl) (key2 _ ?_)
   simp [e]
  ·have e:k.Format=24:=by simpa using e
   exact key2 _ (by simp [e])
 refine lI (x:=k.Medium) (h1.cells 1 _ rfl) (cO (fun e=>?_) fun e=>?_)
 ·have e:k.Medium≠100:=by simpa using e
  exact key _ (by simp [e])
 have e:k.Medium=100:=by simpa using e
 refine lI (x:=k.Zip) (h1.cells 2 _ rfl) (cO (fun e2=>?_) fun e2=>?_)
 ·have e2:k.Zip≠0:=by simpa using e2
  refine lI (x:=k.Zip) (h1.cells 2 _ rfl) (key _ ?_)
  simp [e,e2]
 ·have e2:k.Zip=0:=by simpa using e2
  exact key _ (by simp [e,e2])
end
end Go.Proofs.YtmagnpcgpinmcaaGreat
set_option linter.unusedVariables false
namespace Go.Proofs.YtmagnpcgpinmcaaGreat
open Go.Vc Go.RowKit
set_option maxRecDepth 400000
def newP (k:T_keys_Keys) (room:Int):Nat :=
 if room<0∨room>1073741824 then 1
 else if (qbr k).1≠0 then (qbr k).1
 else if k.Format≠100∧4*k.W*k.H>room then 6 else 0
def ld0:LdS:=⟨b64N,[],0,false⟩
theorem qyq {k:T_keys_Keys} (h:(qbr k).1=0):(k.Format=100∧(qbr k).2=0)∨(k.Format≠100∧(k.Format=24∨k.Format=32)∧∃W H:Nat,k.W=W∧k.H=H∧1≤W∧W≤16384∧1≤H∧H≤16384∧(qbr k).2=k.Format.toNat/8*W*H):=by
 unfold qbr at h ⊢
 split at h
 ·cases h
 ·rename_i h1
  rw [if_neg h1]
  split at h
  ·rename_i h2
   rw [if_pos h2]
   exact .inl ⟨h2,rfl⟩
  ·rename_i h2
   rw [if_neg h2]
   split at h
   ·cases h
   ·rename_i h3
    rw [if_neg h3]
    split at h
    ·cases h
    ·rename_i h4
     rw [if_neg h4]
     exact .inr ⟨h2,by omega,k.W.toNat,k.H.toNat,by omega,by omega,by omega,by omega,by omega,by omega,rfl⟩
def pxF (per:Nat) (b:List UInt8) (i:Nat):List UInt8:=(b.drop (per*i)).take per++[0,0,0,255].drop per
def fromP (per n:Nat) (b:List UInt8):List UInt8:=(List.range n).flatMap (pxF per b)
theorem zl7 {per:Nat} {b:List UInt8} {i:Nat} (hp:per≤4) (h:per*i+per≤b.length):(pxF per b i).length=4:=by
 unfold pxF
 rw [List.length_append,List.length_take,List.length_drop,List.length_drop]
 show min per (b.length-per*i)+(4-per)=4
 omega
theorem qvg (per n:Nat) (b:List UInt8):fromP per (n+1) b=fromP per n b++pxF per b n:=by
 unfold fromP
 rw [List.range_succ,List.flatMap_append]
 simp
theorem qyy {per:Nat} {b:List UInt8} (hp:per≤4):∀n,per*n≤b.length→(fromP per n b).length=4*n
 | 0,_=>rfl
 | n+1,h=>by
  have e:per*(n+1)=per*n+per:=by rw [Nat.mul_add,Nat.mul_one]
  rw [qvg,List.length_append,qyy hp n (by omega),zl7 hp (by omega)]
  omega
section
variable {w:World}
theorem qz4 {k:T_keys_Keys} {room:Int} {K:Option Addr→Int→World→Prop} (hE:newP k room≠0→∀w',Below w.heap.size w w'→K none ((newP k room:Nat):Int) w')
  (hO:newP k room=0→∀g gd w',LdA w' w.heap.size g gd ⟨k,room.toNat,(qbr k).2⟩ ld0 (fun i=>i=g∨i=gd)→Below w.heap.size w w'→K (some ⟨g,0,none⟩) 0 w'):qox k room w K:=by
 refine q9c _ _ ?_
 unfold qr1
 refine nwb fun w1 h1 hB1 hs1=>jpO fun J1 hJ1=>?_
 unfold newP at hE hO
 refine cO (fun e=>?_) fun e1=>cO (fun e=>?_) fun e2=>hJ1 _ _ ?_
 ·have e:=of_decide_eq_true e
  rw [if_pos (.inl e)] at hE
  exact hE (by decide) w1 hB1
 ·have e:=of_decide_eq_true e
  rw [if_pos (.inr e)] at hE
  exact hE (by decide) w1 hB1
 have e1:=of_decide_eq_false e1
 have e2:=of_decide_eq_false e2
 rw [if_neg (by omega)] at hE hO
 refine qak (r:=T_keys_Keys.rep) (x:=k) h1.cells ?_
 refine q4r fun w3 hB3=>?_
 have hB13:=bT hB1 hB3
 have h13:=h1.ext hB3
 refine jpO fun J2 hJ2=>?_
 refine cO (fun e=>?_) fun e=>?_
 ·have e:(qbr k).1≠0:=fun h=>by rw [h] at e;cases e
  rw [if_pos e] at hE
  exact hE e w3 hB13
 have e0:(qbr k).1=0:=by
  rcases Nat.eq_zero_or_pos (qbr k).1 with h | h
  ·exact h
  ·rw [qbk (by omega)] at e;cases e
 rw [if_neg (by omega)] at hE hO
 have made:¬(k.Format≠100∧4*k.W*k.H>room)→J2 () w3:=by
  intro hn
  rw [if_neg hn] at hO
  refine hJ2 _ _ ?_
  have hBd:=bdw w3
  refine qak (r:=T_keys_Keys.rep) (x:=k) (h13.ext hBd).cells ?_
  refine qsw ?_
  unfold qhe
  refine nwb fun w5 h5 hB5 hs5=>?_
  have hB35:=bT hBd hB5
  refine ⟨(h13.ext hB35).cells,nwb fun w6 h6 hB6 hs6=>?_⟩
  have hs13:=hB13.size
  have hz:w3.drew.heap.size=w3.heap.size:=rfl
  have hd:DecB w6 w3.drew.heap.size b64N:=h5.ext hB6
  refine hO rfl w5.heap.size w3.drew.heap.size w6 ⟨⟨⟨none,0,0⟩,?_,.inl ⟨rfl,rfl⟩⟩,hd,q7m,.inl rfl,.inr rfl,fun i hi=>?_⟩ (bT (bT hB13 hB35) hB6)
  ·have hr:((room.toNat:Nat):Int)=room:=by omega
   have:qc0 w3.drew.heap.size ⟨k,room.toNat,(qbr k).2⟩ ⟨none,0,0⟩ ld0.b.length ld0.err ld0.over=[(.pointer (some ⟨w3.drew.heap.size,0,none⟩)),(.int .u8 k.Action),(.int .u8 k.Medium),(.int .u8 k.Zip),(.int .u8 k.What),(.int .i64 k.Quiet),(.int .i64 k.Format),(.int .i64 k.W),(.int .i64 k.H),(.int .i64 k.Id),(.int .i64 k.Number),(.int .i64 k.Place),(.int .i64 k.More),(.int .i64 k.X),(.int .i64 k.Y),(.int .i64 k.PW),(.int .i64 k.PH),(.int .i64 k.DX),(.int .i64 k.DY),(.int .i64 k.Rows),(.int .i64 k.Cols),(.int .i64 k.Z),(.int .i64 k.Stay),(.int .i64 room),(.int .i64 (((qbr k).2:Nat):Int)),(.slice none 0 0),(.int .i64 0),(.int .i64 0),(.bool false)]:=by
    unfold qc0
    rw [hr]
    rfl
   rw [this]
   exact h6
  ·rcases hi with rfl | rfl
   ·exact ⟨by omega,by omega⟩
   ·exact ⟨by omega,by omega⟩
 refine lI (x:=k.Format) (h13.cells 5 _ rfl) (cO (fun ef=>?_) fun ef=>?_)
 ·have ef:k.Format≠100:=by simpa using ef
  rcases qyq e0 with ⟨h,_⟩ | ⟨_,_,W,H,hW,hH,a1,a2,a3,a4,_⟩
  ·exact absurd h ef
  refine lI (x:=k.W) (h13.cells 6 _ rfl) (lI (x:=k.H) (h13.cells 7 _ rfl) ?_)
  have hWH:W*H≤16384*16384:=Nat.mul_le_mul a2 a4
  have h4:4*W*H=4*(W*H):=Nat.mul_assoc _ _ _
  have em:4*k.W*k.H=((4*W*H:Nat):Int):=by rw [hW,hH];simp
  have ev:IntKind.i64.wrap ((IntKind.i64.wrap ((4:Int)*k.W))*k.H)=((4*W*H:Nat):Int):=by
   rw [hW,hH,w64i (x:=(4:Int)*(W:Int)) (by omega),show (4:Int)*(W:Int)*(H:Int)=((4*W*H:Nat):Int) by simp,w64i (by omega)]
  rw [ev]
  rw [em] at hE made
  refine cO (fun e=>?_) fun e=>made fun h=>?_
  ·have e:=of_decide_eq_true e
   rw [if_pos ⟨ef,e⟩] at hE
   exact hE (by decide) w3 hB13
  ·exact of_decide_eq_false e h.2
 ·have ef:k.Format=100:=by simpa using ef
  exact made fun h=>h.1 ef
theorem q8u {W H per:Nat} {b:Slc} {bs:List UInt8} (hper:per=3∨per=4) (hW1:1≤W) (hW2:W≤16384) (hH1:1≤H) (hH2:H≤16384) (hA:W*H≤67108864) (hb:Rd qaa w b bs) (hl:bs.length≤1000000000) {K:T_api_Matrix→Int→World→Prop}
  (hS:bs.length<per*W*H→∀w',Below w.heap.size w w'→K ⟨0,0,⟨none,0,0⟩⟩ 2 w') (hL:bs.length>per*W*H→∀w',Below w.heap.size w w'→K ⟨0,0,⟨none,0,0⟩⟩ 5 w')
  (hO:bs.length=per*W*H→∀s w',Go.Vc.Own qaa w' w.heap.size s (fromP per (W*H) bs)→Below w.heap.size w w'→K ⟨W,H,s⟩ 0 w'):ql4 (W:Int) (H:Int) (per:Int) b w K:=by
 refine q5e _ _ _ _ ?_
 unfold qom
 refine nwb fun w1 h1 hB1 hs1=>?_
 refine qxx hW1 hW2 hH1 hH2 hA fun tm gm w2 htm hta hgm hB2=>?_
 refine nwb fun w3 h3 hB3 hs3=>qav h3 rfl fun w4 h4 hc4 hs4=>?_
 have hB24:Below w2.heap.size w2 w4:=b1o hB3 hc4 (Nat.le_refl _)
 have hB14:=bT hB2 hB24
 have hB4:=bT hB1 hB14
 have htm4:=(htm.ext hB3).chg hc4 fun k hk=>qae (htm.ext hB3) h3 (by decide) k hk
 have h14:=h1.ext hB14
 have hp4:3≤per∧per≤4:=by omega
 have hpm:per*W*H=per*(W*H):=Nat.mul_assoc _ _ _
 have h4m:4*W*H=4*(W*H):=Nat.mul_assoc _ _ _
 have hpA:per*(W*H)≤4*(W*H):=Nat.mul_le_mul_right _ hp4.2
 have htb:tm.blk=some gm:=by unfold Slc.blk;rw [hta];rfl
 have hsz2:=hB2.size
 refine jpO fun J1 hJ1=>?_
 have bad:∀e:Nat,e≠0→(∀w',Below w.heap.size w w'→K ⟨0,0,⟨none,0,0⟩⟩ (e:Int) w')→J1 ((e:Int),()) w4:=fun e he hk=>hJ1 _ _ (cT (qbk (by omega)) (qa5 (r:=T_api_Matrix.rep) (x:=⟨0,0,⟨none,0,0⟩⟩) h14 rfl rfl fun w5 hc5 hs5=>hk w5 (b1o hB4 hc5 (Nat.le_refl _))))
 have good:bs.length=per*W*H→J1 (0,()) w4:=by
  intro hbl
  refine hJ1 _ _ (cF rfl ?_)
  have ewh:IntKind.i64.wrap ((W:Int)*(H:Int))=((W*H:Nat):Int):=by rw [show (W:Int)*(H:Int)=((W*H:Nat):Int) by simp,w64i (by omega)]
  rw [ewh]
  refine lpR (fun (st:Int×Unit) w5=>∃i:Nat,st.1=i∧i≤W*H∧Go.Vc.Own qaa w5 w1.heap.size tm (fromP per i bs++List.replicate (4*(W*H-i)) 0)∧Chg (fun k=>k=gm) w4 w5) (fun st=>W*H-st.1.toNat)
   ⟨0,rfl,by omega,by rw [Nat.sub_zero,←h4m];exact htm4,Chg.refl _ _⟩ ?_
  rintro ⟨i,u⟩ w5 ⟨i,rfl,hi,hT,hC⟩ I hI
  dsimp only
  have keep:∀{k tt:Nat} {cs:List Value},tt≠qai→Blk w4 k tt cs→Blk w5 k tt cs:=fun {k tt cs} hne hbk=>hbk.chg hC fun e=>by
   subst e
   obtain ⟨cs',hcs'⟩:=htm4.blk_t htb
   exact hbk.ne_t hcs' hne rfl
  have hm5:=keep (by decide) h4
  have hB5:Below w.heap.size w w5:=b1o hB4 hC (by have:=hB1.size;omega)
  refine cO (fun hlt=>?_) fun hge=>?_
  ·have hlt:=of_decide_eq_true hlt
   have hil:i<W*H:=by omega
   have hpi:per*i+per≤bs.length:=by
    have:=Nat.mul_le_mul_left per (show i+1≤W*H from hil)
    rw [Nat.mul_add,Nat.mul_one] at this
    omega
   have hfl:=qyy (b:=bs) hp4.2 i (by omega)
   obtain ⟨R,hR⟩:∃R:List UInt8,R=List.replicate (4*(W*H-(i+1))) 0:=⟨_,rfl⟩
   have hrep:List.replicate (4*(W*H-i)) (0:UInt8)=[0,0,0,0]++R:=by
    rw [hR,show 4*(W*H-i)=4+4*(W*H-(i+1)) by omega,←List.replicate_append_replicate]
    rfl
   rw [hrep] at hT
   obtain ⟨A,hA'⟩:∃A,A=fromP per i bs:=⟨_,rfl⟩
   rw [←hA'] at hT hfl
   refine lSl (x:=tm) (hm5.cells 2 _ rfl) ?_
   rw [w64i (x:=(4:Int)*(i:Int)) (by omega),w64i (x:=(4:Int)*(i:Int)+3) (by omega),show (4:Int)*(i:Int)+3=((4*i+3:Nat):Int) by simp]
   refine hT.rd.ix (i:=((4*i+3:Nat):Int)) rfl (by omega) (by simp only [List.length_append,List.length_cons,List.length_nil];omega) fun _=>?_
   rw [Int.toNat_natCast]
   refine hT.st0 (i:=4*i+3) (x:=0) (y:=255) (by rw [List.getElem?_append_right (by omega),hfl,show 4*i+3-4*i=3 by omega];rfl) rfl fun w6 hT6 hg6 hs6=>?_
   have hc6:Chg (fun k=>k=gm) w5 w6:=by rw [htb] at hg6;exact Chg.gg hg6
   have hset:(A++([0,0,0,0]++R)).set (4*i+3) 255=A++([0,0,0,255]++R):=by
    rw [List.set_append_right _ _ (by omega),hfl,show 4*i+3-4*i=3 by omega]
    rfl
   rw [hset] at hT6
   have hBd:=bdw w6
   have hT6d:=hT6.ext hBd
   have hm6:Blk w6 w2.heap.size qal _:=hm5.chg hc6 fun e=>by
    obtain ⟨cs',hcs'⟩:=hT.blk_t htb
    subst e;exact hm5.ne_t hcs' (by decide) rfl
   have hB6d:Below w.heap.size w w6.drew:=bT (b1o hB5 hc6 (by have:=hB1.size;omega)) hBd
   refine lSl (x:=tm) ((hm6.ext hBd).cells 2 _ rfl) ?_
   have hll:(A++([0,0,0,255]++R)).length=4*i+(4+R.length):=by
    rw [List.length_append,List.length_append,hfl];rfl
   rw [show (4:Int)*(i:Int)=((4*i:Nat):Int) by simp]
   obtain ⟨cur,hcur,hcl,hct,hc1,hc2,hc3',hc4'⟩:=q6w (c:=0) hT6d hta
   refine hT6d.rd.slK (l:=4*i) (m:=(A++([0,0,0,255]++R)).length) rfl (.inr rfl) (.inl ⟨rfl,rfl⟩) (by omega) (Nat.le_refl _) fun _=>?_
   have hbd:=hb.ext hB6d
   have ep:IntKind.i64.wrap ((per:Int)*(i:Int))=((per*i:Nat):Int):=by rw [show (per:Int)*(i:Int)=((per*i:Nat):Int) by simp,w64i (by omega)]
   have ep2:IntKind.i64.wrap (((per*i:Nat):Int)+(per:Int))=((per*i+per:Nat):Int):=by rw [w64i (by omega)];simp
   rw [ep,ep2]
   refine hbd.slK (l:=per*i) (m:=per*i+per) rfl (.inr rfl) (.inr rfl) (by omega) hpi fun hpt=>?_
   have hpe:(bs.take (per*i+per)).drop (per*i)=(bs.drop (per*i)).take per:=by rw [List.drop_take,Nat.add_sub_cancel_left]
   rw [hpe] at hpt
   have hptl:((bs.drop (per*i)).take per).length=per:=by rw [List.length_take,List.length_drop];omega
   have hcut:cut tm.a (4*i) tm.c qaa.k=some ⟨gm,4*i,none⟩:=by
    unfold cut
    rw [if_neg (by omega),hta]
    show some ((⟨gm,0,none⟩:Addr).add (4*i*1))=_
    rw [qag,Nat.mul_one,Nat.zero_add]
   rw [hcut]
   refine copyB (n:=per) hcur hpt (by rw [hptl,hll];show per=min per (4*i+(4+R.length)-4*i);omega) (by omega) fun w7 hb7 hc7 hs7=>?_
   have htk:((bs.drop (per*i)).take per).take per=(bs.drop (per*i)).take per:=List.take_of_length_le (by omega)
   rw [htk] at hb7
   have hT7:=zf0 (ys:=(bs.drop (per*i)).take per) (k:=4*i) hT6d hta hcur (by rw [hptl,hll];omega) hb7
   rw [hptl] at hT7
   have hfin:(A++([0,0,0,255]++R)).take (4*i)++(bs.drop (per*i)).take per++(A++([0,0,0,255]++R)).drop (4*i+per)=fromP per (i+1) bs++R:=by
    rw [qvg,←hA',List.take_append_of_le_length (by omega),List.take_of_length_le (by omega),List.drop_append,hfl,show 4*i+per-4*i=per by omega,List.drop_of_length_le (show A.length≤4*i+per by omega),List.nil_append,List.drop_append_of_le_length (show per≤4 by omega)]
    unfold pxF
    simp [List.append_assoc]
   rw [hfin,hR] at hT7
   rw [w64i (by omega)]
   exact hI _ _ ⟨i+1,rfl,by omega,hT7,((hC.trans hc6 fun k _ hk=>hk).trans (Chg.of_ext (S:=fun k=>k=gm) hBd) fun k _ hk=>hk).trans hc7 fun k _ hk=>hk⟩ (by simp;omega)
  ·have hge:=of_decide_eq_false hge
   obtain rfl:i=W*H:=by omega
   rw [Nat.sub_self,Nat.mul_zero,List.replicate_zero,List.append_nil] at hT
   refine qak (r:=T_api_Matrix.rep) (x:=⟨W,H,tm⟩) hm5.cells ?_
   have h15:=keep (by decide) h14
   refine qa5 (r:=T_api_Matrix.rep) (x:=⟨W,H,tm⟩) h15 rfl rfl fun wb hcb hsb=>?_
   exact hO hbl tm wb ((hT.chg hcb fun k hk=>qae hT h15 (by decide) k hk).base hB1.size) (b1o hB5 hcb (Nat.le_refl _))
 have en:IntKind.i64.wrap ((IntKind.i64.wrap ((per:Int)*(W:Int)))*(H:Int))=((per*W*H:Nat):Int):=by
  have h5:per*W≤4*16384:=Nat.mul_le_mul hp4.2 hW2
  rw [show (per:Int)*(W:Int)=((per*W:Nat):Int) by simp,w64i (x:=((per*W:Nat):Int)) (by omega),show ((per*W:Nat):Int)*(H:Int)=((per*W*H:Nat):Int) by simp,w64i (by omega)]
 rw [hb.n,en]
 refine cF rfl (cO (fun e=>?_) fun e=>cO (fun e2=>?_) fun e2=>?_)
 ·have e:=of_decide_eq_true e
  exact bad 2 (by decide) (hS (by omega))
 ·have e2:=of_decide_eq_true e2
  exact bad 5 (by decide) (hL (by omega))
 ·have e:=of_decide_eq_false e
  have e2:=of_decide_eq_false e2
  exact good (by omega)
end
end Go.Proofs.YtmagnpcgpinmcaaGreat
set_option linter.unusedVariables false
namespace Go.Proofs.YtmagnpcgpinmcaaGreat
open Go.Vc Go.RowKit
set_option maxRecDepth 400000
section
variable {w:World} {B g:Nat} {C:LdK} {s:LdS} {S:Nat→Prop}
theorem zi5 (h:RlA w B g C s S) (hBw:B≤w.heap.size) (hov:s.over=false) {t:Slc} {ts:List UInt8} (ht:Rd qaa w t ts) (htS:∀k,t.blk=some k→ts≠[]→¬S k) (htl:∀k,t.blk=some k→ts≠[]→k<w.heap.size) (hsm:s.b.length+3*ts.length≤30000) {K:Int→World→Prop}
  (hK:∀S' w',RlA w' B g C (addL C s ts) S'→(addL C s ts).over=false→(addL C s ts).b.length≤s.b.length+3*ts.length→(∀k,S' k→S k∨w.heap.size≤k)→Chg S w w'→K (((addL C s ts).err:Nat):Int) w'):qlh (some ⟨g,0,none⟩) t w K:=by
 refine qwt _ _ ?_
 unfold qj7
 simp only [onPtr_some]
 obtain ⟨wt0,bs0,ws0,hb0,_⟩:=h.ex
 refine qbj (x:=s.over) (hb0.cells 29 _ rfl) (cF hov ?_)
 have tell:∀S1 w1 i,i≤ts.length→RlA w1 B g C (addL C s (ts.take i)) S1→(addL C s (ts.take i)).over=false→(addL C s (ts.take i)).b.length≤s.b.length+3*i→(∀k,S1 k→S k∨w.heap.size≤k)→Chg S w w1→(i=ts.length∨(addL C s (ts.take i)).err≠0)→ldI .i64 ((⟨g,0,none⟩:Addr).add 28) w1 fun t50=>K t50 w1:=by
  intro S1 w1 i hi h1 ho hl hS1 hc1 hor
  have e:addL C s ts=addL C s (ts.take i):=by
   rcases hor with rfl | he
   ·rw [List.take_length]
   ·conv=>lhs;rw [←List.take_append_drop i ts,qka,za7 he]
  rw [e] at hK
  obtain ⟨wt1,bs1,ws1,hb1,_⟩:=h1.ex
  exact lI (x:=(((addL C s (ts.take i)).err:Nat):Int)) (hb1.cells 28 _ rfl) (hK S1 w1 h1 ho (by omega) hS1 hc1)
 rw [ht.n]
 refine lpR (fun (st:Int×Unit) w1=>∃(i:Nat) (S1:Nat→Prop),st.1=i∧i≤ts.length∧RlA w1 B g C (addL C s (ts.take i)) S1∧(addL C s (ts.take i)).over=false∧(addL C s (ts.take i)).b.length≤s.b.length+3*i∧(∀k,S1 k→S k∨w.heap.size≤k)∧Chg S w w1) (fun st=>ts.length-st.1.toNat)
  ⟨0,S,rfl,by omega,h,hov,Nat.le_refl _,fun k hk=>.inl hk,Chg.refl _ _⟩ ?_
 rintro ⟨i,u⟩ w1 ⟨i,S1,rfl,hi,h1,ho1,hl1,hS1,hc1⟩ I hI
 dsimp only
 have hw1:=hc1.size
 refine jpO fun J2 hJ2=>?_
 refine cO (fun hlt=>?_) fun hge=>?_
 ·have hlt:=of_decide_eq_true hlt
  have hil:i<ts.length:=by omega
  obtain ⟨c,hc,_⟩:=qat (xs:=ts) (k:=i) hil
  have htn:ts≠[]:=fun h=>by rw [h] at hil;simp at hil
  have ht1:=ht.chg hc1 fun a ha=>htS a.block (slk.2 ⟨a,ha,rfl⟩) htn
  obtain ⟨s1,hs1⟩:∃s1,s1=addL C s (ts.take i):=⟨_,rfl⟩
  have hsucc:addL C s (ts.take (i+1))=addC C s1 c:=by
   rw [List.take_add_one,hc,qka,←hs1];rfl
  rw [←hs1] at h1 ho1 hl1
  obtain ⟨wt1,bs1,ws1,hb1,_⟩:=h1.ex
  refine lI (x:=(s1.err:Int)) (hb1.cells 28 _ rfl) (cO (fun e=>hJ2 _ _ ?_) fun e=>?_)
  ·have e:s1.err=0:=by have:=eq_of_beq e;omega
   have hBd:=bdw w1
   have h1d:=h1.ext hBd
   rw [w64i (by omega)]
   refine ht1.slK (l:=i) (m:=i+1) rfl (.inr rfl) (.inr (by simp)) (by omega) (by omega) fun hp=>?_
   have hpe:(ts.take (i+1)).drop i=[c]:=by
    rw [List.take_add_one,hc,List.drop_append_of_le_length (by rw [List.length_take];omega),List.drop_of_length_le (by rw [List.length_take];omega)]
    rfl
   rw [hpe] at hp
   have hpb:∀k,(⟨cut t.a i t.c qaa.k,i+1-i,t.c-i⟩:Slc).blk=some k→t.blk=some k:=fun k hk=>by
    obtain ⟨a,ha,rfl⟩:=slk.1 hk
    obtain ⟨a',ha',e⟩:=qep (show cut t.a i t.c qaa.k=some a from ha)
    rw [e]
    exact slk.2 ⟨a',ha',rfl⟩
   have hz:w1.drew.heap.size=w1.heap.size:=rfl
   rw [qag,Nat.zero_add]
   refine zeq h1d (by omega) (hp.ext hBd) (fun k hk hS=>?_) fun t3 S3 w3 h3 ht3 htb3 hS3 hc3=>?_
   ·have hk':=hpb k hk
    rcases hS1 k hS with h | h
    ·exact htS k hk' htn h
    ·have:=htl k hk' htn;omega
   have hw3:=hc3.size
   have hpl:=quj s1.d h1.ok c
   have hac:addC C s1 c=gotL C s1 (qbw s1.d c):=by unfold addC;rw [if_neg (by omega)]
   have hC13:Chg S1 w1 w3:=(Chg.of_ext (S:=S1) hBd).trans hc3 fun k _ hk=>hk
   have next:∀S5 w5,RlA w5 B g C (gotL C s1 (qbw s1.d c)) S5→(∀k,S5 k→S1 k∨w1.heap.size≤k)→Chg S1 w1 w5→I ((i:Int)+(1:Int),()) w5:=by
    intro S5 w5 h5 hS5 hc5
    rw [←hac] at h5
    refine hI _ _ ⟨i+1,S5,rfl,by omega,by rw [hsucc];exact h5,by rw [hsucc,q81];exact ho1,?_,fun k hk=>?_,hc1.trans hc5 fun k hk hS=>?_⟩ (by simp;omega)
    ·rw [hsucc]
     have:=zcz C s1 h1.ok c
     omega
    ·rcases hS5 k hk with h | h
     ·exact hS1 k h
     ·right;omega
    ·rcases hS1 k hS with h | h
     ·exact h
     ·omega
   refine jpO fun J3 hJ3=>?_
   have hS3':∀k,S3 k→S1 k∨w1.heap.size≤k:=fun k hk=>by
    rcases hS3 k hk with h | h
    ·exact .inl h
    ·right;omega
   unfold gotL at next
   refine cO (fun e2=>?_) fun e2=>?_
   ·have e2:(qbw s1.d c).1=0:=by have:=eq_of_beq e2;omega
    rw [if_neg (by omega)] at next
    refine q49 h3 (by omega) ht3 (fun k hk=>(htb3 k hk).2) (by show s1.b.length+_≤_;omega) fun S4 w4 h4 hS4 hc4=>hJ3 _ _ ?_
    have hw4:=hc4.size
    have hS4':∀k,S4 k→S1 k∨w1.heap.size≤k:=fun k hk=>by
     rcases hS4 k hk with h | h
     ·exact hS3' k h
     ·right;omega
    have hC14:Chg S1 w1 w4:=hC13.trans hc4 fun k hk hS=>by
     rcases hS3' k hS with h | h
     ·exact h
     ·omega
    unfold failL at next
    dsimp only at next h4 ⊢
    refine cO (fun e3=>?_) fun e3=>?_
    ·have e3:takeE C (s1.b++(qbw s1.d c).2.1).length≠0:=fun h=>by rw [h] at e3;cases e3
     rw [if_pos ⟨e,e3⟩] at next
     refine qo7 h4 fun w5 h5 hc5=>?_
     refine next S4 w5 h5 hS4' (hC14.trans hc5 fun k hk hS=>?_)
     rcases hS4' k hS with h | h
     ·exact h
     ·omega
    ·have e3:takeE C (s1.b++(qbw s1.d c).2.1).length=0:=by
      rcases Nat.eq_zero_or_pos (takeE C (s1.b++(qbw s1.d c).2.1).length) with h | h
      ·exact h
      ·rw [qbk (by omega)] at e3;cases e3
     rw [if_neg fun h=>h.2 e3] at next
     exact next S4 w4 h4 hS4' hC14
   ·have e2:(qbw s1.d c).1≠0:=fun h=>by rw [h] at e2;cases e2
    rw [if_pos e2] at next
    unfold failL at next
    dsimp only at next
    rw [if_pos ⟨e,e2⟩] at next
    refine hJ3 _ _ (cT (qbk (by omega)) (qo7 h3 fun w5 h5 hc5=>?_))
    refine next S3 w5 h5 hS3' (hC13.trans hc5 fun k hk hS=>?_)
    rcases hS3' k hS with h | h
    ·exact h
    ·omega
  ·have e:s1.err≠0:=fun h=>by rw [h] at e;cases e
   rw [hs1] at h1 ho1 hl1 e
   exact tell S1 w1 i hi h1 ho1 hl1 hS1 hc1 (.inr e)
 ·have hge:=of_decide_eq_false hge
  obtain rfl:i=ts.length:=by omega
  exact tell S1 w1 ts.length (Nat.le_refl _) h1 ho1 hl1 hS1 hc1 (.inl rfl)
end
end Go.Proofs.YtmagnpcgpinmcaaGreat
set_option linter.unusedVariables false
namespace Go.Proofs.YtmagnpcgpinmcaaGreat
open Go.Vc Go.RowKit
set_option maxRecDepth 400000
section
variable {w:World}
theorem qn5 {color:Int} {K:Int→World→Prop} (hK:K ((qac color:Nat):Int) w):qeu color w K:=by
 refine q5f _ ?_
 unfold qn7
 refine jpO fun J hJ=>?_
 unfold qac at hK
 have h2:∀b:Bool,(b=true↔color=0∨color=3)→J (b,()) w:=fun b hb=>hJ _ _ (by
  refine cO (fun h=>?_) fun h=>?_
  ·rw [if_pos (hb.1 h)] at hK
   exact hK
  ·rw [if_neg (fun e=>by rw [hb.2 e] at h;cases h)] at hK
   refine cO (fun h=>?_) fun h=>?_
   ·rw [if_pos (by simpa using h)] at hK
    exact hK
   ·rw [if_neg (by simpa using h)] at hK
    refine cO (fun h=>?_) fun h=>?_
    ·rw [if_pos (by simpa using h)] at hK
     exact hK
    ·rw [if_neg (by simpa using h)] at hK
     refine cO (fun h=>?_) fun h=>?_
     ·rw [if_pos (by simpa using h)] at hK
      exact hK
     ·rw [if_neg (by simpa using h)] at hK
      exact hK)
 refine cO (fun h=>h2 _ ?_) fun h=>h2 _ ?_
 ·have h:color=0:=by simpa using h
  simp [h]
 ·have h:color≠0:=by simpa using h
  simp [h]
theorem zd8 {h:T_png_Head} {K:Int→World→Prop} (hK:∀w',Below w.heap.size w w'→K ((qdo h:Nat):Int) w'):qi6 h w K:=by
 refine q86 _ ?_
 unfold qsy
 refine nwb fun w1 h1 hB1 hs1=>?_
 refine jpO fun J1 hJ1=>?_
 unfold qdo at hK
 refine lI (x:=h.W) (h1.cells 0 _ rfl) ?_
 refine cO (fun c1=>?_) fun c1=>?_
 ·have c1:=of_decide_eq_true c1
  rw [if_pos (by omega)] at hK
  exact hK w1 hB1
 have c1:=of_decide_eq_false c1
 refine lI (x:=h.W) (h1.cells 0 _ rfl) ?_
 refine cO (fun c2=>?_) fun c2=>?_
 ·have c2:=of_decide_eq_true c2
  rw [if_pos (by omega)] at hK
  exact hK w1 hB1
 have c2:=of_decide_eq_false c2
 refine lI (x:=h.H) (h1.cells 1 _ rfl) ?_
 refine cO (fun c3=>?_) fun c3=>?_
 ·have c3:=of_decide_eq_true c3
  rw [if_pos (by omega)] at hK
  exact hK w1 hB1
 have c3:=of_decide_eq_false c3
 refine lI (x:=h.H) (h1.cells 1 _ rfl) ?_
 refine cO (fun c4=>?_) fun c4=>?_
 ·have c4:=of_decide_eq_true c4
  rw [if_pos (by omega)] at hK
  exact hK w1 hB1
 have c4:=of_decide_eq_false c4
 rw [if_neg (by omega)] at hK
 refine hJ1 _ _ ?_
 refine lI (x:=h.Depth) (h1.cells 2 _ rfl) (jpO fun J2 hJ2=>?_)
 have key:∀ok:Bool,ok=qet h→J2 (ok,()) w1:=by
  intro ok hok
  refine hJ2 _ _ ?_
  refine lI (x:=h.Color) (h1.cells 3 _ rfl) (qn5 ?_)
  refine cO (fun e=>?_) fun e=>?_
  ·have e:qac h.Color=0:=by
    have:((qac h.Color:Nat):Int)=0:=by simpa using e
    omega
   rw [if_pos (.inl e)] at hK
   exact hK w1 hB1
  have e:qac h.Color≠0:=by
   have:((qac h.Color:Nat):Int)≠0:=by simpa using e
   omega
  rw [hok]
  refine cO (fun e2=>?_) fun e2=>?_
  ·have e2:qet h=false:=by simpa using e2
   rw [if_pos (.inr (.inl e2))] at hK
   exact hK w1 hB1
  have e2:qet h=true:=by simpa using e2
  refine lI (x:=h.Lace) (h1.cells 4 _ rfl) ?_
  refine cO (fun e3=>?_) fun e3=>?_
  ·have e3:=of_decide_eq_true e3
   rw [if_pos (.inr (.inr (.inl e3)))] at hK
   exact hK w1 hB1
  have e3:=of_decide_eq_false e3
  refine lI (x:=h.Lace) (h1.cells 4 _ rfl) ?_
  refine cO (fun e4=>?_) fun e4=>?_
  ·have e4:=of_decide_eq_true e4
   rw [if_pos (.inr (.inr (.inr e4)))] at hK
   exact hK w1 hB1
  have e4:=of_decide_eq_false e4
  rw [if_neg (by rw [e2];simp;omega)] at hK
  exact hK w1 hB1
 have kt:(h.Depth=8∨h.Depth=16∧h.Color≠3∨(h.Color=0∨h.Color=3)∧(h.Depth=1∨h.Depth=2∨h.Depth=4))→J2 (true,()) w1:=fun hh=>key true (by unfold qet;exact (decide_eq_true hh).symm)
 have kf:¬(h.Depth=8∨h.Depth=16∧h.Color≠3∨(h.Color=0∨h.Color=3)∧(h.Depth=1∨h.Depth=2∨h.Depth=4))→J2 (false,()) w1:=fun hh=>key false (by unfold qet;exact (decide_eq_false hh).symm)
 refine cO (fun e=>kt (.inl (eq_of_beq e))) fun e8=>?_
 have e8:h.Depth≠8:=by simpa using e8
 have low:¬(h.Depth=16∧h.Color≠3)→∀(hc:h.Color=0∨h.Color=3),cond (h.Depth==(1:Int)) (J2 (true,()) w1) (cond (h.Depth==(2:Int)) (J2 (true,()) w1) (J2 ((h.Depth==(4:Int)),()) w1)):=by
  intro hx16 hc
  refine cO (fun e=>kt (.inr (.inr ⟨hc,.inl (eq_of_beq e)⟩))) fun e1=>?_
  have e1:h.Depth≠1:=by simpa using e1
  refine cO (fun e=>kt (.inr (.inr ⟨hc,.inr (.inl (eq_of_beq e))⟩))) fun e2=>?_
  have e2:h.Depth≠2:=by simpa using e2
  by_cases e4:h.Depth=4
  ·rw [zbo e4];exact kt (.inr (.inr ⟨hc,.inr (.inr e4)⟩))
  ·rw [qkg e4]
   refine kf fun hh=>?_
   rcases hh with hh | ⟨hh,hh2⟩ | ⟨_,hh | hh | hh⟩
   ·exact e8 hh
   ·rcases hc with hc | hc
    ·exact hx16 ⟨hh,hh2⟩
    ·exact hh2 hc
   ·exact e1 hh
   ·exact e2 hh
   ·exact e4 hh
 have rest:¬(h.Depth=16∧h.Color≠3)→ldI .i64 ((⟨w.heap.size,0,none⟩:Addr).add 3) w1 fun t38 =>
      cond (t38==(0:Int))
       (cond (h.Depth==(1:Int)) (J2 (true,()) w1) (cond (h.Depth==(2:Int)) (J2 (true,()) w1) (J2 ((h.Depth==(4:Int)),()) w1)))
       (
        ldI .i64 ((⟨w.heap.size,0,none⟩:Addr).add 3) w1 fun t42 =>
        cond (t42==(3:Int))
         (cond (h.Depth==(1:Int)) (J2 (true,()) w1) (cond (h.Depth==(2:Int)) (J2 (true,()) w1) (J2 ((h.Depth==(4:Int)),()) w1)))
         (J2 (false,()) w1)):=by
  intro hn
  refine lI (x:=h.Color) (h1.cells 3 _ rfl) (cO (fun e=>low hn (.inl (eq_of_beq e))) fun e0=>?_)
  have e0:h.Color≠0:=by simpa using e0
  refine lI (x:=h.Color) (h1.cells 3 _ rfl) (cO (fun e=>low hn (.inr (eq_of_beq e))) fun e3=>?_)
  have e3:h.Color≠3:=by simpa using e3
  exact kf fun hh=>by
   rcases hh with hh | hh | ⟨hh | hh,_⟩
   ·exact e8 hh
   ·exact hn hh
   ·exact e0 hh
   ·exact e3 hh
 refine cO (fun e=>?_) fun e=>?_
 ·have e16:h.Depth=16:=eq_of_beq e
  refine lI (x:=h.Color) (h1.cells 3 _ rfl) (cO (fun e=>kt (.inr (.inl ⟨e16,by simpa using e⟩))) fun e=>rest ?_)
  have:h.Color=3:=by simpa using e
  omega
 ·have e16:h.Depth≠16:=by simpa using e
  exact rest fun h=>e16 h.1
theorem zdz {K:Slc→World→Prop} (hK:∀t w',Go.Vc.Own qaa w' w.heap.size ⟨some t,8,8⟩ signL→Below w.heap.size w w'→K ⟨some t,8,8⟩ w'):qye w K:=by
 refine zcn ?_
 unfold qvm
 exact nwb fun w1 h1 hB1 hs1=>hK _ w1 (zc2 (E:=qaa) (ys:=signL) (Nat.le_refl _) h1 (by decide) rfl) hB1
theorem q9v {s:Slc} {bs:List UInt8} {K:Bool→World→Prop} (hs:Rd qaa w s bs) (hl:bs.length=4) (hK:K (bs.all qbv) w):qpx s w K:=by
 refine q6d _ ?_
 unfold qnw
 refine lpR (fun (st:Int×Unit) w1=>w1=w∧∃i:Nat,st.1=i∧i≤4∧(bs.take i).all qbv=true) (fun st=>4-st.1.toNat) ⟨rfl,0,rfl,by omega,rfl⟩ ?_
 rintro ⟨i,u⟩ w1 ⟨rfl,m,hi,hm,hno⟩ I hI
 dsimp only at hi ⊢
 subst hi
 by_cases hlt:m<4
 ·refine cT (decide_eq_true (by omega)) ?_
  obtain ⟨x,hx,hxs⟩:=qat (xs:=bs) (k:=m) (by omega)
  refine hs.ix (i:=(m:Int)) (k:=1) rfl (by omega) (by omega) fun hcell=>?_
  rw [hxs] at hcell
  refine ldB8 (b:=x) hcell ?_
  have yes:qbv x=true→I ((IntKind.i64.wrap ((m:Int)+(1:Int))),()) w1:=fun hxl=>by
   rw [w64i (by omega)]
   refine hI _ _ ⟨rfl,m+1,rfl,by omega,?_⟩ (by simp;omega)
   rw [List.take_add_one,hx,List.all_append,hno]
   simp [hxl]
  have no:qbv x=false→K false w1:=fun hxl=>by
   have:bs.all qbv=false:=by
    rw [List.all_eq_false]
    exact ⟨x,List.mem_of_getElem? hx,by rw [hxl];simp⟩
   rw [this] at hK
   exact hK
  unfold qbv at yes no
  have low:¬(65≤x.toNat∧x.toNat≤90)→cond (decide ((x.toNat:Int)≥(97:Int))) (cond (!(decide ((x.toNat:Int)≤(122:Int)))) (K false w1) (I ((IntKind.i64.wrap ((m:Int)+(1:Int))),()) w1)) (K false w1):=by
   intro hn
   refine cO (fun e=>?_) fun e=>?_
   ·have e:=of_decide_eq_true e
    refine cO (fun e2=>no (decide_eq_false ?_)) fun e2=>yes (decide_eq_true ?_)
    ·have e2:¬((x.toNat:Int)≤122):=by simpa using e2
     omega
    ·have e2:((x.toNat:Int)≤122):=by simpa using e2
     omega
   ·have e:=of_decide_eq_false e
    exact no (decide_eq_false (by omega))
  refine cO (fun e=>?_) fun e=>?_
  ·have e:=of_decide_eq_true e
   refine cO (fun e2=>yes (decide_eq_true ?_)) fun e2=>low ?_
   ·have e2:=of_decide_eq_true e2
    omega
   ·have e2:=of_decide_eq_false e2
    omega
  ·have e:=of_decide_eq_false e
   exact low (by omega)
 ·refine cF (decide_eq_false (by omega)) ?_
  obtain rfl:m=4:=by omega
  rw [List.take_of_length_le (by omega)] at hno
  rw [hno] at hK
  exact hK
theorem zd7 {b:Slc} {bs:List UInt8} {K:T_png_Chunk→Int→Int→World→Prop} (hb:Rd qaa w b bs) (hl:bs.length≤1000000000)
  (hE:∀n x w',qbs bs=.err n→n≠0→Below w.heap.size w w'→K x 0 n w')
  (hO:∀c n x w',qbs bs=.ok c n→ChO w' w.heap.size x c→Below w.heap.size w w'→12≤n→n≤bs.length→K x n 0 w'):qvv b w K:=by
 refine q9z _ ?_
 unfold qr3
 rw [hb.n]
 refine nwb fun w1 h1 hB1 hs1=>?_
 have hend:∀(n:Nat) w2,qbs bs=.err n→n≠0→Below w.heap.size w w2→Below w1.heap.size w1 w2→stK ⟨w.heap.size,0,none⟩ [(.string (⟨#[]⟩:ByteArray)),(.slice none 0 0)] w2 fun w3=>ldS T_png_Chunk.rep ⟨w.heap.size,0,none⟩ w3 fun r=>K r 0 n w3:=by
  intro n w2 hc hn hB hB'
  exact qa5 (r:=T_png_Chunk.rep) (x:=⟨⟨#[]⟩,⟨none,0,0⟩⟩) (h1.ext hB') rfl rfl fun w3 hc3 hs3=>hE n _ w3 hc hn (b1o hB hc3 (Nat.le_refl _))
 refine cO (fun h4=>?_) fun h4=>?_
 ·have h4:=of_decide_eq_true h4
  exact hend 2 w1 (by unfold qbs;rw [if_pos (by omega)]) (by decide) hB1 (Below.refl _ _)
 have h4:=of_decide_eq_false h4
 have h4':¬bs.length<4:=by omega
 have hb1:=hb.ext hB1
 refine rBigG hb1 (by omega) ?_
 have hB3:Below w.heap.size w w1.drew:=bT hB1 (bdw _)
 have hB3':Below w1.heap.size w1 w1.drew:=bdw _
 obtain ⟨w3,hw3⟩:∃w3,w3=w1.drew:=⟨_,rfl⟩
 rw [←hw3] at hB3 hB3' ⊢
 have hnl:=q0t (bs:=bs.take 4) (by rw [List.length_take];omega)
 obtain ⟨n,hn⟩:∃n,n=bigN (bs.take 4):=⟨_,rfl⟩
 rw [←hn] at hnl ⊢
 rw [w64i (x:=(n:Int)) (by omega)]
 refine cO (fun h5=>?_) fun h5=>?_
 ·have h5:=of_decide_eq_true h5
  exact hend 3 w3 (by unfold qbs;rw [if_neg h4',←hn,if_pos (by omega)]) (by decide) hB3 hB3'
 have h5:=of_decide_eq_false h5
 have h5':¬n>2147483647:=by omega
 refine cO (fun h6=>?_) fun h6=>?_
 ·have h6:=of_decide_eq_true h6
  exact hend 2 w3 (by unfold qbs;rw [if_neg h4',←hn,if_neg h5',if_pos (by omega)]) (by decide) hB3 hB3'
 have h6:=of_decide_eq_false h6
 have h6':¬bs.length<8:=by omega
 have hb3:=hb.ext hB3
 refine hb3.slK (l:=4) (m:=8) rfl (.inr rfl) (.inr rfl) (by omega) (by omega) fun hp=>?_
 refine q9v hp (by rw [List.length_drop,List.length_take];omega) ?_
 refine cO (fun h7=>?_) fun h7=>?_
 ·have h7:((bs.take 8).drop 4).all qbv=false:=by simpa using h7
  exact hend 3 w3 (by unfold qbs;rw [if_neg h4',←hn,if_neg h5',if_neg h6',if_pos h7]) (by decide) hB3 hB3'
 have h7:((bs.take 8).drop 4).all qbv=true:=by simpa using h7
 have h7':¬((bs.take 8).drop 4).all qbv=false:=by rw [h7];simp
 rw [w64i (x:=((bs.length:Nat):Int)-12) (by omega)]
 refine cO (fun h8=>?_) fun h8=>?_
 ·have h8:=of_decide_eq_true h8
  exact hend 2 w3 (by unfold qbs;rw [if_neg h4',←hn,if_neg h5',if_neg h6',if_neg h7',if_pos (by omega)]) (by decide) hB3 hB3'
 have h8:=of_decide_eq_false h8
 have h8':¬n+12>bs.length:=by omega
 have e8:IntKind.i64.wrap ((8:Int)+(n:Int))=((8+n:Nat):Int):=by rw [w64i (by omega)];simp
 have e12:IntKind.i64.wrap ((12:Int)+(n:Int))=((12+n:Nat):Int):=by rw [w64i (by omega)];omega
 rw [e8,e12]
 refine hb3.slK (l:=4) (m:=8+n) rfl (.inr rfl) (.inr rfl) (by omega) (by omega) fun hp1=>?_
 refine hb3.slK (l:=8+n) (m:=bs.length) rfl (.inr rfl) (.inl ⟨rfl,rfl⟩) (by omega) (by omega) fun hp2=>?_
 rw [List.take_length] at hp2
 have hBd:=bT hB3 (bdw w3)
 have hBd':=bT hB3' (bdw w3)
 have hp1d:=hp1.ext (bdw w3)
 have hp2d:=hp2.ext (bdw w3)
 refine ziq hp1d (by rw [List.length_drop,List.length_take];omega) (rBigG hp2d (by rw [List.length_drop];omega) ?_)
 have hB:=bT hBd (bdw _)
 have hB':=bT hBd' (bdw _)
 obtain ⟨w12,hw12⟩:∃w12,w12=w3.drew.drew:=⟨_,rfl⟩
 rw [←hw12] at hB hB' ⊢
 refine cO (fun h9=>?_) fun h9=>?_
 ·have h9:crcN ((bs.take (8+n)).drop 4)≠bigN ((bs.drop (8+n)).take 4):=fun e=>by rw [e] at h9;simp at h9
  exact hend 4 w12 (by unfold qbs;rw [if_neg h4',←hn,if_neg h5',if_neg h6',if_neg h7',if_neg h8',if_pos h9]) (by decide) hB hB'
 ·have h9:¬crcN ((bs.take (8+n)).drop 4)≠bigN ((bs.drop (8+n)).take 4):=fun e=>by
   refine e ?_
   have:((crcN ((bs.take (8+n)).drop 4):Nat):Int)=((bigN ((bs.drop (8+n)).take 4):Nat):Int):=by simpa using h9
   exact Int.ofNat.inj this
  have hok:qbs bs=.ok ⟨(bs.take 8).drop 4,(bs.take (8+n)).drop 8⟩ (12+n):=by unfold qbs;rw [if_neg h4',←hn,if_neg h5',if_neg h6',if_neg h7',if_neg h8',if_neg h9]
  have hBd:=bT hB (bdw w12)
  have hBd':=bT hB' (bdw w12)
  have hb12:=hb.ext hB
  refine hb12.slK (l:=4) (m:=8) rfl (.inr rfl) (.inr rfl) (by omega) (by omega) fun hq1=>?_
  refine hb12.slK (l:=8) (m:=8+n) rfl (.inr rfl) (.inr rfl) (by omega) (by omega) fun hq2=>?_
  have hq1d:=hq1.ext (bdw w12)
  have hq2d:=hq2.ext (bdw w12)
  have hsz:=hBd.size
  have fin:∀(t:Slc) w15,Go.Vc.Own qaa w15 w12.drew.heap.size t ((bs.take (8+n)).drop 8)→Below w12.drew.heap.size w12.drew w15 →
    stK ⟨w.heap.size,0,none⟩ [(.string (strB ((bs.take 8).drop 4))),(.slice t.a t.n t.c)] w15 fun w16=>ldS T_png_Chunk.rep ⟨w.heap.size,0,none⟩ w16 fun r_6=>K r_6 ((12+n:Nat):Int) 0 w16:=by
   intro t w15 ht hB15
   refine qa5 (r:=T_png_Chunk.rep) (x:=⟨strB ((bs.take 8).drop 4),t⟩) (h1.ext (bT hBd' hB15)) rfl rfl fun w16 hc16 hs16=>?_
   refine hO _ (12+n) _ w16 hok ⟨rfl,?_⟩ (b1o (bT hBd hB15) hc16 (Nat.le_refl _)) (by omega) (by omega)
   refine (ht.chg hc16 fun g hg e=>?_).base (by omega)
   have:=(ht.lt g hg).1
   have:=hBd'.size
   omega
  have hlen2:((bs.take (8+n)).drop 8).length≤1000000000:=by rw [List.length_drop,List.length_take];omega
  refine ⟨⟨_,_,qb8 hq1d,?_⟩,?_⟩
  ·refine nwb fun w13 h13 hB13 hs13=>?_
   refine apB (qln (E:=qaa) (base:=w12.drew.heap.size) h13 (Nat.le_refl _)) (hq2d.ext hB13) (by omega) (by simp only [List.length_nil];omega) fun r w14 hr hc14 _=>?_
   exact fin r w14 hr (hB13.trans (hc14.below hB13.size fun i hi e=>absurd (show i=w12.drew.heap.size by cases e;rfl) (by omega)))
  ·refine nwb fun w13 h13 hB13 hs13=>⟨⟨_,_,qb8 (hq1d.ext hB13),?_⟩,?_⟩
   ·refine apB (qln (E:=qaa) (base:=w12.drew.heap.size) h13 (Nat.le_refl _)) (hq2d.ext hB13) (by omega) (by simp only [List.length_nil];omega) fun r w14 hr hc14 _=>?_
    exact fin r w14 hr (hB13.trans (hc14.below hB13.size fun i hi e=>absurd (show i=w12.drew.heap.size by cases e;rfl) (by omega)))
   ·refine apB (qln (E:=qaa) (base:=w12.drew.heap.size) h13 (Nat.le_refl _)) (hq2d.ext hB13) (by omega) (by simp only [List.length_nil];omega) fun r w14 hr hc14 _=>?_
    have hB14:=hB13.trans (hc14.below hB13.size fun i hi e=>absurd (show i=w12.drew.heap.size by cases e;rfl) (by omega))
    exact ⟨_,_,qb8 (hq1d.ext hB14),fin r w14 hr hB14⟩
structure ChsR (w:World) (b:Nat) (s:Slc) (L:List ChL):Prop where
 ex:∃xs,Go.Vc.Own quk w b s xs∧xs.length=L.length∧∀(i:Nat) x c,xs[i]?=some x→L[i]?=some c→ChO w b x c
theorem ChsR.ext {w w':World} {b:Nat} {s:Slc} {L:List ChL} (h:ChsR w b s L) (hB:Below w.heap.size w w'):ChsR w' b s L:=by
 obtain ⟨xs,h1,h2,h3⟩:=h
 exact ⟨xs,h1.ext hB,h2,fun i x c hx hc=>(h3 i x c hx hc).ext hB⟩
theorem ChsR.push {b:Nat} {s:Slc} {L:List ChL} (h:ChsR w b s L) (hL:L.length≤10000000) (hb:b≤w.heap.size) {x:T_png_Chunk} {c:ChL} (hx:ChO w b x c) {K:Slc→World→Prop} (hK:∀r w',ChsR w' b r (L++[c])→Below b w w'→w.heap.size≤w'.heap.size→Chg (fun k=>s.blk=some k) w w'→K r w') :
  nw qd1 (T_png_Chunk.rep.cells x) w fun a w1=>apK PG #[qdy,qdy] qdy s ⟨some a,1,1⟩ w1 K:=by
 obtain ⟨xs,h2,h3,h4⟩:=h
 refine zb8 (E:=quk) (y:=x) qtm h2 rfl hb (by rw [q7j];omega) (by unfold maxLen;omega) fun r w5 hr5 hch hrb=>?_
 have key:∀{y d},ChO w b y d→ChO w5 b y d:=fun {y d} h=>h.chg hch fun k hk e=>qo8 h.data h2 (by decide) k hk e
 refine hK r w5 ⟨xs++[x],hr5,by simp [h3],fun i y d hy hd=>?_⟩ (hch.below hb fun i hi e=>by have:=(h2.lt i e).1;omega) hch.size hch
 rcases Nat.lt_or_ge i xs.length with hi | hi
 ·rw [List.getElem?_append_left hi] at hy
  rw [List.getElem?_append_left (by omega)] at hd
  exact key (h4 i y d hy hd)
 ·rw [List.getElem?_append_right hi] at hy
  rw [List.getElem?_append_right (by omega)] at hd
  rw [h3] at hy
  generalize i-L.length=j at hy hd
  match j,hy,hd with
  | 0,hy,hd =>
   simp at hy hd
   subst hy hd
   exact key hx
  | j+1,hy,hd=>simp at hy
theorem q8q {bs:List UInt8} {i:Nat} (hi:i≤8) (h:∀j,j<i→bs[j]?=signL[j]?):bs.take i=signL.take i:=by
 refine List.ext_getElem? fun j=>?_
 by_cases hj:j<i
 ·rw [List.getElem?_take_of_lt hj,List.getElem?_take_of_lt hj,h j hj]
 ·rw [List.getElem?_take,List.getElem?_take,if_neg hj,if_neg hj]
theorem zch {b:Slc} {bs:List UInt8} {one:Bool} {K:Slc→Int→World→Prop} (hb:Rd qaa w b bs) (hl:bs.length≤1000000)
  (hK:∀s w',ChsR w' w.heap.size s (qa7 one bs).2→Below w.heap.size w w'→K s (qa7 one bs).1 w'):qsu b one w K:=by
 refine q72 _ _ ?_
 unfold qp6
 refine zdz fun t w1 hs hB1=>?_
 have nil:∀w',ChsR w' w.heap.size ⟨none,0,0⟩ []:=fun w'=>⟨[],Own.nil _ _ _,rfl,fun i x c hx=>by simp at hx⟩
 refine lpR (fun (st:Int×Unit) w2=>∃i:Nat,st.1=i∧i≤8∧i≤bs.length∧(∀j,j<i→bs[j]?=signL[j]?)∧Below w1.heap.size w1 w2) (fun st=>8-st.1.toNat) ⟨0,rfl,by omega,by omega,fun j hj=>by omega,Below.refl _ _⟩ ?_
 rintro ⟨i,u⟩ w2 ⟨i,rfl,hi,hib,hsg,hB12⟩ I hI
 dsimp only
 have hB2:=bT hB1 hB12
 refine cO (fun hlt=>?_) fun hge=>?_
 ·have hlt:=of_decide_eq_true hlt
  rw [hb.n]
  refine cO (fun h=>?_) fun h=>?_
  ·have h:=of_decide_eq_true h
   have hil:i=bs.length:=by omega
   have ht:=q8q hi hsg
   have hs2:signP bs=2:=by
    unfold signP
    rw [if_neg,if_pos (by omega)]
    rw [hil,List.take_length] at ht
    rw [List.take_of_length_le (by omega),←ht]
    simp
   have hc:qa7 one bs=(2,[]):=by unfold qa7;rw [hs2,if_pos (by decide)]
   rw [hc] at hK
   exact hK _ w2 (nil w2) hB2
  have h:=of_decide_eq_false h
  have hil:i<bs.length:=by omega
  obtain ⟨x,hx,hxs⟩:=qat (xs:=bs) (k:=i) hil
  obtain ⟨y,hy,hys⟩:=qat (xs:=signL) (k:=i) (show i<8 by omega)
  have hBd:=bdw w2
  have hbd:=hb.ext (bT hB2 hBd)
  have hsd:=(hs.ext hB12).ext hBd
  refine (hb.ext hB2).ix (i:=(i:Int)) rfl (by omega) (by omega) fun _=>lI (x:=(x.toNat:Int)) (by rw [Int.toNat_natCast];exact qaw hbd hx) ?_
  refine (hs.ext hB12).rd.ix (i:=(i:Int)) rfl (by omega) (by show (i:Int)<8;omega) fun _=>lI (x:=(y.toNat:Int)) (by rw [Int.toNat_natCast];exact qaw hsd.rd hy) ?_
  refine cO (fun e=>?_) fun e=>?_
  ·have hne:x≠y:=fun h=>by rw [h] at e;simp at e
   have hs3:signP bs=3:=by
    unfold signP
    rw [if_pos]
    intro h8
    have h1:(bs.take 8)[i]?=(signL.take bs.length)[i]?:=by rw [h8]
    rw [List.getElem?_take_of_lt (by omega),List.getElem?_take_of_lt hil,hx,hy] at h1
    exact hne (Option.some.inj h1)
   have hc:qa7 one bs=(3,[]):=by unfold qa7;rw [hs3,if_pos (by decide)]
   rw [hc] at hK
   exact hK _ _ (nil _) (bT hB2 hBd)
  ·have he:x=y:=by
    have:((x.toNat:Nat):Int)=((y.toNat:Nat):Int):=by simpa using e
    exact UInt8.toNat_inj.1 (by omega)
   rw [w64i (by omega)]
   refine hI _ _ ⟨i+1,rfl,by omega,by omega,fun j hj=>?_,bT hB12 hBd⟩ (by simp;omega)
   by_cases hji:j=i
   ·rw [hji,hx,hy,he]
   ·exact hsg j (by omega)
 have hge:=of_decide_eq_false hge
 obtain rfl:i=8:=by omega
 have ht:=q8q hi hsg
 have hs0:signP bs=0:=by
  unfold signP
  rw [if_neg,if_neg (by omega)]
  rw [ht,List.take_of_length_le (show signL.length≤8 from Nat.le_refl 8),List.take_of_length_le (show signL.length≤bs.length from hib)]
  simp
 refine Rd.slE (hb.ext hB2) (l:=8) (m:=bs.length) rfl (.inr rfl) (.inl ⟨rfl,rfl⟩) (by omega) (Nat.le_refl _) fun r0 hr0 _=>?_
 rw [List.take_length] at hr0
 have hcs:qa7 one bs=if (qa3 one bs.length (bs.drop 8)).1≠0 then ((qa3 one bs.length (bs.drop 8)).1,[]) else (0,(qa3 one bs.length (bs.drop 8)).2):=by
  unfold qa7
  rw [hs0,if_neg (by decide)]
 rw [hcs] at hK
 have nil2:∀w',ChsR w' w2.heap.size ⟨none,0,0⟩ []:=fun w'=>⟨[],Own.nil _ _ _,rfl,fun i x c hx=>by simp at hx⟩
 have hs2:=hB2.size
 have up:∀{w':World} {s:Slc} {L:List ChL},ChsR w' w2.heap.size s L→ChsR w' w.heap.size s L:=fun {w' s L} h=>by
  obtain ⟨xs,h1,h2,h3⟩:=h
  exact ⟨xs,h1.base hs2,h2,fun i x c hx hc=>(h3 i x c hx hc).base hs2⟩
 refine lpR (fun (s:Slc×Slc×Unit) w3=>∃(L:List ChL) (rest:List UInt8) (fu:Nat),ChsR w3 w2.heap.size s.2.1 L∧Rd qaa w2 s.1 rest∧Below w2.heap.size w2 w3∧rest.length<fu∧L.length+rest.length≤bs.length∧qa3 one bs.length (bs.drop 8)=((qa3 one fu rest).1,L++(qa3 one fu rest).2)) (fun s=>s.1.n)
  ⟨[],bs.drop 8,bs.length,nil2 w2,hr0,Below.refl _ _,by rw [List.length_drop];omega,by rw [List.length_drop];simp,by simp⟩ ?_
 rintro ⟨s,o,u⟩ w3 ⟨L,rest,fu,hL,hrd,hB23,hfu,hlen,hch⟩ I2 hI2
 dsimp only at hL hrd ⊢
 obtain ⟨fu,rfl⟩:∃k,fu=k+1:=⟨fu-1,by omega⟩
 have hrd3:=hrd.ext hB23
 have hB3:=bT hB2 hB23
 refine zd7 hrd3 (by omega) (fun n x w4 hcp hn hB4=>?_) (fun c n x w4 hcp hx hB4 hn12 hnle=>?_)
 ·refine nwb fun w5 h5 hB5 hs5=>qav h5 rfl fun w6 h6 hc6 hs6=>?_
  refine cT (qbk (by omega)) ?_
  have:qa3 one bs.length (bs.drop 8)=(n,L):=by rw [hch,qa3,hcp];simp
  rw [this,if_pos hn] at hK
  exact hK _ w6 (nil w6) (b1o (bT (bT hB3 hB4) hB5) hc6 (bT hB3 hB4).size)
 ·refine nwb fun w5 h5 hB5 hs5=>qav h5 rfl fun w6 h6 hc6 hs6=>?_
  have hB46:Below w4.heap.size w4 w6:=b1o hB5 hc6 (Nat.le_refl _)
  have hB36:=bT hB4 hB46
  have hB26:=bT hB23 hB36
  refine cF rfl (qak (r:=T_png_Chunk.rep) (x:=x) h6.cells ?_)
  have hx6:ChO w6 w2.heap.size x c:=(hx.ext hB46).base hB23.size
  have holt:∀k,o.blk=some k→k<w3.heap.size:=by
   obtain ⟨xs,h1,_,_⟩:=hL
   exact fun k hk=>(h1.lt k hk).2
  refine (hL.ext hB36).push (by omega) hB26.size hx6 fun r w8 hr8 hB8 hs8 hkeep=>?_
  have hB28:Below w2.heap.size w2 w8:=hB26.trans hB8
  have hB08:=bT hB2 hB28
  refine jpO fun J3 hJ3=>jpO fun J4 hJ4=>?_
  have stop:(one || decide (c.kind=iendL))=true→J4 (true,()) w8:=fun hg=>by
   refine hJ4 _ _ (cT rfl ?_)
   have:qa3 one bs.length (bs.drop 8)=(0,L++[c]):=by rw [hch,qa3,hcp];simp only [hg];rfl
   rw [this,if_neg (by simp)] at hK
   exact hK r w8 (up hr8) hB08
  have on:(one || decide (c.kind=iendL))=false→J4 (false,()) w8:=fun hg=>by
   refine hJ4 _ _ (cF rfl (hJ3 _ _ ?_))
   have hrd8:=hrd.ext hB28
   refine hrd8.slK (l:=n) (m:=rest.length) rfl (.inr rfl) (.inl ⟨rfl,rfl⟩) hnle (Nat.le_refl _) fun _=>?_
   have hrn0:=hrd.part (l:=n) (m:=rest.length) hnle (Nat.le_refl _)
   rw [List.take_length] at hrn0
   refine hI2 _ _ ⟨L++[c],rest.drop n,fu,hr8,hrn0,hB28,by rw [List.length_drop];omega,by rw [List.length_append,List.length_drop,List.length_singleton];omega,?_⟩ ?_
   ·rw [hch,qa3,hcp]
    simp only [hg]
    simp
   ·have:=hrd.n
    show rest.length-n<s.n
    omega
  cases hone:one with
  | true =>
   rw [hone] at stop
   exact cT rfl (stop rfl)
  | false =>
   rw [hone,Bool.false_or] at stop on
   refine cF rfl (qf1 (x:=x.Kind) ((h6.chg hkeep fun e=>by have:=holt _ e;have:=hB4.size;omega).cells 0 _ rfl) ?_)
   rw [hx.kind,show (⟨#[73,69,78,68]⟩:ByteArray)=strB iendL from rfl,qqr]
   cases hk:decide (c.kind=iendL) with
   | true=>exact stop hk
   | false=>exact on hk
end
end Go.Proofs.YtmagnpcgpinmcaaGreat
