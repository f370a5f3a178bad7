import Derived.Test.YtmagnpcgpinmcaaGreatP2
import Derived.Lib.SlBytesConst
set_option linter.unusedVariables false
set_option linter.unusedVariables false
namespace Go.Proofs.YtmagnpcgpinmcaaGreat
open Go.Vc Go.RowKit
set_option maxRecDepth 400000
theorem w8 (y:UInt8):IntKind.i64.wrap ((y.toNat:Nat):Int)=((y.toNat:Nat):Int):=w64i (by have:=y.toNat_lt;omega)
theorem q8z (x y:UInt8):IntKind.u8.wrap ((x.toNat:Int)+(y.toNat:Int))=(((x+y).toNat:Nat):Int):=by
 rw [IntKind.wrap_u8,UInt8.toNat_add]
 omega
theorem zil (x y:UInt8):IntKind.u8.wrap ((x.toNat:Int)-(y.toNat:Int))=(((x-y).toNat:Nat):Int):=by
 have hx:=x.toNat_lt
 have hy:=y.toNat_lt
 rw [IntKind.wrap_u8,UInt8.toNat_sub]
 omega
def u8c (x:UInt8):List Value:=[.int .u8 (x.toNat:Int)]
theorem zmp (z:Int):(if (0-z)>z then (0-z) else z)=(z.natAbs:Int):=by split<;>omega
section
variable {w:World}
theorem qhk {a b c x:UInt8} {ga gb gc:Nat} {K:Int→World→Prop} (ha:Blk w ga qai (u8c a)) (hb:Blk w gb qai (u8c b)) (hc:Blk w gc qai (u8c c))
  (hK:K ((((a.toNat:Int)+(b.toNat:Int)-(c.toNat:Int)-(x.toNat:Int)).natAbs:Nat):Int) w):qcc (x.toNat:Int) ⟨ga,0,none⟩ ⟨gb,0,none⟩ ⟨gc,0,none⟩ w K:=by
 refine qwz _ _ _ _ ?_
 unfold qjf
 refine lI (x:=(a.toNat:Int)) (ha.cell 0 rfl) (lI (x:=(b.toNat:Int)) (hb.cell 0 rfl) (lI (x:=(c.toNat:Int)) (hc.cell 0 rfl) ?_))
 have a8:=a.toNat_lt
 have b8:=b.toNat_lt
 have c8:=c.toNat_lt
 have x8:=x.toNat_lt
 rw [w8,w8,w8,w8,w64i (x:=(a.toNat:Int)+(b.toNat:Int)) (by omega),w64i (x:=(a.toNat:Int)+(b.toNat:Int)-(c.toNat:Int)) (by omega),w64i (x:=(a.toNat:Int)+(b.toNat:Int)-(c.toNat:Int)-(x.toNat:Int)) (by omega),
  w64i (x:=0-((a.toNat:Int)+(b.toNat:Int)-(c.toNat:Int)-(x.toNat:Int))) (by omega),zmp]
 exact hK
theorem zho {a b c:UInt8} {K:Int→World→Prop} (hK:∀w',Below w.heap.size w w'→K (((qke a b c).toNat:Nat):Int) w'):qmk (a.toNat:Int) (b.toNat:Int) (c.toNat:Int) w K:=by
 refine q1x _ _ _ ?_
 unfold qma
 refine nwb fun w1 h1 hB1 hs1=>nwb fun w2 h2 hB2 hs2=>nwb fun w3 h3 hB3 hs3=>?_
 have hB13:=bT (bT hB1 hB2) hB3
 have ha:Blk w3 w.heap.size qai (u8c a):=(h1.ext hB2).ext hB3
 have hb:Blk w3 w1.heap.size qai (u8c b):=h2.ext hB3
 have hc:Blk w3 w2.heap.size qai (u8c c):=h3
 have hBd:=bT hB13 (bdw w3)
 have had:=ha.ext (bdw w3)
 have hbd:=hb.ext (bdw w3)
 have hcd:=hc.ext (bdw w3)
 refine jpO fun J1 hJ1=>?_
 refine lI (x:=(a.toNat:Int)) (had.cell 0 rfl) (lI (x:=(b.toNat:Int)) (hbd.cell 0 rfl) ?_)
 obtain ⟨p,hp⟩:∃p:Int,p=(a.toNat:Int)+(b.toNat:Int)-(c.toNat:Int):=⟨_,rfl⟩
 have kB:(¬((p-(a.toNat:Int)).natAbs≤(p-(b.toNat:Int)).natAbs∧(p-(a.toNat:Int)).natAbs≤(p-(c.toNat:Int)).natAbs))→J1 (false,()) w3.drew:=by
  intro hn
  refine hJ1 _ _ (cF rfl ?_)
  have hBd2:=bT hBd (bdw _)
  have had:=had.ext (bdw _)
  have hbd:=hbd.ext (bdw _)
  have hcd:=hcd.ext (bdw _)
  refine lI (x:=(b.toNat:Int)) (hbd.cell 0 rfl) (lI (x:=(c.toNat:Int)) (hcd.cell 0 rfl) ?_)
  refine qhk had hbd hcd ⟨hcd.cell 0 rfl,qhk had hbd hcd ?_⟩
  rw [←hp]
  refine cO (fun h=>?_) fun h=>?_
  ·have h:=of_decide_eq_true h
   refine lI (x:=(b.toNat:Int)) (hbd.cell 0 rfl) ?_
   have:qke a b c=b:=by unfold qke;rw [←hp];dsimp only;rw [if_neg hn,if_pos (by omega)]
   rw [this] at hK
   exact hK _ hBd2
  ·have h:=of_decide_eq_false h
   refine lI (x:=(c.toNat:Int)) (hcd.cell 0 rfl) ?_
   have:qke a b c=c:=by unfold qke;rw [←hp];dsimp only;rw [if_neg hn,if_neg (by omega)]
   rw [this] at hK
   exact hK _ hBd2
 refine qhk had hbd hcd ⟨hbd.cell 0 rfl,qhk had hbd hcd ?_⟩
 rw [←hp]
 refine cO (fun h=>?_) fun h=>?_
 ·have h:=of_decide_eq_true h
  refine lI (x:=(a.toNat:Int)) (had.cell 0 rfl) (lI (x:=(c.toNat:Int)) (hcd.cell 0 rfl) ?_)
  refine qhk had hbd hcd ⟨hcd.cell 0 rfl,qhk had hbd hcd ?_⟩
  rw [←hp]
  by_cases h2:(p-(a.toNat:Int)).natAbs≤(p-(c.toNat:Int)).natAbs
  ·rw [decide_eq_true (by omega)]
   refine hJ1 _ _ (cT rfl (lI (x:=(a.toNat:Int)) (had.cell 0 rfl) ?_))
   have:qke a b c=a:=by unfold qke;rw [←hp];dsimp only;rw [if_pos ⟨by omega,h2⟩]
   rw [this] at hK
   exact hK _ hBd
  ·rw [decide_eq_false (by omega)]
   exact kB fun e=>h2 e.2
 ·have h:=of_decide_eq_false h
  exact kB fun e=>h (by omega)
theorem zgy {kind step:Int} {row ahead:Slc} {K:Bool→World→Prop} (hK:K (decide (0≤kind∧kind≤4∧1≤step∧step≤8∧(ahead.n=0∨ahead.n=row.n))) w):qmo kind row ahead step w K:=by
 refine q2g _ _ _ _ ?_
 unfold qmf
 by_cases h1:kind≥0
 ·refine cT (decide_eq_true h1) ?_
  by_cases h2:kind≤4
  ·refine cT (decide_eq_true h2) ?_
   by_cases h3:step≥1
   ·refine cT (decide_eq_true h3) ?_
    by_cases h4:step≤8
    ·refine cT (decide_eq_true h4) ?_
     by_cases h5:ahead.n=0
     ·refine cT (zbo (by omega)) ?_
      rw [decide_eq_true ⟨h1,h2,h3,h4,.inl h5⟩] at hK
      exact hK
     ·refine cF (qkg (by omega)) ?_
      by_cases h6:ahead.n=row.n
      ·rw [decide_eq_true ⟨h1,h2,h3,h4,.inr h6⟩] at hK
       rw [zbo (by omega)]
       exact hK
      ·rw [decide_eq_false (by omega)] at hK
       rw [qkg (by omega)]
       exact hK
    ·refine cF (decide_eq_false h4) ?_
     rw [decide_eq_false (by omega)] at hK
     exact hK
   ·refine cF (decide_eq_false h3) ?_
    rw [decide_eq_false (by omega)] at hK
    exact hK
  ·refine cF (decide_eq_false h2) ?_
   rw [decide_eq_false (by omega)] at hK
   exact hK
 ·refine cF (decide_eq_false h1) ?_
  rw [decide_eq_false (by omega)] at hK
  exact hK
theorem zg0 {kind i step:Nat} {row ahead:Slc} {rs ah:List UInt8} {K:Int→World→Prop} (hr:Rd qaa w row rs) (ha:Rd qaa w ahead ah) (hk:kind≤4) (h1:1≤step) (hil:i<rs.length) (hal:ah=[]∨ah.length=rs.length) (hl:rs.length≤1000000000)
  (hK:∀w',Below w.heap.size w w'→K ((gAt kind rs ah step i).toNat:Nat) w'):qm8 (kind:Int) (i:Int) row ahead (step:Int) w K:=by
 refine q1r _ _ _ _ _ ?_
 unfold qlw
 unfold gAt at hK
 have hp0:¬step≤i→∀l,prevP l i step=0:=fun h l=>by unfold prevP;rw [if_neg h]
 have hp1:step≤i→∀l:List UInt8,∀x,l[i-step]?=some x→prevP l i step=x:=fun h l x hx=>by unfold prevP;rw [if_pos h,hx];rfl
 refine jpO fun J1 hJ1=>?_
 have key:∀a:UInt8,prevP rs i step=a→J1 (((a.toNat:Nat):Int),()) w:=by
  intro a ea
  rw [ea] at hK
  refine hJ1 _ _ (jpO fun J2 hJ2=>?_)
  have key2:∀b c:UInt8,ah[i]?.getD 0=b→prevP ah i step=c→J2 (((b.toNat:Nat):Int),((c.toNat:Nat):Int),()) w:=by
   intro b c eb ec
   rw [eb,ec] at hK
   refine hJ2 _ _ ?_
   dsimp only
   have a8:=a.toNat_lt
   have b8:=b.toNat_lt
   refine cO (fun h=>?_) fun h=>?_
   ·have h:kind=3:=by
                have:(kind:Int)=3:=by simpa using h
                omega
    subst h
    refine ⟨by decide,?_⟩
    have e:IntKind.u8.wrap (IntKind.i64.wrap ((IntKind.i64.wrap ((IntKind.i64.wrap ((a.toNat:Nat):Int))+(IntKind.i64.wrap ((b.toNat:Nat):Int)))).tdiv (2:Int)))=(((UInt8.ofNat ((a.toNat+b.toNat)/2)).toNat:Nat):Int):=by
     rw [w8,w8,show ((a.toNat:Nat):Int)+((b.toNat:Nat):Int)=((a.toNat+b.toNat:Nat):Int) from rfl,w64i (x:=((a.toNat+b.toNat:Nat):Int)) (by omega),show (2:Int)=((2:Nat):Int) from rfl,←Int.ofNat_tdiv,w64i (by omega),qdv]
    rw [e]
    exact hK w (Below.refl _ _)
   have h3:kind≠3:=by
                have:(kind:Int)≠3:=by simpa using h
                omega
   refine cO (fun h=>?_) fun h=>?_
   ·have h:kind=4:=by
                have:(kind:Int)=4:=by simpa using h
                omega
    subst h
    exact zho fun w3 hB3=>hK w3 hB3
   have h4:kind≠4:=by
                have:(kind:Int)≠4:=by simpa using h
                omega
   refine cO (fun h=>?_) fun h=>?_
   ·have h:kind=2:=by
                have:(kind:Int)=2:=by simpa using h
                omega
    subst h
    exact hK w (Below.refl _ _)
   have h2:kind≠2:=by
                have:(kind:Int)≠2:=by simpa using h
                omega
   refine cO (fun h=>?_) fun h=>?_
   ·have h:kind=1:=by
                have:(kind:Int)=1:=by simpa using h
                omega
    subst h
    exact hK w (Below.refl _ _)
   have h1:kind≠1:=by
                have:(kind:Int)≠1:=by simpa using h
                omega
   obtain rfl:kind=0:=by omega
   exact hK w (Below.refl _ _)
  rw [ha.n]
  refine cO (fun hlt=>?_) fun hge=>?_
  ·have hlt:=of_decide_eq_true hlt
   obtain ⟨b,hb,hbs⟩:=qat (xs:=ah) (k:=i) (by omega)
   refine ha.ix (i:=(i:Int)) rfl (by omega) (by omega) fun hcb=>?_
   rw [hbs] at hcb
   refine ldB8 (b:=b) hcb ?_
   refine cO (fun hs=>?_) fun hs=>?_
   ·have hs:=of_decide_eq_true hs
    have e:IntKind.i64.wrap ((i:Int)-(step:Int))=((i-step:Nat):Int):=by rw [w64i (by omega)];omega
    rw [e]
    obtain ⟨c,hc,hcs⟩:=qat (xs:=ah) (k:=i-step) (by omega)
    refine ha.ix (i:=((i-step:Nat):Int)) rfl (by omega) (by omega) fun hcc=>?_
    rw [hcs] at hcc
    refine ldB8 (b:=c) hcc ?_
    exact key2 b c (by rw [hb];rfl) (hp1 (by omega) _ _ hc)
   ·have hs:=of_decide_eq_false hs
    exact key2 b 0 (by rw [hb];rfl) (hp0 (by omega) _)
  ·have hge:=of_decide_eq_false hge
   have he:ah=[]:=by
    rcases hal with h | h
    ·exact h
    ·exact absurd hil (by omega)
   subst he
   refine key2 0 0 rfl ?_
   unfold prevP
   split<;>rfl
 refine cO (fun hs=>?_) fun hs=>?_
 ·have hs:=of_decide_eq_true hs
  have e:IntKind.i64.wrap ((i:Int)-(step:Int))=((i-step:Nat):Int):=by rw [w64i (by omega)];omega
  rw [e]
  obtain ⟨a,ha',has⟩:=qat (xs:=rs) (k:=i-step) (by omega)
  refine hr.ix (i:=((i-step:Nat):Int)) rfl (by omega) (by omega) fun hca=>?_
  rw [has] at hca
  refine ldB8 (b:=a) hca ?_
  exact key a (hp1 (by omega) _ _ ha')
 ·have hs:=of_decide_eq_false hs
  exact key 0 (hp0 (by omega) _)
theorem q82 (kind:Nat) (row ahead:List UInt8) (step i:Nat) {x:UInt8} (hx:row[i]?=some x) (hs:1≤step):(undoP kind row ahead step)[i]?=some (x+gAt kind (undoP kind row ahead step) ahead step i):=by
 have h:=zgu kind row ahead step i hx hs
 have hi:i<row.length:=(List.getElem?_eq_some_iff.1 hx).1
 have h2:((undoP kind row ahead step).take (i+1))[i]?=(undoP kind row ahead step)[i]?:=List.getElem?_take_of_lt (by omega)
 rw [←h2,h,List.getElem?_append_right (by rw [List.length_take];omega),List.length_take,qgt,Nat.min_eq_left (by omega),Nat.sub_self]
 rfl
theorem zlp {kind:Nat} {ys xs ah:List UInt8} {step i:Nat} (h:ys.length=xs.length) (hi:i<xs.length) (hs:1≤step):gAt kind (mix ys xs i) ah step i=gAt kind ys ah step i:=by
 unfold gAt
 congr 1
 unfold prevP
 split
 ·rw [qgp h hi,if_pos (by omega)]
 ·rfl
theorem zj9 {kind step:Nat} {row ahead:Slc} {rs ah:List UInt8} {K:Slc→Int→World→Prop} (hr:Rd qaa w row rs) (ha:Rd qaa w ahead ah) (h1:1≤step) (h8:step≤8) (hal:ah=[]∨ah.length=rs.length) (hl:rs.length≤1000000000)
  (hB:4<kind→K ⟨none,0,0⟩ 1 w) (hK:kind≤4→∀r w',Go.Vc.Own qaa w' w.heap.size r (undoP kind rs ah step)→Below w.heap.size w w'→K r 0 w'):qn3 (kind:Int) row ahead (step:Int) w K:=by
 refine q3p _ _ _ _ ?_
 unfold qna
 refine zgy ?_
 have hno:ahead.n=0∨ahead.n=row.n:=by
  rw [ha.n,hr.n]
  rcases hal with h | h
  ·left;rw [h];rfl
  ·exact .inr h
 refine cO (fun h=>?_) fun h=>?_
 ·refine hB (Nat.lt_of_not_le fun e=>?_)
  rw [decide_eq_true ⟨by omega,by omega,by omega,by omega,hno⟩] at h
  cases h
 have hk:kind≤4:=by
  by_cases hk:kind≤4
  ·exact hk
  ·rw [decide_eq_false (by omega)] at h
   cases h
 have hK:=hK hk
 obtain ⟨ys,hys⟩:∃ys,ys=undoP kind rs ah step:=⟨_,rfl⟩
 have hyl:ys.length=rs.length:=by rw [hys,qgt]
 rw [←hys] at hK
 refine qkh hr (by omega) fun t w2 ht hB2=>?_
 refine lpR (fun (st:Int×Unit) w3=>∃i:Nat,st.1=i∧i≤rs.length∧Go.Vc.Own qaa w3 w.heap.size t (mix ys rs i)∧Below w.heap.size w w3) (fun st=>rs.length-st.1.toNat) ⟨0,rfl,by omega,by rw [qgy];exact ht,hB2⟩ ?_
 rintro ⟨i,u⟩ w3 ⟨i,rfl,hi,hT,hB3⟩ I hI
 dsimp only
 have htn:=hT.rd.n
 rw [qd4 hyl] at htn
 rw [htn]
 refine cO (fun hlt=>?_) fun hge=>?_
 ·have hlt:=of_decide_eq_true hlt
  have hil:i<rs.length:=by omega
  have hml:=qd4 hyl i
  obtain ⟨x,hx,hxs⟩:=qat (xs:=rs) (k:=i) hil
  have hxm:(mix ys rs i)[i]?=some x:=by rw [qgp hyl hil,if_neg (by omega)];exact hx
  have ix:∀{w':World} {K:Addr→Prop},Go.Vc.Own qaa w' w.heap.size t (mix ys rs i)→K (t.at_ qaa.k i)→ixK t (i:Int) 1 K:=fun {w' K} h hk=>h.rd.ix (i:=(i:Int)) rfl (by omega) (by omega) fun _=>by simpa using hk
  have hTd:=hT.ext (bdw w3)
  refine ix hT (lI (qaw hTd.rd hxm) ?_)
  have hBd:=bT hB3 (bdw w3)
  refine zg0 hTd.rd (ha.ext hBd) hk h1 (by omega) (by rw [hml];exact hal) (by omega) fun w4 hB4=>?_
  have hT4:=hTd.ext hB4
  refine ⟨qaw hT4.rd hxm,ix hT4 ?_⟩
  rw [zlp hyl hil h1,q8z]
  refine hT4.st0 (x:=x) (y:=x+gAt kind ys ah step i) hxm rfl fun w5 hT5 hg5 hs5=>?_
  have hy:ys[i]?=some (x+gAt kind ys ah step i):=by rw [hys];exact q82 kind rs ah step i hx h1
  rw [qi5 hyl hil hy] at hT5
  rw [w64i (by omega)]
  refine hI _ _ ⟨i+1,rfl,by omega,hT5,?_⟩ (by simp;omega)
  exact (bT hBd hB4).grown hg5 (bT hBd hB4).size fun k hk=>(hT4.lt k hk).1
 ·have hge:=of_decide_eq_false hge
  obtain rfl:i=rs.length:=by omega
  rw [qi7 hyl] at hT
  exact hK t w3 hT hB3
theorem qyx {n:Int} {K:Bool→World→Prop} (hK:K (qbo n) w):qhc n w K:=by
 refine qxq _ ?_
 unfold qj0
 unfold qbo at hK
 refine cO (fun h=>?_) fun h=>?_
 ·rw [eq_of_beq h] at hK
  exact hK
 have h1:n≠1:=by simpa using h
 refine cO (fun h=>?_) fun h=>?_
 ·rw [eq_of_beq h] at hK
  exact hK
 have h2:n≠2:=by simpa using h
 refine cO (fun h=>?_) fun h=>?_
 ·rw [eq_of_beq h] at hK
  exact hK
 have h4:n≠4:=by simpa using h
 refine cO (fun h=>?_) fun h=>?_
 ·rw [eq_of_beq h] at hK
  exact hK
 have h8:n≠8:=by simpa using h
 rw [decide_eq_false h1,decide_eq_false h2,decide_eq_false h4,decide_eq_false h8] at hK
 have e:(n==(16:Int))=decide (n=16):=by rw [Bool.eq_iff_iff];simp
 rw [e]
 exact hK
theorem zbn {wx samples depth:Int} {K:Int→World→Prop} (hK:K ((rowP wx samples depth:Nat):Int) w):ql1 wx samples depth w K:=by
 refine q5j _ _ _ ?_
 unfold qol
 unfold rowP at hK
 refine jpO fun J hJ=>?_
 refine cO (fun h=>?_) fun h=>?_
 ·rw [if_pos (.inl (of_decide_eq_true h))] at hK;exact hK
 have h1:=of_decide_eq_false h
 refine cO (fun h=>?_) fun h=>?_
 ·rw [if_pos (.inr (.inl (of_decide_eq_true h)))] at hK;exact hK
 have h2:=of_decide_eq_false h
 refine cO (fun h=>?_) fun h=>?_
 ·rw [if_pos (.inr (.inr (.inl (of_decide_eq_true h))))] at hK;exact hK
 have h3:=of_decide_eq_false h
 refine cO (fun h=>?_) fun h=>?_
 ·rw [if_pos (.inr (.inr (.inr (.inl (of_decide_eq_true h)))))] at hK;exact hK
 have h4:=of_decide_eq_false h
 refine qyx ?_
 cases hd:qbo depth with
 | false =>
  rw [if_pos (.inr (.inr (.inr (.inr hd))))] at hK
  exact cT rfl hK
 | true =>
  rw [if_neg (by rw [hd];simp;omega)] at hK
  refine cF rfl (hJ _ _ ⟨by decide,?_⟩)
  have hdp:1≤depth∧depth≤16:=by
   unfold qbo at hd
   simp at hd
   omega
  have a1:0≤wx*samples:=Int.mul_nonneg (by omega) (by omega)
  have a2:wx*samples≤16384*4:=Int.mul_le_mul (by omega) (by omega) (by omega) (by omega)
  have a3:0≤wx*samples*depth:=Int.mul_nonneg a1 (by omega)
  have a4:wx*samples*depth≤16384*4*16:=Int.mul_le_mul a2 (by omega) (by omega) (by omega)
  rw [w64i (x:=wx*samples) (by omega),w64i (x:=wx*samples*depth) (by omega),w64i (x:=wx*samples*depth+7) (by omega),Int.tdiv_eq_ediv_of_nonneg (by omega),w64i (by omega)]
  have e:(((wx*samples*depth+7)/8).toNat:Int)=(wx*samples*depth+7)/8:=by omega
  rw [e] at hK
  exact hK
def passT (p:PassP):T_q8_Pass:=⟨p.x,p.y,p.dx,p.dy⟩
theorem q2n {n:Nat} {K:Bool→World→Prop} (h1:1≤n) (h2:n≤16384) (hK:K true w):qh4 (n:Int) w K:=by
 refine qyv _ ?_
 unfold qkn
 refine cT (decide_eq_true (by omega)) ?_
 rw [decide_eq_true (by omega)]
 exact hK
theorem zkd {p:PassP} {W H:Nat} {K:Int→Int→World→Prop} (hW1:1≤W) (hW2:W≤16384) (hH1:1≤H) (hH2:H≤16384) (hdx:1≤p.dx) (hdy:1≤p.dy)
  (hK:∀w',Below w.heap.size w w'→K ((sizeP p W H).1:Nat) ((sizeP p W H).2:Nat) w'):qns (passT p) (W:Int) (H:Int) w K:=by
 refine q38 _ _ _ ?_
 unfold qmp
 refine nwb fun w1 h1 hB1 hs1=>?_
 refine jpO fun J hJ=>?_
 refine q2n hW1 hW2 (cF rfl (q2n hH1 hH2 (cF rfl ?_)))
 unfold sizeP at hK
 refine lI (x:=(p.x:Int)) (h1.cells 0 _ rfl) (cF (decide_eq_false (by omega)) ?_)
 refine lI (x:=(p.y:Int)) (h1.cells 1 _ rfl) (cF (decide_eq_false (by omega)) ?_)
 refine lI (x:=(p.dx:Int)) (h1.cells 2 _ rfl) (cF (decide_eq_false (by omega)) ?_)
 refine lI (x:=(p.dy:Int)) (h1.cells 3 _ rfl) (cF (decide_eq_false (by omega)) ?_)
 refine lI (x:=(p.x:Int)) (h1.cells 0 _ rfl) ?_
 refine cO (fun h=>?_) fun h=>?_
 ·have h:=of_decide_eq_true h
  rw [if_pos (.inl (by omega))] at hK
  exact hK w1 hB1
 have hx:=of_decide_eq_false h
 refine lI (x:=(p.y:Int)) (h1.cells 1 _ rfl) ?_
 refine cO (fun h=>?_) fun h=>?_
 ·have h:=of_decide_eq_true h
  rw [if_pos (.inr (by omega))] at hK
  exact hK w1 hB1
 have hy:=of_decide_eq_false h
 rw [if_neg (by omega)] at hK
 refine qak (r:=T_q8_Pass.rep) (x:=passT p) h1.cells ?_
 have hz:(((passT p).X==(0:Int)) && (((passT p).Y==(0:Int)) && (((passT p).DX==(0:Int)) && (((passT p).DY==(0:Int)) && true))))=false:=by
  have:((passT p).DX==(0:Int))=false:=qkg (by show (p.dx:Int)≠0;omega)
  rw [this]
  simp
 refine cF hz (hJ _ _ ?_)
 have hd:=h1.ext (bdw w1)
 refine lI (x:=(p.x:Int)) (hd.cells 0 _ rfl) (lI (x:=(p.dx:Int)) (hd.cells 2 _ rfl) ⟨by omega,?_⟩)
 refine lI (x:=(p.y:Int)) (hd.cells 1 _ rfl) (lI (x:=(p.dy:Int)) (hd.cells 3 _ rfl) ⟨by omega,?_⟩)
 have e:∀(n a d:Nat),n≤16384→a<n→1≤d→IntKind.i64.wrap ((IntKind.i64.wrap ((IntKind.i64.wrap ((IntKind.i64.wrap ((n:Int)-(a:Int)))-(1:Int))).tdiv (d:Int)))+(1:Int))=(((n-a-1)/d+1:Nat):Int):=by
  intro n a d hn ha hd
  rw [w64i (x:=(n:Int)-(a:Int)) (by omega),w64i (x:=(n:Int)-(a:Int)-1) (by omega),show (n:Int)-(a:Int)-1=((n-a-1:Nat):Int) by omega,←Int.ofNat_tdiv]
  have:(n-a-1)/d≤n-a-1:=Nat.div_le_self _ _
  generalize (n-a-1)/d=q at this ⊢
  rw [w64i (x:=(q:Int)) (by omega),w64i (by omega)]
  rfl
 rw [e W p.x p.dx hW2 (by omega) hdx,e H p.y p.dy hH2 (by omega) hdy]
 exact hK _ (bT hB1 (bdw w1))
theorem q5y {d i:Nat} (h:d=1∨d=2∨d=4∨d=8):i*d%8+d≤8:=by
 rcases h with rfl | rfl | rfl | rfl<;>omega
def intsN (l:List Nat):List Int:=l.map fun (v:Nat)=>(v:Int)
theorem qeq (l:List Nat):(intsN l).length=l.length:=by simp [intsN]
theorem qul (l:List Nat) (i:Nat):(intsN l)[i]?=(l[i]?).map fun (v:Nat)=>(v:Int):=by simp [intsN]
theorem q9b {row:Slc} {rs:List UInt8} {d n:Nat} {K:Slc→Int→World→Prop} (hr:Rd qaa w row rs) (hd:d=1∨d=2∨d=4∨d=8∨d=16) (hn:n*d≤8*rs.length) (hl:rs.length≤1000000000)
  (hK:∀r w',Go.Vc.Own E_int w' w.heap.size r (intsN (qcd rs d n))→Below w.heap.size w w'→K r 0 w'):qkz row (d:Int) (n:Int) w K:=by
 refine qxd _ _ _ ?_
 unfold qju
 have hd1:1≤d∧d≤16:=by omega
 have hnl:n≤8*rs.length:=Nat.le_trans (Nat.le_mul_of_pos_right n (by omega)) hn
 have hdP:qbo (d:Int)=true:=by
  unfold qbo
  rcases hd with rfl | rfl | rfl | rfl | rfl<;>rfl
 refine jpO fun J1 hJ1=>jpO fun J3 hJ3=>?_
 refine qyx ?_
 rw [hdP]
 refine cF rfl ?_
 rw [decide_eq_false (by omega)]
 refine hJ3 _ _ (cF rfl ⟨by omega,?_⟩)
 rw [hr.n]
 have e1:IntKind.i64.wrap ((IntKind.i64.wrap ((8:Int)*((rs.length:Nat):Int))).tdiv (d:Int))=((8*rs.length/d:Nat):Int):=by
  rw [w64i (x:=(8:Int)*((rs.length:Nat):Int)) (by omega),show (8:Int)*((rs.length:Nat):Int)=((8*rs.length:Nat):Int) by simp,←Int.ofNat_tdiv]
  have:8*rs.length/d≤8*rs.length:=Nat.div_le_self _ _
  generalize 8*rs.length/d=q at this ⊢
  rw [w64i (by omega)]
 rw [e1]
 have hle:n≤8*rs.length/d:=(Nat.le_div_iff_mul_le (by omega)).2 hn
 refine cF (decide_eq_false (by omega)) (hJ1 _ _ ?_)
 clear hJ1 hJ3
 obtain ⟨ys,hys⟩:∃ys,ys=intsN (qcd rs d n):=⟨_,rfl⟩
 have hyl:ys.length=n:=by rw [hys,qeq];simp [qcd]
 have hyg:∀i,i<n→ys[i]?=some ((qfk rs d i:Nat):Int):=fun i hi=>by
  rw [hys,qul]
  simp [qcd,hi]
 rw [←hys] at hK
 have hyl':ys.length=(List.replicate n (0:Int)).length:=by rw [List.length_replicate];exact hyl
 have hml:∀i,(mix ys (List.replicate n 0) i).length=n:=fun i=>by rw [qd4 hyl',List.length_replicate]
 refine qes qr0 (x0:=(0:Int)) rfl (n:=n) rfl rfl (by rw [qzz];omega) (by unfold maxLen;omega) fun w2 hT0 hB2=>?_
 obtain ⟨t,ht⟩:∃t:Slc,t=⟨some ⟨w.heap.size,0,none⟩,n,n⟩:=⟨_,rfl⟩
 rw [←ht] at hT0 ⊢
 have htn:t.n=n:=by rw [ht]
 refine lpR (fun (st:Int×Unit) w3=>∃i:Nat,st.1=i∧i≤n∧Go.Vc.Own E_int w3 w.heap.size t (mix ys (List.replicate n 0) i)∧Below w.heap.size w w3) (fun st=>n-st.1.toNat) ⟨0,rfl,by omega,by rw [qgy];exact hT0,hB2⟩ ?_
 rintro ⟨i,u⟩ w3 ⟨i,rfl,hi,hT,hB3⟩ I hI
 dsimp only
 rw [htn]
 refine cO (fun hlt=>?_) fun hge=>?_
 ·have hlt:=of_decide_eq_true hlt
  have hil:i<n:=by omega
  have hBd:=bT hB3 (bdw w3)
  have hr3:=hr.ext hB3
  have hrd:=hr.ext hBd
  have hTd:=hT.ext (bdw w3)
  have hzi:(mix ys (List.replicate n 0) i)[i]?=some (0:Int):=by rw [qgp hyl' (by simpa using hil),if_neg (by omega)];simp [hil]
  have hid:i*d<n*d:=Nat.mul_lt_mul_of_pos_right hil (by omega)
  have st:∀v:Int,v=((qfk rs d i:Nat):Int)→ixK t (i:Int) 1 fun t53=>stK t53 [.int .i64 v] w3.drew fun w4=>I ((IntKind.i64.wrap ((i:Int)+(1:Int))),()) w4:=by
   intro v hv
   refine hTd.rd.ix (i:=(i:Int)) rfl (by omega) (by rw [hml];omega) fun _=>?_
   refine hTd.st0 (x:=(0:Int)) (y:=v) (by simpa using hzi) rfl fun w4 hT4 hg4 hs4=>?_
   rw [Int.toNat_natCast,hv,qi5 hyl' (by simpa using hil) (hyg i hil)] at hT4
   rw [w64i (by omega)]
   refine hI _ _ ⟨i+1,rfl,by omega,hT4,?_⟩ (by simp;omega)
   exact hBd.grown hg4 hBd.size fun k hk=>(hTd.lt k hk).1
  refine cO (fun h16=>?_) fun h16=>?_
  ·have h16:d=16:=by
    have:=eq_of_beq h16
    omega
   subst h16
   obtain ⟨x,hx,hxs⟩:=qat (xs:=rs) (k:=2*i) (by omega)
   obtain ⟨y,hy,hys'⟩:=qat (xs:=rs) (k:=2*i+1) (by omega)
   have x8:=x.toNat_lt
   have y8:=y.toNat_lt
   have ei:IntKind.i64.wrap ((2:Int)*(i:Int))=((2*i:Nat):Int):=by rw [w64i (by omega)];simp
   have ei1:IntKind.i64.wrap ((((2*i:Nat)):Int)+(1:Int))=((2*i+1:Nat):Int):=by rw [w64i (by omega)];rfl
   rw [ei,ei1]
   refine hr3.ix (i:=((2*i:Nat):Int)) rfl (by omega) (by omega) fun _=>?_
   refine lI (x:=(x.toNat:Int)) (by rw [Int.toNat_natCast];exact qaw hrd hx) ⟨by decide,?_⟩
   refine hr3.ix (i:=((2*i+1:Nat):Int)) rfl (by omega) (by omega) fun _=>?_
   refine lI (x:=(y.toNat:Int)) (by rw [Int.toNat_natCast];exact qaw hrd hy) (st _ ?_)
   rw [w8,w8,show min ((8:Int)).toNat IntKind.i64.bits=8 by decide,qau,qad .i64 (x:=x.toNat*2^8) (by show _<2^63;omega),qco .i64 (by show _<2^63;omega) (by show _<2^63;omega)]
   have e:x.toNat*2^8 ||| y.toNat=x.toNat*256+y.toNat:=by
    rw [Nat.or_comm,Nat.mul_comm,qew (by omega)]
    omega
   rw [e]
   unfold qfk
   rw [if_pos rfl,hx,hy]
   rfl
  ·have h16:d≠16:=by
    intro h
    rw [h] at h16
    cases h16
   have hd':d=1∨d=2∨d=4∨d=8:=by omega
   have hsm:=q5y (i:=i) hd'
   refine ⟨by decide,?_⟩
   have ei:IntKind.i64.wrap ((i:Int)*(d:Int))=((i*d:Nat):Int):=by
    have:i*d≤n*d:=by omega
    rw [show (i:Int)*(d:Int)=((i*d:Nat):Int) by simp,w64i (by omega)]
   have e8:IntKind.i64.wrap ((((i*d:Nat)):Int).tdiv (8:Int))=((i*d/8:Nat):Int):=by
    rw [show (8:Int)=((8:Nat):Int) from rfl,←Int.ofNat_tdiv,w64i (by omega)]
   have em:(((i*d:Nat)):Int).tmod (8:Int)=((i*d%8:Nat):Int):=by
    rw [show (8:Int)=((8:Nat):Int) from rfl,Int.ofNat_tmod]
   rw [ei,e8,em]
   obtain ⟨x,hx,hxs⟩:=qat (xs:=rs) (k:=i*d/8) (by omega)
   have x8:=x.toNat_lt
   refine hr3.ix (i:=((i*d/8:Nat):Int)) rfl (by omega) (by omega) fun _=>?_
   refine lI (x:=(x.toNat:Int)) (by rw [Int.toNat_natCast];exact qaw hrd hx) ?_
   have esh:IntKind.i64.wrap ((IntKind.i64.wrap ((8:Int)-(d:Int)))-((i*d%8:Nat):Int))=((8-d-i*d%8:Nat):Int):=by
    rw [w64i (x:=(8:Int)-(d:Int)) (by omega),w64i (by omega)]
    omega
   rw [esh]
   refine ⟨by decide,by omega,by omega,st _ ?_⟩
   rw [w8,show min (((8-d-i*d%8:Nat):Int)).toNat IntKind.i64.bits=8-d-i*d%8 by rw [Int.toNat_natCast];show min _ 64=_;omega,show min ((d:Int)).toNat IntKind.i64.bits=d by rw [Int.toNat_natCast];show min _ 64=_;omega,qbt,Int.one_mul]
   have hpd:(2:Nat)^d≤2^8:=Nat.pow_le_pow_right (by decide) (by omega)
   have hp0:0<(2:Nat)^d:=Nat.pow_pos (by decide)
   rw [show (2:Int)^d=((2^d:Nat):Int) by simp,w64i (x:=((2^d:Nat):Int)) (by omega),show ((2^d:Nat):Int)-1=((2^d-1:Nat):Int) by omega,w64i (by omega)]
   have hxd:x.toNat/2^(8-d-i*d%8)≤x.toNat:=Nat.div_le_self _ _
   rw [qdd .i64 (by show _<2^63;omega) (by show _<2^63;omega),Nat.and_two_pow_sub_one_eq_mod]
   unfold qfk
   rw [if_neg h16,hx]
   rfl
 ·have hge:=of_decide_eq_false hge
  obtain rfl:i=n:=by omega
  have:=qi7 hyl'
  rw [List.length_replicate] at this
  rw [this] at hT
  exact hK t w3 hT hB3
end
end Go.Proofs.YtmagnpcgpinmcaaGreat
set_option linter.unusedVariables false
namespace Go.Proofs.YtmagnpcgpinmcaaGreat
open Go.Vc Go.RowKit
set_option maxRecDepth 400000
def qah (l:List UInt8):List Value:=l.map fun b=>Value.int .u8 (b.toNat:Int)
theorem qst (l:List UInt8):flat qaa l=qah l:=by
 unfold flat qah
 induction l with
 | nil=>rfl
 | cons x r ih=>rw [List.flatMap_cons,ih];rfl
theorem qhf (l:List UInt8):(qah l).length=l.length:=by simp [qah]
theorem zef (l:List UInt8):∀v∈qah l,oneB v=true:=by
 intro v hv
 unfold qah at hv
 obtain ⟨b,_,rfl⟩:=List.mem_map.1 hv
 rfl
theorem zhu {w:World} {a:Addr} {l:List UInt8} (h:∀(i:Nat) x,l[i]?=some x→w.cell? (a.add i)=some (.int .u8 (x.toNat:Int))):(loadCells a l.length).run PG w=.ok (qah l).toArray w:=by
 have:=run_loadCells_list (P:=PG) w a (qah l) (fun j v hj=>by
  unfold qah at hj
  rw [List.getElem?_map] at hj
  cases hb:l[j]? with
  | none=>rw [hb] at hj;cases hj
  | some b =>
   rw [hb] at hj
   cases hj
   exact h j b hb)
 rwa [qhf] at this
theorem copyB {w:World} {g o dn dc n:Nat} {t:TypeId} {cur:List Value} {x:Slc} {ys:List UInt8} {K:Int→World→Prop} (hb:Blk w g t cur) (hx:Rd qaa w x ys) (hn:n=min ys.length dn) (hf:o+n≤cur.length)
  (hK:∀w',Blk w' g t (putL cur o (qah (ys.take n)))→Chg (fun k=>k=g) w w'→w'.heap.size=w.heap.size→K (n:Int) w') :
  runK1 PG (Builtin.copy_ #[qab,qab] qbh #[.slice (some ⟨g,o,none⟩) dn dc,.slice x.a x.n x.c]) (Kind.int .i64) w K:=by
 have htl:(ys.take n).length=n:=by rw [List.length_take];omega
 have hst:(storeCells ⟨g,o,none⟩ (qah (ys.take n)) 0).run PG w=.ok () (wr w ⟨g,o,none⟩ (qah (ys.take n))) :=
  qop (qah (ys.take n)) 0 w (zef _) (fun j hj=>by
   rw [qhf,htl] at hj
   rw [Nat.zero_add,qag]
   refine ⟨⟨cur[o+j]'(by omega),hb.cell (o+j) (List.getElem?_eq_getElem (by omega))⟩,hb.frozen _⟩)
 refine ⟨(n:Int),wr w ⟨g,o,none⟩ (qah (ys.take n)),?_,hK _ (zj4 hb) (Chg.gg (zb0 w ⟨g,o,none⟩ _)) (size_wr _ _ _)⟩
 have hu:PG.underlying qab=some (.slice qai):=by kernel_rfl
 have hi:=qar.hi
 have hs:qar.i.size=1:=qar.hs
 have hi':PG.info? qai=some qar.i:=hi
 have hxn:=hx.n
 have hmin:Nat.min ys.length dn=n:=hn.symm
 cases ha:x.a with
 | none =>
  have hy:=hx.none_nil ha
  subst hy
  have hn0:n=0:=by rw [hn];simp
  subst hn0
  simp [Builtin.copy_,run_underlying hu,Builtin.lenOf,Builtin.firstCells,sizeOf,typeInfo,hi',hxn,storeCells,wr,qcs,qah,Kind.enc,goInt]
 | some a =>
  have hload:=zhu (w:=w) (a:=a) (l:=ys.take n) (fun i y hy=>by
   have hi2:i<n:=by rw [←htl];exact (List.getElem?_eq_some_iff.1 hy).1
   rw [List.getElem?_take_of_lt hi2] at hy
   have:=qaw hx hy
   simp only [Slc.at_,ha,Option.getD_some,Nat.mul_one] at this
   exact this)
  rw [htl] at hload
  simp [Builtin.copy_,run_underlying hu,Builtin.lenOf,Builtin.firstCells,sizeOf,typeInfo,hi',hs,hxn,hmin,hload,hst,Kind.enc,goInt]
theorem q6w {w:World} {b g c:Nat} {xs:List UInt8} {s:Slc} (h:Go.Vc.Own qaa w b s xs) (hs:s.a=some ⟨g,0,none⟩):∃cur,Blk w g qai cur∧cur.length=s.c∧cur.take xs.length=qah xs∧xs.length≤s.c∧s.c≤maxLen∧b≤g∧s.n=xs.length:=by
 rcases h.form with ⟨rfl,rfl⟩ | ⟨g',cur,e,hg,hb,h1,h2,h3,h4⟩
 ·cases hs
 ·rw [e] at hs
  have hg':g'=g:=congrArg Addr.block (Option.some.inj hs)
  subst hg'
  refine ⟨cur,hb,by rw [h3];exact Nat.mul_one _,?_,h1,h2,hg,by rw [e]⟩
  rw [←qst,←h4]
  show _=cur.take (xs.length*1)
  rw [Nat.mul_one]
theorem zf0 {w w':World} {b g:Nat} {xs ys:List UInt8} {s:Slc} {cur:List Value} {k:Nat} (h:Go.Vc.Own qaa w b s xs) (hs:s.a=some ⟨g,0,none⟩) (hc:Blk w g qai cur) (hk:k+ys.length≤xs.length) (hw:Blk w' g qai (putL cur k (qah ys))) :
  Go.Vc.Own qaa w' b s (xs.take k++ys++xs.drop (k+ys.length)):=by
 obtain ⟨cur',hb,hl,ht,h1,h2,h3,h4⟩:=q6w (c:=0) h hs
 have e:cur'=cur:=by
  unfold Blk at hb hc
  rw [hb] at hc
  injection hc with hc
  injection hc with hc _ _
  simpa using hc
 subst e
 have hlen:(xs.take k++ys++xs.drop (k+ys.length)).length=xs.length:=by simp;omega
 obtain ⟨a,n,c⟩:=s
 dsimp only at hs hl h1 h2 h4
 subst hs h4
 have:=Go.Vc.Own.of_blk (E:=qaa) (xs:=xs.take k++ys++xs.drop (k+ys.length)) (c:=c) h3 hw (by omega) h2 (by rw [qkj,hl];exact (Nat.mul_one _).symm) (by
  rw [qst,hlen]
  show (putL cur' k (qah ys)).take (xs.length*1)=_
  rw [Nat.mul_one]
  refine List.ext_getElem? fun m=>?_
  by_cases hm:m<xs.length
  ·rw [List.getElem?_take_of_lt hm,qm7 _ _ _ _ (by rw [qhf];omega),qhf]
   have hcm:cur'[m]?=(qah xs)[m]?:=by rw [←ht,List.getElem?_take_of_lt hm]
   have hbm:∀l:List UInt8,(qah l)[m]?=(l[m]?).map fun b=>Value.int .u8 (b.toNat:Int):=fun l=>by unfold qah;rw [List.getElem?_map]
   by_cases hin:k≤m∧m<k+ys.length
   ·rw [if_pos hin,hbm,List.append_assoc,List.getElem?_append_right (by rw [List.length_take];omega),List.length_take,Nat.min_eq_left (by omega),List.getElem?_append_left (by omega)]
    unfold qah
    rw [List.getElem?_map]
   ·rw [if_neg hin,hcm,hbm,hbm]
    congr 1
    by_cases hmk:m<k
    ·rw [List.append_assoc,List.getElem?_append_left (by rw [List.length_take];omega),List.getElem?_take_of_lt hmk]
    ·rw [List.append_assoc,List.getElem?_append_right (by rw [List.length_take];omega),List.length_take,Nat.min_eq_left (by omega),List.getElem?_append_right (by omega),List.getElem?_drop]
     congr 1
     omega
  ·rw [List.getElem?_eq_none (by rw [List.length_take];omega),List.getElem?_eq_none (by rw [qhf];omega)])
 rw [hlen] at this
 exact this
def qtg:El T_q8_Pass where
 cells:=T_q8_Pass.rep.cells
 t:=qbd
 k:=4
 pos:=by decide
 len _:=rfl
 one x v hv:=by
  simp only [T_q8_Pass.rep,List.mem_cons,List.mem_nil_iff,or_false] at hv
  rcases hv with rfl | rfl | rfl | rfl<;>rfl
def qgv (lace:Int):List T_q8_Pass:=(qdh lace).map passT
theorem qrt (lace:Int):∀p∈qdh lace,1≤p.dx∧1≤p.dy∧p.x≤4∧p.y≤4∧p.dx≤8∧p.dy≤8:=by
 unfold qdh
 split
 ·simp [zfz]
 ·simp [zfu]
theorem ql0 (lace:Int):(qdh lace).length≤7:=by
 unfold qdh
 split<;>decide
structure HeadOk (h:T_png_Head) (W H:Nat):Prop where
 w:h.W=W
 h:h.H=H
 w1:1≤W
 w2:W≤16384
 h1:1≤H
 h2:H≤16384
theorem HeadOk.wn {h:T_png_Head} {W H:Nat} (o:HeadOk h W H):h.W.toNat=W:=by rw [o.w];rfl
theorem HeadOk.hn {h:T_png_Head} {W H:Nat} (o:HeadOk h W H):h.H.toNat=H:=by rw [o.h];rfl
theorem qh5 (p:PassP) (W H:Nat):(sizeP p W H).1≤W∧(sizeP p W H).2≤H:=by
 unfold sizeP
 split
 ·exact ⟨by omega,by omega⟩
 ·have h1:(W-p.x-1)/p.dx≤W-p.x-1:=Nat.div_le_self _ _
  have h2:(H-p.y-1)/p.dy≤H-p.y-1:=Nat.div_le_self _ _
  exact ⟨by dsimp only;omega,by dsimp only;omega⟩
theorem qfj (W H:Nat) (p:PassP):(qaj W H p).length=(sizeP p W H).2:=by simp [qaj]
theorem qqe (W H:Nat) (p:PassP) {y:Nat} (hy:y<(sizeP p W H).2):qaj W H p=(qaj W H p).take y++(p,y,(sizeP p W H).1)::(qaj W H p).drop (y+1):=by
 have hl:=qfj W H p
 have e:(qaj W H p)[y]'(by omega)=(p,y,(sizeP p W H).1):=by simp [qaj]
 rw [←e,←List.drop_eq_getElem_cons,List.take_append_drop]
theorem qlg (W H:Nat) (p:PassP) {y:Nat} (hy:y<(sizeP p W H).2):(qaj W H p).take (y+1)=(qaj W H p).take y++[(p,y,(sizeP p W H).1)]:=by
 have hl:=qfj W H p
 rw [List.take_succ_eq_append_getElem (by omega)]
 simp [qaj]
def KeepT (w w':World):Prop:=∀(k:Nat) t cs,(t=qbd∨t=qa9)→Blk w k t cs→Blk w' k t cs
section
variable {w:World}
theorem zc7 {K:Slc→World→Prop} (hK:∀(g:Nat) w',Blk w' g qbd (flat qtg (qgv 1))→Below w.heap.size w w'→w.heap.size≤g→K ⟨some ⟨g,0,none⟩,7,7⟩ w'):ql8 w K:=by
 refine qzx ?_
 unfold qkr
 exact nwb fun w1 h1 hB1 hs1=>hK _ w1 h1 hB1 (Nat.le_refl _)
theorem zet {h:T_png_Head} {K:Slc→World→Prop} (hK:∀(g n:Nat) w',Blk w' g qbd (flat qtg (qgv h.Lace))→n=(qgv h.Lace).length→Below w.heap.size w w'→w.heap.size≤g→K ⟨some ⟨g,0,none⟩,n,n⟩ w'):qjv h w K:=by
 refine qvo _ ?_
 unfold qix
 refine nwb fun w1 h1 hB1 hs1=>?_
 refine lI (x:=h.Lace) (h1.cells 4 _ rfl) ?_
 refine cO (fun e=>?_) fun e=>?_
 ·have e:h.Lace=1:=eq_of_beq e
  rw [e] at hK
  exact zc7 fun g w2 h2 hB2 hg=>hK g 7 w2 h2 rfl (bT hB1 hB2) (by have:=hB1.size;omega)
 ·have e:h.Lace≠1:=by simpa using e
  have hp:qgv h.Lace=[⟨0,0,1,1⟩]:=by unfold qgv qdh;rw [if_neg e];rfl
  rw [hp] at hK
  exact nwb fun w2 h2 hB2 hs2=>hK _ 1 w2 h2 rfl (bT hB1 hB2) hB1.size
theorem q8k {h:T_png_Head} {W H:Nat} (ho:HeadOk h W H) {f:Value} {K:Bool→World→Prop} (Inv:List (PassP×Nat×Nat)→World→Prop) (Bad:World→Prop)
  (h0:Inv [] w) (hI:∀L w1 w2,Inv L w1→Below w1.heap.size w1 w2→Inv L w2)
  (step:∀L r R w1,rowsL h=L++r::R→Inv L w1→w.heap.size≤w1.heap.size→∀J:Bool→World→Prop,(∀w2,Inv (L++[r]) w2→KeepT w1 w2→w1.heap.size≤w2.heap.size→J true w2)→(∀w2,Bad w2→J false w2) →
   callR C f [(.agg #[(.int .i64 (passT r.1).X),(.int .i64 (passT r.1).Y),(.int .i64 (passT r.1).DX),(.int .i64 (passT r.1).DY)]),(.int .i64 (r.2.1:Int)),(.int .i64 (r.2.2:Int))] [Kind.bool] w1 J)
  (hK1:∀w1,Inv (rowsL h) w1→K true w1) (hK0:∀w1,Bad w1→K false w1):qd8 h f w K:=by
 refine qzt _ _ ?_
 unfold qk1
 refine nwb fun w1 hb1 hB1 hs1=>?_
 refine qak (r:=T_png_Head.rep) (x:=h) hb1.cells ?_
 refine zet fun g n w2 hg hn hB2 hgl=>?_
 have hb2:=hb1.ext hB2
 have hs2:=hB2.size
 obtain ⟨ps,hps⟩:∃ps,ps=qdh h.Lace:=⟨_,rfl⟩
 have hpT:qgv h.Lace=ps.map passT:=by rw [hps];rfl
 have hnl:n=ps.length:=by rw [hn,hpT,List.length_map]
 rw [hpT] at hg
 have hrows:rowsL h=ps.flatMap (qaj W H):=by unfold rowsL;rw [ho.wn,ho.hn,←hps]
 have hpl:ps.length≤7:=by rw [hps];exact ql0 _
 have hdx:=qrt h.Lace
 rw [←hps] at hdx
 dsimp only
 refine lpR (fun (s:Int×Unit) w3=>∃i:Nat,s.1=i∧i≤ps.length∧Inv ((ps.take i).flatMap (qaj W H)) w3∧Blk w3 w.heap.size qa9 (T_png_Head.rep.cells h)∧Blk w3 g qbd (flat qtg (ps.map passT))∧w.heap.size≤w3.heap.size) (fun s=>ps.length-s.1.toNat)
  ⟨0,rfl,by omega,hI _ _ _ h0 (bT hB1 hB2),hb2,hg,by omega⟩ ?_
 rintro ⟨i,u⟩ w3 ⟨i,rfl,hi,hInv,hb3,hg3,hs3⟩ I hIl
 dsimp only
 rw [hnl]
 refine cO (fun hlt=>?_) fun hge=>?_
 ·have hlt:=of_decide_eq_true hlt
  have hil:i<ps.length:=by omega
  obtain ⟨p,hp⟩:∃p,ps[i]?=some p:=⟨_,List.getElem?_eq_getElem hil⟩
  have hpd:=hdx p (List.mem_of_getElem? hp)
  have hrd:Rd qtg w3 ⟨some ⟨g,0,none⟩,(ps.map passT).length,(ps.map passT).length⟩ (ps.map passT):=qgg (E:=qtg) hg3 (by rw [List.length_map];unfold maxLen;omega) rfl
  rw [List.length_map] at hrd
  have hpT':(ps.map passT)[i]?=some (passT p):=by rw [List.getElem?_map,hp];rfl
  refine hrd.ix (i:=(i:Int)) (k:=4) rfl (by omega) (by rw [List.length_map];omega) fun _=>?_
  refine qak (r:=T_q8_Pass.rep) (x:=passT p) (hrd.at_ i _ hpT') ?_
  refine nwb fun w4 hb4 hB4 hs4=>?_
  refine qav hb4 rfl fun w5 hb5 hc5 hs5=>?_
  have hB35:Below w3.heap.size w3 w5:=b1o hB4 hc5 (Nat.le_refl _)
  refine qak (r:=T_q8_Pass.rep) (x:=passT p) hb5.cells ?_
  have hb35:=hb3.ext hB35
  refine lI (x:=(W:Int)) (by have:=hb35.cells 0 _ rfl;rw [ho.w] at this;exact this) (lI (x:=(H:Int)) (by have:=hb35.cells 1 _ rfl;rw [ho.h] at this;exact this) ?_)
  refine zkd ho.w1 ho.w2 ho.h1 ho.h2 hpd.1 hpd.2.1 fun w6 hB6=>?_
  have hB36:=bT hB35 hB6
  have hsz:=qh5 p W H
  have hH2:=ho.h2
  refine lpR (fun (s:Int×Unit) w7=>∃y:Nat,s.1=y∧y≤(sizeP p W H).2∧Inv ((ps.take i).flatMap (qaj W H)++(qaj W H p).take y) w7∧Blk w7 w.heap.size qa9 (T_png_Head.rep.cells h)∧Blk w7 g qbd (flat qtg (ps.map passT))∧Blk w7 w3.heap.size qbd (T_q8_Pass.rep.cells (passT p))∧w.heap.size≤w7.heap.size) (fun s=>(sizeP p W H).2-s.1.toNat)
   ⟨0,rfl,by omega,by rw [List.take_zero,List.append_nil];exact hI _ _ _ hInv hB36,hb3.ext hB36,hg3.ext hB36,hb5.ext hB6,by have:=hB36.size;omega⟩ ?_
  rintro ⟨y,u⟩ w7 ⟨y,rfl,hy,hInv7,hb7,hg7,hp7,hs7⟩ I2 hI2
  dsimp only
  refine cO (fun hlt2=>?_) fun hge2=>?_
  ·have hlt2:=of_decide_eq_true hlt2
   have hyl:y<(sizeP p W H).2:=by omega
   refine qak (r:=T_q8_Pass.rep) (x:=passT p) hp7.cells ?_
   have hsplit:rowsL h=((ps.take i).flatMap (qaj W H)++(qaj W H p).take y)++(p,y,(sizeP p W H).1)::((qaj W H p).drop (y+1)++(ps.drop (i+1)).flatMap (qaj W H)):=by
    have e:ps=ps.take i++p::ps.drop (i+1):=by
     rw [List.getElem?_eq_getElem hil] at hp
     rw [←Option.some.inj hp,←List.drop_eq_getElem_cons hil,List.take_append_drop]
    conv=>lhs;rw [hrows,e,List.flatMap_append,List.flatMap_cons,qqe W H p hyl]
    simp [List.append_assoc]
   refine step _ _ _ w7 hsplit hInv7 hs7 _ (fun w8 h8 hk8 hs8=>?_) (fun w8 h8=>cT rfl (hK0 w8 h8))
   refine cF rfl ?_
   rw [w64i (by omega)]
   refine hI2 _ _ ⟨y+1,rfl,by omega,?_,hk8 _ _ _ (.inr rfl) hb7,hk8 _ _ _ (.inl rfl) hg7,hk8 _ _ _ (.inl rfl) hp7,by omega⟩ (by simp;omega)
   rw [qlg W H p hyl,←List.append_assoc]
   exact h8
  ·have hge2:=of_decide_eq_false hge2
   obtain rfl:y=(sizeP p W H).2:=by omega
   rw [w64i (by omega)]
   refine hIl _ _ ⟨i+1,rfl,by omega,?_,hb7,hg7,hs7⟩ (by simp;omega)
   rw [List.take_add_one,hp,List.flatMap_append]
   rw [List.take_of_length_le (show (qaj W H p).length≤(sizeP p W H).2 by rw [qfj];exact Nat.le_refl _)] at hInv7
   simpa using hInv7
 ·have hge:=of_decide_eq_false hge
  obtain rfl:i=ps.length:=by omega
  rw [List.take_length,←hrows] at hInv
  exact hK1 w3 hInv
end
end Go.Proofs.YtmagnpcgpinmcaaGreat
set_option linter.unusedVariables false
namespace Go.Proofs.YtmagnpcgpinmcaaGreat
open Go.Vc Go.RowKit
set_option maxRecDepth 400000
def qik (F:FilL) (p t d:Slc):List Value:=T_png_file.rep.cells ⟨F.h,p,t,F.hasP,F.hasT,d,F.hasD,F.wasD⟩
structure FilA (w:World) (g b:Nat) (F:FilL) (p t d:Slc):Prop where
 blk:Blk w g qkb (qik F p t d)
 pal:Rd qaa w p F.pal
 tr:Rd qaa w t F.tr
 data:Go.Vc.Own qaa w b d F.data
 pb:∀k,p.blk=some k→k<b
 tb:∀k,t.blk=some k→k<b
theorem FilA.ext {w w':World} {g b:Nat} {F:FilL} {p t d:Slc} (h:FilA w g b F p t d) (hB:Below w.heap.size w w'):FilA w' g b F p t d:=⟨h.blk.ext hB,h.pal.ext hB,h.tr.ext hB,h.data.ext hB,h.pb,h.tb⟩
structure ColOk (h:T_png_Head):Prop where
 c:h.Color=0∨h.Color=2∨h.Color=3∨h.Color=4∨h.Color=6
 d:h.Depth=1∨h.Depth=2∨h.Depth=4∨h.Depth=8∨h.Depth=16
theorem qfr {h:T_png_Head} (hc:qdo h=0):(∃W H,HeadOk h W H)∧ColOk h:=by
 unfold qdo at hc
 split at hc
 ·cases hc
 ·rename_i h1
  split at hc
  ·cases hc
  ·rename_i h2
   refine ⟨⟨h.W.toNat,h.H.toNat,by omega,by omega,by omega,by omega,by omega,by omega⟩,?_,?_⟩
   ·have hs:qac h.Color≠0:=fun e=>h2 (.inl e)
    unfold qac at hs
    by_cases h0:h.Color=0∨h.Color=3
    ·omega
    ·rw [if_neg h0] at hs
     by_cases h22:h.Color=2
     ·omega
     ·rw [if_neg h22] at hs
      by_cases h4:h.Color=4
      ·omega
      ·rw [if_neg h4] at hs
       by_cases h6:h.Color=6
       ·omega
       ·rw [if_neg h6] at hs
        exact absurd rfl hs
   ·have hd:qet h=true:=by
     cases e:qet h with
     | true=>rfl
     | false=>exact absurd (.inr (.inl e)) h2
    unfold qet at hd
    have:=of_decide_eq_true hd
    omega
structure FilOk (F:FilL):Prop where
 hd:qdo F.h=0
 tr:F.hasT=true→F.h.Color=0∧F.tr.length=2∨F.h.Color=2∧F.tr.length=6∨F.h.Color=3
 pal:F.pal.length%3=0
theorem q3t {F:FilL} {c:ChL} (h:FilOk F) (h0:(takeP F c).1=0):FilOk (takeP F c).2∧(takeP F c).2.h=F.h:=by
 unfold takeP at h0 ⊢
 by_cases h1:c.kind=ihdrL
 ·rw [if_pos h1] at h0;cases h0
 rw [if_neg h1] at h0 ⊢
 by_cases h2:c.kind=plteL
 ·rw [if_pos h2] at h0 ⊢
  cases hp:qgf F c.data with
  | false=>rw [hp] at h0;cases h0
  | true =>
   unfold qgf at hp
   simp only [Bool.not_eq_true',Bool.or_eq_false_iff,decide_eq_false_iff_not] at hp
   exact ⟨⟨h.hd,h.tr,by show c.data.length%3=0;omega⟩,rfl⟩
 rw [if_neg h2] at h0 ⊢
 by_cases h3:c.kind=trnsL
 ·rw [if_pos h3] at h0 ⊢
  cases hp:qgi F c.data with
  | false=>rw [hp] at h0;cases h0
  | true =>
   refine ⟨⟨h.hd,fun _=>?_,h.pal⟩,rfl⟩
   unfold qgi at hp
   simp only [Bool.and_eq_true] at hp
   have hp:=hp.2
   show F.h.Color=0∧c.data.length=2∨F.h.Color=2∧c.data.length=6∨F.h.Color=3
   by_cases e0:F.h.Color=0
   ·rw [if_pos e0] at hp;exact .inl ⟨e0,of_decide_eq_true hp⟩
   ·rw [if_neg e0] at hp
    by_cases e2:F.h.Color=2
    ·rw [if_pos e2] at hp;exact .inr (.inl ⟨e2,of_decide_eq_true hp⟩)
    ·rw [if_neg e2] at hp
     by_cases e3:F.h.Color=3
     ·exact .inr (.inr e3)
     ·rw [if_neg e3] at hp;cases hp
 rw [if_neg h3] at h0 ⊢
 by_cases h4:c.kind=idatL
 ·rw [if_pos h4] at h0 ⊢
  split
  ·exact ⟨⟨h.hd,h.tr,h.pal⟩,rfl⟩
  ·rename_i hn;rw [if_neg hn] at h0;cases h0
 rw [if_neg h4] at h0 ⊢
 by_cases h5:c.kind=iendL
 ·rw [if_pos h5] at h0 ⊢
  split
  ·exact ⟨⟨h.hd,h.tr,h.pal⟩,rfl⟩
  ·rename_i hn;rw [if_neg hn] at h0;cases h0
 rw [if_neg h5] at h0 ⊢
 split
 ·rename_i hn;rw [if_pos hn] at h0;cases h0
 ·exact ⟨⟨h.hd,h.tr,h.pal⟩,rfl⟩
section
variable {w:World} {g b:Nat} {F:FilL} {p t d:Slc}
theorem zd4 (h:FilA w g b F p t d) (hc:ColOk F.h) {x:Slc} {ds:List UInt8} (hx:Rd qaa w x ds) (hxb:∀k,x.blk=some k→k<b) (hbg:b≤g) (hl:ds.length≤1000000000) {K:Bool→World→Prop}
  (hN:qgf F ds=false→K false w) (hY:qgf F ds=true→∀w',FilA w' g b { F with pal:=ds,hasP:=true } x t d→Chg (fun k=>k=g) w w'→K true w'):qji (some ⟨g,0,none⟩) x w K:=by
 refine qvl _ _ ?_
 unfold qii
 simp only [onPtr_some]
 refine ⟨by decide,jpO fun J hJ=>?_⟩
 unfold qgf at hN hY
 refine qbj (x:=F.hasP) (h.blk.cells 7 _ rfl) ?_
 refine cO (fun e=>hN (by rw [e];rfl)) fun e1=>?_
 refine qbj (x:=F.hasD) (h.blk.cells 10 _ rfl) ?_
 refine cO (fun e=>hN (by rw [e];simp)) fun e2=>?_
 refine lI (x:=F.h.Color) (by rw [add_zero];exact h.blk.cells 3 _ rfl) ?_
 refine cO (fun e=>hN (by rw [eq_of_beq e];simp)) fun e3=>?_
 have e3:F.h.Color≠0:=by simpa using e3
 refine lI (x:=F.h.Color) (by rw [add_zero];exact h.blk.cells 3 _ rfl) ?_
 refine cO (fun e=>hN (by rw [eq_of_beq e];simp)) fun e4=>⟨by decide,?_⟩
 have e4:F.h.Color≠4:=by simpa using e4
 rw [hx.n,show (3:Int)=((3:Nat):Int) from rfl,←Int.ofNat_tmod,←Int.ofNat_tdiv,w64i (x:=((ds.length/3:Nat):Int)) (by omega)]
 refine cO (fun e=>hN ?_) fun e5=>?_
 ·have e:ds.length%3≠0:=fun h=>by rw [h] at e;cases e
  rw [decide_eq_true e];simp
 have e5:ds.length%3=0:=by
  rcases Nat.eq_zero_or_pos (ds.length%3) with h | h
  ·exact h
  ·rw [qbk (by omega)] at e5;cases e5
 refine cO (fun e=>hN ?_) fun e6=>?_
 ·have e:=of_decide_eq_true e
  rw [decide_eq_true (show ds.length/3<1 by omega)];simp
 have e6:=of_decide_eq_false e6
 refine cO (fun e=>hN ?_) fun e7=>?_
 ·have e:=of_decide_eq_true e
  rw [decide_eq_true (show ds.length/3>256 by omega)];simp
 have e7:=of_decide_eq_false e7
 have hgo:(F.h.Color=3→¬ds.length/3>2^F.h.Depth.toNat)→J () w:=by
  intro e8
  have hall:(!(F.hasP || F.hasD || decide (F.h.Color=0) || decide (F.h.Color=4) || decide (ds.length%3≠0) || decide (ds.length/3<1) || decide (ds.length/3>256) || (decide (F.h.Color=3) && decide (ds.length/3>2^F.h.Depth.toNat))))=true:=by
   rw [e1,e2,decide_eq_false e3,decide_eq_false e4,decide_eq_false (show ¬ds.length%3≠0 by omega),decide_eq_false (show ¬ds.length/3<1 by omega),decide_eq_false (show ¬ds.length/3>256 by omega)]
   by_cases e:F.h.Color=3
   ·rw [decide_eq_false (e8 e)];simp
   ·rw [decide_eq_false e];simp
  refine hJ _ _ ?_
  rw [qag]
  refine qaf h.blk (by simp [qik,T_png_file.rep]) fun w2 hb2 hg2 hs2=>?_
  rw [qag]
  refine qaf hb2 (by simp [qik,T_png_file.rep,putL]) fun w3 hb3 hg3 hs3=>?_
  have hc3:Chg (fun k=>k=g) w w3:=(Chg.gg hg2).trans (Chg.gg hg3) fun i _ hi=>hi
  refine hY hall w3 ⟨hb3,hx.chg hc3 fun a ha e=>?_,h.tr.chg hc3 fun a ha e=>?_,h.data.chg hc3 fun k hk e=>qae h.data h.blk (by decide) k hk e,hxb,h.tb⟩ hc3
  ·have:=hxb a.block (slk.2 ⟨a,ha,rfl⟩);omega
  ·have:=h.tb a.block (slk.2 ⟨a,ha,rfl⟩);omega
 refine lI (x:=F.h.Color) (by rw [add_zero];exact h.blk.cells 3 _ rfl) ?_
 refine cO (fun e=>?_) fun e=>?_
 ·have e:F.h.Color=3:=eq_of_beq e
  refine lI (x:=F.h.Depth) (by rw [add_zero];exact h.blk.cells 2 _ rfl) ⟨by have:=hc.d;omega,?_⟩
  have hsh:IntKind.i64.wrap ((1:Int)*2^(min F.h.Depth.toNat IntKind.i64.bits))=((2^F.h.Depth.toNat:Nat):Int):=by
   rcases hc.d with h | h | h | h | h<;>rw [h]<;>decide
  rw [hsh]
  refine cO (fun e8=>hN ?_) fun e8=>hgo fun _=>?_
  ·have e8:=of_decide_eq_true e8
   rw [decide_eq_true e,decide_eq_true (show ds.length/3>2^F.h.Depth.toNat from by exact_mod_cast e8)];simp
  ·have e8:=of_decide_eq_false e8
   intro h9
   exact e8 (by exact_mod_cast h9)
 ·have e:F.h.Color≠3:=by simpa using e
  exact hgo fun h=>absurd h e
theorem zhv (h:FilA w g b F p t d) (hc:ColOk F.h) {x:Slc} {ds:List UInt8} (hx:Rd qaa w x ds) (hxb:∀k,x.blk=some k→k<b) (hbg:b≤g) (hl:ds.length≤1000000000) (hpl:F.pal.length≤1000000000) {K:Bool→World→Prop}
  (hN:qgi F ds=false→K false w) (hY:qgi F ds=true→∀w',FilA w' g b { F with tr:=ds,hasT:=true } p x d→Chg (fun k=>k=g) w w'→K true w'):qks (some ⟨g,0,none⟩) x w K:=by
 refine qwo _ _ ?_
 unfold qj2
 simp only [onPtr_some]
 refine jpO fun J1 hJ1=>?_
 unfold qgi at hN hY
 have key:∀ok:Bool,ok=(if F.h.Color=0 then decide (ds.length=2) else if F.h.Color=2 then decide (ds.length=6) else if F.h.Color=3 then F.hasP && decide (ds.length≤F.pal.length/3) else false)→J1 (ok,()) w:=by
  intro ok hok
  rw [←hok] at hN hY
  refine hJ1 _ _ (jpO fun J2 hJ2=>?_)
  refine cO (fun e=>hN ?_) fun e1=>?_
  ·have:ok=false:=by simpa using e
   rw [this];simp
  have e1:ok=true:=by simpa using e1
  refine qbj (x:=F.hasT) (h.blk.cells 8 _ rfl) (cO (fun e=>hN (by rw [e];simp)) fun e2=>?_)
  refine qbj (x:=F.hasD) (h.blk.cells 10 _ rfl) (cO (fun e=>hN (by rw [e];simp)) fun e3=>?_)
  refine hJ2 _ _ ?_
  rw [qag]
  refine qaf h.blk (by simp [qik,T_png_file.rep]) fun w2 hb2 hg2 hs2=>?_
  rw [qag]
  refine qaf hb2 (by simp [qik,T_png_file.rep,putL]) fun w3 hb3 hg3 hs3=>?_
  have hc3:Chg (fun k=>k=g) w w3:=(Chg.gg hg2).trans (Chg.gg hg3) fun i _ hi=>hi
  refine hY (by rw [e1,e2,e3];rfl) w3 ⟨hb3,h.pal.chg hc3 fun a ha e=>?_,hx.chg hc3 fun a ha e=>?_,h.data.chg hc3 fun k hk e=>qae h.data h.blk (by decide) k hk e,h.pb,hxb⟩ hc3
  ·have:=h.pb a.block (slk.2 ⟨a,ha,rfl⟩);omega
  ·have:=hxb a.block (slk.2 ⟨a,ha,rfl⟩);omega
 have hnn:∀m:Nat,((((ds.length:Nat):Int))==(m:Int))=decide (ds.length=m):=fun m=>by rw [Bool.eq_iff_iff];simp;omega
 refine lI (x:=F.h.Color) (by rw [add_zero];exact h.blk.cells 3 _ rfl) ?_
 rw [hx.n]
 refine cO (fun e=>?_) fun e0=>?_
 ·refine key _ ?_
  rw [if_pos (eq_of_beq e)]
  exact hnn 2
 have e0:F.h.Color≠0:=by simpa using e0
 refine cO (fun e=>?_) fun e2=>?_
 ·refine key _ ?_
  rw [if_neg e0,if_pos (eq_of_beq e)]
  exact hnn 6
 have e2:F.h.Color≠2:=by simpa using e2
 refine cO (fun e=>?_) fun e3=>?_
 ·have e3:F.h.Color=3:=eq_of_beq e
  refine qbj (x:=F.hasP) (h.blk.cells 7 _ rfl) (cO (fun e=>?_) fun e=>?_)
  ·refine lSl (x:=p) (h.blk.cells 5 _ rfl) ⟨by decide,key _ ?_⟩
   rw [if_neg e0,if_neg e2,if_pos e3,e,h.pal.n,show (3:Int)=((3:Nat):Int) from rfl,←Int.ofNat_tdiv,w64i (x:=((F.pal.length/3:Nat):Int)) (by omega),Bool.true_and]
   rw [decide_eq_decide]
   omega
  ·refine key _ ?_
   rw [if_neg e0,if_neg e2,if_pos e3,e]
   rfl
 ·have e3:F.h.Color≠3:=by simpa using e3
  refine key _ ?_
  rw [if_neg e0,if_neg e2,if_neg e3]
theorem qqr (k l:List UInt8):((strB k).toList==(strB l).toList)=decide (k=l):=by
 rw [qct,qct,Bool.eq_iff_iff]
 simp
theorem FilA.setW (h:FilA w g b F p t d) (v:Bool) {w':World} (hb:Blk w' g qkb (qik { F with wasD:=v } p t d)) (hc:Chg (fun k=>k=g) w w') (hbg:b≤g):FilA w' g b { F with wasD:=v } p t d :=
 ⟨hb,h.pal.chg hc fun a ha e=>by have:=h.pb a.block (slk.2 ⟨a,ha,rfl⟩);omega,h.tr.chg hc fun a ha e=>by have:=h.tb a.block (slk.2 ⟨a,ha,rfl⟩);omega,h.data.chg hc fun k hk e=>qae h.data h.blk (by decide) k hk e,h.pb,h.tb⟩
theorem zg4 (h:FilA w g b F p t d) (hc:ColOk F.h) {x:T_png_Chunk} {c:ChL} (hx:ChA w x c) (hxb:∀k,x.Data.blk=some k→k<b) (hbg:b≤g) (hk4:c.kind.length=4) (hl:c.data.length≤1000000) (hpl:F.pal.length≤1000000) (hdl:F.data.length≤1000000000) {K:Int→World→Prop}
  (hN:∀w',(takeP F c).1≠0→Below b w w'→K ((takeP F c).1:Nat) w') (hY:(takeP F c).1=0→∀p' t' d' w',FilA w' g b (takeP F c).2 p' t' d'→Below b w w'→K 0 w'):qls (some ⟨g,0,none⟩) x w K:=by
 refine q0g _ _ ?_
 unfold qk8
 simp only [onPtr_some]
 have hgl:=h.blk.lt
 refine nwb fun w1 h1 hB1 hs1=>?_
 have hf1:=h.ext hB1
 refine qbj (x:=F.wasD) (hf1.blk.cells 11 _ rfl) ?_
 refine qf1 (x:=x.Kind) (h1.cells 0 _ rfl) ?_
 rw [hx.kind,show (⟨#[73,68,65,84]⟩:ByteArray)=strB idatL from rfl,show (⟨#[73,72,68,82]⟩:ByteArray)=strB ihdrL from rfl,show (⟨#[80,76,84,69]⟩:ByteArray)=strB plteL from rfl,show (⟨#[116,82,78,83]⟩:ByteArray)=strB trnsL from rfl,show (⟨#[73,69,78,68]⟩:ByteArray)=strB iendL from rfl,qqr]
 rw [qag]
 refine qaf hf1.blk (by simp [qik,T_png_file.rep]) fun w2 hb2 hg2 hs2=>?_
 have hc2:Chg (fun k=>k=g) w1 w2:=Chg.gg hg2
 have hf2:FilA w2 g b { F with wasD:=decide (c.kind=idatL) } p t d:=hf1.setW _ hb2 hc2 hbg
 have h12:Blk w2 w.heap.size qcb (T_png_Chunk.rep.cells x):=h1.chg hc2 (by omega)
 have hB2:Below b w w2:=(hB1.mono (by omega)).trans (hc2.below (by have:=hB1.size;omega) fun i hi e=>by omega)
 have hx2:ChA w2 x c:=⟨hx.kind,(hx.data.ext hB1).chg hc2 fun a ha e=>by have:=hxb a.block (slk.2 ⟨a,ha,rfl⟩);omega⟩
 obtain ⟨F2,hF2⟩:∃F2:FilL,F2={ F with wasD:=decide (c.kind=idatL) }:=⟨_,rfl⟩
 rw [←hF2] at hf2
 unfold takeP at hN hY
 refine jpO fun J hJ=>?_
 have hbad:∀w',Below b w w'→(∀w',Below b w w'→K 3 w')→J (false,()) w':=fun w' hB hk=>hJ _ _ (cT rfl (hk w' hB))
 refine qf1 (x:=x.Kind) (h12.cells 0 _ rfl) ?_
 rw [hx.kind]
 simp only [qqr]
 refine cO (fun e=>?_) fun e1=>?_
 ·have e:=of_decide_eq_true e
  rw [if_pos e] at hN
  exact hbad w2 hB2 fun w' hB=>hN w' (show (3:Nat)≠0 by decide) hB
 have e1:=of_decide_eq_false e1
 rw [if_neg e1] at hN hY
 refine cO (fun e=>?_) fun e2=>?_
 ·have e:=of_decide_eq_true e
  rw [if_pos e] at hN hY
  refine lSl (x:=x.Data) (h12.cells 1 _ rfl) ?_
  have hnd:decide (c.kind=idatL)=false:=decide_eq_false (by rw [e];decide)
  have hpo:qgf F2 c.data=qgf F c.data:=by rw [hF2];rfl
  refine zd4 hf2 (by rw [hF2];exact hc) hx2.data hxb hbg (by omega) (fun hp=>?_) (fun hp w3 hf3 hc3=>?_)
  ·rw [hpo] at hp
   rw [hp] at hN
   exact hbad w2 hB2 fun w' hB=>hN w' (show (3:Nat)≠0 by decide) hB
  ·rw [hpo] at hp
   rw [hp] at hY
   refine hJ _ _ (cF rfl (hY rfl x.Data t d w3 ?_ (hB2.trans (hc3.below (by have:=hB2.size;have:=h.blk.lt;omega) fun i hi e=>by omega))))
   rw [hF2,hnd] at hf3
   exact hf3
 have e2:=of_decide_eq_false e2
 rw [if_neg e2] at hN hY
 refine cO (fun e=>?_) fun e3=>?_
 ·have e:=of_decide_eq_true e
  rw [if_pos e] at hN hY
  refine lSl (x:=x.Data) (h12.cells 1 _ rfl) ?_
  have hnd:decide (c.kind=idatL)=false:=decide_eq_false (by rw [e];decide)
  have hpo:qgi F2 c.data=qgi F c.data:=by rw [hF2];rfl
  refine zhv hf2 (by rw [hF2];exact hc) hx2.data hxb hbg (by omega) (by rw [hF2];show F.pal.length≤_;omega) (fun hp=>?_) (fun hp w3 hf3 hc3=>?_)
  ·rw [hpo] at hp
   rw [hp] at hN
   exact hbad w2 hB2 fun w' hB=>hN w' (show (3:Nat)≠0 by decide) hB
  ·rw [hpo] at hp
   rw [hp] at hY
   refine hJ _ _ (cF rfl (hY rfl p x.Data d w3 ?_ (hB2.trans (hc3.below (by have:=hB2.size;have:=h.blk.lt;omega) fun i hi e=>by omega))))
   rw [hF2,hnd] at hf3
   exact hf3
 have e3:=of_decide_eq_false e3
 rw [if_neg e3] at hN hY
 refine cO (fun e=>?_) fun e4=>?_
 ·have e:=of_decide_eq_true e
  rw [if_pos e] at hN hY
  have hnd:decide (c.kind=idatL)=true:=decide_eq_true e
  refine jpO fun J2 hJ2=>?_
  have key:J2 (!F.hasD || F.wasD,()) w2:=by
   refine hJ2 _ _ ?_
   rw [qag]
   refine qaf hf2.blk (by simp [qik,T_png_file.rep]) fun w3 hb3 hg3 hs3=>?_
   have hc3:Chg (fun k=>k=g) w2 w3:=Chg.gg hg3
   have h13:Blk w3 w.heap.size qcb (T_png_Chunk.rep.cells x):=h12.chg hc3 (by omega)
   have hb3:Blk w3 g qkb (qik { F2 with hasD:=true } p t d):=hb3
   have hx3:ChA w3 x c:=⟨hx.kind,hx2.data.chg hc3 fun a ha e=>by have:=hxb a.block (slk.2 ⟨a,ha,rfl⟩);omega⟩
   have hd3:Go.Vc.Own qaa w3 b d F.data:=by
    have:=hf2.data.chg hc3 fun k hk e=>qae hf2.data hf2.blk (by decide) k hk e
    rw [hF2] at this
    exact this
   have hBd:=bdw w3
   refine lSl (x:=d) ((hb3.ext hBd).cells 9 _ rfl) (lSl (x:=x.Data) ((h13.ext hBd).cells 1 _ rfl) ?_)
   have hsz3:w3.drew.heap.size=w3.heap.size:=rfl
   refine apB (hd3.ext hBd) (hx3.data.ext hBd) (by have:=hB2.size;omega) (by omega) fun r w4 hr hg4 hrb=>?_
   have hc4:Chg (fun k=>d.blk=some k) w3 w4:=(Chg.of_ext hBd).trans hg4 fun i _ hi=>hi
   have hdg:∀k,d.blk=some k→k≠g:=qae hd3 hb3 (by decide)
   have hb4:=hb3.chg hc4 fun e=>hdg _ e rfl
   rw [qag]
   refine qaf hb4 (by simp [qik,T_png_file.rep]) fun w5 hb5 hg5 hs5=>?_
   have hc5:Chg (fun k=>k=g) w4 w5:=Chg.gg hg5
   have hb5:Blk w5 g qkb (qik { F2 with hasD:=true,data:=F.data++c.data } p t r):=hb5
   have hrg:∀k,r.blk=some k→k≠g:=qae hr hb4 (by decide)
   have hlow:∀{s:Slc} {l:List UInt8},Rd qaa w2 s l→(∀k,s.blk=some k→k<b)→Rd qaa w5 s l:=fun {s l} hs hsb =>
    ((
     hs.chg hc3 fun a ha e=>by have:=hsb a.block (slk.2 ⟨a,ha,rfl⟩);omega).chg hc4 fun a ha e=>by
     have h1:=hsb a.block (slk.2 ⟨a,ha,rfl⟩)
     have h2:=(hd3.lt _ e).1
     omega).chg hc5 fun a ha e=>by have:=hsb a.block (slk.2 ⟨a,ha,rfl⟩);omega
   have hB5:Below b w w5:=by
    have s2:=hB2.size
    have s3:=hc3.size
    have s4:=hc4.size
    exact ((hB2.trans (hc3.below (by omega) fun i hi e=>by omega)).trans (hc4.below (by omega) fun i hi e=>by have:=(hd3.lt i e).1;omega)).trans (hc5.below (by omega) fun i hi e=>by omega)
   refine hJ _ _ ?_
   cases hok:(!F.hasD || F.wasD) with
   | false =>
    rw [hok] at hN
    exact cT rfl (hN w5 (show (3:Nat)≠0 by decide) hB5)
   | true =>
    rw [hok] at hY
    refine cF rfl (hY rfl p t r w5 ?_ hB5)
    refine ⟨?_,?_,?_,hr.chg hc5 fun k hk e=>hrg k hk e,hf2.pb,hf2.tb⟩
    ·rw [hF2,hnd] at hb5
     exact hb5
    ·have:=hlow hf2.pal hf2.pb
     rw [hF2] at this
     exact this
    ·have:=hlow hf2.tr hf2.tb
     rw [hF2] at this
     exact this
  refine qbj (x:=F.hasD) (by have:=hf2.blk.cells 10 _ rfl;rw [hF2] at this;exact this) ?_
  refine cO (fun e=>?_) fun e=>?_
  ·have e:F.hasD=false:=by simpa using e
   rw [e] at key
   exact key
  ·have e:F.hasD=true:=by simpa using e
   rw [e] at key
   exact key
 have e4:=of_decide_eq_false e4
 rw [if_neg e4] at hN hY
 have hnd:decide (c.kind=idatL)=false:=decide_eq_false e4
 have hf2':FilA w2 g b { F with wasD:=false } p t d:=by rw [hF2,hnd] at hf2;exact hf2
 refine cO (fun e=>?_) fun e5=>?_
 ·have e:=of_decide_eq_true e
  rw [if_pos e] at hN hY
  refine lSl (x:=x.Data) (h12.cells 1 _ rfl) ?_
  rw [hx.data.n]
  by_cases he:c.data=[]
  ·rw [if_pos he] at hN hY
   rw [he]
   exact hJ _ _ (cF rfl (hY rfl p t d w2 hf2' hB2))
  ·rw [if_neg he] at hN
   rw [qkg (by have:=List.length_pos_iff.2 he;omega)]
   exact hbad w2 hB2 fun w' hB=>hN w' (show (3:Nat)≠0 by decide) hB
 have e5:=of_decide_eq_false e5
 rw [if_neg e5] at hN hY
 refine qf1 (x:=x.Kind) (h12.cells 0 _ rfl) ?_
 rw [hx.kind]
 have hsz:(strB c.kind).size=c.kind.length:=by show c.kind.toArray.size=_;simp
 refine ⟨⟨by decide,by rw [hsz,hk4];decide⟩,?_⟩
 have hch:((strB c.kind).data.getD (0:Int).toNat 0).toNat=(c.kind[0]?.getD 0).toNat:=by
  show (c.kind.toArray.getD 0 0).toNat=_
  rw [Array.getD_eq_getD_getElem?]
  simp
 rw [hch]
 by_cases h90:(c.kind[0]?.getD 0).toNat≤90
 ·rw [if_pos h90] at hN
  exact cT (decide_eq_true (by omega)) (hN w2 (show (8:Nat)≠0 by decide) hB2)
 ·rw [if_neg h90] at hN hY
  exact cF (decide_eq_false (by omega)) (hJ _ _ (cF rfl (hY rfl p t d w2 hf2' hB2)))
end
end Go.Proofs.YtmagnpcgpinmcaaGreat
set_option linter.unusedVariables false
namespace Go.Proofs.YtmagnpcgpinmcaaGreat
open Go.Vc Go.RowKit
set_option maxRecDepth 400000
theorem qti (wx samples depth:Int):rowP wx samples depth≤131072:=by
 unfold rowP
 split
 ·omega
 ·rename_i h
  simp only [not_or] at h
  obtain ⟨h1,h2,h3,h4,h5⟩:=h
  have hd:qbo depth=true:=by cases e:qbo depth with | true=>rfl | false=>exact absurd e h5
  have hdp:1≤depth∧depth≤16:=by
   unfold qbo at hd
   simp at hd
   omega
  have a1:0≤wx*samples:=Int.mul_nonneg (by omega) (by omega)
  have a2:wx*samples≤16384*4:=Int.mul_le_mul (by omega) (by omega) (by omega) (by omega)
  have a4:wx*samples*depth≤16384*4*16:=Int.mul_le_mul a2 (by omega) (by omega) (by omega)
  omega
def needL (h:T_png_Head) (L:List (PassP×Nat×Nat)):Nat:=(L.map fun r=>1+rowB h r.2.2).sum
theorem q3k (h:T_png_Head):∀L:List (PassP×Nat×Nat),needL h L≤L.length*200000
 | []=>by simp [needL]
 | r::l=>by
  have:=q3k h l
  have h2:rowB h r.2.2≤131072:=qti _ _ _
  unfold needL at this ⊢
  rw [List.map_cons,List.sum_cons,List.length_cons]
  omega
theorem q5l (h:T_png_Head) (L:List (PassP×Nat×Nat)) (r:PassP×Nat×Nat):needL h (L++[r])=needL h L+(1+rowB h r.2.2):=by simp [needL]
theorem q4m (W H:Nat) (hH:H≤16384):∀ps:List PassP,(ps.flatMap (qaj W H)).length≤ps.length*16384
 | []=>by simp
 | p::r=>by
  have:=q4m W H hH r
  have h2:=(qh5 p W H).2
  rw [List.flatMap_cons,List.length_append,qfj,List.length_cons]
  omega
theorem q8d {h:T_png_Head} {W H:Nat} (ho:HeadOk h W H):(rowsL h).length≤7*16384:=by
 unfold rowsL
 rw [ho.wn,ho.hn]
 have h1:=q4m W H ho.h2 (qdh h.Lace)
 have h2:=ql0 h.Lace
 omega
theorem zb7 {w w':World} {S:Nat→Prop} (h:Chg S w w') (hS:∀k,S k→∃t cs,Blk w k t cs∧t≠qbd∧t≠qa9):KeepT w w':=fun k t cs ht hb=>hb.chg h fun e=>by
 obtain ⟨t',cs',hb',h1,h2⟩:=hS k e
 refine hb.ne_t hb' ?_ rfl
 rcases ht with rfl | rfl
 ·exact fun e=>h1 e.symm
 ·exact fun e=>h2 e.symm
section
variable {w:World}
theorem zi9 {h:T_png_Head} {W H:Nat} (ho:HeadOk h W H) {K:Int→World→Prop} (hK:∀w',Below w.heap.size w w'→K ((needP h:Nat):Int) w'):ql7 h w K:=by
 refine qyn _ ?_
 unfold qk5
 refine nwb fun w1 h1 hB1 hs1=>nwb fun w2 h2 hB2 hs2=>?_
 have hB12:=bT hB1 hB2
 refine qav h2 rfl fun w3 h3 hc3 hs3=>?_
 have hB3:=b1o hB12 hc3 (by omega)
 have h13:Blk w3 w.heap.size qa9 _:=(h1.ext hB2).chg hc3 (by omega)
 refine qak (r:=T_png_Head.rep) (x:=h) h13.cells ?_
 refine q8k ho (fun L w4=>Blk w4 w1.heap.size qbh [.int .i64 ((needL h L:Nat):Int)]∧Blk w4 w.heap.size qa9 (T_png_Head.rep.cells h)∧Below w.heap.size w w4) (fun _=>False) ⟨h3,h13,hB3⟩ ?_ ?_ ?_ (fun _ h=>h.elim)
 ·rintro L w4 w5 ⟨a,b,c⟩ hB
  exact ⟨a.ext hB,b.ext hB,bT c hB⟩
 ·rintro L r R w4 hL ⟨a,b,c⟩ hs4 J hJ1 hJ0
  refine qhi (by kernel_rfl) ?_
  have hcall:qoo (passT r.1) (r.2.1:Int) (r.2.2:Int) ⟨w1.heap.size,0,none⟩ ⟨w.heap.size,0,none⟩ w4 J:=by
   refine quh _ _ _ _ _ ?_
   unfold qim
   refine nwb fun w5 h5 hB5 hs5=>?_
   have hBd:=bT hB5 (bdw w5)
   have ad:=a.ext hBd
   have bd:=b.ext hBd
   refine lI (x:=((needL h L:Nat):Int)) (ad.cell 0 rfl) (lI (x:=h.Color) (bd.cells 3 _ rfl) (lI (x:=h.Depth) (bd.cells 2 _ rfl) ?_))
   refine qpw ⟨bd.cells 2 _ rfl,ad.cell 0 rfl,zbn ⟨ad.cell 0 rfl,?_⟩⟩
   have hle:=q3k h L
   have hll:=q8d ho
   rw [hL,List.length_append,List.length_cons] at hll
   have hrl:rowP (r.2.2:Int) (qac h.Color) h.Depth≤131072:=qti _ _ _
   have hrb:rowB h r.2.2=rowP (r.2.2:Int) (qac h.Color) h.Depth:=rfl
   rw [w64i (x:=(1:Int)+((rowP (r.2.2:Int) (qac h.Color) h.Depth:Nat):Int)) (by omega),w64i (by omega)]
   refine qav ad rfl fun w6 h6 hc6 hs6=>?_
   have hne:w.heap.size≠w1.heap.size:=by omega
   refine hJ1 w6 ⟨?_,bd.chg hc6 hne,b1o (bT c hBd) hc6 (by omega)⟩ ?_ (by have:=hBd.size;omega)
   ·rw [q5l,hrb]
    have e:((needL h L:Nat):Int)+((1:Int)+((rowP (r.2.2:Int) (qac h.Color) h.Depth:Nat):Int))=((needL h L+(1+rowP (r.2.2:Int) (qac h.Color) h.Depth):Nat):Int):=by omega
    rw [e] at h6
    exact h6
   ·refine zb7 (S:=fun k=>k=w1.heap.size) ((Chg.of_ext hBd).trans hc6 fun i _ hi=>hi) fun k hk=>⟨qbh,[.int .i64 ((needL h L:Nat):Int)],by rw [hk];exact a,by decide,by decide⟩
  refine Calls.mono hcall ?_
  rintro e w' ⟨r,rfl,hk⟩
  exact ⟨r,rfl,hk⟩
 ·rintro w4 ⟨a,b,c⟩
  exact lI (x:=((needP h:Nat):Int)) (a.cell 0 rfl) (hK w4 c)
theorem zg5 {v n:Nat} {K:Int→World→Prop} (hv:v≤1000000) (hn:1≤n) (hn2:n≤1000000) (hvn:v≤n) (h255:v≤1000) (hK:K ((qx8 v n 255:Nat):Int) w):qjq (v:Int) (n:Int) 255 w K:=by
 refine qvi _ _ _ ?_
 unfold qin
 refine jpO fun J hJ=>?_
 have hj:J () w:=hJ _ _ ⟨by decide,by omega,by
  unfold qx8 at hK
  rw [if_neg (by omega)] at hK
  have hq:(v*255+n/2)/n≤v*255+n/2:=Nat.div_le_self _ _
  rw [w64i (x:=(v:Int)*255) (by omega),show (2:Int)=((2:Nat):Int) from rfl,←Int.ofNat_tdiv,w64i (x:=((n/2:Nat):Int)) (by omega),show (v:Int)*255+((n/2:Nat):Int)=((v*255+n/2:Nat):Int) by omega,w64i (x:=((v*255+n/2:Nat):Int)) (by omega),←Int.ofNat_tdiv]
  generalize (v*255+n/2)/n=q at hK hq ⊢
  rw [w64i (by omega)]
  exact hK⟩
 refine cF (decide_eq_false (by omega)) (cF (decide_eq_false (by omega)) (cF (decide_eq_false (by omega)) (cF (by decide) ?_)))
 refine cO (fun h=>?_) fun h=>hj
 have h:=of_decide_eq_true h
 refine ⟨by omega,cF (decide_eq_false ?_) hj⟩
 rw [show (1073741824:Int)=((1073741824:Nat):Int) from rfl,←Int.ofNat_tdiv]
 have h1:1073741824/v≤1073741824:=Nat.div_le_self _ _
 have h2:255≤1073741824/v:=(Nat.le_div_iff_mul_le (by omega)).2 (by omega)
 generalize 1073741824/v=q at h1 h2 ⊢
 rw [w64i (by omega)]
 omega
theorem qpn (n:Nat):IntKind.u8.wrap (n:Int)=(((UInt8.ofNat n).toNat:Nat):Int):=qdv n
theorem ql2 {h:T_png_Head} {v:Nat} {K:Int→World→Prop} (hc:ColOk h) (hv:v<2^h.Depth.toNat) (hK:∀w',Below w.heap.size w w'→K (((qb4 h.Depth v).toNat:Nat):Int) w'):qcz h (v:Int) w K:=by
 refine qwb _ _ ?_
 unfold qjk
 refine nwb fun w1 h1 hB1 hs1=>?_
 refine lI (x:=h.Depth) (h1.cells 2 _ rfl) ?_
 unfold qb4 at hK
 refine cO (fun e=>?_) fun e8=>?_
 ·rw [if_pos (eq_of_beq e)] at hK
  rw [qpn]
  exact hK w1 hB1
 have e8:h.Depth≠8:=by simpa using e8
 rw [if_neg e8] at hK
 refine cO (fun e=>⟨by decide,?_⟩) fun e16=>?_
 ·rw [if_pos (eq_of_beq e)] at hK
  rw [show min ((8:Int)).toNat IntKind.i64.bits=8 by decide,qbt,qpn]
  exact hK w1 hB1
 have e16:h.Depth≠16:=by simpa using e16
 rw [if_neg e16] at hK
 refine lI (x:=h.Depth) (h1.cells 2 _ rfl) ⟨by have:=hc.d;omega,?_⟩
 have hd:h.Depth=1∨h.Depth=2∨h.Depth=4:=by have:=hc.d;omega
 have hsh:IntKind.i64.wrap ((IntKind.i64.wrap ((1:Int)*2^(min h.Depth.toNat IntKind.i64.bits)))-(1:Int))=((2^h.Depth.toNat-1:Nat):Int):=by
  rcases hd with h | h | h<;>rw [h]<;>decide
 have hp:2≤2^h.Depth.toNat∧2^h.Depth.toNat≤16:=by rcases hd with h | h | h<;>rw [h]<;>decide
 rw [hsh]
 refine zg5 (by omega) (by omega) (by omega) (by omega) (by omega) ?_
 rw [qpn]
 exact hK w1 hB1
def colT (a b c d:UInt8):T_pixel_Color:=⟨(a.toNat:Nat),(b.toNat:Nat),(c.toNat:Nat),(d.toNat:Nat)⟩
theorem zmi {f:FilL} {i:Nat} {d:Nat} (hd:d=1∨d=2∨d=4∨d=8∨d=16) (x y:UInt8) :
  bitsR .and .i64 (bitsR .or .i64 (IntKind.i64.wrap ((IntKind.i64.wrap ((x.toNat:Nat):Int))*2^(min (8:Int).toNat IntKind.i64.bits))) (IntKind.i64.wrap ((y.toNat:Nat):Int))) (IntKind.i64.wrap ((IntKind.i64.wrap ((1:Int)*2^(min ((d:Nat):Int).toNat IntKind.i64.bits)))-(1:Int)))=(((x.toNat*256+y.toNat)%2^d:Nat):Int):=by
 have hx:=x.toNat_lt
 have hy:=y.toNat_lt
 rw [w8,w8,show min ((8:Int)).toNat IntKind.i64.bits=8 by decide,qau,qad .i64 (x:=x.toNat*2^8) (by show _<2^63;omega),qco .i64 (by show _<2^63;omega) (by show _<2^63;omega)]
 have e:x.toNat*2^8 ||| y.toNat=x.toNat*256+y.toNat:=by
  rw [Nat.or_comm,Nat.mul_comm,qew (by omega)]
  omega
 have hsh:IntKind.i64.wrap ((IntKind.i64.wrap ((1:Int)*2^(min ((d:Nat):Int).toNat IntKind.i64.bits)))-(1:Int))=((2^d-1:Nat):Int):=by
  rcases hd with rfl | rfl | rfl | rfl | rfl<;>decide
 have hp:2^d≤65536:=by rcases hd with rfl | rfl | rfl | rfl | rfl<;>decide
 rw [e,hsh,qdd .i64 (by show _<2^63;omega) (by show _<2^63;omega),Nat.and_two_pow_sub_one_eq_mod]
theorem qsd (F:FilL) (ss:List Nat) (i:Nat):qgj F ss (i+1)=(qgj F ss i && decide (ss[i]?.getD 0=((F.tr[2*i]?.getD 0).toNat*256+(F.tr[2*i+1]?.getD 0).toNat)%2^F.h.Depth.toNat)):=by
 unfold qgj
 rw [List.range_succ,List.all_append]
 simp
theorem zbu {F:FilL} {ss:List Nat} {i n:Nat} (h:qgj F ss i=false) (hin:i≤n):qgj F ss n=false:=by
 unfold qgj at h ⊢
 rw [List.all_eq_false] at h ⊢
 obtain ⟨x,hx,hh⟩:=h
 exact ⟨x,List.mem_range.2 (by have:=List.mem_range.1 hx;omega),hh⟩
theorem FilA.head {g b:Nat} {F:FilL} {p t d:Slc} (h:FilA w g b F p t d):qbe w ⟨g,0,none⟩ (T_png_Head.rep.cells F.h):=by
 have:qbe w ((⟨g,0,none⟩:Addr).add 0) (T_png_Head.rep.cells F.h):=h.blk.cells.sub 0 (by rintro j v hj;rw [Nat.zero_add];match j,hj with
     | 0,hj=>exact hj
     | 1,hj=>exact hj
     | 2,hj=>exact hj
     | 3,hj=>exact hj
     | 4,hj=>exact hj
     | j+5,hj=>simp [T_png_Head.rep] at hj)
 rwa [add_zero] at this
theorem q4t {g b:Nat} {F:FilL} {p t d:Slc} (h:FilA w g b F p t d) (ho:FilOk F) {s:Slc} {ss:List Nat} (hs:Rd E_int w s (intsN ss)) (hsl:ss.length=qac F.h.Color) (hsv:∀v∈ss,v<2^F.h.Depth.toNat) (hpl:F.pal.length≤1000000) (htl:F.tr.length≤1000000) {K:T_pixel_Color→Bool→World→Prop}
  (hN:∀x w',qcq F ss=none→Below w.heap.size w w'→K x false w') (hY:∀a b c d w',qcq F ss=some [a,b,c,d]→Below w.heap.size w w'→K (colT a b c d) true w'):qdr (some ⟨g,0,none⟩) s w K:=by
 obtain ⟨_,hc⟩:=qfr ho.hd
 refine qwj _ _ ?_
 unfold qjm
 simp only [onPtr_some]
 refine nwb fun w1 h1 hB1 hs1=>nwb fun w2 h2 hB2 hs2=>?_
 have hB12:=bT hB1 hB2
 refine qav h2 rfl fun w3 h3 hc3 hs3=>?_
 have hB3:=b1o hB12 hc3 (by omega)
 have h13:Blk w3 w.heap.size qam _:=(h1.ext hB2).chg hc3 (by omega)
 have h3:Blk w3 w1.heap.size qam (qah [0,0,0,255]):=h3
 have hss:∀i,i<ss.length→∃v,ss[i]?=some v∧v<2^F.h.Depth.toNat:=fun i hi=>⟨ss[i],List.getElem?_eq_getElem hi,hsv _ (List.getElem_mem hi)⟩
 have hsn:=hs.n
 rw [qeq] at hsn
 have scell:∀{w':World} {i v:Nat},Below w.heap.size w w'→ss[i]?=some v→w'.cell? (s.at_ 1 i)=some (.int .i64 (v:Int)):=fun {w' i v} hB hv=>by
  have:=(hs.ext hB).at_ i (v:Int) (by rw [qul,hv];rfl) 0 _ rfl
  have h2:w'.cell? (s.at_ E_int.k i)=some (.int .i64 (v:Int)):=by simpa using this
  exact h2
 have six:∀{w':World} {i:Nat} {K:Addr→Prop},i<ss.length→K (s.at_ 1 i)→ixK s (i:Int) 1 K:=fun {w' i K} hi hk=>hs.ix (i:=(i:Int)) rfl (by omega) (by rw [qeq];omega) fun _=>hk
 have hsmp1:1≤ss.length:=by
  rw [hsl]
  unfold qac
  rcases hc.c with e | e | e | e | e<;>rw [e]<;>decide
 have hs4:ss.length≤4:=by
  rw [hsl]
  unfold qac
  rcases hc.c with e | e | e | e | e<;>rw [e]<;>decide
 obtain ⟨v0,hv0,hv0l⟩:=hss 0 (by omega)
 have told:∀(a b' c d':UInt8) w',Blk w' w1.heap.size qam (qah [a,b',c,d'])→Blk w' w.heap.size qam (qah [0,0,0,0])→Below w.heap.size w w'→qcq F ss=some [a,b',c,d'] →
   ldS T_pixel_Color.rep ⟨w1.heap.size,0,none⟩ w' fun t175=>stK ⟨w.heap.size,0,none⟩ (T_pixel_Color.rep.cells t175) w' fun w9=>ldS T_pixel_Color.rep ⟨w.heap.size,0,none⟩ w9 fun r=>K r true w9:=by
  intro a b' c d' w' hb ht hB hcol
  refine qak (r:=T_pixel_Color.rep) (x:=colT a b' c d') hb.cells ?_
  exact qa5 (r:=T_pixel_Color.rep) (x:=colT a b' c d') ht rfl rfl fun w9 hc9 _=>hY a b' c d' w9 hcol (b1o hB hc9 (Nat.le_refl _))
 refine jpO fun J1 hJ1=>?_
 have base:∀(a b' c:UInt8) w4,F.h.Color≠3→Blk w4 w1.heap.size qam (qah [a,b',c,255])→Blk w4 w.heap.size qam (qah [0,0,0,0])→Below w.heap.size w w4 →
   (∀al:UInt8,al=(if F.hasT && qgj F ss ss.length then 0 else if F.h.Color=4∨F.h.Color=6 then qb4 F.h.Depth (ss[ss.length-1]?.getD 0) else 255)→qcq F ss=some [a,b',c,al])→J1 () w4:=by
  intro a b' c w4 hn3 hb4 ht4 hB4 hcol
  refine hJ1 _ _ (jpO fun J2 hJ2=>?_)
  have tail:∀(al:UInt8) w5,Blk w5 w1.heap.size qam (qah [a,b',c,al])→Blk w5 w.heap.size qam (qah [0,0,0,0])→Below w.heap.size w w5→al=(if F.h.Color=4∨F.h.Color=6 then qb4 F.h.Depth (ss[ss.length-1]?.getD 0) else 255)→J2 () w5:=by
   intro al w5 hb5 ht5 hB5 hal
   refine hJ2 _ _ ?_
   have hf5:=h.ext hB5
   refine qbj (x:=F.hasT) (hf5.blk.cells 8 _ rfl) ?_
   refine lpR (fun (st:Bool×Int×Unit) w6=>∃i:Nat,st.2.1=i∧i≤ss.length∧st.1=(F.hasT && qgj F ss i)∧Blk w6 w1.heap.size qam (qah [a,b',c,al])∧Blk w6 w.heap.size qam (qah [0,0,0,0])∧Below w.heap.size w w6) (fun st=>ss.length-st.2.1.toNat)
    ⟨0,rfl,by omega,by rw [show qgj F ss 0=true from rfl,Bool.and_true],hb5,ht5,hB5⟩ ?_
   rintro ⟨sm,i,u⟩ w6 ⟨i,rfl,hi,hsm,hb6,ht6,hB6⟩ I hI
   dsimp only at hsm ⊢
   have hend:(F.hasT && qgj F ss ss.length)=sm→cond sm
       (ixA (⟨w1.heap.size,0,none⟩:Addr) 4 3 1 fun t174=>stK t174 [(.int .u8 0)] w6 fun w8=>ldS T_pixel_Color.rep (⟨w1.heap.size,0,none⟩:Addr) w8 fun t175=>stK (⟨w.heap.size,0,none⟩:Addr) (T_pixel_Color.rep.cells t175) w8 fun w9=>ldS T_pixel_Color.rep (⟨w.heap.size,0,none⟩:Addr) w9 fun r=>K r true w9)
       (ldS T_pixel_Color.rep (⟨w1.heap.size,0,none⟩:Addr) w6 fun t175_1=>stK (⟨w.heap.size,0,none⟩:Addr) (T_pixel_Color.rep.cells t175_1) w6 fun w10=>ldS T_pixel_Color.rep (⟨w.heap.size,0,none⟩:Addr) w10 fun r_1=>K r_1 true w10):=by
    intro hes
    cases hsm':sm with
    | true =>
     rw [hsm'] at hes
     refine cT rfl ⟨⟨by decide,by decide⟩,?_⟩
     rw [qag]
     refine qaf hb6 (by simp [qah]) fun w8 hb8 hg8 hs8=>?_
     have hb8:Blk w8 w1.heap.size qam (qah [a,b',c,0]):=hb8
     have hc8:Chg (fun k=>k=w1.heap.size) w6 w8:=Chg.gg hg8
     refine told a b' c 0 w8 hb8 (ht6.chg hc8 (by omega)) (b1o hB6 hc8 (by omega)) (hcol 0 ?_)
     rw [hes,if_pos rfl]
    | false =>
     rw [hsm'] at hes
     refine cF rfl (told a b' c al w6 hb6 ht6 hB6 (hcol al ?_))
     rw [hes,if_neg (by decide)]
     exact hal
   refine jpO fun J4 hJ4=>?_
   rw [hsn]
   refine cO (fun hlt=>?_) fun hge=>?_
   ·have hlt:=of_decide_eq_true hlt
    have hil:i<ss.length:=by omega
    cases hsm':sm with
    | false =>
     rw [hsm'] at hsm
     refine cF rfl ?_
     rw [hsm'] at hend
     refine hend ?_
     cases hT:F.hasT with
     | false=>rfl
     | true =>
      rw [hT,Bool.true_and] at hsm
      rw [Bool.true_and]
      exact zbu hsm.symm (by omega)
    | true =>
     rw [hsm'] at hsm
     have hT:F.hasT=true:=by cases e:F.hasT with | true=>rfl | false=>rw [e] at hsm;cases hsm
     have htr:=ho.tr hT
     refine cT rfl (hJ4 _ _ ?_)
     have hBd:=bT hB6 (bdw w6)
     have hfd:=h.ext hBd
     obtain ⟨v,hv,hvl⟩:=hss i hil
     have htl2:2*i+1<F.tr.length:=by
      rcases htr with ⟨e,e2⟩ | ⟨e,e2⟩ | e
      ·rw [hsl,e] at hil
       have:qac 0=1:=rfl
       omega
      ·rw [hsl,e] at hil
       have:qac 2=3:=rfl
       omega
      ·exact absurd e hn3
     obtain ⟨x,hx,hxs⟩:=qat (xs:=F.tr) (k:=2*i) (by omega)
     obtain ⟨y,hy,hys⟩:=qat (xs:=F.tr) (k:=2*i+1) htl2
     refine six (w':=w6) hil (lI (scell hBd hv) ?_)
     refine lSl (x:=t) (hfd.blk.cells 6 _ rfl) ?_
     have ei:IntKind.i64.wrap ((2:Int)*(i:Int))=((2*i:Nat):Int):=by rw [w64i (by omega)];simp
     have ei1:IntKind.i64.wrap ((((2*i:Nat)):Int)+(1:Int))=((2*i+1:Nat):Int):=by rw [w64i (by omega)];rfl
     rw [ei,ei1]
     refine hfd.tr.ix (i:=((2*i:Nat):Int)) rfl (by omega) (by omega) fun _=>?_
     refine lI (x:=(x.toNat:Int)) (by rw [Int.toNat_natCast];exact qaw hfd.tr hx) ⟨by decide,?_⟩
     refine lSl (x:=t) (hfd.blk.cells 6 _ rfl) ?_
     refine hfd.tr.ix (i:=((2*i+1:Nat):Int)) rfl (by omega) (by omega) fun _=>?_
     refine lI (x:=(y.toNat:Int)) (by rw [Int.toNat_natCast];exact qaw hfd.tr hy) ?_
     refine lI (x:=F.h.Depth) (by rw [add_zero];exact hfd.blk.cells 2 _ rfl) ⟨by have:=hc.d;omega,?_⟩
     have hdn:F.h.Depth=((F.h.Depth.toNat:Nat):Int):=by have:=hc.d;omega
     have hv2:=zmi (f:=F) (i:=i) (d:=F.h.Depth.toNat) (by have:=hc.d;omega) x y
     rw [←hdn] at hv2
     rw [hv2,w64i (by omega)]
     refine hI _ _ ⟨i+1,rfl,by omega,?_,hb6.ext (bdw w6),ht6.ext (bdw w6),hBd⟩ (by simp;omega)
     dsimp only
     rw [hT,Bool.true_and] at hsm ⊢
     rw [qsd,←hsm,hv,hx,hy,Bool.true_and,Bool.eq_iff_iff]
     simp only [beq_iff_eq,decide_eq_true_eq,Option.getD_some]
     omega
   ·have hge:=of_decide_eq_false hge
    obtain rfl:i=ss.length:=by omega
    exact hend hsm.symm
  refine jpO fun J5 hJ5=>?_
  have al:∀bb:Bool,(bb=true↔F.h.Color=4∨F.h.Color=6)→J5 (bb,()) w4:=by
   intro bb hbb
   refine hJ5 _ _ ?_
   refine cO (fun e=>?_) fun e=>?_
   ·have hBd:=bT hB4 (bdw w4)
    have hfd:=h.ext hBd
    refine qak (r:=T_png_Head.rep) (x:=F.h) (by rw [add_zero];exact hfd.head) ?_
    rw [hsn,w64i (by omega),show ((ss.length:Nat):Int)-1=((ss.length-1:Nat):Int) by omega]
    obtain ⟨v,hv,hvl⟩:=hss (ss.length-1) (by omega)
    refine six (w':=w4) (by omega) (lI (scell hBd hv) ?_)
    refine ql2 hc hvl fun w5 hB5=>⟨⟨by decide,by decide⟩,?_⟩
    rw [qag]
    refine qaf ((hb4.ext (bdw w4)).ext hB5) (by simp [qah]) fun w6 hb6 hg6 hs6=>?_
    have hb6:Blk w6 w1.heap.size qam (qah [a,b',c,qb4 F.h.Depth v]):=hb6
    have hc6:Chg (fun k=>k=w1.heap.size) w5 w6:=Chg.gg hg6
    refine tail (qb4 F.h.Depth v) w6 hb6 (((ht4.ext (bdw w4)).ext hB5).chg hc6 (by omega)) (b1o (bT hBd hB5) hc6 (by omega)) ?_
    rw [if_pos (hbb.1 e),hv]
    rfl
   ·refine tail 255 w4 hb4 ht4 hB4 ?_
    rw [if_neg fun h=>by rw [hbb.2 h] at e;cases e]
  have hf4:=h.ext hB4
  refine lI (x:=F.h.Color) (by rw [add_zero];exact hf4.blk.cells 3 _ rfl) ?_
  refine cO (fun e=>al _ ?_) fun e=>?_
  ·have:=eq_of_beq e;simp [this]
  ·have e:F.h.Color≠4:=by simpa using e
   refine lI (x:=F.h.Color) (by rw [add_zero];exact hf4.blk.cells 3 _ rfl) (al _ ?_)
   simp [e]
 have hf3:=h.ext hB3
 refine lI (x:=F.h.Color) (by rw [add_zero];exact hf3.blk.cells 3 _ rfl) ?_
 have hBd:=bT hB3 (bdw w3)
 have hfd:=h.ext hBd
 have h3d:=h3.ext (bdw w3)
 have h13d:Blk w3.drew w.heap.size qam (qah [0,0,0,0]):=h13.ext (bdw w3)
 refine cO (fun e=>?_) fun e3=>?_
 ·have e:F.h.Color=3:=eq_of_beq e
  have hv16:v0<65536:=Nat.lt_of_lt_of_le hv0l (show 2^F.h.Depth.toNat≤2^16 from Nat.pow_le_pow_right (by decide) (by have:=hc.d;omega))
  refine six (w':=w3) (i:=0) (by omega) (lI (scell hBd hv0) ?_)
  refine lSl (x:=p) (hfd.blk.cells 5 _ rfl) ?_
  have e3v:IntKind.i64.wrap ((3:Int)*(v0:Int))=((3*v0:Nat):Int):=by rw [w64i (by omega)];simp
  rw [e3v,hfd.pal.n]
  have hval:qcq F ss=(if 3*v0≥F.pal.length then none else some [F.pal[3*v0]?.getD 0,F.pal[3*v0+1]?.getD 0,F.pal[3*v0+2]?.getD 0,if v0<F.tr.length then F.tr[v0]?.getD 0 else 255]):=by
   unfold qcq
   rw [hv0]
   dsimp only [Option.getD_some]
   rw [if_pos e]
  refine cO (fun hge=>?_) fun hlt=>?_
  ·have hge:=of_decide_eq_true hge
   rw [if_pos (by omega)] at hval
   refine qak (r:=T_pixel_Color.rep) (x:=colT 0 0 0 255) h3d.cells ?_
   exact qa5 (r:=T_pixel_Color.rep) (x:=colT 0 0 0 255) h13d rfl rfl fun w9 hc9 _=>hN _ w9 hval (b1o hBd hc9 (Nat.le_refl _))
  have hlt:=of_decide_eq_false hlt
  rw [if_neg (by omega)] at hval
  have hp3:=ho.pal
  have hBdd:=bT hBd (bdw _)
  have hfdd:=h.ext hBdd
  have h3dd:=h3d.ext (bdw _)
  have h13dd:=h13d.ext (bdw _)
  refine ⟨⟨by decide,by decide⟩,?_⟩
  refine lSl (x:=p) (hfdd.blk.cells 5 _ rfl) ?_
  refine six (w':=w3) (i:=0) (by omega) (lI (scell hBdd hv0) ?_)
  rw [e3v]
  refine hfdd.pal.slK (l:=3*v0) (m:=F.pal.length) rfl (.inr rfl) (.inl ⟨rfl,rfl⟩) (by omega) (by omega) fun hpp=>?_
  rw [List.take_length] at hpp
  have hmin:(3:Nat)=min ((F.pal.drop (3*v0)).length) 3:=by rw [List.length_drop];omega
  refine copyB (o:=0) (dn:=3) (dc:=4) h3dd hpp hmin (by simp [qah]) fun w18 hb18 hc18 hs18=>?_
  obtain ⟨q0,hq0,_⟩:=qat (xs:=F.pal) (k:=3*v0) (by omega)
  obtain ⟨q1,hq1,_⟩:=qat (xs:=F.pal) (k:=3*v0+1) (by omega)
  obtain ⟨q2,hq2,_⟩:=qat (xs:=F.pal) (k:=3*v0+2) (by omega)
  have htk:(F.pal.drop (3*v0)).take 3=[q0,q1,q2]:=by
   have c0:F.pal.drop (3*v0)=q0::F.pal.drop (3*v0+1):=by
    rw [List.getElem?_eq_getElem (by omega)] at hq0
    rw [←Option.some.inj hq0,←List.drop_eq_getElem_cons]
   have c1:F.pal.drop (3*v0+1)=q1::F.pal.drop (3*v0+2):=by
    rw [List.getElem?_eq_getElem (by omega)] at hq1
    rw [←Option.some.inj hq1,←List.drop_eq_getElem_cons]
   have c2:F.pal.drop (3*v0+2)=q2::F.pal.drop (3*v0+3):=by
    rw [List.getElem?_eq_getElem (by omega)] at hq2
    rw [←Option.some.inj hq2,←List.drop_eq_getElem_cons]
   rw [c0,c1,c2]
   rfl
  rw [htk] at hb18
  have hb18:Blk w18 w1.heap.size qam (qah [q0,q1,q2,255]):=hb18
  have hB18:=b1o hBdd hc18 (by omega)
  have h18:=h13dd.chg hc18 (by omega)
  rw [hq0,hq1,hq2] at hval
  have hBd18:=bT hB18 (bdw w18)
  have hf18:=h.ext hBd18
  refine six (w':=w3) (i:=0) (by omega) (lI (scell hBd18 hv0) ?_)
  refine lSl (x:=t) (hf18.blk.cells 6 _ rfl) ?_
  rw [hf18.tr.n]
  refine cO (fun ht=>?_) fun ht=>?_
  ·have ht:=of_decide_eq_true ht
   rw [if_pos (by omega)] at hval
   have hBdd18:=bT hBd18 (bdw _)
   have hff:=h.ext hBdd18
   refine lSl (x:=t) (hff.blk.cells 6 _ rfl) ?_
   refine six (w':=w3) (i:=0) (by omega) (lI (scell hBdd18 hv0) ?_)
   obtain ⟨y,hy,_⟩:=qat (xs:=F.tr) (k:=v0) (by omega)
   refine hff.tr.ix (i:=(v0:Int)) rfl (by omega) (by omega) fun _=>?_
   refine lI (x:=(y.toNat:Int)) (by rw [Int.toNat_natCast];exact qaw hff.tr hy) ⟨⟨by decide,by decide⟩,?_⟩
   rw [qag]
   refine qaf ((hb18.ext (bdw _)).ext (bdw _)) (by simp [qah]) fun w19 hb19 hg19 hs19=>?_
   have hb19:Blk w19 w1.heap.size qam (qah [q0,q1,q2,y]):=hb19
   have hc19:Chg (fun k=>k=w1.heap.size) w18.drew.drew w19:=Chg.gg hg19
   rw [hy] at hval
   exact told q0 q1 q2 y w19 hb19 (((h18.ext (bdw _)).ext (bdw _)).chg hc19 (by omega)) (b1o hBdd18 hc19 (by omega)) hval
  ·have ht:=of_decide_eq_false ht
   rw [if_neg (by omega)] at hval
   exact told q0 q1 q2 255 w18.drew (hb18.ext (bdw _)) (h18.ext (bdw _)) hBd18 hval
 have e3:F.h.Color≠3:=by simpa using e3
 have hcells:∀{w':World},Below w.heap.size w w'→qbe w' ⟨g,0,none⟩ (T_png_Head.rep.cells F.h):=fun hB=>(h.ext hB).head
 refine jpO fun J6 hJ6=>?_
 have key:∀bb:Bool,(bb=true↔F.h.Color=0∨F.h.Color=4)→J6 (bb,()) w3:=by
  intro bb hbb
  refine hJ6 _ _ (cO (fun e=>?_) fun e=>?_)
  ·refine qak (r:=T_png_Head.rep) (x:=F.h) (by rw [add_zero];exact hcells hBd) ?_
   refine six (w':=w3) (i:=0) (by omega) (lI (scell hBd hv0) ?_)
   refine ql2 hc hv0l fun w23 hB23=>?_
   refine qav (h3d.ext hB23) rfl fun w24 h24 hc24 hs24=>?_
   have h24:Blk w24 w1.heap.size qam (qah [qb4 F.h.Depth v0,qb4 F.h.Depth v0,qb4 F.h.Depth v0,255]):=h24
   refine base _ _ _ w24 e3 h24 ((h13d.ext hB23).chg hc24 (by omega)) (b1o (bT hBd hB23) hc24 (by omega)) fun al hal=>?_
   unfold qcq
   dsimp only
   rw [if_neg e3,if_pos (hbb.1 e),hal,hv0]
   rfl
  ·have hn:¬(F.h.Color=0∨F.h.Color=4):=fun h=>by rw [hbb.2 h] at e;cases e
   have h3l:3≤ss.length:=by
    rw [hsl]
    rcases hc.c with e | e | e | e | e
    ·exact absurd (.inl e) hn
    ·rw [e];decide
    ·exact absurd e e3
    ·exact absurd (.inr e) hn
    ·rw [e];decide
   obtain ⟨v1,hv1,hv1l⟩:=hss 1 (by omega)
   obtain ⟨v2,hv2,hv2l⟩:=hss 2 (by omega)
   refine qak (r:=T_png_Head.rep) (x:=F.h) (by rw [add_zero];exact hcells hBd) ?_
   refine six (w':=w3) (i:=0) (by omega) (lI (scell hBd hv0) ?_)
   refine qak (r:=T_png_Head.rep) (x:=F.h) (by rw [add_zero];exact hcells hBd) ?_
   refine six (w':=w3) (i:=1) (by omega) (lI (scell hBd hv1) ?_)
   refine qak (r:=T_png_Head.rep) (x:=F.h) (by rw [add_zero];exact hcells hBd) ?_
   refine six (w':=w3) (i:=2) (by omega) (lI (scell hBd hv2) ?_)
   refine ql2 hc hv0l fun w25 hB25=>?_
   have hB25':=bT hBd hB25
   refine ⟨scell hB25' hv2,by rw [add_zero];exact hcells hB25',scell hB25' hv1,by rw [add_zero];exact hcells hB25',?_⟩
   refine ql2 hc hv1l fun w26 hB26=>?_
   have hB26':=bT hB25' hB26
   refine ⟨scell hB26' hv2,by rw [add_zero];exact hcells hB26',?_⟩
   refine ql2 hc hv2l fun w27 hB27=>?_
   refine qav (((h3d.ext hB25).ext hB26).ext hB27) rfl fun w28 h28 hc28 hs28=>?_
   have h28:Blk w28 w1.heap.size qam (qah [qb4 F.h.Depth v0,qb4 F.h.Depth v1,qb4 F.h.Depth v2,255]):=h28
   refine base _ _ _ w28 e3 h28 ((((h13d.ext hB25).ext hB26).ext hB27).chg hc28 (by omega)) (b1o (bT hB26' hB27) hc28 (by omega)) fun al hal=>?_
   unfold qcq
   dsimp only
   rw [if_neg e3,if_neg hn,hal,hv0,hv1,hv2]
   rfl
 refine cO (fun e=>key _ ?_) fun e=>key _ ?_
 ·have:=eq_of_beq e;simp [this]
 ·have e:F.h.Color≠0:=by simpa using e
  simp [e]
end
end Go.Proofs.YtmagnpcgpinmcaaGreat
set_option linter.unusedVariables false
namespace Go.Proofs.YtmagnpcgpinmcaaGreat
open Go.Vc
set_option maxRecDepth 400000
theorem qoc {α β:Type} (f:α→List β):∀(ps:List α) (L R:List β) (r:β),ps.flatMap f=L++r::R→∃(ps1:List α) (p:α) (ps2:List α) (A B:List β),ps=ps1++p::ps2∧f p=A++r::B∧L=ps1.flatMap f++A
 | [],L,R,r,h=>by simp at h
 | p::ps,L,R,r,h=>by
  rw [List.flatMap_cons] at h
  rcases List.append_eq_append_iff.1 h with ⟨a',e1,e2⟩ | ⟨c',e1,e2⟩
  ·obtain ⟨ps1,q,ps2,A,B,h1,h2,h3⟩:=qoc f ps a' R r e2
   exact ⟨p::ps1,q,ps2,A,B,by rw [h1];rfl,h2,by rw [e1,h3,List.flatMap_cons,List.append_assoc]⟩
  ·cases c' with
   | nil =>
    obtain ⟨ps1,q,ps2,A,B,h1,h2,h3⟩:=qoc f ps [] R r (by simpa using e2.symm)
    refine ⟨p::ps1,q,ps2,A,B,by rw [h1];rfl,h2,?_⟩
    rw [List.append_nil] at e1
    rw [←e1,List.flatMap_cons,List.append_assoc,←h3,List.append_nil]
   | cons x c' =>
    injection e2 with e2 e3
    subst e2
    exact ⟨[],p,ps,L,c',rfl,e1,rfl⟩
structure RowAt (h:T_png_Head) (W H:Nat) (L:List (PassP×Nat×Nat)) (r:PassP×Nat×Nat):Prop where
 mem:r.1∈qdh h.Lace
 w:r.2.2=(sizeP r.1 W H).1
 y:r.2.1<(sizeP r.1 W H).2
 last:r.2.1=0∨∃L',L=L'++[(r.1,r.2.1-1,r.2.2)]
theorem q27 {h:T_png_Head} {W H:Nat} (ho:HeadOk h W H) {L R:List (PassP×Nat×Nat)} {r:PassP×Nat×Nat} (hL:rowsL h=L++r::R):RowAt h W H L r:=by
 unfold rowsL at hL
 rw [ho.wn,ho.hn] at hL
 obtain ⟨ps1,p,ps2,A,B,h1,h2,h3⟩:=qoc _ _ _ _ _ hL
 have hAl:A.length<(sizeP p W H).2:=by
  rw [←qfj W H p,h2,List.length_append,List.length_cons]
  omega
 have hr:r=(p,A.length,(sizeP p W H).1):=by
  have e:=qqe W H p hAl
  rw [h2] at e
  have hl1:A.length=((A++r::B).take A.length).length:=by simp
  have:=(List.append_inj e hl1).2
  injection this
 refine ⟨by rw [hr,h1];simp,by rw [hr],by rw [hr];exact hAl,?_⟩
 rw [hr]
 by_cases h0:A.length=0
 ·exact .inl h0
 ·right
  have hA:A=(qaj W H p).take A.length:=by rw [h2];simp
  have e:=qlg W H p (y:=A.length-1) (by omega)
  rw [show A.length-1+1=A.length by omega,←hA] at e
  refine ⟨ps1.flatMap (qaj W H)++(qaj W H p).take (A.length-1),?_⟩
  rw [h3]
  conv=>lhs;rw [e]
  rw [List.append_assoc]
theorem qi8 (F:FilL):∀(a b:List (PassP×Nat×Nat)) (s:PxS),qbn F (a++b) s=match qbn F a s with | none=>none | some s'=>qbn F b s'
 | [],b,s=>rfl
 | r::a,b,s=>by
  rw [List.cons_append,qbn,qbn]
  cases qdt F r s with
  | none=>rfl
  | some s'=>exact qi8 F a b s'
theorem qz9 {F:FilL} {a:List (PassP×Nat×Nat)} {s s' s2:PxS} {r:PassP×Nat×Nat} (h:qbn F a s=some s') (h2:qdt F r s'=some s2):qbn F (a++[r]) s=some s2:=by
 rw [qi8,h]
 simp only [qbn,h2]
theorem qsn {F:FilL} {a b:List (PassP×Nat×Nat)} {s s':PxS} {r:PassP×Nat×Nat} (h:qbn F a s=some s') (h2:qdt F r s'=none):qbn F (a++r::b) s=none:=by
 rw [qi8,h]
 simp only [qbn,h2]
theorem q2l {F:FilL} {p:PassP} {y:Nat} {ss:List Nat} {m:List UInt8} {i n:Nat} (h:qe0 F p y ss i m=none) (hin:i≤n):qe0 F p y ss n m=none:=by
 induction n with
 | zero =>
      have:i=0:=by omega
      subst this;exact h
 | succ n ih =>
  by_cases e:i=n+1
  ·subst e;exact h
  ·rw [qe0,ih (by omega)]
theorem q8g {F:FilL} {r:PassP×Nat×Nat} {s s':PxS} (h:qdt F r s=some s'):s'.b=s.b.drop (1+rowB F.h r.2.2)∧s'.ahead.length=min (rowB F.h r.2.2) (s.b.length-1):=by
 unfold qdt at h
 split at h
 ·cases h
 ·rename_i k b hb
  split at h
  ·cases h
  ·obtain ⟨m,hm,e⟩:=Option.map_eq_some_iff.1 h
   subst e
   rw [hb]
   refine ⟨?_,?_⟩
   ·rw [Nat.add_comm,List.drop_succ_cons]
   ·rw [qgt,List.length_take,List.length_cons]
    simp
theorem qnl {F:FilL}:∀(L:List (PassP×Nat×Nat)) (s s':PxS),qbn F L s=some s'→s'.b=s.b.drop (needL F.h L)
 | [],s,s',h=>by cases h;simp [needL]
 | r::L,s,s',h=>by
  rw [qbn] at h
  cases h1:qdt F r s with
  | none=>rw [h1] at h;cases h
  | some s1 =>
   rw [h1] at h
   have:=qnl L s1 s' h
   rw [this,(q8g h1).1,List.drop_drop]
   rfl
theorem qie (h:T_png_Head) (a b:List (PassP×Nat×Nat)):needL h (a++b)=needL h a+needL h b:=by simp [needL]
theorem q85 {F:FilL} {W H:Nat} (ho:HeadOk F.h W H) {L R:List (PassP×Nat×Nat)} {r:PassP×Nat×Nat} (hL:rowsL F.h=L++r::R) {s0 s:PxS} (hs:qbn F L s0=some s) (hn:needP F.h≤s0.b.length) :
  qc1 r.2.1 s.ahead=[]∨(qc1 r.2.1 s.ahead).length=rowB F.h r.2.2:=by
 unfold qc1
 by_cases h0:r.2.1=0
 ·rw [if_pos h0];exact .inl rfl
 rw [if_neg h0]
 right
 rcases (q27 ho hL).last with h | ⟨L',hL'⟩
 ·exact absurd h h0
 subst hL'
 rw [qi8] at hs
 cases h1:qbn F L' s0 with
 | none=>rw [h1] at hs;cases hs
 | some s1 =>
  rw [h1] at hs
  simp only [qbn] at hs
  cases h2:qdt F (r.1,r.2.1-1,r.2.2) s1 with
  | none=>rw [h2] at hs;cases hs
  | some s2 =>
   rw [h2] at hs
   cases hs
   have e:s.ahead.length=min (rowB F.h r.2.2) (s1.b.length-1):=(q8g h2).2
   have hb:=qnl L' s0 s1 h1
   have hneed:needP F.h=needL F.h L'+(1+rowB F.h r.2.2)+needL F.h (r::R):=by
    show needL F.h (rowsL F.h)=_
    rw [hL,qie,qie]
    simp [needL]
   rw [e,hb,List.length_drop]
   omega
theorem q8h {F:FilL} {L R:List (PassP×Nat×Nat)} {r:PassP×Nat×Nat} (hL:rowsL F.h=L++r::R) {s0 s:PxS} (hs:qbn F L s0=some s) (hn:needP F.h≤s0.b.length):1+rowB F.h r.2.2≤s.b.length:=by
 have hb:=qnl L s0 s hs
 have hneed:needP F.h=needL F.h L+(1+rowB F.h r.2.2)+needL F.h R:=by
  show needL F.h (rowsL F.h)=_
  rw [hL,qie]
  simp [needL]
  omega
 rw [hb,List.length_drop]
 omega
theorem qvh {W H:Nat} {p:PassP} {y x:Nat} (hx:x<(sizeP p W H).1) (hy:y<(sizeP p W H).2):pixAt W p y x+4≤4*W*H∧p.x+x*p.dx<W∧p.y+y*p.dy<H:=by
 unfold sizeP at hx hy
 split at hx
 ·exact absurd hx (by simp)
 ·rename_i hn
  rw [if_neg hn] at hy
  dsimp only at hx hy
  have h1:x*p.dx≤W-p.x-1:=by
   have:x≤(W-p.x-1)/p.dx:=by omega
   exact Nat.le_trans (Nat.mul_le_mul_right _ this) (Nat.div_mul_le_self _ _)
  have h2:y*p.dy≤H-p.y-1:=by
   have:y≤(H-p.y-1)/p.dy:=by omega
   exact Nat.le_trans (Nat.mul_le_mul_right _ this) (Nat.div_mul_le_self _ _)
  have hX:p.x+x*p.dx<W:=by omega
  have hY:p.y+y*p.dy<H:=by omega
  refine ⟨?_,hX,hY⟩
  unfold pixAt
  have h3:(p.y+y*p.dy+1)*W≤H*W:=Nat.mul_le_mul_right _ hY
  rw [Nat.add_mul,Nat.one_mul] at h3
  have h4:4*W*H=4*(H*W):=by rw [Nat.mul_assoc,Nat.mul_comm W H]
  rw [h4]
  generalize (p.y+y*p.dy)*W=Q at h3 ⊢
  generalize H*W=T at h3 ⊢
  generalize x*p.dx=V at hX ⊢
  omega
theorem q5k (row:List UInt8) (d i:Nat):qfk row d i<2^d:=by
 unfold qfk
 split
 ·rename_i h
  subst h
  have h1:=(row[2*i]?.getD 0).toNat_lt
  have h2:=(row[2*i+1]?.getD 0).toNat_lt
  omega
 ·exact Nat.mod_lt _ (Nat.pow_pos (by decide))
theorem q2u {row:List UInt8} {d n:Nat}:∀v∈qcd row d n,v<2^d:=by
 intro v hv
 unfold qcd at hv
 obtain ⟨i,_,rfl⟩:=List.mem_map.1 hv
 exact q5k _ _ _
theorem qrx (row:List UInt8) (d n:Nat):(qcd row d n).length=n:=by simp [qcd]
theorem qcv {h:T_png_Head} (hc:ColOk h):1≤qac h.Color∧qac h.Color≤4:=by
 unfold qac
 rcases hc.c with e | e | e | e | e<;>rw [e]<;>decide
theorem q78 {h:T_png_Head} (hc:ColOk h) {w:Nat} (h1:1≤w) (h2:w≤16384):qac h.Color*w*h.Depth.toNat≤8*rowB h w:=by
 have hs:=qcv hc
 have hd:qbo h.Depth=true:=by
  unfold qbo
  rcases hc.d with e | e | e | e | e<;>rw [e]<;>rfl
 have hdn:h.Depth=(h.Depth.toNat:Int):=by have:=hc.d;omega
 unfold rowB rowP
 rw [if_neg (by rw [hd];simp;omega)]
 have e:(w:Int)*(qac h.Color:Int)*h.Depth=((qac h.Color*w*h.Depth.toNat:Nat):Int):=by
  rw [hdn]
  simp only [Int.toNat_natCast,Int.natCast_mul]
  rw [Int.mul_comm (w:Int)]
 rw [e]
 omega
theorem zar {h:T_png_Head} (hc:ColOk h):1≤qdq h∧qdq h≤8:=by
 have hs:=qcv hc
 have hd:1≤h.Depth.toNat∧h.Depth.toNat≤16:=by have:=hc.d;omega
 unfold qdq
 have h1:1*1≤qac h.Color*h.Depth.toNat:=Nat.mul_le_mul hs.1 hd.1
 have h2:qac h.Color*h.Depth.toNat≤4*16:=Nat.mul_le_mul hs.2 hd.2
 omega
theorem q8r {p:PassP} {W H y:Nat} (hy:y<(sizeP p W H).2):1≤(sizeP p W H).1:=by
 unfold sizeP at hy ⊢
 split
 ·rename_i h;rw [if_pos h] at hy;exact absurd hy (by simp)
 ·exact Nat.le_add_left 1 _
end Go.Proofs.YtmagnpcgpinmcaaGreat
set_option linter.unusedVariables false
namespace Go.Proofs.YtmagnpcgpinmcaaGreat
open Go.Vc Go.RowKit
set_option maxRecDepth 400000
structure PxI (w0:World) (g:Nat) (F:FilL) (W H:Nat) (bn bf ba bb bs bm gm:Nat) (tm:Slc) (S:PxS) (w1:World):Prop where
 n:Blk w1 bn qbh [.int .i64 ((qac F.h.Color:Nat):Int)]
 f:Blk w1 bf qod [.pointer (some ⟨g,0,none⟩)]
 st:Blk w1 bs qbh [.int .i64 ((qdq F.h:Nat):Int)]
 m:Blk w1 bm qal (T_api_Matrix.rep.cells ⟨W,H,tm⟩)
 ah:∃sa:Slc,Blk w1 ba qab [.slice sa.a sa.n sa.c]∧Go.Vc.Own qaa w1 w0.heap.size sa S.ahead∧(∀k,sa.blk=some k→k≠gm)
 b:∃sb:Slc,Blk w1 bb qab [.slice sb.a sb.n sb.c]∧Rd qaa w0 sb S.b
 row:Go.Vc.Own qaa w1 w0.heap.size tm S.m
 B:Below w0.heap.size w0 w1
structure PxC (w0:World) (bn bf ba bb bs bm gm:Nat) (tm:Slc):Prop where
 ab:ba≠bb
 ns:bn≠bs
 al:w0.heap.size≤ba
 bl:w0.heap.size≤bb
 gl:w0.heap.size≤gm
 tm:tm.a=some ⟨gm,0,none⟩
section
variable {w0:World} {g b:Nat} {F:FilL} {p t d:Slc} {W H bn bf ba bb bs bm gm:Nat} {tm:Slc} {S:PxS}
theorem PxI.ext {w1 w2:World} (h:PxI w0 g F W H bn bf ba bb bs bm gm tm S w1) (hB:Below w1.heap.size w1 w2):PxI w0 g F W H bn bf ba bb bs bm gm tm S w2:=by
 obtain ⟨h1,h2,h3,h4,⟨sa,h5,h6,h7⟩,⟨sb,h8,h9⟩,h10,h11⟩:=h
 exact ⟨h1.ext hB,h2.ext hB,h3.ext hB,h4.ext hB,⟨sa,h5.ext hB,h6.ext hB,h7⟩,⟨sb,h8.ext hB,h9⟩,h10.ext hB,bT h11 hB⟩
theorem qax {w:World} {bx t:Nat} {v:Value} (h:Blk w bx t [v]):w.cell? ⟨bx,0,none⟩=some v:=h.cell 0 rfl
theorem zce (hF:FilA w0 g b F p t d) (ho:FilOk F) (hh:HeadOk F.h W H) (hpl:F.pal.length≤1000000) (htl:F.tr.length≤1000000) (hc:PxC w0 bn bf ba bb bs bm gm tm) {x0:PxS} {L R:List (PassP×Nat×Nat)} {r:PassP×Nat×Nat} (hL:rowsL F.h=L++r::R) (hx0:needP F.h≤x0.b.length) (hx0l:x0.b.length≤1000000000) (hS:qbn F L x0=some S)
  (hml:S.m.length=4*W*H) {w1:World} (hI:PxI w0 g F W H bn bf ba bb bs bm gm tm S w1) {J:Bool→World→Prop}
  (hJ1:∀S' w2,qdt F r S=some S'→S'.m.length=4*W*H→PxI w0 g F W H bn bf ba bb bs bm gm tm S' w2→Chg (fun k=>k=ba∨k=bb∨k=gm) w1 w2→J true w2) (hJ0:∀w2,qdt F r S=none→Chg (fun k=>k=ba∨k=bb∨k=gm) w1 w2→J false w2) :
  qhz (passT r.1) (r.2.1:Int) (r.2.2:Int) ⟨bn,0,none⟩ ⟨bf,0,none⟩ ⟨ba,0,none⟩ ⟨bb,0,none⟩ ⟨bs,0,none⟩ ⟨bm,0,none⟩ w1 J:=by
 obtain ⟨_,hco⟩:=qfr ho.hd
 have hra:=q27 hh hL
 have hroom:=q8h hL hS hx0
 have hal:=q85 hh hL hS hx0
 have hSb:=qnl L x0 S hS
 have hSbl:S.b.length≤1000000000:=by rw [hSb,List.length_drop];omega
 have hw1:1≤r.2.2:=by rw [hra.w];exact q8r hra.y
 have hw2:r.2.2≤16384:=by rw [hra.w];have:=(qh5 r.1 W H).1;have:=hh.w2;omega
 have hdx:=qrt F.h.Lace r.1 hra.mem
 have hW2:=hh.w2
 have hH2:=hh.h2
 have hyH:r.2.1<16384:=by have:=hra.y;have:=(qh5 r.1 W H).2;omega
 have hsm:=qcv hco
 have hbits:=q78 hco hw1 hw2
 have hstep:=zar hco
 have hrowb:rowB F.h r.2.2≤131072:=qti _ _ _
 obtain ⟨cs,hcs⟩:∃cs,cs=qac F.h.Color:=⟨_,rfl⟩
 obtain ⟨sz,hsz⟩:∃sz,sz=rowB F.h r.2.2:=⟨_,rfl⟩
 have hrP:rowP (r.2.2:Int) ((qac F.h.Color:Nat):Int) F.h.Depth=sz:=hsz.symm
 rw [←hsz] at hroom hal hbits hrowb
 obtain ⟨hn,hf,hst,hm,⟨sa,hba,hsa,hsag⟩,⟨sb,hbb,hsb⟩,hrow,hB01⟩:=hI
 refine qsz _ _ _ _ _ _ _ _ _ ?_
 unfold qg5
 refine nwb fun w2 hp2 hB2 hs2=>?_
 have hBd:=bT hB2 (bdw w2)
 have hF2:=hF.ext (bT hB01 hBd)
 refine lI (x:=((qac F.h.Color:Nat):Int)) (qax (hn.ext hBd)) (qbf (x:=some ⟨g,0,none⟩) (qax (hf.ext hBd)) ?_)
 simp only [onPtr_some]
 refine lI (x:=F.h.Depth) (by rw [add_zero];exact hF2.blk.cells 2 _ rfl) (zbn ?_)
 rw [hrP]
 have e1:IntKind.i64.wrap ((1:Int)+(sz:Int))=((1+sz:Nat):Int):=by rw [w64i (by omega)];simp
 rw [e1]
 have hgF:g<w0.heap.size:=hF.blk.lt
 have hs01:=hB01.size
 refine jpO fun J1 hJ1'=>?_
 have main:∀(sa':Slc) w3,Blk w3 ba qab [.slice sa'.a sa'.n sa'.c]→Go.Vc.Own qaa w3 w0.heap.size sa' (qc1 r.2.1 S.ahead)→Chg (fun k=>k=ba) w1 w3→Blk w3 w1.heap.size qbd (T_q8_Pass.rep.cells (passT r.1))→J1 () w3:=by
  intro sa' w3 hba3 hsa3 hc3 hp3
  refine hJ1' _ _ ?_
  have hn3:Blk w3 bn qbh _:=hn.chg hc3 fun e=>by subst e;exact hn.ne_t hba (by decide) rfl
  have hf3:Blk w3 bf qod _:=hf.chg hc3 fun e=>by subst e;exact hf.ne_t hba (by decide) rfl
  have hst3:Blk w3 bs qbh _:=hst.chg hc3 fun e=>by subst e;exact hst.ne_t hba (by decide) rfl
  have hm3:Blk w3 bm qal _:=hm.chg hc3 fun e=>by subst e;exact hm.ne_t hba (by decide) rfl
  have hbb3:Blk w3 bb qab _:=hbb.chg hc3 fun e=>hc.ab e.symm
  have hrow3:=hrow.chg hc3 fun k hk=>qae hrow hba (by decide) k hk
  have hB03:Below w0.heap.size w0 w3:=b1o hB01 hc3 hc.al
  have hBd3:=bdw w3
  have hB03d:=bT hB03 hBd3
  have hbb3d:=hbb3.ext hBd3
  have hsbd:=hsb.ext hB03d
  obtain ⟨k0,bt,hSbe⟩:∃k0 bt,S.b=k0::bt:=by
   match hb:S.b,hroom with
   | [],h=>simp at h
   | k0::bt,_=>exact ⟨k0,bt,rfl⟩
  have hbtl:sz≤bt.length:=by rw [hSbe,List.length_cons] at hroom;omega
  have hSl:S.b.length=bt.length+1:=by rw [hSbe];rfl
  refine lSl (x:=sb) (qax hbb3d) ?_
  refine hsbd.ix (i:=0) rfl (by omega) (by omega) fun _=>?_
  refine lI (x:=(k0.toNat:Int)) (qaw (i:=0) hsbd (by rw [hSbe];rfl)) ?_
  refine lSl (x:=sb) (qax hbb3d) ?_
  refine hsbd.slK (l:=1) (m:=1+sz) rfl (.inr rfl) (.inr rfl) (by omega) (by omega) fun hpart=>?_
  have hpe:(S.b.take (1+sz)).drop 1=bt.take sz:=by rw [hSbe,Nat.add_comm 1 sz,List.take_succ_cons];rfl
  rw [hpe] at hpart
  refine lSl (x:=sa') (qax (hba3.ext hBd3)) (lI (x:=((qdq F.h:Nat):Int)) (qax (hst3.ext hBd3)) ?_)
  rw [w8]
  have hsa3d:=hsa3.ext hBd3
  have hstepE:qdt F r S=if k0.toNat>4 then none else (qe0 F r.1 r.2.1 (qcd (undoP k0.toNat (bt.take sz) (qc1 r.2.1 S.ahead) (qdq F.h)) F.h.Depth.toNat (qac F.h.Color*r.2.2)) r.2.2 S.m).map fun m=>⟨bt.drop sz,undoP k0.toNat (bt.take sz) (qc1 r.2.1 S.ahead) (qdq F.h),m⟩:=by
   unfold qdt
   rw [hSbe,hsz]
  have htkl:(bt.take sz).length=sz:=by rw [List.length_take];omega
  refine zj9 hpart hsa3d.rd hstep.1 hstep.2 (by rw [htkl];exact hal) (by omega) (fun h4=>?_) (fun h4 rw_ w4 hrw hB4=>?_)
  ·refine cT (by decide) (hJ0 _ ?_ ?_)
   ·rw [hstepE,if_pos h4]
   ·exact (hc3.trans (Chg.of_ext (S:=fun k=>k=ba) hBd3) fun i _ hi=>hi).mono fun i _ hi=>.inl hi
  rw [if_neg (by omega)] at hstepE
  refine cF rfl ?_
  obtain ⟨rl,hrl⟩:∃rl,rl=undoP k0.toNat (bt.take sz) (qc1 r.2.1 S.ahead) (qdq F.h):=⟨_,rfl⟩
  rw [←hrl] at hstepE hrw
  have hrll:rl.length=sz:=by rw [hrl,qgt,htkl]
  have hBd4:=bT hBd3 hB4
  have hbb4:=hbb3.ext hBd4
  have hB04:=bT hB03 hBd4
  have hsb4:=hsb.ext hB04
  refine lSl (x:=sb) (qax hbb4) ?_
  refine hsb4.slK (l:=1+sz) (m:=S.b.length) rfl (.inr rfl) (.inl ⟨rfl,rfl⟩) (by omega) (by omega) fun _=>?_
  have hsb':=hsb.part (l:=1+sz) (m:=S.b.length) (by omega) (by omega)
  rw [List.take_length] at hsb'
  have hde:S.b.drop (1+sz)=bt.drop sz:=by rw [hSbe,Nat.add_comm 1 sz,List.drop_succ_cons]
  rw [hde] at hsb'
  obtain ⟨sb2,hsb2⟩:∃sb2:Slc,sb2=⟨cut sb.a (1+sz) sb.c qaa.k,S.b.length-(1+sz),sb.c-(1+sz)⟩:=⟨_,rfl⟩
  rw [←hsb2] at hsb' ⊢
  refine qav hbb4 rfl fun w5 hbb5 hc5 hs5=>?_
  have hba5:=(hba3.ext hBd4).chg hc5 hc.ab
  refine qav hba5 rfl fun w6 hba6 hc6 hs6=>?_
  have hbb6:=hbb5.chg hc6 fun e=>hc.ab e.symm
  have hrwg:∀k,rw_.blk=some k→w3.drew.heap.size≤k:=fun k hk=>(hrw.lt k hk).1
  have hsz3:w3.drew.heap.size=w3.heap.size:=rfl
  have hbal:=hba3.lt
  have hbbl:=hbb3.lt
  have hrw6:=(hrw.chg hc5 fun k hk e=>by have:=hrwg k hk;omega).chg hc6 fun k hk e=>by have:=hrwg k hk;omega
  have hc56:Chg (fun k=>k=ba∨k=bb) w3 w6:=((Chg.of_ext (S:=fun k=>k=ba∨k=bb) hBd4).trans (hc5.mono fun i _ hi=>.inr hi) fun i _ hi=>hi).trans (hc6.mono fun i _ hi=>.inl hi) fun i _ hi=>hi
  have keep:∀{k tt:Nat} {cs:List Value},tt≠qab→Blk w3 k tt cs→Blk w6 k tt cs:=fun {k tt cs} hne hb=>hb.chg hc56 fun e=>by
   rcases e with e | e
   ·subst e;exact hb.ne_t hba3 hne rfl
   ·subst e;exact hb.ne_t hbb3 hne rfl
  have hn6:=keep (by decide) hn3
  have hf6:=keep (by decide) hf3
  have hst6:=keep (by decide) hst3
  have hm6:=keep (by decide) hm3
  have hp6:=keep (by decide) hp3
  have hrow6:=hrow3.chg hc56 fun k hk e=>by
   rcases e with e | e
   ·exact qae hrow3 hba3 (by decide) k hk e
   ·exact qae hrow3 hbb3 (by decide) k hk e
  have hB06:Below w0.heap.size w0 w6:=(hB03).trans (hc56.below (by have:=hB03.size;omega) fun i hi e=>by have:=hc.al;have:=hc.bl;omega)
  have hBd6:=bdw w6
  have hB06d:=bT hB06 hBd6
  have hF6:=hF.ext hB06d
  refine qbf (x:=some ⟨g,0,none⟩) (qax (hf6.ext hBd6)) ?_
  simp only [onPtr_some]
  refine lI (x:=F.h.Depth) (by rw [add_zero];exact hF6.blk.cells 2 _ rfl) (lI (x:=((qac F.h.Color:Nat):Int)) (qax (hn6.ext hBd6)) ?_)
  have hnw:qac F.h.Color*r.2.2≤4*16384:=Nat.mul_le_mul hsm.2 hw2
  have e2:IntKind.i64.wrap (((qac F.h.Color:Nat):Int)*(r.2.2:Int))=((qac F.h.Color*r.2.2:Nat):Int):=by
   rw [show ((qac F.h.Color:Nat):Int)*(r.2.2:Int)=((qac F.h.Color*r.2.2:Nat):Int) by simp,w64i (by omega)]
  rw [e2]
  have hdn:F.h.Depth=((F.h.Depth.toNat:Nat):Int):=by have:=hco.d;omega
  have hrw6d:=hrw6.ext hBd6
  have hsam:=q9b (w:=w6.drew) (d:=F.h.Depth.toNat) (n:=qac F.h.Color*r.2.2) hrw6d.rd (by have:=hco.d;omega) (by rw [hrll];exact hbits) (by omega)
   (K:=fun t62 t62_1 w7=>loopP (σ:=Int×Unit) (fun I2 s_1 w8 =>
     cond (decide (s_1.1<(r.2.2:Int)))
      (
      ldP (⟨bf,0,none⟩:Addr) w8.drew fun t70 =>
      ldI .i64 (⟨bn,0,none⟩:Addr) w8.drew fun t72 =>
      ldI .i64 (⟨bn,0,none⟩:Addr) w8.drew fun t75 =>
      ldI .i64 (⟨bn,0,none⟩:Addr) w8.drew fun t78 =>
      slK t62 (some (IntKind.i64.wrap (t72*s_1.1))) (some (IntKind.i64.wrap ((IntKind.i64.wrap (t75*s_1.1))+t78))) 1 fun t80 =>
       (
        qdr t70 t80 w8.drew fun t81 t81_1 w9 =>
        nw qam [(.int .u8 0),(.int .u8 0),(.int .u8 0),(.int .u8 0)] w9 fun c w10 =>
        World.cell? w10 (⟨bn,0,none⟩:Addr)=some (.int .i64 t78) ∧
        World.cell? w10 (⟨bn,0,none⟩:Addr)=some (.int .i64 t75) ∧
        World.cell? w10 (⟨bn,0,none⟩:Addr)=some (.int .i64 t72) ∧
        World.cell? w10 (⟨bf,0,none⟩:Addr)=some (.pointer t70) ∧
        stK c (T_pixel_Color.rep.cells t81) w10 fun w11 =>
        cond (!t81_1)
         (J false w11)
         (
         ldSl ((⟨bm,0,none⟩:Addr).add 2) w11.drew fun t87 =>
         ldI .i64 ((⟨w1.heap.size,0,none⟩:Addr).add 1) w11.drew fun t89 =>
         ldI .i64 ((⟨w1.heap.size,0,none⟩:Addr).add 3) w11.drew fun t92 =>
         ldP (⟨bf,0,none⟩:Addr) w11.drew fun t95 =>
         onPtr t95 fun t96 =>
         ldI .i64 ((t96.add 0).add 0) w11.drew fun t99 =>
         ldI .i64 ((⟨w1.heap.size,0,none⟩:Addr).add 0) w11.drew fun t102 =>
         ldI .i64 ((⟨w1.heap.size,0,none⟩:Addr).add 2) w11.drew fun t106 =>
         slK t87 (some (IntKind.i64.wrap ((4:Int)*(IntKind.i64.wrap ((IntKind.i64.wrap ((IntKind.i64.wrap ((IntKind.i64.wrap (t89+(IntKind.i64.wrap ((r.2.1:Int)*t92))))*t99))+t102))+(IntKind.i64.wrap (s_1.1*t106))))))) none 1 fun t110 =>
         slA c 4 none none 1 fun t111 =>
         runK1 PG (Builtin.copy_ #[qab,qab] qbh #[(.slice t110.a t110.n t110.c),(.slice t111.a t111.n t111.c)]) (Kind.int .i64) w11.drew fun (t112:Int) w12 =>
         I2 ((IntKind.i64.wrap (s_1.1+(1:Int))),()) w12)) ∧
      nw qam [(.int .u8 0),(.int .u8 0),(.int .u8 0),(.int .u8 0)] w8.drew fun c_1 w13 =>
      World.cell? w13 (⟨bn,0,none⟩:Addr)=some (.int .i64 t78) ∧
      World.cell? w13 (⟨bn,0,none⟩:Addr)=some (.int .i64 t75) ∧
      World.cell? w13 (⟨bn,0,none⟩:Addr)=some (.int .i64 t72) ∧
      World.cell? w13 (⟨bf,0,none⟩:Addr)=some (.pointer t70) ∧
      qdr t70 t80 w13 fun t81_2 t81_3 w14 =>
      stK c_1 (T_pixel_Color.rep.cells t81_2) w14 fun w15 =>
      cond (!t81_3)
       (J false w15)
       (
        ldSl ((⟨bm,0,none⟩:Addr).add 2) w15.drew fun t87_1 =>
        ldI .i64 ((⟨w1.heap.size,0,none⟩:Addr).add 1) w15.drew fun t89_1 =>
        ldI .i64 ((⟨w1.heap.size,0,none⟩:Addr).add 3) w15.drew fun t92_1 =>
        ldP (⟨bf,0,none⟩:Addr) w15.drew fun t95_1 =>
        onPtr t95_1 fun t96_1 =>
        ldI .i64 ((t96_1.add 0).add 0) w15.drew fun t99_1 =>
        ldI .i64 ((⟨w1.heap.size,0,none⟩:Addr).add 0) w15.drew fun t102_1 =>
        ldI .i64 ((⟨w1.heap.size,0,none⟩:Addr).add 2) w15.drew fun t106_1 =>
        slK t87_1 (some (IntKind.i64.wrap ((4:Int)*(IntKind.i64.wrap ((IntKind.i64.wrap ((IntKind.i64.wrap ((IntKind.i64.wrap (t89_1+(IntKind.i64.wrap ((r.2.1:Int)*t92_1))))*t99_1))+t102_1))+(IntKind.i64.wrap (s_1.1*t106_1))))))) none 1 fun t110_1 =>
        slA c_1 4 none none 1 fun t111_1 =>
        runK1 PG (Builtin.copy_ #[qab,qab] qbh #[(.slice t110_1.a t110_1.n t110_1.c),(.slice t111_1.a t111_1.n t111_1.c)]) (Kind.int .i64) w15.drew fun (t112_1:Int) w16 =>
        I2 ((IntKind.i64.wrap (s_1.1+(1:Int))),()) w16))
      (J true w8)) (0,()) w7)
  rw [←hdn] at hsam
  refine hsam fun sp w7 hsp hB7=>?_
  clear hsam
  obtain ⟨ss,hss⟩:∃ss,ss=qcd rl F.h.Depth.toNat (qac F.h.Color*r.2.2):=⟨_,rfl⟩
  rw [←hss] at hsp hstepE
  have hssl:ss.length=qac F.h.Color*r.2.2:=by rw [hss,qrx]
  have hssv:∀v∈ss,v<2^F.h.Depth.toNat:=by rw [hss];exact q2u
  have hB67:=bT hBd6 hB7
  have hs67:=hB67.size
  have hrow7:=hrow6.ext hB67
  have hWn:=hh.wn
  have hrooms:∀x,x<r.2.2→pixAt W r.1 r.2.1 x+4≤4*W*H:=fun x hx=>(qvh (by rw [hra.w] at hx;exact hx) hra.y).1
  have hWH:4*W*H≤4*16384*16384:=Nat.mul_le_mul (Nat.mul_le_mul_left 4 hW2) hH2
  refine lpR (fun (st:Int×Unit) w8=>∃(x:Nat) (m:List UInt8),st.1=x∧x≤r.2.2∧qe0 F r.1 r.2.1 ss x S.m=some m∧m.length=4*W*H∧Go.Vc.Own qaa w8 w0.heap.size tm m∧Chg (fun k=>k=gm) w7 w8) (fun st=>r.2.2-st.1.toNat)
   ⟨0,S.m,rfl,by omega,rfl,hml,hrow7,Chg.refl _ _⟩ ?_
  rintro ⟨x,u⟩ w8 ⟨x,m,rfl,hx,hput,hmlen,hrow8,hc8⟩ I hIl
  dsimp only
  have hgm6:gm<w6.heap.size:=(hrow6.lt gm (by unfold Slc.blk;rw [hc.tm];rfl)).2
  have keep8:∀{k tt:Nat} {cs:List Value},tt≠qai→Blk w6 k tt cs→Blk w8 k tt cs:=fun {k tt cs} hne hb=>(hb.ext hB67).chg hc8 fun e=>by
   subst e
   obtain ⟨cs',hcs'⟩:=hrow7.blk_t (g:=k) (by unfold Slc.blk;rw [hc.tm];rfl)
   exact (hb.ext hB67).ne_t hcs' hne rfl
  have hn8:=keep8 (by decide) hn6
  have hf8:=keep8 (by decide) hf6
  have hm8:=keep8 (by decide) hm6
  have hp8:=keep8 (by decide) hp6
  have hB08:Below w0.heap.size w0 w8:=b1o (bT hB06 hB67) hc8 hc.gl
  have hC38:Chg (fun k=>k=ba∨k=bb∨k=gm) w1 w8:=by
   refine (((hc3.mono fun i _ hi=>(.inl hi:i=ba∨i=bb∨i=gm)).trans (hc56.mono fun i _ hi=>(by rcases hi with h | h;exact .inl h;exact .inr (.inl h):i=ba∨i=bb∨i=gm)) fun i _ hi=>hi).trans (Chg.of_ext (S:=fun k=>k=ba∨k=bb∨k=gm) hB67) fun i _ hi=>hi).trans (hc8.mono fun i _ hi=>.inr (.inr hi)) fun i _ hi=>hi
  refine cO (fun hlt=>?_) fun hge=>?_
  ·have hlt:=of_decide_eq_true hlt
   have hxl:x<r.2.2:=by omega
   have hBd8:=bdw w8
   have hcx:qac F.h.Color*x+qac F.h.Color≤qac F.h.Color*r.2.2:=by
    have:=Nat.mul_le_mul_left (qac F.h.Color) (show x+1≤r.2.2 from hxl)
    rw [Nat.mul_add,Nat.mul_one] at this
    exact this
   have ex:IntKind.i64.wrap (((qac F.h.Color:Nat):Int)*(x:Int))=((qac F.h.Color*x:Nat):Int):=by
    rw [show ((qac F.h.Color:Nat):Int)*(x:Int)=((qac F.h.Color*x:Nat):Int) by simp,w64i (by omega)]
   have ex2:IntKind.i64.wrap (((qac F.h.Color*x:Nat):Int)+((qac F.h.Color:Nat):Int))=((qac F.h.Color*x+qac F.h.Color:Nat):Int):=by
    rw [w64i (by omega)];simp
   refine qbf (x:=some ⟨g,0,none⟩) (qax (hf8.ext hBd8)) (lI (x:=((qac F.h.Color:Nat):Int)) (qax (hn8.ext hBd8)) (lI (x:=((qac F.h.Color:Nat):Int)) (qax (hn8.ext hBd8)) (lI (x:=((qac F.h.Color:Nat):Int)) (qax (hn8.ext hBd8)) ?_)))
   rw [ex,ex2]
   have hsp8:Go.Vc.Own E_int w8 w6.drew.heap.size sp (intsN ss):=hsp.chg hc8 fun k hk e=>by have:=(hsp.lt k hk).1;have h6:w6.drew.heap.size=w6.heap.size:=rfl;omega
   refine hsp8.rd.slK (l:=qac F.h.Color*x) (m:=qac F.h.Color*x+qac F.h.Color) rfl (.inr rfl) (.inr rfl) (by omega) (by rw [qeq,hssl];exact hcx) fun hpt=>?_
   obtain ⟨s4,hs4⟩:∃s4,s4=(ss.drop (qac F.h.Color*x)).take (qac F.h.Color):=⟨_,rfl⟩
   have hpe4:((intsN ss).take (qac F.h.Color*x+qac F.h.Color)).drop (qac F.h.Color*x)=intsN s4:=by
    rw [hs4,List.drop_take,Nat.add_sub_cancel_left]
    unfold intsN
    rw [List.map_take,List.map_drop]
   rw [hpe4] at hpt
   have hs4l:s4.length=qac F.h.Color:=by rw [hs4,List.length_take,List.length_drop,hssl];omega
   have hs4v:∀v∈s4,v<2^F.h.Depth.toNat:=fun v hv=>hssv v (by rw [hs4] at hv;exact List.mem_of_mem_drop (List.mem_of_mem_take hv))
   have hputn:qe0 F r.1 r.2.1 ss (x+1) S.m=(qcq F s4).map (set4 m (pixAt W r.1 r.2.1 x)):=by
    rw [qe0,hput,hs4,hWn]
   have hbadp:qcq F s4=none→qdt F r S=none:=fun hcn=>by
    rw [hcn] at hputn
    rw [hstepE,q2l hputn (show x+1≤r.2.2 from hxl)]
    rfl
   have hF8:∀{w'},Below w8.heap.size w8 w'→FilA w' g b F p t d:=fun hB=>hF.ext (bT hB08 hB)
   have fin:∀(a b' c' d':UInt8) (bc:Nat) w11,qcq F s4=some [a,b',c',d']→Blk w11 bc qam (qah [a,b',c',d'])→Below w8.heap.size w8 w11 →
     (ldSl ((
         ⟨bm,0,none⟩:Addr).add 2) w11.drew fun t87 =>
         ldI .i64 ((⟨w1.heap.size,0,none⟩:Addr).add 1) w11.drew fun t89 =>
         ldI .i64 ((⟨w1.heap.size,0,none⟩:Addr).add 3) w11.drew fun t92 =>
         ldP (⟨bf,0,none⟩:Addr) w11.drew fun t95 =>
         onPtr t95 fun t96 =>
         ldI .i64 ((t96.add 0).add 0) w11.drew fun t99 =>
         ldI .i64 ((⟨w1.heap.size,0,none⟩:Addr).add 0) w11.drew fun t102 =>
         ldI .i64 ((⟨w1.heap.size,0,none⟩:Addr).add 2) w11.drew fun t106 =>
         slK t87 (some (IntKind.i64.wrap ((4:Int)*(IntKind.i64.wrap ((IntKind.i64.wrap ((IntKind.i64.wrap ((IntKind.i64.wrap (t89+(IntKind.i64.wrap ((r.2.1:Int)*t92))))*t99))+t102))+(IntKind.i64.wrap ((x:Int)*t106))))))) none 1 fun t110 =>
         slA (⟨bc,0,none⟩:Addr) 4 none none 1 fun t111 =>
         runK1 PG (Builtin.copy_ #[qab,qab] qbh #[(.slice t110.a t110.n t110.c),(.slice t111.a t111.n t111.c)]) (Kind.int .i64) w11.drew fun (t112:Int) w12 =>
         I ((IntKind.i64.wrap ((x:Int)+(1:Int))),()) w12):=by
    intro a b' c' d' bc w11 hcol hbc hB11
    have hB11d:=bT hB11 (bdw w11)
    have hm11:=hm8.ext hB11d
    have hp11:=hp8.ext hB11d
    have hF11:=hF8 hB11d
    have hrow11:=hrow8.ext hB11d
    refine lSl (x:=tm) (hm11.cells 2 _ rfl) ?_
    refine lI (x:=(r.1.y:Int)) (hp11.cells 1 _ rfl) (lI (x:=(r.1.dy:Int)) (hp11.cells 3 _ rfl) ?_)
    refine qbf (x:=some ⟨g,0,none⟩) (qax (hf8.ext hB11d)) ?_
    simp only [onPtr_some]
    refine lI (x:=(W:Int)) (by rw [add_zero,←hh.w];exact hF11.blk.cells 0 _ rfl) ?_
    refine lI (x:=(r.1.x:Int)) (hp11.cells 0 _ rfl) (lI (x:=(r.1.dx:Int)) (hp11.cells 2 _ rfl) ?_)
    have hroom:=hrooms x hxl
    obtain ⟨hr1,hr2,hr3⟩:=qvh (W:=W) (H:=H) (p:=r.1) (y:=r.2.1) (x:=x) (by rw [←hra.w];exact hxl) hra.y
    have eidx:IntKind.i64.wrap ((4:Int)*(IntKind.i64.wrap ((IntKind.i64.wrap ((IntKind.i64.wrap ((IntKind.i64.wrap ((r.1.y:Int)+(IntKind.i64.wrap ((r.2.1:Int)*(r.1.dy:Int)))))*(W:Int)))+(r.1.x:Int)))+(IntKind.i64.wrap ((x:Int)*(r.1.dx:Int))))))=((pixAt W r.1 r.2.1 x:Nat):Int):=by
     unfold pixAt at hr1 ⊢
     have h1:r.2.1*r.1.dy≤16384:=by omega
     have h2:x*r.1.dx≤16384:=by omega
     rw [show (r.2.1:Int)*(r.1.dy:Int)=((r.2.1*r.1.dy:Nat):Int) by simp,w64i (x:=((r.2.1*r.1.dy:Nat):Int)) (by omega),show (x:Int)*(r.1.dx:Int)=((x*r.1.dx:Nat):Int) by simp,w64i (x:=((x*r.1.dx:Nat):Int)) (by omega),
      show (r.1.y:Int)+((r.2.1*r.1.dy:Nat):Int)=((r.1.y+r.2.1*r.1.dy:Nat):Int) by simp,w64i (x:=((r.1.y+r.2.1*r.1.dy:Nat):Int)) (by omega),show ((r.1.y+r.2.1*r.1.dy:Nat):Int)*(W:Int)=(((r.1.y+r.2.1*r.1.dy)*W:Nat):Int) by simp]
     generalize (r.1.y+r.2.1*r.1.dy)*W=q at hr1 ⊢
     generalize x*r.1.dx=v at hr1 h2 ⊢
     generalize 4*W*H=T at hr1 hWH
     rw [w64i (x:=((q:Nat):Int)) (by omega),w64i (x:=((q:Nat):Int)+(r.1.x:Int)) (by omega),w64i (x:=((q:Nat):Int)+(r.1.x:Int)+((v:Nat):Int)) (by omega),w64i (by omega)]
     omega
    rw [eidx]
    obtain ⟨k,hk⟩:∃k,k=pixAt W r.1 r.2.1 x:=⟨_,rfl⟩
    rw [←hk] at hroom ⊢
    obtain ⟨cur,hcur,hcl,hct,hc1,hc2,hc3',hc4⟩:=q6w (c:=0) hrow11 hc.tm
    refine hrow11.rd.slK (l:=k) (m:=m.length) rfl (.inr rfl) (.inl ⟨rfl,rfl⟩) (by omega) (by omega) fun _=>?_
    have hcut:cut tm.a k tm.c qaa.k=some ⟨gm,k,none⟩:=by
     unfold cut
     rw [if_neg (by omega),hc.tm]
     show some ((⟨gm,0,none⟩:Addr).add (k*1))=_
     rw [qag,Nat.mul_one,Nat.zero_add]
    rw [hcut]
    have hrc:Rd qaa w11.drew ⟨some ⟨bc,0,none⟩,4,4⟩ [a,b',c',d']:=by
     refine ⟨rfl,Nat.le_refl _,by simp [maxLen],fun _=>rfl,fun i y hy=>?_⟩
     have hbc':=(hbc.ext (bdw w11)).cells i (.int .u8 (y.toNat:Int)) (by unfold qah;rw [List.getElem?_map,hy];rfl)
     intro j v hj
     match j,hj with
     | 0,hj =>
      cases hj
      show w11.drew.cell? (((⟨bc,0,none⟩:Addr).add (i*1)).add 0)=_
      rw [add_zero,Nat.mul_one]
      exact hbc'
     | j+1,hj=>simp [qaa] at hj
    show runK1 PG (Builtin.copy_ #[qab,qab] qbh #[(.slice (some ⟨gm,k,none⟩) (m.length-k) (tm.c-k)),(.slice (some ((⟨bc,0,none⟩:Addr).add (0*1))) 4 4)]) (Kind.int .i64) w11.drew _
    rw [Nat.zero_mul,add_zero]
    refine copyB (x:=⟨some ⟨bc,0,none⟩,4,4⟩) (n:=4) hcur hrc (by show 4=min 4 (m.length-k);omega) (by omega) fun w12 hb12 hc12 hs12=>?_
    have hrow12:=zf0 (ys:=[a,b',c',d']) (k:=k) hrow11 hc.tm hcur (by show k+4≤m.length;omega) hb12
    rw [w64i (by omega)]
    refine hIl _ _ ⟨x+1,set4 m k [a,b',c',d'],rfl,by omega,?_,?_,hrow12,?_⟩ (by simp;omega)
    ·rw [hputn,hcol,←hk];rfl
    ·unfold set4
     simp only [List.length_append,List.length_take,List.length_drop,List.length_cons,List.length_nil]
     omega
    ·exact (hc8.trans (Chg.of_ext (S:=fun k=>k=gm) hB11d) fun i _ hi=>hi).trans hc12 fun i _ hi=>hi
   refine ⟨?_,?_⟩
   ·refine q4t (hF8 hBd8) ho (hpt.ext hBd8) hs4l hs4v hpl htl (fun cx w9 hcn hB9=>?_) (fun a b' c' d' w9 hcol hB9=>?_)
    ·refine nwb fun w10 h10 hB10 hs10=>?_
     have hB810:=bT (bT hBd8 hB9) hB10
     refine ⟨qax (hn8.ext hB810),qax (hn8.ext hB810),qax (hn8.ext hB810),qax (hf8.ext hB810),?_⟩
     refine qav h10 rfl fun w11 h11 hc11 hs11=>?_
     refine cT rfl (hJ0 _ (hbadp hcn) ?_)
     exact hC38.trans (Chg.of_ext (S:=fun k=>k=ba∨k=bb∨k=gm) (b1o hB810 hc11 (bT hBd8 hB9).size)) fun i _ hi=>hi
    ·refine nwb fun w10 h10 hB10 hs10=>?_
     have hB810:=bT (bT hBd8 hB9) hB10
     refine ⟨qax (hn8.ext hB810),qax (hn8.ext hB810),qax (hn8.ext hB810),qax (hf8.ext hB810),?_⟩
     refine qav h10 rfl fun w11 h11 hc11 hs11=>?_
     exact cF rfl (fin a b' c' d' _ w11 hcol h11 (b1o hB810 hc11 (bT hBd8 hB9).size))
   ·refine nwb fun w13 h13 hB13 hs13=>?_
    have hB813:=bT hBd8 hB13
    refine ⟨qax (hn8.ext hB813),qax (hn8.ext hB813),qax (hn8.ext hB813),qax (hf8.ext hB813),?_⟩
    refine q4t (hF8 hB813) ho (hpt.ext hB813) hs4l hs4v hpl htl (fun cx w14 hcn hB14=>?_) (fun a b' c' d' w14 hcol hB14=>?_)
    ·refine qav (h13.ext hB14) rfl fun w15 h15 hc15 hs15=>?_
     refine cT rfl (hJ0 _ (hbadp hcn) ?_)
     exact hC38.trans (Chg.of_ext (S:=fun k=>k=ba∨k=bb∨k=gm) (b1o (bT hB813 hB14) hc15 hBd8.size)) fun i _ hi=>hi
    ·refine qav (h13.ext hB14) rfl fun w15 h15 hc15 hs15=>?_
     exact cF rfl (fin a b' c' d' _ w15 hcol h15 (b1o (bT hB813 hB14) hc15 hBd8.size))
  ·have hge:=of_decide_eq_false hge
   obtain rfl:x=r.2.2:=by omega
   have hba8:=keep8 (by decide) hba6
   have hbb8:=keep8 (by decide) hbb6
   have hst8:=keep8 (by decide) hst6
   rw [hput] at hstepE
   refine hJ1 ⟨bt.drop sz,rl,m⟩ w8 hstepE hmlen ⟨hn8,hf8,hst8,hm8,⟨rw_,hba8,?_,?_⟩,⟨sb2,hbb8,hsb'⟩,hrow8,hB08⟩ hC38
   ·refine ((hrw6.ext hB67).chg hc8 fun k hk e=>?_).base (by have:=hB03.size;omega)
    have:=hrwg k hk
    have h3g:gm<w3.heap.size:=(hrow3.lt gm (by unfold Slc.blk;rw [hc.tm];rfl)).2
    omega
   ·intro k hk e
    have:=hrwg k hk
    have h3g:gm<w3.heap.size:=(hrow3.lt gm (by unfold Slc.blk;rw [hc.tm];rfl)).2
    omega
 refine cO (fun e=>?_) fun e=>?_
 ·have e0:r.2.1=0:=by have:=eq_of_beq e;omega
  refine qav (hba.ext hBd) rfl fun w3 h3 hc3 hs3=>?_
  have hsz2:w2.drew.heap.size=w2.heap.size:=rfl
  refine main ⟨none,0,0⟩ w3 h3 ?_ ((Chg.of_ext (S:=fun k=>k=ba) hBd).trans hc3 fun i _ hi=>hi) ((hp2.ext (bdw w2)).chg hc3 (by have:=hba.lt;omega))
  unfold qc1
  rw [if_pos e0]
  exact Own.nil _ _ _
 ·have e0:r.2.1≠0:=fun h=>by rw [h] at e;cases e
  refine main sa w2.drew (hba.ext hBd) ?_ (Chg.of_ext hBd) (hp2.ext (bdw w2))
  unfold qc1
  rw [if_neg e0]
  exact hsa.ext hBd
end
end Go.Proofs.YtmagnpcgpinmcaaGreat
namespace Go.Proofs.YtmagnpcgpinmcaaGreat
open Go.Vc Go.RowKit
set_option maxRecDepth 400000
structure RRd (w:World) (g:Nat) (s:Slc) (bs:List UInt8) (at_:Nat):Prop where
 blk:Blk w g qzf [.slice s.a s.n s.c,.int .i64 (at_:Int)]
 rd:Rd qaa w s bs
 ne:∀k,s.blk=some k→k≠g
 le:at_≤8*bs.length
 sm:bs.length≤1000000000
section
variable {w w':World} {g:Nat} {s:Slc} {bs:List UInt8} {at_:Nat}
theorem RRd.ext (h:RRd w g s bs at_) (hb:Below w.heap.size w w'):RRd w' g s bs at_:=⟨h.blk.ext hb,h.rd.ext hb,h.ne,h.le,h.sm⟩
theorem RRd.drew (h:RRd w g s bs at_):RRd w.drew g s bs at_:=h.ext ((Below.refl _ w).drew)
theorem RRd.chg {S:Nat→Prop} (h:RRd w g s bs at_) (hc:Chg S w w') (h1:¬S g) (h2:∀k,s.blk=some k→¬S k):RRd w' g s bs at_ :=
 ⟨h.blk.chg hc h1,h.rd.chg hc fun a ha=>h2 _ (slk.2 ⟨a,ha,rfl⟩),h.ne,h.le,h.sm⟩
theorem RRd.set_ {n:Nat} {K:World→Prop} (h:RRd w g s bs at_) (hn:n≤8*bs.length) (hK:∀w',RRd w' g s bs n→Chg (fun k=>k=g) w w'→K w'):stK ((⟨g,0,none⟩:Addr).add 1) [.int .i64 (n:Int)] w K:=by
 rw [qag]
 refine qaf h.blk (by simp) fun w1 hb1 hg1 hs1=>hK w1 ⟨hb1,?_,h.ne,hn,h.sm⟩ (Chg.gg hg1)
 exact h.rd.chg (Chg.gg hg1) fun a ha e=>h.ne _ (slk.2 ⟨a,ha,rfl⟩) e
theorem zg9 {K:Int→World→Prop} (h:RRd w g s bs at_) (hK:K ((8*bs.length-at_:Nat):Int) w.drew):qkw (some ⟨g,0,none⟩) w K:=by
 refine qwi _ ?_
 unfold qjb
 simp only [onPtr_some]
 have hd:=h.drew
 have hle:=h.le
 have hsm:=h.sm
 refine lSl (x:=s) (hd.blk.cells 0 _ rfl) ?_
 refine lI (x:=(at_:Int)) (hd.blk.cells 1 _ rfl) ?_
 rw [h.rd.n,w64i (x:=8*((bs.length:Nat):Int)) (by omega),w64i (by omega)]
 rw [show (8:Int)*((bs.length:Nat):Int)-(at_:Int)=((8*bs.length-at_:Nat):Int) by omega]
 exact hK
theorem zjo {a:Nat} {K:Int→World→Prop} (h:RRd w g s bs at_) (ha:a<8*bs.length) (hK:K ((peekN bs a 1:Nat):Int) w):qme (some ⟨g,0,none⟩) (a:Int) w K:=by
 refine qy7 _ _ ?_
 unfold qk9
 simp only [onPtr_some]
 have hsm:=h.sm
 have hi:a/8<bs.length:=by omega
 refine lSl (x:=s) (h.blk.cells 0 _ rfl) ⟨by decide,?_⟩
 have e1:IntKind.i64.wrap ((a:Int).tdiv (8:Int))=((a/8:Nat):Int):=by
  rw [show (8:Int)=((8:Nat):Int) from rfl,←Int.ofNat_tdiv,w64i (by omega)]
 have e2:(a:Int).tmod (8:Int)=((a%8:Nat):Int):=by rw [show (8:Int)=((8:Nat):Int) from rfl,←Int.ofNat_tmod]
 rw [e1,e2]
 obtain ⟨x,hx,hxs⟩:=qat (xs:=bs) (k:=a/8) hi
 refine h.rd.ix (i:=((a/8:Nat):Int)) rfl (by omega) (by omega) fun hc=>?_
 rw [hxs] at hc
 refine ldB8 (b:=x) hc ⟨by decide,?_⟩
 rw [qad .u64 (x:=a%8) (by show _<2^64;omega)]
 refine ⟨by omega,?_⟩
 have hx8:=x.toNat_lt
 have em:min (((a%8:Nat):Int)).toNat IntKind.u8.bits=a%8:=by show min (a%8) 8=a%8;omega
 have hd:x.toNat/2^(a%8)<2^32:=Nat.lt_of_le_of_lt (Nat.div_le_self _ _) (by omega)
 rw [em,qbt,qad .u32 (x:=x.toNat/2^(a%8)) hd,show (1:Int)=((1:Nat):Int) from rfl,qdd .u32 hd (by decide),q0s]
 have e:peekN bs a 1=x.toNat/2^(a%8)%2:=by
  rw [q2r bs a 1 1 (by omega) (by omega)]
  have et:(bs.drop (a/8)).take 1=[x]:=by
   rw [List.drop_eq_getElem_cons hi]
   have:bs[a/8]=x:=(List.getElem_eq_iff hi).2 hx
   rw [this];rfl
  rw [et]
  show (x.toNat+256*0)/_%2^1=_
  rw [Nat.mul_zero,Nat.add_zero,Nat.pow_one]
 rw [←e]
 exact hK
theorem zhk {n:Nat} {K:Int→Bool→World→Prop} (h:RRd w g s bs at_) (hn:n≤32) (hK1:at_+n≤8*bs.length→K ((peekN bs at_ n:Nat):Int) true w.drew) (hK2:8*bs.length<at_+n→K 0 false w.drew):qkp (some ⟨g,0,none⟩) (n:Int) w K:=by
 refine qw5 _ _ ?_
 unfold qj3
 refine jpO fun J hJ=>?_
 refine cF (decide_eq_false (by omega)) (cF (decide_eq_false (by omega)) ?_)
 have hle:=h.le
 have hsm:=h.sm
 refine zg9 h ?_
 refine cO (fun hlt=>?_) (fun hge=>hJ _ _ ?_)
 ·have hlt:=of_decide_eq_true hlt
  exact hK2 (by omega)
 have hge:=of_decide_eq_false hge
 have hfit:at_+n≤8*bs.length:=by omega
 have hd:=h.drew
 clear hJ
 refine lpR (fun (t:Int×Int×Unit) w2=>∃i:Nat,t.2.1=i∧i≤n∧t.1=((peekN bs at_ i:Nat):Int)∧w2=w.drew) (fun t=>n-t.2.1.toNat) ⟨0,rfl,by omega,by simp [peekN,Nat.mod_one],rfl⟩ ?_
 rintro ⟨v,i,_⟩ w2 ⟨i,rfl,hi,rfl,rfl⟩ I hI
 dsimp only at *
 refine cO (fun hlt=>?_) (fun hge=>?_)
 ·have hlt:=of_decide_eq_true hlt
  simp only [onPtr_some]
  refine lI (x:=(at_:Int)) (hd.blk.cells 1 _ rfl) ?_
  rw [w64i (x:=(at_:Int)+(i:Int)) (by omega),show (at_:Int)+(i:Int)=((at_+i:Nat):Int) from rfl]
  refine zjo hd (by omega) ?_
  rw [qad .u64 (x:=i) (by show _<2^64;omega)]
  refine ⟨by omega,?_⟩
  have em:min ((i:Int)).toNat IntKind.u32.bits=i:=by show min i 32=i;omega
  have hb:=qaz bs (at_+i) 1
  have hp:=qaz bs at_ i
  have hpi:2^i*2≤2^32:=by rw [←Nat.pow_succ];exact Nat.pow_le_pow_right (by decide) (by omega)
  have hmul:peekN bs (at_+i) 1*2^i≤2^i:=by
   have h1:peekN bs (at_+i) 1≤1:=by omega
   have:=Nat.mul_le_mul_right (2^i) h1
   rwa [Nat.one_mul] at this
  rw [em,qau,qad .u32 (x:=peekN bs (at_+i) 1*2^i) (by show _<2^32;omega),qco .u32 (by show _<2^32;omega) (by show _<2^32;omega),Nat.mul_comm,qew hp,←qzu]
  refine hI _ _ ⟨i+1,by dsimp only;rw [w64i (by omega)];rfl,by omega,rfl,rfl⟩ (by dsimp only;rw [w64i (by omega)];omega)
 ·have hge:=of_decide_eq_false hge
  have:i=n:=by omega
  subst this
  exact hK1 hfit
theorem q48 {n:Nat} {K:Int→Bool→World→Prop} (h:RRd w g s bs at_) (hn:n≤32) (hK1:at_+n≤8*bs.length→∀w',RRd w' g s bs (at_+n)→Chg (fun k=>k=g) w w'→K ((peekN bs at_ n:Nat):Int) true w') (hK2:8*bs.length<at_+n→K 0 false w.drew):qay (some ⟨g,0,none⟩) (n:Int) w K:=by
 refine qw6 _ _ ?_
 unfold qjp
 have hle:=h.le
 have hsm:=h.sm
 refine zhk h hn (fun hfit=>?_) (fun hs=>?_)
 ·refine jpO fun J hJ=>cT rfl ?_
  simp only [onPtr_some]
  refine lI (x:=(at_:Int)) (h.drew.blk.cells 1 _ rfl) ?_
  rw [w64i (x:=(at_:Int)+(n:Int)) (by omega),show (at_:Int)+(n:Int)=((at_+n:Nat):Int) from rfl]
  refine h.drew.set_ hfit fun w1 h1 hc=>hJ _ _ (hK1 hfit w1 h1 ?_)
  exact (Chg.of_ext (S:=fun k=>k=g) ((Below.refl _ w).drew)).trans hc fun i _ hi=>hi
 ·refine jpO fun J hJ=>cF rfl (hJ _ _ (hK2 hs))
theorem zdp {K:Int→World→Prop} (h:RRd w g s bs at_) (hK:∀v w',RRd w' g s bs (up8 at_)→Chg (fun k=>k=g) w w'→K v w'):qj5 (some ⟨g,0,none⟩) w K:=by
 refine qu9 _ ?_
 unfold qic
 simp only [onPtr_some]
 have hle:=h.le
 have hsm:=h.sm
 refine qc6 (fun m (t:Int×Unit) w1=>∃i:Nat,m=up8 at_-i∧at_≤i∧i≤up8 at_∧RRd w1 g s bs i∧Chg (fun k=>k=g) w w1) (up8 at_-at_) ⟨at_,rfl,Nat.le_refl _,by unfold up8;omega,h,Chg.refl _ _⟩ ?_
 rintro m ⟨v,_⟩ w1 ⟨i,rfl,hi1,hi2,h1,hc1⟩ I hI
 dsimp only
 refine lI (x:=(i:Int)) (h1.blk.cells 1 _ rfl) ⟨by decide,?_⟩
 have e2:(i:Int).tmod (8:Int)=((i%8:Nat):Int):=by rw [show (8:Int)=((8:Nat):Int) from rfl,←Int.ofNat_tmod]
 rw [e2]
 have hle1:=h1.le
 by_cases h8:i%8=0
 ·refine cF (by rw [h8];rfl) ?_
  have:i=up8 at_:=by unfold up8 at *;omega
  subst this
  exact hK v w1 h1 hc1
 ·refine cT (by
           have:((i%8:Nat):Int)≠0:=by omega
           simpa using this) ?_
  refine lI (x:=(i:Int)) (h1.blk.cells 1 _ rfl) ?_
  rw [w64i (x:=(i:Int)+1) (by omega),show (i:Int)+1=((i+1:Nat):Int) from rfl]
  refine h1.set_ (n:=i+1) (by omega) fun w2 h2 hc2=>?_
  exact hI (up8 at_-(i+1)) _ w2 ⟨i+1,rfl,by omega,by unfold up8 at *;omega,h2,hc1.trans hc2 fun i _ hi=>hi⟩ (by unfold up8 at *;omega)
end
section
variable {w:World} {base tg:Nat} {lo co:Slc} {ls:List UInt8}
theorem zfg {c n:Nat} {K:Bool→World→Prop} (h:RTab w base tg lo co ls) (hn:n≤15) (hK1:qzl ls c n→K true w) (hK2:¬qzl ls c n→K false w):qjn (some ⟨tg,0,none⟩) (c:Int) (n:Int) w K:=by
 refine qt8 _ _ _ ?_
 unfold qij
 simp only [onPtr_some]
 have hsm:=h.sm
 refine lpR (fun (t:Int×Unit) w2=>∃i:Nat,t.1=i∧i≤ls.length∧(∀j,j<i→∀x,ls[j]?=some x→¬(n≤x.toNat∧0<x.toNat∧codeK ls x.toNat j/2^(x.toNat-n)=c))∧w2=w) (fun t=>ls.length-t.1.toNat) ⟨0,rfl,by omega,fun j hj=>absurd hj (Nat.not_lt_zero _),rfl⟩ ?_
 rintro ⟨i,_⟩ w2 ⟨i,rfl,hi,hno,rfl⟩ I hI
 dsimp only at *
 refine lSl (x:=lo) (h.blk.cells 0 _ rfl) ?_
 rw [h.lo.rd.n]
 refine cO (fun hlt=>?_) (fun hge=>?_)
 ·have hlt:=of_decide_eq_true hlt
  have hil:i<ls.length:=by omega
  obtain ⟨x,hx,hxs⟩:=qat (xs:=ls) (k:=i) hil
  have h15:=h.good.1 x (List.mem_of_getElem? hx)
  refine lSl (x:=lo) (h.blk.cells 0 _ rfl) ?_
  refine h.lo.rd.ix (i:=(i:Int)) rfl (by omega) (by omega) fun hc=>?_
  rw [hxs] at hc
  refine ldB8 (b:=x) hc ?_
  rw [qad .i64 (x:=x.toNat) (by show _<2^63;omega),w64i (x:=(i:Int)+1) (by omega)]
  have next:¬(n≤x.toNat∧0<x.toNat∧codeK ls x.toNat i/2^(x.toNat-n)=c)→I ((i:Int)+1,()) w2:=fun hx'=>by
   refine hI _ _ ⟨i+1,rfl,by omega,fun j hj y hy=>?_,rfl⟩ (by simp;omega)
   by_cases e:j=i
   ·subst e
    rw [hx] at hy
    obtain rfl:=Option.some.inj hy
    exact hx'
   ·exact hno j (by omega) y hy
  refine cO (fun h1=>?_) (fun h1=>next fun hh=>by have:=of_decide_eq_false h1;omega)
  have h1:=of_decide_eq_true h1
  refine cO (fun h2=>?_) (fun h2=>next fun hh=>by have:=of_decide_eq_false h2;omega)
  have h2:=of_decide_eq_true h2
  have hcv:∀h,(qcj ls 16 0)[((i:Int)).toNat]'h=((codeK ls x.toNat i:Nat):Int):=fun hh=>by
   rw [List.getElem_eq_iff]
   rw [show ((i:Int)).toNat=i from rfl,qf6 hx,if_pos (by omega)]
  refine lSl (x:=co) (h.blk.cells 1 _ rfl) ?_
  refine h.co.rd.ix (i:=(i:Int)) rfl (by omega) (by rw [qdx];omega) fun hc2=>?_
  rw [hcv] at hc2
  refine lI (x:=((codeK ls x.toNat i:Nat):Int)) (by simpa using hc2 0 _ rfl) ?_
  rw [w64i (x:=(x.toNat:Int)-(n:Int)) (by omega),show (x.toNat:Int)-(n:Int)=((x.toNat-n:Nat):Int) by omega,qad .u64 (x:=x.toNat-n) (by show _<2^64;omega)]
  refine ⟨by omega,?_⟩
  have em:min (((x.toNat-n:Nat):Int)).toNat IntKind.u32.bits=x.toNat-n:=by show min (x.toNat-n) 32=_;omega
  rw [em,qbt]
  refine cO (fun he=>hK1 ⟨i,x,hx,by omega,by omega,?_⟩) (fun he=>next fun hh=>?_)
  ·have:=eq_of_beq he;omega
  ·have:=beq_eq_false_iff_ne.1 he
   exact this (by rw [hh.2.2])
 ·have hge:=of_decide_eq_false hge
  refine hK2 fun ⟨j,x,hx,h1,h2,h3⟩=>hno j ?_ x hx ⟨h1,h2,h3⟩
  have:=(List.getElem?_eq_some_iff.1 hx).1
  omega
theorem zhm {g:Nat} {s:Slc} {bs:List UInt8} {at_:Nat} {K:Int→Int→World→Prop} (h:RTab w base tg lo co ls) (hr:RRd w g s bs at_) (hgt:g≠tg) (hgl:∀k,lo.blk=some k∨co.blk=some k→k≠g)
  (hK:∀w' a' y e,RRd w' g s bs a'→Chg (fun k=>k=g) w w'→(match readT ls bs at_ with | .sym z k=>e=0∧y=((z:Nat):Int)∧a'=at_+k∧z<ls.length | .short=>e=2∧a'=at_ | .form=>e=3∧a'=at_)→K y e w'):qd9 (some ⟨tg,0,none⟩) (some ⟨g,0,none⟩) w K:=by
 refine qzp _ _ ?_
 unfold qle
 simp only [onPtr_some]
 have hle:=hr.le
 have hsm:=hr.sm
 have htsm:=h.sm
 refine lI (x:=(at_:Int)) (hr.blk.cells 1 _ rfl) ?_
 have keepT:∀{w'},Chg (fun k=>k=g) w w'→RTab w' base tg lo co ls:=fun hc=>⟨h.blk.chg hc (fun e=>hgt e.symm),h.hg,h.lo.chg hc fun k hk e=>hgl k (.inl hk) e,h.co.chg hc fun k hk e=>hgl k (.inr hk) e,h.sm,h.good⟩
 refine qc6 (fun m (t:Int×Int×Unit) w1=>∃n:Nat,m=16-n∧t.2.1=(n:Int)∧t.1=((msb bs at_ n:Nat):Int)∧ReadInv ls bs at_ n∧RRd w1 g s bs (at_+n)∧Chg (fun k=>k=g) w w1) 16 ⟨0,rfl,rfl,rfl,ReadInv.start hle,hr,Chg.refl _ _⟩ ?_
 rintro m ⟨c,n,_⟩ w1 ⟨n,rfl,rfl,rfl,inv,h1,hc1⟩ I hI
 dsimp only at *
 have hn15:=inv.n15
 refine cT (decide_eq_true (by omega)) ?_
 have ht1:=keepT hc1
 refine lpR (fun (t:Int×Unit) w2=>∃i:Nat,t.1=i∧i≤ls.length∧(∀j,j<i→¬qly ls n (msb bs at_ n) j)∧w2=w1) (fun t=>ls.length-t.1.toNat) ⟨0,rfl,by omega,fun j hj=>absurd hj (Nat.not_lt_zero _),rfl⟩ ?_
 rintro ⟨i,_⟩ w2 ⟨i,rfl,hi,hno,rfl⟩ I2 hI2
 dsimp only at *
 refine lSl (x:=lo) (ht1.blk.cells 0 _ rfl) ?_
 rw [ht1.lo.rd.n]
 refine cO (fun hlt=>?_) (fun hge=>?_)
 ·have hlt:=of_decide_eq_true hlt
  have hil:i<ls.length:=by omega
  obtain ⟨x,hx,hxs⟩:=qat (xs:=ls) (k:=i) hil
  have h15:=h.good.1 x (List.mem_of_getElem? hx)
  refine jpO fun J hJ=>?_
  rw [w64i (x:=(i:Int)+1) (by omega)] at hJ
  have yes:qly ls n (msb bs at_ n) i→J (true,()) w2:=fun hc=>hJ _ _ (cT rfl (hK w2 (at_+n) _ _ h1 hc1 (by rw [inv.found hc];exact ⟨rfl,rfl,rfl,hil⟩)))
  have no:¬qly ls n (msb bs at_ n) i→J (false,()) w2:=fun hc=>hJ _ _ (cF rfl (hI2 _ _ ⟨i+1,rfl,by omega,fun j hj=>by
   by_cases e:j=i
   ·subst e;exact hc
   ·exact hno j (by omega),rfl⟩ (by simp;omega)))
  refine cO (fun hp=>?_) (fun hp=>no fun hc=>by have:=of_decide_eq_false hp;have:=hc.1;omega)
  have hp:=of_decide_eq_true hp
  refine lSl (x:=lo) (ht1.blk.cells 0 _ rfl) ?_
  refine ht1.lo.rd.ix (i:=(i:Int)) rfl (by omega) (by omega) fun hc=>?_
  rw [hxs] at hc
  refine ldB8 (b:=x) hc ?_
  rw [qad .i64 (x:=x.toNat) (by show _<2^63;omega)]
  refine cO (fun he=>?_) (fun he=>no fun hc=>?_)
  ·have he:x.toNat=n:=by have:=eq_of_beq he;omega
   have hcv:∀h,(qcj ls 16 0)[((i:Int)).toNat]'h=((codeK ls x.toNat i:Nat):Int):=fun hh=>by
    rw [List.getElem_eq_iff]
    rw [show ((i:Int)).toNat=i from rfl,qf6 hx,if_pos (by omega)]
   refine lSl (x:=co) (ht1.blk.cells 1 _ rfl) ?_
   refine ht1.co.rd.ix (i:=(i:Int)) rfl (by omega) (by rw [qdx];omega) fun hc2=>?_
   rw [hcv] at hc2
   refine lI (x:=((codeK ls x.toNat i:Nat):Int)) (by simpa using hc2 0 _ rfl) ?_
   by_cases hcc:codeK ls n i=msb bs at_ n
   ·have:=yes ⟨by omega,x,hx,he,hcc⟩
    rw [show (((codeK ls x.toNat i:Nat):Int)==((msb bs at_ n:Nat):Int))=true from beq_iff_eq.2 (by rw [he,hcc])]
    exact this
   ·have:=no fun ⟨_,y,hy,hyk,hyc⟩=>hcc hyc
    rw [show (((codeK ls x.toNat i:Nat):Int)==((msb bs at_ n:Nat):Int))=false from beq_eq_false_iff_ne.2 (by rw [he];omega)]
    exact this
  ·have he:=beq_eq_false_iff_ne.1 he
   obtain ⟨_,y,hy,hyk,hyc⟩:=hc
   rw [hx] at hy
   obtain rfl:=Option.some.inj hy
   omega
 ·have hge:=of_decide_eq_false hge
  have hnone:∀i,¬qly ls n (msb bs at_ n) i:=fun j hc=>by
   obtain ⟨_,y,hy,_,_⟩:=id hc
   have:=(List.getElem?_eq_some_iff.1 hy).1
   exact hno j (by omega) hc
  obtain ⟨nx1,nx2⟩:=inv.next h.good hnone
  refine zfg ht1 hn15 (fun hb=>?_) (fun hb=>?_)
  ·obtain ⟨hn,hs,hi'⟩:=nx2 hb
   refine cF rfl ?_
   refine q48 (n:=1) h1 (by decide) (fun hfit w3 h3 hc3=>?_) (fun hsh=>?_)
   ·refine cF rfl ⟨by decide,?_⟩
    have hm:=q6h bs at_ n
    have hp:2^n≤2^15:=Nat.pow_le_pow_right (by decide) hn15
    have hb1:=qaz bs (at_+n) 1
    rw [show min ((1:Int)).toNat IntKind.u32.bits=1 by decide,qau,qad .u32 (x:=msb bs at_ n*2^1) (by show _<2^32;omega),qco .u32 (by show _<2^32;omega) (by show _<2^32;omega),Nat.pow_one,Nat.mul_comm,zcg _ _ (by omega),w64i (by omega)]
    exact hI (16-(n+1)) _ w3 ⟨n+1,rfl,rfl,rfl,hi' (by omega),by rw [←Nat.add_assoc];exact h3,hc1.trans hc3 fun i _ hi=>hi⟩ (by omega)
   ·refine cT rfl ?_
    have hcd:=hc1.trans (Chg.of_ext (S:=fun k=>k=g) ((Below.refl _ w2).drew)) fun i _ hi=>hi
    refine h1.drew.set_ (n:=at_) hle fun w3 h3 hc3=>?_
    exact hK w3 at_ _ _ h3 (hcd.trans hc3 fun i _ hi=>hi) (by rw [hs (by omega)];exact ⟨rfl,rfl⟩)
  ·refine cT rfl ?_
   refine h1.set_ (n:=at_) hle fun w3 h3 hc3=>?_
   exact hK w3 at_ _ _ h3 (hc1.trans hc3 fun i _ hi=>hi) (by rw [nx1 hb];exact ⟨rfl,rfl⟩)
end
end Go.Proofs.YtmagnpcgpinmcaaGreat
namespace Go.Proofs.YtmagnpcgpinmcaaGreat
open Go.Vc Go.RowKit
set_option maxRecDepth 400000
structure RSt (w:World) (base g rg:Nat) (s out:Slc) (bs hist:List UInt8) (most at_:Nat):Prop where
 blk:Blk w g qs3 [.pointer (some ⟨rg,0,none⟩),.slice out.a out.n out.c,.int .i64 (most:Int)]
 rdr:RRd w rg s bs at_
 out:Own qaa w base out hist
 hg:base≤g
 hr:base≤rg
 sb:∀k,s.blk=some k→k<base
 hm:hist.length≤most
 mo:most≤1073741824
def rS (g rg:Nat) (out:Slc) (k:Nat):Prop:=k=g∨k=rg∨out.blk=some k
structure RTo (w w':World) (g rg:Nat) (out out':Slc):Prop where
 chg:Chg (rS g rg out) w w'
 out:out'.blk=out.blk∨∃k,out'.blk=some k∧w.heap.size≤k
theorem RTo.refl (w:World) (g rg:Nat) (out:Slc):RTo w w g rg out out:=⟨Chg.refl _ _,.inl rfl⟩
theorem RTo.trans {w w1 w2:World} {g rg:Nat} {out out1 out2:Slc} (h:RTo w w1 g rg out out1) (h':RTo w1 w2 g rg out1 out2):RTo w w2 g rg out out2:=by
 refine ⟨h.chg.trans h'.chg fun i hi hs=>?_,?_⟩
 ·rcases hs with e | e | e
  ·exact .inl e
  ·exact .inr (.inl e)
  ·rcases h.out with e' | ⟨k,e',hk⟩
   ·exact .inr (.inr (by rw [←e',e]))
   ·rw [e'] at e;cases e;omega
 ·have:=h.chg.size
  rcases h'.out with e | ⟨k,e,hk⟩
  ·rcases h.out with e' | ⟨j,e',hj⟩
   ·exact .inl (e.trans e')
   ·exact .inr ⟨j,e.trans e',hj⟩
  ·exact .inr ⟨k,e,by omega⟩
section
variable {w w':World} {base g rg:Nat} {s out:Slc} {bs hist:List UInt8} {most at_:Nat}
theorem RSt.grg (h:RSt w base g rg s out bs hist most at_):g≠rg:=h.blk.ne_t h.rdr.blk (by decide)
theorem RSt.below (h:RSt w base g rg s out bs hist most at_):∀k,rS g rg out k→base≤k:=by
 rintro k (rfl | rfl | e)
 ·exact h.hg
 ·exact h.hr
 ·exact (h.out.lt k e).1
theorem RTo.below {out':Slc} (t:RTo w w' g rg out out') (h:RSt w base g rg s out bs hist most at_) (hb:base≤w.heap.size):Below base w w':=t.chg.below hb fun i hi hs=>by have:=h.below i hs;omega
theorem RSt.ext (h:RSt w base g rg s out bs hist most at_) (hb:Below w.heap.size w w'):RSt w' base g rg s out bs hist most at_:=⟨h.blk.ext hb,h.rdr.ext hb,h.out.ext hb,h.hg,h.hr,h.sb,h.hm,h.mo⟩
theorem RSt.drew (h:RSt w base g rg s out bs hist most at_):RSt w.drew base g rg s out bs hist most at_:=h.ext ((Below.refl _ w).drew)
theorem RTo.drew (w:World) (g rg:Nat) (out:Slc):RTo w w.drew g rg out out:=⟨Chg.of_ext ((Below.refl _ w).drew),.inl rfl⟩
theorem RSt.read {a:Nat} (h:RSt w base g rg s out bs hist most at_) (hr:RRd w' rg s bs a) (hc:Chg (fun k=>k=rg) w w'):RSt w' base g rg s out bs hist most a∧RTo w w' g rg out out :=
 ⟨⟨h.blk.chg hc fun e=>h.grg e,hr,h.out.chg hc fun k hk e=>qae h.out h.rdr.blk (by decide) k hk e,h.hg,h.hr,h.sb,h.hm,h.mo⟩,⟨hc.mono fun i _ hi=>.inr (.inl hi),.inl rfl⟩⟩
theorem qcx {n:Nat} {K:Int→Bool→World→Prop} (h:RSt w base g rg s out bs hist most at_) (hn:n≤32) (hK1:at_+n≤8*bs.length→∀w',RSt w' base g rg s out bs hist most (at_+n)→RTo w w' g rg out out→K ((peekN bs at_ n:Nat):Int) true w')
  (hK2:8*bs.length<at_+n→∀w',RSt w' base g rg s out bs hist most at_→RTo w w' g rg out out→K 0 false w'):qay (some ⟨rg,0,none⟩) (n:Int) w K :=
 q48 h.rdr hn (fun hf w1 h1 hc=>(hK1 hf w1 (h.read h1 hc).1 (h.read h1 hc).2)) fun hs=>hK2 hs _ h.drew (RTo.drew w g rg out)
theorem RSt.put {b:UInt8} {v:Int} {K:World→Prop} (h:RSt w base g rg s out bs hist most at_) (hb:base≤w.heap.size) (hv:v=(b.toNat:Int)) (hlt:hist.length<most)
  (hK:∀out' w',RSt w' base g rg s out' bs (hist++[b]) most at_→RTo w w' g rg out out'→K w') :
  nw qai [(.int .u8 v)] w fun t71 w6=>apK PG #[qab,qab] qab out (⟨(some t71),1,1⟩:Slc) w6 fun t72 w7=>stK ((⟨g,0,none⟩:Addr).add 1) [(.slice t72.a t72.n t72.c)] w7 fun w8=>K w8:=by
 have hmo:=h.mo
 refine apB1 (c:=b) hv h.out hb (by omega) fun r w2 ho2 hc2 hq=>?_
 have hb2:=h.blk.chg hc2 fun e=>qae h.out h.blk (by decide) g e rfl
 have hr2:=h.rdr.chg hc2 (fun e=>qae h.out h.rdr.blk (by decide) rg e rfl) fun k hk e=>by have:=h.sb k hk;have:=(h.out.lt k e).1;omega
 rw [qag]
 refine qaf hb2 (by simp) fun w3 hb3 hg3 hs3=>?_
 have hb3:Blk w3 g qs3 [.pointer (some ⟨rg,0,none⟩),.slice r.a r.n r.c,.int .i64 (most:Int)]:=hb3
 have hc3:=Chg.gg hg3
 have hgh:=h.hg
 refine hK r w3 ⟨hb3,hr2.chg hc3 (fun e=>h.grg e.symm) fun k hk e=>by have:=h.sb k hk;omega,ho2.chg hc3 (qae ho2 hb2 (by decide)),h.hg,h.hr,h.sb,by rw [List.length_append,List.length_singleton];omega,h.mo⟩ ⟨(hc2.mono fun i _ hi=>.inr (.inr hi)).trans hc3 fun i _ hi=>.inl hi,hq⟩
end
def RRes (most:Nat) (bs:List UInt8) (c:Cfg) (a m':Nat) (e:Int) (a':Nat) (hist':List UInt8):Prop :=
 (e=0∧∃c',Ch most bs c a c' a'∧c'.mode=m'∧c'.hist=hist') ∨
 (∃c' a'' n,Ch most bs c a c' a''∧(step1 most bs a'' c'=.short∧c'.mode≠5∧n=2∨step1 most bs a'' c'=.err n∧n≠0)∧e=((n:Nat):Int)∧c'.hist <+: hist')
theorem RRes.of_ch {most:Nat} {bs:List UInt8} {c c1:Cfg} {a a1 m':Nat} {e:Int} {a':Nat} {hist':List UInt8} (h:Ch most bs c a c1 a1) (r:RRes most bs c1 a1 m' e a' hist'):RRes most bs c a m' e a' hist':=by
 rcases r with ⟨e0,c',h1,h2,h3⟩ | ⟨c',a'',n,h1,h2⟩
 ·exact .inl ⟨e0,c',h.trans h1,h2,h3⟩
 ·exact .inr ⟨c',a'',n,h.trans h1,h2⟩
theorem RRes.short {most:Nat} {bs:List UInt8} {c:Cfg} {a m':Nat} {a':Nat} {hist':List UInt8} (h:step1 most bs a c=.short) (h5:c.mode≠5) (hp:c.hist <+: hist'):RRes most bs c a m' 2 a' hist':=.inr ⟨c,a,2,.refl _ _,.inl ⟨h,h5,rfl⟩,rfl,hp⟩
theorem RRes.err {most:Nat} {bs:List UInt8} {c:Cfg} {a m':Nat} {a' n:Nat} {e:Int} {hist':List UInt8} (h:step1 most bs a c=.err n) (hn:n≠0) (he:e=(n:Int)) (hp:c.hist <+: hist'):RRes most bs c a m' e a' hist':=.inr ⟨c,a,n,.refl _ _,.inr ⟨h,hn⟩,he,hp⟩
theorem RRes.done {most:Nat} {bs:List UInt8} {c c':Cfg} {a a':Nat} (h:step1 most bs a c=.next c' a'):RRes most bs c a c'.mode 0 a' c'.hist:=.inl ⟨rfl,c',.one h,rfl,rfl⟩
section
variable {w:World} {base g rg:Nat} {s out:Slc} {bs:List UInt8} {most at_:Nat}
theorem zbp {c:Cfg} {K:Int→World→Prop} (h:RSt w base g rg s out bs c.hist most at_) (hm:c.mode=1) (hbase:base≤w.heap.size)
  (hK:∀e out' hist' a' w',RSt w' base g rg s out' bs hist' most a'→RTo w w' g rg out out'→RRes most bs c at_ (if c.last then 5 else 0) e a' hist'→K e w'):qje (some ⟨g,0,none⟩) w K:=by
 refine qvd _ ?_
 unfold qiu
 simp only [onPtr_some]
 have hsm:=h.rdr.sm
 have st1:step1 most bs at_ c=qci bs at_ c:=by rw [step1,if_neg (by omega),stepN,if_neg (by omega),if_pos hm]
 have hpre:c.hist <+: c.hist:=List.prefix_refl _
 refine qbf (x:=some ⟨rg,0,none⟩) (h.blk.cells 0 _ rfl) ?_
 refine zdp h.rdr fun _ w1 h1 hc1=>?_
 obtain ⟨h1,t1⟩:=h.read h1 hc1
 refine qbf (x:=some ⟨rg,0,none⟩) (h1.blk.cells 0 _ rfl) ?_
 refine qcx (n:=16) h1 (by decide) (fun hf1 w2 h2 t2=>?_) (fun hs1 w2 h2 t2=>?_)
 rotate_left
 ·refine cT rfl (hK _ _ _ _ _ h2 (t1.trans t2) (RRes.short ?_ (by omega) hpre))
  rw [st1,qci,if_pos (by omega)]
 refine cF rfl ?_
 refine qbf (x:=some ⟨rg,0,none⟩) (h2.blk.cells 0 _ rfl) ?_
 refine qcx (n:=16) h2 (by decide) (fun hf2 w3 h3 t3=>?_) (fun hs2 w3 h3 t3=>?_)
 rotate_left
 ·refine cT rfl (hK _ _ _ _ _ h3 ((t1.trans t2).trans t3) (RRes.short ?_ (by omega) hpre))
  rw [st1,qci,if_pos (by omega)]
 refine cF rfl ?_
 have b1:=qaz bs (up8 at_) 16
 have b2:=qaz bs (up8 at_+16) 16
 have t03:=(t1.trans t2).trans t3
 rw [qiw .u32 (by show _<2^32;omega) (by show _<2^32;omega)]
 by_cases hx:peekN bs (up8 at_) 16 ^^^ peekN bs (up8 at_+16) 16=65535
 rotate_left
 ·refine cT (by
           have:((peekN bs (up8 at_) 16 ^^^ peekN bs (up8 at_+16) 16:Nat):Int)≠65535:=by omega
           simpa using this) (hK _ _ _ _ _ h3 t03 (RRes.err (n:=3) ?_ (by decide) rfl hpre))
  rw [st1,qci,if_neg (by omega),if_pos hx]
 refine cF (by rw [hx];rfl) ?_
 obtain ⟨n,hn⟩:∃n,n=peekN bs (up8 at_) 16:=⟨_,rfl⟩
 rw [←hn,qad .i64 (x:=n) (by show _<2^63;omega)]
 obtain ⟨c2,hc2⟩:∃c2:Cfg,c2={ c with mode:=2,left:=n }:=⟨_,rfl⟩
 have hst:step1 most bs at_ c=.next c2 (up8 at_+32):=by
  rw [st1,qci,if_neg (by omega),if_neg (by omega),←hn,hc2]
 have ebase:∀{w4 out4},RTo w w4 g rg out out4→base≤w4.heap.size:=fun t=>Nat.le_trans hbase t.chg.size
 refine lpR (fun (t:Int×Unit) w4=>∃(i:Nat) (out4:Slc) (c4:Cfg),t.1=i∧i≤n∧RSt w4 base g rg s out4 bs c4.hist most (up8 at_+32+8*i)∧RTo w w4 g rg out out4∧Ch most bs c at_ c4 (up8 at_+32+8*i)∧c4.mode=2∧c4.left=n-i∧c4.last=c.last) (fun t=>n-t.1.toNat)
  ⟨0,out,c2,rfl,by omega,by rw [hc2];exact h3,t03,.one hst,by rw [hc2],by rw [hc2];rfl,by rw [hc2]⟩ ?_
 rintro ⟨i,_⟩ w4 ⟨i,out4,c4,rfl,hi,h4,t4,hch,hm4,hl4,hla⟩ I hI
 dsimp only at *
 have st4:step1 most bs (up8 at_+32+8*i) c4=qdb most bs (up8 at_+32+8*i) c4:=by rw [step1,if_neg (by omega),stepN,if_neg (by omega),if_neg (by omega),if_pos hm4]
 have hpre4:c4.hist <+: c4.hist:=List.prefix_refl _
 refine cO (fun hlt=>?_) (fun hge=>?_)
 ·have hlt:=of_decide_eq_true hlt
  refine qbf (x:=some ⟨rg,0,none⟩) (h4.blk.cells 0 _ rfl) ?_
  refine qcx (n:=8) h4 (by decide) (fun hf w5 h5 t5=>?_) (fun hs w5 h5 t5=>?_)
  rotate_left
  ·refine cT rfl (hK _ _ _ _ _ h5 (t4.trans t5) (.of_ch hch (RRes.short ?_ (by omega) hpre4)))
   rw [st4,qdb,if_neg (by omega),if_pos hs]
  refine cF rfl ?_
  have h5d:=h5.drew
  have t5d:=t5.trans (RTo.drew w5 g rg out4)
  refine lSl (x:=out4) (h5d.blk.cells 1 _ rfl) ?_
  refine lI (x:=(most:Int)) (h5d.blk.cells 2 _ rfl) ?_
  rw [h5d.out.rd.n]
  refine cO (fun hfull=>?_) (fun hroom=>?_)
  ·have hfull:=of_decide_eq_true hfull
   refine hK _ _ _ _ _ h5d (t4.trans t5d) (.of_ch hch (RRes.err (n:=5) ?_ (by decide) rfl hpre4))
   rw [st4,qdb,if_neg (by omega),if_neg (by omega),if_pos (by omega)]
  ·have hroom:=of_decide_eq_false hroom
   refine lSl (x:=out4) (h5d.blk.cells 1 _ rfl) ?_
   have hb8:=qaz bs (up8 at_+32+8*i) 8
   have hbv:(UInt8.ofNat (peekN bs (up8 at_+32+8*i) 8)).toNat=peekN bs (up8 at_+32+8*i) 8:=by rw [UInt8.toNat_ofNat'];omega
   refine h5d.put (b:=UInt8.ofNat (peekN bs (up8 at_+32+8*i) 8)) (ebase (t4.trans t5d)) (by rw [hbv,qad .u8 (x:=peekN bs (up8 at_+32+8*i) 8) hb8]) (by omega) fun out6 w6 h6 t6=>?_
   rw [w64i (by omega)]
   have hst4:step1 most bs (up8 at_+32+8*i) c4=.next { c4 with left:=c4.left-1,hist:=c4.hist++[UInt8.ofNat (peekN bs (up8 at_+32+8*i) 8)] } (up8 at_+32+8*i+8):=by
    rw [st4,qdb,if_neg (by omega),if_neg (by omega),if_neg (by omega)]
   have ea:up8 at_+32+8*(i+1)=up8 at_+32+8*i+8:=by omega
   refine hI _ _ ⟨i+1,out6,{ c4 with left:=c4.left-1,hist:=c4.hist++[UInt8.ofNat (peekN bs (up8 at_+32+8*i) 8)] },rfl,by omega,by rw [ea];exact h6,(t4.trans t5d).trans t6,by rw [ea];exact hch.trans (.one hst4),hm4,?_,hla⟩ (by simp;omega)
   show c4.left-1=_
   omega
 ·have hge:=of_decide_eq_false hge
  have:i=n:=by omega
  subst this
  have hend:step1 most bs (up8 at_+32+8*i) c4=.next c4.behind (up8 at_+32+8*i):=by
   rw [st4,qdb,if_pos (by omega)]
  have r:=RRes.of_ch hch (RRes.done hend)
  have em:c4.behind.mode=if c.last then 5 else 0:=by unfold Cfg.behind;rw [hla]
  rw [em] at r
  exact hK _ _ _ _ _ h4 t4 r
theorem zcv {y:Nat} {K:Int→Int→World→Prop} (h1:257≤y) (h2:y≤285) (hK:K ((qbg y).1:Int) ((qbg y).2:Int) w):qso (y:Int) w K:=by
 refine q61 _ ?_
 unfold qp3
 unfold qbg at hK
 by_cases h:y=285
 ·subst h
  exact cT rfl hK
 rw [if_neg h] at hK
 refine cF (beq_eq_false_iff_ne.2 (by omega)) ?_
 obtain ⟨k,rfl⟩:∃k,y=k+257:=⟨y-257,by omega⟩
 have hk:k≤27:=by omega
 rw [Nat.add_sub_cancel] at hK
 rw [w64i (x:=((k+257:Nat):Int)-257) (by omega),show ((k+257:Nat):Int)-257=(k:Int) by omega]
 by_cases h8:k<8
 ·rw [if_pos h8] at hK
  refine cT (decide_eq_true (by omega)) ?_
  rw [w64i (by omega),show (3:Int)+(k:Int)=((3+k:Nat):Int) by omega]
  exact hK
 ·rw [if_neg h8] at hK
  refine cF (decide_eq_false (by omega)) ⟨by decide,by decide,?_⟩
  rw [show (4:Int)=((4:Nat):Int) from rfl,←Int.ofNat_tdiv,←Int.ofNat_tmod,w64i (x:=((k/4:Nat):Int)) (by omega),w64i (x:=((k/4:Nat):Int)-1) (by omega),show ((k/4:Nat):Int)-1=((k/4-1:Nat):Int) by omega,
   qad .u64 (x:=k/4-1) (by show _<2^64;omega)]
  refine ⟨by omega,?_⟩
  have em:min (((k/4-1:Nat):Int)).toNat IntKind.i64.bits=k/4-1:=by show min (k/4-1) 64=_;omega
  have hp:2^(k/4-1)≤2^6:=Nat.pow_le_pow_right (by decide) (by omega)
  have hmul:(4+k%4)*2^(k/4-1)≤8*2^6:=Nat.mul_le_mul (by omega) hp
  rw [em,show ((4:Nat):Int)+((k%4:Nat):Int)=((4+k%4:Nat):Int) from rfl,qad .i64 (x:=4+k%4) (by show _<2^63;omega),qau,qad .i64 (x:=(4+k%4)*2^(k/4-1)) (by show _<2^63;omega),
   show (3:Int)+(((4+k%4)*2^(k/4-1):Nat):Int)=((3+(4+k%4)*2^(k/4-1):Nat):Int) by omega,qad .i64 (x:=3+(4+k%4)*2^(k/4-1)) (by show _<2^63;omega)]
  exact hK
theorem q63 {y:Nat} {K:Int→Int→World→Prop} (h2:y<30) (hK:K ((qa1 y).1:Int) ((qa1 y).2:Int) w):qof (y:Int) w K:=by
 refine q4f _ ?_
 unfold qnd
 unfold qa1 at hK
 by_cases h4:y<4
 ·rw [if_pos h4] at hK
  refine cT (decide_eq_true (by omega)) ?_
  rw [w64i (by omega),show (1:Int)+(y:Int)=((1+y:Nat):Int) by omega]
  exact hK
 ·rw [if_neg h4] at hK
  refine cF (decide_eq_false (by omega)) ⟨by decide,by decide,?_⟩
  rw [show (2:Int)=((2:Nat):Int) from rfl,←Int.ofNat_tdiv,←Int.ofNat_tmod,w64i (x:=((y/2:Nat):Int)) (by omega),w64i (x:=((y/2:Nat):Int)-1) (by omega),show ((y/2:Nat):Int)-1=((y/2-1:Nat):Int) by omega,
   qad .u64 (x:=y/2-1) (by show _<2^64;omega)]
  refine ⟨by omega,?_⟩
  have em:min (((y/2-1:Nat):Int)).toNat IntKind.i64.bits=y/2-1:=by show min (y/2-1) 64=_;omega
  have hp:2^(y/2-1)≤2^13:=Nat.pow_le_pow_right (by decide) (by omega)
  have hmul:(2+y%2)*2^(y/2-1)≤4*2^13:=Nat.mul_le_mul (by omega) hp
  have e2:(((2:Nat):Int))^(y/2-1)=(2:Int)^(y/2-1):=rfl
  rw [em,show ((2:Nat):Int)+((y%2:Nat):Int)=((2+y%2:Nat):Int) from rfl,qad .i64 (x:=2+y%2) (by show _<2^63;omega),e2,qau,qad .i64 (x:=(2+y%2)*2^(y/2-1)) (by show _<2^63;omega),
   show (1:Int)+(((2+y%2)*2^(y/2-1):Nat):Int)=((1+(2+y%2)*2^(y/2-1):Nat):Int) by omega,qad .i64 (x:=1+(2+y%2)*2^(y/2-1)) (by show _<2^63;omega)]
  exact hK
end
end Go.Proofs.YtmagnpcgpinmcaaGreat
namespace Go.Proofs.YtmagnpcgpinmcaaGreat
open Go.Vc Go.RowKit
set_option maxRecDepth 400000
def copyR (most:Nat) (bs:List UInt8) (a1 y:Nat) (c:Cfg):SR :=
 if 8*bs.length<a1+(qbg y).2 then .short
 else match readT c.ds bs (a1+(qbg y).2) with
  | .short=>.short
  | .form=>.err 3
  | .sym z j =>
   if 29<z then .err 3
   else if 8*bs.length<a1+(qbg y).2+j+(qa1 z).2 then .short
   else if min c.hist.length 32768<(qa1 z).1+peekN bs (a1+(qbg y).2+j) (qa1 z).2 then .err 3
   else match copyN most ((qa1 z).1+peekN bs (a1+(qbg y).2+j) (qa1 z).2) ((qbg y).1+peekN bs a1 (qbg y).2) c.hist with
    | none=>.err 5
    | some h=>.next { c with hist:=h } (a1+(qbg y).2+j+(qa1 z).2)
theorem zam {most:Nat} {bs:List UInt8} {at_ y k:Nat} {c:Cfg} (h:readT c.sg bs at_=.sym y k) (h1:256<y) (h2:y≤285):qcn most bs at_ c=copyR most bs (at_+k) y c:=by
 unfold qcn
 rw [h]
 dsimp only
 rw [if_neg (by omega),if_neg (by omega),if_neg (by omega)]
 rfl
def TabK (w:World) (base:Nat) (out:Slc) (t:Nat×Slc×Slc) (ls:List UInt8):Prop:=RTab w base t.1 t.2.1 t.2.2 ls∧∀k,t.2.1.blk=some k→out.blk≠some k
section
variable {w w':World} {base g rg:Nat} {s out out':Slc} {bs hist ls:List UInt8} {most at_:Nat} {t:Nat×Slc×Slc}
theorem TabK.keep (h:TabK w base out t ls) (hs:RSt w base g rg s out bs hist most at_) (r:RTo w w' g rg out out'):TabK w' base out' t ls:=by
 obtain ⟨h,ho⟩:=h
 refine ⟨⟨h.blk.chg r.chg ?_,h.hg,h.lo.chg r.chg ?_,h.co.chg r.chg ?_,h.sm,h.good⟩,fun k hk e=>?_⟩
 ·rintro (e | e | e)
  ·exact h.blk.ne_t hs.blk (by decide) e
  ·exact h.blk.ne_t hs.rdr.blk (by decide) e
  ·exact qae hs.out h.blk (by decide) _ e rfl
 ·rintro k hk (e | e | e)
  ·exact qae h.lo hs.blk (by decide) k hk e
  ·exact qae h.lo hs.rdr.blk (by decide) k hk e
  ·exact ho k hk e
 ·rintro k hk (e | e | e)
  ·exact qae h.co hs.blk (by decide) k hk e
  ·exact qae h.co hs.rdr.blk (by decide) k hk e
  ·exact zjs h.co hs.out (by decide) k hk e
 ·rcases r.out with e' | ⟨j,e',hj⟩
  ·exact ho k hk (by rw [←e',e])
  ·rw [e'] at e
   cases e
   have:=(h.lo.lt k hk).2
   omega
theorem qu4 {K:Int→Int→World→Prop} (h:RSt w base g rg s out bs hist most at_) (ht:TabK w base out t ls)
  (hK:∀w' a' y e,RSt w' base g rg s out bs hist most a'→RTo w w' g rg out out→(match readT ls bs at_ with | .sym z k=>e=0∧y=((z:Nat):Int)∧a'=at_+k∧z<ls.length | .short=>e=2∧a'=at_ | .form=>e=3∧a'=at_)→K y e w'):qd9 (some ⟨t.1,0,none⟩) (some ⟨rg,0,none⟩) w K :=
 zhm ht.1 h.rdr (fun e=>h.rdr.blk.ne_t ht.1.blk (by decide) e) (fun k hk=>by
  rcases hk with hk | hk
  ·exact qae ht.1.lo h.rdr.blk (by decide) k hk
  ·exact qae ht.1.co h.rdr.blk (by decide) k hk) fun w1 a' y e hr hc hm=>hK w1 a' y e (h.read hr hc).1 (h.read hr hc).2 hm
theorem ze9 {y:Nat} (h1:257≤y) (h2:y≤285):(qbg y).1≤258∧(qbg y).2≤5:=by
 have:∀y,y<286→257≤y→(qbg y).1≤258∧(qbg y).2≤5:=by decide +kernel
 exact this y (by omega) h1
theorem zau {y:Nat} (h2:y<30):1≤(qa1 y).1∧(qa1 y).1≤24577∧(qa1 y).2≤13:=by
 have:∀y,y<30→1≤(qa1 y).1∧(qa1 y).1≤24577∧(qa1 y).2≤13:=by decide +kernel
 exact this y h2
theorem ze4 {c:Cfg} {y:Nat} {K:Int→World→Prop} (h:RSt w base g rg s out bs c.hist most at_) (ht:TabK w base out t c.ds) (h1:257≤y) (h2:y≤285) (hbase:base≤w.heap.size)
  (hK:∀e out' hist' a' w',RSt w' base g rg s out' bs hist' most a'→RTo w w' g rg out out'→(match copyR most bs at_ y c with | .next c' a=>e=0∧hist'=c'.hist∧a'=a | .short=>e=2∧c.hist <+: hist' | .err n=>e=((n:Nat):Int)∧n≠0∧c.hist <+: hist')→K e w'):qjr (some ⟨g,0,none⟩) (y:Int) (some ⟨t.1,0,none⟩) w K:=by
 refine qu2 _ _ _ ?_
 unfold qid
 have hpre:c.hist <+: c.hist:=List.prefix_refl _
 obtain ⟨lb1,lb2⟩:=ze9 h1 h2
 refine zcv h1 h2 ?_
 simp only [onPtr_some]
 obtain ⟨b,n,hbn⟩:∃b n,qbg y=(b,n):=⟨_,_,rfl⟩
 unfold copyR at hK
 rw [hbn] at hK lb1 lb2 ⊢
 dsimp only at hK lb1 lb2 ⊢
 refine qbf (x:=some ⟨rg,0,none⟩) (h.blk.cells 0 _ rfl) ?_
 refine qcx (n:=n) h (by omega) (fun hf1 w1 h3 t1=>?_) (fun hs1 w1 h3 t1=>?_)
 rotate_left
 ·refine cT rfl (hK _ _ _ _ _ h3 t1 ?_)
  rw [if_pos hs1]
  exact ⟨rfl,hpre⟩
 rw [if_neg (by omega)] at hK
 refine cF rfl ?_
 refine qbf (x:=some ⟨rg,0,none⟩) (h3.blk.cells 0 _ rfl) ?_
 have ht1:=ht.keep h t1
 refine qu4 h3 ht1 fun w2 a2 z e h4 t2 hm=>?_
 have t02:=t1.trans t2
 cases hrd:readT c.ds bs (at_+n) with
 | short =>
  rw [hrd] at hm hK
  obtain ⟨rfl,rfl⟩:=hm
  exact cT rfl (hK _ _ _ _ _ h4 t02 ⟨rfl,hpre⟩)
 | form =>
  rw [hrd] at hm hK
  obtain ⟨rfl,rfl⟩:=hm
  exact cT rfl (hK _ _ _ _ _ h4 t02 ⟨rfl,by decide,hpre⟩)
 | sym z' j =>
  rw [hrd] at hm hK
  obtain ⟨rfl,rfl,rfl,_⟩:=hm
  dsimp only at hK
  refine cF rfl ?_
  by_cases hz:29<z'
  ·refine cT (decide_eq_true (by omega)) (hK _ _ _ _ _ h4 t02 ?_)
   rw [if_pos hz]
   exact ⟨rfl,by decide,hpre⟩
  rw [if_neg hz] at hK
  refine cF (decide_eq_false (by omega)) ?_
  obtain ⟨db0,db1,db2⟩:=zau (y:=z') (by omega)
  refine q63 (by omega) ?_
  obtain ⟨b2,n2,hbn2⟩:∃b n,qa1 z'=(b,n):=⟨_,_,rfl⟩
  rw [hbn2] at hK db0 db1 db2 ⊢
  dsimp only at hK db0 db1 db2 ⊢
  refine qbf (x:=some ⟨rg,0,none⟩) (h4.blk.cells 0 _ rfl) ?_
  refine qcx (n:=n2) h4 (by omega) (fun hf3 w3 h5 t3=>?_) (fun hs3 w3 h5 t3=>?_)
  rotate_left
  ·refine cT rfl (hK _ _ _ _ _ h5 (t02.trans t3) ?_)
   rw [if_pos hs3]
   exact ⟨rfl,hpre⟩
  rw [if_neg (by omega)] at hK
  refine cF rfl ?_
  have t03:=t02.trans t3
  have p1:=qaz bs at_ n
  have p2:=qaz bs (at_+n+j) n2
  have q1:2^n≤2^5:=Nat.pow_le_pow_right (by decide) lb2
  have q2:2^n2≤2^13:=Nat.pow_le_pow_right (by decide) db2
  have hmo:=h.mo
  have hmm:=h.hm
  obtain ⟨far,hfar⟩:∃far,far=b2+peekN bs (at_+n+j) n2:=⟨_,rfl⟩
  obtain ⟨m,hmdef⟩:∃m,m=b+peekN bs at_ n:=⟨_,rfl⟩
  have ef:IntKind.i64.wrap ((b2:Int)+IntKind.i64.wrap ((peekN bs (at_+n+j) n2:Nat):Int))=(far:Int):=by
   rw [qad .i64 (x:=peekN bs (at_+n+j) n2) (by show _<2^63;omega),w64i (by omega),hfar];rfl
  have eM:IntKind.i64.wrap ((b:Int)+IntKind.i64.wrap ((peekN bs at_ n:Nat):Int))=(m:Int):=by
   rw [qad .i64 (x:=peekN bs at_ n) (by show _<2^63;omega),w64i (by omega),hmdef];rfl
  rw [ef,eM]
  rw [←hfar,←hmdef] at hK
  refine jpO fun J hJ=>?_
  refine lSl (x:=out) (h5.blk.cells 1 _ rfl) ?_
  rw [h5.out.rd.n]
  by_cases hfl:min c.hist.length 32768<far
  ·have:K 3 w3:=hK _ _ _ _ _ h5 t03 (by rw [if_pos hfl];exact ⟨rfl,by decide,hpre⟩)
   by_cases hl:c.hist.length<far
   ·exact cT (decide_eq_true (by omega)) this
   ·exact cF (decide_eq_false (by omega)) (cT (decide_eq_true (by omega)) this)
  rw [if_neg hfl] at hK
  refine cF (decide_eq_false (by omega)) (cF (decide_eq_false (by omega)) (hJ _ _ ?_))
  clear hJ
  have ebase:∀{w4 out4},RTo w w4 g rg out out4→base≤w4.heap.size:=fun t=>Nat.le_trans hbase t.chg.size
  refine lpR (fun (t:Int×Unit) w4=>∃(i:Nat) (out4:Slc) (h4:List UInt8),t.1=i∧i≤m∧RSt w4 base g rg s out4 bs h4 most (at_+n+j+n2)∧RTo w w4 g rg out out4∧copyN most far m c.hist=copyN most far (m-i) h4∧c.hist <+: h4) (fun t=>m-t.1.toNat)
   ⟨0,out,c.hist,rfl,by omega,h5,t03,rfl,hpre⟩ ?_
  rintro ⟨i,_⟩ w4 ⟨i,out4,hi4,rfl,hi,h6,t6,hcp,hpx⟩ I hI
  dsimp only at *
  have hlen:=hpx.length_le
  have hm6:=h6.hm
  refine cO (fun hlt=>?_) (fun hge=>?_)
  ·have hlt:=of_decide_eq_true hlt
   have hmi:m-i=(m-(i+1))+1:=by omega
   rw [hmi,copyN] at hcp
   have h6d:=h6.drew
   refine lSl (x:=out4) (h6d.blk.cells 1 _ rfl) ?_
   refine lI (x:=(most:Int)) (h6d.blk.cells 2 _ rfl) ?_
   rw [h6d.out.rd.n]
   refine cO (fun hfull=>?_) (fun hroom=>?_)
   ·have hfull:=of_decide_eq_true hfull
    rw [if_pos (by omega)] at hcp
    refine hK 5 _ _ _ _ h6d (t6.trans (RTo.drew w4 g rg out4)) ?_
    rw [hcp]
    exact ⟨rfl,by decide,hpx⟩
   ·have hroom:=of_decide_eq_false hroom
    rw [if_neg (by omega)] at hcp
    have h6dd:=h6d.drew
    have t6dd:=(t6.trans (RTo.drew w4 g rg out4)).trans (RTo.drew _ g rg out4)
    refine lSl (x:=out4) (h6dd.blk.cells 1 _ rfl) ?_
    refine lSl (x:=out4) (h6dd.blk.cells 1 _ rfl) ?_
    refine lSl (x:=out4) (h6dd.blk.cells 1 _ rfl) ?_
    rw [h6dd.out.rd.n,w64i (by omega),show ((hi4.length:Nat):Int)-(far:Int)=((hi4.length-far:Nat):Int) by omega]
    have hin:hi4.length-far<hi4.length:=by omega
    obtain ⟨x,hx,hxs⟩:=qat (xs:=hi4) (k:=hi4.length-far) hin
    refine h6dd.out.rd.ix (i:=((hi4.length-far:Nat):Int)) rfl (by omega) (by omega) fun hc=>?_
    rw [hxs] at hc
    refine ldB8 (b:=x) hc ?_
    have hgd:hi4.getD (hi4.length-far) 0=x:=by rw [List.getD_eq_getElem?_getD,hx];rfl
    rw [hgd] at hcp
    have key:=h6dd.put (b:=x) (v:=(x.toNat:Int)) (K:=fun w8=>I (IntKind.i64.wrap ((i:Int)+1),()) w8) (ebase t6dd) rfl (by omega) fun out6 w6 h7 t7=>by
     rw [w64i (by omega)]
     exact hI _ _ ⟨i+1,out6,hi4++[x],rfl,by omega,h7,t6dd.trans t7,hcp,hpx.trans (List.prefix_append _ _)⟩ (by simp;omega)
    have hB:Below w4.drew.drew.heap.size w4.drew.drew (w4.drew.drew.alloc (.cells [Value.int .u8 (x.toNat:Int)].toArray qai)):=(Below.refl _ _).alloc (Nat.le_refl _) _
    have hcell:=(h6dd.blk.ext hB).cells 1 _ rfl
    rw [h6dd.out.rd.n] at hcell
    exact ⟨hcell,key⟩
  ·have hge:=of_decide_eq_false hge
   have:i=m:=by omega
   subst this
   rw [Nat.sub_self,copyN] at hcp
   refine hK 0 _ _ _ _ h6 t6 ?_
   rw [hcp]
   exact ⟨rfl,rfl,rfl⟩
theorem q4s {c:Cfg} {K:Int→World→Prop} {td:Nat×Slc×Slc} (h:RSt w base g rg s out bs c.hist most at_) (ht:TabK w base out t c.sg) (htd:TabK w base out td c.ds) (hm:c.mode=4) (hbase:base≤w.heap.size)
  (hK:∀e out' hist' a' w',RSt w' base g rg s out' bs hist' most a'→RTo w w' g rg out out'→RRes most bs c at_ (if c.last then 5 else 0) e a' hist'→K e w'):qg0 (some ⟨g,0,none⟩) (some ⟨t.1,0,none⟩) (some ⟨td.1,0,none⟩) w K:=by
 refine qwp _ _ _ ?_
 unfold qjc
 simp only [onPtr_some]
 have ebase:∀{w4 out4},RTo w w4 g rg out out4→base≤w4.heap.size:=fun t=>Nat.le_trans hbase t.chg.size
 refine qc6 (fun m (_:Unit) w4=>∃(out4:Slc) (c4:Cfg) (a4:Nat),m=8*bs.length-a4∧RSt w4 base g rg s out4 bs c4.hist most a4∧RTo w w4 g rg out out4∧Ch most bs c at_ c4 a4∧c4.mode=4∧c4.sg=c.sg∧c4.ds=c.ds∧c4.last=c.last∧TabK w4 base out4 t c.sg∧TabK w4 base out4 td c.ds) _
  ⟨out,c,at_,rfl,h,RTo.refl _ _ _ _,.refl _ _,hm,rfl,rfl,rfl,ht,htd⟩ ?_
 rintro m _ w4 ⟨out4,c4,a4,rfl,h4,t4,hch,hm4,hsg,hds,hla,ht4,htd4⟩ I hI
 have hpre:c4.hist <+: c4.hist:=List.prefix_refl _
 have st4:step1 most bs a4 c4=qcn most bs a4 c4:=by rw [step1,if_neg (by omega),stepN,if_neg (by omega),if_neg (by omega),if_neg (by omega),if_neg (by omega)]
 refine qbf (x:=some ⟨rg,0,none⟩) (h4.blk.cells 0 _ rfl) ?_
 refine qu4 h4 ht4 fun w5 a5 z e h5 t5 hmm=>?_
 have t05:=t4.trans t5
 rw [←hsg] at hmm
 cases hrd:readT c4.sg bs a4 with
 | short =>
  rw [hrd] at hmm
  obtain ⟨rfl,rfl⟩:=hmm
  refine cT rfl (hK _ _ _ _ _ h5 t05 (.of_ch hch (RRes.short ?_ (by omega) hpre)))
  rw [st4,qcn,hrd]
 | form =>
  rw [hrd] at hmm
  obtain ⟨rfl,rfl⟩:=hmm
  refine cT rfl (hK _ _ _ _ _ h5 t05 (.of_ch hch (RRes.err (n:=3) ?_ (by decide) rfl hpre)))
  rw [st4,qcn,hrd]
 | sym y k =>
  rw [hrd] at hmm
  obtain ⟨rfl,rfl,rfl,_⟩:=hmm
  have hle5:=h5.rdr.le
  have hk1:=(zay hrd).1
  refine cF rfl ?_
  by_cases h256:y=256
  ·refine cT (beq_iff_eq.2 (by omega)) ?_
   have hst:step1 most bs a4 c4=.next c4.behind (a4+k):=by
    rw [st4,qcn,hrd];dsimp only;rw [if_pos h256]
   have r:=RRes.of_ch hch (RRes.done hst)
   have em:c4.behind.mode=if c.last then 5 else 0:=by unfold Cfg.behind;rw [hla]
   rw [em] at r
   exact hK _ _ _ _ _ h5 t05 r
  refine cF (beq_eq_false_iff_ne.2 (by omega)) ?_
  by_cases h285:285<y
  ·refine cT (decide_eq_true (by omega)) (hK _ _ _ _ _ h5 t05 (.of_ch hch (RRes.err (n:=3) ?_ (by decide) rfl hpre)))
   rw [st4,qcn,hrd];dsimp only;rw [if_neg h256,if_pos h285]
  refine cF (decide_eq_false (by omega)) ?_
  have ht5:=ht4.keep h4 t5
  have htd5:=htd4.keep h4 t5
  by_cases hlt:y<256
  ·refine cT (decide_eq_true (by omega)) ?_
   have h5d:=h5.drew
   have t5d:=RTo.drew w5 g rg out4
   refine lSl (x:=out4) (h5d.blk.cells 1 _ rfl) ?_
   refine lI (x:=(most:Int)) (h5d.blk.cells 2 _ rfl) ?_
   rw [h5d.out.rd.n]
   refine cO (fun hfull=>?_) (fun hroom=>?_)
   ·have hfull:=of_decide_eq_true hfull
    refine hK _ _ _ _ _ h5d (t05.trans t5d) (.of_ch hch (RRes.err (n:=5) ?_ (by decide) rfl hpre))
    rw [st4,qcn,hrd];dsimp only;rw [if_neg h256,if_neg h285,if_pos hlt,if_pos (by omega)]
   ·have hroom:=of_decide_eq_false hroom
    refine lSl (x:=out4) (h5d.blk.cells 1 _ rfl) ?_
    have hbv:(UInt8.ofNat y).toNat=y:=by rw [UInt8.toNat_ofNat'];omega
    refine h5d.put (b:=UInt8.ofNat y) (ebase (t05.trans t5d)) (by rw [hbv,qad .u8 (x:=y) (by show _<2^8;omega)]) (by omega) fun out6 w6 h6 t6=>?_
    have hst:step1 most bs a4 c4=.next { c4 with hist:=c4.hist++[UInt8.ofNat y] } (a4+k):=by
     rw [st4,qcn,hrd];dsimp only;rw [if_neg h256,if_neg h285,if_pos hlt,if_neg (by omega)]
    exact hI (8*bs.length-(a4+k)) _ w6 ⟨out6,{ c4 with hist:=c4.hist++[UInt8.ofNat y] },a4+k,rfl,h6,(t05.trans t5d).trans t6,hch.trans (.one hst),hm4,hsg,hds,hla,(ht5.keep h5 t5d).keep h5d t6,(htd5.keep h5 t5d).keep h5d t6⟩ (by omega)
  ·refine cF (decide_eq_false (by omega)) ?_
   have hcop:=zam (most:=most) hrd (by omega) (by omega)
   rw [←st4] at hcop
   rw [←hds] at htd5
   refine ze4 h5 htd5 (by omega) (by omega) (ebase t05) fun e out6 hist6 a6 w6 h6 t6 hmm=>?_
   have t06:=t05.trans t6
   rw [←hcop] at hmm
   cases hr:step1 most bs a4 c4 with
   | short =>
    rw [hr] at hmm
    obtain ⟨rfl,hp⟩:=hmm
    exact cT rfl (hK _ _ _ _ _ h6 t06 (.of_ch hch (RRes.short hr (by omega) hp)))
   | err n =>
    rw [hr] at hmm
    obtain ⟨rfl,hn,hp⟩:=hmm
    exact cT (by
             have:((n:Nat):Int)≠0:=by omega
             simpa using this) (hK _ _ _ _ _ h6 t06 (.of_ch hch (RRes.err hr hn rfl hp)))
   | next c6 a6' =>
    rw [hr] at hmm
    obtain ⟨rfl,rfl,rfl⟩:=hmm
    have hcc:c6={ c4 with hist:=c6.hist }:=by
     rw [hcop] at hr
     unfold copyR at hr
     split at hr
     ·cases hr
     ·split at hr
      ·cases hr
      ·cases hr
      ·split at hr
       ·cases hr
       ·split at hr
        ·cases hr
        ·split at hr
         ·cases hr
         ·split at hr
          ·cases hr
          ·injection hr with hr _;rw [←hr]
    have hle6:=h6.rdr.le
    have hmu:=qo1 hr (h4.rdr.le)
    have ht6:=ht5.keep h5 t6
    have htd6:=htd5.keep h5 t6
    rw [hds] at htd6
    have hm6:c6.mode=4:=by rw [hcc];exact hm4
    have hmu2:=hmu.2.2
    unfold mu at hmu2
    rw [if_neg (by omega),if_neg (by omega)] at hmu2
    refine cF rfl ?_
    exact hI (8*bs.length-a6) _ w6 ⟨out6,c6,a6,rfl,h6,t06,hch.trans (.one hr),hm6,by rw [hcc];exact hsg,by rw [hcc];exact hds,by rw [hcc];exact hla,ht6,htd6⟩ (by omega)
end
end Go.Proofs.YtmagnpcgpinmcaaGreat
namespace Go.Proofs.YtmagnpcgpinmcaaGreat
open Go.Vc Go.RowKit
set_option maxRecDepth 400000
section
variable {w w':World} {base g rg:Nat} {s out:Slc} {bs hist ls:List UInt8} {most at_ B:Nat}
theorem RSt.lt (h:RSt w base g rg s out bs hist most at_) (hb:base≤w.heap.size):∀k,rS g rg out k∨s.blk=some k→k<w.heap.size:=by
 rintro k ((rfl | rfl | e) | e)
 ·exact h.blk.lt
 ·exact h.rdr.blk.lt
 ·exact (h.out.lt k e).2
 ·have:=h.sb k e;omega
theorem RSt.keepB (h:RSt w base g rg s out bs hist most at_) (hl:∀k,rS g rg out k∨s.blk=some k→k<B) (hb:Below B w w'):RSt w' base g rg s out bs hist most at_:=by
 have hc:=Chg.of_below hb
 refine ⟨h.blk.chg hc fun e=>?_,h.rdr.chg hc (fun e=>?_) fun k hk e=>?_,h.out.chg hc fun k hk e=>?_,h.hg,h.hr,h.sb,h.hm,h.mo⟩
 ·have:=hl g (.inl (.inl rfl));omega
 ·have:=hl rg (.inl (.inr (.inl rfl)));omega
 ·have:=hl k (.inr hk);omega
 ·have:=hl k (.inl (.inr (.inr hk)));omega
theorem RTo.keepB {w0:World} (h:RTo w0 w g rg out out) (hb:Below w0.heap.size w w'):RTo w0 w' g rg out out:=⟨h.chg.trans (Chg.of_below hb) fun i hi hs=>by omega,.inl rfl⟩
theorem RTab.keepB {b t:Nat} {lo co:Slc} (h:RTab w b t lo co ls) (hl:t<B∧∀k,lo.blk=some k∨co.blk=some k→k<B) (hb:Below B w w'):RTab w' b t lo co ls:=by
 have hc:=Chg.of_below hb
 refine ⟨h.blk.chg hc fun e=>?_,h.hg,h.lo.chg hc fun k hk e=>?_,h.co.chg hc fun k hk e=>?_,h.sm,h.good⟩
 ·have:=hl.1;omega
 ·have:=hl.2 k (.inl hk);omega
 ·have:=hl.2 k (.inr hk);omega
theorem RTab.lt {b t:Nat} {lo co:Slc} (h:RTab w b t lo co ls):t<w.heap.size∧∀k,lo.blk=some k∨co.blk=some k→k<w.heap.size :=
 ⟨h.blk.lt,fun k hk=>by
  rcases hk with hk | hk
  ·exact (h.lo.lt k hk).2
  ·exact (h.co.lt k hk).2⟩
theorem zbk {t:Nat×Slc×Slc} {n:Nat} {K:Slc→Int→World→Prop} (h:RSt w base g rg s out bs hist most at_) (ht:TabK w base out t ls) (hls:ls.length≤19) (hn:n≤399) (hbase:base≤w.heap.size)
  (hK:∀(r:Slc) (e:Int) (a':Nat) w',RSt w' base g rg s out bs hist most a'→RTo w w' g rg out out→(match qbz ls bs n 400 at_ [] with | .lens l a=>e=0∧Own qaa w' w.heap.size r l∧a'=a | .short=>e=2 | .form=>e=3)→K r e w'):qip (some ⟨g,0,none⟩) (some ⟨t.1,0,none⟩) (n:Int) w K:=by
 refine qs6 _ _ _ ?_
 unfold qho
 simp only [onPtr_some]
 have hlt:=h.lt hbase
 have htlt:=ht.1.lt
 obtain ⟨R,hR⟩:∃R,R=qbz ls bs n 400 at_ []:=⟨_,rfl⟩
 rw [←hR] at hK
 refine qc6 (fun m (r:Slc×Unit) w1=>∃(l:List UInt8) (f a1:Nat),m=n-l.length∧l.length≤n∧400≤f+l.length∧R=qbz ls bs n f a1 l∧RSt w1 base g rg s out bs hist most a1∧RTo w w1 g rg out out∧TabK w1 base out t ls∧Own qaa w1 w.heap.size r.1 l) n
  ⟨[],400,at_,by simp,by simp,by simp,hR,h,RTo.refl _ _ _ _,ht,Own.nil _ _ _⟩ ?_
 rintro m ⟨r,_⟩ w1 ⟨l,f,a1,rfl,hln,hf,hgo,h1,t1,ht1,ho1⟩ I hI
 dsimp only at *
 clear hR
 have hs1:=t1.chg.size
 rw [ho1.rd.n]
 obtain ⟨f',rfl⟩:∃f',f=f'+1:=⟨f-1,by omega⟩
 rw [qbz] at hgo
 have row:∀{w2 w3},RTo w2 w3 g rg out out→∀{r:Slc} {l:List UInt8},Own qaa w2 w.heap.size r l→Own qaa w3 w.heap.size r l:=fun {w2 w3} hto {r l} ho=>Own.chg ho hto.chg fun k hk e=>by
  have:=(ho.lt k hk).1
  have:=hlt k (.inl e)
  omega
 refine cO (fun hl=>?_) (fun hl=>?_)
 rotate_left
 ·have hl:=of_decide_eq_false hl
  rw [if_pos (by omega)] at hgo
  refine hK r 0 a1 w1 h1 t1 ?_
  rw [hgo]
  exact ⟨rfl,ho1,rfl⟩
 have hl:=of_decide_eq_true hl
 rw [if_neg (by omega)] at hgo
 refine qbf (x:=some ⟨rg,0,none⟩) (h1.blk.cells 0 _ rfl) ?_
 refine qu4 h1 ht1 fun w2 a2 z e h2 t2 hm=>?_
 have t02:=t1.trans t2
 cases hrd:readT ls bs a1 with
 | short =>
  rw [hrd] at hm hgo
  obtain ⟨rfl,rfl⟩:=hm
  have hgo:R=.short:=hgo
  refine cT rfl (hK _ _ _ _ h2 t02 ?_)
  rw [hgo]
  rfl
 | form =>
  rw [hrd] at hm hgo
  obtain ⟨rfl,rfl⟩:=hm
  have hgo:R=.form:=hgo
  refine cT rfl (hK _ _ _ _ h2 t02 ?_)
  rw [hgo]
  rfl
 | sym y k =>
  rw [hrd] at hm hgo
  obtain ⟨rfl,rfl,rfl,hy⟩:=hm
  dsimp only at hgo
  refine cF rfl ?_
  have ho2:=row t2 ho1
  have ht2:=ht1.keep h1 t2
  have hs2:=t02.chg.size
  have hle2:=h2.rdr.le
  by_cases h16:y<16
  ·
   refine cT (decide_eq_true (by omega)) ?_
   have hyv:(UInt8.ofNat y).toNat=y:=by rw [UInt8.toNat_ofNat'];omega
   refine apB1 (c:=UInt8.ofNat y) (by rw [hyv,qad .u8 (x:=y) (by show _<2^8;omega)]) ho2 hs2 (by omega) fun r3 w3 ho3 hc3 _=>?_
   have hB3:Below w.heap.size w2 w3:=hc3.below hs2 fun i hi e=>by have:=(ho2.lt i e).1;omega
   have e3:(if y=18 then ((11:Nat),(7:Nat),(0:UInt8)) else if y=17 then (3,3,0) else if y=16 then (3,2,l.getLastD 0) else (1,0,UInt8.ofNat y))=(1,0,UInt8.ofNat y):=by rw [if_neg (by omega),if_neg (by omega),if_neg (by omega)]
   rw [if_neg (show ¬(y=16∧l=[]) by omega)] at hgo
   simp only [e3] at hgo
   have hp0:peekN bs (a1+k) 0=0:=by have:=qaz bs (a1+k) 0;omega
   rw [if_neg (by omega),hp0,if_neg (by omega)] at hgo
   exact hI (n-(l++[UInt8.ofNat y]).length) _ w3 ⟨l++[UInt8.ofNat y],f',a1+k,rfl,by simp;omega,by simp;omega,hgo,h2.keepB hlt hB3,t02.keepB hB3,⟨ht2.1.keepB htlt hB3,ht2.2⟩,ho3⟩ (by simp;omega)
  refine cF (decide_eq_false (by omega)) ?_
  refine jpO fun J hJ=>?_
  have go:∀(b m:Nat) (v:UInt8),1≤b→b≤11→m≤7→R=(if 8*bs.length<a1+k+m then .short else if n<l.length+b+peekN bs (a1+k) m then .form else qbz ls bs n f' (a1+k+m) (l++List.replicate (b+peekN bs (a1+k) m) v))→J ((b:Int),(m:Int),(v.toNat:Int),()) w2:=fun b m v hb1 hb2 hm7 hgo=>hJ _ _ (by
   clear hJ
   dsimp only
   refine qbf (x:=some ⟨rg,0,none⟩) (h2.blk.cells 0 _ rfl) ?_
   refine qcx (n:=m) h2 (by omega) (fun hf1 w3 h3 t3=>?_) (fun hs3 w3 h3 t3=>?_)
   rotate_left
   ·refine cT rfl (hK _ _ _ _ h3 (t02.trans t3) ?_)
    rw [hgo,if_pos hs3]
   rw [if_neg (by omega)] at hgo
   refine cF rfl ?_
   have p1:=qaz bs (a1+k) m
   have q1:2^m≤2^7:=Nat.pow_le_pow_right (by decide) hm7
   obtain ⟨q,hq⟩:∃q,q=b+peekN bs (a1+k) m:=⟨_,rfl⟩
   have eq1:IntKind.i64.wrap ((b:Int)+IntKind.i64.wrap ((peekN bs (a1+k) m:Nat):Int))=(q:Int):=by
    rw [qad .i64 (x:=peekN bs (a1+k) m) (by show _<2^63;omega),w64i (by omega),hq];rfl
   rw [eq1,w64i (x:=((l.length:Nat):Int)+(q:Int)) (by omega)]
   have t03:=t02.trans t3
   by_cases hbig:n<l.length+b+peekN bs (a1+k) m
   ·refine cT (decide_eq_true (by omega)) (hK _ _ _ _ h3 t03 ?_)
    rw [hgo,if_pos hbig]
   rw [if_neg hbig,←hq] at hgo
   refine cF (decide_eq_false (by omega)) ?_
   have ho3:=row t3 ho2
   have ht3:=ht2.keep h2 t3
   have hs3:=t03.chg.size
   refine lpR (fun (u:Slc×Int×Unit) w4=>∃i:Nat,u.2.1=i∧i≤q∧Own qaa w4 w.heap.size u.1 (l++List.replicate i v)∧Below w.heap.size w3 w4) (fun u=>q-u.2.1.toNat) ⟨0,rfl,by omega,by simpa using ho3,Below.refl _ _⟩ ?_
   rintro ⟨u,i,_⟩ w4 ⟨i,rfl,hi,ho4,hB4⟩ I3 hI3
   dsimp only at *
   have hs4:=hB4.size
   refine cO (fun hlt4=>?_) (fun hge4=>?_)
   ·have hlt4:=of_decide_eq_true hlt4
    refine apB1 (c:=v) rfl ho4 (by omega) (by simp;omega) fun r5 w5 ho5 hc5 _=>?_
    have hB5:Below w.heap.size w4 w5:=hc5.below (by omega) fun j hj e=>by have:=(ho4.lt j e).1;omega
    rw [w64i (by omega)]
    refine hI3 _ _ ⟨i+1,rfl,by omega,?_,hB4.trans hB5⟩ (by simp;omega)
    rw [List.replicate_succ',←List.append_assoc]
    exact ho5
   ·have hge4:=of_decide_eq_false hge4
    have:i=q:=by omega
    subst this
    have el:(l++List.replicate i v).length=l.length+i:=by simp
    exact hI (n-(l++List.replicate i v).length) _ w4 ⟨l++List.replicate i v,f',a1+k+m,rfl,by omega,by omega,hgo,h3.keepB hlt hB4,t03.keepB hB4,⟨ht3.1.keepB htlt hB4,ht3.2⟩,ho4⟩ (by omega))
  by_cases e16:y=16
  ·subst e16
   refine cT rfl ?_
   by_cases hnil:l=[]
   ·refine cT (by rw [hnil];rfl) (hK _ _ _ _ h2 t02 ?_)
    rw [if_pos ⟨rfl,hnil⟩] at hgo
    rw [hgo]
   ·have hpos:0<l.length:=List.length_pos_iff.2 hnil
    have e3:(if 16=18 then ((11:Nat),(7:Nat),(0:UInt8)) else if 16=17 then (3,3,0) else if 16=16 then (3,2,l.getLastD 0) else (1,0,UInt8.ofNat 16))=(3,2,l.getLastD 0):=rfl
    rw [if_neg (show ¬(16=16∧l=[]) from fun hh=>hnil hh.2)] at hgo
    simp only [e3] at hgo
    refine cF (beq_eq_false_iff_ne.2 (by omega)) ?_
    rw [w64i (x:=((l.length:Nat):Int)-1) (by omega),show ((l.length:Nat):Int)-1=((l.length-1:Nat):Int) by omega]
    obtain ⟨x,hx,hxs⟩:=qat (xs:=l) (k:=l.length-1) (by omega)
    refine ho2.rd.ix (i:=((l.length-1:Nat):Int)) rfl (by omega) (by omega) fun hc=>?_
    rw [hxs] at hc
    refine ldB8 (b:=x) hc ?_
    have hlast:l.getLastD 0=x:=by
     rw [List.getLastD_eq_getLast?,List.getLast?_eq_getElem?,hx]
     rfl
    rw [hlast] at hgo
    exact go 3 2 x (by decide) (by decide) (by decide) hgo
  ·rw [if_neg (show ¬(y=16∧l=[]) from fun hh=>e16 hh.1)] at hgo
   refine cF (beq_eq_false_iff_ne.2 (by omega)) ?_
   by_cases e17:y=17
   ·subst e17
    have e3:(if 17=18 then ((11:Nat),(7:Nat),(0:UInt8)) else if 17=17 then (3,3,0) else if 17=16 then (3,2,l.getLastD 0) else (1,0,UInt8.ofNat 17))=(3,3,0):=rfl
    simp only [e3] at hgo
    exact cT rfl (go 3 3 0 (by decide) (by decide) (by decide) hgo)
   ·have e18:y=18:=by omega
    subst e18
    have e3:(if 18=18 then ((11:Nat),(7:Nat),(0:UInt8)) else if 18=17 then (3,3,0) else if 18=16 then (3,2,l.getLastD 0) else (1,0,UInt8.ofNat 18))=(11,7,0):=rfl
    simp only [e3] at hgo
    exact cF rfl (cT rfl (go 11 7 0 (by decide) (by decide) (by decide) hgo))
end
end Go.Proofs.YtmagnpcgpinmcaaGreat
namespace Go.Proofs.YtmagnpcgpinmcaaGreat
open Go.Vc Go.RowKit
set_option maxRecDepth 400000
theorem q50 (t bs:List UInt8) (n:Nat) {l':List UInt8} {a':Nat}:∀(f a:Nat) (l:List UInt8),qbz t bs n f a l=.lens l' a'→n≤l'.length
 | 0,a,l,h=>by cases h
 | f+1,a,l,h=>by
  rw [qbz] at h
  split at h
  ·next hn=>cases h;exact hn
  ·split at h
   ·cases h
   ·cases h
   ·next y k hr =>
    split at h
    ·cases h
    ·generalize (if y=18 then ((11:Nat),(7:Nat),(0:UInt8)) else if y=17 then (3,3,0) else if y=16 then (3,2,l.getLastD 0) else (1,0,UInt8.ofNat y))=T at h
     obtain ⟨b,m,v⟩:=T
     dsimp only at h
     split at h
     ·cases h
     ·split at h
      ·cases h
      ·exact q50 t bs n f _ _ h
section
variable {w w':World} {base g rg:Nat} {s out:Slc} {bs:List UInt8} {most at_:Nat}
theorem q9l {c:Cfg} {K:Int→World→Prop} (h:RSt w base g rg s out bs c.hist most at_) (hm:c.mode=3) (hbase:base≤w.heap.size)
  (hK:∀(e:Int) out' hist' a' w',RSt w' base g rg s out' bs hist' most a'→RTo w w' g rg out out'→RRes most bs c at_ (if c.last then 5 else 0) e a' hist'→K e w'):qh8 (some ⟨g,0,none⟩) w K:=by
 refine qtc _ ?_
 unfold qhq
 simp only [onPtr_some]
 have hpre:c.hist <+: c.hist:=List.prefix_refl _
 have st0:step1 most bs at_ c=qi9 bs at_ c:=by rw [step1,if_neg (by omega),stepN,if_neg (by omega),if_neg (by omega),if_neg (by omega),if_pos hm]
 unfold qi9 at st0
 have hlt:=h.lt hbase
 have short:∀a' w',step1 most bs at_ c=.short→RSt w' base g rg s out bs c.hist most a'→RTo w w' g rg out out→K 2 w':=fun a' w' hs h' t'=>hK _ _ _ _ _ h' t' (RRes.short hs (by omega) hpre)
 have bad:∀a' w',step1 most bs at_ c=.err 3→RSt w' base g rg s out bs c.hist most a'→RTo w w' g rg out out→K 3 w':=fun a' w' hs h' t'=>hK _ _ _ _ _ h' t' (RRes.err hs (by decide) rfl hpre)
 refine qbf (x:=some ⟨rg,0,none⟩) (h.blk.cells 0 _ rfl) ?_
 refine qcx (n:=5) h (by decide) (fun hf1 w1 h1 t1=>?_) (fun hs1 w1 h1 t1=>?_)
 rotate_left
 ·rw [if_pos (by omega)] at st0
  exact cT rfl (short _ _ st0 h1 t1)
 refine cF rfl ?_
 refine qbf (x:=some ⟨rg,0,none⟩) (h1.blk.cells 0 _ rfl) ?_
 refine qcx (n:=5) h1 (by decide) (fun hf2 w2 h2 t2=>?_) (fun hs2 w2 h2 t2=>?_)
 rotate_left
 ·rw [if_pos (by omega)] at st0
  exact cT rfl (short _ _ st0 h2 (t1.trans t2))
 refine cF rfl ?_
 refine qbf (x:=some ⟨rg,0,none⟩) (h2.blk.cells 0 _ rfl) ?_
 refine qcx (n:=4) h2 (by decide) (fun hf3 w3 h3 t3=>?_) (fun hs3 w3 h3 t3=>?_)
 rotate_left
 ·rw [if_pos (by omega)] at st0
  exact cT rfl (short _ _ st0 h3 ((t1.trans t2).trans t3))
 refine cF rfl ?_
 rw [if_neg (by omega)] at st0
 dsimp only at st0
 rw [show at_+5+5=at_+10 by omega] at h3 hf3 ⊢
 rw [show at_+10+4=at_+14 by omega] at h3 hf3
 have t03:=(t1.trans t2).trans t3
 have pa:=qaz bs at_ 5
 have pb:=qaz bs (at_+5) 5
 have pd:=qaz bs (at_+10) 4
 obtain ⟨a,ha⟩:∃a,a=peekN bs at_ 5:=⟨_,rfl⟩
 obtain ⟨b,hb⟩:∃b,b=peekN bs (at_+5) 5:=⟨_,rfl⟩
 obtain ⟨d,hd⟩:∃d,d=peekN bs (at_+10) 4:=⟨_,rfl⟩
 rw [←ha] at pa st0 ⊢
 rw [←hb] at pb st0 ⊢
 rw [←hd] at pd st0 ⊢
 refine jpO fun J hJ=>?_
 by_cases hab:29<a∨29<b
 ·rw [if_pos hab] at st0
  by_cases h29:29<a
  ·exact cT (decide_eq_true (by omega)) (bad _ _ st0 h3 t03)
  ·exact cF (decide_eq_false (by omega)) (cT (decide_eq_true (by omega)) (bad _ _ st0 h3 t03))
 rw [if_neg hab] at st0
 refine cF (decide_eq_false (by omega)) (cF (decide_eq_false (by omega)) (hJ _ _ ?_))
 clear hJ
 have hs03:=t03.chg.size
 refine nwb fun w5 hb5 hB5 hs5=>?_
 obtain ⟨T,hT⟩:∃T,T=w3.heap.size:=⟨_,rfl⟩
 rw [←hT] at hb5 ⊢
 refine qes qar (x0:=(0:UInt8)) (n:=19) rfl rfl rfl (by rw [qcg];omega) (by simp only [maxLen];omega) fun w6 ho6 hB6=>?_
 obtain ⟨q,hq⟩:∃q:Slc,q=⟨some ⟨w5.heap.size,0,none⟩,19,19⟩:=⟨_,rfl⟩
 rw [←hq] at ho6 ⊢
 have hB36:Below w.heap.size w3 w6:=(hB5.mono hs03).trans (hB6.mono (by omega))
 have h6:=h3.keepB hlt hB36
 have t06:=t03.keepB hB36
 have hb6:=hb5.ext hB6
 have ho6:Own qaa w6 w.heap.size q (List.replicate 19 0):=ho6.base (by omega)
 have hTb:w.heap.size≤T:=by omega
 have d4:IntKind.i64.wrap (IntKind.i64.wrap (d:Int)+4)=((d+4:Nat):Int):=by
  rw [qad .i64 (x:=d) (by show _<2^63;omega),w64i (by omega)];rfl
 rw [d4]
 have row:∀{w2 w3},RTo w2 w3 g rg out out→∀{r:Slc} {l:List UInt8},Own qaa w2 w.heap.size r l→Own qaa w3 w.heap.size r l:=fun {w2 w3} hto {r l} ho=>Own.chg ho hto.chg fun k hk e=>by
  have:=(ho.lt k hk).1
  have:=hlt k (.inl e)
  omega
 obtain ⟨oc,hoc⟩:∃oc:List Value,oc=[(.int .i64 16),(.int .i64 17),(.int .i64 18),(.int .i64 0),(.int .i64 8),(.int .i64 7),(.int .i64 9),(.int .i64 6),(.int .i64 10),(.int .i64 5),(.int .i64 11),(.int .i64 4),(.int .i64 12),(.int .i64 3),(.int .i64 13),(.int .i64 2),(.int .i64 14),(.int .i64 1),(.int .i64 15)]:=⟨_,rfl⟩
 have hocg:∀i,i<19→oc[i]?=some (.int .i64 ((qfu.getD i 0:Nat):Int)):=by
  intro i hi
  have e:oc=qfu.map (fun n:Nat=>Value.int .i64 (n:Int)):=by rw [hoc];rfl
  have hl:qfu[i]?=some (qfu.getD i 0):=by
   rw [List.getD_eq_getElem?_getD,List.getElem?_eq_getElem (show i<qfu.length from hi)]
   rfl
  rw [e,List.getElem?_map,hl]
  rfl
 rw [←hoc] at hb6
 refine lpR (fun (u:Int×Unit) w7=>∃i:Nat,u.1=i∧i≤d+4∧RSt w7 base g rg s out bs c.hist most (at_+14+3*i)∧RTo w w7 g rg out out∧Blk w7 T qbh oc∧Own qaa w7 w.heap.size q (clens bs (at_+14) i)) (fun u=>d+4-u.1.toNat)
  ⟨0,rfl,by omega,h6,t06,hb6,ho6⟩ ?_
 rintro ⟨i,_⟩ w7 ⟨i,rfl,hi,h7,t7,hb7,ho7⟩ I hI
 dsimp only at *
 have hs7:=t7.chg.size
 have hclen:∀i,(clens bs (at_+14) i).length=19:=fun i=>by
  induction i with
  | zero=>simp [clens]
  | succ i ih=>rw [clens,List.length_set];exact ih
 refine cO (fun hl=>?_) (fun hl=>?_)
 ·have hl:=of_decide_eq_true hl
  refine qbf (x:=some ⟨rg,0,none⟩) (h7.blk.cells 0 _ rfl) ?_
  refine qcx (n:=3) h7 (by decide) (fun hf8 w8 h8 t8=>?_) (fun hs8 w8 h8 t8=>?_)
  rotate_left
  ·rw [if_pos (by omega)] at st0
   exact cT rfl (short _ _ st0 h8 (t7.trans t8))
  refine cF rfl ⟨by omega,?_⟩
  have hb8:Blk w8 T qbh oc:=hb7.chg t8.chg fun e=>by have:=hlt T (.inl e);omega
  have ho8:=row t8 ho7
  have hs8:=(t7.trans t8).chg.size
  have hcell:=hb8.cells i _ (hocg i (by omega))
  refine lI (x:=((qfu.getD i 0:Nat):Int)) (by simpa using hcell) ?_
  have hord:=q8i i (by omega)
  have p3:=qaz bs (at_+14+3*i) 3
  obtain ⟨x,hx,hxs⟩:=qat (xs:=clens bs (at_+14) i) (k:=qfu.getD i 0) (by rw [hclen];exact hord)
  have hpv:(UInt8.ofNat (peekN bs (at_+14+3*i) 3)).toNat=peekN bs (at_+14+3*i) 3:=by rw [UInt8.toNat_ofNat'];omega
  refine ho8.rd.ix (i:=((qfu.getD i 0:Nat):Int)) rfl (by omega) (by rw [hclen];omega) fun _=>?_
  refine ho8.st0 (x:=x) (y:=UInt8.ofNat (peekN bs (at_+14+3*i) 3)) hx (by show [Value.int .u8 _]=_;rw [hpv,qad .u8 (x:=peekN bs (at_+14+3*i) 3) (by show _<2^8;omega)]) fun w9 ho9 hg9 hs9=>?_
  have hc9:Chg (fun j=>q.blk=some j) w8 w9:=Chg.of_grown hg9 fun j hj=>hj
  have hB9:Below w.heap.size w8 w9:=hc9.below hs8 fun j hj e=>by have:=(ho8.lt j e).1;omega
  rw [w64i (by omega)]
  refine hI _ _ ⟨i+1,rfl,by omega,?_,(t7.trans t8).keepB hB9,hb8.chg hc9 fun e=>qae ho8 hb8 (by decide) T e rfl,ho9⟩ (by simp;omega)
  have:=h8.keepB hlt hB9
  rwa [show at_+14+3*i+3=at_+14+3*(i+1) by omega] at this
 have hl:=of_decide_eq_false hl
 have hid:i=d+4:=by omega
 subst hid
 have hle7:=h7.rdr.le
 rw [if_neg (by omega)] at st0
 obtain ⟨cl,hcl⟩:∃cl,cl=clens bs (at_+14) (d+4):=⟨_,rfl⟩
 rw [←hcl] at st0 ho7
 have hcl19:cl.length=19:=by rw [hcl,hclen]
 refine qnp ho7.rd (fun hbad e he=>?_) (fun hok tg lo co w8 tab8 hB8=>?_)
 ·rw [if_pos hbad] at st0
  exact cT (by simpa using he) (bad _ _ st0 h7 t7)
 rw [if_neg hok] at st0
 refine cF rfl ?_
 have hB78:Below w.heap.size w7 w8:=hB8.mono hs7
 have h8:=h7.keepB hlt hB78
 have t8:=t7.keepB hB78
 have hs8:=t8.chg.size
 have tabK:∀{w2 w3:World} {tg lo co ls},w.heap.size≤w2.heap.size→RTab w3 w2.heap.size tg lo co ls→TabK w3 base out (tg,lo,co) ls:=fun {w2 w3 tg lo co ls} hle tab=>⟨tab.base (by omega),fun k hk e=>by
  have:=(tab.lo.lt k hk).1
  have:=hlt k (.inl (.inr (.inr e)))
  omega⟩
 have en:IntKind.i64.wrap ((IntKind.i64.wrap ((IntKind.i64.wrap ((IntKind.i64.wrap (a:Int))+(257:Int)))+(IntKind.i64.wrap (b:Int))))+(1:Int))=((a+257+b+1:Nat):Int):=by
  rw [qad .i64 (x:=a) (by show _<2^63;omega),qad .i64 (x:=b) (by show _<2^63;omega),w64i (x:=(a:Int)+257) (by omega),w64i (x:=(a:Int)+257+(b:Int)) (by omega),w64i (by omega)]
  omega
 have en2:IntKind.i64.wrap ((IntKind.i64.wrap (a:Int))+(257:Int))=((a+257:Nat):Int):=by
  rw [qad .i64 (x:=a) (by show _<2^63;omega),w64i (by omega)];rfl
 rw [en,en2]
 refine zbk (t:=(tg,lo,co)) (n:=a+257+b+1) h8 (tabK hs7 tab8) (by omega) (by omega) (by omega) fun r e a9 w9 h9 t9 hmm=>?_
 have t09:=t8.trans t9
 rw [show at_+14+3*(d+4)=at_+14+3*(d+4) from rfl] at hmm
 cases hgo:qbz cl bs (a+257+b+1) 400 (at_+14+3*(d+4)) [] with
 | short =>
  rw [hgo] at hmm st0
  have hmm:e=2:=hmm
  subst hmm
  exact cT rfl (short _ _ st0 h9 t09)
 | form =>
  rw [hgo] at hmm st0
  have hmm:e=3:=hmm
  subst hmm
  exact cT rfl (bad _ _ st0 h9 t09)
 | lens l a9' =>
  rw [hgo] at hmm st0
  obtain ⟨rfl,hol,rfl⟩:=hmm
  dsimp only at st0
  have hll:=q50 cl bs _ _ _ _ hgo
  refine cF rfl ?_
  have hs9:=t09.chg.size
  have hln:=hol.rd.n
  refine hol.rd.slK (l:=0) (m:=a+257) rfl (.inl ⟨rfl,rfl⟩) (.inr rfl) (by omega) (by omega) fun hp1=>?_
  rw [List.drop_zero] at hp1
  refine qnp hp1 (fun hbad e he=>?_) (fun hok1 tg1 lo1 co1 w10 tab10 hB10=>?_)
  ·rw [if_pos (.inl hbad)] at st0
   exact cT (by simpa using he) (bad _ _ st0 h9 t09)
  refine cF rfl ?_
  have hB9':Below w.heap.size w9 w10:=hB10.mono hs9
  have h10:=h9.keepB hlt hB9'
  have t10:=t09.keepB hB9'
  have hs10:=t10.chg.size
  have hol10:=hol.ext hB10
  refine hol10.rd.slK (l:=a+257) (m:=l.length) rfl (.inr rfl) (.inl ⟨rfl,rfl⟩) (by omega) (Nat.le_refl _) fun hp2=>?_
  rw [List.take_length] at hp2
  refine qnp hp2 (fun hbad e he=>?_) (fun hok2 tg2 lo2 co2 w11 tab11 hB11=>?_)
  ·rw [if_pos (.inr (.inl hbad))] at st0
   refine jpO fun J3 _=>?_
   exact cT (by simpa using he) (bad _ _ st0 h10 t10)
  have hB10':Below w.heap.size w10 w11:=hB11.mono hs10
  have h11:=h10.keepB hlt hB10'
  have t11:=t10.keepB hB10'
  have hs11:=t11.chg.size
  have hol11:=hol10.ext hB11
  refine jpO fun J3 hJ3=>cF rfl ?_
  obtain ⟨x,hx,hxs⟩:=qat (xs:=l) (k:=256) (by omega)
  have hgd:l.getD 256 0=x:=by rw [List.getD_eq_getElem?_getD,hx];rfl
  refine hol11.rd.ix (i:=256) rfl (by omega) (by omega) fun hc=>?_
  have hxs':∀h,l[((256:Int)).toNat]'h=x:=hxs
  rw [hxs'] at hc
  refine ldB8 (b:=x) hc ?_
  by_cases hx0:x=0
  ·rw [if_pos (.inr (.inr (by rw [hgd,hx0])))] at st0
   exact cT (by rw [hx0];rfl) (bad _ _ st0 h11 t11)
  rw [if_neg (fun hh=>by
   rcases hh with hh | hh | hh
   ·exact hok1 hh
   ·exact hok2 hh
   ·rw [hgd] at hh;exact hx0 hh)] at st0
  refine cF (beq_eq_false_iff_ne.2 fun e=>hx0 (UInt8.toNat.inj (by rw [show (0:UInt8).toNat=0 from rfl];omega))) (hJ3 _ _ ?_)
  have k1:=tabK hs9 (tab10.ext hB11)
  have k2:=tabK hs10 tab11
  refine q4s (c:={ c with mode:=4,sg:=l.take (a+257),ds:=l.drop (a+257) }) (t:=(tg1,lo1,co1)) (td:=(tg2,lo2,co2)) h11 k1 k2 rfl (by omega) fun e out' hist' a' w' h' t' r=>?_
  exact hK e out' hist' a' w' h' (t11.trans t') (.of_ch (.one st0) r)
end
end Go.Proofs.YtmagnpcgpinmcaaGreat
namespace Go.Proofs.YtmagnpcgpinmcaaGreat
open Go.Vc Go.RowKit
set_option maxRecDepth 400000
theorem zln:∀i,i<288→qbx[i]?=some (if i<144 then 8 else if i<256 then 9 else if i<280 then 7 else 8):=by decide +kernel
theorem zh4:qgo qbx∧¬qeh qbx:=by
 have a:∀x∈qbx,x.toNat≤15:=by decide +kernel
 have b:roomN qbx=32768:=by decide +kernel
 refine ⟨⟨a,.inl b⟩,fun h=>?_⟩
 rcases h with (h | ⟨x,hx,hx15⟩) | h
 ·exact absurd h (by decide +kernel)
 ·have:=a x hx;omega
 ·exact h (.inl b)
theorem zcr {w:World} {K:Slc→Slc→World→Prop} (hK:∀r q w',Own qaa w' w.heap.size r qbx→Own qaa w' w.heap.size q (List.replicate 30 5)→Below w.heap.size w w'→K r q w'):qv0 w K:=by
 refine zae ?_
 unfold qsb
 refine qes qar (x0:=(0:UInt8)) (n:=288) rfl rfl rfl (by rw [qcg];omega) (by simp only [maxLen];omega) fun w1 ho1 hB1=>?_
 obtain ⟨t,ht⟩:∃t:Slc,t=⟨some ⟨w.heap.size,0,none⟩,288,288⟩:=⟨_,rfl⟩
 rw [←ht] at ho1 ⊢
 have hfl:qbx.length=(List.replicate 288 (0:UInt8)).length:=by decide
 have hrl:(List.replicate 288 (0:UInt8)).length=288:=by decide
 refine lpR (fun (s:Int×Unit) w2=>∃i:Nat,s.1=i∧i≤288∧Own qaa w2 w.heap.size t (mix qbx (List.replicate 288 0) i)∧Below w.heap.size w w2) (fun s=>288-s.1.toNat) ⟨0,rfl,by omega,by rw [qgy];exact ho1,hB1⟩ ?_
 rintro ⟨i,_⟩ w2 ⟨i,rfl,hi,ho2,hB2⟩ I hI
 dsimp only at *
 refine cO (fun hlt=>?_) (fun hge=>?_)
 ·have hlt:=of_decide_eq_true hlt
  have hi2:i<288:=by omega
  rw [w64i (by omega)]
  have hf:=zln i hi2
  have one:∀v:UInt8,qbx[i]?=some v→ixK t (i:Int) 1 fun t19=>stK t19 [(.int .u8 (v.toNat:Int))] w2 fun w3=>I ((i:Int)+1,()) w3:=fun v hv=>by
   refine ho2.rd.ix (i:=(i:Int)) rfl (by omega) (by rw [qd4 hfl,hrl];omega) fun _=>?_
   refine ho2.st0 (x:=0) (y:=v) (by rw [show ((i:Int)).toNat=i from rfl,qgp hfl (by rw [hrl];exact hi2),if_neg (by omega),List.getElem?_replicate,if_pos hi2]) rfl fun w3 ho3 hg3 hs3=>?_
   rw [show ((i:Int)).toNat=i from rfl,qi5 hfl (by rw [hrl];exact hi2) hv] at ho3
   have hc3:Chg (fun j=>t.blk=some j) w2 w3:=Chg.of_grown hg3 fun j hj=>hj
   exact hI _ _ ⟨i+1,rfl,by omega,ho3,hB2.trans (hc3.below hB2.size fun j hj e=>by have:=(ho2.lt j e).1;omega)⟩ (by simp;omega)
  refine cO (fun h1=>?_) (fun h1=>?_)
  ·have h1:=of_decide_eq_true h1
   rw [if_pos (by omega)] at hf
   exact one 8 hf
  ·have h1:=of_decide_eq_false h1
   rw [if_neg (by omega)] at hf
   refine cO (fun h2=>?_) (fun h2=>?_)
   ·have h2:=of_decide_eq_true h2
    rw [if_pos (by omega)] at hf
    exact one 9 hf
   ·have h2:=of_decide_eq_false h2
    rw [if_neg (by omega)] at hf
    refine cO (fun h3=>?_) (fun h3=>?_)
    ·have h3:=of_decide_eq_true h3
     rw [if_pos (by omega)] at hf
     exact one 7 hf
    ·have h3:=of_decide_eq_false h3
     rw [if_neg (by omega)] at hf
     exact one 8 hf
 ·have hge:=of_decide_eq_false hge
  have:i=288:=by omega
  subst this
  have hm:=qi7 hfl
  rw [hrl] at hm
  rw [hm] at ho2
  refine qes qar (x0:=(0:UInt8)) (n:=30) rfl rfl rfl (by rw [qcg];omega) (by simp only [maxLen];omega) fun w3 ho3 hB3=>?_
  obtain ⟨u,hu⟩:∃u:Slc,u=⟨some ⟨w2.heap.size,0,none⟩,30,30⟩:=⟨_,rfl⟩
  rw [←hu] at ho3 ⊢
  have hfl:(List.replicate 30 (5:UInt8)).length=(List.replicate 30 (0:UInt8)).length:=by decide
  have hrl:(List.replicate 30 (0:UInt8)).length=30:=by decide
  refine lpR (fun (s:Int×Unit) w4=>∃i:Nat,s.1=i∧i≤30∧Own qaa w4 w2.heap.size u (mix (List.replicate 30 5) (List.replicate 30 0) i)∧Below w2.heap.size w2 w4) (fun s=>30-s.1.toNat) ⟨0,rfl,by omega,by rw [qgy];exact ho3,hB3⟩ ?_
  rintro ⟨i,_⟩ w4 ⟨i,rfl,hi,ho4,hB4⟩ I hI
  dsimp only at *
  refine cO (fun hlt=>?_) (fun hge=>?_)
  ·have hlt:=of_decide_eq_true hlt
   have hi2:i<30:=by omega
   rw [w64i (by omega)]
   refine ho4.rd.ix (i:=(i:Int)) rfl (by omega) (by rw [qd4 hfl,hrl];omega) fun _=>?_
   refine ho4.st0 (x:=0) (y:=5) (by rw [show ((i:Int)).toNat=i from rfl,qgp hfl (by rw [hrl];exact hi2),if_neg (by omega),List.getElem?_replicate,if_pos hi2]) rfl fun w5 ho5 hg5 hs5=>?_
   rw [show ((i:Int)).toNat=i from rfl,qi5 hfl (by rw [hrl];exact hi2) (by rw [List.getElem?_replicate,if_pos hi2])] at ho5
   have hc5:Chg (fun j=>u.blk=some j) w4 w5:=Chg.of_grown hg5 fun j hj=>hj
   exact hI _ _ ⟨i+1,rfl,by omega,ho5,hB4.trans (hc5.below hB4.size fun j hj e=>by have:=(ho4.lt j e).1;omega)⟩ (by simp;omega)
  ·have hge:=of_decide_eq_false hge
   have:i=30:=by omega
   subst this
   have hm:=qi7 hfl
   rw [hrl] at hm
   rw [hm] at ho4
   exact hK t u w4 (ho2.ext hB4) (ho4.base hB2.size) (hB2.trans (hB4.mono hB2.size))
end Go.Proofs.YtmagnpcgpinmcaaGreat
namespace Go.Proofs.YtmagnpcgpinmcaaGreat
open Go.Vc Go.RowKit
set_option maxRecDepth 400000
theorem RRes.le {most:Nat} {bs:List UInt8} {c:Cfg} {a m':Nat} {e:Int} {a':Nat} {hist':List UInt8} (h:RRes most bs c a m' e a' hist') (ha:a≤8*bs.length) (he:e=0):a≤a':=by
 rcases h with ⟨_,c',h1,_,_⟩ | ⟨c',a'',n,h1,h2,h3,_⟩
 ·exact (h1.le ha).2.1
 ·exfalso
  rcases h2 with ⟨_,_,rfl⟩ | ⟨_,hn⟩
  ·omega
  ·omega
section
variable {w w':World} {base g rg:Nat} {s out:Slc} {bs:List UInt8} {most at_:Nat}
theorem zh7:qgo fiveL∧¬qeh fiveL:=by
 have a:∀x∈fiveL,x.toNat≤15:=by decide +kernel
 have b:roomN fiveL=32768:=by decide +kernel
 refine ⟨⟨a,.inl b⟩,fun h=>?_⟩
 rcases h with (h | ⟨x,hx,hx15⟩) | h
 ·exact absurd h (by decide +kernel)
 ·have:=a x hx;omega
 ·exact h (.inl b)
theorem zdj {c:Cfg} {K:Bool→Int→World→Prop} (h:RSt w base g rg s out bs c.hist most at_) (hm:c.mode=0) (hbase:base≤w.heap.size)
  (hK:∀(last:Bool) (e:Int) out' hist' a' w',RSt w' base g rg s out' bs hist' most a'→RTo w w' g rg out out'→RRes most bs c at_ (if last then 5 else 0) e a' hist'→(e=0→at_+3≤a')→K last e w'):qko (some ⟨g,0,none⟩) w K:=by
 refine qwu _ ?_
 unfold qjg
 simp only [onPtr_some]
 have hpre:c.hist <+: c.hist:=List.prefix_refl _
 have st0:step1 most bs at_ c=qf0 bs at_ c:=by rw [step1,if_neg (by omega),stepN,if_pos hm]
 unfold qf0 at st0
 have hlt:=h.lt hbase
 refine qbf (x:=some ⟨rg,0,none⟩) (h.blk.cells 0 _ rfl) ?_
 refine qcx (n:=1) h (by decide) (fun hf1 w1 h1 t1=>?_) (fun hs1 w1 h1 t1=>?_)
 rotate_left
 ·rw [if_pos (by omega)] at st0
  exact cT rfl (hK false 2 _ _ _ _ h1 t1 (RRes.short st0 (by omega) hpre) fun e=>by omega)
 refine cF rfl ?_
 refine qbf (x:=some ⟨rg,0,none⟩) (h1.blk.cells 0 _ rfl) ?_
 refine qcx (n:=2) h1 (by decide) (fun hf2 w2 h2 t2=>?_) (fun hs2 w2 h2 t2=>?_)
 rotate_left
 ·rw [if_pos (by omega)] at st0
  exact cT rfl (hK false 2 _ _ _ _ h2 (t1.trans t2) (RRes.short st0 (by omega) hpre) fun e=>by omega)
 refine cF rfl ?_
 have t02:=t1.trans t2
 rw [if_neg (by omega)] at st0
 dsimp only at st0
 have ev1:peekN bs at_ 3%2=peekN bs at_ 1:=q8l bs at_ 1 3 (by decide)
 have ev2:peekN bs at_ 3/2=peekN bs (at_+1) 2:=by
  have:=q8s bs at_ 1 3 (by decide)
  rwa [Nat.pow_one] at this
 rw [ev1,ev2] at st0
 have p1:=qaz bs at_ 1
 have p2:=qaz bs (at_+1) 2
 obtain ⟨v,hv⟩:∃v,v=peekN bs at_ 1:=⟨_,rfl⟩
 obtain ⟨k,hk⟩:∃k,k=peekN bs (at_+1) 2:=⟨_,rfl⟩
 rw [←hv] at p1 st0 ⊢
 rw [←hk] at p2 st0 ⊢
 rw [show at_+1+2=at_+3 by omega] at h2 hf2
 have el:((v:Int)==(1:Int))=(v==1):=by
  cases hh:(v==1) with
  | true=>rw [eq_of_beq hh];rfl
  | false=>exact beq_eq_false_iff_ne.2 (by have:=beq_eq_false_iff_ne.1 hh;omega)
 rw [el]
 have hs02:=t02.chg.size
 have go:∀(c1:Cfg),step1 most bs at_ c=.next c1 (at_+3)→c1.last=(v==1)→∀{w3:World},RTo w w3 g rg out out→∀(e:Int) out' hist' a' w',RSt w' base g rg s out' bs hist' most a'→RTo w3 w' g rg out out'→RRes most bs c1 (at_+3) (if c1.last then 5 else 0) e a' hist'→K (v==1) e w':=fun c1 hst hla {w3} t3 e out' hist' a' w' h' t' r=>by
  rw [hla] at r
  exact hK (v==1) e out' hist' a' w' h' (t3.trans t') (.of_ch (.one hst) r) fun e0=>r.le hf2 e0
 by_cases k0:k=0
 ·refine cT (by rw [k0];rfl) ?_
  rw [if_pos k0] at st0
  exact zbp (c:={ c with last:=v==1,mode:=1 }) h2 rfl (by omega) fun e out' hist' a' w' h' t' r=>go _ st0 rfl t02 e out' hist' a' w' h' t' r
 rw [if_neg k0] at st0
 refine cF (beq_eq_false_iff_ne.2 (by omega)) ?_
 by_cases k1:k=1
 ·refine cT (by rw [k1];rfl) ?_
  rw [if_pos k1] at st0
  refine zcr fun q6 q7 w3 ho3 _ hB3=>?_
  refine qnp ho3.rd (fun hh=>absurd hh zh4.2) fun _ tg lo co w4 tab4 hB4=>?_
  have hs3:=hB3.size
  have hB24:Below w2.heap.size w2 w4:=hB3.trans (hB4.mono hs3)
  have hs4:=hB24.size
  refine qes qar (x0:=(0:UInt8)) (n:=32) rfl rfl rfl (by rw [qcg];omega) (by simp only [maxLen];omega) fun w5 ho5 hB5=>?_
  obtain ⟨u,hu⟩:∃u:Slc,u=⟨some ⟨w4.heap.size,0,none⟩,32,32⟩:=⟨_,rfl⟩
  rw [←hu] at ho5 ⊢
  have hfl:(List.replicate 32 (5:UInt8)).length=(List.replicate 32 (0:UInt8)).length:=by decide
  have hrl:(List.replicate 32 (0:UInt8)).length=32:=by decide
  refine lpR (fun (t:Int×Unit) w6=>∃i:Nat,t.1=i∧i≤32∧Own qaa w6 w4.heap.size u (mix (List.replicate 32 5) (List.replicate 32 0) i)∧Below w4.heap.size w4 w6) (fun t=>32-t.1.toNat) ⟨0,rfl,by omega,by rw [qgy];exact ho5,hB5⟩ ?_
  rintro ⟨i,_⟩ w6 ⟨i,rfl,hi,ho6,hB6⟩ I hI
  dsimp only at *
  refine cO (fun hlt6=>?_) (fun hge=>?_)
  ·have hlt6:=of_decide_eq_true hlt6
   have hi2:i<32:=by omega
   rw [w64i (by omega)]
   refine ho6.rd.ix (i:=(i:Int)) rfl (by omega) (by rw [qd4 hfl,hrl];omega) fun _=>?_
   refine ho6.st0 (x:=0) (y:=5) (by rw [show ((i:Int)).toNat=i from rfl,qgp hfl (by rw [hrl];exact hi2),if_neg (by omega),List.getElem?_replicate,if_pos hi2]) rfl fun w7 ho7 hg7 hs7=>?_
   rw [show ((i:Int)).toNat=i from rfl,qi5 hfl (by rw [hrl];exact hi2) (by rw [List.getElem?_replicate,if_pos hi2])] at ho7
   have hc7:Chg (fun j=>u.blk=some j) w6 w7:=Chg.of_grown hg7 fun j hj=>hj
   exact hI _ _ ⟨i+1,rfl,by omega,ho7,hB6.trans (hc7.below hB6.size fun j hj e=>by have:=(ho6.lt j e).1;omega)⟩ (by simp;omega)
  ·have hge:=of_decide_eq_false hge
   have:i=32:=by omega
   subst this
   have hm6:=qi7 hfl
   rw [hrl] at hm6
   rw [hm6] at ho6
   have hs6:=hB6.size
   have ho6':Rd qaa w6 u fiveL:=ho6.rd
   refine qnp ho6' (fun hh=>absurd hh zh7.2) fun _ tg2 lo2 co2 w8 tab8 hB8=>?_
   have hB48:Below w4.heap.size w4 w8:=hB6.trans (hB8.mono hs6)
   have hB28:Below w.heap.size w2 w8:=(hB24.trans (hB48.mono hs4)).mono hs02
   have h8:=h2.keepB hlt hB28
   have t8:=t02.keepB hB28
   have hs8:=hB28.size
   have tabK:∀{b:Nat} {tg lo co ls},w.heap.size≤b→RTab w8 b tg lo co ls→TabK w8 base out (tg,lo,co) ls:=fun {b tg lo co ls} hle tab=>⟨tab.base (by omega),fun k hk e=>by
    have:=(tab.lo.lt k hk).1
    have:=hlt k (.inl (.inr (.inr e)))
    omega⟩
   have k1:=tabK (by omega) (tab4.ext hB48)
   have k2:=tabK (by omega) tab8
   exact q4s (c:={ c with last:=v==1,mode:=4,sg:=qbx,ds:=fiveL }) (t:=(tg,lo,co)) (td:=(tg2,lo2,co2)) h8 k1 k2 rfl (by omega) fun e out' hist' a' w' h' t' r=>go _ st0 rfl t8 e out' hist' a' w' h' t' r
 rw [if_neg k1] at st0
 refine cF (beq_eq_false_iff_ne.2 (by omega)) ?_
 by_cases k2:k=2
 ·refine cT (by rw [k2];rfl) ?_
  rw [if_pos k2] at st0
  exact q9l (c:={ c with last:=v==1,mode:=3 }) h2 rfl (by omega) fun e out' hist' a' w' h' t' r=>go _ st0 rfl t02 e out' hist' a' w' h' t' r
 ·rw [if_neg k2] at st0
  exact cF (beq_eq_false_iff_ne.2 (by omega)) (hK false 3 _ _ _ _ h2 t02 (RRes.err st0 (by decide) rfl hpre) fun e=>by omega)
end
def zmr (most:Nat) (bs:List UInt8) (e u:Int) (hist':List UInt8):Prop :=
 (e=0∧∃c' a',Ch most bs cfg0 0 c' a'∧c'.mode=5∧c'.hist=hist'∧u=(((a'+7)/8:Nat):Int)) ∨
 (u=0∧∃c' a'' n,Ch most bs cfg0 0 c' a''∧(step1 most bs a'' c'=.short∧c'.mode≠5∧n=2∨step1 most bs a'' c'=.err n∧n≠0)∧e=((n:Nat):Int)∧c'.hist <+: hist')
theorem ze7 {w:World} {b:Slc} {bs:List UInt8} {most:Nat} {K:Slc→Int→Int→World→Prop} (hb:Rd qaa w b bs) (hbl:∀k,b.blk=some k→k<w.heap.size) (hl:bs.length≤1000000000) (hm:most≤1073741824)
  (hK:∀o u e hist' w',zmr most bs e u hist'→hist'.length≤most→Own qaa w' w.heap.size o hist'→Below w.heap.size w w'→K o u e w'):qpa b (most:Int) w K:=by
 refine q9p _ _ ?_
 unfold qsl
 refine nwb fun w1 hb1 hB1 hs1=>?_
 obtain ⟨rg,hrg⟩:∃rg,rg=w.heap.size:=⟨_,rfl⟩
 refine nwb fun w2 hb2 hB2 hs2=>?_
 obtain ⟨g,hg⟩:∃g,g=w1.heap.size:=⟨_,rfl⟩
 rw [←hrg] at hb1 hb2
 rw [←hg] at hb2 ⊢
 have hB02:Below w.heap.size w w2:=hB1.trans (hB2.mono (by omega))
 have h2:RSt w2 w.heap.size g rg b nilS bs (cfg0).hist most 0:=⟨hb2,⟨hb1.ext hB2,hb.ext hB02,fun k hk=>by have:=hbl k hk;omega,Nat.zero_le _,hl⟩,Own.nil _ _ _,by omega,by omega,fun k hk=>hbl k hk,Nat.zero_le _,hm⟩
 have hs02:=hB02.size
 refine qc6 (fun m (_:Unit) w3=>∃(out3:Slc) (c3:Cfg) (a3:Nat),m=8*bs.length-a3∧RSt w3 w.heap.size g rg b out3 bs c3.hist most a3∧Below w.heap.size w w3∧Ch most bs cfg0 0 c3 a3∧c3.mode=0) _ ⟨nilS,cfg0,0,rfl,h2,hB02,.refl _ _,rfl⟩ ?_
 rintro m _ w3 ⟨out3,c3,a3,rfl,h3,hB3,hch,hm3⟩ I hI
 have hs3:=hB3.size
 refine zdj h3 hm3 hs3 fun last e out4 hist4 a4 w4 h4 t4 r hle=>?_
 have hB4:=hB3.trans (t4.below h3 hs3)
 have hs4:=hB4.size
 rcases r with ⟨rfl,c',hc',hmode,rfl⟩ | ⟨c',a'',n,hc',hst,rfl,hp⟩
 ·refine cF rfl ?_
  have hle3:=hle rfl
  have hle4:=h4.rdr.le
  cases last with
  | true =>
   refine cT rfl ?_
   have h4d:=h4.drew
   refine lSl (x:=out4) (h4d.blk.cells 1 _ rfl) ?_
   refine qbf (x:=some ⟨rg,0,none⟩) (h4d.blk.cells 0 _ rfl) ?_
   rw [onPtr_some]
   refine lI (x:=(a4:Int)) (h4d.rdr.blk.cells 1 _ rfl) ⟨by decide,?_⟩
   have eu:IntKind.i64.wrap ((IntKind.i64.wrap ((a4:Int)+(7:Int))).tdiv (8:Int))=(((a4+7)/8:Nat):Int):=by
    rw [w64i (x:=(a4:Int)+7) (by omega),show (a4:Int)+7=((a4+7:Nat):Int) from rfl,show (8:Int)=((8:Nat):Int) from rfl,←Int.ofNat_tdiv,w64i (by omega)]
   rw [eu]
   have hBd:Below w.heap.size w4 w4.drew:=((Below.refl _ w4).drew).mono hs4
   exact hK out4 _ 0 c'.hist _ (.inl ⟨rfl,c',a4,hch.trans hc',hmode,rfl,rfl⟩) h4.hm h4d.out (hB4.trans hBd)
  | false =>
   refine cF rfl ?_
   exact hI (8*bs.length-a4) _ w4 ⟨out4,c',a4,rfl,h4,hB4,hch.trans hc',hmode⟩ (by omega)
 ·have hn0:n≠0:=by
   rcases hst with ⟨_,_,rfl⟩ | ⟨_,hn⟩
   ·decide
   ·exact hn
  refine cT (by
           have:((n:Nat):Int)≠0:=by omega
           simpa using this) ?_
  refine lSl (x:=out4) (h4.blk.cells 1 _ rfl) ?_
  exact hK out4 0 _ hist4 w4 (.inr ⟨rfl,c',a'',n,hch.trans hc',hst,rfl,hp⟩) h4.hm h4.out hB4
end Go.Proofs.YtmagnpcgpinmcaaGreat
namespace Go.Proofs.YtmagnpcgpinmcaaGreat
open Go.Vc Go.RowKit
set_option maxRecDepth 400000
end Go.Proofs.YtmagnpcgpinmcaaGreat
namespace Go.Proofs.YtmagnpcgpinmcaaGreat
open Go.Vc Go.RowKit
set_option maxRecDepth 400000
section
variable {w:World}
theorem q46 {vs:List Value} {n:Nat} {bs:List UInt8} {K:Slc→World→Prop} (hv:vs=bs.map fun b=>Value.int .u8 (b.toNat:Int)) (hn:n=bs.length) (hl:bs.length≤1000000)
  (hK:∀s w',Rd qaa w' s bs→s.blk=some w.heap.size→Below w.heap.size w w'→w'.heap.size=w.heap.size+1→K s w') :
  nw qai vs w fun t w1=>runK1 PG (convert qab qab (.slice (some t) n n)) Kind.slice w1 K:=by
 subst hn hv
 refine ⟨⟨some ⟨w.heap.size,0,none⟩,bs.length,bs.length⟩,_,Lib.run_convert_bytes_const w qab qai _ _ _ (by kernel_rfl) (by kernel_rfl),hK _ _ ⟨rfl,Nat.le_refl _,by show bs.length≤maxLen;simp only [maxLen];omega,fun _=>rfl,fun i x hx j v hj=>?_⟩ rfl ((Below.refl _ w).alloc (Nat.le_refl _) _) (by simp)⟩
 have hj0:j=0:=by
  have:=(List.getElem?_eq_some_iff.1 hj).1
  simp [qaa] at this
  exact this
 subst hj0
 have hv:v=.int .u8 (x.toNat:Int):=by
  simp [qaa] at hj
  exact hj.symm
 subst hv
 have hi:i<bs.length:=(List.getElem?_eq_some_iff.1 hx).1
 show World.cell? _ (((⟨w.heap.size,0,none⟩:Addr).add (i*1)).add 0)=_
 rw [add_zero,qag,Nat.mul_one,Nat.zero_add]
 have hnew:∀o:Obj,(w.alloc o).heap[w.heap.size]?=some o:=fun o=>by
  show (w.heap.push o)[w.heap.size]?=_
  simp
 unfold World.cell?
 dsimp only
 rw [hnew]
 show (bs.map fun b=>Value.int .u8 (b.toNat:Int)).toArray[i]?=_
 rw [List.getElem?_toArray,List.getElem?_map,hx]
 rfl
theorem zl0 {a b:List UInt8} (ha:a.length=4) (hb:b.length=4) (h:bigN a=bigN b):a=b:=by
 match a,ha,b,hb with
 | [a0,a1,a2,a3],_,[b0,b1,b2,b3],_ =>
  rw [big4,big4] at h
  have h0:=a0.toNat_lt
  have h1:=a1.toNat_lt
  have h2:=a2.toNat_lt
  have h3:=a3.toNat_lt
  have g0:=b0.toNat_lt
  have g1:=b1.toNat_lt
  have g2:=b2.toNat_lt
  have g3:=b3.toNat_lt
  rw [UInt8.toNat.inj (show a0.toNat=b0.toNat by omega),UInt8.toNat.inj (show a1.toNat=b1.toNat by omega),UInt8.toNat.inj (show a2.toNat=b2.toNat by omega),UInt8.toNat.inj (show a3.toNat=b3.toNat by omega)]
end
end Go.Proofs.YtmagnpcgpinmcaaGreat
