import Derived.Test.YtlmpnfhmpjldaaaGreatDoorP4
import Derived.Test.YtlmpnfhmpjldaaaGreatDoorP5
import Derived.JoinedOf
import Derived.Test.YtlmpnfhmpjldaaaGreatDoorP1
import GoSem.ClaimSeven
import Derived.Test.YtlmpnfhmpjldaaaGreatDoorChecked
import Derived.Test.YtlmpnfhmpjldaaaGreatDoorVc
import Derived.Test.YtlmpnfhmpjldaaaGreatDoorRows
set_option linter.unusedVariables false
namespace Go.Proofs.YtlmpnfhmpjldaaaGreatDoor
open Go.Vc Go.RowKit
set_option maxRecDepth 400000
open IntKind (i64)
open _root_.List (length_append length_map length_nil mem_cons)
open _root_.Nat (le_refl mul_le_mul zero_le)
section
variable {w w':World} {base:Nat} {F F':TmF} {T T':TS}
theorem zj0 {g n:Nat} {F:KF} {E:KE} (h:EngM w base g F E n) (id:Int) {K:qa->Bool->Ub} (hK:∀w',Uc w w'->K (((zA E.S.L id).map Im.v).getD qtg).m (zA E.S.L id).isSome w'):Z5 (some ⟨g,0,none⟩) id w K:=by
 refine qjb _ _ ?_;refine nwb λw1 b1 B1 s1=>qw (qK (x:=some ⟨F.sg,0,none⟩) ((h.blk.ext B1).cells 1 _ rfl) ?_);refine KZ _ _ ?_;refine nwb λw2 b2 B2 s2=>?_;have BB:=bT B1 B2;have z1:=B1.size;have z2:=B2.size;have hs:=h.st.ext BB;refine qw (xP (x:=some F.sr) (hs.blk.cells 4 _ rfl) (qsh hs.map id ?_));generalize ((zA E.S.L id).map Im.v).getD qtg=v at hK ⊢;refine qgf λw4 b4 B4 s4=>?_;have B14:=bT B2 B4;have z4:=B4.size;refine qy (r:=qa.rep) (x:=v.m) (b4.sub 1 _ rfl) ?_;have b24:=b2.ext B4;refine zn (r:=qa.rep) (x:=v.m) b24 rfl rfl λw5 c5 s5=>?_;have b15:=(b1.ext B14).chg c5 (by omega);refine zn (r:=qa.rep) (x:=v.m) b15 rfl rfl λw6 c6 s6=>hK w6 ?_;exact b1o (b1o (bT BB B4) c5 (by omega)) c6 (le_refl _)
theorem q9x {x:Slc} {f:Value} (hx:x.n=1) {K:Ub} (hK:K w):zt x f w K:=by
 refine ji _ _ ?_;refine xC _ _ _ ?_;rw [hx];refine lpR (λ(st:Int×Int×Unit) w1=>st=(0,20,())/\w1=w) (λ_=>0) ⟨rfl,rfl⟩ ?_;rintro _ w1 ⟨rfl,rfl⟩ I hI;refine cF rfl ?_;refine jM _ _ _ _ ?_;refine lpR (λ(st:Int×Unit) w2=>st.1=1/\w2=w1) (λ_=>0) ⟨rfl,rfl⟩ ?_;rintro ⟨i,u⟩ w2 ⟨rfl,rfl⟩ I2 hI2;refine cF rfl ?_;refine lpR (λ(st:Int×Unit) w3=>st.1=20/\w3=w2) (λ_=>0) ⟨rfl,rfl⟩ ?_;rintro ⟨i,u⟩ w3 ⟨rfl,rfl⟩ I3 hI3;exact cF rfl hK
theorem zey (h:TermM w base F T) (hP:T.E.T=[p7]) {v:qD} (hv:v.Alt=false/\v.Top=0/\v.Rows=2) {K:Slc->Ub} (hK:∀r w',Go.Vc.Own qS w' w.heap.size r [p7]->Uc w w'->K r w'):zd (some ⟨F.eg,0,none⟩) v w K:=by
 refine Ji _ _ ?_;refine nwb λw1 h1 hB1 hs1=>?_;simp only [onPtr_some];have m1:=(h.ext hB1).drew;refine qK (x:=some ⟨F.KF.tg,0,none⟩) (m1.en.blk.cells 2 _ rfl) (qy (r:=qD.rep) (x:=v) h1.drew.cells ?_);refine J0 _ _ ?_;refine nwb λw2 h2 hB2 hs2=>?_;simp only [onPtr_some];have m2:=m1.ext hB2;have B2:=bT (bT hB1 (bdw w1)) hB2;have z2:=B2.size;have z1:=(bT hB1 (bdw w1)).size;refine lSl (x:=F.KF.q) (m2.en.tb.blk.cells 0 _ rfl) ?_;have hr:=m2.en.tb.own.rd;have hn:=hr.n;rw [hP] at hn hr;refine lpR (λ(st:Slc×Int×Unit) w3=>∃k:Nat,st.2.1=(k:Int)/\k<=1/\Go.Vc.Own qS w3 w2.heap.size st.1 (if k=0 then [] else [p7])/\Uc w2 w3) (λst=>1-st.2.1.toNat)
  ⟨0,rfl,by decide,Go.Vc.Own.nil _ _ _,Below.refl _ _⟩ ?_
 rintro ⟨sl,i,u⟩ w3 ⟨k,hk1,hk,ho3,B3⟩ I hI;dsimp only at hk1 ho3 ⊢;subst hk1;refine cO (λe=>?_) λe=>?_
 ·have e:=oTq e;rw [hn] at e;obtain rfl:k=0:=by simp at e;omega
  have ho3:Go.Vc.Own qS w3 w2.heap.size sl []:=ho3;have hr3:=hr.ext B3;refine hr3.ix (E:=qS) (i:=((0:Nat):Int)) (k:=14) rfl (by decide) (by decide) λhcc=>?_;refine qy (r:=qf.rep) (x:=p7) hcc ?_;refine jd rfl λw4 b4 B4 s4=>?_;have B24:=bT B3 B4;have h24:=h2.ext B24;have z3:=B3.size;have z4:=B4.size;refine jpO λJ2 hJ2=>?_;refine jw (x:=false) (b4.cells 2 _ rfl) (jw (x:=false) (by rw [<-hv.1];exact h24.cells 0 _ rfl) (cT rfl (qy (r:=qf.rep) (x:=p7) b4.cells ?_)));refine lI (x:=0) (by rw [<-hv.2.1];exact h24.cells 1 _ rfl) (lI (x:=2) (by rw [<-hv.2.2];exact h24.cells 2 _ rfl) ?_);refine zbn λw5 B5=>?_;have e1:q9h p7 0 2 0 1073741824=true:=by kernel_rfl
  rw [e1];refine hJ2 _ _ (cT rfl (qy (r:=qf.rep) (x:=p7) (b4.ext B5).cells ?_));have B35:=bT B4 B5;have z5:=B5.size;refine qa5 (E:=qS) j6 (ho3.ext B35) (y:=p7) rfl (by omega) (by rw [yK];decide) (by decide) λr w7 ho7 c7 hr7=>?_;refine hI _ _ ⟨1,by show i64.wrap (((0:Nat):Int)+1)=((1:Nat):Int);decide,by decide,ho7,(bT B3 B35).trans (c7.below (by omega) λi hi hs=>by have:=(ho3.lt i hs).1;omega)⟩ (by show (0:Nat)<1;decide)
 ·have e:=oFq e;rw [hn] at e;obtain rfl:k=1:=by simp at e;omega
  have ho3:Go.Vc.Own qS w3 w2.heap.size sl [p7]:=ho3;refine q9x ho3.rd.n (hK sl w3 (ho3.base z2) (bT B2 B3))
theorem zke {K:Nat->Ub} (hK:∀w',zP qy7 w' w.heap.size ([]:List (Int×qa))->Uc w w'->K w.heap.size w'):nwM w K:=hK _ (zP.new w) ((Below.refl _ w).alloc (le_refl _) _)
end
theorem q29 {V:Type} {k:Int} {v:V}:∀{L:List (Int×V)},(∀p∈L,p.1<k)->kC L k v=L++[(k,v)]
 | [],_=>rfl
 | p::r,h=>by
  have hp:=h p List.mem_cons_self;show (if k<p.1 then _ else if k=p.1 then _ else _)=_;rw [if_neg (by omega),if_neg (by omega),q29 λq hq=>h q (List.mem_cons_of_mem _ hq)];rfl
def imM (p:Int×Im):Int×qa:=(p.1,p.2.v.m)
section
variable {w w':World} {base:Nat} {F F':TmF} {T T':TS}
def znv (w:World) (F:TmF) (T:TS) (ps:List qf):Prop :=
 ∀{wx:World} {K:Slc->Ub},Uc w wx->(∀r wy,Go.Vc.Own qS wy wx.heap.size r ps->Uc wx wy->K r wy)->zd (some ⟨F.eg,0,none⟩) (yL T).View wx K
theorem zjp (h:TermM w base F T) (hn:T.n<=900) {ps:List qf} (hO:znv w F T ps) {cw ch:Nat} (ecw:T.c.CellW=cw) (ech:T.c.CellH=ch) (lim:1<=cw/\cw<=64/\1<=ch/\ch<=64) {K:qx->Ub}
  (hK:∀s w' mp,ScnM w' w'.heap.size s T.S.g.rows T.S.g.cols cw ch T.S.g.L->s.Top=T.S.g.top->Rd qS w' s.Places ps->(∀a,s.Places.a=some a->a.block<w'.heap.size)->s.Images=some mp->zP qy7 w' mp (T.E.S.L.map imM)->s.Cursor=(T.S.modeP 25 true).1->s.Row=T.S.c.Row->s.Col=T.S.c.Col->Uc w w'->K s w'):Xl (some ⟨F.tg,0,none⟩) (.func (.func Yh) #[(.pointer (some ⟨F.eg,0,none⟩))] #[]) w K:=by
 refine qko _ _ ?_;refine nwb λw1 h1 hB1 hs1=>qto (h.ext hB1) λw2 hB2=>?_;refine jd (vs:=qs.rep.cells (yL T)) rfl λw4 h4 hB4 hs4=>?_;have B4:=bT (bT hB1 hB2) hB4;have z1:=hB1.size;have z2:=hB2.size;have z4:=hB4.size;have hm0:=(h.ext B4).drew;have hv0:=h4.drew;have ht0:=((h1.ext hB2).ext hB4).drew;have B04:=bT B4 (bdw w4);have hG:=h.sc.gOk;refine jpO λJ1 hJ1=>?_;have c1:∀{wx},Below w4.drew.heap.size w4.drew wx->wx.cell? (((⟨w2.heap.size,0,none⟩:Addr).add 0).add 1)=some (Ua T.S.g.top):=λhB=>by rw [zR];exact (hv0.ext hB).cells 1 _ rfl
 have c2:∀{wx},Below w4.drew.heap.size w4.drew wx->wx.cell? (((⟨w2.heap.size,0,none⟩:Addr).add 0).add 2)=some (Ua T.S.g.rows):=λhB=>by rw [zR];exact (hv0.ext hB).cells 2 _ rfl
 have c3:∀{wx},Below w4.drew.heap.size w4.drew wx->wx.cell? (((⟨w2.heap.size,0,none⟩:Addr).add 0).add 3)=some (Ua T.S.g.cols):=λhB=>by rw [zR];exact (hv0.ext hB).cells 3 _ rfl
 have c4:∀{wx},Below w4.drew.heap.size w4.drew wx->wx.cell? (((⟨w2.heap.size,0,none⟩:Addr).add 0).add 4)=some (Ua T.S.c.Row):=λhB=>by rw [zR];exact (hv0.ext hB).cells 4 _ rfl
 have c5:∀{wx},Below w4.drew.heap.size w4.drew wx->wx.cell? (((⟨w2.heap.size,0,none⟩:Addr).add 0).add 5)=some (Ua T.S.c.Col):=λhB=>by rw [zR];exact (hv0.ext hB).cells 5 _ rfl
 have c6:∀{wx},Below w4.drew.heap.size w4.drew wx->wx.cell? ((⟨w2.heap.size,0,none⟩:Addr).add 6)=some (Ua T.c.CellW):=λhB=>(hv0.ext hB).cells 6 _ rfl;have c7:∀{wx},Below w4.drew.heap.size w4.drew wx->wx.cell? ((⟨w2.heap.size,0,none⟩:Addr).add 7)=some (Ua T.c.CellH):=λhB=>(hv0.ext hB).cells 7 _ rfl;have cs:∀{wx},Below w4.drew.heap.size w4.drew wx->q6 wx ((⟨w2.heap.size,0,none⟩:Addr).add 0) (qD.rep.cells (yL T).View):=λhB=>(hv0.ext hB).sub 0 _ rfl;have ct:∀{wx},Below w4.drew.heap.size w4.drew wx->wx.cell? ((⟨F.tg,0,none⟩:Addr).add 7)=some (.pointer (some ⟨F.eg,0,none⟩)):=λhB=>(hm0.ext hB).blk.cells 7 _ rfl;have B0:=Below.refl w4.drew.heap.size w4.drew;have fin:∀(sb mp:Nat) (q:Slc) (ls:List Slc) (pl:Slc) (wx:World),Blk wx sb zf [(Ua 0),(Ua 0),(Ua 0),(Ua 0),(.slice none 0 0),(.slice none 0 0),(.map none),(Ua 0),(.bool false),(Ua 0),(Ua 0)]->Below w4.drew.heap.size w4.drew wx->w4.drew.heap.size<=sb->Go.Vc.Own slE wx w4.drew.heap.size q ls->Lines wx w4.drew.heap.size ls T.S.g.L->Go.Vc.Own qS wx w4.drew.heap.size pl ps->zP qy7 wx mp ([]:List (Int×qa))->w4.drew.heap.size<=mp ->
   stK ⟨sb,0,none⟩ [(Ua T.S.g.rows),(Ua T.S.g.cols),(Ua T.c.CellW),(Ua T.c.CellH),(.slice q.a q.n q.c),(.slice pl.a pl.n pl.c),(.map (some mp)),(Ua T.S.g.top),(.bool false),(Ua T.S.c.Row),(Ua T.S.c.Col)] wx λwy=>J1 (⟨sb,0,none⟩,()) wy:=by
  intro sb mp q ls pl wx hs hBx hle ho hl hpl hmp hml;have hne:=hmp.ne_blk hs;refine jH hs rfl λwy hy hcy hsy=>hJ1 _ _ ?_;have By:=b1o hBx hcy hle;have oy:=ho.chg hcy (qF ho hs (by decide));have py:=hpl.chg hcy (qF hpl hs (by decide));have ky:=hmp.chg hcy hne;have ly:=hl.chg hcy λk cs e hk=>by subst e;exact hs.ne_t hk (by decide) rfl
  have my:=hm0.ext By;refine qj6 my ?_;rw [qH];refine qB hy (by show 0+8+1<=11;omega) λwz hz hgz hsz=>?_;have hcz:=Chg.gg hgz;have Bz:=b1o By hcz hle;have oz:=oy.chg hcz (qF oy hy (by decide));have pz:=py.chg hcz (qF py hy (by decide));have kz:=ky.chg hcz hne;have lz:=ly.chg hcz λk cs e hk=>by subst e;exact hy.ne_t hk (by decide) rfl
  refine qn3 (hm0.ext Bz) λg' r' w8 hst hB8=>?_;refine q7h hst h.en.ok (by omega) λiq w9 hiq hB9=>?_;have hin:=hiq.rd.n;have hir:=hiq.rd;rw [length_map] at hin;have B9:=bT (bT Bz hB8) hB9;have hs9:=(hz.ext hB8).ext hB9;have o9:=(oz.ext hB8).ext hB9;have p9:=(pz.ext hB8).ext hB9;have k9:=(kz.ext hB8).ext hB9;have l9:=(lz.ext hB8).ext hB9;have hll:=h.en.ok.len;refine lpR (λ(st:Int×Unit) wb=>∃k:Nat,st.1=(k:Int)/\k<=T.E.S.L.length/\zP qy7 wb mp ((T.E.S.L.take k).map imM)/\Chg (λk=>k=mp) w9 wb) (λst=>T.E.S.L.length-st.1.toNat) ⟨0,rfl,zero_le _,k9,Chg.refl _ _⟩ ?_;rintro ⟨i,u⟩ wb ⟨k,hki,hk1,hkm,cb⟩ I hI;dsimp only at hki ⊢;subst hki;have Bb:=b1o B9 cb hml;have hsb:=hs9.chg cb λe=>hne e.symm;refine cO (λe=>?_) λe=>?_
  ·have e:=oTq e;have hkn:k<T.E.S.L.length:=by omega
   obtain ⟨q1,hq1⟩:∃q1,T.E.S.L[k]?=some q1:=⟨_,List.getElem?_eq_getElem hkn⟩;have hqm:q1∈T.E.S.L:=List.mem_of_getElem? hq1;have hi9:=hir.chg cb λa haa e=>k9.ne_own hiq a.block (slk.2 ⟨a,haa,rfl⟩) e;obtain ⟨x1,hx1,hxs⟩:=qh9 (xs:=T.E.S.L.map (·.1)) (k:=k) (by rw [length_map];exact hkn);rw [List.getElem?_map,hq1] at hx1;obtain rfl:=Option.some.inj hx1;refine hi9.ix (E:=jG) (i:=(k:Int)) (k:=1) rfl (by omega) (by rw [length_map];omega) λhcc=>?_;rw [hxs] at hcc;refine lI (x:=q1.1) (by simpa using hcc 0 _ rfl) ?_;refine xP (x:=some mp) (hsb.drew.cells 6 _ rfl) ?_;refine Q8 (by kernel_rfl) ?_;have hSee:Z5 (some ⟨F.eg,0,none⟩) q1.1 wb.drew (λ(t58:qa) (t58_1:Bool) w11 =>
     w11.cell? ((⟨sb,0,none⟩:Addr).add 6)=some (.map (some mp)) /\
     qng PG (Instr.mapUpdate j8 (.map (some mp)) (Ua q1.1) (.agg #[(Ua t58.W),(Ua t58.H),(.slice t58.P.a t58.P.n t58.P.c)])) w11 λ_ w12=>
     I ((i64.wrap ((k:Int)+(1:Int))),()) w12):=by
    refine zj0 (hm0.ext Bb).drew.en q1.1 λw11 B11=>?_;rw [(xH h.en.ok.srt).2 hqm];show _/\qng PG (Instr.mapUpdate j8 (.map (some mp)) (Ua q1.1) (.agg #[(Ua q1.2.v.m.W),(Ua q1.2.v.m.H),(.slice q1.2.v.m.P.a q1.2.v.m.P.n q1.2.v.m.P.c)])) w11 _;refine ⟨(hsb.drew.ext B11).cells 6 _ rfl,?_⟩;have B11':=bT (bdw wb) B11;have hky:=h.en.ok.keys q1 hqm;obtain ⟨w12,hr12,hm12,hc12,hs12⟩:=(hkm.ext B11').update zla zco (k:=q1.1) (by omega) (enc:=qy7) q1.2.v.m;have hsrt:=h.en.ok.srt;rw [<-List.take_append_drop k T.E.S.L] at hsrt;rw [q29 λp hp=>by
     obtain ⟨p0,hp0,rfl⟩:=List.mem_map.1 hp;exact (List.pairwise_append.1 hsrt).2.2 p0 hp0 q1 (List.mem_of_getElem? (i:=0) (by rw [List.getElem?_drop];exact hq1))] at hm12
    refine q35 hr12 (hI _ _ ⟨k+1,by show i64.wrap ((k:Int)+1)=_;rw [qQ (by omega)];simp,hkn,?_,(cb.trans (Chg.of_ext (S:=λk=>k=mp) B11') λ_ _ h=>h).trans hc12 λ_ _ h=>h⟩ (by show _-(i64.wrap ((k:Int)+1)).toNat<_-((k:Nat):Int).toNat;rw [qQ (by omega)];omega));rw [List.take_add_one,hq1,List.map_append];exact hm12
   exact Calls.mono hSee (by rintro e w' ⟨r0,r1,rfl,hK⟩;exact ⟨r0,r1,rfl,hK⟩)
  ·have e:=oFq e;obtain rfl:k=T.E.S.L.length:=by omega
   rw [List.take_length] at hkm;have ob:=o9.chg cb λk hk e=>k9.ne_own o9 k hk e;have pb:=p9.chg cb λk hk e=>k9.ne_own p9 k hk e;have lb:=l9.chg cb λk cs e hk=>by subst e;exact k9.ne_blk hk rfl
   have htb:=ht0.ext Bb;refine qy (r:=qx.rep) (x:=⟨T.S.g.rows,T.S.g.cols,T.c.CellW,T.c.CellH,q,pl,some mp,T.S.g.top,(T.S.modeP 25 true).1,T.S.c.Row,T.S.c.Col⟩) hsb.cells ?_;refine zn (r:=qx.rep) (x:=⟨T.S.g.rows,T.S.g.cols,T.c.CellW,T.c.CellH,q,pl,some mp,T.S.g.top,(T.S.modeP 25 true).1,T.S.c.Row,T.S.c.Col⟩) htb rfl rfl λw5 hc5 hs5=>?_;have o5:=ob.chg hc5 (qF ob htb (by decide));have p5:=pb.chg hc5 (qF pb htb (by decide));have k5:=hkm.chg hc5 (hkm.ne_blk htb);have l5:=lb.chg hc5 λk cs e hk=>by subst e;exact htb.ne_t hk (by decide) rfl
   refine hK _ w5 mp ⟨rfl,rfl,ecw,ech,⟨hG.rows.1,hG.rows.2,hG.cols.1,hG.cols.2,lim⟩,⟨ls,o5.rd,l5.1,λj s xs hj hx=>⟨(l5.2 j s xs hj hx).rd,λa ha=>((l5.2 j s xs hj hx).lt a.block (slk.2 ⟨a,ha,rfl⟩)).2⟩⟩,λa ha=>(o5.lt a.block (slk.2 ⟨a,ha,rfl⟩)).2⟩ rfl p5.rd (λa ha=>(p5.lt a.block (slk.2 ⟨a,ha,rfl⟩)).2) rfl k5 rfl rfl rfl ?_;exact b1o (bT B04 Bb) hc5 (le_refl _)
 simp only [onPtr_some];refine lI (x:=(T.S.g.rows:Int)) (c2 B0) (lI (x:=(T.S.g.cols:Int)) (c3 B0) (lI (x:=T.c.CellW) (c6 B0) (lI (x:=T.c.CellH) (c7 B0) ?_)));refine qK (x:=some ⟨F.eg,0,none⟩) (ct B0) (qy (r:=qD.rep) (x:=(yL T).View) (cs B0) ?_);refine lI (x:=T.S.g.top) (c1 B0) (lI (x:=T.S.c.Row) (c4 B0) (lI (x:=T.S.c.Col) (c5 B0) ?_));have B:=B0
 repeat' first
  | exact fin _ _ _ _ _ _ hs B le hq hl hp hk lm
  | refine ⟨c5 B,c4 B,c1 B,cs B,ct B,c7 B,c6 B,c3 B,c2 B,?_⟩
  | refine ⟨c5 B,c4 B,c1 B,c7 B,c6 B,c3 B,c2 B,?_⟩
  | (
    refine qhw (hm0.ext B) λq ls y hq hl b=>?_
    replace hl:=zch hl B.size
    replace hq:=hq.base B.size
    try replace hs:=hs.ext b
    try replace hk:=hk.ext b
    replace B:=bT B b)
  | (
    refine hO (bT B04 B) λp y hp b=>?_
    replace hp:=hp.base B.size
    try replace hs:=hs.ext b
    try replace hk:=hk.ext b
    try replace hq:=hq.ext b
    try replace hl:=hl.ext b
    replace B:=bT B b)
  | (
    refine zke λy hk b=>?_;have lm:=B.size
    try replace hs:=hs.ext b
    try replace hp:=hp.ext b
    try replace hq:=hq.ext b
    try replace hl:=hl.ext b
    replace B:=bT B b)
  | (
    refine nwb λy hs b z=>?_;have le:=B.size
    try replace hk:=hk.ext b
    try replace hp:=hp.ext b
    try replace hq:=hq.ext b
    try replace hl:=hl.ext b
    replace B:=bT B b)
  | refine ⟨?_,?_⟩
theorem qu5 (h:TermM w base F T) (hn:T.n<=900) {ps:List qf} (hO:∀{wx},Uc w wx->znv wx F T ps) {fi:Bool->List UInt8->List UInt8} {cw ch:Nat} (ecw:T.c.CellW=cw) (ech:T.c.CellH=ch) (lim:1<=cw/\cw<=64/\1<=ch/\ch<=64) (hbr:ze7 T.S.g.L) (hch:q7s T.S.g.L)
  (hW2:T.S.g.cols*cw<=16384) (hH2:T.S.g.rows*ch<=16384) (hA:T.S.g.cols*cw*(T.S.g.rows*ch)<=67108864) (br:-1000000<=T.S.c.Row/\T.S.c.Row<=1000000) (bc:-1000000<=T.S.c.Col/\T.S.c.Col<=1000000)
  (hI:∀(s:qx) w' mp,Uc w w'->s.CellW=cw->s.CellH=ch->s.Top=T.S.g.top->Rd qS w' s.Places ps->(∀a,s.Places.a=some a->a.block<w'.heap.size)->s.Images=some mp->zP qy7 w' mp (T.E.S.L.map imM)->zkt w' s (T.S.g.cols*cw) (T.S.g.rows*ch) fi) {K:qa->Int->Ub}
  (hK:∀m w',MatM w' (w.heap.size+1) m (T.S.g.cols*cw) (T.S.g.rows*ch) (ze2 fi T.S.g.L T.S.g.cols T.S.g.rows cw ch (T.S.modeP 25 true).1 T.S.c.Row T.S.c.Col)->Uc w w'->K m 0 w'):j7 (some ⟨F.tg,0,none⟩) w K:=by
 refine qd3 _ ?_;refine nwb λw1 h1 hB1 hs1=>?_;simp only [onPtr_some];have m1:=h.ext hB1;refine qK (x:=some ⟨F.eg,0,none⟩) (m1.blk.cells 7 _ rfl) ?_;refine zjp m1 hn (hO hB1) ecw ech lim λs w2 mp hs htop hpl hpn hi hm ecu er ec hB2=>?_;have B2:=bT hB1 hB2;refine zlx hs hbr hch (hI s w2 mp B2 hs.ecw hs.ech htop hpl hpn hi hm) (by rw [er];exact br) (by rw [ec];exact bc) (le_refl _) hW2 hH2 hA λm w3 hM3 hB3=>?_;have h13:=(h1.ext hB2).ext hB3;have z1:=h1.lt;have z2:=hB2.size;rw [ecu,er,ec] at hM3;refine zn (r:=qa.rep) (x:=m) h13 rfl rfl λw4 hc4 hs4=>hK m w4 ⟨hM3.hw,hM3.hh,?_,hM3.len,hM3.lim⟩ (b1o (bT B2 hB3) hc4 (le_refl _));exact (hM3.own.chg hc4 (qF hM3.own h13 (by decide))).base (by omega)
theorem qyc (h:TermM w base F T) (hn:T.n<=900) (hE:T.E.S.L=[]) (hP:T.E.T=[]) {cw ch:Nat} (ecw:T.c.CellW=cw) (ech:T.c.CellH=ch) (lim:1<=cw/\cw<=64/\1<=ch/\ch<=64) (hbr:ze7 T.S.g.L) (hch:q7s T.S.g.L)
  (hW2:T.S.g.cols*cw<=16384) (hH2:T.S.g.rows*ch<=16384) (hA:T.S.g.cols*cw*(T.S.g.rows*ch)<=67108864) (br:-1000000<=T.S.c.Row/\T.S.c.Row<=1000000) (bc:-1000000<=T.S.c.Col/\T.S.c.Col<=1000000) {K:qa->Int->Ub}
  (hK:∀m w',MatM w' (w.heap.size+1) m (T.S.g.cols*cw) (T.S.g.rows*ch) (ze2 (λ_ P=>P) T.S.g.L T.S.g.cols T.S.g.rows cw ch (T.S.modeP 25 true).1 T.S.c.Row T.S.c.Col)->Uc w w'->K m 0 w'):j7 (some ⟨F.tg,0,none⟩) w K :=
 qu5 h hn (ps:=[]) (λhB _ _ hB' hK=>q9r ((h.ext hB).ext hB') hP λw' hB2=>hK _ w' (Go.Vc.Own.nil _ _ _) hB2) ecw ech lim hbr hch hW2 hH2 hA br bc (λs w' mp _ _ _ _ hp _ _ _=>zhv hp.n) hK
theorem q04 (h:TermM w base F T) (hn:T.n<=900) {x:Im} (hE:T.E.S.L=[(7,x)]) (hx:x.v.m.W=1/\x.v.m.H=1) (hb:x.bs.length=4) (hb3:x.bs.getD 3 0=255) (hP:T.E.T=[p7]) (hv0:T.S.alt=false/\T.S.g.top=0/\T.S.g.rows=2) (ecw:T.c.CellW=1) (ech:T.c.CellH=1) (hbr:ze7 T.S.g.L) (hch:q7s T.S.g.L) (hC3:2<T.S.g.cols)
  (br:-1000000<=T.S.c.Row/\T.S.c.Row<=1000000) (bc:-1000000<=T.S.c.Col/\T.S.c.Col<=1000000) {K:qa->Int->Ub}
  (hK:∀m w',Rd qu w' m.P (zks T.S.g.L T.S.g.cols T.S.g.rows (T.S.modeP 25 true).1 T.S.c.Row T.S.c.Col x.bs)->(∀a,m.P.a=some a->w.heap.size<a.block)->Uc w w'->K m 0 w'):j7 (some ⟨F.tg,0,none⟩) w K:=by
 have hv:(yL T).View.Alt=false/\(yL T).View.Top=0/\(yL T).View.Rows=2:=⟨hv0.1,hv0.2.1,by show ((T.S.g.rows:Nat):Int)=2;rw [hv0.2.2];rfl⟩;have hG:=h.sc.gOk;have l1:=hG.rows;have l2:=hG.cols;refine qu5 h hn (ps:=[p7]) (λhB _ _ hB' hK=>zey ((h.ext hB).ext hB') hP hv hK) (fi:=λab P=>if ab then qfo P 8 x.bs else P) (cw:=1) (ch:=1) ecw ech (by decide) hbr hch (by omega) (by omega) (Nat.le_trans (mul_le_mul (show T.S.g.cols*1<=1000 by omega) (show T.S.g.rows*1<=1000 by omega)) (by decide)) br bc (λs w' mp hB ec eh et hp hpn hi hm=>?_) λm w' hM hB=>hK m w' hM.own.rd (λa ha=>by have:=(hM.own.lt a.block (slk.2 ⟨a,ha,rfl⟩)).1;omega) hB;have himg:=(h.ext hB).en.st.img (7,x) (by rw [hE];exact List.mem_singleton.2 rfl);rw [hE] at hm;have hM:imM (7,x)=(7,⟨1,1,x.v.m.P⟩):=by obtain ⟨h1,h2⟩:=hx;unfold imM;rw [<-h1];conv=>rhs;arg 2;arg 2;rw [h1,<-h2]
 rw [show [(7,x)].map imM=[imM (7,x)] from rfl,hM] at hm;exact zkw ec eh (et.trans hv0.2.1) hp hpn hi hm himg.rd (λa ha=>(himg.lt a.block (slk.2 ⟨a,ha,rfl⟩)).2) hb hb3 ⟨by omega,by omega⟩ (by omega)
end
theorem qx2 {p:Prop} [Decidable p] {X Y:Prop} (h1:p->X) (h2:¬p->Y):cond (decide p) X Y:=cO (λe=>h1 (oTq e)) λe=>h2 (oFq e)
def qk0:List Int:=[1,4,6,7,20,25,47,1000,2004,9]
theorem quu (R C B:Nat):∀n∈qk0,∀p:Bool,(zg2 R C B).modeP n p=rmP n p:=by
 intro n hn p;simp only [qk0,mem_cons,List.mem_nil_iff,or_false] at hn;rcases hn with rfl | rfl | rfl | rfl | rfl | rfl | rfl | rfl | rfl | rfl<;>cases p<;>kernel_rfl
section
variable {w w':World} {base:Nat} {F:TmF} {T:TS} {tg sg eg st pg:Nat} {f0 f1:RFoot} {tt:Nat} {tq:Slc} {pb:Nat} {c:qo}
theorem q47 (h:TermM w base F T) {K:qA->Ub} (hK:∀w',Uc w w'->K T.S.c w'):ZR (some ⟨F.tg,0,none⟩) w K:=by
 refine qjg _ ?_;refine nwb λw1 h1 hB1 hs1=>qw (qK (x:=some ⟨F.sg,0,none⟩) ((h.ext hB1).blk.cells 6 _ rfl) (qu0 (h.ext hB1).sc λw2 hB2=>?_));exact zn (r:=qA.rep) (x:=T.S.c) (h1.ext hB2) rfl rfl λw3 c3 s3=>hK w3 (b1o (bT hB1 hB2) c3 (le_refl _))
theorem q5i (h:TermM w base F T) (hn:T.n<=100000) {K:Option Addr->Ub} (hK:∀g' q' w',PlTM w' w.heap.size g' q' T.E.T->Uc w w'->K (some ⟨g',0,none⟩) w'):Z7 (some ⟨F.tg,0,none⟩) w K:=by
 refine qjc _ ?_;exact qw (qK (x:=some ⟨F.eg,0,none⟩) (h.blk.cells 7 _ rfl) (q0m h.en hn hK))
theorem q3s (h:TermM w base F T) {K:qo->Ub} (hK:∀w',Uc w w'->K { T.c with Rows:=T.S.g.rows,Cols:=T.S.g.cols } w'):ZO (some ⟨F.tg,0,none⟩) w K:=by
 refine qiy _ ?_;refine nwb λw1 h1 hB1 hs1=>qw (qy (r:=qo.rep) (x:=T.c) ((h.ext hB1).blk.sub 0 _ rfl) (jd rfl λw3 h3 hB3 hs3=>?_));have B3:=bT hB1 hB3;refine qw (qK (x:=some ⟨F.sg,0,none⟩) ((h.ext B3).blk.cells 6 _ rfl) (qzd (h.ext B3).sc λw4 hB4=>?_));have h34:=h3.ext hB4;have B4:=bT B3 hB4;have z1:=hB1.size;rw [add_zero];refine qB h34 (by show 0+1<=6;omega) λw5 h5 g5 s5=>?_;rw [qH];refine qB h5 (by show 0+1+1<=6;omega) λw6 h6 g6 s6=>?_;have B6:=b1o (b1o B4 (Chg.gg g5) z1) (Chg.gg g6) z1;refine qy (r:=qo.rep) (x:={ T.c with Rows:=T.S.g.rows,Cols:=T.S.g.cols }) h6.cells ?_;have l1:=h1.lt;have h16:=(((h1.ext hB3).ext hB4).chg (Chg.gg g5) (by omega)).chg (Chg.gg g6) (by omega);exact zn (r:=qo.rep) (x:={ T.c with Rows:=T.S.g.rows,Cols:=T.S.g.cols }) h16 rfl rfl λw7 c7 s7=>hK w7 (b1o B6 c7 (le_refl _))
theorem qnw {g r:Nat} {S:St} (h:StM w base g r S) {K:Int->Ub} (hK:K S.res w):xR (some ⟨g,0,none⟩) w K:=by
 refine qb0 _ ?_;exact qw (lI (x:=S.res) (h.blk.cells 1 _ rfl) hK)
theorem q3e {a b:Slc} {la lb:List Slc} {xss:List (List qU)} (ha:Rd slE w a la) (hb:Rd ql8 w b lb) (hl:la.length=xss.length/\lb.length=xss.length) (hx:∀(i:Nat) s t xs,la[i]?=some s->lb[i]?=some t->xss[i]?=some xs->Rd zi w s xs/\Rd zi w t xs) {K:Bool->Ub} (hK:∀w',Uc w w'->K true w'):qgw a b w K:=by
 refine q03 _ _ ?_;have an:=ha.n;have bn:=hb.n;have am:=ha.nc;have ac:=ha.cm;unfold maxLen at ac;refine cF (by rw [an,bn,hl.1,hl.2];exact bne_self_eq_false _) ?_;refine lpR (λ(st:Int×Unit) w1=>∃k:Nat,st.1=(k:Int)/\k<=xss.length/\Uc w w1) (λst=>xss.length-st.1.toNat) ⟨0,rfl,zero_le _,Below.refl _ _⟩ ?_;rintro ⟨i,u⟩ w1 ⟨k,hi,hk,hB⟩ I hI;dsimp only at hi ⊢;subst hi;refine qx2 (λe=>?_) λe=>hK w1 hB;have hkn:k<xss.length:=by omega
 have Bd:=bT hB (bdw w1);obtain ⟨s,hs,hss⟩:=qh9 (xs:=la) (k:=k) (by omega);obtain ⟨t,ht,hts⟩:=qh9 (xs:=lb) (k:=k) (by omega);obtain ⟨xs,hxs⟩:∃xs,xss[k]?=some xs:=⟨_,List.getElem?_eq_getElem hkn⟩;obtain ⟨r1,r2⟩:=hx k s t xs hs ht hxs;refine (ha.ext Bd).ix (E:=slE) (i:=(k:Int)) (k:=1) rfl (by omega) (by omega) λh1=>?_;rw [hss] at h1;refine lSl (x:=s) (by simpa using h1 0 _ rfl) ((hb.ext Bd).ix (E:=ql8) (i:=(k:Int)) (k:=1) rfl (by omega) (by omega) λh2=>?_);rw [hts] at h2;refine lSl (x:=t) (by simpa using h2 0 _ rfl) (zem (r1.ext Bd) (r2.ext Bd) λr w7 hiff hB7 _=>?_);rw [hiff.2 rfl];refine cF rfl ?_;rw [qQ (x:=(k:Int)+1) (by omega)];exact hI _ _ ⟨k+1,by simp,hkn,bT Bd hB7⟩ (by dsimp only;omega)
theorem q6u {a:Slc} (ha:a.n=0) {K:Bool->Ub} (hK:K true w):qqb a ⟨none,0,0⟩ w K:=by
 refine q0v _ _ ?_;refine cF (by rw [ha];rfl) ?_;refine lpR (λ(st:Int×Unit) w1=>st.1=0/\w1=w) (λ_=>0) ⟨rfl,rfl⟩ ?_;rintro ⟨i,u⟩ w1 ⟨rfl,rfl⟩ I hI;exact cF (by rw [ha];rfl) hK
theorem zl1 (h:Blk w st YJ [(Ua c.Quota),(Ua 0),(Ua 0),(.slice none 0 0)]) {K:Int->Ub} (hK:K 0 w):Kh (some ⟨st,0,none⟩) w K:=by
 refine qm6 _ ?_;refine lpR (λ(s:Int×Int×Unit) w1=>s=(0,0,())/\w1=w) (λ_=>0) ⟨rfl,rfl⟩ ?_;rintro _ w1 ⟨rfl,rfl⟩ I hI;exact qw (lSl (x:=⟨none,0,0⟩) (h.cells 3 _ rfl) (cF rfl hK))
theorem znz (h:Blk w st YJ [(Ua c.Quota),(Ua 0),(Ua 0),(.slice none 0 0)]) {K:Slc->Ub} (hK:K ⟨none,0,0⟩ w):VO (some ⟨st,0,none⟩) w K:=by
 refine qqf _ ?_;refine lpR (λ(s:Slc×Int×Unit) w1=>s=(⟨none,0,0⟩,0,())/\w1=w) (λ_=>0) ⟨rfl,rfl⟩ ?_;rintro _ w1 ⟨rfl,rfl⟩ I hI;exact qw (lSl (x:=⟨none,0,0⟩) (h.cells 3 _ rfl) (cF rfl hK))
theorem zkk (hok:okC c) (M:TermM w base F (Xs c)) (h:RTm w tg sg eg st pg f0 f1 tt tq pb c) {K:Bool->Ub} (hK:∀w',Uc w w'->K true w'):qlh (some ⟨F.tg,0,none⟩) (some ⟨tg,0,none⟩) w K:=by
 refine qxt _ _ ?_;have hd:=h.ext (bdw w);refine qw (qK (x:=some ⟨sg,0,none⟩) (hd.blk.cells 6 _ rfl) (qw (qK (x:=some ⟨sg,0,none⟩) (hd.blk.cells 6 _ rfl) (qw (lI (x:=0) (hd.rs.blk.cells 2 _ rfl) (qw ⟨⟨by decide,by decide⟩,qK (x:=some ⟨f0.g,0,none⟩) (hd.rs.blk.cell 0 rfl) ?_⟩))))));refine q47 (M.ext (bdw w)) λw1 hB1=>jd rfl λw3 h3 hB3 hs3=>?_;have B3:=bT (bT (bdw w) hB1) hB3;have R3:=h.ext B3;refine qw (qK (x:=some ⟨sg,0,none⟩) (R3.blk.cells 6 _ rfl) (qw (qy (r:=qA.rep) (x:=Kw) (R3.rs.blk.sub 3 _ rfl) (jd rfl λw5 h5 hB5 hs5=>?_))));have B5:=bT (bT B3 hB5) (bdw w5);have h35:=h3.ext hB5;refine jpO λJ1 hJ1=>?_;have R5:=h.ext B5;refine qw (lSl (x:=f0.ls) (zcu R5.rs hok).2.2.1 (qhw (M.ext B5) λq ls w6 hq hl hB6=>?_));have B6:=bT B5 hB6;have R6:=h.ext B6;refine ⟨(zcu R6.rs hok).2.2.1,?_⟩;obtain ⟨b0,r6⟩:=R6.rs.g0;obtain ⟨ms,hmo,hml⟩:=r6.row;refine q3e (xss:=(gs0 c.Rows.toNat c.Cols.toNat c.Back.toNat).L) hq.rd hmo.rd ⟨hl.1,hml.1⟩ (λi s t xs h1 h2 h3=>⟨(hl.2 i s xs h1 h3).rd,(hml.2 i t xs h2 h3).rd⟩) λw7 hB7=>cF rfl ?_;have B7:=bT B6 hB7;have R7:=h.ext B7;have oc:∀{wx},RTm wx tg sg eg st pg f0 f1 tt tq pb c->wx.cell? ((⟨f0.g,0,none⟩:Addr).add 4)=some (.slice f0.os.a f0.os.n f0.os.c):=λhR=>by obtain ⟨b,r⟩:=hR.rs.g0;exact r.blk.cells 4 _ rfl
 refine qw (lSl (x:=f0.os) (oc R7) (zao (M.ext B7) (λq2 ls2 w8 hq2 hl2 hB8=>?_) (zero_le _)));have B8:=bT B7 hB8;have R8:=h.ext B8;refine ⟨oc R8,?_⟩;obtain ⟨b8,r8⟩:=R8.rs.g0;obtain ⟨ms8,hmo8,hml8⟩:=r8.old;refine q3e (xss:=[]) hq2.rd hmo8.rd ⟨hl2.1,hml8.1⟩ (λi s t xs h1 h2 h3=>by simp at h3) λw9 hB9=>cF rfl ?_;have B9:=bT B8 hB9;have c9:=(((h35.drew.ext hB6).ext hB7).ext hB8).ext hB9;have u9:=(((h5.drew.ext hB6).ext hB7).ext hB8).ext hB9;refine lI (x:=0) (c9.cells 0 _ rfl) (lI (x:=0) (u9.cells 0 _ rfl) (cF rfl (lI (x:=0) (c9.cells 1 _ rfl) (lI (x:=0) (u9.cells 1 _ rfl) (cF rfl (jw (x:=false) (c9.cells 2 _ rfl) (jw (x:=false) (u9.cells 2 _ rfl) (cF rfl ?_))))))));refine qy (r:=qt.rep) (x:=at0) (c9.sub 3 _ rfl) (qy (r:=qt.rep) (x:=at0) (u9.sub 3 _ rfl) (cF rfl (jw (x:=false) (c9.cells 6 _ rfl) (jw (x:=false) (u9.cells 6 _ rfl) (cF rfl ?_)))));refine qy (r:=Qz.rep) (x:=⟨66,66⟩) (c9.sub 7 _ rfl) (qy (r:=Qz.rep) (x:=⟨66,66⟩) (u9.sub 7 _ rfl) (cF rfl (lI (x:=0) (c9.cells 9 _ rfl) (lI (x:=0) (u9.cells 9 _ rfl) (cF rfl (hJ1 _ _ ?_))))));clear hJ1 J1 c9 u9 h35 h5;refine nwb λwa ha hBa hsa=>?_;have Ba:=bT B9 hBa;have Ra:=h.ext Ba;have Ma:=M.ext Ba;refine lpR (λ(s:Int×Unit) wb=>wb=wa/\∃k:Nat,s.1=(k:Int)/\k<=10) (λs=>10-s.1.toNat) ⟨rfl,0,rfl,by omega⟩ ?_;rintro ⟨i,u⟩ wb ⟨rfl,k,hi,hk⟩ I hI;dsimp only at hi ⊢;subst hi;refine qx2 (λe=>?_) λe=>?_
 ·have hlt:k<qk0.length:=by show k<10;omega
  have hcell:wb.cell? ((⟨w9.heap.size,0,none⟩:Addr).add (((k:Int):Int).toNat*1))=some (Ua (qk0[k]'hlt)):=by
   rw [Int.toNat_natCast,Nat.mul_one];refine ha.cells k _ ?_;show (qk0.map (Value.int .i64))[k]?=_;rw [List.getElem?_map,List.getElem?_eq_getElem hlt];rfl
  have hsame:=quu c.Rows.toNat c.Cols.toNat c.Back.toNat _ (List.getElem_mem hlt);have hMp:∀p,((Xs c).S.modeP (qk0[k]'hlt) p).1=(rmP (qk0[k]'hlt) p).1:=λp=>congrArg Prod.fst (hsame p);refine ⟨⟨by omega,by omega⟩,lI (x:=qk0[k]'hlt) hcell (qw (qK (x:=some ⟨sg,0,none⟩) (Ra.blk.cells 6 _ rfl) (qp8 Ra.rs (qw (qK (x:=some ⟨sg,0,none⟩) (Ra.blk.cells 6 _ rfl) (qp8 Ra.rs (qj6 Ma ?_))))))) ⟩;rw [hMp true];refine cF (by simp) (qj6 Ma ?_);rw [hMp false];refine cF (by simp) ?_;rw [qQ (x:=(k:Int)+1) (by omega)];exact hI _ _ ⟨rfl,k+1,by simp,by omega⟩ (by dsimp only;omega)
 clear hI I;refine qn3 Ma λg' r' wc hst hBc=>?_;have Bc:=bT Ba hBc;refine q5i (M.ext Bc) (zero_le _) λg2 q2 wd hpl hBd=>?_;have Bd:=bT (bT Bc hBd) (bdw wd);have Rd_:=h.ext Bd;refine jpO λJ3 hJ3=>cF rfl (cF rfl ?_);have e7:∀{wx},RTm wx tg sg eg st pg f0 f1 tt tq pb c->wx.cell? ((⟨tg,0,none⟩:Addr).add 7)=some (.pointer (some ⟨eg,0,none⟩)):=λhR=>hR.blk.cells 7 _ rfl;have e2:∀{wx},RTm wx tg sg eg st pg f0 f1 tt tq pb c->wx.cell? (((⟨eg,0,none⟩:Addr).add 2).add 0)=some (.slice none 0 0):=λhR=>by rw [zR];exact hR.en.cells 2 _ rfl
 have e1:∀{wx},RTm wx tg sg eg st pg f0 f1 tt tq pb c->wx.cell? ((⟨eg,0,none⟩:Addr).add 1)=some (.pointer (some ⟨st,0,none⟩)):=λhR=>hR.en.cells 1 _ rfl;have hstd:=(hst.ext hBd).drew;have hpld:PlTM wd.drew wc.heap.size g2 q2 []:=⟨hpl.blk.drew,hpl.hg,hpl.own.drew⟩;refine qw (qK (x:=some ⟨eg,0,none⟩) (e7 Rd_) (qw (lSl (x:=⟨none,0,0⟩) (e2 Rd_) (zag hpld (zero_le _) λq3 we hq3 hBe=>?_))));have Be:=bT Bd hBe;have Re:=h.ext Be;have hste:=hstd.ext hBe;refine ⟨e2 Re,e7 Re,q6u hq3.rd.n (cF rfl ?_)⟩;refine qw (qK (x:=some ⟨eg,0,none⟩) (e7 Re) (qw (qK (x:=some ⟨st,0,none⟩) (e1 Re) (qud hste ⟨e1 Re,e7 Re,zl1 Re.st (cF rfl ?_)⟩))));refine qw (qK (x:=some ⟨eg,0,none⟩) (e7 Re) (qw (qK (x:=some ⟨st,0,none⟩) (e1 Re) (qw (lI (x:=0) (Re.st.cells 1 _ rfl) (qnw hste ⟨Re.st.cells 1 _ rfl,e1 Re,e7 Re,cF rfl (hJ3 _ _ ?_)⟩))))));refine q7h hste M.en.ok (zero_le _) λq4 wf hq4 hBf=>?_;have Bf:=bT Be hBf;have Rf:=h.ext Bf;have n4:=hq4.rd.n;refine qw (qK (x:=some ⟨eg,0,none⟩) (e7 Rf) (qw (qK (x:=some ⟨st,0,none⟩) (e1 Rf) (znz Rf.st (cF (by rw [n4];rfl) ?_)))));refine lpR (λ(s:Int×Unit) w1=>s.1=0/\w1=wf) (λ_=>0) ⟨rfl,rfl⟩ ?_;rintro ⟨i,u⟩ w1 ⟨rfl,rfl⟩ I hI;exact cF (by rw [n4];rfl) (hK _ Bf)
theorem zfp (hok:okC c) (h100:c.Rows<=100/\c.Cols<=100) (M:TermM w base F (Xs c)) (h:RTm w tg sg eg st pg f0 f1 tt tq pb c) {K:Bool->Ub} (hK:∀w',Uc w w'->K true w'):qd2 (some ⟨F.tg,0,none⟩) (some ⟨tg,0,none⟩) w K:=by
 refine qtw _ _ ?_;obtain ⟨o1,o2,o3,o4,o5,o6⟩:=id hok;obtain ⟨R,hR⟩:∃R:Nat,c.Rows=R:=⟨c.Rows.toNat,by omega⟩;obtain ⟨C0,hC⟩:∃C0:Nat,c.Cols=C0:=⟨c.Cols.toNat,by omega⟩;obtain ⟨cw,hcw⟩:∃cw:Nat,c.CellW=cw:=⟨c.CellW.toNat,by omega⟩;obtain ⟨ch,hch⟩:∃ch:Nat,c.CellH=ch:=⟨c.CellH.toNat,by omega⟩;have hL:(Xs c).S.g.L=List.replicate R (List.replicate C0 vj):=by
  show List.replicate c.Rows.toNat (y1 c.Cols.toNat ⟨0,0,0⟩)=_;rw [hR,hC];unfold y1;rw [if_neg (by omega)];rfl
 have hr:(Xs c).S.g.rows=R:=by show c.Rows.toNat=R;omega
 have hc:(Xs c).S.g.cols=C0:=by show c.Cols.toNat=C0;omega
 have hcell:∀r k,xq (Xs c).S.g.L r k=vj:=λr k=>by rw [hL];exact qw3 r k
 have l1:C0*cw<=6400:=mul_le_mul (show C0<=100 by omega) (show cw<=64 by omega);have l2:R*ch<=6400:=mul_le_mul (show R<=100 by omega) (show ch<=64 by omega);have l3:C0*cw*(R*ch)<=67108864:=Nat.le_trans (mul_le_mul l1 l2) (by decide);have hm25:((Xs c).S.modeP 25 true).1=true:=congrArg Prod.fst (quu c.Rows.toNat c.Cols.toNat c.Back.toNat 25 (by decide) true);refine qyc M (zero_le _) rfl rfl hcw hch (by omega) (λr k=>by rw [hcell];rfl) (λr k=>by rw [hcell];decide) (by rw [hc];omega) (by rw [hr];omega) (by rw [hc,hr];exact l3) (by show -1000000<=(0:Int)/\(0:Int)<=1000000;decide) (by show -1000000<=(0:Int)/\(0:Int)<=1000000;decide) λm w1 hM hB1=>?_;rw [hL,hc,hr,hm25] at hM;obtain ⟨Q1,b1,n1,e1⟩:=zgh (R:=R) (C0:=C0) (cw:=cw) (ch:=ch) (by omega) (by omega) (by omega) (by omega);have hM:MatM w1 (w.heap.size+1) m (C0*cw) (R*ch) (ze2 (λ_ P=>P) (List.replicate R (List.replicate C0 vj)) C0 R cw ch true 0 0):=hM;rw [e1] at hM;refine jd rfl λw3 h3 hB3 hs3=>?_;have B3:=bT hB1 hB3;refine qwf (h.ext B3) hok hR hC hcw hch (by omega) (by omega) l3 λm2 Q2 w4 b2 n2 hM2 hB4=>?_;have eQ:=b2.eq b1 n2 n1;subst eQ;refine jd rfl λw6 h6 hB6 hs6=>?_;have B36:=bT hB4 hB6;have B6:=bT B3 B36;refine qy (r:=qa.rep) (x:=m) (h3.ext B36).cells (qy (r:=qa.rep) (x:=m2) h6.cells ?_);have d1:=((hM.ext hB3).ext B36);have d2:=hM2.ext hB6;refine q00 _ _ ?_;refine nwb λw7 h7 hB7 hs7=>nwb λw8 h8 hB8 hs8=>?_;have B8:=bT (bT hB7 hB8) (bdw w8);refine qy (r:=qa.rep) (x:=m) (h7.ext hB8).drew.cells (qy (r:=qa.rep) (x:=m2) h8.drew.cells ?_);refine zcc _ ?_;refine nwb λw9 h9 hB9 hs9=>nwb λwa ha hBa hsa=>?_;have h9a:=h9.ext hBa;refine lI (x:=m.W) (h9a.cells 0 _ rfl) (lI (x:=m.H) (h9a.cells 1 _ rfl) (lSl (x:=m.P) (h9a.cells 2 _ rfl) ?_));have z9:=hB9.size;refine zn (r:=qa.rep) (x:=m) ha rfl rfl λwb cb sb=>?_;have Bb:=b1o (bT hB9 hBa) cb z9;refine ⟨(h8.drew.ext Bb).cells,?_⟩;have B6b:=bT B8 Bb;refine q3x _ _ ?_;refine nwb λwc hc' hBc hsc=>nwb λwd hd hBd hsd=>?_;have hcd:=hc'.ext hBd;have B6d:=bT B6b (bT hBc hBd);have p1:=(d1.ext B6d).own.rd;have p2:=(d2.ext B6d).own.rd;refine lI (x:=m.W) (hcd.cells 0 _ rfl) (lI (x:=m2.W) (hd.cells 0 _ rfl) (cT (by rw [hM.hw,hM2.hw];exact beq_self_eq_true _) ?_));refine lI (x:=m.H) (hcd.cells 1 _ rfl) (lI (x:=m2.H) (hd.cells 1 _ rfl) (cT (by rw [hM.hh,hM2.hh];exact beq_self_eq_true _) ?_));refine lSl (x:=m.P) (hcd.cells 2 _ rfl) (ZD p1 (lSl (x:=m2.P) (hd.cells 2 _ rfl) (ZD p2 ?_)));rw [beq_self_eq_true];exact cT rfl (hK wd (bT B6 B6d))
end
def EvN (v:Ev):Prop:=v.Kind=1\/v.Kind=4/\v.Private=0/\v.Inter=[]/\(v.B=110\/v.B=99)
def Sc.doN (S:Sc) (v:Ev):Sc:=if v.Kind=1 then S.print v.R else S
def Sc.doNR (S:Sc) (v:Ev):List UInt8:=if v.Kind=1 then [] else S.bareR v.Params v.B
section
variable {w w':World} {base g:Nat} {F F':ScF} {S S':Sc} {p:Slc} {ps:List Int}
theorem zbt (h:ScM w base g F S) (hp:ParM w g F p ps) (hT:Tab w) {c:Int} (hc:c=110\/c=99) {K:Slc->Ub}
  (hK:∀q w',Rd qu w' q (S.bareR ps c)->Uc w w'->K q w'):Qb (some ⟨g,0,none⟩) p c w K:=by
 refine qft _ _ _ ?_;refine qpv (i:=0) hp (qpv (i:=0) hp ?_);simp only [onPtr_some];obtain ⟨n,hn⟩:∃n,n=qyd ps 0 1:=⟨_,rfl⟩;obtain ⟨z,hz⟩:∃z,z=qyd ps 0 0:=⟨_,rfl⟩;unfold Sc.bareR at hK;dsimp only at hK;rw [<-hz] at hK;rw [<-hn,<-hz];refine jpO λJ1 hJ1=>?_;have no:(∀q w',Rd qu w' q []->Uc w w'->K q w')->K ⟨none,0,0⟩ w:=λhK=>hK _ _ (Rd.nil _ _) (Below.refl _ _);refine cO (λe=>?_) λc110=>?_
 ·have e:c=110:=eq_of_beq e;simp only [if_pos e] at hK;refine cO (λe=>?_) λe5=>?_
  ·rw [if_pos (eq_of_beq e)] at hK;exact qpz (bs:=[48,110]) (by decide) hK
  rw [if_neg (beq_eq_false_iff_ne.1 e5)] at hK;refine cO (λe=>?_) λe6=>?_
  ·rw [if_pos (eq_of_beq e)] at hK;refine q4z h hT λw1 hB1 hpl=>?_;have e82:(⟨#[82]⟩:ByteArray)=ze [82]:=rfl;rw [e82,JJ,zo,zo];refine ⟨by simp only [List.length_cons,length_nil];omega,?_⟩;exact qpz (by simp only [length_append,List.length_cons,length_nil];omega) λq w2 hq hB2=>hK q w2 hq (zu hB1 hB2)
  ·rw [if_neg (beq_eq_false_iff_ne.1 e6)] at hK;exact no hK
 have c110:¬c=110:=beq_eq_false_iff_ne.1 c110;have e:c=99:=by omega
 rw [if_neg c110,if_pos e] at hK;refine cT (by rw [e];rfl) ?_;refine cO (λe=>?_) λe5=>?_
 ·rw [if_pos (eq_of_beq e)] at hK;exact qpz (bs:=[63,54,50,59,52,99]) (by decide) hK
 ·rw [if_neg (beq_eq_false_iff_ne.1 e5)] at hK;exact no hK
theorem zfn {e:zg} {v:Ev} (h:ScM w base g F S) (hv:EvM w g F e v) (hT:Tab w) (hp0:v.Private=0) (hi0:v.Inter=[]) (hb0:v.B=110\/v.B=99) {K:Slc->Ub}
  (hK:∀q w',Rd qu w' q (S.bareR v.Params v.B)->Uc w w'->K q w'):kY (some ⟨g,0,none⟩) e w K:=by
 refine YN _ _ ?_;obtain ⟨ek,er,eb,ep,ei,epar,edat⟩:=e;obtain ⟨h1,h2,h3,h4,h5,hp,hbr,hpr,hil⟩:=hv;dsimp only at h1 h2 h3 h4 h5 hp;rw [hp0] at h4;rw [hi0] at h5;subst h3 h4 h5;refine nwb λw1 hx1 hB1 hs1=>?_;have B1:=zu hB1 (zq w1);have hM:=h.ext B1;have hp1:=hp.ext B1;have t1:=hT.ext B1;have hx:=hx1.drew;generalize w1.drew=w2 at hM B1 hp1 t1 hx ⊢;refine lSl (x:=epar) (by simpa using hx.cells 5 _ rfl) (lSl (x:=epar) (by simpa using hx.cells 5 _ rfl) ?_);refine qpv (i:=0) hp1 ⟨by simpa using hx.cells 5 _ rfl,?_⟩;refine jpO λJ1 hJ1=>?_;have tail:J1 () w2:=by
  refine hJ1 _ _ (jpO λJ2 hJ2=>?_);refine lI (x:=0) (by simpa using hx.cells 3 _ rfl) (cF rfl ?_);refine qqz (x:=ze []) (by simpa using hx.cells 4 _ rfl) ?_;rw [V1,show (⟨#[]⟩:ByteArray).toList=[] by kernel_rfl];refine cF rfl (hJ2 _ _ ?_);refine lI (x:=v.B) (by simpa using hx.cells 2 _ rfl) ?_;exact zbt hM hp1 t1 hb0 λq w4 hq hB4=>hK q w4 hq (zu B1 hB4)
 refine lI (x:=0) (by simpa using hx.cells 3 _ rfl) ?_;refine qxr ?_;refine qqz (x:=ze []) (by simpa using hx.cells 4 _ rfl) ?_;have el:=qy0 0 (by decide);have el2:=qy0 v.B hbr;refine ⟨by rw [zo,zo];simp only [length_nil];omega,?_⟩;refine lI (x:=v.B) (by simpa using hx.cells 2 _ rfl) ?_;refine qxr ⟨by rw [JJ,zo,zo,length_append];simp only [length_nil];omega,?_⟩;rw [JJ,JJ,V1];have l1:(⟨#[0,33,112]⟩:ByteArray).toList=[0,33,112]:=by kernel_rfl
 have l2:(⟨#[63,110]⟩:ByteArray).toList=[63,110]:=by kernel_rfl
 have l3:(⟨#[62,99]⟩:ByteArray).toList=[62,99]:=by kernel_rfl
 have l4:(⟨#[63,36,112]⟩:ByteArray).toList=[63,36,112]:=by kernel_rfl
 have l5:(⟨#[63,104]⟩:ByteArray).toList=[63,104]:=by kernel_rfl
 have l6:(⟨#[63,108]⟩:ByteArray).toList=[63,108]:=by kernel_rfl
 rw [l1,l2,l3,l4,l5,l6];obtain ⟨k,hk⟩:∃k,k=(Utf8.encode 0).data.toList++[]++(Utf8.encode v.B).data.toList:=⟨_,rfl⟩;have hk2:k=[0,110]\/k=[0,99]:=by
  rcases hb0 with e | e
  ·left;rw [hk,e];kernel_rfl
  ·right;rw [hk,e];kernel_rfl
 rw [<-hk];have nk:∀x:List UInt8,x≠[0,110]->x≠[0,99]->(k==x)=false:=λx h1 h2=>by
  rw [beq_eq_false_iff_ne];rcases hk2 with e | e
  ·rw [e];exact λh=>h1 h.symm
  ·rw [e];exact λh=>h2 h.symm
 rw [nk [0,33,112] (by decide) (by decide),nk [63,110] (by decide) (by decide),nk [62,99] (by decide) (by decide),nk [63,36,112] (by decide) (by decide),nk [63,104] (by decide) (by decide),nk [63,108] (by decide) (by decide)];refine cF rfl (jpO λJ3 hJ3=>cF rfl (hJ3 _ _ (cF rfl ?_)));exact cF rfl (cF rfl (cF rfl tail))
theorem zhi {e:zg} {v:Ev} (h:ScM w base g F S) (hv:EvM w g F e v) (hT:Tab w) (hn:EvN v) {K:Slc->Ub}
  (hK:∀q F' w',Rd qu w' q (S.doNR v)->ScT base g w F F' (S.doN v) w'->K q w'):ZA (some ⟨g,0,none⟩) e w K:=by
 refine qiv _ _ ?_;refine nwb λw1 hx hB1 hs1=>?_;have h1:=ScT.of_ext h hB1;unfold Sc.doN Sc.doNR at hK;have v1:=hv.k;have v2:=hv.r;refine lI (x:=v.Kind) (by rw [<-v1];simpa using hx.cells 0 _ rfl) ?_;rcases hn with e | ⟨e4,hp0,hi0,hb0⟩
 ·rw [if_pos e,if_pos e] at hK;refine cT (by rw [e];rfl) ?_;refine lI (x:=v.R) (by rw [<-v2];simpa using hx.cells 1 _ rfl) ?_;exact q9q h1.m λF2 w2 hT2=>hK _ _ _ (Rd.nil _ _) (h1.trans hT2)
 ·rw [if_neg (by omega),if_neg (by omega)] at hK;refine cF (by rw [e4];rfl) (cF (by rw [e4];rfl) (cF (by rw [e4];rfl) (cT (by rw [e4];rfl) ?_)));refine qy (r:=zg.rep) (x:=_) hx.cells ?_;refine zfn h1.m ⟨hv.k,hv.r,hv.b,hv.p,hv.i,hv.ps.ext hB1,hv.br,hv.pr,hv.il⟩ (hT.ext hB1) hp0 hi0 hb0 λq w2 hq hB2=>hK q F w2 hq (h1.ext hB2)
end
structure Kept (E E':KE) (P:Slc):Prop where
 img:∀j,yl E'.S j->yl E.S j\/P.blk=some j
 ld:E'.ld=none
 q:E'.quota=E.quota
section
variable {n:Nat} {E:KE}
theorem qr4 (E:KE) (k:qb) (id:Int) (v:qs):(yd E k id v).1.S=E.S/\(yd E k id v).1.ld=E.ld/\(yd E k id v).1.quota=E.quota:=by
 unfold yd;split
 ·split
  ·exact ⟨rfl,rfl,rfl⟩
  ·exact ⟨rfl,rfl,rfl⟩
 ·exact ⟨rfl,rfl,rfl⟩
theorem zjs {S S':St} (h:∀p∈S'.L,p∈S.L) {k:Nat} (hk:yl S' k):yl S k:=by
 obtain ⟨p,hp,e⟩:=hk;exact ⟨p,h p hp,e⟩
theorem q7g (hok:StOk n E.S) (hl:E.ld=none) (k:qb) (W H:Int) (bs:List UInt8) (P:Slc) (v:qs):Kept E (qnz E k W H bs P v).1 P:=by
 have kept:∀j,yl (qob E k W H bs P).S j->yl E.S j\/P.blk=some j:=by
  rintro j ⟨⟨a,b⟩,hp,e⟩;have hpk:StOk n (E.S.putPre k.Id bs.length).1:=qlt _ _ (zcw hok k.Id);rcases (Qk hpk.srt _ _ a b).1 hp with ⟨rfl,rfl⟩ | ⟨_,hp'⟩
  ·exact .inr e
  ·exact .inl ⟨(a,b),qz6 _ _ _ _ hp',e⟩
 unfold qnz;split
 ·exact ⟨λj h=>.inl h,hl,rfl⟩
 ·split
  ·exact ⟨kept,hl,rfl⟩
  ·obtain ⟨h1,h2,h3⟩:=qr4 (qob E k W H bs P) (vW E k bs) (idK E k bs) v;refine ⟨λj h=>?_,h2.trans hl,h3⟩;dsimp only at h;rw [h1] at h;exact kept j h
theorem za9 (hok:StOk n E.S) (C:LdK) (s:LdS) (k:qb) (P:Slc) (v:qs):Kept E (q0i E C s k P v).1 P:=by
 unfold q0i;split
 ·exact ⟨λj h=>.inl h,rfl,rfl⟩
 ·have h:=q7g (E:=E.idle) (qpg hok 0) rfl k ((qre C s).2.1:Int) ((qre C s).2.2.1:Int) (qre C s).2.2.2 P v;exact ⟨h.img,h.ld,h.q⟩
theorem q0x (E:KE) (m:Int):(∀j,yl (E.reserve m).1.S j->yl E.S j)/\(E.reserve m).1.quota=E.quota:=by
 unfold KE.reserve;split
 ·exact ⟨λj h=>h,rfl⟩
 ·split
  ·exact ⟨λj h=>h,rfl⟩
  ·exact ⟨λj h=>zjs (λp hp=>qu7 _ _ p hp) h,rfl⟩
theorem q5s (hok:StOk n E.S) (m:Int):StOk n (E.reserve m).1.S:=by
 unfold KE.reserve;split
 ·exact hok
 ·split
  ·exact hok
  ·exact qyk hok _
theorem q5t (hok:StOk n E.S) (C:LdK) (s:LdS) (k:qb) (hm:k.More≠1) (ts:List UInt8) (P:Slc) (v:qs):Kept E (qf5 E C s k ts P v).1 P:=by
 obtain ⟨h1,h2⟩:=q0x (qo7 E C s ts) 0;unfold qf5;split
 ·exact ⟨λj h=>.inl h,rfl,rfl⟩
 ·split
  ·exact ⟨λj h=>.inl (h1 j h),rfl,h2⟩
  ·have h:=za9 (E:=((qo7 E C s ts).reserve 0).1) (q5s (E:=qo7 E C s ts) hok 0) C (ZF C s ts) (QW E.first k) P v;exact ⟨λj hj=>(h.img j hj).imp_left (h1 j),h.ld,h.q.trans h2⟩
theorem zd7 (hok:StOk n E.S) (hl:E.ld=none) {bs:List UInt8} (hm:(yJ bs).More≠1) (P:Slc) (v:qs):Kept E (doK E bs P v).1 P:=by
 unfold doK goK;split
 ·unfold q6l;split
  ·exact ⟨λj h=>.inl h,hl,rfl⟩
  ·obtain ⟨h1,h2,h3⟩:=qr4 E { yJ bs with Id:=(kd E.S (yJ bs)).1 } (kd E.S (yJ bs)).1 v;split
   ·refine ⟨λj h=>.inl ?_,h2.trans hl,h3⟩;dsimp only at h;rw [h1] at h;exact zcq hok _ j h
   ·exact ⟨λj h=>.inl (by dsimp only at h;rw [h1] at h;exact h),h2.trans hl,h3⟩
 ·unfold qku;split
  ·exact ⟨λj h=>.inl h,hl,rfl⟩
  ·have h:=q5t (E:=zho E (yJ bs)) hok (q0r E (yJ bs)) ld0 (yJ bs) hm (Yu 59 bs) P v;exact ⟨h.img,h.ld,h.q⟩
theorem q2s (hE:E.T=[]) (alt:Bool) (first:Int):zgk E alt first=E:=by
 obtain ⟨q,S,T,ld,f⟩:=E;dsimp only at hE;subst hE;rfl
end
def qrw (S:Sc):Int:=i64.wrap (S.g0.top-S.g0.old.length)
def kj (T:TS):TS:={ T with f0:=qrw T.S,f1:=T.S.g1.top }
structure Calm (T:TS):Prop where
 ar:T.S.areas=[]
 st:qrw T.S=T.f0/\T.S.g1.top=T.f1\/T.E.T=[]
section
variable {w w':World} {base:Nat} {F F':TmF} {T T':TS}
theorem q45 (h:TermM w base F T) (hA:Calm T) (hn:T.n<=100000) {K:Ub} (hK:∀F' w',TmT base w F F' (kj T) w'->K w'):zE (some ⟨F.tg,0,none⟩) w K:=by
 refine qlj _ ?_;simp only [onPtr_some];refine qK (x:=some ⟨F.sg,0,none⟩) (h.blk.cells 6 _ rfl) (q4g h.sc λq w1 hq hT=>?_);have t1:=h.screen hT;have e:({ T with S:={ T.S with areas:=[] } }:TS)=T:=by
  have e1:({ T.S with areas:=[] }:Sc)=T.S:=by rw [<-hA.ar]
  rw [e1]
 rw [e] at t1;refine lpR (λ(st:Int×Unit) w2=>st.1=0/\w2=w1) (λ_=>0) ⟨rfl,rfl⟩ ?_;rintro ⟨i,u⟩ w2 ⟨rfl,rfl⟩ I hI;refine cF (by rw [hq,hA.ar];rfl) ?_;refine qK (x:=some ⟨F.sg,0,none⟩) (t1.m.blk.cells 6 _ rfl) (q7u t1.m.sc ?_);have t2:=t1.drew.drew;have ef:i64.wrap (T.S.g0.top-T.S.g0.old.length)=qrw T.S:=rfl;rw [ef];have hs0:kj T={ T with f0:=qrw T.S,f1:=T.S.g1.top }:=rfl;have hst:=hA.st;generalize qrw T.S=x at *;generalize T.S.g1.top=y at *;refine jd (vs:=[.int .i64 x,.int .i64 y]) rfl λw8 h8 hB8 hs8=>?_;have t8:=(t2.ext hB8).drew;have h8:=h8.drew;refine qy (r:=kK.rep) (x:=⟨x,y⟩) h8.cells (qy (r:=kK.rep) (x:=⟨T.f0,T.f1⟩) (t8.m.blk.sub 13 _ rfl) ?_);by_cases hs:x=T.f0/\y=T.f1
 ·refine cF ?_ (hK { F with SF:={ F.SF with ar:=⟨none,0,0⟩ } } _ ?_)
  ·show (!((_==T.f0) && ((_==T.f1) && true)))=false;rw [hs.1,hs.2];simp
  ·rw [hs0,hs.1,hs.2];exact t8
 have hE:T.E.T=[]:=hst.resolve_left hs;refine cT ?_ ?_
 ·show (!((_==T.f0) && ((_==T.f1) && true)))=true;rw [Bool.not_eq_true',Bool.and_true,Bool.and_eq_false_iff,beq_eq_false_iff_ne,beq_eq_false_iff_ne];by_cases h1:x=T.f0
  ·exact .inr λh2=>hs ⟨h1,h2⟩
  ·exact .inl h1
 refine qK (x:=some ⟨F.eg,0,none⟩) (t8.m.blk.cells 7 _ rfl) ?_;refine qsf t8.m.en hn false _ λKF1 w9 hT9=>?_;rw [q2s hE] at hT9;have t9:=t8.m.engine hT9 (λk hk=>.inl hk) t8.m.ld;have h9:=h8.chg hT9.chg (t8.m.en.not_in4 h8 (by decide) (t8.m.en.nl t8.m.ld _));refine qK (x:=some ⟨F.eg,0,none⟩) (t9.m.blk.cells 7 _ rfl) ?_;refine qsf t9.m.en hn true _ λKF2 w10 hT10=>?_;have hT10:EngT base F.eg w9 _ KF2 (zgk T.E true y) T.n w10:=hT10;rw [q2s hE] at hT10;have t10:=t9.m.engine hT10 (λk hk=>.inl hk) t9.m.ld;have h10:=h9.chg hT10.chg (t9.m.en.not_in4 h9 (by decide) (t9.m.en.nl t9.m.ld _));refine qy (r:=kK.rep) (x:=⟨x,y⟩) h10.cells ?_;rw [qH];refine qB t10.m.blk (by show 0+13+2<=15;omega) λw11 hb11 hg11 hs11=>hK { F with SF:={ F.SF with ar:=⟨none,0,0⟩ },KF:=KF2 } w11 ?_;exact ((t8.trans t9).trans t10).trans (t10.m.put (T':=kj T) (by rw [hs0];exact hb11) (Chg.gg hg11) rfl rfl rfl rfl rfl rfl rfl rfl rfl t10.m.cq t10.m.rq (λk hk=>hk) λk hk=>hk)
theorem TermM.told (h:TermM w base F T) {q:Slc} {xs:List UInt8} (ho:Go.Vc.Own qu w' base q (T.cmd++xs)) (hc:Chg (λk=>F.cq.blk=some k) w w') (hq:q.blk=F.cq.blk\/q.blk=some w.heap.size) {K:Ub}
  (hK:∀w2,TmT base w F { F with cq:=q } { T with cmd:=T.cmd++xs } w2->K w2):stK ((⟨F.tg,0,none⟩:Addr).add 10) [(.slice q.a q.n q.c)] w' K:=by
 have hs:=hc.size;have hb:=h.blk.chg hc (qF h.cq h.blk (by decide) _ · rfl);rw [qH];refine qB hb (by show 0+10+1<=15;omega) λw2 hb2 hg2 hs2=>hK w2 ?_;have c2:Chg (λk=>F.cq.blk=some k\/k=F.tg) w w2:=(hc.mono λk _ e=>.inl e).trans (Chg.gg hg2) λk _ e=>.inr e;have hq':∀k,q.blk=some k->F.cq.blk=some k\/w.heap.size<=k:=λk hk=>by
  rcases hq with e | e
  ·exact .inl (e ▸ hk)
  ·rw [e] at hk;cases hk;exact .inr (le_refl _)
 have nt:F.cq.blk≠some F.tg:=λe=>qF h.cq h.blk (by decide) _ e rfl;refine ⟨⟨hb2,h.hg,h.sc.keep c2 ?_ ?_,h.en.chgS c2 ?_ ?_,ho.chg (Chg.gg hg2) ?_,h.rq.chg c2 ?_,h.dse,h.dsi,λk hk=>?_,λk hk=>h.dr k hk,h.dt,h.ld,qhr h c2 ?_,h.b4⟩,λk hk=>?_,c2.mono λk _ hk=>?_,rfl,rfl⟩
 ·rintro k hk (e | e)
  ·exact (h.dc k e).1 hk
  ·exact h.dt.1 (e ▸ hk)
 ·rintro k cs (e | e) hb
  ·exact qF h.cq hb (by decide) k e rfl
  ·subst e;exact h.blk.ne_t hb (by decide) rfl
 ·rintro k hk (e | e)
  ·exact (h.dc k e).2.1 hk
  ·exact h.dt.2 (e ▸ hk)
 ·rintro k hk (e | e)
  ·exact (h.dc k e).2.2.1 hk
  ·exact h.img_tg (e ▸ hk)
 ·intro k hk e;rcases hq' k hk with h1 | h1
  ·exact nt (e ▸ h1)
  ·have:=h.blk.lt;omega
 ·rintro k hk (e | e)
  ·exact (h.dc k e).2.2.2 hk
  ·exact qF h.rq h.blk (by decide) k hk e
 ·rcases hq' k hk with h1 | h1
  ·exact h.dc k h1
  ·refine ⟨λhs=>?_,λhs=>?_,λhs=>?_,λhs=>?_⟩
   ·have:=(h.sc.below k hs).2;omega
   ·have:=(h.en.below k hs).2;omega
   ·obtain ⟨_,cs,hb⟩:=qpm h.en hs;have:=hb.lt;omega
   ·have:=(h.rq.lt k hs).2;omega
 ·rintro k (e | e)
  ·exact (h.cq.lt k e).1
  ·rw [e];exact h.hg
 ·rcases hk with hk | hk | hk | hk | hk
  ·exact .inl (.inl hk)
  ·exact .inl (.inr (.inl hk))
  ·exact .inl (.inr (.inr (.inl hk)))
  ·rcases hq' k hk with h1 | h1
   ·exact .inl (.inr (.inr (.inr (.inl h1))))
   ·exact .inr h1
  ·exact .inl (.inr (.inr (.inr (.inr hk))))
 ·rcases hk with e | e
  ·exact .inr (.inr (.inr (.inl e)))
  ·exact .inl e
end
def zaj (S:Sc) (R:KR):Sc:=if R.moves=true then S.moveP (i64.wrap (R.rows-1)) R.cols else S
noncomputable def qt7 (T:TS) (P:Slc):TS :=
 { T with cmd:=[],E:=(doK T.E T.cmd.tail P (yL T)).1,n:=T.n+2,rep:=T.rep++(doK T.E T.cmd.tail P (yL T)).2.reply,S:=zaj T.S (doK T.E T.cmd.tail P (yL T)).2 }
noncomputable def qwy (t:Option Addr) (r:Addr) (x:qc) (w:World) (K:Ub):Prop :=
 stK r (qc.rep.cells x) w λw6=>
 qG t λt31=>
 zF (t31.add 12) w6.drew λt33=>
 zF (r.add 0) w6.drew λt35=>
 apK PG #[qm,qm] qm t33 t35 w6.drew λt36 w7=>
 qG t λt37=>
 stK (t37.add 12) [(.slice t36.a t36.n t36.c)] w7 λw8=>
 ldB (r.add 3) w8 λt40=>
 cond t40
  (
   qG t λt42=>
   ldP (t42.add 6) w8.drew λt44=>
   ldI .i64 (r.add 1) w8.drew λt46=>
   ldI .i64 (r.add 2) w8.drew λt49=>
   jJ t44 (i64.wrap (t46-(1:Int))) t49 w8.drew λw9=>
   K w9)
  (K w8)
section
variable {w w':World} {base:Nat} {F F':TmF} {T T':TS}
theorem zbf (h:TermM w base F T) (hlong:T.long=false) {q:Slc} {bs:List UInt8} (hq:Rd qu w q bs) (hqn:∀a,q.a=some a->¬Yp F a.block) (hl:T.cmd.length+bs.length<=6000) {K:Ub}
  (hK:∀F' w',TmT base w F F' { T with cmd:=T.cmd++bs } w'->K w'):VK (some ⟨F.tg,0,none⟩) q w K:=by
 refine qo3 _ _ ?_;simp only [onPtr_some];refine jpO λJ1 hJ1=>jpO λJ2 hJ2=>?_;refine jw (x:=T.long) (h.blk.cells 11 _ rfl) (cF hlong (lSl (x:=F.cq) (h.blk.cells 10 _ rfl) ?_));have hn:=hq.n;have hcn:=h.cq.rd.n;have e0:decide (((q.n:Nat):Int)>i64.wrap ((6512:Int)-((F.cq.n:Nat):Int)))=T.long:=by
  rw [qQ (by omega),hlong,dFq (by omega)]
 rw [e0,qH];refine qB h.blk (by show 0+11+1<=15;omega) λw1 hb1 hg1 hs1=>hJ2 _ _ ?_;have t1:TmT base w F F T w1:=h.put (F':=F) (T':=T) hb1 (Chg.gg hg1) rfl rfl rfl rfl rfl rfl rfl rfl rfl h.cq h.rq (λ_ hk=>hk) λ_ hk=>hk;have hq1:Rd qu w1 q bs:=hq.chg t1.chg hqn;refine jw (x:=T.long) (t1.m.blk.cells 11 _ rfl) (cF hlong (hJ1 _ _ ?_));refine lSl (x:=F.cq) (t1.m.blk.cells 10 _ rfl) ?_;refine jz zh (ty:=qm) (xs:=T.cmd) (ys:=bs) t1.m.cq hq1 t1.m.base_le (by rw [xX];omega) (by simp [maxLen];omega) λr w4 hr hg hrb=>?_;exact t1.m.told hr (Chg.of_grown hg λk hk=>hk) hrb λw5 t5=>hK _ _ (t1.trans t5)
theorem TmT.other {w0 w1 w2:World} {F3:TmF} {T3:TS} (h0:base<=w0.heap.size) (h:TmT base w0 F F3 T3 w1) {b:Nat} {t:TypeId} {vs:List Value} (hb:Blk w1 b t vs) (ht:t≠qR/\t≠za) (hw:w0.heap.size<=b) (hn:¬Yp F3 b) (hc:Chg (λk=>k=b) w1 w2):TmT base w0 F F3 T3 w2:=by
 refine ⟨h.m.keep hc (λk hk e=>hn (e ▸ hk)) (λk hk e=>?_) (λk cs e hk=>?_) (qhr h.m hc λk e=>by rw [e];omega),h.old,h.chg.trans hc λi hi e=>by omega,h.tg,h.pg⟩
 ·obtain ⟨_,cs,hcs⟩:=qpm h.m.en hk;exact hb.ne_t hcs ht.2 e.symm
 ·subst e;exact hb.ne_t hk ht.1 rfl
theorem q1n {w0:World} {F3:TmF} {T3:TS} (h0:base<=w0.heap.size) (h:TmT base w0 F F3 T3 w) {ra:Nat} (hra:w0.heap.size<=ra) (hb:Blk w ra qI [(.slice none 0 0),(Ua 0),(Ua 0),(.bool false)]) (hn:¬Yp F3 ra) {x:qc} {R:KR} (hx:qi1 w x R)
  (hxb:0<R.reply.length->∀j,x.Reply.blk=some j->j≠ra) (hl:T3.rep.length<=1000000) (hR:R.reply.length<=2000000) {K:Ub} (hK:∀F' w',TmT base w0 F F' { T3 with rep:=T3.rep++R.reply,S:=zaj T3.S R } w'->K w'):qwy (some ⟨F3.tg,0,none⟩) ⟨ra,0,none⟩ x w K:=by
 unfold qwy;simp only [onPtr_some];obtain ⟨x1,x2,x3,x4⟩:=hx;refine jH hb rfl λw6 hb6 hc6 hs6=>?_;have t6:=(TmT.other h0 h hb (by decide) hra hn hc6).drew;have hx6:Rd qu w6.drew x.Reply R.reply:=(qme x1 hc6 λhp a ha e=>hxb hp a.block (slk.2 ⟨a,ha,rfl⟩) e).ext (bdw w6);have hb6:=hb6.drew;refine lSl (x:=F3.rq) (t6.m.blk.cells 12 _ rfl) (lSl (x:=x.Reply) (hb6.cells 0 _ rfl) ?_);refine jz zh (ty:=qm) (xs:=T3.rep) (ys:=R.reply) t6.m.rq hx6 t6.m.base_le (by rw [xX];omega) (by simp [maxLen];omega) λr w7 hr hg hrb=>?_;refine t6.m.replied (xs:=R.reply) hr (Chg.of_grown hg λk hk=>hk) hrb λw8 t8=>?_;have hb8:=hb6.chg t8.chg hn;have t08:=t6.trans t8;unfold zaj at hK;refine jw (x:=x.Moves) (hb8.cells 3 _ rfl) (cO (λe=>?_) λe=>?_)
 ·rw [if_pos (by rw [<-x4];exact e)] at hK;have t9:=t08.drew;have hb9:=hb8.drew;refine qK (x:=some ⟨F3.sg,0,none⟩) (t9.m.blk.cells 6 _ rfl) (lI (x:=x.Rows) (hb9.cells 1 _ rfl) (lI (x:=x.Cols) (hb9.cells 2 _ rfl) ?_));rw [x2,x3];exact zfb t9.m.sc λSF' w9 hT=>hK _ _ (t9.trans (t9.m.screen hT))
 ·rw [if_neg (by rw [<-x4,e];decide)] at hK;exact hK _ _ t08
theorem q6k (h:TermM w base F T) (hlong:T.long=false) {bs:List UInt8} (hcmd:T.cmd=71::bs) (hok:CmdOk bs) (hm:(yJ bs).More≠1) (hn:T.n<=880) (hq:T.E.quota<=100000) (hbl:bs.length<=39000) (hrl:T.rep.length<=1000000)
  (hrd:∀P,(qt7 T P).rep.length<=2000000) {K:Ub} (hK:∀P F' w',TmT base w F F' (qt7 T P) w'->(∀k,yl (qt7 T P).E.S k->yl T.E.S k\/w.heap.size<=k)->K w'):Ky (some ⟨F.tg,0,none⟩) true w K:=by
 refine qm0 _ _ ?_;refine qw (lSl (x:=F.cq) (h.blk.cells 10 _ rfl) (qw ?_));rw [qH];refine qB h.blk (by show 0+10+1<=15;omega) λw1 hb1 hg1 hs1=>?_;have hc1:Chg (λk=>k=F.tg) w w1:=Chg.gg hg1;have t1:TmT base w F { F with cq:=⟨none,0,0⟩ } { T with cmd:=[] } w1:=h.put hb1 hc1 rfl rfl rfl rfl rfl rfl rfl rfl rfl (Go.Vc.Own.nil _ _ _) h.rq (λk hk=>by cases hk) λ_ hk=>hk;have hcq:Rd qu w1 F.cq (71::bs):=by rw [<-hcmd];exact (h.cq.chg hc1 (qF h.cq h.blk (by decide))).rd
 have z1:=hc1.size;have h0:=h.base_le;refine jpO λJ1 hJ1=>cF rfl (qw (jw (x:=T.long) (t1.m.blk.cells 11 _ rfl) (cF hlong (hJ1 _ _ (qw ?_)))));have et:T.cmd.tail=bs:=by rw [hcmd];rfl
 have doit:∀(wx:World) (Kx:qc->Ub),Uc w1 wx->(∀P x KF' wy,qi1 wy x (doK T.E bs P (yL T)).2->TmT base w F { F with cq:=⟨none,0,0⟩,KF:=KF' } { T with cmd:=[],E:=(doK T.E bs P (yL T)).1,n:=T.n+2 } wy ->
   (∀k,Yp { F with cq:=⟨none,0,0⟩,KF:=KF' } k->Yp F k\/wx.heap.size<=k)->(∀j,x.Reply.blk=some j->wx.heap.size<=j)->(∀b t vs,Blk wx b t vs->w.heap.size<=b->Blk wy b t vs)->wx.heap.size<=wy.heap.size->(∀k,yl (doK T.E bs P (yL T)).1.S k->yl T.E.S k\/w.heap.size<=k)->Kx x wy)->xE (some ⟨F.eg,0,none⟩) F.cq (yL T) wx Kx:=by
  intro wx Kx hB hk;have tx:=t1.ext hB;have zx:=hB.size;refine zki tx.m.en (by show T.n<=900;omega) tx.m.tab tx.m.b4 hq (by omega) (hcq.ext hB) tx.m.ld hok (yL T) λP x KF' wy hx hE hxb hPb=>?_;have hE:EngT base F.eg wx F.KF KF' (doK T.E bs P (yL T)).1 (T.n+2) wy:=hE;have hk1:=zd7 (E:=T.E) tx.m.en.ok h.ld hm P (yL T);have hi:∀k,yl (doK T.E bs P (yL T)).1.S k->yl T.E.S k\/wx.heap.size<=k:=λk hk=>(hk1.img k hk).imp_right λe=>hPb k e;have t3:=tx.m.engine hE hi hk1.ld;have hw:∀{b},w.heap.size<=b->¬kF F.eg F.KF b:=λhb hs=>by have:=(h.en.below _ hs).2;omega
  refine hk P x KF' wy hx (tx.trans t3) (λk hk2=>?_) (λj hj=>(hxb j hj).1) (λb t vs hb hle=>hb.chg hE.chg (hw hle)) hE.chg.size λk hk2=>(hi k hk2).imp_right λhle=>by omega
  rcases t3.old k hk2 with h3 | h3
  ·rcases h3 with h3 | h3 | h3 | h3 | h3
   ·exact .inl (.inl h3)
   ·exact .inl (.inr (.inl h3))
   ·exact .inl (.inr (.inr (.inl h3)))
   ·cases h3
   ·exact .inl (.inr (.inr (.inr (.inr h3))))
  ·exact .inr h3
 have fin:∀(P:Slc) (x:qc) (KF':KF) (wz:World) (ra:Nat),w1.heap.size<=ra->Blk wz ra qI [(.slice none 0 0),(Ua 0),(Ua 0),(.bool false)]->qi1 wz x (doK T.E bs P (yL T)).2->TmT base w F { F with cq:=⟨none,0,0⟩,KF:=KF' } { T with cmd:=[],E:=(doK T.E bs P (yL T)).1,n:=T.n+2 } wz ->
   ¬Yp { F with cq:=⟨none,0,0⟩,KF:=KF' } ra->(0<(doK T.E bs P (yL T)).2.reply.length->∀j,x.Reply.blk=some j->j≠ra)->(∀k,yl (doK T.E bs P (yL T)).1.S k->yl T.E.S k\/w.heap.size<=k)->qwy (some ⟨F.tg,0,none⟩) ⟨ra,0,none⟩ x wz K:=by
  intro P x KF' wz ra hra hb hx ht hn hxr hi;have hP:=hrd P;unfold qt7 at hP;rw [et] at hP;simp only [length_append] at hP;refine q1n h0 ht (by omega) hb hn hx hxr hrl (by omega) λF' w' hT=>hK P F' w' ?_ ?_
  ·unfold qt7;rw [et];exact hT
  ·unfold qt7;rw [et];exact hi
 have td:=t1.drew;have Bd:Uc w1 w1.drew:=bdw w1;have nF:∀{k},w1.heap.size<=k->¬Yp F k:=λhk hs=>by have:=(h.below _ hs).2;omega
 refine qK (x:=some ⟨F.eg,0,none⟩) (td.m.blk.cells 7 _ rfl) ⟨?_,?_⟩
 ·refine qto td.m λw3 hB3=>⟨(td.m.ext hB3).blk.cells 7 _ rfl,?_,?_⟩
  ·have B3:=bT Bd hB3;refine doit w3 _ B3 λP x KF' w4 hx t4 ht hxb hbk hz hi=>?_;refine nwb λw5 hb5 hB5 hs5=>⟨(t4.m.ext hB5).blk.cells 7 _ rfl,?_⟩;have z3:=B3.size;refine fin P x KF' w5 w4.heap.size (by omega) hb5 (hx.ext hB5) (t4.ext hB5) (λhs=>by have:=(t4.m.below _ hs).2;omega) (λhp j hj e=>?_) hi;obtain ⟨a,ha,hab⟩:=slk.1 hj;have:=zdi hx.1 hp a ha;omega
  ·refine nwb λw10 hb10 hB10 hs10=>⟨((td.m.ext hB3).ext hB10).blk.cells 7 _ rfl,?_⟩;have B10:=bT (bT Bd hB3) hB10;have z3:=hB3.size;have e3:w1.drew.heap.size=w1.heap.size:=rfl;have l10:=hb10.lt;refine doit w10 _ B10 λP x KF' w11 hx t11 ht hxb hbk hz hi=>?_;exact fin P x KF' w11 w3.heap.size (by omega) (hbk _ _ _ hb10 (by omega)) hx t11 (λhs=>(ht _ hs).elim (nF (by omega)) λhle=>by omega) (λ_ j hj e=>by have:=hxb j hj;omega) hi
 ·refine nwb λw16 hb16 hB16 hs16=>⟨(td.m.ext hB16).blk.cells 7 _ rfl,?_⟩;refine qto (td.m.ext hB16) λw17 hB17=>⟨((td.m.ext hB16).ext hB17).blk.cells 7 _ rfl,?_⟩;have B17:=bT (bT Bd hB16) hB17;have e3:w1.drew.heap.size=w1.heap.size:=rfl;have l16:=hb16.lt;have z17:=hB17.size;refine doit w17 _ B17 λP x KF' w18 hx t18 ht hxb hbk hz hi=>?_;exact fin P x KF' w18 w1.heap.size (le_refl _) (hbk _ _ _ (hb16.ext hB17) (by omega)) hx t18 (λhs=>(ht _ hs).elim (nF (le_refl _)) λhle=>by omega) (λ_ j hj e=>by have:=hxb j hj;omega) hi
end
noncomputable def qm3 (T:TS) (v:EvP) (P:Slc):TS :=
 if v.k=9 then { T with cmd:=[],long:=false }
 else if v.k=10 then { T with cmd:=T.cmd++v.d }
 else if v.k=11 then qt7 T P
 else { T with S:=T.S.doN (q6t v),rep:=T.rep++T.S.doNR (q6t v) }
noncomputable def qr7 (T:TS) (v:EvP) (P:Slc):TS:=kj (qm3 T v P)
def zog (T:TS) (v:EvP):Prop :=
 v.k=9\/(v.k=10/\T.long=false/\T.cmd.length+v.d.length<=6000)\/(v.k=11/\v.b=1/\T.long=false/\(∃bs,T.cmd=71::bs/\CmdOk bs/\(yJ bs).More≠1/\bs.length<=39000)/\T.E.quota<=100000)\/((v.k=1\/v.k=4)/\EvN (q6t v))
structure EvOk (T:TS) (v:EvP):Prop where
 go:zog T v
 calm:∀P,Calm (qm3 T v P)
 rl:T.rep.length<=1000000
 rd:∀P,(qm3 T v P).rep.length<=2000000
 n:T.n<=880
def qvw (F:TmF) (T:TS) (k:Nat):Prop:=Yp F k\/yl T.E.S k
section
variable {w w':World} {base:Nat} {F F':TmF} {T T':TS}
theorem q4t {v:EvP} {p d:Slc} (h:TermM w base F T) (hv:EvW w (qvw F T) p d v) (ok:EvOk T v) {K:Ub}
  (hK:∀P F' w',TmT base w F F' (qr7 T v P) w'->(∀k,yl (qr7 T v P).E.S k->yl T.E.S k\/w.heap.size<=k)->K w'):JG (some ⟨F.tg,0,none⟩) ⟨v.k,v.r,v.b,v.pv,ze v.i,p,d⟩ w K:=by
 refine qlg _ _ ?_;simp only [onPtr_some];obtain ⟨hgo,hcalm,hrl,hrd,hn⟩:=ok;refine nwb λw1 h1 hB1 hs1=>?_;refine lI (x:=v.k) (h1.cells 0 _ rfl) ?_;have t1:=TmT.of_ext h hB1;have z1:=hB1.size;have aft:∀(P:Slc) (F2:TmF) (w2:World),TmT base w F F2 (qm3 T v P) w2->(qm3 T v P).n<=100000->(∀k,yl (qm3 T v P).E.S k->yl T.E.S k\/w.heap.size<=k)->zE (some ⟨F.tg,0,none⟩) w2 λw3=>K w3:=by
  intro P F2 w2 t2 hn2 hi;rw [<-t2.tg];exact q45 t2.m (hcalm P) hn2 λF3 w3 t3=>hK P F3 w3 (t2.trans t3) hi
 have nn:∀j:Int,v.k≠j->(v.k==j)=false:=λj h=>beq_eq_false_iff_ne.2 h;refine jpO λJ1 hJ1=>?_;rcases hgo with e | ⟨e,hlong,hlen⟩ | ⟨e,hb,hlong,⟨bs,hcmd,hok,hm,hbl⟩,hq⟩ | ⟨e,hN⟩
 ·refine cF (nn 6 (by omega)) (cF (nn 7 (by omega)) (cF (nn 8 (by omega)) (cT (by rw [e];rfl) ?_)));rw [qH];refine qB t1.m.blk (by show 0+10+1<=15;omega) λw2 hb2 hg2 hs2=>?_;have t2:TmT base w1 F { F with cq:=⟨none,0,0⟩ } { T with cmd:=[] } w2:=t1.m.put hb2 (Chg.gg hg2) rfl rfl rfl rfl rfl rfl rfl rfl rfl (Go.Vc.Own.nil _ _ _) t1.m.rq (λk hk=>by cases hk) λ_ hk=>hk;rw [qH];refine qB t2.m.blk (by show 0+11+1<=15;omega) λw3 hb3 hg3 hs3=>?_;have t3:TmT base w2 { F with cq:=⟨none,0,0⟩ } { F with cq:=⟨none,0,0⟩ } { T with cmd:=[],long:=false } w3:=t2.m.put hb3 (Chg.gg hg3) rfl rfl rfl rfl rfl rfl rfl rfl rfl t2.m.cq t2.m.rq (λ_ hk=>hk) λ_ hk=>hk;have eq:qm3 T v ⟨none,0,0⟩={ T with cmd:=[],long:=false }:=by unfold qm3;rw [if_pos e]
  exact aft ⟨none,0,0⟩ _ w3 (by rw [eq];exact t1.trans (t2.trans t3)) (by rw [eq];show T.n<=_;omega) (by rw [eq];exact λk hk=>.inl hk)
 ·refine cF (nn 6 (by omega)) (cF (nn 7 (by omega)) (cF (nn 8 (by omega)) (cF (nn 9 (by omega)) (cT (by rw [e];rfl) ?_))));refine lSl (x:=d) (h1.cells 6 _ rfl) ?_;refine zbf t1.m hlong (hv.ds.ext hB1) (λa ha hs=>(hv.df a ha).1 (.inl hs)) hlen λF2 w2 t2=>?_;have eq:qm3 T v ⟨none,0,0⟩={ T with cmd:=T.cmd++v.d }:=by unfold qm3;rw [if_neg (by omega),if_pos e]
  exact aft ⟨none,0,0⟩ _ w2 (by rw [eq];exact t1.trans t2) (by rw [eq];show T.n<=_;omega) (by rw [eq];exact λk hk=>.inl hk)
 ·refine cF (nn 6 (by omega)) (cF (nn 7 (by omega)) (cF (nn 8 (by omega)) (cF (nn 9 (by omega)) (cF (nn 10 (by omega)) (cT (by rw [e];rfl) ?_)))));have eq:∀P,qm3 T v P=qt7 T P:=λP=>by unfold qm3;rw [if_neg (by omega),if_neg (by omega),if_pos e]
  refine lI (x:=v.b) (h1.cells 2 _ rfl) ?_;rw [hb];refine q6k t1.m hlong hcmd hok hm hn hq hbl hrl (λP=>by rw [<-eq P];exact hrd P) λP F2 w2 t2 hi=>?_;exact aft P _ w2 (by rw [eq];exact t1.trans t2) (by rw [eq];show T.n+2<=_;omega) (by rw [eq];exact λk hk=>(hi k hk).imp_right λh=>by omega)
 ·have hkn:v.k≠6/\v.k≠7/\v.k≠8/\v.k≠9/\v.k≠10/\v.k≠11/\v.k≠3:=by omega
  obtain ⟨n6,n7,n8,n9,n10,n11,n3⟩:=hkn;refine cF (nn 6 n6) (cF (nn 7 n7) (cF (nn 8 n8) (cF (nn 9 n9) (cF (nn 10 n10) (cF (nn 11 n11) (cF (nn 3 n3) (hJ1 _ _ ?_)))))));have eq:qm3 T v ⟨none,0,0⟩={ T with S:=T.S.doN (q6t v),rep:=T.rep++T.S.doNR (q6t v) }:=by unfold qm3;rw [if_neg n9,if_neg n10,if_neg n11]
  have hrd0:=hrd ⟨none,0,0⟩;rw [eq] at hrd0;simp only [length_append] at hrd0;have t1d:=t1.drew;have m1:=t1d.m;have h1d:=h1.drew;refine lSl (x:=F.rq) (m1.blk.cells 12 _ rfl) (qK (x:=some ⟨F.sg,0,none⟩) (m1.blk.cells 6 _ rfl) (qy (r:=zg.rep) (x:=⟨v.k,v.r,v.b,v.pv,ze v.i,p,d⟩) h1d.cells ?_));have hv1:EvM w1.drew F.sg F.SF ⟨v.k,v.r,v.b,v.pv,ze v.i,p,d⟩ (q6t v):=⟨rfl,rfl,rfl,rfl,rfl,⟨(hv.ps.ext hB1).drew,.inr λa ha=>⟨λhs=>(hv.pf a ha).1 (.inl (.inr (.inl hs))),by have:=(hv.pf a ha).2;show a.block<w1.heap.size;omega⟩,λx hx=>by have:=hv.rng x hx;unfold zko;omega,by have:=hv.pl;show v.ps.length<=100000;omega⟩,hv.b,hv.pv,by have:=hv.il;show v.i.length<=100000;omega⟩;refine zhi m1.sc hv1 m1.tab hN λq SF' w3 hq hT=>?_;have t3:=m1.screen hT;have m3:=t3.m;refine ⟨m3.blk.cells 12 _ rfl,?_⟩;refine jz zh (ty:=qm) (xs:=T.rep) (ys:=T.S.doNR (q6t v)) m3.rq hq m3.base_le (by rw [xX];omega) (by simp [maxLen];omega) λr w4 hr hg hrb=>?_;refine m3.replied (xs:=T.S.doNR (q6t v)) hr (Chg.of_grown hg λk hk=>hk) hrb λw5 t5=>?_;exact aft ⟨none,0,0⟩ _ w5 (by rw [eq];exact t1d.trans (t3.trans t5)) (by rw [eq];show T.n<=_;omega) (by rw [eq];exact λk hk=>.inl hk)
noncomputable def TH2 (base tg pg:Nat):Hnd TS where
 M w S s:=∃F,F.tg=tg/\F.pg=pg/\TermM w base F s/\S=qvw F s
 R s v s':=∃P,s'=qr7 s v P
 ok s v:=EvOk s v
theorem zmm (base tg pg:Nat):HndOk (TH2 base tg pg) base (.func (.func qad) #[.pointer (some ⟨tg,0,none⟩)] #[]) where
 keep:=by
  rintro w w' S s X ⟨F,e1,e2,hm,rfl⟩ hc hS hf hb;exact ⟨F,e1,e2,hm.keep hc (λk hk=>hS k (.inl hk)) (λk hk=>hS k (.inr hk)) hf (qhr hm hc hb),rfl⟩
 lt:=by
  rintro w S s ⟨F,e1,e2,hm,rfl⟩ k (hk | hk)
  ·exact hm.below k hk
  ·obtain ⟨hb,cs,hcs⟩:=qpm hm.en hk;exact ⟨hb,hcs.lt⟩
 call:=by
  rintro w S s v p d K ⟨F,e1,e2,hm,rfl⟩ ok hv hK;subst e1;refine callR_plain (by kernel_rfl) (show JG (some ⟨F.tg,0,none⟩) ⟨v.k,v.r,v.b,v.pv,ze v.i,p,d⟩ w K from ?_);exact q4t hm hv ok λP F' w' t hi=>hK w' (qvw F' (qr7 s v P)) (qr7 s v P) ⟨F',t.tg,t.pg.trans e2,t.m,rfl⟩ ⟨P,rfl⟩ (t.chg.mono λk _ hk=>.inl hk) λk hk=>by
   rcases hk with hk | hk
   ·exact (t.old k hk).imp_left .inl
   ·exact (hi k hk).imp_left .inr
structure TPI (w:World) (base:Nat) (F:TmF) (PF:PF) (p:PS) (T:TS):Prop where
 tm:TermM w base F T
 pm:∃fv,ParsM w base PF p fv
 e:PF.pg=F.pg
 dj:∀k,JM PF k->¬qvw F T k
theorem TPM.two {PF:PF} {p:PS} (h:TPM w base F PF p T):TPI w base F PF p T:=⟨h.tm,h.pm,h.e,λk hk hs=>hs.elim (h.dj k hk) λhi=>by obtain ⟨q,hq,_⟩:=hi;rw [h.ni] at hq;cases hq⟩
theorem TPI.ext {PF:PF} {p:PS} (h:TPI w base F PF p T) (hB:Uc w w'):TPI w' base F PF p T:=⟨h.tm.ext hB,by obtain ⟨fv,hp⟩:=h.pm;exact ⟨fv,hp.ext hB⟩,h.e,h.dj⟩
theorem TPI.lt {PF:PF} {p:PS} (h:TPI w base F PF p T) {k:Nat} (hk:JM PF k\/qvw F T k):base<=k/\k<w.heap.size:=by
 obtain ⟨fv,hp⟩:=h.pm;rcases hk with hk | hk | hk
 ·exact hp.below k hk
 ·exact h.tm.below k hk
 ·obtain ⟨hb,cs,hcs⟩:=qpm h.tm.en hk;exact ⟨hb,hcs.lt⟩
theorem TPI.belowB {PF:PF} {p:PS} (h:TPI w base F PF p T) (hc:Chg (λk=>JM PF k\/qvw F T k) w w'):Below base w w':=hc.below h.tm.base_le λi hi hs=>by have:=(h.lt hs).1;omega
theorem q5q {PF:PF} {p:PS} (h:TPI w base F PF p T) {q:Slc} {bs:List UInt8} (hq:Rd qu w q bs) (hl:bs.length<=1000000) (hb:∀b∈bs,b.toNat<128) (hqn:∀a,q.a=some a->¬JM PF a.block/\¬qvw F T a.block/\a.block<w.heap.size)
  (hok:jy (TH2 base F.tg F.pg) T (p.eachB bs).2) {K:Ub} (hK:∀F' PF' T' w',TPI w' base F' PF' (p.eachB bs).1 T'->Jw (TH2 base F.tg F.pg) T (p.eachB bs).2 T'->F'.tg=F.tg->Chg (λk=>JM PF k\/qvw F T k) w w'->(∀k,(JM PF' k\/qvw F' T' k)->(JM PF k\/qvw F T k)\/w.heap.size<=k)->K w'):Kc (some ⟨F.tg,0,none⟩) q w K:=by
 refine qmx _ _ ?_;simp only [onPtr_some];refine qK (x:=some ⟨F.pg,0,none⟩) (h.tm.blk.cells 8 _ rfl) ?_;rw [<-h.e];obtain ⟨fv0,hp⟩:=h.pm;have hM:(TH2 base F.tg F.pg).M w (qvw F T) T:=⟨F,rfl,rfl,h.tm,rfl⟩;refine q7l (zmm base F.tg F.pg) rfl rfl hp hM h.dj hq hl hb hqn hok λPF' S' T' w' hp' hM' dj hR hold hc e=>?_;obtain ⟨F',e1,e2,hm,rfl⟩:=hM';exact hK F' PF' T' w' ⟨hm,⟨_,hp'⟩,e.trans (h.e.trans e2.symm),dj⟩ hR e1 hc hold
end
theorem ziu {P:Cel->Prop} {L:List (List Cel)} (h:∀xs∈L,∀c∈xs,P c) (h0:P vj):∀r c,P (xq L r c):=by
 intro r c;unfold xq;rw [List.getD_eq_getElem?_getD,List.getD_eq_getElem?_getD];cases hr:L[r]? with
 | none=>exact h0
 | some xs =>
  show P ((xs[c]?).getD vj);cases hc:xs[c]? with
  | none=>exact h0
  | some y=>exact h xs (List.mem_of_getElem? hr) y (List.mem_of_getElem? hc)
section
variable {w w':World} {base:Nat} {F F':TmF} {T T':TS} {PF:PF} {p:PS}
def kc:qo:=⟨2,3,2,2,4,4096⟩
end
abbrev noP:Slc:=⟨none,0,0⟩
def zid:qo:=⟨2,3,1,1,0,100⟩
def qxl:List UInt8:=[97,61,84,44,102,61,50,52,44,115,61,49,44,118,61,49,44,105,61,55,59,65,81,73,68]
def zlj:List UInt8:=[97,98,27,95,71,97,61,84,44,102,61,50,52,44,115,61,49,44,118,61,49,44,105,61,55,59,65,81,73,68,27,92,27,91,54,110]
def zm6:EvP:=⟨4,0,110,0,[],[6],[]⟩
def zh9:List EvP:=[qv9 97,qv9 98,evK 9 0,qg3 10 (71::qxl),evK 11 1,zm6]
theorem q7v:(ps0.eachB zlj).2=zh9:=by kernel_rfl
theorem YE {T:TS} {v:EvP} (h:v.k≠11) (P:Slc):qr7 T v P=qr7 T v noP:=by
 unfold qr7 qm3;split
 ·rfl
 ·split
  ·rfl
  ·rfl
noncomputable def kA1:TS:=qr7 (Xs zid) (qv9 97) noP
noncomputable def kA2:TS:=qr7 kA1 (qv9 98) noP
noncomputable def kA3:TS:=qr7 kA2 (evK 9 0) noP
noncomputable def kA4:TS:=qr7 kA3 (qg3 10 (71::qxl)) noP
noncomputable def kA5 (P:Slc):TS:=qr7 kA4 (evK 11 1) P
noncomputable def kA6 (P:Slc):TS:=qr7 (kA5 P) zm6 noP
theorem ziy (P:Slc):(qm3 kA4 (evK 11 1) P).rep=[27,95,71,105,61,55,59,79,75,27,92]:=by kernel_rfl
theorem zc3:CmdOk qxl/\(yJ qxl).More≠1:=by
 refine ⟨⟨by kernel_rfl,⟨?_,?_⟩,.inr (.inl (by kernel_rfl))⟩,?_⟩
 ·rw [show (yJ qxl).Format=24 by kernel_rfl];decide
 ·rw [show (yJ qxl).Zip=0 by kernel_rfl];decide
 ·rw [show (yJ qxl).More=0 by kernel_rfl];decide
theorem VU {l r:List UInt8} {n:Nat} (h:l=r) (hr:r.length<=n):l.length<=n:=by rw [h];exact hr
theorem zlo (b tg pg:Nat):jy (TH2 b tg pg) (Xs zid) zh9:=by
 refine ⟨⟨.inr (.inr (.inr ⟨.inl rfl,.inl rfl⟩)),λP=>⟨by kernel_rfl,.inr (by kernel_rfl)⟩,VU (r:=[]) (by kernel_rfl) (by decide),λP=>VU (r:=[]) (by kernel_rfl) (by decide),?_⟩,?_⟩
 ·rw [show (Xs zid).n=0 by kernel_rfl];decide
 rintro m ⟨P1,rfl⟩;rw [YE (show (qv9 97).k≠11 by decide)];refine ⟨⟨.inr (.inr (.inr ⟨.inl rfl,.inl rfl⟩)),λP=>⟨by kernel_rfl,.inr (by kernel_rfl)⟩,VU (r:=[]) (by kernel_rfl) (by decide),λP=>VU (r:=[]) (by kernel_rfl) (by decide),?_⟩,?_⟩
 ·show kA1.n<=880;rw [show kA1.n=0 by kernel_rfl];decide
 rintro m ⟨P2,rfl⟩;rw [YE (show (qv9 98).k≠11 by decide)];refine ⟨⟨.inl rfl,λP=>⟨by kernel_rfl,.inr (by kernel_rfl)⟩,VU (r:=[]) (by kernel_rfl) (by decide),λP=>VU (r:=[]) (by kernel_rfl) (by decide),?_⟩,?_⟩
 ·show kA2.n<=880;rw [show kA2.n=0 by kernel_rfl];decide
 rintro m ⟨P3,rfl⟩;rw [YE (show (evK 9 0).k≠11 by decide)];refine ⟨⟨.inr (.inl ⟨rfl,by kernel_rfl,?_⟩),λP=>⟨by kernel_rfl,.inr (by kernel_rfl)⟩,VU (r:=[]) (by kernel_rfl) (by decide),λP=>VU (r:=[]) (by kernel_rfl) (by decide),?_⟩,?_⟩
 ·show kA3.cmd.length+(71::qxl).length<=6000;rw [show kA3.cmd=[] by kernel_rfl];decide
 ·show kA3.n<=880;rw [show kA3.n=0 by kernel_rfl];decide
 rintro m ⟨P4,rfl⟩;rw [YE (show (qg3 10 (71::qxl)).k≠11 by decide)];refine ⟨⟨.inr (.inr (.inl ⟨rfl,rfl,by kernel_rfl,⟨qxl,by kernel_rfl,zc3.1,zc3.2,by decide⟩,?_⟩)),λP=>⟨by kernel_rfl,.inl ⟨by kernel_rfl,by kernel_rfl⟩⟩,VU (r:=[]) (by kernel_rfl) (by decide),λP=>VU (ziy P) (by decide),?_⟩,?_⟩
 ·show kA4.E.quota<=100000;rw [show kA4.E.quota=100 by kernel_rfl];decide
 ·show kA4.n<=880;rw [show kA4.n=0 by kernel_rfl];decide
 rintro m ⟨P5,rfl⟩;refine ⟨⟨.inr (.inr (.inr ⟨.inr rfl,.inr ⟨rfl,rfl,rfl,.inl rfl⟩⟩)),λP=>⟨by kernel_rfl,.inl ⟨by kernel_rfl,by kernel_rfl⟩⟩,VU (ziy P5) (by decide),λP=>VU (r:=[27,95,71,105,61,55,59,79,75,27,92,27,91,49,59,51,82]) (by kernel_rfl) (by decide),?_⟩,λ_ _=>trivial⟩;show (kA5 P5).n<=880;rw [show (kA5 P5).n=2 by kernel_rfl];decide
theorem zix {b tg pg:Nat} {T':TS} (h:Jw (TH2 b tg pg) (Xs zid) zh9 T'):∃P,T'=kA6 P:=by
 obtain ⟨m1,⟨P1,rfl⟩,m2,⟨P2,rfl⟩,m3,⟨P3,rfl⟩,m4,⟨P4,rfl⟩,m5,⟨P5,rfl⟩,m6,⟨P6,rfl⟩,rfl⟩:=h;refine ⟨P5,?_⟩;rw [YE (show (qv9 97).k≠11 by decide),YE (show (qv9 98).k≠11 by decide),YE (show (evK 9 0).k≠11 by decide),YE (show (qg3 10 (71::qxl)).k≠11 by decide),YE (show zm6.k≠11 by decide)];rfl
noncomputable def kX (P:Slc):Im:=(zA (kA6 P).E.S.L 7).getD ⟨qtg,[]⟩
theorem zln (P:Slc):(kA6 P).rep=[27,95,71,105,61,55,59,79,75,27,92,27,91,49,59,51,82]:=by kernel_rfl
theorem zn9 (P:Slc):(kA6 P).E.S.L=[(7,kX P)]:=by kernel_rfl
theorem zoc (P:Slc):(kX P).v.m.W=1/\(kX P).v.m.H=1:=⟨by kernel_rfl,by kernel_rfl⟩
theorem zgx (P:Slc):(kX P).bs=[1,2,3,255]:=by kernel_rfl
theorem zoa (P:Slc):(kA6 P).E.T=[p7]:=by kernel_rfl
theorem zok (P:Slc):(kA6 P).S.alt=false/\(kA6 P).S.g.top=0/\(kA6 P).S.g.rows=2:=⟨by kernel_rfl,by kernel_rfl,by kernel_rfl⟩
theorem zoe (P:Slc):(kA6 P).c.CellW=1/\(kA6 P).c.CellH=1:=⟨by kernel_rfl,by kernel_rfl⟩
theorem zll (P:Slc):(kA6 P).S.g.L=[[⟨97,0,at0⟩,⟨98,0,at0⟩,vj],[vj,vj,vj]]:=by kernel_rfl
theorem zde (P:Slc):(kA6 P).S.g.cols=3:=by kernel_rfl
theorem zmo (P:Slc):(kA6 P).S.c.Row=0/\(kA6 P).S.c.Col=2/\((kA6 P).S.modeP 25 true).1=true:=⟨by kernel_rfl,by kernel_rfl,by kernel_rfl⟩
theorem zn4 (P:Slc):(kA6 P).n=2:=by kernel_rfl
def zky:List UInt8:=zks [[⟨97,0,at0⟩,⟨98,0,at0⟩,vj],[vj,vj,vj]] 3 2 true 0 2 [1,2,3,255]
theorem qx0:zky.length=24:=by kernel_rfl
theorem zl8:zky[8]?=some 254:=by kernel_rfl
set_option maxHeartbeats 8000000
section
variable {w w':World} {base:Nat} {F F':TmF} {T T':TS}
theorem q2d {p:Cel->Prop} (P:Slc) (h0:p vj) (h1:p ⟨97,0,at0⟩) (h2:p ⟨98,0,at0⟩):∀r c,p (xq (kA6 P).S.g.L r c):=by
 refine ziu (λxs hx c hc=>?_) h0;rw [zll] at hx;simp only [mem_cons,List.not_mem_nil,or_false] at hx;rcases hx with rfl | rfl
 ·simp only [mem_cons,List.not_mem_nil,or_false] at hc;rcases hc with rfl | rfl | rfl
  ·exact h1
  ·exact h2
  ·exact h0
 ·simp only [mem_cons,List.not_mem_nil,or_false] at hc;rcases hc with rfl | rfl | rfl<;>exact h0
theorem zkq:((zlc [⟨97,0,at0⟩,⟨98,0,at0⟩,vj]).toList==(⟨#[97,98]⟩:ByteArray).toList)=true:=by kernel_rfl
theorem zig {PF:PF} {p:PS} (h:TPI w base F PF p T) {q:Slc} {bs:List UInt8} {w3:World} (hB:Uc w w3) (hq:Cmd w3 w.heap.size q bs):∀a,q.a=some a->¬JM PF a.block/\¬qvw F T a.block/\a.block<w3.heap.size:=by
 intro a ha;have hb:w.heap.size<=a.block/\a.block<w3.heap.size:=by
  rcases hq with h | ⟨g,hg,rfl,h⟩
  ·exact h.lt a.block (slk.2 ⟨a,ha,rfl⟩)
  ·cases ha;exact ⟨hg,h.lt⟩
 exact ⟨λhs=>by have:=(h.lt (.inl hs)).2;omega,λhs=>by have:=(h.lt (.inr hs)).2;omega,hb.2⟩
theorem zkp (hT:Tab w) (h4:4<=w.heap.size) {K:Bool->Ub} (hK:∀w',Uc w w'->K true w'):qjx w K:=by
 refine qxd ?_;unfold qqj;refine zb9 (c:=zid) (by unfold okC;decide) rfl hT h4 λF PF w1 M0 hB1=>jpO λJ1 hJ1=>cF rfl (cF rfl (hJ1 _ _ ?_));have M1:=M0.two;refine zd0 (bs:=zlj) rfl rfl λq w3 hq hB3=>?_;have M3:=M1.ext hB3;refine q5q M3 (hq.rd (by decide)) (by decide) (by decide) (zig M1 hB3 hq) (by rw [q7v];exact zlo _ _ _) λF4 PF4 T4 w4 M4 hR e4 hc4 hold=>?_;rw [q7v] at hR;obtain ⟨P,rfl⟩:=zix hR;rw [<-e4];have B1:=bT hB1 hB3;have B4:Uc w w4:=B1.trans (M3.belowB hc4);have m4:=M4.tm;refine qld m4 λqr F5 w5 hqr t5=>?_;have m5:=t5.m;have B5:Uc w w5:=B4.trans ((m4.belowB t5).mono (le_refl _));obtain ⟨v1,v2,v3⟩:=zok P;obtain ⟨c1,c2⟩:=zoe P;obtain ⟨u1,u2,u3⟩:=zmo P;rw [<-t5.tg];refine q04 (T:={ kA6 P with rep:=[] }) m5 (by show (kA6 P).n<=900;rw [zn4];decide) (x:=kX P) (zn9 P) (zoc P) (by rw [zgx];rfl) (by rw [zgx];rfl) (zoa P) ⟨v1,v2,v3⟩ c1 c2
  (q2d P (p:=λc=>c.A=at0) rfl rfl rfl) (q2d P (p:=λc=>0<=c.R/\c.R<=1114111) ⟨by decide,by decide⟩ ⟨by decide,by decide⟩ ⟨by decide,by decide⟩) (by show 2<(kA6 P).S.g.cols;rw [zde];decide) (by show _<=(kA6 P).S.c.Row/\(kA6 P).S.c.Row<=_;rw [u1];decide) (by show _<=(kA6 P).S.c.Col/\(kA6 P).S.c.Col<=_;rw [u2];decide) λm w6 hm6 hml hB6=>?_
 have ep:zks (kA6 P).S.g.L (kA6 P).S.g.cols (kA6 P).S.g.rows ((kA6 P).S.modeP 25 true).1 (kA6 P).S.c.Row (kA6 P).S.c.Col (kX P).bs=zky:=by
  rw [zll,zde,v3,u1,u2,u3,zgx];rfl
 have hm6:Rd qu w6 m.P (zks (kA6 P).S.g.L (kA6 P).S.g.cols (kA6 P).S.g.rows ((kA6 P).S.modeP 25 true).1 (kA6 P).S.c.Row (kA6 P).S.c.Col (kX P).bs):=hm6;rw [ep] at hm6;refine jd (vs:=qa.rep.cells m) rfl λw7 h7 hB7 hs7=>?_;have B7:=bT hB6 hB7;have m7:=m5.ext B7;refine qhw m7 λql ls w8 hql hls hB8=>?_;have B8:=bT B7 hB8;have hls:Lines w8 w7.heap.size ls (kA6 P).S.g.L:=hls;rw [zll] at hls;have h8:=h7.ext hB8;have hqr8:=hqr.ext B8;have hm8:=hm6.ext (bT hB7 hB8);refine ZD hqr8 ?_;have hr:((ze (kA6 P).rep).toList==(⟨#[27,95,71,105,61,55,59,79,75,27,92,27,91,49,59,51,82]⟩:ByteArray).toList)=true:=by
  rw [V1,zln];kernel_rfl
 refine cT hr (cT rfl (lSl (x:=m.P) (h8.cells 2 _ rfl) ?_));have hmn:=hm8.n;rw [qx0] at hmn;refine cT (by rw [hmn];rfl) (lSl (x:=m.P) (h8.cells 2 _ rfl) ?_);refine hm8.ix (E:=qu) (i:=8) (k:=1) rfl (by decide) (by rw [qx0];decide) λhc=>?_;have e8:zky[(8:Int).toNat]'(by rw [qx0];decide)=254:=by
  have:=zl8;rw [List.getElem?_eq_some_iff] at this;exact this.2
 rw [e8] at hc;refine lI (x:=254) (by simpa using hc 0 _ rfl) (cT rfl ?_);have hlen:ls.length=2:=hls.1;refine cT (by rw [hql.rd.n,hlen];rfl) ?_;obtain ⟨s0,hs0,hss⟩:=qh9 (xs:=ls) (k:=0) (by omega);refine hql.rd.ix (i:=0) (k:=1) rfl (by decide) (by omega) λhc=>?_;have hss':=hss (by show (0:Nat)<ls.length;omega);refine lSl (x:=s0) (by have:=hc 0 _ rfl;rw [show ls[(0:Int).toNat]'(by show (0:Nat)<ls.length;omega)=s0 from hss'] at this;simpa using this) ?_;refine zfv (hls.2 0 s0 _ hs0 rfl).rd (by decide) λw9 hB9=>cT zkq ?_;have m9:=(m7.ext hB8).ext hB9;refine qld m9 λqr2 F10 w10 hqr2 t10=>?_;have hn2:qr2.n=0:=hqr2.n;rw [hn2];refine hK w10 ?_;have B9:=bT (bT B5 B8) hB9;exact B9.trans ((m9.belowB t10).mono (le_refl _))
end
section
variable {w w':World} {base:Nat} {F:TmF} {T:TS} {c:qo}
theorem zfu (hbad:¬okC c) {K:Option Addr->Int->Ub} (hK:∀w',Uc w w'->K none 1 w'):Ki c w K:=by
 refine qok _ ?_;exact nwb λw1 h1 hB1 hs1=>qy (r:=qo.rep) (x:=c) h1.cells (q22 (λ_ w2 hB2=>cT rfl (hK w2 (bT hB1 hB2))) λh=>absurd h hbad)
theorem zjm (hT:Tab w) (c:qo) {K:Bool->Ub} (hK:∀w',Uc w w'->K true w'):qoe c w K:=by
 have h4:4<=w.heap.size:=zhw (g:=3) (by kernel_rfl) hT;refine qtc _ ?_;refine nwb λw1 h1 hB1 hs1=>zkp (hT.ext hB1) (by have:=hB1.size;omega) λw2 hB2=>cF rfl ?_;have B2:=bT hB1 hB2;have hc:=h1.ext hB2;refine jpO λJ1 hJ1=>?_;have go:(okC c->c.Rows<=100/\c.Cols<=100)->J1 () w2:=by
  intro h100;refine hJ1 _ _ (qy (r:=qo.rep) (x:=c) hc.cells ?_);by_cases hok:okC c
  ·have h100:=h100 hok;have hq:Kd c.Quota=0:=by obtain ⟨o1,o2,o3,o4,o5,o6⟩:=hok;unfold Kd;rw [if_neg (by omega)]
   have z2:=B2.size;refine zdm hok hq (hT.ext B2) (by omega) λF PF w4 M0 hB4 ⟨q1,q2,q3,q4⟩=>?_;have hc4:=hc.ext hB4;refine qy (r:=qo.rep) (x:=c) hc4.cells (q8m hok λtg sg eg st pg f0 f1 tt tq pb w5 hR hB5=>?_);refine jpO λJ2 hJ2=>cF rfl (cF rfl (hJ2 _ _ (cF rfl ?_)));have B5:=bT (bT B2 hB4) hB5;have c5:=hc4.ext hB5;have D:=bdw w5;refine zkk hok ((M0.tm.ext hB5).ext D) (hR.ext D) λw7 hB7=>cT rfl ?_;have B57:=bT D hB7;refine zfp hok h100 ((M0.tm.ext hB5).ext B57) (hR.ext B57) λw8 hB8=>cT rfl ?_;have B58:=bT B57 hB8;have c8:=c5.ext B58;have M8:=(M0.tm.ext hB5).ext B58;obtain ⟨fv,P0⟩:=M0.pm;have P8:=(P0.ext hB5).ext B58;refine qy (r:=qo.rep) (x:=c) c8.cells (q3s M8 λw9 hB9=>⟨(c8.ext hB9).cells,?_⟩);have hcfg:({ (Xs c).c with Rows:=((Xs c).S.g.rows:Int),Cols:=((Xs c).S.g.cols:Int) }:qo)=c:=by
    obtain ⟨o1,o2,o3,o4,o5,o6⟩:=hok;have e1:((Xs c).S.g.rows:Int)=c.Rows:=by show ((c.Rows.toNat:Nat):Int)=_;omega
    have e2:((Xs c).S.g.cols:Int)=c.Cols:=by show ((c.Cols.toNat:Nat):Int)=_;omega
    rw [e1,e2];rfl
   rw [hcfg];refine cT (by simp) ?_;have M9:=M8.ext hB9;have P9:=P8.ext hB9;have c9:=c8.ext hB9;refine q1z M9 λq wa hq tA=>cT (by rw [hq.n];rfl) ?_;have Ma:=tA.m;have hbl:w2.heap.size<wa.heap.size:=by have:=M9.belowB tA;have:=hB4.size;have:=M9.blk.lt;have:=tA.chg.size;have:=M0.tm.hg;omega
   have nS:∀k,k<w2.heap.size->¬Yp F k:=λk hk hs=>by have:=(M9.below k hs).1;omega
   have ca:=c9.chg tA.chg (nS _ (by have:=h1.lt;have:=hB2.size;omega));have Pa:=P9.blk.chg tA.chg (M0.dj _ (.inl rfl));rw [M0.e] at Pa;refine qy (r:=qo.rep) (x:=c) ca.cells ?_;refine qk7 _ ?_;refine jpO λJ3 hJ3=>qw (qK (x:=none) (Ma.blk.cells 9 _ rfl) (cF rfl (hJ3 _ _ ?_)));have Md:=Ma.drew;refine qw (qK (x:=some ⟨F.eg,0,none⟩) (Md.blk.cells 7 _ rfl) (qw (qK (x:=some ⟨F.pg,0,none⟩) (Md.blk.cells 8 _ rfl) (qw (lSl (x:=F.cq) (Md.blk.cells 10 _ rfl) ?_)))));refine qe6 _ _ ?_;refine jpO λJ4 hJ4=>qw (qK (x:=none) (Md.en.blk.cells 3 _ rfl) (cF rfl (hJ4 _ _ ?_)));have Mdd:=Md.drew;refine qw (qK (x:=some ⟨F.KF.sg,0,none⟩) (Mdd.en.blk.cells 1 _ rfl) (qw (qK (x:=some ⟨F.KF.sg,0,none⟩) (Mdd.en.blk.cells 1 _ rfl) (qud Mdd.en.st ⟨Mdd.en.blk.cells 1 _ rfl,qnw Mdd.en.st ⟨Mdd.blk.cells 10 _ rfl,Mdd.blk.cells 8 _ rfl,?_⟩⟩))));refine qh5 _ ?_;have Pd:=Pa.drew.drew.drew;refine qw (lSl (x:=PF.qi) (Pd.cells 4 _ rfl) (qw (lSl (x:=PF.qp) (Pd.cells 7 _ rfl) (qw (lSl (x:=PF.qd) (Pd.cells 10 _ rfl) ⟨Mdd.drew.blk.cells 10 _ rfl,?_⟩)))));refine ⟨ca.drew.drew.drew.cells,?_⟩;refine qvu _ ?_;refine nwb λwe he hBe hse=>lI (x:=c.Quota) (he.cells 5 _ rfl) ?_;rw [q1,q2,q3,q4];have hle:decide (i64.wrap (i64.wrap (i64.wrap ((zga c.Quota).S.used+(if (0:Int)>(zga c.Quota).S.res then 0 else (zga c.Quota).S.res))+i64.wrap (i64.wrap (i64.wrap (1024+((0:Nat):Int))+i64.wrap (8*((0:Nat):Int)))+((0:Nat):Int)))+((0:Nat):Int))<=i64.wrap (c.Quota+262144))=true:=by
    obtain ⟨o1,o2,o3,o4,o5,o6⟩:=hok;rw [qQ (x:=c.Quota+262144) (by omega)];refine dTq ?_;show (1024:Int)<=_;omega
   refine Eq.mpr (congrArg (λb=>K b we) ?_) (hK we ?_)
   ·exact hle
   ·have B9:=bT (bT B5 B58) hB9;have Ba:Uc w wa:=B9.trans ((M9.belowB tA).mono (by omega));exact bT (bT (bT (bT Ba (bdw wa)) (bdw wa.drew)) (bdw wa.drew.drew)) hBe
  ·refine zfu hok λw4 hB4=>?_;refine qy (r:=qo.rep) (x:=c) (hc.ext hB4).cells (zbr hok λw5 hB5=>?_);exact jpO λJ2 hJ2=>cF rfl (cF rfl (hJ2 _ _ (cT rfl (hK w5 (bT (bT B2 hB4) hB5)))))
 clear hJ1;refine jpO λJ3 hJ3=>?_;have lf:∀b:Bool,(b=false->okC c->c.Rows<=100/\c.Cols<=100)->J3 (b,()) w2:=by
  intro b hb;refine hJ3 _ _ (cO (λ_=>hK _ B2) λe=>?_);have go:=go (hb e);clear hJ3 hb
  repeat' first
   | exact hK _ B2
   | exact go
   | refine lI (x:=c.Rows) (hc.cells 0 _ rfl) ?_
   | refine lI (x:=c.Cols) (hc.cells 1 _ rfl) ?_
   | refine lI (x:=c.CellW) (hc.cells 2 _ rfl) ?_
   | refine lI (x:=c.CellH) (hc.cells 3 _ rfl) ?_
   | refine cO (λ_=>?_) λ_=>?_
 clear hJ3 go
 repeat' first
  | refine lI (x:=c.Rows) (hc.cells 0 _ rfl) ?_
  | refine lI (x:=c.Cols) (hc.cells 1 _ rfl) ?_
  | refine qx2 (λe=>?_) λe=>?_
  | (refine lf _ λe hok=>?_;obtain ⟨o1,o2,o3,o4,o5,o6⟩:=hok;first | exact absurd e (by decide) | (have e:=oFq e;omega) | omega)
end
end Go.Proofs.YtlmpnfhmpjldaaaGreatDoor
namespace Go.Proofs.YtlmpnfhmpjldaaaGreatDoor
def jnA (P:Program) (fn:Func) (s:ChangeSpec) (c:OpenClaim):Bool :=
 c.wf (OpenSpec.ofChange s) && laidOutB P && mapsRowed P && fn.params.all (P.readableRec ·) && namedTie P c.named s.vars && (c.stops==[]) && (P.stops==[]) && (c.knobs==[]) && (P.stopKnobs==[])
def jnB (P:Program) (fn:Func) (s:ChangeSpec) (c:OpenClaim):Bool :=
 (c.maps==(fn.params.toList++s.plain.varTypes P).any (P.mapsRec ·)) && (c.ifaces==(fn.params.toList++s.plain.varTypes P).any (P.ifacesRec ·)) && (c.mapsOut==P.mapsAmong fn.resultTypes.toList) &&
 (c.loops==(fn.params.toList++s.plain.varTypes P).any (P.loopsFrom ·)) && (c.wideKeys==(fn.params.toList++s.plain.varTypes P++fn.resultTypes.toList).any (P.wideKeysFrom ·)) &&
 s.vars.all (P.varReadable ·) && fn.resultTypes.all (λt=>P.readableRec t && decide (t<P.types.size)) && (c.ifacesOut==fn.resultTypes.toList.any (P.ifacesRec ·)) && (c.loopsOut==fn.resultTypes.toList.any (P.loopsFrom ·))
def jnC (P:Program) (fn:Func) (s:ChangeSpec) (c:OpenClaim):Bool :=
 (c.plainKeys==P.plainKeys) && c.shortTexts.isNone && P.stopsHeard && P.mayEnter && (c.lifted==P.liftsFinal) && (P.make==some c.make) && (c.kinds==(if c.domain.isEmpty then [] else fn.params.toList.map λt=>match P.underlying t with | some (.int k)=>some k | _=>none)) && (c.pinned==c.pinnedBy) &&
 (c.veiled==(fn.params.toList++s.plain.varTypes P++fn.resultTypes.toList).any (P.veiledRec ·)) && c.veiledFits P fn.params.toList (fn.params.toList++s.plain.varTypes P++fn.resultTypes.toList)
theorem zd1 {P:Program} {f:FuncId} {fn:Func} {s:ChangeSpec} {c:OpenClaim} (a:jnA P fn s c=true) (b1:(c.inPlace==P.inPlace f)=true) (b2:(c.unfollowed==P.unfollowed f)=true) (b3:(c.recurses==P.recurses f)=true) (b4:(c.named==P.varsNamed f)=true)
  (d:jnB P fn s c=true) (e:jnC P fn s c=true):joinedFacts P f fn s c=true:=by
 unfold jnA at a;unfold jnB at d;unfold jnC at e;unfold joinedFacts;simp only [Bool.and_eq_true,and_assoc] at a d e ⊢;exact ⟨a.1,a.2.1,a.2.2.1,a.2.2.2.1,a.2.2.2.2.1,a.2.2.2.2.2.1,a.2.2.2.2.2.2.1,a.2.2.2.2.2.2.2.1,a.2.2.2.2.2.2.2.2,b1,b2,b3,b4,d.1,d.2.1,d.2.2.1,d.2.2.2.1,d.2.2.2.2.1,d.2.2.2.2.2.1,d.2.2.2.2.2.2.1,d.2.2.2.2.2.2.2.1,d.2.2.2.2.2.2.2.2,e⟩
def zny (P:Program) (fn:Func) (s:ChangeSpec) (c:OpenClaim):Bool :=
 c.wf (OpenSpec.ofChange s) && fn.params.all (P.readableRec ·) && namedTie P c.named s.vars && (c.stops==[]) && (P.stops==[]) && (c.knobs==[]) && (P.stopKnobs==[])
def znm (P:Program) (fn:Func) (s:ChangeSpec) (c:OpenClaim):Bool :=
 c.shortTexts.isNone && (c.lifted==P.liftsFinal) && (P.make==some c.make) && (c.kinds==(if c.domain.isEmpty then [] else fn.params.toList.map λt=>match P.underlying t with | some (.int k)=>some k | _=>none)) && (c.pinned==c.pinnedBy) &&
 (c.veiled==(fn.params.toList++s.plain.varTypes P++fn.resultTypes.toList).any (P.veiledRec ·)) && c.veiledFits P fn.params.toList (fn.params.toList++s.plain.varTypes P++fn.resultTypes.toList)
theorem zlp {P:Program} {fn:Func} {s:ChangeSpec} {c:OpenClaim} (l:laidOutB P=true) (m:mapsRowed P=true) (a:zny P fn s c=true):jnA P fn s c=true:=by
 unfold zny at a;unfold jnA;simp only [Bool.and_eq_true,and_assoc] at a ⊢;exact ⟨a.1,l,m,a.2⟩
theorem zmb {P:Program} {fn:Func} {s:ChangeSpec} {c:OpenClaim} (k:(c.plainKeys==P.plainKeys)=true) (h:P.stopsHeard=true) (m:P.mayEnter=true) (a:znm P fn s c=true):jnC P fn s c=true:=by
 unfold znm at a;unfold jnC;simp only [Bool.and_eq_true,and_assoc] at a ⊢;exact ⟨k,a.1,h,m,a.2⟩
set_option maxRecDepth 100000
def q2h (T:List (List Nat)):Nat->List Nat->List Nat->Nat->List Nat
 | 0,_,kj,_=>kj.reverse
 | _+1,[],kj,_=>kj.reverse
 | n+1,f::todo,kj,m=>cond (Nat.testBit m f) (q2h T n todo kj m) (q2h T n ((T[f]?).getD []++todo) (f::kj) (m ||| 1 <<< f))
theorem ziz {P:Program} {T:List (List Nat)} (hT:P.funcs.toList.map P.leadsTo=T):∀(n:Nat) (todo kj:List FuncId) (m:Nat),(∀f,kj.contains f=Nat.testBit m f)->P.closureVia n todo kj=q2h T n todo kj m:=by
 have hg:∀f:Nat,(P.funcs[f]?).elim [] P.leadsTo=(T[f]?).getD []:=λf=>by
  rw [<-hT,List.getElem?_map,Array.getElem?_toList];cases P.funcs[f]?<;>rfl
 intro n
 induction n with
 | zero=>intro todo kj m h;cases todo<;>rfl
 | succ n ih =>
  intro todo kj m h;cases todo with
  | nil=>rfl
  | cons f todo =>
   show (if kj.contains f then P.closureVia n todo kj else P.closureVia n ((P.funcs[f]?).elim [] P.leadsTo++todo) (f::kj))=cond (Nat.testBit m f) (q2h T n todo kj m) (q2h T n ((T[f]?).getD []++todo) (f::kj) (m ||| 1 <<< f));rw [h f];cases hb:Nat.testBit m f
   ·rw [if_neg (by decide),hg];refine ih _ _ _ λx=>?_;rw [List.contains_cons,h x,Nat.testBit_or,Nat.one_shiftLeft,Nat.testBit_two_pow,Bool.or_comm];congr 1;by_cases e:x=f
    ·subst e;simp
    ·rw [beq_eq_false_iff_ne.2 e,dFq (λh=>e h.symm)]
   ·rw [if_pos rfl];exact ih _ _ _ h
theorem zaa {P:Program} {T:List (List Nat)} (hT:P.funcs.toList.map P.leadsTo=T) (f:FuncId):P.closure f=q2h T (1+(T.map λl=>l.length+1).sum) [f] [] 0:=by
 unfold Program.closure;rw [ziz hT _ _ _ 0 (λf=>by rw [Nat.zero_testBit];rfl)];subst hT;rw [List.map_map];rfl
theorem q3z {P:Program} (h:P.funcs.any Func.goes=false) (c:OpenClaim) (hs:c.start=.entering):c.goesBy P=false:=by
 have hg:∀f,P.goes f=false:=λf=>by
  unfold Program.goes;rw [h,Bool.and_false,Bool.or_false,List.any_eq_false];intro g _ hx;cases hp:P.funcs[g]? with
  | none=>rw [hp] at hx;cases hx
  | some fn =>
   rw [hp] at hx;rw [Array.any_eq_false] at h;obtain ⟨hi,rfl⟩:=Array.getElem?_eq_some_iff.1 hp;exact h g hi hx
 unfold OpenClaim.goesBy Program.goesAt Program.goesFrom;rw [hs];cases P.funcNamed c.func with
 | none=>rfl
 | some f=>simp [hg f]
def zm4:List (List Nat):=[[],[],[1],[4,5,6,7,8,9,10,11,12],[5,13,10,14,15,16,10],[17,18,19],[20,21],[22,15,23,24,23,25,25,26,26,27,28,30,29,31,32,33,34,35,36,37,38],[14,39,38],[40],[41],[42,43,44],[],[46,45],[49,48,47],[51,52,50],[53,54,56,55,58,57],[59,60,60,61],[62,63],[64,65],[66,67,68,68,69],[70],[71],[72],[51,73,50],[74],[75],[76],[77],[78],[79],[],[],[],[81,80],[],[82,83],[84],[86,85],[88,87],[89],[],[],[90,31,33],[],[91,92,93],[94,95,96,97,98,99,100,101],[102,102,102,102,103,104],[105,15,106,26,27,34],[82],[],[107,108],[109,110],[110,111],[112],[112],[113],[114,115,116,117],[],[118,118,118,118,118,118],[119,119,120,121],[89,122,123,124],[],[],[],[],[125,125,125,125,125,125],[],[126,126,127],[],[],[],[],[128,110],[],[129],[130],[131],[],[]]
def zly:List (List Nat):=[[132,133],[134],[],[],[],[],[],[135,135,135,135,136,138,137,140,139,141,142,141,135,135],[143,144,25],[107,145],[],[146,147,148],[149,150,152,151,153,154],[],[155],[156,157,156,156,158,159],[159,160,105,161,100,162],[],[105,163,162],[18],[164,165,166,167],[168,169,170,171,171],[],[172],[173],[40,71,129,174],[175],[],[176,177],[],[],[178,178],[179],[],[],[],[180],[181,182],[],[],[],[183],[184],[],[],[],[],[185],[],[],[186],[79],[187],[189,188],[],[],[190],[191,191],[],[],[],[192,193,194,195],[138,137,196,140,139,140,139],[],[197],[],[],[],[83],[198,153,153,154,199],[200,199,201,202],[],[203],[],[],[204],[],[205],[207,206,208],[158]]
def zmh:List (List Nat):=[[209,83],[210,208,212,211,158],[118,213,118,214],[215,216,217,218,219,220,221,222],[223,224],[214,225,214,213,214],[226,227],[228,229,230,232,231,231,233,234,233,231,235],[],[237,236],[238,239],[240,236],[],[],[107,239],[241,242,243],[177],[],[],[],[],[244,245],[246],[247],[248],[249],[250],[],[251,252,253,254,255,256,257,258,259,188,188],[260,261],[],[262],[263],[264,264,265,266],[190,265,266],[267,264,264,265,265,268,266],[],[],[83],[269,270,271,272],[269,152,151,152,151,273,151],[269,269,270,271,274,275],[198],[],[],[276,209,277],[278],[279],[280],[276,281,282,281,281,283],[284,285,285,286,287,278,288,83,41],[289,290,222,222],[],[107,292,291,214],[89,293,293],[294,295,295],[212,296,297],[298,158,218,222,299],[286],[300,222,217],[301,222,211,302],[303,34,304,305,306],[307,308],[309],[310,89,214,213,214,213,107,312,311],[315,316,248],[89,247,107,317,214],[214,213,318,319,320,321,322],[],[89,124,123],[323,324,324],[],[233,233],[325],[75],[228,228,231,232,231,231,326,327,320,321,328,329,330,331,332,333,334,107,292,291,335],[305,336],[338,337],[339],[]]
def zma:List (List Nat):=[[340,337],[],[341],[],[],[342],[343,344,343,345,346],[347],[348,80],[],[],[257],[349,349],[350,351],[352,352,352,353],[],[257,257,257],[354,354],[257,257],[257,257,257,257],[],[],[],[],[],[355],[],[],[],[],[200],[],[154,154],[356,356],[],[274,357],[],[283],[358,81,132,360,287],[],[361,337],[],[281,362,204],[],[172],[],[],[],[],[82,363,363,364,365,365],[366,367,337],[183,368,183,368,369],[],[],[370],[],[371],[372,373,374,373,375,375,376],[377,378,379],[380,218,222,381],[382,383],[303,82],[],[],[384,337],[386,287],[],[],[233,387],[],[113,389,388,390,388],[109,391,109],[313,314],[53,392,347,393,53],[53,394],[],[],[109,391,109],[107,292,291,214],[315,315]]
def zmc:List (List Nat):=[[],[123,89,293,293],[145,121,395,239,61],[214],[320,89,396,321],[397],[398,398,399],[89,228,293,228,293,323],[],[],[89,224],[89,396,396,396,396,396,107,395],[89,396],[89,396,313,400,107,401,311],[107,292,291,214],[402,403,214,214,214,404,214,404,228,214,225,214,405,214,214],[],[],[241],[406],[],[407,407,408,408],[],[409],[],[],[],[],[410],[257,257],[189],[],[353],[411,411,411],[],[],[],[],[359],[412,412],[],[],[],[],[365,365,365,365,365,413,413],[],[414,414,414,414,414,414,414,414,414],[],[415],[416],[417,418,419,417,418,345,419,417,418,420],[421,422,423],[424,376],[343],[],[343],[],[425],[],[426],[427,378,379,428,426,429,430],[210,222,208,222,211],[431,431],[],[385],[241,241,241,241,241,241],[433,432],[434,435,435,435,58],[],[],[],[53,53,347,393],[],[436],[111],[437],[107,292,438,129,107,239],[439,440,441,442],[],[443]]
def zmy:List (List Nat):=[[53,392,347,393,53],[292],[214],[89,214],[293],[315,316,248,444],[],[],[445,408,408],[446],[],[257],[],[],[],[],[368],[447],[],[],[448],[449,245],[449,450,423],[451],[452],[343,453,454],[],[453,454,455],[456],[457],[458,459,460],[],[461],[],[112,462],[112],[],[],[463,311],[],[261,465,466],[],[467,468],[],[469],[470,470,470],[],[],[],[],[],[409,346,409,345,346,471],[472],[],[],[],[],[473,474,475,476],[477],[478,479,457,480],[477],[],[481],[464],[53,394],[],[],[],[482,483],[],[],[484],[],[485,486],[487,488,489,490,488,491,492,428,493,488],[],[492],[103],[494,495,496],[498,497]]
def zlw:List (List Nat):=[[103,500,501,497],[],[],[],[],[],[],[],[],[],[428,505,506,507,508,509,507,507,507,83],[],[491],[],[511,510],[493,493,512],[513,514],[515,516],[500,499],[517],[],[499,502,503,504],[518,83,519],[517],[520,520,520,520,520],[83],[521],[],[522,523,524,525,526],[],[527,418,528],[],[500,529],[],[],[530],[531,531],[],[],[532],[533],[534],[506,535,536,536],[537,506,506],[506,538,539,540],[506,506,506,506,536,541,536,536],[542,540,539,543,506,542,544,506,539],[],[493,545,547,546,493,83],[548],[],[],[549],[],[],[],[550,551],[],[507,507,505,506],[],[],[542,506],[534,521,506],[],[],[552,553],[],[],[],[],[],[554],[146],[],[],[],[],[],[],[]]
def zl7:List (List Nat):=[[],[],[],[],[],[],[],[],[],[],[],[],[],[],[],[],[578],[582,584,585,585,585],[579,580,581],[],[579,582,577,582,582,583],[583],[],[],[586,586],[],[],[],[],[],[],[599],[],[377,41],[595,591],[596,598,597],[600,600],[],[],[],[601,602,603,602],[],[],[602],[605,606,607],[364,102,102,102,102],[608,608,284],[284,284,608,608,610,610,609],[],[],[],[612,591],[614,613],[596,598,598],[597],[102,102],[],[],[],[],[],[],[],[],[],[],[],[],[],[]]
def znc:List (List Nat):=zm4++zly++zmh++zma++zmc++zmy++zlw++zl7
theorem zic:Tryz.checked.prog.funcs.toList.map Tryz.checked.prog.leadsTo=znc:=by kernel_rfl
theorem q7j:Tryz.checked.prog.funcs.any Func.goes=false:=by kernel_rfl
def zoh:List Nat:=[3,4,5,17,59,118,60,119,120,121,183,247,347,61,89,107,145,122,184,248,348,410,80,132,187,133,189,260,261,188,251,257,354,252,349,253,350,351,254,352,353,411,255,256,258,259,123,124,18,62,63,19,64,65,13,46,94,155,204,95,156,157,205,276,209,281,282,362,283,277,158,207,279,206,278,358,359,412,81,134,360,287,208,280,361,337,159,96,160,83,105,40,71,129,174,239,161,210,284,172,285,286,288,41,212,211,289,82,363,364,365,413,290,366,414,367,222,307,308,233,325,397,439,440,465,466,441,442,467,468,482,483,387,434,112,179,462,481,435,58,100,164,223,309,224,310,113,389,388,390,214,293,213,292,291,368,415,369,416,312,313,53,110,111,178,392,393,436,314,394,311,109,391,165,225,315,316,166,226,317,227,318,319,320,321,322,395,437,167,228,229,230,323,324,396,438,463,464,232,231,234,75,235,326,398,399,443,327,328,329,330,331,332,333,400,401,334,335,402,403,404,405,444,469,162,97,98,163,215,294,370,417,447,418,419,345,420,448,295,216,296,371,421,449,245,342,422,450,423,451,409,446,346,471,484,297,372,424,452,472,376,373,343,374,375,217,298,377,425,453,454,378,379,426,218,299,380,427,455,428,456,429,457,473,485,486,474,487,488,489,490,505,506,521,534,507,508,522,535,536,550,551,554,523,537,524,538,539,540,525,541,542,526,543,544,509,491,492,493,475,476,430,458,477,103,459,478,494,511,510,527,528,545,552,146,553,547,546,495,512,500,529,548,496,513,514,479,498,499,517,497,515,530,516,531,480,501,502,518,519,532,549,503,504,520,533,460,381,219,300,382,431,383,220,301,303,302,221,34,304,384,385,241,305,386,433,432,461,306,99,101,168,169,237,338,236,336,170,238,339,406,171,240,340,45,91,147,148,92,149,198,153,154,199,269,270,200,152,203,151,273,356,271,272,150,201,274,275,357,202,93,10,14,49,48,15,51,108,176,177,52,50,106,175,242,341,407,408,445,470,243,26,27,76,130,186,250,47,102,104,173,16,54,56,55,57,114,115,116,180,117,181,244,182,246,344,6,20,66,125,67,68,126,127,185,249,69,21,70,7,22,23,72,24,73,128,25,74,28,77,131,79,30,29,78,31,32,33,35,36,37,84,38,86,85,8,39,88,143,144,197,87,135,136,190,138,137,191,262,140,139,141,192,263,193,264,265,355,266,194,195,267,268,142,196,9,11,42,43,90,44,12]
theorem q4v:Tryz.checked.prog.closure 3=zoh:=(zaa zic 3).trans (by kernel_rfl)
end Go.Proofs.YtlmpnfhmpjldaaaGreatDoor
