import Derived.Test.YtokfefnmpjohpaaGreatDoorP2
import Derived.Test.YtokfefnmpjohpaaGreatDoorP1
import Derived.Shelf.SlIterI.Nil
import Derived.Shelf.SortM.Plain
import Derived.Shelf.SortM.SortNone
import Derived.RangeFuncBox
import Derived.RangeFuncLeaves
import Derived.RangeFuncFrom
import Derived.RangeFuncWrites
import Derived.Shelf.Abstract
import Derived.WalkKit
import Derived.OwnWalkIn
import Derived.TacticsInMore
import Derived.LoopNIn
import Derived.LoopIn
import Derived.BigFrameIn
import Derived.BigRegionIn
import Derived.BigGuardIn
import Derived.BigGuardPartIn
import Derived.Scope
import Derived.Laws.Runes
set_option linter.unusedVariables false
namespace Go.Proofs.YtokfefnmpjohpaaGreatDoor
open Go.Vc Go.RowKit
set_option maxRecDepth 400000
open IntKind (i64)
open _root_.List (length_cons)
open _root_.Nat (le_refl zero_le)
section
variable {σ:Type} {H:Hnd σ} {w w':World} {base:Nat} {F F':PF} {p p':PS} {fv:Value} {S S':Nat->Prop} {s s':σ} {c:Int}
theorem ZR {K:Bool->Ub} (hK:K (qsi c) w):xl c w K:=by
 refine qg7 _ ?_;unfold qsi at hK;refine cO (λe=>?_) λe=>?_
 ·rw [e,Bool.true_and] at hK;refine cO (λe2=>?_) λe2=>?_
  ·rw [e2,Bool.true_and] at hK;refine cO (λe3=>?_) λe3=>?_
   ·rw [e3,Bool.true_and] at hK;exact hK
   ·rw [e3,Bool.false_and] at hK;exact hK
  ·rw [e2,Bool.false_and] at hK;exact hK
 ·rw [e,Bool.false_and] at hK;exact hK
theorem PH.chars (hH:HndOk H base fv) (h:PH H w base F p fv S s) {r lo hi:Int} (hb:Blk w' F.cg VV [.int .i32 r,.int .i64 0,.int .u8 lo,.int .u8 hi]) (hc:Chg (λk=>k=F.cg) w w'):PhT H base w F S F S p fv s w':=by
 have hp:=h.par;obtain ⟨r0,l0,h0,hch⟩:=hp.ch;refine h.own hH ⟨hp.blk.chg hc (λe=>hp.ne_pg F.cg (.inl rfl) e.symm),⟨r,lo,hi,hb⟩,hp.hg,hp.qi.chg hc (qA hp.qi hch (by decide)),hp.qp.chg hc (qA hp.qp hch (by decide)),hp.qd.chg hc (qA hp.qd hch (by decide)),hp.ne,hp.ok⟩ (hc.mono λk _ e=>.inr (.inl e)) (λk hk=>.inl hk) rfl
theorem PH.ldCh (h:PH H w base F p fv S s) {K:Option Addr->Prop} (hK:K (some ⟨F.cg,0,none⟩)):ldP ((⟨F.pg,0,none⟩:Addr).add 2) w K:=qM (x:=some ⟨F.cg,0,none⟩) (h.par.blk.cells 2 _ rfl) hK
theorem qlm (hH:HndOk H base fv) (h:PH H w base F p fv S s) {K:Slc->Ub} (hK:∀w',PhT H base w F S F S p fv s w'->K ⟨none,0,0⟩ w'):k8 (some ⟨F.cg,0,none⟩) w K:=by
 refine qhs _ ?_;obtain ⟨r0,l0,h0,hch⟩:=h.par.ch;refine qen _ ?_;simp only [onPtr_some];refine lI (x:=0) (hch.cells 1 _ rfl) ?_;refine qz hch (by show 0+4<=4;omega) λw1 hb hg hs=>cF rfl (hK w1 ?_);exact h.chars hH (r:=0) (lo:=0) (hi:=0) hb (Go.Vc.Chg.gg hg)
theorem q4f (hH:HndOk H base fv) (h:PH H w base F p fv S s) (hc:0<=c/\c<128) {K:Slc->Ub} (hK:∀q w',Rd qxs w' q [c]->(∀a,q.a=some a->¬S a.block/\¬Qx F a.block/\a.block<w'.heap.size)->PhT H base w F S F S p fv s w'->K q w'):Ju (some ⟨F.cg,0,none⟩) c w K:=by
 refine qg9 _ _ ?_;obtain ⟨r0,l0,h0,hch⟩:=h.par.ch;simp only [onPtr_some];refine lI (x:=0) (hch.cells 1 _ rfl) (cT rfl ?_);refine qdq _ _ ?_;simp only [onPtr_some];refine qz hch (by show 0+4<=4;omega) λw1 hb hg hs=>?_;have h1:=h.chars hH (r:=0) (lo:=128) (hi:=191) hb (Go.Vc.Chg.gg hg);refine jpO λJ1 hJ1=>cT (dTq hc.2) ?_;refine nwb λw2 hb2 hB2 hs2=>?_;have e:IntKind.i32.wrap c=c:=by
  obtain ⟨m,hm⟩:∃m:Nat,c=m:=⟨c.toNat,by omega⟩;rw [hm];exact xh .i32 (by show _<2^31;omega)
 rw [e] at hb2;refine hK _ w2 (ZU (E:=qxs) hb2 rfl) (λa ha=>?_) (h1.trans (h1.m.ext hH hB2));cases ha;exact ⟨λhs=>by have:=(hH.lt h1.m.m _ hs).2;exact Nat.lt_irrefl _ this,λhs=>by have:=(h1.m.par.below _ hs).2;exact Nat.lt_irrefl _ this,hb2.lt⟩
theorem qle {K:Ub} (hK:K w):je (some ⟨F.pg,0,none⟩) ⟨none,0,0⟩ w K:=by
 refine Zv _ _ ?_;refine lpR (λ(st:Int×Unit) w2=>st.1=0/\w2=w) (λ_=>0) ⟨rfl,rfl⟩ ?_;rintro ⟨i,u⟩ w2 ⟨rfl,rfl⟩ I hI;exact cF rfl hK
theorem q7b (hH:HndOk H base fv) (h:PH H w base F p fv S s) {q:Slc} (hq:Rd qxs w q [c]) (hok:H.ok s (qpj c)) {K:Ub} (hK:∀S' s' w',PhT H base w F S F S' p fv s' w'->H.R s (qpj c) s'->K w'):je (some ⟨F.pg,0,none⟩) q w K:=by
 refine Zv _ _ ?_;simp only [onPtr_some];have hn:q.n=1:=hq.n;refine lpR (λ(st:Int×Unit) w2=>(st.1=0/\w2=w)\/(st.1=1/\∃S' s',PhT H base w F S F S' p fv s' w2/\H.R s (qpj c) s')) (λst=>1-st.1.toNat) (.inl ⟨rfl,rfl⟩) ?_;rintro ⟨i,u⟩ w2 (⟨rfl,rfl⟩ | ⟨rfl,S2,s2,h2,hr2⟩) I hI
 ·refine cT (by rw [hn];rfl) ?_;refine hq.ix (i:=0) rfl (by decide) (by simp) λhc=>lI (x:=c) (by simpa using hc 0 _ rfl) ?_;refine qnk hH h 1 c 0 (by omega) hok λS' s' w' hT hr=>hI _ _ (.inr ⟨by show i64.wrap (0+1)=1;decide,S',s',hT,hr⟩) (by show 1-(i64.wrap (0+1)).toNat<1-(0:Int).toNat;decide)
 ·exact cF (by rw [hn];rfl) (hK S2 s2 w2 h2 hr2)
theorem za0 (h:PsOk p) (x:Int):PsOk (p.begin_ x):=⟨zero_le _,zero_le _,h.dl,⟨Int.le_refl 0,by show (0:Int)<=65535;omega⟩,⟨Int.le_refl 0,by show (0:Int)<=255;omega⟩,λy hy=>by cases hy⟩
theorem VE (hH:HndOk H base fv) (h:PH H w base F p fv S s) (x:Int) {K:Ub} (hK:∀F' w',PhT H base w F S F' S (p.begin_ x) fv s w'->K w'):jx (some ⟨F.pg,0,none⟩) x w K:=by
 refine qct _ _ ?_;simp only [onPtr_some];have ok:=h.par.ok;have z5:(0:Int)<=0/\(0:Int)<=65535:=by omega
 have z2:(0:Int)<=0/\(0:Int)<=255:=by omega
 refine h.st hH (i:=0) { p with st:=x } (by decide) rfl rfl rfl rfl ⟨ok.il,ok.pl,ok.dl,ok.la,ok.pv,ok.pr⟩ λw1 h1=>?_;refine h1.m.st hH (i:=3) { p with st:=x,priv:=0 } (by decide) rfl rfl rfl rfl ⟨ok.il,ok.pl,ok.dl,ok.la,z2,ok.pr⟩ λw2 h2=>?_;refine h2.m.st hH (i:=5) { p with st:=x,priv:=0,wrong:=false } (by decide) rfl rfl rfl rfl ⟨ok.il,ok.pl,ok.dl,ok.la,z2,ok.pr⟩ λw3 h3=>?_;refine h3.m.st hH (i:=6) { p with st:=x,priv:=0,wrong:=false,first:=true } (by decide) rfl rfl rfl rfl ⟨ok.il,ok.pl,ok.dl,ok.la,z2,ok.pr⟩ λw4 h4=>?_;refine h4.m.st hH (i:=8) { p with st:=x,priv:=0,wrong:=false,first:=true,some_:=false } (by decide) rfl rfl rfl rfl ⟨ok.il,ok.pl,ok.dl,ok.la,z2,ok.pr⟩ λw5 h5=>?_;refine h5.m.st hH (i:=9) { p with st:=x,priv:=0,wrong:=false,first:=true,some_:=false,last:=0 } (by decide) rfl rfl rfl rfl ⟨ok.il,ok.pl,ok.dl,z5,z2,ok.pr⟩ λw6 h6=>?_;have h06:=((((h1.trans h2).trans h3).trans h4).trans h5).trans h6;have h07:=h06.trans (h06.m.drew hH);generalize w6.drew=w7 at h07 ⊢;have hp:=h07.m.par;refine lSl (x:=F.qi) (hp.blk.cells 4 _ rfl) ?_;refine hp.qi.rd.slK (l:=0) (m:=0) rfl (.inl ⟨rfl,rfl⟩) (.inr rfl) (le_refl _) (zero_le _) λ_=>?_;refine lSl (x:=F.qp) (hp.blk.cells 7 _ rfl) ?_;refine hp.qp.rd.slK (l:=0) (m:=0) rfl (.inl ⟨rfl,rfl⟩) (.inr rfl) (le_refl _) (zero_le _) λ_=>?_;obtain ⟨q1,e1,o1,b1⟩:=qtd hp.qi;obtain ⟨q2,e2,o2,b2⟩:=qtd hp.qp;rw [e1,e2];rw [qB];refine qz hp.blk (by show 0+4+1<=12;omega) λw8 hb8 hg8 hs8=>?_;rw [qB];refine qz hb8 (by show 0+7+1<=(putL _ _ _).length;rw [XS];show 8<=12;omega) λw9 hb9 hg9 hs9=>?_;refine hK { F with qi:=q1,qp:=q2 } w9 (h07.trans (h07.m.put hH hb9 ((Go.Vc.Chg.gg hg8).trans (Go.Vc.Chg.gg hg9) λi _ hi=>hi) rfl rfl o1 o2 hp.qd b1 b2 (λ_ h=>h) (za0 ok x)))
theorem qd5 (hH:HndOk H base fv) (h:PH H w base F p fv S s) {b:Int} (hb:0<=b/\b<=255) (hok:jf H s (p.close b)) {K:Ub} (hK:∀S' s' w',PhT H base w F S F S' p fv s' w'->Z9 H s (p.close b) s'->K w'):xe (some ⟨F.pg,0,none⟩) b w K:=by
 refine qdl _ _ ?_;simp only [onPtr_some];unfold PS.close at hok hK;refine lI (x:=p.st) (h.par.blk.cells 0 _ rfl) ?_;refine cO (λe=>?_) λe=>?_
 ·have e:p.st=5:=eq_of_beq e;rw [if_pos e] at hok hK;exact qnk hH h 8 0 b hb hok.1 λS' s' w' hT hr=>hK S' s' w' hT ⟨s',hr,rfl⟩
 have e:¬p.st=5:=beq_eq_false_iff_ne.1 e;rw [if_neg e] at hok hK;refine cO (λe=>?_) λe=>?_
 ·have e:p.st=6:=eq_of_beq e;rw [if_pos e] at hok hK;exact qnk hH h 11 0 b hb hok.1 λS' s' w' hT hr=>hK S' s' w' hT ⟨s',hr,rfl⟩
 have e:¬p.st=6:=beq_eq_false_iff_ne.1 e;rw [if_neg e] at hok hK;exact hK S s w (PhT.refl h) rfl
theorem qzu (hH:HndOk H base fv) (h:PH H w base F p fv S s) (hc:0<=c/\c<128) (hok:jf H s (p.ground c).2) {K:Ub} (hK:∀S' s' w',PhT H base w F S F S' p fv s' w'->Z9 H s (p.ground c).2 s'->K w'):ve (some ⟨F.pg,0,none⟩) c w K:=by
 refine VT _ _ ?_;simp only [onPtr_some];unfold PS.ground at hok hK;dsimp only at hok hK;refine ZR (cO (λe=>?_) λe=>?_)
 ·rw [if_pos e] at hok hK;refine h.ldCh (qlm hH h λw2 h2=>qle ?_);exact qnk hH h2.m 2 0 c (by omega) hok.1 λS' s' w' hT hr=>hK S' s' w' (h2.trans hT) ⟨s',hr,rfl⟩
 rw [if_neg (by rw [e];decide)] at hok hK;refine cO (λe2=>?_) λe2=>?_
 ·have e2:c=127:=eq_of_beq e2;rw [if_pos e2] at hok hK;exact h.ldCh (qlm hH h λw2 h2=>qle (hK S s w2 h2 rfl))
 ·have e2:¬c=127:=beq_eq_false_iff_ne.1 e2;rw [if_neg e2] at hok hK;refine h.ldCh (q4f hH h hc λq w2 hq hqn h2=>?_);exact q7b hH h2.m hq hok.1 λS' s' w' hT hr=>hK S' s' w' (h2.trans hT) ⟨s',hr,rfl⟩
theorem zdy {c:Int} (hc:0<=c/\c<256):c=((UInt8.ofNat c.toNat).toNat:Int):=by
 have:(UInt8.ofNat c.toNat).toNat=c.toNat:=by
  rw [UInt8.toNat_ofNat'];omega
 rw [this];omega
theorem qp2 (hH:HndOk H base fv) (h:PH H w base F p fv S s) (hc:0<=c/\c<128) {K:Ub} (hK:∀F' w',PhT H base w F S F' S (p.keep c) fv s w'->K w'):kK (some ⟨F.pg,0,none⟩) c w K:=by
 refine qep _ _ ?_;simp only [onPtr_some];have ok:=h.par.ok;have hp:=h.par;unfold PS.keep at hK;refine lSl (x:=F.qi) (hp.blk.cells 4 _ rfl) ?_;have hn:F.qi.n=p.inter.length:=hp.qi.rd.n;rw [hn];refine cO (λe=>?_) λe=>?_
 ·have e:p.inter.length=2:=by have:=eq_of_beq e;omega
  rw [if_pos e] at hK;exact h.st hH (i:=5) { p with wrong:=true } (by decide) rfl rfl rfl rfl ⟨ok.il,ok.pl,ok.dl,ok.la,ok.pv,ok.pr⟩ λw1 h1=>hK F w1 h1
 ·have e:¬p.inter.length=2:=λh2=>by rw [h2] at e;exact absurd e (by decide)
  rw [if_neg e] at hK;refine lSl (x:=F.qi) (hp.blk.cells 4 _ rfl) ?_;refine zfo (c:=UInt8.ofNat c.toNat) (zdy (by omega)) hp.qi h.base_le (by have:=ok.il;omega) λq w2 ho hc2 hq=>?_;have hni:=hp.ne_pg;have hb2:=hp.blk.chg hc2 λe=>hni _ (.inr (.inl e)) rfl;rw [qB];refine qz hb2 (by show 0+4+1<=12;omega) λw3 hb3 hg3 hs3=>?_;have z2:=hc2.size;have c3:Chg (λk=>F.qi.blk=some k\/k=F.pg) w w3:=(hc2.mono λk _ e=>.inl e).trans (Go.Vc.Chg.gg hg3) λk _ e=>.inr e;obtain ⟨r0,l0,h0,hch⟩:=hp.ch;have nq:∀k,F.qi.blk=some k->k≠F.cg:=qA hp.qi hch (by decide);have hq':∀k,q.blk=some k->F.qi.blk=some k\/w.heap.size<=k:=λk hk=>by
   rcases hq with e | ⟨j,e,hj⟩
   ·exact .inl (e ▸ hk)
   ·rw [e] at hk;cases hk;exact .inr hj
  refine hK { F with qi:=q } w3 (h.own hH ⟨hb3,⟨r0,l0,h0,hch.chg c3 (λhh=>hh.elim (λe=>nq _ e rfl) λe=>hni _ (.inl rfl) e)⟩,hp.hg,ho.chg (Go.Vc.Chg.gg hg3) λk hk e=>?_,hp.qp.chg c3 ?_,hp.qd.chg c3 ?_,λk hk hk'=>?_,?_⟩ (c3.mono λk _ hk=>?_) (λk hk=>?_) rfl)
  ·rcases hq' k hk with h1 | h1
   ·exact hni k (.inr (.inl h1)) e
   ·have:=hp.blk.lt;omega
  ·rintro k hk (e | e)
   ·exact Xz hp.qi hp.qp (by decide) k e hk
   ·exact hni k (.inr (.inr (.inl hk))) e
  ·rintro k hk (e | e)
   ·exact hp.ne k e hk
   ·exact hni k (.inr (.inr (.inr hk))) e
  ·rcases hq' k hk with h1 | h1
   ·exact hp.ne k h1 hk'
   ·have:=(hp.qd.lt k hk').2;omega
  ·exact ⟨by show (p.inter++_).length<=2;rw [List.length_append];have:=ok.il;simp;omega,ok.pl,ok.dl,ok.la,ok.pv,ok.pr⟩
  ·rcases hk with hk | hk
   ·exact .inr (.inr (.inl hk))
   ·exact .inl hk
  ·rcases hk with hk | hk | hk | hk | hk
   ·exact .inl (.inl hk)
   ·exact .inl (.inr (.inl hk))
   ·rcases hq' k hk with h1 | h1
    ·exact .inl (.inr (.inr (.inl h1)))
    ·exact .inr h1
   ·exact .inl (.inr (.inr (.inr (.inl hk))))
   ·exact .inl (.inr (.inr (.inr (.inr hk))))
theorem qvr (hH:HndOk H base fv) (h:PH H w base F p fv S s) (x:Int) {K:Ub} (hK:∀w',PhT H base w F S F S { p with st:=x } fv s w'->K w'):stK ((⟨F.pg,0,none⟩:Addr).add 0) [.int .i64 x] w K :=
 h.st hH (i:=0) { p with st:=x } (by decide) rfl rfl rfl rfl ⟨h.par.ok.il,h.par.ok.pl,h.par.ok.dl,h.par.ok.la,h.par.ok.pv,h.par.ok.pr⟩ hK
theorem q3m (hH:HndOk H base fv) (h:PH H w base F p fv S s) (hok:∀r,p.opens c=some r->jf H s r.2) {K:Bool->Ub} (h1:∀r F' S' s' w',p.opens c=some r->PhT H base w F S F' S' r.1 fv s' w'->Z9 H s r.2 s'->K true w') (h0:p.opens c=none->K false w):y4 (some ⟨F.pg,0,none⟩) c w K:=by
 refine qdf _ _ ?_;simp only [onPtr_some];unfold PS.opens at hok h1 h0;refine jpO λJ1 hJ1=>?_;refine cO (λe=>?_) λe=>?_
 ·rw [if_pos (eq_of_beq e)] at hok h1 h0;exact VE hH h 2 λF' w' hT=>h1 _ F' S s w' rfl hT rfl
 rw [if_neg (beq_eq_false_iff_ne.1 e)] at hok h1 h0;refine cO (λe=>?_) λe=>?_
 ·rw [if_pos (eq_of_beq e)] at hok h1 h0;exact VE hH h 3 λF' w' hT=>h1 _ F' S s w' rfl hT rfl
 rw [if_neg (beq_eq_false_iff_ne.1 e)] at hok h1 h0;refine cO (λe=>?_) λe=>?_
 ·rw [if_pos (eq_of_beq e)] at hok h1 h0;have hd:=h.drew hH;generalize w.drew=w1 at hd ⊢;have hp:=hd.m.par;refine lSl (x:=F.qd) (hp.blk.cells 10 _ rfl) ?_;refine hp.qd.rd.slK (l:=0) (m:=0) rfl (.inl ⟨rfl,rfl⟩) (.inr rfl) (le_refl _) (zero_le _) λ_=>?_;obtain ⟨q1,e1,o1,b1⟩:=qtd hp.qd;rw [e1,qB];refine qz hp.blk (by show 0+0+1<=12;omega) λw8 hb8 hg8 hs8=>?_;rw [qB];refine qz hb8 (by show 0+10+1<=(putL _ _ _).length;rw [XS];show 11<=12;omega) λw9 hb9 hg9 hs9=>?_;have ok:=hp.ok;exact h1 _ { F with qd:=q1 } S s w9 rfl (hd.trans (hd.m.put (p':={ p with st:=4,data:=[] }) hH hb9 ((Go.Vc.Chg.gg hg8).trans (Go.Vc.Chg.gg hg9) λi _ hi=>hi) rfl rfl hp.qi hp.qp o1 (λ_ h=>h) (λ_ h=>h) b1 ⟨ok.il,ok.pl,zero_le _,ok.la,ok.pv,ok.pr⟩)) rfl
 rw [if_neg (beq_eq_false_iff_ne.1 e)] at hok h1 h0;refine cO (λe=>?_) λe=>?_
 ·rw [if_pos (eq_of_beq e)] at hok h1 h0;refine qvr hH h 6 λw1 hT1=>?_;exact qnk hH hT1.m 9 0 0 (by omega) (hok _ rfl).1 λS' s' w' hT hr=>h1 _ F S' s' w' rfl (hT1.trans hT) ⟨s',hr,rfl⟩
 rw [if_neg (beq_eq_false_iff_ne.1 e)] at hok h1 h0;have hx:(c=88\/c=94)->J1 () w:=λhx=>by
  rw [if_pos hx] at h1;exact hJ1 _ _ (qvr hH h 7 λw1 hT1=>h1 _ F S s w1 rfl hT1 rfl)
 refine cO (λe=>hx (.inl (eq_of_beq e))) λe=>cO (λe2=>hx (.inr (eq_of_beq e2))) λe2=>?_;rw [if_neg (λhh=>hh.elim (beq_eq_false_iff_ne.1 e) (beq_eq_false_iff_ne.1 e2))] at h0;exact h0 rfl
theorem qk8 (hH:HndOk H base fv) (h:PH H w base F p fv S s) (hc:0<=c/\c<128) (hok:jf H s (p.escape c).2) {K:Ub} (hK:∀F' S' s' w',PhT H base w F S F' S' (p.escape c).1 fv s' w'->Z9 H s (p.escape c).2 s'->K w'):xm (some ⟨F.pg,0,none⟩) c w K:=by
 refine Yg _ _ ?_;simp only [onPtr_some];unfold PS.escape at hok hK;refine ZR (cO (λe=>?_) λe=>?_)
 ·rw [if_pos e] at hok hK;exact qnk hH h 2 0 c (by omega) hok.1 λS' s' w' hT hr=>hK F S' s' w' hT ⟨s',hr,rfl⟩
 rw [if_neg (by rw [e];decide)] at hok hK;refine cF (dFq (by omega)) ?_;refine cO (λe=>?_) λe=>?_
 ·rw [if_pos (oTq e)] at hok hK;exact qp2 hH h hc λF' w' hT=>hK F' S s w' hT rfl
 rw [if_neg (oFq e)] at hok hK;refine cO (λe=>?_) λe=>?_
 ·rw [if_pos (eq_of_beq e)] at hok hK;exact hK F S s w (PhT.refl h) rfl
 rw [if_neg (beq_eq_false_iff_ne.1 e)] at hok hK;refine jpO λJ1 hJ1=>?_;have key:jf H s (p.escEnd c).2->(∀F' S' s' w',PhT H base w F S F' S' (p.escEnd c).1 fv s' w'->Z9 H s (p.escEnd c).2 s'->K w')->J1 (true,()) w:=by
  intro hok hK;refine hJ1 _ _ (cT rfl ?_);unfold PS.escEnd at hok hK;refine qvr hH h 0 λw1 hT1=>?_;have hp:=hT1.m.par;refine jY (x:=p.wrong) (hp.blk.cells 5 _ rfl) ?_;cases hw:p.wrong
  ·rw [hw,if_neg (by decide)] at hok;refine cT rfl ?_;have hd:=hT1.m.drew hH;generalize w1.drew=w2 at hd ⊢;have hp2:=hd.m.par;refine qjk (x:=fv) (hp2.blk.cells 11 _ rfl) (lSl (x:=F.qi) (hp2.blk.cells 4 _ rfl) ?_);refine Xy hp2.qi.rd ⟨hp2.blk.cells 11 _ rfl,?_⟩;refine qhc hH hd.m (v:=⟨3,0,c,0,p.inter,[],[]⟩) (q:=⟨none,0,0⟩) (d:=⟨none,0,0⟩) hok.1 (zf0 rfl rfl ⟨hc.1,by show c<=255;omega⟩ ⟨Int.le_refl 0,by show (0:Int)<=255;omega⟩ h.par.ok.il) λS' s' w' hT hr=>hK F S' s' w' ((hT1.trans hd).trans hT) (by rw [if_neg (by rw [hw];decide)];exact ⟨s',hr,rfl⟩)
  ·exact cF rfl (hK F S s w1 hT1 (by rw [if_pos hw];rfl))
 refine lSl (x:=F.qi) (h.par.blk.cells 4 _ rfl) ?_;have hn:F.qi.n=p.inter.length:=h.par.qi.rd.n;rw [hn];refine cO (λe=>?_) λe=>?_
 ·have e:=oTq e;have hne:p.inter≠[]:=λh2=>by rw [h2] at e;exact absurd e (by decide)
  rw [if_pos hne] at hok hK;exact key hok hK
 ·have e:=oFq e;have hnil:p.inter=[]:=List.eq_nil_of_length_eq_zero (by omega);rw [if_neg (λhh=>hh hnil)] at hok hK;refine q3m hH h (λr hr=>by rw [hr] at hok;exact hok) (λr F' S' s' w' hr hT hR=>?_) λhr=>?_
  ·rw [hr] at hK;exact hJ1 _ _ (cF rfl (hK F' S' s' w' hT hR))
  ·rw [hr] at hok hK;exact key hok hK
end
section
variable {σ:Type} {H:Hnd σ} {w w':World} {base:Nat} {F F':PF} {p p':PS} {fv:Value} {S S':Nat->Prop} {s s':σ} {c:Int}
theorem zdb (h:PsOk p):PsOk p.next:=by
 unfold PS.next;refine ⟨h.il,?_,h.dl,⟨Int.le_refl 0,by show (0:Int)<=65535;omega⟩,h.pv,?_⟩
 ·show (if p.params.length<16 then p.params++[p.last] else p.params).length<=16;split
  ·rw [List.length_append];simp;omega
  ·exact h.pl
 ·show ∀x∈(if p.params.length<16 then p.params++[p.last] else p.params),0<=x/\x<=65535;split
  ·intro x hx;rcases List.mem_append.1 hx with h1 | h1
   ·exact h.pr x h1
   ·rw [List.mem_singleton] at h1;rw [h1];exact h.la
  ·exact h.pr
theorem qp4 (hH:HndOk H base fv) (h:PH H w base F p fv S s) {K:Ub} (hK:∀F' w',PhT H base w F S F' S p.next fv s w'->K w'):kQ (some ⟨F.pg,0,none⟩) w K:=by
 refine qe8 _ ?_;simp only [onPtr_some];have hok:=zdb h.par.ok;have ok:=h.par.ok;unfold PS.next at hK hok;refine jpO λJ1 hJ1=>?_;have hp:=h.par;refine lSl (x:=F.qp) (hp.blk.cells 7 _ rfl) ?_;have hn:F.qp.n=p.params.length:=hp.qp.rd.n;rw [hn];refine cO (λe=>?_) λe=>?_
 ·have e:p.params.length<16:=by have:=oTq e;omega
  rw [if_pos e] at hK hok;have hd:=h.drew hH;generalize w.drew=w1 at hd ⊢;have hp:=hd.m.par;refine lSl (x:=F.qp) (hp.blk.cells 7 _ rfl) (lI (x:=p.last) (hp.blk.cells 9 _ rfl) ?_);refine nwb λw2 hb2 hB2 hs2=>?_;have h2:=hd.trans (hd.m.ext hH hB2);have hp2:=h2.m.par;refine ⟨hp2.blk.cells 7 _ rfl,?_⟩;refine jN qc5 hp2.qp (ZU (E:=zX) hb2 rfl) h2.m.base_le (by rw [qja];simp;omega) (by simp only [maxLen];simp;omega) λq w3 ho hg hq=>?_;have hc3:Chg (λk=>F.qp.blk=some k) w2 w3:=Chg.of_grown hg λk hk=>hk;have hni:=hp2.ne_pg;have hb3:=hp2.blk.chg hc3 λe=>hni _ (.inr (.inr (.inl e))) rfl;rw [qB];refine qz hb3 (by show 0+7+1<=12;omega) λw4 hb4 hg4 hs4=>?_;have z3:=hc3.size;have c4:Chg (λk=>F.qp.blk=some k\/k=F.pg) w2 w4:=(hc3.mono λk _ e=>.inl e).trans (Go.Vc.Chg.gg hg4) λk _ e=>.inr e;obtain ⟨r0,l0,h0,hch⟩:=hp2.ch;have nq:∀k,F.qp.blk=some k->k≠F.cg:=qA hp2.qp hch (by decide);have hq':∀k,q.blk=some k->F.qp.blk=some k\/w2.heap.size<=k:=λk hk=>by
   rcases hq with e | e
   ·exact .inl (e ▸ hk)
   ·rw [e] at hk;cases hk;exact .inr (le_refl _)
  have h4:PhT H base w F S { F with qp:=q } S { p with params:=p.params++[p.last] } fv s w4:=by
   refine h2.trans (h2.m.own hH ⟨hb4,⟨r0,l0,h0,hch.chg c4 (λhh=>hh.elim (λe=>nq _ e rfl) λe=>hni _ (.inl rfl) e)⟩,hp2.hg,hp2.qi.chg c4 ?_,ho.chg (Go.Vc.Chg.gg hg4) λk hk e=>?_,hp2.qd.chg c4 ?_,hp2.ne,⟨ok.il,hok.pl,ok.dl,ok.la,ok.pv,hok.pr⟩⟩ (c4.mono λk _ hk=>?_) (λk hk=>?_) rfl)
   ·rintro k hk (e | e)
    ·exact Xz hp2.qp hp2.qi (by decide) k e hk
    ·exact hni k (.inr (.inl hk)) e
   ·rcases hq' k hk with h1 | h1
    ·exact hni k (.inr (.inr (.inl h1))) e
    ·have:=hp2.blk.lt;omega
   ·rintro k hk (e | e)
    ·exact Xz hp2.qp hp2.qd (by decide) k e hk
    ·exact hni k (.inr (.inr (.inr hk))) e
   ·rcases hk with hk | hk
    ·exact .inr (.inr (.inr (.inl hk)))
    ·exact .inl hk
   ·rcases hk with hk | hk | hk | hk | hk
    ·exact .inl (.inl hk)
    ·exact .inl (.inr (.inl hk))
    ·exact .inl (.inr (.inr (.inl hk)))
    ·rcases hq' k hk with h1 | h1
     ·exact .inl (.inr (.inr (.inr (.inl h1))))
     ·exact .inr h1
    ·exact .inl (.inr (.inr (.inr (.inr hk))))
  refine hJ1 _ _ (h4.m.st hH (i:=9) { p with params:=p.params++[p.last],last:=0 } (by decide) rfl rfl rfl rfl hok λw5 h5=>hK _ w5 (h4.trans h5))
 ·have e:¬p.params.length<16:=λh2=>oFq e (by omega);rw [if_neg e] at hK hok;exact hJ1 _ _ (h.st hH (i:=9) { p with last:=0 } (by decide) rfl rfl rfl rfl hok λw5 h5=>hK F w5 h5)
theorem q42 (hH:HndOk H base fv) (h:PH H w base F p fv S s) (hc:0<=c/\c<128) (hok:jf H s (p.final c).2) {K:Ub} (hK:∀F' S' s' w',PhT H base w F S F' S' (p.final c).1 fv s' w'->Z9 H s (p.final c).2 s'->K w'):yp (some ⟨F.pg,0,none⟩) c w K:=by
 refine qde _ _ ?_;simp only [onPtr_some];unfold PS.final at hok hK;dsimp only at hok hK;refine jpO λJ1 hJ1=>?_;have key:∀k:Int,k=(if p.st=3 then 6 else 4)->J1 (k,()) w:=by
  rintro k hk;refine hJ1 _ _ ?_;refine jpO λJ2 hJ2=>?_;have key2:∀w1,PhT H base w F S F S { p with st:=if p.st≠3 then 0 else if p.wrong then 7 else 5 } fv s w1->J2 () w1:=by
   intro w1 h1;refine hJ2 _ _ ?_;refine jY (x:=p.wrong) (h1.m.par.blk.cells 5 _ rfl) ?_;cases hw:p.wrong
   ·have hwn:¬p.wrong=true:=by rw [hw];decide
    simp only [if_neg hwn] at hok hK h1;refine cF rfl ?_;refine jpO λJ3 hJ3=>?_;have key3:∀(p2:PS) F2 w2,PhT H base w F S F2 S p2 fv s w2->p2.priv=p.priv->p2.inter=p.inter->(if p.some_ then ({ p with st:=if p.st≠3 then 0 else 5 }:PS).next else { p with st:=if p.st≠3 then 0 else 5 })=p2->J3 () w2:=by
     intro p2 F2 w2 h2 e1 e2 e3;rw [e3] at hok hK;refine hJ3 _ _ ?_;have hpg:=h2.pg;rw [<-hpg];have hd:=h2.trans (h2.m.drew hH);generalize w2.drew=w3 at hd ⊢;have hp:=hd.m.par;refine qjk (x:=fv) (hp.blk.cells 11 _ rfl) (lI (x:=p2.priv) (hp.blk.cells 3 _ rfl) (lSl (x:=F2.qp) (hp.blk.cells 7 _ rfl) (lSl (x:=F2.qi) (hp.blk.cells 4 _ rfl) ?_)));have fin:∀(q:Slc) w4,Go.Vc.Own zX w4 w3.heap.size q p2.params->Uc w3 w4->(∀K':Ub,(∀S' s' w',PhT H base w F S F2 S' p2 fv s' w'->H.R s ⟨k,0,c,p2.priv,p2.inter,p2.params,[]⟩ s'->K' w')->jd C fv [agE ⟨k,0,c,p2.priv,p2.inter,p2.params,[]⟩ q ⟨none,0,0⟩] [] w4 K'):=by
      intro q w4 ho hB K' hK';have h4:=hd.trans (hd.m.ext hH hB);refine qhc hH h4.m (v:=⟨k,0,c,p2.priv,p2.inter,p2.params,[]⟩) (q:=q) (d:=⟨none,0,0⟩) ?_ ⟨ho.rd,(λa ha=>?_),Rd.nil _ _,(λa ha=>by cases ha),hp.ok.pr,hp.ok.pl,⟨hc.1,by show c<=255;omega⟩,hp.ok.pv,hp.ok.il,zero_le _⟩ λS' s' w' hT hr=>hK' S' s' w' (h4.trans hT) hr
      ·have:=hok.1;rw [hk,e1,e2];exact this
      ·have h5:=ho.lt a.block (slk.2 ⟨a,ha,rfl⟩);exact ⟨λhs=>by have:=(hH.lt hd.m.m _ hs).2;omega,h5.2⟩
     refine ⟨?_,?_⟩
     ·refine qqj hp.qp.rd (by have:=hp.ok.pl;omega) λq w4 ho hB=>?_;have hp4:=hp.ext hB;refine ⟨hp4.blk.cells 4 _ rfl,hp4.blk.cells 3 _ rfl,hp4.blk.cells 11 _ rfl,?_⟩;refine Xy hp4.qi.rd ⟨hp4.blk.cells 7 _ rfl,hp4.blk.cells 3 _ rfl,hp4.blk.cells 11 _ rfl,?_⟩;exact fin q w4 ho hB K λS' s' w' hT hr=>hK F2 S' s' w' hT ⟨s',by rw [hk,e1,e2] at hr;exact hr,rfl⟩
     ·refine Xy hp.qi.rd ⟨hp.blk.cells 7 _ rfl,hp.blk.cells 3 _ rfl,hp.blk.cells 11 _ rfl,?_⟩;refine qqj hp.qp.rd (by have:=hp.ok.pl;omega) λq w4 ho hB=>?_;have hp4:=hp.ext hB;refine ⟨hp4.blk.cells 4 _ rfl,hp4.blk.cells 3 _ rfl,hp4.blk.cells 11 _ rfl,?_⟩;exact fin q w4 ho hB K λS' s' w' hT hr=>hK F2 S' s' w' hT ⟨s',by rw [hk,e1,e2] at hr;exact hr,rfl⟩
    refine jY (x:=p.some_) (h1.m.par.blk.cells 8 _ rfl) ?_;cases hs:p.some_
    ·exact cF rfl (key3 _ F w1 h1 rfl rfl (if_neg (by rw [hs];decide)))
    ·exact cT rfl (qp4 hH h1.m λF2 w2 h2=>key3 _ F2 w2 (h1.trans h2) rfl rfl (if_pos hs))
   ·simp only [if_pos hw] at hok hK h1;exact cT rfl (hK F S s w1 h1 rfl)
  refine cO (λe=>?_) λe=>?_
  ·have e:k=4:=eq_of_beq e;have h3:p.st≠3:=λh3=>by rw [if_pos h3] at hk;omega
   refine qvr hH h 0 λw1 h1=>key2 w1 ?_;rw [if_pos h3];exact h1
  ·have e:¬k=4:=beq_eq_false_iff_ne.1 e;have h3:p.st=3:=by
    by_cases h3:p.st=3
    ·exact h3
    ·rw [if_neg h3] at hk;exact absurd hk e
   refine jY (x:=p.wrong) (h.par.blk.cells 5 _ rfl) ?_;cases hw:p.wrong
   ·refine cF rfl (qvr hH h 5 λw1 h1=>key2 w1 ?_);rw [if_neg (λhh=>hh h3),if_neg (by rw [hw];decide)];exact h1
   ·refine cT rfl (qvr hH h 7 λw1 h1=>key2 w1 ?_);rw [if_neg (λhh=>hh h3),if_pos hw];exact h1
 refine lI (x:=p.st) (h.par.blk.cells 0 _ rfl) ?_;refine cO (λe=>?_) λe=>?_
 ·exact key 6 (by rw [if_pos (eq_of_beq e)])
 ·exact key 4 (by rw [if_neg (beq_eq_false_iff_ne.1 e)])
end
section
variable {σ:Type} {H:Hnd σ} {w w':World} {base:Nat} {F F':PF} {p p':PS} {fv:Value} {S S':Nat->Prop} {s s':σ} {c:Int}
theorem qqp (hH:HndOk H base fv) (h:PH H w base F p fv S s) (hc:0<=c/\c<128) (hok:jf H s (p.head c).2) {K:Ub} (hK:∀F' S' s' w',PhT H base w F S F' S' (p.head c).1 fv s' w'->Z9 H s (p.head c).2 s'->K w'):xX (some ⟨F.pg,0,none⟩) c w K:=by
 refine qba _ _ ?_;simp only [onPtr_some];refine jY (x:=p.first) (h.par.blk.cells 6 _ rfl) ?_;refine jpO λJ1 hJ1=>?_;unfold PS.head at hok hK;dsimp only at hok hK;obtain ⟨fb,hfb⟩:∃fb,fb=(p.first && (qsi c || c==127)):=⟨_,rfl⟩;rw [<-hfb] at hok hK;have key:∀w1,PhT H base w F S F S { p with first:=fb } fv s w1->J1 () w1:=by
  intro w1 h1;refine hJ1 _ _ ?_;have ok:=h1.m.par.ok;refine ZR (cO (λe=>?_) λe=>?_)
  ·rw [if_pos e] at hok hK;refine lI (x:=p.st) (h1.m.par.blk.cells 0 _ rfl) (cO (λe=>?_) λe=>?_)
   ·have e:p.st=2:=eq_of_beq e;rw [if_pos e] at hok hK;exact qnk hH h1.m 2 0 c (by omega) hok.1 λS' s' w' hT hr=>hK F S' s' w' (h1.trans hT) ⟨s',hr,rfl⟩
   ·have e:¬p.st=2:=beq_eq_false_iff_ne.1 e;rw [if_neg e] at hok hK;exact hK F S s w1 h1 rfl
  rw [if_neg (by rw [e];decide)] at hok hK;refine cF (dFq (by omega)) ?_;refine cO (λe=>?_) λe=>?_
  ·rw [if_pos (oTq e)] at hok hK;exact qp2 hH h1.m hc λF' w' hT=>hK F' S s w' (h1.trans hT) rfl
  have e47:=oFq e;rw [if_neg e47] at hok hK;refine cO (λe=>?_) λe=>?_
  ·rw [if_pos (eq_of_beq e)] at hok hK;exact hK F S s w1 h1 rfl
  rw [if_neg (beq_eq_false_iff_ne.1 e)] at hok hK;have hn:F.qi.n=p.inter.length:=h1.m.par.qi.rd.n;have wrg:∀(X:Ub),(∀w2,PhT H base w F S F S { p with first:=fb,wrong:=p.wrong || decide (p.inter≠[]) } fv s w2->X w2) ->
    ldB ((⟨F.pg,0,none⟩:Addr).add 5) w1 λt61=>cond t61 (stK ((⟨F.pg,0,none⟩:Addr).add 5) [(.bool true)] w1 λw9=>X w9) (jg ((⟨F.pg,0,none⟩:Addr).add 4) w1 λt66=>stK ((⟨F.pg,0,none⟩:Addr).add 5) [(.bool (decide (((t66.n:Nat):Int)>(0:Int))))] w1 λw10=>X w10):=by
   intro X hX;refine jY (x:=p.wrong) (h1.m.par.blk.cells 5 _ rfl) ?_;have st:∀b:Bool,b=(p.wrong || decide (p.inter≠[]))->stK ((⟨F.pg,0,none⟩:Addr).add 5) [(.bool b)] w1 λw9=>X w9:=by
    rintro b hb;rw [<-hb] at hX;exact h1.m.st hH (i:=5) { p with first:=fb,wrong:=b } (by decide) rfl rfl rfl rfl ⟨ok.il,ok.pl,ok.dl,ok.la,ok.pv,ok.pr⟩ λw2 h2=>hX w2 (h1.trans h2)
   cases hw:p.wrong
   ·refine cF rfl (lSl (x:=F.qi) (h1.m.par.blk.cells 4 _ rfl) (st _ ?_));rw [hw,Bool.false_or,hn];by_cases hi:p.inter=[]
    ·rw [hi];rfl
    ·rw [dTq hi,dTq];have:=List.length_pos_iff.2 hi;omega
   ·exact cT rfl (st _ (by rw [hw,Bool.true_or]))
  refine cO (λe=>?_) λe=>?_
  ·have e57:=oTq e;rw [if_pos e57] at hok hK;refine jpO λJ2 hJ2=>?_;refine wrg (λw2=>J2 () w2) λw2 h2=>hJ2 _ _ ?_;have ok2:=h2.m.par.ok;refine h2.m.st hH (i:=8) { p with first:=fb,wrong:=p.wrong || decide (p.inter≠[]),some_:=true } (by decide) rfl rfl rfl rfl ⟨ok2.il,ok2.pl,ok2.dl,ok2.la,ok2.pv,ok2.pr⟩ λw3 h3=>?_;refine lI (x:=p.last) (h3.m.par.blk.cells 9 _ rfl) ?_;have hla:=ok.la;have w1':IntKind.u8.wrap (c-48)=c-48:=by
    obtain ⟨m,hm⟩:∃m:Nat,c-48=m:=⟨(c-48).toNat,by omega⟩;rw [hm];exact xh .u8 (by show _<2^8;omega)
   have hla:0<=p.last/\p.last<=65535:=hla;rw [w1',qP (x:=c-48) (by omega),qP (x:=10*p.last) (by omega),qP (x:=10*p.last+(c-48)) (by omega)];refine h3.m.st hH (i:=9) { p with first:=fb,wrong:=p.wrong || decide (p.inter≠[]),some_:=true,last:=if 65535<10*p.last+(c-48) then 65535 else 10*p.last+(c-48) } (by decide) rfl rfl rfl rfl ?_ λw4 h4=>hK F S s w4 (h2.trans (h3.trans h4)) rfl;refine ⟨ok2.il,ok2.pl,ok2.dl,?_,ok2.pv,ok2.pr⟩;show 0<=(if 65535<10*p.last+(c-48) then 65535 else 10*p.last+(c-48))/\(if 65535<10*p.last+(c-48) then 65535 else 10*p.last+(c-48))<=65535;split<;>omega
  have e57:=oFq e;rw [if_neg e57] at hok hK;refine cO (λe=>?_) λe=>?_
  ·have e59:c=59:=eq_of_beq e;rw [if_pos e59] at hok hK;refine jpO λJ3 hJ3=>?_;refine wrg (λw2=>J3 () w2) λw2 h2=>hJ3 _ _ ?_;have ok2:=h2.m.par.ok;refine h2.m.st hH (i:=8) { p with first:=fb,wrong:=p.wrong || decide (p.inter≠[]),some_:=true } (by decide) rfl rfl rfl rfl ⟨ok2.il,ok2.pl,ok2.dl,ok2.la,ok2.pv,ok2.pr⟩ λw3 h3=>?_;exact qp4 hH h3.m λF4 w4 h4=>hK F4 S s w4 (h2.trans (h3.trans h4)) rfl
  have e59:¬c=59:=beq_eq_false_iff_ne.1 e;rw [if_neg e59] at hok hK;refine jpO λJ4 hJ4=>?_;have end_:∀b:Bool,b=decide (60<=c/\c<=63/\p.first=true)->J4 (b,()) w1:=by
   intro b hb;refine hJ4 _ _ (cO (λe=>?_) λe=>?_)
   ·have e:b=true:=e;rw [e] at hb;have hb:=oTq hb.symm;rw [if_pos hb] at hok hK;exact h1.m.st hH (i:=3) { p with first:=fb,priv:=c } (by decide) rfl rfl rfl rfl ⟨ok.il,ok.pl,ok.dl,ok.la,⟨hc.1,by show c<=255;omega⟩,ok.pr⟩ λw2 h2=>hK F S s w2 (h1.trans h2) rfl
   ·have e:b=false:=e;rw [e] at hb;have hb:=oFq hb.symm;rw [if_neg hb] at hok hK;refine cO (λe=>?_) λe=>?_
    ·rw [if_pos (oTq e)] at hok hK;exact h1.m.st hH (i:=5) { p with first:=fb,wrong:=true } (by decide) rfl rfl rfl rfl ⟨ok.il,ok.pl,ok.dl,ok.la,ok.pv,ok.pr⟩ λw2 h2=>hK F S s w2 (h1.trans h2) rfl
    ·rw [if_neg (oFq e)] at hok hK;exact q42 hH h1.m hc hok λF' S' s' w' hT hr=>hK F' S' s' w' (h1.trans hT) hr
  refine cO (λe=>?_) λe=>?_
  ·have e:=oTq e;refine cO (λe2=>?_) λe2=>?_
   ·have e2:=oTq e2;refine end_ _ ?_;cases p.first
    ·rw [dFq];rintro ⟨_,_,h⟩;cases h
    ·rw [dTq];exact ⟨e,e2,rfl⟩
   ·have e2:=oFq e2;exact end_ _ (by rw [dFq];rintro ⟨_,h,_⟩;exact e2 h)
  ·have e:=oFq e;exact end_ _ (by rw [dFq];rintro ⟨h,_,_⟩;exact e h)
 have ok:=h.par.ok;have st:∀b:Bool,b=fb->stK ((⟨F.pg,0,none⟩:Addr).add 6) [(.bool b)] w λw9=>J1 () w9:=by
  rintro b rfl;exact h.st hH (i:=6) { p with first:=b } (by decide) rfl rfl rfl rfl ⟨ok.il,ok.pl,ok.dl,ok.la,ok.pv,ok.pr⟩ λw2 h2=>key w2 h2
 cases hf:p.first
 ·refine cF rfl (st _ ?_);rw [hfb,hf,Bool.false_and]
 ·refine cT rfl (ZR (cO (λe=>?_) λe=>?_))
  ·exact st _ (by rw [hfb,hf,e];rfl)
  ·exact st _ (by rw [hfb,hf,e];rfl)
theorem qpy (hH:HndOk H base fv) (h:PH H w base F p fv S s) (hok:H.ok s (Qz 5 p.data)) {K:Ub} (hK:∀S' s' w',PhT H base w F S F S' p fv s' w'->H.R s (Qz 5 p.data) s'->K w'):kP (some ⟨F.pg,0,none⟩) w K:=by
 refine qdr _ ?_;simp only [onPtr_some];have hd:=h.drew hH;generalize w.drew=w1 at hd ⊢;have hp:=hd.m.par;refine qjk (x:=fv) (hp.blk.cells 11 _ rfl) (lSl (x:=F.qd) (hp.blk.cells 10 _ rfl) ?_);refine qh2 hp.qd.rd (by have:=hp.ok.dl;omega) λq w2 ho hB=>?_;have h2:=hd.trans (hd.m.ext hH hB);refine ⟨h2.m.par.blk.cells 11 _ rfl,?_⟩;refine qhc hH h2.m (v:=Qz 5 p.data) (q:=⟨none,0,0⟩) (d:=q) hok ⟨Rd.nil _ _,(λa ha=>by cases ha),ho.rd,(λa ha=>?_),(λx hx=>by cases hx),zero_le _,⟨Int.le_refl 0,by show (0:Int)<=255;omega⟩,⟨Int.le_refl 0,by show (0:Int)<=255;omega⟩,zero_le _,by show p.data.length<=_;have:=hp.ok.dl;omega⟩ λS' s' w' hT hr=>hK S' s' w' (h2.trans hT) hr;have h5:=ho.lt a.block (slk.2 ⟨a,ha,rfl⟩);exact ⟨λhs=>by have:=(hH.lt hd.m.m _ hs).2;omega,h5.2⟩
theorem q8s (hH:HndOk H base fv) (h:PH H w base F p fv S s) {q:Slc} {bs:List UInt8} (hq:Rd qn w q bs) (hl:bs.length<=1000000) (hok:H.ok s (Qz (if p.st=6 then 10 else 7) bs)) {K:Ub} (hK:∀S' s' w',PhT H base w F S F S' p fv s' w'->H.R s (Qz (if p.st=6 then 10 else 7) bs) s'->K w'):jT (some ⟨F.pg,0,none⟩) q w K:=by
 refine qbh _ _ ?_;simp only [onPtr_some];refine jpO λJ1 hJ1=>?_;have key:∀k:Int,k=(if p.st=6 then 10 else 7)->J1 (k,()) w:=by
  rintro k hk;rw [<-hk] at hok hK;refine hJ1 _ _ ?_;have hd:=h.drew hH;have hq1:Rd qn w.drew q bs:=hq.drew;generalize w.drew=w1 at hd hq1 ⊢;have hp:=hd.m.par;refine qjk (x:=fv) (hp.blk.cells 11 _ rfl) ?_;refine qh2 hq1 (by omega) λq2 w2 ho hB=>?_;have h2:=hd.trans (hd.m.ext hH hB);refine ⟨h2.m.par.blk.cells 11 _ rfl,?_⟩;refine qhc hH h2.m (v:=Qz k bs) (q:=⟨none,0,0⟩) (d:=q2) hok ⟨Rd.nil _ _,(λa ha=>by cases ha),ho.rd,(λa ha=>?_),(λx hx=>by cases hx),zero_le _,⟨Int.le_refl 0,by show (0:Int)<=255;omega⟩,⟨Int.le_refl 0,by show (0:Int)<=255;omega⟩,zero_le _,hl⟩ λS' s' w' hT hr=>hK S' s' w' (h2.trans hT) hr;have h5:=ho.lt a.block (slk.2 ⟨a,ha,rfl⟩);exact ⟨λhs=>by have:=(hH.lt hd.m.m _ hs).2;omega,h5.2⟩
 refine lI (x:=p.st) (h.par.blk.cells 0 _ rfl) (cO (λe=>?_) λe=>?_)
 ·exact key 10 (by rw [if_pos (eq_of_beq e)])
 ·exact key 7 (by rw [if_neg (beq_eq_false_iff_ne.1 e)])
theorem q1c (hH:HndOk H base fv) (h:PH H w base F p fv S s) (hc:0<=c/\c<128) (hok:jf H s (p.text c).2) {K:Ub} (hK:∀F' S' s' w',PhT H base w F S F' S' (p.text c).1 fv s' w'->Z9 H s (p.text c).2 s'->K w'):yc (some ⟨F.pg,0,none⟩) c w K:=by
 refine qbp _ _ ?_;simp only [onPtr_some];unfold PS.text at hok hK;refine cO (λe=>?_) λe=>?_
 ·rw [if_pos (eq_of_beq e)] at hok hK;refine qpy hH h hok.1 λS1 s1 w1 h1 hr=>?_;exact qvr hH h1.m 0 λw2 h2=>hK F S1 s1 w2 (h1.trans h2) ⟨s1,hr,rfl⟩
 rw [if_neg (beq_eq_false_iff_ne.1 e)] at hok hK;refine jpO λJ1 hJ1=>?_;have hp:=h.par;have ok:=hp.ok;have key:∀b:Bool,b=decide (32<=c/\c≠127/\p.data.length<1024)->J1 (b,()) w:=by
  intro b hb;refine hJ1 _ _ (cO (λe=>?_) λe=>?_)
  ·have e:b=true:=e;rw [e] at hb;have hb:=oTq hb.symm;rw [if_pos hb] at hok hK;refine lSl (x:=F.qd) (hp.blk.cells 10 _ rfl) ?_;refine zfo (c:=UInt8.ofNat c.toNat) (zdy (by omega)) hp.qd h.base_le (by omega) λq w2 ho hc2 hq=>?_;have hni:=hp.ne_pg;have hb2:=hp.blk.chg hc2 λe=>hni _ (.inr (.inr (.inr e))) rfl;rw [qB];refine qz hb2 (by show 0+10+1<=12;omega) λw3 hb3 hg3 hs3=>?_;have z2:=hc2.size;have c3:Chg (λk=>F.qd.blk=some k\/k=F.pg) w w3:=(hc2.mono λk _ e=>.inl e).trans (Go.Vc.Chg.gg hg3) λk _ e=>.inr e;obtain ⟨r0,l0,h0,hch⟩:=hp.ch;have nq:∀k,F.qd.blk=some k->k≠F.cg:=qA hp.qd hch (by decide);have hq':∀k,q.blk=some k->F.qd.blk=some k\/w.heap.size<=k:=λk hk=>by
    rcases hq with e | ⟨j,e,hj⟩
    ·exact .inl (e ▸ hk)
    ·rw [e] at hk;cases hk;exact .inr hj
   refine hK { F with qd:=q } S s w3 (h.own hH ⟨hb3,⟨r0,l0,h0,hch.chg c3 (λhh=>hh.elim (λe=>nq _ e rfl) λe=>hni _ (.inl rfl) e)⟩,hp.hg,hp.qi.chg c3 ?_,hp.qp.chg c3 ?_,ho.chg (Go.Vc.Chg.gg hg3) λk hk e=>?_,λk hk hk'=>?_,?_⟩ (c3.mono λk _ hk=>?_) (λk hk=>?_) rfl) rfl
   ·rintro k hk (e | e)
    ·exact hp.ne k hk e
    ·exact hni k (.inr (.inl hk)) e
   ·rintro k hk (e | e)
    ·exact Xz hp.qd hp.qp (by decide) k e hk
    ·exact hni k (.inr (.inr (.inl hk))) e
   ·rcases hq' k hk with h1 | h1
    ·exact hni k (.inr (.inr (.inr h1))) e
    ·have:=hp.blk.lt;omega
   ·rcases hq' k hk' with h1 | h1
    ·exact hp.ne k hk h1
    ·have:=(hp.qi.lt k hk).2;omega
   ·exact ⟨ok.il,ok.pl,by show (p.data++_).length<=1024;rw [List.length_append];simp;omega,ok.la,ok.pv,ok.pr⟩
   ·rcases hk with hk | hk
    ·exact .inr (.inr (.inr (.inr hk)))
    ·exact .inl hk
   ·rcases hk with hk | hk | hk | hk | hk
    ·exact .inl (.inl hk)
    ·exact .inl (.inr (.inl hk))
    ·exact .inl (.inr (.inr (.inl hk)))
    ·exact .inl (.inr (.inr (.inr (.inl hk))))
    ·rcases hq' k hk with h1 | h1
     ·exact .inl (.inr (.inr (.inr (.inr h1))))
     ·exact .inr h1
  ·have e:b=false:=e;rw [e] at hb;have hb:=oFq hb.symm;rw [if_neg hb] at hok hK;exact hK F S s w (PhT.refl h) rfl
 have hn:F.qd.n=p.data.length:=hp.qd.rd.n;refine cO (λe=>?_) λe=>?_
 ·have e:=oTq e;refine cO (λe2=>?_) λe2=>?_
  ·have e2:c≠127:=by simpa using e2
   refine lSl (x:=F.qd) (hp.blk.cells 10 _ rfl) (key _ ?_);rw [hn];by_cases hd:p.data.length<1024
   ·rw [dTq (p:=32<=c/\c≠127/\p.data.length<1024) ⟨e,e2,hd⟩,dTq (p:=((p.data.length:Nat):Int)<1024) (by omega)]
   ·rw [dFq (p:=32<=c/\c≠127/\p.data.length<1024) (λhh=>hd hh.2.2),dFq (p:=((p.data.length:Nat):Int)<1024) (by omega)]
  ·have e2:c=127:=by simpa using e2
   exact key _ (by rw [dFq];rintro ⟨_,h,_⟩;exact h e2)
 ·have e:=oFq e;exact key _ (by rw [dFq];rintro ⟨h,_,_⟩;exact e h)
theorem qyn (hH:HndOk H base fv) (h:PH H w base F p fv S s) (hc:0<=c/\c<128) (hok:jf H s (p.plain c).2) {K:Ub} (hK:∀F' S' s' w',PhT H base w F S F' S' (p.plain c).1 fv s' w'->Z9 H s (p.plain c).2 s'->K w'):y8 (some ⟨F.pg,0,none⟩) c w K:=by
 refine qdk _ _ ?_;simp only [onPtr_some];unfold PS.plain at hok hK;refine lI (x:=p.st) (h.par.blk.cells 0 _ rfl) ?_;refine cO (λe=>?_) λe=>?_
 ·rw [if_pos (eq_of_beq e)] at hok hK;exact qk8 hH h hc hok hK
 rw [if_neg (beq_eq_false_iff_ne.1 e)] at hok hK;refine cO (λe=>?_) λe2=>?_
 ·rw [if_pos (.inl (eq_of_beq e))] at hok hK;exact qqp hH h hc hok hK
 refine cO (λe=>?_) λe3=>?_
 ·rw [if_pos (.inr (eq_of_beq e))] at hok hK;exact qqp hH h hc hok hK
 rw [if_neg (λhh=>hh.elim (beq_eq_false_iff_ne.1 e2) (beq_eq_false_iff_ne.1 e3))] at hok hK;refine cO (λe=>?_) λe=>?_
 ·rw [if_pos (eq_of_beq e)] at hok hK;exact q1c hH h hc hok hK
 rw [if_neg (beq_eq_false_iff_ne.1 e)] at hok hK;have nop:(p.st=5\/p.st=6\/p.st=7)->K w:=λhh=>by
  rw [if_pos hh] at hK;exact hK F S s w (PhT.refl h) rfl
 refine cO (λe=>nop (.inl (eq_of_beq e))) λe5=>?_;refine cO (λe=>nop (.inr (.inl (eq_of_beq e)))) λe6=>?_;refine cO (λe=>nop (.inr (.inr (eq_of_beq e)))) λe7=>?_;rw [if_neg (λhh=>hh.elim (beq_eq_false_iff_ne.1 e5) λhh=>hh.elim (beq_eq_false_iff_ne.1 e6) (beq_eq_false_iff_ne.1 e7))] at hok hK;exact qzu hH h hc hok λS' s' w' hT hr=>hK F S' s' w' hT hr
theorem q97 (hH:HndOk H base fv) (h:PH H w base F p fv S s) (b:Bool) {K:Ub} (hK:∀w',PhT H base w F S F S { p with ends:=b } fv s w'->K w'):stK ((⟨F.pg,0,none⟩:Addr).add 1) [.bool b] w K :=
 h.st hH (i:=1) { p with ends:=b } (by decide) rfl rfl rfl rfl ⟨h.par.ok.il,h.par.ok.pl,h.par.ok.dl,h.par.ok.la,h.par.ok.pv,h.par.ok.pr⟩ hK
theorem q3c (hH:HndOk H base fv) (h:PH H w base F p fv S s) (hc:0<=c/\c<128) (hok:jf H s (p.ended c).2) {K:Ub} (hK:∀F' S' s' w',PhT H base w F S F' S' (p.ended c).1 fv s' w'->Z9 H s (p.ended c).2 s'->K w'):yK (some ⟨F.pg,0,none⟩) c w K:=by
 refine qc0 _ _ ?_;simp only [onPtr_some];have hdef:p.ended c=(λp1:PS=>if c=92 then ({ p1 with st:=0 },(if p1.st=4 then [Qz 5 p1.data] else [])++p1.close 1) else if c=27 then (p1.begin_ 1,p1.close 0) else if c=24\/c=26 then ({ p1.begin_ 1 with st:=0 },p1.close 0++[evK 2 c]) else (((p1.begin_ 1).escape c).1,p1.close 0++((p1.begin_ 1).escape c).2)) { p with ends:=false }:=rfl;rw [hdef] at hok hK;refine q97 hH h false λw1 h1=>?_;obtain ⟨p1,hp1⟩:∃p1:PS,p1={ p with ends:=false }:=⟨_,rfl⟩;rw [<-hp1] at h1 hok hK;dsimp only at hok hK;have est:p.st=p1.st:=by rw [hp1]
 refine cO (λe=>?_) λe=>?_
 ·rw [if_pos (eq_of_beq e)] at hok hK;refine jpO λJ1 hJ1=>?_;have key:∀S2 s2 w2,PhT H base w F S F S2 p1 fv s2 w2->Z9 H s (if p1.st=4 then [Qz 5 p1.data] else []) s2->J1 () w2:=by
   intro S2 s2 w2 h2 hr2;refine hJ1 _ _ (qd5 hH h2.m (by omega) (jf.right hok hr2) λS3 s3 w3 h3 hr3=>?_);exact qvr hH h3.m 0 λw4 h4=>hK F S3 s3 w4 (h2.trans (h3.trans h4)) (Z9.append hr2 hr3)
  refine lI (x:=p1.st) (h1.m.par.blk.cells 0 _ rfl) (cO (λe=>?_) λe=>?_)
  ·have e:p1.st=4:=eq_of_beq e;have hok1:=jf.left hok;rw [if_pos e] at hok1;exact qpy hH h1.m hok1.1 λS2 s2 w2 h2 hr=>key S2 s2 w2 (h1.trans h2) (by rw [if_pos e];exact ⟨s2,hr,rfl⟩)
  ·have e:¬p1.st=4:=beq_eq_false_iff_ne.1 e;exact key S s w1 h1 (by rw [if_neg e];rfl)
 ·rw [if_neg (beq_eq_false_iff_ne.1 e)] at hok hK;have okc:jf H s (p1.close 0):=by
   revert hok;split
   ·exact id
   ·split
    ·exact jf.left
    ·exact jf.left
  refine qd5 hH h1.m (by omega) okc λS2 s2 w2 h2 hr2=>?_;refine VE hH h2.m 1 λF3 w3 h3=>?_;have h03:=h1.trans (h2.trans h3);have epg:=h3.pg;rw [<-epg];refine jpO λJ2 hJ2=>?_;have key:(c=24\/c=26)->c≠27->J2 () w3:=by
   intro hh h27;rw [if_neg h27,if_pos hh] at hok hK;refine hJ2 _ _ (qvr hH h03.m 0 λw4 h4=>?_);refine qnk hH h4.m 2 0 c (by omega) (jf.right hok hr2).1 λS5 s5 w5 h5 hr5=>hK F3 S5 s5 w5 (h03.trans (h4.trans h5)) (Z9.append hr2 ⟨s5,hr5,rfl⟩)
  refine cO (λe=>?_) λe27=>?_
  ·rw [if_pos (eq_of_beq e)] at hok hK;exact hK F3 S2 s2 w3 h03 hr2
  have e27:¬c=27:=beq_eq_false_iff_ne.1 e27;refine cO (λe=>key (.inl (eq_of_beq e)) e27) λe24=>cO (λe=>key (.inr (eq_of_beq e)) e27) λe26=>?_;have n2:¬(c=24\/c=26):=λhh=>hh.elim (beq_eq_false_iff_ne.1 e24) (beq_eq_false_iff_ne.1 e26);rw [if_neg e27,if_neg n2] at hok hK;exact qk8 hH h03.m hc (jf.right hok hr2) λF4 S4 s4 w4 h4 hr4=>hK F4 S4 s4 w4 (h03.trans h4) (Z9.append hr2 hr4)
theorem qzs (hH:HndOk H base fv) (h:PH H w base F p fv S s) (hc:0<=c/\c<128) (hok:jf H s (p.step c).2) {K:Ub} (hK:∀F' S' s' w',PhT H base w F S F' S' (p.step c).1 fv s' w'->Z9 H s (p.step c).2 s'->K w'):Qs (some ⟨F.pg,0,none⟩) c w K:=by
 refine qem _ _ ?_;simp only [onPtr_some];unfold PS.step at hok hK;refine jpO λJ1 hJ1=>?_;refine jY (x:=p.ends) (h.par.blk.cells 1 _ rfl) ?_;cases hen:p.ends
 ·rw [if_neg (by rw [hen];decide)] at hok hK;refine cF rfl ?_;refine jpO λJ3 hJ3=>?_;have key:∀b:Bool,b=decide (c≠24/\c≠26/\c≠27)->J3 (b,()) w:=by
   intro b hb;refine hJ3 _ _ (cO (λe=>?_) λe=>?_)
   ·have e:b=true:=e;rw [e] at hb;rw [if_pos (oTq hb.symm)] at hok hK;exact qyn hH h hc hok hK
   ·have e:b=false:=e;rw [e] at hb;rw [if_neg (oFq hb.symm)] at hok hK;refine hJ1 _ _ (jpO λJ2 hJ2=>?_);have key2:∀w1,PhT H base w F S F S p fv s w1->J2 () w1:=by
     intro w1 h1;refine hJ2 _ _ (cO (λe=>?_) λe=>?_)
     ·have e:c≠27:=by simpa using e
      rw [if_pos e] at hok hK;refine qd5 hH h1.m (by omega) (jf.left hok) λS2 s2 w2 h2 hr2=>?_;refine qvr hH h2.m 0 λw3 h3=>?_;exact qnk hH h3.m 2 0 c (by omega) (jf.right hok hr2).1 λS4 s4 w4 h4 hr4=>hK F S4 s4 w4 (h1.trans (h2.trans (h3.trans h4))) (Z9.append hr2 ⟨s4,hr4,rfl⟩)
     ·have e:¬c≠27:=by simpa using e
      rw [if_neg e] at hok hK;refine lI (x:=p.st) (h1.m.par.blk.cells 0 _ rfl) (cO (λe=>?_) λe=>?_)
      ·rw [if_pos (oTq e)] at hok hK;exact q97 hH h1.m true λw2 h2=>hK F S s w2 (h1.trans h2) rfl
      ·rw [if_neg (oFq e)] at hok hK;exact VE hH h1.m 1 λF2 w2 h2=>hK F2 S s w2 (h1.trans h2) rfl
    refine lI (x:=p.st) (h.par.blk.cells 0 _ rfl) (cO (λe=>?_) λe=>?_)
    ·exact h.ldCh (qlm hH h λw1 h1=>qle (key2 w1 h1))
    ·exact key2 w (PhT.refl h)
  refine cO (λe=>?_) λe=>?_
  ·have e:c≠24:=by simpa using e
   refine cO (λe2=>?_) λe2=>?_
   ·have e2:c≠26:=by simpa using e2
    refine key _ ?_;by_cases h27:c=27
    ·rw [h27];decide
    ·rw [dTq ⟨e,e2,h27⟩];simpa using h27
   ·have e2:c=26:=by simpa using e2
    exact key _ (by rw [e2];decide)
  ·have e:c=24:=by simpa using e
   exact key _ (by rw [e];decide)
 ·rw [if_pos hen] at hok hK;exact cT rfl (q3c hH h hc hok hK)
end
theorem zaw {α:Type} {f:α->Bool}:∀{l:List α},(∀x∈l,f x=true)->(l.takeWhile f).length=l.length
 | [],_=>rfl
 | a::l,h=>by
  rw [List.takeWhile_cons_of_pos (h a List.mem_cons_self),length_cons,length_cons,zaw λx hx=>h x (List.mem_cons_of_mem _ hx)]
theorem q9q {α:Type} {f:α->Bool}:∀{l:List α} {m:Nat} {x:α},(∀y∈l.take m,f y=true)->l[m]?=some x->f x=false->(l.takeWhile f).length=m
 | [],m,x,_,h,_=>by cases h
 | a::l,0,x,_,h,hf=>by
  have h:a=x:=Option.some.inj h;rw [List.takeWhile_cons_of_neg (by rw [h,hf];decide)];rfl
 | a::l,m+1,x,ha,h,hf=>by
  rw [List.takeWhile_cons_of_pos (ha a (by simp)),length_cons,q9q (l:=l) (m:=m) (λy hy=>ha y (by rw [List.take_succ_cons];exact List.mem_cons_of_mem _ hy)) h hf]
namespace PS
theorem runN_le (p:PS) (bs:List UInt8):p.runN bs<=bs.length:=by
 unfold runN;split
 ·exact zero_le _
 ·exact (List.takeWhile_sublist _).length_le
theorem qo4:∀(f:Nat) (p:PS) (bs:List UInt8),bs.length<=f->q8e (f+1) p bs=q8e f p bs
 | 0,p,bs,h=>by
  rw [List.eq_nil_of_length_eq_zero (by omega:bs.length=0)];rfl
 | f+1,p,[],h=>rfl
 | f+1,p,b::bs,h=>by
  have hl:bs.length<=f:=by simp at h;omega
  show (if 0<p.runN (b::bs) then _ else _)=(if 0<p.runN (b::bs) then _ else _);split
  ·rename_i hr;have hd:((b::bs).drop (p.runN (b::bs))).length<=f:=by rw [List.length_drop,length_cons];omega
   rw [qo4 f p _ hd]
  ·dsimp only;rw [qo4 f _ bs hl]
theorem q5b {f:Nat} {p:PS} {bs:List UInt8} (h:bs.length<=f):q8e f p bs=p.eachB bs:=by
 induction f with
 | zero=>rw [List.eq_nil_of_length_eq_zero (by omega:bs.length=0)];rfl
 | succ f ih =>
  by_cases hf:bs.length=f+1
  ·unfold eachB;rw [hf]
  ·rw [qo4 f p bs (by omega),ih (by omega)]
theorem eachB_run {p:PS} {b:UInt8} {bs:List UInt8} (h:0<p.runN (b::bs)):p.eachB (b::bs)=((p.eachB ((b::bs).drop (p.runN (b::bs)))).1,Qz (if p.st=6 then 10 else 7) ((b::bs).take (p.runN (b::bs)))::(p.eachB ((b::bs).drop (p.runN (b::bs)))).2):=by
 have hd:((b::bs).drop (p.runN (b::bs))).length<=bs.length:=by rw [List.length_drop,length_cons];omega
 rw [<-q5b hd];show (if 0<p.runN (b::bs) then _ else _)=_;rw [if_pos h]
theorem eachB_step {p:PS} {b:UInt8} {bs:List UInt8} (h:¬0<p.runN (b::bs)):p.eachB (b::bs)=(((p.step b.toNat).1.eachB bs).1,(p.step b.toNat).2++((p.step b.toNat).1.eachB bs).2):=by
 rw [<-q5b (le_refl bs.length)];show (if 0<p.runN (b::bs) then _ else _)=_;rw [if_neg h]
end PS
section
variable {σ:Type} {H:Hnd σ} {w w':World} {base:Nat} {F F':PF} {p p':PS} {fv:Value} {S S':Nat->Prop} {s s':σ} {c:Int}
theorem q40 {x:UInt8} {K:Bool->Ub} (hK:K (qdo x.toNat) w):KG (x.toNat:Int) w K:=by
 refine qb2 _ ?_;unfold qdo at hK;refine cO (λe=>?_) λe=>?_
 ·rw [e,Bool.true_or] at hK;exact hK
 rw [e,Bool.false_or] at hK;refine cO (λe=>?_) λe=>?_
 ·rw [e,Bool.true_or] at hK;exact hK
 rw [e,Bool.false_or] at hK;refine cO (λe=>?_) λe=>?_
 ·rw [e,Bool.true_or] at hK;exact hK
 rw [e,Bool.false_or] at hK;exact hK
theorem q3b (hH:HndOk H base fv) (h:PH H w base F p fv S s) {q:Slc} {bs:List UInt8} (hq:Rd qn w q bs) (hl:bs.length<=1000000) (hok:0<p.runN bs->H.ok s (Qz (if p.st=6 then 10 else 7) (bs.take (p.runN bs)))) {K:Int->Ub}
  (h0:p.runN bs=0->K 0 w) (h1:0<p.runN bs->∀S' s' w',PhT H base w F S F S' p fv s' w'->H.R s (Qz (if p.st=6 then 10 else 7) (bs.take (p.runN bs))) s'->K (p.runN bs:Nat) w'):Zp (some ⟨F.pg,0,none⟩) q w K:=by
 refine qf7 _ _ ?_;simp only [onPtr_some];refine jpO λJ1 hJ1=>?_;have off:(p.ends=true\/p.st≠5/\p.st≠6)->K 0 w:=λhh=>h0 (by unfold PS.runN;rw [if_pos hh]);have key:¬(p.ends=true\/p.st≠5/\p.st≠6)->J1 () w:=by
  intro hh;have en:p.runN bs=(bs.takeWhile λb=>!qdo b.toNat).length:=by unfold PS.runN;rw [if_neg hh]
  refine hJ1 _ _ ?_;have tail:∀n:Nat,n=p.runN bs->n<=bs.length->qV (σ:=Int×Unit) (λs_1 w3=>cond (decide (s_1.1>(0:Int))) (slK q none (some s_1.1) 1 λt35=>jT (some ⟨F.pg,0,none⟩) t35 w3 λw4=>K s_1.1 w4) (K s_1.1 w3)) λJ2=>J2 ((n:Int),()) w:=by
   intro n hn hnl;refine jpO λJ2 hJ2=>hJ2 _ _ ?_;by_cases hp:0<n
   ·refine cT (dTq (by show (n:Int)>0;omega)) ?_;refine hq.slK (l:=0) (m:=n) rfl (.inl ⟨rfl,rfl⟩) (.inr rfl) (zero_le _) hnl λhr=>?_;rw [List.drop_zero] at hr;subst hn;exact q8s hH h hr (by rw [List.length_take];omega) (hok hp) λS' s' w' hT hR=>h1 hp S' s' w' hT hR
   ·refine cF (dFq (by show ¬(n:Int)>0;omega)) ?_;have:n=0:=by omega
    subst this;exact h0 hn.symm
  refine Jv _ _ ?_;rw [hq.n];refine lpR (λ(st:Int×Unit) w1=>w1=w/\∃i:Nat,st.1=i/\i<=bs.length/\∀y∈bs.take i,(!qdo y.toNat)=true) (λst=>bs.length-st.1.toNat) ⟨rfl,0,rfl,by omega,λy hy=>by cases hy⟩ ?_;rintro ⟨i,u⟩ w1 ⟨rfl,m,hi,hm,hno⟩ I hI;dsimp only at hi ⊢;subst hi;by_cases hlt:m<bs.length
  ·refine cT (dTq (by omega)) ?_;obtain ⟨x,hx,hxs⟩:=Go.Vc.get_of (xs:=bs) (k:=m) hlt;refine hq.ix (i:=(m:Int)) (k:=1) rfl (by omega) (by omega) λhcell=>?_;rw [hxs] at hcell;refine zfx (b:=x) hcell (callR_plain (by kernel_rfl) ?_);refine Calls.mono (q40 (x:=x) (K:=λt16 w2=>cond t16 (qV (σ:=Int×Unit) (λs_1 w3=>cond (decide (s_1.1>(0:Int))) (slK q none (some s_1.1) 1 λt35=>jT (some ⟨F.pg,0,none⟩) t35 w3 λw4=>K s_1.1 w4) (K s_1.1 w3)) λJ2=>cond (decide ((m:Int)<(0:Int))) (J2 (((bs.length:Nat):Int),()) w2) (J2 ((m:Int),()) w2)) (I ((i64.wrap ((m:Int)+(1:Int))),()) w2)) ?_) ?_
   ·cases hxl:qdo x.toNat with
    | true =>
     refine cT rfl ?_;rw [dFq (by omega)];exact tail m (by rw [en];exact (q9q hno hx (by rw [hxl];rfl)).symm) hm
    | false =>
     refine cF rfl ?_;rw [qP (by omega)];refine hI _ _ ⟨rfl,m+1,rfl,by omega,?_⟩ (by simp;omega);intro y hy;rw [List.take_add_one,hx] at hy;rcases List.mem_append.1 hy with h2 | h2
     ·exact hno y h2
     ·have h2:y=x:=by simpa using h2
      rw [h2,hxl];rfl
   ·rintro e w' ⟨r,rfl,hk⟩;exact ⟨r,rfl,hk⟩
  ·refine cF (dFq (by omega)) ?_;obtain rfl:m=bs.length:=by omega
   rw [List.take_length] at hno;show qV _ (λJ2=>cond (decide ((-1:Int)<0)) _ _);rw [show decide ((-1:Int)<0)=true from rfl];exact tail bs.length (by rw [en];exact (zaw hno).symm) (le_refl _)
 refine jY (x:=p.ends) (h.par.blk.cells 1 _ rfl) (cO (λe=>off (.inl e)) λe=>?_);have e:p.ends=false:=e;refine lI (x:=p.st) (h.par.blk.cells 0 _ rfl) (cO (λe5=>?_) λe5=>?_)
 ·have e5:p.st≠5:=by simpa using e5
  refine lI (x:=p.st) (h.par.blk.cells 0 _ rfl) (cO (λe6=>?_) λe6=>?_)
  ·have e6:p.st≠6:=by simpa using e6
   exact off (.inr ⟨e5,e6⟩)
  ·have e6:p.st=6:=by simpa using e6
   exact key (λhh=>hh.elim (λh=>by rw [e] at h;cases h) λh=>h.2 e6)
 ·have e5:p.st=5:=by simpa using e5
  exact key (λhh=>hh.elim (λh=>by rw [e] at h;cases h) λh=>h.1 e5)
def zga:Value:=.func (.func Jt) #[] #[]
theorem zem {a:Addr} {v:Value} {w:World} {K:Ub} (h1:v.cells.toList=[v]) (h2:qx0 v=true) (h:stK a [v] w K):stR a v w K:=by
 unfold stR;have hs:v.cells.size=1:=by rw [<-Array.length_toList,h1];rfl
 rw [hs,h1];show qef true (qef (qx0 v && true) _);rw [h2];exact h
theorem ParsM.say (h:ParsM w base F p fv) (v:Value) {K:Ub} (hK:∀w',ParsM w' base F p v->Chg (λk=>k=F.pg) w w'->K w'):stK ((⟨F.pg,0,none⟩:Addr).add 11) [v] w K:=by
 rw [qB];refine qz h.blk (by show 0+11+1<=12;omega) λw1 hb hg hs=>hK w1 ?_ (Chg.gg hg);have hni:=h.ne_pg;have c1:Chg (λk=>k=F.pg) w w1:=Chg.gg hg;obtain ⟨r0,l0,h0,hch⟩:=h.ch;exact ⟨hb,⟨r0,l0,h0,hch.chg c1 (hni _ (.inl rfl))⟩,h.hg,h.qi.chg c1 λk hk=>hni k (.inr (.inl hk)),h.qp.chg c1 λk hk=>hni k (.inr (.inr (.inl hk))),h.qd.chg c1 λk hk=>hni k (.inr (.inr (.inr hk))),h.ne,h.ok⟩
theorem q1q {fv0:Value} (hH:HndOk H base fv) (f1:fv.cells.toList=[fv]) (f2:qx0 fv=true) (hp:ParsM w base F p fv0) (hm:H.M w S s) (dj:∀k,Qx F k->¬S k) {q:Slc} {bs:List UInt8} (hq:Rd qn w q bs) (hl:bs.length<=1000000) (hb:∀b∈bs,b.toNat<128)
  (hqn:∀a,q.a=some a->¬Qx F a.block/\¬S a.block/\a.block<w.heap.size) (hok:jf H s (p.eachB bs).2) {K:Ub}
  (hK:∀F' S' s' w',ParsM w' base F' (p.eachB bs).1 zga->H.M w' S' s'->(∀k,Qx F' k->¬S' k)->Z9 H s (p.eachB bs).2 s'->(∀k,(Qx F' k\/S' k)->(Qx F k\/S k)\/w.heap.size<=k)->Chg (λk=>Qx F k\/S k) w w'->F'.pg=F.pg->K w'):Qt (some ⟨F.pg,0,none⟩) q fv w K:=by
 refine qdz _ _ _ ?_;simp only [onPtr_some];refine zem f1 f2 (hp.say fv λw1 hp1 hc1=>?_);have hs1:=hc1.size;have cp1:Chg (Qx F) w w1:=hc1.mono λk _ e=>.inl e;have h1:PH H w1 base F p fv S s:=⟨hp1,hH.keep hm cp1 (λk hk hp=>dj k hp hk) hp.far (λk hk=>(hp.below k hk).1),dj⟩;have hq1:Rd qn w1 q bs:=hq.chg cp1 λa ha=>(hqn a ha).1;refine lpR (λ(st:Slc×Unit) w2=>∃(rest:List UInt8) (evs:List EvP) (p2:PS) (F2:PF) (S2:Nat->Prop) (s2:σ),Rd qn w2 st.1 rest/\rest.length<=bs.length/\(∀b∈rest,b.toNat<128)/\(∀a,st.1.a=some a->¬Qx F2 a.block/\¬S2 a.block/\a.block<w2.heap.size)/\PhT H base w1 F S F2 S2 p2 fv s2 w2/\Z9 H s evs s2/\p.eachB bs=((p2.eachB rest).1,evs++(p2.eachB rest).2))
  (λst=>st.1.n) ⟨bs,[],p,F,S,s,hq1,le_refl _,hb,(λa ha=>⟨(hqn a ha).1,(hqn a ha).2.1,by have:=(hqn a ha).2.2;omega⟩),PhT.refl h1,rfl,rfl⟩ ?_
 rintro ⟨q2,u⟩ w2 ⟨rest,evs,p2,F2,S2,s2,hr2,hrl,hrb,hqn2,hT2,hR2,heq⟩ I hI;dsimp only at hr2 hqn2 ⊢;have hn2:=hr2.n;have epg:=hT2.pg;cases rest with
 | nil =>
  refine cF (by rw [hn2];rfl) ?_;rw [<-epg];have hfin:p2.eachB []=(p2,[]):=rfl;rw [hfin,List.append_nil] at heq;refine hT2.m.par.say zga λw3 hp3 hc3=>?_;have cp3:Chg (Qx F2) w2 w3:=hc3.mono λk _ e=>.inl e;rw [heq] at hK;have z2:=hT2.chg.size;refine hK F2 S2 s2 w3 hp3 (hH.keep hT2.m.m cp3 (λk hk hp=>hT2.m.dj k hp hk) hT2.m.par.far (λk hk=>(hT2.m.par.below k hk).1)) hT2.m.dj hR2 (λk hk=>?_) ?_ hT2.pg
  ·rcases hT2.old k hk with h3 | h3
   ·exact .inl h3
   ·right;omega
  ·refine ((cp1.mono λk _ hk=>.inl hk).trans hT2.chg λi _ hi=>hi).trans cp3 λi hi hk=>?_;rcases hT2.old i (.inl hk) with h3 | h3
   ·exact h3
   ·have hlt:=(h1.par.below F.pg (.inl rfl)).2;exfalso;omega
 | cons b rest =>
  refine cT (by rw [hn2];simp<;>omega) ?_;rw [<-epg];rw [heq] at hok;have hok2:=jf.right hok hR2;refine q3b hH hT2.m hr2 (by omega) (λhpos=>?_) (λhz=>?_) λhpos S3 s3 w3 hT3 hR3=>?_
  ·rw [PS.eachB_run hpos] at hok2;exact hok2.1
  ·
   have hz:¬0<p2.runN (b::rest):=by omega
   refine cF rfl ?_;refine hr2.ix (i:=0) (k:=1) rfl (by decide) (by simp) λhc=>?_;have hc:qx w2 (q2.at_ qn.k 0) [.int .u8 (b.toNat:Int)]:=hc;refine zfx (b:=b) hc ?_;rw [PS.eachB_step hz] at heq hok2;refine qzs hH hT2.m ⟨by omega,by have:=hrb b List.mem_cons_self;omega⟩ (jf.left hok2) λF3 S3 s3 w3 hT3 hR3=>?_;have hr3:Rd qn w3 q2 (b::rest):=hr2.chg hT3.chg λa ha hh=>hh.elim (hqn2 a ha).1 (hqn2 a ha).2.1;refine hr3.slK (l:=1) (m:=(b::rest).length) rfl (.inr rfl) (.inl ⟨rfl,rfl⟩) (by simp) (le_refl _) λhr4=>?_;rw [List.take_length,List.drop_succ_cons,List.drop_zero] at hr4;have z3:=hT3.chg.size;refine hI _ _ ⟨rest,evs++(p2.step b.toNat).2,(p2.step b.toNat).1,F3,S3,s3,hr4,by simp at hrl;omega,(λy hy=>hrb y (List.mem_cons_of_mem _ hy)),(λa ha=>?_),hT2.trans hT3,Z9.append hR2 hR3,by rw [heq,List.append_assoc]⟩ ?_
   ·obtain ⟨a0,ha0,e⟩:=cut_block ha;obtain ⟨n1,n2,n3⟩:=hqn2 a0 ha0;rw [e];refine ⟨λhh=>?_,λhh=>?_,by omega⟩
    ·rcases hT3.old _ (.inl hh) with (h5 | h5) | h5
     ·exact n1 h5
     ·exact n2 h5
     ·omega
    ·rcases hT3.old _ (.inr hh) with (h5 | h5) | h5
     ·exact n1 h5
     ·exact n2 h5
     ·omega
   ·have:=hr4.n;show (b::rest).length-1<q2.n;rw [hn2];simp
  ·
   refine cT (dTq (by show ((p2.runN (b::rest):Nat):Int)>0;omega)) ?_;have hle:=PS.runN_le p2 (b::rest);have hr3:Rd qn w3 q2 (b::rest):=hr2.chg hT3.chg λa ha hh=>hh.elim (hqn2 a ha).1 (hqn2 a ha).2.1;refine hr3.slK (l:=p2.runN (b::rest)) (m:=(b::rest).length) rfl (.inr rfl) (.inl ⟨rfl,rfl⟩) hle (le_refl _) λhr4=>?_;rw [List.take_length] at hr4;have z3:=hT3.chg.size;refine hI _ _ ⟨(b::rest).drop (p2.runN (b::rest)),evs++[Qz (if p2.st=6 then 10 else 7) ((b::rest).take (p2.runN (b::rest)))],p2,F2,S3,s3,hr4,by rw [List.length_drop];omega,(λy hy=>hrb y (List.mem_of_mem_drop hy)),(λa ha=>?_),hT2.trans hT3,Z9.append hR2 ⟨s3,hR3,rfl⟩,by rw [heq,PS.eachB_run hpos,List.append_assoc];rfl⟩ ?_
   ·obtain ⟨a0,ha0,e⟩:=cut_block ha;obtain ⟨n1,n2,n3⟩:=hqn2 a0 ha0;rw [e];refine ⟨λhh=>?_,λhh=>?_,by omega⟩
    ·rcases hT3.old _ (.inl hh) with (h5 | h5) | h5
     ·exact n1 h5
     ·exact n2 h5
     ·omega
    ·rcases hT3.old _ (.inr hh) with (h5 | h5) | h5
     ·exact n1 h5
     ·exact n2 h5
     ·omega
   ·show (b::rest).length-p2.runN (b::rest)<q2.n;rw [hn2];omega
end
theorem q0k {n:Nat} (h:n<=1000) (a:vC):(Xv n a).length=n:=by
 rw [Xv,if_neg (by omega)];simp
section
variable {w:World} {base:Nat} {f:Foot} {S:GS}
theorem qee {n:Int} {a:vC} {K:Slc->Ub} (h:GridM w base f S) (hn:n<=100000)
  (hK:∀s ls w',Go.Vc.Own slE w' w.heap.size s ls->Lines w' w.heap.size ls (List.replicate n.toNat (Xv S.cols a))->Uc w w'->K s w'):xM (some ⟨f.g,0,none⟩) n a w K:=by
 refine qgh _ _ _ ?_;simp only [onPtr_some];refine nwb λw1 hb1 hB1 hs1=>?_;refine lpR (λ(s:Slc×Int×Unit) w2=>∃(k:Nat) (ls:List Slc),s.2.1=k/\(k:Int)<=max n 0/\Go.Vc.Own slE w2 w.heap.size s.1 ls/\Lines w2 w.heap.size ls (List.replicate k (Xv S.cols a))/\Blk w2 w.heap.size jv (qu.rep.cells a)/\Uc w w2/\(∀g,s.1.blk=some g->g≠w.heap.size))
  (λs=>(n-s.2.1).toNat) ⟨0,[],rfl,by omega,Go.Vc.Own.nil _ _ _,Lines.nil _ _,hb1,hB1,λg hg=>by cases hg⟩ ?_
 rintro ⟨s,i,_⟩ w2 ⟨k,ls,rfl,hk,ho,hl,hb,hB,hne⟩ I hI;dsimp only at *;refine cO (λhh=>?_) (λhh=>?_)
 ·have hh:=oTq hh;have hg2:=(h.ext hB).drew;refine lI (x:=(S.cols:Int)) (hg2.blk.cells 2 _ rfl) ?_;refine qw (x:=a) hb.drew.cells ?_;refine q4z λt w3 ho3 hB3=>?_;refine nwb λw4 hb4 hB4 hs4=>?_;have hB24:Uc w2 w4:=((Below.refl _ w2).drew.trans hB3).trans (hB4.mono hB3.size);have hB04:Uc w w4:=hB.trans (hB24.mono hB.size);have hr4:Rd slE w4 ⟨some ⟨w3.heap.size,0,none⟩,1,1⟩ [t]:=ZU (E:=slE) hb4 rfl;have hll:=hl.1;rw [List.length_replicate] at hll;have hbl:=hb.lt;have hs23:w2.heap.size<=w3.heap.size:=hB3.size;have ho4:=ho.ext hB24;refine jN qip ho4 hr4 hB04.size (by rw [q0x];simp;omega) (by simp [maxLen];omega) λq w5 ho5 hg5 hq5=>?_;rw [qP (by omega)];have notC:∀k cs,s.blk=some k->¬Blk w4 k qT cs:=λk cs hk hc=>by
   obtain ⟨cs',hcs'⟩:=ho4.blk_t hk;exact hc.ne_t hcs' (by decide) rfl
  have hc5:Chg (λk=>s.blk=some k) w4 w5:=Chg.of_grown hg5 λk hk=>hk;have ht4:Go.Vc.Own zl w4 w.heap.size t (Xv S.cols a):=(ho3.base (by have:=hB.size;show w.heap.size<=w2.heap.size;omega)).ext hB4;refine hI _ _ ⟨k+1,ls++[t],by simp,by omega,ho5,?_,?_,hB04.grown hg5 hB04.size λg hg=>(ho.lt g hg).1,?_⟩ (by simp;omega)
  ·rw [List.replicate_succ'];refine Lines.append ((hl.ext hB24).chg hc5 notC) (Lines.one (ht4.chg hc5 λg hg hs=>?_));obtain ⟨cs,hcs⟩:=ht4.blk_t hg;exact notC g cs hs hcs
  ·exact (hb.ext hB24).grown hg5 λe=>hne _ e.symm rfl
  ·intro g hg;rcases hq5 with e | e
   ·rw [e] at hg;exact hne g hg
   ·rw [e] at hg;cases hg;have:=hB24.size;omega
 ·have hh:=oFq hh;have:n.toNat=k:=by omega
  rw [<-this] at hl;exact hK _ _ _ ho hl hB
theorem GridM.newRow {w1 w2:World} {s:Slc} {ls:List Slc} {L:List (List qO)} {top:Int} {B:Nat} (h:GridM w1 base f S) (hrow:Go.Vc.Own slE w1 base s ls) (hl:Lines w1 base ls L) (hne:∀k,s.blk=some k->k≠f.g/\k≠f.r/\f.rs.blk≠some k)
  (hb:Blk w2 f.g vz [.pointer (some ⟨f.r,0,none⟩),.int .i64 S.rows,.int .i64 S.cols,.slice s.a s.n s.c,.int .i64 top]) (hg:w1.grownBy w2 (some f.g)) (_:B<=w1.heap.size):GridM w2 base { f with ls:=s } { S with L:=L,top:=top }:=by
 have hc:Chg (λk=>k=f.g) w1 w2:=Chg.of_grown hg λk hk=>by cases hk;rfl
 have notC:∀k cs,k=f.g->¬Blk w1 k qT cs:=λk cs hk hcs=>h.notC k cs (.inl hk) hcs;obtain ⟨g1,g2,g3⟩:=h.g_ne;refine ⟨hb,h.hg,⟨ls,hrow.chg hc λg hg=>(hne g hg).1,hl.chg hc notC⟩,h.ring.chg hc (λk hk=>?_) notC,λk hk=>(hne k hk).2.2⟩;rcases hk with rfl | hk
 ·exact λe=>g1 e.symm
 ·exact (g3 k hk).1
theorem q13 {a:vC} {K:Ub} (h:GridM w base f S) (hrows:S.rows<=100000) (hbase:base<=w.heap.size)
  (hK:∀f' w',GridM w' base f' { S with L:=List.replicate S.rows (Xv S.cols a) }->f.to f' w.heap.size->Chg (xi f) w w'->K w'):ZH (some ⟨f.g,0,none⟩) a w K:=by
 refine qhd _ _ ?_;simp only [onPtr_some];refine nwb λw1 hb1 hB1 hs1=>?_;have h1:=(h.ext hB1).drew;refine lI (x:=(S.rows:Int)) (h1.blk.cells 1 _ rfl) ?_;refine qw (x:=a) hb1.drew.cells ?_;refine qee h1 (by omega) λs ls w2 ho hl hB2=>?_;have hB02:Uc w w2:=hB1.drew.trans (hB2.mono hB1.size);have h2:=h.ext hB02;have hfresh:∀k,s.blk=some k->w.heap.size<=k:=λk hk=>by have:=(ho.lt k hk).1;have:=hB1.size;have e:w1.drew.heap.size=w1.heap.size:=rfl;omega
 rw [qB];refine qz h2.blk (by simp) λw3 hb3 hg3 hs3=>?_;have hsz:w.heap.size<=w1.drew.heap.size:=hB1.size;have h3:=h2.newRow (B:=0) (top:=S.top) (ho.base (by omega)) (L:=List.replicate S.rows (Xv S.cols a)) ⟨hl.1,λi t xs e1 e2=>(hl.2 i t xs e1 e2).base (by omega)⟩ (λk hk=>?_) hb3 hg3 (zero_le _)
 ·refine hK _ w3 h3 ⟨rfl,rfl,.inr hfresh,.inl rfl⟩ ?_;exact (Chg.of_ext (S:=xi f) hB02).trans (S':=λk=>k=f.g) (Chg.of_grown hg3 λk hk=>by cases hk;rfl) λi _ hi=>.inl hi
 ·have hk':=hfresh k hk;refine ⟨λe=>?_,λe=>?_,λe=>?_⟩
  ·have:=(h.below k (.inl e)).2;omega
  ·have:=(h.below k (.inr (.inl e))).2;omega
  ·have:=(h.below k (.inr (.inr (.inr e)))).2;omega
end
def gs0 (rows cols most:Nat):GS:=⟨rows,cols,most,List.replicate rows (Xv cols ⟨0,0,0⟩),[],0⟩
def qai (rows cols back:Int):Prop:=¬(1<=rows/\rows<=1000)\/¬(1<=cols/\cols<=1000)\/back<0\/back>16384
theorem qv3 {rows cols back:Int} {w:World} {K:Option Addr->Int->Ub} (hK1:qai rows cols back->K none 1 w)
  (hK2:¬qai rows cols back->∀f w',GridM w' w.heap.size f (gs0 rows.toNat cols.toNat back.toNat)->Uc w w'->K (some ⟨f.g,0,none⟩) 0 w'):qed rows cols back w K:=by
 refine qvb _ _ _ ?_;have size:∀{n:Int} {K:Bool->Ub},K (decide (1<=n/\n<=1000)) w->qap n w K:=by
  intro n K hk;refine qtm _ ?_;refine cO (λh=>?_) (λh=>?_)
  ·have h:1<=n:=oTq h;have:decide (n<=1000)=decide (1<=n/\n<=1000):=by simp [h]
   rw [this];exact hk
  ·have h:=oFq h;have:decide (1<=n/\n<=1000)=false:=by simp;omega
   rw [this] at hk;exact hk
 refine jpO λJ hJ=>?_;refine size ?_;by_cases h1:1<=rows/\rows<=1000
 ·rw [dTq h1];refine cF rfl (size ?_);by_cases h2:1<=cols/\cols<=1000
  ·rw [dTq h2];refine cF rfl ?_;refine cO (λh3=>hK1 (.inr (.inr (.inl (oTq h3))))) (λh3=>?_);refine cO (λh4=>hK1 (.inr (.inr (.inr (oTq h4))))) (λh4=>?_);have h3:=oFq h3;have h4:=oFq h4;have hgood:¬qai rows cols back:=by unfold qai;omega
   refine hJ _ _ ?_;refine qxq (base:=w.heap.size) (by omega) (by omega) (le_refl _) λw1 hr1 hB1 hs1=>?_;refine nwb λw2 hb2 hB2 hs2=>?_;have hB02:Uc w w2:=hB1.trans (hB2.mono (by omega));have hg2:GridM w2 w.heap.size ⟨w1.heap.size,w.heap.size,⟨none,0,0⟩,⟨none,0,0⟩⟩ ⟨rows.toNat,cols.toNat,back.toNat,[],[],0⟩:=by
    refine ⟨?_,by show w.heap.size<=w1.heap.size;omega,⟨[],Go.Vc.Own.nil _ _ _,Lines.nil _ _⟩,hr1.ext hB2,λk hk=>by cases hk⟩;show Blk w2 w1.heap.size vz [_,.int .i64 ((rows.toNat:Nat):Int),.int .i64 ((cols.toNat:Nat):Int),_,_];rw [show ((rows.toNat:Nat):Int)=rows by omega,show ((cols.toNat:Nat):Int)=cols by omega];exact hb2
   refine q13 (f:=⟨w1.heap.size,w.heap.size,⟨none,0,0⟩,⟨none,0,0⟩⟩) hg2 (by show rows.toNat<=100000;omega) hB02.size λf' w3 hg3 hf hc=>?_;have hg':f'.g=w1.heap.size:=hf.g;have key:=hK2 hgood f' w3 hg3 (hB02.trans (hc.below hB02.size λi hi hs=>by have:=(hg2.below i hs).1;omega));rw [hg'] at key;exact key
  ·rw [dFq h2];exact cT rfl (hK1 (.inr (.inl h2)))
 ·rw [dFq h1];exact cT rfl (hK1 (.inl h1))
end Go.Proofs.YtokfefnmpjohpaaGreatDoor
namespace Go.Vc
open Go.RowKit

end Go.Vc
namespace Go.Proofs.YtokfefnmpjohpaaGreatDoor
open Go.Vc Go.RowKit
open IntKind (i64)
open _root_.List (drop_zero)
open _root_.Nat (le_refl zero_le)
def Qb (rows:Nat) (top past n:Int):Prop:=n=0\/top<0\/past<=top\/past>rows
instance (rows:Nat) (top past n:Int):Decidable (Qb rows top past n):=by unfold Qb;infer_instance
def XE (top past n:Int):Nat:=(min (if n<0 then -n else n) (past-top)).toNat
def qe5 (cols:Nat) (L:List (List qO)) (top past n:Int) (a:vC):List (List qO) :=
 let m:=XE top past n
 let b:=List.replicate m (Xv cols a)
 if n>0 then L.take top.toNat++(L.take past.toNat).drop (top.toNat+m)++b++L.drop past.toNat
 else L.take top.toNat++b++(L.take (past.toNat-m)).drop top.toNat++L.drop past.toNat
def XN (most:Nat) (old:List (List qO)) (xs:List (List qO)):List (List qO):=xs.foldl (qfq most) old
def ku (S:GS) (top past n:Int) (a:vC):GS :=
 if Qb S.rows top past n then S
 else if n>0/\top=0 then { S with L:=qe5 S.cols S.L top past n a,old:=XN S.most S.old (S.L.take (XE top past n)),top:=i64.wrap (S.top+XE top past n) }
 else { S with L:=qe5 S.cols S.L top past n a }
def qyt (rows:Nat) (top past n:Int):Int:=if Qb rows top past n\/n<0\/top≠0 then 0 else XE top past n
theorem qyo (most:Nat) (old:List (List qO)) (L:List (List qO)) (k:Nat) (x:List qO) (h:L[k]?=some x):XN most old (L.take (k+1))=qfq most (XN most old (L.take k)) x:=by
 rw [XN,List.take_add_one,h,List.foldl_append];rfl
theorem qs4 {α:Type} (l:List α) (a m:Nat):((l.drop a).take m)=(l.take (a+m)).drop a:=by
 rw [List.drop_take];congr 1;omega
theorem zfi {w:World} {base m:Nat} {f:Foot} {S:GS} {p:Slc} {ls:List Slc} {xss:List (List qO)} {Fin:Int×Unit->Ub} (h:GridM w base f S) (hp:Rd slE w p ls) (hpn:ls.length=m) (hl:Lines w base ls xss) (hpf:∀a,p.a=some a->¬xi f a.block)
  (hmost:S.most<=100000) (hbase:base<=w.heap.size) (hm:m<=100000)
  (hfin:∀i f' w',GridM w' base f' { S with old:=XN S.most S.old xss }->f.to f' w.heap.size->f'.ls=f.ls->Chg (xi f) w w'->Fin (i,()) w') :
  zj (σ:=Int×Unit) (λI3 s_2 w12=>
   cond (decide (s_2.1<((p.n:Nat):Int)))
    (
     ixK p s_2.1 1 λt127=>
     jg t127 w12 λt128=>
     ldP ((⟨f.g,0,none⟩:Addr).add 0) w12 λt132=>
     jF t132 t128 w12 λ_ _ w13=>
     I3 ((i64.wrap (s_2.1+(1:Int))),()) w13)
    (Fin s_2 w12)) (0,()) w:=by
 have hpn':p.n=m:=by rw [hp.n,hpn]
 have hxl:xss.length=m:=by rw [<-hl.1,hpn]
 refine lpR (λ(s:Int×Unit) w2=>∃(k:Nat) (f':Foot),s.1=k/\k<=m/\GridM w2 base f' { S with old:=XN S.most S.old (xss.take k) }/\f.to f' w.heap.size/\f'.ls=f.ls/\Chg (xi f) w w2) (λs=>m-s.1.toNat) ⟨0,f,rfl,by omega,by simpa [XN] using h,Foot.to.refl _ _,rfl,Chg.refl _ _⟩ ?_;rintro ⟨i,_⟩ w2 ⟨k,f',rfl,hk,h2,hf,hfl,hc⟩ I hI;dsimp only at *;rw [hpn'];refine cO (λhlt=>?_) (λhge=>?_)
 ·have hlt:=oTq hlt;have hp2:Rd slE w2 p ls:=hp.chg hc hpf;have hl2:Lines w2 base ls xss:=hl.chg hc h.notC;refine hp2.ix rfl (by omega) (by omega) λhcell=>?_;have hlk:ls[k]?=some (ls[k]'(by omega)):=List.getElem?_eq_getElem _;have hxk:xss[k]?=some (xss[k]'(by omega)):=List.getElem?_eq_getElem _;refine lSl (x:=ls[k]'(by omega)) (by simpa using hcell 0 _ rfl) ?_;have hb2:=h2.blk;rw [hf.g,hf.r] at hb2;refine qM (x:=some ⟨f.r,0,none⟩) (hb2.cells 0 _ rfl) ?_;have hr2:=h2.ring;rw [hf.r] at hr2;have hsz:=hc.size;refine q6v hr2 (hl2.2 k _ _ hlk hxk) hmost (by omega) λu b s' w3 hr3 hc3 hs'=>?_;rw [qP (by omega)];have sub:∀i,qf0 f.r f'.rs i->xi f i\/w.heap.size<=i:=λi hi=>by
   refine hf.old i ?_;rcases hi with e | e
   ·exact .inr (.inl (by rw [e,hf.r]))
   ·exact .inr (.inr (.inr e))
  have hc':Chg (xi f) w w3:=hc.trans hc3 λi hi hs=>by
   rcases sub i hs with e | e
   ·exact e
   ·omega
  have notr:∀k cs,qf0 f.r f'.rs k->¬Blk w2 k qT cs:=hr2.notC;obtain ⟨ls',ho',hl'⟩:=h2.row;obtain ⟨g1,g2,g3⟩:=h2.g_ne;refine hI _ _ ⟨k+1,{ f' with rs:=s' },by simp,by omega,⟨?_,h2.hg,⟨ls',ho'.chg hc3 λg hg hs=>?_,hl'.chg hc3 notr⟩,?_,?_⟩,?_,hfl,hc'⟩ (by simp;omega)
  ·refine h2.blk.chg hc3 λe=>?_;rcases e with e | e
   ·exact g1 (by rw [e,hf.r])
   ·exact (g3 _ e).1 rfl
  ·rcases hs with e | e
   ·exact (g2 g hg).2 (by rw [e,hf.r])
   ·exact h2.ne g hg e
  ·show Je w3 base f'.r s' S.most (XN S.most S.old (xss.take (k+1)));rw [qyo _ _ _ _ _ hxk,hf.r];exact hr3
  ·intro k' hk' e;rcases hs' with e' | ⟨q,e',hq⟩
   ·rw [e'] at e;exact h2.ne k' hk' e
   ·rw [e'] at e;cases e;have:=(h2.below k' (.inr (.inr (.inl hk')))).2;omega
  ·refine ⟨hf.g,hf.r,hf.ls,?_⟩;rcases hs' with e' | ⟨q,e',hq⟩
   ·rcases hf.rs with e | e
    ·exact .inl (e'.trans e)
    ·exact .inr λk' hk'=>e k' (by rw [<-e'];exact hk')
   ·exact .inr λk' hk'=>by rw [e'] at hk';cases hk';omega
 ·have hge:=oFq hge;have:k=m:=by omega
  subst this;rw [List.take_of_length_le (by omega)] at h2;exact hfin _ f' w2 h2 hf hfl hc
theorem cut_block {x:Option Addr} {l m k:Nat} {a:Addr} (h:cut x l m k=some a):∃b,x=some b/\a.block=b.block:=by
 unfold cut at h;split at h
 ·exact ⟨a,h,rfl⟩
 ·obtain ⟨b,hb,rfl⟩:=Option.map_eq_some_iff.1 h;exact ⟨b,hb,by simp⟩
theorem qx3 {w:World} {base:Nat} {f:Foot} {S:GS} {top past n:Int} {a:vC} {K:Int->Ub} (h:GridM w base f S) (hL:S.L.length=S.rows) (hrows:S.rows<=1000) (hmost:S.most<=100000) (hbase:base<=w.heap.size) (hn:-9223372036854775808<=n/\n<=9223372036854775807)
  (hK:∀f' w',GridM w' base f' (ku S top past n a)->f.to f' w.heap.size->Chg (xi f) w w'->K (qyt S.rows top past n) w'):jX (some ⟨f.g,0,none⟩) top past n a w K:=by
 refine qgc _ _ _ _ _ ?_;simp only [onPtr_some];refine nwb λw1 hb1 hB1 hs1=>?_;have h1:=h.ext hB1;refine jpO λJ1 hJ1=>?_;have bad:Qb S.rows top past n->K 0 w1:=λhb=>by
  have:=hK f w1 (by rw [ku,if_pos hb];exact h1) (Foot.to.refl _ _) (Chg.of_ext hB1)
  rwa [qyt,if_pos (.inl hb)] at this
 refine cO (λe=>bad (.inl (eq_of_beq e))) (λe0=>?_);refine cO (λe=>bad (.inr (.inl (oTq e)))) (λe1=>?_);refine cO (λe=>bad (.inr (.inr (.inl (oTq e))))) (λe2=>?_);refine lI (x:=(S.rows:Int)) (h1.blk.cells 1 _ rfl) ?_;refine cO (λe=>bad (.inr (.inr (.inr (oTq e))))) (λe3=>?_);have e0:n≠0:=beq_eq_false_iff_ne.1 e0;have e1:=oFq e1;have e2:=oFq e2;have e3:=oFq e3;have good:¬Qb S.rows top past n:=by unfold Qb;omega
 refine hJ1 _ _ ?_;rw [qP (x:=past-top) (by omega),qP (x:=0-(past-top)) (by omega)];refine jpO λJ2 hJ2=>?_;have hm:(XE top past n:Int)=min (if n<0 then -n else n) (past-top):=by unfold XE;split<;>omega
 unfold ku qe5 at hK;unfold qyt at hK;rw [if_neg good] at hK;generalize XE top past n=m at *;have hm0:1<=m:=by split at hm<;>omega
 have hm1:(m:Int)<=past-top:=by split at hm<;>omega
 obtain ⟨tp,rfl⟩:∃tp:Nat,top=tp:=⟨top.toNat,by omega⟩;obtain ⟨ps,rfl⟩:∃ps:Nat,past=ps:=⟨past.toNat,by omega⟩;have main:∀c:Int,(if i64.wrap (0-c)>c then i64.wrap (0-c) else c)=(m:Int)->J2 (c,()) w1:=λc hc=>hJ2 _ _ (by
  dsimp only;rw [hc];obtain ⟨ls,ho,hl⟩:=h1.row;have hll:=hl.1;refine lSl (x:=f.ls) (h1.blk.cells 3 _ rfl) ?_;refine ho.rd.slK3 (l:=tp) (m:=ps) rfl (.inr rfl) rfl rfl (by omega) (by omega) λhpart=>?_;have h1d:=h1.drew;have hod:Go.Vc.Own slE w1.drew base f.ls ls:=ho;have hbd:=hb1.drew;refine cO (λhneg=>?_) (λhpos=>?_)
  ·have hneg:n<0:=by
    have:¬n>0:=by simpa using hneg
    omega
   refine lSl (x:=f.ls) (h1d.blk.cells 3 _ rfl) ?_;refine hod.rd.slK3 (l:=0) (m:=tp) rfl (.inl ⟨rfl,rfl⟩) rfl rfl (by omega) (by omega) λhfront=>?_;refine qw (x:=a) hbd.cells ?_;rw [qP (x:=(ps:Int)-tp-m) (by omega)];refine hpart.drew.slK (l:=0) (m:=ps-tp-m) rfl (.inl ⟨rfl,rfl⟩) (.inr (by simp;omega)) (by omega) (by simp;omega) λhmid=>?_;refine lSl (x:=f.ls) (h1d.blk.cells 3 _ rfl) ?_;refine hod.rd.slK (l:=ps) (m:=ls.length) rfl (.inr rfl) (.inl ⟨rfl,rfl⟩) (by omega) (le_refl _) λhback=>?_;refine qee h1d (by omega) λb bls w4 hob hlb hB4=>?_;have hB14:Uc w1 w4:=(Below.refl _ w1).drew.trans hB4;have hB04:Uc w w4:=hB1.trans (hB14.mono hB1.size);have h4:=h1.ext hB14;refine ⟨h4.blk.cells 3 _ rfl,h4.blk.cells 3 _ rfl,?_⟩;refine nwb λw5 hb5 hB5 hs5=>?_;have hB45:Below w1.drew.heap.size w1.drew w5:=hB4.trans (hB5.mono hB4.size);have hA:=q5r (hfront.ext hB45) (hob.rd.ext hB5) (hmid.ext hB45) (hback.ext hB45);have hbl:=hlb.1;rw [List.length_replicate] at hbl;refine qnm ?_ hA ?_ (by simp) λq w6 ho6 hB6=>?_
   ·exact rd_lits (E:=zfy) (ys:=[_,_,_,_]) hb5 (by simp [maxLen]) rfl
   ·simp;omega
   have hB06:Uc w w6:=hB04.trans ((hB5.trans (hB6.mono hB5.size)).mono hB04.size);have hB16:Uc w1 w6:=hB14.trans ((hB5.trans (hB6.mono hB5.size)).mono hB14.size);have hB46:Uc w4 w6:=hB5.trans (hB6.mono hB5.size);have h6:=h1.ext hB16;have hl6:=hl.ext hB16;have hs15:w1.heap.size<=w5.heap.size:=by have:=hB14.size;have:=hB5.size;omega
   have hs01:=hB1.size;have hlb6:Lines w6 base bls (List.replicate m (Xv S.cols a)):=⟨hlb.1,λi t xs x1 x2=>((hlb.2 i t xs x1 x2).ext hB46).base (by show base<=w1.heap.size;omega)⟩;have hfresh:∀k,q.blk=some k->w.heap.size<=k:=λk hk=>by have:=(ho6.lt k hk).1;omega
   have hrow:=ho6.base (base':=base) (by omega);have hlines:=(((hl6.take tp).drop 0).append (hlb6.append (((((hl6.take ps).drop tp).take (ps-tp-m)).drop 0).append (((hl6.take ls.length).drop ps).append (Lines.nil w6 base)))));rw [qB];refine qz h6.blk (by simp) λw7 hb7 hg7 hs7=>?_;have h7:=h6.newRow (B:=0) (top:=S.top) hrow hlines (λk hk=>?_) hb7 hg7 (zero_le _)
   ·have hneg':¬(n>0/\(tp:Int)=0):=by omega
    have hneg2:¬n>0:=by omega
    rw [if_neg hneg',if_neg hneg2,if_pos (.inr (.inl hneg))] at hK;refine hK ⟨f.g,f.r,q,f.rs⟩ w7 ?_ ⟨rfl,rfl,.inr hfresh,.inl rfl⟩ ((Chg.of_ext (S:=xi f) hB06).trans (S':=λk=>k=f.g) (Chg.of_grown hg7 λk hk=>by cases hk;rfl) λi _ hi=>.inl hi);have e:List.take tp S.L++List.replicate m (Xv S.cols a)++List.drop tp (List.take (ps-m) S.L)++List.drop ps S.L=List.drop 0 (List.take tp S.L)++(List.replicate m (Xv S.cols a)++(List.drop 0 (List.take (ps-tp-m) (List.drop tp (List.take ps S.L)))++(List.drop ps (List.take ls.length S.L)++[]))):=by
     rw [drop_zero,drop_zero,List.append_nil,qs4,List.take_take,hll,List.take_length];rw [show min (tp+(ps-tp-m)) ps=ps-m by omega];simp
    rw [show ((tp:Int)).toNat=tp from rfl,show ((ps:Int)).toNat=ps from rfl,e];exact h7
   ·have hk':=hfresh k hk;refine ⟨λe=>?_,λe=>?_,λe=>?_⟩
    ·have:=(h.below k (.inl e)).2;omega
    ·have:=(h.below k (.inr (.inl e))).2;omega
    ·have:=(h.below k (.inr (.inr (.inr e)))).2;omega
  ·have hpos:n>0:=by simpa using hpos
   refine hpart.drew.slK3 (l:=0) (m:=m) rfl (.inl ⟨rfl,rfl⟩) rfl rfl (by omega) (by simp;omega) λhgone=>?_;refine lSl (x:=f.ls) (h1d.blk.cells 3 _ rfl) ?_;refine hod.rd.slK3 (l:=0) (m:=tp) rfl (.inl ⟨rfl,rfl⟩) rfl rfl (by omega) (by omega) λhfront=>?_;refine hpart.drew.slK (l:=m) (m:=((ls.take ps).drop tp).length) rfl (.inr rfl) (.inl ⟨rfl,rfl⟩) (by simp;omega) (le_refl _) λhrest=>?_;refine qw (x:=a) hbd.cells ?_;refine lSl (x:=f.ls) (h1d.blk.cells 3 _ rfl) ?_;refine hod.rd.slK (l:=ps) (m:=ls.length) rfl (.inr rfl) (.inl ⟨rfl,rfl⟩) (by omega) (le_refl _) λhback=>?_;refine qee h1d (by omega) λb bls w4 hob hlb hB4=>?_;have hB14:Uc w1 w4:=(Below.refl _ w1).drew.trans hB4;have hB04:Uc w w4:=hB1.trans (hB14.mono hB1.size);have h4:=h1.ext hB14;refine ⟨h4.blk.cells 3 _ rfl,h4.blk.cells 3 _ rfl,?_⟩;refine nwb λw5 hb5 hB5 hs5=>?_;have hB45:Below w1.drew.heap.size w1.drew w5:=hB4.trans (hB5.mono hB4.size);have hA:=q5r (hfront.ext hB45) (hrest.ext hB45) (hob.rd.ext hB5) (hback.ext hB45);have hbl:=hlb.1;rw [List.length_replicate] at hbl;refine qnm ?_ hA ?_ (by simp) λq w6 ho6 hB6=>?_
   ·exact rd_lits (E:=zfy) (ys:=[_,_,_,_]) hb5 (by simp [maxLen]) rfl
   ·simp;omega
   have hB06:Uc w w6:=hB04.trans ((hB5.trans (hB6.mono hB5.size)).mono hB04.size);have hB16:Uc w1 w6:=hB14.trans ((hB5.trans (hB6.mono hB5.size)).mono hB14.size);have hB46:Uc w4 w6:=hB5.trans (hB6.mono hB5.size);have h6:=h1.ext hB16;have hl6:=hl.ext hB16;have hs15:w1.heap.size<=w5.heap.size:=by have:=hB14.size;have:=hB5.size;omega
   have hs01:=hB1.size;have hlb6:Lines w6 base bls (List.replicate m (Xv S.cols a)):=⟨hlb.1,λi t xs x1 x2=>((hlb.2 i t xs x1 x2).ext hB46).base (by show base<=w1.heap.size;omega)⟩;have hfresh:∀k,q.blk=some k->w.heap.size<=k:=λk hk=>by have:=(ho6.lt k hk).1;omega
   have hrow:=ho6.base (base':=base) (by omega);have hlines:=(((hl6.take tp).drop 0).append (((((hl6.take ps).drop tp).take ((ls.take ps).drop tp).length).drop m).append (hlb6.append (((hl6.take ls.length).drop ps).append (Lines.nil w6 base)))));rw [qB];refine qz h6.blk (by simp) λw7 hb7 hg7 hs7=>?_;have hqne:∀k,q.blk=some k->k≠f.g/\k≠f.r/\f.rs.blk≠some k:=λk hk=>by
    have hk':=hfresh k hk;refine ⟨λe=>?_,λe=>?_,λe=>?_⟩
    ·have:=(h.below k (.inl e)).2;omega
    ·have:=(h.below k (.inr (.inl e))).2;omega
    ·have:=(h.below k (.inr (.inr (.inr e)))).2;omega
   have h7:=h6.newRow (B:=0) (top:=S.top) hrow hlines hqne hb7 hg7 (zero_le _);have e:List.take tp S.L++List.drop (tp+m) (List.take ps S.L)++List.replicate m (Xv S.cols a)++List.drop ps S.L=List.drop 0 (List.take tp S.L)++(List.drop m (List.take ((ls.take ps).drop tp).length (List.drop tp (List.take ps S.L)))++(List.replicate m (Xv S.cols a)++(List.drop ps (List.take ls.length S.L)++[]))):=by
    have e1:((ls.take ps).drop tp).length=((S.L.take ps).drop tp).length:=by simp [hll]
    rw [drop_zero,List.append_nil,e1,List.take_length,hll,List.take_length,List.drop_drop];simp
   have hc7:Chg (xi f) w w7:=(Chg.of_ext (S:=xi f) hB06).trans (S':=λk=>k=f.g) (Chg.of_grown hg7 λk hk=>by cases hk;rfl) λi _ hi=>.inl hi;rw [if_pos hpos,show ((tp:Int)).toNat=tp from rfl,show ((ps:Int)).toNat=ps from rfl,e] at hK;refine cO (λht=>?_) (λht=>?_)
   ·have ht:(tp:Int)≠0:=by simpa using ht
    rw [if_neg (λhh=>ht hh.2),if_pos (.inr (.inr ht))] at hK;exact hK ⟨f.g,f.r,q,f.rs⟩ w7 h7 ⟨rfl,rfl,.inr hfresh,.inl rfl⟩ hc7
   ·have ht:(tp:Int)=0:=by simpa using ht
    rw [if_pos ⟨hpos,ht⟩,if_neg (by rintro (hh | hh | hh);exact good hh;omega;exact hh ht)] at hK;have hB17:Chg (λk=>k=f.g) w6 w7:=Chg.of_grown hg7 λk hk=>by cases hk;rfl
    obtain ⟨g1,g2,g3⟩:=h1.g_ne;have hgone6:=hgone.ext (w':=w6) (hB45.trans (hB6.mono hB45.size));have hbr:Go.Vc.Own slE w7 base q _:=hrow.chg hB17 λk hk=>(hqne k hk).1;have notr:∀k cs,k=f.g->¬Blk w6 k qT cs:=λk cs hk hc=>h6.notC k cs (.inl hk) hc;have hgone7:Rd slE w7 _ _:=hgone6.chg hB17 λx hx hs=>by
     obtain ⟨y,hy,e1⟩:=cut_block hx;obtain ⟨z,hz,e2⟩:=cut_block hy;exact (g2 z.block (by simp [Slc.blk,hz])).1 (by rw [<-e2,<-e1];exact hs)
    have hlg:=((((hl6.take ps).drop tp).take m).drop 0).chg hB17 notr;refine zfi (f:=⟨f.g,f.r,q,f.rs⟩) (m:=m) h7 hgone7 (by simp;omega) hlg (λx hx hs=>?_) hmost (by have:=hB06.size;have:=hg7.size;omega) (by omega) λi f' w8 h8 hf8 hfl8 hc8=>?_
    ·obtain ⟨y,hy,e1⟩:=cut_block hx;obtain ⟨z,hz,e2⟩:=cut_block hy;have hzb:f.ls.blk=some z.block:=by simp [Slc.blk,hz]
     rw [e1,e2] at hs;rcases hs with e | e | e | e
     ·exact (g2 _ hzb).1 e
     ·exact (g2 _ hzb).2 e
     ·have:=hfresh _ e;have:=(h.below _ (.inr (.inr (.inl hzb)))).2;omega
     ·exact h.ne _ hzb e
    ·have hb8:=h8.blk;have hfg:f'.g=f.g:=hf8.g;rw [hfg] at hb8;refine lI (x:=S.top) (hb8.cells 4 _ rfl) ?_;rw [qB];refine qz hb8 (by simp) λw9 hb9 hg9 hs9=>?_;obtain ⟨ls8,ho8,hl8⟩:=h8.row;obtain ⟨k1,k2,k3⟩:=h8.g_ne;have hto:f.to ⟨f.g,f.r,q,f.rs⟩ w.heap.size:=⟨rfl,rfl,.inr hfresh,.inl rfl⟩;have h9:=h8.newRow (B:=0) (w2:=w9) (top:=i64.wrap (S.top+m)) ho8 hl8 (λk hk=>⟨(k2 k hk).1,(k2 k hk).2,h8.ne k hk⟩) (by rw [hfg];exact hb9) (by rw [hfg];exact hg9) (zero_le _);have hsz7:w.heap.size<=w7.heap.size:=by have:=hB06.size;have:=hg7.size;omega
     refine hK f' w9 ?_ (hto.trans hf8 hsz7) ((hc7.trans hc8 λi hi hs=>?_).trans (S':=λk=>k=f.g) (Chg.of_grown hg9 λk hk=>by cases hk;rfl) λi _ hi=>.inl hi)
     ·have ep:List.take m S.L=List.drop 0 (List.take m (List.drop tp (List.take ps S.L))):=by
       have:tp=0:=by omega
       subst this;rw [drop_zero,drop_zero,List.take_take,Nat.min_eq_left (by omega)]
      rw [ep];exact h9
     ·rcases hto.old i hs with e | e
      ·exact e
      ·omega)
 refine cO (λc1=>main _ ?_) (λc1=>cO (λc2=>main _ ?_) (λc2=>main _ ?_))
 ·have c1:=oTq c1;rw [qP (by omega)];split at hm<;>split<;>omega
 ·have c2:=oTq c2;rw [qP (by omega)];split at hm<;>split<;>omega
 ·have c1:=oFq c1;have c2:=oFq c2;rw [qP (by omega)];split at hm<;>split<;>omega
theorem qic {cols:Nat} {L:List (List qO)} {rows:Nat} {top past n:Int} {a:vC} (hL:L.length=rows) (h:¬Qb rows top past n):(qe5 cols L top past n a).length=L.length:=by
 unfold Qb at h;have hm:(XE top past n:Int)=min (if n<0 then -n else n) (past-top):=by unfold XE;split<;>omega
 unfold qe5;dsimp only;generalize XE top past n=m at *;split
 ·simp only [List.length_append,List.length_take,List.length_drop,List.length_replicate];split at hm<;>omega
 ·simp only [List.length_append,List.length_take,List.length_drop,List.length_replicate];split at hm<;>omega
theorem Y3 {S:GS} {top past n:Int} {a:vC} (hL:S.L.length=S.rows):(ku S top past n a).L.length=S.rows/\(ku S top past n a).rows=S.rows/\(ku S top past n a).cols=S.cols/\(ku S top past n a).most=S.most:=by
 unfold ku;split
 ·exact ⟨hL,rfl,rfl,rfl⟩
 ·next h =>
  split
  ·exact ⟨(qic hL h).trans hL,rfl,rfl,rfl⟩
  ·exact ⟨(qic hL h).trans hL,rfl,rfl,rfl⟩
section
variable {w w1 w2:World} {base:Nat} {f:Foot} {S:GS}
theorem GridM.setLine {i:Nat} {t:Slc} {xs:List qO} {ls:List Slc} (h:GridM w1 base f S) (hl:Lines w1 base ls S.L) (ht:Go.Vc.Own zl w1 base t xs) (ho:Go.Vc.Own slE w2 base f.ls (ls.set i t)) (hg:w1.grownBy w2 f.ls.blk) :
  GridM w2 base f { S with L:=S.L.set i xs }/\Chg (λk=>f.ls.blk=some k) w1 w2:=by
 have hc5:Chg (λk=>f.ls.blk=some k) w1 w2:=Chg.of_grown hg λk hk=>hk;have notC:∀k cs,f.ls.blk=some k->¬Blk w1 k qT cs:=λk cs hk=>h.notC k cs (.inr (.inr (.inl hk)));obtain ⟨g1,g2,g3⟩:=h.g_ne;refine ⟨⟨h.blk.chg hc5 λe=>(g2 _ e).1 rfl,h.hg,⟨ls.set i t,ho,(hl.chg hc5 notC).set i (ht.chg hc5 λg hg hs=>?_)⟩,h.ring.chg hc5 (λk hk hs=>?_) notC,h.ne⟩,hc5⟩
 ·obtain ⟨cs,hcs⟩:=ht.blk_t hg;exact notC g cs hs hcs
 ·rcases hk with rfl | hk
  ·exact (g2 _ hs).2 rfl
  ·exact h.ne k hs hk
theorem Chg.gg {k:Nat} (h:w1.grownBy w2 (some k)):Chg (λi=>i=k) w1 w2:=Chg.of_grown h λi hi=>by cases hi;rfl
end
section
variable {w:World} {base:Nat} {f:Foot} {S:GS}
theorem callR_plain {C:Cx} {g:Nat} {first cap:Array Value} {args:List Value} {ks:List Kind} {w:World} {K:Go.Vc.Cur ks} (hp:C.plain g=true) (h:qm C.P g (first.toList++args++cap.toList) ks w K) :
  jd C (.func (.func g) first cap) args ks w K:=by
 unfold jd qjc;simp only [hp];exact h
end
def qg3:Int->List Bool->List (Int×Unit)
 | _,[]=>[]
 | i,b::r=>if b then (i,())::qg3 (i+1) r else qg3 (i+1) r
def keysB (B:List Bool):List (Int×Unit):=qg3 0 B
theorem qov:∀{B:List Bool} {i a:Int} {u:Unit},(a,u)∈qg3 i B↔∃j:Nat,a=i+j/\B[j]?=some true
 | [],i,a,u=>by simp [qg3]
 | b::r,i,a,u=>by
  have ih:=qov (B:=r) (i:=i+1) (a:=a) (u:=u);have key:(∃j:Nat,a=i+1+j/\r[j]?=some true)↔∃j:Nat,a=i+((j+1:Nat):Int)/\(b::r)[j+1]?=some true:=by
   simp only [List.getElem?_cons_succ];constructor
   ·rintro ⟨j,h,h'⟩;exact ⟨j,by omega,h'⟩
   ·rintro ⟨j,h,h'⟩;exact ⟨j,by omega,h'⟩
  rw [qg3];cases b with
  | true =>
   rw [if_pos rfl,List.mem_cons,ih,key];constructor
   ·rintro (h | ⟨j,h,h'⟩)
    ·exact ⟨0,by cases h;simp,rfl⟩
    ·exact ⟨j+1,h,h'⟩
   ·rintro ⟨j,h,h'⟩;cases j with
    | zero=>exact .inl (by rw [h];simp)
    | succ j=>exact .inr ⟨j,h,h'⟩
  | false =>
   rw [if_neg (by simp),ih,key];constructor
   ·rintro ⟨j,h,h'⟩;exact ⟨j+1,h,h'⟩
   ·rintro ⟨j,h,h'⟩;cases j with
    | zero=>simp at h'
    | succ j=>exact ⟨j,h,h'⟩
theorem qo7:∀(B:List Bool) (i:Int),Srt (qg3 i B)
 | [],i=>.nil
 | b::r,i=>by
  rw [qg3];cases b with
  | true =>
   rw [if_pos rfl];refine List.pairwise_cons.2 ⟨λp hp=>?_,qo7 r (i+1)⟩;obtain ⟨a,u⟩:=p;obtain ⟨j,h,_⟩:=qov.1 hp;show i<a;omega
  | false=>rw [if_neg (by simp)];exact qo7 r (i+1)
theorem qxf {B:List Bool} {a:Int} {u:Unit}:(a,u)∈keysB B↔∃j:Nat,a=j/\B[j]?=some true:=by
 unfold keysB;rw [qov];simp
theorem vQ (B:List Bool):Srt (keysB B):=qo7 B 0
theorem qnj {L M:List (Int×Unit)} (h:Srt L) (h':Srt M) (hm:∀a,(a,())∈L↔(a,())∈M):L=M:=by
 have hp:L.Perm M:=(List.perm_ext_iff_of_nodup h.nodup h'.nodup).2 λp=>by obtain ⟨a,u⟩:=p;exact hm a
 refine hp.eq_of_pairwise (le:=λp q:Int×Unit=>p.1<=q.1) (λa b _ _ h1 h2=>?_) (h.imp λh=>Int.le_of_lt h) (h'.imp λh=>Int.le_of_lt h);obtain ⟨a,u⟩:=a;obtain ⟨b,v⟩:=b;have:a=b:=Int.le_antisymm h1 h2;subst this;rfl
def qyk (j:Nat):Bool:=decide (0<j) && decide (j%8=0)
def KK (B:List Bool) (n:Nat):List Bool:=(List.range n).map λj=>(B[j]?).getD (qyk j)
@[simp] theorem resz_length (B:List Bool) (n:Nat):(KK B n).length=n:=by simp [KK]
theorem quw {B:List Bool} {n j:Nat}:(KK B n)[j]?=if j<n then some ((B[j]?).getD (qyk j)) else none:=by
 unfold KK;rw [List.getElem?_map];by_cases h:j<n
 ·rw [if_pos h,List.getElem?_range h];rfl
 ·rw [if_neg h,List.getElem?_eq_none (by simpa using h)];rfl
theorem q6m (B:List Bool):KK B B.length=B:=by
 refine List.ext_getElem? λj=>?_;rw [quw];split
 ·rename_i h;rw [List.getElem?_eq_getElem h];rfl
 ·rename_i h;rw [List.getElem?_eq_none (by omega)]
theorem Yy {B:List Bool} {n:Nat} {a:Int} {u:Unit}:(a,u)∈keysB (KK B n)↔∃j:Nat,a=j/\j<n/\(B[j]?).getD (qyk j)=true:=by
 rw [qxf];constructor
 ·rintro ⟨j,h,h'⟩;rw [quw] at h';split at h'
  ·rename_i hj;exact ⟨j,h,hj,by simpa using h'⟩
  ·cases h'
 ·rintro ⟨j,h,hj,h'⟩;exact ⟨j,h,by rw [quw,if_pos hj,h']⟩
theorem zax {B:List Bool} (h:B.length<=1):keysB (KK B 1)=keysB B:=by
 refine qnj (vQ _) (vQ _) λa=>?_;rw [Yy,qxf];constructor
 ·rintro ⟨j,rfl,hj,h'⟩;obtain rfl:j=0:=by omega
  refine ⟨0,rfl,?_⟩;cases hb:B[0]? with
  | none=>rw [hb] at h';cases h'
  | some b=>rw [hb] at h';exact congrArg some h'
 ·rintro ⟨j,rfl,h'⟩;have:j<B.length:=(List.getElem?_eq_some_iff.1 h').1;exact ⟨j,rfl,by omega,by rw [h'];rfl⟩
theorem qwl {B:List Bool} {n:Nat} (h:B.length<=n):(qyk n=true->ko (keysB (KK B n)) (n:Int) ()=keysB (KK B (n+1)))/\(qyk n=false->keysB (KK B n)=keysB (KK B (n+1))):=by
 have hn:B[n]?=none:=List.getElem?_eq_none h;constructor
 ·intro hd;refine qnj (qc8 (vQ _) _ _) (vQ _) λa=>?_;rw [yI (vQ _),Yy,Yy];constructor
  ·rintro (⟨rfl,_⟩ | ⟨hne,j,rfl,hj,h'⟩)
   ·exact ⟨n,rfl,by omega,by rw [hn];exact hd⟩
   ·exact ⟨j,rfl,by omega,h'⟩
  ·rintro ⟨j,rfl,hj,h'⟩;by_cases e:j=n
   ·exact .inl ⟨by rw [e],rfl⟩
   ·exact .inr ⟨by omega,j,rfl,by omega,h'⟩
 ·intro hd;refine qnj (vQ _) (vQ _) λa=>?_;rw [Yy,Yy];constructor
  ·rintro ⟨j,rfl,hj,h'⟩;exact ⟨j,rfl,by omega,h'⟩
  ·rintro ⟨j,rfl,hj,h'⟩;refine ⟨j,rfl,?_,h'⟩;have:j≠n:=λe=>by subst e;rw [hn] at h';rw [show (none:Option Bool).getD (qyk j)=qyk j from rfl,hd] at h';cases h'
   omega
theorem q9x {B:List Bool} {n m:Nat} (h:n<=m):(keysB (KK B m)).filter (λp=>decide (p.1<(n:Int)))=keysB (KK B n):=by
 refine qnj ((vQ _).filter _) (vQ _) λa=>?_;rw [List.mem_filter,Yy,Yy];constructor
 ·rintro ⟨⟨j,rfl,hj,h'⟩,hlt⟩;have:=oTq hlt;exact ⟨j,rfl,by simp at this;omega,h'⟩
 ·rintro ⟨j,rfl,hj,h'⟩;exact ⟨⟨j,rfl,by omega,h'⟩,by simp;omega⟩
end Go.Proofs.YtokfefnmpjohpaaGreatDoor
set_option maxRecDepth 100000
namespace Go.Proofs
open Go.RowKit Go.Maps Go.Sort Go.Shelf Go.Vc
def Tryz.keysB_ren:Go.Shelf.Ren:=⟨λ| 7=>336 | 10=>378 | n=>n,λ| 23=>146 | 26=>3 | 3=>4 | 28=>75 | 0=>0 | 27=>74 | 33=>136 | 4=>4 | n=>n,λ| n=>n⟩
theorem Tryz.keysB:Go.Proofs.SlLaysZI.n7 Tryz.prog Tryz.keysB_ren:={
 mixed:=by kernel_rfl
 f7:=⟨Tryz.f336.name,by decide,Tryz.func336.trans (congrArg some (by kernel_rfl))⟩
 f10:=⟨Tryz.f378.name,by decide,Tryz.func378.trans (congrArg some (by kernel_rfl))⟩
 t0:=Tryz.underlying0
 a0:=Tryz.isAgg0
 z0:=Tryz.sizeOf0
 v0:=Tryz.zeroValue0
 t4:=Tryz.underlying4
 a4:=Tryz.isAgg4
 z4:=Tryz.sizeOf4
 v4:=Tryz.zeroValue4
 t23:=Tryz.underlying146
 a23:=Tryz.isAgg146
 z23:=Tryz.sizeOf146
 v23:=Tryz.zeroValue146
 t26:=Tryz.underlying3
 a26:=Tryz.isAgg3
 z26:=Tryz.sizeOf3
 v26:=Tryz.zeroValue3
 t27:=Tryz.underlying74
 a27:=Tryz.isAgg74
 z27:=Tryz.sizeOf74
 v27:=Tryz.zeroValue74
 t28:=Tryz.underlying75
 a28:=Tryz.isAgg75
 z28:=Tryz.sizeOf75
 v28:=Tryz.zeroValue75
 t33:=Tryz.underlying136
 a33:=Tryz.isAgg136
 z33:=Tryz.sizeOf136
 v33:=Tryz.zeroValue136 }
namespace YtokfefnmpjohpaaGreatDoor
section
variable {V:Type} {enc:V->Value} {w:World} {r:Nat} {L:List (Int×V)}
theorem qzd (hM:zG enc w r L) (hl:L.length<=maxLen) {B:Nat} (hB:w.cell? ⟨B,0,none⟩=some (.map (some r))) (n:Nat) (hn:1<=n) :
  SeqGives Fence.wide n Tryz.prog 378 #[.pointer (some ⟨B,0,none⟩)] encZ (λss=>ss.Perm (L.map (·.1))) L.length w:=by
 obtain ⟨E,c,hE,hp,hs⟩:=hM;have hlen:=qo5 hp;obtain ⟨D0,hD,hsz,hpk⟩:=q5s hE (by omega);have hBl:B<w.heap.size:=by
  unfold World.cell? at hB;cases h:w.heap[B]? with
  | none=>rw [h] at hB;cases hB
  | some o=>exact (Array.getElem?_eq_some_iff.1 h).1
 have h:=AnyZI.keys_gives (ρ:=Tryz.keysB_ren) { Tryz.keysB with } Fence.wide n trivial rfl hn B r E.length D0 w hBl hB hD;rw [hsz,hlen] at h;have hpp:(E.map (·.k)).Perm (L.map (·.1)):=by
  have:=hp.map (·.1);unfold vi at this
  rwa [List.map_map] at this
 intro l J W hW hJ hY h0;refine (h l J W hW hJ hY h0).mono ?_;rintro e W' ⟨hv,xs,hxs,hJx⟩;exact ⟨hv,xs,(hxs.trans hpk).trans hpp,hJx⟩
theorem qzp {m:Option Nat} {w:World} {K:Value->Ub}
  (hK:K (.func (.func 378) #[] #[.pointer (some ⟨w.heap.size,0,none⟩)]) (w.alloc (.cells #[.map m] 146))):kd m w K:=by
 have h:=callsIn_wide.1 (AnyZI.keys_in Tryz.keysB Fence.wide 5 trivial rfl m w);refine Calls.mono (R:=λe w'=>e=.returned (.func (.func 378) #[] #[.pointer (some ⟨w.heap.size,0,none⟩)])/\w'=w.alloc (.cells #[.map m] 146)) h ?_;rintro e w' ⟨rfl,rfl⟩;exact ⟨_,rfl,hK⟩
theorem qvq {B:Nat} {K:Slc->Ub} (hM:zG enc w r L) (hl:L.length<=1000000) (hB:w.cell? ⟨B,0,none⟩=some (.map (some r)))
  (hK:∀q w',Go.Vc.Own zX w' w.heap.size q (L.map (·.1))->Uc w w'->K q w'):kO (.func (.func 378) #[] #[.pointer (some ⟨B,0,none⟩)]) w K:=by
 have h:=callsIn_wide.1 (AnyZI.sorted_in Tryz.sortedA Fence.wide 5 trivial trivial trivial trivial rfl (by omega) (Tryz.sortsA _) (enters_of Tryz.func65 (by kernel_rfl) rfl) 378 #[.pointer (some ⟨B,0,none⟩)] trivial (enters_of Tryz.func378 (by kernel_rfl) rfl) _ L.length (by unfold maxLen;omega) (by omega) w (qzd hM (by unfold maxLen;omega) hB 2 (by omega)));refine Calls.mono h ?_;rintro e w' ⟨v,ss,rfl,hS,hrow,_,hb⟩;rw [q1y hM.srt hS] at hrow;rw [show ss.length=(L.map (·.1)).length from hS.length_eq] at hrow;obtain ⟨q,rfl,hq⟩:=qld hrow;exact ⟨q,rfl,hK q w' hq hb⟩
end
end YtokfefnmpjohpaaGreatDoor
end Go.Proofs
namespace Go.Proofs.YtokfefnmpjohpaaGreatDoor
open Go.Vc Go.RowKit
set_option maxRecDepth 100000
open _root_.Int (toNat_natCast)
open IntKind (i64)
open Lib (itoa)
open _root_.List (length_append length_cons length_nil mem_append mem_singleton)
open _root_.Nat (le_refl zero_le)
def q15:Unit->Value:=λ_=>.bool true
structure StopsM (w:World) (g r:Nat) (B:List Bool):Prop where
 blk:Blk w g QE [.int .i64 (B.length:Int),.map (some r)]
 map:zG q15 w r (keysB B)
theorem q55:PG.underlying zr=some (.map zA qn5):=by kernel_rfl
theorem q6b:PG.underlying zA=some (.int .i64):=by kernel_rfl
theorem zfg:∀w,(zeroValue qn5).run PG w=.ok (.bool false) w:=Tryz.zeroValue4
theorem QA {a:Addr} {K:Addr->Prop} (h:K a):qG (some a) K:=h
theorem q9p {x:Int} (h:-9223372036854775808<=x/\x<=9223372036854775807):i64.wrap x=x:=qP h
section
variable {w w':World} {g r:Nat} {B:List Bool}
theorem StopsM.keep {Sx:Nat->Prop} (h:StopsM w g r B) (hc:Chg Sx w w') (hg:¬Sx g) (hr:¬Sx r):StopsM w' g r B:=⟨h.blk.chg hc hg,h.map.chg hc hr⟩
theorem zdv (B:List Bool):(keysB B).length<=B.length:=by
 unfold keysB;have:∀(B:List Bool) (i:Int),(qg3 i B).length<=B.length:=by
  intro B
  induction B with
  | nil=>intro i;simp [qg3]
  | cons b r ih =>
   intro i;rw [qg3];have:=ih (i+1);split<;>simp<;>omega
 exact this B 0
theorem q0e {L:List (Int×Unit)} (h:zG q15 w r L) {col:Int} (hc:-9223372036854775808<=col/\col<=9223372036854775807) {K:Option Value->Ub}
  (hK:∀w',zG q15 w' r (ko L col ())->Chg (λk=>k=r) w w'->w'.heap.size=w.heap.size->K none w'):qjp PG (Instr.mapUpdate zr (.map (some r)) (Ua col) (.bool true)) w K:=by
 obtain ⟨w',h1,h2,h3,h4⟩:=h.update q55 q6b hc ();exact ⟨w',h1,hK w' h2 h3 h4⟩
theorem q1g {L:List (Int×Unit)} (h:zG q15 w r L) (col:Int) {K:Value->Ub}
  (hK:∀v w',zG q15 w' r (Go.Vc.delL L col)->Chg (λk=>k=r) w w'->w'.heap.size=w.heap.size->K v w'):zJ PG (Builtin.delete_ #[zr,zA] qfi #[(.map (some r)),(Ua col)]) Kind.raw w K:=by
 obtain ⟨w',h1,h2,h3,h4⟩:=h.delete q55 q6b col qfi;exact ⟨.tuple #[],w',h1,hK _ w' h2 h3 h4⟩
end
section
variable {w w':World} {g r:Nat} {B:List Bool}
theorem zdk {x:Int} {L:List (Int×Unit)} (hb:Blk w g QE [.int .i64 x,.map (some r)]) (hm:zG q15 w r L) (hl:L.length<=1000) {K:Slc->Ub}
  (hK:∀q w',Go.Vc.Own zX w' w.heap.size q (L.map (·.1))->Uc w w'->K q w'):Xq (some ⟨g,0,none⟩) w K:=by
 refine qjv _ ?_;refine QA (xx (x:=some r) (hb.cells 1 _ rfl) (qzp ?_));have hB:Uc w (w.alloc (.cells #[.map (some r)] 146)):=(Below.refl _ w).alloc (le_refl _) _;have hs:(w.alloc (.cells #[.map (some r)] 146)).heap.size=w.heap.size+1:=by show (w.heap.push _).size=_;simp
 have hb:Blk (w.alloc (.cells #[.map (some r)] 146)) w.heap.size 146 [.map (some r)]:=Blk.new w 146 [.map (some r)];refine qvq (hm.ext hB) (by omega) (hb.cell 0 rfl) λq w' hq hB'=>?_;exact hK q w' (hq.base (by omega)) (hB.trans (hB'.mono (by omega)))
theorem zdh {m:Nat} (h:1<=m):((m:Int).tmod 8==0)=qyk m:=by
 unfold qyk;rw [show ((m:Int).tmod 8)=((m%8:Nat):Int) by rw [Int.ofNat_tmod];rfl];rw [dTq (by omega),Bool.true_and];by_cases e:m%8=0
 ·rw [e];rfl
 ·rw [dFq e];simp;omega
theorem qx8 (h:StopsM w g r B) (hl:B.length<=1000) (cols:Int) {K:Int->Ub} (hE:(cols<1\/1000<cols)->K 1 w)
  (hK:∀w',1<=cols->cols<=1000->StopsM w' g r (KK B cols.toNat)->Chg (λk=>k=g\/k=r) w w'->K 0 w'):Qo (some ⟨g,0,none⟩) cols w K:=by
 refine qdt _ _ ?_;refine jpO λJ hJ=>?_;refine cO (λh1=>hE (.inl (oTq h1))) λh1=>?_;refine cO (λh2=>hE (.inr (oTq h2))) λh2=>?_;have h1:=oFq h1;have h2:=oFq h2;obtain ⟨n,rfl⟩:∃n:Nat,cols=n:=⟨cols.toNat,by omega⟩;rw [toNat_natCast] at hK;refine hJ _ _ ?_;refine QA (lI (x:=(B.length:Int)) (h.blk.cells 0 _ rfl) ?_);refine lpR (λ(s:Int×Unit) w2=>∃m:Nat,s.1=m/\1<=m/\B.length<=m/\(m<=n\/m<=B.length\/m=1)/\Blk w2 g QE [.int .i64 (B.length:Int),.map (some r)]/\zG q15 w2 r (keysB (KK B m))/\Chg (λk=>k=r) w w2)
  (λs=>n-s.1.toNat) ?_ ?_
 ·have hm0:∃m:Nat,(if (1:Int)>(B.length:Int) then (1:Int) else (B.length:Int))=m/\1<=m/\B.length<=m/\(m<=B.length\/m=1)/\keysB (KK B m)=keysB B:=by
   split
   ·exact ⟨1,rfl,le_refl _,by omega,.inr rfl,zax (by omega)⟩
   ·exact ⟨B.length,rfl,by omega,le_refl _,.inl (le_refl _),by rw [q6m]⟩
  obtain ⟨m,e,hm1,hm2,hm3,hm4⟩:=hm0;exact ⟨m,e,hm1,hm2,.inr hm3,h.blk,by rw [hm4];exact h.map,Chg.refl _ _⟩
 rintro ⟨i,u⟩ w2 ⟨m,hi,hm1,hm2,hm3,hb2,hmp2,hc2⟩ I hI;dsimp only at hi ⊢;subst hi;have hne:=hmp2.ne_blk hb2;by_cases hlt:m<n
 ·refine cT (by simp;omega) ⟨by decide,?_⟩;rw [zdh hm1,q9p (by omega)];refine cO (λhd=>?_) λhd=>?_
  ·refine QA (xx (x:=some r) (hb2.cells 1 _ rfl) (q0e hmp2 (by omega) λw3 hm hc hs=>hI _ _ ⟨m+1,by simp,by omega,by omega,.inl (by omega),hb2.chg hc (λe=>hne e.symm),?_,hc2.trans hc λi _ hi=>hi⟩ (by simp;omega)));rw [<-(qwl hm2).1 hd];exact hm
  ·refine hI _ _ ⟨m+1,by simp,by omega,by omega,.inl (by omega),hb2,?_,hc2⟩ (by simp;omega);rw [<-(qwl hm2).2 hd];exact hmp2
 ·refine cF (by simp;omega) ?_;have hmle:(keysB (KK B m)).length<=1000:=by
   have:=zdv (KK B m);rw [resz_length] at this;omega
  refine zdk hb2 hmp2 hmle λq w4 hq hB4=>?_;obtain ⟨P,hP⟩:∃P,keysB (KK B m)=P:=⟨_,rfl⟩;have hsP:Srt P:=by rw [<-hP];exact vQ _
  rw [hP] at hmp2 hq hmle;have hcut:P.filter (λp=>decide (p.1<(n:Int)))=keysB (KK B n):=by rw [<-hP];exact q9x (by omega)
  have hqn:=hq.rd.n;rw [List.length_map] at hqn;have hlt2:=hb2.lt;have hlr:=hmp2.lt;refine lpR (λ(s:Int×Unit) w5=>∃k:Nat,s.1=k/\k<=P.length/\Blk w5 g QE [.int .i64 (B.length:Int),.map (some r)]/\Go.Vc.Own zX w5 w2.heap.size q (P.map (·.1))/\Chg (λk=>k=r) w2 w5 /\
    ∃L,zG q15 w5 r L/\∀a,(a,())∈L↔(a,())∈P/\(a<n\/a ∉ (P.map (·.1)).take k))
   (λs=>P.length-s.1.toNat) ⟨0,rfl,zero_le _,hb2.ext hB4,hq,Chg.of_ext hB4,P,hmp2.ext hB4,λa=>by simp⟩ ?_
  rintro ⟨i,u⟩ w5 ⟨k,hi,hk,hb5,hq5,hc5,L,hL,hmem⟩ I2 hI2;dsimp only at hi ⊢;subst hi;have hne5:=hL.ne_blk hb5;by_cases hlk:k<P.length
  ·refine cT (by simp;omega) ?_;refine hq5.rd.ix (k:=1) rfl (by omega) (by simp;omega) λhcell=>?_;obtain ⟨x,hx,hx'⟩:=Go.Vc.get_of (xs:=P.map (·.1)) (k:=k) (by simpa using hlk);rw [hx' _] at hcell;refine lI (x:=x) (by simpa using hcell 0 _ rfl) ?_;have htk:(P.map (·.1)).take (k+1)=(P.map (·.1)).take k++[x]:=by rw [List.take_add_one,hx];rfl
   rw [q9p (by omega)];refine cO (λhge=>?_) λhge=>?_
   ·have hge:=oTq hge;refine QA (xx (x:=some r) (hb5.cells 1 _ rfl) (q1g hL x λv w6 hm6 hc6 hs6=>hI2 _ _ ⟨k+1,by simp,by omega,hb5.chg hc6 (λe=>hne5 e.symm),hq5.chg hc6 (λj hj e=>?_),hc5.trans hc6 λi _ hi=>hi,_,hm6,λa=>?_⟩ (by simp;omega)))
    ·have:=(hq5.lt j hj).1;omega
    ·rw [qij,hmem a,htk,mem_append,mem_singleton];constructor
     ·rintro ⟨hne,hp,ho⟩;exact ⟨hp,ho.imp id λho hh=>hh.elim ho hne⟩
     ·rintro ⟨hp,ho⟩;refine ⟨λe=>?_,hp,ho.imp id λho hh=>ho (.inl hh)⟩;rcases ho with ho | ho
      ·omega
      ·exact ho (.inr e)
   ·have hge:=oFq hge;refine hI2 _ _ ⟨k+1,by simp,by omega,hb5,hq5,hc5,L,hL,λa=>?_⟩ (by simp;omega);rw [hmem a,htk,mem_append,mem_singleton];constructor
    ·rintro ⟨hp,ho⟩;refine ⟨hp,?_⟩;by_cases e:a=x
     ·exact .inl (by omega)
     ·exact ho.imp id λho hh=>hh.elim ho e
    ·rintro ⟨hp,ho⟩;exact ⟨hp,ho.imp id λho hh=>ho (.inl hh)⟩
  ·refine cF (by simp;omega) (QA ?_);rw [add_zero];refine qz hb5 (by simp) λw7 hb7 hg7 hs7=>?_;have hL':L=keysB (KK B n):=by
    rw [<-hcut];refine qnj hL.srt (hsP.filter _) λa=>?_;rw [hmem a,List.mem_filter,List.take_of_length_le (by simp;omega)];constructor
    ·rintro ⟨hp,ho⟩;refine ⟨hp,?_⟩;rcases ho with ho | ho
     ·simpa using ho
     ·exact absurd (List.mem_map.2 ⟨_,hp,rfl⟩) ho
    ·rintro ⟨hp,ho⟩;exact ⟨hp,.inl (by simpa using ho)⟩
   rw [hL'] at hL;refine hK w7 (by omega) (by omega) ⟨by rw [resz_length];exact hb7,hL.chg (Go.Vc.Chg.gg hg7) hne5⟩ ?_;exact ((qxj hc2 (S:=λk=>k=g\/k=r) (.inr rfl)).trans (qxj hc5 (S:=λk=>k=g\/k=r) (.inr rfl)) λi _ hi=>hi).trans (qxj (Go.Vc.Chg.gg hg7) (S:=λk=>k=g\/k=r) (.inl rfl)) λi _ hi=>hi
theorem q6y (cols:Int) {w:World} {K:Option Addr->Int->Ub} (hE:∀w',Uc w w'->(cols<1\/1000<cols)->K none 1 w')
  (hK:∀g r w',1<=cols->cols<=1000->w.heap.size<=g->w.heap.size<=r->StopsM w' g r (KK [] cols.toNat)->Uc w w'->K (some ⟨g,0,none⟩) 0 w'):qlc cols w K:=by
 refine qvw _ ?_;unfold qqb nwM;have hB1:Uc w (w.alloc (.map #[] 0)):=(Below.refl _ w).alloc (le_refl _) _;have hs1:(w.alloc (.map #[] 0)).heap.size=w.heap.size+1:=by show (w.heap.push _).size=_;simp
 refine nwb λw2 hb2 hB2 hs2=>?_;have h2:StopsM w2 (w.alloc (.map #[] 0)).heap.size w.heap.size []:=⟨hb2,(zG.new w).ext hB2⟩;have hB12:=hB1.trans (hB2.mono (by omega));refine qx8 h2 (by simp) cols (λhc=>cT rfl (hE w2 hB12 hc)) λw3 h1 h2' h3 hc3=>cF rfl ?_;refine hK _ _ w3 h1 h2' (by omega) (le_refl _) h3 (hB12.trans (hc3.below (by omega) λi hi e=>?_));rcases e with e | e<;>omega
end
def w64 (x:Int):Int:=i64.wrap x
abbrev Cur:=qK
abbrev Sav:=vg
def qbr:Cur:=⟨0,0,false,⟨0,0,0⟩,false,⟨66,66⟩,0⟩
def qgf:Sav:=⟨⟨0,0,false,⟨0,0,0⟩,false,⟨0,0⟩,0⟩,false⟩
structure Sc where
 g0:GS
 g1:GS
 alt:Bool
 c:Cur
 s0:Sav
 s1:Sav
 modes:List (Int×Bool)
 priv:List (Int×Bool)
 top:Int
 past:Int
 stops:List Bool
 char:Int
 areas:List zQ
namespace Sc
def g (S:Sc):GS:=if S.alt then S.g1 else S.g0
def withG (S:Sc) (G:GS):Sc:=if S.alt then { S with g1:=G } else { S with g0:=G }
def mode (S:Sc) (n:Int):Bool:=(zt S.modes n).getD false
def pmode (S:Sc) (n:Int):Bool:=(zt S.priv n).getD false
def blank (S:Sc):vC:=⟨0,S.c.A.Bg,0⟩
def dry (S:Sc):Sc:={ S with c:={ S.c with Wrap:=false } }
def setCol (S:Sc) (col:Int):Sc:={ S with c:={ S.c with Col:=col } }
end Sc
def qzt (v lo hi:Int):Int:=if hi<(if lo>v then lo else v) then hi else (if lo>v then lo else v)
namespace Sc
def to (S:Sc) (row col:Int):Sc:={ S with c:={ S.c with Row:=qzt row 0 (w64 ((S.g.rows:Int)-1)),Col:=qzt col 0 (w64 ((S.g.cols:Int)-1)),Wrap:=false } }
def scroll (S:Sc) (top past n:Int):Sc:=S.withG (ku S.g top past n S.blank)
def index (S:Sc):Sc:=if S.c.Row=w64 (S.past-1) then S.dry.scroll S.top S.past 1 else S.dry.to (w64 (S.c.Row+1)) S.c.Col
def change (S:Sc) (f:List qO->List qO):Sc:=if 0<=S.c.Row/\S.c.Row<(S.g.rows:Int) then S.withG { S.g with L:=S.g.L.set S.c.Row.toNat (Zm (f (S.g.L.getD S.c.Row.toNat [])) S.g.cols) } else S
end Sc
def isW (r:Int):Bool:=decide (0<=r) && decide (r<=1114111) && (decide (r<55296) || decide (r>57343))
def inW (r:Int) (l:List (Int×Int)):Bool:=l.any λp=>decide (p.1<=r) && decide (r<=p.2)
def qso:List (Int×Int):=[(0,31),(127,159),(768,879),(8203,8207),(65024,65039)]
def q08:List (Int×Int):=[(4352,4447),(11904,42191),(44032,55203),(63744,64255),(65072,65135),(65280,65376),(65504,65510),(127744,129791),(131072,262141)]
def VN (r:Int):Int:=if isW r=false\/inW r qso=true then 0 else if inW r q08=true then 2 else 1
def qhu:List Int:=[160,9670,9618,9225,9228,9229,9226,176,177,9252,9227,9496,9488,9484,9492,9532,9146,9147,9472,9148,9149,9500,9508,9524,9516,9474,8804,8805,960,8800,163,183]
def qt9 (set b:Int):Int:=if set=48/\95<=b/\b<=126 then qhu.getD (b-95).toNat 0 else b
namespace Sc
def putL (S:Sc) (r w:Int) (xs:List qO):List qO:=q0g (if S.mode 4 then qd7 xs S.c.Col w S.c.A else xs) S.c.Col r w S.c.A
def laid (S:Sc) (r w:Int) (wrap:Bool):Sc :=
 let S1:=(S.change (S.putL r w)).setCol (w64 (S.c.Col+w))
 if S1.c.Col>=(S.g.cols:Int) then { S1 with c:={ S1.c with Col:=w64 ((S.g.cols:Int)-1),Wrap:=wrap } } else S1
def next (S:Sc):Sc:=(S.to S.c.Row 0).index
def layX (S1:Sc) (wrap:Bool):Sc:=if S1.c.Wrap=true/\wrap=true then S1.next else S1
def layY (S2:Sc) (cols:Nat) (r w:Int) (wrap:Bool):Sc :=
 if w64 (S2.c.Col+w)>(cols:Int) then
  (if w>(cols:Int) then S2 else if wrap then S2.next.laid r w wrap else (S2.setCol (w64 ((cols:Int)-w))).laid r w wrap)
 else S2.laid r w wrap
def lay (S:Sc) (r:Int):Sc:=if VN r=0 then S else layY (layX { S with char:=r } (S.pmode 7)).dry S.g.cols r (VN r) (S.pmode 7)
def set2 (S:Sc) (i:Int):Int:=if i=0 then S.c.Sets.e0 else S.c.Sets.e1
def print (S:Sc) (r:Int):Sc:=if 0<=r/\r<128 then S.lay (qt9 (S.set2 S.c.Shift) r) else S.lay r
end Sc
def quk (p:List Int) (i:Nat) (none:Int):Int:=match p[i]? with
 | some v=>if v=0 then none else v
 | Option.none=>none
namespace Sc
end Sc
def k1:List qO:=[⟨0,0,⟨0,0,0⟩⟩,⟨19968,1,⟨0,0,0⟩⟩,⟨0,2,⟨0,0,0⟩⟩,⟨0,0,⟨0,0,0⟩⟩]
def k2:List qO:=[⟨0,0,⟨0,0,0⟩⟩,⟨0,0,⟨0,0,0⟩⟩,⟨120,0,⟨1,0,0⟩⟩,⟨0,0,⟨0,0,0⟩⟩]
theorem q8q (n:Int) (a:vC):Zq (Xv n a)=true:=by
 unfold Xv;split
 ·rfl
 ·have:=qwr (xs:=[]) rfl n.toNat a;simpa using this
def Plain (xs:List qO):Prop:=∀c∈xs,c.Kind=0
theorem q2c {xs:List qO} (h:Plain xs):Zq xs=true:=qc2.2 λk x hx=>by
 have h0:=h x (List.mem_of_getElem? hx);exact ⟨(Q7 hx).2 (.inl h0),λe=>by rw [h0] at e;cases e⟩
theorem qer {xs:List qO} (h:Plain xs):jj xs=xs:=zca (q2c h)
theorem qfg (n:Nat) (a:vC):Plain (List.replicate n (kf a)):=λc hc=>by rw [List.eq_of_mem_replicate hc];rfl
theorem Qd {xs ys:List qO} (h:Plain xs) (h':Plain ys):Plain (xs++ys):=λc hc=>by
 rcases mem_append.1 hc with h1 | h1
 ·exact h c h1
 ·exact h' c h1
theorem Y2 {xs:List qO} (h:Plain xs) (n:Nat):Plain (xs.take n):=λc hc=>h c (List.mem_of_mem_take hc)
theorem qlk {xs:List qO} (h:Plain xs) (n:Nat):Plain (xs.drop n):=λc hc=>h c (List.mem_of_mem_drop hc)
def a0:vC:=⟨0,0,0⟩
theorem q7e {xs:List qO} (h:Plain xs) {col k c:Int} {a:vC} (hc:qaf xs.length col k=c) (h0:c≠0) :
  qd7 xs col k a=xs.take col.toNat++List.replicate c.toNat (kf a)++(xs.take (xs.length-c.toNat)).drop col.toNat:=by
 unfold qd7;rw [hc];dsimp only;rw [if_neg h0,qer h];exact qer (Qd (Qd (Y2 h _) (qfg _ _)) (qlk (Y2 h _) _))
theorem zgr {xs:List qO} (h:Plain xs) {col n:Int} {a:vC} (hcol:0<=col) (hcl:col<xs.length) (hn:1<=n) :
  delL (qd7 xs col n a) col n a=xs.take (xs.length-(min n (xs.length-col)).toNat)++List.replicate (min n (xs.length-col)).toNat (kf a)/\(qd7 xs col n a).length=xs.length:=by
 have hm:qaf xs.length col n=min n (xs.length-col):=by rw [qaf,if_neg (by omega)]
 have e1:=q7e h (a:=a) hm (by omega);have hc0:1<=min n ((xs.length:Int)-col):=by omega
 have hc1:min n ((xs.length:Int)-col)<=xs.length-col:=by omega
 generalize min n ((xs.length:Int)-col)=c at *;have hlen:(qd7 xs col n a).length=xs.length:=by rw [e1];simp;omega
 refine ⟨?_,hlen⟩;have hp:Plain (qd7 xs col n a):=by
  rw [e1];exact Qd (Qd (Y2 h _) (qfg _ _)) (qlk (Y2 h _) _)
 have e2:delL (qd7 xs col n a) col n a=jj ((qd7 xs col n a).take col.toNat++(qd7 xs col n a).drop (col+c).toNat++List.replicate c.toNat (kf a)):=by
  unfold delL;rw [hlen,hm];dsimp only;rw [if_neg (by omega),qer hp]
 rw [e2,qer (Qd (Qd (Y2 hp _) (qlk hp _)) (qfg _ _))];congr 1;have hl1:(xs.take col.toNat).length=col.toNat:=by simp;omega
 have hl2:(xs.take col.toNat++List.replicate c.toNat (kf a)).length=(col+c).toNat:=by simp;omega
 have t1:(qd7 xs col n a).take col.toNat=xs.take col.toNat:=by
  rw [e1,List.append_assoc,List.take_append_of_le_length (by omega),List.take_of_length_le (by omega)]
 have t2:(qd7 xs col n a).drop (col+c).toNat=(xs.take (xs.length-c.toNat)).drop col.toNat:=by
  rw [e1,<-hl2,List.drop_left]
 rw [t1,t2];have:xs.take col.toNat=(xs.take (xs.length-c.toNat)).take col.toNat:=by rw [List.take_take,Nat.min_eq_left (by omega)]
 rw [this,List.take_append_drop]
theorem zdm {n:Nat} (h:n<=1000) (a:vC):Xv n a=List.replicate n (kf a):=by
 rw [Xv,if_neg (by omega)];simp
theorem qyb {most:Nat} {old:List (List qO)} {x:List qO} (h:old.length<=most):(qfq most old x).length<=most:=by
 unfold qfq;split
 ·exact h
 ·split
  ·simp;omega
  ·simp;omega
theorem qsf {most:Nat} (xs:List (List qO)):∀{old:List (List qO)},old.length<=most->(XN most old xs).length<=most:=by
 induction xs with
 | nil=>intro old h;exact h
 | cons x r ih=>intro old h;exact ih (qyb h)
theorem q0r {S:GS} {top past n:Int} {a:vC} (h:S.old.length<=S.most):(ku S top past n a).old.length<=S.most:=by
 unfold ku;split
 ·exact h
 ·split
  ·exact qsf _ h
  ·exact h
structure GOk (S:GS):Prop where
 len:S.L.length=S.rows
 rows:1<=S.rows/\S.rows<=1000
 cols:1<=S.cols/\S.cols<=1000
 L:∀xs∈S.L,Zq xs=true/\xs.length=S.cols/\okR xs
 old:∀xs∈S.old,xs.length<=1000/\okR xs
 olen:S.old.length<=S.most
 most:S.most<=16384
theorem q7v (xs:List qO) (n:Int):Zq (Zm xs n)=true:=by
 unfold Zm;dsimp only;split
 ·exact qs5 _
 ·exact qwr (qs5 _) _ _
theorem qxe {n:Nat} (h:n<=1000) (a:vC):Zq (Xv n a)=true/\(Xv n a).length=n/\okR (Xv n a):=by
 refine ⟨q8q _ _,q0k h a,?_⟩;rw [zdm h];exact ql5 _ _
theorem zbg {xs:List qO} {n:Nat} (h0:n<=1000) (h:okR xs):Zq (Zm xs n)=true/\(Zm xs n).length=n/\okR (Zm xs n):=by
 refine ⟨q7v _ _,?_,zcn h _⟩;rw [q2a];omega
theorem q72 {most:Nat} {old:List (List qO)} {x y:List qO} (h:y∈qfq most old x):y∈old\/y=x:=by
 unfold qfq at h;split at h
 ·exact .inl h
 ·split at h
  ·rcases mem_append.1 h with h | h
   ·exact .inl h
   ·exact .inr (mem_singleton.1 h)
  ·rcases mem_append.1 h with h | h
   ·exact .inl (List.mem_of_mem_tail h)
   ·exact .inr (mem_singleton.1 h)
theorem q19 {most:Nat} (xs:List (List qO)):∀{old:List (List qO)} {y:List qO},y∈XN most old xs->y∈old\/y∈xs:=by
 induction xs with
 | nil=>intro old y h;exact .inl h
 | cons x r ih =>
  intro old y h;rcases ih (old:=qfq most old x) h with h | h
  ·rcases q72 h with h | h
   ·exact .inl h
   ·exact .inr (by simp [h])
  ·exact .inr (by simp [h])
section
variable {S:GS}
theorem GOk.set (h:GOk S) (i:Nat) {xs:List qO} (hx:Zq xs=true/\xs.length=S.cols/\okR xs):GOk { S with L:=S.L.set i xs }:=by
 refine ⟨by show (S.L.set i xs).length=_;rw [List.length_set];exact h.len,h.rows,h.cols,λys hy=>?_,h.old,h.olen,h.most⟩;rcases List.mem_or_eq_of_mem_set hy with hy | hy
 ·exact h.L ys hy
 ·rw [hy];exact hx
theorem q0b {cols:Nat} {L:List (List qO)} {top past n:Int} {a:vC} {xs:List qO} (h:xs∈qe5 cols L top past n a):xs∈L\/xs=Xv cols a:=by
 unfold qe5 at h;dsimp only at h;split at h
 ·simp only [mem_append] at h;rcases h with ((h | h) | h) | h
  ·exact .inl (List.mem_of_mem_take h)
  ·exact .inl (List.mem_of_mem_take (List.mem_of_mem_drop h))
  ·exact .inr (List.eq_of_mem_replicate h)
  ·exact .inl (List.mem_of_mem_drop h)
 ·simp only [mem_append] at h;rcases h with ((h | h) | h) | h
  ·exact .inl (List.mem_of_mem_take h)
  ·exact .inr (List.eq_of_mem_replicate h)
  ·exact .inl (List.mem_of_mem_take (List.mem_of_mem_drop h))
  ·exact .inl (List.mem_of_mem_drop h)
theorem GOk.scroll (h:GOk S) (top past n:Int) (a:vC):GOk (ku S top past n a):=by
 obtain ⟨hl,hr,hc,hm⟩:=Y3 (top:=top) (past:=past) (n:=n) (a:=a) h.len;have hold:=q0r (top:=top) (past:=past) (n:=n) (a:=a) h.olen;refine ⟨by rw [hl,hr],by rw [hr];exact h.rows,by rw [hc];exact h.cols,λxs hx=>?_,λxs hx=>?_,by rw [hm];exact hold,by rw [hm];exact h.most⟩
 ·rw [hc];have:xs∈S.L\/xs=Xv S.cols a:=by
   unfold ku at hx;split at hx
   ·exact .inl hx
   ·split at hx<;>exact q0b hx
  rcases this with hx | rfl
  ·exact h.L xs hx
  ·exact qxe h.cols.2 a
 ·have:xs∈S.old\/xs∈S.L:=by
   unfold ku at hx;split at hx
   ·exact .inl hx
   ·split at hx
    ·rcases q19 _ hx with hx | hx
     ·exact .inl hx
     ·exact .inr (List.mem_of_mem_take hx)
    ·exact .inl hx
  rcases this with hx | hx
  ·exact h.old xs hx
  ·obtain ⟨_,h2,h3⟩:=h.L xs hx;exact ⟨by rw [h2];exact h.cols.2,h3⟩
theorem GOk.new {rows cols most:Nat} (hr:1<=rows/\rows<=1000) (hc:1<=cols/\cols<=1000) (hm:most<=16384):GOk (gs0 rows cols most):=by
 refine ⟨by simp [gs0],hr,hc,λxs hx=>?_,(λxs hx=>by cases hx),zero_le _,hm⟩;rw [List.eq_of_mem_replicate hx];exact qxe hc.2 _
end
theorem GridM.ty {w:World} {base:Nat} {f:Foot} {S:GS} (h:GridM w base f S):∀k,xi f k->∃t cs,Blk w k t cs/\(t=vz\/t=qR\/t=zi):=by
 obtain ⟨ls,ho,hl⟩:=h.row;obtain ⟨at_,gone,ls',xss,hb,ho',hl',hbr,e,hm,ha⟩:=h.ring;rintro k (rfl | rfl | hk | hk)
 ·exact ⟨_,_,h.blk,.inl rfl⟩
 ·exact ⟨_,_,hb,.inr (.inl rfl)⟩
 ·obtain ⟨cs,hcs⟩:=ho.blk_t hk;exact ⟨_,_,hcs,.inr (.inr rfl)⟩
 ·obtain ⟨cs,hcs⟩:=ho'.blk_t hk;exact ⟨_,_,hcs,.inr (.inr rfl)⟩
set_option maxRecDepth 400000
def qya:Bool->Value:=λb=>.bool b
structure ScF where
 f0:Foot
 f1:Foot
 tg:Nat
 tr:Nat
 mm:Nat
 mp:Nat
 ar:Slc
def ScF.f (F:ScF) (alt:Bool):Foot:=if alt then F.f1 else F.f0
def ScF.put (F:ScF) (alt:Bool) (f:Foot):ScF:=if alt then { F with f1:=f } else { F with f0:=f }
def scX (F:ScF) (S:Sc):qy:=⟨⟨some ⟨F.f0.g,0,none⟩,some ⟨F.f1.g,0,none⟩⟩,if S.alt then 1 else 0,S.c,⟨S.s0,S.s1⟩,some F.mm,some F.mp,S.top,S.past,some ⟨F.tg,0,none⟩,S.char,F.ar⟩
def scS (g:Nat) (F:ScF) (k:Nat):Prop:=k=g\/xi F.f0 k\/xi F.f1 k\/k=F.tg\/k=F.tr\/k=F.mm\/k=F.mp\/F.ar.blk=some k
structure ScOk (S:Sc):Prop where
 g0:GOk S.g0
 g1:GOk S.g1
 rows:S.g1.rows=S.g0.rows
 cols:S.g1.cols=S.g0.cols
 row:0<=S.c.Row/\S.c.Row<(S.g0.rows:Int)
 col:0<=S.c.Col/\S.c.Col<(S.g0.cols:Int)
 shift:S.c.Shift=0\/S.c.Shift=1
 sh0:S.s0.c.Shift=0\/S.s0.c.Shift=1
 sh1:S.s1.c.Shift=0\/S.s1.c.Shift=1
 top:0<=S.top/\S.top<S.past/\S.past<=(S.g0.rows:Int)
 marg:2<=S.g0.rows->S.top+2<=S.past
 stops:S.stops.length=S.g0.cols
structure ScM (w:World) (base g:Nat) (F:ScF) (S:Sc):Prop where
 blk:Blk w g zq (qy.rep.cells (scX F S))
 hg:base<=g
 g0:GridM w base F.f0 S.g0
 g1:GridM w base F.f1 S.g1
 st:StopsM w F.tg F.tr S.stops
 hst:base<=F.tg/\base<=F.tr
 mo:zG qya w F.mm S.modes
 pr:zG qya w F.mp S.priv
 hm:base<=F.mm/\base<=F.mp
 dm:F.mm≠F.mp/\F.tr≠F.mm/\F.tr≠F.mp
 ar:Go.Vc.Own qkw w base F.ar S.areas
 dg:∀k,xi F.f0 k->¬xi F.f1 k
 ok:ScOk S
section
variable {w w':World} {base g:Nat} {F:ScF} {S S':Sc}
theorem qr1 {f:Foot} {G:GS} (h:GridM w base f G) {k:Nat} (hk:xi f k) {t:TypeId} {cs:List Value} (hb:Blk w k t cs):t=vz\/t=qR\/t=zi:=by
 obtain ⟨t',cs',hb',ht⟩:=h.ty k hk;by_cases e:t=t'
 ·rw [e];exact ht
 ·exact absurd rfl (hb.ne_t hb' e)
theorem XG {V:Type} {enc:V->Value} {r:Nat} {L:List (Int×V)} (h:zG enc w r L) {k:Nat} {t:TypeId} {cs:List Value} (hb:Blk w k t cs):k≠r:=λe=>h.ne_blk hb e.symm
theorem ScM.of_g (h:ScM w base g F S):∀k,(xi F.f0 k\/xi F.f1 k\/k=F.tg\/k=F.tr\/k=F.mm\/k=F.mp\/F.ar.blk=some k)->k≠g:=by
 rintro k (hk | hk | rfl | rfl | rfl | rfl | hk) rfl
 ·have:=qr1 h.g0 hk h.blk;revert this;decide
 ·have:=qr1 h.g1 hk h.blk;revert this;decide
 ·exact h.blk.ne_t h.st.blk (by decide) rfl
 ·exact XG h.st.map h.blk rfl
 ·exact XG h.mo h.blk rfl
 ·exact XG h.pr h.blk rfl
 ·obtain ⟨cs,hcs⟩:=h.ar.blk_t hk;exact h.blk.ne_t hcs (by decide) rfl
theorem ScM.gridF (h:ScM w base g F S) (alt:Bool):∃G,GridM w base (F.f alt) G:=by
 cases alt
 ·exact ⟨_,h.g0⟩
 ·exact ⟨_,h.g1⟩
theorem ScM.of_grid (h:ScM w base g F S) (alt:Bool):∀k,xi (F.f alt) k->k≠g/\¬xi (F.f (!alt)) k/\k≠F.tg/\k≠F.tr/\k≠F.mm/\k≠F.mp/\F.ar.blk≠some k:=by
 intro k hk;obtain ⟨G,hG⟩:=h.gridF alt;obtain ⟨t,cs,hb,ht⟩:=hG.ty k hk;refine ⟨h.of_g k (by cases alt;exact .inl hk;exact .inr (.inl hk)),?_,?_,XG h.st.map hb,XG h.mo hb,XG h.pr hb,?_⟩
 ·cases alt
  ·exact h.dg k hk
  ·exact λhk'=>h.dg k hk' hk
 ·rintro rfl;exact hb.ne_t h.st.blk (by rcases ht with rfl | rfl | rfl<;>decide) rfl
 ·intro e;obtain ⟨cs',hcs⟩:=h.ar.blk_t e;exact hb.ne_t hcs (by rcases ht with rfl | rfl | rfl<;>decide) rfl
theorem ScM.notC (h:ScM w base g F S):∀k cs,scS g F k->¬Blk w k qT cs:=by
 rintro k cs (rfl | hk | hk | rfl | rfl | rfl | rfl | hk) hb
 ·exact h.blk.ne_t hb (by decide) rfl
 ·exact h.g0.notC k cs hk hb
 ·exact h.g1.notC k cs hk hb
 ·exact h.st.blk.ne_t hb (by decide) rfl
 ·exact XG h.st.map hb rfl
 ·exact XG h.mo hb rfl
 ·exact XG h.pr hb rfl
 ·obtain ⟨cs',hcs⟩:=h.ar.blk_t hk;exact hcs.ne_t hb (by decide) rfl
theorem ScM.keep {T:Nat->Prop} (h:ScM w base g F S) (hc:Chg T w w') (hT:∀k,scS g F k->¬T k) (hC:∀k cs,T k->¬Blk w k qT cs):ScM w' base g F S :=
 ⟨h.blk.chg hc (hT _ (.inl rfl)),h.hg,h.g0.chg hc (λk hk=>hT k (.inr (.inl hk))) hC,h.g1.chg hc (λk hk=>hT k (.inr (.inr (.inl hk)))) hC,
  h.st.keep hc (hT _ (.inr (.inr (.inr (.inl rfl))))) (hT _ (.inr (.inr (.inr (.inr (.inl rfl)))))),h.hst,h.mo.chg hc (hT _ (.inr (.inr (.inr (.inr (.inr (.inl rfl))))))),
  h.pr.chg hc (hT _ (.inr (.inr (.inr (.inr (.inr (.inr (.inl rfl)))))))),h.hm,h.dm,h.ar.chg hc λk hk=>hT k (.inr (.inr (.inr (.inr (.inr (.inr (.inr hk))))))),h.dg,h.ok⟩
theorem ScM.ext (h:ScM w base g F S) (hB:Uc w w'):ScM w' base g F S:=h.keep (Chg.of_ext (S:=λ_=>False) hB) (λ_ _ h=>h) λ_ _ h=>h.elim
theorem ScM.drew (h:ScM w base g F S):ScM w.drew base g F S:=h.ext ((Below.refl _ w).drew)
theorem ScM.below (h:ScM w base g F S):∀k,scS g F k->base<=k/\k<w.heap.size:=by
 rintro k (rfl | hk | hk | rfl | rfl | rfl | rfl | hk)
 ·exact ⟨h.hg,h.blk.lt⟩
 ·exact h.g0.below k hk
 ·exact h.g1.below k hk
 ·exact ⟨h.hst.1,h.st.blk.lt⟩
 ·exact ⟨h.hst.2,h.st.map.lt⟩
 ·exact ⟨h.hm.1,h.mo.lt⟩
 ·exact ⟨h.hm.2,h.pr.lt⟩
 ·exact h.ar.lt k hk
theorem ScM.struct (h:ScM w base g F S) (hc:Chg (λk=>k=g) w w') (hb:Blk w' g zq (qy.rep.cells (scX F S'))) (e0:S'.g0=S.g0) (e1:S'.g1=S.g1) (es:S'.stops=S.stops) (em:S'.modes=S.modes) (ep:S'.priv=S.priv) (ea:S'.areas=S.areas) (ok:ScOk S'):ScM w' base g F S':=by
 have hC:∀k cs,k=g->¬Blk w k qT cs:=λk cs hk hcs=>h.notC k cs (.inl hk) hcs;refine ⟨hb,h.hg,?_,?_,?_,h.hst,?_,?_,h.hm,h.dm,?_,h.dg,ok⟩
 ·rw [e0];exact h.g0.chg hc (λk hk=>h.of_g k (.inl hk)) hC
 ·rw [e1];exact h.g1.chg hc (λk hk=>h.of_g k (.inr (.inl hk))) hC
 ·rw [es];exact h.st.keep hc (h.of_g _ (.inr (.inr (.inl rfl)))) (h.of_g _ (.inr (.inr (.inr (.inl rfl)))))
 ·rw [em];exact h.mo.chg hc (h.of_g _ (.inr (.inr (.inr (.inr (.inl rfl))))))
 ·rw [ep];exact h.pr.chg hc (h.of_g _ (.inr (.inr (.inr (.inr (.inr (.inl rfl)))))))
 ·rw [ea];exact h.ar.chg hc λk hk=>h.of_g k (.inr (.inr (.inr (.inr (.inr (.inr hk))))))
theorem ScM.grid (h:ScM w base g F S) {f':Foot} {G':GS} (hg:GridM w' base f' G') (hto:(F.f S.alt).to f' w.heap.size) (hc:Chg (xi (F.f S.alt)) w w') (ok:ScOk (S.withG G')):ScM w' base g (F.put S.alt f') (S.withG G'):=by
 have hC:∀k cs,xi (F.f S.alt) k->¬Blk w k qT cs:=λk cs hk hcs=>h.notC k cs (by cases hS:S.alt<;>rw [hS] at hk;exact .inr (.inl hk);exact .inr (.inr (.inl hk))) hcs;have hp:=h.of_grid S.alt;have hstep:∀k,xi f' k->xi (F.f S.alt) k\/w.heap.size<=k:=hto.old;have hgf:=hto.g;have hblk:=h.blk.chg hc λe=>(hp g e).1 rfl;have hst:=h.st.keep hc (λe=>(hp _ e).2.2.1 rfl) (λe=>(hp _ e).2.2.2.1 rfl);have hmo:=h.mo.chg hc (λe=>(hp _ e).2.2.2.2.1 rfl);have hpr:=h.pr.chg hc (λe=>(hp _ e).2.2.2.2.2.1 rfl);have har:=h.ar.chg hc λk hk e=>(hp k e).2.2.2.2.2.2 hk;cases hS:S.alt
 ·rw [hS] at hp hstep hgf hc hC;have e1:S.withG G'={ S with g0:=G' }:=by unfold Sc.withG;rw [hS];rfl
  rw [e1] at ok ⊢;refine ⟨?_,h.hg,hg,h.g1.chg hc (λk hk e=>(hp k e).2.1 hk) hC,hst,h.hst,hmo,hpr,h.hm,h.dm,har,λk hk hk'=>?_,ok⟩
  ·have e2:scX (F.put false f') { S with g0:=G' }=scX F S:=by
    unfold scX ScF.put;dsimp only;rw [if_neg (by decide)];dsimp only;rw [hgf];rfl
   rw [e2];exact hblk
  ·rcases hstep k hk with h2 | h2
   ·exact h.dg k h2 hk'
   ·have:=(h.g1.below k hk').2;omega
 ·rw [hS] at hp hstep hgf hc hC;have e1:S.withG G'={ S with g1:=G' }:=by unfold Sc.withG;rw [hS];rfl
  rw [e1] at ok ⊢;refine ⟨?_,h.hg,h.g0.chg hc (λk hk e=>(hp k e).2.1 hk) hC,hg,hst,h.hst,hmo,hpr,h.hm,h.dm,har,λk hk hk'=>?_,ok⟩
  ·have e2:scX (F.put true f') { S with g1:=G' }=scX F S:=by
    unfold scX ScF.put;dsimp only;rw [if_pos rfl];dsimp only;rw [hgf];rfl
   rw [e2];exact hblk
  ·rcases hstep k hk' with h2 | h2
   ·exact h.dg k hk h2
   ·have:=(h.g0.below k hk).2;omega
structure ScT (base g:Nat) (w:World) (F F':ScF) (S':Sc) (w':World):Prop where
 m:ScM w' base g F' S'
 old:∀k,scS g F' k->scS g F k\/w.heap.size<=k
 chg:Chg (scS g F) w w'
theorem ScT.refl (h:ScM w base g F S):ScT base g w F F S w:=⟨h,λk hk=>.inl hk,Chg.refl _ _⟩
theorem ScT.trans {w1 w2:World} {F1 F2:ScF} {S1 S2:Sc} (h:ScT base g w F F1 S1 w1) (h2:ScT base g w1 F1 F2 S2 w2):ScT base g w F F2 S2 w2:=by
 have hs:=h.chg.size;refine ⟨h2.m,λk hk=>?_,h.chg.trans h2.chg λi hi hk=>?_⟩
 ·rcases h2.old k hk with h3 | h3
  ·exact h.old k h3
  ·exact .inr (by omega)
 ·rcases h.old i hk with h3 | h3
  ·exact h3
  ·omega
theorem ScT.ext {w1 w2:World} {F1:ScF} {S1:Sc} (h:ScT base g w F F1 S1 w1) (hB:Uc w1 w2):ScT base g w F F1 S1 w2 :=
 h.trans ⟨h.m.ext hB,λk hk=>.inl hk,Chg.of_ext hB⟩
theorem ScT.of_ext (h:ScM w base g F S) (hB:Uc w w'):ScT base g w F F S w':=(ScT.refl h).ext hB
theorem ScT.drew {F1:ScF} {S1:Sc} (h:ScT base g w F F1 S1 w'):ScT base g w F F1 S1 w'.drew:=h.ext ((Below.refl _ w').drew)
theorem ScT.mk_struct (h:ScM w base g F S) (hc:Chg (λk=>k=g) w w') (hb:Blk w' g zq (qy.rep.cells (scX F S'))) (e0:S'.g0=S.g0) (e1:S'.g1=S.g1) (es:S'.stops=S.stops) (em:S'.modes=S.modes) (ep:S'.priv=S.priv) (ea:S'.areas=S.areas) (ok:ScOk S'):ScT base g w F F S' w' :=
 ⟨h.struct hc hb e0 e1 es em ep ea ok,λk hk=>.inl hk,hc.mono λi hi e=>.inl e⟩
theorem ScT.mk_grid (h:ScM w base g F S) {f':Foot} {G':GS} (hg:GridM w' base f' G') (hto:(F.f S.alt).to f' w.heap.size) (hc:Chg (xi (F.f S.alt)) w w') (ok:ScOk (S.withG G')):ScT base g w F (F.put S.alt f') (S.withG G') w':=by
 refine ⟨h.grid hg hto hc ok,λk hk=>?_,hc.mono λi hi e=>?_⟩
 ·have hstep:=hto.old;revert hk hstep;unfold ScF.put ScF.f;cases S.alt
  ·rintro (rfl | hk | hk | hk) hstep
   ·exact .inl (.inl rfl)
   ·rcases hstep k hk with h2 | h2
    ·exact .inl (.inr (.inl h2))
    ·exact .inr h2
   ·exact .inl (.inr (.inr (.inl hk)))
   ·exact .inl (.inr (.inr (.inr hk)))
  ·rintro (rfl | hk | hk | hk) hstep
   ·exact .inl (.inl rfl)
   ·exact .inl (.inr (.inl hk))
   ·rcases hstep k hk with h2 | h2
    ·exact .inl (.inr (.inr (.inl h2)))
    ·exact .inr h2
   ·exact .inl (.inr (.inr (.inr hk)))
 ·revert e;unfold ScF.f;cases S.alt
  ·exact λe=>.inr (.inl e)
  ·exact λe=>.inr (.inr (.inl e))
theorem ScM.gOk (h:ScM w base g F S):GOk S.g:=by
 unfold Sc.g;cases S.alt
 ·exact h.ok.g0
 ·exact h.ok.g1
theorem ScM.gM (h:ScM w base g F S):GridM w base (F.f S.alt) S.g:=by
 unfold Sc.g ScF.f;cases S.alt
 ·exact h.g0
 ·exact h.g1
theorem ScOk.grows (h:ScOk S):S.g.rows=S.g0.rows/\S.g.cols=S.g0.cols:=by
 unfold Sc.g;cases S.alt
 ·exact ⟨rfl,rfl⟩
 ·exact ⟨h.rows,h.cols⟩
theorem ScOk.gOk (h:ScOk S):GOk S.g:=by
 unfold Sc.g;cases S.alt
 ·exact h.g0
 ·exact h.g1
end
theorem zk (w:World):Uc w w.drew:=(Below.refl _ w).drew
theorem zm {w w1 w2:World} (h:Uc w w1) (h2:Uc w1 w2):Uc w w2:=h.trans (h2.mono h.size)
theorem q3q {zs vs:List Value} (hl:vs.length=zs.length):putL zs 0 vs=vs:=by
 refine List.ext_getElem? λm=>?_;rw [Kk vs zs 0 m (by omega)];by_cases hm:m<vs.length
 ·rw [if_pos (by omega)];rfl
 ·rw [if_neg (by omega),List.getElem?_eq_none (by omega),List.getElem?_eq_none (by omega)]
theorem qcc {g:Nat} {t:TypeId} {vs us:List Value} {w:World} {K:Ub} (h:Blk w g t vs) (hl:us.length=vs.length) (hK:∀w',Blk w' g t us->Chg (λk=>k=g) w w'->w'.heap.size=w.heap.size->K w'):stK ⟨g,0,none⟩ us w K :=
 qz h (by omega) λw' hb hg hs=>hK w' (by rw [q3q hl] at hb;exact hb) (Chg.gg hg) hs
theorem q1h {r:Rep} {g:Nat} {t:TypeId} {vs us:List Value} {x:r.T} {w:World} {K:r.T->Ub} (h:Blk w g t vs) (hus:r.cells x=us) (hl:us.length=vs.length) (hK:∀w',Chg (λk=>k=g) w w'->w'.heap.size=w.heap.size->K x w') :
  stK ⟨g,0,none⟩ us w λw'=>ldS r ⟨g,0,none⟩ w' λy=>K y w' :=
 qcc h hl λw' hb hc hs=>qw (x:=x) (by rw [hus];exact hb.cells) (hK w' hc hs)
theorem xc {w w1 w2:World} {g:Nat} (h:Uc w w1) (hc:Chg (λk=>k=g) w1 w2) (hg:w.heap.size<=g):Uc w w2 :=
 h.trans (hc.below h.size λi hi e=>by omega)
theorem q5u {v lo hi:Int} (h:lo<=hi):lo<=qzt v lo hi/\qzt v lo hi<=hi:=by
 unfold qzt;split<;>split at *<;>omega
theorem qut {x:Int} (h:-9223372036854775808<=x/\x<=9223372036854775807):w64 x=x:=qP h
section
variable {S:Sc}
theorem ScOk.cur (h:ScOk S) {c:Cur} (hr:0<=c.Row/\c.Row<(S.g.rows:Int)) (hc:0<=c.Col/\c.Col<(S.g.cols:Int)) (hs:c.Shift=0\/c.Shift=1):ScOk { S with c:=c }:=by
 obtain ⟨e1,e2⟩:=h.grows;rw [e1] at hr;rw [e2] at hc;exact ⟨h.g0,h.g1,h.rows,h.cols,hr,hc,hs,h.sh0,h.sh1,h.top,h.marg,h.stops⟩
theorem ScOk.rowg (h:ScOk S):0<=S.c.Row/\S.c.Row<(S.g.rows:Int):=by rw [h.grows.1];exact h.row
theorem ScOk.colg (h:ScOk S):0<=S.c.Col/\S.c.Col<(S.g.cols:Int):=by rw [h.grows.2];exact h.col
theorem ScOk.bnd (h:ScOk S):1<=S.g.rows/\S.g.rows<=1000/\1<=S.g.cols/\S.g.cols<=1000:=⟨h.gOk.rows.1,h.gOk.rows.2,h.gOk.cols.1,h.gOk.cols.2⟩
theorem ScOk.to (h:ScOk S) (row col:Int):ScOk (S.to row col):=by
 have hb:=h.bnd;have e1:w64 ((S.g.rows:Int)-1)=(S.g.rows:Int)-1:=qut (by omega);have e2:w64 ((S.g.cols:Int)-1)=(S.g.cols:Int)-1:=qut (by omega);have h1:=q5u (v:=row) (lo:=0) (hi:=(S.g.rows:Int)-1) (by omega);have h2:=q5u (v:=col) (lo:=0) (hi:=(S.g.cols:Int)-1) (by omega);unfold Sc.to;rw [e1,e2];exact h.cur (by show 0<=qzt _ _ _/\_;dsimp only;omega) (by show 0<=qzt _ _ _/\_;dsimp only;omega) h.shift
theorem ScOk.dry (h:ScOk S):ScOk S.dry:=h.cur h.rowg h.colg h.shift
theorem ScOk.withG (h:ScOk S) {G:GS} (hG:GOk G) (hr:G.rows=S.g.rows) (hc:G.cols=S.g.cols):ScOk (S.withG G):=by
 obtain ⟨e1,e2⟩:=h.grows;unfold Sc.withG;split
 ·exact ⟨h.g0,hG,hr.trans e1,hc.trans e2,h.row,h.col,h.shift,h.sh0,h.sh1,h.top,h.marg,h.stops⟩
 ·have hr':=hr.trans e1;have hc':=hc.trans e2;refine ⟨hG,h.g1,by show S.g1.rows=G.rows;rw [hr',h.rows],by show S.g1.cols=G.cols;rw [hc',h.cols],?_,?_,h.shift,h.sh0,h.sh1,?_,?_,?_⟩
  ·show 0<=S.c.Row/\S.c.Row<(G.rows:Int);rw [hr'];exact h.row
  ·show 0<=S.c.Col/\S.c.Col<(G.cols:Int);rw [hc'];exact h.col
  ·show 0<=S.top/\S.top<S.past/\S.past<=(G.rows:Int);rw [hr'];exact h.top
  ·show 2<=G.rows->_;rw [hr'];exact h.marg
  ·show S.stops.length=G.cols;rw [hc'];exact h.stops
theorem ScOk.scroll (h:ScOk S) (top past n:Int):ScOk (S.scroll top past n):=by
 have hl:=Y3 (top:=top) (past:=past) (n:=n) (a:=S.blank) h.gOk.len;exact h.withG (h.gOk.scroll top past n S.blank) hl.2.1 hl.2.2.1
theorem q5g (S:Sc) (G:GS):(S.withG G).g=G:=by
 unfold Sc.withG Sc.g;cases h:S.alt<;>simp
theorem q5v (S:Sc) (G:GS):(S.withG G).c=S.c:=by unfold Sc.withG;split<;>rfl
end
section
variable {w:World} {base g:Nat} {F:ScF} {S:Sc}
theorem q1v {v lo hi:Int} {K:Int->Ub} (hK:K (qzt v lo hi) w):VC v lo hi w K:=by
 refine qq5 _ _ _ ?_;exact hK
theorem kn {v lo hi:Int} {K:Bool->Ub} (hK:K (decide (lo<=v/\v<=hi)) w):zS v lo hi w K:=by
 refine qka _ _ _ ?_;refine cO (λe=>?_) λe=>?_
 ·have e:=oTq e;rw [show decide (lo<=v/\v<=hi)=decide (v<=hi) by simp;intro _;exact e] at hK;exact hK
 ·have e:=oFq e;rw [show decide (lo<=v/\v<=hi)=false by simp;omega] at hK;exact hK
theorem qn1 {K:Option Addr->Ub} (h:ScM w base g F S) (hK:K (some ⟨(F.f S.alt).g,0,none⟩) w.drew):zV (some ⟨g,0,none⟩) w K:=by
 refine KD _ ?_;simp only [onPtr_some];have hb:=h.drew.blk;refine lI (x:=if S.alt then 1 else 0) (hb.cells 2 _ rfl) ?_;revert hK;have hx:(scX F S).grids=⟨some ⟨F.f0.g,0,none⟩,some ⟨F.f1.g,0,none⟩⟩:=rfl;cases hS:S.alt
 ·intro hK;exact ⟨⟨by decide,by decide⟩,qM (x:=some ⟨F.f0.g,0,none⟩) (hb.cells 0 _ rfl) hK⟩
 ·intro hK;exact ⟨⟨by decide,by decide⟩,qM (x:=some ⟨F.f1.g,0,none⟩) (hb.cells 1 _ rfl) hK⟩
theorem qlg {K:Int->Int->Ub} (h:ScM w base g F S) (hK:K S.g.rows S.g.cols w.drew.drew):zZ (some ⟨g,0,none⟩) w K:=by
 refine Zz _ ?_;exact qn1 h (qtf h.drew.gM hK)
theorem q44 {K:vC->Ub} (h:ScM w base g F S) (hK:∀w',Uc w w'->K S.blank w'):jS (some ⟨g,0,none⟩) w K:=by
 refine qa6 _ ?_;simp only [onPtr_some];refine nwb λw1 h1 hB1 hs1=>?_;refine lI (x:=S.c.A.Bg) ((h.ext hB1).blk.cells 7 _ rfl) ?_;refine qcc h1 rfl λw2 h2 hc2 hs2=>?_;exact qw (r:=qu.rep) (x:=S.blank) h2.cells (hK w2 (xc hB1 hc2 (le_refl _)))
theorem qr3 {row col:Int} {K:Ub} (h:ScM w base g F S) (hK:∀w',ScT base g w F F (S.to row col) w'->K w'):jW (some ⟨g,0,none⟩) row col w K:=by
 refine qgq _ _ _ ?_;refine qlg h (q1v (q1v ?_));simp only [onPtr_some];have hT:=(ScT.refl h).drew.drew;rw [qB,qB];refine qz hT.m.blk (by simp [qy.rep]) λw4 hb4 hg4 hs4=>?_;rw [qB];refine qz hb4 (by simp [qy.rep,putL]) λw5 hb5 hg5 hs5=>?_;rw [qB];refine qz hb5 (by simp [qy.rep,putL]) λw6 hb6 hg6 hs6=>?_;have hc:Chg (λk=>k=g) w.drew.drew w6:=((Chg.gg hg4).trans (Chg.gg hg5) λi _ hi=>hi).trans (Chg.gg hg6) λi _ hi=>hi;exact hK w6 (hT.trans (ScT.mk_struct hT.m hc (S':=S.to row col) hb6 rfl rfl rfl rfl rfl rfl (h.ok.to row col)))
end
section
variable {w:World} {base g:Nat} {F:ScF} {S:Sc}
theorem ScM.base_le (h:ScM w base g F S):base<=w.heap.size:=by
 have:=h.below g (.inl rfl);omega
theorem q1b {top past n:Int} {K:Int->Ub} (h:ScM w base g F S) (hn:-9223372036854775808<=n/\n<=9223372036854775807) (hK:∀v F' w',ScT base g w F F' (S.scroll top past n) w'->K v w'):jX (some ⟨(F.f S.alt).g,0,none⟩) top past n S.blank w K:=by
 have hG:=h.gOk;refine qx3 h.gM hG.len hG.rows.2 (by have:=hG.most;omega) h.base_le hn λf' w' hg hto hc=>?_;exact hK _ _ w' (ScT.mk_grid h hg hto hc (h.ok.scroll top past n))
theorem zdq {n top past:Int} {K:Int->Ub} (h:ScM w base g F S) (ht:top=S.top) (hp:past=S.past) (hn:-9223372036854775808<=n/\n<=9223372036854775807) (hK:∀v F' w',ScT base g w F F' (S.scroll S.top S.past n) w'->K v w') :
  zV (some ⟨g,0,none⟩) w λt18 w2=>w2.cell? ((⟨g,0,none⟩:Addr).add 38)=some (Ua past)/\w2.cell? ((⟨g,0,none⟩:Addr).add 37)=some (Ua top) /\
   jS (some ⟨g,0,none⟩) w2 λt28 w3=>w3.cell? ((⟨g,0,none⟩:Addr).add 38)=some (Ua past)/\w3.cell? ((⟨g,0,none⟩:Addr).add 37)=some (Ua top) /\
    jX t18 top past n t28 w3 K:=by
 subst ht hp;refine qn1 h ⟨h.drew.blk.cells 38 _ rfl,h.drew.blk.cells 37 _ rfl,?_⟩;refine q44 h.drew λw3 hB3=>?_;have h3:=h.drew.ext hB3;refine ⟨h3.blk.cells 38 _ rfl,h3.blk.cells 37 _ rfl,?_⟩;refine q1b h3 hn λv F' w' hT=>hK v F' w' ?_;exact ((ScT.refl h).drew.ext hB3).trans hT
theorem ScT.dry (h:ScM w base g F S) {w':World} (hb:Blk w' g zq (putL (qy.rep.cells (scX F S)) 5 [.bool false])) (hg:w.grownBy w' (some g)):ScT base g w F F S.dry w' :=
 ScT.mk_struct h (Chg.gg hg) hb rfl rfl rfl rfl rfl rfl h.ok.dry
theorem qmi {K:Ub} (h:ScM w base g F S) (hK:∀F' w',ScT base g w F F' S.index w'->K w'):jU (some ⟨g,0,none⟩) w K:=by
 refine qbu _ ?_;simp only [onPtr_some];rw [qB,qB];refine qz h.blk (by simp [qy.rep]) λw1 hb1 hg1 hs1=>?_;have hT1:ScT base g w F F S.dry w1:=ScT.dry h hb1 hg1;have hd:=hT1.drew;refine lI (x:=S.c.Row) (hd.m.blk.cells 3 _ rfl) (lI (x:=S.past) (hd.m.blk.cells 38 _ rfl) ?_);have hdd:=hd.drew;unfold Sc.index at hK;refine cO (λe=>?_) λe=>?_
 ·have e:S.c.Row=w64 (S.past-1):=eq_of_beq e;rw [if_pos e] at hK;refine lI (x:=S.top) (hdd.m.blk.cells 37 _ rfl) (lI (x:=S.past) (hdd.m.blk.cells 38 _ rfl) ?_);exact zdq hdd.m rfl rfl (by decide) λv F' w' hT=>hK F' w' (hdd.trans hT)
 ·have e:¬S.c.Row=w64 (S.past-1):=beq_eq_false_iff_ne.1 e;rw [if_neg e] at hK;refine lI (x:=S.c.Row) (hdd.m.blk.cells 3 _ rfl) (lI (x:=S.c.Col) (hdd.m.blk.cells 4 _ rfl) ?_);exact qr3 hdd.m λw' hT=>hK F w' (hdd.trans hT)
theorem q4m {K:Cur->Ub} (hK:∀w',Uc w w'->K qbr w'):YA w K:=by
 refine qnz ?_;unfold qfz;refine nwb λw1 h1 hB1 hs1=>?_;exact q1h (r:=qK.rep) (x:=qbr) h1 rfl rfl λw2 hc2 hs2=>hK w2 (xc hB1 hc2 (le_refl _))
theorem qwv {S:Sc} (h:ScM w base g F S):qx w ((⟨g,0,none⟩:Addr).add 3) (qK.rep.cells S.c):=by
 rw [qB];intro j v hj;have:(qy.rep.cells (scX F S))[3+j]?=some v:=by
  match j,hj with
  | 0,hj=>exact hj
  | 1,hj=>exact hj
  | 2,hj=>exact hj
  | 3,hj=>exact hj
  | 4,hj=>exact hj
  | 5,hj=>exact hj
  | 6,hj=>exact hj
  | 7,hj=>exact hj
  | 8,hj=>exact hj
  | 9,hj=>exact hj
  | j+10,hj=>cases hj
 have h2:=h.blk.cells (3+j) v this;rw [qB] at h2 ⊢;rw [show 0+3+j=0+(3+j) by omega];exact h2
theorem qzo {K:Cur->Ub} (h:ScM w base g F S) (hK:∀w',Uc w w'->K S.c w'):vp (some ⟨g,0,none⟩) w K:=by
 refine YJ _ ?_;simp only [onPtr_some];refine nwb λw1 h1 hB1 hs1=>?_;refine qw (r:=qK.rep) (x:=S.c) (qwv (h.ext hB1)) ?_;exact q1h (r:=qK.rep) (x:=S.c) h1 rfl rfl λw2 hc2 hs2=>hK w2 (xc hB1 hc2 (le_refl _))
theorem qzm {K:Bool->Ub} (h:ScM w base g F S) (hK:K S.alt w):kM (some ⟨g,0,none⟩) w K:=by
 refine qeg _ ?_;simp only [onPtr_some];refine lI (x:=if S.alt then 1 else 0) (h.blk.cells 2 _ rfl) ?_;cases hS:S.alt<;>rw [hS] at hK<;>exact hK
end
def q03:El jV where
 cells:=jV.rep.cells
 t:=YY
 k:=2
 pos:=by decide
 len _:=rfl
 one x v hv:=by
  simp only [jV.rep,List.mem_cons,List.mem_nil_iff,or_false] at hv;rcases hv with rfl | rfl<;>rfl
def zd2:El Int where
 cells x:=[.int .i32 x]
 t:=vJ
 k:=1
 pos:=by decide
 len _:=rfl
 one x v hv:=by
  simp only [List.mem_cons,List.mem_nil_iff,or_false] at hv;rcases hv with rfl
  rfl
def qk4 (l:List (Int×Int)):List jV:=l.map λp=>⟨p.1,p.2⟩
def inS (r:Int) (p:jV):Bool:=decide (p.lo<=r) && decide (r<=p.hi)
theorem qwe (r:Int) (l:List (Int×Int)):(qk4 l).any (inS r)=inW r l:=by
 unfold qk4 inW;rw [List.any_map];rfl
section
variable {w:World}
theorem q5d {r:Int} {l:Slc} {xs:List jV} {K:Bool->Ub} (hl:Rd q03 w l xs) (hxs:xs.length<=1000) (hK:∀w',Uc w w'->K (xs.any (inS r)) w'):qnc r l w K:=by
 refine qzn _ _ ?_;refine lpR (λ(st:Int×Unit) w1=>∃k:Nat,st.1=(k:Int)/\k<=xs.length/\(xs.take k).any (inS r)=false/\Uc w w1) (λst=>xs.length-st.1.toNat) ⟨0,rfl,zero_le _,rfl,Below.refl _ _⟩ ?_;rintro ⟨i,u⟩ w1 ⟨k,hi,hk,hno,hB1⟩ I hI;dsimp only at hi ⊢;subst hi;rw [hl.n];refine cO (λe=>?_) λe=>?_
 ·have e:=oTq e;have hkl:k<xs.length:=by omega
  have hl1:=hl.ext hB1;have hm:=hl1.cm;have hn:=hl1.n;have hnc:=hl1.nc;have hx:xs[k]?=some xs[k]:=List.getElem?_eq_getElem hkl;refine hl1.ix (i:=(k:Int)) rfl (by omega) (by omega) λhc=>?_;rw [toNat_natCast];refine qw (r:=jV.rep) (x:=xs[k]) (hl1.at_ k _ hx) ?_;refine nwb λw2 h2 hB2 hs2=>qcc h2 rfl λw3 h3 hc3 hs3=>?_;have hB3:Uc w w3:=zm hB1 (xc hB2 hc3 (le_refl _));have step:inS r xs[k]=false->I (i64.wrap ((k:Int)+1),()) w3:=by
   intro hf;rw [qP (by omega)];refine hI _ _ ⟨k+1,by simp,by omega,?_,hB3⟩ (by dsimp only;omega);rw [List.take_add_one,hx,List.any_append,hno];simpa using hf
  have found:inS r xs[k]=true->K true w3:=by
   intro ht;have:=hK w3 hB3;rw [show xs.any (inS r)=true from List.any_eq_true.2 ⟨_,List.getElem_mem hkl,ht⟩] at this;exact this
  refine lI (x:=xs[k].lo) (h3.cells 0 _ rfl) (cO (λe1=>?_) λe1=>?_)
  ·have e1:xs[k].lo<=r:=oTq e1;refine lI (x:=xs[k].hi) (h3.cells 1 _ rfl) (cO (λe2=>?_) λe2=>?_)
   ·exact found (by unfold inS;rw [dTq e1,e2];rfl)
   ·exact step (by unfold inS;rw [dTq e1,e2];rfl)
  ·exact step (by unfold inS;rw [show decide (xs[k].lo<=r)=false from e1];rfl)
 ·have e:=oFq e;obtain rfl:k=xs.length:=by omega
  rw [List.take_length] at hno;have:=hK w1 hB1;rw [hno] at this;exact this
theorem q8g {K:Slc->Ub} (hK:∀s w',Rd q03 w' s (qk4 qso)->Uc w w'->K s w'):qlv w K:=by
 refine qu3 ?_;unfold qp6;exact nwb λw1 h1 hB1 hs1=>hK _ w1 (rd_lits (E:=q03) (ys:=qk4 qso) h1 (by simp [qk4,qso,maxLen]) rfl) hB1
theorem q76 {K:Slc->Ub} (hK:∀s w',Rd q03 w' s (qk4 q08)->Uc w w'->K s w'):ql2 w K:=by
 refine qvi ?_;unfold qqd;exact nwb λw1 h1 hB1 hs1=>hK _ w1 (rd_lits (E:=q03) (ys:=qk4 q08) h1 (by simp [qk4,q08,maxLen]) rfl) hB1
theorem zbn {r:Int} {K:Bool->Ub} (hK:K (isW r) w):qg6 r w K:=by
 refine qqf _ ?_;unfold isW at hK;refine cO (λe1=>?_) λe1=>?_
 ·have h1:(0:Int)<=r:=oTq e1;rw [dTq h1] at hK;refine cO (λe2=>?_) λe2=>?_
  ·rw [e2] at hK;refine cO (λe3=>?_) λe3=>?_
   ·rw [e3] at hK;exact hK
   ·rw [e3] at hK;exact hK
  ·rw [e2] at hK;exact hK
 ·rw [show decide ((0:Int)<=r)=false from e1] at hK;exact hK
theorem q3l {r:Int} {K:Int->Ub} (hK:∀w',Uc w w'->K (VN r) w'):qiu r w K:=by
 refine qu0 _ ?_;unfold VN at hK;refine jpO λJ1 hJ1=>zbn ?_;refine cO (λe=>?_) λe=>?_
 ·have e:isW r=false:=by simpa using e
  rw [if_pos (.inl e)] at hK;exact hJ1 _ _ (cT rfl (hK w (Below.refl _ _)))
 ·have e:isW r=true:=by simpa using e
  refine q8g λs w1 hs hB1=>q5d hs (by simp [qk4,qso]) λw2 hB2=>?_;rw [qwe];refine hJ1 _ _ ?_;have hB02:=zm hB1 hB2;refine cO (λe2=>?_) λe2=>?_
  ·have e2:inW r qso=true:=e2;rw [if_pos (.inr e2)] at hK;exact hK w2 hB02
  ·have e2:inW r qso=false:=e2;rw [if_neg (by rw [e,e2];simp)] at hK;refine q76 λs w3 hs hB3=>q5d hs (by simp [qk4,q08]) λw4 hB4=>?_;rw [qwe];have hB04:=zm (zm hB02 hB3) hB4;refine cO (λe3=>?_) λe3=>?_
   ·rw [if_pos e3] at hK;exact hK w4 hB04
   ·rw [if_neg (by rw [e3];decide)] at hK;exact hK w4 hB04
theorem zaq {r:Int} (h:VN r≠0):0<=r/\r<=1114111:=by
 unfold VN at h;by_cases e:isW r=false
 ·rw [if_pos (.inl e)] at h;exact absurd rfl h
 ·have e:isW r=true:=by simpa using e
  unfold isW at e;simp only [Bool.and_eq_true,decide_eq_true_eq] at e;exact e.1
theorem q6p (r:Int):VN r=0\/VN r=1\/VN r=2:=by
 unfold VN;split
 ·exact .inl rfl
 ·split
  ·exact .inr (.inr rfl)
  ·exact .inr (.inl rfl)
theorem qy3 {set b:Int} {K:Int->Ub} (hb:0<=b/\b<=255) (hK:∀w',Uc w w'->K (qt9 set b) w'):qbm set b w K:=by
 refine qow _ _ ?_;unfold qt9 at hK;have hw:IntKind.i32.wrap b=b:=by
  obtain ⟨n,rfl⟩:∃n:Nat,b=n:=⟨b.toNat,by omega⟩;exact xh .i32 (by show _<2^31;omega)
 rw [hw];refine jpO λJ1 hJ1=>?_;have no:¬(set=48/\95<=b/\b<=126)->∀v:Bool,v=false->J1 (v,()) w:=by
  rintro hn v rfl;rw [if_neg hn] at hK;exact hJ1 _ _ (cF rfl (hK w (Below.refl _ _)))
 refine cO (λe=>?_) λe=>?_
 ·have e:set=48:=eq_of_beq e;refine cO (λe1=>?_) λe1=>?_
  ·have e1:=oTq e1;by_cases h2:b<=126
   ·rw [dTq h2];rw [if_pos ⟨e,e1,h2⟩] at hK;refine hJ1 _ _ (cT rfl ?_);refine qsu ?_;unfold qnn;refine nwb λw1 h1 hB1 hs1=>?_;have hr:Rd zd2 w1 ⟨some ⟨w.heap.size,0,none⟩,32,32⟩ qhu:=rd_lits (E:=zd2) (ys:=qhu) h1 (by simp [qhu,maxLen]) rfl;obtain ⟨n,hn⟩:∃n:Nat,b-95=n:=⟨(b-95).toNat,by omega⟩;rw [hn,show IntKind.u8.wrap (n:Int)=n from xh .u8 (by show _<2^8;omega)];have hnl:n<qhu.length:=by show n<32;omega
    refine hr.ix (i:=(n:Int)) rfl (by omega) (by show (n:Int)<((32:Nat):Int);omega) λ_=>?_;have hx:qhu[n]?=some qhu[n]:=List.getElem?_eq_getElem hnl;rw [toNat_natCast];refine lI (x:=qhu[n]) (by simpa using hr.at_ n _ hx 0 _ rfl) ?_;have:=hK w1 hB1;rw [hn,toNat_natCast,List.getD_eq_getElem?_getD,hx] at this;exact this
   ·exact no (λhh=>h2 hh.2.2) _ (dFq h2)
  ·have e1:=oFq e1;exact no (λhh=>e1 hh.2.1) _ rfl
 ·have e:¬set=48:=beq_eq_false_iff_ne.1 e;exact no (λhh=>e hh.1) _ rfl
end
section
variable {w:World} {base g:Nat} {F:ScF} {S:Sc}
theorem ScOk.changed (h:ScOk S) {f:List qO->List qO} (hok:∀xs,okR xs->okR (f xs)) {row:Int} (hr:0<=row/\row<(S.g.rows:Int)):ScOk (S.withG { S.g with L:=S.g.L.set row.toNat (Zm (f (S.g.L.getD row.toNat [])) S.g.cols) }):=by
 have hG:=h.gOk;refine h.withG (hG.set row.toNat ?_) rfl rfl;refine zbg hG.cols.2 (hok _ ?_);have hl:row.toNat<S.g.L.length:=by rw [hG.len];omega
 rw [List.getD_eq_getElem?_getD,List.getElem?_eq_getElem hl];exact (hG.L _ (List.getElem_mem hl)).2.2
theorem q1a {fv:Value} {f:List qO->List qO} {row:Int} {K:Bool->Ub} (h:ScM w base g F S) (hr:0<=row/\row<(S.g.rows:Int)) (hlen:∀xs,(f xs).length=xs.length) (hok:∀xs,okR xs->okR (f xs))
  (hf:∀(l:Slc) (xs:List qO) (K':Slc->Ub),Rd zl w.drew l xs->xs.length<=10000->(∀s w2,Go.Vc.Own zl w2 w.drew.heap.size s (f xs)->Below w.drew.heap.size w.drew w2->K' s w2)->jd C fv [.slice l.a l.n l.c] [Kind.slice] w.drew K')
  (hK:∀F' w',ScT base g w F F' (S.withG { S.g with L:=S.g.L.set row.toNat (Zm (f (S.g.L.getD row.toNat [])) S.g.cols) }) w'->K true w'):Zj (some ⟨(F.f S.alt).g,0,none⟩) row fv w K:=by
 refine qgs _ _ _ ?_;simp only [onPtr_some];have h3:=h.gM;have hG:=h.gOk;have hbase:=h.base_le;refine jpO λJ hJ=>?_;refine qs8 h3 ?_;rw [dTq hr];refine cT rfl ?_;refine lSl (x:=(F.f S.alt).ls) (h3.drew.blk.cells 3 _ rfl) ?_;refine lSl (x:=(F.f S.alt).ls) (h3.drew.blk.cells 3 _ rfl) ?_;obtain ⟨ls,ho,hl⟩:=h3.row;have hll:=hl.1;have hgl:=hG.len;refine ho.drew.rd.ix rfl hr.1 (by omega) λhc=>?_;have hlk:ls[row.toNat]?=some (ls[row.toNat]'(by omega)):=List.getElem?_eq_getElem _;have hxk:S.g.L[row.toNat]?=some (S.g.L[row.toNat]'(by omega)):=List.getElem?_eq_getElem _;refine lSl (x:=ls[row.toNat]'(by omega)) (by simpa using hc 0 _ rfl) ?_;refine lI (x:=(S.g.cols:Int)) (h3.drew.blk.cells 2 _ rfl) ?_;have hwk:(S.g.L[row.toNat]'(by omega)).length<=10000:=by
  have:=(hG.L _ (List.mem_of_getElem? hxk)).2.1;have:=hG.cols.2;omega
 refine hf _ _ _ (hl.2 _ _ _ hlk hxk).drew.rd hwk λt w4 ht hB4=>?_;have hB34:Uc w w4:=(zk w).trans hB4;have h4:=h3.ext hB34;refine ⟨h4.blk.cells 2 _ rfl,h4.blk.cells 3 _ rfl,?_⟩;refine q10 ht.rd (by rw [hlen];exact hwk) λu w5 hu hB5=>?_;have hB35:Uc w w5:=hB34.trans (hB5.mono hB34.size);have h5:=h3.ext hB35;refine ⟨h5.blk.cells 3 _ rfl,?_⟩;have ho5:=ho.ext hB35;have hs4:=hB34.size;refine ho5.rd.ix rfl hr.1 (by omega) λ_=>?_;refine ho5.st0 (x:=ls[row.toNat]'(by omega)) hlk (y:=u) rfl λw6 ho6 hg6 hs6=>?_;obtain ⟨h6,hc6⟩:=h5.setLine (i:=row.toNat) (hl.ext hB35) (hu.base (by omega)) ho6 hg6;refine hJ _ _ (qs8 h6 ?_);rw [dTq hr];have ok:=h.ok.changed hok hr;rw [List.getD_eq_getElem?_getD,hxk] at hK ok;have hTe:=ScT.of_ext h hB35;refine hK _ w6 (hTe.trans (ScT.mk_grid hTe.m h6 (Foot.to.refl _ _) (hc6.mono λi _ hi=>.inr (.inr (.inl hi))) ok))
end
section
variable {S:Sc}
theorem zal (S:Sc) (top past n:Int):(S.scroll top past n).g=ku S.g top past n S.blank:=q5g _ _
theorem q34 (h:ScOk S):S.index.g.cols=S.g.cols/\S.index.g.rows=S.g.rows:=by
 unfold Sc.index;split
 ·rw [zal];have hl:=Y3 (top:=S.dry.top) (past:=S.dry.past) (n:=1) (a:=S.dry.blank) h.dry.gOk.len;exact ⟨hl.2.2.1,hl.2.1⟩
 ·exact ⟨rfl,rfl⟩
theorem qw1 (h:ScOk S):S.next.g.cols=S.g.cols/\S.next.g.rows=S.g.rows:=q34 (h.to S.c.Row 0)
theorem ScOk.setCol (h:ScOk S) {col:Int} (hc:0<=col/\col<(S.g.cols:Int)):ScOk (S.setCol col):=h.cur h.rowg hc h.shift
theorem q92 (S:Sc) (r w:Int) (xs:List qO):(S.putL r w xs).length=xs.length:=by
 unfold Sc.putL;rw [q1w];split
 ·exact qqi _ _ _ _
 ·rfl
theorem qzz (S:Sc) {r:Int} (hr:0<=r/\r<=1114111) (w:Int) (xs:List qO) (h:okR xs):okR (S.putL r w xs):=by
 unfold Sc.putL;refine zc5 ?_ (by omega);split
 ·exact zdi h _ _ _
 ·exact h
theorem qzg (S:Sc) (f:List qO->List qO):(S.change f).c=S.c:=by
 unfold Sc.change;split
 ·exact q5v _ _
 ·rfl
theorem q0m (S:Sc) (f:List qO->List qO):(S.change f).g.cols=S.g.cols/\(S.change f).g.rows=S.g.rows:=by
 unfold Sc.change;split
 ·rw [q5g];exact ⟨rfl,rfl⟩
 ·exact ⟨rfl,rfl⟩
theorem ScOk.change (h:ScOk S) {f:List qO->List qO} (hok:∀xs,okR xs->okR (f xs)):ScOk (S.change f):=by
 unfold Sc.change;rw [if_pos h.rowg];exact h.changed hok h.rowg
theorem ScOk.char (h:ScOk S) (r:Int):ScOk { S with char:=r }:=⟨h.g0,h.g1,h.rows,h.cols,h.row,h.col,h.shift,h.sh0,h.sh1,h.top,h.marg,h.stops⟩
theorem ScOk.laid (h:ScOk S) {r wd:Int} (hr:0<=r/\r<=1114111) (hw:1<=wd/\wd<=2) (wrap:Bool):ScOk (S.laid r wd wrap):=by
 have h1:=h.change (qzz S hr wd);have hb:=h.bnd;have hc:=h.colg;obtain ⟨e1,e2⟩:=q0m S (S.putL r wd);have ec:=qzg S (S.putL r wd);unfold Sc.laid;dsimp only;have ew:w64 (S.c.Col+wd)=S.c.Col+wd:=qut (by omega);have ew2:w64 ((S.g.cols:Int)-1)=(S.g.cols:Int)-1:=qut (by omega);rw [ew,ew2];have hrow:=h1.rowg;have hsh:=h1.shift;split
 ·exact h1.cur hrow (by dsimp only;rw [e1];omega) hsh
 ·rename_i hlt;have hlt:¬S.c.Col+wd>=(S.g.cols:Int):=hlt;exact h1.cur hrow (by dsimp only;rw [e1];omega) hsh
end
structure Bx (w:World) (bs br bw g:Nat) (r wd:Int):Prop where
 s:Blk w bs Yz [.pointer (some ⟨g,0,none⟩)]
 r:Blk w br vJ [.int .i32 r]
 w:Blk w bw zA [.int .i64 wd]
theorem Bx.chg {w w':World} {bs br bw g:Nat} {r wd:Int} {T:Nat->Prop} (h:Bx w bs br bw g r wd) (hc:Chg T w w') (h1:¬T bs) (h2:¬T br) (h3:¬T bw):Bx w' bs br bw g r wd:=⟨h.s.chg hc h1,h.r.chg hc h2,h.w.chg hc h3⟩
theorem Bx.ext {w w':World} {bs br bw g:Nat} {r wd:Int} (h:Bx w bs br bw g r wd) (hB:Uc w w'):Bx w' bs br bw g r wd:=⟨h.s.ext hB,h.r.ext hB,h.w.ext hB⟩
structure LayS (base g:Nat) (w0:World) (F0:ScF) (bs br bw:Nat) (r wd:Int) (F:ScF) (S:Sc) (w:World):Prop where
 t:ScT base g w0 F0 F S w
 bx:Bx w bs br bw g r wd
 ne:∀k,scS g F k->k≠bs/\k≠br/\k≠bw
section
variable {w0 w w':World} {base g bs br bw:Nat} {F0 F F':ScF} {S S':Sc} {r wd:Int}
theorem LayS.step (h:LayS base g w0 F0 bs br bw r wd F S w) (hT:ScT base g w F F' S' w'):LayS base g w0 F0 bs br bw r wd F' S' w':=by
 refine ⟨h.t.trans hT,h.bx.chg hT.chg (λe=>(h.ne _ e).1 rfl) (λe=>(h.ne _ e).2.1 rfl) (λe=>(h.ne _ e).2.2 rfl),λk hk=>?_⟩;rcases hT.old k hk with h1 | h1
 ·exact h.ne k h1
 ·have b1:=h.bx.s.lt;have b2:=h.bx.r.lt;have b3:=h.bx.w.lt;omega
theorem LayS.drew (h:LayS base g w0 F0 bs br bw r wd F S w):LayS base g w0 F0 bs br bw r wd F S w.drew:=h.step (ScT.refl h.t.m).drew
theorem qi7 {r:Nat} {L:List (Int×Bool)} (h:zG qya w r L) {k:Int} {K:Bool->Ub} (hK:K ((zt L k).getD false) w):zJ PG (Instr.lookup zr (.map (some r)) (Ua k) false) Kind.bool w K:=by
 refine ⟨(zt L k).getD false,w,?_,hK⟩;rw [h.lookup q55 q6b zfg k];cases zt L k<;>rfl
theorem quu (h:ScM w base g F S):qx w (((⟨g,0,none⟩:Addr).add 3).add 3) (qu.rep.cells S.c.A):=by
 have h1:=qwv h;intro j v hj;have:(qK.rep.cells S.c)[3+j]?=some v:=by
  match j,hj with
  | 0,hj=>exact hj
  | 1,hj=>exact hj
  | 2,hj=>exact hj
  | j+3,hj=>cases hj
 have h2:=h1 (3+j) v this;simp only [qB] at h2 ⊢;rw [show 0+3+3+j=0+3+(3+j) by omega];exact h2
theorem q4k:C.plain vy=true:=by kernel_rfl
theorem q8j {l:Slc} {xs:List qO} {K:Slc->Ub} (h:ScM w base g F S) (hx:Bx w bs br bw g r wd) (hl:Rd zl w l xs) (hlen:xs.length<=10000)
  (hK:∀s w',Go.Vc.Own zl w' w.heap.size s (S.putL r wd xs)->Uc w w'->K s w') :
  jd C (.func (.func vy) #[] #[.pointer (some ⟨bs,0,none⟩),.pointer (some ⟨bw,0,none⟩),.pointer (some ⟨br,0,none⟩)]) [.slice l.a l.n l.c] [Kind.slice] w K:=by
 have hh:Jy l ⟨bs,0,none⟩ ⟨bw,0,none⟩ ⟨br,0,none⟩ w K:=by
  refine qa7 _ _ _ _ ?_;refine jpO λJ1 hJ1=>?_;have key:∀s w1,Rd zl w1 s (if S.mode 4 then qd7 xs S.c.Col wd S.c.A else xs)->Uc w w1->J1 (s,()) w1:=by
   intro s w1 hs hB1;refine hJ1 _ _ ?_;have h1:=(h.ext hB1).drew;have x1:=(hx.ext hB1).ext (zk w1);refine qM (x:=some ⟨g,0,none⟩) (by simpa using x1.s.cells 0 _ rfl) ?_;simp only [onPtr_some];refine lI (x:=S.c.Col) (by simp only [qB];exact h1.blk.cell 4 rfl) ?_;refine lI (x:=r) (by simpa using x1.r.cells 0 _ rfl) (lI (x:=wd) (by simpa using x1.w.cells 0 _ rfl) ?_);refine qM (x:=some ⟨g,0,none⟩) (by simpa using x1.s.cells 0 _ rfl) ?_;simp only [onPtr_some];refine qw (r:=qu.rep) (x:=S.c.A) (quu h1) ?_;refine q4i (hs.ext (zk w1)) (by split;rw [qqi];exact hlen;exact hlen) λt w2 ht hB2=>?_;have hB02:Uc w w2:=zm (zm hB1 (zk w1)) hB2;exact hK t w2 (ht.base (zm hB1 (zk w1)).size) hB02
  refine qM (x:=some ⟨g,0,none⟩) (by simpa using hx.s.cells 0 _ rfl) ?_;simp only [onPtr_some];refine xx (x:=some F.mm) (h.blk.cells 35 _ rfl) (qi7 h.mo ?_);have hd:=h.drew;have xd:=hx.ext (zk w);show cond (S.mode 4) _ _;cases hm:S.mode 4
  ·exact key l w (by rw [hm];exact hl) (Below.refl _ _)
  ·refine cT rfl ?_;refine qM (x:=some ⟨g,0,none⟩) (by simpa using xd.s.cells 0 _ rfl) ?_;simp only [onPtr_some];refine lI (x:=S.c.Col) (by simp only [qB];exact hd.blk.cell 4 rfl) ?_;refine lI (x:=wd) (by simpa using xd.w.cells 0 _ rfl) ?_;refine qM (x:=some ⟨g,0,none⟩) (by simpa using xd.s.cells 0 _ rfl) ?_;simp only [onPtr_some];refine qw (r:=qu.rep) (x:=S.c.A) (quu hd) ?_;refine q1x (hl.ext (zk w)) hlen λt w2 ht hB2=>?_;exact key t w2 (by rw [hm];exact ht.rd) (zm (zk w) hB2)
 refine callR_plain q4k (Calls.mono hh ?_);rintro e w' ⟨t,rfl,hk⟩;exact ⟨t,rfl,hk⟩
end
section
variable {w0 w w':World} {base g bs br bw:Nat} {F0 F F':ScF} {S S':Sc} {r wd:Int}
theorem qze {K:Ub} (h:ScM w base g F S) (hK:∀F' w',ScT base g w F F' (S.lay r) w'->K w'):kR (some ⟨g,0,none⟩) r w K:=by
 refine qe6 _ _ ?_;refine nwb λw1 hs1 hB1 z1=>nwb λw2 hr2 hB2 z2=>?_;refine lI (x:=r) (by simpa using hr2.cells 0 _ rfl) (q3l λw3 hB3=>?_);refine nwb λw4 hw4 hB4 z4=>qcc hw4 rfl λw5 hw5 hc5 z5=>?_;have z3:=hB3.size;have hB04:Uc w w4:=zm (zm (zm hB1 hB2) hB3) hB4;have hB05:Uc w w5:=xc hB04 hc5 (by omega);have x4s:=((hs1.ext hB2).ext hB3).ext hB4;have x4r:=(hr2.ext hB3).ext hB4;obtain ⟨wd,hwd⟩:∃wd,wd=VN r:=⟨_,rfl⟩;rw [<-hwd] at hw5;have hB5:Bx w5 w.heap.size w1.heap.size w3.heap.size g r wd:=⟨x4s.chg hc5 (by omega),x4r.chg hc5 (by omega),hw5⟩;have hT5:ScT base g w F F S w5:=ScT.of_ext h hB05;have L5:LayS base g w F w.heap.size w1.heap.size w3.heap.size r wd F S w5:=⟨hT5,hB5,λk hk=>by have:=(h.below k hk).2;omega⟩;refine qM (x:=some ⟨g,0,none⟩) (by simpa using L5.bx.s.cells 0 _ rfl) ?_;refine qlg L5.t.m ?_;have L6:=L5.drew.drew;generalize w5.drew.drew=w6 at L6 ⊢;clear L5 hT5 hB5 x4s x4r hw5 hc5 hB4 hw4 hr2 hs1 hB1 hB2 hB3 hB04 hB05;refine lI (x:=wd) (by simpa using L6.bx.w.cells 0 _ rfl) ?_;unfold Sc.lay at hK;rw [<-hwd] at hK;refine cO (λe=>?_) λe=>?_
 ·have e:wd=0:=eq_of_beq e;rw [if_pos e] at hK;exact hK F w6 L6.t
 have e:¬wd=0:=beq_eq_false_iff_ne.1 e;rw [if_neg e] at hK;have hrr:=zaq (r:=r) (by rw [<-hwd];exact e);have hw12:1<=wd/\wd<=2:=by
  rcases q6p r with h1 | h1 | h1
  ·exact absurd (hwd.trans h1) e
  ·omega
  ·omega
 refine qM (x:=some ⟨g,0,none⟩) (by simpa using L6.bx.s.cells 0 _ rfl) ?_;refine lI (x:=r) (by simpa using L6.bx.r.cells 0 _ rfl) ?_;simp only [onPtr_some];rw [qB];refine qz L6.t.m.blk (by simp [qy.rep]) λw7 hb7 hg7 hs7=>?_;obtain ⟨S1,hS1⟩:∃S1:Sc,S1={ S with char:=r }:=⟨_,rfl⟩;have hT7:ScT base g w6 F F S1 w7:=by
  rw [hS1];exact ScT.mk_struct L6.t.m (Chg.gg hg7) hb7 rfl rfl rfl rfl rfl rfl (L6.t.m.ok.char r)
 have L7:=L6.step hT7;have hcols1:S1.g.cols=S.g.cols:=by rw [hS1];rfl
 have hpm:S1.pmode 7=S.pmode 7:=by rw [hS1];rfl
 rw [<-hS1] at hK;obtain ⟨wrap,hwrap⟩:∃wrap,wrap=S.pmode 7:=⟨_,rfl⟩;rw [<-hwrap] at hK;clear hb7 hg7 hs7 hT7 L6;refine qM (x:=some ⟨g,0,none⟩) (by simpa using L7.bx.s.cells 0 _ rfl) ?_;simp only [onPtr_some];refine xx (x:=some F.mp) (by rw [qB];exact L7.t.m.blk.cell 36 rfl) (qi7 L7.t.m.pr ?_);rw [show (zt S1.priv 7).getD false=wrap by rw [hwrap,<-hpm];rfl];obtain ⟨Sx,hSx⟩:∃Sx,Sx=S1.layX wrap:=⟨_,rfl⟩;rw [<-hSx] at hK;unfold Sc.layX at hSx;unfold Sc.layY at hK;have hok1:=L7.t.m.ok;have hcx:Sx.g.cols=S.g.cols:=by
  rw [hSx];split
  ·rw [(qw1 hok1).1,hcols1]
  ·exact hcols1
 have hb1:=h.ok.bnd;refine jpO λJ1 hJ1=>?_;have key1:∀F1 w9,LayS base g w F w.heap.size w1.heap.size w3.heap.size r wd F1 Sx w9->J1 () w9:=by
  intro F1 w9 L9;refine hJ1 _ _ ?_;refine qM (x:=some ⟨g,0,none⟩) (by simpa using L9.bx.s.cells 0 _ rfl) ?_;simp only [onPtr_some];rw [qB,qB];refine qz L9.t.m.blk (by simp [qy.rep]) λw10 hb10 hg10 hs10=>?_;have L10:=L9.step (ScT.dry L9.t.m hb10 hg10);clear hb10 hg10 hs10 L9;obtain ⟨S2,hS2⟩:∃S2,S2=Sx.dry:=⟨_,rfl⟩;rw [<-hS2] at L10 hK;have hc2:S2.g.cols=S.g.cols:=by rw [hS2];exact hcx
  refine jpO λJ2 hJ2=>?_;have key2:∀(S3:Sc) F2 w11,LayS base g w F w.heap.size w1.heap.size w3.heap.size r wd F2 S3 w11->S3.g.cols=S.g.cols->S3.c.Wrap=false->(∀F' w',ScT base g w F F' (S3.laid r wd wrap) w'->K w')->J2 () w11:=by
   intro S3 F2 w11 L11 hc3 hwr3 hK3;refine hJ2 _ _ ?_;have Ld:=L11.drew;refine qM (x:=some ⟨g,0,none⟩) (by simpa using Ld.bx.s.cells 0 _ rfl) (qM (x:=some ⟨g,0,none⟩) (by simpa using Ld.bx.s.cells 0 _ rfl) ?_);simp only [onPtr_some];refine lI (x:=S3.c.Row) (by simp only [qB];exact Ld.t.m.blk.cell 3 rfl) ?_;refine qn1 Ld.t.m ?_;have Ldd:=Ld.drew;refine ⟨by simp only [qB];exact Ldd.t.m.blk.cell 3 rfl,by simpa using Ldd.bx.s.cells 0 _ rfl,?_⟩;have hok3:=L11.t.m.ok;refine q1a (f:=S3.putL r wd) Ldd.t.m hok3.rowg (q92 S3 r wd) (qzz S3 hrr wd) (λl xs K' hl hlen hk=>?_) λF4 w13 hT13=>?_
   ·exact q8j Ldd.drew.t.m Ldd.drew.bx hl hlen hk
   have L13:=Ldd.step hT13;have ech:S3.withG { S3.g with L:=S3.g.L.set S3.c.Row.toNat (Zm (S3.putL r wd (S3.g.L.getD S3.c.Row.toNat [])) S3.g.cols) }=S3.change (S3.putL r wd):=by
    unfold Sc.change;rw [if_pos hok3.rowg]
   rw [ech] at L13;clear hT13 L11 Ld Ldd ech;obtain ⟨S4,hS4⟩:∃S4,S4=S3.change (S3.putL r wd):=⟨_,rfl⟩;rw [<-hS4] at L13;have hc4:S4.c=S3.c:=by rw [hS4];exact qzg _ _
   have L14:=L13.drew;refine qM (x:=some ⟨g,0,none⟩) (by simpa using L14.bx.s.cells 0 _ rfl) ?_;simp only [onPtr_some];refine lI (x:=S4.c.Col) (by simp only [qB];exact L14.t.m.blk.cell 4 rfl) ?_;refine lI (x:=wd) (by simpa using L14.bx.w.cells 0 _ rfl) ?_;rw [qB,qB];refine qz L14.t.m.blk (by simp [qy.rep]) λw15 hb15 hg15 hs15=>?_;have hc15:=Chg.gg hg15;have x15:Bx w15 w.heap.size w1.heap.size w3.heap.size g r wd:=L14.bx.chg hc15 (λe=>(L14.ne g (.inl rfl)).1 e.symm) (λe=>(L14.ne g (.inl rfl)).2.1 e.symm) (λe=>(L14.ne g (.inl rfl)).2.2 e.symm);have hb15:Blk w15 g zq (qy.rep.cells (scX F4 (S4.setCol (w64 (S4.c.Col+wd))))):=hb15;refine qM (x:=some ⟨g,0,none⟩) (by simpa using x15.s.cells 0 _ rfl) ?_;simp only [onPtr_some];refine lI (x:=w64 (S4.c.Col+wd)) (by exact hb15.cell 4 rfl) ?_;have hokl:=hok3.laid hrr hw12 wrap;have elaid:S3.laid r wd wrap=(if w64 (S4.c.Col+wd)>=(S.g.cols:Int) then { S4.setCol (w64 (S4.c.Col+wd)) with c:={ (S4.setCol (w64 (S4.c.Col+wd))).c with Col:=w64 ((S.g.cols:Int)-1),Wrap:=wrap } } else S4.setCol (w64 (S4.c.Col+wd))):=by
    unfold Sc.laid;dsimp only;rw [<-hS4,<-hc4,hc3];rfl
   rw [elaid] at hK3 hokl;refine cO (λe2=>?_) λe2=>?_
   ·have e2:w64 (S4.c.Col+wd)>=(S.g.cols:Int):=oTq e2;rw [if_pos e2] at hK3 hokl;have xd:=x15.ext (zk w15);refine qM (x:=some ⟨g,0,none⟩) (by simpa using xd.s.cells 0 _ rfl) (qM (x:=some ⟨g,0,none⟩) (by simpa using xd.s.cells 0 _ rfl) ?_);simp only [onPtr_some];rw [qB,qB];refine qz hb15.drew (by simp [qy.rep]) λw16 hb16 hg16 hs16=>?_;have hc16:=Chg.gg hg16;have x16:=xd.chg hc16 (λe=>(L14.ne g (.inl rfl)).1 e.symm) (λe=>(L14.ne g (.inl rfl)).2.1 e.symm) (λe=>(L14.ne g (.inl rfl)).2.2 e.symm);refine ⟨by simpa using x16.s.cells 0 _ rfl,?_⟩;rw [qB];refine qz hb16 (by simp [qy.rep,putL]) λw17 hb17 hg17 hs17=>?_;have hcd:Chg (λk=>k=g) w15 w15.drew:=Chg.of_ext (zk w15);have hc17:Chg (λk=>k=g) w13.drew w17:=((hc15.trans hcd λi _ hi=>hi).trans hc16 λi _ hi=>hi).trans (Chg.gg hg17) λi _ hi=>hi;exact hK3 F4 w17 (L14.t.trans (ScT.mk_struct L14.t.m hc17 hb17 rfl rfl rfl rfl rfl rfl hokl))
   ·have e2:¬w64 (S4.c.Col+wd)>=(S.g.cols:Int):=oFq e2;rw [if_neg e2] at hK3 hokl;exact hK3 F4 w15 (L14.t.trans (ScT.mk_struct L14.t.m hc15 hb15 rfl rfl rfl rfl rfl rfl hokl))
  have Ld:=L10.drew;refine qM (x:=some ⟨g,0,none⟩) (by simpa using Ld.bx.s.cells 0 _ rfl) ?_;simp only [onPtr_some];refine lI (x:=S2.c.Col) (by simp only [qB];exact Ld.t.m.blk.cell 4 rfl) ?_;refine lI (x:=wd) (by simpa using Ld.bx.w.cells 0 _ rfl) ?_;have hwr2:S2.c.Wrap=false:=by rw [hS2];rfl
  refine cO (λe2=>?_) λe2=>?_
  ·have e2:w64 (S2.c.Col+wd)>(S.g.cols:Int):=oTq e2;rw [if_pos e2] at hK;refine lI (x:=wd) (by simpa using Ld.bx.w.cells 0 _ rfl) ?_;refine cO (λe3=>?_) λe3=>?_
   ·have e3:wd>(S.g.cols:Int):=oTq e3;rw [if_pos e3] at hK;exact hK F1 _ Ld.t
   ·have e3:¬wd>(S.g.cols:Int):=oFq e3;rw [if_neg e3] at hK;cases hwv:wrap
    ·rw [hwv] at hK key2;rw [if_neg (by decide)] at hK;refine cF rfl ?_;refine qM (x:=some ⟨g,0,none⟩) (by simpa using Ld.bx.s.cells 0 _ rfl) ?_;refine lI (x:=wd) (by simpa using Ld.bx.w.cells 0 _ rfl) ?_;simp only [onPtr_some];rw [qB,qB];refine qz Ld.t.m.blk (by simp [qy.rep]) λw19 hb19 hg19 hs19=>?_;have ew:w64 ((S.g.cols:Int)-wd)=(S.g.cols:Int)-wd:=qut (by omega);have hokc:ScOk (S2.setCol (w64 ((S.g.cols:Int)-wd))):=Ld.t.m.ok.setCol (by rw [ew,hc2];omega);have L19:=Ld.step (ScT.mk_struct Ld.t.m (Chg.gg hg19) (S':=S2.setCol (w64 ((S.g.cols:Int)-wd))) hb19 rfl rfl rfl rfl rfl rfl hokc);exact key2 _ _ _ L19 hc2 hwr2 hK
    ·rw [hwv] at hK key2;rw [if_pos rfl] at hK;refine cT rfl ?_;have Ldd:=Ld.drew;refine qM (x:=some ⟨g,0,none⟩) (by simpa using Ldd.bx.s.cells 0 _ rfl) (qM (x:=some ⟨g,0,none⟩) (by simpa using Ldd.bx.s.cells 0 _ rfl) ?_);simp only [onPtr_some];refine lI (x:=S2.c.Row) (by simp only [qB];exact Ldd.t.m.blk.cell 3 rfl) ?_;refine qr3 Ldd.t.m λw17 hT17=>?_;have L17:=Ldd.step hT17;refine qM (x:=some ⟨g,0,none⟩) (by simpa using L17.bx.s.cells 0 _ rfl) ?_;refine qmi L17.t.m λF5 w18 hT18=>?_;have L18:=L17.step hT18;have hn:=qw1 L10.t.m.ok;refine key2 S2.next _ _ L18 (hn.1.trans hc2) ?_ hK;unfold Sc.next Sc.index;split
     ·show (Sc.scroll _ _ _ _).c.Wrap=false;unfold Sc.scroll;rw [q5v];rfl
     ·rfl
  ·have e2:¬w64 (S2.c.Col+wd)>(S.g.cols:Int):=oFq e2;rw [if_neg e2] at hK;exact key2 S2 _ _ Ld hc2 hwr2 hK
 refine jpO λJ3 hJ3=>?_;refine qM (x:=some ⟨g,0,none⟩) (by simpa using L7.bx.s.cells 0 _ rfl) ?_;simp only [onPtr_some];refine jY (x:=S1.c.Wrap) (by simp only [qB];exact L7.t.m.blk.cell 5 rfl) ?_;have key3:∀b:Bool,(b=true↔S1.c.Wrap=true/\wrap=true)->J3 (b,()) w7:=by
  intro b hb;refine hJ3 _ _ ?_;refine cO (λe=>?_) λe=>?_
  ·have e:=hb.1 e;rw [if_pos e] at hSx;have Ld:=L7.drew;refine qM (x:=some ⟨g,0,none⟩) (by simpa using Ld.bx.s.cells 0 _ rfl) (qM (x:=some ⟨g,0,none⟩) (by simpa using Ld.bx.s.cells 0 _ rfl) ?_);simp only [onPtr_some];refine lI (x:=S1.c.Row) (by simp only [qB];exact Ld.t.m.blk.cell 3 rfl) ?_;refine qr3 Ld.t.m λw17 hT17=>?_;have L17:=Ld.step hT17;refine qM (x:=some ⟨g,0,none⟩) (by simpa using L17.bx.s.cells 0 _ rfl) ?_;refine qmi L17.t.m λF5 w18 hT18=>?_;have L18:=L17.step hT18;rw [hSx] at key1;exact key1 _ _ L18
  ·have e:¬(S1.c.Wrap=true/\wrap=true):=λhh=>by rw [hb.2 hh] at e;cases e
   rw [if_neg e] at hSx;rw [hSx] at key1;exact key1 _ _ L7
 refine cO (λe=>key3 _ ?_) λe=>key3 _ ?_
 ·exact ⟨λhh=>⟨e,hh⟩,λhh=>hh.2⟩
 ·exact ⟨(λhh=>by cases hh),λhh=>absurd hh.1 (by rw [e];decide)⟩
theorem q6q (h:ScM w base g F S) {K:Int->Prop} (hK:K (S.set2 S.c.Shift)):ixA (((⟨g,0,none⟩:Addr).add 3).add 7) 2 S.c.Shift 1 λt=>ldI .u8 t w K:=by
 have hs:=h.ok.shift;unfold Sc.set2 at hK;rcases hs with e | e
 ·rw [e] at hK ⊢;exact ⟨⟨by decide,by decide⟩,lI (x:=S.c.Sets.e0) (by simp only [qB];exact h.blk.cell 10 rfl) hK⟩
 ·rw [e] at hK ⊢;exact ⟨⟨by decide,by decide⟩,lI (x:=S.c.Sets.e1) (by simp only [qB];exact h.blk.cell 11 rfl) hK⟩
theorem q4x {K:Ub} (h:ScM w base g F S) (hK:∀F' w',ScT base g w F F' (S.print r) w'->K w'):vW (some ⟨g,0,none⟩) r w K:=by
 refine qbe _ _ ?_;simp only [onPtr_some];refine jpO λJ1 hJ1=>?_;unfold Sc.print at hK;have key:∀b:Bool,(b=true↔0<=r/\r<128)->J1 (b,()) w:=by
  intro b hb;refine hJ1 _ _ ?_;refine cO (λe=>?_) λe=>?_
  ·have e:=hb.1 e;rw [if_pos e] at hK;have hd:=(ScT.refl h).drew;refine lI (x:=S.c.Shift) (by simp only [qB];exact hd.m.blk.cell 12 rfl) (q6q hd.m ?_);obtain ⟨n,rfl⟩:∃n:Nat,r=n:=⟨r.toNat,by omega⟩;rw [show IntKind.u8.wrap (n:Int)=n from xh .u8 (by show _<2^8;omega)];refine qy3 (by omega) λw2 hB2=>?_;have h2:=hd.ext hB2;exact qze h2.m λF' w' hT=>hK F' w' (h2.trans hT)
  ·have e:¬(0<=r/\r<128):=λhh=>by rw [hb.2 hh] at e;cases e
   rw [if_neg e] at hK;exact qze h hK
 refine cO (λe=>key _ ?_) λe=>key _ ?_
 ·have e:r>=0:=oTq e;exact ⟨λhh=>⟨e,oTq hh⟩,λhh=>dTq hh.2⟩
 ·have e:¬r>=0:=oFq e;exact ⟨(λhh=>by cases hh),λhh=>absurd hh.1 e⟩
end
section
variable {w w':World} {base g:Nat} {F F':ScF} {S S':Sc}
theorem qv6 {r:Nat} {L:List (Int×Bool)} (h:zG qya w r L) {n:Int} (hn:-9223372036854775808<=n/\n<=9223372036854775807) {b:Bool} {K:Option Value->Ub}
  (hK:∀w',zG qya w' r (ko L n b)->Chg (λk=>k=r) w w'->w'.heap.size=w.heap.size->K none w'):qjp PG (Instr.mapUpdate zr (.map (some r)) (Ua n) (.bool b)) w K:=by
 obtain ⟨w',h1,h2,h3,h4⟩:=h.update q55 q6b hn b;exact ⟨w',h1,hK w' h2 h3 h4⟩
theorem ScOk.areas (h:ScOk S) (l:List zQ):ScOk { S with areas:=l }:=⟨h.g0,h.g1,h.rows,h.cols,h.row,h.col,h.shift,h.sh0,h.sh1,h.top,h.marg,h.stops⟩
end
theorem Je.base {w:World} {base base' r most:Nat} {s:Slc} {old:List (List qO)} (h:Je w base r s most old) (hb:base'<=base):Je w base' r s most old:=by
 obtain ⟨at_,gone,ls,xss,h1,ho,hl,hbr,e,hm,ha⟩:=h;exact ⟨at_,gone,ls,xss,h1,ho.base hb,⟨hl.1,λi s xs e1 e2=>(hl.2 i s xs e1 e2).base hb⟩,by omega,e,hm,ha⟩
theorem GridM.base {w:World} {base base':Nat} {f:Foot} {S:GS} (h:GridM w base f S) (hb:base'<=base):GridM w base' f S:=by
 obtain ⟨ls,ho,hl⟩:=h.row;exact ⟨h.blk,by have:=h.hg;omega,⟨ls,ho.base hb,⟨hl.1,λi s xs e1 e2=>(hl.2 i s xs e1 e2).base hb⟩⟩,h.ring.base hb,h.ne⟩
theorem zac {w:World} {g r:Nat} {B:List Bool} (h:StopsM w g r B) {k:Nat} {cs:List Value} (hb:Blk w k zq cs):k≠g/\k≠r:=⟨hb.ne_t h.blk (by decide),XG h.map hb⟩
theorem q0l (X:qy):putL (qy.rep.cells X) (0+13) [(Ua 0),(Ua 0),(.bool false),(Ua 0),(Ua 0),(Ua 0),(.bool false),(.int .u8 0),(.int .u8 0),(Ua 0),(.bool false),(Ua 0),(Ua 0),(.bool false),(Ua 0),(Ua 0),(Ua 0),(.bool false),(.int .u8 0),(.int .u8 0),(Ua 0),(.bool false)]=qy.rep.cells { X with saved:=⟨qgf,qgf⟩ }:=by
 kernel_rfl
structure ScR (w:World) (base g:Nat) (X:qy) (f0 f1:Foot) (G0 G1:GS) (ar:Slc) (az:List zQ):Prop where
 blk:Blk w g zq (qy.rep.cells X)
 gr:X.grids=⟨some ⟨f0.g,0,none⟩,some ⟨f1.g,0,none⟩⟩
 xa:X.areas=ar
 hg:base<=g
 g0:GridM w base f0 G0
 g1:GridM w base f1 G1
 ar:Go.Vc.Own qkw w base ar az
 dg:∀k,xi f0 k->¬xi f1 k
section
variable {w w':World} {base g:Nat} {F F':ScF} {S S':Sc} {X X':qy} {f0 f1:Foot} {G0 G1:GS} {ar:Slc} {az:List zQ}
theorem ScR.step (h:ScR w base g X f0 f1 G0 G1 ar az) (hc:Chg (λk=>k=g) w w') (hb:Blk w' g zq (qy.rep.cells X')) (e1:X'.grids=X.grids) (e2:X'.areas=X.areas):ScR w' base g X' f0 f1 G0 G1 ar az:=by
 have hC:∀k cs,k=g->¬Blk w k qT cs:=λk cs hk hcs=>by subst hk;exact h.blk.ne_t hcs (by decide) rfl
 refine ⟨hb,e1.trans h.gr,e2.trans h.xa,h.hg,h.g0.chg hc (λk hk e=>?_) hC,h.g1.chg hc (λk hk e=>?_) hC,h.ar.chg hc λk hk e=>?_,h.dg⟩
 ·subst e;have:=qr1 h.g0 hk h.blk;revert this;decide
 ·subst e;have:=qr1 h.g1 hk h.blk;revert this;decide
 ·obtain ⟨cs,hcs⟩:=h.ar.blk_t hk;rw [e] at hcs;exact h.blk.ne_t hcs (by decide) rfl
theorem ScR.ext (h:ScR w base g X f0 f1 G0 G1 ar az) (hB:Uc w w'):ScR w' base g X f0 f1 G0 G1 ar az :=
 ⟨h.blk.ext hB,h.gr,h.xa,h.hg,h.g0.ext hB,h.g1.ext hB,h.ar.ext hB,h.dg⟩
theorem ScR.fin (h:ScR w base g (scX F S) F.f0 F.f1 S.g0 S.g1 F.ar S.areas) (hst:StopsM w F.tg F.tr S.stops) (hstb:base<=F.tg/\base<=F.tr) (hmo:zG qya w F.mm S.modes) (hpr:zG qya w F.mp S.priv) (hmb:base<=F.mm/\base<=F.mp) (hdm:F.mm≠F.mp/\F.tr≠F.mm/\F.tr≠F.mp) (ok:ScOk S):ScM w base g F S :=
 ⟨h.blk,h.hg,h.g0,h.g1,hst,hstb,hmo,hpr,hmb,hdm,h.ar,h.dg,ok⟩
theorem q4d {K:Int->Int->Ub} (h:ScR w base g X f0 f1 G0 G1 ar az) (hn:X.now=0) (hK:K G0.rows G0.cols w.drew.drew):zZ (some ⟨g,0,none⟩) w K:=by
 refine Zz _ ?_;refine KD _ ?_;simp only [onPtr_some];have h1:=h.ext (zk w);refine lI (x:=0) (by rw [<-hn];exact h1.blk.cells 2 _ rfl) ?_;refine ⟨⟨by decide,by decide⟩,qM (x:=some ⟨f0.g,0,none⟩) ?_ (qtf h1.g0 hK)⟩;have e:=congrArg vP.e0 h.gr;have e:X.grids.e0=some ⟨f0.g,0,none⟩:=e;rw [<-e];exact h1.blk.cells 0 _ rfl
theorem QR {T:Nat->Prop} {a b c:World} (h:Chg T a b) (k:Chg T b c):Chg T a c:=h.trans k λi _ hi=>hi
def qyq (G0 G1:GS) (az:List zQ):Sc:=⟨G0,G1,false,qbr,qgf,qgf,[],ko (ko [] 7 true) 25 true,0,G0.rows,KK [] G0.cols,-1,az⟩
set_option maxHeartbeats 400000 in
theorem q0s {K:Ub} (h:ScR w base g X f0 f1 G0 G1 ar az) (hG0:GOk G0) (hG1:GOk G1) (hr:G1.rows=G0.rows) (hc:G1.cols=G0.cols) (hb:base<=w.heap.size)
  (hK:∀tg tr mm mp w',w.heap.size<=tg->w.heap.size<=tr->w.heap.size<=mm->w.heap.size<=mp->ScM w' base g ⟨f0,f1,tg,tr,mm,mp,ar⟩ (qyq G0 G1 az)->Chg (λk=>k=g) w w'->K w'):vZ (some ⟨g,0,none⟩) w K:=by
 refine qbq _ ?_;simp only [onPtr_some];rw [qB];refine qz h.blk (by simp [qy.rep]) λw1 hb1 hg1 hs1=>?_;have h1:ScR w1 base g { X with now:=0 } f0 f1 G0 G1 ar az:=h.step (Chg.gg hg1) (X':={ X with now:=0 }) hb1 rfl rfl;have c1:Chg (λk=>k=g) w w1:=Chg.gg hg1;refine q4d h1 rfl ?_;have hB2:Uc w1 w1.drew.drew:=zm (zk w1) (zk w1.drew);have h2:=h1.ext hB2;have c2:=QR c1 (Chg.of_ext hB2);generalize w1.drew.drew=w2 at h2 c2 ⊢;clear hb1 hg1 hs1 h1 c1 hB2;have s2:=c2.size;refine q6y _ (λw' _ hbad=>absurd hbad (by have:=hG0.cols;omega)) λtg tr w3 _ _ htg htr hst hB3=>?_;rw [show ((G0.cols:Nat):Int).toNat=G0.cols from toNat_natCast _] at hst;have h3:=h2.ext hB3;have c3:=QR c2 (Chg.of_ext hB3);have s3:=hB3.size;clear c2;have hgt:=zac hst h3.blk;rw [qB];refine qz h3.blk (by simp [qy.rep]) λw4 hb4 hg4 hs4=>?_;have h4:ScR w4 base g { X with now:=0,stops:=some ⟨tg,0,none⟩ } f0 f1 G0 G1 ar az:=h3.step (Chg.gg hg4) (X':={ X with now:=0,stops:=some ⟨tg,0,none⟩ }) hb4 rfl rfl;have c4:=QR c3 (Chg.gg hg4);have st4:StopsM w4 tg tr (KK [] G0.cols):=hst.keep (Chg.gg hg4) (λe=>hgt.1 e.symm) λe=>hgt.2 e.symm;have hgr4:tg<w4.heap.size/\tr<w4.heap.size:=⟨st4.blk.lt,st4.map.lt⟩;clear hst h3 c3 hb4 hg4;refine q4m λw5 hB5=>?_;have h5:=h4.ext hB5;have c5:=QR c4 (Chg.of_ext hB5);have st5:=st4.keep (Chg.of_ext (S:=λ_=>False) hB5) (λe=>e) λe=>e;rw [qB];refine qz h5.blk (by simp [qy.rep,qK.rep]) λw6 hb6' hg6 hs6=>?_;have hb6:Blk w6 g zq (qy.rep.cells ⟨X.grids,0,qbr,X.saved,X.modes,X.private_,X.top,X.past,some ⟨tg,0,none⟩,X.char,X.areas⟩):=hb6';clear hb6';rw [qB];refine qz hb6 (by simp [qy.rep]) λw7 hb7' hg7 hs7=>?_;have hb7:Blk w7 g zq (qy.rep.cells ⟨X.grids,0,qbr,⟨qgf,qgf⟩,X.modes,X.private_,X.top,X.past,some ⟨tg,0,none⟩,X.char,X.areas⟩):=by rw [q0l] at hb7';exact hb7'
 clear hb7';rw [qB];refine qz hb7 (by simp [qy.rep]) λw8 hb8' hg8 hs8=>?_;have hb8:Blk w8 g zq (qy.rep.cells ⟨X.grids,0,qbr,⟨qgf,qgf⟩,X.modes,X.private_,X.top,X.past,some ⟨tg,0,none⟩,-1,X.areas⟩):=hb8';clear hb8';rw [qB];refine qz hb8 (by simp [qy.rep]) λw9 hb9' hg9 hs9=>?_;have hb9:Blk w9 g zq (qy.rep.cells ⟨X.grids,0,qbr,⟨qgf,qgf⟩,X.modes,X.private_,0,X.past,some ⟨tg,0,none⟩,-1,X.areas⟩):=hb9';clear hb9';rw [qB];refine qz hb9 (by simp [qy.rep]) λw10 hb10' hg10 hs10=>?_;have hb10:Blk w10 g zq (qy.rep.cells ⟨X.grids,0,qbr,⟨qgf,qgf⟩,X.modes,X.private_,0,G0.rows,some ⟨tg,0,none⟩,-1,X.areas⟩):=hb10';clear hb10';have c510:Chg (λk=>k=g) w5 w10:=QR (QR (QR (QR (Chg.gg hg6) (Chg.gg hg7)) (Chg.gg hg8)) (Chg.gg hg9)) (Chg.gg hg10);have h10:ScR w10 base g ⟨X.grids,0,qbr,⟨qgf,qgf⟩,X.modes,X.private_,0,G0.rows,some ⟨tg,0,none⟩,-1,X.areas⟩ f0 f1 G0 G1 ar az:=h5.step c510 (X':=⟨X.grids,0,qbr,⟨qgf,qgf⟩,X.modes,X.private_,0,G0.rows,some ⟨tg,0,none⟩,-1,X.areas⟩) hb10 rfl rfl;have c10:=QR c5 c510;have st10:=st5.keep c510 (λe=>hgt.1 e.symm) λe=>hgt.2 e.symm;clear hb6 hg6 hb7 hg7 hb8 hg8 hb9 hg9 hb10 hg10 c510 h5 c5 st5 h4 c4 st4;refine qa9 _ ?_;unfold ZO nwM;dsimp only;have hB11:Uc w10 (w10.alloc (.map #[] 0)):=(Below.refl _ w10).alloc (le_refl _) _;have hs11:(w10.alloc (.map #[] 0)).heap.size=w10.heap.size+1:=by simp
 have m1:zG qya (w10.alloc (.map #[] 0)) w10.heap.size []:=zG.new w10;generalize w10.alloc (.map #[] 0)=w11 at hB11 hs11 m1 ⊢;have hB12:Uc w11 (w11.alloc (.map #[] 0)):=(Below.refl _ w11).alloc (le_refl _) _;have hs12:(w11.alloc (.map #[] 0)).heap.size=w11.heap.size+1:=by simp
 have m2:zG qya (w11.alloc (.map #[] 0)) w11.heap.size []:=zG.new w11;generalize w11.alloc (.map #[] 0)=w12 at hB12 hs12 m2 ⊢;have m1':=m1.ext hB12;refine qv6 (n:=7) (b:=true) m2 (by decide) λw13 m3 hc13 hs13=>?_;refine qv6 (n:=25) (b:=true) m3 (by decide) λw14 m4 hc14 hs14=>?_;have hc24:Chg (λk=>k=w11.heap.size) w12 w14:=hc13.trans hc14 λi _ hi=>hi;have m1'':=m1'.chg hc24 (by omega);have hB14:Uc w10 w14:=xc (zm hB11 hB12) hc24 (by omega);have h14:=h10.ext hB14;have c14:=QR c10 (Chg.of_ext hB14);have st14:=st10.keep (Chg.of_ext (S:=λ_=>False) hB14) (λe=>e) λe=>e;simp only [onPtr_some];rw [qB];refine qz h14.blk (by simp [qy.rep]) λw15 hb15 hg15 hs15=>?_;rw [qB];refine qz hb15 (by simp [qy.rep,putL]) λw16 hb16 hg16 hs16=>?_;have c46:Chg (λk=>k=g) w14 w16:=QR (Chg.gg hg15) (Chg.gg hg16);have s10:=c10.size;have htr10:=st10.map.lt;have hgl:=h10.blk.lt;refine hK tg tr w10.heap.size w11.heap.size w16 (by omega) (by omega) (by omega) (by omega) ?_ (QR c14 c46);have hX:ScR w16 base g (scX ⟨f0,f1,tg,tr,w10.heap.size,w11.heap.size,ar⟩ (qyq G0 G1 az)) f0 f1 G0 G1 ar az:=by
  refine h14.step c46 (X':=scX ⟨f0,f1,tg,tr,w10.heap.size,w11.heap.size,ar⟩ (qyq G0 G1 az)) ?_ ?_ ?_
  ·have e1:X.grids=⟨some ⟨f0.g,0,none⟩,some ⟨f1.g,0,none⟩⟩:=h.gr;have e2:X.areas=ar:=h.xa;rw [e1,e2] at hb16;exact hb16
  ·exact h.gr.symm
  ·exact h.xa.symm
 refine hX.fin (st14.keep c46 (λe=>hgt.1 e.symm) λe=>hgt.2 e.symm) ⟨by dsimp only;omega,by dsimp only;omega⟩ (m1''.chg c46 (by omega)) (m4.chg c46 (by omega)) ⟨by dsimp only;omega,by dsimp only;omega⟩ ⟨by dsimp only;omega,by dsimp only;omega,by dsimp only;omega⟩ ?_;have b1:=hG0.rows;have b2:=hG0.cols;exact ⟨hG0,hG1,hr,hc,⟨Int.le_refl 0,by show (0:Int)<(G0.rows:Int);omega⟩,⟨Int.le_refl 0,by show (0:Int)<(G0.cols:Int);omega⟩,.inl rfl,.inl rfl,.inl rfl,⟨by show (0:Int)<=0;omega,by show (0:Int)<(G0.rows:Int);omega,by show (G0.rows:Int)<=G0.rows;omega⟩,λhh=>by
  show (0:Int)+2<=(G0.rows:Int);have hh:2<=G0.rows:=hh;omega,by show (KK [] G0.cols).length=G0.cols;exact resz_length _ _⟩
def okC (c:qI):Prop:=(1<=c.Rows/\c.Rows<=1000)/\(1<=c.Cols/\c.Cols<=1000)/\(1<=c.CellW/\c.CellW<=64)/\(1<=c.CellH/\c.CellH<=64)/\(0<=c.Back/\c.Back<=16384)/\(0<=c.Quota/\c.Quota<=1073741824)
theorem qyi {c:qI} {K:Int->Ub} (h1:okC c->∀w',Uc w w'->K 0 w') (h2:¬okC c->∀w',Uc w w'->K 1 w'):Ys c w K:=by
 refine qoi _ ?_;refine nwb λw1 hb1 hB1 hs1=>?_;refine lI (x:=c.Rows) (hb1.cells 0 _ rfl) (kn (cO (λe1=>?_) λe=>h2 (λhh=>oFq e hh.1) w1 hB1));refine lI (x:=c.Cols) (hb1.cells 1 _ rfl) (kn (cO (λe2=>?_) λe=>h2 (λhh=>oFq e hh.2.1) w1 hB1));refine lI (x:=c.CellW) (hb1.cells 2 _ rfl) (kn (cO (λe3=>?_) λe=>h2 (λhh=>oFq e hh.2.2.1) w1 hB1));refine lI (x:=c.CellH) (hb1.cells 3 _ rfl) (kn (cO (λe4=>?_) λe=>h2 (λhh=>oFq e hh.2.2.2.1) w1 hB1));refine lI (x:=c.Back) (hb1.cells 4 _ rfl) (kn (cO (λe5=>?_) λe=>h2 (λhh=>oFq e hh.2.2.2.2.1) w1 hB1));refine lI (x:=c.Quota) (hb1.cells 5 _ rfl) (kn (cO (λe6=>?_) λe=>h2 (λhh=>oFq e hh.2.2.2.2.2) w1 hB1));exact h1 ⟨oTq e1,oTq e2,oTq e3,oTq e4,oTq e5,oTq e6⟩ w1 hB1
def zdx (rows cols back:Nat):Sc:=qyq (gs0 rows cols back) (gs0 rows cols 0) []
theorem q7s {c:qI} {K:Option Addr->Int->Ub} (hK1:¬okC c->∀w',Uc w w'->K none 1 w')
  (hK2:okC c->∀g F w',ScM w' w.heap.size g F (zdx c.Rows.toNat c.Cols.toNat c.Back.toNat)->Uc w w'->K (some ⟨g,0,none⟩) 0 w'):qe1 c w K:=by
 refine qrd _ ?_;refine nwb λw1 hb1 hB1 hs1=>?_;refine qw (r:=qI.rep) (x:=c) hb1.cells ?_;refine qyi (λhok w2 hB2=>cF rfl ?_) λhok w2 hB2=>cT rfl (hK1 hok w2 (zm hB1 hB2));obtain ⟨o1,o2,o3,o4,o5,o6⟩:=hok;refine nwb λw3 hb3 hB3 hs3=>?_;have B3:=zm (zm hB1 hB2) hB3;have hc3:=(hb1.ext hB2).ext hB3;have s3:=B3.size;have s2:=hB2.size;refine lI (x:=c.Rows) (hc3.drew.cells 0 _ rfl) (lI (x:=c.Cols) (hc3.drew.cells 1 _ rfl) (lI (x:=c.Back) (hc3.drew.cells 4 _ rfl) ?_));have ng:¬qai c.Rows c.Cols c.Back:=by unfold qai;omega
 have ng0:¬qai c.Rows c.Cols 0:=by unfold qai;omega
 refine qv3 (λhbad=>absurd hbad ng) λ_ f0 w4 g0 hB4=>?_;have z3:w3.drew.heap.size=w3.heap.size:=rfl;have B34:Uc w3 w4:=zm (zk w3) hB4;have hb4:=hb3.ext B34;have hc4:=hc3.ext B34;have s4:=B34.size;refine ⟨⟨by decide,by decide⟩,?_⟩;rw [qB,qB];refine qz hb4 (by simp) λw5 hb5 hg5 hs5=>?_;have c5:Chg (λk=>k=w2.heap.size) w4 w5:=Chg.gg hg5;have hC5:∀k cs,k=w2.heap.size->¬Blk w4 k qT cs:=λk cs hk hcs=>by subst hk;exact hb4.ne_t hcs (by decide) rfl
 have g0':=g0.chg c5 (λk hk e=>by have:=(g0.below k hk).1;omega) hC5;have hc5:=hc4.chg c5 (by omega);refine lI (x:=c.Rows) (hc5.drew.cells 0 _ rfl) (lI (x:=c.Cols) (hc5.drew.cells 1 _ rfl) ?_);refine qv3 (λhbad=>absurd hbad ng0) λ_ f1 w6 g1 hB6=>?_;have z5:w5.drew.heap.size=w5.heap.size:=rfl;have B56:Uc w5 w6:=zm (zk w5) hB6;have hb6:=hb5.ext B56;have g0'':=g0'.ext B56;have s6:=B56.size;refine ⟨⟨by decide,by decide⟩,?_⟩;rw [qB,qB];refine qz hb6 (by simp [putL]) λw7 hb7 hg7 hs7=>?_;have c7:Chg (λk=>k=w2.heap.size) w6 w7:=Chg.gg hg7;have hC7:∀k cs,k=w2.heap.size->¬Blk w6 k qT cs:=λk cs hk hcs=>by subst hk;exact hb6.ne_t hcs (by decide) rfl
 have q0:=g0''.chg c7 (λk hk e=>by have:=(g0''.below k hk).1;omega) hC7;have q1:=g1.chg c7 (λk hk e=>by have:=(g1.below k hk).1;omega) hC7;have B7:Uc w w7:=by
  have b1:=zm B3 B34;have b2:=b1.trans (c5.below (B:=w.heap.size) b1.size λi hi e=>by omega);have b3:=zm b2 B56;exact b3.trans (c7.below (B:=w.heap.size) b3.size λi hi e=>by omega)
 have hR:ScR w7 w.heap.size w2.heap.size ⟨⟨some ⟨f0.g,0,none⟩,some ⟨f1.g,0,none⟩⟩,0,⟨0,0,false,⟨0,0,0⟩,false,⟨0,0⟩,0⟩,⟨qgf,qgf⟩,none,none,0,0,none,0,⟨none,0,0⟩⟩ f0 f1 (gs0 c.Rows.toNat c.Cols.toNat c.Back.toNat) (gs0 c.Rows.toNat c.Cols.toNat (0:Int).toNat) ⟨none,0,0⟩ []:=by
  refine ⟨hb7,rfl,rfl,by omega,q0.base (by omega),q1.base (by omega),Go.Vc.Own.nil _ _ _,λk hk hk'=>?_⟩;have h1:=(g0.below k hk).2;have h2:=(g1.below k hk').1;omega
 have hG0:GOk (gs0 c.Rows.toNat c.Cols.toNat c.Back.toNat):=GOk.new (by omega) (by omega) (by omega);have hG1:GOk (gs0 c.Rows.toNat c.Cols.toNat (0:Int).toNat):=GOk.new (by omega) (by omega) (by decide);refine q0s hR hG0 hG1 rfl rfl B7.size λtg tr mm mp w8 h1 h2 h3 h4 hM hc=>?_;exact hK2 ⟨o1,o2,o3,o4,o5,o6⟩ _ _ w8 hM (B7.trans (hc.below B7.size λi hi e=>by omega))
end
def zb9 (x:Int):Prop:=-9223372036854775808<=x/\x<=9223372036854775807
structure ParM (w:World) (g:Nat) (F:ScF) (p:Slc) (ps:List Int):Prop where
 rd:Rd zX w p ps
 off:ps=[]\/∀a,p.a=some a->¬scS g F a.block/\a.block<w.heap.size
 rng:∀x∈ps,zb9 x
 len:ps.length<=100000
section
variable {w w':World} {base g:Nat} {F F':ScF} {S S':Sc} {p:Slc} {ps:List Int}
theorem ParM.ext (h:ParM w g F p ps) (hB:Uc w w'):ParM w' g F p ps:=by
 have:=hB.size;exact ⟨h.rd.ext hB,h.off.imp (λe=>e) λe a ha=>⟨(e a ha).1,by have:=(e a ha).2;omega⟩,h.rng,h.len⟩
theorem ScM.ldRow (h:ScM w base g F S) {K:Int->Prop} (hK:K S.c.Row):ldI .i64 (((⟨g,0,none⟩:Addr).add 3).add 0) w K:=lI (x:=S.c.Row) (by simp only [qB];exact h.blk.cell 3 rfl) hK
theorem ScM.ldCol (h:ScM w base g F S) {K:Int->Prop} (hK:K S.c.Col):ldI .i64 (((⟨g,0,none⟩:Addr).add 3).add 1) w K:=lI (x:=S.c.Col) (by simp only [qB];exact h.blk.cell 4 rfl) hK
theorem ScM.ldOrg (h:ScM w base g F S) {K:Bool->Prop} (hK:K S.c.Origin):ldB (((⟨g,0,none⟩:Addr).add 3).add 6) w K:=jY (x:=S.c.Origin) (by simp only [qB];exact h.blk.cell 9 rfl) hK
theorem ScM.ldTop (h:ScM w base g F S) {K:Int->Prop} (hK:K S.top):ldI .i64 ((⟨g,0,none⟩:Addr).add 37) w K:=lI (x:=S.top) (by simp only [qB];exact h.blk.cell 37 rfl) hK
theorem ScM.cCol (h:ScM w base g F S):w.cell? (((⟨g,0,none⟩:Addr).add 3).add 1)=some (Ua S.c.Col):=by simp only [qB];exact h.blk.cell 4 rfl
theorem qlt (h:ParM w g F p ps) {i:Nat} {none:Int} {K:Int->Ub} (hK:K (quk ps i none) w):yj p i none w K:=by
 refine qn3 _ _ _ ?_;refine jpO λJ1 hJ1=>?_;have hn:=h.rd.n;unfold quk at hK;refine cO (λe=>?_) λe=>?_
 ·have e:=oTq e;rw [List.getElem?_eq_none (by omega)] at hK;exact hK
 ·have e:=oFq e;have hi:i<ps.length:=by omega
  rw [List.getElem?_eq_getElem hi] at hK;refine h.rd.ix rfl (by omega) (by omega) λhc=>?_;have hc':w.cell? (p.at_ zX.k (i:Int).toNat)=some (Ua ps[i]):=by simpa using hc 0 _ rfl
  refine lI (x:=ps[i]) hc' ?_;dsimp only at hK;refine cO (λe1=>?_) λe1=>?_
  ·have e1:ps[i]=0:=eq_of_beq e1;rw [if_pos e1] at hK;exact hK
  ·have e1:¬ps[i]=0:=beq_eq_false_iff_ne.1 e1;rw [if_neg e1] at hK;exact hJ1 _ _ (h.rd.ix rfl (by omega) (by omega) λ_=>lI (x:=ps[i]) hc' hK)
theorem ScM.w64n (n:Int):zb9 (w64 n):=by
 have h:w64 n=(n+9223372036854775808)%18446744073709551616-9223372036854775808:=by
  unfold w64 IntKind.wrap;simp [IntKind.bits,IntKind.signed]
  try omega
 unfold zb9;omega
end
theorem or2 {K:Bool×Unit->Ub} {c a b:Int} {w:World} (h1:c=a\/c=b->K (true,()) w) (h2:¬(c=a\/c=b)->K (false,()) w):qV K λJ=>cond (c==a) (J ((c==a),()) w) (J ((c==b),()) w):=by
 intro J hJ;refine cO (λe=>?_) λe=>?_
 ·rw [e];exact hJ _ _ (h1 (.inl (eq_of_beq e)))
 ·cases e2:(c==b)
  ·exact hJ _ _ (h2 λhh=>hh.elim (beq_eq_false_iff_ne.1 e) (beq_eq_false_iff_ne.1 e2))
  ·exact hJ _ _ (h1 (.inr (eq_of_beq e2)))
theorem or3 {K:Bool×Unit->Ub} {c a b d:Int} {w:World} (h1:c=a\/c=b\/c=d->K (true,()) w) (h2:¬(c=a\/c=b\/c=d)->K (false,()) w):qV K λJ=>cond (c==a) (J ((c==a),()) w) (cond (c==b) (J ((c==b),()) w) (J ((c==d),()) w)):=by
 intro J hJ;refine cO (λe=>?_) λe=>?_
 ·rw [e];exact hJ _ _ (h1 (.inl (eq_of_beq e)))
 ·exact or2 (K:=K) (λh=>h1 (.inr h)) (λh=>h2 λhh=>hh.elim (beq_eq_false_iff_ne.1 e) h) J hJ
theorem or4 {K:Bool×Unit->Ub} {c a b d f:Int} {w:World} (h1:c=a\/c=b\/c=d\/c=f->K (true,()) w) (h2:¬(c=a\/c=b\/c=d\/c=f)->K (false,()) w):qV K λJ=>cond (c==a) (J ((c==a),()) w) (cond (c==b) (J ((c==b),()) w) (cond (c==d) (J ((c==d),()) w) (J ((c==f),()) w))):=by
 intro J hJ;refine cO (λe=>?_) λe=>?_
 ·rw [e];exact hJ _ _ (h1 (.inl (eq_of_beq e)))
 ·exact or3 (K:=K) (λh=>h1 (.inr h)) (λh=>h2 λhh=>hh.elim (beq_eq_false_iff_ne.1 e) h) J hJ
theorem or5 {K:Bool×Unit->Ub} {c a b d f k:Int} {w:World} (h1:c=a\/c=b\/c=d\/c=f\/c=k->K (true,()) w) (h2:¬(c=a\/c=b\/c=d\/c=f\/c=k)->K (false,()) w):qV K λJ=>cond (c==a) (J ((c==a),()) w) (cond (c==b) (J ((c==b),()) w) (cond (c==d) (J ((c==d),()) w) (cond (c==f) (J ((c==f),()) w) (J ((c==k),()) w)))):=by
 intro J hJ;refine cO (λe=>?_) λe=>?_
 ·rw [e];exact hJ _ _ (h1 (.inl (eq_of_beq e)))
 ·exact or4 (K:=K) (λh=>h1 (.inr h)) (λh=>h2 λhh=>hh.elim (beq_eq_false_iff_ne.1 e) h) J hJ
namespace Sc
def modeP (S:Sc) (n:Int) (priv:Bool):Bool×Bool :=
 if priv=false then (S.mode n,decide (n=4\/n=20))
 else if n=6 then (S.c.Origin,true)
 else if n=47\/n=1047\/n=1049 then (S.alt,true)
 else if n=1\/n=7\/n=25\/n=1000\/n=2004 then (S.pmode n,true)
 else (false,false)
def placeRow (S:Sc):Int:=if S.c.Origin then (if 0>w64 (S.c.Row-S.top) then 0 else w64 (S.c.Row-S.top)) else S.c.Row
def placeP (S:Sc):List UInt8:=itoa (w64 (S.placeRow+1))++[59]++itoa (w64 (S.c.Col+1))
def bareR (S:Sc) (p:List Int) (c:Int):List UInt8 :=
 let zero:=quk p 0 0
 if c=110 then (if zero=5 then [27,91]++[48,110] else if zero=6 then [27,91]++(S.placeP++[82]) else [])
 else if c=99 then (if zero=0 then [27,91]++[63,54,50,59,52,99] else [])
 else []
end Sc
structure Ev where
 Kind:Int
 R:Int
 B:Int
 Private:Int
 Inter:List UInt8
 Params:List Int
namespace Sc
end Sc
section
variable {w w':World} {base g:Nat} {F F':ScF} {S S':Sc} {p:Slc} {ps:List Int}
theorem q7q (h:ScM w base g F S) {n:Int} {priv:Bool} {K:Bool->Bool->Ub} (hK:K (S.modeP n priv).1 (S.modeP n priv).2 w):yv (some ⟨g,0,none⟩) n priv w K:=by
 refine qdb _ _ _ ?_;simp only [onPtr_some];unfold Sc.modeP at hK;cases priv
 ·rw [if_pos rfl] at hK;refine cT rfl (xx (x:=some F.mm) (by rw [qB];exact h.blk.cell 35 rfl) (qi7 h.mo ?_));refine cO (λe=>?_) λe=>?_
  ·have e:n=4:=eq_of_beq e;rw [dTq (.inl e)] at hK;exact hK
  ·have e:¬n=4:=beq_eq_false_iff_ne.1 e;have e2:(n==20)=decide (n=4\/n=20):=by
    by_cases e3:n=20
    ·rw [dTq (.inr e3)];exact beq_iff_eq.2 e3
    ·rw [dFq (λhh=>hh.elim e e3)];exact beq_eq_false_iff_ne.2 e3
   rw [e2];exact hK
 ·rw [if_neg (by decide)] at hK;refine cF rfl ?_;refine cO (λe=>?_) λe=>?_
  ·rw [if_pos (eq_of_beq e)] at hK;exact h.ldOrg hK
  rw [if_neg (beq_eq_false_iff_ne.1 e)] at hK;refine or3 (λe=>cT rfl ?_) λe=>cF rfl ?_
  ·rw [if_pos e] at hK;exact qzm h hK
  rw [if_neg e] at hK;refine or5 (λe=>cT rfl ?_) λe=>cF rfl ?_
  ·rw [if_pos e] at hK;exact xx (x:=some F.mp) (by rw [qB];exact h.blk.cell 36 rfl) (qi7 h.pr hK)
  ·rw [if_neg e] at hK;exact hK
theorem qx5 (h:ScM w base g F S) (hT:Tab w) {K:ByteArray->Ub} (hK:∀w',Uc w w'->S.placeP.length<=50->K (qU S.placeP) w'):xW (some ⟨g,0,none⟩) w K:=by
 refine qa3 _ ?_;simp only [onPtr_some];refine h.ldRow (jpO λJ1 hJ1=>?_);have key:J1 (S.placeRow,()) w:=by
  refine hJ1 _ _ ?_;have hd:=(ScT.refl h).drew;refine hd.m.ldCol ?_;refine qpk (hT.ext (zk w)) (ScM.w64n _).1 (ScM.w64n _).2 λw2 hB2=>?_;have h2:=hd.ext hB2;have B2:=zm (zk w) hB2;have l1:=qm9 (ScM.w64n (S.placeRow+1)).1 (ScM.w64n (S.placeRow+1)).2;have l2:=qm9 (ScM.w64n (S.c.Col+1)).1 (ScM.w64n (S.c.Col+1)).2;have e59:(⟨#[59]⟩:ByteArray)=qU [59]:=rfl;show _/\(((qU (itoa (w64 (S.placeRow+1)))).size+_:Nat):Int)<=_/\_;refine ⟨h2.m.cCol,?_,?_⟩
  ·rw [e59,qY,qY];simp only [length_cons,length_nil];omega
  refine qpk ((hT.ext (zk w)).ext hB2) (ScM.w64n _).1 (ScM.w64n _).2 λw3 hB3=>?_;rw [e59,kB];have B3:=zm B2 hB3;show (((qU (itoa (w64 (S.placeRow+1))++[59])).size+(qU (itoa (w64 (S.c.Col+1)))).size:Nat):Int)<=_/\K (qU (itoa (w64 (S.placeRow+1))++[59])++qU (itoa (w64 (S.c.Col+1)))) w3;rw [kB];refine ⟨?_,hK w3 B3 ?_⟩
  ·rw [qY,qY,length_append];simp only [length_cons,length_nil];omega
  ·unfold Sc.placeP;rw [length_append,length_append];simp only [length_cons,length_nil];omega
 unfold Sc.placeRow at key;refine h.ldOrg (cO (λe=>?_) λe=>?_)
 ·rw [if_pos e] at key;exact h.ldTop key
 ·rw [if_neg (by rw [e];decide)] at key;exact key
theorem qlw {bs:List UInt8} (hl:bs.length<=1000) {K:Slc->Ub} (hK:∀q w',Rd qn w' q ([27,91]++bs)->Uc w w'->K q w'):xg (qU bs) w K:=by
 refine qm4 _ ?_;have e:(⟨#[27,91]⟩:ByteArray)=qU [27,91]:=rfl;rw [e,kB,qY,qY];refine ⟨by simp only [length_cons,length_nil];omega,?_⟩;exact qnd (by simp only [length_append,length_cons,length_nil];omega) λq w' hq _ hB _=>hK q w' hq hB
end
theorem qqz {s:Slc} {xs:List Slc} {w:World} {K:Slc->Ub} (h:Rd slE w s xs) (hl:xs.length<=1000000)
  (hK:∀r w',Go.Vc.Own slE w' w.heap.size r xs->Uc w w'->K r w'):zL s w K:=by
 refine Qf _ ?_;refine cO (λe=>?_) (λe=>?_)
 ·have:s.a=none:=by cases ha:s.a with
   | none=>rfl
   | some a=>rw [ha] at e;cases e
  rw [h.none_nil this] at hK;exact hK _ _ (Go.Vc.Own.nil _ _ _) (Below.refl _ _)
 ·refine nwb λw1 hb1 hB1 hs1=>?_;refine jN qip (qdj (E:=slE) hb1 (le_refl _)) (h.ext hB1) (by omega) (by rw [q0x];simp;omega) (by simp [maxLen];omega) λr w2 ho2 hg2 hr2=>?_;exact hK r w2 (by simpa using ho2) (hB1.grown hg2 (by omega) λg hg=>by cases hg;exact le_refl _)
section
variable {w w':World} {base g:Nat} {F F':ScF} {S S':Sc} {p:Slc} {ps:List Int} {f:Foot} {G:GS}
theorem q41 {K:Option Addr->Ub} (h:GridM w base f G) (hL:G.L.length<=1000) (hm:G.most<=100000) (hb:base<=w.heap.size)
  (hK:∀f' w',GridM w' base f' G->(∀k,xi f' k->w.heap.size<=k)->Uc w w'->K (some ⟨f'.g,0,none⟩) w'):X5 (some ⟨f.g,0,none⟩) w K:=by
 refine qjw _ ?_;simp only [onPtr_some];obtain ⟨ls,ho,hl⟩:=h.row;have hll:=hl.1;refine qw (r:=kq.rep) (x:=⟨some ⟨f.r,0,none⟩,G.rows,G.cols,f.ls,G.top⟩) h.blk.cells ?_;refine nwb λw1 hx1 hB1 hs1=>qcc hx1 rfl λw2 hx2 hc2 hs2=>?_;have hB2:Uc w w2:=xc hB1 hc2 (le_refl _);have h2:=h.ext hB2;refine qM (x:=some ⟨f.r,0,none⟩) (by rw [qB];exact h2.blk.cell 0 rfl) ?_;obtain ⟨at_,gone,rls,xss,hrb0,hro0,hrl,hbr,eold,hmost,hat⟩:=h.ring;have hrb:=hrb0.ext hB2;have hro:=hro0.ext hB2;refine Kc _ ?_;simp only [onPtr_some];refine qw (r:=zf.rep) (x:=⟨G.most,f.rs,at_,gone⟩) hrb.cells ?_;refine nwb λw3 hy3 hB3 hs3=>qcc hy3 rfl λw4 hy4 hc4 hs4=>?_;have hB4':Uc w2 w4:=xc hB3 hc4 (le_refl _);have hrb4:=hrb.ext hB4';refine lSl (x:=f.rs) (by rw [qB];exact hrb4.cell 1 rfl) ?_;have hro4:=hro.ext hB4';have hrll:=hrl.1;refine qqz hro4.rd (by omega) λq w5 hq5 hB5=>?_;have hy5:=hy4.ext hB5;simp only [qB];refine qz hy5 (by simp [zf.rep]) λw6 hy6 hg6 hs6=>?_;have z1:=hB1.size;have z5:=hB5.size;have hx4:=hx2.ext hB4';have hx5:=hx4.ext hB5;have hx6:=hx5.chg (Chg.gg hg6) (by omega);have hB6:Uc w2 w6:=xc (zm hB4' hB5) (Chg.gg hg6) (le_refl _);have hq6:=hq5.chg (Chg.gg hg6) λk hk e=>by have:=(hq5.lt k hk).1;omega
 refine qz hx6 (by simp [kq.rep]) λw7 hx7 hg7 hs7=>?_;have c7:Chg (λk=>k=w.heap.size) w6 w7:=Chg.gg hg7;have hy7:=hy6.chg c7 (by omega);have hq7:=hq6.chg c7 λk hk e=>by have:=(hq6.lt k hk).1;omega
 have hB7:Uc w w7:=xc (zm hB2 hB6) c7 (le_refl _);have h7:=h.ext hB7;refine lSl (x:=f.ls) (h7.blk.cell 3 rfl) ?_;have ho7:=ho.ext hB7;refine qqz ho7.rd (by omega) λt w8 ht8 hB8=>?_;have hx8:=hx7.ext hB8;refine qz hx8 (by simp [kq.rep,putL]) λw9 hx9 hg9 hs9=>?_;have c9:Chg (λk=>k=w.heap.size) w8 w9:=Chg.gg hg9;have z8:=hB8.size;have z7:=hB7.size;have hy9:=(hy7.ext hB8).chg c9 (by omega);have hq9:=(hq7.ext hB8).chg c9 λk hk e=>by have:=(hq7.lt k hk).1;omega
 have ht9:=ht8.chg c9 λk hk e=>by have:=(ht8.lt k hk).1;omega
 have hB9:Uc w w9:=xc (zm hB7 hB8) c9 (le_refl _);have hl9:=hl.ext hB9;have hrl9:=hrl.ext hB9;have z6:=hB6.size;have z2:=hB2.size;refine hK ⟨w.heap.size,w2.heap.size,t,q⟩ w9 ⟨hx9,hb,⟨ls,ht9.base (by omega),hl9⟩,⟨at_,gone,rls,xss,hy9,hq9.base (by omega),hrl9,by show base<=w2.heap.size;omega,eold,hmost,hat⟩,λk hk hk'=>?_⟩ ?_ hB9
 ·have h1:=(ht8.lt k hk).1;have h2:=(hq7.lt k hk').2;omega
 ·rintro k (rfl | rfl | hk | hk)
  ·exact le_refl _
  ·show w.heap.size<=w2.heap.size;omega
  ·have:=(ht8.lt k hk).1;omega
  ·have:=(hq5.lt k hk).1;have:=hB4'.size;omega
theorem q77 (h:ScM w base g F S) {K:Option Addr->Ub} (hK:∀f' w',GridM w' base f' S.g->(∀k,xi f' k->w.heap.size<=k)->ScM w' base g F S->Uc w w'->K (some ⟨f'.g,0,none⟩) w'):yD (some ⟨g,0,none⟩) w K:=by
 refine qcq _ ?_;refine qn1 h ?_;have hd:=h.drew;have hG:=h.gOk;refine q41 hd.gM (by rw [hG.len];exact hG.rows.2) (by have:=hG.most;omega) hd.base_le λf' w' hg hf hB=>?_;exact hK f' w' hg hf (hd.ext hB) (zm (zk w) hB)
theorem qt6 {n:Int} {K:ByteArray->Ub} (hK:K (qU (Utf8.encode n).data.toList) w):zJ PG (convert qL zn (.int .u8 n)) Kind.string w K:=by
 rw [zbk] at hK;exact ⟨_,w,run_convert_int_string w qL zn .u8 n (by kernel_rfl) (by kernel_rfl),hK⟩
theorem qt8 (n:Int) (h:0<=n/\n<=255):(Utf8.encode n).data.toList.length<=4:=by
 have hv:Utf8.valid n=true:=by
  unfold Utf8.valid;simp;omega
 by_cases h2:n<128
 ·unfold Utf8.encode;simp only [hv,if_true];rw [if_pos (by omega)];simp
 ·have:=(encode_facts n hv (by omega)).2.1;simpa using this
structure EvM (w:World) (g:Nat) (F:ScF) (e:zb) (v:Ev):Prop where
 k:e.Kind=v.Kind
 r:e.R=v.R
 b:e.B=v.B
 p:e.Private=v.Private
 i:e.Inter=qU v.Inter
 ps:ParM w g F e.Params v.Params
 br:0<=v.B/\v.B<=255
 pr:0<=v.Private/\v.Private<=255
 il:v.Inter.length<=100000
end
section
variable {w w':World} {base g:Nat} {F F':ScF} {S S':Sc} {p:Slc} {ps:List Int}
namespace Sc
end Sc
namespace Sc
def indexes (S:Sc):Nat->Sc
 | 0=>S
 | n+1=>(S.indexes n).index
def moveP (S:Sc) (rows cols:Int):Sc :=
 let S1:=if 0<=rows/\rows<=1000 then S.indexes rows.toNat else S
 if 0<=cols/\cols<=1000 then S1.to S1.c.Row (w64 (S1.c.Col+cols)) else S1
end Sc
theorem q7f (h:ScM w base g F S) {rows cols:Int} {K:Ub} (hK:∀F' w',ScT base g w F F' (S.moveP rows cols) w'->K w'):jw (some ⟨g,0,none⟩) rows cols w K:=by
 refine qc7 _ _ _ ?_;simp only [onPtr_some];unfold Sc.moveP at hK;dsimp only at hK;refine jpO λJ1 hJ1=>?_;have key:∀(S1:Sc) F1 w1,ScT base g w F F1 S1 w1->(∀F' w',ScT base g w F F' (if 0<=cols/\cols<=1000 then S1.to S1.c.Row (w64 (S1.c.Col+cols)) else S1) w'->K w')->J1 () w1:=by
  intro S1 F1 w1 hT1 hK;refine hJ1 _ _ (kn (cO (λe=>?_) λe=>?_))
  ·rw [if_pos (oTq e)] at hK;have hd:=hT1.drew;exact hd.m.ldRow (hd.m.ldCol (qr3 hd.m λw3 hT3=>hK _ _ (hd.trans hT3)))
  ·rw [if_neg (oFq e)] at hK;exact hK _ _ hT1
 refine kn (cO (λe=>?_) λe=>?_)
 ·have e:=oTq e;rw [if_pos e] at hK;refine lpR (λ(st:Int×Unit) w2=>∃(k:Nat) (F2:ScF),st.1=(k:Int)/\(k:Int)<=rows/\ScT base g w F F2 (S.indexes k) w2) (λst=>rows.toNat-st.1.toNat) ⟨0,F,rfl,by omega,ScT.refl h⟩ ?_;rintro ⟨i,u⟩ w2 ⟨k,F2,hi,hk,hT2⟩ I hI;dsimp only at hi ⊢;subst hi;refine cO (λe=>?_) λe=>?_
  ·have e:=oTq e;refine qmi hT2.m λF3 w3 hT3=>?_;rw [qP (x:=(k:Int)+1) (by omega)];exact hI _ _ ⟨k+1,F3,by simp,by omega,hT2.trans hT3⟩ (by dsimp only;omega)
  ·have e:=oFq e;have hkr:k=rows.toNat:=by omega
   rw [<-hkr] at hK;exact key _ _ _ hT2 hK
 ·rw [if_neg (oFq e)] at hK;exact key _ _ _ (ScT.refl h) hK
end
end Go.Proofs.YtokfefnmpjohpaaGreatDoor
