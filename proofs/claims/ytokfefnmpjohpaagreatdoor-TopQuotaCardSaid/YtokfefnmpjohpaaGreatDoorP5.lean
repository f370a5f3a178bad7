import Derived.Test.YtokfefnmpjohpaaGreatDoorP1
import Derived.Test.YtokfefnmpjohpaaGreatDoorP3
import Derived.Test.YtokfefnmpjohpaaGreatDoorP4
import Derived.Test.YtokfefnmpjohpaaGreatDoorP2
import Derived.Test.YtokfefnmpjohpaaGreatDoorVc
import Derived.RangeFuncCalls
import Derived.OrdersIn
import Derived.TacticsIn
set_option linter.unusedVariables false
namespace Go.Proofs.YtokfefnmpjohpaaGreatDoor
open Go.Vc Go.RowKit
set_option maxRecDepth 400000
open IntKind (i64)
open _root_.List (length_append length_cons length_nil mem_append mem_cons mem_singleton)
open _root_.Nat (add_mul le_refl le_trans mul_one zero_le)
structure TmF where
 tg:Nat
 sg:Nat
 SF:ScF
 eg:Nat
 KF:KF
 pg:Nat
 cq:Slc
 rq:Slc
structure TS where
 c:qL
 S:Sc
 E:KE
 n:Nat
 cmd:List UInt8
 long:Bool
 rep:List UInt8
 f0:Int
 f1:Int
def zf2 (F:TmF) (T:TS):List Value:=[.int .i64 T.c.Rows,.int .i64 T.c.Cols,.int .i64 T.c.CellW,.int .i64 T.c.CellH,.int .i64 T.c.Back,.int .i64 T.c.Quota,.pointer (some ⟨F.sg,0,none⟩),.pointer (some ⟨F.eg,0,none⟩),.pointer (some ⟨F.pg,0,none⟩),.pointer none,.slice F.cq.a F.cq.n F.cq.c,.bool T.long,.slice F.rq.a F.rq.n F.rq.c,.int .i64 T.f0,.int .i64 T.f1]
def YK (F:TmF) (k:Nat):Prop:=k=F.tg\/scS F.sg F.SF k\/kw F.eg F.KF k\/F.cq.blk=some k\/F.rq.blk=some k
structure TermM (w:World) (base:Nat) (F:TmF) (T:TS):Prop where
 blk:Blk w F.tg qf7 (zf2 F T)
 hg:base<=F.tg
 sc:ScM w base F.sg F.SF T.S
 en:EngM w base F.eg F.KF T.E T.n
 cq:Go.Vc.Own qm w base F.cq T.cmd
 rq:Go.Vc.Own qm w base F.rq T.rep
 dse:∀k,scS F.sg F.SF k->¬kw F.eg F.KF k
 dsi:∀k,scS F.sg F.SF k->¬vX T.E.S k
 dc:∀k,F.cq.blk=some k->¬scS F.sg F.SF k/\¬kw F.eg F.KF k/\¬vX T.E.S k/\F.rq.blk≠some k
 dr:∀k,F.rq.blk=some k->¬scS F.sg F.SF k/\¬kw F.eg F.KF k/\¬vX T.E.S k
 dt:¬scS F.sg F.SF F.tg/\¬kw F.eg F.KF F.tg
 ld:T.E.ld=none
 tab:Tab w
 b4:4<=base
section
variable {w w':World} {base:Nat} {F F':TmF} {T T':TS}
theorem qnc {w:World} {base g n:Nat} {F:KF} {E:KE} (h:EngM w base g F E n) {k:Nat} (hk:vX E.S k):base<=k/\∃cs,Blk w k qN cs:=by
 obtain ⟨p,hp,hb⟩:=hk;exact (h.st.img p hp).blk k hb
theorem TermM.img_tg (h:TermM w base F T):¬vX T.E.S F.tg:=λhk=>by
 obtain ⟨_,cs,hb⟩:=qnc h.en hk;exact h.blk.ne_t hb (by decide) rfl
theorem TermM.below (h:TermM w base F T):∀k,YK F k->base<=k/\k<w.heap.size:=by
 rintro k (rfl | hk | hk | hk | hk)
 ·exact ⟨h.hg,h.blk.lt⟩
 ·exact h.sc.below k hk
 ·exact h.en.below k hk
 ·exact h.cq.lt k hk
 ·exact h.rq.lt k hk
theorem TermM.far (h:TermM w base F T):far (YK F) w:=by
 rintro k cs (rfl | hk | hk | hk | hk) hb
 ·exact h.blk.ne_t hb (by decide) rfl
 ·exact h.sc.notC k cs hk hb
 ·rcases hk with rfl | (rfl | rfl) | (rfl | hk) | hk
  ·exact h.en.blk.ne_t hb (by decide) rfl
  ·exact h.en.st.blk.ne_t hb (by decide) rfl
  ·exact h.en.st.map.ne_blk hb rfl
  ·exact h.en.tb.blk.ne_t hb (by decide) rfl
  ·exact qF h.en.tb.own hb (by decide) k hk rfl
  ·exact h.en.nl h.ld k hk
 ·exact qF h.cq hb (by decide) k hk rfl
 ·exact qF h.rq hb (by decide) k hk rfl
theorem TermM.keep {X:Nat->Prop} (h:TermM w base F T) (hc:Chg X w w') (hX:∀k,YK F k->¬X k) (hi:∀k,vX T.E.S k->¬X k) (hf:Go.Proofs.YtokfefnmpjohpaaGreatDoor.far X w) (ht:Tab w'):TermM w' base F T :=
 ⟨h.blk.chg hc (hX _ (.inl rfl)),h.hg,h.sc.keep hc (λk hk=>hX k (.inr (.inl hk))) hf,h.en.chgS hc (λk hk=>hX k (.inr (.inr (.inl hk)))) hi,h.cq.chg hc λk hk=>hX k (.inr (.inr (.inr (.inl hk)))),h.rq.chg hc λk hk=>hX k (.inr (.inr (.inr (.inr hk)))),
  h.dse,h.dsi,h.dc,h.dr,h.dt,h.ld,ht,h.b4⟩
theorem TermM.ext (h:TermM w base F T) (hB:Uc w w'):TermM w' base F T:=h.keep (Chg.of_ext (S:=λ_=>False) hB) (λ_ _ h=>h) (λ_ _ h=>h) (λ_ _ h=>h.elim) (h.tab.ext hB)
theorem TermM.drew (h:TermM w base F T):TermM w.drew base F T:=h.ext ((Below.refl _ w).drew)
theorem TermM.base_le (h:TermM w base F T):base<=w.heap.size:=le_trans h.hg (Nat.le_of_lt h.blk.lt)
structure TmT (base:Nat) (w:World) (F F':TmF) (T':TS) (w':World):Prop where
 m:TermM w' base F' T'
 old:∀k,YK F' k->YK F k\/w.heap.size<=k
 chg:Chg (YK F) w w'
 tg:F'.tg=F.tg
 pg:F'.pg=F.pg
theorem TmT.trans {w1 w2:World} {F1 F2:TmF} {T1 T2:TS} (h:TmT base w F F1 T1 w1) (h2:TmT base w1 F1 F2 T2 w2):TmT base w F F2 T2 w2:=by
 have hs:=h.chg.size;refine ⟨h2.m,λk hk=>?_,h.chg.trans h2.chg λi hi hk=>?_,h2.tg.trans h.tg,h2.pg.trans h.pg⟩
 ·rcases h2.old k hk with h3 | h3
  ·exact h.old k h3
  ·right;omega
 ·rcases h.old i hk with h3 | h3
  ·exact h3
  ·omega
theorem TmT.of_ext (h:TermM w base F T) (hB:Uc w w'):TmT base w F F T w':=⟨h.ext hB,λk hk=>.inl hk,Chg.of_ext hB,rfl,rfl⟩
theorem TmT.drew {F1:TmF} {T1:TS} {w1:World} (h:TmT base w F F1 T1 w1):TmT base w F F1 T1 w1.drew:=h.trans (TmT.of_ext h.m ((Below.refl _ w1).drew))
theorem TmT.ext {F1:TmF} {T1:TS} {w1 w2:World} (h:TmT base w F F1 T1 w1) (hB:Uc w1 w2):TmT base w F F1 T1 w2:=h.trans (TmT.of_ext h.m hB)
theorem TermM.belowB (h:TermM w base F T) (hT:TmT base w F F' T' w'):Below base w w':=hT.chg.below h.base_le λi hi hs=>by have:=(h.below i hs).1;omega
theorem qb5 {X:Nat->Prop} (h:TermM w base F T) (hc:Chg X w w') (hX:∀k,X k->base<=k):Tab w':=h.tab.below4 ((hc.below h.base_le λi hi hs=>by have:=hX i hs;omega).mono (by have:=h.b4;omega))
theorem TermM.put (h:TermM w base F T) {F':TmF} {T':TS} (hb:Blk w' F.tg qf7 (zf2 F' T')) (hc:Chg (λk=>k=F.tg) w w') (e1:F'.tg=F.tg) (e2:F'.sg=F.sg) (e3:F'.SF=F.SF) (e4:F'.eg=F.eg) (e5:F'.KF=F.KF) (e0:F'.pg=F.pg) (s1:T'.S=T.S) (s2:T'.E=T.E) (s3:T'.n=T.n)
  (cq:Go.Vc.Own qm w base F'.cq T'.cmd) (rq:Go.Vc.Own qm w base F'.rq T'.rep) (bc:∀k,F'.cq.blk=some k->F.cq.blk=some k) (br:∀k,F'.rq.blk=some k->F.rq.blk=some k):TmT base w F F' T' w':=by
 obtain ⟨tg,sg,SF',eg,KF',pg,cq',rq'⟩:=F';obtain ⟨c',S',E',n',cmd',long',rep',f0',f1'⟩:=T';dsimp only at *;subst e1 e2 e3 e4 e5 s1 s2 s3;have ht:Tab w':=qb5 h hc λk e=>by rw [e];exact h.hg
 refine ⟨⟨hb,h.hg,h.sc.keep hc (λk hk e=>h.dt.1 (e ▸ hk)) (λk cs e hk=>by subst e;exact h.blk.ne_t hk (by decide) rfl),h.en.chgS hc (λk hk e=>h.dt.2 (e ▸ hk)) (λk hk e=>h.img_tg (e ▸ hk)),cq.chg hc (qF cq h.blk (by decide)),rq.chg hc (qF rq h.blk (by decide)),
  h.dse,h.dsi,λk hk=>⟨(h.dc k (bc k hk)).1,(h.dc k (bc k hk)).2.1,(h.dc k (bc k hk)).2.2.1,λe=>(h.dc k (bc k hk)).2.2.2 (br k e)⟩,λk hk=>h.dr k (br k hk),h.dt,h.ld,ht,h.b4⟩,λk hk=>.inl ?_,hc.mono λk _ e=>.inl e,rfl,e0⟩
 rcases hk with hk | hk | hk | hk | hk
 ·exact .inl hk
 ·exact .inr (.inl hk)
 ·exact .inr (.inr (.inl hk))
 ·exact .inr (.inr (.inr (.inl (bc k hk))))
 ·exact .inr (.inr (.inr (.inr (br k hk))))
theorem TermM.screen (h:TermM w base F T) {SF':ScF} {S':Sc} (hT:ScT base F.sg w F.SF SF' S' w'):TmT base w F { F with SF:=SF' } { T with S:=S' } w':=by
 have hc:=hT.chg;have ht:Tab w':=qb5 h hc λk hk=>(h.sc.below k hk).1;have nx:∀{X:Nat->Prop},(∀k,scS F.sg F.SF k->¬X k)->(∀k,X k->k<w.heap.size)->∀k,scS F.sg SF' k->¬X k:=λh1 h2 k hk hx=>by
  rcases hT.old k hk with h3 | h3
  ·exact h1 k h3 hx
  ·have:=h2 k hx;omega
 refine ⟨⟨h.blk.chg hc λhk=>h.dt.1 hk,h.hg,hT.m,h.en.chgS hc (λk hk hs=>h.dse k hs hk) (λk hk hs=>h.dsi k hs hk),h.cq.chg hc λk hk=>(h.dc k hk).1,h.rq.chg hc λk hk=>(h.dr k hk).1,
  nx h.dse λk hk=>(h.en.below k hk).2,nx h.dsi λk hk=>by obtain ⟨_,cs,hb⟩:=qnc h.en hk;exact hb.lt,λk hk=>⟨λhs=>?_,(h.dc k hk).2⟩,λk hk=>⟨λhs=>?_,(h.dr k hk).2⟩,⟨λhs=>?_,h.dt.2⟩,h.ld,ht,h.b4⟩,λk hk=>?_,hc.mono λk _ hk=>.inr (.inl hk),rfl,rfl⟩
 ·exact nx (X:=λj=>j=k) (λj hj e=>(h.dc k hk).1 (e ▸ hj)) (λj e=>by rw [e];exact (h.cq.lt k hk).2) k hs rfl
 ·exact nx (X:=λj=>j=k) (λj hj e=>(h.dr k hk).1 (e ▸ hj)) (λj e=>by rw [e];exact (h.rq.lt k hk).2) k hs rfl
 ·exact nx (X:=λj=>j=F.tg) (λj hj e=>h.dt.1 (e ▸ hj)) (λj e=>by rw [e];exact h.blk.lt) F.tg hs rfl
 ·rcases hk with hk | hk | hk | hk | hk
  ·exact .inl (.inl hk)
  ·rcases hT.old k hk with h3 | h3
   ·exact .inl (.inr (.inl h3))
   ·exact .inr h3
  ·exact .inl (.inr (.inr (.inl hk)))
  ·exact .inl (.inr (.inr (.inr (.inl hk))))
  ·exact .inl (.inr (.inr (.inr (.inr hk))))
theorem TermM.engine (h:TermM w base F T) {KF':KF} {E':KE} {n':Nat} (hT:EngT base F.eg w F.KF KF' E' n' w') (hi:∀k,vX E'.S k->vX T.E.S k\/w.heap.size<=k) (hl:E'.ld=none):TmT base w F { F with KF:=KF' } { T with E:=E',n:=n' } w':=by
 have hc:=hT.chg;have ht:Tab w':=qb5 h hc λk hk=>(h.en.below k hk).1;have fe:Go.Proofs.YtokfefnmpjohpaaGreatDoor.far (kw F.eg F.KF) w:=λk cs hk=>h.far k cs (.inr (.inr (.inl hk)));have nx:∀{k},k<w.heap.size->¬kw F.eg F.KF k->¬kw F.eg KF' k:=λh1 h2 hs=>by
  rcases hT.old _ hs with h3 | h3
  ·exact h2 h3
  ·omega
 have ni:∀{k},k<w.heap.size->¬vX T.E.S k->¬vX E'.S k:=λh1 h2 hs=>by
  rcases hi _ hs with h3 | h3
  ·exact h2 h3
  ·omega
 refine ⟨⟨h.blk.chg hc λhk=>h.dt.2 hk,h.hg,h.sc.keep hc (λk hk hs=>h.dse k hk hs) fe,hT.m,h.cq.chg hc λk hk=>(h.dc k hk).2.1,h.rq.chg hc λk hk=>(h.dr k hk).2.1,
  λk hk=>nx (h.sc.below k hk).2 (h.dse k hk),λk hk=>ni (h.sc.below k hk).2 (h.dsi k hk),λk hk=>⟨(h.dc k hk).1,nx (h.cq.lt k hk).2 (h.dc k hk).2.1,ni (h.cq.lt k hk).2 (h.dc k hk).2.2.1,(h.dc k hk).2.2.2⟩,
  λk hk=>⟨(h.dr k hk).1,nx (h.rq.lt k hk).2 (h.dr k hk).2.1,ni (h.rq.lt k hk).2 (h.dr k hk).2.2⟩,⟨h.dt.1,nx h.blk.lt h.dt.2⟩,hl,ht,h.b4⟩,λk hk=>?_,hc.mono λk _ hk=>.inr (.inr (.inl hk)),rfl,rfl⟩
 rcases hk with hk | hk | hk | hk | hk
 ·exact .inl (.inl hk)
 ·exact .inl (.inr (.inl hk))
 ·rcases hT.old k hk with h3 | h3
  ·exact .inl (.inr (.inr (.inl h3)))
  ·exact .inr h3
 ·exact .inl (.inr (.inr (.inr (.inl hk))))
 ·exact .inl (.inr (.inr (.inr (.inr hk))))
theorem TermM.replied (h:TermM w base F T) {q:Slc} {xs:List UInt8} (ho:Go.Vc.Own qm w' base q (T.rep++xs)) (hc:Chg (λk=>F.rq.blk=some k) w w') (hq:q.blk=F.rq.blk\/q.blk=some w.heap.size) {K:Ub}
  (hK:∀w2,TmT base w F { F with rq:=q } { T with rep:=T.rep++xs } w2->K w2):stK ((⟨F.tg,0,none⟩:Addr).add 12) [(.slice q.a q.n q.c)] w' K:=by
 have hs:=hc.size;have hb:=h.blk.chg hc (qF h.rq h.blk (by decide) _ · rfl);rw [q4];refine qw hb (by show 0+12+1<=15;omega) λw2 hb2 hg2 hs2=>hK w2 ?_;have c2:Chg (λk=>F.rq.blk=some k\/k=F.tg) w w2:=(hc.mono λk _ e=>.inl e).trans (Chg.gg hg2) λk _ e=>.inr e;have hq':∀k,q.blk=some k->F.rq.blk=some k\/w.heap.size<=k:=λk hk=>by
  rcases hq with e | e
  ·exact .inl (e ▸ hk)
  ·rw [e] at hk;cases hk;exact .inr (le_refl _)
 have nt:F.rq.blk≠some F.tg:=λe=>qF h.rq h.blk (by decide) _ e rfl;refine ⟨⟨hb2,h.hg,h.sc.keep c2 ?_ ?_,h.en.chgS c2 ?_ ?_,h.cq.chg c2 ?_,ho.chg (Chg.gg hg2) ?_,h.dse,h.dsi,λk hk=>?_,λk hk=>?_,h.dt,h.ld,qb5 h c2 ?_,h.b4⟩,λk hk=>?_,c2.mono λk _ hk=>?_,rfl,rfl⟩
 ·rintro k hk (e | e)
  ·exact (h.dr k e).1 hk
  ·exact h.dt.1 (e ▸ hk)
 ·rintro k cs (e | e) hb
  ·exact qF h.rq hb (by decide) k e rfl
  ·subst e;exact h.blk.ne_t hb (by decide) rfl
 ·rintro k hk (e | e)
  ·exact (h.dr k e).2.1 hk
  ·exact h.dt.2 (e ▸ hk)
 ·rintro k hk (e | e)
  ·exact (h.dr k e).2.2 hk
  ·exact h.img_tg (e ▸ hk)
 ·rintro k hk (e | e)
  ·exact (h.dc k hk).2.2.2 e
  ·exact qF h.cq h.blk (by decide) k hk e
 ·intro k hk e;rcases hq' k hk with h1 | h1
  ·exact nt (e ▸ h1)
  ·have:=h.blk.lt;omega
 ·refine ⟨(h.dc k hk).1,(h.dc k hk).2.1,(h.dc k hk).2.2.1,λe=>?_⟩;rcases hq' k e with h1 | h1
  ·exact (h.dc k hk).2.2.2 h1
  ·have:=(h.cq.lt k hk).2;omega
 ·rcases hq' k hk with h1 | h1
  ·exact h.dr k h1
  ·refine ⟨λhs=>?_,λhs=>?_,λhs=>?_⟩
   ·have:=(h.sc.below k hs).2;omega
   ·have:=(h.en.below k hs).2;omega
   ·obtain ⟨_,cs,hb⟩:=qnc h.en hs;have:=hb.lt;omega
 ·rintro k (e | e)
  ·exact (h.rq.lt k e).1
  ·rw [e];exact h.hg
 ·rcases hk with hk | hk | hk | hk | hk
  ·exact .inl (.inl hk)
  ·exact .inl (.inr (.inl hk))
  ·exact .inl (.inr (.inr (.inl hk)))
  ·exact .inl (.inr (.inr (.inr (.inl hk))))
  ·rcases hq' k hk with h1 | h1
   ·exact .inl (.inr (.inr (.inr (.inr h1))))
   ·exact .inr h1
 ·rcases hk with e | e
  ·exact .inr (.inr (.inr (.inr e)))
  ·exact .inl e
end
def qo2 (P:List UInt8) (W py:Nat) (c:List UInt8) (x0:Nat):Nat->List UInt8
 | 0=>P
 | k+1=>zat (qo2 P W py c x0 k) (4*(py*W+(x0+k))) c
def qg2 (P:List UInt8) (W:Nat) (c:List UInt8) (x0 nx y0:Nat):Nat->List UInt8
 | 0=>P
 | k+1=>qo2 (qg2 P W c x0 nx y0 k) W (y0+k) c x0 nx
def lo0 (x:Int):Nat:=(if 0>x then 0 else x).toNat
def hiN (x wx:Int) (W:Nat):Nat:=(if (W:Int)<x+wx then (W:Int) else x+wx).toNat
def qxx (P:List UInt8) (W H:Nat) (x y wx hx:Int) (c:List UInt8):List UInt8:=qg2 P W c (lo0 x) (hiN x wx W-lo0 x) (lo0 y) (hiN y hx H-lo0 y)
theorem q0j {m c:List UInt8} {k:Nat} (hk:k+4<=m.length) (hc:c.length=4):(zat m k c).length=m.length:=by
 unfold zat;simp only [length_append,List.length_take,List.length_drop];omega
theorem q4s {W H x y:Nat} (hx:x<W) (hy:y<H):4*(y*W+x)+4<=4*W*H:=by
 have h1:(y+1)*W<=H*W:=Nat.mul_le_mul_right W hy;rw [add_mul] at h1;have h2:4*W*H=4*(H*W):=by rw [Nat.mul_assoc,Nat.mul_comm W H]
 omega
theorem qe2 {W H py:Nat} {c:List UInt8} {x0:Nat} {P:List UInt8} (hP:P.length=4*W*H) (hc:c.length=4) (hy:py<H):∀n,x0+n<=W->(qo2 P W py c x0 n).length=4*W*H
 | 0,_=>hP
 | n+1,h=>by
  have ih:=qe2 (x0:=x0) hP hc hy n (by omega);show (zat _ _ _).length=_;rw [q0j (by rw [ih];exact q4s (x:=x0+n) (y:=py) (by omega) hy) hc,ih]
theorem qfh {W H:Nat} {c:List UInt8} {x0 nx y0:Nat} {P:List UInt8} (hP:P.length=4*W*H) (hc:c.length=4) (hx:x0+nx<=W\/nx=0):∀n,(y0+n<=H\/n=0)->(qg2 P W c x0 nx y0 n).length=4*W*H
 | 0,_=>hP
 | n+1,h=>by
  have ih:=qfh (y0:=y0) hP hc hx n (by omega);rcases hx with hx | rfl
  ·exact qe2 ih hc (by omega) nx hx
  ·exact ih
theorem zgb (x wx:Int) (W:Nat):lo0 x+(hiN x wx W-lo0 x)<=W\/hiN x wx W-lo0 x=0:=by
 unfold hiN lo0;split<;>split<;>omega
def zee (c:List UInt8) (r:qs):Prop:=c.length=4/\qs.rep.cells r=xh c
structure MatM (w:World) (base:Nat) (m:qa) (W H:Nat) (P:List UInt8):Prop where
 hw:m.W=W
 hh:m.H=H
 own:Go.Vc.Own qm w base m.P P
 len:P.length=4*W*H
 lim:1<=W/\W<=16384/\1<=H/\H<=16384/\4*W*H<=268435456
section
variable {w w':World} {base W H:Nat} {m:qa} {P:List UInt8}
theorem MatM.ext (h:MatM w base m W H P) (hB:Uc w w'):MatM w' base m W H P:=⟨h.hw,h.hh,h.own.ext hB,h.len,h.lim⟩
theorem MatM.some_ (h:MatM w base m W H P):∃g,m.P.a=some ⟨g,0,none⟩/\m.P.blk=some g:=by
 rcases h.own.form with ⟨_,e⟩ | ⟨g,cur,hs,_⟩
 ·have h1:=h.len;rw [e] at h1;have:=h.lim;have h2:1*1<=W*H:=Nat.mul_le_mul this.1 this.2.2.1;rw [Nat.mul_assoc] at h1;simp at h1;omega
 ·exact ⟨g,by rw [hs],by rw [hs];rfl⟩
theorem qqy (h:MatM w base m W H P) {x y wx hx:Int} (bx:-100000000<=x/\x<=100000000) (by_:-100000000<=y/\y<=100000000) (bw:-100000000<=wx/\wx<=100000000) (bh:-100000000<=hx/\hx<=100000000) {c:qs} {cb:List UInt8} (hc:zee cb c) {K:Ub}
  (hK:∀w',MatM w' base m W H (qxx P W H x y wx hx cb)->Chg (λk=>m.P.blk=some k) w w'->K w'):VY m x y wx hx c w K:=by
 refine qse _ _ _ _ _ _ ?_;obtain ⟨gm,ha,hbm⟩:=h.some_;have hlim:=h.lim;refine nwb λw1 hm1 hB1 hs1=>nwb λw2 hc2 hB2 hs2=>?_;have hB12:=bT hB1 hB2;have gl:=(h.own.lt gm hbm).2;have hm2:=hm1.ext hB2;have hm2l:=hm2.lt;have hc2l:=hc2.lt;have el:qs.rep.cells c=xh cb:=hc.2;have ewx:i64.wrap (x+wx)=x+wx:=qP (by omega);have ehx:i64.wrap (y+hx)=y+hx:=qP (by omega);obtain ⟨x0,hx0⟩:∃x0,x0=lo0 x:=⟨_,rfl⟩;obtain ⟨nx,hnx⟩:∃nx,nx=hiN x wx W-lo0 x:=⟨_,rfl⟩;obtain ⟨y0,hy0⟩:∃y0,y0=lo0 y:=⟨_,rfl⟩;obtain ⟨ny,hny⟩:∃ny,ny=hiN y hx H-lo0 y:=⟨_,rfl⟩;have lx:(x0:Int)=(if 0>x then 0 else x):=by rw [hx0];unfold lo0;split<;>omega
 have ly:(y0:Int)=(if 0>y then 0 else y):=by rw [hy0];unfold lo0;split<;>omega
 have cx:∀k:Nat,((x0:Int)+k<(if (W:Int)<x+wx then (W:Int) else x+wx))↔k<nx:=by
  intro k;rw [hnx];unfold hiN;rw [<-hx0];split<;>omega
 have cy:∀k:Nat,((y0:Int)+k<(if (H:Int)<y+hx then (H:Int) else y+hx))↔k<ny:=by
  intro k;rw [hny];unfold hiN;rw [<-hy0];split<;>omega
 have wx':=zgb x wx W;have hx':=zgb y hx H;rw [<-hnx,<-hx0] at wx';rw [<-hny,<-hy0] at hx';have hfin:qxx P W H x y wx hx cb=qg2 P W cb x0 nx y0 ny:=by unfold qxx;rw [hx0,hnx,hy0,hny]
 rw [hfin] at hK;have ld:∀{w3},Chg (λk=>k=gm) w2 w3->Blk w3 w.heap.size qq (qa.rep.cells m)/\Blk w3 w1.heap.size qJ (qs.rep.cells c):=λhc3=>⟨hm2.chg hc3 (by omega),hc2.chg hc3 (by have:=hB1.size;omega)⟩;rw [show (if (0:Int)>y then (0:Int) else y)=(y0:Int) from ly.symm];refine lpR (λ(st:Int×Unit) w3=>∃k:Nat,st.1=(y0:Int)+k/\(k<=ny)/\Go.Vc.Own qm w3 base m.P (qg2 P W cb x0 nx y0 k)/\Chg (λk=>k=gm) w2 w3) (λst=>ny-(st.1-(y0:Int)).toNat) ⟨0,by omega,zero_le _,h.own.ext hB12,Chg.refl _ _⟩ ?_;rintro ⟨i,u⟩ w3 ⟨k,hi,hk,ho3,hc3⟩ I hI;dsimp only at hi ⊢;subst hi;obtain ⟨hmm,hcc⟩:=ld hc3;refine lI (x:=(H:Int)) (by rw [<-h.hh];exact hmm.cells 1 _ rfl) ?_;rw [ehx];refine cO (λe=>?_) λe=>?_
 ·have hkn:k<ny:=(cy k).1 (oTq e);have hyH:y0+ny<=H:=hx'.resolve_right (by omega);have hlen:(qg2 P W cb x0 nx y0 k).length=4*W*H:=qfh h.len hc.1 wx' k (by omega);rw [show (if (0:Int)>x then (0:Int) else x)=(x0:Int) from lx.symm];refine lpR (λ(st:Int×Unit) w4=>∃j:Nat,st.1=(x0:Int)+j/\j<=nx/\Go.Vc.Own qm w4 base m.P (qo2 (qg2 P W cb x0 nx y0 k) W (y0+k) cb x0 j)/\Chg (λk=>k=gm) w2 w4) (λst=>nx-(st.1-(x0:Int)).toNat) ⟨0,by omega,zero_le _,ho3,hc3⟩ ?_;rintro ⟨i2,u2⟩ w4 ⟨j,hi2,hj,ho4,hc4⟩ I2 hI2;dsimp only at hi2 ⊢;subst hi2;obtain ⟨hmm4,hcc4⟩:=ld hc4;refine lI (x:=(W:Int)) (by rw [<-h.hw];exact hmm4.cells 0 _ rfl) ?_;rw [ewx];refine cO (λe=>?_) λe=>?_
  ·have hjn:j<nx:=(cx j).1 (oTq e);have hxW:x0+nx<=W:=wx'.resolve_right (by omega);have hl4:(qo2 (qg2 P W cb x0 nx y0 k) W (y0+k) cb x0 j).length=4*W*H:=qe2 hlen hc.1 (by omega) j (by omega);have hin:=q4s (W:=W) (H:=H) (x:=x0+j) (y:=y0+k) (by omega) (by omega);refine lSl (x:=m.P) (hmm4.drew.cells 2 _ rfl) (lI (x:=(W:Int)) (by rw [<-h.hw];exact hmm4.drew.cells 0 _ rfl) ?_);have eidx:i64.wrap ((4:Int)*i64.wrap (i64.wrap (((y0:Int)+(k:Int))*(W:Int))+((x0:Int)+(j:Int))))=((4*((y0+k)*W+(x0+j)):Nat):Int):=by
    have e1:((y0:Int)+(k:Int))*(W:Int)=(((y0+k)*W:Nat):Int):=by simp
    rw [e1];generalize (y0+k)*W=q at hin ⊢;rw [qP (x:=((q:Nat):Int)) (by omega),qP (x:=((q:Nat):Int)+((x0:Int)+(j:Int))) (by omega),qP (by omega)];omega
   rw [eidx];obtain ⟨o,hoo⟩:∃o,o=4*((y0+k)*W+(x0+j)):=⟨_,rfl⟩;rw [<-hoo] at hin ⊢;have ho5:Go.Vc.Own qm w4.drew base m.P (qo2 (qg2 P W cb x0 nx y0 k) W (y0+k) cb x0 j):=ho4.drew;refine ho5.rd.slK (l:=o) (m:=(qo2 (qg2 P W cb x0 nx y0 k) W (y0+k) cb x0 j).length) rfl (.inr rfl) (.inl ⟨rfl,rfl⟩) (by omega) (le_refl _) λ_=>?_;obtain ⟨cur,hcur,hcl,hct,hc1,hc2',hc3',hc4'⟩:=qy9 (c:=0) ho5 ha;have hcut:cut m.P.a o m.P.c qm.k=some ⟨gm,o,none⟩:=by
    unfold cut;rw [if_neg (by omega),ha];show some ((⟨gm,0,none⟩:Addr).add (o*1))=_;rw [q4,mul_one,Nat.zero_add]
   rw [hcut];have hrc:Rd qm w4.drew ⟨some ⟨w1.heap.size,0,none⟩,4,4⟩ cb:=by
    refine ⟨hc.1.symm,le_refl _,by simp [maxLen],λ_=>rfl,λi y hy=>?_⟩;have hbc':=hcc4.drew.cells i (.int .u8 (y.toNat:Int)) (by rw [el];unfold xh;rw [List.getElem?_map,hy];rfl);intro j v hj
    match j,hj with
    | 0,hj =>
     cases hj;show w4.drew.cell? (((⟨w1.heap.size,0,none⟩:Addr).add (i*1)).add 0)=_;rw [add_zero,mul_one];exact hbc'
    | j+1,hj=>simp [qm] at hj
   show jv PG (Builtin.copy_ #[qg,qg] zd #[(.slice (some ⟨gm,o,none⟩) ((qo2 (qg2 P W cb x0 nx y0 k) W (y0+k) cb x0 j).length-o) (m.P.c-o)),(.slice (some ((⟨w1.heap.size,0,none⟩:Addr).add (0*1))) 4 4)]) (Kind.int .i64) w4.drew _;rw [Nat.zero_mul,add_zero];refine zf6 (x:=⟨some ⟨w1.heap.size,0,none⟩,4,4⟩) (ys:=cb) (n:=4) hcur hrc (by rw [hc.1];omega) (by omega) λw6 hb6 hc6 hs6=>?_;rw [List.take_of_length_le (by rw [hc.1];omega)] at hb6;have ho6:=q73 (ys:=cb) (k:=o) ho5 ha hcur (by rw [hc.1];omega) hb6;rw [qP (x:=(x0:Int)+(j:Int)+1) (by omega)];refine hI2 _ _ ⟨j+1,by simp;omega,by omega,?_,(hc4.trans (Chg.of_ext (S:=λk=>k=gm) (bdw w4)) λ_ _ h=>h).trans hc6 λ_ _ h=>h⟩ (by dsimp only;omega);show Go.Vc.Own qm w6 base m.P (zat (qo2 (qg2 P W cb x0 nx y0 k) W (y0+k) cb x0 j) (4*((y0+k)*W+(x0+j))) cb);rw [<-hoo];have e4:cb.length=4:=hc.1;unfold zat;rw [<-e4];exact ho6
  ·have hjn:¬j<nx:=λhh=>oFq e ((cx j).2 hh);have:j=nx:=by omega
   subst this;rw [qP (x:=(y0:Int)+(k:Int)+1) (by omega)];exact hI _ _ ⟨k+1,by simp;omega,by omega,ho4,hc4⟩ (by dsimp only;omega)
 ·have hkn:¬k<ny:=λhh=>oFq e ((cy k).2 hh);have:k=ny:=by omega
  subst this;refine hK w3 ⟨h.hw,h.hh,ho3,qfh h.len hc.1 wx' k hx',h.lim⟩ ?_;refine (Chg.of_ext (S:=λk=>m.P.blk=some k) hB12).trans (hc3.mono λk' _ e=>?_) λ_ _ h=>h;show m.P.blk=some k';rw [e];exact hbm
end
def wht:List UInt8:=[229,229,229,255]
def zez:List UInt8:=[0,0,0,255]
def at0:qt:=⟨0,0,0⟩
section
variable {w w':World}
theorem qnf (c:qn) {K:qs->Ub} (hK:∀w',Uc w w'->K ⟨c.e0,c.e1,c.e2,255⟩ w'):zj c w K:=by
 refine qql _ ?_;refine nwb λw1 h1 hB1 hs1=>nwb λw2 h2 hB2 hs2=>?_;have h12:=h1.ext hB2;refine ⟨⟨by decide,by decide⟩,lI (x:=c.e0) (h12.cells 0 _ rfl) ⟨⟨by decide,by decide⟩,lI (x:=c.e1) (h12.cells 1 _ rfl) ⟨⟨by decide,by decide⟩,lI (x:=c.e2) (h12.cells 2 _ rfl) ?_⟩⟩⟩;refine zM (r:=qs.rep) (x:=⟨c.e0,c.e1,c.e2,255⟩) h2 rfl rfl λw3 hc3 hs3=>hK w3 ?_;exact b1o (bT hB1 hB2) hc3 hB1.size
theorem q2b {K:qn->Ub} (hK:∀w',Uc w w'->K ⟨229,229,229⟩ w'):Ke 15066597 w K:=by
 refine qqd _ ?_;refine nwb λw1 h1 hB1 hs1=>⟨by decide,by decide,?_⟩;refine zM (r:=qn.rep) (x:=⟨229,229,229⟩) h1 (by kernel_rfl) rfl λw3 hc3 hs3=>hK w3 ?_;exact b1o hB1 hc3 (le_refl _)
theorem qq1 (fore:Bool) {K:qn->Ub} (hK:∀w',Uc w w'->K (if fore then ⟨229,229,229⟩ else ⟨0,0,0⟩) w'):Yg 0 fore w K:=by
 refine qsc _ _ ?_;refine nwb λw1 h1 hB1 hs1=>?_;refine jpO λJ1 hJ1=>jpO λJ2 hJ2=>?_;refine qsf _ ?_;refine cT rfl (cF rfl (cT rfl (hJ2 _ _ ?_)));cases fore
 ·refine cT rfl ?_;refine zM (r:=qn.rep) (x:=⟨0,0,0⟩) h1 rfl rfl λw3 hc3 hs3=>hK w3 (b1o hB1 hc3 (le_refl _))
 ·refine cF rfl (cT rfl (q2b λw2 hB2=>?_));refine zM (r:=qn.rep) (x:=⟨229,229,229⟩) (h1.ext hB2) rfl rfl λw3 hc3 hs3=>hK w3 (b1o (bT hB1 hB2) hc3 (le_refl _))
theorem qoh {K:qn->qn->Ub} (hK:∀w',Uc w w'->K ⟨229,229,229⟩ ⟨0,0,0⟩ w'):XR at0 w K:=by
 refine qqq _ ?_;refine nwb λw1 h1 hB1 hs1=>nwb λw2 h2 hB2 hs2=>nwb λw3 h3 hB3 hs3=>?_;have h13:=(h1.ext hB2).ext hB3;have z1:=hB1.size;have z2:=hB2.size;have l1:=h1.lt;have l2:=h2.lt;refine lI (x:=0) (h13.drew.cells 0 _ rfl) (lI (x:=0) (h13.drew.cells 1 _ rfl) ?_);refine qq1 true λw4 hB4=>⟨(h13.drew.ext hB4).cells 1 _ rfl,qq1 false λw5 hB5=>?_⟩;have B35:Uc w3 w5:=bT (bT (bdw w3) hB4) hB5;have h15:=h13.ext B35;have h25:=(h2.ext hB3).ext B35;have h35:=h3.ext B35;refine x5 h25 rfl λw6 h6 hc6 hs6=>?_;have h36:=h35.chg hc6 (by omega);refine x5 h36 rfl λw7 h7 hc7 hs7=>?_;have h17:=(h15.chg hc6 (by omega)).chg hc7 (by omega);have h27:=h6.chg hc7 (by omega);have B7:Uc w w7:=b1o (b1o (bT (bT (bT hB1 hB2) hB3) B35) hc6 z1) hc7 (by omega);refine jpO λJ1 hJ1=>?_;refine lI (x:=0) (h17.cells 2 _ rfl) (cF (by kernel_rfl) (hJ1 _ _ ?_));refine jpO λJ2 hJ2=>?_;refine lI (x:=0) (h17.cells 2 _ rfl) (cF (by kernel_rfl) (hJ2 _ _ ?_));refine jpO λJ3 hJ3=>?_;refine lI (x:=0) (h17.cells 2 _ rfl) (cF (by kernel_rfl) (hJ3 _ _ ?_));refine qx (r:=qn.rep) (x:=⟨229,229,229⟩) h27.drew.cells (qx (r:=qn.rep) (x:=⟨0,0,0⟩) h7.drew.cells ?_);refine x5 h27.drew rfl λw8 h8 hc8 hs8=>?_;have h78:=h7.drew.chg hc8 (by omega);refine ⟨h78.cells,x5 h78 rfl λw9 h9 hc9 hs9=>?_⟩;refine qx (r:=qn.rep) (x:=⟨229,229,229⟩) (h8.chg hc9 (by omega)).cells (qx (r:=qn.rep) (x:=⟨0,0,0⟩) h9.cells ?_);exact hK w9 (b1o (b1o (bT B7 (bdw w7)) hc8 z1) hc9 (by omega))
theorem q6r {α:Type} {xs:List α} {k:Nat} (hk:k<xs.length):∃x,xs[k]?=some x/\∀h,xs[((k:Int)).toNat]'h=x:=⟨xs[k],List.getElem?_eq_getElem hk,λ_=>rfl⟩
abbrev Cel:=qW
def qei:Cel:=⟨0,0,at0⟩
def xQ (L:List (List Cel)) (row col:Nat):Cel:=(L.getD row []).getD col qei
structure ScnM (w:World) (B:Nat) (s:qo) (R C cw ch:Nat) (L:List (List Cel)):Prop where
 rows:s.Rows=R
 cols:s.Cols=C
 ecw:s.CellW=cw
 ech:s.CellH=ch
 lim:1<=R/\R<=1000/\1<=C/\C<=1000/\1<=cw/\cw<=64/\1<=ch/\ch<=64
 ls:∃ls,Rd slE w s.Lines ls/\ls.length=L.length/\∀(i:Nat) q xs,ls[i]?=some q->L[i]?=some xs->Rd zr w q xs/\∀a,q.a=some a->a.block<B
 lo:∀a,s.Lines.a=some a->a.block<B
theorem ScnM.keep {B:Nat} {s:qo} {R C cw ch:Nat} {L:List (List Cel)} {S:Nat->Prop} (h:ScnM w B s R C cw ch L) (hc:Chg S w w') (hS:∀k,S k->B<=k):ScnM w' B s R C cw ch L:=by
 obtain ⟨ls,h1,h2,h3⟩:=h.ls;exact ⟨h.rows,h.cols,h.ecw,h.ech,h.lim,⟨ls,h1.chg hc λa ha hs=>by have:=h.lo a ha;have:=hS _ hs;omega,h2,λi q xs hq hx=>⟨(h3 i q xs hq hx).1.chg hc λa ha hs=>by have:=(h3 i q xs hq hx).2 a ha;have:=hS _ hs;omega,(h3 i q xs hq hx).2⟩⟩,h.lo⟩
theorem ScnM.ext {B:Nat} {s:qo} {R C cw ch:Nat} {L:List (List Cel)} (h:ScnM w B s R C cw ch L) (hB:Uc w w'):ScnM w' B s R C cw ch L:=h.keep (Chg.of_ext (S:=λ_=>False) hB) λ_ h=>h.elim
theorem q02 {B:Nat} {s:qo} {R C cw ch:Nat} {L:List (List Cel)} (h:ScnM w B s R C cw ch L) (row col:Nat) {K:Cel->Ub} (hK:∀w',Uc w w'->K (xQ L row col) w'):Zv s row col w K:=by
 refine qhm _ _ _ ?_;refine nwb λw1 h1 hB1 hs1=>nwb λw2 h2 hB2 hs2=>?_;have h12:=h1.ext hB2;have B2:=bT hB1 hB2;have hs:=h.ext B2;obtain ⟨ls,l1,l2,l3⟩:=hs.ls;have hn:=l1.n;have out:∀v:Cel,v=xQ L row col->stK ⟨w1.heap.size,0,none⟩ (qW.rep.cells v) w2 λw4=>ldS qW.rep ⟨w1.heap.size,0,none⟩ w4 λr=>K r w4:=by
  rintro v rfl;exact zM (r:=qW.rep) (x:=xQ L row col) h2 rfl rfl λw3 hc3 hs3=>hK w3 (b1o B2 hc3 hB1.size)
 refine jpO λJ1 hJ1=>?_;refine lSl (x:=s.Lines) (h12.cells 4 _ rfl) (cO (λe=>?_) λe=>?_)
 ·have e:=oTq e;refine out qei ?_;unfold xQ;rw [show L.getD row []=[] by rw [List.getD_eq_getElem?_getD,List.getElem?_eq_none (by omega)];rfl];rfl
 have e:=oFq e;have hr:row<ls.length:=by omega
 have hrL:row<L.length:=by omega
 obtain ⟨q,hq,hqs⟩:=q6r (xs:=ls) (k:=row) hr;have hx:L[row]?=some L[row]:=List.getElem?_eq_getElem hrL;have hl:=(l3 row q _ hq hx).1;have eL:L.getD row []=L[row]:=by rw [List.getD_eq_getElem?_getD,hx];rfl
 have ixr:∀{X:Slc->Prop},X q->ixK s.Lines row 1 λt17=>jy t17 w2 X:=by
  intro X hX;refine l1.ix (i:=(row:Int)) (k:=1) rfl (by omega) (by omega) λhc=>?_;rw [hqs] at hc;exact lSl (x:=q) (by simpa using hc 0 _ rfl) hX
 refine lSl (x:=s.Lines) (h12.cells 4 _ rfl) (ixr ?_);have hqn:=hl.n;refine cO (λe2=>?_) λe2=>?_
 ·have e2:=oTq e2;refine out qei ?_;unfold xQ;rw [eL,List.getD_eq_getElem?_getD,List.getElem?_eq_none (by omega)];rfl
 have e2:=oFq e2;refine hJ1 _ _ (lSl (x:=s.Lines) (h12.cells 4 _ rfl) (ixr ?_));have hc2:col<L[row].length:=by omega
 obtain ⟨v,hv,hvs⟩:=get_of (xs:=L[row]) (k:=col) hc2;refine hl.ix (i:=(col:Int)) (k:=5) rfl (by omega) (by omega) λhc=>?_;rw [hvs] at hc;refine qx (r:=qW.rep) (x:=v) hc ?_;refine out v ?_;unfold xQ;rw [eL,List.getD_eq_getElem?_getD,hv];rfl
def zc8 (g:List UInt8->Nat->Nat->Cel->List UInt8) (L:List (List Cel)) (row:Nat) (P:List UInt8):Nat->List UInt8
 | 0=>P
 | j+1=>g (zc8 g L row P j) row j (xQ L row j)
def qwz (g:List UInt8->Nat->Nat->Cel->List UInt8) (L:List (List Cel)) (C:Nat) (P:List UInt8):Nat->List UInt8
 | 0=>P
 | i+1=>zc8 g L i (qwz g L C P i) C
theorem qrq {B base:Nat} {s:qo} {R C cw ch W H:Nat} {L:List (List Cel)} {m:qa} {P:List UInt8} {g:List UInt8->Nat->Nat->Cel->List UInt8} {fv:Value} (h:ScnM w B s R C cw ch L) (hM:MatM w base m W H P) (hb:B<=base)
  (hf:∀{w1:World} {P1:List UInt8} (row col:Nat) {K:Ub},row<R->col<C->MatM w1 base m W H P1->Chg (λk=>m.P.blk=some k) w w1->(∀w2,MatM w2 base m W H (g P1 row col (xQ L row col))->Chg (λk=>m.P.blk=some k) w1 w2->K w2) ->
   jl Go.Proofs.YtokfefnmpjohpaaGreatDoor.C fv [(Ua row),(Ua col),(.agg #[(.int .i32 (xQ L row col).R),(Ua (xQ L row col).Kind),(Ua (xQ L row col).A.Fg),(Ua (xQ L row col).A.Bg),(Ua (xQ L row col).A.Flags)])] [] w1 K)
  {K:Ub} (hK:∀w',MatM w' base m W H (qwz g L C P R)->Chg (λk=>m.P.blk=some k) w w'->K w'):vC s fv w K:=by
 refine qhu _ _ ?_;refine nwb λw1 h1 hB1 hs1=>?_;obtain ⟨gm,ha,hbm⟩:=hM.some_;have gl:=(hM.own.lt gm hbm);have l1:=h1.lt;have lim:=h.lim;refine lI (x:=(R:Int)) (by rw [<-h.rows];exact h1.cells 0 _ rfl) ?_;have keepS:∀{w3},Chg (λk=>m.P.blk=some k) w1 w3->Blk w3 w.heap.size zb (qo.rep.cells s):=λhc=>h1.chg hc λe=>by rw [hbm] at e;cases e;omega
 have keepL:∀{w3},Chg (λk=>m.P.blk=some k) w1 w3->ScnM w3 B s R C cw ch L:=λhc=>(h.ext hB1).keep hc λk e=>by rw [hbm] at e;cases e;omega
 have c01:Chg (λk=>m.P.blk=some k) w w1:=Chg.of_ext hB1;refine lpR (λ(st:Int×Unit) w2=>∃i:Nat,st.1=(i:Int)/\i<=R/\MatM w2 base m W H (qwz g L C P i)/\Chg (λk=>m.P.blk=some k) w1 w2) (λst=>R-st.1.toNat) ⟨0,rfl,zero_le _,hM.ext hB1,Chg.refl _ _⟩ ?_;rintro ⟨i0,u⟩ w2 ⟨i,hi,hiR,hM2,hc2⟩ I hI;dsimp only at hi ⊢;subst hi;refine cO (λe=>?_) λe=>?_
 ·have hlt:i<R:=by have:=oTq e;omega
  refine lI (x:=(C:Int)) (by rw [<-h.cols];exact (keepS hc2).cells 1 _ rfl) ?_;refine lpR (λ(st:Int×Unit) w3=>∃j:Nat,st.1=(j:Int)/\j<=C/\MatM w3 base m W H (zc8 g L i (qwz g L C P i) j)/\Chg (λk=>m.P.blk=some k) w1 w3) (λst=>C-st.1.toNat) ⟨0,rfl,zero_le _,hM2,hc2⟩ ?_;rintro ⟨j0,u2⟩ w3 ⟨j,hj,hjC,hM3,hc3⟩ I2 hI2;dsimp only at hj ⊢;subst hj;refine cO (λe=>?_) λe=>?_
  ·have hjt:j<C:=by have:=oTq e;omega
   refine qx (r:=qo.rep) (x:=s) (keepS hc3).cells ?_;refine q02 (keepL hc3) i j λw4 hB4=>?_;have hc4:Chg (λk=>m.P.blk=some k) w1 w4:=hc3.trans (Chg.of_ext hB4) λ_ _ h=>h;refine hf i j hlt hjt (hM3.ext hB4) (c01.trans hc4 λ_ _ h=>h) λw5 hM5 hc5=>?_;rw [qP (x:=(j:Int)+1) (by omega)];exact hI2 _ _ ⟨j+1,by simp,by omega,hM5,hc4.trans hc5 λ_ _ h=>h⟩ (by dsimp only;omega)
  ·have:j=C:=by have:=oFq e;omega
   subst this;rw [qP (x:=(i:Int)+1) (by omega)];exact hI _ _ ⟨i+1,by simp,by omega,hM3,hc3⟩ (by dsimp only;omega)
 ·have:i=R:=by have:=oFq e;omega
  subst this;exact hK w2 hM2 (c01.trans hc2 λ_ _ h=>h)
end
theorem zh9:zee wht ⟨229,229,229,255⟩:=⟨rfl,rfl⟩
theorem zga:zee zez ⟨0,0,0,255⟩:=⟨rfl,rfl⟩
def zfr (L:List (List Cel)):Prop:=∀r c,(xQ L r c).A=at0
def q7m (W H cw ch:Nat) (P:List UInt8) (row col:Nat) (c:Cel):List UInt8:=qxx P W H ((col*cw:Nat):Int) ((row*ch:Nat):Int) cw ch zez
section
variable {w w':World} {B base:Nat} {s:qo} {R C0 cw ch W H:Nat} {L:List (List Cel)} {m:qa} {P:List UInt8}
theorem q2j {a b:Nat} (ha:a<=1000) (hb:b<=64):i64.wrap ((a:Int)*(b:Int))=((a*b:Nat):Int)/\a*b<=64000:=by
 have h:a*b<=1000*64:=Nat.mul_le_mul ha hb;rw [show (a:Int)*(b:Int)=((a*b:Nat):Int) by simp];exact ⟨qP (by omega),h⟩
theorem qzp (h:ScnM w B s R C0 cw ch L) (hb:zfr L) (hM:MatM w base m W H P) (hB:B<=base) {K:qa->Ub} (hK:∀w',MatM w' base m W H (qwz (q7m W H cw ch) L C0 P R)->Chg (λk=>m.P.blk=some k) w w'->K m w'):yd ⟨s⟩ m w K:=by
 refine qcy _ _ ?_;refine nwb λw1 h1 hB1 hs1=>nwb λw2 h2 hB2 hs2=>nwb λw3 h3 hB3 hs3=>?_;have B3:=bT (bT hB1 hB2) hB3;have h13:=(h1.ext hB2).ext hB3;have h23:=h2.ext hB3;obtain ⟨gm,ha,hbm⟩:=hM.some_;have gl:=hM.own.lt gm hbm;have lim:=h.lim;refine qx (r:=qo.rep) (x:=s) (h13.sub 0 _ rfl) ?_;have kp:∀{b:Nat} {t:TypeId} {vs:List Value} {wa wb:World},Blk wa b t vs->Chg (λk=>m.P.blk=some k) wa wb->w.heap.size<=b->Blk wb b t vs:=λhb hc hle=>hb.chg hc λe=>by rw [hbm] at e;cases e;omega
 refine qrq (g:=q7m W H cw ch) (h.ext B3) (hM.ext B3) hB (λ{w4 P4} row col {K4} hr hc hM4 hc4 hK4=>?_) λw4 hM4 hc4=>?_
 ·have hl1:=kp h13 hc4 (le_refl _);have hm1:=kp h23 hc4 hB1.size;refine Go.Vc.callR_plain (by kernel_rfl) ?_;refine Calls.mono (show ZC (row:Int) (col:Int) (xQ L row col) ⟨w1.heap.size,0,none⟩ ⟨w.heap.size,0,none⟩ w4 K4 from ?_) ?_
  ·refine YM _ _ _ _ _ ?_;refine nwb λw5 h5 hB5 hs5=>?_;refine qx (r:=qt.rep) (x:=at0) (by have:=h5.sub 2 (qt.rep.cells (xQ L row col).A) rfl;rw [hb] at this;exact this) ?_;refine qoh λw6 hB6=>?_;refine nwb λw7 h7 hB7 hs7=>nwb λw8 h8 hB8 hs8=>?_;have h78:=h7.ext hB8;refine x5 h78 rfl λw9 h9 hc9 hs9=>?_;have h89:=h8.chg hc9 (by have:=h7.lt;omega);refine x5 h89 rfl λw10 h10 hc10 hs10=>?_;have B68:=bT (bT hB5 hB6) (bT hB7 hB8);have B10:Uc w4 w10:=b1o (b1o B68 hc9 (bT hB5 hB6).size) hc10 (by have:=(bT (bT hB5 hB6) hB7).size;omega);have B10d:=bT B10 (bdw w10);have hlx:=hl1.ext B10d;have hmx:=hm1.ext B10d;refine qx (r:=qa.rep) (x:=m) hmx.cells ?_;have c2:∀{wx},Blk wx w.heap.size jD (qB.rep.cells ⟨s⟩)->wx.cell? (((⟨w.heap.size,0,none⟩:Addr).add 0).add 2)=some (Ua cw):=λhx=>by rw [<-h.ecw,jR];exact hx.cells 2 _ rfl
   have c3:∀{wx},Blk wx w.heap.size jD (qB.rep.cells ⟨s⟩)->wx.cell? (((⟨w.heap.size,0,none⟩:Addr).add 0).add 3)=some (Ua ch):=λhx=>by rw [<-h.ech,jR];exact hx.cells 3 _ rfl
   refine lI (x:=(cw:Int)) (c2 hlx) (lI (x:=(ch:Int)) (c3 hlx) (lI (x:=(cw:Int)) (c2 hlx) (lI (x:=(ch:Int)) (c3 hlx) ?_)));refine qx (r:=qn.rep) (x:=⟨0,0,0⟩) h10.drew.cells ?_;refine qnf _ λw11 hB11=>?_;have B11:=bT B10d hB11;have hl11:=hl1.ext B11;have hm11:=hm1.ext B11;refine ⟨c3 hl11,c2 hl11,c3 hl11,c2 hl11,hm11.cells,?_⟩;obtain ⟨e1,b1⟩:=q2j (a:=col) (b:=cw) (by omega) (by omega);obtain ⟨e2,b2⟩:=q2j (a:=row) (b:=ch) (by omega) (by omega);rw [e1,e2];exact qqy (hM4.ext B11) (by omega) (by omega) (by omega) (by omega) zga λw12 hM12 hc12=>hK4 w12 hM12 ((Chg.of_ext B11).trans hc12 λ_ _ h=>h)
  ·rintro e w' ⟨rfl,hk⟩;exact ⟨rfl,hk⟩
 ·have hm4:=kp h23 hc4 hB1.size;have h34:=kp h3 hc4 (by have:=(bT hB1 hB2).size;omega);refine qx (r:=qa.rep) (x:=m) hm4.cells ?_;refine zM (r:=qa.rep) (x:=m) h34 rfl rfl λw5 hc5 hs5=>?_;have z4:=hc4.size;have l3:=(bT hB1 hB2).size;have l4:=h3.lt;have c5:Chg (λk=>k=w2.heap.size) w4 w5:=hc5;refine hK w5 ⟨hM4.hw,hM4.hh,hM4.own.chg c5 (λk hk e=>by rw [hbm] at hk;cases hk;omega),hM4.len,hM4.lim⟩ ?_;refine (Chg.of_ext (S:=λk=>m.P.blk=some k) B3).trans (S':=λk=>m.P.blk=some k\/k=w2.heap.size) ((hc4.mono λ_ _ h=>.inl h).trans c5 λ_ _ e=>.inr e) λi hi e=>?_;rcases e with e | e
  ·exact e
  ·omega
end
def zeo (lay:List UInt8->Int->Int->Int->Int->List UInt8->List UInt8) (P:List UInt8) (r:Int) (wx hx:Nat):List UInt8 :=
 if r>32 then
  if (wx+1)/2>2/\(hx+1)/2>2 then lay (lay P ((wx/4:Nat):Int) ((hx/4:Nat):Int) (((wx+1)/2:Nat):Int) (((hx+1)/2:Nat):Int) wht) ((wx/4+r.toNat%((wx+1)/2):Nat):Int) ((hx/4+r.toNat/256%((hx+1)/2):Nat):Int) 1 1 zez
  else lay P ((wx/4:Nat):Int) ((hx/4:Nat):Int) (((wx+1)/2:Nat):Int) (((hx+1)/2:Nat):Int) wht
 else P
section
variable {w w':World} {B base:Nat} {s:qo} {R C0 cw ch W H:Nat} {L:List (List Cel)} {m:qa} {P:List UInt8}
def agC (c:qs):Value:=.agg #[(.int .u8 c.e0),(.int .u8 c.e1),(.int .u8 c.e2),(.int .u8 c.e3)]
theorem zd5 {lay:List UInt8->Int->Int->Int->Int->List UInt8->List UInt8} {fv:Value} (r:Int) (hr:0<=r/\r<=1114111) (wx hx:Nat) (hw:1<=wx/\wx<=128) (hh:1<=hx/\hx<=64) (hM:MatM w base m W H P)
  (hf:∀{w1:World} {P1:List UInt8} (x y bw bh:Int) (c:qs) (cb:List UInt8) {K:Ub},0<=x/\x<=1000->0<=y/\y<=1000->0<=bw/\bw<=1000->0<=bh/\bh<=1000->zee cb c->MatM w1 base m W H P1->Chg (λk=>m.P.blk=some k) w w1->(∀w2,MatM w2 base m W H (lay P1 x y bw bh cb)->Chg (λk=>m.P.blk=some k) w1 w2->K w2) ->
   jl Go.Proofs.YtokfefnmpjohpaaGreatDoor.C fv [(Ua x),(Ua y),(Ua bw),(Ua bh),agC c] [] w1 K)
  {K:Ub} (hK:∀w',MatM w' base m W H (zeo lay P r wx hx)->Chg (λk=>m.P.blk=some k) w w'->K w'):qj8 r wx hx at0 fv w K:=by
 refine qvv _ _ _ _ _ ?_;obtain ⟨gm,ha,hbm⟩:=hM.some_;have gl:=hM.own.lt gm hbm;refine nwb λw1 h1 hB1 hs1=>?_;refine qx (r:=qt.rep) (x:=at0) h1.cells (qoh λw2 hB2=>?_);refine nwb λw3 h3 hB3 hs3=>nwb λw4 h4 hB4 hs4=>?_;refine x5 (h3.ext hB4) rfl λw5 h5 hc5 hs5=>?_;have l3:=h3.lt;have h45:=h4.chg hc5 (by omega);refine x5 h45 rfl λw6 h6 hc6 hs6=>?_;have z1:=hB1.size;have z2:=hB2.size;have z3:=hB3.size;have l4:=h4.lt;have l1:=h1.lt;have hf6:=h5.chg hc6 (by omega);have h16:=((((h1.ext hB2).ext hB3).ext hB4).chg hc5 (by omega)).chg hc6 (by omega);have B6:Uc w w6:=b1o (b1o (bT (bT hB1 hB2) (bT hB3 hB4)) hc5 (by omega)) hc6 (by omega);have kp:∀{b:Nat} {t:TypeId} {vs:List Value} {wa wb:World},Blk wa b t vs->Chg (λk=>m.P.blk=some k) wa wb->w.heap.size<=b->Blk wb b t vs:=λhb hc hle=>hb.chg hc λe=>by rw [hbm] at e;cases e;omega
 refine jpO λJ1 hJ1=>?_;have key:∀(fo ba:Nat) w7,w.heap.size<=fo->w.heap.size<=ba->Blk w7 fo qJ (qs.rep.cells ⟨229,229,229,255⟩)->Blk w7 ba qJ (qs.rep.cells ⟨0,0,0,255⟩)->Blk w7 w.heap.size jF (qt.rep.cells at0)->Uc w w7->J1 (⟨fo,0,none⟩,⟨ba,0,none⟩,()) w7:=by
  intro fo ba w7 lf lb hfo hba h17 B7;refine hJ1 _ _ ?_;dsimp only;refine jpO λJ2 hJ2=>?_;have fin:∀w8,MatM w8 base m W H (zeo lay P r wx hx)->Chg (λk=>m.P.blk=some k) w7 w8->J2 () w8:=by
   intro w8 hM8 hc8;have h18:=kp h17 hc8 (le_refl _);refine hJ2 _ _ (jpO λJ3 hJ3=>?_);refine lI (x:=0) (h18.cells 2 _ rfl) (cF (by kernel_rfl) (hJ3 _ _ ?_));exact lI (x:=0) (h18.cells 2 _ rfl) (cF (by kernel_rfl) (hK w8 hM8 ((Chg.of_ext B7).trans hc8 λ_ _ h=>h)))
  have c07:Chg (λk=>m.P.blk=some k) w w7:=Chg.of_ext B7;unfold zeo at fin;refine cO (λe=>?_) λe=>?_
  ·have e:=oTq e;rw [if_pos e] at fin;refine ⟨by decide,by decide,by decide,by decide,?_⟩;refine qx (r:=qs.rep) (x:=⟨229,229,229,255⟩) hfo.cells ?_;have e1:i64.wrap ((wx:Int).tdiv 4)=((wx/4:Nat):Int):=by
    rw [show (wx:Int).tdiv 4=((wx/4:Nat):Int) from rfl];exact qP (by omega)
   have e2:i64.wrap ((hx:Int).tdiv 4)=((hx/4:Nat):Int):=by
    rw [show (hx:Int).tdiv 4=((hx/4:Nat):Int) from rfl];exact qP (by omega)
   have e3:i64.wrap ((i64.wrap ((wx:Int)+1)).tdiv 2)=(((wx+1)/2:Nat):Int):=by
    rw [qP (x:=(wx:Int)+1) (by omega),show ((wx:Int)+1)=((wx+1:Nat):Int) by simp,show ((wx+1:Nat):Int).tdiv 2=(((wx+1)/2:Nat):Int) from rfl];exact qP (by omega)
   have e4:i64.wrap ((i64.wrap ((hx:Int)+1)).tdiv 2)=(((hx+1)/2:Nat):Int):=by
    rw [qP (x:=(hx:Int)+1) (by omega),show ((hx:Int)+1)=((hx+1:Nat):Int) by simp,show ((hx+1:Nat):Int).tdiv 2=(((hx+1)/2:Nat):Int) from rfl];exact qP (by omega)
   simp only [e1,e2,e3,e4];refine hf _ _ _ _ ⟨229,229,229,255⟩ wht (by omega) (by omega) (by omega) (by omega) zh9 (hM.ext B7) c07 λw8 hM8 hc8=>?_;refine jpO λJ4 hJ4=>?_;have key4:∀b:Bool,b=decide ((wx+1)/2>2/\(hx+1)/2>2)->J4 (b,()) w8:=by
    intro b hb;refine hJ4 _ _ (cO (λe=>?_) λe=>?_)
    ·have e:b=true:=e;rw [e] at hb;have hb:=oTq hb.symm;rw [if_pos hb] at fin;refine ⟨by omega,by decide,by omega,?_⟩;have hba8:=(kp hba hc8 lb).drew;refine qx (r:=qs.rep) (x:=⟨0,0,0,255⟩) hba8.cells ?_;obtain ⟨rn,hrn⟩:∃rn:Nat,r=rn:=⟨r.toNat,by omega⟩;subst hrn;simp only [Int.toNat_natCast] at fin;have e5:i64.wrap (rn:Int)=(rn:Int):=qP (by omega);have m1:(rn:Int).tmod (((wx+1)/2:Nat):Int)=((rn%((wx+1)/2):Nat):Int):=rfl;have m2:(rn:Int).tdiv 256=((rn/256:Nat):Int):=rfl;have e6:i64.wrap ((rn/256:Nat):Int)=((rn/256:Nat):Int):=qP (by omega);have m3:((rn/256:Nat):Int).tmod (((hx+1)/2:Nat):Int)=((rn/256%((hx+1)/2):Nat):Int):=rfl;have lt1:rn%((wx+1)/2)<(wx+1)/2:=Nat.mod_lt _ (by omega);have lt2:rn/256%((hx+1)/2)<(hx+1)/2:=Nat.mod_lt _ (by omega);rw [e5,m1,m2,e6,m3];have a1:((wx/4:Nat):Int)+((rn%((wx+1)/2):Nat):Int)=((wx/4+rn%((wx+1)/2):Nat):Int):=by simp
     have a2:((hx/4:Nat):Int)+((rn/256%((hx+1)/2):Nat):Int)=((hx/4+rn/256%((hx+1)/2):Nat):Int):=by simp
     rw [a1,a2];generalize rn%((wx+1)/2)=q1 at *;generalize rn/256%((hx+1)/2)=q2 at *;rw [qP (x:=((wx/4+q1:Nat):Int)) (by omega),qP (x:=((hx/4+q2:Nat):Int)) (by omega)];have B8d:Chg (λk=>m.P.blk=some k) w8 w8.drew:=Chg.of_ext (bdw w8);refine hf _ _ _ _ ⟨0,0,0,255⟩ zez (by omega) (by omega) (by omega) (by omega) zga (hM8.ext (bdw w8)) ((c07.trans hc8 λ_ _ h=>h).trans B8d λ_ _ h=>h) λw9 hM9 hc9=>?_;exact fin w9 hM9 ((hc8.trans B8d λ_ _ h=>h).trans hc9 λ_ _ h=>h)
    ·have e:b=false:=e;rw [e] at hb;have hb:=oFq hb.symm;rw [if_neg hb] at fin;exact fin w8 hM8 hc8
   refine cO (λe=>?_) λe=>?_
   ·have e:=oTq e;refine key4 _ ?_;by_cases h2:(hx+1)/2>2
    ·rw [dTq (p:=(wx+1)/2>2/\_) ⟨by omega,h2⟩,dTq (by omega)]
    ·rw [dFq (p:=(wx+1)/2>2/\_) (λhh=>h2 hh.2),dFq (by omega)]
   ·have e:=oFq e;exact key4 _ (by rw [dFq];rintro ⟨h,_⟩;omega)
  ·have e:=oFq e;rw [if_neg e] at fin;exact fin w7 (hM.ext B7) (Chg.refl _ _)
 have hfd:=hf6.drew;have hbd:=h6.drew;refine qx (r:=qn.rep) (x:=⟨229,229,229⟩) hfd.cells (qx (r:=qn.rep) (x:=⟨0,0,0⟩) hbd.cells ?_);have h1d:=h16.drew;have Bd:=bT B6 (bdw w6);have sz6:w6.drew.heap.size=w6.heap.size:=rfl;have z6:=B6.size;generalize w6.drew=w7 at hfd hbd h1d Bd sz6 ⊢;have ca:∀{wx},Uc w7 wx->qy wx ⟨w2.heap.size,0,none⟩ (qn.rep.cells ⟨229,229,229⟩):=λhB=>(hfd.ext hB).cells;have cb:∀{wx},Uc w7 wx->qy wx ⟨w3.heap.size,0,none⟩ (qn.rep.cells ⟨0,0,0⟩):=λhB=>(hbd.ext hB).cells;have two:∀(fo ba:Nat) wx,w7.heap.size<=fo->w7.heap.size<=ba->fo≠ba->Blk wx fo qJ [(.int .u8 0),(.int .u8 0),(.int .u8 0),(.int .u8 0)]->Blk wx ba qJ [(.int .u8 0),(.int .u8 0),(.int .u8 0),(.int .u8 0)]->Uc w7 wx ->
   stK ⟨fo,0,none⟩ (qs.rep.cells ⟨229,229,229,255⟩) wx λwy=>stK ⟨ba,0,none⟩ (qs.rep.cells ⟨0,0,0,255⟩) wy λwz=>J1 (⟨fo,0,none⟩,⟨ba,0,none⟩,()) wz:=by
  intro fo ba wx lf lb ne hfo hba hB;refine x5 hfo rfl λwy hy hcy hsy=>?_;refine x5 (hba.chg hcy λe=>ne e.symm) rfl λwz hz hcz hsz=>?_;have l17:=h1d.lt;refine key fo ba wz (by omega) (by omega) (hy.chg hcz ne) hz (((h1d.ext hB).chg hcy (by omega)).chg hcz (by omega)) (b1o (b1o (bT Bd hB) hcy (by omega)) hcz (by omega))
 have sol1:∀{wx} {X:qs->Ub},(∀wy,Uc wx wy->X ⟨229,229,229,255⟩ wy)->zj ⟨229,229,229⟩ wx X:=λh=>qnf _ h;have sol2:∀{wx} {X:qs->Ub},(∀wy,Uc wx wy->X ⟨0,0,0,255⟩ wy)->zj ⟨0,0,0⟩ wx X:=λh=>qnf _ h;have nf:∀{wa:World} (_:Uc w7 wa) {X:Addr->Ub},(∀wb,Blk wb wa.heap.size qJ [(.int .u8 0),(.int .u8 0),(.int .u8 0),(.int .u8 0)]->Uc wa wb->Uc w7 wb->X ⟨wa.heap.size,0,none⟩ wb) ->
   nw qJ [(.int .u8 0),(.int .u8 0),(.int .u8 0),(.int .u8 0)] wa λt wb=>qy wb ⟨w3.heap.size,0,none⟩ (qn.rep.cells ⟨0,0,0⟩)/\qy wb ⟨w2.heap.size,0,none⟩ (qn.rep.cells ⟨229,229,229⟩)/\X t wb :=
  λhB _ h=>nwb λwb hb hBb hsb=>⟨cb (bT hB hBb),ca (bT hB hBb),h wb hb hBb (bT hB hBb)⟩
 have r0:Uc w7 w7:=Below.refl _ w7;refine ⟨sol1 λwa Ba=>⟨cb Ba,?_,?_,?_⟩,nf r0 λwa ha' Ba' Ba=>⟨?_,?_⟩,nf r0 λwa ha' Ba' Ba=>⟨?_,?_⟩⟩
 ·refine sol2 λwb Bb'=>?_;have Bb:=bT Ba Bb';refine ⟨nf Bb λwc hc Bc' Bc=>nf Bc λwd hd Bd' Bd=>?_,nf Bb λwc hc Bc' Bc=>nf Bc λwd hd Bd' Bd=>?_⟩
  ·exact two _ _ wd Bb.size Bc.size (by have:=hc.lt;omega) (hc.ext Bd') hd Bd
  ·exact two _ _ wd Bc.size Bb.size (by have:=hc.lt;omega) hd (hc.ext Bd') Bd
 ·refine nf Ba λwc hc Bc' Bc=>⟨sol2 λwb Bb'=>nf (bT Bc Bb') λwd hd Bd' Bd=>?_,nf Bc λwd hd Bd' Bd=>sol2 λwb Bb'=>?_⟩
  ·exact two _ _ wd Ba.size (bT Bc Bb').size (by have:=hc.lt;have:=Bb'.size;omega) ((hc.ext Bb').ext Bd') hd Bd
  ·exact two _ _ wb Ba.size Bc.size (by have:=hc.lt;omega) ((hc.ext Bd').ext Bb') (hd.ext Bb') (bT Bd Bb')
 ·refine nf Ba λwc hc Bc' Bc=>⟨sol2 λwb Bb'=>nf (bT Bc Bb') λwd hd Bd' Bd=>?_,nf Bc λwd hd Bd' Bd=>sol2 λwb Bb'=>?_⟩
  ·exact two _ _ wd (bT Bc Bb').size Ba.size (by have:=hc.lt;have:=Bb'.size;omega) hd ((hc.ext Bb').ext Bd') Bd
  ·exact two _ _ wb Bc.size Ba.size (by have:=hc.lt;omega) (hd.ext Bb') ((hc.ext Bd').ext Bb') (bT Bd Bb')
 ·refine sol1 λwb Bb'=>⟨cb (bT Ba Bb'),sol2 λwc Bc'=>nf (bT (bT Ba Bb') Bc') λwd hd Bd' Bd=>?_,nf (bT Ba Bb') λwd hd Bd' Bd=>sol2 λwc Bc'=>?_⟩
  ·exact two _ _ wd r0.size (bT (bT Ba Bb') Bc').size (by have:=ha'.lt;have:=(bT Bb' Bc').size;omega) (((ha'.ext Bb').ext Bc').ext Bd') hd Bd
  ·exact two _ _ wc r0.size (bT Ba Bb').size (by have:=ha'.lt;have:=Bb'.size;omega) (((ha'.ext Bb').ext Bd').ext Bc') (hd.ext Bc') (bT Bd Bc')
 ·refine nf Ba λwd hd Bd' Bd=>sol1 λwb Bb'=>⟨cb (bT Bd Bb'),sol2 λwc Bc'=>?_⟩;exact two _ _ wc r0.size Ba.size (by have:=ha'.lt;omega) (((ha'.ext Bd').ext Bb').ext Bc') ((hd.ext Bb').ext Bc') (bT (bT Bd Bb') Bc')
 ·refine sol1 λwb Bb'=>⟨cb (bT Ba Bb'),sol2 λwc Bc'=>nf (bT (bT Ba Bb') Bc') λwd hd Bd' Bd=>?_,nf (bT Ba Bb') λwd hd Bd' Bd=>sol2 λwc Bc'=>?_⟩
  ·exact two _ _ wd (bT (bT Ba Bb') Bc').size r0.size (by have:=ha'.lt;have:=(bT Bb' Bc').size;omega) hd (((ha'.ext Bb').ext Bc').ext Bd') Bd
  ·exact two _ _ wc (bT Ba Bb').size r0.size (by have:=ha'.lt;have:=Bb'.size;omega) (hd.ext Bc') (((ha'.ext Bb').ext Bd').ext Bc') (bT Bd Bc')
 ·refine nf Ba λwd hd Bd' Bd=>sol1 λwb Bb'=>⟨cb (bT Bd Bb'),sol2 λwc Bc'=>?_⟩;exact two _ _ wc Ba.size r0.size (by have:=ha'.lt;omega) ((hd.ext Bb').ext Bc') (((ha'.ext Bd').ext Bb').ext Bc') (bT (bT Bd Bb') Bc')
end
def q7b (W H cw ch C0:Nat) (P:List UInt8) (row col:Nat) (c:Cel):List UInt8 :=
 if c.R=0 then P else if c.Kind=2 then P
 else zeo (λP x y bw bh k=>qxx P W H (((col*cw:Nat):Int)+x) (((row*ch:Nat):Int)+y) bw bh k) P c.R (if c.Kind=1/\col+1<C0 then cw*2 else cw) ch
def zdf (L:List (List Cel)):Prop:=∀r c,0<=(xQ L r c).R/\(xQ L r c).R<=1114111
section
variable {w w':World} {B base:Nat} {s:qo} {R C0 cw ch W H:Nat} {L:List (List Cel)} {m:qa} {P:List UInt8}
theorem q1t (h:ScnM w B s R C0 cw ch L) (hb:zfr L) (hch:zdf L) (hM:MatM w base m W H P) (hB:B<=base) {K:qa->Ub} (hK:∀w',MatM w' base m W H (qwz (q7b W H cw ch C0) L C0 P R)->Chg (λk=>m.P.blk=some k) w w'->K m w'):yQ ⟨s⟩ m w K:=by
 refine qdm _ _ ?_;refine nwb λw1 h1 hB1 hs1=>nwb λw2 h2 hB2 hs2=>nwb λw3 h3 hB3 hs3=>?_;have B3:=bT (bT hB1 hB2) hB3;have h13:=(h1.ext hB2).ext hB3;have h23:=h2.ext hB3;obtain ⟨gm,ha,hbm⟩:=hM.some_;have gl:=hM.own.lt gm hbm;have lim:=h.lim;refine qx (r:=qo.rep) (x:=s) (h13.sub 0 _ rfl) ?_;have kp:∀{b:Nat} {t:TypeId} {vs:List Value} {wa wb:World},Blk wa b t vs->Chg (λk=>m.P.blk=some k) wa wb->w.heap.size<=b->Blk wb b t vs:=λhb hc hle=>hb.chg hc λe=>by rw [hbm] at e;cases e;omega
 refine qrq (g:=q7b W H cw ch C0) (h.ext B3) (hM.ext B3) hB (λ{w4 P4} row col {K4} hr hc hM4 hc4 hK4=>?_) λw4 hM4 hc4=>?_
 ·have hl1:=kp h13 hc4 (le_refl _);have hm1:=kp h23 hc4 hB1.size;refine Go.Vc.callR_plain (by kernel_rfl) ?_;refine Calls.mono (show ZO (row:Int) (col:Int) (xQ L row col) ⟨w.heap.size,0,none⟩ ⟨w1.heap.size,0,none⟩ w4 K4 from ?_) ?_
  ·refine qa3 _ _ _ _ _ ?_;refine nwb λw5 h5 hB5 hs5=>nwb λw6 h6 hB6 hs6=>nwb λw7 h7 hB7 hs7=>?_;have B7:=bT (bT hB5 hB6) hB7;have h57:=(h5.ext hB6).ext hB7;have h67:=h6.ext hB7;have hl7:=hl1.ext B7;have hm7:=hm1.ext B7;have hM7:=hM4.ext B7;obtain ⟨c,hcc⟩:∃c,c=xQ L row col:=⟨_,rfl⟩;have hA:=hb row col;have hR:=hch row col;rw [<-hcc] at h7 hK4 hA hR;refine jpO λJ1 hJ1=>?_;unfold q7b at hK4;refine lI (x:=c.R) (h7.cells 0 _ rfl) (cO (λe=>?_) λe=>?_)
   ·rw [if_pos (eq_of_beq e)] at hK4;exact hK4 w7 hM7 (Chg.of_ext B7)
   rw [if_neg (beq_eq_false_iff_ne.1 e)] at hK4;refine lI (x:=c.Kind) (h7.cells 1 _ rfl) (cO (λe=>?_) λe=>?_)
   ·rw [if_pos (eq_of_beq e)] at hK4;exact hK4 w7 hM7 (Chg.of_ext B7)
   rw [if_neg (beq_eq_false_iff_ne.1 e)] at hK4;refine hJ1 _ _ ?_;have c2:∀{wx},Blk wx w.heap.size jw (qB.rep.cells ⟨s⟩)->wx.cell? (((⟨w.heap.size,0,none⟩:Addr).add 0).add 2)=some (Ua cw):=λhx=>by rw [<-h.ecw,jR];exact hx.cells 2 _ rfl
   have c3:∀{wx},Blk wx w.heap.size jw (qB.rep.cells ⟨s⟩)->wx.cell? (((⟨w.heap.size,0,none⟩:Addr).add 0).add 3)=some (Ua ch):=λhx=>by rw [<-h.ech,jR];exact hx.cells 3 _ rfl
   have c1:∀{wx},Blk wx w.heap.size jw (qB.rep.cells ⟨s⟩)->wx.cell? (((⟨w.heap.size,0,none⟩:Addr).add 0).add 1)=some (Ua C0):=λhx=>by rw [<-h.cols,jR];exact hx.cells 1 _ rfl
   refine lI (x:=(cw:Int)) (c2 hl7) ?_;refine jpO λJ2 hJ2=>?_;have key:∀cx:Nat,1<=cx/\cx<=128->cx=(if c.Kind=1/\col+1<C0 then cw*2 else cw)->J2 ((cx:Int),()) w7:=by
    intro cx hcx ecx;rw [<-ecx] at hK4;refine hJ2 _ _ ?_;refine lI (x:=c.R) (h7.cells 0 _ rfl) (lI (x:=(ch:Int)) (c3 hl7) ?_);refine qx (r:=qt.rep) (x:=at0) (by have:=h7.sub 2 (qt.rep.cells c.A) rfl;rw [hA] at this;exact this) ?_;refine zd5 (lay:=λP x y bw bh k=>qxx P W H (((col*cw:Nat):Int)+x) (((row*ch:Nat):Int)+y) bw bh k) c.R hR cx ch hcx (by omega) hM7 (λ{w8 P8} x y bw bh k kb {K8} hx hy hbw hbh hk hM8 hc8 hK8=>?_) λw8 hM8 hc8=>hK4 w8 hM8 ((Chg.of_ext B7).trans hc8 λ_ _ h=>h);refine Go.Vc.callR_plain (by kernel_rfl) ?_;have z5:=hB5.size;have z6:=hB6.size;have l4:=hc4.size;have l3:=B3.size;have hle:w.heap.size<=w4.heap.size:=by omega
    refine Calls.mono (show QF x y bw bh k ⟨w1.heap.size,0,none⟩ ⟨w5.heap.size,0,none⟩ ⟨w.heap.size,0,none⟩ ⟨w4.heap.size,0,none⟩ w8 K8 from ?_) ?_
    ·refine Yi _ _ _ _ _ _ _ _ _ ?_;refine nwb λw9 h9 hB9 hs9=>?_;have hl9:=(kp hl7 hc8 (le_refl _)).ext hB9;have hm9:=(kp hm7 hc8 hB1.size).ext hB9;have hr9:=(kp h57 hc8 hle).ext hB9;have hcl9:=(kp h67 hc8 (by omega)).ext hB9;refine qx (r:=qa.rep) (x:=m) hm9.cells (lI (x:=(col:Int)) (by simpa using hcl9.cell 0 rfl) (lI (x:=(cw:Int)) (c2 hl9) (lI (x:=(row:Int)) (by simpa using hr9.cell 0 rfl) (lI (x:=(ch:Int)) (c3 hl9) ?_))));refine qx (r:=qs.rep) (x:=k) h9.cells ?_;obtain ⟨e1,b1⟩:=q2j (a:=col) (b:=cw) (by omega) (by omega);obtain ⟨e2,b2⟩:=q2j (a:=row) (b:=ch) (by omega) (by omega);rw [e1,e2,qP (x:=((col*cw:Nat):Int)+x) (by omega),qP (x:=((row*ch:Nat):Int)+y) (by omega)];exact qqy (hM8.ext hB9) (by omega) (by omega) (by omega) (by omega) hk λw10 hM10 hc10=>hK8 w10 hM10 ((Chg.of_ext hB9).trans hc10 λ_ _ h=>h)
    ·rintro e w' ⟨rfl,hk⟩;exact ⟨rfl,hk⟩
   refine jpO λJ3 hJ3=>?_;have key3:∀b:Bool,b=decide (c.Kind=1/\col+1<C0)->J3 (b,()) w7:=by
    intro b hbb;refine hJ3 _ _ (cO (λe=>?_) λe=>?_)
    ·have e:b=true:=e;rw [e] at hbb;have hbb:=oTq hbb.symm;rw [qP (x:=(cw:Int)*2) (by omega),show (cw:Int)*2=((cw*2:Nat):Int) by simp];exact key _ (by omega) (by rw [if_pos hbb])
    ·have e:b=false:=e;rw [e] at hbb;have hbb:=oFq hbb.symm;exact key _ (by omega) (by rw [if_neg hbb])
   refine lI (x:=c.Kind) (h7.cells 1 _ rfl) (cO (λe=>?_) λe=>?_)
   ·have e:c.Kind=1:=eq_of_beq e;refine lI (x:=(col:Int)) (by simpa using h67.cell 0 rfl) (lI (x:=(C0:Int)) (c1 hl7) (key3 _ ?_));rw [qP (x:=(col:Int)+1) (by omega)];by_cases hcC:col+1<C0
    ·rw [dTq (p:=c.Kind=1/\col+1<C0) ⟨e,hcC⟩,dTq (by omega)]
    ·rw [dFq (p:=c.Kind=1/\col+1<C0) (λhh=>hcC hh.2),dFq (by omega)]
   ·have e:¬c.Kind=1:=beq_eq_false_iff_ne.1 e;exact key3 _ (by rw [dFq];rintro ⟨h,_⟩;exact e h)
  ·rintro e w' ⟨rfl,hk⟩;exact ⟨rfl,hk⟩
 ·have hm4:=kp h23 hc4 hB1.size;have h34:=kp h3 hc4 (by have:=(bT hB1 hB2).size;omega);refine qx (r:=qa.rep) (x:=m) hm4.cells ?_;refine zM (r:=qa.rep) (x:=m) h34 rfl rfl λw5 hc5 hs5=>?_;have z4:=hc4.size;have l3:=(bT hB1 hB2).size;have l4:=h3.lt;refine hK w5 ⟨hM4.hw,hM4.hh,hM4.own.chg hc5 (λk hk e=>by rw [hbm] at hk;cases hk;omega),hM4.len,hM4.lim⟩ ?_;refine (Chg.of_ext (S:=λk=>m.P.blk=some k) B3).trans (S':=λk=>m.P.blk=some k\/k=w2.heap.size) ((hc4.mono λ_ _ h=>.inl h).trans hc5 λ_ _ e=>.inr e) λi hi e=>?_;rcases e with e | e
  ·exact e
  ·omega
theorem qmg (hp:s.Places.n=0) (above:Bool) (hM:MatM w base m W H P) {K:qa->Ub} (hK:∀w',MatM w' base m W H P->Uc w w'->K m w'):yI ⟨s,above⟩ m w K:=by
 refine qeq _ _ ?_;refine nwb λw1 h1 hB1 hs1=>nwb λw2 h2 hB2 hs2=>nwb λw3 h3 hB3 hs3=>?_;have B3:=bT (bT hB1 hB2) hB3;have h13:=(h1.ext hB2).ext hB3;have h23:=h2.ext hB3;refine lSl (x:=s.Places) (by rw [jR];exact h13.cells 5 _ rfl) ?_;refine lpR (λ(st:Int×Unit) w4=>st.1=0/\w4=w3) (λ_=>0) ⟨rfl,rfl⟩ ?_;rintro ⟨i,u⟩ w4 ⟨rfl,rfl⟩ I hI;refine cF (by rw [hp];rfl) ?_;refine qx (r:=qa.rep) (x:=m) h23.cells ?_;refine zM (r:=qa.rep) (x:=m) h3 rfl rfl λw5 hc5 hs5=>?_;have B5:Uc w w5:=b1o B3 hc5 (by have:=(bT hB1 hB2).size;omega);exact hK w5 (hM.ext B5) B5
end
def zh0 (P:List UInt8) (o:Nat):List UInt8:=P.set o (255-P.getD o 0)
def q8t (P:List UInt8) (o:Nat):Nat->List UInt8
 | 0=>P
 | i+1=>zh0 (q8t P o i) (o+i)
def q8v (P:List UInt8) (W y x0:Nat):Nat->List UInt8
 | 0=>P
 | k+1=>q8t (q8v P W y x0 k) (4*(y*W+(x0+k))) 3
def q6b (P:List UInt8) (W x0 nx y0:Nat):Nat->List UInt8
 | 0=>P
 | k+1=>q8v (q6b P W x0 nx y0 k) W (y0+k) x0 nx
def qpf (P:List UInt8) (W R C0 cw ch:Nat) (on:Bool) (row col:Int):List UInt8 :=
 if on=true/\(0<=row/\row<R)/\(0<=col/\col<C0) then q6b P W (col.toNat*cw) cw (row.toNat*ch) ch else P
theorem qj4 (P:List UInt8) (o:Nat):∀i,(q8t P o i).length=P.length
 | 0=>rfl
 | i+1=>by show (List.set _ _ _).length=_;rw [List.length_set,qj4 P o i]
section
variable {w w':World} {B base:Nat} {s:qo} {R C0 cw ch W H:Nat} {L:List (List Cel)} {m:qa} {P:List UInt8}
theorem vp {v lo hi:Int} {K:Bool->Ub} (hK:K (decide (lo<=v/\v<=hi)) w):jW v lo hi w K:=by
 refine qnq _ _ _ ?_;refine cO (λe=>?_) λe=>?_
 ·have e:=oTq e;rw [show decide (lo<=v/\v<=hi)=decide (v<=hi) by simp;intro _;exact e] at hK;exact hK
 ·have e:=oFq e;rw [show decide (lo<=v/\v<=hi)=false by simp;omega] at hK;exact hK
theorem qwo (h:ScnM w B s R C0 cw ch L) (hW:W=C0*cw) (hH:H=R*ch) (br:-1000000<=s.Row/\s.Row<=1000000) (bc:-1000000<=s.Col/\s.Col<=1000000) (hM:MatM w base m W H P) {K:qa->Ub}
  (hK:∀w',MatM w' base m W H (qpf P W R C0 cw ch s.Cursor s.Row s.Col)->Chg (λk=>m.P.blk=some k) w w'->K m w'):yA ⟨s⟩ m w K:=by
 refine qde _ _ ?_;refine nwb λw1 h1 hB1 hs1=>nwb λw2 h2 hB2 hs2=>nwb λw3 h3 hB3 hs3=>?_;have h13:=(h1.ext hB2).ext hB3;have h23:=h2.ext hB3;refine qx (r:=qo.rep) (x:=s) (h13.sub 0 _ rfl) ?_;refine nwb λw4 h4 hB4 hs4=>x5 h4 rfl λw5 h5 hc5 hs5=>?_;have l3:=h3.lt;have l2:=h23.lt;have z12:=(bT hB1 hB2).size;have z4:=hB4.size;have B5:Uc w w5:=b1o (bT (bT (bT hB1 hB2) hB3) hB4) hc5 (by omega);have h25:=(h23.ext hB4).chg hc5 (by omega);have h35:=(h3.ext hB4).chg hc5 (by omega);obtain ⟨gm,ha,hbm⟩:=hM.some_;have gl:=hM.own.lt gm hbm;have lim:=h.lim;have hM5:=hM.ext B5;have kp:∀{b:Nat} {t:TypeId} {vs:List Value} {wa wb:World},Blk wa b t vs->Chg (λk=>m.P.blk=some k) wa wb->w.heap.size<=b->Blk wb b t vs:=λhb hc hle=>hb.chg hc λe=>by rw [hbm] at e;cases e;omega
 have fin:∀w6 P6,MatM w6 base m W H P6->Chg (λk=>m.P.blk=some k) w5 w6->P6=qpf P W R C0 cw ch s.Cursor s.Row s.Col ->
   ldS qa.rep ⟨w1.heap.size,0,none⟩ w6 λt93=>stK ⟨w2.heap.size,0,none⟩ (qa.rep.cells t93) w6 λw11=>ldS qa.rep ⟨w2.heap.size,0,none⟩ w11 λr=>K r w11:=by
  rintro w6 P6 hM6 hc6 rfl;refine qx (r:=qa.rep) (x:=m) (kp h25 hc6 hB1.size).cells ?_;refine zM (r:=qa.rep) (x:=m) (kp h35 hc6 z12) rfl rfl λw7 hc7 hs7=>?_;have z6:=hc6.size;refine hK w7 ⟨hM6.hw,hM6.hh,hM6.own.chg hc7 (λk hk e=>by rw [hbm] at hk;cases hk;omega),hM6.len,hM6.lim⟩ ?_;refine (Chg.of_ext (S:=λk=>m.P.blk=some k) B5).trans (S':=λk=>m.P.blk=some k\/k=w2.heap.size) ((hc6.mono λ_ _ h=>.inl h).trans hc7 λ_ _ e=>.inr e) λi hi e=>?_;rcases e with e | e
  ·exact e
  ·omega
 refine jpO λJ1 hJ1=>?_;have go:s.Cursor=true->(0<=s.Row/\s.Row<(R:Int))->(0<=s.Col/\s.Col<(C0:Int))->∀w6,Uc w5 w6->J1 () w6:=by
  intro hon hrow hcol w6 hB6;refine hJ1 _ _ ?_;have h56:=h5.ext hB6;have hM6:=hM5.ext hB6;obtain ⟨r,hr⟩:∃r:Nat,s.Row=r:=⟨s.Row.toNat,by omega⟩;obtain ⟨c,hc⟩:∃c:Nat,s.Col=c:=⟨s.Col.toNat,by omega⟩;obtain ⟨e1,b1⟩:=q2j (a:=r) (b:=ch) (by omega) (by omega);obtain ⟨e2,b2⟩:=q2j (a:=c) (b:=cw) (by omega) (by omega);have lr:∀{wx},Blk wx w3.heap.size zb (qo.rep.cells s)->wx.cell? ((⟨w3.heap.size,0,none⟩:Addr).add 9)=some (Ua r):=λhx=>by rw [<-hr];exact hx.cells 9 _ rfl
  have lc:∀{wx},Blk wx w3.heap.size zb (qo.rep.cells s)->wx.cell? ((⟨w3.heap.size,0,none⟩:Addr).add 10)=some (Ua c):=λhx=>by rw [<-hc];exact hx.cells 10 _ rfl
  have lh:∀{wx},Blk wx w3.heap.size zb (qo.rep.cells s)->wx.cell? ((⟨w3.heap.size,0,none⟩:Addr).add 3)=some (Ua ch):=λhx=>by rw [<-h.ech];exact hx.cells 3 _ rfl
  have lw:∀{wx},Blk wx w3.heap.size zb (qo.rep.cells s)->wx.cell? ((⟨w3.heap.size,0,none⟩:Addr).add 2)=some (Ua cw):=λhx=>by rw [<-h.ecw];exact hx.cells 2 _ rfl
  have er:i64.wrap (i64.wrap ((r:Int)+1)*(ch:Int))=((r*ch+ch:Nat):Int):=by
   rw [qP (x:=(r:Int)+1) (by omega),show ((r:Int)+1)*(ch:Int)=((r*ch+ch:Nat):Int) by rw [Int.add_mul];simp];exact qP (by omega)
  have ec:i64.wrap (i64.wrap ((c:Int)+1)*(cw:Int))=((c*cw+cw:Nat):Int):=by
   rw [qP (x:=(c:Int)+1) (by omega),show ((c:Int)+1)*(cw:Int)=((c*cw+cw:Nat):Int) by rw [Int.add_mul];simp];exact qP (by omega)
  have inr:r*ch+ch<=H:=by
   rw [hH];have:(r+1)*ch<=R*ch:=Nat.mul_le_mul_right ch (by omega);rw [add_mul] at this;omega
  have inc:c*cw+cw<=W:=by
   rw [hW];have:(c+1)*cw<=C0*cw:=Nat.mul_le_mul_right cw (by omega);rw [add_mul] at this;omega
  obtain ⟨y0,hy0⟩:∃y0,y0=r*ch:=⟨_,rfl⟩;obtain ⟨x0,hx0⟩:∃x0,x0=c*cw:=⟨_,rfl⟩;refine lI (x:=(r:Int)) (lr h56) (lI (x:=(ch:Int)) (lh h56) ?_);rw [e1,<-hy0];rw [<-hy0] at er inr b1;rw [<-hx0] at ec inc b2;have c06:Chg (λk=>m.P.blk=some k) w5 w6:=Chg.of_ext hB6;have hlen:=hM.len;have hlim:=hM.lim;refine lpR (λ(st:Int×Unit) w7=>∃k:Nat,st.1=((y0+k:Nat):Int)/\k<=ch/\MatM w7 base m W H (q6b P W x0 cw y0 k)/\Chg (λk=>m.P.blk=some k) w6 w7) (λst=>ch-(st.1.toNat-y0)) ⟨0,rfl,zero_le _,hM6,Chg.refl _ _⟩ ?_;rintro ⟨i,u⟩ w7 ⟨k,hi,hk,hM7,hc7⟩ I hI;dsimp only at hi ⊢;subst hi;have h57:=kp h56 hc7 (by omega);refine lI (x:=(r:Int)) (lr h57) (lI (x:=(ch:Int)) (lh h57) ?_);rw [er];refine cO (λe=>?_) λe=>?_
  ·have hkn:k<ch:=by have:=oTq e;omega
   refine lI (x:=(c:Int)) (lc h57) (lI (x:=(cw:Int)) (lw h57) ?_);rw [e2,<-hx0];refine lpR (λ(st:Int×Unit) w8=>∃j:Nat,st.1=((x0+j:Nat):Int)/\j<=cw/\MatM w8 base m W H (q8v (q6b P W x0 cw y0 k) W (y0+k) x0 j)/\Chg (λk=>m.P.blk=some k) w6 w8) (λst=>cw-(st.1.toNat-x0)) ⟨0,rfl,zero_le _,hM7,hc7⟩ ?_;rintro ⟨i2,u2⟩ w8 ⟨j,hi2,hj,hM8,hc8⟩ I2 hI2;dsimp only at hi2 ⊢;subst hi2;have h58:=kp h56 hc8 (by omega);refine lI (x:=(c:Int)) (lc h58) (lI (x:=(cw:Int)) (lw h58) ?_);rw [ec];refine cO (λe=>?_) λe=>?_
   ·have hjn:j<cw:=by have:=oTq e;omega
    have hin:=q4s (W:=W) (H:=H) (x:=x0+j) (y:=y0+k) (by omega) (by omega);obtain ⟨o,ho⟩:∃o,o=4*((y0+k)*W+(x0+j)):=⟨_,rfl⟩;refine lpR (λ(st:Int×Unit) w9=>∃t:Nat,st.1=(t:Int)/\t<=3/\MatM w9 base m W H (q8t (q8v (q6b P W x0 cw y0 k) W (y0+k) x0 j) o t)/\Chg (λk=>m.P.blk=some k) w6 w9) (λst=>3-st.1.toNat) ⟨0,rfl,by omega,hM8,hc8⟩ ?_;rintro ⟨i3,u3⟩ w9 ⟨t,hi3,ht,hM9,hc9⟩ I3 hI3;dsimp only at hi3 ⊢;subst hi3;refine cO (λe=>?_) λe=>?_
    ·have htn:t<3:=by have:=oTq e;omega
     have hm9:=(kp (h25.ext hB6) hc9 hB1.size).drew;refine lSl (x:=m.P) (hm9.cells 2 _ rfl) (lI (x:=(W:Int)) (by rw [<-hM.hw];exact hm9.cells 0 _ rfl) (lSl (x:=m.P) (hm9.cells 2 _ rfl) (lI (x:=(W:Int)) (by rw [<-hM.hw];exact hm9.cells 0 _ rfl) ?_)));have eidx:i64.wrap (i64.wrap ((4:Int)*i64.wrap (i64.wrap (((y0+k:Nat):Int)*(W:Int))+((x0+j:Nat):Int)))+(t:Int))=((o+t:Nat):Int):=by
      have e1:((y0+k:Nat):Int)*(W:Int)=(((y0+k)*W:Nat):Int):=by simp
      rw [e1,ho];generalize (y0+k)*W=q at hin ⊢;rw [qP (x:=((q:Nat):Int)) (by omega),qP (x:=((q:Nat):Int)+((x0+j:Nat):Int)) (by omega),qP (x:=(4:Int)*(((q:Nat):Int)+((x0+j:Nat):Int))) (by omega),qP (by omega)];omega
     rw [eidx];have hl9:=hM9.len;have ho9:=hM9.own.drew;have hot:o+t<(q8t (q8v (q6b P W x0 cw y0 k) W (y0+k) x0 j) o t).length:=by rw [hl9];omega
     obtain ⟨v,hv,hvs⟩:=q6r (xs:=q8t (q8v (q6b P W x0 cw y0 k) W (y0+k) x0 j) o t) (k:=o+t) hot;refine ho9.rd.ix (i:=((o+t:Nat):Int)) (k:=1) rfl (by omega) (by omega) λhcell=>?_;rw [hvs] at hcell;refine zg6 (b:=v) hcell ?_;refine ho9.rd.ix (i:=((o+t:Nat):Int)) (k:=1) rfl (by omega) (by omega) λ_=>?_;have ev:IntKind.u8.wrap ((255:Int)-(v.toNat:Int))=((255-v).toNat:Int):=by
      have h8:=v.toNat_lt;have e1:(255-v).toNat=255-v.toNat:=by
       rw [UInt8.toNat_sub_of_le]
       ·rfl
       ·rw [UInt8.le_iff_toNat_le];show v.toNat<=255;omega
      rw [e1,show (255:Int)-(v.toNat:Int)=((255-v.toNat:Nat):Int) by omega];exact jE .u8 (by show _<2^8;omega)
     rw [ev];refine ho9.st0 (x:=v) hv (y:=255-v) rfl λw10 ho10 hg10 hs10=>?_;rw [qP (x:=(t:Int)+1) (by omega)];have hc10:Chg (λk=>m.P.blk=some k) w9 w10:=(Chg.of_ext (bdw w9)).trans (Chg.of_grown (S:=λk=>m.P.blk=some k) hg10 λk hk=>hk) λ_ _ h=>h;refine hI3 _ _ ⟨t+1,by simp,by omega,⟨hM9.hw,hM9.hh,?_,by rw [qj4,<-qj4 _ o t];exact hl9,hM9.lim⟩,hc9.trans hc10 λ_ _ h=>h⟩ (by dsimp only;omega);show Go.Vc.Own qm w10 base m.P (List.set _ (o+t) (255-List.getD _ (o+t) 0));rw [List.getD_eq_getElem?_getD,hv];exact ho10
    ·have:t=3:=by have:=oFq e;omega
     subst this;rw [qP (x:=((x0+j:Nat):Int)+1) (by omega)];refine hI2 _ _ ⟨j+1,by simp;omega,by omega,?_,hc9⟩ (by dsimp only;omega);rw [ho] at hM9;exact hM9
   ·have:j=cw:=by have:=oFq e;omega
    subst this;rw [qP (x:=((y0+k:Nat):Int)+1) (by omega)];exact hI _ _ ⟨k+1,by simp;omega,by omega,hM8,hc8⟩ (by dsimp only;omega)
  ·have:k=ch:=by have:=oFq e;omega
   subst this;refine fin w7 _ hM7 (c06.trans hc7 λ_ _ h=>h) ?_;unfold qpf;rw [if_pos ⟨hon,hrow,hcol⟩,hr,hc,Int.toNat_natCast,Int.toNat_natCast,<-hy0,<-hx0]
 have no:¬(s.Cursor=true/\(0<=s.Row/\s.Row<(R:Int))/\(0<=s.Col/\s.Col<(C0:Int)))->P=qpf P W R C0 cw ch s.Cursor s.Row s.Col:=λhn=>by unfold qpf;rw [if_neg hn]
 refine xP (x:=s.Cursor) (h5.cells 8 _ rfl) (cO (λe=>?_) λe=>?_)
 ·have e:s.Cursor=false:=by simpa using e
  exact fin w5 P hM5 (Chg.refl _ _) (no λhh=>by rw [e] at hh;cases hh.1)
 have eon:s.Cursor=true:=by simpa using e
 refine lI (x:=s.Row) (h5.cells 9 _ rfl) (lI (x:=(R:Int)) (by rw [<-h.rows];exact h5.cells 0 _ rfl) ?_);rw [qP (x:=(R:Int)-1) (by omega)];refine vp (cO (λe=>?_) λe=>?_)
 ·have e:¬(0<=s.Row/\s.Row<=(R:Int)-1):=λhh=>by simp at e;omega
  exact fin w5 P hM5 (Chg.refl _ _) (no λhh=>e ⟨hh.2.1.1,by omega⟩)
 have er:0<=s.Row/\s.Row<=(R:Int)-1:=by simpa using e
 refine lI (x:=s.Col) (h5.cells 10 _ rfl) (lI (x:=(C0:Int)) (by rw [<-h.cols];exact h5.cells 1 _ rfl) ?_);rw [qP (x:=(C0:Int)-1) (by omega)];refine vp (cO (λe=>?_) λe=>?_)
 ·have e:¬(0<=s.Col/\s.Col<=(C0:Int)-1):=λhh=>by simp at e;omega
  exact fin w5 P hM5 (Chg.refl _ _) (no λhh=>e ⟨hh.2.2.1,by omega⟩)
 have ec:0<=s.Col/\s.Col<=(C0:Int)-1:=by simpa using e
 exact go eon ⟨er.1,by omega⟩ ⟨ec.1,by omega⟩ w5 (Below.refl _ _)
end
def zsc:qo:=⟨0,0,0,0,⟨none,0,0⟩,⟨none,0,0⟩,none,0,false,0,0⟩
def scA (s:qo):Value:=.agg #[(Ua s.Rows),(Ua s.Cols),(Ua s.CellW),(Ua s.CellH),(.slice s.Lines.a s.Lines.n s.Lines.c),(.slice s.Places.a s.Places.n s.Places.c),(.map s.Images),(Ua s.Top),(.bool s.Cursor),(Ua s.Row),(Ua s.Col)]
def scI (s:qo) (b:Bool):Value:=.agg #[(Ua s.Rows),(Ua s.Cols),(Ua s.CellW),(Ua s.CellH),(.slice s.Lines.a s.Lines.n s.Lines.c),(.slice s.Places.a s.Places.n s.Places.c),(.map s.Images),(Ua s.Top),(.bool s.Cursor),(Ua s.Row),(Ua s.Col),(.bool b)]
theorem qi2 {l:Value} {t:TypeId} {r:Rep} {x:r.T} {b:Bool} {w:World} {K:r.T->Bool->Ub} (hp:qfj PG (Instr.typeAssert l xN t true)=some (.tuple #[(Kind.struct r).enc x,Kind.bool.enc b])) (hK:K x b w) :
  qha PG (Instr.typeAssert l xN t true) (Kind.struct r) Kind.bool w K:=⟨x,b,w,ZG _ hp w,hK⟩
section
variable {w w':World} {B base:Nat} {s:qo} {R C0 cw ch W H:Nat} {L:List (List Cel)} {m:qa} {P:List UInt8}
theorem zei {K:ByteArray->Ub} (hK:∀s,K s w):kJ (.iface jD (scA s)) w K:=by
 refine Qc _ ?_;refine qi2 (r:=zO.rep) (x:=⟨zsc,false⟩) (b:=false) (by kernel_rfl) (cF rfl ?_);refine qi2 (r:=qB.rep) (x:=⟨s⟩) (b:=true) (by kernel_rfl) ?_;exact qi2 (r:=qB.rep) (x:=⟨zsc⟩) (b:=false) (by kernel_rfl) (cT rfl (hK _))
theorem q7j {b:Bool} {K:ByteArray->Ub} (hK:∀s,K s w):kJ (.iface xy (scI s b)) w K:=by
 refine Qc _ ?_;exact qi2 (r:=zO.rep) (x:=⟨s,b⟩) (b:=true) (by kernel_rfl) (cT rfl (hK _))
theorem zeg {K:ByteArray->Ub} (hK:∀s,K s w):kJ (.iface jw (scA s)) w K:=by
 refine Qc _ ?_;refine qi2 (r:=zO.rep) (x:=⟨zsc,false⟩) (b:=false) (by kernel_rfl) (cF rfl ?_);refine qi2 (r:=qB.rep) (x:=⟨zsc⟩) (b:=false) (by kernel_rfl) ?_;exact qi2 (r:=qB.rep) (x:=⟨s⟩) (b:=true) (by kernel_rfl) (cF rfl (cT rfl (hK _)))
theorem zel {K:ByteArray->Ub} (hK:∀s,K s w):kJ (.iface ky (scA s)) w K:=by
 refine Qc _ ?_;refine qi2 (r:=zO.rep) (x:=⟨zsc,false⟩) (b:=false) (by kernel_rfl) (cF rfl ?_);refine qi2 (r:=qB.rep) (x:=⟨zsc⟩) (b:=false) (by kernel_rfl) ?_;refine qi2 (r:=qB.rep) (x:=⟨zsc⟩) (b:=false) (by kernel_rfl) (cF rfl (cF rfl ?_));exact qi2 (r:=qB.rep) (x:=⟨s⟩) (b:=true) (by kernel_rfl) (cT rfl (hK _))
theorem zgn (w : World) : (method (PG.types.size + Made.depth) jD (scA s) "Paint").run PG w = .ok (518, scA s) w := ZG _ (by kernel_rfl) w
theorem zhh (b : Bool) (w : World) : (method (PG.types.size + Made.depth) xy (scI s b) "Paint").run PG w = .ok (528, scI s b) w := ZG _ (by kernel_rfl) w
theorem zg3 (w : World) : (method (PG.types.size + Made.depth) jw (scA s) "Paint").run PG w = .ok (535, scA s) w := ZG _ (by kernel_rfl) w
theorem zgw (w : World) : (method (PG.types.size + Made.depth) ky (scA s) "Paint").run PG w = .ok (539, scA s) w := ZG _ (by kernel_rfl) w
def mA (m:qa):Value:=.agg #[(Ua m.W),(Ua m.H),(.slice m.P.a m.P.n m.P.c)]
theorem zft {K : qa -> Ub} (h : yd ⟨s⟩ m w K) : qu1 C (.iface jD (scA s)) "Paint" [mA m] [(Kind.struct qa.rep)] w K := ⟨_, _, _, _, rfl, zgn w, by kernel_rfl, h⟩
theorem q7k {b : Bool} {K : qa -> Ub} (h : yI ⟨s, b⟩ m w K) : qu1 C (.iface xy (scI s b)) "Paint" [mA m] [(Kind.struct qa.rep)] w K := ⟨_, _, _, _, rfl, zhh b w, by kernel_rfl, h⟩
theorem ze7 {K : qa -> Ub} (h : yQ ⟨s⟩ m w K) : qu1 C (.iface jw (scA s)) "Paint" [mA m] [(Kind.struct qa.rep)] w K := ⟨_, _, _, _, rfl, zg3 w, by kernel_rfl, h⟩
theorem zem {K : qa -> Ub} (h : yA ⟨s⟩ m w K) : qu1 C (.iface ky (scA s)) "Paint" [mA m] [(Kind.struct qa.rep)] w K := ⟨_, _, _, _, rfl, zgw w, by kernel_rfl, h⟩
structure LayOk (w0:World) (base:Nat) (m:qa) (W H:Nat) (v:Value):Prop where
 nm:∀{w2:World} {K:ByteArray->Ub},(∀s,K s w2)->kJ v w2 K
 pt : ∀ {w2 : World} {P2 : List UInt8} {K : qa -> Ub}, Chg (λk=> m.P.blk = some k) w0 w2 -> MatM w2 base m W H P2 -> (∀ w3 P3, Chg (λk=> m.P.blk = some k) w2 w3 -> MatM w3 base m W H P3 -> K m w3) -> qu1 C v "Paint" [mA m] [(Kind.struct qa.rep)] w2 K
theorem q0f {b n:Nat} {ls:List Value} {t:TypeId} (hb:Blk w b t ls) (hn:ls.length=n) (hn2:n<=1000) (hM:MatM w base m W H P) (hbn:m.P.blk≠some b) (hl:∀(i:Nat) v,ls[i]?=some v->LayOk w base m W H v) {K:qa->Ub}
  (hK:∀w' P',MatM w' base m W H P'->Chg (λk=>m.P.blk=some k) w w'->K m w'):Vn m ⟨some ⟨b,0,none⟩,n,n⟩ w K:=by
 refine qnb _ _ ?_;refine nwb λw1 h1 hB1 hs1=>nwb λw2 h2 hB2 hs2=>?_;have B2:=bT hB1 hB2;obtain ⟨gm,ha,hbm⟩:=hM.some_;have gl:=hM.own.lt gm hbm;have bl:=hb.lt;refine lpR (λ(st:Int×Unit) w3=>∃(i:Nat) (P3:List UInt8),st.1=i/\i<=n/\MatM w3 base m W H P3/\Blk w3 w.heap.size qq (qa.rep.cells m)/\(∃zs,Blk w3 w1.heap.size qq zs/\zs.length=3)/\Blk w3 b t ls/\Chg (λk=>m.P.blk=some k) w w3) (λst=>n-st.1.toNat) ⟨0,P,rfl,zero_le _,hM.ext B2,h1.ext hB2,⟨_,h2,rfl⟩,hb.ext B2,Chg.of_ext B2⟩ ?_;rintro ⟨i,u⟩ w3 ⟨k,P3,hi,hk,hM3,hm3,⟨zs,hz3,hzl⟩,hb3,hc3⟩ I hI;dsimp only at hi ⊢;subst hi;refine cO (λe=>?_) λe=>?_
 ·have e:=oTq e;have hkn:k<n:=by omega
  obtain ⟨v,hv⟩:∃v,ls[k]?=some v:=⟨ls[k],List.getElem?_eq_getElem (by omega)⟩;have hlv:=hl k v hv;refine qze (s:=⟨some ⟨b,0,none⟩,n,n⟩) rfl (by omega) (by show (k:Int)<(n:Int);omega) ?_;refine qkm (x:=v) (by show w3.cell? ((⟨b,0,none⟩:Addr).add (((k:Nat):Int).toNat*1))=some v;rw [Int.toNat_natCast,mul_one];exact hb3.cells k v hv) ?_;refine jpO λJ2 hJ2=>?_;have key:J2 (true,()) w3:=by
   refine hJ2 _ _ (cT rfl ?_);refine qx (r:=qa.rep) (x:=m) hm3.cells ?_;refine hlv.pt hc3 hM3 λw4 P4 hc4 hM4=>?_;have hm4:Blk w4 w.heap.size qq (qa.rep.cells m):=hm3.chg hc4 (by rw [hbm];intro e;cases e;omega);have hz4:Blk w4 w1.heap.size qq zs:=hz3.chg hc4 (by rw [hbm];intro e;cases e;omega);have hb4:Blk w4 b t ls:=hb3.chg hc4 (λe=>hbn e);refine x5 hm4 rfl λw5 hm5 hc5 hs5=>?_;have hM5:MatM w5 base m W H P4:=⟨hM4.hw,hM4.hh,hM4.own.chg hc5 (λk hk e=>by rw [hbm] at hk;cases hk;omega),hM4.len,hM4.lim⟩;refine hI _ _ ⟨k+1,P4,by show i64.wrap ((k:Int)+1)=_;rw [qP (by have:=hb.lt;omega)];simp,by omega,hM5,hm5,⟨zs,hz4.chg hc5 (by omega),hzl⟩,hb4.chg hc5 (by omega),?_⟩ (by show n-(i64.wrap ((k:Int)+1)).toNat<n-((k:Nat):Int).toNat;rw [qP (by omega)];omega);exact (hc3.trans hc4 λ_ _ h=>h).trans hc5 λi hi e=>by omega
  refine hlv.nm λsn=>?_;refine cO (λ_=>key) λ_=>lSl (x:=m.P) (hm3.cells 2 _ rfl) ?_;have hp:0<m.P.n:=by
   rw [hM3.own.rd.n,hM3.len];have:=hM3.lim;exact Nat.mul_pos (Nat.mul_pos (by decide) (by omega)) (by omega)
  rw [dTq (by omega)];exact key
 ·refine qx (r:=qa.rep) (x:=m) hm3.cells ?_;refine zM (r:=qa.rep) (x:=m) hz3 rfl (by rw [hzl];rfl) λw5 hc5 hs5=>?_;refine hK w5 P3 ⟨hM3.hw,hM3.hh,hM3.own.chg hc5 (λk hk e=>by rw [hbm] at hk;cases hk;omega),hM3.len,hM3.lim⟩ (hc3.trans hc5 λi hi e=>by omega)
theorem q9u (h:ScnM w B s R C0 cw ch L) (hbr:zfr L) (hch:zdf L) (hp:s.Places.n=0) (br:-1000000<=s.Row/\s.Row<=1000000) (bc:-1000000<=s.Col/\s.Col<=1000000) (hBw:B<=w.heap.size) (hW2:C0*cw<=16384) (hH2:R*ch<=16384) (hA:C0*cw*(R*ch)<=67108864)
  {K:qa->Int->Ub} (hK:∀m w',m.W=((C0*cw:Nat):Int)->m.H=((R*ch:Nat):Int)->Uc w w'->K m 0 w'):qfy s w K:=by
 refine qsm _ ?_;have lim:=h.lim;refine nwb λw1 h1 hB1 hs1=>nwb λw2 h2 hB2 hs2=>?_;have B2:=bT hB1 hB2;have h12:=h1.ext hB2;refine jpO λJ1 hJ1=>jpO λJ2 hJ2=>?_;refine lI (x:=(R:Int)) (by rw [<-h.rows];exact h12.cells 0 _ rfl) (vp (cF (by rw [dTq (by omega)];rfl) ?_));refine lI (x:=(C0:Int)) (by rw [<-h.cols];exact h12.cells 1 _ rfl) (vp (cF (by rw [dTq (by omega)];rfl) ?_));refine lI (x:=(cw:Int)) (by rw [<-h.ecw];exact h12.cells 2 _ rfl) (vp (cF (by rw [dTq (by omega)];rfl) ?_));refine lI (x:=(ch:Int)) (by rw [<-h.ech];exact h12.cells 3 _ rfl) (vp ?_);rw [dTq (by omega)];refine hJ2 _ _ (cF rfl (hJ1 _ _ ?_));refine lI (x:=(C0:Int)) (by rw [<-h.cols];exact h12.cells 1 _ rfl) (lI (x:=(cw:Int)) (by rw [<-h.ecw];exact h12.cells 2 _ rfl) ?_);refine lI (x:=(R:Int)) (by rw [<-h.rows];exact h12.cells 0 _ rfl) (lI (x:=(ch:Int)) (by rw [<-h.ech];exact h12.cells 3 _ rfl) ?_);rw [(q2j (a:=C0) (b:=cw) (by omega) (by omega)).1,(q2j (a:=R) (b:=ch) (by omega) (by omega)).1];have w1':1<=C0*cw:=Nat.mul_pos (by omega) (by omega);have hh1:1<=R*ch:=Nat.mul_pos (by omega) (by omega);refine qw8 w1' hW2 hh1 hH2 hA λt gm w4 ht hta hgm hB4=>?_;have B4:=bT B2 hB4;refine nwb λw5 h5 hB5 hs5=>?_;refine x5 h5 rfl λw6 h6 hc6 hs6=>?_;have l12:=B2.size;have l4:=hB4.size;have B6:Uc w w6:=b1o (bT B4 hB5) hc6 (by omega);have B26:Uc w2 w6:=b1o (bT hB4 hB5) hc6 (by omega);refine cF rfl (qx (r:=qa.rep) (x:=⟨_,_,t⟩) h6.cells ?_);have h16:Blk w6 w.heap.size zb (qo.rep.cells s):=h12.ext B26;have h26:=h2.ext B26;refine qx (r:=qo.rep) (x:=s) h16.cells (qx (r:=qo.rep) (x:=s) h16.cells (qx (r:=qo.rep) (x:=s) h16.cells (qx (r:=qo.rep) (x:=s) h16.cells (qx (r:=qo.rep) (x:=s) h16.cells ?_))));refine nwb λw7 h7 hB7 hs7=>?_;have ht6:Go.Vc.Own qm w7 w2.heap.size t (List.replicate (4*(C0*cw)*(R*ch)) 0):=((ht.ext hB5).chg hc6 λk hk e=>by have h8:=(ht.lt k hk).2;omega).ext hB7;have h4a:4*(C0*cw)*(R*ch)<=268435456:=by rw [Nat.mul_assoc];omega
 have hM:MatM w7 w2.heap.size ⟨((C0*cw:Nat):Int),((R*ch:Nat):Int),t⟩ (C0*cw) (R*ch) (List.replicate (4*(C0*cw)*(R*ch)) 0):=⟨rfl,rfl,ht6,by rw [List.length_replicate],⟨w1',hW2,hh1,hH2,h4a⟩⟩;have B7:=bT B6 hB7;have hs7:=h.ext B7;have htb:t.blk=some gm:=by unfold Slc.blk;rw [hta];rfl
 have gl7:=(ht6.lt gm htb).2;have gl4:=(ht.lt gm htb).2;have kp:∀{wx},Chg (λk=>t.blk=some k) w7 wx->ScnM wx B s R C0 cw ch L:=λhc=>hs7.keep hc λk hk=>by rw [htb] at hk;cases hk;omega
 refine q0f (n:=5) (m:=⟨((C0*cw:Nat):Int),((R*ch:Nat):Int),t⟩) h7 rfl (by decide) hM (by show t.blk≠_;rw [htb];intro e;cases e;omega) (λi v hv=>?_) λw8 P8 hM8 hc8=>?_
 ·match i,hv with
  | 0,hv =>
   obtain rfl:=Option.some.inj hv;exact ⟨λhK=>zei hK,λhc hM hK=>zft (qzp (kp hc) hbr hM (by omega) λw3 hM3 hc3=>hK w3 _ hc3 hM3)⟩
  | 1,hv =>
   obtain rfl:=Option.some.inj hv;exact ⟨λhK=>q7j (s:=s) (b:=false) hK,λhc hM hK=>q7k (qmg hp false hM λw3 hM3 hB3=>hK w3 _ (Chg.of_ext hB3) hM3)⟩
  | 2,hv =>
   obtain rfl:=Option.some.inj hv;exact ⟨λhK=>zeg hK,λhc hM hK=>ze7 (q1t (kp hc) hbr hch hM (by omega) λw3 hM3 hc3=>hK w3 _ hc3 hM3)⟩
  | 3,hv =>
   obtain rfl:=Option.some.inj hv;exact ⟨λhK=>q7j (s:=s) (b:=true) hK,λhc hM hK=>q7k (qmg hp true hM λw3 hM3 hB3=>hK w3 _ (Chg.of_ext hB3) hM3)⟩
  | 4,hv =>
   obtain rfl:=Option.some.inj hv;exact ⟨λhK=>zel hK,λhc hM hK=>zem (qwo (kp hc) rfl rfl br bc hM λw3 hM3 hc3=>hK w3 _ hc3 hM3)⟩
  | i+5,hv=>simp at hv
 have h28:Blk w8 w1.heap.size qq [(Ua 0),(Ua 0),(.slice none 0 0)]:=(h26.ext hB7).chg hc8 (by show t.blk≠_;rw [htb];intro e;cases e;omega);refine zM (r:=qa.rep) (x:=⟨((C0*cw:Nat):Int),((R*ch:Nat):Int),t⟩) h28 rfl rfl λw9 hc9 hs9=>hK _ w9 rfl rfl ?_;have B8:Uc w w8:=B7.trans (hc8.below B7.size λk hk e=>by rw [show t.blk=some k from e] at htb;cases htb;omega);exact b1o B8 hc9 hB1.size
end
section
variable {w w':World} {base:Nat} {F F':TmF} {T T':TS} {g:Nat} {SF:ScF} {S:Sc}
theorem q9i (h:ScM w base g SF S) {K:Int->Ub} (hK:∀w',Uc w w'->K S.g.top w'):Q0 (some ⟨g,0,none⟩) w K:=by
 refine qe3 _ ?_;exact qn5 h (qxo h.drew.gM (hK _ (zn w)))
theorem q6a (h:ScM w base g SF S) {K:Int->Int->Ub} (hK:∀w',Uc w w'->K S.g.rows S.g.cols w'):y6 (some ⟨g,0,none⟩) w K:=by
 refine qeo _ ?_;exact qmx h (hK _ ((Below.refl _ w).drew.drew))
def yp (T:TS):qh:=⟨⟨T.S.alt,T.S.g.top,T.S.g.rows,T.S.g.cols,T.S.c.Row,T.S.c.Col⟩,T.c.CellW,T.c.CellH⟩
theorem qqs (h:TermM w base F T) {K:qh->Ub} (hK:∀w',Uc w w'->K (yp T) w'):vf (some ⟨F.tg,0,none⟩) w K:=by
 refine qlk _ ?_;simp only [onPtr_some];refine nwb λw1 h1 hB1 hs1=>?_;have m1:=h.ext hB1;refine qK (x:=some ⟨F.sg,0,none⟩) (m1.blk.cells 6 _ rfl) (q6a m1.sc λw2 hB2=>?_);have B2:=bT hB1 hB2;have m2:=h.ext B2;refine qK (x:=some ⟨F.sg,0,none⟩) (m2.blk.cells 6 _ rfl) (q0x m2.sc λw3 hB3=>?_);have B3:=bT B2 hB3;refine ko (vs:=qI.rep.cells T.S.c) rfl λw4 h4 hB4 hs4=>?_;have B4:=bT B3 hB4;have m4:=(h.ext B4).drew;have h4d:=h4.drew;refine qK (x:=some ⟨F.sg,0,none⟩) (m4.blk.cells 6 _ rfl) (qK (x:=some ⟨F.sg,0,none⟩) (m4.blk.cells 6 _ rfl) ?_);refine lI (x:=T.S.c.Row) (h4d.cells 0 _ rfl) (lI (x:=T.S.c.Col) (h4d.cells 1 _ rfl) ?_);refine lI (x:=T.c.CellW) (by rw [jR];exact m4.blk.cells 2 _ rfl) (lI (x:=T.c.CellH) (by rw [jR];exact m4.blk.cells 3 _ rfl) ?_);refine q3f m4.sc ⟨by rw [jR];exact m4.blk.cells 3 _ rfl,by rw [jR];exact m4.blk.cells 2 _ rfl,h4d.cells 1 _ rfl,h4d.cells 0 _ rfl,m4.blk.cells 6 _ rfl,q9i m4.sc λw7 hB7=>?_⟩;have m7:=m4.ext hB7;have h47:=h4d.ext hB7;refine ⟨by rw [jR];exact m7.blk.cells 3 _ rfl,by rw [jR];exact m7.blk.cells 2 _ rfl,h47.cells 1 _ rfl,h47.cells 0 _ rfl,?_⟩;have h17:=(((((h1.ext hB2).ext hB3).ext hB4).drew).ext hB7);have B7:=bT (bT B4 (bdw w4)) hB7;exact zM (r:=qh.rep) (x:=yp T) h17 rfl rfl λw8 hc8 hs8=>hK w8 (b1o B7 hc8 (le_refl _))
theorem qzc (h:ScM w base g SF S) {K:Slc->Ub} (hK:∀q w',q.n=S.areas.length->ScT base g w SF { SF with ar:=⟨none,0,0⟩ } { S with areas:=[] } w'->K q w'):vO (some ⟨g,0,none⟩) w K:=by
 refine qa1 _ ?_;simp only [onPtr_some];refine lSl (x:=SF.ar) (h.blk.cells 41 _ rfl) ?_;show stK ⟨g,41,none⟩ _ _ _;have hlen:(qu.rep.cells (scX SF S)).length=42:=rfl;refine qw h.blk (by rw [hlen];show (41+1:Nat)<=42;omega) λw1 hb1 hg1 hs1=>?_;have hc:Chg (λi=>i=g) w w1:=Chg.of_grown hg1 λk hk=>by cases hk;rfl
 have hC:∀k cs,k=g->¬Blk w k qT cs:=λk cs hk hcs=>h.notC k cs (.inl hk) hcs;refine hK SF.ar w1 h.ar.rd.n ⟨⟨hb1,h.hg,h.g0.chg hc (λk hk=>h.of_g k (.inl hk)) hC,h.g1.chg hc (λk hk=>h.of_g k (.inr (.inl hk))) hC,h.st.keep hc (h.of_g _ (.inr (.inr (.inl rfl)))) (h.of_g _ (.inr (.inr (.inr (.inl rfl))))),h.hst,h.mo.chg hc (h.of_g _ (.inr (.inr (.inr (.inr (.inl rfl)))))),h.pr.chg hc (h.of_g _ (.inr (.inr (.inr (.inr (.inr (.inl rfl))))))),h.hm,h.dm,Go.Vc.Own.nil _ _ _,h.dg,h.ok.areas _⟩,?_,hc.mono λk _ e=>.inl e⟩;rintro k (hk | hk | hk | hk | hk | hk | hk | hk)
 ·exact .inl (.inl hk)
 ·exact .inl (.inr (.inl hk))
 ·exact .inl (.inr (.inr (.inl hk)))
 ·exact .inl (.inr (.inr (.inr (.inl hk))))
 ·exact .inl (.inr (.inr (.inr (.inr (.inl hk)))))
 ·exact .inl (.inr (.inr (.inr (.inr (.inr (.inl hk))))))
 ·exact .inl (.inr (.inr (.inr (.inr (.inr (.inr (.inl hk)))))))
 ·cases hk
theorem qzw {f:Value} {LS:List (List qO)} (hn:LS.length<=2000)
  (hf:∀(i:Nat) w2 (K:Slc->Bool->Ub),Uc w w2->(∀xs,LS[i]?=some xs->∀q w3,Go.Vc.Own zr w3 w2.heap.size q xs->Uc w2 w3->K q true w3)->(LS.length<=i->∀q w3,Uc w2 w3->K q false w3)->jl C f [.int .i64 i] [Kind.slice,Kind.bool] w2 K)
  {K:Slc->Ub} (hK:∀q ls w',Go.Vc.Own slE w' w.heap.size q ls->Lines w' w.heap.size ls LS->Uc w w'->K q w'):qgy f w K:=by
 refine qsl _ ?_;refine lpR (λ(st:Slc×Int×Unit) w1=>∃(k:Nat) (ls:List Slc),st.2.1=k/\k<=LS.length/\Go.Vc.Own slE w1 w.heap.size st.1 ls/\Lines w1 w.heap.size ls (LS.take k)/\Uc w w1) (λst=>LS.length-st.2.1.toNat) ⟨0,[],rfl,zero_le _,Go.Vc.Own.nil _ _ _,Lines.nil _ _,Below.refl _ _⟩ ?_;rintro ⟨q,i,u⟩ w1 ⟨k,ls,hi,hk,ho,hl,hB⟩ I hI;dsimp only at hi ho ⊢;subst hi;refine hf k w1 _ hB (λxs hx t w2 ht hB2=>?_) λhge t w2 hB2=>?_
 ·refine cF rfl ?_;have hkl:k<LS.length:=(List.getElem?_eq_some_iff.1 hx).1;have hll:ls.length=k:=by rw [hl.1,List.length_take];omega
  have B2:=bT hB hB2;have ho2:=ho.ext hB2;have hl2:=hl.ext hB2;refine YZ (E:=slE) qkd (y:=t) ho2 rfl B2.size (by rw [hll,show qkd.i.bytes=24 by kernel_rfl];omega) (by rw [hll];simp [maxLen];omega) λr w3 hr hc3 hrb=>?_;have hne:∀k',q.blk=some k'->¬∃cs,Blk w2 k' qT cs:=λk' hk' ⟨cs,hcs⟩=>qF ho2 hcs (by decide) k' hk' rfl;have B3:Uc w w3:=B2.trans (hc3.below B2.size λj hj e=>by have:=(ho2.lt j e).1;omega);refine hI _ _ ⟨k+1,ls++[t],by show i64.wrap ((k:Int)+1)=_;rw [qP (by omega)];simp,hkl,hr,⟨by rw [length_append,hll,List.length_take,List.length_singleton];omega,λj s ys hj hy=>?_⟩,B3⟩ (by show LS.length-(i64.wrap ((k:Int)+1)).toNat<LS.length-((k:Nat):Int).toNat;rw [qP (by omega)];omega);by_cases hjk:j<k
  ·rw [List.getElem?_append_left (by omega)] at hj;rw [List.getElem?_take_of_lt (by omega)] at hy;have h4:=hl2.2 j s ys hj (by rw [List.getElem?_take_of_lt hjk];exact hy);exact h4.chg hc3 λk' hk' e=>by
    obtain ⟨cs,hcs⟩:=h4.blk_t hk';exact hne k' e ⟨cs,hcs⟩
  ·have hj2:j<(ls++[t]).length:=(List.getElem?_eq_some_iff.1 hj).1;rw [length_append,List.length_singleton,hll] at hj2;have hje:j=k:=by omega
   subst hje;rw [List.getElem?_append_right (by omega),hll,Nat.sub_self] at hj;obtain rfl:t=s:=by simpa using hj
   rw [List.getElem?_take_of_lt (by omega),hx] at hy;obtain rfl:=Option.some.inj hy;exact (ht.base (by have:=hB.size;omega)).chg hc3 λk' hk' e=>by
    obtain ⟨cs,hcs⟩:=ht.blk_t hk';exact hne k' e ⟨cs,hcs⟩
 ·have hke:k=LS.length:=by omega
  refine cT rfl (hK q ls w2 (ho.ext hB2) ?_ (bT hB hB2));have:=hl.ext hB2;rw [hke,List.take_length] at this;exact this
end
section
variable {w w':World} {base:Nat} {F F':TmF} {T T':TS}
theorem qpk (h:TermM w base F T) {K:Slc->Ub} (hK:∀q ls w',Go.Vc.Own slE w' w.heap.size q ls->Lines w' w.heap.size ls T.S.g.L->Uc w w'->K q w'):js (some ⟨F.tg,0,none⟩) w K:=by
 refine qji _ ?_;simp only [onPtr_some];have hG:=h.sc.gOk;refine qK (x:=some ⟨F.sg,0,none⟩) (h.blk.cells 6 _ rfl) (q9d h.sc λf' w1 hg hf hsc hB1=>?_);have z1:=hB1.size;refine qzw (LS:=T.S.g.L) (by rw [hG.len];have:=hG.rows;omega) (λi w2 K2 hB2 h1 h2=>?_) λq ls w2 ho hl hB2=>hK q ls w2 (ho.base z1) ⟨hl.1,λj s xs hj hx=>(hl.2 j s xs hj hx).base z1⟩ (bT hB1 hB2);refine callR_plain (by kernel_rfl) (show XL (some ⟨f'.g,0,none⟩) (i:Int) w2 K2 from ?_);refine q64 (hg.ext hB2) hG.len (λxs hx=>by have:=(hG.L xs hx).2.1;have:=hG.cols;omega) (λs xs w3 h0 hx ho hB3=>h1 xs (by simpa using hx) s w3 ho hB3) λhn=>h2 (by rw [hG.len];omega) _ _ (Below.refl _ _)
theorem qtv (h:TermM w base F T) {K:Slc->Ub} (hK:∀q F' w',Rd qm w' q T.rep->TmT base w F F' { T with rep:=[] } w'->K q w'):Qx (some ⟨F.tg,0,none⟩) w K:=by
 refine qfi _ ?_;simp only [onPtr_some];refine lSl (x:=F.rq) (h.blk.cells 12 _ rfl) (qxg (q0m h.rq) λq hq hn=>?_);rw [q4];refine qw h.blk (by show 0+12+1<=15;omega) λw2 hb2 hg2 hs2=>?_;have hc:=Chg.gg hg2;have hq2:=hq.chg hc λk hk e=>by
  obtain ⟨cs,hcs⟩:=(hq.blk k hk).2;subst e;exact h.blk.ne_t hcs (by decide) rfl
 exact hK q { F with rq:=⟨none,0,0⟩ } w2 hq2.rd (h.put hb2 hc rfl rfl rfl rfl rfl rfl rfl rfl rfl h.cq (Go.Vc.Own.nil _ _ _) (λk hk=>hk) λk hk=>by cases hk)
theorem q17 (h:TermM w base F T) {n:Int} {priv:Bool} {K:Bool->Ub} (hK:K (T.S.modeP n priv).1 w):XN (some ⟨F.tg,0,none⟩) n priv w K:=by
 refine qk6 _ _ _ ?_;simp only [onPtr_some];exact qK (x:=some ⟨F.sg,0,none⟩) (h.blk.cells 6 _ rfl) (zav h.sc hK)
def q0u (v:EvP):Ev:=⟨v.k,v.r,v.b,v.pv,v.i,v.ps⟩
structure TPM (w:World) (base:Nat) (F:TmF) (PF:PF) (p:PS) (T:TS):Prop where
 tm:TermM w base F T
 pm:∃fv,ParsM w base PF p fv
 e:PF.pg=F.pg
 dj:∀k,vE PF k->¬YK F k
 ni:T.E.S.L=[]
theorem ScM.based {base' g:Nat} {SF:ScF} {S:Sc} (h:ScM w base g SF S) (hb:base'<=base):ScM w base' g SF S :=
 ⟨h.blk,le_trans hb h.hg,h.g0.base hb,h.g1.base hb,h.st,⟨le_trans hb h.hst.1,le_trans hb h.hst.2⟩,h.mo,h.pr,⟨le_trans hb h.hm.1,le_trans hb h.hm.2⟩,h.dm,h.ar.base hb,h.dg,h.ok⟩
theorem EngM.based {base' g n:Nat} {KF:KF} {E:KE} (h:EngM w base g KF E n) (hl:E.ld=none) (hb:base'<=base):EngM w base' g KF E n :=
 ⟨h.blk,le_trans hb h.hg,⟨h.st.blk,h.st.map,λp hp=>(h.st.img p hp).base hb⟩,h.ok,⟨le_trans hb h.hs.1,le_trans hb h.hs.2⟩,⟨h.tb.blk,le_trans hb h.tb.hg,h.tb.own.base hb⟩,h.tl,(λC s e=>by rw [hl] at e;cases e),h.nl,h.dg,h.ds,h.dt,h.di⟩
def qu6 (c:qL):TS:=⟨c,zda c.Rows.toNat c.Cols.toNat c.Back.toNat,zgq c.Quota,0,[],false,[],0,0⟩
theorem q68 {c:qL} (hc:okC c) (hq:Vl c.Quota=0) (hT:Tab w) (h16:4<=w.heap.size) {K:Option Addr->Int->Ub} (hK:∀F PF w',TPM w' w.heap.size F PF ps0 (qu6 c)->Uc w w'->K (some ⟨F.tg,0,none⟩) 0 w'):qmj c w K:=by
 refine qv3 _ ?_;refine nwb λw1 h1 hB1 hs1=>qx (r:=qL.rep) (x:=c) h1.cells (q9o (λhb=>absurd hc hb) λ_ sg SF w2 hsc hB2=>cF rfl ?_);refine lI (x:=c.Quota) ((h1.ext hB2).cells 5 _ rfl) (q9s (λhe=>by rw [hq] at he;cases he) λ_ eg KF w3 hge hen hB3=>?_);have h13:=((h1.ext hB2).ext hB3).drew;refine qx (r:=qL.rep) (x:=c) h13.cells ?_;refine qu7 ?_;unfold qpe;refine qyt ?_;unfold qte;refine nwb λw4 h4 hB4 hs4=>nwb λw5 h5 hB5 hs5=>?_;have B45:Below w3.drew.heap.size w3.drew w5:=bT hB4 hB5;refine ⟨(h13.ext B45).cells,nwb λw6 h6 hB6 hs6=>?_⟩;have B36:Uc w3 w6:=bT (bT (bdw w3) B45) hB6;have B26:=bT hB3 B36;have B12:=bT hB1 hB2;have B06:=bT B12 B26;have z1:=hB1.size;have z2:=hB2.size;have z3:=hB3.size;have z4:w3.heap.size<=w4.heap.size:=hB4.size;have z5:=hB5.size;have e3:w3.drew.heap.size=w3.heap.size:=rfl;rw [e3] at h4 hs4;have hsc6:=(hsc.ext B26).based (base':=w.heap.size) z1;have hen6:=(hen.ext B36).based (base':=w.heap.size) rfl (by omega);have sb:∀k,scS sg SF k->k<w2.heap.size:=λk hk=>(hsc.below k hk).2;have eb:∀k,kw eg KF k->w2.heap.size<=k/\k<w3.heap.size:=λk hk=>hen.below k hk;have ib:∀k,¬vX (zgq c.Quota).S k:=λk hk=>by obtain ⟨p,hp,_⟩:=hk;cases hp
 refine hK ⟨w5.heap.size,sg,SF,eg,KF,w4.heap.size,⟨none,0,0⟩,⟨none,0,0⟩⟩ ⟨w4.heap.size,w3.heap.size,⟨none,0,0⟩,⟨none,0,0⟩,⟨none,0,0⟩⟩ w6 ⟨⟨h6,by show w.heap.size<=w5.heap.size;omega,hsc6,hen6,Go.Vc.Own.nil _ _ _,Go.Vc.Own.nil _ _ _,λk hk hk2=>?_,λk hk hk2=>ib k hk2,(λk hk=>by cases hk),(λk hk=>by cases hk),⟨λhk=>?_,λhk=>?_⟩,rfl,hT.ext B06,h16⟩,
  ⟨_,(h5.ext hB6),⟨0,0,0,(h4.ext hB5).ext hB6⟩,⟨by show w.heap.size<=w4.heap.size;omega,by show w.heap.size<=w3.heap.size;omega⟩,Go.Vc.Own.nil _ _ _,Go.Vc.Own.nil _ _ _,Go.Vc.Own.nil _ _ _,(λk hk=>by cases hk),⟨by decide,by decide,by decide,by decide,by decide,by decide⟩⟩,rfl,?_,rfl⟩ B06
 ·have:=sb k hk;have:=eb k hk2;omega
 ·have:=sb _ hk;dsimp only at this;omega
 ·have:=(eb _ hk).2;dsimp only at this;omega
 ·rintro k (rfl | rfl | hk | hk | hk) hs
  ·rcases hs with hs | hs | hs | hs | hs
   ·have:w4.heap.size=w5.heap.size:=hs;omega
   ·have:=sb _ hs;dsimp only at this;omega
   ·have:=(eb _ hs).2;dsimp only at this;omega
   ·cases hs
   ·cases hs
  ·rcases hs with hs | hs | hs | hs | hs
   ·have:w3.heap.size=w5.heap.size:=hs;omega
   ·have:=sb _ hs;dsimp only at this;omega
   ·have:=(eb _ hs).2;dsimp only at this;omega
   ·cases hs
   ·cases hs
  ·cases hk
  ·cases hk
  ·cases hk
end
def EvN (v:Ev):Prop:=v.Kind=1\/v.Kind=4/\v.Private=0/\v.Inter=[]/\(v.B=110\/v.B=99)
def Sc.doN (S:Sc) (v:Ev):Sc:=if v.Kind=1 then S.print v.R else S
def Sc.doNR (S:Sc) (v:Ev):List UInt8:=if v.Kind=1 then [] else S.bareR v.Params v.B
section
variable {w w':World} {base g:Nat} {F F':ScF} {S S':Sc} {p:Slc} {ps:List Int}
theorem q61 (h:ScM w base g F S) (hp:ParM w g F p ps) (hT:Tab w) {c:Int} (hc:c=110\/c=99) {K:Slc->Ub}
  (hK:∀q w',Rd qm w' q (S.bareR ps c)->Uc w w'->K q w'):yD (some ⟨g,0,none⟩) p c w K:=by
 refine qep _ _ _ ?_;refine qm5 (i:=0) hp (qm5 (i:=0) hp ?_);simp only [onPtr_some];obtain ⟨n,hn⟩:∃n,n=qus ps 0 1:=⟨_,rfl⟩;obtain ⟨z,hz⟩:∃z,z=qus ps 0 0:=⟨_,rfl⟩;unfold Sc.bareR at hK;dsimp only at hK;rw [<-hz] at hK;rw [<-hn,<-hz];refine jpO λJ1 hJ1=>?_;have no:(∀q w',Rd qm w' q []->Uc w w'->K q w')->K ⟨none,0,0⟩ w:=λhK=>hK _ _ (Rd.nil _ _) (Below.refl _ _);refine cO (λe=>?_) λc110=>?_
 ·have e:c=110:=eq_of_beq e;simp only [if_pos e] at hK;refine cO (λe=>?_) λe5=>?_
  ·rw [if_pos (eq_of_beq e)] at hK;exact qnt (bs:=[48,110]) (by decide) hK
  rw [if_neg (beq_eq_false_iff_ne.1 e5)] at hK;refine cO (λe=>?_) λe6=>?_
  ·rw [if_pos (eq_of_beq e)] at hK;refine qyz h hT λw1 hB1 hpl=>?_;have e82:(⟨#[82]⟩:ByteArray)=qS [82]:=rfl;rw [e82,jh,qD,qD];refine ⟨by simp only [length_cons,length_nil];omega,?_⟩;exact qnt (by simp only [length_append,length_cons,length_nil];omega) λq w2 hq hB2=>hK q w2 hq (zt hB1 hB2)
  ·rw [if_neg (beq_eq_false_iff_ne.1 e6)] at hK;exact no hK
 have c110:¬c=110:=beq_eq_false_iff_ne.1 c110;have e:c=99:=by omega
 rw [if_neg c110,if_pos e] at hK;refine cT (by rw [e];rfl) ?_;refine cO (λe=>?_) λe5=>?_
 ·rw [if_pos (eq_of_beq e)] at hK;exact qnt (bs:=[63,54,50,59,52,99]) (by decide) hK
 ·rw [if_neg (beq_eq_false_iff_ne.1 e5)] at hK;exact no hK
theorem zau {e:za} {v:Ev} (h:ScM w base g F S) (hv:EvM w g F e v) (hT:Tab w) (hp0:v.Private=0) (hi0:v.Inter=[]) (hb0:v.B=110\/v.B=99) {K:Slc->Ub}
  (hK:∀q w',Rd qm w' q (S.bareR v.Params v.B)->Uc w w'->K q w'):kG (some ⟨g,0,none⟩) e w K:=by
 refine Ye _ _ ?_;obtain ⟨ek,er,eb,ep,ei,epar,edat⟩:=e;obtain ⟨h1,h2,h3,h4,h5,hp,hbr,hpr,hil⟩:=hv;dsimp only at h1 h2 h3 h4 h5 hp;rw [hp0] at h4;rw [hi0] at h5;subst h3 h4 h5;refine nwb λw1 hx1 hB1 hs1=>?_;have B1:=zt hB1 (zn w1);have hM:=h.ext B1;have hp1:=hp.ext B1;have t1:=hT.ext B1;have hx:=hx1.drew;generalize w1.drew=w2 at hM B1 hp1 t1 hx ⊢;refine lSl (x:=epar) (by simpa using hx.cells 5 _ rfl) (lSl (x:=epar) (by simpa using hx.cells 5 _ rfl) ?_);refine qm5 (i:=0) hp1 ⟨by simpa using hx.cells 5 _ rfl,?_⟩;refine jpO λJ1 hJ1=>?_;have tail:J1 () w2:=by
  refine hJ1 _ _ (jpO λJ2 hJ2=>?_);refine lI (x:=0) (by simpa using hx.cells 3 _ rfl) (cF rfl ?_);refine qn3 (x:=qS []) (by simpa using hx.cells 4 _ rfl) ?_;rw [Ky,show (⟨#[]⟩:ByteArray).toList=[] by kernel_rfl];refine cF rfl (hJ2 _ _ ?_);refine lI (x:=v.B) (by simpa using hx.cells 2 _ rfl) ?_;exact q61 hM hp1 t1 hb0 λq w4 hq hB4=>hK q w4 hq (zt B1 hB4)
 refine lI (x:=0) (by simpa using hx.cells 3 _ rfl) ?_;refine qtm ?_;refine qn3 (x:=qS []) (by simpa using hx.cells 4 _ rfl) ?_;have el:=qtf 0 (by decide);have el2:=qtf v.B hbr;refine ⟨by rw [qD,qD];simp only [length_nil];omega,?_⟩;refine lI (x:=v.B) (by simpa using hx.cells 2 _ rfl) ?_;refine qtm ⟨by rw [jh,qD,qD,length_append];simp only [length_nil];omega,?_⟩;rw [jh,jh,Ky];have l1:(⟨#[0,33,112]⟩:ByteArray).toList=[0,33,112]:=by kernel_rfl
 have l2:(⟨#[63,110]⟩:ByteArray).toList=[63,110]:=by kernel_rfl
 have l3:(⟨#[62,99]⟩:ByteArray).toList=[62,99]:=by kernel_rfl
 have l4:(⟨#[63,36,112]⟩:ByteArray).toList=[63,36,112]:=by kernel_rfl
 have l5:(⟨#[63,104]⟩:ByteArray).toList=[63,104]:=by kernel_rfl
 have l6:(⟨#[63,108]⟩:ByteArray).toList=[63,108]:=by kernel_rfl
 rw [l1,l2,l3,l4,l5,l6];obtain ⟨k,hk⟩:∃k,k=(Utf8.encode 0).data.toList++[]++(Utf8.encode v.B).data.toList:=⟨_,rfl⟩;have hk2:k=[0,110]\/k=[0,99]:=by
  rcases hb0 with e | e
  ·left;rw [hk,e];kernel_rfl
  ·right;rw [hk,e];kernel_rfl
 rw [<-hk];have nk:∀x:List UInt8,x≠[0,110]->x≠[0,99]->(k==x)=false:=λx h1 h2=>by
  rw [beq_eq_false_iff_ne];rcases hk2 with e | e
  ·rw [e];exact λh=>h1 h.symm
  ·rw [e];exact λh=>h2 h.symm
 rw [nk [0,33,112] (by decide) (by decide),nk [63,110] (by decide) (by decide),nk [62,99] (by decide) (by decide),nk [63,36,112] (by decide) (by decide),nk [63,104] (by decide) (by decide),nk [63,108] (by decide) (by decide)];refine cF rfl (jpO λJ3 hJ3=>cF rfl (hJ3 _ _ (cF rfl ?_)));exact cF rfl (cF rfl (cF rfl tail))
theorem zdh {e:za} {v:Ev} (h:ScM w base g F S) (hv:EvM w g F e v) (hT:Tab w) (hn:EvN v) {K:Slc->Ub}
  (hK:∀q F' w',Rd qm w' q (S.doNR v)->ScT base g w F F' (S.doN v) w'->K q w'):Zx (some ⟨g,0,none⟩) e w K:=by
 refine qh5 _ _ ?_;refine nwb λw1 hx hB1 hs1=>?_;have h1:=ScT.of_ext h hB1;unfold Sc.doN Sc.doNR at hK;have v1:=hv.k;have v2:=hv.r;refine lI (x:=v.Kind) (by rw [<-v1];simpa using hx.cells 0 _ rfl) ?_;rcases hn with e | ⟨e4,hp0,hi0,hb0⟩
 ·rw [if_pos e,if_pos e] at hK;refine cT (by rw [e];rfl) ?_;refine lI (x:=v.R) (by rw [<-v2];simpa using hx.cells 1 _ rfl) ?_;exact q4v h1.m λF2 w2 hT2=>hK _ _ _ (Rd.nil _ _) (h1.trans hT2)
 ·rw [if_neg (by omega),if_neg (by omega)] at hK;refine cF (by rw [e4];rfl) (cF (by rw [e4];rfl) (cF (by rw [e4];rfl) (cT (by rw [e4];rfl) ?_)));refine qx (r:=za.rep) (x:=_) hx.cells ?_;refine zau h1.m ⟨hv.k,hv.r,hv.b,hv.p,hv.i,hv.ps.ext hB1,hv.br,hv.pr,hv.il⟩ (hT.ext hB1) hp0 hi0 hb0 λq w2 hq hB2=>hK q F w2 hq (h1.ext hB2)
end
structure Kept (E E':KE) (P:Slc):Prop where
 img:∀j,vX E'.S j->vX E.S j\/P.blk=some j
 ld:E'.ld=none
 q:E'.quota=E.quota
section
variable {n:Nat} {E:KE}
theorem qog (E:KE) (k:qb) (id:Int) (v:qh):(zZ E k id v).1.S=E.S/\(zZ E k id v).1.ld=E.ld/\(zZ E k id v).1.quota=E.quota:=by
 unfold zZ;split
 ·split
  ·exact ⟨rfl,rfl,rfl⟩
  ·exact ⟨rfl,rfl,rfl⟩
 ·exact ⟨rfl,rfl,rfl⟩
theorem zfb {S S':St} (h:∀p∈S'.L,p∈S.L) {k:Nat} (hk:vX S' k):vX S k:=by
 obtain ⟨p,hp,e⟩:=hk;exact ⟨p,h p hp,e⟩
theorem q1r (hok:StOk n E.S) (hl:E.ld=none) (k:qb) (W H:Int) (bs:List UInt8) (P:Slc) (v:qh):Kept E (YH E k W H bs P v).1 P:=by
 have kept:∀j,vX (qhg E k W H bs P).S j->vX E.S j\/P.blk=some j:=by
  rintro j ⟨⟨a,b⟩,hp,e⟩;have hpk:StOk n (E.S.putPre k.Id bs.length).1:=KU _ _ (q0d hok k.Id);rcases (zB hpk.srt _ _ a b).1 hp with ⟨rfl,rfl⟩ | ⟨_,hp'⟩
  ·exact .inr e
  ·exact .inl ⟨(a,b),qun _ _ _ _ hp',e⟩
 unfold YH;split
 ·exact ⟨λj h=>.inl h,hl,rfl⟩
 ·split
  ·exact ⟨kept,hl,rfl⟩
  ·obtain ⟨h1,h2,h3⟩:=qog (qhg E k W H bs P) (kK E k bs) (idK E k bs) v;refine ⟨λj h=>?_,h2.trans hl,h3⟩;dsimp only at h;rw [h1] at h;exact kept j h
theorem q6w (hok:StOk n E.S) (C:LdK) (s:LdS) (k:qb) (P:Slc) (v:qh):Kept E (qqi E C s k P v).1 P:=by
 unfold qqi;split
 ·exact ⟨λj h=>.inl h,rfl,rfl⟩
 ·have h:=q1r (E:=E.idle) (Vm hok 0) rfl k ((qm8 C s).2.1:Int) ((qm8 C s).2.2.1:Int) (qm8 C s).2.2.2 P v;exact ⟨h.img,h.ld,h.q⟩
theorem qwl (E:KE) (m:Int):(∀j,vX (E.reserve m).1.S j->vX E.S j)/\(E.reserve m).1.quota=E.quota:=by
 unfold KE.reserve;split
 ·exact ⟨λj h=>h,rfl⟩
 ·split
  ·exact ⟨λj h=>h,rfl⟩
  ·exact ⟨λj h=>zfb (λp hp=>qr4 _ _ p hp) h,rfl⟩
theorem q2y (hok:StOk n E.S) (m:Int):StOk n (E.reserve m).1.S:=by
 unfold KE.reserve;split
 ·exact hok
 ·split
  ·exact hok
  ·exact qua hok _
theorem q33 (hok:StOk n E.S) (C:LdK) (s:LdS) (k:qb) (hm:k.More≠1) (ts:List UInt8) (P:Slc) (v:qh):Kept E (VF E C s k ts P v).1 P:=by
 obtain ⟨h1,h2⟩:=qwl (qgd E C s ts) 0;unfold VF;split
 ·exact ⟨λj h=>.inl h,rfl,rfl⟩
 ·split
  ·exact ⟨λj h=>.inl (h1 j h),rfl,h2⟩
  ·have h:=q6w (E:=((qgd E C s ts).reserve 0).1) (q2y (E:=qgd E C s ts) hok 0) C (vr C s ts) (QA E.first k) P v;exact ⟨λj hj=>(h.img j hj).imp_left (h1 j),h.ld,h.q.trans h2⟩
theorem q9h (hok:StOk n E.S) (hl:E.ld=none) {bs:List UInt8} (hm:(kO bs).More≠1) (P:Slc) (v:qh):Kept E (doK E bs P v).1 P:=by
 unfold doK goK;split
 ·unfold qdi;split
  ·exact ⟨λj h=>.inl h,hl,rfl⟩
  ·obtain ⟨h1,h2,h3⟩:=qog E { kO bs with Id:=(j7 E.S (kO bs)).1 } (j7 E.S (kO bs)).1 v;split
   ·refine ⟨λj h=>.inl ?_,h2.trans hl,h3⟩;dsimp only at h;rw [h1] at h;exact q8d hok _ j h
   ·exact ⟨λj h=>.inl (by dsimp only at h;rw [h1] at h;exact h),h2.trans hl,h3⟩
 ·unfold qam;split
  ·exact ⟨λj h=>.inl h,hl,rfl⟩
  ·have h:=q33 (E:=qsr E (kO bs)) hok (qsk E (kO bs)) ld0 (kO bs) hm (X4 59 bs) P v;exact ⟨h.img,h.ld,h.q⟩
theorem qx0 (hE:E.T=[]) (alt:Bool) (first:Int):zbw E alt first=E:=by
 obtain ⟨q,S,T,ld,f⟩:=E;dsimp only at hE;subst hE;rfl
end
def Zj (S:Sc):Int:=i64.wrap (S.g0.top-S.g0.old.length)
def xF (T:TS):TS:={ T with f0:=Zj T.S,f1:=T.S.g1.top }
structure Calm (T:TS):Prop where
 ar:T.S.areas=[]
 st:Zj T.S=T.f0/\T.S.g1.top=T.f1\/T.E.T=[]
section
variable {w w':World} {base:Nat} {F F':TmF} {T T':TS}
theorem q0b (h:TermM w base F T) (hA:Calm T) (hn:T.n<=100000) {K:Ub} (hK:∀F' w',TmT base w F F' (xF T) w'->K w'):zA (some ⟨F.tg,0,none⟩) w K:=by
 refine qka _ ?_;simp only [onPtr_some];refine qK (x:=some ⟨F.sg,0,none⟩) (h.blk.cells 6 _ rfl) (qzc h.sc λq w1 hq hT=>?_);have t1:=h.screen hT;have e:({ T with S:={ T.S with areas:=[] } }:TS)=T:=by
  have e1:({ T.S with areas:=[] }:Sc)=T.S:=by rw [<-hA.ar]
  rw [e1]
 rw [e] at t1;refine lpR (λ(st:Int×Unit) w2=>st.1=0/\w2=w1) (λ_=>0) ⟨rfl,rfl⟩ ?_;rintro ⟨i,u⟩ w2 ⟨rfl,rfl⟩ I hI;refine cF (by rw [hq,hA.ar];rfl) ?_;refine qK (x:=some ⟨F.sg,0,none⟩) (t1.m.blk.cells 6 _ rfl) (q35 t1.m.sc ?_);have t2:=t1.drew.drew;have ef:i64.wrap (T.S.g0.top-T.S.g0.old.length)=Zj T.S:=rfl;rw [ef];have hs0:xF T={ T with f0:=Zj T.S,f1:=T.S.g1.top }:=rfl;have hst:=hA.st;generalize Zj T.S=x at *;generalize T.S.g1.top=y at *;refine ko (vs:=[.int .i64 x,.int .i64 y]) rfl λw8 h8 hB8 hs8=>?_;have t8:=(t2.ext hB8).drew;have h8:=h8.drew;refine qx (r:=kx.rep) (x:=⟨x,y⟩) h8.cells (qx (r:=kx.rep) (x:=⟨T.f0,T.f1⟩) (t8.m.blk.sub 13 _ rfl) ?_);by_cases hs:x=T.f0/\y=T.f1
 ·refine cF ?_ (hK { F with SF:={ F.SF with ar:=⟨none,0,0⟩ } } _ ?_)
  ·show (!((_==T.f0) && ((_==T.f1) && true)))=false;rw [hs.1,hs.2];simp
  ·rw [hs0,hs.1,hs.2];exact t8
 have hE:T.E.T=[]:=hst.resolve_left hs;refine cT ?_ ?_
 ·show (!((_==T.f0) && ((_==T.f1) && true)))=true;rw [Bool.not_eq_true',Bool.and_true,Bool.and_eq_false_iff,beq_eq_false_iff_ne,beq_eq_false_iff_ne];by_cases h1:x=T.f0
  ·exact .inr λh2=>hs ⟨h1,h2⟩
  ·exact .inl h1
 refine qK (x:=some ⟨F.eg,0,none⟩) (t8.m.blk.cells 7 _ rfl) ?_;refine qnz t8.m.en hn false _ λKF1 w9 hT9=>?_;rw [qx0 hE] at hT9;have t9:=t8.m.engine hT9 (λk hk=>.inl hk) t8.m.ld;have h9:=h8.chg hT9.chg (t8.m.en.not_in4 h8 (by decide) (t8.m.en.nl t8.m.ld _));refine qK (x:=some ⟨F.eg,0,none⟩) (t9.m.blk.cells 7 _ rfl) ?_;refine qnz t9.m.en hn true _ λKF2 w10 hT10=>?_;have hT10:EngT base F.eg w9 _ KF2 (zbw T.E true y) T.n w10:=hT10;rw [qx0 hE] at hT10;have t10:=t9.m.engine hT10 (λk hk=>.inl hk) t9.m.ld;have h10:=h9.chg hT10.chg (t9.m.en.not_in4 h9 (by decide) (t9.m.en.nl t9.m.ld _));refine qx (r:=kx.rep) (x:=⟨x,y⟩) h10.cells ?_;rw [q4];refine qw t10.m.blk (by show 0+13+2<=15;omega) λw11 hb11 hg11 hs11=>hK { F with SF:={ F.SF with ar:=⟨none,0,0⟩ },KF:=KF2 } w11 ?_;exact ((t8.trans t9).trans t10).trans (t10.m.put (T':=xF T) (by rw [hs0];exact hb11) (Chg.gg hg11) rfl rfl rfl rfl rfl rfl rfl rfl rfl t10.m.cq t10.m.rq (λk hk=>hk) λk hk=>hk)
theorem TermM.told (h:TermM w base F T) {q:Slc} {xs:List UInt8} (ho:Go.Vc.Own qm w' base q (T.cmd++xs)) (hc:Chg (λk=>F.cq.blk=some k) w w') (hq:q.blk=F.cq.blk\/q.blk=some w.heap.size) {K:Ub}
  (hK:∀w2,TmT base w F { F with cq:=q } { T with cmd:=T.cmd++xs } w2->K w2):stK ((⟨F.tg,0,none⟩:Addr).add 10) [(.slice q.a q.n q.c)] w' K:=by
 have hs:=hc.size;have hb:=h.blk.chg hc (qF h.cq h.blk (by decide) _ · rfl);rw [q4];refine qw hb (by show 0+10+1<=15;omega) λw2 hb2 hg2 hs2=>hK w2 ?_;have c2:Chg (λk=>F.cq.blk=some k\/k=F.tg) w w2:=(hc.mono λk _ e=>.inl e).trans (Chg.gg hg2) λk _ e=>.inr e;have hq':∀k,q.blk=some k->F.cq.blk=some k\/w.heap.size<=k:=λk hk=>by
  rcases hq with e | e
  ·exact .inl (e ▸ hk)
  ·rw [e] at hk;cases hk;exact .inr (le_refl _)
 have nt:F.cq.blk≠some F.tg:=λe=>qF h.cq h.blk (by decide) _ e rfl;refine ⟨⟨hb2,h.hg,h.sc.keep c2 ?_ ?_,h.en.chgS c2 ?_ ?_,ho.chg (Chg.gg hg2) ?_,h.rq.chg c2 ?_,h.dse,h.dsi,λk hk=>?_,λk hk=>h.dr k hk,h.dt,h.ld,qb5 h c2 ?_,h.b4⟩,λk hk=>?_,c2.mono λk _ hk=>?_,rfl,rfl⟩
 ·rintro k hk (e | e)
  ·exact (h.dc k e).1 hk
  ·exact h.dt.1 (e ▸ hk)
 ·rintro k cs (e | e) hb
  ·exact qF h.cq hb (by decide) k e rfl
  ·subst e;exact h.blk.ne_t hb (by decide) rfl
 ·rintro k hk (e | e)
  ·exact (h.dc k e).2.1 hk
  ·exact h.dt.2 (e ▸ hk)
 ·rintro k hk (e | e)
  ·exact (h.dc k e).2.2.1 hk
  ·exact h.img_tg (e ▸ hk)
 ·intro k hk e;rcases hq' k hk with h1 | h1
  ·exact nt (e ▸ h1)
  ·have:=h.blk.lt;omega
 ·rintro k hk (e | e)
  ·exact (h.dc k e).2.2.2 hk
  ·exact qF h.rq h.blk (by decide) k hk e
 ·rcases hq' k hk with h1 | h1
  ·exact h.dc k h1
  ·refine ⟨λhs=>?_,λhs=>?_,λhs=>?_,λhs=>?_⟩
   ·have:=(h.sc.below k hs).2;omega
   ·have:=(h.en.below k hs).2;omega
   ·obtain ⟨_,cs,hb⟩:=qnc h.en hs;have:=hb.lt;omega
   ·have:=(h.rq.lt k hs).2;omega
 ·rintro k (e | e)
  ·exact (h.cq.lt k e).1
  ·rw [e];exact h.hg
 ·rcases hk with hk | hk | hk | hk | hk
  ·exact .inl (.inl hk)
  ·exact .inl (.inr (.inl hk))
  ·exact .inl (.inr (.inr (.inl hk)))
  ·rcases hq' k hk with h1 | h1
   ·exact .inl (.inr (.inr (.inr (.inl h1))))
   ·exact .inr h1
  ·exact .inl (.inr (.inr (.inr (.inr hk))))
 ·rcases hk with e | e
  ·exact .inr (.inr (.inr (.inl e)))
  ·exact .inl e
end
def qt2 (S:Sc) (R:KR):Sc:=if R.moves=true then S.moveP (i64.wrap (R.rows-1)) R.cols else S
noncomputable def Vx (T:TS) (P:Slc):TS :=
 { T with cmd:=[],E:=(doK T.E T.cmd.tail P (yp T)).1,n:=T.n+2,rep:=T.rep++(doK T.E T.cmd.tail P (yp T)).2.reply,S:=qt2 T.S (doK T.E T.cmd.tail P (yp T)).2 }
noncomputable def qt8 (t:Option Addr) (r:Addr) (x:qc) (w:World) (K:Ub):Prop :=
 stK r (qc.rep.cells x) w λw6=>
 qE t λt31=>
 jy (t31.add 12) w6.drew λt33=>
 jy (r.add 0) w6.drew λt35=>
 apK PG #[qg,qg] qg t33 t35 w6.drew λt36 w7=>
 qE t λt37=>
 stK (t37.add 12) [(.slice t36.a t36.n t36.c)] w7 λw8=>
 ldB (r.add 3) w8 λt40=>
 cond t40
  (
   qE t λt42=>
   ldP (t42.add 6) w8.drew λt44=>
   ldI .i64 (r.add 1) w8.drew λt46=>
   ldI .i64 (r.add 2) w8.drew λt49=>
   j9 t44 (i64.wrap (t46-(1:Int))) t49 w8.drew λw9=>
   K w9)
  (K w8)
section
variable {w w':World} {base:Nat} {F F':TmF} {T T':TS}
theorem q6e (h:TermM w base F T) (hlong:T.long=false) {q:Slc} {bs:List UInt8} (hq:Rd qm w q bs) (hqn:∀a,q.a=some a->¬YK F a.block) (hl:T.cmd.length+bs.length<=6000) {K:Ub}
  (hK:∀F' w',TmT base w F F' { T with cmd:=T.cmd++bs } w'->K w'):Vr (some ⟨F.tg,0,none⟩) q w K:=by
 refine qnm _ _ ?_;simp only [onPtr_some];refine jpO λJ1 hJ1=>jpO λJ2 hJ2=>?_;refine xP (x:=T.long) (h.blk.cells 11 _ rfl) (cF hlong (lSl (x:=F.cq) (h.blk.cells 10 _ rfl) ?_));have hn:=hq.n;have hcn:=h.cq.rd.n;have e0:decide (((q.n:Nat):Int)>i64.wrap ((6512:Int)-((F.cq.n:Nat):Int)))=T.long:=by
  rw [qP (by omega),hlong,dFq (by omega)]
 rw [e0,q4];refine qw h.blk (by show 0+11+1<=15;omega) λw1 hb1 hg1 hs1=>hJ2 _ _ ?_;have t1:TmT base w F F T w1:=h.put (F':=F) (T':=T) hb1 (Chg.gg hg1) rfl rfl rfl rfl rfl rfl rfl rfl rfl h.cq h.rq (λ_ hk=>hk) λ_ hk=>hk;have hq1:Rd qm w1 q bs:=hq.chg t1.chg hqn;refine xP (x:=T.long) (t1.m.blk.cells 11 _ rfl) (cF hlong (hJ1 _ _ ?_));refine lSl (x:=F.cq) (t1.m.blk.cells 10 _ rfl) ?_;refine jx zc (ty:=qg) (xs:=T.cmd) (ys:=bs) t1.m.cq hq1 t1.m.base_le (by rw [xL];omega) (by simp [maxLen];omega) λr w4 hr hg hrb=>?_;exact t1.m.told hr (Chg.of_grown hg λk hk=>hk) hrb λw5 t5=>hK _ _ (t1.trans t5)
theorem TmT.other {w0 w1 w2:World} {F3:TmF} {T3:TS} (h0:base<=w0.heap.size) (h:TmT base w0 F F3 T3 w1) {b:Nat} {t:TypeId} {vs:List Value} (hb:Blk w1 b t vs) (ht:t≠qT/\t≠qN) (hw:w0.heap.size<=b) (hn:¬YK F3 b) (hc:Chg (λk=>k=b) w1 w2):TmT base w0 F F3 T3 w2:=by
 refine ⟨h.m.keep hc (λk hk e=>hn (e ▸ hk)) (λk hk e=>?_) (λk cs e hk=>?_) (qb5 h.m hc λk e=>by rw [e];omega),h.old,h.chg.trans hc λi hi e=>by omega,h.tg,h.pg⟩
 ·obtain ⟨_,cs,hcs⟩:=qnc h.m.en hk;exact hb.ne_t hcs ht.2 e.symm
 ·subst e;exact hb.ne_t hk ht.1 rfl
theorem qwn {w0:World} {F3:TmF} {T3:TS} (h0:base<=w0.heap.size) (h:TmT base w0 F F3 T3 w) {ra:Nat} (hra:w0.heap.size<=ra) (hb:Blk w ra qz [(.slice none 0 0),(Ua 0),(Ua 0),(.bool false)]) (hn:¬YK F3 ra) {x:qc} {R:KR} (hx:qib w x R)
  (hxb:0<R.reply.length->∀j,x.Reply.blk=some j->j≠ra) (hl:T3.rep.length<=1000000) (hR:R.reply.length<=2000000) {K:Ub} (hK:∀F' w',TmT base w0 F F' { T3 with rep:=T3.rep++R.reply,S:=qt2 T3.S R } w'->K w'):qt8 (some ⟨F3.tg,0,none⟩) ⟨ra,0,none⟩ x w K:=by
 unfold qt8;simp only [onPtr_some];obtain ⟨x1,x2,x3,x4⟩:=hx;refine x5 hb rfl λw6 hb6 hc6 hs6=>?_;have t6:=(TmT.other h0 h hb (by decide) hra hn hc6).drew;have hx6:Rd qm w6.drew x.Reply R.reply:=(qfw x1 hc6 λhp a ha e=>hxb hp a.block (slk.2 ⟨a,ha,rfl⟩) e).ext (bdw w6);have hb6:=hb6.drew;refine lSl (x:=F3.rq) (t6.m.blk.cells 12 _ rfl) (lSl (x:=x.Reply) (hb6.cells 0 _ rfl) ?_);refine jx zc (ty:=qg) (xs:=T3.rep) (ys:=R.reply) t6.m.rq hx6 t6.m.base_le (by rw [xL];omega) (by simp [maxLen];omega) λr w7 hr hg hrb=>?_;refine t6.m.replied (xs:=R.reply) hr (Chg.of_grown hg λk hk=>hk) hrb λw8 t8=>?_;have hb8:=hb6.chg t8.chg hn;have t08:=t6.trans t8;unfold qt2 at hK;refine xP (x:=x.Moves) (hb8.cells 3 _ rfl) (cO (λe=>?_) λe=>?_)
 ·rw [if_pos (by rw [<-x4];exact e)] at hK;have t9:=t08.drew;have hb9:=hb8.drew;refine qK (x:=some ⟨F3.sg,0,none⟩) (t9.m.blk.cells 6 _ rfl) (lI (x:=x.Rows) (hb9.cells 1 _ rfl) (lI (x:=x.Cols) (hb9.cells 2 _ rfl) ?_));rw [x2,x3];exact q9x t9.m.sc λSF' w9 hT=>hK _ _ (t9.trans (t9.m.screen hT))
 ·rw [if_neg (by rw [<-x4,e];decide)] at hK;exact hK _ _ t08
theorem q12 (h:TermM w base F T) (hlong:T.long=false) {bs:List UInt8} (hcmd:T.cmd=71::bs) (hok:CmdOk bs) (hm:(kO bs).More≠1) (hn:T.n<=880) (hq:T.E.quota<=100000) (hbl:bs.length<=39000) (hrl:T.rep.length<=1000000)
  (hrd:∀P,(Vx T P).rep.length<=2000000) {K:Ub} (hK:∀P F' w',TmT base w F F' (Vx T P) w'->(∀k,vX (Vx T P).E.S k->vX T.E.S k\/w.heap.size<=k)->K w'):XM (some ⟨F.tg,0,none⟩) true w K:=by
 refine qky _ _ ?_;refine qH (lSl (x:=F.cq) (h.blk.cells 10 _ rfl) (qH ?_));rw [q4];refine qw h.blk (by show 0+10+1<=15;omega) λw1 hb1 hg1 hs1=>?_;have hc1:Chg (λk=>k=F.tg) w w1:=Chg.gg hg1;have t1:TmT base w F { F with cq:=⟨none,0,0⟩ } { T with cmd:=[] } w1:=h.put hb1 hc1 rfl rfl rfl rfl rfl rfl rfl rfl rfl (Go.Vc.Own.nil _ _ _) h.rq (λk hk=>by cases hk) λ_ hk=>hk;have hcq:Rd qm w1 F.cq (71::bs):=by rw [<-hcmd];exact (h.cq.chg hc1 (qF h.cq h.blk (by decide))).rd
 have z1:=hc1.size;have h0:=h.base_le;refine jpO λJ1 hJ1=>cF rfl (qH (xP (x:=T.long) (t1.m.blk.cells 11 _ rfl) (cF hlong (hJ1 _ _ (qH ?_)))));have et:T.cmd.tail=bs:=by rw [hcmd];rfl
 have doit:∀(wx:World) (Kx:qc->Ub),Uc w1 wx->(∀P x KF' wy,qib wy x (doK T.E bs P (yp T)).2->TmT base w F { F with cq:=⟨none,0,0⟩,KF:=KF' } { T with cmd:=[],E:=(doK T.E bs P (yp T)).1,n:=T.n+2 } wy ->
   (∀k,YK { F with cq:=⟨none,0,0⟩,KF:=KF' } k->YK F k\/wx.heap.size<=k)->(∀j,x.Reply.blk=some j->wx.heap.size<=j)->(∀b t vs,Blk wx b t vs->w.heap.size<=b->Blk wy b t vs)->wx.heap.size<=wy.heap.size->(∀k,vX (doK T.E bs P (yp T)).1.S k->vX T.E.S k\/w.heap.size<=k)->Kx x wy)->xx (some ⟨F.eg,0,none⟩) F.cq (yp T) wx Kx:=by
  intro wx Kx hB hk;have tx:=t1.ext hB;have zx:=hB.size;refine zf1 tx.m.en (by show T.n<=900;omega) tx.m.tab tx.m.b4 hq (by omega) (hcq.ext hB) tx.m.ld hok (yp T) λP x KF' wy hx hE hxb hPb=>?_;have hE:EngT base F.eg wx F.KF KF' (doK T.E bs P (yp T)).1 (T.n+2) wy:=hE;have hk1:=q9h (E:=T.E) tx.m.en.ok h.ld hm P (yp T);have hi:∀k,vX (doK T.E bs P (yp T)).1.S k->vX T.E.S k\/wx.heap.size<=k:=λk hk=>(hk1.img k hk).imp_right λe=>hPb k e;have t3:=tx.m.engine hE hi hk1.ld;have hw:∀{b},w.heap.size<=b->¬kw F.eg F.KF b:=λhb hs=>by have:=(h.en.below _ hs).2;omega
  refine hk P x KF' wy hx (tx.trans t3) (λk hk2=>?_) (λj hj=>(hxb j hj).1) (λb t vs hb hle=>hb.chg hE.chg (hw hle)) hE.chg.size λk hk2=>(hi k hk2).imp_right λhle=>by omega
  rcases t3.old k hk2 with h3 | h3
  ·rcases h3 with h3 | h3 | h3 | h3 | h3
   ·exact .inl (.inl h3)
   ·exact .inl (.inr (.inl h3))
   ·exact .inl (.inr (.inr (.inl h3)))
   ·cases h3
   ·exact .inl (.inr (.inr (.inr (.inr h3))))
  ·exact .inr h3
 have fin:∀(P:Slc) (x:qc) (KF':KF) (wz:World) (ra:Nat),w1.heap.size<=ra->Blk wz ra qz [(.slice none 0 0),(Ua 0),(Ua 0),(.bool false)]->qib wz x (doK T.E bs P (yp T)).2->TmT base w F { F with cq:=⟨none,0,0⟩,KF:=KF' } { T with cmd:=[],E:=(doK T.E bs P (yp T)).1,n:=T.n+2 } wz ->
   ¬YK { F with cq:=⟨none,0,0⟩,KF:=KF' } ra->(0<(doK T.E bs P (yp T)).2.reply.length->∀j,x.Reply.blk=some j->j≠ra)->(∀k,vX (doK T.E bs P (yp T)).1.S k->vX T.E.S k\/w.heap.size<=k)->qt8 (some ⟨F.tg,0,none⟩) ⟨ra,0,none⟩ x wz K:=by
  intro P x KF' wz ra hra hb hx ht hn hxr hi;have hP:=hrd P;unfold Vx at hP;rw [et] at hP;simp only [length_append] at hP;refine qwn h0 ht (by omega) hb hn hx hxr hrl (by omega) λF' w' hT=>hK P F' w' ?_ ?_
  ·unfold Vx;rw [et];exact hT
  ·unfold Vx;rw [et];exact hi
 have td:=t1.drew;have Bd:Uc w1 w1.drew:=bdw w1;have nF:∀{k},w1.heap.size<=k->¬YK F k:=λhk hs=>by have:=(h.below _ hs).2;omega
 refine qK (x:=some ⟨F.eg,0,none⟩) (td.m.blk.cells 7 _ rfl) ⟨?_,?_⟩
 ·refine qqs td.m λw3 hB3=>⟨(td.m.ext hB3).blk.cells 7 _ rfl,?_,?_⟩
  ·have B3:=bT Bd hB3;refine doit w3 _ B3 λP x KF' w4 hx t4 ht hxb hbk hz hi=>?_;refine nwb λw5 hb5 hB5 hs5=>⟨(t4.m.ext hB5).blk.cells 7 _ rfl,?_⟩;have z3:=B3.size;refine fin P x KF' w5 w4.heap.size (by omega) hb5 (hx.ext hB5) (t4.ext hB5) (λhs=>by have:=(t4.m.below _ hs).2;omega) (λhp j hj e=>?_) hi;obtain ⟨a,ha,hab⟩:=slk.1 hj;have:=q0y hx.1 hp a ha;omega
  ·refine nwb λw10 hb10 hB10 hs10=>⟨((td.m.ext hB3).ext hB10).blk.cells 7 _ rfl,?_⟩;have B10:=bT (bT Bd hB3) hB10;have z3:=hB3.size;have e3:w1.drew.heap.size=w1.heap.size:=rfl;have l10:=hb10.lt;refine doit w10 _ B10 λP x KF' w11 hx t11 ht hxb hbk hz hi=>?_;exact fin P x KF' w11 w3.heap.size (by omega) (hbk _ _ _ hb10 (by omega)) hx t11 (λhs=>(ht _ hs).elim (nF (by omega)) λhle=>by omega) (λ_ j hj e=>by have:=hxb j hj;omega) hi
 ·refine nwb λw16 hb16 hB16 hs16=>⟨(td.m.ext hB16).blk.cells 7 _ rfl,?_⟩;refine qqs (td.m.ext hB16) λw17 hB17=>⟨((td.m.ext hB16).ext hB17).blk.cells 7 _ rfl,?_⟩;have B17:=bT (bT Bd hB16) hB17;have e3:w1.drew.heap.size=w1.heap.size:=rfl;have l16:=hb16.lt;have z17:=hB17.size;refine doit w17 _ B17 λP x KF' w18 hx t18 ht hxb hbk hz hi=>?_;exact fin P x KF' w18 w1.heap.size (le_refl _) (hbk _ _ _ (hb16.ext hB17) (by omega)) hx t18 (λhs=>(ht _ hs).elim (nF (le_refl _)) λhle=>by omega) (λ_ j hj e=>by have:=hxb j hj;omega) hi
end
noncomputable def X9 (T:TS) (v:EvP) (P:Slc):TS :=
 if v.k=9 then { T with cmd:=[],long:=false }
 else if v.k=10 then { T with cmd:=T.cmd++v.d }
 else if v.k=11 then Vx T P
 else { T with S:=T.S.doN (q0u v),rep:=T.rep++T.S.doNR (q0u v) }
noncomputable def qd4 (T:TS) (v:EvP) (P:Slc):TS:=xF (X9 T v P)
def zij (T:TS) (v:EvP):Prop :=
 v.k=9\/(v.k=10/\T.long=false/\T.cmd.length+v.d.length<=6000)\/(v.k=11/\v.b=1/\T.long=false/\(∃bs,T.cmd=71::bs/\CmdOk bs/\(kO bs).More≠1/\bs.length<=39000)/\T.E.quota<=100000)\/((v.k=1\/v.k=4)/\EvN (q0u v))
structure EvOk (T:TS) (v:EvP):Prop where
 go:zij T v
 calm:∀P,Calm (X9 T v P)
 rl:T.rep.length<=1000000
 rd:∀P,(X9 T v P).rep.length<=2000000
 n:T.n<=880
def qap (F:TmF) (T:TS) (k:Nat):Prop:=YK F k\/vX T.E.S k
section
variable {w w':World} {base:Nat} {F F':TmF} {T T':TS}
theorem qy3 {v:EvP} {p d:Slc} (h:TermM w base F T) (hv:EvW w (qap F T) p d v) (ok:EvOk T v) {K:Ub}
  (hK:∀P F' w',TmT base w F F' (qd4 T v P) w'->(∀k,vX (qd4 T v P).E.S k->vX T.E.S k\/w.heap.size<=k)->K w'):JL (some ⟨F.tg,0,none⟩) ⟨v.k,v.r,v.b,v.pv,qS v.i,p,d⟩ w K:=by
 refine qje _ _ ?_;simp only [onPtr_some];obtain ⟨hgo,hcalm,hrl,hrd,hn⟩:=ok;refine nwb λw1 h1 hB1 hs1=>?_;refine lI (x:=v.k) (h1.cells 0 _ rfl) ?_;have t1:=TmT.of_ext h hB1;have z1:=hB1.size;have aft:∀(P:Slc) (F2:TmF) (w2:World),TmT base w F F2 (X9 T v P) w2->(X9 T v P).n<=100000->(∀k,vX (X9 T v P).E.S k->vX T.E.S k\/w.heap.size<=k)->zA (some ⟨F.tg,0,none⟩) w2 λw3=>K w3:=by
  intro P F2 w2 t2 hn2 hi;rw [<-t2.tg];exact q0b t2.m (hcalm P) hn2 λF3 w3 t3=>hK P F3 w3 (t2.trans t3) hi
 have nn:∀j:Int,v.k≠j->(v.k==j)=false:=λj h=>beq_eq_false_iff_ne.2 h;refine jpO λJ1 hJ1=>?_;rcases hgo with e | ⟨e,hlong,hlen⟩ | ⟨e,hb,hlong,⟨bs,hcmd,hok,hm,hbl⟩,hq⟩ | ⟨e,hN⟩
 ·refine cF (nn 6 (by omega)) (cF (nn 7 (by omega)) (cF (nn 8 (by omega)) (cT (by rw [e];rfl) ?_)));rw [q4];refine qw t1.m.blk (by show 0+10+1<=15;omega) λw2 hb2 hg2 hs2=>?_;have t2:TmT base w1 F { F with cq:=⟨none,0,0⟩ } { T with cmd:=[] } w2:=t1.m.put hb2 (Chg.gg hg2) rfl rfl rfl rfl rfl rfl rfl rfl rfl (Go.Vc.Own.nil _ _ _) t1.m.rq (λk hk=>by cases hk) λ_ hk=>hk;rw [q4];refine qw t2.m.blk (by show 0+11+1<=15;omega) λw3 hb3 hg3 hs3=>?_;have t3:TmT base w2 { F with cq:=⟨none,0,0⟩ } { F with cq:=⟨none,0,0⟩ } { T with cmd:=[],long:=false } w3:=t2.m.put hb3 (Chg.gg hg3) rfl rfl rfl rfl rfl rfl rfl rfl rfl t2.m.cq t2.m.rq (λ_ hk=>hk) λ_ hk=>hk;have eq:X9 T v ⟨none,0,0⟩={ T with cmd:=[],long:=false }:=by unfold X9;rw [if_pos e]
  exact aft ⟨none,0,0⟩ _ w3 (by rw [eq];exact t1.trans (t2.trans t3)) (by rw [eq];show T.n<=_;omega) (by rw [eq];exact λk hk=>.inl hk)
 ·refine cF (nn 6 (by omega)) (cF (nn 7 (by omega)) (cF (nn 8 (by omega)) (cF (nn 9 (by omega)) (cT (by rw [e];rfl) ?_))));refine lSl (x:=d) (h1.cells 6 _ rfl) ?_;refine q6e t1.m hlong (hv.ds.ext hB1) (λa ha hs=>(hv.df a ha).1 (.inl hs)) hlen λF2 w2 t2=>?_;have eq:X9 T v ⟨none,0,0⟩={ T with cmd:=T.cmd++v.d }:=by unfold X9;rw [if_neg (by omega),if_pos e]
  exact aft ⟨none,0,0⟩ _ w2 (by rw [eq];exact t1.trans t2) (by rw [eq];show T.n<=_;omega) (by rw [eq];exact λk hk=>.inl hk)
 ·refine cF (nn 6 (by omega)) (cF (nn 7 (by omega)) (cF (nn 8 (by omega)) (cF (nn 9 (by omega)) (cF (nn 10 (by omega)) (cT (by rw [e];rfl) ?_)))));have eq:∀P,X9 T v P=Vx T P:=λP=>by unfold X9;rw [if_neg (by omega),if_neg (by omega),if_pos e]
  refine lI (x:=v.b) (h1.cells 2 _ rfl) ?_;rw [hb];refine q12 t1.m hlong hcmd hok hm hn hq hbl hrl (λP=>by rw [<-eq P];exact hrd P) λP F2 w2 t2 hi=>?_;exact aft P _ w2 (by rw [eq];exact t1.trans t2) (by rw [eq];show T.n+2<=_;omega) (by rw [eq];exact λk hk=>(hi k hk).imp_right λh=>by omega)
 ·have hkn:v.k≠6/\v.k≠7/\v.k≠8/\v.k≠9/\v.k≠10/\v.k≠11/\v.k≠3:=by omega
  obtain ⟨n6,n7,n8,n9,n10,n11,n3⟩:=hkn;refine cF (nn 6 n6) (cF (nn 7 n7) (cF (nn 8 n8) (cF (nn 9 n9) (cF (nn 10 n10) (cF (nn 11 n11) (cF (nn 3 n3) (hJ1 _ _ ?_)))))));have eq:X9 T v ⟨none,0,0⟩={ T with S:=T.S.doN (q0u v),rep:=T.rep++T.S.doNR (q0u v) }:=by unfold X9;rw [if_neg n9,if_neg n10,if_neg n11]
  have hrd0:=hrd ⟨none,0,0⟩;rw [eq] at hrd0;simp only [length_append] at hrd0;have t1d:=t1.drew;have m1:=t1d.m;have h1d:=h1.drew;refine lSl (x:=F.rq) (m1.blk.cells 12 _ rfl) (qK (x:=some ⟨F.sg,0,none⟩) (m1.blk.cells 6 _ rfl) (qx (r:=za.rep) (x:=⟨v.k,v.r,v.b,v.pv,qS v.i,p,d⟩) h1d.cells ?_));have hv1:EvM w1.drew F.sg F.SF ⟨v.k,v.r,v.b,v.pv,qS v.i,p,d⟩ (q0u v):=⟨rfl,rfl,rfl,rfl,rfl,⟨(hv.ps.ext hB1).drew,.inr λa ha=>⟨λhs=>(hv.pf a ha).1 (.inl (.inr (.inl hs))),by have:=(hv.pf a ha).2;show a.block<w1.heap.size;omega⟩,λx hx=>by have:=hv.rng x hx;unfold zfd;omega,by have:=hv.pl;show v.ps.length<=100000;omega⟩,hv.b,hv.pv,by have:=hv.il;show v.i.length<=100000;omega⟩;refine zdh m1.sc hv1 m1.tab hN λq SF' w3 hq hT=>?_;have t3:=m1.screen hT;have m3:=t3.m;refine ⟨m3.blk.cells 12 _ rfl,?_⟩;refine jx zc (ty:=qg) (xs:=T.rep) (ys:=T.S.doNR (q0u v)) m3.rq hq m3.base_le (by rw [xL];omega) (by simp [maxLen];omega) λr w4 hr hg hrb=>?_;refine m3.replied (xs:=T.S.doNR (q0u v)) hr (Chg.of_grown hg λk hk=>hk) hrb λw5 t5=>?_;exact aft ⟨none,0,0⟩ _ w5 (by rw [eq];exact t1d.trans (t3.trans t5)) (by rw [eq];show T.n<=_;omega) (by rw [eq];exact λk hk=>.inl hk)
noncomputable def TH2 (base tg pg:Nat):Hnd TS where
 M w S s:=∃F,F.tg=tg/\F.pg=pg/\TermM w base F s/\S=qap F s
 R s v s':=∃P,s'=qd4 s v P
 ok s v:=EvOk s v
theorem zhd (base tg pg:Nat):HndOk (TH2 base tg pg) base (.func (.func YO) #[.pointer (some ⟨tg,0,none⟩)] #[]) where
 keep:=by
  rintro w w' S s X ⟨F,e1,e2,hm,rfl⟩ hc hS hf hb;exact ⟨F,e1,e2,hm.keep hc (λk hk=>hS k (.inl hk)) (λk hk=>hS k (.inr hk)) hf (qb5 hm hc hb),rfl⟩
 lt:=by
  rintro w S s ⟨F,e1,e2,hm,rfl⟩ k (hk | hk)
  ·exact hm.below k hk
  ·obtain ⟨hb,cs,hcs⟩:=qnc hm.en hk;exact ⟨hb,hcs.lt⟩
 call:=by
  rintro w S s v p d K ⟨F,e1,e2,hm,rfl⟩ ok hv hK;subst e1;refine callR_plain (by kernel_rfl) (show JL (some ⟨F.tg,0,none⟩) ⟨v.k,v.r,v.b,v.pv,qS v.i,p,d⟩ w K from ?_);exact qy3 hm hv ok λP F' w' t hi=>hK w' (qap F' (qd4 s v P)) (qd4 s v P) ⟨F',t.tg,t.pg.trans e2,t.m,rfl⟩ ⟨P,rfl⟩ (t.chg.mono λk _ hk=>.inl hk) λk hk=>by
   rcases hk with hk | hk
   ·exact (t.old k hk).imp_left .inl
   ·exact (hi k hk).imp_left .inr
structure TPI (w:World) (base:Nat) (F:TmF) (PF:PF) (p:PS) (T:TS):Prop where
 tm:TermM w base F T
 pm:∃fv,ParsM w base PF p fv
 e:PF.pg=F.pg
 dj:∀k,vE PF k->¬qap F T k
theorem TPM.two {PF:PF} {p:PS} (h:TPM w base F PF p T):TPI w base F PF p T:=⟨h.tm,h.pm,h.e,λk hk hs=>hs.elim (h.dj k hk) λhi=>by obtain ⟨q,hq,_⟩:=hi;rw [h.ni] at hq;cases hq⟩
theorem TPI.ext {PF:PF} {p:PS} (h:TPI w base F PF p T) (hB:Uc w w'):TPI w' base F PF p T:=⟨h.tm.ext hB,by obtain ⟨fv,hp⟩:=h.pm;exact ⟨fv,hp.ext hB⟩,h.e,h.dj⟩
theorem TPI.lt {PF:PF} {p:PS} (h:TPI w base F PF p T) {k:Nat} (hk:vE PF k\/qap F T k):base<=k/\k<w.heap.size:=by
 obtain ⟨fv,hp⟩:=h.pm;rcases hk with hk | hk | hk
 ·exact hp.below k hk
 ·exact h.tm.below k hk
 ·obtain ⟨hb,cs,hcs⟩:=qnc h.tm.en hk;exact ⟨hb,hcs.lt⟩
theorem TPI.belowB {PF:PF} {p:PS} (h:TPI w base F PF p T) (hc:Chg (λk=>vE PF k\/qap F T k) w w'):Below base w w':=hc.below h.tm.base_le λi hi hs=>by have:=(h.lt hs).1;omega
theorem qrv {PF:PF} {p:PS} (h:TPI w base F PF p T) {q:Slc} {bs:List UInt8} (hq:Rd qm w q bs) (hl:bs.length<=1000000) (hb:∀b∈bs,b.toNat<128) (hqn:∀a,q.a=some a->¬vE PF a.block/\¬qap F T a.block/\a.block<w.heap.size)
  (hok:jf (TH2 base F.tg F.pg) T (p.eachB bs).2) {K:Ub} (hK:∀F' PF' T' w',TPI w' base F' PF' (p.eachB bs).1 T'->ZM (TH2 base F.tg F.pg) T (p.eachB bs).2 T'->F'.tg=F.tg->Chg (λk=>vE PF k\/qap F T k) w w'->(∀k,(vE PF' k\/qap F' T' k)->(vE PF k\/qap F T k)\/w.heap.size<=k)->K w'):jq (some ⟨F.tg,0,none⟩) q w K:=by
 refine qlb _ _ ?_;simp only [onPtr_some];refine qK (x:=some ⟨F.pg,0,none⟩) (h.tm.blk.cells 8 _ rfl) ?_;rw [<-h.e];obtain ⟨fv0,hp⟩:=h.pm;have hM:(TH2 base F.tg F.pg).M w (qap F T) T:=⟨F,rfl,rfl,h.tm,rfl⟩;refine q03 (zhd base F.tg F.pg) rfl rfl hp hM h.dj hq hl hb hqn hok λPF' S' T' w' hp' hM' dj hR hold hc e=>?_;obtain ⟨F',e1,e2,hm,rfl⟩:=hM';exact hK F' PF' T' w' ⟨hm,⟨_,hp'⟩,e.trans (h.e.trans e2.symm),dj⟩ hR e1 hc hold
end
section
variable {w w':World} {base:Nat} {F F':TmF} {T T':TS}
theorem zgs {K:Nat->Ub} (hK:∀w',Uc w w'->K w.heap.size w'):nwM w K:=hK _ ((Below.refl _ w).alloc (le_refl _) _)
theorem q5l {b b':Nat} {ls:List Slc} {xss:List (List qO)} (h:Lines w b ls xss) (hb:b'<=b):Lines w b' ls xss:=⟨h.1,λj s xs hj hx=>(h.2 j s xs hj hx).base hb⟩
theorem q16 {f:Value} {K:Ub} (hK:K w):zJ ⟨none,0,0⟩ f w K:=by
 refine xO _ _ ?_;refine Qg _ _ _ ?_;refine lpR (λ(st:Int×Int×Unit) w1=>st=(0,20,())/\w1=w) (λ_=>0) ⟨rfl,rfl⟩ ?_;rintro _ w1 ⟨rfl,rfl⟩ I hI;refine cF rfl ?_;refine vh _ _ _ _ ?_;refine lpR (λ(st:Int×Unit) w2=>st.1=1/\w2=w1) (λ_=>0) ⟨rfl,rfl⟩ ?_;rintro ⟨i,u⟩ w2 ⟨rfl,rfl⟩ I2 hI2;refine cF rfl ?_;refine lpR (λ(st:Int×Unit) w3=>st.1=20/\w3=w2) (λ_=>0) ⟨rfl,rfl⟩ ?_;rintro ⟨i,u⟩ w3 ⟨rfl,rfl⟩ I3 hI3;exact cF rfl hK
theorem q4m (h:TermM w base F T) (hP:T.E.T=[]) {v:qG} {K:Slc->Ub} (hK:∀w',Uc w w'->K ⟨none,0,0⟩ w'):zi (some ⟨F.eg,0,none⟩) v w K:=by
 refine qdf _ _ ?_;refine nwb λw1 h1 hB1 hs1=>?_;simp only [onPtr_some];have m1:=(h.ext hB1).drew;refine qK (x:=some ⟨F.KF.tg,0,none⟩) (m1.en.blk.cells 2 _ rfl) (qx (r:=qG.rep) (x:=v) h1.drew.cells ?_);refine qf0 _ _ ?_;refine nwb λw2 h2 hB2 hs2=>?_;simp only [onPtr_some];have m2:=m1.ext hB2;refine lSl (x:=F.KF.q) (m2.en.tb.blk.cells 0 _ rfl) ?_;have hn:=m2.en.tb.own.rd.n;rw [hP] at hn;refine lpR (λ(st:Slc×Int×Unit) w3=>st=(⟨none,0,0⟩,0,())/\w3=w2) (λ_=>0) ⟨rfl,rfl⟩ ?_;rintro _ w3 ⟨rfl,rfl⟩ I hI;refine cF (by rw [hn];rfl) (q16 (hK _ (bT (bT hB1 (bdw w1)) hB2)))
theorem QS (h:TermM w base F T) {K:Option Addr->Ub} (hK:∀g' r' w',StM w' base g' r' T.E.S->Uc w w'->K (some ⟨g',0,none⟩) w'):zC (some ⟨F.tg,0,none⟩) w K:=by
 refine qh4 _ ?_;simp only [onPtr_some];exact qK (x:=some ⟨F.eg,0,none⟩) (h.blk.cells 7 _ rfl) (qzd h.en λg' r' w' _ _ hst hB=>hK g' r' w' hst hB)
theorem q4u (h:TermM w base F T) (hn:T.n<=900) (hE:T.E.S.L=[]) (hP:T.E.T=[]) {cw ch:Nat} (ecw:T.c.CellW=cw) (ech:T.c.CellH=ch) (lim:1<=cw/\cw<=64/\1<=ch/\ch<=64) {f:Value} {K:qo->Ub}
  (hK:∀s w',ScnM w' w'.heap.size s T.S.g.rows T.S.g.cols cw ch T.S.g.L->s.Places.n=0->s.Row=T.S.c.Row->s.Col=T.S.c.Col->Uc w w'->K s w'):JA (some ⟨F.tg,0,none⟩) f w K:=by
 refine qi1 _ _ ?_;refine nwb λw1 h1 hB1 hs1=>qqs (h.ext hB1) λw2 hB2=>?_;refine ko (vs:=qh.rep.cells (yp T)) rfl λw4 h4 hB4 hs4=>?_;have B4:=bT (bT hB1 hB2) hB4;have z1:=hB1.size;have z2:=hB2.size;have z4:=hB4.size;have hm0:=(h.ext B4).drew;have hv0:=h4.drew;have ht0:=((h1.ext hB2).ext hB4).drew;have B04:=bT B4 (bdw w4);have hG:=h.sc.gOk;refine jpO λJ1 hJ1=>?_;have c1:∀{wx},Below w4.drew.heap.size w4.drew wx->wx.cell? (((⟨w2.heap.size,0,none⟩:Addr).add 0).add 1)=some (Ua T.S.g.top):=λhB=>by rw [jR];exact (hv0.ext hB).cells 1 _ rfl
 have c2:∀{wx},Below w4.drew.heap.size w4.drew wx->wx.cell? (((⟨w2.heap.size,0,none⟩:Addr).add 0).add 2)=some (Ua T.S.g.rows):=λhB=>by rw [jR];exact (hv0.ext hB).cells 2 _ rfl
 have c3:∀{wx},Below w4.drew.heap.size w4.drew wx->wx.cell? (((⟨w2.heap.size,0,none⟩:Addr).add 0).add 3)=some (Ua T.S.g.cols):=λhB=>by rw [jR];exact (hv0.ext hB).cells 3 _ rfl
 have c4:∀{wx},Below w4.drew.heap.size w4.drew wx->wx.cell? (((⟨w2.heap.size,0,none⟩:Addr).add 0).add 4)=some (Ua T.S.c.Row):=λhB=>by rw [jR];exact (hv0.ext hB).cells 4 _ rfl
 have c5:∀{wx},Below w4.drew.heap.size w4.drew wx->wx.cell? (((⟨w2.heap.size,0,none⟩:Addr).add 0).add 5)=some (Ua T.S.c.Col):=λhB=>by rw [jR];exact (hv0.ext hB).cells 5 _ rfl
 have c6:∀{wx},Below w4.drew.heap.size w4.drew wx->wx.cell? ((⟨w2.heap.size,0,none⟩:Addr).add 6)=some (Ua T.c.CellW):=λhB=>(hv0.ext hB).cells 6 _ rfl;have c7:∀{wx},Below w4.drew.heap.size w4.drew wx->wx.cell? ((⟨w2.heap.size,0,none⟩:Addr).add 7)=some (Ua T.c.CellH):=λhB=>(hv0.ext hB).cells 7 _ rfl;have cs:∀{wx},Below w4.drew.heap.size w4.drew wx->qy wx ((⟨w2.heap.size,0,none⟩:Addr).add 0) (qG.rep.cells (yp T).View):=λhB=>(hv0.ext hB).sub 0 _ rfl;have ct:∀{wx},Below w4.drew.heap.size w4.drew wx->wx.cell? ((⟨F.tg,0,none⟩:Addr).add 7)=some (.pointer (some ⟨F.eg,0,none⟩)):=λhB=>(hm0.ext hB).blk.cells 7 _ rfl;have B0:=Below.refl w4.drew.heap.size w4.drew;have fin:∀(sb mp:Nat) (q:Slc) (ls:List Slc) (wx:World),Blk wx sb zb [(Ua 0),(Ua 0),(Ua 0),(Ua 0),(.slice none 0 0),(.slice none 0 0),(.map none),(Ua 0),(.bool false),(Ua 0),(Ua 0)]->Below w4.drew.heap.size w4.drew wx->w4.drew.heap.size<=sb->Go.Vc.Own slE wx w4.drew.heap.size q ls->Lines wx w4.drew.heap.size ls T.S.g.L ->
   stK ⟨sb,0,none⟩ [(Ua T.S.g.rows),(Ua T.S.g.cols),(Ua T.c.CellW),(Ua T.c.CellH),(.slice q.a q.n q.c),(.slice none 0 0),(.map (some mp)),(Ua T.S.g.top),(.bool false),(Ua T.S.c.Row),(Ua T.S.c.Col)] wx λwy=>J1 (⟨sb,0,none⟩,()) wy:=by
  intro sb mp q ls wx hs hBx hle ho hl;refine x5 hs rfl λwy hy hcy hsy=>hJ1 _ _ ?_;have By:=b1o hBx hcy hle;have oy:=ho.chg hcy (qF ho hs (by decide));have ly:=hl.chg hcy λk cs e hk=>by subst e;exact hs.ne_t hk (by decide) rfl
  have my:=hm0.ext By;refine q17 my ?_;rw [q4];refine qw hy (by show 0+8+1<=11;omega) λwz hz hgz hsz=>?_;have hcz:=Chg.gg hgz;have Bz:=b1o By hcz hle;have oz:=oy.chg hcz (qF oy hy (by decide));have lz:=ly.chg hcz λk cs e hk=>by subst e;exact hy.ne_t hk (by decide) rfl
  refine QS (hm0.ext Bz) λg' r' w8 hst hB8=>?_;refine q23 hst h.en.ok (by omega) λiq w9 hiq hB9=>?_;have hin:=hiq.rd.n;rw [hE] at hin;refine lpR (λ(st:Int×Unit) wb=>st.1=0/\wb=w9) (λ_=>0) ⟨rfl,rfl⟩ ?_;rintro ⟨i,u⟩ wb ⟨rfl,rfl⟩ I hI;refine cF (by rw [hin];rfl) ?_;have B9:=bT (bT Bz hB8) hB9;have hs9:=(hz.ext hB8).ext hB9;have o9:=(oz.ext hB8).ext hB9;have l9:=(lz.ext hB8).ext hB9;have ht9:=ht0.ext B9;refine qx (r:=qo.rep) (x:=⟨T.S.g.rows,T.S.g.cols,T.c.CellW,T.c.CellH,q,⟨none,0,0⟩,some mp,T.S.g.top,(T.S.modeP 25 true).1,T.S.c.Row,T.S.c.Col⟩) hs9.cells ?_;refine zM (r:=qo.rep) (x:=⟨T.S.g.rows,T.S.g.cols,T.c.CellW,T.c.CellH,q,⟨none,0,0⟩,some mp,T.S.g.top,(T.S.modeP 25 true).1,T.S.c.Row,T.S.c.Col⟩) ht9 rfl rfl λw5 hc5 hs5=>?_;have o5:=o9.chg hc5 (qF o9 ht9 (by decide));have l5:=l9.chg hc5 λk cs e hk=>by subst e;exact ht9.ne_t hk (by decide) rfl
  refine hK _ w5 ⟨rfl,rfl,ecw,ech,⟨hG.rows.1,hG.rows.2,hG.cols.1,hG.cols.2,lim⟩,⟨ls,o5.rd,l5.1,λj s xs hj hx=>⟨(l5.2 j s xs hj hx).rd,λa ha=>((l5.2 j s xs hj hx).lt a.block (slk.2 ⟨a,ha,rfl⟩)).2⟩⟩,λa ha=>(o5.lt a.block (slk.2 ⟨a,ha,rfl⟩)).2⟩ rfl rfl rfl ?_;exact b1o (bT B04 B9) hc5 (le_refl _)
 simp only [onPtr_some];refine lI (x:=(T.S.g.rows:Int)) (c2 B0) (lI (x:=(T.S.g.cols:Int)) (c3 B0) (lI (x:=T.c.CellW) (c6 B0) (lI (x:=T.c.CellH) (c7 B0) ?_)));refine qK (x:=some ⟨F.eg,0,none⟩) (ct B0) (qx (r:=qG.rep) (x:=(yp T).View) (cs B0) ?_);refine lI (x:=T.S.g.top) (c1 B0) (lI (x:=T.S.c.Row) (c4 B0) (lI (x:=T.S.c.Col) (c5 B0) ?_));have B:=B0
 repeat' first
  | exact fin _ _ _ _ _ hs B le hq hl
  | refine ⟨c5 B,c4 B,c1 B,cs B,ct B,c7 B,c6 B,c3 B,c2 B,?_⟩
  | refine ⟨c5 B,c4 B,c1 B,c7 B,c6 B,c3 B,c2 B,?_⟩
  | (
    refine qpk (hm0.ext B) λq ls y hq hl b=>?_
    replace hl:=q5l hl B.size
    replace hq:=hq.base B.size
    try replace hs:=hs.ext b
    replace B:=bT B b)
  | (first
      | refine q4m (hm0.ext B) hP λy b=>?_
      | refine zgs λy b=>?_
     try replace hs:=hs.ext b
     try replace hq:=hq.ext b
     try replace hl:=hl.ext b
     replace B:=bT B b)
  | (
    refine nwb λy hs b z=>?_;have le:=B.size
    try replace hq:=hq.ext b
    try replace hl:=hl.ext b
    replace B:=bT B b)
  | refine ⟨?_,?_⟩
theorem qvx (h:TermM w base F T) (hn:T.n<=900) (hE:T.E.S.L=[]) (hP:T.E.T=[]) {cw ch:Nat} (ecw:T.c.CellW=cw) (ech:T.c.CellH=ch) (lim:1<=cw/\cw<=64/\1<=ch/\ch<=64) (hbr:zfr T.S.g.L) (hch:zdf T.S.g.L)
  (hW2:T.S.g.cols*cw<=16384) (hH2:T.S.g.rows*ch<=16384) (hA:T.S.g.cols*cw*(T.S.g.rows*ch)<=67108864) (br:-1000000<=T.S.c.Row/\T.S.c.Row<=1000000) (bc:-1000000<=T.S.c.Col/\T.S.c.Col<=1000000) {K:qa->Int->Ub}
  (hK:∀m w',m.W=((T.S.g.cols*cw:Nat):Int)->m.H=((T.S.g.rows*ch:Nat):Int)->Uc w w'->K m 0 w'):yi (some ⟨F.tg,0,none⟩) w K:=by
 refine qcw _ ?_;refine nwb λw1 h1 hB1 hs1=>?_;simp only [onPtr_some];have m1:=h.ext hB1;refine qK (x:=some ⟨F.eg,0,none⟩) (m1.blk.cells 7 _ rfl) ?_;refine q4u m1 hn hE hP ecw ech lim λs w2 hs hp er ec hB2=>?_;refine q9u hs hbr hch hp (by rw [er];exact br) (by rw [ec];exact bc) (le_refl _) hW2 hH2 hA λm w3 hw hh hB3=>?_;have h13:=(h1.ext hB2).ext hB3;exact zM (r:=qa.rep) (x:=m) h13 rfl rfl λw4 hc4 hs4=>hK m w4 hw hh (b1o (bT (bT hB1 hB2) hB3) hc4 (le_refl _))
end
theorem zdt {P:Cel->Prop} {L:List (List Cel)} (h:∀xs∈L,∀c∈xs,P c) (h0:P qei):∀r c,P (xQ L r c):=by
 intro r c;unfold xQ;rw [List.getD_eq_getElem?_getD,List.getD_eq_getElem?_getD];cases hr:L[r]? with
 | none=>exact h0
 | some xs =>
  show P ((xs[c]?).getD qei);cases hc:xs[c]? with
  | none=>exact h0
  | some y=>exact h xs (List.mem_of_getElem? hr) y (List.mem_of_getElem? hc)
section
variable {w w':World} {base:Nat} {F F':TmF} {T T':TS} {PF:PF} {p:PS}
theorem qva {rows cols quota:Int} (hc:okC ⟨rows,cols,2,2,4,quota⟩) (hq:Vl quota=0) (hT:Tab w) (h4:4<=w.heap.size) {K:Option Addr->Ub} (hK:∀F PF w',TPM w' w.heap.size F PF ps0 (qu6 ⟨rows,cols,2,2,4,quota⟩)->Uc w w'->K (some ⟨F.tg,0,none⟩) w'):kX rows cols quota w K:=by
 refine qey _ _ _ ?_;exact q68 hc hq hT h4 λF PF w' hM hB=>cF rfl (hK F PF w' hM hB)
theorem qjl {n m:Int} (hm:0<m/\m<=1000) {K:Int->Ub} (hK:∀k:Nat,(k:Int)<m->K (k:Int) w):jV n m w K:=by
 refine qgs _ _ ?_;have l1:=Int.lt_tmod_of_pos n hm.1;have l2:=Int.tmod_lt_of_pos n hm.1;refine ⟨by omega,cO (λe=>?_) λe=>?_⟩
 ·have e:=oTq e;have:=hK (n.tmod m+m).toNat (by omega)
  rwa [Int.toNat_of_nonneg (by omega),<-qP (x:=n.tmod m+m) (by omega)] at this
 ·have e:=oFq e;have:=hK (n.tmod m).toNat (by omega)
  rwa [Int.toNat_of_nonneg (by omega)] at this
def kc:qL:=⟨2,3,2,2,4,4096⟩
def kbs:List UInt8:=[120,27,91,53,110]
def kev:List EvP:=[q0k 120,⟨4,0,110,0,[],[5],[]⟩]
theorem zcy:(ps0.eachB kbs).2=kev:=by kernel_rfl
theorem zhy:(zf8 [⟨120,0,at0⟩,qei,qei]).toList==(⟨#[120]⟩:ByteArray).toList:=by kernel_rfl
end
theorem zbi {p:PS} (h0:p.st=0) (he:p.ends=false):p.step 27=(p.begin_ 1,[]):=by
 unfold PS.step;rw [if_neg (by rw [he];decide),if_neg (by omega),if_neg (by omega),if_neg (by omega)]
theorem q5b {p:PS} {bs:List UInt8} (h:p.ends=true\/p.st≠5/\p.st≠6):¬0<p.runN bs:=by
 unfold PS.runN;rw [if_pos h];omega
theorem zbj {p:PS} (h0:p.st=0) (he:p.ends=false) {d:List UInt8} (hd:∀b∈d,JB b.toNat=false) (hne:d≠[]):p.eachB (27::95::(d++[27,92]))=(p.begin_ 0,[evK 9 0,JK 10 d,evK 11 1]):=by
 rw [PS.eachB_step (q5b (.inr (by omega)))];have s1:p.step (((27:UInt8).toNat:Nat):Int)=(p.begin_ 1,[]):=zbi h0 he;rw [s1];dsimp only;rw [PS.eachB_step (q5b (.inr ⟨by show (1:Int)≠5;omega,by show (1:Int)≠6;omega⟩))];have s2:(p.begin_ 1).step (((95:UInt8).toNat:Nat):Int)=({ p.begin_ 1 with st:=6 },[evK 9 0]):=by
  unfold PS.step;rw [if_neg (by show ¬p.ends=true;rw [he];decide),if_pos (by decide)];unfold PS.plain;rw [if_pos (show (p.begin_ 1).st=1 from rfl)];rfl
 rw [s2];dsimp only;obtain ⟨p2,hp2⟩:∃p2,p2=({ p.begin_ 1 with st:=6 }:PS):=⟨_,rfl⟩;rw [<-hp2];have t2:p2.st=6:=by rw [hp2]
 have e2:p2.ends=false:=by rw [hp2];exact he
 have hrn:p2.runN (d++[27,92])=d.length:=by
  unfold PS.runN;rw [if_neg (by rw [e2,t2];rintro (h | h);cases h;exact h.2 rfl)];refine zbu (x:=27) (λy hy=>?_) (by simp) rfl;rw [List.take_left] at hy;rw [hd y hy];rfl
 have hpos:0<d.length:=List.length_pos_iff.2 hne;obtain ⟨b,r,hbr⟩:∃b r,d++[27,92]=b::r:=by
  cases d with
  | nil=>exact absurd rfl hne
  | cons b r=>exact ⟨b,r++[27,92],rfl⟩
 have hrun:p2.eachB (d++[27,92])=((p2.eachB [27,92]).1,JK 10 d::(p2.eachB [27,92]).2):=by
  rw [hbr,PS.eachB_run (by rw [<-hbr,hrn];exact hpos),<-hbr,hrn,List.drop_left,List.take_left,if_pos t2]
 have h27:p2.eachB [27,92]=(p.begin_ 0,[evK 11 1]):=by
  have hn1:¬0<p2.runN [27,92]:=by
   unfold PS.runN;split
   ·omega
   ·decide
  rw [PS.eachB_step hn1];have s3:p2.step (((27:UInt8).toNat:Nat):Int)=({ p2 with ends:=true },[]):=by
   unfold PS.step;rw [if_neg (by rw [e2];decide),if_neg (by decide),if_neg (by decide),if_pos (by omega)]
  rw [s3];dsimp only;rw [PS.eachB_step (q5b (.inl rfl))];have s4:({ p2 with ends:=true }:PS).step (((92:UInt8).toNat:Nat):Int)=(p.begin_ 0,[evK 11 1]):=by
   rw [hp2];have:p.begin_ 0={ p.begin_ 1 with st:=0,ends:=false }:=by
    unfold PS.begin_;rw [<-he]
   rw [this];rfl
  rw [s4];rfl
 rw [hrun,h27];rfl
def cev (bs:List UInt8):List EvP:=[evK 9 0,JK 10 (71::bs),evK 11 1]
def qbe (T:TS) (bs:List UInt8):TS:={ T with cmd:=71::bs,long:=false,f0:=Zj T.S,f1:=T.S.g1.top }
noncomputable def Vj (T:TS) (bs:List UInt8) (P:Slc):TS:=xF (Vx (qbe T bs) P)
structure CmdGo (T:TS) (bs:List UInt8):Prop where
 ok:CmdOk bs
 more:(kO bs).More≠1
 len:bs.length<=5000
 calm:Calm T
 aft:∀P,Calm (Vx (qbe T bs) P)
 q:T.E.quota<=100000
 n:T.n<=880
 rl:T.rep.length<=1000000
 rd:∀P,(Vx (qbe T bs) P).rep.length<=2000000
section
variable {w w':World} {base:Nat} {F F':TmF} {T T':TS} {bs:List UInt8}
theorem ev9 (T:TS) (P:Slc):qd4 T (evK 9 0) P={ T with cmd:=[],long:=false,f0:=Zj T.S,f1:=T.S.g1.top }:=by
 unfold qd4 X9;rw [if_pos (show (evK 9 0).k=9 from rfl)];rfl
theorem zio (T:TS) (d:List UInt8) (P:Slc):qd4 T (JK 10 d) P=xF { T with cmd:=T.cmd++d }:=by
 unfold qd4 X9;rw [if_neg (show ¬(JK 10 d).k=9 by show ¬(10:Int)=9;omega),if_pos (show (JK 10 d).k=10 from rfl)];rfl
theorem zho (T:TS) (P:Slc):X9 T (evK 11 1) P=Vx T P:=by
 unfold X9;rw [if_neg (show ¬(evK 11 1).k=9 by show ¬(11:Int)=9;omega),if_neg (show ¬(evK 11 1).k=10 by show ¬(11:Int)=10;omega),if_pos (show (evK 11 1).k=11 from rfl)]
theorem ev2 (T:TS) (bs:List UInt8) (P P':Slc):qd4 (qd4 T (evK 9 0) P) (JK 10 (71::bs)) P'=qbe T bs:=by
 rw [ev9,zio];rfl
theorem zhe (h:CmdGo T bs) (b tg pg:Nat):jf (TH2 b tg pg) T (cev bs):=by
 have hl:=h.len;have hrl:=h.rl;have c1:∀(X:TS),X.S=T.S->X.f0=Zj T.S->X.f1=T.S.g1.top->Calm X:=λX e1 e2 e3=>⟨by rw [e1];exact h.calm.ar,.inl ⟨by rw [e1,e2],by rw [e1,e3]⟩⟩;refine ⟨⟨.inl rfl,λP=>?_,hrl,λP=>?_,h.n⟩,?_⟩
 ·have e:X9 T (evK 9 0) P={ T with cmd:=[],long:=false }:=by unfold X9;rw [if_pos (show (evK 9 0).k=9 from rfl)]
  rw [e];exact ⟨h.calm.ar,h.calm.st⟩
 ·have e:X9 T (evK 9 0) P={ T with cmd:=[],long:=false }:=by unfold X9;rw [if_pos (show (evK 9 0).k=9 from rfl)]
  rw [e];show T.rep.length<=_;omega
 rintro m ⟨P1,rfl⟩;rw [ev9];refine ⟨⟨.inr (.inl ⟨rfl,rfl,?_⟩),λP=>?_,hrl,λP=>?_,h.n⟩,?_⟩
 ·show (0:Nat)+(bs.length+1)<=_;omega
 ·have e:X9 ({ T with cmd:=[],long:=false,f0:=Zj T.S,f1:=T.S.g1.top }:TS) (JK 10 (71::bs)) P=qbe T bs:=by unfold X9;rw [if_neg (show ¬(JK 10 (71::bs)).k=9 by show ¬(10:Int)=9;omega),if_pos (show (JK 10 (71::bs)).k=10 from rfl)];rfl
  rw [e];exact c1 _ rfl rfl rfl
 ·have e:X9 ({ T with cmd:=[],long:=false,f0:=Zj T.S,f1:=T.S.g1.top }:TS) (JK 10 (71::bs)) P=qbe T bs:=by unfold X9;rw [if_neg (show ¬(JK 10 (71::bs)).k=9 by show ¬(10:Int)=9;omega),if_pos (show (JK 10 (71::bs)).k=10 from rfl)];rfl
  rw [e];show T.rep.length<=_;omega
 rintro m ⟨P2,rfl⟩;have e2:=ev2 T bs P1 P2;rw [ev9] at e2;rw [e2];refine ⟨⟨.inr (.inr (.inl ⟨rfl,rfl,rfl,⟨bs,rfl,h.ok,h.more,by omega⟩,h.q⟩)),λP=>?_,hrl,λP=>?_,h.n⟩,λ_ _=>trivial⟩
 ·rw [zho];exact h.aft P
 ·rw [zho];exact h.rd P
theorem zdk {b tg pg:Nat} (h:ZM (TH2 b tg pg) T (cev bs) T'):∃P,T'=Vj T bs P:=by
 obtain ⟨m1,⟨P1,rfl⟩,m2,⟨P2,rfl⟩,m3,⟨P3,rfl⟩,rfl⟩:=h;refine ⟨P3,?_⟩;show qd4 (qd4 (qd4 T (evK 9 0) P1) (JK 10 (71::bs)) P2) (evK 11 1) P3=_;rw [ev2];unfold qd4;rw [zho];rfl
theorem zdy {PF:PF} {p:PS} (h:TPI w base F PF p T) (h0:p.st=0) (he:p.ends=false) (hgo:CmdGo T bs) (hsp:∀b∈bs,JB b.toNat=false/\b.toNat<128) {q:Slc} (hq:Rd qm w q (27::95::71::(bs++[27,92])))
  (hqn:∀a,q.a=some a->¬vE PF a.block/\¬qap F T a.block/\a.block<w.heap.size) {K:Ub}
  (hK:∀P F' PF' w',TPI w' base F' PF' (p.begin_ 0) (Vj T bs P)->F'.tg=F.tg->Chg (λk=>vE PF k\/qap F T k) w w'->(∀k,(vE PF' k\/qap F' (Vj T bs P) k)->(vE PF k\/qap F T k)\/w.heap.size<=k)->K w'):jq (some ⟨F.tg,0,none⟩) q w K:=by
 have hd:∀b∈(71::bs),JB b.toNat=false:=λb hb=>by
  rcases mem_cons.1 hb with rfl | hb
  ·rfl
  ·exact (hsp b hb).1
 have hev:=zbj h0 he hd (by simp);have hl:=hgo.len;have e:(27::95::71::(bs++[27,92]):List UInt8)=27::95::((71::bs)++[27,92]):=rfl;rw [e] at hq;refine qrv h hq (by simp only [length_cons,length_append,length_nil];omega) (λb hb=>?_) hqn (by rw [hev];exact zhe hgo _ _ _) λF' PF' T' w' hM hR ht hc hold=>?_
 ·simp only [mem_cons,mem_append,List.not_mem_nil,or_false] at hb;rcases hb with rfl | rfl | (rfl | hb) | rfl | rfl
  ·decide
  ·decide
  ·decide
  ·exact (hsp b hb).2
  ·decide
  ·decide
 ·rw [hev] at hM hR;obtain ⟨P,rfl⟩:=zdk hR;exact hK P F' PF' w' hM ht hc hold
end
def qgf (S:St) (id:Int):Prop:=∃x,(id,x)∈S.L
def zar (T:List Pl) (S:St):Prop:=∀p∈T,qgf S p.Image
theorem qu0 (n:Int):∀(f:Nat) (S:St) (G:List Int) (k:Int),k∈G->k∈(S.roomF n f G).2
 | 0,S,G,k,h=>h
 | f+1,S,G,k,h=>by
  unfold St.roomF;split
  ·exact qu0 n f _ _ k (List.mem_append_left _ h)
  ·exact h
theorem qx2 (n:Int):∀(f:Nat) (S:St) (G:List Int) (k:Int),qgf S k->k ∉ (S.roomF n f G).2->qgf (S.roomF n f G).1 k
 | 0,S,G,k,h,_=>h
 | f+1,S,G,k,h,hk=>by
  unfold St.roomF at hk ⊢;split at hk
  ·rename_i hc;rw [if_pos hc];refine qx2 n f _ _ k ?_ hk;obtain ⟨x,hx⟩:=h;refine ⟨x,(Zb _ _ _).2 ⟨λe=>?_,hx⟩⟩;exact hk (qu0 n f _ _ k (by rw [e];simp))
  ·rename_i hc;rw [if_neg hc];exact h
theorem q2o (S:St) (n:Int) (k:Int) (h:qgf S k) (hk:k ∉ (S.room n).2):qgf (S.room n).1 k:=qx2 n _ S [] k h hk
theorem qxq:∀(G:List Int) (T:List Pl) (p:Pl),p∈qdw T G↔p∈T/\p.Image ∉ G
 | [],T,p=>by simp [qdw]
 | i::G,T,p=>by
  have e:qdw T (i::G)=qdw (T.filter λp=>!(p.Image==i)) G:=rfl;rw [e,qxq G];simp;constructor
  ·rintro ⟨⟨a,b⟩,c⟩;exact ⟨a,b,c⟩
  ·rintro ⟨a,b,c⟩;exact ⟨⟨a,b⟩,c⟩
theorem qw5 {T:List Pl} {S S':St} {G:List Int} (h:zar T S) (hk:∀k,qgf S k->k ∉ G->qgf S' k):zar (qdw T G) S':=λp hp=>by
 obtain ⟨h1,h2⟩:=(qxq G T p).1 hp;exact hk _ (h p h1) h2
def qza (B:Nat) (E:KE):Prop:=∀C s,E.ld=some (C,s)->s.over=false/\VX (toL E.first)/\qas s<=B/\(s.b.length:Int)+E.S.used<=E.quota
structure Inv (B:Nat) (E:KE):Prop where
 here:zar E.T E.S
 q:E.S.quota=E.quota
 ld:qza B E
theorem qza.none {B:Nat} {E:KE} (h:E.ld=none):qza B E:=λC s e=>by rw [h] at e;cases e
section
variable {B n:Nat} {E:KE} {W H:Int} {bs:List UInt8}
theorem qor (hq:E.S.quota=E.quota) (h0:0<=E.quota) (hh:jT E<=1000000) :
  ((jT E:Int)<=E.quota/\E.reserve 0=({ E with S:=(({ E.S with res:=(jT E:Int) }:St).room (jT E)).1,T:=qdw E.T (({ E.S with res:=(jT E:Int) }:St).room (jT E)).2 },0))\/(E.quota<(jT E:Int)/\E.reserve 0=(E,6)):=by
 have e:wi (0+(jT E:Int))=jT E:=by
  unfold wi;rw [Int.zero_add];exact i64_in (by omega)
 unfold KE.reserve;rw [if_neg (by omega),if_neg (by omega),e];by_cases hh:(jT E:Int)<=E.quota
 ·left;refine ⟨hh,?_⟩;have er:E.S.reserve (jT E:Int)=((({ E.S with res:=(jT E:Int) }:St).room (jT E)).1,(({ E.S with res:=(jT E:Int) }:St).room (jT E)).2,0):=by
   unfold St.reserve;rw [if_neg (by omega),if_neg (by omega)]
  rw [er]
 ·right;refine ⟨by omega,?_⟩;have er:E.S.reserve (jT E:Int)=(E.S,[],6):=by
   unfold St.reserve;rw [if_neg (by omega),if_pos (by omega)]
  rw [er];rfl
structure Inv0 (B:Nat) (E:KE):Prop where
 here:zar E.T E.S
 q:E.S.quota=E.quota
 ld:∀C s,E.ld=some (C,s)->s.over=false/\VX (toL E.first)/\qas s<=B
theorem Inv.inv0 (h:Inv B E):Inv0 B E:=⟨h.here,h.q,λC s e=>by obtain ⟨a,b,c,d⟩:=h.ld C s e;exact ⟨a,b,c⟩⟩
theorem Inv0.held (h:Inv0 B E) (hB:B<=120000):jT E<=1000000:=by
 unfold jT;cases hl:E.ld with
 | none=>simp
 | some x =>
  obtain ⟨C,s⟩:=x;have:=(h.ld C s hl).2.2;unfold qas at this;dsimp only;omega
theorem q27 (h:Inv0 B E) (hB:B<=120000) (h0:0<=E.quota) (hok:StOk n E.S):((jT E:Int)<=E.quota/\(E.reserve 0).2=0/\Inv B (E.reserve 0).1)\/(E.quota<(jT E:Int)/\E.reserve 0=(E,6)):=by
 rcases qor h.q h0 (h.held hB) with ⟨h1,h2⟩ | h2
 ·left;rw [h2];have hq:=h.q;have hok':StOk n ({ E.S with res:=(jT E:Int) }:St):=Vm hok _;have hqq:=(VZ (jT E:Int) E.S.L.length ({ E.S with res:=(jT E:Int) }:St) []).1;refine ⟨h1,rfl,⟨qw5 h.here λk hk hn=>q2o _ _ k hk hn,hqq.trans hq,λC s e=>?_⟩⟩;obtain ⟨a,b,c⟩:=h.ld C s e;refine ⟨a,b,c,?_⟩;have hu:=qmt (n:=(jT E:Int)) (by omega) E.S.L.length (S:=({ E.S with res:=(jT E:Int) }:St)) (G:=[]) hok' (by show (jT E:Int)<=E.S.quota;omega) (le_refl _);have hu:(({ E.S with res:=(jT E:Int) }:St).room (jT E)).1.used<=E.S.quota-jT E:=hu;have hhe:jT E=s.b.length:=by
   unfold jT;rw [show E.ld=some (C,s) from e]
  show (s.b.length:Int)+(({ E.S with res:=(jT E:Int) }:St).room (jT E)).1.used<=E.quota;omega
 ·exact .inr h2
theorem Inv0.idle (h:Inv0 B E):Inv B E.idle:=⟨h.here,h.q,qza.none rfl⟩
theorem q1u {S:St} {k:qb} {id:Int} {v:qh} (h:(Zw S k id v).2=0):(Zw S k id v).1.Image=id:=by
 unfold Zw at h ⊢;split
 ·rename_i h1;rw [if_pos h1] at h;cases h
 ·rename_i h1;rw [if_neg h1] at h;split
  ·rename_i h2;rw [if_pos h2] at h;cases h
  ·rfl
theorem qq0 (k:qb) {id:Int} (v:qh) (h:zar E.T E.S) (hid:qgf E.S id):zar (zZ E k id v).1.T E.S/\(zZ E k id v).1.S=E.S/\(zZ E k id v).1.ld=E.ld/\(zZ E k id v).1.quota=E.quota/\(zZ E k id v).1.first=E.first:=by
 unfold zZ;split
 ·rename_i hp;split
  ·refine ⟨λp hp'=>?_,rfl,rfl,rfl,rfl⟩;rcases mem_append.1 hp' with h1 | h1
   ·exact h p (List.mem_filter.1 h1).1
   ·rw [mem_singleton] at h1;rw [h1,q1u hp];exact hid
  ·exact ⟨h,rfl,rfl,rfl,rfl⟩
 ·exact ⟨h,rfl,rfl,rfl,rfl⟩
theorem zan (k:qb) {id:Int} (v:qh) (h:Inv0 B E) (hid:qgf E.S id):Inv0 B (zZ E k id v).1:=by
 obtain ⟨h1,h2,h3,h4,h5⟩:=qq0 k v h.here hid;refine ⟨by rw [h2];exact h1,by rw [h2,h4];exact h.q,λC s e=>?_⟩;rw [h3] at e;rw [h5];exact h.ld C s e
theorem q7a {S:St} {id:Int} {m:Nat} {k:Int} (h:qgf S k) (hne:id≠0->k≠id) (hk:k ∉ (S.putPre id m).2):qgf (S.putPre id m).1 k:=by
 refine q2o (qlj S id) m k ?_ hk;unfold qlj;split
 ·exact h
 ·rename_i h0;obtain ⟨x,hx⟩:=h;exact ⟨x,(Zb _ _ _).2 ⟨hne h0,hx⟩⟩
theorem qy2 (S:St) (id:Int) (m:Nat):(S.putPre id m).1.quota=S.quota:=by
 have h:=(VZ (m:Int) (qlj S id).L.length (qlj S id) []).1;have e:(qlj S id).quota=S.quota:=by
  unfold qlj;split<;>rfl
 exact h.trans e
theorem q1d {S:St} (hok:StOk n S) {id num W H:Int} {P:Slc} {bs:List UInt8} (i:Int) {k:Int} (h:qgf (S.putPre id bs.length).1 k\/k=i):qgf ((S.putPre id bs.length).1.putAt i num W H P bs) k:=by
 have hpk:StOk n (S.putPre id bs.length).1:=KU _ _ (q0d hok id);by_cases e:k=i
 ·exact ⟨_,(zB hpk.srt _ _ _ _).2 (.inl ⟨e,rfl⟩)⟩
 ·rcases h with ⟨x,hx⟩ | h
  ·exact ⟨x,(zB hpk.srt _ _ _ _).2 (.inr ⟨e,hx⟩)⟩
  ·exact absurd h e
theorem zd7 (hok:StOk n E.S) (k:qb) (W H:Int) (bs:List UInt8) (P:Slc) (v:qh) (h:Inv0 B E):Inv0 B (YH E k W H bs P v).1:=by
 unfold YH;split
 ·exact h
 ·have hkept:Inv0 B (qhg E k W H bs P):=by
   refine ⟨qw5 h.here λj hj hn=>q1d hok _ ?_,(qy2 _ _ _).trans h.q,h.ld⟩;rw [mem_append,mem_singleton,not_or] at hn;refine .inl (q7a hj (λh0=>?_) hn.1);have:idK E k bs=k.Id:=by
    unfold idK Xr;rw [if_neg h0]
   rw [<-this];exact hn.2
  split
  ·exact hkept
  ·exact zan _ v hkept (q1d hok _ (.inr rfl))
theorem Inv0.inv (h:Inv0 B E) (hl:E.ld=none):Inv B E:=⟨h.here,h.q,qza.none hl⟩
theorem q2s (C:LdK):∀(ts:List UInt8) (s:LdS),qas (vr C s ts)<=qas s+3*ts.length
 | [],s=>le_refl _
 | c::ts,s=>by
  have h1:=q2s C ts (qok C s c);have h2:=q1o C s c;have e:vr C s (c::ts)=vr C (qok C s c) ts:=rfl;rw [e,length_cons];omega
theorem qx9 (C:LdK):∀(ts:List UInt8) (s:LdS),(vr C s ts).over=s.over
 | [],s=>rfl
 | c::ts,s=>(qx9 C ts (qok C s c)).trans (qyf C s c)
theorem zer {S:St} {m:Int} (h:(zaj S m).2=true):qgf S (zaj S m).1:=by
 unfold zaj at h ⊢;split
 ·rename_i hx;rw [dif_pos hx] at h;rcases hx.choose_spec with ⟨h1,_⟩ | ⟨_,x,hx1,_⟩
  ·rw [h1] at h;cases h
  ·exact ⟨x,hx1⟩
 ·rename_i hx;rw [dif_neg hx] at h;cases h
theorem q87 {S:St} (hok:StOk n S) {k:qb} (h:(j7 S k).2=true):qgf S (j7 S k).1:=by
 unfold j7 at h ⊢;split
 ·rename_i h1;rw [if_pos h1] at h;exact zer h
 ·rename_i h1;rw [if_neg h1] at h;obtain ⟨x,hx⟩:=Option.isSome_iff_exists.1 h;exact ⟨x,(zG hok.srt).1 hx⟩
theorem zfp {S:St} (hok:StOk n S) (id:Int) {k:Int} (h:qgf S k):qgf (S.use id) k:=by
 unfold St.use;split
 ·by_cases e:k=id
  ·exact ⟨_,(zB hok.srt _ _ _ _).2 (.inl ⟨e,rfl⟩)⟩
  ·obtain ⟨y,hy⟩:=h;exact ⟨y,(zB hok.srt _ _ _ _).2 (.inr ⟨e,hy⟩)⟩
 ·exact h
theorem zcf (hok:StOk n E.S) (hl:E.ld=none) (k:qb) (v:qh) (h:Inv B E):Inv B (qdi E k v).1/\(qdi E k v).1.quota=E.quota:=by
 unfold qdi;split
 ·exact ⟨h,rfl⟩
 ·rename_i hn;have hn:(j7 E.S k).2=true:=by
   cases hh:(j7 E.S k).2 with
   | true=>rfl
   | false=>exact absurd hh hn
  have hid:=q87 hok hn;generalize (j7 E.S k).1=id at *;obtain ⟨h1,h2,h3,h4,h5⟩:=qq0 { k with Id:=id } v h.here hid;split
  ·refine ⟨⟨λp hp=>?_,?_,qza.none (h3.trans hl)⟩,h4⟩
   ·show qgf ((zZ E { k with Id:=id } id v).1.S.use id) p.Image;rw [h2];exact zfp hok id (h1 p hp)
   ·show ((zZ E { k with Id:=id } id v).1.S.use id).quota=(zZ E { k with Id:=id } id v).1.quota;rw [h2,h4,<-h.q];unfold St.use;split<;>rfl
  ·exact ⟨⟨by rw [h2];exact h1,by rw [h2,h4];exact h.q,qza.none (h3.trans hl)⟩,h4⟩
end
structure Ord (S:St) (l:List Int):Prop where
 nd:l.Nodup
 mem:∀k,k∈l↔qgf S k
 srt:l.Pairwise λa b=>∀x y,(a,x)∈S.L->(b,y)∈S.L->x.v.stamp<y.v.stamp
 sz:∀p∈S.L,p.2.bs.length=16/\p.2.v.m.W=4/\p.2.v.m.H=1
section
variable {n:Nat} {S:St} {l:List Int}
theorem zhw {V:Type} {L:List (Int×V)} (h:Srt L):(L.map Prod.fst).Nodup:=by
 rw [List.nodup_iff_pairwise_ne,List.pairwise_map];exact h.imp λhlt e=>by omega
theorem Ord.len (h:Ord S l) (hs:Srt S.L):S.L.length=l.length:=by
 have hp:(S.L.map Prod.fst).Perm l:=by
  rw [List.perm_ext_iff_of_nodup (zhw hs) h.nd];intro a;rw [h.mem a,List.mem_map];constructor
  ·rintro ⟨p,hp,rfl⟩;exact ⟨p.2,hp⟩
  ·rintro ⟨x,hx⟩;exact ⟨_,hx,rfl⟩
 have:=hp.length_eq
 rwa [List.length_map] at this
theorem zbq:∀{L:List (Int×Im)},(∀p∈L,p.2.bs.length=16)->Jy L=16*L.length
 | [],_=>rfl
 | p::L,h=>by
  rw [xz,h p List.mem_cons_self,zbq λq hq=>h q (List.mem_cons_of_mem _ hq),length_cons];omega
theorem Ord.used (h:Ord S l) (hok:StOk n S):S.used=16*l.length:=by
 have h1:=hok.used;rw [zbq λp hp=>(h.sz p hp).1,h.len hok.srt] at h1;rw [h1];simp
theorem zbc (hok:StOk n S) {k:Int} {x y:Im} (hx:(k,x)∈S.L) (hy:(k,y)∈S.L):x=y:=by
 have h1:=(zG hok.srt).2 hx;have h2:=(zG hok.srt).2 hy;rw [h1] at h2;exact Option.some.inj h2
theorem Ord.eldest (h:Ord S l) (hok:StOk n S) {a:Int} {r:List Int} (hl:l=a::r):eldest S.L=a:=by
 subst hl;obtain ⟨x,hx⟩:=(h.mem a).1 List.mem_cons_self;refine qvy hok hx λq hq=>?_;obtain ⟨k,y⟩:=q;have hk:=(h.mem k).2 ⟨y,hq⟩;rcases mem_cons.1 hk with rfl | hk
 ·rw [zbc hok hx hq];exact Int.le_refl _
 ·have:=(List.pairwise_cons.1 h.srt).1 k hk x y hx hq;show x.v.stamp<=y.v.stamp;omega
theorem Ord.drop (h:Ord S l) {a:Int} {r:List Int} (hl:l=a::r):Ord (S.drop a) r:=by
 subst hl;have nd:=List.pairwise_cons.1 h.nd;refine ⟨nd.2,λk=>?_,((List.pairwise_cons.1 h.srt).2).imp λhab x y hx hy=>hab x y (kR hx) (kR hy),λp hp=>h.sz p (kR hp)⟩;constructor
 ·intro hk;obtain ⟨x,hx⟩:=(h.mem k).1 (List.mem_cons_of_mem _ hk);exact ⟨x,(Zb _ _ _).2 ⟨λe=>nd.1 k hk e.symm,hx⟩⟩
 ·rintro ⟨x,hx⟩;obtain ⟨h1,h2⟩:=(Zb _ _ _).1 hx;rcases mem_cons.1 ((h.mem k).2 ⟨x,h2⟩) with e | e
  ·exact absurd e h1
  ·exact e
theorem Ord.res (h:Ord S l) (r:Int):Ord { S with res:=r } l:=⟨h.nd,h.mem,h.srt,h.sz⟩
def QX (m:Nat) (l:List Int):List Int:=if l.length=m then l.tail else l
theorem q3a (h:Ord S l) (hok:StOk n S) {m:Nat} (hm:1<=m) (hq:S.quota=16*m) (hl:l.length<=m):Ord (S.room 16).1 (QX m l):=by
 have hu:=h.used hok;have hlen:=h.len hok.srt;unfold St.room QX;rw [hlen];cases hll:l with
 | nil =>
  rw [if_neg (by simp;omega)];rw [hll] at h;exact h
 | cons a r =>
  rw [hll] at hl hu hlen;rw [length_cons] at hl hu hlen;show Ord (St.roomF 16 (r.length+1) S []).1 (if r.length+1=m then r else a::r);unfold St.roomF;by_cases hc:r.length+1=m
  ·rw [if_pos (by rw [hu,hq];omega),if_pos hc,h.eldest hok hll];have hd:=h.drop hll;have hud:=hd.used (qbp hok a);have hqd:(S.drop a).quota=S.quota:=rfl;cases hr:r.length with
   | zero=>exact hd
   | succ k =>
    unfold St.roomF;rw [if_neg (by rw [hud,hqd,hq];omega)];exact hd
  ·rw [if_neg (by rw [hu,hq];omega),if_neg hc,<-hll];exact h
theorem qyl {m:Nat} (hl:l.length<=m) (hm:1<=m):(QX m l).length+1<=m:=by
 unfold QX;split
 ·rw [List.length_tail];omega
 ·omega
theorem qw3 {m:Nat} {k:Int} (h:k∈QX m l):k∈l:=by
 unfold QX at h;split at h
 ·exact List.mem_of_mem_tail h
 ·exact h
theorem zfc (h:Ord S l) (hok:StOk n S) {i num:Int} {P:Slc} {bs:List UInt8} (hi:i ∉ l) (hb:bs.length=16):Ord (S.putAt i num 4 1 P bs) (l++[i]):=by
 have hni:∀x,(i,x) ∉ S.L:=λx hx=>hi ((h.mem i).2 ⟨x,hx⟩);refine ⟨?_,λk=>?_,?_,λp hp=>?_⟩
 ·rw [List.nodup_append];exact ⟨h.nd,by simp,λa ha b hb e=>by rw [mem_singleton] at hb;subst hb;exact hi (e ▸ ha)⟩
 ·rw [mem_append,mem_singleton,h.mem k];constructor
  ·rintro (⟨x,hx⟩ | rfl)
   ·exact ⟨x,(zB hok.srt _ _ _ _).2 (.inr ⟨λe=>hni x (e ▸ hx),hx⟩)⟩
   ·exact ⟨_,(zB hok.srt _ _ _ _).2 (.inl ⟨rfl,rfl⟩)⟩
  ·rintro ⟨x,hx⟩;rcases (zB hok.srt _ _ _ _).1 hx with ⟨e,_⟩ | ⟨_,h2⟩
   ·exact .inr e
   ·exact .inl ⟨x,h2⟩
 ·rw [List.pairwise_append];refine ⟨h.srt.imp_of_mem λ{a b} ha hb hab x y hx hy=>?_,List.pairwise_singleton _ _,λa ha b hb x y hx hy=>?_⟩
  ·rcases (zB hok.srt _ _ _ _).1 hx with ⟨e,_⟩ | ⟨_,h2⟩
   ·exact absurd (e ▸ ha) hi
   ·rcases (zB hok.srt _ _ _ _).1 hy with ⟨e,_⟩ | ⟨_,h3⟩
    ·exact absurd (e ▸ hb) hi
    ·exact hab x y h2 h3
  ·rw [mem_singleton] at hb;subst hb;rcases (zB hok.srt _ _ _ _).1 hx with ⟨e,_⟩ | ⟨_,h2⟩
   ·exact absurd (e ▸ ha) hi
   ·rcases (zB hok.srt _ _ _ _).1 hy with ⟨_,e⟩ | ⟨h3,_⟩
    ·rw [e];have:=(hok.stamps _ h2).2;show x.v.stamp<S.clock+1;dsimp only at this;omega
    ·exact absurd rfl h3
 ·obtain ⟨k,x⟩:=p;rcases (zB hok.srt _ _ _ _).1 hp with ⟨_,e⟩ | ⟨_,h2⟩
  ·rw [e];exact ⟨hb,rfl,rfl⟩
  ·exact h.sz _ h2
def VH (l:List Int) (u:Int):List Int:=if u∈l then (l.filter λk=>k !=u)++[u] else l
theorem zfl (h:Ord S l) (hok:StOk n S) (u:Int):Ord (S.use u) (VH l u):=by
 unfold VH St.use;by_cases hu:u∈l
 ·obtain ⟨x,hx⟩:=(h.mem u).1 hu;rw [if_pos hu,(zG hok.srt).2 hx];dsimp only;have fm:∀{a:Int},a∈(l.filter λk=>k !=u)↔a∈l/\a≠u:=λ{a}=>by rw [List.mem_filter];simp
  refine ⟨?_,λk=>?_,?_,λp hp=>?_⟩
  ·rw [List.nodup_append];exact ⟨List.Pairwise.filter _ h.nd,by simp,λa ha b hb e=>by rw [mem_singleton] at hb;subst hb;exact (fm.1 ha).2 e⟩
  ·rw [mem_append,mem_singleton,fm];constructor
   ·rintro (⟨h1,h2⟩ | rfl)
    ·obtain ⟨y,hy⟩:=(h.mem k).1 h1;exact ⟨y,(zB hok.srt _ _ _ _).2 (.inr ⟨h2,hy⟩)⟩
    ·exact ⟨_,(zB hok.srt _ _ _ _).2 (.inl ⟨rfl,rfl⟩)⟩
   ·rintro ⟨y,hy⟩;rcases (zB hok.srt _ _ _ _).1 hy with ⟨e,_⟩ | ⟨h1,h2⟩
    ·exact .inr e
    ·exact .inl ⟨(h.mem k).2 ⟨y,h2⟩,h1⟩
  ·rw [List.pairwise_append];refine ⟨(h.srt.filter _).imp_of_mem λ{a b} ha hb hab y z hy hz=>?_,List.pairwise_singleton _ _,λa ha b hb y z hy hz=>?_⟩
   ·rcases (zB hok.srt _ _ _ _).1 hy with ⟨e,_⟩ | ⟨_,h2⟩
    ·exact absurd e (fm.1 ha).2
    ·rcases (zB hok.srt _ _ _ _).1 hz with ⟨e,_⟩ | ⟨_,h3⟩
     ·exact absurd e (fm.1 hb).2
     ·exact hab y z h2 h3
   ·rw [mem_singleton] at hb;subst hb;rcases (zB hok.srt _ _ _ _).1 hy with ⟨e,_⟩ | ⟨_,h2⟩
    ·exact absurd e (fm.1 ha).2
    ·rcases (zB hok.srt _ _ _ _).1 hz with ⟨_,e⟩ | ⟨h3,_⟩
     ·rw [e];have:=(hok.stamps _ h2).2;show y.v.stamp<S.clock+1;dsimp only at this;omega
     ·exact absurd rfl h3
  ·obtain ⟨k,y⟩:=p;rcases (zB hok.srt _ _ _ _).1 hp with ⟨_,e⟩ | ⟨_,h2⟩
   ·rw [e];show x.bs.length=16/\x.v.m.W=4/\x.v.m.H=1;exact h.sz (u,x) hx
   ·exact h.sz _ h2
 ·rw [if_neg hu];cases hl:zp S.L u with
  | none=>exact h
  | some x=>exact absurd ((h.mem u).2 ⟨x,(zG hok.srt).1 hl⟩) hu
end
def qsy (n:Nat):List UInt8:=if n<10 then [UInt8.ofNat (48+n)] else [UInt8.ofNat (48+n/10),UInt8.ofNat (48+n%10)]
def z16:List UInt8:=List.replicate 16 0
def qfc:List UInt8:=List.replicate 22 65++[61,61]
def kN (i:Nat):List UInt8:=[97,61,116,44,105,61]++qsy i++[44,115,61,52,44,118,61,49,44,109,61,48,59]++qfc
def y3 (i:Nat):List UInt8:=[97,61,112,44,105,61]++qsy i++[44,67,61,49,59]
def kS (i:Int):qb:=⟨116,100,0,97,0,32,4,1,i,0,0,0,0,0,0,0,0,0,0,0,0,0⟩
def kP (i:Int):qb:=⟨112,100,0,97,0,32,0,0,i,0,0,0,0,0,0,0,0,0,0,0,0,1⟩
theorem zbt {i:Nat} (h:1<=i/\i<=12):i=1\/i=2\/i=3\/i=4\/i=5\/i=6\/i=7\/i=8\/i=9\/i=10\/i=11\/i=12:=by omega
theorem qu3 {i:Nat} (h:1<=i/\i<=12):y4 (yw 59 (kN i))=(toL (kS i),0)/\X4 59 (kN i)=qfc:=by
 rcases zbt h with rfl | rfl | rfl | rfl | rfl | rfl | rfl | rfl | rfl | rfl | rfl | rfl<;>exact ⟨by kernel_rfl,by kernel_rfl⟩
theorem q6o {i:Nat} (h:1<=i/\i<=12):y4 (yw 59 (y3 i))=(toL (kP i),0)/\X4 59 (y3 i)=[]:=by
 rcases zbt h with rfl | rfl | rfl | rfl | rfl | rfl | rfl | rfl | rfl | rfl | rfl | rfl<;>exact ⟨by kernel_rfl,by kernel_rfl⟩
theorem zf9 {i:Nat} (h:1<=i/\i<=12):kO (kN i)=kS i:=by unfold kO;rw [(qu3 h).1];rfl
theorem zf5 {i:Nat} (h:1<=i/\i<=12):kO (y3 i)=kP i:=by unfold kO;rw [(q6o h).1];rfl
theorem zg2 {i:Nat} (h:1<=i/\i<=12):CmdOk (kN i)/\(kO (kN i)).More≠1:=by
 refine ⟨⟨by rw [(qu3 h).1],?_,?_⟩,?_⟩
 all_goals rw [zf9 h]
 ·exact ⟨by show (32:Int)≠100;omega,by show (0:Int)≠122;omega⟩
 ·exact .inl rfl
 ·show (0:Int)≠1;omega
theorem zha {i:Nat} (h:1<=i/\i<=12):CmdOk (y3 i)/\(kO (y3 i)).More≠1:=by
 refine ⟨⟨by rw [(q6o h).1],?_,?_⟩,?_⟩
 all_goals rw [zf5 h]
 ·exact ⟨by show (32:Int)≠100;omega,by show (0:Int)≠122;omega⟩
 ·exact .inr (.inr (.inr rfl))
 ·show (0:Int)≠1;omega
structure Ld16 (C:LdK):Prop where
 err:(vr C ld0 qfc).err=0
 n:(vr C ld0 qfc).b.length=16
 res:qm8 C (vr C ld0 qfc)=(0,4,1,z16)
theorem zin (i:Int) {m:Nat} (h:1<=m/\m<=8):Ld16 ⟨kS i,16*m,16⟩:=by
 have h:m=1\/m=2\/m=3\/m=4\/m=5\/m=6\/m=7\/m=8:=by omega
 rcases h with rfl | rfl | rfl | rfl | rfl | rfl | rfl | rfl<;>exact ⟨by kernel_rfl,by kernel_rfl,by kernel_rfl⟩
structure QInv (m n:Nat) (E:KE) (l:List Int):Prop where
 ok:StOk n E.S
 ord:Ord E.S l
 q:E.quota=16*m
 inv:Inv 0 E
 ld:E.ld=none
section
variable {n m:Nat} {E:KE} {S:St} {l:List Int}
theorem q98 (h:Ord S l) {i:Int} (hi:i ∉ l):Ord (S.drop i) l:=by
 refine ⟨h.nd,λk=>?_,h.srt.imp λhab x y hx hy=>hab x y (kR hx) (kR hy),λp hp=>h.sz p (kR hp)⟩;constructor
 ·intro hk;obtain ⟨x,hx⟩:=(h.mem k).1 hk;exact ⟨x,(Zb _ _ _).2 ⟨λe=>hi (e ▸ hk),hx⟩⟩
 ·rintro ⟨x,hx⟩;exact (h.mem k).2 ⟨x,kR hx⟩
theorem zdl (hl:l.length+1<=m):QX m l=l:=by
 unfold QX;rw [if_neg (by omega)]
theorem zh7 (h:QInv m n E l) (hm:1<=m/\m<=8) {i:Nat} (hi:1<=i/\i<=12) (hn:(i:Int) ∉ l) (hl:l.length<=m) (hk:n<=1000) (P:Slc) (v:qh) :
  (doK E (kN i) P v).2=ZQ (kS i) 0 []/\(StOk (n+2) (doK E (kN i) P v).1.S->(doK E (kN i) P v).1.ld=none->QInv m (n+2) (doK E (kN i) P v).1 (QX m l++[(i:Int)])):=by
 have hL:=zin (i:Int) hm;have hq:=h.q;have hSq:E.S.quota=16*m:=h.inv.q.trans hq;have eq:E.quota.toNat=16*m:=by rw [hq];omega
 have e0:doK E (kN i) P v=qam E (kS i) qfc P v:=by
  unfold doK goK;rw [zf9 hi,(qu3 hi).2,if_neg (by show ¬(116:Int)=112;omega)]
 have e1:qpt (kS i) E.quota=0:=by
  unfold qpt;rw [if_neg (by omega),if_neg (by show ¬((ve (kS i)).1≠0);exact λh=>h rfl),if_neg (by rintro ⟨_,h2⟩;have h2:(4:Int)*4*1>E.quota:=h2;omega)]
 have eC:qsk E (kS i)=⟨kS i,16*m,16⟩:=by
  have e16:(ve (kS (i:Int))).2=16:=by kernel_rfl
  unfold qsk;rw [eq,e16]
 have e2:qam E (kS i) qfc P v=VF (qsr E (kS i)) ⟨kS i,16*m,16⟩ ld0 (kS i) qfc P v:=by
  unfold qam;rw [if_neg (λhh=>hh e1),eC]
 have hI0:Inv0 0 (qsr E (kS i)):=by
  refine ⟨h.inv.here,h.inv.q,λC s e=>?_⟩;cases e;exact ⟨rfl,by have:=qfq (yw 59 (kN i));rw [(qu3 hi).1] at this;exact this,le_refl _⟩
 have hI1:Inv0 72 (qgd (qsr E (kS i)) ⟨kS i,16*m,16⟩ ld0 qfc):=by
  refine ⟨h.inv.here,h.inv.q,λC s e=>?_⟩;cases e;refine ⟨(qx9 _ _ _).trans rfl,(hI0.ld _ _ rfl).2.1,?_⟩;have:=q2s ⟨kS i,16*m,16⟩ qfc ld0;have:qas ld0=0:=rfl;have:qfc.length=24:=rfl;omega
 have hh:jT (qgd (qsr E (kS i)) ⟨kS i,16*m,16⟩ ld0 qfc)=16:=hL.n;have hr:=qor (E:=qgd (qsr E (kS i)) ⟨kS i,16*m,16⟩ ld0 qfc) h.inv.q (by show 0<=E.quota;omega) (by rw [hh];omega);rw [hh] at hr;have hr:=hr.resolve_right (λhb=>by have h1:E.quota<((16:Nat):Int):=hb.1;omega);obtain ⟨_,hr⟩:=hr;obtain ⟨E2,hE2⟩:∃E2,E2=((qgd (qsr E (kS i)) ⟨kS i,16*m,16⟩ ld0 qfc).reserve 0).1:=⟨_,rfl⟩;have hI2:Inv 72 E2:=by
  rcases q27 hI1 (by omega) (by show 0<=E.quota;omega) (n:=n) h.ok with ⟨_,_,h3⟩ | ⟨h1,_⟩
  ·rw [hE2];exact h3
  ·rw [hh] at h1;have h1:E.quota<((16:Nat):Int):=h1;omega
 have hS2:E2.S=(({ E.S with res:=16 }:St).room 16).1:=by rw [hE2,hr];rfl
 have hq2:E2.quota=E.quota:=by rw [hE2,hr];rfl
 have o2:Ord E2.S (QX m l):=by
  rw [hS2];exact q3a (h.ord.res 16) (Vm h.ok 16) hm.1 hSq hl
 have k2:StOk n E2.S:=by
  rw [hS2];exact KU _ _ (Vm h.ok 16)
 have hl2:=qyl hl hm.1;have hSq2:E2.S.quota=16*m:=hI2.q.trans (hq2.trans hq);have e3:VF (qsr E (kS i)) ⟨kS i,16*m,16⟩ ld0 (kS i) qfc P v=qqi E2 ⟨kS i,16*m,16⟩ (vr ⟨kS i,16*m,16⟩ ld0 qfc) (kS i) P v:=by
  unfold VF;rw [if_neg (λhh=>hh hL.err),hr];rw [if_neg (λhh=>hh rfl),if_neg (by show ¬(0:Int)=1;omega)];rw [hr] at hE2;rw [hE2];rfl
 have e4:qqi E2 ⟨kS i,16*m,16⟩ (vr ⟨kS i,16*m,16⟩ ld0 qfc) (kS i) P v=YH E2.idle (kS i) 4 1 z16 P v:=by
  unfold qqi;rw [hL.res];rw [if_neg (by rintro (h1 | h1);exact h1 rfl;have h1:(116:Int)=113:=h1;omega)];rfl
 have hni:(i:Int)≠0:=by omega
 have hpe:Vi E2.idle.S (i:Int) 0 4 1 z16.length=0:=by
  unfold Vi;have h1:(qp0 4 1 z16.length && !((4:Int)==0) && qan (i:Int) && qan 0)=true:=by
   have:qan (i:Int)=true:=by unfold qan;rw [dTq (by omega),dTq (by omega)];rfl
   rw [this];rfl
  rw [if_pos h1,if_neg (by show ¬((16:Nat):Int)>E2.S.quota;omega)]
 have e5:YH E2.idle (kS i) 4 1 z16 P v=(qhg E2.idle (kS i) 4 1 z16 P,ZQ (kS i) 0 []):=by
  unfold YH;rw [if_neg (λhh=>hh hpe),if_pos (by show (116:Int)≠84;omega)];have:kK E2.idle (kS i) z16=kS i:=by unfold kK;rw [if_neg (λhh=>hni hh.1)]
  rw [this]
 have hall:=e0.trans (e2.trans (e3.trans (e4.trans e5)));have hid:idK E2.idle (kS i) z16=i:=by unfold idK Xr;rw [if_neg (show ¬(kS i).Id=0 from hni)];rfl
 have hin:(i:Int) ∉ QX m l:=λhh=>hn (qw3 hh);have hkI:=zd7 (n:=n) (E:=E2.idle) (Vm k2 0) (kS i) 4 1 z16 P v hI2.inv0.idle.inv0;rw [e5] at hkI;rw [hall];dsimp only;refine ⟨rfl,λhok hld=>⟨hok,?_,hq2.trans hq,hkI.inv hld |> λh=>⟨h.here,h.q,qza.none hld⟩,hld⟩⟩;show Ord ((E2.idle.S.putPre (kS i).Id z16.length).1.putAt (idK E2.idle (kS i) z16) (kS i).Number 4 1 P z16) _;rw [hid];have hpp:E2.idle.S.putPre (kS i).Id z16.length=(({ E2.S with res:=0 }:St).drop i).room 16:=by
  unfold St.putPre;rw [if_neg (show ¬(kS i).Id=0 from hni)];rfl
 rw [hpp];have o3:=q98 (o2.res 0) hin;have k3:=qbp (Vm k2 0) (i:Int);have o4:=q3a o3 k3 (m:=m) hm.1 hSq2 (by omega);rw [zdl hl2] at o4;exact zfc o4 (KU _ _ k3) hin rfl
def v33:qh:=⟨⟨false,0,3,3,0,0⟩,2,2⟩
def q13 (i:Nat):Pl:=⟨i,0,false,0,0,1,2,0,0,4,1,0,0,0⟩
theorem q40 {i:Nat} (hi:1<=i/\i<=12) {P:Slc} (hm:qlo S i=⟨4,1,P⟩):Zw S (kP i) i v33=(q13 i,0)/\qtk (q13 i)=true:=by
 unfold Zw;rw [hm];rcases zbt hi with rfl | rfl | rfl | rfl | rfl | rfl | rfl | rfl | rfl | rfl | rfl | rfl<;>exact ⟨by kernel_rfl,by kernel_rfl⟩
theorem zh8 (h:QInv m n E l) {i:Nat} (hi:1<=i/\i<=12) (P:Slc) :
  ((doK E (y3 i) P v33).2=ZQ (kP i) 7 []\/(doK E (y3 i) P v33).2=q0e (kP i) (q13 i))/\(StOk (n+2) (doK E (y3 i) P v33).1.S->(doK E (y3 i) P v33).1.ld=none->QInv m (n+2) (doK E (y3 i) P v33).1 (VH l i)):=by
 have hni:(i:Int)≠0:=by omega
 have e0:doK E (y3 i) P v33=qdi E (kP i) v33:=by
  unfold doK goK;rw [zf5 hi,if_pos (show (kP (i:Int)).Action=112 from rfl)]
 have en:j7 E.S (kP i)=((i:Int),(zp E.S.L i).isSome):=by
  unfold j7;rw [if_neg (show ¬(kP i).Id=0 from hni)];rfl
 have hs:=zcf h.ok h.ld (kP i) v33 h.inv;rw [e0];have e1:qdi E (kP i) v33=if (zp E.S.L i).isSome=false then (E,ZQ (kP i) 7 []) else if (zZ E (kP i) i v33).2.2 then ({ (zZ E (kP i) i v33).1 with S:=(zZ E (kP i) i v33).1.S.use i },(zZ E (kP i) i v33).2.1) else ((zZ E (kP i) i v33).1,(zZ E (kP i) i v33).2.1):=by
  unfold qdi;rw [en];rfl
 cases hx:zp E.S.L i with
 | none =>
  have hu:VH l i=l:=by
   unfold VH;rw [if_neg λhh=>?_];obtain ⟨x,hx2⟩:=(h.ord.mem _).1 hh;rw [(zG h.ok.srt).2 hx2] at hx;cases hx
  rw [hx] at e1;have e1:qdi E (kP i) v33=(E,ZQ (kP i) 7 []):=e1;rw [e1];rw [hu];exact ⟨.inl rfl,λhok hld=>⟨hok,h.ord,h.q,h.inv,h.ld⟩⟩
 | some x =>
  have hm:=h.ord.sz _ ((zG h.ok.srt).1 hx);have hma:qlo E.S i=⟨4,1,x.v.m.P⟩:=by
   unfold qlo;rw [hx];obtain ⟨⟨num,⟨W,H,P⟩,st,bo⟩,bs⟩:=x;obtain ⟨_,h1,h2⟩:=hm;dsimp only at h1 h2;subst h1 h2;rfl
  obtain ⟨p1,p2⟩:=q40 hi hma;have es:zZ E (kP i) i v33=(zfk E (q13 i),q0e (kP i) (q13 i),true):=by
   unfold zZ;rw [p1];dsimp only;rw [if_pos rfl,if_pos p2]
  rw [hx,es] at e1;have e1:qdi E (kP i) v33=({ zfk E (q13 i) with S:=(zfk E (q13 i)).S.use i },q0e (kP i) (q13 i)):=e1;rw [e1] at hs ⊢;exact ⟨.inr rfl,λhok hld=>⟨hok,zfl h.ord h.ok i,h.q,hs.1,hld⟩⟩
theorem quq {k:qb} (hw:VX (toL k)) (x:Int):(qvi k x []).length<=300:=by
 unfold qvi qne;have hc:(q45 x).length<=10:=by
  unfold q45
  repeat' split
  all_goals decide
 rw [if_pos rfl];split
 ·exact zero_le _
 ·have hj:=(qyd hw).2;simp only [length_append,length_cons,length_nil];omega
end
def zih (v:Nat):UInt8:=qvz.getD v 0
def zca (x:List UInt8):Nat:=((x.getD 0 0).toNat*256+(x.getD 1 0).toNat)*256+(x.getD 2 0).toNat
def q89 (x:List UInt8) (i:Nat):UInt8:=if i>x.length then 61 else zih (zca x/2^(18-6*i)%64)
def qob (x:List UInt8):List UInt8:=(List.range 4).map (q89 x)
def QE:List UInt8->List UInt8
 | []=>[]
 | [a]=>qob [a]
 | [a,b]=>qob [a,b]
 | a::b::c::r=>qob [a,b,c]++QE r
theorem qjr (x:List UInt8):(qob x).length=4:=by simp [qob]
theorem qtj:∀(n:Nat) (bs:List UInt8),bs.length<=n->3*(QE bs).length<=4*bs.length+8
 | n,[],_=>by simp [QE]
 | n,[a],_=>by rw [QE,qjr];simp
 | n,[a,b],_=>by rw [QE,qjr];simp
 | 0,a::b::c::r,hn=>by simp at hn
 | n+1,a::b::c::r,hn=>by
  have:=qtj n r (by simp at hn;omega);rw [QE,length_append,qjr];simp only [length_cons];omega
end Go.Proofs.YtokfefnmpjohpaaGreatDoor
namespace Go.Vc
def q7d (ops:List Oper):Bool:=ops.all λo=>match o.op with | .defer _=>false | _=>true
theorem qzr {ops:List Oper} (h:q7d ops=true) {o:Oper} (ho:o∈ops):∀c,o.op≠.defer c:=by
 intro c e;have:=List.all_eq_true.1 h o ho;rw [e] at this;cases this
def qzh:Code->Bool
 | .region _ ops _=>q7d ops.toList
 | .seq x y=>qzh x && qzh y
 | .loop c=>qzh c
 | .cond _ x y=>qzh x && qzh y
 | .block _ x=>qzh x
 | .scope _=>false
 | _=>true
section
variable {l n:Nat} {P:Program}
theorem zh4 {o:Oper} {a:Act} {w:World} {K:Act->Ub} {Q:Exit->Act->Ub} (hd:∀c,o.op≠.defer c) (h:o.wp P a w K Q):o.wpIn (Fence.wide.inRound l) n P a w K Q:=by
 refine ⟨λ_ _=>trivial,?_⟩;rw [show o.semAt (Fence.wide.inRound l).round a.eval=execOp a.eval o from Oper.semAt_some l _ _ hd];unfold Oper.wp at h;generalize (execOp a.eval o).run P w=r at h ⊢;unfold Oper.upon at h;unfold Oper.uponIn;split at h
 ·exact h
 ·exact h
 ·exact h
 ·exact ⟨λh=>by simp [Fence.wide] at h,CallsIn.inRound l (callsIn_wide.2 h)⟩
 ·refine ⟨λh=>by simp [Fence.wide] at h,?_⟩;intro c cs _;obtain ⟨v,w',r,s⟩:=h c cs;exact ⟨v,w',r,stepsIn_wide.2 s⟩
 ·exact h
 ·exact h.elim
theorem q5v {ops:Array Oper} {Q:Exit->Act->Ub} (hQ:¬LetsOut Q):∀(os:List Oper),(∀o∈os,∀c,o.op≠.defer c)->∀(a:Act) (w:World),wpList P ops Q os a w->wpListIn (Fence.wide.inRound l) n P ops Q os a w
 | [],_,a,w,h=>h
 | o::os,hd,a,w,h=>by
  unfold wpList at h;unfold wpListIn;split at h
  ·rename_i hw;rw [if_pos hw];rcases h with h | ⟨_,h⟩
   ·exact zh4 (hd o (by simp)) (Oper.wp_mono (λa' w' h=>q5v hQ os (λo ho=>hd o (by simp [ho])) a' w' h) h)
   ·exact absurd h hQ
  ·rename_i hw;rw [if_neg hw];exact ⟨λ_ _=>trivial,q5v hQ os (λo ho=>hd o (by simp [ho])) _ _ h⟩
theorem q71 {md:Region.Mode} {ops:Array Oper} {Q:Exit->Act->Ub} (hQ:¬LetsOut Q) (hd:∀o∈ops.toList,∀c,o.op≠.defer c):∀(k:Nat) (listed:Array Bool) (a:Act) (w:World),wpAny P md ops Q k listed a w->wpAnyIn (Fence.wide.inRound l) n P md ops Q k listed a w
 | 0,listed,a,w,h=>h
 | k+1,listed,a,w,h=>by
  refine ⟨h.1,λi hi=>?_⟩;have h2:=h.2 i hi;unfold wpOp at h2;unfold wpOpIn;cases ho:ops[i]? with
  | none =>
   rw [ho] at h2;exact q71 hQ hd k _ _ _ h2
  | some o =>
   rw [ho] at h2;dsimp only at h2 ⊢;have hm:o∈ops.toList:=by
    rw [<-Array.getElem?_toList] at ho;exact List.mem_of_getElem? ho
   split at h2
   ·rename_i hw;rw [if_pos hw];rcases h2 with h2 | ⟨_,h2⟩
    ·exact zh4 (hd o hm) (Oper.wp_mono (λa' w' h=>q71 hQ hd k _ a' w' h) h2)
    ·exact absurd h2 hQ
   ·rename_i hw;rw [if_neg hw];exact ⟨λ_ _=>trivial,q71 hQ hd k _ _ _ h2⟩
theorem qwt {F:Fence} {c:Code} {Q:Exit->Act->Ub} {a:Act} {w:World}
  (h:∀R:Act->Ub,(∀a w,c.wpIn F n P (Exit.then R Q) a w->R a w)->R a w):(Code.loop c).wpIn F n P Q a w:=by
 intro b k cs hro hb hr;have:=h (λa w=>∃e a' w',Q e a' w'/\ArrivesIn (Machine.fenced P F) P (lone (b.atR a (.code c::.inLoop c::k)) cs w) b k cs e a' w') (by
  intro a w hc;obtain ⟨e,a₁,w₁,hq,harr⟩:=hc b (.inLoop c::k) cs hro hb hr;cases e with
  | normal =>
   obtain ⟨e₂,a₂,w₂,hq₂,harr₂⟩:=hq;exact ⟨e₂,a₂,w₂,hq₂,.of_steps (StepsIn.trans harr (.one (fenced_calm hb hr rfl) stepR_inLoop)) harr₂⟩
  | exit id=>exact ⟨_,a₁,w₁,hq,.pass (x:=.inLoop c) rfl (λ_ _=>.inl (by simp)) harr⟩
  | goto l=>exact ⟨_,a₁,w₁,hq,.pass (x:=.inLoop c) rfl (λ_ _=>.inl (by simp)) harr⟩
  | ret=>exact ⟨_,a₁,w₁,hq,.pass (x:=.inLoop c) rfl (λ_ _=>.inl (by simp)) harr⟩
  | panic ch=>exact ⟨_,a₁,w₁,hq,.pass (x:=.inLoop c) rfl (λ_ _=>.inl (by simp)) harr⟩
  | outgrown=>exact ⟨_,a₁,w₁,hq,.pass (x:=.inLoop c) rfl (λ_ _=>.inl (by simp)) harr⟩)
 obtain ⟨e,a',w',hq,harr⟩:=this;exact ⟨e,a',w',hq,.of_steps (.one (fenced_calm hb hr rfl) stepR_loop) harr⟩
end
def qo4:List Ann->Bool
 | []=>true
 | .dag _ _ _::_=>false
 | _::r=>qo4 r
theorem Zy:∀(k:Nat) {l:List Ann},qo4 l=true->qo4 (l.drop k)=true
 | 0,l,h=>h
 | k+1,[],h=>h
 | k+1,.none::l,h=>Zy k (l:=l) h
 | k+1,.join _ _::l,h=>Zy k (l:=l) h
 | k+1,.jn _::l,h=>Zy k (l:=l) h
 | k+1,.dag _ _ _::l,h=>by cases h
theorem qrb {W:List Nat} {a0:Act} {Q:X->Fr->Ub}:¬LetsOut (qar W a0 Q):=λ⟨_,_,h⟩=>h
theorem q4d {C:Cx} (hp:∀g,C.plain g=true->vD C.P g=true) (hm:C.P.follows .mixedOrders=true) {l n:Nat} :
  ∀(c:Code),qzh c=true->∀(ann:List Ann),qo4 ann=true->∀(Q:X->Fr->Ub) (fr:Fr) (a:Act) (w:World),Agree fr a->vc C c ann Q fr w->c.wpIn (Fence.wide.inRound l) n C.P (qar (zm c) a Q) a w:=by
 intro c
 induction c with
 | skip=>intro _ ann hd Q fr a w ha h;exact wpIn_skip ⟨fr,ha,.refl _ _,h⟩
 | region id ops draw =>
  intro hok ann hd Q fr a w ha h;have hdf:∀o∈ops.toList,∀c,o.op≠.defer c:=λo ho=>qzr (by exact hok) ho;cases draw with
  | false =>
   obtain ⟨h1,h⟩:=xj h;refine wpIn_region_list ?_;have e:ops=ops.toList.toArray:=by simp
   rw [e];exact q5v qrb ops.toList hdf _ _ (qrm hp (by rw [<-e];exact YF h1) (W:=qsu ops.toList) (a0:=a) (λa w h=>h) ops.toList (λo ho=>⟨ho,λd hd=>qc8 ho hd⟩) fr a w ha (.refl _ _) h)
  | true =>
   obtain ⟨h1,h⟩:=xj h;rw [Bool.and_eq_true] at h1;refine wpIn_region_any hm ?_;have e:ops=ops.toList.toArray:=by simp
   have hn:Region.noSelect ops.toList.toArray=true:=by rw [<-e];exact YF h1.1
   have hdn:Dn ops.toList (List.replicate ops.toList.length false):=by
    intro j o ho hl;rw [List.getD_eq_getElem?_getD] at hl;by_cases hj:j<ops.toList.length
    ·rw [List.getElem?_replicate_of_lt hj] at hl;simp at hl
    ·rw [List.getElem?_eq_none (by simpa using hj)] at hl;simp at hl
   have:=q71 (l:=l) (n:=n) qrb (by simpa using hdf) _ _ _ _ (q0c _ _ _ _ (qxa hp hn h1.2 (W:=qsu ops.toList) (a0:=a) (Q:=qar (qsu ops.toList) a Q) (λa w h=>h) (λc a w h=>h) (λo ho d hd=>qc8 ho hd)
    ops.toList.length (List.replicate ops.toList.length false) fr a w.drew [] ha (.refl _ _) hdn h))
   rw [<-e] at this;simpa [zm] using this
 | seq x y ihx ihy =>
  intro hok ann hd Q fr a w ha h;rw [qzh,Bool.and_eq_true] at hok;unfold vc at h;refine wpIn_seq ?_;have hx:∀i,i∈zm x->i∈zm (.seq x y):=λi hi=>by simp [zm,hi]
  have hy:∀i,i∈zm y->i∈zm (.seq x y):=λi hi=>by simp [zm,hi]
  have S:∀(m m':List Ann),qo4 m=true->qo4 m'=true->vc C x m (λe fr w=>match e with | .normal=>vc C y m' Q fr w | e=>Q e fr w) fr w->x.wpIn (Fence.wide.inRound l) n C.P (Exit.then (y.wpIn (Fence.wide.inRound l) n C.P (qar (zm (.seq x y)) a Q)) (qar (zm (.seq x y)) a Q)) a w :=
   λm m' d d' h=>wpIn_mono (ihx hok.1 m d _ fr a w ha h) (qee hx λfr1 a1 w1 ha1 hk1 hq=>wpIn_mono (ihy hok.2 m' d' Q fr1 a1 w1 ha1 hq) (XU (hk1.mono hx) hy))
  have J:∀(ks:Ks) (W:List Nat) (m:List Ann),qo4 m=true->(∀i,i∈zm x->i∈W)->∀fr1 a1 w1,Agree fr1 a1->Keep (zm x) a a1->qmh ks (λs w=>vc C y m Q (head ks W fr s) w) fr1 w1->y.wpIn (Fence.wide.inRound l) n C.P (qar (zm (.seq x y)) a Q) a1 w1:=by
   intro ks W m d hsub fr1 a1 w1 ha1 hk1 hq;unfold qmh at hq;split at hq
   ·rename_i s hs;exact wpIn_mono (ihy hok.2 _ d Q _ a1 w1 (XQ ha1 (vI ha (hk1.mono hsub) ha1.nod) hs) hq) (XU (hk1.mono hx) hy)
   ·exact hq.elim
  split at h
  ·rename_i r;exact S r (r.drop (cnt x)) (show qo4 r=true from hd) (Zy (l:=r) _ hd) h
  ·rename_i ks W r;obtain ⟨hsub,h⟩:=xj h;exact wpIn_mono (ihx hok.1 r hd _ fr a w ha (h _ λ_ _ h=>h)) (qee hx (J ks W _ (Zy (l:=r) _ hd) (qj0 hsub)))
  ·cases hd
  ·rename_i ks r;exact wpIn_mono (ihx hok.1 r hd _ fr a w ha (h _ λ_ _ h=>h)) (qee hx (J ks (zm x) _ (Zy (l:=r) _ hd) λi hi=>hi))
  ·exact S _ _ rfl rfl h
 | cond c x y ihx ihy =>
  intro hok ann hd Q fr a w ha h;rw [qzh,Bool.and_eq_true] at hok;unfold vc at h;split at h
  ·rename_i b hb;have hc:=ha.ev hb;cases b with
   | true=>exact wpIn_cond_true hc (wpIn_mono (ihx hok.1 _ hd Q fr a w ha h) (XU (.refl _ _) λi hi=>by simp [zm,hi]))
   | false=>exact wpIn_cond_false hc (wpIn_mono (ihy hok.2 _ (Zy _ hd) Q fr a w ha h) (XU (.refl _ _) λi hi=>by simp [zm,hi]))
  ·exact h.elim
 | block id x ih =>
  intro hok ann hd Q fr a w ha h;unfold vc at h;exact wpIn_block (wpIn_mono (ih hok ann hd _ fr a w ha h) qty)
 | loop c ih =>
  intro hok ann hd Q fr a w ha h;unfold vc at h;have L:∀(ks:Ks) (W:List Nat) (r:List Ann) (s0:Den ks),qo4 r=true->(∀i,i∈zm c->i∈W)->qra ks fr=some s0->zl (λI s w=>vc C c r (λe fr' w'=>match e with | .normal=>qmh ks I fr' w' | e=>Q e fr' w') (head ks W fr s) w) s0 w->(Code.loop c).wpIn (Fence.wide.inRound l) n C.P (qar (zm (.loop c)) a Q) a w:=by
   intro ks W r s0 hd hsub hs0 h;refine qwt λR hR=>?_;have key:=h (λs w=>∀a',Agree (head ks W fr s) a'->Keep (zm c) a a'->R a' w) (by
    intro s w1 hb a1 ha1 hk1;refine hR a1 w1 (wpIn_mono (ih hok r hd _ _ a1 w1 ha1 hb) ?_);intro e a2 w2 hq;cases e with
    | normal =>
     obtain ⟨fr2,ha2,hk2,hq⟩:=hq;unfold qmh at hq;simp only at hq;split at hq
     ·rename_i s2 hs2;have hk:Keep (zm c) a a2:=hk1.trans hk2;exact hq a2 (XQ ha2 (vI ha (hk.mono hsub) ha2.nod) hs2) hk
     ·exact hq.elim
    | exit id=>exact VV.after hk1 hq
    | ret=>exact VV.after hk1 hq
    | goto l=>exact hq
    | panic c=>exact hq
    | outgrown=>exact hq)
   exact key a (XQ ha (vI ha (.refl _ _) ha.nod) hs0) (.refl _ _)
  split at h
  ·rename_i ks W r;split at h
   ·rename_i s0 hs0;obtain ⟨hsub,h⟩:=xj h;exact L ks W r s0 hd (qj0 hsub) hs0 h
   ·exact h.elim
  ·rename_i ks r;split at h
   ·rename_i s0 hs0;exact L ks _ r s0 hd (λi hi=>hi) hs0 h
   ·exact h.elim
  ·exact h.elim
 | scope x ih=>intro hok;cases hok
 | exit id=>intro _ ann hd Q fr a w ha h;exact wpIn_exit ⟨fr,ha,.refl _ _,h⟩
 | ret=>intro _ ann hd Q fr a w ha h;exact wpIn_ret ⟨fr,ha,.refl _ _,h⟩
 | label l=>intro _ ann hd Q fr a w ha h;exact wpIn_label ⟨fr,ha,.refl _ _,h⟩
 | _=>intro _ ann hd Q fr a w ha h;exact h.elim
end Go.Vc
namespace Go.Proofs.YtokfefnmpjohpaaGreatDoor
open Go.Vc Go.RowKit
set_option maxRecDepth 400000
open IntKind (i64 u32)
def qgb:Code->Option Code
 | .seq x y=>match qgb x with | some b=>some b | none=>qgb y
 | .block _ x=>qgb x
 | .loop x=>qgb x
 | .scope x=>qgb x
 | .cond _ x y=>match qgb x with | some b=>some b | none=>qgb y
 | .rangeFunc _ _ _ b=>some b
 | _=>none
def qmv (p:Addr) (x:Slc) (w:World) (K:Ub):Prop :=zl (σ:=Int×Int×Unit) (λI1 s w1=>cond (decide (s.2.1<(3:Int))) ( 0<=(8:Int) /\cond (decide (s.2.1<((x.n:Nat):Int))) ( ixK x s.2.1 1 λt23=>ldI .u8 t23 w1 λt24=>I1 ((jX .or .u32 (u32.wrap (s.1*2^(min (8:Int).toNat u32.bits))) (u32.wrap t24)),(i64.wrap (s.2.1+(1:Int))),()) w1) (I1 ((u32.wrap (s.1*2^(min (8:Int).toNat u32.bits))),(i64.wrap (s.2.1+(1:Int))),()) w1)) (zl (σ:=Int×Unit) (λI2 s_1 w2=>cond (decide (s_1.1<(4:Int))) (cond (decide (s_1.1>((x.n:Nat):Int))) ( jy p w2 λt35=>nw qN [(.int .u8 61)] w2 λt36 w3=>apK PG #[qg,qg] qg t35 (⟨(some t36),1,1⟩:Slc) w3 λt37 w4=>stK p [(.slice t37.a t37.n t37.c)] w4 λw5=>I2 ((i64.wrap (s_1.1+(1:Int))),()) w5) ( jy p w2.drew λt38=>0<=(i64.wrap ((18:Int)-(i64.wrap ((6:Int)*s_1.1)))) /\ixS (⟨#[65,66,67,68,69,70,71,72,73,74,75,76,77,78,79,80,81,82,83,84,85,86,87,88,89,90,97,98,99,100,101,102,103,104,105,106,107,108,109,110,111,112,113,114,115,116,117,118,119,120,121,122,48,49,50,51,52,53,54,55,56,57,43,47]⟩:ByteArray) (jX .and .u32 (s.1.fdiv (2^(min (i64.wrap ((18:Int)-(i64.wrap ((6:Int)*s_1.1)))).toNat u32.bits))) (63:Int)) λt45=>nw qN [(.int .u8 t45)] w2.drew λt46 w6=>w6.cell? p=some (.slice t38.a t38.n t38.c) /\apK PG #[qg,qg] qg t38 (⟨(some t46),1,1⟩:Slc) w6 λt47 w7=>stK p [(.slice t47.a t47.n t47.c)] w7 λw8=>I2 ((i64.wrap (s_1.1+(1:Int))),()) w8)) (K w2)) (0,()) w1)) (0,0,()) w
def qti:List Ann:=[.none,.none,.none,.join [(5,(Kind.int .u32)),(11,(Kind.int .i64))] [5,6,11,12,13,14,15,16,17,18,19,20,21,22,23,24,25,26,27],.none,.none,.none,.none,.none,.none,.none,.join [(28,(Kind.int .i64))] [7,28,29,30,31,32,33,34,35,36,37,38,39,40,41,42,43,44,45,46,47,48],.none,.none,.none,.none,.none,.none,.none]
def qmu (p:Addr) (x:Slc):Go.Vc.Fr:=[none,none,none,some (.pointer (some p)),some (.slice x.a x.n x.c),none,none,none,none,none,none,none,none,none,none,none,none,none,none,none,none,none,none,none,none,none,none,none,none,none,none,none,none,none,none,none,none,none,none,none,none,none,none,none,none,none,none,none,none,none]
def onN (K:Ub):X->Go.Vc.Fr->Ub
 | .normal,_,w=>K w
 | _,_,_=>False
def agL:Go.Vc.Fr->List Value->Prop
 | [],[]=>True
 | o::fr,v::l=>(∀u,o=some u->v=u)/\agL fr l
 | _,_=>False
theorem zde:∀{fr:Go.Vc.Fr} {l:List Value},agL fr l->∀(i:Nat) (v:Value),fr[i]?=some (some v)->l[i]?=some v
 | [],[],_,i,v,h=>by simp at h
 | o::fr,u::l,h,0,v,hv=>by
  simp only [List.getElem?_cons_zero,Option.some.injEq] at hv ⊢;exact h.1 v hv
 | o::fr,u::l,h,i+1,v,hv=>by
  rw [List.getElem?_cons_succ] at hv ⊢;exact zde h.2 i v hv
 | [],_::_,h,_,_,_=>h.elim
 | _::_,[],h,_,_,_=>h.elim
theorem q4q (p:Addr) (x:Slc) (w:World) (K:Ub):vc C ((qgb (Tryz.f27.body.getD .skip)).getD .skip) qti (onN K) (qmu p x) w=qmv p x w K:=by kernel_rfl
def qk5 (x:List UInt8):Nat->Nat
 | 0=>0
 | k+1=>qk5 x k*256+(x.getD k 0).toNat
theorem qy7 (x:List UInt8):∀k,qk5 x k<256^k
 | 0=>by show 0<1;omega
 | k+1=>by
  have h:=qy7 x k;have hb:=(x.getD k 0).toNat_lt;show qk5 x k*256+_<256^k*256;omega
theorem qug (x:List UInt8):qk5 x 3=zca x:=by
 show ((0*256+(x.getD 0 0).toNat)*256+(x.getD 1 0).toNat)*256+(x.getD 2 0).toNat=_;unfold zca;omega
theorem q9z {x:List UInt8} {k:Nat} (h:k<4):(qob x).take (k+1)=(qob x).take k++[q89 x k]:=by
 rw [List.take_add_one];congr 1;unfold qob;rw [List.getElem?_map,List.getElem?_range h];rfl
section
variable {w:World}
theorem zbx {v:Nat} (h:v<64) {K:Int->Prop} (hK:K (((zih v).toNat:Nat):Int)):ixS (⟨#[65,66,67,68,69,70,71,72,73,74,75,76,77,78,79,80,81,82,83,84,85,86,87,88,89,90,97,98,99,100,101,102,103,104,105,106,107,108,109,110,111,112,113,114,115,116,117,118,119,120,121,122,48,49,50,51,52,53,54,55,56,57,43,47]⟩:ByteArray) (v:Int) K:=by
 refine ⟨⟨by omega,?_⟩,?_⟩
 ·show (v:Int)<((64:Nat):Int);omega
 ·rw [Int.toNat_natCast,Array.getD_eq_getD_getElem?,<-Array.getElem?_toList];exact hK
theorem qy1 {M bo:Nat} {x s:Slc} {cs xs:List UInt8} {K:Ub} (hbox:Blk w bo qg [.slice s.a s.n s.c]) (hown:Go.Vc.Own qm w M s xs) (hM:M<=w.heap.size) (hbo:bo<M) (hx:Rd qm w x cs) (hxl:∀k,x.blk=some k->k<M/\k≠bo) (hc1:1<=cs.length) (hc3:cs.length<=3) (hl:xs.length<=100000000)
  (hK:∀s' w',Blk w' bo qg [.slice s'.a s'.n s'.c]->Go.Vc.Own qm w' M s' (xs++qob cs)->Chg (λk=>k=bo\/s.blk=some k) w w'->K w'):qmv ⟨bo,0,none⟩ x w K:=by
 unfold qmv;refine lpR (λst w1=>w1=w/\∃k:Nat,k<=3/\st.1=((qk5 cs k:Nat):Int)/\st.2.1=(k:Int)) (λst=>3-st.2.1.toNat) ⟨rfl,0,by omega,rfl,rfl⟩ ?_;rintro ⟨v0,i0,u⟩ w1 ⟨rfl,k,hk,hv,hi⟩ I hI;dsimp only at hv hi ⊢;subst hv hi;rw [hx.n];refine cO (λe=>?_) λe=>?_
 ·have e:=oTq e;have hlt:=qy7 cs k;have h2:256^k<=256^2:=Nat.pow_le_pow_right (by omega) (by omega);have esh:u32.wrap (((qk5 cs k:Nat):Int)*2^(min (8:Int).toNat u32.bits))=((qk5 cs k*256:Nat):Int):=by
   rw [show min (8:Int).toNat u32.bits=8 by decide,show ((qk5 cs k:Nat):Int)*2^8=((qk5 cs k*256:Nat):Int) by simp];exact jE .u32 (by show _<2^32;omega)
  rw [esh,qP (by omega),show (k:Int)+1=((k+1:Nat):Int) by simp];refine ⟨by omega,cO (λe2=>?_) λe2=>?_⟩
  ·have e2:=oTq e2;have hkl:k<cs.length:=by omega
   refine hx.ix (i:=(k:Int)) rfl (by omega) (by omega) λhcell=>?_;rw [Int.toNat_natCast];refine lI (x:=((cs[k].toNat:Nat):Int)) (by simpa using hcell 0 _ rfl) ?_;have hb:=cs[k].toNat_lt;rw [jE .u32 (by show _<2^32;omega),qzn .u32 (by show _<2^32;omega) (by show _<2^32;omega)];have eor:(qk5 cs k*256) ||| cs[k].toNat=qk5 cs (k+1):=by
    have:=Nat.two_pow_add_eq_or_of_lt (i:=8) (b:=cs[k].toNat) (by omega) (qk5 cs k);rw [Nat.mul_comm];rw [show (256:Nat)=2^8 from rfl,<-this];show _=qk5 cs k*256+(cs.getD k 0).toNat;rw [List.getD_eq_getElem?_getD,List.getElem?_eq_getElem hkl,Nat.mul_comm];rfl
   rw [eor];exact hI _ _ ⟨rfl,k+1,by omega,rfl,rfl⟩ (by dsimp only;omega)
  ·have e2:=oFq e2;have ez:qk5 cs k*256=qk5 cs (k+1):=by
    show _=qk5 cs k*256+(cs.getD k 0).toNat;rw [List.getD_eq_getElem?_getD,List.getElem?_eq_none (by omega)];rfl
   rw [ez];exact hI _ _ ⟨rfl,k+1,by omega,rfl,rfl⟩ (by dsimp only;omega)
 ·have e:=oFq e;obtain rfl:k=3:=by omega
  rw [qug];have h24:zca cs<2^24:=by rw [<-qug];exact qy7 cs 3
  refine lpR (λst w2=>∃(k:Nat) (s':Slc),k<=4/\st.1=(k:Int)/\Blk w2 bo qg [.slice s'.a s'.n s'.c]/\Go.Vc.Own qm w2 M s' (xs++(qob cs).take k)/\Chg (λk=>k=bo\/s.blk=some k) w1 w2/\(∀k,s'.blk=some k->s.blk=some k\/w1.heap.size<=k)) (λst=>4-st.1.toNat)
   ⟨0,s,by omega,rfl,hbox,by simpa using hown,Chg.refl _ _,λk hk=>.inl hk⟩ ?_
  rintro ⟨i0,u⟩ w2 ⟨k,s',hk,hi,hb2,ho2,hc2,hs2⟩ I hI;dsimp only at hi ⊢;subst hi;have hsz2:=hc2.size;have hlen:(xs++(qob cs).take k).length<=100000004:=by rw [List.length_append,List.length_take,qjr];omega
  have hne:∀k,s'.blk=some k->k≠bo:=λk hk=>by have:=(ho2.lt k hk).1;omega
  refine cO (λe=>?_) λe=>?_
  ·have e:=oTq e;have hk4:k<4:=by omega
   rw [qP (x:=(k:Int)+1) (by omega),show (k:Int)+1=((k+1:Nat):Int) by simp];have go:∀{w3:World} {b:UInt8},b=q89 cs k->Uc w2 w3->∀r w5,Go.Vc.Own qm w5 M r ((xs++(qob cs).take k)++[b])->Chg (λk=>s'.blk=some k) w3 w5->(r.blk=s'.blk\/∃k,r.blk=some k/\w3.heap.size<=k)->stK (⟨bo,0,none⟩:Addr) [(.slice r.a r.n r.c)] w5 λw6=>I (((k+1:Nat):Int),()) w6:=by
    intro w3 b hbv hB3 r w5 hr5 hch hrb;have hs3:=hB3.size;have hb5:Blk w5 bo qg [.slice s'.a s'.n s'.c]:=(hb2.ext hB3).chg hch λe=>hne _ e rfl;have hrne:∀k,r.blk=some k->k≠bo:=λk hk=>by have:=(hr5.lt k hk).1;omega
    refine qw hb5 (by simp) λw6 hb6 hg6 hs6=>?_;refine hI _ _ ⟨k+1,r,by omega,rfl,hb6,?_,?_,?_⟩ (by dsimp only;omega)
    ·rw [q9z hk4,<-List.append_assoc,<-hbv];exact hr5.chg (Go.Vc.Chg.gg hg6) λk hk e=>hrne k hk e
    ·refine hc2.trans (Chg.trans (Chg.trans (Chg.of_ext (S:=λk=>k=bo\/s'.blk=some k) hB3) (hch.mono λi hi h=>.inr h) λi hi h=>h) ((Go.Vc.Chg.gg hg6).mono λi hi h=>.inl h) λi hi h=>h) λi hi h=>?_;rcases h with h | h
     ·exact .inl h
     ·rcases hs2 i h with h2 | h2
      ·exact .inr h2
      ·omega
    ·intro k hk;rcases hrb with h | ⟨k',h,h'⟩
     ·exact hs2 k (by rw [<-h];exact hk)
     ·rw [h] at hk;cases hk;exact .inr (by omega)
   refine cO (λe2=>?_) λe2=>?_
   ·have e2:=oTq e2;refine lSl (x:=s') (hb2.cell 0 rfl) ?_;refine zfn (c:=61) rfl ho2 (by omega) (by omega) λr w5 hr5 hch hrb=>?_;exact go (by unfold q89;rw [if_pos (by omega)]) (Below.refl _ _) r w5 hr5 hch hrb
   ·have e2:=oFq e2;have hBd:=bdw w2;refine lSl (x:=s') ((hb2.ext hBd).cell 0 rfl) ?_;rw [qP (x:=(6:Int)*(k:Int)) (by omega),qP (by omega)];have e18:((18:Int)-(6:Int)*(k:Int))=((18-6*k:Nat):Int):=by omega
    rw [e18,Int.toNat_natCast,show min (18-6*k) u32.bits=18-6*k by show min _ 32=_;omega,qtw];have hdv:zca cs/2^(18-6*k)<2^32:=Nat.lt_of_le_of_lt (Nat.div_le_self _ _) (by omega);rw [show (63:Int)=((63:Nat):Int) from rfl,q0o .u32 hdv (by show 63<2^32;omega),show (63:Nat)=2^6-1 from rfl,Nat.and_two_pow_sub_one_eq_mod];refine ⟨by omega,zbx (Nat.mod_lt _ (by decide)) ?_⟩;refine nwb λw6 hb6 hB6 hs6=>?_;refine ⟨((hb2.ext hBd).ext hB6).cell 0 rfl,?_⟩;have hB26:=bT hBd hB6;have hr6:Rd qm w6 ⟨some ⟨w2.drew.heap.size,0,none⟩,1,1⟩ [q89 cs k]:=yg (E:=qm) hb6 (by
     unfold q89;rw [if_neg (by omega)];rfl)
    refine apB (ho2.ext hB26) hr6 (by have:=hB26.size;omega) (by simp only [List.length_singleton];omega) λr w5 hr5 hch hrb=>?_;refine go rfl hB26 r w5 hr5 hch ?_;rcases hrb with h | h
    ·exact .inl h
    ·exact .inr ⟨_,h,Nat.le_refl _⟩
  ·have e:=oFq e;obtain rfl:k=4:=by omega
   rw [List.take_of_length_le (by rw [qjr];exact Nat.le_refl _)] at ho2;exact hK s' w2 hb2 ho2 hc2
end
end Go.Proofs.YtokfefnmpjohpaaGreatDoor
