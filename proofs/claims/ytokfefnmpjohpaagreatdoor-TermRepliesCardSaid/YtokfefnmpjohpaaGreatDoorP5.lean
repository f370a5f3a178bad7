import Derived.Test.YtokfefnmpjohpaaGreatDoorP4
import Derived.Test.YtokfefnmpjohpaaGreatDoorP3
import Derived.Lib.AppendStr
import Derived.Test.YtokfefnmpjohpaaGreatDoorP2
import Derived.JoinedOf
import Derived.Test.YtokfefnmpjohpaaGreatDoorP1
set_option linter.unusedVariables false
namespace Go.Proofs.YtokfefnmpjohpaaGreatDoor
open Go.Vc Go.RowKit
set_option maxRecDepth 400000
open IntKind (i64)
open Lib (indexByte)
open _root_.List (length_append length_cons length_nil mem_cons)
open _root_.Nat (le_refl le_trans zero_le)
open _root_.Option (getD_some)
def same (G G':GS):Prop:=G'.most=G.most/\G'.rows=G.rows/\G'.cols=G.cols
theorem same.refl (G:GS):same G G:=⟨rfl,rfl,rfl⟩
theorem same.trans {G G' G'':GS} (h:same G G') (k:same G' G''):same G G'':=⟨k.1.trans h.1,k.2.1.trans h.2.1,k.2.2.trans h.2.2⟩
structure Fr (n:Nat) (S S':Sc):Prop where
 alt:S'.alt=S.alt
 s0:S'.s0=S.s0
 s1:S'.s1=S.s1
 g0:same S.g0 S'.g0
 g1:same S.g1 S'.g1
 ar:S'.areas.length<=S.areas.length+n
variable {S S' S'':Sc} {n k0:Nat}
theorem Fr.refl (S:Sc) (n:Nat):Fr n S S:=⟨rfl,rfl,rfl,same.refl _,same.refl _,by omega⟩
theorem Fr.trans (h:Fr n S S') (k:Fr k0 S' S''):Fr (n+k0) S S'':=⟨k.alt.trans h.alt,k.s0.trans h.s0,k.s1.trans h.s1,h.g0.trans k.g0,h.g1.trans k.g1,by have:=h.ar;have:=k.ar;omega⟩
theorem Fr.of (e1:S'.alt=S.alt) (e2:S'.s0=S.s0) (e3:S'.s1=S.s1) (e4:S'.g0=S.g0) (e5:S'.g1=S.g1) (e6:S'.areas=S.areas):Fr 0 S S':=⟨e1,e2,e3,e4 ▸ same.refl _,e5 ▸ same.refl _,by rw [e6];omega⟩
theorem q17 (S:Sc) {G:GS} (h:same S.g G):Fr 0 S (S.withG G):=by
 unfold Sc.withG;unfold Sc.g at h;cases hS:S.alt<;>rw [hS] at h<;>simp only [Bool.false_eq_true,if_false,if_true] at h ⊢
 ·exact ⟨hS.symm ▸ rfl,rfl,rfl,h,same.refl _,by show S.areas.length<=_;omega⟩
 ·exact ⟨hS.symm ▸ rfl,rfl,rfl,same.refl _,h,by show S.areas.length<=_;omega⟩
theorem zdz (S:Sc) (r c:Int):Fr 0 S (S.to r c):=Fr.of rfl rfl rfl rfl rfl rfl
theorem q25 (S:Sc):Fr 0 S S.dry:=Fr.of rfl rfl rfl rfl rfl rfl
theorem qy7 (G:GS) (top past n:Int) (a:vC):same G (ku G top past n a):=by
 unfold ku;split
 ·exact same.refl _
 ·split<;>exact ⟨rfl,rfl,rfl⟩
theorem q79 (S:Sc) (t p n:Int):Fr 0 S (S.scroll t p n):=q17 S (qy7 _ _ _ _ _)
theorem q90 (S:Sc):Fr 0 S S.index:=by
 unfold Sc.index;split
 ·exact (q25 S).trans (q79 _ _ _ _)
 ·exact (q25 S).trans (zdz _ _ _)
theorem q6r (S:Sc) (f:List qO->List qO):Fr 0 S (S.change f):=by
 unfold Sc.change;split
 ·exact q17 S ⟨rfl,rfl,rfl⟩
 ·exact Fr.refl _ _
theorem qxk (S:Sc) (r w:Int) (b:Bool):Fr 0 S (S.laid r w b):=by
 unfold Sc.laid;dsimp only;have h:=q6r S (S.putL r w);split
 ·exact h.trans (k0:=0) (Fr.of rfl rfl rfl rfl rfl rfl)
 ·exact h.trans (k0:=0) (Fr.of rfl rfl rfl rfl rfl rfl)
theorem q5j (S:Sc):Fr 0 S S.next:=(zdz S S.c.Row 0).trans (q90 _)
theorem zcx (S:Sc) (b:Bool):Fr 0 S (S.layX b):=by
 unfold Sc.layX;split
 ·exact q5j S
 ·exact Fr.refl _ _
theorem zch (S:Sc) (c:Nat) (r w:Int) (b:Bool):Fr 0 S (S.layY c r w b):=by
 unfold Sc.layY;split
 ·split
  ·exact Fr.refl _ _
  ·split
   ·exact (q5j S).trans (qxk _ _ _ _)
   ·exact (Fr.of (S:=S) (S':=S.setCol (w64 (c-w))) rfl rfl rfl rfl rfl rfl).trans (qxk _ _ _ _)
 ·exact qxk _ _ _ _
theorem ze9 (S:Sc) (r:Int):Fr 0 S (S.lay r):=by
 unfold Sc.lay;split
 ·exact Fr.refl _ _
 ·have h1:Fr 0 S { S with char:=r }:=Fr.of rfl rfl rfl rfl rfl rfl;exact ((h1.trans (zcx _ _)).trans (q25 _)).trans (zch _ _ _ _ _)
theorem za1 (S:Sc) (r:Int):Fr 0 S (S.print r):=by
 unfold Sc.print;split<;>exact ze9 _ _
section
variable {w w':World} {base g:Nat} {F F':ScF} {S S':Sc} {c:qI} {s tg pb:Nat} {tq:Slc}
theorem q06 (h:ScM w base g F S) {K:Int->Int->Ub} (hK:K (i64.wrap (S.g0.top-S.g0.old.length)) S.g1.top w.drew.drew):vA (some ⟨g,0,none⟩) w K:=by
 refine YO _ ?_;simp only [onPtr_some];have hd:=h.drew;refine ⟨⟨by decide,by decide⟩,qM (x:=some ⟨F.f0.g,0,none⟩) (hd.blk.cell 0 rfl) ?_⟩;refine ⟨⟨by decide,by decide⟩,qM (x:=some ⟨F.f1.g,0,none⟩) (hd.blk.cell 1 rfl) ?_⟩;exact q07 hd.g0 ⟨hd.drew.blk.cell 1 rfl,qxh hd.drew.g1 hK⟩
end
theorem StOk.mono {n m:Nat} {S:St} (h:StOk n S) (hm:n<=m):StOk m S :=
 ⟨h.q0,h.q1,h.used,h.fits,le_trans h.len hm,h.clk0,by have:=h.clk;omega,h.srt,λp hp=>⟨(h.keys p hp).1,by have:=(h.keys p hp).2;omega⟩,h.stamps,h.borns,h.st1,h.bo1⟩
def ze5 (k:qb) (p:Pl):KR:=⟨qz3 k 0 [],p.Rows,p.Cols,k.Stay !=1⟩
def zgm (E:KE) (p:Pl):KE:={ E with T:=(E.T.filter λo=>!qon p o)++[p] }
def vt (E:KE) (k:qb) (id:Int) (v:qj):KE×KR×Bool :=
 if (qa5 E.S k id v).2=0 then
  (if qw5 (qa5 E.S k id v).1 then (zgm E (qa5 E.S k id v).1,ze5 k (qa5 E.S k id v).1,true) else (E,qad k 1 [],false))
 else (E,qad k (qa5 E.S k id v).2 [],false)
section
variable {w w':World} {base g n:Nat} {F F':KF} {E E':KE}
theorem Tab.below4 (h:Tab w) (hB:Below 4 w w'):Tab w':=var?_below (g:=3) hB (by kernel_rfl) (by decide) h
theorem EngT.belowB (h:EngM w base g F E n) {n':Nat} (hT:EngT base g w F F' E' n' w'):Below base w w':=hT.chg.below (le_trans h.hg (Nat.le_of_lt h.blk.lt)) λi hi hs=>by have:=(h.below i hs).1;omega
theorem Tab.stepK (hTab:Tab w) (h:EngM w base g F E n) (hb:4<=base) {n':Nat} (hT:EngT base g w F F' E' n' w'):Tab w':=hTab.below4 ((EngT.belowB h hT).mono hb)
theorem EngM.up (h:EngM w base g F E n) {m:Nat} (hm:n<=m):EngM w base g F E m:=h.mono hm (h.ok.mono hm)
theorem EngT.up {F1:KF} {E1:KE} {n1:Nat} (h:EngT base g w F F1 E1 n1 w') {m:Nat} (hm:n1<=m):EngT base g w F F1 E1 m w':=⟨h.m.up hm,h.old,h.chg,h.ls⟩
theorem qui (h:EngM w base g F E n) (hn:n<=90000) (hT:Tab w) (h4:4<=base) {k:qb} (hw:qe0 (toL k)) (id:Int) (v:qj) {K:qc->Bool->Ub}
  (hK:∀r F' w',qgi w' r (vt E k id v).2.1->EngT base g w F F' (vt E k id v).1 (n+1) w'->(∀j,r.Reply.blk=some j->w.heap.size<=j/\¬ke g F' j)->K r (vt E k id v).2.2 w'):kr (some ⟨g,0,none⟩) k id v w K:=by
 refine qc4 _ _ _ _ ?_;simp only [onPtr_some];refine nwb λw1 hk1 hB1 hs1=>nwb λw2 hv2 hB2 hs2=>nwb λw3 ht3 hB3 hs3=>?_;have hk3:=(hk1.ext hB2).ext hB3;have hv3:=hv2.ext hB3;have B3:=kT hB1 hB2 hB3;refine qw (r:=qb.rep) (x:=k) hk3.cells (qw (r:=qj.rep) (x:=v) hv3.cells ?_);refine q3r (h.ext B3) k id v λw4 hB4=>?_;unfold vt at hK;generalize (qa5 E.S k id v).1=p at *;generalize (qa5 E.S k id v).2=x at *;refine jQ (vs:=qf.rep.cells p) rfl λw6 hp6 hB6 hs6=>?_;have B6:=kT B3 hB4 hB6;have hk6:=(hk3.ext hB4).ext hB6;have ht6:=(ht3.ext hB4).ext hB6;have h6:EngT base g w F F E (n+1) w6:=(EngT.of_ext h B6).up (by omega);have z1:=hB1.size;have z2:=hB2.size;have z3:=hB3.size;have z4:=hB4.size;have z6:=hB6.size;have nLS:∀{b:Nat},w.heap.size<=b->¬F.LS b:=λhb hk=>by have:=(h.below _ (.inr (.inr (.inr hk)))).2;omega
 have tys:q4≠zC/\q4≠zz/\q4≠jp/\q4≠qC/\q4≠qL:=by decide
 have lt3:=ht3.lt;have lt6:=ht6.lt;have lk6:=hk6.lt;refine jpO λJ hJ=>?_;have bad:∀y:Int,y≠0->(∀r F' w',qgi w' r (qad k y [])->EngT base g w F F' E (n+1) w'->(∀j,r.Reply.blk=some j->w.heap.size<=j/\¬ke g F' j)->K r false w')->J (y,()) w6:=by
  intro y hy hK;refine hJ _ _ (cT (by simpa using hy) (qw (r:=qb.rep) (x:=k) hk6.cells ?_));refine yW (hT.ext B6) hw y [] (by simp) λq w8 hq hB8 hqb=>?_;have h8:=h6.ext hB8;have ht8:=ht6.ext hB8;refine zw (r:=qc.rep) (x:=⟨q,0,0,false⟩) ht8 rfl rfl λw9 hc9 hs9=>?_;exact hK _ F w9 ⟨hq.chg hc9 λa ha e=>by have:=hqb a.block (slk.2 ⟨a,ha,rfl⟩);omega,rfl,rfl,rfl⟩ (h8.other ht8 tys (nLS (by omega)) (by omega) hc9) (λj hj=>⟨by have:=hqb j hj;omega,λhs=>by have:=(h6.m.below _ hs).2;have:=hqb j hj;omega⟩)
 by_cases hx:x=0
 ·rw [if_pos hx] at hK;refine cT (by simpa using hx) (qM (x:=some ⟨F.tg,0,none⟩) (h6.m.drew.blk.cells 2 _ rfl) ?_);refine qw (r:=qf.rep) (x:=p) hp6.drew.cells ?_;have h6d:=h6.ext (vj w6);refine q4c h6d.m.tb (by have:=h.tl;omega) (le_trans h6d.m.hg (Nat.le_of_lt h6d.m.blk.lt)) p (λhm w7 hB7=>?_) λhm q' w7 ht' hq' hc7=>?_
  ·rw [if_neg (by rw [hm];decide)] at hK;have hB67:Uc w6 w7:=zp (vj w6) hB7;refine hJ _ _ (cT rfl (qw (r:=qb.rep) (x:=k) (hk6.ext hB67).cells ?_));refine yW (hT.ext (zp B6 hB67)) hw 1 [] (by simp) λq w8 hq hB8 hqb=>?_;have h8:=(h6.ext hB67).ext hB8;have ht8:=(ht6.ext hB67).ext hB8;refine zw (r:=qc.rep) (x:=⟨q,0,0,false⟩) ht8 rfl rfl λw9 hc9 hs9=>?_;have z7:=hB67.size;exact hK _ F w9 ⟨hq.chg hc9 λa ha e=>by have:=hqb a.block (slk.2 ⟨a,ha,rfl⟩);omega,rfl,rfl,rfl⟩ (h8.other ht8 tys (nLS (by omega)) (by omega) hc9) (λj hj=>⟨by have:=hqb j hj;omega,λhs=>by have:=((h6.ext hB67).m.below _ hs).2;have:=hqb j hj;omega⟩)
  ·rw [if_pos hm] at hK;have hll:((E.T.filter λo=>!qon p o)++[p]).length<=n+1:=by
    rw [length_append,List.length_singleton];have:=List.length_filter_le (λo=>!qon p o) E.T;have:=h.tl;omega
   have h7:=h6d.trans (EngT.tab h6d.m ht' hq' hc7 hll);have hT7:=hT.stepK h h4 h7;have z7:=hc7.size;have e6:w6.drew.heap.size=w6.heap.size:=rfl;have tgl:F.tg<w.heap.size:=h.tb.blk.lt;have hk7:=hk6.drew.chg hc7 λe=>by omega
   have ht7:=ht6.drew.chg hc7 λe=>by omega
   have hp7:=hp6.drew.chg hc7 λe=>by omega
   refine hJ _ _ (cF rfl (qw (r:=qb.rep) (x:=k) hk7.cells ?_));refine yW hT7 hw 0 [] (by simp) λq w10 hq hB10 hqb=>?_;refine jQ (vs:=qc.rep.cells ⟨q,0,0,false⟩) rfl λw12 ho12 hB12 hs12=>?_;have B712:=zp hB10 hB12;have hk12:=(hk7.ext B712).drew;have hp12:=(hp7.ext B712).drew;have ht12:=(ht7.ext B712).drew;have h12:=(h7.ext B712).ext (vj w12);have hq12:=(hq.ext hB12).drew;refine lI (x:=p.Rows) (hp12.cells 5 _ rfl) (lI (x:=p.Cols) (hp12.cells 6 _ rfl) (lI (x:=k.Stay) (hk12.cells 21 _ rfl) ?_));have z10:=hB10.size;have z12:=hB12.size;have lk7:=hk7.lt;have lp7:=hp7.lt;have lt7:=ht7.lt;show stK ⟨w10.heap.size,1,none⟩ _ _ _;refine qz ho12.drew (by show (1+1:Nat)<=4;omega) λw13 ho13 hg13 hs13=>?_;have hc13:Chg (λi=>i=w10.heap.size) w12.drew w13:=Chg.of_grown hg13 λk hk=>by cases hk;rfl
   have ho13:Blk w13 w10.heap.size q4 (qc.rep.cells ⟨q,p.Rows,0,false⟩):=ho13;have hk13:=hk12.chg hc13 λe=>by omega
   have hp13:=hp12.chg hc13 λe=>by omega
   have ht13:=ht12.chg hc13 λe=>by omega
   refine ⟨hk13.cells 21 _ rfl,hp13.cells 6 _ rfl,?_⟩;show stK ⟨w10.heap.size,2,none⟩ _ _ _;refine qz ho13 (by show (2+1:Nat)<=4;omega) λw14 ho14 hg14 hs14=>?_;have hc14:Chg (λi=>i=w10.heap.size) w13 w14:=Chg.of_grown hg14 λk hk=>by cases hk;rfl
   have ho14:Blk w14 w10.heap.size q4 (qc.rep.cells ⟨q,p.Rows,p.Cols,false⟩):=ho14;refine ⟨(hk13.chg hc14 λe=>by omega).cells 21 _ rfl,?_⟩;show stK ⟨w10.heap.size,3,none⟩ _ _ _;refine qz ho14 (by show (3+1:Nat)<=4;omega) λw15 ho15 hg15 hs15=>?_;have hc15:Chg (λi=>i=w10.heap.size) w14 w15:=Chg.of_grown hg15 λk hk=>by cases hk;rfl
   have ho15:Blk w15 w10.heap.size q4 (qc.rep.cells ⟨q,p.Rows,p.Cols,k.Stay !=1⟩):=ho15;have hcc:Chg (λi=>i=w10.heap.size) w12.drew w15:=(hc13.trans hc14 λi _ hi=>hi).trans hc15 λi _ hi=>hi;have ht15:=ht12.chg hcc λe=>by omega
   have h15:=h12.other ho12.drew tys (nLS (by omega)) (by omega) hcc;have hq15:Rd qn w15 q (qz3 k 0 []):=YU hq12 hcc λhp a ha e=>by
    have:=qv8 hq hp a ha;omega
   refine qw (r:=qc.rep) (x:=⟨q,p.Rows,p.Cols,k.Stay !=1⟩) ho15.cells ?_;refine zw (r:=qc.rep) (x:=⟨q,p.Rows,p.Cols,k.Stay !=1⟩) ht15 rfl rfl λw16 hc16 hs16=>?_;exact hK _ _ w16 ⟨hq15.chg hc16 λa ha e=>by have:=hqb a.block (slk.2 ⟨a,ha,rfl⟩);omega,rfl,rfl,rfl⟩ (h15.other ht15 tys (nLS (by omega)) (by omega) hc16) (λj hj=>⟨by have:=hqb j hj;omega,λhs=>by have:=(h7.m.below _ hs).2;have:=hqb j hj;omega⟩)
 ·rw [if_neg hx] at hK;exact cF (by simpa using hx) (bad x hx hK)
end
theorem qvz (n:Int):∀(f:Nat) (S:St) (G:List Int),(S.roomF n f G).2.length<=G.length+f
 | 0,S,G=>by show G.length<=_;omega
 | f+1,S,G=>by
  unfold St.roomF;split
  ·have:=qvz n f (S.drop (ya S.L)) (G++[ya S.L]);rw [length_append,List.length_singleton] at this;omega
  ·show G.length<=_;omega
def qva (S:St) (id:Int):St:=if id=0 then { S with res:=0 } else ({ S with res:=0 }:St).drop id
theorem zby (S:St) (id:Int):∀p∈(qva S id).L,p∈S.L:=by
 intro p hp;unfold qva at hp;split at hp
 ·exact hp
 ·exact ((qij _ _ _).1 hp).2
theorem q9w (S:St) (id:Int):(qva S id).L.length<=S.L.length:=by
 unfold qva;split
 ·exact le_refl _
 ·exact List.length_filter_le _ _
theorem qux (S:St) (id:Int) (n:Nat):∀p∈(S.putPre id n).1.L,p∈S.L:=λp hp=>zby S id p (qpf _ _ _ _ p hp)
theorem q26 (S:St) (id:Int) (n:Nat):(S.putPre id n).2.length<=S.L.length:=by
 have h:=qvz (n:Int) (qva S id).L.length (qva S id) [];have h2:=q9w S id;show ((qva S id).roomF n (qva S id).L.length []).2.length<=_;simp only [length_nil] at h;omega
def idK (E:KE) (k:qb) (bs:List UInt8):Int:=Vy (E.S.putPre k.Id bs.length).1.L k.Id
def qkx (E:KE) (k:qb) (W H:Int) (bs:List UInt8) (P:Slc):KE :=
 { E with S:=(E.S.putPre k.Id bs.length).1.putAt (idK E k bs) k.Number W H P bs,T:=qtj E.T ((E.S.putPre k.Id bs.length).2++[idK E k bs]) }
def vr (E:KE) (k:qb) (bs:List UInt8):qb:=if k.Id=0/\k.Number≠0 then { k with Id:=idK E k bs } else k
def qki (E:KE) (k:qb) (W H:Int) (bs:List UInt8) (P:Slc) (v:qj):KE×KR :=
 if qbl E.S k.Id k.Number W H bs.length≠0 then (E,qad k (qbl E.S k.Id k.Number W H bs.length) [])
 else if k.Action≠84 then (qkx E k W H bs P,qad (vr E k bs) 0 [])
 else ((vt (qkx E k W H bs P) (vr E k bs) (idK E k bs) v).1,(vt (qkx E k W H bs P) (vr E k bs) (idK E k bs) v).2.1)
theorem q6c {k:qb} (hw:qe0 (toL k)) {id:Int} (h:-9223372036854775808<=id/\id<=9223372036854775807):qe0 (toL { k with Id:=id }):=by
 have e:toL { k with Id:=id }=(toL k).set 8 id:=rfl;intro i;rw [e,List.getElem?_set];by_cases hi:8=i
 ·rw [if_pos hi];rw [if_pos (by rw [qyh];omega)];exact h
 ·rw [if_neg hi];exact hw i
section
variable {w w':World} {base g n:Nat} {F F':KF} {E E':KE}
theorem q5l {S:St} (h:StOk n S) (id:Int):StOk n (qva S id):=by
 unfold qva;split
 ·exact ql1 h 0
 ·exact qi9 (ql1 h 0) id
def qcd (t:TypeId):Prop:=t≠zC/\t≠zz/\t≠jp/\t≠qC/\t≠qL
instance (t:TypeId):Decidable (qcd t):=by unfold qcd;infer_instance
theorem EngM.far (h:EngM w base g F E n) {T:Nat->Prop} (hc:Chg T w w') (hT:∀k,T k->(∃t vs,Blk w k t vs/\qcd t)/\¬F.LS k):EngM w' base g F E n:=by
 have nt:∀{b:Nat} {t:TypeId} {vs:List Value},Blk w b t vs->¬qcd t->¬T b:=λ{b t vs} hb hn hTb=>by
  obtain ⟨⟨t',vs',hb',ht'⟩,_⟩:=hT _ hTb;by_cases e:t'=t
  ·exact hn (e ▸ ht')
  ·exact hb'.ne_t hb e rfl
 refine ⟨h.blk.chg hc (nt h.blk (by decide)),h.hg,h.st.keep hc (nt h.st.blk (by decide)) (λe=>?_) (λp hp k hk e=>?_),h.ok,h.hs,h.tb.chg hc ?_,h.tl,
  λC s hl=>⟨(h.lo C s hl).1.chg hc λk hk e=>(hT k e).2 hk,(h.lo C s hl).2⟩,h.nl,h.dg,h.ds,h.dt,h.di⟩
 ·obtain ⟨⟨t',vs',hb',_⟩,_⟩:=hT _ e;exact h.st.map.ne_blk hb' rfl
 ·obtain ⟨cs,hcs⟩:=((h.st.img p hp).blk k hk).2;exact nt hcs (by decide) e
 ·rintro k (hk | hk) e
  ·exact nt h.tb.blk (by decide) (hk ▸ e)
  ·obtain ⟨cs,hcs⟩:=h.tb.own.blk_t hk;exact nt hcs (by decide) e
theorem EngT.far {F1:KF} {E1:KE} {n1:Nat} {w1 w2:World} (h:EngT base g w F F1 E1 n1 w1) {T:Nat->Prop} (hc:Chg T w1 w2) (hT:∀k,T k->(∃t vs,Blk w1 k t vs/\qcd t)/\¬F1.LS k) (hw:∀k,T k->w.heap.size<=k) :
  EngT base g w F F1 E1 n1 w2:=⟨h.m.far hc hT,h.old,h.chg.trans hc λk hk e=>by have:=hw k e;omega,h.ls⟩
theorem EngM.not_in4 (h:EngM w base g F E n) {b:Nat} {t:TypeId} {vs:List Value} (hb:Blk w b t vs) (ht:t≠zC/\t≠zz/\t≠jp/\t≠qC) (hLS:¬F.LS b):¬ke g F b:=by
 obtain ⟨t1,t2,t3,t4⟩:=ht;rintro (e | (e | e) | (e | e) | e)
 ·exact hb.ne_t h.blk t1 e
 ·exact hb.ne_t h.st.blk t2 e
 ·exact h.st.map.ne_blk hb e.symm
 ·exact hb.ne_t h.tb.blk t3 e
 ·exact qA h.tb.own hb (λe=>t4 e.symm) b e rfl
 ·exact hLS e
theorem EngM.not_in (h:EngM w base g F E n) {b:Nat} {t:TypeId} {vs:List Value} (hb:Blk w b t vs) (ht:qcd t) (hLS:¬F.LS b):¬ke g F b:=by
 obtain ⟨t1,t2,t3,t4,t5⟩:=ht;rintro (e | (e | e) | (e | e) | e)
 ·exact hb.ne_t h.blk t1 e
 ·exact hb.ne_t h.st.blk t2 e
 ·exact h.st.map.ne_blk hb e.symm
 ·exact hb.ne_t h.tb.blk t3 e
 ·exact qA h.tb.own hb (λe=>t4 e.symm) b e rfl
 ·exact hLS e
theorem q7y (h:EngM w base g F E n) (hn:n<=900) (hT:Tab w) (h4:4<=base) {k:qb} (hw:qe0 (toL k)) {m:qa} {bs:List UInt8} (hP:Rd qn w m.P bs) (hPg:∀a,m.P.a=some a->¬ke g F a.block) (v:qj) {K:qc->Ub}
  (hK:∀P r F' w',qgi w' r (qki E k m.W m.H bs P v).2->EngT base g w F F' (qki E k m.W m.H bs P v).1 (n+2) w'->(∀j,r.Reply.blk=some j->w.heap.size<=j/\¬ke g F' j)->(∀j,P.blk=some j->w.heap.size<=j)->K r w'):Qy (some ⟨g,0,none⟩) k m v w K:=by
 refine qfc _ _ _ _ ?_;simp only [onPtr_some];refine nwb λw1 hk1 hB1 hs1=>nwb λw2 hm2 hB2 hs2=>nwb λw3 hv3 hB3 hs3=>nwb λw4 ht4 hB4 hs4=>?_;have B4:=zp (kT hB1 hB2 hB3) hB4;have hk4:=((hk1.ext hB2).ext hB3).ext hB4;have hm4:=(hm2.ext hB3).ext hB4;have hv4:=hv3.ext hB4;have h4':=(h.ext B4).drew;have B4d:=B4.drew;have z1:=hB1.size;have z2:=hB2.size;have z3:=hB3.size;have z4:=hB4.size;have lk4:=hk4.lt;have lv4:=hv4.lt;have lt4:=ht4.lt;have nE:∀{b:Nat},w.heap.size<=b->¬ke g F b:=λhb hk=>by have:=(h.below _ hk).2;omega
 have nLS:∀{b:Nat},w.heap.size<=b->¬F.LS b:=λhb hk=>nE hb (.inr (.inr (.inr hk)));have tys:q4≠zC/\q4≠zz/\q4≠jp/\q4≠qC/\q4≠qL:=by decide
 have tyk:qN≠zC/\qN≠zz/\qN≠jp/\qN≠qC/\qN≠qL:=by decide
 refine qM (x:=some ⟨F.sg,0,none⟩) (h4'.blk.cells 1 _ rfl) ?_;refine lI (x:=k.Id) (hk4.drew.cells 8 _ rfl) (lI (x:=k.Number) (hk4.drew.cells 9 _ rfl) (qw (r:=qa.rep) (x:=m) hm4.drew.cells ?_));refine zar h4'.st h.ok (by omega) (le_trans h4'.hg (Nat.le_of_lt h4'.blk.lt)) (hP.ext B4d) (λ_ a ha hs=>hPg a ha (.inr (.inl hs))) (λw5 he _ hB5=>?_) λP q w5 he hst hok hq hc5 hPb=>?_
 ·
  have B5:=zp B4d hB5;refine cT (by simpa using he) (qw (r:=qb.rep) (x:=k) (hk4.drew.ext hB5).cells ?_);refine yW (hT.ext B5) hw _ [] (by simp) λq w6 hq hB6 hqb=>?_;have ht6:=(ht4.drew.ext hB5).ext hB6;have h6:EngT base g w F F E (n+2) w6:=(EngT.of_ext h (zp B5 hB6)).up (by omega);refine zw (r:=qc.rep) (x:=⟨q,0,0,false⟩) ht6 rfl rfl λw7 hc7 hs7=>?_;have e4:w4.drew.heap.size=w4.heap.size:=rfl;have z5:=hB5.size;refine hK ⟨none,0,0⟩ _ F w7 ?_ ?_ (λj hj=>⟨by have:=hqb j hj;omega,λhs=>by have:=(h.below _ hs).2;have:=hqb j hj;omega⟩) λj hj=>by cases hj
  ·unfold qki;rw [if_pos he];exact ⟨hq.chg hc7 λa ha e=>by have:=hqb a.block (slk.2 ⟨a,ha,rfl⟩);omega,rfl,rfl,rfl⟩
  ·unfold qki;rw [if_pos he];exact h6.other ht6 tys (nLS (by omega)) (by omega) hc7
 ·
  refine cF rfl ?_;have e4:w4.drew.heap.size=w4.heap.size:=rfl;have hPw:∀j,P.blk=some j->w.heap.size<=j:=λj hj=>by have:=hPb j hj;omega
  have hle:=q26 E.S k.Id bs.length;have hol:=h.ok.len;have hpk:StOk n (E.S.putPre k.Id bs.length).1:=qg2 _ _ (q5l h.ok k.Id);have h5:=(EngT.of_ext h B4d).trans (EngT.store h4' hst hok (by omega) hc5 (λj hj=>by
   obtain ⟨p,hp,hb⟩:=hj;obtain ⟨a,b⟩:=p;rcases (yI hpk.srt _ _ a b).1 hp with ⟨rfl,rfl⟩ | ⟨_,hp'⟩
   ·exact .inr (hPb j hb)
   ·exact .inl ⟨(a,b),qux _ _ _ _ hp',hb⟩))
  have hid:=hok.keys (Vy (E.S.putPre k.Id bs.length).1.L k.Id,⟨⟨k.Number,⟨m.W,m.H,P⟩,(E.S.putPre k.Id bs.length).1.clock+1,(E.S.putPre k.Id bs.length).1.clock+1⟩,bs⟩) ((yI hpk.srt _ _ _ _).2 (.inl ⟨rfl,rfl⟩));dsimp only at hid;have z5:=hc5.size;have hk5:=hk4.drew.chg hc5 λe=>nE (le_refl _) (.inr (.inl e));have hv5:=hv4.drew.chg hc5 λe=>nE (by omega:w.heap.size<=w2.heap.size) (.inr (.inl e));have ht5:=ht4.drew.chg hc5 λe=>nE (by omega:w.heap.size<=w3.heap.size) (.inr (.inl e));refine qdc (E:=zX) qc5 hq (y:=Vy (E.S.putPre k.Id bs.length).1.L k.Id) rfl z5 (by rw [qja];omega) (by unfold maxLen;omega) λr w9 ho9 hc9 hr9=>?_;have h9:=h5.far hc9 (λj hj=>⟨by obtain ⟨cs,hcs⟩:=hq.blk_t hj;exact ⟨_,cs,hcs,by decide⟩,nLS (by have:=(hq.lt j hj).1;omega)⟩) λj hj=>by have:=(hq.lt j hj).1;omega
  have nq:∀{j:Nat},j<w4.heap.size->¬q.blk=some j:=λhj e=>by have:=(hq.lt _ e).1;omega
  have hk9:=hk5.chg hc9 (nq lk4);have hv9:=hv5.chg hc9 (nq lv4);have ht9:=ht5.chg hc9 (nq lt4);refine qwo h9.m (by omega) ho9.rd (λa ha=>qA ho9 h9.m.tb.blk (by decide) a.block (slk.2 ⟨a,ha,rfl⟩)) λq' w10 h10=>?_;have hk10:=hk9.chg h10.chg (nE (le_refl _));have hv10:=hv9.chg h10.chg (nE (by omega:w.heap.size<=w2.heap.size));have ht10:=ht9.chg h10.chg (nE (by omega:w.heap.size<=w3.heap.size));have hE10:EngT base g w F { F with q:=q' } (qkx E k m.W m.H bs P) (n+1) w10:=h9.trans h10;have ek:qki E k m.W m.H bs P v=if k.Action≠84 then (qkx E k m.W m.H bs P,qad (vr E k bs) 0 []) else ((vt (qkx E k m.W m.H bs P) (vr E k bs) (idK E k bs) v).1,(vt (qkx E k m.W m.H bs P) (vr E k bs) (idK E k bs) v).2.1):=by
   unfold qki;rw [if_neg (λhh=>hh he)]
  refine jpO λJ1 hJ1=>?_;have j1:∀wx,Blk wx w.heap.size qN (qb.rep.cells (vr E k bs))->Blk wx w2.heap.size zI (qj.rep.cells v)->Blk wx w3.heap.size q4 [(.slice none 0 0),(Ua 0),(Ua 0),(.bool false)]->EngT base g w F { F with q:=q' } (qkx E k m.W m.H bs P) (n+1) wx->J1 (()) wx:=by
   intro w11 hk11 hv11 ht11 h11;refine hJ1 _ _ ?_;have hT11:=hT.stepK h h4 h11;have hwn:qe0 (toL (vr E k bs)):=by
    unfold vr;split
    ·exact q6c hw (by unfold idK;omega)
    ·exact hw
   have ea:(vr E k bs).Action=k.Action:=by
    unfold vr;split<;>rfl
   have lt11:=ht11.lt;refine lI (x:=(vr E k bs).Action) (hk11.cells 0 _ rfl) ?_;rw [ea];by_cases hac:k.Action=84
   ·rw [if_neg (λhh=>hh hac)] at ek;refine cF (by simpa using hac) (qw (r:=qb.rep) (x:=vr E k bs) hk11.cells (qw (r:=qj.rep) (x:=v) hv11.cells ?_));refine qui h11.m (by omega) hT11 h4 hwn (idK E k bs) v λr F14 w14 hr14 h14 hrb=>?_;have hE14:=h11.trans h14;have n3:¬ke g { F with q:=q' } w3.heap.size:=h11.m.not_in ht11 tys (nLS (by omega));have ht14:=ht11.chg h14.chg n3;refine jQ (vs:=qc.rep.cells r) rfl λw16 ho16 hB16 hs16=>?_;refine qw (r:=qc.rep) (x:=r) ho16.cells ?_;have ht16:=ht14.ext hB16;refine zw (r:=qc.rep) (x:=r) ht16 rfl rfl λw17 hc17 hs17=>?_;have nF14:¬F14.LS w3.heap.size:=λhk=>by
     rcases h14.ls _ hk with hk | hk
     ·exact nLS (by omega:w.heap.size<=w3.heap.size) hk
     ·omega
    refine hK P r F14 w17 ?_ ?_ (λj hj=>⟨by have:=(hrb j hj).1;have:=h11.chg.size;omega,(hrb j hj).2⟩) hPw
    ·rw [ek];have hr16:=hr14.ext hB16;exact ⟨hr16.1.chg hc17 λa ha e=>by have:=(hrb a.block (slk.2 ⟨a,ha,rfl⟩)).1;omega,hr16.2⟩
    ·rw [ek];exact (hE14.ext hB16).other ht16 tys nF14 (by omega) hc17
   ·rw [if_pos hac] at ek;refine cT (by simpa using hac) (qw (r:=qb.rep) (x:=vr E k bs) hk11.cells ?_);refine yW hT11 hwn 0 [] (by simp) λq2 w12 hq2 hB12 hqb2=>?_;have ht12:=ht11.ext hB12;refine zw (r:=qc.rep) (x:=⟨q2,0,0,false⟩) ht12 rfl rfl λw13 hc13 hs13=>?_;refine hK P _ _ w13 ?_ (?_:EngT base g w F { F with q:=q' } _ (n+2) w13) (λj hj=>⟨by have:=hqb2 j hj;have:=h11.chg.size;omega,λhs=>by have:=(h11.m.below _ hs).2;have:=hqb2 j hj;omega⟩) hPw
    ·rw [ek];exact ⟨hq2.chg hc13 λa ha e=>by have:=hqb2 a.block (slk.2 ⟨a,ha,rfl⟩);omega,rfl,rfl,rfl⟩
    ·rw [ek];exact ((h11.ext hB12).up (by omega)).other ht12 tys (nLS (by omega)) (by omega) hc13
  refine jpO λJ2 hJ2=>?_;have j2:∀b:Bool,(b=true↔k.Id=0/\k.Number≠0)->J2 (b,()) w10:=by
   intro b hb;refine hJ2 _ _ ?_;cases b
   ·refine cF rfl (j1 w10 ?_ hv10 ht10 hE10);have:vr E k bs=k:=by unfold vr;rw [if_neg (λhh=>by have:=hb.2 hh;cases this)]
    rw [this];exact hk10
   ·refine cT rfl ?_;show stK ⟨w.heap.size,8,none⟩ _ _ _;refine qz hk10 (by show (8+1:Nat)<=22;omega) λw11 hk11 hg11 hs11=>?_;have hc11:Chg (λi=>i=w.heap.size) w10 w11:=Chg.of_grown hg11 λk hk=>by cases hk;rfl
    refine j1 w11 ?_ (hv10.chg hc11 λe=>by omega) (ht10.chg hc11 λe=>by omega) (hE10.other hk10 tyk (nLS (le_refl _)) (le_refl _) hc11);have:vr E k bs={ k with Id:=idK E k bs }:=by unfold vr;rw [if_pos (hb.1 rfl)]
    rw [this];exact hk11
  refine lI (x:=k.Id) (hk10.cells 8 _ rfl) (cO (λe=>?_) λe=>?_)
  ·have e:=eq_of_beq e;refine lI (x:=k.Number) (hk10.cells 9 _ rfl) (j2 _ ⟨λhh=>⟨e,by simpa using hh⟩,λhh=>by simpa using hh.2⟩)
  ·exact j2 _ ⟨λhh=>(by cases hh),λhh=>absurd hh.1 (beq_eq_false_iff_ne.1 e)⟩
end
def zfw:List UInt8:=[69,66,65,68,80,78,71]
def qtg (k:qb) (x:Int):List UInt8:=if k.Format=100/\(x=2\/x=3\/x=4\/x=8\/x=1) then zfw else []
def qu6 (E:KE) (C:LdK) (s:LdS) (k:qb) (P:Slc) (v:qj):KE×KR :=
 if ((qni C s).1:Int)≠0\/k.Action=113 then (E.idle,qad k ((qni C s).1:Int) (qtg k ((qni C s).1:Int)))
 else qki E.idle k ((qni C s).2.1:Int) ((qni C s).2.2.1:Int) (qni C s).2.2.2 P v
section
variable {w w':World} {base g n:Nat} {F F':KF} {E E':KE}
theorem EngT.load (h:EngM w base g F E n) {C:LdK} {s s':LdS} (hl:E.ld=some (C,s)) {S':Nat->Prop} (ha:LdA w' base F.lg F.gd C s' S') (hS:∀k,S' k->F.LS k\/w.heap.size<=k) (hc:Chg F.LS w w') :
  EngT base g w F { F with LS:=S' } { E with ld:=some (C,s') } n w':=by
 have old:∀k,k<w.heap.size->¬F.LS k->¬S' k:=λk hk hn hs=>by
  rcases hS k hs with h1 | h1
  ·exact hn h1
  ·omega
 have hb:Blk w' g zC (qor { F with LS:=S' } { E with ld:=some (C,s') }):=by
  have h1:=h.blk.chg hc h.dg;have e:qor { F with LS:=S' } { E with ld:=some (C,s') }=qor F E:=by
   unfold qor;rw [hl];rfl
  rw [e];exact h1
 refine ⟨⟨hb,h.hg,h.st.keep hc h.ds.1 h.ds.2 (λp hp k hk e=>h.di k ⟨p,hp,hk⟩ e),h.ok,h.hs,h.tb.chg hc h.dt,h.tl,λC1 s1 h1=>?_,(λh1=>by cases h1),old _ h.blk.lt h.dg,⟨old _ h.st.blk.lt h.ds.1,old _ h.st.map.lt h.ds.2⟩,λk hk=>old _ (h.tb.lt k hk).2 (h.dt k hk),λk hk=>?_⟩,?_,hc.mono λk _ hk=>.inr (.inr (.inr hk)),hS⟩
 ·cases h1;exact ⟨ha,(h.lo C s hl).2⟩
 ·obtain ⟨p,hp,hb⟩:=hk;exact old _ ((h.st.img p hp).lt k hb).2 (h.di k ⟨p,hp,hb⟩)
 ·rintro k (hk | hk | hk | hk)
  ·exact .inl (.inl hk)
  ·exact .inl (.inr (.inl hk))
  ·exact .inl (.inr (.inr (.inl hk)))
  ·rcases hS k hk with h1 | h1
   ·exact .inl (.inr (.inr (.inr h1)))
   ·exact .inr h1
theorem q2w (k:qb) (x:Int):(qtg k x).length<=100000:=by
 unfold qtg;split
 ·show (7:Nat)<=_;omega
 ·show (0:Nat)<=_;omega
theorem zb3 (h:EngM w base g F E n) (hn:n<=900) (hT:Tab w) (h4:4<=base) {C:LdK} {s:LdS} (hl:E.ld=some (C,s)) (hsm:s.b.length<=32000) {k:qb} (hw:qe0 (toL k)) (v:qj) {K:qc->Ub}
  (hK:∀P r F' w',qgi w' r (qu6 E C s k P v).2->EngT base g w F F' (qu6 E C s k P v).1 (n+2) w'->(∀j,r.Reply.blk=some j->w.heap.size<=j/\¬ke g F' j)->(∀j,P.blk=some j->w.heap.size<=j)->K r w'):Zn (some ⟨g,0,none⟩) k v w K:=by
 refine qgj _ _ _ ?_;simp only [onPtr_some];refine nwb λw1 hk1 hB1 hs1=>nwb λw2 hv2 hB2 hs2=>nwb λw3 ht3 hB3 hs3=>?_;have B3:=kT hB1 hB2 hB3;have hk3:=(hk1.ext hB2).ext hB3;have hv3:=hv2.ext hB3;have h3:=h.ext B3;have z1:=hB1.size;have z2:=hB2.size;have z3:=hB3.size;have lk3:=hk3.lt;have lv3:=hv3.lt;have lt3:=ht3.lt;have nE:∀{b:Nat},w.heap.size<=b->¬ke g F b:=λhb hk=>by have:=(h.below _ hk).2;omega
 have nLS:∀{b:Nat},w.heap.size<=b->¬F.LS b:=λhb hk=>nE hb (.inr (.inr (.inr hk)));have tys:qcd q4:=by decide
 have tyk:qcd qN:=by decide
 refine qM (x:=some ⟨F.lg,0,none⟩) (by have:=h3.blk.cells 3 _ rfl;rw [hl] at this;exact this) ?_;obtain ⟨hld,hcf⟩:=h3.lo C s hl;refine q7u hld (le_trans h3.hg (Nat.le_of_lt h3.blk.lt)) hcf hsm λm S' w4 hld4 hm4 hmS hS' hc4=>?_;have h4e:=(EngT.of_ext h B3).trans (EngT.load h3 hl hld4 hS' hc4);have hk4:=hk3.chg hc4 (nLS (le_refl _));have hv4:=hv3.chg hc4 (nLS (by omega));have ht4:=ht3.chg hc4 (nLS (by omega));have z4:=hc4.size;refine jQ (vs:=qa.rep.cells m) rfl λw6 hm6 hB6 hs6=>?_;have hk6:=hk4.ext hB6;have hv6:=hv4.ext hB6;have ht6:=ht4.ext hB6;have h6:=h4e.ext hB6;have hmo6:=hm4.2.2.ext hB6;have z6:=hB6.size;obtain ⟨hmW,hmH,hmo⟩:=hm4;obtain ⟨x,hx⟩:∃x:Int,x=((qni C s).1:Int):=⟨_,rfl⟩;rw [<-hx];refine jpO λJ1 hJ1=>?_;have j1:J1 (qU (qtg k x),()) w6:=by
  refine hJ1 _ _ (jpO λJ2 hJ2=>?_);refine qw3 h6.m λF7 w7 h7 hq7 htg7=>?_;have nS6:∀{b:Nat} {t:TypeId} {vs:List Value},w.heap.size<=b->b<w3.heap.size->Blk w6 b t vs->qcd t->¬ke g { F with LS:=S' } b:=λh1 h2 hb ht=>h6.m.not_in hb ht λhs=>by
   rcases hS' _ hs with h5 | h5
   ·exact nLS h1 h5
   ·omega
  have hE7:=h6.trans h7;have hk7:=hk6.chg h7.chg (nS6 (le_refl _) (by omega) hk6 (by decide));have hv7:=hv6.chg h7.chg (nS6 (by omega) (by omega) hv6 (by decide));have ht7:=ht6.chg h7.chg (nS6 (by omega) (by omega) ht6 (by decide));have hm7:Blk w7 w4.heap.size qt (qa.rep.cells m):=hm6.chg h7.chg (h6.m.not_in hm6 (by decide) λhs=>by
   have:=(hld4.lt _ hs).2;omega)
  have hT7:=hT.stepK h h4 hE7;have nLS7:∀{b:Nat},w.heap.size<=b->b<w3.heap.size->¬F7.LS b:=λh1 h2 hs=>by
   have:∀j,¬F7.LS j:=h7.m.nl rfl;exact this _ hs
  have lt7:=ht7.lt;refine jpO λJ3 hJ3=>?_;have j3:J3 (decide (x≠0\/k.Action=113),()) w7:=by
   refine hJ3 _ _ ?_;by_cases hb:x≠0\/k.Action=113
   ·rw [dTq hb];refine cT rfl (qw (r:=qb.rep) (x:=k) hk7.cells ?_);refine yW hT7 hw x (qtg k x) (q2w k x) λq w8 hq hB8 hqb=>?_;have ht8:=ht7.ext hB8;refine zw (r:=qc.rep) (x:=⟨q,0,0,false⟩) ht8 rfl rfl λw9 hc9 hs9=>?_;have ek:qu6 E C s k ⟨none,0,0⟩ v=(E.idle,qad k x (qtg k x)):=by
     unfold qu6;rw [<-hx,if_pos hb]
    have z7:=h7.chg.size;refine hK ⟨none,0,0⟩ _ F7 w9 ?_ ?_ (λj hj=>⟨by have:=hqb j hj;omega,λhs=>by have:=(h7.m.below _ hs).2;have:=hqb j hj;omega⟩) λj hj=>by cases hj
    ·rw [ek];exact ⟨hq.chg hc9 λa ha e=>by have:=hqb a.block (slk.2 ⟨a,ha,rfl⟩);omega,rfl,rfl,rfl⟩
    ·rw [ek];exact ((hE7.ext hB8).up (by omega)).other ht8 tys (nLS7 (by omega) (by omega)) (by omega) hc9
   ·rw [dFq hb];refine cF rfl (hJ2 _ _ ?_);refine qw (r:=qb.rep) (x:=k) hk7.cells (qw (r:=qa.rep) (x:=m) hm7.cells (qw (r:=qj.rep) (x:=v) hv7.cells ?_));have hmo7:=hmo6.chg h7.chg λj hj hs=>by
     obtain ⟨cs,hcs⟩:=hmo6.blk_t hj;exact h6.m.not_in4 hcs (by decide) (hmS j hj) hs
    refine q7y h7.m hn hT7 h4 hw hmo7.rd (λa ha hs=>?_) v λP r F9 w9 hr hE9 hrb hPb=>?_
    ·have hj:m.P.blk=some a.block:=slk.2 ⟨a,ha,rfl⟩;obtain ⟨cs,hcs⟩:=hmo7.blk_t hj;exact h7.m.not_in4 hcs (by decide) (h7.m.nl rfl _) hs
    ·have n3:¬ke g F7 w2.heap.size:=h7.m.not_in ht7 tys (nLS7 (by omega) (by omega));have ht9:=ht7.chg hE9.chg n3;have ek:∀P,qu6 E C s k P v=qki E.idle k m.W m.H (qni C s).2.2.2 P v:=by
      intro P;unfold qu6;rw [<-hx,if_neg hb,hmW,hmH]
     refine zw (r:=qc.rep) (x:=r) ht9 rfl rfl λw10 hc10 hs10=>?_;have z7:=h7.chg.size;have nF9:¬F9.LS w2.heap.size:=λhs=>by
      rcases hE9.ls _ hs with h1 | h1
      ·exact nLS7 (by omega) (by omega) h1
      ·omega
     refine hK P r F9 w10 ?_ ?_ (λj hj=>⟨by have:=(hrb j hj).1;omega,(hrb j hj).2⟩) λj hj=>by have:=hPb j hj;omega
     ·rw [ek];exact ⟨hr.1.chg hc10 λa ha e=>by have:=(hrb a.block (slk.2 ⟨a,ha,rfl⟩)).1;omega,hr.2⟩
     ·rw [ek];exact (hE7.trans hE9).other ht9 tys nF9 (by omega) hc10
  by_cases hx0:x=0
  ·refine cF (by simpa using hx0) (lI (x:=k.Action) (hk7.cells 0 _ rfl) ?_);have e:(k.Action==113)=decide (x≠0\/k.Action=113):=by
    by_cases ha:k.Action=113
    ·rw [dTq (.inr ha)];exact beq_iff_eq.2 ha
    ·rw [dFq (λhh=>hh.elim (λh=>h hx0) ha)];exact beq_eq_false_iff_ne.2 ha
   rw [e];exact j3
  ·rw [dTq (.inl hx0)] at j3;exact cT (by simpa using hx0) j3
 have e1:(⟨#[69,66,65,68,80,78,71]⟩:ByteArray)=qU zfw:=rfl;have e2:(⟨#[]⟩:ByteArray)=qU []:=rfl;rw [e1,e2];unfold qtg at j1;refine lI (x:=k.Format) (hk6.cells 5 _ rfl) (cO (λf=>?_) λf=>?_)
 ·have f:=eq_of_beq f;have yes:(x=2\/x=3\/x=4\/x=8\/x=1)->J1 (qU zfw,()) w6:=λh=>by rw [if_pos ⟨f,h⟩] at j1;exact j1
  refine cO (λa=>cT a (yes (.inl (eq_of_beq a)))) λa=>?_;refine cO (λb=>cT b (yes (.inr (.inl (eq_of_beq b))))) λb=>?_;refine cO (λc=>cT c (yes (.inr (.inr (.inl (eq_of_beq c)))))) λc=>?_;refine cO (λd=>cT d (yes (.inr (.inr (.inr (.inl (eq_of_beq d))))))) λd=>?_;refine cO (λe=>yes (.inr (.inr (.inr (.inr (eq_of_beq e)))))) λe=>?_;rw [if_neg (λhh=>by rcases hh.2 with h | h | h | h | h<;>simp [h] at a b c d e)] at j1;exact j1
 ·rw [if_neg (λhh=>(beq_eq_false_iff_ne.1 f) hh.1)] at j1;exact j1
end
def Q5 (f k:qb):qb:=if k.Quiet≠0 then { f with Quiet:=k.Quiet } else f
def qme (E:KE) (C:LdK) (s:LdS) (ts:List UInt8):KE:={ E with ld:=some (C,Zi C s ts) }
def qb8 (E:KE) (C:LdK) (s:LdS) (k:qb) (ts:List UInt8) (P:Slc) (v:qj):KE×KR :=
 if (Zi C s ts).err≠0 then ((qme E C s ts).idle,qad (Q5 E.first k) (((Zi C s ts).err:Nat):Int) [])
 else if ((qme E C s ts).reserve 0).2≠0 then (((qme E C s ts).reserve 0).1.idle,qad (Q5 E.first k) ((qme E C s ts).reserve 0).2 [])
 else if k.More=1 then (((qme E C s ts).reserve 0).1,kr0)
 else qu6 ((qme E C s ts).reserve 0).1 C (Zi C s ts) (Q5 E.first k) P v
theorem q31 (E:KE) (m:Int):(E.reserve m).1.ld=E.ld:=by
 unfold KE.reserve;split
 ·rfl
 ·split<;>rfl
theorem q2k {f k:qb} (hf:qe0 (toL f)) (hk:qe0 (toL k)):qe0 (toL (Q5 f k)):=by
 unfold Q5;split
 ·have e:toL { f with Quiet:=k.Quiet }=(toL f).set 4 k.Quiet:=rfl;intro i;rw [e,List.getElem?_set];by_cases hi:4=i
  ·rw [if_pos hi,if_pos (by rw [qyh];omega)];exact hk 4
  ·rw [if_neg hi];exact hf i
 ·exact hf
section
variable {w w':World} {base g n:Nat} {F F':KF} {E E':KE}
theorem q6k (h:EngM w base g F E n) (hn:n<=900) (hT:Tab w) (h4:4<=base) {C:LdK} {s:LdS} (hl:E.ld=some (C,s)) (hov:s.over=false) {text:Slc} {ts:List UInt8} (hpot:qj4 s+3*ts.length<=120000) (ht:Rd qn w text ts) (htS:∀k,text.blk=some k->ts≠[]->¬F.LS k)
  {k:qb} (hwf:qe0 (toL E.first)) (hwk:qe0 (toL k)) (v:qj) {K:qc->Ub}
  (hK:∀P r F' w',qgi w' r (qb8 E C s k ts P v).2->EngT base g w F F' (qb8 E C s k ts P v).1 (n+2) w'->(∀j,r.Reply.blk=some j->w.heap.size<=j/\¬ke g F' j)->(∀j,P.blk=some j->w.heap.size<=j)->K r w'):kL (some ⟨g,0,none⟩) k text v w K:=by
 refine qeb _ _ _ _ ?_;simp only [onPtr_some];refine nwb λw1 hk1 hB1 hs1=>nwb λw2 hv2 hB2 hs2=>nwb λw3 ht3 hB3 hs3=>?_;have B3:=kT hB1 hB2 hB3;have h3:=h.ext B3;refine qw (r:=qb.rep) (x:=E.first) (h3.blk.sub 4 _ rfl) ?_;refine jQ (vs:=qb.rep.cells E.first) rfl λw5 hf5 hB5 hs5=>?_;have B5:=zp B3 hB5;have hk5:=((hk1.ext hB2).ext hB3).ext hB5;have hv5:=(hv2.ext hB3).ext hB5;have ht5:=ht3.ext hB5;have z1:=hB1.size;have z2:=hB2.size;have z3:=hB3.size;have z5:=hB5.size;have lf5:=hf5.lt;have nE:∀{b:Nat},w.heap.size<=b->¬ke g F b:=λhb hk=>by have:=(h.below _ hk).2;omega
 have nLS:∀{b:Nat},w.heap.size<=b->¬F.LS b:=λhb hk=>nE hb (.inr (.inr (.inr hk)));have tys:qcd q4:=by decide
 have hwq:=q2k hwf hwk;refine jpO λJ1 hJ1=>?_;have j1:∀wx,Uc w wx->w5.heap.size<=wx.heap.size->Blk wx w3.heap.size qN (qb.rep.cells (Q5 E.first k))->Blk wx w.heap.size qN (qb.rep.cells k)->Blk wx w1.heap.size zI (qj.rep.cells v)->Blk wx w2.heap.size q4 [(.slice none 0 0),(Ua 0),(Ua 0),(.bool false)]->J1 (()) wx:=by
  intro w6 B6 z56 hf6 hk6 hv6 ht6;refine hJ1 _ _ ?_;have h6:=h.ext B6;refine qM (x:=some ⟨F.lg,0,none⟩) (by have:=h6.blk.cells 3 _ rfl;rw [hl] at this;exact this) ?_;obtain ⟨hld,hcf⟩:=h6.lo C s hl;refine q7m hld (le_trans h6.hg (Nat.le_of_lt h6.blk.lt)) hov (ht.ext B6) htS hpot λS' w7 hld7 hov7 hpot7 hS' hc7=>?_;have h7:=(EngT.of_ext h B6).trans (EngT.load h6 hl hld7 hS' hc7);have lf6:=hf6.lt;have z7:=hc7.size;have hf7:=hf6.chg hc7 (nLS (by omega));have hk7:=hk6.chg hc7 (nLS (le_refl _));have hv7:=hv6.chg hc7 (nLS (by omega));have ht7:=ht6.chg hc7 (nLS (by omega));have hT7:=hT.stepK h h4 h7;refine jpO λJ2 hJ2=>?_;have bad:∀(x:Int) (E2:KE) (F8:KF) (w8:World),x≠0->EngT base g w F F8 E2 n w8->w7.heap.size<=w8.heap.size->(∀j,F8.LS j->S' j)->Blk w8 w3.heap.size qN (qb.rep.cells (Q5 E.first k))->Blk w8 w2.heap.size q4 [(.slice none 0 0),(Ua 0),(Ua 0),(.bool false)] ->
    (∀P,qb8 E C s k ts P v=(E2.idle,qad (Q5 E.first k) x []))->J2 (x,()) w8:=by
   intro x E2 F8 w8 hx h8 z78 hLS8 hf8 ht8 em;refine hJ2 _ _ (cT (by simpa using hx) ?_);have nS:∀{b:Nat},w.heap.size<=b->b<w5.heap.size->¬F8.LS b:=λh1 h2 hs=>by
    rcases hS' _ (hLS8 _ hs) with h5 | h5
    ·exact nLS h1 h5
    ·omega
   refine qw3 h8.m λF9 w9 h9 hq9 htg9=>?_;have hE9:=h8.trans h9;have hf9:=hf8.chg h9.chg (h8.m.not_in hf8 (by decide) (nS (by omega) (by omega)));have ht9:=ht8.chg h9.chg (h8.m.not_in ht8 (by decide) (nS (by omega) (by omega)));have z9:=h9.chg.size;refine qw (r:=qb.rep) (x:=Q5 E.first k) hf9.cells ?_;refine yW (hT.stepK h h4 hE9) hwq x [] (by simp) λq w10 hq hB10 hqb=>?_;have ht10:=ht9.ext hB10;refine zw (r:=qc.rep) (x:=⟨q,0,0,false⟩) ht10 rfl rfl λw11 hc11 hs11=>?_;refine hK ⟨none,0,0⟩ _ F9 w11 ?_ ?_ (λj hj=>⟨by have:=hqb j hj;omega,λhs=>by have:=(hE9.m.below _ hs).2;have:=hqb j hj;omega⟩) λj hj=>by cases hj
   ·rw [em];exact ⟨hq.chg hc11 λa ha e=>by have:=hqb a.block (slk.2 ⟨a,ha,rfl⟩);omega,rfl,rfl,rfl⟩
   ·rw [em];exact ((hE9.ext hB10).up (by omega)).other ht10 tys (λhs=>h9.m.nl rfl _ hs) (by omega) hc11
  by_cases he:(Zi C s ts).err=0
  ·refine cT (by rw [he];rfl) ?_;have hz7:EngM w7 base g { F with LS:=S' } (qme E C s ts) n:=h7.m;refine qsr hz7 (by omega) 0 λF8 w8 h8 hlg8 hgd8 hLS8=>?_;have hE8:=h7.trans h8;have z8:=h8.chg.size;have nS:∀{b:Nat},w.heap.size<=b->b<w5.heap.size->¬S' b:=λh1 h2 hs=>by
    rcases hS' _ hs with h5 | h5
    ·exact nLS h1 h5
    ·omega
   have hf8:=hf7.chg h8.chg (hz7.not_in hf7 (by decide) (nS (by omega) (by omega)));have hk8:=hk7.chg h8.chg (hz7.not_in hk7 (by decide) (nS (le_refl _) (by omega)));have hv8:=hv7.chg h8.chg (hz7.not_in hv7 (by decide) (nS (by omega) (by omega)));have ht8:=ht7.chg h8.chg (hz7.not_in ht7 (by decide) (nS (by omega) (by omega)));by_cases hx:((qme E C s ts).reserve 0).2=0
   ·rw [hx];refine hJ2 _ _ (cF rfl (lI (x:=k.More) (hk8.cells 11 _ rfl) ?_));have nF8:∀{b:Nat},w.heap.size<=b->b<w5.heap.size->¬F8.LS b:=λh1 h2 hs=>nS h1 h2 (by rw [hLS8] at hs;exact hs);by_cases hm:k.More=1
    ·refine cT (by simpa using hm) ?_;refine zw (r:=qc.rep) (x:=⟨⟨none,0,0⟩,0,0,false⟩) ht8 rfl rfl λw9 hc9 hs9=>?_;have em:∀P,qb8 E C s k ts P v=(((qme E C s ts).reserve 0).1,kr0):=λP=>by
      unfold qb8;rw [if_neg (λhh=>hh he),if_neg (λhh=>hh hx),if_pos hm]
     refine hK ⟨none,0,0⟩ _ F8 w9 ?_ ?_ (λj hj=>by cases hj) λj hj=>by cases hj
     ·rw [em];exact qgi.nil _
     ·rw [em];exact (hE8.up (by omega)).other ht8 tys (nF8 (by omega) (by omega)) (by omega) hc9
    ·refine cF (by simpa using hm) (qw (r:=qb.rep) (x:=Q5 E.first k) hf8.cells (qw (r:=qj.rep) (x:=v) hv8.cells ?_));have hl8:((qme E C s ts).reserve 0).1.ld=some (C,Zi C s ts):=q31 _ _;have hbl:(Zi C s ts).b.length<=32000:=by
      unfold qj4 at hpot7 hpot;omega
     refine zb3 h8.m hn (hT.stepK h h4 hE8) h4 hl8 hbl hwq v λP r F9 w9 hr h9 hrb hPb=>?_;have ht9:=ht8.chg h9.chg (h8.m.not_in ht8 (by decide) (nF8 (by omega) (by omega)));have lt8:=ht8.lt;refine zw (r:=qc.rep) (x:=r) ht9 rfl rfl λw10 hc10 hs10=>?_;have em:qb8 E C s k ts P v=qu6 ((qme E C s ts).reserve 0).1 C (Zi C s ts) (Q5 E.first k) P v:=by
      unfold qb8;rw [if_neg (λhh=>hh he),if_neg (λhh=>hh hx),if_neg hm]
     refine hK P r F9 w10 ?_ ?_ (λj hj=>⟨by have:=(hrb j hj).1;omega,(hrb j hj).2⟩) λj hj=>by have:=hPb j hj;omega
     ·rw [em];exact ⟨hr.1.chg hc10 λa ha e=>by have:=(hrb a.block (slk.2 ⟨a,ha,rfl⟩)).1;omega,hr.2⟩
     ·rw [em];refine (hE8.trans h9).other ht9 tys (λhs=>?_) (by omega) hc10;rcases h9.ls _ hs with h1 | h1
      ·exact nF8 (by omega) (by omega) h1
      ·omega
   ·refine bad _ _ F8 w8 hx hE8 z8 (λj hj=>by rw [hLS8] at hj;exact hj) hf8 ht8 λP=>?_;unfold qb8;rw [if_neg (λhh=>hh he),if_pos hx]
  ·have hne:(((Zi C s ts).err:Nat):Int)≠0:=by omega
   refine cF (by simpa using he) ?_;refine bad _ (qme E C s ts) { F with LS:=S' } w7 hne h7 (le_refl _) (λj hj=>hj) hf7 ht7 λP=>?_;unfold qb8;rw [if_pos he]
 refine lI (x:=k.Quiet) (hk5.cells 4 _ rfl) ?_;by_cases hq:k.Quiet=0
 ·refine cF (by simpa using hq) (j1 w5 B5 (le_refl _) ?_ hk5 hv5 ht5);have:Q5 E.first k=E.first:=by unfold Q5;rw [if_neg (λhh=>hh hq)]
  rw [this];exact hf5
 ·refine cT (by simpa using hq) (lI (x:=k.Quiet) (hk5.cells 4 _ rfl) ?_);show stK ⟨w3.heap.size,4,none⟩ _ _ _;refine qz hf5 (by show (4+1:Nat)<=22;omega) λw6 hf6 hg6 hs6=>?_;have hc6:Chg (λi=>i=w3.heap.size) w5 w6:=Chg.of_grown hg6 λk hk=>by cases hk;rfl
  have:Q5 E.first k={ E.first with Quiet:=k.Quiet }:=by unfold Q5;rw [if_pos hq]
  refine j1 w6 (B5.trans (hc6.below B5.size λi hi e=>by omega)) (by omega) ?_ (hk5.chg hc6 λe=>by omega) (hv5.chg hc6 λe=>by omega) (ht5.chg hc6 λe=>by omega);rw [this];exact hf6
end
def qvo (E:KE) (k:qb):LdK:=⟨k,E.quota.toNat,(yb k).2⟩
def zbb (E:KE) (k:qb):KE:={ E with ld:=some (qvo E k,ld0),first:=k }
def qiq (E:KE) (k:qb) (ts:List UInt8) (P:Slc) (v:qj):KE×KR :=
 if qrh k E.quota≠0 then (E,qad k ((qrh k E.quota:Nat):Int) []) else qb8 (zbb E k) (qvo E k) ld0 k ts P v
theorem q30 (F:KF) (E:KE) (k:qb):putL (qor F E) 4 (qb.rep.cells k)=qor F { E with first:=k }:=by kernel_rfl
theorem zcd (F:KF) (E:KE) (lg gd:Nat) (LS:Nat->Prop) (x:LdK×LdS):putL (qor F E) 3 [.pointer (some ⟨lg,0,none⟩)]=qor { F with lg:=lg,gd:=gd,LS:=LS } { E with ld:=some x }:=rfl
theorem q0i (F:KF) (E:KE):(qor F E).length=26:=rfl
section
variable {w w':World} {base g n:Nat} {F F':KF} {E E':KE}
theorem LdA.weak {B lg gd:Nat} {C:LdK} {s:LdS} {S:Nat->Prop} (h:LdA w B lg gd C s S) (hb:base<=B):LdA w base lg gd C s S:=by
 obtain ⟨⟨p,h1,h2⟩,h3,h4,h5,h6,h7⟩:=h;refine ⟨⟨p,h1,?_⟩,h3,h4,h5,h6,λk hk=>⟨le_trans hb (h7 k hk).1,(h7 k hk).2⟩⟩;rcases h2 with h2 | ⟨x,a,b,c,d,e⟩
 ·exact .inl h2
 ·exact .inr ⟨x,a.base hb,b.base hb,c,d,e⟩
theorem q3j (h:EngM w base g F E n) (hn:n<=900) (hT:Tab w) (h4:4<=base) (hl:E.ld=none) (hq:E.quota<=100000) {text:Slc} {ts:List UInt8} (hts:ts.length<=40000) (ht:Rd qn w text ts) (htg:∀j,text.blk=some j->ts≠[]->¬ke g F j)
  {k:qb} (hwk:qe0 (toL k)) (hraw:k.Format≠100/\k.Zip≠122) (v:qj) {K:qc->Ub}
  (hK:∀P r F' w',qgi w' r (qiq E k ts P v).2->EngT base g w F F' (qiq E k ts P v).1 (n+2) w'->(∀j,r.Reply.blk=some j->w.heap.size<=j/\¬ke g F' j)->(∀j,P.blk=some j->w.heap.size<=j)->K r w'):y9 (some ⟨g,0,none⟩) k text v w K:=by
 refine qb5 _ _ _ _ ?_;simp only [onPtr_some];refine nwb λw1 hk1 hB1 hs1=>nwb λw2 hv2 hB2 hs2=>nwb λw3 ht3 hB3 hs3=>?_;have B3:=(kT hB1 hB2 hB3).drew;have hk3:=((hk1.ext hB2).ext hB3).drew;have hv3:=(hv2.ext hB3).drew;have ht3:=ht3.drew;have h3:=h.ext B3;have z1:=hB1.size;have z2:=hB2.size;have z3:=hB3.size;have lt3:=ht3.lt;have e3:w3.drew.heap.size=w3.heap.size:=rfl;have gl:=h.blk.lt;have nE:∀{b:Nat},w.heap.size<=b->¬ke g F b:=λhb hk=>by have:=(h.below _ hk).2;omega
 have nLS:∀{b:Nat},w.heap.size<=b->¬F.LS b:=λhb hk=>nE hb (.inr (.inr (.inr hk)));have tys:qcd q4:=by decide
 refine qw (r:=qb.rep) (x:=k) hk3.cells (lI (x:=E.quota) (h3.blk.cells 0 _ rfl) ?_);refine q8n (λhe w4 hB4=>?_) λhe lg gd w4 hld hB4=>?_
 ·refine cT (by simp;omega) (qw (r:=qb.rep) (x:=k) (hk3.ext hB4).cells ?_);have B4:=zp B3 hB4;refine yW (hT.ext B4) hwk _ [] (by simp) λq w5 hq hB5 hqb=>?_;have ht5:=(ht3.ext hB4).ext hB5;have em:∀P,qiq E k ts P v=(E,qad k ((qrh k E.quota:Nat):Int) []):=λP=>by unfold qiq;rw [if_pos he]
  have z4:=hB4.size;refine zw (r:=qc.rep) (x:=⟨q,0,0,false⟩) ht5 rfl rfl λw6 hc6 hs6=>?_;refine hK ⟨none,0,0⟩ _ F w6 ?_ ?_ (λj hj=>⟨by have:=hqb j hj;omega,λhs=>by have:=(h.below _ hs).2;have:=hqb j hj;omega⟩) λj hj=>by cases hj
  ·rw [em];exact ⟨hq.chg hc6 λa ha e=>by have:=hqb a.block (slk.2 ⟨a,ha,rfl⟩);omega,rfl,rfl,rfl⟩
  ·rw [em];exact ((EngT.of_ext h (zp B4 hB5)).up (by omega)).other ht5 tys (nLS (by omega)) (by omega) hc6
 ·refine cF rfl ?_;have B4:=(zp B3 hB4).drew;have h4e:=h.ext B4;have hk4:=(hk3.ext hB4).drew;have hv4:=(hv3.ext hB4).drew;have ht4:=(ht3.ext hB4).drew;have z4:=hB4.size;have e4:w4.drew.heap.size=w4.heap.size:=rfl;refine qw (r:=qb.rep) (x:=k) hk4.cells ?_;show stK ⟨g,3,none⟩ _ _ _;refine qz h4e.blk (by rw [q0i];show (3+1:Nat)<=26;omega) λw7 hb7 hg7 hs7=>?_;have hc7:Chg (λi=>i=g) w4.drew w7:=Chg.of_grown hg7 λk hk=>by cases hk;rfl
  have hk7:=hk4.chg hc7 λe=>by omega
  refine ⟨hk7.cells,?_⟩;show stK ⟨g,4,none⟩ _ _ _;have e22:(qb.rep.cells k).length=22:=rfl
  let F1:KF:={ F with lg:=lg,gd:=gd,LS:=λi=>i=lg\/i=gd }
  have hb7':Blk w7 g zC (qor F1 { E with ld:=some (qvo E k,ld0) }):=by
   rw [zcd F E lg gd (λi=>i=lg\/i=gd) (qvo E k,ld0)] at hb7;exact hb7
  refine qz hb7' (by rw [e22,q0i];omega) λw8 hb8 hg8 hs8=>?_;have hc8:Chg (λi=>i=g) w7 w8:=Chg.of_grown hg8 λk hk=>by cases hk;rfl
  have hb8':Blk w8 g zC (qor F1 (zbb E k)):=by
   rw [q30] at hb8;exact hb8
  have hc:Chg (λi=>i=g) w4.drew w8:=hc7.trans hc8 λi _ hi=>hi;have hk8:=hk4.chg hc λe=>by omega
  have hv8:=hv4.chg hc λe=>by omega
  have ht8:=ht4.chg hc λe=>by omega
  have llt:∀j,(j=lg\/j=gd)->w3.heap.size<=j/\j<w4.heap.size:=λj hj=>by have:=hld.lt j hj;omega
  have hld8:LdA w8 base lg gd (qvo E k) ld0 (λi=>i=lg\/i=gd):=by
   have h1:LdA w4.drew w3.drew.heap.size lg gd (qvo E k) ld0 (λi=>i=lg\/i=gd):=hld.ext (vj w4);exact (h1.chg hc λj hj e=>by have:=llt j hj;omega).weak (by have:=h.hg;omega)
  have hq0:0<=E.quota:=by
   rcases Int.lt_or_le E.quota 0 with hlt | hge
   ·exfalso;unfold qrh at he;rw [if_pos (.inl hlt)] at he;cases he
   ·exact hge
  have hcf:CfgOk (qvo E k):=⟨by show qrh k ((E.quota.toNat:Nat):Int)=0;rw [show ((E.quota.toNat:Nat):Int)=E.quota by omega];exact he,rfl,by show E.quota.toNat<=100000;omega,hraw⟩;have old:∀{j:Nat},j<w.heap.size->¬(j=lg\/j=gd):=λhj e=>by have:=llt _ e;omega
  have h8:EngT base g w F F1 (zbb E k) n w8:=by
   refine ⟨⟨hb8',h.hg,h4e.st.keep hc (λe=>h.g_sg e.symm) (λe=>h.g_sr e.symm) (λp hp k hk e=>h4e.img_g hp hk e),h.ok,h.hs,h4e.tb.chg hc ?_,h.tl,(λC s h1=>?_),(λh1=>by cases h1),old gl,⟨old h.st.blk.lt,old h.st.map.lt⟩,(λj hj=>old (h.tb.lt j hj).2),λj hj=>?_⟩,?_,?_,λj hj=>.inr (by have:=llt j hj;omega)⟩
   ·rintro j (hj | hj) e
    ·exact h.g_tg (e.symm.trans hj)
    ·exact h.g_q j hj e
   ·cases h1;exact ⟨hld8,hcf⟩
   ·obtain ⟨p,hp,hb⟩:=hj;exact old ((h.st.img p hp).lt j hb).2
   ·rintro j (hj | hj | hj | hj)
    ·exact .inl (.inl hj)
    ·exact .inl (.inr (.inl hj))
    ·exact .inl (.inr (.inr (.inl hj)))
    ·exact .inr (by have:=llt j hj;omega)
   ·exact (Chg.of_ext (S:=ke g F) B4).trans hc λi _ hi=>.inl hi
  have ht8w:Rd qn w8 text ts:=by
   refine YU (ht.ext B4) hc λhp a ha e=>?_;exact htg a.block (slk.2 ⟨a,ha,rfl⟩) (λh0=>by rw [h0] at hp;cases hp) (.inl e)
  refine qw (r:=qb.rep) (x:=k) hk8.cells (qw (r:=qj.rep) (x:=v) hv8.cells ?_);refine q6k h8.m hn (hT.stepK h h4 h8) h4 (C:=qvo E k) (s:=ld0) rfl rfl (by show qj4 ld0+_<=_;have:qj4 ld0=0:=rfl;omega) ht8w (λj hj hne hs=>?_) hwk hwk v λP r F9 w9 hr h9 hrb hPb=>?_
  ·obtain ⟨a,ha,hab⟩:=slk.1 hj;have:=qv8 ht (List.length_pos_iff.2 hne) a ha;exact old (hab ▸ this) hs
  ·have z8:=h8.chg.size;have lt8:=ht8.lt;have n2:¬F1.LS w2.heap.size:=λhs=>by have:=llt _ hs;omega
   have ht9:=ht8.chg h9.chg (h8.m.not_in ht8 tys n2);refine zw (r:=qc.rep) (x:=r) ht9 rfl rfl λw10 hc10 hs10=>?_;have em:qiq E k ts P v=qb8 (zbb E k) (qvo E k) ld0 k ts P v:=by
    unfold qiq;rw [if_neg (λhh=>hh he)]
   refine hK P r F9 w10 ?_ ?_ (λj hj=>⟨by have:=(hrb j hj).1;omega,(hrb j hj).2⟩) λj hj=>by have:=hPb j hj;omega
   ·rw [em];exact ⟨hr.1.chg hc10 λa ha e=>by have:=(hrb a.block (slk.2 ⟨a,ha,rfl⟩)).1;omega,hr.2⟩
   ·rw [em];refine (h8.trans h9).other ht9 tys (λhs=>?_) (by omega) hc10;rcases h9.ls _ hs with h1 | h1
    ·exact n2 h1
    ·omega
end
def JR (c:UInt8) (l:List UInt8):List UInt8:=l.takeWhile λb=>b !=c
def V4 (c:UInt8) (l:List UInt8):List UInt8:=(l.dropWhile λb=>b !=c).drop 1
theorem zf6 (c:UInt8):∀l:List UInt8,(c∈l/\l=JR c l++c::V4 c l/\∀b∈JR c l,b≠c)\/((∀b∈l,b≠c)/\JR c l=l/\V4 c l=[])
 | []=>.inr ⟨by simp,rfl,rfl⟩
 | b::l=>by
  by_cases hb:b=c
  ·subst hb;left;simp [JR,V4]
  ·have e1:JR c (b::l)=b::JR c l:=by simp [JR,hb]
   have e2:V4 c (b::l)=V4 c l:=by simp [V4,hb]
   rw [e1,e2];rcases zf6 c l with ⟨h1,h2,h3⟩ | ⟨h1,h2,h3⟩
   ·left;refine ⟨by simp [h1],by rw [List.cons_append,<-h2],λx hx=>?_⟩;rcases mem_cons.1 hx with rfl | hx
    ·exact hb
    ·exact h3 x hx
   ·right;refine ⟨λx hx=>?_,by rw [h2],h3⟩;rcases mem_cons.1 hx with rfl | hx
    ·exact hb
    ·exact h1 x hx
theorem qtl:∀(l:List UInt8) (c:UInt8),(∀b∈l,b≠c)->indexByte l c=-1
 | [],c,_=>by simp [indexByte]
 | b::x,c,h=>by
  have h1:=qtl x c λb hb=>h b (by simp [hb]);have h2:b≠c:=h b (by simp);simp [indexByte,h2,h1]
theorem q8a (c:UInt8) (l:List UInt8):(JR c l).length<=l.length:=List.Sublist.length_le (List.takeWhile_sublist _)
theorem qwq (c:UInt8) (l:List UInt8):(V4 c l).length<=l.length:=by
 unfold V4;have:=List.Sublist.length_le (List.dropWhile_sublist (l:=l) (λb=>b !=c));rw [List.length_drop];omega
section
variable {w:World}
theorem qre {s:Slc} {bs:List UInt8} (c:UInt8) {g o:Nat} (hs:Rd qn w s bs) (hsa:s.a=some ⟨g,o,none⟩) {sep:Slc} (hsep:Rd qn w sep [c]) (hl:bs.length<=1000000) {K:Int->Ub}
  (hK:K (indexByte bs c) w):qbb s sep w K:=by
 refine qo0 _ _ ?_;have hn:=hs.n;have hsn1:sep.n=1:=hsep.n;refine cF (by rw [hsn1];rfl) (cT (by rw [hsn1];rfl) ?_);refine hsep.ix (k:=1) rfl (by omega) (by rw [List.length_singleton];decide) λhcell=>?_;refine lI (x:=(c.toNat:Int)) (by simpa using hcell 0 _ rfl) ?_;have hc:Calls PG 358 #[.slice (some ⟨g,o,none⟩) s.n s.c,.int .u8 (c.toNat:Int)] w λe w'=>e=.returned (Ua (indexByte (Lib.bytesOf (bs.map λb=>(b.toNat:Int))) ((c.toNat:Int)).toNat.toUInt8))/\w'=w :=
  Tryz.bytes_IndexByte g o s.n s.c (bs.map λb=>(b.toNat:Int)) (c.toNat:Int) w (by simp;omega) (λi hi=>by
   have hil:i<bs.length:=by omega
   have:=hs.at_ i bs[i] (by simp [hil]) 0 (.int .u8 (bs[i].toNat:Int)) rfl;simp only [Slc.at_,hsa,getD_some,add_zero] at this;rw [qB,show i*qn.k=i from Nat.mul_one i] at this;rw [this,List.getD_eq_getElem?_getD,List.getElem?_map,List.getElem?_eq_getElem hil];rfl)
 have hbytes:Lib.bytesOf (bs.map λb=>(b.toNat:Int))=bs:=by
  unfold Lib.bytesOf;rw [List.map_map]
  conv=>rhs;rw [<-List.map_id bs]
  exact List.map_congr_left λb _=>by simp
 rw [hbytes,show ((c.toNat:Int)).toNat.toUInt8=c by simp] at hc;have he:s=⟨some ⟨g,o,none⟩,s.n,s.c⟩:=by cases s;cases hsa;rfl
 rw [he];refine Calls.mono hc ?_;rintro e w' ⟨rfl,rfl⟩;exact ⟨_,rfl,hK⟩
theorem q9g {s:Slc} {bs:List UInt8} (c:UInt8) {g o:Nat} (hs:Rd qn w s bs) (hsa:s.a=some ⟨g,o,none⟩) {sep:Slc} (hsep:Rd qn w sep [c]) (hl:bs.length<=1000000) {K:Slc->Slc->Bool->Ub}
  (hK:∀p q b w',Uc w w'->Rd qn w' p (JR c bs)->Rd qn w' q (V4 c bs)->p.a.isSome=true->K p q b w'):qi1 s sep w K:=by
 refine qsz _ _ ?_;refine qre c hs hsa hsep hl ?_;have hsn1:sep.n=1:=hsep.n;rcases zf6 c bs with ⟨h1,h2,h3⟩ | ⟨h1,h2,h3⟩
 ·have hix:indexByte bs c=(JR c bs).length:=by
   conv=>lhs;rw [h2]
   exact q1p _ _ _ h3
  have hlen:bs.length=(JR c bs).length+((V4 c bs).length+1):=by
   conv=>lhs;rw [h2]
   rw [length_append,length_cons]
  rw [hix];refine cT (by simp) ?_;refine hs.slK (E:=qn) (k:=1) (l:=0) (m:=(JR c bs).length) rfl (.inl ⟨rfl,rfl⟩) (.inr rfl) (by omega) (by omega) λhp=>?_;rw [hsn1,i64_in (by omega)];refine hs.slK (E:=qn) (k:=1) (l:=(JR c bs).length+1) (m:=bs.length) rfl (.inr (by simp)) (.inl ⟨rfl,rfl⟩) (by omega) (le_refl _) λhq=>?_;have e12:∀x y:List UInt8,bs=x++c::y->(bs.take x.length).drop 0=x/\(bs.take bs.length).drop (x.length+1)=y:=by
   intro x y h;rw [List.take_length,h];exact ⟨by simp,by simp⟩
  obtain ⟨e1,e2⟩:=e12 _ _ h2;rw [e1] at hp;rw [e2] at hq;have hcut:∀l m k,(cut s.a l m k).isSome=true:=λl m k=>by unfold cut;rw [hsa];split<;>rfl
  exact hK _ _ _ _ (vj w) hp.drew hq.drew (hcut _ _ _)
 ·rw [qtl bs c h1];refine cF (by decide) ?_;refine hK _ _ _ _ (Below.refl _ w) (by rw [h2];exact hs) (by rw [h3];exact Rd.nil _ _) (by rw [hsa];rfl)
theorem qqm {s:Slc} {bs:List UInt8} (hs:Rd qn w s bs) (hl:bs.length<=1000000) {K:Slc->Ub} (hK:∀q w',Rd qn w' q bs->(∀j,q.blk=some j->w.heap.size<=j)->Uc w w'->K q w'):Q9 s w K:=by
 cases ha:s.a with
 | some a=>exact q4v hs (by rw [ha];rfl) hl λq w' ho hB=>hK q w' ho.rd (λj hj=>(ho.lt j hj).1) hB
 | none =>
  refine qb7 _ ?_;refine cT (by rw [ha];rfl) ?_;have hn:=hs.n;have hbs:bs=[]:=by
   cases bs with
   | nil=>rfl
   | cons b bs=>exact absurd (hs.some_ (by simp)) (by rw [ha];simp)
  subst hbs;exact hK _ _ (Rd.nil _ _) (λj hj=>by cases hj) (Below.refl _ w)
theorem qy8 {s:Slc} {bs:List UInt8} {g o:Nat} (hs:Rd qn w s bs) (hsa:s.a=some ⟨g,o,none⟩) (hl:bs.length<=1000000) {K:Slc->Slc->Ub}
  (hK:∀p q w',Uc w w'->Rd qn w' p (JR 59 bs)->Rd qn w' q (V4 59 bs)->(∀j,p.blk=some j->w.heap.size<=j)->(∀j,q.blk=some j->w.heap.size<=j)->K p q w'):qei s w K:=by
 refine qrl _ ?_;refine q1s (bs:=[59]) rfl rfl (by decide) λsep w1 hsep _ hB1 hs1 _=>?_;refine q9g 59 (hs.ext hB1) hsa hsep hl λp q b w2 hB2 hp hq hpa=>?_;have B2:=zp hB1 hB2;refine qqm hp (by have:=q8a 59 bs;omega) λp2 w3 hp2 hpf hB3=>?_;have B3:=zp B2 hB3;refine qqm (hq.ext hB3) (by have:=qwq 59 bs;omega) λq2 w4 hq2 hqf hB4=>?_;have z2:=B2.size;have z3:=B3.size;exact hK p2 q2 w4 (zp B3 hB4) (hp2.ext hB4) hq2 (λj hj=>by have:=hpf j hj;omega) (λj hj=>by have:=hqf j hj;omega)
end
def zbz (G:Value) (f:Int->Bool):Prop:=∀(w1:World) (id:Int) (K:Bool->Ub),K (f id) w1->jd C G [.int .i64 id] [Kind.bool] w1 K
theorem q3y:zbz (.func (.func Z4) #[] #[]) λid=>decide (id>549755813888):=by
 intro w1 id K hK;have h:ZQ id w1 K:=by
  refine YH _ ?_;exact hK
 refine yY (by kernel_rfl) (Calls.mono h ?_);rintro e w' ⟨r,rfl,hk⟩;exact ⟨r,rfl,hk⟩
def qds (T:List Pl) (f:Int->Bool) (S:St) (id:Int):St:=if f id && !(T.any λp=>p.Image==id) then S.drop id else S
def q3i (T:List Pl) (f:Int->Bool) (S:St) (ids:List Int):St:=ids.foldl (qds T f) S
def kD (E:KE) (f:Int->Bool) (ids:List Int):KE:={ E with S:=q3i E.T f E.S ids }
theorem qzj (E:KE) (f:Int->Bool) (ids:List Int) (x:Int):kD E f (ids++[x])={ E with S:=qds E.T f (kD E f ids).S x }:=by
 unfold kD q3i;rw [List.foldl_append];rfl
section
variable {w w':World} {base g n:Nat} {F F':KF} {E E':KE}
theorem EngT.drop1 (h:EngM w base g F E n) {id:Int} (hst:StM w' base F.sg F.sr (E.S.drop id)) (hc:Chg (onS F.sg F.sr) w w'):EngT base g w F F { E with S:=E.S.drop id } n w' :=
 EngT.store h hst (qi9 h.ok id) (le_refl _) hc λk hk=>by
  obtain ⟨p,hp,hb⟩:=hk;exact .inl ⟨p,((qij _ _ _).1 hp).2,hb⟩
theorem q4n (h:EngM w base g F E n) (hn:n<=100000) {ids:Slc} {L:List Int} (hr:Rd zX w ids L) (hne:∀a,ids.a=some a->¬onS F.sg F.sr a.block) {G:Value} {f:Int->Bool} (hG:zbz G f) {K:Ub}
  (hK:∀w',EngT base g w F F (kD E f L) n w'->K w'):yC (some ⟨g,0,none⟩) ids G w K:=by
 refine qbx _ _ _ ?_;have hl:ids.n=L.length:=hr.n;have hlm:L.length<=9223372036854775807:=by rw [<-hl];exact le_trans hr.nc hr.cm
 refine lpR (λ(st:Int×Unit) w1=>∃k:Nat,st.1=(k:Int)/\k<=L.length/\EngT base g w F F (kD E f (L.take k)) n w1/\Rd zX w1 ids L) (λst=>L.length-st.1.toNat)
  ⟨0,rfl,zero_le _,EngT.refl h,hr⟩ ?_
 rintro ⟨i,u⟩ w1 ⟨k,hi,hk,h1,hr1⟩ I hI;dsimp only at hi ⊢;subst hi;refine cO (λe=>?_) λe=>?_
 ·have e:=oTq e;have hlt:k<L.length:=by omega
  obtain ⟨x,hx⟩:∃x,L[k]?=some x:=⟨_,List.getElem?_eq_getElem hlt⟩;have tk:L.take (k+1)=L.take k++[x]:=by rw [List.take_add_one,hx];rfl
  refine hr1.ix (E:=zX) (i:=(k:Int)) rfl (by omega) (by omega) λhc=>?_;have e1:L[(k:Int).toNat]'(by omega)=x:=(List.getElem?_eq_some_iff.1 (by simpa using hx)).2;rw [e1] at hc;refine lI (x:=x) (by simpa using hc 0 _ rfl) ?_;rw [qP (x:=(k:Int)+1) (by omega)];refine jpO λJ hJ=>?_;have nxt:∀w2,EngT base g w1 F F { (kD E f (L.take k)) with S:=qds E.T f (kD E f (L.take k)).S x } n w2->Rd zX w2 ids L->I ((k:Int)+1,()) w2:=by
   intro w2 h2 hr2;refine hI _ _ ⟨k+1,by simp,by omega,?_,hr2⟩ (by dsimp only;omega);rw [tk,qzj];exact h1.trans h2
  refine hG w1 x _ ?_;refine cO (λhf=>?_) λhf=>?_
  ·simp only [onPtr_some];refine qM (x:=some ⟨F.tg,0,none⟩) (h1.m.blk.cells 2 _ rfl) ?_;refine q2o h1.m.tb (le_trans h1.m.tl hn) x λw2 hB2=>hJ _ _ ?_;have eT:(kD E f (L.take k)).T=E.T:=rfl;rw [eT];have h2:=EngT.of_ext h1.m hB2;refine cO (λha=>?_) λha=>?_
   ·simp only [onPtr_some];refine qM (x:=some ⟨F.sg,0,none⟩) (h2.m.blk.cells 1 _ rfl) ?_;refine qox h2.m.st h2.m.ok x λw3 hst hc3=>?_;refine nxt w3 ?_ (YU (hr1.ext hB2) hc3 λ_ a ha=>hne a ha);have es:qds E.T f (kD E f (L.take k)).S x=(kD E f (L.take k)).S.drop x:=by
     unfold qds;dsimp only at ha;rw [hf,ha];rfl
    rw [es];exact h2.trans (EngT.drop1 h2.m hst hc3)
   ·refine nxt w2 ?_ (hr1.ext hB2);have es:qds E.T f (kD E f (L.take k)).S x=(kD E f (L.take k)).S:=by
     unfold qds;dsimp only at ha;rw [hf,ha];rfl
    rw [es];exact h2
  ·refine hJ _ _ (cF rfl (nxt w1 ?_ hr1));have es:qds E.T f (kD E f (L.take k)).S x=(kD E f (L.take k)).S:=by
    unfold qds;rw [hf];rfl
   rw [es];exact EngT.refl h1.m
 ·have e:=oFq e;have hkl:k=L.length:=by omega
  rw [hkl,List.take_length] at h1;exact hK w1 h1
theorem q4e (h:EngM w base g F E n) (hn:n<=100000) {l:Slc} {L:List Pl} {b:Nat} (hr:Go.Vc.Own qQ w b l L) (hne:∀k,l.blk=some k->¬ke g F k) {K:Ub}
  (hK:∀w',EngT base g w F F (kD E (λid=>decide (id>549755813888)) (L.map (·.Image))) n w'->K w'):yl (some ⟨g,0,none⟩) l w K:=by
 refine qb9 _ _ ?_;have hl:l.n=L.length:=hr.rd.n;have hlm:L.length<=9223372036854775807:=by rw [<-hl];exact le_trans hr.rd.nc hr.rd.cm
 refine lpR (λ(st:Int×Unit) w1=>∃k:Nat,st.1=(k:Int)/\k<=L.length/\EngT base g w F F (kD E (λid=>decide (id>549755813888)) ((L.map (·.Image)).take k)) n w1/\Go.Vc.Own qQ w1 b l L) (λst=>L.length-st.1.toNat)
  ⟨0,rfl,zero_le _,EngT.refl h,hr⟩ ?_
 rintro ⟨i,u⟩ w1 ⟨k,hi,hk,h1,hr1⟩ I hI;dsimp only at hi ⊢;subst hi;refine cO (λe=>?_) λe=>?_
 ·have e:=oTq e;have hlt:k<L.length:=by omega
  obtain ⟨p,hp⟩:∃p,L[k]?=some p:=⟨_,List.getElem?_eq_getElem hlt⟩;have tk:(L.map (·.Image)).take (k+1)=(L.map (·.Image)).take k++[p.Image]:=by rw [List.take_add_one,List.getElem?_map,hp];rfl
  refine hr1.rd.ix (E:=qQ) (i:=(k:Int)) rfl (by omega) (by omega) λhx=>?_;have hx:qx w1 (l.at_ qQ.k (k:Int).toNat) (qf.rep.cells p):=by
   simp only [Int.toNat_natCast] at hx ⊢;have e1:L[k]'hlt=p:=(List.getElem?_eq_some_iff.1 hp).2;rw [e1] at hx;exact hx
  refine qw (r:=qf.rep) (x:=p) hx ?_;refine jQ (vs:=qf.rep.cells p) rfl λw2 hb2 hB2 hs2=>?_;refine lI (x:=p.Image) (hb2.cells 0 _ rfl) ?_;refine nwb λw3 hb3 hB3 hs3=>?_;have B3:=zp hB2 hB3;have h3:=EngT.of_ext h1.m B3;refine q4n h3.m hn (ZU (E:=zX) (y:=p.Image) hb3 rfl) (λa ha hs=>?_) q3y λw4 h4=>?_
  ·cases ha;have:=(h1.m.below w2.heap.size (.inr (.inl hs))).2;have:=hB2.size;omega
  ·have h14:=h3.trans h4;rw [qP (x:=(k:Int)+1) (by omega)];refine hI _ _ ⟨k+1,by simp,by omega,?_,?_⟩ (by dsimp only;omega)
   ·rw [tk];have e5:kD E (λid=>decide (id>549755813888)) ((L.map (·.Image)).take k++[p.Image])=kD (kD E (λid=>decide (id>549755813888)) ((L.map (·.Image)).take k)) (λid=>decide (id>549755813888)) [p.Image]:=by
     unfold kD q3i;rw [List.foldl_append]
    rw [e5];exact h1.trans h14
   ·exact (hr1.ext B3).chg h4.chg λj hj hs=>hne j hj hs
 ·have e:=oFq e;have hkl:k=L.length:=by omega
  rw [hkl,List.take_of_length_le (by rw [List.length_map];omega)] at h1;exact hK w1 h1
def q98 (E:KE) (alt:Bool) (first:Int):KE:=kD { E with T:=E.T.filter λp=>!qwp alt first p } (λid=>decide (id>549755813888)) ((E.T.filter (qwp alt first)).map (·.Image))
theorem q7h (h:EngM w base g F E n) {w1:World} {q':Slc} {r:Slc} {T:Type} {El':El T} {xs:List T} (hr:Go.Vc.Own El' w1 w.heap.size r xs) (hne:∀k,r.blk=some k->q'.blk≠some k):∀k,r.blk=some k->¬ke g { F with q:=q' } k:=by
 intro k hk hs;have hlt:=hr.lt k hk;have old:ke g F k->False:=λh3=>by
  have:=(h.below k h3).2;omega
 rcases hs with e | e | (e | e) | e
 ·exact old (.inl e)
 ·exact old (.inr (.inl e))
 ·exact old (.inr (.inr (.inl (.inl e))))
 ·exact hne k hk e
 ·exact old (.inr (.inr (.inr e)))
theorem qob (h:EngM w base g F E n) (hn:n<=100000) (alt:Bool) (first:Int) {K:Ub} (hK:∀F' w',EngT base g w F F' (q98 E alt first) n w'->K w'):kw (some ⟨g,0,none⟩) alt first w K:=by
 refine qce _ _ _ ?_;simp only [onPtr_some];refine qM (x:=some ⟨F.tg,0,none⟩) (h.blk.cells 2 _ rfl) ?_;refine qxn h.tb (le_trans h.tl hn) (le_trans h.hg (Nat.le_of_lt h.blk.lt)) alt first λr q' w1 hr ht hq hne hc=>?_;have h1:=EngT.tab h ht hq hc (le_trans (List.length_filter_le _ _) h.tl);refine q4e h1.m hn hr (λk hk hs=>?_) λw2 h2=>hK _ w2 (h1.trans h2);exact q7h h hr hne k hk hs
end
open Classical in
noncomputable def ze2 (S:St) (n:Int):Int×Bool:=if h:∃r:Int×Bool,qbj S.L n r.1 r.2 then h.choose else (0,false)
theorem zdc {m:Nat} {S:St} (hk:StOk m S) {n b:Int} {ok:Bool} (h:qbj S.L n b ok):ze2 S n=(b,ok):=by
 have hx:∃r:Int×Bool,qbj S.L n r.1 r.2:=⟨(b,ok),h⟩;unfold ze2;rw [dif_pos hx];obtain ⟨h1,h2⟩:=qbj.one hk hx.choose_spec h;exact Prod.ext h1 h2
noncomputable def xH (S:St) (k:qb):Int×Bool:=if k.Id=0 then ze2 S k.Number else (k.Id,(zt S.L k.Id).isSome)
noncomputable def qz2 (E:KE) (k:qb) (v:qj):KE×KR :=
 if (xH E.S k).2=false then (E,qad k 7 [])
 else if (vt E { k with Id:=(xH E.S k).1 } (xH E.S k).1 v).2.2 then
  ({ (vt E { k with Id:=(xH E.S k).1 } (xH E.S k).1 v).1 with S:=(vt E { k with Id:=(xH E.S k).1 } (xH E.S k).1 v).1.S.use (xH E.S k).1 },(vt E { k with Id:=(xH E.S k).1 } (xH E.S k).1 v).2.1)
 else ((vt E { k with Id:=(xH E.S k).1 } (xH E.S k).1 v).1,(vt E { k with Id:=(xH E.S k).1 } (xH E.S k).1 v).2.1)
section
variable {w w':World} {base g n:Nat} {F F':KF} {E E':KE}
theorem q8y {m:Nat} {S:St} (hk:StOk m S) (hm:m<=1000) {n b:Int} {ok:Bool} (h:qbj S.L n b ok):-9223372036854775808<=b/\b<=9223372036854775807:=by
 rcases h with ⟨_,rfl,_⟩ | ⟨_,x,hx,_⟩
 ·omega
 ·have:=hk.keys _ hx;dsimp only at this;omega
theorem q2p (h:EngM w base g F E n) (hn:n<=1000) (k:qb) (hwk:qe0 (toL k)) {K:Int->Bool->Ub}
  (hK:∀w',Uc w w'->(-9223372036854775808<=(xH E.S k).1/\(xH E.S k).1<=9223372036854775807)->K (xH E.S k).1 (xH E.S k).2 w'):yH (some ⟨g,0,none⟩) k w K:=by
 refine qdd _ _ ?_;simp only [onPtr_some];refine nwb λw1 hk1 hB1 hs1=>?_;have h1:=(h.ext hB1).drew;have hk1d:=hk1.drew;have B1:=hB1.drew;unfold xH at hK;refine lI (x:=k.Id) (hk1.cells 8 _ rfl) (cO (λe=>?_) λe=>?_)
 ·rw [if_pos (eq_of_beq e)] at hK;refine qM (x:=some ⟨F.sg,0,none⟩) (h1.blk.cells 1 _ rfl) (lI (x:=k.Number) (hk1d.cells 9 _ rfl) ?_);refine q11 h1.st h.ok k.Number λb ok w2 hN hB2=>?_;rw [zdc h.ok hN] at hK;exact hK w2 (zp B1 hB2) (q8y h.ok hn hN)
 ·rw [if_neg (beq_eq_false_iff_ne.1 e)] at hK;have hid:-9223372036854775808<=k.Id/\k.Id<=9223372036854775807:=hwk 8;refine qM (x:=some ⟨F.sg,0,none⟩) (h1.blk.cells 1 _ rfl) (lI (x:=k.Id) (hk1d.cells 8 _ rfl) ⟨?_,?_⟩)
  ·refine qul h1.st k.Id λw2 hB2=>?_;refine nwb λw3 hx3 hB3 hs3=>?_;have hk3:=(hk1d.ext hB2).ext hB3;have h3:=(h1.ext hB2).ext hB3;refine ⟨hk3.cells 8 _ rfl,h3.blk.cells 1 _ rfl,?_⟩;refine qz hx3 (le_refl _) λw4 hx4 hg4 hs4=>?_;have hc4:Chg (λi=>i=w2.heap.size) w3 w4:=Chg.of_grown hg4 λk hk=>by cases hk;rfl
   have z2:=hB2.size;have lk:=hk1d.lt;have z1:w.heap.size<=w1.drew.heap.size:=B1.size;refine lI (x:=k.Id) ((hk3.chg hc4 λe=>by omega).cells 8 _ rfl) ?_;exact hK w4 (b1o (kT B1 hB2 hB3) hc4 (by omega)) hid
  ·refine nwb λw2 hx2 hB2 hs2=>?_;have hk2:=hk1d.ext hB2;have h2:=h1.ext hB2;refine ⟨hk2.cells 8 _ rfl,h2.blk.cells 1 _ rfl,?_⟩;refine qul h2.st k.Id λw3 hB3=>?_;refine qz (hx2.ext hB3) (le_refl _) λw4 hx4 hg4 hs4=>?_;have hc4:Chg (λi=>i=w1.drew.heap.size) w3 w4:=Chg.of_grown hg4 λk hk=>by cases hk;rfl
   have lk:=hk1d.lt;have z1:w.heap.size<=w1.drew.heap.size:=B1.size;refine lI (x:=k.Id) (((hk2.ext hB3).chg hc4 λe=>by omega).cells 8 _ rfl) ?_;exact hK w4 (b1o (kT B1 hB2 hB3) hc4 (by omega)) hid
theorem q5f {m:Nat} {S:St} (hk:StOk m S) (id:Int):∀k,vh (S.use id) k->vh S k:=by
 rintro k ⟨p,hp,hb⟩;unfold St.use at hp;split at hp
 ·rename_i x hx;obtain ⟨a,b⟩:=p;rcases (yI hk.srt _ _ a b).1 hp with ⟨rfl,rfl⟩ | ⟨_,hp'⟩
  ·exact ⟨(a,x),(xG hk.srt).1 hx,hb⟩
  ·exact ⟨(a,b),hp',hb⟩
 ·exact ⟨p,hp,hb⟩
theorem q6x (h:EngM w base g F E n) (hn:n<=900) (hT:Tab w) (h4:4<=base) {k:qb} (hwk:qe0 (toL k)) (v:qj) {K:qc->Ub}
  (hK:∀r F' w',qgi w' r (qz2 E k v).2->EngT base g w F F' (qz2 E k v).1 (n+2) w'->(∀j,r.Reply.blk=some j->w.heap.size<=j/\¬ke g F' j)->K r w'):Q6 (some ⟨g,0,none⟩) k v w K:=by
 refine qfa _ _ _ ?_;simp only [onPtr_some];refine nwb λw1 hk1 hB1 hs1=>nwb λw2 hv2 hB2 hs2=>nwb λw3 ht3 hB3 hs3=>?_;have B3:=kT hB1 hB2 hB3;have hk3:=(hk1.ext hB2).ext hB3;have hv3:=hv2.ext hB3;have h3:=h.ext B3;have nE:∀{b:Nat},w.heap.size<=b->¬ke g F b:=λhb hk=>by have:=(h.below _ hk).2;omega
 have nLS:∀{b:Nat},w.heap.size<=b->¬F.LS b:=λhb hk=>nE hb (.inr (.inr (.inr hk)));have tys:qcd q4:=by decide
 have z1:=hB1.size;have z2:=hB2.size;have z3:=hB3.size;have lt3:=ht3.lt;refine qw (r:=qb.rep) (x:=k) hk3.cells ?_;refine q2p h3 (by omega) k hwk λw4 hB4 hid=>?_;unfold qz2 at hK;generalize (xH E.S k).1=id at *;generalize (xH E.S k).2=is_ at *;have B4:=zp B3 hB4;have hk4:=hk3.ext hB4;have hv4:=hv3.ext hB4;have ht4:=ht3.ext hB4;have z4:=hB4.size;cases is_
 ·simp only [if_true] at hK;refine cT rfl (qw (r:=qb.rep) (x:=k) hk4.cells ?_);refine yW (hT.ext B4) hwk 7 [] (by simp) λq w5 hq hB5 hqb=>?_;have ht5:=ht4.ext hB5;refine zw (r:=qc.rep) (x:=⟨q,0,0,false⟩) ht5 rfl rfl λw6 hc6 hs6=>?_;exact hK _ F w6 ⟨hq.chg hc6 λa ha e=>by have:=hqb a.block (slk.2 ⟨a,ha,rfl⟩);omega,rfl,rfl,rfl⟩ (((EngT.of_ext h (zp B4 hB5)).up (by omega)).other ht5 tys (nLS (by omega)) (by omega) hc6) (λj hj=>⟨by have:=hqb j hj;omega,λhs=>by have:=(h.below _ hs).2;have:=hqb j hj;omega⟩)
 ·rw [if_neg (by decide)] at hK;refine cF rfl ?_;show stK ⟨w.heap.size,8,none⟩ _ _ _;refine qz hk4 (by show (8+1:Nat)<=22;omega) λw5 hk5 hg5 hs5=>?_;have hc5:Chg (λi=>i=w.heap.size) w4 w5:=Chg.of_grown hg5 λk hk=>by cases hk;rfl
  have hk5:Blk w5 w.heap.size qN (qb.rep.cells { k with Id:=id }):=hk5;have B5:=b1o B4 hc5 (le_refl _);have hv5:=hv4.chg hc5 λe=>by omega
  have ht5:=ht4.chg hc5 λe=>by omega
  have h5:=EngT.of_ext h B5;have lv5:=hv5.lt;have lt5:=ht5.lt;refine qw (r:=qb.rep) (x:={ k with Id:=id }) hk5.cells (qw (r:=qj.rep) (x:=v) hv5.cells ?_);refine qui h5.m (by omega) (hT.ext B5) h4 (q6c hwk hid) id v λr F6 w6 hr6 h6 hrb=>?_;generalize vt E { k with Id:=id } id v=R at *;obtain ⟨E6,R6,ok⟩:=R;dsimp only at hr6 h6 hK ⊢;have hE6:=h5.trans h6;have ht6:=ht5.chg h6.chg (nE (by omega));refine jQ (vs:=qc.rep.cells r) rfl λw8 ho8 hB8 hs8=>?_;have h8:=hE6.ext hB8;have ht8:=ht6.ext hB8;have hr8:=hr6.ext hB8;have z5:=B5.size;have z8:=hB8.size;have z6:=h6.chg.size;have nF6:∀{b:Nat},w.heap.size<=b->b<w5.heap.size->¬F6.LS b:=λh1 h2 hs=>by
   rcases h6.ls _ hs with h7 | h7
   ·exact nLS h1 h7
   ·omega
  cases ok
  ·rw [if_neg (by decide)] at hK;refine cF rfl (qw (r:=qc.rep) (x:=r) ho8.cells ?_);refine zw (r:=qc.rep) (x:=r) ht8 rfl rfl λw9 hc9 hs9=>?_;exact hK r F6 w9 ⟨hr8.1.chg hc9 λa ha e=>by have:=(hrb a.block (slk.2 ⟨a,ha,rfl⟩)).1;omega,hr8.2⟩ ((h8.up (by omega)).other ht8 tys (nF6 (by omega) (by omega)) (by omega) hc9) (λj hj=>⟨by have:=(hrb j hj).1;omega,(hrb j hj).2⟩)
  ·rw [if_pos rfl] at hK;refine cT rfl (qM (x:=some ⟨F6.sg,0,none⟩) (h8.m.blk.cells 1 _ rfl) ?_);refine zba h8.m.st h8.m.ok (by omega) id λw9 hst hc9=>?_;have h9:=h8.trans (EngT.store h8.m hst (ze3 h8.m.ok id) (by omega) hc9 λj hj=>.inl (q5f h8.m.ok id j hj));have nS:∀{b:Nat} {t:TypeId} {vs:List Value},Blk w8 b t vs->t≠zz->¬onS F6.sg F6.sr b:=λhb ht hs=>by
    rcases hs with e | e
    ·exact hb.ne_t h8.m.st.blk ht e
    ·exact h8.m.st.map.ne_blk hb e.symm
   have ho9:=ho8.chg hc9 (nS ho8 (by decide));have ht9:=ht8.chg hc9 (nS ht8 (by decide));have z9:=hc9.size;refine qw (r:=qc.rep) (x:=r) ho9.cells ?_;refine zw (r:=qc.rep) (x:=r) ht9 rfl rfl λw10 hc10 hs10=>?_;refine hK r F6 w10 ⟨?_,hr8.2⟩ (h9.other ht9 tys (nF6 (by omega) (by omega)) (by omega) hc10) (λj hj=>⟨by have:=(hrb j hj).1;omega,(hrb j hj).2⟩);have hr9:Rd qn w9 r.Reply R6.reply:=hr8.1.chg hc9 λa ha hs=>?_
   ·exact hr9.chg hc10 λa ha e=>by have:=(hrb a.block (slk.2 ⟨a,ha,rfl⟩)).1;omega
   ·exact (hrb a.block (slk.2 ⟨a,ha,rfl⟩)).2 (.inr (.inl hs))
end
def Sml (L:List Int):Prop:=∀x∈L,-4294967296<=x/\x<=4294967295
theorem Sml.set {L:List Int} (h:Sml L) (j:Nat) {x:Int} (hx:-4294967296<=x/\x<=4294967295):Sml (L.set j x):=λy hy=>by
 rcases List.mem_or_eq_of_mem_set hy with h1 | rfl
 ·exact h y h1
 ·exact hx
theorem q9n {v:List UInt8} {n:Nat} (h:Kt v=some n):n<=4294967295:=by
 unfold Kt at h;split at h
 ·cases h
 ·obtain ⟨m,_,h2⟩:=Option.bind_eq_some_iff.1 h;split at h2
  ·cases h2;assumption
  ·cases h2
theorem q8o {v:List UInt8} {m:Int} (h:qgy v=some m):-4294967296<=m/\m<=4294967295:=by
 have key:∀x:Int,q6j x=true->-4294967296<=x/\x<=4294967295:=λx hx=>by
  unfold q6j at hx;simp only [Bool.and_eq_true,decide_eq_true_eq] at hx;omega
 unfold qgy at h;split at h
 all_goals
  obtain ⟨n,_,h2⟩:=Option.bind_eq_some_iff.1 h;split at h2
  ·rename_i hnear;injection h2 with h2
   rw [<-h2];exact key _ hnear
  ·cases h2
theorem zb4 {k k':List Int} {s:List UInt8} (hk:Sml k/\k.length=22) (h:qjq k s=some k'):Sml k'/\k'.length=22:=by
 have st:∀(j:Nat) {x:Int},(-4294967296<=x/\x<=4294967295)->Sml (k.set j x)/\(k.set j x).length=22:=λj x hx=>⟨hk.1.set j hx,by rw [List.length_set];exact hk.2⟩;unfold qjq at h;split at h
 ·split at h
  ·cases h
  ·split at h
   ·obtain ⟨m,hm,rfl⟩:=Option.map_eq_some_iff.1 h;exact st _ (q8o hm)
   ·split at h
    ·rename_i j _;unfold q22 at h;split at h
     ·rename_i b;split at h
      ·cases h;have:=b.toNat_lt;exact st _ (by omega)
      ·cases h
     ·cases h
    ·split at h
     ·obtain ⟨m,hm,rfl⟩:=Option.map_eq_some_iff.1 h;obtain ⟨a,ha,hb⟩:=Option.bind_eq_some_iff.1 hm;have:=q9n ha;injection hb with hb
      exact st _ (by omega)
     ·cases h;exact hk
 ·cases h
theorem qzv:∀(l:List (List UInt8)) (k k':List Int),(Sml k/\k.length=22)->l.foldlM qjq k=some k'->Sml k'/\k'.length=22
 | [],k,k',hk,h=>by
  cases h;exact hk
 | s::l,k,k',hk,h=>by
  rw [List.foldlM_cons] at h;obtain ⟨k1,h1,h2⟩:=Option.bind_eq_some_iff.1 h;exact qzv l k1 k' (zb4 hk h1) h2
theorem qw8:Sml Qq/\Qq.length=22:=by
 refine ⟨?_,rfl⟩;intro x hx;simp [Qq] at hx;omega
theorem q65 (b:List UInt8):Sml (Zc b).1/\(Zc b).1.length=22:=by
 have hz:Sml VW/\VW.length=22:=by
  refine ⟨λx hx=>?_,rfl⟩;unfold VW at hx;have:=List.eq_of_mem_replicate hx;omega
 unfold Zc;split
 ·exact hz
 ·split
  ·exact qw8
  ·split
   ·rename_i k hk;exact qzv _ _ _ qw8 hk
   ·exact hz
theorem q3z (b:List UInt8):qe0 (toL (ofL (Zc b).1)):=by
 obtain ⟨h1,h2⟩:=q65 b;rw [q9j h2];intro i;cases hx:(Zc b).1[i]? with
 | none=>simp
 | some x =>
  have:=h1 x (List.mem_of_getElem? hx);simp only [getD_some];omega
noncomputable def goK (E:KE) (k:qb) (ts:List UInt8) (P:Slc) (v:qj):KE×KR :=
 if k.Action=112 then qz2 E k v else qiq E k ts P v
def xC (c:List UInt8):qb:=ofL (Zc (JR 59 c)).1
structure CmdOk (r:List UInt8):Prop where
 ok:(Zc (JR 59 r)).2=0
 raw:(xC r).Format≠100/\(xC r).Zip≠122
 act:(xC r).Action=116\/(xC r).Action=84\/(xC r).Action=113\/(xC r).Action=112
noncomputable def doK (E:KE) (r:List UInt8) (P:Slc) (v:qj):KE×KR:=goK E (xC r) (V4 59 r) P v
section
variable {w w':World} {base g n:Nat} {F F':KF} {E E':KE}
theorem zcf {s:Slc} {b:UInt8} {r:List UInt8} (h:Rd qn w s (b::r)) {a:Addr} (ha:s.a=some a):a.spot=none:=by
 have h1:=h.at_ 0 b rfl 0 (.int .u8 (b.toNat:Int)) rfl;have e:((s.at_ qn.k 0).add 0).spot=a.spot:=by
  unfold Slc.at_;rw [ha];rfl
 cases hs:a.spot with
 | none=>rfl
 | some x =>
  exfalso;unfold World.cell? at h1;rw [e,hs] at h1;split at h1
  ·cases h1
  ·cases h1
theorem zcb (h:EngM w base g F E n) (hn:n<=900) (hT:Tab w) (h4:4<=base) (hq:E.quota<=100000) {c:Slc} {bs:List UInt8} (hbs:bs.length<=39999) (hc:Rd qn w c (71::bs))
  (hl:E.ld=none) (hok:CmdOk bs) (v:qj) {K:qc->Ub}
  (hK:∀P r F' w',qgi w' r (doK E bs P v).2->EngT base g w F F' (doK E bs P v).1 (n+2) w'->(∀j,r.Reply.blk=some j->w.heap.size<=j/\¬ke g F' j)->(∀j,P.blk=some j->w.heap.size<=j)->K r w'):xk (some ⟨g,0,none⟩) c v w K:=by
 refine qi3 _ _ _ ?_;refine nwb λw1 hv1 hB1 hs1=>nwb λw2 ht2 hB2 hs2=>?_;have B2:=zp hB1 hB2;have hv2:=hv1.ext hB2;have z1:=hB1.size;have z2:=hB2.size;have lt2:=ht2.lt;have lv2:=hv2.lt;have nE:∀{b:Nat},w.heap.size<=b->¬ke g F b:=λhb hk=>by have:=(h.below _ hk).2;omega
 have nLS:∀{b:Nat},w.heap.size<=b->¬F.LS b:=λhb hk=>nE hb (.inr (.inr (.inr hk)));have tys:qcd q4:=by decide
 have fin:∀(P:Slc) (r:qc) (R:KR) (F':KF) (E':KE) (wz:World) (vs:List Value),vs.length=4->Blk wz w1.heap.size q4 vs->EngT base g w F F' E' (n+2) wz->qgi wz r R->¬F'.LS w1.heap.size ->
   (∀j,r.Reply.blk=some j->w1.heap.size<j/\¬ke g F' j)->(∀j,P.blk=some j->w.heap.size<=j)->doK E bs P v=(E',R)->stK ⟨w1.heap.size,0,none⟩ (qc.rep.cells r) wz λw12=>ldS qc.rep ⟨w1.heap.size,0,none⟩ w12 λr_1=>K r_1 w12:=by
  intro P r R F' E' wz vs hvs hb hE hr hls hf hPb hd;refine zw (r:=qc.rep) (x:=r) hb rfl (by rw [hvs];rfl) λw9 hc9 hs9=>?_;refine hK P r F' w9 ?_ ?_ (λj hj=>⟨by have:=(hf j hj).1;omega,(hf j hj).2⟩) hPb
  ·rw [hd];exact ⟨hr.1.chg hc9 λa ha e=>by have:=(hf a.block (slk.2 ⟨a,ha,rfl⟩)).1;omega,hr.2⟩
  ·rw [hd];exact hE.other hb tys hls (by omega) hc9
 have hcn:=hc.n;have hc2:=hc.ext B2;have h2:EngT base g w F F E (n+2) w2:=(EngT.of_ext h B2).up (by omega);refine jpO λJ1 hJ1=>?_;rw [length_cons] at hcn;refine cF (by rw [hcn];simp;omega) ?_;refine hc2.ix (E:=qn) (i:=0) rfl (by decide) (by simp) λhcell=>?_;refine lI (x:=((71:UInt8).toNat:Int)) (by simpa using hcell 0 _ rfl) ?_;refine cF rfl (hJ1 _ _ ?_);refine hc2.slK (E:=qn) (k:=1) (l:=1) (m:=bs.length+1) rfl (.inr rfl) (.inl ⟨rfl,by rw [length_cons]⟩) (by omega) (by rw [length_cons];omega) λhc3=>?_;have er:((71::bs).take (bs.length+1)).drop 1=bs:=by simp
 rw [er] at hc3;obtain ⟨a,ha⟩:∃a,c.a=some a:=Option.isSome_iff_exists.1 (hc.some_ (by simp));have hsp:=zcf hc ha;have hca3:∃o,cut c.a 1 c.c qn.k=some ⟨a.block,o,none⟩:=by
  rw [ha];obtain ⟨ab,ao,asp⟩:=a;dsimp only at hsp;subst hsp;unfold cut;split
  ·exact ⟨_,rfl⟩
  ·exact ⟨_,rfl⟩
 obtain ⟨o,ho⟩:=hca3;refine qy8 hc3 (g:=a.block) (o:=o) ho (by omega) λp q w4 hB4 hp hq4 hpf hqf=>?_;refine q3h hp λw5 hB5=>?_;have hwk:qe0 (toL (xC bs)):=q3z (JR 59 bs);have hdo:∀P,doK E bs P v=goK E (xC bs) (V4 59 bs) P v:=λP=>rfl;have htl:=qwq 59 bs;have hts:(V4 59 bs).length<=40000:=by omega
 obtain ⟨hx,hraw,hact⟩:=hok;rw [hx];have ek:ofL (Zc (JR 59 bs)).1=xC bs:=rfl;rw [ek];generalize xC bs=k at *;generalize V4 59 bs=ts at *;refine jQ (vs:=qb.rep.cells k) rfl λw7 hk7 hB7 hs7=>?_;have B27:Uc w2 w7:=kT hB4 hB5 hB7;have B7:=zp B2 B27;have hv7:=hv2.ext B27;have ht7:=ht2.ext B27;have h7:=EngT.of_ext h B7;have hq7:=(hq4.ext hB5).ext hB7;have z4:=hB4.size;have z5:=hB5.size;have z7:=hB7.size;have z27:=B27.size;refine cF rfl (jpO λJ2 hJ2=>?_);have qe:∀j,q.blk=some j->¬ke g F j:=λj hj=>nE (by have:=hqf j hj;omega);simp only [onPtr_some];have h7m:=h7.m;refine qM (x:=none) (by have:=h7m.blk.cells 3 _ rfl;rw [hl] at this;exact this) (cF rfl (hJ2 _ _ ?_));have hTz:=hT.stepK h h4 h7;have nl1:∀j,¬F.LS j:=h7m.nl hl;have nF:∀{F2:KF} {E2:KE} {w2':World},EngT base g w7 F F2 E2 (n+2) w2'->¬F2.LS w1.heap.size:=λhT hs=>by
  rcases hT.ls _ hs with h3 | h3
  ·exact nl1 _ h3
  ·omega
 have keep:∀{F2:KF} {E2:KE} {w2':World} {m:Nat},EngT base g w7 F F2 E2 m w2'->Blk w2' w1.heap.size q4 [(.slice none 0 0),(Ua 0),(Ua 0),(.bool false)]:=λhT=>ht7.chg hT.chg (h7m.not_in ht7 tys (nl1 _));refine jpO λJ3 hJ3=>?_;refine lI (x:=k.Action) (hk7.cells 0 _ rfl) ?_;refine jpO λJ4 hJ4=>?_;have j4:k.Action≠112->J4 () w7:=by
  intro hw;refine hJ4 _ _ (qw (r:=qb.rep) (x:=k) hk7.cells (qw (r:=qj.rep) (x:=v) hv7.cells ?_));refine q3j h7m hn hTz h4 hl hq hts hq7 (λj hj hne=>qe j hj) hwk hraw v λP r2 F9 w9 hr9 h9 hrb hPb=>?_;refine fin P r2 _ F9 _ w9 _ rfl (keep h9) (h7.trans h9) hr9 (nF h9) (λj hj=>⟨by have:=(hrb j hj).1;omega,(hrb j hj).2⟩) (λj hj=>by have:=hPb j hj;omega) ?_;rw [hdo];unfold goK;rw [if_neg hw]
 refine cO (λe=>j4 (by have:=eq_of_beq e;omega)) λe=>?_;have n1:=beq_eq_false_iff_ne.1 e;refine cO (λe=>j4 (by have:=eq_of_beq e;omega)) λe=>?_;have n2:=beq_eq_false_iff_ne.1 e;refine cO (λe=>j4 (by have:=eq_of_beq e;omega)) λe=>?_;have n3:=beq_eq_false_iff_ne.1 e;have hp2:k.Action=112:=by omega
 refine cT (by rw [hp2];rfl) ?_;refine qw (r:=qb.rep) (x:=k) hk7.cells (qw (r:=qj.rep) (x:=v) hv7.cells ?_);refine q6x h7m hn hTz h4 hwk v λr2 F9 w9 hr9 h9 hrb=>?_;refine fin ⟨none,0,0⟩ r2 _ F9 _ w9 _ rfl (keep h9) (h7.trans h9) hr9 (nF h9) (λj hj=>⟨by have:=(hrb j hj).1;omega,(hrb j hj).2⟩) (λj hj=>by cases hj) ?_;rw [hdo];unfold goK;rw [if_pos hp2]
end
def zdw:qb:=⟨0,0,0,0,0,0,0,0,0,0,0,0,0,0,0,0,0,0,0,0,0,0⟩
def ze0 (q:Int):KE:=⟨q,⟨q,0,0,0,[]⟩,[],none,zdw⟩
section
variable {w w':World} {base g n:Nat} {F F':KF} {E E':KE}
theorem q6z {q:Int} {K:Option Addr->Int->Ub} (hE:qbc q=1->K none 1 w)
  (hK:qbc q=0->∀g F w',w.heap.size<=g->EngM w' w.heap.size g F (ze0 q) 0->Uc w w'->K (some ⟨g,0,none⟩) 0 w'):qho q w K:=by
 refine qsv _ ?_;refine q2x (base:=w.heap.size) (λh=>cT rfl (hE h)) λsg sr w1 he hsg hsr hst hB1=>?_;refine cF rfl ?_;refine qt4 ?_;unfold qoo;refine nwb λw2 ht2 hB2 hs2=>?_;refine nwb λw3 hg3 hB3 hs3=>?_;have B3:=kT hB1 hB2 hB3;have z1:=hB1.size;have z2:=hB2.size;have z3:=hB3.size;refine hK he w2.heap.size ⟨sg,sr,w1.heap.size,⟨none,0,0⟩,0,0,λ_=>False⟩ w3 (by omega) ⟨hg3,by omega,(hst.ext hB2).ext hB3,zee he,⟨hsg,hsr⟩,⟨ht2.ext hB3,by omega,Go.Vc.Own.nil _ _ _⟩,le_refl _,(λC s h=>by cases h),(λ_ k h=>h),(λh=>h),⟨λh=>h,λh=>h⟩,(λk _ h=>h),λk _ h=>h⟩ B3
theorem qyj (h:EngM w base g F E n) {K:Option Addr->Ub} (hK:∀g' r' w',w.heap.size<=g'->w.heap.size<=r'->StM w' base g' r' E.S->Uc w w'->K (some ⟨g',0,none⟩) w'):y6 (some ⟨g,0,none⟩) w K:=by
 refine qcy _ ?_;simp only [onPtr_some];exact qM (x:=some ⟨F.sg,0,none⟩) (h.blk.cells 1 _ rfl) (q7w h.st hK)
end
section
variable {w w':World} {base g n:Nat} {F F':KF} {E E':KE}
def qsa (b:UInt8):Value:=.int .u8 (b.toNat:Int)
def q2g (w:World) (g:Nat) (bs:List UInt8):Prop:=w.heap[g]?=some (.cells (bs.map qsa).toArray qL (bs.length,bs.length+1))
theorem q2g.lt {bs:List UInt8} (h:q2g w g bs):g<w.heap.size:=(Array.getElem?_eq_some_iff.1 h).1
theorem q2g.cell {bs:List UInt8} (h:q2g w g bs) {j:Nat} {b:UInt8} (hb:bs[j]?=some b):w.cell? ⟨g,j,none⟩=some (qsa b):=by
 unfold q2g at h;simp [World.cell?,h,hb]
theorem q2g.rd {bs:List UInt8} (h:q2g w g bs) (hl:bs.length<=1000000):Rd qn w ⟨some ⟨g,0,none⟩,bs.length,bs.length⟩ bs:=by
 refine ⟨rfl,le_refl _,by show bs.length<=maxLen;simp only [maxLen];omega,λ_=>rfl,λi x hx j v hv=>?_⟩;have hj:j=0:=by
  have:=(List.getElem?_eq_some_iff.1 hv).1;simp [qn] at this;exact this
 subst hj;have e:v=qsa x:=by simpa [qn,qsa] using hv.symm
 rw [e];show w.cell? (((⟨g,0,none⟩:Addr).add (i*qn.k)).add 0)=_;rw [add_zero,qB,Nat.zero_add,show i*qn.k=i from Nat.mul_one i];exact h.cell hx
def Cmd (w:World) (base:Nat) (c:Slc) (bs:List UInt8):Prop:=Go.Vc.Own qn w base c bs\/∃g,base<=g/\c=⟨some ⟨g,0,none⟩,bs.length,bs.length⟩/\q2g w g bs
theorem Cmd.rd {c:Slc} {bs:List UInt8} (h:Cmd w base c bs) (hl:bs.length<=1000000):Rd qn w c bs:=by
 rcases h with h | ⟨g,_,rfl,h⟩
 ·exact h.rd
 ·exact h.rd hl
theorem qpi {vs:List Value} {m:Nat} {bs:List UInt8} {K:Slc->Ub} (hv:vs=bs.map qsa) (hn:m=bs.length)
  (hK:∀s w',Cmd w' w.heap.size s bs->Uc w w'->K s w') :
  nw qL vs w λt w1=>zJ PG (convert qg qg (.slice (some t) m m)) Kind.slice w1 K:=by
 subst hn hv;refine ⟨⟨some ⟨w.heap.size,0,none⟩,bs.length,bs.length⟩,_,Lib.run_convert_bytes_const w qg qL _ _ _ (by kernel_rfl) (by kernel_rfl),hK _ _ (.inr ⟨_,le_refl _,rfl,?_⟩) ((Below.refl _ w).alloc (le_refl _) _)⟩;show (w.alloc _).heap[w.heap.size]?=_;rw [heap_alloc_new];simp
theorem EngM.chgS {S:Nat->Prop} (h:EngM w base g F E n) (hc:Chg S w w') (hS:∀k,ke g F k->¬S k) (hi:∀k,vh E.S k->¬S k):EngM w' base g F E n :=
 ⟨h.blk.chg hc (hS _ (.inl rfl)),h.hg,h.st.keep hc (hS _ (.inr (.inl (.inl rfl)))) (hS _ (.inr (.inl (.inr rfl)))) (λp hp k hk=>hi k ⟨p,hp,hk⟩),h.ok,h.hs,h.tb.chg hc λk hk=>hS k (.inr (.inr (.inl hk))),h.tl,
  λC s hl=>⟨(h.lo C s hl).1.chg hc λk hk=>hS k (.inr (.inr (.inr hk))),(h.lo C s hl).2⟩,h.nl,h.dg,h.ds,h.dt,h.di⟩
end
structure TmF where
 tg:Nat
 sg:Nat
 SF:ScF
 eg:Nat
 KF:KF
 pg:Nat
 cq:Slc
 rq:Slc
structure TS where
 c:qI
 S:Sc
 E:KE
 n:Nat
 cmd:List UInt8
 long:Bool
 rep:List UInt8
 f0:Int
 f1:Int
def zd1 (F:TmF) (T:TS):List Value:=[.int .i64 T.c.Rows,.int .i64 T.c.Cols,.int .i64 T.c.CellW,.int .i64 T.c.CellH,.int .i64 T.c.Back,.int .i64 T.c.Quota,.pointer (some ⟨F.sg,0,none⟩),.pointer (some ⟨F.eg,0,none⟩),.pointer (some ⟨F.pg,0,none⟩),.pointer none,.slice F.cq.a F.cq.n F.cq.c,.bool T.long,.slice F.rq.a F.rq.n F.rq.c,.int .i64 T.f0,.int .i64 T.f1]
def YB (F:TmF) (k:Nat):Prop:=k=F.tg\/scS F.sg F.SF k\/ke F.eg F.KF k\/F.cq.blk=some k\/F.rq.blk=some k
structure TermM (w:World) (base:Nat) (F:TmF) (T:TS):Prop where
 blk:Blk w F.tg qd0 (zd1 F T)
 hg:base<=F.tg
 sc:ScM w base F.sg F.SF T.S
 en:EngM w base F.eg F.KF T.E T.n
 cq:Go.Vc.Own qn w base F.cq T.cmd
 rq:Go.Vc.Own qn w base F.rq T.rep
 dse:∀k,scS F.sg F.SF k->¬ke F.eg F.KF k
 dsi:∀k,scS F.sg F.SF k->¬vh T.E.S k
 dc:∀k,F.cq.blk=some k->¬scS F.sg F.SF k/\¬ke F.eg F.KF k/\¬vh T.E.S k/\F.rq.blk≠some k
 dr:∀k,F.rq.blk=some k->¬scS F.sg F.SF k/\¬ke F.eg F.KF k/\¬vh T.E.S k
 dt:¬scS F.sg F.SF F.tg/\¬ke F.eg F.KF F.tg
 ld:T.E.ld=none
 tab:Tab w
 b4:4<=base
section
variable {w w':World} {base:Nat} {F F':TmF} {T T':TS}
theorem qlh {w:World} {base g n:Nat} {F:KF} {E:KE} (h:EngM w base g F E n) {k:Nat} (hk:vh E.S k):base<=k/\∃cs,Blk w k qL cs:=by
 obtain ⟨p,hp,hb⟩:=hk;exact (h.st.img p hp).blk k hb
theorem TermM.img_tg (h:TermM w base F T):¬vh T.E.S F.tg:=λhk=>by
 obtain ⟨_,cs,hb⟩:=qlh h.en hk;exact h.blk.ne_t hb (by decide) rfl
theorem TermM.below (h:TermM w base F T):∀k,YB F k->base<=k/\k<w.heap.size:=by
 rintro k (rfl | hk | hk | hk | hk)
 ·exact ⟨h.hg,h.blk.lt⟩
 ·exact h.sc.below k hk
 ·exact h.en.below k hk
 ·exact h.cq.lt k hk
 ·exact h.rq.lt k hk
theorem TermM.far (h:TermM w base F T):far (YB F) w:=by
 rintro k cs (rfl | hk | hk | hk | hk) hb
 ·exact h.blk.ne_t hb (by decide) rfl
 ·exact h.sc.notC k cs hk hb
 ·rcases hk with rfl | (rfl | rfl) | (rfl | hk) | hk
  ·exact h.en.blk.ne_t hb (by decide) rfl
  ·exact h.en.st.blk.ne_t hb (by decide) rfl
  ·exact h.en.st.map.ne_blk hb rfl
  ·exact h.en.tb.blk.ne_t hb (by decide) rfl
  ·exact qA h.en.tb.own hb (by decide) k hk rfl
  ·exact h.en.nl h.ld k hk
 ·exact qA h.cq hb (by decide) k hk rfl
 ·exact qA h.rq hb (by decide) k hk rfl
theorem TermM.keep {X:Nat->Prop} (h:TermM w base F T) (hc:Chg X w w') (hX:∀k,YB F k->¬X k) (hi:∀k,vh T.E.S k->¬X k) (hf:Go.Proofs.YtokfefnmpjohpaaGreatDoor.far X w) (ht:Tab w'):TermM w' base F T :=
 ⟨h.blk.chg hc (hX _ (.inl rfl)),h.hg,h.sc.keep hc (λk hk=>hX k (.inr (.inl hk))) hf,h.en.chgS hc (λk hk=>hX k (.inr (.inr (.inl hk)))) hi,h.cq.chg hc λk hk=>hX k (.inr (.inr (.inr (.inl hk)))),h.rq.chg hc λk hk=>hX k (.inr (.inr (.inr (.inr hk)))),
  h.dse,h.dsi,h.dc,h.dr,h.dt,h.ld,ht,h.b4⟩
theorem TermM.ext (h:TermM w base F T) (hB:Uc w w'):TermM w' base F T:=h.keep (Chg.of_ext (S:=λ_=>False) hB) (λ_ _ h=>h) (λ_ _ h=>h) (λ_ _ h=>h.elim) (h.tab.ext hB)
theorem TermM.drew (h:TermM w base F T):TermM w.drew base F T:=h.ext ((Below.refl _ w).drew)
theorem TermM.base_le (h:TermM w base F T):base<=w.heap.size:=le_trans h.hg (Nat.le_of_lt h.blk.lt)
structure TmT (base:Nat) (w:World) (F F':TmF) (T':TS) (w':World):Prop where
 m:TermM w' base F' T'
 old:∀k,YB F' k->YB F k\/w.heap.size<=k
 chg:Chg (YB F) w w'
 tg:F'.tg=F.tg
 pg:F'.pg=F.pg
theorem TmT.trans {w1 w2:World} {F1 F2:TmF} {T1 T2:TS} (h:TmT base w F F1 T1 w1) (h2:TmT base w1 F1 F2 T2 w2):TmT base w F F2 T2 w2:=by
 have hs:=h.chg.size;refine ⟨h2.m,λk hk=>?_,h.chg.trans h2.chg λi hi hk=>?_,h2.tg.trans h.tg,h2.pg.trans h.pg⟩
 ·rcases h2.old k hk with h3 | h3
  ·exact h.old k h3
  ·right;omega
 ·rcases h.old i hk with h3 | h3
  ·exact h3
  ·omega
theorem TmT.of_ext (h:TermM w base F T) (hB:Uc w w'):TmT base w F F T w':=⟨h.ext hB,λk hk=>.inl hk,Chg.of_ext hB,rfl,rfl⟩
theorem TmT.drew {F1:TmF} {T1:TS} {w1:World} (h:TmT base w F F1 T1 w1):TmT base w F F1 T1 w1.drew:=h.trans (TmT.of_ext h.m ((Below.refl _ w1).drew))
theorem TmT.ext {F1:TmF} {T1:TS} {w1 w2:World} (h:TmT base w F F1 T1 w1) (hB:Uc w1 w2):TmT base w F F1 T1 w2:=h.trans (TmT.of_ext h.m hB)
theorem TermM.belowB (h:TermM w base F T) (hT:TmT base w F F' T' w'):Below base w w':=hT.chg.below h.base_le λi hi hs=>by have:=(h.below i hs).1;omega
theorem qdw {X:Nat->Prop} (h:TermM w base F T) (hc:Chg X w w') (hX:∀k,X k->base<=k):Tab w':=h.tab.below4 ((hc.below h.base_le λi hi hs=>by have:=hX i hs;omega).mono (by have:=h.b4;omega))
theorem TermM.put (h:TermM w base F T) {F':TmF} {T':TS} (hb:Blk w' F.tg qd0 (zd1 F' T')) (hc:Chg (λk=>k=F.tg) w w') (e1:F'.tg=F.tg) (e2:F'.sg=F.sg) (e3:F'.SF=F.SF) (e4:F'.eg=F.eg) (e5:F'.KF=F.KF) (e0:F'.pg=F.pg) (s1:T'.S=T.S) (s2:T'.E=T.E) (s3:T'.n=T.n)
  (cq:Go.Vc.Own qn w base F'.cq T'.cmd) (rq:Go.Vc.Own qn w base F'.rq T'.rep) (bc:∀k,F'.cq.blk=some k->F.cq.blk=some k) (br:∀k,F'.rq.blk=some k->F.rq.blk=some k):TmT base w F F' T' w':=by
 obtain ⟨tg,sg,SF',eg,KF',pg,cq',rq'⟩:=F';obtain ⟨c',S',E',n',cmd',long',rep',f0',f1'⟩:=T';dsimp only at *;subst e1 e2 e3 e4 e5 s1 s2 s3;have ht:Tab w':=qdw h hc λk e=>by rw [e];exact h.hg
 refine ⟨⟨hb,h.hg,h.sc.keep hc (λk hk e=>h.dt.1 (e ▸ hk)) (λk cs e hk=>by subst e;exact h.blk.ne_t hk (by decide) rfl),h.en.chgS hc (λk hk e=>h.dt.2 (e ▸ hk)) (λk hk e=>h.img_tg (e ▸ hk)),cq.chg hc (qA cq h.blk (by decide)),rq.chg hc (qA rq h.blk (by decide)),
  h.dse,h.dsi,λk hk=>⟨(h.dc k (bc k hk)).1,(h.dc k (bc k hk)).2.1,(h.dc k (bc k hk)).2.2.1,λe=>(h.dc k (bc k hk)).2.2.2 (br k e)⟩,λk hk=>h.dr k (br k hk),h.dt,h.ld,ht,h.b4⟩,λk hk=>.inl ?_,hc.mono λk _ e=>.inl e,rfl,e0⟩
 rcases hk with hk | hk | hk | hk | hk
 ·exact .inl hk
 ·exact .inr (.inl hk)
 ·exact .inr (.inr (.inl hk))
 ·exact .inr (.inr (.inr (.inl (bc k hk))))
 ·exact .inr (.inr (.inr (.inr (br k hk))))
theorem TermM.screen (h:TermM w base F T) {SF':ScF} {S':Sc} (hT:ScT base F.sg w F.SF SF' S' w'):TmT base w F { F with SF:=SF' } { T with S:=S' } w':=by
 have hc:=hT.chg;have ht:Tab w':=qdw h hc λk hk=>(h.sc.below k hk).1;have nx:∀{X:Nat->Prop},(∀k,scS F.sg F.SF k->¬X k)->(∀k,X k->k<w.heap.size)->∀k,scS F.sg SF' k->¬X k:=λh1 h2 k hk hx=>by
  rcases hT.old k hk with h3 | h3
  ·exact h1 k h3 hx
  ·have:=h2 k hx;omega
 refine ⟨⟨h.blk.chg hc λhk=>h.dt.1 hk,h.hg,hT.m,h.en.chgS hc (λk hk hs=>h.dse k hs hk) (λk hk hs=>h.dsi k hs hk),h.cq.chg hc λk hk=>(h.dc k hk).1,h.rq.chg hc λk hk=>(h.dr k hk).1,
  nx h.dse λk hk=>(h.en.below k hk).2,nx h.dsi λk hk=>by obtain ⟨_,cs,hb⟩:=qlh h.en hk;exact hb.lt,λk hk=>⟨λhs=>?_,(h.dc k hk).2⟩,λk hk=>⟨λhs=>?_,(h.dr k hk).2⟩,⟨λhs=>?_,h.dt.2⟩,h.ld,ht,h.b4⟩,λk hk=>?_,hc.mono λk _ hk=>.inr (.inl hk),rfl,rfl⟩
 ·exact nx (X:=λj=>j=k) (λj hj e=>(h.dc k hk).1 (e ▸ hj)) (λj e=>by rw [e];exact (h.cq.lt k hk).2) k hs rfl
 ·exact nx (X:=λj=>j=k) (λj hj e=>(h.dr k hk).1 (e ▸ hj)) (λj e=>by rw [e];exact (h.rq.lt k hk).2) k hs rfl
 ·exact nx (X:=λj=>j=F.tg) (λj hj e=>h.dt.1 (e ▸ hj)) (λj e=>by rw [e];exact h.blk.lt) F.tg hs rfl
 ·rcases hk with hk | hk | hk | hk | hk
  ·exact .inl (.inl hk)
  ·rcases hT.old k hk with h3 | h3
   ·exact .inl (.inr (.inl h3))
   ·exact .inr h3
  ·exact .inl (.inr (.inr (.inl hk)))
  ·exact .inl (.inr (.inr (.inr (.inl hk))))
  ·exact .inl (.inr (.inr (.inr (.inr hk))))
theorem TermM.engine (h:TermM w base F T) {KF':KF} {E':KE} {n':Nat} (hT:EngT base F.eg w F.KF KF' E' n' w') (hi:∀k,vh E'.S k->vh T.E.S k\/w.heap.size<=k) (hl:E'.ld=none):TmT base w F { F with KF:=KF' } { T with E:=E',n:=n' } w':=by
 have hc:=hT.chg;have ht:Tab w':=qdw h hc λk hk=>(h.en.below k hk).1;have fe:Go.Proofs.YtokfefnmpjohpaaGreatDoor.far (ke F.eg F.KF) w:=λk cs hk=>h.far k cs (.inr (.inr (.inl hk)));have nx:∀{k},k<w.heap.size->¬ke F.eg F.KF k->¬ke F.eg KF' k:=λh1 h2 hs=>by
  rcases hT.old _ hs with h3 | h3
  ·exact h2 h3
  ·omega
 have ni:∀{k},k<w.heap.size->¬vh T.E.S k->¬vh E'.S k:=λh1 h2 hs=>by
  rcases hi _ hs with h3 | h3
  ·exact h2 h3
  ·omega
 refine ⟨⟨h.blk.chg hc λhk=>h.dt.2 hk,h.hg,h.sc.keep hc (λk hk hs=>h.dse k hk hs) fe,hT.m,h.cq.chg hc λk hk=>(h.dc k hk).2.1,h.rq.chg hc λk hk=>(h.dr k hk).2.1,
  λk hk=>nx (h.sc.below k hk).2 (h.dse k hk),λk hk=>ni (h.sc.below k hk).2 (h.dsi k hk),λk hk=>⟨(h.dc k hk).1,nx (h.cq.lt k hk).2 (h.dc k hk).2.1,ni (h.cq.lt k hk).2 (h.dc k hk).2.2.1,(h.dc k hk).2.2.2⟩,
  λk hk=>⟨(h.dr k hk).1,nx (h.rq.lt k hk).2 (h.dr k hk).2.1,ni (h.rq.lt k hk).2 (h.dr k hk).2.2⟩,⟨h.dt.1,nx h.blk.lt h.dt.2⟩,hl,ht,h.b4⟩,λk hk=>?_,hc.mono λk _ hk=>.inr (.inr (.inl hk)),rfl,rfl⟩
 rcases hk with hk | hk | hk | hk | hk
 ·exact .inl (.inl hk)
 ·exact .inl (.inr (.inl hk))
 ·rcases hT.old k hk with h3 | h3
  ·exact .inl (.inr (.inr (.inl h3)))
  ·exact .inr h3
 ·exact .inl (.inr (.inr (.inr (.inl hk))))
 ·exact .inl (.inr (.inr (.inr (.inr hk))))
theorem TermM.replied (h:TermM w base F T) {q:Slc} {xs:List UInt8} (ho:Go.Vc.Own qn w' base q (T.rep++xs)) (hc:Chg (λk=>F.rq.blk=some k) w w') (hq:q.blk=F.rq.blk\/q.blk=some w.heap.size) {K:Ub}
  (hK:∀w2,TmT base w F { F with rq:=q } { T with rep:=T.rep++xs } w2->K w2):stK ((⟨F.tg,0,none⟩:Addr).add 12) [(.slice q.a q.n q.c)] w' K:=by
 have hs:=hc.size;have hb:=h.blk.chg hc (qA h.rq h.blk (by decide) _ · rfl);rw [qB];refine qz hb (by show 0+12+1<=15;omega) λw2 hb2 hg2 hs2=>hK w2 ?_;have c2:Chg (λk=>F.rq.blk=some k\/k=F.tg) w w2:=(hc.mono λk _ e=>.inl e).trans (Chg.gg hg2) λk _ e=>.inr e;have hq':∀k,q.blk=some k->F.rq.blk=some k\/w.heap.size<=k:=λk hk=>by
  rcases hq with e | e
  ·exact .inl (e ▸ hk)
  ·rw [e] at hk;cases hk;exact .inr (le_refl _)
 have nt:F.rq.blk≠some F.tg:=λe=>qA h.rq h.blk (by decide) _ e rfl;refine ⟨⟨hb2,h.hg,h.sc.keep c2 ?_ ?_,h.en.chgS c2 ?_ ?_,h.cq.chg c2 ?_,ho.chg (Chg.gg hg2) ?_,h.dse,h.dsi,λk hk=>?_,λk hk=>?_,h.dt,h.ld,qdw h c2 ?_,h.b4⟩,λk hk=>?_,c2.mono λk _ hk=>?_,rfl,rfl⟩
 ·rintro k hk (e | e)
  ·exact (h.dr k e).1 hk
  ·exact h.dt.1 (e ▸ hk)
 ·rintro k cs (e | e) hb
  ·exact qA h.rq hb (by decide) k e rfl
  ·subst e;exact h.blk.ne_t hb (by decide) rfl
 ·rintro k hk (e | e)
  ·exact (h.dr k e).2.1 hk
  ·exact h.dt.2 (e ▸ hk)
 ·rintro k hk (e | e)
  ·exact (h.dr k e).2.2 hk
  ·exact h.img_tg (e ▸ hk)
 ·rintro k hk (e | e)
  ·exact (h.dc k hk).2.2.2 e
  ·exact qA h.cq h.blk (by decide) k hk e
 ·intro k hk e;rcases hq' k hk with h1 | h1
  ·exact nt (e ▸ h1)
  ·have:=h.blk.lt;omega
 ·refine ⟨(h.dc k hk).1,(h.dc k hk).2.1,(h.dc k hk).2.2.1,λe=>?_⟩;rcases hq' k e with h1 | h1
  ·exact (h.dc k hk).2.2.2 h1
  ·have:=(h.cq.lt k hk).2;omega
 ·rcases hq' k hk with h1 | h1
  ·exact h.dr k h1
  ·refine ⟨λhs=>?_,λhs=>?_,λhs=>?_⟩
   ·have:=(h.sc.below k hs).2;omega
   ·have:=(h.en.below k hs).2;omega
   ·obtain ⟨_,cs,hb⟩:=qlh h.en hs;have:=hb.lt;omega
 ·rintro k (e | e)
  ·exact (h.rq.lt k e).1
  ·rw [e];exact h.hg
 ·rcases hk with hk | hk | hk | hk | hk
  ·exact .inl (.inl hk)
  ·exact .inl (.inr (.inl hk))
  ·exact .inl (.inr (.inr (.inl hk)))
  ·exact .inl (.inr (.inr (.inr (.inl hk))))
  ·rcases hq' k hk with h1 | h1
   ·exact .inl (.inr (.inr (.inr (.inr h1))))
   ·exact .inr h1
 ·rcases hk with e | e
  ·exact .inr (.inr (.inr (.inr e)))
  ·exact .inl e
end
section
variable {w w':World} {base:Nat} {F F':TmF} {T T':TS} {g:Nat} {SF:ScF} {S:Sc}
theorem q7r (h:ScM w base g SF S) {K:Int->Ub} (hK:∀w',Uc w w'->K S.g.top w'):Q3 (some ⟨g,0,none⟩) w K:=by
 refine qev _ ?_;exact qn1 h (qxh h.drew.gM (hK _ (zk w)))
theorem q4u (h:ScM w base g SF S) {K:Int->Int->Ub} (hK:∀w',Uc w w'->K S.g.rows S.g.cols w'):yu (some ⟨g,0,none⟩) w K:=by
 refine qdh _ ?_;exact qlg h (hK _ ((Below.refl _ w).drew.drew))
def vM (T:TS):qj:=⟨⟨T.S.alt,T.S.g.top,T.S.g.rows,T.S.g.cols,T.S.c.Row,T.S.c.Col⟩,T.c.CellW,T.c.CellH⟩
theorem qpc (h:TermM w base F T) {K:qj->Ub} (hK:∀w',Uc w w'->K (vM T) w'):kZ (some ⟨F.tg,0,none⟩) w K:=by
 refine qjz _ ?_;simp only [onPtr_some];refine nwb λw1 h1 hB1 hs1=>?_;have m1:=h.ext hB1;refine qM (x:=some ⟨F.sg,0,none⟩) (m1.blk.cells 6 _ rfl) (q4u m1.sc λw2 hB2=>?_);have B2:=bT hB1 hB2;have m2:=h.ext B2;refine qM (x:=some ⟨F.sg,0,none⟩) (m2.blk.cells 6 _ rfl) (qzo m2.sc λw3 hB3=>?_);have B3:=bT B2 hB3;refine jQ (vs:=qK.rep.cells T.S.c) rfl λw4 h4 hB4 hs4=>?_;have B4:=bT B3 hB4;have m4:=(h.ext B4).drew;have h4d:=h4.drew;refine qM (x:=some ⟨F.sg,0,none⟩) (m4.blk.cells 6 _ rfl) (qM (x:=some ⟨F.sg,0,none⟩) (m4.blk.cells 6 _ rfl) ?_);refine lI (x:=T.S.c.Row) (h4d.cells 0 _ rfl) (lI (x:=T.S.c.Col) (h4d.cells 1 _ rfl) ?_);refine lI (x:=T.c.CellW) (by rw [j8];exact m4.blk.cells 2 _ rfl) (lI (x:=T.c.CellH) (by rw [j8];exact m4.blk.cells 3 _ rfl) ?_);refine qzm m4.sc ⟨by rw [j8];exact m4.blk.cells 3 _ rfl,by rw [j8];exact m4.blk.cells 2 _ rfl,h4d.cells 1 _ rfl,h4d.cells 0 _ rfl,m4.blk.cells 6 _ rfl,q7r m4.sc λw7 hB7=>?_⟩;have m7:=m4.ext hB7;have h47:=h4d.ext hB7;refine ⟨by rw [j8];exact m7.blk.cells 3 _ rfl,by rw [j8];exact m7.blk.cells 2 _ rfl,h47.cells 1 _ rfl,h47.cells 0 _ rfl,?_⟩;have h17:=(((((h1.ext hB2).ext hB3).ext hB4).drew).ext hB7);have B7:=bT (bT B4 (bdw w4)) hB7;exact zw (r:=qj.rep) (x:=vM T) h17 rfl rfl λw8 hc8 hs8=>hK w8 (b1o B7 hc8 (le_refl _))
theorem qyl (h:ScM w base g SF S) {K:Slc->Ub} (hK:∀q w',q.n=S.areas.length->ScT base g w SF { SF with ar:=⟨none,0,0⟩ } { S with areas:=[] } w'->K q w'):vl (some ⟨g,0,none⟩) w K:=by
 refine YI _ ?_;simp only [onPtr_some];refine lSl (x:=SF.ar) (h.blk.cells 41 _ rfl) ?_;show stK ⟨g,41,none⟩ _ _ _;have hlen:(qy.rep.cells (scX SF S)).length=42:=rfl;refine qz h.blk (by rw [hlen];show (41+1:Nat)<=42;omega) λw1 hb1 hg1 hs1=>?_;have hc:Chg (λi=>i=g) w w1:=Chg.of_grown hg1 λk hk=>by cases hk;rfl
 have hC:∀k cs,k=g->¬Blk w k qT cs:=λk cs hk hcs=>h.notC k cs (.inl hk) hcs;refine hK SF.ar w1 h.ar.rd.n ⟨⟨hb1,h.hg,h.g0.chg hc (λk hk=>h.of_g k (.inl hk)) hC,h.g1.chg hc (λk hk=>h.of_g k (.inr (.inl hk))) hC,h.st.keep hc (h.of_g _ (.inr (.inr (.inl rfl)))) (h.of_g _ (.inr (.inr (.inr (.inl rfl))))),h.hst,h.mo.chg hc (h.of_g _ (.inr (.inr (.inr (.inr (.inl rfl)))))),h.pr.chg hc (h.of_g _ (.inr (.inr (.inr (.inr (.inr (.inl rfl))))))),h.hm,h.dm,Go.Vc.Own.nil _ _ _,h.dg,h.ok.areas _⟩,?_,hc.mono λk _ e=>.inl e⟩;rintro k (hk | hk | hk | hk | hk | hk | hk | hk)
 ·exact .inl (.inl hk)
 ·exact .inl (.inr (.inl hk))
 ·exact .inl (.inr (.inr (.inl hk)))
 ·exact .inl (.inr (.inr (.inr (.inl hk))))
 ·exact .inl (.inr (.inr (.inr (.inr (.inl hk)))))
 ·exact .inl (.inr (.inr (.inr (.inr (.inr (.inl hk))))))
 ·exact .inl (.inr (.inr (.inr (.inr (.inr (.inr (.inl hk)))))))
 ·cases hk
theorem qye {f:Value} {LS:List (List qO)} (hn:LS.length<=2000)
  (hf:∀(i:Nat) w2 (K:Slc->Bool->Ub),Uc w w2->(∀xs,LS[i]?=some xs->∀q w3,Go.Vc.Own zl w3 w2.heap.size q xs->Uc w2 w3->K q true w3)->(LS.length<=i->∀q w3,Uc w2 w3->K q false w3)->jd C f [.int .i64 i] [Kind.slice,Kind.bool] w2 K)
  {K:Slc->Ub} (hK:∀q ls w',Go.Vc.Own slE w' w.heap.size q ls->Lines w' w.heap.size ls LS->Uc w w'->K q w'):qe4 f w K:=by
 refine qra _ ?_;refine lpR (λ(st:Slc×Int×Unit) w1=>∃(k:Nat) (ls:List Slc),st.2.1=k/\k<=LS.length/\Go.Vc.Own slE w1 w.heap.size st.1 ls/\Lines w1 w.heap.size ls (LS.take k)/\Uc w w1) (λst=>LS.length-st.2.1.toNat) ⟨0,[],rfl,zero_le _,Go.Vc.Own.nil _ _ _,Lines.nil _ _,Below.refl _ _⟩ ?_;rintro ⟨q,i,u⟩ w1 ⟨k,ls,hi,hk,ho,hl,hB⟩ I hI;dsimp only at hi ho ⊢;subst hi;refine hf k w1 _ hB (λxs hx t w2 ht hB2=>?_) λhge t w2 hB2=>?_
 ·refine cF rfl ?_;have hkl:k<LS.length:=(List.getElem?_eq_some_iff.1 hx).1;have hll:ls.length=k:=by rw [hl.1,List.length_take];omega
  have B2:=bT hB hB2;have ho2:=ho.ext hB2;have hl2:=hl.ext hB2;refine qdc (E:=slE) qip (y:=t) ho2 rfl B2.size (by rw [hll,show qip.i.bytes=24 by kernel_rfl];omega) (by rw [hll];simp [maxLen];omega) λr w3 hr hc3 hrb=>?_;have hne:∀k',q.blk=some k'->¬∃cs,Blk w2 k' qT cs:=λk' hk' ⟨cs,hcs⟩=>qA ho2 hcs (by decide) k' hk' rfl;have B3:Uc w w3:=B2.trans (hc3.below B2.size λj hj e=>by have:=(ho2.lt j e).1;omega);refine hI _ _ ⟨k+1,ls++[t],by show i64.wrap ((k:Int)+1)=_;rw [qP (by omega)];simp,hkl,hr,⟨by rw [length_append,hll,List.length_take,List.length_singleton];omega,λj s ys hj hy=>?_⟩,B3⟩ (by show LS.length-(i64.wrap ((k:Int)+1)).toNat<LS.length-((k:Nat):Int).toNat;rw [qP (by omega)];omega);by_cases hjk:j<k
  ·rw [List.getElem?_append_left (by omega)] at hj;rw [List.getElem?_take_of_lt (by omega)] at hy;have h4:=hl2.2 j s ys hj (by rw [List.getElem?_take_of_lt hjk];exact hy);exact h4.chg hc3 λk' hk' e=>by
    obtain ⟨cs,hcs⟩:=h4.blk_t hk';exact hne k' e ⟨cs,hcs⟩
  ·have hj2:j<(ls++[t]).length:=(List.getElem?_eq_some_iff.1 hj).1;rw [length_append,List.length_singleton,hll] at hj2;have hje:j=k:=by omega
   subst hje;rw [List.getElem?_append_right (by omega),hll,Nat.sub_self] at hj;obtain rfl:t=s:=by simpa using hj
   rw [List.getElem?_take_of_lt (by omega),hx] at hy;obtain rfl:=Option.some.inj hy;exact (ht.base (by have:=hB.size;omega)).chg hc3 λk' hk' e=>by
    obtain ⟨cs,hcs⟩:=ht.blk_t hk';exact hne k' e ⟨cs,hcs⟩
 ·have hke:k=LS.length:=by omega
  refine cT rfl (hK q ls w2 (ho.ext hB2) ?_ (bT hB hB2));have:=hl.ext hB2;rw [hke,List.take_length] at this;exact this
end
section
variable {w w':World} {base:Nat} {F F':TmF} {T T':TS}
theorem qny (h:TermM w base F T) {K:Slc->Ub} (hK:∀q ls w',Go.Vc.Own slE w' w.heap.size q ls->Lines w' w.heap.size ls T.S.g.L->Uc w w'->K q w'):jl (some ⟨F.tg,0,none⟩) w K:=by
 refine qis _ ?_;simp only [onPtr_some];have hG:=h.sc.gOk;refine qM (x:=some ⟨F.sg,0,none⟩) (h.blk.cells 6 _ rfl) (q77 h.sc λf' w1 hg hf hsc hB1=>?_);have z1:=hB1.size;refine qye (LS:=T.S.g.L) (by rw [hG.len];have:=hG.rows;omega) (λi w2 K2 hB2 h1 h2=>?_) λq ls w2 ho hl hB2=>hK q ls w2 (ho.base z1) ⟨hl.1,λj s xs hj hx=>(hl.2 j s xs hj hx).base z1⟩ (bT hB1 hB2);refine callR_plain (by kernel_rfl) (show Xr (some ⟨f'.g,0,none⟩) (i:Int) w2 K2 from ?_);refine q39 (hg.ext hB2) hG.len (λxs hx=>by have:=(hG.L xs hx).2.1;have:=hG.cols;omega) (λs xs w3 h0 hx ho hB3=>h1 xs (by simpa using hx) s w3 ho hB3) λhn=>h2 (by rw [hG.len];omega) _ _ (Below.refl _ _)
theorem Jj (h:TermM w base F T) {K:Slc->Ub} (hK:∀q F' w',Rd qn w' q T.rep->TmT base w F F' { T with rep:=[] } w'->K q w'):zU (some ⟨F.tg,0,none⟩) w K:=by
 refine qfl _ ?_;simp only [onPtr_some];refine lSl (x:=F.rq) (h.blk.cells 12 _ rfl) (qv7 (q0h h.rq) λq hq hn=>?_);rw [qB];refine qz h.blk (by show 0+12+1<=15;omega) λw2 hb2 hg2 hs2=>?_;have hc:=Chg.gg hg2;have hq2:=hq.chg hc λk hk e=>by
  obtain ⟨cs,hcs⟩:=(hq.blk k hk).2;subst e;exact h.blk.ne_t hcs (by decide) rfl
 exact hK q { F with rq:=⟨none,0,0⟩ } w2 hq2.rd (h.put hb2 hc rfl rfl rfl rfl rfl rfl rfl rfl rfl h.cq (Go.Vc.Own.nil _ _ _) (λk hk=>hk) λk hk=>by cases hk)
theorem q2b (h:TermM w base F T) {n:Int} {priv:Bool} {K:Bool->Ub} (hK:K (T.S.modeP n priv).1 w):X0 (some ⟨F.tg,0,none⟩) n priv w K:=by
 refine qj9 _ _ _ ?_;simp only [onPtr_some];exact qM (x:=some ⟨F.sg,0,none⟩) (h.blk.cells 6 _ rfl) (q7q h.sc hK)
def qmd (v:EvP):Ev:=⟨v.k,v.r,v.b,v.pv,v.i,v.ps⟩
structure TPM (w:World) (base:Nat) (F:TmF) (PF:PF) (p:PS) (T:TS):Prop where
 tm:TermM w base F T
 pm:∃fv,ParsM w base PF p fv
 e:PF.pg=F.pg
 dj:∀k,Qx PF k->¬YB F k
 ni:T.E.S.L=[]
theorem ScM.based {base' g:Nat} {SF:ScF} {S:Sc} (h:ScM w base g SF S) (hb:base'<=base):ScM w base' g SF S :=
 ⟨h.blk,le_trans hb h.hg,h.g0.base hb,h.g1.base hb,h.st,⟨le_trans hb h.hst.1,le_trans hb h.hst.2⟩,h.mo,h.pr,⟨le_trans hb h.hm.1,le_trans hb h.hm.2⟩,h.dm,h.ar.base hb,h.dg,h.ok⟩
theorem EngM.based {base' g n:Nat} {KF:KF} {E:KE} (h:EngM w base g KF E n) (hl:E.ld=none) (hb:base'<=base):EngM w base' g KF E n :=
 ⟨h.blk,le_trans hb h.hg,⟨h.st.blk,h.st.map,λp hp=>(h.st.img p hp).base hb⟩,h.ok,⟨le_trans hb h.hs.1,le_trans hb h.hs.2⟩,⟨h.tb.blk,le_trans hb h.tb.hg,h.tb.own.base hb⟩,h.tl,(λC s e=>by rw [hl] at e;cases e),h.nl,h.dg,h.ds,h.dt,h.di⟩
def qmr (c:qI):TS:=⟨c,zdx c.Rows.toNat c.Cols.toNat c.Back.toNat,ze0 c.Quota,0,[],false,[],0,0⟩
theorem qtb {c:qI} (hc:okC c) (hq:qbc c.Quota=0) (hT:Tab w) (h16:4<=w.heap.size) {K:Option Addr->Int->Ub} (hK:∀F PF w',TPM w' w.heap.size F PF ps0 (qmr c)->Uc w w'->K (some ⟨F.tg,0,none⟩) 0 w'):qec c w K:=by
 refine qvd _ ?_;refine nwb λw1 h1 hB1 hs1=>qw (r:=qI.rep) (x:=c) h1.cells (q7s (λhb=>absurd hc hb) λ_ sg SF w2 hsc hB2=>cF rfl ?_);refine lI (x:=c.Quota) ((h1.ext hB2).cells 5 _ rfl) (q6z (λhe=>by rw [hq] at he;cases he) λ_ eg KF w3 hge hen hB3=>?_);have h13:=((h1.ext hB2).ext hB3).drew;refine qw (r:=qI.rep) (x:=c) h13.cells ?_;refine qtk ?_;unfold qm3;refine qyy ?_;unfold qt1;refine nwb λw4 h4 hB4 hs4=>nwb λw5 h5 hB5 hs5=>?_;have B45:Below w3.drew.heap.size w3.drew w5:=bT hB4 hB5;refine ⟨(h13.ext B45).cells,nwb λw6 h6 hB6 hs6=>?_⟩;have B36:Uc w3 w6:=bT (bT (bdw w3) B45) hB6;have B26:=bT hB3 B36;have B12:=bT hB1 hB2;have B06:=bT B12 B26;have z1:=hB1.size;have z2:=hB2.size;have z3:=hB3.size;have z4:w3.heap.size<=w4.heap.size:=hB4.size;have z5:=hB5.size;have e3:w3.drew.heap.size=w3.heap.size:=rfl;rw [e3] at h4 hs4;have hsc6:=(hsc.ext B26).based (base':=w.heap.size) z1;have hen6:=(hen.ext B36).based (base':=w.heap.size) rfl (by omega);have sb:∀k,scS sg SF k->k<w2.heap.size:=λk hk=>(hsc.below k hk).2;have eb:∀k,ke eg KF k->w2.heap.size<=k/\k<w3.heap.size:=λk hk=>hen.below k hk;have ib:∀k,¬vh (ze0 c.Quota).S k:=λk hk=>by obtain ⟨p,hp,_⟩:=hk;cases hp
 refine hK ⟨w5.heap.size,sg,SF,eg,KF,w4.heap.size,⟨none,0,0⟩,⟨none,0,0⟩⟩ ⟨w4.heap.size,w3.heap.size,⟨none,0,0⟩,⟨none,0,0⟩,⟨none,0,0⟩⟩ w6 ⟨⟨h6,by show w.heap.size<=w5.heap.size;omega,hsc6,hen6,Go.Vc.Own.nil _ _ _,Go.Vc.Own.nil _ _ _,λk hk hk2=>?_,λk hk hk2=>ib k hk2,(λk hk=>by cases hk),(λk hk=>by cases hk),⟨λhk=>?_,λhk=>?_⟩,rfl,hT.ext B06,h16⟩,
  ⟨_,(h5.ext hB6),⟨0,0,0,(h4.ext hB5).ext hB6⟩,⟨by show w.heap.size<=w4.heap.size;omega,by show w.heap.size<=w3.heap.size;omega⟩,Go.Vc.Own.nil _ _ _,Go.Vc.Own.nil _ _ _,Go.Vc.Own.nil _ _ _,(λk hk=>by cases hk),⟨by decide,by decide,by decide,by decide,by decide,by decide⟩⟩,rfl,?_,rfl⟩ B06
 ·have:=sb k hk;have:=eb k hk2;omega
 ·have:=sb _ hk;dsimp only at this;omega
 ·have:=(eb _ hk).2;dsimp only at this;omega
 ·rintro k (rfl | rfl | hk | hk | hk) hs
  ·rcases hs with hs | hs | hs | hs | hs
   ·have:w4.heap.size=w5.heap.size:=hs;omega
   ·have:=sb _ hs;dsimp only at this;omega
   ·have:=(eb _ hs).2;dsimp only at this;omega
   ·cases hs
   ·cases hs
  ·rcases hs with hs | hs | hs | hs | hs
   ·have:w3.heap.size=w5.heap.size:=hs;omega
   ·have:=sb _ hs;dsimp only at this;omega
   ·have:=(eb _ hs).2;dsimp only at this;omega
   ·cases hs
   ·cases hs
  ·cases hk
  ·cases hk
  ·cases hk
end
section
variable {w w':World} {base:Nat} {F F':TmF} {T T':TS}
theorem q3f {b b':Nat} {ls:List Slc} {xss:List (List qO)} (h:Lines w b ls xss) (hb:b'<=b):Lines w b' ls xss:=⟨h.1,λj s xs hj hx=>(h.2 j s xs hj hx).base hb⟩
theorem qvn (h:TermM w base F T) {K:Option Addr->Ub} (hK:∀g' r' w',StM w' base g' r' T.E.S->Uc w w'->K (some ⟨g',0,none⟩) w'):Zg (some ⟨F.tg,0,none⟩) w K:=by
 refine qgl _ ?_;simp only [onPtr_some];exact qM (x:=some ⟨F.eg,0,none⟩) (h.blk.cells 7 _ rfl) (qyj h.en λg' r' w' _ _ hst hB=>hK g' r' w' hst hB)
end
section
variable {w w':World} {base:Nat} {F F':TmF} {T T':TS}
theorem zcc {g n:Nat} {F:KF} {E:KE} (h:EngM w base g F E n) (id:Int) {K:qa->Bool->Ub} (hK:∀w',Uc w w'->K (((zt E.S.L id).map Im.v).getD qo6).m (zt E.S.L id).isSome w'):Zd (some ⟨g,0,none⟩) id w K:=by
 refine qf4 _ _ ?_;refine nwb λw1 b1 B1 s1=>qJ (qM (x:=some ⟨F.sg,0,none⟩) ((h.blk.ext B1).cells 1 _ rfl) ?_);refine KB _ _ ?_;refine nwb λw2 b2 B2 s2=>?_;have BB:=bT B1 B2;have z1:=B1.size;have z2:=B2.size;have hs:=h.st.ext BB;refine qJ (xx (x:=some F.sr) (hs.blk.cells 4 _ rfl) (qol hs.map id ?_));generalize ((zt E.S.L id).map Im.v).getD qo6=v at hK ⊢;refine qej λw4 b4 B4 s4=>?_;have B14:=bT B2 B4;have z4:=B4.size;refine qw (r:=qa.rep) (x:=v.m) (b4.sub 1 _ rfl) ?_;have b24:=b2.ext B4;refine zw (r:=qa.rep) (x:=v.m) b24 rfl rfl λw5 c5 s5=>?_;have b15:=(b1.ext B14).chg c5 (by omega);refine zw (r:=qa.rep) (x:=v.m) b15 rfl rfl λw6 c6 s6=>hK w6 ?_;exact b1o (b1o (bT BB B4) c5 (by omega)) c6 (le_refl _)
theorem q37 {x:Slc} {f:Value} (hx:x.n=1) {K:Ub} (hK:K w):zF x f w K:=by
 refine xP _ _ ?_;refine yV _ _ _ ?_;rw [hx];refine lpR (λ(st:Int×Int×Unit) w1=>st=(0,20,())/\w1=w) (λ_=>0) ⟨rfl,rfl⟩ ?_;rintro _ w1 ⟨rfl,rfl⟩ I hI;refine cF rfl ?_;refine vf _ _ _ _ ?_;refine lpR (λ(st:Int×Unit) w2=>st.1=1/\w2=w1) (λ_=>0) ⟨rfl,rfl⟩ ?_;rintro ⟨i,u⟩ w2 ⟨rfl,rfl⟩ I2 hI2;refine cF rfl ?_;refine lpR (λ(st:Int×Unit) w3=>st.1=20/\w3=w2) (λ_=>0) ⟨rfl,rfl⟩ ?_;rintro ⟨i,u⟩ w3 ⟨rfl,rfl⟩ I3 hI3;exact cF rfl hK
theorem q63 (h:TermM w base F T) (hP:T.E.T=[p7]) {v:qH} (hv:v.Alt=false/\v.Top=0/\v.Rows=2) {K:Slc->Ub} (hK:∀r w',Go.Vc.Own qQ w' w.heap.size r [p7]->Uc w w'->K r w'):zg (some ⟨F.eg,0,none⟩) v w K:=by
 refine qck _ _ ?_;refine nwb λw1 h1 hB1 hs1=>?_;simp only [onPtr_some];have m1:=(h.ext hB1).drew;refine qM (x:=some ⟨F.KF.tg,0,none⟩) (m1.en.blk.cells 2 _ rfl) (qw (r:=qH.rep) (x:=v) h1.drew.cells ?_);refine qfm _ _ ?_;refine nwb λw2 h2 hB2 hs2=>?_;simp only [onPtr_some];have m2:=m1.ext hB2;have B2:=bT (bT hB1 (bdw w1)) hB2;have z2:=B2.size;have z1:=(bT hB1 (bdw w1)).size;refine lSl (x:=F.KF.q) (m2.en.tb.blk.cells 0 _ rfl) ?_;have hr:=m2.en.tb.own.rd;have hn:=hr.n;rw [hP] at hn hr;refine lpR (λ(st:Slc×Int×Unit) w3=>∃k:Nat,st.2.1=(k:Int)/\k<=1/\Go.Vc.Own qQ w3 w2.heap.size st.1 (if k=0 then [] else [p7])/\Uc w2 w3) (λst=>1-st.2.1.toNat)
  ⟨0,rfl,by decide,Go.Vc.Own.nil _ _ _,Below.refl _ _⟩ ?_
 rintro ⟨sl,i,u⟩ w3 ⟨k,hk1,hk,ho3,B3⟩ I hI;dsimp only at hk1 ho3 ⊢;subst hk1;refine cO (λe=>?_) λe=>?_
 ·have e:=oTq e;rw [hn] at e;obtain rfl:k=0:=by simp at e;omega
  have ho3:Go.Vc.Own qQ w3 w2.heap.size sl []:=ho3;have hr3:=hr.ext B3;refine hr3.ix (E:=qQ) (i:=((0:Nat):Int)) (k:=14) rfl (by decide) (by decide) λhcc=>?_;refine qw (r:=qf.rep) (x:=p7) hcc ?_;refine jQ rfl λw4 b4 B4 s4=>?_;have B24:=bT B3 B4;have h24:=h2.ext B24;have z3:=B3.size;have z4:=B4.size;refine jpO λJ2 hJ2=>?_;refine jY (x:=false) (b4.cells 2 _ rfl) (jY (x:=false) (by rw [<-hv.1];exact h24.cells 0 _ rfl) (cT rfl (qw (r:=qf.rep) (x:=p7) b4.cells ?_)));refine lI (x:=0) (by rw [<-hv.2.1];exact h24.cells 1 _ rfl) (lI (x:=2) (by rw [<-hv.2.2];exact h24.cells 2 _ rfl) ?_);refine q38 λw5 B5=>?_;have e1:q4j p7 0 2 0 1073741824=true:=by kernel_rfl
  rw [e1];refine hJ2 _ _ (cT rfl (qw (r:=qf.rep) (x:=p7) (b4.ext B5).cells ?_));have B35:=bT B4 B5;have z5:=B5.size;refine qdc (E:=qQ) jH (ho3.ext B35) (y:=p7) rfl (by omega) (by rw [ZG];decide) (by decide) λr w7 ho7 c7 hr7=>?_;refine hI _ _ ⟨1,by show i64.wrap (((0:Nat):Int)+1)=((1:Nat):Int);decide,by decide,ho7,(bT B3 B35).trans (c7.below (by omega) λi hi hs=>by have:=(ho3.lt i hs).1;omega)⟩ (by show (0:Nat)<1;decide)
 ·have e:=oFq e;rw [hn] at e;obtain rfl:k=1:=by simp at e;omega
  have ho3:Go.Vc.Own qQ w3 w2.heap.size sl [p7]:=ho3;refine q37 ho3.rd.n (hK sl w3 (ho3.base z2) (bT B2 B3))
theorem zdp {K:Nat->Ub} (hK:∀w',zG qpb w' w.heap.size ([]:List (Int×qa))->Uc w w'->K w.heap.size w'):nwM w K:=hK _ (zG.new w) ((Below.refl _ w).alloc (le_refl _) _)
end
section
variable {w w':World} {base:Nat} {F F':TmF} {T T':TS}
theorem q67 (h:TermM w base F T) (hn:T.n<=900) {x:Im} (hE:T.E.S.L=[(7,x)]) (hx:x.v.m.W=1/\x.v.m.H=1) (hP:T.E.T=[p7]) (hv0:T.S.alt=false/\T.S.g.top=0/\T.S.g.rows=2) (ecw:T.c.CellW=1) (ech:T.c.CellH=1) {K:qo->Ub}
  (hK:∀s w' mp,ScnM w' w'.heap.size s T.S.g.rows T.S.g.cols 1 1 T.S.g.L->s.Top=T.S.g.top->Rd qQ w' s.Places [p7]->(∀a,s.Places.a=some a->a.block<w'.heap.size)->s.Images=some mp->zG qpb w' mp [(7,⟨1,1,x.v.m.P⟩)]->s.Cursor=(T.S.modeP 25 true).1->s.Row=T.S.c.Row->s.Col=T.S.c.Col->Uc w w'->K s w'):Jn (some ⟨F.tg,0,none⟩) (.func (.func V0) #[(.pointer (some ⟨F.eg,0,none⟩))] #[]) w K:=by
 have hv:(vM T).View.Alt=false/\(vM T).View.Top=0/\(vM T).View.Rows=2:=⟨hv0.1,hv0.2.1,by show ((T.S.g.rows:Nat):Int)=2;rw [hv0.2.2];rfl⟩;have hM:(⟨1,1,x.v.m.P⟩:qa)=x.v.m:=by obtain ⟨h1,h2⟩:=hx;rw [<-h1];conv=>lhs;arg 2;rw [h1,<-h2]
 refine qit _ _ ?_;refine nwb λw1 h1 hB1 hs1=>qpc (h.ext hB1) λw2 hB2=>?_;refine jQ (vs:=qj.rep.cells (vM T)) rfl λw4 h4 hB4 hs4=>?_;have B4:=bT (bT hB1 hB2) hB4;have z1:=hB1.size;have z2:=hB2.size;have z4:=hB4.size;have hm0:=(h.ext B4).drew;have hv0:=h4.drew;have ht0:=((h1.ext hB2).ext hB4).drew;have B04:=bT B4 (bdw w4);have hG:=h.sc.gOk;refine jpO λJ1 hJ1=>?_;have c1:∀{wx},Below w4.drew.heap.size w4.drew wx->wx.cell? (((⟨w2.heap.size,0,none⟩:Addr).add 0).add 1)=some (Ua T.S.g.top):=λhB=>by rw [j8];exact (hv0.ext hB).cells 1 _ rfl
 have c2:∀{wx},Below w4.drew.heap.size w4.drew wx->wx.cell? (((⟨w2.heap.size,0,none⟩:Addr).add 0).add 2)=some (Ua T.S.g.rows):=λhB=>by rw [j8];exact (hv0.ext hB).cells 2 _ rfl
 have c3:∀{wx},Below w4.drew.heap.size w4.drew wx->wx.cell? (((⟨w2.heap.size,0,none⟩:Addr).add 0).add 3)=some (Ua T.S.g.cols):=λhB=>by rw [j8];exact (hv0.ext hB).cells 3 _ rfl
 have c4:∀{wx},Below w4.drew.heap.size w4.drew wx->wx.cell? (((⟨w2.heap.size,0,none⟩:Addr).add 0).add 4)=some (Ua T.S.c.Row):=λhB=>by rw [j8];exact (hv0.ext hB).cells 4 _ rfl
 have c5:∀{wx},Below w4.drew.heap.size w4.drew wx->wx.cell? (((⟨w2.heap.size,0,none⟩:Addr).add 0).add 5)=some (Ua T.S.c.Col):=λhB=>by rw [j8];exact (hv0.ext hB).cells 5 _ rfl
 have c6:∀{wx},Below w4.drew.heap.size w4.drew wx->wx.cell? ((⟨w2.heap.size,0,none⟩:Addr).add 6)=some (Ua T.c.CellW):=λhB=>(hv0.ext hB).cells 6 _ rfl;have c7:∀{wx},Below w4.drew.heap.size w4.drew wx->wx.cell? ((⟨w2.heap.size,0,none⟩:Addr).add 7)=some (Ua T.c.CellH):=λhB=>(hv0.ext hB).cells 7 _ rfl;have cs:∀{wx},Below w4.drew.heap.size w4.drew wx->qx wx ((⟨w2.heap.size,0,none⟩:Addr).add 0) (qH.rep.cells (vM T).View):=λhB=>(hv0.ext hB).sub 0 _ rfl;have ct:∀{wx},Below w4.drew.heap.size w4.drew wx->wx.cell? ((⟨F.tg,0,none⟩:Addr).add 7)=some (.pointer (some ⟨F.eg,0,none⟩)):=λhB=>(hm0.ext hB).blk.cells 7 _ rfl;have B0:=Below.refl w4.drew.heap.size w4.drew;have fin:∀(sb mp:Nat) (q:Slc) (ls:List Slc) (pl:Slc) (wx:World),Blk wx sb za [(Ua 0),(Ua 0),(Ua 0),(Ua 0),(.slice none 0 0),(.slice none 0 0),(.map none),(Ua 0),(.bool false),(Ua 0),(Ua 0)]->Below w4.drew.heap.size w4.drew wx->w4.drew.heap.size<=sb->Go.Vc.Own slE wx w4.drew.heap.size q ls->Lines wx w4.drew.heap.size ls T.S.g.L->Go.Vc.Own qQ wx w4.drew.heap.size pl [p7]->zG qpb wx mp ([]:List (Int×qa))->w4.drew.heap.size<=mp ->
   stK ⟨sb,0,none⟩ [(Ua T.S.g.rows),(Ua T.S.g.cols),(Ua T.c.CellW),(Ua T.c.CellH),(.slice q.a q.n q.c),(.slice pl.a pl.n pl.c),(.map (some mp)),(Ua T.S.g.top),(.bool false),(Ua T.S.c.Row),(Ua T.S.c.Col)] wx λwy=>J1 (⟨sb,0,none⟩,()) wy:=by
  intro sb mp q ls pl wx hs hBx hle ho hl hpl hmp hml;have hne:=hmp.ne_blk hs;refine xf hs rfl λwy hy hcy hsy=>hJ1 _ _ ?_;have By:=b1o hBx hcy hle;have oy:=ho.chg hcy (qA ho hs (by decide));have py:=hpl.chg hcy (qA hpl hs (by decide));have ky:=hmp.chg hcy hne;have ly:=hl.chg hcy λk cs e hk=>by subst e;exact hs.ne_t hk (by decide) rfl
  have my:=hm0.ext By;refine q2b my ?_;rw [qB];refine qz hy (by show 0+8+1<=11;omega) λwz hz hgz hsz=>?_;have hcz:=Chg.gg hgz;have Bz:=b1o By hcz hle;have oz:=oy.chg hcz (qA oy hy (by decide));have pz:=py.chg hcz (qA py hy (by decide));have kz:=ky.chg hcz hne;have lz:=ly.chg hcz λk cs e hk=>by subst e;exact hy.ne_t hk (by decide) rfl
  refine qvn (hm0.ext Bz) λg' r' w8 hst hB8=>?_;refine zbd hst h.en.ok (by omega) λiq w9 hiq hB9=>?_;have hin:=hiq.rd.n;rw [hE] at hin;have hir:=hiq.rd;rw [hE] at hir;have B9:=bT (bT Bz hB8) hB9;have hs9:=(hz.ext hB8).ext hB9;have o9:=(oz.ext hB8).ext hB9;have p9:=(pz.ext hB8).ext hB9;have k9:=(kz.ext hB8).ext hB9;have l9:=(lz.ext hB8).ext hB9;refine lpR (λ(st:Int×Unit) wb=>∃k:Nat,st.1=(k:Int)/\k<=1/\zG qpb wb mp (if k=0 then [] else [(7,⟨1,1,x.v.m.P⟩)])/\Chg (λk=>k=mp) w9 wb) (λst=>1-st.1.toNat) ⟨0,rfl,by decide,k9,Chg.refl _ _⟩ ?_;rintro ⟨i,u⟩ wb ⟨k,hki,hk1,hkm,cb⟩ I hI;dsimp only at hki ⊢;subst hki;have Bb:=b1o B9 cb hml;have hsb:=hs9.chg cb λe=>hne e.symm;refine cO (λe=>?_) λe=>?_
  ·have e:=oTq e;rw [hin] at e;obtain rfl:k=0:=by simp at e;omega
   have hkm:zG qpb wb mp ([]:List (Int×qa)):=hkm;have hi9:=hir.chg cb λa haa e=>k9.ne_own hiq a.block (slk.2 ⟨a,haa,rfl⟩) e;refine hi9.ix (E:=zX) (i:=((0:Nat):Int)) (k:=1) rfl (by decide) (by show (0:Int)<1;decide) λhcc=>?_;refine lI (x:=7) (by simpa using hcc 0 _ rfl) ?_;refine xx (x:=some mp) (hsb.drew.cells 6 _ rfl) ?_;refine yY (by kernel_rfl) ?_;have hSee:Zd (some ⟨F.eg,0,none⟩) 7 wb.drew (λ(t58:qa) (t58_1:Bool) w11 =>
     w11.cell? ((⟨sb,0,none⟩:Addr).add 6)=some (.map (some mp)) /\
     qjp PG (Instr.mapUpdate jm (.map (some mp)) (Ua 7) (.agg #[(Ua t58.W),(Ua t58.H),(.slice t58.P.a t58.P.n t58.P.c)])) w11 λ_ w12=>
     I ((i64.wrap (((0:Nat):Int)+(1:Int))),()) w12):=by
    refine zcc (hm0.ext Bb).drew.en 7 λw11 B11=>?_;rw [hE];show _/\qjp PG (Instr.mapUpdate jm (.map (some mp)) (Ua 7) (.agg #[(Ua x.v.m.W),(Ua x.v.m.H),(.slice x.v.m.P.a x.v.m.P.n x.v.m.P.c)])) w11 _;refine ⟨(hsb.drew.ext B11).cells 6 _ rfl,?_⟩;have B11':=bT (bdw wb) B11;obtain ⟨w12,hr12,hm12,hc12,hs12⟩:=(hkm.ext B11').update zd5 q23 (k:=7) (by decide) (enc:=qpb) x.v.m;refine qym hr12 (hI _ _ ⟨1,by show i64.wrap (((0:Nat):Int)+1)=((1:Nat):Int);decide,by decide,?_,(cb.trans (Chg.of_ext (S:=λk=>k=mp) B11') λ_ _ h=>h).trans hc12 λ_ _ h=>h⟩ (by show (0:Nat)<1;decide));rw [hM];exact hm12
   exact Calls.mono hSee (by rintro e w' ⟨r0,r1,rfl,hK⟩;exact ⟨r0,r1,rfl,hK⟩)
  ·have e:=oFq e;rw [hin] at e;obtain rfl:k=1:=by simp at e;omega
   have hkm:zG qpb wb mp [(7,⟨1,1,x.v.m.P⟩)]:=hkm;have ob:=o9.chg cb λk hk e=>k9.ne_own o9 k hk e;have pb:=p9.chg cb λk hk e=>k9.ne_own p9 k hk e;have lb:=l9.chg cb λk cs e hk=>by subst e;exact k9.ne_blk hk rfl
   have htb:=ht0.ext Bb;refine qw (r:=qo.rep) (x:=⟨T.S.g.rows,T.S.g.cols,T.c.CellW,T.c.CellH,q,pl,some mp,T.S.g.top,(T.S.modeP 25 true).1,T.S.c.Row,T.S.c.Col⟩) hsb.cells ?_;refine zw (r:=qo.rep) (x:=⟨T.S.g.rows,T.S.g.cols,T.c.CellW,T.c.CellH,q,pl,some mp,T.S.g.top,(T.S.modeP 25 true).1,T.S.c.Row,T.S.c.Col⟩) htb rfl rfl λw5 hc5 hs5=>?_;have o5:=ob.chg hc5 (qA ob htb (by decide));have p5:=pb.chg hc5 (qA pb htb (by decide));have k5:=hkm.chg hc5 (hkm.ne_blk htb);have l5:=lb.chg hc5 λk cs e hk=>by subst e;exact htb.ne_t hk (by decide) rfl
   refine hK _ w5 mp ⟨rfl,rfl,ecw,ech,⟨hG.rows.1,hG.rows.2,hG.cols.1,hG.cols.2,by decide⟩,⟨ls,o5.rd,l5.1,λj s xs hj hx=>⟨(l5.2 j s xs hj hx).rd,λa ha=>((l5.2 j s xs hj hx).lt a.block (slk.2 ⟨a,ha,rfl⟩)).2⟩⟩,λa ha=>(o5.lt a.block (slk.2 ⟨a,ha,rfl⟩)).2⟩ rfl p5.rd (λa ha=>(p5.lt a.block (slk.2 ⟨a,ha,rfl⟩)).2) rfl k5 rfl rfl rfl ?_;exact b1o (bT B04 Bb) hc5 (le_refl _)
 simp only [onPtr_some];refine lI (x:=(T.S.g.rows:Int)) (c2 B0) (lI (x:=(T.S.g.cols:Int)) (c3 B0) (lI (x:=T.c.CellW) (c6 B0) (lI (x:=T.c.CellH) (c7 B0) ?_)));refine qM (x:=some ⟨F.eg,0,none⟩) (ct B0) (qw (r:=qH.rep) (x:=(vM T).View) (cs B0) ?_);refine lI (x:=T.S.g.top) (c1 B0) (lI (x:=T.S.c.Row) (c4 B0) (lI (x:=T.S.c.Col) (c5 B0) ?_));have B:=B0
 repeat' first
  | exact fin _ _ _ _ _ _ hs B le hq hl hp hk lm
  | refine ⟨c5 B,c4 B,c1 B,cs B,ct B,c7 B,c6 B,c3 B,c2 B,?_⟩
  | refine ⟨c5 B,c4 B,c1 B,c7 B,c6 B,c3 B,c2 B,?_⟩
  | (
    refine qny (hm0.ext B) λq ls y hq hl b=>?_
    replace hl:=q3f hl B.size
    replace hq:=hq.base B.size
    try replace hs:=hs.ext b
    try replace hk:=hk.ext b
    replace B:=bT B b)
  | (
    refine q63 (hm0.ext B) hP hv λp y hp b=>?_
    replace hp:=hp.base B.size
    try replace hs:=hs.ext b
    try replace hk:=hk.ext b
    try replace hq:=hq.ext b
    try replace hl:=hl.ext b
    replace B:=bT B b)
  | (
    refine zdp λy hk b=>?_;have lm:=B.size
    try replace hs:=hs.ext b
    try replace hp:=hp.ext b
    try replace hq:=hq.ext b
    try replace hl:=hl.ext b
    replace B:=bT B b)
  | (
    refine nwb λy hs b z=>?_;have le:=B.size
    try replace hk:=hk.ext b
    try replace hp:=hp.ext b
    try replace hq:=hq.ext b
    try replace hl:=hl.ext b
    replace B:=bT B b)
  | refine ⟨?_,?_⟩
theorem qvj (h:TermM w base F T) (hn:T.n<=900) {x:Im} (hE:T.E.S.L=[(7,x)]) (hx:x.v.m.W=1/\x.v.m.H=1) (hb:x.bs.length=4) (hb3:x.bs.getD 3 0=255) (hP:T.E.T=[p7]) (hv0:T.S.alt=false/\T.S.g.top=0/\T.S.g.rows=2) (ecw:T.c.CellW=1) (ech:T.c.CellH=1) (hbr:zcr T.S.g.L) (hch:za2 T.S.g.L) (hC3:2<T.S.g.cols)
  (br:-1000000<=T.S.c.Row/\T.S.c.Row<=1000000) (bc:-1000000<=T.S.c.Col/\T.S.c.Col<=1000000) {K:qa->Int->Ub}
  (hK:∀m w',Rd qn w' m.P (q9c T.S.g.L T.S.g.cols T.S.g.rows (T.S.modeP 25 true).1 T.S.c.Row T.S.c.Col x.bs)->(∀a,m.P.a=some a->w.heap.size<a.block)->Uc w w'->K m 0 w'):vX (some ⟨F.tg,0,none⟩) w K:=by
 refine qbd _ ?_;refine nwb λw1 h1 hB1 hs1=>?_;simp only [onPtr_some];have m1:=h.ext hB1;refine qM (x:=some ⟨F.eg,0,none⟩) (m1.blk.cells 7 _ rfl) ?_;refine q67 m1 hn hE hx hP hv0 ecw ech λs w2 mp hs htop hpl hpn hi hm ecu er ec hB2=>?_;have m2:=m1.ext hB2;have himg:=m2.en.st.img (7,x) (by rw [hE];exact List.mem_singleton.2 rfl);refine zbe hs hbr hch (by rw [htop];exact hv0.2.1) hpl hpn hi hm himg.rd (λa ha=>(himg.lt a.block (slk.2 ⟨a,ha,rfl⟩)).2) hb hb3 hC3 (by rw [er];exact br) (by rw [ec];exact bc) (le_refl _) λm w3 hM3 hB3=>?_;have h13:=(h1.ext hB2).ext hB3;have z1:=h1.lt;have z2:=hB2.size;rw [ecu,er,ec] at hM3;refine zw (r:=qa.rep) (x:=m) h13 rfl rfl λw4 hc4 hs4=>hK m w4 ?_ ?_ (b1o (bT (bT hB1 hB2) hB3) hc4 (le_refl _))
 ·exact (hM3.own.chg hc4 (qA hM3.own h13 (by decide))).rd
 ·exact λa ha=>by have:=(hM3.own.lt a.block (slk.2 ⟨a,ha,rfl⟩)).1;omega
end
def EvN (v:Ev):Prop:=v.Kind=1\/v.Kind=4/\v.Private=0/\v.Inter=[]/\(v.B=110\/v.B=99)
def Sc.doN (S:Sc) (v:Ev):Sc:=if v.Kind=1 then S.print v.R else S
def Sc.doNR (S:Sc) (v:Ev):List UInt8:=if v.Kind=1 then [] else S.bareR v.Params v.B
section
variable {w w':World} {base g:Nat} {F F':ScF} {S S':Sc} {p:Slc} {ps:List Int}
theorem q27 (h:ScM w base g F S) (hp:ParM w g F p ps) (hT:Tab w) {c:Int} (hc:c=110\/c=99) {K:Slc->Ub}
  (hK:∀q w',Rd qn w' q (S.bareR ps c)->Uc w w'->K q w'):yG (some ⟨g,0,none⟩) p c w K:=by
 refine qc6 _ _ _ ?_;refine qlt (i:=0) hp (qlt (i:=0) hp ?_);simp only [onPtr_some];obtain ⟨n,hn⟩:∃n,n=quk ps 0 1:=⟨_,rfl⟩;obtain ⟨z,hz⟩:∃z,z=quk ps 0 0:=⟨_,rfl⟩;unfold Sc.bareR at hK;dsimp only at hK;rw [<-hz] at hK;rw [<-hn,<-hz];refine jpO λJ1 hJ1=>?_;have no:(∀q w',Rd qn w' q []->Uc w w'->K q w')->K ⟨none,0,0⟩ w:=λhK=>hK _ _ (Rd.nil _ _) (Below.refl _ _);refine cO (λe=>?_) λc110=>?_
 ·have e:c=110:=eq_of_beq e;simp only [if_pos e] at hK;refine cO (λe=>?_) λe5=>?_
  ·rw [if_pos (eq_of_beq e)] at hK;exact qlw (bs:=[48,110]) (by decide) hK
  rw [if_neg (beq_eq_false_iff_ne.1 e5)] at hK;refine cO (λe=>?_) λe6=>?_
  ·rw [if_pos (eq_of_beq e)] at hK;refine qx5 h hT λw1 hB1 hpl=>?_;have e82:(⟨#[82]⟩:ByteArray)=qU [82]:=rfl;rw [e82,kB,qY,qY];refine ⟨by simp only [length_cons,length_nil];omega,?_⟩;exact qlw (by simp only [length_append,length_cons,length_nil];omega) λq w2 hq hB2=>hK q w2 hq (zm hB1 hB2)
  ·rw [if_neg (beq_eq_false_iff_ne.1 e6)] at hK;exact no hK
 have c110:¬c=110:=beq_eq_false_iff_ne.1 c110;have e:c=99:=by omega
 rw [if_neg c110,if_pos e] at hK;refine cT (by rw [e];rfl) ?_;refine cO (λe=>?_) λe5=>?_
 ·rw [if_pos (eq_of_beq e)] at hK;exact qlw (bs:=[63,54,50,59,52,99]) (by decide) hK
 ·rw [if_neg (beq_eq_false_iff_ne.1 e5)] at hK;exact no hK
theorem q7a {e:zb} {v:Ev} (h:ScM w base g F S) (hv:EvM w g F e v) (hT:Tab w) (hp0:v.Private=0) (hi0:v.Inter=[]) (hb0:v.B=110\/v.B=99) {K:Slc->Ub}
  (hK:∀q w',Rd qn w' q (S.bareR v.Params v.B)->Uc w w'->K q w'):kF (some ⟨g,0,none⟩) e w K:=by
 refine V8 _ _ ?_;obtain ⟨ek,er,eb,ep,ei,epar,edat⟩:=e;obtain ⟨h1,h2,h3,h4,h5,hp,hbr,hpr,hil⟩:=hv;dsimp only at h1 h2 h3 h4 h5 hp;rw [hp0] at h4;rw [hi0] at h5;subst h3 h4 h5;refine nwb λw1 hx1 hB1 hs1=>?_;have B1:=zm hB1 (zk w1);have hM:=h.ext B1;have hp1:=hp.ext B1;have t1:=hT.ext B1;have hx:=hx1.drew;generalize w1.drew=w2 at hM B1 hp1 t1 hx ⊢;refine lSl (x:=epar) (by simpa using hx.cells 5 _ rfl) (lSl (x:=epar) (by simpa using hx.cells 5 _ rfl) ?_);refine qlt (i:=0) hp1 ⟨by simpa using hx.cells 5 _ rfl,?_⟩;refine jpO λJ1 hJ1=>?_;have tail:J1 () w2:=by
  refine hJ1 _ _ (jpO λJ2 hJ2=>?_);refine lI (x:=0) (by simpa using hx.cells 3 _ rfl) (cF rfl ?_);refine qn0 (x:=qU []) (by simpa using hx.cells 4 _ rfl) ?_;rw [yN,show (⟨#[]⟩:ByteArray).toList=[] by kernel_rfl];refine cF rfl (hJ2 _ _ ?_);refine lI (x:=v.B) (by simpa using hx.cells 2 _ rfl) ?_;exact q27 hM hp1 t1 hb0 λq w4 hq hB4=>hK q w4 hq (zm B1 hB4)
 refine lI (x:=0) (by simpa using hx.cells 3 _ rfl) ?_;refine qt6 ?_;refine qn0 (x:=qU []) (by simpa using hx.cells 4 _ rfl) ?_;have el:=qt8 0 (by decide);have el2:=qt8 v.B hbr;refine ⟨by rw [qY,qY];simp only [length_nil];omega,?_⟩;refine lI (x:=v.B) (by simpa using hx.cells 2 _ rfl) ?_;refine qt6 ⟨by rw [kB,qY,qY,length_append];simp only [length_nil];omega,?_⟩;rw [kB,kB,yN];have l1:(⟨#[0,33,112]⟩:ByteArray).toList=[0,33,112]:=by kernel_rfl
 have l2:(⟨#[63,110]⟩:ByteArray).toList=[63,110]:=by kernel_rfl
 have l3:(⟨#[62,99]⟩:ByteArray).toList=[62,99]:=by kernel_rfl
 have l4:(⟨#[63,36,112]⟩:ByteArray).toList=[63,36,112]:=by kernel_rfl
 have l5:(⟨#[63,104]⟩:ByteArray).toList=[63,104]:=by kernel_rfl
 have l6:(⟨#[63,108]⟩:ByteArray).toList=[63,108]:=by kernel_rfl
 rw [l1,l2,l3,l4,l5,l6];obtain ⟨k,hk⟩:∃k,k=(Utf8.encode 0).data.toList++[]++(Utf8.encode v.B).data.toList:=⟨_,rfl⟩;have hk2:k=[0,110]\/k=[0,99]:=by
  rcases hb0 with e | e
  ·left;rw [hk,e];kernel_rfl
  ·right;rw [hk,e];kernel_rfl
 rw [<-hk];have nk:∀x:List UInt8,x≠[0,110]->x≠[0,99]->(k==x)=false:=λx h1 h2=>by
  rw [beq_eq_false_iff_ne];rcases hk2 with e | e
  ·rw [e];exact λh=>h1 h.symm
  ·rw [e];exact λh=>h2 h.symm
 rw [nk [0,33,112] (by decide) (by decide),nk [63,110] (by decide) (by decide),nk [62,99] (by decide) (by decide),nk [63,36,112] (by decide) (by decide),nk [63,104] (by decide) (by decide),nk [63,108] (by decide) (by decide)];refine cF rfl (jpO λJ3 hJ3=>cF rfl (hJ3 _ _ (cF rfl ?_)));exact cF rfl (cF rfl (cF rfl tail))
theorem zab {e:zb} {v:Ev} (h:ScM w base g F S) (hv:EvM w g F e v) (hT:Tab w) (hn:EvN v) {K:Slc->Ub}
  (hK:∀q F' w',Rd qn w' q (S.doNR v)->ScT base g w F F' (S.doN v) w'->K q w'):Zf (some ⟨g,0,none⟩) e w K:=by
 refine qgt _ _ ?_;refine nwb λw1 hx hB1 hs1=>?_;have h1:=ScT.of_ext h hB1;unfold Sc.doN Sc.doNR at hK;have v1:=hv.k;have v2:=hv.r;refine lI (x:=v.Kind) (by rw [<-v1];simpa using hx.cells 0 _ rfl) ?_;rcases hn with e | ⟨e4,hp0,hi0,hb0⟩
 ·rw [if_pos e,if_pos e] at hK;refine cT (by rw [e];rfl) ?_;refine lI (x:=v.R) (by rw [<-v2];simpa using hx.cells 1 _ rfl) ?_;exact q4x h1.m λF2 w2 hT2=>hK _ _ _ (Rd.nil _ _) (h1.trans hT2)
 ·rw [if_neg (by omega),if_neg (by omega)] at hK;refine cF (by rw [e4];rfl) (cF (by rw [e4];rfl) (cF (by rw [e4];rfl) (cT (by rw [e4];rfl) ?_)));refine qw (r:=zb.rep) (x:=_) hx.cells ?_;refine q7a h1.m ⟨hv.k,hv.r,hv.b,hv.p,hv.i,hv.ps.ext hB1,hv.br,hv.pr,hv.il⟩ (hT.ext hB1) hp0 hi0 hb0 λq w2 hq hB2=>hK q F w2 hq (h1.ext hB2)
end
structure Kept (E E':KE) (P:Slc):Prop where
 img:∀j,vh E'.S j->vh E.S j\/P.blk=some j
 ld:E'.ld=none
 q:E'.quota=E.quota
section
variable {n:Nat} {E:KE}
theorem qms (E:KE) (k:qb) (id:Int) (v:qj):(vt E k id v).1.S=E.S/\(vt E k id v).1.ld=E.ld/\(vt E k id v).1.quota=E.quota:=by
 unfold vt;split
 ·split
  ·exact ⟨rfl,rfl,rfl⟩
  ·exact ⟨rfl,rfl,rfl⟩
 ·exact ⟨rfl,rfl,rfl⟩
theorem zc0 {S S':St} (h:∀p∈S'.L,p∈S.L) {k:Nat} (hk:vh S' k):vh S k:=by
 obtain ⟨p,hp,e⟩:=hk;exact ⟨p,h p hp,e⟩
theorem q04 (hok:StOk n E.S) (hl:E.ld=none) (k:qb) (W H:Int) (bs:List UInt8) (P:Slc) (v:qj):Kept E (qki E k W H bs P v).1 P:=by
 have kept:∀j,vh (qkx E k W H bs P).S j->vh E.S j\/P.blk=some j:=by
  rintro j ⟨⟨a,b⟩,hp,e⟩;have hpk:StOk n (E.S.putPre k.Id bs.length).1:=qg2 _ _ (q5l hok k.Id);rcases (yI hpk.srt _ _ a b).1 hp with ⟨rfl,rfl⟩ | ⟨_,hp'⟩
  ·exact .inr e
  ·exact .inl ⟨(a,b),qux _ _ _ _ hp',e⟩
 unfold qki;split
 ·exact ⟨λj h=>.inl h,hl,rfl⟩
 ·split
  ·exact ⟨kept,hl,rfl⟩
  ·obtain ⟨h1,h2,h3⟩:=qms (qkx E k W H bs P) (vr E k bs) (idK E k bs) v;refine ⟨λj h=>?_,h2.trans hl,h3⟩;dsimp only at h;rw [h1] at h;exact kept j h
theorem q3t (hok:StOk n E.S) (C:LdK) (s:LdS) (k:qb) (P:Slc) (v:qj):Kept E (qu6 E C s k P v).1 P:=by
 unfold qu6;split
 ·exact ⟨λj h=>.inl h,rfl,rfl⟩
 ·have h:=q04 (E:=E.idle) (ql1 hok 0) rfl k ((qni C s).2.1:Int) ((qni C s).2.2.1:Int) (qni C s).2.2.2 P v;exact ⟨h.img,h.ld,h.q⟩
theorem qvu (E:KE) (m:Int):(∀j,vh (E.reserve m).1.S j->vh E.S j)/\(E.reserve m).1.quota=E.quota:=by
 unfold KE.reserve;split
 ·exact ⟨λj h=>h,rfl⟩
 ·split
  ·exact ⟨λj h=>h,rfl⟩
  ·exact ⟨λj h=>zc0 (λp hp=>qp1 _ _ p hp) h,rfl⟩
theorem q0a (hok:StOk n E.S) (m:Int):StOk n (E.reserve m).1.S:=by
 unfold KE.reserve;split
 ·exact hok
 ·split
  ·exact hok
  ·exact qr8 hok _
theorem q1f (hok:StOk n E.S) (C:LdK) (s:LdS) (k:qb) (hm:k.More≠1) (ts:List UInt8) (P:Slc) (v:qj):Kept E (qb8 E C s k ts P v).1 P:=by
 obtain ⟨h1,h2⟩:=qvu (qme E C s ts) 0;unfold qb8;split
 ·exact ⟨λj h=>.inl h,rfl,rfl⟩
 ·split
  ·exact ⟨λj h=>.inl (h1 j h),rfl,h2⟩
  ·have h:=q3t (E:=((qme E C s ts).reserve 0).1) (q0a (E:=qme E C s ts) hok 0) C (Zi C s ts) (Q5 E.first k) P v;exact ⟨λj hj=>(h.img j hj).imp_left (h1 j),h.ld,h.q.trans h2⟩
theorem q75 (hok:StOk n E.S) (hl:E.ld=none) {bs:List UInt8} (hm:(xC bs).More≠1) (P:Slc) (v:qj):Kept E (doK E bs P v).1 P:=by
 unfold doK goK;split
 ·unfold qz2;split
  ·exact ⟨λj h=>.inl h,hl,rfl⟩
  ·obtain ⟨h1,h2,h3⟩:=qms E { xC bs with Id:=(xH E.S (xC bs)).1 } (xH E.S (xC bs)).1 v;split
   ·refine ⟨λj h=>.inl ?_,h2.trans hl,h3⟩;dsimp only at h;rw [h1] at h;exact q5f hok _ j h
   ·exact ⟨λj h=>.inl (by dsimp only at h;rw [h1] at h;exact h),h2.trans hl,h3⟩
 ·unfold qiq;split
  ·exact ⟨λj h=>.inl h,hl,rfl⟩
  ·have h:=q1f (E:=zbb E (xC bs)) hok (qvo E (xC bs)) ld0 (xC bs) hm (V4 59 bs) P v;exact ⟨h.img,h.ld,h.q⟩
theorem qwh (hE:E.T=[]) (alt:Bool) (first:Int):q98 E alt first=E:=by
 obtain ⟨q,S,T,ld,f⟩:=E;dsimp only at hE;subst hE;rfl
end
def X7 (S:Sc):Int:=i64.wrap (S.g0.top-S.g0.old.length)
def x6 (T:TS):TS:={ T with f0:=X7 T.S,f1:=T.S.g1.top }
structure Calm (T:TS):Prop where
 ar:T.S.areas=[]
 st:X7 T.S=T.f0/\T.S.g1.top=T.f1\/T.E.T=[]
section
variable {w w':World} {base:Nat} {F F':TmF} {T T':TS}
theorem qyd (h:TermM w base F T) (hA:Calm T) (hn:T.n<=100000) {K:Ub} (hK:∀F' w',TmT base w F F' (x6 T) w'->K w'):zy (some ⟨F.tg,0,none⟩) w K:=by
 refine qh7 _ ?_;simp only [onPtr_some];refine qM (x:=some ⟨F.sg,0,none⟩) (h.blk.cells 6 _ rfl) (qyl h.sc λq w1 hq hT=>?_);have t1:=h.screen hT;have e:({ T with S:={ T.S with areas:=[] } }:TS)=T:=by
  have e1:({ T.S with areas:=[] }:Sc)=T.S:=by rw [<-hA.ar]
  rw [e1]
 rw [e] at t1;refine lpR (λ(st:Int×Unit) w2=>st.1=0/\w2=w1) (λ_=>0) ⟨rfl,rfl⟩ ?_;rintro ⟨i,u⟩ w2 ⟨rfl,rfl⟩ I hI;refine cF (by rw [hq,hA.ar];rfl) ?_;refine qM (x:=some ⟨F.sg,0,none⟩) (t1.m.blk.cells 6 _ rfl) (q06 t1.m.sc ?_);have t2:=t1.drew.drew;have ef:i64.wrap (T.S.g0.top-T.S.g0.old.length)=X7 T.S:=rfl;rw [ef];have hs0:x6 T={ T with f0:=X7 T.S,f1:=T.S.g1.top }:=rfl;have hst:=hA.st;generalize X7 T.S=x at *;generalize T.S.g1.top=y at *;refine jQ (vs:=[.int .i64 x,.int .i64 y]) rfl λw8 h8 hB8 hs8=>?_;have t8:=(t2.ext hB8).drew;have h8:=h8.drew;refine qw (r:=kj.rep) (x:=⟨x,y⟩) h8.cells (qw (r:=kj.rep) (x:=⟨T.f0,T.f1⟩) (t8.m.blk.sub 13 _ rfl) ?_);by_cases hs:x=T.f0/\y=T.f1
 ·refine cF ?_ (hK { F with SF:={ F.SF with ar:=⟨none,0,0⟩ } } _ ?_)
  ·show (!((_==T.f0) && ((_==T.f1) && true)))=false;rw [hs.1,hs.2];simp
  ·rw [hs0,hs.1,hs.2];exact t8
 have hE:T.E.T=[]:=hst.resolve_left hs;refine cT ?_ ?_
 ·show (!((_==T.f0) && ((_==T.f1) && true)))=true;rw [Bool.not_eq_true',Bool.and_true,Bool.and_eq_false_iff,beq_eq_false_iff_ne,beq_eq_false_iff_ne];by_cases h1:x=T.f0
  ·exact .inr λh2=>hs ⟨h1,h2⟩
  ·exact .inl h1
 refine qM (x:=some ⟨F.eg,0,none⟩) (t8.m.blk.cells 7 _ rfl) ?_;refine qob t8.m.en hn false _ λKF1 w9 hT9=>?_;rw [qwh hE] at hT9;have t9:=t8.m.engine hT9 (λk hk=>.inl hk) t8.m.ld;have h9:=h8.chg hT9.chg (t8.m.en.not_in4 h8 (by decide) (t8.m.en.nl t8.m.ld _));refine qM (x:=some ⟨F.eg,0,none⟩) (t9.m.blk.cells 7 _ rfl) ?_;refine qob t9.m.en hn true _ λKF2 w10 hT10=>?_;have hT10:EngT base F.eg w9 _ KF2 (q98 T.E true y) T.n w10:=hT10;rw [qwh hE] at hT10;have t10:=t9.m.engine hT10 (λk hk=>.inl hk) t9.m.ld;have h10:=h9.chg hT10.chg (t9.m.en.not_in4 h9 (by decide) (t9.m.en.nl t9.m.ld _));refine qw (r:=kj.rep) (x:=⟨x,y⟩) h10.cells ?_;rw [qB];refine qz t10.m.blk (by show 0+13+2<=15;omega) λw11 hb11 hg11 hs11=>hK { F with SF:={ F.SF with ar:=⟨none,0,0⟩ },KF:=KF2 } w11 ?_;exact ((t8.trans t9).trans t10).trans (t10.m.put (T':=x6 T) (by rw [hs0];exact hb11) (Chg.gg hg11) rfl rfl rfl rfl rfl rfl rfl rfl rfl t10.m.cq t10.m.rq (λk hk=>hk) λk hk=>hk)
theorem TermM.told (h:TermM w base F T) {q:Slc} {xs:List UInt8} (ho:Go.Vc.Own qn w' base q (T.cmd++xs)) (hc:Chg (λk=>F.cq.blk=some k) w w') (hq:q.blk=F.cq.blk\/q.blk=some w.heap.size) {K:Ub}
  (hK:∀w2,TmT base w F { F with cq:=q } { T with cmd:=T.cmd++xs } w2->K w2):stK ((⟨F.tg,0,none⟩:Addr).add 10) [(.slice q.a q.n q.c)] w' K:=by
 have hs:=hc.size;have hb:=h.blk.chg hc (qA h.cq h.blk (by decide) _ · rfl);rw [qB];refine qz hb (by show 0+10+1<=15;omega) λw2 hb2 hg2 hs2=>hK w2 ?_;have c2:Chg (λk=>F.cq.blk=some k\/k=F.tg) w w2:=(hc.mono λk _ e=>.inl e).trans (Chg.gg hg2) λk _ e=>.inr e;have hq':∀k,q.blk=some k->F.cq.blk=some k\/w.heap.size<=k:=λk hk=>by
  rcases hq with e | e
  ·exact .inl (e ▸ hk)
  ·rw [e] at hk;cases hk;exact .inr (le_refl _)
 have nt:F.cq.blk≠some F.tg:=λe=>qA h.cq h.blk (by decide) _ e rfl;refine ⟨⟨hb2,h.hg,h.sc.keep c2 ?_ ?_,h.en.chgS c2 ?_ ?_,ho.chg (Chg.gg hg2) ?_,h.rq.chg c2 ?_,h.dse,h.dsi,λk hk=>?_,λk hk=>h.dr k hk,h.dt,h.ld,qdw h c2 ?_,h.b4⟩,λk hk=>?_,c2.mono λk _ hk=>?_,rfl,rfl⟩
 ·rintro k hk (e | e)
  ·exact (h.dc k e).1 hk
  ·exact h.dt.1 (e ▸ hk)
 ·rintro k cs (e | e) hb
  ·exact qA h.cq hb (by decide) k e rfl
  ·subst e;exact h.blk.ne_t hb (by decide) rfl
 ·rintro k hk (e | e)
  ·exact (h.dc k e).2.1 hk
  ·exact h.dt.2 (e ▸ hk)
 ·rintro k hk (e | e)
  ·exact (h.dc k e).2.2.1 hk
  ·exact h.img_tg (e ▸ hk)
 ·intro k hk e;rcases hq' k hk with h1 | h1
  ·exact nt (e ▸ h1)
  ·have:=h.blk.lt;omega
 ·rintro k hk (e | e)
  ·exact (h.dc k e).2.2.2 hk
  ·exact qA h.rq h.blk (by decide) k hk e
 ·rcases hq' k hk with h1 | h1
  ·exact h.dc k h1
  ·refine ⟨λhs=>?_,λhs=>?_,λhs=>?_,λhs=>?_⟩
   ·have:=(h.sc.below k hs).2;omega
   ·have:=(h.en.below k hs).2;omega
   ·obtain ⟨_,cs,hb⟩:=qlh h.en hs;have:=hb.lt;omega
   ·have:=(h.rq.lt k hs).2;omega
 ·rintro k (e | e)
  ·exact (h.cq.lt k e).1
  ·rw [e];exact h.hg
 ·rcases hk with hk | hk | hk | hk | hk
  ·exact .inl (.inl hk)
  ·exact .inl (.inr (.inl hk))
  ·exact .inl (.inr (.inr (.inl hk)))
  ·rcases hq' k hk with h1 | h1
   ·exact .inl (.inr (.inr (.inr (.inl h1))))
   ·exact .inr h1
  ·exact .inl (.inr (.inr (.inr (.inr hk))))
 ·rcases hk with e | e
  ·exact .inr (.inr (.inr (.inl e)))
  ·exact .inl e
end
def qse (S:Sc) (R:KR):Sc:=if R.moves=true then S.moveP (i64.wrap (R.rows-1)) R.cols else S
noncomputable def Kz (T:TS) (P:Slc):TS :=
 { T with cmd:=[],E:=(doK T.E T.cmd.tail P (vM T)).1,n:=T.n+2,rep:=T.rep++(doK T.E T.cmd.tail P (vM T)).2.reply,S:=qse T.S (doK T.E T.cmd.tail P (vM T)).2 }
noncomputable def qua (t:Option Addr) (r:Addr) (x:qc) (w:World) (K:Ub):Prop :=
 stK r (qc.rep.cells x) w λw6=>
 qG t λt31=>
 jg (t31.add 12) w6.drew λt33=>
 jg (r.add 0) w6.drew λt35=>
 apK PG #[qg,qg] qg t33 t35 w6.drew λt36 w7=>
 qG t λt37=>
 stK (t37.add 12) [(.slice t36.a t36.n t36.c)] w7 λw8=>
 ldB (r.add 3) w8 λt40=>
 cond t40
  (
   qG t λt42=>
   ldP (t42.add 6) w8.drew λt44=>
   ldI .i64 (r.add 1) w8.drew λt46=>
   ldI .i64 (r.add 2) w8.drew λt49=>
   jw t44 (i64.wrap (t46-(1:Int))) t49 w8.drew λw9=>
   K w9)
  (K w8)
section
variable {w w':World} {base:Nat} {F F':TmF} {T T':TS}
theorem q47 (h:TermM w base F T) (hlong:T.long=false) {q:Slc} {bs:List UInt8} (hq:Rd qn w q bs) (hqn:∀a,q.a=some a->¬YB F a.block) (hl:T.cmd.length+bs.length<=6000) {K:Ub}
  (hK:∀F' w',TmT base w F F' { T with cmd:=T.cmd++bs } w'->K w'):KL (some ⟨F.tg,0,none⟩) q w K:=by
 refine qli _ _ ?_;simp only [onPtr_some];refine jpO λJ1 hJ1=>jpO λJ2 hJ2=>?_;refine jY (x:=T.long) (h.blk.cells 11 _ rfl) (cF hlong (lSl (x:=F.cq) (h.blk.cells 10 _ rfl) ?_));have hn:=hq.n;have hcn:=h.cq.rd.n;have e0:decide (((q.n:Nat):Int)>i64.wrap ((6512:Int)-((F.cq.n:Nat):Int)))=T.long:=by
  rw [qP (by omega),hlong,dFq (by omega)]
 rw [e0,qB];refine qz h.blk (by show 0+11+1<=15;omega) λw1 hb1 hg1 hs1=>hJ2 _ _ ?_;have t1:TmT base w F F T w1:=h.put (F':=F) (T':=T) hb1 (Chg.gg hg1) rfl rfl rfl rfl rfl rfl rfl rfl rfl h.cq h.rq (λ_ hk=>hk) λ_ hk=>hk;have hq1:Rd qn w1 q bs:=hq.chg t1.chg hqn;refine jY (x:=T.long) (t1.m.blk.cells 11 _ rfl) (cF hlong (hJ1 _ _ ?_));refine lSl (x:=F.cq) (t1.m.blk.cells 10 _ rfl) ?_;refine jN ze (ty:=qg) (xs:=T.cmd) (ys:=bs) t1.m.cq hq1 t1.m.base_le (by rw [km];omega) (by simp [maxLen];omega) λr w4 hr hg hrb=>?_;exact t1.m.told hr (Chg.of_grown hg λk hk=>hk) hrb λw5 t5=>hK _ _ (t1.trans t5)
theorem TmT.other {w0 w1 w2:World} {F3:TmF} {T3:TS} (h0:base<=w0.heap.size) (h:TmT base w0 F F3 T3 w1) {b:Nat} {t:TypeId} {vs:List Value} (hb:Blk w1 b t vs) (ht:t≠qT/\t≠qL) (hw:w0.heap.size<=b) (hn:¬YB F3 b) (hc:Chg (λk=>k=b) w1 w2):TmT base w0 F F3 T3 w2:=by
 refine ⟨h.m.keep hc (λk hk e=>hn (e ▸ hk)) (λk hk e=>?_) (λk cs e hk=>?_) (qdw h.m hc λk e=>by rw [e];omega),h.old,h.chg.trans hc λi hi e=>by omega,h.tg,h.pg⟩
 ·obtain ⟨_,cs,hcs⟩:=qlh h.m.en hk;exact hb.ne_t hcs ht.2 e.symm
 ·subst e;exact hb.ne_t hk ht.1 rfl
theorem qu4 {w0:World} {F3:TmF} {T3:TS} (h0:base<=w0.heap.size) (h:TmT base w0 F F3 T3 w) {ra:Nat} (hra:w0.heap.size<=ra) (hb:Blk w ra q4 [(.slice none 0 0),(Ua 0),(Ua 0),(.bool false)]) (hn:¬YB F3 ra) {x:qc} {R:KR} (hx:qgi w x R)
  (hxb:0<R.reply.length->∀j,x.Reply.blk=some j->j≠ra) (hl:T3.rep.length<=1000000) (hR:R.reply.length<=2000000) {K:Ub} (hK:∀F' w',TmT base w0 F F' { T3 with rep:=T3.rep++R.reply,S:=qse T3.S R } w'->K w'):qua (some ⟨F3.tg,0,none⟩) ⟨ra,0,none⟩ x w K:=by
 unfold qua;simp only [onPtr_some];obtain ⟨x1,x2,x3,x4⟩:=hx;refine xf hb rfl λw6 hb6 hc6 hs6=>?_;have t6:=(TmT.other h0 h hb (by decide) hra hn hc6).drew;have hx6:Rd qn w6.drew x.Reply R.reply:=(YU x1 hc6 λhp a ha e=>hxb hp a.block (slk.2 ⟨a,ha,rfl⟩) e).ext (bdw w6);have hb6:=hb6.drew;refine lSl (x:=F3.rq) (t6.m.blk.cells 12 _ rfl) (lSl (x:=x.Reply) (hb6.cells 0 _ rfl) ?_);refine jN ze (ty:=qg) (xs:=T3.rep) (ys:=R.reply) t6.m.rq hx6 t6.m.base_le (by rw [km];omega) (by simp [maxLen];omega) λr w7 hr hg hrb=>?_;refine t6.m.replied (xs:=R.reply) hr (Chg.of_grown hg λk hk=>hk) hrb λw8 t8=>?_;have hb8:=hb6.chg t8.chg hn;have t08:=t6.trans t8;unfold qse at hK;refine jY (x:=x.Moves) (hb8.cells 3 _ rfl) (cO (λe=>?_) λe=>?_)
 ·rw [if_pos (by rw [<-x4];exact e)] at hK;have t9:=t08.drew;have hb9:=hb8.drew;refine qM (x:=some ⟨F3.sg,0,none⟩) (t9.m.blk.cells 6 _ rfl) (lI (x:=x.Rows) (hb9.cells 1 _ rfl) (lI (x:=x.Cols) (hb9.cells 2 _ rfl) ?_));rw [x2,x3];exact q7f t9.m.sc λSF' w9 hT=>hK _ _ (t9.trans (t9.m.screen hT))
 ·rw [if_neg (by rw [<-x4,e];decide)] at hK;exact hK _ _ t08
theorem q0o (h:TermM w base F T) (hlong:T.long=false) {bs:List UInt8} (hcmd:T.cmd=71::bs) (hok:CmdOk bs) (hm:(xC bs).More≠1) (hn:T.n<=880) (hq:T.E.quota<=100000) (hbl:bs.length<=39000) (hrl:T.rep.length<=1000000)
  (hrd:∀P,(Kz T P).rep.length<=2000000) {K:Ub} (hK:∀P F' w',TmT base w F F' (Kz T P) w'->(∀k,vh (Kz T P).E.S k->vh T.E.S k\/w.heap.size<=k)->K w'):Xw (some ⟨F.tg,0,none⟩) true w K:=by
 refine qj6 _ _ ?_;refine qJ (lSl (x:=F.cq) (h.blk.cells 10 _ rfl) (qJ ?_));rw [qB];refine qz h.blk (by show 0+10+1<=15;omega) λw1 hb1 hg1 hs1=>?_;have hc1:Chg (λk=>k=F.tg) w w1:=Chg.gg hg1;have t1:TmT base w F { F with cq:=⟨none,0,0⟩ } { T with cmd:=[] } w1:=h.put hb1 hc1 rfl rfl rfl rfl rfl rfl rfl rfl rfl (Go.Vc.Own.nil _ _ _) h.rq (λk hk=>by cases hk) λ_ hk=>hk;have hcq:Rd qn w1 F.cq (71::bs):=by rw [<-hcmd];exact (h.cq.chg hc1 (qA h.cq h.blk (by decide))).rd
 have z1:=hc1.size;have h0:=h.base_le;refine jpO λJ1 hJ1=>cF rfl (qJ (jY (x:=T.long) (t1.m.blk.cells 11 _ rfl) (cF hlong (hJ1 _ _ (qJ ?_)))));have et:T.cmd.tail=bs:=by rw [hcmd];rfl
 have doit:∀(wx:World) (Kx:qc->Ub),Uc w1 wx->(∀P x KF' wy,qgi wy x (doK T.E bs P (vM T)).2->TmT base w F { F with cq:=⟨none,0,0⟩,KF:=KF' } { T with cmd:=[],E:=(doK T.E bs P (vM T)).1,n:=T.n+2 } wy ->
   (∀k,YB { F with cq:=⟨none,0,0⟩,KF:=KF' } k->YB F k\/wx.heap.size<=k)->(∀j,x.Reply.blk=some j->wx.heap.size<=j)->(∀b t vs,Blk wx b t vs->w.heap.size<=b->Blk wy b t vs)->wx.heap.size<=wy.heap.size->(∀k,vh (doK T.E bs P (vM T)).1.S k->vh T.E.S k\/w.heap.size<=k)->Kx x wy)->xk (some ⟨F.eg,0,none⟩) F.cq (vM T) wx Kx:=by
  intro wx Kx hB hk;have tx:=t1.ext hB;have zx:=hB.size;refine zcb tx.m.en (by show T.n<=900;omega) tx.m.tab tx.m.b4 hq (by omega) (hcq.ext hB) tx.m.ld hok (vM T) λP x KF' wy hx hE hxb hPb=>?_;have hE:EngT base F.eg wx F.KF KF' (doK T.E bs P (vM T)).1 (T.n+2) wy:=hE;have hk1:=q75 (E:=T.E) tx.m.en.ok h.ld hm P (vM T);have hi:∀k,vh (doK T.E bs P (vM T)).1.S k->vh T.E.S k\/wx.heap.size<=k:=λk hk=>(hk1.img k hk).imp_right λe=>hPb k e;have t3:=tx.m.engine hE hi hk1.ld;have hw:∀{b},w.heap.size<=b->¬ke F.eg F.KF b:=λhb hs=>by have:=(h.en.below _ hs).2;omega
  refine hk P x KF' wy hx (tx.trans t3) (λk hk2=>?_) (λj hj=>(hxb j hj).1) (λb t vs hb hle=>hb.chg hE.chg (hw hle)) hE.chg.size λk hk2=>(hi k hk2).imp_right λhle=>by omega
  rcases t3.old k hk2 with h3 | h3
  ·rcases h3 with h3 | h3 | h3 | h3 | h3
   ·exact .inl (.inl h3)
   ·exact .inl (.inr (.inl h3))
   ·exact .inl (.inr (.inr (.inl h3)))
   ·cases h3
   ·exact .inl (.inr (.inr (.inr (.inr h3))))
  ·exact .inr h3
 have fin:∀(P:Slc) (x:qc) (KF':KF) (wz:World) (ra:Nat),w1.heap.size<=ra->Blk wz ra q4 [(.slice none 0 0),(Ua 0),(Ua 0),(.bool false)]->qgi wz x (doK T.E bs P (vM T)).2->TmT base w F { F with cq:=⟨none,0,0⟩,KF:=KF' } { T with cmd:=[],E:=(doK T.E bs P (vM T)).1,n:=T.n+2 } wz ->
   ¬YB { F with cq:=⟨none,0,0⟩,KF:=KF' } ra->(0<(doK T.E bs P (vM T)).2.reply.length->∀j,x.Reply.blk=some j->j≠ra)->(∀k,vh (doK T.E bs P (vM T)).1.S k->vh T.E.S k\/w.heap.size<=k)->qua (some ⟨F.tg,0,none⟩) ⟨ra,0,none⟩ x wz K:=by
  intro P x KF' wz ra hra hb hx ht hn hxr hi;have hP:=hrd P;unfold Kz at hP;rw [et] at hP;simp only [length_append] at hP;refine qu4 h0 ht (by omega) hb hn hx hxr hrl (by omega) λF' w' hT=>hK P F' w' ?_ ?_
  ·unfold Kz;rw [et];exact hT
  ·unfold Kz;rw [et];exact hi
 have td:=t1.drew;have Bd:Uc w1 w1.drew:=bdw w1;have nF:∀{k},w1.heap.size<=k->¬YB F k:=λhk hs=>by have:=(h.below _ hs).2;omega
 refine qM (x:=some ⟨F.eg,0,none⟩) (td.m.blk.cells 7 _ rfl) ⟨?_,?_⟩
 ·refine qpc td.m λw3 hB3=>⟨(td.m.ext hB3).blk.cells 7 _ rfl,?_,?_⟩
  ·have B3:=bT Bd hB3;refine doit w3 _ B3 λP x KF' w4 hx t4 ht hxb hbk hz hi=>?_;refine nwb λw5 hb5 hB5 hs5=>⟨(t4.m.ext hB5).blk.cells 7 _ rfl,?_⟩;have z3:=B3.size;refine fin P x KF' w5 w4.heap.size (by omega) hb5 (hx.ext hB5) (t4.ext hB5) (λhs=>by have:=(t4.m.below _ hs).2;omega) (λhp j hj e=>?_) hi;obtain ⟨a,ha,hab⟩:=slk.1 hj;have:=qv8 hx.1 hp a ha;omega
  ·refine nwb λw10 hb10 hB10 hs10=>⟨((td.m.ext hB3).ext hB10).blk.cells 7 _ rfl,?_⟩;have B10:=bT (bT Bd hB3) hB10;have z3:=hB3.size;have e3:w1.drew.heap.size=w1.heap.size:=rfl;have l10:=hb10.lt;refine doit w10 _ B10 λP x KF' w11 hx t11 ht hxb hbk hz hi=>?_;exact fin P x KF' w11 w3.heap.size (by omega) (hbk _ _ _ hb10 (by omega)) hx t11 (λhs=>(ht _ hs).elim (nF (by omega)) λhle=>by omega) (λ_ j hj e=>by have:=hxb j hj;omega) hi
 ·refine nwb λw16 hb16 hB16 hs16=>⟨(td.m.ext hB16).blk.cells 7 _ rfl,?_⟩;refine qpc (td.m.ext hB16) λw17 hB17=>⟨((td.m.ext hB16).ext hB17).blk.cells 7 _ rfl,?_⟩;have B17:=bT (bT Bd hB16) hB17;have e3:w1.drew.heap.size=w1.heap.size:=rfl;have l16:=hb16.lt;have z17:=hB17.size;refine doit w17 _ B17 λP x KF' w18 hx t18 ht hxb hbk hz hi=>?_;exact fin P x KF' w18 w1.heap.size (le_refl _) (hbk _ _ _ (hb16.ext hB17) (by omega)) hx t18 (λhs=>(ht _ hs).elim (nF (le_refl _)) λhle=>by omega) (λ_ j hj e=>by have:=hxb j hj;omega) hi
end
noncomputable def yy (T:TS) (v:EvP) (P:Slc):TS :=
 if v.k=9 then { T with cmd:=[],long:=false }
 else if v.k=10 then { T with cmd:=T.cmd++v.d }
 else if v.k=11 then Kz T P
 else { T with S:=T.S.doN (qmd v),rep:=T.rep++T.S.doNR (qmd v) }
noncomputable def XR (T:TS) (v:EvP) (P:Slc):TS:=x6 (yy T v P)
def zgh (T:TS) (v:EvP):Prop :=
 v.k=9\/(v.k=10/\T.long=false/\T.cmd.length+v.d.length<=6000)\/(v.k=11/\v.b=1/\T.long=false/\(∃bs,T.cmd=71::bs/\CmdOk bs/\(xC bs).More≠1/\bs.length<=39000)/\T.E.quota<=100000)\/((v.k=1\/v.k=4)/\EvN (qmd v))
structure EvOk (T:TS) (v:EvP):Prop where
 go:zgh T v
 calm:∀P,Calm (yy T v P)
 rl:T.rep.length<=1000000
 rd:∀P,(yy T v P).rep.length<=2000000
 n:T.n<=880
def qjs (F:TmF) (T:TS) (k:Nat):Prop:=YB F k\/vh T.E.S k
section
variable {w w':World} {base:Nat} {F F':TmF} {T T':TS}
theorem qxw {v:EvP} {p d:Slc} (h:TermM w base F T) (hv:EvW w (qjs F T) p d v) (ok:EvOk T v) {K:Ub}
  (hK:∀P F' w',TmT base w F F' (XR T v P) w'->(∀k,vh (XR T v P).E.S k->vh T.E.S k\/w.heap.size<=k)->K w'):Jg (some ⟨F.tg,0,none⟩) ⟨v.k,v.r,v.b,v.pv,qU v.i,p,d⟩ w K:=by
 refine qhp _ _ ?_;simp only [onPtr_some];obtain ⟨hgo,hcalm,hrl,hrd,hn⟩:=ok;refine nwb λw1 h1 hB1 hs1=>?_;refine lI (x:=v.k) (h1.cells 0 _ rfl) ?_;have t1:=TmT.of_ext h hB1;have z1:=hB1.size;have aft:∀(P:Slc) (F2:TmF) (w2:World),TmT base w F F2 (yy T v P) w2->(yy T v P).n<=100000->(∀k,vh (yy T v P).E.S k->vh T.E.S k\/w.heap.size<=k)->zy (some ⟨F.tg,0,none⟩) w2 λw3=>K w3:=by
  intro P F2 w2 t2 hn2 hi;rw [<-t2.tg];exact qyd t2.m (hcalm P) hn2 λF3 w3 t3=>hK P F3 w3 (t2.trans t3) hi
 have nn:∀j:Int,v.k≠j->(v.k==j)=false:=λj h=>beq_eq_false_iff_ne.2 h;refine jpO λJ1 hJ1=>?_;rcases hgo with e | ⟨e,hlong,hlen⟩ | ⟨e,hb,hlong,⟨bs,hcmd,hok,hm,hbl⟩,hq⟩ | ⟨e,hN⟩
 ·refine cF (nn 6 (by omega)) (cF (nn 7 (by omega)) (cF (nn 8 (by omega)) (cT (by rw [e];rfl) ?_)));rw [qB];refine qz t1.m.blk (by show 0+10+1<=15;omega) λw2 hb2 hg2 hs2=>?_;have t2:TmT base w1 F { F with cq:=⟨none,0,0⟩ } { T with cmd:=[] } w2:=t1.m.put hb2 (Chg.gg hg2) rfl rfl rfl rfl rfl rfl rfl rfl rfl (Go.Vc.Own.nil _ _ _) t1.m.rq (λk hk=>by cases hk) λ_ hk=>hk;rw [qB];refine qz t2.m.blk (by show 0+11+1<=15;omega) λw3 hb3 hg3 hs3=>?_;have t3:TmT base w2 { F with cq:=⟨none,0,0⟩ } { F with cq:=⟨none,0,0⟩ } { T with cmd:=[],long:=false } w3:=t2.m.put hb3 (Chg.gg hg3) rfl rfl rfl rfl rfl rfl rfl rfl rfl t2.m.cq t2.m.rq (λ_ hk=>hk) λ_ hk=>hk;have eq:yy T v ⟨none,0,0⟩={ T with cmd:=[],long:=false }:=by unfold yy;rw [if_pos e]
  exact aft ⟨none,0,0⟩ _ w3 (by rw [eq];exact t1.trans (t2.trans t3)) (by rw [eq];show T.n<=_;omega) (by rw [eq];exact λk hk=>.inl hk)
 ·refine cF (nn 6 (by omega)) (cF (nn 7 (by omega)) (cF (nn 8 (by omega)) (cF (nn 9 (by omega)) (cT (by rw [e];rfl) ?_))));refine lSl (x:=d) (h1.cells 6 _ rfl) ?_;refine q47 t1.m hlong (hv.ds.ext hB1) (λa ha hs=>(hv.df a ha).1 (.inl hs)) hlen λF2 w2 t2=>?_;have eq:yy T v ⟨none,0,0⟩={ T with cmd:=T.cmd++v.d }:=by unfold yy;rw [if_neg (by omega),if_pos e]
  exact aft ⟨none,0,0⟩ _ w2 (by rw [eq];exact t1.trans t2) (by rw [eq];show T.n<=_;omega) (by rw [eq];exact λk hk=>.inl hk)
 ·refine cF (nn 6 (by omega)) (cF (nn 7 (by omega)) (cF (nn 8 (by omega)) (cF (nn 9 (by omega)) (cF (nn 10 (by omega)) (cT (by rw [e];rfl) ?_)))));have eq:∀P,yy T v P=Kz T P:=λP=>by unfold yy;rw [if_neg (by omega),if_neg (by omega),if_pos e]
  refine lI (x:=v.b) (h1.cells 2 _ rfl) ?_;rw [hb];refine q0o t1.m hlong hcmd hok hm hn hq hbl hrl (λP=>by rw [<-eq P];exact hrd P) λP F2 w2 t2 hi=>?_;exact aft P _ w2 (by rw [eq];exact t1.trans t2) (by rw [eq];show T.n+2<=_;omega) (by rw [eq];exact λk hk=>(hi k hk).imp_right λh=>by omega)
 ·have hkn:v.k≠6/\v.k≠7/\v.k≠8/\v.k≠9/\v.k≠10/\v.k≠11/\v.k≠3:=by omega
  obtain ⟨n6,n7,n8,n9,n10,n11,n3⟩:=hkn;refine cF (nn 6 n6) (cF (nn 7 n7) (cF (nn 8 n8) (cF (nn 9 n9) (cF (nn 10 n10) (cF (nn 11 n11) (cF (nn 3 n3) (hJ1 _ _ ?_)))))));have eq:yy T v ⟨none,0,0⟩={ T with S:=T.S.doN (qmd v),rep:=T.rep++T.S.doNR (qmd v) }:=by unfold yy;rw [if_neg n9,if_neg n10,if_neg n11]
  have hrd0:=hrd ⟨none,0,0⟩;rw [eq] at hrd0;simp only [length_append] at hrd0;have t1d:=t1.drew;have m1:=t1d.m;have h1d:=h1.drew;refine lSl (x:=F.rq) (m1.blk.cells 12 _ rfl) (qM (x:=some ⟨F.sg,0,none⟩) (m1.blk.cells 6 _ rfl) (qw (r:=zb.rep) (x:=⟨v.k,v.r,v.b,v.pv,qU v.i,p,d⟩) h1d.cells ?_));have hv1:EvM w1.drew F.sg F.SF ⟨v.k,v.r,v.b,v.pv,qU v.i,p,d⟩ (qmd v):=⟨rfl,rfl,rfl,rfl,rfl,⟨(hv.ps.ext hB1).drew,.inr λa ha=>⟨λhs=>(hv.pf a ha).1 (.inl (.inr (.inl hs))),by have:=(hv.pf a ha).2;show a.block<w1.heap.size;omega⟩,λx hx=>by have:=hv.rng x hx;unfold zb9;omega,by have:=hv.pl;show v.ps.length<=100000;omega⟩,hv.b,hv.pv,by have:=hv.il;show v.i.length<=100000;omega⟩;refine zab m1.sc hv1 m1.tab hN λq SF' w3 hq hT=>?_;have t3:=m1.screen hT;have m3:=t3.m;refine ⟨m3.blk.cells 12 _ rfl,?_⟩;refine jN ze (ty:=qg) (xs:=T.rep) (ys:=T.S.doNR (qmd v)) m3.rq hq m3.base_le (by rw [km];omega) (by simp [maxLen];omega) λr w4 hr hg hrb=>?_;refine m3.replied (xs:=T.S.doNR (qmd v)) hr (Chg.of_grown hg λk hk=>hk) hrb λw5 t5=>?_;exact aft ⟨none,0,0⟩ _ w5 (by rw [eq];exact t1d.trans (t3.trans t5)) (by rw [eq];show T.n<=_;omega) (by rw [eq];exact λk hk=>.inl hk)
noncomputable def TH2 (base tg pg:Nat):Hnd TS where
 M w S s:=∃F,F.tg=tg/\F.pg=pg/\TermM w base F s/\S=qjs F s
 R s v s':=∃P,s'=XR s v P
 ok s v:=EvOk s v
theorem zfc (base tg pg:Nat):HndOk (TH2 base tg pg) base (.func (.func Yo) #[.pointer (some ⟨tg,0,none⟩)] #[]) where
 keep:=by
  rintro w w' S s X ⟨F,e1,e2,hm,rfl⟩ hc hS hf hb;exact ⟨F,e1,e2,hm.keep hc (λk hk=>hS k (.inl hk)) (λk hk=>hS k (.inr hk)) hf (qdw hm hc hb),rfl⟩
 lt:=by
  rintro w S s ⟨F,e1,e2,hm,rfl⟩ k (hk | hk)
  ·exact hm.below k hk
  ·obtain ⟨hb,cs,hcs⟩:=qlh hm.en hk;exact ⟨hb,hcs.lt⟩
 call:=by
  rintro w S s v p d K ⟨F,e1,e2,hm,rfl⟩ ok hv hK;subst e1;refine callR_plain (by kernel_rfl) (show Jg (some ⟨F.tg,0,none⟩) ⟨v.k,v.r,v.b,v.pv,qU v.i,p,d⟩ w K from ?_);exact qxw hm hv ok λP F' w' t hi=>hK w' (qjs F' (XR s v P)) (XR s v P) ⟨F',t.tg,t.pg.trans e2,t.m,rfl⟩ ⟨P,rfl⟩ (t.chg.mono λk _ hk=>.inl hk) λk hk=>by
   rcases hk with hk | hk
   ·exact (t.old k hk).imp_left .inl
   ·exact (hi k hk).imp_left .inr
structure TPI (w:World) (base:Nat) (F:TmF) (PF:PF) (p:PS) (T:TS):Prop where
 tm:TermM w base F T
 pm:∃fv,ParsM w base PF p fv
 e:PF.pg=F.pg
 dj:∀k,Qx PF k->¬qjs F T k
theorem TPM.two {PF:PF} {p:PS} (h:TPM w base F PF p T):TPI w base F PF p T:=⟨h.tm,h.pm,h.e,λk hk hs=>hs.elim (h.dj k hk) λhi=>by obtain ⟨q,hq,_⟩:=hi;rw [h.ni] at hq;cases hq⟩
theorem TPI.ext {PF:PF} {p:PS} (h:TPI w base F PF p T) (hB:Uc w w'):TPI w' base F PF p T:=⟨h.tm.ext hB,by obtain ⟨fv,hp⟩:=h.pm;exact ⟨fv,hp.ext hB⟩,h.e,h.dj⟩
theorem TPI.lt {PF:PF} {p:PS} (h:TPI w base F PF p T) {k:Nat} (hk:Qx PF k\/qjs F T k):base<=k/\k<w.heap.size:=by
 obtain ⟨fv,hp⟩:=h.pm;rcases hk with hk | hk | hk
 ·exact hp.below k hk
 ·exact h.tm.below k hk
 ·obtain ⟨hb,cs,hcs⟩:=qlh h.tm.en hk;exact ⟨hb,hcs.lt⟩
theorem TPI.belowB {PF:PF} {p:PS} (h:TPI w base F PF p T) (hc:Chg (λk=>Qx PF k\/qjs F T k) w w'):Below base w w':=hc.below h.tm.base_le λi hi hs=>by have:=(h.lt hs).1;omega
theorem TPI.step {PF:PF} {p:PS} (h:TPI w base F PF p T) (t:TmT base w F F' T' w') (hi:∀k,vh T'.E.S k->vh T.E.S k\/w.heap.size<=k):TPI w' base F' PF p T':=by
 obtain ⟨fv,hp⟩:=h.pm;refine ⟨t.m,⟨fv,hp.chg t.chg λk hk hs=>h.dj k hk (.inl hs)⟩,h.e.trans t.pg.symm,λk hk hs=>?_⟩;have hl:=(hp.below k hk).2;rcases hs with hs | hs
 ·rcases t.old k hs with h1 | h1
  ·exact h.dj k hk (.inl h1)
  ·omega
 ·rcases hi k hs with h1 | h1
  ·exact h.dj k hk (.inr h1)
  ·omega
theorem qhg {PF:PF} {p:PS} (h:TPI w base F PF p T) {q:Slc} {bs:List UInt8} (hq:Rd qn w q bs) (hl:bs.length<=1000000) (hb:∀b∈bs,b.toNat<128) (hqn:∀a,q.a=some a->¬Qx PF a.block/\¬qjs F T a.block/\a.block<w.heap.size)
  (hok:jf (TH2 base F.tg F.pg) T (p.eachB bs).2) {K:Ub} (hK:∀F' PF' T' w',TPI w' base F' PF' (p.eachB bs).1 T'->Z9 (TH2 base F.tg F.pg) T (p.eachB bs).2 T'->F'.tg=F.tg->Chg (λk=>Qx PF k\/qjs F T k) w w'->(∀k,(Qx PF' k\/qjs F' T' k)->(Qx PF k\/qjs F T k)\/w.heap.size<=k)->K w'):zR (some ⟨F.tg,0,none⟩) q w K:=by
 refine qjt _ _ ?_;simp only [onPtr_some];refine qM (x:=some ⟨F.pg,0,none⟩) (h.tm.blk.cells 8 _ rfl) ?_;rw [<-h.e];obtain ⟨fv0,hp⟩:=h.pm;have hM:(TH2 base F.tg F.pg).M w (qjs F T) T:=⟨F,rfl,rfl,h.tm,rfl⟩;refine q1q (zfc base F.tg F.pg) rfl rfl hp hM h.dj hq hl hb hqn hok λPF' S' T' w' hp' hM' dj hR hold hc e=>?_;obtain ⟨F',e1,e2,hm,rfl⟩:=hM';exact hK F' PF' T' w' ⟨hm,⟨_,hp'⟩,e.trans (h.e.trans e2.symm),dj⟩ hR e1 hc hold
end
theorem q9k {P:Cel->Prop} {L:List (List Cel)} (h:∀xs∈L,∀c∈xs,P c) (h0:P Ye):∀r c,P (xJ L r c):=by
 intro r c;unfold xJ;rw [List.getD_eq_getElem?_getD,List.getD_eq_getElem?_getD];cases hr:L[r]? with
 | none=>exact h0
 | some xs =>
  show P ((xs[c]?).getD Ye);cases hc:xs[c]? with
  | none=>exact h0
  | some y=>exact h xs (List.mem_of_getElem? hr) y (List.mem_of_getElem? hc)
section
variable {w w':World} {base:Nat} {F F':TmF} {T T':TS} {PF:PF} {p:PS}
def kc:qI:=⟨2,3,2,2,4,4096⟩
end
theorem q8w {p:PS} (h0:p.st=0) (he:p.ends=false):p.step 27=(p.begin_ 1,[]):=by
 unfold PS.step;rw [if_neg (by rw [he];decide),if_neg (by omega),if_neg (by omega),if_neg (by omega)]
theorem q3v {p:PS} {bs:List UInt8} (h:p.ends=true\/p.st≠5/\p.st≠6):¬0<p.runN bs:=by
 unfold PS.runN;rw [if_pos h];omega
theorem q83 {p:PS} (h0:p.st=0) (he:p.ends=false) {d:List UInt8} (hd:∀b∈d,qdo b.toNat=false) (hne:d≠[]):p.eachB (27::95::(d++[27,92]))=(p.begin_ 0,[evK 9 0,Qz 10 d,evK 11 1]):=by
 rw [PS.eachB_step (q3v (.inr (by omega)))];have s1:p.step (((27:UInt8).toNat:Nat):Int)=(p.begin_ 1,[]):=q8w h0 he;rw [s1];dsimp only;rw [PS.eachB_step (q3v (.inr ⟨by show (1:Int)≠5;omega,by show (1:Int)≠6;omega⟩))];have s2:(p.begin_ 1).step (((95:UInt8).toNat:Nat):Int)=({ p.begin_ 1 with st:=6 },[evK 9 0]):=by
  unfold PS.step;rw [if_neg (by show ¬p.ends=true;rw [he];decide),if_pos (by decide)];unfold PS.plain;rw [if_pos (show (p.begin_ 1).st=1 from rfl)];rfl
 rw [s2];dsimp only;obtain ⟨p2,hp2⟩:∃p2,p2=({ p.begin_ 1 with st:=6 }:PS):=⟨_,rfl⟩;rw [<-hp2];have t2:p2.st=6:=by rw [hp2]
 have e2:p2.ends=false:=by rw [hp2];exact he
 have hrn:p2.runN (d++[27,92])=d.length:=by
  unfold PS.runN;rw [if_neg (by rw [e2,t2];rintro (h | h);cases h;exact h.2 rfl)];refine q9q (x:=27) (λy hy=>?_) (by simp) rfl;rw [List.take_left] at hy;rw [hd y hy];rfl
 have hpos:0<d.length:=List.length_pos_iff.2 hne;obtain ⟨b,r,hbr⟩:∃b r,d++[27,92]=b::r:=by
  cases d with
  | nil=>exact absurd rfl hne
  | cons b r=>exact ⟨b,r++[27,92],rfl⟩
 have hrun:p2.eachB (d++[27,92])=((p2.eachB [27,92]).1,Qz 10 d::(p2.eachB [27,92]).2):=by
  rw [hbr,PS.eachB_run (by rw [<-hbr,hrn];exact hpos),<-hbr,hrn,List.drop_left,List.take_left,if_pos t2]
 have h27:p2.eachB [27,92]=(p.begin_ 0,[evK 11 1]):=by
  have hn1:¬0<p2.runN [27,92]:=by
   unfold PS.runN;split
   ·omega
   ·decide
  rw [PS.eachB_step hn1];have s3:p2.step (((27:UInt8).toNat:Nat):Int)=({ p2 with ends:=true },[]):=by
   unfold PS.step;rw [if_neg (by rw [e2];decide),if_neg (by decide),if_neg (by decide),if_pos (by omega)]
  rw [s3];dsimp only;rw [PS.eachB_step (q3v (.inl rfl))];have s4:({ p2 with ends:=true }:PS).step (((92:UInt8).toNat:Nat):Int)=(p.begin_ 0,[evK 11 1]):=by
   rw [hp2];have:p.begin_ 0={ p.begin_ 1 with st:=0,ends:=false }:=by
    unfold PS.begin_;rw [<-he]
   rw [this];rfl
  rw [s4];rfl
 rw [hrun,h27];rfl
def cev (bs:List UInt8):List EvP:=[evK 9 0,Qz 10 (71::bs),evK 11 1]
def qcx (T:TS) (bs:List UInt8):TS:={ T with cmd:=71::bs,long:=false,f0:=X7 T.S,f1:=T.S.g1.top }
noncomputable def zaf (T:TS) (bs:List UInt8) (P:Slc):TS:=x6 (Kz (qcx T bs) P)
structure CmdGo (T:TS) (bs:List UInt8):Prop where
 ok:CmdOk bs
 more:(xC bs).More≠1
 len:bs.length<=5000
 calm:Calm T
 aft:∀P,Calm (Kz (qcx T bs) P)
 q:T.E.quota<=100000
 n:T.n<=880
 rl:T.rep.length<=1000000
 rd:∀P,(Kz (qcx T bs) P).rep.length<=2000000
section
variable {w w':World} {base:Nat} {F F':TmF} {T T':TS} {bs:List UInt8}
theorem ev9 (T:TS) (P:Slc):XR T (evK 9 0) P={ T with cmd:=[],long:=false,f0:=X7 T.S,f1:=T.S.g1.top }:=by
 unfold XR yy;rw [if_pos (show (evK 9 0).k=9 from rfl)];rfl
theorem zgk (T:TS) (d:List UInt8) (P:Slc):XR T (Qz 10 d) P=x6 { T with cmd:=T.cmd++d }:=by
 unfold XR yy;rw [if_neg (show ¬(Qz 10 d).k=9 by show ¬(10:Int)=9;omega),if_pos (show (Qz 10 d).k=10 from rfl)];rfl
theorem zel (T:TS) (P:Slc):yy T (evK 11 1) P=Kz T P:=by
 unfold yy;rw [if_neg (show ¬(evK 11 1).k=9 by show ¬(11:Int)=9;omega),if_neg (show ¬(evK 11 1).k=10 by show ¬(11:Int)=10;omega),if_pos (show (evK 11 1).k=11 from rfl)]
theorem ev2 (T:TS) (bs:List UInt8) (P P':Slc):XR (XR T (evK 9 0) P) (Qz 10 (71::bs)) P'=qcx T bs:=by
 rw [ev9,zgk];rfl
theorem zep (h:CmdGo T bs) (b tg pg:Nat):jf (TH2 b tg pg) T (cev bs):=by
 have hl:=h.len;have hrl:=h.rl;have c1:∀(X:TS),X.S=T.S->X.f0=X7 T.S->X.f1=T.S.g1.top->Calm X:=λX e1 e2 e3=>⟨by rw [e1];exact h.calm.ar,.inl ⟨by rw [e1,e2],by rw [e1,e3]⟩⟩;refine ⟨⟨.inl rfl,λP=>?_,hrl,λP=>?_,h.n⟩,?_⟩
 ·have e:yy T (evK 9 0) P={ T with cmd:=[],long:=false }:=by unfold yy;rw [if_pos (show (evK 9 0).k=9 from rfl)]
  rw [e];exact ⟨h.calm.ar,h.calm.st⟩
 ·have e:yy T (evK 9 0) P={ T with cmd:=[],long:=false }:=by unfold yy;rw [if_pos (show (evK 9 0).k=9 from rfl)]
  rw [e];show T.rep.length<=_;omega
 rintro m ⟨P1,rfl⟩;rw [ev9];refine ⟨⟨.inr (.inl ⟨rfl,rfl,?_⟩),λP=>?_,hrl,λP=>?_,h.n⟩,?_⟩
 ·show (0:Nat)+(bs.length+1)<=_;omega
 ·have e:yy ({ T with cmd:=[],long:=false,f0:=X7 T.S,f1:=T.S.g1.top }:TS) (Qz 10 (71::bs)) P=qcx T bs:=by unfold yy;rw [if_neg (show ¬(Qz 10 (71::bs)).k=9 by show ¬(10:Int)=9;omega),if_pos (show (Qz 10 (71::bs)).k=10 from rfl)];rfl
  rw [e];exact c1 _ rfl rfl rfl
 ·have e:yy ({ T with cmd:=[],long:=false,f0:=X7 T.S,f1:=T.S.g1.top }:TS) (Qz 10 (71::bs)) P=qcx T bs:=by unfold yy;rw [if_neg (show ¬(Qz 10 (71::bs)).k=9 by show ¬(10:Int)=9;omega),if_pos (show (Qz 10 (71::bs)).k=10 from rfl)];rfl
  rw [e];show T.rep.length<=_;omega
 rintro m ⟨P2,rfl⟩;have e2:=ev2 T bs P1 P2;rw [ev9] at e2;rw [e2];refine ⟨⟨.inr (.inr (.inl ⟨rfl,rfl,rfl,⟨bs,rfl,h.ok,h.more,by omega⟩,h.q⟩)),λP=>?_,hrl,λP=>?_,h.n⟩,λ_ _=>trivial⟩
 ·rw [zel];exact h.aft P
 ·rw [zel];exact h.rd P
theorem zaz {b tg pg:Nat} (h:Z9 (TH2 b tg pg) T (cev bs) T'):∃P,T'=zaf T bs P:=by
 obtain ⟨m1,⟨P1,rfl⟩,m2,⟨P2,rfl⟩,m3,⟨P3,rfl⟩,rfl⟩:=h;refine ⟨P3,?_⟩;show XR (XR (XR T (evK 9 0) P1) (Qz 10 (71::bs)) P2) (evK 11 1) P3=_;rw [ev2];unfold XR;rw [zel];rfl
theorem zbf {PF:PF} {p:PS} (h:TPI w base F PF p T) (h0:p.st=0) (he:p.ends=false) (hgo:CmdGo T bs) (hsp:∀b∈bs,qdo b.toNat=false/\b.toNat<128) {q:Slc} (hq:Rd qn w q (27::95::71::(bs++[27,92])))
  (hqn:∀a,q.a=some a->¬Qx PF a.block/\¬qjs F T a.block/\a.block<w.heap.size) {K:Ub}
  (hK:∀P F' PF' w',TPI w' base F' PF' (p.begin_ 0) (zaf T bs P)->F'.tg=F.tg->Chg (λk=>Qx PF k\/qjs F T k) w w'->(∀k,(Qx PF' k\/qjs F' (zaf T bs P) k)->(Qx PF k\/qjs F T k)\/w.heap.size<=k)->K w'):zR (some ⟨F.tg,0,none⟩) q w K:=by
 have hd:∀b∈(71::bs),qdo b.toNat=false:=λb hb=>by
  rcases mem_cons.1 hb with rfl | hb
  ·rfl
  ·exact (hsp b hb).1
 have hev:=q83 h0 he hd (by simp);have hl:=hgo.len;have e:(27::95::71::(bs++[27,92]):List UInt8)=27::95::((71::bs)++[27,92]):=rfl;rw [e] at hq;refine qhg h hq (by simp only [length_cons,length_append,length_nil];omega) (λb hb=>?_) hqn (by rw [hev];exact zep hgo _ _ _) λF' PF' T' w' hM hR ht hc hold=>?_
 ·simp only [mem_cons,List.mem_append,List.not_mem_nil,or_false] at hb;rcases hb with rfl | rfl | (rfl | hb) | rfl | rfl
  ·decide
  ·decide
  ·decide
  ·exact (hsp b hb).2
  ·decide
  ·decide
 ·rw [hev] at hM hR;obtain ⟨P,rfl⟩:=zaz hR;exact hK P F' PF' w' hM ht hc hold
end
abbrev noP:Slc:=⟨none,0,0⟩
def zbw:qI:=⟨2,3,1,1,0,100⟩
def qti:List UInt8:=[97,61,84,44,102,61,50,52,44,115,61,49,44,118,61,49,44,105,61,55,59,65,81,73,68]
def zd4:List UInt8:=[97,98,27,95,71,97,61,84,44,102,61,50,52,44,115,61,49,44,118,61,49,44,105,61,55,59,65,81,73,68,27,92,27,91,54,110]
def zfh:EvP:=⟨4,0,110,0,[],[6],[]⟩
def q9b:List EvP:=[qpj 97,qpj 98,evK 9 0,Qz 10 (71::qti),evK 11 1,zfh]
theorem q2d:(ps0.eachB zd4).2=q9b:=by kernel_rfl
theorem QU {T:TS} {v:EvP} (h:v.k≠11) (P:Slc):XR T v P=XR T v noP:=by
 unfold XR yy;split
 ·rfl
 ·split
  ·rfl
  ·rfl
noncomputable def kA1:TS:=XR (qmr zbw) (qpj 97) noP
noncomputable def kA2:TS:=XR kA1 (qpj 98) noP
noncomputable def kA3:TS:=XR kA2 (evK 9 0) noP
noncomputable def kA4:TS:=XR kA3 (Qz 10 (71::qti)) noP
noncomputable def kA5 (P:Slc):TS:=XR kA4 (evK 11 1) P
noncomputable def kA6 (P:Slc):TS:=XR (kA5 P) zfh noP
theorem zah (P:Slc):(yy kA4 (evK 11 1) P).rep=[27,95,71,105,61,55,59,79,75,27,92]:=by kernel_rfl
theorem q5x:CmdOk qti/\(xC qti).More≠1:=by
 refine ⟨⟨by kernel_rfl,⟨?_,?_⟩,.inr (.inl (by kernel_rfl))⟩,?_⟩
 ·rw [show (xC qti).Format=24 by kernel_rfl];decide
 ·rw [show (xC qti).Zip=0 by kernel_rfl];decide
 ·rw [show (xC qti).More=0 by kernel_rfl];decide
theorem Xo {l r:List UInt8} {n:Nat} (h:l=r) (hr:r.length<=n):l.length<=n:=by rw [h];exact hr
theorem zey (b tg pg:Nat):jf (TH2 b tg pg) (qmr zbw) q9b:=by
 refine ⟨⟨.inr (.inr (.inr ⟨.inl rfl,.inl rfl⟩)),λP=>⟨by kernel_rfl,.inr (by kernel_rfl)⟩,Xo (r:=[]) (by kernel_rfl) (by decide),λP=>Xo (r:=[]) (by kernel_rfl) (by decide),?_⟩,?_⟩
 ·rw [show (qmr zbw).n=0 by kernel_rfl];decide
 rintro m ⟨P1,rfl⟩;rw [QU (show (qpj 97).k≠11 by decide)];refine ⟨⟨.inr (.inr (.inr ⟨.inl rfl,.inl rfl⟩)),λP=>⟨by kernel_rfl,.inr (by kernel_rfl)⟩,Xo (r:=[]) (by kernel_rfl) (by decide),λP=>Xo (r:=[]) (by kernel_rfl) (by decide),?_⟩,?_⟩
 ·show kA1.n<=880;rw [show kA1.n=0 by kernel_rfl];decide
 rintro m ⟨P2,rfl⟩;rw [QU (show (qpj 98).k≠11 by decide)];refine ⟨⟨.inl rfl,λP=>⟨by kernel_rfl,.inr (by kernel_rfl)⟩,Xo (r:=[]) (by kernel_rfl) (by decide),λP=>Xo (r:=[]) (by kernel_rfl) (by decide),?_⟩,?_⟩
 ·show kA2.n<=880;rw [show kA2.n=0 by kernel_rfl];decide
 rintro m ⟨P3,rfl⟩;rw [QU (show (evK 9 0).k≠11 by decide)];refine ⟨⟨.inr (.inl ⟨rfl,by kernel_rfl,?_⟩),λP=>⟨by kernel_rfl,.inr (by kernel_rfl)⟩,Xo (r:=[]) (by kernel_rfl) (by decide),λP=>Xo (r:=[]) (by kernel_rfl) (by decide),?_⟩,?_⟩
 ·show kA3.cmd.length+(71::qti).length<=6000;rw [show kA3.cmd=[] by kernel_rfl];decide
 ·show kA3.n<=880;rw [show kA3.n=0 by kernel_rfl];decide
 rintro m ⟨P4,rfl⟩;rw [QU (show (Qz 10 (71::qti)).k≠11 by decide)];refine ⟨⟨.inr (.inr (.inl ⟨rfl,rfl,by kernel_rfl,⟨qti,by kernel_rfl,q5x.1,q5x.2,by decide⟩,?_⟩)),λP=>⟨by kernel_rfl,.inl ⟨by kernel_rfl,by kernel_rfl⟩⟩,Xo (r:=[]) (by kernel_rfl) (by decide),λP=>Xo (zah P) (by decide),?_⟩,?_⟩
 ·show kA4.E.quota<=100000;rw [show kA4.E.quota=100 by kernel_rfl];decide
 ·show kA4.n<=880;rw [show kA4.n=0 by kernel_rfl];decide
 rintro m ⟨P5,rfl⟩;refine ⟨⟨.inr (.inr (.inr ⟨.inr rfl,.inr ⟨rfl,rfl,rfl,.inl rfl⟩⟩)),λP=>⟨by kernel_rfl,.inl ⟨by kernel_rfl,by kernel_rfl⟩⟩,Xo (zah P5) (by decide),λP=>Xo (r:=[27,95,71,105,61,55,59,79,75,27,92,27,91,49,59,51,82]) (by kernel_rfl) (by decide),?_⟩,λ_ _=>trivial⟩;show (kA5 P5).n<=880;rw [show (kA5 P5).n=2 by kernel_rfl];decide
theorem za4 {b tg pg:Nat} {T':TS} (h:Z9 (TH2 b tg pg) (qmr zbw) q9b T'):∃P,T'=kA6 P:=by
 obtain ⟨m1,⟨P1,rfl⟩,m2,⟨P2,rfl⟩,m3,⟨P3,rfl⟩,m4,⟨P4,rfl⟩,m5,⟨P5,rfl⟩,m6,⟨P6,rfl⟩,rfl⟩:=h;refine ⟨P5,?_⟩;rw [QU (show (qpj 97).k≠11 by decide),QU (show (qpj 98).k≠11 by decide),QU (show (evK 9 0).k≠11 by decide),QU (show (Qz 10 (71::qti)).k≠11 by decide),QU (show zfh.k≠11 by decide)];rfl
noncomputable def kX (P:Slc):Im:=(zt (kA6 P).E.S.L 7).getD ⟨qo6,[]⟩
theorem zff (P:Slc):(kA6 P).rep=[27,95,71,105,61,55,59,79,75,27,92,27,91,49,59,51,82]:=by kernel_rfl
theorem zgs (P:Slc):(kA6 P).E.S.L=[(7,kX P)]:=by kernel_rfl
theorem zgo (P:Slc):(kX P).v.m.W=1/\(kX P).v.m.H=1:=⟨by kernel_rfl,by kernel_rfl⟩
theorem za6 (P:Slc):(kX P).bs=[1,2,3,255]:=by kernel_rfl
theorem zgt (P:Slc):(kA6 P).E.T=[p7]:=by kernel_rfl
theorem zgu (P:Slc):(kA6 P).S.alt=false/\(kA6 P).S.g.top=0/\(kA6 P).S.g.rows=2:=⟨by kernel_rfl,by kernel_rfl,by kernel_rfl⟩
theorem zgg (P:Slc):(kA6 P).c.CellW=1/\(kA6 P).c.CellH=1:=⟨by kernel_rfl,by kernel_rfl⟩
theorem zfe (P:Slc):(kA6 P).S.g.L=[[⟨97,0,at0⟩,⟨98,0,at0⟩,Ye],[Ye,Ye,Ye]]:=by kernel_rfl
theorem q5n (P:Slc):(kA6 P).S.g.cols=3:=by kernel_rfl
theorem zex (P:Slc):(kA6 P).S.c.Row=0/\(kA6 P).S.c.Col=2/\((kA6 P).S.modeP 25 true).1=true:=⟨by kernel_rfl,by kernel_rfl,by kernel_rfl⟩
theorem zgi (P:Slc):(kA6 P).n=2:=by kernel_rfl
def zda:List UInt8:=q9c [[⟨97,0,at0⟩,⟨98,0,at0⟩,Ye],[Ye,Ye,Ye]] 3 2 true 0 2 [1,2,3,255]
theorem qr5:zda.length=24:=by kernel_rfl
theorem zeq:zda[8]?=some 254:=by kernel_rfl
set_option maxHeartbeats 8000000
section
variable {w w':World} {base:Nat} {F F':TmF} {T T':TS}
theorem qwf {p:Cel->Prop} (P:Slc) (h0:p Ye) (h1:p ⟨97,0,at0⟩) (h2:p ⟨98,0,at0⟩):∀r c,p (xJ (kA6 P).S.g.L r c):=by
 refine q9k (λxs hx c hc=>?_) h0;rw [zfe] at hx;simp only [mem_cons,List.not_mem_nil,or_false] at hx;rcases hx with rfl | rfl
 ·simp only [mem_cons,List.not_mem_nil,or_false] at hc;rcases hc with rfl | rfl | rfl
  ·exact h1
  ·exact h2
  ·exact h0
 ·simp only [mem_cons,List.not_mem_nil,or_false] at hc;rcases hc with rfl | rfl | rfl<;>exact h0
theorem zde:((zd0 [⟨97,0,at0⟩,⟨98,0,at0⟩,Ye]).toList==(⟨#[97,98]⟩:ByteArray).toList)=true:=by kernel_rfl
theorem qst {PF:PF} {p:PS} (h:TPI w base F PF p T) {q:Slc} {bs:List UInt8} {w3:World} (hB:Uc w w3) (hq:Cmd w3 w.heap.size q bs):∀a,q.a=some a->¬Qx PF a.block/\¬qjs F T a.block/\a.block<w3.heap.size:=by
 intro a ha;have hb:w.heap.size<=a.block/\a.block<w3.heap.size:=by
  rcases hq with h | ⟨g,hg,rfl,h⟩
  ·exact h.lt a.block (slk.2 ⟨a,ha,rfl⟩)
  ·cases ha;exact ⟨hg,h.lt⟩
 exact ⟨λhs=>by have:=(h.lt (.inl hs)).2;omega,λhs=>by have:=(h.lt (.inr hs)).2;omega,hb.2⟩
theorem zdl (hT:Tab w) (h4:4<=w.heap.size) {K:Bool->Ub} (hK:∀w',Uc w w'->K true w'):qhq w K:=by
 refine quf ?_;unfold qnu;refine qtb (c:=zbw) (by unfold okC;decide) rfl hT h4 λF PF w1 M0 hB1=>jpO λJ1 hJ1=>cF rfl (cF rfl (hJ1 _ _ ?_));have M1:=M0.two;refine qpi (bs:=zd4) rfl rfl λq w3 hq hB3=>?_;have M3:=M1.ext hB3;refine qhg M3 (hq.rd (by decide)) (by decide) (by decide) (qst M1 hB3 hq) (by rw [q2d];exact zey _ _ _) λF4 PF4 T4 w4 M4 hR e4 hc4 hold=>?_;rw [q2d] at hR;obtain ⟨P,rfl⟩:=za4 hR;rw [<-e4];have B1:=bT hB1 hB3;have B4:Uc w w4:=B1.trans (M3.belowB hc4);have m4:=M4.tm;refine Jj m4 λqr F5 w5 hqr t5=>?_;have m5:=t5.m;have B5:Uc w w5:=B4.trans ((m4.belowB t5).mono (le_refl _));obtain ⟨v1,v2,v3⟩:=zgu P;obtain ⟨c1,c2⟩:=zgg P;obtain ⟨u1,u2,u3⟩:=zex P;rw [<-t5.tg];refine qvj (T:={ kA6 P with rep:=[] }) m5 (by show (kA6 P).n<=900;rw [zgi];decide) (x:=kX P) (zgs P) (zgo P) (by rw [za6];rfl) (by rw [za6];rfl) (zgt P) ⟨v1,v2,v3⟩ c1 c2
  (qwf P (p:=λc=>c.A=at0) rfl rfl rfl) (qwf P (p:=λc=>0<=c.R/\c.R<=1114111) ⟨by decide,by decide⟩ ⟨by decide,by decide⟩ ⟨by decide,by decide⟩) (by show 2<(kA6 P).S.g.cols;rw [q5n];decide) (by show _<=(kA6 P).S.c.Row/\(kA6 P).S.c.Row<=_;rw [u1];decide) (by show _<=(kA6 P).S.c.Col/\(kA6 P).S.c.Col<=_;rw [u2];decide) λm w6 hm6 hml hB6=>?_
 have ep:q9c (kA6 P).S.g.L (kA6 P).S.g.cols (kA6 P).S.g.rows ((kA6 P).S.modeP 25 true).1 (kA6 P).S.c.Row (kA6 P).S.c.Col (kX P).bs=zda:=by
  rw [zfe,q5n,v3,u1,u2,u3,za6];rfl
 have hm6:Rd qn w6 m.P (q9c (kA6 P).S.g.L (kA6 P).S.g.cols (kA6 P).S.g.rows ((kA6 P).S.modeP 25 true).1 (kA6 P).S.c.Row (kA6 P).S.c.Col (kX P).bs):=hm6;rw [ep] at hm6;refine jQ (vs:=qa.rep.cells m) rfl λw7 h7 hB7 hs7=>?_;have B7:=bT hB6 hB7;have m7:=m5.ext B7;refine qny m7 λql ls w8 hql hls hB8=>?_;have B8:=bT B7 hB8;have hls:Lines w8 w7.heap.size ls (kA6 P).S.g.L:=hls;rw [zfe] at hls;have h8:=h7.ext hB8;have hqr8:=hqr.ext B8;have hm8:=hm6.ext (bT hB7 hB8);refine Xy hqr8 ?_;have hr:((qU (kA6 P).rep).toList==(⟨#[27,95,71,105,61,55,59,79,75,27,92,27,91,49,59,51,82]⟩:ByteArray).toList)=true:=by
  rw [yN,zff];kernel_rfl
 refine cT hr (cT rfl (lSl (x:=m.P) (h8.cells 2 _ rfl) ?_));have hmn:=hm8.n;rw [qr5] at hmn;refine cT (by rw [hmn];rfl) (lSl (x:=m.P) (h8.cells 2 _ rfl) ?_);refine hm8.ix (E:=qn) (i:=8) (k:=1) rfl (by decide) (by rw [qr5];decide) λhc=>?_;have e8:zda[(8:Int).toNat]'(by rw [qr5];decide)=254:=by
  have:=zeq;rw [List.getElem?_eq_some_iff] at this;exact this.2
 rw [e8] at hc;refine lI (x:=254) (by simpa using hc 0 _ rfl) (cT rfl ?_);have hlen:ls.length=2:=hls.1;refine cT (by rw [hql.rd.n,hlen];rfl) ?_;obtain ⟨s0,hs0,hss⟩:=q3n (xs:=ls) (k:=0) (by omega);refine hql.rd.ix (i:=0) (k:=1) rfl (by decide) (by omega) λhc=>?_;have hss':=hss (by show (0:Nat)<ls.length;omega);refine lSl (x:=s0) (by have:=hc 0 _ rfl;rw [show ls[(0:Int).toNat]'(by show (0:Nat)<ls.length;omega)=s0 from hss'] at this;simpa using this) ?_;refine q8m (hls.2 0 s0 _ hs0 rfl).rd (by decide) λw9 hB9=>cT zde ?_;have m9:=(m7.ext hB8).ext hB9;refine Jj m9 λqr2 F10 w10 hqr2 t10=>?_;have hn2:qr2.n=0:=hqr2.n;rw [hn2];refine hK w10 ?_;have B9:=bT (bT B5 B8) hB9;exact B9.trans ((m9.belowB t10).mono (le_refl _))
end
def E26 (f:qb):KE:=⟨2000,⟨2000,0,0,0,[]⟩,[],none,f⟩
def Jw:List UInt8:=[97,61,113,44,105,61,51,44,115,61,49,44,118,61,49,59,65,65,65,65,65,65]
theorem q51:CmdOk Jw/\(xC Jw).More≠1:=by
 refine ⟨⟨by kernel_rfl,⟨?_,?_⟩,.inr (.inr (.inl (by kernel_rfl)))⟩,?_⟩
 ·rw [show (xC Jw).Format=32 by kernel_rfl];decide
 ·rw [show (xC Jw).Zip=0 by kernel_rfl];decide
 ·rw [show (xC Jw).More=0 by kernel_rfl];decide
theorem zcg (f:qb) (P:Slc) (v:qj):(doK (E26 f) Jw P v).1=E26 (xC Jw)/\(doK (E26 f) Jw P v).2.reply=[27,95,71,105,61,51,59,79,75,27,92]/\(doK (E26 f) Jw P v).2.moves=false:=⟨by kernel_rfl,by kernel_rfl,by kernel_rfl⟩
def zed:EvP:=⟨4,0,110,0,[],[5],[]⟩
def zeg:EvP:=⟨4,0,99,0,[],[],[]⟩
structure Idle (p:PS):Prop where
 st:p.st=0
 ends:p.ends=false
theorem zek {p:PS} (h:Idle p):(p.eachB [27,91,53,110]).2=[zed]/\Idle (p.eachB [27,91,53,110]).1:=by
 obtain ⟨st,ends,a,b,c,d,e,f,g,i⟩:=p;obtain ⟨h1,h2⟩:=h;dsimp only at h1 h2;subst h1 h2;exact ⟨by kernel_rfl,by kernel_rfl,by kernel_rfl⟩
theorem zd9 {p:PS} (h:Idle p):(p.eachB [27,91,99]).2=[zeg]/\Idle (p.eachB [27,91,99]).1:=by
 obtain ⟨st,ends,a,b,c,d,e,f,g,i⟩:=p;obtain ⟨h1,h2⟩:=h;dsimp only at h1 h2;subst h1 h2;exact ⟨by kernel_rfl,by kernel_rfl,by kernel_rfl⟩
theorem zft {p:PS} (h:Idle p):(p.eachB [120]).2=[qpj 120]/\Idle (p.eachB [120]).1:=by
 obtain ⟨st,ends,a,b,c,d,e,f,g,i⟩:=p;obtain ⟨h1,h2⟩:=h;dsimp only at h1 h2;subst h1 h2;exact ⟨by kernel_rfl,by kernel_rfl,by kernel_rfl⟩
structure RSt (T:TS) (k:Nat):Prop where
 E:∃f,T.E=E26 f
 ar:T.S.areas=[]
 n:T.n<=2*k
 rep:T.rep.length<=11*k
theorem RSt.calm {T:TS} {k:Nat} (h:RSt T k):Calm T:=⟨h.ar,.inr (by obtain ⟨f,e⟩:=h.E;rw [e];rfl)⟩
theorem RSt.ev {T:TS} {k:Nat} (h:RSt T k) (hk:k<=100) {v:EvP} {r:List UInt8} (hv:v.k=1/\r=[]\/(v=zed/\r=[27,91,48,110])\/(v=zeg/\r=[27,91,63,54,50,59,52,99])):EvOk T v/\v.k≠11/\RSt (XR T v noP) (k+1)/\(XR T v noP).rep=T.rep++r:=by
 obtain ⟨f,hE⟩:=h.E;have hn:=h.n;have hr:=h.rep;have hk4:v.k=1\/v.k=4:=by
  rcases hv with h | h | h
  ·exact .inl h.1
  ·rw [h.1];exact .inr rfl
  ·rw [h.1];exact .inr rfl
 have hq:∀P,yy T v P={ T with S:=T.S.doN (qmd v),rep:=T.rep++T.S.doNR (qmd v) }:=λP=>by
  unfold yy;rw [if_neg (by omega),if_neg (by omega),if_neg (by omega)]
 have hS:(T.S.doN (qmd v)).areas=[]/\T.S.doNR (qmd v)=r/\EvN (qmd v):=by
  rcases hv with ⟨e,hr⟩ | ⟨e,hr⟩ | ⟨e,hr⟩
  ·have ek:(qmd v).Kind=1:=e;refine ⟨?_,?_,.inl ek⟩
   ·unfold Sc.doN;rw [if_pos ek];have h1:=(za1 T.S (qmd v).R).ar;rw [h.ar] at h1;exact List.eq_nil_of_length_eq_zero (by simpa using h1)
   ·unfold Sc.doNR;rw [if_pos ek,hr]
  ·subst e;exact ⟨h.ar,by rw [hr];kernel_rfl,.inr ⟨rfl,rfl,rfl,.inl rfl⟩⟩
  ·subst e;exact ⟨h.ar,by rw [hr];kernel_rfl,.inr ⟨rfl,rfl,rfl,.inr rfl⟩⟩
 obtain ⟨s1,s2,s3⟩:=hS;have hrl:r.length<=8:=by
  rcases hv with ⟨e,hr⟩ | ⟨e,hr⟩ | ⟨e,hr⟩<;>rw [hr]<;>decide
 have hrep:∀P,(yy T v P).rep=T.rep++r:=λP=>by rw [hq,<-s2]
 refine ⟨⟨.inr (.inr (.inr ⟨hk4,s3⟩)),λP=>?_,by omega,λP=>by rw [hrep,length_append];omega,by omega⟩,by omega,⟨⟨f,?_⟩,?_,?_,?_⟩,hrep noP⟩
 ·rw [hq];exact ⟨s1,.inr (by show T.E.T=[];rw [hE];rfl)⟩
 ·show (yy T v noP).E=_;rw [hq];exact hE
 ·show (yy T v noP).S.areas=_;rw [hq];exact s1
 ·show (yy T v noP).n<=_;rw [hq];show T.n<=_;omega
 ·show (yy T v noP).rep.length<=_;rw [hrep,length_append];omega
theorem RSt.ask {T:TS} {k:Nat} (h:RSt T k) (hk:k<=100):CmdGo T Jw/\∀P,RSt (zaf T Jw P) (k+1)/\(zaf T Jw P).rep=T.rep++[27,95,71,105,61,51,59,79,75,27,92]:=by
 obtain ⟨f,hE⟩:=h.E;have hn:=h.n;have hr:=h.rep;have hd:∀P v,(doK T.E Jw P v).1=E26 (xC Jw)/\(doK T.E Jw P v).2.reply=[27,95,71,105,61,51,59,79,75,27,92]/\(doK T.E Jw P v).2.moves=false:=λP v=>by rw [hE];exact zcg f P v
 have hS:∀P,(Kz (qcx T Jw) P).S=T.S:=λP=>by
  show qse T.S (doK T.E Jw P (vM (qcx T Jw))).2=T.S;unfold qse;rw [if_neg (by rw [(hd P _).2.2];decide)]
 have hrep:∀P,(Kz (qcx T Jw) P).rep=T.rep++[27,95,71,105,61,51,59,79,75,27,92]:=λP=>by
  show T.rep++(doK T.E Jw P (vM (qcx T Jw))).2.reply=_;rw [(hd P _).2.1]
 have hE2:∀P,(Kz (qcx T Jw) P).E=E26 (xC Jw):=λP=>(hd P _).1;refine ⟨⟨q51.1,q51.2,by decide,h.calm,λP=>⟨by rw [hS];exact h.ar,.inr (by rw [hE2];rfl)⟩,by rw [hE];show (2000:Int)<=100000;decide,by omega,by omega,λP=>by rw [hrep,length_append];simp only [length_cons,length_nil];omega⟩,λP=>⟨⟨⟨_,hE2 P⟩,?_,?_,?_⟩,hrep P⟩⟩
 ·show (Kz (qcx T Jw) P).S.areas=[];rw [hS];exact h.ar
 ·show T.n+2<=_;omega
 ·show (Kz (qcx T Jw) P).rep.length<=_;rw [hrep,length_append];simp only [length_cons,length_nil];omega
theorem RSt.new:RSt (qmr ⟨4,6,2,2,3,2000⟩) 0:=⟨⟨zdw,by kernel_rfl⟩,by kernel_rfl,by rw [show (qmr ⟨4,6,2,2,3,2000⟩).n=0 by kernel_rfl];decide,Xo (r:=[]) (by kernel_rfl) (by decide)⟩
theorem RSt.up {T:TS} {k:Nat} (h:RSt T k):RSt { T with rep:=[] } k:=⟨h.E,h.ar,h.n,zero_le _⟩
section
variable {w w':World} {B:Nat} {F F':TmF} {T T':TS} {k:Nat}
structure RR (w:World) (B k:Nat) (F:TmF) (PF:PF) (p:PS) (T:TS):Prop where
 tp:TPI w B F PF p T
 id:Idle p
 st:RSt T k
theorem RR.feed_ev {PF:PF} {p:PS} (h:RR w B k F PF p T) (hk:k<=100) {v:EvP} {r bs:List UInt8} (hv:v.k=1/\r=[]\/(v=zed/\r=[27,91,48,110])\/(v=zeg/\r=[27,91,63,54,50,59,52,99])) (hev:(p.eachB bs).2=[v]/\Idle (p.eachB bs).1) (hl:bs.length<=1000) (hb:∀b∈bs,b.toNat<128) {vs:List Value} {m:Nat} (hvs:vs=bs.map qsa) (hm:m=bs.length) {K:Ub}
  (hK:∀F' PF' p' T' w',RR w' B (k+1) F' PF' p' T'->F'.tg=F.tg->T'.rep=T.rep++r->Below B w w'->K w'):nw qL vs w λt w1=>zJ PG (convert qg qg (.slice (some t) m m)) Kind.slice w1 λ(q:Slc) w2=>zR (some ⟨F.tg,0,none⟩) q w2 K:=by
 refine qpi hvs hm λq w3 hq hB3=>?_;have h3:=h.tp.ext hB3;obtain ⟨o1,o2,o3,o4⟩:=h.st.ev hk hv;refine qhg h3 (hq.rd (by omega)) (by omega) hb (qst h.tp hB3 hq) (by rw [hev.1];exact ⟨o1,λ_ _=>trivial⟩) λF4 PF4 T4 w4 M4 hR e4 hc4 hold=>?_;rw [hev.1] at hR;obtain ⟨m1,⟨P1,rfl⟩,rfl⟩:=hR;rw [QU o2] at M4;rw [<-QU o2 P1] at o3 o4;rw [<-QU o2 P1] at M4;exact hK F4 PF4 _ _ w4 ⟨M4,hev.2,o3⟩ e4 o4 ((hB3.mono h.tp.tm.base_le).trans (h3.belowB hc4))
theorem RR.feed_ask {PF:PF} {p:PS} (h:RR w B k F PF p T) (hk:k<=100) {vs:List Value} {m:Nat} (hvs:vs=(27::95::71::(Jw++[27,92]):List UInt8).map qsa) (hm:m=(27::95::71::(Jw++[27,92]):List UInt8).length) {K:Ub}
  (hK:∀F' PF' p' T' w',RR w' B (k+1) F' PF' p' T'->F'.tg=F.tg->T'.rep=T.rep++[27,95,71,105,61,51,59,79,75,27,92]->Below B w w'->K w'):nw qL vs w λt w1=>zJ PG (convert qg qg (.slice (some t) m m)) Kind.slice w1 λ(q:Slc) w2=>zR (some ⟨F.tg,0,none⟩) q w2 K:=by
 refine qpi hvs hm λq w3 hq hB3=>?_;have h3:=h.tp.ext hB3;obtain ⟨o1,o2⟩:=h.st.ask hk;refine zbf h3 h.id.st h.id.ends o1 (by decide) (hq.rd (by decide)) (qst h.tp hB3 hq) λP F4 PF4 w4 M4 e4 hc4 hold=>?_;exact hK F4 PF4 _ _ w4 ⟨M4,⟨rfl,h.id.ends⟩,(o2 P).1⟩ e4 (o2 P).2 ((hB3.mono h.tp.tm.base_le).trans (h3.belowB hc4))
theorem RR.told {PF:PF} {p:PS} (h:RR w B k F PF p T) {K:ByteArray->Ub} (hK:∀F' w',RR w' B k F' PF p { T with rep:=[] }->F'.tg=F.tg->Below B w w'->K (qU T.rep) w'):zU (some ⟨F.tg,0,none⟩) w λt w1=>zJ PG (convert qg zn (.slice t.a t.n t.c)) Kind.string w1 K:=by
 refine Jj h.tp.tm λq F2 w2 hq t2=>Xy hq ?_;exact hK F2 w2 ⟨h.tp.step t2 λk hk=>.inl hk,h.id,h.st.up⟩ t2.tg (h.tp.tm.belowB t2)
theorem q00 {n asks:Slc} {ns:List Int} {bs:List Bool} (hT:Tab w) (hn:Rd zX w n ns) (ha:Rd ql6 w asks bs) {K:Bool->Ub} (hK:∀w',Uc w w'->K true w'):YR n asks w K:=by
 have h4:4<=w.heap.size:=zaj (g:=3) (by kernel_rfl) hT;refine qil _ _ ?_;refine zdl hT h4 λw1 hB1=>cF rfl ?_;have hnn:=hn.n;have han:=ha.n;refine cO (λe=>hK w1 hB1) λe60=>?_;have e60:=oFq e60;refine qtu ?_;unfold qnb;refine jQ rfl λw2 b2 hB2 s2=>?_;refine qw (r:=qI.rep) (x:=⟨4,6,2,2,3,2000⟩) b2.cells ?_;have z1:=hB1.size;have z2:=hB2.size;have B2:=bT hB1 hB2;refine qtb (c:=⟨4,6,2,2,3,2000⟩) (by unfold okC;decide) rfl (hT.ext B2) (by omega) λF0 PF0 w3 M0 hB3=>jpO λJ1 hJ1=>cF rfl (cF rfl (hJ1 _ _ ?_));obtain ⟨B,hBe⟩:∃B,B=w2.heap.size:=⟨_,rfl⟩;rw [<-hBe] at M0;have hwB:w.heap.size<=B:=by omega
 have out:∀{wx},Below B w2 wx->Uc w wx:=λhB=>B2.trans (hB.mono hwB);have hn2:=hn.ext B2;have ha2:=ha.ext B2;have rows:∀{wx},Below B w2 wx->Rd zX wx n ns/\Rd ql6 wx asks bs:=λhB=>by
  have c:Chg (λk=>B<=k) w2 _:=Chg.of_below hB;exact ⟨YU hn2 c λhp a ha' hs=>by have:=qv8 hn hp a ha';omega,YU ha2 c λhp a ha' hs=>by have:=qv8 ha hp a ha';omega⟩
 refine lpR (λ(st:ByteArray×ByteArray×Int×Unit) w5=>∃(k:Nat) (F:TmF) (PF:Go.Proofs.YtokfefnmpjohpaaGreatDoor.PF) (p:PS) (T:TS) (wl gl:List UInt8),st=(qU wl,qU gl,(k:Int),())/\k<=ns.length/\RR w5 B k F PF p T/\F.tg=F0.tg/\wl=gl++T.rep/\wl.length<=11*k/\Below B w2 w5) (λst=>ns.length-st.2.2.1.toNat)
  ⟨0,F0,PF0,_,_,[],[],rfl,zero_le _,⟨M0.two,⟨rfl,rfl⟩,RSt.new⟩,rfl,by show []=[]++(qmr ⟨4,6,2,2,3,2000⟩).rep;rw [show (qmr ⟨4,6,2,2,3,2000⟩).rep=[] by kernel_rfl];rfl,zero_le _,by rw [hBe];exact hB3⟩ ?_
 rintro _ w5 ⟨k,F,PF,p,T,wl,gl,rfl,hk,hR,htg,hwg,hwl,hB5⟩ I hI;dsimp only;have hgl:gl.length<=wl.length:=by rw [hwg,length_append];omega
 refine cO (λe=>?_) λe=>?_
 ·have e:=oTq e;have hkn:k<ns.length:=by omega
  obtain ⟨hn5,ha5⟩:=rows hB5;have ekn:i64.wrap ((k:Int)+(1:Int))=((k+1:Nat):Int):=by rw [qP (by omega)];omega
  refine jpO λJ3 hJ3=>?_;have behind:∀(F':TmF) (PF':Go.Proofs.YtokfefnmpjohpaaGreatDoor.PF) (p':PS) (T':TS) (r:List UInt8) (w6:World),RR w6 B (k+1) F' PF' p' T'->F'.tg=F.tg->T'.rep=T.rep++r->r.length<=11->Below B w5 w6->J3 (qU (wl++r),()) w6:=by
   intro F' PF' p' T' r w6 hR6 ht6 hr6 hrl hB6;have hB26:=hB5.trans hB6;obtain ⟨hn6,ha6⟩:=rows hB26;have hw6:wl++r=gl++T'.rep:=by rw [hr6,hwg,List.append_assoc]
   have hwl6:(wl++r).length<=11*(k+1):=by rw [length_append];omega
   refine hJ3 _ _ (jpO λJ4 hJ4=>?_);have asked:∀b:Bool,J4 (b,()) w6:=by
    intro b;refine hJ4 _ _ ?_;dsimp only;rw [ekn];cases b with
    | false=>exact hI _ _ ⟨k+1,F',PF',p',T',wl++r,gl,rfl,hkn,hR6,ht6.trans htg,hw6,hwl6,hB26⟩ (by show ns.length-((k+1:Nat):Int).toNat<ns.length-((k:Nat):Int).toNat;omega)
    | true =>
     rw [<-htg,<-ht6];refine hR6.told λF8 w8 hR8 ht8 hB8=>?_;have hrl6:=hR6.st.rep;rw [kB,qY,qY];refine ⟨by omega,?_⟩;refine hI _ _ ⟨k+1,F8,PF',p',_,wl++r,gl++T'.rep,rfl,hkn,hR8,(ht8.trans ht6).trans htg,by rw [hw6,List.append_nil],hwl6,hB26.trans hB8⟩ (by show ns.length-((k+1:Nat):Int).toNat<ns.length-((k:Nat):Int).toNat;omega)
   refine cO (λea=>?_) λea=>asked false;have ea:=oTq ea;have hka:k<bs.length:=by omega
   refine ha6.ix (E:=ql6) (i:=(k:Int)) (k:=1) rfl (by omega) (by omega) λhc=>?_;exact jY (x:=bs[(k:Int).toNat]'(by omega)) (by simpa using hc 0 _ rfl) (asked _)
  refine hn5.ix (E:=zX) (i:=(k:Int)) (k:=1) rfl (by omega) (by omega) λhc=>?_;refine lI (x:=ns[(k:Int).toNat]'(by omega)) (by simpa using hc 0 _ rfl) ?_;rw [<-htg];have szl:∀{r:List UInt8},r.length<=11->(((qU wl).size+(qU r).size:Nat):Int)<=9223372036854775807:=λhr=>by rw [qY,qY];omega
  refine cO (λ_=>?_) λ_=>cO (λ_=>?_) λ_=>cO (λ_=>?_) λ_=>?_
  ·refine hR.feed_ev (bs:=[27,91,53,110]) (by omega) (.inr (.inl ⟨rfl,rfl⟩)) (zek hR.id) (by decide) (by decide) rfl rfl λF' PF' p' T' w6 hR6 ht6 hr6 hB6=>?_;have e1:(⟨#[27,91,48,110]⟩:ByteArray)=qU [27,91,48,110]:=rfl;rw [e1];refine ⟨szl (by decide),?_⟩;rw [kB];exact behind F' PF' p' T' _ w6 hR6 ht6 hr6 (by decide) hB6
  ·refine hR.feed_ev (bs:=[27,91,99]) (by omega) (.inr (.inr ⟨rfl,rfl⟩)) (zd9 hR.id) (by decide) (by decide) rfl rfl λF' PF' p' T' w6 hR6 ht6 hr6 hB6=>?_;have e1:(⟨#[27,91,63,54,50,59,52,99]⟩:ByteArray)=qU [27,91,63,54,50,59,52,99]:=rfl;rw [e1];refine ⟨szl (by decide),?_⟩;rw [kB];exact behind F' PF' p' T' _ w6 hR6 ht6 hr6 (by decide) hB6
  ·refine hR.feed_ask (by omega) rfl rfl λF' PF' p' T' w6 hR6 ht6 hr6 hB6=>?_;have e1:(⟨#[27,95,71,105,61,51,59,79,75,27,92]⟩:ByteArray)=qU [27,95,71,105,61,51,59,79,75,27,92]:=rfl;rw [e1];refine ⟨szl (by decide),?_⟩;rw [kB];exact behind F' PF' p' T' _ w6 hR6 ht6 hr6 (by decide) hB6
  ·refine hR.feed_ev (bs:=[120]) (by omega) (.inl ⟨rfl,rfl⟩) (zft hR.id) (by decide) (by decide) rfl rfl λF' PF' p' T' w6 hR6 ht6 hr6 hB6=>?_;have h1:=behind F' PF' p' T' [] w6 hR6 ht6 hr6 (by decide) hB6;rw [List.append_nil] at h1;exact h1
 ·
  rw [<-htg];refine hR.told λF8 w8 hR8 ht8 hB8=>?_;have hrl:=hR.st.rep;rw [kB,qY,qY,yN,yN,<-hwg];refine ⟨by omega,cT (by simp) ?_⟩;rw [<-ht8];refine Jj hR8.tp.tm λq F9 w9 hq t9=>?_;have hq0:q.n=0:=hq.n;rw [hq0];exact hK w9 (out ((hB5.trans hB8).trans (hR8.tp.tm.belowB t9)))
end
end Go.Proofs.YtokfefnmpjohpaaGreatDoor
namespace Go.Proofs.YtokfefnmpjohpaaGreatDoor
def jnA (P:Program) (fn:Func) (s:ChangeSpec) (c:OpenClaim):Bool :=
 c.wf (OpenSpec.ofChange s) && laidOutB P && mapsRowed P && fn.params.all (P.readableRec ·) && namedTie P c.named s.vars && (c.stops==[]) && (P.stops==[]) && (c.knobs==[]) && (P.stopKnobs==[])
def jnB (P:Program) (fn:Func) (s:ChangeSpec) (c:OpenClaim):Bool :=
 (c.maps==(fn.params.toList++s.plain.varTypes P).any (P.mapsRec ·)) && (c.ifaces==(fn.params.toList++s.plain.varTypes P).any (P.ifacesRec ·)) && (c.mapsOut==P.mapsAmong fn.resultTypes.toList) &&
 (c.loops==(fn.params.toList++s.plain.varTypes P).any (P.loopsFrom ·)) && (c.wideKeys==(fn.params.toList++s.plain.varTypes P++fn.resultTypes.toList).any (P.wideKeysFrom ·)) &&
 s.vars.all (P.varReadable ·) && fn.resultTypes.all (λt=>P.readableRec t && decide (t<P.types.size)) && (c.ifacesOut==fn.resultTypes.toList.any (P.ifacesRec ·)) && (c.loopsOut==fn.resultTypes.toList.any (P.loopsFrom ·))
def jnC (P:Program) (fn:Func) (s:ChangeSpec) (c:OpenClaim):Bool :=
 (c.plainKeys==P.plainKeys) && c.shortTexts.isNone && P.stopsHeard && P.mayEnter && (c.lifted==P.liftsFinal) && (P.make==some c.make) && (c.kinds==(if c.domain.isEmpty then [] else fn.params.toList.map λt=>match P.underlying t with | some (.int k)=>some k | _=>none)) && (c.pinned==c.pinnedBy) &&
 (c.veiled==(fn.params.toList++s.plain.varTypes P++fn.resultTypes.toList).any (P.veiledRec ·)) && c.veiledFits P fn.params.toList (fn.params.toList++s.plain.varTypes P++fn.resultTypes.toList)
theorem q7x {P:Program} {f:FuncId} {fn:Func} {s:ChangeSpec} {c:OpenClaim} (a:jnA P fn s c=true) (b1:(c.inPlace==P.inPlace f)=true) (b2:(c.unfollowed==P.unfollowed f)=true) (b3:(c.recurses==P.recurses f)=true) (b4:(c.named==P.varsNamed f)=true)
  (d:jnB P fn s c=true) (e:jnC P fn s c=true):joinedFacts P f fn s c=true:=by
 unfold jnA at a;unfold jnB at d;unfold jnC at e;unfold joinedFacts;simp only [Bool.and_eq_true,and_assoc] at a d e ⊢;exact ⟨a.1,a.2.1,a.2.2.1,a.2.2.2.1,a.2.2.2.2.1,a.2.2.2.2.2.1,a.2.2.2.2.2.2.1,a.2.2.2.2.2.2.2.1,a.2.2.2.2.2.2.2.2,b1,b2,b3,b4,d.1,d.2.1,d.2.2.1,d.2.2.2.1,d.2.2.2.2.1,d.2.2.2.2.2.1,d.2.2.2.2.2.2.1,d.2.2.2.2.2.2.2.1,d.2.2.2.2.2.2.2.2,e⟩
end Go.Proofs.YtokfefnmpjohpaaGreatDoor
