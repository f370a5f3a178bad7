import Derived.Test.YtlmpnfhmpjldaaaGreatDoorP2
import Derived.Test.YtlmpnfhmpjldaaaGreatDoorP1
import Derived.Lib.Bytealg
import Derived.Lib.ItoaNum
import Derived.Lib.Join
import Derived.Lib.SlBytesConst
set_option linter.unusedVariables false
namespace Go.Proofs.YtlmpnfhmpjldaaaGreatDoor
open Go.Vc Go.RowKit
set_option maxRecDepth 100000
open IntKind (i64)
open _root_.Nat (le_refl)
section
variable {w:World} {base g r n:Nat} {S:St}
theorem q11 {base:Nat} {s:Slc} {xs:List UInt8} {K:Slc->Ub} (h:Hold w base s xs) (hK:∀q:Slc,Hold w base q xs->q.n=xs.length->K q w):jO s w K:=by
 refine qaw _ ?_;have hn:=h.rd.n;refine h.rd.slK3 (l:=0) (m:=xs.length) (k:=1) rfl (.inl ⟨rfl,rfl⟩) (by rw [hn]) (by rw [hn]) (Nat.zero_le _) (le_refl _) λhr=>?_;rw [List.take_of_length_le (le_refl _),List.drop_zero] at hr;refine hK _ ⟨hr,λk hk=>?_⟩ (by show xs.length-0=_;omega);obtain ⟨a,ha,hak⟩:=slk.1 hk;obtain ⟨b,hb,hab⟩:=Go.Vc.cut_block ha;exact h.blk k (slk.2 ⟨b,hb,by omega⟩)
theorem zgr {i num:Int} {m:qa} {bs:List UInt8} {mb:Nat} {w6:World} {K:Ub} (h:StM w6 base g r S) (hk:StOk n S) (hn:n<=1000) (hbase:base<=w6.heap.size)
  (hb:Blk w6 mb qz (qa.rep.cells m)) (hP:Rd qu w6 m.P bs) (hPg:0<bs.length->∀a,m.P.a=some a->a.block≠g) (hf:S.used+bs.length<=S.quota)
  (hi1:0<i/\i<=1099511627776+((n+1:Nat):Int))
  (hK:∀P w',StM w' base g r (S.putAt i num m.W m.H P bs)->Chg (λk=>onS g r k\/k=mb) w6 w'->(∀k,P.blk=some k->w6.heap.size<=k)->K w') :
    qG (some ⟨g,0,none⟩) λt60=>
    ldI .i64 (t60.add 3) w6 λt62=>
    qG (some ⟨g,0,none⟩) λt64=>
    stK (t64.add 3) [(Ua (i64.wrap (t62+(1:Int))))] w6 λw7=>
    zF ((⟨mb,0,none⟩:Addr).add 2) w7 λt67=>
    jb t67 w7 λt68 w8=>
    jO t68 w8 λt69 w9=>
    stK ((⟨mb,0,none⟩:Addr).add 2) [(.slice t69.a t69.n t69.c)] w9 λw10=>
    qG (some ⟨g,0,none⟩) λt72=>
    ldM (t72.add 4) w10.drew λt74=>
    ldS qa.rep (⟨mb,0,none⟩:Addr) w10.drew λ(t77:qa) =>
    qG (some ⟨g,0,none⟩) λt79=>
    ldI .i64 (t79.add 3) w10.drew λt81=>
    qG (some ⟨g,0,none⟩) λt83=>
    ldI .i64 (t83.add 3) w10.drew λt85=>
    qng PG (Instr.mapUpdate qO (.map t74) (Ua i) (.agg #[(Ua num),(Ua t77.W),(Ua t77.H),(.slice t77.P.a t77.P.n t77.P.c),(Ua t81),(Ua t85)])) w10.drew λ_ w11=>
    qG (some ⟨g,0,none⟩) λt88=>
    ldI .i64 (t88.add 2) w11.drew λt90=>
    zF ((⟨mb,0,none⟩:Addr).add 2) w11.drew λt92=>
    qG (some ⟨g,0,none⟩) λt95=>
    stK (t95.add 2) [(Ua (i64.wrap (t90+((t92.n:Nat):Int))))] w11.drew λw12=>
    K w12:=by
 have hc0:=hk.clk0;have hc1:=hk.clk;have hu:=hk.used;have hq1:=hk.q1;have hgl:=h.blk.lt;have hrl:=h.map.lt;have hmg:mb≠g:=hb.ne_t h.blk (by decide);have hmr:r≠mb:=h.map.ne_blk hb;refine qw (lI (x:=S.clock) (h.blk.cells 3 _ rfl) (qw ?_));rw [qH,qQ (by omega)];refine qB h.blk (by simp [St.cells]) λw7 hb7 hg7 hs7=>?_;have hb7:Blk w7 g zG (({ S with clock:=S.clock+1 }:St).cells r):=hb7;have c7:Chg (λk=>onS g r k\/k=mb) w6 w7:=(Go.Vc.Chg.gg hg7).mono λi _ hi=>.inl (.inl hi);have hm7:zP Im.enc w7 r S.L:=h.map.chg (Go.Vc.Chg.gg hg7) h.ne;have hbm7:=hb.chg (Go.Vc.Chg.gg hg7) hmg;have hP7:Rd qu w7 m.P bs:=qme hP (Go.Vc.Chg.gg hg7) λhp a ha e=>hPg hp a ha e;refine lSl (x:=m.P) (hbm7.cells 2 _ rfl) ?_;refine qkq hP7 (by omega) λq8 w8 ho8 hB8=>?_;refine q11 (q86 ho8) λq9 hq9 hqn=>?_;rw [qH];have hs8:=hB8.size;have hbm8:=hbm7.ext hB8;have hb8:=hb7.ext hB8;have hm8:=hm7.ext hB8;refine qB hbm8 (by simp [qa.rep]) λw10 hb10 hg10 hs10=>?_;have hb10:Blk w10 mb qz (qa.rep.cells { m with P:=q9 }):=hb10;have hbg10:=hb8.chg (Go.Vc.Chg.gg hg10) λe=>hmg e.symm;have hm10:zP Im.enc w10 r S.L:=hm8.chg (Go.Vc.Chg.gg hg10) hmr;have hq10:Hold w10 w7.heap.size q9 bs:=hq9.chg (Go.Vc.Chg.gg hg10) λk hk e=>hq9.ne_b hbm8 (by decide) k hk e;refine qw (xP (x:=some r) (hbg10.drew.cells 4 _ rfl) ?_);refine qy (x:=({ m with P:=q9 }:qa)) hb10.drew.cells ?_;refine qw (lI (x:=S.clock+1) (hbg10.drew.cells 3 _ rfl) ?_);refine qw (lI (x:=S.clock+1) (hbg10.drew.cells 3 _ rfl) ?_);obtain ⟨w11,hr11,hm11,hc11,hs11⟩:=(hm10.keep (w':=w10.drew) rfl).update q8l zco (k:=i) (by omega) (enc:=Im.enc) ⟨⟨num,⟨m.W,m.H,q9⟩,S.clock+1,S.clock+1⟩,bs⟩;refine q35 hr11 ?_;have hbg11:=hbg10.drew.chg hc11 λe=>h.ne e.symm;have hb11:=hb10.drew.chg hc11 λe=>hmr e.symm;have hq11:=hq10.drew.chg hc11 λk hk e=>hq10.ne_m hm10 k hk e;refine qw (lI (x:=S.used) (hbg11.drew.cells 2 _ rfl) ?_);refine lSl (x:=q9) (hb11.drew.cells 2 _ rfl) ?_;refine qw ?_;rw [qH,hqn,qQ (by omega)];refine qB hbg11.drew (by simp [St.cells]) λw12 hb12 hg12 hs12=>?_;have c8:Chg (λk=>onS g r k\/k=mb) w6 w10:=(c7.trans (Chg.of_ext hB8) λi _ hi=>hi).trans (Go.Vc.Chg.gg hg10) λi _ hi=>.inr hi;have c11:Chg (λk=>onS g r k\/k=mb) w6 w11:=(c8.trans (Chg.of_ext (Below.refl _ w10).drew) λi _ hi=>hi).trans hc11 λi _ hi=>.inl (.inr hi);have c12:Chg (λk=>onS g r k\/k=mb) w6 w12:=(c11.trans (Chg.of_ext (Below.refl _ w11).drew) λi _ hi=>hi).trans (Go.Vc.Chg.gg hg12) λi _ hi=>.inl (.inl hi);refine hK q9 w12 ⟨hb12,(hm11.keep (w':=w11.drew) rfl).chg (Go.Vc.Chg.gg hg12) h.ne,λp hp=>?_⟩ c12 (λk hk=>by have:=(hq9.lt k hk).1;omega);obtain ⟨a,b⟩:=p;rcases (Qk hk.srt _ _ a b).1 hp with ⟨rfl,rfl⟩ | ⟨_,hp'⟩
 ·exact (hq11.drew.chg (Go.Vc.Chg.gg hg12) λk hk e=>hq11.ne_b hbg11 (by decide) k hk e).base (by omega)
 ·refine (h.img _ hp').chg c12 λk hk e=>?_;rcases e with e | e
  ·exact h.own_blk _ hp' k hk e
  ·exact (h.img _ hp').ne_b hb (by decide) k hk e
theorem zgl {id num:Int} {m:qa} {bs:List UInt8} (h:StM w base g r S) (hk:StOk n S) (hn:n<=1000) (hbase:base<=w.heap.size)
  (hP:Rd qu w m.P bs) (hPg:0<bs.length->∀a,m.P.a=some a->¬onS g r a.block) {K:Int->Slc->Int->Ub}
  (hE:∀w',qdq S id num m.W m.H bs.length≠0->StM w' base g r S->Uc w w'->K 0 ⟨none,0,0⟩ (qdq S id num m.W m.H bs.length) w')
  (hK:∀P q w',qdq S id num m.W m.H bs.length=0->StM w' base g r ((S.putPre id bs.length).1.putAt (Y5 (S.putPre id bs.length).1.L id) num m.W m.H P bs)->StOk (n+1) ((S.putPre id bs.length).1.putAt (Y5 (S.putPre id bs.length).1.L id) num m.W m.H P bs) ->
   Go.Vc.Own jG w' w.heap.size q (S.putPre id bs.length).2->Chg (onS g r) w w'->(∀k,P.blk=some k->w.heap.size<=k)->K (Y5 (S.putPre id bs.length).1.L id) q 0 w') :
  JE (some ⟨g,0,none⟩) id num m w K:=by
 refine qke _ _ _ _ ?_;have hPn:=hP.n;have hgl:=h.blk.lt;have hrl:=h.map.lt;refine nwb λw1 hb1 hB1 hs1=>?_;refine jpO λJ1 hJ1=>jpO λJ5 hJ5=>?_;have good:∀w2,Uc w w2->Blk w2 w.heap.size qz (qa.rep.cells m)->(qkh id=true)->(bs.length:Int)<=S.quota->qdq S id num m.W m.H bs.length=0->J1 () w2:=λw2 hB2 hb2 hnum hq he=>by
  refine hJ1 _ _ ?_;have h2:=h.ext hB2;have hs2:=hB2.size;have hl2:=hb2.lt;refine qrr h2 λw3 h3 hc3 hs3=>?_;have hk3:StOk n { S with res:=0 }:=qpg hk 0;have hb3:=hb2.chg hc3 λe=>by rcases e with e | e<;>omega
  refine jpO λJ2 hJ2=>?_;have next:∀w4 (S1:St),S1=(if id=0 then ({ S with res:=0 }:St) else ({ S with res:=0 }:St).drop id)->StM w4 base g r S1->StOk n S1->S1.quota=S.quota->(id≠0->zA S1.L id=none)->Chg (onS g r) w3 w4->J2 () w4:=λw4 S1 hS1 h4 hk4 hqq hno hc4=>by
   refine hJ2 _ _ ?_;have hb4:=hb3.chg hc4 λe=>by rcases e with e | e<;>omega
   refine lSl (x:=m.P) (hb4.cells 2 _ rfl) ?_;rw [hPn];refine qt8 h4 hk4 hn (by omega) (by omega) λq5 w5 h5 ho5 hc5=>?_;have hpre:S.putPre id bs.length=S1.room bs.length:=by unfold St.putPre;rw [hS1]
   rw [hpre] at hK;have hk5:StOk n (S1.room bs.length).1:=qlt _ _ hk4;have hfit:(S1.room bs.length).1.used<=S1.quota-bs.length:=qxj (by omega) _ hk4 (by omega) (le_refl _);have hfld:=(qrs (bs.length:Int) S1.L.length S1 []).1;have hfld:(S1.room bs.length).1.quota=S1.quota:=hfld;have hno5:id≠0->zA (S1.room bs.length).1.L id=none:=λe=>by
    have hno:=hno e;have key:∀(f:Nat) (S':St) (G:List Int),zA S'.L id=none->zA (S'.roomF bs.length f G).1.L id=none:=by
     intro f
     induction f with
     | zero=>exact λ_ _ h=>h
     | succ f ih =>
      intro S' G h;unfold St.roomF;split
      ·refine ih _ _ ?_;show zA (Go.Vc.delL S'.L _) id=none;cases hl:zA (Go.Vc.delL S'.L (y6 S'.L)) id with
       | none=>rfl
       | some x =>
        exfalso;unfold zA at hl;obtain ⟨p,hp,_⟩:=Option.map_eq_some_iff.1 hl;have h3:=List.find?_some hp;exact qs5 h _ (YK (List.mem_of_find?_eq_some hp)) (by simpa using h3)
      ·exact h
    exact key _ _ _ hno
   have c45:Chg (onS g r) w2 w5:=(hc3.trans hc4 λi _ hi=>hi).trans hc5 λi _ hi=>hi;have hb5:=hb4.chg hc5 λe=>by rcases e with e | e<;>omega
   have hP5:Rd qu w5 m.P bs:=qme (hP.ext hB2) c45 hPg;have hs3':=hc3.size;have hs4:=hc4.size;have hs5:=hc5.size;refine jpO λJ3 hJ3=>?_;have last:∀w6,Uc w5 w6->J3 (Y5 (S1.room bs.length).1.L id,()) w6:=λw6 hB6=>by
    refine hJ3 _ _ ?_;have h6:=h5.ext hB6;have hs6:=hB6.size;refine zgr (m:=m) (bs:=bs) h6 hk5 hn (by omega) (hb5.ext hB6) (hP5.ext hB6) (λhp a ha e=>hPg hp a ha (.inl e)) (by omega) (q54 hk5 hn hnum) λP w7 h7 hc7 hPb=>?_;have hoq:=ho5.ext hB6;refine hK P q5 w7 he h7 (zjh hk5 (q9s hk5 hn hno5) (q54 hk5 hn hnum) (by omega)) ?_ ?_ (λk hk=>by have:=hPb k hk;omega)
    ·refine (hoq.chg hc7 λk hk e=>?_).base (by omega);rcases e with (e | e) | e
     ·exact qrm hoq h6.blk (by decide) k hk e
     ·exact h6.map.ne_own hoq k hk e
     ·have:=(hoq.lt k hk).1;omega
    ·have c:Chg (λk=>onS g r k\/k=w.heap.size) w w7:=(((Chg.of_ext hB2).trans (c45.mono (S':=λk=>onS g r k\/k=w.heap.size) λi _ hi=>.inl hi) λi _ hi=>hi).trans (Chg.of_ext hB6) λi _ hi=>hi).trans hc7 λi _ hi=>hi;exact c.mono λi hi e=>e.resolve_right (by omega)
   refine cO (λe0=>?_) λe0=>?_
   ·have e0:=eq_of_beq e0;subst e0;have hfree:=q5g hk5;refine lpR (Inv:=λ(s:Int×Unit) w6=>∃j:Nat,s.1=1099511627776+(j:Int)/\j<=n+1/\qse (S1.room bs.length).1.L (2000-j) s.1=Y5 (S1.room bs.length).1.L 0/\Uc w5 w6) (μ:=λs=>(1099511627776+2000-s.1).toNat) ⟨0,by omega,by omega,rfl,Below.refl _ _⟩ ?_;rintro ⟨k,⟨⟩⟩ w6 ⟨j,hj,hj1,hj2,hB6⟩ I hI;have hj:k=1099511627776+(j:Int):=hj;refine zjn (h5.ext hB6) k λw7 hB7=>?_;have hB57:=hB6.trans (hB7.mono hB6.size);have e2:2000-j=(2000-(j+1))+1:=by omega
    have hj2:qse (S1.room bs.length).1.L (2000-j) k=Y5 (S1.room bs.length).1.L 0:=hj2;rw [e2] at hj2;unfold qse at hj2;refine cO (λhs=>?_) λhs=>?_
    ·rw [if_pos hs] at hj2;have hjn:j≠n+1:=λe=>by
      rw [hj,e,hfree] at hs;cases hs
     rw [qQ (by omega)];exact hI _ _ ⟨j+1,by show k+1=_;omega,by omega,hj2,hB57⟩ (by show (1099511627776+2000-(k+1)).toNat<(1099511627776+2000-k).toNat;omega)
    ·rw [if_neg (by rw [hs];decide)] at hj2;rw [hj2];exact last w7 hB57
   ·have e0:id≠0:=λe=>by rw [e] at e0;simp at e0
    have hnid:Y5 (S1.room bs.length).1.L id=id:=by unfold Y5;rw [if_neg e0]
    rw [<-hnid];have:=last w5 (Below.refl _ _);rw [hnid] at this ⊢;exact this
  refine cO (λe0=>?_) λe0=>?_
  ·have e0:=bne_iff_ne.1 e0;refine qsx h3 hk3 id λw4 h4 hc4=>?_;refine next w4 _ (by rw [if_neg e0]) h4 (qmn hk3 id) rfl (λ_=>?_) hc4;cases hl:zA (({ S with res:=0 }:St).drop id).L id with
   | none=>rfl
   | some x =>
    have:=((qlc id id x).1 ((xH (qxi hk.srt id)).1 hl)).1;exact absurd rfl this
  ·have e0:id=0:=by simpa using e0
   exact next w3 _ (by rw [if_pos e0]) h3 hk3 rfl (λe=>absurd e0 e) (Chg.refl _ _)
 have fin:∀(c:Bool) (w2:World),Uc w w2->Blk w2 w.heap.size qz (qa.rep.cells m)->c=(!(qxp m.W m.H bs.length && !(m.W==0) && qkh id && qkh num))->J5 (c,()) w2:=λc w2 hB2 hb2 hc=>by
  refine hJ5 _ _ ?_;have h2:=h.ext hB2;cases hg:(qxp m.W m.H bs.length && !(m.W==0) && qkh id && qkh num) with
  | false =>
   have he:qdq S id num m.W m.H bs.length=1:=by unfold qdq;rw [hg];rfl
   rw [he] at hE;rw [hg] at hc;exact cT hc (hE w2 (by decide) h2 hB2)
  | true =>
   rw [hg] at hc;have he:qdq S id num m.W m.H bs.length=if (bs.length:Int)>S.quota then 6 else 0:=by unfold qdq;rw [hg];rfl
   refine cF hc ?_;have hBd:=hB2.drew;refine lSl (x:=m.P) (hb2.drew.cells 2 _ rfl) (qw (lI (x:=S.quota) (h2.drew.blk.cells 0 _ rfl) ?_));rw [hPn];refine cO (λhgt=>?_) λhgt=>?_
   ·have hgt:=oTq hgt;rw [if_pos hgt] at he;rw [he] at hE;exact hE w2.drew (by decide) h2.drew hBd
   ·have hgt:=oFq hgt;rw [if_neg hgt] at he;refine good w2.drew hBd hb2.drew ?_ (by omega) he;simp only [Bool.and_eq_true] at hg;exact hg.1.2
 refine qy (x:=m) hb1.cells ?_;refine zab λw2 hB2=>?_;have hB12:Uc w w2:=hB1.trans (hB2.mono (by omega));have hb2:=hb1.ext hB2;rw [hPn];refine cO (λe1=>?_) λe1=>?_
 ·refine fin _ _ hB12 hb2 ?_;simp at e1;rw [e1];rfl
 ·simp at e1;refine lI (x:=m.W) (hb2.cells 0 _ rfl) ?_;refine cO (λe2=>fin _ _ hB12 hb2 (by rw [e2];simp)) λe2=>?_;refine qoa ?_;refine cO (λe3=>fin _ _ hB12 hb2 (by simp at e3;rw [e3];simp)) λe3=>?_;simp at e3;refine qoa ?_;exact fin _ _ hB12 hb2 (by rw [e1,e2,e3];simp)
end
section
variable {w:World} {base g r n:Nat} {S:St}
def Kd (q:Int):Int:=if q<0\/q>1073741824 then 1 else 0
theorem zml {q:Int} (h:Kd q=0):StOk 0 ⟨q,0,0,0,[]⟩:=by
 unfold Kd at h;split at h
 ·cases h
 ·rename_i h;exact ⟨by show 0<=q;omega,by show q<=_;omega,rfl,by show 0<=q;omega,le_refl _,Int.le_refl _,Int.le_refl _,.nil,(λp hp=>by cases hp),(λp hp=>by cases hp),(λp hp=>by cases hp),(λp hp=>by cases hp),(λp hp=>by cases hp)⟩
theorem zb2 {q:Int} {w:World} {base:Nat} {K:Option Addr->Int->Ub} (hE:Kd q=1->K none 1 w)
  (hK:∀g r w',Kd q=0->w.heap.size<=g->w.heap.size<=r->StM w' base g r ⟨q,0,0,0,[]⟩->Uc w w'->K (some ⟨g,0,none⟩) 0 w'):ql2 q w K:=by
 refine qxv _ ?_;refine jpO λJ hJ=>?_;refine cO (λh=>hE (by unfold Kd;rw [if_pos (.inl (oTq h))])) λh=>?_;refine cO (λh'=>hE (by unfold Kd;rw [if_pos (.inr (oTq h'))])) λh'=>?_;have h:=oFq h;have h':=oFq h';refine hJ _ _ ?_;unfold nwM;have hB1:Uc w (w.alloc (.map #[] 0)):=(Below.refl _ w).alloc (le_refl _) _;have hs1:(w.alloc (.map #[] 0)).heap.size=w.heap.size+1:=by show (w.heap.push _).size=_;simp
 refine nwb λw2 hb2 hB2 hs2=>?_;refine hK _ w.heap.size w2 (by unfold Kd;rw [if_neg (by omega)]) (by omega) (le_refl _) ⟨hb2,(zP.new w).ext hB2,λp hp=>by cases hp⟩ (hB1.trans (hB2.mono (by omega)))
theorem qx9 {L:List (Int×Im)} (h:zP Im.enc w r L) {K:Option Nat->Ub} (hK:∀r' w',w.heap.size<=r'->zP Im.enc w' r' L->Uc w w'->K (some r') w') :
  zJ (some r) w K:=by
 refine ka _ ?_;refine cF rfl ?_;obtain ⟨w1,hr1,hm1,hB1,hs1⟩:=q0f (P:=PG) h qO;refine ⟨.iface qO (.map (some w.heap.size)),w1,?_,?_⟩
 ·show (callFunc 250 #[.iface qO (.map (some r))]).run PG w=_;rw [run_callFunc_extern (P:=PG) (f:=250) Tryz.func250 (by kernel_rfl) (by kernel_rfl) (by kernel_rfl) (e:=Extern.MapsClone.clone) (by kernel_rfl),hr1];rfl
 ·exact ⟨some w.heap.size,w1,qou q8l,hK _ w1 (le_refl _) hm1 hB1⟩
theorem zf7 (h:StM w base g r S) {K:Option Addr->Ub}
  (hK:∀g' r' w',w.heap.size<=g'->w.heap.size<=r'->StM w' base g' r' S->Uc w w'->K (some ⟨g',0,none⟩) w'):ZK (some ⟨g,0,none⟩) w K:=by
 refine qi7 _ ?_;refine qw (qy (x:=(⟨S.quota,S.res,S.used,S.clock,some r⟩:xy)) h.blk.cells ?_);refine jd (t:=zG) (vs:=xy.rep.cells ⟨S.quota,S.res,S.used,S.clock,some r⟩) rfl λw2 hb2 hB2 hs2=>?_;have h2:=h.ext hB2;refine qw (xP (x:=some r) (h2.blk.cells 4 _ rfl) ?_);refine qx9 h2.map λr' w3 hr3 hm3 hB3=>?_;rw [qH];have hb3:=hb2.ext hB3;refine qB hb3 (by simp [xy.rep]) λw4 hb4 hg4 hs4=>?_;have hc:Chg (λk=>k=w.heap.size) w w4:=((Chg.of_ext hB2).trans (Chg.of_ext hB3) λi _ hi=>hi).trans (Go.Vc.Chg.gg hg4) λi _ hi=>hi;have hgl:=h.blk.lt;have hs3:=hB3.size;refine hK w.heap.size r' w4 (le_refl _) (by omega) ⟨hb4,hm3.chg (Go.Vc.Chg.gg hg4) (hm3.ne_blk hb3),λp hp=>((h2.img p hp).ext hB3).chg (Go.Vc.Chg.gg hg4) λk hk e=>((h2.img p hp).ext hB3).ne_b hb3 (by decide) k hk e⟩ (hc.ext λi hi e=>by omega)
theorem zhg {L:List (Int×Im)} (hs:Srt L) {k:Int} {x y:Im} (h:(k,x)∈L) (hxy:y.bs=x.bs):XX (kC L k y)=XX L/\(kC L k y).length=L.length:=by
 induction L with
 | nil=>cases h
 | cons a L ih =>
  have hp:=List.pairwise_cons.1 hs;unfold kC;rcases List.mem_cons.1 h with e | h
  ·subst e;rw [if_neg (by simp),if_pos rfl];exact ⟨by rw [ke,ke,hxy],by simp⟩
  ·have h1:=hp.1 _ h;simp at h1;rw [if_neg (by omega),if_neg (by omega)];have:=ih hp.2 h;exact ⟨by rw [ke,ke,this.1],by simp [this.2]⟩
theorem zmn (h:StOk n S) (id:Int):StOk (n+1) (S.use id):=by
 have hc:=h.clk;have hc0:=h.clk0;unfold St.use;cases hl:zA S.L id with
 | none =>
  exact ⟨h.q0,h.q1,h.used,h.fits,Nat.le_succ_of_le h.len,h.clk0,by show S.clock<=_;omega,h.srt,(λp hp=>by have:=h.keys p hp;omega),h.stamps,h.borns,h.st1,h.bo1⟩
 | some x =>
  have hx:=(xH h.srt).1 hl;have hm:=Qk h.srt id ({ x with v:={ x.v with stamp:=S.clock+1 } }:Im);have hsz:=zhg h.srt hx (y:=({ x with v:={ x.v with stamp:=S.clock+1 } }:Im)) rfl;refine ⟨h.q0,h.q1,?_,h.fits,?_,by show 0<=S.clock+1;omega,by show S.clock+1<=_;omega,qfp h.srt _ _,?_,?_,?_,?_,?_⟩
  ·show S.used=(XX (kC _ _ _):Int);rw [hsz.1];exact h.used
  ·have:=h.len;show (kC _ _ _).length<=_;rw [hsz.2];omega
  ·rintro ⟨a,b⟩ hp;rcases (hm a b).1 hp with ⟨rfl,rfl⟩ | ⟨_,hq⟩
   ·have:=h.keys _ hx;simp at this ⊢;omega
   ·have:=h.keys _ hq;simp at this ⊢;omega
  ·rintro ⟨a,b⟩ hp;show 0<b.v.stamp/\b.v.stamp<=S.clock+1;rcases (hm a b).1 hp with ⟨rfl,rfl⟩ | ⟨_,hq⟩
   ·exact ⟨by show 0<S.clock+1;omega,Int.le_refl _⟩
   ·have:=h.stamps _ hq;simp at this;omega
  ·rintro ⟨a,b⟩ hp;show 0<b.v.born/\b.v.born<=S.clock+1;rcases (hm a b).1 hp with ⟨rfl,rfl⟩ | ⟨_,hq⟩
   ·have:=h.borns _ hx;simp at this ⊢;omega
   ·have:=h.borns _ hq;simp at this;omega
  ·rintro ⟨a,b⟩ hp ⟨a',b'⟩ hp' (e:b.v.stamp=b'.v.stamp);rcases (hm a b).1 hp with ⟨rfl,rfl⟩ | ⟨_,hq⟩
   ·rcases (hm a' b').1 hp' with ⟨rfl,rfl⟩ | ⟨_,hq'⟩
    ·rfl
    ·have:=h.stamps _ hq';simp at this e;omega
   ·rcases (hm a' b').1 hp' with ⟨rfl,rfl⟩ | ⟨_,hq'⟩
    ·have:=h.stamps _ hq;simp at this e;omega
    ·exact h.st1 _ hq _ hq' e
  ·rintro ⟨a,b⟩ hp ⟨a',b'⟩ hp' (e:b.v.born=b'.v.born);rcases (hm a b).1 hp with ⟨rfl,rfl⟩ | ⟨hna,hq⟩
   ·rcases (hm a' b').1 hp' with ⟨rfl,rfl⟩ | ⟨hnb,hq'⟩
    ·rfl
    ·have:=congrArg Prod.fst (h.bo1 _ hx _ hq' e);exact absurd this.symm hnb
   ·rcases (hm a' b').1 hp' with ⟨rfl,rfl⟩ | ⟨_,hq'⟩
    ·have:=congrArg Prod.fst (h.bo1 _ hq _ hx e);exact absurd this hna
    ·exact h.bo1 _ hq _ hq' e
end
end Go.Proofs.YtlmpnfhmpjldaaaGreatDoor
set_option maxRecDepth 20000
namespace Go.Proofs.YtlmpnfhmpjldaaaGreatDoor
open Go.Vc
open Lib (indexByte)
def QV:List Int:=[116,100,0,97,0,32,0,0,0,0,0,0,0,0,0,0,0,0,0,0,0,0]
def qbe:List Int:=List.replicate 22 0
def qdz:List UInt8:=[97,116,111,100]
def qny:List UInt8:=[113,102,115,118,105,73,112,109,120,121,119,104,88,89,114,99,67]
def qgo (c:UInt8):Option Nat:=if indexByte qdz c<0 then none else some (indexByte qdz c).toNat
def ql3 (j:Nat):Nat:=if j=16 then 21 else j+4
def qsq (c:UInt8):Option Nat:=if indexByte qny c<0 then none else some (ql3 (indexByte qny c).toNat)
def qzf:Nat->List UInt8->Option Nat
 | n,[]=>some n
 | n,b::r=>if b<48\/57<b then none else qzf (10*n+(b.toNat-48)) r
def Vn (v:List UInt8):Option Nat:=if v=[]\/10<v.length then none else (qzf 0 v).bind λn=>if n<=4294967295 then some n else none
def zfi (m:Int):Bool:=decide (-1073741824<=m) && decide (m<1073741824)
def qj4 (v:List UInt8):Option Int:=match v with
 | 45::r=>(Vn r).bind λn=>if zfi (-(n:Int)) then some (-(n:Int)) else none
 | v=>(Vn v).bind λn=>if zfi (n:Int) then some (n:Int) else none
def qes (c:UInt8):Bool:=(decide (65<=c) && decide (c<=90)) || (decide (97<=c) && decide (c<=122))
def zkh (b:UInt8):Bool:=decide (33<=b) && decide (b<=126)
def za6 (k:List Int) (j:Nat) (v:List UInt8):Option (List Int):=match v with
 | [b]=>if zkh b then some (k.set j (b.toNat:Int)) else none
 | _=>none
def qnl (k:List Int) (s:List UInt8):Option (List Int):=match s with
 | c::e::v =>
  if e≠61\/qes c=false then none
  else if c=122 then (qj4 v).map λm=>k.set 20 m
  else match qgo c with
   | some j=>za6 k j v
   | none=>match qsq c with
    | some j=>(Vn v).map λn=>k.set j (n:Int)
    | none=>some k
 | _=>none
def zT:List UInt8->List (List UInt8)
 | []=>[[]]
 | b::r=>if b=44 then []::zT r else match zT r with
  | h::t=>(b::h)::t
  | []=>[[b]]
def ZN (b:List UInt8):List Int×Int:=if 512<b.length then (qbe,5) else if b=[] then (QV,0) else match (zT b).foldlM qnl QV with
 | some k=>(k,0)
 | none=>(qbe,3)
def qep (l:List (List UInt8)):List UInt8:=Lib.join l [44]
theorem zbs (x:List UInt8) (l:List (List UInt8)) (h:l≠[]):qep (x::l)=x++44::qep l:=by
 unfold qep Lib.join;cases l with
 | nil=>exact absurd rfl h
 | cons y l=>simp [List.intercalate,List.intersperse]
theorem ze4 (x:List UInt8):qep [x]=x:=by simp [qep,Lib.join,List.intercalate,List.intersperse]
theorem zfj:qep []=[]:=rfl
def qww (k:List Int) (word:List UInt8):Bool :=
 (decide (k[8]?.getD 0=0) && decide (k[9]?.getD 0=0)) || (decide (k[4]?.getD 0=1) && decide (word=[79,75])) || decide ((2:Int)<=k[4]?.getD 0) || decide (k[8]?.getD 0<0) || decide (k[9]?.getD 0<0) || decide (k[10]?.getD 0<0)
def xM (c:UInt8) (n:Int):List (List UInt8):=if n=0 then [] else [c::61::Lib.itoa n]
def qav (k:List Int):List (List UInt8):=xM 105 (k[8]?.getD 0)++xM 73 (k[9]?.getD 0)++xM 112 (k[10]?.getD 0)
def qsw (k:List Int) (word:List UInt8):List UInt8:=if qww k word then [] else [27,95,71]++qep (qav k)++[59]++word++[27,92]
end Go.Proofs.YtlmpnfhmpjldaaaGreatDoor
namespace Go.Proofs.YtlmpnfhmpjldaaaGreatDoor
open Go.Vc Go.RowKit
set_option maxRecDepth 400000
open Builtin (copy_)
open _root_.Int (toNat_natCast)
open IntKind (i64 u32)
open Lib (countByte indexByte)
open _root_.List (append_nil drop_zero length_append length_cons length_map length_nil length_take mem_append take_add_one take_length take_of_length_le)
open _root_.Nat (le_refl le_trans mul_assoc mul_le_mul mul_one zero_add zero_le)
def q2x (i:Nat) (x:Int):Value:=if i<4 then .int .u8 x else .int .i64 x
def qla:Nat->List Int->List Value
 | _,[]=>[]
 | i,x::r=>q2x i x::qla (i+1) r
def qdu (L:List Int):List Value:=qla 0 L
def toL (k:qb):List Int:=[k.Action,k.Medium,k.Zip,k.What,k.Quiet,k.Format,k.W,k.H,k.Id,k.Number,k.Place,k.More,k.X,k.Y,k.PW,k.PH,k.DX,k.DY,k.Rows,k.Cols,k.Z,k.Stay]
def ofL (L:List Int):qb:=⟨L.getD 0 0,L.getD 1 0,L.getD 2 0,L.getD 3 0,L.getD 4 0,L.getD 5 0,L.getD 6 0,L.getD 7 0,L.getD 8 0,L.getD 9 0,L.getD 10 0,L.getD 11 0,L.getD 12 0,L.getD 13 0,L.getD 14 0,L.getD 15 0,L.getD 16 0,L.getD 17 0,L.getD 18 0,L.getD 19 0,L.getD 20 0,L.getD 21 0⟩
theorem q4y (k:qb):(toL k).length=22:=rfl
theorem zgd (k:qb):qb.rep.cells k=qdu (toL k):=rfl
theorem zin {L:List Int} (h:L.length=22):toL (ofL L)=L:=by
 refine List.ext_getElem? λi=>?_;by_cases hi:i<22
 ·have e:∀j,j<22->L[j]?=some (L.getD j 0):=λj hj=>by rw [List.getD_eq_getElem?_getD,List.getElem?_eq_getElem (by omega)];rfl
  rw [e i hi];have:i=0\/i=1\/i=2\/i=3\/i=4\/i=5\/i=6\/i=7\/i=8\/i=9\/i=10\/i=11\/i=12\/i=13\/i=14\/i=15\/i=16\/i=17\/i=18\/i=19\/i=20\/i=21:=by omega
  rcases this with rfl | rfl | rfl | rfl | rfl | rfl | rfl | rfl | rfl | rfl | rfl | rfl | rfl | rfl | rfl | rfl | rfl | rfl | rfl | rfl | rfl | rfl<;>rfl
 ·rw [List.getElem?_eq_none (by rw [q4y];omega),List.getElem?_eq_none (by omega)]
theorem qs7 {L:List Int} (h:L.length=22):qb.rep.cells (ofL L)=qdu L:=by rw [zgd,zin h]
theorem qyz:∀(L:List Int) (i j:Nat) (v:Int),(qla i L).set j (q2x (i+j) v)=qla i (L.set j v)
 | [],i,j,v=>rfl
 | x::r,i,0,v=>rfl
 | x::r,i,j+1,v=>by
  rw [qla,List.set_cons_succ,List.set_cons_succ,qla,show i+(j+1)=i+1+j by omega,qyz r (i+1) j v]
theorem ya (L:List Int):(qdu L).length=L.length:=by
 have:∀(L:List Int) (i:Nat),(qla i L).length=L.length:=by
  intro L
  induction L with
  | nil=>intro i;rfl
  | cons x r ih=>intro i;rw [qla,length_cons,ih,length_cons]
 exact this L 0
structure KM (w:World) (g:Nat) (L:List Int):Prop where
 blk:Blk w g qV (qdu L)
 len:L.length=22
theorem zbj {P:UInt8->Prop} (h:∀n,n<256->P (UInt8.ofNat n)) (c:UInt8):P c:=by
 have:=h c.toNat c.toNat_lt
 rwa [UInt8.ofNat_toNat] at this
theorem qxu (c:UInt8):indexByte qdz c<0\/∃j:Nat,indexByte qdz c=j/\j<4/\qgo c=some j:=by
 refine zbj (P:=λc=>indexByte qdz c<0\/∃j:Nat,indexByte qdz c=j/\j<4/\qgo c=some j) (λn hn=>?_) c;by_cases h:indexByte qdz (UInt8.ofNat n)<0
 ·exact .inl h
 ·refine .inr ⟨(indexByte qdz (UInt8.ofNat n)).toNat,by omega,?_,?_⟩
  ·have:∀n,n<256->indexByte qdz (UInt8.ofNat n)<4:=by decide +kernel
   have:=this n hn;omega
  ·unfold qgo;rw [if_neg (by omega)]
theorem q3c (c:UInt8):indexByte qny c<0\/∃j:Nat,indexByte qny c=j/\j<17/\qsq c=some (ql3 j):=by
 refine zbj (P:=λc=>indexByte qny c<0\/∃j:Nat,indexByte qny c=j/\j<17/\qsq c=some (ql3 j)) (λn hn=>?_) c;by_cases h:indexByte qny (UInt8.ofNat n)<0
 ·exact .inl h
 ·refine .inr ⟨(indexByte qny (UInt8.ofNat n)).toNat,by omega,?_,?_⟩
  ·have:∀n,n<256->indexByte qny (UInt8.ofNat n)<17:=by decide +kernel
   have:=this n hn;omega
  ·unfold qsq;rw [if_neg (by omega)]
section
variable {w:World} {g:Nat}
theorem q0d (c:UInt8) {i:Int} (hi:i=c.toNat) {K:Option Addr->Ub} (hK:∀w',Uc w w'->K ((qgo c).map λj=>⟨g,j,none⟩) w'):Qx (some ⟨g,0,none⟩) i w K:=by
 refine qmv _ _ ?_;refine qig (bs:=qdz) hi ?_;rcases qxu c with h | ⟨j,hj,hlt,hs⟩
 ·refine cT (by simpa using h) ?_;have:=hK w (Below.refl _ _);unfold qgo at this
  rwa [if_pos h] at this
 ·rw [hj];refine cF (by simp) (jQ (jQ (jQ (jQ ?_))));refine nwb λw2 hb hB hs2=>⟨⟨by omega,by omega⟩,?_⟩;have hK':=hK w2 ((Below.refl _ w).drew.trans hB);rw [hs] at hK';refine qK (x:=some ⟨g,j,none⟩) ?_ hK';rw [mul_one,toNat_natCast,qH,zero_add];have:j=0\/j=1\/j=2\/j=3:=by omega
  rcases this with rfl | rfl | rfl | rfl<;>exact hb.cell _ (by simp [qH])
theorem qqp (c:UInt8) {i:Int} (hi:i=c.toNat) {K:Option Addr->Ub} (hK:∀w',Uc w w'->K ((qsq c).map λj=>⟨g,j,none⟩) w'):yf (some ⟨g,0,none⟩) i w K:=by
 refine qjo _ _ ?_;refine qig (bs:=qny) hi ?_;rcases q3c c with h | ⟨j,hj,hlt,hs⟩
 ·refine cT (by simpa using h) ?_;have:=hK w (Below.refl _ _);unfold qsq at this
  rwa [if_pos h] at this
 ·rw [hj];refine cF (by simp) ?_;refine jQ (jQ (jQ (jQ (jQ (jQ (jQ (jQ (jQ (jQ (jQ (jQ (jQ (jQ (jQ (jQ (jQ ?_))))))))))))))));refine nwb λw2 hb hB hs2=>⟨⟨by omega,by omega⟩,?_⟩;have hK':=hK w2 ((Below.refl _ w).drew.trans hB);rw [hs] at hK';refine qK (x:=some ⟨g,ql3 j,none⟩) ?_ hK';rw [mul_one,toNat_natCast,qH,zero_add];have:j=0\/j=1\/j=2\/j=3\/j=4\/j=5\/j=6\/j=7\/j=8\/j=9\/j=10\/j=11\/j=12\/j=13\/j=14\/j=15\/j=16:=by omega
  rcases this with rfl | rfl | rfl | rfl | rfl | rfl | rfl | rfl | rfl | rfl | rfl | rfl | rfl | rfl | rfl | rfl | rfl<;>exact hb.cell _ (by simp [qH,ql3])
theorem znf {b:UInt8} (n:Nat) (hn:n<256):decide ((b.toNat:Int)>=(n:Int))=decide (UInt8.ofNat n<=b):=by
 have:(UInt8.ofNat n).toNat=n:=by simp;omega
 by_cases h:n<=b.toNat
 ·rw [dTq (by omega),dTq (by show (UInt8.ofNat n).toNat<=b.toNat;omega)]
 ·rw [dFq (by omega),dFq (by show ¬(UInt8.ofNat n).toNat<=b.toNat;omega)]
theorem znn {b:UInt8} (n:Nat) (hn:n<256):decide ((b.toNat:Int)<=(n:Int))=decide (b<=UInt8.ofNat n):=by
 have:(UInt8.ofNat n).toNat=n:=by simp;omega
 by_cases h:b.toNat<=n
 ·rw [dTq (by omega),dTq (by show b.toNat<=(UInt8.ofNat n).toNat;omega)]
 ·rw [dFq (by omega),dFq (by show ¬b.toNat<=(UInt8.ofNat n).toNat;omega)]
theorem q3t (b:UInt8) {i:Int} (hi:i=b.toNat) {K:Bool->Ub} (hK:K (zkh b) w):qbu i w K:=by
 subst hi;refine qrx _ ?_;unfold zkh at hK;have e1:decide ((b.toNat:Int)>=33)=decide ((33:UInt8)<=b):=znf 33 (by omega);have e2:decide ((b.toNat:Int)<=126)=decide (b<=(126:UInt8)):=znn 126 (by omega);refine cO (λh=>?_) λh=>?_
 ·rw [e2];rw [e1] at h;rw [show decide ((33:UInt8)<=b)=true from h] at hK;exact hK
 ·rw [e1] at h;rw [show decide ((33:UInt8)<=b)=false from h] at hK;exact hK
theorem zfl {b:UInt8} (h:¬(b<48\/57<b)):i64.wrap (IntKind.u8.wrap ((b.toNat:Int)-48))=((b.toNat-48:Nat):Int)/\b.toNat-48<10:=by
 have h1:48<=b.toNat:=by
  have:¬b.toNat<48:=λhh=>h (.inl (show b.toNat<(48:UInt8).toNat from hh));omega
 have h2:b.toNat<=57:=by
  have:¬57<b.toNat:=λhh=>h (.inr (show (57:UInt8).toNat<b.toNat from hh));omega
 rw [show ((b.toNat:Int)-48)=((b.toNat-48:Nat):Int) by omega,xk .u8 (by show _<2^8;omega),xk .i64 (by show _<2^63;omega)];exact ⟨rfl,by omega⟩
theorem qo9 (v:List UInt8) {K:Int->Bool->Ub} (hK:∀(n:Nat) ok,n<10000000000->(ok=true->Vn v=some n)->(ok=false->Vn v=none)->K n ok w):qdg (ze v) w K:=by
 refine qxo _ ?_;refine jpO λJ hJ=>?_;have hno:Vn v=none->K 0 false w:=λh=>hK 0 false (by omega) (λe=>by cases e) λ_=>h;refine cO (λh=>hno ?_) λh=>?_
 ·rw [vR] at h;have:v=[]:=by simpa [ByteArray.toList_eq] using h
  unfold Vn;rw [if_pos (.inl this)]
 have hne:v≠[]:=by
  rw [vR] at h;simpa [ByteArray.toList_eq] using h
 rw [zo];refine cO (λh=>hno ?_) λh10=>?_
 ·have h:(10:Int)<v.length:=oTq h;unfold Vn;rw [if_pos (.inr (by omega))]
 have h10:=oFq h10;have hlen:v.length<=10:=by omega
 have hread:Vn v=(qzf 0 v).bind λn=>if n<=4294967295 then some n else none:=by unfold Vn;rw [if_neg (by intro hh;rcases hh with hh | hh;exact hne hh;omega)]
 refine hJ _ _ ?_;refine lpR (λ(s:Int×Int×Unit) w2=>w2=w/\∃k m:Nat,s.2.1=k/\s.1=m/\k<=v.length/\m<10^k/\qzf 0 v=qzf m (v.drop k)) (λs=>v.length-s.2.1.toNat) ⟨rfl,0,0,rfl,rfl,zero_le _,by omega,rfl⟩ ?_;rintro ⟨a,b,u⟩ _ ⟨rfl,k,m,hb,ha,hk,hm,hr⟩ I hI;dsimp only at ha hb ⊢;subst ha hb;have hp10:∀j,j<=10->10^j<=10000000000:=λj hj=>Nat.pow_le_pow_right (by omega) hj;by_cases hlt:k<v.length
 ·refine cT (by simp [zo];omega) (jpO λJ3 hJ3=>?_);have hx:v[k]?=some v[k]:=by simp [hlt]
  rw [List.drop_eq_getElem_cons hlt,qzf] at hr;refine qo6 rfl hx ?_;have hnone:(v[k]<48\/57<v[k])->Vn v=none:=λhh=>by rw [hread,hr,if_pos hh];rfl
  refine cO (λh=>hno (hnone (.inl ?_))) λh1=>?_
  ·have h:=oTq h;show (v[k]).toNat<(48:UInt8).toNat;have:(48:UInt8).toNat=48:=rfl;omega
  refine qo6 rfl hx ?_;refine cO (λh=>hno (hnone (.inr ?_))) λh2=>?_
  ·have h:=oTq h;show (57:UInt8).toNat<(v[k]).toNat;have:(57:UInt8).toNat=57:=rfl;omega
  have h1:=oFq h1;have h2:=oFq h2;have hd:¬(v[k]<48\/57<v[k]):=by
   rintro (hh | hh)
   ·have:(v[k]).toNat<(48:UInt8).toNat:=hh;have:(48:UInt8).toNat=48:=rfl;omega
   ·have:(57:UInt8).toNat<(v[k]).toNat:=hh;have:(57:UInt8).toNat=57:=rfl;omega
  obtain ⟨hv1,hv2⟩:=zfl hd;rw [if_neg hd] at hr;refine hJ3 _ _ (qo6 rfl hx ?_);rw [hv1];have hb10:=hp10 (k+1) (by omega);have hmk:m<10^k:=hm;have hps:10^(k+1)=10^k*10:=Nat.pow_succ _ _;rw [show (10:Int)*(m:Int)=((10*m:Nat):Int) by omega,xk .i64 (by show _<2^63;omega),show ((10*m:Nat):Int)+((v[k].toNat-48:Nat):Int)=((10*m+(v[k].toNat-48):Nat):Int) by omega,xk .i64 (by show _<2^63;omega),i64_in (by omega)];exact hI _ _ ⟨rfl,k+1,_,by simp,rfl,by omega,by omega,hr⟩ (by simp;omega)
 ·refine cF (by simp [zo];omega) ?_;obtain rfl:k=v.length:=by omega
  rw [List.drop_of_length_le (le_refl _),qzf] at hr;have:=hp10 v.length hlen;refine hK m _ (by omega) (λh=>?_) λh=>?_
  ·have h:(m:Int)<=4294967295:=oTq h;rw [hread,hr,Option.bind_some,if_pos (by omega)]
  ·have h:¬(m:Int)<=4294967295:=oFq h;rw [hread,hr,Option.bind_some,if_neg (by omega)]
theorem q9j (v:List UInt8) (c:UInt8) {K:Bool->Ub} (hK:K (decide (v.head?=some c)) w):xc (ze v) (ze [c]) w K:=by
 refine Zk _ _ ?_;cases v with
 | nil=>exact cF (by simp [zo]) (by simpa using hK)
 | cons b r =>
  refine cT (by simp [zo];omega) ?_;refine q0a (h:=1) (l:=0) (.inl ⟨rfl,rfl⟩) (.inr (by simp [zo])) (by omega) (by simp) ?_;have e:((ze (((b::r).take 1).drop 0)).toList==(ze [c]).toList)=decide ((b::r).head?=some c):=by
   rw [vR,vR];by_cases h:b=c
   ·subst h;simp
   ·rw [dFq (by simpa using h)];simpa using h
  rw [e];exact hK
theorem q0t (v:List UInt8) (c:UInt8) {K:ByteArray->Bool->Ub} (h1:∀r,v=c::r->K (ze r) true w) (h0:(∀r,v≠c::r)->K (ze v) false w):QU (ze v) (ze [c]) w K:=by
 refine qgv _ _ ?_;refine Zl _ _ ?_;refine q9j v c ?_;cases v with
 | nil=>exact cT (by simp) (h0 λr=>by simp)
 | cons b r =>
  by_cases h:b=c
  ·subst h;refine cF (by simp) (q0a (l:=1) (h:=(b::r).length) (.inr (by simp [zo])) (.inl ⟨rfl,rfl⟩) (by simp) (le_refl _) ?_);simpa using h1 r rfl
  ·exact cT (by simpa using h) (h0 λr' e=>h (by cases e;rfl))
theorem q9y (v:List UInt8) {K:Int->Bool->Ub} (hK:∀(n:Int) ok,(ok=true->qj4 v=some n)->(ok=false->qj4 v=none)->K n ok w):qg1 (ze v) w K:=by
 refine qwa _ ?_;have key:∀(r:List UInt8) (f:Nat->Int) (below:Bool),(qj4 v=(Vn r).bind λn=>if zfi (f n) then some (f n) else none)->∀(n:Nat) (ok:Bool),(ok=true->Vn r=some n)->(ok=false->Vn r=none) ->
   (cond ok (cond (decide (f n>=((-1073741824):Int))) (K (f n) (decide (f n<(1073741824:Int))) w) (K (f n) false w)) (K (f n) false w)):=by
  intro r f below hd n ok h1 h0;refine cO (λhok=>?_) λhok=>?_
  ·have hr:=h1 hok;rw [hr,Option.bind_some] at hd;unfold zfi at hd;refine cO (λha=>?_) λha=>?_
   ·have ha:=oTq ha;refine hK _ _ (λhb=>?_) λhb=>?_
    ·have hb:=oTq hb;rw [hd,dTq (by omega),dTq (by omega)];rfl
    ·have hb:=oFq hb;rw [hd,dFq (p:=f n<1073741824) (by omega),Bool.and_false];rfl
   ·have ha:=oFq ha;refine hK _ _ (λhb=>by cases hb) λ_=>?_;rw [hd,dFq (p:=-1073741824<=f n) (by omega),Bool.false_and];rfl
  ·have hr:=h0 hok;rw [hr] at hd;exact hK _ _ (λhb=>by cases hb) λ_=>hd
 refine q0t v 45 (λr hv=>?_) λhv=>?_
 ·refine qo9 r λn ok hn h1 h0=>jpO λJ hJ=>cT rfl (hJ _ _ ?_);rw [i64_in (by omega),show (0:Int)-(n:Int)=-(n:Int) by omega];exact key r (λn=>-(n:Int)) true (by rw [hv];rfl) n ok h1 h0
 ·refine qo9 v λn ok hn h1 h0=>jpO λJ hJ=>cF rfl (hJ _ _ ?_);refine key v (λn=>(n:Int)) false ?_ n ok h1 h0;unfold qj4;split
  ·rename_i r;exact absurd rfl (hv r)
  ·rfl
end
theorem q99 (c:UInt8):(decide (jZ .or .u8 (c.toNat:Int) 32>=97) && decide (jZ .or .u8 (c.toNat:Int) 32<=122))=qes c:=by
 refine zbj (P:=λc=>(decide (jZ .or .u8 (c.toNat:Int) 32>=97) && decide (jZ .or .u8 (c.toNat:Int) 32<=122))=qes c) (λn hn=>?_) c;have e:jZ .or .u8 (((UInt8.ofNat n).toNat:Nat):Int) ((32:Nat):Int)=(((UInt8.ofNat n).toNat ||| 32:Nat):Int):=zc1 .u8 (by show _<2^8;exact (UInt8.ofNat n).toNat_lt) (by decide);have e':jZ .or .u8 (((UInt8.ofNat n).toNat:Nat):Int) 32=(((UInt8.ofNat n).toNat ||| 32:Nat):Int):=e;rw [e'];have key:∀n,n<256->(decide ((((UInt8.ofNat n).toNat ||| 32:Nat):Int)>=97) && decide ((((UInt8.ofNat n).toNat ||| 32:Nat):Int)<=122))=qes (UInt8.ofNat n):=by decide +kernel
 exact key n hn
section
variable {w:World} {g:Nat} {L:List Int}
theorem KM.ext {w':World} (h:KM w g L) (hb:Uc w w'):KM w' g L:=⟨h.blk.ext hb,h.len⟩
theorem KM.st (h:KM w g L) {j:Nat} (hj:j<22) {v:Int} {u:Value} (hu:u=q2x j v) {K:Ub} (hK:∀w',KM w' g (L.set j v)->Chg (λk=>k=g) w w'->w'.heap.size=w.heap.size->K w'):stK ⟨g,j,none⟩ [u] w K:=by
 subst hu;refine qB h.blk (by rw [ya,h.len,List.length_singleton];omega) λw' hb hg hs=>hK w' ⟨?_,by rw [List.length_set];exact h.len⟩ (Go.Vc.Chg.gg hg) hs;have:putL (qdu L) j [q2x j v]=qdu (L.set j v):=by
  have:=qyz L 0 j v;rw [zero_add] at this;exact this
 rwa [this] at hb
theorem qw9 {α β:Type} (o:Option α) (f:α->β):(o.map f).isNone=o.isNone:=by cases o<;>rfl
theorem zdz {j:Nat} (h:j<17):ql3 j<22/\¬ql3 j<4:=by unfold ql3;split<;>omega
theorem KM.drew (h:KM w g L):KM w.drew g L:=⟨h.blk.drew,h.len⟩
theorem zg8 (h:KM w g L) (s:List UInt8) {K:Bool->Ub} (hK:∀b w' L',KM w' g L'->Chg (λk=>k=g) w w'->(b=true->qnl L s=some L')->(b=false->qnl L s=none)->K b w'):VR (some ⟨g,0,none⟩) (ze s) w K:=by
 refine qoy _ _ ?_;have hno:∀{w':World} {L':List Int},KM w' g L'->Chg (λk=>k=g) w w'->qnl L s=none->K false w':=λhk hc hn=>hK false _ _ hk hc (λe=>by cases e) λ_=>hn;have hyes:∀{w':World} {L':List Int},KM w' g L'->Chg (λk=>k=g) w w'->qnl L s=some L'->K true w':=λhk hc hn=>hK true _ _ hk hc (λ_=>hn) λe=>by cases e
 have c0:Chg (λk=>k=g) w w:=Chg.refl _ _;refine jpO λJ1 hJ1=>?_;rcases s with _ | ⟨c,_ | ⟨e,v⟩⟩
 ·exact cT (by simp [zo]) (hno h c0 rfl)
 ·exact cT (by simp [zo]) (hno h c0 rfl)
 ·refine cF (by simp [zo];omega) ?_;refine qo6 (k:=1) (b:=e) rfl rfl ?_;by_cases he:e=61
  case neg =>
   refine cT ?_ (hno h c0 ?_)
   ·have:e.toNat≠61:=λhh=>he (UInt8.toNat_inj.1 hh);simp;omega
   ·unfold qnl;dsimp only;rw [if_pos (.inl he)]
  subst he;refine cF (by decide) (hJ1 _ _ ?_);refine qo6 (k:=0) (b:=c) rfl rfl ?_;refine q0a (l:=2) (h:=(c::61::v).length) (.inr rfl) (.inl ⟨rfl,rfl⟩) (by simp) (le_refl _) ?_;rw [take_length];show qX _ _;have hv:(c::(61:UInt8)::v).drop 2=v:=rfl;rw [hv];have hd:=h.drew;have cd:Chg (λk=>k=g) w w.drew:=Chg.of_ext (Below.refl _ w).drew;refine jpO λJ2 hJ2=>?_;have hj2:J2 (qes c,()) w.drew->cond (decide (jZ .or .u8 (c.toNat:Int) (32:Int)>=(97:Int))) (J2 ((decide (jZ .or .u8 (c.toNat:Int) (32:Int)<=(122:Int))),()) w.drew) (J2 (false,()) w.drew):=by
   intro hj;rw [<-q99] at hj;refine cO (λha=>?_) λha=>?_
   ·rw [ha,Bool.true_and] at hj;exact hj
   ·rw [ha,Bool.false_and] at hj;exact hj
  refine hj2 (hJ2 _ _ ?_);dsimp only;cases hl:qes c with
  | false =>
   refine cT rfl (hno hd cd ?_);unfold qnl;dsimp only;rw [if_pos (.inr hl)]
  | true =>
   have hone:qnl L (c::61::v)=if c=122 then (qj4 v).map λm=>L.set 20 m
     else match qgo c with
      | some j=>za6 L j v
      | none=>match qsq c with
       | some j=>(Vn v).map λn=>L.set j (n:Int)
       | none=>some L:=by
    unfold qnl;dsimp only;rw [if_neg (by rw [hl];simp)]
    all_goals rfl
   refine cF rfl ?_;by_cases hz:c=122
   ·subst hz;rw [if_pos rfl] at hone;refine cT (by decide) (q9y v λn ok h1 h0=>jQ ?_);rw [qH,zero_add];refine hd.st (j:=20) (by omega) (v:=n) rfl λw4 hk4 hc4 hs4=>?_;have hc:=cd.trans hc4 λi _ hi=>hi;cases ok with
    | true=>exact hyes hk4 hc (by rw [hone,h1 rfl];rfl)
    | false=>exact hno hk4 hc (by rw [hone,h0 rfl];rfl)
   rw [if_neg hz] at hone;refine cF ?_ ?_
   ·have:c.toNat≠122:=λhh=>hz (UInt8.toNat_inj.1 hh);simp;omega
   refine q0d c rfl λw5 hB5=>?_;rw [qw9];have h5:=hd.ext hB5;have c5:=cd.trans (Chg.of_ext (S:=λk=>k=g) hB5) λi _ hi=>hi;cases hs:qgo c with
   | some j =>
    rw [hs] at hone;have hj4:j<4:=by
     rcases qxu c with hh | ⟨j',_,hh,e⟩
     ·unfold qgo at hs;rw [if_pos hh] at hs;cases hs
     ·rw [hs] at e;cases e;exact hh
    refine cT rfl (jpO λJ3 hJ3=>?_);rcases v with _ | ⟨b,_ | ⟨b',v'⟩⟩
    ·exact cF (by simp [zo]) (hJ3 _ _ (cF rfl (hno h5 c5 hone)))
    rotate_left
    ·exact cF (by simp [zo];omega) (hJ3 _ _ (cF rfl (hno h5 c5 hone)))
    ·refine cT (by simp [zo]) (qo6 (k:=0) (b:=b) rfl rfl (q3t b rfl (hJ3 _ _ ?_)));cases hvb:zkh b with
     | false =>
      refine cF rfl (hno h5 c5 ?_);rw [hone];show za6 L j [b]=_;unfold za6;dsimp only;rw [hvb];rfl
     | true =>
      refine cT rfl (qo6 (k:=0) (b:=b) rfl rfl ?_);refine q0d c rfl λw7 hB7=>?_;rw [hs];have h7:=h5.drew.ext hB7;have c7:=(c5.trans (Chg.of_ext (S:=λk=>k=g) (Below.refl _ w5).drew) λi _ hi=>hi).trans (Chg.of_ext (S:=λk=>k=g) hB7) λi _ hi=>hi;refine jQ (h7.st (j:=j) (by omega) (v:=(b.toNat:Int)) (by unfold q2x;rw [if_pos hj4]) λw8 hk8 hc8 hs8=>?_);refine hyes hk8 (c7.trans hc8 λi _ hi=>hi) ?_;rw [hone];show za6 L j [b]=_;unfold za6;dsimp only;rw [hvb];rfl
   | none =>
    rw [hs] at hone;refine cF rfl ?_;refine qqp c rfl λw10 hB10=>?_;rw [qw9];have h10:=h5.ext hB10;have c10:=c5.trans (Chg.of_ext (S:=λk=>k=g) hB10) λi _ hi=>hi;cases hn:qsq c with
    | none =>
     rw [hn] at hone;exact cF rfl (hyes h10 c10 hone)
    | some j =>
     rw [hn] at hone;have hj:j<22/\¬j<4:=by
      rcases q3c c with hh | ⟨j',_,hh,e⟩
      ·unfold qsq at hn;rw [if_pos hh] at hn;cases hn
      ·rw [hn] at e;cases e;exact zdz hh
     refine cT rfl (qqp c rfl λw11 hB11=>?_);rw [hn];have h11:=h10.ext hB11;have c11:=c10.trans (Chg.of_ext (S:=λk=>k=g) hB11) λi _ hi=>hi;refine qo9 v λn ok hnn h1 h0=>jQ (h11.st (j:=j) hj.1 (v:=(n:Int)) (by unfold q2x;rw [if_neg hj.2]) λw13 hk13 hc13 hs13=>?_);have hc:=c11.trans hc13 λi _ hi=>hi;cases ok with
     | true=>exact hyes hk13 hc (by rw [hone];dsimp only;rw [h1 rfl];rfl)
     | false=>exact hno hk13 hc (by rw [hone];dsimp only;rw [h0 rfl];rfl)
end
theorem Z4:∀(s:List UInt8),(indexByte s 44=-1/\zT s=[s]/\countByte s 44=0)\/∃(x r:List UInt8),s=x++44::r/\indexByte s 44=x.length/\zT s=x::zT r/\countByte s 44=countByte r 44+1
 | []=>.inl ⟨rfl,rfl,rfl⟩
 | b::s=>by
  by_cases hb:b=44
  ·subst hb;refine .inr ⟨[],s,rfl,by simp [indexByte],by simp [zT],by simp [countByte]⟩
  ·rcases Z4 s with ⟨h1,h2,h3⟩ | ⟨x,r,h0,h1,h2,h3⟩
   ·refine .inl ⟨by simp [indexByte,hb,h1],by rw [zT,if_neg hb,h2],?_⟩;unfold countByte at h3 ⊢;rw [List.count_cons_of_ne hb];exact h3
   ·refine .inr ⟨b::x,r,by rw [h0];rfl,?_,by rw [zT,if_neg hb,h2],?_⟩
    ·have:¬(x.length:Int)=-1:=by omega
     simp [indexByte,hb,h1,this]
    ·unfold countByte at h3 ⊢;rw [List.count_cons_of_ne hb];exact h3
theorem qx8 (s:List UInt8):(zT s).length=countByte s 44+1:=by
 have:∀n (s:List UInt8),s.length=n->(zT s).length=countByte s 44+1:=by
  intro n
  induction n using Nat.strongRecOn with
  | _ n ih =>
   intro s hs;rcases Z4 s with ⟨h1,h2,h3⟩ | ⟨x,r,h0,h1,h2,h3⟩
   ·rw [h2,h3];rfl
   ·rw [h2,h3,length_cons,ih r.length (by rw [<-hs,h0];simp;omega) r rfl]
 exact this _ s rfl
section
variable {w:World}
theorem zef (s:List UInt8) (c:UInt8) {K:Int->Ub} (hK:K (indexByte s c) w):qim (ze s) (ze [c]) w K:=by
 refine Calls.mono (Tryz.strings_Index_one (ze s) c w) ?_;rintro e w' ⟨rfl,rfl⟩;exact ⟨_,rfl,hK⟩
theorem zfy (s:List UInt8) (c:UInt8) {K:Int->Ub} (hK:K (countByte s c) w):qis (ze s) (ze [c]) w K:=by
 refine Calls.mono (Tryz.strings_Count_one (ze s) c w) ?_;rintro e w' ⟨rfl,rfl⟩;exact ⟨_,rfl,hK⟩
theorem zaf (s:List UInt8) (hl:s.length<=1000000) {K:Slc->Ub} (hK:∀q w',Rd ki w' q ((zT s).map ze)->Uc w w'->(∀k,q.blk=some k->w.heap.size<=k)->K q w'):VL (ze s) (ze [44]) w K:=by
 refine qo2 _ _ ?_;refine qi0 _ _ _ _ ?_;refine cF (by decide) (cF (by rw [vR];simp [ByteArray.toList_eq]) ?_);refine jpO λJ1 hJ1=>?_;refine cT (by decide) (zfy s 44 (hJ1 _ _ ?_));dsimp only;have hn:=qx8 s;have hcle:countByte s 44<=s.length:=List.count_le_length;obtain ⟨n,hnn⟩:∃n,countByte s 44+1=n:=⟨_,rfl⟩;rw [i64_in (x:=((countByte s 44:Nat):Int)+1) (by omega),zo,i64_in (x:=((s.length:Nat):Int)+1) (by omega),show ((countByte s 44:Nat):Int)+1=(n:Int) by omega];have emin:(if ((s.length:Nat):Int)+1<(n:Int) then ((s.length:Nat):Int)+1 else (n:Int))=(n:Int):=if_neg (by omega);rw [emin];refine q5d (E:=ki) qgh (x0:=ByteArray.empty) (by kernel_rfl) (n:=n) rfl rfl (by rw [qqy];omega) (by unfold maxLen;omega) λw3 ho hB3=>?_;rw [i64_in (x:=(n:Int)-1) (by omega)];generalize hq:(⟨some ⟨w.heap.size,0,none⟩,n,n⟩:Slc)=q at ho ⊢;refine jpO λJ2 hJ2=>?_;have hqa:q.a=some ⟨w.heap.size,0,none⟩:=by rw [<-hq]
 have hqn:q.n=n:=by rw [<-hq]
 have hqc:q.c=n:=by rw [<-hq]
 refine lpR (λ(st:ByteArray×Int×Unit) w6=>∃(k:Nat) (rest:List UInt8),st.2.1=k/\st.1=ze rest/\k<n/\countByte rest 44+1+k=n/\rest.length<=s.length/\Go.Vc.Own ki w6 w.heap.size q (((zT s).map ze).take k++List.replicate (n-k) ByteArray.empty)/\(zT s).drop k=zT rest/\Uc w w6)
  (λst=>n-st.2.1.toNat) ⟨0,s,rfl,rfl,by omega,by omega,le_refl _,by simpa using ho,rfl,hB3⟩ ?_
 rintro ⟨t,i,u⟩ w6 ⟨k,rest,hi,ht,hk,hcnt,hrl,ho6,hdrop,hB6⟩ I hI;dsimp only at hi ht ⊢;subst hi ht;have hsome:=ho6.rd.some_ (by simp;omega);have hlen6:(((zT s).map ze).take k++List.replicate (n-k) ByteArray.empty).length=n:=by simp;omega
 have hset:∀(x:List UInt8) (r:List (List UInt8)),(zT s).drop k=x::r->(((zT s).map ze).take k++List.replicate (n-k) ByteArray.empty).set k (ze x)=((zT s).map ze).take (k+1)++List.replicate (n-(k+1)) ByteArray.empty:=by
  intro x r hx;have hl2:(((zT s).map ze).take k).length=k:=by simp;omega
  rw [List.set_append_right _ _ (by omega),hl2,Nat.sub_self,show n-k=(n-(k+1))+1 by omega,List.replicate_succ,List.set_cons_zero,take_add_one,List.append_assoc];congr 1;have:((zT s).map ze)[k]?=some (ze x):=by
   rw [List.getElem?_map];have:(zT s)[k]?=some x:=by
    have:=congrArg (λl=>l[0]?) hx;simpa using this
   rw [this];rfl
  rw [this];rfl
 have hixx:(((zT s).map ze).take k++List.replicate (n-k) ByteArray.empty)[k]?=some ByteArray.empty:=by
  have hl2:(((zT s).map ze).take k).length=k:=by simp;omega
  rw [List.getElem?_append_right (by omega),hl2,Nat.sub_self,List.getElem?_replicate,if_pos (by omega)]
 by_cases hlt:k+1<n
 ·refine cT (by simp;omega) (zef rest 44 ?_);rcases Z4 rest with ⟨h1,h2,h3⟩ | ⟨x,r,h0,h1,h2,h3⟩
  ·omega
  ·have hxl:x.length+1+r.length=rest.length:=by rw [h0];simp;omega
   rw [h1];refine cF (by simp) ?_;rw [i64_in (by omega)];refine q0a (l:=0) (h:=x.length) (.inl ⟨rfl,rfl⟩) (.inr (by simp)) (by omega) (by rw [h0];simp) ?_;have ex:(rest.take x.length).drop 0=x:=by rw [h0];simp
   rw [ex];refine q32 (by rw [hqa];rfl) (by omega) (by omega) ?_;rw [toNat_natCast];refine ho6.st0 (E:=ki) (i:=k) (x:=ByteArray.empty) (y:=ze x) hixx rfl λw8 ho8 hg8 hs8=>?_;rw [hset x (zT r) (by rw [hdrop,h2])] at ho8;refine q0a (l:=x.length+1) (h:=rest.length) (.inr ?_) (.inl ⟨rfl,rfl⟩) (by rw [h0];simp) (le_refl _) ?_
   ·rw [zo,show (([44]:List UInt8).length:Int)=1 from rfl,i64_in (by omega)];simp
   have er:(rest.take rest.length).drop (x.length+1)=r:=by rw [take_length,h0];simp
   rw [er,i64_in (by omega)];have hrlen:r.length<rest.length:=by rw [h0];simp;omega
   have hqb:q.blk=some w.heap.size:=by unfold Slc.blk;rw [hqa];rfl
   refine hI _ _ ⟨k+1,r,by simp,rfl,hlt,by omega,by omega,ho8,?_,hB6.grown hg8 hB6.size λj hj=>by rw [hqb] at hj;cases hj;exact le_refl _⟩ (by simp;omega);have:(zT s).drop (k+1)=((zT s).drop k).drop 1:=by rw [List.drop_drop]
   rw [this,hdrop,h2];rfl
 ·obtain rfl:n=k+1:=by omega
  refine cF (by simp) (hJ2 _ _ ?_);dsimp only;have hlast:zT rest=[rest]:=by
   rcases Z4 rest with ⟨h1,h2,h3⟩ | ⟨x,r,h0,h1,h2,h3⟩
   ·exact h2
   ·omega
  refine q32 (by rw [hqa];rfl) (by omega) (by omega) ?_;rw [toNat_natCast];refine ho6.st0 (E:=ki) (i:=k) (x:=ByteArray.empty) (y:=ze rest) hixx rfl λw8 ho8 hg8 hs8=>?_;rw [hset rest [] (by rw [hdrop,hlast]),Nat.sub_self,List.replicate_zero,append_nil,take_of_length_le (by simp;omega)] at ho8;rw [i64_in (by omega)];have hqb:q.blk=some w.heap.size:=by unfold Slc.blk;rw [hqa];rfl
  have hl8:((zT s).map ze).length=k+1:=by simp;omega
  refine ho8.rd.slK (E:=ki) (k:=1) (l:=0) (m:=k+1) rfl (.inl ⟨rfl,rfl⟩) (.inr (by simp)) (by omega) (by omega) λhrd=>?_;rw [take_of_length_le (by omega),drop_zero] at hrd;refine hK _ w8 hrd (hB6.grown hg8 hB6.size λj hj=>by rw [hqb] at hj;cases hj;exact le_refl _) λj hj=>?_;obtain ⟨a,ha,rfl⟩:=slk.1 hj;obtain ⟨b,hb,e⟩:=Go.Vc.cut_block ha;rw [hqa] at hb;cases hb;rw [e];exact le_refl _
end
theorem q73:qbe.length=22:=rfl
section
variable {w:World}
theorem q7m {K:qb->Ub} (hK:∀w',Uc w w'->K (ofL QV) w'):qhf w K:=by
 refine qwd ?_;unfold qoo;refine nwb λw1 hb1 hB1 hs1=>?_;refine qB hb1 (by decide) λw2 hb2 hg2 hs2=>?_;have hb2:Blk w2 w.heap.size qV (qb.rep.cells (ofL QV)):=hb2;refine qy (x:=ofL QV) hb2.cells (hK w2 (hB1.grown hg2 (by omega) λk hk=>by cases hk;exact le_refl _))
theorem zb0 {b:Slc} {bs:List UInt8} (hrd:Rd qu w b bs) {K:qb->Int->Ub} (hK:∀w',Uc w w'->K (ofL (ZN bs).1) (ZN bs).2 w'):qhg b w K:=by
 refine qv2 _ ?_;have hn:=hrd.n;refine nwb λw1 hb1 hB1 hs1=>?_;have hb1:Blk w1 w.heap.size qV (qdu qbe):=hb1;refine q7m λw2 hB2=>?_;have hb2:=hb1.ext hB2;have s2:=hB2.size;refine jd (t:=qV) (vs:=qb.rep.cells (ofL QV)) rfl λw4 hb4 hB4 hs4=>?_;have hz4:KM w4 w.heap.size qbe:=⟨hb2.ext hB4,rfl⟩;have hk4:KM w4 w2.heap.size QV:=⟨hb4,rfl⟩;have hB14:Uc w w4:=(hB1.trans (hB2.mono (by omega))).trans (hB4.mono (by omega));have hend:∀{w5:World} {L:List Int} {vs:List Value} {e:Int},L.length=22->vs=qdu L->ZN bs=(L,e)->KM w5 w.heap.size qbe->Uc w w5 ->
   stK ⟨w.heap.size,0,none⟩ vs w5 λw6=>ldS qb.rep ⟨w.heap.size,0,none⟩ w6 λr=>K r e w6:=by
  intro w5 L vs e hl hvs hp hz hB5;subst hvs;refine qB hz.blk (by rw [ya,ya,hl,hz.len];omega) λw6 hb6 hg6 hs6=>?_;have e6:putL (qdu qbe) 0 (qdu L)=qb.rep.cells (ofL L):=by
   rw [qs7 hl];refine List.ext_getElem? λm=>?_;rw [VE _ _ 0 m (by rw [ya,ya,hl,q73];omega)];by_cases hm:m<22
   ·rw [if_pos (by rw [ya,hl];omega)];rfl
   ·rw [if_neg (by rw [ya,hl];omega),List.getElem?_eq_none (by rw [ya,q73];omega),List.getElem?_eq_none (by rw [ya,hl];omega)]
  rw [e6] at hb6;refine qy (x:=ofL L) hb6.cells ?_;have:=hK w6 (hB5.grown hg6 hB5.size λk hk=>by cases hk;exact le_refl _);rw [hp] at this;exact this
 refine cO (λh=>?_) λh=>?_
 ·have h:(512:Int)<b.n:=oTq h;exact hend (L:=qbe) rfl rfl (by unfold ZN;rw [if_pos (by omega)]) hz4 hB14
 have h:¬(512:Int)<b.n:=oFq h;refine cO (λh0=>?_) λh0=>?_
 ·have h0:(b.n:Int)=0:=by simpa using h0
  have hnil:bs=[]:=List.eq_nil_of_length_eq_zero (by omega);refine qy (x:=ofL QV) (hb4.cells) ?_;exact hend (L:=QV) rfl rfl (by unfold ZN;rw [if_neg (by omega),if_pos hnil]) hz4 hB14
 have h0:¬(b.n:Int)=0:=by simpa using h0
 have hne:bs≠[]:=λe=>by subst e;simp at hn;omega
 have hrd4:=hrd.ext hB14;refine ZD hrd4 (zaf bs (by omega) λq w8 hq hB8 hqb=>?_);have s4:=hB14.size;have hz8:=hz4.ext hB8;have hk8:=hk4.ext hB8;have hqn:=hq.n;rw [length_map] at hqn;have hfold:ZN bs=match (zT bs).foldlM qnl QV with | some k=>(k,0) | none=>(qbe,3):=by unfold ZN;rw [if_neg (by omega),if_neg hne];all_goals (cases List.foldlM qnl QV (zT bs)<;>rfl)
 have hlen:(zT bs).length<=1000:=by
  rw [qx8];have:countByte bs 44<=bs.length:=List.count_le_length;omega
 refine lpR (λ(s:Int×Unit) w9=>∃(k:Nat) (L:List Int),s.1=k/\k<=(zT bs).length/\KM w9 w2.heap.size L/\KM w9 w.heap.size qbe/\Rd ki w9 q ((zT bs).map ze)/\Uc w w9/\(zT bs).foldlM qnl QV=((zT bs).drop k).foldlM qnl L)
  (λs=>(zT bs).length-s.1.toNat) ⟨0,QV,rfl,zero_le _,hk8,hz8,hq,hB14.trans (hB8.mono (by omega)),rfl⟩ ?_
 rintro ⟨i,u⟩ w9 ⟨k,L,hi,hk,hk9,hz9,hq9,hB9,hf⟩ I hI;dsimp only at hi ⊢;subst hi;by_cases hlt:k<(zT bs).length
 ·refine cT (by simp;omega) ?_;refine hq9.ix (k:=1) rfl (by omega) (by simp;omega) λhcell=>?_;obtain ⟨x,hx,hx'⟩:=Go.Vc.get_of (xs:=(zT bs).map ze) (k:=k) (by simpa using hlt);rw [hx' _] at hcell;have hxe:x=ze (zT bs)[k]:=by
   rw [List.getElem?_map,List.getElem?_eq_getElem hlt] at hx;exact (Option.some.inj hx).symm
  refine qqz (x:=x) (by simpa using hcell 0 _ rfl) ?_;rw [hxe];rw [List.drop_eq_getElem_cons hlt,List.foldlM_cons] at hf;refine zg8 hk9 _ λok w10 L' hk10 hc10 h1 h0=>?_;have hne1:w.heap.size≠w2.heap.size:=by omega
  have hz10:KM w10 w.heap.size qbe:=⟨hz9.blk.chg hc10 hne1,rfl⟩;have hB10:Uc w w10:=hB9.trans (hc10.below hB9.size λi hi e=>by omega);cases ok with
  | false =>
   refine cT rfl (hend (L:=qbe) rfl rfl ?_ hz10 hB10);rw [hfold,hf,h0 rfl];rfl
  | true =>
   refine cF rfl ?_;rw [i64_in (by omega)];refine hI _ _ ⟨k+1,L',by simp,by omega,hk10,hz10,hq9.chg hc10 λa ha e=>?_,hB10,?_⟩ (by simp;omega)
   ·have:=hqb a.block (slk.2 ⟨a,ha,rfl⟩);have s4':=hB4.size;omega
   ·rw [hf,h1 rfl];rfl
 ·refine cF (by simp;omega) ?_;rw [List.drop_of_length_le (by omega)] at hf;have hc9:=hk9.blk.cells;rw [<-qs7 hk9.len] at hc9;refine qy (x:=ofL L) hc9 ?_;rw [qs7 hk9.len];exact hend (L:=L) hk9.len rfl (by rw [hfold,hf];rfl) hz9 hB9
end
theorem q2m (m:Nat):∀(l:List (List UInt8)),(∀x∈l,x.length<=m)->(qep l).length<=l.length*(m+1)
 | [],_=>by simp [zfj]
 | [x],h=>by
  have:=h x (by simp);rw [ze4];simp;omega
 | x::y::l,h=>by
  have h1:=h x (by simp);have h2:=q2m m (y::l) λz hz=>h z (by simp [hz]);have e:(x::y::l).length*(m+1)=(y::l).length*(m+1)+(m+1):=by rw [length_cons,Nat.succ_mul]
  rw [e,zbs x (y::l) (by simp),length_append,length_cons];omega
section
variable {w:World}
theorem zeu {base:Nat} {q:Slc} {l:List (List UInt8)} (hq:Go.Vc.Own ki w base q (l.map ze)) (hn:l.length<=100000) (hl:(qep l).length<=1000000) {K:ByteArray->Ub} (hK:∀w',Uc w w'->K (ze (qep l)) w'):qkz q (ze [44]) w K:=by
 have hlen:(l.map ze).map (·.data.toList)=l:=by
  rw [List.map_map]
  conv=>rhs;rw [<-List.map_id l]
  exact List.map_congr_left λx _=>rfl
 rcases hq.form with ⟨rfl,hz⟩ | ⟨g,cur,hs,hg,hb,h1,h2,h3,h4⟩
 ·have hnil:l=[]:=by simpa using hz
  subst hnil;refine Calls.mono (Tryz.strings_Join_none none 0 (ze [44]) w) ?_;rintro e w' ⟨rfl,rfl⟩;exact ⟨_,rfl,hK w' (Below.refl _ _)⟩
 ·have hc:Calls PG 387 #[.slice (some ⟨g,0,none⟩) (l.map ze).length q.c,.string (ze [44])] w λe w'=>e=.returned (.string ⟨(Lib.join ((l.map ze).map (·.data.toList)) [44]).toArray⟩)/\Uc w w' :=
   Tryz.strings_Join g 0 q.c (l.map ze) (ze [44]) w (λj x hx=>by
    have:=hq.rd.at_ j x hx 0 (.string x) rfl;rw [hs] at this;simpa [Slc.at_,qH,show ki.k=1 from rfl] using this) hb.lt (by simp;omega) (by omega) (by rw [hlen];show (qep l).length<=_;omega)
  rw [hs];refine Calls.mono hc ?_;rintro e w' ⟨rfl,hB⟩;rw [hlen];exact ⟨_,rfl,hK w' hB⟩
theorem zg9 {base:Nat} {s:Slc} {l:List (List UInt8)} {x:List UInt8} {K:Slc->Ub} (hown:Go.Vc.Own ki w base s (l.map ze)) (hb:base<=w.heap.size) (hl:l.length<=1000)
  (hK:∀r w',Go.Vc.Own ki w' base r ((l++[x]).map ze)->Chg (λk=>s.blk=some k) w w'->(∀k,r.blk=some k->s.blk=some k\/w.heap.size<=k)->K r w') :
  nw zC [(.string (ze x))] w λa w1=>apK PG #[kW,kW] kW s ⟨some a,1,1⟩ w1 λr w2=>K r w2:=by
 refine qa5 (E:=ki) (y:=ze x) qgh hown rfl hb (by rw [qqy,length_map];omega) (by rw [length_map];unfold maxLen;omega) λr w' ho hc hr=>hK r w' ?_ hc hr;rw [List.map_append];exact ho
end
section
variable {w:World}
theorem q9f {vs:List Value} {n:Nat} {bs:List UInt8} {K:Slc->Ub} (hv:vs=bs.map λb=>Value.int .u8 (b.toNat:Int)) (hn:n=bs.length) (hl:bs.length<=1000000)
  (hK:∀s w',Rd qu w' s bs->s.blk=some w.heap.size->Uc w w'->w'.heap.size=w.heap.size+1->s.a=some ⟨w.heap.size,0,none⟩->K s w') :
  nw za vs w λt w1=>jq PG (convert qm qm (.slice (some t) n n)) Kind.slice w1 K:=by
 subst hn hv;refine ⟨⟨some ⟨w.heap.size,0,none⟩,bs.length,bs.length⟩,_,Lib.run_convert_bytes_const w qm za _ _ _ (by kernel_rfl) (by kernel_rfl),hK _ _ ⟨rfl,le_refl _,by show bs.length<=maxLen;simp only [maxLen];omega,λ_=>rfl,λi x hx j v hj=>?_⟩ rfl ((Below.refl _ w).alloc (le_refl _) _) (by simp) rfl⟩;have hj0:j=0:=by
  have:=(List.getElem?_eq_some_iff.1 hj).1;simp [qu] at this;exact this
 subst hj0;have hv:v=.int .u8 (x.toNat:Int):=by
  simp [qu] at hj;exact hj.symm
 subst hv;have hi:i<bs.length:=(List.getElem?_eq_some_iff.1 hx).1;show World.cell? _ (((⟨w.heap.size,0,none⟩:Addr).add (i*1)).add 0)=_;rw [add_zero,qH,mul_one,zero_add];have hnew:∀o:Obj,(w.alloc o).heap[w.heap.size]?=some o:=λo=>by
  show (w.heap.push o)[w.heap.size]?=_;simp
 unfold World.cell?;dsimp only;rw [hnew];show (bs.map λb=>Value.int .u8 (b.toNat:Int)).toArray[i]?=_;rw [List.getElem?_toArray,List.getElem?_map,hx];rfl
theorem q50:∀(x:List UInt8) (c:UInt8) (r:List UInt8),(∀b∈x,b≠c)->indexByte (x++c::r) c=x.length
 | [],c,r,_=>by simp [indexByte]
 | b::x,c,r,h=>by
  have h1:=q50 x c r λb hb=>h b (by simp [hb]);have h2:b≠c:=h b (by simp);have h3:¬(x.length:Int)=-1:=by omega
  simp [indexByte,h2,h1,h3]
theorem zb6 {s:Slc} {bs:List UInt8} (hs:Rd qu w s bs) (ha:s.a.isSome=true) (hl:bs.length<=1000000) {K:Slc->Ub} (hK:∀q w',Go.Vc.Own qu w' w.heap.size q bs->Uc w w'->K q w'):Zh s w K:=by
 refine qeq _ ?_;refine cF (by cases h:s.a with | none=>rw [h] at ha;cases ha | some a=>rfl) ?_;refine nwb λw1 hb1 hB1 hs1=>?_;refine jz (E:=qu) zh (YZ hb1 (le_refl _)) (hs.ext hB1) (by omega) (by rw [xX];simp;omega) (by simp;unfold maxLen;omega) λq w2 ho hg hr=>hK q w2 ho (hB1.grown hg (by omega) λk hk=>by cases hk;exact le_refl _)
theorem q6f {L:List Int} {wd:List UInt8}:qww L wd=((decide (L[8]?.getD 0=0) && decide (L[9]?.getD 0=0)) || (decide (L[4]?.getD 0=1) && decide (wd=[79,75])) || decide ((2:Int)<=L[4]?.getD 0) || decide (L[8]?.getD 0<0) || decide (L[9]?.getD 0<0) || decide (L[10]?.getD 0<0)):=rfl
theorem zk1 (wd:List UInt8):((ze wd).toList==(⟨#[79,75]⟩:ByteArray).toList)=decide (wd=[79,75]):=by
 rw [vR,show (⟨#[79,75]⟩:ByteArray)=ze [79,75] from rfl,vR];by_cases h:wd=[79,75]
 ·rw [h];rfl
 ·rw [dFq h];simpa using h
theorem qfy (c:UInt8) {n:Int} (h0:-9223372036854775808<=n) (h1:n<=9223372036854775807):(xM c n).length<=1/\∀x∈xM c n,x.length<=22:=by
 have:=qq3 h0 h1;unfold xM;split
 ·simp
 ·refine ⟨by simp,λx hx=>?_⟩;rw [List.mem_singleton] at hx;subst hx;simp;omega
def qg9 (L:List Int):Prop:=∀i:Nat,-9223372036854775808<=L[i]?.getD 0/\L[i]?.getD 0<=9223372036854775807
theorem zgf {L:List Int} (hw:qg9 L):(qav L).length<=3/\(qep (qav L)).length<=100:=by
 have a:=qfy 105 (hw 8).1 (hw 8).2;have b:=qfy 73 (hw 9).1 (hw 9).2;have c:=qfy 112 (hw 10).1 (hw 10).2;have h3:(qav L).length<=3:=by unfold qav;rw [length_append,length_append];omega
 have:=q2m 22 (qav L) λx hx=>by
  unfold qav at hx;rcases mem_append.1 hx with hx | hx
  ·rcases mem_append.1 hx with hx | hx
   ·exact a.2 x hx
   ·exact b.2 x hx
  ·exact c.2 x hx
 exact ⟨h3,by omega⟩
theorem q9v {k:qb} (hT:Tab w) (hw:qg9 (toL k)) (wd:List UInt8) (hwl:wd.length<=100000) {K:Slc->Ub} (hK:∀q w',Rd qu w' q (qsw (toL k) wd)->Uc w w'->(∀j,q.blk=some j->w.heap.size<=j)->K q w'):qga k (ze wd) w K:=by
 refine qwb _ _ ?_;refine nwb λw1 hb1 hB1 hs1=>?_;obtain ⟨L,hL⟩:∃L,toL k=L:=⟨_,rfl⟩;rw [hL] at hw hK;have h4:L[4]?.getD 0=k.Quiet:=by rw [<-hL];rfl
 have h8:L[8]?.getD 0=k.Id:=by rw [<-hL];rfl
 have h9:L[9]?.getD 0=k.Number:=by rw [<-hL];rfl
 have h10:L[10]?.getD 0=k.Place:=by rw [<-hL];rfl
 have ld:∀{w2:World},Blk w2 w.heap.size qV (qb.rep.cells k)->w2.cell? ((⟨w.heap.size,0,none⟩:Addr).add 4)=some (Ua k.Quiet)/\w2.cell? ((⟨w.heap.size,0,none⟩:Addr).add 8)=some (Ua k.Id)/\w2.cell? ((⟨w.heap.size,0,none⟩:Addr).add 9)=some (Ua k.Number)/\w2.cell? ((⟨w.heap.size,0,none⟩:Addr).add 10)=some (Ua k.Place) :=
  λhb=>⟨hb.cells 4 _ rfl,hb.cells 8 _ rfl,hb.cells 9 _ rfl,hb.cells 10 _ rfl⟩
 obtain ⟨l4,l8,l9,l10⟩:=ld hb1;have hno:qww L wd=true->K ⟨none,0,0⟩ w1:=λh=>hK _ w1 (by unfold qsw;rw [if_pos h];exact Rd.nil _ _) hB1 (λj hj=>by cases hj);rw [q6f,h4,h8,h9,h10] at hno;refine lI l4 ?_;refine jpO λJ1 hJ1=>jpO λJ3 hJ3=>jpO λJ4 hJ4=>?_;have hmain:qww L wd=false->J1 () w1:=by
  intro hn;refine hJ1 _ _ ?_;refine lI l8 (lI l9 (lI l10 ?_));refine nwb λw3 hb3 hB3 hs3=>?_;have hB13:=hB1.trans (hB3.mono (by omega));have rI:∀i:Nat,i<=3->List (List UInt8):=λi _=>([xM 105 k.Id,xM 73 k.Number,xM 112 k.Place].take i).flatten;have hrI:qav L=([xM 105 k.Id,xM 73 k.Number,xM 112 k.Place].take 3).flatten:=by unfold qav;rw [h8,h9,h10];simp
  have hw8:=hw 8;have hw9:=hw 9;have hw10:=hw 10;rw [h8] at hw8;rw [h9] at hw9;rw [h10] at hw10;refine lpR (λ(s:Slc×Int×Unit) w4=>∃i:Nat,s.2.1=i/\i<=3/\Blk w4 w1.heap.size jh [(.string (ze [105,61])),(Ua k.Id),(.string (ze [73,61])),(Ua k.Number),(.string (ze [112,61])),(Ua k.Place)]/\Uc w w4/\w3.heap.size<=w4.heap.size/\Go.Vc.Own ki w4 w3.heap.size s.1 ((([xM 105 k.Id,xM 73 k.Number,xM 112 k.Place].take i).flatten).map ze))
   (λs=>3-s.2.1.toNat) ⟨0,rfl,by omega,hb3,hB13,le_refl _,Go.Vc.Own.nil _ _ _⟩ ?_
  rintro ⟨q,i,u⟩ w4 ⟨m,hi,hm,hb4,hB4,hs4,ho4⟩ I hI;dsimp only at hi ho4 ⊢;subst hi;by_cases hlt:m<3
  ·refine cT (by simp;omega) ⟨⟨by omega,by omega⟩,?_⟩;obtain ⟨c,n,hcn,hnw,hcells⟩:∃(c:UInt8) (n:Int),[xM 105 k.Id,xM 73 k.Number,xM 112 k.Place][m]?=some (xM c n)/\(-9223372036854775808<=n/\n<=9223372036854775807) /\
     q6 w4 ((⟨w1.heap.size,0,none⟩:Addr).add (((m:Int)).toNat*2)) (zl.rep.cells ⟨ze [c,61],n⟩):=by
    have:m=0\/m=1\/m=2:=by omega
    rcases this with rfl | rfl | rfl
    ·exact ⟨105,k.Id,rfl,hw8,hb4.sub 0 _ rfl⟩
    ·exact ⟨73,k.Number,rfl,hw9,hb4.sub 2 _ rfl⟩
    ·exact ⟨112,k.Place,rfl,hw10,hb4.sub 4 _ rfl⟩
   have htk:(([xM 105 k.Id,xM 73 k.Number,xM 112 k.Place].take (m+1)).flatten)=(([xM 105 k.Id,xM 73 k.Number,xM 112 k.Place].take m).flatten)++xM c n:=by
    rw [take_add_one,hcn,List.flatten_append];simp
   refine qy (x:=(⟨ze [c,61],n⟩:zl)) hcells ?_;refine jd (t:=jh) (vs:=zl.rep.cells ⟨ze [c,61],n⟩) rfl λw6 hb6 hB6 hs6=>?_;refine lI (x:=n) (hb6.cells 1 _ rfl) ?_;have ho6:=ho4.ext hB6;have hb46:=hb4.ext hB6;have hB46:=hB4.trans (hB6.mono hB4.size);have e4:=hB4.size;rw [i64_in (by omega)];refine cO (λhne=>?_) λhe=>?_
   ·have hne:n≠0:=by simpa using hne
    have hit:xM c n=[c::61::Lib.itoa n]:=by unfold xM;rw [if_neg hne]
    have hb6d:Blk w6.drew w4.heap.size jh (zl.rep.cells ⟨ze [c,61],n⟩):=hb6.drew;refine qqz (x:=ze [c,61]) (hb6d.cells 0 _ rfl) (lI (x:=n) (hb6d.cells 1 _ rfl) ?_);refine qti (hT.ext hB46.drew) hnw.1 hnw.2 λw7 hB7=>?_;have hil:=qq3 hnw.1 hnw.2;refine ⟨(hb6d.ext hB7).cells 0 _ rfl,by rw [zo,zo];simp;omega,?_⟩;rw [JJ];show nw zC [(.string (ze (c::61::Lib.itoa n)))] w7 _;have e7:w6.heap.size<=w7.heap.size:=hB7.size;have ho7:Go.Vc.Own ki w7 w3.heap.size q _:=ho6.drew.ext hB7;have hb47:=hb46.drew.ext hB7;have hlen:(([xM 105 k.Id,xM 73 k.Number,xM 112 k.Place].take m).flatten).length<=1000:=by
     have a:=(qfy 105 hw8.1 hw8.2).1;have b:=(qfy 73 hw9.1 hw9.2).1;have:m=0\/m=1\/m=2:=by omega
     rcases this with rfl | rfl | rfl<;>simp<;>omega
    refine zg9 ho7 (by omega) hlen λr w9 ho9 hc9 hr9=>?_;have hne1:∀j,q.blk=some j->w3.heap.size<=j:=λj hj=>(ho7.lt j hj).1;refine hI _ _ ⟨m+1,by simp,by omega,hb47.chg hc9 λe=>?_,(hB46.drew.trans (hB7.mono (by show _<=w6.heap.size;omega))).trans (hc9.below (by omega) λi hi e=>?_),by have:=hc9.size;omega,?_⟩ (by simp;omega)
    ·have:=hne1 _ e;omega
    ·have:=hne1 _ e;omega
    ·dsimp only;rw [htk,hit];exact ho9
   ·have he:n=0:=by simpa using he
    have hit:xM c n=[]:=by unfold xM;rw [if_pos he]
    refine hI _ _ ⟨m+1,by simp,by omega,hb46,hB46,by omega,?_⟩ (by simp;omega);dsimp only;rw [htk,hit,append_nil];exact ho6
  ·refine cF (by simp;omega) ?_;obtain rfl:m=3:=by omega
   rw [<-hrI] at ho4;obtain ⟨hl1,hl2⟩:=zgf hw;refine zeu (l:=qav L) ho4 (by omega) (by omega) λw10 hB10=>?_;have e1:(⟨#[27,95,71]⟩:ByteArray)=ze [27,95,71]:=rfl;have e2:(⟨#[59]⟩:ByteArray)=ze [59]:=rfl;have e3:(⟨#[27,92]⟩:ByteArray)=ze [27,92]:=rfl;rw [e1,e2,e3];simp only [JJ,zo,length_append,length_cons,length_nil];refine ⟨by omega,by omega,by omega,by omega,?_⟩;have hrep:qsw L wd=[27,95,71]++qep (qav L)++[59]++wd++[27,92]:=by unfold qsw;rw [if_neg (by rw [hn];simp)]
   rw [<-hrep];refine qsa (by rw [hrep];simp;omega) λr w11 hr11 hrb hB11 _=>?_;have e4:=hB4.size;have e10:=hB10.size;exact hK r w11 hr11 ((hB4.trans (hB10.mono (by omega))).trans (hB11.mono (by omega))) (λj hj=>by have:=hrb j hj;omega)
 rw [q6f,h4,h8,h9,h10] at hmain;have hJ4':¬(k.Id=0/\k.Number=0)->¬k.Id<0->¬k.Number<0->¬k.Place<0->J4 () w1:=by
  intro hid a b c;refine hJ4 _ _ ?_;have hid':(decide (k.Id=0) && decide (k.Number=0))=false:=by
   cases h:(decide (k.Id=0) && decide (k.Number=0)) with
   | false=>rfl
   | true=>exact absurd (by simpa using h) hid
  rw [hid',dFq a,dFq b,dFq c] at hno hmain;simp only [Bool.false_or,Bool.or_false] at hno hmain;refine cO (λhq=>?_) λhq=>?_
  ·have hq:k.Quiet=1:=by simpa using hq
   rw [hq] at hno hmain ⊢;rw [zk1];by_cases hwd:wd=[79,75]
   ·rw [dTq hwd] at *;exact cF rfl (hJ3 _ _ (cT (by decide) (hno (by decide))))
   ·rw [dFq hwd] at *;exact cT rfl (hJ3 _ _ (cF (by decide) (hmain (by decide))))
  ·have hq:¬k.Quiet=1:=by simpa using hq
   rw [dFq hq,Bool.false_and,Bool.false_or] at hno hmain;refine hJ3 _ _ (cO (λh1=>hno ?_) λh1=>hmain ?_)
   ·have h1:k.Quiet>=1:=oTq h1;exact dTq (by omega)
   ·have h1:¬k.Quiet>=1:=oFq h1;exact dFq (by omega)
 have tail:¬(k.Id=0/\k.Number=0)->ldI .i64 ((⟨w.heap.size,0,none⟩:Addr).add 8) w1 λt22=>cond (decide (t22<(0:Int))) (K (⟨none,0,0⟩:Slc) w1) (ldI .i64 ((⟨w.heap.size,0,none⟩:Addr).add 9) w1 λt27=>cond (decide (t27<(0:Int))) (K (⟨none,0,0⟩:Slc) w1) (ldI .i64 ((⟨w.heap.size,0,none⟩:Addr).add 10) w1 λt32=>cond (decide (t32<(0:Int))) (K (⟨none,0,0⟩:Slc) w1) (J4 (()) w1))):=by
  intro hid;refine lI l8 (cO (λh=>hno ?_) λha=>?_)
  ·rw [h];simp
  refine lI l9 (cO (λh=>hno ?_) λhb=>?_)
  ·rw [h];simp
  refine lI l10 (cO (λh=>hno ?_) λhc=>?_)
  ·rw [h];simp
  exact hJ4' hid (oFq ha) (oFq hb) (oFq hc)
 refine lI l8 (cO (λh0=>?_) λh0=>?_)
 ·have h0:k.Id=0:=by simpa using h0
  refine lI l9 (cO (λh1=>hno ?_) λh1=>?_)
  ·have h1:k.Number=0:=by simpa using h1
   rw [h0,h1];simp
  ·have h1:¬k.Number=0:=by simpa using h1
   exact tail λhh=>h1 hh.2
 ·have h0:¬k.Id=0:=by simpa using h0
  exact tail λhh=>h0 hh.1
end
def q43:List UInt8:=[65,66,67,68,69,70,71,72,73,74,75,76,77,78,79,80,81,82,83,84,85,86,87,88,89,90,97,98,99,100,101,102,103,104,105,106,107,108,109,110,111,112,113,114,115,116,117,118,119,120,121,122,48,49,50,51,52,53,54,55,56,57,43,47]
def zfm (c:UInt8):Option Nat :=
 if 65<=c.toNat/\c.toNat<=90 then some (c.toNat-65) else if 97<=c.toNat/\c.toNat<=122 then some (c.toNat-97+26) else if 48<=c.toNat/\c.toNat<=57 then some (c.toNat-48+52) else if c.toNat=43 then some 62 else if c.toNat=47 then some 63 else none
theorem zc4 {c:UInt8} {v:Nat} (h:zfm c=some v):v<64:=by
 unfold zfm at h
 repeat' split at h
 all_goals (first | (cases h;omega) | cases h)
def zf1 (c:UInt8):Int:=match zfm c with | some v=>(v:Int) | none=>-1
theorem zgg {P:UInt8->Prop} (h:∀n,n<256->P (UInt8.ofNat n)) (c:UInt8):P c:=by
 have:=h c.toNat c.toNat_lt
 rwa [UInt8.ofNat_toNat] at this
theorem zgt (c:UInt8):indexByte q43 c=zf1 c:=by
 have h:∀n,n<256->indexByte q43 (UInt8.ofNat n)=zf1 (UInt8.ofNat n):=by decide +kernel
 exact zgg (P:=λc=>indexByte q43 c=zf1 c) h c
structure B64 where
 w:List Nat
 f:Nat
 last:Bool
 bad:Bool
def zfr:B64:=⟨[],0,false,false⟩
def zbh:B64:=⟨[],0,false,true⟩
def qeb (w:List Nat):Nat:=w.foldl (λa x=>64*a+x) 0
def be3 (v:Nat):List UInt8:=[UInt8.ofNat (v/2^16),UInt8.ofNat (v/2^8),UInt8.ofNat v]
def q05 (w:List Nat):List UInt8:=(be3 (qeb w*2^(6*(4-w.length)))).take (w.length*6/8)
def ql5 (w:List Nat):Bool:=decide (qeb w%2^(w.length*6%8)=0)
def yT (s:B64):List UInt8×B64:=if s.w.length+s.f<4 then ([],s) else (q05 s.w,⟨[],0,decide (0<s.f),false⟩)
def qau (s:B64) (c:UInt8):Option (List UInt8×B64) :=
 if s.last then none
 else if c.toNat=61 then (if s.w.length+s.f<2\/ql5 s.w=false then none else some (yT { s with f:=s.f+1 }))
 else match zfm c with
  | none=>none
  | some v=>if 0<s.f then none else some (yT { s with w:=s.w++[v] })
def vO (s:B64) (c:UInt8):Nat×List UInt8×B64 :=
 if s.bad then (3,[],zbh) else match qau s c with
  | none=>(3,[],zbh)
  | some (o,s')=>(0,o,s')
def qbt (s:B64):Nat×List UInt8×B64 :=
 if s.bad\/s.w.length+s.f=1\/0<s.f\/ql5 s.w=false then (3,[],zbh) else (0,q05 s.w,zfr)
structure B64Ok (s:B64):Prop where
 n:s.w.length+s.f<4
 v:∀x∈s.w,x<64
 two:0<s.f->2<=s.w.length
theorem ze1 (w:List Nat) (x:Nat):qeb (w++[x])=64*qeb w+x:=by simp [qeb]
theorem zcv:∀(w:List Nat) (a n:Nat),a<64^n->(∀x∈w,x<64)->w.foldl (λa x=>64*a+x) a<64^(n+w.length)
 | [],a,n,h,_=>by simpa using h
 | x::w,a,n,h,hw=>by
  have hx:=hw x (by simp);have:=zcv w (64*a+x) (n+1) (by rw [Nat.pow_succ];omega) λy hy=>hw y (by simp [hy]);rw [List.foldl_cons,length_cons,show n+(w.length+1)=n+1+w.length by omega];exact this
theorem qws (w:List Nat) (h:∀x∈w,x<64):qeb w<64^w.length:=by
 have:=zcv w 0 0 (by decide) h
 rwa [zero_add] at this
theorem q4b:B64Ok zbh:=⟨by decide,by simp [zbh],by simp [zbh]⟩
theorem zdn:B64Ok zfr:=⟨by decide,by simp [zfr],by simp [zfr]⟩
theorem q2l {s:B64} (h1:s.w.length+s.f<=4) (h2:∀x∈s.w,x<64) (h3:0<s.f->2<=s.w.length):B64Ok (yT s).2:=by
 unfold yT;split
 ·exact ⟨by assumption,h2,h3⟩
 ·exact ⟨by simp,by simp,by simp⟩
theorem zed {s:B64} (h:B64Ok s) (c:UInt8):B64Ok (vO s c).2.2:=by
 unfold vO;split
 ·exact q4b
 ·cases hp:qau s c with
  | none=>exact q4b
  | some r =>
   obtain ⟨o,s'⟩:=r;show B64Ok s';unfold qau at hp;split at hp
   ·cases hp
   ·split at hp
    ·split at hp
     ·cases hp
     ·rename_i hc;have:=Option.some.inj hp;have e:s'=(yT { s with f:=s.f+1 }).2:=by rw [this]
      rw [e];refine q2l (by have:=h.n;show s.w.length+(s.f+1)<=4;omega) h.v λ_=>?_;show 2<=s.w.length;by_cases hf:0<s.f
      ·exact h.two hf
      ·omega
    ·cases hv:zfm c with
     | none=>rw [hv] at hp;cases hp
     | some v =>
      rw [hv] at hp;dsimp only at hp;split at hp
      ·cases hp
      ·rename_i hf;have:=Option.some.inj hp;have e:s'=(yT { s with w:=s.w++[v] }).2:=by rw [this]
       rw [e];refine q2l (by have:=h.n;show (s.w++[v]).length+s.f<=4;rw [length_append,List.length_singleton];omega) (λx hx=>?_) λh0=>absurd h0 hf;rcases mem_append.1 hx with hx | hx
       ·exact h.v x hx
       ·rw [List.mem_singleton] at hx;subst hx;exact zc4 hv
theorem zh8 (w:List Nat) (h:w.length<=4):(q05 w).length=w.length*6/8:=by
 unfold q05;rw [length_take];show min _ 3=_;omega
def zbp (s:B64):List Value:=[.int .u32 (qeb s.w:Int),.int .i64 ((s.w.length+s.f:Nat):Int),.int .i64 (s.f:Int),.bool s.last,.bool s.bad]
def JC (w:World) (g:Nat) (s:B64):Prop:=Blk w g Jv (zbp s)
section
variable {w:World} {g:Nat} {s:B64}
theorem qzn {bs:List UInt8} {c:UInt8} {i:Int} (hi:i=c.toNat) {K:Int->Ub} (hK:K (indexByte bs c) w):xK (ze bs) i w K:=by
 subst hi;refine Calls.mono (Tryz.strings_IndexByte (ze bs) c.toNat w) ?_;rintro e w' ⟨rfl,rfl⟩;refine ⟨_,rfl,?_⟩;rw [show ((c.toNat:Int)).toNat.toUInt8=c by simp];exact hK
theorem q8z {n:Nat} (h:n<=4):64^n<=16777216:=le_trans (Nat.pow_le_pow_right (by decide) h) (by decide)
theorem qu9 (h:JC w g s) (hn:s.w.length+s.f<=4) (hv:∀x∈s.w,x<64) {K:Slc->Ub} (hK:∀t w',Rd qu w' t (q05 s.w)->(∀k,t.blk=some k->w.heap.size<=k)->JC w' g s->Uc w w'->K t w'):xS (some ⟨g,0,none⟩) w K:=by
 refine qb7 _ ?_;simp only [onPtr_some];have hvl:=Nat.lt_of_lt_of_le (qws s.w hv) (q8z (n:=s.w.length) (by omega));have hd:JC w.drew g s:=h.ext (bdw w);have hdd:JC w.drew.drew g s:=hd.ext (bdw _);refine lI (x:=(qeb s.w:Int)) (hd.cells 0 _ rfl) (lI (x:=((s.w.length+s.f:Nat):Int)) (hd.cells 1 _ rfl) (lI (x:=(s.f:Int)) (hd.cells 2 _ rfl) ?_));have es:i64.wrap ((6:Int)*(i64.wrap ((i64.wrap ((4:Int)-((s.w.length+s.f:Nat):Int)))+(s.f:Int))))=((6*(4-s.w.length):Nat):Int):=by
  rw [qQ (x:=(4:Int)-((s.w.length+s.f:Nat):Int)) (by omega),qQ (x:=(4:Int)-((s.w.length+s.f:Nat):Int)+(s.f:Int)) (by omega),qQ (by omega)];omega
 rw [es];refine ⟨by omega,by decide,by decide,?_⟩;refine lI (x:=((s.w.length+s.f:Nat):Int)) (hdd.cells 1 _ rfl) (lI (x:=(s.f:Int)) (hdd.cells 2 _ rfl) ⟨by decide,?_⟩);have hpw:qeb s.w*2^(6*(4-s.w.length))<2^24:=by
  have h1:=qws s.w hv;have e:(64:Nat)^s.w.length=2^(6*s.w.length):=by rw [Nat.pow_mul]
  rw [e] at h1;have h2:qeb s.w*2^(6*(4-s.w.length))<2^(6*s.w.length)*2^(6*(4-s.w.length)):=Nat.mul_lt_mul_of_pos_right h1 (Nat.pow_pos (by decide));rw [<-Nat.pow_add,show 6*s.w.length+6*(4-s.w.length)=24 by omega] at h2;exact h2
 have ev:u32.wrap ((qeb s.w:Int)*2^(min ((6*(4-s.w.length):Nat):Int).toNat u32.bits))=((qeb s.w*2^(6*(4-s.w.length)):Nat):Int):=by
  rw [toNat_natCast,show min (6*(4-s.w.length)) u32.bits=6*(4-s.w.length) by show min _ 32=_;omega,qkt];exact xk .u32 (show _<2^32 by omega)
 rw [ev];obtain ⟨V,hV⟩:∃V,V=qeb s.w*2^(6*(4-s.w.length)):=⟨_,rfl⟩;rw [<-hV,show min ((16:Int)).toNat u32.bits=16 by decide,show min ((8:Int)).toNat u32.bits=8 by decide,q75,q75,qyf,qyf,qyf];refine nwb λw1 h1 hB1 hs1=>?_;have hBw1:=bT (bT (bdw w) (bdw _)) hB1;have h11:JC w1 g s:=h.ext hBw1;refine ⟨h11.cells 2 _ rfl,h11.cells 1 _ rfl,?_⟩;have el:i64.wrap ((i64.wrap ((i64.wrap (((s.w.length+s.f:Nat):Int)-(s.f:Int)))*(6:Int))).tdiv (8:Int))=((s.w.length*6/8:Nat):Int):=by
  rw [qQ (x:=((s.w.length+s.f:Nat):Int)-(s.f:Int)) (by omega),show ((s.w.length+s.f:Nat):Int)-(s.f:Int)=(s.w.length:Int) by omega,qQ (x:=(s.w.length:Int)*6) (by omega),show (s.w.length:Int)*6=((s.w.length*6:Nat):Int) by simp,show (8:Int)=((8:Nat):Int) from rfl,<-Int.ofNat_tdiv,qQ (by omega)]
 rw [el];have hr:Rd qu w1 ⟨some ⟨w.drew.drew.heap.size,0,none⟩,3,3⟩ (be3 V):=Go.Vc.rd_lits (E:=qu) (ys:=be3 V) h1 (by show 3<=maxLen;simp [maxLen]) rfl;refine hr.slK (l:=0) (m:=s.w.length*6/8) rfl (.inl ⟨rfl,rfl⟩) (.inr rfl) (by omega) (by show _<=3;omega) λhp=>?_;rw [drop_zero,hV] at hp;refine hK _ w1 hp (λk hk=>?_) h11 hBw1;obtain ⟨a,ha,rfl⟩:=slk.1 hk;obtain ⟨a',ha',e⟩:=Go.Vc.cut_block (show cut (some ⟨w.drew.drew.heap.size,0,none⟩) 0 3 1=some a from ha);cases ha';rw [e];exact le_refl _
theorem qvd (h:JC w g s) (hn:s.w.length+s.f<=4) (hv:∀x∈s.w,x<64) {K:Bool->Ub} (hK:K (ql5 s.w) w.drew):xN (some ⟨g,0,none⟩) w K:=by
 refine qb3 _ ?_;simp only [onPtr_some];have hvl:=Nat.lt_of_lt_of_le (qws s.w hv) (q8z (n:=s.w.length) (by omega));have hd:JC w.drew g s:=h.ext (bdw w);refine lI (x:=(qeb s.w:Int)) (hd.cells 0 _ rfl) (lI (x:=((s.w.length+s.f:Nat):Int)) (hd.cells 1 _ rfl) (lI (x:=(s.f:Int)) (hd.cells 2 _ rfl) ⟨by decide,?_⟩));have el:((i64.wrap ((i64.wrap (((s.w.length+s.f:Nat):Int)-(s.f:Int)))*(6:Int))).tmod (8:Int))=((s.w.length*6%8:Nat):Int):=by
  rw [qQ (x:=((s.w.length+s.f:Nat):Int)-(s.f:Int)) (by omega),show ((s.w.length+s.f:Nat):Int)-(s.f:Int)=(s.w.length:Int) by omega,qQ (x:=(s.w.length:Int)*6) (by omega),show (s.w.length:Int)*6=((s.w.length*6:Nat):Int) by simp,show (8:Int)=((8:Nat):Int) from rfl,<-Int.ofNat_tmod]
 rw [el];refine ⟨by omega,?_⟩;have hm:s.w.length*6%8<8:=Nat.mod_lt _ (by decide);have hp:2^(s.w.length*6%8)<=2^8:=Nat.pow_le_pow_right (by decide) (by omega);have hp0:0<2^(s.w.length*6%8):=Nat.pow_pos (by decide);have em:u32.wrap ((u32.wrap ((1:Int)*2^(min ((s.w.length*6%8:Nat):Int).toNat u32.bits)))-(1:Int))=((2^(s.w.length*6%8)-1:Nat):Int):=by
  rw [toNat_natCast,show min (s.w.length*6%8) u32.bits=s.w.length*6%8 by show min _ 32=_;omega,show (1:Int)=((1:Nat):Int) from rfl,qkt,Nat.one_mul];generalize 2^(s.w.length*6%8)=q at hp hp0 ⊢;rw [xk .u32 (show q<2^32 by omega),show (q:Int)-((1:Nat):Int)=((q-1:Nat):Int) by omega];exact xk .u32 (show q-1<2^32 by omega)
 rw [em,zhl .u32 (show _<2^32 by omega) (show _<2^32 by omega),Nat.and_two_pow_sub_one_eq_mod];have:((((qeb s.w%2^(s.w.length*6%8):Nat):Int))==(0:Int))=ql5 s.w:=by
  unfold ql5;generalize qeb s.w%2^(s.w.length*6%8)=q;rw [Bool.eq_iff_iff];simp
 rw [this];exact hK
theorem zd6 {c:UInt8} (h:JC w g s) (hs:B64Ok s) (hb:s.bad=false) {K:Slc->Bool->Ub} (hN:qau s c=none->∀w',Uc w w'->K ⟨none,0,0⟩ false w')
  (hY:∀o s' t w',qau s c=some (o,s')->Rd qu w' t o->(∀k,t.blk=some k->w.heap.size<=k)->JC w' g s'->Chg (λk=>k=g) w w'->K t true w'):Qf (some ⟨g,0,none⟩) (c.toNat:Int) w K:=by
 refine qer _ _ ?_;simp only [onPtr_some];have hn:=hs.n;have hgl:=h.lt;refine qzn (bs:=q43) rfl ?_;rw [zgt];refine jpO λJ1 hJ1=>?_;have fin:∀s1 w2,s1.w.length+s1.f=s.w.length+s.f+1->s1.last=false->s1.bad=false->(∀x∈s1.w,x<64)->Blk w2 g Jv [.int .u32 (qeb s1.w:Int),.int .i64 ((s.w.length+s.f:Nat):Int),.int .i64 (s1.f:Int),.bool s1.last,.bool s1.bad]->Chg (λk=>k=g) w w2->qau s c=some (yT s1)->J1 () w2:=by
  intro s1 w2 hl hla hba hv hb2 hc2 hp;refine hJ1 _ _ ?_;refine lI (x:=((s.w.length+s.f:Nat):Int)) (hb2.cells 1 _ rfl) ?_;rw [qH,qQ (by omega),show ((s.w.length+s.f:Nat):Int)+1=((s1.w.length+s1.f:Nat):Int) by omega];refine qB hb2 (by simp) λw3 hb3 hg3 hs3=>?_;have hc3:Chg (λk=>k=g) w2 w3:=Go.Vc.Chg.gg hg3;have hd3:JC w3 g s1:=hb3;refine lI (x:=((s1.w.length+s1.f:Nat):Int)) (hd3.cells 1 _ rfl) ?_;have hc03:=hc2.trans hc3 λi _ hi=>hi;refine cO (λe=>?_) λe=>?_
  ·have e:=oTq e;refine hY [] s1 ⟨none,0,0⟩ w3 ?_ (Rd.nil _ _) (λk hk=>by cases hk) hd3 hc03;rw [hp];unfold yT;rw [if_pos (by omega)]
  ·have e:=oFq e;refine qu9 hd3 (by omega) hv λt w4 ht htb hd4 hB4=>?_;refine lI (x:=(s1.f:Int)) (hd4.cells 2 _ rfl) ?_;refine jH hd4 rfl λw5 hd5 hc5 hs5=>?_;have hs13:=hc03.size;refine hY (q05 s1.w) ⟨[],0,decide (0<s1.f),false⟩ t w5 ?_ (ht.chg hc5 λa ha e=>?_) (λk hk=>by have:=htb k hk;omega) ?_ ?_
   ·rw [hp];unfold yT;rw [if_neg (by omega)]
   ·have:=htb a.block (slk.2 ⟨a,ha,rfl⟩);omega
   ·have:decide ((s1.f:Int)>0)=decide (0<s1.f):=by rw [decide_eq_decide];omega
    rw [this] at hd5;exact hd5
   ·exact (hc03.trans (Chg.of_ext (S:=λk=>k=g) hB4) λi _ hi=>hi).trans hc5 λi _ hi=>hi
 unfold qau at hN hY fin;refine jw (x:=s.last) (h.cells 3 _ rfl) (cO (λe=>?_) λe1=>?_)
 ·have e:s.last=true:=e;rw [if_pos e] at hN;exact hN rfl w (Below.refl _ _)
 have e1:s.last=false:=e1;rw [if_neg (by rw [e1];decide)] at hN hY fin;refine cO (λe=>?_) λe2=>?_
 ·have e:c.toNat=61:=by have:=eq_of_beq e;omega
  rw [if_pos e] at hN hY fin;refine jpO λJ2 hJ2=>?_;refine lI (x:=((s.w.length+s.f:Nat):Int)) (h.cells 1 _ rfl) (cO (λe3=>?_) λe3=>?_)
  ·have e3:=oTq e3;rw [if_pos (.inl (by omega))] at hN;exact hN rfl w (Below.refl _ _)
  have e3:=oFq e3;refine qvd h (by omega) hs.v (cO (λe4=>?_) λe4=>?_)
  ·have e4:ql5 s.w=false:=by simpa using e4
   rw [if_pos (.inr e4)] at hN;exact hN rfl _ (bdw w)
  have e4:ql5 s.w=true:=by simpa using e4
  rw [if_neg (by rw [e4];simp;omega)] at fin;refine hJ2 _ _ ?_;have hd:JC w.drew g s:=h.ext (bdw w);refine lI (x:=(s.f:Int)) (hd.cells 2 _ rfl) ?_;rw [qH,qQ (by omega)];refine qB hd (by simp [zbp]) λw3 hb3 hg3 hs3=>?_;have hc3:Chg (λk=>k=g) w.drew w3:=Go.Vc.Chg.gg hg3;refine fin { s with f:=s.f+1 } w3 (by dsimp only;omega) e1 hb hs.v hb3 ((Chg.of_ext (S:=λk=>k=g) (bdw w)).trans hc3 λi _ hi=>hi) rfl
 ·have e2:c.toNat≠61:=λh=>by rw [h] at e2;cases e2
  rw [if_neg e2] at hN hY fin;refine jpO λJ3 hJ3=>?_;unfold zf1;cases hv:zfm c with
  | none =>
   rw [hv] at hN;refine cT (by decide) (hJ3 _ _ (cT rfl ?_));exact hN rfl w (Below.refl _ _)
  | some v =>
   rw [hv] at hN hY fin;dsimp only at hN hY fin ⊢;have hvl:=zc4 hv;refine cF (dFq (by omega)) (lI (x:=(s.f:Int)) (h.cells 2 _ rfl) (hJ3 _ _ ?_));refine cO (λe=>?_) λe=>?_
   ·have e:=oTq e;rw [if_pos (by omega)] at hN;exact hN rfl w (Below.refl _ _)
   ·have e:=oFq e;rw [if_neg (by omega)] at fin;have hvn:=Nat.lt_of_lt_of_le (qws s.w hs.v) (le_trans (Nat.pow_le_pow_right (show 0<64 by decide) (show s.w.length<=3 by omega)) (show (64:Nat)^3<=262144 by decide));refine lI (x:=(qeb s.w:Int)) (h.cells 0 _ rfl) ⟨by decide,?_⟩;have ev:jZ .or .u32 (u32.wrap ((qeb s.w:Int)*2^(min (6:Int).toNat u32.bits))) (u32.wrap (v:Int))=((qeb (s.w++[v]):Nat):Int):=by
     rw [show min ((6:Int)).toNat u32.bits=6 by decide,qkt,xk .u32 (x:=qeb s.w*2^6) (by show _<2^32;omega),xk .u32 (x:=v) (by show _<2^32;omega),zc1 .u32 (by show _<2^32;omega) (by show _<2^32;omega),ze1];congr 1;rw [Nat.or_comm,Nat.mul_comm,zm2 (by omega)];omega
    rw [show zf1 c=(v:Int) by unfold zf1;rw [hv],ev,qH];refine qB h (by simp [zbp]) λw3 hb3 hg3 hs3=>?_;have hc3:Chg (λk=>k=g) w w3:=Go.Vc.Chg.gg hg3;refine fin { s with w:=s.w++[v] } w3 (by dsimp only;rw [length_append,List.length_singleton];omega) e1 hb (λx hx=>?_) hb3 hc3 rfl;rcases mem_append.1 hx with hx | hx
    ·exact hs.v x hx
    ·rw [List.mem_singleton] at hx;subst hx;exact hvl
theorem zd5 {c:UInt8} (h:JC w g s) (hs:B64Ok s) {K:Slc->Int->Ub}
  (hK:∀t w',Rd qu w' t (vO s c).2.1->(∀k,t.blk=some k->w.heap.size<=k)->JC w' g (vO s c).2.2->Chg (λk=>k=g) w w'->K t ((vO s c).1:Nat) w'):Qw (some ⟨g,0,none⟩) (c.toNat:Int) w K:=by
 refine qed _ _ ?_;simp only [onPtr_some];refine jpO λJ1 hJ1=>?_;unfold vO at hK;have bad:(vO s c=(3,[],zbh))->∀w2,JC w2 g s->Chg (λk=>k=g) w w2->J1 () w2:=by
  intro hp w2 h2 hc2;unfold vO at hp;rw [hp] at hK;refine hJ1 _ _ (jH h2 rfl λw3 h3 hc3 hs3=>?_);exact hK ⟨none,0,0⟩ w3 (Rd.nil _ _) (λk hk=>by cases hk) h3 (hc2.trans hc3 λi _ hi=>hi)
 refine jw (x:=s.bad) (h.cells 4 _ rfl) (cO (λe=>?_) λe=>?_)
 ·have e:s.bad=false:=by simpa using e
  rw [if_neg (by rw [e];decide)] at hK;refine zd6 h hs e (λhp w2 hB2=>cF rfl (bad ?_ w2 (h.ext hB2) (Chg.of_ext hB2))) (λo s' t w2 hp ht htb hd hc=>cT rfl ?_)
  ·unfold vO;rw [if_neg (by rw [e];decide),hp]
  ·rw [hp] at hK;exact hK t w2 ht htb hd hc
 ·have e:s.bad=true:=by simpa using e
  refine bad ?_ w h (Chg.refl _ _);unfold vO;rw [if_pos e]
theorem zev (h:JC w g s) (hs:B64Ok s) {K:Slc->Int->Ub}
  (hK:∀t w',Rd qu w' t (qbt s).2.1->(∀k,t.blk=some k->w.heap.size<=k)->JC w' g (qbt s).2.2->Chg (λk=>k=g) w w'->K t ((qbt s).1:Nat) w'):Qi (some ⟨g,0,none⟩) w K:=by
 refine qfx _ ?_;simp only [onPtr_some];have hn:=hs.n;have hgl:=h.lt;refine jpO λJ1 hJ1=>jpO λJ2 hJ2=>?_;unfold qbt at hK;have key:∀(bb:Bool) w2,(bb=true↔s.bad=true\/s.w.length+s.f=1\/0<s.f\/ql5 s.w=false)->JC w2 g s->Uc w w2->J2 (bb,()) w2:=by
  intro bb w2 hbb h2 hB2;refine hJ2 _ _ (cO (λe=>?_) λe=>?_)
  ·rw [if_pos (hbb.1 e)] at hK;refine jH h2 rfl λw3 h3 hc3 hs3=>?_;exact hK ⟨none,0,0⟩ w3 (Rd.nil _ _) (λk hk=>by cases hk) h3 ((Chg.of_ext (S:=λk=>k=g) hB2).trans hc3 λi _ hi=>hi)
  ·rw [if_neg λh=>by rw [hbb.2 h] at e;cases e] at hK;refine hJ1 _ _ (qu9 h2 (by omega) hs.v λt w3 ht htb h3 hB3=>?_);refine qb2 _ ?_;simp only [onPtr_some];refine jH h3 rfl λw4 h4 hc4 hs4=>?_;have hs2:=hB2.size;refine hK t w4 (ht.chg hc4 λa ha e=>?_) (λk hk=>by have:=htb k hk;omega) h4 (((Chg.of_ext (S:=λk=>k=g) hB2).trans (Chg.of_ext (S:=λk=>k=g) hB3) λi _ hi=>hi).trans hc4 λi _ hi=>hi);have:=htb a.block (slk.2 ⟨a,ha,rfl⟩);omega
 have hrf:=Below.refl w.heap.size w;refine jw (x:=s.bad) (h.cells 4 _ rfl) (cO (λe=>key _ w ?_ h hrf) λe1=>?_)
 ·have e:s.bad=true:=e;simp [e]
 have e1:s.bad=false:=e1;refine lI (x:=((s.w.length+s.f:Nat):Int)) (h.cells 1 _ rfl) (cO (λe=>key _ w ?_ h hrf) λe2=>?_)
 ·have e:s.w.length+s.f=1:=by have:=eq_of_beq e;omega
  simp [e]
 have e2:s.w.length+s.f≠1:=λh=>by rw [h] at e2;cases e2
 refine lI (x:=(s.f:Int)) (h.cells 2 _ rfl) (cO (λe=>key _ w ?_ h hrf) λe3=>?_)
 ·have e:=oTq e;exact iff_of_true rfl (.inr (.inr (.inl (by omega))))
 have e3:=oFq e3;refine qvd h (by omega) hs.v (key _ _ ?_ (h.ext (bdw w)) (bdw w));rw [e1];constructor
 ·intro h;exact .inr (.inr (.inr (by simpa using h)))
 ·rintro (h | h | h | h)
  ·cases h
  ·exact absurd h e2
  ·omega
  ·rw [h];rfl
end
structure LdK where
 k:qb
 most:Nat
 need:Nat
structure LdS where
 d:B64
 b:List UInt8
 err:Nat
 over:Bool
def zih (C:LdK) (n:Nat):Nat:=if n>C.most then 6 else if C.k.Zip=0/\C.k.Format≠100/\n>C.need then 5 else 0
def qur (s:LdS) (e:Nat):LdS:=if s.err=0/\e≠0 then { s with b:=[],err:=e } else s
def qwk (C:LdK) (s:LdS) (r:Nat×List UInt8×B64):LdS :=
 if r.1≠0 then qur { s with d:=r.2.2 } r.1 else qur { s with d:=r.2.2,b:=s.b++r.2.1 } (zih C (s.b++r.2.1).length)
def qx4 (C:LdK) (s:LdS) (c:UInt8):LdS:=if s.err≠0 then s else qwk C s (vO s.d c)
def ZF (C:LdK) (s:LdS) (text:List UInt8):LdS:=text.foldl (qx4 C) s
def qpi (C:LdK) (s:LdS):LdS:=if s.err≠0 then s else qwk C s (qbt s.d)
theorem quw (C:LdK) (s:LdS) (a b:List UInt8):ZF C s (a++b)=ZF C (ZF C s a) b:=List.foldl_append
theorem ze0 (C:LdK) (s:LdS) (c:UInt8):(qx4 C s c).over=s.over:=by
 unfold qx4 qwk qur
 repeat' split
 all_goals rfl
theorem zb7 (s:B64) (hs:B64Ok s) (c:UInt8):(vO s c).2.1.length<=3:=by
 unfold vO;split
 ·simp
 ·cases hp:qau s c with
  | none=>simp
  | some r =>
   obtain ⟨o,s'⟩:=r;show o.length<=3;have fin:∀s1:B64,some (yT s1)=some (o,s')->o.length<=3:=by
    intro s1 h;have:o=(yT s1).1:=by rw [Option.some.inj h]
    rw [this];unfold yT;split
    ·simp
    ·unfold q05;rw [length_take];exact Nat.min_le_right _ 3
   unfold qau at hp;split at hp
   ·cases hp
   ·split at hp
    ·split at hp
     ·cases hp
     ·exact fin _ hp
    ·split at hp
     ·cases hp
     ·split at hp
      ·cases hp
      ·exact fin _ hp
theorem zha (C:LdK) (s:LdS) (r:Nat×List UInt8×B64):(qwk C s r).b.length<=s.b.length+r.2.1.length:=by
 unfold qwk qur
 repeat' split
 all_goals simp
theorem zhn {C:LdK} {s:LdS} (h:s.err≠0) (c:UInt8):qx4 C s c=s:=by unfold qx4;rw [if_pos h]
theorem zir {C:LdK} {s:LdS} (h:s.err≠0) (l:List UInt8):ZF C s l=s:=by
 induction l with
 | nil=>rfl
 | cons c l ih=>show ZF C (qx4 C s c) l=s;rw [zhn h];exact ih
def yc (gd:Nat) (C:LdK) (p:Slc) (held err:Nat) (over:Bool):List Value:=.pointer (some ⟨gd,0,none⟩)::(qb.rep.cells C.k++[.int .i64 (C.most:Int),.int .i64 (C.need:Int),.slice p.a p.n p.c,.int .i64 (held:Int),.int .i64 (err:Int),.bool over])
def PcS (w:World) (B:Nat) (S:Nat->Prop) (p:Slc) (bs:List UInt8):Prop :=
 (bs=[]/\p=⟨none,0,0⟩)\/∃x,Go.Vc.Own vZ w B p [x]/\Go.Vc.Own qu w B x bs/\bs≠[]/\(∀k,p.blk=some k->S k)/\(∀k,x.blk=some k->S k)
structure LdA (w:World) (B g gd:Nat) (C:LdK) (s:LdS) (S:Nat->Prop):Prop where
 ex:∃p:Slc,Blk w g j9 (yc gd C p s.b.length s.err s.over)/\PcS w B S p s.b
 d:JC w gd s.d
 ok:B64Ok s.d
 sg:S g
 sd:S gd
 lt:∀k,S k->B<=k/\k<w.heap.size
section
variable {w:World} {B g gd:Nat} {C:LdK} {s:LdS} {S:Nat->Prop}
theorem PcS.chg {w':World} {p:Slc} {bs:List UInt8} {T:Nat->Prop} (h:PcS w B S p bs) (hc:Chg T w w') (hT:∀k,S k->¬T k):PcS w' B S p bs:=by
 rcases h with h | ⟨x,h1,h2,h3,h4,h5⟩
 ·exact .inl h
 ·exact .inr ⟨x,h1.chg hc λk hk=>hT k (h4 k hk),h2.chg hc λk hk=>hT k (h5 k hk),h3,h4,h5⟩
theorem LdA.chg {w':World} {T:Nat->Prop} (h:LdA w B g gd C s S) (hc:Chg T w w') (hT:∀k,S k->¬T k):LdA w' B g gd C s S:=by
 obtain ⟨⟨p,h1,h2⟩,h3,h4,h5,h6,h7⟩:=h;exact ⟨⟨p,h1.chg hc (hT g h5),h2.chg hc hT⟩,Blk.chg h3 hc (hT gd h6),h4,h5,h6,λk hk=>⟨(h7 k hk).1,Nat.lt_of_lt_of_le (h7 k hk).2 hc.size⟩⟩
theorem LdA.ext {w':World} (h:LdA w B g gd C s S) (hB:Uc w w'):LdA w' B g gd C s S:=h.chg (Chg.of_ext (S:=λ_=>False) hB) λk _ hf=>hf
end
theorem qtj (n:Nat):jU (List.replicate n 0)=List.replicate n (.int .u8 0):=by
 unfold jU;rw [List.map_replicate];rfl
theorem mkB {n m:Nat} {l c:Int} (hl:l=n) (hc:c=m) (hnm:n<=m) (hm:m<=100000000000) {w:World} {K:Slc->Ub}
  (hK:∀w',Go.Vc.Own qu w' w.heap.size ⟨some ⟨w.heap.size,0,none⟩,n,m⟩ (List.replicate n 0)->Uc w w'->K ⟨some ⟨w.heap.size,0,none⟩,n,m⟩ w'):zeh PG qm (Ua l) (Ua c) w K:=by
 subst hl hc;have hr:=run_make (P:=PG) w qm qu.t zh.i zh.z zh.ht zh.hi zh.hz .i64 .i64 (n:Int) (m:Int) (by omega) (by omega) (by rw [xX];omega) (by omega);refine ⟨⟨some ⟨w.heap.size,0,none⟩,n,m⟩,_,by simpa using hr,hK _ ?_ ((Below.refl _ w).alloc (le_refl _) _)⟩;have hcur:(madeCells zh.z.cells ((m:Int).toNat*zh.i.size)).toList=List.replicate m (.int .u8 0):=by
  have hs:zh.i.size=1:=zh.hs;rw [hs,toNat_natCast,mul_one];refine List.ext_getElem? λj=>?_;have hz:zh.z.cells=#[.int .u8 0]:=rfl;rw [hz];by_cases hj:j<m
  ·rw [Array.getElem?_toList,List.getElem?_replicate,if_pos hj];simp [madeCells,hj];rw [Nat.mod_one];rfl
  ·rw [List.getElem?_eq_none (by simp [madeCells];omega),List.getElem?_eq_none (by simp;omega)]
 have hb:Blk (w.alloc (.cells (madeCells zh.z.cells ((m:Int).toNat*zh.i.size)) qu.t)) w.heap.size qu.t (List.replicate m (.int .u8 0)):=by
  have:=Blk.new w qu.t (madeCells zh.z.cells ((m:Int).toNat*zh.i.size)).toList;rw [hcur,<-hcur,Array.toArray_toList] at this;rw [hcur] at this;exact this
 have:=Go.Vc.Own.of_blk (E:=qu) (xs:=List.replicate n (0:UInt8)) (c:=m) (base:=w.heap.size) (le_refl _) hb (by simpa using hnm) (by unfold maxLen;omega) (by rw [List.length_replicate];exact (mul_one _).symm) (by
  rw [qk1,qtj,List.length_replicate];show (List.replicate m _).take (n*1)=_;rw [mul_one,List.take_replicate,Nat.min_eq_left hnm])
 simpa using this
section
variable {w:World} {B g gd:Nat} {C:LdK} {s:LdS} {S:Nat->Prop}
theorem q98 (h:LdA w B g gd C s S) (hBw:B<=w.heap.size) {t:Slc} {xs:List UInt8} (ht:Rd qu w t xs) (htS:∀k,t.blk=some k->¬S k) (hsm:s.b.length+xs.length<=32768) {K:Int->Ub}
  (hK:∀S' w',LdA w' B g gd C { s with b:=s.b++xs } S'->(∀k,S' k->S k\/w.heap.size<=k)->Chg S w w'->K ((zih C (s.b++xs).length:Nat):Int) w'):kq (some ⟨g,0,none⟩) t w K:=by
 obtain ⟨⟨p0,hb0,hp0⟩,hd0,hok,hsg,hsd,hlt⟩:=h;refine qit _ _ ?_;simp only [onPtr_some];rw [ht.n];refine lpR (λ(st:Int×Unit) w1=>∃(i:Nat) (p:Slc) (S1:Nat->Prop),st.1=i/\i<=xs.length/\Blk w1 g j9 (yc gd C p s.b.length s.err s.over)/\PcS w1 B S1 p (s.b++xs.take i)/\JC w1 gd s.d/\(∀k,S k->S1 k)/\(∀k,S1 k->S k\/w.heap.size<=k)/\(∀k,S1 k->B<=k/\k<w1.heap.size)/\Chg S w w1) (λst=>xs.length-st.1.toNat)
  ⟨0,p0,S,rfl,by omega,hb0,by rw [List.take_zero,append_nil];exact hp0,hd0,λk hk=>hk,λk hk=>.inl hk,hlt,Chg.refl _ _⟩ ?_
 rintro ⟨i,u⟩ w1 ⟨i,p,S1,rfl,hi,hb1,hp1,hd1,hS1,hS1',hlt1,hc1⟩ I hI;dsimp only;have hw1:=hc1.size;refine cO (λhl=>?_) λhl=>?_
 ·have hl:=oTq hl;have hil:i<xs.length:=by omega
  obtain ⟨c,hc,_⟩:=Go.Vc.get_of (xs:=xs) (k:=i) hil;have ht1:=ht.chg hc1 λa ha=>htS a.block (slk.2 ⟨a,ha,rfl⟩);refine ht1.ix (i:=(i:Int)) rfl (by omega) (by omega) λ_=>?_;rw [toNat_natCast];refine lI (x:=(c.toNat:Int)) (zat ht1 hc) ?_;refine jpO λJ2 hJ2=>?_;have app:∀(x q:Slc) (S2:Nat->Prop) w2,Blk w2 g j9 (yc gd C q s.b.length s.err s.over)->Go.Vc.Own vZ w2 B q [x]->Go.Vc.Own qu w2 B x (s.b++xs.take i)->(∀k,q.blk=some k->S2 k)->(∀k,x.blk=some k->S2 k)->JC w2 gd s.d->(∀k,S k->S2 k)->(∀k,S2 k->S k\/w.heap.size<=k)->(∀k,S2 k->B<=k/\k<w2.heap.size)->Chg S w w2->J2 () w2:=by
   intro x q S2 w2 hb2 hq hx hqS hxS hd2 hS2 hS2' hlt2 hc2;refine hJ2 _ _ ?_;have hw2:=hc2.size;have hBd:=bdw w2;have hb2d:=hb2.ext hBd;have hqd:=hq.ext hBd;have hxd:=hx.ext hBd;refine lSl (x:=q) (hb2d.cells 25 _ rfl) (lSl (x:=q) (hb2d.cells 25 _ rfl) ?_);have hqn:q.n=1:=hq.rd.n;have e0:i64.wrap (((q.n:Nat):Int)-1)=0:=by rw [hqn];decide
   rw [e0];refine hqd.rd.ix (i:=0) (k:=1) rfl (by omega) (by simp) λhcell=>?_;refine lSl (x:=x) (by
    have:=hqd.rd.at_ 0 x rfl 0 _ rfl;have h2:w2.drew.cell? (q.at_ vZ.k 0)=some (.slice x.a x.n x.c):=by simpa using this
    exact h2) ?_
   have hsz:w2.drew.heap.size=w2.heap.size:=rfl;refine zm3 (c:=c) rfl hxd (by omega) (by rw [length_append,length_take];omega) λr w4 hr hc4 hrb=>?_;have hq4:=hqd.chg hc4 λk hk e=>Ko hqd hxd (by decide) k hk e;have hb4:=hb2d.chg hc4 λe=>qF hxd hb2d (by decide) g e rfl;have hd4:JC w4 gd s.d:=Blk.chg (hd2.ext hBd) hc4 λe=>qF hxd (hd2.ext hBd) (by decide) gd e rfl;refine hq4.st0 (i:=0) (x:=x) (y:=r) rfl rfl λw5 hq5 hg5 hs5=>?_;have hc5:Chg (λk=>q.blk=some k) w4 w5:=Chg.of_grown hg5 λk hk=>hk;have hr5:=hr.chg hc5 λk hk e=>Ko hq4 hr (by decide) k e hk;have hb5:=hb4.chg hc5 λe=>qF hq4 hb4 (by decide) g e rfl;have hd5:JC w5 gd s.d:=Blk.chg hd4 hc5 λe=>qF hq4 hd4 (by decide) gd e rfl;have hs4:=hc4.size;have hs5':=hc5.size;have hc25:Chg S2 w2 w5:=((Chg.of_ext (S:=S2) hBd).trans hc4 λk hk e=>hxS k e).trans hc5 λk hk e=>hqS k e;rw [qQ (by omega)];refine hI _ _ ⟨i+1,q,λk=>S2 k\/r.blk=some k,rfl,by omega,hb5,.inr ⟨r,hq5,?_,?_,λk hk=>.inl (hqS k hk),λk hk=>.inr hk⟩,hd5,λk hk=>.inl (hS2 k hk),λk hk=>?_,λk hk=>?_,?_⟩ (by simp;omega)
   ·have:xs.take (i+1)=xs.take i++[c]:=by rw [take_add_one,hc];rfl
    rw [this,<-List.append_assoc];exact hr5
   ·rw [take_add_one,hc];simp
   ·rcases hk with hk | hk
    ·exact hS2' k hk
    ·rcases hrb with e | ⟨k',e,hge⟩
     ·rw [e] at hk;exact hS2' k (hxS k hk)
     ·rw [e] at hk;cases hk;right;omega
   ·rcases hk with hk | hk
    ·exact ⟨(hlt2 k hk).1,by have:=(hlt2 k hk).2;omega⟩
    ·have:=hr5.lt k hk;exact ⟨this.1,this.2⟩
   ·exact hc2.trans hc25 λk hk hS=>by
     rcases hS2' k hS with h | h
     ·exact h
     ·omega
  refine lSl (x:=p) (hb1.cells 25 _ rfl) (jpO λJ3 hJ3=>?_);rcases hp1 with ⟨hnil,rfl⟩ | ⟨x,hq,hx,hne,hqS,hxS⟩
  ·refine cT rfl (hJ3 _ _ (cT rfl ?_));have hBd:=bdw w1;have hb1d:=hb1.ext hBd;refine lSl (x:=⟨none,0,0⟩) (hb1d.cells 25 _ rfl) ?_;refine mkB (n:=0) (m:=32768) rfl rfl (by omega) (by omega) λw7 hx7 hB7=>?_;have hB17:=bT hBd hB7;have hb7:=hb1.ext hB17;refine ⟨hb7.cells 25 _ rfl,nwb λw8 h8 hB8 hs8=>⟨(hb7.ext hB8).cells 25 _ rfl,?_⟩⟩;have hB18:=bT hB17 hB8;have hw8:=hB18.size;refine jz qkl (E:=vZ) (base:=B) (Go.Vc.Own.nil vZ w8 B) (Ze (E:=vZ) (y:=⟨some ⟨w1.drew.heap.size,0,none⟩,0,32768⟩) h8 rfl) (by omega) (by rw [qw8];simp) (by simp [maxLen]) λq w9 hq9 hg9 hqb=>?_;have hc9:Chg (λk=>False) w8 w9:=Chg.of_grown hg9 λk hk=>by cases hk
   have hB9:Uc w8 w9:=hc9.ext λ_ _ hf=>hf;have hb9:=(hb7.ext hB8).ext hB9;have hq9:Go.Vc.Own vZ w9 B q [⟨some ⟨w1.drew.heap.size,0,none⟩,0,32768⟩]:=hq9;have hx9:=(hx7.ext hB8).ext hB9;rw [qH];refine qB hb9 (by simp [yc,qb.rep]) λw10 hb10 hg10 hs10=>?_;have hc10:Chg (λk=>k=g) w9 w10:=Go.Vc.Chg.gg hg10;have hb10:Blk w10 g j9 (yc gd C q s.b.length s.err s.over):=hb10;have hB19:=bT hB18 hB9;have hw9:=hB19.size;have hw10:=hc10.size;refine app _ q (λk=>S1 k\/q.blk=some k\/k=w1.drew.heap.size) w10 hb10 (hq9.chg hc10 λk hk=>qF hq9 hb9 (by decide) k hk) ?_ (λk hk=>.inr (.inl hk)) (λk hk=>.inr (.inr (by cases hk;rfl))) (Blk.chg (hd1.ext hB19) hc10 λe=>by subst e;exact (hd1.ext hB19).ne_t hb9 (by decide) rfl) (λk hk=>.inl (hS1 k hk)) (λk hk=>?_) (λk hk=>?_) ?_
   ·rw [hnil];refine (hx9.chg hc10 λk hk=>qF hx9 hb9 (by decide) k hk).base ?_;show B<=w1.heap.size;omega
   ·rcases hk with hk | hk | hk
    ·exact hS1' k hk
    ·right;rcases hqb with e | e
     ·rw [e] at hk;cases hk
     ·rw [e] at hk;cases hk;omega
    ·right;have:w1.drew.heap.size=w1.heap.size:=rfl;omega
   ·rcases hk with hk | hk | hk
    ·exact ⟨(hlt1 k hk).1,by have:=(hlt1 k hk).2;omega⟩
    ·have:=(hq9.lt k hk);exact ⟨this.1,by omega⟩
    ·have h1:w1.drew.heap.size=w1.heap.size:=rfl;have:=(hx9.lt k (by rw [hk];rfl)).2;exact ⟨by omega,by omega⟩
   ·refine (hc1.trans (Chg.of_ext (S:=S) hB19) λk _ hk=>hk).trans hc10 λk _ hk=>?_;subst hk;exact hsg
  ·have hqn:p.n=1:=hq.rd.n;have hxn:x.n=(s.b++xs.take i).length:=hx.rd.n;rw [length_append,length_take] at hxn;refine cF (by rw [hqn];rfl) ?_;have e0:i64.wrap (((p.n:Nat):Int)-1)=0:=by rw [hqn];decide
   refine lSl (x:=p) (hb1.cells 25 _ rfl) ?_;rw [e0];refine hq.rd.ix (i:=0) (k:=1) rfl (by omega) (by simp) λhcell=>?_;refine lSl (x:=x) (by
    have:=hq.rd.at_ 0 x rfl 0 _ rfl;have h2:w1.cell? (p.at_ vZ.k 0)=some (.slice x.a x.n x.c):=by simpa using this
    exact h2) (hJ3 _ _ (cF ?_ (app x p S1 w1 hb1 hq hx hqS hxS hd1 hS1 hS1' hlt1 hc1)))
   dsimp only;exact zbi (by omega)
 ·have hl:=oFq hl;obtain rfl:i=xs.length:=by omega
  rw [take_length] at hp1;refine lI (x:=(s.b.length:Int)) (hb1.cells 26 _ rfl) ?_;rw [qH,qQ (by omega),show ((s.b.length:Nat):Int)+((xs.length:Nat):Int)=(((s.b++xs).length:Nat):Int) by simp];refine qB hb1 (by simp [yc,qb.rep]) λw2 hb2 hg2 hs2=>?_;have hb2:Blk w2 g j9 (yc gd C p (s.b++xs).length s.err s.over):=hb2;have hc2:Chg (λk=>k=g) w1 w2:=Go.Vc.Chg.gg hg2;have hp2:PcS w2 B S1 p (s.b++xs):=by
   rcases hp1 with h | ⟨x,h1,h2,h3,h4,h5⟩
   ·exact .inl h
   ·exact .inr ⟨x,h1.chg hc2 λk hk=>qF h1 hb1 (by decide) k hk,h2.chg hc2 λk hk=>qF h2 hb1 (by decide) k hk,h3,h4,h5⟩
  have hd2:JC w2 gd s.d:=Blk.chg hd1 hc2 λe=>by subst e;exact hd1.ne_t hb1 (by decide) rfl
  have hA2:LdA w2 B g gd C { s with b:=s.b++xs } S1:=⟨⟨p,hb2,hp2⟩,hd2,hok,hS1 g hsg,hS1 gd hsd,λk hk=>⟨(hlt1 k hk).1,Nat.lt_of_lt_of_le (hlt1 k hk).2 hc2.size⟩⟩;have hC2:Chg S w w2:=hc1.trans hc2 λk _ hk=>by subst hk;exact hsg
  have hBd:=bdw w2;have hBdd:=bT hBd (bdw w2.drew);have hb2d:=hb2.ext hBd;have hb2dd:=hb2.ext hBdd;have hKd:=hK S1 w2.drew (hA2.ext hBd) hS1' (hC2.trans (Chg.of_ext (S:=S) hBd) λk _ hk=>hk);have hKdd:=hK S1 w2.drew.drew (hA2.ext hBdd) hS1' (hC2.trans (Chg.of_ext (S:=S) hBdd) λk _ hk=>hk);unfold zih at hKd hKdd;refine lI (x:=(((s.b++xs).length:Nat):Int)) (hb2d.cells 26 _ rfl) (lI (x:=(C.most:Int)) (hb2d.cells 23 _ rfl) ?_);refine cO (λe=>?_) λe=>?_
  ·have e:=oTq e;rw [if_pos (by omega)] at hKd;exact hKd
  have e:=oFq e;rw [if_neg (by omega)] at hKdd;refine lI (x:=C.k.Zip) (hb2dd.cells 3 _ rfl) (cO (λez=>?_) λez=>?_)
  ·have ez:C.k.Zip=0:=eq_of_beq ez;refine lI (x:=C.k.Format) (hb2dd.cells 6 _ rfl) (cO (λef=>?_) λef=>?_)
   ·have ef:C.k.Format≠100:=by simpa using ef
    refine lI (x:=(((s.b++xs).length:Nat):Int)) (hb2dd.cells 26 _ rfl) (lI (x:=(C.need:Int)) (hb2dd.cells 24 _ rfl) (cO (λen=>?_) λen=>?_))
    ·have en:=oTq en;rw [if_pos ⟨ez,ef,by omega⟩] at hKdd;exact hKdd
    ·have en:=oFq en;rw [if_neg λh=>en (by have:=h.2.2;omega)] at hKdd;exact hKdd
   ·have ef:C.k.Format=100:=by simpa using ef
    rw [if_neg λh=>h.2.1 ef] at hKdd;exact hKdd
  ·have ez:C.k.Zip≠0:=by simpa using ez
   rw [if_neg λh=>ez h.1] at hKdd;exact hKdd
theorem qya (h:LdA w B g gd C s S) {e:Nat} {K:Ub} (hK:∀w',LdA w' B g gd C (qur s e) S->Chg S w w'->K w'):jk (some ⟨g,0,none⟩) (e:Int) w K:=by
 obtain ⟨⟨p,hb,hp⟩,hd,hok,hsg,hsd,hlt⟩:=h;refine qiw _ _ ?_;simp only [onPtr_some];refine jpO λJ1 hJ1=>?_;unfold qur at hK;have no:¬(s.err=0/\e≠0)->K w:=λhn=>by
  rw [if_neg hn] at hK;exact hK w ⟨⟨p,hb,hp⟩,hd,hok,hsg,hsd,hlt⟩ (Chg.refl _ _)
 refine lI (x:=(s.err:Int)) (hb.cells 27 _ rfl) (cO (λe1=>hJ1 _ _ ?_) λe1=>hJ1 _ _ (cF rfl (no λh=>?_)))
 ·have e1:s.err=0:=by have:=eq_of_beq e1;omega
  refine cO (λe2=>?_) λe2=>no λh=>?_
  ·have e2:e≠0:=λh=>by rw [h] at e2;cases e2
   rw [if_pos ⟨e1,e2⟩] at hK;rw [qH];refine qB hb (by simp [yc,qb.rep]) λw2 hb2 hg2 hs2=>?_;refine XU _ ?_;simp only [onPtr_some];rw [qH];refine qB hb2 (by simp [yc,qb.rep,putL]) λw3 hb3 hg3 hs3=>?_;rw [qH];refine qB hb3 (by simp [yc,qb.rep,putL]) λw4 hb4 hg4 hs4=>?_;have hc:Chg (λk=>k=g) w w4:=((Go.Vc.Chg.gg hg2).trans (Go.Vc.Chg.gg hg3) λi _ hi=>hi).trans (Go.Vc.Chg.gg hg4) λi _ hi=>hi;have hb4:Blk w4 g j9 (yc gd C ⟨none,0,0⟩ 0 e s.over):=hb4;have hd4:JC w4 gd s.d:=Blk.chg hd hc λe=>by subst e;exact hd.ne_t hb (by decide) rfl
   exact hK w4 ⟨⟨⟨none,0,0⟩,hb4,.inl ⟨rfl,rfl⟩⟩,hd4,hok,hsg,hsd,λk hk=>⟨(hlt k hk).1,Nat.lt_of_lt_of_le (hlt k hk).2 hc.size⟩⟩ (hc.mono λk _ hk=>by subst hk;exact hsg)
  ·rw [qyy (by have:=h.2;omega)] at e2;cases e2
 ·rw [h.1] at e1;cases e1
end
section
variable {w:World} {B g gd:Nat} {C:LdK} {s:LdS} {S:Nat->Prop}
theorem LdA.setD {w':World} {d':B64} (h:LdA w B g gd C s S) (hd':JC w' gd d') (hok:B64Ok d') (hc:Chg (λk=>k=gd) w w'):LdA w' B g gd C { s with d:=d' } S:=by
 obtain ⟨⟨p,h1,h2⟩,h3,h4,h5,h6,h7⟩:=h;refine ⟨⟨p,h1.chg hc λe=>by subst e;exact h1.ne_t h3 (by decide) rfl,?_⟩,hd',hok,h5,h6,λk hk=>⟨(h7 k hk).1,Nat.lt_of_lt_of_le (h7 k hk).2 hc.size⟩⟩;rcases h2 with h | ⟨x,a1,a2,a3,a4,a5⟩
 ·exact .inl h
 ·exact .inr ⟨x,a1.chg hc λk hk=>qF a1 h3 (by decide) k hk,a2.chg hc λk hk=>qF a2 h3 (by decide) k hk,a3,a4,a5⟩
theorem q2i (h:LdA w B g gd C s S) (hBw:B<=w.heap.size) {r:Nat×List UInt8×B64} {t:Slc} {w2:World} (ht:Rd qu w2 t r.2.1) (htb:∀k,t.blk=some k->w.heap.size<=k) (hd:JC w2 gd r.2.2) (hok:B64Ok r.2.2) (hc:Chg (λk=>k=gd) w w2) (hsm:s.b.length+r.2.1.length<=32768) {K:Ub}
  (hK:∀S' w',LdA w' B g gd C (qwk C s r) S'->(∀k,S' k->S k\/w.heap.size<=k)->Chg S w w'->K w') :
  cond ((r.1:Int)==(0:Int)) (kq (some ⟨g,0,none⟩) t w2 λt37 w4=>jk (some ⟨g,0,none⟩) t37 w4 λw5=>K w5) (jk (some ⟨g,0,none⟩) (r.1:Int) w2 λw6=>K w6):=by
 have h2:=h.setD hd hok hc;have hs:=hc.size;have hC:Chg S w w2:=hc.mono λk _ hk=>by subst hk;exact h.sd
 unfold qwk at hK;refine cO (λe=>?_) λe=>?_
 ·have e:r.1=0:=by have:=eq_of_beq e;omega
  rw [if_neg (by omega)] at hK;refine q98 h2 (by omega) ht (λk hk hS=>by have:=htb k hk;have:=(h.lt k hS).2;omega) hsm λS' w4 h4 hS' hc4=>?_;refine qya h4 λw5 h5 hc5=>?_;refine hK S' w5 h5 (λk hk=>?_) ((hC.trans hc4 λk _ hk=>hk).trans hc5 λk hk hS=>?_)
  ·rcases hS' k hk with h | h
   ·exact .inl h
   ·right;omega
  ·rcases hS' k hS with h | h
   ·exact h
   ·omega
 ·have e:r.1≠0:=λh=>by rw [h] at e;cases e
  rw [if_pos e] at hK;refine qya h2 λw5 h5 hc5=>?_;exact hK S w5 h5 (λk hk=>.inl hk) (hC.trans hc5 λk _ hk=>hk)
def qnf (s:LdS):Nat:=4*s.b.length+3*(s.d.w.length+s.d.f)
theorem zaw (s:B64):4*(yT s).1.length+3*((yT s).2.w.length+(yT s).2.f)<=3*(s.w.length+s.f):=by
 unfold yT;split
 ·show 4*0+3*(s.w.length+s.f)<=_;omega
 ·have h:(q05 s.w).length<=3:=by
   unfold q05;rw [length_take];exact Nat.min_le_right _ 3
  show 4*(q05 s.w).length+3*(0+0)<=_;omega
theorem q97 (s:B64) (c:UInt8):4*(vO s c).2.1.length+3*((vO s c).2.2.w.length+(vO s c).2.2.f)<=3*(s.w.length+s.f)+3:=by
 unfold vO;split
 ·show 4*0+3*(0+0)<=_;omega
 ·cases hp:qau s c with
  | none =>
   show 4*0+3*(0+0)<=_;omega
  | some r =>
   obtain ⟨o,s'⟩:=r;show 4*o.length+3*(s'.w.length+s'.f)<=_;have fin:∀s1:B64,some (yT s1)=some (o,s')->s1.w.length+s1.f=s.w.length+s.f+1->4*o.length+3*(s'.w.length+s'.f)<=3*(s.w.length+s.f)+3:=by
    intro s1 h h1;have e:=Option.some.inj h;have h2:=zaw s1;rw [e] at h2;dsimp only at h2;omega
   unfold qau at hp;split at hp
   ·cases hp
   ·split at hp
    ·split at hp
     ·cases hp
     ·exact fin _ hp (by show s.w.length+(s.f+1)=_;omega)
    ·split at hp
     ·cases hp
     ·split at hp
      ·cases hp
      ·exact fin _ hp (by show (s.w++[_]).length+s.f=_;simp;omega)
theorem zjf (C:LdK) (s:LdS) (c:UInt8):qnf (qx4 C s c)<=qnf s+3:=by
 unfold qx4;split
 ·omega
 ·have h:=q97 s.d c;unfold qwk qur qnf;generalize vO s.d c=r at h
  repeat' split
  all_goals (simp only [length_append,length_nil];omega)
theorem zex (h:LdA w B g gd C s S) (hBw:B<=w.heap.size) (hov:s.over=false) {t:Slc} {ts:List UInt8} (ht:Rd qu w t ts) (htS:∀k,t.blk=some k->ts≠[]->¬S k) (hsm:qnf s+3*ts.length<=120000) {K:Int->Ub}
  (hK:∀S' w',LdA w' B g gd C (ZF C s ts) S'->(ZF C s ts).over=false->qnf (ZF C s ts)<=qnf s+3*ts.length->(∀k,S' k->S k\/w.heap.size<=k)->Chg S w w'->K (((ZF C s ts).err:Nat):Int) w'):JT (some ⟨g,0,none⟩) t w K:=by
 refine ql4 _ _ ?_;simp only [onPtr_some];obtain ⟨p0,hb0,_⟩:=h.ex;refine jw (x:=s.over) (hb0.cells 28 _ rfl) (cF hov (jpO λJ1 hJ1=>?_));have tell:∀S1 w1 i,i<=ts.length->LdA w1 B g gd C (ZF C s (ts.take i)) S1->(ZF C s (ts.take i)).over=false->qnf (ZF C s (ts.take i))<=qnf s+3*i->(∀k,S1 k->S k\/w.heap.size<=k)->Chg S w w1->(i=ts.length\/(ZF C s (ts.take i)).err≠0)->J1 () w1:=by
  intro S1 w1 i hi h1 ho hl hS1 hc1 hor;refine hJ1 _ _ ?_;have e:ZF C s ts=ZF C s (ts.take i):=by
   rcases hor with rfl | he
   ·rw [take_length]
   ·conv=>lhs;rw [<-List.take_append_drop i ts,quw,zir he]
  rw [e] at hK;obtain ⟨p1,hb1,_⟩:=h1.ex;exact lI (x:=(((ZF C s (ts.take i)).err:Nat):Int)) (hb1.cells 27 _ rfl) (hK S1 w1 h1 ho (by omega) hS1 hc1)
 rw [ht.n];refine lpR (λ(st:Int×Unit) w1=>∃(i:Nat) (S1:Nat->Prop),st.1=i/\i<=ts.length/\LdA w1 B g gd C (ZF C s (ts.take i)) S1/\(ZF C s (ts.take i)).over=false/\qnf (ZF C s (ts.take i))<=qnf s+3*i/\(∀k,S1 k->S k\/w.heap.size<=k)/\Chg S w w1) (λst=>ts.length-st.1.toNat)
  ⟨0,S,rfl,by omega,h,hov,le_refl _,λk hk=>.inl hk,Chg.refl _ _⟩ ?_
 rintro ⟨i,u⟩ w1 ⟨i,S1,rfl,hi,h1,ho1,hl1,hS1,hc1⟩ I hI;dsimp only;have hw1:=hc1.size;refine cO (λhlt=>?_) λhge=>?_
 ·have hlt:=oTq hlt;have hil:i<ts.length:=by omega
  obtain ⟨c,hc,_⟩:=Go.Vc.get_of (xs:=ts) (k:=i) hil;have htn:ts≠[]:=λh=>by rw [h] at hil;simp at hil
  have ht1:=ht.chg hc1 λa ha=>htS a.block (slk.2 ⟨a,ha,rfl⟩) htn;refine ht1.ix (i:=(i:Int)) rfl (by omega) (by omega) λ_=>?_;rw [toNat_natCast];refine lI (x:=(c.toNat:Int)) (zat ht1 hc) ?_;obtain ⟨s1,hs1⟩:∃s1,s1=ZF C s (ts.take i):=⟨_,rfl⟩;have hsucc:ZF C s (ts.take (i+1))=qx4 C s1 c:=by
   rw [take_add_one,hc,quw,<-hs1];rfl
  rw [<-hs1] at h1 ho1 hl1;obtain ⟨p1,hb1,_⟩:=h1.ex;refine lI (x:=(s1.err:Int)) (hb1.cells 27 _ rfl) (cO (λe=>?_) λe=>?_)
  ·have e:s1.err≠0:=λh=>by rw [h] at e;cases e
   rw [hs1] at h1 ho1 hl1 e;exact tell S1 w1 i hi h1 ho1 hl1 hS1 hc1 (.inr e)
  ·have e:s1.err=0:=by
    rcases Nat.eq_zero_or_pos s1.err with h | h
    ·exact h
    ·rw [qyy (by omega)] at e;cases e
   refine qK (x:=some ⟨gd,0,none⟩) (hb1.cells 0 _ rfl) ?_;refine zd5 h1.d h1.ok λt3 w3 ht3 htb3 hd3 hc3=>?_;have hpl:=zb7 s1.d h1.ok c;have hpb:4*s1.b.length<=qnf s1:=by unfold qnf;omega
   have hac:qx4 C s1 c=qwk C s1 (vO s1.d c):=by unfold qx4;rw [if_neg (by omega)]
   have:=q2i h1 (by omega) ht3 htb3 hd3 (zed h1.ok c) hc3 (by omega) (K:=λw5=>I ((i64.wrap ((i:Int)+(1:Int))),()) w5) λS' w5 h5 hS' hc5=>by
    rw [qQ (by omega)];rw [<-hac] at h5;refine hI _ _ ⟨i+1,S',rfl,by omega,by rw [hsucc];exact h5,by rw [hsucc,ze0];exact ho1,?_,λk hk=>?_,hc1.trans hc5 λk hk hS=>?_⟩ (by simp;omega)
    ·rw [hsucc];have:=zjf C s1 c;omega
    ·rcases hS' k hk with h | h
     ·exact hS1 k h
     ·right;omega
    ·rcases hS1 k hS with h | h
     ·exact h
     ·omega
   exact this
 ·have hge:=oFq hge;obtain rfl:i=ts.length:=by omega
  exact tell S1 w1 ts.length (le_refl _) h1 ho1 hl1 hS1 hc1 (.inl rfl)
theorem za3 (h:LdA w B g gd C s S) {K:Int->Ub} (hK:K ((s.b.length:Nat):Int) w):ZE (some ⟨g,0,none⟩) w K:=by
 refine qi4 _ ?_;simp only [onPtr_some];obtain ⟨p,hb,_⟩:=h.ex;exact lI (x:=(s.b.length:Int)) (hb.cells 26 _ rfl) hK
def yA (k:qb):Nat×Nat :=
 if k.Medium≠100\/(k.Zip≠0/\k.Zip≠122) then (8,0)
 else if k.Format=100 then (0,0)
 else if k.Format≠24/\k.Format≠32 then (8,0)
 else if k.W<1\/k.W>16384\/k.H<1\/k.H>16384 then (1,0)
 else (0,k.Format.toNat/8*k.W.toNat*k.H.toNat)
theorem qw5 {n:Int} {K:Bool->Ub} (hK:K (decide (1<=n/\n<=16384)) w):KG n w K:=by
 refine qs8 _ ?_;refine cO (λe=>?_) λe=>?_
 ·have e:=oTq e;have:decide (1<=n/\n<=16384)=decide (n<=16384):=by rw [decide_eq_decide];omega
  rw [this] at hK;exact hK
 ·have e:=oFq e;rw [dFq (by omega)] at hK;exact hK
theorem zaq {k:qb} {K:Int->Int->Ub} (hK:∀w',Uc w w'->K ((yA k).2:Nat) ((yA k).1:Nat) w'):qgx k w K:=by
 refine qwe _ ?_;refine nwb λw1 h1 hB1 hs1=>jpO λJ1 hJ1=>jpO λJ2 hJ2=>?_;have hk:=hK w1 hB1;unfold yA at hk;have key:∀bb:Bool,(bb=true↔k.Medium≠100\/(k.Zip≠0/\k.Zip≠122))->J2 (bb,()) w1:=by
  intro bb hbb;refine hJ2 _ _ (cO (λe=>?_) λe=>?_)
  ·rw [if_pos (hbb.1 e)] at hk;exact hk
  rw [if_neg λh=>by rw [hbb.2 h] at e;cases e] at hk;refine lI (x:=k.Format) (h1.cells 5 _ rfl) (cO (λe=>?_) λe5=>?_)
  ·rw [if_pos (eq_of_beq e)] at hk;exact hk
  have e5:k.Format≠100:=by simpa using e5
  rw [if_neg e5] at hk;refine jpO λJ3 hJ3=>?_;have key2:∀bb:Bool,(bb=true↔k.Format≠24/\k.Format≠32)->J3 (bb,()) w1:=by
   intro bb hbb;refine hJ3 _ _ (cO (λe=>?_) λe=>?_)
   ·rw [if_pos (hbb.1 e)] at hk;exact hk
   have hf:¬(k.Format≠24/\k.Format≠32):=λh=>by rw [hbb.2 h] at e;cases e
   rw [if_neg hf] at hk;refine lI (x:=k.W) (h1.cells 6 _ rfl) (qw5 (cO (λe=>?_) λe=>?_))
   ·have e:¬(1<=k.W/\k.W<=16384):=λh=>by rw [dTq h] at e;cases e
    rw [if_pos (by omega)] at hk;exact hk
   have e1:1<=k.W/\k.W<=16384:=by simpa using e
   refine lI (x:=k.H) (h1.cells 7 _ rfl) (qw5 (cO (λe=>?_) λe=>?_))
   ·have e:¬(1<=k.H/\k.H<=16384):=λh=>by rw [dTq h] at e;cases e
    rw [if_pos (by omega)] at hk;exact hk
   have e2:1<=k.H/\k.H<=16384:=by simpa using e
   rw [if_neg (by omega)] at hk;refine hJ1 _ _ (lI (x:=k.Format) (h1.cells 5 _ rfl) ⟨by decide,lI (x:=k.W) (h1.cells 6 _ rfl) (lI (x:=k.H) (h1.cells 7 _ rfl) ?_)⟩);obtain ⟨W,hW⟩:∃W:Nat,k.W=W:=⟨k.W.toNat,by omega⟩;obtain ⟨H,hH⟩:∃H:Nat,k.H=H:=⟨k.H.toNat,by omega⟩;obtain ⟨f,hF⟩:∃f:Nat,k.Format=f:=⟨k.Format.toNat,by omega⟩;have hf8:f/8<=4:=by omega
   rw [hW,hH,hF] at hk ⊢;have h3:f/8*W<=4*16384:=mul_le_mul hf8 (by omega);have h4:f/8*W*H<=4*16384*16384:=mul_le_mul h3 (by omega);have ev:i64.wrap ((i64.wrap ((i64.wrap ((f:Int).tdiv (8:Int)))*(W:Int)))*(H:Int))=((f/8*W*H:Nat):Int):=by
    rw [show (8:Int)=((8:Nat):Int) from rfl,<-Int.ofNat_tdiv,qQ (x:=((f/8:Nat):Int)) (by omega),show ((f/8:Nat):Int)*(W:Int)=((f/8*W:Nat):Int) by simp,qQ (x:=((f/8*W:Nat):Int)) (by omega),show ((f/8*W:Nat):Int)*(H:Int)=((f/8*W*H:Nat):Int) by simp,qQ (by omega)]
   rw [ev];exact hk
  refine lI (x:=k.Format) (h1.cells 5 _ rfl) (cO (λe=>?_) λe=>?_)
  ·have e:k.Format≠24:=by simpa using e
   refine lI (x:=k.Format) (h1.cells 5 _ rfl) (key2 _ ?_);simp [e]
  ·have e:k.Format=24:=by simpa using e
   exact key2 _ (by simp [e])
 refine lI (x:=k.Medium) (h1.cells 1 _ rfl) (cO (λe=>?_) λe=>?_)
 ·have e:k.Medium≠100:=by simpa using e
  exact key _ (by simp [e])
 have e:k.Medium=100:=by simpa using e
 refine lI (x:=k.Zip) (h1.cells 2 _ rfl) (cO (λe2=>?_) λe2=>?_)
 ·have e2:k.Zip≠0:=by simpa using e2
  refine lI (x:=k.Zip) (h1.cells 2 _ rfl) (key _ ?_);simp [e,e2]
 ·have e2:k.Zip=0:=by simpa using e2
  exact key _ (by simp [e,e2])
end
def qwj (k:qb) (room:Int):Nat :=
 if room<0\/room>1073741824 then 1
 else if (yA k).1≠0 then (yA k).1
 else if k.Format≠100/\4*k.W*k.H>room then 6 else 0
def ld0:LdS:=⟨zfr,[],0,false⟩
theorem q15 {k:qb} (h:(yA k).1=0):(k.Format=100/\(yA k).2=0)\/(k.Format≠100/\(k.Format=24\/k.Format=32)/\∃W H:Nat,k.W=W/\k.H=H/\1<=W/\W<=16384/\1<=H/\H<=16384/\(yA k).2=k.Format.toNat/8*W*H):=by
 unfold yA at h ⊢;split at h
 ·cases h
 ·rename_i h1;rw [if_neg h1];split at h
  ·rename_i h2;rw [if_pos h2];exact .inl ⟨h2,rfl⟩
  ·rename_i h2;rw [if_neg h2];split at h
   ·cases h
   ·rename_i h3;rw [if_neg h3];split at h
    ·cases h
    ·rename_i h4;rw [if_neg h4];exact .inr ⟨h2,by omega,k.W.toNat,k.H.toNat,by omega,by omega,by omega,by omega,by omega,by omega,rfl⟩
def pxF (per:Nat) (b:List UInt8) (i:Nat):List UInt8:=(b.drop (per*i)).take per++[0,0,0,255].drop per
def qfj (per n:Nat) (b:List UInt8):List UInt8:=(List.range n).flatMap (pxF per b)
theorem zj6 {per:Nat} {b:List UInt8} {i:Nat} (hp:per<=4) (h:per*i+per<=b.length):(pxF per b i).length=4:=by
 unfold pxF;rw [length_append,length_take,List.length_drop,List.length_drop];show min per (b.length-per*i)+(4-per)=4;omega
theorem qy5 (per n:Nat) (b:List UInt8):qfj per (n+1) b=qfj per n b++pxF per b n:=by
 unfold qfj;rw [List.range_succ,List.flatMap_append];simp
theorem q2p {per:Nat} {b:List UInt8} (hp:per<=4):∀n,per*n<=b.length->(qfj per n b).length=4*n
 | 0,_=>rfl
 | n+1,h=>by
  have e:per*(n+1)=per*n+per:=by rw [Nat.mul_add,mul_one]
  rw [qy5,length_append,q2p hp n (by omega),zj6 hp (by omega)];omega
section
variable {w:World}
theorem zd2 {k:qb} {room:Int} {K:Option Addr->Int->Ub} (hE:qwj k room≠0->∀w',Uc w w'->K none ((qwj k room:Nat):Int) w')
  (hO:qwj k room=0->∀g gd w',LdA w' w.heap.size g gd ⟨k,room.toNat,(yA k).2⟩ ld0 (λi=>i=g\/i=gd)->Uc w w'->K (some ⟨g,0,none⟩) 0 w'):qpb k room w K:=by
 refine q1f _ _ ?_;refine nwb λw1 h1 hB1 hs1=>jpO λJ1 hJ1=>?_;unfold qwj at hE hO;refine cO (λe=>?_) λe1=>cO (λe=>?_) λe2=>hJ1 _ _ ?_
 ·have e:=oTq e;rw [if_pos (.inl e)] at hE;exact hE (by decide) w1 hB1
 ·have e:=oTq e;rw [if_pos (.inr e)] at hE;exact hE (by decide) w1 hB1
 have e1:=oFq e1;have e2:=oFq e2;rw [if_neg (by omega)] at hE hO;refine qy (r:=qb.rep) (x:=k) h1.cells ?_;refine zaq λw3 hB3=>?_;have hB13:=bT hB1 hB3;have h13:=h1.ext hB3;refine jpO λJ2 hJ2=>?_;refine cO (λe=>?_) λe=>?_
 ·have e:(yA k).1≠0:=λh=>by rw [h] at e;cases e
  rw [if_pos e] at hE;exact hE e w3 hB13
 have e0:(yA k).1=0:=by
  rcases Nat.eq_zero_or_pos (yA k).1 with h | h
  ·exact h
  ·rw [qyy (by omega)] at e;cases e
 rw [if_neg (by omega)] at hE hO;have made:¬(k.Format≠100/\4*k.W*k.H>room)->J2 () w3:=by
  intro hn;rw [if_neg hn] at hO;refine hJ2 _ _ ?_;have hBd:=bdw w3;refine qy (r:=qb.rep) (x:=k) (h13.ext hBd).cells ?_;refine qgl ?_;unfold Vv;refine nwb λw5 h5 hB5 hs5=>?_;have hB35:=bT hBd hB5;refine ⟨(h13.ext hB35).cells,nwb λw6 h6 hB6 hs6=>?_⟩;have hs13:=hB13.size;have hz:w3.drew.heap.size=w3.heap.size:=rfl;have hd:JC w6 w3.drew.heap.size zfr:=h5.ext hB6;refine hO rfl w5.heap.size w3.drew.heap.size w6 ⟨⟨⟨none,0,0⟩,?_,.inl ⟨rfl,rfl⟩⟩,hd,zdn,.inl rfl,.inr rfl,λi hi=>?_⟩ (bT (bT hB13 hB35) hB6)
  ·have hr:((room.toNat:Nat):Int)=room:=by omega
   have:yc w3.drew.heap.size ⟨k,room.toNat,(yA k).2⟩ ⟨none,0,0⟩ ld0.b.length ld0.err ld0.over=[(.pointer (some ⟨w3.drew.heap.size,0,none⟩)),(.int .u8 k.Action),(.int .u8 k.Medium),(.int .u8 k.Zip),(.int .u8 k.What),(Ua k.Quiet),(Ua k.Format),(Ua k.W),(Ua k.H),(Ua k.Id),(Ua k.Number),(Ua k.Place),(Ua k.More),(Ua k.X),(Ua k.Y),(Ua k.PW),(Ua k.PH),(Ua k.DX),(Ua k.DY),(Ua k.Rows),(Ua k.Cols),(Ua k.Z),(Ua k.Stay),(Ua room),(Ua (((yA k).2:Nat):Int)),(.slice none 0 0),(Ua 0),(Ua 0),(.bool false)]:=by
    unfold yc;rw [hr];rfl
   rw [this];exact h6
  ·rcases hi with rfl | rfl
   ·exact ⟨by omega,by omega⟩
   ·exact ⟨by omega,by omega⟩
 refine lI (x:=k.Format) (h13.cells 5 _ rfl) (cO (λef=>?_) λef=>?_)
 ·have ef:k.Format≠100:=by simpa using ef
  rcases q15 e0 with ⟨h,_⟩ | ⟨_,_,W,H,hW,hH,a1,a2,a3,a4,_⟩
  ·exact absurd h ef
  refine lI (x:=k.W) (h13.cells 6 _ rfl) (lI (x:=k.H) (h13.cells 7 _ rfl) ?_);have hWH:W*H<=16384*16384:=mul_le_mul a2 a4;have h4:4*W*H=4*(W*H):=mul_assoc _ _ _;have em:4*k.W*k.H=((4*W*H:Nat):Int):=by rw [hW,hH];simp
  have ev:i64.wrap ((i64.wrap ((4:Int)*k.W))*k.H)=((4*W*H:Nat):Int):=by
   rw [hW,hH,qQ (x:=(4:Int)*(W:Int)) (by omega),show (4:Int)*(W:Int)*(H:Int)=((4*W*H:Nat):Int) by simp,qQ (by omega)]
  rw [ev];rw [em] at hE made;refine cO (λe=>?_) λe=>made λh=>?_
  ·have e:=oTq e;rw [if_pos ⟨ef,e⟩] at hE;exact hE (by decide) w3 hB13
  ·exact oFq e h.2
 ·have ef:k.Format=100:=by simpa using ef
  exact made λh=>h.1 ef
theorem q14 {W H per:Nat} {b:Slc} {bs:List UInt8} (hper:per=3\/per=4) (hW1:1<=W) (hW2:W<=16384) (hH1:1<=H) (hH2:H<=16384) (hA:W*H<=67108864) (hb:Rd qu w b bs) (hl:bs.length<=1000000000) {K:qa->Int->Ub}
  (hS:bs.length<per*W*H->∀w',Uc w w'->K ⟨0,0,⟨none,0,0⟩⟩ 2 w') (hL:bs.length>per*W*H->∀w',Uc w w'->K ⟨0,0,⟨none,0,0⟩⟩ 5 w')
  (hO:bs.length=per*W*H->∀s w',Go.Vc.Own qu w' w.heap.size s (qfj per (W*H) bs)->Uc w w'->K ⟨W,H,s⟩ 0 w'):YF (W:Int) (H:Int) (per:Int) b w K:=by
 refine qv3 _ _ _ _ ?_;refine nwb λw1 h1 hB1 hs1=>?_;refine q1x hW1 hW2 hH1 hH2 hA λtm gm w2 htm hta hgm hB2=>?_;refine nwb λw3 h3 hB3 hs3=>jH h3 rfl λw4 h4 hc4 hs4=>?_;have hB24:Uc w2 w4:=b1o hB3 hc4 (le_refl _);have hB14:=bT hB2 hB24;have hB4:=bT hB1 hB14;have htm4:=(htm.ext hB3).chg hc4 λk hk=>qF (htm.ext hB3) h3 (by decide) k hk;have h14:=h1.ext hB14;have hp4:3<=per/\per<=4:=by omega
 have hpm:per*W*H=per*(W*H):=mul_assoc _ _ _;have h4m:4*W*H=4*(W*H):=mul_assoc _ _ _;have hpA:per*(W*H)<=4*(W*H):=Nat.mul_le_mul_right _ hp4.2;have htb:tm.blk=some gm:=by unfold Slc.blk;rw [hta];rfl
 have hsz2:=hB2.size;refine jpO λJ1 hJ1=>?_;have bad:∀e:Nat,e≠0->(∀w',Uc w w'->K ⟨0,0,⟨none,0,0⟩⟩ (e:Int) w')->J1 ((e:Int),()) w4:=λe he hk=>hJ1 _ _ (cT (qyy (by omega)) (zn (r:=qa.rep) (x:=⟨0,0,⟨none,0,0⟩⟩) h14 rfl rfl λw5 hc5 hs5=>hk w5 (b1o hB4 hc5 (le_refl _))));have good:bs.length=per*W*H->J1 (0,()) w4:=by
  intro hbl;refine hJ1 _ _ (cF rfl ?_);have ewh:i64.wrap ((W:Int)*(H:Int))=((W*H:Nat):Int):=by rw [show (W:Int)*(H:Int)=((W*H:Nat):Int) by simp,qQ (by omega)]
  rw [ewh];refine lpR (λ(st:Int×Unit) w5=>∃i:Nat,st.1=i/\i<=W*H/\Go.Vc.Own qu w5 w1.heap.size tm (qfj per i bs++List.replicate (4*(W*H-i)) 0)/\Chg (λk=>k=gm) w4 w5) (λst=>W*H-st.1.toNat)
   ⟨0,rfl,by omega,by rw [Nat.sub_zero,<-h4m];exact htm4,Chg.refl _ _⟩ ?_
  rintro ⟨i,u⟩ w5 ⟨i,rfl,hi,hT,hC⟩ I hI;dsimp only;have keep:∀{k tt:Nat} {cs:List Value},tt≠za->Blk w4 k tt cs->Blk w5 k tt cs:=λ{k tt cs} hne hbk=>hbk.chg hC λe=>by
   subst e;obtain ⟨cs',hcs'⟩:=htm4.blk_t htb;exact hbk.ne_t hcs' hne rfl
  have hm5:=keep (by decide) h4;have hB5:Uc w w5:=b1o hB4 hC (by have:=hB1.size;omega);refine cO (λhlt=>?_) λhge=>?_
  ·have hlt:=oTq hlt;have hil:i<W*H:=by omega
   have hpi:per*i+per<=bs.length:=by
    have:=Nat.mul_le_mul_left per (show i+1<=W*H from hil);rw [Nat.mul_add,mul_one] at this;omega
   have hfl:=q2p (b:=bs) hp4.2 i (by omega);obtain ⟨R,hR⟩:∃R:List UInt8,R=List.replicate (4*(W*H-(i+1))) 0:=⟨_,rfl⟩;have hrep:List.replicate (4*(W*H-i)) (0:UInt8)=[0,0,0,0]++R:=by
    rw [hR,show 4*(W*H-i)=4+4*(W*H-(i+1)) by omega,<-List.replicate_append_replicate];rfl
   rw [hrep] at hT;obtain ⟨A,hA'⟩:∃A,A=qfj per i bs:=⟨_,rfl⟩;rw [<-hA'] at hT hfl;refine lSl (x:=tm) (hm5.cells 2 _ rfl) ?_;rw [qQ (x:=(4:Int)*(i:Int)) (by omega),qQ (x:=(4:Int)*(i:Int)+3) (by omega),show (4:Int)*(i:Int)+3=((4*i+3:Nat):Int) by simp];refine hT.rd.ix (i:=((4*i+3:Nat):Int)) rfl (by omega) (by simp only [length_append,length_cons,length_nil];omega) λ_=>?_;rw [toNat_natCast];refine hT.st0 (i:=4*i+3) (x:=0) (y:=255) (by rw [List.getElem?_append_right (by omega),hfl,show 4*i+3-4*i=3 by omega];rfl) rfl λw6 hT6 hg6 hs6=>?_;have hc6:Chg (λk=>k=gm) w5 w6:=by rw [htb] at hg6;exact Go.Vc.Chg.gg hg6
   have hset:(A++([0,0,0,0]++R)).set (4*i+3) 255=A++([0,0,0,255]++R):=by
    rw [List.set_append_right _ _ (by omega),hfl,show 4*i+3-4*i=3 by omega];rfl
   rw [hset] at hT6;have hBd:=bdw w6;have hT6d:=hT6.ext hBd;have hm6:Blk w6 w2.heap.size qz _:=hm5.chg hc6 λe=>by
    obtain ⟨cs',hcs'⟩:=hT.blk_t htb;subst e;exact hm5.ne_t hcs' (by decide) rfl
   have hB6d:Uc w w6.drew:=bT (b1o hB5 hc6 (by have:=hB1.size;omega)) hBd;refine lSl (x:=tm) ((hm6.ext hBd).cells 2 _ rfl) ?_;have hll:(A++([0,0,0,255]++R)).length=4*i+(4+R.length):=by
    rw [length_append,length_append,hfl];rfl
   rw [show (4:Int)*(i:Int)=((4*i:Nat):Int) by simp];obtain ⟨cur,hcur,hcl,hct,hc1,hc2,hc3',hc4'⟩:=qwv (c:=0) hT6d hta;refine hT6d.rd.slK (l:=4*i) (m:=(A++([0,0,0,255]++R)).length) rfl (.inr rfl) (.inl ⟨rfl,rfl⟩) (by omega) (le_refl _) λ_=>?_;have hbd:=hb.ext hB6d;have ep:i64.wrap ((per:Int)*(i:Int))=((per*i:Nat):Int):=by rw [show (per:Int)*(i:Int)=((per*i:Nat):Int) by simp,qQ (by omega)]
   have ep2:i64.wrap (((per*i:Nat):Int)+(per:Int))=((per*i+per:Nat):Int):=by rw [qQ (by omega)];simp
   rw [ep,ep2];refine hbd.slK (l:=per*i) (m:=per*i+per) rfl (.inr rfl) (.inr rfl) (by omega) hpi λhpt=>?_;have hpe:(bs.take (per*i+per)).drop (per*i)=(bs.drop (per*i)).take per:=by rw [List.drop_take,Nat.add_sub_cancel_left]
   rw [hpe] at hpt;have hptl:((bs.drop (per*i)).take per).length=per:=by rw [length_take,List.length_drop];omega
   have hcut:cut tm.a (4*i) tm.c qu.k=some ⟨gm,4*i,none⟩:=by
    unfold cut;rw [if_neg (by omega),hta];show some ((⟨gm,0,none⟩:Addr).add (4*i*1))=_;rw [qH,mul_one,zero_add]
   rw [hcut];refine zhh (n:=per) hcur hpt (by rw [hptl,hll];show per=min per (4*i+(4+R.length)-4*i);omega) (by omega) λw7 hb7 hc7 hs7=>?_;have htk:((bs.drop (per*i)).take per).take per=(bs.drop (per*i)).take per:=take_of_length_le (by omega);rw [htk] at hb7;have hT7:=q38 (ys:=(bs.drop (per*i)).take per) (k:=4*i) hT6d hta hcur (by rw [hptl,hll];omega) hb7;rw [hptl] at hT7;have hfin:(A++([0,0,0,255]++R)).take (4*i)++(bs.drop (per*i)).take per++(A++([0,0,0,255]++R)).drop (4*i+per)=qfj per (i+1) bs++R:=by
    rw [qy5,<-hA',List.take_append_of_le_length (by omega),take_of_length_le (by omega),List.drop_append,hfl,show 4*i+per-4*i=per by omega,List.drop_of_length_le (show A.length<=4*i+per by omega),List.nil_append,List.drop_append_of_le_length (show per<=4 by omega)];unfold pxF;simp [List.append_assoc]
   rw [hfin,hR] at hT7;rw [qQ (by omega)];exact hI _ _ ⟨i+1,rfl,by omega,hT7,((hC.trans hc6 λk _ hk=>hk).trans (Chg.of_ext (S:=λk=>k=gm) hBd) λk _ hk=>hk).trans hc7 λk _ hk=>hk⟩ (by simp;omega)
  ·have hge:=oFq hge;obtain rfl:i=W*H:=by omega
   rw [Nat.sub_self,Nat.mul_zero,List.replicate_zero,append_nil] at hT;refine qy (r:=qa.rep) (x:=⟨W,H,tm⟩) hm5.cells ?_;have h15:=keep (by decide) h14;refine zn (r:=qa.rep) (x:=⟨W,H,tm⟩) h15 rfl rfl λwb hcb hsb=>?_;exact hO hbl tm wb ((hT.chg hcb λk hk=>qF hT h15 (by decide) k hk).base hB1.size) (b1o hB5 hcb (le_refl _))
 have en:i64.wrap ((i64.wrap ((per:Int)*(W:Int)))*(H:Int))=((per*W*H:Nat):Int):=by
  have h5:per*W<=4*16384:=mul_le_mul hp4.2 hW2;rw [show (per:Int)*(W:Int)=((per*W:Nat):Int) by simp,qQ (x:=((per*W:Nat):Int)) (by omega),show ((per*W:Nat):Int)*(H:Int)=((per*W*H:Nat):Int) by simp,qQ (by omega)]
 rw [hb.n,en];refine cF rfl (cO (λe=>?_) λe=>cO (λe2=>?_) λe2=>?_)
 ·have e:=oTq e;exact bad 2 (by decide) (hS (by omega))
 ·have e2:=oTq e2;exact bad 5 (by decide) (hL (by omega))
 ·have e:=oFq e;have e2:=oFq e2;exact good (by omega)
end
def qr8 (w:World) (base:Nat) (m:qa) (r:Nat×Nat×Nat×List UInt8):Prop:=m.W=(r.2.1:Int)/\m.H=(r.2.2.1:Int)/\Go.Vc.Own qu w base m.P r.2.2.2
structure CfgOk (C:LdK):Prop where
 nw:qwj C.k (C.most:Int)=0
 need:C.need=(yA C.k).2
 most:C.most<=100000
 raw:C.k.Format≠100/\C.k.Zip≠122
theorem CfgOk.needs {C:LdK} (h:CfgOk C):(yA C.k).1=0:=by
 have:=h.nw;have hm:=h.most;unfold qwj at this;rw [if_neg (by omega)] at this;split at this
 ·rename_i h1;exact absurd this h1
 ·omega
theorem CfgOk.sides {C:LdK} (h:CfgOk C) (hf:C.k.Format≠100):∃W H per:Nat,C.k.W=W/\C.k.H=H/\1<=W/\W<=16384/\1<=H/\H<=16384/\(C.k.Format=24/\per=3\/C.k.Format=32/\per=4)/\C.need=per*W*H/\4*(W*H)<=C.most:=by
 rcases q15 h.needs with ⟨h1,_⟩ | ⟨_,h24,W,H,hW,hH,a1,a2,a3,a4,hn⟩
 ·exact absurd h1 hf
 ·have h6:¬(C.k.Format≠100/\4*C.k.W*C.k.H>(C.most:Int)):=by
   intro hc;have:=h.nw;have hm:=h.most;unfold qwj at this;rw [if_neg (by omega),if_neg (by have:=h.needs;omega),if_pos hc] at this;cases this
  have em:4*C.k.W*C.k.H=((4*(W*H):Nat):Int):=by rw [hW,hH,Int.mul_assoc];simp
  rw [em] at h6;have h6':4*(W*H)<=C.most:=by
   rcases Nat.lt_or_ge C.most (4*(W*H)) with hc | hc
   ·exact absurd ⟨hf,by omega⟩ h6
   ·exact hc
  rcases h24 with e | e
  ·exact ⟨W,H,3,hW,hH,a1,a2,a3,a4,.inl ⟨e,rfl⟩,by rw [h.need,hn,e];rfl,h6'⟩
  ·exact ⟨W,H,4,hW,hH,a1,a2,a3,a4,.inr ⟨e,rfl⟩,by rw [h.need,hn,e];rfl,h6'⟩
def qvi (C:LdK) (b:List UInt8):Nat×Nat×Nat×List UInt8 :=
 if b.length<C.need then (2,0,0,[])
 else if b.length>C.need then (5,0,0,[])
 else (0,C.k.W.toNat,C.k.H.toNat,qfj (if C.k.Format=24 then 3 else 4) (C.k.W.toNat*C.k.H.toNat) b)
def q6j (s:LdS):LdS:={ s with over:=true }
def qre (C:LdK) (s:LdS):Nat×Nat×Nat×List UInt8 :=
 if s.over then (7,0,0,[]) else if (qpi C (q6j s)).err≠0 then ((qpi C (q6j s)).err,0,0,[]) else qvi C (qpi C (q6j s)).b
def zlg (C:LdK) (s:LdS):LdS:=if s.over then s else { qpi C (q6j s) with b:=[] }
section
variable {w:World} {B g gd:Nat} {C:LdK} {s:LdS} {S:Nat->Prop}
theorem qr8.zero (w:World) (base e:Nat):qr8 w base ⟨0,0,⟨none,0,0⟩⟩ (e,0,0,[]):=⟨rfl,rfl,Go.Vc.Own.nil _ _ _⟩
theorem q4k {W H:Nat} {b:Slc} {bs:List UInt8} (hW1:1<=W) (hW2:W<=16384) (hH1:1<=H) (hH2:H<=16384) (hA:W*H<=67108864) (hb:Rd qu w b bs) (hl:bs.length<=1000000000) (hn:¬bs.length<3*W*H) {K:qa->Int->Ub}
  (hL:bs.length>3*W*H->∀w',Uc w w'->K ⟨0,0,⟨none,0,0⟩⟩ 5 w') (hO:bs.length=3*W*H->∀s w',Go.Vc.Own qu w' w.heap.size s (qfj 3 (W*H) bs)->Uc w w'->K ⟨W,H,s⟩ 0 w'):VM (W:Int) (H:Int) b w K:=by
 refine qqa _ _ _ ?_;refine nwb λw1 h1 hB1 hs1=>?_;refine q14 (per:=3) (by omega) hW1 hW2 hH1 hH2 hA (hb.ext hB1) hl (λh=>absurd h hn) (λh w2 hB2=>?_) (λh s w2 hs hB2=>?_)
 ·exact zn (r:=qa.rep) (x:=⟨0,0,⟨none,0,0⟩⟩) (h1.ext hB2) rfl rfl λw3 hc3 hs3=>hL h w3 (b1o (bT hB1 hB2) hc3 (le_refl _))
 ·exact zn (r:=qa.rep) (x:=⟨W,H,s⟩) (h1.ext hB2) rfl rfl λw3 hc3 hs3=>hO h s w3 ((hs.chg hc3 λk hk=>qF hs (h1.ext hB2) (by decide) k hk).base hB1.size) (b1o (bT hB1 hB2) hc3 (le_refl _))
theorem q06 {W H:Nat} {b:Slc} {bs:List UInt8} (hW1:1<=W) (hW2:W<=16384) (hH1:1<=H) (hH2:H<=16384) (hA:W*H<=67108864) (hb:Rd qu w b bs) (hl:bs.length<=1000000000) (hn:¬bs.length<4*W*H) {K:qa->Int->Ub}
  (hL:bs.length>4*W*H->∀w',Uc w w'->K ⟨0,0,⟨none,0,0⟩⟩ 5 w') (hO:bs.length=4*W*H->∀s w',Go.Vc.Own qu w' w.heap.size s (qfj 4 (W*H) bs)->Uc w w'->K ⟨W,H,s⟩ 0 w'):K3 (W:Int) (H:Int) b w K:=by
 refine qm9 _ _ _ ?_;refine nwb λw1 h1 hB1 hs1=>?_;refine q14 (per:=4) (by omega) hW1 hW2 hH1 hH2 hA (hb.ext hB1) hl (λh=>absurd h hn) (λh w2 hB2=>?_) (λh s w2 hs hB2=>?_)
 ·exact zn (r:=qa.rep) (x:=⟨0,0,⟨none,0,0⟩⟩) (h1.ext hB2) rfl rfl λw3 hc3 hs3=>hL h w3 (b1o (bT hB1 hB2) hc3 (le_refl _))
 ·exact zn (r:=qa.rep) (x:=⟨W,H,s⟩) (h1.ext hB2) rfl rfl λw3 hc3 hs3=>hO h s w3 ((hs.chg hc3 λk hk=>qF hs (h1.ext hB2) (by decide) k hk).base hB1.size) (b1o (bT hB1 hB2) hc3 (le_refl _))
theorem q5x {p:Slc} {held err:Nat} {over:Bool} (hb:Blk w g j9 (yc gd C p held err over)) (hC:CfgOk C) {b:Slc} {bs:List UInt8} (hr:Rd qu w b bs) (hrl:∀k,b.blk=some k->k<w.heap.size) (hl:bs.length<=1000000) {K:qa->Int->Ub}
  (hK:∀m w',qr8 w' w.heap.size m (qvi C bs)->Uc w w'->K m ((qvi C bs).1:Nat) w'):QZ (some ⟨g,0,none⟩) b w K:=by
 refine qha _ _ ?_;simp only [onPtr_some];have hmost:=hC.most;refine nwb λw1 h1 hB1 hs1=>jpO λJ1 hJ1=>?_;have hb1:=hb.ext hB1;refine lI (x:=C.k.Format) (hb1.cells 6 _ rfl) (jpO λJ2 hJ2=>?_);unfold qvi at hK;have told:∀(m:qa) (e:Nat) (r:Nat×Nat×Nat×List UInt8) w2,qr8 w2 (w.heap.size+1) m r->Uc w1 w2->(∀w',qr8 w' w.heap.size m r->Uc w w'->K m (e:Int) w') ->
   stK ⟨w.heap.size,0,none⟩ (qa.rep.cells m) w2 λw4=>ldS qa.rep ⟨w.heap.size,0,none⟩ w4 λr=>K r (e:Int) w4:=by
  intro m e r w2 hm hB2 hk;refine zn (r:=qa.rep) (x:=m) (h1.ext hB2) rfl rfl λw4 hc4 hs4=>?_;exact hk w4 ⟨hm.1,hm.2.1,(hm.2.2.chg hc4 λk hk e=>by have:=(hm.2.2.lt k hk).1;omega).base (by omega)⟩ (b1o (bT hB1 hB2) hc4 (le_refl _))
 refine cO (λe=>absurd (eq_of_beq e) hC.raw.1) λe=>?_
 ·have e:=hC.raw.1;obtain ⟨W,H,per,hW,hH,a1,a2,a3,a4,hper,hneed,hmo⟩:=hC.sides e;have hpm:per*W*H=per*(W*H):=mul_assoc _ _ _;have hWn:C.k.W.toNat=W:=by rw [hW];rfl
  have hHn:C.k.H.toNat=H:=by rw [hH];rfl
  have hpe:(if C.k.Format=24 then 3 else 4:Nat)=per:=by
   rcases hper with ⟨h1,h2⟩ | ⟨h1,h2⟩
   ·rw [if_pos h1,h2]
   ·rw [if_neg (by omega),h2]
  rw [hWn,hHn,hpe] at hK;have hA:W*H<=67108864:=by omega
  have go:∀f:Value,(∀w2,Uc w1 w2->¬bs.length<C.need->jm Go.Proofs.YtlmpnfhmpjldaaaGreatDoor.C f [(Ua (W:Int)),(Ua (H:Int)),(.slice b.a b.n b.c)] [(Kind.struct qa.rep),(Kind.int .i64)] w2 λ(t45:qa) (t45_1:Int) w3=>stK ⟨w.heap.size,0,none⟩ (qa.rep.cells t45) w3 λw4=>ldS qa.rep ⟨w.heap.size,0,none⟩ w4 λr=>K r t45_1 w4)->J2 (f,()) w1:=by
   intro f hf;refine hJ2 _ _ ?_;refine lI (x:=(C.need:Int)) (hb1.cells 24 _ rfl) ?_;rw [hr.n];refine cO (λe2=>?_) λe2=>?_
   ·have e2:=oTq e2;rw [if_pos (by omega)] at hK;exact told ⟨0,0,⟨none,0,0⟩⟩ 2 (2,0,0,[]) w1 (qr8.zero _ _ _) (Below.refl _ _) λw' hm hB=>hK _ w' hm hB
   ·have e2:=oFq e2;refine hJ1 _ _ ?_;have hbd:=hb1.ext (bdw w1);refine lI (x:=(W:Int)) (by rw [<-hW];exact hbd.cells 7 _ rfl) (lI (x:=(H:Int)) (by rw [<-hH];exact hbd.cells 8 _ rfl) ?_);exact hf w1.drew (bdw w1) (by omega)
  have hs1':=hB1.size;refine cO (λe24=>go _ λw2 hB2 hn=>Go.Vc.callR_plain (by kernel_rfl) ?_) λe24=>go _ λw2 hB2 hn=>Go.Vc.callR_plain (by kernel_rfl) ?_
  ·have e24:C.k.Format=24:=eq_of_beq e24;have hp:per=3:=by omega
   subst hp;have hcall:VM (W:Int) (H:Int) b w2 λt45 t45_1 w3=>stK ⟨w.heap.size,0,none⟩ (qa.rep.cells t45) w3 λw4=>ldS qa.rep ⟨w.heap.size,0,none⟩ w4 λr=>K r t45_1 w4:=by
    refine q4k a1 a2 a3 a4 hA (hr.ext (bT hB1 hB2)) (by omega) (by omega) (λh w3 hB3=>?_) (λh s3 w3 hs3 hB3=>?_)
    ·rw [if_neg hn,if_pos (by omega)] at hK;exact told ⟨0,0,⟨none,0,0⟩⟩ 5 (5,0,0,[]) w3 (qr8.zero _ _ _) (bT hB2 hB3) λw' hm hB=>hK _ w' hm hB
    ·rw [if_neg hn,if_neg (by omega)] at hK;have hs2:=hB2.size;exact told ⟨W,H,s3⟩ 0 (0,W,H,qfj 3 (W*H) bs) w3 ⟨rfl,rfl,hs3.base (by omega)⟩ (bT hB2 hB3) λw' hm hB=>hK _ w' hm hB
   refine Calls.mono hcall ?_;rintro ev w' ⟨r0,r1,rfl,hk⟩;exact ⟨r0,r1,rfl,hk⟩
  ·have e24:C.k.Format≠24:=by simpa using e24
   have hp:per=4:=by omega
   subst hp;have hcall:K3 (W:Int) (H:Int) b w2 λt45 t45_1 w3=>stK ⟨w.heap.size,0,none⟩ (qa.rep.cells t45) w3 λw4=>ldS qa.rep ⟨w.heap.size,0,none⟩ w4 λr=>K r t45_1 w4:=by
    refine q06 a1 a2 a3 a4 hA (hr.ext (bT hB1 hB2)) (by omega) (by omega) (λh w3 hB3=>?_) (λh s3 w3 hs3 hB3=>?_)
    ·rw [if_neg hn,if_pos (by omega)] at hK;exact told ⟨0,0,⟨none,0,0⟩⟩ 5 (5,0,0,[]) w3 (qr8.zero _ _ _) (bT hB2 hB3) λw' hm hB=>hK _ w' hm hB
    ·rw [if_neg hn,if_neg (by omega)] at hK;have hs2:=hB2.size;exact told ⟨W,H,s3⟩ 0 (0,W,H,qfj 4 (W*H) bs) w3 ⟨rfl,rfl,hs3.base (by omega)⟩ (bT hB2 hB3) λw' hm hB=>hK _ w' hm hB
   refine Calls.mono hcall ?_;rintro ev w' ⟨r0,r1,rfl,hk⟩;exact ⟨r0,r1,rfl,hk⟩
end
theorem zes (C:LdK) (s:LdS) (r:Nat×List UInt8×B64):(qwk C s r).over=s.over:=by
 unfold qwk qur
 repeat' split
 all_goals rfl
theorem zew (C:LdK) (s:LdS):(qpi C s).over=s.over:=by
 unfold qpi;split
 ·rfl
 ·exact zes _ _ _
theorem qzb (s:B64) (hs:B64Ok s):(qbt s).2.1.length<=3:=by
 unfold qbt;split
 ·simp
 ·have h1:=hs.n;have h2:=zh8 s.w (by omega);dsimp only;omega
theorem zdy (s:B64):B64Ok (qbt s).2.2:=by
 unfold qbt;split
 ·exact q4b
 ·exact zdn
theorem zhc (C:LdK) (s:LdS) (hs:B64Ok s.d):(qpi C s).b.length<=s.b.length+3:=by
 unfold qpi;split
 ·omega
 ·have h1:=zha C s (qbt s.d);have h2:=qzb s.d hs;omega
section
variable {w:World} {B g gd:Nat} {C:LdK} {s:LdS} {S:Nat->Prop}
theorem zep (h:LdA w B g gd C s S) (hBw:B<=w.heap.size) (hC:CfgOk C) (hsm:s.b.length<=32000) {K:qa->Int->Ub}
  (hK:∀m S' w',LdA w' B g gd C (zlg C s) S'->qr8 w' w.heap.size m (qre C s)->(∀k,m.P.blk=some k->¬S' k)->(∀k,S' k->S k\/w.heap.size<=k)->Chg S w w'->K m (((qre C s).1:Nat):Int) w'):Xm (some ⟨g,0,none⟩) w K:=by
 refine qlq _ ?_;simp only [onPtr_some];refine nwb λw1 h1 hB1 hs1=>?_;have hA1:=h.ext hB1;obtain ⟨p0,hb0,hp0⟩:=hA1.ex;have hgw:∀k,S k->k≠w.heap.size:=λk hk e=>by have:=(h.lt k hk).2;omega
 refine jw (x:=s.over) (hb0.cells 28 _ rfl) ?_;unfold qre zlg at hK;refine cO (λe=>?_) λe=>?_
 ·have e:s.over=true:=e;rw [if_pos e,if_pos e] at hK;refine zn (r:=qa.rep) (x:=⟨0,0,⟨none,0,0⟩⟩) h1 rfl rfl λw2 hc2 hs2=>?_;exact hK _ S w2 (hA1.chg hc2 λk hk=>hgw k hk) (qr8.zero _ _ _) (λk hk=>by cases hk) (λk hk=>.inl hk) ((Chg.of_ext (S:=S) hB1).trans hc2 λk hk e=>by omega)
 have e:s.over=false:=e;rw [if_neg (by rw [e];decide),if_neg (by rw [e];decide)] at hK;rw [qH];refine qB hb0 (by simp [yc,qb.rep]) λw3 hb3 hg3 hs3=>?_;have hc3:Chg (λk=>k=g) w1 w3:=Go.Vc.Chg.gg hg3;have hb3:Blk w3 g j9 (yc gd C p0 s.b.length s.err true):=hb3;obtain ⟨s0,hs0⟩:∃s0,s0=q6j s:=⟨_,rfl⟩;have hd3:JC w3 gd s.d:=Blk.chg hA1.d hc3 λe=>by subst e;exact hA1.d.ne_t hb0 (by decide) rfl
 have hA3:LdA w3 B g gd C s0 S:=by
  rw [hs0];refine ⟨⟨p0,hb3,?_⟩,hd3,h.ok,h.sg,h.sd,λk hk=>⟨(h.lt k hk).1,by have:=(h.lt k hk).2;have:=hB1.size;have:=hc3.size;omega⟩⟩;rcases hp0 with h | ⟨x,a1,a2,a3,a4,a5⟩
  ·exact .inl h
  ·exact .inr ⟨x,a1.chg hc3 λk hk=>qF a1 hb0 (by decide) k hk,a2.chg hc3 λk hk=>qF a2 hb0 (by decide) k hk,a3,a4,a5⟩
 have h13:Blk w3 w.heap.size qz _:=h1.chg hc3 λe=>hgw g h.sg e.symm;have hC03:Chg S w w3:=(Chg.of_ext (S:=S) hB1).trans hc3 λk _ hk=>by subst hk;exact h.sg
 have hsz3:w.heap.size+1<=w3.heap.size:=by have:=hc3.size;omega
 have hs0b:s0.b=s.b:=by rw [hs0];rfl
 have hs0e:s0.err=s.err:=by rw [hs0];rfl
 rw [<-hs0] at hK;refine jpO λJ1 hJ1=>?_;have main:∀S' w4,LdA w4 B g gd C (qpi C s0) S'->(∀k,S' k->S k\/w3.heap.size<=k)->Chg S w3 w4->J1 () w4:=by
  intro S' w4 h4 hS' hc4;refine hJ1 _ _ ?_;have hlen:(qpi C s0).b.length<=32003:=by
   have:=zhc C s0 hA3.ok;rw [hs0b] at this;omega
  obtain ⟨E,hE⟩:∃E,E=qpi C s0:=⟨_,rfl⟩;have hEo:E.over=true:=by rw [hE,zew,hs0];rfl
  rw [<-hE] at h4 hK hlen;have h14:Blk w4 w.heap.size qz _:=h13.chg hc4 λhk=>hgw _ hk rfl;have hs4:=hc4.size;have hwS':∀k,S' k->k≠w.heap.size:=λk hk e=>by
   rcases hS' k hk with h | h
   ·exact hgw k h e
   ·omega
  obtain ⟨p,hb,hp⟩:=h4.ex;refine lSl (x:=p) (hb.cells 25 _ rfl) ?_;have cat:∀(K:Slc->Ub),(∀o w5,Go.Vc.Own qu w5 w4.heap.size o E.b->Uc w4 w5->K o w5)->xi p w4 K:=by
   intro K hk;rcases hp with ⟨h1,rfl⟩ | ⟨x,a1,a2,a3,a4,a5⟩
   ·refine qrd (p:=⟨none,0,0⟩) (ss:=[]) (xss:=[]) (Rd.nil zm7 w4) ⟨rfl,λi s xs hs=>by simp at hs⟩ (by simp) (by simp) λr w5 hr hB5=>?_;rw [h1] at hk;exact hk r w5 hr hB5
   ·have hrd:Rd zm7 w4 p [x]:=a1.rd;refine qrd (p:=p) (ss:=[x]) (xss:=[E.b]) hrd ⟨rfl,λi s xs hs hx=>?_⟩ (by simp;omega) (by simp) λr w5 hr hB5=>?_
    ·match i,hs,hx with
     | 0,hs,hx=>cases hs;cases hx;exact a2.rd
     | i+1,hs,hx=>simp at hs
    ·refine hk r w5 ?_ hB5;simpa using hr
  refine cat _ λo w5 ho hB5=>?_;refine XU _ ?_;simp only [onPtr_some];have hb5:=hb.ext hB5;rw [qH];refine qB hb5 (by simp [yc,qb.rep]) λw6' hb6' hg6' hs6'=>?_;rw [qH];refine qB hb6' (by simp [yc,qb.rep,putL]) λw6 hb6 hg6 hs6=>?_;have hc6:Chg (λk=>k=g) w5 w6:=(Go.Vc.Chg.gg hg6').trans (Go.Vc.Chg.gg hg6) λi _ hi=>hi;have hb6:Blk w6 g j9 (yc gd C ⟨none,0,0⟩ 0 E.err E.over):=hb6;have hd6:JC w6 gd E.d:=Blk.chg (Blk.ext h4.d hB5) hc6 λe=>by subst e;exact (Blk.ext h4.d hB5).ne_t hb5 (by decide) rfl
  have hs5:=hB5.size;have hs6z:=hc6.size;have hA6:LdA w6 B g gd C { E with b:=[] } S':=⟨⟨⟨none,0,0⟩,hb6,.inl ⟨rfl,rfl⟩⟩,hd6,h4.ok,h4.sg,h4.sd,λk hk=>⟨(h4.lt k hk).1,by have:=(h4.lt k hk).2;omega⟩⟩;have ho6:=ho.chg hc6 λk hk e=>by have:=(ho.lt k hk).1;have:=(h4.lt g h4.sg).2;omega
  have h16:Blk w6 w.heap.size qz _:=(h14.ext hB5).chg hc6 λe=>hwS' g h4.sg e.symm;have hC6:Chg S w w6:=by
   refine ((hC03.trans hc4 λk _ hk=>hk).trans (Chg.of_ext (S:=S) hB5) λk _ hk=>hk).trans hc6 λk _ hk=>?_;subst hk;exact h.sg
  have hgrow:∀k,S' k->S k\/w.heap.size<=k:=λk hk=>by
   rcases hS' k hk with h | h
   ·exact .inl h
   ·right;omega
  refine lI (x:=(E.err:Int)) (hb6.cells 27 _ rfl) ?_;have told:∀(m:qa) (e:Nat) (r:Nat×Nat×Nat×List UInt8) w9,qr8 w9 w6.heap.size m r->Uc w6 w9->(∀S' w',LdA w' B g gd C { E with b:=[] } S'->qr8 w' w.heap.size m r->(∀k,m.P.blk=some k->¬S' k)->(∀k,S' k->S k\/w.heap.size<=k)->Chg S w w'->K m (e:Int) w') ->
    stK ⟨w.heap.size,0,none⟩ (qa.rep.cells m) w9 λw10=>LdA w10 B g gd C { E with b:=[] } S'->ldS qa.rep ⟨w.heap.size,0,none⟩ w10 λr=>K r (e:Int) w10:=by
   intro m e r w9 hm hB9 hk;refine jH (h16.ext hB9) rfl λw10 hb10 hc10 hs10 hA10=>?_;refine qy (r:=qa.rep) (x:=m) hb10.cells ?_;refine hk S' w10 hA10 ⟨hm.1,hm.2.1,(hm.2.2.chg hc10 λk hk e=>by have:=(hm.2.2.lt k hk).1;omega).base (by omega)⟩ (λk hk hS=>by have h1:=(hm.2.2.lt k hk).1;have h2:=(hA6.lt k hS).2;omega) hgrow ((hC6.trans (Chg.of_ext (S:=S) hB9) λk _ hk=>hk).trans hc10 λk hk e=>by omega)
  have keepA:∀{w9 w10},Uc w6 w9->Chg (λk=>k=w.heap.size) w9 w10->LdA w10 B g gd C { E with b:=[] } S':=λhB9 hc10=>(hA6.ext hB9).chg hc10 λk hk=>hwS' k hk;refine cO (λe2=>?_) λe2=>?_
  ·have e2:E.err≠0:=λh=>by rw [h] at e2;cases e2
   rw [if_pos e2] at hK;have hBd:=bdw w6;refine lI (x:=(E.err:Int)) ((hb6.ext hBd).cells 27 _ rfl) ?_;refine jH (h16.ext hBd) rfl λw7 hb7 hc7 hs7=>?_;have hA7:=keepA hBd hc7;obtain ⟨p7,hb7',_⟩:=hA7.ex;refine ⟨hb7'.cells 27 _ rfl,qy (r:=qa.rep) (x:=⟨0,0,⟨none,0,0⟩⟩) hb7.cells ?_⟩;exact hK _ S' w7 hA7 (qr8.zero _ _ _) (λk hk=>by cases hk) hgrow ((hC6.trans (Chg.of_ext (S:=S) hBd) λk _ hk=>hk).trans hc7 λk hk e=>by omega)
  have e2:E.err=0:=by
   rcases Nat.eq_zero_or_pos E.err with h | h
   ·exact h
   ·rw [qyy (by omega)] at e2;cases e2
  rw [if_neg (by omega)] at hK;refine jpO λJ2 hJ2=>?_;have img:∀(b:Slc) (bs:List UInt8) w8,Go.Vc.Own qu w8 w4.heap.size b bs->bs.length<=1000000->Uc w6 w8->(∀m S' w',LdA w' B g gd C { E with b:=[] } S'->qr8 w' w.heap.size m (qvi C bs)->(∀k,m.P.blk=some k->¬S' k)->(∀k,S' k->S k\/w.heap.size<=k)->Chg S w w'->K m (((qvi C bs).1:Nat):Int) w')->J2 (b,()) w8:=by
   intro b bs w8 hbo hbl hB8 hk;refine hJ2 _ _ ?_;refine q5x (hb6.ext hB8) hC hbo.rd (λk hk=>(hbo.lt k hk).2) hbl λm w9 hm hB9=>?_;have hB69:=bT hB8 hB9;have:=told m (qvi C bs).1 (qvi C bs) w9 ⟨hm.1,hm.2.1,hm.2.2.base hB8.size⟩ hB69 (λS' w'=>hk m S' w');refine jH (h16.ext hB69) rfl λw10 hb10 hc10 hs10=>?_;refine qy (r:=qa.rep) (x:=m) hb10.cells ?_;have hm':=hm.2.2.base (base':=w6.heap.size) hB8.size;exact hk m S' w10 (keepA hB69 hc10) ⟨hm.1,hm.2.1,(hm'.chg hc10 λk hk e=>by have:=(hm'.lt k hk).1;omega).base (by omega)⟩ (λk hk hS=>by have h1:=(hm'.lt k hk).1;have h2:=(hA6.lt k hS).2;omega) hgrow ((hC6.trans (Chg.of_ext (S:=S) hB69) λk _ hk=>hk).trans hc10 λk hk e=>by omega)
  refine lI (x:=C.k.Zip) (hb6.cells 3 _ rfl) (cO (λez=>absurd (eq_of_beq ez) hC.raw.2) λez=>?_);exact img o E.b w6 ho6 (by omega) (Below.refl _ _) hK
 refine lI (x:=(s.err:Int)) (hb3.cells 27 _ rfl) (cO (λe2=>?_) λe2=>?_)
 ·have e2:s.err=0:=by have:=eq_of_beq e2;omega
  have hee:qpi C s0=qwk C s0 (qbt s0.d):=by unfold qpi;rw [if_neg (by omega)]
  refine qK (x:=some ⟨gd,0,none⟩) (hb3.cells 0 _ rfl) ?_;refine zev hA3.d hA3.ok λt w4 ht htb hd hc=>?_;have hbl:=qzb s0.d hA3.ok;refine q2i hA3 (by omega) ht htb hd (zdy s0.d) hc (by rw [hs0b];omega) (K:=λw5=>J1 () w5) λS' w5 h5 hS' hc5=>?_;rw [<-hee] at h5;exact main S' w5 h5 hS' hc5
 ·have e2:s.err≠0:=λh=>by rw [h] at e2;cases e2
  have hee:qpi C s0=s0:=by unfold qpi;rw [if_pos (by omega)]
  refine main S w3 (by rw [hee];exact hA3) (λk hk=>.inl hk) (Chg.refl _ _)
end
structure KE where
 quota:Int
 S:St
 T:List Pl
 ld:Option (LdK×LdS)
 first:qb
structure KF where
 sg:Nat
 sr:Nat
 tg:Nat
 q:Slc
 lg:Nat
 gd:Nat
 LS:Nat->Prop
def qty (F:KF) (E:KE):List Value:=.int .i64 E.quota::.pointer (some ⟨F.sg,0,none⟩)::.pointer (some ⟨F.tg,0,none⟩)::.pointer (if E.ld.isSome then some ⟨F.lg,0,none⟩ else none)::qb.rep.cells E.first
def yl (S:St) (k:Nat):Prop:=∃p∈S.L,p.2.v.m.P.blk=some k
structure EngM (w:World) (base g:Nat) (F:KF) (E:KE) (n:Nat):Prop where
 blk:Blk w g zL (qty F E)
 hg:base<=g
 st:StM w base F.sg F.sr E.S
 ok:StOk n E.S
 hs:base<=F.sg/\base<=F.sr
 tb:PlTM w base F.tg F.q E.T
 tl:E.T.length<=n
 lo:∀C s,E.ld=some (C,s)->LdA w base F.lg F.gd C s F.LS/\CfgOk C
 nl:E.ld=none->∀k,¬F.LS k
 dg:¬F.LS g
 ds:¬F.LS F.sg/\¬F.LS F.sr
 dt:∀k,plS F.tg F.q k->¬F.LS k
 di:∀k,yl E.S k->¬F.LS k
def kF (g:Nat) (F:KF) (k:Nat):Prop:=k=g\/onS F.sg F.sr k\/plS F.tg F.q k\/F.LS k
structure EngT (base g:Nat) (w:World) (F F':KF) (E':KE) (n':Nat) (w':World):Prop where
 m:EngM w' base g F' E' n'
 old:∀k,kF g F' k->kF g F k\/w.heap.size<=k
 chg:Chg (kF g F) w w'
 ls:∀k,F'.LS k->F.LS k\/w.heap.size<=k
def qz0 (T:List Pl) (ids:List Int):List Pl:=ids.foldl (λT i=>T.filter λp=>!(p.Image==i)) T
def q66 (E:KE):Nat:=match E.ld with
 | some (_,s)=>s.b.length
 | none=>0
def zi7 (x:Int):List UInt8:=if x=0 then [79,75] else if x=6 then [69,78,79,83,80,67] else if x=7 then [69,78,79,69,78,84] else [69,73,78,86,65,76]
def q89 (k:qb) (x:Int) (word:List UInt8):List UInt8:=qsw (toL k) (if word=[] then zi7 x else word)
namespace KE
def reserve (E:KE) (n:Int):KE×Int :=
 if n<0 then (E,1) else if n>E.quota then (E,6)
 else ({ E with S:=(E.S.reserve (wi (n+q66 E))).1,T:=qz0 E.T (E.S.reserve (wi (n+q66 E))).2.1 },(E.S.reserve (wi (n+q66 E))).2.2)
def idle (E:KE):KE:={ E with ld:=none,S:={ E.S with res:=0 } }
end KE
section
variable {w w':World} {base g n:Nat} {F F':KF} {E E':KE}
theorem EngM.below (h:EngM w base g F E n):∀k,kF g F k->base<=k/\k<w.heap.size:=by
 rintro k (rfl | (rfl | rfl) | hk | hk)
 ·exact ⟨h.hg,h.blk.lt⟩
 ·exact ⟨h.hs.1,h.st.blk.lt⟩
 ·exact ⟨h.hs.2,h.st.map.lt⟩
 ·exact h.tb.lt k hk
 ·cases hl:E.ld with
  | none=>exact absurd hk (h.nl hl k)
  | some x=>exact (h.lo x.1 x.2 hl).1.lt k hk
theorem EngT.refl (h:EngM w base g F E n):EngT base g w F F E n w:=⟨h,λk hk=>.inl hk,Chg.refl _ _,λk hk=>.inl hk⟩
theorem EngT.trans {w1 w2:World} {F1 F2:KF} {E1 E2:KE} {n1 n2:Nat} (h:EngT base g w F F1 E1 n1 w1) (h2:EngT base g w1 F1 F2 E2 n2 w2):EngT base g w F F2 E2 n2 w2:=by
 have hs:=h.chg.size;refine ⟨h2.m,λk hk=>?_,h.chg.trans h2.chg λk hk hS=>?_,λk hk=>?_⟩
 ·rcases h2.old k hk with h3 | h3
  ·exact h.old k h3
  ·right;omega
 ·rcases h.old k hS with h3 | h3
  ·exact h3
  ·omega
 ·rcases h2.ls k hk with h3 | h3
  ·exact h.ls k h3
  ·right;omega
theorem EngM.ext (h:EngM w base g F E n) (hB:Uc w w'):EngM w' base g F E n :=
 ⟨h.blk.ext hB,h.hg,h.st.ext hB,h.ok,h.hs,h.tb.ext hB,h.tl,λC s hl=>⟨(h.lo C s hl).1.ext hB,(h.lo C s hl).2⟩,h.nl,h.dg,h.ds,h.dt,h.di⟩
theorem EngT.ext {w1 w2:World} {F1:KF} {E1:KE} {n1:Nat} (h:EngT base g w F F1 E1 n1 w1) (hB:Uc w1 w2):EngT base g w F F1 E1 n1 w2 :=
 ⟨h.m.ext hB,h.old,h.chg.trans (Chg.of_ext (S:=kF g F) hB) λk _ hS=>hS,h.ls⟩
theorem EngT.of_ext (h:EngM w base g F E n) (hB:Uc w w'):EngT base g w F F E n w':=(EngT.refl h).ext hB
theorem EngM.drew (h:EngM w base g F E n):EngM w.drew base g F E n:=h.ext (vL w)
theorem EngM.mono (h:EngM w base g F E n) {m:Nat} (hm:n<=m) (hok:StOk m E.S):EngM w base g F E m:=⟨h.blk,h.hg,h.st,hok,h.hs,h.tb,le_trans h.tl hm,h.lo,h.nl,h.dg,h.ds,h.dt,h.di⟩
theorem EngM.g_tg (h:EngM w base g F E n):g≠F.tg:=h.blk.ne_t h.tb.blk (by decide)
theorem EngM.g_q (h:EngM w base g F E n):∀k,F.q.blk=some k->k≠g:=qF h.tb.own h.blk (by decide)
theorem EngM.g_sg (h:EngM w base g F E n):g≠F.sg:=h.blk.ne_t h.st.blk (by decide)
theorem EngM.g_sr (h:EngM w base g F E n):g≠F.sr:=λe=>h.st.map.ne_blk h.blk e.symm
theorem EngM.tg_sg (h:EngM w base g F E n):F.tg≠F.sg:=h.tb.blk.ne_t h.st.blk (by decide)
theorem EngM.tg_sr (h:EngM w base g F E n):F.tg≠F.sr:=λe=>h.st.map.ne_blk h.tb.blk e.symm
theorem EngM.q_sg (h:EngM w base g F E n):∀k,F.q.blk=some k->k≠F.sg:=qF h.tb.own h.st.blk (by decide)
theorem EngM.q_sr (h:EngM w base g F E n):∀k,F.q.blk=some k->k≠F.sr:=λk hk e=>by
 obtain ⟨cs,hcs⟩:=h.tb.own.blk_t hk;exact h.st.map.ne_blk hcs e.symm
theorem EngM.img_tg (h:EngM w base g F E n) {p:Int×Im} (hp:p∈E.S.L) {k:Nat} (hk:p.2.v.m.P.blk=some k):k≠F.tg:=(h.st.img p hp).ne_b h.tb.blk (by decide) k hk
theorem EngM.img_g (h:EngM w base g F E n) {p:Int×Im} (hp:p∈E.S.L) {k:Nat} (hk:p.2.v.m.P.blk=some k):k≠g:=(h.st.img p hp).ne_b h.blk (by decide) k hk
theorem EngT.tab (h:EngM w base g F E n) {q':Slc} {T':List Pl} (ht:PlTM w' base F.tg q' T') (hq:∀k,q'.blk=some k->w.heap.size<=k) (hc:Chg (λk=>k=F.tg) w w') (hl:T'.length<=n) :
  EngT base g w F { F with q:=q' } { E with T:=T' } n w':=by
 have key:∀k,kF g { F with q:=q' } k->kF g F k\/w.heap.size<=k:=by
  rintro k (hk | hk | (hk | hk) | hk)
  ·exact .inl (.inl hk)
  ·exact .inl (.inr (.inl hk))
  ·exact .inl (.inr (.inr (.inl (.inl hk))))
  ·exact .inr (hq k hk)
  ·exact .inl (.inr (.inr (.inr hk)))
 refine ⟨⟨h.blk.chg hc h.g_tg,h.hg,h.st.keep hc (λe=>h.tg_sg e.symm) (λe=>h.tg_sr e.symm) λp hp k hk e=>h.img_tg hp hk e,h.ok,h.hs,ht,hl,
  λC s hld=>⟨(h.lo C s hld).1.chg hc λk hk e=>h.dt k (.inl e) hk,(h.lo C s hld).2⟩,h.nl,h.dg,h.ds,?_,h.di⟩,key,hc.mono λk _ e=>.inr (.inr (.inl (.inl e))),λk hk=>.inl hk⟩
 rintro k (hk | hk) hLS
 ·exact h.dt k (.inl hk) hLS
 ·have h1:=hq k hk;have h2:=(h.below k (.inr (.inr (.inr hLS)))).2;omega
theorem EngT.store (h:EngM w base g F E n) {S':St} {m:Nat} (hst:StM w' base F.sg F.sr S') (hok:StOk m S') (hnm:n<=m) (hc:Chg (onS F.sg F.sr) w w') (hi:∀k,yl S' k->yl E.S k\/w.heap.size<=k) :
  EngT base g w F F { E with S:=S' } m w':=by
 refine ⟨⟨h.blk.chg hc ?_,h.hg,hst,hok,h.hs,h.tb.chg hc ?_,le_trans h.tl hnm,λC s hld=>⟨(h.lo C s hld).1.chg hc ?_,(h.lo C s hld).2⟩,h.nl,h.dg,h.ds,h.dt,?_⟩,λk hk=>.inl hk,hc.mono λk _ hk=>.inr (.inl hk),λk hk=>.inl hk⟩
 ·rintro (e | e)
  ·exact h.g_sg e
  ·exact h.g_sr e
 ·rintro k (hk | hk) (e | e)
  ·exact h.tg_sg (hk.symm.trans e)
  ·exact h.tg_sr (hk.symm.trans e)
  ·exact h.q_sg k hk e
  ·exact h.q_sr k hk e
 ·rintro k hk (e | e)
  ·exact h.ds.1 (e ▸ hk)
  ·exact h.ds.2 (e ▸ hk)
 ·intro k hk hLS;rcases hi k hk with h1 | h1
  ·exact h.di k h1 hLS
  ·have:=(h.below k (.inr (.inr (.inr hLS)))).2;omega
theorem EngM.other (h:EngM w base g F E n) {b:Nat} {t:TypeId} {vs:List Value} (hb:Blk w b t vs) (ht:t≠zL/\t≠zG/\t≠jp/\t≠qL/\t≠za) (hLS:¬F.LS b) (hc:Chg (λk=>k=b) w w'):EngM w' base g F E n:=by
 obtain ⟨t1,t2,t3,t4,t5⟩:=ht;refine ⟨h.blk.chg hc λe=>hb.ne_t h.blk t1 e.symm,h.hg,h.st.keep hc (λe=>hb.ne_t h.st.blk t2 e.symm) (λe=>h.st.map.ne_blk hb e) (λp hp k hk e=>(h.st.img p hp).ne_b hb (λe=>t5 e.symm) k hk e),h.ok,h.hs,h.tb.chg hc ?_,h.tl,
  λC s hl=>⟨(h.lo C s hl).1.chg hc λk hk e=>hLS (e ▸ hk),(h.lo C s hl).2⟩,h.nl,h.dg,h.ds,h.dt,h.di⟩
 rintro k (hk | hk) e
 ·exact hb.ne_t h.tb.blk t3 (e.symm.trans hk)
 ·exact qF h.tb.own hb (λe=>t4 e.symm) k hk e
theorem EngT.other {F1:KF} {E1:KE} {n1:Nat} {w1 w2:World} (h:EngT base g w F F1 E1 n1 w1) {b:Nat} {t:TypeId} {vs:List Value} (hb:Blk w1 b t vs) (ht:t≠zL/\t≠zG/\t≠jp/\t≠qL/\t≠za) (hLS:¬F1.LS b) (hw:w.heap.size<=b) (hc:Chg (λk=>k=b) w1 w2) :
  EngT base g w F F1 E1 n1 w2:=⟨h.m.other hb ht hLS hc,h.old,h.chg.trans hc λk hk e=>by omega,h.ls⟩
theorem Q9 (hT:Tab w) {k:qb} (hw:qg9 (toL k)) (x:Int) (word:List UInt8) (hwl:word.length<=100000) {e:Option Addr} {K:qc->Ub}
  (hK:∀q w',Rd qu w' q (q89 k x word)->Uc w w'->(∀j,q.blk=some j->w.heap.size<=j)->K ⟨q,0,0,false⟩ w'):zB e k x (ze word) w K:=by
 refine qhj _ _ _ _ ?_;refine nwb λw1 hk1 hB1 hs1=>nwb λw2 hr2 hB2 hs2=>?_;have B2:=zv hB1 hB2;have hk2:=hk1.ext hB2;refine jpO λJ hJ=>?_;have key:∀wd:List UInt8,wd=(if word=[] then zi7 x else word)->J (ze wd,()) w2:=by
  intro wd hwd;refine hJ _ _ ?_;refine qy (r:=qb.rep) (x:=k) hk2.cells ?_;have hwdl:wd.length<=100000:=by
   rw [hwd];split
   ·unfold zi7
    repeat' split
    all_goals (simp)
   ·exact hwl
  refine q9v (hT.ext B2) hw wd hwdl λq w3 hq hB3 hqb=>?_;have hr3:=hr2.ext hB3;have B3:=zv B2 hB3;have rl:=hr3.lt;refine qB (us:=[.slice q.a q.n q.c,.int .i64 0,.int .i64 0,.bool false]) hr3 (by simp) λw4 hr4 hg4 hs4=>?_;have hc4:Chg (λi=>i=w1.heap.size) w3 w4:=Chg.of_grown hg4 λk hk=>by cases hk;rfl
  have B4:Uc w w4:=B3.trans (hc4.below (by have:=B3.size;omega) λi hi e=>by have:=hB1.size;omega);refine qy (r:=qc.rep) (x:=⟨q,0,0,false⟩) hr4.cells ?_;refine hK q w4 ?_ B4 (λj hj=>le_trans B2.size (hqb j hj));have hq4:Rd qu w4 q (qsw (toL k) wd):=hq.chg hc4 λa ha e=>by
   have:=hqb a.block (slk.2 ⟨a,ha,rfl⟩);have:=hr2.lt;omega
  unfold q89;rw [<-hwd];exact hq4
 refine cO (λhw0=>?_) λhw0=>?_
 ·have hw0:=eq_of_beq hw0;rw [V1] at hw0;have hw0:word=[]:=by rw [hw0,ByteArray.toList_eq]
  refine qx6 _ ?_;have kk:∀wd:List UInt8,wd=zi7 x->J (ze wd,()) w2:=λwd h=>key wd (by rw [if_pos hw0,h]);unfold zi7 at kk;refine cO (λe=>kk _ (by rw [if_pos (eq_of_beq e)])) λe=>?_;have n0:=beq_eq_false_iff_ne.1 e;refine cO (λe=>kk _ (by rw [if_neg n0,if_pos (eq_of_beq e)])) λe=>?_;have n6:=beq_eq_false_iff_ne.1 e;refine cO (λe=>kk _ (by rw [if_neg n0,if_neg n6,if_pos (eq_of_beq e)])) λe=>?_;exact kk _ (by rw [if_neg n0,if_neg n6,if_neg (beq_eq_false_iff_ne.1 e)])
 ·have hw0:=beq_eq_false_iff_ne.1 hw0;rw [V1] at hw0;exact key word (by rw [if_neg (λh=>hw0 (by rw [h,ByteArray.toList_eq]))])
theorem q6h (h:EngM w base g F E n) {K:Int->Ub} (hK:K (q66 E:Int) w):QR (some ⟨g,0,none⟩) w K:=by
 refine qhh _ ?_;simp only [onPtr_some];unfold q66 at hK;cases hl:E.ld with
 | none =>
  rw [hl] at hK;refine qK (x:=none) (by have:=h.blk.cells 3 _ rfl;rw [hl] at this;exact this) (cT rfl hK)
 | some x =>
  obtain ⟨C,s⟩:=x;rw [hl] at hK;have hc:w.cell? ((⟨g,0,none⟩:Addr).add 3)=some (.pointer (some ⟨F.lg,0,none⟩)):=by have:=h.blk.cells 3 _ rfl;rw [hl] at this;exact this
  refine qK (x:=some ⟨F.lg,0,none⟩) hc (cF rfl (qK (x:=some ⟨F.lg,0,none⟩) hc ?_));exact za3 (h.lo C s hl).1 hK
theorem q3j (h:EngM w base g F E n) (hn:n<=100000) {ids:Slc} {L:List Int} (hr:Rd jG w ids L) (hne:∀a,ids.a=some a->a.block≠F.tg) {K:Ub}
  (hK:∀q' w',EngT base g w F { F with q:=q' } { E with T:=qz0 E.T L } n w'->K w'):vm (some ⟨g,0,none⟩) ids w K:=by
 refine qgq _ _ ?_;have hl:ids.n=L.length:=hr.n;have hlm:L.length<=9223372036854775807:=by rw [<-hl];exact le_trans hr.nc hr.cm
 refine lpR (λ(st:Int×Unit) w1=>∃(k:Nat) (q1:Slc),st.1=(k:Int)/\k<=L.length/\EngT base g w F { F with q:=q1 } { E with T:=qz0 E.T (L.take k) } n w1/\Rd jG w1 ids L) (λst=>L.length-st.1.toNat)
  ⟨0,F.q,rfl,zero_le _,EngT.refl h,hr⟩ ?_
 rintro ⟨i,u⟩ w1 ⟨k,q1,hi,hk,h1,hr1⟩ I hI;dsimp only at hi ⊢;subst hi;refine cO (λe=>?_) λe=>?_
 ·have e:=oTq e;have hlt:k<L.length:=by omega
  obtain ⟨x,hx⟩:∃x,L[k]?=some x:=⟨_,List.getElem?_eq_getElem hlt⟩;refine hr1.ix (E:=jG) (i:=(k:Int)) rfl (by omega) (by omega) λhc=>?_;have e1:L[(k:Int).toNat]'(by omega)=x:=(List.getElem?_eq_some_iff.1 (by simpa using hx)).2;rw [e1] at hc;refine lI (x:=x) (by simpa using hc 0 _ rfl) ?_;simp only [onPtr_some];refine qK (x:=some ⟨F.tg,0,none⟩) (h1.m.blk.cells 2 _ rfl) ?_;refine q8i h1.m.tb (le_trans h1.m.tl hn) (le_trans h1.m.hg (Nat.le_of_lt h1.m.blk.lt)) x λm q2 w2 ht hq hc2=>?_;have h2:=EngT.tab h1.m ht hq hc2 (le_trans (List.length_filter_le _ _) h1.m.tl);rw [qQ (x:=(k:Int)+1) (by omega)];refine hI _ _ ⟨k+1,q2,by simp,by omega,?_,hr1.chg hc2 λa ha=>hne a ha⟩ (by dsimp only;omega);have e2:qz0 E.T (L.take (k+1))=(qz0 E.T (L.take k)).filter λp=>!(p.Image==x):=by
   unfold qz0;rw [take_add_one,hx,Option.toList_some,List.foldl_append];rfl
  rw [e2];exact h1.trans h2
 ·have e:=oFq e;have hkl:k=L.length:=by omega
  rw [hkl,take_length] at h1;exact hK q1 w1 h1
end
theorem qsy (n:Int):∀(f:Nat) (S:St) (G:List Int),∀p∈(S.roomF n f G).1.L,p∈S.L
 | 0,S,G,p,hp=>hp
 | f+1,S,G,p,hp=>by
  unfold St.roomF at hp;split at hp
  ·have:=qsy n f _ _ p hp;exact ((qlc _ _ _).1 this).2
  ·exact hp
theorem qu7 (S:St) (n:Int):∀p∈(S.reserve n).1.L,p∈S.L:=by
 intro p hp;unfold St.reserve at hp;split at hp
 ·exact hp
 ·split at hp
  ·exact hp
  ·exact qsy n _ ({ S with res:=n }:St) _ p hp
section
variable {w w':World} {base g n:Nat} {F F':KF} {E E':KE}
theorem qzs (h:EngM w base g F E n) (hn:n<=1000) (m:Int) {K:Int->Ub} (hK:∀F' w',EngT base g w F F' (E.reserve m).1 n w'->F'.lg=F.lg->F'.gd=F.gd->F'.LS=F.LS->K (E.reserve m).2 w'):yi (some ⟨g,0,none⟩) m w K:=by
 refine qb4 _ _ ?_;simp only [onPtr_some];unfold KE.reserve at hK;refine cO (λe=>?_) λe=>?_
 ·rw [if_pos (oTq e)] at hK;exact hK F w (EngT.refl h) rfl rfl rfl
 rw [if_neg (oFq e)] at hK;refine lI (x:=E.quota) (h.blk.cells 0 _ rfl) (cO (λe=>?_) λe=>?_)
 ·rw [if_pos (oTq e)] at hK;exact hK F w (EngT.refl h) rfl rfl rfl
 rw [if_neg (oFq e)] at hK;have hd:=h.drew;refine qK (x:=some ⟨F.sg,0,none⟩) (hd.blk.cells 1 _ rfl) (q6h hd ⟨hd.blk.cells 1 _ rfl,?_⟩);refine q3n hd.st h.ok hn λq w2 hst ho hc=>?_;have h2:=EngT.store hd hst (qyk h.ok _) (le_refl n) hc (λk hk=>by
  obtain ⟨p,hp,hb⟩:=hk;exact .inl ⟨p,qu7 _ _ p hp,hb⟩)
 refine q3j h2.m (by omega) ho.rd (λa ha=>?_) λq' w3 h3=>?_
 ·have h1:=(ho.lt a.block (slk.2 ⟨a,ha,rfl⟩)).1;have h4:=h.tb.blk.lt;have e1:w.drew.heap.size=w.heap.size:=rfl;show a.block≠F.tg;omega
 ·exact hK _ w3 ((EngT.of_ext h (vL w)).trans (h2.trans h3)) rfl rfl rfl
theorem q2w (h:EngM w base g F E n) {K:Ub} (hK:∀F' w',EngT base g w F F' E.idle n w'->F'.q=F.q->F'.tg=F.tg->K w'):xI (some ⟨g,0,none⟩) w K:=by
 refine qhm _ ?_;simp only [onPtr_some];show stK ⟨g,3,none⟩ _ _ _;refine qB h.blk (by show (3+1:Nat)<=26;omega) λw1 hb1 hg1 hs1=>?_;have hc1:Chg (λi=>i=g) w w1:=Chg.of_grown hg1 λk hk=>by cases hk;rfl
 let F1:KF:={ F with LS:=λ_=>False }
 let E1:KE:={ E with ld:=none }
 have hb1:Blk w1 g zL (qty F1 E1):=hb1;have h1:EngT base g w F F1 E1 n w1:=by
  refine ⟨⟨hb1,h.hg,h.st.keep hc1 (λe=>h.g_sg e.symm) (λe=>h.g_sr e.symm) (λp hp k hk e=>h.img_g hp hk e),h.ok,h.hs,h.tb.chg hc1 ?_,h.tl,(λC s hl=>by cases hl),(λ_ k hk=>hk),(λhk=>hk),⟨λhk=>hk,λhk=>hk⟩,(λk _ hk=>hk),(λk _ hk=>hk)⟩,?_,hc1.mono λk _ e=>.inl e,λk hk=>hk.elim⟩
  ·rintro k (hk | hk) e
   ·exact h.g_tg (e.symm.trans hk)
   ·exact h.g_q k hk e
  ·rintro k (hk | hk | hk | hk)
   ·exact .inl (.inl hk)
   ·exact .inl (.inr (.inl hk))
   ·exact .inl (.inr (.inr (.inl hk)))
   ·exact hk.elim
 refine qK (x:=some ⟨F.sg,0,none⟩) (h1.m.blk.cells 1 _ rfl) ?_;refine qrr h1.m.st λw2 hst hc2 hs2=>?_;have h2:=EngT.store h1.m hst (qpg h.ok 0) (le_refl n) hc2 λk hk=>.inl hk;exact hK F1 w2 (h1.trans h2) rfl rfl
end
def zmd (n more size:Int):Int:=wi ((wi (wi (wi (n+more)+size)-1)).tdiv size)
def zi4 (W H dx dy cw ch:Int):Int×Int :=
 if btw W 1 16384=false then (0,0) else if btw H 1 16384=false then (0,0) else if btw dx 0 64=false then (0,0) else if btw dy 0 64=false then (0,0) else if btw cw 1 64=false then (0,0) else if btw ch 1 64=false then (0,0)
 else (zmd H dy ch,zmd W dx cw)
def qon (at_ n side:Int):Int:=if n<1 then wi (side-at_) else if wi (side-at_)<n then wi (side-at_) else n
def pl0:Pl:=⟨0,0,false,0,0,0,0,0,0,0,0,0,0,0⟩
def qzw (S:St) (id:Int):qa:=(((zA S.L id).map Im.v).getD qtg).m
def zcz (m:qa) (k:qb) (v:qs):Bool:=decide (k.X<0) || (decide (k.Y<0) || (decide (k.X>=m.W) || (decide (k.Y>=m.H) || (decide (k.DX>=v.CellW) || decide (k.DY>=v.CellH)))))
def rcK (m:qa) (k:qb) (v:qs):Int×Int:=zi4 (qon k.X k.PW m.W) (qon k.Y k.PH m.H) k.DX k.DY v.CellW v.CellH
def qyq (m:qa) (k:qb) (v:qs):Int:=if k.Rows<1 then (rcK m k v).1 else k.Rows
def q1b (m:qa) (k:qb) (v:qs):Int:=if k.Cols<1 then (rcK m k v).2 else k.Cols
def zjr (m:qa) (k:qb) (v:qs):Bool:=decide (qyq m k v>1048576) || (decide (q1b m k v>1048576) || (!btw v.CellW 1 64 || !btw v.CellH 1 64))
def zob (m:qa) (k:qb) (id:Int) (v:qs) (r c:Int):Pl:=⟨id,k.Place,v.View.Alt,wi (v.View.Top+v.View.Row),v.View.Col,r,c,k.X,k.Y,qon k.X k.PW m.W,qon k.Y k.PH m.H,k.DX,k.DY,k.Z⟩
def qd8 (S:St) (k:qb) (id:Int) (v:qs):Pl×Int :=
 if zcz (qzw S id) k v then (pl0,1) else if zjr (qzw S id) k v then (pl0,1) else (zob (qzw S id) k id v (qyq (qzw S id) k v) (q1b (qzw S id) k v),0)
structure KR where
 reply:List UInt8
 rows:Int
 cols:Int
 moves:Bool
def kr0:KR:=⟨[],0,0,false⟩
def qi1 (w:World) (r:qc) (R:KR):Prop:=Rd qu w r.Reply R.reply/\r.Rows=R.rows/\r.Cols=R.cols/\r.Moves=R.moves
def qcq (k:qb) (x:Int) (word:List UInt8):KR:=⟨q89 k x word,0,0,false⟩
section
variable {w w':World} {base g n:Nat} {F F':KF} {E E':KE}
theorem qi1.ext {r:qc} {R:KR} (h:qi1 w r R) (hB:Uc w w'):qi1 w' r R:=⟨h.1.ext hB,h.2⟩
theorem qi1.nil (w:World):qi1 w ⟨⟨none,0,0⟩,0,0,false⟩ kr0:=⟨Rd.nil _ _,rfl,rfl,rfl⟩
theorem xZ {v lo hi:Int} {K:Bool->Ub} (hK:K (btw v lo hi) w):jD v lo hi w K:=by
 refine qpp _ _ _ ?_;unfold btw at hK;refine cO (λe=>?_) λe=>?_
 ·rw [e,Bool.true_and] at hK;exact hK
 ·rw [e,Bool.false_and] at hK;exact hK
theorem qve {a b c:Int} (hc:c≠0) {K:Int->Ub} (hK:K (zmd a b c) w):KH a b c w K:=by
 refine qtv _ _ _ ?_;exact ⟨hc,hK⟩
theorem qzq {W H dx dy cw ch:Int} {K:Int->Int->Ub} (hK:∀w',Uc w w'->K (zi4 W H dx dy cw ch).1 (zi4 W H dx dy cw ch).2 w'):K6 W H dx dy cw ch w K:=by
 refine qtx _ _ _ _ _ _ ?_;refine nwb λw1 hb hB1 hs1=>?_;have hK:=hK w1 hB1;unfold zi4 at hK;refine lpR (λ(st:Int×Unit) w2=>w2=w1/\(st.1=0\/st.1=1/\btw W 1 16384=true\/st.1=2/\btw W 1 16384=true/\btw H 1 16384=true)) (λst=>2-st.1.toNat) ⟨rfl,.inl rfl⟩ ?_;rintro ⟨i,u⟩ w2 ⟨rfl,hi⟩ I hI;dsimp only at hi ⊢;have neg:∀{b:Bool},(!b)=true->b=false:=by intro b;cases b<;>simp
 have pos:∀{b:Bool},(!b)=false->b=true:=by intro b;cases b<;>simp
 rcases hi with rfl | ⟨rfl,h1⟩ | ⟨rfl,h1,h2⟩
 ·refine cT rfl ⟨⟨by decide,by decide⟩,lI (x:=W) (hb.cells 0 _ rfl) (xZ (cO (λe=>?_) λe=>?_))⟩
  ·rw [if_pos (neg e)] at hK;exact hK
  ·exact hI _ _ ⟨rfl,.inr (.inl ⟨rfl,pos e⟩)⟩ (by show 2-(i64.wrap (0+1)).toNat<2-(0:Int).toNat;decide)
 ·refine cT rfl ⟨⟨by decide,by decide⟩,lI (x:=H) (hb.cells 1 _ rfl) (xZ (cO (λe=>?_) λe=>?_))⟩
  ·rw [if_neg (by rw [h1];decide),if_pos (neg e)] at hK;exact hK
  ·exact hI _ _ ⟨rfl,.inr (.inr ⟨rfl,h1,pos e⟩)⟩ (by show 2-(i64.wrap (1+1)).toNat<2-(1:Int).toNat;decide)
 ·rw [if_neg (by rw [h1];decide),if_neg (by rw [h2];decide)] at hK;refine cF rfl (jpO λJ hJ=>?_);refine xZ (cO (λe=>?_) λe=>?_)
  ·rw [if_pos (neg e)] at hK;exact hK
  rw [if_neg (by rw [pos e];decide)] at hK;refine xZ (cO (λe=>?_) λe=>?_)
  ·rw [if_pos (neg e)] at hK;exact hK
  rw [if_neg (by rw [pos e];decide)] at hK;refine xZ (cO (λe=>?_) λe3=>?_)
  ·rw [if_pos (neg e)] at hK;exact hK
  rw [if_neg (by rw [pos e3];decide)] at hK;refine xZ (cO (λe=>?_) λe4=>?_)
  ·rw [if_pos (neg e)] at hK;exact hK
  rw [if_neg (by rw [pos e4];decide)] at hK;have ch0:ch≠0:=by
   have:=pos e4;unfold btw at this;simp at this;omega
  have cw0:cw≠0:=by
   have:=pos e3;unfold btw at this;simp at this;omega
  exact hJ _ _ (qve ch0 (qve cw0 hK))
theorem q20 {a b c:Int} {K:Int->Ub} (hK:K (qon a b c) w):YU a b c w K:=by
 refine qvz _ _ _ ?_;unfold qon at hK;refine cO (λe=>?_) λe=>?_
 ·rw [if_pos (oTq e)] at hK;exact hK
 ·rw [if_neg (oFq e)] at hK;exact hK
theorem qc2 {a b:Bool} {J:Bool->Prop} {X:Prop} (hJ:J (a || b)) (h:J b->X):cond a (J true) X:=by
 cases a
 ·exact h hJ
 ·exact hJ
theorem zcj (h:EngM w base g F E n) (k:qb) (id:Int) (v:qs) {K:Pl->Int->Ub} (hK:∀w',Uc w w'->K (qd8 E.S k id v).1 (qd8 E.S k id v).2 w'):Qo (some ⟨g,0,none⟩) k id v w K:=by
 refine qen _ _ _ _ ?_;simp only [onPtr_some];refine nwb λw1 hk1 hB1 hs1=>nwb λw2 hv2 hB2 hs2=>nwb λw3 ht3 hB3 hs3=>?_;have ht3:Blk w3 w2.heap.size qL (qf.rep.cells pl0):=ht3;have B3:=vG hB1 hB2 hB3;have h3:=h.ext B3;unfold qd8 at hK;refine qK (x:=some ⟨F.sg,0,none⟩) (h3.blk.cells 1 _ rfl) (qxs h3.st id λw4 hB4=>?_);have em:(((zA E.S.L id).map Im.v).getD qtg).m=qzw E.S id:=rfl;rw [em];generalize qzw E.S id=m at *;refine jd (vs:=qa.rep.cells m) rfl λw6 hm6 hB6 hs6=>?_;have B6:=vG B3 hB4 hB6;have hk6:=(((hk1.ext hB2).ext hB3).ext hB4).ext hB6;have hv6:=((hv2.ext hB3).ext hB4).ext hB6;have ht6:=(ht3.ext hB4).ext hB6;have z1:=hB1.size;have z2:=hB2.size;have z3:=hB3.size;have z4:=hB4.size;have z6:=hB6.size;have lk:=hk6.lt;have lv:=hv6.lt;have lt_:=ht6.lt;have lm:=hm6.lt;refine jpO λJ1 hJ1=>jpO λJ5 hJ5=>?_;have j5:J5 (zcz m k v,()) w6:=by
  refine hJ5 _ _ ?_;cases hbad:zcz m k v
  ·rw [hbad] at hK;simp only [Bool.false_eq_true,if_false] at hK;refine cF rfl (hJ1 _ _ ?_);refine lI (x:=k.Place) (hk6.cells 10 _ rfl) ?_;refine jw (x:=v.View.Alt) (hv6.cells 0 _ rfl) (lI (x:=v.View.Top) (hv6.cells 1 _ rfl) (lI (x:=v.View.Row) (hv6.cells 4 _ rfl) (lI (x:=v.View.Col) (hv6.cells 5 _ rfl) ?_)));refine lI (x:=k.Rows) (hk6.cells 18 _ rfl) (lI (x:=k.Cols) (hk6.cells 19 _ rfl) (lI (x:=k.X) (hk6.cells 12 _ rfl) (lI (x:=k.Y) (hk6.cells 13 _ rfl) (lI (x:=k.DX) (hk6.cells 16 _ rfl) (lI (x:=k.DY) (hk6.cells 17 _ rfl) (lI (x:=k.Z) (hk6.cells 20 _ rfl) ?_))))))
   let P0:Pl:=⟨id,k.Place,v.View.Alt,wi (v.View.Top+v.View.Row),v.View.Col,k.Rows,k.Cols,k.X,k.Y,0,0,k.DX,k.DY,k.Z⟩
   refine jd (vs:=qf.rep.cells P0) rfl λw9 hp9 hB9 hs9=>?_;have hk9:=(hk6.ext hB9).drew;have hv9:=(hv6.ext hB9).drew;have ht9:=(ht6.ext hB9).drew;have hm9:=(hm6.ext hB9).drew;have B9:=(zv B6 hB9).drew;refine lI (x:=k.X) (hk9.cells 12 _ rfl) (lI (x:=k.PW) (hk9.cells 14 _ rfl) (lI (x:=m.W) (hm9.cells 0 _ rfl) ?_));refine lI (x:=k.Y) (hk9.cells 13 _ rfl) (lI (x:=k.PH) (hk9.cells 15 _ rfl) (lI (x:=m.H) (hm9.cells 1 _ rfl) ?_));refine q20 ⟨hm9.cells 1 _ rfl,hk9.cells 15 _ rfl,hk9.cells 13 _ rfl,q20 ?_⟩;show stK ⟨w6.heap.size,9,none⟩ _ _ _;refine qB hp9.drew (by show (9+1:Nat)<=14;omega) λw12 hp12 hg12 hs12=>?_;have hc12:Chg (λi=>i=w6.heap.size) w9.drew w12:=Chg.of_grown hg12 λk hk=>by cases hk;rfl
   let P1:Pl:={ P0 with W:=qon k.X k.PW m.W }
   have hp12:Blk w12 w6.heap.size qL (qf.rep.cells P1):=hp12;show stK ⟨w6.heap.size,10,none⟩ _ _ _;refine qB hp12 (by show (10+1:Nat)<=14;omega) λw13 hp13 hg13 hs13=>?_;have hc13:Chg (λi=>i=w6.heap.size) w12 w13:=Chg.of_grown hg13 λk hk=>by cases hk;rfl
   let P2:Pl:={ P1 with H:=qon k.Y k.PH m.H }
   have hp13:Blk w13 w6.heap.size qL (qf.rep.cells P2):=hp13;have hcc:Chg (λi=>i=w6.heap.size) w9.drew w13:=hc12.trans hc13 λi _ hi=>hi;have nlt:∀{j:Nat},j<w6.heap.size->¬j=w6.heap.size:=λh e=>by omega
   have hk13:=hk9.chg hcc (nlt lk);have hv13:=hv9.chg hcc (nlt lv);have ht13:=ht9.chg hcc (nlt lt_);have B13:Uc w w13:=B9.trans (hcc.below (by have:=hB9.size;show w.heap.size<=w9.heap.size;omega) λi hi e=>by omega);refine lI (x:=qon k.X k.PW m.W) (hp13.cells 9 _ rfl) (lI (x:=qon k.Y k.PH m.H) (hp13.cells 10 _ rfl) (lI (x:=k.DX) (hk13.cells 16 _ rfl) (lI (x:=k.DY) (hk13.cells 17 _ rfl) (lI (x:=v.CellW) (hv13.cells 6 _ rfl) (lI (x:=v.CellH) (hv13.cells 7 _ rfl) ?_)))));refine qzq λw14 hB14=>?_;have hp14:=hp13.ext hB14;have hv14:=hv13.ext hB14;have ht14:=ht13.ext hB14;have B14:=zv B13 hB14;have z13:w6.heap.size<w13.heap.size:=hp13.lt;refine jpO λJ2 hJ2=>?_;have k2:∀wx,Uc w wx->Blk wx w6.heap.size qL (qf.rep.cells { P2 with Rows:=qyq m k v })->Blk wx w1.heap.size zS (qs.rep.cells v)->Blk wx w2.heap.size qL (qf.rep.cells pl0)->J2 (()) wx:=by
    intro w15 B15 hp15 hv15 ht15;refine hJ2 _ _ (jpO λJ3 hJ3=>?_);have k3:∀wx,Uc w wx->Blk wx w6.heap.size qL (qf.rep.cells { P2 with Rows:=qyq m k v,Cols:=q1b m k v })->Blk wx w1.heap.size zS (qs.rep.cells v)->Blk wx w2.heap.size qL (qf.rep.cells pl0)->J3 (()) wx:=by
     intro w16 B16 hp16 hv16 ht16;refine hJ3 _ _ (jpO λJ4 hJ4=>?_);have k4:J4 (zjr m k v,()) w16:=by
      refine hJ4 _ _ ?_;cases hfar:zjr m k v
      ·rw [hfar] at hK;simp only [Bool.false_eq_true,if_false] at hK;refine cF rfl (qy (r:=qf.rep) (x:={ P2 with Rows:=qyq m k v,Cols:=q1b m k v }) hp16.cells ?_);refine zn (r:=qf.rep) (x:={ P2 with Rows:=qyq m k v,Cols:=q1b m k v }) ht16 rfl rfl λw17 hc17 hs17=>?_;exact hK w17 (b1o B16 hc17 (by omega))
      ·rw [hfar] at hK;simp only [if_true] at hK;refine cT rfl ?_;refine zn (r:=qf.rep) (x:=pl0) ht16 rfl rfl λw17 hc17 hs17=>?_;exact hK w17 (b1o B16 hc17 (by omega))
     unfold zjr at k4;refine lI (x:=qyq m k v) (hp16.cells 5 _ rfl) (qc2 (J:=λb=>J4 (b,()) w16) k4 λk4=>?_);refine lI (x:=q1b m k v) (hp16.cells 6 _ rfl) (qc2 (J:=λb=>J4 (b,()) w16) k4 λk4=>?_);refine lI (x:=v.CellW) (hv16.cells 6 _ rfl) (xZ (qc2 (J:=λb=>J4 (b,()) w16) k4 λk4=>?_));exact lI (x:=v.CellH) (hv16.cells 7 _ rfl) (xZ k4)
    refine lI (x:=k.Cols) (hp15.cells 6 _ rfl) (cO (λe=>?_) λe=>?_)
    ·show stK ⟨w6.heap.size,6,none⟩ _ _ _;refine qB hp15 (by show (6+1:Nat)<=14;omega) λw16 hp16 hg16 hs16=>?_;have hc16:Chg (λi=>i=w6.heap.size) w15 w16:=Chg.of_grown hg16 λk hk=>by cases hk;rfl
     refine k3 w16 (B15.trans (hc16.below B15.size λi hi e=>by omega)) ?_ (hv15.chg hc16 (nlt lv)) (ht15.chg hc16 (nlt lt_));have ec:q1b m k v=(rcK m k v).2:=by unfold q1b;rw [if_pos (oTq e)]
     rw [ec];exact hp16
    ·have ec:q1b m k v=k.Cols:=by unfold q1b;rw [if_neg (oFq e)]
     refine k3 w15 B15 ?_ hv15 ht15;rw [ec];exact hp15
   refine lI (x:=k.Rows) (hp14.cells 5 _ rfl) (cO (λe=>?_) λe=>?_)
   ·show stK ⟨w6.heap.size,5,none⟩ _ _ _;refine qB hp14 (by show (5+1:Nat)<=14;omega) λw15 hp15 hg15 hs15=>?_;have hc15:Chg (λi=>i=w6.heap.size) w14 w15:=Chg.of_grown hg15 λk hk=>by cases hk;rfl
    refine k2 w15 (B14.trans (hc15.below B14.size λi hi e=>by omega)) ?_ (hv14.chg hc15 (nlt lv)) (ht14.chg hc15 (nlt lt_));have ec:qyq m k v=(rcK m k v).1:=by unfold qyq;rw [if_pos (oTq e)]
    rw [ec];exact hp15
   ·have ec:qyq m k v=k.Rows:=by unfold qyq;rw [if_neg (oFq e)]
    refine k2 w14 B14 ?_ hv14 ht14;rw [ec];exact hp14
  ·rw [hbad] at hK;simp only [if_true] at hK;refine cT rfl ?_;refine zn (r:=qf.rep) (x:=pl0) ht6 rfl rfl λw7 hc7 hs7=>?_;exact hK w7 (b1o B6 hc7 (by omega))
 unfold zcz at j5;refine lI (x:=k.X) (hk6.cells 12 _ rfl) (qc2 (J:=λb=>J5 (b,()) w6) j5 λj5=>?_);refine lI (x:=k.Y) (hk6.cells 13 _ rfl) (qc2 (J:=λb=>J5 (b,()) w6) j5 λj5=>?_);refine lI (x:=k.X) (hk6.cells 12 _ rfl) (lI (x:=m.W) (hm6.cells 0 _ rfl) (qc2 (J:=λb=>J5 (b,()) w6) j5 λj5=>?_));refine lI (x:=k.Y) (hk6.cells 13 _ rfl) (lI (x:=m.H) (hm6.cells 1 _ rfl) (qc2 (J:=λb=>J5 (b,()) w6) j5 λj5=>?_));refine lI (x:=k.DX) (hk6.cells 16 _ rfl) (lI (x:=v.CellW) (hv6.cells 6 _ rfl) (qc2 (J:=λb=>J5 (b,()) w6) j5 λj5=>?_));exact lI (x:=k.DY) (hk6.cells 17 _ rfl) (lI (x:=v.CellH) (hv6.cells 7 _ rfl) j5)
end
section
variable {w w':World}
theorem qxx (P:List UInt8) (o:Nat):qcp (ZW P o).e0/\qcp (ZW P o).e1/\qcp (ZW P o).e2:=by
 have h:∀x:UInt8,qcp (x.toNat:Int):=λx=>⟨by omega,by have:=x.toNat_lt;omega⟩;exact ⟨h _,h _,h _⟩
theorem zkm {q:Slc} {c:List UInt8} (hq:Rd qu w q c) (hql:∀a,q.a=some a->a.block<w.heap.size) (hc:c.length=4) {K:qa->Ub} (hK:∀q' w',Go.Vc.Own qu w' w.heap.size q' c->Uc w w'->K ⟨1,1,q'⟩ w'):qj5 ⟨1,1,q⟩ 0 0 1 1 w K:=by
 refine qy1 _ _ _ _ _ ?_;refine nwb λw1 b1 B1 s1=>nwb λw2 b2 B2 s2=>?_;have BB:=bT B1 B2;have z1:=B1.size;have z2:=B2.size;have b12:=b1.ext B2;refine lI (x:=1) (b12.cells 0 _ rfl) (qwx (by decide) (by decide) (by decide) (by decide) ?_);refine lI (x:=1) (b12.cells 1 _ rfl) (qwx (by decide) (by decide) (by decide) (by decide) ?_);refine jpO λJ1 hJ1=>cF rfl (cF rfl ?_);refine qy (r:=qa.rep) (x:=⟨1,1,q⟩) b12.cells ?_;refine qgd (m:=⟨1,1,q⟩) (P:=c) (W:=1) (H:=1) hq.n rfl rfl hc (by decide) (by decide) λw4 B4=>cF rfl (hJ1 _ _ ?_);have z4:=B4.size;have e1:i64.wrap ((0:Int)+1-0)=1:=by decide
 rw [e1];refine jd rfl λw7 b7 B7 s7=>?_;have B27:=bT B4 B7;have B07:=bT BB B27;have b17:=b12.ext B27;have b27:=b2.ext B27;have z7:=B7.size;refine lpR (λ(st:Int×Unit) w8=>∃(k:Nat) (q':Slc),st.1=(k:Int)/\k<=1/\Go.Vc.Own qu w8 w.heap.size q' (c.take (4*k))/\Blk w8 w4.heap.size qz [(Ua 1),(Ua 1),(.slice q'.a q'.n q'.c)]/\Blk w8 w.heap.size qz (qa.rep.cells ⟨1,1,q⟩)/\Blk w8 w1.heap.size qz [(Ua 0),(Ua 0),(.slice none 0 0)]/\Uc w w8) (λst=>1-st.1.toNat)
  ⟨0,⟨none,0,0⟩,rfl,by decide,Go.Vc.Own.nil _ _ _,b7,b17,b27,B07⟩ ?_
 rintro ⟨i,u⟩ w8 ⟨k,q',hi,hk,ho8,bo8,bm8,bt8,B8⟩ I hI;dsimp only at hi ⊢;subst hi;refine cO (λe=>?_) λe=>?_
 ·have e:=oTq e;obtain rfl:k=0:=by omega
  have B8d:=bT B8 (bdw w8);refine lSl (x:=q') (bo8.drew.cells 2 _ rfl) (lSl (x:=q) (bm8.drew.cells 2 _ rfl) (lI (x:=1) (bm8.drew.cells 0 _ rfl) (lI (x:=1) (bm8.drew.cells 0 _ rfl) ?_)));have e2:i64.wrap ((4:Int)*(i64.wrap ((i64.wrap (((0:Nat):Int)*1))+0)))=((0:Nat):Int):=by decide
  have e3:i64.wrap ((4:Int)*(i64.wrap ((i64.wrap (((0:Nat):Int)*1))+(0+1))))=((4:Nat):Int):=by decide
  rw [e2,e3];refine (hq.ext B8d).slK (l:=0) (m:=4) rfl (.inr rfl) (.inr rfl) (by decide) (by omega) λhr3=>?_;rw [take_of_length_le (by omega),drop_zero] at hr3;refine jz zh ho8.drew hr3 (by show w.heap.size<=w8.heap.size;exact B8.size) (by rw [xX,hc];show (0+4)*1<=140737488355328;decide) (by rw [hc];show 0+4<=maxLen;decide) λr w9 ho9 hg9 hr9=>?_;have c9:Chg (λk=>q'.blk=some k) w8.drew w9:=Chg.of_grown (S:=λk=>q'.blk=some k) hg9 λk hk=>hk;have bo9:=bo8.drew.chg c9 ((λe=>qF ho8 bo8 (by decide) _ e rfl));have bm9:=bm8.drew.chg c9 ((λe=>qF ho8 bm8 (by decide) _ e rfl));have bt9:=bt8.drew.chg c9 ((λe=>qF ho8 bt8 (by decide) _ e rfl));have B9:Uc w w9:=B8d.trans (c9.below B8d.size λi hi hs=>by have:=(ho8.lt i hs).1;omega);rw [qH];refine qB bo9 (by simp) λw10 b10 g10 s10=>?_;have c10:=Go.Vc.Chg.gg g10;refine hI _ _ ⟨1,r,rfl,by decide,?_,b10,bm9.chg c10 (by omega),bt9.chg c10 (by omega),b1o B9 c10 (by omega)⟩ (by show (0:Nat)<1;decide);have:c.take (4*1)=c.take (4*0)++c:=by rw [take_of_length_le (by omega)];rfl
  rw [this];exact ho9.chg c10 (qF ho9 bo9 (by decide))
 ·have e:=oFq e;obtain rfl:k=1:=by omega
  rw [take_of_length_le (by omega)] at ho8;refine qy (r:=qa.rep) (x:=⟨1,1,q'⟩) bo8.cells ?_;refine zn (r:=qa.rep) (x:=⟨1,1,q'⟩) bt8 rfl rfl λw9 c9 s9=>hK q' w9 (ho8.chg c9 (qF ho8 bt8 (by decide))) (b1o B8 c9 z1)
theorem za5 {s:qx} (h1:s.CellW=1) (h2:s.CellH=1) (h3:s.Top=0) {K:Int->Int->Int->Int->Ub} (hK:∀w',Uc w w'->K 2 0 1 1 w'):qai s ⟨7,0,false,0,2,1,1,0,0,1,1,0,0,0⟩ w K:=by
 refine qqm _ _ ?_;refine nwb λw1 b1 B1 s1=>nwb λw2 b2 B2 s2=>?_;have b1d:=(b1.ext B2).drew;have b2d:=b2.drew;have BB:=bT (bT B1 B2) (bdw w2);refine lI (x:=1) (b2d.cells 9 _ rfl) (lI (x:=1) (b2d.cells 10 _ rfl) (jpO λJ1 hJ1=>?_));refine lI (x:=1) (b2d.cells 9 _ rfl) (lI (x:=1) (b2d.cells 10 _ rfl) (lI (x:=0) (b2d.cells 11 _ rfl) (lI (x:=0) (b2d.cells 12 _ rfl) ?_)));refine lI (x:=1) (by rw [<-h1];exact b1d.cells 2 _ rfl) (lI (x:=1) (by rw [<-h2];exact b1d.cells 3 _ rfl) ?_);refine qzq λw3 B3=>?_;have b13:=b1d.ext B3;have b23:=b2d.ext B3;refine jpO λJ4 hJ4=>?_;refine lI (x:=1) (b23.cells 5 _ rfl) (cF (by kernel_rfl) (lI (x:=1) (b23.cells 6 _ rfl) ?_));have e1:((zi4 1 1 0 0 1 1).2 !=1)=false:=by kernel_rfl
 rw [e1];refine hJ4 _ _ (cF rfl (hJ1 _ _ (jpO λJ2 hJ2=>jpO λJ3 hJ3=>?_)));refine x8 (cF rfl (x8 (cF rfl ?_)));have e2:decide (i64.wrap ((1:Int)*1)>67108864)=false:=by decide
 rw [e2];refine hJ3 _ _ (cF rfl (hJ2 _ _ ?_));have b13d:=b13.drew;have b23d:=b23.drew;refine lI (x:=2) (b23d.cells 4 _ rfl) (lI (x:=1) (by rw [<-h1];exact b13d.cells 2 _ rfl) (lI (x:=0) (b23d.cells 11 _ rfl) (lI (x:=0) (b23d.cells 3 _ rfl) ?_)));refine lI (x:=0) (by rw [<-h3];exact b13d.cells 7 _ rfl) (lI (x:=1) (by rw [<-h2];exact b13d.cells 3 _ rfl) (lI (x:=0) (b23d.cells 12 _ rfl) ?_));have e3:i64.wrap ((i64.wrap ((2:Int)*1))+0)=2:=by decide
 have e4:i64.wrap ((i64.wrap ((i64.wrap ((0:Int)-0))*1))+0)=0:=by decide
 rw [e3,e4];exact hK _ (bT (bT BB B3) (bdw w3))
end
section
variable {w w':World} {base W H:Nat} {m:qa} {P:List UInt8}
theorem q78 {c:List UInt8} (hc:c.length=4) (h3:c.getD 3 0=255):qh.rep.cells ⟨(ZW c 0).e0,(ZW c 0).e1,(ZW c 0).e2,255⟩=jU c:=by
 match c,hc with
 | [a,b,d,e],_ =>
  have:e=255:=h3;subst this;rfl
theorem zk6 (h:MatM w base m W H P) (hW:W<=1000) (hH:H<=1000) {q:Slc} {c:List UInt8} (hq:Rd qu w q c) (hqs:∀a,q.a=some a->a.spot=none) (hqn:∀a,q.a=some a->m.P.blk≠some a.block) (hc:c.length=4) (h3:c.getD 3 0=255) {x y:Nat} (hx:x<W) (hy:y<H) {K:Ub}
  (hK:∀w',MatM w' base m W H (qfo P (4*(y*W+x)) c)->Chg (λk=>m.P.blk=some k) w w'->K w'):qk9 m ⟨1,1,q⟩ (x:Int) (y:Int) 1 1 w K:=by
 refine qx3 _ _ _ _ _ _ ?_;obtain ⟨gm,ha,hbm⟩:=h.some_;have hlim:=h.lim;have gl:=(h.own.lt gm hbm).2;refine nwb λw1 bo1 B1 s1=>nwb λw2 bs2 B2 s2=>?_;have BB:=bT B1 B2;have z1:=B1.size;have z2:=B2.size;have bo2:=bo1.ext B2;have hp:=qpe hx hy;have hpl:4*(y*W+x)+4<=P.length:=by rw [h.len];exact hp
 have hwh:4*W*H<=4*1000*1000:=mul_le_mul (Nat.mul_le_mul_left 4 hW) hH;obtain ⟨o,ho⟩:∃o,o=4*(y*W+x):=⟨_,rfl⟩;refine jpO λJ1 hJ1=>qy (r:=qa.rep) (x:=m) bo2.cells ?_;refine qgd (P:=P) h.own.rd.n h.hw h.hh h.len ⟨hlim.1,hW⟩ ⟨hlim.2.2.1,hH⟩ λw3 B3=>cF rfl ?_;have bs3:=bs2.ext B3;have bo3:=bo2.ext B3;refine qy (r:=qa.rep) (x:=⟨1,1,q⟩) bs3.cells ?_;refine qgd (m:=⟨1,1,q⟩) (P:=c) (W:=1) (H:=1) hq.n rfl rfl hc (by decide) (by decide) λw4 B4=>cF rfl (hJ1 _ _ ?_);have z3:=B3.size;have z4:=B4.size;have bs4:=bs3.ext B4;have bo4:=bo3.ext B4;have B04:=bT (bT BB B3) B4;refine lI (x:=(W:Int)) (by rw [<-h.hw];exact bo4.cells 0 _ rfl) (qwx (by omega) (by decide) (by omega) (by omega) ?_);refine lI (x:=(H:Int)) (by rw [<-h.hh];exact bo4.cells 1 _ rfl) (qwx (by omega) (by decide) (by omega) (by omega) ?_);have hM4:=h.ext B04;have kp:∀{wx},Chg (λk=>k=gm) w4 wx->Blk wx w.heap.size qz (qa.rep.cells m)/\Blk wx w1.heap.size qz (qa.rep.cells ⟨1,1,q⟩):=λhc=>⟨bo4.chg hc (by omega),bs4.chg hc (by omega)⟩;have fin:∀{wx},MatM wx base m W H (qfo P o c)->Chg (λk=>k=gm) w4 wx->K wx:=λhM hc'=>by
  rw [ho] at hM;exact hK _ hM ((Chg.of_ext B04).trans (hc'.mono λk hk e=>by show m.P.blk=some k;rw [e];exact hbm) λ_ _ h=>h)
 refine lpR (λ(st:Int×Unit) w5=>∃k:Nat,st.1=(y:Int)+k/\k<=1/\MatM w5 base m W H (if k=0 then P else qfo P o c)/\Chg (λk=>k=gm) w4 w5) (λst=>1-(st.1-(y:Int)).toNat) ⟨0,by omega,by decide,hM4,Chg.refl _ _⟩ ?_;rintro ⟨i,u⟩ w5 ⟨k,hi,hk,hM5,c5⟩ I hI;dsimp only at hi ⊢;subst hi;refine cO (λe=>?_) λe=>?_
 ·have e:=oTq e;obtain rfl:k=0:=by omega
  have hM5:MatM w5 base m W H P:=hM5;refine lpR (λ(st:Int×Unit) w6=>∃k:Nat,st.1=(x:Int)+k/\k<=1/\MatM w6 base m W H (if k=0 then P else qfo P o c)/\Chg (λk=>k=gm) w4 w6) (λst=>1-(st.1-(x:Int)).toNat) ⟨0,by omega,by decide,hM5,c5⟩ ?_;rintro ⟨i2,u2⟩ w6 ⟨k2,hi2,hk2,hM6,c6⟩ I2 hI2;dsimp only at hi2 ⊢;subst hi2;refine cO (λe2=>?_) λe2=>?_
  ·have e2:=oTq e2;obtain rfl:k2=0:=by omega
   have hM6:MatM w6 base m W H P:=hM6;obtain ⟨q1,q2⟩:=kp c6;have q1:=q1.drew;have q2:=q2.drew;have hMd:MatM w6.drew base m W H P:=⟨hM6.hw,hM6.hh,hM6.own.drew,hM6.len,hM6.lim⟩;have hqd:Rd qu w6.drew q c:=((hq.ext B04).chg c6 λa haq e=>hqn a haq (by rw [e];exact hbm)).drew;have ey:((y:Int)+((0:Nat):Int))=(y:Int):=by omega
   have ex:((x:Int)+((0:Nat):Int))=(x:Int):=by omega
   rw [ey,ex];have t1:(i64.wrap ((i64.wrap ((i64.wrap ((x:Int)-x))*1)).tdiv 1))=((0:Nat):Int):=by rw [Int.sub_self];decide
   have t2:(i64.wrap ((i64.wrap ((i64.wrap ((y:Int)-y))*1)).tdiv 1))=((0:Nat):Int):=by rw [Int.sub_self];decide
   refine qy (r:=qa.rep) (x:=m) q1.cells (qy (r:=qa.rep) (x:=⟨1,1,q⟩) q2.cells (lI (x:=1) (q2.cells 0 _ rfl) ⟨by decide,lI (x:=1) (q2.cells 1 _ rfl) ⟨by decide,?_⟩⟩));rw [t1,t2];have f2:∀{wx},Below w6.drew.heap.size w6.drew wx->wx.cell? ((⟨w1.heap.size,0,none⟩:Addr).add 1)=some (Ua 1)/\wx.cell? ((⟨w1.heap.size,0,none⟩:Addr).add 0)=some (Ua 1)/\q6 wx ⟨w1.heap.size,0,none⟩ (qa.rep.cells ⟨1,1,q⟩):=λhB=>⟨(q2.ext hB).cells 1 _ rfl,(q2.ext hB).cells 0 _ rfl,(q2.ext hB).cells⟩;have f1:∀{wx},Below w6.drew.heap.size w6.drew wx->q6 wx ⟨w.heap.size,0,none⟩ (qa.rep.cells m):=λhB=>(q1.ext hB).cells;have a1:∀{wx} {K2:qh->Ub},Below w6.drew.heap.size w6.drew wx->(∀w',Uc wx w'->K2 (ZW P o) w')->ye m (x:Int) (y:Int) wx K2:=λhB hK2=>by
    rw [ho] at hK2;exact q23 (hMd.own.rd.ext hB) (λa hh=>by rw [ha] at hh;cases hh;rfl) h.hw hpl (by rw [h.len];omega) hK2
   have a2:∀{wx} {K2:qh->Ub},Below w6.drew.heap.size w6.drew wx->(∀w',Uc wx w'->K2 (ZW c 0) w')->ye ⟨1,1,q⟩ ((0:Nat):Int) ((0:Nat):Int) wx K2:=λhB hK2=>
    q23 (m:=⟨1,1,q⟩) (W:=1) (x:=0) (y:=0) (hqd.ext hB) hqs rfl (by rw [hc];decide) (by rw [hc];decide) hK2
   have a3:∀{wx} {K2:qh->Ub},(∀w',Uc wx w'->K2 ⟨(ZW c 0).e0,(ZW c 0).e1,(ZW c 0).e2,255⟩ w')->yb (ZW P o) (ZW c 0) wx K2:=λhK2=>
    zek (qxx _ _) (qxx _ _) (by show (((c.getD (0+3) 0).toNat:Nat):Int)=255;rw [h3];rfl) hK2
   have put:∀{wx:World} {b:Nat},Below w6.drew.heap.size w6.drew wx->w6.drew.heap.size<=b->Blk wx b qJ [(.int .u8 0),(.int .u8 0),(.int .u8 0),(.int .u8 0)] ->
     stK ⟨b,0,none⟩ (qh.rep.cells ⟨(ZW c 0).e0,(ZW c 0).e1,(ZW c 0).e2,255⟩) wx λw12=>
     zF ((⟨w.heap.size,0,none⟩:Addr).add 2) w12.drew λt79=>
     ldI .i64 ((⟨w.heap.size,0,none⟩:Addr).add 0) w12.drew λt82=>
     slK t79 (some (i64.wrap ((4:Int)*(i64.wrap ((i64.wrap ((y:Int)*t82))+(x:Int)))))) none 1 λt87=>
     slA ⟨b,0,none⟩ 4 none none 1 λt88=>
     jq PG (copy_ #[qm,qm] zz #[(.slice t87.a t87.n t87.c),(.slice t88.a t88.n t88.c)]) (Kind.int .i64) w12.drew λ(t89:Int) w13 =>
     I2 ((i64.wrap ((x:Int)+(1:Int))),()) w13:=by
    intro wx b hB hb hcb;rw [q78 hc h3];refine jH hcb (by rw [yv,hc];rfl) λw12 b12 c12 s12=>?_;have hlt:gm<w6.drew.heap.size:=by have:=c6.size;show gm<w6.heap.size;have:=B04.size;omega
    have B12:=b1o hB c12 hb;have q1':=(q1.ext B12).drew;refine lSl (x:=m.P) (q1'.cells 2 _ rfl) (lI (x:=(W:Int)) (by rw [<-h.hw];exact q1'.cells 0 _ rfl) ?_);have eidx:i64.wrap ((4:Int)*i64.wrap (i64.wrap ((y:Int)*(W:Int))+(x:Int)))=((4*(y*W+x):Nat):Int):=by
     have e1:(y:Int)*(W:Int)=((y*W:Nat):Int):=by simp
     rw [e1];generalize y*W=qq at hp ⊢;rw [qQ (x:=((qq:Nat):Int)) (by omega),qQ (x:=((qq:Nat):Int)+(x:Int)) (by omega),qQ (by omega)];omega
    rw [eidx,<-ho];rw [<-ho] at hp hpl;have ho5:Go.Vc.Own qu w12.drew base m.P P:=(hMd.own.ext B12).drew;refine ho5.rd.slK (l:=o) (m:=P.length) rfl (.inr rfl) (.inl ⟨rfl,rfl⟩) (by omega) (le_refl _) λ_=>?_;obtain ⟨cur,hcur,hcl,hct,hc1,hc2',hc3',hc4'⟩:=qwv (c:=0) ho5 ha;have hcut:cut m.P.a o m.P.c qu.k=some ⟨gm,o,none⟩:=by
     unfold cut;rw [if_neg (by omega),ha];show some ((⟨gm,0,none⟩:Addr).add (o*1))=_;rw [qH,mul_one,zero_add]
    rw [hcut];have hrc:Rd qu w12.drew ⟨some ⟨b,0,none⟩,4,4⟩ c:=by
     refine ⟨hc.symm,le_refl _,by simp [maxLen],λ_=>rfl,λi z hz=>?_⟩;have hbc':=b12.drew.cells i (.int .u8 (z.toNat:Int)) (by unfold jU;rw [List.getElem?_map,hz];rfl);intro j v hj
     match j,hj with
     | 0,hj =>
      cases hj;show w12.drew.cell? (((⟨b,0,none⟩:Addr).add (i*1)).add 0)=_;rw [add_zero,mul_one];exact hbc'
     | j+1,hj=>simp [qu] at hj
    show jq PG (copy_ #[qm,qm] zz #[(.slice (some ⟨gm,o,none⟩) (P.length-o) (m.P.c-o)),(.slice (some ((⟨b,0,none⟩:Addr).add (0*1))) 4 4)]) (Kind.int .i64) w12.drew _;rw [Nat.zero_mul,add_zero];refine zhh (x:=⟨some ⟨b,0,none⟩,4,4⟩) (ys:=c) (n:=4) hcur hrc (by rw [hc];omega) (by omega) λw13 hb6 hc6 hs6=>?_;rw [take_of_length_le (by rw [hc];omega)] at hb6;have ho6:=q38 (ys:=c) (k:=o) ho5 ha hcur (by rw [hc];omega) hb6;rw [qQ (x:=(x:Int)+1) (by omega)];have c13:Chg (λk=>k=gm) w4 w13:=by
     refine ((c6.trans ((Chg.of_ext (S:=λk=>k=gm) (bT (bdw w6) B12)).trans (Chg.of_ext (S:=λk=>k=gm) (bdw w12)) λ_ _ h=>h) λ_ _ h=>h)).trans hc6 λ_ _ h=>h
    refine hI2 _ _ ⟨1,by simp,by decide,⟨h.hw,h.hh,?_,?_,h.lim⟩,c13⟩ (by show 1-((x:Int)+1-(x:Int)).toNat<1-((x:Int)+((0:Nat):Int)-(x:Int)).toNat;omega)
    ·show Go.Vc.Own qu w13 base m.P (qfo P o c);unfold qfo;rw [<-hc];exact ho6
    ·show (qfo P o c).length=4*W*H;rw [qt4 hpl hc,h.len]
   have B0:=Below.refl w6.drew.heap.size w6.drew;refine ⟨a1 B0 λw8 B8=>?_,nwb λw23 b23 B23 s23=>?_⟩
   ·obtain ⟨g1,g2,g3⟩:=f2 B8;have z8:=B8.size;refine ⟨g1,g2,g3,a2 B8 λw9 B9=>?_,nwb λw18 b18 B18 s18=>?_⟩
    ·have B9':=bT B8 B9;have z9:=B9.size;refine ⟨a3 λw10 B10=>nwb λw11 b11 B11 s11=>?_,nwb λw14 b14 B14 s14=>?_⟩
     ·have B11':=bT (bT B9' B10) B11;have z10:=B10.size;obtain ⟨g1,g2,g3⟩:=f2 B11';exact ⟨g1,g2,g3,f1 B11',put B11' (by omega) b11⟩
     ·have B14':=bT B9' B14;obtain ⟨g1,g2,g3⟩:=f2 B14';refine ⟨g1,g2,g3,f1 B14',a3 λw15 B15=>put (bT B14' B15) (by omega) (b14.ext B15)⟩
    ·have B18':=bT B8 B18;obtain ⟨g1,g2,g3⟩:=f2 B18';refine ⟨g1,g2,g3,f1 B18',a2 B18' λw19 B19=>a3 λw20 B20=>put (bT (bT B18' B19) B20) (by omega) ((b18.ext B19).ext B20)⟩
   ·obtain ⟨g1,g2,g3⟩:=f2 B23;refine ⟨g1,g2,g3,f1 B23,a1 B23 λw24 B24=>?_⟩;have B24':=bT B23 B24;obtain ⟨g1,g2,g3⟩:=f2 B24';refine ⟨g1,g2,g3,a2 B24' λw25 B25=>a3 λw26 B26=>put (bT (bT B24' B25) B26) (le_refl _) (((b23.ext B24).ext B25).ext B26)⟩
  ·have e2:=oFq e2;obtain rfl:k2=1:=by omega
   rw [qQ (x:=(y:Int)+((0:Nat):Int)+1) (by omega)];exact hI _ _ ⟨1,by simp,by decide,hM6,c6⟩ (by dsimp only;omega)
 ·have e:=oFq e;obtain rfl:k=1:=by omega
  exact fin hM5 c5
end
def qy7 (m:qa):Value:=.agg (qa.rep.cells m).toArray
def p7:qf:=⟨7,0,false,0,2,1,1,0,0,1,1,0,0,0⟩
theorem zla:PG.underlying j8=some (.map zz qz):=by kernel_rfl
theorem zoj:∀w,(zeroValue qz).run PG w=.ok (qy7 ⟨0,0,⟨none,0,0⟩⟩) w:=Tryz.zeroValue41
section
variable {w w':World} {base W H r:Nat} {m:qa} {P:List UInt8}
theorem zkr {L:List (Int×qa)} (h:zP qy7 w r L) (id:Int) {K:qa->Bool->Ub} (hK:K ((zA L id).getD ⟨0,0,⟨none,0,0⟩⟩) (zA L id).isSome w) :
  qfb PG (Instr.lookup j8 (.map (some r)) (Ua id) true) (Kind.struct qa.rep) Kind.bool w K:=by
 refine ⟨_,_,w,?_,hK⟩;rw [h.lookup_ok zla zco zoj id];cases zA L id<;>rfl
theorem zas {s:qx} {q:Slc} {c:List UInt8} {above:Bool} (h1:s.CellW=1) (h2:s.CellH=1) (h3:s.Top=0) (hp:Rd qS w s.Places [p7]) (hpn:∀a,s.Places.a=some a->m.P.blk≠some a.block) (hi:s.Images=some r) (hm:zP qy7 w r [(7,⟨1,1,q⟩)]) (hrn:m.P.blk≠some r)
  (hq:Rd qu w q c) (hqn:∀a,q.a=some a->m.P.blk≠some a.block) (hc:c.length=4) (h3c:c.getD 3 0=255) (hM:MatM w base m W H P) (hW:2<W/\W<=1000) (hH:H<=1000) {K:qa->Ub}
  (hK:∀w',MatM w' base m W H (if above then qfo P 8 c else P)->Chg (λk=>m.P.blk=some k) w w'->K m w'):x7 ⟨s,above⟩ m w K:=by
 refine Jg _ _ ?_;obtain ⟨gm,ha,hbm⟩:=hM.some_;have gl:=(hM.own.lt gm hbm).2;refine nwb λw1 b1 B1 s1=>nwb λw2 b2 B2 s2=>nwb λw3 b3 B3 s3=>?_;have B03:=bT (bT B1 B2) B3;have z1:=B1.size;have z2:=B2.size;have z3:=B3.size;have b13:=(b1.ext B2).ext B3;have b23:=b2.ext B3;refine lSl (x:=s.Places) (by rw [zR];exact b13.cells 5 _ rfl) ?_;have hpn1:=hp.n;have c03:Chg (λk=>m.P.blk=some k) w w3:=Chg.of_ext B03;refine lpR (λ(st:Int×Unit) w4=>∃k:Nat,st.1=(k:Int)/\k<=1/\MatM w4 base m W H (if k=0 then P else if above then qfo P 8 c else P)/\Blk w4 w.heap.size xh (zO.rep.cells ⟨s,above⟩)/\Blk w4 w1.heap.size qz (qa.rep.cells m)/\Blk w4 w2.heap.size qz [(Ua 0),(Ua 0),(.slice none 0 0)]/\Chg (λk=>m.P.blk=some k) w w4) (λst=>1-st.1.toNat)
  ⟨0,rfl,by decide,hM.ext B03,b13,b23,b3,c03⟩ ?_
 rintro ⟨i,u⟩ w4 ⟨k,hk1,hk,hM4,b14,b24,b34,c4⟩ I hI;dsimp only at hk1 ⊢;subst hk1;refine cO (λe=>?_) λe=>?_
 ·have e:=oTq e;rw [hpn1] at e;obtain rfl:k=0:=by simp at e;omega
  have hM4:MatM w4 base m W H P:=hM4;have hp4:=hp.chg c4 hpn;refine hp4.ix (E:=qS) (i:=((0:Nat):Int)) (k:=14) rfl (by decide) (by decide) λhcc=>?_;refine qy (r:=qf.rep) (x:=p7) hcc ?_;refine jd rfl λw6 b6 B6 s6=>?_;have z4:=c4.size;refine xP (x:=some r) (by rw [zR,<-hi];exact (b14.ext B6).cells 6 _ rfl) (lI (x:=7) (b6.cells 0 _ rfl) ?_);have hm6:zP qy7 w6 r [(7,⟨1,1,q⟩)]:=(hm.chg c4 hrn).ext B6;refine zkr hm6 7 ?_;show nw qz [(Ua 0),(Ua 0),(.slice none 0 0)] w6 λsrc w8=>stK src (qa.rep.cells ⟨1,1,q⟩) w8 _;refine jd rfl λw9 b9 B9 s9=>?_;have z6:=B6.size;have z9:=B9.size;have B49:=bT B6 B9;have b69:=b6.ext B9;refine qy (r:=qx.rep) (x:=s) ?_ (qy (r:=qf.rep) (x:=p7) b69.cells ?_)
  ·have:=(b14.ext B49).sub 0 (qx.rep.cells s) rfl;exact this
  refine za5 h1 h2 h3 λw10 B10=>?_;have B410:=bT B49 B10;have z10:=B10.size;have b16:=b14.ext B410;have b26:=b24.ext B410;have b36:=b34.ext B410;have b610:=b69.ext B10;have b910:=b9.ext B10;have hM10:=hM4.ext B410;have c10:Chg (λk=>m.P.blk=some k) w w10:=c4.trans (Chg.of_ext B410) λ_ _ h=>h;refine jpO λJ2 hJ2=>?_;have e0:i64.wrap (((0:Nat):Int)+1)=((1:Nat):Int):=by decide
  rw [e0];refine cF rfl (cF rfl (lI (x:=0) (b610.cells 13 _ rfl) (jw (x:=above) (b16.cells 11 _ rfl) ?_)));refine cO (λec=>?_) λec=>?_
  ·have hab:above=false:=by cases above<;>simp at ec ⊢
   subst hab;exact hI _ _ ⟨1,rfl,by decide,hM10,b16,b26,b36,c10⟩ (by show (0:Nat)<1;decide)
  ·have hab:above=true:=by cases above<;>simp at ec ⊢
   subst hab;refine hJ2 _ _ (qy (r:=qa.rep) (x:=⟨1,1,q⟩) b910.cells (lI (x:=0) (b610.cells 7 _ rfl) (lI (x:=0) (b610.cells 8 _ rfl) (lI (x:=1) (b610.cells 9 _ rfl) (lI (x:=1) (b610.cells 10 _ rfl) ?_)))));have hq10:Rd qu w10 q c:=hq.chg c10 hqn;refine zkm hq10 (zdi hq10 (by omega)) hc λq' w12 hq' B12=>?_;refine jd rfl λw14 b14' B14 s14=>?_;have B1014:=bT B12 B14;have z12:=B12.size;refine lI (x:=1) (b14'.cells 0 _ rfl) (cT rfl (qy (r:=qa.rep) (x:=m) (b26.ext B1014).cells (qy (r:=qa.rep) (x:=⟨1,1,q'⟩) b14'.cells ?_)));have hq'14:=hq'.ext B14;have hqf:=hq'14.form;have hqa:∀a,q'.a=some a->a.spot=none/\w10.heap.size<=a.block:=by
    intro a haa;refine ⟨?_,(hq'14.lt a.block (slk.2 ⟨a,haa,rfl⟩)).1⟩;rcases hqf with ⟨_,e⟩ | ⟨g',cur,e,_⟩
    ·rw [e] at hc;simp at hc
    ·rw [e] at haa;cases haa;rfl
   have hM14:=hM10.ext B1014;refine zk6 (x:=2) (y:=0) hM14 hW.2 hH hq'14.rd (λa haa=>(hqa a haa).1) (λa haa e=>?_) hc h3c hW.1 (by have:=hM.lim;omega) λw15 hM15 c15=>?_
   ·have:=(hqa a haa).2;rw [hbm] at e;cases e;omega
   ·have nb:∀{g:Nat},w.heap.size<=g->¬(m.P.blk=some g):=λhg e=>by rw [hbm] at e;cases e;omega
    refine hI _ _ ⟨1,rfl,by decide,?_,(b16.ext B1014).chg c15 (nb (le_refl _)),(b26.ext B1014).chg c15 (nb z1),(b36.ext B1014).chg c15 (nb (by omega)),(c10.trans (Chg.of_ext B1014) λ_ _ h=>h).trans c15 λ_ _ h=>h⟩ (by show (0:Nat)<1;decide);have e8:4*(0*W+2)=8:=by omega
    rw [e8] at hM15;exact hM15
 ·have e:=oFq e;rw [hpn1] at e;obtain rfl:k=1:=by simp at e;omega
  refine qy (r:=qa.rep) (x:=m) b24.cells ?_;refine zn (r:=qa.rep) (x:=m) b34 rfl rfl λw5 c5 s5=>hK w5 ?_ ?_
  ·exact ⟨hM4.hw,hM4.hh,hM4.own.chg c5 (λk hk e=>by rw [hbm] at hk;cases hk;omega),hM4.len,hM4.lim⟩
  ·exact c4.trans c5 λi hi e=>by omega
end
end Go.Proofs.YtlmpnfhmpjldaaaGreatDoor
