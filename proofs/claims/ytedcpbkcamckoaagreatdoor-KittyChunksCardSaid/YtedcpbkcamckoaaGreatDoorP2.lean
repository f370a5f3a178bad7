import Derived.Test.YtedcpbkcamckoaaGreatDoorP1
import Derived.Lib.Bytealg
import Derived.Lib.ItoaNum
import Derived.Lib.Join
import Derived.Lib.SlBytesConst
set_option linter.unusedVariables false
namespace Go.Proofs.YtedcpbkcamckoaaGreatDoor
open Go.Vc Go.RowKit
set_option maxRecDepth 100000
open IntKind (i64)
open _root_.Nat (le_refl)
def qqe (W H:Int):Bool:=(W==0 && H==0) || (decide (1<=W) && decide (W<=16384) && decide (1<=H) && decide (H<=16384) && decide (W*H<=67108864))
def q0w (W H:Int) (n:Nat):Bool:=qqe W H && ((n:Int)==4*W*H)
def isNum (n:Int):Bool:=decide (0<=n) && decide (n<=4294967295)
theorem qyu {n:Int} {w:World} {K:Bool->World->Prop} (hK:K (isNum n) w):qh0 n w K:=by
 refine qy9 _ ?_;unfold qrk;unfold isNum at hK;refine cO (fun h=>?_) fun h=>?_
 ·rw [show decide (0<=n)=true from h,Bool.true_and] at hK;exact hK
 ·rw [show decide (0<=n)=false from h,Bool.false_and] at hK;exact hK
theorem q9p {W H:Int} (h1:1<=W) (h2:W<=16384) (h3:1<=H) (h4:H<=16384):1<=W*H/\W*H<=268435456:=by
 have a:=Int.mul_le_mul h1 h3 (by omega) (by omega);have b:=Int.mul_le_mul h2 h4 (by omega) (by omega);omega
theorem zak {W H:Int} {w:World} {K:Bool->World->Prop} (hK:K (qqe W H) w):qi9 W H w K:=by
 refine quf _ _ ?_;unfold qq8;have tail:qqe W H=(decide (1<=W) && decide (W<=16384) && decide (1<=H) && decide (H<=16384) && decide (W*H<=67108864))->cond (decide (W>=(1:Int)))
     (cond (decide (W<=(16384:Int)))
       (cond (decide (H>=(1:Int)))
        (cond (decide (H<=(16384:Int)))
          (K (decide ((i64.wrap (W*H))<=(67108864:Int))) w)
          (K false w))
        (K false w))
       (K false w))
     (K false w):=fun e=>by
  rw [e] at hK;refine cO (fun h1=>?_) fun h1=>?_
  ·have g1:=oTq h1;rw [show decide (1<=W)=true from h1] at hK;refine cO (fun h2=>?_) fun h2=>?_
   ·have g2:=oTq h2;rw [h2] at hK;refine cO (fun h3=>?_) fun h3=>?_
    ·have g3:=oTq h3;rw [show decide (1<=H)=true from h3] at hK;refine cO (fun h4=>?_) fun h4=>?_
     ·have g4:=oTq h4;rw [h4] at hK;have:=q9p g1 g2 g3 g4;rw [w64i (by omega)];simpa using hK
     ·rw [h4] at hK;simpa using hK
    ·rw [show decide (1<=H)=false from h3] at hK;simpa using hK
   ·rw [h2] at hK;simpa using hK
  ·rw [show decide (1<=W)=false from h1] at hK;simpa using hK
 refine cO (fun h1=>?_) fun h1=>?_
 ·refine cO (fun h2=>?_) fun h2=>?_
  ·unfold qqe at hK;rw [h1,h2] at hK;simpa using hK
  ·exact tail (by unfold qqe;rw [h1,h2];rfl)
 ·exact tail (by unfold qqe;rw [h1];rfl)
theorem zde {W H:Int} (h:qqe W H=true):0<=W/\W<=16384/\0<=H/\H<=16384/\0<=W*H/\W*H<=67108864:=by
 unfold qqe at h;simp only [Bool.or_eq_true,Bool.and_eq_true,beq_iff_eq,decide_eq_true_eq] at h;rcases h with ⟨rfl,rfl⟩ | ⟨⟨⟨⟨h1,h2⟩,h3⟩,h4⟩,h5⟩
 ·decide
 ·have:=q9p h1 h2 h3 h4;omega
section
variable {w:World} {base g r n:Nat} {S:St}
theorem zco {m:qac} {K:Bool->World->Prop} (hK:∀w',Below w.heap.size w w'->K (q0w m.W m.H m.P.n) w'):qq6 m w K:=by
 refine q3l _ ?_;unfold qw5;refine nwb fun w1 hb1 hB1 hs1=>?_;refine lI (x:=m.W) (hb1.cells 0 _ rfl) (lI (x:=m.H) (hb1.cells 1 _ rfl) (zak ?_));have hK:=hK w1 hB1;unfold q0w at hK;refine cO (fun h=>?_) fun h=>?_
 ·rw [h,Bool.true_and] at hK;have hb:=zde h;refine lSl (x:=m.P) (hb1.cells 2 _ rfl) (lI (x:=m.W) (hb1.cells 0 _ rfl) (lI (x:=m.H) (hb1.cells 1 _ rfl) ?_));have h4:(4:Int)*m.W*m.H=4*(m.W*m.H):=Int.mul_assoc _ _ _;rw [w64i (x:=4*m.W) (by omega),w64i (by omega)];exact hK
 ·rw [h,Bool.false_and] at hK;exact hK
def freeF (L:List (Int×Im)):Nat->Int->Int
 | 0,k=>k
 | f+1,k=>if (lookL L k).isSome then freeF L f (k+1) else k
def qh8 (S:St) (id num W H:Int) (n:Nat):Int:=if q0w W H n && !(W==0) && isNum id && isNum num then (if (n:Int)>S.quota then 6 else 0) else 1
def St.putPre (S:St) (id:Int) (n:Nat):St×List Int:=(if id=0 then ({ S with res:=0 }:St) else ({ S with res:=0 }:St).drop id).room n
def newId (L:List (Int×Im)) (id:Int):Int:=if id=0 then freeF L 2000 1099511627776 else id
def St.putAt (S:St) (i num W H:Int) (P:Slc) (bs:List UInt8):St:={ S with clock:=S.clock+1,used:=S.used+bs.length,L:=putL' S.L i ⟨⟨num,⟨W,H,P⟩,S.clock+1,S.clock+1⟩,bs⟩ }
theorem qxa {L:List (Int×Im)}:∀(f:Nat) {k:Int} {j:Nat},j<f->lookL L (k+j)=none->lookL L (freeF L f k)=none/\k<=freeF L f k/\freeF L f k<=k+j
 | 0,k,j,h,_=>by omega
 | f+1,k,j,h,hn=>by
  unfold freeF;by_cases hs:(lookL L k).isSome
  ·rw [if_pos hs];cases j with
   | zero =>
    simp at hn;rw [hn] at hs;cases hs
   | succ j =>
    have:=qxa f (k:=k+1) (j:=j) (by omega) (by rw [show k+1+(j:Int)=k+((j+1:Nat):Int) by omega];exact hn);exact ⟨this.1,by omega,by omega⟩
  ·rw [if_neg hs];exact ⟨by simpa using hs,Int.le_refl _,by omega⟩
theorem q45 (h:StOk n S):lookL S.L (1099511627776+((n+1:Nat):Int))=none:=by
 cases hl:lookL S.L (1099511627776+((n+1:Nat):Int)) with
 | none=>rfl
 | some x =>
  have:=h.keys _ ((qc1 h.srt).1 hl);simp at this;omega
theorem q8q (h:StOk n S) (hn:n<=1000) {id:Int} (hid:isNum id=true):0<newId S.L id/\newId S.L id<=1099511627776+((n+1:Nat):Int):=by
 unfold isNum at hid;simp only [Bool.and_eq_true,decide_eq_true_eq] at hid;unfold newId;split
 ·have:=qxa 2000 (k:=1099511627776) (j:=n+1) (by omega) (q45 h);omega
 ·omega
theorem zdv (h:StOk n S) (hn:n<=1000) {id:Int} (hno:id≠0->lookL S.L id=none):lookL S.L (newId S.L id)=none:=by
 unfold newId;split
 ·exact (qxa 2000 (k:=1099511627776) (j:=n+1) (by omega) (q45 h)).1
 ·rename_i hne;exact hno hne
theorem ze8 {L:List (Int×Im)} {k:Int} {x:Im} (h:lookL L k=none):sizeL (putL' L k x)=sizeL L+x.bs.length:=by
 have hno:=q1b h
 induction L with
 | nil=>simp [putL',sizeL]
 | cons a L ih =>
  unfold putL';split
  ·rw [qdt];simp only;omega
  ·rename_i hlt;rw [if_neg fun e=>hno a List.mem_cons_self e.symm,qdt,qdt];have h2:lookL L k=none:=by
    cases hl:lookL L k with
    | none=>rfl
    | some y =>
     exfalso;unfold lookL at hl;obtain ⟨q,hq,_⟩:=Option.map_eq_some_iff.1 hl;have h3:=List.find?_some hq;exact hno q (List.mem_cons_of_mem _ (List.mem_of_find?_eq_some hq)) (by simpa using h3)
   rw [ih h2 fun p hp=>hno p (List.mem_cons_of_mem _ hp)];omega
theorem zdd {L:List (Int×Im)} (k:Int) (x:Im):(putL' L k x).length<=L.length+1:=by
 induction L with
 | nil=>simp [putL']
 | cons a L ih =>
  unfold putL';split
  ·simp
  ·split
   ·simp
   ·simp;omega
theorem zi3 (h:StOk n S) {i num W H:Int} {P:Slc} {bs:List UInt8} (hi:lookL S.L i=none) (hi1:0<i/\i<=1099511627776+((n+1:Nat):Int)) (hf:S.used+bs.length<=S.quota):StOk (n+1) (S.putAt i num W H P bs):=by
 have hm:=qh2 h.srt i (⟨⟨num,⟨W,H,P⟩,S.clock+1,S.clock+1⟩,bs⟩:Im);have hu:=h.used;have hc:=h.clk;have hc0:=h.clk0;have hsz:=ze8 (x:=(⟨⟨num,⟨W,H,P⟩,S.clock+1,S.clock+1⟩,bs⟩:Im)) hi;refine ⟨h.q0,h.q1,?_,hf,?_,by show 0<=S.clock+1;omega,by show S.clock+1<=_;omega,qte h.srt _ _,?_,?_,?_,?_,?_⟩
 ·show S.used+(bs.length:Int)=(sizeL (putL' _ _ _):Int);rw [hsz];simp;omega
 ·have:=zdd (L:=S.L) i (⟨⟨num,⟨W,H,P⟩,S.clock+1,S.clock+1⟩,bs⟩:Im);have:=h.len;show (putL' _ _ _).length<=_;omega
 ·rintro ⟨a,b⟩ hp;rcases (hm a b).1 hp with ⟨rfl,rfl⟩ | ⟨_,hp⟩
  ·exact hi1
  ·have:=h.keys _ hp;simp at this ⊢;omega
 ·rintro ⟨a,b⟩ hp;show 0<b.v.stamp/\b.v.stamp<=S.clock+1;rcases (hm a b).1 hp with ⟨rfl,rfl⟩ | ⟨_,hp⟩
  ·exact ⟨by show 0<S.clock+1;omega,Int.le_refl _⟩
  ·have:=h.stamps _ hp;simp at this;omega
 ·rintro ⟨a,b⟩ hp;show 0<b.v.born/\b.v.born<=S.clock+1;rcases (hm a b).1 hp with ⟨rfl,rfl⟩ | ⟨_,hp⟩
  ·exact ⟨by show 0<S.clock+1;omega,Int.le_refl _⟩
  ·have:=h.borns _ hp;simp at this;omega
 ·rintro ⟨a,b⟩ hp ⟨a',b'⟩ hp' (e:b.v.stamp=b'.v.stamp);rcases (hm a b).1 hp with ⟨rfl,rfl⟩ | ⟨_,hq⟩
  ·rcases (hm a' b').1 hp' with ⟨rfl,rfl⟩ | ⟨_,hp'⟩
   ·rfl
   ·have:=h.stamps _ hp';simp at this e;omega
  ·rcases (hm a' b').1 hp' with ⟨rfl,rfl⟩ | ⟨_,hp'⟩
   ·have:=h.stamps _ hq;simp at this e;omega
   ·exact h.st1 _ hq _ hp' e
 ·rintro ⟨a,b⟩ hp ⟨a',b'⟩ hp' (e:b.v.born=b'.v.born);rcases (hm a b).1 hp with ⟨rfl,rfl⟩ | ⟨_,hq⟩
  ·rcases (hm a' b').1 hp' with ⟨rfl,rfl⟩ | ⟨_,hp'⟩
   ·rfl
   ·have:=h.borns _ hp';simp at this e;omega
  ·rcases (hm a' b').1 hp' with ⟨rfl,rfl⟩ | ⟨_,hp'⟩
   ·have:=h.borns _ hq;simp at this e;omega
   ·exact h.bo1 _ hq _ hp' e
end
section
variable {w:World} {base g r n:Nat} {S:St}
theorem zgl {base:Nat} {s:Slc} {xs:List UInt8} {K:Slc->World->Prop} (h:Hold w base s xs) (hK:∀q:Slc,Hold w base q xs->q.n=xs.length->K q w):qeb s w K:=by
 refine qrf _ ?_;unfold qjd;have hn:=h.rd.n;refine h.rd.slK3 (l:=0) (m:=xs.length) (k:=1) rfl (.inl ⟨rfl,rfl⟩) (by rw [hn]) (by rw [hn]) (Nat.zero_le _) (le_refl _) fun hr=>?_;rw [List.take_of_length_le (le_refl _),List.drop_zero] at hr;refine hK _ ⟨hr,fun k hk=>?_⟩ (by show xs.length-0=_;omega);obtain ⟨a,ha,hak⟩:=slk.1 hk;obtain ⟨b,hb,hab⟩:=qgd ha;exact h.blk k (slk.2 ⟨b,hb,by omega⟩)
theorem zih {i num:Int} {m:qac} {bs:List UInt8} {mb:Nat} {w6:World} {K:World->Prop} (h:StM w6 base g r S) (hk:StOk n S) (hn:n<=1000) (hbase:base<=w6.heap.size)
  (hb:Blk w6 mb qaq (qac.rep.cells m)) (hP:Rd qae w6 m.P bs) (hPg:0<bs.length->∀a,m.P.a=some a->a.block≠g) (hf:S.used+bs.length<=S.quota)
  (hi1:0<i/\i<=1099511627776+((n+1:Nat):Int))
  (hK:∀P w',StM w' base g r (S.putAt i num m.W m.H P bs)->Chg (fun k=>onS g r k\/k=mb) w6 w'->(∀k,P.blk=some k->w6.heap.size<=k)->K w') :
    onPtr (some ⟨g,0,none⟩) fun t60 =>
    ldI .i64 (t60.add 3) w6 fun t62 =>
    onPtr (some ⟨g,0,none⟩) fun t64 =>
    stK (t64.add 3) [(.int .i64 (i64.wrap (t62+(1:Int))))] w6 fun w7 =>
    ldSl ((⟨mb,0,none⟩:Addr).add 2) w7 fun t67 =>
    qaz t67 w7 fun t68 w8 =>
    qeb t68 w8 fun t69 w9 =>
    stK ((⟨mb,0,none⟩:Addr).add 2) [(.slice t69.a t69.n t69.c)] w9 fun w10 =>
    onPtr (some ⟨g,0,none⟩) fun t72 =>
    ldM (t72.add 4) w10.drew fun t74 =>
    ldS qac.rep (⟨mb,0,none⟩:Addr) w10.drew fun (t77:qac) =>
    onPtr (some ⟨g,0,none⟩) fun t79 =>
    ldI .i64 (t79.add 3) w10.drew fun t81 =>
    onPtr (some ⟨g,0,none⟩) fun t83 =>
    ldI .i64 (t83.add 3) w10.drew fun t85 =>
    runU PG (Instr.mapUpdate qav (.map t74) (.int .i64 i) (.agg #[(.int .i64 num),(.int .i64 t77.W),(.int .i64 t77.H),(.slice t77.P.a t77.P.n t77.P.c),(.int .i64 t81),(.int .i64 t85)])) w10.drew fun _ w11 =>
    onPtr (some ⟨g,0,none⟩) fun t88 =>
    ldI .i64 (t88.add 2) w11.drew fun t90 =>
    ldSl ((⟨mb,0,none⟩:Addr).add 2) w11.drew fun t92 =>
    onPtr (some ⟨g,0,none⟩) fun t95 =>
    stK (t95.add 2) [(.int .i64 (i64.wrap (t90+((t92.n:Nat):Int))))] w11.drew fun w12 =>
    K w12:=by
 have hc0:=hk.clk0;have hc1:=hk.clk;have hu:=hk.used;have hq1:=hk.q1;have hgl:=h.blk.lt;have hrl:=h.map.lt;have hmg:mb≠g:=hb.ne_t h.blk (by decide);have hmr:r≠mb:=h.map.ne_blk hb;refine qa3 (lI (x:=S.clock) (h.blk.cells 3 _ rfl) (qa3 ?_));rw [qas,w64i (by omega)];refine qaj h.blk (by simp [St.cells]) fun w7 hb7 hg7 hs7=>?_;have hb7:Blk w7 g qbu (({ S with clock:=S.clock+1 }:St).cells r):=hb7;have c7:Chg (fun k=>onS g r k\/k=mb) w6 w7:=(Chg.gg hg7).mono fun i _ hi=>.inl (.inl hi);have hm7:MapM Im.enc w7 r S.L:=h.map.chg (Chg.gg hg7) h.ne;have hbm7:=hb.chg (Chg.gg hg7) hmg;have hP7:Rd qae w7 m.P bs:=qil hP (Chg.gg hg7) fun hp a ha e=>hPg hp a ha e;refine lSl (x:=m.P) (hbm7.cells 2 _ rfl) ?_;refine qgp hP7 (by omega) fun q8 w8 ho8 hB8=>?_;refine zgl (zhk ho8) fun q9 hq9 hqn=>?_;rw [qas];have hs8:=hB8.size;have hbm8:=hbm7.ext hB8;have hb8:=hb7.ext hB8;have hm8:=hm7.ext hB8;refine qaj hbm8 (by simp [qac.rep]) fun w10 hb10 hg10 hs10=>?_;have hb10:Blk w10 mb qaq (qac.rep.cells { m with P:=q9 }):=hb10;have hbg10:=hb8.chg (Chg.gg hg10) fun e=>hmg e.symm;have hm10:MapM Im.enc w10 r S.L:=hm8.chg (Chg.gg hg10) hmr;have hq10:Hold w10 w7.heap.size q9 bs:=hq9.chg (Chg.gg hg10) fun k hk e=>hq9.ne_b hbm8 (by decide) k hk e;refine qa3 (qgf (x:=some r) (hbg10.drew.cells 4 _ rfl) ?_);refine qal (x:=({ m with P:=q9 }:qac)) hb10.drew.cells ?_;refine qa3 (lI (x:=S.clock+1) (hbg10.drew.cells 3 _ rfl) ?_);refine qa3 (lI (x:=S.clock+1) (hbg10.drew.cells 3 _ rfl) ?_);obtain ⟨w11,hr11,hm11,hc11,hs11⟩:=(hm10.keep (w':=w10.drew) rfl).update tmap tint (k:=i) (by omega) (enc:=Im.enc) ⟨⟨num,⟨m.W,m.H,q9⟩,S.clock+1,S.clock+1⟩,bs⟩;refine zbj hr11 ?_;have hbg11:=hbg10.drew.chg hc11 fun e=>h.ne e.symm;have hb11:=hb10.drew.chg hc11 fun e=>hmr e.symm;have hq11:=hq10.drew.chg hc11 fun k hk e=>hq10.ne_m hm10 k hk e;refine qa3 (lI (x:=S.used) (hbg11.drew.cells 2 _ rfl) ?_);refine lSl (x:=q9) (hb11.drew.cells 2 _ rfl) ?_;refine qa3 ?_;rw [qas,hqn,w64i (by omega)];refine qaj hbg11.drew (by simp [St.cells]) fun w12 hb12 hg12 hs12=>?_;have c8:Chg (fun k=>onS g r k\/k=mb) w6 w10:=(c7.trans (Chg.of_ext hB8) fun i _ hi=>hi).trans (Chg.gg hg10) fun i _ hi=>.inr hi;have c11:Chg (fun k=>onS g r k\/k=mb) w6 w11:=(c8.trans (Chg.of_ext (Below.refl _ w10).drew) fun i _ hi=>hi).trans hc11 fun i _ hi=>.inl (.inr hi);have c12:Chg (fun k=>onS g r k\/k=mb) w6 w12:=(c11.trans (Chg.of_ext (Below.refl _ w11).drew) fun i _ hi=>hi).trans (Chg.gg hg12) fun i _ hi=>.inl (.inl hi);refine hK q9 w12 ⟨hb12,(hm11.keep (w':=w11.drew) rfl).chg (Chg.gg hg12) h.ne,fun p hp=>?_⟩ c12 (fun k hk=>by have:=(hq9.lt k hk).1;omega);obtain ⟨a,b⟩:=p;rcases (qh2 hk.srt _ _ a b).1 hp with ⟨rfl,rfl⟩ | ⟨_,hp'⟩
 ·exact (hq11.drew.chg (Chg.gg hg12) fun k hk e=>hq11.ne_b hbg11 (by decide) k hk e).base (by omega)
 ·refine (h.img _ hp').chg c12 fun k hk e=>?_;rcases e with e | e
  ·exact h.own_blk _ hp' k hk e
  ·exact (h.img _ hp').ne_b hb (by decide) k hk e
theorem zh7 {id num:Int} {m:qac} {bs:List UInt8} (h:StM w base g r S) (hk:StOk n S) (hn:n<=1000) (hbase:base<=w.heap.size)
  (hP:Rd qae w m.P bs) (hPg:0<bs.length->∀a,m.P.a=some a->¬onS g r a.block) {K:Int->Slc->Int->World->Prop}
  (hE:∀w',qh8 S id num m.W m.H bs.length≠0->StM w' base g r S->Below w.heap.size w w'->K 0 ⟨none,0,0⟩ (qh8 S id num m.W m.H bs.length) w')
  (hK:∀P q w',qh8 S id num m.W m.H bs.length=0->StM w' base g r ((S.putPre id bs.length).1.putAt (newId (S.putPre id bs.length).1.L id) num m.W m.H P bs)->StOk (n+1) ((S.putPre id bs.length).1.putAt (newId (S.putPre id bs.length).1.L id) num m.W m.H P bs) ->
   Go.Vc.Own E_int w' w.heap.size q (S.putPre id bs.length).2->Chg (onS g r) w w'->(∀k,P.blk=some k->w.heap.size<=k)->K (newId (S.putPre id bs.length).1.L id) q 0 w') :
  qk9 (some ⟨g,0,none⟩) id num m w K:=by
 refine qyh _ _ _ _ ?_;unfold qqc;have hPn:=hP.n;have hgl:=h.blk.lt;have hrl:=h.map.lt;refine nwb fun w1 hb1 hB1 hs1=>?_;refine jpO fun J1 hJ1=>jpO fun J5 hJ5=>?_;have good:∀w2,Below w.heap.size w w2->Blk w2 w.heap.size qaq (qac.rep.cells m)->(isNum id=true)->(bs.length:Int)<=S.quota->qh8 S id num m.W m.H bs.length=0->J1 () w2:=fun w2 hB2 hb2 hnum hq he=>by
  refine hJ1 _ _ ?_;have h2:=h.ext hB2;have hs2:=hB2.size;have hl2:=hb2.lt;refine qz6 h2 fun w3 h3 hc3 hs3=>?_;have hk3:StOk n { S with res:=0 }:=qvz hk 0;have hb3:=hb2.chg hc3 fun e=>by rcases e with e | e<;>omega
  refine jpO fun J2 hJ2=>?_;have next:∀w4 (S1:St),S1=(if id=0 then ({ S with res:=0 }:St) else ({ S with res:=0 }:St).drop id)->StM w4 base g r S1->StOk n S1->S1.quota=S.quota->(id≠0->lookL S1.L id=none)->Chg (onS g r) w3 w4->J2 () w4:=fun w4 S1 hS1 h4 hk4 hqq hno hc4=>by
   refine hJ2 _ _ ?_;have hb4:=hb3.chg hc4 fun e=>by rcases e with e | e<;>omega
   refine lSl (x:=m.P) (hb4.cells 2 _ rfl) ?_;rw [hPn];refine q2t h4 hk4 hn (by omega) (by omega) fun q5 w5 h5 ho5 hc5=>?_;have hpre:S.putPre id bs.length=S1.room bs.length:=by unfold St.putPre;rw [hS1]
   rw [hpre] at hK;have hk5:StOk n (S1.room bs.length).1:=qw9 _ _ hk4;have hfit:(S1.room bs.length).1.used<=S1.quota-bs.length:=q4r (by omega) _ hk4 (by omega) (le_refl _);have hfld:=(q1g (bs.length:Int) S1.L.length S1 []).1;have hfld:(S1.room bs.length).1.quota=S1.quota:=hfld;have hno5:id≠0->lookL (S1.room bs.length).1.L id=none:=fun e=>by
    have hno:=hno e;have key:∀(f:Nat) (S':St) (G:List Int),lookL S'.L id=none->lookL (S'.roomF bs.length f G).1.L id=none:=by
     intro f
     induction f with
     | zero=>exact fun _ _ h=>h
     | succ f ih =>
      intro S' G h;unfold St.roomF;split
      ·refine ih _ _ ?_;show lookL (delL S'.L _) id=none;cases hl:lookL (delL S'.L (qee S'.L)) id with
       | none=>rfl
       | some x =>
        exfalso;unfold lookL at hl;obtain ⟨p,hp,_⟩:=Option.map_eq_some_iff.1 hl;have h3:=List.find?_some hp;exact q1b h _ (qkh (List.mem_of_find?_eq_some hp)) (by simpa using h3)
      ·exact h
    exact key _ _ _ hno
   have c45:Chg (onS g r) w2 w5:=(hc3.trans hc4 fun i _ hi=>hi).trans hc5 fun i _ hi=>hi;have hb5:=hb4.chg hc5 fun e=>by rcases e with e | e<;>omega
   have hP5:Rd qae w5 m.P bs:=qil (hP.ext hB2) c45 hPg;have hs3':=hc3.size;have hs4:=hc4.size;have hs5:=hc5.size;refine jpO fun J3 hJ3=>?_;have last:∀w6,Below w5.heap.size w5 w6->J3 (newId (S1.room bs.length).1.L id,()) w6:=fun w6 hB6=>by
    refine hJ3 _ _ ?_;have h6:=h5.ext hB6;have hs6:=hB6.size;refine zih (m:=m) (bs:=bs) h6 hk5 hn (by omega) (hb5.ext hB6) (hP5.ext hB6) (fun hp a ha e=>hPg hp a ha (.inl e)) (by omega) (q8q hk5 hn hnum) fun P w7 h7 hc7 hPb=>?_;have hoq:=ho5.ext hB6;refine hK P q5 w7 he h7 (zi3 hk5 (zdv hk5 hn hno5) (q8q hk5 hn hnum) (by omega)) ?_ ?_ (fun k hk=>by have:=hPb k hk;omega)
    ·refine (hoq.chg hc7 fun k hk e=>?_).base (by omega);rcases e with (e | e) | e
     ·exact qo9 hoq h6.blk (by decide) k hk e
     ·exact h6.map.ne_own hoq k hk e
     ·have:=(hoq.lt k hk).1;omega
    ·have c:Chg (fun k=>onS g r k\/k=w.heap.size) w w7:=(((Chg.of_ext hB2).trans (c45.mono (S':=fun k=>onS g r k\/k=w.heap.size) fun i _ hi=>.inl hi) fun i _ hi=>hi).trans (Chg.of_ext hB6) fun i _ hi=>hi).trans hc7 fun i _ hi=>hi;exact c.mono fun i hi e=>e.resolve_right (by omega)
   refine cO (fun e0=>?_) fun e0=>?_
   ·have e0:=eq_of_beq e0;subst e0;have hfree:=q45 hk5;refine lpR (Inv:=fun (s:Int×Unit) w6=>∃j:Nat,s.1=1099511627776+(j:Int)/\j<=n+1/\freeF (S1.room bs.length).1.L (2000-j) s.1=newId (S1.room bs.length).1.L 0/\Below w5.heap.size w5 w6) (μ:=fun s=>(1099511627776+2000-s.1).toNat) ⟨0,by omega,by omega,rfl,Below.refl _ _⟩ ?_;rintro ⟨k,⟨⟩⟩ w6 ⟨j,hj,hj1,hj2,hB6⟩ I hI;have hj:k=1099511627776+(j:Int):=hj;refine zjq (h5.ext hB6) k fun w7 hB7=>?_;have hB57:=hB6.trans (hB7.mono hB6.size);have e2:2000-j=(2000-(j+1))+1:=by omega
    have hj2:freeF (S1.room bs.length).1.L (2000-j) k=newId (S1.room bs.length).1.L 0:=hj2;rw [e2] at hj2;unfold freeF at hj2;refine cO (fun hs=>?_) fun hs=>?_
    ·rw [if_pos hs] at hj2;have hjn:j≠n+1:=fun e=>by
      rw [hj,e,hfree] at hs;cases hs
     rw [w64i (by omega)];exact hI _ _ ⟨j+1,by show k+1=_;omega,by omega,hj2,hB57⟩ (by show (1099511627776+2000-(k+1)).toNat<(1099511627776+2000-k).toNat;omega)
    ·rw [if_neg (by rw [hs];decide)] at hj2;rw [hj2];exact last w7 hB57
   ·have e0:id≠0:=fun e=>by rw [e] at e0;simp at e0
    have hnid:newId (S1.room bs.length).1.L id=id:=by unfold newId;rw [if_neg e0]
    rw [<-hnid];have:=last w5 (Below.refl _ _);rw [hnid] at this ⊢;exact this
  refine cO (fun e0=>?_) fun e0=>?_
  ·have e0:=bne_iff_ne.1 e0;refine q1f h3 hk3 id fun w4 h4 hc4=>?_;refine next w4 _ (by rw [if_neg e0]) h4 (qsj hk3 id) rfl (fun _=>?_) hc4;cases hl:lookL (({ S with res:=0 }:St).drop id).L id with
   | none=>rfl
   | some x =>
    have:=((qyi id id x).1 ((qc1 (q3c hk.srt id)).1 hl)).1;exact absurd rfl this
  ·have e0:id=0:=by simpa using e0
   exact next w3 _ (by rw [if_pos e0]) h3 hk3 rfl (fun e=>absurd e0 e) (Chg.refl _ _)
 have fin:∀(c:Bool) (w2:World),Below w.heap.size w w2->Blk w2 w.heap.size qaq (qac.rep.cells m)->c=(!(q0w m.W m.H bs.length && !(m.W==0) && isNum id && isNum num))->J5 (c,()) w2:=fun c w2 hB2 hb2 hc=>by
  refine hJ5 _ _ ?_;have h2:=h.ext hB2;cases hg:(q0w m.W m.H bs.length && !(m.W==0) && isNum id && isNum num) with
  | false =>
   have he:qh8 S id num m.W m.H bs.length=1:=by unfold qh8;rw [hg];rfl
   rw [he] at hE;rw [hg] at hc;exact cT hc (hE w2 (by decide) h2 hB2)
  | true =>
   rw [hg] at hc;have he:qh8 S id num m.W m.H bs.length=if (bs.length:Int)>S.quota then 6 else 0:=by unfold qh8;rw [hg];rfl
   refine cF hc ?_;have hBd:=hB2.drew;refine lSl (x:=m.P) (hb2.drew.cells 2 _ rfl) (qa3 (lI (x:=S.quota) (h2.drew.blk.cells 0 _ rfl) ?_));rw [hPn];refine cO (fun hgt=>?_) fun hgt=>?_
   ·have hgt:=oTq hgt;rw [if_pos hgt] at he;rw [he] at hE;exact hE w2.drew (by decide) h2.drew hBd
   ·have hgt:=oFq hgt;rw [if_neg hgt] at he;refine good w2.drew hBd hb2.drew ?_ (by omega) he;simp only [Bool.and_eq_true] at hg;exact hg.1.2
 refine qal (x:=m) hb1.cells ?_;refine zco fun w2 hB2=>?_;have hB12:Below w.heap.size w w2:=hB1.trans (hB2.mono (by omega));have hb2:=hb1.ext hB2;rw [hPn];refine cO (fun e1=>?_) fun e1=>?_
 ·refine fin _ _ hB12 hb2 ?_;simp at e1;rw [e1];rfl
 ·simp at e1;refine lI (x:=m.W) (hb2.cells 0 _ rfl) ?_;refine cO (fun e2=>fin _ _ hB12 hb2 (by rw [e2];simp)) fun e2=>?_;refine qyu ?_;refine cO (fun e3=>fin _ _ hB12 hb2 (by simp at e3;rw [e3];simp)) fun e3=>?_;simp at e3;refine qyu ?_;exact fin _ _ hB12 hb2 (by rw [e1,e2,e3];simp)
end
section
variable {w:World} {base g r n:Nat} {S:St}
def qnf (q:Int):Int:=if q<0\/q>1073741824 then 1 else 0
theorem zkl {q:Int} (h:qnf q=0):StOk 0 ⟨q,0,0,0,[]⟩:=by
 unfold qnf at h;split at h
 ·cases h
 ·rename_i h;exact ⟨by show 0<=q;omega,by show q<=_;omega,rfl,by show 0<=q;omega,le_refl _,Int.le_refl _,Int.le_refl _,.nil,(fun p hp=>by cases hp),(fun p hp=>by cases hp),(fun p hp=>by cases hp),(fun p hp=>by cases hp),(fun p hp=>by cases hp)⟩
theorem zc6 {q:Int} {w:World} {base:Nat} {K:Option Addr->Int->World->Prop} (hE:qnf q=1->K none 1 w)
  (hK:∀g r w',qnf q=0->w.heap.size<=g->w.heap.size<=r->StM w' base g r ⟨q,0,0,0,[]⟩->Below w.heap.size w w'->K (some ⟨g,0,none⟩) 0 w'):qus q w K:=by
 refine q5a _ ?_;unfold q0d;refine jpO fun J hJ=>?_;refine cO (fun h=>hE (by unfold qnf;rw [if_pos (.inl (oTq h))])) fun h=>?_;refine cO (fun h'=>hE (by unfold qnf;rw [if_pos (.inr (oTq h'))])) fun h'=>?_;have h:=oFq h;have h':=oFq h';refine hJ _ _ ?_;unfold nwM;have hB1:Below w.heap.size w (w.alloc (.map #[] 0)):=(Below.refl _ w).alloc (le_refl _) _;have hs1:(w.alloc (.map #[] 0)).heap.size=w.heap.size+1:=by show (w.heap.push _).size=_;simp
 refine nwb fun w2 hb2 hB2 hs2=>?_;refine hK _ w.heap.size w2 (by unfold qnf;rw [if_neg (by omega)]) (by omega) (le_refl _) ⟨hb2,(MapM.new w).ext hB2,fun p hp=>by cases hp⟩ (hB1.trans (hB2.mono (by omega)))
theorem q53 {L:List (Int×Im)} (h:MapM Im.enc w r L) {K:Option Nat->World->Prop} (hK:∀r' w',w.heap.size<=r'->MapM Im.enc w' r' L->Below w.heap.size w w'->K (some r') w') :
  qb1 (some r) w K:=by
 refine qe8 _ ?_;unfold qcs;refine cF rfl ?_;obtain ⟨w1,hr1,hm1,hB1,hs1⟩:=q7y (P:=PG) h qav;refine ⟨.iface qav (.map (some w.heap.size)),w1,?_,?_⟩
 ·show (callFunc 111 #[.iface qav (.map (some r))]).run PG w=_;rw [run_callFunc_extern (P:=PG) (f:=111) Tryz.func111 (by kernel_rfl) (by kernel_rfl) (by kernel_rfl) (e:=Extern.MapsClone.clone) (by kernel_rfl),hr1];rfl
 ·exact ⟨some w.heap.size,w1,q0q tmap,hK _ w1 (le_refl _) hm1 hB1⟩
theorem ze5 (h:StM w base g r S) {K:Option Addr->World->Prop}
  (hK:∀g' r' w',w.heap.size<=g'->w.heap.size<=r'->StM w' base g' r' S->Below w.heap.size w w'->K (some ⟨g',0,none⟩) w'):qi7 (some ⟨g,0,none⟩) w K:=by
 refine qwa _ ?_;unfold qos;refine qa3 (qal (x:=(⟨S.quota,S.res,S.used,S.clock,some r⟩:qd8)) h.blk.cells ?_);refine qcu (t:=qbu) (vs:=qd8.rep.cells ⟨S.quota,S.res,S.used,S.clock,some r⟩) rfl fun w2 hb2 hB2 hs2=>?_;have h2:=h.ext hB2;refine qa3 (qgf (x:=some r) (h2.blk.cells 4 _ rfl) ?_);refine q53 h2.map fun r' w3 hr3 hm3 hB3=>?_;rw [qas];have hb3:=hb2.ext hB3;refine qaj hb3 (by simp [qd8.rep]) fun w4 hb4 hg4 hs4=>?_;have hc:Chg (fun k=>k=w.heap.size) w w4:=((Chg.of_ext hB2).trans (Chg.of_ext hB3) fun i _ hi=>hi).trans (Chg.gg hg4) fun i _ hi=>hi;have hgl:=h.blk.lt;have hs3:=hB3.size;refine hK w.heap.size r' w4 (le_refl _) (by omega) ⟨hb4,hm3.chg (Chg.gg hg4) (hm3.ne_blk hb3),fun p hp=>((h2.img p hp).ext hB3).chg (Chg.gg hg4) fun k hk e=>((h2.img p hp).ext hB3).ne_b hb3 (by decide) k hk e⟩ (hc.ext fun i hi e=>by omega)
theorem zg9 {L:List (Int×Im)} (hs:Srt L) {k:Int} {x y:Im} (h:(k,x)∈L) (hxy:y.bs=x.bs):sizeL (putL' L k y)=sizeL L/\(putL' L k y).length=L.length:=by
 induction L with
 | nil=>cases h
 | cons a L ih =>
  have hp:=List.pairwise_cons.1 hs;unfold putL';rcases List.mem_cons.1 h with e | h
  ·subst e;rw [if_neg (by simp),if_pos rfl];exact ⟨by rw [qdt,qdt,hxy],by simp⟩
  ·have h1:=hp.1 _ h;simp at h1;rw [if_neg (by omega),if_neg (by omega)];have:=ih hp.2 h;exact ⟨by rw [qdt,qdt,this.1],by simp [this.2]⟩
theorem zkf (h:StOk n S) (id:Int):StOk (n+1) (S.use id):=by
 have hc:=h.clk;have hc0:=h.clk0;unfold St.use;cases hl:lookL S.L id with
 | none =>
  exact ⟨h.q0,h.q1,h.used,h.fits,Nat.le_succ_of_le h.len,h.clk0,by show S.clock<=_;omega,h.srt,(fun p hp=>by have:=h.keys p hp;omega),h.stamps,h.borns,h.st1,h.bo1⟩
 | some x =>
  have hx:=(qc1 h.srt).1 hl;have hm:=qh2 h.srt id ({ x with v:={ x.v with stamp:=S.clock+1 } }:Im);have hsz:=zg9 h.srt hx (y:=({ x with v:={ x.v with stamp:=S.clock+1 } }:Im)) rfl;refine ⟨h.q0,h.q1,?_,h.fits,?_,by show 0<=S.clock+1;omega,by show S.clock+1<=_;omega,qte h.srt _ _,?_,?_,?_,?_,?_⟩
  ·show S.used=(sizeL (putL' _ _ _):Int);rw [hsz.1];exact h.used
  ·have:=h.len;show (putL' _ _ _).length<=_;rw [hsz.2];omega
  ·rintro ⟨a,b⟩ hp;rcases (hm a b).1 hp with ⟨rfl,rfl⟩ | ⟨_,hq⟩
   ·have:=h.keys _ hx;simp at this ⊢;omega
   ·have:=h.keys _ hq;simp at this ⊢;omega
  ·rintro ⟨a,b⟩ hp;show 0<b.v.stamp/\b.v.stamp<=S.clock+1;rcases (hm a b).1 hp with ⟨rfl,rfl⟩ | ⟨_,hq⟩
   ·exact ⟨by show 0<S.clock+1;omega,Int.le_refl _⟩
   ·have:=h.stamps _ hq;simp at this;omega
  ·rintro ⟨a,b⟩ hp;show 0<b.v.born/\b.v.born<=S.clock+1;rcases (hm a b).1 hp with ⟨rfl,rfl⟩ | ⟨_,hq⟩
   ·have:=h.borns _ hx;simp at this ⊢;omega
   ·have:=h.borns _ hq;simp at this;omega
  ·rintro ⟨a,b⟩ hp ⟨a',b'⟩ hp' (e:b.v.stamp=b'.v.stamp);rcases (hm a b).1 hp with ⟨rfl,rfl⟩ | ⟨_,hq⟩
   ·rcases (hm a' b').1 hp' with ⟨rfl,rfl⟩ | ⟨_,hq'⟩
    ·rfl
    ·have:=h.stamps _ hq';simp at this e;omega
   ·rcases (hm a' b').1 hp' with ⟨rfl,rfl⟩ | ⟨_,hq'⟩
    ·have:=h.stamps _ hq;simp at this e;omega
    ·exact h.st1 _ hq _ hq' e
  ·rintro ⟨a,b⟩ hp ⟨a',b'⟩ hp' (e:b.v.born=b'.v.born);rcases (hm a b).1 hp with ⟨rfl,rfl⟩ | ⟨hna,hq⟩
   ·rcases (hm a' b').1 hp' with ⟨rfl,rfl⟩ | ⟨hnb,hq'⟩
    ·rfl
    ·have:=congrArg Prod.fst (h.bo1 _ hx _ hq' e);exact absurd this.symm hnb
   ·rcases (hm a' b').1 hp' with ⟨rfl,rfl⟩ | ⟨_,hq'⟩
    ·have:=congrArg Prod.fst (h.bo1 _ hq _ hx e);exact absurd this hna
    ·exact h.bo1 _ hq _ hq' e
end
end Go.Proofs.YtedcpbkcamckoaaGreatDoor
set_option maxRecDepth 20000
namespace Go.Proofs.YtedcpbkcamckoaaGreatDoor
open Go.Vc
open Lib (indexByte)
def qef:List Int:=[116,100,0,97,0,32,0,0,0,0,0,0,0,0,0,0,0,0,0,0,0,0]
def zeroL:List Int:=List.replicate 22 0
def qlg:List UInt8:=[97,116,111,100]
def numsB:List UInt8:=[113,102,115,118,105,73,112,109,120,121,119,104,88,89,114,99,67]
def qm9 (c:UInt8):Option Nat:=if indexByte qlg c<0 then none else some (indexByte qlg c).toNat
def qpz (j:Nat):Nat:=if j=16 then 21 else j+4
def numIx (c:UInt8):Option Nat:=if indexByte numsB c<0 then none else some (qpz (indexByte numsB c).toNat)
def readD:Nat->List UInt8->Option Nat
 | n,[]=>some n
 | n,b::r=>if b<48\/57<b then none else readD (10*n+(b.toNat-48)) r
def readN (v:List UInt8):Option Nat:=if v=[]\/10<v.length then none else (readD 0 v).bind fun n=>if n<=4294967295 then some n else none
def near (m:Int):Bool:=decide (-1073741824<=m) && decide (m<1073741824)
def qqa (v:List UInt8):Option Int:=match v with
 | 45::r=>(readN r).bind fun n=>if near (-(n:Int)) then some (-(n:Int)) else none
 | v=>(readN v).bind fun n=>if near (n:Int) then some (n:Int) else none
def qo2 (c:UInt8):Bool:=(decide (65<=c) && decide (c<=90)) || (decide (97<=c) && decide (c<=122))
def visB (b:UInt8):Bool:=decide (33<=b) && decide (b<=126)
def sgnL (k:List Int) (j:Nat) (v:List UInt8):Option (List Int):=match v with
 | [b]=>if visB b then some (k.set j (b.toNat:Int)) else none
 | _=>none
def oneL (k:List Int) (s:List UInt8):Option (List Int):=match s with
 | c::e::v =>
  if e≠61\/qo2 c=false then none
  else if c=122 then (qqa v).map fun m=>k.set 20 m
  else match qm9 c with
   | some j=>sgnL k j v
   | none=>match numIx c with
    | some j=>(readN v).map fun n=>k.set j (n:Int)
    | none=>some k
 | _=>none
def qa7:List UInt8->List (List UInt8)
 | []=>[[]]
 | b::r=>if b=44 then []::qa7 r else match qa7 r with
  | h::t=>(b::h)::t
  | []=>[[b]]
theorem zeo (s:List UInt8):qa7 s≠[]:=by
 cases s with
 | nil=>simp [qa7]
 | cons b r =>
  rw [qa7];split
  ·simp
  ·split<;>simp
def qda (b:List UInt8):List Int×Int:=if 512<b.length then (zeroL,5) else if b=[] then (qef,0) else match (qa7 b).foldlM oneL qef with
 | some k=>(k,0)
 | none=>(zeroL,3)
def joinC (l:List (List UInt8)):List UInt8:=Lib.join l [44]
theorem zb5 (x:List UInt8) (l:List (List UInt8)) (h:l≠[]):joinC (x::l)=x++44::joinC l:=by
 unfold joinC Lib.join;cases l with
 | nil=>exact absurd rfl h
 | cons y l=>simp [List.intercalate,List.intersperse]
theorem zf9 (x:List UInt8):joinC [x]=x:=by simp [joinC,Lib.join,List.intercalate,List.intersperse]
theorem zgp:joinC []=[]:=rfl
theorem zcq (x y:List UInt8):qa7 (x++44::y)=qa7 x++qa7 y:=by
 induction x with
 | nil=>simp [qa7]
 | cons b x ih =>
  rw [List.cons_append,qa7,qa7,ih];split
  ·simp
  ·cases h:qa7 x with
   | nil=>exact absurd h (zeo x)
   | cons a t=>simp
def q1l (k:List Int) (word:List UInt8):Bool :=
 (decide (k[8]?.getD 0=0) && decide (k[9]?.getD 0=0)) || (decide (k[4]?.getD 0=1) && decide (word=[79,75])) || decide ((2:Int)<=k[4]?.getD 0) || decide (k[8]?.getD 0<0) || decide (k[9]?.getD 0<0) || decide (k[10]?.getD 0<0)
def rItem (c:UInt8) (n:Int):List (List UInt8):=if n=0 then [] else [c::61::Lib.itoa n]
def qia (k:List Int):List (List UInt8):=rItem 105 (k[8]?.getD 0)++rItem 73 (k[9]?.getD 0)++rItem 112 (k[10]?.getD 0)
def qw2 (k:List Int) (word:List UInt8):List UInt8:=if q1l k word then [] else [27,95,71]++joinC (qia k)++[59]++word++[27,92]
end Go.Proofs.YtedcpbkcamckoaaGreatDoor
namespace Go.Proofs.YtedcpbkcamckoaaGreatDoor
open Go.Vc Go.RowKit
set_option maxRecDepth 400000
open IntKind (i64)
open Lib (countByte indexByte)
open _root_.List (length_append length_cons length_map)
open _root_.Nat (le_refl mul_one zero_add)
def cellK (i:Nat) (x:Int):Value:=if i<4 then .int .u8 x else .int .i64 x
def qpt:Nat->List Int->List Value
 | _,[]=>[]
 | i,x::r=>cellK i x::qpt (i+1) r
def qlo (L:List Int):List Value:=qpt 0 L
def toL (k:qaa):List Int:=[k.Action,k.Medium,k.Zip,k.What,k.Quiet,k.Format,k.W,k.H,k.Id,k.Number,k.Place,k.More,k.X,k.Y,k.PW,k.PH,k.DX,k.DY,k.Rows,k.Cols,k.Z,k.Stay]
def ofL (L:List Int):qaa:=⟨L.getD 0 0,L.getD 1 0,L.getD 2 0,L.getD 3 0,L.getD 4 0,L.getD 5 0,L.getD 6 0,L.getD 7 0,L.getD 8 0,L.getD 9 0,L.getD 10 0,L.getD 11 0,L.getD 12 0,L.getD 13 0,L.getD 14 0,L.getD 15 0,L.getD 16 0,L.getD 17 0,L.getD 18 0,L.getD 19 0,L.getD 20 0,L.getD 21 0⟩
theorem zb0 (k:qaa):ofL (toL k)=k:=rfl
theorem q51 (k:qaa):(toL k).length=22:=rfl
theorem zg4 (k:qaa):qaa.rep.cells k=qlo (toL k):=rfl
theorem q8w {L:List Int} (h:L.length=22):toL (ofL L)=L:=by
 refine List.ext_getElem? fun i=>?_;by_cases hi:i<22
 ·have e:∀j,j<22->L[j]?=some (L.getD j 0):=fun j hj=>by rw [List.getD_eq_getElem?_getD,List.getElem?_eq_getElem (by omega)];rfl
  rw [e i hi];have:i=0\/i=1\/i=2\/i=3\/i=4\/i=5\/i=6\/i=7\/i=8\/i=9\/i=10\/i=11\/i=12\/i=13\/i=14\/i=15\/i=16\/i=17\/i=18\/i=19\/i=20\/i=21:=by omega
  rcases this with rfl | rfl | rfl | rfl | rfl | rfl | rfl | rfl | rfl | rfl | rfl | rfl | rfl | rfl | rfl | rfl | rfl | rfl | rfl | rfl | rfl | rfl<;>rfl
 ·rw [List.getElem?_eq_none (by rw [q51];omega),List.getElem?_eq_none (by omega)]
theorem q0n {L:List Int} (h:L.length=22):qaa.rep.cells (ofL L)=qlo L:=by rw [zg4,q8w h]
theorem q4s:∀(L:List Int) (i j:Nat) (v:Int),(qpt i L).set j (cellK (i+j) v)=qpt i (L.set j v)
 | [],i,j,v=>rfl
 | x::r,i,0,v=>rfl
 | x::r,i,j+1,v=>by
  rw [qpt,List.set_cons_succ,List.set_cons_succ,qpt,show i+(j+1)=i+1+j by omega,q4s r (i+1) j v]
theorem qfd (L:List Int):(qlo L).length=L.length:=by
 have:∀(L:List Int) (i:Nat),(qpt i L).length=L.length:=by
  intro L
  induction L with
  | nil=>intro i;rfl
  | cons x r ih=>intro i;rw [qpt,length_cons,ih,length_cons]
 exact this L 0
structure KM (w:World) (g:Nat) (L:List Int):Prop where
 blk:Blk w g qay (qlo L)
 len:L.length=22
theorem q74 {P:UInt8->Prop} (h:∀n,n<256->P (UInt8.ofNat n)) (c:UInt8):P c:=by
 have:=h c.toNat c.toNat_lt
 rwa [UInt8.ofNat_toNat] at this
theorem q3n (c:UInt8):indexByte qlg c<0\/∃j:Nat,indexByte qlg c=j/\j<4/\qm9 c=some j:=by
 refine q74 (P:=fun c=>indexByte qlg c<0\/∃j:Nat,indexByte qlg c=j/\j<4/\qm9 c=some j) (fun n hn=>?_) c;by_cases h:indexByte qlg (UInt8.ofNat n)<0
 ·exact .inl h
 ·refine .inr ⟨(indexByte qlg (UInt8.ofNat n)).toNat,by omega,?_,?_⟩
  ·have:∀n,n<256->indexByte qlg (UInt8.ofNat n)<4:=by decide +kernel
   have:=this n hn;omega
  ·unfold qm9;rw [if_neg (by omega)]
theorem q6u (c:UInt8):indexByte numsB c<0\/∃j:Nat,indexByte numsB c=j/\j<17/\numIx c=some (qpz j):=by
 refine q74 (P:=fun c=>indexByte numsB c<0\/∃j:Nat,indexByte numsB c=j/\j<17/\numIx c=some (qpz j)) (fun n hn=>?_) c;by_cases h:indexByte numsB (UInt8.ofNat n)<0
 ·exact .inl h
 ·refine .inr ⟨(indexByte numsB (UInt8.ofNat n)).toNat,by omega,?_,?_⟩
  ·have:∀n,n<256->indexByte numsB (UInt8.ofNat n)<17:=by decide +kernel
   have:=this n hn;omega
  ·unfold numIx;rw [if_neg (by omega)]
section
variable {w:World} {g:Nat}
theorem q41 (c:UInt8) {i:Int} (hi:i=c.toNat) {K:Option Addr->World->Prop} (hK:∀w',Below w.heap.size w w'->K ((qm9 c).map fun j=>⟨g,j,none⟩) w'):qhs (some ⟨g,0,none⟩) i w K:=by
 refine qzh _ _ ?_;unfold qrv;refine qul (bs:=qlg) hi ?_;rcases q3n c with h | ⟨j,hj,hlt,hs⟩
 ·refine cT (by simpa using h) ?_;have:=hK w (Below.refl _ _);unfold qm9 at this
  rwa [if_pos h] at this
 ·rw [hj];refine cF (by simp) (qb0 (qb0 (qb0 (qb0 ?_))));refine nwb fun w2 hb hB hs2=>⟨⟨by omega,by omega⟩,?_⟩;have hK':=hK w2 ((Below.refl _ w).drew.trans hB);rw [hs] at hK';refine qa8 (x:=some ⟨g,j,none⟩) ?_ hK';rw [mul_one,Int.toNat_natCast,qas,zero_add];have:j=0\/j=1\/j=2\/j=3:=by omega
  rcases this with rfl | rfl | rfl | rfl<;>exact hb.cell _ (by simp [qas])
theorem qz1 (c:UInt8) {i:Int} (hi:i=c.toNat) {K:Option Addr->World->Prop} (hK:∀w',Below w.heap.size w w'->K ((numIx c).map fun j=>⟨g,j,none⟩) w'):qgg (some ⟨g,0,none⟩) i w K:=by
 refine qwf _ _ ?_;unfold qoh;refine qul (bs:=numsB) hi ?_;rcases q6u c with h | ⟨j,hj,hlt,hs⟩
 ·refine cT (by simpa using h) ?_;have:=hK w (Below.refl _ _);unfold numIx at this
  rwa [if_pos h] at this
 ·rw [hj];refine cF (by simp) ?_;refine qb0 (qb0 (qb0 (qb0 (qb0 (qb0 (qb0 (qb0 (qb0 (qb0 (qb0 (qb0 (qb0 (qb0 (qb0 (qb0 (qb0 ?_))))))))))))))));refine nwb fun w2 hb hB hs2=>⟨⟨by omega,by omega⟩,?_⟩;have hK':=hK w2 ((Below.refl _ w).drew.trans hB);rw [hs] at hK';refine qa8 (x:=some ⟨g,qpz j,none⟩) ?_ hK';rw [mul_one,Int.toNat_natCast,qas,zero_add];have:j=0\/j=1\/j=2\/j=3\/j=4\/j=5\/j=6\/j=7\/j=8\/j=9\/j=10\/j=11\/j=12\/j=13\/j=14\/j=15\/j=16:=by omega
  rcases this with rfl | rfl | rfl | rfl | rfl | rfl | rfl | rfl | rfl | rfl | rfl | rfl | rfl | rfl | rfl | rfl | rfl<;>exact hb.cell _ (by simp [qas,qpz])
theorem u8_ge {b:UInt8} (n:Nat) (hn:n<256):decide ((b.toNat:Int)>=(n:Int))=decide (UInt8.ofNat n<=b):=by
 have:(UInt8.ofNat n).toNat=n:=by simp;omega
 by_cases h:n<=b.toNat
 ·rw [dTq (by omega),dTq (by show (UInt8.ofNat n).toNat<=b.toNat;omega)]
 ·rw [dFq (by omega),dFq (by show ¬(UInt8.ofNat n).toNat<=b.toNat;omega)]
theorem u8_le {b:UInt8} (n:Nat) (hn:n<256):decide ((b.toNat:Int)<=(n:Int))=decide (b<=UInt8.ofNat n):=by
 have:(UInt8.ofNat n).toNat=n:=by simp;omega
 by_cases h:b.toNat<=n
 ·rw [dTq (by omega),dTq (by show b.toNat<=(UInt8.ofNat n).toNat;omega)]
 ·rw [dFq (by omega),dFq (by show ¬b.toNat<=(UInt8.ofNat n).toNat;omega)]
theorem q8l (b:UInt8) {i:Int} (hi:i=b.toNat) {K:Bool->World->Prop} (hK:K (visB b) w):qpb i w K:=by
 subst hi;refine q1x _ ?_;unfold qt8;unfold visB at hK;have e1:decide ((b.toNat:Int)>=33)=decide ((33:UInt8)<=b):=u8_ge 33 (by omega);have e2:decide ((b.toNat:Int)<=126)=decide (b<=(126:UInt8)):=u8_le 126 (by omega);refine cO (fun h=>?_) fun h=>?_
 ·rw [e2];rw [e1] at h;rw [show decide ((33:UInt8)<=b)=true from h] at hK;exact hK
 ·rw [e1] at h;rw [show decide ((33:UInt8)<=b)=false from h] at hK;exact hK
theorem zfc {b:UInt8} (h:¬(b<48\/57<b)):i64.wrap (IntKind.u8.wrap ((b.toNat:Int)-48))=((b.toNat-48:Nat):Int)/\b.toNat-48<10:=by
 have h1:48<=b.toNat:=by
  have:¬b.toNat<48:=fun hh=>h (.inl (show b.toNat<(48:UInt8).toNat from hh));omega
 have h2:b.toNat<=57:=by
  have:¬57<b.toNat:=fun hh=>h (.inr (show (57:UInt8).toNat<b.toNat from hh));omega
 rw [show ((b.toNat:Int)-48)=((b.toNat-48:Nat):Int) by omega,qax .u8 (by show _<2^8;omega),qax .i64 (by show _<2^63;omega)];exact ⟨rfl,by omega⟩
theorem qxo (v:List UInt8) {K:Int->Bool->World->Prop} (hK:∀(n:Nat) ok,n<10000000000->(ok=true->readN v=some n)->(ok=false->readN v=none)->K n ok w):qpn (strB v) w K:=by
 refine q5e _ ?_;unfold qz9;refine jpO fun J hJ=>?_;have hno:readN v=none->K 0 false w:=fun h=>hK 0 false (by omega) (fun e=>by cases e) fun _=>h;refine cO (fun h=>hno ?_) fun h=>?_
 ·rw [qfr] at h;have:v=[]:=by simpa [ByteArray.toList_eq] using h
  unfold readN;rw [if_pos (.inl this)]
 have hne:v≠[]:=by
  rw [qfr] at h;simpa [ByteArray.toList_eq] using h
 rw [qbs];refine cO (fun h=>hno ?_) fun h10=>?_
 ·have h:(10:Int)<v.length:=oTq h;unfold readN;rw [if_pos (.inr (by omega))]
 have h10:=oFq h10;have hlen:v.length<=10:=by omega
 have hread:readN v=(readD 0 v).bind fun n=>if n<=4294967295 then some n else none:=by unfold readN;rw [if_neg (by intro hh;rcases hh with hh | hh;exact hne hh;omega)]
 refine hJ _ _ ?_;refine lpR (fun (s:Int×Int×Unit) w2=>w2=w/\∃k m:Nat,s.2.1=k/\s.1=m/\k<=v.length/\m<10^k/\readD 0 v=readD m (v.drop k)) (fun s=>v.length-s.2.1.toNat) ⟨rfl,0,0,rfl,rfl,Nat.zero_le _,by omega,rfl⟩ ?_;rintro ⟨a,b,u⟩ _ ⟨rfl,k,m,hb,ha,hk,hm,hr⟩ I hI;dsimp only at ha hb ⊢;subst ha hb;have hp10:∀j,j<=10->10^j<=10000000000:=fun j hj=>Nat.pow_le_pow_right (by omega) hj;by_cases hlt:k<v.length
 ·refine cT (by simp [qbs];omega) (jpO fun J3 hJ3=>?_);have hx:v[k]?=some v[k]:=by simp [hlt]
  rw [List.drop_eq_getElem_cons hlt,readD] at hr;refine qtp rfl hx ?_;have hnone:(v[k]<48\/57<v[k])->readN v=none:=fun hh=>by rw [hread,hr,if_pos hh];rfl
  refine cO (fun h=>hno (hnone (.inl ?_))) fun h1=>?_
  ·have h:=oTq h;show (v[k]).toNat<(48:UInt8).toNat;have:(48:UInt8).toNat=48:=rfl;omega
  refine qtp rfl hx ?_;refine cO (fun h=>hno (hnone (.inr ?_))) fun h2=>?_
  ·have h:=oTq h;show (57:UInt8).toNat<(v[k]).toNat;have:(57:UInt8).toNat=57:=rfl;omega
  have h1:=oFq h1;have h2:=oFq h2;have hd:¬(v[k]<48\/57<v[k]):=by
   rintro (hh | hh)
   ·have:(v[k]).toNat<(48:UInt8).toNat:=hh;have:(48:UInt8).toNat=48:=rfl;omega
   ·have:(57:UInt8).toNat<(v[k]).toNat:=hh;have:(57:UInt8).toNat=57:=rfl;omega
  obtain ⟨hv1,hv2⟩:=zfc hd;rw [if_neg hd] at hr;refine hJ3 _ _ (qtp rfl hx ?_);rw [hv1];have hb10:=hp10 (k+1) (by omega);have hmk:m<10^k:=hm;have hps:10^(k+1)=10^k*10:=Nat.pow_succ _ _;rw [show (10:Int)*(m:Int)=((10*m:Nat):Int) by omega,qax .i64 (by show _<2^63;omega),show ((10*m:Nat):Int)+((v[k].toNat-48:Nat):Int)=((10*m+(v[k].toNat-48):Nat):Int) by omega,qax .i64 (by show _<2^63;omega),i64_in (by omega)];exact hI _ _ ⟨rfl,k+1,_,by simp,rfl,by omega,by omega,hr⟩ (by simp;omega)
 ·refine cF (by simp [qbs];omega) ?_;obtain rfl:k=v.length:=by omega
  rw [List.drop_of_length_le (le_refl _),readD] at hr;have:=hp10 v.length hlen;refine hK m _ (by omega) (fun h=>?_) fun h=>?_
  ·have h:(m:Int)<=4294967295:=oTq h;rw [hread,hr,Option.bind_some,if_pos (by omega)]
  ·have h:¬(m:Int)<=4294967295:=oFq h;rw [hread,hr,Option.bind_some,if_neg (by omega)]
theorem zb8 (v:List UInt8) (c:UInt8) {K:Bool->World->Prop} (hK:K (decide (v.head?=some c)) w):qdk (strB v) (strB [c]) w K:=by
 refine qka _ _ ?_;unfold qfi;cases v with
 | nil=>exact cF (by simp [qbs]) (by simpa using hK)
 | cons b r =>
  refine cT (by simp [qbs];omega) ?_;refine q01 (h:=1) (l:=0) (.inl ⟨rfl,rfl⟩) (.inr (by simp [qbs])) (by omega) (by simp) ?_;have e:((strB (((b::r).take 1).drop 0)).toList==(strB [c]).toList)=decide ((b::r).head?=some c):=by
   rw [qfr,qfr];by_cases h:b=c
   ·subst h;simp
   ·rw [dFq (by simpa using h)];simpa using h
  rw [e];exact hK
theorem q7u (v:List UInt8) (c:UInt8) {K:ByteArray->Bool->World->Prop} (h1:∀r,v=c::r->K (strB r) true w) (h0:(∀r,v≠c::r)->K (strB v) false w):qir (strB v) (strB [c]) w K:=by
 refine qu9 _ _ ?_;unfold qm7;refine qj8 _ _ ?_;unfold qfh;refine zb8 v c ?_;cases v with
 | nil=>exact cT (by simp) (h0 fun r=>by simp)
 | cons b r =>
  by_cases h:b=c
  ·subst h;refine cF (by simp) (q01 (l:=1) (h:=(b::r).length) (.inr (by simp [qbs])) (.inl ⟨rfl,rfl⟩) (by simp) (le_refl _) ?_);simpa using h1 r rfl
  ·exact cT (by simpa using h) (h0 fun r' e=>h (by cases e;rfl))
theorem zd8 (v:List UInt8) {K:Int->Bool->World->Prop} (hK:∀(n:Int) ok,(ok=true->qqa v=some n)->(ok=false->qqa v=none)->K n ok w):qs7 (strB v) w K:=by
 refine q35 _ ?_;unfold qys;have key:∀(r:List UInt8) (f:Nat->Int) (below:Bool),(qqa v=(readN r).bind fun n=>if near (f n) then some (f n) else none)->∀(n:Nat) (ok:Bool),(ok=true->readN r=some n)->(ok=false->readN r=none) ->
   (cond ok (cond (decide (f n>=((-1073741824):Int))) (K (f n) (decide (f n<(1073741824:Int))) w) (K (f n) false w)) (K (f n) false w)):=by
  intro r f below hd n ok h1 h0;refine cO (fun hok=>?_) fun hok=>?_
  ·have hr:=h1 hok;rw [hr,Option.bind_some] at hd;unfold near at hd;refine cO (fun ha=>?_) fun ha=>?_
   ·have ha:=oTq ha;refine hK _ _ (fun hb=>?_) fun hb=>?_
    ·have hb:=oTq hb;rw [hd,dTq (by omega),dTq (by omega)];rfl
    ·have hb:=oFq hb;rw [hd,dFq (p:=f n<1073741824) (by omega),Bool.and_false];rfl
   ·have ha:=oFq ha;refine hK _ _ (fun hb=>by cases hb) fun _=>?_;rw [hd,dFq (p:=-1073741824<=f n) (by omega),Bool.false_and];rfl
  ·have hr:=h0 hok;rw [hr] at hd;exact hK _ _ (fun hb=>by cases hb) fun _=>hd
 refine q7u v 45 (fun r hv=>?_) fun hv=>?_
 ·refine qxo r fun n ok hn h1 h0=>jpO fun J hJ=>cT rfl (hJ _ _ ?_);rw [i64_in (by omega),show (0:Int)-(n:Int)=-(n:Int) by omega];exact key r (fun n=>-(n:Int)) true (by rw [hv];rfl) n ok h1 h0
 ·refine qxo v fun n ok hn h1 h0=>jpO fun J hJ=>cF rfl (hJ _ _ ?_);refine key v (fun n=>(n:Int)) false ?_ n ok h1 h0;unfold qqa;split
  ·rename_i r;exact absurd rfl (hv r)
  ·rfl
end
theorem zcf (c:UInt8):(decide (bitsR .or .u8 (c.toNat:Int) 32>=97) && decide (bitsR .or .u8 (c.toNat:Int) 32<=122))=qo2 c:=by
 refine q74 (P:=fun c=>(decide (bitsR .or .u8 (c.toNat:Int) 32>=97) && decide (bitsR .or .u8 (c.toNat:Int) 32<=122))=qo2 c) (fun n hn=>?_) c;have e:bitsR .or .u8 (((UInt8.ofNat n).toNat:Nat):Int) ((32:Nat):Int)=(((UInt8.ofNat n).toNat ||| 32:Nat):Int):=qd3 .u8 (by show _<2^8;exact (UInt8.ofNat n).toNat_lt) (by decide);have e':bitsR .or .u8 (((UInt8.ofNat n).toNat:Nat):Int) 32=(((UInt8.ofNat n).toNat ||| 32:Nat):Int):=e;rw [e'];have key:∀n,n<256->(decide ((((UInt8.ofNat n).toNat ||| 32:Nat):Int)>=97) && decide ((((UInt8.ofNat n).toNat ||| 32:Nat):Int)<=122))=qo2 (UInt8.ofNat n):=by decide +kernel
 exact key n hn
section
variable {w:World} {g:Nat} {L:List Int}
theorem KM.ext {w':World} (h:KM w g L) (hb:Below w.heap.size w w'):KM w' g L:=⟨h.blk.ext hb,h.len⟩
theorem KM.st (h:KM w g L) {j:Nat} (hj:j<22) {v:Int} {u:Value} (hu:u=cellK j v) {K:World->Prop} (hK:∀w',KM w' g (L.set j v)->Chg (fun k=>k=g) w w'->w'.heap.size=w.heap.size->K w'):stK ⟨g,j,none⟩ [u] w K:=by
 subst hu;refine qaj h.blk (by rw [qfd,h.len,List.length_singleton];omega) fun w' hb hg hs=>hK w' ⟨?_,by rw [List.length_set];exact h.len⟩ (Chg.gg hg) hs;have:putL (qlo L) j [cellK j v]=qlo (L.set j v):=by
  have:=q4s L 0 j v;rw [zero_add] at this;exact this
 rwa [this] at hb
theorem q4b {α β:Type} (o:Option α) (f:α->β):(o.map f).isNone=o.isNone:=by cases o<;>rfl
theorem zg1 {j:Nat} (h:j<17):qpz j<22/\¬qpz j<4:=by unfold qpz;split<;>omega
theorem KM.drew (h:KM w g L):KM w.drew g L:=⟨h.blk.drew,h.len⟩
theorem zho (h:KM w g L) (s:List UInt8) {K:Bool->World->Prop} (hK:∀b w' L',KM w' g L'->Chg (fun k=>k=g) w w'->(b=true->oneL L s=some L')->(b=false->oneL L s=none)->K b w'):qna (some ⟨g,0,none⟩) (strB s) w K:=by
 refine q04 _ _ ?_;unfold qs8;have hno:∀{w':World} {L':List Int},KM w' g L'->Chg (fun k=>k=g) w w'->oneL L s=none->K false w':=fun hk hc hn=>hK false _ _ hk hc (fun e=>by cases e) fun _=>hn;have hyes:∀{w':World} {L':List Int},KM w' g L'->Chg (fun k=>k=g) w w'->oneL L s=some L'->K true w':=fun hk hc hn=>hK true _ _ hk hc (fun _=>hn) fun e=>by cases e
 have c0:Chg (fun k=>k=g) w w:=Chg.refl _ _;refine jpO fun J1 hJ1=>?_;rcases s with _ | ⟨c,_ | ⟨e,v⟩⟩
 ·exact cT (by simp [qbs]) (hno h c0 rfl)
 ·exact cT (by simp [qbs]) (hno h c0 rfl)
 ·refine cF (by simp [qbs];omega) ?_;refine qtp (k:=1) (b:=e) rfl rfl ?_;by_cases he:e=61
  case neg =>
   refine cT ?_ (hno h c0 ?_)
   ·have:e.toNat≠61:=fun hh=>he (UInt8.toNat_inj.1 hh);simp;omega
   ·unfold oneL;dsimp only;rw [if_pos (.inl he)]
  subst he;refine cF (by decide) (hJ1 _ _ ?_);refine qtp (k:=0) (b:=c) rfl rfl ?_;refine q01 (l:=2) (h:=(c::61::v).length) (.inr rfl) (.inl ⟨rfl,rfl⟩) (by simp) (le_refl _) ?_;rw [List.take_length];show joinP _ _;have hv:(c::(61:UInt8)::v).drop 2=v:=rfl;rw [hv];have hd:=h.drew;have cd:Chg (fun k=>k=g) w w.drew:=Chg.of_ext (Below.refl _ w).drew;refine jpO fun J2 hJ2=>?_;have hj2:J2 (qo2 c,()) w.drew->cond (decide (bitsR .or .u8 (c.toNat:Int) (32:Int)>=(97:Int))) (J2 ((decide (bitsR .or .u8 (c.toNat:Int) (32:Int)<=(122:Int))),()) w.drew) (J2 (false,()) w.drew):=by
   intro hj;rw [<-zcf] at hj;refine cO (fun ha=>?_) fun ha=>?_
   ·rw [ha,Bool.true_and] at hj;exact hj
   ·rw [ha,Bool.false_and] at hj;exact hj
  refine hj2 (hJ2 _ _ ?_);dsimp only;cases hl:qo2 c with
  | false =>
   refine cT rfl (hno hd cd ?_);unfold oneL;dsimp only;rw [if_pos (.inr hl)]
  | true =>
   have hone:oneL L (c::61::v)=if c=122 then (qqa v).map fun m=>L.set 20 m
     else match qm9 c with
      | some j=>sgnL L j v
      | none=>match numIx c with
       | some j=>(readN v).map fun n=>L.set j (n:Int)
       | none=>some L:=by
    unfold oneL;dsimp only;rw [if_neg (by rw [hl];simp)]
    all_goals rfl
   refine cF rfl ?_;by_cases hz:c=122
   ·subst hz;rw [if_pos rfl] at hone;refine cT (by decide) (zd8 v fun n ok h1 h0=>qb0 ?_);rw [qas,zero_add];refine hd.st (j:=20) (by omega) (v:=n) rfl fun w4 hk4 hc4 hs4=>?_;have hc:=cd.trans hc4 fun i _ hi=>hi;cases ok with
    | true=>exact hyes hk4 hc (by rw [hone,h1 rfl];rfl)
    | false=>exact hno hk4 hc (by rw [hone,h0 rfl];rfl)
   rw [if_neg hz] at hone;refine cF ?_ ?_
   ·have:c.toNat≠122:=fun hh=>hz (UInt8.toNat_inj.1 hh);simp;omega
   refine q41 c rfl fun w5 hB5=>?_;rw [q4b];have h5:=hd.ext hB5;have c5:=cd.trans (Chg.of_ext (S:=fun k=>k=g) hB5) fun i _ hi=>hi;cases hs:qm9 c with
   | some j =>
    rw [hs] at hone;have hj4:j<4:=by
     rcases q3n c with hh | ⟨j',_,hh,e⟩
     ·unfold qm9 at hs;rw [if_pos hh] at hs;cases hs
     ·rw [hs] at e;cases e;exact hh
    refine cT rfl (jpO fun J3 hJ3=>?_);rcases v with _ | ⟨b,_ | ⟨b',v'⟩⟩
    ·exact cF (by simp [qbs]) (hJ3 _ _ (cF rfl (hno h5 c5 hone)))
    rotate_left
    ·exact cF (by simp [qbs];omega) (hJ3 _ _ (cF rfl (hno h5 c5 hone)))
    ·refine cT (by simp [qbs]) (qtp (k:=0) (b:=b) rfl rfl (q8l b rfl (hJ3 _ _ ?_)));cases hvb:visB b with
     | false =>
      refine cF rfl (hno h5 c5 ?_);rw [hone];show sgnL L j [b]=_;unfold sgnL;dsimp only;rw [hvb];rfl
     | true =>
      refine cT rfl (qtp (k:=0) (b:=b) rfl rfl ?_);refine q41 c rfl fun w7 hB7=>?_;rw [hs];have h7:=h5.drew.ext hB7;have c7:=(c5.trans (Chg.of_ext (S:=fun k=>k=g) (Below.refl _ w5).drew) fun i _ hi=>hi).trans (Chg.of_ext (S:=fun k=>k=g) hB7) fun i _ hi=>hi;refine qb0 (h7.st (j:=j) (by omega) (v:=(b.toNat:Int)) (by unfold cellK;rw [if_pos hj4]) fun w8 hk8 hc8 hs8=>?_);refine hyes hk8 (c7.trans hc8 fun i _ hi=>hi) ?_;rw [hone];show sgnL L j [b]=_;unfold sgnL;dsimp only;rw [hvb];rfl
   | none =>
    rw [hs] at hone;refine cF rfl ?_;refine qz1 c rfl fun w10 hB10=>?_;rw [q4b];have h10:=h5.ext hB10;have c10:=c5.trans (Chg.of_ext (S:=fun k=>k=g) hB10) fun i _ hi=>hi;cases hn:numIx c with
    | none =>
     rw [hn] at hone;exact cF rfl (hyes h10 c10 hone)
    | some j =>
     rw [hn] at hone;have hj:j<22/\¬j<4:=by
      rcases q6u c with hh | ⟨j',_,hh,e⟩
      ·unfold numIx at hn;rw [if_pos hh] at hn;cases hn
      ·rw [hn] at e;cases e;exact zg1 hh
     refine cT rfl (qz1 c rfl fun w11 hB11=>?_);rw [hn];have h11:=h10.ext hB11;have c11:=c10.trans (Chg.of_ext (S:=fun k=>k=g) hB11) fun i _ hi=>hi;refine qxo v fun n ok hnn h1 h0=>qb0 (h11.st (j:=j) hj.1 (v:=(n:Int)) (by unfold cellK;rw [if_neg hj.2]) fun w13 hk13 hc13 hs13=>?_);have hc:=c11.trans hc13 fun i _ hi=>hi;cases ok with
     | true=>exact hyes hk13 hc (by rw [hone];dsimp only;rw [h1 rfl];rfl)
     | false=>exact hno hk13 hc (by rw [hone];dsimp only;rw [h0 rfl];rfl)
end
theorem qi3:∀(s:List UInt8),(indexByte s 44=-1/\qa7 s=[s]/\countByte s 44=0)\/∃(x r:List UInt8),s=x++44::r/\indexByte s 44=x.length/\qa7 s=x::qa7 r/\countByte s 44=countByte r 44+1
 | []=>.inl ⟨rfl,rfl,rfl⟩
 | b::s=>by
  by_cases hb:b=44
  ·subst hb;refine .inr ⟨[],s,rfl,by simp [indexByte],by simp [qa7],by simp [countByte]⟩
  ·rcases qi3 s with ⟨h1,h2,h3⟩ | ⟨x,r,h0,h1,h2,h3⟩
   ·refine .inl ⟨by simp [indexByte,hb,h1],by rw [qa7,if_neg hb,h2],?_⟩;unfold countByte at h3 ⊢;rw [List.count_cons_of_ne hb];exact h3
   ·refine .inr ⟨b::x,r,by rw [h0];rfl,?_,by rw [qa7,if_neg hb,h2],?_⟩
    ·have:¬(x.length:Int)=-1:=by omega
     simp [indexByte,hb,h1,this]
    ·unfold countByte at h3 ⊢;rw [List.count_cons_of_ne hb];exact h3
theorem q4w (s:List UInt8):(qa7 s).length=countByte s 44+1:=by
 have:∀n (s:List UInt8),s.length=n->(qa7 s).length=countByte s 44+1:=by
  intro n
  induction n using Nat.strongRecOn with
  | _ n ih =>
   intro s hs;rcases qi3 s with ⟨h1,h2,h3⟩ | ⟨x,r,h0,h1,h2,h3⟩
   ·rw [h2,h3];rfl
   ·rw [h2,h3,length_cons,ih r.length (by rw [<-hs,h0];simp;omega) r rfl]
 exact this _ s rfl
section
variable {w:World}
theorem zfa (s:List UInt8) (c:UInt8) {K:Int->World->Prop} (hK:K (indexByte s c) w):qug (strB s) (strB [c]) w K:=by
 refine Calls.mono (Tryz.strings_Index_one (strB s) c w) ?_;rintro e w' ⟨rfl,rfl⟩;exact ⟨_,rfl,hK⟩
theorem zgm (s:List UInt8) (c:UInt8) {K:Int->World->Prop} (hK:K (countByte s c) w):quj (strB s) (strB [c]) w K:=by
 refine Calls.mono (Tryz.strings_Count_one (strB s) c w) ?_;rintro e w' ⟨rfl,rfl⟩;exact ⟨_,rfl,hK⟩
theorem zcp (s:List UInt8) (hl:s.length<=1000000) {K:Slc->World->Prop} (hK:∀q w',Rd qdi w' q ((qa7 s).map strB)->Below w.heap.size w w'->(∀k,q.blk=some k->w.heap.size<=k)->K q w'):qny (strB s) (strB [44]) w K:=by
 refine q0l _ _ ?_;unfold qs2;refine qv9 _ _ _ _ ?_;unfold qov;refine cF (by decide) (cF (by rw [qfr];simp [ByteArray.toList_eq]) ?_);refine jpO fun J1 hJ1=>?_;refine cT (by decide) (zgm s 44 (hJ1 _ _ ?_));dsimp only;have hn:=q4w s;have hcle:countByte s 44<=s.length:=List.count_le_length;obtain ⟨n,hnn⟩:∃n,countByte s 44+1=n:=⟨_,rfl⟩;rw [i64_in (x:=((countByte s 44:Nat):Int)+1) (by omega),qbs,i64_in (x:=((s.length:Nat):Int)+1) (by omega),show ((countByte s 44:Nat):Int)+1=(n:Int) by omega];have emin:(if ((s.length:Nat):Int)+1<(n:Int) then ((s.length:Nat):Int)+1 else (n:Int))=(n:Int):=if_neg (by omega);rw [emin];refine qpl (E:=qdi) qth (x0:=ByteArray.empty) (by kernel_rfl) (n:=n) rfl rfl (by rw [q0g];omega) (by unfold maxLen;omega) fun w3 ho hB3=>?_;rw [i64_in (x:=(n:Int)-1) (by omega)];generalize hq:(⟨some ⟨w.heap.size,0,none⟩,n,n⟩:Slc)=q at ho ⊢;refine jpO fun J2 hJ2=>?_;have hqa:q.a=some ⟨w.heap.size,0,none⟩:=by rw [<-hq]
 have hqn:q.n=n:=by rw [<-hq]
 have hqc:q.c=n:=by rw [<-hq]
 refine lpR (fun (st:ByteArray×Int×Unit) w6=>∃(k:Nat) (rest:List UInt8),st.2.1=k/\st.1=strB rest/\k<n/\countByte rest 44+1+k=n/\rest.length<=s.length/\Go.Vc.Own qdi w6 w.heap.size q (((qa7 s).map strB).take k++List.replicate (n-k) ByteArray.empty)/\(qa7 s).drop k=qa7 rest/\Below w.heap.size w w6)
  (fun st=>n-st.2.1.toNat) ⟨0,s,rfl,rfl,by omega,by omega,le_refl _,by simpa using ho,rfl,hB3⟩ ?_
 rintro ⟨t,i,u⟩ w6 ⟨k,rest,hi,ht,hk,hcnt,hrl,ho6,hdrop,hB6⟩ I hI;dsimp only at hi ht ⊢;subst hi ht;have hsome:=ho6.rd.some_ (by simp;omega);have hlen6:(((qa7 s).map strB).take k++List.replicate (n-k) ByteArray.empty).length=n:=by simp;omega
 have hset:∀(x:List UInt8) (r:List (List UInt8)),(qa7 s).drop k=x::r->(((qa7 s).map strB).take k++List.replicate (n-k) ByteArray.empty).set k (strB x)=((qa7 s).map strB).take (k+1)++List.replicate (n-(k+1)) ByteArray.empty:=by
  intro x r hx;have hl2:(((qa7 s).map strB).take k).length=k:=by simp;omega
  rw [List.set_append_right _ _ (by omega),hl2,Nat.sub_self,show n-k=(n-(k+1))+1 by omega,List.replicate_succ,List.set_cons_zero,List.take_add_one,List.append_assoc];congr 1;have:((qa7 s).map strB)[k]?=some (strB x):=by
   rw [List.getElem?_map];have:(qa7 s)[k]?=some x:=by
    have:=congrArg (fun l=>l[0]?) hx;simpa using this
   rw [this];rfl
  rw [this];rfl
 have hixx:(((qa7 s).map strB).take k++List.replicate (n-k) ByteArray.empty)[k]?=some ByteArray.empty:=by
  have hl2:(((qa7 s).map strB).take k).length=k:=by simp;omega
  rw [List.getElem?_append_right (by omega),hl2,Nat.sub_self,List.getElem?_replicate,if_pos (by omega)]
 by_cases hlt:k+1<n
 ·refine cT (by simp;omega) (zfa rest 44 ?_);rcases qi3 rest with ⟨h1,h2,h3⟩ | ⟨x,r,h0,h1,h2,h3⟩
  ·omega
  ·have hxl:x.length+1+r.length=rest.length:=by rw [h0];simp;omega
   rw [h1];refine cF (by simp) ?_;rw [i64_in (by omega)];refine q01 (l:=0) (h:=x.length) (.inl ⟨rfl,rfl⟩) (.inr (by simp)) (by omega) (by rw [h0];simp) ?_;have ex:(rest.take x.length).drop 0=x:=by rw [h0];simp
   rw [ex];refine q3x (by rw [hqa];rfl) (by omega) (by omega) ?_;rw [Int.toNat_natCast];refine ho6.st0 (E:=qdi) (i:=k) (x:=ByteArray.empty) (y:=strB x) hixx rfl fun w8 ho8 hg8 hs8=>?_;rw [hset x (qa7 r) (by rw [hdrop,h2])] at ho8;refine q01 (l:=x.length+1) (h:=rest.length) (.inr ?_) (.inl ⟨rfl,rfl⟩) (by rw [h0];simp) (le_refl _) ?_
   ·rw [qbs,show (([44]:List UInt8).length:Int)=1 from rfl,i64_in (by omega)];simp
   have er:(rest.take rest.length).drop (x.length+1)=r:=by rw [List.take_length,h0];simp
   rw [er,i64_in (by omega)];have hrlen:r.length<rest.length:=by rw [h0];simp;omega
   have hqb:q.blk=some w.heap.size:=by unfold Slc.blk;rw [hqa];rfl
   refine hI _ _ ⟨k+1,r,by simp,rfl,hlt,by omega,by omega,ho8,?_,hB6.grown hg8 hB6.size fun j hj=>by rw [hqb] at hj;cases hj;exact le_refl _⟩ (by simp;omega);have:(qa7 s).drop (k+1)=((qa7 s).drop k).drop 1:=by rw [List.drop_drop]
   rw [this,hdrop,h2];rfl
 ·obtain rfl:n=k+1:=by omega
  refine cF (by simp) (hJ2 _ _ ?_);dsimp only;have hlast:qa7 rest=[rest]:=by
   rcases qi3 rest with ⟨h1,h2,h3⟩ | ⟨x,r,h0,h1,h2,h3⟩
   ·exact h2
   ·omega
  refine q3x (by rw [hqa];rfl) (by omega) (by omega) ?_;rw [Int.toNat_natCast];refine ho6.st0 (E:=qdi) (i:=k) (x:=ByteArray.empty) (y:=strB rest) hixx rfl fun w8 ho8 hg8 hs8=>?_;rw [hset rest [] (by rw [hdrop,hlast]),Nat.sub_self,List.replicate_zero,List.append_nil,List.take_of_length_le (by simp;omega)] at ho8;rw [i64_in (by omega)];have hqb:q.blk=some w.heap.size:=by unfold Slc.blk;rw [hqa];rfl
  have hl8:((qa7 s).map strB).length=k+1:=by simp;omega
  refine ho8.rd.slK (E:=qdi) (k:=1) (l:=0) (m:=k+1) rfl (.inl ⟨rfl,rfl⟩) (.inr (by simp)) (by omega) (by omega) fun hrd=>?_;rw [List.take_of_length_le (by omega),List.drop_zero] at hrd;refine hK _ w8 hrd (hB6.grown hg8 hB6.size fun j hj=>by rw [hqb] at hj;cases hj;exact le_refl _) fun j hj=>?_;obtain ⟨a,ha,rfl⟩:=slk.1 hj;obtain ⟨b,hb,e⟩:=qgd ha;rw [hqa] at hb;cases hb;rw [e];exact le_refl _
end
theorem q9q:zeroL.length=22:=rfl
section
variable {w:World}
theorem zbf {K:qaa->World->Prop} (hK:∀w',Below w.heap.size w w'->K (ofL qef) w'):qsp w K:=by
 refine q42 ?_;unfold qy0;refine nwb fun w1 hb1 hB1 hs1=>?_;refine qaj hb1 (by decide) fun w2 hb2 hg2 hs2=>?_;have hb2:Blk w2 w.heap.size qay (qaa.rep.cells (ofL qef)):=hb2;refine qal (x:=ofL qef) hb2.cells (hK w2 (hB1.grown hg2 (by omega) fun k hk=>by cases hk;exact le_refl _))
theorem zcz {b:Slc} {bs:List UInt8} (hrd:Rd qae w b bs) {K:qaa->Int->World->Prop} (hK:∀w',Below w.heap.size w w'->K (ofL (qda bs).1) (qda bs).2 w'):qtl b w K:=by
 refine q4y _ ?_;unfold qyq;have hn:=hrd.n;refine nwb fun w1 hb1 hB1 hs1=>?_;have hb1:Blk w1 w.heap.size qay (qlo zeroL):=hb1;refine zbf fun w2 hB2=>?_;have hb2:=hb1.ext hB2;have s2:=hB2.size;refine qcu (t:=qay) (vs:=qaa.rep.cells (ofL qef)) rfl fun w4 hb4 hB4 hs4=>?_;have hz4:KM w4 w.heap.size zeroL:=⟨hb2.ext hB4,rfl⟩;have hk4:KM w4 w2.heap.size qef:=⟨hb4,rfl⟩;have hB14:Below w.heap.size w w4:=(hB1.trans (hB2.mono (by omega))).trans (hB4.mono (by omega));have hend:∀{w5:World} {L:List Int} {vs:List Value} {e:Int},L.length=22->vs=qlo L->qda bs=(L,e)->KM w5 w.heap.size zeroL->Below w.heap.size w w5 ->
   stK ⟨w.heap.size,0,none⟩ vs w5 fun w6=>ldS qaa.rep ⟨w.heap.size,0,none⟩ w6 fun r=>K r e w6:=by
  intro w5 L vs e hl hvs hp hz hB5;subst hvs;refine qaj hz.blk (by rw [qfd,qfd,hl,hz.len];omega) fun w6 hb6 hg6 hs6=>?_;have e6:putL (qlo zeroL) 0 (qlo L)=qaa.rep.cells (ofL L):=by
   rw [q0n hl];refine List.ext_getElem? fun m=>?_;rw [qmc _ _ 0 m (by rw [qfd,qfd,hl,q9q];omega)];by_cases hm:m<22
   ·rw [if_pos (by rw [qfd,hl];omega)];rfl
   ·rw [if_neg (by rw [qfd,hl];omega),List.getElem?_eq_none (by rw [qfd,q9q];omega),List.getElem?_eq_none (by rw [qfd,hl];omega)]
  rw [e6] at hb6;refine qal (x:=ofL L) hb6.cells ?_;have:=hK w6 (hB5.grown hg6 hB5.size fun k hk=>by cases hk;exact le_refl _);rw [hp] at this;exact this
 refine cO (fun h=>?_) fun h=>?_
 ·have h:(512:Int)<b.n:=oTq h;exact hend (L:=zeroL) rfl rfl (by unfold qda;rw [if_pos (by omega)]) hz4 hB14
 have h:¬(512:Int)<b.n:=oFq h;refine cO (fun h0=>?_) fun h0=>?_
 ·have h0:(b.n:Int)=0:=by simpa using h0
  have hnil:bs=[]:=List.eq_nil_of_length_eq_zero (by omega);refine qal (x:=ofL qef) (hb4.cells) ?_;exact hend (L:=qef) rfl rfl (by unfold qda;rw [if_neg (by omega),if_pos hnil]) hz4 hB14
 have h0:¬(b.n:Int)=0:=by simpa using h0
 have hne:bs≠[]:=fun e=>by subst e;simp at hn;omega
 have hrd4:=hrd.ext hB14;refine qhe hrd4 (zcp bs (by omega) fun q w8 hq hB8 hqb=>?_);have s4:=hB14.size;have hz8:=hz4.ext hB8;have hk8:=hk4.ext hB8;have hqn:=hq.n;rw [length_map] at hqn;have hfold:qda bs=match (qa7 bs).foldlM oneL qef with | some k=>(k,0) | none=>(zeroL,3):=by unfold qda;rw [if_neg (by omega),if_neg hne];all_goals (cases List.foldlM oneL qef (qa7 bs)<;>rfl)
 have hlen:(qa7 bs).length<=1000:=by
  rw [q4w];have:countByte bs 44<=bs.length:=List.count_le_length;omega
 refine lpR (fun (s:Int×Unit) w9=>∃(k:Nat) (L:List Int),s.1=k/\k<=(qa7 bs).length/\KM w9 w2.heap.size L/\KM w9 w.heap.size zeroL/\Rd qdi w9 q ((qa7 bs).map strB)/\Below w.heap.size w w9/\(qa7 bs).foldlM oneL qef=((qa7 bs).drop k).foldlM oneL L)
  (fun s=>(qa7 bs).length-s.1.toNat) ⟨0,qef,rfl,Nat.zero_le _,hk8,hz8,hq,hB14.trans (hB8.mono (by omega)),rfl⟩ ?_
 rintro ⟨i,u⟩ w9 ⟨k,L,hi,hk,hk9,hz9,hq9,hB9,hf⟩ I hI;dsimp only at hi ⊢;subst hi;by_cases hlt:k<(qa7 bs).length
 ·refine cT (by simp;omega) ?_;refine hq9.ix (k:=1) rfl (by omega) (by simp;omega) fun hcell=>?_;obtain ⟨x,hx,hx'⟩:=qcw (xs:=(qa7 bs).map strB) (k:=k) (by simpa using hlt);rw [hx' _] at hcell;have hxe:x=strB (qa7 bs)[k]:=by
   rw [List.getElem?_map,List.getElem?_eq_getElem hlt] at hx;exact (Option.some.inj hx).symm
  refine ql0 (x:=x) (by simpa using hcell 0 _ rfl) ?_;rw [hxe];rw [List.drop_eq_getElem_cons hlt,List.foldlM_cons] at hf;refine zho hk9 _ fun ok w10 L' hk10 hc10 h1 h0=>?_;have hne1:w.heap.size≠w2.heap.size:=by omega
  have hz10:KM w10 w.heap.size zeroL:=⟨hz9.blk.chg hc10 hne1,rfl⟩;have hB10:Below w.heap.size w w10:=hB9.trans (hc10.below hB9.size fun i hi e=>by omega);cases ok with
  | false =>
   refine cT rfl (hend (L:=zeroL) rfl rfl ?_ hz10 hB10);rw [hfold,hf,h0 rfl];rfl
  | true =>
   refine cF rfl ?_;rw [i64_in (by omega)];refine hI _ _ ⟨k+1,L',by simp,by omega,hk10,hz10,hq9.chg hc10 fun a ha e=>?_,hB10,?_⟩ (by simp;omega)
   ·have:=hqb a.block (slk.2 ⟨a,ha,rfl⟩);have s4':=hB4.size;omega
   ·rw [hf,h1 rfl];rfl
 ·refine cF (by simp;omega) ?_;rw [List.drop_of_length_le (by omega)] at hf;have hc9:=hk9.blk.cells;rw [<-q0n hk9.len] at hc9;refine qal (x:=ofL L) hc9 ?_;rw [q0n hk9.len];exact hend (L:=L) hk9.len rfl (by rw [hfold,hf];rfl) hz9 hB9
end
theorem q6r (m:Nat):∀(l:List (List UInt8)),(∀x∈l,x.length<=m)->(joinC l).length<=l.length*(m+1)
 | [],_=>by simp [zgp]
 | [x],h=>by
  have:=h x (by simp);rw [zf9];simp;omega
 | x::y::l,h=>by
  have h1:=h x (by simp);have h2:=q6r m (y::l) fun z hz=>h z (by simp [hz]);have e:(x::y::l).length*(m+1)=(y::l).length*(m+1)+(m+1):=by rw [length_cons,Nat.succ_mul]
  rw [e,zb5 x (y::l) (by simp),length_append,length_cons];omega
section
variable {w:World}
theorem zg3 {base:Nat} {q:Slc} {l:List (List UInt8)} (hq:Go.Vc.Own qdi w base q (l.map strB)) (hn:l.length<=100000) (hl:(joinC l).length<=1000000) {K:ByteArray->World->Prop} (hK:∀w',Below w.heap.size w w'->K (strB (joinC l)) w'):qv8 q (strB [44]) w K:=by
 have hlen:(l.map strB).map (·.data.toList)=l:=by
  rw [List.map_map]
  conv=>rhs;rw [<-List.map_id l]
  exact List.map_congr_left fun x _=>rfl
 rcases hq.form with ⟨rfl,hz⟩ | ⟨g,cur,hs,hg,hb,h1,h2,h3,h4⟩
 ·have hnil:l=[]:=by simpa using hz
  subst hnil;refine Calls.mono (Tryz.strings_Join_none none 0 (strB [44]) w) ?_;rintro e w' ⟨rfl,rfl⟩;exact ⟨_,rfl,hK w' (Below.refl _ _)⟩
 ·have hc:Calls PG 110 #[.slice (some ⟨g,0,none⟩) (l.map strB).length q.c,.string (strB [44])] w fun e w'=>e=.returned (.string ⟨(Lib.join ((l.map strB).map (·.data.toList)) [44]).toArray⟩)/\Below w.heap.size w w' :=
   Tryz.strings_Join g 0 q.c (l.map strB) (strB [44]) w (fun j x hx=>by
    have:=hq.rd.at_ j x hx 0 (.string x) rfl;rw [hs] at this;simpa [Slc.at_,qas,show qdi.k=1 from rfl] using this) hb.lt (by simp;omega) (by omega) (by rw [hlen];show (joinC l).length<=_;omega)
  rw [hs];refine Calls.mono hc ?_;rintro e w' ⟨rfl,hB⟩;rw [hlen];exact ⟨_,rfl,hK w' hB⟩
theorem zha {base:Nat} {s:Slc} {l:List (List UInt8)} {x:List UInt8} {K:Slc->World->Prop} (hown:Go.Vc.Own qdi w base s (l.map strB)) (hb:base<=w.heap.size) (hl:l.length<=1000)
  (hK:∀r w',Go.Vc.Own qdi w' base r ((l++[x]).map strB)->Chg (fun k=>s.blk=some k) w w'->(∀k,r.blk=some k->s.blk=some k\/w.heap.size<=k)->K r w') :
  nw qa1 [(.string (strB x))] w fun a w1=>apK PG #[qes,qes] qes s ⟨some a,1,1⟩ w1 fun r w2=>K r w2:=by
 refine qht (E:=qdi) (y:=strB x) qth hown rfl hb (by rw [q0g,length_map];omega) (by rw [length_map];unfold maxLen;omega) fun r w' ho hc hr=>hK r w' ?_ hc hr;rw [List.map_append];exact ho
end
section
variable {w:World}
theorem quz {vs:List Value} {n:Nat} {bs:List UInt8} {K:Slc->World->Prop} (hv:vs=bs.map fun b=>Value.int .u8 (b.toNat:Int)) (hn:n=bs.length) (hl:bs.length<=1000000)
  (hK:∀s w',Rd qae w' s bs->s.blk=some w.heap.size->Below w.heap.size w w'->w'.heap.size=w.heap.size+1->s.a=some ⟨w.heap.size,0,none⟩->K s w') :
  nw qan vs w fun t w1=>runK1 PG (convert qab qab (.slice (some t) n n)) Kind.slice w1 K:=by
 subst hn hv;refine ⟨⟨some ⟨w.heap.size,0,none⟩,bs.length,bs.length⟩,_,Lib.run_convert_bytes_const w qab qan _ _ _ (by kernel_rfl) (by kernel_rfl),hK _ _ ⟨rfl,le_refl _,by show bs.length<=maxLen;simp only [maxLen];omega,fun _=>rfl,fun i x hx j v hj=>?_⟩ rfl ((Below.refl _ w).alloc (le_refl _) _) (by simp) rfl⟩;have hj0:j=0:=by
  have:=(List.getElem?_eq_some_iff.1 hj).1;simp [qae] at this;exact this
 subst hj0;have hv:v=.int .u8 (x.toNat:Int):=by
  simp [qae] at hj;exact hj.symm
 subst hv;have hi:i<bs.length:=(List.getElem?_eq_some_iff.1 hx).1;show World.cell? _ (((⟨w.heap.size,0,none⟩:Addr).add (i*1)).add 0)=_;rw [add_zero,qas,mul_one,zero_add];have hnew:∀o:Obj,(w.alloc o).heap[w.heap.size]?=some o:=fun o=>by
  show (w.heap.push o)[w.heap.size]?=_;simp
 unfold World.cell?;dsimp only;rw [hnew];show (bs.map fun b=>Value.int .u8 (b.toNat:Int)).toArray[i]?=_;rw [List.getElem?_toArray,List.getElem?_map,hx];rfl
theorem zh9 (u:Nat):(if u<10 then ([]:List UInt8) else Lib.decDigits (u/10))++[UInt8.ofNat (48+u%10)]=Lib.decDigits u:=by
 conv=>rhs;rw [Lib.decDigits]
 split
 ·rename_i h;rw [Nat.mod_eq_of_lt h];rfl
 ·rfl
theorem q9m:∀(x:List UInt8) (c:UInt8) (r:List UInt8),(∀b∈x,b≠c)->indexByte (x++c::r) c=x.length
 | [],c,r,_=>by simp [indexByte]
 | b::x,c,r,h=>by
  have h1:=q9m x c r fun b hb=>h b (by simp [hb]);have h2:b≠c:=h b (by simp);have h3:¬(x.length:Int)=-1:=by omega
  simp [indexByte,h2,h1,h3]
theorem zcx {s:Slc} {bs:List UInt8} (hs:Rd qae w s bs) (ha:s.a.isSome=true) (hl:bs.length<=1000000) {K:Slc->World->Prop} (hK:∀q w',Go.Vc.Own qae w' w.heap.size q bs->Below w.heap.size w w'->K q w'):qh4 s w K:=by
 refine qsy _ ?_;unfold qpa;refine cF (by cases h:s.a with | none=>rw [h] at ha;cases ha | some a=>rfl) ?_;refine nwb fun w1 hb1 hB1 hs1=>?_;refine qkd (E:=qae) qau (qjx hb1 (le_refl _)) (hs.ext hB1) (by omega) (by rw [qc0];simp;omega) (by simp;unfold maxLen;omega) fun q w2 ho hg hr=>hK q w2 ho (hB1.grown hg (by omega) fun k hk=>by cases hk;exact le_refl _)
theorem q83 {L:List Int} {wd:List UInt8}:q1l L wd=((decide (L[8]?.getD 0=0) && decide (L[9]?.getD 0=0)) || (decide (L[4]?.getD 0=1) && decide (wd=[79,75])) || decide ((2:Int)<=L[4]?.getD 0) || decide (L[8]?.getD 0<0) || decide (L[9]?.getD 0<0) || decide (L[10]?.getD 0<0)):=rfl
theorem zji (wd:List UInt8):((strB wd).toList==(⟨#[79,75]⟩:ByteArray).toList)=decide (wd=[79,75]):=by
 rw [qfr,show (⟨#[79,75]⟩:ByteArray)=strB [79,75] from rfl,qfr];by_cases h:wd=[79,75]
 ·rw [h];rfl
 ·rw [dFq h];simpa using h
theorem qp4 (c:UInt8) {n:Int} (h0:-9223372036854775808<=n) (h1:n<=9223372036854775807):(rItem c n).length<=1/\∀x∈rItem c n,x.length<=22:=by
 have:=q9r h0 h1;unfold rItem;split
 ·simp
 ·refine ⟨by simp,fun x hx=>?_⟩;rw [List.mem_singleton] at hx;subst hx;simp;omega
def Wide (L:List Int):Prop:=∀i:Nat,-9223372036854775808<=L[i]?.getD 0/\L[i]?.getD 0<=9223372036854775807
theorem zgw {L:List Int} (hw:Wide L):(qia L).length<=3/\(joinC (qia L)).length<=100:=by
 have a:=qp4 105 (hw 8).1 (hw 8).2;have b:=qp4 73 (hw 9).1 (hw 9).2;have c:=qp4 112 (hw 10).1 (hw 10).2;have h3:(qia L).length<=3:=by unfold qia;rw [length_append,length_append];omega
 have:=q6r 22 (qia L) fun x hx=>by
  unfold qia at hx;rcases List.mem_append.1 hx with hx | hx
  ·rcases List.mem_append.1 hx with hx | hx
   ·exact a.2 x hx
   ·exact b.2 x hx
  ·exact c.2 x hx
 exact ⟨h3,by omega⟩
theorem zed {k:qaa} (hT:Tab w) (hw:Wide (toL k)) (wd:List UInt8) (hwl:wd.length<=100000) {K:Slc->World->Prop} (hK:∀q w',Rd qae w' q (qw2 (toL k) wd)->Below w.heap.size w w'->(∀j,q.blk=some j->w.heap.size<=j)->K q w'):qsr k (strB wd) w K:=by
 refine q4t _ _ ?_;unfold qyp;refine nwb fun w1 hb1 hB1 hs1=>?_;obtain ⟨L,hL⟩:∃L,toL k=L:=⟨_,rfl⟩;rw [hL] at hw hK;have h4:L[4]?.getD 0=k.Quiet:=by rw [<-hL];rfl
 have h8:L[8]?.getD 0=k.Id:=by rw [<-hL];rfl
 have h9:L[9]?.getD 0=k.Number:=by rw [<-hL];rfl
 have h10:L[10]?.getD 0=k.Place:=by rw [<-hL];rfl
 have ld:∀{w2:World},Blk w2 w.heap.size qay (qaa.rep.cells k)->w2.cell? ((⟨w.heap.size,0,none⟩:Addr).add 4)=some (.int .i64 k.Quiet)/\w2.cell? ((⟨w.heap.size,0,none⟩:Addr).add 8)=some (.int .i64 k.Id)/\w2.cell? ((⟨w.heap.size,0,none⟩:Addr).add 9)=some (.int .i64 k.Number)/\w2.cell? ((⟨w.heap.size,0,none⟩:Addr).add 10)=some (.int .i64 k.Place) :=
  fun hb=>⟨hb.cells 4 _ rfl,hb.cells 8 _ rfl,hb.cells 9 _ rfl,hb.cells 10 _ rfl⟩
 obtain ⟨l4,l8,l9,l10⟩:=ld hb1;have hno:q1l L wd=true->K ⟨none,0,0⟩ w1:=fun h=>hK _ w1 (by unfold qw2;rw [if_pos h];exact Rd.nil _ _) hB1 (fun j hj=>by cases hj);rw [q83,h4,h8,h9,h10] at hno;refine lI l4 ?_;refine jpO fun J1 hJ1=>jpO fun J3 hJ3=>jpO fun J4 hJ4=>?_;have hmain:q1l L wd=false->J1 () w1:=by
  intro hn;refine hJ1 _ _ ?_;refine lI l8 (lI l9 (lI l10 ?_));refine nwb fun w3 hb3 hB3 hs3=>?_;have hB13:=hB1.trans (hB3.mono (by omega));have rI:∀i:Nat,i<=3->List (List UInt8):=fun i _=>([rItem 105 k.Id,rItem 73 k.Number,rItem 112 k.Place].take i).flatten;have hrI:qia L=([rItem 105 k.Id,rItem 73 k.Number,rItem 112 k.Place].take 3).flatten:=by unfold qia;rw [h8,h9,h10];simp
  have hw8:=hw 8;have hw9:=hw 9;have hw10:=hw 10;rw [h8] at hw8;rw [h9] at hw9;rw [h10] at hw10;refine lpR (fun (s:Slc×Int×Unit) w4=>∃i:Nat,s.2.1=i/\i<=3/\Blk w4 w1.heap.size qcj [(.string (strB [105,61])),(.int .i64 k.Id),(.string (strB [73,61])),(.int .i64 k.Number),(.string (strB [112,61])),(.int .i64 k.Place)]/\Below w.heap.size w w4/\w3.heap.size<=w4.heap.size/\Go.Vc.Own qdi w4 w3.heap.size s.1 ((([rItem 105 k.Id,rItem 73 k.Number,rItem 112 k.Place].take i).flatten).map strB))
   (fun s=>3-s.2.1.toNat) ⟨0,rfl,by omega,hb3,hB13,le_refl _,Go.Vc.Own.nil _ _ _⟩ ?_
  rintro ⟨q,i,u⟩ w4 ⟨m,hi,hm,hb4,hB4,hs4,ho4⟩ I hI;dsimp only at hi ho4 ⊢;subst hi;by_cases hlt:m<3
  ·refine cT (by simp;omega) ⟨⟨by omega,by omega⟩,?_⟩;obtain ⟨c,n,hcn,hnw,hcells⟩:∃(c:UInt8) (n:Int),[rItem 105 k.Id,rItem 73 k.Number,rItem 112 k.Place][m]?=some (rItem c n)/\(-9223372036854775808<=n/\n<=9223372036854775807) /\
     qaw w4 ((⟨w1.heap.size,0,none⟩:Addr).add (((m:Int)).toNat*2)) (qbj.rep.cells ⟨strB [c,61],n⟩):=by
    have:m=0\/m=1\/m=2:=by omega
    rcases this with rfl | rfl | rfl
    ·exact ⟨105,k.Id,rfl,hw8,hb4.sub 0 _ rfl⟩
    ·exact ⟨73,k.Number,rfl,hw9,hb4.sub 2 _ rfl⟩
    ·exact ⟨112,k.Place,rfl,hw10,hb4.sub 4 _ rfl⟩
   have htk:(([rItem 105 k.Id,rItem 73 k.Number,rItem 112 k.Place].take (m+1)).flatten)=(([rItem 105 k.Id,rItem 73 k.Number,rItem 112 k.Place].take m).flatten)++rItem c n:=by
    rw [List.take_add_one,hcn,List.flatten_append];simp
   refine qal (x:=(⟨strB [c,61],n⟩:qbj)) hcells ?_;refine qcu (t:=qcj) (vs:=qbj.rep.cells ⟨strB [c,61],n⟩) rfl fun w6 hb6 hB6 hs6=>?_;refine lI (x:=n) (hb6.cells 1 _ rfl) ?_;have ho6:=ho4.ext hB6;have hb46:=hb4.ext hB6;have hB46:=hB4.trans (hB6.mono hB4.size);have e4:=hB4.size;rw [i64_in (by omega)];refine cO (fun hne=>?_) fun he=>?_
   ·have hne:n≠0:=by simpa using hne
    have hit:rItem c n=[c::61::Lib.itoa n]:=by unfold rItem;rw [if_neg hne]
    have hb6d:Blk w6.drew w4.heap.size qcj (qbj.rep.cells ⟨strB [c,61],n⟩):=hb6.drew;refine ql0 (x:=strB [c,61]) (hb6d.cells 0 _ rfl) (lI (x:=n) (hb6d.cells 1 _ rfl) ?_);refine ze9 (hT.ext hB46.drew) hnw.1 hnw.2 fun w7 hB7=>?_;have hil:=q9r hnw.1 hnw.2;refine ⟨(hb6d.ext hB7).cells 0 _ rfl,by rw [qbs,qbs];simp;omega,?_⟩;rw [q9n];show nw qa1 [(.string (strB (c::61::Lib.itoa n)))] w7 _;have e7:w6.heap.size<=w7.heap.size:=hB7.size;have ho7:Go.Vc.Own qdi w7 w3.heap.size q _:=ho6.drew.ext hB7;have hb47:=hb46.drew.ext hB7;have hlen:(([rItem 105 k.Id,rItem 73 k.Number,rItem 112 k.Place].take m).flatten).length<=1000:=by
     have a:=(qp4 105 hw8.1 hw8.2).1;have b:=(qp4 73 hw9.1 hw9.2).1;have:m=0\/m=1\/m=2:=by omega
     rcases this with rfl | rfl | rfl<;>simp<;>omega
    refine zha ho7 (by omega) hlen fun r w9 ho9 hc9 hr9=>?_;have hne1:∀j,q.blk=some j->w3.heap.size<=j:=fun j hj=>(ho7.lt j hj).1;refine hI _ _ ⟨m+1,by simp,by omega,hb47.chg hc9 fun e=>?_,(hB46.drew.trans (hB7.mono (by show _<=w6.heap.size;omega))).trans (hc9.below (by omega) fun i hi e=>?_),by have:=hc9.size;omega,?_⟩ (by simp;omega)
    ·have:=hne1 _ e;omega
    ·have:=hne1 _ e;omega
    ·dsimp only;rw [htk,hit];exact ho9
   ·have he:n=0:=by simpa using he
    have hit:rItem c n=[]:=by unfold rItem;rw [if_pos he]
    refine hI _ _ ⟨m+1,by simp,by omega,hb46,hB46,by omega,?_⟩ (by simp;omega);dsimp only;rw [htk,hit,List.append_nil];exact ho6
  ·refine cF (by simp;omega) ?_;obtain rfl:m=3:=by omega
   rw [<-hrI] at ho4;obtain ⟨hl1,hl2⟩:=zgw hw;refine zg3 (l:=qia L) ho4 (by omega) (by omega) fun w10 hB10=>?_;have e1:(⟨#[27,95,71]⟩:ByteArray)=strB [27,95,71]:=rfl;have e2:(⟨#[59]⟩:ByteArray)=strB [59]:=rfl;have e3:(⟨#[27,92]⟩:ByteArray)=strB [27,92]:=rfl;rw [e1,e2,e3];simp only [q9n,qbs,length_append,length_cons,List.length_nil];refine ⟨by omega,by omega,by omega,by omega,?_⟩;have hrep:qw2 L wd=[27,95,71]++joinC (qia L)++[59]++wd++[27,92]:=by unfold qw2;rw [if_neg (by rw [hn];simp)]
   rw [<-hrep];refine q9w (by rw [hrep];simp;omega) fun r w11 hr11 hrb hB11 _=>?_;have e4:=hB4.size;have e10:=hB10.size;exact hK r w11 hr11 ((hB4.trans (hB10.mono (by omega))).trans (hB11.mono (by omega))) (fun j hj=>by have:=hrb j hj;omega)
 rw [q83,h4,h8,h9,h10] at hmain;have hJ4':¬(k.Id=0/\k.Number=0)->¬k.Id<0->¬k.Number<0->¬k.Place<0->J4 () w1:=by
  intro hid a b c;refine hJ4 _ _ ?_;have hid':(decide (k.Id=0) && decide (k.Number=0))=false:=by
   cases h:(decide (k.Id=0) && decide (k.Number=0)) with
   | false=>rfl
   | true=>exact absurd (by simpa using h) hid
  rw [hid',dFq a,dFq b,dFq c] at hno hmain;simp only [Bool.false_or,Bool.or_false] at hno hmain;refine cO (fun hq=>?_) fun hq=>?_
  ·have hq:k.Quiet=1:=by simpa using hq
   rw [hq] at hno hmain ⊢;rw [zji];by_cases hwd:wd=[79,75]
   ·rw [dTq hwd] at *;exact cF rfl (hJ3 _ _ (cT (by decide) (hno (by decide))))
   ·rw [dFq hwd] at *;exact cT rfl (hJ3 _ _ (cF (by decide) (hmain (by decide))))
  ·have hq:¬k.Quiet=1:=by simpa using hq
   rw [dFq hq,Bool.false_and,Bool.false_or] at hno hmain;refine hJ3 _ _ (cO (fun h1=>hno ?_) fun h1=>hmain ?_)
   ·have h1:k.Quiet>=1:=oTq h1;exact dTq (by omega)
   ·have h1:¬k.Quiet>=1:=oFq h1;exact dFq (by omega)
 have tail:¬(k.Id=0/\k.Number=0)->ldI .i64 ((⟨w.heap.size,0,none⟩:Addr).add 8) w1 fun t22=>cond (decide (t22<(0:Int))) (K (⟨none,0,0⟩:Slc) w1) (ldI .i64 ((⟨w.heap.size,0,none⟩:Addr).add 9) w1 fun t27=>cond (decide (t27<(0:Int))) (K (⟨none,0,0⟩:Slc) w1) (ldI .i64 ((⟨w.heap.size,0,none⟩:Addr).add 10) w1 fun t32=>cond (decide (t32<(0:Int))) (K (⟨none,0,0⟩:Slc) w1) (J4 (()) w1))):=by
  intro hid;refine lI l8 (cO (fun h=>hno ?_) fun ha=>?_)
  ·rw [h];simp
  refine lI l9 (cO (fun h=>hno ?_) fun hb=>?_)
  ·rw [h];simp
  refine lI l10 (cO (fun h=>hno ?_) fun hc=>?_)
  ·rw [h];simp
  exact hJ4' hid (oFq ha) (oFq hb) (oFq hc)
 refine lI l8 (cO (fun h0=>?_) fun h0=>?_)
 ·have h0:k.Id=0:=by simpa using h0
  refine lI l9 (cO (fun h1=>hno ?_) fun h1=>?_)
  ·have h1:k.Number=0:=by simpa using h1
   rw [h0,h1];simp
  ·have h1:¬k.Number=0:=by simpa using h1
   exact tail fun hh=>h1 hh.2
 ·have h0:¬k.Id=0:=by simpa using h0
  exact tail fun hh=>h0 hh.1
end
end Go.Proofs.YtedcpbkcamckoaaGreatDoor
namespace Go.Proofs.YtedcpbkcamckoaaGreatDoor
open Go.Vc
def bitC (r:Nat):Nat:=if r%2=1 then (r/2) ^^^ 3988292384 else r/2
def halfT:List Nat:=[0x00000000,0x1DB71064,0x3B6E20C8,0x26D930AC,0x76DC4190,0x6B6B51F4,0x4DB26158,0x5005713C,0xEDB88320,0xF00F9344,0xD6D6A3E8,0xCB61B38C,0x9B64C2B0,0x86D3D2D4,0xA00AE278,0xBDBDF21C]
def nibC (v:Nat):Nat:=(v/16) ^^^ (halfT[v%16]?.getD 0)
def byteC (v:Nat) (x:UInt8):Nat:=nibC (nibC (v ^^^ x.toNat))
def crcS (v:Nat) (bs:List UInt8):Nat:=bs.foldl byteC v
def crcN (bs:List UInt8):Nat:=crcS 4294967295 bs ^^^ 4294967295
theorem zi1 (a b:Nat):(a ^^^ b)%2=(a%2+b%2)%2:=by
 have h:=Nat.testBit_xor (x:=a) (y:=b) (i:=0);simp only [Nat.testBit_zero] at h;rcases Nat.mod_two_eq_zero_or_one a with ha | ha<;>rcases Nat.mod_two_eq_zero_or_one b with hb | hb<;>rcases Nat.mod_two_eq_zero_or_one (a ^^^ b) with hc | hc<;>rw [ha,hb,hc] at h<;>rw [ha,hb,hc]<;>first | rfl | cases h
theorem ziq (a b:Nat):(a ^^^ b)/2=a/2 ^^^ b/2:=by
 have:=Nat.shiftRight_xor_distrib (a:=a) (b:=b) (i:=1);simpa [Nat.shiftRight_succ] using this
theorem qxv (a b:Nat):bitC (a ^^^ b)=bitC a ^^^ bitC b:=by
 unfold bitC;rw [zi1,ziq];rcases Nat.mod_two_eq_zero_or_one a with ha | ha<;>rcases Nat.mod_two_eq_zero_or_one b with hb | hb<;>simp [ha,hb]
 ·exact Nat.xor_assoc _ _ _
 ·rw [Nat.xor_assoc,Nat.xor_comm (b/2) 3988292384,Nat.xor_assoc]
 ·have:∀x y c:Nat,x ^^^ c ^^^ (y ^^^ c)=x ^^^ y:=fun x y c=>by
   rw [Nat.xor_assoc,Nat.xor_comm y c,<-Nat.xor_assoc c c y,Nat.xor_self,Nat.zero_xor]
  exact (this _ _ _).symm
theorem zjg (v:Nat):v=16*(v/16) ^^^ v%16:=by
 have h:2^4*(v/16)+v%16=2^4*(v/16) ||| v%16:=Nat.two_pow_add_eq_or_of_lt (by omega) _
 have e:16*(v/16) ^^^ v%16=2^4*(v/16) ||| v%16:=by
  refine Nat.eq_of_testBit_eq fun i=>?_;rw [Nat.testBit_xor,Nat.testBit_or];by_cases hi:i<4
  ·have:(16*(v/16)).testBit i=false:=by
    have:=Nat.testBit_two_pow_mul (i:=4) (a:=v/16) (j:=i);rw [show (2:Nat)^4=16 from rfl] at this;rw [this];simp;omega
   rw [show (2:Nat)^4=16 from rfl,this];simp
  ·have:(v%16).testBit i=false:=Nat.testBit_lt_two_pow (Nat.lt_of_lt_of_le (Nat.mod_lt _ (by decide)) (show 2^4<=2^i from Nat.pow_le_pow_right (by decide) (by omega)));rw [this];simp
 rw [e,<-h];omega
theorem zjd (q:Nat):bitC (bitC (bitC (bitC (16*q))))=q:=by
 unfold bitC;rw [if_neg (show ¬16*q%2=1 by omega),if_neg (show ¬16*q/2%2=1 by omega),if_neg (show ¬16*q/2/2%2=1 by omega),if_neg (show ¬16*q/2/2/2%2=1 by omega)];omega
theorem zhm:∀r:Nat,r<16->bitC (bitC (bitC (bitC r)))=halfT[r]?.getD 0:=by decide +kernel
theorem ziw (v:Nat):nibC v=bitC (bitC (bitC (bitC v))):=by
 conv=>rhs;rw [zjg v]
 rw [qxv,qxv,qxv,qxv,zjd,zhm _ (Nat.mod_lt _ (by decide))];rfl
theorem q1p {r:Nat} (h:r<2^32):bitC r<2^32:=by
 unfold bitC;split
 ·exact Nat.xor_lt_two_pow (by omega) (by decide)
 ·omega
theorem q5q {r:Nat} (h:r<2^32):nibC r<2^32:=by
 rw [ziw];exact q1p (q1p (q1p (q1p h)))
theorem zbs {v:Nat} (h:v<2^32) (x:UInt8):v ^^^ x.toNat<2^32:=Nat.xor_lt_two_pow h (by have:=x.toNat_lt;omega)
theorem zhz {v:Nat} (h:v<2^32) (x:UInt8):byteC v x<2^32:=q5q (q5q (zbs h x))
theorem q5k:∀(bs:List UInt8) {v:Nat},v<2^32->crcS v bs<2^32
 | [],_,h=>h
 | x::r,_,h=>q5k r (zhz h x)
def qqq (a b c:UInt8):UInt8 :=
 let p:Int:=(a.toNat:Int)+(b.toNat:Int)-(c.toNat:Int)
 let pa:=(p-(a.toNat:Int)).natAbs
 let pb:=(p-(b.toNat:Int)).natAbs
 let pc:=(p-(c.toNat:Int)).natAbs
 if pa<=pb/\pa<=pc then a else if pb<=pc then b else c
def zki (kind:Nat) (a b c:UInt8):UInt8 :=
 match kind with
 | 1=>a
 | 2=>b
 | 3=>UInt8.ofNat ((a.toNat+b.toNat)/2)
 | 4=>qqq a b c
 | _=>0
def prevP (l:List UInt8) (i step:Nat):UInt8:=if step<=i then l[i-step]?.getD 0 else 0
def gAt (kind:Nat) (l ahead:List UInt8) (step i:Nat):UInt8:=zki kind (prevP l i step) (ahead[i]?.getD 0) (prevP ahead i step)
def undoF (kind:Nat) (ahead:List UInt8) (step:Nat):List UInt8->List UInt8->List UInt8
 | [],out=>out
 | x::r,out=>undoF kind ahead step r (out++[x+gAt kind out ahead step out.length])
def undoP (kind:Nat) (row ahead:List UInt8) (step:Nat):List UInt8:=undoF kind ahead step row []
theorem qs9 (kind:Nat) (ahead:List UInt8) (step:Nat):∀(row out:List UInt8),(undoF kind ahead step row out).length=out.length+row.length
 | [],out=>rfl
 | x::r,out=>by rw [undoF,qs9];simp;omega
theorem qn0 (kind:Nat) (row ahead:List UInt8) (step:Nat):(undoP kind row ahead step).length=row.length:=by rw [undoP,qs9];simp
theorem q33 (kind:Nat) (ahead:List UInt8) (step:Nat):∀(row out:List UInt8),(undoF kind ahead step row out).take out.length=out
 | [],out=>by rw [undoF,List.take_length]
 | x::r,out=>by
  have h:=q33 kind ahead step r (out++[x+gAt kind out ahead step out.length]);rw [undoF];have h2:=congrArg (List.take out.length) h;rw [List.take_take] at h2;simpa using h2
theorem q1h (kind:Nat) (ahead:List UInt8) (step:Nat):∀(a b out:List UInt8),undoF kind ahead step (a++b) out=undoF kind ahead step b (undoF kind ahead step a out)
 | [],b,out=>rfl
 | x::r,b,out=>by rw [List.cons_append,undoF,q1h];rfl
theorem zdq (kind:Nat) (row ahead:List UInt8) (step i:Nat) {x:UInt8} (hx:row[i]?=some x) (hs:1<=step) :
  (undoP kind row ahead step).take (i+1)=(undoP kind row ahead step).take i++[x+gAt kind (undoP kind row ahead step) ahead step i]:=by
 have hi:i<row.length:=(List.getElem?_eq_some_iff.1 hx).1;have e:row=row.take i++x::row.drop (i+1):=by
  rw [List.getElem?_eq_getElem hi] at hx;rw [<-Option.some.inj hx,<-List.drop_eq_getElem_cons hi,List.take_append_drop]
 generalize ho:undoF kind ahead step (row.take i) []=o;have hol:o.length=i:=by rw [<-ho,qs9];simp;omega
 have e1:undoP kind row ahead step=undoF kind ahead step (row.drop (i+1)) (o++[x+gAt kind o ahead step i]):=by
  conv=>lhs;rw [undoP,e,q1h,ho,undoF,hol]
 have t1:(undoP kind row ahead step).take (i+1)=o++[x+gAt kind o ahead step i]:=by
  have:=q33 kind ahead step (row.drop (i+1)) (o++[x+gAt kind o ahead step i]);rw [<-e1,List.length_append,hol] at this;exact this
 have t0:(undoP kind row ahead step).take i=o:=by
  have:=congrArg (List.take i) t1;rw [List.take_take,Nat.min_eq_left (by omega),List.take_append_of_le_length (by omega),List.take_of_length_le (show o.length<=i by omega)] at this;exact this
 have hg:gAt kind (undoP kind row ahead step) ahead step i=gAt kind o ahead step i:=by
  unfold gAt prevP;congr 1;split
  ·rw [<-t0,List.getElem?_take_of_lt (by omega)]
  ·rfl
 rw [t1,t0,hg]
def qph (row:List UInt8) (d i:Nat):Nat :=
 if d=16 then (row[2*i]?.getD 0).toNat*256+(row[2*i+1]?.getD 0).toNat
 else (row[i*d/8]?.getD 0).toNat/2^(8-d-i*d%8)%2^d
def qfu (row:List UInt8) (d n:Nat):List Nat:=(List.range n).map (qph row d)
def qdj (d:Int):Bool:=decide (d=1) || decide (d=2) || decide (d=4) || decide (d=8) || decide (d=16)
def rowP (w samples d:Int):Nat:=if w<1\/w>16384\/samples<1\/samples>4\/qdj d=false then 0 else ((w*samples*d+7)/8).toNat
structure PassP where
 x:Nat
 y:Nat
 dx:Nat
 dy:Nat
def zbh:List PassP:=[⟨0,0,8,8⟩,⟨4,0,8,8⟩,⟨0,4,4,8⟩,⟨2,0,4,4⟩,⟨0,2,2,4⟩,⟨1,0,2,2⟩,⟨0,1,1,2⟩]
def zbq:List PassP:=[⟨0,0,1,1⟩]
def sizeP (p:PassP) (w h:Nat):Nat×Nat:=if p.x>=w\/p.y>=h then (0,0) else ((w-p.x-1)/p.dx+1,(h-p.y-1)/p.dy+1)
end Go.Proofs.YtedcpbkcamckoaaGreatDoor
namespace Go.Vc
open _root_.List (length_append)
open _root_.Nat (le_refl)
def cntK (ls:List UInt8) (k:Nat):Nat:=if k=0 then 0 else ls.countP fun x=>x.toNat==k
def qb4 (ls:List UInt8):Nat->Nat
 | 0=>0
 | k+1=>2*(qb4 ls k+cntK ls k)
def offK (ls:List UInt8):Nat->Nat
 | 0=>0
 | k+1=>offK ls k+cntK ls k
def symsK (ls:List UInt8) (k n:Nat):List Nat:=(List.range n).filter fun i=>k≠0/\(ls[i]?).map (·.toNat)=some k
def qbv (ls:List UInt8):Nat->List Nat
 | 0=>[]
 | k+1=>qbv ls k++symsK ls (k+1) ls.length
def codeK (ls:List UInt8) (k i:Nat):Nat:=qb4 ls k+cntK (ls.take i) k
def roomN (ls:List UInt8):Nat:=(ls.map fun x=>if 0<x.toNat/\x.toNat<=15 then 2^(15-x.toNat) else 0).sum
def lastK (ls:List UInt8):Nat:=ls.foldl (fun m x=>max m x.toNat) 0
theorem qo3 (k:Nat):cntK [] k=0:=by unfold cntK;split<;>rfl
theorem qzq (x:UInt8) (r:List UInt8) (k:Nat):cntK (x::r) k=cntK r k+(if k≠0/\x.toNat=k then 1 else 0):=by
 unfold cntK;by_cases hk:k=0
 ·simp [hk]
 ·rw [if_neg hk,if_neg hk,List.countP_cons];by_cases hx:x.toNat=k<;>simp [hk,hx]
theorem qvd (a b:List UInt8) (k:Nat):cntK (a++b) k=cntK a k+cntK b k:=by
 unfold cntK;split
 ·rfl
 ·rw [List.countP_append]
theorem qws (ls:List UInt8) (k:Nat):cntK ls k<=ls.length:=by
 unfold cntK;split
 ·exact Nat.zero_le _
 ·exact List.countP_le_length
theorem qgx (ls:List UInt8) (k:Nat):∀n,n<=ls.length->(symsK ls k n).length=cntK (ls.take n) k
 | 0,_=>by simp [symsK,qo3]
 | n+1,h=>by
  have ih:=qgx ls k n (by omega);have hx:ls[n]?=some ls[n]:=List.getElem?_eq_getElem (by omega);unfold symsK at *;rw [List.range_succ,List.filter_append,length_append,ih,List.take_add_one,hx,qvd];congr 1;show _=cntK [ls[n]] k;rw [qzq,qo3,Nat.zero_add];by_cases hk:k≠0/\ls[n].toNat=k
  ·simp [hx,hk.1,hk.2]
  ·rw [if_neg hk];simp [hx];intro h1;exact fun h2=>hk ⟨h1,h2⟩
theorem qxg (ls:List UInt8) (k n:Nat) {x:UInt8} (hx:ls[n]?=some x):symsK ls k (n+1)=if k≠0/\x.toNat=k then symsK ls k n++[n] else symsK ls k n:=by
 unfold symsK;rw [List.range_succ,List.filter_append];by_cases hk:k≠0/\x.toNat=k
 ·rw [if_pos hk];simp [hx,hk.1,hk.2]
 ·rw [if_neg hk];simp [hx];intro h1;exact fun h2=>hk ⟨h1,h2⟩
theorem qki (ls:List UInt8) (k n:Nat) {x:UInt8} (hx:ls[n]?=some x):cntK (ls.take (n+1)) k=if k≠0/\x.toNat=k then cntK (ls.take n) k+1 else cntK (ls.take n) k:=by
 rw [List.take_add_one,hx,qvd];show _+cntK [x] k=_;rw [qzq,qo3,Nat.zero_add];split<;>rfl
theorem q09 (ls:List UInt8) (k:Nat):∀n,n<=ls.length->∀j i,(symsK ls k n)[j]?=some i->k≠0/\i<n/\(∃x,ls[i]?=some x/\x.toNat=k)/\cntK (ls.take i) k=j
 | 0,_,j,i,hj=>by simp [symsK] at hj
 | n+1,h,j,i,hj=>by
  have hn:ls[n]?=some ls[n]:=List.getElem?_eq_getElem (by omega);have hlen:=qgx ls k n (by omega);rw [qxg ls k n hn] at hj;split at hj
  ·next hk =>
   rcases Nat.lt_or_ge j (symsK ls k n).length with hjl | hjl
   ·rw [List.getElem?_append_left hjl] at hj;obtain ⟨h0,h1,h2,h3⟩:=q09 ls k n (by omega) j i hj;exact ⟨h0,by omega,h2,h3⟩
   ·rw [List.getElem?_append_right hjl] at hj;have hz:j-(symsK ls k n).length=0:=by
     rcases Nat.eq_zero_or_pos (j-(symsK ls k n).length) with e | e
     ·exact e
     ·rw [List.getElem?_eq_none (by simp;omega)] at hj;cases hj
    rw [hz] at hj;cases hj;exact ⟨hk.1,by omega,⟨_,hn,hk.2⟩,by omega⟩
  ·obtain ⟨h0,h1,h2,h3⟩:=q09 ls k n (by omega) j i hj;exact ⟨h0,by omega,h2,h3⟩
theorem qj6 (ls:List UInt8):∀k,(qbv ls k).length=offK ls (k+1)
 | 0=>by simp [qbv,offK,cntK]
 | k+1=>by
  rw [qbv,length_append,qj6 ls k,qgx ls (k+1) ls.length (le_refl _),List.take_length];rfl
theorem q5c (ls:List UInt8) {j k:Nat} (h:j<=k):∃r,qbv ls k=qbv ls j++r:=by
 induction k with
 | zero =>
      have:j=0:=by omega
      subst this;exact ⟨[],by simp⟩
 | succ k ih =>
  rcases Nat.lt_or_ge j (k+1) with hj | hj
  ·obtain ⟨r,hr⟩:=ih (by omega);exact ⟨r++symsK ls (k+1) ls.length,by rw [qbv,hr,List.append_assoc]⟩
  ·have:j=k+1:=by omega
   subst this;exact ⟨[],by simp⟩
theorem q93 (ls:List UInt8) {k m j:Nat} (hk:1<=k) (hm:k<=m) (hj:j<cntK ls k):(qbv ls m)[offK ls k+j]?=(symsK ls k ls.length)[j]?:=by
 obtain ⟨r,hr⟩:=q5c ls hm;obtain ⟨k,rfl⟩:∃k',k=k'+1:=⟨k-1,by omega⟩;have hl:=qj6 ls k;have hs:=qgx ls (k+1) ls.length (le_refl _);rw [List.take_length] at hs;rw [hr,qbv,List.append_assoc,List.getElem?_append_right (by omega),hl,Nat.add_sub_cancel_left,List.getElem?_append_left (by omega)]
def dealt (ls:List UInt8):Nat->Nat
 | 0=>0
 | k+1=>dealt ls k+cntK ls (k+1)*2^(15-(k+1))
theorem q4d (x:UInt8) (r:List UInt8):∀k,k<=15->dealt (x::r) k=dealt r k+(if 0<x.toNat/\x.toNat<=k then 2^(15-x.toNat) else 0)
 | 0,_=>by simp only [dealt];rw [if_neg (by omega)]
 | k+1,h=>by
  rw [dealt,dealt,q4d x r k (by omega),qzq];by_cases h1:x.toNat=k+1
  ·rw [if_pos (by omega:k+1≠0/\x.toNat=k+1),if_pos (by omega:0<x.toNat/\x.toNat<=k+1),if_neg (by omega),h1,Nat.add_mul];omega
  ·rw [if_neg (by omega:¬(k+1≠0/\x.toNat=k+1)),Nat.add_zero];by_cases h2:0<x.toNat/\x.toNat<=k
   ·rw [if_pos h2,if_pos (by omega)];omega
   ·rw [if_neg h2,if_neg (by omega)];omega
theorem zb7 (ls:List UInt8):dealt ls 15=roomN ls:=by
 induction ls with
 | nil =>
  have:∀k,dealt [] k=0:=by
   intro k
   induction k with
   | zero=>rfl
   | succ k ih=>rw [dealt,ih,qo3];simp
  rw [this];rfl
 | cons x r ih=>rw [q4d x r 15 (le_refl _),ih,roomN,roomN,List.map_cons,List.sum_cons,Nat.add_comm]
theorem q2x (ls:List UInt8):∀k,k<=15->(qb4 ls k+cntK ls k)*2^(15-k)=dealt ls k
 | 0,_=>by simp [qb4,cntK,dealt]
 | k+1,h=>by
  have ih:=q2x ls k (by omega);rw [dealt,<-ih,qb4,Nat.add_mul];congr 1;rw [show 15-k=(15-(k+1))+1 by omega,Nat.pow_succ];rw [Nat.mul_comm 2,Nat.mul_assoc,Nat.mul_comm 2]
theorem zd9 (ls:List UInt8) {j k:Nat} (h:j<=k):dealt ls j<=dealt ls k:=by
 induction k with
 | zero =>
      have:j=0:=by omega
      subst this;exact le_refl _
 | succ k ih =>
  rcases Nat.lt_or_ge j (k+1) with hj | hj
  ·exact Nat.le_trans (ih (by omega)) (Nat.le_add_right _ _)
  ·have:j=k+1:=by omega
   subst this;exact le_refl _
theorem kraft {ls:List UInt8} (h:roomN ls<=32768) {k:Nat} (hk:k<=15):qb4 ls k+cntK ls k<=2^k:=by
 have h1:=q2x ls k hk;have h2:=zd9 ls hk;rw [zb7] at h2;have h3:(qb4 ls k+cntK ls k)*2^(15-k)<=2^k*2^(15-k):=by
  rw [h1,<-Nat.pow_add,show k+(15-k)=15 by omega];omega
 exact Nat.le_of_mul_le_mul_right h3 (Nat.pow_pos (by decide))
def msb (bs:List UInt8) (at_:Nat):Nat->Nat
 | 0=>0
 | k+1=>2*msb bs at_ k+peekN bs (at_+k) 1
theorem zf5 (bs:List UInt8) (at_ k:Nat):msb bs at_ k<2^k:=by
 induction k with
 | zero=>simp [msb]
 | succ k ih =>
  rw [msb,Nat.pow_succ];have:=qcx bs (at_+k) 1;omega
inductive RR where
 | sym (s k:Nat)
 | short
 | form
def qlm (ls:List UInt8) (bs:List UInt8) (at_:Nat):Nat->Nat->RR
 | 0,_=>.form
 | n+1,k =>
  if lastK ls<k then .form
  else if min 15 (8*bs.length-at_)<k then .short
  else if msb bs at_ k<qb4 ls k+cntK ls k then .sym ((qbv ls 15).getD (offK ls k+(msb bs at_ k-qb4 ls k)) 0) k
  else qlm ls bs at_ n (k+1)
def readT (ls bs:List UInt8) (at_:Nat):RR:=qlm ls bs at_ 16 1
theorem q9a (a:List UInt8) (x:UInt8):lastK (a++[x])=max (lastK a) x.toNat:=by simp [lastK]
theorem q8e {ls:List UInt8} {m:Nat} (h:∀x∈ls,x.toNat<=m):lastK ls<=m:=by
 unfold lastK
 suffices H:∀(l:List UInt8) (a:Nat),a<=m->(∀x∈l,x.toNat<=m)->l.foldl (fun m x=>max m x.toNat) a<=m from H ls 0 (Nat.zero_le _) h
 intro l
 induction l with
 | nil=>intro a ha _;exact ha
 | cons x r ih =>
  intro a ha hr;refine ih _ ?_ fun y hy=>hr y (by simp [hy]);have:=hr x (by simp);show max a x.toNat<=m;omega
def revN:Nat->Nat->Nat
 | _,0=>0
 | v,n+1=>2*revN v n+v/2^n%2
structure Cfg where
 mode:Nat
 last:Bool
 left:Nat
 sg:List UInt8
 ds:List UInt8
 hist:List UInt8
inductive SR where
 | next (c:Cfg) (at_:Nat)
 | short
 | err (e:Nat)
def qeu:List UInt8:=List.replicate 144 8++List.replicate 112 9++List.replicate 24 7++List.replicate 8 8
def fiveL:List UInt8:=List.replicate 32 5
def qvx:List Nat:=[16,17,18,0,8,7,9,6,10,5,11,4,12,3,13,2,14,1,15]
def up8 (n:Nat):Nat:=(n+7)/8*8
def Cfg.behind (c:Cfg):Cfg:={ c with mode:=if c.last then 5 else 0 }
def qfm (s:Nat):Nat×Nat:=if s=285 then (258,0) else if s-257<8 then (3+(s-257),0) else (3+(4+(s-257)%4)*2^((s-257)/4-1),(s-257)/4-1)
def qdh (s:Nat):Nat×Nat:=if s<4 then (1+s,0) else (1+(2+s%2)*2^(s/2-1),s/2-1)
def copyN (most far:Nat):Nat->List UInt8->Option (List UInt8)
 | 0,h=>some h
 | n+1,h=>if most<=h.length then none else copyN most far n (h++[h.getD (h.length-far) 0])
def qi5 (bs:List UInt8) (at_:Nat) (c:Cfg):SR :=
 if 8*bs.length<at_+3 then .short
 else
  let v:=peekN bs at_ 3
  let c:={ c with last:=v%2==1 }
  if v/2=0 then .next { c with mode:=1 } (at_+3)
  else if v/2=1 then .next { c with mode:=4,sg:=qeu,ds:=fiveL } (at_+3)
  else if v/2=2 then .next { c with mode:=3 } (at_+3)
  else .err 3
def qf8 (bs:List UInt8) (at_:Nat) (c:Cfg):SR :=
 if 8*bs.length<up8 at_+32 then .short
 else if peekN bs (up8 at_) 16 ^^^ peekN bs (up8 at_+16) 16≠65535 then .err 3
 else .next { c with mode:=2,left:=peekN bs (up8 at_) 16 } (up8 at_+32)
def qhh (most:Nat) (bs:List UInt8) (at_:Nat) (c:Cfg):SR :=
 if c.left=0 then .next c.behind at_
 else if 8*bs.length<at_+8 then .short
 else if most<=c.hist.length then .err 5
 else .next { c with left:=c.left-1,hist:=c.hist++[UInt8.ofNat (peekN bs at_ 8)] } (at_+8)
def ql2 (most:Nat) (bs:List UInt8) (at_:Nat) (c:Cfg):SR :=
 match readT c.sg bs at_ with
 | .short=>.short
 | .form=>.err 3
 | .sym y k =>
  if y=256 then .next c.behind (at_+k)
  else if 285<y then .err 3
  else if y<256 then (if most<=c.hist.length then .err 5 else .next { c with hist:=c.hist++[UInt8.ofNat y] } (at_+k))
  else
   let (b,n):=qfm y
   if 8*bs.length<at_+k+n then .short
   else
    let m:=b+peekN bs (at_+k) n
    match readT c.ds bs (at_+k+n) with
    | .short=>.short
    | .form=>.err 3
    | .sym z j =>
     if 29<z then .err 3
     else
      let (b2,n2):=qdh z
      if 8*bs.length<at_+k+n+j+n2 then .short
      else
       let far:=b2+peekN bs (at_+k+n+j) n2
       if min c.hist.length 32768<far then .err 3
       else match copyN most far m c.hist with
        | none=>.err 5
        | some h=>.next { c with hist:=h } (at_+k+n+j+n2)
inductive LR where
 | lens (l:List UInt8) (at_:Nat)
 | short
 | form
def qei (t bs:List UInt8) (n:Nat):Nat->Nat->List UInt8->LR
 | 0,_,_=>.form
 | f+1,at_,l =>
  if n<=l.length then .lens l at_
  else match readT t bs at_ with
   | .short=>.short
   | .form=>.form
   | .sym y k =>
    if y=16/\l=[] then .form
    else
     let (b,m,v):Nat×Nat×UInt8:=if y=18 then (11,7,0) else if y=17 then (3,3,0) else if y=16 then (3,2,l.getLastD 0) else (1,0,UInt8.ofNat y)
     if 8*bs.length<at_+k+m then .short
     else if n<l.length+b+peekN bs (at_+k) m then .form
     else qei t bs n f (at_+k+m) (l++List.replicate (b+peekN bs (at_+k) m) v)
def clens (bs:List UInt8) (at_:Nat):Nat->List UInt8
 | 0=>List.replicate 19 0
 | i+1=>(clens bs at_ i).set (qvx.getD i 0) (UInt8.ofNat (peekN bs (at_+3*i) 3))
def qjh (ls:List UInt8):Prop:=(ls.length>320\/∃x∈ls,15<x.toNat)\/¬(roomN ls=32768\/roomN ls=0\/(roomN ls=16384/\cntK ls 1=1))
instance (ls:List UInt8):Decidable (qjh ls):=by unfold qjh;infer_instance
def qo7 (bs:List UInt8) (at_:Nat) (c:Cfg):SR :=
 if 8*bs.length<at_+14 then .short
 else
  let a:=peekN bs at_ 5
  let b:=peekN bs (at_+5) 5
  let d:=peekN bs (at_+10) 4
  if 29<a\/29<b then .err 3
  else if 8*bs.length<at_+14+3*(d+4) then .short
  else
   let cl:=clens bs (at_+14) (d+4)
   if qjh cl then .err 3
   else match qei cl bs (a+257+b+1) 400 (at_+14+3*(d+4)) [] with
    | .short=>.short
    | .form=>.err 3
    | .lens l at2 =>
     if qjh (l.take (a+257))\/qjh (l.drop (a+257))\/(l.getD 256 0)=0 then .err 3
     else .next { c with mode:=4,sg:=l.take (a+257),ds:=l.drop (a+257) } at2
def stepN (most:Nat) (bs:List UInt8) (at_:Nat) (c:Cfg):SR :=
 if c.mode=0 then qi5 bs at_ c
 else if c.mode=1 then qf8 bs at_ c
 else if c.mode=2 then qhh most bs at_ c
 else if c.mode=3 then qo7 bs at_ c
 else ql2 most bs at_ c
def step1 (most:Nat) (bs:List UInt8) (at_:Nat) (c:Cfg):SR:=if c.mode=5 then .short else stepN most bs at_ c
def q0z (p:List UInt8×Nat) (c:UInt8):List UInt8×Nat:=(if p.1.length<32768 then p.1++[c] else p.1.set (p.2%32768) c,p.2+1)
def qd0 (h:List UInt8):List UInt8:=(h.foldl q0z ([],0)).1
theorem zee (h:List UInt8):∀p,(h.foldl q0z p).2=p.2+h.length:=by
 induction h with
 | nil=>intro p;rfl
 | cons x r ih=>intro p;rw [List.foldl_cons,ih,List.length_cons];simp only [q0z];omega
theorem qpp (h:List UInt8) (c:UInt8):qd0 (h++[c])=if (qd0 h).length<32768 then qd0 h++[c] else (qd0 h).set (h.length%32768) c:=by
 unfold qd0;rw [List.foldl_append];have:=zee h ([],0);simp only [Nat.zero_add] at this;show (q0z _ c).1=_;simp only [q0z,this]
theorem q61 {α:Type} (P:List α->Prop) (h0:P []) (h1:∀l a,P l->P (l++[a])) (l:List α):P l:=by
 have:∀r:List α,P r.reverse:=by
  intro r
  induction r with
  | nil=>exact h0
  | cons a r ih=>rw [List.reverse_cons];exact h1 _ _ ih
 have:=this l.reverse
 rwa [List.reverse_reverse] at this
theorem qrg (h:List UInt8):(qd0 h).length=min h.length 32768:=by
 refine q61 (fun h=>(qd0 h).length=min h.length 32768) rfl (fun l a ih=>?_) h;rw [qpp,length_append,List.length_singleton];split
 ·rw [length_append,List.length_singleton];omega
 ·rw [List.length_set];omega
theorem zb9 (h:List UInt8):∀j,j<h.length->h.length<=j+32768->(qd0 h)[j%32768]?=h[j]?:=by
 refine q61 (fun h=>∀j,j<h.length->h.length<=j+32768->(qd0 h)[j%32768]?=h[j]?) (fun j hj=>by simp at hj) (fun l a ih=>?_) h;intro j hj hw;have hl:=qrg l;rw [length_append,List.length_singleton] at hj hw;rw [qpp];by_cases hjl:j<l.length
 ·have ih:=ih j hjl (by omega);rw [List.getElem?_append_left hjl,<-ih];split
  ·rw [List.getElem?_append_left];have:=(List.getElem?_eq_some_iff.1 (ih.trans (List.getElem?_eq_getElem hjl))).1;exact this
  ·rw [List.getElem?_set_ne];omega
 ·have:j=l.length:=by omega
  subst this;rw [List.getElem?_append_right (le_refl _),Nat.sub_self];split
  ·rw [Nat.mod_eq_of_lt (by omega),List.getElem?_append_right (by omega)];have:l.length-(qd0 l).length=0:=by omega
   rw [this]
  ·rw [List.getElem?_set_self (by omega)];rfl
end Go.Vc
namespace Go.Proofs.YtedcpbkcamckoaaGreatDoor
open Go.Vc Go.RowKit
open IntKind (i64 u32 u64)
open _root_.List (length_replicate take_length)
open _root_.Nat (le_refl le_trans lt_or_ge mul_comm pow_le_pow_right pow_succ zero_le)
structure RdrM (w:World) (g:Nat) (s:Slc) (bs:List UInt8) (at_:Nat):Prop where
 blk:Blk w g qpf [.slice s.a s.n s.c,.int .i64 at_]
 rd:Rd qae w s bs
 le:at_<=8*bs.length
 sm:bs.length<=1000000000000
 ne:∀k,s.blk=some k->k≠g
section
variable {w w':World} {g:Nat} {s:Slc} {bs:List UInt8} {at_:Nat}
theorem RdrM.chg {T:Nat->Prop} (h:RdrM w g s bs at_) (hc:Chg T w w') (hg:¬T g) (hs:∀k,s.blk=some k->¬T k):RdrM w' g s bs at_ :=
 ⟨h.blk.chg hc hg,h.rd.chg hc fun a ha=>hs _ (slk.2 ⟨a,ha,rfl⟩),h.le,h.sm,h.ne⟩
theorem RdrM.ext (h:RdrM w g s bs at_) (hb:Below w.heap.size w w'):RdrM w' g s bs at_:=h.chg (Chg.of_ext (S:=fun _=>False) hb) id fun _ _=>id
theorem RdrM.drew (h:RdrM w g s bs at_):RdrM w.drew g s bs at_:=h.ext ((Below.refl _ w).drew)
theorem RdrM.move {b:Nat} (h:RdrM w g s bs at_) (hb:Blk w' g qpf [.slice s.a s.n s.c,.int .i64 b]) (hg:w.grownBy w' (some g)) (hl:b<=8*bs.length):RdrM w' g s bs b :=
 ⟨hb,h.rd.chg (Chg.gg hg) fun a ha=>h.ne _ (slk.2 ⟨a,ha,rfl⟩),hl,h.sm,h.ne⟩
theorem tmod8 (n:Nat):((n:Nat):Int).tmod 8=((n%8:Nat):Int):=IntWalk.up_tmod rfl rfl
theorem tdiv8 (n:Nat):((n:Nat):Int).tdiv 8=((n/8:Nat):Int):=IntWalk.up_tdiv rfl rfl
theorem and7 (x:Int):bitsR .and .i64 x 7=x%8:=by
 have h7:(BitVec.ofInt 64 (7:Int)).toNat=2^3-1:=by decide
 show i64.wrap ((BitVec.ofInt 64 x &&& BitVec.ofInt 64 (7:Int)).toNat:Int)=_;rw [BitVec.toNat_and,h7,Nat.and_two_pow_sub_one_eq_mod,BitVec.toNat_ofInt];rw [w64i (by omega)];omega
theorem q6h {K:Int->World->Prop} (h:RdrM w g s bs at_) (hK:K ((8*bs.length-at_:Nat):Int) w.drew):qgk (some ⟨g,0,none⟩) w K:=by
 refine qww _ ?_;unfold qou;simp only [onPtr_some];refine lSl (x:=s) (h.drew.blk.cells 0 _ rfl) ?_;refine lI (x:=(at_:Int)) (h.drew.blk.cells 1 _ rfl) ?_;have h1:=h.le;have h2:=h.sm;rw [h.rd.n,w64i (x:=8*((bs.length:Nat):Int)) (by omega),w64i (by omega)];have e:8*((bs.length:Nat):Int)-at_=((8*bs.length-at_:Nat):Int):=by omega
 rw [e];exact hK
theorem q6z {n:Int} {K:Int->Bool->World->Prop} (h:RdrM w g s bs at_)
  (hK1:∀(m:Nat) w',n=m->m<=32->at_+m<=8*bs.length->Below w.heap.size w w'->K ((peekN bs at_ m:Nat):Int) true w')
  (hK2:∀w',(n<0\/n>32\/(at_:Int)+n>8*bs.length)->Below w.heap.size w w'->K 0 false w'):qgi (some ⟨g,0,none⟩) n w K:=by
 refine qwl _ _ ?_;unfold qoj;have h1:=h.le;have h2:=h.sm;refine jpO fun J hJ=>?_;refine cO (fun c=>hK2 _ (.inl (oTq c)) (Below.refl _ _)) (fun c1=>?_);refine cO (fun c=>hK2 _ (.inr (.inl (oTq c))) (Below.refl _ _)) (fun c2=>?_);refine q6h h ?_;have hBd:Below w.heap.size w w.drew:=(Below.refl _ w).drew;refine cO (fun c=>hK2 _ (.inr (.inr (by have:=oTq c;omega))) hBd) (fun c3=>hJ _ _ ?_);have c1:=oFq c1;have c2:=oFq c2;have c3:=oFq c3;obtain ⟨m,rfl⟩:∃m:Nat,n=m:=⟨n.toNat,by omega⟩;clear hJ hK2;simp only [onPtr_some];refine lI (x:=(at_:Int)) (h.drew.blk.cells 1 _ rfl) ⟨by decide,by decide,?_⟩;have hcnt:i64.wrap ((i64.wrap ((i64.wrap (((at_%8:Nat):Int)+m))+7)).tdiv 8)=(((at_%8+m+7)/8:Nat):Int):=by
  rw [w64i (x:=((at_%8:Nat):Int)+m) (by omega),w64i (x:=((at_%8:Nat):Int)+m+7) (by omega)];have e:((at_%8:Nat):Int)+m+7=((at_%8+m+7:Nat):Int):=by omega
  rw [e,tdiv8,w64i (by omega)]
 obtain ⟨cnt,hcn⟩:∃c:Nat,(at_%8+m+7)/8=c:=⟨_,rfl⟩;rw [hcn] at hcnt;simp only [tmod8,hcnt];have hc5:cnt<=5:=by omega
 refine lpR (fun (s:Int×Int×Unit) w2=>∃i:Nat,s.2.1=i/\i<=cnt/\s.1=((le ((bs.drop (at_/8)).take i):Nat):Int)/\Below w.heap.size w w2) (fun s=>cnt-s.2.1.toNat) ⟨0,rfl,by omega,rfl,hBd⟩ ?_;rintro ⟨v,i,_⟩ w2 ⟨i,rfl,hi,rfl,hB⟩ I hI;dsimp only at *;have hr2:=h.ext hB;refine cO (fun hlt=>?_) (fun hge=>?_)
 ·have hlt:=oTq hlt;refine lSl (x:=s) (hr2.drew.blk.cells 0 _ rfl) ?_;refine lI (x:=(at_:Int)) (hr2.drew.blk.cells 1 _ rfl) ⟨by decide,?_⟩;rw [tdiv8,w64i (x:=((at_/8:Nat):Int)) (by omega),w64i (x:=((at_/8:Nat):Int)+i) (by omega)];have hlt':at_/8+i<bs.length:=by omega
  have e:((at_/8:Nat):Int)+i=((at_/8+i:Nat):Int):=by omega
  rw [e];refine hr2.rd.drew.ix rfl (by omega) (by omega) fun hc=>?_;refine ldB8 (b:=bs[at_/8+i]) hc ?_;rw [w64i (x:=8*(i:Int)) (by omega),w64i (by omega)];refine ⟨by omega,hI _ _ ⟨i+1,by simp,by omega,?_,hB.drew⟩ (by simp;omega)⟩;have ht:(bs.drop (at_/8)).take (i+1)=(bs.drop (at_/8)).take i++[bs[at_/8+i]]:=by
   rw [List.take_add_one,List.getElem?_drop,List.getElem?_eq_getElem hlt'];rfl
  have hlen:((bs.drop (at_/8)).take i).length=i:=by simp;omega
  have hlt8:=bs[at_/8+i].toNat_lt;have hv:=le_lt ((bs.drop (at_/8)).take i);rw [hlen,qwh] at hv;have hp:2^(8*i)<=2^32:=pow_le_pow_right (by decide) (by omega);have hp':bs[at_/8+i].toNat*2^(8*i)<=255*2^32:=Nat.mul_le_mul (by omega) hp;have e2:(8*(i:Int)).toNat=8*i:=by omega
  have e3:min (8*i) u64.bits=8*i:=Nat.min_eq_left (by show 8*i<=64;omega);dsimp only;rw [e2,e3,qax .u64 (x:=bs[at_/8+i].toNat) (by show _<2^64;omega),qbk,qax .u64 (by show _<2^64;omega),qd3 .u64 (by show _<2^64;omega) (by show _<2^64;omega)];rw [ht,q67,hlen,qwh,mul_comm _ (2^(8*i)),qg8 hv];show _=((_+2^(8*i)*(bs[at_/8+i].toNat+256*0):Nat):Int);rfl
 ·have hge:=oFq hge;have:i=cnt:=by omega
  subst this;refine ⟨by omega,by omega,?_⟩;have hlen:((bs.drop (at_/8)).take i).length<=i:=by simp;omega
  have hv:=le_lt ((bs.drop (at_/8)).take i);have hv':le ((bs.drop (at_/8)).take i)<2^40:=Nat.lt_of_lt_of_le hv (by rw [qwh];exact pow_le_pow_right (by decide) (by omega));have e2:(((at_%8:Nat):Int)).toNat=at_%8:=rfl
  have e3:min (at_%8) u64.bits=at_%8:=Nat.min_eq_left (by show at_%8<=64;omega)
  have e4:min ((m:Int)).toNat u64.bits=m:=by show min m 64=m;omega
  have hm:2^m<=2^32:=pow_le_pow_right (by decide) (by omega);have hm0:0<2^m:=Nat.pow_pos (by decide);have e5:u64.wrap ((u64.wrap ((1:Int)*2^m))-1)=((2^m-1:Nat):Int):=by
   have:=qbk 1 m;rw [show ((1:Int)*2^m)=((2^m:Nat):Int) by simp,qax .u64 (by show _<2^64;omega)];have e:((2^m:Nat):Int)-1=((2^m-1:Nat):Int):=by omega
   rw [e,qax .u64 (by show _<2^64;omega)]
  rw [e2,e3,e4,e5,qft];have hd:le ((bs.drop (at_/8)).take i)/2^(at_%8)<2^64:=Nat.lt_of_le_of_lt (Nat.div_le_self _ _) (by omega);rw [qgr .u64 hd (by show _<2^64;omega),Nat.and_two_pow_sub_one_eq_mod];have hb:=q95 bs at_ m i (by omega) (by omega)
  rw [<-hb];have hpl:=qcx bs at_ m
  rw [qax .u32 (by show _<2^32;omega)];exact hK1 m _ rfl (by omega) (by omega) hB.drew
theorem qz4 {n:Int} {K:Int->Bool->World->Prop} (h:RdrM w g s bs at_)
  (hK1:∀(m:Nat) w',n=m->m<=32->at_+m<=8*bs.length->RdrM w' g s bs (at_+m)->Chg (fun k=>k=g) w w'->K ((peekN bs at_ m:Nat):Int) true w')
  (hK2:∀w',(n<0\/n>32\/(at_:Int)+n>8*bs.length)->Below w.heap.size w w'->K 0 false w'):qa6 (some ⟨g,0,none⟩) n w K:=by
 refine qv3 _ _ ?_;unfold qop;refine q6z h (fun m w1 e hm hl hB=>?_) (fun w1 hn hB=>?_)
 ·subst e;refine jpO fun J hJ=>?_;refine cT rfl ?_;simp only [onPtr_some];have h1:=h.ext hB;have h2:=h.sm;refine lI (x:=(at_:Int)) (h1.blk.cells 1 _ rfl) ?_;rw [qas,w64i (by omega)];refine qaj h1.blk (by simp) fun w2 hb2 hg2 hs2=>hJ _ _ ?_;have e:((at_:Nat):Int)+m=((at_+m:Nat):Int):=by omega
  rw [e] at hb2;exact hK1 m w2 rfl hm hl (h1.move hb2 hg2 hl) ((Chg.of_ext (S:=fun k=>k=g) hB).trans (Chg.gg hg2) fun i _ hi=>hi)
 ·refine jpO fun J hJ=>?_;exact cF rfl (hJ _ _ (hK2 w1 hn hB))
theorem qsg {K:Int->World->Prop} (h:RdrM w g s bs at_) (hK:K at_ w):qbl (some ⟨g,0,none⟩) w K:=by
 refine qzm _ ?_;unfold qru;simp only [onPtr_some];exact lI (x:=(at_:Int)) (h.blk.cells 1 _ rfl) hK
theorem zgc {b:Nat} {K:World->Prop} (h:RdrM w g s bs at_) (hb:b<=at_) (hK:∀w',RdrM w' g s bs b->Chg (fun k=>k=g) w w'->K w'):qf9 (some ⟨g,0,none⟩) b w K:=by
 refine qmr _ _ ?_;unfold qit;simp only [onPtr_some];refine lI (x:=(at_:Int)) (h.blk.cells 1 _ rfl) ?_;have e:(if (at_:Int)<(if (0:Int)>(b:Int) then (0:Int) else (b:Int)) then (at_:Int) else (if (0:Int)>(b:Int) then (0:Int) else (b:Int)))=(b:Int):=by
  rw [if_neg (show ¬(0:Int)>(b:Int) by omega),if_neg (by omega)]
 rw [e,qas];refine qaj h.blk (by simp) fun w2 hb2 hg2 hs2=>?_;exact hK w2 (h.move hb2 hg2 (le_trans hb h.le)) (Chg.gg hg2)
theorem zct {K:Int->World->Prop} (h:RdrM w g s bs at_) (hK:∀v w',RdrM w' g s bs (up8 at_)->Chg (fun k=>k=g) w w'->K v w'):qiw (some ⟨g,0,none⟩) w K:=by
 refine quu _ ?_;unfold qm6;simp only [onPtr_some,and7];have h1:=h.le;have h2:=h.sm;refine lI (x:=(at_:Int)) (h.blk.cells 1 _ rfl) ?_;refine lI (x:=(at_:Int)) (h.blk.cells 1 _ rfl) ?_;have e:i64.wrap ((at_:Int)+(i64.wrap (0-(at_:Int)))%8)=((up8 at_:Nat):Int):=by
  unfold up8;rw [w64i (x:=0-(at_:Int)) (by omega),w64i (by omega)];omega
 rw [e,qas];refine qaj h.blk (by simp) fun w2 hb2 hg2 hs2=>?_;exact hK _ w2 (h.move hb2 hg2 (by unfold up8;omega)) (Chg.gg hg2)
theorem qv1 {b:Slc} {K:Option Addr->World->Prop} (h:Rd qae w b bs) (hl:bs.length<=900000000000) (hK:∀g s w',w.heap.size<=g->(∀k,s.blk=some k->w.heap.size<=k/\k<w'.heap.size)->RdrM w' g s bs 0->Below w.heap.size w w'->K (some ⟨g,0,none⟩) w'):qh3 b w K:=by
 refine qzo _ ?_;unfold qry;refine qgp h hl fun r w1 ho hB=>?_;refine nwb fun w2 hb2 hB2 hs2=>?_;refine hK _ r w2 hB.size (fun k hk=>by have:=ho.lt k hk;omega) ⟨hb2,(ho.ext hB2).rd,by omega,by omega,fun k hk e=>?_⟩ (hB.trans (hB2.mono hB.size));have:=(ho.lt k hk).2;omega
end
theorem zjk (v n:Nat):revN v n<2^n:=by
 induction n with
 | zero=>simp [revN]
 | succ n ih=>rw [revN,pow_succ];omega
theorem zf0 (a b:Nat) (hb:b<2):2*a ||| b=2*a+b:=by
 have:=@qg8 a b 1 (by omega);rw [Nat.pow_one] at this;rw [Nat.or_comm,this,Nat.add_comm]
theorem q5o (a:Nat):a &&& 1=a%2:=Nat.and_two_pow_sub_one_eq_mod a 1
theorem q8s {v n:Nat} {w:World} {K:Int->World->Prop} (hv:v<2^32) (hn:n<=32) (hK:K ((revN v n:Nat):Int) w):qo8 v n w K:=by
 refine q1t _ _ ?_;unfold qun;refine jpO fun J hJ=>?_;refine cF (by simp) (cF (by simp;omega) (hJ _ _ ?_));refine lpR (fun (s:Int×Int×Int×Unit) w2=>∃i:Nat,s.2.2.1=i/\i<=n/\s.1=((v/2^i:Nat):Int)/\s.2.1=((revN v i:Nat):Int)/\w2=w) (fun s=>n-s.2.2.1.toNat) ⟨0,rfl,by omega,by simp,rfl,rfl⟩ ?_;rintro ⟨x,r,i,_⟩ w2 ⟨i,rfl,hi,rfl,rfl,rfl⟩ I hI;dsimp only at *;refine cO (fun hlt=>?_) (fun hge=>?_)
 ·have hlt:=oTq hlt;refine ⟨by decide,by decide,hI _ _ ⟨i+1,?_,by omega,?_,?_,rfl⟩ ?_⟩
  ·dsimp only;rw [w64i (by omega)];rfl
  ·dsimp only;rw [show min ((1:Int)).toNat u32.bits=1 by decide,qft,Nat.div_div_eq_div_mul,<-pow_succ]
  ·have hr:=zjk v i;have hp:2^i*2<=2^32:=by rw [<-pow_succ];exact pow_le_pow_right (by decide) (by omega)
   have hd:v/2^i<2^32:=Nat.lt_of_le_of_lt (Nat.div_le_self _ _) hv;dsimp only;rw [show min ((1:Int)).toNat u32.bits=1 by decide,qbk,qax .u32 (by show _<2^32;omega)];have e1:bitsR .and .u32 ((v/2^i:Nat):Int) 1=((v/2^i%2:Nat):Int):=by
    rw [show (1:Int)=((1:Nat):Int) from rfl,qgr .u32 hd (by decide),q5o]
   rw [e1,qd3 .u32 (by show _<2^32;omega) (by show _<2^32;omega),Nat.pow_one,mul_comm,zf0 _ _ (by omega)];rfl
  ·dsimp only;rw [w64i (by omega)];omega
 ·have hge:=oFq hge;have:i=n:=by omega
  subst this;exact hK
theorem q8o (a b:List UInt8):roomN (a++b)=roomN a+roomN b:=by simp [roomN]
theorem q84 (ls:List UInt8):roomN ls<=ls.length*16384:=by
 induction ls with
 | nil=>simp [roomN]
 | cons x r ih =>
  have e:roomN (x::r)=(if 0<x.toNat/\x.toNat<=15 then 2^(15-x.toNat) else 0)+roomN r:=by simp [roomN]
  rw [e,List.length_cons];have:(if 0<x.toNat/\x.toNat<=15 then 2^(15-x.toNat) else 0)<=16384:=by
   split
   ·exact le_trans (pow_le_pow_right (by decide) (by omega:15-x.toNat<=14)) (by decide)
   ·omega
  omega
theorem zel {s:Slc} {ls:List UInt8} {w:World} {K:Int->World->Prop} (h:Rd qae w s ls) (hl:ls.length<=100000) (hK:K ((roomN ls:Nat):Int) w):qig s w K:=by
 refine q5x _ ?_;unfold q0h;rw [h.n];refine lpR (fun (s:Int×Int×Unit) w2=>∃i:Nat,s.2.1=i/\i<=ls.length/\s.1=((roomN (ls.take i):Nat):Int)/\w2=w) (fun s=>ls.length-s.2.1.toNat) ⟨0,rfl,by omega,rfl,rfl⟩ ?_;rintro ⟨x,i,_⟩ w2 ⟨i,rfl,hi,rfl,rfl⟩ I hI;dsimp only at *;refine cO (fun hlt=>?_) (fun hge=>?_)
 ·have hlt:=oTq hlt;obtain ⟨b,hb,hbs⟩:=qcw (xs:=ls) (k:=i) (by omega);refine h.ix rfl (by omega) (by omega) fun hc=>?_;rw [hbs] at hc;refine ldB8 (b:=b) hc ?_;have h8:=b.toNat_lt;have hr:=q84 (ls.take i);have hlen:(ls.take i).length<=ls.length:=by simp;omega
  have ht:roomN (ls.take (i+1))=roomN (ls.take i)+(if 0<b.toNat/\b.toNat<=15 then 2^(15-b.toNat) else 0):=by
   rw [List.take_add_one,hb,q8o];simp [roomN]
  refine jpO fun J hJ=>?_;have next:∀v:Int,v=((roomN (ls.take (i+1)):Nat):Int)->I (v,i64.wrap ((i:Int)+1),()) w2:=fun v hv=>by
   subst hv;rw [w64i (by omega)];exact hI _ _ ⟨i+1,by simp,by omega,rfl,rfl⟩ (by simp;omega)
  by_cases hc0:0<b.toNat/\b.toNat<=15
  ·refine cT (by simp;omega) (hJ _ _ (cT (by simp;omega) ⟨by omega,next _ ?_⟩));rw [ht,if_pos hc0];have e:min ((b.toNat:Nat):Int).toNat i64.bits=b.toNat:=by show min b.toNat 64=_;omega
   rw [e,show (32768:Int)=((32768:Nat):Int) from rfl,qft];have e2:32768/2^b.toNat=2^(15-b.toNat):=by
    rw [show 32768=2^15 by decide,Nat.pow_div hc0.2 (by decide)]
   have hp:2^(15-b.toNat)<=2^15:=pow_le_pow_right (by decide) (by omega);rw [e2];generalize 2^(15-b.toNat)=p at *;rw [w64i (by omega)];rfl
  ·have key:J (false,()) w2:=hJ _ _ (cF rfl (next _ (by rw [ht,if_neg hc0];rfl)));refine cO (fun h1=>?_) (fun _=>key);have h1:=oTq h1;rw [dFq (by omega)];exact key
 ·have hge:=oFq hge;have:i=ls.length:=by omega
  subst this;rw [take_length];exact hK
def qdz (f:Nat->Nat) (so co lo:Slc) (last:Nat):List Value :=
 [.int .i64 (f 0),.int .i64 (f 1),.int .i64 (f 2),.int .i64 (f 3),.int .i64 (f 4),.int .i64 (f 5),.int .i64 (f 6),.int .i64 (f 7),.int .i64 (f 8),.int .i64 (f 9),.int .i64 (f 10),.int .i64 (f 11),.int .i64 (f 12),.int .i64 (f 13),.int .i64 (f 14),.int .i64 (f 15),
  .slice so.a so.n so.c,.slice co.a co.n co.c,.slice lo.a lo.n lo.c,.int .i64 last]
theorem zbu (f:Nat->Nat) (so co lo:Slc) (last k:Nat) (hk:k<16):(qdz f so co lo last)[k]?=some (.int .i64 (f k)):=by
 match k,hk with
 | 0,_ | 1,_ | 2,_ | 3,_ | 4,_ | 5,_ | 6,_ | 7,_ | 8,_ | 9,_ | 10,_ | 11,_ | 12,_ | 13,_ | 14,_ | 15,_=>rfl
 | k+16,h=>omega
theorem zjz (f:Nat->Nat) (so co lo:Slc) (last k v:Nat) (hk:k<16):putL (qdz f so co lo last) k [.int .i64 v]=qdz (fun j=>if j=k then v else f j) so co lo last:=by
 match k,hk with
 | 0,_ | 1,_ | 2,_ | 3,_ | 4,_ | 5,_ | 6,_ | 7,_ | 8,_ | 9,_ | 10,_ | 11,_ | 12,_ | 13,_ | 14,_ | 15,_=>rfl
 | k+16,h=>omega
theorem q5s (f:Nat->Nat) (so co lo:Slc) (last:Nat):(qdz f so co lo last).length=20:=rfl
def qg0 (ls:List UInt8) (k i:Nat):List Int:=(List.range ls.length).map fun j=>match ls[j]? with
 | some x=>if 0<x.toNat/\(x.toNat<k\/x.toNat=k/\j<i) then ((revN (codeK ls x.toNat j) x.toNat:Nat):Int) else 0
 | none=>0
theorem qde (ls:List UInt8) (k i:Nat):(qg0 ls k i).length=ls.length:=by simp [qg0]
theorem qff {ls:List UInt8} {k i j:Nat} {x:UInt8} (hx:ls[j]?=some x):(qg0 ls k i)[j]?=some (if 0<x.toNat/\(x.toNat<k\/x.toNat=k/\j<i) then ((revN (codeK ls x.toNat j) x.toNat:Nat):Int) else 0):=by
 have hj:j<ls.length:=(List.getElem?_eq_some_iff.1 hx).1;unfold qg0;rw [List.getElem?_map,List.getElem?_range hj];simp [hx]
theorem zaf (ls:List UInt8):qg0 ls 1 0=List.replicate ls.length 0:=by
 refine List.ext_getElem? fun j=>?_;rcases lt_or_ge j ls.length with hj | hj
 ·rw [qff (List.getElem?_eq_getElem hj),List.getElem?_replicate,if_pos hj,if_neg (by omega)]
 ·rw [List.getElem?_eq_none (by rw [qde];exact hj),List.getElem?_eq_none (by simpa using hj)]
theorem q97 (ls:List UInt8) (k:Nat):qg0 ls k ls.length=qg0 ls (k+1) 0:=by
 refine List.ext_getElem? fun j=>?_;rcases lt_or_ge j ls.length with hj | hj
 ·rw [qff (List.getElem?_eq_getElem hj),qff (List.getElem?_eq_getElem hj)];congr 1;by_cases h:0<ls[j].toNat/\(ls[j].toNat<k\/ls[j].toNat=k/\j<ls.length)
  ·rw [if_pos h,if_pos (by omega)]
  ·rw [if_neg h,if_neg (by omega)]
 ·rw [List.getElem?_eq_none (by rw [qde];exact hj),List.getElem?_eq_none (by rw [qde];exact hj)]
theorem za5 {ls:List UInt8} {k i:Nat} {x:UInt8} (hx:ls[i]?=some x) (hk:x.toNat≠k):qg0 ls k (i+1)=qg0 ls k i:=by
 refine List.ext_getElem? fun j=>?_;rcases lt_or_ge j ls.length with hj | hj
 ·rw [qff (List.getElem?_eq_getElem hj),qff (List.getElem?_eq_getElem hj)];congr 1;by_cases hji:j=i
  ·subst hji;rw [List.getElem?_eq_getElem hj] at hx;have hx:=Option.some.inj hx;rw [hx];by_cases h:0<x.toNat/\(x.toNat<k\/x.toNat=k/\j<j)
   ·rw [if_pos h,if_pos (by omega)]
   ·rw [if_neg h,if_neg (by omega)]
  ·by_cases h:0<ls[j].toNat/\(ls[j].toNat<k\/ls[j].toNat=k/\j<i)
   ·rw [if_pos h,if_pos (by omega)]
   ·rw [if_neg h,if_neg (by omega)]
 ·rw [List.getElem?_eq_none (by rw [qde];exact hj),List.getElem?_eq_none (by rw [qde];exact hj)]
theorem zd1 {ls:List UInt8} {k i:Nat} {x:UInt8} (hx:ls[i]?=some x) (h0:0<k) (hk:x.toNat=k):(qg0 ls k i).set i ((revN (codeK ls k i) k:Nat):Int)=qg0 ls k (i+1):=by
 have hi:i<ls.length:=(List.getElem?_eq_some_iff.1 hx).1;refine List.ext_getElem? fun j=>?_;rcases lt_or_ge j ls.length with hj | hj
 ·by_cases hji:j=i
  ·subst hji;rw [List.getElem?_set_self (by rw [qde];exact hj),qff hx,if_pos (by omega),hk]
  ·rw [List.getElem?_set_ne (Ne.symm hji),qff (List.getElem?_eq_getElem hj),qff (List.getElem?_eq_getElem hj)];congr 1;by_cases h:0<ls[j].toNat/\(ls[j].toNat<k\/ls[j].toNat=k/\j<i)
   ·rw [if_pos h,if_pos (by omega)]
   ·rw [if_neg h,if_neg (by omega)]
 ·rw [List.getElem?_eq_none (by rw [List.length_set,qde];exact hj),List.getElem?_eq_none (by rw [qde];exact hj)]
def ints (l:List Nat):List Int:=List.map (fun n:Nat=>((n:Nat):Int)) l
structure TF where
 g:Nat
 so:Slc
 co:Slc
 lo:Slc
structure TabM (w:World) (base:Nat) (f:TF) (ls:List UInt8):Prop where
 blk:Blk w f.g qbz (qdz (cntK ls) f.so f.co f.lo (lastK ls))
 hg:base<=f.g
 so:Go.Vc.Own E_int w base f.so (ints (qbv ls 15))
 co:Go.Vc.Own ql8 w base f.co (qg0 ls 16 0)
 lo:Go.Vc.Own qae w base f.lo ls
 sm:ls.length<=320
 small:∀x∈ls,x.toNat<=15
 room:roomN ls<=32768
section
variable {w w':World} {base:Nat} {f:TF} {ls:List UInt8}
end
theorem zfv {w:World} {g:Nat} {co lo:Slc} {ls:List UInt8} {K:World->Prop} {base:Nat} (hb:Blk w g qbz (qdz (cntK ls) ⟨none,0,0⟩ co lo (lastK ls))) (hg:base<=g) (hco:Go.Vc.Own ql8 w base co (List.replicate ls.length 0)) (hlo:Go.Vc.Own qae w base lo ls)
  (hsm:ls.length<=320) (hs15:∀x∈ls,x.toNat<=15) (hroom:roomN ls<=32768) (hbase:base<=w.heap.size)
  (hK:∀so w',TabM w' base ⟨g,so,co,lo⟩ ls->Chg (fun k=>k=g\/co.blk=some k) w w'->K w'):qd4 (some ⟨g,0,none⟩) w K:=by
 refine qyg _ ?_;unfold qqp;simp only [onPtr_some]
 let St:World->Slc->Nat->Nat->Prop:=fun w' so k i=>Blk w' g qbz (qdz (cntK ls) so co lo (lastK ls))/\Go.Vc.Own E_int w' base so (ints (qbv ls (k-1)++symsK ls k i))/\Go.Vc.Own ql8 w' base co (qg0 ls k i)/\Go.Vc.Own qae w' base lo ls/\Chg (fun k=>k=g\/co.blk=some k) w w'/\∀j,so.blk=some j->w.heap.size<=j
 have hpow:∀k,k<=15->qb4 ls k+cntK ls k<=32768:=fun k hk=>le_trans (kraft hroom hk) (pow_le_pow_right (by decide) hk);have hlon:lo.n=ls.length:=hlo.rd.n;refine lpR (fun (s:Int×Int×Unit) w2=>∃(k:Nat) (so:Slc),s.2.1=((k+1:Nat):Int)/\k<=15/\s.1=((qb4 ls (k+1):Nat):Int)/\St w2 so (k+1) 0) (fun s=>16-s.2.1.toNat) ⟨0,⟨none,0,0⟩,rfl,by omega,by simp [qb4,cntK],hb,?_,by rw [zaf];exact hco,hlo,Chg.refl _ _,fun j hj=>by cases hj⟩ ?_
 ·have:qbv ls (0+1-1)++symsK ls (0+1) 0=[]:=by simp [qbv,symsK]
  rw [this];show Go.Vc.Own E_int w base ⟨none,0,0⟩ [];exact Go.Vc.Own.nil _ _ _
 rintro ⟨c,k,_⟩ w2 ⟨k,so,rfl,hk,rfl,hb2,hso2,hco2,hlo2,hc2,hf2⟩ I hI;dsimp only at *;refine cO (fun hle=>?_) (fun hgt=>?_)
 ·have hle:=oTq hle;refine lSl (x:=lo) (hb2.cells 18 _ rfl) ?_;rw [hlon];refine lpR (fun (s:Int×Int×Unit) w3=>∃(i:Nat) (so:Slc),s.2.1=i/\i<=ls.length/\s.1=((codeK ls (k+1) i:Nat):Int)/\St w3 so (k+1) i) (fun s=>ls.length-s.2.1.toNat) ⟨0,so,rfl,by omega,by simp [codeK,qo3],hb2,hso2,hco2,hlo2,hc2,hf2⟩ ?_;rintro ⟨c,i,_⟩ w3 ⟨i,so3,rfl,hi,rfl,hb3,hso3,hco3,hlo3,hc3,hf3⟩ I2 hI2;dsimp only at *;have hci:codeK ls (k+1) i<=32768:=by
   unfold codeK;have h1:=hpow (k+1) (by omega);have h2:cntK (ls.take i) (k+1)<=cntK ls (k+1):=by
    conv=>rhs;rw [<-List.take_append_drop i ls]
    rw [qvd];omega
   omega
  refine cO (fun hlt=>?_) (fun hge=>?_)
  ·have hlt:=oTq hlt;have hil:i<ls.length:=by omega
   obtain ⟨x,hx,hxs⟩:=qcw (xs:=ls) (k:=i) hil;refine hlo3.rd.ix rfl (by omega) (by omega) fun hc=>?_;rw [hxs] at hc;refine ldB8 (b:=x) hc ?_;have h8:=x.toNat_lt;rw [qax .i64 (by show _<2^63;omega)];refine cO (fun he=>?_) (fun he=>?_)
   ·have he:x.toNat=k+1:=by have:=eq_of_beq he;omega
    refine lSl (x:=so3) (hb3.cells 16 _ rfl) ?_;refine nwb fun w4 hb4 hB4 hs4=>?_;have hr4:Rd E_int w4 ⟨some ⟨w3.heap.size,0,none⟩,1,1⟩ [(i:Int)]:=qwx (E:=E_int) hb4 rfl;have hsl:(qbv ls k).length<=100000:=by
     rw [qj6];have:∀m,offK ls m<=m*320:=by
      intro m
      induction m with
      | zero=>simp [offK]
      | succ m ih =>
       have:=qws ls m;rw [offK];omega
     have:=this (k+1);omega
    have hsy:(symsK ls (k+1) i).length<=320:=by
     rw [qgx ls (k+1) i (by omega)];have:=qws (ls.take i) (k+1);simp at this;omega
    have hs3:=hc3.size;have hb34:=hb3.ext hB4;have hso34:=hso3.ext hB4;have hco34:=hco3.ext hB4;have hlo34:=hlo3.ext hB4;refine qkd qhd hso34 hr4 (by omega) (by rw [qjn];simp [ints];omega) (by simp [maxLen,ints];omega) fun q w5 ho5 hg5 hq5=>?_;have hc45:Chg (fun k=>so3.blk=some k) w4 w5:=Chg.of_grown hg5 fun k hk=>hk;have ne1:∀j,so3.blk=some j->j≠g:=fun j hj=>by
     obtain ⟨cs,hcs⟩:=hso34.blk_t hj;exact hcs.ne_t hb34 (by decide)
    have hb5:=hb34.chg hc45 fun e=>ne1 _ e rfl;have hco5:=hco34.chg hc45 fun j hj e=>by
     obtain ⟨cs,hcs⟩:=hco34.blk_t hj;obtain ⟨cs',hcs'⟩:=hso34.blk_t e;exact hcs.ne_t hcs' (by decide) rfl
    have hlo5:=hlo34.chg hc45 fun j hj e=>by
     obtain ⟨cs,hcs⟩:=hlo34.blk_t hj;obtain ⟨cs',hcs'⟩:=hso34.blk_t e;exact hcs.ne_t hcs' (by decide) rfl
    rw [qas];refine qaj hb5 (by rw [q5s];show 0+16+1<=20;decide) fun w6 hb6 hg6 hs6=>?_;have hb6:Blk w6 g qbz (qdz (cntK ls) q co lo (lastK ls)):=hb6;have nb:∀{w':World} {T:Type} {E:El T} {b:Nat} {s:Slc} {xs:List T},Go.Vc.Own E w' b s xs->Blk w' g qbz (qdz (cntK ls) so3 co lo (lastK ls))->E.t≠qbz->∀j,s.blk=some j->j≠g:=fun ho hb hne j hj=>by
     obtain ⟨cs,hcs⟩:=ho.blk_t hj;exact hcs.ne_t hb hne
    have ho6:=ho5.chg (Chg.gg hg6) (nb ho5 hb5 (by decide));have hco6:=hco5.chg (Chg.gg hg6) (nb hco5 hb5 (by decide));have hlo6:=hlo5.chg (Chg.gg hg6) (nb hlo5 hb5 (by decide));refine lSl (x:=co) (hb6.drew.cells 17 _ rfl) ?_;have e1:((k:Int)+1)=((k+1:Nat):Int):=by omega
    refine q8s (v:=codeK ls (k+1) i) (n:=k+1) (by omega) (by omega) ⟨hb6.drew.cells 17 _ rfl,?_⟩;refine hco6.drew.rd.ix rfl (by omega) (by rw [qde];omega) fun _=>?_;have hcx:=qff (k:=k+1) (i:=i) hx;refine hco6.drew.st0 (x:=_) (y:=((revN (codeK ls (k+1) i) (k+1):Nat):Int)) (by rw [show ((i:Int)).toNat=i from rfl];exact hcx) rfl fun w7 hco7 hg7 hs7=>?_;rw [show ((i:Int)).toNat=i from rfl,zd1 hx (by omega) he] at hco7;have hc67:Chg (fun j=>co.blk=some j) w6.drew w7:=Chg.of_grown hg7 fun j hj=>hj;have hb7:=hb6.drew.chg hc67 fun e=>by
     obtain ⟨cs,hcs⟩:=hco6.blk_t e;exact hcs.ne_t hb6 (by decide) rfl
    have ho7:=ho6.drew.chg hc67 fun j hj e=>by
     obtain ⟨cs,hcs⟩:=ho6.blk_t hj;obtain ⟨cs',hcs'⟩:=hco6.blk_t e;exact hcs.ne_t hcs' (by decide) rfl
    have hlo7:=hlo6.drew.chg hc67 fun j hj e=>by
     obtain ⟨cs,hcs⟩:=hlo6.blk_t hj;obtain ⟨cs',hcs'⟩:=hco6.blk_t e;exact hcs.ne_t hcs' (by decide) rfl
    rw [show ((codeK ls (k+1) i:Nat):Int)+1=((codeK ls (k+1) i+1:Nat):Int) from rfl,qax .u32 (x:=codeK ls (k+1) i+1) (by show _<2^32;omega),w64i (by omega)];refine hI2 _ _ ⟨i+1,q,by simp,by omega,?_,hb7,?_,hco7,hlo7,?_,fun j hj=>?_⟩ (by simp;omega)
    ·show ((codeK ls (k+1) i+1:Nat):Int)=_;unfold codeK;rw [qki ls (k+1) i hx,if_pos ⟨by omega,he⟩];rfl
    ·rw [qxg ls (k+1) i hx,if_pos ⟨by omega,he⟩,<-List.append_assoc];have e:ints (qbv ls (k+1-1)++symsK ls (k+1) i++[i])=ints (qbv ls (k+1-1)++symsK ls (k+1) i)++[(i:Int)]:=by simp [ints]
     rw [e];exact ho7
    ·have c1:Chg (fun k=>k=g\/co.blk=some k) w w4:=hc3.trans (Chg.of_ext (S:=fun k=>k=g\/co.blk=some k) hB4) fun i _ hi=>hi;have c2:Chg (fun k=>k=g\/co.blk=some k) w w6:=(c1.trans hc45 fun i hi hs=>by have:=hf3 i hs;omega).trans (Chg.gg hg6) fun i _ hi=>.inl hi;exact (c2.trans (Chg.of_ext (S:=fun k=>k=g\/co.blk=some k) ((Below.refl _ w6).drew)) fun i _ hi=>hi).trans hc67 fun i _ hi=>.inr hi
    ·rcases hq5 with e | e
     ·exact hf3 j (by rw [<-e];exact hj)
     ·rw [e] at hj;cases hj;omega
   ·have he:x.toNat≠k+1:=by have:=beq_eq_false_iff_ne.1 he;omega
    rw [w64i (by omega)];refine hI2 _ _ ⟨i+1,so3,by simp,by omega,?_,hb3,?_,by rw [za5 hx he];exact hco3,hlo3,hc3,hf3⟩ (by simp;omega)
    ·unfold codeK;rw [qki ls (k+1) i hx,if_neg (fun h=>he h.2)]
    ·rw [qxg ls (k+1) i hx,if_neg (fun h=>he h.2)];exact hso3
  ·have hge:=oFq hge;have:i=ls.length:=by omega
   subst this;refine ⟨by decide,hI _ _ ⟨k+1,so3,?_,by omega,?_,hb3,?_,?_,hlo3,hc3,hf3⟩ ?_⟩
   ·dsimp only;rw [w64i (by omega)];omega
   ·dsimp only;rw [show min ((1:Int)).toNat u32.bits=1 by decide,qbk,qax .u32 (by show _<2^32;omega)];unfold codeK;rw [take_length,Nat.pow_one,mul_comm];rfl
   ·have e:qbv ls (k+1+1-1)++symsK ls (k+1+1) 0=qbv ls (k+1-1)++symsK ls (k+1) ls.length:=by
     show qbv ls (k+1)++symsK ls (k+2) 0=qbv ls k++_;simp [symsK,qbv]
    rw [e];exact hso3
   ·rw [<-q97];exact hco3
   ·dsimp only;rw [w64i (by omega)];omega
 ·have hgt:=oFq hgt;have:k=15:=by omega
  subst this;have e:qbv ls (15+1-1)++symsK ls (15+1) 0=qbv ls 15:=by simp [symsK]
  rw [e] at hso2;exact hK so w2 ⟨hb2,hg,hso2,hco2,hlo2,hsm,hs15,hroom⟩ hc2
def qd2 (ls:List UInt8):Prop:=¬(roomN ls=32768\/roomN ls=0\/(roomN ls=16384/\cntK ls 1=1))
instance (ls:List UInt8):Decidable (qd2 ls):=by unfold qd2;infer_instance
def qj9 (ls:List UInt8):Prop:=ls.length>320\/∃x∈ls,15<x.toNat
theorem q3m {s:Slc} {ls:List UInt8} {w w4:World} {t13 t16:Slc} {g:Nat} {K:Option Addr->Int->World->Prop} (h:Rd qae w s ls) (hsm:ls.length<=320) (hB:Below w.heap.size w w4) (ho13:Go.Vc.Own qae w4 w.heap.size t13 ls) (ho16:Go.Vc.Own ql8 w4 w.heap.size t16 (List.replicate ls.length 0))
  (hb:Blk w4 g qbz (qdz (fun _=>0) ⟨none,0,0⟩ t16 t13 0)) (hg:w.heap.size<=g)
  (hK1:qj9 ls->∀w',Below w.heap.size w w'->K none 1 w') (hK2:¬qj9 ls->qd2 ls->∀w',Below w.heap.size w w'->K none 3 w')
  (hK3:¬qj9 ls->¬qd2 ls->∀f w',TabM w' w.heap.size f ls->Below w.heap.size w w'->K (some ⟨f.g,0,none⟩) 0 w') :
  loopP (σ:=Int×Unit) (fun I1 s_1 w5 =>
       cond (decide (s_1.1<((s.n:Nat):Int)))
        (
        ixK s s_1.1 1 fun t23 =>
        ldI .u8 t23 w5 fun t24 =>
        cond (decide (t24>(15:Int)))
         (K none 1 w5)
         (cond (decide (t24>(0:Int)))
           (
           ixA ((⟨g,0,none⟩:Addr).add 0) 16 t24 1 fun t33 =>
           ldI .i64 t33 w5.drew fun t34 =>
           ixA ((⟨g,0,none⟩:Addr).add 0) 16 t24 1 fun t38 =>
           stK t38 [(.int .i64 (i64.wrap (t34+(1:Int))))] w5.drew fun w6 =>
           ldI .i64 ((⟨g,0,none⟩:Addr).add 19) w6 fun t43 =>
           stK ((⟨g,0,none⟩:Addr).add 19) [(.int .i64 (if (i64.wrap t24)>t43 then (i64.wrap t24) else t43))] w6 fun w7 =>
           I1 ((i64.wrap (s_1.1+(1:Int))),()) w7)
           (I1 ((i64.wrap (s_1.1+(1:Int))),()) w5)))
        (joinP (σ:=Unit) (fun s_1 w8 =>
         qd4 (some (⟨g,0,none⟩:Addr)) w8 fun w9 =>
         K (some (⟨g,0,none⟩:Addr)) 0 w9) fun J2 =>
        qig s w5 fun t51 w10 =>
        cond (t51 !=(32768:Int))
         (cond (t51 !=(0:Int))
           (cond (t51==(16384:Int))
            (
             ixA ((⟨g,0,none⟩:Addr).add 0) 16 1 1 fun t65 =>
             ldI .i64 t65 w10 fun t66 =>
             cond (!(t66==(1:Int)))
              (K none 3 w10)
              (J2 (()) w10))
            (K none 3 w10))
           (J2 (()) w10))
         (J2 (()) w10))) (0,()) w4:=by
 rw [h.n];have hs4:=hB.size;refine lpR (fun (s:Int×Unit) w5=>∃i:Nat,s.1=i/\i<=ls.length/\Blk w5 g qbz (qdz (cntK (ls.take i)) ⟨none,0,0⟩ t16 t13 (lastK (ls.take i)))/\Chg (fun k=>k=g) w4 w5/\(∀x∈ls.take i,x.toNat<=15)) (fun s=>ls.length-s.1.toNat)
  ⟨0,rfl,by omega,?_,Chg.refl _ _,fun x hx=>by simp at hx⟩ ?_
 ·have e:cntK ([]:List UInt8)=fun _=>0:=funext fun k=>qo3 k;rw [List.take_zero,e];exact hb
 rintro ⟨i,_⟩ w5 ⟨i,rfl,hi,hb5,hc5,hsm5⟩ I hI;dsimp only at *;have hB5:Below w.heap.size w w5:=hB.trans (hc5.below hs4 fun j hj e=>by omega);refine cO (fun hlt=>?_) (fun hge=>?_)
 ·have hlt:=oTq hlt;obtain ⟨x,hx,hxs⟩:=qcw (xs:=ls) (k:=i) (by omega);refine (h.ext hB5).ix rfl (by omega) (by omega) fun hc=>?_;rw [hxs] at hc;refine ldB8 (b:=x) hc ?_;have h8:=x.toNat_lt;refine cO (fun hbig=>?_) (fun hsmall=>?_)
  ·have hbig:=oTq hbig;exact hK1 (.inr ⟨x,List.mem_of_getElem? hx,by omega⟩) _ hB5
  ·have hsmall:=oFq hsmall;have ht:ls.take (i+1)=ls.take i++[x]:=by rw [List.take_add_one,hx];rfl
   have hsm':∀y∈ls.take (i+1),y.toNat<=15:=fun y hy=>by
    rw [ht] at hy;rcases List.mem_append.1 hy with hy | hy
    ·exact hsm5 y hy
    ·rw [List.mem_singleton.1 hy];omega
   have hlast:lastK (ls.take (i+1))=max (lastK (ls.take i)) x.toNat:=by rw [ht,q9a]
   have hl15:=q8e hsm5;refine cO (fun hpos=>?_) (fun hzero=>?_)
   ·have hpos:=oTq hpos;have hcn:=qws (ls.take i) x.toNat;simp only [List.length_take] at hcn;refine ⟨⟨by omega,by omega⟩,?_⟩;have hcell:∀{w':World} {f:Nat->Nat} {so co lo:Slc} {la:Nat},Blk w' g qbz (qdz f so co lo la)->w'.cell? (((⟨g,0,none⟩:Addr).add 0).add (((x.toNat:Nat):Int).toNat*1))=some (.int .i64 (f x.toNat)):=fun hb=>by
     have:=hb.cells x.toNat _ (zbu _ _ _ _ _ _ (by omega:x.toNat<16));simpa using this
    refine lI (x:=((cntK (ls.take i) x.toNat:Nat):Int)) (hcell hb5.drew) ?_;refine ⟨⟨by omega,by omega⟩,?_⟩;rw [w64i (x:=((cntK (ls.take i) x.toNat:Nat):Int)+1) (by omega)];have ea:(((⟨g,0,none⟩:Addr).add 0).add (((x.toNat:Nat):Int).toNat*1))=⟨g,x.toNat,none⟩:=by
     rw [add_zero,qas];simp
    rw [ea];refine qaj hb5.drew (by rw [q5s];show x.toNat+1<=20;omega) fun w6 hb6 hg6 hs6=>?_;have e1:((cntK (ls.take i) x.toNat:Nat):Int)+1=((cntK (ls.take i) x.toNat+1:Nat):Int):=rfl;rw [e1,zjz _ _ _ _ _ _ _ (by omega)] at hb6;refine lI (x:=((lastK (ls.take i):Nat):Int)) (hb6.cells 19 _ rfl) ?_;rw [qax .i64 (x:=x.toNat) (by show _<2^63;omega),qas];refine qaj hb6 (by rw [q5s];show 0+19+1<=20;decide) fun w7 hb7 hg7 hs7=>?_;rw [w64i (by omega)];refine hI _ _ ⟨i+1,by simp,by omega,?_,?_,hsm'⟩ (by simp;omega)
    ·have ef:cntK (ls.take (i+1))=fun j=>if j=x.toNat then cntK (ls.take i) x.toNat+1 else cntK (ls.take i) j:=funext fun j=>by
      rw [qki ls j i hx];by_cases hj:j=x.toNat
      ·subst hj;rw [if_pos ⟨by omega,rfl⟩,if_pos rfl]
      ·rw [if_neg (fun hh=>hj hh.2.symm),if_neg hj]
     have em:(if ((x.toNat:Nat):Int)>((lastK (ls.take i):Nat):Int) then ((x.toNat:Nat):Int) else ((lastK (ls.take i):Nat):Int))=((lastK (ls.take (i+1)):Nat):Int):=by
      rw [hlast];split<;>omega
     rw [em] at hb7;rw [ef];exact hb7
    ·exact ((hc5.trans (Chg.of_ext (S:=fun k=>k=g) ((Below.refl _ w5).drew)) fun i _ hi=>hi).trans (Chg.gg hg6) fun i _ hi=>hi).trans (Chg.gg hg7) fun i _ hi=>hi
   ·have hzero:=oFq hzero;have hx0:x.toNat=0:=by omega
    rw [w64i (by omega)];refine hI _ _ ⟨i+1,by simp,by omega,?_,hc5,hsm'⟩ (by simp;omega);have ef:cntK (ls.take (i+1))=cntK (ls.take i):=funext fun j=>by
     rw [qki ls j i hx,if_neg (fun hh=>hh.1 (by omega))]
    rw [ef,hlast,hx0,Nat.max_zero];exact hb5
 ·have hge:=oFq hge;have:i=ls.length:=by omega
  subst this;rw [take_length] at hb5 hsm5;have hgood:¬qj9 ls:=by
   rintro (h1 | ⟨x,hx,h2⟩)
   ·omega
   ·have:=hsm5 x hx;omega
  clear hI I hK1;refine jpO fun J hJ=>?_;have hr:=q84 ls;refine zel (h.ext hB5) (by omega) ?_;have co5:Go.Vc.Own ql8 w5 w.heap.size t16 (List.replicate ls.length 0):=ho16.chg hc5 fun j hj e=>by
   obtain ⟨cs,hcs⟩:=ho16.blk_t hj;exact hcs.ne_t hb (by decide) e
  have lo5:Go.Vc.Own qae w5 w.heap.size t13 ls:=ho13.chg hc5 fun j hj e=>by
   obtain ⟨cs,hcs⟩:=ho13.blk_t hj;exact hcs.ne_t hb (by decide) e
  have good:roomN ls<=32768->¬qd2 ls->J () w5:=fun h1 h2=>hJ _ _ (by
   refine zfv hb5 hg co5 lo5 hsm hsm5 h1 hB5.size fun so w9 ht hc9=>?_;refine hK3 hgood h2 ⟨g,so,t16,t13⟩ w9 ht (hB5.trans (hc9.below hB5.size fun j hj hs=>?_));rcases hs with e | e
   ·omega
   ·have:=(ho16.lt j e).1;omega)
  refine cO (fun n1=>?_) (fun n1=>?_)
  ·have n1:roomN ls≠32768:=by have:=bne_iff_ne.1 n1;omega
   refine cO (fun n2=>?_) (fun n2=>?_)
   ·have n2:roomN ls≠0:=by have:=bne_iff_ne.1 n2;omega
    refine cO (fun n3=>?_) (fun n3=>?_)
    ·have n3:roomN ls=16384:=by have:=eq_of_beq n3;omega
     refine ⟨⟨by decide,by decide⟩,?_⟩;have hcell:w5.cell? (((⟨g,0,none⟩:Addr).add 0).add (((1:Int)).toNat*1))=some (.int .i64 (cntK ls 1)):=by
      have:=hb5.cells 1 _ rfl;simpa using this
     refine lI (x:=((cntK ls 1:Nat):Int)) hcell ?_;refine cO (fun n4=>?_) (fun n4=>?_)
     ·refine hK2 hgood ?_ _ hB5;have n4:cntK ls 1≠1:=by
       intro e;rw [e] at n4;simp at n4
      unfold qd2;omega
     ·refine good (by omega) ?_;have n4:cntK ls 1=1:=by
       have:(((cntK ls 1:Nat):Int)==1)=true:=by simpa using n4
       have:=eq_of_beq this;omega
      unfold qd2;omega
    ·have n3:roomN ls≠16384:=by have:=beq_eq_false_iff_ne.1 n3;omega
     exact hK2 hgood (by unfold qd2;omega) _ hB5
   ·have n2:roomN ls=0:=by have:=bne_eq_false_iff_eq.1 n2;omega
    exact good (by omega) (by unfold qd2;omega)
  ·have n1:roomN ls=32768:=by have:=bne_eq_false_iff_eq.1 n1;omega
   exact good (by omega) (by unfold qd2;omega)
theorem q29 {s:Slc} {ls:List UInt8} {w:World} {K:Option Addr->Int->World->Prop} (h:Rd qae w s ls)
  (hK1:qj9 ls->∀w',Below w.heap.size w w'->K none 1 w') (hK2:¬qj9 ls->qd2 ls->∀w',Below w.heap.size w w'->K none 3 w')
  (hK3:¬qj9 ls->¬qd2 ls->∀f w',TabM w' w.heap.size f ls->Below w.heap.size w w'->K (some ⟨f.g,0,none⟩) 0 w'):qgb s w K:=by
 refine q7l _ ?_;unfold q2n;have hm:=zjo h;simp only [maxLen] at hm;refine cO (fun c=>?_) (fun c=>?_)
 ·have c:=oTq c;rw [h.n] at c;exact hK1 (.inl (by omega)) _ (Below.refl _ _)
 have c:=oFq c;rw [h.n] at c;have hsm:ls.length<=320:=by omega
 have fr:∀{n:Nat} {k:Nat},(⟨some ⟨n,0,none⟩,0,0⟩:Slc).blk=some k->k=n:=fun hk=>by cases hk;rfl
 have hBd:Below w.heap.size w w.drew:=(Below.refl _ w).drew;have cp:∀{w1:World} {F:Slc->World->Prop} {t:Nat},Below w.heap.size w w1->Blk w1 t qan []->w.heap.size<=t->(∀r w2,Go.Vc.Own qae w2 w.heap.size r ls->Chg (fun k=>k=t) w1 w2->F r w2)->apK PG #[qab,qab] qab (⟨(some (⟨t,0,none⟩:Addr)),0,0⟩:Slc) s w1 F:=by
  intro w1 F t hB1 hb1 ht hF;refine apB (qjx (E:=qae) hb1 ht) (h.ext hB1) hB1.size (by simp;omega) fun r w2 ho hc hq=>hF r w2 ?_ (hc.mono fun i _ hs=>fr hs);rw [List.nil_append] at ho;exact ho
 have mk:∀{w1:World} {F:Slc->World->Prop},Below w.heap.size w w1->(∀r w2,Go.Vc.Own ql8 w2 w.heap.size r (List.replicate ls.length 0)->Below w1.heap.size w1 w2->F r w2)->mkSl PG qjk (.int .i64 ((s.n:Nat):Int)) (.int .i64 ((s.n:Nat):Int)) w1 F:=by
  intro w1 F hB1 hF;refine qpl qz7 (x0:=(0:Int)) rfl (n:=ls.length) (by rw [h.n]) (by rw [h.n]) (by rw [q9f];omega) (by simp only [maxLen];omega) fun w2 ho hB=>hF _ w2 (ho.base hB1.size) hB
 refine ⟨?_,?_⟩
 ·refine nwb fun w1 hb1 hB1 hs1=>?_;refine ⟨?_,?_⟩
  ·have hB01:Below w.heap.size w w1:=hBd.trans hB1;refine cp hB01 hb1 (le_refl _) fun t13 w2 ho2 hc2=>?_;have hB02:Below w.heap.size w w2:=hB01.trans (hc2.below hB01.size fun i hi e=>by have e:i=w.heap.size:=e;omega);refine mk hB02 fun t16 w3 ho3 hB3=>?_;have hB03:Below w.heap.size w w3:=hB02.trans (hB3.mono hB02.size);refine nwb fun w4 hb4 hB4 hs4=>?_;exact q3m h hsm (hB03.trans (hB4.mono hB03.size)) ((ho2.ext hB3).ext hB4) (ho3.ext hB4) hb4 hB03.size hK1 hK2 hK3
  ·have hB01:Below w.heap.size w w1:=hBd.trans hB1;refine mk hB01 fun t16 w2 ho2 hB2=>?_;have hB02:Below w.heap.size w w2:=hB01.trans (hB2.mono hB01.size);refine cp hB02 (hb1.ext hB2) (le_refl _) fun t13 w3 ho3 hc3=>?_;have hB03:Below w.heap.size w w3:=hB02.trans (hc3.below hB02.size fun i hi e=>by have e:i=w.heap.size:=e;omega);have ho23:=ho2.chg hc3 fun j hj e=>by
    obtain ⟨cs,hcs⟩:=ho2.blk_t hj;exact hcs.ne_t (hb1.ext hB2) (by decide) e
   refine nwb fun w4 hb4 hB4 hs4=>?_;exact q3m h hsm (hB03.trans (hB4.mono hB03.size)) (ho3.ext hB4) (ho23.ext hB4) hb4 hB03.size hK1 hK2 hK3
 ·refine mk hBd fun t16 w1 ho1 hB1=>?_;have hB01:Below w.heap.size w w1:=hBd.trans hB1;refine nwb fun w2 hb2 hB2 hs2=>?_;have hB02:Below w.heap.size w w2:=hB01.trans (hB2.mono hB01.size);refine cp hB02 hb2 hB01.size fun t13 w3 ho3 hc3=>?_;have hB03:Below w.heap.size w w3:=hB02.trans (hc3.below hB02.size fun i hi e=>by have e:i=w1.heap.size:=e;have:=hB01.size;omega);have ho13:=(ho1.ext hB2).chg hc3 fun j hj e=>by
   obtain ⟨cs,hcs⟩:=(ho1.ext hB2).blk_t hj;exact hcs.ne_t hb2 (by decide) e
  refine nwb fun w4 hb4 hB4 hs4=>?_;exact q3m h hsm (hB03.trans (hB4.mono hB03.size)) (ho3.ext hB4) (ho13.ext hB4) hb4 hB03.size hK1 hK2 hK3
section
variable {w:World} {base g:Nat} {s:Slc} {bs ls:List UInt8} {at_:Nat} {f:TF}
theorem zes {K:Int->Int->World->Prop} (hb:Blk w f.g qbz (qdz (cntK ls) f.so f.co f.lo (lastK ls))) (hso:Rd E_int w f.so (ints (qbv ls 15))) (hsg:∀k,f.so.blk=some k->k≠g) (hsm:ls.length<=320) (h15:∀x∈ls,x.toNat<=15) (hroom:roomN ls<=32768) (h:RdrM w g s bs at_)
  (hK1:∀y k w',readT ls bs at_=.sym y k->at_+k<=8*bs.length->y<ls.length->RdrM w' g s bs (at_+k)->Chg (fun k=>k=g) w w'->K y 0 w')
  (hK2:∀w',readT ls bs at_=.short->Below w.heap.size w w'->K 0 2 w') (hK3:∀w',readT ls bs at_=.form->Below w.heap.size w w'->K 0 3 w'):qd5 (some ⟨f.g,0,none⟩) (some ⟨g,0,none⟩) w K:=by
 refine qxr _ _ ?_;unfold qqt;have hle:=h.le;have hsmb:=h.sm;refine q6h h ?_;obtain ⟨ah,hah⟩:∃a,min 15 (8*bs.length-at_)=a:=⟨_,rfl⟩;have e0:(if ((8*bs.length-at_:Nat):Int)<15 then ((8*bs.length-at_:Nat):Int) else 15)=(ah:Int):=by split<;>omega
 simp only [e0];have hah15:ah<=15:=by omega
 have hahl:at_+ah<=8*bs.length:=by omega
 refine q6z h.drew (fun m w2 e hm hl hB=>?_) (fun w2 hn hB=>by omega);have:m=ah:=by omega
 subst this;have hB02:Below w.heap.size w w2:=(Below.refl _ w).drew.trans hB;have hsl:(qbv ls 15).length=offK ls 16:=qj6 ls 15;have hof:∀k,offK ls k<=k*320:=by
  intro k
  induction k with
  | zero=>simp [offK]
  | succ k ih=>have:=qws ls k;rw [offK];omega
 have hl15:=q8e h15;refine lpR (fun (s:Int×Int×Int×Int×Int×Unit) w3=>∃k:Nat,s.2.2.2.2.1=((k+1:Nat):Int)/\k<=15/\s.1=((2*msb bs at_ k:Nat):Int)/\s.2.1=((qb4 ls (k+1):Nat):Int)/\s.2.2.1=((offK ls (k+1):Nat):Int)/\(k<=m->s.2.2.2.1=((peekN bs at_ m/2^k:Nat):Int))/\qb4 ls (k+1)<=2*msb bs at_ k/\readT ls bs at_=qlm ls bs at_ (16-k) (k+1)/\Below w.heap.size w w3)
  (fun s=>17-s.2.2.2.2.1.toNat) ⟨0,rfl,by omega,rfl,by simp [qb4,cntK],by simp [offK,cntK],fun _=>by simp,by simp [qb4,cntK],rfl,hB02⟩ ?_
 rintro ⟨c,fi,of,v,k,_⟩ w3 ⟨k,rfl,hk,rfl,rfl,rfl,hv,hfirst,hT,hB3⟩ I hI;dsimp only at *;have hb3:=hb.ext hB3;simp only [onPtr_some];refine lI (x:=((lastK ls:Nat):Int)) (hb3.cells 19 _ rfl) ?_;rw [show 16-k=(15-k)+1 by omega,qlm] at hT;refine cO (fun hlast=>?_) (fun hlast=>?_)
 ·have hlast:((k+1:Nat):Int)<=(lastK ls:Nat):=oTq hlast;rw [if_neg (by omega),hah] at hT;refine cO (fun hsh=>?_) (fun hsh=>?_)
  ·have hsh:((k+1:Nat):Int)>(m:Int):=oTq hsh;rw [if_pos (by omega)] at hT;exact hK2 _ hT hB3
  ·have hsh:¬((k+1:Nat):Int)>(m:Int):=oFq hsh;rw [if_neg (by omega)] at hT;have hv:=hv (by omega);subst hv;have hbit:bitsR .and .u32 ((peekN bs at_ m/2^k:Nat):Int) 1=((peekN bs (at_+k) 1:Nat):Int):=by
    have h1:peekN bs at_ m/2^k<2^32:=Nat.lt_of_le_of_lt (Nat.div_le_self _ _) (Nat.lt_of_lt_of_le (qcx bs at_ m) (pow_le_pow_right (by decide) (by omega)))
    rw [show (1:Int)=((1:Nat):Int) from rfl,qgr .u32 h1 (by decide),q5o,zfz bs at_ k m (by omega)];have:=zfx bs (at_+k) 1 (m-k) (by omega);rw [Nat.pow_one] at this;rw [this]
   have hbl:=qcx bs (at_+k) 1;have hml:=zf5 bs at_ k
   have hpk:2^k<=2^15:=pow_le_pow_right (by decide) hk;have hcode:bitsR .or .i64 ((2*msb bs at_ k:Nat):Int) (i64.wrap ((peekN bs (at_+k) 1:Nat):Int))=((msb bs at_ (k+1):Nat):Int):=by
    rw [qax .i64 (by show _<2^63;omega),qd3 .i64 (by show _<2^63;omega) (by show _<2^63;omega),zf0 _ _ (by omega)];rfl
   have hm1:=zf5 bs at_ (k+1)
   have hms:msb bs at_ (k+1)=2*msb bs at_ k+peekN bs (at_+k) 1:=rfl
   have hkr:=kraft hroom (k:=k+1) (by omega);have hpk1:2^(k+1)<=2^15:=pow_le_pow_right (by decide) (by omega);have hcell:w3.cell? (((⟨f.g,0,none⟩:Addr).add 0).add ((((k+1:Nat):Int)).toNat*1))=some (.int .i64 (cntK ls (k+1))):=by
    have:=hb3.cells (k+1) _ (zbu _ _ _ _ _ _ (by omega:k+1<16));simpa using this
   have hin:(0:Int)<=((k+1:Nat):Int)/\((k+1:Nat):Int)<((16:Nat):Int):=by omega
   refine ⟨by decide,hin,?_⟩;refine lI (x:=((cntK ls (k+1):Nat):Int)) hcell ?_;simp only [hbit,hcode];rw [w64i (x:=((msb bs at_ (k+1):Nat):Int)-(qb4 ls (k+1):Nat)) (by omega)];refine cO (fun hfound=>?_) (fun hno=>?_)
   ·have hfound:=oTq hfound;rw [if_pos (by omega)] at hT;have hr3:=h.ext hB3;refine qz4 hr3 (fun m' w4 e hm' hl' hr4 hc4=>?_) (fun w4 hn _=>by omega);have:m'=k+1:=by omega
    subst this;have hb4:=hb3.chg hc4 fun e=>by
     have:=hb3.ne_t hr3.blk (by decide);exact this e
    refine lSl (x:=f.so) (hb4.cells 16 _ rfl) ?_;have hso4:=(hso.ext hB3).chg hc4 fun a ha e=>hsg _ (slk.2 ⟨a,ha,rfl⟩) e;have hoff:=hof (k+1);have hoff16:=hof 16;have hj:msb bs at_ (k+1)-qb4 ls (k+1)<cntK ls (k+1):=by omega
    have hg:=q93 ls (k:=k+1) (m:=15) (by omega) (by omega) hj;have hsy:=qgx ls (k+1) ls.length (le_refl _);rw [take_length] at hsy;have hyy:(symsK ls (k+1) ls.length)[msb bs at_ (k+1)-qb4 ls (k+1)]?=some ((symsK ls (k+1) ls.length)[msb bs at_ (k+1)-qb4 ls (k+1)]'(by omega)):=List.getElem?_eq_getElem _;obtain ⟨y,hy⟩:∃y,(symsK ls (k+1) ls.length)[msb bs at_ (k+1)-qb4 ls (k+1)]?=some y:=⟨_,hyy⟩;rw [hy] at hg;obtain ⟨_,hyl,_,_⟩:=q09 ls (k+1) ls.length (le_refl _) _ _ hy;have hgl:=(List.getElem?_eq_some_iff.1 hg).1;rw [w64i (x:=((offK ls (k+1):Nat):Int)+(msb bs at_ (k+1):Nat)) (by omega),w64i (by omega)];have ei:((offK ls (k+1):Nat):Int)+(msb bs at_ (k+1):Nat)-(qb4 ls (k+1):Nat)=((offK ls (k+1)+(msb bs at_ (k+1)-qb4 ls (k+1)):Nat):Int):=by omega
    rw [ei];refine hso4.ix rfl (by omega) (by simp only [ints,List.length_map];omega) fun hc=>?_;have hgi:(ints (qbv ls 15))[offK ls (k+1)+(msb bs at_ (k+1)-qb4 ls (k+1))]?=some (y:Int):=by
     unfold ints;rw [List.getElem?_map,hg];rfl
    have hgx:∀h',(ints (qbv ls 15))[(((offK ls (k+1)+(msb bs at_ (k+1)-qb4 ls (k+1)):Nat):Int)).toNat]'h'=(y:Int):=fun h'=>by
     have:=List.getElem?_eq_getElem (l:=ints (qbv ls 15)) (i:=offK ls (k+1)+(msb bs at_ (k+1)-qb4 ls (k+1))) h';rw [hgi] at this;exact (Option.some.inj this).symm
    rw [hgx] at hc;refine lI (x:=(y:Int)) (by simpa using hc 0 _ rfl) ?_;refine hK1 y (k+1) w4 ?_ hl' hyl hr4 ((Chg.of_ext (S:=fun k=>k=g) hB3).trans hc4 fun i _ hi=>hi);rw [hT,List.getD_eq_getElem?_getD,hg];rfl
   ·have hno:=oFq hno;rw [if_neg (by omega)] at hT;have hoff:=hof (k+1);refine ⟨hin,?_⟩;refine lI (x:=((cntK ls (k+1):Nat):Int)) hcell ⟨hin,?_⟩;refine lI (x:=((cntK ls (k+1):Nat):Int)) hcell ⟨by decide,by decide,?_⟩;have hcl:=qws ls (k+1);have m1:min ((1:Int)).toNat i64.bits=1:=by decide
    have m2:min ((1:Int)).toNat u32.bits=1:=by decide
    rw [w64i (x:=((qb4 ls (k+1):Nat):Int)+(cntK ls (k+1):Nat)) (by omega)];have ef:((qb4 ls (k+1):Nat):Int)+(cntK ls (k+1):Nat)=((qb4 ls (k+1)+cntK ls (k+1):Nat):Int):=by omega
    rw [m1,m2,ef,qbk,qbk,qax .i64 (by show _<2^63;omega),qax .i64 (by show _<2^63;omega),qft,w64i (x:=((offK ls (k+1):Nat):Int)+(cntK ls (k+1):Nat)) (by omega),w64i (x:=((k+1:Nat):Int)+1) (by omega)];by_cases hk15:k+1<=15
    ·refine hI _ _ ⟨k+1,rfl,hk15,?_,?_,?_,fun hkm=>?_,?_,?_,hB3⟩ (by simp;omega)
     ·dsimp only;rw [Nat.pow_one,mul_comm]
     ·dsimp only;rw [Nat.pow_one,mul_comm];rfl
     ·rfl
     ·dsimp only;rw [Nat.div_div_eq_div_mul,<-pow_succ]
     ·show 2*(qb4 ls (k+1)+cntK ls (k+1))<=2*msb bs at_ (k+1)
      omega
     ·rw [hT,show 15-k=16-(k+1) by omega]
    ·omega
 ·have hlast:¬((k+1:Nat):Int)<=(lastK ls:Nat):=oFq hlast;rw [if_pos (by omega)] at hT;exact hK3 _ hT hB3
end
set_option maxRecDepth 400000
theorem qyw:qeu.length=288:=by
 unfold qeu;simp only [List.length_append,length_replicate]
theorem zcv (i:Nat) (hi:i<288):qeu[i]?=some (if i<144 then 8 else if i<256 then 9 else if i<280 then 7 else 8):=by
 unfold qeu;simp only [List.getElem?_append,List.length_append,length_replicate,List.getElem?_replicate]
 repeat' split
 all_goals first | rfl | (exfalso;omega)
theorem fill5 {w:World} {base n:Nat} {t:Slc} {K:World->Prop} (hn:n<=100000) (ho:Go.Vc.Own qae w base t (List.replicate n 0)) (hK:∀w',Go.Vc.Own qae w' base t (List.replicate n 5)->Chg (fun k=>t.blk=some k) w w'->K w') :
  loopP (σ:=Int×Unit) (fun I s w6=>cond (decide (s.1<((t.n:Nat):Int))) (ixK t s.1 1 fun t49=>stK t49 [(.int .u8 5)] w6 fun w7=>I ((i64.wrap (s.1+(1:Int))),()) w7) (K w6)) (0,()) w:=by
 have htn:t.n=n:=by rw [ho.rd.n,length_replicate]
 rw [htn];have hrl:(List.replicate n (5:UInt8)).length=(List.replicate n (0:UInt8)).length:=by simp
 refine lpR (fun (s:Int×Unit) w2=>∃k:Nat,s.1=k/\k<=n/\Go.Vc.Own qae w2 base t (mix (List.replicate n 5) (List.replicate n 0) k)/\Chg (fun k=>t.blk=some k) w w2) (fun s=>n-s.1.toNat) ⟨0,rfl,by omega,by rw [qxh];exact ho,Chg.refl _ _⟩ ?_;rintro ⟨i,_⟩ w2 ⟨k,rfl,hk,ho2,hc2⟩ I hI;dsimp only at *;refine cO (fun hlt=>?_) (fun hge=>?_)
 ·have hlt:=oTq hlt;have hkl:k<(List.replicate n (0:UInt8)).length:=by simp;omega
  refine ho2.rd.ix rfl (by omega) (by rw [qm5 hrl];simp;omega) fun _=>?_;have hx:(mix (List.replicate n 5) (List.replicate n 0) k)[k]?=some (0:UInt8):=by
   rw [qwi hrl hkl,if_neg (by omega),List.getElem?_replicate,if_pos (by omega)]
  refine ho2.st0 (x:=0) (y:=5) (by rw [show ((k:Int)).toNat=k from rfl];exact hx) rfl fun w3 ho3 hg3 hs3=>?_;rw [show ((k:Int)).toNat=k from rfl,q1r hrl hkl (by rw [List.getElem?_replicate,if_pos (by omega)])] at ho3;rw [w64i (by omega)];exact hI _ _ ⟨k+1,by simp,by omega,ho3,hc2.trans (Chg.of_grown hg3 fun k hk=>hk) fun i _ hi=>hi⟩ (by simp;omega)
 ·have hge:=oFq hge;have:k=n:=by omega
  subst this;have:=q1n hrl;rw [length_replicate] at this;rw [this] at ho2;exact hK w2 ho2 hc2
theorem q4n {w:World} {base:Nat} {t6 t7:Slc} {K:Slc->Slc->World->Prop} (ho6:Go.Vc.Own qae w base t6 (List.replicate 288 0)) (ho7:Go.Vc.Own qae w base t7 (List.replicate 30 0)) (hne:∀k,t6.blk=some k->t7.blk≠some k) (hbase:base<=w.heap.size)
  (hK:∀w',Go.Vc.Own qae w' base t6 qeu->Go.Vc.Own qae w' base t7 (List.replicate 30 5)->Below base w w'->K t6 t7 w') :
  loopP (σ:=Int×Unit) (fun I1 s w3 =>
    cond (decide (s.1<((t6.n:Nat):Int)))
     (cond (decide (s.1<(144:Int)))
      (
       ixK t6 s.1 1 fun t21 =>
       stK t21 [(.int .u8 8)] w3 fun w4 =>
       I1 ((i64.wrap (s.1+(1:Int))),()) w4)
      (cond (decide (s.1<(256:Int)))
        (
        ixK t6 s.1 1 fun t27 =>
        stK t27 [(.int .u8 9)] w3 fun w5 =>
        I1 ((i64.wrap (s.1+(1:Int))),()) w5)
        (cond (decide (s.1<(280:Int)))
         (
          ixK t6 s.1 1 fun t33 =>
          stK t33 [(.int .u8 7)] w3 fun w6 =>
          I1 ((i64.wrap (s.1+(1:Int))),()) w6)
         (
          ixK t6 s.1 1 fun t15 =>
          stK t15 [(.int .u8 8)] w3 fun w7 =>
          I1 ((i64.wrap (s.1+(1:Int))),()) w7))))
     (loopP (σ:=Int×Unit) (fun I2 s_1 w8 =>
      cond (decide (s_1.1<((t7.n:Nat):Int)))
       (
        ixK t7 s_1.1 1 fun t42 =>
        stK t42 [(.int .u8 5)] w8 fun w9 =>
        I2 ((i64.wrap (s_1.1+(1:Int))),()) w9)
       (K t6 t7 w8)) (0,()) w3)) (0,()) w:=by
 have htn:t6.n=288:=by rw [ho6.rd.n,length_replicate]
 rw [htn];have hrl:qeu.length=(List.replicate 288 (0:UInt8)).length:=by rw [qyw,length_replicate]
 refine lpR (fun (s:Int×Unit) w2=>∃k:Nat,s.1=k/\k<=288/\Go.Vc.Own qae w2 base t6 (mix qeu (List.replicate 288 0) k)/\Chg (fun k=>t6.blk=some k) w w2) (fun s=>288-s.1.toNat) ⟨0,rfl,by omega,by rw [qxh];exact ho6,Chg.refl _ _⟩ ?_;rintro ⟨i,_⟩ w2 ⟨k,rfl,hk,ho2,hc2⟩ I hI;dsimp only at *;refine cO (fun hlt=>?_) (fun hge=>?_)
 ·have hlt:=oTq hlt;have hk288:k<288:=by omega
  have hkl:k<(List.replicate 288 (0:UInt8)).length:=by rw [length_replicate];exact hk288
  have hget:=zcv k hk288;have st:∀v:UInt8,qeu[k]?=some v->ixK t6 (k:Int) 1 fun a=>stK a [(.int .u8 (v.toNat:Int))] w2 fun w4=>I ((i64.wrap ((k:Int)+(1:Int))),()) w4:=fun v hv=>by
   refine ho2.rd.ix rfl (by omega) (by rw [qm5 hrl,length_replicate];omega) fun _=>?_;have hx:(mix qeu (List.replicate 288 0) k)[k]?=some (0:UInt8):=by
    rw [qwi hrl hkl,if_neg (by omega),List.getElem?_replicate,if_pos hk288]
   refine ho2.st0 (x:=0) (y:=v) (by rw [show ((k:Int)).toNat=k from rfl];exact hx) rfl fun w3 ho3 hg3 hs3=>?_;rw [show ((k:Int)).toNat=k from rfl,q1r hrl hkl hv] at ho3;rw [w64i (by omega)];exact hI _ _ ⟨k+1,by simp,by omega,ho3,hc2.trans (Chg.of_grown hg3 fun k hk=>hk) fun i _ hi=>hi⟩ (by simp;omega)
  refine cO (fun h1=>?_) (fun h1=>cO (fun h2=>?_) (fun h2=>cO (fun h3=>?_) (fun h3=>?_)))
  ·have h1:=oTq h1;rw [if_pos (by omega)] at hget;exact st 8 hget
  ·have h1:=oFq h1;have h2:=oTq h2;rw [if_neg (by omega),if_pos (by omega)] at hget;exact st 9 hget
  ·have h1:=oFq h1;have h2:=oFq h2;have h3:=oTq h3;rw [if_neg (by omega),if_neg (by omega),if_pos (by omega)] at hget;exact st 7 hget
  ·have h1:=oFq h1;have h2:=oFq h2;have h3:=oFq h3;rw [if_neg (by omega),if_neg (by omega),if_neg (by omega)] at hget;exact st 8 hget
 ·have hge:=oFq hge;have:k=288:=by omega
  subst this;have:=q1n hrl;rw [length_replicate] at this;rw [this] at ho2;have ho7':=ho7.chg hc2 fun j hj e=>hne j e hj;have hs2:=hc2.size;refine fill5 (n:=30) (by decide) ho7' fun w3 ho3 hc3=>?_;have hB:Below base w w3:=(hc2.below hbase fun i hi hs=>by have:=(ho6.lt i hs).1;omega).trans (hc3.below (by omega) fun i hi hs=>by have:=(ho7.lt i hs).1;omega);exact hK w3 (ho2.chg hc3 fun j hj e=>hne j hj e) ho3 hB
theorem zay {w:World} {K:Slc->Slc->World->Prop} (hK:∀t6 t7 w',Go.Vc.Own qae w' w.heap.size t6 qeu->Below w.heap.size w w'->K t6 t7 w'):qsx w K:=by
 refine q3z ?_;unfold qy2;have hBd:Below w.heap.size w w.drew:=(Below.refl _ w).drew;have mk:∀{n:Int} {m:Nat} {w1:World} {F:Slc->World->Prop},n=m->m<=1000->(∀r w2,Go.Vc.Own qae w2 w1.heap.size r (List.replicate m 0)->r.blk=some w1.heap.size->Below w1.heap.size w1 w2->F r w2)->mkSl PG qab (.int .i64 n) (.int .i64 n) w1 F:=by
  intro n m w1 F e hm hF;exact qpl qau (x0:=(0:UInt8)) rfl (n:=m) e e (by rw [qc0];omega) (by simp only [maxLen];omega) fun w2 ho hB=>hF _ w2 ho rfl hB
 refine ⟨?_,?_⟩
 ·refine mk (m:=288) rfl (by decide) fun t6 w1 ho1 hb1 hB1=>?_;refine mk (m:=30) rfl (by decide) fun t7 w2 ho2 hb2 hB2=>?_;have hs1:w.heap.size<=w1.heap.size:=hB1.size;refine q4n (base:=w.heap.size) (ho1.ext hB2) (ho2.base hs1) (fun k e e'=>?_) (le_trans hs1 hB2.size) fun w3 h6 h7 hB3=>?_
  ·rw [hb2] at e';cases e';have:=(ho1.lt _ e).2;omega
  ·exact hK _ _ w3 h6 ((hBd.trans (hB1.trans (hB2.mono hs1))).trans hB3)
 ·refine mk (m:=30) rfl (by decide) fun t7 w1 ho1 hb1 hB1=>?_;refine mk (m:=288) rfl (by decide) fun t6 w2 ho2 hb2 hB2=>?_;have hs1:w.heap.size<=w1.heap.size:=hB1.size;refine q4n (base:=w.heap.size) (ho2.base hs1) (ho1.ext hB2) (fun k e e'=>?_) (le_trans hs1 hB2.size) fun w3 h6 h7 hB3=>?_
  ·rw [hb2] at e;cases e;have:=(ho1.lt _ e').2;omega
  ·exact hK _ _ w3 h6 ((hBd.trans (hB1.trans (hB2.mono hs1))).trans hB3)
structure TabR (w:World) (base:Nat) (f:TF) (ls:List UInt8):Prop where
 blk:Blk w f.g qbz (qdz (cntK ls) f.so f.co f.lo (lastK ls))
 so:Go.Vc.Own E_int w base f.so (ints (qbv ls 15))
 hg:base<=f.g
 sm:ls.length<=320
 small:∀x∈ls,x.toNat<=15
 room:roomN ls<=32768
theorem TabM.r {w:World} {base:Nat} {f:TF} {ls:List UInt8} (h:TabM w base f ls):TabR w base f ls:=⟨h.blk,h.so,h.hg,h.sm,h.small,h.room⟩
def NoTab (w:World) (k:Nat):Prop:=∃t cs,Blk w k t cs/\t≠qbz/\t≠qa9
section
variable {w w':World} {base:Nat} {f:TF} {ls:List UInt8}
theorem TabR.chg {T:Nat->Prop} (h:TabR w base f ls) (hc:Chg T w w') (hT:∀k,T k->k<w.heap.size->NoTab w k):TabR w' base f ls:=by
 refine ⟨h.blk.chg hc fun hs=>?_,h.so.chg hc fun k hk hs=>?_,h.hg,h.sm,h.small,h.room⟩
 ·obtain ⟨t,cs,hb,h1,h2⟩:=hT _ hs h.blk.lt;exact hb.ne_t h.blk h1 rfl
 ·obtain ⟨t,cs,hb,h1,h2⟩:=hT _ hs (h.so.lt k hk).2;obtain ⟨cs',hcs'⟩:=h.so.blk_t hk;exact hb.ne_t hcs' h2 rfl
theorem TabR.ext (h:TabR w base f ls) (hb:Below w.heap.size w w'):TabR w' base f ls:=h.chg (Chg.of_ext (S:=fun _=>False) hb) fun _ h=>h.elim
theorem TabR.base_le {b:Nat} (h:TabR w base f ls) (hb:b<=base):TabR w b f ls:=⟨h.blk,h.so.base hb,le_trans hb h.hg,h.sm,h.small,h.room⟩
end
structure DF where
 d:Nat
 wait:Slc
 ring:Slc
 out:Slc
 sg:Option TF
 ds:Option TF
structure DS where
 most:Nat
 told:Nat
 took:Nat
 given:Nat
 skip:Nat
 c:Cfg
 wait:List UInt8
 out:List UInt8
def dS (F:DF) (k:Nat):Prop:=k=F.d\/F.ring.blk=some k\/F.out.blk=some k
def tp (o:Option TF):Option Addr:=o.map fun f=>⟨f.g,0,none⟩
def qa5 (F:DF) (S:DS) (failed:Int):List Value :=
 [.int .i64 S.most,.int .i64 S.c.mode,.bool S.c.last,.slice F.wait.a F.wait.n F.wait.c,.int .i64 S.skip,.int .i64 S.c.left,.pointer (tp F.sg),.pointer (tp F.ds),.slice F.ring.a F.ring.n F.ring.c,.int .i64 S.c.hist.length,.int .i64 S.told,.int .i64 S.took,.int .i64 S.given,.int .i64 failed,.slice F.out.a F.out.n F.out.c]
structure DecM (w:World) (base:Nat) (F:DF) (S:DS):Prop where
 blk:Blk w F.d qbh (qa5 F S 0)
 hd:base<=F.d
 ring:Go.Vc.Own qae w base F.ring (qd0 S.c.hist)
 out:Go.Vc.Own qae w base F.out S.out
 wait:Rd qae w F.wait S.wait
 tabs:S.c.mode=4->∃f1 f2,F.sg=some f1/\F.ds=some f2/\TabR w base f1 S.c.sg/\TabR w base f2 S.c.ds
 ne:∀k,F.ring.blk=some k->F.out.blk≠some k
 wn:∀k,F.wait.blk=some k->F.ring.blk≠some k/\F.out.blk≠some k/\k≠F.d
 m5:S.c.mode<=5
 mo:S.most<=1073741824
 ho:S.out.length<=S.c.hist.length
 hm:S.c.hist.length<=S.most
 hl:S.c.left<=65535
 hw:S.wait.length<=100000000000
 hs:S.skip<=8
 ht:S.took<=1000000000000/\S.given<=1000000000000/\S.told<=S.c.hist.length
section
variable {w w':World} {base:Nat} {F:DF} {S:DS}
theorem DecM.noTab (h:DecM w base F S):∀k,dS F k->NoTab w k:=by
 rintro k (rfl | hk | hk)
 ·exact ⟨_,_,h.blk,by decide,by decide⟩
 ·obtain ⟨cs,hcs⟩:=h.ring.blk_t hk;exact ⟨_,_,hcs,by decide,by decide⟩
 ·obtain ⟨cs,hcs⟩:=h.out.blk_t hk;exact ⟨_,_,hcs,by decide,by decide⟩
theorem DecM.below (h:DecM w base F S):∀k,dS F k->base<=k/\k<w.heap.size:=by
 rintro k (rfl | hk | hk)
 ·exact ⟨h.hd,h.blk.lt⟩
 ·exact h.ring.lt k hk
 ·exact h.out.lt k hk
theorem DecM.chg {T:Nat->Prop} (h:DecM w base F S) (hc:Chg T w w') (hT:∀k,dS F k\/F.wait.blk=some k->¬T k) (hN:∀k,T k->k<w.heap.size->NoTab w k):DecM w' base F S:=by
 refine ⟨h.blk.chg hc (hT _ (.inl (.inl rfl))),h.hd,h.ring.chg hc fun k hk=>hT k (.inl (.inr (.inl hk))),h.out.chg hc fun k hk=>hT k (.inl (.inr (.inr hk))),h.wait.chg hc fun a ha=>hT _ (.inr (slk.2 ⟨a,ha,rfl⟩)),fun hm=>?_,h.ne,h.wn,h.m5,h.mo,h.ho,h.hm,h.hl,h.hw,h.hs,h.ht⟩;obtain ⟨f1,f2,e1,e2,t1,t2⟩:=h.tabs hm;exact ⟨f1,f2,e1,e2,t1.chg hc hN,t2.chg hc hN⟩
theorem DecM.ext (h:DecM w base F S) (hb:Below w.heap.size w w'):DecM w' base F S:=h.chg (Chg.of_ext (S:=fun _=>False) hb) (fun _ _=>id) fun _ h=>h.elim
theorem DecM.drew (h:DecM w base F S):DecM w.drew base F S:=h.ext ((Below.refl _ w).drew)
theorem DecM.put {F':DF} {S':DS} (h:DecM w base F S) (hb:Blk w' F.d qbh (qa5 F' S' 0)) (hg:w.grownBy w' (some F.d)) (e1:F'.d=F.d) (e2:F'.ring=F.ring) (e3:F'.out=F.out) (e4:F'.wait=F.wait) (e5:S'.c.hist=S.c.hist) (e6:S'.out=S.out) (e7:S'.wait=S.wait) (e8:S'.most=S.most)
  (ht:S'.c.mode=4->∃f1 f2,F'.sg=some f1/\F'.ds=some f2/\TabR w' base f1 S'.c.sg/\TabR w' base f2 S'.c.ds) (h5:S'.c.mode<=5) (hl:S'.c.left<=65535) (hs:S'.skip<=8) (htt:S'.took<=1000000000000/\S'.given<=1000000000000/\S'.told<=S'.c.hist.length):DecM w' base F' S':=by
 have hc:=Chg.gg hg;have ap:∀{s:Slc} {xs:List UInt8},Go.Vc.Own qae w base s xs->∀k,s.blk=some k->k≠F.d:=fun ho k hk=>by
  obtain ⟨cs,hcs⟩:=ho.blk_t hk;exact hcs.ne_t h.blk (by decide)
 refine ⟨by rw [e1];exact hb,by rw [e1];exact h.hd,by rw [e2,e5];exact h.ring.chg hc (ap h.ring),by rw [e3,e6];exact h.out.chg hc (ap h.out),by rw [e4,e7];exact h.wait.chg hc fun a ha=>(h.wn _ (slk.2 ⟨a,ha,rfl⟩)).2.2,ht,by rw [e2,e3];exact h.ne,by rw [e4,e2,e3,e1];exact h.wn,h5,by rw [e8];exact h.mo,by rw [e6,e5];exact h.ho,by rw [e5,e8];exact h.hm,hl,by rw [e7];exact h.hw,hs,htt⟩
theorem DecM.tabs' (h:DecM w base F S) (hg:w.grownBy w' (some F.d)):S.c.mode=4->∃f1 f2,F.sg=some f1/\F.ds=some f2/\TabR w' base f1 S.c.sg/\TabR w' base f2 S.c.ds:=fun hm=>by
 obtain ⟨f1,f2,e1,e2,t1,t2⟩:=h.tabs hm;have hN:∀k,k=F.d->k<w.heap.size->NoTab w k:=fun k e _=>by subst e;exact h.noTab _ (.inl rfl)
 exact ⟨f1,f2,e1,e2,t1.chg (Chg.gg hg) hN,t2.chg (Chg.gg hg) hN⟩
theorem zg6 {K:World->Prop} (h:DecM w base F S) (hK:∀w',DecM w' base F { S with c:=S.c.behind }->Chg (fun k=>k=F.d) w w'->K w'):qdc (some ⟨F.d,0,none⟩) w K:=by
 refine qr7 _ ?_;unfold qkn;simp only [onPtr_some];rw [qas];refine qaj h.blk (by simp [qa5]) fun w1 hb1 hg1 hs1=>?_;have h1:DecM w1 base F { S with c:={ S.c with mode:=0 } }:=h.put hb1 hg1 rfl rfl rfl rfl rfl rfl rfl rfl (fun e=>by cases e) (zero_le _) h.hl h.hs h.ht;refine qc5 (x:=S.c.last) (h1.blk.cells 2 _ rfl) ?_;cases hl:S.c.last with
 | true =>
  refine cT rfl ?_;refine qaj h1.blk (by simp [qa5]) fun w2 hb2 hg2 hs2=>?_;refine hK w2 ?_ ((Chg.gg hg1).trans (Chg.gg hg2) fun i _ hi=>hi);have e:S.c.behind={ S.c with mode:=5 }:=by unfold Cfg.behind;rw [if_pos hl]
  rw [e];exact h1.put hb2 hg2 rfl rfl rfl rfl rfl rfl rfl rfl (fun e=>by cases e) (le_refl _) h.hl h.hs h.ht
 | false =>
  refine cF rfl ?_;refine hK w1 ?_ (Chg.gg hg1);have e:S.c.behind={ S.c with mode:=0 }:=by unfold Cfg.behind;rw [if_neg (by rw [hl];decide)]
  rw [e];exact h1
structure DF.to (F F':DF) (n:Nat):Prop where
 d:F'.d=F.d
 wait:F'.wait=F.wait
 ring:F'.ring.blk=F.ring.blk\/∃k,F'.ring.blk=some k/\n<=k
 out:F'.out.blk=F.out.blk\/∃k,F'.out.blk=some k/\n<=k
theorem DF.to.refl (F:DF) (n:Nat):F.to F n:=⟨rfl,rfl,.inl rfl,.inl rfl⟩
theorem DF.to.old {F F':DF} {n:Nat} (h:F.to F' n):∀k,dS F' k->dS F k\/n<=k:=by
 rintro k (e | hk | hk)
 ·exact .inl (.inl (e.trans h.d))
 ·rcases h.ring with e | ⟨j,e,hj⟩
  ·exact .inl (.inr (.inl (by rw [<-e];exact hk)))
  ·rw [e] at hk;cases hk;exact .inr hj
 ·rcases h.out with e | ⟨j,e,hj⟩
  ·exact .inl (.inr (.inr (by rw [<-e];exact hk)))
  ·rw [e] at hk;cases hk;exact .inr hj
theorem DF.to.trans {F F' F'':DF} {n n':Nat} (h:F.to F' n) (h':F'.to F'' n') (hn:n<=n'):F.to F'' n:=by
 refine ⟨h'.d.trans h.d,h'.wait.trans h.wait,?_,?_⟩
 ·rcases h'.ring with e | ⟨k,e,hk⟩
  ·rcases h.ring with e' | ⟨j,e',hj⟩
   ·exact .inl (e.trans e')
   ·exact .inr ⟨j,e.trans e',hj⟩
  ·exact .inr ⟨k,e,by omega⟩
 ·rcases h'.out with e | ⟨k,e,hk⟩
  ·rcases h.out with e' | ⟨j,e',hj⟩
   ·exact .inl (e.trans e')
   ·exact .inr ⟨j,e.trans e',hj⟩
  ·exact .inr ⟨k,e,by omega⟩
theorem zhy {c:UInt8} {v:Int} {K:Int->World->Prop} (hv:v=(c.toNat:Int)) (h:DecM w base F S) (hbase:base<=w.heap.size) (hwb:∀k,F.wait.blk=some k->k<w.heap.size)
  (hK1:S.most<=S.c.hist.length->K 5 w.drew)
  (hK2:∀F' w',S.c.hist.length<S.most->DecM w' base F' { S with c:={ S.c with hist:=S.c.hist++[c] },out:=S.out++[c] }->F.to F' w.heap.size->Chg (dS F) w w'->K 0 w'):qcr (some ⟨F.d,0,none⟩) v w K:=by
 subst hv;refine qsn _ _ ?_;unfold qlu;simp only [onPtr_some];have hd:=h.drew;have hmo:=h.mo;refine lI (x:=((S.c.hist.length:Nat):Int)) (hd.blk.cells 9 _ rfl) ?_;refine lI (x:=((S.most:Nat):Int)) (hd.blk.cells 0 _ rfl) ?_;refine cO (fun hfull=>hK1 (by have:=oTq hfull;omega)) (fun hroom=>?_);have hroom:S.c.hist.length<S.most:=by have:=oFq hroom;omega
 clear hK1;have hrn:F.ring.n=(qd0 S.c.hist).length:=h.ring.rd.n;have hrl:=qrg S.c.hist;have dne:∀{w':World} {s:Slc} {xs:List UInt8} {b:Nat} {cs:List Value},Go.Vc.Own qae w' b s xs->Blk w' F.d qbh cs->∀k,s.blk=some k->k≠F.d:=fun ho hb k hk=>by
  obtain ⟨cs',hcs'⟩:=ho.blk_t hk;exact hcs'.ne_t hb (by decide)
 refine jpO fun J hJ=>?_;have mid:∀(rg:Slc) w1,Blk w1 F.d qbh (qa5 { F with ring:=rg } S 0)->Go.Vc.Own qae w1 base rg (qd0 (S.c.hist++[c]))->(rg.blk=F.ring.blk\/∃k,rg.blk=some k/\w.heap.size<=k)->Chg (fun k=>k=F.d\/F.ring.blk=some k) w w1->J () w1:=fun rg w1 hb1 hr1 hrb hc1=>hJ _ _ (by
  clear hJ;have hs1:=hc1.size;have ho1:Go.Vc.Own qae w1 base F.out S.out:=h.out.chg hc1 fun k hk hs=>by
   rcases hs with e | e
   ·exact dne h.out h.blk k hk e
   ·exact h.ne k e hk
  have hw1:Rd qae w1 F.wait S.wait:=h.wait.chg hc1 fun a ha hs=>by
   have:=h.wn _ (slk.2 ⟨a,ha,rfl⟩);rcases hs with e | e
   ·exact this.2.2 e
   ·exact this.1 e
  refine lI (x:=((S.c.hist.length:Nat):Int)) (hb1.cells 9 _ rfl) ?_;rw [qas,w64i (by omega)];refine qaj hb1 (by simp [qa5]) fun w2 hb2 hg2 hs2=>?_;have ho2:=ho1.chg (Chg.gg hg2) (dne ho1 hb1);have hr2:=hr1.chg (Chg.gg hg2) (dne hr1 hb1);have hw2:=hw1.chg (Chg.gg hg2) fun a ha=>(h.wn _ (slk.2 ⟨a,ha,rfl⟩)).2.2;refine lSl (x:=F.out) (hb2.cells 14 _ rfl) ?_;have hol:=h.ho;refine apB1 (c:=c) rfl ho2 (by omega) (by omega) fun q w3 ho3 hc3 hq3=>?_;have hb3:=hb2.chg hc3 fun e=>dne ho2 hb2 _ e rfl;have outne:∀k,F.out.blk=some k->rg.blk≠some k:=fun k hk e=>by
   rcases hrb with e' | ⟨j,e',hj⟩
   ·exact h.ne k (by rw [<-e'];exact e) hk
   ·rw [e'] at e;cases e;have:=(h.out.lt _ hk).2;omega
  have hr3:=hr2.chg hc3 fun k hk hs=>outne k hs hk;have hw3:=hw2.chg hc3 fun a ha hs=>(h.wn _ (slk.2 ⟨a,ha,rfl⟩)).2.1 hs;rw [show (⟨F.d,0,none⟩:Addr).add 14=⟨F.d,0+14,none⟩ from qas _ _ _];refine qaj hb3 (by simp [qa5,qlk]) fun w4 hb4 hg4 hs4=>?_;have hr4:=hr3.chg (Chg.gg hg4) (dne hr3 hb3);have ho4:=ho3.chg (Chg.gg hg4) (dne ho3 hb3);have hw4:=hw3.chg (Chg.gg hg4) fun a ha=>(h.wn _ (slk.2 ⟨a,ha,rfl⟩)).2.2;have hc4:Chg (dS F) w w4:=((((hc1.mono fun i _ hi=>by rcases hi with e | e;exact .inl e;exact .inr (.inl e)).trans (Chg.gg hg2) fun i _ hi=>.inl hi).trans hc3 fun i _ hi=>.inr (.inr hi)).trans (Chg.gg hg4) fun i _ hi=>.inl hi);have hs2':=hs2;have hqb:q.blk=F.out.blk\/∃k,q.blk=some k/\w.heap.size<=k:=by
   rcases hq3 with e | ⟨k,e,hk⟩
   ·exact .inl e
   ·exact .inr ⟨k,e,by omega⟩
  refine hK2 { F with ring:=rg,out:=q } w4 hroom ⟨?_,h.hd,hr4,ho4,hw4,fun hm=>?_,fun k hk e=>?_,fun k hk=>⟨fun e=>?_,fun e=>?_,(h.wn k hk).2.2⟩,h.m5,h.mo,?_,?_,h.hl,h.hw,h.hs,?_⟩ ⟨rfl,rfl,hrb,hqb⟩ hc4
  ·have e:((S.c.hist.length:Nat):Int)+1=(((S.c.hist++[c]).length:Nat):Int):=by simp
   rw [e] at hb4;exact hb4
  ·obtain ⟨f1,f2,e1,e2,t1,t2⟩:=h.tabs hm;exact ⟨f1,f2,e1,e2,t1.chg hc4 fun k hk _=>h.noTab k hk,t2.chg hc4 fun k hk _=>h.noTab k hk⟩
  ·rcases hqb with e' | ⟨j,e',hj⟩
   ·exact outne k (by rw [<-e'];exact e) hk
   ·rcases hq3 with e2 | ⟨j2,e2,hj2⟩
    ·exact outne k (by rw [<-e2];exact e) hk
    ·rw [e2] at e;cases e;have:=(hr2.lt _ hk).2;omega
  ·rcases hrb with e' | ⟨j,e',hj⟩
   ·exact (h.wn k hk).1 (by rw [<-e'];exact e)
   ·have e:rg.blk=some k:=e;rw [e'] at e;cases e;have:=hwb _ hk;omega
  ·rcases hqb with e' | ⟨j,e',hj⟩
   ·exact (h.wn k hk).2.1 (by rw [<-e'];exact e)
   ·have e:q.blk=some k:=e;rw [e'] at e;cases e;have:=hwb _ hk;omega
  ·show (S.out++[c]).length<=(S.c.hist++[c]).length;simp;omega
  ·show (S.c.hist++[c]).length<=S.most;simp;omega
  ·refine ⟨h.ht.1,h.ht.2.1,?_⟩;show S.told<=(S.c.hist++[c]).length;have:=h.ht.2.2;simp;omega)
 refine lSl (x:=F.ring) (hd.blk.cells 8 _ rfl) ?_;by_cases hlt:((F.ring.n:Nat):Int)<32768
 ·rw [dTq hlt,cond_true];refine lSl (x:=F.ring) (hd.blk.cells 8 _ rfl) ?_;refine apB1 (c:=c) rfl hd.ring hbase (by omega) fun q w1 ho1 hc1 hq1=>?_;have hb1:=hd.blk.chg hc1 fun e=>dne hd.ring hd.blk _ e rfl;rw [qas];refine qaj hb1 (by simp [qa5]) fun w2 hb2 hg2 hs2=>?_;refine mid q w2 hb2 ?_ hq1 ?_
  ·rw [qpp,if_pos (by omega)];exact ho1.chg (Chg.gg hg2) (dne ho1 hb1)
  ·have hc0:Chg (fun k=>k=F.d\/F.ring.blk=some k) w w.drew:=Chg.of_ext ((Below.refl _ w).drew);exact (hc0.trans hc1 fun i _ hi=>.inr hi).trans (Chg.gg hg2) fun i _ hi=>.inl hi
 ·rw [dFq hlt,cond_false];have hdd:=hd.drew;refine lSl (x:=F.ring) (hdd.blk.cells 8 _ rfl) ?_;refine lI (x:=((S.c.hist.length:Nat):Int)) (hdd.blk.cells 9 _ rfl) ⟨by decide,?_⟩;have e:((S.c.hist.length:Nat):Int).tmod 32768=((S.c.hist.length%32768:Nat):Int):=IntWalk.up_tmod rfl rfl;rw [e];refine hdd.ring.rd.ix rfl (by omega) (by omega) fun _=>?_;refine hdd.ring.st0 (x:=(qd0 S.c.hist)[S.c.hist.length%32768]'(by omega)) (y:=c) (List.getElem?_eq_getElem _) rfl fun w1 ho1 hg1 hs1=>?_;have hc1:Chg (fun k=>F.ring.blk=some k) w.drew.drew w1:=Chg.of_grown hg1 fun k hk=>hk;refine mid F.ring w1 (hdd.blk.chg hc1 fun e=>dne hdd.ring hdd.blk _ e rfl) ?_ (.inl rfl) ?_
  ·rw [qpp,if_neg (by omega)];exact ho1
  ·have hc0:Chg (fun k=>k=F.d\/F.ring.blk=some k) w w.drew.drew:=Chg.of_ext ((Below.refl _ w).drew.drew);exact hc0.trans hc1 fun i _ hi=>.inr hi
end
inductive Ch (most:Nat) (bs:List UInt8):Cfg->Nat->Cfg->Nat->Prop
 | refl (c:Cfg) (a:Nat):Ch most bs c a c a
 | step {c:Cfg} {a:Nat} {c1:Cfg} {a1:Nat} {c2:Cfg} {a2:Nat} (h:step1 most bs a c=.next c1 a1) (r:Ch most bs c1 a1 c2 a2):Ch most bs c a c2 a2
theorem Ch.one {most:Nat} {bs:List UInt8} {c c1:Cfg} {a a1:Nat} (h:step1 most bs a c=.next c1 a1):Ch most bs c a c1 a1:=.step h (.refl _ _)
theorem Ch.trans {most:Nat} {bs:List UInt8} {c c1 c2:Cfg} {a a1 a2:Nat} (h:Ch most bs c a c1 a1) (h':Ch most bs c1 a1 c2 a2):Ch most bs c a c2 a2:=by
 induction h with
 | refl=>exact h'
 | step h r ih=>exact .step h (ih h')
structure DR (w:World) (base:Nat) (F:DF) (S:DS) (r:Nat) (rs:Slc) (at_:Nat):Prop where
 d:DecM w base F S
 rdr:RdrM w r rs S.wait at_
 sep:∀k,rs.blk=some k->¬dS F k
 rb:base<=r
 wr:∀k,F.wait.blk=some k->k≠r
 wl:∀k,F.wait.blk=some k->k<w.heap.size
 sl:∀k,rs.blk=some k->k<w.heap.size
def drS (F:DF) (r:Nat) (k:Nat):Prop:=dS F k\/k=r
section
variable {w w':World} {base:Nat} {F:DF} {S:DS} {r:Nat} {rs:Slc} {at_:Nat}
theorem DR.r_d (h:DR w base F S r rs at_):¬dS F r:=fun hs=>by
 rcases hs with e | e | e
 ·exact h.rdr.blk.ne_t h.d.blk (by decide) e
 ·obtain ⟨cs,hcs⟩:=h.d.ring.blk_t e;exact h.rdr.blk.ne_t hcs (by decide) rfl
 ·obtain ⟨cs,hcs⟩:=h.d.out.blk_t e;exact h.rdr.blk.ne_t hcs (by decide) rfl
theorem DR.moved {b:Nat} (h:DR w base F S r rs at_) (hr:RdrM w' r rs S.wait b) (hc:Chg (fun k=>k=r) w w'):DR w' base F S r rs b:=by
 have hs:=hc.size;refine ⟨h.d.chg hc (fun k hk e=>?_) fun k e _=>?_,hr,h.sep,h.rb,h.wr,fun k hk=>by have:=h.wl k hk;omega,fun k hk=>by have:=h.sl k hk;omega⟩
 ·subst e;rcases hk with hk | hk
  ·exact h.r_d hk
  ·exact h.wr _ hk rfl
 ·subst e;exact ⟨_,_,h.rdr.blk,by decide,by decide⟩
theorem DR.ext (h:DR w base F S r rs at_) (hb:Below w.heap.size w w'):DR w' base F S r rs at_ :=
 ⟨h.d.ext hb,h.rdr.ext hb,h.sep,h.rb,h.wr,fun k hk=>by have:=h.wl k hk;have:=hb.size;omega,fun k hk=>by have:=h.sl k hk;have:=hb.size;omega⟩
theorem DR.drew (h:DR w base F S r rs at_):DR w.drew base F S r rs at_:=h.ext ((Below.refl _ w).drew)
theorem DR.decd {F':DF} {S':DS} (h:DR w base F S r rs at_) (hd:DecM w' base F' S') (hto:F.to F' w.heap.size) (hw:S'.wait=S.wait) (hc:Chg (dS F) w w'):DR w' base F' S' r rs at_:=by
 have hs:=hc.size;refine ⟨hd,?_,fun k hk hs'=>?_,h.rb,by rw [hto.wait];exact h.wr,fun k hk=>?_,fun k hk=>by have:=h.sl k hk;omega⟩
 ·rw [hw];exact h.rdr.chg hc h.r_d h.sep
 ·rcases hto.old k hs' with e | e
  ·exact h.sep k hk e
  ·have:=h.sl k hk;omega
 ·rw [hto.wait] at hk;have:=h.wl k hk;omega
theorem DR.own {F':DF} {S':DS} (h:DR w base F S r rs at_) (hd:DecM w' base F' S') (e1:F'.d=F.d) (e2:F'.ring=F.ring) (e3:F'.out=F.out) (e4:F'.wait=F.wait) (hw:S'.wait=S.wait) (hg:w.grownBy w' (some F.d)):DR w' base F' S' r rs at_ :=
 h.decd hd ⟨e1,e4,.inl (by rw [e2]),.inl (by rw [e3])⟩ hw ((Chg.gg hg).mono fun i _ hi=>.inl hi)
theorem drS_d {F:DF} {r:Nat} {w w':World} (h:Chg (dS F) w w'):Chg (drS F r) w w':=h.mono fun _ _ hi=>.inl hi
theorem drS_r {F:DF} {r:Nat} {w w':World} (h:Chg (fun k=>k=r) w w'):Chg (drS F r) w w':=h.mono fun _ _ hi=>.inr hi
theorem drS_g {F:DF} {r:Nat} {w w':World} (h:w.grownBy w' (some F.d)):Chg (drS F r) w w':=(Chg.gg h).mono fun _ _ hi=>.inl (.inl hi)
theorem rBits {n:Int} {K:Int->Bool->World->Prop} (h:DR w base F S r rs at_)
  (hK1:∀(m:Nat) w',n=m->m<=32->at_+m<=8*S.wait.length->DR w' base F S r rs (at_+m)->Chg (drS F r) w w'->K ((peekN S.wait at_ m:Nat):Int) true w')
  (hK2:∀w',(n<0\/n>32\/(at_:Int)+n>8*S.wait.length)->DR w' base F S r rs at_->Chg (drS F r) w w'->K 0 false w'):qa6 (some ⟨r,0,none⟩) n w K :=
 qz4 h.rdr (fun m w' e hm hl hr hc=>hK1 m w' e hm hl (h.moved hr hc) (drS_r hc)) (fun w' hn hB=>hK2 w' hn (h.ext hB) (Chg.of_ext hB))
def qo4 (S:DS) (at_:Nat) (e:Int) (S':DS) (at':Nat):Prop :=
 S'.most=S.most/\S'.given=S.given/\S'.told=S.told /\
 (
  (e=0/\(∃c1 a1,step1 S.most S.wait at_ S.c=.next c1 a1/\Ch S.most S.wait c1 a1 S'.c at')/\(∃x,S'.c.hist=S.c.hist++x/\S'.out=S.out++x)/\S'.wait=S.wait/\S'.took=S.took/\S'.skip=S.skip) \/
  (e=2/\∃k a,Ch S.most S.wait S.c at_ S'.c a/\step1 S.most S.wait a S'.c=.short/\(∃x,S'.c.hist=S.c.hist++x/\S'.out=S.out++x)/\S'.wait=S.wait.drop k/\k<=S.wait.length/\S'.took=S.took+k/\a=8*k+min at_ at'/\S'.c.mode<=4) \/
  (∃n:Nat,e=(n:Int)/\(n=3\/n=5)/\(∃c a,Ch S.most S.wait S.c at_ c a/\step1 S.most S.wait a c=.err n)/\S'.took=S.took/\S'.wait=S.wait))
theorem zj1 (a:Nat) (h:a<2^32):bitsR .and .u32 ((a:Nat):Int) 1=((a%2:Nat):Int):=by
 rw [show (1:Int)=((1:Nat):Int) from rfl,qgr .u32 h (by decide),q5o]
theorem zhr:¬qj9 qeu/\¬qd2 qeu/\¬qj9 fiveL/\¬qd2 fiveL:=by
 have h1:∀x∈qeu,x.toNat<=15:=by decide +kernel
 have h2:∀x∈fiveL,x.toNat<=15:=by decide +kernel
 have h3:roomN qeu=32768:=by decide +kernel
 have h4:roomN fiveL=32768:=by decide +kernel
 refine ⟨?_,?_,?_,?_⟩
 ·rintro (h | ⟨x,hx,h⟩)
  ·rw [qyw] at h;omega
  ·have:=h1 x hx;omega
 ·unfold qd2;omega
 ·rintro (h | ⟨x,hx,h⟩)
  ·have:fiveL.length=32:=by unfold fiveL;rw [length_replicate]
   omega
  ·have:=h2 x hx;omega
 ·unfold qd2;omega
theorem zfs {K:Int->World->Prop} (h:DR w base F S r rs at_) (hm:S.c.mode=0) (hbase:base<=w.heap.size)
  (hK:∀e F' S' at' w',qo4 S at_ e S' at'->DR w' base F' S' r rs at'->F.to F' w.heap.size->Chg (drS F r) w w'->K e w'):qgt (some ⟨F.d,0,none⟩) (some ⟨r,0,none⟩) w K:=by
 refine qsb _ _ ?_;unfold qks;have hst:step1 S.most S.wait at_ S.c=qi5 S.wait at_ S.c:=by rw [step1,if_neg (by omega),stepN,if_pos hm]
 refine rBits h (fun m w1 e _ hl h1 hc1=>?_) (fun w1 hn h1 hc1=>?_)
 ·have:m=3:=by omega
  subst this;refine cF rfl ?_;have hv:=qcx S.wait at_ 3
  unfold qi5 at hst;rw [if_neg (by omega)] at hst;obtain ⟨v,hv'⟩:∃v,peekN S.wait at_ 3=v:=⟨_,rfl⟩
  rw [hv'] at hst hv ⊢;dsimp only at hst;simp only [onPtr_some];rw [zj1 v (by omega),qas];have hvb:(((v%2:Nat):Int)==1)=(v%2==1):=by
   rcases Nat.mod_two_eq_zero_or_one v with e | e<;>rw [e]<;>rfl
  rw [hvb];refine qaj h1.d.blk (by simp [qa5]) fun w2 hb2 hg2 hs2=>?_;have hd2:DecM w2 base F { S with c:={ S.c with last:=v%2==1 } }:=h1.d.put hb2 hg2 rfl rfl rfl rfl rfl rfl rfl rfl (fun e=>by have e:S.c.mode=4:=e;omega) h1.d.m5 h1.d.hl h1.d.hs h1.d.ht;have h2:=h1.own hd2 rfl rfl rfl rfl rfl hg2;have hc2:Chg (drS F r) w w2:=hc1.trans (drS_g hg2) fun i _ hi=>hi;rw [show min ((1:Int)).toNat u32.bits=1 by decide,qft,Nat.pow_one];have hs2':=hc2.size;refine ⟨by decide,?_⟩;have fin:∀(c:Cfg) F' w3,step1 S.most S.wait at_ S.c=.next c (at_+3)->c.hist=S.c.hist->DR w3 base F' { S with c:=c } r rs (at_+3)->F.to F' w.heap.size->Chg (drS F r) w w3->K 0 w3:=fun c F' w3 hs hh h3 hto hc3 =>
   hK 0 F' { S with c:=c } (at_+3) w3 ⟨rfl,rfl,rfl,.inl ⟨rfl,⟨_,_,hs,.refl _ _⟩,⟨[],by simp [hh],by simp⟩,rfl,rfl,rfl⟩⟩ h3 hto hc3
  refine cO (fun e0=>?_) (fun e0=>cO (fun e1=>?_) (fun e1=>cO (fun e2=>?_) (fun e2=>?_)))
  ·have e0:v/2=0:=by have:=eq_of_beq e0;omega
   rw [if_pos e0] at hst;rw [qas];refine qaj h2.d.blk (by simp [qa5]) fun w3 hb3 hg3 hs3=>?_;have hd3:DecM w3 base F { S with c:={ S.c with last:=v%2==1,mode:=1 } }:=h2.d.put hb3 hg3 rfl rfl rfl rfl rfl rfl rfl rfl (fun e=>by cases e) (by show 1<=5;decide) h2.d.hl h2.d.hs h2.d.ht;exact fin _ F w3 hst rfl (h2.own hd3 rfl rfl rfl rfl rfl hg3) (DF.to.refl _ _) (hc2.trans (drS_g hg3) fun i _ hi=>hi)
  ·have e0:v/2≠0:=by have:=beq_eq_false_iff_ne.1 e0;omega
   have e1:v/2=1:=by have:=eq_of_beq e1;omega
   rw [if_neg e0,if_pos e1] at hst;obtain ⟨k1,k2,k3,k4⟩:=zhr;refine zay fun t6 t7 w4 ho4 hB4=>?_;have h4:=h2.ext hB4;refine qpl qau (x0:=(0:UInt8)) rfl (n:=32) rfl rfl (by rw [qc0];omega) (by simp only [maxLen];omega) fun w5 ho5 hB5=>?_;have h5:=h4.ext hB5;have ho45:=ho4.ext hB5;refine fill5 (n:=32) (by decide) ho5 fun w6 ho6 hc6=>?_;have hfr:∀k,(⟨some ⟨w4.heap.size,0,none⟩,32,32⟩:Slc).blk=some k->k=w4.heap.size:=fun k hk=>by cases hk;rfl
   have hB46:Below w4.heap.size w4 w6:=hB5.trans (hc6.below hB5.size fun i hi hs=>by have:=hfr i hs;omega);have h6:=h4.ext hB46;have ho46:=ho4.ext hB46;refine q29 ho46.rd (fun hb=>absurd hb k1) (fun _ hb=>absurd hb k2) (fun _ _ f1 w8 ht8 hB8=>?_);have h8:=h6.ext hB8;rw [qas];refine qaj h8.d.blk (by simp [qa5]) fun w9 hb9 hg9 hs9=>?_;have hd9:DecM w9 base { F with sg:=some f1 } { S with c:={ S.c with last:=v%2==1 } }:=h8.d.put hb9 hg9 rfl rfl rfl rfl rfl rfl rfl rfl (fun e=>by have e:S.c.mode=4:=e;omega) h8.d.m5 h8.d.hl h8.d.hs h8.d.ht;have h9:=h8.own hd9 rfl rfl rfl rfl rfl hg9;have hN:∀(k:Nat) (w':World) (cs:List Value),Blk w' F.d qbh cs->k=F.d->k<w'.heap.size->NoTab w' k:=fun k w' cs hb e _=>by subst e;exact ⟨_,_,hb,by decide,by decide⟩
   have t1:=ht8.r.chg (Chg.gg hg9) fun k e hk=>hN k w8 _ h8.d.blk e hk;have ho69:Go.Vc.Own qae w9 w4.heap.size ⟨some ⟨w4.heap.size,0,none⟩,32,32⟩ (List.replicate 32 5):=(ho6.ext hB8).chg (Chg.gg hg9) fun k hk e=>by
    obtain ⟨cs,hcs⟩:=(ho6.ext hB8).blk_t hk;exact hcs.ne_t h8.d.blk (by decide) e
   refine q29 (ls:=fiveL) ho69.rd (fun hb=>absurd hb k3) (fun _ hb=>absurd hb k4) (fun _ _ f2 w10 ht10 hB10=>?_);have h10:=h9.ext hB10;have t1':=t1.ext hB10;rw [qas];refine qaj h10.d.blk (by simp [qa5]) fun w11 hb11 hg11 hs11=>?_;have hd11:DecM w11 base { F with sg:=some f1,ds:=some f2 } { S with c:={ S.c with last:=v%2==1 } }:=h10.d.put hb11 hg11 rfl rfl rfl rfl rfl rfl rfl rfl (fun e=>by have e:S.c.mode=4:=e;omega) h10.d.m5 h10.d.hl h10.d.hs h10.d.ht;have h11:=h10.own hd11 rfl rfl rfl rfl rfl hg11;have t1'':=t1'.chg (Chg.gg hg11) fun k e hk=>hN k w10 _ h10.d.blk e hk;have t2:=ht10.r.chg (Chg.gg hg11) fun k e hk=>hN k w10 _ h10.d.blk e hk;rw [qas];refine qaj h11.d.blk (by simp [qa5]) fun w12 hb12 hg12 hs12=>?_;have s2:=hB4.size;have s4:=hB46.size;have s8:=hB8.size;have s9:=hg9.size;have hd12:DecM w12 base { F with sg:=some f1,ds:=some f2 } { S with c:={ S.c with last:=v%2==1,mode:=4,sg:=qeu,ds:=fiveL } }:=h11.d.put hb12 hg12 rfl rfl rfl rfl rfl rfl rfl rfl (fun _=>⟨f1,f2,rfl,rfl,(t1''.chg (Chg.gg hg12) fun k e hk=>hN k w11 _ h11.d.blk e hk).base_le (by omega),(t2.chg (Chg.gg hg12) fun k e hk=>hN k w11 _ h11.d.blk e hk).base_le (by omega)⟩) (by show 4<=5;decide) h11.d.hl h11.d.hs h11.d.ht;refine fin _ _ w12 hst rfl (h11.own hd12 rfl rfl rfl rfl rfl hg12) ⟨rfl,rfl,.inl rfl,.inl rfl⟩ ?_;have c4:Chg (drS F r) w w8:=((hc2.trans (Chg.of_ext (S:=drS F r) hB4) fun i _ hi=>hi).trans (Chg.of_ext (S:=drS F r) hB46) fun i _ hi=>hi).trans (Chg.of_ext (S:=drS F r) hB8) fun i _ hi=>hi;have c10:Chg (drS F r) w w10:=(c4.trans (drS_g (r:=r) hg9) fun i _ hi=>hi).trans (Chg.of_ext (S:=drS F r) hB10) fun i _ hi=>hi;exact (c10.trans (drS_g (r:=r) (F:=F) hg11) fun i _ hi=>hi).trans (drS_g (r:=r) (F:=F) hg12) fun i _ hi=>hi
  ·have e0:v/2≠0:=by have:=beq_eq_false_iff_ne.1 e0;omega
   have e1:v/2≠1:=by have:=beq_eq_false_iff_ne.1 e1;omega
   have e2:v/2=2:=by have:=eq_of_beq e2;omega
   rw [if_neg e0,if_neg e1,if_pos e2] at hst;rw [qas];refine qaj h2.d.blk (by simp [qa5]) fun w3 hb3 hg3 hs3=>?_;have hd3:DecM w3 base F { S with c:={ S.c with last:=v%2==1,mode:=3 } }:=h2.d.put hb3 hg3 rfl rfl rfl rfl rfl rfl rfl rfl (fun e=>by cases e) (by show 3<=5;decide) h2.d.hl h2.d.hs h2.d.ht;exact fin _ F w3 hst rfl (h2.own hd3 rfl rfl rfl rfl rfl hg3) (DF.to.refl _ _) (hc2.trans (drS_g hg3) fun i _ hi=>hi)
  ·have e0:v/2≠0:=by have:=beq_eq_false_iff_ne.1 e0;omega
   have e1:v/2≠1:=by have:=beq_eq_false_iff_ne.1 e1;omega
   have e2:v/2≠2:=by have:=beq_eq_false_iff_ne.1 e2;omega
   rw [if_neg e0,if_neg e1,if_neg e2] at hst;have key:K 3 w2:=hK 3 F { S with c:={ S.c with last:=v%2==1 } } (at_+3) w2 ⟨rfl,rfl,rfl,.inr (.inr ⟨3,rfl,.inl rfl,⟨S.c,at_,.refl _ _,hst⟩,rfl,rfl⟩)⟩ h2 (DF.to.refl _ _) hc2;exact cO (fun _=>key) (fun _=>key)
 ·refine cT rfl (hK 2 F S at_ w1 ⟨rfl,rfl,rfl,.inr (.inl ⟨rfl,0,at_,.refl _ _,?_,⟨[],by simp,by simp⟩,by simp,by omega,by simp,by omega,by omega⟩)⟩ h1 (DF.to.refl _ _) hc1);rw [hst];unfold qi5;rw [if_pos (by omega)]
theorem zbe {K:Int->World->Prop} (h:DR w base F S r rs at_) (hm:S.c.mode=1)
  (hK:∀e F' S' at' w',qo4 S at_ e S' at'->DR w' base F' S' r rs at'->F.to F' w.heap.size->Chg (drS F r) w w'->K e w'):qfq (some ⟨F.d,0,none⟩) (some ⟨r,0,none⟩) w K:=by
 refine qqb _ _ ?_;unfold qi0;have hst:step1 S.most S.wait at_ S.c=qf8 S.wait at_ S.c:=by rw [step1,if_neg (by omega),stepN,if_neg (by omega),if_pos hm]
 have hup:at_<=up8 at_:=by unfold up8;omega
 have short:∀at' w',8*S.wait.length<up8 at_+32->at_<=at'->DR w' base F S r rs at'->Chg (drS F r) w w'->K 2 w':=fun at' w' hs ha h' hc'=>by
  refine hK 2 F S at' w' ⟨rfl,rfl,rfl,.inr (.inl ⟨rfl,0,at_,.refl _ _,?_,⟨[],by simp,by simp⟩,by simp,by omega,by simp,by omega,by omega⟩)⟩ h' (DF.to.refl _ _) hc';rw [hst];unfold qf8;rw [if_pos hs]
 refine zct h.rdr fun v w1 hr1 hc1=>?_;have h1:=h.moved hr1 hc1;refine rBits h1 (fun m w2 e _ hl2 h2 hc2=>?_) (fun w2 hn h2 hc2=>?_)
 ·have:m=16:=by omega
  subst this;refine cF rfl ?_;have hc02:Chg (drS F r) w w2:=(drS_r hc1).trans hc2 fun i _ hi=>hi;refine rBits h2 (fun m w3 e _ hl3 h3 hc3=>?_) (fun w3 hn h3 hc3=>?_)
  ·have:m=16:=by omega
   subst this;refine cF rfl ?_;have hc03:Chg (drS F r) w w3:=hc02.trans hc3 fun i _ hi=>hi;unfold qf8 at hst;rw [if_neg (by omega)] at hst;have hp1:=qcx S.wait (up8 at_) 16;have hp2:=qcx S.wait (up8 at_+16) 16;rw [qxn .u32 (by show _<2^32;omega) (by show _<2^32;omega)];refine cO (fun hx=>?_) (fun hx=>?_)
   ·have hx:peekN S.wait (up8 at_) 16 ^^^ peekN S.wait (up8 at_+16) 16≠65535:=by have:=bne_iff_ne.1 hx;omega
    rw [if_pos hx] at hst;exact hK 3 F S _ w3 ⟨rfl,rfl,rfl,.inr (.inr ⟨3,rfl,.inl rfl,⟨S.c,at_,.refl _ _,hst⟩,rfl,rfl⟩)⟩ h3 (DF.to.refl _ _) hc03
   ·have hx:¬peekN S.wait (up8 at_) 16 ^^^ peekN S.wait (up8 at_+16) 16≠65535:=by have:=bne_eq_false_iff_eq.1 hx;omega
    rw [if_neg hx] at hst;simp only [onPtr_some];rw [qas,qax .i64 (by show _<2^63;omega)];refine qaj h3.d.blk (by simp [qa5]) fun w4 hb4 hg4 hs4=>?_;have hd4:DecM w4 base F { S with c:={ S.c with left:=peekN S.wait (up8 at_) 16 } }:=h3.d.put hb4 hg4 rfl rfl rfl rfl rfl rfl rfl rfl (fun e=>by have e:S.c.mode=4:=e;omega) h3.d.m5 (by show peekN S.wait (up8 at_) 16<=65535;omega) h3.d.hs h3.d.ht;have h4:=h3.own hd4 rfl rfl rfl rfl rfl hg4;rw [qas];refine qaj h4.d.blk (by simp [qa5]) fun w5 hb5 hg5 hs5=>?_;have hd5:DecM w5 base F { S with c:={ S.c with mode:=2,left:=peekN S.wait (up8 at_) 16 } }:=h4.d.put hb5 hg5 rfl rfl rfl rfl rfl rfl rfl rfl (fun e=>by cases e) (by show 2<=5;decide) h4.d.hl h4.d.hs h4.d.ht;have h5:=h4.own hd5 rfl rfl rfl rfl rfl hg5;rw [show up8 at_+16+16=up8 at_+32 by omega] at h5;refine hK 0 F { S with c:={ S.c with mode:=2,left:=peekN S.wait (up8 at_) 16 } } (up8 at_+32) w5 ⟨rfl,rfl,rfl,.inl ⟨rfl,⟨_,_,hst,.refl _ _⟩,⟨[],by simp,by simp⟩,rfl,rfl,rfl⟩⟩ h5 (DF.to.refl _ _) ((hc03.trans (drS_g hg4) fun i _ hi=>hi).trans (drS_g hg5) fun i _ hi=>hi)
  ·refine cT rfl (short _ w3 (by omega) (by omega) h3 (hc02.trans hc3 fun i _ hi=>hi))
 ·refine cT rfl (short _ w2 (by omega) hup h2 ((drS_r hc1).trans hc2 fun i _ hi=>hi))
end
structure DF.tw (F F':DF) (n:Nat):Prop where
 d:F'.d=F.d
 ring:F'.ring.blk=F.ring.blk\/∃k,F'.ring.blk=some k/\n<=k
 out:F'.out.blk=F.out.blk\/∃k,F'.out.blk=some k/\n<=k
theorem DF.to.w {F F':DF} {n:Nat} (h:F.to F' n):F.tw F' n:=⟨h.d,h.ring,h.out⟩
theorem DF.tw.old {F F':DF} {n:Nat} (h:F.tw F' n):∀k,dS F' k->dS F k\/n<=k:=by
 rintro k (e | hk | hk)
 ·exact .inl (.inl (e.trans h.d))
 ·rcases h.ring with e | ⟨j,e,hj⟩
  ·exact .inl (.inr (.inl (by rw [<-e];exact hk)))
  ·rw [e] at hk;cases hk;exact .inr hj
 ·rcases h.out with e | ⟨j,e,hj⟩
  ·exact .inl (.inr (.inr (by rw [<-e];exact hk)))
  ·rw [e] at hk;cases hk;exact .inr hj
theorem DF.tw.trans {F F' F'':DF} {n n':Nat} (h:F.tw F' n) (h':F'.tw F'' n') (hn:n<=n'):F.tw F'' n:=by
 refine ⟨h'.d.trans h.d,?_,?_⟩
 ·rcases h'.ring with e | ⟨k,e,hk⟩
  ·rcases h.ring with e' | ⟨j,e',hj⟩
   ·exact .inl (e.trans e')
   ·exact .inr ⟨j,e.trans e',hj⟩
  ·exact .inr ⟨k,e,by omega⟩
 ·rcases h'.out with e | ⟨k,e,hk⟩
  ·rcases h.out with e' | ⟨j,e',hj⟩
   ·exact .inl (e.trans e')
   ·exact .inr ⟨j,e.trans e',hj⟩
  ·exact .inr ⟨k,e,by omega⟩
theorem Ch.split {most:Nat} {bs:List UInt8} {c c2:Cfg} {a a2:Nat} (h:Ch most bs c a c2 a2):(c=c2/\a=a2)\/∃c1 a1,step1 most bs a c=.next c1 a1/\Ch most bs c1 a1 c2 a2:=by
 cases h with
 | refl=>exact .inl ⟨rfl,rfl⟩
 | step h r=>exact .inr ⟨_,_,h,r⟩
section
variable {w w':World} {base:Nat} {F:DF} {S:DS} {r:Nat} {rs:Slc} {at_:Nat}
theorem DecM.putW {ws:Slc} {xs:List UInt8} {took skip:Nat} (h:DecM w base F S) (hb:Blk w' F.d qbh (qa5 { F with wait:=ws } { S with wait:=xs,took:=took,skip:=skip } 0)) (hg:w.grownBy w' (some F.d)) (hr:Rd qae w ws xs)
  (hne:∀k,ws.blk=some k->F.ring.blk≠some k/\F.out.blk≠some k/\k≠F.d) (hl:xs.length<=100000000000) (hs:skip<=8) (ht:took<=1000000000000):DecM w' base { F with wait:=ws } { S with wait:=xs,took:=took,skip:=skip }:=by
 have hc:=Chg.gg hg;have ap:∀{s:Slc} {xs:List UInt8},Go.Vc.Own qae w base s xs->∀k,s.blk=some k->k≠F.d:=fun ho k hk=>by
  obtain ⟨cs,hcs⟩:=ho.blk_t hk;exact hcs.ne_t h.blk (by decide)
 exact ⟨hb,h.hd,h.ring.chg hc (ap h.ring),h.out.chg hc (ap h.out),hr.chg hc fun a ha=>(hne _ (slk.2 ⟨a,ha,rfl⟩)).2.2,h.tabs' hg,h.ne,hne,h.m5,h.mo,h.ho,h.hm,h.hl,hl,hs,⟨ht,h.ht.2.1,h.ht.2.2⟩⟩
theorem zjy {s:Slc} {l c k n:Nat} {j:Nat} (h:(⟨cut s.a l c k,n,c-l⟩:Slc).blk=some j):s.blk=some j:=by
 obtain ⟨a,ha,e⟩:=slk.1 h;obtain ⟨b,hb,e'⟩:=qgd ha;exact slk.2 ⟨b,hb,by rw [<-e',e]⟩
theorem zfg {K:World->Prop} (h:DR w base F S r rs at_) (h8:at_%8=0) (hbase:base<=w.heap.size) (htk:S.took+at_/8<=1000000000000)
  (hK:∀F' rs' w',DR w' base F' { S with wait:=S.wait.drop (at_/8),took:=S.took+at_/8,skip:=0 } r rs' 0->F.tw F' w.heap.size->Chg (drS F r) w w'->K w'):qgl (some ⟨F.d,0,none⟩) (some ⟨r,0,none⟩) w K:=by
 refine qr4 _ _ ?_;unfold qkl;simp only [onPtr_some];have hle:=h.rdr.le;have hwl:=h.d.hw;refine qsg h.rdr ⟨by decide,?_⟩;refine lI (x:=((S.took:Nat):Int)) (h.d.blk.cells 11 _ rfl) ?_;rw [qas,tdiv8,w64i (x:=((at_/8:Nat):Int)) (by omega),w64i (by omega)];have e1:((S.took:Nat):Int)+((at_/8:Nat):Int)=((S.took+at_/8:Nat):Int):=rfl;rw [e1];refine qaj h.d.blk (by simp [qa5]) fun w1 hb1 hg1 hs1=>?_;have hd1:DecM w1 base F { S with took:=S.took+at_/8 }:=h.d.put hb1 hg1 rfl rfl rfl rfl rfl rfl rfl rfl (h.d.tabs' hg1) h.d.m5 h.d.hl h.d.hs ⟨htk,h.d.ht.2⟩;have h1:=h.own hd1 rfl rfl rfl rfl rfl hg1;refine lSl (x:=F.wait) (h1.d.blk.cells 3 _ rfl) ?_;refine h1.d.wait.slK (l:=at_/8) (m:=S.wait.length) rfl (.inr rfl) (.inl ⟨rfl,rfl⟩) (by omega) (le_refl _) fun hsub=>?_;rw [take_length] at hsub;obtain ⟨ws,hws⟩:∃s:Slc,s=⟨cut F.wait.a (at_/8) F.wait.c qae.k,S.wait.length-at_/8,F.wait.c-at_/8⟩:=⟨_,rfl⟩;rw [<-hws] at hsub ⊢;have hwsb:∀j,ws.blk=some j->F.wait.blk=some j:=fun j hj=>by rw [hws] at hj;exact zjy hj
 rw [qas];refine qaj h1.d.blk (by simp [qa5]) fun w2 hb2 hg2 hs2=>?_;have hd2:=h1.d.putW (ws:=ws) (xs:=S.wait.drop (at_/8)) (took:=S.took+at_/8) (skip:=S.skip) hb2 hg2 hsub (fun k hk=>h.d.wn k (hwsb k hk)) (by simp;omega) h.d.hs htk;have hr2:RdrM w2 r rs S.wait at_:=h1.rdr.chg (Chg.gg hg2) (fun e=>h1.r_d (.inl e)) fun k hk e=>h1.sep k hk (.inl e)
 refine qsg hr2 ⟨by decide,?_⟩;rw [tmod8,h8,qas];refine qaj hd2.blk (by simp [qa5]) fun w3 hb3 hg3 hs3=>?_;have hd3:DecM w3 base { F with wait:=ws } { S with wait:=S.wait.drop (at_/8),took:=S.took+at_/8,skip:=0 }:=hd2.put hb3 hg3 rfl rfl rfl rfl rfl rfl rfl rfl (hd2.tabs' hg3) h.d.m5 h.d.hl (zero_le _) ⟨htk,h.d.ht.2⟩;have hr3:RdrM w3 r rs S.wait at_:=hr2.chg (Chg.gg hg3) (fun e=>h1.r_d (.inl e)) fun k hk e=>h1.sep k hk (.inl e)
 refine lSl (x:=ws) (hd3.blk.cells 3 _ rfl) ?_;have hc3:Chg (drS F r) w w3:=((drS_g (r:=r) hg1).trans (drS_g (r:=r) hg2) fun i _ hi=>hi).trans (drS_g (F:=F) (r:=r) hg3) fun i _ hi=>hi;have hs3':=hc3.size;refine qv1 hd3.wait (by simp;omega) fun g2 s2 w4 hg2f hs2f hr4 hB4=>?_;simp only [onPtr_some];refine qal (r:=qe4.rep) (x:=⟨s2,0⟩) hr4.blk.cells ?_;have hd4:=hd3.ext hB4;have hr4':=hr3.ext hB4;refine qaj hr4'.blk (by simp [qe4.rep]) fun w5 hb5 hg5 hs5=>?_;have hrd:r≠F.d:=fun e=>h.r_d (.inl e);have hrlt:=h.rdr.blk.lt;have hd5:=hd4.chg (Chg.gg hg5) (fun k hk e=>by
  subst e;rcases hk with hk | hk
  ·exact h.r_d hk
  ·exact h.wr _ (hwsb _ hk) rfl) fun k e _=>by subst e;exact ⟨_,_,hr4'.blk,by decide,by decide⟩
 have hr5:RdrM w5 r s2 (S.wait.drop (at_/8)) 0:=by
  refine ⟨hb5,hr4.rd.chg (Chg.gg hg5) fun a ha e=>?_,zero_le _,hr4.sm,fun k hk e=>?_⟩
  ·have:=hs2f _ (slk.2 ⟨a,ha,rfl⟩);omega
  ·have:=hs2f k hk;omega
 refine lI (x:=0) (hd5.blk.cells 4 _ rfl) ?_;have hs4:=hB4.size;have hs25:∀k,s2.blk=some k->k<w5.heap.size:=fun k hk=>by have:=(hs2f k hk).2;omega
 refine qz4 hr5 (fun m w6 e _ _ hr6 hc6=>?_) (fun w6 hn _=>by omega);have:m=0:=by omega
 subst this;have hc6s:=hc6.size;have hd6:=hd5.chg hc6 (fun k hk e=>by
  subst e;rcases hk with hk | hk
  ·exact h.r_d hk
  ·exact h.wr _ (hwsb _ hk) rfl) fun k e _=>by subst e;exact ⟨_,_,hr5.blk,by decide,by decide⟩
 refine hK { F with wait:=ws } s2 w6 ⟨hd6,hr6,fun k hk hs=>?_,h.rb,fun k hk=>h.wr k (hwsb k hk),fun k hk=>?_,fun k hk=>by have:=hs25 k hk;omega⟩ ⟨rfl,.inl rfl,.inl rfl⟩ ?_
 ·have h1:=(hs2f k hk).1;have h2:=(h.d.below k hs).2;omega
 ·have:=h.wl k (hwsb k hk);omega
 ·exact ((hc3.trans (Chg.of_ext (S:=drS F r) hB4) fun i _ hi=>hi).trans (drS_r (F:=F) (Chg.gg hg5)) fun i _ hi=>hi).trans (drS_r (F:=F) hc6) fun i _ hi=>hi
theorem next1 (h:DR w base F S r rs at_) {K:World->Prop} (hK:∀w',DR w' base F { S with c:=S.c.behind } r rs at_->Chg (drS F r) w w'->K w'):qdc (some ⟨F.d,0,none⟩) w K :=
 zg6 h.d fun w' hd hc=>hK w' (h.decd hd (DF.to.refl _ _) rfl (hc.mono fun i _ hi=>.inl hi)) (hc.mono fun i _ hi=>.inl (.inl hi))
theorem put1 {c:UInt8} {v:Int} {K:Int->World->Prop} (hv:v=(c.toNat:Int)) (h:DR w base F S r rs at_) (hbase:base<=w.heap.size)
  (hK1:∀w',S.most<=S.c.hist.length->DR w' base F S r rs at_->Chg (drS F r) w w'->K 5 w')
  (hK2:∀F' w',S.c.hist.length<S.most->DR w' base F' { S with c:={ S.c with hist:=S.c.hist++[c] },out:=S.out++[c] } r rs at_->F.to F' w.heap.size->Chg (drS F r) w w'->K 0 w'):qcr (some ⟨F.d,0,none⟩) v w K :=
 zhy hv h.d hbase h.wl (fun hm=>hK1 _ hm h.drew (Chg.of_ext ((Below.refl _ w).drew))) fun F' w' hl hd hto hc=>hK2 F' w' hl (h.decd hd hto rfl hc) hto (drS_d hc)
theorem zdk {K:Int->World->Prop} (h:DR w base F S r rs at_) (hm:S.c.mode=2) (h8:at_%8=0) (hbase:base<=w.heap.size) (htk:S.took+S.wait.length<=1000000000000)
  (hK:∀e F' S' rs' at' w',qo4 S at_ e S' at'->DR w' base F' S' r rs' at'->F.tw F' w.heap.size->Chg (drS F r) w w'->K e w'):qf4 (some ⟨F.d,0,none⟩) (some ⟨r,0,none⟩) w K:=by
 refine qqy _ _ ?_;unfold qju;refine qg4 (fun n (_:Unit) w1=>∃F1 S1 a1,n=S1.c.left/\S1.c.mode=2/\a1%8=0/\Ch S.most S.wait S.c at_ S1.c a1/\(S1.c.left<S.c.left\/S1.c=S.c/\a1=at_)/\(∃x,S1.c.hist=S.c.hist++x/\S1.out=S.out++x)/\S1.most=S.most/\S1.given=S.given/\S1.told=S.told/\S1.wait=S.wait/\S1.took=S.took/\S1.skip=S.skip/\DR w1 base F1 S1 r rs a1/\F1.d=F.d/\F.to F1 w.heap.size/\Chg (drS F r) w w1)
  S.c.left ⟨F,S,at_,rfl,hm,h8,.refl _ _,.inr ⟨rfl,rfl⟩,⟨[],by simp,by simp⟩,rfl,rfl,rfl,rfl,rfl,rfl,h,rfl,DF.to.refl _ _,Chg.refl _ _⟩ ?_
 rintro n _ w1 ⟨F1,S1,a1,rfl,hm1,h81,hch,hlt,⟨x,hx,hxo⟩,em,eg,et,ew,etk,esk,h1,ed,hto,hc1⟩ I hI;have hst:step1 S.most S.wait a1 S1.c=qhh S.most S.wait a1 S1.c:=by rw [step1,if_neg (by omega),stepN,if_neg (by omega),if_neg (by omega),if_pos hm1]
 have hs1:=hc1.size;rw [<-ed];simp only [onPtr_some];have hll:=h1.d.hl;have sub:∀{w2 w3:World},Chg (drS F r) w w2->Chg (drS F1 r) w2 w3->Chg (drS F r) w w3:=fun h2 h3=>h2.trans h3 fun i hi hs=>by
  rcases hs with hs | hs
  ·rcases hto.old i hs with e | e
   ·exact .inl e
   ·omega
  ·exact .inr hs
 refine lI (x:=((S1.c.left:Nat):Int)) (h1.d.blk.cells 5 _ rfl) ?_;refine cO (fun hpos=>?_) (fun hzero=>?_)
 ·have hpos:=oTq hpos;refine rBits h1 (fun m w2 e _ hl2 h2 hc2=>?_) (fun w2 hn h2 hc2=>?_)
  ·have:m=8:=by omega
   subst this;rw [ew] at hl2 ⊢;refine cF rfl ?_;have hp:=qcx S.wait a1 8;have hv:IntKind.u8.wrap ((peekN S.wait a1 8:Nat):Int)=(((UInt8.ofNat (peekN S.wait a1 8)).toNat:Nat):Int):=by
    rw [qax .u8 (by show _<2^8;omega),UInt8.toNat_ofNat'];congr 1;omega
   have hs2:=hc2.size;unfold qhh at hst;rw [if_neg (by omega),if_neg (by omega)] at hst;refine put1 hv h2 (by omega) (fun w3 hfull h3 hc3=>?_) (fun F3 w3 hroom h3 hto3 hc3=>?_)
   ·rw [em] at hfull;rw [if_pos hfull] at hst;refine cT rfl (hK 5 F1 S1 rs _ w3 ⟨em,eg,et,.inr (.inr ⟨5,rfl,.inr rfl,⟨S1.c,a1,hch,hst⟩,etk,ew⟩)⟩ h3 hto.w (sub (sub hc1 hc2) hc3))
   ·rw [em] at hroom;rw [if_neg (by omega)] at hst;refine cF rfl ?_;have ed3:F3.d=F1.d:=hto3.d;rw [<-ed3];refine lI (x:=((S1.c.left:Nat):Int)) (h3.d.blk.cells 5 _ rfl) ?_;rw [qas,w64i (by omega)];refine qaj h3.d.blk (by simp [qa5]) fun w4 hb4 hg4 hs4=>?_;have e1:((S1.c.left:Nat):Int)-1=((S1.c.left-1:Nat):Int):=by omega
    rw [e1] at hb4;have hd4:DecM w4 base F3 { S1 with c:={ S1.c with left:=S1.c.left-1,hist:=S1.c.hist++[UInt8.ofNat (peekN S.wait a1 8)] },out:=S1.out++[UInt8.ofNat (peekN S.wait a1 8)] }:=h3.d.put hb4 hg4 rfl rfl rfl rfl rfl rfl rfl rfl (fun e=>by have e:S1.c.mode=4:=e;omega) h3.d.m5 (by show S1.c.left-1<=65535;omega) h3.d.hs h3.d.ht;have h4:=h3.own hd4 rfl rfl rfl rfl rfl hg4;have hto':F.to F3 w.heap.size:=hto.trans hto3 (by omega);refine hI _ () w4 ⟨F3,{ S1 with c:={ S1.c with left:=S1.c.left-1,hist:=S1.c.hist++[UInt8.ofNat (peekN S.wait a1 8)] },out:=S1.out++[UInt8.ofNat (peekN S.wait a1 8)] },a1+8,rfl,hm1,by omega,hch.trans (.one hst),.inl ?_,⟨x++[UInt8.ofNat (peekN S.wait a1 8)],?_,?_⟩,em,eg,et,ew,etk,esk,h4,ed3.trans ed,hto',?_⟩ ?_
    ·show S1.c.left-1<S.c.left;rcases hlt with e | ⟨e,_⟩
     ·omega
     ·rw [e] at hpos ⊢;omega
    ·show S1.c.hist++_=_;rw [hx,List.append_assoc]
    ·show S1.out++_=_;rw [hxo,List.append_assoc]
    ·have hc3':Chg (drS F r) w w3:=sub (sub hc1 hc2) hc3;exact hc3'.trans (Chg.gg hg4) fun i hi e=>by
      subst e;rw [ed3,ed];exact .inl (.inl rfl)
    ·show S1.c.left-1<S1.c.left;omega
  ·refine cT rfl ?_;unfold qhh at hst;rw [ew] at hn;rw [if_neg (by omega),if_pos (by omega)] at hst;have hle:=h1.rdr.le;rw [ew] at hle;have hs2:=hc2.size;refine zfg h2 h81 (by omega) (by rw [etk];omega) fun F3 rs3 w3 h3 hto3 hc3=>?_;refine hK 2 F3 { S1 with wait:=S1.wait.drop (a1/8),took:=S1.took+a1/8,skip:=0 } rs3 0 w3 ⟨em,eg,et,.inr (.inl ⟨rfl,a1/8,a1,hch,hst,⟨x,hx,hxo⟩,by show S1.wait.drop _=_;rw [ew],by omega,by show S1.took+_=_;rw [etk],by omega,by show S1.c.mode<=4;omega⟩)⟩ h3 (hto.w.trans hto3 (by omega)) (sub (sub hc1 hc2) hc3)
 ·have hzero:=oFq hzero;unfold qhh at hst;rw [if_pos (by omega)] at hst;refine next1 h1 fun w2 h2 hc2=>?_;refine hK 0 F1 { S1 with c:=S1.c.behind } rs a1 w2 ⟨em,eg,et,.inl ⟨rfl,?_,⟨x,hx,hxo⟩,ew,etk,esk⟩⟩ h2 hto.w (sub hc1 hc2);rcases (hch.trans (.one hst)).split with ⟨e,_⟩ | ⟨c1,b1,e1,e2⟩
  ·exfalso;have e:=congrArg Cfg.mode e;rw [hm] at e;unfold Cfg.behind at e;have e:2=if S1.c.last then 5 else 0:=e
   split at e<;>omega
  ·exact ⟨c1,b1,e1,e2⟩
end
end Go.Proofs.YtedcpbkcamckoaaGreatDoor
