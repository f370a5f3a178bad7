import Derived.Test.YtcigiaecigedmaaGreatDoorP1
import Derived.Laws.BitsAllLaws
import Derived.Lib.Builder
import Derived.Lib.UnsafeStr
import Derived.Laws.Externs
import Derived.Laws.BytesArg
import Derived.Shelf.SlIterI.Nil
import Derived.Shelf.SortM.Plain
import Derived.Shelf.SortM.SortNone
import Derived.RangeFuncBox
import Derived.RangeFuncLeaves
import Derived.RangeFuncFrom
import Derived.RangeFuncWrites
import Derived.Shelf.Abstract
import Derived.WalkKit
import Derived.OwnWalkIn
import Derived.TacticsInMore
import Derived.LoopNIn
import Derived.LoopIn
import Derived.BigFrameIn
import Derived.BigRegionIn
import Derived.BigGuardIn
import Derived.BigGuardPartIn
import Derived.Scope
set_option linter.unusedVariables false
namespace Go.Proofs.YtcigiaecigedmaaGreatDoor
open Go.Vc Go.RowKit
open IntKind (i64)
open _root_.List (append_assoc append_nil drop_zero getD_cons_zero length_append length_cons length_drop length_nil length_replicate length_set length_take mem_cons mem_nil_iff take_add_one take_length)
open _root_.Nat (le_refl)
def halfL (xs:List Cell) (at_:Int):List Cell:=if 0<=at_/\at_<xs.length/\fitsB xs at_=false then xs.set at_.toNat (qb8 (xs.getD at_.toNat default).A) else xs
def qmr (xs:List Cell) (from_ to:Int):List Cell:=halfL (halfL xs (from_-1)) to
def qlv (n:Nat) (col width:Int):Prop:=width<1\/width>2\/col<0\/col>n-width
instance (n:Nat) (col width:Int):Decidable (qlv n col width):=by unfold qlv;infer_instance
def wrotL (xs:List Cell) (col r width:Int) (a:Attr):List Cell :=
 if width=2 then (xs.set col.toNat ⟨r,1,a⟩).set (col+1).toNat ⟨0,2,a⟩ else xs.set col.toNat ⟨r,0,a⟩
def putP (xs:List Cell) (col r width:Int) (a:Attr):List Cell:=if qlv xs.length col width then mendL xs else qmr (wrotL (mendL xs) col r width a) col (col+width)
def manyL (n:Nat) (col k:Int):Int:=if k<1\/col<0\/col>=n then 0 else min k (n-col)
def insL (xs:List Cell) (col k:Int) (a:Attr):List Cell :=
 let m:=mendL xs
 let c:=manyL xs.length col k
 if c=0 then m else mendL (m.take col.toNat++List.replicate c.toNat (qb8 a)++(m.take (xs.length-c.toNat)).drop col.toNat)
def delL (xs:List Cell) (col k:Int) (a:Attr):List Cell :=
 let m:=mendL xs
 let c:=manyL xs.length col k
 if c=0 then m else mendL (m.take col.toNat++m.drop (col+c).toNat++List.replicate c.toNat (qb8 a))
def fillL (xs:List Cell) (lo hi:Nat) (c:Cell):List Cell:=xs.mapIdx fun i x=>if lo<=i/\i<hi then c else x
def eraP (xs:List Cell) (from_ to:Int) (a:Attr):List Cell :=
 let lo:=max 0 from_
 let hi:=min (xs.length:Int) to
 if lo>=hi then mendL xs else qmr (fillL (mendL xs) lo.toNat hi.toNat (qb8 a)) lo hi
def qa6 (xs:List Cell) (cols:Int):List Cell :=
 let m:=mendL xs
 let c:=min 1000 (max 0 cols)
 if c<=xs.length then mendL (m.take c.toNat) else m++List.replicate (c-xs.length).toNat (qb8 ⟨0,0,0⟩)
theorem quj (xs:List Cell) (i:Int):(halfL xs i).length=xs.length:=by
 unfold halfL;split<;>simp
theorem qxc (xs:List Cell) (i j:Int):(qmr xs i j).length=xs.length:=by rw [qmr,quj,quj]
theorem q78 (xs:List Cell) (c r k:Int) (a:Attr):(wrotL xs c r k a).length=xs.length:=by
 unfold wrotL;split<;>simp
theorem q0e (xs:List Cell) (lo hi:Nat) (c:Cell):(fillL xs lo hi c).length=xs.length:=by simp [fillL]
theorem zd2 {xs:List Cell} {lo k:Nat} {c:Cell} (hk:lo<=k):(fillL xs lo k c).set k c=fillL xs lo (k+1) c:=by
 refine List.ext_getElem? fun i=>?_;rw [List.getElem?_set];simp only [fillL,List.getElem?_mapIdx,List.length_mapIdx];by_cases hi:k=i
 ·subst hi;rw [if_pos rfl];by_cases hl:k<xs.length
  ·rw [if_pos hl,List.getElem?_eq_getElem hl];simp [hk]
  ·rw [if_neg hl,List.getElem?_eq_none (by omega)];rfl
 ·rw [if_neg hi];have:(i<k+1)=(i<k):=by apply propext;omega
  simp only [this]
theorem zct (xs:List Cell) (lo:Nat) (c:Cell):fillL xs lo lo c=xs:=by
 refine List.ext_getElem? fun i=>?_;simp only [fillL,List.getElem?_mapIdx];have:¬(lo<=i/\i<lo):=by omega
 simp [this]
theorem q2k {l:Slc} {xs:List Cell} {from_ to:Int} {w:World} {base:Nat} {K:Slc->World->Prop} (h:Go.Vc.Own cellE w base l xs) (hf:-1000000<=from_/\from_<=1000000)
  (hK:∀w',Go.Vc.Own cellE w' base l (qmr xs from_ to)->Chg (fun k=>l.blk=some k) w w'->K l w'):qgu l from_ to w K:=by
 refine qw9 _ _ _ ?_;unfold qpd;refine nwb fun w1 hb1 hB1 hs1=>?_;rw [w64i (x:=from_-1) (by omega)] at hb1;have ln:l.n=xs.length:=h.rd.n;have hne:∀k,l.blk=some k->k<w.heap.size:=fun k hk=>(h.lt k hk).2;refine lpR (fun (s:Int×Unit) w2=>∃k:Nat,s.1=k/\k<=2/\Go.Vc.Own cellE w2 base l (if k=0 then xs else if k=1 then halfL xs (from_-1) else qmr xs from_ to)/\Blk w2 w.heap.size qbz [.int .i64 (from_-1),.int .i64 to]/\Chg (fun k=>l.blk=some k) w w2)
  (fun s=>2-s.1.toNat) ⟨0,rfl,by omega,h.ext hB1,hb1,Chg.of_ext hB1⟩ ?_
 rintro ⟨i,_⟩ w2 ⟨k,rfl,hk,ho,hb,hc⟩ I hI;dsimp only at *;refine cO (fun hlt=>?_) (fun hge=>?_)
 ·have hlt:=oTq hlt;refine ⟨by omega,?_⟩;rw [w64i (x:=(k:Int)+1) (by omega)];have round:∀(ys zs:List Cell) (p:Int),ys.length=xs.length->Go.Vc.Own cellE w2 base l ys->zs=halfL ys p->(∀w3,Go.Vc.Own cellE w3 base l zs->Chg (fun k=>l.blk=some k) w2 w3->I ((k:Int)+1,()) w3) ->
    joinP (σ:=Bool×Unit) (fun s_1 w3 =>
     cond s_1.1
      (
       ixK l p 5 fun t36=>ldS qac.rep (t36.add 2) w3 fun t38=>ixK l p 5 fun t40 =>
       stK t40 [(.int .i32 0),(.int .i64 0),(.int .i64 t38.Fg),(.int .i64 t38.Bg),(.int .i64 t38.Flags)] w3 fun w4=>I ((k:Int)+1,()) w4)
      (I ((k:Int)+1,()) w3)) fun J2 =>
    cond (decide (p>=(0:Int)))
     (cond (decide (p<((l.n:Nat):Int))) (qfv l p w2 fun t29 w5=>J2 ((!t29),()) w5) (J2 (false,()) w2)) (J2 (false,()) w2):=by
   intro ys zs p hy ho hz hfin;refine jpO fun J hJ=>?_;have stay:zs=ys->J (false,()) w2:=fun e=>hJ _ _ (cF rfl (hfin _ (by rw [e];exact ho) (Chg.refl _ _)));refine cO (fun h0=>?_) (fun h0=>?_)
   ·have h0:0<=p:=oTq h0;refine cO (fun h1=>?_) (fun h1=>?_)
    ·have h1:=oTq h1;rw [ln] at h1;refine q6z ho.rd h0 (by omega) ?_;cases hfit:fitsB ys p with
     | true=>exact stay (by rw [hz,halfL,if_neg (by simp [hfit])])
     | false =>
      refine hJ _ _ (cT rfl ?_);have hpl:p.toNat<ys.length:=by omega
      have hx:ys[p.toNat]?=some (ys[p.toNat]'hpl):=List.getElem?_eq_getElem _;have hze:zs=ys.set p.toNat (qb8 (ys[p.toNat]'hpl).A):=by
       rw [hz,halfL,if_pos ⟨h0,by omega,hfit⟩];simp [hx]
      refine ho.rd.ix rfl h0 (by omega) fun hc=>?_;refine qaq (x:=(ys[p.toNat]'hpl).A) (zdz hc) ?_;refine ho.rd.ix rfl h0 (by omega) fun hc=>?_;refine ho.st0 hx (y:=qb8 (ys[p.toNat]'hpl).A) rfl fun w3 ho3 hg3 hs3=>?_;exact hfin _ (by rw [hze];exact ho3) (Chg.of_grown hg3 fun k hk=>hk)
    ·have h1:=oFq h1;rw [ln] at h1;exact stay (by rw [hz,halfL,if_neg (by omega)])
   ·have h0:=oFq h0;exact stay (by rw [hz,halfL,if_neg (by omega)])
  have next:∀(zs:List Cell),zs=(if k+1=0 then xs else if k+1=1 then halfL xs (from_-1) else qmr xs from_ to)->∀w3,Go.Vc.Own cellE w3 base l zs->Chg (fun k=>l.blk=some k) w2 w3->I ((k:Int)+1,()) w3:=by
   intro zs hz w3 ho3 hc3;refine hI _ _ ⟨k+1,by simp,by omega,by rw [<-hz];exact ho3,hb.chg hc3 (fun e=>?_),hc.trans hc3 fun i hi e=>e⟩ (by simp;omega);have:=hne _ e;omega
  rcases (show k=0\/k=1 by omega) with rfl | rfl
  ·refine lI (x:=from_-1) (by simpa using hb.cells 0 _ rfl) ?_;exact round xs _ _ rfl ho rfl (next _ rfl)
  ·refine lI (x:=to) (by simpa using hb.cells 1 _ rfl) ?_;exact round (halfL xs (from_-1)) _ _ (quj _ _) ho rfl (next _ rfl)
 ·have hge:=oFq hge;have:k=2:=by omega
  subst this;exact hK _ ho hc
theorem zco {l:Slc} {xs:List Cell} {col r width:Int} {a:Attr} {w:World} {K:Slc->Bool->World->Prop} (h:Rd cellE w l xs) (hl:xs.length<=10000)
  (hK:∀s w',Go.Vc.Own cellE w' w.heap.size s (putP xs col r width a)->Below w.heap.size w w'->K s (!decide (qlv xs.length col width)) w'):qot l col r width a w K:=by
 refine q04 _ _ _ _ _ ?_;unfold qtg;refine nwb fun w1 hb1 hB1 hs1=>?_;refine qgy (h.ext hB1) (by omega) fun m w2 ho2 hB2=>?_;have hml:=qbg xs;have hmn:m.n=xs.length:=by have:=ho2.rd.n;rwa [hml] at this
 have hln:l.n=xs.length:=h.n;have hB02:Below w.heap.size w w2:=hB1.trans (hB2.mono (by omega));have hb2:=hb1.ext hB2;have hmb:∀g,m.blk=some g->w.heap.size<g:=fun g hg=>by have:=(ho2.lt g hg).1;omega
 have ho2:Go.Vc.Own cellE w2 w.heap.size m (mendL xs):=ho2.base (by omega);refine jpO fun J1 hJ1=>jpO fun J3 hJ3=>?_;have bad:qlv xs.length col width->J3 (true,()) w2:=fun hb=>hJ3 _ _ (cT rfl (by
  have:=hK m w2 (by rw [putP,if_pos hb];exact ho2) hB02
  rwa [dTq hb] at this))
 have good:¬qlv xs.length col width->J3 (false,()) w2:=fun hg=>hJ3 _ _ (cF rfl (hJ1 _ _ (by
  have hbad:=hg;unfold qlv at hg;have hx:(mendL xs)[col.toNat]?=some ((mendL xs)[col.toNat]'(by omega)):=List.getElem?_eq_getElem _;refine qaq (x:=a) hb2.cells ?_;refine ho2.rd.ix rfl (by omega) (by omega) fun _=>?_;refine ho2.st0 hx (y:=⟨r,0,a⟩) rfl fun w4 ho4 hg4 hs4=>?_;have hB04:Below w.heap.size w w4:=hB02.grown hg4 hB02.size fun g hg=>(ho2.lt g hg).1;have hb4:=hb2.grown hg4 (fun e=>by have:=hmb _ e.symm;omega);refine jpO fun J2 hJ2=>?_;have fin:∀{w5:World},Go.Vc.Own cellE w5 w.heap.size m (wrotL (mendL xs) col r width a)->Below w.heap.size w w5->J2 () w5:=fun {w5} ho5 hB5=>hJ2 _ _ (by
   rw [w64i (x:=col+width) (by omega)];refine q2k ho5 (by omega) fun w6 ho6 hc6=>?_;have:=hK m w6 (by rw [putP,if_neg hbad];exact ho6) (hB5.trans (hc6.below hB5.size fun i hi e=>by have:=hmb i e;omega))
   rwa [dFq hbad] at this)
  refine cO (fun h2=>?_) (fun h2=>?_)
  ·have h2:=eq_of_beq h2;subst h2;refine ho4.rd.ix rfl (by omega) (by rw [length_set];omega) fun _=>?_;refine ho4.st (x:=⟨r,0,a⟩) (y:=⟨r,1,a⟩) (by rw [List.getElem?_set_self (by omega)]) (j:=1) (by simp [cellE]) rfl fun w7 ho7 hg7 hs7=>?_;rw [List.set_set] at ho7;have hB07:=hB04.grown hg7 hB04.size fun g hg=>(ho2.lt g hg).1;have hb7:=hb4.grown hg7 (fun e=>by have:=hmb _ e.symm;omega);refine qaq (x:=a) hb7.cells ?_;rw [w64i (x:=col+1) (by omega)];refine ho7.rd.ix rfl (by omega) (by rw [length_set];omega) fun _=>?_;refine ho7.st0 (x:=((mendL xs).set col.toNat ⟨r,1,a⟩)[(col+1).toNat]'(by rw [length_set];omega)) (List.getElem?_eq_getElem _) (y:=⟨0,2,a⟩) rfl fun w8 ho8 hg8 hs8=>?_;refine fin ?_ (hB07.grown hg8 hB07.size fun g hg=>(ho2.lt g hg).1);rw [wrotL,if_pos rfl];exact ho8
  ·have h2:=beq_eq_false_iff_ne.1 h2;refine fin ?_ hB04;rw [wrotL,if_neg h2];exact ho4)))
 refine cO (fun h1=>bad (.inl (oTq h1))) (fun h1=>?_);refine cO (fun h2=>bad (.inr (.inl (oTq h2)))) (fun h2=>?_);refine cO (fun h3=>bad (.inr (.inr (.inl (oTq h3))))) (fun h3=>?_);have h1:=oFq h1;have h2:=oFq h2;have h3:=oFq h3;rw [hln,w64i (by omega)];by_cases h4:col>(xs.length:Int)-width
 ·rw [dTq h4];exact bad (.inr (.inr (.inr h4)))
 ·rw [dFq h4];exact good (by unfold qlv;omega)
theorem q6v {l:Slc} {n:Nat} {col k:Int} {w:World} {K:Int->World->Prop} (hn:l.n=n) (hl:n<=1000000) (hK:K (manyL n col k) w):qiw l col k w K:=by
 refine qz3 _ _ _ ?_;unfold qsc;refine jpO fun J hJ=>?_;rw [hn];have no:(k<1\/col<0\/col>=n)->K 0 w:=fun h=>by rwa [manyL,if_pos h] at hK
 refine cO (fun h=>no (.inl (oTq h))) (fun h1=>?_);refine cO (fun h=>no (.inr (.inl (oTq h)))) (fun h2=>?_);refine cO (fun h=>no (.inr (.inr (oTq h)))) (fun h3=>?_);have h1:=oFq h1;have h2:=oFq h2;have h3:=oFq h3;refine hJ _ _ ?_;rw [manyL,if_neg (by omega)] at hK;rw [hn,w64i (by omega)];have e:(if (n:Int)-col<k then (n:Int)-col else k)=min k (n-col):=by omega
 rw [e];exact hK
theorem zgb {n:Int} {w:World} {K:Slc->World->Prop} (h0:0<=n) (hn:n<=1000000) (hK:∀r w',Go.Vc.Own cellE w' w.heap.size r []->Below w.heap.size w w'->K r w'):qdd (⟨none,0,0⟩:Slc) n w K:=by
 refine qku _ _ ?_;unfold qfe;refine jpO fun J hJ=>?_;refine cF (by simpa using h0) (hJ _ _ ?_);have hw:i64.wrap (n-(i64.wrap (((0:Nat):Int)-((0:Nat):Int))))=n:=by
  rw [w64i (x:=((0:Nat):Int)-((0:Nat):Int)) (by omega),w64i (by omega)];omega
 simp only [hw];refine cO (fun h=>?_) (fun h=>?_)
 ·have h:=oTq h;refine qig (by omega) (by omega) (qmi ?_);refine zbv slT25 (kk:=.i64) (by kernel_rfl) (n:=n.toNat) (by omega) (by omega) (by simp only [maxLen];omega) (by rw [by25];omega) fun cap w' h1 h2 ho hB=>?_;refine qig (by omega) (by simp) (qmi ?_);have e:cut (some ⟨w.heap.size,0,none⟩) 0 cap 5=some ⟨w.heap.size,0,none⟩:=by
   unfold cut;split
   ·rfl
   ·simp
  show K ⟨cut (some ⟨w.heap.size,0,none⟩) 0 cap 5,0,cap⟩ w';rw [e];exact hK _ _ ho hB
 ·exact hK _ _ (Go.Vc.Own.nil _ _ _) (Below.refl _ _)
def slE:El Slc where
 cells s:=[.slice s.a s.n s.c]
 t:=qa8
 k:=1
 pos:=by decide
 len _:=rfl
 one x v hv:=by
  simp only [mem_cons,mem_nil_iff,or_false] at hv;rcases hv with rfl
  rfl
def RdAll (w:World) (ss:List Slc) (xss:List (List Cell)):Prop:=ss.length=xss.length/\∀(i:Nat) s xs,ss[i]?=some s->xss[i]?=some xs->Rd cellE w s xs
theorem zar (xss:List (List Cell)) (k:Nat):(xss.take k).flatten.length<=xss.flatten.length:=by
 conv=>rhs;rw [<-List.take_append_drop k xss]
 rw [List.flatten_append,length_append];omega
theorem q0r {xss:List (List Cell)} {k:Nat} {xs:List Cell} (h:xss[k]?=some xs):(xss.take (k+1)).flatten=(xss.take k).flatten++xs:=by
 rw [take_add_one,h];simp
theorem qwj {p:Slc} {ss:List Slc} {xss:List (List Cell)} {w:World} {K:Slc->World->Prop} (hp:Rd slE w p ss) (hss:RdAll w ss xss) (hl:xss.flatten.length<=1000000) (hn:ss.length<=1000000)
  (hK:∀r w',Go.Vc.Own cellE w' w.heap.size r xss.flatten->Below w.heap.size w w'->K r w'):qbu p w K:=by
 refine qjn _ ?_;unfold qer;have hpn:=hp.n;obtain ⟨hsl,hss⟩:=hss;refine lpR (fun (s:Int×Int×Unit) w2=>∃k:Nat,s.2.1=k/\k<=ss.length/\s.1=((xss.take k).flatten.length:Nat)/\w2=w) (fun s=>ss.length-s.2.1.toNat) ⟨0,rfl,by omega,rfl,rfl⟩ ?_;rintro ⟨t,i,_⟩ w2 ⟨k,rfl,hk,rfl,rfl⟩ I hI;dsimp only at *;have hle:=zar xss;refine cO (fun hlt=>?_) (fun hge=>?_)
 ·have hlt:=oTq hlt;rw [hpn] at hlt;have hkl:k<ss.length:=by omega
  have hx:ss[k]?=some ss[k]:=List.getElem?_eq_getElem hkl;have hy:xss[k]?=some (xss[k]'(by omega)):=List.getElem?_eq_getElem _;refine hp.ix rfl (by omega) (by omega) fun hc=>?_;refine lSl (x:=ss[k]) (by simpa using hc 0 _ rfl) ?_;have hr:=hss k _ _ hx hy;have hrn:=hr.n;have hf:=q0r hy;have h1:=hle (k+1);rw [hf,length_append] at h1;rw [hrn,w64i (by omega)];refine cF (by simp;omega) ?_;rw [w64i (by omega)];exact hI _ _ ⟨k+1,by simp,by omega,by rw [hf];simp,rfl⟩ (by simp;omega)
 ·have hge:=oFq hge;rw [hpn] at hge;have:k=ss.length:=by omega
  subst this;have h1:=hle ss.length;refine zgb (by omega) (by omega) fun g w3 ho3 hB3=>?_;refine lpR (fun (s:Slc×Int×Unit) w4=>∃k:Nat,s.2.1=k/\k<=ss.length/\Go.Vc.Own cellE w4 w2.heap.size s.1 ((xss.take k).flatten)/\Below w2.heap.size w2 w4) (fun s=>ss.length-s.2.1.toNat) ⟨0,rfl,by omega,by simpa using ho3,hB3⟩ ?_;rintro ⟨t,i,_⟩ w4 ⟨k,rfl,hk,ho,hB⟩ I2 hI2;dsimp only at *;refine cO (fun hlt=>?_) (fun hge=>?_)
  ·have hlt:=oTq hlt;rw [hpn] at hlt;have hkl:k<ss.length:=by omega
   have hx:ss[k]?=some ss[k]:=List.getElem?_eq_getElem hkl;have hy:xss[k]?=some (xss[k]'(by omega)):=List.getElem?_eq_getElem _;refine (hp.ext hB).ix rfl (by omega) (by omega) fun hc=>?_;refine lSl (x:=ss[k]) (by simpa using hc 0 _ rfl) ?_;have hr:=(hss k _ _ hx hy).ext hB;have hf:=q0r hy;have h1:=hle (k+1);rw [hf,length_append] at h1;refine qde slT25 ho hr hB.size (by rw [by25];omega) (by simp only [maxLen];omega) fun r w5 ho5 hg5 hr5=>?_;rw [w64i (by omega)];exact hI2 _ _ ⟨k+1,by simp,by omega,by rw [hf];exact ho5,hB.grown hg5 hB.size fun g hg=>(ho.lt g hg).1⟩ (by simp;omega)
  ·have hge:=oFq hge;rw [hpn] at hge;have:k=ss.length:=by omega
   subst this;rw [hsl,take_length] at ho;exact hK _ _ ho hB
theorem qod {n:Nat} {col k:Int}:0<=manyL n col k/\(manyL n col k≠0->0<=col/\col+manyL n col k<=n):=by
 unfold manyL;split
 ·exact ⟨Int.le_refl _,fun h=>absurd rfl h⟩
 ·exact ⟨by omega,fun _=>⟨by omega,by omega⟩⟩
theorem zfu {w:World} {a b c:Slc} {xs ys zs:List Cell} (ha:Rd cellE w a xs) (hb:Rd cellE w b ys) (hc:Rd cellE w c zs):RdAll w [a,b,c] [xs,ys,zs]:=by
 refine ⟨rfl,fun i s l hs hl=>?_⟩
 match i,hs,hl with
 | 0,hs,hl=>cases hs;cases hl;exact ha
 | 1,hs,hl=>cases hs;cases hl;exact hb
 | 2,hs,hl=>cases hs;cases hl;exact hc
 | i+3,hs,hl=>cases hs
theorem ziz {w:World} {a b:Slc} {xs ys:List Cell} (ha:Rd cellE w a xs) (hb:Rd cellE w b ys):RdAll w [a,b] [xs,ys]:=by
 refine ⟨rfl,fun i s l hs hl=>?_⟩
 match i,hs,hl with
 | 0,hs,hl=>cases hs;cases hl;exact ha
 | 1,hs,hl=>cases hs;cases hl;exact hb
 | i+2,hs,hl=>cases hs
theorem qi5 {T:Type} {E:El T} {w:World} {g:Nat} {ys:List T} {vs:List Value} (hb:Blk w g E.t vs) (hm:ys.length<=maxLen) (hy:flat E ys=vs):Rd E w ⟨some ⟨g,0,none⟩,ys.length,ys.length⟩ ys :=
 (Go.Vc.Own.of_blk (E:=E) (base:=0) (Nat.zero_le _) hb (le_refl _) hm (by rw [<-hy,qd5]) (by rw [<-hy,List.take_of_length_le (by rw [qd5];exact le_refl _)])).rd
theorem q2h {l:Slc} {xs:List Cell} {col k:Int} {a:Attr} {w:World} {K:Slc->World->Prop} (h:Rd cellE w l xs) (hl:xs.length<=10000)
  (hK:∀s w',Go.Vc.Own cellE w' w.heap.size s (insL xs col k a)->Below w.heap.size w w'->K s w'):qgr l col k a w K:=by
 refine qxh _ _ _ _ ?_;unfold qpg;refine nwb fun w1 hb1 hB1 hs1=>?_;refine qgy (h.ext hB1) (by omega) fun m w2 ho2 hB2=>?_;have hml:=qbg xs;have hln:l.n=xs.length:=h.n;have hB02:Below w.heap.size w w2:=hB1.trans (hB2.mono (by omega));have hb2:=hb1.ext hB2;have ho2:Go.Vc.Own cellE w2 w.heap.size m (mendL xs):=ho2.base (by omega);obtain ⟨hc0,hc1⟩:=qod (n:=xs.length) (col:=col) (k:=k);refine q6v hln (by omega) ?_;unfold insL at hK;generalize manyL xs.length col k=c at *;refine cO (fun e=>?_) (fun e=>?_)
 ·have e:=eq_of_beq e;simp only [if_pos e] at hK;exact hK _ _ ho2 hB02
 ·have e:=beq_eq_false_iff_ne.1 e;simp only [if_neg e] at hK;obtain ⟨hc1,hc2⟩:=hc1 e;refine ho2.rd.slK (l:=0) (m:=col.toNat) rfl (.inl ⟨rfl,rfl⟩) (.inr (by simp;omega)) (by omega) (by omega) fun hp=>?_;refine qaq (x:=a) hb2.drew.cells ?_;rw [hln,w64i (by omega)];refine ho2.rd.slK (l:=col.toNat) (m:=xs.length-c.toNat) rfl (.inr (by simp;omega)) (.inr (by simp;omega)) (by omega) (by omega) fun hq=>?_;refine qp7 (by omega) fun b w4 ho4 hB4=>?_;have hB04:Below w.heap.size w w4:=hB02.drew.trans (hB4.mono hB02.size);refine nwb fun w5 hb5 hB5 hs5=>?_;have hB05:Below w.heap.size w w5:=hB04.trans (hB5.mono hB04.size);have hB45:Below w2.drew.heap.size w2.drew w5:=hB4.trans (hB5.mono hB4.size);have hA:=zfu (hp.drew.ext hB45) (ho4.rd.ext hB5) (hq.drew.ext hB45);refine qwj ?_ hA ?_ (by simp) fun r w6 ho6 hB6=>?_
  ·exact qi5 (E:=slE) (ys:=[_,_,_]) hb5 (by simp [maxLen]) rfl
  ·simp only [List.flatten_cons,List.flatten_nil,length_append,length_nil,length_drop,length_take,length_replicate];omega
  have hB06:Below w.heap.size w w6:=hB05.trans (hB6.mono hB05.size);refine qgy ho6.rd ?_ fun s w7 ho7 hB7=>?_
  ·simp only [List.flatten_cons,List.flatten_nil,length_append,length_nil,length_drop,length_take,length_replicate];omega
  refine hK s w7 ?_ (hB06.trans (hB7.mono hB06.size));simp only [List.flatten_cons,List.flatten_nil,append_nil,drop_zero,<-append_assoc] at ho7;exact ho7.base hB06.size
theorem q9v {l:Slc} {xs:List Cell} {col k:Int} {a:Attr} {w:World} {K:Slc->World->Prop} (h:Rd cellE w l xs) (hl:xs.length<=10000)
  (hK:∀s w',Go.Vc.Own cellE w' w.heap.size s (delL xs col k a)->Below w.heap.size w w'->K s w'):qj5 l col k a w K:=by
 refine qxi _ _ _ _ ?_;unfold qo8;refine nwb fun w1 hb1 hB1 hs1=>?_;refine qgy (h.ext hB1) (by omega) fun m w2 ho2 hB2=>?_;have hml:=qbg xs;have hln:l.n=xs.length:=h.n;have hB02:Below w.heap.size w w2:=hB1.trans (hB2.mono (by omega));have hb2:=hb1.ext hB2;have ho2:Go.Vc.Own cellE w2 w.heap.size m (mendL xs):=ho2.base (by omega);obtain ⟨hc0,hc1⟩:=qod (n:=xs.length) (col:=col) (k:=k);refine q6v hln (by omega) ?_;unfold delL at hK;generalize manyL xs.length col k=c at *;refine cO (fun e=>?_) (fun e=>?_)
 ·have e:=eq_of_beq e;simp only [if_pos e] at hK;exact hK _ _ ho2 hB02
 ·have e:=beq_eq_false_iff_ne.1 e;simp only [if_neg e] at hK;obtain ⟨hc1,hc2⟩:=hc1 e;refine ho2.rd.slK (l:=0) (m:=col.toNat) rfl (.inl ⟨rfl,rfl⟩) (.inr (by simp;omega)) (by omega) (by omega) fun hp=>?_;rw [w64i (by omega)];refine ho2.rd.slK (l:=(col+c).toNat) (m:=(mendL xs).length) rfl (.inr (by simp;omega)) (.inl ⟨rfl,rfl⟩) (by omega) (by omega) fun hq=>?_;refine qaq (x:=a) hb2.drew.cells ?_;refine qp7 (by omega) fun b w4 ho4 hB4=>?_;have hB04:Below w.heap.size w w4:=hB02.drew.trans (hB4.mono hB02.size);refine nwb fun w5 hb5 hB5 hs5=>?_;have hB05:Below w.heap.size w w5:=hB04.trans (hB5.mono hB04.size);have hB45:Below w2.drew.heap.size w2.drew w5:=hB4.trans (hB5.mono hB4.size);have hA:=zfu (hp.drew.ext hB45) (hq.drew.ext hB45) (ho4.rd.ext hB5);refine qwj ?_ hA ?_ (by simp) fun r w6 ho6 hB6=>?_
  ·exact qi5 (E:=slE) (ys:=[_,_,_]) hb5 (by simp [maxLen]) rfl
  ·simp only [List.flatten_cons,List.flatten_nil,length_append,length_nil,length_drop,length_take,length_replicate];omega
  have hB06:Below w.heap.size w w6:=hB05.trans (hB6.mono hB05.size);refine qgy ho6.rd ?_ fun s w7 ho7 hB7=>?_
  ·simp only [List.flatten_cons,List.flatten_nil,length_append,length_nil,length_drop,length_take,length_replicate];omega
  refine hK s w7 ?_ (hB06.trans (hB7.mono hB06.size));simp only [List.flatten_cons,List.flatten_nil,append_nil,drop_zero,take_length,<-append_assoc] at ho7;exact ho7.base hB06.size
theorem qqe {l:Slc} {xs:List Cell} {cols:Int} {w:World} {K:Slc->World->Prop} (h:Rd cellE w l xs) (hl:xs.length<=10000)
  (hK:∀s w',Go.Vc.Own cellE w' w.heap.size s (qa6 xs cols)->Below w.heap.size w w'->K s w'):qeh l cols w K:=by
 refine qw3 _ _ ?_;unfold qpc;refine qgy h (by omega) fun m w2 ho2 hB2=>?_;have hml:=qbg xs;have hmn:m.n=xs.length:=by have:=ho2.rd.n;rwa [hml] at this
 have e1:(if (0:Int)>cols then (0:Int) else cols)=max 0 cols:=by omega
 have e2:(if (1000:Int)<max 0 cols then (1000:Int) else max 0 cols)=min 1000 (max 0 cols):=by omega
 rw [e1,e2,hmn];unfold qa6 at hK;have hc:0<=min 1000 (max 0 cols):=by omega
 have hc':min 1000 (max 0 cols)<=1000:=by omega
 generalize min 1000 (max 0 cols)=c at *;refine cO (fun e=>?_) (fun e=>?_)
 ·have e:=oTq e;simp only [if_pos e] at hK;refine ho2.rd.slK (l:=0) (m:=c.toNat) rfl (.inl ⟨rfl,rfl⟩) (.inr (by simp;omega)) (by omega) (by omega) fun hp=>?_;refine qgy hp ?_ fun s w3 ho3 hB3=>hK s w3 ?_ (hB2.trans (hB3.mono hB2.size))
  ·simp;omega
  ·rw [drop_zero] at ho3;exact ho3.base hB2.size
 ·have e:=oFq e;simp only [if_neg e] at hK;rw [w64i (by omega)];refine qp7 (by omega) fun b w3 ho3 hB3=>?_;have hB03:Below w.heap.size w w3:=hB2.trans (hB3.mono hB2.size);refine nwb fun w5 hb5 hB5 hs5=>?_;have hB05:Below w.heap.size w w5:=hB03.trans (hB5.mono hB03.size);have hA:=ziz ((ho2.rd.ext hB3).ext hB5) (ho3.rd.ext hB5);refine qwj ?_ hA ?_ (by simp) fun r w6 ho6 hB6=>?_
  ·exact qi5 (E:=slE) (ys:=[_,_]) hb5 (by simp [maxLen]) (by rw [<-hmn];rfl)
  ·simp only [List.flatten_cons,List.flatten_nil,length_append,length_nil,length_replicate];omega
  refine hK r w6 ?_ (hB05.trans (hB6.mono hB05.size));simp only [List.flatten_cons,List.flatten_nil,append_nil] at ho6;exact ho6.base hB05.size
theorem zcx {l:Slc} {xs:List Cell} {from_ to:Int} {a:Attr} {w:World} {K:Slc->World->Prop} (h:Rd cellE w l xs) (hl:xs.length<=10000)
  (hK:∀s w',Go.Vc.Own cellE w' w.heap.size s (eraP xs from_ to a)->Below w.heap.size w w'->K s w'):qlq l from_ to a w K:=by
 refine qyd _ _ _ _ ?_;unfold qqz;refine nwb fun w1 hb1 hB1 hs1=>?_;refine qgy (h.ext hB1) (by omega) fun m w2 ho2 hB2=>?_;have hml:=qbg xs;have hln:l.n=xs.length:=h.n;have hB02:Below w.heap.size w w2:=hB1.trans (hB2.mono (by omega));have hb2:=hb1.ext hB2;have hmb:∀g,m.blk=some g->w.heap.size<g:=fun g hg=>by have:=(ho2.lt g hg).1;omega
 have ho2:Go.Vc.Own cellE w2 w.heap.size m (mendL xs):=ho2.base (by omega);have e1:(if (0:Int)>from_ then (0:Int) else from_)=max 0 from_:=by omega
 have e2:(if ((l.n:Nat):Int)<to then ((l.n:Nat):Int) else to)=min (xs.length:Int) to:=by rw [hln];omega
 rw [e1,e2];unfold eraP at hK;have hlo:0<=max 0 from_:=by omega
 have hhi:min (xs.length:Int) to<=xs.length:=by omega
 generalize max 0 from_=lo at *;generalize min (xs.length:Int) to=hi at *;refine cO (fun e=>?_) (fun e=>?_)
 ·have e:=oTq e;simp only [if_pos e] at hK;exact hK _ _ ho2 hB02
 ·have e:=oFq e;simp only [if_neg e] at hK;refine lpR (fun (s:Int×Unit) w3=>∃k:Nat,s.1=k/\lo.toNat<=k/\k<=hi.toNat/\Go.Vc.Own cellE w3 w.heap.size m (fillL (mendL xs) lo.toNat k (qb8 a))/\Blk w3 w.heap.size qa4 (qac.rep.cells a)/\Below w.heap.size w w3)
   (fun s=>hi.toNat-s.1.toNat) ⟨lo.toNat,by simp;omega,by omega,by omega,by rw [zct];exact ho2,hb2,hB02⟩ ?_
  rintro ⟨i,_⟩ w3 ⟨k,rfl,hk1,hk2,ho,hb,hB⟩ I hI;dsimp only at *;have hfl:=q0e (mendL xs) lo.toNat k (qb8 a);refine cO (fun hlt=>?_) (fun hge=>?_)
  ·have hlt:=oTq hlt;refine qaq (x:=a) hb.cells ?_;refine ho.rd.ix rfl (by omega) (by omega) fun _=>?_;refine ho.st0 (x:=(fillL (mendL xs) lo.toNat k (qb8 a))[((k:Int)).toNat]'(by omega)) (List.getElem?_eq_getElem _) (y:=qb8 a) rfl fun w4 ho4 hg4 hs4=>?_;rw [w64i (by omega)];refine hI _ _ ⟨k+1,by simp,by omega,by omega,?_,hb.grown hg4 (fun e=>by have:=hmb _ e.symm;omega),hB.grown hg4 hB.size fun g hg=>(ho.lt g hg).1⟩ (by simp;omega);rw [show ((k:Int)).toNat=k from rfl,zd2 hk1] at ho4;exact ho4
  ·have hge:=oFq hge;have:k=hi.toNat:=by omega
   subst this;refine q2k ho (by omega) fun w6 ho6 hc6=>?_;exact hK m w6 ho6 (hB.trans (hc6.below hB.size fun i hi e=>by have:=hmb i e;omega))
def byteE:El UInt8 where
 cells b:=[.int .u8 b.toNat]
 t:=qa7
 k:=1
 pos:=by decide
 len _:=rfl
 one x v hv:=by
  simp only [mem_cons,mem_nil_iff,or_false] at hv;rcases hv with rfl
  rfl
def runeE:El Int where
 cells r:=[.int .i32 r]
 t:=qeu
 k:=1
 pos:=by decide
 len _:=rfl
 one x v hv:=by
  simp only [mem_cons,mem_nil_iff,or_false] at hv;rcases hv with rfl
  rfl
noncomputable def slT34:SlT PG byteE qaj where
 ht:=by kernel_rfl
 i:=(PG.info? qa7).getD default
 hi:=by kernel_rfl
 z:=.int .u8 0
 hz:=by kernel_rfl
 hs:=by kernel_rfl
 hzs:=rfl
theorem by34:slT34.i.bytes=1:=by kernel_rfl
def qqm (r:Int):Bool:=decide (0<=r) && decide (r<=1114111) && (decide (r<55296) || decide (r>57343))
def contL:Nat->Int->List UInt8
 | 0,_=>[]
 | m+1,v=>u8 (128+v/64^m%64)::contL m v
def encV (v:Int):List UInt8 :=
 if v<128 then [u8 v] else if v<2048 then u8 (192+v/64)::contL 1 v else if v<65536 then u8 (224+v/4096)::contL 2 v else u8 (240+v/262144)::contL 3 v
def fixR (r:Int):Int:=if qqm r=true then r else 65533
def encR (r:Int):List UInt8:=encV (fixR r)
theorem zca (r:Int):qqm (fixR r)=true:=by
 unfold fixR;split
 ·assumption
 ·decide
theorem qks {r:Int}:qqm r=true↔0<=r/\r<=1114111/\(r<55296\/r>57343):=by
 unfold qqm;rw [Bool.and_eq_true,Bool.and_eq_true,Bool.or_eq_true,decide_eq_true_iff,decide_eq_true_iff,decide_eq_true_iff,decide_eq_true_iff,and_assoc]
theorem zh7 {r:Int} {w:World} {K:Bool->World->Prop} (hK:K (qqm r) w):quh r w K:=by
 refine q2y _ ?_;unfold q06;have no:qqm r≠true->K false w:=fun h=>by
  rwa [Bool.eq_false_iff.2 h] at hK
 refine cO (fun h1=>cO (fun h2=>cO (fun h3=>?_) (fun h3=>?_)) (fun h2=>?_)) (fun h1=>?_)
 ·have h1:=oTq h1;have h2:=oTq h2;have h3:=oTq h3
  rwa [qks.2 ⟨h1,h2,.inl h3⟩] at hK
 ·have h1:=oTq h1;have h2:=oTq h2;have h3:=oFq h3;by_cases h4:r>57343
  ·rw [qks.2 ⟨h1,h2,.inr h4⟩] at hK
   rwa [dTq h4]
  ·rw [dFq h4];exact no fun h=>by have:=qks.1 h;omega
 ·have h2:=oFq h2;exact no fun h=>by have:=qks.1 h;omega
 ·have h1:=oFq h1;exact no fun h=>by have:=qks.1 h;omega
theorem q6t {x:Int} (h:-2147483648<=x/\x<=2147483647):IntKind.i32.wrap x=x:=by
 rw [IntKind.wrap_i32];omega
theorem q1r (a:Nat) (ha:a<2147483648):(BitVec.ofInt 32 (a:Int)).toNat=a:=by
 rw [BitVec.toNat_ofInt];omega
theorem or32 (a b:Nat) (ha:a<2147483648) (hb:b<2147483648):bitsR .or .i32 (a:Int) (b:Int)=((a ||| b:Nat):Int):=by
 show IntKind.i32.wrap ((BitVec.ofInt 32 (a:Int) ||| BitVec.ofInt 32 (b:Int)).toNat:Int)=_;rw [BitVec.toNat_or,q1r a ha,q1r b hb];have:=Nat.or_lt_two_pow (n:=31) (x:=a) (y:=b) (by omega) (by omega);exact q6t (by omega)
theorem and32 (a b:Nat) (ha:a<2147483648) (hb:b<2147483648):bitsR .and .i32 (a:Int) (b:Int)=((a &&& b:Nat):Int):=by
 show IntKind.i32.wrap ((BitVec.ofInt 32 (a:Int) &&& BitVec.ofInt 32 (b:Int)).toNat:Int)=_;rw [BitVec.toNat_and,q1r a ha,q1r b hb];have:=Nat.and_lt_two_pow (n:=31) a (y:=b) (by omega);exact q6t (by omega)
theorem quc (i:Nat) (x y:Int) (hx0:0<=x) (hy0:0<=y) (hx:x.toNat%2^i=0) (hy:y.toNat<2^i) (hx1:x<2147483648) (hy1:y<2147483648):bitsR .or .i32 x y=x+y:=by
 obtain ⟨a,rfl⟩:=Int.eq_ofNat_of_zero_le hx0;obtain ⟨b,rfl⟩:=Int.eq_ofNat_of_zero_le hy0;rw [or32 a b (by omega) (by omega),nat_join i a b (by simpa using hx) (by simpa using hy)];simp
theorem zgi (x:Int) (hx0:0<=x) (hx1:x<2147483648):bitsR .and .i32 x 63=x%64:=by
 obtain ⟨a,rfl⟩:=Int.eq_ofNat_of_zero_le hx0;have:=and32 a 63 (by omega) (by omega);rw [show ((63:Nat):Int)=63 from rfl] at this;rw [this,nat_mask6];omega
theorem shr6 {m:Nat} (hm:m<=3) {v:Int} (_hv:0<=v):v.fdiv (2^(min (i64.wrap (6*(m:Int))).toNat IntKind.i32.bits))=v/64^m:=by
 rw [w64i (by omega)];have e1:(6*(m:Int)).toNat=6*m:=by omega
 have e2:min (6*m) IntKind.i32.bits=6*m:=by
  show min (6*m) 32=_;omega
 have e3:(2:Int)^(6*m)=64^m:=by rw [Int.pow_mul];rfl
 rw [e1,e2,e3];exact Int.fdiv_eq_ediv_of_nonneg _ (Int.le_of_lt (Int.pow_pos (by decide)))
theorem zhg {m:Nat} (hm:m<=3) {v:Int} (hv:0<=v) (hb:v<[128,2048,65536,2097152].getD m 0) :
  bitsR .or .i32 ([0,192,224,240].getD m 0) (v/64^m)=([0,192,224,240].getD m 0)+v/64^m:=by
 match m,hm with
 | 0,_ =>
  simp only [getD_cons_zero] at hb ⊢;simp only [Int.pow_zero,Int.ediv_one];exact quc 7 0 v (by omega) hv (by decide) (by omega) (by omega) (by omega)
 | 1,_ =>
  simp only [List.getD_cons_succ,getD_cons_zero] at hb ⊢;exact quc 5 192 _ (by omega) (by omega) (by decide) (by omega) (by omega) (by omega)
 | 2,_ =>
  simp only [List.getD_cons_succ,getD_cons_zero] at hb ⊢;exact quc 4 224 _ (by omega) (by omega) (by decide) (by omega) (by omega) (by omega)
 | 3,_ =>
  simp only [List.getD_cons_succ,getD_cons_zero] at hb ⊢;exact quc 3 240 _ (by omega) (by omega) (by decide) (by omega) (by omega) (by omega)
theorem zgw (m:Nat) {v:Int} (hv:0<=v) (hb:v<=1114111):0<=v/64^m/\v/64^m<=1114111:=by
 have hp:(0:Int)<64^m:=Int.pow_pos (by decide);exact ⟨Int.ediv_nonneg hv (Int.le_of_lt hp),Int.le_trans (Int.ediv_le_self _ hv) hb⟩
theorem q82 {w:World} {g:Nat} {x:Int} (h:0<=x/\x<256) (hb:Blk w g qa7 [.int .u8 (IntKind.u8.wrap x)]):Rd byteE w ⟨some ⟨g,0,none⟩,1,1⟩ [u8 x]:=by
 refine qkj (E:=byteE) hb ?_;show [Value.int .u8 ((u8 x).toNat:Int)]=_;rw [q3l h.1 h.2,IntWalk.u8_in _ (by omega)]
theorem q9n (v:Int):(encV v).length<=4:=by
 unfold encV;split
 ·simp
 ·split
  ·simp [contL]
  ·split<;>simp [contL]
theorem q9e {l:Slc} {xs:List Int} {w:World} {K:Slc->World->Prop} (h:Rd runeE w l xs) (hl:xs.length<=100000)
  (hK:∀r w',Go.Vc.Own byteE w' w.heap.size r (xs.flatMap encR)->Below w.heap.size w w'->K r w'):quk l w K:=by
 refine q4c _ ?_;unfold qzh;refine lpR (fun (s:Slc×Int×Unit) w2=>∃k:Nat,s.2.1=k/\k<=xs.length/\Go.Vc.Own byteE w2 w.heap.size s.1 ((xs.take k).flatMap encR)/\((xs.take k).flatMap encR).length<=4*k/\Below w.heap.size w w2)
  (fun s=>xs.length-s.2.1.toNat) ⟨0,rfl,by omega,by simpa using Go.Vc.Own.nil _ _ _,by simp,Below.refl _ _⟩ ?_
 rintro ⟨s,i,_⟩ w2 ⟨k,rfl,hk,ho,hlen,hB⟩ I hI;dsimp only at *;refine cO (fun hlt=>?_) (fun hge=>?_)
 ·have hlt:=oTq hlt;rw [h.n] at hlt;have hkl:k<xs.length:=by omega
  obtain ⟨x,hx⟩:∃x,xs[k]?=some x:=⟨xs[k],List.getElem?_eq_getElem hkl⟩;have htake:xs.take (k+1)=xs.take k++[x]:=by
   rw [take_add_one,hx];rfl
  refine (h.ext hB).ix rfl (by omega) (by omega) fun hc=>?_;have hxs:xs[((k:Int)).toNat]'(by omega)=x:=by
   have:=List.getElem?_eq_getElem hkl;rw [hx] at this;exact (Option.some.inj this).symm
  rw [hxs] at hc;refine lI (x:=x) (by have:=hc 0 _ rfl;rwa [add_zero] at this) ?_;refine jpO fun J2 hJ2=>?_;have main:J2 (fixR x,()) w2:=hJ2 _ _ (by
   dsimp only;obtain ⟨hv0,hv1,_⟩:=qks.1 (zca x);have henc:encR x=encV (fixR x):=rfl;generalize fixR x=v at *;refine jpO fun J3 hJ3=>?_;have go:∀m:Nat,m<=3->v<[128,2048,65536,2097152].getD m 0->encV v=u8 (([0,192,224,240].getD m 0)+v/64^m)::contL m v->J3 ((m:Int),[0,192,224,240].getD m 0,()) w2:=fun m hm hb he=>hJ3 _ _ (by
    dsimp only;rw [shr6 hm hv0,zhg hm hv0 hb];refine ⟨by rw [w64i (by omega)];omega,?_⟩;have hlead:0<=([0,192,224,240].getD m 0)+v/64^m/\([0,192,224,240].getD m 0)+v/64^m<256:=by
     match m,hm with
     | 0,_=>simp only [getD_cons_zero] at hb ⊢;simp only [Int.pow_zero,Int.ediv_one];omega
     | 1,_=>simp only [List.getD_cons_succ,getD_cons_zero] at hb ⊢;omega
     | 2,_=>simp only [List.getD_cons_succ,getD_cons_zero] at hb ⊢;omega
     | 3,_=>simp only [List.getD_cons_succ,getD_cons_zero] at hb ⊢;omega
    generalize ([0,192,224,240].getD m 0)+v/64^m=hd at *;refine nwb fun w3 hb3 hB3 hs3=>?_;refine qde slT34 (ho.ext hB3) (q82 hlead hb3) (by have:=hB.size;omega) (by rw [by34];simp only [length_cons,length_nil];omega) (by simp only [maxLen,length_cons,length_nil];omega) fun r w4 ho4 hg4 hr4=>?_;have hB4:Below w.heap.size w w4:=(hB.trans (hB3.mono hB.size)).grown hg4 (by have:=hB.size;omega) fun g hg=>((ho.ext hB3).lt g hg).1;refine lpR (fun (s3:Slc×Int×Unit) w6=>∃j:Nat,j<=m/\s3.2.1=(j:Int)-1/\∃done:List UInt8,done++contL j v=u8 hd::contL m v/\done.length<=4/\Go.Vc.Own byteE w6 w.heap.size s3.1 ((xs.take k).flatMap encR++done)/\Below w.heap.size w w6)
     (fun s3=>(s3.2.1+1).toNat) ⟨m,le_refl _,by rw [w64i (by omega)],[u8 hd],rfl,by simp,ho4,hB4⟩ ?_
    rintro ⟨s3,i3,_⟩ w6 ⟨j,hj,rfl,done,hdone,hdl,ho6,hB6⟩ I4 hI4;dsimp only at *;refine cO (fun h0=>?_) (fun h0=>?_)
    ·have h0:=oTq h0;obtain ⟨j,rfl⟩:∃j',j=j'+1:=⟨j-1,by omega⟩;have ej:((j+1:Nat):Int)-1=(j:Int):=by omega
     rw [ej] at h0 ⊢;rw [shr6 (by omega) hv0];obtain ⟨hq0,hq1⟩:=zgw j hv0 hv1;rw [zgi _ hq0 (by omega),quc 6 128 _ (by omega) (by omega) (by decide) (by omega) (by omega) (by omega)];refine ⟨by rw [w64i (by omega)];omega,?_⟩;refine nwb fun w7 hb7 hB7 hs7=>?_;have hdl':done.length+(contL (j+1) v).length<=4:=by
      have:=congrArg List.length hdone;rw [length_append] at this;rw [this]
      match m,hm with
      | 0,_=>simp [contL]
      | 1,_=>simp [contL]
      | 2,_=>simp [contL]
      | 3,_=>simp [contL]
     simp only [contL,length_cons] at hdl';refine qde slT34 (ho6.ext hB7) (q82 (by omega) hb7) (by have:=hB6.size;omega) (by rw [by34];simp only [length_append,length_cons,length_nil];omega) (by simp only [maxLen,length_append,length_cons,length_nil];omega) fun r' w8 ho8 hg8 hr8=>?_;rw [w64i (by omega)];refine hI4 (r',(j:Int)-1,()) w8 ⟨j,by omega,rfl,done++[u8 (128+v/64^j%64)],by rw [<-hdone];simp [contL],by simp;omega,?_,?_⟩ (by simp)
     ·rw [<-append_assoc];exact ho8
     ·exact (hB6.trans (hB7.mono hB6.size)).grown hg8 (by have:=hB6.size;omega) fun g hg=>((ho6.ext hB7).lt g hg).1
    ·have h0:=oFq h0;have hj0:j=0:=by omega
     subst hj0;rw [contL,append_nil] at hdone;rw [w64i (by omega)];have hfl:(xs.take (k+1)).flatMap encR=(xs.take k).flatMap encR++done:=by
      rw [htake,List.flatMap_append,hdone,<-he,<-henc];simp
     refine hI (s3,(k:Int)+1,()) w6 ⟨k+1,by simp,by omega,?_,?_,hB6⟩ (by simp;omega)
     ·rw [hfl];exact ho6
     ·rw [hfl,length_append];omega)
   refine jpO fun J5 hJ5=>?_;have j5:∀m:Nat,m<=2->J3 (((m+1:Nat):Int),[0,192,224,240].getD (m+1) 0,()) w2->J5 ((m:Int),[0,0,32,48].getD (m+1) 0,()) w2:=fun m hm h3=>hJ5 _ _ (by
    dsimp only;rw [w64i (by omega)]
    match m,hm with
    | 0,_=>exact h3
    | 1,_=>exact h3
    | 2,_=>exact h3)
   refine jpO fun J6 hJ6=>?_;refine cO (fun h4=>?_) (fun h4=>cO (fun h3=>?_) (fun h3=>cO (fun h2=>?_) (fun h2=>?_)))
   ·have h4:=oTq h4;refine hJ6 _ _ (j5 2 (by omega) (go 3 (by omega) (by simp only [List.getD_cons_succ,getD_cons_zero];omega) ?_));unfold encV;rw [if_neg (by omega),if_neg (by omega),if_neg (by omega)];rfl
   ·have h4:=oFq h4;have h3:=oTq h3;refine hJ6 _ _ (j5 1 (by omega) (go 2 (by omega) (by simp only [List.getD_cons_succ,getD_cons_zero];omega) ?_));unfold encV;rw [if_neg (by omega),if_neg (by omega),if_pos (by omega)];rfl
   ·have h3:=oFq h3;have h2:=oTq h2;refine j5 0 (by omega) (go 1 (by omega) (by simp only [List.getD_cons_succ,getD_cons_zero];omega) ?_);unfold encV;rw [if_neg (by omega),if_pos (by omega)];rfl
   ·have h2:=oFq h2;refine go 0 (by omega) (by simp only [getD_cons_zero];omega) ?_;unfold encV;rw [if_pos (by omega)];simp [contL])
  refine zh7 ?_;refine cO (fun hn=>?_) (fun hn=>?_)
  ·have hn:qqm x=false:=by simpa using hn
   have:fixR x=65533:=by rw [fixR,if_neg (by rw [hn];decide)]
   rw [this] at main;exact main
  ·have hn:qqm x=true:=by simpa using hn
   have:fixR x=x:=by rw [fixR,if_pos hn]
   rw [this] at main;exact main
 ·have hge:=oFq hge;rw [h.n] at hge;have:k=xs.length:=by omega
  subst this;rw [take_length] at ho;exact hK s w2 ho hB
def strOf (l:List UInt8):ByteArray:=⟨l.toArray⟩
theorem qoi (l:List UInt8):(strOf l).toList=l:=by rw [ByteArray.toList_eq];rfl
theorem qkq (l:List UInt8):(strOf l).size=l.length:=by simp [strOf,ByteArray.size]
theorem q62 (l:List UInt8) (n:Nat):(strOf l).extract 0 n=strOf (l.take n):=by
 apply ByteArray.ext;rw [ByteArray.data_extract];simp [strOf]
def Bld (w:World) (g base:Nat) (bs:List UInt8):Prop :=
 ∃(p:Option Addr) (s:Slc),Blk w g qbc [.pointer p,.slice s.a s.n s.c]/\(p=none\/p=some ⟨g,0,none⟩)/\Go.Vc.Own byteE w base s bs/\base<=g
def bldS (w:World) (g base:Nat) (k:Nat):Prop:=base<=k/\(k=g\/∃cs,Blk w k qa7 cs)
theorem q1c {w:World} {g:Nat} {t:TypeId} {vs:List Value} (h:Blk w g t vs):w.shape? g=some (t,vs.length):=by
 unfold Blk at h;simp [World.shape?,h]
theorem qw5 {g:Nat} {p:Option Addr} {s:Slc} {w:World} {K:World->Prop} (hb:Blk w g qbc [.pointer p,.slice s.a s.n s.c]) (hp:p=none\/p=some ⟨g,0,none⟩)
  (hK:∀w',Blk w' g qbc [.pointer (some ⟨g,0,none⟩),.slice s.a s.n s.c]->Chg (fun k=>k=g) w w'->w'.heap.size=w.heap.size->K w'):qc7 (some ⟨g,0,none⟩) w K:=by
 refine qnv _ ?_;unfold qho;refine qar (x:=p) (hb.cells 0 _ rfl) ?_;have hsh:=q1c hb;rcases hp with rfl | rfl
 ·dsimp only [Option.isNone_none,cond_true];refine ⟨some ⟨g,0,none⟩,w,?_,?_⟩
  ·exact Lib.run_to_unsafe w ⟨g,0,none⟩ (t:=qbc) (j:=(PG.info? qbc).getD default) (by kernel_rfl) (by kernel_rfl) (by kernel_rfl) (by rw [show ((PG.info? qbc).getD default).size=2 by kernel_rfl];decide) hsh (by simp)
  refine ⟨some ⟨g,0,none⟩,w,?_,?_⟩
  ·rw [run_callFunc_extern Tryz.func150 (by kernel_rfl) (by kernel_rfl) (by kernel_rfl) (e:=Extern.AbiNoEscape.same) (by kernel_rfl)];show ((Extern.AbiNoEscape.same #[_]).run PG w).andThen _=_;rw [Lib.run_noEscape];rfl
  refine ⟨some ⟨g,0,none⟩,w,?_,?_⟩
  ·exact Lib.run_from_unsafe w ⟨g,0,none⟩ (u:=qbc) (j:=(PG.info? qbc).getD default) (by kernel_rfl) (by kernel_rfl) (by kernel_rfl) hsh (by kernel_rfl)
  show stK ((⟨g,0,none⟩:Addr).add 0) _ w _;rw [add_zero];exact qah hb (by simp) fun w' hb' hg' hs'=>hK w' hb' (Chg.of_grown hg' fun k hk=>by cases hk;rfl) hs'
 ·dsimp only [Option.isNone_some,cond_false];refine qar (x:=some ⟨g,0,none⟩) (hb.cells 0 _ rfl) ?_;refine ⟨fun a b ha hb=>by cases ha;cases hb;rfl,?_⟩;rw [dTq rfl];exact hK w hb (Chg.refl _ _) rfl
theorem qse {w:World} {g base:Nat} {s:Slc} {bs:List UInt8} {vs:List Value} (ho:Go.Vc.Own byteE w base s bs) (hb:Blk w g qbc vs):∀k,s.blk=some k->k≠g:=by
 intro k hk;obtain ⟨cs,hcs⟩:=ho.blk_t hk;exact hcs.ne_t hb (by decide)
theorem zbj {w w1 w2:World} {g base:Nat} {s r:Slc} {bs cs:List UInt8} {K:World->Prop} (hb:Blk w1 g qbc [.pointer (some ⟨g,0,none⟩),.slice s.a s.n s.c]) (ho:Go.Vc.Own byteE w1 base s bs) (hg:base<=g)
  (hch:Chg (bldS w g base) w w1) (ho2:Go.Vc.Own byteE w2 base r (bs++cs)) (hg2:w1.grownBy w2 s.blk) (hsb:∀k,s.blk=some k->k<w.heap.size->bldS w g base k)
  (hK:∀w',Bld w' g base (bs++cs)->Chg (bldS w g base) w w'->K w'):stK ((⟨g,0,none⟩:Addr).add 1) [.slice r.a r.n r.c] w2 K:=by
 have hb2:Blk w2 g qbc [.pointer (some ⟨g,0,none⟩),.slice s.a s.n s.c]:=hb.grown hg2 fun e=>qse ho hb g e.symm rfl;refine qah hb2 (by simp) fun w3 hb3 hg3 hs3=>hK w3 ⟨some ⟨g,0,none⟩,r,hb3,.inr rfl,?_,hg⟩ ?_
 ·exact ho2.kept hg3 (by
   cases hr:r.blk with
   | none=>exact .inl rfl
   | some k=>exact .inr fun e=>qse ho2 hb2 k hr (Option.some.inj e))
 ·refine (hch.trans (S':=fun k=>s.blk=some k) (Chg.of_grown hg2 fun k hk=>hk) fun i hi hs=>hsb i hs hi).trans (S':=fun k=>k=g) (Chg.of_grown hg3 fun k hk=>by cases hk;rfl) fun i hi e=>?_;exact ⟨by omega,.inl e⟩
theorem q5i {g base:Nat} {bs:List UInt8} {c:Int} {w:World} {K:Value->World->Prop} (h:Bld w g base bs) (hl:bs.length<=1000000) (hc:0<=c/\c<256)
  (hK:∀w',Bld w' g base (bs++[u8 c])->Chg (bldS w g base) w w'->K .nilIface w'):qee (some ⟨g,0,none⟩) c w K:=by
 obtain ⟨p,s,hb,hp,ho,hg⟩:=h;refine qn3 _ _ ?_;unfold qh1;refine qw5 hb hp fun w1 hb1 hc1 hs1=>?_;rw [onPtr_some];refine lSl (x:=s) (hb1.cells 1 _ rfl) ?_;have ho1:Go.Vc.Own byteE w1 base s bs:=ho.chg hc1 (qse ho hb);refine nwb fun w2 hb2 hB2 hs2=>?_;have hx:Rd byteE w2 ⟨some ⟨w1.heap.size,0,none⟩,1,1⟩ [u8 c]:=by
  refine qkj (E:=byteE) hb2 ?_;show [Value.int .u8 ((u8 c).toNat:Int)]=_;rw [q3l hc.1 hc.2]
 refine qde slT34 (ho1.ext hB2) hx (by have:=hb.lt;omega) (by rw [by34];simp only [length_cons,length_nil];omega) (by simp only [maxLen,length_cons,length_nil];omega) fun r w3 ho3 hg3 hr3=>?_;rw [onPtr_some];refine zbj (w:=w) (w1:=w2) (hb1.ext hB2) (ho1.ext hB2) hg ?_ ho3 hg3 (fun k hk hkl=>?_) fun w4 h4 hc4=>hK w4 h4 hc4
 ·exact (hc1.mono (S':=bldS w g base) fun i hi e=>⟨by omega,.inl e⟩).trans (Chg.of_ext (S:=fun _=>False) hB2) fun i hi e=>e.elim
 ·exact ⟨(ho.lt k hk).1,.inr (ho.blk_t hk)⟩
theorem q8y {g base:Nat} {bs cs:List UInt8} {p:Slc} {w:World} {K:Int->Value->World->Prop} (h:Bld w g base bs) (hp:Rd byteE w p cs) (hpb:∀a,p.a=some a->¬a.block=g) (hl:bs.length<=1000000) (hl':cs.length<=1000000)
  (hK:∀n w',Bld w' g base (bs++cs)->Chg (bldS w g base) w w'->K n .nilIface w'):qgb (some ⟨g,0,none⟩) p w K:=by
 obtain ⟨q,s,hb,hq,ho,hg⟩:=h;refine qrj _ _ ?_;unfold qju;refine qw5 hb hq fun w1 hb1 hc1 hs1=>?_;rw [onPtr_some];refine lSl (x:=s) (hb1.cells 1 _ rfl) ?_;have ho1:Go.Vc.Own byteE w1 base s bs:=ho.chg hc1 (qse ho hb);refine qde slT34 ho1 (hp.chg hc1 hpb) (by have:=hb.lt;omega) (by rw [by34];omega) (by simp only [maxLen];omega) fun r w3 ho3 hg3 hr3=>?_;rw [onPtr_some];refine zbj (w:=w) (w1:=w1) hb1 ho1 hg ?_ ho3 hg3 (fun k hk hkl=>?_) fun w4 h4 hc4=>hK _ w4 h4 hc4
 ·exact hc1.mono (S':=bldS w g base) fun i hi e=>⟨by omega,.inl e⟩
 ·exact ⟨(ho.lt k hk).1,.inr (ho.blk_t hk)⟩
theorem zaa {g base:Nat} {bs:List UInt8} {w:World} {K:ByteArray->World->Prop} (h:Bld w g base bs) (hl:bs.length<=1000000)
  (hK:∀w',Chg (bldS w g base) w w'->K (strOf bs) w'):qfn (some ⟨g,0,none⟩) w K:=by
 obtain ⟨p,s,hb,hp,ho,hg⟩:=h;refine qq6 _ ?_;unfold qjk;rw [onPtr_some];refine lSl (x:=s) (hb.drew.cells 1 _ rfl) ?_;rw [onPtr_some];refine lSl (x:=s) (hb.drew.cells 1 _ rfl) ?_;rcases ho.form with ⟨rfl,rfl⟩ | ⟨g',cur,hs,hb',hblk,h1,h2,h3,h4⟩
 ·refine ⟨none,w.drew,Lib.run_unsafeSliceData_nil w.drew _ _ _ _,hb.drew.cells 1 _ rfl,strOf [],w.drew,?_,hK _ ⟨rfl,rfl,rfl,le_refl _,fun _ _ _=>rfl⟩⟩;exact Lib.run_unsafeString_none w.drew qih qbz qb1 none
 ·have hsn:s.n=bs.length:=by rw [hs]
  have hsa:s.a=some ⟨g',0,none⟩:=by rw [hs]
  by_cases h0:bs=[]
  ·subst h0;by_cases hc:s.c=0
   ·have hcur:cur=[]:=List.eq_nil_of_length_eq_zero (by rw [h3,hc];simp);have hz:=Lib.run_unsafeSliceData_zero (P:=PG) w.drew #[qaj] qih qa7 (by kernel_rfl) ⟨g',0,none⟩ s.n _ (q1c hblk.drew);rw [hsa,hc] at hb ⊢;refine ⟨_,_,hz,(hb.drew.alloc _).cells 1 _ rfl,strOf [],w.drew.alloc (.view ⟨g',0,none⟩ 5),?_,hK _ ?_⟩
    ·rw [hsn];exact Lib.run_unsafeString_none _ qih qbz qb1 _
    ·exact Chg.of_ext ((Below.refl _ w).drew.alloc (le_refl _) _)
   ·refine ⟨some ⟨g',0,none⟩,w.drew,?_,hb.drew.cells 1 _ rfl,strOf [],w.drew,?_,hK _ ⟨rfl,rfl,rfl,le_refl _,fun _ _ _=>rfl⟩⟩
    ·rw [hsa];exact Lib.run_unsafeSliceData_row w.drew _ _ _ _ _ hc
    ·rw [hsn];exact Lib.run_unsafeString_none w.drew qih qbz qb1 _
  ·have hlen:0<bs.length:=List.length_pos_iff.2 h0;have hc:s.c≠0:=by omega
   refine ⟨some ⟨g',0,none⟩,w.drew,?_,hb.drew.cells 1 _ rfl,strOf bs,w.drew.freeze ⟨g',0,none⟩ bs.length,?_,hK _ ?_⟩
   ·rw [hsa];exact Lib.run_unsafeSliceData_row w.drew _ _ _ _ _ hc
   ·rw [hsn];refine Lib.run_unsafeString_row w.drew qih qbz qb1 5 (by kernel_rfl) (by kernel_rfl) g' cur.length (q1c hblk.drew) bs h0 (by rw [h3];simp [byteE];omega) (by omega) fun j x hj=>?_;have hr:=ho.drew.rd.at_ j x hj;have:=hr 0 (.int .u8 x.toNat) rfl;simp only [Slc.at_,hsa,Option.getD_some,add_zero] at this
    rwa [show j*byteE.k=j from Nat.mul_one j] at this
   ·unfold World.freeze;rw [if_neg (by omega)];refine ⟨rfl,rfl,rfl,by simp,fun k hk hn=>?_⟩;have hne:g'≠k:=by
     rintro rfl;exact hn ⟨hb',.inr ⟨_,hblk⟩⟩
    show (w.heap.modify g' _)[k]?=w.heap[k]?;rw [Array.getElem?_modify,if_neg hne]
def trimR (l:List UInt8):List UInt8:=(l.reverse.dropWhile (·==32)).reverse
theorem q9a (l:List UInt8):trimR (l++[32])=trimR l:=by simp [trimR]
theorem zcm (l:List UInt8) (b:UInt8) (h:b≠32):trimR (l++[b])=l++[b]:=by
 have:(b==32)=false:=by simpa using h
 simp [trimR,this]
theorem q7j {l:List UInt8} {w:World} {K:ByteArray->World->Prop} (hl:l.length<=4611686018427387904) (hK:K (strOf (trimR l)) w):qgd (strOf l) 32 w K:=by
 refine qrt _ _ ?_;unfold qjx;refine lpR (fun (s:ByteArray×Unit) w2=>∃m:List UInt8,s.1=strOf m/\trimR m=trimR l/\m.length<=l.length/\w2=w) (fun s=>s.1.size) ⟨l,rfl,rfl,le_refl _,rfl⟩ ?_;rintro ⟨s,_⟩ w2 ⟨m,rfl,hm,hml,rfl⟩ I hI;dsimp only at *;refine jpO fun J hJ=>?_;rw [qkq];refine cO (fun h=>?_) (fun h=>?_)
 ·have h:=oTq h;obtain ⟨r,b,rfl⟩:∃r b,m=r++[b]:=⟨m.dropLast,m.getLast (by intro e;subst e;simp at h),(List.dropLast_concat_getLast _).symm⟩;rw [length_append] at *;simp only [length_cons,length_nil] at *;rw [w64i (by omega)];have hi:(((r.length+(0+1):Nat):Int)-1).toNat=r.length:=by omega
  refine ⟨⟨by omega,by rw [qkq,length_append];simp;omega⟩,?_⟩;rw [hi];have hb:((strOf (r++[b])).data.getD r.length 0)=b:=by simp [strOf]
  rw [hb];refine cO (fun e=>?_) (fun e=>?_)
  ·have e:b=32:=by
    have e:=eq_of_beq e;have e:b.toNat=32:=Int.ofNat_inj.1 e;exact UInt8.toNat_inj.1 e
   subst e;refine hJ _ _ ?_;rw [qkq,length_append];simp only [length_cons,length_nil];rw [w64i (by omega)];refine ⟨⟨by omega,by rw [qkq,length_append];simp;omega⟩,?_⟩;rw [hi];show I ((strOf (r++[32])).extract 0 r.length,()) w2;rw [q62,List.take_left];refine hI _ _ ⟨r,rfl,by rw [<-hm,q9a],by omega,rfl⟩ (by simp [qkq])
  ·have e:b≠32:=by
    have e:=beq_eq_false_iff_ne.1 e;rintro rfl;exact e rfl
   rw [<-hm,zcm r b e] at hK;exact hK
 ·have h:=oFq h;have:m=[]:=List.eq_nil_of_length_eq_zero (by omega);subst this;rw [<-hm] at hK;exact hK
theorem q55 {l:List UInt8} {w:World} {K:ByteArray->World->Prop} (hl:l.length<=4611686018427387904) (hK:K (strOf (trimR l)) w):qi7 (strOf l) (⟨#[32]⟩:ByteArray) w K:=by
 refine qwr _ _ ?_;unfold qov;refine jpO fun J hJ=>?_;refine cO (fun h=>?_) (fun h=>?_)
 ·have h:=eq_of_beq h;rw [qoi] at h;have:l=[]:=by rw [h];exact qoi []
  subst this;exact hK
 ·refine cF (by rw [show ((⟨#[32]⟩:ByteArray)).toList=[32] from qoi [32],show ((⟨#[]⟩:ByteArray)).toList=[] from qoi []];rfl) ?_;refine hJ _ _ ?_;refine jpO fun J2 hJ2=>jpO fun J3 hJ3=>?_;refine cT rfl ?_;have hz:(0:Int)<(strOf [32]).size:=by rw [qkq];decide
  refine ⟨⟨Int.le_refl _,hz⟩,?_⟩;refine hJ3 _ _ ?_;refine cT ?_ ⟨⟨Int.le_refl _,hz⟩,?_⟩
  ·kernel_rfl
  ·exact q7j hl hK
def qc2 (c:Cell):List UInt8:=if c.Kind=2 then [] else if c.R=0 then [32] else encR c.R
def textB (xs:List Cell):List UInt8:=(mendL xs).flatMap qc2
def textS (xs:List Cell):ByteArray:=strOf (trimR (textB xs))
theorem q21 (r:Int):(encR r).length<=4:=q9n _
theorem q7w (c:Cell):(qc2 c).length<=4:=by
 unfold qc2;split
 ·simp
 ·split
  ·simp
  ·exact q21 _
theorem q0a:∀ys:List Cell,(ys.flatMap qc2).length<=4*ys.length
 | []=>by simp
 | c::r=>by
  have h1:=q7w c;have h2:=q0a r;rw [List.flatMap_cons,length_append,length_cons];omega
theorem q0q {l:Slc} {xs:List Cell} {w:World} {K:ByteArray->World->Prop} (h:Rd cellE w l xs) (hl:xs.length<=10000)
  (hK:∀w',Below w.heap.size w w'->K (textS xs) w'):qfm l w K:=by
 refine qz4 _ ?_;unfold qr2;refine nwb fun w1 hb1 hB1 hs1=>?_;refine qgy (h.ext hB1) (by omega) fun m w2 ho2 hB2=>?_;have hml:=qbg xs;have hmn:m.n=xs.length:=by have:=ho2.rd.n;rwa [hml] at this
 have hbld:Bld w2 w.heap.size w.heap.size []:=⟨none,⟨none,0,0⟩,hb1.ext hB2,.inl rfl,Go.Vc.Own.nil _ _ _,le_refl _⟩;have hB02:Below w.heap.size w w2:=hB1.trans (hB2.mono (by omega));have ho2:Go.Vc.Own cellE w2 w.heap.size m (mendL xs):=ho2.base (by omega);refine lpR (fun (s:Int×Unit) w3=>∃k:Nat,s.1=k/\k<=xs.length/\Go.Vc.Own cellE w3 w.heap.size m (mendL xs)/\Bld w3 w.heap.size w.heap.size (((mendL xs).take k).flatMap qc2)/\Below w.heap.size w w3)
  (fun s=>xs.length-s.1.toNat) ⟨0,rfl,by omega,ho2,by simpa using hbld,hB02⟩ ?_
 rintro ⟨i,_⟩ w3 ⟨k,rfl,hk,ho,hbl,hB⟩ I hI;dsimp only at *;have hblen:(((mendL xs).take k).flatMap qc2).length<=4*k:=by
  have:=q0a ((mendL xs).take k);rw [length_take] at this;omega
 have keepO:∀{a b:World},Go.Vc.Own cellE a w.heap.size m (mendL xs)->(∃vs,Blk a w.heap.size qbc vs)->Chg (bldS a w.heap.size w.heap.size) a b->Go.Vc.Own cellE b w.heap.size m (mendL xs):=by
  rintro a b ho ⟨vs,hv⟩ hc;refine ho.chg hc fun g hg=>?_;rintro ⟨_,e | ⟨cs,hcs⟩⟩
  ·obtain ⟨cs,hcs⟩:=ho.blk_t hg;exact hcs.ne_t hv (by decide) e
  ·obtain ⟨cs',hcs'⟩:=ho.blk_t hg;exact hcs'.ne_t hcs (by decide) rfl
 have keepB:∀{a b:World},Below w.heap.size w a->Chg (bldS a w.heap.size w.heap.size) a b->Below w.heap.size w b:=fun hB hc =>
  hB.trans (hc.below hB.size fun i hi hs=>by have:=hs.1;omega)
 refine cO (fun hlt=>?_) (fun hge=>?_)
 ·have hlt:=oTq hlt;rw [hmn] at hlt;have hkl:k<(mendL xs).length:=by omega
  obtain ⟨x,hx,hxs⟩:=get_of hkl;have htake:((mendL xs).take (k+1)).flatMap qc2=((mendL xs).take k).flatMap qc2++qc2 x:=by
   rw [take_add_one,hx];simp
  have hwr:i64.wrap ((k:Int)+1)=(k:Int)+1:=w64i (by omega);refine ho.rd.ix rfl (by omega) (by omega) fun hc=>?_;rw [hxs] at hc;refine qaq (x:=x) hc ?_;refine qt1 rfl fun w5 hb5 hB5 hs5=>?_;have hB05:Below w.heap.size w w5:=hB.trans (hB5.mono hB.size);have ho5:=ho.ext hB5;have hbl5:Bld w5 w.heap.size w.heap.size (((mendL xs).take k).flatMap qc2):=by
   obtain ⟨p,s,h1,h2,h3,h4⟩:=hbl;exact ⟨p,s,h1.ext hB5,h2,h3.ext hB5,h4⟩
  have hv5:∃vs,Blk w5 w.heap.size qbc vs:=by obtain ⟨p,s,h1,_⟩:=hbl5;exact ⟨_,h1⟩
  have fin:∀{w6:World},Bld w6 w.heap.size w.heap.size (((mendL xs).take k).flatMap qc2++qc2 x)->Go.Vc.Own cellE w6 w.heap.size m (mendL xs)->Below w.heap.size w w6->I (i64.wrap ((k:Int)+1),()) w6:=fun hb6 ho6 hB6=>by
   rw [hwr];exact hI _ _ ⟨k+1,by simp,by omega,ho6,by rw [htake];exact hb6,hB6⟩ (by simp;omega)
  refine lI (hb5.cells 1 _ rfl) ?_;refine cO (fun h2=>?_) (fun h2=>?_)
  ·have h2:=eq_of_beq h2;have e:qc2 x=[]:=by rw [qc2,if_pos h2]
   exact fin (by rw [e,append_nil];exact hbl5) ho5 hB05
  ·have h2:=beq_eq_false_iff_ne.1 h2;refine lI (hb5.cells 0 _ rfl) ?_;refine cO (fun h0=>?_) (fun h0=>?_)
   ·have h0:=eq_of_beq h0;have e:qc2 x=[32]:=by rw [qc2,if_neg h2,if_pos h0]
    refine q5i hbl5 (by omega) (by decide) fun w6 hb6 hc6=>?_;exact fin (by rw [e];exact hb6) (keepO ho5 hv5 hc6) (keepB hB05 hc6)
   ·have h0:=beq_eq_false_iff_ne.1 h0;have e:qc2 x=encR x.R:=by rw [qc2,if_neg h2,if_neg h0]
    refine lI (hb5.cells 0 _ rfl) ?_;refine nwb fun w7 hb7 hB7 hs7=>?_;have hr7:Rd runeE w7 ⟨some ⟨w5.heap.size,0,none⟩,1,1⟩ [x.R]:=qkj (E:=runeE) hb7 rfl;refine q9e hr7 (by simp) fun r w8 ho8 hB8=>?_;have hB58:Below w5.heap.size w5 w8:=hB7.trans (hB8.mono (by omega));have hbl8:Bld w8 w.heap.size w.heap.size (((mendL xs).take k).flatMap qc2):=by
     obtain ⟨p,s,h1,h2,h3,h4⟩:=hbl5;exact ⟨p,s,h1.ext hB58,h2,h3.ext hB58,h4⟩
    have hv8:∃vs,Blk w8 w.heap.size qbc vs:=by obtain ⟨p,s,h1,_⟩:=hbl8;exact ⟨_,h1⟩
    have hrd:Rd byteE w8 r (encR x.R):=by have:=ho8.rd;simpa using this
    have hne:∀a,r.a=some a->¬a.block=w.heap.size:=by
     intro a ha e;have:=(ho8.lt a.block (by simp [Slc.blk,ha])).1;have h1:=hB05.size;obtain ⟨vs,hv⟩:=hv5;have:=hv.lt;omega
    have:=q21 x.R;refine q8y hbl8 hrd hne (by omega) (by omega) fun n w9 hb9 hc9=>?_;exact fin (by rw [e];exact hb9) (keepO (ho5.ext hB58) hv8 hc9) (keepB (hB05.trans (hB58.mono hB05.size)) hc9)
 ·have hge:=oFq hge;rw [hmn] at hge;have:k=xs.length:=by omega
  subst this;rw [<-hml,take_length] at hbl hblen;refine zaa hbl (by omega) fun w4 hc4=>?_;refine q55 (by omega) ?_;exact hK w4 (keepB hB hc4)
def okR (xs:List Cell):Prop:=∀c∈xs,-9223372036854775808<=c.R/\c.R<=9223372036854775807
theorem qc4 {xs:List Cell} (h:okR xs):okR (mendL xs):=by
 intro c hc;obtain ⟨i,hi⟩:=List.getElem?_of_mem hc;have hlt:i<xs.length:=by have:=(List.getElem?_eq_some_iff.1 hi).1;rwa [qbg] at this
 obtain ⟨x,hx,_⟩:=get_of hlt;rw [qni xs i x hx] at hi;cases hi;have:=h x (List.mem_of_getElem? hx);unfold mendC;split
 ·exact this
 ·split
  ·exact ⟨show (-9223372036854775808:Int)<=0 by decide,show (0:Int)<=9223372036854775807 by decide⟩
  ·split
   ·exact ⟨show (-9223372036854775808:Int)<=0 by decide,show (0:Int)<=9223372036854775807 by decide⟩
   ·exact this
theorem za8 {xs:List Cell} {i:Nat} {k:Int}:isB xs i k=true↔∃y,xs[i]?=some y/\y.Kind=k:=by
 unfold isB;rw [Bool.and_eq_true,Bool.and_eq_true,decide_eq_true_iff,decide_eq_true_iff,beq_iff_eq];constructor
 ·rintro ⟨⟨_,h⟩,e⟩;have hl:i<xs.length:=by omega
  refine ⟨xs[i],List.getElem?_eq_getElem hl,?_⟩;rw [qsy (List.getElem?_eq_getElem hl)] at e;exact e
 ·rintro ⟨y,hy,e⟩;have:=(List.getElem?_eq_some_iff.1 hy).1;exact ⟨⟨by omega,by omega⟩,by rw [qsy hy,e]⟩
theorem qfs {xs:List Cell} {k:Nat} {x:Cell} (hx:xs[k]?=some x) :
  fitsB xs k=true↔x.Kind=0\/(x.Kind=1/\∃y,xs[k+1]?=some y/\y.Kind=2)\/(x.Kind=2/\1<=k/\∃y,xs[k-1]?=some y/\y.Kind=1):=by
 have hkk:=qsy hx;unfold fitsB;rw [hkk];by_cases h0:x.Kind=0
 ·rw [if_pos h0];exact ⟨fun _=>.inl h0,fun _=>rfl⟩
 ·rw [if_neg h0];by_cases h1:x.Kind=1
  ·rw [if_pos h1,show (k:Int)+1=((k+1:Nat):Int) by omega,za8];constructor
   ·exact fun h=>.inr (.inl ⟨h1,h⟩)
   ·rintro (h | ⟨_,h⟩ | ⟨h,_⟩)
    ·exact absurd h h0
    ·exact h
    ·omega
  ·rw [if_neg h1];by_cases h2:x.Kind=2
   ·rw [if_pos h2];by_cases hk:1<=k
    ·rw [show (k:Int)-1=((k-1:Nat):Int) by omega,za8];constructor
     ·exact fun h=>.inr (.inr ⟨h2,hk,h⟩)
     ·rintro (h | ⟨h,_⟩ | ⟨_,_,h⟩)
      ·exact absurd h h0
      ·exact absurd h h1
      ·exact h
    ·have:isB xs ((k:Int)-1) 1=false:=by
      unfold isB;rw [dFq (by omega)];rfl
     rw [this];constructor
     ·intro h;cases h
     ·rintro (h | ⟨h,_⟩ | ⟨_,h,_⟩)
      ·exact absurd h h0
      ·exact absurd h h1
      ·exact absurd h hk
   ·rw [if_neg h2];constructor
    ·intro h;cases h
    ·rintro (h | ⟨h,_⟩ | ⟨h,_⟩)
     ·exact absurd h h0
     ·exact absurd h h1
     ·exact absurd h h2
theorem qqo {xs:List Cell}:qfr xs=true↔∀(k:Nat) x,xs[k]?=some x->fitsB xs k=true/\(x.Kind=2->x.R=0):=by
 constructor
 ·intro h k x hx;have hk:=(List.getElem?_eq_some_iff.1 hx).1;have:=zbb hx;have h1:okB xs k=true:=by
   unfold qfr at h;rw [List.all_eq_true] at h;exact h k (List.mem_range.2 hk)
  rw [this,Bool.and_eq_true] at h1;refine ⟨h1.1,fun e=>?_⟩;have:=h1.2;rw [e] at this;simpa using this
 ·intro h;refine zfq fun k hk=>?_;obtain ⟨x,hx,_⟩:=get_of hk;obtain ⟨h1,h2⟩:=h k x hx;rw [zbb hx,h1];by_cases e:x.Kind=2
  ·simp [e,h2 e]
  ·simp [e]
theorem q4z {xs:List Cell} {k:Nat} {x:Cell} (hx:xs[k]?=some x) (h:fitsB xs k=true):¬(x.Kind≠0/\x.Kind≠1/\x.Kind≠2):=by
 rintro ⟨h0,h1,h2⟩;rcases (qfs hx).1 h with h | h | h
 ·exact h0 h
 ·exact h1 h.1
 ·exact h2 h.1
theorem qx2 {xs:List Cell} {k:Nat} {x:Cell} (hx:xs[k]?=some x) (h:fitsB xs k=true):(mendC xs k x).Kind=x.Kind/\(x.Kind=2->(mendC xs k x).R=0):=by
 unfold mendC;rw [if_neg (q4z hx h),if_neg (by rw [h];decide)];split
 ·exact ⟨rfl,fun _=>rfl⟩
 ·next h2=>exact ⟨rfl,fun e=>absurd e h2⟩
theorem zcr {xs:List Cell} {k:Nat} {x:Cell} (h:fitsB xs k=false):(mendC xs k x).Kind=0:=by
 unfold mendC;rw [h];split
 ·rfl
 ·rfl
theorem q4o (xs:List Cell):qfr (mendL xs)=true:=by
 refine qqo.2 fun k x' hx'=>?_;have hk:k<xs.length:=by have:=(List.getElem?_eq_some_iff.1 hx').1;rwa [qbg] at this
 obtain ⟨x,hx,_⟩:=get_of hk;have hm:=qni xs k x hx;rw [hx'] at hm;cases hm;cases hf:fitsB xs k with
 | false =>
  have h0:=zcr (x:=x) hf;exact ⟨(qfs hx').2 (.inl h0),fun e=>by rw [h0] at e;cases e⟩
 | true =>
  obtain ⟨e1,e2⟩:=qx2 hx hf;rw [e1];refine ⟨(qfs hx').2 ?_,e2⟩;rw [e1];rcases (qfs hx).1 hf with h | ⟨h,y,hy,h2⟩ | ⟨h,hk1,y,hy,h2⟩
  ·exact .inl h
  ·refine .inr (.inl ⟨h,_,qni xs _ y hy,?_⟩);have:fitsB xs ((k+1:Nat):Int)=true:=(qfs hy).2 (.inr (.inr ⟨h2,by omega,x,hx,h⟩));rw [(qx2 hy this).1,h2]
  ·refine .inr (.inr ⟨h,hk1,_,qni xs _ y hy,?_⟩);have:fitsB xs ((k-1:Nat):Int)=true:=(qfs hy).2 (.inr (.inl ⟨h2,x,by rw [show k-1+1=k by omega];exact hx,h⟩));rw [(qx2 hy this).1,h2]
theorem zh3 {xs:List Cell} (h:qfr xs=true):mendL xs=xs:=by
 refine List.ext_getElem? fun k=>?_;cases hx:xs[k]? with
 | none=>rw [List.getElem?_eq_none_iff] at hx ⊢;rw [qbg];exact hx
 | some x =>
  rw [qni xs k x hx];obtain ⟨h1,h2⟩:=qqo.1 h k x hx;unfold mendC;rw [if_neg (q4z hx h1),if_neg (by rw [h1];decide)];split
  ·next e =>
   have:=h2 e;cases x;simp only at this;rw [this]
  ·rfl
theorem zgn {xs:List Cell} {p:Int} (h:p<0\/p>=xs.length):halfL xs p=xs:=by
 rw [halfL,if_neg (by omega)]
theorem zex {xs:List Cell} {p:Int} (h:fitsB xs p=true):halfL xs p=xs:=by
 rw [halfL,if_neg (by rw [h];simp)]
theorem zfc (xs:List Cell) (lo hi:Nat) (c:Cell) (i:Nat):(fillL xs lo hi c)[i]?=if lo<=i/\i<hi then (xs[i]?).map fun _=>c else xs[i]?:=by
 simp only [fillL,List.getElem?_mapIdx];by_cases h:lo<=i/\i<hi
 ·simp [h]
 ·simp [h]
theorem q58 {xs:List Cell} (h:qfr xs=true) (n:Nat) (a:Attr):qfr (xs++List.replicate n (qb8 a))=true:=by
 have hR:=qqo.1 h;refine qqo.2 fun k x hx=>?_;rcases Nat.lt_or_ge k xs.length with hk | hk
 ·rw [List.getElem?_append_left hk] at hx;obtain ⟨h1,h2⟩:=hR k x hx;refine ⟨(qfs (by rw [List.getElem?_append_left hk];exact hx)).2 ?_,h2⟩;rcases (qfs hx).1 h1 with h | ⟨h,y,hy,h'⟩ | ⟨h,hp,y,hy,h'⟩
  ·exact .inl h
  ·have:=(List.getElem?_eq_some_iff.1 hy).1;exact .inr (.inl ⟨h,y,by rw [List.getElem?_append_left this];exact hy,h'⟩)
  ·have:=(List.getElem?_eq_some_iff.1 hy).1;exact .inr (.inr ⟨h,hp,y,by rw [List.getElem?_append_left this];exact hy,h'⟩)
 ·have hx0:=hx;rw [List.getElem?_append_right hk,List.getElem?_replicate] at hx;split at hx
  ·cases hx;exact ⟨(qfs hx0).2 (.inl rfl),fun _=>rfl⟩
  ·cases hx
theorem q90 (xs:List Cell) (col r width:Int) (a:Attr):(putP xs col r width a).length=xs.length:=by
 unfold putP;split
 ·exact qbg xs
 ·rw [qxc,q78,qbg]
theorem zai (xs:List Cell) (from_ to:Int) (a:Attr):(eraP xs from_ to a).length=xs.length:=by
 unfold eraP;dsimp only;split
 ·exact qbg xs
 ·rw [qxc,q0e,qbg]
theorem qwn (xs:List Cell) (col k:Int) (a:Attr):(insL xs col k a).length=xs.length:=by
 unfold insL;have hml:=qbg xs;obtain ⟨hc0,hc1⟩:=qod (n:=xs.length) (col:=col) (k:=k);dsimp only;generalize manyL xs.length col k=c at *;split
 ·exact hml
 ·next h =>
  have:=hc1 h;rw [qbg];simp;omega
theorem zah (xs:List Cell) (col k:Int) (a:Attr):(delL xs col k a).length=xs.length:=by
 unfold delL;have hml:=qbg xs;obtain ⟨hc0,hc1⟩:=qod (n:=xs.length) (col:=col) (k:=k);dsimp only;generalize manyL xs.length col k=c at *;split
 ·exact hml
 ·next h =>
  have:=hc1 h;rw [qbg];simp;omega
theorem q93 (xs:List Cell) (cols:Int):(qa6 xs cols).length=(min 1000 (max 0 cols)).toNat:=by
 unfold qa6;have hml:=qbg xs;dsimp only;split
 ·rw [qbg];simp;omega
 ·simp;omega
theorem q1p {xs:List Cell} (h:okR xs) {i:Nat} {c:Cell} (hc:-9223372036854775808<=c.R/\c.R<=9223372036854775807):okR (xs.set i c):=fun x hx=>by
 rcases List.mem_or_eq_of_mem_set hx with h1 | h1
 ·exact h x h1
 ·rw [h1];exact hc
theorem q02 (a:Attr):-9223372036854775808<=(qb8 a).R/\(qb8 a).R<=9223372036854775807:=⟨show (-9223372036854775808:Int)<=0 by decide,show (0:Int)<=9223372036854775807 by decide⟩
theorem qsh (n:Nat) (a:Attr):okR (List.replicate n (qb8 a)):=fun c hc=>by rw [List.eq_of_mem_replicate hc];exact q02 a
theorem qn6 {xs ys:List Cell} (h:okR xs) (h':okR ys):okR (xs++ys):=fun c hc=>by
 rcases List.mem_append.1 hc with h1 | h1
 ·exact h c h1
 ·exact h' c h1
theorem qyf {xs:List Cell} (h:okR xs) (n:Nat):okR (xs.take n):=fun c hc=>h c (List.mem_of_mem_take hc)
theorem q88 {xs:List Cell} (h:okR xs) (n:Nat):okR (xs.drop n):=fun c hc=>h c (List.mem_of_mem_drop hc)
theorem qyt {xs:List Cell} (h:okR xs) (p:Int):okR (halfL xs p):=by
 unfold halfL;split
 ·exact q1p h (q02 _)
 ·exact h
theorem zhh {xs:List Cell} (h:okR xs) {col r width:Int} {a:Attr} (hr:-9223372036854775808<=r/\r<=9223372036854775807):okR (putP xs col r width a):=by
 unfold putP;split
 ·exact qc4 h
 ·refine qyt (qyt ?_ _) _;unfold wrotL;split
  ·exact q1p (q1p (qc4 h) hr) ⟨show (-9223372036854775808:Int)<=0 by decide,show (0:Int)<=9223372036854775807 by decide⟩
  ·exact q1p (qc4 h) hr
theorem zf5 {xs:List Cell} (h:okR xs) (lo hi:Nat) (a:Attr):okR (fillL xs lo hi (qb8 a)):=by
 intro c hc;obtain ⟨i,hi'⟩:=List.getElem?_of_mem hc;rw [zfc] at hi';split at hi'
 ·obtain ⟨y,_,rfl⟩:=Option.map_eq_some_iff.1 hi';exact q02 a
 ·exact h c (List.mem_of_getElem? hi')
theorem zh5 {xs:List Cell} (h:okR xs) (from_ to:Int) (a:Attr):okR (eraP xs from_ to a):=by
 unfold eraP;dsimp only;split
 ·exact qc4 h
 ·exact qyt (qyt (zf5 (qc4 h) _ _ _) _) _
theorem zbc {xs:List Cell} (h:okR xs) (col k:Int) (a:Attr):okR (insL xs col k a):=by
 unfold insL;dsimp only;split
 ·exact qc4 h
 ·exact qc4 (qn6 (qn6 (qyf (qc4 h) _) (qsh _ _)) (q88 (qyf (qc4 h) _) _))
theorem zh1 {xs:List Cell} (h:okR xs) (col k:Int) (a:Attr):okR (delL xs col k a):=by
 unfold delL;dsimp only;split
 ·exact qc4 h
 ·exact qc4 (qn6 (qn6 (qyf (qc4 h) _) (q88 (qc4 h) _)) (qsh _ _))
theorem zhv {xs:List Cell} (h:okR xs) (cols:Int):okR (qa6 xs cols):=by
 unfold qa6;dsimp only;split
 ·exact qc4 (qyf (qc4 h) _)
 ·exact qn6 (qc4 h) (qsh _ _)
def sl2E:El Slc where
 cells s:=[.slice s.a s.n s.c]
 t:=qaw
 k:=1
 pos:=by decide
 len _:=rfl
 one x v hv:=by
  simp only [mem_cons,mem_nil_iff,or_false] at hv;rcases hv with rfl
  rfl
noncomputable def qq3:SlT PG slE qaw where
 ht:=by kernel_rfl
 i:=(PG.info? qa8).getD default
 hi:=by kernel_rfl
 z:=.slice none 0 0
 hz:=by kernel_rfl
 hs:=by kernel_rfl
 hzs:=rfl
theorem by116:qq3.i.bytes=24:=by kernel_rfl
theorem zdo {n:Int} {w:World} {K:Slc->World->Prop} (h0:0<=n) (hn:n<=1000000) (hK:∀r w',Go.Vc.Own slE w' w.heap.size r []->Below w.heap.size w w'->K r w'):qda (⟨none,0,0⟩:Slc) n w K:=by
 refine qjq _ _ ?_;unfold qe0;refine jpO fun J hJ=>?_;refine cF (by simpa using h0) (hJ _ _ ?_);have hw:i64.wrap (n-(i64.wrap (((0:Nat):Int)-((0:Nat):Int))))=n:=by
  rw [w64i (x:=((0:Nat):Int)-((0:Nat):Int)) (by omega),w64i (by omega)];omega
 simp only [hw];refine cO (fun h=>?_) (fun h=>?_)
 ·have h:=oTq h;refine qig (by omega) (by omega) (qmi ?_);refine zbv qq3 (kk:=.i64) (by kernel_rfl) (n:=n.toNat) (by omega) (by omega) (by simp only [maxLen];omega) (by rw [by116];omega) fun cap w' h1 h2 ho hB=>?_;refine qig (by omega) (by simp) (qmi ?_);have e:cut (some ⟨w.heap.size,0,none⟩) 0 cap 1=some ⟨w.heap.size,0,none⟩:=by
   unfold cut;split
   ·rfl
   ·simp
  show K ⟨cut (some ⟨w.heap.size,0,none⟩) 0 cap 1,0,cap⟩ w';rw [e];exact hK _ _ ho hB
 ·exact hK _ _ (Go.Vc.Own.nil _ _ _) (Below.refl _ _)
def q8f (w:World) (ss:List Slc) (xss:List (List Slc)):Prop:=ss.length=xss.length/\∀(i:Nat) s xs,ss[i]?=some s->xss[i]?=some xs->Rd slE w s xs
theorem q89 (xss:List (List Slc)) (k:Nat):(xss.take k).flatten.length<=xss.flatten.length:=by
 conv=>rhs;rw [<-List.take_append_drop k xss]
 rw [List.flatten_append,length_append];omega
theorem qzg {xss:List (List Slc)} {k:Nat} {xs:List Slc} (h:xss[k]?=some xs):(xss.take (k+1)).flatten=(xss.take k).flatten++xs:=by
 rw [take_add_one,h];simp
theorem qts {p:Slc} {ss:List Slc} {xss:List (List Slc)} {w:World} {K:Slc->World->Prop} (hp:Rd sl2E w p ss) (hss:q8f w ss xss) (hl:xss.flatten.length<=1000000) (hn:ss.length<=1000000)
  (hK:∀r w',Go.Vc.Own slE w' w.heap.size r xss.flatten->Below w.heap.size w w'->K r w'):qbh p w K:=by
 refine qjg _ ?_;unfold qeb;have hpn:=hp.n;obtain ⟨hsl,hss⟩:=hss;refine lpR (fun (s:Int×Int×Unit) w2=>∃k:Nat,s.2.1=k/\k<=ss.length/\s.1=((xss.take k).flatten.length:Nat)/\w2=w) (fun s=>ss.length-s.2.1.toNat) ⟨0,rfl,by omega,rfl,rfl⟩ ?_;rintro ⟨t,i,_⟩ w2 ⟨k,rfl,hk,rfl,rfl⟩ I hI;dsimp only at *;have hle:=q89 xss;refine cO (fun hlt=>?_) (fun hge=>?_)
 ·have hlt:=oTq hlt;rw [hpn] at hlt;have hkl:k<ss.length:=by omega
  have hx:ss[k]?=some ss[k]:=List.getElem?_eq_getElem hkl;have hy:xss[k]?=some (xss[k]'(by omega)):=List.getElem?_eq_getElem _;refine hp.ix rfl (by omega) (by omega) fun hc=>?_;refine lSl (x:=ss[k]) (by simpa using hc 0 _ rfl) ?_;have hr:=hss k _ _ hx hy;have hrn:=hr.n;have hf:=qzg hy;have h1:=hle (k+1);rw [hf,length_append] at h1;rw [hrn,w64i (by omega)];refine cF (by simp;omega) ?_;rw [w64i (by omega)];exact hI _ _ ⟨k+1,by simp,by omega,by rw [hf];simp,rfl⟩ (by simp;omega)
 ·have hge:=oFq hge;rw [hpn] at hge;have:k=ss.length:=by omega
  subst this;have h1:=hle ss.length;refine zdo (by omega) (by omega) fun g w3 ho3 hB3=>?_;refine lpR (fun (s:Slc×Int×Unit) w4=>∃k:Nat,s.2.1=k/\k<=ss.length/\Go.Vc.Own slE w4 w2.heap.size s.1 ((xss.take k).flatten)/\Below w2.heap.size w2 w4) (fun s=>ss.length-s.2.1.toNat) ⟨0,rfl,by omega,by simpa using ho3,hB3⟩ ?_;rintro ⟨t,i,_⟩ w4 ⟨k,rfl,hk,ho,hB⟩ I2 hI2;dsimp only at *;refine cO (fun hlt=>?_) (fun hge=>?_)
  ·have hlt:=oTq hlt;rw [hpn] at hlt;have hkl:k<ss.length:=by omega
   have hx:ss[k]?=some ss[k]:=List.getElem?_eq_getElem hkl;have hy:xss[k]?=some (xss[k]'(by omega)):=List.getElem?_eq_getElem _;refine (hp.ext hB).ix rfl (by omega) (by omega) fun hc=>?_;refine lSl (x:=ss[k]) (by simpa using hc 0 _ rfl) ?_;have hr:=(hss k _ _ hx hy).ext hB;have hf:=qzg hy;have h1:=hle (k+1);rw [hf,length_append] at h1;refine qde qq3 ho hr hB.size (by rw [by116];omega) (by simp only [maxLen];omega) fun r w5 ho5 hg5 hr5=>?_;rw [w64i (by omega)];exact hI2 _ _ ⟨k+1,by simp,by omega,by rw [hf];exact ho5,hB.grown hg5 hB.size fun g hg=>(ho.lt g hg).1⟩ (by simp;omega)
  ·have hge:=oFq hge;rw [hpn] at hge;have:k=ss.length:=by omega
   subst this;rw [hsl,take_length] at ho;exact hK _ _ ho hB
theorem zic {w:World} {a b:Slc} {xs ys:List Slc} (ha:Rd slE w a xs) (hb:Rd slE w b ys):q8f w [a,b] [xs,ys]:=by
 refine ⟨rfl,fun i s l hs hl=>?_⟩
 match i,hs,hl with
 | 0,hs,hl=>cases hs;cases hl;exact ha
 | 1,hs,hl=>cases hs;cases hl;exact hb
 | i+2,hs,hl=>cases hs
theorem zbf {w:World} {a b c d:Slc} {xs ys zs us:List Slc} (ha:Rd slE w a xs) (hb:Rd slE w b ys) (hc:Rd slE w c zs) (hd:Rd slE w d us):q8f w [a,b,c,d] [xs,ys,zs,us]:=by
 refine ⟨rfl,fun i s l hs hl=>?_⟩
 match i,hs,hl with
 | 0,hs,hl=>cases hs;cases hl;exact ha
 | 1,hs,hl=>cases hs;cases hl;exact hb
 | 2,hs,hl=>cases hs;cases hl;exact hc
 | 3,hs,hl=>cases hs;cases hl;exact hd
 | i+4,hs,hl=>cases hs
def Lines (w:World) (base:Nat) (ls:List Slc) (xss:List (List Cell)):Prop:=ls.length=xss.length/\∀(i:Nat) s xs,ls[i]?=some s->xss[i]?=some xs->Go.Vc.Own cellE w base s xs
section
variable {w w':World} {base:Nat} {ls ms:List Slc} {xss yss:List (List Cell)}
theorem Lines.nil (w:World) (base:Nat):Lines w base [] []:=⟨rfl,fun i s xs h=>by simp at h⟩
theorem Lines.ext (h:Lines w base ls xss) (hb:Below w.heap.size w w'):Lines w' base ls xss:=⟨h.1,fun i s xs h1 h2=>(h.2 i s xs h1 h2).ext hb⟩
theorem Lines.chg {S:Nat->Prop} (h:Lines w base ls xss) (hc:Chg S w w') (hS:∀k cs,S k->¬Blk w k qao cs):Lines w' base ls xss :=
 ⟨h.1,fun i s xs h1 h2=>(h.2 i s xs h1 h2).chg hc fun g hg hs=>by
  obtain ⟨cs,hcs⟩:=(h.2 i s xs h1 h2).blk_t hg;exact hS g cs hs hcs⟩
theorem Lines.append (h:Lines w base ls xss) (h':Lines w base ms yss):Lines w base (ls++ms) (xss++yss):=by
 refine ⟨by rw [length_append,length_append,h.1,h'.1],fun i s xs h1 h2=>?_⟩;rcases Nat.lt_or_ge i ls.length with hi | hi
 ·rw [List.getElem?_append_left hi] at h1;rw [List.getElem?_append_left (by rw [<-h.1];exact hi)] at h2;exact h.2 i s xs h1 h2
 ·rw [List.getElem?_append_right hi] at h1;rw [List.getElem?_append_right (by rw [<-h.1];exact hi),<-h.1] at h2;exact h'.2 _ s xs h1 h2
theorem Lines.take (h:Lines w base ls xss) (n:Nat):Lines w base (ls.take n) (xss.take n):=by
 refine ⟨by simp [h.1],fun i s xs h1 h2=>?_⟩;rw [List.getElem?_take] at h1 h2;split at h1
 ·next hi=>rw [if_pos hi] at h2;exact h.2 i s xs h1 h2
 ·cases h1
theorem Lines.drop (h:Lines w base ls xss) (n:Nat):Lines w base (ls.drop n) (xss.drop n):=by
 refine ⟨by simp [h.1],fun i s xs h1 h2=>?_⟩;rw [List.getElem?_drop] at h1 h2;exact h.2 _ s xs h1 h2
theorem Lines.set (h:Lines w base ls xss) (i:Nat) {s:Slc} {xs:List Cell} (hs:Go.Vc.Own cellE w base s xs):Lines w base (ls.set i s) (xss.set i xs):=by
 refine ⟨by simp [h.1],fun j t ys h1 h2=>?_⟩;rw [List.getElem?_set] at h1 h2;by_cases hij:i=j
 ·rw [if_pos hij] at h1 h2;split at h1
  ·rw [if_pos (by rw [<-h.1];assumption)] at h2;cases h1;cases h2;exact hs
  ·cases h1
 ·rw [if_neg hij] at h1 h2;exact h.2 j t ys h1 h2
theorem Lines.one {s:Slc} {xs:List Cell} (hs:Go.Vc.Own cellE w base s xs):Lines w base [s] [xs]:=by
 refine ⟨rfl,fun i t ys h1 h2=>?_⟩
 match i,h1,h2 with
 | 0,h1,h2=>cases h1;cases h2;exact hs
 | i+1,h1,h2=>cases h1
end
def RingM (w:World) (base r:Nat) (s:Slc) (most:Nat) (old:List (List Cell)):Prop :=
 ∃(at_:Nat) (gone:Int) (ls:List Slc) (xss:List (List Cell)),Blk w r qa0 [.int .i64 most,.slice s.a s.n s.c,.int .i64 at_,.int .i64 gone]/\Go.Vc.Own slE w base s ls/\Lines w base ls xss/\base<=r /\
  old=xss.drop at_++xss.take at_/\xss.length<=most/\(at_=0\/(at_<xss.length/\xss.length=most))
theorem q8o {base:Nat} {most:Int} {w:World} {K:Option Addr->Int->World->Prop} (h0:0<=most) (h1:most<=65536) (hb:base<=w.heap.size)
  (hK:∀w',RingM w' base w.heap.size ⟨none,0,0⟩ most.toNat []->Below w.heap.size w w'->w'.heap.size=w.heap.size+1->K (some ⟨w.heap.size,0,none⟩) 0 w'):qij most w K:=by
 refine quv _ ?_;unfold qnm;refine jpO fun J hJ=>?_;refine cF (by simpa using h0) (cF (by simpa using h1) (hJ _ _ ?_));refine nwb fun w1 hb1 hB1 hs1=>hK _ ⟨0,0,[],[],?_,Go.Vc.Own.nil _ _ _,Lines.nil _ _,hb,rfl,by simp,.inl rfl⟩ hB1 hs1;rw [show ((most.toNat:Nat):Int)=most by omega];exact hb1
theorem q7u {base r most:Nat} {s:Slc} {old:List (List Cell)} {w:World} {K:Int->World->Prop} (h:RingM w base r s most old) (hK:K old.length w):qe9 (some ⟨r,0,none⟩) w K:=by
 obtain ⟨at_,gone,ls,xss,hb,ho,hl,hbr,e,hm,ha⟩:=h;refine qpy _ ?_;unfold qiz;rw [onPtr_some];refine lSl (x:=s) (hb.cells 1 _ rfl) ?_;have hn:s.n=old.length:=by
  rw [ho.rd.n,hl.1,e,length_append,length_drop,length_take];omega
 rw [hn];exact hK
theorem zac {base r most:Nat} {s:Slc} {old:List (List Cell)} {i:Int} {w:World} {K:Slc->Bool->World->Prop} (h:RingM w base r s most old) (hmost:most<=100000)
  (hK1:∀t xs,0<=i->old[i.toNat]?=some xs->Go.Vc.Own cellE w base t xs->K t true w.drew) (hK2:(i<0\/i>=old.length)->K ⟨none,0,0⟩ false w):qfy (some ⟨r,0,none⟩) i w K:=by
 obtain ⟨at_,gone,ls,xss,hb,ho,hl,hbr,e,hm,ha⟩:=h;refine qqg _ _ ?_;unfold qji;have hol:old.length=xss.length:=by rw [e,length_append,length_drop,length_take];omega
 have hsn:s.n=old.length:=by rw [ho.rd.n,hl.1,hol]
 refine jpO fun J1 hJ1=>jpO fun J2 hJ2=>?_;have no:(i<0\/i>=old.length)->J2 (true,()) w:=fun hh=>hJ2 _ _ (cT rfl (hK2 hh));refine cO (fun h0=>no (.inl (oTq h0))) (fun h0=>?_);have h0:=oFq h0;rw [onPtr_some];refine lSl (x:=s) (hb.cells 1 _ rfl) ?_;rw [hsn];by_cases h1:i>=(old.length:Int)
 ·rw [dTq h1];exact no (.inr h1)
 ·rw [dFq h1];refine hJ2 _ _ (cF rfl (hJ1 _ _ ?_));rw [onPtr_some];refine lSl (x:=s) (hb.drew.cells 1 _ rfl) ?_;rw [onPtr_some];refine lI (x:=at_) (hb.drew.cells 2 _ rfl) ?_;rw [onPtr_some];refine lSl (x:=s) (hb.drew.cells 1 _ rfl) ?_;rw [hsn];refine ⟨by omega,?_⟩;rw [w64i (by omega),Int.tmod_eq_emod_of_nonneg (by omega)];obtain ⟨k,rfl⟩:∃k:Nat,i=k:=⟨i.toNat,by omega⟩;have hmod:((at_:Int)+k)%(old.length:Int)=(((at_+k)%old.length:Nat):Int):=by
   rw [Int.natCast_emod,Int.natCast_add]
  have hlt:(at_+k)%old.length<old.length:=Nat.mod_lt _ (by omega);rw [hmod];have hjj:old[k]?=xss[(at_+k)%old.length]?:=by
   rw [e];have hdl:(xss.drop at_).length=xss.length-at_:=by simp
   by_cases hk:k<xss.length-at_
   ·rw [List.getElem?_append_left (by omega),List.getElem?_drop];congr 1;rw [<-e,hol,Nat.mod_eq_of_lt (by omega)]
   ·rw [List.getElem?_append_right (by omega),hdl,List.getElem?_take_of_lt (by omega),<-e,hol];congr 1;rw [Nat.mod_eq_sub_mod (by omega),Nat.mod_eq_of_lt (by omega)];omega
  generalize (at_+k)%old.length=j at *;have hjl:j<ls.length:=by rw [hl.1,<-hol];exact hlt
  have hjx:j<xss.length:=by rw [<-hol];exact hlt
  have hls:ls[j]?=some ls[j]:=List.getElem?_eq_getElem _;have hxs:xss[j]?=some xss[j]:=List.getElem?_eq_getElem _;refine ho.drew.rd.ix rfl (by omega) (by omega) fun hc=>?_;refine lSl (x:=ls[j]) (by simpa using hc 0 _ rfl) ?_;refine hK1 _ xss[j] (by omega) ?_ (hl.2 _ _ _ hls hxs);rw [<-hxs,<-hjj];rfl
def pushL (most:Nat) (old:List (List Cell)) (x:List Cell):List (List Cell):=if most=0 then old else if old.length<most then old++[x] else old.tail++[x]
def ringS (r:Nat) (s:Slc) (k:Nat):Prop:=k=r\/s.blk=some k
theorem ze6 {r:Nat} {vs:List Value} {w:World} {K:World->Prop} (hb:Blk w r qa0 vs) (h2:vs[2]?=some (.int .i64 0)) (hK:K w):qev (some ⟨r,0,none⟩) w K:=by
 refine qo7 _ ?_;unfold qh6;rw [onPtr_some];refine lI (x:=0) (hb.cells 2 _ h2) ?_;exact cF rfl hK
theorem qs1 {w:World} {base r:Nat} {s:Slc} {ls:List Slc} {vs:List Value} (ho:Go.Vc.Own slE w base s ls) (hb:Blk w r qa0 vs):∀k,s.blk=some k->k≠r:=by
 intro k hk;obtain ⟨cs,hcs⟩:=ho.blk_t hk;exact hcs.ne_t hb (by decide)
theorem zds {base r most:Nat} {s t:Slc} {old:List (List Cell)} {xs:List Cell} {w:World} {K:Slc->Bool->World->Prop} (h:RingM w base r s most old) (ht:Go.Vc.Own cellE w base t xs) (hmost:most<=100000) (hbase:base<=w.heap.size)
  (hK:∀u b s' w',RingM w' base r s' most (pushL most old xs)->Chg (ringS r s) w w'->(s'.blk=s.blk\/∃k,s'.blk=some k/\w.heap.size<=k)->K u b w'):qdc (some ⟨r,0,none⟩) t w K:=by
 obtain ⟨at_,gone,ls,xss,hb,ho,hl,hbr,e,hm,ha⟩:=h;refine qo5 _ _ ?_;unfold qh5;simp only [onPtr_some];have hsn:s.n=ls.length:=ho.rd.n;have hll:=hl.1;have hol:old.length=xss.length:=by rw [e,length_append,length_drop,length_take];omega
 have notC:∀k cs,ringS r s k->¬Blk w k qao cs:=by
  rintro k cs (rfl | hk) hc
  ·exact hc.ne_t hb (by decide) rfl
  ·obtain ⟨cs',hcs'⟩:=ho.blk_t hk;exact hc.ne_t hcs' (by decide) rfl
 refine lI (x:=(most:Int)) (hb.cells 0 _ rfl) ?_;refine cO (fun h0=>?_) (fun h0=>?_)
 ·have h0:most=0:=by have:=eq_of_beq h0;omega
  refine lI (x:=gone) (hb.cells 3 _ rfl) ?_;rw [qae];refine qah hb (by simp) fun w1 hb1 hg1 hs1=>?_;have hc1:Chg (ringS r s) w w1:=Chg.of_grown hg1 fun k hk=>by cases hk;exact .inl rfl
  refine hK _ _ s w1 ⟨at_,_,ls,xss,hb1,ho.kept hg1 (.inr fun ee=>qs1 ho hb _ ee rfl),hl.chg hc1 notC,hbr,?_,hm,ha⟩ hc1 (.inl rfl);rw [pushL,if_pos h0];exact e
 ·have h0:most≠0:=by have:=beq_eq_false_iff_ne.1 h0;omega
  have hbd:=hb.drew;refine lSl (x:=s) (hbd.cells 1 _ rfl) ?_;refine lI (x:=(most:Int)) (hbd.cells 0 _ rfl) ?_;refine cO (fun h1=>?_) (fun h1=>?_)
  ·have h1:=oTq h1;have hat:at_=0:=by rcases ha with h | ⟨_,h⟩<;>omega
   subst hat;refine ze6 hbd rfl ?_;refine lSl (x:=s) (hbd.cells 1 _ rfl) ?_;refine nwb fun w3 hb3 hB3 hs3=>?_;have hr3:Rd slE w3 ⟨some ⟨w.drew.heap.size,0,none⟩,1,1⟩ [t]:=qkj (E:=slE) hb3 rfl;have hB03:Below w.heap.size w w3:=(Below.refl _ w).drew.trans hB3;refine qde qq3 (ho.ext hB03) hr3 (by have:=hB03.size;omega) (by rw [by116];simp;omega) (by simp [maxLen];omega) fun q w4 ho4 hg4 hq4=>?_;have hb3r:=hb.ext hB03;have hb4:=hb3r.grown hg4 fun ee=>qs1 ho hb _ ee.symm rfl;rw [qae];refine qah hb4 (by simp) fun w5 hb5 hg5 hs5=>?_;have hc:Chg (ringS r s) w w5:=((Chg.of_ext (S:=ringS r s) hB03).trans (S':=fun k=>s.blk=some k) (Chg.of_grown hg4 fun k hk=>hk) fun i _ hi=>.inr hi).trans (S':=fun k=>k=r) (Chg.of_grown hg5 fun k hk=>by cases hk;rfl) fun i _ hi=>.inl hi;refine hK _ _ q w5 ⟨0,gone,ls++[t],xss++[xs],hb5,ho4.kept hg5 (.inr fun ee=>qs1 ho4 hb4 _ ee rfl),(hl.chg hc notC).append (Lines.one (ht.chg hc fun g hg hs=>?_)),hbr,?_,?_,.inl rfl⟩ hc ?_
   ·obtain ⟨cs,hcs⟩:=ht.blk_t hg;exact notC g cs hs hcs
   ·rw [pushL,if_neg h0,if_pos (by omega),e];simp
   ·simp;omega
   ·rcases hq4 with hh | hh
    ·exact .inl hh
    ·exact .inr ⟨_,hh,hB03.size⟩
  ·have h1:=oFq h1;have hfull:xss.length=most:=by omega
   have hatl:at_<ls.length:=by rcases ha with h | ⟨h,_⟩<;>omega
   have hbdd:Blk w.drew.drew r qa0 _:=hb;have hod:Go.Vc.Own slE w.drew.drew base s ls:=ho;refine lSl (x:=s) (hbdd.cells 1 _ rfl) ?_;refine lI (x:=(at_:Int)) (hbdd.cells 2 _ rfl) ?_;refine hod.rd.ix rfl (by omega) (by omega) fun hc=>?_;refine lSl (x:=ls[at_]) (by simpa using hc 0 _ rfl) ?_;have hbddd:Blk w.drew.drew.drew r qa0 _:=hb;have hoddd:Go.Vc.Own slE w.drew.drew.drew base s ls:=ho;refine lSl (x:=s) (hbddd.cells 1 _ rfl) ?_;refine lI (x:=(at_:Int)) (hbddd.cells 2 _ rfl) ?_;refine hoddd.rd.ix rfl (by omega) (by omega) fun _=>?_;refine hoddd.st0 (x:=ls[at_]) (y:=t) (by rw [show ((at_:Int)).toNat=at_ from rfl];exact List.getElem?_eq_getElem _) rfl fun w6 ho6 hg6 hs6=>?_;rw [show ((at_:Int)).toNat=at_ from rfl] at ho6;have hb6:Blk w6 r qa0 _:=hbddd.grown hg6 fun ee=>qs1 ho hb _ ee.symm rfl;have hc6:Chg (ringS r s) w w6:=⟨hg6.os,hg6.tape,hg6.output,hg6.size,fun k hk hn=>hg6.block k hk fun ee=>hn (.inr ee.symm)⟩;have hbd6:=hb6.drew;refine lI (x:=(at_:Int)) (hbd6.cells 2 _ rfl) ?_;refine lSl (x:=s) (hbd6.cells 1 _ rfl) ?_;refine ⟨by omega,?_⟩;rw [qae];refine qah hbd6 (by simp) fun w7 hb7 hg7 hs7=>?_;refine lI (x:=gone) (hb7.cells 3 _ rfl) ?_;rw [qae];refine qah hb7 (by rw [qfg];simp) fun w8 hb8 hg8 hs8=>?_;have hc7:Chg (fun k=>k=r) w6 w7:=⟨hg7.os,hg7.tape,hg7.output,hg7.size,fun k hk hn=>hg7.block k hk fun ee=>hn (by cases ee;rfl)⟩;have hc8:Chg (fun k=>k=r) w7 w8:=Chg.of_grown hg8 fun k hk=>by cases hk;rfl
   have hc:Chg (ringS r s) w w8:=(hc6.trans hc7 fun i _ hi=>.inl hi).trans hc8 fun i _ hi=>.inl hi;have ho7:Go.Vc.Own slE w7 base s (ls.set at_ t):=ho6.chg hc7 fun g hg=>qs1 ho hb g hg;have ho8:Go.Vc.Own slE w8 base s (ls.set at_ t):=ho7.chg hc8 fun g hg=>qs1 ho hb g hg;have ht8:Go.Vc.Own cellE w8 base t xs:=ht.chg hc fun g hg hs=>by
    obtain ⟨cs,hcs⟩:=ht.blk_t hg;exact notC g cs hs hcs
   have hl8:=(hl.chg hc notC).set at_ ht8
   have hmod:(i64.wrap ((at_:Int)+1)).tmod ((s.n:Nat):Int)=(((at_+1)%xss.length:Nat):Int):=by
    rw [w64i (by omega),hsn,hll,Int.tmod_eq_emod_of_nonneg (by omega),Int.natCast_emod,Int.natCast_add];rfl
   have htail:xss.drop at_=xss[at_]::xss.drop (at_+1):=List.drop_eq_getElem_cons (by omega)
   have hpush:pushL most old xs=xss.drop (at_+1)++xss.take at_++[xs]:=by
    rw [pushL,if_neg h0,if_neg (by omega),e,htail,List.cons_append,List.tail_cons]
   refine hK _ _ s w8 ⟨(at_+1)%xss.length,i64.wrap (gone+1),ls.set at_ t,xss.set at_ xs,?_,ho8,hl8,hbr,?_,by simp;omega,?_⟩ hc (.inl rfl)
   ·rw [<-hmod];exact hb8
   ·rw [hpush];by_cases hend:at_+1=xss.length
    ·rw [hend,Nat.mod_self,List.drop_length];simp only [List.nil_append,drop_zero,List.take_zero,append_nil];rw [List.set_eq_take_append_cons_drop,if_pos (by omega),hend,List.drop_length]
    ·rw [Nat.mod_eq_of_lt (by omega),List.drop_set_of_lt (by omega),append_assoc];congr 1;rw [List.take_set,List.set_eq_take_append_cons_drop,if_pos (by simp;omega),List.take_take,Nat.min_eq_left (by omega),List.drop_take,Nat.sub_self];simp
   ·by_cases hend:at_+1=xss.length
    ·exact .inl (by rw [hend,Nat.mod_self])
    ·exact .inr ⟨by rw [Nat.mod_eq_of_lt (by omega)];simp;omega,by simp;omega⟩
theorem q53 {base r most:Nat} {s:Slc} {old:List (List Cell)} {w:World} {K:World->Prop} (h:RingM w base r s most old)
  (hK:∀w',RingM w' base r ⟨none,0,0⟩ most []->Chg (ringS r s) w w'->K w'):qd8 (some ⟨r,0,none⟩) w K:=by
 obtain ⟨at_,gone,ls,xss,hb,ho,hl,hbr,e,hm,ha⟩:=h;refine qoy _ ?_;unfold qhm;simp only [onPtr_some];have hbd:=hb.drew;refine lI (x:=gone) (hbd.cells 3 _ rfl) ?_;refine lSl (x:=s) (hbd.cells 1 _ rfl) ?_;rw [qae];refine qah hbd (by simp) fun w1 hb1 hg1 hs1=>?_;rw [qae];refine qah hb1 (by rw [qfg];simp) fun w2 hb2 hg2 hs2=>?_;rw [qae];refine qah hb2 (by rw [qfg,qfg];simp) fun w3 hb3 hg3 hs3=>?_;have hc1:Chg (ringS r s) w w1:=⟨hg1.os,hg1.tape,hg1.output,hg1.size,fun k hk hn=>hg1.block k hk fun ee=>hn (by cases ee;exact .inl rfl)⟩;have hc2:Chg (fun k=>k=r) w1 w2:=Chg.of_grown hg2 fun k hk=>by cases hk;rfl
 have hc3:Chg (fun k=>k=r) w2 w3:=Chg.of_grown hg3 fun k hk=>by cases hk;rfl
 exact hK w3 ⟨0,_,[],[],hb3,Go.Vc.Own.nil _ _ _,Lines.nil _ _,hbr,rfl,by simp,.inl rfl⟩ ((hc1.trans hc2 fun i _ hi=>.inl hi).trans hc3 fun i _ hi=>.inl hi)
structure Foot where
 g:Nat
 r:Nat
 ls:Slc
 rs:Slc
structure GS where
 rows:Nat
 cols:Nat
 most:Nat
 L:List (List Cell)
 old:List (List Cell)
 top:Int
def gridS (f:Foot) (k:Nat):Prop:=k=f.g\/k=f.r\/f.ls.blk=some k\/f.rs.blk=some k
structure GridM (w:World) (base:Nat) (f:Foot) (S:GS):Prop where
 blk:Blk w f.g qec [.pointer (some ⟨f.r,0,none⟩),.int .i64 S.rows,.int .i64 S.cols,.slice f.ls.a f.ls.n f.ls.c,.int .i64 S.top]
 hg:base<=f.g
 row:∃ls,Go.Vc.Own slE w base f.ls ls/\Lines w base ls S.L
 ring:RingM w base f.r f.rs S.most S.old
 ne:∀k,f.ls.blk=some k->f.rs.blk≠some k
structure Foot.to (f f':Foot) (n:Nat):Prop where
 g:f'.g=f.g
 r:f'.r=f.r
 ls:f'.ls.blk=f.ls.blk\/∀k,f'.ls.blk=some k->n<=k
 rs:f'.rs.blk=f.rs.blk\/∀k,f'.rs.blk=some k->n<=k
theorem Foot.to.refl (f:Foot) (n:Nat):f.to f n:=⟨rfl,rfl,.inl rfl,.inl rfl⟩
theorem Foot.to.old {f f':Foot} {n:Nat} (h:f.to f' n):∀k,gridS f' k->gridS f k\/n<=k:=by
 rintro k (rfl | rfl | hk | hk)
 ·exact .inl (.inl h.g)
 ·exact .inl (.inr (.inl h.r))
 ·rcases h.ls with e | e
  ·exact .inl (.inr (.inr (.inl (by rw [<-e];exact hk))))
  ·exact .inr (e k hk)
 ·rcases h.rs with e | e
  ·exact .inl (.inr (.inr (.inr (by rw [<-e];exact hk))))
  ·exact .inr (e k hk)
theorem Foot.to.trans {f f' f'':Foot} {n n':Nat} (h:f.to f' n) (h':f'.to f'' n') (hn:n<=n'):f.to f'' n:=by
 refine ⟨h'.g.trans h.g,h'.r.trans h.r,?_,?_⟩
 ·rcases h'.ls with e | e
  ·rcases h.ls with e' | e'
   ·exact .inl (e.trans e')
   ·exact .inr fun k hk=>e' k (by rw [<-e];exact hk)
  ·exact .inr fun k hk=>Nat.le_trans hn (e k hk)
 ·rcases h'.rs with e | e
  ·rcases h.rs with e' | e'
   ·exact .inl (e.trans e')
   ·exact .inr fun k hk=>e' k (by rw [<-e];exact hk)
  ·exact .inr fun k hk=>Nat.le_trans hn (e k hk)
section
variable {w w':World} {base r most:Nat} {s:Slc} {old:List (List Cell)} {f:Foot} {S:GS}
theorem RingM.chg {T:Nat->Prop} (h:RingM w base r s most old) (hc:Chg T w w') (hT:∀k,ringS r s k->¬T k) (hC:∀k cs,T k->¬Blk w k qao cs):RingM w' base r s most old:=by
 obtain ⟨at_,gone,ls,xss,hb,ho,hl,hbr,e,hm,ha⟩:=h;exact ⟨at_,gone,ls,xss,hb.chg hc (hT r (.inl rfl)),ho.chg hc fun g hg=>hT g (.inr hg),hl.chg hc hC,hbr,e,hm,ha⟩
theorem RingM.ext (h:RingM w base r s most old) (hb:Below w.heap.size w w'):RingM w' base r s most old :=
 h.chg (Chg.of_ext (S:=fun _=>False) hb) (fun _ _ h=>h) (fun _ _ h=>h.elim)
theorem GridM.chg {T:Nat->Prop} (h:GridM w base f S) (hc:Chg T w w') (hT:∀k,gridS f k->¬T k) (hC:∀k cs,T k->¬Blk w k qao cs):GridM w' base f S:=by
 obtain ⟨ls,ho,hl⟩:=h.row;exact ⟨h.blk.chg hc (hT _ (.inl rfl)),h.hg,⟨ls,ho.chg hc fun g hg=>hT g (.inr (.inr (.inl hg))),hl.chg hc hC⟩,
  h.ring.chg hc (fun k hk=>hT k (by rcases hk with hk | hk;exact .inr (.inl hk);exact .inr (.inr (.inr hk)))) hC,h.ne⟩
theorem GridM.ext (h:GridM w base f S) (hb:Below w.heap.size w w'):GridM w' base f S :=
 h.chg (Chg.of_ext (S:=fun _=>False) hb) (fun _ _ h=>h) (fun _ _ h=>h.elim)
theorem GridM.drew (h:GridM w base f S):GridM w.drew base f S:=h.ext ((Below.refl _ w).drew)
theorem RingM.below (h:RingM w base r s most old):∀k,ringS r s k->base<=k/\k<w.heap.size:=by
 obtain ⟨at_,gone,ls,xss,hb,ho,hl,hbr,e,hm,ha⟩:=h;rintro k (rfl | hk)
 ·exact ⟨hbr,hb.lt⟩
 ·exact ho.lt k hk
theorem GridM.below (h:GridM w base f S):∀k,gridS f k->base<=k/\k<w.heap.size:=by
 obtain ⟨ls,ho,hl⟩:=h.row;rintro k (rfl | rfl | hk | hk)
 ·exact ⟨h.hg,h.blk.lt⟩
 ·exact h.ring.below _ (.inl rfl)
 ·exact ho.lt k hk
 ·exact h.ring.below _ (.inr hk)
theorem RingM.notC (h:RingM w base r s most old):∀k cs,ringS r s k->¬Blk w k qao cs:=by
 obtain ⟨at_,gone,ls,xss,hb,ho,hl,hbr,e,hm,ha⟩:=h;rintro k cs (rfl | hk) hc
 ·exact hc.ne_t hb (by decide) rfl
 ·obtain ⟨cs',hcs'⟩:=ho.blk_t hk;exact hc.ne_t hcs' (by decide) rfl
theorem GridM.notC (h:GridM w base f S):∀k cs,gridS f k->¬Blk w k qao cs:=by
 obtain ⟨ls,ho,hl⟩:=h.row;rintro k cs (rfl | rfl | hk | hk) hc
 ·exact hc.ne_t h.blk (by decide) rfl
 ·exact h.ring.notC _ cs (.inl rfl) hc
 ·obtain ⟨cs',hcs'⟩:=ho.blk_t hk;exact hc.ne_t hcs' (by decide) rfl
 ·exact h.ring.notC _ cs (.inr hk) hc
theorem GridM.g_ne (h:GridM w base f S):f.g≠f.r/\(∀k,f.ls.blk=some k->k≠f.g/\k≠f.r)/\(∀k,f.rs.blk=some k->k≠f.g/\k≠f.r):=by
 obtain ⟨ls,ho,hl⟩:=h.row;obtain ⟨at_,gone,ls',xss,hb,ho',hl',hbr,e,hm,ha⟩:=h.ring;refine ⟨h.blk.ne_t hb (by decide),fun k hk=>?_,fun k hk=>?_⟩
 ·obtain ⟨cs,hcs⟩:=ho.blk_t hk;exact ⟨hcs.ne_t h.blk (by decide),hcs.ne_t hb (by decide)⟩
 ·obtain ⟨cs,hcs⟩:=ho'.blk_t hk;exact ⟨hcs.ne_t h.blk (by decide),hcs.ne_t hb (by decide)⟩
end
section
variable {w:World} {base:Nat} {f:Foot} {S:GS}
theorem qha {row:Int} {K:Bool->World->Prop} (h:GridM w base f S) (hK:K (decide (0<=row/\row<S.rows)) w):qdj (some ⟨f.g,0,none⟩) row w K:=by
 refine q1y _ _ ?_;unfold qvj;simp only [onPtr_some];refine cO (fun h0=>?_) (fun h0=>?_)
 ·have h0:0<=row:=oTq h0;refine lI (x:=(S.rows:Int)) (h.blk.cells 1 _ rfl) ?_;have:decide (row<(S.rows:Int))=decide (0<=row/\row<S.rows):=by simp [h0]
  rw [this];exact hK
 ·have h0:=oFq h0;have:decide (0<=row/\row<(S.rows:Int))=false:=by simp;omega
  rw [this] at hK;exact hK
theorem qvp {K:Int->World->Prop} (h:GridM w base f S) (hK:K S.top w):qc5 (some ⟨f.g,0,none⟩) w K:=by
 refine q1a _ ?_;unfold que;simp only [onPtr_some];exact lI (x:=S.top) (h.blk.cells 4 _ rfl) hK
theorem qok {K:Int->Int->World->Prop} (h:GridM w base f S) (hK:K S.rows S.cols w.drew):qct (some ⟨f.g,0,none⟩) w K:=by
 refine qz0 _ ?_;unfold qr4;simp only [onPtr_some];exact lI (x:=(S.rows:Int)) (h.blk.drew.cells 1 _ rfl) (lI (x:=(S.cols:Int)) (h.blk.drew.cells 2 _ rfl) hK)
theorem zc4 {K:Int->World->Prop} (h:GridM w base f S) (hK:K S.old.length w):qmh (some ⟨f.g,0,none⟩) w K:=by
 refine qzx _ ?_;unfold qry;simp only [onPtr_some];refine qar (x:=some ⟨f.r,0,none⟩) (h.blk.cells 0 _ rfl) ?_;exact q7u h.ring hK
theorem q9m {K:Int->World->Prop} (h:GridM w base f S) (hK:K (i64.wrap (S.top-S.old.length)) w.drew):qlj (some ⟨f.g,0,none⟩) w K:=by
 refine qx3 _ ?_;unfold qqk;simp only [onPtr_some];refine lI (x:=S.top) (h.blk.drew.cells 4 _ rfl) ?_;refine zc4 h.drew ?_;exact ⟨h.blk.drew.cells 4 _ rfl,hK⟩
theorem zby {row:Int} {K:Slc->Bool->World->Prop} (h:GridM w base f S) (hL:S.L.length=S.rows) (hw:∀xs∈S.L,xs.length<=1000000)
  (hK1:∀s xs w',0<=row->S.L[row.toNat]?=some xs->Go.Vc.Own cellE w' w.heap.size s xs->Below w.heap.size w w'->K s true w') (hK2:¬(0<=row/\row<S.rows)->K ⟨none,0,0⟩ false w):qmn (some ⟨f.g,0,none⟩) row w K:=by
 refine qzv _ _ ?_;unfold qr7;refine qha h ?_;simp only [onPtr_some];obtain ⟨ls,ho,hl⟩:=h.row;by_cases hr:0<=row/\row<(S.rows:Int)
 ·rw [dTq hr];refine cF rfl ?_;refine lSl (x:=f.ls) (h.blk.cells 3 _ rfl) ?_;have hll:=hl.1;refine ho.rd.ix rfl hr.1 (by omega) fun hc=>?_;refine lSl (x:=ls[row.toNat]'(by omega)) (by simpa using hc 0 _ rfl) ?_;have hx:S.L[row.toNat]?=some (S.L[row.toNat]'(by omega)):=List.getElem?_eq_getElem _;have hown:=hl.2 _ _ _ (List.getElem?_eq_getElem (by omega:row.toNat<ls.length)) hx;exact qn2 hown.rd (hw _ (List.mem_of_getElem? hx)) fun s w' ho' hB=>hK1 s _ w' hr.1 hx ho' hB
 ·rw [dFq hr];exact cT rfl (hK2 hr)
theorem zed {i:Int} {K:Slc->Bool->World->Prop} (h:GridM w base f S) (hm:S.most<=100000) (hw:∀xs∈S.old,xs.length<=1000000)
  (hK1:∀s xs w',0<=i->S.old[i.toNat]?=some xs->Go.Vc.Own cellE w' w.heap.size s xs->Below w.heap.size w w'->K s true w') (hK2:(i<0\/i>=S.old.length)->∀s w',Go.Vc.Own cellE w' w.heap.size s []->Below w.heap.size w w'->K s false w'):qoq (some ⟨f.g,0,none⟩) i w K:=by
 refine q0d _ _ ?_;unfold qt8;simp only [onPtr_some];refine qar (x:=some ⟨f.r,0,none⟩) (h.blk.cells 0 _ rfl) ?_;refine zac h.ring hm (fun t xs h0 hx ht=>?_) (fun hn=>?_)
 ·exact qn2 ht.drew.rd (hw _ (List.mem_of_getElem? hx)) fun s w' ho' hB=>hK1 s xs w' h0 hx ho' ((Below.refl _ w).drew.trans hB)
 ·exact qn2 (Rd.nil cellE w) (by simp) fun s w' ho' hB=>hK2 hn s w' ho' hB
end
theorem q9l {n:Nat} (h:n<=1000) (a:Attr):(newL n a).length=n:=by
 rw [newL,if_neg (by omega)];simp
section
variable {w:World} {base:Nat} {f:Foot} {S:GS}
theorem qn9 {n:Int} {a:Attr} {K:Slc->World->Prop} (h:GridM w base f S) (hn:n<=100000)
  (hK:∀s ls w',Go.Vc.Own slE w' w.heap.size s ls->Lines w' w.heap.size ls (List.replicate n.toNat (newL S.cols a))->Below w.heap.size w w'->K s w'):qdk (some ⟨f.g,0,none⟩) n a w K:=by
 refine qxu _ _ _ ?_;unfold qpe;simp only [onPtr_some];refine nwb fun w1 hb1 hB1 hs1=>?_;refine lpR (fun (s:Slc×Int×Unit) w2=>∃(k:Nat) (ls:List Slc),s.2.1=k/\(k:Int)<=max n 0/\Go.Vc.Own slE w2 w.heap.size s.1 ls/\Lines w2 w.heap.size ls (List.replicate k (newL S.cols a))/\Blk w2 w.heap.size qa4 (qac.rep.cells a)/\Below w.heap.size w w2/\(∀g,s.1.blk=some g->g≠w.heap.size))
  (fun s=>(n-s.2.1).toNat) ⟨0,[],rfl,by omega,Go.Vc.Own.nil _ _ _,Lines.nil _ _,hb1,hB1,fun g hg=>by cases hg⟩ ?_
 rintro ⟨s,i,_⟩ w2 ⟨k,ls,rfl,hk,ho,hl,hb,hB,hne⟩ I hI;dsimp only at *;refine cO (fun hh=>?_) (fun hh=>?_)
 ·have hh:=oTq hh;have hg2:=(h.ext hB).drew;refine lI (x:=(S.cols:Int)) (hg2.blk.cells 2 _ rfl) ?_;refine qaq (x:=a) hb.drew.cells ?_;refine q31 fun t w3 ho3 hB3=>?_;refine nwb fun w4 hb4 hB4 hs4=>?_;have hB24:Below w2.heap.size w2 w4:=((Below.refl _ w2).drew.trans hB3).trans (hB4.mono hB3.size);have hB04:Below w.heap.size w w4:=hB.trans (hB24.mono hB.size);have hr4:Rd slE w4 ⟨some ⟨w3.heap.size,0,none⟩,1,1⟩ [t]:=qkj (E:=slE) hb4 rfl;have hll:=hl.1;rw [length_replicate] at hll;have hbl:=hb.lt;have hs23:w2.heap.size<=w3.heap.size:=hB3.size;have ho4:=ho.ext hB24;refine qde qq3 ho4 hr4 hB04.size (by rw [by116];simp;omega) (by simp [maxLen];omega) fun q w5 ho5 hg5 hq5=>?_;rw [w64i (by omega)];have notC:∀k cs,s.blk=some k->¬Blk w4 k qao cs:=fun k cs hk hc=>by
   obtain ⟨cs',hcs'⟩:=ho4.blk_t hk;exact hc.ne_t hcs' (by decide) rfl
  have hc5:Chg (fun k=>s.blk=some k) w4 w5:=Chg.of_grown hg5 fun k hk=>hk;have ht4:Go.Vc.Own cellE w4 w.heap.size t (newL S.cols a):=(ho3.base (by have:=hB.size;show w.heap.size<=w2.heap.size;omega)).ext hB4;refine hI _ _ ⟨k+1,ls++[t],by simp,by omega,ho5,?_,?_,hB04.grown hg5 hB04.size fun g hg=>(ho.lt g hg).1,?_⟩ (by simp;omega)
  ·rw [List.replicate_succ'];refine Lines.append ((hl.ext hB24).chg hc5 notC) (Lines.one (ht4.chg hc5 fun g hg hs=>?_));obtain ⟨cs,hcs⟩:=ht4.blk_t hg;exact notC g cs hs hcs
  ·exact (hb.ext hB24).grown hg5 fun e=>hne _ e.symm rfl
  ·intro g hg;rcases hq5 with e | e
   ·rw [e] at hg;exact hne g hg
   ·rw [e] at hg;cases hg;have:=hB24.size;omega
 ·have hh:=oFq hh;have:n.toNat=k:=by omega
  rw [<-this] at hl;exact hK _ _ _ ho hl hB
theorem GridM.newRow {w1 w2:World} {s:Slc} {ls:List Slc} {L:List (List Cell)} {top:Int} {B:Nat} (h:GridM w1 base f S) (hrow:Go.Vc.Own slE w1 base s ls) (hl:Lines w1 base ls L) (hne:∀k,s.blk=some k->k≠f.g/\k≠f.r/\f.rs.blk≠some k)
  (hb:Blk w2 f.g qec [.pointer (some ⟨f.r,0,none⟩),.int .i64 S.rows,.int .i64 S.cols,.slice s.a s.n s.c,.int .i64 top]) (hg:w1.grownBy w2 (some f.g)) (_:B<=w1.heap.size):GridM w2 base { f with ls:=s } { S with L:=L,top:=top }:=by
 have hc:Chg (fun k=>k=f.g) w1 w2:=Chg.of_grown hg fun k hk=>by cases hk;rfl
 have notC:∀k cs,k=f.g->¬Blk w1 k qao cs:=fun k cs hk hcs=>h.notC k cs (.inl hk) hcs;obtain ⟨g1,g2,g3⟩:=h.g_ne;refine ⟨hb,h.hg,⟨ls,hrow.chg hc fun g hg=>(hne g hg).1,hl.chg hc notC⟩,h.ring.chg hc (fun k hk=>?_) notC,fun k hk=>(hne k hk).2.2⟩;rcases hk with rfl | hk
 ·exact fun e=>g1 e.symm
 ·exact (g3 k hk).1
theorem q2c {a:Attr} {K:World->Prop} (h:GridM w base f S) (hrows:S.rows<=100000) (hbase:base<=w.heap.size)
  (hK:∀f' w',GridM w' base f' { S with L:=List.replicate S.rows (newL S.cols a) }->f.to f' w.heap.size->Chg (gridS f) w w'->K w'):qdx (some ⟨f.g,0,none⟩) a w K:=by
 refine qyu _ _ ?_;unfold qra;simp only [onPtr_some];refine nwb fun w1 hb1 hB1 hs1=>?_;have h1:=(h.ext hB1).drew;refine lI (x:=(S.rows:Int)) (h1.blk.cells 1 _ rfl) ?_;refine qaq (x:=a) hb1.drew.cells ?_;refine qn9 h1 (by omega) fun s ls w2 ho hl hB2=>?_;have hB02:Below w.heap.size w w2:=hB1.drew.trans (hB2.mono hB1.size);have h2:=h.ext hB02;have hfresh:∀k,s.blk=some k->w.heap.size<=k:=fun k hk=>by have:=(ho.lt k hk).1;have:=hB1.size;have e:w1.drew.heap.size=w1.heap.size:=rfl;omega
 rw [qae];refine qah h2.blk (by simp) fun w3 hb3 hg3 hs3=>?_;have hsz:w.heap.size<=w1.drew.heap.size:=hB1.size;have h3:=h2.newRow (B:=0) (top:=S.top) (ho.base (by omega)) (L:=List.replicate S.rows (newL S.cols a)) ⟨hl.1,fun i t xs e1 e2=>(hl.2 i t xs e1 e2).base (by omega)⟩ (fun k hk=>?_) hb3 hg3 (Nat.zero_le _)
 ·refine hK _ w3 h3 ⟨rfl,rfl,.inr hfresh,.inl rfl⟩ ?_;exact (Chg.of_ext (S:=gridS f) hB02).trans (S':=fun k=>k=f.g) (Chg.of_grown hg3 fun k hk=>by cases hk;rfl) fun i _ hi=>.inl hi
 ·have hk':=hfresh k hk;refine ⟨fun e=>?_,fun e=>?_,fun e=>?_⟩
  ·have:=(h.below k (.inl e)).2;omega
  ·have:=(h.below k (.inr (.inl e))).2;omega
  ·have:=(h.below k (.inr (.inr (.inr e)))).2;omega
theorem zdm {row:Int} {l:Slc} {xs:List Cell} {K:Bool->World->Prop} (h:GridM w base f S) (hx:Rd cellE w l xs) (hxl:xs.length<=10000) (hL:S.L.length=S.rows) (hbase:base<=w.heap.size)
  (hK1:∀w',(0<=row/\row<S.rows)->GridM w' base f { S with L:=S.L.set row.toNat (qa6 xs S.cols) }->Chg (gridS f) w w'->K true w') (hK2:¬(0<=row/\row<S.rows)->K false w):qor (some ⟨f.g,0,none⟩) row l w K:=by
 refine q0w _ _ _ ?_;unfold qtl;simp only [onPtr_some];refine jpO fun J hJ=>?_;refine qha h ?_;by_cases hr:0<=row/\row<(S.rows:Int)
 ·rw [dTq hr];refine cT rfl ?_;refine lSl (x:=f.ls) (h.drew.blk.cells 3 _ rfl) ?_;refine lI (x:=(S.cols:Int)) (h.drew.blk.cells 2 _ rfl) ?_;refine qqe hx.drew hxl fun t w4 ht hB4=>?_;have hB04:Below w.heap.size w w4:=(Below.refl _ w).drew.trans hB4;have h4:=h.ext hB04;refine ⟨h4.blk.cells 3 _ rfl,?_⟩;obtain ⟨ls,ho,hl⟩:=h4.row;have hll:=hl.1;refine ho.rd.ix rfl hr.1 (by omega) fun _=>?_;refine ho.st0 (x:=ls[row.toNat]'(by omega)) (List.getElem?_eq_getElem _) (y:=t) rfl fun w5 ho5 hg5 hs5=>?_;have hc5:Chg (fun k=>f.ls.blk=some k) w4 w5:=Chg.of_grown hg5 fun k hk=>hk;have notC:∀k cs,f.ls.blk=some k->¬Blk w4 k qao cs:=fun k cs hk=>h4.notC k cs (.inr (.inr (.inl hk)));have ht4:Go.Vc.Own cellE w4 base t (qa6 xs S.cols):=ht.base hbase;obtain ⟨g1,g2,g3⟩:=h4.g_ne;have hc:Chg (gridS f) w w5:=(Chg.of_ext (S:=gridS f) hB04).trans hc5 fun i _ hi=>.inr (.inr (.inl hi));have h5:GridM w5 base f { S with L:=S.L.set row.toNat (qa6 xs S.cols) }:=by
   refine ⟨h4.blk.chg hc5 fun e=>(g2 _ e).1 rfl,h4.hg,⟨ls.set row.toNat t,ho5,(hl.chg hc5 notC).set row.toNat (ht4.chg hc5 fun g hg hs=>?_)⟩,h4.ring.chg hc5 (fun k hk hs=>?_) notC,h4.ne⟩
   ·obtain ⟨cs,hcs⟩:=ht4.blk_t hg;exact notC g cs hs hcs
   ·rcases hk with rfl | hk
    ·exact (g2 _ hs).2 rfl
    ·exact h4.ne k hs hk
  refine hJ _ _ (qha h5 ?_);rw [dTq hr];exact hK1 w5 hr h5 hc
 ·rw [dFq hr];refine cF rfl (hJ _ _ (qha h ?_));rw [dFq hr];exact hK2 hr
theorem q1l {K:World->Prop} (h:GridM w base f S)
  (hK:∀w',GridM w' base { f with rs:=⟨none,0,0⟩ } { S with old:=[] }->Chg (gridS f) w w'->K w'):qcv (some ⟨f.g,0,none⟩) w K:=by
 refine qxt _ ?_;unfold qpm;simp only [onPtr_some];refine qar (x:=some ⟨f.r,0,none⟩) (h.blk.cells 0 _ rfl) ?_;refine q53 h.ring fun w1 hr1 hc1=>?_;obtain ⟨g1,g2,g3⟩:=h.g_ne;obtain ⟨ls,ho,hl⟩:=h.row;refine hK w1 ⟨h.blk.chg hc1 fun e=>?_,h.hg,⟨ls,ho.chg hc1 fun g hg hs=>?_,hl.chg hc1 h.ring.notC⟩,hr1,fun k _ hk=>by cases hk⟩ (hc1.mono fun i _ hi=>?_)
 ·rcases e with e | e
  ·exact g1 e
  ·exact (g3 _ e).1 rfl
 ·rcases hs with e | e
  ·exact (g2 g hg).2 e
  ·exact h.ne g hg e
 ·rcases hi with e | e
  ·exact .inr (.inl e)
  ·exact .inr (.inr (.inr e))
end
def gs0 (rows cols most:Nat):GS:=⟨rows,cols,most,List.replicate rows (newL cols ⟨0,0,0⟩),[],0⟩
def qmz (rows cols back:Int):Prop:=¬(1<=rows/\rows<=1000)\/¬(1<=cols/\cols<=1000)\/back<0\/back>16384
theorem q6u {rows cols back:Int} {w:World} {K:Option Addr->Int->World->Prop} (hK1:qmz rows cols back->K none 1 w)
  (hK2:¬qmz rows cols back->∀f w',GridM w' w.heap.size f (gs0 rows.toNat cols.toNat back.toNat)->Below w.heap.size w w'->K (some ⟨f.g,0,none⟩) 0 w'):qsk rows cols back w K:=by
 refine q7e _ _ _ ?_;unfold q2t;have size:∀{n:Int} {K:Bool->World->Prop},K (decide (1<=n/\n<=1000)) w->qg5 n w K:=by
  intro n K hk;refine qw2 _ ?_;unfold qua;refine cO (fun h=>?_) (fun h=>?_)
  ·have h:1<=n:=oTq h;have:decide (n<=1000)=decide (1<=n/\n<=1000):=by simp [h]
   rw [this];exact hk
  ·have h:=oFq h;have:decide (1<=n/\n<=1000)=false:=by simp;omega
   rw [this] at hk;exact hk
 refine jpO fun J hJ=>?_;refine size ?_;by_cases h1:1<=rows/\rows<=1000
 ·rw [dTq h1];refine cF rfl (size ?_);by_cases h2:1<=cols/\cols<=1000
  ·rw [dTq h2];refine cF rfl ?_;refine cO (fun h3=>hK1 (.inr (.inr (.inl (oTq h3))))) (fun h3=>?_);refine cO (fun h4=>hK1 (.inr (.inr (.inr (oTq h4))))) (fun h4=>?_);have h3:=oFq h3;have h4:=oFq h4;have hgood:¬qmz rows cols back:=by unfold qmz;omega
   refine hJ _ _ ?_;refine q8o (base:=w.heap.size) (by omega) (by omega) (le_refl _) fun w1 hr1 hB1 hs1=>?_;refine nwb fun w2 hb2 hB2 hs2=>?_;have hB02:Below w.heap.size w w2:=hB1.trans (hB2.mono (by omega));have hg2:GridM w2 w.heap.size ⟨w1.heap.size,w.heap.size,⟨none,0,0⟩,⟨none,0,0⟩⟩ ⟨rows.toNat,cols.toNat,back.toNat,[],[],0⟩:=by
    refine ⟨?_,by show w.heap.size<=w1.heap.size;omega,⟨[],Go.Vc.Own.nil _ _ _,Lines.nil _ _⟩,hr1.ext hB2,fun k hk=>by cases hk⟩;show Blk w2 w1.heap.size qec [_,.int .i64 ((rows.toNat:Nat):Int),.int .i64 ((cols.toNat:Nat):Int),_,_];rw [show ((rows.toNat:Nat):Int)=rows by omega,show ((cols.toNat:Nat):Int)=cols by omega];exact hb2
   refine q2c (f:=⟨w1.heap.size,w.heap.size,⟨none,0,0⟩,⟨none,0,0⟩⟩) hg2 (by show rows.toNat<=100000;omega) hB02.size fun f' w3 hg3 hf hc=>?_;have hg':f'.g=w1.heap.size:=hf.g;have key:=hK2 hgood f' w3 hg3 (hB02.trans (hc.below hB02.size fun i hi hs=>by have:=(hg2.below i hs).1;omega));rw [hg'] at key;exact key
  ·rw [dFq h2];exact cT rfl (hK1 (.inr (.inl h2)))
 ·rw [dFq h1];exact cT rfl (hK1 (.inl h1))
end Go.Proofs.YtcigiaecigedmaaGreatDoor
namespace Go.Vc
open Go.RowKit

end Go.Vc
namespace Go.Proofs.YtcigiaecigedmaaGreatDoor
open Go.Vc Go.RowKit
open IntKind (i64)
open _root_.List (append_nil drop_zero length_replicate)
open _root_.Nat (le_refl zero_le)
def qgl (rows:Nat) (top past n:Int):Prop:=n=0\/top<0\/past<=top\/past>rows
instance (rows:Nat) (top past n:Int):Decidable (qgl rows top past n):=by unfold qgl;infer_instance
def qi4 (top past n:Int):Nat:=(min (if n<0 then -n else n) (past-top)).toNat
def qpw (cols:Nat) (L:List (List Cell)) (top past n:Int) (a:Attr):List (List Cell) :=
 let m:=qi4 top past n
 let b:=List.replicate m (newL cols a)
 if n>0 then L.take top.toNat++(L.take past.toNat).drop (top.toNat+m)++b++L.drop past.toNat
 else L.take top.toNat++b++(L.take (past.toNat-m)).drop top.toNat++L.drop past.toNat
def qi3 (most:Nat) (old:List (List Cell)) (xs:List (List Cell)):List (List Cell):=xs.foldl (pushL most) old
def qcr (S:GS) (top past n:Int) (a:Attr):GS :=
 if qgl S.rows top past n then S
 else if n>0/\top=0 then { S with L:=qpw S.cols S.L top past n a,old:=qi3 S.most S.old (S.L.take (qi4 top past n)),top:=i64.wrap (S.top+qi4 top past n) }
 else { S with L:=qpw S.cols S.L top past n a }
def q5m (rows:Nat) (top past n:Int):Int:=if qgl rows top past n\/n<0\/top≠0 then 0 else qi4 top past n
theorem q77 (most:Nat) (old:List (List Cell)) (L:List (List Cell)) (k:Nat) (x:List Cell) (h:L[k]?=some x):qi3 most old (L.take (k+1))=pushL most (qi3 most old (L.take k)) x:=by
 rw [qi3,List.take_add_one,h,List.foldl_append];rfl
theorem q5u {α:Type} (l:List α) (a m:Nat):((l.drop a).take m)=(l.take (a+m)).drop a:=by
 rw [List.drop_take];congr 1;omega
theorem ziq {w:World} {base m:Nat} {f:Foot} {S:GS} {p:Slc} {ls:List Slc} {xss:List (List Cell)} {Fin:Int×Unit->World->Prop} (h:GridM w base f S) (hp:Rd slE w p ls) (hpn:ls.length=m) (hl:Lines w base ls xss) (hpf:∀a,p.a=some a->¬gridS f a.block)
  (hmost:S.most<=100000) (hbase:base<=w.heap.size) (hm:m<=100000)
  (hfin:∀i f' w',GridM w' base f' { S with old:=qi3 S.most S.old xss }->f.to f' w.heap.size->f'.ls=f.ls->Chg (gridS f) w w'->Fin (i,()) w') :
  loopP (σ:=Int×Unit) (fun I3 s_2 w12 =>
   cond (decide (s_2.1<((p.n:Nat):Int)))
    (
     ixK p s_2.1 1 fun t127 =>
     ldSl t127 w12 fun t128 =>
     ldP ((⟨f.g,0,none⟩:Addr).add 0) w12 fun t132 =>
     qdc t132 t128 w12 fun _ _ w13 =>
     I3 ((i64.wrap (s_2.1+(1:Int))),()) w13)
    (Fin s_2 w12)) (0,()) w:=by
 have hpn':p.n=m:=by rw [hp.n,hpn]
 have hxl:xss.length=m:=by rw [<-hl.1,hpn]
 refine lpR (fun (s:Int×Unit) w2=>∃(k:Nat) (f':Foot),s.1=k/\k<=m/\GridM w2 base f' { S with old:=qi3 S.most S.old (xss.take k) }/\f.to f' w.heap.size/\f'.ls=f.ls/\Chg (gridS f) w w2) (fun s=>m-s.1.toNat) ⟨0,f,rfl,by omega,by simpa [qi3] using h,Foot.to.refl _ _,rfl,Chg.refl _ _⟩ ?_;rintro ⟨i,_⟩ w2 ⟨k,f',rfl,hk,h2,hf,hfl,hc⟩ I hI;dsimp only at *;rw [hpn'];refine cO (fun hlt=>?_) (fun hge=>?_)
 ·have hlt:=oTq hlt;have hp2:Rd slE w2 p ls:=hp.chg hc hpf;have hl2:Lines w2 base ls xss:=hl.chg hc h.notC;refine hp2.ix rfl (by omega) (by omega) fun hcell=>?_;have hlk:ls[k]?=some (ls[k]'(by omega)):=List.getElem?_eq_getElem _;have hxk:xss[k]?=some (xss[k]'(by omega)):=List.getElem?_eq_getElem _;refine lSl (x:=ls[k]'(by omega)) (by simpa using hcell 0 _ rfl) ?_;have hb2:=h2.blk;rw [hf.g,hf.r] at hb2;refine qar (x:=some ⟨f.r,0,none⟩) (hb2.cells 0 _ rfl) ?_;have hr2:=h2.ring;rw [hf.r] at hr2;have hsz:=hc.size;refine zds hr2 (hl2.2 k _ _ hlk hxk) hmost (by omega) fun u b s' w3 hr3 hc3 hs'=>?_;rw [w64i (by omega)];have sub:∀i,ringS f.r f'.rs i->gridS f i\/w.heap.size<=i:=fun i hi=>by
   refine hf.old i ?_;rcases hi with e | e
   ·exact .inr (.inl (by rw [e,hf.r]))
   ·exact .inr (.inr (.inr e))
  have hc':Chg (gridS f) w w3:=hc.trans hc3 fun i hi hs=>by
   rcases sub i hs with e | e
   ·exact e
   ·omega
  have notr:∀k cs,ringS f.r f'.rs k->¬Blk w2 k qao cs:=hr2.notC;obtain ⟨ls',ho',hl'⟩:=h2.row;obtain ⟨g1,g2,g3⟩:=h2.g_ne;refine hI _ _ ⟨k+1,{ f' with rs:=s' },by simp,by omega,⟨?_,h2.hg,⟨ls',ho'.chg hc3 fun g hg hs=>?_,hl'.chg hc3 notr⟩,?_,?_⟩,?_,hfl,hc'⟩ (by simp;omega)
  ·refine h2.blk.chg hc3 fun e=>?_;rcases e with e | e
   ·exact g1 (by rw [e,hf.r])
   ·exact (g3 _ e).1 rfl
  ·rcases hs with e | e
   ·exact (g2 g hg).2 (by rw [e,hf.r])
   ·exact h2.ne g hg e
  ·show RingM w3 base f'.r s' S.most (qi3 S.most S.old (xss.take (k+1)));rw [q77 _ _ _ _ _ hxk,hf.r];exact hr3
  ·intro k' hk' e;rcases hs' with e' | ⟨q,e',hq⟩
   ·rw [e'] at e;exact h2.ne k' hk' e
   ·rw [e'] at e;cases e;have:=(h2.below k' (.inr (.inr (.inl hk')))).2;omega
  ·refine ⟨hf.g,hf.r,hf.ls,?_⟩;rcases hs' with e' | ⟨q,e',hq⟩
   ·rcases hf.rs with e | e
    ·exact .inl (e'.trans e)
    ·exact .inr fun k' hk'=>e k' (by rw [<-e'];exact hk')
   ·exact .inr fun k' hk'=>by rw [e'] at hk';cases hk';omega
 ·have hge:=oFq hge;have:k=m:=by omega
  subst this;rw [List.take_of_length_le (by omega)] at h2;exact hfin _ f' w2 h2 hf hfl hc
theorem qh4 {x:Option Addr} {l m k:Nat} {a:Addr} (h:cut x l m k=some a):∃b,x=some b/\a.block=b.block:=by
 unfold cut at h;split at h
 ·exact ⟨a,h,rfl⟩
 ·obtain ⟨b,hb,rfl⟩:=Option.map_eq_some_iff.1 h;exact ⟨b,hb,by simp⟩
theorem q0l {w:World} {base:Nat} {f:Foot} {S:GS} {top past n:Int} {a:Attr} {K:Int->World->Prop} (h:GridM w base f S) (hL:S.L.length=S.rows) (hrows:S.rows<=1000) (hmost:S.most<=100000) (hbase:base<=w.heap.size) (hn:-9223372036854775808<=n/\n<=9223372036854775807)
  (hK:∀f' w',GridM w' base f' (qcr S top past n a)->f.to f' w.heap.size->Chg (gridS f) w w'->K (q5m S.rows top past n) w'):qbw (some ⟨f.g,0,none⟩) top past n a w K:=by
 refine qww _ _ _ _ _ ?_;unfold qps;simp only [onPtr_some];refine nwb fun w1 hb1 hB1 hs1=>?_;have h1:=h.ext hB1;refine jpO fun J1 hJ1=>?_;have bad:qgl S.rows top past n->K 0 w1:=fun hb=>by
  have:=hK f w1 (by rw [qcr,if_pos hb];exact h1) (Foot.to.refl _ _) (Chg.of_ext hB1)
  rwa [q5m,if_pos (.inl hb)] at this
 refine cO (fun e=>bad (.inl (eq_of_beq e))) (fun e0=>?_);refine cO (fun e=>bad (.inr (.inl (oTq e)))) (fun e1=>?_);refine cO (fun e=>bad (.inr (.inr (.inl (oTq e))))) (fun e2=>?_);refine lI (x:=(S.rows:Int)) (h1.blk.cells 1 _ rfl) ?_;refine cO (fun e=>bad (.inr (.inr (.inr (oTq e))))) (fun e3=>?_);have e0:n≠0:=beq_eq_false_iff_ne.1 e0;have e1:=oFq e1;have e2:=oFq e2;have e3:=oFq e3;have good:¬qgl S.rows top past n:=by unfold qgl;omega
 refine hJ1 _ _ ?_;rw [w64i (x:=past-top) (by omega),w64i (x:=0-(past-top)) (by omega)];refine jpO fun J2 hJ2=>?_;have hm:(qi4 top past n:Int)=min (if n<0 then -n else n) (past-top):=by unfold qi4;split<;>omega
 unfold qcr qpw at hK;unfold q5m at hK;rw [if_neg good] at hK;generalize qi4 top past n=m at *;have hm0:1<=m:=by split at hm<;>omega
 have hm1:(m:Int)<=past-top:=by split at hm<;>omega
 obtain ⟨tp,rfl⟩:∃tp:Nat,top=tp:=⟨top.toNat,by omega⟩;obtain ⟨ps,rfl⟩:∃ps:Nat,past=ps:=⟨past.toNat,by omega⟩;have main:∀c:Int,(if i64.wrap (0-c)>c then i64.wrap (0-c) else c)=(m:Int)->J2 (c,()) w1:=fun c hc=>hJ2 _ _ (by
  dsimp only;rw [hc];obtain ⟨ls,ho,hl⟩:=h1.row;have hll:=hl.1;refine lSl (x:=f.ls) (h1.blk.cells 3 _ rfl) ?_;refine ho.rd.slK3 (l:=tp) (m:=ps) rfl (.inr rfl) rfl rfl (by omega) (by omega) fun hpart=>?_;have h1d:=h1.drew;have hod:Go.Vc.Own slE w1.drew base f.ls ls:=ho;have hbd:=hb1.drew;refine cO (fun hneg=>?_) (fun hpos=>?_)
  ·have hneg:n<0:=by
    have:¬n>0:=by simpa using hneg
    omega
   refine lSl (x:=f.ls) (h1d.blk.cells 3 _ rfl) ?_;refine hod.rd.slK3 (l:=0) (m:=tp) rfl (.inl ⟨rfl,rfl⟩) rfl rfl (by omega) (by omega) fun hfront=>?_;refine qaq (x:=a) hbd.cells ?_;rw [w64i (x:=(ps:Int)-tp-m) (by omega)];refine hpart.drew.slK (l:=0) (m:=ps-tp-m) rfl (.inl ⟨rfl,rfl⟩) (.inr (by simp;omega)) (by omega) (by simp;omega) fun hmid=>?_;refine lSl (x:=f.ls) (h1d.blk.cells 3 _ rfl) ?_;refine hod.rd.slK (l:=ps) (m:=ls.length) rfl (.inr rfl) (.inl ⟨rfl,rfl⟩) (by omega) (le_refl _) fun hback=>?_;refine qn9 h1d (by omega) fun b bls w4 hob hlb hB4=>?_;have hB14:Below w1.heap.size w1 w4:=(Below.refl _ w1).drew.trans hB4;have hB04:Below w.heap.size w w4:=hB1.trans (hB14.mono hB1.size);have h4:=h1.ext hB14;refine ⟨h4.blk.cells 3 _ rfl,h4.blk.cells 3 _ rfl,?_⟩;refine nwb fun w5 hb5 hB5 hs5=>?_;have hB45:Below w1.drew.heap.size w1.drew w5:=hB4.trans (hB5.mono hB4.size);have hA:=zbf (hfront.ext hB45) (hob.rd.ext hB5) (hmid.ext hB45) (hback.ext hB45);have hbl:=hlb.1;rw [length_replicate] at hbl;refine qts ?_ hA ?_ (by simp) fun q w6 ho6 hB6=>?_
   ·exact qi5 (E:=sl2E) (ys:=[_,_,_,_]) hb5 (by simp [maxLen]) rfl
   ·simp;omega
   have hB06:Below w.heap.size w w6:=hB04.trans ((hB5.trans (hB6.mono hB5.size)).mono hB04.size);have hB16:Below w1.heap.size w1 w6:=hB14.trans ((hB5.trans (hB6.mono hB5.size)).mono hB14.size);have hB46:Below w4.heap.size w4 w6:=hB5.trans (hB6.mono hB5.size);have h6:=h1.ext hB16;have hl6:=hl.ext hB16;have hs15:w1.heap.size<=w5.heap.size:=by have:=hB14.size;have:=hB5.size;omega
   have hs01:=hB1.size;have hlb6:Lines w6 base bls (List.replicate m (newL S.cols a)):=⟨hlb.1,fun i t xs x1 x2=>((hlb.2 i t xs x1 x2).ext hB46).base (by show base<=w1.heap.size;omega)⟩;have hfresh:∀k,q.blk=some k->w.heap.size<=k:=fun k hk=>by have:=(ho6.lt k hk).1;omega
   have hrow:=ho6.base (base':=base) (by omega);have hlines:=(((hl6.take tp).drop 0).append (hlb6.append (((((hl6.take ps).drop tp).take (ps-tp-m)).drop 0).append (((hl6.take ls.length).drop ps).append (Lines.nil w6 base)))));rw [qae];refine qah h6.blk (by simp) fun w7 hb7 hg7 hs7=>?_;have h7:=h6.newRow (B:=0) (top:=S.top) hrow hlines (fun k hk=>?_) hb7 hg7 (zero_le _)
   ·have hneg':¬(n>0/\(tp:Int)=0):=by omega
    have hneg2:¬n>0:=by omega
    rw [if_neg hneg',if_neg hneg2,if_pos (.inr (.inl hneg))] at hK;refine hK ⟨f.g,f.r,q,f.rs⟩ w7 ?_ ⟨rfl,rfl,.inr hfresh,.inl rfl⟩ ((Chg.of_ext (S:=gridS f) hB06).trans (S':=fun k=>k=f.g) (Chg.of_grown hg7 fun k hk=>by cases hk;rfl) fun i _ hi=>.inl hi);have e:List.take tp S.L++List.replicate m (newL S.cols a)++List.drop tp (List.take (ps-m) S.L)++List.drop ps S.L=List.drop 0 (List.take tp S.L)++(List.replicate m (newL S.cols a)++(List.drop 0 (List.take (ps-tp-m) (List.drop tp (List.take ps S.L)))++(List.drop ps (List.take ls.length S.L)++[]))):=by
     rw [drop_zero,drop_zero,append_nil,q5u,List.take_take,hll,List.take_length];rw [show min (tp+(ps-tp-m)) ps=ps-m by omega];simp
    rw [show ((tp:Int)).toNat=tp from rfl,show ((ps:Int)).toNat=ps from rfl,e];exact h7
   ·have hk':=hfresh k hk;refine ⟨fun e=>?_,fun e=>?_,fun e=>?_⟩
    ·have:=(h.below k (.inl e)).2;omega
    ·have:=(h.below k (.inr (.inl e))).2;omega
    ·have:=(h.below k (.inr (.inr (.inr e)))).2;omega
  ·have hpos:n>0:=by simpa using hpos
   refine hpart.drew.slK3 (l:=0) (m:=m) rfl (.inl ⟨rfl,rfl⟩) rfl rfl (by omega) (by simp;omega) fun hgone=>?_;refine lSl (x:=f.ls) (h1d.blk.cells 3 _ rfl) ?_;refine hod.rd.slK3 (l:=0) (m:=tp) rfl (.inl ⟨rfl,rfl⟩) rfl rfl (by omega) (by omega) fun hfront=>?_;refine hpart.drew.slK (l:=m) (m:=((ls.take ps).drop tp).length) rfl (.inr rfl) (.inl ⟨rfl,rfl⟩) (by simp;omega) (le_refl _) fun hrest=>?_;refine qaq (x:=a) hbd.cells ?_;refine lSl (x:=f.ls) (h1d.blk.cells 3 _ rfl) ?_;refine hod.rd.slK (l:=ps) (m:=ls.length) rfl (.inr rfl) (.inl ⟨rfl,rfl⟩) (by omega) (le_refl _) fun hback=>?_;refine qn9 h1d (by omega) fun b bls w4 hob hlb hB4=>?_;have hB14:Below w1.heap.size w1 w4:=(Below.refl _ w1).drew.trans hB4;have hB04:Below w.heap.size w w4:=hB1.trans (hB14.mono hB1.size);have h4:=h1.ext hB14;refine ⟨h4.blk.cells 3 _ rfl,h4.blk.cells 3 _ rfl,?_⟩;refine nwb fun w5 hb5 hB5 hs5=>?_;have hB45:Below w1.drew.heap.size w1.drew w5:=hB4.trans (hB5.mono hB4.size);have hA:=zbf (hfront.ext hB45) (hrest.ext hB45) (hob.rd.ext hB5) (hback.ext hB45);have hbl:=hlb.1;rw [length_replicate] at hbl;refine qts ?_ hA ?_ (by simp) fun q w6 ho6 hB6=>?_
   ·exact qi5 (E:=sl2E) (ys:=[_,_,_,_]) hb5 (by simp [maxLen]) rfl
   ·simp;omega
   have hB06:Below w.heap.size w w6:=hB04.trans ((hB5.trans (hB6.mono hB5.size)).mono hB04.size);have hB16:Below w1.heap.size w1 w6:=hB14.trans ((hB5.trans (hB6.mono hB5.size)).mono hB14.size);have hB46:Below w4.heap.size w4 w6:=hB5.trans (hB6.mono hB5.size);have h6:=h1.ext hB16;have hl6:=hl.ext hB16;have hs15:w1.heap.size<=w5.heap.size:=by have:=hB14.size;have:=hB5.size;omega
   have hs01:=hB1.size;have hlb6:Lines w6 base bls (List.replicate m (newL S.cols a)):=⟨hlb.1,fun i t xs x1 x2=>((hlb.2 i t xs x1 x2).ext hB46).base (by show base<=w1.heap.size;omega)⟩;have hfresh:∀k,q.blk=some k->w.heap.size<=k:=fun k hk=>by have:=(ho6.lt k hk).1;omega
   have hrow:=ho6.base (base':=base) (by omega);have hlines:=(((hl6.take tp).drop 0).append (((((hl6.take ps).drop tp).take ((ls.take ps).drop tp).length).drop m).append (hlb6.append (((hl6.take ls.length).drop ps).append (Lines.nil w6 base)))));rw [qae];refine qah h6.blk (by simp) fun w7 hb7 hg7 hs7=>?_;have hqne:∀k,q.blk=some k->k≠f.g/\k≠f.r/\f.rs.blk≠some k:=fun k hk=>by
    have hk':=hfresh k hk;refine ⟨fun e=>?_,fun e=>?_,fun e=>?_⟩
    ·have:=(h.below k (.inl e)).2;omega
    ·have:=(h.below k (.inr (.inl e))).2;omega
    ·have:=(h.below k (.inr (.inr (.inr e)))).2;omega
   have h7:=h6.newRow (B:=0) (top:=S.top) hrow hlines hqne hb7 hg7 (zero_le _);have e:List.take tp S.L++List.drop (tp+m) (List.take ps S.L)++List.replicate m (newL S.cols a)++List.drop ps S.L=List.drop 0 (List.take tp S.L)++(List.drop m (List.take ((ls.take ps).drop tp).length (List.drop tp (List.take ps S.L)))++(List.replicate m (newL S.cols a)++(List.drop ps (List.take ls.length S.L)++[]))):=by
    have e1:((ls.take ps).drop tp).length=((S.L.take ps).drop tp).length:=by simp [hll]
    rw [drop_zero,append_nil,e1,List.take_length,hll,List.take_length,List.drop_drop];simp
   have hc7:Chg (gridS f) w w7:=(Chg.of_ext (S:=gridS f) hB06).trans (S':=fun k=>k=f.g) (Chg.of_grown hg7 fun k hk=>by cases hk;rfl) fun i _ hi=>.inl hi;rw [if_pos hpos,show ((tp:Int)).toNat=tp from rfl,show ((ps:Int)).toNat=ps from rfl,e] at hK;refine cO (fun ht=>?_) (fun ht=>?_)
   ·have ht:(tp:Int)≠0:=by simpa using ht
    rw [if_neg (fun hh=>ht hh.2),if_pos (.inr (.inr ht))] at hK;exact hK ⟨f.g,f.r,q,f.rs⟩ w7 h7 ⟨rfl,rfl,.inr hfresh,.inl rfl⟩ hc7
   ·have ht:(tp:Int)=0:=by simpa using ht
    rw [if_pos ⟨hpos,ht⟩,if_neg (by rintro (hh | hh | hh);exact good hh;omega;exact hh ht)] at hK;have hB17:Chg (fun k=>k=f.g) w6 w7:=Chg.of_grown hg7 fun k hk=>by cases hk;rfl
    obtain ⟨g1,g2,g3⟩:=h1.g_ne;have hgone6:=hgone.ext (w':=w6) (hB45.trans (hB6.mono hB45.size));have hbr:Go.Vc.Own slE w7 base q _:=hrow.chg hB17 fun k hk=>(hqne k hk).1;have notr:∀k cs,k=f.g->¬Blk w6 k qao cs:=fun k cs hk hc=>h6.notC k cs (.inl hk) hc;have hgone7:Rd slE w7 _ _:=hgone6.chg hB17 fun x hx hs=>by
     obtain ⟨y,hy,e1⟩:=qh4 hx;obtain ⟨z,hz,e2⟩:=qh4 hy;exact (g2 z.block (by simp [Slc.blk,hz])).1 (by rw [<-e2,<-e1];exact hs)
    have hlg:=((((hl6.take ps).drop tp).take m).drop 0).chg hB17 notr;refine ziq (f:=⟨f.g,f.r,q,f.rs⟩) (m:=m) h7 hgone7 (by simp;omega) hlg (fun x hx hs=>?_) hmost (by have:=hB06.size;have:=hg7.size;omega) (by omega) fun i f' w8 h8 hf8 hfl8 hc8=>?_
    ·obtain ⟨y,hy,e1⟩:=qh4 hx;obtain ⟨z,hz,e2⟩:=qh4 hy;have hzb:f.ls.blk=some z.block:=by simp [Slc.blk,hz]
     rw [e1,e2] at hs;rcases hs with e | e | e | e
     ·exact (g2 _ hzb).1 e
     ·exact (g2 _ hzb).2 e
     ·have:=hfresh _ e;have:=(h.below _ (.inr (.inr (.inl hzb)))).2;omega
     ·exact h.ne _ hzb e
    ·have hb8:=h8.blk;have hfg:f'.g=f.g:=hf8.g;rw [hfg] at hb8;refine lI (x:=S.top) (hb8.cells 4 _ rfl) ?_;rw [qae];refine qah hb8 (by simp) fun w9 hb9 hg9 hs9=>?_;obtain ⟨ls8,ho8,hl8⟩:=h8.row;obtain ⟨k1,k2,k3⟩:=h8.g_ne;have hto:f.to ⟨f.g,f.r,q,f.rs⟩ w.heap.size:=⟨rfl,rfl,.inr hfresh,.inl rfl⟩;have h9:=h8.newRow (B:=0) (w2:=w9) (top:=i64.wrap (S.top+m)) ho8 hl8 (fun k hk=>⟨(k2 k hk).1,(k2 k hk).2,h8.ne k hk⟩) (by rw [hfg];exact hb9) (by rw [hfg];exact hg9) (zero_le _);have hsz7:w.heap.size<=w7.heap.size:=by have:=hB06.size;have:=hg7.size;omega
     refine hK f' w9 ?_ (hto.trans hf8 hsz7) ((hc7.trans hc8 fun i hi hs=>?_).trans (S':=fun k=>k=f.g) (Chg.of_grown hg9 fun k hk=>by cases hk;rfl) fun i _ hi=>.inl hi)
     ·have ep:List.take m S.L=List.drop 0 (List.take m (List.drop tp (List.take ps S.L))):=by
       have:tp=0:=by omega
       subst this;rw [drop_zero,drop_zero,List.take_take,Nat.min_eq_left (by omega)]
      rw [ep];exact h9
     ·rcases hto.old i hs with e | e
      ·exact e
      ·omega)
 refine cO (fun c1=>main _ ?_) (fun c1=>cO (fun c2=>main _ ?_) (fun c2=>main _ ?_))
 ·have c1:=oTq c1;rw [w64i (by omega)];split at hm<;>split<;>omega
 ·have c2:=oTq c2;rw [w64i (by omega)];split at hm<;>split<;>omega
 ·have c1:=oFq c1;have c2:=oFq c2;rw [w64i (by omega)];split at hm<;>split<;>omega
theorem q2z {n:Int} {w:World} {K:Bool->World->Prop} (hk:K (decide (1<=n/\n<=1000)) w):qg5 n w K:=by
 refine qw2 _ ?_;unfold qua;refine cO (fun h=>?_) (fun h=>?_)
 ·have h:1<=n:=oTq h;have:decide (n<=1000)=decide (1<=n/\n<=1000):=by simp [h]
  rw [this];exact hk
 ·have h:=oFq h;have:decide (1<=n/\n<=1000)=false:=by simp;omega
  rw [this] at hk;exact hk
theorem qwy {cols:Nat} {L:List (List Cell)} {rows:Nat} {top past n:Int} {a:Attr} (hL:L.length=rows) (h:¬qgl rows top past n):(qpw cols L top past n a).length=L.length:=by
 unfold qgl at h;have hm:(qi4 top past n:Int)=min (if n<0 then -n else n) (past-top):=by unfold qi4;split<;>omega
 unfold qpw;dsimp only;generalize qi4 top past n=m at *;split
 ·simp only [List.length_append,List.length_take,List.length_drop,length_replicate];split at hm<;>omega
 ·simp only [List.length_append,List.length_take,List.length_drop,length_replicate];split at hm<;>omega
theorem qhp {S:GS} {top past n:Int} {a:Attr} (hL:S.L.length=S.rows):(qcr S top past n a).L.length=S.rows/\(qcr S top past n a).rows=S.rows/\(qcr S top past n a).cols=S.cols/\(qcr S top past n a).most=S.most:=by
 unfold qcr;split
 ·exact ⟨hL,rfl,rfl,rfl⟩
 ·next h =>
  split
  ·exact ⟨(qwy hL h).trans hL,rfl,rfl,rfl⟩
  ·exact ⟨(qwy hL h).trans hL,rfl,rfl,rfl⟩
def qvd (S:GS) (rows cols row:Int):Prop:=¬(1<=rows/\rows<=1000)\/¬(1<=cols/\cols<=1000)\/¬(0<=row/\row<S.rows)
def qm8 (S:GS) (cols:Nat):GS:={ S with L:=S.L.map (qa6 · cols),cols:=cols }
def qb6 (S:GS) (rows cols:Nat) (row:Int):GS:=if row>=rows then qcr (qm8 S cols) 0 S.rows (row+1-rows) ⟨0,0,0⟩ else qm8 S cols
def qbx (S:GS) (rows cols:Nat) (row:Int):GS :=
 { qb6 S rows cols row with L:=(qb6 S rows cols row).L.take rows++List.replicate (rows-S.rows) (newL cols ⟨0,0,0⟩),rows:=rows }
section
variable {w w1 w2:World} {base:Nat} {f:Foot} {S:GS}
theorem GridM.setLine {i:Nat} {t:Slc} {xs:List Cell} {ls:List Slc} (h:GridM w1 base f S) (hl:Lines w1 base ls S.L) (ht:Go.Vc.Own cellE w1 base t xs) (ho:Go.Vc.Own slE w2 base f.ls (ls.set i t)) (hg:w1.grownBy w2 f.ls.blk) :
  GridM w2 base f { S with L:=S.L.set i xs }/\Chg (fun k=>f.ls.blk=some k) w1 w2:=by
 have hc5:Chg (fun k=>f.ls.blk=some k) w1 w2:=Chg.of_grown hg fun k hk=>hk;have notC:∀k cs,f.ls.blk=some k->¬Blk w1 k qao cs:=fun k cs hk=>h.notC k cs (.inr (.inr (.inl hk)));obtain ⟨g1,g2,g3⟩:=h.g_ne;refine ⟨⟨h.blk.chg hc5 fun e=>(g2 _ e).1 rfl,h.hg,⟨ls.set i t,ho,(hl.chg hc5 notC).set i (ht.chg hc5 fun g hg hs=>?_)⟩,h.ring.chg hc5 (fun k hk hs=>?_) notC,h.ne⟩,hc5⟩
 ·obtain ⟨cs,hcs⟩:=ht.blk_t hg;exact notC g cs hs hcs
 ·rcases hk with rfl | hk
  ·exact (g2 _ hs).2 rfl
  ·exact h.ne k hs hk
theorem GridM.newBlk {s:Slc} {ls:List Slc} {L:List (List Cell)} {top:Int} {rows cols:Nat} (h:GridM w1 base f S) (hrow:Go.Vc.Own slE w1 base s ls) (hl:Lines w1 base ls L) (hne:∀k,s.blk=some k->k≠f.g/\k≠f.r/\f.rs.blk≠some k)
  (hb:Blk w2 f.g qec [.pointer (some ⟨f.r,0,none⟩),.int .i64 rows,.int .i64 cols,.slice s.a s.n s.c,.int .i64 top]) (hg:w1.grownBy w2 (some f.g)):GridM w2 base { f with ls:=s } { S with rows:=rows,cols:=cols,L:=L,top:=top }:=by
 have hc:Chg (fun k=>k=f.g) w1 w2:=Chg.of_grown hg fun k hk=>by cases hk;rfl
 have notC:∀k cs,k=f.g->¬Blk w1 k qao cs:=fun k cs hk hcs=>h.notC k cs (.inl hk) hcs;obtain ⟨g1,g2,g3⟩:=h.g_ne;refine ⟨hb,h.hg,⟨ls,hrow.chg hc fun g hg=>(hne g hg).1,hl.chg hc notC⟩,h.ring.chg hc (fun k hk=>?_) notC,fun k hk=>(hne k hk).2.2⟩;rcases hk with rfl | hk
 ·exact fun e=>g1 e.symm
 ·exact (g3 k hk).1
theorem GridM.rowNe (h:GridM w base f S):∀k,f.ls.blk=some k->k≠f.g/\k≠f.r/\f.rs.blk≠some k:=fun k hk=>⟨(h.g_ne.2.1 k hk).1,(h.g_ne.2.1 k hk).2,h.ne k hk⟩
theorem Chg.gg {k:Nat} (h:w1.grownBy w2 (some k)):Chg (fun i=>i=k) w1 w2:=Chg.of_grown h fun i hi=>by cases hi;rfl
theorem q1f {rows cols row:Int} {K:Int->Int->World->Prop} (h:GridM w base f S) (hL:S.L.length=S.rows) (hrows:S.rows<=1000) (hw:∀xs∈S.L,xs.length<=10000) (hmost:S.most<=100000) (hbase:base<=w.heap.size)
  (hK1:qvd S rows cols row->K 0 1 w)
  (hK2:∀f' w',¬qvd S rows cols row->GridM w' base f' (qbx S rows.toNat cols.toNat row)->f.to f' w.heap.size->Chg (gridS f) w w'->K (if row>=rows then rows-1 else row) 0 w'):qgo (some ⟨f.g,0,none⟩) rows cols row w K:=by
 refine qxq _ _ _ _ ?_;unfold qpl;simp only [onPtr_some];refine jpO fun J1 hJ1=>?_;refine q2z ?_;by_cases c1:1<=rows/\rows<=1000
 rotate_left
 ·rw [dFq c1];exact cT rfl (hK1 (.inl c1))
 rw [dTq c1];refine cF rfl (q2z ?_);by_cases c2:1<=cols/\cols<=1000
 rotate_left
 ·rw [dFq c2];exact cT rfl (hK1 (.inr (.inl c2)))
 rw [dTq c2];refine cF rfl (qha h ?_);by_cases c3:0<=row/\row<(S.rows:Int)
 rotate_left
 ·rw [dFq c3];exact cT rfl (hK1 (.inr (.inr c3)))
 rw [dTq c3];refine cF rfl (hJ1 _ _ ?_);have hgood:¬qvd S rows cols row:=by unfold qvd;omega
 have hK:=fun f' w'=>hK2 f' w' hgood;clear hK1 hK2 hJ1;obtain ⟨rows,rfl⟩:∃n:Nat,rows=n:=⟨rows.toNat,by omega⟩;obtain ⟨cols,rfl⟩:∃n:Nat,cols=n:=⟨cols.toNat,by omega⟩;simp only [Int.toNat_natCast] at hK;refine lSl (x:=f.ls) (h.blk.cells 3 _ rfl) ?_;have hRl:(S.L.map (qa6 · (cols:Int))).length=S.L.length:=by simp
 have hlsn:f.ls.n=S.rows:=by
  obtain ⟨ls,ho,hl⟩:=h.row;rw [ho.rd.n,hl.1,hL]
 refine lpR (fun (s:Int×Unit) w2=>∃k:Nat,s.1=k/\k<=S.rows/\GridM w2 base f { S with L:=mix (S.L.map (qa6 · (cols:Int))) S.L k }/\Chg (gridS f) w w2) (fun s=>S.rows-s.1.toNat) ⟨0,rfl,by omega,by rw [q7r];exact h,Chg.refl _ _⟩ ?_;rintro ⟨i,_⟩ w2 ⟨k,rfl,hk,h2,hc2⟩ I hI;dsimp only at *;rw [hlsn];refine cO (fun hlt=>?_) (fun hge=>?_)
 ·have hlt:=oTq hlt;obtain ⟨ls,ho,hl⟩:=h2.row;have hll:=hl.1;rw [show ({ S with L:=mix (S.L.map (qa6 · (cols:Int))) S.L k }:GS).L=mix (S.L.map (qa6 · (cols:Int))) S.L k from rfl,qob hRl] at hll;have hkl:k<ls.length:=by omega
  refine ho.rd.ix rfl (by omega) (by omega) fun hc=>?_;have hlk:ls[k]?=some ls[k]:=List.getElem?_eq_getElem _;refine lSl (x:=ls[k]) (by simpa using hc 0 _ rfl) ?_;refine lSl (x:=f.ls) (h2.drew.blk.cells 3 _ rfl) ?_;have hxk:(mix (S.L.map (qa6 · (cols:Int))) S.L k)[k]?=some (S.L[k]'(by omega)):=by
   rw [q5t hRl (by omega),if_neg (by omega)];exact List.getElem?_eq_getElem _
  have hown:=hl.2 _ _ _ hlk hxk;refine qqe hown.rd.drew (hw _ (List.getElem_mem _)) fun t w4 ht hB4=>?_;have hB24:Below w2.heap.size w2 w4:=(Below.refl _ w2).drew.trans hB4;have h4:=h2.ext hB24;refine ⟨h4.blk.cells 3 _ rfl,?_⟩;have ho4:=ho.ext hB24;have hl4:=hl.ext hB24;have hsz:=hc2.size;have hsz4:w2.heap.size<=w4.heap.size:=hB24.size;refine ho4.rd.ix rfl (by omega) (by omega) fun _=>?_;refine ho4.st0 (x:=ls[k]) (y:=t) (by rw [show ((k:Int)).toNat=k from rfl];exact hlk) rfl fun w5 ho5 hg5 hs5=>?_;rw [show ((k:Int)).toNat=k from rfl] at ho5;obtain ⟨h5,hc5⟩:=h4.setLine (i:=k) hl4 (ht.base (by show base<=w2.heap.size;omega)) ho5 hg5;have hy:(S.L.map (qa6 · (cols:Int)))[k]?=some (qa6 (S.L[k]'(by omega)) cols):=by
   rw [List.getElem?_map,List.getElem?_eq_getElem (by omega:k<S.L.length)];rfl
  rw [w64i (by omega)];refine hI _ _ ⟨k+1,by simp,by omega,?_,(hc2.trans (Chg.of_ext (S:=fun k=>f.ls.blk=some k) hB24 |>.trans hc5 fun i _ hi=>hi) fun i _ hi=>.inr (.inr (.inl hi)))⟩ (by simp;omega);rw [<-q1s hRl (by omega) hy];exact h5
 ·have hge:=oFq hge;have:k=S.L.length:=by omega
  subst this;rw [zbs hRl] at h2;rw [qae];refine qah h2.blk (by simp) fun w5 hb5 hg5 hs5=>?_;obtain ⟨ls2,ho2,hl2⟩:=h2.row;have h5:GridM w5 base f (qm8 S cols):=h2.newBlk (rows:=S.rows) (cols:=cols) (top:=S.top) ho2 hl2 h2.rowNe hb5 hg5;have hc5:Chg (gridS f) w w5:=hc2.trans (Chg.gg hg5) fun i _ hi=>.inl hi;have hL1:(qm8 S cols).L.length=(qm8 S cols).rows:=by show (S.L.map _).length=S.rows;omega
  have hS5:=hc5.size;refine jpO fun J3 hJ3=>?_;have main:∀f6 w6,GridM w6 base f6 (qb6 S rows cols row)->f.to f6 w.heap.size->Chg (gridS f) w w6->J3 (if row>=(rows:Int) then (rows:Int)-1 else row,()) w6:=fun f6 w6 h6 hf6 hc6=>hJ3 _ _ (by
   obtain ⟨hL2,hr2,hcl2,hm2⟩:(qb6 S rows cols row).L.length=S.rows/\(qb6 S rows cols row).rows=S.rows/\(qb6 S rows cols row).cols=cols/\(qb6 S rows cols row).most=S.most:=by
    unfold qb6;split
    ·exact qhp hL1
    ·exact ⟨hL1,rfl,rfl,rfl⟩
   have hK:=hK;unfold qbx at hK;generalize qb6 S rows cols row=S2 at *;have hg6:f6.g=f.g:=hf6.g;dsimp only;have hS6:=hc6.size;obtain ⟨ls,ho,hl⟩:=h6.row;have hll:=hl.1;have hln:f6.ls.n=S.rows:=by rw [ho.rd.n,hll,hL2]
   have hb6:=h6.drew.blk;rw [hg6] at hb6;refine lSl (x:=f6.ls) (hb6.cells 3 _ rfl) ?_;refine lSl (x:=f6.ls) (hb6.cells 3 _ rfl) ?_;rw [hln];have hmin:(if ((S.rows:Nat):Int)<(rows:Int) then ((S.rows:Nat):Int) else (rows:Int))=((min S.rows rows:Nat):Int):=by split<;>omega
   rw [hmin];refine ho.drew.rd.slK (l:=0) (m:=min S.rows rows) rfl (.inl ⟨rfl,rfl⟩) (.inr rfl) (by omega) (by omega) fun hpart=>?_;refine lSl (x:=f6.ls) (hb6.cells 3 _ rfl) ?_;rw [hln,w64i (by omega)];rw [<-hg6];refine qn9 h6.drew (by omega) fun b bls w7 hob hlb hB7=>?_;have hB67:Below w6.heap.size w6 w7:=(Below.refl _ w6).drew.trans hB7;have h7:=h6.ext hB67;have hcell7:w7.cell? ((⟨f6.g,0,none⟩:Addr).add 3)=some (.slice f6.ls.a f6.ls.n f6.ls.c):=h7.blk.cells 3 _ rfl;rw [hln] at hcell7;refine ⟨hcell7,hcell7,?_⟩;refine nwb fun w8 hb8 hB8 hs8=>?_;have hB68:Below w6.drew.heap.size w6.drew w8:=hB7.trans (hB8.mono hB7.size);have hA:=zic (hpart.ext hB68) (hob.rd.ext hB8);have hbl:=hlb.1;rw [length_replicate] at hbl;refine qts ?_ hA ?_ (by simp) fun q w9 ho9 hB9=>?_
   ·exact qi5 (E:=sl2E) (ys:=[_,_]) hb8 (by simp [maxLen]) rfl
   ·simp;omega
   have hB69:Below w6.heap.size w6 w9:=hB67.trans ((hB8.trans (hB9.mono hB8.size)).mono hB67.size);have hB79:Below w7.heap.size w7 w9:=hB8.trans (hB9.mono hB8.size);have h9:=h6.ext hB69;have hl9:=hl.ext hB69;have hs68:w6.heap.size<=w8.heap.size:=by have:=hB67.size;have:=hB8.size;omega
   have hlb9:Lines w9 base bls (List.replicate ((rows:Int)-S.rows).toNat (newL cols ⟨0,0,0⟩)):=by
    rw [<-hcl2];exact ⟨hlb.1,fun i t xs x1 x2=>((hlb.2 i t xs x1 x2).ext hB79).base (by show base<=w6.heap.size;omega)⟩
   have hfresh:∀k,q.blk=some k->w6.heap.size<=k:=fun k hk=>by have:=(ho9.lt k hk).1;omega
   have hrow:=ho9.base (base':=base) (by omega);have hlines:=((hl9.take (min S.rows rows)).drop 0).append (hlb9.append (Lines.nil w9 base));rw [qae];refine qah h9.blk (by simp) fun w10 hb10 hg10 hs10=>?_;have hqne:∀k,q.blk=some k->k≠f6.g/\k≠f6.r/\f6.rs.blk≠some k:=fun k hk=>by
    have hk':=hfresh k hk;refine ⟨fun e=>?_,fun e=>?_,fun e=>?_⟩
    ·have:=(h6.below k (.inl e)).2;omega
    ·have:=(h6.below k (.inr (.inl e))).2;omega
    ·have:=(h6.below k (.inr (.inr (.inr e)))).2;omega
   have h10:=h9.newBlk (rows:=S2.rows) (cols:=S2.cols) (top:=S2.top) hrow hlines hqne hb10 hg10;rw [qae];refine qah h10.blk (by simp) fun w11 hb11 hg11 hs11=>?_;obtain ⟨ls10,ho10,hl10⟩:=h10.row;have h11:=h10.newBlk (rows:=rows) (cols:=S2.cols) (top:=S2.top) ho10 hl10 h10.rowNe hb11 hg11;refine hK { f6 with ls:=q } w11 ?_ ?_ ?_
   ·have e:S2.L.take rows++List.replicate (rows-S.rows) (newL cols ⟨0,0,0⟩)=List.drop 0 (List.take (min S.rows rows) S2.L)++(List.replicate ((rows:Int)-S.rows).toNat (newL cols ⟨0,0,0⟩)++[]):=by
     rw [drop_zero,append_nil,show ((rows:Int)-S.rows).toNat=rows-S.rows by omega];congr 1;rcases Nat.le_total S.rows rows with hh | hh
     ·rw [Nat.min_eq_left hh,List.take_of_length_le (by omega),List.take_of_length_le (by omega)]
     ·rw [Nat.min_eq_right hh]
    rw [e];exact h11
   ·exact ⟨hf6.g,hf6.r,.inr fun k hk=>by have:=hfresh k hk;omega,hf6.rs⟩
   ·have hold:=hf6.old;have c10:Chg (gridS f) w w10:=(hc6.trans (Chg.of_ext (S:=gridS f) hB69) fun i _ hi=>hi).trans (Chg.gg hg10) fun i _ hi=>.inl (by rw [hi,hg6]);exact c10.trans (Chg.gg hg11) fun i _ hi=>.inl (by rw [hi,hg6]))
  refine cO (fun hr=>?_) (fun hr=>?_)
  ·have hr:=oTq hr;rw [if_pos hr] at main;refine lI (x:=(S.rows:Int)) (h5.blk.cells 1 _ rfl) ?_;rw [w64i (x:=row+1) (by omega),w64i (x:=row+1-(rows:Int)) (by omega),w64i (x:=(rows:Int)-1) (by omega)];refine q0l h5 hL1 hrows hmost (by omega) (by omega) fun f6 w6 h6 hf6 hc6=>?_;refine main f6 w6 ?_ ((Foot.to.refl f w.heap.size).trans hf6 hS5) (hc5.trans hc6 fun i _ hi=>hi);rw [qb6,if_pos hr];exact h6
  ·have hr:=oFq hr;rw [if_neg hr] at main;refine main f w5 ?_ (Foot.to.refl _ _) hc5;rw [qb6,if_neg hr];exact h5
end
section
variable {w:World} {base:Nat} {f:Foot} {S:GS}
theorem qcm {C:Cx} {g:Nat} {first cap:Array Value} {args:List Value} {ks:List Kind} {w:World} {K:Go.Vc.Cur ks} (hp:C.plain g=true) (h:callP C.P g (first.toList++args++cap.toList) ks w K) :
  callR C (.func (.func g) first cap) args ks w K:=by
 unfold callR qxe;simp only [hp];exact h
theorem zhi:C.plain qjd=true:=by kernel_rfl
theorem zc8 {l:Slc} {xs:List Cell} {b0 b1 b2:Nat} {from_ to:Int} {a:Attr} {K:Slc->World->Prop} (hl:Rd cellE w l xs) (hxl:xs.length<=10000) (h0:Blk w b0 qbz [.int .i64 from_]) (h1:Blk w b1 qbz [.int .i64 to]) (h2:Blk w b2 qa4 (qac.rep.cells a))
  (hK:∀s w',Go.Vc.Own cellE w' w.heap.size s (eraP xs from_ to a)->Below w.heap.size w w'->K s w') :
  callR C (.func (.func qjd) #[] #[.pointer (some ⟨b0,0,none⟩),.pointer (some ⟨b1,0,none⟩),.pointer (some ⟨b2,0,none⟩)]) [.slice l.a l.n l.c] [Kind.slice] w K:=by
 have h:qq5 l ⟨b0,0,none⟩ ⟨b1,0,none⟩ ⟨b2,0,none⟩ w K:=by
  refine qw0 _ _ _ _ ?_;unfold qpr;refine lI (x:=from_) (by simpa using h0.cells 0 _ rfl) ?_;refine lI (x:=to) (by simpa using h1.cells 0 _ rfl) ?_;refine qaq (x:=a) h2.cells ?_;exact zcx hl hxl hK
 refine qcm zhi (Calls.mono h ?_);rintro e w' ⟨r,rfl,hk⟩;exact ⟨r,rfl,hk⟩
theorem zcn {row from_ to:Int} {a:Attr} {K:Bool->World->Prop} (h:GridM w base f S) (hL:S.L.length=S.rows) (hw:∀xs∈S.L,xs.length<=10000) (hbase:base<=w.heap.size)
  (hK1:∀w',(0<=row/\row<S.rows)->GridM w' base f { S with L:=S.L.set row.toNat (qa6 (eraP (S.L.getD row.toNat []) from_ to a) S.cols) }->Chg (gridS f) w w'->K true w')
  (hK2:∀w',¬(0<=row/\row<S.rows)->Below w.heap.size w w'->K false w'):qit (some ⟨f.g,0,none⟩) row from_ to a w K:=by
 refine qzs _ _ _ _ _ ?_;unfold qsb;refine nwb fun w1 hb1 hB1 hs1=>?_;refine nwb fun w2 hb2 hB2 hs2=>?_;refine nwb fun w3 hb3 hB3 hs3=>?_;have hB03:Below w.heap.size w w3:=hB1.trans ((hB2.trans (hB3.mono hB2.size)).mono hB1.size);have h3:=h.ext hB03;have hb1':=(hb1.ext hB2).ext hB3;have hb2':=hb2.ext hB3;refine qnq _ _ _ ?_;unfold qje;simp only [onPtr_some];refine jpO fun J hJ=>?_;refine qha h3 ?_;by_cases hr:0<=row/\row<(S.rows:Int)
 ·rw [dTq hr];refine cT rfl ?_;refine lSl (x:=f.ls) (h3.drew.blk.cells 3 _ rfl) ?_;refine lSl (x:=f.ls) (h3.drew.blk.cells 3 _ rfl) ?_;obtain ⟨ls,ho,hl⟩:=h3.row;have hll:=hl.1;refine ho.drew.rd.ix rfl hr.1 (by omega) fun hc=>?_;have hlk:ls[row.toNat]?=some (ls[row.toNat]'(by omega)):=List.getElem?_eq_getElem _;have hxk:S.L[row.toNat]?=some (S.L[row.toNat]'(by omega)):=List.getElem?_eq_getElem _;refine lSl (x:=ls[row.toNat]'(by omega)) (by simpa using hc 0 _ rfl) ?_;refine lI (x:=(S.cols:Int)) (h3.drew.blk.cells 2 _ rfl) ?_;have hwk:=hw _ (List.mem_of_getElem? hxk);refine zc8 (hl.2 _ _ _ hlk hxk).drew.rd hwk hb1'.drew hb2'.drew hb3.drew fun t w4 ht hB4=>?_;have hB34:Below w3.heap.size w3 w4:=(Below.refl _ w3).drew.trans hB4;have h4:=h3.ext hB34;refine ⟨h4.blk.cells 2 _ rfl,h4.blk.cells 3 _ rfl,?_⟩;refine qqe ht.rd (by rw [zai];exact hwk) fun u w5 hu hB5=>?_;have hB35:Below w3.heap.size w3 w5:=hB34.trans (hB5.mono hB34.size);have h5:=h3.ext hB35;refine ⟨h5.blk.cells 3 _ rfl,?_⟩;have ho5:=ho.ext hB35;have hs0:=hB03.size;have hs4:=hB34.size;refine ho5.rd.ix rfl hr.1 (by omega) fun _=>?_;refine ho5.st0 (x:=ls[row.toNat]'(by omega)) hlk (y:=u) rfl fun w6 ho6 hg6 hs6=>?_;obtain ⟨h6,hc6⟩:=h5.setLine (i:=row.toNat) (hl.ext hB35) (hu.base (by omega)) ho6 hg6;refine hJ _ _ (qha h6 ?_);rw [dTq hr];refine hK1 w6 hr ?_ ((Chg.of_ext (S:=gridS f) (hB03.trans (hB35.mono hs0))).trans hc6 fun i _ hi=>.inr (.inr (.inl hi)));rw [List.getD_eq_getElem?_getD,hxk];exact h6
 ·rw [dFq hr];refine cF rfl (hJ _ _ (qha h3 ?_));rw [dFq hr];exact hK2 w3 hr hB03
end
def keysF:Int->List Bool->List (Int×Unit)
 | _,[]=>[]
 | i,b::r=>if b then (i,())::keysF (i+1) r else keysF (i+1) r
def keysB (B:List Bool):List (Int×Unit):=keysF 0 B
theorem q0y:∀{B:List Bool} {i a:Int} {u:Unit},(a,u)∈keysF i B↔∃j:Nat,a=i+j/\B[j]?=some true
 | [],i,a,u=>by simp [keysF]
 | b::r,i,a,u=>by
  have ih:=q0y (B:=r) (i:=i+1) (a:=a) (u:=u);have key:(∃j:Nat,a=i+1+j/\r[j]?=some true)↔∃j:Nat,a=i+((j+1:Nat):Int)/\(b::r)[j+1]?=some true:=by
   simp only [List.getElem?_cons_succ];constructor
   ·rintro ⟨j,h,h'⟩;exact ⟨j,by omega,h'⟩
   ·rintro ⟨j,h,h'⟩;exact ⟨j,by omega,h'⟩
  rw [keysF];cases b with
  | true =>
   rw [if_pos rfl,List.mem_cons,ih,key];constructor
   ·rintro (h | ⟨j,h,h'⟩)
    ·exact ⟨0,by cases h;simp,rfl⟩
    ·exact ⟨j+1,h,h'⟩
   ·rintro ⟨j,h,h'⟩;cases j with
    | zero=>exact .inl (by rw [h];simp)
    | succ j=>exact .inr ⟨j,h,h'⟩
  | false =>
   rw [if_neg (by simp),ih,key];constructor
   ·rintro ⟨j,h,h'⟩;exact ⟨j+1,h,h'⟩
   ·rintro ⟨j,h,h'⟩;cases j with
    | zero=>simp at h'
    | succ j=>exact ⟨j,h,h'⟩
theorem q1h:∀(B:List Bool) (i:Int),Srt (keysF i B)
 | [],i=>.nil
 | b::r,i=>by
  rw [keysF];cases b with
  | true =>
   rw [if_pos rfl];refine List.pairwise_cons.2 ⟨fun p hp=>?_,q1h r (i+1)⟩;obtain ⟨a,u⟩:=p;obtain ⟨j,h,_⟩:=q0y.1 hp;show i<a;omega
  | false=>rw [if_neg (by simp)];exact q1h r (i+1)
theorem qfj {B:List Bool} {a:Int} {u:Unit}:(a,u)∈keysB B↔∃j:Nat,a=j/\B[j]?=some true:=by
 unfold keysB;rw [q0y];simp
theorem qb9 (B:List Bool):Srt (keysB B):=q1h B 0
theorem qna {L M:List (Int×Unit)} (h:Srt L) (h':Srt M) (hm:∀a,(a,())∈L↔(a,())∈M):L=M:=by
 have hp:L.Perm M:=(List.perm_ext_iff_of_nodup h.nodup h'.nodup).2 fun p=>by obtain ⟨a,u⟩:=p;exact hm a
 refine hp.eq_of_pairwise (le:=fun p q:Int×Unit=>p.1<=q.1) (fun a b _ _ h1 h2=>?_) (h.imp fun h=>Int.le_of_lt h) (h'.imp fun h=>Int.le_of_lt h);obtain ⟨a,u⟩:=a;obtain ⟨b,v⟩:=b;have:a=b:=Int.le_antisymm h1 h2;subst this;rfl
def qn1 (B:List Bool) (k:Int):Bool:=decide (0<=k) && ((B[k.toNat]?).getD false)
theorem qsf {B:List Bool} {k:Int}:qn1 B k=true↔∃j:Nat,k=j/\B[j]?=some true:=by
 unfold qn1;rw [Bool.and_eq_true,decide_eq_true_eq];constructor
 ·rintro ⟨h0,h⟩;refine ⟨k.toNat,by omega,?_⟩;cases hb:B[k.toNat]? with
  | none=>rw [hb] at h;cases h
  | some b=>rw [hb] at h;exact congrArg some h
 ·rintro ⟨j,rfl,h⟩;refine ⟨by omega,?_⟩;rw [show ((j:Int)).toNat=j by omega,h];rfl
theorem zfi (B:List Bool) (k:Int):(lookL (keysB B) k).isSome=qn1 B k:=by
 cases hl:lookL (keysB B) k with
 | some u =>
  have:=qfj.1 ((qsx (qb9 B)).1 hl);rw [qsf.2 this];rfl
 | none =>
  cases hs:qn1 B k with
  | false=>rfl
  | true =>
   have:=(qsx (qb9 B)).2 (qfj.2 (qsf.1 hs):(k,())∈_);rw [this] at hl;cases hl
theorem zgk {B:List Bool} {k:Nat} (hk:k<B.length):putL' (keysB B) (k:Int) ()=keysB (B.set k true):=by
 refine qna (quf (qb9 B) _ _) (qb9 _) fun a=>?_;rw [qyn (qb9 B),qfj,qfj];constructor
 ·rintro (⟨rfl,_⟩ | ⟨hne,j,rfl,h⟩)
  ·exact ⟨k,rfl,by simp [hk]⟩
  ·exact ⟨j,rfl,by rw [List.getElem?_set_ne (fun e=>hne (by rw [e]))];exact h⟩
 ·rintro ⟨j,rfl,h⟩;by_cases e:k=j
  ·exact .inl ⟨by rw [e],rfl⟩
  ·rw [List.getElem?_set_ne e] at h;exact .inr ⟨by omega,j,rfl,h⟩
theorem zg5 {B:List Bool} {k:Nat}:Go.Vc.delL (keysB B) (k:Int)=keysB (B.set k false):=by
 refine qna (q3k (qb9 B) _) (qb9 _) fun a=>?_;rw [q3x,qfj,qfj];constructor
 ·rintro ⟨hne,j,rfl,h⟩;exact ⟨j,rfl,by rw [List.getElem?_set_ne (fun e=>hne (by rw [e]))];exact h⟩
 ·rintro ⟨j,rfl,h⟩;by_cases e:k=j
  ·subst e;rw [List.getElem?_set] at h;split at h
   ·split at h
    ·cases h
    ·cases h
   ·rename_i hh;exact absurd rfl hh
  ·rw [List.getElem?_set_ne e] at h;exact ⟨by omega,j,rfl,h⟩
theorem zgf {B:List Bool} {k:Int} (h:qn1 B k=false):Go.Vc.delL (keysB B) k=keysB B:=by
 refine qna (q3k (qb9 B) _) (qb9 _) fun a=>?_;rw [q3x];constructor
 ·rintro ⟨_,h⟩;exact h
 ·intro h';refine ⟨fun e=>?_,h'⟩;subst e;rw [qsf.2 (qfj.1 h')] at h;cases h
def dflt (j:Nat):Bool:=decide (0<j) && decide (j%8=0)
def resz (B:List Bool) (n:Nat):List Bool:=(List.range n).map fun j=>(B[j]?).getD (dflt j)
@[simp] theorem resz_length (B:List Bool) (n:Nat):(resz B n).length=n:=by simp [resz]
theorem q30 {B:List Bool} {n j:Nat}:(resz B n)[j]?=if j<n then some ((B[j]?).getD (dflt j)) else none:=by
 unfold resz;rw [List.getElem?_map];by_cases h:j<n
 ·rw [if_pos h,List.getElem?_range h];rfl
 ·rw [if_neg h,List.getElem?_eq_none (by simpa using h)];rfl
theorem ze8 (B:List Bool):resz B B.length=B:=by
 refine List.ext_getElem? fun j=>?_;rw [q30];split
 ·rename_i h;rw [List.getElem?_eq_getElem h];rfl
 ·rename_i h;rw [List.getElem?_eq_none (by omega)]
theorem qmj {B:List Bool} {n:Nat} {a:Int} {u:Unit}:(a,u)∈keysB (resz B n)↔∃j:Nat,a=j/\j<n/\(B[j]?).getD (dflt j)=true:=by
 rw [qfj];constructor
 ·rintro ⟨j,h,h'⟩;rw [q30] at h';split at h'
  ·rename_i hj;exact ⟨j,h,hj,by simpa using h'⟩
  ·cases h'
 ·rintro ⟨j,h,hj,h'⟩;exact ⟨j,h,by rw [q30,if_pos hj,h']⟩
theorem zga {B:List Bool} (h:B.length<=1):keysB (resz B 1)=keysB B:=by
 refine qna (qb9 _) (qb9 _) fun a=>?_;rw [qmj,qfj];constructor
 ·rintro ⟨j,rfl,hj,h'⟩;obtain rfl:j=0:=by omega
  refine ⟨0,rfl,?_⟩;cases hb:B[0]? with
  | none=>rw [hb] at h';cases h'
  | some b=>rw [hb] at h';exact congrArg some h'
 ·rintro ⟨j,rfl,h'⟩;have:j<B.length:=(List.getElem?_eq_some_iff.1 h').1;exact ⟨j,rfl,by omega,by rw [h'];rfl⟩
theorem q60 {B:List Bool} {n:Nat} (h:B.length<=n):(dflt n=true->putL' (keysB (resz B n)) (n:Int) ()=keysB (resz B (n+1)))/\(dflt n=false->keysB (resz B n)=keysB (resz B (n+1))):=by
 have hn:B[n]?=none:=List.getElem?_eq_none h;constructor
 ·intro hd;refine qna (quf (qb9 _) _ _) (qb9 _) fun a=>?_;rw [qyn (qb9 _),qmj,qmj];constructor
  ·rintro (⟨rfl,_⟩ | ⟨hne,j,rfl,hj,h'⟩)
   ·exact ⟨n,rfl,by omega,by rw [hn];exact hd⟩
   ·exact ⟨j,rfl,by omega,h'⟩
  ·rintro ⟨j,rfl,hj,h'⟩;by_cases e:j=n
   ·exact .inl ⟨by rw [e],rfl⟩
   ·exact .inr ⟨by omega,j,rfl,by omega,h'⟩
 ·intro hd;refine qna (qb9 _) (qb9 _) fun a=>?_;rw [qmj,qmj];constructor
  ·rintro ⟨j,rfl,hj,h'⟩;exact ⟨j,rfl,by omega,h'⟩
  ·rintro ⟨j,rfl,hj,h'⟩;refine ⟨j,rfl,?_,h'⟩;have:j≠n:=fun e=>by subst e;rw [hn] at h';rw [show (none:Option Bool).getD (dflt j)=dflt j from rfl,hd] at h';cases h'
   omega
theorem zgv {B:List Bool} {n m:Nat} (h:n<=m):(keysB (resz B m)).filter (fun p=>decide (p.1<(n:Int)))=keysB (resz B n):=by
 refine qna ((qb9 _).filter _) (qb9 _) fun a=>?_;rw [List.mem_filter,qmj,qmj];constructor
 ·rintro ⟨⟨j,rfl,hj,h'⟩,hlt⟩;have:=oTq hlt;exact ⟨j,rfl,by simp at this;omega,h'⟩
 ·rintro ⟨j,rfl,hj,h'⟩;exact ⟨⟨j,rfl,by omega,h'⟩,by simp;omega⟩
def keysI (B:List Bool):List Int:=(keysB B).map (·.1)
def nearB (B:List Bool) (col:Int):Int:=min (max col 0) ((B.length:Int)-1)
def inB (B:List Bool) (col:Int):Bool:=decide (0<=col) && decide (col<B.length)
def nth (ks:List Int) (n d:Int):Int:=(ks[(n-1).toNat]?).getD d
def nextB (B:List Bool) (col n:Int):Int:=if n<1\/inB B col=false then nearB B col else nth ((keysI B).filter fun k=>decide (col<k)) n ((B.length:Int)-1)
def backB (B:List Bool) (col n:Int):Int:=if n<1\/inB B col=false then nearB B col else nth ((keysI B).reverse.filter fun k=>decide (k<col)) n 0
def scan (p:Int->Bool) (d:Int):List Int->Int->Int
 | [],_=>d
 | k::r,n=>if p k then (if n=1 then k else scan p d r (n-1)) else scan p d r n
theorem qte (p:Int->Bool) (d:Int):∀(ks:List Int) (n:Int),1<=n->scan p d ks n=nth (ks.filter p) n d
 | [],n,h=>by simp [scan,nth]
 | k::r,n,h=>by
  rw [scan,List.filter_cons];split
  ·split
   ·rename_i e;subst e;simp [nth]
   ·rename_i e;rw [qte p d r (n-1) (by omega)];unfold nth;rw [show (n-1).toNat=(n-1-1).toNat+1 by omega,List.getElem?_cons_succ]
  ·exact qte p d r n h
theorem ncond {B:List Bool} {c n:Int} (h:1<=n) (h':inB B c=true):¬(n<1\/inB B c=false):=fun hh=>hh.elim (fun e=>by omega) fun e=>by rw [h'] at e;cases e
theorem zhc {B:List Bool} {c n:Int} (h:1<=n) (h':inB B c=true):nextB B c n=nth ((keysI B).filter fun k=>decide (c<k)) n ((B.length:Int)-1):=if_neg (ncond h h')
theorem zbg {B:List Bool} {c n:Int} (h:1<=n) (h':inB B c=true):backB B c n=nth ((keysI B).reverse.filter fun k=>decide (k<c)) n 0:=if_neg (ncond h h')
end Go.Proofs.YtcigiaecigedmaaGreatDoor
set_option maxRecDepth 100000
namespace Go.Proofs
open Go.RowKit Go.Maps Go.Sort Go.Shelf Go.Vc
def Tryz.keysB_ren:Go.Shelf.Ren:=⟨fun | 7=>221 | 10=>306 | n=>n,fun | 23=>154 | 26=>3 | 3=>4 | 28=>77 | 0=>0 | 27=>76 | 33=>139 | 4=>4 | n=>n,fun | n=>n⟩
theorem Tryz.keysB:Go.Proofs.SlLaysZI.n7 Tryz.prog Tryz.keysB_ren:={
 mixed:=by kernel_rfl
 f7:=⟨Tryz.f221.name,by decide,Tryz.func221.trans (congrArg some (by kernel_rfl))⟩
 f10:=⟨Tryz.f306.name,by decide,Tryz.func306.trans (congrArg some (by kernel_rfl))⟩
 t0:=Tryz.underlying0
 a0:=Tryz.isAgg0
 z0:=Tryz.sizeOf0
 v0:=Tryz.zeroValue0
 t4:=Tryz.underlying4
 a4:=Tryz.isAgg4
 z4:=Tryz.sizeOf4
 v4:=Tryz.zeroValue4
 t23:=Tryz.underlying154
 a23:=Tryz.isAgg154
 z23:=Tryz.sizeOf154
 v23:=Tryz.zeroValue154
 t26:=Tryz.underlying3
 a26:=Tryz.isAgg3
 z26:=Tryz.sizeOf3
 v26:=Tryz.zeroValue3
 t27:=Tryz.underlying76
 a27:=Tryz.isAgg76
 z27:=Tryz.sizeOf76
 v27:=Tryz.zeroValue76
 t28:=Tryz.underlying77
 a28:=Tryz.isAgg77
 z28:=Tryz.sizeOf77
 v28:=Tryz.zeroValue77
 t33:=Tryz.underlying139
 a33:=Tryz.isAgg139
 z33:=Tryz.sizeOf139
 v33:=Tryz.zeroValue139 }
namespace YtcigiaecigedmaaGreatDoor
section
variable {V:Type} {enc:V->Value} {w:World} {r:Nat} {L:List (Int×V)}
theorem q9r (hM:MapM enc w r L) (hl:L.length<=maxLen) {B:Nat} (hB:w.cell? ⟨B,0,none⟩=some (.map (some r))) (n:Nat) (hn:1<=n) :
  SeqGives Fence.wide n Tryz.prog 306 #[.pointer (some ⟨B,0,none⟩)] encZ (fun ss=>ss.Perm (L.map (·.1))) L.length w:=by
 obtain ⟨E,c,hE,hp,hs⟩:=hM;have hlen:=q6a hp;obtain ⟨D0,hD,hsz,hpk⟩:=zbh hE (by omega);have hBl:B<w.heap.size:=by
  unfold World.cell? at hB;cases h:w.heap[B]? with
  | none=>rw [h] at hB;cases hB
  | some o=>exact (Array.getElem?_eq_some_iff.1 h).1
 have h:=AnyZI.keys_gives (ρ:=Tryz.keysB_ren) { Tryz.keysB with } Fence.wide n trivial rfl hn B r E.length D0 w hBl hB hD;rw [hsz,hlen] at h;have hpp:(E.map (·.k)).Perm (L.map (·.1)):=by
  have:=hp.map (·.1);unfold pairs at this
  rwa [List.map_map] at this
 intro l J W hW hJ hY h0;refine (h l J W hW hJ hY h0).mono ?_;rintro e W' ⟨hv,xs,hxs,hJx⟩;exact ⟨hv,xs,(hxs.trans hpk).trans hpp,hJx⟩
theorem q2e {m:Option Nat} {w:World} {K:Value->World->Prop}
  (hK:K (.func (.func 306) #[] #[.pointer (some ⟨w.heap.size,0,none⟩)]) (w.alloc (.cells #[.map m] 154))):qff m w K:=by
 have h:=callsIn_wide.1 (AnyZI.keys_in Tryz.keysB Fence.wide 5 trivial rfl m w);refine Calls.mono (R:=fun e w'=>e=.returned (.func (.func 306) #[] #[.pointer (some ⟨w.heap.size,0,none⟩)])/\w'=w.alloc (.cells #[.map m] 154)) h ?_;rintro e w' ⟨rfl,rfl⟩;exact ⟨_,rfl,hK⟩
theorem qzj {B:Nat} {K:Slc->World->Prop} (hM:MapM enc w r L) (hl:L.length<=1000000) (hB:w.cell? ⟨B,0,none⟩=some (.map (some r)))
  (hK:∀q w',Go.Vc.Own E_int w' w.heap.size q (L.map (·.1))->Below w.heap.size w w'->K q w'):qf4 (.func (.func 306) #[] #[.pointer (some ⟨B,0,none⟩)]) w K:=by
 have h:=callsIn_wide.1 (AnyZI.sorted_in Tryz.sortedA Fence.wide 5 trivial trivial trivial trivial rfl (by omega) (Tryz.sortsA _) (enters_of Tryz.func70 (by kernel_rfl) rfl) 306 #[.pointer (some ⟨B,0,none⟩)] trivial (enters_of Tryz.func306 (by kernel_rfl) rfl) _ L.length (by unfold maxLen;omega) (by omega) w (q9r hM (by unfold maxLen;omega) hB 2 (by omega)));refine Calls.mono h ?_;rintro e w' ⟨v,ss,rfl,hS,hrow,_,hb⟩;rw [q84 hM.srt hS] at hrow;rw [show ss.length=(L.map (·.1)).length from hS.length_eq] at hrow;obtain ⟨q,rfl,hq⟩:=q4u hrow;exact ⟨q,rfl,hK q w' hq hb⟩
end
end YtcigiaecigedmaaGreatDoor
end Go.Proofs
namespace Go.Proofs.YtcigiaecigedmaaGreatDoor
open Go.Vc Go.RowKit
set_option maxRecDepth 100000
open IntKind (i64)
open _root_.Nat (le_refl)
def encT:Unit->Value:=fun _=>.bool true
structure StopsM (w:World) (g r:Nat) (B:List Bool):Prop where
 blk:Blk w g qgk [.int .i64 (B.length:Int),.map (some r)]
 map:MapM encT w r (keysB B)
theorem tmapT:PG.underlying qas=some (.map qbz zbi):=by kernel_rfl
theorem tintT:PG.underlying qbz=some (.int .i64):=by kernel_rfl
theorem zfn:∀w,(zeroValue zbi).run PG w=.ok (.bool false) w:=Tryz.zeroValue4
theorem qb5 {a:Addr} {K:Addr->Prop} (h:K a):onPtr (some a) K:=h
theorem qxp {x:Int} (h:-9223372036854775808<=x/\x<=9223372036854775807):i64.wrap x=x:=w64i h
section
variable {w w':World} {g r:Nat} {B:List Bool}
theorem StopsM.keep {Sx:Nat->Prop} (h:StopsM w g r B) (hc:Chg Sx w w') (hg:¬Sx g) (hr:¬Sx r):StopsM w' g r B:=⟨h.blk.chg hc hg,h.map.chg hc hr⟩
theorem StopsM.ext (h:StopsM w g r B) (hb:Below w.heap.size w w'):StopsM w' g r B:=⟨h.blk.ext hb,h.map.ext hb⟩
theorem StopsM.ne (h:StopsM w g r B):r≠g:=h.map.ne_blk h.blk
theorem q1o (B:List Bool):(keysB B).length<=B.length:=by
 unfold keysB;have:∀(B:List Bool) (i:Int),(keysF i B).length<=B.length:=by
  intro B
  induction B with
  | nil=>intro i;simp [keysF]
  | cons b r ih =>
   intro i;rw [keysF];have:=ih (i+1);split<;>simp<;>omega
 exact this B 0
theorem qt2 (h:StopsM w g r B) (col:Int) {K:Bool->World->Prop} (hK:K (inB B col) w):qgq (some ⟨g,0,none⟩) col w K:=by
 refine q0v _ _ ?_;unfold qul;unfold inB at hK;refine cO (fun h0=>?_) fun h0=>?_
 ·refine qb5 (lI (x:=(B.length:Int)) (h.blk.cells 0 _ rfl) ?_);rw [show decide (0<=col)=true from h0] at hK;exact hK
 ·rw [show decide (0<=col)=false from h0] at hK;exact hK
theorem q47 (h:StopsM w g r B) (hl:B.length<=1000) (col:Int) {K:Int->World->Prop} (hK:K (nearB B col) w):qln (some ⟨g,0,none⟩) col w K:=by
 refine qyo _ _ ?_;unfold qq8;refine qb5 (lI (x:=(B.length:Int)) (h.blk.cells 0 _ rfl) ?_);rw [qxp (by omega)];have e:(if (B.length:Int)-1<(if (0:Int)>col then (0:Int) else col) then (B.length:Int)-1 else (if (0:Int)>col then (0:Int) else col))=nearB B col:=by
  unfold nearB;split<;>split at *<;>omega
 rw [e];exact hK
theorem q6c (h:StopsM w g r B) (hl:B.length<=1000) {K:Slc->World->Prop}
  (hK:∀q w',Go.Vc.Own E_int w' w.heap.size q (keysI B)->Below w.heap.size w w'->K q w'):qfx (some ⟨g,0,none⟩) w K:=by
 refine qpt _ ?_;unfold qll;refine qb5 (qef (x:=some r) (h.blk.cells 1 _ rfl) (q2e ?_));have hB:Below w.heap.size w (w.alloc (.cells #[.map (some r)] 154)):=(Below.refl _ w).alloc (le_refl _) _;have hs:(w.alloc (.cells #[.map (some r)] 154)).heap.size=w.heap.size+1:=by show (w.heap.push _).size=_;simp
 have hb:Blk (w.alloc (.cells #[.map (some r)] 154)) w.heap.size 154 [.map (some r)]:=Blk.new w 154 [.map (some r)];have:=q1o B;refine qzj (h.map.ext hB) (by omega) (hb.cell 0 rfl) fun q w' hq hB'=>?_;exact hK q w' (hq.base (by omega)) (hB.trans (hB'.mono (by omega)))
def setB (B:List Bool) (col:Int) (b:Bool):List Bool:=if inB B col then B.set col.toNat b else B
@[simp] theorem setB_length (B:List Bool) (col:Int) (b:Bool):(setB B col b).length=B.length:=by unfold setB;split<;>simp
theorem zbn {col:Int} (h:inB B col=true):∃k:Nat,col=k/\k<B.length:=by
 unfold inB at h;simp at h;exact ⟨col.toNat,by omega,by omega⟩
theorem zet {col:Int} (h:inB B col=false):qn1 B col=false:=by
 cases hs:qn1 B col with
 | false=>rfl
 | true =>
  obtain ⟨j,rfl,hj⟩:=qsf.1 hs;have:=(List.getElem?_eq_some_iff.1 hj).1;unfold inB at h;simp at h;omega
theorem StopsM.put (h:StopsM w g r B) (B':List Bool) (hl:B'.length=B.length) (hc:Chg (fun k=>k=r) w w') (hm:MapM encT w' r (keysB B')):StopsM w' g r B' :=
 ⟨by rw [hl];exact h.blk.chg hc (fun e=>h.ne e.symm),hm⟩
theorem q2x {L:List (Int×Unit)} (h:MapM encT w r L) {col:Int} (hc:-9223372036854775808<=col/\col<=9223372036854775807) {K:Option Value->World->Prop}
  (hK:∀w',MapM encT w' r (putL' L col ())->Chg (fun k=>k=r) w w'->w'.heap.size=w.heap.size->K none w'):runU PG (Instr.mapUpdate qas (.map (some r)) (.int .i64 col) (.bool true)) w K:=by
 obtain ⟨w',h1,h2,h3,h4⟩:=h.update tmapT tintT hc ();exact ⟨w',h1,hK w' h2 h3 h4⟩
theorem q2s {L:List (Int×Unit)} (h:MapM encT w r L) (col:Int) {K:Value->World->Prop}
  (hK:∀v w',MapM encT w' r (Go.Vc.delL L col)->Chg (fun k=>k=r) w w'->w'.heap.size=w.heap.size->K v w'):runK1 PG (Builtin.delete_ #[qas,qbz] qs4 #[(.map (some r)),(.int .i64 col)]) Kind.raw w K:=by
 obtain ⟨w',h1,h2,h3,h4⟩:=h.delete tmapT tintT col qs4;exact ⟨.tuple #[],w',h1,hK _ w' h2 h3 h4⟩
theorem zd5 (h:StopsM w g r B) (hl:B.length<=1000) (col:Int) {K:Bool->World->Prop}
  (hK:∀w',StopsM w' g r (setB B col true)->Chg (fun k=>k=r) w w'->w'.heap.size=w.heap.size->K (inB B col) w'):qmk (some ⟨g,0,none⟩) col w K:=by
 refine qzw _ _ ?_;unfold qrz;refine jpO fun J hJ=>?_;refine qt2 h col ?_;refine cO (fun hi=>?_) fun hi=>?_
 ·obtain ⟨k,rfl,hk⟩:=zbn hi;refine qb5 (qef (x:=some r) (h.blk.cells 1 _ rfl) (q2x h.map (by omega) fun w' hm hc hs=>hJ _ _ ?_));have e:setB B k true=B.set k true:=by unfold setB;rw [if_pos hi,Int.toNat_natCast]
  have h':StopsM w' g r (setB B k true):=h.put _ (by simp) hc (by rw [e,<-zgk hk];exact hm);refine qt2 h' k ?_;have e2:inB (setB B k true) k=inB B k:=by unfold inB;rw [setB_length]
  rw [e2];exact hK w' h' hc hs
 ·refine hJ _ _ (qt2 h col (hK w ?_ (Chg.refl _ _) rfl));unfold setB;rw [if_neg (by rw [hi];simp)];exact h
theorem zat (h:StopsM w g r B) (col:Int) {K:Bool->World->Prop}
  (hK:∀w',StopsM w' g r (setB B col false)->Chg (fun k=>k=r) w w'->w'.heap.size=w.heap.size->K (qn1 B col) w'):qkg (some ⟨g,0,none⟩) col w K:=by
 refine qxw _ _ ?_;unfold qpi;refine qb5 (qef (x:=some r) (h.blk.cells 1 _ rfl) ?_);refine ⟨qn1 B col,w,?_,?_⟩
 ·rw [h.map.lookup tmapT tintT zfn col,<-zfi];cases lookL (keysB B) col<;>rfl
 ·refine qb5 (qef (x:=some r) (h.blk.cells 1 _ rfl) (q2s h.map col fun v w' hm hc hs=>hK w' ?_ hc hs));refine h.put _ (by simp) hc ?_;unfold setB;by_cases hi:inB B col=true
  ·obtain ⟨k,rfl,hk⟩:=zbn hi;rw [if_pos hi,Int.toNat_natCast,<-zg5];exact hm
  ·rw [if_neg hi,<-zgf (zet (by simpa using hi))];exact hm
theorem zes (n:Nat):keysB (List.replicate n false)=[]:=by
 cases h:keysB (List.replicate n false) with
 | nil=>rfl
 | cons p L =>
  obtain ⟨a,u⟩:=p;have hm:(a,u)∈keysB (List.replicate n false):=by rw [h];exact List.mem_cons_self
  obtain ⟨j,_,hj⟩:=qfj.1 hm;rw [List.getElem?_replicate] at hj;split at hj<;>simp at hj
theorem zcp (h:StopsM w g r B) {K:World->Prop}
  (hK:∀w',StopsM w' g r (List.replicate B.length false)->Chg (fun k=>k=r) w w'->w'.heap.size=w.heap.size->K w'):qlo (some ⟨g,0,none⟩) w K:=by
 refine qxz _ ?_;unfold qqr;refine qb5 (qef (x:=some r) (h.blk.cells 1 _ rfl) ?_);obtain ⟨w',h1,h2,h3,h4⟩:=h.map.clear tmapT qs4;exact ⟨.tuple #[],w',h1,hK w' (h.put _ (by simp) h3 (by rw [zes];exact h2)) h3 h4⟩
theorem q35 (h:StopsM w g r B) (hl:1<=B.length/\B.length<=1000) (col n:Int) (hnm:n<=9223372036854775807) {K:Int->World->Prop}
  (hK:∀w',Below w.heap.size w w'->K (nextB B col n) w'):qhe (some ⟨g,0,none⟩) col n w K:=by
 refine qy5 _ _ _ ?_;unfold qql;refine jpO fun J1 hJ1=>?_;refine jpO fun J3 hJ3=>?_;have hnear:(n<1\/inB B col=false)->J3 (true,()) w:=fun hc=>hJ3 _ _ (cT rfl (q47 h hl.2 col (by have:=hK w (Below.refl _ _);unfold nextB at this;rwa [if_pos hc] at this)));refine cO (fun hn=>hnear (.inl (oTq hn))) fun hn=>?_;have hn:=oFq hn;refine qt2 h col ?_;cases hi:inB B col with
 | false=>exact hnear (.inr hi)
 | true =>
  refine hJ3 _ _ (cF rfl (hJ1 _ _ ?_));refine q6c h hl.2 fun q w1 hq hB1=>?_;have hK1:=hK w1 hB1;rw [zhc (by omega) hi,<-qte _ _ _ _ (by omega)] at hK1;have hkl:=q1o B;have hlen:(keysI B).length=(keysB B).length:=by simp [keysI]
  refine lpR (fun (s:Int×Int×Unit) w2=>w2=w1/\∃k:Nat,s.2.1=k/\k<=(keysI B).length/\1<=s.1/\s.1<=n/\scan (fun k=>decide (col<k)) ((B.length:Int)-1) (keysI B) n=scan (fun k=>decide (col<k)) ((B.length:Int)-1) ((keysI B).drop k) s.1)
   (fun s=>(keysI B).length-s.2.1.toNat) ⟨rfl,0,rfl,Nat.zero_le _,by show 1<=n;omega,Int.le_refl _,rfl⟩ ?_
  rintro ⟨m,i,u⟩ _ ⟨rfl,k,hki,hk,hm1,hmn,hsc⟩ I hI;dsimp only at hki hm1 hmn hsc ⊢;subst hki;have hqn:=hq.rd.n;by_cases hlt:k<(keysI B).length
  ·refine cT (by simp;omega) ?_;refine hq.rd.ix (k:=1) rfl (by omega) (by omega) fun hcell=>?_;obtain ⟨x,hx,hx'⟩:=Go.Vc.get_of hlt;rw [hx' _] at hcell;refine lI (x:=x) (by simpa using hcell 0 _ rfl) ?_;have hd:(keysI B).drop k=x::(keysI B).drop (k+1):=by rw [List.drop_eq_getElem_cons hlt];congr 1;exact hx' hlt
   rw [hd,scan] at hsc;rw [qxp (x:=(k:Int)+1) (by omega),qxp (x:=m-1) (by omega)];refine cO (fun hle=>?_) fun hle=>?_
   ·have hle:=oTq hle;rw [if_neg (by simp;omega)] at hsc;exact hI _ _ ⟨rfl,k+1,by simp,by omega,hm1,hmn,hsc⟩ (by simp;omega)
   ·have hle:=oFq hle;rw [if_pos (by simp;omega)] at hsc;refine cO (fun hz=>?_) fun hz=>?_
    ·have hz:m-1=0:=by simpa using hz
     rw [if_pos (by omega)] at hsc;rw [hsc] at hK1;exact hK1
    ·have hz:¬m-1=0:=by simpa using hz
     rw [if_neg (by omega)] at hsc;exact hI _ _ ⟨rfl,k+1,by simp,by omega,by show 1<=m-1;omega,by show m-1<=n;omega,hsc⟩ (by simp;omega)
  ·refine cF (by simp;omega) ?_;rw [List.drop_of_length_le (by omega),scan] at hsc;rw [hsc] at hK1;refine qb5 (lI (x:=(B.length:Int)) ((h.ext hB1).blk.cells 0 _ rfl) ?_);rw [qxp (by omega)];exact hK1
end
section
variable {w w':World} {g r:Nat} {B:List Bool}
theorem zhd {x:Int} {L:List (Int×Unit)} (hb:Blk w g qgk [.int .i64 x,.map (some r)]) (hm:MapM encT w r L) (hl:L.length<=1000) {K:Slc->World->Prop}
  (hK:∀q w',Go.Vc.Own E_int w' w.heap.size q (L.map (·.1))->Below w.heap.size w w'->K q w'):qfx (some ⟨g,0,none⟩) w K:=by
 refine qpt _ ?_;unfold qll;refine qb5 (qef (x:=some r) (hb.cells 1 _ rfl) (q2e ?_));have hB:Below w.heap.size w (w.alloc (.cells #[.map (some r)] 154)):=(Below.refl _ w).alloc (le_refl _) _;have hs:(w.alloc (.cells #[.map (some r)] 154)).heap.size=w.heap.size+1:=by show (w.heap.push _).size=_;simp
 have hb:Blk (w.alloc (.cells #[.map (some r)] 154)) w.heap.size 154 [.map (some r)]:=Blk.new w 154 [.map (some r)];refine qzj (hm.ext hB) (by omega) (hb.cell 0 rfl) fun q w' hq hB'=>?_;exact hK q w' (hq.base (by omega)) (hB.trans (hB'.mono (by omega)))
theorem zhe {m:Nat} (h:1<=m):((m:Int).tmod 8==0)=dflt m:=by
 unfold dflt;rw [show ((m:Int).tmod 8)=((m%8:Nat):Int) by rw [Int.ofNat_tmod];rfl];rw [dTq (by omega),Bool.true_and];by_cases e:m%8=0
 ·rw [e];rfl
 ·rw [dFq e];simp;omega
theorem q0c (h:StopsM w g r B) (hl:B.length<=1000) (cols:Int) {K:Int->World->Prop} (hE:(cols<1\/1000<cols)->K 1 w)
  (hK:∀w',1<=cols->cols<=1000->StopsM w' g r (resz B cols.toNat)->Chg (fun k=>k=g\/k=r) w w'->K 0 w'):qf7 (some ⟨g,0,none⟩) cols w K:=by
 refine qv7 _ _ ?_;unfold qol;refine jpO fun J hJ=>?_;refine cO (fun h1=>hE (.inl (oTq h1))) fun h1=>?_;refine cO (fun h2=>hE (.inr (oTq h2))) fun h2=>?_;have h1:=oFq h1;have h2:=oFq h2;obtain ⟨n,rfl⟩:∃n:Nat,cols=n:=⟨cols.toNat,by omega⟩;rw [Int.toNat_natCast] at hK;refine hJ _ _ ?_;refine qb5 (lI (x:=(B.length:Int)) (h.blk.cells 0 _ rfl) ?_);refine lpR (fun (s:Int×Unit) w2=>∃m:Nat,s.1=m/\1<=m/\B.length<=m/\(m<=n\/m<=B.length\/m=1)/\Blk w2 g qgk [.int .i64 (B.length:Int),.map (some r)]/\MapM encT w2 r (keysB (resz B m))/\Chg (fun k=>k=r) w w2)
  (fun s=>n-s.1.toNat) ?_ ?_
 ·have hm0:∃m:Nat,(if (1:Int)>(B.length:Int) then (1:Int) else (B.length:Int))=m/\1<=m/\B.length<=m/\(m<=B.length\/m=1)/\keysB (resz B m)=keysB B:=by
   split
   ·exact ⟨1,rfl,le_refl _,by omega,.inr rfl,zga (by omega)⟩
   ·exact ⟨B.length,rfl,by omega,le_refl _,.inl (le_refl _),by rw [ze8]⟩
  obtain ⟨m,e,hm1,hm2,hm3,hm4⟩:=hm0;exact ⟨m,e,hm1,hm2,.inr hm3,h.blk,by rw [hm4];exact h.map,Chg.refl _ _⟩
 rintro ⟨i,u⟩ w2 ⟨m,hi,hm1,hm2,hm3,hb2,hmp2,hc2⟩ I hI;dsimp only at hi ⊢;subst hi;have hne:=hmp2.ne_blk hb2;by_cases hlt:m<n
 ·refine cT (by simp;omega) ⟨by decide,?_⟩;rw [zhe hm1,qxp (by omega)];refine cO (fun hd=>?_) fun hd=>?_
  ·refine qb5 (qef (x:=some r) (hb2.cells 1 _ rfl) (q2x hmp2 (by omega) fun w3 hm hc hs=>hI _ _ ⟨m+1,by simp,by omega,by omega,.inl (by omega),hb2.chg hc (fun e=>hne e.symm),?_,hc2.trans hc fun i _ hi=>hi⟩ (by simp;omega)));rw [<-(q60 hm2).1 hd];exact hm
  ·refine hI _ _ ⟨m+1,by simp,by omega,by omega,.inl (by omega),hb2,?_,hc2⟩ (by simp;omega);rw [<-(q60 hm2).2 hd];exact hmp2
 ·refine cF (by simp;omega) ?_;have hmle:(keysB (resz B m)).length<=1000:=by
   have:=q1o (resz B m);rw [resz_length] at this;omega
  refine zhd hb2 hmp2 hmle fun q w4 hq hB4=>?_;obtain ⟨P,hP⟩:∃P,keysB (resz B m)=P:=⟨_,rfl⟩;have hsP:Srt P:=by rw [<-hP];exact qb9 _
  rw [hP] at hmp2 hq hmle;have hcut:P.filter (fun p=>decide (p.1<(n:Int)))=keysB (resz B n):=by rw [<-hP];exact zgv (by omega)
  have hqn:=hq.rd.n;rw [List.length_map] at hqn;have hlt2:=hb2.lt;have hlr:=hmp2.lt;refine lpR (fun (s:Int×Unit) w5=>∃k:Nat,s.1=k/\k<=P.length/\Blk w5 g qgk [.int .i64 (B.length:Int),.map (some r)]/\Go.Vc.Own E_int w5 w2.heap.size q (P.map (·.1))/\Chg (fun k=>k=r) w2 w5 /\
    ∃L,MapM encT w5 r L/\∀a,(a,())∈L↔(a,())∈P/\(a<n\/a ∉ (P.map (·.1)).take k))
   (fun s=>P.length-s.1.toNat) ⟨0,rfl,Nat.zero_le _,hb2.ext hB4,hq,Chg.of_ext hB4,P,hmp2.ext hB4,fun a=>by simp⟩ ?_
  rintro ⟨i,u⟩ w5 ⟨k,hi,hk,hb5,hq5,hc5,L,hL,hmem⟩ I2 hI2;dsimp only at hi ⊢;subst hi;have hne5:=hL.ne_blk hb5;by_cases hlk:k<P.length
  ·refine cT (by simp;omega) ?_;refine hq5.rd.ix (k:=1) rfl (by omega) (by simp;omega) fun hcell=>?_;obtain ⟨x,hx,hx'⟩:=Go.Vc.get_of (xs:=P.map (·.1)) (k:=k) (by simpa using hlk);rw [hx' _] at hcell;refine lI (x:=x) (by simpa using hcell 0 _ rfl) ?_;have htk:(P.map (·.1)).take (k+1)=(P.map (·.1)).take k++[x]:=by rw [List.take_add_one,hx];rfl
   rw [qxp (by omega)];refine cO (fun hge=>?_) fun hge=>?_
   ·have hge:=oTq hge;refine qb5 (qef (x:=some r) (hb5.cells 1 _ rfl) (q2s hL x fun v w6 hm6 hc6 hs6=>hI2 _ _ ⟨k+1,by simp,by omega,hb5.chg hc6 (fun e=>hne5 e.symm),hq5.chg hc6 (fun j hj e=>?_),hc5.trans hc6 fun i _ hi=>hi,_,hm6,fun a=>?_⟩ (by simp;omega)))
    ·have:=(hq5.lt j hj).1;omega
    ·rw [q3x,hmem a,htk,List.mem_append,List.mem_singleton];constructor
     ·rintro ⟨hne,hp,ho⟩;exact ⟨hp,ho.imp id fun ho hh=>hh.elim ho hne⟩
     ·rintro ⟨hp,ho⟩;refine ⟨fun e=>?_,hp,ho.imp id fun ho hh=>ho (.inl hh)⟩;rcases ho with ho | ho
      ·omega
      ·exact ho (.inr e)
   ·have hge:=oFq hge;refine hI2 _ _ ⟨k+1,by simp,by omega,hb5,hq5,hc5,L,hL,fun a=>?_⟩ (by simp;omega);rw [hmem a,htk,List.mem_append,List.mem_singleton];constructor
    ·rintro ⟨hp,ho⟩;refine ⟨hp,?_⟩;by_cases e:a=x
     ·exact .inl (by omega)
     ·exact ho.imp id fun ho hh=>hh.elim ho e
    ·rintro ⟨hp,ho⟩;exact ⟨hp,ho.imp id fun ho hh=>ho (.inl hh)⟩
  ·refine cF (by simp;omega) (qb5 ?_);rw [add_zero];refine qah hb5 (by simp) fun w7 hb7 hg7 hs7=>?_;have hL':L=keysB (resz B n):=by
    rw [<-hcut];refine qna hL.srt (hsP.filter _) fun a=>?_;rw [hmem a,List.mem_filter,List.take_of_length_le (by simp;omega)];constructor
    ·rintro ⟨hp,ho⟩;refine ⟨hp,?_⟩;rcases ho with ho | ho
     ·simpa using ho
     ·exact absurd (List.mem_map.2 ⟨_,hp,rfl⟩) ho
    ·rintro ⟨hp,ho⟩;exact ⟨hp,.inl (by simpa using ho)⟩
   rw [hL'] at hL;refine hK w7 (by omega) (by omega) ⟨by rw [resz_length];exact hb7,hL.chg (Go.Vc.Chg.gg hg7) hne5⟩ ?_;exact ((q51 hc2 (S:=fun k=>k=g\/k=r) (.inr rfl)).trans (q51 hc5 (S:=fun k=>k=g\/k=r) (.inr rfl)) fun i _ hi=>hi).trans (q51 (Go.Vc.Chg.gg hg7) (S:=fun k=>k=g\/k=r) (.inl rfl)) fun i _ hi=>hi
theorem zfl (cols:Int) {w:World} {K:Option Addr->Int->World->Prop} (hE:∀w',Below w.heap.size w w'->(cols<1\/1000<cols)->K none 1 w')
  (hK:∀g r w',1<=cols->cols<=1000->w.heap.size<=g->w.heap.size<=r->StopsM w' g r (resz [] cols.toNat)->Below w.heap.size w w'->K (some ⟨g,0,none⟩) 0 w'):qxy cols w K:=by
 refine q63 _ ?_;unfold q3c nwM;have hB1:Below w.heap.size w (w.alloc (.map #[] 0)):=(Below.refl _ w).alloc (le_refl _) _;have hs1:(w.alloc (.map #[] 0)).heap.size=w.heap.size+1:=by show (w.heap.push _).size=_;simp
 refine nwb fun w2 hb2 hB2 hs2=>?_;have h2:StopsM w2 (w.alloc (.map #[] 0)).heap.size w.heap.size []:=⟨hb2,(MapM.new w).ext hB2⟩;have hB12:=hB1.trans (hB2.mono (by omega));refine q0c h2 (by simp) cols (fun hc=>cT rfl (hE w2 hB12 hc)) fun w3 h1 h2' h3 hc3=>cF rfl ?_;refine hK _ _ w3 h1 h2' (by omega) (le_refl _) h3 (hB12.trans (hc3.below (by omega) fun i hi e=>?_));rcases e with e | e<;>omega
end
end Go.Proofs.YtcigiaecigedmaaGreatDoor
namespace Go.Proofs.YtcigiaecigedmaaGreatDoor
open Go.RowKit Go.Shelf
open _root_.List (length_nil)
attribute [local go_sem] Oper.semAt_some
def upto {α:Type} (f:Nat->α) (k:Nat):List α:=(List.range k).map f
theorem q0n {α:Type} (f:Nat->α) (k:Nat):upto f (k+1)=upto f k++[f k]:=by simp [upto,List.range_succ]
theorem zaq {α:Type} (f:Nat->α) (k:Nat):(upto f k).length=k:=by simp [upto]
def bkf (zs:List Int) (len k:Nat):Int×Int:=((len:Int)-1-k,zs[len-1-k]?.getD 0)
structure Kp2 (Bs b:Nat) (A B:World):Prop where
 h1:B.heap[Bs]?=A.heap[Bs]?
 h2:B.heap[b]?=A.heap[b]?
theorem Kp2.refl (Bs b:Nat) (A:World):Kp2 Bs b A A:=⟨rfl,rfl⟩
theorem Kp2.trans {Bs b:Nat} {A B C:World} (h:Kp2 Bs b A B) (k:Kp2 Bs b B C):Kp2 Bs b A C:=⟨k.h1.trans h.h1,k.h2.trans h.h2⟩
theorem Kp2.box {Bs b:Nat} {A B:World} (h:Kp2 Bs b A B):B.cell? ⟨Bs,0,none⟩=A.cell? ⟨Bs,0,none⟩:=World.cell?_of_block h.h1
theorem Kp2.row {Bs b:Nat} {A B:World} (h:Kp2 Bs b A B) (i:Nat):B.cell? ⟨b,i,none⟩=A.cell? ⟨b,i,none⟩:=World.cell?_of_block h.h2
theorem Kp2.below {Bs b:Nat} {A B:World} (h:Below A.heap.size A B) (h1:Bs<A.heap.size) (h2:b<A.heap.size):Kp2 Bs b A B:=⟨h.block _ h1,h.block _ h2⟩
set_option maxRecDepth 100000 in
set_option maxHeartbeats 2000000 in
theorem zfz (F:Fence) (n:Nat) (h27:F.fn 418) (hro:F.round=none) (hn:1<=n) (l Bs b off len cap:Nat) (zs:List Int) (hreach:len<=1000000) (J Jx:List (Int×Int)->World->Prop)
  (hY:∀pre x W,J pre W->pre.length<len->YieldAt F (n-1) Tryz.prog l #[.int .i64 x.1,.int .i64 x.2] W fun e W' =>
   (e=.returned (.bool true)/\J (pre++[x]) W'/\Kp2 Bs b W W')\/(e=.returned (.bool false)/\Jx (pre++[x]) W'))
  (W:World) (hBs:W.cell? ⟨Bs,0,none⟩=some (.slice (some ⟨b,off,none⟩) len cap)) (hc:∀j,j<len->W.cell? ⟨b,off+j,none⟩=some (.int .i64 (zs[j]?.getD 0))) (h0:J [] W) :
  CallsIn F n Tryz.prog 418 #[.func (.yield l) #[] #[],.pointer (some ⟨Bs,0,none⟩)] W fun e W'=>(∃v,e=.returned v) /\
   ((∃ys,ys=upto (bkf zs len) len/\J ys W')\/(∃pre,(∃k,k<=len/\pre=upto (bkf zs len) k)/\Jx pre W')):=by
 refine callsIn_of_wp Tryz.func418 rfl h27 ?_ hro;simp only [Tryz.ntmps418,List.size_toArray,List.length_cons,length_nil,Nat.reduceAdd,Nat.reduceSub,Array.replicate_succ,Array.replicate_zero,List.push_toArray,List.append_toArray,List.nil_append,List.cons_append]
 gi_wp2
 gi_loopw [3] (fun i wr=>∃k:Nat,k<=len/\i=.int .i64 ((len:Int)-1-k)/\J (upto (bkf zs len) k) wr/\Kp2 Bs b W wr)
  (fun i _=>(intOf i+1).toNat)
 case atStart=>exact ⟨0,Nat.zero_le _,by simp,h0,Kp2.refl _ _ _⟩
 case round =>
  obtain ⟨k,hk,rfl,hJs,hnx⟩:=hrel;have hcx:k<len->wr.cell? ⟨b,off+(len-1-k),none⟩=some (.int .i64 (zs[len-1-k]?.getD 0)):=fun h=>(hnx.row (off+(len-1-k))).trans (hc _ (by omega));have hbx:wr.cell? ⟨Bs,0,none⟩=some (.slice (some ⟨b,off,none⟩) len cap):=hnx.box.trans hBs;by_cases hlt:k<len
  ·obtain ⟨m,hm⟩:∃m:Nat,len-1-k=m:=⟨_,rfl⟩;have hmi:(len:Int)-1-k=(m:Int):=by omega
   obtain ⟨fn,tmps,assign,body,hy,hR⟩:=hY _ ((m:Int),zs[m]?.getD 0) wr hJs (by rw [zaq];exact hlt);dsimp only at hy;have hcx':=hcx hlt;rw [hm] at hcx';have hml:m<len:=by omega
   rw [hmi];have hfx:bkf zs len k=((m:Int),zs[m]?.getD 0):=by unfold bkf;rw [hm,hmi]
   gi_wp2
   refine hR.mono ?_;rintro e W3 (⟨rfl,hJ3,hk3⟩ | ⟨rfl,hJx3⟩)
   ·gi_wp2
    go_roundw
    case rel=>exact ⟨k+1,by omega,by congr 1;omega,by rw [q0n,hfx];exact hJ3,hnx.trans hk3⟩
    case measure=>simp [intOf]
   ·gi_wp2
    refine bodyPost_ret (results_none rfl _ _ _) rfl ?_;exact ⟨⟨_,rfl⟩,.inr ⟨_,⟨k+1,by omega,by rw [q0n,hfx]⟩,hJx3⟩⟩
  ·obtain rfl:k=len:=by omega
   have e1:(k:Int)-1-k=-1:=by omega
   rw [e1]
   gi_wp2
   go_end0
   exact ⟨⟨_,rfl⟩,.inl ⟨_,rfl,hJs⟩⟩
set_option maxRecDepth 100000 in
set_option maxHeartbeats 1000000 in
theorem q80 (F:Fence) (n:Nat) (h27:F.fn 418) (hro:F.round=none) (l Bs:Nat) (J:List (Int×Int)->World->Prop) (W:World) (hBs:W.cell? ⟨Bs,0,none⟩=some (.slice none 0 0)) (h0:J [] W) :
  CallsIn F n Tryz.prog 418 #[.func (.yield l) #[] #[],.pointer (some ⟨Bs,0,none⟩)] W fun e W'=>(∃v,e=.returned v)/\J [] W':=by
 refine callsIn_of_wp Tryz.func418 rfl h27 ?_ hro;simp only [Tryz.ntmps418,List.size_toArray,List.length_cons,length_nil,Nat.reduceAdd,Nat.reduceSub,Array.replicate_succ,Array.replicate_zero,List.push_toArray,List.append_toArray,List.nil_append,List.cons_append]
 gi_wp2
 gi_loopw [3] (fun i wr=>i=.int .i64 (-1)/\J [] wr) (fun _ _=>0)
 case atStart=>exact ⟨rfl,h0⟩
 case round =>
  obtain ⟨rfl,hJs⟩:=hrel
  gi_wp2
  go_end0
  exact ⟨⟨_,rfl⟩,hJs⟩
set_option maxHeartbeats 1000000 in
theorem q99 (F:Fence) (n:Nat) (h23:F.fn 393) (hro:F.round=none) (a:Option Addr) (len cap:Nat) (w:World) :
  CallsIn F n Tryz.prog 393 #[.slice a len cap] w fun e w'=>e=.returned (.func (.func 418) #[] #[.pointer (some ⟨w.heap.size,0,none⟩)])/\w'=w.alloc (.cells #[.slice a len cap] 22):=by
 refine callsIn_of_wp Tryz.func393 rfl h23 ?_ hro;simp only [Tryz.ntmps393,List.size_toArray,List.length_cons,length_nil,Nat.reduceAdd,Nat.reduceSub,Array.replicate_succ,Array.replicate_zero,List.push_toArray,List.append_toArray,List.nil_append,List.cons_append]
 gi_wp2
 go_ret
 exact ⟨rfl,rfl⟩
def Ints (b:Nat) (W:World) (sv:Value) (zs:List Int):Prop :=
 (sv=.slice none 0 0/\zs=[])\/∃off cap,sv=.slice (some ⟨b,off,none⟩) zs.length cap/\∀j,j<zs.length->W.cell? ⟨b,off+j,none⟩=some (.int .i64 (zs[j]?.getD 0))
theorem Ints.keep {Bs b:Nat} {A B:World} (h:Kp2 Bs b A B) {sv:Value} {zs:List Int}:Ints b A sv zs->Ints b B sv zs
 | .inl e=>.inl e
 | .inr ⟨off,cap,e,hc⟩=>.inr ⟨off,cap,e,fun j hj=>(h.row _).trans (hc j hj)⟩
theorem zc5 (F:Fence) (n:Nat) (h27:F.fn 418) (hro:F.round=none) (hn:1<=n) (Bs b:Nat) (sv:Value) (zs:List Int) (hreach:zs.length<=1000000) (w:World) (hBs:Bs<w.heap.size) (hb:b<w.heap.size)
  (hc:w.cell? ⟨Bs,0,none⟩=some sv) (hI:Ints b w sv zs) :
  SeqStopsK F n Tryz.prog 418 #[.pointer (some ⟨Bs,0,none⟩)] (fun x:Int×Int=>#[Value.int .i64 x.1,Value.int .i64 x.2]) (Kp2 Bs b) (fun ys=>ys=upto (bkf zs zs.length) zs.length)
   (fun pre=>∃k,k<=zs.length/\pre=upto (bkf zs zs.length) k) zs.length w:=fun l J Jx W hW _ _ hY h0=>by
 have hk:=Kp2.below hW hBs hb;have hc':=hk.box.trans hc;rcases hI.keep hk with ⟨rfl,rfl⟩ | ⟨off,cap,rfl,hcs⟩
 ·exact (q80 F n h27 hro l Bs J W hc' h0).mono fun e W' ⟨he,hj⟩=>⟨he,.inl ⟨_,rfl,hj⟩⟩
 ·exact zfz F n h27 hro hn l Bs b off zs.length cap zs hreach J Jx hY W hc' hcs h0
end Go.Proofs.YtcigiaecigedmaaGreatDoor
namespace Go.Proofs.YtcigiaecigedmaaGreatDoor
open Go.Vc Go.RowKit Go.Shelf
set_option maxRecDepth 100000
open IntKind (i64)
open _root_.Nat (le_refl)
attribute [local go_sem] Oper.semAt_some
theorem zfv (p:Int->Bool) (d:Int) {n n':Int} {pre:List Int} {x:Int} (h:∀rest,scan p d (pre++rest) n=scan p d rest n') :
  (p x=false->∀rest,scan p d ((pre++[x])++rest) n=scan p d rest n')/\(p x=true->n'=1->∀rest,scan p d ((pre++[x])++rest) n=x)/\(p x=true->n'≠1->∀rest,scan p d ((pre++[x])++rest) n=scan p d rest (n'-1)):=by
 refine ⟨fun hp rest=>?_,fun hp hn rest=>?_,fun hp hn rest=>?_⟩<;>rw [List.append_assoc,h,List.singleton_append,scan,hp]
 ·rfl
 ·rw [if_pos rfl,if_pos hn]
 ·rw [if_pos rfl,if_neg hn]
theorem q05 (zs:List Int):∀k,k<=zs.length->(upto (bkf zs zs.length) k).map (·.2)=zs.reverse.take k
 | 0,_=>rfl
 | k+1,hk=>by
  rw [q0n,List.map_append,q05 zs k (by omega),List.take_add_one];congr 1;rw [List.getElem?_reverse (by omega)];unfold bkf;rw [List.getElem?_eq_getElem (by omega)];rfl
section
variable {w w':World} {g r:Nat} {B:List Bool}
def BkI (w:World) (col n:Int) (pre:List (Int×Int)) (W:World):Prop :=
 Below w.heap.size w W/\Boxed W w.heap.size 3 (.int .i64 col)/\(∃n',Boxed W (w.heap.size+1) 3 (.int .i64 n')/\1<=n'/\n'<=n/\∀rest,scan (fun k=>decide (k<col)) 0 (pre.map (·.2)++rest) n=scan (fun k=>decide (k<col)) 0 rest n') /\
  ∃v,Boxed W (w.heap.size+1+1) 3 (.int .i64 v)
def BkX (w:World) (col n:Int) (c:Code) (pre:List (Int×Int)) (W:World):Prop :=
 c=.ret/\Below w.heap.size w W/\∃v,Boxed W (w.heap.size+1+1) 3 (.int .i64 v)/\∀rest,scan (fun k=>decide (k<col)) 0 (pre.map (·.2)++rest) n=v
theorem zhs (w:World) (col n:Int) {b:Nat} (hb:w.heap.size+1+1<b):OwnFrom b (BkI w col n):=by
 rintro pre W W' row ⟨h1,h2,⟨n',h3,h4⟩,v,h5⟩ hg hr;have hne:∀k,k<b->some k≠row:=fun k hk e=>by have:=(hr k e.symm).1;omega
 exact ⟨h1.grown hg h1.size fun k e=>by have:=(hr k e).1;omega,h2.kept hg (hne _ (by omega)),⟨n',h3.kept hg (hne _ (by omega)),h4⟩,v,h5.kept hg (hne _ hb)⟩
theorem zh4 (w:World) (col n:Int) (c:Code) {b:Nat} (hb:w.heap.size+1+1<b):OwnFrom b (BkX w col n c):=by
 rintro pre W W' row ⟨h0,h1,v,h5,h6⟩ hg hr;have hne:∀k,k<b->some k≠row:=fun k hk e=>by have:=(hr k e.symm).1;omega
 exact ⟨h0,h1.grown hg h1.size fun k e=>by have:=(hr k e).1;omega,v,h5.kept hg (hne _ hb),h6⟩
theorem q1n {n:Nat} {tmps:Array Value} {R:Ending->World->Prop} {W:World} {br:Nat} {v:Int} (hres:tmps[6]?.getD undef=.pointer (some ⟨br,0,none⟩)) (hc:W.cell? ⟨br,0,none⟩=some (.int .i64 v)) (hR:R (.returned (.int .i64 v)) W) :
  LeavesIn Fence.wide n Tryz.prog Tryz.f359 tmps R [] .returning W:=by
 refine ⟨.int .i64 v,?_,hR⟩;simp [results,Tryz.f359,go_sem,hres,hc]
theorem qvu {W:World} {b:Nat} {v:Value}:KeepsOthers W (W.setCell ⟨b,0,none⟩ v):=KeepsOthers.setCell _ _ _
theorem zhn {Bs b k:Nat} {W:World} {v:Value} (h1:Bs≠k) (h2:b≠k):Kp2 Bs b W (W.setCell ⟨k,0,none⟩ v):=⟨Below.heap_setCell W ⟨k,0,none⟩ v Bs h1,Below.heap_setCell W ⟨k,0,none⟩ v b h2⟩
theorem qvn {w W:World} {k:Nat} {v:Value} (h:Below w.heap.size w W) (hk:w.heap.size<=k):Below w.heap.size w (W.setCell ⟨k,0,none⟩ v):=h.setCell (p:=⟨k,0,none⟩) hk v
theorem qv6 {W:World} {k k':Nat} {t:TypeId} {v u:Value} (h:Boxed W k t v) (hne:k≠k'):Boxed (W.setCell ⟨k',0,none⟩ u) k t v:=(Below.heap_setCell W ⟨k',0,none⟩ u k hne).trans h
set_option maxHeartbeats 8000000 in
theorem zid (h:StopsM w g r B) (hl:1<=B.length/\B.length<=1000) (col n:Int) (hnm:n<=9223372036854775807) :
  CallsIn Fence.wide 9 Tryz.prog 359 #[.pointer (some ⟨g,0,none⟩),.int .i64 col,.int .i64 n] w fun e w'=>e=.returned (.int .i64 (backB B col n))/\Below w.heap.size w w':=by
 refine callsIn_of_wp_marks Tryz.func359 rfl trivial ?_ rfl;simp only [Tryz.ntmps359,List.size_toArray,List.length_cons,List.length_nil,Nat.reduceAdd,Nat.reduceSub,Array.replicate_succ,Array.replicate_zero,List.push_toArray,List.append_toArray,List.nil_append,List.cons_append];have hB3:Below w.heap.size w (((w.alloc (.cells #[.int .i64 col] 3)).alloc (.cells #[.int .i64 n] 3)).alloc (.cells #[.int .i64 0] 3)):=(((Below.refl _ w).alloc (le_refl _) _).alloc (by simp) _).alloc (by simp;omega) _;have h3:=h.ext hB3;have his:=fun m=>(callsIn_wide (n:=m)).2 (qt2 h3 col (K:=fun b w'=>b=inB B col/\w'=_) ⟨rfl,rfl⟩);have hnear:=fun m=>(callsIn_wide (n:=m)).2 (q47 h3 hl.2 col (K:=fun b w'=>b=nearB B col/\w'=_) ⟨rfl,rfl⟩);have hAll:=fun m=>(callsIn_wide (n:=m)).2 (q6c h3 hl.2 (K:=fun q w'=>Go.Vc.Own E_int w' (w.heap.size+1+1+1) q (keysI B)/\Below (w.heap.size+1+1+1) _ w') (fun q w' hq hB=>⟨by simpa using hq,by simpa using hB⟩));have c0:Boxed (((w.alloc (.cells #[.int .i64 col] 3)).alloc (.cells #[.int .i64 n] 3)).alloc (.cells #[.int .i64 0] 3)) w.heap.size 3 (.int .i64 col):=((Boxed.new w 3 (.int .i64 col)).alloc _).alloc _;have c1:Boxed (((w.alloc (.cells #[.int .i64 col] 3)).alloc (.cells #[.int .i64 n] 3)).alloc (.cells #[.int .i64 0] 3)) (w.heap.size+1) 3 (.int .i64 n):=by
  have:=Boxed.new (w.alloc (.cells #[.int .i64 col] 3)) 3 (.int .i64 n);rw [World.size_alloc] at this;exact this.alloc _
 have c2:Boxed (((w.alloc (.cells #[.int .i64 col] 3)).alloc (.cells #[.int .i64 n] 3)).alloc (.cells #[.int .i64 0] 3)) (w.heap.size+1+1) 3 (.int .i64 0):=by
  have:=Boxed.new ((w.alloc (.cells #[.int .i64 col] 3)).alloc (.cells #[.int .i64 n] 3)) 3 (.int .i64 0);simpa only [World.size_alloc] using this
 have hs3:(((w.alloc (.cells #[.int .i64 col] 3)).alloc (.cells #[.int .i64 n] 3)).alloc (.cells #[.int .i64 0] 3)).heap.size=w.heap.size+1+1+1:=by simp only [World.size_alloc]
 cases hcmp:decide (n<1) with
 | true =>
  have hn:n<1:=oTq hcmp
  gi_wp2
  refine wpIn_wide.2 (wp_scope_straight ((wpIn_wide (n:=9)).1 ?_))
  gi_wp2
  refine ⟨trivial,?_⟩
  gi_wp2
  refine ⟨trivial,(hnear _).mono ?_⟩;rintro e w' ⟨r0,rfl,rfl,rfl⟩
  gi_wp2
  show LeavesInM Fence.wide 9 Tryz.prog Tryz.f359 _ (fun e w'=>e=.returned (.int .i64 (backB B col n))/\Below w.heap.size w w') [] .returning _;have hcell:=(Boxed.new ((w.alloc (.cells #[.int .i64 col] 3)).alloc (.cells #[.int .i64 n] 3)) 3 (.int .i64 (nearB B col))).cell;simp only [World.size_alloc] at hcell;refine q1n rfl hcell ⟨?_,?_⟩
  ·unfold backB;rw [if_pos (.inl hn)]
  ·exact (((Below.refl _ w).alloc (le_refl _) _).alloc (by simp) _).alloc (by simp;omega) _
 | false =>
 cases hin:inB B col with
 | false =>
  gi_wp2
  refine wpIn_wide.2 (wp_scope_straight ((wpIn_wide (n:=9)).1 ?_))
  gi_wp2
  refine ⟨trivial,(his _).mono ?_⟩;rintro e w' ⟨r0,rfl,rfl,rfl⟩;rw [hin]
  gi_wp2
  refine ⟨trivial,(hnear _).mono ?_⟩;rintro e w' ⟨r0,rfl,rfl,rfl⟩
  gi_wp2
  show LeavesInM Fence.wide 9 Tryz.prog Tryz.f359 _ (fun e w'=>e=.returned (.int .i64 (backB B col n))/\Below w.heap.size w w') [] .returning _;have hcell:=(Boxed.new ((w.alloc (.cells #[.int .i64 col] 3)).alloc (.cells #[.int .i64 n] 3)) 3 (.int .i64 (nearB B col))).cell;simp only [World.size_alloc] at hcell;refine q1n rfl hcell ⟨?_,?_⟩
  ·unfold backB;rw [if_pos (.inr hin)]
  ·exact (((Below.refl _ w).alloc (le_refl _) _).alloc (by simp) _).alloc (by simp;omega) _
 | true =>
  have hn1:1<=n:=by
   have:=oFq hcmp;omega
  gi_wp2
  refine wpIn_wide.2 (wp_scope_straight ((wpIn_wide (n:=9)).1 ?_))
  gi_wp2
  refine ⟨trivial,(his _).mono ?_⟩;rintro e w' ⟨r0,rfl,rfl,rfl⟩;rw [hin]
  gi_wp2
  refine wpIn_label ?_
  gi_wp2
  refine ⟨trivial,(hAll _).mono ?_⟩;rintro e w4 ⟨q,rfl,hq,hB4⟩
  gi_wp2
  refine ⟨trivial,(q99 Fence.wide _ trivial rfl _ _ _ _).mono ?_⟩;rintro e w5 ⟨rfl,rfl⟩
  gi_wp2
  obtain ⟨w5,hw5⟩:∃w5,w4.alloc (.cells #[.slice q.a q.n q.c] 22)=w5:=⟨_,rfl⟩;have hs4:=hB4.size;rw [hs3] at hs4;have hs5:w5.heap.size=w4.heap.size+1:=by rw [<-hw5];simp
  have hB45:Below w4.heap.size w4 w5:=by rw [<-hw5];exact (Below.refl _ w4).alloc (le_refl _) _
  have hbox5:Boxed w5 w4.heap.size 22 (.slice q.a q.n q.c):=by rw [<-hw5];exact Boxed.new w4 22 _
  have k35:∀{k:Nat} {v:Value},k<w.heap.size+1+1+1->Boxed (((w.alloc (.cells #[.int .i64 col] 3)).alloc (.cells #[.int .i64 n] 3)).alloc (.cells #[.int .i64 0] 3)) k 3 v->Boxed w5 k 3 v:=fun {k v} hk hb =>
   (hB45.block k (by omega)).trans ((hB4.block k hk).trans hb)
  have hBw5:Below w.heap.size w w5:=(hB3.trans (hB4.mono (by omega))).trans (hB45.mono (by omega));have hq5:Go.Vc.Own E_int w5 (w.heap.size+1+1+1) q (keysI B):=hq.ext hB45;have hlen:(keysI B).length<=1000:=by
   have:=q1o B;unfold keysI;rw [List.length_map];omega
  obtain ⟨b,hb1,hb2,hI5⟩:∃b,b<w5.heap.size/\w.heap.size+1+1+1<=b/\Ints b w5 (.slice q.a q.n q.c) (keysI B):=by
   rcases hq5.form with ⟨rfl,hz⟩ | ⟨g',cur,hs,hg',hblk,h1,h2,h3',h4⟩
   ·exact ⟨w4.heap.size,by omega,by omega,.inl ⟨rfl,hz⟩⟩
   ·refine ⟨g',hblk.lt,hg',.inr ⟨0,q.c,by rw [hs],fun j hj=>?_⟩⟩;have hx:=hq5.rd.at_ j (keysI B)[j] (by simp [hj]);have:=hx 0 (.int .i64 (keysI B)[j]) rfl;rw [List.getElem?_eq_getElem hj];rw [hs] at this;simpa [Slc.at_,qae,show E_int.k=1 from rfl] using this
  rw [hw5];refine wpIn_rangeFunc_ownF rfl (by omega) (gf:=418) (lb:=#[.pointer (some ⟨w4.heap.size,0,none⟩)]) rfl trivial (enters_of Tryz.func418 (by kernel_rfl) rfl)
   (zc5 Fence.wide 8 trivial rfl (by omega) w4.heap.size b _ (keysI B) (by omega) w5 (by omega) hb1 hbox5.cell hI5) (fun h k=>h.trans k)
   (fun W l o o' hl ho h1 h2=>⟨World.putObj_heap_other (by omega),World.putObj_heap_other (by omega)⟩) (Below.refl _ _) (fun _=>rfl)
   (BkI w col n) (BkX w col n) (zhs w col n (by omega)) (fun c=>zh4 w col n c (by omega))
   ⟨hBw5,k35 (by omega) c0,⟨n,k35 (by omega) c1,hn1,Int.le_refl _,fun rest=>rfl⟩,0,k35 (by omega) c2⟩
   (fun x=>{ tmps:=#[Value.pointer (some { block:=g,off:=0 }),Value.int i64 col,Value.int i64 n,undef,Value.pointer (some { block:=w.heap.size,off:=0 }),Value.pointer (some { block:=w.heap.size+1,off:=0 }),Value.pointer (some { block:=w.heap.size+1+1,off:=0 }),undef,Value.int .i64 x.2,Value.int i64 n,
     Value.bool false,Value.bool false,Value.pointer (some { block:=g,off:=0 }),Value.int i64 col,Value.bool true,Value.bool false,Value.bool false,undef,undef,undef,
     Value.pointer (some { block:=g,off:=0 }),Value.slice q.a q.n q.c,.func (.func 418) #[] #[.pointer (some ⟨w4.heap.size,0,none⟩)],.int .i64 x.1,.int .i64 x.2,undef,undef,undef,undef,undef,undef,undef,undef],defers:=[] }) ?assign ?body ?done ?stop
  case assign =>
   intro l x W K hK
   gi_wp2
   exact hK
  case body =>
   rintro l pre x W ⟨hw,hcx,⟨n',hnx,hn1',hnn,hsc⟩,v0,hvx⟩ hlt;have e0:=hcx.cell;have e1:=hnx.cell;have f1:=hnx.frozen;have e2:=hvx.cell;have f2:=hvx.frozen;obtain ⟨ha,hb',hc'⟩:=zfv (fun k=>decide (k<col)) 0 (x:=x.2) hsc;have hmap:(pre++[x]).map (·.2)=pre.map (·.2)++[x.2]:=by simp
   cases hle:decide (col<=x.2) with
   | true =>
    have hle':col<=x.2:=oTq hle
    gi_wp2
    refine ⟨KeepsOthers.refl _,Kp2.refl _ _ _,hw,hcx,⟨n',hnx,hn1',hnn,fun rest=>?_⟩,v0,hvx⟩;rw [hmap];exact ha (by simpa using hle') rest
   | false =>
    have hle':=oFq hle;have hp:decide (x.2<col)=true:=by simpa using hle'
    gi_wp2
    ·rename_i hz;have hz:n'-1=0:=by simpa using hz
     refine ⟨(qvu).trans qvu,rfl,qvn (qvn hw (by omega)) (by omega),x.2,?_,fun rest=>?_⟩
     ·exact (qv6 hvx (by omega)).set _
     ·rw [hmap];exact hb' hp (by omega) rest
    ·rename_i hz;have hz:¬n'-1=0:=by simpa using hz
     refine ⟨qvu,zhn (by omega) (by omega),qvn hw (by omega),qv6 hcx (by omega),⟨n'-1,hnx.set _,by omega,by omega,fun rest=>?_⟩,v0,qv6 hvx (by omega)⟩;rw [hmap];exact hc' hp (by omega) rest
  case done =>
   rintro D ys W hD rfl ⟨hw,hcx,⟨n',hnx,hn1',hnn,hsc⟩,v0,hvx⟩ hK;have e2:=hvx.cell;have f2:=hvx.frozen
   gi_wp2
   have hK':=(qvu (W:=W) (b:=w.heap.size+1+1) (v:=.int .i64 0)).same D _ hK rfl;refine ⟨by simp,.inl ⟨_,_,rfl,run_takeDeferred hK',?_⟩⟩;have hb5:=(hvx.set (.int .i64 0)).kept (grownBy_putObj' _ D (.deferred none)) (fun e=>by cases e;omega);refine q1n rfl hb5.cell ⟨?_,?_⟩
   ·rw [zbg hn1 hin,<-qte _ _ _ _ hn1];have:=hsc [];rw [q05 _ _ (le_refl _),List.take_of_length_le (by simp),List.append_nil] at this;rw [this];rfl
   ·exact (qvn hw (by omega)).grown (grownBy_putObj' _ D (.deferred none)) (by simp;exact hw.size) fun k e=>by cases e;omega
  case stop =>
   rintro D c pre W hD ⟨k,hk,rfl⟩ ⟨rfl,hw,v,hvx,hsc⟩ hK
   gi_wp2
   refine ⟨by simp,.inl ⟨_,_,rfl,run_takeDeferred hK,?_⟩⟩;have hb5:=hvx.kept (grownBy_putObj' _ D (.deferred none)) (fun e=>by cases e;omega);refine q1n rfl hb5.cell ⟨?_,?_⟩
   ·rw [zbg hn1 hin,<-qte _ _ _ _ hn1];have:=hsc ((keysI B).reverse.drop k);rw [q05 _ _ hk,List.take_append_drop] at this;rw [this]
   ·exact hw.grown (grownBy_putObj' _ D (.deferred none)) hw.size fun k e=>by cases e;omega
theorem zb2 (h:StopsM w g r B) (hl:1<=B.length/\B.length<=1000) (col n:Int) (hnm:n<=9223372036854775807) {K:Int->World->Prop}
  (hK:∀w',Below w.heap.size w w'->K (backB B col n) w'):qr5 (some ⟨g,0,none⟩) col n w K:=by
 refine Calls.mono (callsIn_wide.1 (zid h hl col n hnm)) ?_;rintro e w' ⟨rfl,hB⟩;exact ⟨_,rfl,hK w' hB⟩
end
end Go.Proofs.YtcigiaecigedmaaGreatDoor
namespace Go.Proofs.YtcigiaecigedmaaGreatDoor
open Go.Vc Go.RowKit
open IntKind (i64)
def w64 (x:Int):Int:=i64.wrap x
abbrev Cur:=qak
abbrev Sav:=qbr
def qgs:Cur:=⟨0,0,false,⟨0,0,0⟩,false,⟨66,66⟩,0⟩
def sav0:Sav:=⟨⟨0,0,false,⟨0,0,0⟩,false,⟨0,0⟩,0⟩,false⟩
structure Sc where
 g0:GS
 g1:GS
 alt:Bool
 c:Cur
 s0:Sav
 s1:Sav
 modes:List (Int×Bool)
 priv:List (Int×Bool)
 top:Int
 past:Int
 stops:List Bool
 char:Int
 areas:List qbs
namespace Sc
def g (S:Sc):GS:=if S.alt then S.g1 else S.g0
def withG (S:Sc) (G:GS):Sc:=if S.alt then { S with g1:=G } else { S with g0:=G }
def sv (S:Sc):Sav:=if S.alt then S.s1 else S.s0
def withS (S:Sc) (s:Sav):Sc:=if S.alt then { S with s1:=s } else { S with s0:=s }
def mode (S:Sc) (n:Int):Bool:=(lookL S.modes n).getD false
def pmode (S:Sc) (n:Int):Bool:=(lookL S.priv n).getD false
def blank (S:Sc):Attr:=⟨0,S.c.A.Bg,0⟩
def dry (S:Sc):Sc:={ S with c:={ S.c with Wrap:=false } }
def setCol (S:Sc) (col:Int):Sc:={ S with c:={ S.c with Col:=col } }
end Sc
def cutP (v lo hi:Int):Int:=if hi<(if lo>v then lo else v) then hi else (if lo>v then lo else v)
namespace Sc
def to (S:Sc) (row col:Int):Sc:={ S with c:={ S.c with Row:=cutP row 0 (w64 ((S.g.rows:Int)-1)),Col:=cutP col 0 (w64 ((S.g.cols:Int)-1)),Wrap:=false } }
def scroll (S:Sc) (top past n:Int):Sc:=S.withG (qcr S.g top past n S.blank)
def index (S:Sc):Sc:=if S.c.Row=w64 (S.past-1) then S.dry.scroll S.top S.past 1 else S.dry.to (w64 (S.c.Row+1)) S.c.Col
def reverse (S:Sc):Sc:=if S.c.Row=S.top then S.dry.scroll S.top S.past (-1) else S.dry.to (w64 (S.c.Row-1)) S.c.Col
def home (S:Sc):Sc:=S.to (if S.c.Origin then S.top else 0) 0
def up (S:Sc) (n:Int):Sc:=S.to (if (if S.c.Row>=S.top then S.top else 0)>w64 (S.c.Row-n) then (if S.c.Row>=S.top then S.top else 0) else w64 (S.c.Row-n)) S.c.Col
def down (S:Sc) (n:Int):Sc :=
 let r:Int:=if S.c.Row<S.past then S.past else S.g.rows
 S.to (if w64 (r-1)<w64 (S.c.Row+n) then w64 (r-1) else w64 (S.c.Row+n)) S.c.Col
def change (S:Sc) (f:List Cell->List Cell):Sc:=if 0<=S.c.Row/\S.c.Row<(S.g.rows:Int) then S.withG { S.g with L:=S.g.L.set S.c.Row.toNat (qa6 (f (S.g.L.getD S.c.Row.toNat [])) S.g.cols) } else S
end Sc
def isW (r:Int):Bool:=decide (0<=r) && decide (r<=1114111) && (decide (r<55296) || decide (r>57343))
def inW (r:Int) (l:List (Int×Int)):Bool:=l.any fun p=>decide (p.1<=r) && decide (r<=p.2)
def thinL:List (Int×Int):=[(0,31),(127,159),(768,879),(8203,8207),(65024,65039)]
def wideL:List (Int×Int):=[(4352,4447),(11904,42191),(44032,55203),(63744,64255),(65072,65135),(65280,65376),(65504,65510),(127744,129791),(131072,262141)]
def qhi (r:Int):Int:=if isW r=false\/inW r thinL=true then 0 else if inW r wideL=true then 2 else 1
def qqu:List Int:=[160,9670,9618,9225,9228,9229,9226,176,177,9252,9227,9496,9488,9484,9492,9532,9146,9147,9472,9148,9149,9500,9508,9524,9516,9474,8804,8805,960,8800,163,183]
def qtp (set b:Int):Int:=if set=48/\95<=b/\b<=126 then qqu.getD (b-95).toNat 0 else b
namespace Sc
def putL (S:Sc) (r w:Int) (xs:List Cell):List Cell:=putP (if S.mode 4 then insL xs S.c.Col w S.c.A else xs) S.c.Col r w S.c.A
def laid (S:Sc) (r w:Int) (wrap:Bool):Sc :=
 let S1:=(S.change (S.putL r w)).setCol (w64 (S.c.Col+w))
 if S1.c.Col>=(S.g.cols:Int) then { S1 with c:={ S1.c with Col:=w64 ((S.g.cols:Int)-1),Wrap:=wrap } } else S1
def next (S:Sc):Sc:=(S.to S.c.Row 0).index
def layX (S1:Sc) (wrap:Bool):Sc:=if S1.c.Wrap=true/\wrap=true then S1.next else S1
def layY (S2:Sc) (cols:Nat) (r w:Int) (wrap:Bool):Sc :=
 if w64 (S2.c.Col+w)>(cols:Int) then
  (if w>(cols:Int) then S2 else if wrap then S2.next.laid r w wrap else (S2.setCol (w64 ((cols:Int)-w))).laid r w wrap)
 else S2.laid r w wrap
def lay (S:Sc) (r:Int):Sc:=if qhi r=0 then S else layY (layX { S with char:=r } (S.pmode 7)).dry S.g.cols r (qhi r) (S.pmode 7)
def set2 (S:Sc) (i:Int):Int:=if i=0 then S.c.Sets.e0 else S.c.Sets.e1
def print (S:Sc) (r:Int):Sc:=if 0<=r/\r<128 then S.lay (qtp (S.set2 S.c.Shift) r) else S.lay r
def save (S:Sc):Sc:=S.withS ⟨S.c,true⟩
def restore (S:Sc):Sc :=
 let x:Cur:=if S.sv.is then S.sv.c else qgs
 { S with c:={ x with Row:=cutP x.Row 0 (w64 ((S.g.rows:Int)-1)),Col:=cutP x.Col 0 (w64 ((S.g.cols:Int)-1)) } }
def fillRow (S:Sc) (row from_ to:Int):Sc:=if 0<=row/\row<(S.g.rows:Int) then S.withG { S.g with L:=S.g.L.set row.toNat (qa6 (eraP (S.g.L.getD row.toNat []) from_ to S.blank) S.g.cols) } else S
def fills (S:Sc) (row from_ to:Int):Nat->Sc
 | 0=>S
 | n+1=>(S.fills row from_ to n).fillRow (w64 (row+n)) from_ to
def erase (S:Sc) (row rows from_ to:Int):Sc :=
 if rows<1\/from_>=to then S
 else
  let S1:=S.fills row from_ to rows.toNat
  { S1 with areas:=S1.areas++[⟨S.alt,w64 (S1.g.top+row),rows,from_,to⟩] }
def plain (S:Sc):Sc:={ S with modes:=[],priv:=putL' (putL' [] 7 true) 25 true }
def fresh (S:Sc):Sc :=
 let S1:Sc:={ S with alt:=false }
 ({ S1 with stops:=resz [] S1.g.cols,c:=qgs,s0:=sav0,s1:=sav0,char:=-1,top:=0,past:=S1.g.rows }:Sc).plain
def clear0 (S:Sc) (k:Bool):Sc :=
 let G:=if k then S.g1 else S.g0
 let G':GS:={ G with L:=List.replicate G.rows (newL G.cols ⟨0,0,0⟩),old:=[] }
 let S1:Sc:=if k then { S with g1:=G' } else { S with g0:=G' }
 { S1 with areas:=S1.areas++[⟨k,G.top,G.rows,0,G.cols⟩] }
def reset (S:Sc):Sc:=((S.clear0 false).clear0 true).fresh
def full (S:Sc):Sc :=
 let l:=(newL S.g.cols ⟨0,0,0⟩).map fun c=>({ c with R:=69 }:Cell)
 let S1:=S.withG { S.g with L:=List.replicate S.g.rows (qa6 l S.g.cols) }
 ({ S1 with top:=0,past:=S.g.rows }:Sc).to 0 0
def control (S:Sc) (c:Int):Sc :=
 if c=8 then S.to S.c.Row (w64 (S.c.Col-1))
 else if c=9 then S.to S.c.Row (nextB S.stops S.c.Col 1)
 else if c=10\/c=11\/c=12 then (if S.index.mode 20 then S.index.to S.index.c.Row 0 else S.index)
 else if c=13 then S.to S.c.Row 0
 else if c=14\/c=15 then { S with c:={ S.c with Shift:=15-c } }
 else S
def single (S:Sc) (c:Int):Sc :=
 if c=69 then (S.to S.c.Row 0).index
 else if c=68 then S.index
 else if c=77 then S.reverse
 else if c=72 then { S with stops:=setB S.stops S.c.Col true }
 else if c=55 then S.save
 else if c=56 then S.restore
 else if c=99 then S.reset
 else S
def setSet (S:Sc) (i:Int) (c:Int):Sc:=if i=0 then { S with c:={ S.c with Sets:=⟨c,S.c.Sets.e1⟩ } } else { S with c:={ S.c with Sets:=⟨S.c.Sets.e0,c⟩ } }
def escape (S:Sc) (inter:List UInt8) (c:Int):Sc :=
 if inter=[40]\/inter=[41] then (if c=48\/c=66 then S.setSet (if inter=[40] then 0 else 1) c else S)
 else if inter=[35] then (if c=56 then S.full else S)
 else if inter=[] then S.single c
 else S
def asked (S:Sc) (n:Int):Int:=if S.c.Origin then cutP (w64 (w64 (S.top+n)-1)) S.top (w64 (S.past-1)) else w64 (n-1)
end Sc
def qdl (p:List Int) (i:Nat) (none:Int):Int:=match p[i]? with
 | some v=>if v=0 then none else v
 | Option.none=>none
namespace Sc
def margins (S:Sc) (p:List Int):Sc :=
 let top:=cutP (w64 (qdl p 0 1-1)) 0 S.g.rows
 let past:=cutP (qdl p 1 S.g.rows) 0 S.g.rows
 if w64 (past-top)<2 then S else ({ S with top:=top,past:=past }:Sc).home
def lays (S:Sc) (r:Int):Nat->Sc
 | 0=>S
 | n+1=>(S.lays r n).lay r
def again (S:Sc) (n:Int):Sc :=
 if 0<=S.char then S.lays S.char (if w64 ((S.g.rows:Int)*S.g.cols)<n then w64 ((S.g.rows:Int)*S.g.cols) else n).toNat else S
def forget (S:Sc):Sc:=S.withG { S.g with old:=[] }
def display (S:Sc) (how:Int):Sc :=
 let rows:Int:=S.g.rows
 let cols:Int:=S.g.cols
 if how=0 then ((S.erase S.c.Row 1 S.c.Col cols).erase (w64 (S.c.Row+1)) (w64 (w64 (rows-S.c.Row)-1)) 0 cols).dry
 else if how=1 then ((S.erase 0 S.c.Row 0 cols).erase S.c.Row 1 0 (w64 (S.c.Col+1))).dry
 else if how=2 then (S.erase 0 rows 0 cols).dry
 else if how=3 then S.forget
 else S
def inLine (S:Sc) (how:Int):Sc :=
 if how=0 then (S.erase S.c.Row 1 S.c.Col S.g.cols).dry
 else if how=1 then (S.erase S.c.Row 1 0 (w64 (S.c.Col+1))).dry
 else if how=2 then (S.erase S.c.Row 1 0 S.g.cols).dry
 else S
def cells (S:Sc) (c n:Int):Sc :=
 let S1:=S.dry
 if c=88 then S1.erase S.c.Row 1 S.c.Col (if (S.g.cols:Int)<w64 (S.c.Col+n) then (S.g.cols:Int) else w64 (S.c.Col+n))
 else S1.change fun xs=>if c=80 then delL xs S.c.Col n S.blank else insL xs S.c.Col n S.blank
def lines (S:Sc) (c n:Int):Sc :=
 if S.c.Row<S.top\/S.c.Row>=S.past then S
 else
  let S1:=S.scroll S.c.Row S.past (if c=76 then w64 (0-n) else n)
  S1.to S.c.Row 0
def move (S:Sc) (p:List Int) (c n:Int):Sc :=
 let S1 :=
  if c=65\/c=70 then S.up n
  else if c=66\/c=101\/c=69 then S.down n
  else if c=67\/c=97 then S.to S.c.Row (w64 (S.c.Col+n))
  else if c=68 then S.to S.c.Row (w64 (S.c.Col-n))
  else if c=71\/c=96 then S.to S.c.Row (w64 (n-1))
  else if c=100 then S.to (S.asked n) S.c.Col
  else if c=72\/c=102 then S.to (S.asked n) (w64 (qdl p 1 1-1))
  else if c=73 then S.to S.c.Row (nextB S.stops S.c.Col n)
  else if c=90 then S.to S.c.Row (backB S.stops S.c.Col n)
  else S
 if c=69\/c=70 then S1.to S1.c.Row 0 else S1
def show_ (S:Sc) (to all:Bool):Sc :=
 if S.alt=to then S
 else
  let S1:=if all=true/\to=true then S.save else S
  let S2:Sc:={ S1 with alt:=to }
  if all=true/\to=true then S2.dry.erase 0 S2.g.rows 0 S2.g.cols
  else if all then S2.restore
  else S2
def turn (S:Sc) (n:Int) (on:Bool):Sc :=
 if n=6 then ({ S with c:={ S.c with Origin:=on } }:Sc).home
 else if n=1\/n=7\/n=25\/n=1000\/n=2004 then { S with priv:=putL' S.priv n on }
 else if n=47\/n=1047 then S.show_ on false
 else if n=1049 then S.show_ on true
 else S
def turns (S:Sc) (on:Bool) (p:List Int):Sc:=p.foldl (fun S n=>S.turn n on) S
def modes1 (S:Sc) (on:Bool) (p:List Int):Sc:=p.foldl (fun S n=>if n=4\/n=20 then { S with modes:=putL' S.modes n on } else S) S
def soft (S:Sc):Sc :=
 let S1:=S.plain
 { S1 with top:=0,past:=S.g.rows,s0:=sav0,s1:=sav0,c:={ S.c with A:=⟨0,0,0⟩,Sets:=⟨66,66⟩,Shift:=0,Origin:=false } }
def bare (S:Sc) (ap:Attr) (p:List Int) (c:Int):Sc :=
 let n:=qdl p 0 1
 let zero:=qdl p 0 0
 if c=110\/c=99 then S
 else if c=109 then { S with c:={ S.c with A:=ap } }
 else if c=114 then S.margins p
 else if c=115 then S.save
 else if c=117 then S.restore
 else if c=104\/c=108 then S.modes1 (c=104) p
 else if c=103 then (if zero=0 then { S with stops:=setB S.stops S.c.Col false } else if zero=3 then { S with stops:=List.replicate S.stops.length false } else S)
 else if c=98 then S.again n
 else if c=74 then S.display zero
 else if c=75 then S.inLine zero
 else if c=64\/c=80\/c=88 then S.cells c n
 else if c=76\/c=77 then S.lines c n
 else if c=83 then (S.scroll S.top S.past (w64 (0-w64 (0-n)))).dry
 else if c=84 then (S.scroll S.top S.past (w64 (0-n))).dry
 else S.move p c n
end Sc
def k1:List Cell:=[⟨0,0,⟨0,0,0⟩⟩,⟨19968,1,⟨0,0,0⟩⟩,⟨0,2,⟨0,0,0⟩⟩,⟨0,0,⟨0,0,0⟩⟩]
def k2:List Cell:=[⟨0,0,⟨0,0,0⟩⟩,⟨0,0,⟨0,0,0⟩⟩,⟨120,0,⟨1,0,0⟩⟩,⟨0,0,⟨0,0,0⟩⟩]
theorem zel (n:Int) (a:Attr):qfr (newL n a)=true:=by
 unfold newL;split
 ·rfl
 ·have:=q58 (xs:=[]) rfl n.toNat a;simpa using this
def Plain (xs:List Cell):Prop:=∀c∈xs,c.Kind=0
theorem q9g {xs:List Cell} (h:Plain xs):qfr xs=true:=qqo.2 fun k x hx=>by
 have h0:=h x (List.mem_of_getElem? hx);exact ⟨(qfs hx).2 (.inl h0),fun e=>by rw [h0] at e;cases e⟩
theorem qdu {xs:List Cell} (h:Plain xs):mendL xs=xs:=zh3 (q9g h)
theorem q6q {xs:List Cell} (h:Plain xs) {i:Nat} {c:Cell} (hc:c.Kind=0):Plain (xs.set i c):=fun x hx=>by
 rcases List.mem_or_eq_of_mem_set hx with h1 | h1
 ·exact h x h1
 ·rw [h1];exact hc
theorem q42 {xs:List Cell} (h:Plain xs) (p:Int):halfL xs p=xs:=by
 by_cases hp:0<=p/\p<xs.length
 ·obtain ⟨x,hx,_⟩:=get_of (xs:=xs) (k:=p.toNat) (by omega);refine zex ?_;rw [show p=((p.toNat:Nat):Int) by omega];exact (qfs hx).2 (.inl (h x (List.mem_of_getElem? hx)))
 ·exact zgn (by omega)
theorem qj9 (n:Nat) (a:Attr):Plain (List.replicate n (qb8 a)):=fun c hc=>by rw [List.eq_of_mem_replicate hc];rfl
theorem qfq {xs ys:List Cell} (h:Plain xs) (h':Plain ys):Plain (xs++ys):=fun c hc=>by
 rcases List.mem_append.1 hc with h1 | h1
 ·exact h c h1
 ·exact h' c h1
theorem qky {xs:List Cell} (h:Plain xs) (n:Nat):Plain (xs.take n):=fun c hc=>h c (List.mem_of_mem_take hc)
theorem qyx {xs:List Cell} (h:Plain xs) (n:Nat):Plain (xs.drop n):=fun c hc=>h c (List.mem_of_mem_drop hc)
theorem ze0 {xs:List Cell} (h:Plain xs) {col r:Int} {a:Attr} (hb:¬qlv xs.length col 1):putP xs col r 1 a=xs.set col.toNat ⟨r,0,a⟩:=by
 have h1:wrotL xs col r 1 a=xs.set col.toNat ⟨r,0,a⟩:=by rw [wrotL,if_neg (by decide)]
 rw [putP,if_neg hb,qdu h,h1];have hp:Plain (xs.set col.toNat ⟨r,0,a⟩):=q6q h rfl;rw [qmr,q42 hp,q42 hp]
def a0:Attr:=⟨0,0,0⟩
theorem zeo {xs:List Cell} (h:Plain xs) {col k c:Int} {a:Attr} (hc:manyL xs.length col k=c) (h0:c≠0) :
  insL xs col k a=xs.take col.toNat++List.replicate c.toNat (qb8 a)++(xs.take (xs.length-c.toNat)).drop col.toNat:=by
 unfold insL;rw [hc];dsimp only;rw [if_neg h0,qdu h];exact qdu (qfq (qfq (qky h _) (qj9 _ _)) (qyx (qky h _) _))
theorem zje {xs:List Cell} (h:Plain xs) {col n:Int} {a:Attr} (hcol:0<=col) (hcl:col<xs.length) (hn:1<=n) :
  delL (insL xs col n a) col n a=xs.take (xs.length-(min n (xs.length-col)).toNat)++List.replicate (min n (xs.length-col)).toNat (qb8 a)/\(insL xs col n a).length=xs.length:=by
 have hm:manyL xs.length col n=min n (xs.length-col):=by rw [manyL,if_neg (by omega)]
 have e1:=zeo h (a:=a) hm (by omega);have hc0:1<=min n ((xs.length:Int)-col):=by omega
 have hc1:min n ((xs.length:Int)-col)<=xs.length-col:=by omega
 generalize min n ((xs.length:Int)-col)=c at *;have hlen:(insL xs col n a).length=xs.length:=by rw [e1];simp;omega
 refine ⟨?_,hlen⟩;have hp:Plain (insL xs col n a):=by
  rw [e1];exact qfq (qfq (qky h _) (qj9 _ _)) (qyx (qky h _) _)
 have e2:delL (insL xs col n a) col n a=mendL ((insL xs col n a).take col.toNat++(insL xs col n a).drop (col+c).toNat++List.replicate c.toNat (qb8 a)):=by
  unfold delL;rw [hlen,hm];dsimp only;rw [if_neg (by omega),qdu hp]
 rw [e2,qdu (qfq (qfq (qky hp _) (qyx hp _)) (qj9 _ _))];congr 1;have hl1:(xs.take col.toNat).length=col.toNat:=by simp;omega
 have hl2:(xs.take col.toNat++List.replicate c.toNat (qb8 a)).length=(col+c).toNat:=by simp;omega
 have t1:(insL xs col n a).take col.toNat=xs.take col.toNat:=by
  rw [e1,List.append_assoc,List.take_append_of_le_length (by omega),List.take_of_length_le (by omega)]
 have t2:(insL xs col n a).drop (col+c).toNat=(xs.take (xs.length-c.toNat)).drop col.toNat:=by
  rw [e1,<-hl2,List.drop_left]
 rw [t1,t2];have:xs.take col.toNat=(xs.take (xs.length-c.toNat)).take col.toNat:=by rw [List.take_take,Nat.min_eq_left (by omega)]
 rw [this,List.take_append_drop]
end Go.Proofs.YtcigiaecigedmaaGreatDoor
