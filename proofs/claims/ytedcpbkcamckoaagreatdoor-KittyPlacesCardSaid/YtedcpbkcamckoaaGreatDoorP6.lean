import Derived.Test.YtedcpbkcamckoaaGreatDoorP5
import Derived.Test.YtedcpbkcamckoaaGreatDoorP1
import Derived.Test.YtedcpbkcamckoaaGreatDoorShA
set_option linter.unusedVariables false
namespace Go.Proofs.YtedcpbkcamckoaaGreatDoor
open Go.Vc Go.RowKit
set_option maxRecDepth 400000
open _root_.Nat (le_refl)
def HasI (S:St) (id:Int):Prop:=∃x,(id,x)∈S.L
def Here (T:List Pl) (S:St):Prop:=∀p∈T,HasI S p.Image
theorem q5h (n:Int):∀(f:Nat) (S:St) (G:List Int) (k:Int),k∈G->k∈(S.roomF n f G).2
 | 0,S,G,k,h=>h
 | f+1,S,G,k,h=>by
  unfold St.roomF;split
  ·exact q5h n f _ _ k (List.mem_append_left _ h)
  ·exact h
theorem q8j (n:Int):∀(f:Nat) (S:St) (G:List Int) (k:Int),HasI S k->k ∉ (S.roomF n f G).2->HasI (S.roomF n f G).1 k
 | 0,S,G,k,h,_=>h
 | f+1,S,G,k,h,hk=>by
  unfold St.roomF at hk ⊢;split at hk
  ·rename_i hc;rw [if_pos hc];refine q8j n f _ _ k ?_ hk;obtain ⟨x,hx⟩:=h;refine ⟨x,(ql6 _ _ _).2 ⟨fun e=>?_,hx⟩⟩;exact hk (q5h n f _ _ k (by rw [e];simp))
  ·rename_i hc;rw [if_neg hc];exact h
theorem zam (S:St) (n:Int) (k:Int) (h:HasI S k) (hk:k ∉ (S.room n).2):HasI (S.room n).1 k:=q8j n _ S [] k h hk
theorem q8u:∀(G:List Int) (T:List Pl) (p:Pl),p∈goneT T G↔p∈T/\p.Image ∉ G
 | [],T,p=>by simp [goneT]
 | i::G,T,p=>by
  have e:goneT T (i::G)=goneT (T.filter fun p=>!(p.Image==i)) G:=rfl;rw [e,q8u G];simp;constructor
  ·rintro ⟨⟨a,b⟩,c⟩;exact ⟨a,b,c⟩
  ·rintro ⟨a,b,c⟩;exact ⟨⟨a,b⟩,c⟩
theorem q1z {T:List Pl} {S S':St} {G:List Int} (h:Here T S) (hk:∀k,HasI S k->k ∉ G->HasI S' k):Here (goneT T G) S':=fun p hp=>by
 obtain ⟨h1,h2⟩:=(q8u G T p).1 hp;exact hk _ (h p h1) h2
def LdOk (B:Nat) (E:KE):Prop:=∀C s,E.ld=some (C,s)->s.over=false/\Wide (toL E.first)/\potL s<=B/\(s.b.length:Int)+E.S.used<=E.quota
structure Inv (B:Nat) (E:KE):Prop where
 here:Here E.T E.S
 q:E.S.quota=E.quota
 ld:LdOk B E
theorem LdOk.none {B:Nat} {E:KE} (h:E.ld=none):LdOk B E:=fun C s e=>by rw [h] at e;cases e
theorem Inv.up {B B':Nat} {E:KE} (h:Inv B E) (hB:B<=B'):Inv B' E:=⟨h.here,h.q,fun C s e=>by obtain ⟨a,b,c,d⟩:=h.ld C s e;exact ⟨a,b,by omega,d⟩⟩
section
variable {B n:Nat} {E:KE} {W H:Int} {bs:List UInt8}
theorem q92 (hq:E.S.quota=E.quota) (h0:0<=E.quota) (hh:heldK E<=1000000) :
  ((heldK E:Int)<=E.quota/\E.reserve 0=({ E with S:=(({ E.S with res:=(heldK E:Int) }:St).room (heldK E)).1,T:=goneT E.T (({ E.S with res:=(heldK E:Int) }:St).room (heldK E)).2 },0))\/(E.quota<(heldK E:Int)/\E.reserve 0=(E,6)):=by
 have e:wi (0+(heldK E:Int))=heldK E:=by
  unfold wi;rw [Int.zero_add];exact i64_in (by omega)
 unfold KE.reserve;rw [if_neg (by omega),if_neg (by omega),e];by_cases hh:(heldK E:Int)<=E.quota
 ·left;refine ⟨hh,?_⟩;have er:E.S.reserve (heldK E:Int)=((({ E.S with res:=(heldK E:Int) }:St).room (heldK E)).1,(({ E.S with res:=(heldK E:Int) }:St).room (heldK E)).2,0):=by
   unfold St.reserve;rw [if_neg (by omega),if_neg (by omega)]
  rw [er]
 ·right;refine ⟨by omega,?_⟩;have er:E.S.reserve (heldK E:Int)=(E.S,[],6):=by
   unfold St.reserve;rw [if_neg (by omega),if_pos (by omega)]
  rw [er];rfl
structure Inv0 (B:Nat) (E:KE):Prop where
 here:Here E.T E.S
 q:E.S.quota=E.quota
 ld:∀C s,E.ld=some (C,s)->s.over=false/\Wide (toL E.first)/\potL s<=B
theorem Inv.inv0 (h:Inv B E):Inv0 B E:=⟨h.here,h.q,fun C s e=>by obtain ⟨a,b,c,d⟩:=h.ld C s e;exact ⟨a,b,c⟩⟩
theorem Inv0.held (h:Inv0 B E) (hB:B<=120000):heldK E<=1000000:=by
 unfold heldK;cases hl:E.ld with
 | none=>simp
 | some x =>
  obtain ⟨C,s⟩:=x;have:=(h.ld C s hl).2.2;unfold potL at this;dsimp only;omega
theorem q3e (h:Inv0 B E) (hB:B<=120000) (h0:0<=E.quota) (hok:StOk n E.S):((heldK E:Int)<=E.quota/\(E.reserve 0).2=0/\Inv B (E.reserve 0).1)\/(E.quota<(heldK E:Int)/\E.reserve 0=(E,6)):=by
 rcases q92 h.q h0 (h.held hB) with ⟨h1,h2⟩ | h2
 ·left;rw [h2];have hq:=h.q;have hok':StOk n ({ E.S with res:=(heldK E:Int) }:St):=qob hok _;have hqq:=(qn5 (heldK E:Int) E.S.L.length ({ E.S with res:=(heldK E:Int) }:St) []).1;refine ⟨h1,rfl,⟨q1z h.here fun k hk hn=>zam _ _ k hk hn,hqq.trans hq,fun C s e=>?_⟩⟩;obtain ⟨a,b,c⟩:=h.ld C s e;refine ⟨a,b,c,?_⟩;have hu:=qsr (n:=(heldK E:Int)) (by omega) E.S.L.length (S:=({ E.S with res:=(heldK E:Int) }:St)) (G:=[]) hok' (by show (heldK E:Int)<=E.S.quota;omega) (le_refl _);have hu:(({ E.S with res:=(heldK E:Int) }:St).room (heldK E)).1.used<=E.S.quota-heldK E:=hu;have hhe:heldK E=s.b.length:=by
   unfold heldK;rw [show E.ld=some (C,s) from e]
  show (s.b.length:Int)+(({ E.S with res:=(heldK E:Int) }:St).room (heldK E)).1.used<=E.quota;omega
 ·exact .inr h2
theorem Inv0.idle (h:Inv0 B E):Inv B E.idle:=⟨h.here,h.q,LdOk.none rfl⟩
theorem zcm {S:St} {k:qaa} {id:Int} {v:qae} (h:(qhg S k id v).2=0):(qhg S k id v).1.Image=id:=by
 unfold qhg at h ⊢;split
 ·rename_i h1;rw [if_pos h1] at h;cases h
 ·rename_i h1;rw [if_neg h1] at h;split
  ·rename_i h2;rw [if_pos h2] at h;cases h
  ·rfl
theorem qv3 (k:qaa) {id:Int} (v:qae) (h:Here E.T E.S) (hid:HasI E.S id):Here (qbt E k id v).1.T E.S/\(qbt E k id v).1.S=E.S/\(qbt E k id v).1.ld=E.ld/\(qbt E k id v).1.quota=E.quota/\(qbt E k id v).1.first=E.first:=by
 unfold qbt;split
 ·rename_i hp;split
  ·refine ⟨fun p hp'=>?_,rfl,rfl,rfl,rfl⟩;rcases List.mem_append.1 hp' with h1 | h1
   ·exact h p (List.mem_filter.1 h1).1
   ·rw [List.mem_singleton] at h1;rw [h1,zcm hp];exact hid
  ·exact ⟨h,rfl,rfl,rfl,rfl⟩
 ·exact ⟨h,rfl,rfl,rfl,rfl⟩
theorem q7q (k:qaa) {id:Int} (v:qae) (h:Inv0 B E) (hid:HasI E.S id):Inv0 B (qbt E k id v).1:=by
 obtain ⟨h1,h2,h3,h4,h5⟩:=qv3 k v h.here hid;refine ⟨by rw [h2];exact h1,by rw [h2,h4];exact h.q,fun C s e=>?_⟩;rw [h3] at e;rw [h5];exact h.ld C s e
theorem q56 {S:St} {id:Int} {m:Nat} {k:Int} (h:HasI S k) (hne:id≠0->k≠id) (hk:k ∉ (S.putPre id m).2):HasI (S.putPre id m).1 k:=by
 refine zam (pre0 S id) m k ?_ hk;unfold pre0;split
 ·exact h
 ·rename_i h0;obtain ⟨x,hx⟩:=h;exact ⟨x,(ql6 _ _ _).2 ⟨hne h0,hx⟩⟩
theorem qtk (S:St) (id:Int) (m:Nat):(S.putPre id m).1.quota=S.quota:=by
 have h:=(qn5 (m:Int) (pre0 S id).L.length (pre0 S id) []).1;have e:(pre0 S id).quota=S.quota:=by
  unfold pre0;split<;>rfl
 exact h.trans e
theorem qyk {S:St} (hok:StOk n S) {id num W H:Int} {P:Slc} {bs:List UInt8} (i:Int) {k:Int} (h:HasI (S.putPre id bs.length).1 k\/k=i):HasI ((S.putPre id bs.length).1.putAt i num W H P bs) k:=by
 have hpk:StOk n (S.putPre id bs.length).1:=ql9 _ _ (q2p hok id);by_cases e:k=i
 ·exact ⟨_,(qdv hpk.srt _ _ _ _).2 (.inl ⟨e,rfl⟩)⟩
 ·rcases h with ⟨x,hx⟩ | h
  ·exact ⟨x,(qdv hpk.srt _ _ _ _).2 (.inr ⟨e,hx⟩)⟩
  ·exact absurd h e
theorem zjb (hok:StOk n E.S) (k:qaa) (W H:Int) (bs:List UInt8) (P:Slc) (v:qae) (h:Inv0 B E):Inv0 B (keepK E k W H bs P v).1:=by
 unfold keepK;split
 ·exact h
 ·have hkept:Inv0 B (keptE E k W H bs P):=by
   refine ⟨q1z h.here fun j hj hn=>qyk hok _ ?_,(qtk _ _ _).trans h.q,h.ld⟩;rw [List.mem_append,List.mem_singleton,not_or] at hn;refine .inl (q56 hj (fun h0=>?_) hn.1);have:idK E k bs=k.Id:=by
    unfold idK newId;rw [if_neg h0]
   rw [<-this];exact hn.2
  split
  ·exact hkept
  ·exact q7q _ v hkept (qyk hok _ (.inr rfl))
theorem zlm (k:qaa) (W H:Int) (bs:List UInt8) (P:Slc) (v:qae):(keepK E k W H bs P v).1.ld=E.ld/\(keepK E k W H bs P v).1.quota=E.quota:=by
 have st:∀(E:KE) (k:qaa) (id:Int),(qbt E k id v).1.ld=E.ld/\(qbt E k id v).1.quota=E.quota:=fun E k id=>by
  unfold qbt;split
  ·split
   ·exact ⟨rfl,rfl⟩
   ·exact ⟨rfl,rfl⟩
  ·exact ⟨rfl,rfl⟩
 unfold keepK;split
 ·exact ⟨rfl,rfl⟩
 ·split
  ·exact ⟨rfl,rfl⟩
  ·exact st _ _ _
theorem Inv0.inv (h:Inv0 B E) (hl:E.ld=none):Inv B E:=⟨h.here,h.q,LdOk.none hl⟩
theorem zlb (hok:StOk n E.S) (C:LdK) (s:LdS) (k:qaa) (P:Slc) (v:qae) (h:Inv0 B E):Inv B (endK E C s k P v).1/\(endK E C s k P v).1.quota=E.quota:=by
 unfold endK;split
 ·exact ⟨h.idle,rfl⟩
 ·have h1:=zjb (E:=E.idle) (n:=n) (qob hok 0) k ((resL C s).2.1:Int) ((resL C s).2.2.1:Int) (resL C s).2.2.2 P v h.idle.inv0;obtain ⟨h2,h3⟩:=zlm (E:=E.idle) k ((resL C s).2.1:Int) ((resL C s).2.2.1:Int) (resL C s).2.2.2 P v;exact ⟨h1.inv h2,h3⟩
theorem zaa (C:LdK):∀(ts:List UInt8) (s:LdS),potL (addL C s ts)<=potL s+3*ts.length
 | [],s=>le_refl _
 | c::ts,s=>by
  have h1:=zaa C ts (addC C s c);have h2:=zaw C s c;have e:addL C s (c::ts)=addL C (addC C s c) ts:=rfl;rw [e,List.length_cons];omega
theorem q8b (C:LdK):∀(ts:List UInt8) (s:LdS),(addL C s ts).over=s.over
 | [],s=>rfl
 | c::ts,s=>(q8b C ts (addC C s c)).trans (q82 C s c)
theorem zbi (hok:StOk n E.S) (h0:0<=E.quota) {C:LdK} {s:LdS} (k:qaa) (ts:List UInt8) (P:Slc) (v:qae) (h:Inv0 B E) (hl:E.ld=some (C,s)) (hB:B+3*ts.length<=120000) :
  Inv (B+3*ts.length) (moreK E C s k ts P v).1/\(moreK E C s k ts P v).1.quota=E.quota:=by
 have ha:Inv0 (B+3*ts.length) (addE E C s ts):=by
  refine ⟨h.here,h.q,fun C1 s1 e=>?_⟩;obtain ⟨a,b,c⟩:=h.ld C s hl;cases e;refine ⟨(q8b C ts s).trans a,b,?_⟩;have:=zaa C ts s;omega
 unfold moreK;split
 ·exact ⟨ha.idle,rfl⟩
 ·rcases q3e ha hB h0 hok with ⟨h1,h2,h3⟩ | ⟨h1,h2⟩
  ·have hq:((addE E C s ts).reserve 0).1.quota=E.quota:=by
    unfold KE.reserve;split
    ·rfl
    ·split<;>rfl
   rw [if_neg (fun hh=>hh h2)];split
   ·exact ⟨h3,hq⟩
   ·have hok2:StOk n ((addE E C s ts).reserve 0).1.S:=by
     unfold KE.reserve;split
     ·exact hok
     ·split
      ·exact hok
      ·exact q5d hok _
    obtain ⟨h4,h5⟩:=zlb hok2 C (addL C s ts) (qfb E.first k) P v h3.inv0;exact ⟨h4,h5.trans hq⟩
  ·rw [h2,if_pos (by show (6:Int)≠0;omega)];exact ⟨ha.idle,rfl⟩
theorem zi0 (hok:StOk n E.S) (h0:0<=E.quota) {k:qaa} (hwk:Wide (toL k)) (ts:List UInt8) (P:Slc) (v:qae) (h:Inv B E) (hB:B+3*ts.length<=120000) :
  Inv (B+3*ts.length) (qlq E k ts P v).1/\(qlq E k ts P v).1.quota=E.quota:=by
 unfold qlq;split
 ·exact ⟨h.up (by omega),rfl⟩
 ·refine zbi (E:=begE E k) hok h0 k ts P v ⟨h.here,h.q,fun C s e=>?_⟩ rfl hB;cases e;refine ⟨rfl,hwk,?_⟩;have:potL ld0=0:=rfl;omega
theorem zky {S:St} {m:Int} (h:(numK S m).2=true):HasI S (numK S m).1:=by
 unfold numK at h ⊢;split
 ·rename_i hx;rw [dif_pos hx] at h;rcases hx.choose_spec with ⟨h1,_⟩ | ⟨_,x,hx1,_⟩
  ·rw [h1] at h;cases h
  ·exact ⟨x,hx1⟩
 ·rename_i hx;rw [dif_neg hx] at h;cases h
theorem zg3 {S:St} (hok:StOk n S) {k:qaa} (h:(qch S k).2=true):HasI S (qch S k).1:=by
 unfold qch at h ⊢;split
 ·rename_i h1;rw [if_pos h1] at h;exact zky h
 ·rename_i h1;rw [if_neg h1] at h;obtain ⟨x,hx⟩:=Option.isSome_iff_exists.1 h;exact ⟨x,(qcn hok.srt).1 hx⟩
theorem zk8 {S:St} (hok:StOk n S) (id:Int) {k:Int} (h:HasI S k):HasI (S.use id) k:=by
 unfold St.use;split
 ·by_cases e:k=id
  ·exact ⟨_,(qdv hok.srt _ _ _ _).2 (.inl ⟨e,rfl⟩)⟩
  ·obtain ⟨y,hy⟩:=h;exact ⟨y,(qdv hok.srt _ _ _ _).2 (.inr ⟨e,hy⟩)⟩
 ·exact h
theorem zki (hok:StOk n E.S) (hl:E.ld=none) (k:qaa) (v:qae) (h:Inv B E):Inv B (showK E k v).1/\(showK E k v).1.quota=E.quota:=by
 unfold showK;split
 ·exact ⟨h,rfl⟩
 ·rename_i hn;have hn:(qch E.S k).2=true:=by
   cases hh:(qch E.S k).2 with
   | true=>rfl
   | false=>exact absurd hh hn
  have hid:=zg3 hok hn;generalize (qch E.S k).1=id at *;obtain ⟨h1,h2,h3,h4,h5⟩:=qv3 { k with Id:=id } v h.here hid;split
  ·refine ⟨⟨fun p hp=>?_,?_,LdOk.none (h3.trans hl)⟩,h4⟩
   ·show HasI ((qbt E { k with Id:=id } id v).1.S.use id) p.Image;rw [h2];exact zk8 hok id (h1 p hp)
   ·show ((qbt E { k with Id:=id } id v).1.S.use id).quota=(qbt E { k with Id:=id } id v).1.quota;rw [h2,h4,<-h.q];unfold St.use;split<;>rfl
  ·exact ⟨⟨by rw [h2];exact h1,by rw [h2,h4];exact h.q,LdOk.none (h3.trans hl)⟩,h4⟩
theorem q3i (T:List Pl) (f:Int->Bool):∀(ids:List Int) (S:St),Here T S->Here T (qn8 T f S ids)/\(qn8 T f S ids).quota=S.quota/\(qn8 T f S ids).used<=S.used
 | [],S,h=>⟨h,rfl,Int.le_refl _⟩
 | i::ids,S,h=>by
  have e:qn8 T f S (i::ids)=qn8 T f (qgf T f S i) ids:=rfl;have h1:Here T (qgf T f S i)/\(qgf T f S i).quota=S.quota/\(qgf T f S i).used<=S.used:=by
   unfold qgf;split
   ·rename_i hc;simp only [Bool.and_eq_true,Bool.not_eq_true'] at hc;refine ⟨fun p hp=>?_,rfl,?_⟩
    ·obtain ⟨x,hx⟩:=h p hp;refine ⟨x,(ql6 _ _ _).2 ⟨fun e=>?_,hx⟩⟩;have:=List.any_eq_false.1 hc.2 p hp;rw [e] at this;simp at this
    ·show S.used-(szOf S.L i:Int)<=S.used;omega
   ·exact ⟨h,rfl,Int.le_refl _⟩
  obtain ⟨a,b,c⟩:=q3i T f ids _ h1.1;rw [e];exact ⟨a,b.trans h1.2.1,Int.le_trans c h1.2.2⟩
theorem q71 (f:Int->Bool) (ids:List Int) (h:Inv B E):Inv B (qc3 E f ids):=by
 obtain ⟨a,b,c⟩:=q3i E.T f ids E.S h.here;refine ⟨a,b.trans h.q,fun C s e=>?_⟩;obtain ⟨x,y,z,t⟩:=h.ld C s e;refine ⟨x,y,z,?_⟩;show (s.b.length:Int)+(qn8 E.T f E.S ids).used<=E.quota;omega
theorem qyv (f:Pl->Bool) (h:Inv B E):Inv B { E with T:=E.T.filter f }:=⟨fun p hp=>h.here p (List.mem_filter.1 hp).1,h.q,h.ld⟩
theorem zf1 (k:qaa) (v:qae) (h:Inv B E):Inv B (qs3 E k v)/\(qs3 E k v).quota=E.quota:=by
 unfold qs3;split
 ·exact ⟨h,rfl⟩
 ·unfold goneK;split
  ·exact ⟨q71 _ _ (qyv _ h),rfl⟩
  ·exact ⟨qyv _ h,rfl⟩
theorem zgf (alt:Bool) (first:Int) (h:Inv B E):Inv B (prunE E alt first)/\(prunE E alt first).quota=E.quota:=⟨q71 _ _ (qyv _ h),rfl⟩
theorem zi1 (hok:StOk n E.S) (h0:0<=E.quota) (hl:E.ld=none) {k:qaa} (hwk:Wide (toL k)) (ts:List UInt8) (P:Slc) (v:qae) (h:Inv B E) (hB:B+3*ts.length<=120000) :
  Inv (B+3*ts.length) (goK E k ts P v).1/\(goK E k ts P v).1.quota=E.quota:=by
 unfold goK;split
 ·exact zi0 hok h0 hwk ts P v h hB
 ·split
  ·obtain ⟨a,b⟩:=zki hok hl k v h;exact ⟨a.up (by omega),b⟩
  ·split
   ·obtain ⟨a,b⟩:=zf1 k v h;exact ⟨a.up (by omega),b⟩
   ·exact ⟨h.up (by omega),rfl⟩
theorem zl8 (hok:StOk n E.S) (h0:0<=E.quota) (bs:List UInt8) (P:Slc) (v:qae) (h:Inv B E) (hB:B+3*bs.length<=120000):Inv (B+3*bs.length) (doK E bs P v).1/\(doK E bs P v).1.quota=E.quota:=by
 unfold doK;split
 ·exact ⟨h.up (by omega),rfl⟩
 ·rename_i b r;split
  ·exact ⟨h.up (by omega),rfl⟩
  ·split
   ·exact ⟨h.up (by omega),rfl⟩
   ·have hwk:=q6l (headB 59 r);have hlen:=q1t 59 r;rw [List.length_cons] at hB ⊢;generalize ofL (qdz (headB 59 r)).1=k at *;generalize tailB 59 r=ts at *;have hup:∀{X:KE},Inv (B+3*ts.length) X/\X.quota=E.quota->Inv (B+3*(r.length+1)) X/\X.quota=E.quota:=fun h=>⟨h.1.up (by omega),h.2⟩;unfold cmdK;split
    ·rename_i C s hl;split
     ·exact hup (zbi hok h0 k ts P v h.inv0 hl (by omega))
     ·exact hup (zi1 (E:=E.idle) (qob hok 0) h0 rfl hwk ts P v h.inv0.idle (by omega))
    ·rename_i hl;exact hup (zi1 hok h0 hl hwk ts P v h (by omega))
theorem zlu (hok:StOk n E.S) (hn:n<=1000) (P:Slc) (he:qgg E.S 0 0 W H bs.length=0):StOk (n+1) (gotE E W H bs P).S:=by
 have hq:(bs.length:Int)<=E.S.quota:=by
  unfold qgg at he;split at he
  ·split at he
   ·cases he
   ·omega
  ·cases he
 have hp0:=q2p hok 0;have hk5:StOk n (E.S.putPre 0 bs.length).1:=ql9 _ _ hp0;have hfit:(E.S.putPre 0 bs.length).1.used<=E.S.quota-bs.length:=qsr (S:=pre0 E.S 0) (G:=[]) (by omega) _ hp0 hq (le_refl _);have hqq:=qtk E.S 0 bs.length;exact zby hk5 (q5s hk5 hn fun h=>absurd rfl h) (q4o hk5 hn (by decide)) (by omega)
theorem zgn (hok:StOk n E.S) (hn:n<=1000) (h0:0<=E.quota) (P:Slc) (v:qae) (h:Inv B E) (hB:B<=120000):Inv B (qt2 E W H bs P v)/\(qt2 E W H bs P v).quota=E.quota:=by
 unfold qt2;split
 ·exact ⟨h,rfl⟩
 ·rename_i he;have he:qgg E.S 0 0 W H bs.length=0:=by omega
  have hg:Inv0 B (gotE E W H bs P):=by
   refine ⟨q1z h.here fun j hj hn=>qyk hok _ (.inl (q56 hj (fun h0=>absurd rfl h0) hn)),(qtk _ _ _).trans h.q,h.inv0.ld⟩
  have hid:HasI (gotE E W H bs P).S (idI E bs):=qyk hok _ (.inr rfl);obtain ⟨h1,h2,h3,h4,h5⟩:=qv3 (ofL qb2) v hg.here hid;have hs:=q7q (ofL qb2) v hg hid;have hok3:StOk (n+1) (qbt (gotE E W H bs P) (ofL qb2) (idI E bs) v).1.S:=by
   rw [h2];exact zlu hok hn P he
  have hq4:(qbt (gotE E W H bs P) (ofL qb2) (idI E bs) v).1.quota=E.quota:=h4;have hres:∀X:KE,(X.reserve 0).1.quota=X.quota:=fun X=>by
   unfold KE.reserve;split
   ·rfl
   ·split<;>rfl
  have hheld:heldK (qbt (gotE E W H bs P) (ofL qb2) (idI E bs) v).1=heldK E:=by
   unfold heldK;rw [h3];rfl
  have hheldq:(heldK E:Int)<=E.quota:=by
   have hf:=hok.fits;have hq:=h.q;have hu:=hok.used;unfold heldK;cases hl:E.ld with
   | none=>simp;omega
   | some x =>
    obtain ⟨C,s⟩:=x;have:=(h.ld C s hl).2.2.2;dsimp only;omega
  rcases q3e hs hB (by rw [hq4];exact h0) hok3 with ⟨_,_,h7⟩ | ⟨h6,_⟩
  ·exact ⟨h7,(hres _).trans hq4⟩
  ·rw [hheld,hq4] at h6;omega
end
end Go.Proofs.YtedcpbkcamckoaaGreatDoor
namespace Go.Vc
open Go.ChangeShapes Go.WideShapes Go.ChangeAt Go.RowKit Go.Deep
inductive Leaf2 where
 | one (l:Leaf)
 | sl (e:TypeId)
def Leaf2.ok (R:TypeId->Slc->Prop):Leaf2->Value->Prop
 | .one l,v=>l.ok v
 | .sl e,v=>∃s:Slc,v=.slice s.a s.n s.c/\R e s
def goF2 (P:Program) (g:TypeId->Option (List Leaf2)):List Field->Nat->Option (List Leaf2)
 | [],_=>some []
 | f::r,off =>
  match g f.type with
  | some ls=>if f.offset=off/\P.cellsOf f.type=ls.length then (goF2 P g r (off+ls.length)).map (ls++·) else none
  | none=>none
def qy6 (P:Program) (es:List TypeId):Nat->TypeId->Option (List Leaf2)
 | 0,_=>none
 | n+1,t =>
  match P.underlying t with
  | some (.int k)=>some [.one (.int k)]
  | some .bool=>some [.one .bool]
  | some .string=>some [.one .str]
  | some (.slice e)=>if e∈es then some [.sl e] else none
  | some (.struct fs)=>goF2 P (qy6 P es n) fs.toList 0
  | _=>none
def qps (R:TypeId->Slc->Prop) (ls:List Leaf2) (cs:List Value):Prop:=∀(j:Nat) l,ls[j]?=some l->∃v,cs[j]?=some v/\l.ok R v
theorem q75 {P:Program} {R:TypeId->Slc->Prop} {g:TypeId->Option (List Leaf2)} {cs:List Value}:∀(fs:List Field) (off:Nat) (ls:List Leaf2),goF2 P g fs off=some ls ->
  (∀f∈fs,∀lf,g f.type=some lf->P.cellsOf f.type=lf.length->qps R lf ((cs.drop f.offset).take (P.cellsOf f.type)))->∀(j:Nat) l,ls[j]?=some l->∃v,cs[off+j]?=some v/\l.ok R v
 | [],_,ls,h,_,j,l,hl=>by
  simp only [goF2,Option.some.injEq] at h;subst h;simp at hl
 | f::r,off,ls,h,hf,j,l,hl=>by
  unfold goF2 at h;split at h
  ·rename_i lf hg;split at h
   ·rename_i hc;obtain ⟨rest,hr,e⟩:=Option.map_eq_some_iff.1 h;subst e;rcases Nat.lt_or_ge j lf.length with hj | hj
    ·rw [List.getElem?_append_left hj] at hl;obtain ⟨v,hv,ok⟩:=hf f (by simp) lf hg hc.2 j l hl;rw [hc.2,List.getElem?_take_of_lt hj,List.getElem?_drop,hc.1] at hv;exact ⟨v,hv,ok⟩
    ·rw [List.getElem?_append_right hj] at hl;obtain ⟨v,hv,ok⟩:=q75 r (off+lf.length) rest hr (fun f' hf'=>hf f' (by simp [hf'])) _ l hl;exact ⟨v,by rw [<-hv];congr 1;omega,ok⟩
   ·cases h
  ·cases h
section
variable {H:Type} {enc:TypeId×Value->H} {P:Program} {w:World} {base:Nat} {spare:Nat->Bool} {held:Bool}
theorem q5u {R:TypeId->Slc->Prop} {es:List TypeId} (hR:∀{e t:TypeId} {fuel:Nat} {cs:List Value} {x:DataW H×List MemPlace},e∈es->P.underlying t=some (.slice e)->DataW.trod enc P w base spare held fuel t cs=some x->∃s:Slc,cs=[.slice s.a s.n s.c]/\R e s) :
  ∀(n:Nat) {t:TypeId} {ls:List Leaf2} {fuel:Nat} {cs:List Value} {x:DataW H×List MemPlace},qy6 P es n t=some ls->DataW.trod enc P w base spare held fuel t cs=some x->qps R ls cs
 | 0,_,_,_,_,_,h,_=>by cases h
 | n+1,t,ls,fuel,cs,x,h,ht=>by
  unfold qy6 at h;split at h
  ·next k hu =>
   cases h;obtain ⟨z,rfl,_,hw⟩:=DataW.trod_int hu ht;intro j l hl
   match j,hl with
   | 0,hl=>cases hl;exact ⟨_,rfl,z,rfl,hw⟩
   | j+1,hl=>cases hl
  ·next hu =>
   cases h;obtain ⟨z,rfl,_⟩:=DataW.trod_bool hu ht;intro j l hl
   match j,hl with
   | 0,hl=>cases hl;exact ⟨_,rfl,z,rfl⟩
   | j+1,hl=>cases hl
  ·next hu =>
   cases h;obtain ⟨z,rfl,_⟩:=DataW.trod_string hu ht;intro j l hl
   match j,hl with
   | 0,hl=>cases hl;exact ⟨_,rfl,z,rfl⟩
   | j+1,hl=>cases hl
  ·next e hu =>
   split at h
   ·next he =>
    cases h;obtain ⟨s,rfl,hs⟩:=hR he hu ht;intro j l hl
    match j,hl with
    | 0,hl=>cases hl;exact ⟨_,rfl,s,rfl,hs⟩
    | j+1,hl=>cases hl
   ·cases h
  ·next fs hu =>
   obtain ⟨xs,m,_,_,_,hxl,hf⟩:=DataW.trod_struct hu ht;intro j l hl;have:=q75 (cs:=cs) fs.toList 0 ls h (fun f hfm lf hg _=>by
    obtain ⟨i,hi⟩:=List.getElem?_of_mem hfm;rw [Array.getElem?_toList] at hi;have h1:=hf i f hi;have hil:i<xs.length:=by rw [hxl];exact (Array.getElem?_eq_some_iff.1 hi).1
    rw [List.getElem?_eq_getElem hil] at h1;exact q5u hR n hg h1) j l hl
   simpa using this
  ·cases h
theorem q3t {T:Type} (E:El T) (Q:T->Prop) {t e:TypeId} {fuel:Nat} {cs:List Value} {x:DataW H×List MemPlace} (ht:P.underlying t=some (.slice e)) (hC:P.cellsOf e=E.k)
  (mk:∀(fuel:Nat) (vs:List Value) (y:DataW H×List MemPlace),vs.length=E.k->DataW.trod enc P w base (fun _=>true) held fuel e vs=some y->∃x:T,E.cells x=vs/\Q x) (hf:DataW.trod enc P w base (fun _=>true) held fuel t cs=some x):∃(s:Slc) (xs:List T),cs=[.slice s.a s.n s.c]/\Rd E w s xs/\∀x∈xs,Q x:=by
 rcases open_slice ht hf with ⟨hcs,_⟩ | ⟨a,n0,c0,m,n',D,Pl,hcs,hb,hl,hm,hmm,hx,hi⟩
 ·exact ⟨⟨none,0,0⟩,[],hcs,Rd.nil E w,fun x hx=>by cases hx⟩
 ·rw [if_pos rfl] at hmm;have:∀i,i<n0->∃x:T,qa6 w (a.add (i*E.k)) (E.cells x)/\Q x:=by
   intro i hil;obtain ⟨cs',hc,ht'⟩:=hi i (by omega);rw [hC] at hc;obtain ⟨_,hcl,hat⟩:=World.cells?_some hc;obtain ⟨x,hx,hq⟩:=mk _ cs' _ hcl ht';refine ⟨x,fun j u hu=>?_,hq⟩;rw [hx] at hu;have hj:j<E.k:=by rw [<-hcl];exact (List.getElem?_eq_some_iff.1 hu).1
   rw [hat j hj,hu]
  obtain ⟨xs,hxl,hxs⟩:=q33 n0 this;refine ⟨⟨some a,n0,c0⟩,xs,hcs,⟨hxl.symm,hl,hm,fun _=>rfl,fun i x hx=>(hxs i x hx).1⟩,fun x hx=>?_⟩;obtain ⟨i,hi⟩:=List.getElem?_of_mem hx;exact (hxs i x hi).2
end
end Go.Vc
namespace Go.Proofs.YtedcpbkcamckoaaGreatDoor
open Go.Vc Go.ChangeShapes Go.WideShapes Go.ChangeAt Go.RowKit
set_option maxRecDepth 100000
def zio:List Leaf:=[.int .u8]
theorem zcg:q2h Tryz.prog 4 5=some zio:=by kernel_rfl
theorem zlj (vs:List Value) (hl:vs.length=1) (h:q2q zio vs):∃x:UInt8,qad.cells x=vs/\True:=by
 obtain ⟨z,h0,w0⟩:=zjk h 0 rfl;have hw:=(Lit.wf_int_iff _ _).1 w0;rw [IntKind.min_u8,show IntKind.u8.max=255 from rfl] at hw;refine ⟨u8 z,q3b hl fun j hj=>?_,trivial⟩
 match j,hj with
 | 0,_ =>
  show some (Value.int .u8 ((u8 z).toNat:Int))=_;rw [zaf hw.1 (by omega)];exact h0.symm
 | j+1,hj=>exact absurd hj (by simp [qad])
def actE:El qct where
 cells:=qct.rep.cells
 t:=41
 k:=19
 pos:=by decide
 len _:=rfl
 one x v hv:=by
  simp only [qct.rep,List.mem_cons,List.mem_nil_iff,or_false] at hv;rcases hv with rfl | rfl | rfl | rfl | rfl | rfl | rfl | rfl | rfl | rfl | rfl | rfl | rfl | rfl | rfl | rfl | rfl | rfl | rfl<;>rfl
def actLs:List Leaf2:=[.one (.int .i64),.sl 5,.one .bool,.one (.int .i64),.one (.int .i64),.one (.int .i64),.one (.int .i64),.one (.int .i64),.one (.int .i64),.one (.int .i64),.one (.int .i64),.one (.int .i64),.sl 5,.one .bool,.one (.int .i64),.one (.int .i64),.one (.int .i64),.one (.int .i64),.one (.int .i64)]
theorem zed:qy6 Tryz.prog [5] 8 41=some actLs:=by kernel_rfl
theorem qc6 {R:TypeId->Slc->Prop} {ls:List Leaf2} {vs:List Value} {k:IntKind} (h:qps R ls vs) (j:Nat) (hj:ls[j]?=some (.one (.int k))):∃z,vs[j]?=some (.int k z):=by
 obtain ⟨v,hv,z,rfl,hw⟩:=h j _ hj;exact ⟨z,hv⟩
theorem q5f {R:TypeId->Slc->Prop} {ls:List Leaf2} {vs:List Value} (h:qps R ls vs) (j:Nat) (hj:ls[j]?=some (.one .bool)):∃z,vs[j]?=some (.bool z):=by
 obtain ⟨v,hv,z,rfl⟩:=h j _ hj;exact ⟨z,hv⟩
theorem zab {R:TypeId->Slc->Prop} {ls:List Leaf2} {vs:List Value} {e:TypeId} (h:qps R ls vs) (j:Nat) (hj:ls[j]?=some (.sl e)):∃s:Slc,vs[j]?=some (.slice s.a s.n s.c)/\R e s:=by
 obtain ⟨v,hv,s,rfl,hw⟩:=h j _ hj;exact ⟨s,hv,hw⟩
def actR (w:World) (e:TypeId) (s:Slc):Prop:=∃ds,Rd qad w s ds
structure ActQ (w:World) (x:qct):Prop where
 c:∃ds,Rd qad w x.Command ds
 p:∃ds,Rd qad w x.M.P ds
theorem zl3 {w:World} (vs:List Value) (hl:vs.length=19) (h:qps (actR w) actLs vs):∃x:qct,actE.cells x=vs/\ActQ w x:=by
 obtain ⟨z0,h0⟩:=qc6 h 0 rfl;obtain ⟨s1,h1,r1⟩:=zab h 1 rfl;obtain ⟨z2,h2⟩:=q5f h 2 rfl;obtain ⟨z3,h3⟩:=qc6 h 3 rfl;obtain ⟨z4,h4⟩:=qc6 h 4 rfl;obtain ⟨z5,h5⟩:=qc6 h 5 rfl;obtain ⟨z6,h6⟩:=qc6 h 6 rfl;obtain ⟨z7,h7⟩:=qc6 h 7 rfl;obtain ⟨z8,h8⟩:=qc6 h 8 rfl;obtain ⟨z9,h9⟩:=qc6 h 9 rfl;obtain ⟨z10,h10⟩:=qc6 h 10 rfl;obtain ⟨z11,h11⟩:=qc6 h 11 rfl;obtain ⟨s12,h12,r12⟩:=zab h 12 rfl;obtain ⟨z13,h13⟩:=q5f h 13 rfl;obtain ⟨z14,h14⟩:=qc6 h 14 rfl;obtain ⟨z15,h15⟩:=qc6 h 15 rfl;obtain ⟨z16,h16⟩:=qc6 h 16 rfl;obtain ⟨z17,h17⟩:=qc6 h 17 rfl;obtain ⟨z18,h18⟩:=qc6 h 18 rfl;refine ⟨⟨z0,s1,⟨⟨z2,z3,z4,z5,z6,z7⟩,z8,z9⟩,⟨z10,z11,s12⟩,z13,z14,z15,z16,z17,z18⟩,q3b hl fun j hj=>?_,r1,r12⟩
 match j,hj with
 | 0,_=>exact h0.symm
 | 1,_=>exact h1.symm
 | 2,_=>exact h2.symm
 | 3,_=>exact h3.symm
 | 4,_=>exact h4.symm
 | 5,_=>exact h5.symm
 | 6,_=>exact h6.symm
 | 7,_=>exact h7.symm
 | 8,_=>exact h8.symm
 | 9,_=>exact h9.symm
 | 10,_=>exact h10.symm
 | 11,_=>exact h11.symm
 | 12,_=>exact h12.symm
 | 13,_=>exact h13.symm
 | 14,_=>exact h14.symm
 | 15,_=>exact h15.symm
 | 16,_=>exact h16.symm
 | 17,_=>exact h17.symm
 | 18,_=>exact h18.symm
 | j+19,hj=>exact absurd hj (by simp [actE,qct.rep])
section
variable {H:Type} {enc:TypeId×Value->H} {w:World} {base:Nat} {held:Bool} {r:Reach} {b0:Nat} {v:Value} {d:DataW H} {p:List MemPlace}
theorem zcp {e t:TypeId} {fuel:Nat} {cs:List Value} {x:DataW H×List MemPlace} (he:e∈[5]) (ht:Tryz.prog.underlying t=some (.slice e)) (hf:DataW.trod enc Tryz.prog w base (fun _=>true) held fuel t cs=some x):∃s:Slc,cs=[.slice s.a s.n s.c]/\actR w e s:=by
 have he:e=5:=by simpa using he
 subst he;have a:=@q3t H enc Tryz.prog w base held UInt8 qad (fun _=>True) t 5 fuel cs x ht (by kernel_rfl) (fun fuel vs y hl hf=>zlj vs hl (q8r 4 zcg hf)) hf;obtain ⟨s,xs,h1,h2,h3⟩:=a;exact ⟨s,h1,xs,h2⟩
theorem zhw {t:TypeId} (ht:Tryz.prog.underlying t=some (.slice 41)) (hv:Value.okWide Tryz.prog w r b0 t v) (h:DataW.Trod enc Tryz.prog w base (fun _=>true) held t v d p):∃(s:Slc) (xs:List qct),v=.slice s.a s.n s.c/\Rd actE w s xs/\∀x∈xs,ActQ w x:=by
 obtain ⟨a0,n0,c0,rfl⟩:=okWide_slice ht hv;obtain ⟨fuel,hf⟩:=h;have a:=@q3t H enc Tryz.prog w base held qct actE (ActQ w) t 41 fuel _ _ ht (by kernel_rfl) (fun fuel vs y hl hf=>zl3 vs hl (q5u (fun he ht hf=>zcp he ht hf) 8 zed hf)) hf;obtain ⟨s,xs,h1,h2,h3⟩:=a;simp only [Value.cells,List.cons.injEq,and_true] at h1;exact ⟨s,xs,h1,h2,h3⟩
end
end Go.Proofs.YtedcpbkcamckoaaGreatDoor
namespace Go.Proofs.YtedcpbkcamckoaaGreatDoor
open Go.Vc Go.RowKit
set_option maxRecDepth 400000
open _root_.Nat (zero_le)
abbrev ActT:=qct
structure ActF (w:World) (l:Slc) (xs:List ActT):Prop where
 rd:Rd actE w l xs
 q:∀x∈xs,ActQ w x
def lenA (x:ActT):Nat:=x.Command.n+x.M.P.n
def totA:List ActT->Nat
 | []=>0
 | x::l=>lenA x+totA l
theorem q4r:∀(a b:List ActT),totA (a++b)=totA a+totA b
 | [],b=>by simp [totA]
 | x::a,b=>by
  show lenA x+totA (a++b)=lenA x+totA a+totA b;rw [q4r a b];omega
theorem q8d {xs:List ActT} {k:Nat} {x:ActT} (hx:xs[k]?=some x):totA (xs.take (k+1))=totA (xs.take k)+lenA x:=by
 rw [List.take_add_one,hx,Option.toList_some,q4r];rfl
theorem zk0 (xs:List ActT) (k:Nat):totA (xs.take k)<=totA xs:=by
 have:=q4r (xs.take k) (xs.drop k);rw [List.take_append_drop] at this;omega
section
variable {w w':World} {base g n:Nat} {F F':KF} {E E':KE}
theorem ActQ.ext {x:ActT} (h:ActQ w x) (hb:Below w.heap.size w w'):ActQ w' x:=⟨h.c.imp fun _ h=>h.ext hb,h.p.imp fun _ h=>h.ext hb⟩
theorem ActF.ext {l:Slc} {xs:List ActT} (h:ActF w l xs) (hb:Below w.heap.size w w'):ActF w' l xs:=⟨h.rd.ext hb,fun x hx=>(h.q x hx).ext hb⟩
theorem ziz {l:Slc} {xs:List ActT} (h:ActF w l xs) {k:Nat} {x:ActT} (hx:xs[k]?=some x) {K:Addr->Prop} (hK:qa6 w (l.at_ 19 k) (actE.cells x)->K (l.at_ 19 k)):ixK l k 19 K:=by
 have hk:=(List.getElem?_eq_some_iff.1 hx).1;refine h.rd.ix (E:=actE) rfl (by omega) (by omega) fun hc=>?_;simp only [Int.toNat_natCast] at hc ⊢;rw [(List.getElem?_eq_some_iff.1 hx).2] at hc;exact hK hc
theorem q8k (v:qae) {K:Bool->World->Prop} (hK:∀b w',Below w.heap.size w w'->K b w'):qp9 v w K:=by
 refine q7d _ ?_;unfold q1i;refine nwb fun w1 hb hB1 hs1=>?_;have hK:=fun b=>hK b w1 hB1;have ld:∀(j:Nat) {x:Int} {X:Int->Prop},(qae.rep.cells v)[j]?=some (.int .i64 x)->X x->ldI .i64 ((⟨w.heap.size,0,none⟩:Addr).add j) w1 X:=fun j x X h hx=>lI (x:=x) (hb.cells j _ h) hx;refine ld 1 (x:=v.View.Top) rfl (cO (fun _=>?_) fun _=>hK _);refine ld 1 (x:=v.View.Top) rfl (cO (fun _=>?_) fun _=>hK _);refine ld 2 (x:=v.View.Rows) rfl (cO (fun _=>?_) fun _=>hK _);refine ld 2 (x:=v.View.Rows) rfl (cO (fun _=>?_) fun _=>hK _);refine ld 3 (x:=v.View.Cols) rfl (cO (fun _=>?_) fun _=>hK _);refine ld 3 (x:=v.View.Cols) rfl (cO (fun _=>?_) fun _=>hK _);refine ld 4 (x:=v.View.Row) rfl (cO (fun _=>?_) fun _=>hK _);refine ld 4 (x:=v.View.Row) rfl (ld 2 (x:=v.View.Rows) rfl (cO (fun _=>?_) fun _=>hK _));refine ld 5 (x:=v.View.Col) rfl (cO (fun _=>?_) fun _=>hK _);exact ld 5 (x:=v.View.Col) rfl (ld 3 (x:=v.View.Cols) rfl (hK _))
theorem zeu {l:Slc} {xs:List ActT} (h:ActF w l xs) {K:Bool->World->Prop} (hK:∀b w',Below w.heap.size w w'->(b=true->xs.length<=60/\totA xs<=16384)->K b w'):q03 l w K:=by
 refine zaq _ ?_;unfold q5l;have hl:l.n=xs.length:=h.rd.n;have hlm:xs.length<=9223372036854775807:=by rw [<-hl];exact Nat.le_trans h.rd.nc h.rd.cm
 refine lpR (fun (st:Int×Int×Unit) w1=>∃k:Nat,st.2.1=(k:Int)/\k<=xs.length/\st.1=(totA (xs.take k):Int)/\totA (xs.take k)<=196608/\Below w.heap.size w w1) (fun st=>xs.length-st.2.1.toNat)
  ⟨0,rfl,zero_le _,rfl,zero_le _,Below.refl _ _⟩ ?_
 rintro ⟨n,i,u⟩ w1 ⟨k,hi,hk,hn,hn2,hB⟩ I hI;dsimp only at hi hn ⊢;subst hi hn;refine cO (fun e=>?_) fun e=>?_
 ·have e:=oTq e;have hlt:k<xs.length:=by omega
  obtain ⟨x,hx⟩:∃x,xs[k]?=some x:=⟨_,List.getElem?_eq_getElem hlt⟩;have ix:∀{w2:World} {K:Addr->Prop},Below w.heap.size w w2->(qa6 w2 (l.at_ 19 k) (actE.cells x)->K (l.at_ 19 k))->ixK l k 19 K:=fun hB2 hK2=>ziz (h.ext hB2) hx hK2;have hBd:Below w.heap.size w w1.drew:=qat hB (qcr w1);refine jpO fun J hJ=>?_;refine ix hB fun hc=>lSl (x:=x.Command) (hc 1 _ rfl) ?_;refine cO (fun e1=>hK _ _ hB (fun hh=>by cases hh)) fun e1=>?_;refine ix hB fun hc=>lSl (x:=x.M.P) (by rw [qnf];exact hc 12 _ rfl) ?_;refine cO (fun e2=>hK _ _ hB (fun hh=>by cases hh)) fun e2=>?_;refine cO (fun e3=>hK _ _ hB (fun hh=>by cases hh)) fun e3=>hJ _ _ ?_;have e1:=oFq e1;have e2:=oFq e2;have e3:=oFq e3;refine ix hBd fun hc=>lSl (x:=x.Command) (hc 1 _ rfl) ?_;refine ix hBd fun hc=>lSl (x:=x.M.P) (by rw [qnf];exact hc 12 _ rfl) ?_;rw [w64i (x:=(totA (xs.take k):Int)+((x.Command.n:Nat):Int)) (by omega),w64i (x:=(totA (xs.take k):Int)+((x.Command.n:Nat):Int)+((x.M.P.n:Nat):Int)) (by omega),w64i (x:=(k:Int)+1) (by omega)];have ht:=q8d hx;have hln:lenA x=x.Command.n+x.M.P.n:=rfl;exact hI _ _ ⟨k+1,by simp,by omega,by show _=_;rw [ht,hln];omega,by omega,hBd⟩ (by dsimp only;omega)
 ·have e:=oFq e;have hkl:k=xs.length:=by omega
  rw [hkl,List.take_length];refine cO (fun e1=>?_) fun e1=>hK _ _ hB fun hh=>by cases hh
  have e1:=oTq e1;exact hK _ _ hB fun hh=>⟨by omega,by have:=oTq hh;omega⟩
theorem zd0 {l:Slc} {xs:List ActT} (hT:Tab w) (quota:Int) (hF:ActF w l xs) {K:Bool->World->Prop} (hK:∀w',Below w.heap.size w w'->K true w'):qr1 quota l w K:=by
 have h4:4<=w.heap.size:=zar (g:=3) (by kernel_rfl) hT;refine qyq _ _ ?_;unfold qqz;refine q1w hT h4 fun w1 hB1=>cF rfl ?_;refine jpO fun J1 hJ1=>?_;refine zeu (hF.ext hB1) fun b w2 hB2 hfew=>?_;have B2:=qat hB1 hB2;refine cO (fun e=>hK _ B2) fun e=>?_;obtain ⟨f1,f2⟩:=hfew (by revert e;cases b<;>simp);refine cO (fun _=>hK _ B2) fun q0=>cO (fun _=>hK _ B2) fun q1=>hJ1 _ _ ?_;have q0:=oFq q0;have q1:=oFq q1;have q0:0<=quota:=by omega
 have q1:quota<=16384:=by omega
 refine q8t (fun h=>?_) fun he g F w3 hg h3 hB3=>?_
 ·unfold qli at h;split at h
  ·omega
  ·cases h
 have B3:=qat B2 hB3;have z2:=B2.size;have z3:=hB3.size;have hTab3:Tab w3:=hT.ext B3;generalize hbase:w2.heap.size=base at *;have h4b:4<=base:=by omega
 refine jpO fun J2 hJ2=>cF rfl (cF rfl (hJ2 _ _ ?_));have hl:l.n=xs.length:=hF.rd.n;have hi0:Inv 0 (newE quota):=⟨fun p hp=>(by cases hp),rfl,LdOk.none rfl⟩;refine lpR (fun (st:Int×Unit) w4=>∃(k:Nat) (F4:KF) (E4:KE),st.1=(k:Int)/\k<=xs.length/\EngT base g w3 F F4 E4 (2*k) w4/\Inv (3*totA (xs.take k)) E4/\E4.quota=quota) (fun st=>xs.length-st.1.toNat)
  ⟨0,F,newE quota,rfl,zero_le _,EngT.refl h3,hi0,rfl⟩ ?_
 rintro ⟨i,u⟩ w4 ⟨k,F4,E4,hi,hk,hE4,hv4,hq4⟩ I hI;dsimp only at hi ⊢;subst hi;have B4:Below w.heap.size w w4:=B3.trans ((EngT.belowB h3 hE4).mono (by omega));refine cO (fun e=>?_) fun e=>hK _ B4;have e:=oTq e;have hlt:k<xs.length:=by omega
 obtain ⟨x,hx⟩:∃x,xs[k]?=some x:=⟨_,List.getElem?_eq_getElem hlt⟩;have hxm:=List.mem_of_getElem? hx;have ht:=q8d hx;have htl:=zk0 xs (k+1);have hln:lenA x=x.Command.n+x.M.P.n:=rfl;refine ziz (hF.ext B4) hx fun hc=>qaj (r:=qct.rep) (x:=x) hc ?_;refine qcu (vs:=qct.rep.cells x) rfl fun w5 ha5 hB5 hs5=>?_;have hE5:=hE4.ext hB5;have z4:=hE4.chg.size;have B5:=qat B4 hB5;have hTab5:Tab w5:=hTab3.stepK h3 h4b hE5;refine jpO fun J4 hJ4=>?_;have j4:∀(F6:KF) (E6:KE) (w6:World),EngT base g w3 F F6 E6 (2*(k+1)) w6->Inv (3*totA (xs.take (k+1))) E6->E6.quota=quota->J4 (()) w6:=by
  intro F6 E6 w6 hE6 hv6 hq6;refine hJ4 _ _ ?_;have B6:Below w.heap.size w w6:=B3.trans ((EngT.belowB h3 hE6).mono (by omega));have hok:=hE6.m.ok;refine qzm hE6.m (by omega) fun tg q' w7 ht7 hB7=>?_;refine q52 ht7 (by have:=hE6.m.tl;omega) fun r w8 hr8 hB8=>?_;refine qt6 ((hE6.m.ext hB7).ext hB8) fun sg sr w9 hsg hsr hst9 hB9=>?_;have hr9:=hr8.rd.ext hB9;have B69:Below w6.heap.size w6 w9:=qck hB7 hB8 hB9;have hrl:r.n=E6.T.length:=hr8.rd.n;have htl6:=hE6.m.tl;refine lpR (fun (st:Int×Unit) wx=>∃m:Nat,st.1=(m:Int)/\m<=E6.T.length/\Below w9.heap.size w9 wx) (fun st=>E6.T.length-st.1.toNat) ⟨0,rfl,zero_le _,Below.refl _ _⟩ ?_;rintro ⟨i,u⟩ wx ⟨m,hi,hm,hBx⟩ I5 hI5;dsimp only at hi ⊢;subst hi;have hB6x:Below w6.heap.size w6 wx:=qat B69 hBx;have hstx:=hst9.ext hBx;refine cO (fun e=>?_) fun e=>?_
  ·have e:=oTq e;have hlt:m<E6.T.length:=by omega
   obtain ⟨p,hp⟩:∃p,E6.T[m]?=some p:=⟨_,List.getElem?_eq_getElem hlt⟩;refine (hr9.ext hBx).ix (E:=qa1) (i:=(m:Int)) rfl (by omega) (by omega) fun hc=>?_;have e1:E6.T[(m:Int).toNat]'(by omega)=p:=(List.getElem?_eq_some_iff.1 (by simpa using hp)).2;rw [e1] at hc;refine lI (x:=p.Image) (hc 0 _ rfl) ?_;refine q4p hstx hok p.Image fun P w10 hP hB10=>?_;refine qcu (vs:=qab.rep.cells ⟨_,_,P⟩) rfl fun w11 hx11 hB11 hs11=>?_;obtain ⟨y,hy⟩:=hv6.here p (List.mem_of_getElem? hp);have his:(lookL E6.S.L p.Image).isSome=true:=by rw [(qcn hok.srt).2 hy];rfl
   rw [his];refine cF rfl ?_;rw [w64i (x:=(m:Int)+1) (by omega)];exact hI5 _ _ ⟨m+1,by simp,by omega,qck hBx hB10 hB11⟩ (by dsimp only;omega)
  ·have hEx:EngT base g w3 F F6 E6 (2*(k+1)) wx:=hE6.ext hB6x;have hfit:=hok.fits;have hqq:=hv6.q;have hu:(heldK E6:Int)+E6.S.used<=quota/\0<=E6.S.used/\E6.S.used<=quota:=by
    have h0:=hok.used;refine ⟨?_,by omega,by omega⟩;unfold heldK;cases hld:E6.ld with
    | none=>dsimp only;omega
    | some y =>
     obtain ⟨C,s⟩:=y;have:=(hv6.ld C s hld).2.2.2;dsimp only;omega
   refine q28 hstx (cF (dFq (by omega)) ?_);refine qwc hEx.m (cF (dFq (by omega)) ?_);refine q28 hstx (qwc hEx.m (cF (dFq ?_) ?_))
   ·rw [i64_in (by omega)];omega
   ·rw [w64i (x:=(k:Int)+1) (by omega)];exact hI _ _ ⟨k+1,F6,E6,by simp,by omega,hEx,hv6,hq6⟩ (by dsimp only;omega)
 have skip:∀w6,Below w5.heap.size w5 w6->J4 (()) w6:=fun w6 hB6=>j4 F4 E4 w6 ((hE5.ext hB6).up (by omega)) (hv4.up (by omega)) hq4;have hn:2*k<=900:=by omega
 refine jpO fun J6 hJ6=>?_;have op3:∀w6,Below w5.heap.size w5 w6->J6 (false,()) w6:=by
  intro w6 hB6;refine hJ6 _ _ (cF rfl ?_);have ha6:=ha5.ext hB6;refine jpO fun J7 hJ7=>?_;have op1:J7 (false,()) w6:=by
   refine hJ7 _ _ (cF rfl (jpO fun J8 hJ8=>?_));refine lI (x:=x.Op) (ha6.cells 0 _ rfl) (cO (fun _=>?_) fun _=>hJ8 _ _ (cF rfl (skip w6 hB6)));refine qaj (r:=qae.rep) (x:=x.V) (ha6.sub 2 _ rfl) (q8k x.V fun b w7 hB7=>hJ8 _ _ ?_);have hB67:=qat hB6 hB7;have ha7:=ha6.ext hB7;refine cO (fun _=>?_) fun _=>skip w7 hB67;have hE7:=hE5.ext hB67;obtain ⟨bs,hbs⟩:=(hF.q x hxm).c;have hbl:x.Command.n=bs.length:=hbs.n;have hb7:=(hbs.ext B5).ext hB67;refine lSl (x:=x.Command) (ha7.cells 1 _ rfl) (qaj (r:=qae.rep) (x:=x.V) (ha7.sub 2 _ rfl) ?_);refine q63 hE7.m hn (hTab5.ext hB67) h4b (by omega) (by omega) hb7 (fun C s hld=>?_) x.V fun P r F8 w8 hr8 hE8 hrb=>?_
   ·obtain ⟨a,b,c,d⟩:=hv4.ld C s hld;exact ⟨a,by omega,b⟩
   ·obtain ⟨i1,i2⟩:=zl8 hE7.m.ok (by omega) bs P x.V hv4 (by omega);exact j4 F8 _ w8 (hE7.trans hE8) (i1.up (by omega)) (i2.trans hq4)
  refine lI (x:=x.Op) (ha6.cells 0 _ rfl) (cO (fun _=>?_) fun _=>op1);refine lI (x:=x.Line) (ha6.cells 14 _ rfl) ?_;cases hd:decide (x.Line>=0) with
  | false=>exact op1
  | true =>
   refine hJ7 _ _ (cT rfl ?_);refine qc2 (x:=x.Alt) (ha6.cells 13 _ rfl) (lI (x:=x.Line) (ha6.cells 14 _ rfl) ?_);refine za2 (hE5.ext hB6).m (by omega) x.Alt x.Line fun F8 w8 hE8=>?_;obtain ⟨i1,i2⟩:=zgf x.Alt x.Line hv4;exact j4 F8 _ w8 (((hE5.ext hB6).trans hE8).up (by omega)) (i1.up (by omega)) (i2.trans hq4)
 refine lI (x:=x.Op) (ha5.cells 0 _ rfl) (cO (fun _=>?_) fun _=>op3 w5 (Below.refl _ _));refine qaj (r:=qae.rep) (x:=x.V) (ha5.sub 2 _ rfl) (q8k x.V fun b w6 hB6=>?_);cases b with
 | false=>exact op3 w6 hB6
 | true =>
  refine hJ6 _ _ (cT rfl ?_);have ha6:=ha5.ext hB6;have hE6:=hE5.ext hB6;obtain ⟨bs,hbs⟩:=(hF.q x hxm).p;have hbl:x.M.P.n=bs.length:=hbs.n;refine qaj (r:=qab.rep) (x:=x.M) (ha6.sub 10 _ rfl) (qaj (r:=qae.rep) (x:=x.V) (ha6.sub 2 _ rfl) ?_);refine za1 hE6.m hn (hTab5.ext hB6) h4b ((hbs.ext B5).ext hB6) (fun a ha hne hs=>?_) x.V fun P r F8 w8 hE8=>?_
  ·have h1:=rd_lt hbs (List.length_pos_iff.2 hne) a ha;have h2:=(hE6.m.below _ hs).1;omega
  ·obtain ⟨i1,i2⟩:=zgn (W:=x.M.W) (H:=x.M.H) (bs:=bs) hE6.m.ok (by omega) (by omega) P x.V hv4 (by omega);exact j4 F8 _ w8 ((hE6.trans hE8).up (by omega)) (i1.up (by omega)) (i2.trans hq4)
end
end Go.Proofs.YtedcpbkcamckoaaGreatDoor
