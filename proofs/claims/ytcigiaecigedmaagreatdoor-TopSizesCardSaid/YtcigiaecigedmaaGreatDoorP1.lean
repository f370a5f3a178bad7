import Derived.Test.YtcigiaecigedmaaGreatDoorVc
import Derived.Below
import Derived.Maps.AppendAt
import Derived.Laws.OwnMore
import Derived.IntWalk
import Derived.ProofKit
import Derived.OpenShut
import Derived.ChangeOld
import Derived.ChangeSame
import Derived.Carry
import Derived.Deep.Slices
import Derived.Laws.MakeOwn
import Derived.Test.YtcigiaecigedmaaGreatDoorDefs
import Derived.Test.YtcigiaecigedmaaGreatDoorShA
import Derived.Shelf.Strings.OnBuilder
import Derived.Shelf.Small.Strs
import Derived.Shelf.Strconv.Itoa3
import Derived.Shelf.Strings.Search3
import Derived.Shelf.Strings.Count
import Derived.Shelf.Bytes.IndexByte
import Derived.Shelf.LaysM
import Derived.Shelf.Strings.Search1
import Derived.Test.YtcigiaecigedmaaGreatDoorProg
import Derived.Lib.ConvBytes
import Derived.Laws.BytesString
import Derived.Laws.Runes
import Derived.WalkSmall
import Derived.Test.YtcigiaecigedmaaGreatDoorRows
import Derived.DataShut
import Derived.Lay
import Derived.MakeChecks
import Derived.LaidMore
import Derived.Stop.Joined
import Derived.Lib.LaidTab
import Derived.ChangeMaps5
import Derived.MapKept
import Derived.Maps.Own
import Derived.Shelf.SlIterI.Nil
import Derived.Shelf.SortM.Plain
import Derived.Shelf.SortM.SortNone
import Derived.Maps.RangeRun
set_option linter.unusedVariables false
namespace Go.Vc
open Go.RowKit
open Builtin (append_)
open IntKind (i64)
open _root_.Nat (add_mul le_refl)
open _root_.Option (getD_some)
theorem lpR {σ:Type} {body:(σ->World->Prop)->σ->World->Prop} {s0:σ} {w0:World} (Inv:σ->World->Prop) (μ:σ->Nat) (h0:Inv s0 w0)
  (step:∀s w,Inv s w->∀I:σ->World->Prop,(∀s' w',Inv s' w'->μ s'<μ s->I s' w')->body I s w):loopP body s0 w0:=by
 intro I hI;have key:∀n s w,μ s=n->Inv s w->I s w:=by
  intro n
  induction n using Nat.strongRecOn with
  | _ n ih =>
   intro s w hn hs;exact hI s w (step s w hs I fun s' w' h' hlt=>ih (μ s') (hn ▸ hlt) s' w' rfl h')
 exact key _ _ _ rfl h0
theorem jpO {σ:Type} {K:σ->World->Prop} {body:(σ->World->Prop)->Prop} (h:∀J:σ->World->Prop,(∀s w,K s w->J s w)->body J):joinP K body:=h
theorem cO {b:Bool} {X Y:Prop} (h1:b=true->X) (h2:b=false->Y):cond b X Y:=by
 cases b
 ·exact h2 rfl
 ·exact h1 rfl
theorem cT {b:Bool} {X Y:Prop} (h:b=true) (h1:X):cond b X Y:=by subst h;exact h1
theorem cF {b:Bool} {X Y:Prop} (h:b=false) (h1:Y):cond b X Y:=by subst h;exact h1
theorem qch (a:Addr) (i j:Nat):(a.add i).add j=a.add (i+j):=by
 unfold Addr.add;by_cases hi:i=0<;>by_cases hj:j=0<;>simp [hi,hj,Nat.add_assoc]
@[simp] theorem add_zero (a:Addr):a.add 0=a:=by simp [Addr.add]
@[simp] theorem block_add (a:Addr) (n:Nat):(a.add n).block=a.block:=by unfold Addr.add;split<;>rfl
theorem qae (b o n:Nat):(⟨b,o,none⟩:Addr).add n=⟨b,o+n,none⟩:=by unfold Addr.add;split<;>simp_all
theorem qai.sub {w:World} {a:Addr} {vs us:List Value} (h:qai w a vs) (i:Nat) (hu:∀(j:Nat) (v:Value),us[j]?=some v->vs[i+j]?=some v):qai w (a.add i) us:=by
 intro j v hj;rw [qch];exact h _ _ (hu j v hj)
theorem qai.lt {w:World} {a:Addr} {vs:List Value} (h:qai w a vs) (hn:0<vs.length):a.block<w.heap.size:=by
 have:=World.block_lt_of_cell? w (a.add 0) (h 0 vs[0] (by simp [hn]));simpa using this
def Blk (w:World) (g:Nat) (t:TypeId) (vs:List Value):Prop:=w.heap[g]?=some (.cells vs.toArray t (0,0))
section
variable {w w':World} {g:Nat} {t:TypeId} {vs:List Value}
theorem Blk.lt (h:Blk w g t vs):g<w.heap.size:=by
 rcases Nat.lt_or_ge g w.heap.size with hlt | hge
 ·exact hlt
 ·unfold Blk at h;rw [Array.getElem?_eq_none hge] at h;cases h
theorem Blk.new (w:World) (t:TypeId) (vs:List Value):Blk (w.alloc (.cells vs.toArray t)) w.heap.size t vs:=by
 show (w.heap.push _)[w.heap.size]?=_;simp
theorem Blk.cells (h:Blk w g t vs):qai w ⟨g,0,none⟩ vs:=by
 intro i v hv;unfold Blk at h;rw [qae];simp [World.cell?,h,hv]
theorem Blk.cell (h:Blk w g t vs) (i:Nat) {v:Value} (hv:vs[i]?=some v):w.cell? ⟨g,i,none⟩=some v:=by
 have:=h.cells i v hv
 rwa [qae,Nat.zero_add] at this
theorem Blk.sub (h:Blk w g t vs) (i:Nat) (us:List Value) (hu:(vs.drop i).take us.length=us):qai w ((⟨g,0,none⟩:Addr).add i) us:=by
 refine h.cells.sub i fun j v hj=>?_;rw [<-hu] at hj;have hjl:j<us.length:=by
  rcases Nat.lt_or_ge j us.length with h' | h'
  ·exact h'
  ·rw [List.getElem?_eq_none (by simp;omega)] at hj;cases hj
 rw [List.getElem?_take_of_lt hjl,List.getElem?_drop] at hj;exact hj
theorem Blk.frozen (h:Blk w g t vs) (i:Nat):w.frozen? ⟨g,i,none⟩=false:=by
 unfold Blk at h;simp [World.frozen?,h]
theorem Blk.drew (h:Blk w g t vs):Blk w.drew g t vs:=h
theorem Blk.alloc (h:Blk w g t vs) (o:Obj):Blk (w.alloc o) g t vs:=(Below.heap_alloc w o g h.lt).trans h
theorem Blk.below {B:Nat} (h:Blk w g t vs) (hb:Below B w w') (hg:g<B):Blk w' g t vs:=(hb.block g hg).trans h
theorem Blk.ext (h:Blk w g t vs) (hb:Below w.heap.size w w'):Blk w' g t vs:=h.below hb h.lt
theorem Blk.grown {row:Option Nat} (h:Blk w g t vs) (hb:w.grownBy w' row) (hg:some g≠row):Blk w' g t vs:=(hb.block g h.lt hg).trans h
theorem Blk.set_ (h:Blk w g t vs) (i:Nat) (u:Value):Blk (w.setCell ⟨g,i,none⟩ u) g t (vs.set i u):=by
 unfold Blk at h ⊢;simp [World.setCell,Array.getElem?_modify,h]
end
def putL (vs:List Value) (i:Nat) (us:List Value):List Value:=match us with
 | []=>vs
 | u::r=>putL (vs.set i u) (i+1) r
theorem zcj {g o:Nat} {t:TypeId}:∀(us:List Value) (i:Nat) (w:World) (vs:List Value),Blk w g t vs->Blk (qc9 w ⟨g,o,none⟩ i us) g t (putL vs (o+i) us):=by
 intro us
 induction us with
 | nil=>intro i w vs h;exact h
 | cons u r ih =>
  intro i w vs h;simp only [qc9,putL];rw [qae];have:=ih (i+1) _ _ (h.set_ (o+i) u)
  rwa [<-Nat.add_assoc] at this
theorem zfk {w:World} {g o:Nat} {t:TypeId} {vs us:List Value} (h:Blk w g t vs):Blk (wr w ⟨g,o,none⟩ us) g t (putL vs o us):=by
 have:=zcj (o:=o) us 0 w vs h;simpa [wr] using this
theorem q2l {a:Addr}:∀(us:List Value) (i:Nat) (w:World),(qc9 w a i us).heap.size=w.heap.size/\(∀k,k≠a.block->(qc9 w a i us).heap[k]?=w.heap[k]?)/\(qc9 w a i us).tape=w.tape/\(qc9 w a i us).os=w.os/\(qc9 w a i us).output=w.output/\(qc9 w a i us).drawn=w.drawn:=by
 intro us
 induction us with
 | nil=>intro i w;exact ⟨rfl,fun _ _=>rfl,rfl,rfl,rfl,rfl⟩
 | cons u r ih =>
  intro i w;obtain ⟨h1,h2,h3,h4,h5,h6⟩:=ih (i+1) (w.setCell (a.add i) u);refine ⟨by rw [qc9,h1];simp,fun k hk=>?_,by rw [qc9,h3];simp,by rw [qc9,h4];rfl,by rw [qc9,h5];rfl,by rw [qc9,h6];simp⟩;rw [qc9,h2 k hk];exact Below.heap_setCell _ _ _ _ (by simpa using hk)
@[simp] theorem size_wr (w:World) (a:Addr) (us:List Value):(wr w a us).heap.size=w.heap.size:=(q2l us 0 w).1
theorem q7q (w:World) (a:Addr) (us:List Value):w.grownBy (wr w a us) (some a.block):=by
 obtain ⟨h1,h2,h3,h4,h5,_⟩:=q2l (a:=a) us 0 w;exact ⟨h4,h3,h5,by show _<=(qc9 w a 0 us).heap.size;omega,fun k _ hne=>h2 k fun e=>hne (by rw [e])⟩
theorem zg0 {w:World} {g o:Nat} {t:TypeId} {vs us:List Value} (h:Blk w g t vs) (hl:o+us.length<=vs.length):stOk w ⟨g,o,none⟩ us:=by
 intro i hi;rw [qae];refine ⟨⟨vs[o+i],?_⟩,h.frozen _⟩;exact h.cell (o+i) (List.getElem?_eq_getElem (by omega))
theorem qah {w:World} {g o:Nat} {t:TypeId} {vs us:List Value} {K:World->Prop} (h:Blk w g t vs) (hl:o+us.length<=vs.length)
  (hK:∀w',Blk w' g t (putL vs o us)->w.grownBy w' (some g)->w'.heap.size=w.heap.size->K w'):stK ⟨g,o,none⟩ us w K :=
 ⟨zg0 h hl,hK _ (zfk h) (q7q w ⟨g,o,none⟩ us) (size_wr _ _ _)⟩
theorem nwb {t:TypeId} {vs:List Value} {w:World} {K:Addr->World->Prop} (hK:∀w',Blk w' w.heap.size t vs->Below w.heap.size w w'->w'.heap.size=w.heap.size+1->K ⟨w.heap.size,0,none⟩ w'):nw t vs w K :=
 hK _ (Blk.new w t vs) ((Below.refl _ w).alloc (le_refl _) _) (by simp)
structure El (T:Type) where
 cells:T->List Value
 t:TypeId
 k:Nat
 pos:0<k
 len:∀x,(cells x).length=k
 one:∀x,∀v∈cells x,v.oneCell'=true
def Slc.at_ (s:Slc) (k i:Nat):Addr:=(s.a.getD ⟨0,0,none⟩).add (i*k)
structure Rd {T:Type} (E:El T) (w:World) (s:Slc) (xs:List T):Prop where
 n:s.n=xs.length
 nc:s.n<=s.c
 cm:s.c<=maxLen
 some_:0<xs.length->s.a.isSome=true
 at_:∀(i:Nat) x,xs[i]?=some x->qai w (s.at_ E.k i) (E.cells x)
theorem Rd.nil {T:Type} (E:El T) (w:World):Rd E w ⟨none,0,0⟩ []:=⟨rfl,le_refl _,by simp [maxLen],fun h=>by simp at h,fun i x h=>by simp at h⟩
theorem Rd.lt {T:Type} {E:El T} {w:World} {s:Slc} {xs:List T} (h:Rd E w s xs) {i:Nat} (hi:i<xs.length):(s.at_ E.k i).block<w.heap.size :=
 (h.at_ i xs[i] (by simp [hi])).lt (by rw [E.len];exact E.pos)
theorem Rd.keep {T:Type} {E:El T} {w w':World} {s:Slc} {xs:List T} (h:Rd E w s xs) (hk:∀(b:Nat),b<w.heap.size->(∀a,s.a=some a->b=a.block)->w'.heap[b]?=w.heap[b]?):Rd E w' s xs:=by
 refine ⟨h.n,h.nc,h.cm,h.some_,fun i x hx=>?_⟩;have hc:=h.at_ i x hx;intro j v hv;have hcell:=hc j v hv;have hlt:=World.block_lt_of_cell? w _ hcell;rw [World.cell?_of_block (w:=w) (hk _ hlt (fun a ha=>by simp [Slc.at_,ha]))];exact hcell
theorem Rd.ext {T:Type} {E:El T} {w w':World} {s:Slc} {xs:List T} (h:Rd E w s xs) (hb:Below w.heap.size w w'):Rd E w' s xs:=h.keep fun b hlt _=>hb.block b hlt
theorem Rd.none_nil {T:Type} {E:El T} {w:World} {s:Slc} {xs:List T} (h:Rd E w s xs) (ha:s.a=none):xs=[]:=by
 cases xs with
 | nil=>rfl
 | cons x r=>have:=h.some_ (by simp);rw [ha] at this;cases this
theorem Rd.drew {T:Type} {E:El T} {w:World} {s:Slc} {xs:List T} (h:Rd E w s xs):Rd E w.drew s xs:=h.keep fun _ _ _=>rfl
theorem zfe {s:Slc} {i:Int} {k:Nat} {K:Addr->Prop} (ha:s.a.isSome=true) (h0:0<=i) (h1:i<s.n) (h:K (s.at_ k i.toNat)):ixK s i k K:=by
 obtain ⟨a,e⟩:=Option.isSome_iff_exists.1 ha;unfold ixK;rw [e,onPtr_some];refine ⟨⟨h0,h1⟩,?_⟩;simpa [Slc.at_,e] using h
theorem Rd.ix {T:Type} {E:El T} {w:World} {s:Slc} {xs:List T} (h:Rd E w s xs) {i:Int} {k:Nat} (hk:k=E.k) {K:Addr->Prop} (h0:0<=i) (h1:i<xs.length)
  (hK:qai w (s.at_ E.k i.toNat) (E.cells (xs[i.toNat]'(by omega)))->K (s.at_ E.k i.toNat)):ixK s i k K:=by
 subst hk;refine zfe (h.some_ (by omega)) h0 (by rw [h.n];exact h1) (hK (h.at_ _ _ ?_));simp
def flat {T:Type} (E:El T) (xs:List T):List Value:=xs.flatMap E.cells
theorem qd5 {T:Type} (E:El T) (xs:List T):(flat E xs).length=xs.length*E.k:=by
 unfold flat
 induction xs with
 | nil=>simp
 | cons x r ih=>simp [E.len,ih,add_mul,Nat.add_comm]
theorem za1 {T:Type} (E:El T) (xs ys:List T):flat E (xs++ys)=flat E xs++flat E ys:=by simp [flat]
theorem qx4 {T:Type} (E:El T):∀(xs:List T) (i:Nat) (x:T) (j:Nat) (v:Value),xs[i]?=some x->(E.cells x)[j]?=some v->(flat E xs)[i*E.k+j]?=some v:=by
 intro xs
 induction xs with
 | nil=>intro i x j v h;simp at h
 | cons y r ih =>
  intro i x j v h hv;have hj:j<E.k:=by rw [<-E.len x];exact (List.getElem?_eq_some_iff.1 hv).1
  have e:flat E (y::r)=E.cells y++flat E r:=by simp [flat]
  rw [e];cases i with
  | zero =>
   simp only [List.getElem?_cons_zero,Option.some.injEq] at h;subst h;rw [Nat.zero_mul,Nat.zero_add,List.getElem?_append_left (by rw [E.len];exact hj)];exact hv
  | succ i =>
   simp only [List.getElem?_cons_succ] at h;rw [List.getElem?_append_right (by rw [E.len,add_mul];omega),E.len];have:(i+1)*E.k+j-E.k=i*E.k+j:=by rw [add_mul];omega
   rw [this];exact ih i x j v h hv
theorem zgg {T:Type} (E:El T) (xs:List T):∀u∈flat E xs,u.oneCell'=true:=by
 intro u hu;obtain ⟨x,_,hx⟩:=List.mem_flatMap.1 hu;exact E.one x u hx
def Slc.v (s:Slc):Value:=.slice s.a s.n s.c
def Slc.blk (s:Slc):Option Nat:=s.a.map (·.block)
def Own {T:Type} (E:El T) (w:World) (base:Nat) (s:Slc) (xs:List T):Prop:=w.ownsRow base E.t E.k s.v xs.length (flat E xs)
theorem qo4 (s:Slc):s.v.ownBlock=s.blk:=by
 unfold Slc.v Slc.blk;cases s.a<;>rfl
theorem Own.form {T:Type} {E:El T} {w:World} {base:Nat} {s:Slc} {xs:List T} (h:Own E w base s xs) :
  (s=⟨none,0,0⟩/\xs=[])\/∃g cur,s=⟨some ⟨g,0,none⟩,xs.length,s.c⟩/\base<=g/\Blk w g E.t cur/\xs.length<=s.c/\s.c<=maxLen/\cur.length=s.c*E.k/\cur.take (xs.length*E.k)=flat E xs:=by
 obtain ⟨_,h⟩:=h;obtain ⟨a,n,c⟩:=s;rcases h with ⟨e,hn⟩ | ⟨g,cap,cur,e,hg,hh,h1,h2,h3,h4⟩
 ·injection e with e1 e2 e3
  subst e1;subst e2;subst e3;exact .inl ⟨rfl,List.eq_nil_of_length_eq_zero hn⟩
 ·injection e with e1 e2 e3
  subst e1;subst e2;subst e3;exact .inr ⟨g,cur.toList,rfl,hg,by unfold Blk;simpa using hh,h1,h2,by simpa using h3,h4⟩
theorem Own.of_blk {T:Type} {E:El T} {w:World} {base g c:Nat} {xs:List T} {cur:List Value} (hg:base<=g) (hb:Blk w g E.t cur) (h1:xs.length<=c) (h2:c<=maxLen) (h3:cur.length=c*E.k) (h4:cur.take (xs.length*E.k)=flat E xs) :
  Own E w base ⟨some ⟨g,0,none⟩,xs.length,c⟩ xs :=
 ⟨qd5 E xs,.inr ⟨g,c,cur.toArray,rfl,hg,hb,h1,h2,by simpa using h3,by simpa using h4⟩⟩
theorem Own.nil {T:Type} (E:El T) (w:World) (base:Nat):Own E w base ⟨none,0,0⟩ []:=World.ownsRow_nil w base E.t E.k
theorem Own.rd {T:Type} {E:El T} {w:World} {base:Nat} {s:Slc} {xs:List T} (h:Own E w base s xs):Rd E w s xs:=by
 rcases h.form with ⟨rfl,rfl⟩ | ⟨g,cur,hs,hg,hb,h1,h2,h3,h4⟩
 ·exact Rd.nil E w
 ·rw [hs];refine ⟨rfl,h1,h2,fun _=>rfl,fun i x hx=>?_⟩;show qai w ((⟨g,0,none⟩:Addr).add (i*E.k)) _;refine hb.cells.sub _ fun j v hv=>?_;have:=qx4 E xs i x j v hx hv;rw [<-h4] at this;rw [List.getElem?_take] at this;split at this
  ·exact this
  ·cases this
theorem Own.base {T:Type} {E:El T} {w:World} {base base':Nat} {s:Slc} {xs:List T} (h:Own E w base s xs) (hb:base'<=base):Own E w base' s xs:=by
 obtain ⟨h0,h⟩:=h;refine ⟨h0,?_⟩;rcases h with h | ⟨g,cap,cur,e,hg,r⟩
 ·exact .inl h
 ·exact .inr ⟨g,cap,cur,e,by omega,r⟩
theorem Own.lt {T:Type} {E:El T} {w:World} {base:Nat} {s:Slc} {xs:List T} (h:Own E w base s xs):∀k,s.blk=some k->base<=k/\k<w.heap.size:=by
 rw [<-qo4];exact World.ownsRow.lt h
theorem Own.kept {T:Type} {E:El T} {w w':World} {base:Nat} {s:Slc} {xs:List T} {row:Option Nat} (h:Own E w base s xs) (hg:w.grownBy w' row) (hne:s.blk=none\/s.blk≠row):Own E w' base s xs :=
 World.ownsRow.kept h hg (by rw [qo4];exact hne)
theorem Own.ext {T:Type} {E:El T} {w w':World} {base:Nat} {s:Slc} {xs:List T} (h:Own E w base s xs) (hb:Below w.heap.size w w'):Own E w' base s xs:=by
 obtain ⟨h0,h1⟩:=h;refine ⟨h0,?_⟩;rcases h1 with h1 | ⟨g,cap,cur,e,hg,hh,r⟩
 ·exact .inl h1
 ·refine .inr ⟨g,cap,cur,e,hg,?_,r⟩;have:g<w.heap.size:=by
   rcases Nat.lt_or_ge g w.heap.size with h' | h'
   ·exact h'
   ·rw [Array.getElem?_eq_none h'] at hh;cases hh
  rw [hb.block g this];exact hh
theorem Own.drew {T:Type} {E:El T} {w:World} {base:Nat} {s:Slc} {xs:List T} (h:Own E w base s xs):Own E w.drew base s xs:=h
structure SlT (P:Program) {T:Type} (E:El T) (st:TypeId) where
 ht:P.underlying st=some (.slice E.t)
 i:TypeInfo
 hi:P.info? E.t=some i
 z:Value
 hz:i.zero=some z
 hs:i.size=E.k
 hzs:z.cells.size=E.k
theorem q1g {P:Program} {T:Type} {E:El T} {st:TypeId} (TT:SlT P E st) (ty:TypeId) {w:World} {base:Nat} {s:Slc} {xs:List T} (hown:Own E w base s xs) (c:Nat) :
  (append_ #[st,st] ty #[s.v,.slice none 0 c]).run P w=.ok s.v w:=by
 rcases hown.form with ⟨rfl,rfl⟩ | ⟨g,cur,hs,hg,hb,h1,h2,h3,h4⟩
 ·simp [Slc.v,append_,run_underlying TT.ht,sizeOf,typeInfo,TT.hi,Builtin.lenOf,Builtin.firstCells]
 ·rw [hs];simp [Slc.v,append_,run_underlying TT.ht,sizeOf,typeInfo,TT.hi,Builtin.lenOf,Builtin.firstCells,h1,storeCells]
theorem qde {P:Program} {T:Type} {E:El T} {st:TypeId} (TT:SlT P E st) {ty:TypeId} {w:World} {base:Nat} {s x:Slc} {xs ys:List T} {K:Slc->World->Prop} (hown:Own E w base s xs) (hx:Rd E w x ys)
  (hb:base<=w.heap.size) (hl:(xs.length+ys.length)*TT.i.bytes<=140737488355328) (hm:xs.length+ys.length<=maxLen)
  (hK:∀r w',Own E w' base r (xs++ys)->w.grownBy w' s.blk->(r.blk=s.blk\/r.blk=some w.heap.size)->K r w'):apK P #[st,st] ty s x w K:=by
 cases ha:x.a with
 | none =>
  have hy:=hx.none_nil ha;subst hy;have hn:x.n=0:=by simpa using hx.n
  refine ⟨s,w,?_,hK s w (by simpa using hown) (World.grownBy.refl w _) (.inl rfl)⟩;rw [ha,hn];exact q1g TT ty hown x.c
 | some a =>
  have hcells:∀(j:Nat) (u:Value),(flat E ys)[j]?=some u->w.cell? (a.add j)=some u:=by
   intro j u hu;have hj:j<ys.length*E.k:=by rw [<-qd5];exact (List.getElem?_eq_some_iff.1 hu).1
   have hk:=E.pos;have hq:j/E.k<ys.length:=(Nat.div_lt_iff_lt_mul hk).2 hj;have hr:j%E.k<E.k:=Nat.mod_lt _ hk;have hxi:ys[j/E.k]?=some ys[j/E.k]:=by simp [hq]
   have hv:(E.cells ys[j/E.k])[j%E.k]?=some ((E.cells ys[j/E.k])[j%E.k]'(by rw [E.len];exact hr)):=List.getElem?_eq_getElem _;have e:j/E.k*E.k+j%E.k=j:=by rw [Nat.mul_comm];exact Nat.div_add_mod j E.k
   have h1:=qx4 E ys _ _ _ _ hxi hv;rw [e,hu] at h1;have h2:=hx.at_ _ _ hxi _ _ hv;rw [<-Option.some.inj h1] at h2;simp only [Slc.at_,ha,getD_some] at h2
   rwa [qch,e] at h2
  obtain ⟨v',w',hrun,h2,h3,_,h5⟩:=run_append_own_at (P:=P) w base st ty E.t TT.i TT.z E.k TT.i.bytes TT.ht TT.hi TT.hz TT.hs rfl TT.hzs E.pos s.v xs.length (flat E xs) hown a ys.length x.c (flat E ys) (qd5 E ys) hcells (zgg E ys) hm hl hb;have hv':∃r:Slc,v'=r.v:=by
   rcases h2.2 with ⟨e,_⟩ | ⟨g,cap,cur,e,_⟩
   ·exact ⟨⟨none,0,0⟩,e⟩
   ·exact ⟨⟨_,_,_⟩,e⟩
  obtain ⟨r,rfl⟩:=hv';refine ⟨r,w',?_,hK r w' ?_ (by rw [<-qo4];exact h3) ?_⟩
  ·rw [ha,hx.n];exact hrun
  ·unfold Own;rw [List.length_append,za1];exact h2
  ·rw [qo4,qo4] at h5;exact h5
theorem qfg:∀(us vs:List Value) (i:Nat),(putL vs i us).length=vs.length:=by
 intro us
 induction us with
 | nil=>intro vs i;rfl
 | cons u r ih=>intro vs i;rw [putL,ih];simp
theorem qmo:∀(us vs:List Value) (i m:Nat),i+us.length<=vs.length->(putL vs i us)[m]?=if i<=m/\m<i+us.length then us[m-i]? else vs[m]?:=by
 intro us
 induction us with
 | nil=>intro vs i m _;simp only [putL,List.length_nil,Nat.add_zero];rw [if_neg (by omega)]
 | cons u r ih =>
  intro vs i m hl;simp only [List.length_cons] at hl;rw [putL,ih (vs.set i u) (i+1) m (by simp;omega)];by_cases h1:i+1<=m/\m<i+1+r.length
  ·rw [if_pos h1,if_pos (by simp;omega)];have:m-i=(m-(i+1))+1:=by omega
   rw [this,List.getElem?_cons_succ]
  ·rw [if_neg h1];by_cases h2:m=i
   ·subst h2;rw [if_pos (by simp),List.getElem?_set_self (by omega),Nat.sub_self,List.getElem?_cons_zero]
   ·rw [List.getElem?_set_ne (Ne.symm h2),if_neg (by simp;omega)]
theorem zgo {T:Type} {E:El T} {xs:List T} {i:Nat} {x y:T} (hx:xs[i]?=some x) {j:Nat} {us cur:List Value} (hj:j+us.length<=E.k) (hy:E.cells y=putL (E.cells x) j us)
  (hc:cur.take (xs.length*E.k)=flat E xs) (hl:xs.length*E.k<=cur.length):(putL cur (i*E.k+j) us).take (xs.length*E.k)=flat E (xs.set i y):=by
 have hi:i<xs.length:=(List.getElem?_eq_some_iff.1 hx).1;have hik:i*E.k+E.k<=xs.length*E.k:=by
  have:=Nat.mul_le_mul_right E.k (show i+1<=xs.length from hi);rw [add_mul,Nat.one_mul] at this;exact this
 refine List.ext_getElem? fun m=>?_;by_cases hm:m<xs.length*E.k
 ·rw [List.getElem?_take_of_lt hm,qmo us cur _ _ (by omega)];have hq:m/E.k<xs.length:=(Nat.div_lt_iff_lt_mul E.pos).2 hm;have hr:m%E.k<E.k:=Nat.mod_lt _ E.pos;have e:m/E.k*E.k+m%E.k=m:=by rw [Nat.mul_comm];exact Nat.div_add_mod m E.k
  have hcur:cur[m]?=(flat E xs)[m]?:=by rw [<-hc,List.getElem?_take_of_lt hm]
  have key:∀(zs:List T) (z:T),zs[m/E.k]?=some z->(flat E zs)[m]?=(E.cells z)[m%E.k]?:=by
   intro zs z hz;have hv:(E.cells z)[m%E.k]?=some ((E.cells z)[m%E.k]'(by rw [E.len];exact hr)):=List.getElem?_eq_getElem _;have:=qx4 E zs _ _ _ _ hz hv;rw [e] at this;rw [this,hv]
  by_cases hqi:m/E.k=i
  ·have hy':(xs.set i y)[m/E.k]?=some y:=by rw [hqi,List.getElem?_set_self hi]
   rw [key _ _ hy',hy,qmo us (E.cells x) j _ (by rw [E.len];exact hj)];have hx':xs[m/E.k]?=some x:=by rw [hqi];exact hx
   rw [hcur,key _ _ hx'];have e2:m=i*E.k+m%E.k:=by rw [<-hqi];exact e.symm
   generalize m%E.k=r at *;subst e2;by_cases hcase:j<=r/\r<j+us.length
   ·rw [if_pos (by omega),if_pos hcase];congr 1;omega
   ·rw [if_neg (by omega),if_neg hcase]
  ·have hne:(xs.set i y)[m/E.k]?=xs[m/E.k]?:=List.getElem?_set_ne (Ne.symm hqi);have hx':xs[m/E.k]?=some xs[m/E.k]:=by simp [hq]
   rw [key _ _ (hne.trans hx'),hcur,key _ _ hx',if_neg];rintro ⟨h1,h2⟩;refine hqi (Nat.le_antisymm ?_ ?_)
   ·refine Nat.le_of_lt_succ ((Nat.div_lt_iff_lt_mul E.pos).2 ?_);rw [Nat.succ_mul];omega
   ·exact (Nat.le_div_iff_mul_le E.pos).2 (by omega)
 ·rw [List.getElem?_eq_none (by simp;omega),List.getElem?_eq_none (by rw [qd5];simp;omega)]
theorem Own.st {T:Type} {E:El T} {w:World} {base:Nat} {s:Slc} {xs:List T} (h:Own E w base s xs) {i:Nat} {x y:T} (hx:xs[i]?=some x) {j:Nat} {us:List Value} (hj:j+us.length<=E.k)
  (hy:E.cells y=putL (E.cells x) j us) {K:World->Prop} (hK:∀w',Own E w' base s (xs.set i y)->w.grownBy w' s.blk->w'.heap.size=w.heap.size->K w'):stK ((s.at_ E.k i).add j) us w K:=by
 rcases h.form with ⟨rfl,rfl⟩ | ⟨g,cur,hs,hg,hb,h1,h2,h3,h4⟩
 ·simp at hx
 ·have hi:i<xs.length:=(List.getElem?_eq_some_iff.1 hx).1;have hik:i*E.k+E.k<=xs.length*E.k:=by
   have:=Nat.mul_le_mul_right E.k (show i+1<=xs.length from hi);rw [add_mul,Nat.one_mul] at this;exact this
  have hcap:xs.length*E.k<=s.c*E.k:=Nat.mul_le_mul_right _ h1;have ha:(s.at_ E.k i).add j=⟨g,i*E.k+j,none⟩:=by
   rw [hs];show ((⟨g,0,none⟩:Addr).add (i*E.k)).add j=_;rw [qch,qae,Nat.zero_add]
  rw [ha];refine qah hb (by omega) fun w' hb' hg' hsz=>hK w' ?_ ?_ hsz
  ·have:=Own.of_blk (E:=E) (xs:=xs.set i y) (c:=s.c) hg hb' (by simpa using h1) h2 (by rw [qfg];exact h3) (by rw [List.length_set];exact zgo hx hj hy h4 (by omega));rw [hs];simpa using this
  ·rw [hs];exact hg'
theorem Own.st0 {T:Type} {E:El T} {w:World} {base:Nat} {s:Slc} {xs:List T} (h:Own E w base s xs) {i:Nat} {x y:T} (hx:xs[i]?=some x) {us:List Value} (hy:E.cells y=us)
  {K:World->Prop} (hK:∀w',Own E w' base s (xs.set i y)->w.grownBy w' s.blk->w'.heap.size=w.heap.size->K w'):stK (s.at_ E.k i) us w K:=by
 have hl:us.length=E.k:=by rw [<-hy,E.len]
 have hy':E.cells y=putL (E.cells x) 0 us:=by
  refine List.ext_getElem? fun m=>?_;rw [qmo us _ 0 m (by rw [E.len];omega),hy];by_cases hm:m<us.length
  ·rw [if_pos (by omega)];rfl
  ·rw [if_neg (by omega),List.getElem?_eq_none (by omega),List.getElem?_eq_none (by rw [E.len];omega)]
 have:=h.st hx (j:=0) (by omega) hy' hK
 rwa [add_zero] at this
theorem qkj {T:Type} {E:El T} {w:World} {g:Nat} {y:T} {vs:List Value} (hb:Blk w g E.t vs) (hy:E.cells y=vs):Rd E w ⟨some ⟨g,0,none⟩,1,1⟩ [y]:=by
 refine ⟨rfl,le_refl _,by simp [maxLen],fun _=>rfl,fun i x hx=>?_⟩;cases i with
 | zero =>
  simp only [List.getElem?_cons_zero,Option.some.injEq] at hx;subst hx;show qai w ((⟨g,0,none⟩:Addr).add (0*E.k)) _;rw [Nat.zero_mul,add_zero,hy];exact hb.cells
 | succ i=>simp at hx
theorem qvm {T:Type} {E:El T} {w:World} {g base:Nat} (hb:Blk w g E.t []) (hg:base<=g):Own E w base ⟨some ⟨g,0,none⟩,0,0⟩ [] :=
 Own.of_blk (E:=E) (xs:=[]) (c:=0) hg hb (le_refl _) (by simp [maxLen]) (by simp) (by simp [flat])
theorem lI {k:IntKind} {a:Addr} {w:World} {K:Int->Prop} {x:Int} (h:w.cell? a=some (.int k x)) (hK:K x):ldI k a w K:=⟨x,h,hK⟩
theorem qhx {a:Addr} {w:World} {K:Bool->Prop} {x:Bool} (h:w.cell? a=some (.bool x)) (hK:K x):ldB a w K:=⟨x,h,hK⟩
theorem q3g {a:Addr} {w:World} {K:ByteArray->Prop} {x:ByteArray} (h:w.cell? a=some (.string x)) (hK:K x):ldStr a w K:=⟨x,h,hK⟩
theorem qar {a:Addr} {w:World} {K:Option Addr->Prop} {x:Option Addr} (h:w.cell? a=some (.pointer x)) (hK:K x):ldP a w K:=⟨x,h,hK⟩
theorem lSl {a:Addr} {w:World} {K:Slc->Prop} {x:Slc} (h:w.cell? a=some (.slice x.a x.n x.c)) (hK:K x):ldSl a w K:=⟨x,h,hK⟩
theorem qef {a:Addr} {w:World} {K:Option Nat->Prop} {x:Option Nat} (h:w.cell? a=some (.map x)) (hK:K x):ldM a w K:=⟨x,h,hK⟩
theorem qaq {r:Rep} {a:Addr} {w:World} {K:r.T->Prop} {x:r.T} (h:qai w a (r.cells x)) (hK:K x):ldS r a w K:=⟨x,h,hK⟩
theorem qt1 {t:TypeId} {zs vs:List Value} {w:World} {K:Addr->World->Prop} (hl:zs.length=vs.length)
  (hK:∀w',Blk w' w.heap.size t vs->Below w.heap.size w w'->w'.heap.size=w.heap.size+1->K ⟨w.heap.size,0,none⟩ w'):nw t zs w fun c w3=>stK c vs w3 fun w4=>K c w4:=by
 refine nwb fun w1 hb1 hB1 hs1=>?_;refine qah hb1 (by omega) fun w2 hb2 hg2 hs2=>hK w2 ?_ ?_ (by omega)
 ·have e:putL zs 0 vs=vs:=by
   refine List.ext_getElem? fun m=>?_;rw [qmo vs zs 0 m (by omega)];by_cases hm:m<vs.length
   ·rw [if_pos (by omega)];rfl
   ·rw [if_neg (by omega),List.getElem?_eq_none (by omega),List.getElem?_eq_none (by omega)]
  rw [e] at hb2;exact hb2
 ·exact hB1.grown hg2 (by omega) fun k hk=>by cases hk;exact le_refl _
def mix {α:Type} (ys xs:List α) (k:Nat):List α:=ys.take k++xs.drop k
theorem q7r {α:Type} (ys xs:List α):mix ys xs 0=xs:=by simp [mix]
theorem zbs {α:Type} {ys xs:List α} (h:ys.length=xs.length):mix ys xs xs.length=ys:=by simp [mix,<-h]
theorem qob {α:Type} {ys xs:List α} (h:ys.length=xs.length) (k:Nat):(mix ys xs k).length=xs.length:=by simp [mix];omega
theorem q5t {α:Type} {ys xs:List α} (h:ys.length=xs.length) {k:Nat} (hk:k<xs.length) (i:Nat):(mix ys xs k)[i]?=if i<k then ys[i]? else xs[i]?:=by
 unfold mix;have hl:(ys.take k).length=k:=by simp;omega
 by_cases hi:i<k
 ·rw [List.getElem?_append_left (by omega),List.getElem?_take_of_lt hi,if_pos hi]
 ·rw [List.getElem?_append_right (by omega),hl,List.getElem?_drop,if_neg hi];congr 1;omega
theorem q1s {α:Type} {ys xs:List α} (h:ys.length=xs.length) {k:Nat} (hk:k<xs.length) {y:α} (hy:ys[k]?=some y):(mix ys xs k).set k y=mix ys xs (k+1):=by
 unfold mix;have hl:(ys.take k).length=k:=by simp;omega
 have hy':ys[k]'(by omega)=y:=by
  rw [List.getElem?_eq_getElem (by omega)] at hy;exact Option.some.inj hy
 rw [List.set_append_right _ _ (by omega),hl,Nat.sub_self,List.drop_eq_getElem_cons hk,List.set_cons_zero,List.take_succ_eq_append_getElem (by omega),hy'];simp
theorem zg8 {α:Type} {ys xs:List α} (h:ys.length=xs.length) {k:Nat} (hk:k<xs.length) (he:ys[k]?=xs[k]?):mix ys xs k=mix ys xs (k+1):=by
 have hy:ys[k]?=some (ys[k]'(by omega)):=List.getElem?_eq_getElem _;rw [<-q1s h hk hy];refine (List.ext_getElem? fun i=>?_);by_cases hi:i=k
 ·subst hi;rw [List.getElem?_set_self (by rw [qob h];exact hk),q5t h hk,if_neg (by omega),<-he,hy]
 ·rw [List.getElem?_set_ne (Ne.symm hi)]
structure Chg (S:Nat->Prop) (w w':World):Prop where
 os:w'.os=w.os
 tape:w'.tape=w.tape
 output:w'.output=w.output
 size:w.heap.size<=w'.heap.size
 block:∀k,k<w.heap.size->¬S k->w'.heap[k]?=w.heap[k]?
theorem Chg.refl (S:Nat->Prop) (w:World):Chg S w w:=⟨rfl,rfl,rfl,le_refl _,fun _ _ _=>rfl⟩
theorem Chg.trans {S S':Nat->Prop} {a b c:World} (h:Chg S a b) (k:Chg S' b c) (hs:∀i,i<a.heap.size->S' i->S i):Chg S a c :=
 ⟨k.os.trans h.os,k.tape.trans h.tape,k.output.trans h.output,Nat.le_trans h.size k.size,fun i hi hn=>(k.block i (Nat.lt_of_lt_of_le hi h.size) (fun e=>hn (hs i hi e))).trans (h.block i hi hn)⟩
theorem Chg.mono {S S':Nat->Prop} {a b:World} (h:Chg S a b) (hs:∀i,i<a.heap.size->S i->S' i):Chg S' a b :=
 ⟨h.os,h.tape,h.output,h.size,fun i hi hn=>h.block i hi fun e=>hn (hs i hi e)⟩
theorem Chg.below {S:Nat->Prop} {B:Nat} {a b:World} (h:Chg S a b) (hB:B<=a.heap.size) (hs:∀i,i<B->¬S i):Below B a b :=
 ⟨h.os,h.tape,h.output,h.size,fun k hk=>h.block k (by omega) (hs k hk)⟩
theorem Chg.of_ext {S:Nat->Prop} {a b:World} (h:Below a.heap.size a b):Chg S a b:=⟨h.os,h.tape,h.output,h.size,fun k hk _=>h.block k hk⟩
theorem Chg.of_grown {S:Nat->Prop} {a b:World} {row:Option Nat} (h:a.grownBy b row) (hs:∀k,row=some k->S k):Chg S a b :=
 ⟨h.os,h.tape,h.output,h.size,fun k hk hn=>h.block k hk fun e=>hn (hs k e.symm)⟩
theorem Chg.ext {a b:World} {S:Nat->Prop} (h:Chg S a b) (hs:∀i,i<a.heap.size->¬S i):Below a.heap.size a b:=⟨h.os,h.tape,h.output,h.size,fun k hk=>h.block k hk (hs k hk)⟩
theorem Blk.chg {S:Nat->Prop} {w w':World} {g:Nat} {t:TypeId} {vs:List Value} (h:Blk w g t vs) (hc:Chg S w w') (hg:¬S g):Blk w' g t vs:=(hc.block g h.lt hg).trans h
theorem Own.chg {T:Type} {E:El T} {S:Nat->Prop} {w w':World} {base:Nat} {s:Slc} {xs:List T} (h:Own E w base s xs) (hc:Chg S w w') (hg:∀g,s.blk=some g->¬S g):Own E w' base s xs:=by
 rcases h.form with ⟨rfl,rfl⟩ | ⟨g,cur,hs,hb,hblk,h1,h2,h3,h4⟩
 ·exact Own.nil _ _ _
 ·rw [hs];exact Own.of_blk hb (hblk.chg hc (hg g (by rw [hs];rfl))) h1 h2 h3 h4
theorem Rd.chg {T:Type} {E:El T} {S:Nat->Prop} {w w':World} {s:Slc} {xs:List T} (h:Rd E w s xs) (hc:Chg S w w') (hg:∀a,s.a=some a->¬S a.block):Rd E w' s xs:=by
 refine ⟨h.n,h.nc,h.cm,h.some_,fun i x hx=>?_⟩;have hi:i<xs.length:=(List.getElem?_eq_some_iff.1 hx).1;obtain ⟨a,ha⟩:=Option.isSome_iff_exists.1 (h.some_ (by omega));have hcell:=h.at_ i x hx;intro j v hv;have hc1:=hcell j v hv;have hlt:=World.block_lt_of_cell? w _ hc1;rw [World.cell?_of_block (w:=w) (hc.block _ hlt (by simpa [Slc.at_,ha] using hg a ha))];exact hc1
theorem Own.blk_t {T:Type} {E:El T} {w:World} {base:Nat} {s:Slc} {xs:List T} (h:Own E w base s xs) {g:Nat} (hg:s.blk=some g):∃cs,Blk w g E.t cs:=by
 rcases h.form with ⟨rfl,rfl⟩ | ⟨g',cur,hs,hb,hblk,h1,h2,h3,h4⟩
 ·cases hg
 ·rw [hs] at hg;cases hg;exact ⟨_,hblk⟩
theorem Blk.ne_t {w:World} {g g':Nat} {t t':TypeId} {cs cs':List Value} (h:Blk w g t cs) (h':Blk w g' t' cs') (hne:t≠t'):g≠g':=by
 rintro rfl;unfold Blk at h h';rw [h] at h';injection h' with h'
 injection h' with _ ht
 exact hne ht
def u8 (x:Int):UInt8:=UInt8.ofNat x.toNat
theorem q3l {x:Int} (h0:0<=x) (h1:x<256):((u8 x).toNat:Int)=x:=by
 unfold u8;rw [UInt8.toNat_ofNat'];omega
theorem w64i {x:Int} (h:-9223372036854775808<=x/\x<=9223372036854775807):i64.wrap x=x:=by
 have:=IntWalk.i64_in x h;exact this
theorem qmi {y d:Nat} {K:Nat->Prop} (h:K d):bnd none y d K:=h
theorem qig {i:Int} {y d:Nat} {K:Nat->Prop} (h0:0<=i) (h1:i<=y) (h:K i.toNat):bnd (some i) y d K:=⟨⟨h0,h1⟩,h⟩
theorem Rd.part {T:Type} {E:El T} {w:World} {s:Slc} {xs:List T} (h:Rd E w s xs) {l m:Nat} (hl:l<=m) (hm:m<=xs.length) :
  Rd E w ⟨cut s.a l s.c E.k,m-l,s.c-l⟩ ((xs.take m).drop l):=by
 have hn:=h.n;have hnc:=h.nc;have hcm:=h.cm;have hlen:((xs.take m).drop l).length=m-l:=by simp;omega
 refine ⟨hlen.symm,by show m-l<=s.c-l;omega,by show s.c-l<=maxLen;omega,fun hp=>?_,fun i x hx=>?_⟩
 ·rw [hlen] at hp;obtain ⟨a,ha⟩:=Option.isSome_iff_exists.1 (h.some_ (by omega));show (cut s.a l s.c E.k).isSome=true;unfold cut;rw [ha];split<;>rfl
 ·have hi:i<m-l:=by rw [<-hlen];exact (List.getElem?_eq_some_iff.1 hx).1
  rw [List.getElem?_drop,List.getElem?_take_of_lt (by omega)] at hx;have hc:=h.at_ _ _ hx;obtain ⟨a,ha⟩:=Option.isSome_iff_exists.1 (h.some_ (by omega));have e:(⟨cut s.a l s.c E.k,m-l,s.c-l⟩:Slc).at_ E.k i=s.at_ E.k (l+i):=by
   unfold Slc.at_ cut;rw [ha,if_neg (by omega)];simp only [Option.map_some,getD_some];rw [qch,add_mul]
  rw [e];exact hc
theorem Rd.slK {T:Type} {E:El T} {w:World} {s:Slc} {xs:List T} (h:Rd E w s xs) {lo hi:Option Int} {k:Nat} (hk:k=E.k) {l m:Nat} {K:Slc->Prop} (hlo:lo=none/\l=0\/lo=some (l:Int)) (hhi:hi=none/\m=xs.length\/hi=some (m:Int))
  (hl:l<=m) (hm:m<=xs.length) (hK:Rd E w ⟨cut s.a l s.c E.k,m-l,s.c-l⟩ ((xs.take m).drop l)->K ⟨cut s.a l s.c E.k,m-l,s.c-l⟩):slK s lo hi k K:=by
 subst hk;have hn:=h.n;have hnc:=h.nc;have key:K ⟨cut s.a l s.c E.k,m-l,s.c-l⟩:=hK (h.part hl hm);unfold Vc.slK;have inner:bnd lo m 0 fun l'=>K ⟨cut s.a l' s.c E.k,m-l',s.c-l'⟩:=by
  rcases hlo with ⟨rfl,rfl⟩ | rfl
  ·exact qmi key
  ·exact qig (by omega) (by omega) (by simpa using key)
 rcases hhi with ⟨rfl,rfl⟩ | rfl
 ·refine qmi ?_;rw [hn];exact inner
 ·exact qig (by omega) (by omega) (by simpa using inner)
theorem q38 {P:Program} {T:Type} {E:El T} {st it:TypeId} {kk:IntKind} (TT:SlT P E st) (ty:TypeId) (hit:P.underlying it=some (.int kk)) (w:World) (n:Nat) (h0:0<n) (h63:n<=maxLen) (h48:n*TT.i.bytes<=140737488355328) :
  (append_ #[st,it] ty #[.slice none 0 0,.int .i64 n]).run P w =
   .ok (.slice (some ⟨w.heap.size,0,none⟩) n (grownCap w n 0 E.t)) (w.drew.alloc (.cells (Builtin.zeroCells TT.z.cells n++Builtin.zeroCells TT.z.cells (grownCap w n 0 E.t-n)) E.t)):=by
 have hn:n≠0:=by omega
 have hw:i64.wrap (n:Int)=n:=w64i (by simp only [maxLen] at h63;omega);have hb:¬(281474976710656<(n:Int)*(TT.i.bytes:Int)):=by
  rw [show (n:Int)*(TT.i.bytes:Int)=((n*TT.i.bytes:Nat):Int) by simp];omega
 have h63':¬(9223372036854775807<(n:Int)):=by simp only [maxLen] at h63;omega
 have h48':¬(281474976710656<Builtin.nextslicecap n 0*TT.i.bytes):=by rw [nextslicecap_zero h0];omega
 have hk:=E.pos;have hs:¬(TT.i.size=0):=by rw [TT.hs];omega
 have hneg:¬((n:Int)<0):=by omega
 have hai:(asIntOf (.int .i64 (n:Int))).run P w=.ok (.i64,(n:Int)) w:=rfl;simp [append_,run_underlying TT.ht,run_underlying hit,sizeOf,typeInfo,zeroValue,TT.hi,TT.hz,asInt,hai,hw,hb,hn,h63',h48',hneg,Question.forced,run_firstCells_none,newRow,grownCap];intro e;have:0<n*TT.i.size:=Nat.mul_pos h0 (by omega);omega
theorem zbv {P:Program} {T:Type} {E:El T} {st it:TypeId} {kk:IntKind} (TT:SlT P E st) {ty:TypeId} (hit:P.underlying it=some (.int kk)) {w:World} {n:Nat} {m:Int} {K:Slc->World->Prop} (hm:m=n) (h0:0<n) (h63:n<=maxLen) (h48:n*TT.i.bytes<=140737488355328)
  (hK:∀cap w',n<=cap->cap<=maxLen->Own E w' w.heap.size ⟨some ⟨w.heap.size,0,none⟩,0,cap⟩ []->Below w.heap.size w w'->K ⟨some ⟨w.heap.size,0,none⟩,n,cap⟩ w'):apM P #[st,it] ty ⟨none,0,0⟩ m .i64 w K:=by
 subst hm;refine ⟨⟨some ⟨w.heap.size,0,none⟩,n,grownCap w n 0 E.t⟩,_,q38 TT ty hit w n h0 h63 h48,hK _ _ (grownCap_ge w n 0 E.t) (grownCap_le_maxLen w n 0 E.t h63) ?_ ?_⟩
 ·have hge:=grownCap_ge w n 0 E.t;generalize hA:Builtin.zeroCells TT.z.cells n++Builtin.zeroCells TT.z.cells (grownCap w n 0 E.t-n)=A;have hsz:A.size=grownCap w n 0 E.t*E.k:=by
   rw [<-hA];simp only [Array.size_append,size_zeroCells,TT.hzs,<-add_mul];congr 1;omega
  refine Own.of_blk (E:=E) (xs:=[]) (cur:=A.toList) (le_refl _) ?_ (Nat.zero_le _) (grownCap_le_maxLen w n 0 E.t h63) ?_ (by simp [flat])
  ·have:=Blk.new w.drew E.t A.toList
   rwa [Array.toArray_toList] at this
  ·rw [Array.length_toList];exact hsz
 ·exact (Below.refl _ w).drew.alloc (le_refl _) _
end Go.Vc
namespace Go.Vc
open Go.ChangeShapes Go.WideShapes Go.ChangeAt Go.RowKit Go.Deep
inductive Leaf where
 | int (k:IntKind)
 | bool
 | str
def Leaf.ok:Leaf->Value->Prop
 | .int k,v=>∃z,v=.int k z/\(Lit.int k z).wf=true
 | .bool,v=>∃b,v=.bool b
 | .str,v=>∃s,v=.string s
def goF (P:Program) (g:TypeId->Option (List Leaf)):List Field->Nat->Option (List Leaf)
 | [],_=>some []
 | f::r,off =>
  match g f.type with
  | some ls=>if f.offset=off/\P.cellsOf f.type=ls.length then (goF P g r (off+ls.length)).map (ls++·) else none
  | none=>none
def qxr (P:Program):Nat->TypeId->Option (List Leaf)
 | 0,_=>none
 | n+1,t =>
  match P.underlying t with
  | some (.int k)=>some [.int k]
  | some .bool=>some [.bool]
  | some .string=>some [.str]
  | some (.struct fs)=>goF P (qxr P n) fs.toList 0
  | _=>none
def qxb (ls:List Leaf) (cs:List Value):Prop:=∀(j:Nat) l,ls[j]?=some l->∃v,cs[j]?=some v/\l.ok v
theorem q8q {P:Program} {g:TypeId->Option (List Leaf)} {cs:List Value}:∀(fs:List Field) (off:Nat) (ls:List Leaf),goF P g fs off=some ls ->
  (∀f∈fs,∀lf,g f.type=some lf->P.cellsOf f.type=lf.length->qxb lf ((cs.drop f.offset).take (P.cellsOf f.type)))->∀(j:Nat) l,ls[j]?=some l->∃v,cs[off+j]?=some v/\l.ok v
 | [],_,ls,h,_,j,l,hl=>by
  simp only [goF,Option.some.injEq] at h;subst h;simp at hl
 | f::r,off,ls,h,hf,j,l,hl=>by
  unfold goF at h;split at h
  ·rename_i lf hg;split at h
   ·rename_i hc;obtain ⟨rest,hr,e⟩:=Option.map_eq_some_iff.1 h;subst e;rcases Nat.lt_or_ge j lf.length with hj | hj
    ·rw [List.getElem?_append_left hj] at hl;obtain ⟨v,hv,ok⟩:=hf f (by simp) lf hg hc.2 j l hl;rw [hc.2,List.getElem?_take_of_lt hj,List.getElem?_drop,hc.1] at hv;exact ⟨v,hv,ok⟩
    ·rw [List.getElem?_append_right hj] at hl;obtain ⟨v,hv,ok⟩:=q8q r (off+lf.length) rest hr (fun f' hf'=>hf f' (by simp [hf'])) _ l hl;exact ⟨v,by rw [<-hv];congr 1;omega,ok⟩
   ·cases h
  ·cases h
section
variable {H:Type} {enc:TypeId×Value->H} {P:Program} {w:World} {base:Nat} {spare:Nat->Bool} {held:Bool}
theorem q6r:∀(n:Nat) {t:TypeId} {ls:List Leaf} {fuel:Nat} {cs:List Value} {x:DataW H×List MemPlace},qxr P n t=some ls->DataW.trod enc P w base spare held fuel t cs=some x->qxb ls cs
 | 0,_,_,_,_,_,h,_=>by cases h
 | n+1,t,ls,fuel,cs,x,h,ht=>by
  unfold qxr at h;split at h
  ·next k hu =>
   cases h;obtain ⟨z,rfl,_,hw⟩:=DataW.trod_int hu ht;intro j l hl
   match j,hl with
   | 0,hl=>cases hl;exact ⟨_,rfl,z,rfl,hw⟩
   | j+1,hl=>cases hl
  ·next hu =>
   cases h;obtain ⟨z,rfl,_⟩:=DataW.trod_bool hu ht;intro j l hl
   match j,hl with
   | 0,hl=>cases hl;exact ⟨_,rfl,z,rfl⟩
   | j+1,hl=>cases hl
  ·next hu =>
   cases h;obtain ⟨z,rfl,_⟩:=DataW.trod_string hu ht;intro j l hl
   match j,hl with
   | 0,hl=>cases hl;exact ⟨_,rfl,z,rfl⟩
   | j+1,hl=>cases hl
  ·next fs hu =>
   obtain ⟨xs,m,_,_,_,hxl,hf⟩:=DataW.trod_struct hu ht;intro j l hl;have:=q8q (cs:=cs) fs.toList 0 ls h (fun f hfm lf hg _=>by
    obtain ⟨i,hi⟩:=List.getElem?_of_mem hfm;rw [Array.getElem?_toList] at hi;have h1:=hf i f hi;have hil:i<xs.length:=by rw [hxl];exact (Array.getElem?_eq_some_iff.1 hi).1
    rw [List.getElem?_eq_getElem hil] at h1;exact q6r n hg h1) j l hl
   simpa using this
  ·cases h
theorem q25 {T:Type} {Q:Nat->T->Prop}:∀n:Nat,(∀i,i<n->∃x,Q i x)->∃xs:List T,xs.length=n/\∀(i:Nat) x,xs[i]?=some x->Q i x
 | 0,_=>⟨[],rfl,fun i x h=>by simp at h⟩
 | n+1,h=>by
  obtain ⟨xs,hl,hx⟩:=q25 n fun i hi=>h i (by omega);obtain ⟨y,hy⟩:=h n (by omega);refine ⟨xs++[y],by simp [hl],fun i x hi=>?_⟩;rcases Nat.lt_or_ge i n with h' | h'
  ·rw [List.getElem?_append_left (by omega)] at hi;exact hx i x hi
  ·rw [List.getElem?_append_right (by omega),hl] at hi;have:i-n=0:=by
    rcases Nat.eq_zero_or_pos (i-n) with e | e
    ·exact e
    ·rw [List.getElem?_eq_none (by simp;omega)] at hi;cases hi
   rw [this] at hi;cases hi;have:i=n:=by omega
   subst this;exact hy
theorem zcf {T:Type} (E:El T) (Q:T->Prop) {r:Reach} {b0 n:Nat} {t e:TypeId} {ls:List Leaf} {v:Value} {d:DataW H} {p:List MemPlace} (ht:P.underlying t=some (.slice e)) (hC:P.cellsOf e=E.k) (hls:qxr P n e=some ls)
  (mk:∀vs:List Value,vs.length=E.k->qxb ls vs->∃x:T,E.cells x=vs/\Q x) (hv:Value.okWide P w r b0 t v) (h:DataW.Trod enc P w base (fun _=>true) held t v d p):∃(s:Slc) (xs:List T),v=.slice s.a s.n s.c/\Rd E w s xs/\∀x∈xs,Q x:=by
 obtain ⟨a0,n0,c0,rfl⟩:=okWide_slice ht hv;obtain ⟨fuel,hf⟩:=h;rcases open_slice ht hf with ⟨hcs,_⟩ | ⟨a,len,cap,m,n',D,Pl,hcs,hb,hl,hm,hmm,hx,hi⟩
 ·simp [Value.cells] at hcs;obtain ⟨rfl,rfl,rfl⟩:=hcs;exact ⟨⟨none,0,0⟩,[],rfl,Rd.nil E w,fun x hx=>by cases hx⟩
 ·simp [Value.cells] at hcs;obtain ⟨rfl,rfl,rfl⟩:=hcs;rw [if_pos rfl] at hmm;have:∀i,i<n0->∃x:T,qai w (a.add (i*E.k)) (E.cells x)/\Q x:=by
   intro i hil;obtain ⟨cs',hc,ht'⟩:=hi i (by omega);rw [hC] at hc;obtain ⟨_,hcl,hat⟩:=World.cells?_some hc;obtain ⟨x,hx,hq⟩:=mk cs' hcl (q6r n hls ht');refine ⟨x,fun j u hu=>?_,hq⟩;rw [hx] at hu;have hj:j<E.k:=by rw [<-hcl];exact (List.getElem?_eq_some_iff.1 hu).1
   rw [hat j hj,hu]
  obtain ⟨xs,hxl,hxs⟩:=q25 n0 this;refine ⟨⟨some a,n0,c0⟩,xs,rfl,⟨hxl.symm,hl,hm,fun _=>rfl,fun i x hx=>(hxs i x hx).1⟩,fun x hx=>?_⟩;obtain ⟨i,hi⟩:=List.getElem?_of_mem hx;exact (hxs i x hi).2
end
theorem qzn {H:Type} {enc:TypeId×Value->H} {P:Program} (hl:laidOutB P=true) {W W':World} (hb:Below W.heap.size W W'):∀(ts:List TypeId) {vs:List Value} {ds:List (DataW H)} {ps:List MemPlace},
  ts.all (fun t=>P.readableRec t && decide (t<P.types.size))=true->DataW.TrodAll enc P W 0 (fun _=>true) true ts vs ds ps->(∀x∈ps,x.block<W.heap.size)->DataW.TrodAll enc P W' 0 (fun b=>decide (b<W.heap.size)) true ts vs ds ps
 | [],vs,ds,ps,_,h,_=>by
  obtain ⟨rfl,rfl,rfl⟩:=trodAll_nil h;exact trodAll_mk0
 | t::ts,vs,ds,ps,hr,h,hlt=>by
  obtain ⟨v,vs',d,ds',p,q,rfl,rfl,rfl,h0,h1⟩:=trodAll_cons h;simp only [List.all_cons,Bool.and_eq_true,decide_eq_true_eq] at hr;exact trodAll_cons_mk (Below.trod hl hr.1.1 hr.1.2 h0 hb fun x hx=>hlt x (List.mem_append.2 (.inl hx))) (qzn hl hb ts (by simpa using hr.2) h1 fun x hx=>hlt x (List.mem_append.2 (.inr hx)))
theorem zg4 {H:Type} {enc:TypeId×Value->H} {P:Program} {f:Func} {s:ChangeSpec} {W W':World} {args:Array Value} {ds gs:List (DataW H)} {before:List MemPlace} {tb:TypeId} (hl:laidOutB P=true) (hrt:f.resultTypes=#[tb]) (htb:P.underlying tb=some .bool)
  (hr:f.params.toList.all (fun t=>P.readableRec t && decide (t<P.types.size))=true) (hv:s.vars=[]) (hfn:s.fn H (ds++[])={ results:=[.lit (.bool true)],args:=ds }) (hW:DataW.Whole enc P f.params.toList s.vars false W args.toList ds gs before)
  (hb:Below W.heap.size W W'):s.post enc P f false true false false W args (.bool true) W':=by
 have hW':=hW;have hlt:=hW.lt;obtain ⟨p,q,hA0,hV,rfl,hfz,hnd⟩:=hW;rw [hv] at hV;obtain ⟨rfl,rfl⟩:=trodVars_none hV;refine ⟨ds,[],p++[],[],p,[],hW',?_,?_,?_,hb.frame _,fun h=>by cases h⟩
 ·rw [hrt,hfn];exact trodAll_mk1 (shut_bool htb _)
 ·rw [hfn];exact qzn hl hb _ hr hA0 fun x hx=>hlt x (by simpa using hx)
 ·rw [hfn,hv];exact rfl
end Go.Vc
namespace Go.Vc
open Go.RowKit
open _root_.Nat (le_refl)
theorem get_of {α:Type} {xs:List α} {k:Nat} (hk:k<xs.length):∃x,xs[k]?=some x/\∀h,xs[((k:Int)).toNat]'h=x:=⟨xs[k],List.getElem?_eq_getElem hk,fun _=>rfl⟩
theorem qh4 {x:Option Addr} {l m k:Nat} {a:Addr} (h:cut x l m k=some a):∃b,x=some b/\a.block=b.block:=by
 unfold cut at h;split at h
 ·exact ⟨a,h,rfl⟩
 ·obtain ⟨b,hb,rfl⟩:=Option.map_eq_some_iff.1 h;exact ⟨b,hb,by simp⟩
theorem slk {s:Slc} {k:Nat}:s.blk=some k↔∃a,s.a=some a/\a.block=k:=by
 unfold Slc.blk;rw [Option.map_eq_some_iff]
theorem qcm {C:Cx} {g:Nat} {first cap:Array Value} {args:List Value} {ks:List Kind} {w:World} {K:Cur ks} (hp:C.plain g=true) (h:callP C.P g (first.toList++args++cap.toList) ks w K) :
  callR C (.func (.func g) first cap) args ks w K:=by
 unfold callR qxe;simp only [hp];exact h
theorem qi5 {T:Type} {E:El T} {w:World} {g:Nat} {ys:List T} {vs:List Value} (hb:Blk w g E.t vs) (hm:ys.length<=maxLen) (hy:flat E ys=vs):Rd E w ⟨some ⟨g,0,none⟩,ys.length,ys.length⟩ ys :=
 (Own.of_blk (E:=E) (xs:=ys) (c:=ys.length) (base:=g) (le_refl _) hb (le_refl _) hm (by rw [<-hy,qd5]) (by rw [<-hy,List.take_of_length_le (by rw [qd5];exact le_refl _)])).rd
theorem Chg.gg {w1 w2:World} {k:Nat} (h:w1.grownBy w2 (some k)):Chg (fun i=>i=k) w1 w2:=Chg.of_grown h fun i hi=>by cases hi;rfl
theorem Rd.slK3 {T:Type} {E:El T} {w:World} {s:Slc} {xs:List T} (h:Rd E w s xs) {lo:Option Int} {hi mx:Int} {k:Nat} (hk:k=E.k) {l m:Nat} {K:Slc->Prop} (hlo:lo=none/\l=0\/lo=some (l:Int)) (hhi:hi=(m:Int)) (hmx:mx=(m:Int))
  (hl:l<=m) (hm:m<=xs.length) (hK:Rd E w ⟨cut s.a l m E.k,m-l,m-l⟩ ((xs.take m).drop l)->K ⟨cut s.a l m E.k,m-l,m-l⟩):slK3 s lo hi mx k K:=by
 subst hk hhi hmx;have hn:=h.n;have hnc:=h.nc;have hcm:=h.cm;have hlen:((xs.take m).drop l).length=m-l:=by simp;omega
 have key:Rd E w ⟨cut s.a l m E.k,m-l,m-l⟩ ((xs.take m).drop l):=by
  refine ⟨hlen.symm,le_refl _,by show m-l<=maxLen;omega,fun hp=>?_,fun i x hx=>?_⟩
  ·rw [hlen] at hp;obtain ⟨a,ha⟩:=Option.isSome_iff_exists.1 (h.some_ (by omega));show (cut s.a l m E.k).isSome=true;unfold cut;rw [ha];split<;>rfl
  ·have hi:i<m-l:=by rw [<-hlen];exact (List.getElem?_eq_some_iff.1 hx).1
   rw [List.getElem?_drop,List.getElem?_take_of_lt (by omega)] at hx;have hc:=h.at_ _ _ hx;obtain ⟨a,ha⟩:=Option.isSome_iff_exists.1 (h.some_ (by omega));have e:(⟨cut s.a l m E.k,m-l,m-l⟩:Slc).at_ E.k i=s.at_ E.k (l+i):=by
    unfold Slc.at_ cut;rw [ha,if_neg (by omega)];simp only [Option.map_some,Option.getD_some];rw [qch,Nat.add_mul]
   rw [e];exact hc
 unfold Vc.slK3;refine qig (by omega) (by omega) ?_;refine qig (by omega) (by simp) ?_;have hk':=hK key;rcases hlo with ⟨rfl,rfl⟩ | rfl
 ·exact qmi (by simpa using hk')
 ·exact qig (by omega) (by simp;omega) (by simpa using hk')
theorem q0s {T:Type} (E:El T) (x:T) (n m:Nat) (hm:m<n*E.k):(flat E (List.replicate n x))[m]?=(E.cells x)[m%E.k]?:=by
 have hq:m/E.k<n:=(Nat.div_lt_iff_lt_mul E.pos).2 hm;have hr:m%E.k<E.k:=Nat.mod_lt _ E.pos;have e:m/E.k*E.k+m%E.k=m:=by rw [Nat.mul_comm];exact Nat.div_add_mod m E.k
 have hv:(E.cells x)[m%E.k]?=some ((E.cells x)[m%E.k]'(by rw [E.len];exact hr)):=List.getElem?_eq_getElem _;have:=qx4 E (List.replicate n x) (m/E.k) x (m%E.k) _ (by rw [List.getElem?_replicate,if_pos hq]) hv;rw [e] at this;rw [this,hv]
theorem zh8 {P:Program} {T:Type} {E:El T} {st:TypeId} (TT:SlT P E st) {x0:T} (hz:(E.cells x0).toArray=TT.z.cells) {kl kc:IntKind} {l c:Int} {n:Nat} (hl:l=n) (hc:c=n) (hb:TT.i.bytes*n<=281474976710656) (hm:n<=maxLen) {w:World} {K:Slc->World->Prop}
  (hK:∀w',Own E w' w.heap.size ⟨some ⟨w.heap.size,0,none⟩,n,n⟩ (List.replicate n x0)->Below w.heap.size w w'->K ⟨some ⟨w.heap.size,0,none⟩,n,n⟩ w'):mkSl P st (.int kl l) (.int kc c) w K:=by
 subst hl hc;obtain ⟨w',h1,h2,h3⟩:=run_make_full (P:=P) w w.heap.size st E.t TT.i TT.z E.k TT.ht TT.hi TT.hz TT.hs kl kc n hb hm (le_refl _);refine ⟨_,w',h1,hK w' ?_ ⟨h3.os,h3.tape,h3.output,h3.size,fun k hk=>h3.block k hk (by simp)⟩⟩;unfold Own;rw [List.length_replicate];have e:flat E (List.replicate n x0)=(madeCells TT.z.cells (n*E.k)).toList:=by
  refine List.ext_getElem? fun m=>?_;by_cases hmm:m<n*E.k
  ·rw [q0s E x0 n m hmm];have hsz:TT.z.cells.size=E.k:=TT.hzs;have hr:m%E.k<E.k:=Nat.mod_lt _ E.pos;have h2:(E.cells x0)[m%E.k]?=TT.z.cells[m%E.k]?:=by rw [<-hz];simp
   rw [h2,Array.getElem?_toList];simp [madeCells,hmm,hsz,hr]
  ·rw [List.getElem?_eq_none (by rw [qd5,List.length_replicate];omega),List.getElem?_eq_none (by simp [size_madeCells];omega)]
 rw [e];exact h2
def kmax:IntKind->Nat
 | .i8=>7 | .i16=>15 | .i32=>31 | .i64=>63 | .u8=>8 | .u16=>16 | .u32=>32 | .u64=>64
theorem qml (k:IntKind) {x:Nat} (h:x<2^kmax k):k.wrap (x:Int)=x:=by
 cases k<;>simp only [kmax] at h
 ·exact IntWalk.i8_in _ (by omega)
 ·exact IntWalk.i16_in _ (by omega)
 ·exact IntWalk.i32_in _ (by omega)
 ·exact IntWalk.i64_in _ (by omega)
 ·exact IntWalk.u8_in _ (by omega)
 ·exact IntWalk.u16_in _ (by omega)
 ·exact IntWalk.u32_in _ (by omega)
 ·exact IntWalk.u64_in _ (by omega)
def le:List UInt8->Nat
 | []=>0
 | b::r=>b.toNat+256*le r
theorem ldB8 {w:World} {a:Addr} {b:UInt8} {K:Int->Prop} (h:qai w a [.int .u8 (b.toNat:Int)]) (hK:K (b.toNat:Int)):ldI .u8 a w K:=lI (x:=(b.toNat:Int)) (by simpa using h 0 _ rfl) hK
end Go.Vc
set_option maxRecDepth 100000
namespace Go.Proofs.YtcigiaecigedmaaGreatDoor
open Go.Vc Go.RowKit
open _root_.List (mem_cons mem_nil_iff)
def E_int:El Int where
 cells x:=[(.int .i64 x)]
 t:=qbz
 k:=1
 pos:=by decide
 len _:=rfl
 one x v hv:=by
  simp only [mem_cons,mem_nil_iff,or_false] at hv;rcases hv with rfl<;>rfl
noncomputable def qz9:SlT PG E_int qjw where
 ht:=by kernel_rfl
 i:=(PG.info? 3).getD default
 hi:=by kernel_rfl
 z:=(.int .i64 0)
 hz:=by kernel_rfl
 hs:=by kernel_rfl
 hzs:=rfl
theorem q6n:qz9.i.bytes=8:=by kernel_rfl
def qal:El UInt8 where
 cells b:=[.int .u8 b.toNat]
 t:=qa7
 k:=1
 pos:=by decide
 len _:=rfl
 one x v hv:=by
  simp only [mem_cons,mem_nil_iff,or_false] at hv;rcases hv with rfl<;>rfl
noncomputable def qd7:SlT PG qal qaj where
 ht:=by kernel_rfl
 i:=(PG.info? 5).getD default
 hi:=by kernel_rfl
 z:=(.int .u8 0)
 hz:=by kernel_rfl
 hs:=by kernel_rfl
 hzs:=rfl
theorem qp9:qd7.i.bytes=1:=by kernel_rfl
def q7b:El qa9 where
 cells:=qa9.rep.cells
 t:=qkz
 k:=14
 pos:=by decide
 len _:=rfl
 one x v hv:=by
  simp only [qa9.rep,mem_cons,mem_nil_iff,or_false] at hv;rcases hv with rfl | rfl | rfl | rfl | rfl | rfl | rfl | rfl | rfl | rfl | rfl | rfl | rfl | rfl<;>rfl
def zjc:El Slc where
 cells x:=[(.slice x.a x.n x.c)]
 t:=qa8
 k:=1
 pos:=by decide
 len _:=rfl
 one x v hv:=by
  simp only [mem_cons,mem_nil_iff,or_false] at hv;rcases hv with rfl<;>rfl
def zjd:El qax where
 cells:=qax.rep.cells
 t:=qao
 k:=5
 pos:=by decide
 len _:=rfl
 one x v hv:=by
  simp only [qax.rep,mem_cons,mem_nil_iff,or_false] at hv;rcases hv with rfl | rfl | rfl | rfl | rfl<;>rfl
def qgh:El qbs where
 cells:=qbs.rep.cells
 t:=qd3
 k:=5
 pos:=by decide
 len _:=rfl
 one x v hv:=by
  simp only [qbs.rep,mem_cons,mem_nil_iff,or_false] at hv;rcases hv with rfl | rfl | rfl | rfl | rfl<;>rfl
noncomputable def qr9:SlT PG qgh qba where
 ht:=by kernel_rfl
 i:=(PG.info? 169).getD default
 hi:=by kernel_rfl
 z:=(.agg #[(.bool false),(.int .i64 0),(.int .i64 0),(.int .i64 0),(.int .i64 0)])
 hz:=by kernel_rfl
 hs:=by kernel_rfl
 hzs:=rfl
theorem q12:qr9.i.bytes=40:=by kernel_rfl
def q5z:El Int where
 cells x:=[(.int .i32 x)]
 t:=qeu
 k:=1
 pos:=by decide
 len _:=rfl
 one x v hv:=by
  simp only [mem_cons,mem_nil_iff,or_false] at hv;rcases hv with rfl<;>rfl
def zcy:El Slc where
 cells x:=[(.slice x.a x.n x.c)]
 t:=qaj
 k:=1
 pos:=by decide
 len _:=rfl
 one x v hv:=by
  simp only [mem_cons,mem_nil_iff,or_false] at hv;rcases hv with rfl<;>rfl
theorem apB {w:World} {b:Nat} {s x:Slc} {xs ys:List UInt8} {K:Slc->World->Prop} (hown:Go.Vc.Own qal w b s xs) (hx:Rd qal w x ys) (hb:b<=w.heap.size) (hl:xs.length+ys.length<=1000000000000)
  (hK:∀r w',Go.Vc.Own qal w' b r (xs++ys)->Chg (fun k=>s.blk=some k) w w'->(r.blk=s.blk\/r.blk=some w.heap.size)->K r w'):apK PG #[qaj,qaj] qaj s x w K :=
 qde qd7 hown hx hb (by rw [qp9];omega) (by simp only [maxLen];omega) fun r w' h1 h2 h3=>hK r w' h1 (Chg.of_grown h2 fun k hk=>hk) h3
theorem apB1 {w:World} {b:Nat} {s:Slc} {xs:List UInt8} {c:UInt8} {v:Int} {K:Slc->World->Prop} (hv:v=(c.toNat:Int)) (hown:Go.Vc.Own qal w b s xs) (hb:b<=w.heap.size) (hl:xs.length<=900000000000)
  (hK:∀r w',Go.Vc.Own qal w' b r (xs++[c])->Chg (fun k=>s.blk=some k) w w'->(r.blk=s.blk\/∃k,r.blk=some k/\w.heap.size<=k)->K r w') :
  nw qa7 [(.int .u8 v)] w fun t w1=>apK PG #[qaj,qaj] qaj s (⟨(some t),1,1⟩:Slc) w1 K:=by
 subst hv;refine nwb fun w1 hb1 hB1 hs1=>?_;have hr:Rd qal w1 ⟨some ⟨w.heap.size,0,none⟩,1,1⟩ [c]:=qkj (E:=qal) hb1 rfl;refine apB (hown.ext hB1) hr (by omega) (by simp;omega) fun r w2 ho hc hq=>hK r w2 ho ((Chg.of_ext (S:=fun k=>s.blk=some k) hB1).trans hc fun i _ hi=>hi) ?_;rcases hq with e | e
 ·exact .inl e
 ·exact .inr ⟨_,e,by omega⟩
theorem q2a {s:Slc} {xs:List UInt8} {w:World} {K:Slc->World->Prop} (h:Rd qal w s xs) (hl:xs.length<=900000000000)
  (hK:∀r w',Go.Vc.Own qal w' w.heap.size r xs->Below w.heap.size w w'->K r w'):qdr s w K:=by
 refine qqy _ ?_;unfold qjj;cases ha:s.a with
 | none =>
  have:=h.none_nil ha;subst this;exact cT rfl (hK _ _ (Go.Vc.Own.nil _ _ _) (Below.refl _ _))
 | some a =>
  refine cF rfl ?_;refine nwb fun w1 hb1 hB1 hs1=>?_;refine apB (qvm (E:=qal) hb1 (Nat.le_refl _)) (h.ext hB1) (by omega) (by simp;omega) fun r w2 ho hc hq=>?_;rw [List.nil_append] at ho;exact hK r w2 ho (hB1.trans (hc.below (by omega) fun i hi hs=>by have e:w.heap.size=i:=Option.some.inj hs;omega))
set_option maxRecDepth 400000
def strB (bs:List UInt8):ByteArray:=⟨bs.toArray⟩
theorem qp8 (l:List UInt8):(strB l).toList=l:=by rw [ByteArray.toList_eq];rfl
end Go.Proofs.YtcigiaecigedmaaGreatDoor
namespace Go.Vc
open Go.RowKit
theorem q75 {P:Program} {T:Type} {E:El T} {st ty:TypeId} (TT:SlT P E st) {w:World} {base:Nat} {s:Slc} {xs:List T} {y:T} {vs:List Value} {K:Slc->World->Prop} (hown:Own E w base s xs) (hy:E.cells y=vs)
  (hb:base<=w.heap.size) (hl:(xs.length+1)*TT.i.bytes<=140737488355328) (hm:xs.length+1<=maxLen)
  (hK:∀r w',Own E w' base r (xs++[y])->Chg (fun k=>s.blk=some k) w w'->(∀k,r.blk=some k->s.blk=some k\/w.heap.size<=k)->K r w') :
  nw E.t vs w fun a w1=>apK P #[st,st] ty s ⟨some a,1,1⟩ w1 fun r w2=>K r w2:=by
 refine nwb fun w1 hb1 hB1 hs1=>?_;refine qde TT (hown.ext hB1) (qkj hb1 hy) (by omega) (by simpa using hl) (by simpa using hm) fun r w2 ho hg hr=>hK r w2 ho ?_ ?_
 ·exact (Chg.of_ext hB1).trans (Chg.of_grown (S:=fun k=>s.blk=some k) hg fun k hk=>hk) fun i _ hi=>hi
 ·intro k hk;rcases hr with hr | hr
  ·exact .inl (hr ▸ hk)
  ·right;rw [hr] at hk;cases hk;omega
theorem qbo {w:World} {T:Type} {E:El T} {b g:Nat} {s:Slc} {xs:List T} {t:TypeId} {vs:List Value} (h:Own E w b s xs) (h':Blk w g t vs) (hne:E.t≠t):∀k,s.blk=some k->k≠g:=fun k hk=>by
 obtain ⟨cs,hcs⟩:=h.blk_t hk;exact hcs.ne_t h' hne
theorem qsu {w:World} {T T':Type} {E:El T} {E':El T'} {b b':Nat} {s s':Slc} {xs:List T} {ys:List T'} (h:Own E w b s xs) (h':Own E' w b' s' ys) (hne:E.t≠E'.t):∀k,s.blk=some k->s'.blk≠some k:=fun k hk e=>by
 obtain ⟨cs,hcs⟩:=h.blk_t hk;obtain ⟨cs',hcs'⟩:=h'.blk_t e;exact hcs.ne_t hcs' hne rfl
theorem q51 {S:Nat->Prop} {w w':World} {k:Nat} (h:Chg (fun i=>i=k) w w') (hk:S k):Chg S w w':=h.mono fun i _ hi=>by rw [hi];exact hk
end Go.Vc
namespace Go.Proofs
open Go.Shelf
open Go.RowKit in
open Go.RowKit in
open Go.RowKit in
def Tryz.laysM171_ren:Go.Shelf.Ren:=⟨fun | 171=>201 | 243=>287 | 246=>351 | 283=>388 | 284=>389 | 285=>390 | 286=>391 | 129=>215 | 317=>414 | 318=>415 | 319=>416 | 320=>417 | 337=>431 | 338=>432 | n=>n,fun | 3=>3 | 9=>9 | 2=>2 | 4=>4 | 171=>417 | 0=>0 | 53=>299 | 37=>28 | 5=>5 | 173=>419 | 212=>434 | 51=>131 | 20=>20 | 213=>435 | 46=>132 | 232=>480 | 233=>481 | n=>n,fun | 17=>3 | 18=>4 | 19=>5 | n=>n⟩
theorem Tryz.laysM171:Go.Proofs.LaysM.n171 Tryz.prog Tryz.laysM171_ren:={
 mixed:=by kernel_rfl
 f129:=Tryz.func215.trans (congrArg some (by kernel_rfl))
 f171:=Tryz.func201.trans (congrArg some (by kernel_rfl))
 f243:=Tryz.func287.trans (congrArg some (by kernel_rfl))
 f246:=Tryz.func351.trans (congrArg some (by kernel_rfl))
 f283:=Tryz.func388.trans (congrArg some (by kernel_rfl))
 f284:=Tryz.func389.trans (congrArg some (by kernel_rfl))
 f285:=Tryz.func390.trans (congrArg some (by kernel_rfl))
 f286:=Tryz.func391.trans (congrArg some (by kernel_rfl))
 f317:=Tryz.func414.trans (congrArg some (by kernel_rfl))
 f318:=Tryz.func415.trans (congrArg some (by kernel_rfl))
 f319:=Tryz.func416.trans (congrArg some (by kernel_rfl))
 f320:=Tryz.func417.trans (congrArg some (by kernel_rfl))
 f337:=Tryz.func431.trans (congrArg some (by kernel_rfl))
 f338:=Tryz.func432.trans (congrArg some (by kernel_rfl))
 t0:=Tryz.underlying0
 a0:=Tryz.isAgg0
 z0:=Tryz.sizeOf0
 v0:=Tryz.zeroValue0
 t2:=Tryz.underlying2
 a2:=Tryz.isAgg2
 z2:=Tryz.sizeOf2
 v2:=Tryz.zeroValue2
 t3:=Tryz.underlying3
 a3:=Tryz.isAgg3
 z3:=Tryz.sizeOf3
 v3:=Tryz.zeroValue3
 t4:=Tryz.underlying4
 a4:=Tryz.isAgg4
 z4:=Tryz.sizeOf4
 v4:=Tryz.zeroValue4
 t5:=Tryz.underlying5
 a5:=Tryz.isAgg5
 z5:=Tryz.sizeOf5
 v5:=Tryz.zeroValue5
 t9:=Tryz.underlying9
 a9:=Tryz.isAgg9
 z9:=Tryz.sizeOf9
 v9:=Tryz.zeroValue9
 t20:=Tryz.underlying20
 a20:=Tryz.isAgg20
 z20:=Tryz.sizeOf20
 v20:=Tryz.zeroValue20
 t37:=Tryz.underlying28
 a37:=Tryz.isAgg28
 z37:=Tryz.sizeOf28
 v37:=Tryz.zeroValue28
 t46:=Tryz.underlying132
 a46:=Tryz.isAgg132
 z46:=Tryz.sizeOf132
 v46:=Tryz.zeroValue132
 t51:=Tryz.underlying131
 a51:=Tryz.isAgg131
 z51:=Tryz.sizeOf131
 v51:=Tryz.zeroValue131
 t53:=Tryz.underlying299
 a53:=Tryz.isAgg299
 z53:=Tryz.sizeOf299
 v53:=Tryz.zeroValue299
 t171:=Tryz.underlying417
 a171:=Tryz.isAgg417
 z171:=Tryz.sizeOf417
 v171:=Tryz.zeroValue417
 t173:=Tryz.underlying419
 a173:=Tryz.isAgg419
 z173:=Tryz.sizeOf419
 v173:=Tryz.zeroValue419
 t212:=Tryz.underlying434
 a212:=Tryz.isAgg434
 z212:=Tryz.sizeOf434
 v212:=Tryz.zeroValue434
 t213:=Tryz.underlying435
 a213:=Tryz.isAgg435
 z213:=Tryz.sizeOf435
 t232:=Tryz.underlying480
 a232:=Tryz.isAgg480
 z232:=Tryz.sizeOf480
 v232:=Tryz.zeroValue480
 t233:=Tryz.underlying481
 a233:=Tryz.isAgg481
 z233:=Tryz.sizeOf481
 v233:=Tryz.zeroValue481
 g17:=by kernel_rfl
 g18:=by kernel_rfl
 g19:=by kernel_rfl
 i0:=by kernel_rfl
 i2:=by kernel_rfl
 i3:=by kernel_rfl
 i4:=by kernel_rfl
 i5:=by kernel_rfl
 i9:=by kernel_rfl
 i20:=by kernel_rfl
 i37:=by kernel_rfl
 i46:=by kernel_rfl
 i51:=by kernel_rfl
 i53:=by kernel_rfl
 i171:=by kernel_rfl
 i173:=by kernel_rfl
 i212:=by kernel_rfl
 i232:=by kernel_rfl
 i233:=by kernel_rfl
 m17:=by kernel_rfl
 m18:=by kernel_rfl
 m19:=by kernel_rfl }
open Go.RowKit Go.Sort Go.Lib in
theorem Tryz.strconv_Itoa (n : Int) (h0 : -9223372036854775808 <= n) (h1 : n <= 9223372036854775807) (w : World) (htab : Lib.TabIs Tryz.prog w "internal/strconv.uint64pow10" .u64 Lib.pow10Tab) :
  Calls Tryz.prog 201 #[.int .i64 n] w fun e w'=>e=.returned (.string ⟨(Lib.itoa n).toArray⟩)/\∃k os,w'=grow (w.drewN k) os:=Any.strconv_Itoa Tryz.laysM171 n h0 h1 w htab
end Go.Proofs
namespace Go.Proofs.YtcigiaecigedmaaGreatDoor
open Go.Vc Go.RowKit
set_option maxRecDepth 400000
open Lib (itoa)
theorem zbz (l:List UInt8):(strB l).data.toList=l:=rfl
theorem zf2 (s:ByteArray):strB s.data.toList=s:=by cases s;simp [strB]
theorem qbi (l:List UInt8):(strB l).size=l.length:=by show l.toArray.size=_;simp
theorem qd2 (a b:List UInt8):strB a++strB b=strB (a++b):=by
 have:(strB a++strB b).data=(strB (a++b)).data:=by rw [ByteArray.data_append];simp [strB]
 calc strB a++strB b=⟨(strB a++strB b).data⟩:=rfl
  _=strB (a++b):=by rw [this]
theorem q41 {w:World} {s:Slc} {bs:List UInt8} (h:Rd qal w s bs):(convert qaj qb1 (.slice s.a s.n s.c)).run PG w=.ok (.string (strB bs)) w:=by
 cases ha:s.a with
 | none =>
  have:bs=[]:=by
   cases bs with
   | nil=>rfl
   | cons x r=>have:=h.some_ (by simp);rw [ha] at this;cases this
  subst this;exact run_convert_bytes_nil (P:=PG) w qaj qa7 (by kernel_rfl) (by kernel_rfl) _ _ qb1 (by kernel_rfl)
 | some a =>
  have hn:=h.n;have hl:(loadCells a bs.length).run PG w=.ok ((bs.map fun b=>Value.int .u8 b.toNat)).toArray w:=by
   have:=run_loadCells_list (P:=PG) w a (bs.map fun b=>Value.int .u8 b.toNat) (fun j v hj=>by
    rw [List.getElem?_map] at hj;cases hb:bs[j]? with
    | none=>rw [hb] at hj;cases hj
    | some b =>
     rw [hb] at hj;cases hj;have:=h.at_ j b hb 0 (.int .u8 b.toNat) rfl;simp only [Slc.at_,ha,Option.getD_some,add_zero] at this
     rwa [show j*qal.k=j from Nat.mul_one j] at this)
   simpa using this
  have hb:=run_bytesToString w a s.n s.c (bs.map fun b=>(b.toNat:Int)) (by rw [hn,hl];simp);rw [run_convert_bytes_string w qaj qb1 qa7 _ s.n s.c (by kernel_rfl) (by kernel_rfl) (by kernel_rfl),hb,foldl_push_bytes];have e:(bs.map fun b=>(b.toNat:Int)).map (fun n=>UInt8.ofNat n.toNat)=bs:=by
   rw [List.map_map]
   conv=>rhs;rw [<-List.map_id bs]
   refine List.map_congr_left fun b _=>?_;simp
  rw [e];simp [strB,ByteArray.empty,ByteArray.emptyWithCapacity];rfl
section
variable {w:World}
theorem qsj {s:Slc} {bs:List UInt8} (h:Rd qal w s bs) {K:ByteArray->World->Prop} (hK:K (strB bs) w):runK1 PG (convert qaj qb1 (.slice s.a s.n s.c)) Kind.string w K:=⟨_,w,q41 h,hK⟩
theorem q8e {bs:List UInt8} (hl:bs.length<=1000000000) {K:Slc->World->Prop} (hK:∀q w',Rd qal w' q bs->(∀k,q.blk=some k->w.heap.size<=k)->Below w.heap.size w w'->q.a.isSome=true->K q w') :
  runK1 PG (convert qb1 qaj (.string (strB bs))) Kind.slice w K:=by
 have hr:=Lib.run_convert_string_bytes (P:=PG) w qb1 qaj qa7 (strB bs) (u:=.string) (by kernel_rfl) (by kernel_rfl) (by kernel_rfl);have hsz:=qbi bs;refine ⟨⟨some ⟨w.heap.size,0,none⟩,(strB bs).size,grownCap w (strB bs).size 0 qa7⟩,_,hr,hK _ _ ⟨hsz,grownCap_ge w _ 0 qa7,grownCap_le_maxLen w _ 0 qa7 (by rw [hsz];unfold maxLen;omega),fun _=>rfl,fun i x hx=>?_⟩ (fun k hk=>by cases hk;exact Nat.le_refl _) ⟨rfl,rfl,rfl,by rw [Lib.bytesWorld_size];omega,fun k hk=>Lib.bytesWorld_at_old w _ _ k hk⟩ rfl⟩;have hi:i<bs.length:=(List.getElem?_eq_some_iff.1 hx).1;intro j v hv
 match j,hv with
 | 0,hv =>
  cases hv;have:=Lib.bytesWorld_cell w qa7 (strB bs) i (by rw [hsz];exact hi);rw [zbz] at this;have e:bs.getD i 0=x:=by rw [List.getD_eq_getElem?_getD,hx];rfl
  rw [e] at this;show World.cell? _ (((⟨w.heap.size,0,none⟩:Addr).add (i*1)).add 0)=_;rw [add_zero,Nat.mul_one,qae,Nat.zero_add];exact this
theorem zi1 {bs:List UInt8} {i:Int} {k:Nat} {b:UInt8} {K:Int->Prop} (hi:i=k) (hb:bs[k]?=some b) (hK:K b.toNat):ixS (strB bs) i K:=by
 subst hi;have hk:k<bs.length:=(List.getElem?_eq_some_iff.1 hb).1;refine ⟨⟨by omega,by rw [qbi];omega⟩,?_⟩;have e:(strB bs).data.getD ((k:Int)).toNat 0=b:=by
  show bs.toArray.getD _ _=_;rw [Int.toNat_natCast,Array.getD_eq_getD_getElem?,List.getElem?_toArray,hb];rfl
 rw [e];exact hK
def Tab (w : World) : Prop := Lib.TabIs PG w "internal/strconv.uint64pow10" .u64 Lib.pow10Tab
theorem zd3 {g:Nat} {cs:Array Value} {n:String} (hg:PG.globalNamed n=some g) (h:w.var? PG n=some cs):g<w.heap.size:=by
 unfold World.var? at h;rw [hg] at h;dsimp only [Option.bind_some] at h;rcases Nat.lt_or_ge g w.heap.size with hlt | hge
 ·exact hlt
 ·rw [Array.getElem?_eq_none hge] at h;cases h
theorem Tab.ext {w':World} (h:Tab w) (hb:Below w.heap.size w w'):Tab w' :=
 var?_below (g:=3) hb (by kernel_rfl) (zd3 (by kernel_rfl) h) h
theorem qy6 {n:Int} (h0:-9223372036854775808<=n) (h1:n<=9223372036854775807):(itoa n).length<=20:=by
 have hd:∀(m u:Nat),1<=m->u<10^m->(Lib.decDigits u).length<=m:=by
  intro m
  induction m with
  | zero=>intro u h;omega
  | succ m ih =>
   intro u _ h;rw [Lib.decDigits];split
   ·simp
   ·rename_i h10;have:m≠0:=fun e=>by subst e;simp at h;omega
    have:=ih (u/10) (by omega) (by rw [Nat.pow_succ] at h;omega);rw [List.length_append,List.length_singleton];omega
 unfold itoa;split
 ·rw [List.length_cons];have:=hd 19 n.natAbs (by omega) (by omega);omega
 ·have:=hd 19 n.toNat (by omega) (by omega);omega
theorem qvr (hT:Tab w) {n:Int} (h0:-9223372036854775808<=n) (h1:n<=9223372036854775807) {K:ByteArray->World->Prop} (hK:∀w',Below w.heap.size w w'->K (strB (itoa n)) w'):qh2 n w K:=by
 refine Calls.mono (Tryz.strconv_Itoa n h0 h1 w hT) ?_;rintro e w' ⟨rfl,k,os,rfl⟩;refine ⟨_,rfl,hK _ ⟨rfl,rfl,rfl,by show _<=((w.drewN k).heap++os).size;simp [World.drewN],fun j hj=>?_⟩⟩;show ((w.drewN k).heap++os)[j]?=_;rw [Array.getElem?_append_left (by simpa [World.drewN] using hj)];rfl
end
end Go.Proofs.YtcigiaecigedmaaGreatDoor
namespace Go.Proofs.YtcigiaecigedmaaGreatDoor
open Go.Vc Go.ChangeShapes Go.WideShapes Go.ChangeAt Go.RowKit
set_option maxRecDepth 100000
theorem own:ownKnob Tryz.prog.godebug=none:=by kernel_rfl
theorem zhz:laidOutB Tryz.prog=true:=by kernel_rfl
theorem zg6 {ls:List Leaf} {vs:List Value} {k:IntKind} (h:qxb ls vs) (j:Nat) (hj:ls[j]?=some (.int k)):∃z,vs[j]?=some (.int k z)/\(Lit.int k z).wf=true:=by
 obtain ⟨v,hv,z,rfl,hw⟩:=h j _ hj;exact ⟨z,hv,hw⟩
theorem zay {vs us:List Value} (hl:vs.length=us.length) (h:∀(j:Nat),j<us.length->us[j]?=vs[j]?):us=vs :=
 List.ext_getElem? fun j=>by
  rcases Nat.lt_or_ge j us.length with hj | hj
  ·exact h j hj
  ·rw [List.getElem?_eq_none hj,List.getElem?_eq_none (by omega)]
def zie (P:Program) (t:TypeId):TypeId:=match P.underlying t with
 | some (.array _ e)=>e
 | _=>0
def tabs : List (String × DataW Unit) := [("math/bits.deBruijn32tab", Rows.laid_math_bits_deBruijn32tab), ("math/bits.deBruijn64tab", Rows.laid_math_bits_deBruijn64tab), ("internal/strconv.uint64pow10", Rows.laid_internal_strconv_uint64pow10), ("unicode/utf8.acceptRanges", Rows.laid_unicode_utf8_acceptRanges), ("unicode/utf8.first", Rows.laid_unicode_utf8_first)]
theorem zag (os:Os):(World.laidAll Tryz.prog os tabs).Shaped Tryz.prog:=World.shaped_of_ZipB (by kernel_rfl) (by kernel_rfl)
theorem zg3 (os:Os) (args:Array Value):laidMetH Tryz.prog tabs ((World.laidAll Tryz.prog os tabs).forCall (fun _ _=>0) ⟨#[],args,[]⟩).memory:=by
 rw [MakeChecks.laidMetH_plain _ _ _ (by kernel_rfl)];exact laidMet_laidAll _ (by kernel_rfl) (by kernel_rfl)
theorem q7h {P:Program} {W:World} {name:String} {k:IntKind} {zs:List Int} {rest:List (String×DataW Unit)} {g:Nat} {t e:TypeId} {n:Nat} {ps:List MemPlace}
  (hg:P.globalNamed name=some g) (hty:(P.globals[g]?).map (·.type)=some t) (ht:P.underlying t=some (.array n e)) (he:P.underlying e=some (.int k)) (hce:P.cellsOf e=1) (hct:P.cellsOf t=n)
  (h:DataW.LaidVars P W ((name,Lib.tabData k zs)::rest) ps):Lib.TabIs P W name k zs:=by
 obtain ⟨g',t',cs,fuel,p,q,hg',ht',hvar,hd,_,_⟩:=h;obtain rfl:=Option.some.inj (hg.symm.trans hg');obtain rfl:=Option.some.inj (hty.symm.trans ht');unfold Lib.TabIs;rw [hvar,<-Lib.cells_of_tab ht he hce hct hd]
theorem q96 {W:World} (h:laidMetH Tryz.prog tabs W):Tab W:=by
 rw [MakeChecks.laidMetH_plain _ _ _ (by kernel_rfl)] at h;obtain ⟨ps,⟨_,_,_,_,_,_,_,_,_,_,⟨_,_,_,_,_,_,_,_,_,_,h,_⟩,_⟩,_⟩:=h;have e:(Rows.laid_internal_strconv_uint64pow10:DataW Unit)=Lib.tabData .u64 Lib.pow10Tab:=by kernel_rfl
 rw [e] at h;exact q7h (g:=3) (t:=(Tryz.prog.globals[3]?).map (·.type) |>.getD 0) (e:=zie Tryz.prog ((Tryz.prog.globals[3]?).map (·.type) |>.getD 0)) (n:=20) (by kernel_rfl) (by kernel_rfl) (by kernel_rfl) (by kernel_rfl) (by kernel_rfl) (by kernel_rfl) h
end Go.Proofs.YtcigiaecigedmaaGreatDoor
namespace Go.Vc
open Go.RowKit
open Builtin (delete_)
open IntKind (i64)
open _root_.List (mem_append mem_cons mem_map mem_singleton)
open _root_.Option (map_eq_some_iff)
structure Ent (V:Type) where
 k:Int
 v:V
 b:Nat
section
variable {V:Type} (enc:V->Value)
def Ent.val (e:Ent V):MapEntry:={ key:=.int .i64 e.k,val:=enc e.v,born:=e.b }
structure MapE (w:World) (r:Nat) (E:List (Ent V)) (clock:Nat):Prop where
 heap:w.heap[r]?=some (.map (E.map (Ent.val enc)).toArray clock)
 keys:E.Pairwise fun x y=>x.k≠y.k
 stamps:E.Pairwise fun x y=>x.b<y.b
 lt:∀e∈E,e.b<clock
 wf:∀e∈E,-9223372036854775808<=e.k/\e.k<=9223372036854775807
def Srt (L:List (Int×V)):Prop:=L.Pairwise fun p q=>p.1<q.1
def lookL (L:List (Int×V)) (k:Int):Option V:=(L.find? fun p=>p.1==k).map (·.2)
def delL (L:List (Int×V)) (k:Int):List (Int×V):=L.filter fun p=>p.1 !=k
def putL' (L:List (Int×V)) (k:Int) (v:V):List (Int×V):=match L with
 | []=>[(k,v)]
 | p::r=>if k<p.1 then (k,v)::p::r else if k=p.1 then (k,v)::r else p::putL' r k v
def pairs (E:List (Ent V)):List (Int×V):=E.map fun e=>(e.k,e.v)
def MapM (w:World) (r:Nat) (L:List (Int×V)):Prop:=∃E clock,MapE enc w r E clock/\(pairs E).Perm L/\Srt L
variable {enc}
theorem MapE.lt_heap {w:World} {r:Nat} {E:List (Ent V)} {clock:Nat} (h:MapE enc w r E clock):r<w.heap.size:=(Array.getElem?_eq_some_iff.1 h.heap).1
theorem MapM.lt {w:World} {r:Nat} {L:List (Int×V)} (h:MapM enc w r L):r<w.heap.size:=by
 obtain ⟨E,c,h,_⟩:=h;exact h.lt_heap
theorem MapM.keep {w w':World} {r:Nat} {L:List (Int×V)} (h:MapM enc w r L) (hk:w'.heap[r]?=w.heap[r]?):MapM enc w' r L:=by
 obtain ⟨E,c,h,hp⟩:=h;exact ⟨E,c,⟨hk.trans h.heap,h.keys,h.stamps,h.lt,h.wf⟩,hp⟩
theorem MapM.chg {S:Nat->Prop} {w w':World} {r:Nat} {L:List (Int×V)} (h:MapM enc w r L) (hc:Chg S w w') (hS:¬S r):MapM enc w' r L:=h.keep (hc.block r h.lt hS)
theorem MapM.ext {w w':World} {r:Nat} {L:List (Int×V)} (h:MapM enc w r L) (hb:Below w.heap.size w w'):MapM enc w' r L:=h.keep (hb.block r h.lt)
theorem MapM.new (w:World):MapM enc (w.alloc (.map #[] 0)) w.heap.size ([]:List (Int×V)):=by
 refine ⟨[],0,⟨?_,.nil,.nil,(fun e he=>by cases he),(fun e he=>by cases he)⟩,.refl _,.nil⟩;show (w.heap.push _)[w.heap.size]?=_;simp
theorem MapM.ne_blk {w:World} {r g:Nat} {L:List (Int×V)} {t:TypeId} {vs:List Value} (h:MapM enc w r L) (hb:Blk w g t vs):r≠g:=by
 rintro rfl;obtain ⟨E,c,h,_⟩:=h;have h1:=h.heap;unfold Blk at hb;rw [hb] at h1;cases h1
def idxE:List (Ent V)->Int->Option (Nat×V)
 | [],_=>none
 | e::r,k=>if k=e.k then some (0,e.v) else (idxE r k).map fun p=>(p.1+1,p.2)
theorem q2i (k:Int):∀(E:List (Ent V)) (i:Nat),Instr.findNow (.int .i64) (.int .i64 k) (E.map (Ent.val enc)) i=some ((idxE E k).map fun p=>(i+p.1,enc p.2))
 | [],i=>rfl
 | e::r,i=>by
  rw [List.map_cons,Instr.findNow];have hs:Instr.sameNow (.int .i64) (.int .i64 k) (Ent.val enc e).key=some (k==e.k):=by
   show (if (i64=i64) then some (k==e.k) else none)=_;rw [if_pos rfl]
  rw [hs,idxE];by_cases h:k=e.k
  ·rw [if_pos h,show (k==e.k)=true from beq_iff_eq.2 h];rfl
  ·rw [if_neg h,show (k==e.k)=false from beq_eq_false_iff_ne.2 h];dsimp only;rw [q2i k r (i+1)];cases idxE r k with
   | none=>rfl
   | some p =>
    show some (some (i+1+p.1,enc p.2))=some (some (i+(p.1+1),enc p.2));rw [show i+1+p.1=i+(p.1+1) by omega]
theorem q0z {k:Int} {v:V}:∀{E:List (Ent V)} {i:Nat},idxE E k=some (i,v)->∃e,E[i]?=some e/\e.k=k/\e.v=v
 | e::r,i,h=>by
  rw [idxE] at h;by_cases hk:k=e.k
  ·rw [if_pos hk] at h;cases h;exact ⟨e,rfl,hk.symm,rfl⟩
  ·rw [if_neg hk] at h;obtain ⟨p,hp,e'⟩:=map_eq_some_iff.1 h;cases e';obtain ⟨x,hx,h1,h2⟩:=q0z (E:=r) (i:=p.1) (by rw [hp]);exact ⟨x,hx,h1,h2⟩
theorem qvh {k:Int}:∀{E:List (Ent V)},idxE E k=none->∀e∈E,e.k≠k
 | [],_,e,he=>by cases he
 | x::r,h,e,he=>by
  rw [idxE] at h;by_cases hk:k=x.k
  ·rw [if_pos hk] at h;cases h
  ·rw [if_neg hk] at h;have h:=Option.map_eq_none_iff.1 h;rcases mem_cons.1 he with rfl | he
   ·exact fun e=>hk e.symm
   ·exact qvh h e he
theorem qsx {L:List (Int×V)} (hs:Srt L) {k:Int} {v:V}:lookL L k=some v↔(k,v)∈L:=by
 unfold lookL;rw [map_eq_some_iff];constructor
 ·rintro ⟨p,hp,rfl⟩;have h1:=List.find?_some hp;have h2:=List.mem_of_find?_eq_some hp;have:p.1=k:=by simpa using h1
  rw [<-this];exact h2
 ·intro hm;cases hf:L.find? (fun p=>p.1==k) with
  | none =>
   have:=List.find?_eq_none.1 hf (k,v) hm;simp at this
  | some q =>
   have h1:q.1=k:=by simpa using List.find?_some hf
   have h2:=List.mem_of_find?_eq_some hf;refine ⟨q,rfl,?_⟩;obtain ⟨qk,qv⟩:=q;subst h1;have:∀{M:List (Int×V)},Srt M->∀{a b c},(a,b)∈M->(a,c)∈M->b=c:=by
    intro M hM
    induction hM with
    | nil=>intro a b c h;cases h
    | cons hx _ ih =>
     intro a b c hb hc;rcases mem_cons.1 hb with e | hb
     ·rcases mem_cons.1 hc with e' | hc
      ·have:=e.trans e'.symm;cases this;rfl
      ·have:=hx _ hc;rw [<-e] at this;exact absurd this (Int.lt_irrefl _)
     ·rcases mem_cons.1 hc with e' | hc
      ·have:=hx _ hb;rw [<-e'] at this;exact absurd this (Int.lt_irrefl _)
      ·exact ih hb hc
   exact this hs h2 hm
theorem zen {E:List (Ent V)} {L:List (Int×V)} (hp:(pairs E).Perm L) (hs:Srt L) (k:Int):(idxE E k).map (·.2)=lookL L k:=by
 cases hi:idxE E k with
 | none =>
  cases hg:lookL L k with
  | none=>rfl
  | some v =>
   have:=hp.mem_iff.2 ((qsx hs).1 hg);obtain ⟨e,he,e2⟩:=mem_map.1 this;have e2:=congrArg Prod.fst e2;exact absurd e2 (qvh hi e he)
 | some p =>
  obtain ⟨i,v⟩:=p;obtain ⟨e,he,h1,h2⟩:=q0z hi;refine ((qsx hs).2 (hp.mem_iff.1 (mem_map.2 ⟨e,List.mem_of_getElem? he,?_⟩))).symm;rw [h1,h2]
def putM (w:World) (r:Nat) (o:Obj):World:={ w with heap:=w.heap.setIfInBounds r o }
theorem qtw (w:World) (r:Nat) (o:Obj):Chg (fun k=>k=r) w (putM w r o) :=
 ⟨rfl,rfl,rfl,by show w.heap.size<=(w.heap.setIfInBounds r o).size;simp,fun k _ hk=>by show (w.heap.setIfInBounds r o)[k]?=_;rw [Array.getElem?_setIfInBounds_ne (fun e=>hk e.symm)]⟩
theorem qvg {w:World} {r:Nat} (o:Obj) (h:r<w.heap.size):(putM w r o).heap[r]?=some o:=by
 show (w.heap.setIfInBounds r o)[r]?=_;simp [h]
theorem qqw (w:World) (r:Nat) (o:Obj):(putM w r o).heap.size=w.heap.size:=by show (w.heap.setIfInBounds r o).size=_;simp
theorem Srt.nodup {L:List (Int×V)} (h:Srt L):L.Nodup:=h.imp fun {a b} hab e=>by rw [e] at hab;exact Int.lt_irrefl _ hab
theorem q9y {E:List (Ent V)} (h:E.Pairwise fun x y=>x.k≠y.k):(pairs E).Nodup:=List.pairwise_map.2 (h.imp fun {a b} hab e=>hab (congrArg Prod.fst e))
theorem qyn {L:List (Int×V)} (hs:Srt L) (k:Int) (v:V):∀a b,(a,b)∈putL' L k v↔(a=k/\b=v)\/(a≠k/\(a,b)∈L):=by
 induction hs with
 | nil =>
  intro a b;simp [putL']
 | @cons p L' hp hs' ih =>
  intro a b;obtain ⟨pk,pv⟩:=p;rw [putL'];dsimp only at hp ⊢;have hgt:∀{a b},(a,b)∈L'->pk<a:=fun h=>hp _ h;by_cases h1:k<pk
  ·rw [if_pos h1];simp only [mem_cons,Prod.mk.injEq];constructor
   ·rintro (h | h | h)
    ·exact .inl h
    ·exact .inr ⟨by omega,.inl h⟩
    ·exact .inr ⟨by have:=hgt h;omega,.inr h⟩
   ·rintro (h | ⟨_,h | h⟩)
    ·exact .inl h
    ·exact .inr (.inl h)
    ·exact .inr (.inr h)
  ·rw [if_neg h1];by_cases h2:k=pk
   ·rw [if_pos h2];simp only [mem_cons,Prod.mk.injEq];constructor
    ·rintro (h | h)
     ·exact .inl h
     ·exact .inr ⟨by have:=hgt h;omega,.inr h⟩
    ·rintro (h | ⟨hne,h | h⟩)
     ·exact .inl h
     ·omega
     ·exact .inr h
   ·rw [if_neg h2];simp only [mem_cons,Prod.mk.injEq,ih];constructor
    ·rintro (h | h | ⟨hne,h⟩)
     ·exact .inr ⟨by omega,.inl h⟩
     ·exact .inl h
     ·exact .inr ⟨hne,.inr h⟩
    ·rintro (h | ⟨hne,h | h⟩)
     ·exact .inr (.inl h)
     ·exact .inl h
     ·exact .inr (.inr ⟨hne,h⟩)
theorem quf {L:List (Int×V)} (hs:Srt L) (k:Int) (v:V):Srt (putL' L k v):=by
 induction hs with
 | nil=>exact List.pairwise_singleton _ _
 | @cons p L' hp hs' ih =>
  obtain ⟨pk,pv⟩:=p;rw [putL'];dsimp only at hp ⊢;by_cases h1:k<pk
  ·rw [if_pos h1];refine .cons (fun q hq=>?_) (.cons hp hs');rcases mem_cons.1 hq with rfl | hq
   ·exact h1
   ·exact Int.lt_trans h1 (hp q hq)
  ·rw [if_neg h1];by_cases h2:k=pk
   ·rw [if_pos h2];exact .cons (fun q hq=>by rw [h2];exact hp q hq) hs'
   ·rw [if_neg h2];refine .cons (fun q hq=>?_) ih;obtain ⟨a,b⟩:=q;rcases (qyn hs' k v a b).1 hq with ⟨rfl,_⟩ | ⟨_,hm⟩
    ·show pk<a;omega
    ·exact hp _ hm
theorem q3k {L:List (Int×V)} (hs:Srt L) (k:Int):Srt (delL L k):=hs.filter _
theorem q3x {L:List (Int×V)} (k a:Int) (b:V):(a,b)∈delL L k↔a≠k/\(a,b)∈L:=by
 simp [delL,and_comm]
def setE (E:List (Ent V)) (i:Nat) (v:V):List (Ent V):=E.modify i fun e=>{ e with v:=v }
theorem q7s {k:Int} {v v0:V}:∀{E:List (Ent V)} {i:Nat},E.Pairwise (fun x y=>x.k≠y.k)->idxE E k=some (i,v0)->∀a b,(a,b)∈pairs (setE E i v)↔(a=k/\b=v)\/(a≠k/\(a,b)∈pairs E)
 | e::r,i,hp,h,a,b=>by
  rw [idxE] at h;cases hp with
  | cons hpe hpr =>
  by_cases hk:k=e.k
  ·rw [if_pos hk] at h;cases h;show (a,b)∈(e.k,v)::pairs r↔_\/(_/\(a,b)∈(e.k,e.v)::pairs r);simp only [mem_cons,Prod.mk.injEq];have hne:∀{a b},(a,b)∈pairs r->a≠k:=fun {a b} hm e'=>by
    obtain ⟨x,hx,ex⟩:=mem_map.1 hm;have:=congrArg Prod.fst ex;exact hpe x hx (by rw [<-hk,<-e'];exact this.symm)
   constructor
   ·rintro (⟨h1,h2⟩ | h)
    ·exact .inl ⟨by omega,h2⟩
    ·exact .inr ⟨hne h,.inr h⟩
   ·rintro (⟨h1,h2⟩ | ⟨h1,⟨h2,_⟩ | h⟩)
    ·exact .inl ⟨by omega,h2⟩
    ·omega
    ·exact .inr h
  ·rw [if_neg hk] at h;obtain ⟨p,hp',e'⟩:=map_eq_some_iff.1 h;cases e';have ih:=q7s (E:=r) (i:=p.1) hpr (by rw [hp']) a b (v:=v) (k:=k);show (a,b)∈(e.k,e.v)::pairs (setE r p.1 v)↔_\/(_/\(a,b)∈(e.k,e.v)::pairs r);simp only [mem_cons,Prod.mk.injEq,ih];constructor
   ·rintro (⟨h1,h2⟩ | h | ⟨h1,h2⟩)
    ·exact .inr ⟨by omega,.inl ⟨h1,h2⟩⟩
    ·exact .inl h
    ·exact .inr ⟨h1,.inr h2⟩
   ·rintro (h | ⟨h1,h | h⟩)
    ·exact .inr (.inl h)
    ·exact .inl h
    ·exact .inr (.inr ⟨h1,h⟩)
theorem q6e {k:Int} {v0:V}:∀{E:List (Ent V)} {i:Nat},E.Pairwise (fun x y=>x.k≠y.k)->idxE E k=some (i,v0)->E.eraseIdx i=E.filter fun e=>e.k !=k
 | e::r,i,hp,h=>by
  rw [idxE] at h;cases hp with
  | cons hpe hpr =>
  by_cases hk:k=e.k
  ·rw [if_pos hk] at h;cases h;rw [List.eraseIdx_cons_zero,List.filter_cons,if_neg (by simp [hk])];refine (List.filter_eq_self.2 fun x hx=>?_).symm;have:=hpe x hx;simp only [bne_iff_ne,ne_eq];rw [hk];exact fun e=>this e.symm
  ·rw [if_neg hk] at h;obtain ⟨p,hp',e'⟩:=map_eq_some_iff.1 h;cases e';rw [List.eraseIdx_cons_succ,List.filter_cons,if_pos (by simpa using fun e=>hk e.symm),q6e (E:=r) (i:=p.1) hpr (by rw [hp'])]
theorem zaw {k:Int} {E:List (Ent V)} (h:idxE E k=none):E.filter (fun e=>e.k !=k)=E:=List.filter_eq_self.2 fun x hx=>by simpa using qvh h x hx
section
variable {P:Program} {t kt et:TypeId} {w:World} {r:Nat} {E:List (Ent V)} {clock:Nat}
theorem qhz (hk:P.underlying kt=some (.int .i64)) (b:Bool) (k:Int):(Instr.checkKey b 10000 kt (.int .i64 k)).run P w=.ok () w:=by
 show (Instr.checkKey b (9999+1) kt (.int .i64 k)).run P w=_;rw [Instr.checkKey];simp only [Sem.run_bind,run_underlying hk,Result.andThen_ok,Sem.run_pure]
theorem qgx {es:Array MapEntry} (h:w.heap[r]?=some (.map es clock)):(getObj r).run P w=.ok (.map es clock) w:=by simp [getObj,Sem.run,h]
theorem qow {es:Array MapEntry} (o:Obj) (h:w.heap[r]?=some (.map es clock)):(setObj r o).run P w=.ok () (putM w r o):=by simp [setObj,Sem.run,h,putM]
theorem qv2 (hk:P.underlying kt=some (.int .i64)) (k:Int):(Instr.findKey kt (.int .i64 k) (E.map (Ent.val enc))).run P w=.ok ((idxE E k).map fun p=>(p.1,enc p.2)) w:=by
 have:=q2i (enc:=enc) k E 0;simp only [Nat.zero_add] at this;simp [Instr.findKey,run_underlying hk,this]
theorem MapE.lookup (h:MapE enc w r E clock) (ht:P.underlying t=some (.map kt et)) (hk:P.underlying kt=some (.int .i64)) {z:Value} (hz:∀w,(zeroValue et).run P w=.ok z w) (k:Int) :
  (Instr.lookup t (.map (some r)) (.int .i64 k) false).run P w=.ok (((idxE E k).map fun p=>enc p.2).getD z) w:=by
 have hf:=qv2 (P:=P) (kt:=kt) (w:=w) (enc:=enc) (E:=E) hk k;cases hi:idxE E k with
 | none =>
  rw [hi] at hf;simp [Instr.lookup,run_underlying ht,qgx h.heap,qhz hk,hf,hz]
 | some p =>
  rw [hi] at hf;simp [Instr.lookup,run_underlying ht,qgx h.heap,qhz hk,hf]
end
end
section
variable {V:Type} {enc:V->Value} {P:Program} {t kt et:TypeId} {w:World} {r:Nat} {L:List (Int×V)}
theorem q6a {E:List (Ent V)} (hp:(pairs E).Perm L):E.length=L.length:=by rw [<-hp.length_eq];simp [pairs]
theorem MapM.lookup (h:MapM enc w r L) (ht:P.underlying t=some (.map kt et)) (hk:P.underlying kt=some (.int .i64)) {z:Value} (hz:∀w,(zeroValue et).run P w=.ok z w) (k:Int) :
  (Instr.lookup t (.map (some r)) (.int .i64 k) false).run P w=.ok (((lookL L k).map enc).getD z) w:=by
 obtain ⟨E,c,hE,hp,hs⟩:=h;rw [hE.lookup ht hk hz k,<-zen hp hs k];simp only [Option.map_map];rfl
theorem MapM.srt (h:MapM enc w r L):Srt L:=by obtain ⟨_,_,_,_,hs⟩:=h;exact hs
theorem MapM.update (h:MapM enc w r L) (ht:P.underlying t=some (.map kt et)) (hk:P.underlying kt=some (.int .i64)) {k:Int} (hk1:-9223372036854775808<=k/\k<=9223372036854775807) (v:V) :
  ∃w',(Instr.mapUpdate t (.map (some r)) (.int .i64 k) (enc v)).run P w=.ok () w'/\MapM enc w' r (putL' L k v)/\Chg (fun k=>k=r) w w'/\w'.heap.size=w.heap.size:=by
 obtain ⟨E,c,hE,hp,hs⟩:=h;have hf:=qv2 (P:=P) (kt:=kt) (w:=w) (enc:=enc) (E:=E) hk k;have hkeys:∀{E':List (Ent V)},(∀a b,(a,b)∈pairs E'↔(a=k/\b=v)\/(a≠k/\(a,b)∈pairs E))->(E'.Pairwise fun x y=>x.k≠y.k)->(pairs E').Perm (putL' L k v):=fun {E'} hm hk' =>
  (List.perm_ext_iff_of_nodup (q9y hk') (quf hs k v).nodup).2 fun p=>by
   obtain ⟨a,b⟩:=p;rw [hm a b,qyn hs k v a b,hp.mem_iff]
 cases hi:idxE E k with
 | none =>
  rw [hi] at hf;have hno:=qvh hi;refine ⟨putM w r (.map ((E++[(⟨k,v,c⟩:Ent V)]).map (Ent.val enc)).toArray (c+1)),?_,⟨E++[(⟨k,v,c⟩:Ent V)],c+1,⟨qvg _ hE.lt_heap,?_,?_,?_,?_⟩,hkeys (fun a b=>?_) ?_,quf hs k v⟩,qtw _ _ _,qqw _ _ _⟩
  ·have hpush:(E.map (Ent.val enc)).toArray.push { key:=.int .i64 k,val:=enc v,born:=c }=((E++[(⟨k,v,c⟩:Ent V)]).map (Ent.val enc)).toArray:=by simp [Ent.val]
   rw [<-hpush];simp [Instr.mapUpdate,run_underlying ht,qgx hE.heap,qhz hk,hf,qow _ hE.heap]
  ·refine List.pairwise_append.2 ⟨hE.keys,List.pairwise_singleton _ _,fun x hx y hy=>?_⟩;rw [mem_singleton] at hy;subst hy;exact hno x hx
  ·refine List.pairwise_append.2 ⟨hE.stamps,List.pairwise_singleton _ _,fun x hx y hy=>?_⟩;rw [mem_singleton] at hy;subst hy;exact hE.lt x hx
  ·intro e he;rcases mem_append.1 he with he | he
   ·have:=hE.lt e he;omega
   ·rw [mem_singleton] at he;subst he;exact Nat.lt_succ_self _
  ·intro e he;rcases mem_append.1 he with he | he
   ·exact hE.wf e he
   ·rw [mem_singleton] at he;subst he;exact hk1
  ·have e1:pairs (E++[(⟨k,v,c⟩:Ent V)])=pairs E++[(k,v)]:=by simp [pairs]
   rw [e1,mem_append,mem_singleton,Prod.mk.injEq];constructor
   ·rintro (h | h)
    ·refine .inr ⟨fun e=>?_,h⟩;obtain ⟨x,hx,ex⟩:=mem_map.1 h;exact hno x hx (by rw [<-e];exact congrArg Prod.fst ex)
    ·exact .inl h
   ·rintro (h | ⟨_,h⟩)
    ·exact .inr h
    ·exact .inl h
  ·refine List.pairwise_append.2 ⟨hE.keys,List.pairwise_singleton _ _,fun x hx y hy=>?_⟩;rw [mem_singleton] at hy;subst hy;exact hno x hx
 | some p =>
  obtain ⟨i,v0⟩:=p;rw [hi] at hf;obtain ⟨e,he,hek,hev⟩:=q0z hi;have hil:i<E.length:=(List.getElem?_eq_some_iff.1 he).1;have hm:=q7s (v:=v) hE.keys hi;have hmod:∀{Q:Ent V->Prop},(∀x∈E,Q x->Q { x with v:=v })->(∀x∈E,Q x)->∀x∈setE E i v,Q x:=fun {Q} h1 h2 x hx=>by
   unfold setE at hx;obtain ⟨j,hj⟩:=List.getElem?_of_mem hx;rw [List.getElem?_modify] at hj;obtain ⟨y,hy,hxy⟩:=map_eq_some_iff.1 hj;have hym:=List.mem_of_getElem? hy;by_cases hij:i=j
   ·rw [if_pos hij] at hxy;rw [<-hxy];exact h1 y hym (h2 y hym)
   ·rw [if_neg hij] at hxy;rw [<-hxy];exact h2 y hym
  have hmap:∀{A:Type} (f:Ent V->A),(∀x,f { x with v:=v }=f x)->(setE E i v).map f=E.map f:=fun {A} f hf'=>by
   refine List.ext_getElem? fun j=>?_;unfold setE;rw [List.getElem?_map,List.getElem?_modify,List.getElem?_map];cases E[j]? with
   | none=>rfl
   | some x =>
    show some (f (if i=j then { x with v:=v } else x))=some (f x);by_cases hij:i=j
    ·rw [if_pos hij,hf' x]
    ·rw [if_neg hij]
  have hks:(setE E i v).Pairwise fun x y=>x.k≠y.k:=by
   have h1:=hE.keys;rw [<-List.pairwise_map (f:=fun e:Ent V=>e.k) (R:=fun a b=>a≠b)] at h1 ⊢
   rwa [hmap (fun e=>e.k) (fun _=>rfl)]
  have hst:(setE E i v).Pairwise fun x y=>x.b<y.b:=by
   have h1:=hE.stamps;rw [<-List.pairwise_map (f:=fun e:Ent V=>e.b) (R:=fun a b=>a<b)] at h1 ⊢
   rwa [hmap (fun e=>e.b) (fun _=>rfl)]
  have harr:(E.map (Ent.val enc)).toArray.modify i (fun x=>{ x with key:=.int .i64 k,val:=enc v })=((setE E i v).map (Ent.val enc)).toArray:=by
   apply Array.ext';refine List.ext_getElem? fun j=>?_;rw [Array.getElem?_toList,Array.getElem?_modify];unfold setE;rw [List.getElem?_toArray,List.getElem?_map,List.getElem?_map,List.getElem?_modify];by_cases hij:i=j
   ·subst hij;rw [if_pos rfl,he];show some _=some (Ent.val enc (if i=i then { e with v:=v } else e));rw [if_pos rfl];simp [Ent.val,hek]
   ·rw [if_neg hij];cases E[j]? with
    | none=>rfl
    | some x=>show some (Ent.val enc x)=some (Ent.val enc (if i=j then { x with v:=v } else x));rw [if_neg hij]
  refine ⟨putM w r (.map ((setE E i v).map (Ent.val enc)).toArray c),?_,⟨setE E i v,c,⟨qvg _ hE.lt_heap,hks,hst,hmod (Q:=fun e=>e.b<c) (fun _ _ h=>h) hE.lt,hmod (Q:=fun e=>-9223372036854775808<=e.k/\e.k<=9223372036854775807) (fun _ _ h=>h) hE.wf⟩,hkeys hm hks,quf hs k v⟩,qtw _ _ _,qqw _ _ _⟩;have hold:((((E.map (Ent.val enc)).toArray[i]?).map (·.key)).getD (.int .i64 k))=.int .i64 k:=by
   rw [List.getElem?_toArray,List.getElem?_map,he];show Value.int .i64 e.k=_;rw [hek]
  have hstay:(Instr.keyThatStays (.int .i64 k) (.int .i64 k)).run P w=.ok (.int .i64 k) w:=by
   unfold Instr.keyThatStays;have:Instr.sameBits 10000 (.int .i64 k) (.int .i64 k)=true:=by
    show Instr.sameBits (9999+1) (.int .i64 k) (.int .i64 k)=true;rw [Instr.sameBits];simp
   rw [if_pos this];rfl
  rw [<-harr];unfold Instr.mapUpdate;simp only [Sem.run_bind,run_underlying ht,Result.andThen_ok,qgx hE.heap,qhz hk,hf,hold,hstay,Option.map_some];exact qow _ hE.heap
theorem qzm {A B:Type} (f:A->B):∀(l:List A) (i:Nat),(l.map f).eraseIdx i=(l.eraseIdx i).map f
 | [],_=>rfl
 | _::_,0=>rfl
 | a::l,i+1=>by simp [List.eraseIdx,qzm f l i]
theorem MapM.delete (h:MapM enc w r L) (ht:P.underlying t=some (.map kt et)) (hk:P.underlying kt=some (.int .i64)) (k:Int) (ty:TypeId) :
  ∃w',(delete_ #[t,kt] ty #[.map (some r),.int .i64 k]).run P w=.ok (.tuple #[]) w'/\MapM enc w' r (delL L k)/\Chg (fun k=>k=r) w w'/\w'.heap.size=w.heap.size:=by
 obtain ⟨E,c,hE,hp,hs⟩:=h;have hf:=qv2 (P:=P) (kt:=kt) (w:=w) (enc:=enc) (E:=E) hk k;have hfil:MapM enc (putM w r (.map ((E.filter fun e=>e.k !=k).map (Ent.val enc)).toArray c)) r (delL L k):=by
  refine ⟨E.filter fun e=>e.k !=k,c,⟨qvg _ hE.lt_heap,hE.keys.filter _,hE.stamps.filter _,fun e he=>hE.lt e ((List.mem_filter.1 he).1),fun e he=>hE.wf e ((List.mem_filter.1 he).1)⟩,?_,q3k hs k⟩;have e1:pairs (E.filter fun e=>e.k !=k)=(pairs E).filter fun p=>p.1 !=k:=by
   unfold pairs;rw [List.filter_map];rfl
  rw [e1];exact hp.filter _
 cases hi:idxE E k with
 | none =>
  rw [hi] at hf;rw [zaw hi] at hfil;refine ⟨_,?_,hfil,qtw _ _ _,qqw _ _ _⟩;simp [delete_,run_underlying ht,qgx hE.heap,qhz hk,hf,qow _ hE.heap]
 | some p =>
  obtain ⟨i,v0⟩:=p;rw [hi] at hf;rw [<-q6e hE.keys hi] at hfil;refine ⟨_,?_,hfil,qtw _ _ _,qqw _ _ _⟩;have harr:(E.map (Ent.val enc)).toArray.eraseIdxIfInBounds i=((E.eraseIdx i).map (Ent.val enc)).toArray:=by
   simp [qzm]
  rw [<-harr];simp [delete_,run_underlying ht,qgx hE.heap,qhz hk,hf,qow _ hE.heap]
theorem MapM.clear (h:MapM enc w r L) (ht:P.underlying t=some (.map kt et)) (ty:TypeId) :
  ∃w',(Builtin.clear_ #[t] ty #[.map (some r)]).run P w=.ok (.tuple #[]) w'/\MapM enc w' r []/\Chg (fun k=>k=r) w w'/\w'.heap.size=w.heap.size:=by
 obtain ⟨E,c,hE,hp,hs⟩:=h;refine ⟨putM w r (.map #[] c),?_,⟨[],c,⟨qvg _ hE.lt_heap,.nil,.nil,(fun e he=>by cases he),(fun e he=>by cases he)⟩,.refl _,.nil⟩,qtw _ _ _,qqw _ _ _⟩;simp [Builtin.clear_,run_underlying ht,qgx hE.heap,qow _ hE.heap]
end
end Go.Vc
set_option maxRecDepth 100000
namespace Go.Proofs
open Go.RowKit Go.Maps Go.Sort Go.Shelf Go.Vc
open _root_.List (map_map)
def Tryz.keysA_ren:Go.Shelf.Ren:=⟨fun | 7=>33 | 10=>71 | n=>n,fun | 23=>79 | 26=>3 | 3=>81 | 28=>77 | 0=>0 | 27=>76 | 33=>139 | 4=>4 | n=>n,fun | n=>n⟩
theorem Tryz.keysA:Go.Proofs.SlLaysZI.n7 Tryz.prog Tryz.keysA_ren:={
 mixed:=by kernel_rfl
 f7:=⟨Tryz.f33.name,by decide,Tryz.func33.trans (congrArg some (by kernel_rfl))⟩
 f10:=⟨Tryz.f71.name,by decide,Tryz.func71.trans (congrArg some (by kernel_rfl))⟩
 t0:=Tryz.underlying0
 a0:=Tryz.isAgg0
 z0:=Tryz.sizeOf0
 v0:=Tryz.zeroValue0
 t4:=Tryz.underlying4
 a4:=Tryz.isAgg4
 z4:=Tryz.sizeOf4
 v4:=Tryz.zeroValue4
 t23:=Tryz.underlying79
 a23:=Tryz.isAgg79
 z23:=Tryz.sizeOf79
 v23:=Tryz.zeroValue79
 t26:=Tryz.underlying3
 a26:=Tryz.isAgg3
 z26:=Tryz.sizeOf3
 v26:=Tryz.zeroValue3
 t27:=Tryz.underlying76
 a27:=Tryz.isAgg76
 z27:=Tryz.sizeOf76
 v27:=Tryz.zeroValue76
 t28:=Tryz.underlying77
 a28:=Tryz.isAgg77
 z28:=Tryz.sizeOf77
 v28:=Tryz.zeroValue77
 t33:=Tryz.underlying139
 a33:=Tryz.isAgg139
 z33:=Tryz.sizeOf139
 v33:=Tryz.zeroValue139 }
def Tryz.sortedA_ren:Go.Shelf.Ren:=⟨fun | 6=>32 | 8=>69 | 9=>70 | 11=>132 | 13=>134 | 12=>133 | 23=>214 | 24=>215 | 14=>205 | 15=>206 | 16=>207 | 17=>208 | 18=>209 | 19=>210 | 20=>211 | 21=>212 | 22=>213 | 25=>298 | 26=>299 | 27=>300 | 28=>301 | 29=>302 | 30=>303 | 31=>360 | n=>n,fun | 26=>3 | 28=>77 | 24=>22 | 0=>0 | 3=>3 | 37=>132 | 48=>131 | 50=>299 | 4=>4 | 40=>291 | 39=>290 | 45=>295 | 5=>5 | 9=>9 | 51=>342 | 55=>346 | 57=>386 | 58=>159 | 33=>139 | n=>n,fun | n=>n⟩
theorem Tryz.sortedA:Go.Proofs.SlLaysZI.n6 Tryz.prog Tryz.sortedA_ren:={
 mixed:=by kernel_rfl
 f6:=⟨Tryz.f32.name,by decide,Tryz.func32.trans (congrArg some (by kernel_rfl))⟩
 f8:=⟨Tryz.f69.name,by decide,Tryz.func69.trans (congrArg some (by kernel_rfl))⟩
 f11:=⟨Tryz.f132.name,by decide,Tryz.func132.trans (congrArg some (by kernel_rfl))⟩
 t0:=Tryz.underlying0
 a0:=Tryz.isAgg0
 z0:=Tryz.sizeOf0
 v0:=Tryz.zeroValue0
 t24:=Tryz.underlying22
 a24:=Tryz.isAgg22
 z24:=Tryz.sizeOf22
 v24:=Tryz.zeroValue22
 t26:=Tryz.underlying3
 a26:=Tryz.isAgg3
 z26:=Tryz.sizeOf3
 v26:=Tryz.zeroValue3
 t28:=Tryz.underlying77
 a28:=Tryz.isAgg77
 z28:=Tryz.sizeOf77
 v28:=Tryz.zeroValue77
 i26:=by kernel_rfl }
def Tryz.sortA_ren:Go.Shelf.Ren:=⟨fun | 5=>70 | 8=>134 | 7=>133 | 19=>214 | 20=>215 | 10=>205 | 11=>206 | 12=>207 | 13=>208 | 14=>209 | 15=>210 | 16=>211 | 17=>212 | 18=>213 | 30=>298 | 31=>299 | 32=>300 | 33=>301 | 34=>302 | 35=>303 | 40=>360 | n=>n,fun | 23=>22 | 25=>3 | 3=>3 | 32=>132 | 22=>22 | 0=>0 | 44=>131 | 46=>299 | 4=>4 | 36=>291 | 35=>290 | 41=>295 | 5=>5 | 9=>9 | 53=>342 | 57=>346 | 63=>386 | 64=>159 | n=>n,fun | n=>n⟩
theorem Tryz.sortA:Go.Proofs.SlLaysM.n5 Tryz.prog Tryz.sortA_ren:={
 mixed:=by kernel_rfl
 f5:=⟨Tryz.f70.name,by decide,Tryz.func70.trans (congrArg some (by kernel_rfl))⟩
 f7:=⟨Tryz.f133.name,by decide,Tryz.func133.trans (congrArg some (by kernel_rfl))⟩
 f8:=Tryz.func134.trans (congrArg some (by kernel_rfl))
 f10:=⟨Tryz.f205.name,by decide,Tryz.func205.trans (congrArg some (by kernel_rfl))⟩
 f11:=⟨Tryz.f206.name,by decide,Tryz.func206.trans (congrArg some (by kernel_rfl))⟩
 f12:=⟨Tryz.f207.name,by decide,Tryz.func207.trans (congrArg some (by kernel_rfl))⟩
 f13:=⟨Tryz.f208.name,by decide,Tryz.func208.trans (congrArg some (by kernel_rfl))⟩
 f14:=⟨Tryz.f209.name,by decide,Tryz.func209.trans (congrArg some (by kernel_rfl))⟩
 f15:=⟨Tryz.f210.name,by decide,Tryz.func210.trans (congrArg some (by kernel_rfl))⟩
 f16:=⟨Tryz.f211.name,by decide,Tryz.func211.trans (congrArg some (by kernel_rfl))⟩
 f17:=⟨Tryz.f212.name,by decide,Tryz.func212.trans (congrArg some (by kernel_rfl))⟩
 f18:=⟨Tryz.f213.name,by decide,Tryz.func213.trans (congrArg some (by kernel_rfl))⟩
 f19:=Tryz.func214.trans (congrArg some (by kernel_rfl))
 f20:=Tryz.func215.trans (congrArg some (by kernel_rfl))
 f30:=⟨Tryz.f298.name,by decide,Tryz.func298.trans (congrArg some (by kernel_rfl))⟩
 f31:=Tryz.func299.trans (congrArg some (by kernel_rfl))
 f32:=Tryz.func300.trans (congrArg some (by kernel_rfl))
 f33:=⟨Tryz.f301.name,by decide,Tryz.func301.trans (congrArg some (by kernel_rfl))⟩
 f34:=⟨Tryz.f302.name,by decide,Tryz.func302.trans (congrArg some (by kernel_rfl))⟩
 f35:=⟨Tryz.f303.name,by decide,Tryz.func303.trans (congrArg some (by kernel_rfl))⟩
 f40:=⟨Tryz.f360.name,by decide,Tryz.func360.trans (congrArg some (by kernel_rfl))⟩
 t0:=Tryz.underlying0
 a0:=Tryz.isAgg0
 z0:=Tryz.sizeOf0
 v0:=Tryz.zeroValue0
 t3:=Tryz.underlying3
 a3:=Tryz.isAgg3
 z3:=Tryz.sizeOf3
 v3:=Tryz.zeroValue3
 t4:=Tryz.underlying4
 a4:=Tryz.isAgg4
 z4:=Tryz.sizeOf4
 v4:=Tryz.zeroValue4
 t5:=Tryz.underlying5
 a5:=Tryz.isAgg5
 z5:=Tryz.sizeOf5
 v5:=Tryz.zeroValue5
 t9:=Tryz.underlying9
 a9:=Tryz.isAgg9
 z9:=Tryz.sizeOf9
 v9:=Tryz.zeroValue9
 t22:=Tryz.underlying22
 a22:=Tryz.isAgg22
 z22:=Tryz.sizeOf22
 v22:=Tryz.zeroValue22
 t23:=Tryz.underlying22
 a23:=Tryz.isAgg22
 z23:=Tryz.sizeOf22
 v23:=Tryz.zeroValue22
 t25:=Tryz.underlying3
 a25:=Tryz.isAgg3
 z25:=Tryz.sizeOf3
 v25:=Tryz.zeroValue3
 t32:=Tryz.underlying132
 a32:=Tryz.isAgg132
 z32:=Tryz.sizeOf132
 v32:=Tryz.zeroValue132
 t35:=Tryz.underlying290
 a35:=Tryz.isAgg290
 z35:=Tryz.sizeOf290
 v35:=Tryz.zeroValue290
 t36:=Tryz.underlying291
 a36:=Tryz.isAgg291
 z36:=Tryz.sizeOf291
 v36:=Tryz.zeroValue291
 t41:=Tryz.underlying295
 a41:=Tryz.isAgg295
 z41:=Tryz.sizeOf295
 v41:=Tryz.zeroValue295
 t44:=Tryz.underlying131
 a44:=Tryz.isAgg131
 z44:=Tryz.sizeOf131
 v44:=Tryz.zeroValue131
 t46:=Tryz.underlying299
 a46:=Tryz.isAgg299
 z46:=Tryz.sizeOf299
 v46:=Tryz.zeroValue299
 t53:=Tryz.underlying342
 a53:=Tryz.isAgg342
 z53:=Tryz.sizeOf342
 v53:=Tryz.zeroValue342
 t57:=Tryz.underlying346
 a57:=Tryz.isAgg346
 z57:=Tryz.sizeOf346
 v57:=Tryz.zeroValue346
 t63:=Tryz.underlying386
 a63:=Tryz.isAgg386
 z63:=Tryz.sizeOf386
 v63:=Tryz.zeroValue386
 t64:=Tryz.underlying159
 a64:=Tryz.isAgg159
 z64:=Tryz.sizeOf159
 v64:=Tryz.zeroValue159 }
theorem Tryz.sortsA (m:Nat):AnyZI.SortsIn Tryz.prog Tryz.sortedA_ren Fence.wide m :=
 ⟨fun blk off cap ss W hH hblk hsz=>callsIn_wide.2 (AnyM.slices_Sort_int Tryz.sortA blk off cap ss W hH hblk hsz),
  fun p cap W=>callsIn_wide.2 (AnyM.slices_Sort_int_none Tryz.sortA p cap W)⟩
namespace YtcigiaecigedmaaGreatDoor
section
variable {V:Type} {enc:V->Value} {w:World} {r:Nat} {L:List (Int×V)}
def q4y:Value->Option (DataW Unit×List MemPlace):=fun _=>some (.nil,[])
theorem zfg {c:Nat} {E:List (Ent V)} (hE:MapE enc w r E c) {e:Ent V} (he:e∈E):WideElems.rd Tryz.prog 3 q4y (Ent.val enc e)=some (.int .i64 e.k,.nil):=by
 have h1:=keyOf_int_mk (P:=Tryz.prog) (k:=3) (q:=.i64) Tryz.underlying3 (a:=e.k) (by
  have:=hE.wf e he;simp [Lit.wf,IntKind.min,IntKind.max,IntKind.signed,IntKind.bits];omega)
 unfold WideElems.rd;show (keyOf Tryz.prog 3 (.int .i64 e.k)).bind _=_;rw [h1];rfl
theorem zbh {c:Nat} {E:List (Ent V)} (hE:MapE enc w r E c) (hl:E.length<=maxLen) :
  ∃D0:DataW Unit,w.ownsMap Tryz.prog 3 q4y r E.length D0/\Maps.size D0=E.length/\(intKeys D0).Perm (E.map (·.k)):=by
 have hmap:(E.map (Ent.val enc)).map (WideElems.rg Tryz.prog 3 q4y)=E.map fun e=>(Lit.int .i64 e.k,(.nil:DataW Unit)):=by
  rw [map_map];refine List.map_congr_left fun e he=>?_;show (WideElems.rd Tryz.prog 3 q4y (Ent.val enc e)).getD _=_;rw [zfg hE he];rfl
 refine ⟨_,⟨_,c,hE.heap,⟨by simpa using hl,⟨?_,?_,?_⟩,?_⟩,by simp,rfl⟩,?_,?_⟩
 ·intro x hx;obtain ⟨e,he,rfl⟩:=List.mem_map.1 hx;exact hE.lt e he
 ·rw [List.toList_toArray,map_map];exact List.pairwise_map.2 (hE.stamps.imp fun {a b} h (e:a.b=b.b)=>by rw [e] at h;exact Nat.lt_irrefl _ h)
 ·rw [List.toList_toArray,map_map];exact List.pairwise_map.2 (hE.keys.imp fun {a b} h (e:Value.int .i64 a.k=.int .i64 b.k)=>h (by injection e))
 ·intro x hx;obtain ⟨e,he,rfl⟩:=List.mem_map.1 hx;exact ⟨_,zfg hE he⟩
 ·show (List.foldr DataW.insert [] _).length=_;rw [List.toList_toArray,hmap,(Go.WideShapes.sorted_perm _).length_eq,List.length_map]
 ·show (List.map (fun p:Lit×DataW Unit=>Go.intOf p.fst) (List.foldr DataW.insert [] _)).Perm _;rw [List.toList_toArray,hmap];refine ((Go.WideShapes.sorted_perm _).map _).trans ?_;rw [map_map];exact .refl _
theorem ze1 (hM:MapM enc w r L) (hl:L.length<=maxLen) {B:Nat} (hB:w.cell? ⟨B,0,none⟩=some (.map (some r))) (n:Nat) (hn:1<=n) :
  SeqGives Fence.wide n Tryz.prog 71 #[.pointer (some ⟨B,0,none⟩)] encZ (fun ss=>ss.Perm (L.map (·.1))) L.length w:=by
 obtain ⟨E,c,hE,hp,hs⟩:=hM;have hlen:=q6a hp;obtain ⟨D0,hD,hsz,hpk⟩:=zbh hE (by omega);have hBl:B<w.heap.size:=by
  unfold World.cell? at hB;cases h:w.heap[B]? with
  | none=>rw [h] at hB;cases hB
  | some o=>exact (Array.getElem?_eq_some_iff.1 h).1
 have h:=AnyZI.keys_gives (ρ:=Tryz.keysA_ren) { Tryz.keysA with } Fence.wide n trivial rfl hn B r E.length D0 w hBl hB hD;rw [hsz,hlen] at h;have hpp:(E.map (·.k)).Perm (L.map (·.1)):=by
  have:=hp.map (·.1);unfold pairs at this
  rwa [map_map] at this
 intro l J W hW hJ hY h0;refine (h l J W hW hJ hY h0).mono ?_;rintro e W' ⟨hv,xs,hxs,hJx⟩;exact ⟨hv,xs,(hxs.trans hpk).trans hpp,hJx⟩
theorem zfb {m:Option Nat} {w:World} {K:Value->World->Prop}
  (hK:K (.func (.func 71) #[] #[.pointer (some ⟨w.heap.size,0,none⟩)]) (w.alloc (.cells #[.map m] 79))):qcy m w K:=by
 have h:=callsIn_wide.1 (AnyZI.keys_in Tryz.keysA Fence.wide 5 trivial rfl m w);refine Calls.mono (R:=fun e w'=>e=.returned (.func (.func 71) #[] #[.pointer (some ⟨w.heap.size,0,none⟩)])/\w'=w.alloc (.cells #[.map m] 79)) h ?_;rintro e w' ⟨rfl,rfl⟩;exact ⟨_,rfl,hK⟩
theorem q84 {ss:List Int} (hs:Srt L) (hp:ss.Perm (L.map (·.1))):ss.mergeSort (fun x y=>decide (x<=y))=L.map (·.1):=by
 have h1:(ss.mergeSort fun x y=>decide (x<=y)).Pairwise fun x y=>x<=y:=by
  have:=List.pairwise_mergeSort (le:=fun x y:Int=>decide (x<=y)) (fun a b c h1 h2=>by simp only [decide_eq_true_eq] at *;omega) (fun a b=>by simp only [Bool.or_eq_true,decide_eq_true_eq];omega) ss;exact this.imp fun h=>by simpa using h
 have h2:(L.map (·.1)).Pairwise fun x y=>x<=y:=List.pairwise_map.2 (hs.imp fun h=>Int.le_of_lt h);exact ((List.mergeSort_perm ss _).trans hp).eq_of_pairwise (fun a b _ _ h1 h2=>Int.le_antisymm h1 h2) h1 h2
theorem q8s:∀xs:List Int,flat E_int xs=xs.map encZ
 | []=>rfl
 | x::xs=>by
  have ih:=q8s xs;unfold flat at ih ⊢;rw [List.flatMap_cons,ih,List.map_cons];rfl
theorem q4u {w:World} {base:Nat} {v:Value} {xs:List Int} (h:w.ownsRow base 3 1 v xs.length (xs.map encZ)):∃q:Slc,v=.slice q.a q.n q.c/\Go.Vc.Own E_int w base q xs:=by
 have hf:=q8s xs;have hv:∃q:Slc,v=.slice q.a q.n q.c:=by
  rcases h.2 with ⟨rfl,_⟩ | ⟨g,cap,cur,rfl,_⟩
  ·exact ⟨⟨none,0,0⟩,rfl⟩
  ·exact ⟨⟨_,_,_⟩,rfl⟩
 obtain ⟨q,rfl⟩:=hv;refine ⟨q,rfl,?_⟩;unfold Go.Vc.Own;rw [hf];exact h
theorem q9p {B:Nat} {K:Slc->World->Prop} (hM:MapM enc w r L) (hl:L.length<=1000000) (hB:w.cell? ⟨B,0,none⟩=some (.map (some r)))
  (hK:∀q w',Go.Vc.Own E_int w' w.heap.size q (L.map (·.1))->Below w.heap.size w w'->K q w'):qf4 (.func (.func 71) #[] #[.pointer (some ⟨B,0,none⟩)]) w K:=by
 have h:=callsIn_wide.1 (AnyZI.sorted_in Tryz.sortedA Fence.wide 5 trivial trivial trivial trivial rfl (by omega) (Tryz.sortsA _) (enters_of Tryz.func70 (by kernel_rfl) rfl) 71 #[.pointer (some ⟨B,0,none⟩)] trivial (enters_of Tryz.func71 (by kernel_rfl) rfl) _ L.length (by unfold maxLen;omega) (by omega) w (ze1 hM (by unfold maxLen;omega) hB 2 (by omega)));refine Calls.mono h ?_;rintro e w' ⟨v,ss,rfl,hS,hrow,_,hb⟩;rw [q84 hM.srt hS] at hrow;rw [show ss.length=(L.map (·.1)).length from hS.length_eq] at hrow;obtain ⟨q,rfl,hq⟩:=q4u hrow;exact ⟨q,rfl,hK q w' hq hb⟩
end
end YtcigiaecigedmaaGreatDoor
end Go.Proofs
namespace Go.Vc
open Go.RowKit
open Go.ChangeMaps (setBlock)
section
variable {V:Type} (enc:V->Value)
variable {enc}
variable {P:Program} {t kt et:TypeId} {w:World} {r it:Nat} {L todo:List (Int×V)}
theorem q66 (hM:MapM enc w r L) (t:TypeId) :
  ∃w',(Extern.MapsClone.clone #[.iface t (.map (some r))]).run P w=.ok (.iface t (.map (some w.heap.size))) w'/\MapM enc w' w.heap.size L/\Below w.heap.size w w'/\w'.heap.size=w.heap.size+1:=by
 obtain ⟨E,c,hE,hp,hs⟩:=hM;have hB:Below w.heap.size w (w.alloc (.map (E.map (Ent.val enc)).toArray c)):=(Below.refl _ w).alloc (Nat.le_refl _) _;refine ⟨_,?_,⟨E,c,⟨?_,hE.keys,hE.stamps,hE.lt,hE.wf⟩,hp,hs⟩,hB,by show (w.heap.push _).size=_;simp⟩
 ·have e:Extern.MapsClone.clone #[.iface t (.map (some r))]=(getObj r >>= fun o=>match o with
   | .map entries clock=>(newObj (.map entries clock) >>= fun n=>pure (.iface t (.map (some n))))
   | _ => stuck "maps.clone: a map expected") := rfl
  rw [e];simp [qgx hE.heap,newObj,Sem.run]
 ·show (w.heap.push _)[w.heap.size]?=_;simp
theorem q0p {xT k e:TypeId} {v:Value} (h:P.underlying t=some (.map k e)):(Instr.typeAssert (.iface t v) xT t false).run P w=.ok v w:=by
 simp [Instr.typeAssert,run_underlying h]
end
end Go.Vc
namespace Go.Proofs.YtcigiaecigedmaaGreatDoor
open Go.Vc Go.RowKit
set_option maxRecDepth 100000
structure Hold (w:World) (base:Nat) (s:Slc) (xs:List UInt8):Prop where
 rd:Rd qal w s xs
 blk:∀k,s.blk=some k->base<=k/\∃cs,Blk w k qa7 cs
theorem zf4 {w:World} {base:Nat} {s:Slc} {xs:List UInt8} (h:Go.Vc.Own qal w base s xs):Hold w base s xs:=⟨h.rd,fun k hk=>⟨(h.lt k hk).1,h.blk_t hk⟩⟩
theorem Hold.base {w:World} {base base':Nat} {s:Slc} {xs:List UInt8} (h:Hold w base s xs) (hb:base'<=base):Hold w base' s xs:=⟨h.rd,fun k hk=>⟨Nat.le_trans hb (h.blk k hk).1,(h.blk k hk).2⟩⟩
theorem Hold.chg {Sx:Nat->Prop} {w w':World} {base:Nat} {s:Slc} {xs:List UInt8} (h:Hold w base s xs) (hc:Chg Sx w w') (hg:∀k,s.blk=some k->¬Sx k):Hold w' base s xs :=
 ⟨h.rd.chg hc fun a ha=>hg _ (slk.2 ⟨a,ha,rfl⟩),fun k hk=>by
  obtain ⟨h1,cs,h2⟩:=h.blk k hk;exact ⟨h1,cs,h2.chg hc (hg k hk)⟩⟩
theorem Hold.ext {w w':World} {base:Nat} {s:Slc} {xs:List UInt8} (h:Hold w base s xs) (hb:Below w.heap.size w w'):Hold w' base s xs :=
 ⟨h.rd.ext hb,fun k hk=>by
  obtain ⟨h1,cs,h2⟩:=h.blk k hk;exact ⟨h1,cs,h2.ext hb⟩⟩
theorem Hold.ne_b {w:World} {base g:Nat} {s:Slc} {xs:List UInt8} {t:TypeId} {vs:List Value} (h:Hold w base s xs) (h':Blk w g t vs) (hne:qa7≠t):∀k,s.blk=some k->k≠g:=fun k hk=>by
 obtain ⟨_,cs,h2⟩:=h.blk k hk;exact h2.ne_t h' hne
structure Im where
 v:qi0
 bs:List UInt8
def Im.enc (x:Im):Value:=.agg (qi0.rep.cells x.v).toArray
structure St where
 quota:Int
 res:Int
 used:Int
 clock:Int
 L:List (Int×Im)
def St.cells (S:St) (r:Nat):List Value:=[(.int .i64 S.quota),(.int .i64 S.res),(.int .i64 S.used),(.int .i64 S.clock),(.map (some r))]
structure StM (w:World) (base g r:Nat) (S:St):Prop where
 blk:Blk w g qkx (S.cells r)
 map:MapM Im.enc w r S.L
 img:∀p∈S.L,Hold w base p.2.v.m.P p.2.bs
theorem tmap:PG.underlying qco=some (.map qbz q5b):=by kernel_rfl
section
variable {w w':World} {base g r:Nat} {S:St}
theorem StM.keep {Sx:Nat->Prop} (h:StM w base g r S) (hc:Chg Sx w w') (hg:¬Sx g) (hr:¬Sx r) (hi:∀p∈S.L,∀k,p.2.v.m.P.blk=some k->¬Sx k):StM w' base g r S :=
 ⟨h.blk.chg hc hg,h.map.chg hc hr,fun p hp=>(h.img p hp).chg hc (hi p hp)⟩
theorem StM.ext (h:StM w base g r S) (hb:Below w.heap.size w w'):StM w' base g r S:=⟨h.blk.ext hb,h.map.ext hb,fun p hp=>(h.img p hp).ext hb⟩
theorem qwv {a:Addr} {K:Addr->Prop} (h:K a):onPtr (some a) K:=h
end
end Go.Proofs.YtcigiaecigedmaaGreatDoor
namespace Go.Vc
open Go.ChangeShapes Go.WideShapes Go.ChangeAt Go.RowKit Go.Deep
section
variable {H:Type} {enc:TypeId×Value->H} {P:Program} {w:World} {base:Nat} {spare:Nat->Bool} {held:Bool}
end
end Go.Vc
namespace Go.Proofs.YtcigiaecigedmaaGreatDoor
open Go.Vc Go.ChangeShapes Go.WideShapes Go.ChangeAt Go.RowKit
set_option maxRecDepth 100000
def q7m:List Leaf:=[.int .u8]
theorem za3:qxr Tryz.prog 4 5=some q7m:=by kernel_rfl
theorem zht (vs:List Value) (hl:vs.length=1) (h:qxb q7m vs):∃x:UInt8,qal.cells x=vs/\True:=by
 obtain ⟨z,h0,w0⟩:=zg6 h 0 rfl;have hw:=(Lit.wf_int_iff _ _).1 w0;rw [IntKind.min_u8,show IntKind.u8.max=255 from rfl] at hw;refine ⟨u8 z,zay hl fun j hj=>?_,trivial⟩
 match j,hj with
 | 0,_ =>
  show some (Value.int .u8 ((u8 z).toNat:Int))=_;rw [q3l hw.1 (by omega)];exact h0.symm
 | j+1,hj=>exact absurd hj (by simp [qal])
section
variable {H:Type} {enc:TypeId×Value->H} {w:World} {base:Nat} {held:Bool} {r:Reach} {b0:Nat} {v:Value} {d:DataW H} {p:List MemPlace}
end
section
variable {H:Type} {enc:TypeId×Value->H} {w:World} {base:Nat} {held:Bool} {r:Reach} {b0:Nat} {v:Value} {d:DataW H} {p:List MemPlace}
theorem zcq {t:TypeId} (ht:Tryz.prog.underlying t=some (.slice 5)) (hv:Value.okWide Tryz.prog w r b0 t v) (h:DataW.Trod enc Tryz.prog w base (fun _=>true) held t v d p):∃(s:Slc) (xs:List UInt8),v=.slice s.a s.n s.c/\Rd qal w s xs/\∀x∈xs,True:=by
 have a:=@zcf H enc Tryz.prog w base held UInt8 qal (fun _=>True) r b0 4 t 5 q7m v d p ht (by kernel_rfl) za3 zht;exact a hv h
end
end Go.Proofs.YtcigiaecigedmaaGreatDoor
namespace Go.Proofs.YtcigiaecigedmaaGreatDoor
open Go.Vc Go.RowKit
open IntKind (i64)
open _root_.List (length_cons)
open _root_.Nat (le_refl zero_le)
structure EvP where
 k:Int
 r:Int
 b:Int
 pv:Int
 i:List UInt8
 ps:List Int
 d:List UInt8
structure PS where
 st:Int
 ends:Bool
 priv:Int
 inter:List UInt8
 wrong:Bool
 first:Bool
 params:List Int
 some_:Bool
 last:Int
 data:List UInt8
def ps0:PS:=⟨0,false,0,[],false,true,[],false,0,[]⟩
def evK (k b:Int):EvP:=⟨k,0,b,0,[],[],[]⟩
def evPr (r:Int):EvP:=⟨1,r,0,0,[],[],[]⟩
def evDt (k:Int) (d:List UInt8):EvP:=⟨k,0,0,0,[],[],d⟩
def isCtl (c:Int):Bool:=decide (c<32) && (c !=24 && (c !=26 && c !=27))
def qw8 (c:Int):Bool:=c==24 || (c==26 || (c==27 || c==127))
namespace PS
def begin_ (p:PS) (s:Int):PS:={ p with st:=s,priv:=0,wrong:=false,first:=true,some_:=false,last:=0,inter:=[],params:=[] }
def close (p:PS) (b:Int):List EvP:=if p.st=5 then [evK 8 b] else if p.st=6 then [evK 11 b] else []
def ground (p:PS) (c:Int):PS×List EvP:=(p,if isCtl c then [evK 2 c] else if c=127 then [] else [evPr c])
def keep (p:PS) (c:Int):PS:=if p.inter.length=2 then { p with wrong:=true } else { p with inter:=p.inter++[UInt8.ofNat c.toNat] }
def opens (p:PS) (c:Int):Option (PS×List EvP) :=
 if c=91 then some (p.begin_ 2,[])
 else if c=80 then some (p.begin_ 3,[])
 else if c=93 then some ({ p with st:=4,data:=[] },[])
 else if c=95 then some ({ p with st:=6 },[evK 9 0])
 else if c=88\/c=94 then some ({ p with st:=7 },[])
 else none
def escEnd (p:PS) (c:Int):PS×List EvP:=({ p with st:=0 },if p.wrong then [] else [⟨3,0,c,0,p.inter,[],[]⟩])
def escape (p:PS) (c:Int):PS×List EvP :=
 if isCtl c then (p,[evK 2 c])
 else if c<=47 then (p.keep c,[])
 else if c=127 then (p,[])
 else if p.inter≠[] then p.escEnd c
 else (p.opens c).getD (p.escEnd c)
def next (p:PS):PS:={ p with params:=if p.params.length<16 then p.params++[p.last] else p.params,last:=0 }
def final (p:PS) (c:Int):PS×List EvP :=
 let p1:PS:={ p with st:=if p.st≠3 then 0 else if p.wrong then 7 else 5 }
 if p.wrong then (p1,[])
 else
  let p2:=if p.some_ then p1.next else p1
  (p2,[⟨if p.st=3 then 6 else 4,0,c,p.priv,p.inter,p2.params,[]⟩])
def head (p0:PS) (c:Int):PS×List EvP :=
 let p:PS:={ p0 with first:=p0.first && (isCtl c || c==127) }
 if isCtl c then (p,if p.st=2 then [evK 2 c] else [])
 else if c<=47 then (p.keep c,[])
 else if c=127 then (p,[])
 else if c<=57 then ({ p with wrong:=p.wrong || decide (p.inter≠[]),some_:=true,last:=if 65535<10*p.last+(c-48) then 65535 else 10*p.last+(c-48) },[])
 else if c=59 then (({ p with wrong:=p.wrong || decide (p.inter≠[]),some_:=true }:PS).next,[])
 else if 60<=c/\c<=63/\p0.first=true then ({ p with priv:=c },[])
 else if c<=63 then ({ p with wrong:=true },[])
 else p.final c
def text (p:PS) (c:Int):PS×List EvP :=
 if c=7 then ({ p with st:=0 },[evDt 5 p.data])
 else if 32<=c/\c≠127/\p.data.length<1024 then ({ p with data:=p.data++[UInt8.ofNat c.toNat] },[])
 else (p,[])
def plain (p:PS) (c:Int):PS×List EvP :=
 if p.st=1 then p.escape c else if p.st=2\/p.st=3 then p.head c else if p.st=4 then p.text c else if p.st=5\/p.st=6\/p.st=7 then (p,[]) else p.ground c
def ended (p0:PS) (c:Int):PS×List EvP :=
 let p:PS:={ p0 with ends:=false }
 if c=92 then ({ p with st:=0 },(if p.st=4 then [evDt 5 p.data] else [])++p.close 1)
 else
  let p1:=p.begin_ 1
  if c=27 then (p1,p.close 0)
  else if c=24\/c=26 then ({ p1 with st:=0 },p.close 0++[evK 2 c])
  else ((p1.escape c).1,p.close 0++(p1.escape c).2)
def step (p:PS) (c:Int):PS×List EvP :=
 if p.ends then p.ended c
 else if c≠24/\c≠26/\c≠27 then p.plain c
 else if c≠27 then ({ p with st:=0 },p.close 0++[evK 2 c])
 else if p.st>=4 then ({ p with ends:=true },[])
 else (p.begin_ 1,[])
def runN (p:PS) (bs:List UInt8):Nat:=if p.ends=true\/p.st≠5/\p.st≠6 then 0 else (bs.takeWhile fun b=>!qw8 b.toNat).length
def each:Nat->PS->List UInt8->PS×List EvP
 | 0,p,_=>(p,[])
 | _,p,[]=>(p,[])
 | f+1,p,b::bs =>
  if 0<p.runN (b::bs) then
   let r:=each f p ((b::bs).drop (p.runN (b::bs)))
   (r.1,evDt (if p.st=6 then 10 else 7) ((b::bs).take (p.runN (b::bs)))::r.2)
  else
   let s:=p.step b.toNat
   let r:=each f s.1 bs
   (r.1,s.2++r.2)
def eachB (p:PS) (bs:List UInt8):PS×List EvP:=each bs.length p bs
end PS
set_option maxRecDepth 400000
structure PF where
 pg:Nat
 cg:Nat
 qi:Slc
 qp:Slc
 qd:Slc
def parC (F:PF) (p:PS) (fv:Value):List Value:=[.int .i64 p.st,.bool p.ends,.pointer (some ⟨F.cg,0,none⟩),.int .u8 p.priv,.slice F.qi.a F.qi.n F.qi.c,.bool p.wrong,.bool p.first,.slice F.qp.a F.qp.n F.qp.c,.bool p.some_,.int .i64 p.last,.slice F.qd.a F.qd.n F.qd.c,fv]
def parS (F:PF) (k:Nat):Prop:=k=F.pg\/k=F.cg\/F.qi.blk=some k\/F.qp.blk=some k\/F.qd.blk=some k
structure PsOk (p:PS):Prop where
 il:p.inter.length<=2
 pl:p.params.length<=16
 dl:p.data.length<=1024
 la:0<=p.last/\p.last<=65535
 pv:0<=p.priv/\p.priv<=255
 pr:∀x∈p.params,0<=x/\x<=65535
structure ParsM (w:World) (base:Nat) (F:PF) (p:PS) (fv:Value):Prop where
 blk:Blk w F.pg qjl (parC F p fv)
 ch:∃r lo hi,Blk w F.cg qpz [.int .i32 r,.int .i64 0,.int .u8 lo,.int .u8 hi]
 hg:base<=F.pg/\base<=F.cg
 qi:Go.Vc.Own qal w base F.qi p.inter
 qp:Go.Vc.Own E_int w base F.qp p.params
 qd:Go.Vc.Own qal w base F.qd p.data
 ne:∀k,F.qi.blk=some k->F.qd.blk≠some k
 ok:PsOk p
def far (T:Nat->Prop) (w:World):Prop:=∀k cs,T k->¬Blk w k qao cs
structure Hnd (σ:Type) where
 M:World->(Nat->Prop)->σ->Prop
 R:σ->EvP->σ->Prop
 ok:σ->EvP->Prop
structure EvW (w:World) (S:Nat->Prop) (p d:Slc) (v:EvP):Prop where
 ps:Rd E_int w p v.ps
 pf:∀a,p.a=some a->¬S a.block/\a.block<w.heap.size
 ds:Rd qal w d v.d
 df:∀a,d.a=some a->¬S a.block/\a.block<w.heap.size
 rng:∀x∈v.ps,0<=x/\x<=65535
 pl:v.ps.length<=16
 b:0<=v.b/\v.b<=255
 pv:0<=v.pv/\v.pv<=255
 il:v.i.length<=2
 dl:v.d.length<=1000000
def agE (v:EvP) (p d:Slc):Value:=.agg #[.int .i64 v.k,.int .i32 v.r,.int .u8 v.b,.int .u8 v.pv,.string (strB v.i),.slice p.a p.n p.c,.slice d.a d.n d.c]
structure HndOk {σ:Type} (H:Hnd σ) (base:Nat) (fv:Value):Prop where
 keep:∀{w w' S s T},H.M w S s->Chg T w w'->(∀k,S k->¬T k)->far T w->(∀k,T k->base<=k)->H.M w' S s
 lt:∀{w S s},H.M w S s->∀k,S k->base<=k/\k<w.heap.size
 call:∀{w S s v p d} {K:World->Prop},H.M w S s->H.ok s v->EvW w S p d v->(∀w' S' s',H.M w' S' s'->H.R s v s'->Chg S w w'->(∀k,S' k->S k\/w.heap.size<=k)->K w')->callR C fv [agE v p d] [] w K
def Runs {σ:Type} (H:Hnd σ):σ->List EvP->σ->Prop
 | s,[],s'=>s'=s
 | s,e::es,s'=>∃m,H.R s e m/\Runs H m es s'
def qbq {σ:Type} (H:Hnd σ):σ->List EvP->Prop
 | _,[]=>True
 | s,e::es=>H.ok s e/\∀m,H.R s e m->qbq H m es
theorem Runs.append {σ:Type} {H:Hnd σ}:∀{a b:List EvP} {s m s':σ},Runs H s a m->Runs H m b s'->Runs H s (a++b) s'
 | [],b,s,m,s',h,h2=>by cases h;exact h2
 | e::a,b,s,m,s',⟨x,h1,h⟩,h2=>⟨x,h1,Runs.append h h2⟩
theorem qbq.left {σ:Type} {H:Hnd σ}:∀{a b:List EvP} {s:σ},qbq H s (a++b)->qbq H s a
 | [],b,s,h=>trivial
 | e::a,b,s,h=>⟨h.1,fun m hm=>qbq.left (h.2 m hm)⟩
theorem qbq.right {σ:Type} {H:Hnd σ}:∀{a b:List EvP} {s m:σ},qbq H s (a++b)->Runs H s a m->qbq H m b
 | [],b,s,m,h,hr=>by cases hr;exact h
 | e::a,b,s,m,h,⟨x,h1,hr⟩=>qbq.right (h.2 x h1) hr
section
variable {w w':World} {base:Nat} {F F':PF} {p p':PS} {fv:Value}
theorem ParsM.below (h:ParsM w base F p fv):∀k,parS F k->base<=k/\k<w.heap.size:=by
 obtain ⟨r,lo,hi,hc⟩:=h.ch;rintro k (rfl | rfl | hk | hk | hk)
 ·exact ⟨h.hg.1,h.blk.lt⟩
 ·exact ⟨h.hg.2,hc.lt⟩
 ·exact h.qi.lt k hk
 ·exact h.qp.lt k hk
 ·exact h.qd.lt k hk
theorem ParsM.chg {T:Nat->Prop} (h:ParsM w base F p fv) (hc:Chg T w w') (hT:∀k,parS F k->¬T k):ParsM w' base F p fv:=by
 obtain ⟨r,lo,hi,hch⟩:=h.ch;exact ⟨h.blk.chg hc (hT _ (.inl rfl)),⟨r,lo,hi,hch.chg hc (hT _ (.inr (.inl rfl)))⟩,h.hg,h.qi.chg hc fun k hk=>hT k (.inr (.inr (.inl hk))),h.qp.chg hc fun k hk=>hT k (.inr (.inr (.inr (.inl hk)))),h.qd.chg hc fun k hk=>hT k (.inr (.inr (.inr (.inr hk)))),h.ne,h.ok⟩
theorem ParsM.ext (h:ParsM w base F p fv) (hB:Below w.heap.size w w'):ParsM w' base F p fv:=h.chg (Chg.of_ext (S:=fun _=>False) hB) fun _ _ h=>h
theorem ParsM.far (h:ParsM w base F p fv):far (parS F) w:=by
 obtain ⟨r,lo,hi,hch⟩:=h.ch;rintro k cs (rfl | rfl | hk | hk | hk) hb
 ·exact h.blk.ne_t hb (by decide) rfl
 ·exact hch.ne_t hb (by decide) rfl
 ·obtain ⟨c,hc⟩:=h.qi.blk_t hk;exact hc.ne_t hb (by decide) rfl
 ·obtain ⟨c,hc⟩:=h.qp.blk_t hk;exact hc.ne_t hb (by decide) rfl
 ·obtain ⟨c,hc⟩:=h.qd.blk_t hk;exact hc.ne_t hb (by decide) rfl
theorem ParsM.ne_pg (h:ParsM w base F p fv):∀k,(k=F.cg\/F.qi.blk=some k\/F.qp.blk=some k\/F.qd.blk=some k)->k≠F.pg:=by
 obtain ⟨r,lo,hi,hch⟩:=h.ch;rintro k (rfl | hk | hk | hk)
 ·exact hch.ne_t h.blk (by decide)
 ·exact qbo h.qi h.blk (by decide) k hk
 ·exact qbo h.qp h.blk (by decide) k hk
 ·exact qbo h.qd h.blk (by decide) k hk
theorem ParsM.put (h:ParsM w base F p fv) (hb:Blk w' F.pg qjl (parC F' p' fv)) (hc:Chg (fun k=>k=F.pg) w w') (e1:F'.pg=F.pg) (e2:F'.cg=F.cg)
  (qi:Go.Vc.Own qal w base F'.qi p'.inter) (qp:Go.Vc.Own E_int w base F'.qp p'.params) (qd:Go.Vc.Own qal w base F'.qd p'.data) (ne:∀k,F'.qi.blk=some k->F'.qd.blk≠some k) (ok:PsOk p'):ParsM w' base F' p' fv:=by
 obtain ⟨r,lo,hi,hch⟩:=h.ch;refine ⟨by rw [e1];exact hb,⟨r,lo,hi,?_⟩,by rw [e1,e2];exact h.hg,qi.chg hc (qbo qi h.blk (by decide)),qp.chg hc (qbo qp h.blk (by decide)),qd.chg hc (qbo qd h.blk (by decide)),ne,ok⟩;rw [e2];exact hch.chg hc (h.ne_pg _ (.inl rfl))
end
section
variable {σ:Type} {H:Hnd σ} {w w':World} {base:Nat} {F F':PF} {p p':PS} {fv:Value} {S S':Nat->Prop} {s s':σ}
structure PH (H:Hnd σ) (w:World) (base:Nat) (F:PF) (p:PS) (fv:Value) (S:Nat->Prop) (s:σ):Prop where
 par:ParsM w base F p fv
 m:H.M w S s
 dj:∀k,parS F k->¬S k
structure PhT (H:Hnd σ) (base:Nat) (w:World) (F:PF) (S:Nat->Prop) (F':PF) (S':Nat->Prop) (p':PS) (fv:Value) (s':σ) (w':World):Prop where
 m:PH H w' base F' p' fv S' s'
 old:∀k,(parS F' k\/S' k)->(parS F k\/S k)\/w.heap.size<=k
 chg:Chg (fun k=>parS F k\/S k) w w'
 pg:F'.pg=F.pg
theorem PhT.refl (h:PH H w base F p fv S s):PhT H base w F S F S p fv s w:=⟨h,fun k hk=>.inl hk,Chg.refl _ _,rfl⟩
theorem PhT.trans {w1 w2:World} {F1 F2:PF} {S1 S2:Nat->Prop} {p1 p2:PS} {s1 s2:σ} (h:PhT H base w F S F1 S1 p1 fv s1 w1) (h2:PhT H base w1 F1 S1 F2 S2 p2 fv s2 w2):PhT H base w F S F2 S2 p2 fv s2 w2:=by
 have hs:=h.chg.size;refine ⟨h2.m,fun k hk=>?_,h.chg.trans h2.chg fun i hi hk=>?_,h2.pg.trans h.pg⟩
 ·rcases h2.old k hk with h3 | h3
  ·exact h.old k h3
  ·right;omega
 ·rcases h.old i hk with h3 | h3
  ·exact h3
  ·omega
theorem PH.ext (hH:HndOk H base fv) (h:PH H w base F p fv S s) (hB:Below w.heap.size w w'):PhT H base w F S F S p fv s w' :=
 ⟨⟨h.par.ext hB,hH.keep h.m (Chg.of_ext (S:=fun _=>False) hB) (fun _ _ h=>h) (fun _ _ h=>h.elim) (fun _ h=>h.elim),h.dj⟩,fun k hk=>.inl hk,Chg.of_ext hB,rfl⟩
theorem PH.drew (hH:HndOk H base fv) (h:PH H w base F p fv S s):PhT H base w F S F S p fv s w.drew:=h.ext hH ((Below.refl _ w).drew)
theorem PH.base_le (h:PH H w base F p fv S s):base<=w.heap.size:=Nat.le_trans h.par.hg.1 (Nat.le_of_lt h.par.blk.lt)
theorem PH.own (hH:HndOk H base fv) (h:PH H w base F p fv S s) (hp:ParsM w' base F' p' fv) (hc:Chg (parS F) w w') (ho:∀k,parS F' k->parS F k\/w.heap.size<=k) (e:F'.pg=F.pg):PhT H base w F S F' S p' fv s w':=by
 refine ⟨⟨hp,hH.keep h.m hc (fun k hk hp=>h.dj k hp hk) h.par.far (fun k hk=>(h.par.below k hk).1),fun k hk hs=>?_⟩,fun k hk=>?_,hc.mono fun k _ hk=>.inl hk,e⟩
 ·rcases ho k hk with h1 | h1
  ·exact h.dj k h1 hs
  ·have:=(hH.lt h.m k hs).2;omega
 ·rcases hk with hk | hk
  ·rcases ho k hk with h1 | h1
   ·exact .inl (.inl h1)
   ·exact .inr h1
  ·exact .inl (.inr hk)
theorem PH.put (hH:HndOk H base fv) (h:PH H w base F p fv S s) (hb:Blk w' F.pg qjl (parC F' p' fv)) (hc:Chg (fun k=>k=F.pg) w w') (e1:F'.pg=F.pg) (e2:F'.cg=F.cg)
  (qi:Go.Vc.Own qal w base F'.qi p'.inter) (qp:Go.Vc.Own E_int w base F'.qp p'.params) (qd:Go.Vc.Own qal w base F'.qd p'.data) (bi:∀k,F'.qi.blk=some k->F.qi.blk=some k) (bp:∀k,F'.qp.blk=some k->F.qp.blk=some k) (bd:∀k,F'.qd.blk=some k->F.qd.blk=some k) (ok:PsOk p'):PhT H base w F S F' S p' fv s w':=by
 refine h.own hH (h.par.put hb hc e1 e2 qi qp qd (fun k hk hk'=>h.par.ne k (bi k hk) (bd k hk')) ok) (hc.mono fun k _ e=>.inl e) ?_ e1;rintro k (hk | hk | hk | hk | hk)
 ·exact .inl (.inl (hk.trans e1))
 ·exact .inl (.inr (.inl (hk.trans e2)))
 ·exact .inl (.inr (.inr (.inl (bi k hk))))
 ·exact .inl (.inr (.inr (.inr (.inl (bp k hk)))))
 ·exact .inl (.inr (.inr (.inr (.inr (bd k hk)))))
theorem PH.st (hH:HndOk H base fv) (h:PH H w base F p fv S s) {i:Nat} {v:Value} (p':PS) (hi:i<12) (he:(parC F p fv).set i v=parC F p' fv) (ei:p'.inter=p.inter) (ep:p'.params=p.params) (ed:p'.data=p.data) (ok:PsOk p') {K:World->Prop}
  (hK:∀w',PhT H base w F S F S p' fv s w'->K w'):stK ((⟨F.pg,0,none⟩:Addr).add i) [v] w K:=by
 rw [qae];refine qah h.par.blk (by show 0+i+1<=12;omega) fun w1 hb hg hs=>hK w1 ?_;have e:putL (parC F p fv) (0+i) [v]=parC F p' fv:=by rw [Nat.zero_add,<-he];rfl
 rw [e] at hb;exact h.put hH hb (Chg.gg hg) rfl rfl (by rw [ei];exact h.par.qi) (by rw [ep];exact h.par.qp) (by rw [ed];exact h.par.qd) (fun _ h=>h) (fun _ h=>h) (fun _ h=>h) ok
theorem qs3 {a:Addr} {w:World} {K:Value->Prop} {x:Value} (h:w.cell? a=some x) (hK:K x):ldR a w K:=⟨x,h,hK⟩
theorem qs6 (hH:HndOk H base fv) (h:PH H w base F p fv S s) {v:EvP} {q d:Slc} (hok:H.ok s v) (hv:EvW w S q d v) {K:World->Prop} (hK:∀S' s' w',PhT H base w F S F S' p fv s' w'->H.R s v s'->K w'):callR C fv [agE v q d] [] w K :=
 hH.call h.m hok hv fun w' S' s' hm hr hc ho=>hK S' s' w' ⟨⟨h.par.chg hc (fun k hk=>h.dj k hk),hm,fun k hk hs=>(ho k hs).elim (h.dj k hk) fun hle=>by have:=(h.par.below k hk).2;omega⟩,
  fun k hk=>hk.elim (fun hk=>.inl (.inl hk)) fun hk=>(ho k hk).elim (fun h1=>.inl (.inr h1)) .inr,hc.mono fun k _ hk=>.inr hk,rfl⟩ hr
theorem evW0 {w:World} {S:Nat->Prop} {v:EvP} (e1:v.ps=[]) (e2:v.d=[]) (hb:0<=v.b/\v.b<=255) (hp:0<=v.pv/\v.pv<=255) (hi:v.i.length<=2):EvW w S ⟨none,0,0⟩ ⟨none,0,0⟩ v :=
 ⟨by rw [e1];exact Rd.nil _ _,(fun a h=>by cases h),by rw [e2];exact Rd.nil _ _,(fun a h=>by cases h),(by rw [e1];intro x hx;cases hx),by rw [e1];exact zero_le _,hb,hp,hi,by rw [e2];exact zero_le _⟩
theorem tell0 (hH:HndOk H base fv) (h:PH H w base F p fv S s) (k r b:Int) (hb:0<=b/\b<=255) (hok:H.ok s ⟨k,r,b,0,[],[],[]⟩) {K:World->Prop} (hK:∀S' s' w',PhT H base w F S F S' p fv s' w'->H.R s ⟨k,r,b,0,[],[],[]⟩ s'->K w') :
  ldR ((⟨F.pg,0,none⟩:Addr).add 11) w fun t=>callR C t [(.agg #[(.int .i64 k),(.int .i32 r),(.int .u8 b),(.int .u8 0),(.string (⟨#[]⟩:ByteArray)),(.slice none 0 0),(.slice none 0 0)])] [] w K :=
 qs3 (x:=fv) (h.par.blk.cells 11 _ rfl) (qs6 hH h (v:=⟨k,r,b,0,[],[],[]⟩) (q:=⟨none,0,0⟩) (d:=⟨none,0,0⟩) hok (evW0 rfl rfl hb ⟨Int.le_refl 0,by show (0:Int)<=255;omega⟩ (zero_le _)) hK)
end
theorem q3f {T:Type} {E:El T} {w:World} {base:Nat} {q:Slc} {xs:List T} (h:Go.Vc.Own E w base q xs):∃r:Slc,(⟨cut q.a 0 q.c E.k,0-0,q.c-0⟩:Slc)=r/\Go.Vc.Own E w base r []/\∀k,r.blk=some k->q.blk=some k:=by
 rcases h.form with ⟨rfl,rfl⟩ | ⟨g,cur,hs,hg,hb,h1,h2,h3,h4⟩
 ·exact ⟨⟨none,0,0⟩,rfl,Go.Vc.Own.nil _ _ _,fun k hk=>hk⟩
 ·refine ⟨⟨some ⟨g,0,none⟩,0,q.c⟩,?_,Go.Vc.Own.of_blk (xs:=[]) hg hb (zero_le _) h2 h3 (by simp [flat]),fun k hk=>by rw [hs];exact hk⟩;rw [hs];unfold cut;dsimp only;split
  ·rfl
  ·show (⟨some ((⟨g,0,none⟩:Addr).add (0*E.k)),0,_⟩:Slc)=_;rw [qae];simp
theorem q3b {s:Slc} {xs:List Int} {w:World} {K:Slc->World->Prop} (h:Rd E_int w s xs) (hl:xs.length<=100000) (hK:∀r w',Go.Vc.Own E_int w' w.heap.size r xs->Below w.heap.size w w'->K r w'):qd6 s w K:=by
 refine qsm _ ?_;unfold qk5;cases ha:s.a with
 | none =>
  have:=h.none_nil ha;subst this;exact cT rfl (hK _ _ (Go.Vc.Own.nil _ _ _) (Below.refl _ _))
 | some a =>
  refine cF rfl ?_;refine nwb fun w1 hb1 hB1 hs1=>?_;refine qde qz9 (qvm (E:=E_int) hb1 (le_refl _)) (h.ext hB1) (by omega) (by rw [q6n];simp;omega) (by simp only [maxLen];simp;omega) fun r w2 ho hg hq=>?_;rw [List.nil_append] at ho;exact hK r w2 ho (hB1.grown hg (by omega) fun g hg=>by cases hg;exact le_refl _)
section
variable {σ:Type} {H:Hnd σ} {w w':World} {base:Nat} {F F':PF} {p p':PS} {fv:Value} {S S':Nat->Prop} {s s':σ} {c:Int}
theorem qko {K:Bool->World->Prop} (hK:K (isCtl c) w):qdw c w K:=by
 refine qy2 _ ?_;unfold qq0;unfold isCtl at hK;refine cO (fun e=>?_) fun e=>?_
 ·rw [e,Bool.true_and] at hK;refine cO (fun e2=>?_) fun e2=>?_
  ·rw [e2,Bool.true_and] at hK;refine cO (fun e3=>?_) fun e3=>?_
   ·rw [e3,Bool.true_and] at hK;exact hK
   ·rw [e3,Bool.false_and] at hK;exact hK
  ·rw [e2,Bool.false_and] at hK;exact hK
 ·rw [e,Bool.false_and] at hK;exact hK
theorem PH.chars (hH:HndOk H base fv) (h:PH H w base F p fv S s) {r lo hi:Int} (hb:Blk w' F.cg qpz [.int .i32 r,.int .i64 0,.int .u8 lo,.int .u8 hi]) (hc:Chg (fun k=>k=F.cg) w w'):PhT H base w F S F S p fv s w':=by
 have hp:=h.par;obtain ⟨r0,l0,h0,hch⟩:=hp.ch;refine h.own hH ⟨hp.blk.chg hc (fun e=>hp.ne_pg F.cg (.inl rfl) e.symm),⟨r,lo,hi,hb⟩,hp.hg,hp.qi.chg hc (qbo hp.qi hch (by decide)),hp.qp.chg hc (qbo hp.qp hch (by decide)),hp.qd.chg hc (qbo hp.qd hch (by decide)),hp.ne,hp.ok⟩ (hc.mono fun k _ e=>.inr (.inl e)) (fun k hk=>.inl hk) rfl
theorem PH.ldCh (h:PH H w base F p fv S s) {K:Option Addr->Prop} (hK:K (some ⟨F.cg,0,none⟩)):ldP ((⟨F.pg,0,none⟩:Addr).add 2) w K:=qar (x:=some ⟨F.cg,0,none⟩) (h.par.blk.cells 2 _ rfl) hK
theorem qxx (hH:HndOk H base fv) (h:PH H w base F p fv S s) {K:Slc->World->Prop} (hK:∀w',PhT H base w F S F S p fv s w'->K ⟨none,0,0⟩ w'):qe1 (some ⟨F.cg,0,none⟩) w K:=by
 refine qyj _ ?_;unfold qqv;obtain ⟨r0,l0,h0,hch⟩:=h.par.ch;refine qwd _ ?_;unfold qoa;simp only [onPtr_some];refine lI (x:=0) (hch.cells 1 _ rfl) ?_;refine qah hch (by show 0+4<=4;omega) fun w1 hb hg hs=>cF rfl (hK w1 ?_);exact h.chars hH (r:=0) (lo:=0) (hi:=0) hb (Chg.gg hg)
theorem zc7 (hH:HndOk H base fv) (h:PH H w base F p fv S s) (hc:0<=c/\c<128) {K:Slc->World->Prop} (hK:∀q w',Rd q5z w' q [c]->(∀a,q.a=some a->¬S a.block/\¬parS F a.block/\a.block<w'.heap.size)->PhT H base w F S F S p fv s w'->K q w'):qlg (some ⟨F.cg,0,none⟩) c w K:=by
 refine qym _ _ ?_;unfold qqh;obtain ⟨r0,l0,h0,hch⟩:=h.par.ch;simp only [onPtr_some];refine lI (x:=0) (hch.cells 1 _ rfl) (cT rfl ?_);refine qwq _ _ ?_;unfold qnz;simp only [onPtr_some];refine qah hch (by show 0+4<=4;omega) fun w1 hb hg hs=>?_;have h1:=h.chars hH (r:=0) (lo:=128) (hi:=191) hb (Chg.gg hg);refine jpO fun J1 hJ1=>cT (dTq hc.2) ?_;refine nwb fun w2 hb2 hB2 hs2=>?_;have e:IntKind.i32.wrap c=c:=by
  obtain ⟨m,hm⟩:∃m:Nat,c=m:=⟨c.toNat,by omega⟩;rw [hm];exact qml .i32 (by show _<2^31;omega)
 rw [e] at hb2;refine hK _ w2 (qkj (E:=q5z) hb2 rfl) (fun a ha=>?_) (h1.trans (h1.m.ext hH hB2));cases ha;exact ⟨fun hs=>by have:=(hH.lt h1.m.m _ hs).2;exact Nat.lt_irrefl _ this,fun hs=>by have:=(h1.m.par.below _ hs).2;exact Nat.lt_irrefl _ this,hb2.lt⟩
theorem qyq {K:World->Prop} (hK:K w):qcj (some ⟨F.pg,0,none⟩) ⟨none,0,0⟩ w K:=by
 refine qla _ _ ?_;unfold qhq;refine lpR (fun (st:Int×Unit) w2=>st.1=0/\w2=w) (fun _=>0) ⟨rfl,rfl⟩ ?_;rintro ⟨i,u⟩ w2 ⟨rfl,rfl⟩ I hI;exact cF rfl hK
theorem zd1 (hH:HndOk H base fv) (h:PH H w base F p fv S s) {q:Slc} (hq:Rd q5z w q [c]) (hok:H.ok s (evPr c)) {K:World->Prop} (hK:∀S' s' w',PhT H base w F S F S' p fv s' w'->H.R s (evPr c) s'->K w'):qcj (some ⟨F.pg,0,none⟩) q w K:=by
 refine qla _ _ ?_;unfold qhq;simp only [onPtr_some];have hn:q.n=1:=hq.n;refine lpR (fun (st:Int×Unit) w2=>(st.1=0/\w2=w)\/(st.1=1/\∃S' s',PhT H base w F S F S' p fv s' w2/\H.R s (evPr c) s')) (fun st=>1-st.1.toNat) (.inl ⟨rfl,rfl⟩) ?_;rintro ⟨i,u⟩ w2 (⟨rfl,rfl⟩ | ⟨rfl,S2,s2,h2,hr2⟩) I hI
 ·refine cT (by rw [hn];rfl) ?_;refine hq.ix (i:=0) rfl (by decide) (by simp) fun hc=>lI (x:=c) (by simpa using hc 0 _ rfl) ?_;refine tell0 hH h 1 c 0 (by omega) hok fun S' s' w' hT hr=>hI _ _ (.inr ⟨by show i64.wrap (0+1)=1;decide,S',s',hT,hr⟩) (by show 1-(i64.wrap (0+1)).toNat<1-(0:Int).toNat;decide)
 ·exact cF (by rw [hn];rfl) (hK S2 s2 w2 h2 hr2)
theorem zg9 (h:PsOk p) (x:Int):PsOk (p.begin_ x):=⟨zero_le _,zero_le _,h.dl,⟨Int.le_refl 0,by show (0:Int)<=65535;omega⟩,⟨Int.le_refl 0,by show (0:Int)<=255;omega⟩,fun y hy=>by cases hy⟩
theorem qox (hH:HndOk H base fv) (h:PH H w base F p fv S s) (x:Int) {K:World->Prop} (hK:∀F' w',PhT H base w F S F' S (p.begin_ x) fv s w'->K w'):qc1 (some ⟨F.pg,0,none⟩) x w K:=by
 refine qun _ _ ?_;unfold qmy;simp only [onPtr_some];have ok:=h.par.ok;have z5:(0:Int)<=0/\(0:Int)<=65535:=by omega
 have z2:(0:Int)<=0/\(0:Int)<=255:=by omega
 refine h.st hH (i:=0) { p with st:=x } (by decide) rfl rfl rfl rfl ⟨ok.il,ok.pl,ok.dl,ok.la,ok.pv,ok.pr⟩ fun w1 h1=>?_;refine h1.m.st hH (i:=3) { p with st:=x,priv:=0 } (by decide) rfl rfl rfl rfl ⟨ok.il,ok.pl,ok.dl,ok.la,z2,ok.pr⟩ fun w2 h2=>?_;refine h2.m.st hH (i:=5) { p with st:=x,priv:=0,wrong:=false } (by decide) rfl rfl rfl rfl ⟨ok.il,ok.pl,ok.dl,ok.la,z2,ok.pr⟩ fun w3 h3=>?_;refine h3.m.st hH (i:=6) { p with st:=x,priv:=0,wrong:=false,first:=true } (by decide) rfl rfl rfl rfl ⟨ok.il,ok.pl,ok.dl,ok.la,z2,ok.pr⟩ fun w4 h4=>?_;refine h4.m.st hH (i:=8) { p with st:=x,priv:=0,wrong:=false,first:=true,some_:=false } (by decide) rfl rfl rfl rfl ⟨ok.il,ok.pl,ok.dl,ok.la,z2,ok.pr⟩ fun w5 h5=>?_;refine h5.m.st hH (i:=9) { p with st:=x,priv:=0,wrong:=false,first:=true,some_:=false,last:=0 } (by decide) rfl rfl rfl rfl ⟨ok.il,ok.pl,ok.dl,z5,z2,ok.pr⟩ fun w6 h6=>?_;have h06:=((((h1.trans h2).trans h3).trans h4).trans h5).trans h6;have h07:=h06.trans (h06.m.drew hH);generalize w6.drew=w7 at h07 ⊢;have hp:=h07.m.par;refine lSl (x:=F.qi) (hp.blk.cells 4 _ rfl) ?_;refine hp.qi.rd.slK (l:=0) (m:=0) rfl (.inl ⟨rfl,rfl⟩) (.inr rfl) (le_refl _) (zero_le _) fun _=>?_;refine lSl (x:=F.qp) (hp.blk.cells 7 _ rfl) ?_;refine hp.qp.rd.slK (l:=0) (m:=0) rfl (.inl ⟨rfl,rfl⟩) (.inr rfl) (le_refl _) (zero_le _) fun _=>?_;obtain ⟨q1,e1,o1,b1⟩:=q3f hp.qi;obtain ⟨q2,e2,o2,b2⟩:=q3f hp.qp;rw [e1,e2];rw [qae];refine qah hp.blk (by show 0+4+1<=12;omega) fun w8 hb8 hg8 hs8=>?_;rw [qae];refine qah hb8 (by show 0+7+1<=(putL _ _ _).length;rw [qfg];show 8<=12;omega) fun w9 hb9 hg9 hs9=>?_;refine hK { F with qi:=q1,qp:=q2 } w9 (h07.trans (h07.m.put hH hb9 ((Chg.gg hg8).trans (Chg.gg hg9) fun i _ hi=>hi) rfl rfl o1 o2 hp.qd b1 b2 (fun _ h=>h) (zg9 ok x)))
theorem qtd (hH:HndOk H base fv) (h:PH H w base F p fv S s) {b:Int} (hb:0<=b/\b<=255) (hok:qbq H s (p.close b)) {K:World->Prop} (hK:∀S' s' w',PhT H base w F S F S' p fv s' w'->Runs H s (p.close b) s'->K w'):qdq (some ⟨F.pg,0,none⟩) b w K:=by
 refine quu _ _ ?_;unfold qnk;simp only [onPtr_some];unfold PS.close at hok hK;refine lI (x:=p.st) (h.par.blk.cells 0 _ rfl) ?_;refine cO (fun e=>?_) fun e=>?_
 ·have e:p.st=5:=eq_of_beq e;rw [if_pos e] at hok hK;exact tell0 hH h 8 0 b hb hok.1 fun S' s' w' hT hr=>hK S' s' w' hT ⟨s',hr,rfl⟩
 have e:¬p.st=5:=beq_eq_false_iff_ne.1 e;rw [if_neg e] at hok hK;refine cO (fun e=>?_) fun e=>?_
 ·have e:p.st=6:=eq_of_beq e;rw [if_pos e] at hok hK;exact tell0 hH h 11 0 b hb hok.1 fun S' s' w' hT hr=>hK S' s' w' hT ⟨s',hr,rfl⟩
 have e:¬p.st=6:=beq_eq_false_iff_ne.1 e;rw [if_neg e] at hok hK;exact hK S s w (PhT.refl h) rfl
theorem q9h (hH:HndOk H base fv) (h:PH H w base F p fv S s) (hc:0<=c/\c<128) (hok:qbq H s (p.ground c).2) {K:World->Prop} (hK:∀S' s' w',PhT H base w F S F S' p fv s' w'->Runs H s (p.ground c).2 s'->K w'):qgg (some ⟨F.pg,0,none⟩) c w K:=by
 refine qrq _ _ ?_;unfold qj8;simp only [onPtr_some];unfold PS.ground at hok hK;dsimp only at hok hK;refine qko (cO (fun e=>?_) fun e=>?_)
 ·rw [if_pos e] at hok hK;refine h.ldCh (qxx hH h fun w2 h2=>qyq ?_);exact tell0 hH h2.m 2 0 c (by omega) hok.1 fun S' s' w' hT hr=>hK S' s' w' (h2.trans hT) ⟨s',hr,rfl⟩
 rw [if_neg (by rw [e];decide)] at hok hK;refine cO (fun e2=>?_) fun e2=>?_
 ·have e2:c=127:=eq_of_beq e2;rw [if_pos e2] at hok hK;exact h.ldCh (qxx hH h fun w2 h2=>qyq (hK S s w2 h2 rfl))
 ·have e2:¬c=127:=beq_eq_false_iff_ne.1 e2;rw [if_neg e2] at hok hK;refine h.ldCh (zc7 hH h hc fun q w2 hq hqn h2=>?_);exact zd1 hH h2.m hq hok.1 fun S' s' w' hT hr=>hK S' s' w' (h2.trans hT) ⟨s',hr,rfl⟩
theorem u8c_p {c:Int} (hc:0<=c/\c<256):c=((UInt8.ofNat c.toNat).toNat:Int):=by
 have:(UInt8.ofNat c.toNat).toNat=c.toNat:=by
  rw [UInt8.toNat_ofNat'];omega
 rw [this];omega
theorem q2m (hH:HndOk H base fv) (h:PH H w base F p fv S s) (hc:0<=c/\c<128) {K:World->Prop} (hK:∀F' w',PhT H base w F S F' S (p.keep c) fv s w'->K w'):qf3 (some ⟨F.pg,0,none⟩) c w K:=by
 refine qwt _ _ ?_;unfold qof;simp only [onPtr_some];have ok:=h.par.ok;have hp:=h.par;unfold PS.keep at hK;refine lSl (x:=F.qi) (hp.blk.cells 4 _ rfl) ?_;have hn:F.qi.n=p.inter.length:=hp.qi.rd.n;rw [hn];refine cO (fun e=>?_) fun e=>?_
 ·have e:p.inter.length=2:=by have:=eq_of_beq e;omega
  rw [if_pos e] at hK;exact h.st hH (i:=5) { p with wrong:=true } (by decide) rfl rfl rfl rfl ⟨ok.il,ok.pl,ok.dl,ok.la,ok.pv,ok.pr⟩ fun w1 h1=>hK F w1 h1
 ·have e:¬p.inter.length=2:=fun h2=>by rw [h2] at e;exact absurd e (by decide)
  rw [if_neg e] at hK;refine lSl (x:=F.qi) (hp.blk.cells 4 _ rfl) ?_;refine apB1 (c:=UInt8.ofNat c.toNat) (u8c_p (by omega)) hp.qi h.base_le (by have:=ok.il;omega) fun q w2 ho hc2 hq=>?_;have hni:=hp.ne_pg;have hb2:=hp.blk.chg hc2 fun e=>hni _ (.inr (.inl e)) rfl;rw [qae];refine qah hb2 (by show 0+4+1<=12;omega) fun w3 hb3 hg3 hs3=>?_;have z2:=hc2.size;have c3:Chg (fun k=>F.qi.blk=some k\/k=F.pg) w w3:=(hc2.mono fun k _ e=>.inl e).trans (Chg.gg hg3) fun k _ e=>.inr e;obtain ⟨r0,l0,h0,hch⟩:=hp.ch;have nq:∀k,F.qi.blk=some k->k≠F.cg:=qbo hp.qi hch (by decide);have hq':∀k,q.blk=some k->F.qi.blk=some k\/w.heap.size<=k:=fun k hk=>by
   rcases hq with e | ⟨j,e,hj⟩
   ·exact .inl (e ▸ hk)
   ·rw [e] at hk;cases hk;exact .inr hj
  refine hK { F with qi:=q } w3 (h.own hH ⟨hb3,⟨r0,l0,h0,hch.chg c3 (fun hh=>hh.elim (fun e=>nq _ e rfl) fun e=>hni _ (.inl rfl) e)⟩,hp.hg,ho.chg (Chg.gg hg3) fun k hk e=>?_,hp.qp.chg c3 ?_,hp.qd.chg c3 ?_,fun k hk hk'=>?_,?_⟩ (c3.mono fun k _ hk=>?_) (fun k hk=>?_) rfl)
  ·rcases hq' k hk with h1 | h1
   ·exact hni k (.inr (.inl h1)) e
   ·have:=hp.blk.lt;omega
  ·rintro k hk (e | e)
   ·exact qsu hp.qi hp.qp (by decide) k e hk
   ·exact hni k (.inr (.inr (.inl hk))) e
  ·rintro k hk (e | e)
   ·exact hp.ne k e hk
   ·exact hni k (.inr (.inr (.inr hk))) e
  ·rcases hq' k hk with h1 | h1
   ·exact hp.ne k h1 hk'
   ·have:=(hp.qd.lt k hk').2;omega
  ·exact ⟨by show (p.inter++_).length<=2;rw [List.length_append];have:=ok.il;simp;omega,ok.pl,ok.dl,ok.la,ok.pv,ok.pr⟩
  ·rcases hk with hk | hk
   ·exact .inr (.inr (.inl hk))
   ·exact .inl hk
  ·rcases hk with hk | hk | hk | hk | hk
   ·exact .inl (.inl hk)
   ·exact .inl (.inr (.inl hk))
   ·rcases hq' k hk with h1 | h1
    ·exact .inl (.inr (.inr (.inl h1)))
    ·exact .inr h1
   ·exact .inl (.inr (.inr (.inr (.inl hk))))
   ·exact .inl (.inr (.inr (.inr (.inr hk))))
theorem stSt (hH:HndOk H base fv) (h:PH H w base F p fv S s) (x:Int) {K:World->Prop} (hK:∀w',PhT H base w F S F S { p with st:=x } fv s w'->K w'):stK ((⟨F.pg,0,none⟩:Addr).add 0) [.int .i64 x] w K :=
 h.st hH (i:=0) { p with st:=x } (by decide) rfl rfl rfl rfl ⟨h.par.ok.il,h.par.ok.pl,h.par.ok.dl,h.par.ok.la,h.par.ok.pv,h.par.ok.pr⟩ hK
theorem zcb (hH:HndOk H base fv) (h:PH H w base F p fv S s) (hok:∀r,p.opens c=some r->qbq H s r.2) {K:Bool->World->Prop} (h1:∀r F' S' s' w',p.opens c=some r->PhT H base w F S F' S' r.1 fv s' w'->Runs H s r.2 s'->K true w') (h0:p.opens c=none->K false w):qie (some ⟨F.pg,0,none⟩) c w K:=by
 refine quq _ _ ?_;unfold qmu;simp only [onPtr_some];unfold PS.opens at hok h1 h0;refine jpO fun J1 hJ1=>?_;refine cO (fun e=>?_) fun e=>?_
 ·rw [if_pos (eq_of_beq e)] at hok h1 h0;exact qox hH h 2 fun F' w' hT=>h1 _ F' S s w' rfl hT rfl
 rw [if_neg (beq_eq_false_iff_ne.1 e)] at hok h1 h0;refine cO (fun e=>?_) fun e=>?_
 ·rw [if_pos (eq_of_beq e)] at hok h1 h0;exact qox hH h 3 fun F' w' hT=>h1 _ F' S s w' rfl hT rfl
 rw [if_neg (beq_eq_false_iff_ne.1 e)] at hok h1 h0;refine cO (fun e=>?_) fun e=>?_
 ·rw [if_pos (eq_of_beq e)] at hok h1 h0;have hd:=h.drew hH;generalize w.drew=w1 at hd ⊢;have hp:=hd.m.par;refine lSl (x:=F.qd) (hp.blk.cells 10 _ rfl) ?_;refine hp.qd.rd.slK (l:=0) (m:=0) rfl (.inl ⟨rfl,rfl⟩) (.inr rfl) (le_refl _) (zero_le _) fun _=>?_;obtain ⟨q1,e1,o1,b1⟩:=q3f hp.qd;rw [e1,qae];refine qah hp.blk (by show 0+0+1<=12;omega) fun w8 hb8 hg8 hs8=>?_;rw [qae];refine qah hb8 (by show 0+10+1<=(putL _ _ _).length;rw [qfg];show 11<=12;omega) fun w9 hb9 hg9 hs9=>?_;have ok:=hp.ok;exact h1 _ { F with qd:=q1 } S s w9 rfl (hd.trans (hd.m.put (p':={ p with st:=4,data:=[] }) hH hb9 ((Chg.gg hg8).trans (Chg.gg hg9) fun i _ hi=>hi) rfl rfl hp.qi hp.qp o1 (fun _ h=>h) (fun _ h=>h) b1 ⟨ok.il,ok.pl,zero_le _,ok.la,ok.pv,ok.pr⟩)) rfl
 rw [if_neg (beq_eq_false_iff_ne.1 e)] at hok h1 h0;refine cO (fun e=>?_) fun e=>?_
 ·rw [if_pos (eq_of_beq e)] at hok h1 h0;refine stSt hH h 6 fun w1 hT1=>?_;exact tell0 hH hT1.m 9 0 0 (by omega) (hok _ rfl).1 fun S' s' w' hT hr=>h1 _ F S' s' w' rfl (hT1.trans hT) ⟨s',hr,rfl⟩
 rw [if_neg (beq_eq_false_iff_ne.1 e)] at hok h1 h0;have hx:(c=88\/c=94)->J1 () w:=fun hx=>by
  rw [if_pos hx] at h1;exact hJ1 _ _ (stSt hH h 7 fun w1 hT1=>h1 _ F S s w1 rfl hT1 rfl)
 refine cO (fun e=>hx (.inl (eq_of_beq e))) fun e=>cO (fun e2=>hx (.inr (eq_of_beq e2))) fun e2=>?_;rw [if_neg (fun hh=>hh.elim (beq_eq_false_iff_ne.1 e) (beq_eq_false_iff_ne.1 e2))] at h0;exact h0 rfl
theorem qzf (hH:HndOk H base fv) (h:PH H w base F p fv S s) (hc:0<=c/\c<128) (hok:qbq H s (p.escape c).2) {K:World->Prop} (hK:∀F' S' s' w',PhT H base w F S F' S' (p.escape c).1 fv s' w'->Runs H s (p.escape c).2 s'->K w'):qdz (some ⟨F.pg,0,none⟩) c w K:=by
 refine qrm _ _ ?_;unfold qj2;simp only [onPtr_some];unfold PS.escape at hok hK;refine qko (cO (fun e=>?_) fun e=>?_)
 ·rw [if_pos e] at hok hK;exact tell0 hH h 2 0 c (by omega) hok.1 fun S' s' w' hT hr=>hK F S' s' w' hT ⟨s',hr,rfl⟩
 rw [if_neg (by rw [e];decide)] at hok hK;refine cF (dFq (by omega)) ?_;refine cO (fun e=>?_) fun e=>?_
 ·rw [if_pos (oTq e)] at hok hK;exact q2m hH h hc fun F' w' hT=>hK F' S s w' hT rfl
 rw [if_neg (oFq e)] at hok hK;refine cO (fun e=>?_) fun e=>?_
 ·rw [if_pos (eq_of_beq e)] at hok hK;exact hK F S s w (PhT.refl h) rfl
 rw [if_neg (beq_eq_false_iff_ne.1 e)] at hok hK;refine jpO fun J1 hJ1=>?_;have key:qbq H s (p.escEnd c).2->(∀F' S' s' w',PhT H base w F S F' S' (p.escEnd c).1 fv s' w'->Runs H s (p.escEnd c).2 s'->K w')->J1 (true,()) w:=by
  intro hok hK;refine hJ1 _ _ (cT rfl ?_);unfold PS.escEnd at hok hK;refine stSt hH h 0 fun w1 hT1=>?_;have hp:=hT1.m.par;refine qhx (x:=p.wrong) (hp.blk.cells 5 _ rfl) ?_;cases hw:p.wrong
  ·rw [hw,if_neg (by decide)] at hok;refine cT rfl ?_;have hd:=hT1.m.drew hH;generalize w1.drew=w2 at hd ⊢;have hp2:=hd.m.par;refine qs3 (x:=fv) (hp2.blk.cells 11 _ rfl) (lSl (x:=F.qi) (hp2.blk.cells 4 _ rfl) ?_);refine qsj hp2.qi.rd ⟨hp2.blk.cells 11 _ rfl,?_⟩;refine qs6 hH hd.m (v:=⟨3,0,c,0,p.inter,[],[]⟩) (q:=⟨none,0,0⟩) (d:=⟨none,0,0⟩) hok.1 (evW0 rfl rfl ⟨hc.1,by show c<=255;omega⟩ ⟨Int.le_refl 0,by show (0:Int)<=255;omega⟩ h.par.ok.il) fun S' s' w' hT hr=>hK F S' s' w' ((hT1.trans hd).trans hT) (by rw [if_neg (by rw [hw];decide)];exact ⟨s',hr,rfl⟩)
  ·exact cF rfl (hK F S s w1 hT1 (by rw [if_pos hw];rfl))
 refine lSl (x:=F.qi) (h.par.blk.cells 4 _ rfl) ?_;have hn:F.qi.n=p.inter.length:=h.par.qi.rd.n;rw [hn];refine cO (fun e=>?_) fun e=>?_
 ·have e:=oTq e;have hne:p.inter≠[]:=fun h2=>by rw [h2] at e;exact absurd e (by decide)
  rw [if_pos hne] at hok hK;exact key hok hK
 ·have e:=oFq e;have hnil:p.inter=[]:=List.eq_nil_of_length_eq_zero (by omega);rw [if_neg (fun hh=>hh hnil)] at hok hK;refine zcb hH h (fun r hr=>by rw [hr] at hok;exact hok) (fun r F' S' s' w' hr hT hR=>?_) fun hr=>?_
  ·rw [hr] at hK;exact hJ1 _ _ (cF rfl (hK F' S' s' w' hT hR))
  ·rw [hr] at hok hK;exact key hok hK
end
section
variable {σ:Type} {H:Hnd σ} {w w':World} {base:Nat} {F F':PF} {p p':PS} {fv:Value} {S S':Nat->Prop} {s s':σ} {c:Int}
theorem zhp (h:PsOk p):PsOk p.next:=by
 unfold PS.next;refine ⟨h.il,?_,h.dl,⟨Int.le_refl 0,by show (0:Int)<=65535;omega⟩,h.pv,?_⟩
 ·show (if p.params.length<16 then p.params++[p.last] else p.params).length<=16;split
  ·rw [List.length_append];simp;omega
  ·exact h.pl
 ·show ∀x∈(if p.params.length<16 then p.params++[p.last] else p.params),0<=x/\x<=65535;split
  ·intro x hx;rcases List.mem_append.1 hx with h1 | h1
   ·exact h.pr x h1
   ·rw [List.mem_singleton] at h1;rw [h1];exact h.la
  ·exact h.pr
theorem q15 (hH:HndOk H base fv) (h:PH H w base F p fv S s) {K:World->Prop} (hK:∀F' w',PhT H base w F S F' S p.next fv s w'->K w'):qf0 (some ⟨F.pg,0,none⟩) w K:=by
 refine qvy _ ?_;unfold qnu;simp only [onPtr_some];have hok:=zhp h.par.ok;have ok:=h.par.ok;unfold PS.next at hK hok;refine jpO fun J1 hJ1=>?_;have hp:=h.par;refine lSl (x:=F.qp) (hp.blk.cells 7 _ rfl) ?_;have hn:F.qp.n=p.params.length:=hp.qp.rd.n;rw [hn];refine cO (fun e=>?_) fun e=>?_
 ·have e:p.params.length<16:=by have:=oTq e;omega
  rw [if_pos e] at hK hok;have hd:=h.drew hH;generalize w.drew=w1 at hd ⊢;have hp:=hd.m.par;refine lSl (x:=F.qp) (hp.blk.cells 7 _ rfl) (lI (x:=p.last) (hp.blk.cells 9 _ rfl) ?_);refine nwb fun w2 hb2 hB2 hs2=>?_;have h2:=hd.trans (hd.m.ext hH hB2);have hp2:=h2.m.par;refine ⟨hp2.blk.cells 7 _ rfl,?_⟩;refine qde qz9 hp2.qp (qkj (E:=E_int) hb2 rfl) h2.m.base_le (by rw [q6n];simp;omega) (by simp only [maxLen];simp;omega) fun q w3 ho hg hq=>?_;have hc3:Chg (fun k=>F.qp.blk=some k) w2 w3:=Chg.of_grown hg fun k hk=>hk;have hni:=hp2.ne_pg;have hb3:=hp2.blk.chg hc3 fun e=>hni _ (.inr (.inr (.inl e))) rfl;rw [qae];refine qah hb3 (by show 0+7+1<=12;omega) fun w4 hb4 hg4 hs4=>?_;have z3:=hc3.size;have c4:Chg (fun k=>F.qp.blk=some k\/k=F.pg) w2 w4:=(hc3.mono fun k _ e=>.inl e).trans (Chg.gg hg4) fun k _ e=>.inr e;obtain ⟨r0,l0,h0,hch⟩:=hp2.ch;have nq:∀k,F.qp.blk=some k->k≠F.cg:=qbo hp2.qp hch (by decide);have hq':∀k,q.blk=some k->F.qp.blk=some k\/w2.heap.size<=k:=fun k hk=>by
   rcases hq with e | e
   ·exact .inl (e ▸ hk)
   ·rw [e] at hk;cases hk;exact .inr (le_refl _)
  have h4:PhT H base w F S { F with qp:=q } S { p with params:=p.params++[p.last] } fv s w4:=by
   refine h2.trans (h2.m.own hH ⟨hb4,⟨r0,l0,h0,hch.chg c4 (fun hh=>hh.elim (fun e=>nq _ e rfl) fun e=>hni _ (.inl rfl) e)⟩,hp2.hg,hp2.qi.chg c4 ?_,ho.chg (Chg.gg hg4) fun k hk e=>?_,hp2.qd.chg c4 ?_,hp2.ne,⟨ok.il,hok.pl,ok.dl,ok.la,ok.pv,hok.pr⟩⟩ (c4.mono fun k _ hk=>?_) (fun k hk=>?_) rfl)
   ·rintro k hk (e | e)
    ·exact qsu hp2.qp hp2.qi (by decide) k e hk
    ·exact hni k (.inr (.inl hk)) e
   ·rcases hq' k hk with h1 | h1
    ·exact hni k (.inr (.inr (.inl h1))) e
    ·have:=hp2.blk.lt;omega
   ·rintro k hk (e | e)
    ·exact qsu hp2.qp hp2.qd (by decide) k e hk
    ·exact hni k (.inr (.inr (.inr hk))) e
   ·rcases hk with hk | hk
    ·exact .inr (.inr (.inr (.inl hk)))
    ·exact .inl hk
   ·rcases hk with hk | hk | hk | hk | hk
    ·exact .inl (.inl hk)
    ·exact .inl (.inr (.inl hk))
    ·exact .inl (.inr (.inr (.inl hk)))
    ·rcases hq' k hk with h1 | h1
     ·exact .inl (.inr (.inr (.inr (.inl h1))))
     ·exact .inr h1
    ·exact .inl (.inr (.inr (.inr (.inr hk))))
  refine hJ1 _ _ (h4.m.st hH (i:=9) { p with params:=p.params++[p.last],last:=0 } (by decide) rfl rfl rfl rfl hok fun w5 h5=>hK _ w5 (h4.trans h5))
 ·have e:¬p.params.length<16:=fun h2=>oFq e (by omega);rw [if_neg e] at hK hok;exact hJ1 _ _ (h.st hH (i:=9) { p with last:=0 } (by decide) rfl rfl rfl rfl hok fun w5 h5=>hK F w5 h5)
theorem zcs (hH:HndOk H base fv) (h:PH H w base F p fv S s) (hc:0<=c/\c<128) (hok:qbq H s (p.final c).2) {K:World->Prop} (hK:∀F' S' s' w',PhT H base w F S F' S' (p.final c).1 fv s' w'->Runs H s (p.final c).2 s'->K w'):qis (some ⟨F.pg,0,none⟩) c w K:=by
 refine qvc _ _ ?_;unfold qnr;simp only [onPtr_some];unfold PS.final at hok hK;dsimp only at hok hK;refine jpO fun J1 hJ1=>?_;have key:∀k:Int,k=(if p.st=3 then 6 else 4)->J1 (k,()) w:=by
  rintro k hk;refine hJ1 _ _ ?_;refine jpO fun J2 hJ2=>?_;have key2:∀w1,PhT H base w F S F S { p with st:=if p.st≠3 then 0 else if p.wrong then 7 else 5 } fv s w1->J2 () w1:=by
   intro w1 h1;refine hJ2 _ _ ?_;refine qhx (x:=p.wrong) (h1.m.par.blk.cells 5 _ rfl) ?_;cases hw:p.wrong
   ·have hwn:¬p.wrong=true:=by rw [hw];decide
    simp only [if_neg hwn] at hok hK h1;refine cF rfl ?_;refine jpO fun J3 hJ3=>?_;have key3:∀(p2:PS) F2 w2,PhT H base w F S F2 S p2 fv s w2->p2.priv=p.priv->p2.inter=p.inter->(if p.some_ then ({ p with st:=if p.st≠3 then 0 else 5 }:PS).next else { p with st:=if p.st≠3 then 0 else 5 })=p2->J3 () w2:=by
     intro p2 F2 w2 h2 e1 e2 e3;rw [e3] at hok hK;refine hJ3 _ _ ?_;have hpg:=h2.pg;rw [<-hpg];have hd:=h2.trans (h2.m.drew hH);generalize w2.drew=w3 at hd ⊢;have hp:=hd.m.par;refine qs3 (x:=fv) (hp.blk.cells 11 _ rfl) (lI (x:=p2.priv) (hp.blk.cells 3 _ rfl) (lSl (x:=F2.qp) (hp.blk.cells 7 _ rfl) (lSl (x:=F2.qi) (hp.blk.cells 4 _ rfl) ?_)));have fin:∀(q:Slc) w4,Go.Vc.Own E_int w4 w3.heap.size q p2.params->Below w3.heap.size w3 w4->(∀K':World->Prop,(∀S' s' w',PhT H base w F S F2 S' p2 fv s' w'->H.R s ⟨k,0,c,p2.priv,p2.inter,p2.params,[]⟩ s'->K' w')->callR C fv [agE ⟨k,0,c,p2.priv,p2.inter,p2.params,[]⟩ q ⟨none,0,0⟩] [] w4 K'):=by
      intro q w4 ho hB K' hK';have h4:=hd.trans (hd.m.ext hH hB);refine qs6 hH h4.m (v:=⟨k,0,c,p2.priv,p2.inter,p2.params,[]⟩) (q:=q) (d:=⟨none,0,0⟩) ?_ ⟨ho.rd,(fun a ha=>?_),Rd.nil _ _,(fun a ha=>by cases ha),hp.ok.pr,hp.ok.pl,⟨hc.1,by show c<=255;omega⟩,hp.ok.pv,hp.ok.il,zero_le _⟩ fun S' s' w' hT hr=>hK' S' s' w' (h4.trans hT) hr
      ·have:=hok.1;rw [hk,e1,e2];exact this
      ·have h5:=ho.lt a.block (slk.2 ⟨a,ha,rfl⟩);exact ⟨fun hs=>by have:=(hH.lt hd.m.m _ hs).2;omega,h5.2⟩
     refine ⟨?_,?_⟩
     ·refine q3b hp.qp.rd (by have:=hp.ok.pl;omega) fun q w4 ho hB=>?_;have hp4:=hp.ext hB;refine ⟨hp4.blk.cells 4 _ rfl,hp4.blk.cells 3 _ rfl,hp4.blk.cells 11 _ rfl,?_⟩;refine qsj hp4.qi.rd ⟨hp4.blk.cells 7 _ rfl,hp4.blk.cells 3 _ rfl,hp4.blk.cells 11 _ rfl,?_⟩;exact fin q w4 ho hB K fun S' s' w' hT hr=>hK F2 S' s' w' hT ⟨s',by rw [hk,e1,e2] at hr;exact hr,rfl⟩
     ·refine qsj hp.qi.rd ⟨hp.blk.cells 7 _ rfl,hp.blk.cells 3 _ rfl,hp.blk.cells 11 _ rfl,?_⟩;refine q3b hp.qp.rd (by have:=hp.ok.pl;omega) fun q w4 ho hB=>?_;have hp4:=hp.ext hB;refine ⟨hp4.blk.cells 4 _ rfl,hp4.blk.cells 3 _ rfl,hp4.blk.cells 11 _ rfl,?_⟩;exact fin q w4 ho hB K fun S' s' w' hT hr=>hK F2 S' s' w' hT ⟨s',by rw [hk,e1,e2] at hr;exact hr,rfl⟩
    refine qhx (x:=p.some_) (h1.m.par.blk.cells 8 _ rfl) ?_;cases hs:p.some_
    ·exact cF rfl (key3 _ F w1 h1 rfl rfl (if_neg (by rw [hs];decide)))
    ·exact cT rfl (q15 hH h1.m fun F2 w2 h2=>key3 _ F2 w2 (h1.trans h2) rfl rfl (if_pos hs))
   ·simp only [if_pos hw] at hok hK h1;exact cT rfl (hK F S s w1 h1 rfl)
  refine cO (fun e=>?_) fun e=>?_
  ·have e:k=4:=eq_of_beq e;have h3:p.st≠3:=fun h3=>by rw [if_pos h3] at hk;omega
   refine stSt hH h 0 fun w1 h1=>key2 w1 ?_;rw [if_pos h3];exact h1
  ·have e:¬k=4:=beq_eq_false_iff_ne.1 e;have h3:p.st=3:=by
    by_cases h3:p.st=3
    ·exact h3
    ·rw [if_neg h3] at hk;exact absurd hk e
   refine qhx (x:=p.wrong) (h.par.blk.cells 5 _ rfl) ?_;cases hw:p.wrong
   ·refine cF rfl (stSt hH h 5 fun w1 h1=>key2 w1 ?_);rw [if_neg (fun hh=>hh h3),if_neg (by rw [hw];decide)];exact h1
   ·refine cT rfl (stSt hH h 7 fun w1 h1=>key2 w1 ?_);rw [if_neg (fun hh=>hh h3),if_pos hw];exact h1
 refine lI (x:=p.st) (h.par.blk.cells 0 _ rfl) ?_;refine cO (fun e=>?_) fun e=>?_
 ·exact key 6 (by rw [if_pos (eq_of_beq e)])
 ·exact key 4 (by rw [if_neg (beq_eq_false_iff_ne.1 e)])
end
section
variable {σ:Type} {H:Hnd σ} {w w':World} {base:Nat} {F F':PF} {p p':PS} {fv:Value} {S S':Nat->Prop} {s s':σ} {c:Int}
theorem q2v (hH:HndOk H base fv) (h:PH H w base F p fv S s) (hc:0<=c/\c<128) (hok:qbq H s (p.head c).2) {K:World->Prop} (hK:∀F' S' s' w',PhT H base w F S F' S' (p.head c).1 fv s' w'->Runs H s (p.head c).2 s'->K w'):qes (some ⟨F.pg,0,none⟩) c w K:=by
 refine qtu _ _ ?_;unfold qlx;simp only [onPtr_some];refine qhx (x:=p.first) (h.par.blk.cells 6 _ rfl) ?_;refine jpO fun J1 hJ1=>?_;unfold PS.head at hok hK;dsimp only at hok hK;obtain ⟨fb,hfb⟩:∃fb,fb=(p.first && (isCtl c || c==127)):=⟨_,rfl⟩;rw [<-hfb] at hok hK;have key:∀w1,PhT H base w F S F S { p with first:=fb } fv s w1->J1 () w1:=by
  intro w1 h1;refine hJ1 _ _ ?_;have ok:=h1.m.par.ok;refine qko (cO (fun e=>?_) fun e=>?_)
  ·rw [if_pos e] at hok hK;refine lI (x:=p.st) (h1.m.par.blk.cells 0 _ rfl) (cO (fun e=>?_) fun e=>?_)
   ·have e:p.st=2:=eq_of_beq e;rw [if_pos e] at hok hK;exact tell0 hH h1.m 2 0 c (by omega) hok.1 fun S' s' w' hT hr=>hK F S' s' w' (h1.trans hT) ⟨s',hr,rfl⟩
   ·have e:¬p.st=2:=beq_eq_false_iff_ne.1 e;rw [if_neg e] at hok hK;exact hK F S s w1 h1 rfl
  rw [if_neg (by rw [e];decide)] at hok hK;refine cF (dFq (by omega)) ?_;refine cO (fun e=>?_) fun e=>?_
  ·rw [if_pos (oTq e)] at hok hK;exact q2m hH h1.m hc fun F' w' hT=>hK F' S s w' (h1.trans hT) rfl
  have e47:=oFq e;rw [if_neg e47] at hok hK;refine cO (fun e=>?_) fun e=>?_
  ·rw [if_pos (eq_of_beq e)] at hok hK;exact hK F S s w1 h1 rfl
  rw [if_neg (beq_eq_false_iff_ne.1 e)] at hok hK;have hn:F.qi.n=p.inter.length:=h1.m.par.qi.rd.n;have wrg:∀(X:World->Prop),(∀w2,PhT H base w F S F S { p with first:=fb,wrong:=p.wrong || decide (p.inter≠[]) } fv s w2->X w2) ->
    ldB ((⟨F.pg,0,none⟩:Addr).add 5) w1 fun t61=>cond t61 (stK ((⟨F.pg,0,none⟩:Addr).add 5) [(.bool true)] w1 fun w9=>X w9) (ldSl ((⟨F.pg,0,none⟩:Addr).add 4) w1 fun t66=>stK ((⟨F.pg,0,none⟩:Addr).add 5) [(.bool (decide (((t66.n:Nat):Int)>(0:Int))))] w1 fun w10=>X w10):=by
   intro X hX;refine qhx (x:=p.wrong) (h1.m.par.blk.cells 5 _ rfl) ?_;have st:∀b:Bool,b=(p.wrong || decide (p.inter≠[]))->stK ((⟨F.pg,0,none⟩:Addr).add 5) [(.bool b)] w1 fun w9=>X w9:=by
    rintro b hb;rw [<-hb] at hX;exact h1.m.st hH (i:=5) { p with first:=fb,wrong:=b } (by decide) rfl rfl rfl rfl ⟨ok.il,ok.pl,ok.dl,ok.la,ok.pv,ok.pr⟩ fun w2 h2=>hX w2 (h1.trans h2)
   cases hw:p.wrong
   ·refine cF rfl (lSl (x:=F.qi) (h1.m.par.blk.cells 4 _ rfl) (st _ ?_));rw [hw,Bool.false_or,hn];by_cases hi:p.inter=[]
    ·rw [hi];rfl
    ·rw [dTq hi,dTq];have:=List.length_pos_iff.2 hi;omega
   ·exact cT rfl (st _ (by rw [hw,Bool.true_or]))
  refine cO (fun e=>?_) fun e=>?_
  ·have e57:=oTq e;rw [if_pos e57] at hok hK;refine jpO fun J2 hJ2=>?_;refine wrg (fun w2=>J2 () w2) fun w2 h2=>hJ2 _ _ ?_;have ok2:=h2.m.par.ok;refine h2.m.st hH (i:=8) { p with first:=fb,wrong:=p.wrong || decide (p.inter≠[]),some_:=true } (by decide) rfl rfl rfl rfl ⟨ok2.il,ok2.pl,ok2.dl,ok2.la,ok2.pv,ok2.pr⟩ fun w3 h3=>?_;refine lI (x:=p.last) (h3.m.par.blk.cells 9 _ rfl) ?_;have hla:=ok.la;have w1':IntKind.u8.wrap (c-48)=c-48:=by
    obtain ⟨m,hm⟩:∃m:Nat,c-48=m:=⟨(c-48).toNat,by omega⟩;rw [hm];exact qml .u8 (by show _<2^8;omega)
   have hla:0<=p.last/\p.last<=65535:=hla;rw [w1',w64i (x:=c-48) (by omega),w64i (x:=10*p.last) (by omega),w64i (x:=10*p.last+(c-48)) (by omega)];refine h3.m.st hH (i:=9) { p with first:=fb,wrong:=p.wrong || decide (p.inter≠[]),some_:=true,last:=if 65535<10*p.last+(c-48) then 65535 else 10*p.last+(c-48) } (by decide) rfl rfl rfl rfl ?_ fun w4 h4=>hK F S s w4 (h2.trans (h3.trans h4)) rfl;refine ⟨ok2.il,ok2.pl,ok2.dl,?_,ok2.pv,ok2.pr⟩;show 0<=(if 65535<10*p.last+(c-48) then 65535 else 10*p.last+(c-48))/\(if 65535<10*p.last+(c-48) then 65535 else 10*p.last+(c-48))<=65535;split<;>omega
  have e57:=oFq e;rw [if_neg e57] at hok hK;refine cO (fun e=>?_) fun e=>?_
  ·have e59:c=59:=eq_of_beq e;rw [if_pos e59] at hok hK;refine jpO fun J3 hJ3=>?_;refine wrg (fun w2=>J3 () w2) fun w2 h2=>hJ3 _ _ ?_;have ok2:=h2.m.par.ok;refine h2.m.st hH (i:=8) { p with first:=fb,wrong:=p.wrong || decide (p.inter≠[]),some_:=true } (by decide) rfl rfl rfl rfl ⟨ok2.il,ok2.pl,ok2.dl,ok2.la,ok2.pv,ok2.pr⟩ fun w3 h3=>?_;exact q15 hH h3.m fun F4 w4 h4=>hK F4 S s w4 (h2.trans (h3.trans h4)) rfl
  have e59:¬c=59:=beq_eq_false_iff_ne.1 e;rw [if_neg e59] at hok hK;refine jpO fun J4 hJ4=>?_;have end_:∀b:Bool,b=decide (60<=c/\c<=63/\p.first=true)->J4 (b,()) w1:=by
   intro b hb;refine hJ4 _ _ (cO (fun e=>?_) fun e=>?_)
   ·have e:b=true:=e;rw [e] at hb;have hb:=oTq hb.symm;rw [if_pos hb] at hok hK;exact h1.m.st hH (i:=3) { p with first:=fb,priv:=c } (by decide) rfl rfl rfl rfl ⟨ok.il,ok.pl,ok.dl,ok.la,⟨hc.1,by show c<=255;omega⟩,ok.pr⟩ fun w2 h2=>hK F S s w2 (h1.trans h2) rfl
   ·have e:b=false:=e;rw [e] at hb;have hb:=oFq hb.symm;rw [if_neg hb] at hok hK;refine cO (fun e=>?_) fun e=>?_
    ·rw [if_pos (oTq e)] at hok hK;exact h1.m.st hH (i:=5) { p with first:=fb,wrong:=true } (by decide) rfl rfl rfl rfl ⟨ok.il,ok.pl,ok.dl,ok.la,ok.pv,ok.pr⟩ fun w2 h2=>hK F S s w2 (h1.trans h2) rfl
    ·rw [if_neg (oFq e)] at hok hK;exact zcs hH h1.m hc hok fun F' S' s' w' hT hr=>hK F' S' s' w' (h1.trans hT) hr
  refine cO (fun e=>?_) fun e=>?_
  ·have e:=oTq e;refine cO (fun e2=>?_) fun e2=>?_
   ·have e2:=oTq e2;refine end_ _ ?_;cases p.first
    ·rw [dFq];rintro ⟨_,_,h⟩;cases h
    ·rw [dTq];exact ⟨e,e2,rfl⟩
   ·have e2:=oFq e2;exact end_ _ (by rw [dFq];rintro ⟨_,h,_⟩;exact e2 h)
  ·have e:=oFq e;exact end_ _ (by rw [dFq];rintro ⟨h,_,_⟩;exact e h)
 have ok:=h.par.ok;have st:∀b:Bool,b=fb->stK ((⟨F.pg,0,none⟩:Addr).add 6) [(.bool b)] w fun w9=>J1 () w9:=by
  rintro b rfl;exact h.st hH (i:=6) { p with first:=b } (by decide) rfl rfl rfl rfl ⟨ok.il,ok.pl,ok.dl,ok.la,ok.pv,ok.pr⟩ fun w2 h2=>key w2 h2
 cases hf:p.first
 ·refine cF rfl (st _ ?_);rw [hfb,hf,Bool.false_and]
 ·refine cT rfl (qko (cO (fun e=>?_) fun e=>?_))
  ·exact st _ (by rw [hfb,hf,e];rfl)
  ·exact st _ (by rw [hfb,hf,e];rfl)
theorem q3a (hH:HndOk H base fv) (h:PH H w base F p fv S s) (hok:H.ok s (evDt 5 p.data)) {K:World->Prop} (hK:∀S' s' w',PhT H base w F S F S' p fv s' w'->H.R s (evDt 5 p.data) s'->K w'):qf6 (some ⟨F.pg,0,none⟩) w K:=by
 refine qwm _ ?_;unfold qoo;simp only [onPtr_some];have hd:=h.drew hH;generalize w.drew=w1 at hd ⊢;have hp:=hd.m.par;refine qs3 (x:=fv) (hp.blk.cells 11 _ rfl) (lSl (x:=F.qd) (hp.blk.cells 10 _ rfl) ?_);refine q2a hp.qd.rd (by have:=hp.ok.dl;omega) fun q w2 ho hB=>?_;have h2:=hd.trans (hd.m.ext hH hB);refine ⟨h2.m.par.blk.cells 11 _ rfl,?_⟩;refine qs6 hH h2.m (v:=evDt 5 p.data) (q:=⟨none,0,0⟩) (d:=q) hok ⟨Rd.nil _ _,(fun a ha=>by cases ha),ho.rd,(fun a ha=>?_),(fun x hx=>by cases hx),zero_le _,⟨Int.le_refl 0,by show (0:Int)<=255;omega⟩,⟨Int.le_refl 0,by show (0:Int)<=255;omega⟩,zero_le _,by show p.data.length<=_;have:=hp.ok.dl;omega⟩ fun S' s' w' hT hr=>hK S' s' w' (h2.trans hT) hr;have h5:=ho.lt a.block (slk.2 ⟨a,ha,rfl⟩);exact ⟨fun hs=>by have:=(hH.lt hd.m.m _ hs).2;omega,h5.2⟩
theorem ze9 (hH:HndOk H base fv) (h:PH H w base F p fv S s) {q:Slc} {bs:List UInt8} (hq:Rd qal w q bs) (hl:bs.length<=1000000) (hok:H.ok s (evDt (if p.st=6 then 10 else 7) bs)) {K:World->Prop} (hK:∀S' s' w',PhT H base w F S F S' p fv s' w'->H.R s (evDt (if p.st=6 then 10 else 7) bs) s'->K w'):qdg (some ⟨F.pg,0,none⟩) q w K:=by
 refine qtn _ _ ?_;unfold qmc;simp only [onPtr_some];refine jpO fun J1 hJ1=>?_;have key:∀k:Int,k=(if p.st=6 then 10 else 7)->J1 (k,()) w:=by
  rintro k hk;rw [<-hk] at hok hK;refine hJ1 _ _ ?_;have hd:=h.drew hH;have hq1:Rd qal w.drew q bs:=hq.drew;generalize w.drew=w1 at hd hq1 ⊢;have hp:=hd.m.par;refine qs3 (x:=fv) (hp.blk.cells 11 _ rfl) ?_;refine q2a hq1 (by omega) fun q2 w2 ho hB=>?_;have h2:=hd.trans (hd.m.ext hH hB);refine ⟨h2.m.par.blk.cells 11 _ rfl,?_⟩;refine qs6 hH h2.m (v:=evDt k bs) (q:=⟨none,0,0⟩) (d:=q2) hok ⟨Rd.nil _ _,(fun a ha=>by cases ha),ho.rd,(fun a ha=>?_),(fun x hx=>by cases hx),zero_le _,⟨Int.le_refl 0,by show (0:Int)<=255;omega⟩,⟨Int.le_refl 0,by show (0:Int)<=255;omega⟩,zero_le _,hl⟩ fun S' s' w' hT hr=>hK S' s' w' (h2.trans hT) hr;have h5:=ho.lt a.block (slk.2 ⟨a,ha,rfl⟩);exact ⟨fun hs=>by have:=(hH.lt hd.m.m _ hs).2;omega,h5.2⟩
 refine lI (x:=p.st) (h.par.blk.cells 0 _ rfl) (cO (fun e=>?_) fun e=>?_)
 ·exact key 10 (by rw [if_pos (eq_of_beq e)])
 ·exact key 7 (by rw [if_neg (beq_eq_false_iff_ne.1 e)])
theorem zax (hH:HndOk H base fv) (h:PH H w base F p fv S s) (hc:0<=c/\c<128) (hok:qbq H s (p.text c).2) {K:World->Prop} (hK:∀F' S' s' w',PhT H base w F S F' S' (p.text c).1 fv s' w'->Runs H s (p.text c).2 s'->K w'):qhv (some ⟨F.pg,0,none⟩) c w K:=by
 refine qtf _ _ ?_;unfold qlt;simp only [onPtr_some];unfold PS.text at hok hK;refine cO (fun e=>?_) fun e=>?_
 ·rw [if_pos (eq_of_beq e)] at hok hK;refine q3a hH h hok.1 fun S1 s1 w1 h1 hr=>?_;exact stSt hH h1.m 0 fun w2 h2=>hK F S1 s1 w2 (h1.trans h2) ⟨s1,hr,rfl⟩
 rw [if_neg (beq_eq_false_iff_ne.1 e)] at hok hK;refine jpO fun J1 hJ1=>?_;have hp:=h.par;have ok:=hp.ok;have key:∀b:Bool,b=decide (32<=c/\c≠127/\p.data.length<1024)->J1 (b,()) w:=by
  intro b hb;refine hJ1 _ _ (cO (fun e=>?_) fun e=>?_)
  ·have e:b=true:=e;rw [e] at hb;have hb:=oTq hb.symm;rw [if_pos hb] at hok hK;refine lSl (x:=F.qd) (hp.blk.cells 10 _ rfl) ?_;refine apB1 (c:=UInt8.ofNat c.toNat) (u8c_p (by omega)) hp.qd h.base_le (by omega) fun q w2 ho hc2 hq=>?_;have hni:=hp.ne_pg;have hb2:=hp.blk.chg hc2 fun e=>hni _ (.inr (.inr (.inr e))) rfl;rw [qae];refine qah hb2 (by show 0+10+1<=12;omega) fun w3 hb3 hg3 hs3=>?_;have z2:=hc2.size;have c3:Chg (fun k=>F.qd.blk=some k\/k=F.pg) w w3:=(hc2.mono fun k _ e=>.inl e).trans (Chg.gg hg3) fun k _ e=>.inr e;obtain ⟨r0,l0,h0,hch⟩:=hp.ch;have nq:∀k,F.qd.blk=some k->k≠F.cg:=qbo hp.qd hch (by decide);have hq':∀k,q.blk=some k->F.qd.blk=some k\/w.heap.size<=k:=fun k hk=>by
    rcases hq with e | ⟨j,e,hj⟩
    ·exact .inl (e ▸ hk)
    ·rw [e] at hk;cases hk;exact .inr hj
   refine hK { F with qd:=q } S s w3 (h.own hH ⟨hb3,⟨r0,l0,h0,hch.chg c3 (fun hh=>hh.elim (fun e=>nq _ e rfl) fun e=>hni _ (.inl rfl) e)⟩,hp.hg,hp.qi.chg c3 ?_,hp.qp.chg c3 ?_,ho.chg (Chg.gg hg3) fun k hk e=>?_,fun k hk hk'=>?_,?_⟩ (c3.mono fun k _ hk=>?_) (fun k hk=>?_) rfl) rfl
   ·rintro k hk (e | e)
    ·exact hp.ne k hk e
    ·exact hni k (.inr (.inl hk)) e
   ·rintro k hk (e | e)
    ·exact qsu hp.qd hp.qp (by decide) k e hk
    ·exact hni k (.inr (.inr (.inl hk))) e
   ·rcases hq' k hk with h1 | h1
    ·exact hni k (.inr (.inr (.inr h1))) e
    ·have:=hp.blk.lt;omega
   ·rcases hq' k hk' with h1 | h1
    ·exact hp.ne k hk h1
    ·have:=(hp.qi.lt k hk).2;omega
   ·exact ⟨ok.il,ok.pl,by show (p.data++_).length<=1024;rw [List.length_append];simp;omega,ok.la,ok.pv,ok.pr⟩
   ·rcases hk with hk | hk
    ·exact .inr (.inr (.inr (.inr hk)))
    ·exact .inl hk
   ·rcases hk with hk | hk | hk | hk | hk
    ·exact .inl (.inl hk)
    ·exact .inl (.inr (.inl hk))
    ·exact .inl (.inr (.inr (.inl hk)))
    ·exact .inl (.inr (.inr (.inr (.inl hk))))
    ·rcases hq' k hk with h1 | h1
     ·exact .inl (.inr (.inr (.inr (.inr h1))))
     ·exact .inr h1
  ·have e:b=false:=e;rw [e] at hb;have hb:=oFq hb.symm;rw [if_neg hb] at hok hK;exact hK F S s w (PhT.refl h) rfl
 have hn:F.qd.n=p.data.length:=hp.qd.rd.n;refine cO (fun e=>?_) fun e=>?_
 ·have e:=oTq e;refine cO (fun e2=>?_) fun e2=>?_
  ·have e2:c≠127:=by simpa using e2
   refine lSl (x:=F.qd) (hp.blk.cells 10 _ rfl) (key _ ?_);rw [hn];by_cases hd:p.data.length<1024
   ·rw [dTq (p:=32<=c/\c≠127/\p.data.length<1024) ⟨e,e2,hd⟩,dTq (p:=((p.data.length:Nat):Int)<1024) (by omega)]
   ·rw [dFq (p:=32<=c/\c≠127/\p.data.length<1024) (fun hh=>hd hh.2.2),dFq (p:=((p.data.length:Nat):Int)<1024) (by omega)]
  ·have e2:c=127:=by simpa using e2
   exact key _ (by rw [dFq];rintro ⟨_,h,_⟩;exact h e2)
 ·have e:=oFq e;exact key _ (by rw [dFq];rintro ⟨h,_,_⟩;exact e h)
theorem q7y (hH:HndOk H base fv) (h:PH H w base F p fv S s) (hc:0<=c/\c<128) (hok:qbq H s (p.plain c).2) {K:World->Prop} (hK:∀F' S' s' w',PhT H base w F S F' S' (p.plain c).1 fv s' w'->Runs H s (p.plain c).2 s'->K w'):qib (some ⟨F.pg,0,none⟩) c w K:=by
 refine qus _ _ ?_;unfold qnf;simp only [onPtr_some];unfold PS.plain at hok hK;refine lI (x:=p.st) (h.par.blk.cells 0 _ rfl) ?_;refine cO (fun e=>?_) fun e=>?_
 ·rw [if_pos (eq_of_beq e)] at hok hK;exact qzf hH h hc hok hK
 rw [if_neg (beq_eq_false_iff_ne.1 e)] at hok hK;refine cO (fun e=>?_) fun e2=>?_
 ·rw [if_pos (.inl (eq_of_beq e))] at hok hK;exact q2v hH h hc hok hK
 refine cO (fun e=>?_) fun e3=>?_
 ·rw [if_pos (.inr (eq_of_beq e))] at hok hK;exact q2v hH h hc hok hK
 rw [if_neg (fun hh=>hh.elim (beq_eq_false_iff_ne.1 e2) (beq_eq_false_iff_ne.1 e3))] at hok hK;refine cO (fun e=>?_) fun e=>?_
 ·rw [if_pos (eq_of_beq e)] at hok hK;exact zax hH h hc hok hK
 rw [if_neg (beq_eq_false_iff_ne.1 e)] at hok hK;have nop:(p.st=5\/p.st=6\/p.st=7)->K w:=fun hh=>by
  rw [if_pos hh] at hK;exact hK F S s w (PhT.refl h) rfl
 refine cO (fun e=>nop (.inl (eq_of_beq e))) fun e5=>?_;refine cO (fun e=>nop (.inr (.inl (eq_of_beq e)))) fun e6=>?_;refine cO (fun e=>nop (.inr (.inr (eq_of_beq e)))) fun e7=>?_;rw [if_neg (fun hh=>hh.elim (beq_eq_false_iff_ne.1 e5) fun hh=>hh.elim (beq_eq_false_iff_ne.1 e6) (beq_eq_false_iff_ne.1 e7))] at hok hK;exact q9h hH h hc hok fun S' s' w' hT hr=>hK F S' s' w' hT hr
theorem zeb (hH:HndOk H base fv) (h:PH H w base F p fv S s) (b:Bool) {K:World->Prop} (hK:∀w',PhT H base w F S F S { p with ends:=b } fv s w'->K w'):stK ((⟨F.pg,0,none⟩:Addr).add 1) [.bool b] w K :=
 h.st hH (i:=1) { p with ends:=b } (by decide) rfl rfl rfl rfl ⟨h.par.ok.il,h.par.ok.pl,h.par.ok.dl,h.par.ok.la,h.par.ok.pv,h.par.ok.pr⟩ hK
theorem zb7 (hH:HndOk H base fv) (h:PH H w base F p fv S s) (hc:0<=c/\c<128) (hok:qbq H s (p.ended c).2) {K:World->Prop} (hK:∀F' S' s' w',PhT H base w F S F' S' (p.ended c).1 fv s' w'->Runs H s (p.ended c).2 s'->K w'):qio (some ⟨F.pg,0,none⟩) c w K:=by
 refine quz _ _ ?_;unfold qnc;simp only [onPtr_some];have hdef:p.ended c=(fun p1:PS=>if c=92 then ({ p1 with st:=0 },(if p1.st=4 then [evDt 5 p1.data] else [])++p1.close 1) else if c=27 then (p1.begin_ 1,p1.close 0) else if c=24\/c=26 then ({ p1.begin_ 1 with st:=0 },p1.close 0++[evK 2 c]) else (((p1.begin_ 1).escape c).1,p1.close 0++((p1.begin_ 1).escape c).2)) { p with ends:=false }:=rfl;rw [hdef] at hok hK;refine zeb hH h false fun w1 h1=>?_;obtain ⟨p1,hp1⟩:∃p1:PS,p1={ p with ends:=false }:=⟨_,rfl⟩;rw [<-hp1] at h1 hok hK;dsimp only at hok hK;have est:p.st=p1.st:=by rw [hp1]
 refine cO (fun e=>?_) fun e=>?_
 ·rw [if_pos (eq_of_beq e)] at hok hK;refine jpO fun J1 hJ1=>?_;have key:∀S2 s2 w2,PhT H base w F S F S2 p1 fv s2 w2->Runs H s (if p1.st=4 then [evDt 5 p1.data] else []) s2->J1 () w2:=by
   intro S2 s2 w2 h2 hr2;refine hJ1 _ _ (qtd hH h2.m (by omega) (qbq.right hok hr2) fun S3 s3 w3 h3 hr3=>?_);exact stSt hH h3.m 0 fun w4 h4=>hK F S3 s3 w4 (h2.trans (h3.trans h4)) (Runs.append hr2 hr3)
  refine lI (x:=p1.st) (h1.m.par.blk.cells 0 _ rfl) (cO (fun e=>?_) fun e=>?_)
  ·have e:p1.st=4:=eq_of_beq e;have hok1:=qbq.left hok;rw [if_pos e] at hok1;exact q3a hH h1.m hok1.1 fun S2 s2 w2 h2 hr=>key S2 s2 w2 (h1.trans h2) (by rw [if_pos e];exact ⟨s2,hr,rfl⟩)
  ·have e:¬p1.st=4:=beq_eq_false_iff_ne.1 e;exact key S s w1 h1 (by rw [if_neg e];rfl)
 ·rw [if_neg (beq_eq_false_iff_ne.1 e)] at hok hK;have okc:qbq H s (p1.close 0):=by
   revert hok;split
   ·exact id
   ·split
    ·exact qbq.left
    ·exact qbq.left
  refine qtd hH h1.m (by omega) okc fun S2 s2 w2 h2 hr2=>?_;refine qox hH h2.m 1 fun F3 w3 h3=>?_;have h03:=h1.trans (h2.trans h3);have epg:=h3.pg;rw [<-epg];refine jpO fun J2 hJ2=>?_;have key:(c=24\/c=26)->c≠27->J2 () w3:=by
   intro hh h27;rw [if_neg h27,if_pos hh] at hok hK;refine hJ2 _ _ (stSt hH h03.m 0 fun w4 h4=>?_);refine tell0 hH h4.m 2 0 c (by omega) (qbq.right hok hr2).1 fun S5 s5 w5 h5 hr5=>hK F3 S5 s5 w5 (h03.trans (h4.trans h5)) (Runs.append hr2 ⟨s5,hr5,rfl⟩)
  refine cO (fun e=>?_) fun e27=>?_
  ·rw [if_pos (eq_of_beq e)] at hok hK;exact hK F3 S2 s2 w3 h03 hr2
  have e27:¬c=27:=beq_eq_false_iff_ne.1 e27;refine cO (fun e=>key (.inl (eq_of_beq e)) e27) fun e24=>cO (fun e=>key (.inr (eq_of_beq e)) e27) fun e26=>?_;have n2:¬(c=24\/c=26):=fun hh=>hh.elim (beq_eq_false_iff_ne.1 e24) (beq_eq_false_iff_ne.1 e26);rw [if_neg e27,if_neg n2] at hok hK;exact qzf hH h03.m hc (qbq.right hok hr2) fun F4 S4 s4 w4 h4 hr4=>hK F4 S4 s4 w4 (h03.trans h4) (Runs.append hr2 hr4)
theorem q9b (hH:HndOk H base fv) (h:PH H w base F p fv S s) (hc:0<=c/\c<128) (hok:qbq H s (p.step c).2) {K:World->Prop} (hK:∀F' S' s' w',PhT H base w F S F' S' (p.step c).1 fv s' w'->Runs H s (p.step c).2 s'->K w'):qi9 (some ⟨F.pg,0,none⟩) c w K:=by
 refine qwe _ _ ?_;unfold qop;simp only [onPtr_some];unfold PS.step at hok hK;refine jpO fun J1 hJ1=>?_;refine qhx (x:=p.ends) (h.par.blk.cells 1 _ rfl) ?_;cases hen:p.ends
 ·rw [if_neg (by rw [hen];decide)] at hok hK;refine cF rfl ?_;refine jpO fun J3 hJ3=>?_;have key:∀b:Bool,b=decide (c≠24/\c≠26/\c≠27)->J3 (b,()) w:=by
   intro b hb;refine hJ3 _ _ (cO (fun e=>?_) fun e=>?_)
   ·have e:b=true:=e;rw [e] at hb;rw [if_pos (oTq hb.symm)] at hok hK;exact q7y hH h hc hok hK
   ·have e:b=false:=e;rw [e] at hb;rw [if_neg (oFq hb.symm)] at hok hK;refine hJ1 _ _ (jpO fun J2 hJ2=>?_);have key2:∀w1,PhT H base w F S F S p fv s w1->J2 () w1:=by
     intro w1 h1;refine hJ2 _ _ (cO (fun e=>?_) fun e=>?_)
     ·have e:c≠27:=by simpa using e
      rw [if_pos e] at hok hK;refine qtd hH h1.m (by omega) (qbq.left hok) fun S2 s2 w2 h2 hr2=>?_;refine stSt hH h2.m 0 fun w3 h3=>?_;exact tell0 hH h3.m 2 0 c (by omega) (qbq.right hok hr2).1 fun S4 s4 w4 h4 hr4=>hK F S4 s4 w4 (h1.trans (h2.trans (h3.trans h4))) (Runs.append hr2 ⟨s4,hr4,rfl⟩)
     ·have e:¬c≠27:=by simpa using e
      rw [if_neg e] at hok hK;refine lI (x:=p.st) (h1.m.par.blk.cells 0 _ rfl) (cO (fun e=>?_) fun e=>?_)
      ·rw [if_pos (oTq e)] at hok hK;exact zeb hH h1.m true fun w2 h2=>hK F S s w2 (h1.trans h2) rfl
      ·rw [if_neg (oFq e)] at hok hK;exact qox hH h1.m 1 fun F2 w2 h2=>hK F2 S s w2 (h1.trans h2) rfl
    refine lI (x:=p.st) (h.par.blk.cells 0 _ rfl) (cO (fun e=>?_) fun e=>?_)
    ·exact h.ldCh (qxx hH h fun w1 h1=>qyq (key2 w1 h1))
    ·exact key2 w (PhT.refl h)
  refine cO (fun e=>?_) fun e=>?_
  ·have e:c≠24:=by simpa using e
   refine cO (fun e2=>?_) fun e2=>?_
   ·have e2:c≠26:=by simpa using e2
    refine key _ ?_;by_cases h27:c=27
    ·rw [h27];decide
    ·rw [dTq ⟨e,e2,h27⟩];simpa using h27
   ·have e2:c=26:=by simpa using e2
    exact key _ (by rw [e2];decide)
  ·have e:c=24:=by simpa using e
   exact key _ (by rw [e];decide)
 ·rw [if_pos hen] at hok hK;exact cT rfl (zb7 hH h hc hok hK)
end
theorem zd6 {α:Type} {f:α->Bool}:∀{l:List α},(∀x∈l,f x=true)->(l.takeWhile f).length=l.length
 | [],_=>rfl
 | a::l,h=>by
  rw [List.takeWhile_cons_of_pos (h a List.mem_cons_self),length_cons,length_cons,zd6 fun x hx=>h x (List.mem_cons_of_mem _ hx)]
theorem tw_at {α:Type} {f:α->Bool}:∀{l:List α} {m:Nat} {x:α},(∀y∈l.take m,f y=true)->l[m]?=some x->f x=false->(l.takeWhile f).length=m
 | [],m,x,_,h,_=>by cases h
 | a::l,0,x,_,h,hf=>by
  have h:a=x:=Option.some.inj h;rw [List.takeWhile_cons_of_neg (by rw [h,hf];decide)];rfl
 | a::l,m+1,x,ha,h,hf=>by
  rw [List.takeWhile_cons_of_pos (ha a (by simp)),length_cons,tw_at (l:=l) (m:=m) (fun y hy=>ha y (by rw [List.take_succ_cons];exact List.mem_cons_of_mem _ hy)) h hf]
namespace PS
theorem runN_le (p:PS) (bs:List UInt8):p.runN bs<=bs.length:=by
 unfold runN;split
 ·exact zero_le _
 ·exact (List.takeWhile_sublist _).length_le
theorem q1k:∀(f:Nat) (p:PS) (bs:List UInt8),bs.length<=f->each (f+1) p bs=each f p bs
 | 0,p,bs,h=>by
  rw [List.eq_nil_of_length_eq_zero (by omega:bs.length=0)];rfl
 | f+1,p,[],h=>rfl
 | f+1,p,b::bs,h=>by
  have hl:bs.length<=f:=by simp at h;omega
  show (if 0<p.runN (b::bs) then _ else _)=(if 0<p.runN (b::bs) then _ else _);split
  ·rename_i hr;have hd:((b::bs).drop (p.runN (b::bs))).length<=f:=by rw [List.length_drop,length_cons];omega
   rw [q1k f p _ hd]
  ·dsimp only;rw [q1k f _ bs hl]
theorem zbo {f:Nat} {p:PS} {bs:List UInt8} (h:bs.length<=f):each f p bs=p.eachB bs:=by
 induction f with
 | zero=>rw [List.eq_nil_of_length_eq_zero (by omega:bs.length=0)];rfl
 | succ f ih =>
  by_cases hf:bs.length=f+1
  ·unfold eachB;rw [hf]
  ·rw [q1k f p bs (by omega),ih (by omega)]
theorem eachB_run {p:PS} {b:UInt8} {bs:List UInt8} (h:0<p.runN (b::bs)):p.eachB (b::bs)=((p.eachB ((b::bs).drop (p.runN (b::bs)))).1,evDt (if p.st=6 then 10 else 7) ((b::bs).take (p.runN (b::bs)))::(p.eachB ((b::bs).drop (p.runN (b::bs)))).2):=by
 have hd:((b::bs).drop (p.runN (b::bs))).length<=bs.length:=by rw [List.length_drop,length_cons];omega
 rw [<-zbo hd];show (if 0<p.runN (b::bs) then _ else _)=_;rw [if_pos h]
theorem eachB_step {p:PS} {b:UInt8} {bs:List UInt8} (h:¬0<p.runN (b::bs)):p.eachB (b::bs)=(((p.step b.toNat).1.eachB bs).1,(p.step b.toNat).2++((p.step b.toNat).1.eachB bs).2):=by
 rw [<-zbo (le_refl bs.length)];show (if 0<p.runN (b::bs) then _ else _)=_;rw [if_neg h]
end PS
section
variable {σ:Type} {H:Hnd σ} {w w':World} {base:Nat} {F F':PF} {p p':PS} {fv:Value} {S S':Nat->Prop} {s s':σ} {c:Int}
theorem zb5 {x:UInt8} {K:Bool->World->Prop} (hK:K (qw8 x.toNat) w):qnw (x.toNat:Int) w K:=by
 refine qu7 _ ?_;unfold qm3;unfold qw8 at hK;refine cO (fun e=>?_) fun e=>?_
 ·rw [e,Bool.true_or] at hK;exact hK
 rw [e,Bool.false_or] at hK;refine cO (fun e=>?_) fun e=>?_
 ·rw [e,Bool.true_or] at hK;exact hK
 rw [e,Bool.false_or] at hK;refine cO (fun e=>?_) fun e=>?_
 ·rw [e,Bool.true_or] at hK;exact hK
 rw [e,Bool.false_or] at hK;exact hK
theorem zc1 (hH:HndOk H base fv) (h:PH H w base F p fv S s) {q:Slc} {bs:List UInt8} (hq:Rd qal w q bs) (hl:bs.length<=1000000) (hok:0<p.runN bs->H.ok s (evDt (if p.st=6 then 10 else 7) (bs.take (p.runN bs)))) {K:Int->World->Prop}
  (h0:p.runN bs=0->K 0 w) (h1:0<p.runN bs->∀S' s' w',PhT H base w F S F S' p fv s' w'->H.R s (evDt (if p.st=6 then 10 else 7) (bs.take (p.runN bs))) s'->K (p.runN bs:Nat) w'):qkf (some ⟨F.pg,0,none⟩) q w K:=by
 refine qw1 _ _ ?_;unfold qpb;simp only [onPtr_some];refine jpO fun J1 hJ1=>?_;have off:(p.ends=true\/p.st≠5/\p.st≠6)->K 0 w:=fun hh=>h0 (by unfold PS.runN;rw [if_pos hh]);have key:¬(p.ends=true\/p.st≠5/\p.st≠6)->J1 () w:=by
  intro hh;have en:p.runN bs=(bs.takeWhile fun b=>!qw8 b.toNat).length:=by unfold PS.runN;rw [if_neg hh]
  refine hJ1 _ _ ?_;have tail:∀n:Nat,n=p.runN bs->n<=bs.length->joinP (σ:=Int×Unit) (fun s_1 w3=>cond (decide (s_1.1>(0:Int))) (slK q none (some s_1.1) 1 fun t35=>qdg (some ⟨F.pg,0,none⟩) t35 w3 fun w4=>K s_1.1 w4) (K s_1.1 w3)) fun J2=>J2 ((n:Int),()) w:=by
   intro n hn hnl;refine jpO fun J2 hJ2=>hJ2 _ _ ?_;by_cases hp:0<n
   ·refine cT (dTq (by show (n:Int)>0;omega)) ?_;refine hq.slK (l:=0) (m:=n) rfl (.inl ⟨rfl,rfl⟩) (.inr rfl) (zero_le _) hnl fun hr=>?_;rw [List.drop_zero] at hr;subst hn;exact ze9 hH h hr (by rw [List.length_take];omega) (hok hp) fun S' s' w' hT hR=>h1 hp S' s' w' hT hR
   ·refine cF (dFq (by show ¬(n:Int)>0;omega)) ?_;have:n=0:=by omega
    subst this;exact h0 hn.symm
  refine qnt _ _ ?_;unfold qhd;rw [hq.n];refine lpR (fun (st:Int×Unit) w1=>w1=w/\∃i:Nat,st.1=i/\i<=bs.length/\∀y∈bs.take i,(!qw8 y.toNat)=true) (fun st=>bs.length-st.1.toNat) ⟨rfl,0,rfl,by omega,fun y hy=>by cases hy⟩ ?_;rintro ⟨i,u⟩ w1 ⟨rfl,m,hi,hm,hno⟩ I hI;dsimp only at hi ⊢;subst hi;by_cases hlt:m<bs.length
  ·refine cT (dTq (by omega)) ?_;obtain ⟨x,hx,hxs⟩:=get_of (xs:=bs) (k:=m) hlt;refine hq.ix (i:=(m:Int)) (k:=1) rfl (by omega) (by omega) fun hcell=>?_;rw [hxs] at hcell;refine ldB8 (b:=x) hcell (qcm (by kernel_rfl) ?_);refine Calls.mono (zb5 (x:=x) (K:=fun t16 w2=>cond t16 (joinP (σ:=Int×Unit) (fun s_1 w3=>cond (decide (s_1.1>(0:Int))) (slK q none (some s_1.1) 1 fun t35=>qdg (some ⟨F.pg,0,none⟩) t35 w3 fun w4=>K s_1.1 w4) (K s_1.1 w3)) fun J2=>cond (decide ((m:Int)<(0:Int))) (J2 (((bs.length:Nat):Int),()) w2) (J2 ((m:Int),()) w2)) (I ((i64.wrap ((m:Int)+(1:Int))),()) w2)) ?_) ?_
   ·cases hxl:qw8 x.toNat with
    | true =>
     refine cT rfl ?_;rw [dFq (by omega)];exact tail m (by rw [en];exact (tw_at hno hx (by rw [hxl];rfl)).symm) hm
    | false =>
     refine cF rfl ?_;rw [w64i (by omega)];refine hI _ _ ⟨rfl,m+1,rfl,by omega,?_⟩ (by simp;omega);intro y hy;rw [List.take_add_one,hx] at hy;rcases List.mem_append.1 hy with h2 | h2
     ·exact hno y h2
     ·have h2:y=x:=by simpa using h2
      rw [h2,hxl];rfl
   ·rintro e w' ⟨r,rfl,hk⟩;exact ⟨r,rfl,hk⟩
  ·refine cF (dFq (by omega)) ?_;obtain rfl:m=bs.length:=by omega
   rw [List.take_length] at hno;show joinP _ (fun J2=>cond (decide ((-1:Int)<0)) _ _);rw [show decide ((-1:Int)<0)=true from rfl];exact tail bs.length (by rw [en];exact (zd6 hno).symm) (le_refl _)
 refine qhx (x:=p.ends) (h.par.blk.cells 1 _ rfl) (cO (fun e=>off (.inl e)) fun e=>?_);have e:p.ends=false:=e;refine lI (x:=p.st) (h.par.blk.cells 0 _ rfl) (cO (fun e5=>?_) fun e5=>?_)
 ·have e5:p.st≠5:=by simpa using e5
  refine lI (x:=p.st) (h.par.blk.cells 0 _ rfl) (cO (fun e6=>?_) fun e6=>?_)
  ·have e6:p.st≠6:=by simpa using e6
   exact off (.inr ⟨e5,e6⟩)
  ·have e6:p.st=6:=by simpa using e6
   exact key (fun hh=>hh.elim (fun h=>by rw [e] at h;cases h) fun h=>h.2 e6)
 ·have e5:p.st=5:=by simpa using e5
  exact key (fun hh=>hh.elim (fun h=>by rw [e] at h;cases h) fun h=>h.1 e5)
def nop1:Value:=.func (.func ql6) #[] #[]
theorem ziy {a:Addr} {v:Value} {w:World} {K:World->Prop} (h1:v.cells.toList=[v]) (h2:oneB v=true) (h:stK a [v] w K):stR a v w K:=by
 unfold stR;have hs:v.cells.size=1:=by rw [<-Array.length_toList,h1];rfl
 rw [hs,h1];show gate true (gate (oneB v && true) _);rw [h2];exact h
theorem ParsM.say (h:ParsM w base F p fv) (v:Value) {K:World->Prop} (hK:∀w',ParsM w' base F p v->Chg (fun k=>k=F.pg) w w'->K w'):stK ((⟨F.pg,0,none⟩:Addr).add 11) [v] w K:=by
 rw [qae];refine qah h.blk (by show 0+11+1<=12;omega) fun w1 hb hg hs=>hK w1 ?_ (Chg.gg hg);have hni:=h.ne_pg;have c1:Chg (fun k=>k=F.pg) w w1:=Chg.gg hg;obtain ⟨r0,l0,h0,hch⟩:=h.ch;exact ⟨hb,⟨r0,l0,h0,hch.chg c1 (hni _ (.inl rfl))⟩,h.hg,h.qi.chg c1 fun k hk=>hni k (.inr (.inl hk)),h.qp.chg c1 fun k hk=>hni k (.inr (.inr (.inl hk))),h.qd.chg c1 fun k hk=>hni k (.inr (.inr (.inr hk))),h.ne,h.ok⟩
theorem zaf {fv0:Value} (hH:HndOk H base fv) (f1:fv.cells.toList=[fv]) (f2:oneB fv=true) (hp:ParsM w base F p fv0) (hm:H.M w S s) (dj:∀k,parS F k->¬S k) {q:Slc} {bs:List UInt8} (hq:Rd qal w q bs) (hl:bs.length<=1000000) (hb:∀b∈bs,b.toNat<128)
  (hqn:∀a,q.a=some a->¬parS F a.block/\¬S a.block/\a.block<w.heap.size) (hok:qbq H s (p.eachB bs).2) {K:World->Prop}
  (hK:∀F' S' s' w',ParsM w' base F' (p.eachB bs).1 nop1->H.M w' S' s'->(∀k,parS F' k->¬S' k)->Runs H s (p.eachB bs).2 s'->(∀k,(parS F' k\/S' k)->(parS F k\/S k)\/w.heap.size<=k)->Chg (fun k=>parS F k\/S k) w w'->F'.pg=F.pg->K w'):qja (some ⟨F.pg,0,none⟩) q fv w K:=by
 refine qvz _ _ _ ?_;unfold qn8;simp only [onPtr_some];refine ziy f1 f2 (hp.say fv fun w1 hp1 hc1=>?_);have hs1:=hc1.size;have cp1:Chg (parS F) w w1:=hc1.mono fun k _ e=>.inl e;have h1:PH H w1 base F p fv S s:=⟨hp1,hH.keep hm cp1 (fun k hk hp=>dj k hp hk) hp.far (fun k hk=>(hp.below k hk).1),dj⟩;have hq1:Rd qal w1 q bs:=hq.chg cp1 fun a ha=>(hqn a ha).1;refine lpR (fun (st:Slc×Unit) w2=>∃(rest:List UInt8) (evs:List EvP) (p2:PS) (F2:PF) (S2:Nat->Prop) (s2:σ),Rd qal w2 st.1 rest/\rest.length<=bs.length/\(∀b∈rest,b.toNat<128)/\(∀a,st.1.a=some a->¬parS F2 a.block/\¬S2 a.block/\a.block<w2.heap.size)/\PhT H base w1 F S F2 S2 p2 fv s2 w2/\Runs H s evs s2/\p.eachB bs=((p2.eachB rest).1,evs++(p2.eachB rest).2))
  (fun st=>st.1.n) ⟨bs,[],p,F,S,s,hq1,le_refl _,hb,(fun a ha=>⟨(hqn a ha).1,(hqn a ha).2.1,by have:=(hqn a ha).2.2;omega⟩),PhT.refl h1,rfl,rfl⟩ ?_
 rintro ⟨q2,u⟩ w2 ⟨rest,evs,p2,F2,S2,s2,hr2,hrl,hrb,hqn2,hT2,hR2,heq⟩ I hI;dsimp only at hr2 hqn2 ⊢;have hn2:=hr2.n;have epg:=hT2.pg;cases rest with
 | nil =>
  refine cF (by rw [hn2];rfl) ?_;rw [<-epg];have hfin:p2.eachB []=(p2,[]):=rfl;rw [hfin,List.append_nil] at heq;refine hT2.m.par.say nop1 fun w3 hp3 hc3=>?_;have cp3:Chg (parS F2) w2 w3:=hc3.mono fun k _ e=>.inl e;rw [heq] at hK;have z2:=hT2.chg.size;refine hK F2 S2 s2 w3 hp3 (hH.keep hT2.m.m cp3 (fun k hk hp=>hT2.m.dj k hp hk) hT2.m.par.far (fun k hk=>(hT2.m.par.below k hk).1)) hT2.m.dj hR2 (fun k hk=>?_) ?_ hT2.pg
  ·rcases hT2.old k hk with h3 | h3
   ·exact .inl h3
   ·right;omega
  ·refine ((cp1.mono fun k _ hk=>.inl hk).trans hT2.chg fun i _ hi=>hi).trans cp3 fun i hi hk=>?_;rcases hT2.old i (.inl hk) with h3 | h3
   ·exact h3
   ·have hlt:=(h1.par.below F.pg (.inl rfl)).2;exfalso;omega
 | cons b rest =>
  refine cT (by rw [hn2];simp<;>omega) ?_;rw [<-epg];rw [heq] at hok;have hok2:=qbq.right hok hR2;refine zc1 hH hT2.m hr2 (by omega) (fun hpos=>?_) (fun hz=>?_) fun hpos S3 s3 w3 hT3 hR3=>?_
  ·rw [PS.eachB_run hpos] at hok2;exact hok2.1
  ·
   have hz:¬0<p2.runN (b::rest):=by omega
   refine cF rfl ?_;refine hr2.ix (i:=0) (k:=1) rfl (by decide) (by simp) fun hc=>?_;have hc:qai w2 (q2.at_ qal.k 0) [.int .u8 (b.toNat:Int)]:=hc;refine ldB8 (b:=b) hc ?_;rw [PS.eachB_step hz] at heq hok2;refine q9b hH hT2.m ⟨by omega,by have:=hrb b List.mem_cons_self;omega⟩ (qbq.left hok2) fun F3 S3 s3 w3 hT3 hR3=>?_;have hr3:Rd qal w3 q2 (b::rest):=hr2.chg hT3.chg fun a ha hh=>hh.elim (hqn2 a ha).1 (hqn2 a ha).2.1;refine hr3.slK (l:=1) (m:=(b::rest).length) rfl (.inr rfl) (.inl ⟨rfl,rfl⟩) (by simp) (le_refl _) fun hr4=>?_;rw [List.take_length,List.drop_succ_cons,List.drop_zero] at hr4;have z3:=hT3.chg.size;refine hI _ _ ⟨rest,evs++(p2.step b.toNat).2,(p2.step b.toNat).1,F3,S3,s3,hr4,by simp at hrl;omega,(fun y hy=>hrb y (List.mem_cons_of_mem _ hy)),(fun a ha=>?_),hT2.trans hT3,Runs.append hR2 hR3,by rw [heq,List.append_assoc]⟩ ?_
   ·obtain ⟨a0,ha0,e⟩:=qh4 ha;obtain ⟨n1,n2,n3⟩:=hqn2 a0 ha0;rw [e];refine ⟨fun hh=>?_,fun hh=>?_,by omega⟩
    ·rcases hT3.old _ (.inl hh) with (h5 | h5) | h5
     ·exact n1 h5
     ·exact n2 h5
     ·omega
    ·rcases hT3.old _ (.inr hh) with (h5 | h5) | h5
     ·exact n1 h5
     ·exact n2 h5
     ·omega
   ·have:=hr4.n;show (b::rest).length-1<q2.n;rw [hn2];simp
  ·
   refine cT (dTq (by show ((p2.runN (b::rest):Nat):Int)>0;omega)) ?_;have hle:=PS.runN_le p2 (b::rest);have hr3:Rd qal w3 q2 (b::rest):=hr2.chg hT3.chg fun a ha hh=>hh.elim (hqn2 a ha).1 (hqn2 a ha).2.1;refine hr3.slK (l:=p2.runN (b::rest)) (m:=(b::rest).length) rfl (.inr rfl) (.inl ⟨rfl,rfl⟩) hle (le_refl _) fun hr4=>?_;rw [List.take_length] at hr4;have z3:=hT3.chg.size;refine hI _ _ ⟨(b::rest).drop (p2.runN (b::rest)),evs++[evDt (if p2.st=6 then 10 else 7) ((b::rest).take (p2.runN (b::rest)))],p2,F2,S3,s3,hr4,by rw [List.length_drop];omega,(fun y hy=>hrb y (List.mem_of_mem_drop hy)),(fun a ha=>?_),hT2.trans hT3,Runs.append hR2 ⟨s3,hR3,rfl⟩,by rw [heq,PS.eachB_run hpos,List.append_assoc];rfl⟩ ?_
   ·obtain ⟨a0,ha0,e⟩:=qh4 ha;obtain ⟨n1,n2,n3⟩:=hqn2 a0 ha0;rw [e];refine ⟨fun hh=>?_,fun hh=>?_,by omega⟩
    ·rcases hT3.old _ (.inl hh) with (h5 | h5) | h5
     ·exact n1 h5
     ·exact n2 h5
     ·omega
    ·rcases hT3.old _ (.inr hh) with (h5 | h5) | h5
     ·exact n1 h5
     ·exact n2 h5
     ·omega
   ·show (b::rest).length-p2.runN (b::rest)<q2.n;rw [hn2];omega
end
abbrev Cell:=qax
abbrev Attr:=qac
instance:Inhabited qac:=⟨⟨0,0,0⟩⟩
instance:Inhabited qax:=⟨⟨0,0,⟨0,0,0⟩⟩⟩
def cellE:El qax where
 cells:=qax.rep.cells
 t:=qao
 k:=5
 pos:=by decide
 len _:=rfl
 one x v hv:=by
  simp only [qax.rep,List.mem_cons,List.mem_nil_iff,or_false] at hv;rcases hv with rfl | rfl | rfl | rfl | rfl<;>rfl
noncomputable def slT25:SlT PG cellE qa8 where
 ht:=by kernel_rfl
 i:=(PG.info? qao).getD default
 hi:=by kernel_rfl
 z:=.agg #[.int .i32 0,.int .i64 0,.int .i64 0,.int .i64 0,.int .i64 0]
 hz:=by kernel_rfl
 hs:=by kernel_rfl
 hzs:=rfl
theorem by25:slT25.i.bytes=40:=by kernel_rfl
def qoc (xs:List Cell) (i:Int):Int:=if 0<=i then ((xs[i.toNat]?).map (·.Kind)).getD (-1) else -1
def isB (xs:List Cell) (col kind:Int):Bool:=decide (0<=col) && decide (col<xs.length) && (qoc xs col==kind)
def fitsB (xs:List Cell) (i:Int):Bool :=
 if qoc xs i=0 then true else if qoc xs i=1 then isB xs (i+1) 2 else if qoc xs i=2 then isB xs (i-1) 1 else false
def okB (xs:List Cell) (i:Nat):Bool:=fitsB xs i && !(qoc xs i==2 && ((xs[i]?).map (·.R)).getD 0 !=0)
def qfr (xs:List Cell):Bool:=(List.range xs.length).all (okB xs)
def qb8 (a:Attr):Cell:=⟨0,0,a⟩
def mendC (xs:List Cell) (i:Nat) (c:Cell):Cell :=
 if c.Kind≠0/\c.Kind≠1/\c.Kind≠2 then { c with Kind:=0 } else if fitsB xs i=false then qb8 c.A else if c.Kind=2 then { c with R:=0 } else c
def mendL (xs:List Cell):List Cell:=xs.mapIdx (mendC xs)
theorem qbg (xs:List Cell):(mendL xs).length=xs.length:=by simp [mendL]
theorem qni (xs:List Cell) (i:Nat) (x:Cell) (h:xs[i]?=some x):(mendL xs)[i]?=some (mendC xs i x):=by simp [mendL,h]
theorem qsy {xs:List Cell} {i:Nat} {x:Cell} (h:xs[i]?=some x):qoc xs i=x.Kind:=by simp [qoc,h]
theorem q4q {xs:List Cell} {i:Int} (h0:0<=i) (h1:i<xs.length):qoc xs i=(xs[i.toNat]'(by omega)).Kind:=by
 have:i.toNat<xs.length:=by omega
 simp [qoc,h0,this]
theorem q6m {w:World} {a:Addr} {c:Cell} (h:qai w a (cellE.cells c)):w.cell? (a.add 1)=some (.int .i64 c.Kind):=h 1 _ rfl
theorem zdz {w:World} {a:Addr} {c:Cell} (h:qai w a (cellE.cells c)):qai w (a.add 2) (qac.rep.cells c.A) :=
 h.sub 2 fun j v hj=>by
  match j,hj with
  | 0,hj=>exact hj
  | 1,hj=>exact hj
  | 2,hj=>exact hj
  | j+3,hj=>cases hj
theorem zdi {w:World} {s:Slc} {xs:List Cell} (h:Rd cellE w s xs):xs.length<=9223372036854775807:=by
 have h1:=h.n;have h2:=h.nc;have h3:=h.cm;unfold maxLen at h3;rw [h1] at h2;omega
theorem q59 {l:Slc} {xs:List Cell} {col kind:Int} {w:World} {K:Bool->World->Prop} (h:Rd cellE w l xs) (hK:K (isB xs col kind) w):qkw l col kind w K:=by
 refine q1t _ _ _ ?_;unfold qvi;refine cO (fun h1=>?_) (fun h1=>?_)
 ·have h1:=oTq h1;refine cO (fun h2=>?_) (fun h2=>?_)
  ·have h2:=oTq h2;rw [h.n] at h2;refine h.ix rfl h1 h2 fun hc=>lI (q6m hc) ?_;have e:isB xs col kind=(xs[col.toNat].Kind==kind):=by
    unfold isB;rw [dTq (show 0<=col from h1),dTq h2,q4q h1 h2];rfl
   rw [<-e];exact hK
  ·have h2:=oFq h2;rw [h.n] at h2;have e:isB xs col kind=false:=by
    unfold isB;rw [dFq h2];simp
   rw [<-e];exact hK
 ·have h1:=oFq h1;have e:isB xs col kind=false:=by simp only [isB,dFq (show ¬0<=col from h1),Bool.false_and]
  rw [<-e];exact hK
theorem q6z {l:Slc} {xs:List Cell} {col:Int} {w:World} {K:Bool->World->Prop} (h:Rd cellE w l xs) (h0:0<=col) (h1:col<xs.length) (hK:K (fitsB xs col) w):qfv l col w K:=by
 have hm:=zdi h;refine qzq _ _ ?_;unfold qr8;refine h.ix rfl h0 h1 fun hc=>lI (q6m hc) ?_;rw [<-q4q h0 h1];rw [w64i (show -9223372036854775808<=col+1/\col+1<=9223372036854775807 by omega),w64i (show -9223372036854775808<=col-1/\col-1<=9223372036854775807 by omega)];unfold fitsB at hK;refine cO (fun e=>?_) (fun e=>?_)
 ·rw [if_pos (eq_of_beq e)] at hK;exact hK
 ·have e:=beq_eq_false_iff_ne.1 e;rw [if_neg e] at hK;refine cO (fun e=>?_) (fun e=>?_)
  ·rw [if_pos (eq_of_beq e)] at hK;exact q59 h hK
  ·have e:=beq_eq_false_iff_ne.1 e;rw [if_neg e] at hK;refine cO (fun e=>?_) (fun e=>?_)
   ·rw [if_pos (eq_of_beq e)] at hK;exact q59 h hK
   ·have e:=beq_eq_false_iff_ne.1 e;rw [if_neg e] at hK;exact hK
theorem qp7 {n:Int} {a:Attr} {w:World} {K:Slc->World->Prop} (hn:n<=1000000)
  (hK:∀r w',Go.Vc.Own cellE w' w.heap.size r (List.replicate n.toNat (qb8 a))->Below w.heap.size w w'->K r w'):qgj n a w K:=by
 refine q3w _ _ ?_;unfold qxs;refine nwb fun w1 hb1 hB1 hs1=>?_;refine lpR (fun (s:Slc×Int×Unit) w2=>∃k:Nat,s.2.1=k/\(k:Int)<=max n 0/\Go.Vc.Own cellE w2 w.heap.size s.1 (List.replicate k (qb8 a))/\Blk w2 w.heap.size qa4 (qac.rep.cells a)/\Below w.heap.size w w2/\w.heap.size<w2.heap.size/\(∀g,s.1.blk=some g->w.heap.size<g))
  (fun s=>(n-s.2.1).toNat) ⟨0,rfl,by omega,Go.Vc.Own.nil _ _ _,hb1,hB1,by omega,fun g hg=>by cases hg⟩ ?_
 rintro ⟨s,i,_⟩ w2 ⟨k,rfl,hk,ho,hb,hB,hlt,hne⟩ I hI;dsimp only at *;refine cO (fun h=>?_) (fun h=>?_)
 ·have h:=oTq h;refine qaq hb.cells ?_;refine nwb fun w3 hb3 hB3 hs3=>?_;have hd:Rd cellE w3 ⟨some ⟨w2.heap.size,0,none⟩,1,1⟩ [qb8 a]:=qkj (E:=cellE) hb3 rfl;refine qde slT25 (ho.ext hB3) hd (by omega) (by rw [by25];simp;omega) (by simp [maxLen];omega) fun r w4 ho4 hg4 hr4=>?_;rw [w64i (by omega)];have hB4:Below w.heap.size w w4:=(hB.trans (hB3.mono (by omega))).grown hg4 (by omega) fun g hg=>by
   exact ((ho.lt g hg).1)
  refine hI (r,(k:Int)+1,()) w4 ⟨k+1,by simp,by omega,?_,?_,hB4,?_,?_⟩ (by simp;omega)
  ·rw [List.replicate_succ'];exact ho4
  ·refine (hb.ext hB3).grown hg4 fun e=>?_;have:=hne _ e.symm;omega
  ·have:=hg4.size;omega
  ·intro g hg;rcases hr4 with e | e
   ·rw [e] at hg;exact hne g hg
   ·rw [e] at hg;cases hg;omega
 ·have h:=oFq h;refine hK s w2 ?_ hB;have:n.toNat=k:=by omega
  rw [this];exact ho
def newL (cols:Int) (a:Attr):List Cell:=if cols<0\/cols>1000 then [] else List.replicate cols.toNat (qb8 a)
theorem q31 {n:Int} {a:Attr} {w:World} {K:Slc->World->Prop}
  (hK:∀r w',Go.Vc.Own cellE w' w.heap.size r (newL n a)->Below w.heap.size w w'->K r w'):qsi n a w K:=by
 refine q7i _ _ ?_;unfold q2f;refine nwb fun w1 hb1 hB1 hs1=>?_;refine jpO fun J hJ=>?_;have nilc:(n<0\/n>1000)->K ⟨none,0,0⟩ w1:=fun h=>hK _ _ (by rw [newL,if_pos h];exact Go.Vc.Own.nil _ _ _) hB1;refine cO (fun h=>nilc (.inl (oTq h))) (fun h=>?_);refine cO (fun h=>nilc (.inr (oTq h))) (fun h'=>?_);have h:=oFq h;have h':=oFq h';refine hJ _ _ (qaq hb1.cells (qp7 (by omega) fun r w' ho hB=>hK r w' ?_ (hB1.trans (hB.mono (by omega)))));rw [newL,if_neg (by omega)];exact ho.base (by omega)
theorem qn2 {s:Slc} {xs:List Cell} {w:World} {K:Slc->World->Prop} (h:Rd cellE w s xs) (hl:xs.length<=1000000)
  (hK:∀r w',Go.Vc.Own cellE w' w.heap.size r xs->Below w.heap.size w w'->K r w'):qbv s w K:=by
 refine qka _ ?_;unfold qey;refine cO (fun e=>?_) (fun e=>?_)
 ·have:s.a=none:=by cases ha:s.a with
   | none=>rfl
   | some a=>rw [ha] at e;cases e
  rw [h.none_nil this] at hK;exact hK _ _ (Go.Vc.Own.nil _ _ _) (Below.refl _ _)
 ·refine nwb fun w1 hb1 hB1 hs1=>?_;refine qde slT25 (qvm (E:=cellE) hb1 (le_refl _)) (h.ext hB1) (by omega) (by rw [by25];simp;omega) (by simp [maxLen];omega) fun r w2 ho2 hg2 hr2=>?_;exact hK r w2 (by simpa using ho2) (hB1.grown hg2 (by omega) fun g hg=>by cases hg;exact le_refl _)
theorem qgy {l:Slc} {xs:List Cell} {w:World} {K:Slc->World->Prop} (h:Rd cellE w l xs) (hl:xs.length<=1000000)
  (hK:∀r w',Go.Vc.Own cellE w' w.heap.size r (mendL xs)->Below w.heap.size w w'->K r w'):qb0 l w K:=by
 refine qz1 _ ?_;unfold qsa;refine qn2 h hl fun r w1 ho1 hB1=>?_;refine lpR (fun (s:Int×Unit) w2=>∃k:Nat,s.1=k/\k<=xs.length/\Go.Vc.Own cellE w2 w.heap.size r (mix (mendL xs) xs k)/\Below w.heap.size w w2)
  (fun s=>xs.length-s.1.toNat) ⟨0,rfl,by omega,by rw [q7r];exact ho1,hB1⟩ ?_
 rintro ⟨i,_⟩ w2 ⟨k,rfl,hk,ho,hB⟩ I hI;dsimp only at *;have hml:=qbg xs;refine cO (fun hlt=>?_) (fun hge=>?_)
 ·have hlt:=oTq hlt;rw [h.n] at hlt;have hkl:k<xs.length:=by omega
  obtain ⟨x,hx⟩:∃x,xs[k]?=some x:=⟨xs[k],List.getElem?_eq_getElem hkl⟩;have hxs:xs[((k:Int)).toNat]'(by omega)=x:=by
   have:=List.getElem?_eq_getElem hkl;rw [hx] at this;exact (Option.some.inj this).symm
  have hm:=qni xs k x hx;have hcur:(mix (mendL xs) xs k)[k]?=some x:=by rw [q5t hml hkl,if_neg (by omega)];exact hx
  rw [w64i (by omega)];have hr0:r.n=xs.length:=by have:=ho.rd.n;rwa [qob hml] at this
  have fin:∀w',Go.Vc.Own cellE w' w.heap.size r (mix (mendL xs) xs (k+1))->Below w.heap.size w w'->I ((k:Int)+1,()) w':=fun w' ho' hB' =>
   hI _ _ ⟨k+1,by simp,by omega,ho',hB'⟩ (by simp;omega)
  have hrd:Rd cellE w2 l xs:=h.ext hB;refine hrd.ix rfl (by omega) (by omega) fun hc=>?_;rw [hxs] at hc;refine qaq (x:=x) hc ?_;refine qt1 rfl fun w4 hb4 hB4 hs4=>?_;have ho4:=ho.ext hB4;have hB04:Below w.heap.size w w4:=hB.trans (hB4.mono hB.size);have hsz:w.heap.size<=w2.heap.size:=hB.size;have wr:∀(w5:World) (y:Cell) (j:Nat) (us:List Value),Go.Vc.Own cellE w5 w.heap.size r (mix (mendL xs) xs k)->Below w.heap.size w w5->mendC xs k x=y->j+us.length<=5->cellE.cells y=putL (cellE.cells x) j us ->
    ixK r (k:Int) 5 fun t=>stK (t.add j) us w5 fun w6=>I ((k:Int)+1,()) w6:=by
   intro w5 y j us ho5 hB5 hy hj hp;refine ho5.rd.ix (xs:=mix (mendL xs) xs k) rfl (by omega) (by rw [qob hml];omega) fun _=>?_;refine ho5.st (i:=k) (x:=x) (y:=y) (by simpa using hcur) hj hp fun w6 ho6 hg6 hs6=>fin _ ?_ ?_
   ·rw [q1s hml hkl (by rw [hm,hy])] at ho6;exact ho6
   ·exact hB5.grown hg6 hB5.size fun g hg=>(ho5.lt g hg).1
  have wr0:∀(w5:World) (y:Cell) (us:List Value),Go.Vc.Own cellE w5 w.heap.size r (mix (mendL xs) xs k)->Below w.heap.size w w5->mendC xs k x=y->cellE.cells y=us ->
    ixK r (k:Int) 5 fun t=>stK t us w5 fun w6=>I ((k:Int)+1,()) w6:=by
   intro w5 y us ho5 hB5 hy hp;refine ho5.rd.ix (xs:=mix (mendL xs) xs k) rfl (by omega) (by rw [qob hml];omega) fun _=>?_;refine ho5.st0 (i:=k) (x:=x) (y:=y) (by simpa using hcur) hp fun w6 ho6 hg6 hs6=>fin _ ?_ ?_
   ·rw [q1s hml hkl (by rw [hm,hy])] at ho6;exact ho6
   ·exact hB5.grown hg6 hB5.size fun g hg=>(ho5.lt g hg).1
  refine jpO fun J hJ=>?_;have kind4:w4.cell? ((⟨w2.heap.size,0,none⟩:Addr).add 1)=some (.int .i64 x.Kind):=hb4.cells 1 _ rfl;have bad:(x.Kind≠0/\x.Kind≠1/\x.Kind≠2)->J (true,()) w4:=fun hb=>hJ _ _ (by
   dsimp only [cond_true];exact wr w4 { x with Kind:=0 } 1 _ ho4 hB04 (by rw [mendC,if_pos hb]) (by simp) rfl)
  have good:¬(x.Kind≠0/\x.Kind≠1/\x.Kind≠2)->J (false,()) w4:=fun hg=>hJ _ _ (by
   dsimp only [cond_false];refine q6z (h.ext hB04) (by omega) (by omega) ?_;refine cO (fun hf=>?_) (fun hf=>?_)
   ·have hf:fitsB xs k=false:=by simpa using hf
    refine qaq (x:=x.A) (zdz hb4.cells) ?_;exact wr0 w4 (qb8 x.A) _ ho4 hB04 (by rw [mendC,if_neg hg,if_pos hf]) rfl
   ·have hf:¬fitsB xs k=false:=by simpa using hf
    refine lI kind4 ?_;refine cO (fun h2=>?_) (fun h2=>?_)
    ·have h2:=eq_of_beq h2;exact wr w4 { x with R:=0 } 0 _ ho4 hB04 (by rw [mendC,if_neg hg,if_neg hf,if_pos h2]) (by simp) rfl
    ·have h2:=beq_eq_false_iff_ne.1 h2;have hy:mendC xs k x=x:=by rw [mendC,if_neg hg,if_neg hf,if_neg h2]
     refine fin _ ?_ hB04;rw [<-zg8 hml hkl (by rw [hm,hx,hy])];exact ho4)
  refine lI kind4 ?_;refine cO (fun h0=>?_) (fun h0=>?_)
  ·have h0:x.Kind≠0:=by simpa using h0
   refine lI kind4 ?_;refine cO (fun h1=>?_) (fun h1=>?_)
   ·have h1:x.Kind≠1:=by simpa using h1
    refine lI kind4 ?_;by_cases h2:x.Kind=2
    ·rw [show (x.Kind !=2)=false by simp [h2]];exact good fun hb=>hb.2.2 h2
    ·rw [show (x.Kind !=2)=true by simpa using h2];exact bad ⟨h0,h1,h2⟩
   ·have h1:x.Kind=1:=by simpa using h1
    exact good fun hb=>hb.2.1 h1
  ·have h0:x.Kind=0:=by simpa using h0
   exact good fun hb=>hb.1 h0
 ·have hge:=oFq hge;rw [h.n] at hge;have:k=xs.length:=by omega
  subst this;rw [zbs hml] at ho;exact hK r w2 ho hB
theorem zfq {xs:List Cell} (h:∀i,i<xs.length->okB xs i=true):qfr xs=true:=by
 unfold qfr;rw [List.all_eq_true];exact fun i hi=>h i (List.mem_range.1 hi)
theorem zbb {xs:List Cell} {k:Nat} {x:Cell} (hx:xs[k]?=some x):okB xs k=(fitsB xs k && !(x.Kind==2 && x.R !=0)):=by
 unfold okB;rw [qsy hx,hx];rfl
theorem get_of {xs:List Cell} {k:Nat} (hk:k<xs.length):∃x,xs[k]?=some x/\∀h,xs[((k:Int)).toNat]'h=x :=
 ⟨xs[k],List.getElem?_eq_getElem hk,fun _=>rfl⟩
end Go.Proofs.YtcigiaecigedmaaGreatDoor
