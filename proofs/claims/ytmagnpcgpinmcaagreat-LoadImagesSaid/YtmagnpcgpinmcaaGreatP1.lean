import Derived.Test.YtmagnpcgpinmcaaGreatVc
import Derived.Below
import Derived.Maps.AppendAt
import Derived.Laws.OwnMore
import Derived.IntWalk
import Derived.ProofKit
import Derived.OpenShut
import Derived.ChangeOld
import Derived.ChangeSame
import Derived.Carry
import Derived.Deep.Slices
import Derived.Test.YtmagnpcgpinmcaaGreatDefs
import Derived.DataShut
import Derived.Lay
import Derived.MakeChecks
import Derived.LaidMore
import Derived.Stop.Joined
import Derived.Laws.MakeOwn
import Derived.Test.YtmagnpcgpinmcaaGreatShA
set_option linter.unusedVariables false
namespace Go.Vc
open Go.RowKit
theorem lpR {σ:Type} {body:(σ→World→Prop)→σ→World→Prop} {s0:σ} {w0:World} (Inv:σ→World→Prop) (μ:σ→Nat) (h0:Inv s0 w0)
  (step:∀s w,Inv s w→∀I:σ→World→Prop,(∀s' w',Inv s' w'→μ s'<μ s→I s' w')→body I s w):loopP body s0 w0:=by
 intro I hI
 have key:∀n s w,μ s=n→Inv s w→I s w:=by
  intro n
  induction n using Nat.strongRecOn with
  | _ n ih =>
   intro s w hn hs
   exact hI s w (step s w hs I fun s' w' h' hlt=>ih (μ s') (hn ▸ hlt) s' w' rfl h')
 exact key _ _ _ rfl h0
theorem loopP_rule_w {σ:Type} {body:(σ→World→Prop)→σ→World→Prop} {s0:σ} {w0:World} (Inv:Nat→σ→World→Prop) (n0:Nat) (h0:Inv n0 s0 w0)
  (step:∀n s w,Inv n s w→∀I:σ→World→Prop,(∀n' s' w',Inv n' s' w'→n'<n→I s' w')→body I s w):loopP body s0 w0:=by
 intro I hI
 have key:∀n s w,Inv n s w→I s w:=by
  intro n
  induction n using Nat.strongRecOn with
  | _ n ih=>intro s w hs;exact hI s w (step n s w hs I fun n' s' w' h' hlt=>ih n' hlt s' w' h')
 exact key _ _ _ h0
theorem jpO {σ:Type} {K:σ→World→Prop} {body:(σ→World→Prop)→Prop} (h:∀J:σ→World→Prop,(∀s w,K s w→J s w)→body J):joinP K body:=h
theorem cO {b:Bool} {X Y:Prop} (h1:b=true→X) (h2:b=false→Y):cond b X Y:=by
 cases b
 ·exact h2 rfl
 ·exact h1 rfl
theorem cT {b:Bool} {X Y:Prop} (h:b=true) (h1:X):cond b X Y:=by subst h;exact h1
theorem cF {b:Bool} {X Y:Prop} (h:b=false) (h1:Y):cond b X Y:=by subst h;exact h1
theorem add_add (a:Addr) (i j:Nat):(a.add i).add j=a.add (i+j):=by
 unfold Addr.add
 by_cases hi:i=0<;>by_cases hj:j=0<;>simp [hi,hj,Nat.add_assoc]
@[simp] theorem add_zero (a:Addr):a.add 0=a:=by simp [Addr.add]
@[simp] theorem block_add (a:Addr) (n:Nat):(a.add n).block=a.block:=by unfold Addr.add;split<;>rfl
theorem add_mk (b o n:Nat):(⟨b,o,none⟩:Addr).add n=⟨b,o+n,none⟩:=by unfold Addr.add;split<;>simp_all
theorem cellsAt.sub {w:World} {a:Addr} {vs us:List Value} (h:cellsAt w a vs) (i:Nat) (hu:∀(j:Nat) (v:Value),us[j]?=some v→vs[i+j]?=some v):cellsAt w (a.add i) us:=by
 intro j v hj
 rw [add_add]
 exact h _ _ (hu j v hj)
theorem cellsAt.lt {w:World} {a:Addr} {vs:List Value} (h:cellsAt w a vs) (hn:0<vs.length):a.block<w.heap.size:=by
 have:=World.block_lt_of_cell? w (a.add 0) (h 0 vs[0] (by simp [hn]))
 simpa using this
def Blk (w:World) (g:Nat) (t:TypeId) (vs:List Value):Prop:=w.heap[g]?=some (.cells vs.toArray t (0,0))
section
variable {w w':World} {g:Nat} {t:TypeId} {vs:List Value}
theorem Blk.lt (h:Blk w g t vs):g<w.heap.size:=by
 rcases Nat.lt_or_ge g w.heap.size with hlt | hge
 ·exact hlt
 ·unfold Blk at h;rw [Array.getElem?_eq_none hge] at h;cases h
theorem Blk.new (w:World) (t:TypeId) (vs:List Value):Blk (w.alloc (.cells vs.toArray t)) w.heap.size t vs:=by
 show (w.heap.push _)[w.heap.size]?=_
 simp
theorem Blk.cells (h:Blk w g t vs):cellsAt w ⟨g,0,none⟩ vs:=by
 intro i v hv
 unfold Blk at h
 rw [add_mk]
 simp [World.cell?,h,hv]
theorem Blk.cell (h:Blk w g t vs) (i:Nat) {v:Value} (hv:vs[i]?=some v):w.cell? ⟨g,i,none⟩=some v:=by
 have:=h.cells i v hv
 rwa [add_mk,Nat.zero_add] at this
theorem Blk.frozen (h:Blk w g t vs) (i:Nat):w.frozen? ⟨g,i,none⟩=false:=by
 unfold Blk at h
 simp [World.frozen?,h]
theorem Blk.drew (h:Blk w g t vs):Blk w.drew g t vs:=h
theorem Blk.below {B:Nat} (h:Blk w g t vs) (hb:Below B w w') (hg:g<B):Blk w' g t vs:=(hb.block g hg).trans h
theorem Blk.ext (h:Blk w g t vs) (hb:Below w.heap.size w w'):Blk w' g t vs:=h.below hb h.lt
theorem Blk.grown {row:Option Nat} (h:Blk w g t vs) (hb:w.grownBy w' row) (hg:some g≠row):Blk w' g t vs:=(hb.block g h.lt hg).trans h
theorem Blk.set_ (h:Blk w g t vs) (i:Nat) (u:Value):Blk (w.setCell ⟨g,i,none⟩ u) g t (vs.set i u):=by
 unfold Blk at h ⊢
 simp [World.setCell,Array.getElem?_modify,h]
end
def putL (vs:List Value) (i:Nat) (us:List Value):List Value:=match us with
 | []=>vs
 | u::r=>putL (vs.set i u) (i+1) r
theorem wrFrom_blk {g o:Nat} {t:TypeId}:∀(us:List Value) (i:Nat) (w:World) (vs:List Value),Blk w g t vs→Blk (wrFrom w ⟨g,o,none⟩ i us) g t (putL vs (o+i) us):=by
 intro us
 induction us with
 | nil=>intro i w vs h;exact h
 | cons u r ih =>
  intro i w vs h
  simp only [wrFrom,putL]
  rw [add_mk]
  have:=ih (i+1) _ _ (h.set_ (o+i) u)
  rwa [←Nat.add_assoc] at this
theorem wr_blk {w:World} {g o:Nat} {t:TypeId} {vs us:List Value} (h:Blk w g t vs):Blk (wr w ⟨g,o,none⟩ us) g t (putL vs o us):=by
 have:=wrFrom_blk (o:=o) us 0 w vs h
 simpa [wr] using this
theorem wrFrom_heap {a:Addr}:∀(us:List Value) (i:Nat) (w:World),(wrFrom w a i us).heap.size=w.heap.size∧(∀k,k≠a.block→(wrFrom w a i us).heap[k]?=w.heap[k]?)∧(wrFrom w a i us).tape=w.tape∧(wrFrom w a i us).os=w.os∧(wrFrom w a i us).output=w.output∧(wrFrom w a i us).drawn=w.drawn:=by
 intro us
 induction us with
 | nil=>intro i w;exact ⟨rfl,fun _ _=>rfl,rfl,rfl,rfl,rfl⟩
 | cons u r ih =>
  intro i w
  obtain ⟨h1,h2,h3,h4,h5,h6⟩:=ih (i+1) (w.setCell (a.add i) u)
  refine ⟨by rw [wrFrom,h1];simp,fun k hk=>?_,by rw [wrFrom,h3];simp,by rw [wrFrom,h4];rfl,by rw [wrFrom,h5];rfl,by rw [wrFrom,h6];simp⟩
  rw [wrFrom,h2 k hk]
  exact Below.heap_setCell _ _ _ _ (by simpa using hk)
@[simp] theorem size_wr (w:World) (a:Addr) (us:List Value):(wr w a us).heap.size=w.heap.size:=(wrFrom_heap us 0 w).1
theorem wr_grown (w:World) (a:Addr) (us:List Value):w.grownBy (wr w a us) (some a.block):=by
 obtain ⟨h1,h2,h3,h4,h5,_⟩:=wrFrom_heap (a:=a) us 0 w
 exact ⟨h4,h3,h5,by show _≤(wrFrom w a 0 us).heap.size;omega,fun k _ hne=>h2 k fun e=>hne (by rw [e])⟩
theorem stOk_blk {w:World} {g o:Nat} {t:TypeId} {vs us:List Value} (h:Blk w g t vs) (hl:o+us.length≤vs.length):stOk w ⟨g,o,none⟩ us:=by
 intro i hi
 rw [add_mk]
 refine ⟨⟨vs[o+i],?_⟩,h.frozen _⟩
 exact h.cell (o+i) (List.getElem?_eq_getElem (by omega))
theorem stK_blk {w:World} {g o:Nat} {t:TypeId} {vs us:List Value} {K:World→Prop} (h:Blk w g t vs) (hl:o+us.length≤vs.length)
  (hK:∀w',Blk w' g t (putL vs o us)→w.grownBy w' (some g)→w'.heap.size=w.heap.size→K w'):stK ⟨g,o,none⟩ us w K :=
 ⟨stOk_blk h hl,hK _ (wr_blk h) (wr_grown w ⟨g,o,none⟩ us) (size_wr _ _ _)⟩
theorem nwb {t:TypeId} {vs:List Value} {w:World} {K:Addr→World→Prop} (hK:∀w',Blk w' w.heap.size t vs→Below w.heap.size w w'→w'.heap.size=w.heap.size+1→K ⟨w.heap.size,0,none⟩ w'):nw t vs w K :=
 hK _ (Blk.new w t vs) ((Below.refl _ w).alloc (Nat.le_refl _) _) (by simp)
structure El (T:Type) where
 cells:T→List Value
 t:TypeId
 k:Nat
 pos:0<k
 len:∀x,(cells x).length=k
 one:∀x,∀v∈cells x,v.oneCell'=true
def Slc.at_ (s:Slc) (k i:Nat):Addr:=(s.a.getD ⟨0,0,none⟩).add (i*k)
structure Rd {T:Type} (E:El T) (w:World) (s:Slc) (xs:List T):Prop where
 n:s.n=xs.length
 nc:s.n≤s.c
 cm:s.c≤maxLen
 some_:0<xs.length→s.a.isSome=true
 at_:∀(i:Nat) x,xs[i]?=some x→cellsAt w (s.at_ E.k i) (E.cells x)
theorem Rd.nil {T:Type} (E:El T) (w:World):Rd E w ⟨none,0,0⟩ []:=⟨rfl,Nat.le_refl _,by simp [maxLen],fun h=>by simp at h,fun i x h=>by simp at h⟩
theorem Rd.lt {T:Type} {E:El T} {w:World} {s:Slc} {xs:List T} (h:Rd E w s xs) {i:Nat} (hi:i<xs.length):(s.at_ E.k i).block<w.heap.size :=
 (h.at_ i xs[i] (by simp [hi])).lt (by rw [E.len];exact E.pos)
theorem Rd.keep {T:Type} {E:El T} {w w':World} {s:Slc} {xs:List T} (h:Rd E w s xs) (hk:∀(b:Nat),b<w.heap.size→(∀a,s.a=some a→b=a.block)→w'.heap[b]?=w.heap[b]?):Rd E w' s xs:=by
 refine ⟨h.n,h.nc,h.cm,h.some_,fun i x hx=>?_⟩
 have hc:=h.at_ i x hx
 intro j v hv
 have hcell:=hc j v hv
 have hlt:=World.block_lt_of_cell? w _ hcell
 rw [World.cell?_of_block (w:=w) (hk _ hlt (fun a ha=>by simp [Slc.at_,ha]))]
 exact hcell
theorem Rd.ext {T:Type} {E:El T} {w w':World} {s:Slc} {xs:List T} (h:Rd E w s xs) (hb:Below w.heap.size w w'):Rd E w' s xs:=h.keep fun b hlt _=>hb.block b hlt
theorem Rd.none_nil {T:Type} {E:El T} {w:World} {s:Slc} {xs:List T} (h:Rd E w s xs) (ha:s.a=none):xs=[]:=by
 cases xs with
 | nil=>rfl
 | cons x r=>have:=h.some_ (by simp);rw [ha] at this;cases this
theorem Rd.drew {T:Type} {E:El T} {w:World} {s:Slc} {xs:List T} (h:Rd E w s xs):Rd E w.drew s xs:=h.keep fun _ _ _=>rfl
theorem ixK_at {s:Slc} {i:Int} {k:Nat} {K:Addr→Prop} (ha:s.a.isSome=true) (h0:0≤i) (h1:i<s.n) (h:K (s.at_ k i.toNat)):ixK s i k K:=by
 obtain ⟨a,e⟩:=Option.isSome_iff_exists.1 ha
 unfold ixK
 rw [e,onPtr_some]
 refine ⟨⟨h0,h1⟩,?_⟩
 simpa [Slc.at_,e] using h
theorem Rd.ix {T:Type} {E:El T} {w:World} {s:Slc} {xs:List T} (h:Rd E w s xs) {i:Int} {k:Nat} (hk:k=E.k) {K:Addr→Prop} (h0:0≤i) (h1:i<xs.length)
  (hK:cellsAt w (s.at_ E.k i.toNat) (E.cells (xs[i.toNat]'(by omega)))→K (s.at_ E.k i.toNat)):ixK s i k K:=by
 subst hk
 refine ixK_at (h.some_ (by omega)) h0 (by rw [h.n];exact h1) (hK (h.at_ _ _ ?_))
 simp
def flat {T:Type} (E:El T) (xs:List T):List Value:=xs.flatMap E.cells
theorem flat_length {T:Type} (E:El T) (xs:List T):(flat E xs).length=xs.length*E.k:=by
 unfold flat
 induction xs with
 | nil=>simp
 | cons x r ih=>simp [E.len,ih,Nat.add_mul,Nat.add_comm]
theorem flat_append {T:Type} (E:El T) (xs ys:List T):flat E (xs++ys)=flat E xs++flat E ys:=by simp [flat]
theorem flat_get {T:Type} (E:El T):∀(xs:List T) (i:Nat) (x:T) (j:Nat) (v:Value),xs[i]?=some x→(E.cells x)[j]?=some v→(flat E xs)[i*E.k+j]?=some v:=by
 intro xs
 induction xs with
 | nil=>intro i x j v h;simp at h
 | cons y r ih =>
  intro i x j v h hv
  have hj:j<E.k:=by rw [←E.len x];exact (List.getElem?_eq_some_iff.1 hv).1
  have e:flat E (y::r)=E.cells y++flat E r:=by simp [flat]
  rw [e]
  cases i with
  | zero =>
   simp only [List.getElem?_cons_zero,Option.some.injEq] at h
   subst h
   rw [Nat.zero_mul,Nat.zero_add,List.getElem?_append_left (by rw [E.len];exact hj)]
   exact hv
  | succ i =>
   simp only [List.getElem?_cons_succ] at h
   rw [List.getElem?_append_right (by rw [E.len,Nat.add_mul];omega),E.len]
   have:(i+1)*E.k+j-E.k=i*E.k+j:=by rw [Nat.add_mul];omega
   rw [this]
   exact ih i x j v h hv
theorem flat_one {T:Type} (E:El T) (xs:List T):∀u∈flat E xs,u.oneCell'=true:=by
 intro u hu
 obtain ⟨x,_,hx⟩:=List.mem_flatMap.1 hu
 exact E.one x u hx
def Slc.v (s:Slc):Value:=.slice s.a s.n s.c
def Slc.blk (s:Slc):Option Nat:=s.a.map (·.block)
def Own {T:Type} (E:El T) (w:World) (base:Nat) (s:Slc) (xs:List T):Prop:=w.ownsRow base E.t E.k s.v xs.length (flat E xs)
theorem ownBlock_v (s:Slc):s.v.ownBlock=s.blk:=by
 unfold Slc.v Slc.blk
 cases s.a<;>rfl
theorem Own.form {T:Type} {E:El T} {w:World} {base:Nat} {s:Slc} {xs:List T} (h:Own E w base s xs) :
  (s=⟨none,0,0⟩∧xs=[])∨∃g cur,s=⟨some ⟨g,0,none⟩,xs.length,s.c⟩∧base≤g∧Blk w g E.t cur∧xs.length≤s.c∧s.c≤maxLen∧cur.length=s.c*E.k∧cur.take (xs.length*E.k)=flat E xs:=by
 obtain ⟨_,h⟩:=h
 obtain ⟨a,n,c⟩:=s
 rcases h with ⟨e,hn⟩ | ⟨g,cap,cur,e,hg,hh,h1,h2,h3,h4⟩
 ·injection e with e1 e2 e3
  subst e1;subst e2;subst e3
  exact .inl ⟨rfl,List.eq_nil_of_length_eq_zero hn⟩
 ·injection e with e1 e2 e3
  subst e1;subst e2;subst e3
  exact .inr ⟨g,cur.toList,rfl,hg,by unfold Blk;simpa using hh,h1,h2,by simpa using h3,h4⟩
theorem Own.of_blk {T:Type} {E:El T} {w:World} {base g c:Nat} {xs:List T} {cur:List Value} (hg:base≤g) (hb:Blk w g E.t cur) (h1:xs.length≤c) (h2:c≤maxLen) (h3:cur.length=c*E.k) (h4:cur.take (xs.length*E.k)=flat E xs) :
  Own E w base ⟨some ⟨g,0,none⟩,xs.length,c⟩ xs :=
 ⟨flat_length E xs,.inr ⟨g,c,cur.toArray,rfl,hg,hb,h1,h2,by simpa using h3,by simpa using h4⟩⟩
theorem Own.nil {T:Type} (E:El T) (w:World) (base:Nat):Own E w base ⟨none,0,0⟩ []:=World.ownsRow_nil w base E.t E.k
theorem Own.rd {T:Type} {E:El T} {w:World} {base:Nat} {s:Slc} {xs:List T} (h:Own E w base s xs):Rd E w s xs:=by
 rcases h.form with ⟨rfl,rfl⟩ | ⟨g,cur,hs,hg,hb,h1,h2,h3,h4⟩
 ·exact Rd.nil E w
 ·rw [hs]
  refine ⟨rfl,h1,h2,fun _=>rfl,fun i x hx=>?_⟩
  show cellsAt w ((⟨g,0,none⟩:Addr).add (i*E.k)) _
  refine hb.cells.sub _ fun j v hv=>?_
  have:=flat_get E xs i x j v hx hv
  rw [←h4] at this
  rw [List.getElem?_take] at this
  split at this
  ·exact this
  ·cases this
theorem Own.base {T:Type} {E:El T} {w:World} {base base':Nat} {s:Slc} {xs:List T} (h:Own E w base s xs) (hb:base'≤base):Own E w base' s xs:=by
 obtain ⟨h0,h⟩:=h
 refine ⟨h0,?_⟩
 rcases h with h | ⟨g,cap,cur,e,hg,r⟩
 ·exact .inl h
 ·exact .inr ⟨g,cap,cur,e,by omega,r⟩
theorem Own.lt {T:Type} {E:El T} {w:World} {base:Nat} {s:Slc} {xs:List T} (h:Own E w base s xs):∀k,s.blk=some k→base≤k∧k<w.heap.size:=by
 rw [←ownBlock_v];exact World.ownsRow.lt h
theorem Own.kept {T:Type} {E:El T} {w w':World} {base:Nat} {s:Slc} {xs:List T} {row:Option Nat} (h:Own E w base s xs) (hg:w.grownBy w' row) (hne:s.blk=none∨s.blk≠row):Own E w' base s xs :=
 World.ownsRow.kept h hg (by rw [ownBlock_v];exact hne)
theorem Own.ext {T:Type} {E:El T} {w w':World} {base:Nat} {s:Slc} {xs:List T} (h:Own E w base s xs) (hb:Below w.heap.size w w'):Own E w' base s xs:=by
 obtain ⟨h0,h1⟩:=h
 refine ⟨h0,?_⟩
 rcases h1 with h1 | ⟨g,cap,cur,e,hg,hh,r⟩
 ·exact .inl h1
 ·refine .inr ⟨g,cap,cur,e,hg,?_,r⟩
  have:g<w.heap.size:=by
   rcases Nat.lt_or_ge g w.heap.size with h' | h'
   ·exact h'
   ·rw [Array.getElem?_eq_none h'] at hh;cases hh
  rw [hb.block g this];exact hh
theorem Own.drew {T:Type} {E:El T} {w:World} {base:Nat} {s:Slc} {xs:List T} (h:Own E w base s xs):Own E w.drew base s xs:=h
structure SlT (P:Program) {T:Type} (E:El T) (st:TypeId) where
 ht:P.underlying st=some (.slice E.t)
 i:TypeInfo
 hi:P.info? E.t=some i
 z:Value
 hz:i.zero=some z
 hs:i.size=E.k
 hzs:z.cells.size=E.k
theorem run_append_nothing {P:Program} {T:Type} {E:El T} {st:TypeId} (TT:SlT P E st) (ty:TypeId) {w:World} {base:Nat} {s:Slc} {xs:List T} (hown:Own E w base s xs) (c:Nat) :
  (Builtin.append_ #[st,st] ty #[s.v,.slice none 0 c]).run P w=.ok s.v w:=by
 rcases hown.form with ⟨rfl,rfl⟩ | ⟨g,cur,hs,hg,hb,h1,h2,h3,h4⟩
 ·simp [Slc.v,Builtin.append_,run_underlying TT.ht,sizeOf,typeInfo,TT.hi,Builtin.lenOf,Builtin.firstCells]
 ·rw [hs]
  simp [Slc.v,Builtin.append_,run_underlying TT.ht,sizeOf,typeInfo,TT.hi,Builtin.lenOf,Builtin.firstCells,h1,storeCells]
theorem apK_own {P:Program} {T:Type} {E:El T} {st:TypeId} (TT:SlT P E st) {ty:TypeId} {w:World} {base:Nat} {s x:Slc} {xs ys:List T} {K:Slc→World→Prop} (hown:Own E w base s xs) (hx:Rd E w x ys)
  (hb:base≤w.heap.size) (hl:(xs.length+ys.length)*TT.i.bytes≤140737488355328) (hm:xs.length+ys.length≤maxLen)
  (hK:∀r w',Own E w' base r (xs++ys)→w.grownBy w' s.blk→(r.blk=s.blk∨r.blk=some w.heap.size)→K r w'):apK P #[st,st] ty s x w K:=by
 cases ha:x.a with
 | none =>
  have hy:=hx.none_nil ha
  subst hy
  have hn:x.n=0:=by simpa using hx.n
  refine ⟨s,w,?_,hK s w (by simpa using hown) (World.grownBy.refl w _) (.inl rfl)⟩
  rw [ha,hn]
  exact run_append_nothing TT ty hown x.c
 | some a =>
  have hcells:∀(j:Nat) (u:Value),(flat E ys)[j]?=some u→w.cell? (a.add j)=some u:=by
   intro j u hu
   have hj:j<ys.length*E.k:=by rw [←flat_length];exact (List.getElem?_eq_some_iff.1 hu).1
   have hk:=E.pos
   have hq:j/E.k<ys.length:=(Nat.div_lt_iff_lt_mul hk).2 hj
   have hr:j%E.k<E.k:=Nat.mod_lt _ hk
   have hxi:ys[j/E.k]?=some ys[j/E.k]:=by simp [hq]
   have hv:(E.cells ys[j/E.k])[j%E.k]?=some ((E.cells ys[j/E.k])[j%E.k]'(by rw [E.len];exact hr)):=List.getElem?_eq_getElem _
   have e:j/E.k*E.k+j%E.k=j:=by rw [Nat.mul_comm];exact Nat.div_add_mod j E.k
   have h1:=flat_get E ys _ _ _ _ hxi hv
   rw [e,hu] at h1
   have h2:=hx.at_ _ _ hxi _ _ hv
   rw [←Option.some.inj h1] at h2
   simp only [Slc.at_,ha,Option.getD_some] at h2
   rwa [add_add,e] at h2
  obtain ⟨v',w',hrun,h2,h3,_,h5⟩:=run_append_own_at (P:=P) w base st ty E.t TT.i TT.z E.k TT.i.bytes TT.ht TT.hi TT.hz TT.hs rfl TT.hzs E.pos s.v xs.length (flat E xs) hown a ys.length x.c (flat E ys) (flat_length E ys) hcells (flat_one E ys) hm hl hb
  have hv':∃r:Slc,v'=r.v:=by
   rcases h2.2 with ⟨e,_⟩ | ⟨g,cap,cur,e,_⟩
   ·exact ⟨⟨none,0,0⟩,e⟩
   ·exact ⟨⟨_,_,_⟩,e⟩
  obtain ⟨r,rfl⟩:=hv'
  refine ⟨r,w',?_,hK r w' ?_ (by rw [←ownBlock_v];exact h3) ?_⟩
  ·rw [ha,hx.n];exact hrun
  ·unfold Own;rw [List.length_append,flat_append];exact h2
  ·rw [ownBlock_v,ownBlock_v] at h5;exact h5
theorem putL_length:∀(us vs:List Value) (i:Nat),(putL vs i us).length=vs.length:=by
 intro us
 induction us with
 | nil=>intro vs i;rfl
 | cons u r ih=>intro vs i;rw [putL,ih];simp
theorem putL_get:∀(us vs:List Value) (i m:Nat),i+us.length≤vs.length→(putL vs i us)[m]?=if i≤m∧m<i+us.length then us[m-i]? else vs[m]?:=by
 intro us
 induction us with
 | nil=>intro vs i m _;simp only [putL,List.length_nil,Nat.add_zero];rw [if_neg (by omega)]
 | cons u r ih =>
  intro vs i m hl
  simp only [List.length_cons] at hl
  rw [putL,ih (vs.set i u) (i+1) m (by simp;omega)]
  by_cases h1:i+1≤m∧m<i+1+r.length
  ·rw [if_pos h1,if_pos (by simp;omega)]
   have:m-i=(m-(i+1))+1:=by omega
   rw [this,List.getElem?_cons_succ]
  ·rw [if_neg h1]
   by_cases h2:m=i
   ·subst h2
    rw [if_pos (by simp),List.getElem?_set_self (by omega),Nat.sub_self,List.getElem?_cons_zero]
   ·rw [List.getElem?_set_ne (Ne.symm h2),if_neg (by simp;omega)]
theorem flat_set {T:Type} {E:El T} {xs:List T} {i:Nat} {x y:T} (hx:xs[i]?=some x) {j:Nat} {us cur:List Value} (hj:j+us.length≤E.k) (hy:E.cells y=putL (E.cells x) j us)
  (hc:cur.take (xs.length*E.k)=flat E xs) (hl:xs.length*E.k≤cur.length):(putL cur (i*E.k+j) us).take (xs.length*E.k)=flat E (xs.set i y):=by
 have hi:i<xs.length:=(List.getElem?_eq_some_iff.1 hx).1
 have hik:i*E.k+E.k≤xs.length*E.k:=by
  have:=Nat.mul_le_mul_right E.k (show i+1≤xs.length from hi)
  rw [Nat.add_mul,Nat.one_mul] at this
  exact this
 refine List.ext_getElem? fun m=>?_
 by_cases hm:m<xs.length*E.k
 ·rw [List.getElem?_take_of_lt hm,putL_get us cur _ _ (by omega)]
  have hq:m/E.k<xs.length:=(Nat.div_lt_iff_lt_mul E.pos).2 hm
  have hr:m%E.k<E.k:=Nat.mod_lt _ E.pos
  have e:m/E.k*E.k+m%E.k=m:=by rw [Nat.mul_comm];exact Nat.div_add_mod m E.k
  have hcur:cur[m]?=(flat E xs)[m]?:=by rw [←hc,List.getElem?_take_of_lt hm]
  have key:∀(zs:List T) (z:T),zs[m/E.k]?=some z→(flat E zs)[m]?=(E.cells z)[m%E.k]?:=by
   intro zs z hz
   have hv:(E.cells z)[m%E.k]?=some ((E.cells z)[m%E.k]'(by rw [E.len];exact hr)):=List.getElem?_eq_getElem _
   have:=flat_get E zs _ _ _ _ hz hv
   rw [e] at this
   rw [this,hv]
  by_cases hqi:m/E.k=i
  ·have hy':(xs.set i y)[m/E.k]?=some y:=by rw [hqi,List.getElem?_set_self hi]
   rw [key _ _ hy',hy,putL_get us (E.cells x) j _ (by rw [E.len];exact hj)]
   have hx':xs[m/E.k]?=some x:=by rw [hqi];exact hx
   rw [hcur,key _ _ hx']
   have e2:m=i*E.k+m%E.k:=by rw [←hqi];exact e.symm
   generalize m%E.k=r at *
   subst e2
   by_cases hcase:j≤r∧r<j+us.length
   ·rw [if_pos (by omega),if_pos hcase]
    congr 1
    omega
   ·rw [if_neg (by omega),if_neg hcase]
  ·have hne:(xs.set i y)[m/E.k]?=xs[m/E.k]?:=List.getElem?_set_ne (Ne.symm hqi)
   have hx':xs[m/E.k]?=some xs[m/E.k]:=by simp [hq]
   rw [key _ _ (hne.trans hx'),hcur,key _ _ hx',if_neg]
   rintro ⟨h1,h2⟩
   refine hqi (Nat.le_antisymm ?_ ?_)
   ·refine Nat.le_of_lt_succ ((Nat.div_lt_iff_lt_mul E.pos).2 ?_)
    rw [Nat.succ_mul];omega
   ·exact (Nat.le_div_iff_mul_le E.pos).2 (by omega)
 ·rw [List.getElem?_eq_none (by simp;omega),List.getElem?_eq_none (by rw [flat_length];simp;omega)]
theorem Own.st {T:Type} {E:El T} {w:World} {base:Nat} {s:Slc} {xs:List T} (h:Own E w base s xs) {i:Nat} {x y:T} (hx:xs[i]?=some x) {j:Nat} {us:List Value} (hj:j+us.length≤E.k)
  (hy:E.cells y=putL (E.cells x) j us) {K:World→Prop} (hK:∀w',Own E w' base s (xs.set i y)→w.grownBy w' s.blk→w'.heap.size=w.heap.size→K w'):stK ((s.at_ E.k i).add j) us w K:=by
 rcases h.form with ⟨rfl,rfl⟩ | ⟨g,cur,hs,hg,hb,h1,h2,h3,h4⟩
 ·simp at hx
 ·have hi:i<xs.length:=(List.getElem?_eq_some_iff.1 hx).1
  have hik:i*E.k+E.k≤xs.length*E.k:=by
   have:=Nat.mul_le_mul_right E.k (show i+1≤xs.length from hi)
   rw [Nat.add_mul,Nat.one_mul] at this
   exact this
  have hcap:xs.length*E.k≤s.c*E.k:=Nat.mul_le_mul_right _ h1
  have ha:(s.at_ E.k i).add j=⟨g,i*E.k+j,none⟩:=by
   rw [hs];show ((⟨g,0,none⟩:Addr).add (i*E.k)).add j=_
   rw [add_add,add_mk,Nat.zero_add]
  rw [ha]
  refine stK_blk hb (by omega) fun w' hb' hg' hsz=>hK w' ?_ ?_ hsz
  ·have:=Own.of_blk (E:=E) (xs:=xs.set i y) (c:=s.c) hg hb' (by simpa using h1) h2 (by rw [putL_length];exact h3) (by rw [List.length_set];exact flat_set hx hj hy h4 (by omega))
   rw [hs]
   simpa using this
  ·rw [hs];exact hg'
theorem Own.st0 {T:Type} {E:El T} {w:World} {base:Nat} {s:Slc} {xs:List T} (h:Own E w base s xs) {i:Nat} {x y:T} (hx:xs[i]?=some x) {us:List Value} (hy:E.cells y=us)
  {K:World→Prop} (hK:∀w',Own E w' base s (xs.set i y)→w.grownBy w' s.blk→w'.heap.size=w.heap.size→K w'):stK (s.at_ E.k i) us w K:=by
 have hl:us.length=E.k:=by rw [←hy,E.len]
 have hy':E.cells y=putL (E.cells x) 0 us:=by
  refine List.ext_getElem? fun m=>?_
  rw [putL_get us _ 0 m (by rw [E.len];omega),hy]
  by_cases hm:m<us.length
  ·rw [if_pos (by omega)];rfl
  ·rw [if_neg (by omega),List.getElem?_eq_none (by omega),List.getElem?_eq_none (by rw [E.len];omega)]
 have:=h.st hx (j:=0) (by omega) hy' hK
 rwa [add_zero] at this
theorem rd_one {T:Type} {E:El T} {w:World} {g:Nat} {y:T} {vs:List Value} (hb:Blk w g E.t vs) (hy:E.cells y=vs):Rd E w ⟨some ⟨g,0,none⟩,1,1⟩ [y]:=by
 refine ⟨rfl,Nat.le_refl _,by simp [maxLen],fun _=>rfl,fun i x hx=>?_⟩
 cases i with
 | zero =>
  simp only [List.getElem?_cons_zero,Option.some.injEq] at hx
  subst hx
  show cellsAt w ((⟨g,0,none⟩:Addr).add (0*E.k)) _
  rw [Nat.zero_mul,add_zero,hy]
  exact hb.cells
 | succ i=>simp at hx
theorem own_empty {T:Type} {E:El T} {w:World} {g base:Nat} (hb:Blk w g E.t []) (hg:base≤g):Own E w base ⟨some ⟨g,0,none⟩,0,0⟩ [] :=
 Own.of_blk (E:=E) (xs:=[]) (c:=0) hg hb (Nat.le_refl _) (by simp [maxLen]) (by simp) (by simp [flat])
theorem lI {k:IntKind} {a:Addr} {w:World} {K:Int→Prop} {x:Int} (h:w.cell? a=some (.int k x)) (hK:K x):ldI k a w K:=⟨x,h,hK⟩
theorem ldB_of {a:Addr} {w:World} {K:Bool→Prop} {x:Bool} (h:w.cell? a=some (.bool x)) (hK:K x):ldB a w K:=⟨x,h,hK⟩
theorem ldStr_of {a:Addr} {w:World} {K:ByteArray→Prop} {x:ByteArray} (h:w.cell? a=some (.string x)) (hK:K x):ldStr a w K:=⟨x,h,hK⟩
theorem ldP_of {a:Addr} {w:World} {K:Option Addr→Prop} {x:Option Addr} (h:w.cell? a=some (.pointer x)) (hK:K x):ldP a w K:=⟨x,h,hK⟩
theorem lSl {a:Addr} {w:World} {K:Slc→Prop} {x:Slc} (h:w.cell? a=some (.slice x.a x.n x.c)) (hK:K x):ldSl a w K:=⟨x,h,hK⟩
theorem ldS_of {r:Rep} {a:Addr} {w:World} {K:r.T→Prop} {x:r.T} (h:cellsAt w a (r.cells x)) (hK:K x):ldS r a w K:=⟨x,h,hK⟩
theorem box_of {t:TypeId} {zs vs:List Value} {w:World} {K:Addr→World→Prop} (hl:zs.length=vs.length)
  (hK:∀w',Blk w' w.heap.size t vs→Below w.heap.size w w'→w'.heap.size=w.heap.size+1→K ⟨w.heap.size,0,none⟩ w'):nw t zs w fun c w3=>stK c vs w3 fun w4=>K c w4:=by
 refine nwb fun w1 hb1 hB1 hs1=>?_
 refine stK_blk hb1 (by omega) fun w2 hb2 hg2 hs2=>hK w2 ?_ ?_ (by omega)
 ·have e:putL zs 0 vs=vs:=by
   refine List.ext_getElem? fun m=>?_
   rw [putL_get vs zs 0 m (by omega)]
   by_cases hm:m<vs.length
   ·rw [if_pos (by omega)];rfl
   ·rw [if_neg (by omega),List.getElem?_eq_none (by omega),List.getElem?_eq_none (by omega)]
  rw [e] at hb2
  exact hb2
 ·exact hB1.grown hg2 (by omega) fun k hk=>by cases hk;exact Nat.le_refl _
def mix {α:Type} (ys xs:List α) (k:Nat):List α:=ys.take k++xs.drop k
theorem mix_zero {α:Type} (ys xs:List α):mix ys xs 0=xs:=by simp [mix]
theorem mix_all {α:Type} {ys xs:List α} (h:ys.length=xs.length):mix ys xs xs.length=ys:=by simp [mix,←h]
theorem mix_length {α:Type} {ys xs:List α} (h:ys.length=xs.length) (k:Nat):(mix ys xs k).length=xs.length:=by simp [mix];omega
theorem mix_get {α:Type} {ys xs:List α} (h:ys.length=xs.length) {k:Nat} (hk:k<xs.length) (i:Nat):(mix ys xs k)[i]?=if i<k then ys[i]? else xs[i]?:=by
 unfold mix
 have hl:(ys.take k).length=k:=by simp;omega
 by_cases hi:i<k
 ·rw [List.getElem?_append_left (by omega),List.getElem?_take_of_lt hi,if_pos hi]
 ·rw [List.getElem?_append_right (by omega),hl,List.getElem?_drop,if_neg hi]
  congr 1
  omega
theorem mix_set {α:Type} {ys xs:List α} (h:ys.length=xs.length) {k:Nat} (hk:k<xs.length) {y:α} (hy:ys[k]?=some y):(mix ys xs k).set k y=mix ys xs (k+1):=by
 unfold mix
 have hl:(ys.take k).length=k:=by simp;omega
 have hy':ys[k]'(by omega)=y:=by
  rw [List.getElem?_eq_getElem (by omega)] at hy
  exact Option.some.inj hy
 rw [List.set_append_right _ _ (by omega),hl,Nat.sub_self,List.drop_eq_getElem_cons hk,List.set_cons_zero,List.take_succ_eq_append_getElem (by omega),hy']
 simp
structure Chg (S:Nat→Prop) (w w':World):Prop where
 os:w'.os=w.os
 tape:w'.tape=w.tape
 output:w'.output=w.output
 size:w.heap.size≤w'.heap.size
 block:∀k,k<w.heap.size→¬S k→w'.heap[k]?=w.heap[k]?
theorem Chg.refl (S:Nat→Prop) (w:World):Chg S w w:=⟨rfl,rfl,rfl,Nat.le_refl _,fun _ _ _=>rfl⟩
theorem Chg.trans {S S':Nat→Prop} {a b c:World} (h:Chg S a b) (k:Chg S' b c) (hs:∀i,i<a.heap.size→S' i→S i):Chg S a c :=
 ⟨k.os.trans h.os,k.tape.trans h.tape,k.output.trans h.output,Nat.le_trans h.size k.size,fun i hi hn=>(k.block i (Nat.lt_of_lt_of_le hi h.size) (fun e=>hn (hs i hi e))).trans (h.block i hi hn)⟩
theorem Chg.mono {S S':Nat→Prop} {a b:World} (h:Chg S a b) (hs:∀i,i<a.heap.size→S i→S' i):Chg S' a b :=
 ⟨h.os,h.tape,h.output,h.size,fun i hi hn=>h.block i hi fun e=>hn (hs i hi e)⟩
theorem Chg.below {S:Nat→Prop} {B:Nat} {a b:World} (h:Chg S a b) (hB:B≤a.heap.size) (hs:∀i,i<B→¬S i):Below B a b :=
 ⟨h.os,h.tape,h.output,h.size,fun k hk=>h.block k (by omega) (hs k hk)⟩
theorem Chg.of_below {B:Nat} {a b:World} (h:Below B a b):Chg (fun k=>B≤k) a b:=⟨h.os,h.tape,h.output,h.size,fun k _ hn=>h.block k (by omega)⟩
theorem Chg.of_ext {S:Nat→Prop} {a b:World} (h:Below a.heap.size a b):Chg S a b:=⟨h.os,h.tape,h.output,h.size,fun k hk _=>h.block k hk⟩
theorem Chg.of_grown {S:Nat→Prop} {a b:World} {row:Option Nat} (h:a.grownBy b row) (hs:∀k,row=some k→S k):Chg S a b :=
 ⟨h.os,h.tape,h.output,h.size,fun k hk hn=>h.block k hk fun e=>hn (hs k e.symm)⟩
theorem Chg.ext {a b:World} {S:Nat→Prop} (h:Chg S a b) (hs:∀i,i<a.heap.size→¬S i):Below a.heap.size a b:=⟨h.os,h.tape,h.output,h.size,fun k hk=>h.block k hk (hs k hk)⟩
theorem Blk.chg {S:Nat→Prop} {w w':World} {g:Nat} {t:TypeId} {vs:List Value} (h:Blk w g t vs) (hc:Chg S w w') (hg:¬S g):Blk w' g t vs:=(hc.block g h.lt hg).trans h
theorem Own.chg {T:Type} {E:El T} {S:Nat→Prop} {w w':World} {base:Nat} {s:Slc} {xs:List T} (h:Own E w base s xs) (hc:Chg S w w') (hg:∀g,s.blk=some g→¬S g):Own E w' base s xs:=by
 rcases h.form with ⟨rfl,rfl⟩ | ⟨g,cur,hs,hb,hblk,h1,h2,h3,h4⟩
 ·exact Own.nil _ _ _
 ·rw [hs]
  exact Own.of_blk hb (hblk.chg hc (hg g (by rw [hs];rfl))) h1 h2 h3 h4
theorem Rd.chg {T:Type} {E:El T} {S:Nat→Prop} {w w':World} {s:Slc} {xs:List T} (h:Rd E w s xs) (hc:Chg S w w') (hg:∀a,s.a=some a→¬S a.block):Rd E w' s xs:=by
 refine ⟨h.n,h.nc,h.cm,h.some_,fun i x hx=>?_⟩
 have hi:i<xs.length:=(List.getElem?_eq_some_iff.1 hx).1
 obtain ⟨a,ha⟩:=Option.isSome_iff_exists.1 (h.some_ (by omega))
 have hcell:=h.at_ i x hx
 intro j v hv
 have hc1:=hcell j v hv
 have hlt:=World.block_lt_of_cell? w _ hc1
 rw [World.cell?_of_block (w:=w) (hc.block _ hlt (by simpa [Slc.at_,ha] using hg a ha))]
 exact hc1
theorem Own.blk_t {T:Type} {E:El T} {w:World} {base:Nat} {s:Slc} {xs:List T} (h:Own E w base s xs) {g:Nat} (hg:s.blk=some g):∃cs,Blk w g E.t cs:=by
 rcases h.form with ⟨rfl,rfl⟩ | ⟨g',cur,hs,hb,hblk,h1,h2,h3,h4⟩
 ·cases hg
 ·rw [hs] at hg
  cases hg
  exact ⟨_,hblk⟩
theorem Blk.ne_t {w:World} {g g':Nat} {t t':TypeId} {cs cs':List Value} (h:Blk w g t cs) (h':Blk w g' t' cs') (hne:t≠t'):g≠g':=by
 rintro rfl
 unfold Blk at h h'
 rw [h] at h'
 injection h' with h'
 injection h' with _ ht
 exact hne ht
def u8 (x:Int):UInt8:=UInt8.ofNat x.toNat
theorem u8_toNat {x:Int} (h0:0≤x) (h1:x<256):((u8 x).toNat:Int)=x:=by
 unfold u8
 rw [UInt8.toNat_ofNat']
 omega
theorem wrap8_u8 (x:Int):IntKind.u8.wrap x=((u8 (x%256)).toNat:Int):=by
 rw [u8_toNat (by omega) (by omega),IntKind.wrap_u8]
theorem w64i {x:Int} (h:-9223372036854775808≤x∧x≤9223372036854775807):IntKind.i64.wrap x=x:=by
 have:=IntWalk.i64_in x h
 exact this
end Go.Vc
namespace Go.Vc
open Go.RowKit
theorem bnd_none {y d:Nat} {K:Nat→Prop} (h:K d):bnd none y d K:=h
theorem bnd_some {i:Int} {y d:Nat} {K:Nat→Prop} (h0:0≤i) (h1:i≤y) (h:K i.toNat):bnd (some i) y d K:=⟨⟨h0,h1⟩,h⟩
theorem Rd.part {T:Type} {E:El T} {w:World} {s:Slc} {xs:List T} (h:Rd E w s xs) {l m:Nat} (hl:l≤m) (hm:m≤xs.length) :
  Rd E w ⟨cut s.a l s.c E.k,m-l,s.c-l⟩ ((xs.take m).drop l):=by
 have hn:=h.n
 have hnc:=h.nc
 have hcm:=h.cm
 have hlen:((xs.take m).drop l).length=m-l:=by simp;omega
 refine ⟨hlen.symm,by show m-l≤s.c-l;omega,by show s.c-l≤maxLen;omega,fun hp=>?_,fun i x hx=>?_⟩
 ·rw [hlen] at hp
  obtain ⟨a,ha⟩:=Option.isSome_iff_exists.1 (h.some_ (by omega))
  show (cut s.a l s.c E.k).isSome=true
  unfold cut
  rw [ha]
  split<;>rfl
 ·have hi:i<m-l:=by rw [←hlen];exact (List.getElem?_eq_some_iff.1 hx).1
  rw [List.getElem?_drop,List.getElem?_take_of_lt (by omega)] at hx
  have hc:=h.at_ _ _ hx
  obtain ⟨a,ha⟩:=Option.isSome_iff_exists.1 (h.some_ (by omega))
  have e:(⟨cut s.a l s.c E.k,m-l,s.c-l⟩:Slc).at_ E.k i=s.at_ E.k (l+i):=by
   unfold Slc.at_ cut
   rw [ha,if_neg (by omega)]
   simp only [Option.map_some,Option.getD_some]
   rw [add_add,Nat.add_mul]
  rw [e]
  exact hc
theorem Rd.slK {T:Type} {E:El T} {w:World} {s:Slc} {xs:List T} (h:Rd E w s xs) {lo hi:Option Int} {k:Nat} (hk:k=E.k) {l m:Nat} {K:Slc→Prop} (hlo:lo=none∧l=0∨lo=some (l:Int)) (hhi:hi=none∧m=xs.length∨hi=some (m:Int))
  (hl:l≤m) (hm:m≤xs.length) (hK:Rd E w ⟨cut s.a l s.c E.k,m-l,s.c-l⟩ ((xs.take m).drop l)→K ⟨cut s.a l s.c E.k,m-l,s.c-l⟩):slK s lo hi k K:=by
 subst hk
 have hn:=h.n
 have hnc:=h.nc
 have key:K ⟨cut s.a l s.c E.k,m-l,s.c-l⟩:=hK (h.part hl hm)
 unfold Vc.slK
 have inner:bnd lo m 0 fun l'=>K ⟨cut s.a l' s.c E.k,m-l',s.c-l'⟩:=by
  rcases hlo with ⟨rfl,rfl⟩ | rfl
  ·exact bnd_none key
  ·exact bnd_some (by omega) (by omega) (by simpa using key)
 rcases hhi with ⟨rfl,rfl⟩ | rfl
 ·refine bnd_none ?_
  rw [hn]
  exact inner
 ·exact bnd_some (by omega) (by omega) (by simpa using inner)
theorem run_append_make {P:Program} {T:Type} {E:El T} {st it:TypeId} {kk:IntKind} (TT:SlT P E st) (ty:TypeId) (hit:P.underlying it=some (.int kk)) (w:World) (n:Nat) (h0:0<n) (h63:n≤maxLen) (h48:n*TT.i.bytes≤140737488355328) :
  (Builtin.append_ #[st,it] ty #[.slice none 0 0,.int .i64 n]).run P w =
   .ok (.slice (some ⟨w.heap.size,0,none⟩) n (grownCap w n 0 E.t)) (w.drew.alloc (.cells (Builtin.zeroCells TT.z.cells n++Builtin.zeroCells TT.z.cells (grownCap w n 0 E.t-n)) E.t)):=by
 have hn:n≠0:=by omega
 have hw:IntKind.i64.wrap (n:Int)=n:=w64i (by simp only [maxLen] at h63;omega)
 have hb:¬(281474976710656<(n:Int)*(TT.i.bytes:Int)):=by
  rw [show (n:Int)*(TT.i.bytes:Int)=((n*TT.i.bytes:Nat):Int) by simp]
  omega
 have h63':¬(9223372036854775807<(n:Int)):=by simp only [maxLen] at h63;omega
 have h48':¬(281474976710656<Builtin.nextslicecap n 0*TT.i.bytes):=by rw [nextslicecap_zero h0];omega
 have hk:=E.pos
 have hs:¬(TT.i.size=0):=by rw [TT.hs];omega
 have hneg:¬((n:Int)<0):=by omega
 have hai:(asIntOf (.int .i64 (n:Int))).run P w=.ok (.i64,(n:Int)) w:=rfl
 simp [Builtin.append_,run_underlying TT.ht,run_underlying hit,sizeOf,typeInfo,zeroValue,TT.hi,TT.hz,asInt,hai,hw,hb,hn,h63',h48',hneg,Question.forced,run_firstCells_none,newRow,grownCap]
 intro e
 have:0<n*TT.i.size:=Nat.mul_pos h0 (by omega)
 omega
theorem apM_nil {P:Program} {T:Type} {E:El T} {st it:TypeId} {kk:IntKind} (TT:SlT P E st) {ty:TypeId} (hit:P.underlying it=some (.int kk)) {w:World} {n:Nat} {m:Int} {K:Slc→World→Prop} (hm:m=n) (h0:0<n) (h63:n≤maxLen) (h48:n*TT.i.bytes≤140737488355328)
  (hK:∀cap w',n≤cap→cap≤maxLen→Own E w' w.heap.size ⟨some ⟨w.heap.size,0,none⟩,0,cap⟩ []→Below w.heap.size w w'→K ⟨some ⟨w.heap.size,0,none⟩,n,cap⟩ w'):apM P #[st,it] ty ⟨none,0,0⟩ m .i64 w K:=by
 subst hm
 refine ⟨⟨some ⟨w.heap.size,0,none⟩,n,grownCap w n 0 E.t⟩,_,run_append_make TT ty hit w n h0 h63 h48,hK _ _ (grownCap_ge w n 0 E.t) (grownCap_le_maxLen w n 0 E.t h63) ?_ ?_⟩
 ·have hge:=grownCap_ge w n 0 E.t
  generalize hA:Builtin.zeroCells TT.z.cells n++Builtin.zeroCells TT.z.cells (grownCap w n 0 E.t-n)=A
  have hsz:A.size=grownCap w n 0 E.t*E.k:=by
   rw [←hA]
   simp only [Array.size_append,size_zeroCells,TT.hzs,←Nat.add_mul]
   congr 1
   omega
  refine Own.of_blk (E:=E) (xs:=[]) (cur:=A.toList) (Nat.le_refl _) ?_ (Nat.zero_le _) (grownCap_le_maxLen w n 0 E.t h63) ?_ (by simp [flat])
  ·have:=Blk.new w.drew E.t A.toList
   rwa [Array.toArray_toList] at this
  ·rw [Array.length_toList];exact hsz
 ·exact (Below.refl _ w).drew.alloc (Nat.le_refl _) _
end Go.Vc
namespace Go.Vc
open Go.ChangeShapes Go.WideShapes Go.ChangeAt Go.RowKit Go.Deep
inductive Leaf where
 | int (k:IntKind)
 | bool
 | str
def Leaf.ok:Leaf→Value→Prop
 | .int k,v=>∃z,v=.int k z∧(Lit.int k z).wf=true
 | .bool,v=>∃b,v=.bool b
 | .str,v=>∃s,v=.string s
def goF (P:Program) (g:TypeId→Option (List Leaf)):List Field→Nat→Option (List Leaf)
 | [],_=>some []
 | f::r,off =>
  match g f.type with
  | some ls=>if f.offset=off∧P.cellsOf f.type=ls.length then (goF P g r (off+ls.length)).map (ls++·) else none
  | none=>none
def leavesL (P:Program):Nat→TypeId→Option (List Leaf)
 | 0,_=>none
 | n+1,t =>
  match P.underlying t with
  | some (.int k)=>some [.int k]
  | some .bool=>some [.bool]
  | some .string=>some [.str]
  | some (.struct fs)=>goF P (leavesL P n) fs.toList 0
  | _=>none
def LeafFit (ls:List Leaf) (cs:List Value):Prop:=∀(j:Nat) l,ls[j]?=some l→∃v,cs[j]?=some v∧l.ok v
theorem goF_fits {P:Program} {g:TypeId→Option (List Leaf)} {cs:List Value}:∀(fs:List Field) (off:Nat) (ls:List Leaf),goF P g fs off=some ls →
  (∀f∈fs,∀lf,g f.type=some lf→P.cellsOf f.type=lf.length→LeafFit lf ((cs.drop f.offset).take (P.cellsOf f.type)))→∀(j:Nat) l,ls[j]?=some l→∃v,cs[off+j]?=some v∧l.ok v
 | [],_,ls,h,_,j,l,hl=>by
  simp only [goF,Option.some.injEq] at h
  subst h
  simp at hl
 | f::r,off,ls,h,hf,j,l,hl=>by
  unfold goF at h
  split at h
  ·rename_i lf hg
   split at h
   ·rename_i hc
    obtain ⟨rest,hr,e⟩:=Option.map_eq_some_iff.1 h
    subst e
    rcases Nat.lt_or_ge j lf.length with hj | hj
    ·rw [List.getElem?_append_left hj] at hl
     obtain ⟨v,hv,ok⟩:=hf f (by simp) lf hg hc.2 j l hl
     rw [hc.2,List.getElem?_take_of_lt hj,List.getElem?_drop,hc.1] at hv
     exact ⟨v,hv,ok⟩
    ·rw [List.getElem?_append_right hj] at hl
     obtain ⟨v,hv,ok⟩:=goF_fits r (off+lf.length) rest hr (fun f' hf'=>hf f' (by simp [hf'])) _ l hl
     exact ⟨v,by rw [←hv];congr 1;omega,ok⟩
   ·cases h
  ·cases h
section
variable {H:Type} {enc:TypeId×Value→H} {P:Program} {w:World} {base:Nat} {spare:Nat→Bool} {held:Bool}
theorem trod_fits:∀(n:Nat) {t:TypeId} {ls:List Leaf} {fuel:Nat} {cs:List Value} {x:DataW H×List MemPlace},leavesL P n t=some ls→DataW.trod enc P w base spare held fuel t cs=some x→LeafFit ls cs
 | 0,_,_,_,_,_,h,_=>by cases h
 | n+1,t,ls,fuel,cs,x,h,ht=>by
  unfold leavesL at h
  split at h
  ·next k hu =>
   cases h
   obtain ⟨z,rfl,_,hw⟩:=DataW.trod_int hu ht
   intro j l hl
   match j,hl with
   | 0,hl=>cases hl;exact ⟨_,rfl,z,rfl,hw⟩
   | j+1,hl=>cases hl
  ·next hu =>
   cases h
   obtain ⟨z,rfl,_⟩:=DataW.trod_bool hu ht
   intro j l hl
   match j,hl with
   | 0,hl=>cases hl;exact ⟨_,rfl,z,rfl⟩
   | j+1,hl=>cases hl
  ·next hu =>
   cases h
   obtain ⟨z,rfl,_⟩:=DataW.trod_string hu ht
   intro j l hl
   match j,hl with
   | 0,hl=>cases hl;exact ⟨_,rfl,z,rfl⟩
   | j+1,hl=>cases hl
  ·next fs hu =>
   obtain ⟨xs,m,_,_,_,hxl,hf⟩:=DataW.trod_struct hu ht
   intro j l hl
   have:=goF_fits (cs:=cs) fs.toList 0 ls h (fun f hfm lf hg _=>by
    obtain ⟨i,hi⟩:=List.getElem?_of_mem hfm
    rw [Array.getElem?_toList] at hi
    have h1:=hf i f hi
    have hil:i<xs.length:=by rw [hxl];exact (Array.getElem?_eq_some_iff.1 hi).1
    rw [List.getElem?_eq_getElem hil] at h1
    exact trod_fits n hg h1) j l hl
   simpa using this
  ·cases h
theorem list_choose {T:Type} {Q:Nat→T→Prop}:∀n:Nat,(∀i,i<n→∃x,Q i x)→∃xs:List T,xs.length=n∧∀(i:Nat) x,xs[i]?=some x→Q i x
 | 0,_=>⟨[],rfl,fun i x h=>by simp at h⟩
 | n+1,h=>by
  obtain ⟨xs,hl,hx⟩:=list_choose n fun i hi=>h i (by omega)
  obtain ⟨y,hy⟩:=h n (by omega)
  refine ⟨xs++[y],by simp [hl],fun i x hi=>?_⟩
  rcases Nat.lt_or_ge i n with h' | h'
  ·rw [List.getElem?_append_left (by omega)] at hi
   exact hx i x hi
  ·rw [List.getElem?_append_right (by omega),hl] at hi
   have:i-n=0:=by
    rcases Nat.eq_zero_or_pos (i-n) with e | e
    ·exact e
    ·rw [List.getElem?_eq_none (by simp;omega)] at hi;cases hi
   rw [this] at hi
   cases hi
   have:i=n:=by omega
   subst this
   exact hy
end
theorem trodAll_stays {H:Type} {enc:TypeId×Value→H} {P:Program} (hl:laidOutB P=true) {W W':World} (hb:Below W.heap.size W W'):∀(ts:List TypeId) {vs:List Value} {ds:List (DataW H)} {ps:List MemPlace},
  ts.all (fun t=>P.readableRec t && decide (t<P.types.size))=true→DataW.TrodAll enc P W 0 (fun _=>true) true ts vs ds ps→(∀x∈ps,x.block<W.heap.size)→DataW.TrodAll enc P W' 0 (fun b=>decide (b<W.heap.size)) true ts vs ds ps
 | [],vs,ds,ps,_,h,_=>by
  obtain ⟨rfl,rfl,rfl⟩:=trodAll_nil h
  exact trodAll_mk0
 | t::ts,vs,ds,ps,hr,h,hlt=>by
  obtain ⟨v,vs',d,ds',p,q,rfl,rfl,rfl,h0,h1⟩:=trodAll_cons h
  simp only [List.all_cons,Bool.and_eq_true,decide_eq_true_eq] at hr
  exact trodAll_cons_mk (Below.trod hl hr.1.1 hr.1.2 h0 hb fun x hx=>hlt x (List.mem_append.2 (.inl hx))) (trodAll_stays hl hb ts (by simpa using hr.2) h1 fun x hx=>hlt x (List.mem_append.2 (.inr hx)))
theorem law_post {H:Type} {enc:TypeId×Value→H} {P:Program} {f:Func} {s:ChangeSpec} {W W':World} {args:Array Value} {ds gs:List (DataW H)} {before:List MemPlace} {tb:TypeId} (hl:laidOutB P=true) (hrt:f.resultTypes=#[tb]) (htb:P.underlying tb=some .bool)
  (hr:f.params.toList.all (fun t=>P.readableRec t && decide (t<P.types.size))=true) (hv:s.vars=[]) (hfn:s.fn H (ds++[])={ results:=[.lit (.bool true)],args:=ds }) (hW:DataW.Whole enc P f.params.toList s.vars false W args.toList ds gs before)
  (hb:Below W.heap.size W W'):s.post enc P f false true false false W args (.bool true) W':=by
 have hW':=hW
 have hlt:=hW.lt
 obtain ⟨p,q,hA0,hV,rfl,hfz,hnd⟩:=hW
 rw [hv] at hV
 obtain ⟨rfl,rfl⟩:=trodVars_none hV
 refine ⟨ds,[],p++[],[],p,[],hW',?_,?_,?_,hb.frame _,fun h=>by cases h⟩
 ·rw [hrt,hfn]
  exact trodAll_mk1 (shut_bool htb _)
 ·rw [hfn]
  exact trodAll_stays hl hb _ hr hA0 fun x hx=>hlt x (by simpa using hx)
 ·rw [hfn,hv]
  exact rfl
end Go.Vc
set_option maxRecDepth 100000
namespace Go.Proofs.YtmagnpcgpinmcaaGreat
open Go.Vc Go.RowKit
def E_uint8:El UInt8 where
 cells b:=[.int .u8 b.toNat]
 t:=ty_uint8
 k:=1
 pos:=by decide
 len _:=rfl
 one x v hv:=by
  simp only [List.mem_cons,List.mem_nil_iff,or_false] at hv
  rcases hv with rfl<;>rfl
noncomputable def sT_sl_uint8:SlT PG E_uint8 ty_sl_uint8 where
 ht:=by kernel_rfl
 i:=(PG.info? 5).getD default
 hi:=by kernel_rfl
 z:=(.int .u8 0)
 hz:=by kernel_rfl
 hs:=by kernel_rfl
 hzs:=rfl
theorem by_sl_uint8:sT_sl_uint8.i.bytes=1:=by kernel_rfl
def E_png_Chunk:El T_png_Chunk where
 cells:=T_png_Chunk.rep.cells
 t:=ty_png_Chunk
 k:=2
 pos:=by decide
 len _:=rfl
 one x v hv:=by
  simp only [T_png_Chunk.rep,List.mem_cons,List.mem_nil_iff,or_false] at hv
  rcases hv with rfl | rfl<;>rfl
noncomputable def sT_sl_png_Chunk:SlT PG E_png_Chunk ty_sl_png_Chunk where
 ht:=by kernel_rfl
 i:=(PG.info? 57).getD default
 hi:=by kernel_rfl
 z:=(.agg #[(.string (⟨#[]⟩:ByteArray)),(.slice none 0 0)])
 hz:=by kernel_rfl
 hs:=by kernel_rfl
 hzs:=rfl
theorem by_sl_png_Chunk:sT_sl_png_Chunk.i.bytes=40:=by kernel_rfl
def E_sl_uint8:El Slc where
 cells x:=[(.slice x.a x.n x.c)]
 t:=ty_sl_uint8
 k:=1
 pos:=by decide
 len _:=rfl
 one x v hv:=by
  simp only [List.mem_cons,List.mem_nil_iff,or_false] at hv
  rcases hv with rfl<;>rfl
noncomputable def sT_sl_sl_uint8:SlT PG E_sl_uint8 ty_sl_sl_uint8 where
 ht:=by kernel_rfl
 i:=(PG.info? 22).getD default
 hi:=by kernel_rfl
 z:=(.slice none 0 0)
 hz:=by kernel_rfl
 hs:=by kernel_rfl
 hzs:=rfl
theorem by_sl_sl_uint8:sT_sl_sl_uint8.i.bytes=24:=by kernel_rfl
def E_int:El Int where
 cells x:=[(.int .i64 x)]
 t:=ty_int
 k:=1
 pos:=by decide
 len _:=rfl
 one x v hv:=by
  simp only [List.mem_cons,List.mem_nil_iff,or_false] at hv
  rcases hv with rfl<;>rfl
noncomputable def sT_sl_int:SlT PG E_int ty_sl_int where
 ht:=by kernel_rfl
 i:=(PG.info? 3).getD default
 hi:=by kernel_rfl
 z:=(.int .i64 0)
 hz:=by kernel_rfl
 hs:=by kernel_rfl
 hzs:=rfl
theorem by_sl_int:sT_sl_int.i.bytes=8:=by kernel_rfl
def E_uint32:El Int where
 cells x:=[(.int .u32 x)]
 t:=ty_uint32
 k:=1
 pos:=by decide
 len _:=rfl
 one x v hv:=by
  simp only [List.mem_cons,List.mem_nil_iff,or_false] at hv
  rcases hv with rfl<;>rfl
noncomputable def sT_sl_uint32:SlT PG E_uint32 ty_sl_uint32 where
 ht:=by kernel_rfl
 i:=(PG.info? 97).getD default
 hi:=by kernel_rfl
 z:=(.int .u32 0)
 hz:=by kernel_rfl
 hs:=by kernel_rfl
 hzs:=rfl
theorem by_sl_uint32:sT_sl_uint32.i.bytes=4:=by kernel_rfl
end Go.Proofs.YtmagnpcgpinmcaaGreat
namespace Go.Proofs.YtmagnpcgpinmcaaGreat
open Go.Vc Go.ChangeShapes Go.WideShapes Go.ChangeAt Go.RowKit
set_option maxRecDepth 100000
theorem own:ownKnob Tryz.prog.godebug=none:=by kernel_rfl
theorem laidOut:laidOutB Tryz.prog=true:=by kernel_rfl
theorem leaf_int {ls:List Leaf} {vs:List Value} {k:IntKind} (h:LeafFit ls vs) (j:Nat) (hj:ls[j]?=some (.int k)):∃z,vs[j]?=some (.int k z)∧(Lit.int k z).wf=true:=by
 obtain ⟨v,hv,z,rfl,hw⟩:=h j _ hj
 exact ⟨z,hv,hw⟩
theorem list_of_get {vs us:List Value} (hl:vs.length=us.length) (h:∀(j:Nat),j<us.length→us[j]?=vs[j]?):us=vs :=
 List.ext_getElem? fun j=>by
  rcases Nat.lt_or_ge j us.length with hj | hj
  ·exact h j hj
  ·rw [List.getElem?_eq_none hj,List.getElem?_eq_none (by omega)]
def byteLs:List Leaf:=[.int .u8]
theorem byte_leaves:leavesL Tryz.prog 4 5=some byteLs:=by kernel_rfl
theorem byte_mk (vs:List Value) (hl:vs.length=1) (h:LeafFit byteLs vs):∃x:UInt8,E_uint8.cells x=vs∧True:=by
 obtain ⟨z,h0,w0⟩:=leaf_int h 0 rfl
 have hw:=(Lit.wf_int_iff _ _).1 w0
 rw [IntKind.min_u8,show IntKind.u8.max=255 from rfl] at hw
 refine ⟨u8 z,list_of_get hl fun j hj=>?_,trivial⟩
 match j,hj with
 | 0,_ =>
  show some (Value.int .u8 ((u8 z).toNat:Int))=_
  rw [u8_toNat hw.1 (by omega)]
  exact h0.symm
 | j+1,hj=>exact absurd hj (by simp [E_uint8])
section
variable {H:Type} {enc:TypeId×Value→H} {w:World} {base:Nat} {held:Bool} {r:Reach} {b0:Nat} {v:Value} {d:DataW H} {p:List MemPlace}
end
end Go.Proofs.YtmagnpcgpinmcaaGreat
namespace Go.Vc
open Go.RowKit
theorem get_of {α:Type} {xs:List α} {k:Nat} (hk:k<xs.length):∃x,xs[k]?=some x∧∀h,xs[((k:Int)).toNat]'h=x:=⟨xs[k],List.getElem?_eq_getElem hk,fun _=>rfl⟩
theorem cut_block {x:Option Addr} {l m k:Nat} {a:Addr} (h:cut x l m k=some a):∃b,x=some b∧a.block=b.block:=by
 unfold cut at h
 split at h
 ·exact ⟨a,h,rfl⟩
 ·obtain ⟨b,hb,rfl⟩:=Option.map_eq_some_iff.1 h
  exact ⟨b,hb,by simp⟩
theorem slk {s:Slc} {k:Nat}:s.blk=some k↔∃a,s.a=some a∧a.block=k:=by
 unfold Slc.blk
 rw [Option.map_eq_some_iff]
theorem callR_plain {C:Cx} {g:Nat} {first cap:Array Value} {args:List Value} {ks:List Kind} {w:World} {K:Cur ks} (hp:C.plain g=true) (h:callP C.P g (first.toList++args++cap.toList) ks w K) :
  callR C (.func (.func g) first cap) args ks w K:=by
 unfold callR callVal
 simp only [hp]
 exact h
theorem rd_lits {T:Type} {E:El T} {w:World} {g:Nat} {ys:List T} {vs:List Value} (hb:Blk w g E.t vs) (hm:ys.length≤maxLen) (hy:flat E ys=vs):Rd E w ⟨some ⟨g,0,none⟩,ys.length,ys.length⟩ ys :=
 (Own.of_blk (E:=E) (xs:=ys) (c:=ys.length) (base:=g) (Nat.le_refl _) hb (Nat.le_refl _) hm (by rw [←hy,flat_length]) (by rw [←hy,List.take_of_length_le (by rw [flat_length];exact Nat.le_refl _)])).rd
theorem own_lits {T:Type} {E:El T} {w:World} {g base:Nat} {ys:List T} {vs:List Value} (hg:base≤g) (hb:Blk w g E.t vs) (hm:ys.length≤maxLen) (hy:flat E ys=vs):Own E w base ⟨some ⟨g,0,none⟩,ys.length,ys.length⟩ ys :=
 Own.of_blk (E:=E) (xs:=ys) (c:=ys.length) (base:=base) hg hb (Nat.le_refl _) hm (by rw [←hy,flat_length]) (by rw [←hy,List.take_of_length_le (by rw [flat_length];exact Nat.le_refl _)])
theorem Chg.gg {w1 w2:World} {k:Nat} (h:w1.grownBy w2 (some k)):Chg (fun i=>i=k) w1 w2:=Chg.of_grown h fun i hi=>by cases hi;rfl
theorem flat_replicate_get {T:Type} (E:El T) (x:T) (n m:Nat) (hm:m<n*E.k):(flat E (List.replicate n x))[m]?=(E.cells x)[m%E.k]?:=by
 have hq:m/E.k<n:=(Nat.div_lt_iff_lt_mul E.pos).2 hm
 have hr:m%E.k<E.k:=Nat.mod_lt _ E.pos
 have e:m/E.k*E.k+m%E.k=m:=by rw [Nat.mul_comm];exact Nat.div_add_mod m E.k
 have hv:(E.cells x)[m%E.k]?=some ((E.cells x)[m%E.k]'(by rw [E.len];exact hr)):=List.getElem?_eq_getElem _
 have:=flat_get E (List.replicate n x) (m/E.k) x (m%E.k) _ (by rw [List.getElem?_replicate,if_pos hq]) hv
 rw [e] at this
 rw [this,hv]
theorem mkSl_of {P:Program} {T:Type} {E:El T} {st:TypeId} (TT:SlT P E st) {x0:T} (hz:(E.cells x0).toArray=TT.z.cells) {kl kc:IntKind} {l c:Int} {n:Nat} (hl:l=n) (hc:c=n) (hb:TT.i.bytes*n≤281474976710656) (hm:n≤maxLen) {w:World} {K:Slc→World→Prop}
  (hK:∀w',Own E w' w.heap.size ⟨some ⟨w.heap.size,0,none⟩,n,n⟩ (List.replicate n x0)→Below w.heap.size w w'→K ⟨some ⟨w.heap.size,0,none⟩,n,n⟩ w'):mkSl P st (.int kl l) (.int kc c) w K:=by
 subst hl hc
 obtain ⟨w',h1,h2,h3⟩:=run_make_full (P:=P) w w.heap.size st E.t TT.i TT.z E.k TT.ht TT.hi TT.hz TT.hs kl kc n hb hm (Nat.le_refl _)
 refine ⟨_,w',h1,hK w' ?_ ⟨h3.os,h3.tape,h3.output,h3.size,fun k hk=>h3.block k hk (by simp)⟩⟩
 unfold Own
 rw [List.length_replicate]
 have e:flat E (List.replicate n x0)=(madeCells TT.z.cells (n*E.k)).toList:=by
  refine List.ext_getElem? fun m=>?_
  by_cases hmm:m<n*E.k
  ·rw [flat_replicate_get E x0 n m hmm]
   have hsz:TT.z.cells.size=E.k:=TT.hzs
   have hr:m%E.k<E.k:=Nat.mod_lt _ E.pos
   have h2:(E.cells x0)[m%E.k]?=TT.z.cells[m%E.k]?:=by rw [←hz];simp
   rw [h2,Array.getElem?_toList]
   simp [madeCells,hmm,hsz,hr]
  ·rw [List.getElem?_eq_none (by rw [flat_length,List.length_replicate];omega),List.getElem?_eq_none (by simp [size_madeCells];omega)]
 rw [e]
 exact h2
theorem ofInt_nat (n x:Nat):BitVec.ofInt n (x:Int)=BitVec.ofNat n x:=by
 apply BitVec.eq_of_toNat_eq
 simp
def kmax:IntKind→Nat
 | .i8=>7 | .i16=>15 | .i32=>31 | .i64=>63 | .u8=>8 | .u16=>16 | .u32=>32 | .u64=>64
theorem wrap_nat (k:IntKind) {x:Nat} (h:x<2^kmax k):k.wrap (x:Int)=x:=by
 cases k<;>simp only [kmax] at h
 ·exact IntWalk.i8_in _ (by omega)
 ·exact IntWalk.i16_in _ (by omega)
 ·exact IntWalk.i32_in _ (by omega)
 ·exact IntWalk.i64_in _ (by omega)
 ·exact IntWalk.u8_in _ (by omega)
 ·exact IntWalk.u16_in _ (by omega)
 ·exact IntWalk.u32_in _ (by omega)
 ·exact IntWalk.u64_in _ (by omega)
theorem kmax_le (k:IntKind):kmax k≤k.bits:=by cases k<;>decide
theorem mod_kmax (k:IntKind) {x:Nat} (h:x<2^kmax k):x%2^k.bits=x:=Nat.mod_eq_of_lt (Nat.lt_of_lt_of_le h (Nat.pow_le_pow_right (by decide) (kmax_le k)))
theorem bits_or (k:IntKind) {a b:Nat} (ha:a<2^kmax k) (hb:b<2^kmax k):bitsR .or k (a:Int) (b:Int)=((a ||| b:Nat):Int):=by
 show k.wrap ((BitVec.ofInt k.bits (a:Int) ||| BitVec.ofInt k.bits (b:Int)).toNat:Int)=_
 rw [ofInt_nat,ofInt_nat,BitVec.toNat_or,BitVec.toNat_ofNat,BitVec.toNat_ofNat,mod_kmax k ha,mod_kmax k hb]
 exact wrap_nat k (Nat.or_lt_two_pow ha hb)
theorem bits_and (k:IntKind) {a b:Nat} (ha:a<2^kmax k) (hb:b<2^kmax k):bitsR .and k (a:Int) (b:Int)=((a &&& b:Nat):Int):=by
 show k.wrap ((BitVec.ofInt k.bits (a:Int) &&& BitVec.ofInt k.bits (b:Int)).toNat:Int)=_
 rw [ofInt_nat,ofInt_nat,BitVec.toNat_and,BitVec.toNat_ofNat,BitVec.toNat_ofNat,mod_kmax k ha,mod_kmax k hb]
 exact wrap_nat k (Nat.and_lt_two_pow _ hb)
theorem bits_xor (k:IntKind) {a b:Nat} (ha:a<2^kmax k) (hb:b<2^kmax k):bitsR .xor k (a:Int) (b:Int)=((a ^^^ b:Nat):Int):=by
 show k.wrap ((BitVec.ofInt k.bits (a:Int) ^^^ BitVec.ofInt k.bits (b:Int)).toNat:Int)=_
 rw [ofInt_nat,ofInt_nat,BitVec.toNat_xor,BitVec.toNat_ofNat,BitVec.toNat_ofNat,mod_kmax k ha,mod_kmax k hb]
 exact wrap_nat k (Nat.xor_lt_two_pow ha hb)
theorem fdiv_nat (a k:Nat):(a:Int).fdiv (2^k)=((a/2^k:Nat):Int):=by
 have e:((2:Int)^k)=((2^k:Nat):Int):=by simp
 rw [e,Int.fdiv_eq_ediv_of_nonneg _ (Int.natCast_nonneg _)]
 rfl
theorem mul_pow_nat (a k:Nat):(a:Int)*2^k=((a*2^k:Nat):Int):=by simp
theorem add_or {a b i:Nat} (h:b<2^i):b ||| 2^i*a=b+2^i*a:=by
 rw [Nat.or_comm,←Nat.two_pow_add_eq_or_of_lt h,Nat.add_comm]
def le:List UInt8→Nat
 | []=>0
 | b::r=>b.toNat+256*le r
theorem le_append (a b:List UInt8):le (a++b)=le a+256^a.length*le b:=by
 induction a with
 | nil=>simp [le]
 | cons x r ih =>
  have e:256*(256^r.length*le b)=256^r.length*256*le b:=by rw [←Nat.mul_assoc,Nat.mul_comm 256]
  rw [List.cons_append,le,le,ih,List.length_cons,Nat.pow_succ,Nat.mul_add,e]
  omega
theorem le_lt (a:List UInt8):le a<256^a.length:=by
 induction a with
 | nil=>simp [le]
 | cons x r ih =>
  rw [le,List.length_cons,Nat.pow_succ]
  have:=x.toNat_lt
  omega
theorem le_split (bs:List UInt8) (k:Nat) (hk:k≤bs.length):le bs=le (bs.take k)+256^k*le (bs.drop k):=by
 conv=>lhs;rw [←List.take_append_drop k bs]
 rw [le_append,List.length_take,Nat.min_eq_left hk]
theorem le_drop (bs:List UInt8) (k:Nat) (hk:k≤bs.length):le bs/256^k=le (bs.drop k):=by
 rw [le_split bs k hk,Nat.add_mul_div_left _ _ (Nat.pow_pos (by decide)),Nat.div_eq_of_lt,Nat.zero_add]
 have:=le_lt (bs.take k)
 rwa [List.length_take,Nat.min_eq_left hk] at this
def peekN (bs:List UInt8) (at_ n:Nat):Nat:=le bs/2^at_%2^n
theorem peekN_lt (bs:List UInt8) (at_ n:Nat):peekN bs at_ n<2^n:=Nat.mod_lt _ (Nat.pow_pos (by decide))
theorem low_bits (x y f m n:Nat) (h:f+n≤m):(x+2^m*y)/2^f%2^n=x/2^f%2^n:=by
 have e:2^m*y=2^f*(2^n*(2^(m-f-n)*y)):=by
  rw [←Nat.mul_assoc,←Nat.mul_assoc,←Nat.pow_add,←Nat.pow_add]
  congr 2
  omega
 rw [e,Nat.add_mul_div_left _ _ (Nat.pow_pos (by decide)),Nat.add_mul_mod_self_left]
theorem pow256 (k:Nat):256^k=2^(8*k):=by rw [Nat.pow_mul]
theorem peekN_bytes (bs:List UInt8) (at_ n cnt:Nat) (h1:at_%8+n≤8*cnt) (h2:at_/8+cnt≤bs.length):peekN bs at_ n=le ((bs.drop (at_/8)).take cnt)/2^(at_%8)%2^n:=by
 unfold peekN
 have e:2^at_=256^(at_/8)*2^(at_%8):=by
  rw [pow256,←Nat.pow_add]
  congr 1
  omega
 rw [e,←Nat.div_div_eq_div_mul,le_drop bs _ (by omega),le_split (bs.drop (at_/8)) cnt (by simp;omega),pow256]
 exact low_bits _ _ _ _ _ h1
theorem peekN_drop (bs:List UInt8) (k at_ n:Nat) (hk:k≤bs.length):peekN (bs.drop k) at_ n=peekN bs (8*k+at_) n:=by
 unfold peekN
 rw [←le_drop bs k hk,pow256,Nat.div_div_eq_div_mul,←Nat.pow_add]
theorem peekN_add (bs:List UInt8) (at_ m n:Nat):peekN bs at_ (m+n)=peekN bs at_ m+2^m*peekN bs (at_+m) n:=by
 unfold peekN
 rw [Nat.pow_add,Nat.mod_mul,Nat.div_div_eq_div_mul,←Nat.pow_add]
theorem peekN_mod (bs:List UInt8) (at_ m n:Nat) (h:m≤n):peekN bs at_ n%2^m=peekN bs at_ m:=by
 obtain ⟨d,rfl⟩:∃d,n=m+d:=⟨n-m,by omega⟩
 rw [peekN_add,Nat.add_mul_mod_self_left,Nat.mod_eq_of_lt (peekN_lt _ _ _)]
theorem peekN_div (bs:List UInt8) (at_ m n:Nat) (h:m≤n):peekN bs at_ n/2^m=peekN bs (at_+m) (n-m):=by
 obtain ⟨d,rfl⟩:∃d,n=m+d:=⟨n-m,by omega⟩
 rw [peekN_add,Nat.add_mul_div_left _ _ (Nat.pow_pos (by decide)),Nat.div_eq_of_lt (peekN_lt _ _ _),Nat.zero_add,Nat.add_sub_cancel_left]
theorem peekN_byte (bs:List UInt8) (k:Nat) (hk:k<bs.length):peekN bs (8*k) 8=bs[k].toNat:=by
 have:=peekN_bytes bs (8*k) 8 1 (by omega) (by omega)
 have e:(bs.drop k).take 1=[bs[k]]:=by rw [List.drop_eq_getElem_cons hk];rfl
 rw [this,show 8*k/8=k by omega,show 8*k%8=0 by omega,e]
 have:=bs[k].toNat_lt
 show (bs[k].toNat+256*0)/2^0%2^8=_
 rw [Nat.pow_zero,Nat.div_one]
 omega
theorem ldB8 {w:World} {a:Addr} {b:UInt8} {K:Int→Prop} (h:cellsAt w a [.int .u8 (b.toNat:Int)]) (hK:K (b.toNat:Int)):ldI .u8 a w K:=lI (x:=(b.toNat:Int)) (by simpa using h 0 _ rfl) hK
end Go.Vc
namespace Go.Proofs.YtmagnpcgpinmcaaGreat
open Go.Vc Go.ChangeShapes Go.WideShapes Go.ChangeAt Go.RowKit
set_option maxRecDepth 100000
end Go.Proofs.YtmagnpcgpinmcaaGreat
set_option linter.unusedVariables false
namespace Go.Vc
open Go.RowKit
theorem snoc_own {P:Program} {T:Type} {E:El T} {st ty:TypeId} (TT:SlT P E st) {w:World} {base:Nat} {s:Slc} {xs:List T} {y:T} {vs:List Value} {K:Slc→World→Prop} (hown:Own E w base s xs) (hy:E.cells y=vs)
  (hb:base≤w.heap.size) (hl:(xs.length+1)*TT.i.bytes≤140737488355328) (hm:xs.length+1≤maxLen)
  (hK:∀r w',Own E w' base r (xs++[y])→Chg (fun k=>s.blk=some k) w w'→(∀k,r.blk=some k→s.blk=some k∨w.heap.size≤k)→K r w') :
  nw E.t vs w fun a w1=>apK P #[st,st] ty s ⟨some a,1,1⟩ w1 fun r w2=>K r w2:=by
 refine nwb fun w1 hb1 hB1 hs1=>?_
 refine apK_own TT (hown.ext hB1) (rd_one hb1 hy) (by omega) (by simpa using hl) (by simpa using hm) fun r w2 ho hg hr=>hK r w2 ho ?_ ?_
 ·exact (Chg.of_ext hB1).trans (Chg.of_grown (S:=fun k=>s.blk=some k) hg fun k hk=>hk) fun i _ hi=>hi
 ·intro k hk
  rcases hr with hr | hr
  ·exact .inl (hr ▸ hk)
  ·right
   rw [hr] at hk
   cases hk
   omega
theorem onPtr_a {a:Addr} {K:Addr→Prop} (h:K a):onPtr (some a) K:=h
theorem own_ne_blk {w:World} {T:Type} {E:El T} {b g:Nat} {s:Slc} {xs:List T} {t:TypeId} {vs:List Value} (h:Own E w b s xs) (h':Blk w g t vs) (hne:E.t≠t):∀k,s.blk=some k→k≠g:=fun k hk=>by
 obtain ⟨cs,hcs⟩:=h.blk_t hk
 exact hcs.ne_t h' hne
theorem own_ne_row {w:World} {T T':Type} {E:El T} {E':El T'} {b b':Nat} {s s':Slc} {xs:List T} {ys:List T'} (h:Own E w b s xs) (h':Own E' w b' s' ys) (hne:E.t≠E'.t):∀k,s.blk=some k→s'.blk≠some k:=fun k hk e=>by
 obtain ⟨cs,hcs⟩:=h.blk_t hk
 obtain ⟨cs',hcs'⟩:=h'.blk_t e
 exact hcs.ne_t hcs' hne rfl
end Go.Vc
set_option linter.unusedVariables false
namespace Go.Proofs.YtmagnpcgpinmcaaGreat
open Go.Vc
def bitC (r:Nat):Nat:=if r%2=1 then (r/2) ^^^ 3988292384 else r/2
def halfT:List Nat:=[0x00000000,0x1DB71064,0x3B6E20C8,0x26D930AC,0x76DC4190,0x6B6B51F4,0x4DB26158,0x5005713C,0xEDB88320,0xF00F9344,0xD6D6A3E8,0xCB61B38C,0x9B64C2B0,0x86D3D2D4,0xA00AE278,0xBDBDF21C]
def nibC (v:Nat):Nat:=(v/16) ^^^ (halfT[v%16]?.getD 0)
def byteC (v:Nat) (x:UInt8):Nat:=nibC (nibC (v ^^^ x.toNat))
def crcS (v:Nat) (bs:List UInt8):Nat:=bs.foldl byteC v
def crcN (bs:List UInt8):Nat:=crcS 4294967295 bs ^^^ 4294967295
theorem xor_mod2 (a b:Nat):(a ^^^ b)%2=(a%2+b%2)%2:=by
 have h:=Nat.testBit_xor (x:=a) (y:=b) (i:=0)
 simp only [Nat.testBit_zero] at h
 rcases Nat.mod_two_eq_zero_or_one a with ha | ha<;>rcases Nat.mod_two_eq_zero_or_one b with hb | hb<;>rcases Nat.mod_two_eq_zero_or_one (a ^^^ b) with hc | hc<;>rw [ha,hb,hc] at h<;>rw [ha,hb,hc]<;>first | rfl | cases h
theorem xor_div2 (a b:Nat):(a ^^^ b)/2=a/2 ^^^ b/2:=by
 have:=Nat.shiftRight_xor_distrib (a:=a) (b:=b) (i:=1)
 simpa [Nat.shiftRight_succ] using this
theorem bitC_xor (a b:Nat):bitC (a ^^^ b)=bitC a ^^^ bitC b:=by
 unfold bitC
 rw [xor_mod2,xor_div2]
 rcases Nat.mod_two_eq_zero_or_one a with ha | ha<;>rcases Nat.mod_two_eq_zero_or_one b with hb | hb<;>simp [ha,hb]
 ·exact Nat.xor_assoc _ _ _
 ·rw [Nat.xor_assoc,Nat.xor_comm (b/2) 3988292384,Nat.xor_assoc]
 ·have:∀x y c:Nat,x ^^^ c ^^^ (y ^^^ c)=x ^^^ y:=fun x y c=>by
   rw [Nat.xor_assoc,Nat.xor_comm y c,←Nat.xor_assoc c c y,Nat.xor_self,Nat.zero_xor]
  exact (this _ _ _).symm
theorem split16 (v:Nat):v=16*(v/16) ^^^ v%16:=by
 have h:2^4*(v/16)+v%16=2^4*(v/16) ||| v%16:=Nat.two_pow_add_eq_or_of_lt (by omega) _
 have e:16*(v/16) ^^^ v%16=2^4*(v/16) ||| v%16:=by
  refine Nat.eq_of_testBit_eq fun i=>?_
  rw [Nat.testBit_xor,Nat.testBit_or]
  by_cases hi:i<4
  ·have:(16*(v/16)).testBit i=false:=by
    have:=Nat.testBit_two_pow_mul (i:=4) (a:=v/16) (j:=i)
    rw [show (2:Nat)^4=16 from rfl] at this
    rw [this]
    simp
    omega
   rw [show (2:Nat)^4=16 from rfl,this]
   simp
  ·have:(v%16).testBit i=false:=Nat.testBit_lt_two_pow (Nat.lt_of_lt_of_le (Nat.mod_lt _ (by decide)) (show 2^4≤2^i from Nat.pow_le_pow_right (by decide) (by omega)))
   rw [this]
   simp
 rw [e,←h]
 omega
theorem bit4_16 (q:Nat):bitC (bitC (bitC (bitC (16*q))))=q:=by
 unfold bitC
 rw [if_neg (show ¬16*q%2=1 by omega),if_neg (show ¬16*q/2%2=1 by omega),if_neg (show ¬16*q/2/2%2=1 by omega),if_neg (show ¬16*q/2/2/2%2=1 by omega)]
 omega
theorem bit4_low:∀r:Nat,r<16→bitC (bitC (bitC (bitC r)))=halfT[r]?.getD 0:=by decide +kernel
theorem nib_bits (v:Nat):nibC v=bitC (bitC (bitC (bitC v))):=by
 conv=>rhs;rw [split16 v]
 rw [bitC_xor,bitC_xor,bitC_xor,bitC_xor,bit4_16,bit4_low _ (Nat.mod_lt _ (by decide))]
 rfl
theorem bitC_lt {r:Nat} (h:r<2^32):bitC r<2^32:=by
 unfold bitC
 split
 ·exact Nat.xor_lt_two_pow (by omega) (by decide)
 ·omega
theorem nibC_lt {r:Nat} (h:r<2^32):nibC r<2^32:=by
 rw [nib_bits]
 exact bitC_lt (bitC_lt (bitC_lt (bitC_lt h)))
theorem xorb_lt {v:Nat} (h:v<2^32) (x:UInt8):v ^^^ x.toNat<2^32:=Nat.xor_lt_two_pow h (by have:=x.toNat_lt;omega)
theorem byteC_lt {v:Nat} (h:v<2^32) (x:UInt8):byteC v x<2^32:=nibC_lt (nibC_lt (xorb_lt h x))
theorem crcS_lt:∀(bs:List UInt8) {v:Nat},v<2^32→crcS v bs<2^32
 | [],_,h=>h
 | x::r,_,h=>crcS_lt r (byteC_lt h x)
theorem crcN_lt (bs:List UInt8):crcN bs<2^32:=Nat.xor_lt_two_pow (crcS_lt bs (by decide)) (by decide)
theorem xor_cancel {a b c:Nat} (h:a ^^^ c=b ^^^ c):a=b:=by
 have:=congrArg (· ^^^ c) h
 simpa [Nat.xor_assoc] using this
theorem xor_cancel_l {a b c:Nat} (h:c ^^^ a=c ^^^ b):a=b:=xor_cancel (c:=c) (by rw [Nat.xor_comm a,Nat.xor_comm b];exact h)
theorem bitC_zero {d:Nat} (hd:d<2^32) (h:bitC d=0):d=0:=by
 unfold bitC at h
 split at h
 ·exfalso
  have e:d/2=3988292384:=by
   have:=congrArg (· ^^^ 3988292384) h
   simpa [Nat.xor_assoc] using this
  omega
 ·omega
theorem bitC_inj {a b:Nat} (ha:a<2^32) (hb:b<2^32) (h:bitC a=bitC b):a=b:=by
 have h0:bitC (a ^^^ b)=0:=by rw [bitC_xor,h,Nat.xor_self]
 have:=bitC_zero (Nat.xor_lt_two_pow ha hb) h0
 exact xor_cancel (c:=b) (by rw [this,Nat.xor_self])
theorem nibC_inj {a b:Nat} (ha:a<2^32) (hb:b<2^32) (h:nibC a=nibC b):a=b:=by
 rw [nib_bits,nib_bits] at h
 exact bitC_inj ha hb (bitC_inj (bitC_lt ha) (bitC_lt hb) (bitC_inj (bitC_lt (bitC_lt ha)) (bitC_lt (bitC_lt hb)) (bitC_inj (bitC_lt (bitC_lt (bitC_lt ha))) (bitC_lt (bitC_lt (bitC_lt hb))) h)))
theorem byteC_inj {a b:Nat} (x y:UInt8) (ha:a<2^32) (hb:b<2^32) (h:byteC a x=byteC b y):a ^^^ x.toNat=b ^^^ y.toNat :=
 nibC_inj (xorb_lt ha x) (xorb_lt hb y) (nibC_inj (nibC_lt (xorb_lt ha x)) (nibC_lt (xorb_lt hb y)) h)
theorem crcS_inj:∀(bs:List UInt8) {a b:Nat},a<2^32→b<2^32→crcS a bs=crcS b bs→a=b
 | [],_,_,_,_,h=>h
 | x::r,_,_,ha,hb,h=>xor_cancel (byteC_inj x x ha hb (crcS_inj r (byteC_lt ha x) (byteC_lt hb x) h))
theorem crc_turned (a c:List UInt8) {x y:UInt8} (hxy:x≠y):crcN (a++x::c)≠crcN (a++y::c):=by
 intro h
 have h:=xor_cancel h
 unfold crcS at h
 rw [List.foldl_append,List.foldl_append,List.foldl_cons,List.foldl_cons] at h
 have hv:a.foldl byteC 4294967295<2^32:=crcS_lt a (by decide)
 have h:=byteC_inj x y hv hv (crcS_inj c (byteC_lt hv x) (byteC_lt hv y) h)
 exact hxy (UInt8.toNat_inj.1 (xor_cancel_l h))
end Go.Proofs.YtmagnpcgpinmcaaGreat
set_option linter.unusedVariables false
namespace Go.Proofs.YtmagnpcgpinmcaaGreat
open Go.Vc
def paethP (a b c:UInt8):UInt8 :=
 let p:Int:=(a.toNat:Int)+(b.toNat:Int)-(c.toNat:Int)
 let pa:=(p-(a.toNat:Int)).natAbs
 let pb:=(p-(b.toNat:Int)).natAbs
 let pc:=(p-(c.toNat:Int)).natAbs
 if pa≤pb∧pa≤pc then a else if pb≤pc then b else c
def guessP (kind:Nat) (a b c:UInt8):UInt8 :=
 match kind with
 | 1=>a
 | 2=>b
 | 3=>UInt8.ofNat ((a.toNat+b.toNat)/2)
 | 4=>paethP a b c
 | _=>0
def prevP (l:List UInt8) (i step:Nat):UInt8:=if step≤i then l[i-step]?.getD 0 else 0
def gAt (kind:Nat) (l ahead:List UInt8) (step i:Nat):UInt8:=guessP kind (prevP l i step) (ahead[i]?.getD 0) (prevP ahead i step)
def undoF (kind:Nat) (ahead:List UInt8) (step:Nat):List UInt8→List UInt8→List UInt8
 | [],out=>out
 | x::r,out=>undoF kind ahead step r (out++[x+gAt kind out ahead step out.length])
def undoP (kind:Nat) (row ahead:List UInt8) (step:Nat):List UInt8:=undoF kind ahead step row []
def doP (kind:Nat) (row ahead:List UInt8) (step:Nat):List UInt8:=row.mapIdx fun i x=>x-gAt kind row ahead step i
theorem undoF_length (kind:Nat) (ahead:List UInt8) (step:Nat):∀(row out:List UInt8),(undoF kind ahead step row out).length=out.length+row.length
 | [],out=>rfl
 | x::r,out=>by rw [undoF,undoF_length];simp;omega
theorem undoP_length (kind:Nat) (row ahead:List UInt8) (step:Nat):(undoP kind row ahead step).length=row.length:=by rw [undoP,undoF_length];simp
theorem doP_length (kind:Nat) (row ahead:List UInt8) (step:Nat):(doP kind row ahead step).length=row.length:=by simp [doP]
theorem undoF_take (kind:Nat) (ahead:List UInt8) (step:Nat):∀(row out:List UInt8),(undoF kind ahead step row out).take out.length=out
 | [],out=>by rw [undoF,List.take_length]
 | x::r,out=>by
  have h:=undoF_take kind ahead step r (out++[x+gAt kind out ahead step out.length])
  rw [undoF]
  have h2:=congrArg (List.take out.length) h
  rw [List.take_take] at h2
  simpa using h2
theorem undoF_append (kind:Nat) (ahead:List UInt8) (step:Nat):∀(a b out:List UInt8),undoF kind ahead step (a++b) out=undoF kind ahead step b (undoF kind ahead step a out)
 | [],b,out=>rfl
 | x::r,b,out=>by rw [List.cons_append,undoF,undoF_append];rfl
theorem undoP_step (kind:Nat) (row ahead:List UInt8) (step i:Nat) {x:UInt8} (hx:row[i]?=some x) (hs:1≤step) :
  (undoP kind row ahead step).take (i+1)=(undoP kind row ahead step).take i++[x+gAt kind (undoP kind row ahead step) ahead step i]:=by
 have hi:i<row.length:=(List.getElem?_eq_some_iff.1 hx).1
 have e:row=row.take i++x::row.drop (i+1):=by
  rw [List.getElem?_eq_getElem hi] at hx
  rw [←Option.some.inj hx,←List.drop_eq_getElem_cons hi,List.take_append_drop]
 generalize ho:undoF kind ahead step (row.take i) []=o
 have hol:o.length=i:=by rw [←ho,undoF_length];simp;omega
 have e1:undoP kind row ahead step=undoF kind ahead step (row.drop (i+1)) (o++[x+gAt kind o ahead step i]):=by
  conv=>lhs;rw [undoP,e,undoF_append,ho,undoF,hol]
 have t1:(undoP kind row ahead step).take (i+1)=o++[x+gAt kind o ahead step i]:=by
  have:=undoF_take kind ahead step (row.drop (i+1)) (o++[x+gAt kind o ahead step i])
  rw [←e1,List.length_append,hol] at this
  exact this
 have t0:(undoP kind row ahead step).take i=o:=by
  have:=congrArg (List.take i) t1
  rw [List.take_take,Nat.min_eq_left (by omega),List.take_append_of_le_length (by omega),List.take_of_length_le (show o.length≤i by omega)] at this
  exact this
 have hg:gAt kind (undoP kind row ahead step) ahead step i=gAt kind o ahead step i:=by
  unfold gAt prevP
  congr 1
  split
  ·rw [←t0,List.getElem?_take_of_lt (by omega)]
  ·rfl
 rw [t1,t0,hg]
theorem doP_get (kind:Nat) (row ahead:List UInt8) (step i:Nat) {x:UInt8} (hx:row[i]?=some x):(doP kind row ahead step)[i]?=some (x-gAt kind row ahead step i):=by
 unfold doP
 rw [List.getElem?_mapIdx,hx]
 rfl
theorem u8_sub_add (x y:UInt8):x-y+y=x:=UInt8.sub_add_cancel x y
theorem undo_do (kind:Nat) (row ahead:List UInt8) (step:Nat) (hs:1≤step):undoP kind (doP kind row ahead step) ahead step=row:=by
 have key:∀i,i≤row.length→(undoP kind (doP kind row ahead step) ahead step).take i=row.take i:=by
  intro i
  induction i with
  | zero=>intro _;rfl
  | succ i ih =>
   intro hi
   have ih:=ih (by omega)
   have hx:row[i]?=some row[i]:=List.getElem?_eq_getElem (by omega)
   rw [undoP_step kind _ ahead step i (doP_get kind row ahead step i hx) hs,ih,List.take_succ_eq_append_getElem (by omega)]
   congr 2
   have hg:gAt kind (undoP kind (doP kind row ahead step) ahead step) ahead step i=gAt kind row ahead step i:=by
    unfold gAt prevP
    congr 1
    split
    ·have h1:((undoP kind (doP kind row ahead step) ahead step).take i)[i-step]?=(row.take i)[i-step]?:=by rw [ih]
     rw [List.getElem?_take_of_lt (by omega),List.getElem?_take_of_lt (by omega)] at h1
     rw [h1]
    ·rfl
   rw [hg,u8_sub_add]
 have h:=key row.length (Nat.le_refl _)
 rw [List.take_length,List.take_of_length_le (by rw [undoP_length,doP_length];exact Nat.le_refl _)] at h
 exact h
def sampleN (row:List UInt8) (d i:Nat):Nat :=
 if d=16 then (row[2*i]?.getD 0).toNat*256+(row[2*i+1]?.getD 0).toNat
 else (row[i*d/8]?.getD 0).toNat/2^(8-d-i*d%8)%2^d
def samplesP (row:List UInt8) (d n:Nat):List Nat:=(List.range n).map (sampleN row d)
def isDepthP (d:Int):Bool:=decide (d=1) || decide (d=2) || decide (d=4) || decide (d=8) || decide (d=16)
def rowP (w samples d:Int):Nat:=if w<1∨w>16384∨samples<1∨samples>4∨isDepthP d=false then 0 else ((w*samples*d+7)/8).toNat
structure PassP where
 x:Nat
 y:Nat
 dx:Nat
 dy:Nat
def passesL:List PassP:=[⟨0,0,8,8⟩,⟨4,0,8,8⟩,⟨0,4,4,8⟩,⟨2,0,4,4⟩,⟨0,2,2,4⟩,⟨1,0,2,2⟩,⟨0,1,1,2⟩]
def onePass:List PassP:=[⟨0,0,1,1⟩]
def sizeP (p:PassP) (w h:Nat):Nat×Nat:=if p.x≥w∨p.y≥h then (0,0) else ((w-p.x-1)/p.dx+1,(h-p.y-1)/p.dy+1)
end Go.Proofs.YtmagnpcgpinmcaaGreat
namespace Go.Proofs.YtmagnpcgpinmcaaGreat
open Go.Vc Go.RowKit
theorem apB {w:World} {b:Nat} {s x:Slc} {xs ys:List UInt8} {K:Slc→World→Prop} (hown:Own E_uint8 w b s xs) (hx:Rd E_uint8 w x ys) (hb:b≤w.heap.size) (hl:xs.length+ys.length≤1000000000000)
  (hK:∀r w',Own E_uint8 w' b r (xs++ys)→Chg (fun k=>s.blk=some k) w w'→(r.blk=s.blk∨r.blk=some w.heap.size)→K r w'):apK PG #[ty_sl_uint8,ty_sl_uint8] ty_sl_uint8 s x w K :=
 apK_own sT_sl_uint8 hown hx hb (by rw [by_sl_uint8];omega) (by simp only [maxLen];omega) fun r w' h1 h2 h3=>hK r w' h1 (Chg.of_grown h2 fun k hk=>hk) h3
theorem apB1 {w:World} {b:Nat} {s:Slc} {xs:List UInt8} {c:UInt8} {v:Int} {K:Slc→World→Prop} (hv:v=(c.toNat:Int)) (hown:Own E_uint8 w b s xs) (hb:b≤w.heap.size) (hl:xs.length≤900000000000)
  (hK:∀r w',Own E_uint8 w' b r (xs++[c])→Chg (fun k=>s.blk=some k) w w'→(r.blk=s.blk∨∃k,r.blk=some k∧w.heap.size≤k)→K r w') :
  nw ty_uint8 [(.int .u8 v)] w fun t w1=>apK PG #[ty_sl_uint8,ty_sl_uint8] ty_sl_uint8 s (⟨(some t),1,1⟩:Slc) w1 K:=by
 subst hv
 refine nwb fun w1 hb1 hB1 hs1=>?_
 have hr:Rd E_uint8 w1 ⟨some ⟨w.heap.size,0,none⟩,1,1⟩ [c]:=rd_one (E:=E_uint8) hb1 rfl
 refine apB (hown.ext hB1) hr (by omega) (by simp;omega) fun r w2 ho hc hq=>hK r w2 ho ((Chg.of_ext (S:=fun k=>s.blk=some k) hB1).trans hc fun i _ hi=>hi) ?_
 rcases hq with e | e
 ·exact .inl e
 ·exact .inr ⟨_,e,by omega⟩
theorem rdB_len {w:World} {s:Slc} {xs:List UInt8} (h:Rd E_uint8 w s xs):xs.length≤maxLen:=by
 have h1:=h.n
 have h2:=h.nc
 have h3:=h.cm
 omega
theorem CloneB_spec {s:Slc} {xs:List UInt8} {w:World} {K:Slc→World→Prop} (h:Rd E_uint8 w s xs) (hl:xs.length≤900000000000)
  (hK:∀r w',Own E_uint8 w' w.heap.size r xs→Below w.heap.size w w'→K r w'):c_slices_Clone_byte_byte s w K:=by
 refine call_slices_Clone_byte_byte _ ?_
 unfold sh_slices_Clone_byte_byte
 cases ha:s.a with
 | none =>
  have:=h.none_nil ha
  subst this
  exact cT rfl (hK _ _ (Own.nil _ _ _) (Below.refl _ _))
 | some a =>
  refine cF rfl ?_
  refine nwb fun w1 hb1 hB1 hs1=>?_
  refine apB (own_empty (E:=E_uint8) hb1 (Nat.le_refl _)) (h.ext hB1) (by omega) (by simp;omega) fun r w2 ho hc hq=>?_
  rw [List.nil_append] at ho
  exact hK r w2 ho (hB1.trans (hc.below (by omega) fun i hi hs=>by have e:w.heap.size=i:=Option.some.inj hs;omega))
theorem GrowB_nil {n:Int} {w:World} {K:Slc→World→Prop} (h0:0≤n) (hn:n≤900000000000) (hK:∀r w',Own E_uint8 w' w.heap.size r []→Below w.heap.size w w'→K r w'):c_slices_Grow_byte_byte (⟨none,0,0⟩:Slc) n w K:=by
 refine call_slices_Grow_byte_byte _ _ ?_
 unfold sh_slices_Grow_byte_byte
 refine jpO fun J hJ=>?_
 refine cF (by simpa using h0) (hJ _ _ ?_)
 have hw:IntKind.i64.wrap (n-(IntKind.i64.wrap (((0:Nat):Int)-((0:Nat):Int))))=n:=by
  rw [w64i (x:=((0:Nat):Int)-((0:Nat):Int)) (by omega),w64i (by omega)]
  omega
 simp only [hw]
 refine cO (fun h=>?_) (fun h=>?_)
 ·have h:=of_decide_eq_true h
  refine bnd_some (by omega) (by omega) (bnd_none ?_)
  refine apM_nil sT_sl_uint8 (kk:=.i64) (by kernel_rfl) (n:=n.toNat) (by omega) (by omega) (by simp only [maxLen];omega) (by rw [by_sl_uint8];omega) fun cap w' h1 h2 ho hB=>?_
  refine bnd_some (by omega) (by simp) (bnd_none ?_)
  have e:cut (some ⟨w.heap.size,0,none⟩) 0 cap 1=some ⟨w.heap.size,0,none⟩:=by
   unfold cut
   split
   ·rfl
   ·simp
  show K ⟨cut (some ⟨w.heap.size,0,none⟩) 0 cap 1,0,cap⟩ w'
  rw [e]
  exact hK _ _ ho hB
 ·exact hK _ _ (Own.nil _ _ _) (Below.refl _ _)
def slsE:El Slc where
 cells s:=[.slice s.a s.n s.c]
 t:=ty_sl_uint8
 k:=1
 pos:=by decide
 len _:=rfl
 one x v hv:=by
  simp only [List.mem_cons,List.mem_nil_iff,or_false] at hv
  rcases hv with rfl
  rfl
def RdAllB (w:World) (ss:List Slc) (xss:List (List UInt8)):Prop:=ss.length=xss.length∧∀(i:Nat) s xs,ss[i]?=some s→xss[i]?=some xs→Rd E_uint8 w s xs
theorem rdAllB2 {w:World} {a b:Slc} {xs ys:List UInt8} (ha:Rd E_uint8 w a xs) (hb:Rd E_uint8 w b ys):RdAllB w [a,b] [xs,ys]:=by
 refine ⟨rfl,fun i s l hs hl=>?_⟩
 match i,hs,hl with
 | 0,hs,hl=>cases hs;cases hl;exact ha
 | 1,hs,hl=>cases hs;cases hl;exact hb
 | i+2,hs,hl=>cases hs
theorem rdAllB3 {w:World} {a b c:Slc} {xs ys zs:List UInt8} (ha:Rd E_uint8 w a xs) (hb:Rd E_uint8 w b ys) (hc:Rd E_uint8 w c zs):RdAllB w [a,b,c] [xs,ys,zs]:=by
 refine ⟨rfl,fun i s l hs hl=>?_⟩
 match i,hs,hl with
 | 0,hs,hl=>cases hs;cases hl;exact ha
 | 1,hs,hl=>cases hs;cases hl;exact hb
 | 2,hs,hl=>cases hs;cases hl;exact hc
 | i+3,hs,hl=>cases hs
theorem flat_take_le (xss:List (List UInt8)) (k:Nat):(xss.take k).flatten.length≤xss.flatten.length:=by
 conv=>rhs;rw [←List.take_append_drop k xss]
 rw [List.flatten_append,List.length_append]
 omega
theorem flat_take_one {xss:List (List UInt8)} {k:Nat} {xs:List UInt8} (h:xss[k]?=some xs):(xss.take (k+1)).flatten=(xss.take k).flatten++xs:=by
 rw [List.take_add_one,h]
 simp
theorem ConcatB_spec {p:Slc} {ss:List Slc} {xss:List (List UInt8)} {w:World} {K:Slc→World→Prop} (hp:Rd slsE w p ss) (hss:RdAllB w ss xss) (hl:xss.flatten.length≤900000000000) (hn:ss.length≤1000000)
  (hK:∀r w',Own E_uint8 w' w.heap.size r xss.flatten→Below w.heap.size w w'→K r w'):c_slices_Concat_byte_byte p w K:=by
 refine call_slices_Concat_byte_byte _ ?_
 unfold sh_slices_Concat_byte_byte
 have hpn:=hp.n
 obtain ⟨hsl,hss⟩:=hss
 refine lpR (fun (s:Int×Int×Unit) w2=>∃k:Nat,s.2.1=k∧k≤ss.length∧s.1=((xss.take k).flatten.length:Nat)∧w2=w) (fun s=>ss.length-s.2.1.toNat) ⟨0,rfl,by omega,rfl,rfl⟩ ?_
 rintro ⟨t,i,_⟩ w2 ⟨k,rfl,hk,rfl,rfl⟩ I hI
 dsimp only at *
 have hle:=flat_take_le xss
 refine cO (fun hlt=>?_) (fun hge=>?_)
 ·have hlt:=of_decide_eq_true hlt
  rw [hpn] at hlt
  have hkl:k<ss.length:=by omega
  have hx:ss[k]?=some ss[k]:=List.getElem?_eq_getElem hkl
  have hy:xss[k]?=some (xss[k]'(by omega)):=List.getElem?_eq_getElem _
  refine hp.ix rfl (by omega) (by omega) fun hc=>?_
  refine lSl (x:=ss[k]) (by simpa using hc 0 _ rfl) ?_
  have hr:=hss k _ _ hx hy
  have hrn:=hr.n
  have hf:=flat_take_one hy
  have h1:=hle (k+1)
  rw [hf,List.length_append] at h1
  rw [hrn,w64i (by omega)]
  refine cF (by simp;omega) ?_
  rw [w64i (by omega)]
  exact hI _ _ ⟨k+1,by simp,by omega,by rw [hf];simp,rfl⟩ (by simp;omega)
 ·have hge:=of_decide_eq_false hge
  rw [hpn] at hge
  have:k=ss.length:=by omega
  subst this
  have h1:=hle ss.length
  refine GrowB_nil (by omega) (by omega) fun g w3 ho3 hB3=>?_
  refine lpR (fun (s:Slc×Int×Unit) w4=>∃k:Nat,s.2.1=k∧k≤ss.length∧Own E_uint8 w4 w2.heap.size s.1 ((xss.take k).flatten)∧Below w2.heap.size w2 w4) (fun s=>ss.length-s.2.1.toNat) ⟨0,rfl,by omega,by simpa using ho3,hB3⟩ ?_
  rintro ⟨t,i,_⟩ w4 ⟨k,rfl,hk,ho,hB⟩ I2 hI2
  dsimp only at *
  refine cO (fun hlt=>?_) (fun hge=>?_)
  ·have hlt:=of_decide_eq_true hlt
   rw [hpn] at hlt
   have hkl:k<ss.length:=by omega
   have hx:ss[k]?=some ss[k]:=List.getElem?_eq_getElem hkl
   have hy:xss[k]?=some (xss[k]'(by omega)):=List.getElem?_eq_getElem _
   refine (hp.ext hB).ix rfl (by omega) (by omega) fun hc=>?_
   refine lSl (x:=ss[k]) (by simpa using hc 0 _ rfl) ?_
   have hr:=(hss k _ _ hx hy).ext hB
   have hf:=flat_take_one hy
   have h1:=hle (k+1)
   rw [hf,List.length_append] at h1
   refine apB ho hr hB.size (by omega) fun r w5 ho5 hc5 hr5=>?_
   rw [w64i (by omega)]
   exact hI2 _ _ ⟨k+1,by simp,by omega,by rw [hf];exact ho5,hB.trans (hc5.below hB.size fun i hi hs=>by have:=(ho.lt i hs).1;omega)⟩ (by simp;omega)
  ·have hge:=of_decide_eq_false hge
   rw [hpn] at hge
   have:k=ss.length:=by omega
   subst this
   rw [hsl,List.take_length] at ho
   exact hK _ _ ho hB
theorem ConcatB2 {a b:Slc} {xs ys:List UInt8} {w:World} {K:Slc→World→Prop} (ha:Rd E_uint8 w a xs) (hb:Rd E_uint8 w b ys) (hl:xs.length+ys.length≤900000000000)
  (hK:∀r w',Own E_uint8 w' w.heap.size r (xs++ys)→Below w.heap.size w w'→K r w'):nw ty_sl_uint8 [(.slice a.a a.n a.c),(.slice b.a b.n b.c)] w fun t w1=>c_slices_Concat_byte_byte (⟨(some t),2,2⟩:Slc) w1 K:=by
 refine nwb fun w1 hb1 hB1 hs1=>?_
 refine ConcatB_spec (rd_lits (E:=slsE) (ys:=[a,b]) hb1 (by simp [maxLen]) rfl) (rdAllB2 (ha.ext hB1) (hb.ext hB1)) (by simpa using hl) (by simp) fun r w2 ho hB=>?_
 have e:[xs,ys].flatten=xs++ys:=by simp
 rw [e] at ho
 exact hK r w2 (ho.base (by omega)) (hB1.trans (hB.mono hB1.size))
theorem ConcatB3 {a b c:Slc} {xs ys zs:List UInt8} {w:World} {K:Slc→World→Prop} (ha:Rd E_uint8 w a xs) (hb:Rd E_uint8 w b ys) (hc:Rd E_uint8 w c zs) (hl:xs.length+ys.length+zs.length≤900000000000)
  (hK:∀r w',Own E_uint8 w' w.heap.size r (xs++ys++zs)→Below w.heap.size w w'→K r w'):nw ty_sl_uint8 [(.slice a.a a.n a.c),(.slice b.a b.n b.c),(.slice c.a c.n c.c)] w fun t w1=>c_slices_Concat_byte_byte (⟨(some t),3,3⟩:Slc) w1 K:=by
 refine nwb fun w1 hb1 hB1 hs1=>?_
 refine ConcatB_spec (rd_lits (E:=slsE) (ys:=[a,b,c]) hb1 (by simp [maxLen]) rfl) (rdAllB3 (ha.ext hB1) (hb.ext hB1) (hc.ext hB1)) (by simp;omega) (by simp) fun r w2 ho hB=>?_
 have e:[xs,ys,zs].flatten=xs++ys++zs:=by simp
 rw [e] at ho
 exact hK r w2 (ho.base (by omega)) (hB1.trans (hB.mono hB1.size))
end Go.Proofs.YtmagnpcgpinmcaaGreat
namespace Go.Vc
def cntK (ls:List UInt8) (k:Nat):Nat:=if k=0 then 0 else ls.countP fun x=>x.toNat==k
def firstK (ls:List UInt8):Nat→Nat
 | 0=>0
 | k+1=>2*(firstK ls k+cntK ls k)
def offK (ls:List UInt8):Nat→Nat
 | 0=>0
 | k+1=>offK ls k+cntK ls k
def symsK (ls:List UInt8) (k n:Nat):List Nat:=(List.range n).filter fun i=>k≠0∧(ls[i]?).map (·.toNat)=some k
def sortedK (ls:List UInt8):Nat→List Nat
 | 0=>[]
 | k+1=>sortedK ls k++symsK ls (k+1) ls.length
def codeK (ls:List UInt8) (k i:Nat):Nat:=firstK ls k+cntK (ls.take i) k
def roomN (ls:List UInt8):Nat:=(ls.map fun x=>if 0<x.toNat∧x.toNat≤15 then 2^(15-x.toNat) else 0).sum
def lastK (ls:List UInt8):Nat:=ls.foldl (fun m x=>max m x.toNat) 0
theorem cntK_nil (k:Nat):cntK [] k=0:=by unfold cntK;split<;>rfl
theorem cntK_cons (x:UInt8) (r:List UInt8) (k:Nat):cntK (x::r) k=cntK r k+(if k≠0∧x.toNat=k then 1 else 0):=by
 unfold cntK
 by_cases hk:k=0
 ·simp [hk]
 ·rw [if_neg hk,if_neg hk,List.countP_cons]
  by_cases hx:x.toNat=k<;>simp [hk,hx]
theorem cntK_append (a b:List UInt8) (k:Nat):cntK (a++b) k=cntK a k+cntK b k:=by
 unfold cntK
 split
 ·rfl
 ·rw [List.countP_append]
theorem cntK_le (ls:List UInt8) (k:Nat):cntK ls k≤ls.length:=by
 unfold cntK
 split
 ·exact Nat.zero_le _
 ·exact List.countP_le_length
theorem symsK_length (ls:List UInt8) (k:Nat):∀n,n≤ls.length→(symsK ls k n).length=cntK (ls.take n) k
 | 0,_=>by simp [symsK,cntK_nil]
 | n+1,h=>by
  have ih:=symsK_length ls k n (by omega)
  have hx:ls[n]?=some ls[n]:=List.getElem?_eq_getElem (by omega)
  unfold symsK at *
  rw [List.range_succ,List.filter_append,List.length_append,ih,List.take_add_one,hx,cntK_append]
  congr 1
  show _=cntK [ls[n]] k
  rw [cntK_cons,cntK_nil,Nat.zero_add]
  by_cases hk:k≠0∧ls[n].toNat=k
  ·simp [hx,hk.1,hk.2]
  ·rw [if_neg hk]
   simp [hx]
   intro h1
   exact fun h2=>hk ⟨h1,h2⟩
theorem symsK_succ (ls:List UInt8) (k n:Nat) {x:UInt8} (hx:ls[n]?=some x):symsK ls k (n+1)=if k≠0∧x.toNat=k then symsK ls k n++[n] else symsK ls k n:=by
 unfold symsK
 rw [List.range_succ,List.filter_append]
 by_cases hk:k≠0∧x.toNat=k
 ·rw [if_pos hk]
  simp [hx,hk.1,hk.2]
 ·rw [if_neg hk]
  simp [hx]
  intro h1
  exact fun h2=>hk ⟨h1,h2⟩
theorem cntK_take_succ (ls:List UInt8) (k n:Nat) {x:UInt8} (hx:ls[n]?=some x):cntK (ls.take (n+1)) k=if k≠0∧x.toNat=k then cntK (ls.take n) k+1 else cntK (ls.take n) k:=by
 rw [List.take_add_one,hx,cntK_append]
 show _+cntK [x] k=_
 rw [cntK_cons,cntK_nil,Nat.zero_add]
 split<;>rfl
theorem symsK_mem (ls:List UInt8) (k:Nat):∀n,n≤ls.length→∀j i,(symsK ls k n)[j]?=some i→k≠0∧i<n∧(∃x,ls[i]?=some x∧x.toNat=k)∧cntK (ls.take i) k=j
 | 0,_,j,i,hj=>by simp [symsK] at hj
 | n+1,h,j,i,hj=>by
  have hn:ls[n]?=some ls[n]:=List.getElem?_eq_getElem (by omega)
  have hlen:=symsK_length ls k n (by omega)
  rw [symsK_succ ls k n hn] at hj
  split at hj
  ·next hk =>
   rcases Nat.lt_or_ge j (symsK ls k n).length with hjl | hjl
   ·rw [List.getElem?_append_left hjl] at hj
    obtain ⟨h0,h1,h2,h3⟩:=symsK_mem ls k n (by omega) j i hj
    exact ⟨h0,by omega,h2,h3⟩
   ·rw [List.getElem?_append_right hjl] at hj
    have hz:j-(symsK ls k n).length=0:=by
     rcases Nat.eq_zero_or_pos (j-(symsK ls k n).length) with e | e
     ·exact e
     ·rw [List.getElem?_eq_none (by simp;omega)] at hj;cases hj
    rw [hz] at hj
    cases hj
    exact ⟨hk.1,by omega,⟨_,hn,hk.2⟩,by omega⟩
  ·obtain ⟨h0,h1,h2,h3⟩:=symsK_mem ls k n (by omega) j i hj
   exact ⟨h0,by omega,h2,h3⟩
theorem sortedK_length (ls:List UInt8):∀k,(sortedK ls k).length=offK ls (k+1)
 | 0=>by simp [sortedK,offK,cntK]
 | k+1=>by
  rw [sortedK,List.length_append,sortedK_length ls k,symsK_length ls (k+1) ls.length (Nat.le_refl _),List.take_length]
  rfl
theorem sortedK_prefix (ls:List UInt8) {j k:Nat} (h:j≤k):∃r,sortedK ls k=sortedK ls j++r:=by
 induction k with
 | zero =>
      have:j=0:=by omega
      subst this;exact ⟨[],by simp⟩
 | succ k ih =>
  rcases Nat.lt_or_ge j (k+1) with hj | hj
  ·obtain ⟨r,hr⟩:=ih (by omega)
   exact ⟨r++symsK ls (k+1) ls.length,by rw [sortedK,hr,List.append_assoc]⟩
  ·have:j=k+1:=by omega
   subst this
   exact ⟨[],by simp⟩
theorem sortedK_get (ls:List UInt8) {k m j:Nat} (hk:1≤k) (hm:k≤m) (hj:j<cntK ls k):(sortedK ls m)[offK ls k+j]?=(symsK ls k ls.length)[j]?:=by
 obtain ⟨r,hr⟩:=sortedK_prefix ls hm
 obtain ⟨k,rfl⟩:∃k',k=k'+1:=⟨k-1,by omega⟩
 have hl:=sortedK_length ls k
 have hs:=symsK_length ls (k+1) ls.length (Nat.le_refl _)
 rw [List.take_length] at hs
 rw [hr,sortedK,List.append_assoc,List.getElem?_append_right (by omega),hl,Nat.add_sub_cancel_left,List.getElem?_append_left (by omega)]
def dealt (ls:List UInt8):Nat→Nat
 | 0=>0
 | k+1=>dealt ls k+cntK ls (k+1)*2^(15-(k+1))
theorem dealt_cons (x:UInt8) (r:List UInt8):∀k,k≤15→dealt (x::r) k=dealt r k+(if 0<x.toNat∧x.toNat≤k then 2^(15-x.toNat) else 0)
 | 0,_=>by simp only [dealt];rw [if_neg (by omega)]
 | k+1,h=>by
  rw [dealt,dealt,dealt_cons x r k (by omega),cntK_cons]
  by_cases h1:x.toNat=k+1
  ·rw [if_pos (by omega:k+1≠0∧x.toNat=k+1),if_pos (by omega:0<x.toNat∧x.toNat≤k+1),if_neg (by omega),h1,Nat.add_mul]
   omega
  ·rw [if_neg (by omega:¬(k+1≠0∧x.toNat=k+1)),Nat.add_zero]
   by_cases h2:0<x.toNat∧x.toNat≤k
   ·rw [if_pos h2,if_pos (by omega)];omega
   ·rw [if_neg h2,if_neg (by omega)];omega
theorem dealt_room (ls:List UInt8):dealt ls 15=roomN ls:=by
 induction ls with
 | nil =>
  have:∀k,dealt [] k=0:=by
   intro k
   induction k with
   | zero=>rfl
   | succ k ih=>rw [dealt,ih,cntK_nil];simp
  rw [this];rfl
 | cons x r ih=>rw [dealt_cons x r 15 (Nat.le_refl _),ih,roomN,roomN,List.map_cons,List.sum_cons,Nat.add_comm]
theorem first_dealt (ls:List UInt8):∀k,k≤15→(firstK ls k+cntK ls k)*2^(15-k)=dealt ls k
 | 0,_=>by simp [firstK,cntK,dealt]
 | k+1,h=>by
  have ih:=first_dealt ls k (by omega)
  rw [dealt,←ih,firstK,Nat.add_mul]
  congr 1
  rw [show 15-k=(15-(k+1))+1 by omega,Nat.pow_succ]
  rw [Nat.mul_comm 2,Nat.mul_assoc,Nat.mul_comm 2]
theorem dealt_mono (ls:List UInt8) {j k:Nat} (h:j≤k):dealt ls j≤dealt ls k:=by
 induction k with
 | zero =>
      have:j=0:=by omega
      subst this;exact Nat.le_refl _
 | succ k ih =>
  rcases Nat.lt_or_ge j (k+1) with hj | hj
  ·exact Nat.le_trans (ih (by omega)) (Nat.le_add_right _ _)
  ·have:j=k+1:=by omega
   subst this;exact Nat.le_refl _
theorem kraft {ls:List UInt8} (h:roomN ls≤32768) {k:Nat} (hk:k≤15):firstK ls k+cntK ls k≤2^k:=by
 have h1:=first_dealt ls k hk
 have h2:=dealt_mono ls hk
 rw [dealt_room] at h2
 have h3:(firstK ls k+cntK ls k)*2^(15-k)≤2^k*2^(15-k):=by
  rw [h1,←Nat.pow_add,show k+(15-k)=15 by omega]
  omega
 exact Nat.le_of_mul_le_mul_right h3 (Nat.pow_pos (by decide))
def msb (bs:List UInt8) (at_:Nat):Nat→Nat
 | 0=>0
 | k+1=>2*msb bs at_ k+peekN bs (at_+k) 1
theorem msb_lt (bs:List UInt8) (at_ k:Nat):msb bs at_ k<2^k:=by
 induction k with
 | zero=>simp [msb]
 | succ k ih =>
  rw [msb,Nat.pow_succ]
  have:=peekN_lt bs (at_+k) 1
  omega
inductive RR where
 | sym (s k:Nat)
 | short
 | form
def readGo (ls:List UInt8) (bs:List UInt8) (at_:Nat):Nat→Nat→RR
 | 0,_=>.form
 | n+1,k =>
  if lastK ls<k then .form
  else if min 15 (8*bs.length-at_)<k then .short
  else if msb bs at_ k<firstK ls k+cntK ls k then .sym ((sortedK ls 15).getD (offK ls k+(msb bs at_ k-firstK ls k)) 0) k
  else readGo ls bs at_ n (k+1)
def readT (ls bs:List UInt8) (at_:Nat):RR:=readGo ls bs at_ 16 1
theorem lastK_append (a:List UInt8) (x:UInt8):lastK (a++[x])=max (lastK a) x.toNat:=by simp [lastK]
theorem lastK_le {ls:List UInt8} {m:Nat} (h:∀x∈ls,x.toNat≤m):lastK ls≤m:=by
 unfold lastK
 suffices H:∀(l:List UInt8) (a:Nat),a≤m→(∀x∈l,x.toNat≤m)→l.foldl (fun m x=>max m x.toNat) a≤m from H ls 0 (Nat.zero_le _) h
 intro l
 induction l with
 | nil=>intro a ha _;exact ha
 | cons x r ih =>
  intro a ha hr
  refine ih _ ?_ fun y hy=>hr y (by simp [hy])
  have:=hr x (by simp)
  show max a x.toNat≤m
  omega
def revN:Nat→Nat→Nat
 | _,0=>0
 | v,n+1=>2*revN v n+v/2^n%2
end Go.Vc
namespace Go.Vc
structure Cfg where
 mode:Nat
 last:Bool
 left:Nat
 sg:List UInt8
 ds:List UInt8
 hist:List UInt8
inductive SR where
 | next (c:Cfg) (at_:Nat)
 | short
 | err (e:Nat)
def fixedL:List UInt8:=List.replicate 144 8++List.replicate 112 9++List.replicate 24 7++List.replicate 8 8
def fiveL:List UInt8:=List.replicate 32 5
def orderL:List Nat:=[16,17,18,0,8,7,9,6,10,5,11,4,12,3,13,2,14,1,15]
def up8 (n:Nat):Nat:=(n+7)/8*8
def Cfg.behind (c:Cfg):Cfg:={ c with mode:=if c.last then 5 else 0 }
def lenBase (s:Nat):Nat×Nat:=if s=285 then (258,0) else if s-257<8 then (3+(s-257),0) else (3+(4+(s-257)%4)*2^((s-257)/4-1),(s-257)/4-1)
def distBase (s:Nat):Nat×Nat:=if s<4 then (1+s,0) else (1+(2+s%2)*2^(s/2-1),s/2-1)
def copyN (most far:Nat):Nat→List UInt8→Option (List UInt8)
 | 0,h=>some h
 | n+1,h=>if most≤h.length then none else copyN most far n (h++[h.getD (h.length-far) 0])
def stepHead (bs:List UInt8) (at_:Nat) (c:Cfg):SR :=
 if 8*bs.length<at_+3 then .short
 else
  let v:=peekN bs at_ 3
  let c:={ c with last:=v%2==1 }
  if v/2=0 then .next { c with mode:=1 } (at_+3)
  else if v/2=1 then .next { c with mode:=4,sg:=fixedL,ds:=fiveL } (at_+3)
  else if v/2=2 then .next { c with mode:=3 } (at_+3)
  else .err 3
def stepStored (bs:List UInt8) (at_:Nat) (c:Cfg):SR :=
 if 8*bs.length<up8 at_+32 then .short
 else if peekN bs (up8 at_) 16 ^^^ peekN bs (up8 at_+16) 16≠65535 then .err 3
 else .next { c with mode:=2,left:=peekN bs (up8 at_) 16 } (up8 at_+32)
def stepByte (most:Nat) (bs:List UInt8) (at_:Nat) (c:Cfg):SR :=
 if c.left=0 then .next c.behind at_
 else if 8*bs.length<at_+8 then .short
 else if most≤c.hist.length then .err 5
 else .next { c with left:=c.left-1,hist:=c.hist++[UInt8.ofNat (peekN bs at_ 8)] } (at_+8)
def stepCode (most:Nat) (bs:List UInt8) (at_:Nat) (c:Cfg):SR :=
 match readT c.sg bs at_ with
 | .short=>.short
 | .form=>.err 3
 | .sym y k =>
  if y=256 then .next c.behind (at_+k)
  else if 285<y then .err 3
  else if y<256 then (if most≤c.hist.length then .err 5 else .next { c with hist:=c.hist++[UInt8.ofNat y] } (at_+k))
  else
   let (b,n):=lenBase y
   if 8*bs.length<at_+k+n then .short
   else
    let m:=b+peekN bs (at_+k) n
    match readT c.ds bs (at_+k+n) with
    | .short=>.short
    | .form=>.err 3
    | .sym z j =>
     if 29<z then .err 3
     else
      let (b2,n2):=distBase z
      if 8*bs.length<at_+k+n+j+n2 then .short
      else
       let far:=b2+peekN bs (at_+k+n+j) n2
       if min c.hist.length 32768<far then .err 3
       else match copyN most far m c.hist with
        | none=>.err 5
        | some h=>.next { c with hist:=h } (at_+k+n+j+n2)
inductive LR where
 | lens (l:List UInt8) (at_:Nat)
 | short
 | form
def lensGo (t bs:List UInt8) (n:Nat):Nat→Nat→List UInt8→LR
 | 0,_,_=>.form
 | f+1,at_,l =>
  if n≤l.length then .lens l at_
  else match readT t bs at_ with
   | .short=>.short
   | .form=>.form
   | .sym y k =>
    if y=16∧l=[] then .form
    else
     let (b,m,v):Nat×Nat×UInt8:=if y=18 then (11,7,0) else if y=17 then (3,3,0) else if y=16 then (3,2,l.getLastD 0) else (1,0,UInt8.ofNat y)
     if 8*bs.length<at_+k+m then .short
     else if n<l.length+b+peekN bs (at_+k) m then .form
     else lensGo t bs n f (at_+k+m) (l++List.replicate (b+peekN bs (at_+k) m) v)
def clens (bs:List UInt8) (at_:Nat):Nat→List UInt8
 | 0=>List.replicate 19 0
 | i+1=>(clens bs at_ i).set (orderL.getD i 0) (UInt8.ofNat (peekN bs (at_+3*i) 3))
def badTab (ls:List UInt8):Prop:=(ls.length>320∨∃x∈ls,15<x.toNat)∨¬(roomN ls=32768∨roomN ls=0∨(roomN ls=16384∧cntK ls 1=1))
instance (ls:List UInt8):Decidable (badTab ls):=by unfold badTab;infer_instance
def stepDyn (bs:List UInt8) (at_:Nat) (c:Cfg):SR :=
 if 8*bs.length<at_+14 then .short
 else
  let a:=peekN bs at_ 5
  let b:=peekN bs (at_+5) 5
  let d:=peekN bs (at_+10) 4
  if 29<a∨29<b then .err 3
  else if 8*bs.length<at_+14+3*(d+4) then .short
  else
   let cl:=clens bs (at_+14) (d+4)
   if badTab cl then .err 3
   else match lensGo cl bs (a+257+b+1) 400 (at_+14+3*(d+4)) [] with
    | .short=>.short
    | .form=>.err 3
    | .lens l at2 =>
     if badTab (l.take (a+257))∨badTab (l.drop (a+257))∨(l.getD 256 0)=0 then .err 3
     else .next { c with mode:=4,sg:=l.take (a+257),ds:=l.drop (a+257) } at2
def stepN (most:Nat) (bs:List UInt8) (at_:Nat) (c:Cfg):SR :=
 if c.mode=0 then stepHead bs at_ c
 else if c.mode=1 then stepStored bs at_ c
 else if c.mode=2 then stepByte most bs at_ c
 else if c.mode=3 then stepDyn bs at_ c
 else stepCode most bs at_ c
def step1 (most:Nat) (bs:List UInt8) (at_:Nat) (c:Cfg):SR:=if c.mode=5 then .short else stepN most bs at_ c
def ringGo (p:List UInt8×Nat) (c:UInt8):List UInt8×Nat:=(if p.1.length<32768 then p.1++[c] else p.1.set (p.2%32768) c,p.2+1)
def ringOf (h:List UInt8):List UInt8:=(h.foldl ringGo ([],0)).1
theorem ringGo_snd (h:List UInt8):∀p,(h.foldl ringGo p).2=p.2+h.length:=by
 induction h with
 | nil=>intro p;rfl
 | cons x r ih=>intro p;rw [List.foldl_cons,ih,List.length_cons];simp only [ringGo];omega
theorem ringOf_snoc (h:List UInt8) (c:UInt8):ringOf (h++[c])=if (ringOf h).length<32768 then ringOf h++[c] else (ringOf h).set (h.length%32768) c:=by
 unfold ringOf
 rw [List.foldl_append]
 have:=ringGo_snd h ([],0)
 simp only [Nat.zero_add] at this
 show (ringGo _ c).1=_
 simp only [ringGo,this]
theorem list_last {α:Type} (P:List α→Prop) (h0:P []) (h1:∀l a,P l→P (l++[a])) (l:List α):P l:=by
 have:∀r:List α,P r.reverse:=by
  intro r
  induction r with
  | nil=>exact h0
  | cons a r ih=>rw [List.reverse_cons];exact h1 _ _ ih
 have:=this l.reverse
 rwa [List.reverse_reverse] at this
theorem ringOf_length (h:List UInt8):(ringOf h).length=min h.length 32768:=by
 refine list_last (fun h=>(ringOf h).length=min h.length 32768) rfl (fun l a ih=>?_) h
 rw [ringOf_snoc,List.length_append,List.length_singleton]
 split
 ·rw [List.length_append,List.length_singleton];omega
 ·rw [List.length_set];omega
theorem ringOf_get (h:List UInt8):∀j,j<h.length→h.length≤j+32768→(ringOf h)[j%32768]?=h[j]?:=by
 refine list_last (fun h=>∀j,j<h.length→h.length≤j+32768→(ringOf h)[j%32768]?=h[j]?) (fun j hj=>by simp at hj) (fun l a ih=>?_) h
 intro j hj hw
 have hl:=ringOf_length l
 rw [List.length_append,List.length_singleton] at hj hw
 rw [ringOf_snoc]
 by_cases hjl:j<l.length
 ·have ih:=ih j hjl (by omega)
  rw [List.getElem?_append_left hjl,←ih]
  split
  ·rw [List.getElem?_append_left]
   have:=(List.getElem?_eq_some_iff.1 (ih.trans (List.getElem?_eq_getElem hjl))).1
   exact this
  ·rw [List.getElem?_set_ne]
   omega
 ·have:j=l.length:=by omega
  subst this
  rw [List.getElem?_append_right (Nat.le_refl _),Nat.sub_self]
  split
  ·rw [Nat.mod_eq_of_lt (by omega),List.getElem?_append_right (by omega)]
   have:l.length-(ringOf l).length=0:=by omega
   rw [this]
  ·rw [List.getElem?_set_self (by omega)]
   rfl
end Go.Vc
namespace Go.Proofs.YtmagnpcgpinmcaaGreat
open Go.Vc Go.RowKit
structure RdrM (w:World) (g:Nat) (s:Slc) (bs:List UInt8) (at_:Nat):Prop where
 blk:Blk w g ty_bits_Reader [.slice s.a s.n s.c,.int .i64 at_]
 rd:Rd E_uint8 w s bs
 le:at_≤8*bs.length
 sm:bs.length≤1000000000000
 ne:∀k,s.blk=some k→k≠g
section
variable {w w':World} {g:Nat} {s:Slc} {bs:List UInt8} {at_:Nat}
theorem RdrM.chg {T:Nat→Prop} (h:RdrM w g s bs at_) (hc:Chg T w w') (hg:¬T g) (hs:∀k,s.blk=some k→¬T k):RdrM w' g s bs at_ :=
 ⟨h.blk.chg hc hg,h.rd.chg hc fun a ha=>hs _ (slk.2 ⟨a,ha,rfl⟩),h.le,h.sm,h.ne⟩
theorem RdrM.ext (h:RdrM w g s bs at_) (hb:Below w.heap.size w w'):RdrM w' g s bs at_:=h.chg (Chg.of_ext (S:=fun _=>False) hb) id fun _ _=>id
theorem RdrM.drew (h:RdrM w g s bs at_):RdrM w.drew g s bs at_:=h.ext ((Below.refl _ w).drew)
theorem RdrM.move {b:Nat} (h:RdrM w g s bs at_) (hb:Blk w' g ty_bits_Reader [.slice s.a s.n s.c,.int .i64 b]) (hg:w.grownBy w' (some g)) (hl:b≤8*bs.length):RdrM w' g s bs b :=
 ⟨hb,h.rd.chg (Chg.gg hg) fun a ha=>h.ne _ (slk.2 ⟨a,ha,rfl⟩),hl,h.sm,h.ne⟩
theorem tmod8 (n:Nat):((n:Nat):Int).tmod 8=((n%8:Nat):Int):=IntWalk.up_tmod rfl rfl
theorem tdiv8 (n:Nat):((n:Nat):Int).tdiv 8=((n/8:Nat):Int):=IntWalk.up_tdiv rfl rfl
theorem and7 (x:Int):bitsR .and .i64 x 7=x%8:=by
 have h7:(BitVec.ofInt 64 (7:Int)).toNat=2^3-1:=by decide
 show IntKind.i64.wrap ((BitVec.ofInt 64 x &&& BitVec.ofInt 64 (7:Int)).toNat:Int)=_
 rw [BitVec.toNat_and,h7,Nat.and_two_pow_sub_one_eq_mod,BitVec.toNat_ofInt]
 rw [w64i (by omega)]
 omega
theorem Left_spec {K:Int→World→Prop} (h:RdrM w g s bs at_) (hK:K ((8*bs.length-at_:Nat):Int) w.drew):c_bits_Reader_Left (some ⟨g,0,none⟩) w K:=by
 refine call_bits_Reader_Left _ ?_
 unfold sh_bits_Reader_Left
 simp only [onPtr_some]
 refine lSl (x:=s) (h.drew.blk.cells 0 _ rfl) ?_
 refine lI (x:=(at_:Int)) (h.drew.blk.cells 1 _ rfl) ?_
 have h1:=h.le
 have h2:=h.sm
 rw [h.rd.n,w64i (x:=8*((bs.length:Nat):Int)) (by omega),w64i (by omega)]
 have e:8*((bs.length:Nat):Int)-at_=((8*bs.length-at_:Nat):Int):=by omega
 rw [e]
 exact hK
theorem Peek_spec {n:Int} {K:Int→Bool→World→Prop} (h:RdrM w g s bs at_)
  (hK1:∀(m:Nat) w',n=m→m≤32→at_+m≤8*bs.length→Below w.heap.size w w'→K ((peekN bs at_ m:Nat):Int) true w')
  (hK2:∀w',(n<0∨n>32∨(at_:Int)+n>8*bs.length)→Below w.heap.size w w'→K 0 false w'):c_bits_Reader_Peek (some ⟨g,0,none⟩) n w K:=by
 refine call_bits_Reader_Peek _ _ ?_
 unfold sh_bits_Reader_Peek
 have h1:=h.le
 have h2:=h.sm
 refine jpO fun J hJ=>?_
 refine cO (fun c=>hK2 _ (.inl (of_decide_eq_true c)) (Below.refl _ _)) (fun c1=>?_)
 refine cO (fun c=>hK2 _ (.inr (.inl (of_decide_eq_true c))) (Below.refl _ _)) (fun c2=>?_)
 refine Left_spec h ?_
 have hBd:Below w.heap.size w w.drew:=(Below.refl _ w).drew
 refine cO (fun c=>hK2 _ (.inr (.inr (by have:=of_decide_eq_true c;omega))) hBd) (fun c3=>hJ _ _ ?_)
 have c1:=of_decide_eq_false c1
 have c2:=of_decide_eq_false c2
 have c3:=of_decide_eq_false c3
 obtain ⟨m,rfl⟩:∃m:Nat,n=m:=⟨n.toNat,by omega⟩
 clear hJ hK2
 simp only [onPtr_some]
 refine lI (x:=(at_:Int)) (h.drew.blk.cells 1 _ rfl) ⟨by decide,by decide,?_⟩
 have hcnt:IntKind.i64.wrap ((IntKind.i64.wrap ((IntKind.i64.wrap (((at_%8:Nat):Int)+m))+7)).tdiv 8)=(((at_%8+m+7)/8:Nat):Int):=by
  rw [w64i (x:=((at_%8:Nat):Int)+m) (by omega),w64i (x:=((at_%8:Nat):Int)+m+7) (by omega)]
  have e:((at_%8:Nat):Int)+m+7=((at_%8+m+7:Nat):Int):=by omega
  rw [e,tdiv8,w64i (by omega)]
 obtain ⟨cnt,hcn⟩:∃c:Nat,(at_%8+m+7)/8=c:=⟨_,rfl⟩
 rw [hcn] at hcnt
 simp only [tmod8,hcnt]
 have hc5:cnt≤5:=by omega
 refine lpR (fun (s:Int×Int×Unit) w2=>∃i:Nat,s.2.1=i∧i≤cnt∧s.1=((le ((bs.drop (at_/8)).take i):Nat):Int)∧Below w.heap.size w w2) (fun s=>cnt-s.2.1.toNat) ⟨0,rfl,by omega,rfl,hBd⟩ ?_
 rintro ⟨v,i,_⟩ w2 ⟨i,rfl,hi,rfl,hB⟩ I hI
 dsimp only at *
 have hr2:=h.ext hB
 refine cO (fun hlt=>?_) (fun hge=>?_)
 ·have hlt:=of_decide_eq_true hlt
  refine lSl (x:=s) (hr2.drew.blk.cells 0 _ rfl) ?_
  refine lI (x:=(at_:Int)) (hr2.drew.blk.cells 1 _ rfl) ⟨by decide,?_⟩
  rw [tdiv8,w64i (x:=((at_/8:Nat):Int)) (by omega),w64i (x:=((at_/8:Nat):Int)+i) (by omega)]
  have hlt':at_/8+i<bs.length:=by omega
  have e:((at_/8:Nat):Int)+i=((at_/8+i:Nat):Int):=by omega
  rw [e]
  refine hr2.rd.drew.ix rfl (by omega) (by omega) fun hc=>?_
  refine ldB8 (b:=bs[at_/8+i]) hc ?_
  rw [w64i (x:=8*(i:Int)) (by omega),w64i (by omega)]
  refine ⟨by omega,hI _ _ ⟨i+1,by simp,by omega,?_,hB.drew⟩ (by simp;omega)⟩
  have ht:(bs.drop (at_/8)).take (i+1)=(bs.drop (at_/8)).take i++[bs[at_/8+i]]:=by
   rw [List.take_add_one,List.getElem?_drop,List.getElem?_eq_getElem hlt']
   rfl
  have hlen:((bs.drop (at_/8)).take i).length=i:=by simp;omega
  have hlt8:=bs[at_/8+i].toNat_lt
  have hv:=le_lt ((bs.drop (at_/8)).take i)
  rw [hlen,pow256] at hv
  have hp:2^(8*i)≤2^32:=Nat.pow_le_pow_right (by decide) (by omega)
  have hp':bs[at_/8+i].toNat*2^(8*i)≤255*2^32:=Nat.mul_le_mul (by omega) hp
  have e2:(8*(i:Int)).toNat=8*i:=by omega
  have e3:min (8*i) IntKind.u64.bits=8*i:=Nat.min_eq_left (by show 8*i≤64;omega)
  dsimp only
  rw [e2,e3,wrap_nat .u64 (x:=bs[at_/8+i].toNat) (by show _<2^64;omega),mul_pow_nat,wrap_nat .u64 (by show _<2^64;omega),bits_or .u64 (by show _<2^64;omega) (by show _<2^64;omega)]
  rw [ht,le_append,hlen,pow256,Nat.mul_comm _ (2^(8*i)),add_or hv]
  show _=((_+2^(8*i)*(bs[at_/8+i].toNat+256*0):Nat):Int)
  rfl
 ·have hge:=of_decide_eq_false hge
  have:i=cnt:=by omega
  subst this
  refine ⟨by omega,by omega,?_⟩
  have hlen:((bs.drop (at_/8)).take i).length≤i:=by simp;omega
  have hv:=le_lt ((bs.drop (at_/8)).take i)
  have hv':le ((bs.drop (at_/8)).take i)<2^40:=Nat.lt_of_lt_of_le hv (by rw [pow256];exact Nat.pow_le_pow_right (by decide) (by omega))
  have e2:(((at_%8:Nat):Int)).toNat=at_%8:=rfl
  have e3:min (at_%8) IntKind.u64.bits=at_%8:=Nat.min_eq_left (by show at_%8≤64;omega)
  have e4:min ((m:Int)).toNat IntKind.u64.bits=m:=by show min m 64=m;omega
  have hm:2^m≤2^32:=Nat.pow_le_pow_right (by decide) (by omega)
  have hm0:0<2^m:=Nat.pow_pos (by decide)
  have e5:IntKind.u64.wrap ((IntKind.u64.wrap ((1:Int)*2^m))-1)=((2^m-1:Nat):Int):=by
   have:=mul_pow_nat 1 m
   rw [show ((1:Int)*2^m)=((2^m:Nat):Int) by simp,wrap_nat .u64 (by show _<2^64;omega)]
   have e:((2^m:Nat):Int)-1=((2^m-1:Nat):Int):=by omega
   rw [e,wrap_nat .u64 (by show _<2^64;omega)]
  rw [e2,e3,e4,e5,fdiv_nat]
  have hd:le ((bs.drop (at_/8)).take i)/2^(at_%8)<2^64:=Nat.lt_of_le_of_lt (Nat.div_le_self _ _) (by omega)
  rw [bits_and .u64 hd (by show _<2^64;omega),Nat.and_two_pow_sub_one_eq_mod]
  have hb:=peekN_bytes bs at_ m i (by omega) (by omega)
  rw [←hb]
  have hpl:=peekN_lt bs at_ m
  rw [wrap_nat .u32 (by show _<2^32;omega)]
  exact hK1 m _ rfl (by omega) (by omega) hB.drew
theorem Bits_spec {n:Int} {K:Int→Bool→World→Prop} (h:RdrM w g s bs at_)
  (hK1:∀(m:Nat) w',n=m→m≤32→at_+m≤8*bs.length→RdrM w' g s bs (at_+m)→Chg (fun k=>k=g) w w'→K ((peekN bs at_ m:Nat):Int) true w')
  (hK2:∀w',(n<0∨n>32∨(at_:Int)+n>8*bs.length)→Below w.heap.size w w'→K 0 false w'):c_bits_Reader_Bits (some ⟨g,0,none⟩) n w K:=by
 refine call_bits_Reader_Bits _ _ ?_
 unfold sh_bits_Reader_Bits
 refine Peek_spec h (fun m w1 e hm hl hB=>?_) (fun w1 hn hB=>?_)
 ·subst e
  refine jpO fun J hJ=>?_
  refine cT rfl ?_
  simp only [onPtr_some]
  have h1:=h.ext hB
  have h2:=h.sm
  refine lI (x:=(at_:Int)) (h1.blk.cells 1 _ rfl) ?_
  rw [add_mk,w64i (by omega)]
  refine stK_blk h1.blk (by simp) fun w2 hb2 hg2 hs2=>hJ _ _ ?_
  have e:((at_:Nat):Int)+m=((at_+m:Nat):Int):=by omega
  rw [e] at hb2
  exact hK1 m w2 rfl hm hl (h1.move hb2 hg2 hl) ((Chg.of_ext (S:=fun k=>k=g) hB).trans (Chg.gg hg2) fun i _ hi=>hi)
 ·refine jpO fun J hJ=>?_
  exact cF rfl (hJ _ _ (hK2 w1 hn hB))
theorem At_spec {K:Int→World→Prop} (h:RdrM w g s bs at_) (hK:K at_ w):c_bits_Reader_At (some ⟨g,0,none⟩) w K:=by
 refine call_bits_Reader_At _ ?_
 unfold sh_bits_Reader_At
 simp only [onPtr_some]
 exact lI (x:=(at_:Int)) (h.blk.cells 1 _ rfl) hK
theorem Back_spec {b:Nat} {K:World→Prop} (h:RdrM w g s bs at_) (hb:b≤at_) (hK:∀w',RdrM w' g s bs b→Chg (fun k=>k=g) w w'→K w'):c_bits_Reader_Back (some ⟨g,0,none⟩) b w K:=by
 refine call_bits_Reader_Back _ _ ?_
 unfold sh_bits_Reader_Back
 simp only [onPtr_some]
 refine lI (x:=(at_:Int)) (h.blk.cells 1 _ rfl) ?_
 have e:(if (at_:Int)<(if (0:Int)>(b:Int) then (0:Int) else (b:Int)) then (at_:Int) else (if (0:Int)>(b:Int) then (0:Int) else (b:Int)))=(b:Int):=by
  rw [if_neg (show ¬(0:Int)>(b:Int) by omega),if_neg (by omega)]
 rw [e,add_mk]
 refine stK_blk h.blk (by simp) fun w2 hb2 hg2 hs2=>?_
 exact hK w2 (h.move hb2 hg2 (Nat.le_trans hb h.le)) (Chg.gg hg2)
theorem Align_spec {K:Int→World→Prop} (h:RdrM w g s bs at_) (hK:∀v w',RdrM w' g s bs (up8 at_)→Chg (fun k=>k=g) w w'→K v w'):c_bits_Reader_Align (some ⟨g,0,none⟩) w K:=by
 refine call_bits_Reader_Align _ ?_
 unfold sh_bits_Reader_Align
 simp only [onPtr_some,and7]
 have h1:=h.le
 have h2:=h.sm
 refine lI (x:=(at_:Int)) (h.blk.cells 1 _ rfl) ?_
 refine lI (x:=(at_:Int)) (h.blk.cells 1 _ rfl) ?_
 have e:IntKind.i64.wrap ((at_:Int)+(IntKind.i64.wrap (0-(at_:Int)))%8)=((up8 at_:Nat):Int):=by
  unfold up8
  rw [w64i (x:=0-(at_:Int)) (by omega),w64i (by omega)]
  omega
 rw [e,add_mk]
 refine stK_blk h.blk (by simp) fun w2 hb2 hg2 hs2=>?_
 exact hK _ w2 (h.move hb2 hg2 (by unfold up8;omega)) (Chg.gg hg2)
theorem NewReader_spec {b:Slc} {K:Option Addr→World→Prop} (h:Rd E_uint8 w b bs) (hl:bs.length≤900000000000) (hK:∀g s w',w.heap.size≤g→(∀k,s.blk=some k→w.heap.size≤k∧k<w'.heap.size)→RdrM w' g s bs 0→Below w.heap.size w w'→K (some ⟨g,0,none⟩) w'):c_bits_NewReader b w K:=by
 refine call_bits_NewReader _ ?_
 unfold sh_bits_NewReader
 refine CloneB_spec h hl fun r w1 ho hB=>?_
 refine nwb fun w2 hb2 hB2 hs2=>?_
 refine hK _ r w2 hB.size (fun k hk=>by have:=ho.lt k hk;omega) ⟨hb2,(ho.ext hB2).rd,by omega,by omega,fun k hk e=>?_⟩ (hB.trans (hB2.mono hB.size))
 have:=(ho.lt k hk).2
 omega
end
end Go.Proofs.YtmagnpcgpinmcaaGreat
namespace Go.Proofs.YtmagnpcgpinmcaaGreat
open Go.Vc Go.RowKit
theorem revN_lt (v n:Nat):revN v n<2^n:=by
 induction n with
 | zero=>simp [revN]
 | succ n ih=>rw [revN,Nat.pow_succ];omega
theorem two_or (a b:Nat) (hb:b<2):2*a ||| b=2*a+b:=by
 have:=@add_or a b 1 (by omega)
 rw [Nat.pow_one] at this
 rw [Nat.or_comm,this,Nat.add_comm]
theorem one_and (a:Nat):a &&& 1=a%2:=Nat.and_two_pow_sub_one_eq_mod a 1
theorem Reverse_spec {v n:Nat} {w:World} {K:Int→World→Prop} (hv:v<2^32) (hn:n≤32) (hK:K ((revN v n:Nat):Int) w):c_bits_Reverse v n w K:=by
 refine call_bits_Reverse _ _ ?_
 unfold sh_bits_Reverse
 refine jpO fun J hJ=>?_
 refine cF (by simp) (cF (by simp;omega) (hJ _ _ ?_))
 refine lpR (fun (s:Int×Int×Int×Unit) w2=>∃i:Nat,s.2.2.1=i∧i≤n∧s.1=((v/2^i:Nat):Int)∧s.2.1=((revN v i:Nat):Int)∧w2=w) (fun s=>n-s.2.2.1.toNat) ⟨0,rfl,by omega,by simp,rfl,rfl⟩ ?_
 rintro ⟨x,r,i,_⟩ w2 ⟨i,rfl,hi,rfl,rfl,rfl⟩ I hI
 dsimp only at *
 refine cO (fun hlt=>?_) (fun hge=>?_)
 ·have hlt:=of_decide_eq_true hlt
  refine ⟨by decide,by decide,hI _ _ ⟨i+1,?_,by omega,?_,?_,rfl⟩ ?_⟩
  ·dsimp only;rw [w64i (by omega)];rfl
  ·dsimp only
   rw [show min ((1:Int)).toNat IntKind.u32.bits=1 by decide,fdiv_nat,Nat.div_div_eq_div_mul,←Nat.pow_succ]
  ·have hr:=revN_lt v i
   have hp:2^i*2≤2^32:=by rw [←Nat.pow_succ];exact Nat.pow_le_pow_right (by decide) (by omega)
   have hd:v/2^i<2^32:=Nat.lt_of_le_of_lt (Nat.div_le_self _ _) hv
   dsimp only
   rw [show min ((1:Int)).toNat IntKind.u32.bits=1 by decide,mul_pow_nat,wrap_nat .u32 (by show _<2^32;omega)]
   have e1:bitsR .and .u32 ((v/2^i:Nat):Int) 1=((v/2^i%2:Nat):Int):=by
    rw [show (1:Int)=((1:Nat):Int) from rfl,bits_and .u32 hd (by decide),one_and]
   rw [e1,bits_or .u32 (by show _<2^32;omega) (by show _<2^32;omega),Nat.pow_one,Nat.mul_comm,two_or _ _ (by omega)]
   rfl
  ·dsimp only;rw [w64i (by omega)];omega
 ·have hge:=of_decide_eq_false hge
  have:i=n:=by omega
  subst this
  exact hK
theorem roomN_append (a b:List UInt8):roomN (a++b)=roomN a+roomN b:=by simp [roomN]
theorem roomN_le (ls:List UInt8):roomN ls≤ls.length*16384:=by
 induction ls with
 | nil=>simp [roomN]
 | cons x r ih =>
  have e:roomN (x::r)=(if 0<x.toNat∧x.toNat≤15 then 2^(15-x.toNat) else 0)+roomN r:=by simp [roomN]
  rw [e,List.length_cons]
  have:(if 0<x.toNat∧x.toNat≤15 then 2^(15-x.toNat) else 0)≤16384:=by
   split
   ·exact Nat.le_trans (Nat.pow_le_pow_right (by decide) (by omega:15-x.toNat≤14)) (by decide)
   ·omega
  omega
theorem room_spec {s:Slc} {ls:List UInt8} {w:World} {K:Int→World→Prop} (h:Rd E_uint8 w s ls) (hl:ls.length≤100000) (hK:K ((roomN ls:Nat):Int) w):c_huff_room s w K:=by
 refine call_huff_room _ ?_
 unfold sh_huff_room
 rw [h.n]
 refine lpR (fun (s:Int×Int×Unit) w2=>∃i:Nat,s.2.1=i∧i≤ls.length∧s.1=((roomN (ls.take i):Nat):Int)∧w2=w) (fun s=>ls.length-s.2.1.toNat) ⟨0,rfl,by omega,rfl,rfl⟩ ?_
 rintro ⟨x,i,_⟩ w2 ⟨i,rfl,hi,rfl,rfl⟩ I hI
 dsimp only at *
 refine cO (fun hlt=>?_) (fun hge=>?_)
 ·have hlt:=of_decide_eq_true hlt
  obtain ⟨b,hb,hbs⟩:=get_of (xs:=ls) (k:=i) (by omega)
  refine h.ix rfl (by omega) (by omega) fun hc=>?_
  rw [hbs] at hc
  refine ldB8 (b:=b) hc ?_
  have h8:=b.toNat_lt
  have hr:=roomN_le (ls.take i)
  have hlen:(ls.take i).length≤ls.length:=by simp;omega
  have ht:roomN (ls.take (i+1))=roomN (ls.take i)+(if 0<b.toNat∧b.toNat≤15 then 2^(15-b.toNat) else 0):=by
   rw [List.take_add_one,hb,roomN_append]
   simp [roomN]
  refine jpO fun J hJ=>?_
  have next:∀v:Int,v=((roomN (ls.take (i+1)):Nat):Int)→I (v,IntKind.i64.wrap ((i:Int)+1),()) w2:=fun v hv=>by
   subst hv
   rw [w64i (by omega)]
   exact hI _ _ ⟨i+1,by simp,by omega,rfl,rfl⟩ (by simp;omega)
  by_cases hc0:0<b.toNat∧b.toNat≤15
  ·refine cT (by simp;omega) (hJ _ _ (cT (by simp;omega) ⟨by omega,next _ ?_⟩))
   rw [ht,if_pos hc0]
   have e:min ((b.toNat:Nat):Int).toNat IntKind.i64.bits=b.toNat:=by show min b.toNat 64=_;omega
   rw [e,show (32768:Int)=((32768:Nat):Int) from rfl,fdiv_nat]
   have e2:32768/2^b.toNat=2^(15-b.toNat):=by
    rw [show 32768=2^15 by decide,Nat.pow_div hc0.2 (by decide)]
   have hp:2^(15-b.toNat)≤2^15:=Nat.pow_le_pow_right (by decide) (by omega)
   rw [e2]
   generalize 2^(15-b.toNat)=p at *
   rw [w64i (by omega)]
   rfl
  ·have key:J (false,()) w2:=hJ _ _ (cF rfl (next _ (by rw [ht,if_neg hc0];rfl)))
   refine cO (fun h1=>?_) (fun _=>key)
   have h1:=of_decide_eq_true h1
   rw [decide_eq_false (by omega)]
   exact key
 ·have hge:=of_decide_eq_false hge
  have:i=ls.length:=by omega
  subst this
  rw [List.take_length]
  exact hK
def tabCells (f:Nat→Nat) (so co lo:Slc) (last:Nat):List Value :=
 [.int .i64 (f 0),.int .i64 (f 1),.int .i64 (f 2),.int .i64 (f 3),.int .i64 (f 4),.int .i64 (f 5),.int .i64 (f 6),.int .i64 (f 7),.int .i64 (f 8),.int .i64 (f 9),.int .i64 (f 10),.int .i64 (f 11),.int .i64 (f 12),.int .i64 (f 13),.int .i64 (f 14),.int .i64 (f 15),
  .slice so.a so.n so.c,.slice co.a co.n co.c,.slice lo.a lo.n lo.c,.int .i64 last]
theorem tab_get (f:Nat→Nat) (so co lo:Slc) (last k:Nat) (hk:k<16):(tabCells f so co lo last)[k]?=some (.int .i64 (f k)):=by
 match k,hk with
 | 0,_ | 1,_ | 2,_ | 3,_ | 4,_ | 5,_ | 6,_ | 7,_ | 8,_ | 9,_ | 10,_ | 11,_ | 12,_ | 13,_ | 14,_ | 15,_=>rfl
 | k+16,h=>omega
theorem tab_put (f:Nat→Nat) (so co lo:Slc) (last k v:Nat) (hk:k<16):putL (tabCells f so co lo last) k [.int .i64 v]=tabCells (fun j=>if j=k then v else f j) so co lo last:=by
 match k,hk with
 | 0,_ | 1,_ | 2,_ | 3,_ | 4,_ | 5,_ | 6,_ | 7,_ | 8,_ | 9,_ | 10,_ | 11,_ | 12,_ | 13,_ | 14,_ | 15,_=>rfl
 | k+16,h=>omega
theorem tab_len (f:Nat→Nat) (so co lo:Slc) (last:Nat):(tabCells f so co lo last).length=20:=rfl
def codesL (ls:List UInt8) (k i:Nat):List Int:=(List.range ls.length).map fun j=>match ls[j]? with
 | some x=>if 0<x.toNat∧(x.toNat<k∨x.toNat=k∧j<i) then ((revN (codeK ls x.toNat j) x.toNat:Nat):Int) else 0
 | none=>0
theorem codesL_length (ls:List UInt8) (k i:Nat):(codesL ls k i).length=ls.length:=by simp [codesL]
theorem codesL_get {ls:List UInt8} {k i j:Nat} {x:UInt8} (hx:ls[j]?=some x):(codesL ls k i)[j]?=some (if 0<x.toNat∧(x.toNat<k∨x.toNat=k∧j<i) then ((revN (codeK ls x.toNat j) x.toNat:Nat):Int) else 0):=by
 have hj:j<ls.length:=(List.getElem?_eq_some_iff.1 hx).1
 unfold codesL
 rw [List.getElem?_map,List.getElem?_range hj]
 simp [hx]
theorem codesL_none (ls:List UInt8):codesL ls 1 0=List.replicate ls.length 0:=by
 refine List.ext_getElem? fun j=>?_
 rcases Nat.lt_or_ge j ls.length with hj | hj
 ·rw [codesL_get (List.getElem?_eq_getElem hj),List.getElem?_replicate,if_pos hj,if_neg (by omega)]
 ·rw [List.getElem?_eq_none (by rw [codesL_length];exact hj),List.getElem?_eq_none (by simpa using hj)]
theorem codesL_next (ls:List UInt8) (k:Nat):codesL ls k ls.length=codesL ls (k+1) 0:=by
 refine List.ext_getElem? fun j=>?_
 rcases Nat.lt_or_ge j ls.length with hj | hj
 ·rw [codesL_get (List.getElem?_eq_getElem hj),codesL_get (List.getElem?_eq_getElem hj)]
  congr 1
  by_cases h:0<ls[j].toNat∧(ls[j].toNat<k∨ls[j].toNat=k∧j<ls.length)
  ·rw [if_pos h,if_pos (by omega)]
  ·rw [if_neg h,if_neg (by omega)]
 ·rw [List.getElem?_eq_none (by rw [codesL_length];exact hj),List.getElem?_eq_none (by rw [codesL_length];exact hj)]
theorem codesL_skip {ls:List UInt8} {k i:Nat} {x:UInt8} (hx:ls[i]?=some x) (hk:x.toNat≠k):codesL ls k (i+1)=codesL ls k i:=by
 refine List.ext_getElem? fun j=>?_
 rcases Nat.lt_or_ge j ls.length with hj | hj
 ·rw [codesL_get (List.getElem?_eq_getElem hj),codesL_get (List.getElem?_eq_getElem hj)]
  congr 1
  by_cases hji:j=i
  ·subst hji
   rw [List.getElem?_eq_getElem hj] at hx
   have hx:=Option.some.inj hx
   rw [hx]
   by_cases h:0<x.toNat∧(x.toNat<k∨x.toNat=k∧j<j)
   ·rw [if_pos h,if_pos (by omega)]
   ·rw [if_neg h,if_neg (by omega)]
  ·by_cases h:0<ls[j].toNat∧(ls[j].toNat<k∨ls[j].toNat=k∧j<i)
   ·rw [if_pos h,if_pos (by omega)]
   ·rw [if_neg h,if_neg (by omega)]
 ·rw [List.getElem?_eq_none (by rw [codesL_length];exact hj),List.getElem?_eq_none (by rw [codesL_length];exact hj)]
theorem codesL_set {ls:List UInt8} {k i:Nat} {x:UInt8} (hx:ls[i]?=some x) (h0:0<k) (hk:x.toNat=k):(codesL ls k i).set i ((revN (codeK ls k i) k:Nat):Int)=codesL ls k (i+1):=by
 have hi:i<ls.length:=(List.getElem?_eq_some_iff.1 hx).1
 refine List.ext_getElem? fun j=>?_
 rcases Nat.lt_or_ge j ls.length with hj | hj
 ·by_cases hji:j=i
  ·subst hji
   rw [List.getElem?_set_self (by rw [codesL_length];exact hj),codesL_get hx,if_pos (by omega),hk]
  ·rw [List.getElem?_set_ne (Ne.symm hji),codesL_get (List.getElem?_eq_getElem hj),codesL_get (List.getElem?_eq_getElem hj)]
   congr 1
   by_cases h:0<ls[j].toNat∧(ls[j].toNat<k∨ls[j].toNat=k∧j<i)
   ·rw [if_pos h,if_pos (by omega)]
   ·rw [if_neg h,if_neg (by omega)]
 ·rw [List.getElem?_eq_none (by rw [List.length_set,codesL_length];exact hj),List.getElem?_eq_none (by rw [codesL_length];exact hj)]
def ints (l:List Nat):List Int:=List.map (fun n:Nat=>((n:Nat):Int)) l
structure TF where
 g:Nat
 so:Slc
 co:Slc
 lo:Slc
def tabS (f:TF) (k:Nat):Prop:=k=f.g∨f.so.blk=some k∨f.co.blk=some k∨f.lo.blk=some k
structure TabM (w:World) (base:Nat) (f:TF) (ls:List UInt8):Prop where
 blk:Blk w f.g ty_huff_Table (tabCells (cntK ls) f.so f.co f.lo (lastK ls))
 hg:base≤f.g
 so:Own E_int w base f.so (ints (sortedK ls 15))
 co:Own E_uint32 w base f.co (codesL ls 16 0)
 lo:Own E_uint8 w base f.lo ls
 sm:ls.length≤320
 small:∀x∈ls,x.toNat≤15
 room:roomN ls≤32768
section
variable {w w':World} {base:Nat} {f:TF} {ls:List UInt8}
theorem TabM.chg {T:Nat→Prop} (h:TabM w base f ls) (hc:Chg T w w') (hT:∀k,tabS f k→¬T k):TabM w' base f ls :=
 ⟨h.blk.chg hc (hT _ (.inl rfl)),h.hg,h.so.chg hc fun k hk=>hT k (.inr (.inl hk)),h.co.chg hc fun k hk=>hT k (.inr (.inr (.inl hk))),h.lo.chg hc fun k hk=>hT k (.inr (.inr (.inr hk))),h.sm,h.small,h.room⟩
theorem TabM.ext (h:TabM w base f ls) (hb:Below w.heap.size w w'):TabM w' base f ls:=h.chg (Chg.of_ext (S:=fun _=>False) hb) fun _ _=>id
theorem TabM.drew (h:TabM w base f ls):TabM w.drew base f ls:=h.ext ((Below.refl _ w).drew)
theorem TabM.below (h:TabM w base f ls):∀k,tabS f k→base≤k∧k<w.heap.size:=by
 rintro k (rfl | hk | hk | hk)
 ·exact ⟨h.hg,h.blk.lt⟩
 ·exact h.so.lt k hk
 ·exact h.co.lt k hk
 ·exact h.lo.lt k hk
end
theorem deal_spec {w:World} {g:Nat} {co lo:Slc} {ls:List UInt8} {K:World→Prop} {base:Nat} (hb:Blk w g ty_huff_Table (tabCells (cntK ls) ⟨none,0,0⟩ co lo (lastK ls))) (hg:base≤g) (hco:Own E_uint32 w base co (List.replicate ls.length 0)) (hlo:Own E_uint8 w base lo ls)
  (hsm:ls.length≤320) (hs15:∀x∈ls,x.toNat≤15) (hroom:roomN ls≤32768) (hbase:base≤w.heap.size)
  (hK:∀so w',TabM w' base ⟨g,so,co,lo⟩ ls→Chg (fun k=>k=g∨co.blk=some k) w w'→K w'):c_huff_Table_deal (some ⟨g,0,none⟩) w K:=by
 refine call_huff_Table_deal _ ?_
 unfold sh_huff_Table_deal
 simp only [onPtr_some]
 let St:World→Slc→Nat→Nat→Prop:=fun w' so k i=>Blk w' g ty_huff_Table (tabCells (cntK ls) so co lo (lastK ls))∧Own E_int w' base so (ints (sortedK ls (k-1)++symsK ls k i))∧Own E_uint32 w' base co (codesL ls k i)∧Own E_uint8 w' base lo ls∧Chg (fun k=>k=g∨co.blk=some k) w w'∧∀j,so.blk=some j→w.heap.size≤j
 have hpow:∀k,k≤15→firstK ls k+cntK ls k≤32768:=fun k hk=>Nat.le_trans (kraft hroom hk) (Nat.pow_le_pow_right (by decide) hk)
 have hlon:lo.n=ls.length:=hlo.rd.n
 refine lpR (fun (s:Int×Int×Unit) w2=>∃(k:Nat) (so:Slc),s.2.1=((k+1:Nat):Int)∧k≤15∧s.1=((firstK ls (k+1):Nat):Int)∧St w2 so (k+1) 0) (fun s=>16-s.2.1.toNat) ⟨0,⟨none,0,0⟩,rfl,by omega,by simp [firstK,cntK],hb,?_,by rw [codesL_none];exact hco,hlo,Chg.refl _ _,fun j hj=>by cases hj⟩ ?_
 ·have:sortedK ls (0+1-1)++symsK ls (0+1) 0=[]:=by simp [sortedK,symsK]
  rw [this]
  show Own E_int w base ⟨none,0,0⟩ []
  exact Own.nil _ _ _
 rintro ⟨c,k,_⟩ w2 ⟨k,so,rfl,hk,rfl,hb2,hso2,hco2,hlo2,hc2,hf2⟩ I hI
 dsimp only at *
 refine cO (fun hle=>?_) (fun hgt=>?_)
 ·have hle:=of_decide_eq_true hle
  refine lSl (x:=lo) (hb2.cells 18 _ rfl) ?_
  rw [hlon]
  refine lpR (fun (s:Int×Int×Unit) w3=>∃(i:Nat) (so:Slc),s.2.1=i∧i≤ls.length∧s.1=((codeK ls (k+1) i:Nat):Int)∧St w3 so (k+1) i) (fun s=>ls.length-s.2.1.toNat) ⟨0,so,rfl,by omega,by simp [codeK,cntK_nil],hb2,hso2,hco2,hlo2,hc2,hf2⟩ ?_
  rintro ⟨c,i,_⟩ w3 ⟨i,so3,rfl,hi,rfl,hb3,hso3,hco3,hlo3,hc3,hf3⟩ I2 hI2
  dsimp only at *
  have hci:codeK ls (k+1) i≤32768:=by
   unfold codeK
   have h1:=hpow (k+1) (by omega)
   have h2:cntK (ls.take i) (k+1)≤cntK ls (k+1):=by
    conv=>rhs;rw [←List.take_append_drop i ls]
    rw [cntK_append];omega
   omega
  refine cO (fun hlt=>?_) (fun hge=>?_)
  ·have hlt:=of_decide_eq_true hlt
   have hil:i<ls.length:=by omega
   obtain ⟨x,hx,hxs⟩:=get_of (xs:=ls) (k:=i) hil
   refine hlo3.rd.ix rfl (by omega) (by omega) fun hc=>?_
   rw [hxs] at hc
   refine ldB8 (b:=x) hc ?_
   have h8:=x.toNat_lt
   rw [wrap_nat .i64 (by show _<2^63;omega)]
   refine cO (fun he=>?_) (fun he=>?_)
   ·have he:x.toNat=k+1:=by have:=eq_of_beq he;omega
    refine lSl (x:=so3) (hb3.cells 16 _ rfl) ?_
    refine nwb fun w4 hb4 hB4 hs4=>?_
    have hr4:Rd E_int w4 ⟨some ⟨w3.heap.size,0,none⟩,1,1⟩ [(i:Int)]:=rd_one (E:=E_int) hb4 rfl
    have hsl:(sortedK ls k).length≤100000:=by
     rw [sortedK_length]
     have:∀m,offK ls m≤m*320:=by
      intro m
      induction m with
      | zero=>simp [offK]
      | succ m ih =>
       have:=cntK_le ls m
       rw [offK];omega
     have:=this (k+1)
     omega
    have hsy:(symsK ls (k+1) i).length≤320:=by
     rw [symsK_length ls (k+1) i (by omega)]
     have:=cntK_le (ls.take i) (k+1)
     simp at this
     omega
    have hs3:=hc3.size
    have hb34:=hb3.ext hB4
    have hso34:=hso3.ext hB4
    have hco34:=hco3.ext hB4
    have hlo34:=hlo3.ext hB4
    refine apK_own sT_sl_int hso34 hr4 (by omega) (by rw [by_sl_int];simp [ints];omega) (by simp [maxLen,ints];omega) fun q w5 ho5 hg5 hq5=>?_
    have hc45:Chg (fun k=>so3.blk=some k) w4 w5:=Chg.of_grown hg5 fun k hk=>hk
    have ne1:∀j,so3.blk=some j→j≠g:=fun j hj=>by
     obtain ⟨cs,hcs⟩:=hso34.blk_t hj
     exact hcs.ne_t hb34 (by decide)
    have hb5:=hb34.chg hc45 fun e=>ne1 _ e rfl
    have hco5:=hco34.chg hc45 fun j hj e=>by
     obtain ⟨cs,hcs⟩:=hco34.blk_t hj
     obtain ⟨cs',hcs'⟩:=hso34.blk_t e
     exact hcs.ne_t hcs' (by decide) rfl
    have hlo5:=hlo34.chg hc45 fun j hj e=>by
     obtain ⟨cs,hcs⟩:=hlo34.blk_t hj
     obtain ⟨cs',hcs'⟩:=hso34.blk_t e
     exact hcs.ne_t hcs' (by decide) rfl
    rw [add_mk]
    refine stK_blk hb5 (by rw [tab_len];show 0+16+1≤20;decide) fun w6 hb6 hg6 hs6=>?_
    have hb6:Blk w6 g ty_huff_Table (tabCells (cntK ls) q co lo (lastK ls)):=hb6
    have nb:∀{w':World} {T:Type} {E:El T} {b:Nat} {s:Slc} {xs:List T},Own E w' b s xs→Blk w' g ty_huff_Table (tabCells (cntK ls) so3 co lo (lastK ls))→E.t≠ty_huff_Table→∀j,s.blk=some j→j≠g:=fun ho hb hne j hj=>by
     obtain ⟨cs,hcs⟩:=ho.blk_t hj
     exact hcs.ne_t hb hne
    have ho6:=ho5.chg (Chg.gg hg6) (nb ho5 hb5 (by decide))
    have hco6:=hco5.chg (Chg.gg hg6) (nb hco5 hb5 (by decide))
    have hlo6:=hlo5.chg (Chg.gg hg6) (nb hlo5 hb5 (by decide))
    refine lSl (x:=co) (hb6.drew.cells 17 _ rfl) ?_
    have e1:((k:Int)+1)=((k+1:Nat):Int):=by omega
    refine Reverse_spec (v:=codeK ls (k+1) i) (n:=k+1) (by omega) (by omega) ⟨hb6.drew.cells 17 _ rfl,?_⟩
    refine hco6.drew.rd.ix rfl (by omega) (by rw [codesL_length];omega) fun _=>?_
    have hcx:=codesL_get (k:=k+1) (i:=i) hx
    refine hco6.drew.st0 (x:=_) (y:=((revN (codeK ls (k+1) i) (k+1):Nat):Int)) (by rw [show ((i:Int)).toNat=i from rfl];exact hcx) rfl fun w7 hco7 hg7 hs7=>?_
    rw [show ((i:Int)).toNat=i from rfl,codesL_set hx (by omega) he] at hco7
    have hc67:Chg (fun j=>co.blk=some j) w6.drew w7:=Chg.of_grown hg7 fun j hj=>hj
    have hb7:=hb6.drew.chg hc67 fun e=>by
     obtain ⟨cs,hcs⟩:=hco6.blk_t e
     exact hcs.ne_t hb6 (by decide) rfl
    have ho7:=ho6.drew.chg hc67 fun j hj e=>by
     obtain ⟨cs,hcs⟩:=ho6.blk_t hj
     obtain ⟨cs',hcs'⟩:=hco6.blk_t e
     exact hcs.ne_t hcs' (by decide) rfl
    have hlo7:=hlo6.drew.chg hc67 fun j hj e=>by
     obtain ⟨cs,hcs⟩:=hlo6.blk_t hj
     obtain ⟨cs',hcs'⟩:=hco6.blk_t e
     exact hcs.ne_t hcs' (by decide) rfl
    rw [show ((codeK ls (k+1) i:Nat):Int)+1=((codeK ls (k+1) i+1:Nat):Int) from rfl,wrap_nat .u32 (x:=codeK ls (k+1) i+1) (by show _<2^32;omega),w64i (by omega)]
    refine hI2 _ _ ⟨i+1,q,by simp,by omega,?_,hb7,?_,hco7,hlo7,?_,fun j hj=>?_⟩ (by simp;omega)
    ·show ((codeK ls (k+1) i+1:Nat):Int)=_
     unfold codeK
     rw [cntK_take_succ ls (k+1) i hx,if_pos ⟨by omega,he⟩]
     rfl
    ·rw [symsK_succ ls (k+1) i hx,if_pos ⟨by omega,he⟩,←List.append_assoc]
     have e:ints (sortedK ls (k+1-1)++symsK ls (k+1) i++[i])=ints (sortedK ls (k+1-1)++symsK ls (k+1) i)++[(i:Int)]:=by simp [ints]
     rw [e]
     exact ho7
    ·have c1:Chg (fun k=>k=g∨co.blk=some k) w w4:=hc3.trans (Chg.of_ext (S:=fun k=>k=g∨co.blk=some k) hB4) fun i _ hi=>hi
     have c2:Chg (fun k=>k=g∨co.blk=some k) w w6:=(c1.trans hc45 fun i hi hs=>by have:=hf3 i hs;omega).trans (Chg.gg hg6) fun i _ hi=>.inl hi
     exact (c2.trans (Chg.of_ext (S:=fun k=>k=g∨co.blk=some k) ((Below.refl _ w6).drew)) fun i _ hi=>hi).trans hc67 fun i _ hi=>.inr hi
    ·rcases hq5 with e | e
     ·exact hf3 j (by rw [←e];exact hj)
     ·rw [e] at hj;cases hj;omega
   ·have he:x.toNat≠k+1:=by have:=beq_eq_false_iff_ne.1 he;omega
    rw [w64i (by omega)]
    refine hI2 _ _ ⟨i+1,so3,by simp,by omega,?_,hb3,?_,by rw [codesL_skip hx he];exact hco3,hlo3,hc3,hf3⟩ (by simp;omega)
    ·unfold codeK
     rw [cntK_take_succ ls (k+1) i hx,if_neg (fun h=>he h.2)]
    ·rw [symsK_succ ls (k+1) i hx,if_neg (fun h=>he h.2)]
     exact hso3
  ·have hge:=of_decide_eq_false hge
   have:i=ls.length:=by omega
   subst this
   refine ⟨by decide,hI _ _ ⟨k+1,so3,?_,by omega,?_,hb3,?_,?_,hlo3,hc3,hf3⟩ ?_⟩
   ·dsimp only;rw [w64i (by omega)];omega
   ·dsimp only
    rw [show min ((1:Int)).toNat IntKind.u32.bits=1 by decide,mul_pow_nat,wrap_nat .u32 (by show _<2^32;omega)]
    unfold codeK
    rw [List.take_length,Nat.pow_one,Nat.mul_comm]
    rfl
   ·have e:sortedK ls (k+1+1-1)++symsK ls (k+1+1) 0=sortedK ls (k+1-1)++symsK ls (k+1) ls.length:=by
     show sortedK ls (k+1)++symsK ls (k+2) 0=sortedK ls k++_
     simp [symsK,sortedK]
    rw [e]
    exact hso3
   ·rw [←codesL_next]
    exact hco3
   ·dsimp only;rw [w64i (by omega)];omega
 ·have hgt:=of_decide_eq_false hgt
  have:k=15:=by omega
  subst this
  have e:sortedK ls (15+1-1)++symsK ls (15+1) 0=sortedK ls 15:=by simp [symsK]
  rw [e] at hso2
  exact hK so w2 ⟨hb2,hg,hso2,hco2,hlo2,hsm,hs15,hroom⟩ hc2
end Go.Proofs.YtmagnpcgpinmcaaGreat
namespace Go.Proofs.YtmagnpcgpinmcaaGreat
open Go.Vc Go.RowKit
def badRoom (ls:List UInt8):Prop:=¬(roomN ls=32768∨roomN ls=0∨(roomN ls=16384∧cntK ls 1=1))
instance (ls:List UInt8):Decidable (badRoom ls):=by unfold badRoom;infer_instance
def badLens (ls:List UInt8):Prop:=ls.length>320∨∃x∈ls,15<x.toNat
theorem New_rest {s:Slc} {ls:List UInt8} {w w4:World} {t13 t16:Slc} {g:Nat} {K:Option Addr→Int→World→Prop} (h:Rd E_uint8 w s ls) (hsm:ls.length≤320) (hB:Below w.heap.size w w4) (ho13:Own E_uint8 w4 w.heap.size t13 ls) (ho16:Own E_uint32 w4 w.heap.size t16 (List.replicate ls.length 0))
  (hb:Blk w4 g ty_huff_Table (tabCells (fun _=>0) ⟨none,0,0⟩ t16 t13 0)) (hg:w.heap.size≤g)
  (hK1:badLens ls→∀w',Below w.heap.size w w'→K none 1 w') (hK2:¬badLens ls→badRoom ls→∀w',Below w.heap.size w w'→K none 3 w')
  (hK3:¬badLens ls→¬badRoom ls→∀f w',TabM w' w.heap.size f ls→Below w.heap.size w w'→K (some ⟨f.g,0,none⟩) 0 w') :
  loopP (σ:=Int×Unit) (fun I1 s_1 w5 =>
       cond (decide (s_1.1<((s.n:Nat):Int)))
        (
        ixK s s_1.1 1 fun t23 =>
        ldI .u8 t23 w5 fun t24 =>
        cond (decide (t24>(15:Int)))
         (K none 1 w5)
         (cond (decide (t24>(0:Int)))
           (
           ixA ((⟨g,0,none⟩:Addr).add 0) 16 t24 1 fun t33 =>
           ldI .i64 t33 w5.drew fun t34 =>
           ixA ((⟨g,0,none⟩:Addr).add 0) 16 t24 1 fun t38 =>
           stK t38 [(.int .i64 (IntKind.i64.wrap (t34+(1:Int))))] w5.drew fun w6 =>
           ldI .i64 ((⟨g,0,none⟩:Addr).add 19) w6 fun t43 =>
           stK ((⟨g,0,none⟩:Addr).add 19) [(.int .i64 (if (IntKind.i64.wrap t24)>t43 then (IntKind.i64.wrap t24) else t43))] w6 fun w7 =>
           I1 ((IntKind.i64.wrap (s_1.1+(1:Int))),()) w7)
           (I1 ((IntKind.i64.wrap (s_1.1+(1:Int))),()) w5)))
        (joinP (σ:=Unit) (fun s_1 w8 =>
         c_huff_Table_deal (some (⟨g,0,none⟩:Addr)) w8 fun w9 =>
         K (some (⟨g,0,none⟩:Addr)) 0 w9) fun J2 =>
        c_huff_room s w5 fun t51 w10 =>
        cond (t51 !=(32768:Int))
         (cond (t51 !=(0:Int))
           (cond (t51==(16384:Int))
            (
             ixA ((⟨g,0,none⟩:Addr).add 0) 16 1 1 fun t65 =>
             ldI .i64 t65 w10 fun t66 =>
             cond (!(t66==(1:Int)))
              (K none 3 w10)
              (J2 (()) w10))
            (K none 3 w10))
           (J2 (()) w10))
         (J2 (()) w10))) (0,()) w4:=by
 rw [h.n]
 have hs4:=hB.size
 refine lpR (fun (s:Int×Unit) w5=>∃i:Nat,s.1=i∧i≤ls.length∧Blk w5 g ty_huff_Table (tabCells (cntK (ls.take i)) ⟨none,0,0⟩ t16 t13 (lastK (ls.take i)))∧Chg (fun k=>k=g) w4 w5∧(∀x∈ls.take i,x.toNat≤15)) (fun s=>ls.length-s.1.toNat)
  ⟨0,rfl,by omega,?_,Chg.refl _ _,fun x hx=>by simp at hx⟩ ?_
 ·have e:cntK ([]:List UInt8)=fun _=>0:=funext fun k=>cntK_nil k
  rw [List.take_zero,e]
  exact hb
 rintro ⟨i,_⟩ w5 ⟨i,rfl,hi,hb5,hc5,hsm5⟩ I hI
 dsimp only at *
 have hB5:Below w.heap.size w w5:=hB.trans (hc5.below hs4 fun j hj e=>by omega)
 refine cO (fun hlt=>?_) (fun hge=>?_)
 ·have hlt:=of_decide_eq_true hlt
  obtain ⟨x,hx,hxs⟩:=get_of (xs:=ls) (k:=i) (by omega)
  refine (h.ext hB5).ix rfl (by omega) (by omega) fun hc=>?_
  rw [hxs] at hc
  refine ldB8 (b:=x) hc ?_
  have h8:=x.toNat_lt
  refine cO (fun hbig=>?_) (fun hsmall=>?_)
  ·have hbig:=of_decide_eq_true hbig
   exact hK1 (.inr ⟨x,List.mem_of_getElem? hx,by omega⟩) _ hB5
  ·have hsmall:=of_decide_eq_false hsmall
   have ht:ls.take (i+1)=ls.take i++[x]:=by rw [List.take_add_one,hx];rfl
   have hsm':∀y∈ls.take (i+1),y.toNat≤15:=fun y hy=>by
    rw [ht] at hy
    rcases List.mem_append.1 hy with hy | hy
    ·exact hsm5 y hy
    ·rw [List.mem_singleton.1 hy];omega
   have hlast:lastK (ls.take (i+1))=max (lastK (ls.take i)) x.toNat:=by rw [ht,lastK_append]
   have hl15:=lastK_le hsm5
   refine cO (fun hpos=>?_) (fun hzero=>?_)
   ·have hpos:=of_decide_eq_true hpos
    have hcn:=cntK_le (ls.take i) x.toNat
    simp only [List.length_take] at hcn
    refine ⟨⟨by omega,by omega⟩,?_⟩
    have hcell:∀{w':World} {f:Nat→Nat} {so co lo:Slc} {la:Nat},Blk w' g ty_huff_Table (tabCells f so co lo la)→w'.cell? (((⟨g,0,none⟩:Addr).add 0).add (((x.toNat:Nat):Int).toNat*1))=some (.int .i64 (f x.toNat)):=fun hb=>by
     have:=hb.cells x.toNat _ (tab_get _ _ _ _ _ _ (by omega:x.toNat<16))
     simpa using this
    refine lI (x:=((cntK (ls.take i) x.toNat:Nat):Int)) (hcell hb5.drew) ?_
    refine ⟨⟨by omega,by omega⟩,?_⟩
    rw [w64i (x:=((cntK (ls.take i) x.toNat:Nat):Int)+1) (by omega)]
    have ea:(((⟨g,0,none⟩:Addr).add 0).add (((x.toNat:Nat):Int).toNat*1))=⟨g,x.toNat,none⟩:=by
     rw [add_zero,add_mk];simp
    rw [ea]
    refine stK_blk hb5.drew (by rw [tab_len];show x.toNat+1≤20;omega) fun w6 hb6 hg6 hs6=>?_
    have e1:((cntK (ls.take i) x.toNat:Nat):Int)+1=((cntK (ls.take i) x.toNat+1:Nat):Int):=rfl
    rw [e1,tab_put _ _ _ _ _ _ _ (by omega)] at hb6
    refine lI (x:=((lastK (ls.take i):Nat):Int)) (hb6.cells 19 _ rfl) ?_
    rw [wrap_nat .i64 (x:=x.toNat) (by show _<2^63;omega),add_mk]
    refine stK_blk hb6 (by rw [tab_len];show 0+19+1≤20;decide) fun w7 hb7 hg7 hs7=>?_
    rw [w64i (by omega)]
    refine hI _ _ ⟨i+1,by simp,by omega,?_,?_,hsm'⟩ (by simp;omega)
    ·have ef:cntK (ls.take (i+1))=fun j=>if j=x.toNat then cntK (ls.take i) x.toNat+1 else cntK (ls.take i) j:=funext fun j=>by
      rw [cntK_take_succ ls j i hx]
      by_cases hj:j=x.toNat
      ·subst hj
       rw [if_pos ⟨by omega,rfl⟩,if_pos rfl]
      ·rw [if_neg (fun hh=>hj hh.2.symm),if_neg hj]
     have em:(if ((x.toNat:Nat):Int)>((lastK (ls.take i):Nat):Int) then ((x.toNat:Nat):Int) else ((lastK (ls.take i):Nat):Int))=((lastK (ls.take (i+1)):Nat):Int):=by
      rw [hlast]
      split<;>omega
     rw [em] at hb7
     rw [ef]
     exact hb7
    ·exact ((hc5.trans (Chg.of_ext (S:=fun k=>k=g) ((Below.refl _ w5).drew)) fun i _ hi=>hi).trans (Chg.gg hg6) fun i _ hi=>hi).trans (Chg.gg hg7) fun i _ hi=>hi
   ·have hzero:=of_decide_eq_false hzero
    have hx0:x.toNat=0:=by omega
    rw [w64i (by omega)]
    refine hI _ _ ⟨i+1,by simp,by omega,?_,hc5,hsm'⟩ (by simp;omega)
    have ef:cntK (ls.take (i+1))=cntK (ls.take i):=funext fun j=>by
     rw [cntK_take_succ ls j i hx,if_neg (fun hh=>hh.1 (by omega))]
    rw [ef,hlast,hx0,Nat.max_zero]
    exact hb5
 ·have hge:=of_decide_eq_false hge
  have:i=ls.length:=by omega
  subst this
  rw [List.take_length] at hb5 hsm5
  have hgood:¬badLens ls:=by
   rintro (h1 | ⟨x,hx,h2⟩)
   ·omega
   ·have:=hsm5 x hx;omega
  clear hI I hK1
  refine jpO fun J hJ=>?_
  have hr:=roomN_le ls
  refine room_spec (h.ext hB5) (by omega) ?_
  have co5:Own E_uint32 w5 w.heap.size t16 (List.replicate ls.length 0):=ho16.chg hc5 fun j hj e=>by
   obtain ⟨cs,hcs⟩:=ho16.blk_t hj
   exact hcs.ne_t hb (by decide) e
  have lo5:Own E_uint8 w5 w.heap.size t13 ls:=ho13.chg hc5 fun j hj e=>by
   obtain ⟨cs,hcs⟩:=ho13.blk_t hj
   exact hcs.ne_t hb (by decide) e
  have good:roomN ls≤32768→¬badRoom ls→J () w5:=fun h1 h2=>hJ _ _ (by
   refine deal_spec hb5 hg co5 lo5 hsm hsm5 h1 hB5.size fun so w9 ht hc9=>?_
   refine hK3 hgood h2 ⟨g,so,t16,t13⟩ w9 ht (hB5.trans (hc9.below hB5.size fun j hj hs=>?_))
   rcases hs with e | e
   ·omega
   ·have:=(ho16.lt j e).1;omega)
  refine cO (fun n1=>?_) (fun n1=>?_)
  ·have n1:roomN ls≠32768:=by have:=bne_iff_ne.1 n1;omega
   refine cO (fun n2=>?_) (fun n2=>?_)
   ·have n2:roomN ls≠0:=by have:=bne_iff_ne.1 n2;omega
    refine cO (fun n3=>?_) (fun n3=>?_)
    ·have n3:roomN ls=16384:=by have:=eq_of_beq n3;omega
     refine ⟨⟨by decide,by decide⟩,?_⟩
     have hcell:w5.cell? (((⟨g,0,none⟩:Addr).add 0).add (((1:Int)).toNat*1))=some (.int .i64 (cntK ls 1)):=by
      have:=hb5.cells 1 _ rfl
      simpa using this
     refine lI (x:=((cntK ls 1:Nat):Int)) hcell ?_
     refine cO (fun n4=>?_) (fun n4=>?_)
     ·refine hK2 hgood ?_ _ hB5
      have n4:cntK ls 1≠1:=by
       intro e;rw [e] at n4;simp at n4
      unfold badRoom;omega
     ·refine good (by omega) ?_
      have n4:cntK ls 1=1:=by
       have:(((cntK ls 1:Nat):Int)==1)=true:=by simpa using n4
       have:=eq_of_beq this
       omega
      unfold badRoom;omega
    ·have n3:roomN ls≠16384:=by have:=beq_eq_false_iff_ne.1 n3;omega
     exact hK2 hgood (by unfold badRoom;omega) _ hB5
   ·have n2:roomN ls=0:=by have:=bne_eq_false_iff_eq.1 n2;omega
    exact good (by omega) (by unfold badRoom;omega)
  ·have n1:roomN ls=32768:=by have:=bne_eq_false_iff_eq.1 n1;omega
   exact good (by omega) (by unfold badRoom;omega)
theorem New_spec {s:Slc} {ls:List UInt8} {w:World} {K:Option Addr→Int→World→Prop} (h:Rd E_uint8 w s ls)
  (hK1:badLens ls→∀w',Below w.heap.size w w'→K none 1 w') (hK2:¬badLens ls→badRoom ls→∀w',Below w.heap.size w w'→K none 3 w')
  (hK3:¬badLens ls→¬badRoom ls→∀f w',TabM w' w.heap.size f ls→Below w.heap.size w w'→K (some ⟨f.g,0,none⟩) 0 w'):c_huff_New s w K:=by
 refine call_huff_New _ ?_
 unfold sh_huff_New
 have hm:=rdB_len h
 simp only [maxLen] at hm
 refine cO (fun c=>?_) (fun c=>?_)
 ·have c:=of_decide_eq_true c
  rw [h.n] at c
  exact hK1 (.inl (by omega)) _ (Below.refl _ _)
 have c:=of_decide_eq_false c
 rw [h.n] at c
 have hsm:ls.length≤320:=by omega
 have fr:∀{n:Nat} {k:Nat},(⟨some ⟨n,0,none⟩,0,0⟩:Slc).blk=some k→k=n:=fun hk=>by cases hk;rfl
 have hBd:Below w.heap.size w w.drew:=(Below.refl _ w).drew
 have cp:∀{w1:World} {F:Slc→World→Prop} {t:Nat},Below w.heap.size w w1→Blk w1 t ty_uint8 []→w.heap.size≤t→(∀r w2,Own E_uint8 w2 w.heap.size r ls→Chg (fun k=>k=t) w1 w2→F r w2)→apK PG #[ty_sl_uint8,ty_sl_uint8] ty_sl_uint8 (⟨(some (⟨t,0,none⟩:Addr)),0,0⟩:Slc) s w1 F:=by
  intro w1 F t hB1 hb1 ht hF
  refine apB (own_empty (E:=E_uint8) hb1 ht) (h.ext hB1) hB1.size (by simp;omega) fun r w2 ho hc hq=>hF r w2 ?_ (hc.mono fun i _ hs=>fr hs)
  rw [List.nil_append] at ho
  exact ho
 have mk:∀{w1:World} {F:Slc→World→Prop},Below w.heap.size w w1→(∀r w2,Own E_uint32 w2 w.heap.size r (List.replicate ls.length 0)→Below w1.heap.size w1 w2→F r w2)→mkSl PG ty_sl_uint32 (.int .i64 ((s.n:Nat):Int)) (.int .i64 ((s.n:Nat):Int)) w1 F:=by
  intro w1 F hB1 hF
  refine mkSl_of sT_sl_uint32 (x0:=(0:Int)) rfl (n:=ls.length) (by rw [h.n]) (by rw [h.n]) (by rw [by_sl_uint32];omega) (by simp only [maxLen];omega) fun w2 ho hB=>hF _ w2 (ho.base hB1.size) hB
 refine ⟨?_,?_⟩
 ·refine nwb fun w1 hb1 hB1 hs1=>?_
  refine ⟨?_,?_⟩
  ·have hB01:Below w.heap.size w w1:=hBd.trans hB1
   refine cp hB01 hb1 (Nat.le_refl _) fun t13 w2 ho2 hc2=>?_
   have hB02:Below w.heap.size w w2:=hB01.trans (hc2.below hB01.size fun i hi e=>by have e:i=w.heap.size:=e;omega)
   refine mk hB02 fun t16 w3 ho3 hB3=>?_
   have hB03:Below w.heap.size w w3:=hB02.trans (hB3.mono hB02.size)
   refine nwb fun w4 hb4 hB4 hs4=>?_
   exact New_rest h hsm (hB03.trans (hB4.mono hB03.size)) ((ho2.ext hB3).ext hB4) (ho3.ext hB4) hb4 hB03.size hK1 hK2 hK3
  ·have hB01:Below w.heap.size w w1:=hBd.trans hB1
   refine mk hB01 fun t16 w2 ho2 hB2=>?_
   have hB02:Below w.heap.size w w2:=hB01.trans (hB2.mono hB01.size)
   refine cp hB02 (hb1.ext hB2) (Nat.le_refl _) fun t13 w3 ho3 hc3=>?_
   have hB03:Below w.heap.size w w3:=hB02.trans (hc3.below hB02.size fun i hi e=>by have e:i=w.heap.size:=e;omega)
   have ho23:=ho2.chg hc3 fun j hj e=>by
    obtain ⟨cs,hcs⟩:=ho2.blk_t hj
    exact hcs.ne_t (hb1.ext hB2) (by decide) e
   refine nwb fun w4 hb4 hB4 hs4=>?_
   exact New_rest h hsm (hB03.trans (hB4.mono hB03.size)) (ho3.ext hB4) (ho23.ext hB4) hb4 hB03.size hK1 hK2 hK3
 ·refine mk hBd fun t16 w1 ho1 hB1=>?_
  have hB01:Below w.heap.size w w1:=hBd.trans hB1
  refine nwb fun w2 hb2 hB2 hs2=>?_
  have hB02:Below w.heap.size w w2:=hB01.trans (hB2.mono hB01.size)
  refine cp hB02 hb2 hB01.size fun t13 w3 ho3 hc3=>?_
  have hB03:Below w.heap.size w w3:=hB02.trans (hc3.below hB02.size fun i hi e=>by have e:i=w1.heap.size:=e;have:=hB01.size;omega)
  have ho13:=(ho1.ext hB2).chg hc3 fun j hj e=>by
   obtain ⟨cs,hcs⟩:=(ho1.ext hB2).blk_t hj
   exact hcs.ne_t hb2 (by decide) e
  refine nwb fun w4 hb4 hB4 hs4=>?_
  exact New_rest h hsm (hB03.trans (hB4.mono hB03.size)) (ho3.ext hB4) (ho13.ext hB4) hb4 hB03.size hK1 hK2 hK3
section
variable {w:World} {base g:Nat} {s:Slc} {bs ls:List UInt8} {at_:Nat} {f:TF}
theorem Read_spec {K:Int→Int→World→Prop} (hb:Blk w f.g ty_huff_Table (tabCells (cntK ls) f.so f.co f.lo (lastK ls))) (hso:Rd E_int w f.so (ints (sortedK ls 15))) (hsg:∀k,f.so.blk=some k→k≠g) (hsm:ls.length≤320) (h15:∀x∈ls,x.toNat≤15) (hroom:roomN ls≤32768) (h:RdrM w g s bs at_)
  (hK1:∀y k w',readT ls bs at_=.sym y k→at_+k≤8*bs.length→y<ls.length→RdrM w' g s bs (at_+k)→Chg (fun k=>k=g) w w'→K y 0 w')
  (hK2:∀w',readT ls bs at_=.short→Below w.heap.size w w'→K 0 2 w') (hK3:∀w',readT ls bs at_=.form→Below w.heap.size w w'→K 0 3 w'):c_huff_Table_Read (some ⟨f.g,0,none⟩) (some ⟨g,0,none⟩) w K:=by
 refine call_huff_Table_Read _ _ ?_
 unfold sh_huff_Table_Read
 have hle:=h.le
 have hsmb:=h.sm
 refine Left_spec h ?_
 obtain ⟨ah,hah⟩:∃a,min 15 (8*bs.length-at_)=a:=⟨_,rfl⟩
 have e0:(if ((8*bs.length-at_:Nat):Int)<15 then ((8*bs.length-at_:Nat):Int) else 15)=(ah:Int):=by split<;>omega
 simp only [e0]
 have hah15:ah≤15:=by omega
 have hahl:at_+ah≤8*bs.length:=by omega
 refine Peek_spec h.drew (fun m w2 e hm hl hB=>?_) (fun w2 hn hB=>by omega)
 have:m=ah:=by omega
 subst this
 have hB02:Below w.heap.size w w2:=(Below.refl _ w).drew.trans hB
 have hsl:(sortedK ls 15).length=offK ls 16:=sortedK_length ls 15
 have hof:∀k,offK ls k≤k*320:=by
  intro k
  induction k with
  | zero=>simp [offK]
  | succ k ih=>have:=cntK_le ls k;rw [offK];omega
 have hl15:=lastK_le h15
 refine lpR (fun (s:Int×Int×Int×Int×Int×Unit) w3=>∃k:Nat,s.2.2.2.2.1=((k+1:Nat):Int)∧k≤15∧s.1=((2*msb bs at_ k:Nat):Int)∧s.2.1=((firstK ls (k+1):Nat):Int)∧s.2.2.1=((offK ls (k+1):Nat):Int)∧(k≤m→s.2.2.2.1=((peekN bs at_ m/2^k:Nat):Int))∧firstK ls (k+1)≤2*msb bs at_ k∧readT ls bs at_=readGo ls bs at_ (16-k) (k+1)∧Below w.heap.size w w3)
  (fun s=>17-s.2.2.2.2.1.toNat) ⟨0,rfl,by omega,rfl,by simp [firstK,cntK],by simp [offK,cntK],fun _=>by simp,by simp [firstK,cntK],rfl,hB02⟩ ?_
 rintro ⟨c,fi,of,v,k,_⟩ w3 ⟨k,rfl,hk,rfl,rfl,rfl,hv,hfirst,hT,hB3⟩ I hI
 dsimp only at *
 have hb3:=hb.ext hB3
 simp only [onPtr_some]
 refine lI (x:=((lastK ls:Nat):Int)) (hb3.cells 19 _ rfl) ?_
 rw [show 16-k=(15-k)+1 by omega,readGo] at hT
 refine cO (fun hlast=>?_) (fun hlast=>?_)
 ·have hlast:((k+1:Nat):Int)≤(lastK ls:Nat):=of_decide_eq_true hlast
  rw [if_neg (by omega),hah] at hT
  refine cO (fun hsh=>?_) (fun hsh=>?_)
  ·have hsh:((k+1:Nat):Int)>(m:Int):=of_decide_eq_true hsh
   rw [if_pos (by omega)] at hT
   exact hK2 _ hT hB3
  ·have hsh:¬((k+1:Nat):Int)>(m:Int):=of_decide_eq_false hsh
   rw [if_neg (by omega)] at hT
   have hv:=hv (by omega)
   subst hv
   have hbit:bitsR .and .u32 ((peekN bs at_ m/2^k:Nat):Int) 1=((peekN bs (at_+k) 1:Nat):Int):=by
    have h1:peekN bs at_ m/2^k<2^32:=Nat.lt_of_le_of_lt (Nat.div_le_self _ _) (Nat.lt_of_lt_of_le (peekN_lt bs at_ m) (Nat.pow_le_pow_right (by decide) (by omega)))
    rw [show (1:Int)=((1:Nat):Int) from rfl,bits_and .u32 h1 (by decide),one_and,peekN_div bs at_ k m (by omega)]
    have:=peekN_mod bs (at_+k) 1 (m-k) (by omega)
    rw [Nat.pow_one] at this
    rw [this]
   have hbl:=peekN_lt bs (at_+k) 1
   have hml:=msb_lt bs at_ k
   have hpk:2^k≤2^15:=Nat.pow_le_pow_right (by decide) hk
   have hcode:bitsR .or .i64 ((2*msb bs at_ k:Nat):Int) (IntKind.i64.wrap ((peekN bs (at_+k) 1:Nat):Int))=((msb bs at_ (k+1):Nat):Int):=by
    rw [wrap_nat .i64 (by show _<2^63;omega),bits_or .i64 (by show _<2^63;omega) (by show _<2^63;omega),two_or _ _ (by omega)]
    rfl
   have hm1:=msb_lt bs at_ (k+1)
   have hms:msb bs at_ (k+1)=2*msb bs at_ k+peekN bs (at_+k) 1:=rfl
   have hkr:=kraft hroom (k:=k+1) (by omega)
   have hpk1:2^(k+1)≤2^15:=Nat.pow_le_pow_right (by decide) (by omega)
   have hcell:w3.cell? (((⟨f.g,0,none⟩:Addr).add 0).add ((((k+1:Nat):Int)).toNat*1))=some (.int .i64 (cntK ls (k+1))):=by
    have:=hb3.cells (k+1) _ (tab_get _ _ _ _ _ _ (by omega:k+1<16))
    simpa using this
   have hin:(0:Int)≤((k+1:Nat):Int)∧((k+1:Nat):Int)<((16:Nat):Int):=by omega
   refine ⟨by decide,hin,?_⟩
   refine lI (x:=((cntK ls (k+1):Nat):Int)) hcell ?_
   simp only [hbit,hcode]
   rw [w64i (x:=((msb bs at_ (k+1):Nat):Int)-(firstK ls (k+1):Nat)) (by omega)]
   refine cO (fun hfound=>?_) (fun hno=>?_)
   ·have hfound:=of_decide_eq_true hfound
    rw [if_pos (by omega)] at hT
    have hr3:=h.ext hB3
    refine Bits_spec hr3 (fun m' w4 e hm' hl' hr4 hc4=>?_) (fun w4 hn _=>by omega)
    have:m'=k+1:=by omega
    subst this
    have hb4:=hb3.chg hc4 fun e=>by
     have:=hb3.ne_t hr3.blk (by decide)
     exact this e
    refine lSl (x:=f.so) (hb4.cells 16 _ rfl) ?_
    have hso4:=(hso.ext hB3).chg hc4 fun a ha e=>hsg _ (slk.2 ⟨a,ha,rfl⟩) e
    have hoff:=hof (k+1)
    have hoff16:=hof 16
    have hj:msb bs at_ (k+1)-firstK ls (k+1)<cntK ls (k+1):=by omega
    have hg:=sortedK_get ls (k:=k+1) (m:=15) (by omega) (by omega) hj
    have hsy:=symsK_length ls (k+1) ls.length (Nat.le_refl _)
    rw [List.take_length] at hsy
    have hyy:(symsK ls (k+1) ls.length)[msb bs at_ (k+1)-firstK ls (k+1)]?=some ((symsK ls (k+1) ls.length)[msb bs at_ (k+1)-firstK ls (k+1)]'(by omega)):=List.getElem?_eq_getElem _
    obtain ⟨y,hy⟩:∃y,(symsK ls (k+1) ls.length)[msb bs at_ (k+1)-firstK ls (k+1)]?=some y:=⟨_,hyy⟩
    rw [hy] at hg
    obtain ⟨_,hyl,_,_⟩:=symsK_mem ls (k+1) ls.length (Nat.le_refl _) _ _ hy
    have hgl:=(List.getElem?_eq_some_iff.1 hg).1
    rw [w64i (x:=((offK ls (k+1):Nat):Int)+(msb bs at_ (k+1):Nat)) (by omega),w64i (by omega)]
    have ei:((offK ls (k+1):Nat):Int)+(msb bs at_ (k+1):Nat)-(firstK ls (k+1):Nat)=((offK ls (k+1)+(msb bs at_ (k+1)-firstK ls (k+1)):Nat):Int):=by omega
    rw [ei]
    refine hso4.ix rfl (by omega) (by simp only [ints,List.length_map];omega) fun hc=>?_
    have hgi:(ints (sortedK ls 15))[offK ls (k+1)+(msb bs at_ (k+1)-firstK ls (k+1))]?=some (y:Int):=by
     unfold ints
     rw [List.getElem?_map,hg]
     rfl
    have hgx:∀h',(ints (sortedK ls 15))[(((offK ls (k+1)+(msb bs at_ (k+1)-firstK ls (k+1)):Nat):Int)).toNat]'h'=(y:Int):=fun h'=>by
     have:=List.getElem?_eq_getElem (l:=ints (sortedK ls 15)) (i:=offK ls (k+1)+(msb bs at_ (k+1)-firstK ls (k+1))) h'
     rw [hgi] at this
     exact (Option.some.inj this).symm
    rw [hgx] at hc
    refine lI (x:=(y:Int)) (by simpa using hc 0 _ rfl) ?_
    refine hK1 y (k+1) w4 ?_ hl' hyl hr4 ((Chg.of_ext (S:=fun k=>k=g) hB3).trans hc4 fun i _ hi=>hi)
    rw [hT,List.getD_eq_getElem?_getD,hg]
    rfl
   ·have hno:=of_decide_eq_false hno
    rw [if_neg (by omega)] at hT
    have hoff:=hof (k+1)
    refine ⟨hin,?_⟩
    refine lI (x:=((cntK ls (k+1):Nat):Int)) hcell ⟨hin,?_⟩
    refine lI (x:=((cntK ls (k+1):Nat):Int)) hcell ⟨by decide,by decide,?_⟩
    have hcl:=cntK_le ls (k+1)
    have m1:min ((1:Int)).toNat IntKind.i64.bits=1:=by decide
    have m2:min ((1:Int)).toNat IntKind.u32.bits=1:=by decide
    rw [w64i (x:=((firstK ls (k+1):Nat):Int)+(cntK ls (k+1):Nat)) (by omega)]
    have ef:((firstK ls (k+1):Nat):Int)+(cntK ls (k+1):Nat)=((firstK ls (k+1)+cntK ls (k+1):Nat):Int):=by omega
    rw [m1,m2,ef,mul_pow_nat,mul_pow_nat,wrap_nat .i64 (by show _<2^63;omega),wrap_nat .i64 (by show _<2^63;omega),fdiv_nat,w64i (x:=((offK ls (k+1):Nat):Int)+(cntK ls (k+1):Nat)) (by omega),w64i (x:=((k+1:Nat):Int)+1) (by omega)]
    by_cases hk15:k+1≤15
    ·refine hI _ _ ⟨k+1,rfl,hk15,?_,?_,?_,fun hkm=>?_,?_,?_,hB3⟩ (by simp;omega)
     ·dsimp only;rw [Nat.pow_one,Nat.mul_comm]
     ·dsimp only;rw [Nat.pow_one,Nat.mul_comm];rfl
     ·rfl
     ·dsimp only;rw [Nat.div_div_eq_div_mul,←Nat.pow_succ]
     ·show 2*(firstK ls (k+1)+cntK ls (k+1))≤2*msb bs at_ (k+1)
      omega
     ·rw [hT,show 15-k=16-(k+1) by omega]
    ·omega
 ·have hlast:¬((k+1:Nat):Int)≤(lastK ls:Nat):=of_decide_eq_false hlast
  rw [if_pos (by omega)] at hT
  exact hK3 _ hT hB3
theorem Code_spec {y:Nat} {x:UInt8} {K:Int→Int→World→Prop} (h:TabM w base f ls) (hx:ls[y]?=some x) (hx0:0<x.toNat)
  (hK:K ((revN (codeK ls x.toNat y) x.toNat:Nat):Int) ((x.toNat:Nat):Int) w.drew):c_huff_Table_Code (some ⟨f.g,0,none⟩) y w K:=by
 refine call_huff_Table_Code _ _ ?_
 unfold sh_huff_Table_Code
 simp only [onPtr_some]
 have hy:y<ls.length:=(List.getElem?_eq_some_iff.1 hx).1
 have hxs:∀h,ls[((y:Nat):Int).toNat]'h=x:=fun h'=>by
  have:=List.getElem?_eq_getElem (l:=ls) (i:=y) h'
  rw [hx] at this
  exact (Option.some.inj this).symm
 have hlon:f.lo.n=ls.length:=h.lo.rd.n
 refine jpO fun J hJ=>?_
 refine cF (by simp) ?_
 refine lSl (x:=f.lo) (h.blk.cells 18 _ rfl) ?_
 rw [hlon]
 refine cF (by simp;omega) ?_
 refine lSl (x:=f.lo) (h.blk.cells 18 _ rfl) ?_
 refine h.lo.rd.ix rfl (by omega) (by omega) fun hc=>?_
 rw [hxs] at hc
 refine ldB8 (b:=x) hc ?_
 refine cF (by simp;omega) (hJ _ _ ?_)
 have hd:=h.drew
 have h15:=h.small x (List.mem_of_getElem? hx)
 refine lSl (x:=f.co) (hd.blk.cells 17 _ rfl) ?_
 refine hd.co.rd.ix rfl (by omega) (by rw [codesL_length];omega) fun hc2=>?_
 have hcx:=codesL_get (k:=16) (i:=0) hx
 rw [if_pos ⟨hx0,.inl (by omega)⟩] at hcx
 have hcs:∀h',(codesL ls 16 0)[((y:Nat):Int).toNat]'h'=((revN (codeK ls x.toNat y) x.toNat:Nat):Int):=fun h'=>by
  have:=List.getElem?_eq_getElem (l:=codesL ls 16 0) (i:=y) h'
  rw [hcx] at this
  exact (Option.some.inj this).symm
 rw [hcs] at hc2
 refine lI (x:=((revN (codeK ls x.toNat y) x.toNat:Nat):Int)) (by simpa using hc2 0 _ rfl) ?_
 refine lSl (x:=f.lo) (hd.blk.cells 18 _ rfl) ?_
 refine hd.lo.rd.ix rfl (by omega) (by omega) fun hc3=>?_
 rw [hxs] at hc3
 refine ldB8 (b:=x) hc3 ?_
 have h8:=x.toNat_lt
 rw [wrap_nat .i64 (x:=x.toNat) (by show _<2^63;omega)]
 exact hK
end
end Go.Proofs.YtmagnpcgpinmcaaGreat
namespace Go.Proofs.YtmagnpcgpinmcaaGreat
open Go.Vc Go.RowKit
set_option maxRecDepth 400000
theorem fixedL_length:fixedL.length=288:=by
 unfold fixedL
 simp only [List.length_append,List.length_replicate]
theorem fixedL_get (i:Nat) (hi:i<288):fixedL[i]?=some (if i<144 then 8 else if i<256 then 9 else if i<280 then 7 else 8):=by
 unfold fixedL
 simp only [List.getElem?_append,List.length_append,List.length_replicate,List.getElem?_replicate]
 repeat' split
 all_goals first | rfl | (exfalso;omega)
theorem fill5 {w:World} {base n:Nat} {t:Slc} {K:World→Prop} (hn:n≤100000) (ho:Own E_uint8 w base t (List.replicate n 0)) (hK:∀w',Own E_uint8 w' base t (List.replicate n 5)→Chg (fun k=>t.blk=some k) w w'→K w') :
  loopP (σ:=Int×Unit) (fun I s w6=>cond (decide (s.1<((t.n:Nat):Int))) (ixK t s.1 1 fun t49=>stK t49 [(.int .u8 5)] w6 fun w7=>I ((IntKind.i64.wrap (s.1+(1:Int))),()) w7) (K w6)) (0,()) w:=by
 have htn:t.n=n:=by rw [ho.rd.n,List.length_replicate]
 rw [htn]
 have hrl:(List.replicate n (5:UInt8)).length=(List.replicate n (0:UInt8)).length:=by simp
 refine lpR (fun (s:Int×Unit) w2=>∃k:Nat,s.1=k∧k≤n∧Own E_uint8 w2 base t (mix (List.replicate n 5) (List.replicate n 0) k)∧Chg (fun k=>t.blk=some k) w w2) (fun s=>n-s.1.toNat) ⟨0,rfl,by omega,by rw [mix_zero];exact ho,Chg.refl _ _⟩ ?_
 rintro ⟨i,_⟩ w2 ⟨k,rfl,hk,ho2,hc2⟩ I hI
 dsimp only at *
 refine cO (fun hlt=>?_) (fun hge=>?_)
 ·have hlt:=of_decide_eq_true hlt
  have hkl:k<(List.replicate n (0:UInt8)).length:=by simp;omega
  refine ho2.rd.ix rfl (by omega) (by rw [mix_length hrl];simp;omega) fun _=>?_
  have hx:(mix (List.replicate n 5) (List.replicate n 0) k)[k]?=some (0:UInt8):=by
   rw [mix_get hrl hkl,if_neg (by omega),List.getElem?_replicate,if_pos (by omega)]
  refine ho2.st0 (x:=0) (y:=5) (by rw [show ((k:Int)).toNat=k from rfl];exact hx) rfl fun w3 ho3 hg3 hs3=>?_
  rw [show ((k:Int)).toNat=k from rfl,mix_set hrl hkl (by rw [List.getElem?_replicate,if_pos (by omega)])] at ho3
  rw [w64i (by omega)]
  exact hI _ _ ⟨k+1,by simp,by omega,ho3,hc2.trans (Chg.of_grown hg3 fun k hk=>hk) fun i _ hi=>hi⟩ (by simp;omega)
 ·have hge:=of_decide_eq_false hge
  have:k=n:=by omega
  subst this
  have:=mix_all hrl
  rw [List.length_replicate] at this
  rw [this] at ho2
  exact hK w2 ho2 hc2
theorem Fixed_rest {w:World} {base:Nat} {t6 t7:Slc} {K:Slc→Slc→World→Prop} (ho6:Own E_uint8 w base t6 (List.replicate 288 0)) (ho7:Own E_uint8 w base t7 (List.replicate 30 0)) (hne:∀k,t6.blk=some k→t7.blk≠some k) (hbase:base≤w.heap.size)
  (hK:∀w',Own E_uint8 w' base t6 fixedL→Own E_uint8 w' base t7 (List.replicate 30 5)→Below base w w'→K t6 t7 w') :
  loopP (σ:=Int×Unit) (fun I1 s w3 =>
    cond (decide (s.1<((t6.n:Nat):Int)))
     (cond (decide (s.1<(144:Int)))
      (
       ixK t6 s.1 1 fun t21 =>
       stK t21 [(.int .u8 8)] w3 fun w4 =>
       I1 ((IntKind.i64.wrap (s.1+(1:Int))),()) w4)
      (cond (decide (s.1<(256:Int)))
        (
        ixK t6 s.1 1 fun t27 =>
        stK t27 [(.int .u8 9)] w3 fun w5 =>
        I1 ((IntKind.i64.wrap (s.1+(1:Int))),()) w5)
        (cond (decide (s.1<(280:Int)))
         (
          ixK t6 s.1 1 fun t33 =>
          stK t33 [(.int .u8 7)] w3 fun w6 =>
          I1 ((IntKind.i64.wrap (s.1+(1:Int))),()) w6)
         (
          ixK t6 s.1 1 fun t15 =>
          stK t15 [(.int .u8 8)] w3 fun w7 =>
          I1 ((IntKind.i64.wrap (s.1+(1:Int))),()) w7))))
     (loopP (σ:=Int×Unit) (fun I2 s_1 w8 =>
      cond (decide (s_1.1<((t7.n:Nat):Int)))
       (
        ixK t7 s_1.1 1 fun t42 =>
        stK t42 [(.int .u8 5)] w8 fun w9 =>
        I2 ((IntKind.i64.wrap (s_1.1+(1:Int))),()) w9)
       (K t6 t7 w8)) (0,()) w3)) (0,()) w:=by
 have htn:t6.n=288:=by rw [ho6.rd.n,List.length_replicate]
 rw [htn]
 have hrl:fixedL.length=(List.replicate 288 (0:UInt8)).length:=by rw [fixedL_length,List.length_replicate]
 refine lpR (fun (s:Int×Unit) w2=>∃k:Nat,s.1=k∧k≤288∧Own E_uint8 w2 base t6 (mix fixedL (List.replicate 288 0) k)∧Chg (fun k=>t6.blk=some k) w w2) (fun s=>288-s.1.toNat) ⟨0,rfl,by omega,by rw [mix_zero];exact ho6,Chg.refl _ _⟩ ?_
 rintro ⟨i,_⟩ w2 ⟨k,rfl,hk,ho2,hc2⟩ I hI
 dsimp only at *
 refine cO (fun hlt=>?_) (fun hge=>?_)
 ·have hlt:=of_decide_eq_true hlt
  have hk288:k<288:=by omega
  have hkl:k<(List.replicate 288 (0:UInt8)).length:=by rw [List.length_replicate];exact hk288
  have hget:=fixedL_get k hk288
  have st:∀v:UInt8,fixedL[k]?=some v→ixK t6 (k:Int) 1 fun a=>stK a [(.int .u8 (v.toNat:Int))] w2 fun w4=>I ((IntKind.i64.wrap ((k:Int)+(1:Int))),()) w4:=fun v hv=>by
   refine ho2.rd.ix rfl (by omega) (by rw [mix_length hrl,List.length_replicate];omega) fun _=>?_
   have hx:(mix fixedL (List.replicate 288 0) k)[k]?=some (0:UInt8):=by
    rw [mix_get hrl hkl,if_neg (by omega),List.getElem?_replicate,if_pos hk288]
   refine ho2.st0 (x:=0) (y:=v) (by rw [show ((k:Int)).toNat=k from rfl];exact hx) rfl fun w3 ho3 hg3 hs3=>?_
   rw [show ((k:Int)).toNat=k from rfl,mix_set hrl hkl hv] at ho3
   rw [w64i (by omega)]
   exact hI _ _ ⟨k+1,by simp,by omega,ho3,hc2.trans (Chg.of_grown hg3 fun k hk=>hk) fun i _ hi=>hi⟩ (by simp;omega)
  refine cO (fun h1=>?_) (fun h1=>cO (fun h2=>?_) (fun h2=>cO (fun h3=>?_) (fun h3=>?_)))
  ·have h1:=of_decide_eq_true h1
   rw [if_pos (by omega)] at hget
   exact st 8 hget
  ·have h1:=of_decide_eq_false h1
   have h2:=of_decide_eq_true h2
   rw [if_neg (by omega),if_pos (by omega)] at hget
   exact st 9 hget
  ·have h1:=of_decide_eq_false h1
   have h2:=of_decide_eq_false h2
   have h3:=of_decide_eq_true h3
   rw [if_neg (by omega),if_neg (by omega),if_pos (by omega)] at hget
   exact st 7 hget
  ·have h1:=of_decide_eq_false h1
   have h2:=of_decide_eq_false h2
   have h3:=of_decide_eq_false h3
   rw [if_neg (by omega),if_neg (by omega),if_neg (by omega)] at hget
   exact st 8 hget
 ·have hge:=of_decide_eq_false hge
  have:k=288:=by omega
  subst this
  have:=mix_all hrl
  rw [List.length_replicate] at this
  rw [this] at ho2
  have ho7':=ho7.chg hc2 fun j hj e=>hne j e hj
  have hs2:=hc2.size
  refine fill5 (n:=30) (by decide) ho7' fun w3 ho3 hc3=>?_
  have hB:Below base w w3:=(hc2.below hbase fun i hi hs=>by have:=(ho6.lt i hs).1;omega).trans (hc3.below (by omega) fun i hi hs=>by have:=(ho7.lt i hs).1;omega)
  exact hK w3 (ho2.chg hc3 fun j hj e=>hne j hj e) ho3 hB
theorem HFixed_spec {w:World} {K:Slc→Slc→World→Prop} (hK:∀t6 t7 w',Own E_uint8 w' w.heap.size t6 fixedL→Below w.heap.size w w'→K t6 t7 w'):c_huff_Fixed w K:=by
 refine call_huff_Fixed ?_
 unfold sh_huff_Fixed
 have hBd:Below w.heap.size w w.drew:=(Below.refl _ w).drew
 have mk:∀{n:Int} {m:Nat} {w1:World} {F:Slc→World→Prop},n=m→m≤1000→(∀r w2,Own E_uint8 w2 w1.heap.size r (List.replicate m 0)→r.blk=some w1.heap.size→Below w1.heap.size w1 w2→F r w2)→mkSl PG ty_sl_uint8 (.int .i64 n) (.int .i64 n) w1 F:=by
  intro n m w1 F e hm hF
  exact mkSl_of sT_sl_uint8 (x0:=(0:UInt8)) rfl (n:=m) e e (by rw [by_sl_uint8];omega) (by simp only [maxLen];omega) fun w2 ho hB=>hF _ w2 ho rfl hB
 refine ⟨?_,?_⟩
 ·refine mk (m:=288) rfl (by decide) fun t6 w1 ho1 hb1 hB1=>?_
  refine mk (m:=30) rfl (by decide) fun t7 w2 ho2 hb2 hB2=>?_
  have hs1:w.heap.size≤w1.heap.size:=hB1.size
  refine Fixed_rest (base:=w.heap.size) (ho1.ext hB2) (ho2.base hs1) (fun k e e'=>?_) (Nat.le_trans hs1 hB2.size) fun w3 h6 h7 hB3=>?_
  ·rw [hb2] at e'
   cases e'
   have:=(ho1.lt _ e).2
   omega
  ·exact hK _ _ w3 h6 ((hBd.trans (hB1.trans (hB2.mono hs1))).trans hB3)
 ·refine mk (m:=30) rfl (by decide) fun t7 w1 ho1 hb1 hB1=>?_
  refine mk (m:=288) rfl (by decide) fun t6 w2 ho2 hb2 hB2=>?_
  have hs1:w.heap.size≤w1.heap.size:=hB1.size
  refine Fixed_rest (base:=w.heap.size) (ho2.base hs1) (ho1.ext hB2) (fun k e e'=>?_) (Nat.le_trans hs1 hB2.size) fun w3 h6 h7 hB3=>?_
  ·rw [hb2] at e
   cases e
   have:=(ho1.lt _ e').2
   omega
  ·exact hK _ _ w3 h6 ((hBd.trans (hB1.trans (hB2.mono hs1))).trans hB3)
structure TabR (w:World) (base:Nat) (f:TF) (ls:List UInt8):Prop where
 blk:Blk w f.g ty_huff_Table (tabCells (cntK ls) f.so f.co f.lo (lastK ls))
 so:Own E_int w base f.so (ints (sortedK ls 15))
 hg:base≤f.g
 sm:ls.length≤320
 small:∀x∈ls,x.toNat≤15
 room:roomN ls≤32768
theorem TabM.r {w:World} {base:Nat} {f:TF} {ls:List UInt8} (h:TabM w base f ls):TabR w base f ls:=⟨h.blk,h.so,h.hg,h.sm,h.small,h.room⟩
def NoTab (w:World) (k:Nat):Prop:=∃t cs,Blk w k t cs∧t≠ty_huff_Table∧t≠ty_int
section
variable {w w':World} {base:Nat} {f:TF} {ls:List UInt8}
theorem TabR.chg {T:Nat→Prop} (h:TabR w base f ls) (hc:Chg T w w') (hT:∀k,T k→k<w.heap.size→NoTab w k):TabR w' base f ls:=by
 refine ⟨h.blk.chg hc fun hs=>?_,h.so.chg hc fun k hk hs=>?_,h.hg,h.sm,h.small,h.room⟩
 ·obtain ⟨t,cs,hb,h1,h2⟩:=hT _ hs h.blk.lt
  exact hb.ne_t h.blk h1 rfl
 ·obtain ⟨t,cs,hb,h1,h2⟩:=hT _ hs (h.so.lt k hk).2
  obtain ⟨cs',hcs'⟩:=h.so.blk_t hk
  exact hb.ne_t hcs' h2 rfl
theorem TabR.ext (h:TabR w base f ls) (hb:Below w.heap.size w w'):TabR w' base f ls:=h.chg (Chg.of_ext (S:=fun _=>False) hb) fun _ h=>h.elim
theorem TabR.base_le {b:Nat} (h:TabR w base f ls) (hb:b≤base):TabR w b f ls:=⟨h.blk,h.so.base hb,Nat.le_trans hb h.hg,h.sm,h.small,h.room⟩
end
structure DF where
 d:Nat
 wait:Slc
 ring:Slc
 out:Slc
 sg:Option TF
 ds:Option TF
structure DS where
 most:Nat
 told:Nat
 took:Nat
 given:Nat
 skip:Nat
 c:Cfg
 wait:List UInt8
 out:List UInt8
def dS (F:DF) (k:Nat):Prop:=k=F.d∨F.ring.blk=some k∨F.out.blk=some k
def tp (o:Option TF):Option Addr:=o.map fun f=>⟨f.g,0,none⟩
def decCells (F:DF) (S:DS) (failed:Int):List Value :=
 [.int .i64 S.most,.int .i64 S.c.mode,.bool S.c.last,.slice F.wait.a F.wait.n F.wait.c,.int .i64 S.skip,.int .i64 S.c.left,.pointer (tp F.sg),.pointer (tp F.ds),.slice F.ring.a F.ring.n F.ring.c,.int .i64 S.c.hist.length,.int .i64 S.told,.int .i64 S.took,.int .i64 S.given,.int .i64 failed,.slice F.out.a F.out.n F.out.c]
structure DecM (w:World) (base:Nat) (F:DF) (S:DS):Prop where
 blk:Blk w F.d ty_inflate_Decoder (decCells F S 0)
 hd:base≤F.d
 ring:Own E_uint8 w base F.ring (ringOf S.c.hist)
 out:Own E_uint8 w base F.out S.out
 wait:Rd E_uint8 w F.wait S.wait
 tabs:S.c.mode=4→∃f1 f2,F.sg=some f1∧F.ds=some f2∧TabR w base f1 S.c.sg∧TabR w base f2 S.c.ds
 ne:∀k,F.ring.blk=some k→F.out.blk≠some k
 wn:∀k,F.wait.blk=some k→F.ring.blk≠some k∧F.out.blk≠some k∧k≠F.d
 m5:S.c.mode≤5
 mo:S.most≤1073741824
 ho:S.out.length≤S.c.hist.length
 hm:S.c.hist.length≤S.most
 hl:S.c.left≤65535
 hw:S.wait.length≤100000000000
 hs:S.skip≤8
 ht:S.took≤1000000000000∧S.given≤1000000000000∧S.told≤S.c.hist.length
section
variable {w w':World} {base:Nat} {F:DF} {S:DS}
theorem DecM.noTab (h:DecM w base F S):∀k,dS F k→NoTab w k:=by
 rintro k (rfl | hk | hk)
 ·exact ⟨_,_,h.blk,by decide,by decide⟩
 ·obtain ⟨cs,hcs⟩:=h.ring.blk_t hk
  exact ⟨_,_,hcs,by decide,by decide⟩
 ·obtain ⟨cs,hcs⟩:=h.out.blk_t hk
  exact ⟨_,_,hcs,by decide,by decide⟩
theorem DecM.below (h:DecM w base F S):∀k,dS F k→base≤k∧k<w.heap.size:=by
 rintro k (rfl | hk | hk)
 ·exact ⟨h.hd,h.blk.lt⟩
 ·exact h.ring.lt k hk
 ·exact h.out.lt k hk
theorem DecM.chg {T:Nat→Prop} (h:DecM w base F S) (hc:Chg T w w') (hT:∀k,dS F k∨F.wait.blk=some k→¬T k) (hN:∀k,T k→k<w.heap.size→NoTab w k):DecM w' base F S:=by
 refine ⟨h.blk.chg hc (hT _ (.inl (.inl rfl))),h.hd,h.ring.chg hc fun k hk=>hT k (.inl (.inr (.inl hk))),h.out.chg hc fun k hk=>hT k (.inl (.inr (.inr hk))),h.wait.chg hc fun a ha=>hT _ (.inr (slk.2 ⟨a,ha,rfl⟩)),fun hm=>?_,h.ne,h.wn,h.m5,h.mo,h.ho,h.hm,h.hl,h.hw,h.hs,h.ht⟩
 obtain ⟨f1,f2,e1,e2,t1,t2⟩:=h.tabs hm
 exact ⟨f1,f2,e1,e2,t1.chg hc hN,t2.chg hc hN⟩
theorem DecM.ext (h:DecM w base F S) (hb:Below w.heap.size w w'):DecM w' base F S:=h.chg (Chg.of_ext (S:=fun _=>False) hb) (fun _ _=>id) fun _ h=>h.elim
theorem DecM.drew (h:DecM w base F S):DecM w.drew base F S:=h.ext ((Below.refl _ w).drew)
theorem DecM.put {F':DF} {S':DS} (h:DecM w base F S) (hb:Blk w' F.d ty_inflate_Decoder (decCells F' S' 0)) (hg:w.grownBy w' (some F.d)) (e1:F'.d=F.d) (e2:F'.ring=F.ring) (e3:F'.out=F.out) (e4:F'.wait=F.wait) (e5:S'.c.hist=S.c.hist) (e6:S'.out=S.out) (e7:S'.wait=S.wait) (e8:S'.most=S.most)
  (ht:S'.c.mode=4→∃f1 f2,F'.sg=some f1∧F'.ds=some f2∧TabR w' base f1 S'.c.sg∧TabR w' base f2 S'.c.ds) (h5:S'.c.mode≤5) (hl:S'.c.left≤65535) (hs:S'.skip≤8) (htt:S'.took≤1000000000000∧S'.given≤1000000000000∧S'.told≤S'.c.hist.length):DecM w' base F' S':=by
 have hc:=Chg.gg hg
 have ap:∀{s:Slc} {xs:List UInt8},Own E_uint8 w base s xs→∀k,s.blk=some k→k≠F.d:=fun ho k hk=>by
  obtain ⟨cs,hcs⟩:=ho.blk_t hk
  exact hcs.ne_t h.blk (by decide)
 refine ⟨by rw [e1];exact hb,by rw [e1];exact h.hd,by rw [e2,e5];exact h.ring.chg hc (ap h.ring),by rw [e3,e6];exact h.out.chg hc (ap h.out),by rw [e4,e7];exact h.wait.chg hc fun a ha=>(h.wn _ (slk.2 ⟨a,ha,rfl⟩)).2.2,ht,by rw [e2,e3];exact h.ne,by rw [e4,e2,e3,e1];exact h.wn,h5,by rw [e8];exact h.mo,by rw [e6,e5];exact h.ho,by rw [e5,e8];exact h.hm,hl,by rw [e7];exact h.hw,hs,htt⟩
theorem DecM.tabs' (h:DecM w base F S) (hg:w.grownBy w' (some F.d)):S.c.mode=4→∃f1 f2,F.sg=some f1∧F.ds=some f2∧TabR w' base f1 S.c.sg∧TabR w' base f2 S.c.ds:=fun hm=>by
 obtain ⟨f1,f2,e1,e2,t1,t2⟩:=h.tabs hm
 have hN:∀k,k=F.d→k<w.heap.size→NoTab w k:=fun k e _=>by subst e;exact h.noTab _ (.inl rfl)
 exact ⟨f1,f2,e1,e2,t1.chg (Chg.gg hg) hN,t2.chg (Chg.gg hg) hN⟩
theorem next_spec {K:World→Prop} (h:DecM w base F S) (hK:∀w',DecM w' base F { S with c:=S.c.behind }→Chg (fun k=>k=F.d) w w'→K w'):c_inflate_Decoder_next (some ⟨F.d,0,none⟩) w K:=by
 refine call_inflate_Decoder_next _ ?_
 unfold sh_inflate_Decoder_next
 simp only [onPtr_some]
 rw [add_mk]
 refine stK_blk h.blk (by simp [decCells]) fun w1 hb1 hg1 hs1=>?_
 have h1:DecM w1 base F { S with c:={ S.c with mode:=0 } }:=h.put hb1 hg1 rfl rfl rfl rfl rfl rfl rfl rfl (fun e=>by cases e) (Nat.zero_le _) h.hl h.hs h.ht
 refine ldB_of (x:=S.c.last) (h1.blk.cells 2 _ rfl) ?_
 cases hl:S.c.last with
 | true =>
  refine cT rfl ?_
  refine stK_blk h1.blk (by simp [decCells]) fun w2 hb2 hg2 hs2=>?_
  refine hK w2 ?_ ((Chg.gg hg1).trans (Chg.gg hg2) fun i _ hi=>hi)
  have e:S.c.behind={ S.c with mode:=5 }:=by unfold Cfg.behind;rw [if_pos hl]
  rw [e]
  exact h1.put hb2 hg2 rfl rfl rfl rfl rfl rfl rfl rfl (fun e=>by cases e) (Nat.le_refl _) h.hl h.hs h.ht
 | false =>
  refine cF rfl ?_
  refine hK w1 ?_ (Chg.gg hg1)
  have e:S.c.behind={ S.c with mode:=0 }:=by unfold Cfg.behind;rw [if_neg (by rw [hl];decide)]
  rw [e]
  exact h1
structure DF.to (F F':DF) (n:Nat):Prop where
 d:F'.d=F.d
 wait:F'.wait=F.wait
 ring:F'.ring.blk=F.ring.blk∨∃k,F'.ring.blk=some k∧n≤k
 out:F'.out.blk=F.out.blk∨∃k,F'.out.blk=some k∧n≤k
theorem DF.to.refl (F:DF) (n:Nat):F.to F n:=⟨rfl,rfl,.inl rfl,.inl rfl⟩
theorem DF.to.old {F F':DF} {n:Nat} (h:F.to F' n):∀k,dS F' k→dS F k∨n≤k:=by
 rintro k (e | hk | hk)
 ·exact .inl (.inl (e.trans h.d))
 ·rcases h.ring with e | ⟨j,e,hj⟩
  ·exact .inl (.inr (.inl (by rw [←e];exact hk)))
  ·rw [e] at hk;cases hk;exact .inr hj
 ·rcases h.out with e | ⟨j,e,hj⟩
  ·exact .inl (.inr (.inr (by rw [←e];exact hk)))
  ·rw [e] at hk;cases hk;exact .inr hj
theorem DF.to.trans {F F' F'':DF} {n n':Nat} (h:F.to F' n) (h':F'.to F'' n') (hn:n≤n'):F.to F'' n:=by
 refine ⟨h'.d.trans h.d,h'.wait.trans h.wait,?_,?_⟩
 ·rcases h'.ring with e | ⟨k,e,hk⟩
  ·rcases h.ring with e' | ⟨j,e',hj⟩
   ·exact .inl (e.trans e')
   ·exact .inr ⟨j,e.trans e',hj⟩
  ·exact .inr ⟨k,e,by omega⟩
 ·rcases h'.out with e | ⟨k,e,hk⟩
  ·rcases h.out with e' | ⟨j,e',hj⟩
   ·exact .inl (e.trans e')
   ·exact .inr ⟨j,e.trans e',hj⟩
  ·exact .inr ⟨k,e,by omega⟩
theorem put_spec {c:UInt8} {v:Int} {K:Int→World→Prop} (hv:v=(c.toNat:Int)) (h:DecM w base F S) (hbase:base≤w.heap.size) (hwb:∀k,F.wait.blk=some k→k<w.heap.size)
  (hK1:S.most≤S.c.hist.length→K 5 w.drew)
  (hK2:∀F' w',S.c.hist.length<S.most→DecM w' base F' { S with c:={ S.c with hist:=S.c.hist++[c] },out:=S.out++[c] }→F.to F' w.heap.size→Chg (dS F) w w'→K 0 w'):c_inflate_Decoder_put (some ⟨F.d,0,none⟩) v w K:=by
 subst hv
 refine call_inflate_Decoder_put _ _ ?_
 unfold sh_inflate_Decoder_put
 simp only [onPtr_some]
 have hd:=h.drew
 have hmo:=h.mo
 refine lI (x:=((S.c.hist.length:Nat):Int)) (hd.blk.cells 9 _ rfl) ?_
 refine lI (x:=((S.most:Nat):Int)) (hd.blk.cells 0 _ rfl) ?_
 refine cO (fun hfull=>hK1 (by have:=of_decide_eq_true hfull;omega)) (fun hroom=>?_)
 have hroom:S.c.hist.length<S.most:=by have:=of_decide_eq_false hroom;omega
 clear hK1
 have hrn:F.ring.n=(ringOf S.c.hist).length:=h.ring.rd.n
 have hrl:=ringOf_length S.c.hist
 have dne:∀{w':World} {s:Slc} {xs:List UInt8} {b:Nat} {cs:List Value},Own E_uint8 w' b s xs→Blk w' F.d ty_inflate_Decoder cs→∀k,s.blk=some k→k≠F.d:=fun ho hb k hk=>by
  obtain ⟨cs',hcs'⟩:=ho.blk_t hk
  exact hcs'.ne_t hb (by decide)
 refine jpO fun J hJ=>?_
 have mid:∀(rg:Slc) w1,Blk w1 F.d ty_inflate_Decoder (decCells { F with ring:=rg } S 0)→Own E_uint8 w1 base rg (ringOf (S.c.hist++[c]))→(rg.blk=F.ring.blk∨∃k,rg.blk=some k∧w.heap.size≤k)→Chg (fun k=>k=F.d∨F.ring.blk=some k) w w1→J () w1:=fun rg w1 hb1 hr1 hrb hc1=>hJ _ _ (by
  clear hJ
  have hs1:=hc1.size
  have ho1:Own E_uint8 w1 base F.out S.out:=h.out.chg hc1 fun k hk hs=>by
   rcases hs with e | e
   ·exact dne h.out h.blk k hk e
   ·exact h.ne k e hk
  have hw1:Rd E_uint8 w1 F.wait S.wait:=h.wait.chg hc1 fun a ha hs=>by
   have:=h.wn _ (slk.2 ⟨a,ha,rfl⟩)
   rcases hs with e | e
   ·exact this.2.2 e
   ·exact this.1 e
  refine lI (x:=((S.c.hist.length:Nat):Int)) (hb1.cells 9 _ rfl) ?_
  rw [add_mk,w64i (by omega)]
  refine stK_blk hb1 (by simp [decCells]) fun w2 hb2 hg2 hs2=>?_
  have ho2:=ho1.chg (Chg.gg hg2) (dne ho1 hb1)
  have hr2:=hr1.chg (Chg.gg hg2) (dne hr1 hb1)
  have hw2:=hw1.chg (Chg.gg hg2) fun a ha=>(h.wn _ (slk.2 ⟨a,ha,rfl⟩)).2.2
  refine lSl (x:=F.out) (hb2.cells 14 _ rfl) ?_
  have hol:=h.ho
  refine apB1 (c:=c) rfl ho2 (by omega) (by omega) fun q w3 ho3 hc3 hq3=>?_
  have hb3:=hb2.chg hc3 fun e=>dne ho2 hb2 _ e rfl
  have outne:∀k,F.out.blk=some k→rg.blk≠some k:=fun k hk e=>by
   rcases hrb with e' | ⟨j,e',hj⟩
   ·exact h.ne k (by rw [←e'];exact e) hk
   ·rw [e'] at e;cases e
    have:=(h.out.lt _ hk).2
    omega
  have hr3:=hr2.chg hc3 fun k hk hs=>outne k hs hk
  have hw3:=hw2.chg hc3 fun a ha hs=>(h.wn _ (slk.2 ⟨a,ha,rfl⟩)).2.1 hs
  rw [show (⟨F.d,0,none⟩:Addr).add 14=⟨F.d,0+14,none⟩ from add_mk _ _ _]
  refine stK_blk hb3 (by simp [decCells,putL_length]) fun w4 hb4 hg4 hs4=>?_
  have hr4:=hr3.chg (Chg.gg hg4) (dne hr3 hb3)
  have ho4:=ho3.chg (Chg.gg hg4) (dne ho3 hb3)
  have hw4:=hw3.chg (Chg.gg hg4) fun a ha=>(h.wn _ (slk.2 ⟨a,ha,rfl⟩)).2.2
  have hc4:Chg (dS F) w w4:=((((hc1.mono fun i _ hi=>by rcases hi with e | e;exact .inl e;exact .inr (.inl e)).trans (Chg.gg hg2) fun i _ hi=>.inl hi).trans hc3 fun i _ hi=>.inr (.inr hi)).trans (Chg.gg hg4) fun i _ hi=>.inl hi)
  have hs2':=hs2
  have hqb:q.blk=F.out.blk∨∃k,q.blk=some k∧w.heap.size≤k:=by
   rcases hq3 with e | ⟨k,e,hk⟩
   ·exact .inl e
   ·exact .inr ⟨k,e,by omega⟩
  refine hK2 { F with ring:=rg,out:=q } w4 hroom ⟨?_,h.hd,hr4,ho4,hw4,fun hm=>?_,fun k hk e=>?_,fun k hk=>⟨fun e=>?_,fun e=>?_,(h.wn k hk).2.2⟩,h.m5,h.mo,?_,?_,h.hl,h.hw,h.hs,?_⟩ ⟨rfl,rfl,hrb,hqb⟩ hc4
  ·have e:((S.c.hist.length:Nat):Int)+1=(((S.c.hist++[c]).length:Nat):Int):=by simp
   rw [e] at hb4
   exact hb4
  ·obtain ⟨f1,f2,e1,e2,t1,t2⟩:=h.tabs hm
   exact ⟨f1,f2,e1,e2,t1.chg hc4 fun k hk _=>h.noTab k hk,t2.chg hc4 fun k hk _=>h.noTab k hk⟩
  ·rcases hqb with e' | ⟨j,e',hj⟩
   ·exact outne k (by rw [←e'];exact e) hk
   ·rcases hq3 with e2 | ⟨j2,e2,hj2⟩
    ·exact outne k (by rw [←e2];exact e) hk
    ·rw [e2] at e;cases e
     have:=(hr2.lt _ hk).2
     omega
  ·rcases hrb with e' | ⟨j,e',hj⟩
   ·exact (h.wn k hk).1 (by rw [←e'];exact e)
   ·have e:rg.blk=some k:=e
    rw [e'] at e;cases e;have:=hwb _ hk;omega
  ·rcases hqb with e' | ⟨j,e',hj⟩
   ·exact (h.wn k hk).2.1 (by rw [←e'];exact e)
   ·have e:q.blk=some k:=e
    rw [e'] at e;cases e;have:=hwb _ hk;omega
  ·show (S.out++[c]).length≤(S.c.hist++[c]).length
   simp;omega
  ·show (S.c.hist++[c]).length≤S.most
   simp;omega
  ·refine ⟨h.ht.1,h.ht.2.1,?_⟩
   show S.told≤(S.c.hist++[c]).length
   have:=h.ht.2.2
   simp;omega)
 refine lSl (x:=F.ring) (hd.blk.cells 8 _ rfl) ?_
 by_cases hlt:((F.ring.n:Nat):Int)<32768
 ·rw [decide_eq_true hlt,cond_true]
  refine lSl (x:=F.ring) (hd.blk.cells 8 _ rfl) ?_
  refine apB1 (c:=c) rfl hd.ring hbase (by omega) fun q w1 ho1 hc1 hq1=>?_
  have hb1:=hd.blk.chg hc1 fun e=>dne hd.ring hd.blk _ e rfl
  rw [add_mk]
  refine stK_blk hb1 (by simp [decCells]) fun w2 hb2 hg2 hs2=>?_
  refine mid q w2 hb2 ?_ hq1 ?_
  ·rw [ringOf_snoc,if_pos (by omega)]
   exact ho1.chg (Chg.gg hg2) (dne ho1 hb1)
  ·have hc0:Chg (fun k=>k=F.d∨F.ring.blk=some k) w w.drew:=Chg.of_ext ((Below.refl _ w).drew)
   exact (hc0.trans hc1 fun i _ hi=>.inr hi).trans (Chg.gg hg2) fun i _ hi=>.inl hi
 ·rw [decide_eq_false hlt,cond_false]
  have hdd:=hd.drew
  refine lSl (x:=F.ring) (hdd.blk.cells 8 _ rfl) ?_
  refine lI (x:=((S.c.hist.length:Nat):Int)) (hdd.blk.cells 9 _ rfl) ⟨by decide,?_⟩
  have e:((S.c.hist.length:Nat):Int).tmod 32768=((S.c.hist.length%32768:Nat):Int):=IntWalk.up_tmod rfl rfl
  rw [e]
  refine hdd.ring.rd.ix rfl (by omega) (by omega) fun _=>?_
  refine hdd.ring.st0 (x:=(ringOf S.c.hist)[S.c.hist.length%32768]'(by omega)) (y:=c) (List.getElem?_eq_getElem _) rfl fun w1 ho1 hg1 hs1=>?_
  have hc1:Chg (fun k=>F.ring.blk=some k) w.drew.drew w1:=Chg.of_grown hg1 fun k hk=>hk
  refine mid F.ring w1 (hdd.blk.chg hc1 fun e=>dne hdd.ring hdd.blk _ e rfl) ?_ (.inl rfl) ?_
  ·rw [ringOf_snoc,if_neg (by omega)]
   exact ho1
  ·have hc0:Chg (fun k=>k=F.d∨F.ring.blk=some k) w w.drew.drew:=Chg.of_ext ((Below.refl _ w).drew.drew)
   exact hc0.trans hc1 fun i _ hi=>.inr hi
end
end Go.Proofs.YtmagnpcgpinmcaaGreat
namespace Go.Proofs.YtmagnpcgpinmcaaGreat
open Go.Vc Go.RowKit
set_option maxRecDepth 400000
inductive Ch (most:Nat) (bs:List UInt8):Cfg→Nat→Cfg→Nat→Prop
 | refl (c:Cfg) (a:Nat):Ch most bs c a c a
 | step {c:Cfg} {a:Nat} {c1:Cfg} {a1:Nat} {c2:Cfg} {a2:Nat} (h:step1 most bs a c=.next c1 a1) (r:Ch most bs c1 a1 c2 a2):Ch most bs c a c2 a2
theorem Ch.one {most:Nat} {bs:List UInt8} {c c1:Cfg} {a a1:Nat} (h:step1 most bs a c=.next c1 a1):Ch most bs c a c1 a1:=.step h (.refl _ _)
theorem Ch.trans {most:Nat} {bs:List UInt8} {c c1 c2:Cfg} {a a1 a2:Nat} (h:Ch most bs c a c1 a1) (h':Ch most bs c1 a1 c2 a2):Ch most bs c a c2 a2:=by
 induction h with
 | refl=>exact h'
 | step h r ih=>exact .step h (ih h')
structure DR (w:World) (base:Nat) (F:DF) (S:DS) (r:Nat) (rs:Slc) (at_:Nat):Prop where
 d:DecM w base F S
 rdr:RdrM w r rs S.wait at_
 sep:∀k,rs.blk=some k→¬dS F k
 rb:base≤r
 wr:∀k,F.wait.blk=some k→k≠r
 wl:∀k,F.wait.blk=some k→k<w.heap.size
 sl:∀k,rs.blk=some k→k<w.heap.size
def drS (F:DF) (r:Nat) (k:Nat):Prop:=dS F k∨k=r
section
variable {w w':World} {base:Nat} {F:DF} {S:DS} {r:Nat} {rs:Slc} {at_:Nat}
theorem DR.r_d (h:DR w base F S r rs at_):¬dS F r:=fun hs=>by
 rcases hs with e | e | e
 ·exact h.rdr.blk.ne_t h.d.blk (by decide) e
 ·obtain ⟨cs,hcs⟩:=h.d.ring.blk_t e
  exact h.rdr.blk.ne_t hcs (by decide) rfl
 ·obtain ⟨cs,hcs⟩:=h.d.out.blk_t e
  exact h.rdr.blk.ne_t hcs (by decide) rfl
theorem DR.moved {b:Nat} (h:DR w base F S r rs at_) (hr:RdrM w' r rs S.wait b) (hc:Chg (fun k=>k=r) w w'):DR w' base F S r rs b:=by
 have hs:=hc.size
 refine ⟨h.d.chg hc (fun k hk e=>?_) fun k e _=>?_,hr,h.sep,h.rb,h.wr,fun k hk=>by have:=h.wl k hk;omega,fun k hk=>by have:=h.sl k hk;omega⟩
 ·subst e
  rcases hk with hk | hk
  ·exact h.r_d hk
  ·exact h.wr _ hk rfl
 ·subst e
  exact ⟨_,_,h.rdr.blk,by decide,by decide⟩
theorem DR.ext (h:DR w base F S r rs at_) (hb:Below w.heap.size w w'):DR w' base F S r rs at_ :=
 ⟨h.d.ext hb,h.rdr.ext hb,h.sep,h.rb,h.wr,fun k hk=>by have:=h.wl k hk;have:=hb.size;omega,fun k hk=>by have:=h.sl k hk;have:=hb.size;omega⟩
theorem DR.drew (h:DR w base F S r rs at_):DR w.drew base F S r rs at_:=h.ext ((Below.refl _ w).drew)
theorem DR.decd {F':DF} {S':DS} (h:DR w base F S r rs at_) (hd:DecM w' base F' S') (hto:F.to F' w.heap.size) (hw:S'.wait=S.wait) (hc:Chg (dS F) w w'):DR w' base F' S' r rs at_:=by
 have hs:=hc.size
 refine ⟨hd,?_,fun k hk hs'=>?_,h.rb,by rw [hto.wait];exact h.wr,fun k hk=>?_,fun k hk=>by have:=h.sl k hk;omega⟩
 ·rw [hw]
  exact h.rdr.chg hc h.r_d h.sep
 ·rcases hto.old k hs' with e | e
  ·exact h.sep k hk e
  ·have:=h.sl k hk;omega
 ·rw [hto.wait] at hk
  have:=h.wl k hk;omega
theorem DR.own {F':DF} {S':DS} (h:DR w base F S r rs at_) (hd:DecM w' base F' S') (e1:F'.d=F.d) (e2:F'.ring=F.ring) (e3:F'.out=F.out) (e4:F'.wait=F.wait) (hw:S'.wait=S.wait) (hg:w.grownBy w' (some F.d)):DR w' base F' S' r rs at_ :=
 h.decd hd ⟨e1,e4,.inl (by rw [e2]),.inl (by rw [e3])⟩ hw ((Chg.gg hg).mono fun i _ hi=>.inl hi)
theorem drS_d {F:DF} {r:Nat} {w w':World} (h:Chg (dS F) w w'):Chg (drS F r) w w':=h.mono fun _ _ hi=>.inl hi
theorem drS_r {F:DF} {r:Nat} {w w':World} (h:Chg (fun k=>k=r) w w'):Chg (drS F r) w w':=h.mono fun _ _ hi=>.inr hi
theorem drS_g {F:DF} {r:Nat} {w w':World} (h:w.grownBy w' (some F.d)):Chg (drS F r) w w':=(Chg.gg h).mono fun _ _ hi=>.inl (.inl hi)
theorem rBits {n:Int} {K:Int→Bool→World→Prop} (h:DR w base F S r rs at_)
  (hK1:∀(m:Nat) w',n=m→m≤32→at_+m≤8*S.wait.length→DR w' base F S r rs (at_+m)→Chg (drS F r) w w'→K ((peekN S.wait at_ m:Nat):Int) true w')
  (hK2:∀w',(n<0∨n>32∨(at_:Int)+n>8*S.wait.length)→DR w' base F S r rs at_→Chg (drS F r) w w'→K 0 false w'):c_bits_Reader_Bits (some ⟨r,0,none⟩) n w K :=
 Bits_spec h.rdr (fun m w' e hm hl hr hc=>hK1 m w' e hm hl (h.moved hr hc) (drS_r hc)) (fun w' hn hB=>hK2 w' hn (h.ext hB) (Chg.of_ext hB))
def StepRes (S:DS) (at_:Nat) (e:Int) (S':DS) (at':Nat):Prop :=
 S'.most=S.most∧S'.given=S.given∧S'.told=S.told ∧
 (
  (e=0∧(∃c1 a1,step1 S.most S.wait at_ S.c=.next c1 a1∧Ch S.most S.wait c1 a1 S'.c at')∧(∃x,S'.c.hist=S.c.hist++x∧S'.out=S.out++x)∧S'.wait=S.wait∧S'.took=S.took∧S'.skip=S.skip) ∨
  (e=2∧∃k a,Ch S.most S.wait S.c at_ S'.c a∧step1 S.most S.wait a S'.c=.short∧(∃x,S'.c.hist=S.c.hist++x∧S'.out=S.out++x)∧S'.wait=S.wait.drop k∧k≤S.wait.length∧S'.took=S.took+k∧a=8*k+min at_ at'∧S'.c.mode≤4) ∨
  (∃n:Nat,e=(n:Int)∧(n=3∨n=5)∧(∃c a,Ch S.most S.wait S.c at_ c a∧step1 S.most S.wait a c=.err n)∧S'.took=S.took∧S'.wait=S.wait))
theorem and_one (a:Nat) (h:a<2^32):bitsR .and .u32 ((a:Nat):Int) 1=((a%2:Nat):Int):=by
 rw [show (1:Int)=((1:Nat):Int) from rfl,bits_and .u32 h (by decide),one_and]
theorem fixed_ok:¬badLens fixedL∧¬badRoom fixedL∧¬badLens fiveL∧¬badRoom fiveL:=by
 have h1:∀x∈fixedL,x.toNat≤15:=by decide +kernel
 have h2:∀x∈fiveL,x.toNat≤15:=by decide +kernel
 have h3:roomN fixedL=32768:=by decide +kernel
 have h4:roomN fiveL=32768:=by decide +kernel
 refine ⟨?_,?_,?_,?_⟩
 ·rintro (h | ⟨x,hx,h⟩)
  ·rw [fixedL_length] at h;omega
  ·have:=h1 x hx;omega
 ·unfold badRoom;omega
 ·rintro (h | ⟨x,hx,h⟩)
  ·have:fiveL.length=32:=by unfold fiveL;rw [List.length_replicate]
   omega
  ·have:=h2 x hx;omega
 ·unfold badRoom;omega
theorem head_spec {K:Int→World→Prop} (h:DR w base F S r rs at_) (hm:S.c.mode=0) (hbase:base≤w.heap.size)
  (hK:∀e F' S' at' w',StepRes S at_ e S' at'→DR w' base F' S' r rs at'→F.to F' w.heap.size→Chg (drS F r) w w'→K e w'):c_inflate_Decoder_head (some ⟨F.d,0,none⟩) (some ⟨r,0,none⟩) w K:=by
 refine call_inflate_Decoder_head _ _ ?_
 unfold sh_inflate_Decoder_head
 have hst:step1 S.most S.wait at_ S.c=stepHead S.wait at_ S.c:=by rw [step1,if_neg (by omega),stepN,if_pos hm]
 refine rBits h (fun m w1 e _ hl h1 hc1=>?_) (fun w1 hn h1 hc1=>?_)
 ·have:m=3:=by omega
  subst this
  refine cF rfl ?_
  have hv:=peekN_lt S.wait at_ 3
  unfold stepHead at hst
  rw [if_neg (by omega)] at hst
  obtain ⟨v,hv'⟩:∃v,peekN S.wait at_ 3=v:=⟨_,rfl⟩
  rw [hv'] at hst hv ⊢
  dsimp only at hst
  simp only [onPtr_some]
  rw [and_one v (by omega),add_mk]
  have hvb:(((v%2:Nat):Int)==1)=(v%2==1):=by
   rcases Nat.mod_two_eq_zero_or_one v with e | e<;>rw [e]<;>rfl
  rw [hvb]
  refine stK_blk h1.d.blk (by simp [decCells]) fun w2 hb2 hg2 hs2=>?_
  have hd2:DecM w2 base F { S with c:={ S.c with last:=v%2==1 } }:=h1.d.put hb2 hg2 rfl rfl rfl rfl rfl rfl rfl rfl (fun e=>by have e:S.c.mode=4:=e;omega) h1.d.m5 h1.d.hl h1.d.hs h1.d.ht
  have h2:=h1.own hd2 rfl rfl rfl rfl rfl hg2
  have hc2:Chg (drS F r) w w2:=hc1.trans (drS_g hg2) fun i _ hi=>hi
  rw [show min ((1:Int)).toNat IntKind.u32.bits=1 by decide,fdiv_nat,Nat.pow_one]
  have hs2':=hc2.size
  refine ⟨by decide,?_⟩
  have fin:∀(c:Cfg) F' w3,step1 S.most S.wait at_ S.c=.next c (at_+3)→c.hist=S.c.hist→DR w3 base F' { S with c:=c } r rs (at_+3)→F.to F' w.heap.size→Chg (drS F r) w w3→K 0 w3:=fun c F' w3 hs hh h3 hto hc3 =>
   hK 0 F' { S with c:=c } (at_+3) w3 ⟨rfl,rfl,rfl,.inl ⟨rfl,⟨_,_,hs,.refl _ _⟩,⟨[],by simp [hh],by simp⟩,rfl,rfl,rfl⟩⟩ h3 hto hc3
  refine cO (fun e0=>?_) (fun e0=>cO (fun e1=>?_) (fun e1=>cO (fun e2=>?_) (fun e2=>?_)))
  ·have e0:v/2=0:=by have:=eq_of_beq e0;omega
   rw [if_pos e0] at hst
   rw [add_mk]
   refine stK_blk h2.d.blk (by simp [decCells]) fun w3 hb3 hg3 hs3=>?_
   have hd3:DecM w3 base F { S with c:={ S.c with last:=v%2==1,mode:=1 } }:=h2.d.put hb3 hg3 rfl rfl rfl rfl rfl rfl rfl rfl (fun e=>by cases e) (by show 1≤5;decide) h2.d.hl h2.d.hs h2.d.ht
   exact fin _ F w3 hst rfl (h2.own hd3 rfl rfl rfl rfl rfl hg3) (DF.to.refl _ _) (hc2.trans (drS_g hg3) fun i _ hi=>hi)
  ·have e0:v/2≠0:=by have:=beq_eq_false_iff_ne.1 e0;omega
   have e1:v/2=1:=by have:=eq_of_beq e1;omega
   rw [if_neg e0,if_pos e1] at hst
   obtain ⟨k1,k2,k3,k4⟩:=fixed_ok
   refine HFixed_spec fun t6 t7 w4 ho4 hB4=>?_
   have h4:=h2.ext hB4
   refine mkSl_of sT_sl_uint8 (x0:=(0:UInt8)) rfl (n:=32) rfl rfl (by rw [by_sl_uint8];omega) (by simp only [maxLen];omega) fun w5 ho5 hB5=>?_
   have h5:=h4.ext hB5
   have ho45:=ho4.ext hB5
   refine fill5 (n:=32) (by decide) ho5 fun w6 ho6 hc6=>?_
   have hfr:∀k,(⟨some ⟨w4.heap.size,0,none⟩,32,32⟩:Slc).blk=some k→k=w4.heap.size:=fun k hk=>by cases hk;rfl
   have hB46:Below w4.heap.size w4 w6:=hB5.trans (hc6.below hB5.size fun i hi hs=>by have:=hfr i hs;omega)
   have h6:=h4.ext hB46
   have ho46:=ho4.ext hB46
   refine New_spec ho46.rd (fun hb=>absurd hb k1) (fun _ hb=>absurd hb k2) (fun _ _ f1 w8 ht8 hB8=>?_)
   have h8:=h6.ext hB8
   rw [add_mk]
   refine stK_blk h8.d.blk (by simp [decCells]) fun w9 hb9 hg9 hs9=>?_
   have hd9:DecM w9 base { F with sg:=some f1 } { S with c:={ S.c with last:=v%2==1 } }:=h8.d.put hb9 hg9 rfl rfl rfl rfl rfl rfl rfl rfl (fun e=>by have e:S.c.mode=4:=e;omega) h8.d.m5 h8.d.hl h8.d.hs h8.d.ht
   have h9:=h8.own hd9 rfl rfl rfl rfl rfl hg9
   have hN:∀(k:Nat) (w':World) (cs:List Value),Blk w' F.d ty_inflate_Decoder cs→k=F.d→k<w'.heap.size→NoTab w' k:=fun k w' cs hb e _=>by subst e;exact ⟨_,_,hb,by decide,by decide⟩
   have t1:=ht8.r.chg (Chg.gg hg9) fun k e hk=>hN k w8 _ h8.d.blk e hk
   have ho69:Own E_uint8 w9 w4.heap.size ⟨some ⟨w4.heap.size,0,none⟩,32,32⟩ (List.replicate 32 5):=(ho6.ext hB8).chg (Chg.gg hg9) fun k hk e=>by
    obtain ⟨cs,hcs⟩:=(ho6.ext hB8).blk_t hk
    exact hcs.ne_t h8.d.blk (by decide) e
   refine New_spec (ls:=fiveL) ho69.rd (fun hb=>absurd hb k3) (fun _ hb=>absurd hb k4) (fun _ _ f2 w10 ht10 hB10=>?_)
   have h10:=h9.ext hB10
   have t1':=t1.ext hB10
   rw [add_mk]
   refine stK_blk h10.d.blk (by simp [decCells]) fun w11 hb11 hg11 hs11=>?_
   have hd11:DecM w11 base { F with sg:=some f1,ds:=some f2 } { S with c:={ S.c with last:=v%2==1 } }:=h10.d.put hb11 hg11 rfl rfl rfl rfl rfl rfl rfl rfl (fun e=>by have e:S.c.mode=4:=e;omega) h10.d.m5 h10.d.hl h10.d.hs h10.d.ht
   have h11:=h10.own hd11 rfl rfl rfl rfl rfl hg11
   have t1'':=t1'.chg (Chg.gg hg11) fun k e hk=>hN k w10 _ h10.d.blk e hk
   have t2:=ht10.r.chg (Chg.gg hg11) fun k e hk=>hN k w10 _ h10.d.blk e hk
   rw [add_mk]
   refine stK_blk h11.d.blk (by simp [decCells]) fun w12 hb12 hg12 hs12=>?_
   have s2:=hB4.size
   have s4:=hB46.size
   have s8:=hB8.size
   have s9:=hg9.size
   have hd12:DecM w12 base { F with sg:=some f1,ds:=some f2 } { S with c:={ S.c with last:=v%2==1,mode:=4,sg:=fixedL,ds:=fiveL } }:=h11.d.put hb12 hg12 rfl rfl rfl rfl rfl rfl rfl rfl (fun _=>⟨f1,f2,rfl,rfl,(t1''.chg (Chg.gg hg12) fun k e hk=>hN k w11 _ h11.d.blk e hk).base_le (by omega),(t2.chg (Chg.gg hg12) fun k e hk=>hN k w11 _ h11.d.blk e hk).base_le (by omega)⟩) (by show 4≤5;decide) h11.d.hl h11.d.hs h11.d.ht
   refine fin _ _ w12 hst rfl (h11.own hd12 rfl rfl rfl rfl rfl hg12) ⟨rfl,rfl,.inl rfl,.inl rfl⟩ ?_
   have c4:Chg (drS F r) w w8:=((hc2.trans (Chg.of_ext (S:=drS F r) hB4) fun i _ hi=>hi).trans (Chg.of_ext (S:=drS F r) hB46) fun i _ hi=>hi).trans (Chg.of_ext (S:=drS F r) hB8) fun i _ hi=>hi
   have c10:Chg (drS F r) w w10:=(c4.trans (drS_g (r:=r) hg9) fun i _ hi=>hi).trans (Chg.of_ext (S:=drS F r) hB10) fun i _ hi=>hi
   exact (c10.trans (drS_g (r:=r) (F:=F) hg11) fun i _ hi=>hi).trans (drS_g (r:=r) (F:=F) hg12) fun i _ hi=>hi
  ·have e0:v/2≠0:=by have:=beq_eq_false_iff_ne.1 e0;omega
   have e1:v/2≠1:=by have:=beq_eq_false_iff_ne.1 e1;omega
   have e2:v/2=2:=by have:=eq_of_beq e2;omega
   rw [if_neg e0,if_neg e1,if_pos e2] at hst
   rw [add_mk]
   refine stK_blk h2.d.blk (by simp [decCells]) fun w3 hb3 hg3 hs3=>?_
   have hd3:DecM w3 base F { S with c:={ S.c with last:=v%2==1,mode:=3 } }:=h2.d.put hb3 hg3 rfl rfl rfl rfl rfl rfl rfl rfl (fun e=>by cases e) (by show 3≤5;decide) h2.d.hl h2.d.hs h2.d.ht
   exact fin _ F w3 hst rfl (h2.own hd3 rfl rfl rfl rfl rfl hg3) (DF.to.refl _ _) (hc2.trans (drS_g hg3) fun i _ hi=>hi)
  ·have e0:v/2≠0:=by have:=beq_eq_false_iff_ne.1 e0;omega
   have e1:v/2≠1:=by have:=beq_eq_false_iff_ne.1 e1;omega
   have e2:v/2≠2:=by have:=beq_eq_false_iff_ne.1 e2;omega
   rw [if_neg e0,if_neg e1,if_neg e2] at hst
   have key:K 3 w2:=hK 3 F { S with c:={ S.c with last:=v%2==1 } } (at_+3) w2 ⟨rfl,rfl,rfl,.inr (.inr ⟨3,rfl,.inl rfl,⟨S.c,at_,.refl _ _,hst⟩,rfl,rfl⟩)⟩ h2 (DF.to.refl _ _) hc2
   exact cO (fun _=>key) (fun _=>key)
 ·refine cT rfl (hK 2 F S at_ w1 ⟨rfl,rfl,rfl,.inr (.inl ⟨rfl,0,at_,.refl _ _,?_,⟨[],by simp,by simp⟩,by simp,by omega,by simp,by omega,by omega⟩)⟩ h1 (DF.to.refl _ _) hc1)
  rw [hst]
  unfold stepHead
  rw [if_pos (by omega)]
theorem stored_spec {K:Int→World→Prop} (h:DR w base F S r rs at_) (hm:S.c.mode=1)
  (hK:∀e F' S' at' w',StepRes S at_ e S' at'→DR w' base F' S' r rs at'→F.to F' w.heap.size→Chg (drS F r) w w'→K e w'):c_inflate_Decoder_stored (some ⟨F.d,0,none⟩) (some ⟨r,0,none⟩) w K:=by
 refine call_inflate_Decoder_stored _ _ ?_
 unfold sh_inflate_Decoder_stored
 have hst:step1 S.most S.wait at_ S.c=stepStored S.wait at_ S.c:=by rw [step1,if_neg (by omega),stepN,if_neg (by omega),if_pos hm]
 have hup:at_≤up8 at_:=by unfold up8;omega
 have short:∀at' w',8*S.wait.length<up8 at_+32→at_≤at'→DR w' base F S r rs at'→Chg (drS F r) w w'→K 2 w':=fun at' w' hs ha h' hc'=>by
  refine hK 2 F S at' w' ⟨rfl,rfl,rfl,.inr (.inl ⟨rfl,0,at_,.refl _ _,?_,⟨[],by simp,by simp⟩,by simp,by omega,by simp,by omega,by omega⟩)⟩ h' (DF.to.refl _ _) hc'
  rw [hst]
  unfold stepStored
  rw [if_pos hs]
 refine Align_spec h.rdr fun v w1 hr1 hc1=>?_
 have h1:=h.moved hr1 hc1
 refine rBits h1 (fun m w2 e _ hl2 h2 hc2=>?_) (fun w2 hn h2 hc2=>?_)
 ·have:m=16:=by omega
  subst this
  refine cF rfl ?_
  have hc02:Chg (drS F r) w w2:=(drS_r hc1).trans hc2 fun i _ hi=>hi
  refine rBits h2 (fun m w3 e _ hl3 h3 hc3=>?_) (fun w3 hn h3 hc3=>?_)
  ·have:m=16:=by omega
   subst this
   refine cF rfl ?_
   have hc03:Chg (drS F r) w w3:=hc02.trans hc3 fun i _ hi=>hi
   unfold stepStored at hst
   rw [if_neg (by omega)] at hst
   have hp1:=peekN_lt S.wait (up8 at_) 16
   have hp2:=peekN_lt S.wait (up8 at_+16) 16
   rw [bits_xor .u32 (by show _<2^32;omega) (by show _<2^32;omega)]
   refine cO (fun hx=>?_) (fun hx=>?_)
   ·have hx:peekN S.wait (up8 at_) 16 ^^^ peekN S.wait (up8 at_+16) 16≠65535:=by have:=bne_iff_ne.1 hx;omega
    rw [if_pos hx] at hst
    exact hK 3 F S _ w3 ⟨rfl,rfl,rfl,.inr (.inr ⟨3,rfl,.inl rfl,⟨S.c,at_,.refl _ _,hst⟩,rfl,rfl⟩)⟩ h3 (DF.to.refl _ _) hc03
   ·have hx:¬peekN S.wait (up8 at_) 16 ^^^ peekN S.wait (up8 at_+16) 16≠65535:=by have:=bne_eq_false_iff_eq.1 hx;omega
    rw [if_neg hx] at hst
    simp only [onPtr_some]
    rw [add_mk,wrap_nat .i64 (by show _<2^63;omega)]
    refine stK_blk h3.d.blk (by simp [decCells]) fun w4 hb4 hg4 hs4=>?_
    have hd4:DecM w4 base F { S with c:={ S.c with left:=peekN S.wait (up8 at_) 16 } }:=h3.d.put hb4 hg4 rfl rfl rfl rfl rfl rfl rfl rfl (fun e=>by have e:S.c.mode=4:=e;omega) h3.d.m5 (by show peekN S.wait (up8 at_) 16≤65535;omega) h3.d.hs h3.d.ht
    have h4:=h3.own hd4 rfl rfl rfl rfl rfl hg4
    rw [add_mk]
    refine stK_blk h4.d.blk (by simp [decCells]) fun w5 hb5 hg5 hs5=>?_
    have hd5:DecM w5 base F { S with c:={ S.c with mode:=2,left:=peekN S.wait (up8 at_) 16 } }:=h4.d.put hb5 hg5 rfl rfl rfl rfl rfl rfl rfl rfl (fun e=>by cases e) (by show 2≤5;decide) h4.d.hl h4.d.hs h4.d.ht
    have h5:=h4.own hd5 rfl rfl rfl rfl rfl hg5
    rw [show up8 at_+16+16=up8 at_+32 by omega] at h5
    refine hK 0 F { S with c:={ S.c with mode:=2,left:=peekN S.wait (up8 at_) 16 } } (up8 at_+32) w5 ⟨rfl,rfl,rfl,.inl ⟨rfl,⟨_,_,hst,.refl _ _⟩,⟨[],by simp,by simp⟩,rfl,rfl,rfl⟩⟩ h5 (DF.to.refl _ _) ((hc03.trans (drS_g hg4) fun i _ hi=>hi).trans (drS_g hg5) fun i _ hi=>hi)
  ·refine cT rfl (short _ w3 (by omega) (by omega) h3 (hc02.trans hc3 fun i _ hi=>hi))
 ·refine cT rfl (short _ w2 (by omega) hup h2 ((drS_r hc1).trans hc2 fun i _ hi=>hi))
end
end Go.Proofs.YtmagnpcgpinmcaaGreat
namespace Go.Proofs.YtmagnpcgpinmcaaGreat
open Go.Vc Go.RowKit
set_option maxRecDepth 400000
structure DF.tw (F F':DF) (n:Nat):Prop where
 d:F'.d=F.d
 ring:F'.ring.blk=F.ring.blk∨∃k,F'.ring.blk=some k∧n≤k
 out:F'.out.blk=F.out.blk∨∃k,F'.out.blk=some k∧n≤k
theorem DF.to.w {F F':DF} {n:Nat} (h:F.to F' n):F.tw F' n:=⟨h.d,h.ring,h.out⟩
theorem DF.tw.old {F F':DF} {n:Nat} (h:F.tw F' n):∀k,dS F' k→dS F k∨n≤k:=by
 rintro k (e | hk | hk)
 ·exact .inl (.inl (e.trans h.d))
 ·rcases h.ring with e | ⟨j,e,hj⟩
  ·exact .inl (.inr (.inl (by rw [←e];exact hk)))
  ·rw [e] at hk;cases hk;exact .inr hj
 ·rcases h.out with e | ⟨j,e,hj⟩
  ·exact .inl (.inr (.inr (by rw [←e];exact hk)))
  ·rw [e] at hk;cases hk;exact .inr hj
theorem DF.tw.trans {F F' F'':DF} {n n':Nat} (h:F.tw F' n) (h':F'.tw F'' n') (hn:n≤n'):F.tw F'' n:=by
 refine ⟨h'.d.trans h.d,?_,?_⟩
 ·rcases h'.ring with e | ⟨k,e,hk⟩
  ·rcases h.ring with e' | ⟨j,e',hj⟩
   ·exact .inl (e.trans e')
   ·exact .inr ⟨j,e.trans e',hj⟩
  ·exact .inr ⟨k,e,by omega⟩
 ·rcases h'.out with e | ⟨k,e,hk⟩
  ·rcases h.out with e' | ⟨j,e',hj⟩
   ·exact .inl (e.trans e')
   ·exact .inr ⟨j,e.trans e',hj⟩
  ·exact .inr ⟨k,e,by omega⟩
theorem Ch.split {most:Nat} {bs:List UInt8} {c c2:Cfg} {a a2:Nat} (h:Ch most bs c a c2 a2):(c=c2∧a=a2)∨∃c1 a1,step1 most bs a c=.next c1 a1∧Ch most bs c1 a1 c2 a2:=by
 cases h with
 | refl=>exact .inl ⟨rfl,rfl⟩
 | step h r=>exact .inr ⟨_,_,h,r⟩
section
variable {w w':World} {base:Nat} {F:DF} {S:DS} {r:Nat} {rs:Slc} {at_:Nat}
theorem DecM.putW {ws:Slc} {xs:List UInt8} {took skip:Nat} (h:DecM w base F S) (hb:Blk w' F.d ty_inflate_Decoder (decCells { F with wait:=ws } { S with wait:=xs,took:=took,skip:=skip } 0)) (hg:w.grownBy w' (some F.d)) (hr:Rd E_uint8 w ws xs)
  (hne:∀k,ws.blk=some k→F.ring.blk≠some k∧F.out.blk≠some k∧k≠F.d) (hl:xs.length≤100000000000) (hs:skip≤8) (ht:took≤1000000000000):DecM w' base { F with wait:=ws } { S with wait:=xs,took:=took,skip:=skip }:=by
 have hc:=Chg.gg hg
 have ap:∀{s:Slc} {xs:List UInt8},Own E_uint8 w base s xs→∀k,s.blk=some k→k≠F.d:=fun ho k hk=>by
  obtain ⟨cs,hcs⟩:=ho.blk_t hk
  exact hcs.ne_t h.blk (by decide)
 exact ⟨hb,h.hd,h.ring.chg hc (ap h.ring),h.out.chg hc (ap h.out),hr.chg hc fun a ha=>(hne _ (slk.2 ⟨a,ha,rfl⟩)).2.2,h.tabs' hg,h.ne,hne,h.m5,h.mo,h.ho,h.hm,h.hl,hl,hs,⟨ht,h.ht.2.1,h.ht.2.2⟩⟩
theorem cut_blk {s:Slc} {l c k n:Nat} {j:Nat} (h:(⟨cut s.a l c k,n,c-l⟩:Slc).blk=some j):s.blk=some j:=by
 obtain ⟨a,ha,e⟩:=slk.1 h
 obtain ⟨b,hb,e'⟩:=cut_block ha
 exact slk.2 ⟨b,hb,by rw [←e',e]⟩
theorem take_spec {K:World→Prop} (h:DR w base F S r rs at_) (h8:at_%8=0) (hbase:base≤w.heap.size) (htk:S.took+at_/8≤1000000000000)
  (hK:∀F' rs' w',DR w' base F' { S with wait:=S.wait.drop (at_/8),took:=S.took+at_/8,skip:=0 } r rs' 0→F.tw F' w.heap.size→Chg (drS F r) w w'→K w'):c_inflate_Decoder_take (some ⟨F.d,0,none⟩) (some ⟨r,0,none⟩) w K:=by
 refine call_inflate_Decoder_take _ _ ?_
 unfold sh_inflate_Decoder_take
 simp only [onPtr_some]
 have hle:=h.rdr.le
 have hwl:=h.d.hw
 refine At_spec h.rdr ⟨by decide,?_⟩
 refine lI (x:=((S.took:Nat):Int)) (h.d.blk.cells 11 _ rfl) ?_
 rw [add_mk,tdiv8,w64i (x:=((at_/8:Nat):Int)) (by omega),w64i (by omega)]
 have e1:((S.took:Nat):Int)+((at_/8:Nat):Int)=((S.took+at_/8:Nat):Int):=rfl
 rw [e1]
 refine stK_blk h.d.blk (by simp [decCells]) fun w1 hb1 hg1 hs1=>?_
 have hd1:DecM w1 base F { S with took:=S.took+at_/8 }:=h.d.put hb1 hg1 rfl rfl rfl rfl rfl rfl rfl rfl (h.d.tabs' hg1) h.d.m5 h.d.hl h.d.hs ⟨htk,h.d.ht.2⟩
 have h1:=h.own hd1 rfl rfl rfl rfl rfl hg1
 refine lSl (x:=F.wait) (h1.d.blk.cells 3 _ rfl) ?_
 refine h1.d.wait.slK (l:=at_/8) (m:=S.wait.length) rfl (.inr rfl) (.inl ⟨rfl,rfl⟩) (by omega) (Nat.le_refl _) fun hsub=>?_
 rw [List.take_length] at hsub
 obtain ⟨ws,hws⟩:∃s:Slc,s=⟨cut F.wait.a (at_/8) F.wait.c E_uint8.k,S.wait.length-at_/8,F.wait.c-at_/8⟩:=⟨_,rfl⟩
 rw [←hws] at hsub ⊢
 have hwsb:∀j,ws.blk=some j→F.wait.blk=some j:=fun j hj=>by rw [hws] at hj;exact cut_blk hj
 rw [add_mk]
 refine stK_blk h1.d.blk (by simp [decCells]) fun w2 hb2 hg2 hs2=>?_
 have hd2:=h1.d.putW (ws:=ws) (xs:=S.wait.drop (at_/8)) (took:=S.took+at_/8) (skip:=S.skip) hb2 hg2 hsub (fun k hk=>h.d.wn k (hwsb k hk)) (by simp;omega) h.d.hs htk
 have hr2:RdrM w2 r rs S.wait at_:=h1.rdr.chg (Chg.gg hg2) (fun e=>h1.r_d (.inl e)) fun k hk e=>h1.sep k hk (.inl e)
 refine At_spec hr2 ⟨by decide,?_⟩
 rw [tmod8,h8,add_mk]
 refine stK_blk hd2.blk (by simp [decCells]) fun w3 hb3 hg3 hs3=>?_
 have hd3:DecM w3 base { F with wait:=ws } { S with wait:=S.wait.drop (at_/8),took:=S.took+at_/8,skip:=0 }:=hd2.put hb3 hg3 rfl rfl rfl rfl rfl rfl rfl rfl (hd2.tabs' hg3) h.d.m5 h.d.hl (Nat.zero_le _) ⟨htk,h.d.ht.2⟩
 have hr3:RdrM w3 r rs S.wait at_:=hr2.chg (Chg.gg hg3) (fun e=>h1.r_d (.inl e)) fun k hk e=>h1.sep k hk (.inl e)
 refine lSl (x:=ws) (hd3.blk.cells 3 _ rfl) ?_
 have hc3:Chg (drS F r) w w3:=((drS_g (r:=r) hg1).trans (drS_g (r:=r) hg2) fun i _ hi=>hi).trans (drS_g (F:=F) (r:=r) hg3) fun i _ hi=>hi
 have hs3':=hc3.size
 refine NewReader_spec hd3.wait (by simp;omega) fun g2 s2 w4 hg2f hs2f hr4 hB4=>?_
 simp only [onPtr_some]
 refine ldS_of (r:=T_bits_Reader.rep) (x:=⟨s2,0⟩) hr4.blk.cells ?_
 have hd4:=hd3.ext hB4
 have hr4':=hr3.ext hB4
 refine stK_blk hr4'.blk (by simp [T_bits_Reader.rep]) fun w5 hb5 hg5 hs5=>?_
 have hrd:r≠F.d:=fun e=>h.r_d (.inl e)
 have hrlt:=h.rdr.blk.lt
 have hd5:=hd4.chg (Chg.gg hg5) (fun k hk e=>by
  subst e
  rcases hk with hk | hk
  ·exact h.r_d hk
  ·exact h.wr _ (hwsb _ hk) rfl) fun k e _=>by subst e;exact ⟨_,_,hr4'.blk,by decide,by decide⟩
 have hr5:RdrM w5 r s2 (S.wait.drop (at_/8)) 0:=by
  refine ⟨hb5,hr4.rd.chg (Chg.gg hg5) fun a ha e=>?_,Nat.zero_le _,hr4.sm,fun k hk e=>?_⟩
  ·have:=hs2f _ (slk.2 ⟨a,ha,rfl⟩);omega
  ·have:=hs2f k hk;omega
 refine lI (x:=0) (hd5.blk.cells 4 _ rfl) ?_
 have hs4:=hB4.size
 have hs25:∀k,s2.blk=some k→k<w5.heap.size:=fun k hk=>by have:=(hs2f k hk).2;omega
 refine Bits_spec hr5 (fun m w6 e _ _ hr6 hc6=>?_) (fun w6 hn _=>by omega)
 have:m=0:=by omega
 subst this
 have hc6s:=hc6.size
 have hd6:=hd5.chg hc6 (fun k hk e=>by
  subst e
  rcases hk with hk | hk
  ·exact h.r_d hk
  ·exact h.wr _ (hwsb _ hk) rfl) fun k e _=>by subst e;exact ⟨_,_,hr5.blk,by decide,by decide⟩
 refine hK { F with wait:=ws } s2 w6 ⟨hd6,hr6,fun k hk hs=>?_,h.rb,fun k hk=>h.wr k (hwsb k hk),fun k hk=>?_,fun k hk=>by have:=hs25 k hk;omega⟩ ⟨rfl,.inl rfl,.inl rfl⟩ ?_
 ·have h1:=(hs2f k hk).1
  have h2:=(h.d.below k hs).2
  omega
 ·have:=h.wl k (hwsb k hk)
  omega
 ·exact ((hc3.trans (Chg.of_ext (S:=drS F r) hB4) fun i _ hi=>hi).trans (drS_r (F:=F) (Chg.gg hg5)) fun i _ hi=>hi).trans (drS_r (F:=F) hc6) fun i _ hi=>hi
theorem next1 (h:DR w base F S r rs at_) {K:World→Prop} (hK:∀w',DR w' base F { S with c:=S.c.behind } r rs at_→Chg (drS F r) w w'→K w'):c_inflate_Decoder_next (some ⟨F.d,0,none⟩) w K :=
 next_spec h.d fun w' hd hc=>hK w' (h.decd hd (DF.to.refl _ _) rfl (hc.mono fun i _ hi=>.inl hi)) (hc.mono fun i _ hi=>.inl (.inl hi))
theorem put1 {c:UInt8} {v:Int} {K:Int→World→Prop} (hv:v=(c.toNat:Int)) (h:DR w base F S r rs at_) (hbase:base≤w.heap.size)
  (hK1:∀w',S.most≤S.c.hist.length→DR w' base F S r rs at_→Chg (drS F r) w w'→K 5 w')
  (hK2:∀F' w',S.c.hist.length<S.most→DR w' base F' { S with c:={ S.c with hist:=S.c.hist++[c] },out:=S.out++[c] } r rs at_→F.to F' w.heap.size→Chg (drS F r) w w'→K 0 w'):c_inflate_Decoder_put (some ⟨F.d,0,none⟩) v w K :=
 put_spec hv h.d hbase h.wl (fun hm=>hK1 _ hm h.drew (Chg.of_ext ((Below.refl _ w).drew))) fun F' w' hl hd hto hc=>hK2 F' w' hl (h.decd hd hto rfl hc) hto (drS_d hc)
theorem bytes_spec {K:Int→World→Prop} (h:DR w base F S r rs at_) (hm:S.c.mode=2) (h8:at_%8=0) (hbase:base≤w.heap.size) (htk:S.took+S.wait.length≤1000000000000)
  (hK:∀e F' S' rs' at' w',StepRes S at_ e S' at'→DR w' base F' S' r rs' at'→F.tw F' w.heap.size→Chg (drS F r) w w'→K e w'):c_inflate_Decoder_bytes (some ⟨F.d,0,none⟩) (some ⟨r,0,none⟩) w K:=by
 refine call_inflate_Decoder_bytes _ _ ?_
 unfold sh_inflate_Decoder_bytes
 refine loopP_rule_w (fun n (_:Unit) w1=>∃F1 S1 a1,n=S1.c.left∧S1.c.mode=2∧a1%8=0∧Ch S.most S.wait S.c at_ S1.c a1∧(S1.c.left<S.c.left∨S1.c=S.c∧a1=at_)∧(∃x,S1.c.hist=S.c.hist++x∧S1.out=S.out++x)∧S1.most=S.most∧S1.given=S.given∧S1.told=S.told∧S1.wait=S.wait∧S1.took=S.took∧S1.skip=S.skip∧DR w1 base F1 S1 r rs a1∧F1.d=F.d∧F.to F1 w.heap.size∧Chg (drS F r) w w1)
  S.c.left ⟨F,S,at_,rfl,hm,h8,.refl _ _,.inr ⟨rfl,rfl⟩,⟨[],by simp,by simp⟩,rfl,rfl,rfl,rfl,rfl,rfl,h,rfl,DF.to.refl _ _,Chg.refl _ _⟩ ?_
 rintro n _ w1 ⟨F1,S1,a1,rfl,hm1,h81,hch,hlt,⟨x,hx,hxo⟩,em,eg,et,ew,etk,esk,h1,ed,hto,hc1⟩ I hI
 have hst:step1 S.most S.wait a1 S1.c=stepByte S.most S.wait a1 S1.c:=by rw [step1,if_neg (by omega),stepN,if_neg (by omega),if_neg (by omega),if_pos hm1]
 have hs1:=hc1.size
 rw [←ed]
 simp only [onPtr_some]
 have hll:=h1.d.hl
 have sub:∀{w2 w3:World},Chg (drS F r) w w2→Chg (drS F1 r) w2 w3→Chg (drS F r) w w3:=fun h2 h3=>h2.trans h3 fun i hi hs=>by
  rcases hs with hs | hs
  ·rcases hto.old i hs with e | e
   ·exact .inl e
   ·omega
  ·exact .inr hs
 refine lI (x:=((S1.c.left:Nat):Int)) (h1.d.blk.cells 5 _ rfl) ?_
 refine cO (fun hpos=>?_) (fun hzero=>?_)
 ·have hpos:=of_decide_eq_true hpos
  refine rBits h1 (fun m w2 e _ hl2 h2 hc2=>?_) (fun w2 hn h2 hc2=>?_)
  ·have:m=8:=by omega
   subst this
   rw [ew] at hl2 ⊢
   refine cF rfl ?_
   have hp:=peekN_lt S.wait a1 8
   have hv:IntKind.u8.wrap ((peekN S.wait a1 8:Nat):Int)=(((UInt8.ofNat (peekN S.wait a1 8)).toNat:Nat):Int):=by
    rw [wrap_nat .u8 (by show _<2^8;omega),UInt8.toNat_ofNat']
    congr 1
    omega
   have hs2:=hc2.size
   unfold stepByte at hst
   rw [if_neg (by omega),if_neg (by omega)] at hst
   refine put1 hv h2 (by omega) (fun w3 hfull h3 hc3=>?_) (fun F3 w3 hroom h3 hto3 hc3=>?_)
   ·rw [em] at hfull
    rw [if_pos hfull] at hst
    refine cT rfl (hK 5 F1 S1 rs _ w3 ⟨em,eg,et,.inr (.inr ⟨5,rfl,.inr rfl,⟨S1.c,a1,hch,hst⟩,etk,ew⟩)⟩ h3 hto.w (sub (sub hc1 hc2) hc3))
   ·rw [em] at hroom
    rw [if_neg (by omega)] at hst
    refine cF rfl ?_
    have ed3:F3.d=F1.d:=hto3.d
    rw [←ed3]
    refine lI (x:=((S1.c.left:Nat):Int)) (h3.d.blk.cells 5 _ rfl) ?_
    rw [add_mk,w64i (by omega)]
    refine stK_blk h3.d.blk (by simp [decCells]) fun w4 hb4 hg4 hs4=>?_
    have e1:((S1.c.left:Nat):Int)-1=((S1.c.left-1:Nat):Int):=by omega
    rw [e1] at hb4
    have hd4:DecM w4 base F3 { S1 with c:={ S1.c with left:=S1.c.left-1,hist:=S1.c.hist++[UInt8.ofNat (peekN S.wait a1 8)] },out:=S1.out++[UInt8.ofNat (peekN S.wait a1 8)] }:=h3.d.put hb4 hg4 rfl rfl rfl rfl rfl rfl rfl rfl (fun e=>by have e:S1.c.mode=4:=e;omega) h3.d.m5 (by show S1.c.left-1≤65535;omega) h3.d.hs h3.d.ht
    have h4:=h3.own hd4 rfl rfl rfl rfl rfl hg4
    have hto':F.to F3 w.heap.size:=hto.trans hto3 (by omega)
    refine hI _ () w4 ⟨F3,{ S1 with c:={ S1.c with left:=S1.c.left-1,hist:=S1.c.hist++[UInt8.ofNat (peekN S.wait a1 8)] },out:=S1.out++[UInt8.ofNat (peekN S.wait a1 8)] },a1+8,rfl,hm1,by omega,hch.trans (.one hst),.inl ?_,⟨x++[UInt8.ofNat (peekN S.wait a1 8)],?_,?_⟩,em,eg,et,ew,etk,esk,h4,ed3.trans ed,hto',?_⟩ ?_
    ·show S1.c.left-1<S.c.left
     rcases hlt with e | ⟨e,_⟩
     ·omega
     ·rw [e] at hpos ⊢;omega
    ·show S1.c.hist++_=_
     rw [hx,List.append_assoc]
    ·show S1.out++_=_
     rw [hxo,List.append_assoc]
    ·have hc3':Chg (drS F r) w w3:=sub (sub hc1 hc2) hc3
     exact hc3'.trans (Chg.gg hg4) fun i hi e=>by
      subst e
      rw [ed3,ed]
      exact .inl (.inl rfl)
    ·show S1.c.left-1<S1.c.left
     omega
  ·refine cT rfl ?_
   unfold stepByte at hst
   rw [ew] at hn
   rw [if_neg (by omega),if_pos (by omega)] at hst
   have hle:=h1.rdr.le
   rw [ew] at hle
   have hs2:=hc2.size
   refine take_spec h2 h81 (by omega) (by rw [etk];omega) fun F3 rs3 w3 h3 hto3 hc3=>?_
   refine hK 2 F3 { S1 with wait:=S1.wait.drop (a1/8),took:=S1.took+a1/8,skip:=0 } rs3 0 w3 ⟨em,eg,et,.inr (.inl ⟨rfl,a1/8,a1,hch,hst,⟨x,hx,hxo⟩,by show S1.wait.drop _=_;rw [ew],by omega,by show S1.took+_=_;rw [etk],by omega,by show S1.c.mode≤4;omega⟩)⟩ h3 (hto.w.trans hto3 (by omega)) (sub (sub hc1 hc2) hc3)
 ·have hzero:=of_decide_eq_false hzero
  unfold stepByte at hst
  rw [if_pos (by omega)] at hst
  refine next1 h1 fun w2 h2 hc2=>?_
  refine hK 0 F1 { S1 with c:=S1.c.behind } rs a1 w2 ⟨em,eg,et,.inl ⟨rfl,?_,⟨x,hx,hxo⟩,ew,etk,esk⟩⟩ h2 hto.w (sub hc1 hc2)
  rcases (hch.trans (.one hst)).split with ⟨e,_⟩ | ⟨c1,b1,e1,e2⟩
  ·exfalso
   have e:=congrArg Cfg.mode e
   rw [hm] at e
   unfold Cfg.behind at e
   have e:2=if S1.c.last then 5 else 0:=e
   split at e<;>omega
  ·exact ⟨c1,b1,e1,e2⟩
end
end Go.Proofs.YtmagnpcgpinmcaaGreat
namespace Go.Proofs.YtmagnpcgpinmcaaGreat
open Go.Vc Go.RowKit
set_option maxRecDepth 400000
theorem length_spec {y:Nat} {w:World} {K:Int→Int→World→Prop} (h0:257≤y) (h1:y≤285) (hK:K ((lenBase y).1:Nat) ((lenBase y).2:Nat) w):c_inflate_length y w K:=by
 refine call_inflate_length _ ?_
 unfold sh_inflate_length
 unfold lenBase at hK
 refine cO (fun e=>?_) (fun e=>?_)
 ·have e:y=285:=by have:=eq_of_beq e;omega
  rw [if_pos e] at hK
  exact hK
 ·have e:y≠285:=by have:=beq_eq_false_iff_ne.1 e;omega
  rw [if_neg e] at hK
  have e1:IntKind.i64.wrap ((y:Int)-257)=((y-257:Nat):Int):=by rw [w64i (by omega)];omega
  rw [e1]
  obtain ⟨k,hk⟩:∃k,y-257=k:=⟨_,rfl⟩
  rw [hk] at hK ⊢
  refine cO (fun c=>?_) (fun c=>?_)
  ·have c:=of_decide_eq_true c
   rw [if_pos (by omega)] at hK
   rw [w64i (by omega)]
   exact hK
  ·have c:=of_decide_eq_false c
   rw [if_neg (by omega)] at hK
   have d4:((k:Nat):Int).tdiv 4=((k/4:Nat):Int):=IntWalk.up_tdiv rfl rfl
   have m4:((k:Nat):Int).tmod 4=((k%4:Nat):Int):=IntWalk.up_tmod rfl rfl
   have en:IntKind.i64.wrap (IntKind.i64.wrap (((k:Nat):Int).tdiv 4)-1)=((k/4-1:Nat):Int):=by
    rw [d4,w64i (x:=((k/4:Nat):Int)) (by omega),w64i (by omega)];omega
   rw [en,m4,w64i (x:=4+((k%4:Nat):Int)) (by omega)]
   have hn:k/4-1≤6:=by omega
   have hp:2^(k/4-1)≤2^6:=Nat.pow_le_pow_right (by decide) hn
   have e2:min (((k/4-1:Nat):Int)).toNat IntKind.i64.bits=k/4-1:=by show min (k/4-1) 64=_;omega
   have e3:(4:Int)+((k%4:Nat):Int)=((4+k%4:Nat):Int):=by omega
   have hq:(4+k%4)*2^(k/4-1)≤7*2^6:=Nat.mul_le_mul (by omega) hp
   have hpp:2^(k/4-1)*1≤2^6:=by omega
   rw [e2,e3,mul_pow_nat,wrap_nat .i64 (by show _<2^63;omega),w64i (by omega)]
   refine ⟨by decide,by decide,by omega,?_⟩
   have e5:(3:Int)+(((4+k%4)*2^(k/4-1):Nat):Int)=((3+(4+k%4)*2^(k/4-1):Nat):Int):=by omega
   rw [e5]
   exact hK
theorem distance_spec {z:Nat} {w:World} {K:Int→Int→World→Prop} (h1:z≤29) (hK:K ((distBase z).1:Nat) ((distBase z).2:Nat) w):c_inflate_distance z w K:=by
 refine call_inflate_distance _ ?_
 unfold sh_inflate_distance
 unfold distBase at hK
 refine cO (fun c=>?_) (fun c=>?_)
 ·have c:=of_decide_eq_true c
  rw [if_pos (by omega)] at hK
  rw [w64i (by omega)]
  exact hK
 ·have c:=of_decide_eq_false c
  rw [if_neg (by omega)] at hK
  have d2:((z:Nat):Int).tdiv 2=((z/2:Nat):Int):=IntWalk.up_tdiv rfl rfl
  have m2:((z:Nat):Int).tmod 2=((z%2:Nat):Int):=IntWalk.up_tmod rfl rfl
  have en:IntKind.i64.wrap (IntKind.i64.wrap (((z:Nat):Int).tdiv 2)-1)=((z/2-1:Nat):Int):=by
   rw [d2,w64i (x:=((z/2:Nat):Int)) (by omega),w64i (by omega)];omega
  rw [en,m2,w64i (x:=2+((z%2:Nat):Int)) (by omega)]
  have hn:z/2-1≤13:=by omega
  have hp:2^(z/2-1)≤2^13:=Nat.pow_le_pow_right (by decide) hn
  have e2:min (((z/2-1:Nat):Int)).toNat IntKind.i64.bits=z/2-1:=by show min (z/2-1) 64=_;omega
  have e3:(2:Int)+((z%2:Nat):Int)=((2+z%2:Nat):Int):=by omega
  have hq:(2+z%2)*2^(z/2-1)≤3*2^13:=Nat.mul_le_mul (by omega) hp
  rw [e2,e3,mul_pow_nat,wrap_nat .i64 (by show _<2^63;omega),w64i (by omega)]
  refine ⟨by decide,by decide,by omega,?_⟩
  have e5:(1:Int)+(((2+z%2)*2^(z/2-1):Nat):Int)=((1+(2+z%2)*2^(z/2-1):Nat):Int):=by omega
  rw [e5]
  exact hK
theorem lenBase_le (y:Nat) (h0:257≤y) (h1:y≤285):(lenBase y).1≤258∧(lenBase y).2≤5:=by
 have:∀k:Fin 29,(lenBase (257+k.val)).1≤258∧(lenBase (257+k.val)).2≤5:=by decide +kernel
 have:=this ⟨y-257,by omega⟩
 rwa [show 257+(y-257)=y by omega] at this
theorem distBase_le (z:Nat) (h1:z≤29):(distBase z).1≤24577∧1≤(distBase z).1∧(distBase z).2≤13:=by
 have:∀k:Fin 30,(distBase k.val).1≤24577∧1≤(distBase k.val).1∧(distBase k.val).2≤13:=by decide +kernel
 exact this ⟨z,by omega⟩
theorem copyN_succ (most far:Nat):∀(n:Nat) (h:List UInt8),copyN most far (n+1) h=match copyN most far n h with | none=>none | some h'=>if most≤h'.length then none else some (h'++[h'.getD (h'.length-far) 0])
 | 0,h=>by simp [copyN]
 | n+1,h=>by
  rw [copyN]
  split
  ·next hf=>rw [copyN,if_pos hf]
  ·next hf=>rw [copyN_succ most far n,copyN,if_neg hf]
theorem copyN_none (most far:Nat) {n m:Nat} (hnm:n≤m) {h:List UInt8} (hn:copyN most far n h=none):copyN most far m h=none:=by
 induction m with
 | zero =>
      have:n=0:=by omega
      subst this;exact hn
 | succ m ih =>
  rcases Nat.lt_or_ge n (m+1) with hlt | hge
  ·rw [copyN_succ,ih (by omega)]
  ·have:n=m+1:=by omega
   subst this;exact hn
section
variable {w w':World} {base:Nat} {F:DF} {S:DS} {r:Nat} {rs:Slc} {at_:Nat}
theorem rRead {f:TF} {bt:Nat} {ls:List UInt8} {K:Int→Int→World→Prop} (h:DR w base F S r rs at_) (ht:TabR w bt f ls)
  (hK1:∀y k w',readT ls S.wait at_=.sym y k→at_+k≤8*S.wait.length→y<ls.length→DR w' base F S r rs (at_+k)→Chg (fun k=>k=r) w w'→K y 0 w')
  (hK2:∀w',readT ls S.wait at_=.short→DR w' base F S r rs at_→Chg (drS F r) w w'→K 0 2 w') (hK3:∀w',readT ls S.wait at_=.form→DR w' base F S r rs at_→Chg (drS F r) w w'→K 0 3 w'):c_huff_Table_Read (some ⟨f.g,0,none⟩) (some ⟨r,0,none⟩) w K :=
 Read_spec (f:=f) ht.blk ht.so.rd (fun k hk e=>by
  subst e
  obtain ⟨cs,hcs⟩:=ht.so.blk_t hk
  exact hcs.ne_t h.rdr.blk (by decide) rfl) ht.sm ht.small ht.room h.rdr (fun y k w' e hl hy hr hc=>hK1 y k w' e hl hy (h.moved hr hc) hc) (fun w' e hB=>hK2 w' e (h.ext hB) (Chg.of_ext hB)) (fun w' e hB=>hK3 w' e (h.ext hB) (Chg.of_ext hB))
theorem code_spec {K:Int→World→Prop} (h:DR w base F S r rs at_) (hm:S.c.mode=4) (hbase:base≤w.heap.size)
  (hK:∀e F' S' at' w',StepRes S at_ e S' at'→DR w' base F' S' r rs at'→F.to F' w.heap.size→Chg (drS F r) w w'→K e w'):c_inflate_Decoder_code (some ⟨F.d,0,none⟩) (some ⟨r,0,none⟩) w K:=by
 refine call_inflate_Decoder_code _ _ ?_
 unfold sh_inflate_Decoder_code
 simp only [onPtr_some]
 have hst:step1 S.most S.wait at_ S.c=stepCode S.most S.wait at_ S.c:=by rw [step1,if_neg (by omega),stepN,if_neg (by omega),if_neg (by omega),if_neg (by omega),if_neg (by omega)]
 obtain ⟨f1,f2,e1,e2,t1,t2⟩:=h.d.tabs hm
 have hp6:(decCells F S 0)[6]?=some (.pointer (some ⟨f1.g,0,none⟩)):=by
  show some (Value.pointer (tp F.sg))=_
  rw [e1];rfl
 have hp7:(decCells F S 0)[7]?=some (.pointer (some ⟨f2.g,0,none⟩)):=by
  show some (Value.pointer (tp F.ds))=_
  rw [e2];rfl
 refine ldP_of (x:=some ⟨f1.g,0,none⟩) (h.d.blk.cells 6 _ hp6) ?_
 unfold stepCode at hst
 have hN:∀k,k=r→k<w.heap.size→NoTab w k:=fun k e _=>by subst e;exact ⟨_,_,h.rdr.blk,by decide,by decide⟩
 have short:∀at' w',step1 S.most S.wait at_ S.c=.short→at_≤at'→DR w' base F S r rs at'→Chg (drS F r) w w'→K 2 w':=fun at' w' hs ha h' hc' =>
  hK 2 F S at' w' ⟨rfl,rfl,rfl,.inr (.inl ⟨rfl,0,at_,.refl _ _,hs,⟨[],by simp,by simp⟩,by simp,by omega,by simp,by omega,by omega⟩)⟩ h' (DF.to.refl _ _) hc'
 have bad:∀(n:Nat) F' S' at' w',step1 S.most S.wait at_ S.c=.err n→(n=3∨n=5)→S'.most=S.most→S'.given=S.given→S'.told=S.told→S'.took=S.took→S'.wait=S.wait→DR w' base F' S' r rs at'→F.to F' w.heap.size→Chg (drS F r) w w'→K n w':=fun n F' S' at' w' hs hn h1 h2 h3 h4 h5 h' hto hc' =>
  hK n F' S' at' w' ⟨h1,h2,h3,.inr (.inr ⟨n,rfl,hn,⟨S.c,at_,.refl _ _,hs⟩,h4,h5⟩)⟩ h' hto hc'
 refine rRead h t1 (fun y k w1 er hl1 hy h1 hc1=>?_) (fun w1 er h1 hc1=>?_) (fun w1 er h1 hc1=>?_)
 rotate_left
 ·rw [er] at hst
  exact cT rfl (short _ w1 hst (Nat.le_refl _) h1 hc1)
 ·rw [er] at hst
  exact cT rfl (bad 3 F S _ w1 hst (.inl rfl) rfl rfl rfl rfl rfl h1 (DF.to.refl _ _) hc1)
 rw [er] at hst
 dsimp only at hst
 have c01:Chg (drS F r) w w1:=drS_r hc1
 have s01:=hc1.size
 refine cF rfl ?_
 refine cO (fun c=>?_) (fun c=>?_)
 ·have c:y=256:=by have:=eq_of_beq c;omega
  rw [if_pos c] at hst
  refine next1 h1 fun w2 h2 hc2=>?_
  exact hK 0 F { S with c:=S.c.behind } (at_+k) w2 ⟨rfl,rfl,rfl,.inl ⟨rfl,⟨_,_,hst,.refl _ _⟩,⟨[],by simp [Cfg.behind],by simp⟩,rfl,rfl,rfl⟩⟩ h2 (DF.to.refl _ _) (c01.trans hc2 fun i _ hi=>hi)
 have c:y≠256:=by have:=beq_eq_false_iff_ne.1 c;omega
 rw [if_neg c] at hst
 refine cO (fun c2=>?_) (fun c2=>?_)
 ·have c2:=of_decide_eq_true c2
  rw [if_pos (by omega)] at hst
  exact bad 3 F S _ w1 hst (.inl rfl) rfl rfl rfl rfl rfl h1 (DF.to.refl _ _) c01
 have c2:=of_decide_eq_false c2
 rw [if_neg (by omega)] at hst
 refine cO (fun c3=>?_) (fun c3=>?_)
 ·have c3:=of_decide_eq_true c3
  rw [if_pos (by omega)] at hst
  have hv:IntKind.u8.wrap ((y:Nat):Int)=(((UInt8.ofNat y).toNat:Nat):Int):=by
   rw [wrap_nat .u8 (by show _<2^8;omega),UInt8.toNat_ofNat']
   congr 1
   omega
  refine put1 hv h1 (by omega) (fun w2 hfull h2 hc2=>?_) (fun F2 w2 hroom h2 hto2 hc2=>?_)
  ·rw [if_pos hfull] at hst
   exact bad 5 F S _ w2 hst (.inr rfl) rfl rfl rfl rfl rfl h2 (DF.to.refl _ _) (c01.trans hc2 fun i _ hi=>hi)
  ·rw [if_neg (by omega)] at hst
   exact hK 0 F2 { S with c:={ S.c with hist:=S.c.hist++[UInt8.ofNat y] },out:=S.out++[UInt8.ofNat y] } (at_+k) w2 ⟨rfl,rfl,rfl,.inl ⟨rfl,⟨_,_,hst,.refl _ _⟩,⟨_,rfl,rfl⟩,rfl,rfl,rfl⟩⟩ h2 ((DF.to.refl F w.heap.size).trans hto2 (by omega)) (c01.trans hc2 fun i _ hi=>hi)
 have c3:=of_decide_eq_false c3
 rw [if_neg (by omega)] at hst
 obtain ⟨lb1,lb2⟩:=lenBase_le y (by omega) (by omega)
 refine length_spec (by omega) (by omega) ?_
 obtain ⟨b,n,hbn⟩:∃b n,lenBase y=(b,n):=⟨_,_,rfl⟩
 rw [hbn] at hst lb1 lb2 ⊢
 dsimp only at hst lb1 lb2 ⊢
 refine rBits h1 (fun m w5 e hm32 hl5 h5 hc5=>?_) (fun w5 hn h5 hc5=>?_)
 rotate_left
 ·rw [if_pos (by omega)] at hst
  exact cT rfl (short _ w5 hst (by omega) h5 (c01.trans hc5 fun i _ hi=>hi))
 have:m=n:=by omega
 subst this
 rw [if_neg (by omega)] at hst
 refine cF rfl ?_
 have c05:Chg (drS F r) w w5:=c01.trans hc5 fun i _ hi=>hi
 have s05:=c05.size
 refine ldP_of (x:=some ⟨f2.g,0,none⟩) (h5.d.blk.cells 7 _ hp7) ?_
 have hN1:∀(k:Nat),drS F r k→k<w.heap.size→NoTab w k:=fun k hk hlt=>by
  rcases hk with hk | hk
  ·exact h.d.noTab k hk
  ·exact hN k hk hlt
 have t2':=t2.chg c05 hN1
 refine rRead h5 t2' (fun z j w6 er2 hl6 hz h6 hc6=>?_) (fun w6 er2 h6 hc6=>?_) (fun w6 er2 h6 hc6=>?_)
 rotate_left
 ·rw [er2] at hst
  exact cT rfl (short _ w6 hst (by omega) h6 (c05.trans hc6 fun i _ hi=>hi))
 ·rw [er2] at hst
  exact cT rfl (bad 3 F S _ w6 hst (.inl rfl) rfl rfl rfl rfl rfl h6 (DF.to.refl _ _) (c05.trans hc6 fun i _ hi=>hi))
 rw [er2] at hst
 dsimp only at hst
 refine cF rfl ?_
 have c06:Chg (drS F r) w w6:=c05.trans hc6 fun i _ hi=>.inr hi
 have s06:=c06.size
 refine cO (fun c4=>?_) (fun c4=>?_)
 ·have c4:=of_decide_eq_true c4
  rw [if_pos (by omega)] at hst
  exact bad 3 F S _ w6 hst (.inl rfl) rfl rfl rfl rfl rfl h6 (DF.to.refl _ _) c06
 have c4:=of_decide_eq_false c4
 rw [if_neg (by omega)] at hst
 obtain ⟨db1,db2,db3⟩:=distBase_le z (by omega)
 refine distance_spec (by omega) ?_
 obtain ⟨b2,n2,hbn2⟩:∃b n,distBase z=(b,n):=⟨_,_,rfl⟩
 rw [hbn2] at hst db1 db2 db3 ⊢
 dsimp only at hst db1 db2 db3 ⊢
 refine rBits h6 (fun m2 w8 e hm32' hl8 h8 hc8=>?_) (fun w8 hn h8 hc8=>?_)
 rotate_left
 ·rw [if_pos (by omega)] at hst
  exact cT rfl (short _ w8 hst (by omega) h8 (c06.trans hc8 fun i _ hi=>hi))
 have:m2=n2:=by omega
 subst this
 rw [if_neg (by omega)] at hst
 refine cF rfl ?_
 have c08:Chg (drS F r) w w8:=c06.trans hc8 fun i _ hi=>hi
 have s08:=c08.size
 have hx1:=peekN_lt S.wait (at_+k) m
 have hx2:=peekN_lt S.wait (at_+k+m+j) m2
 have hpm:2^m≤2^5:=Nat.pow_le_pow_right (by decide) lb2
 have hpm2:2^m2≤2^13:=Nat.pow_le_pow_right (by decide) db3
 obtain ⟨len,hlen⟩:∃x,b+peekN S.wait (at_+k) m=x:=⟨_,rfl⟩
 obtain ⟨far,hfar⟩:∃x,b2+peekN S.wait (at_+k+m+j) m2=x:=⟨_,rfl⟩
 rw [hlen,hfar] at hst
 refine lI (x:=((S.c.hist.length:Nat):Int)) (h8.d.blk.cells 9 _ rfl) ?_
 have ef:IntKind.i64.wrap (((b2:Nat):Int)+IntKind.i64.wrap ((peekN S.wait (at_+k+m+j) m2:Nat):Int))=((far:Nat):Int):=by
  rw [w64i (x:=((peekN S.wait (at_+k+m+j) m2:Nat):Int)) (by omega),w64i (by omega)];omega
 have el:IntKind.i64.wrap (((b:Nat):Int)+IntKind.i64.wrap ((peekN S.wait (at_+k) m:Nat):Int))=((len:Nat):Int):=by
  rw [w64i (x:=((peekN S.wait (at_+k) m:Nat):Int)) (by omega),w64i (by omega)];omega
 simp only [ef,el]
 have emin:(if (32768:Int)<((S.c.hist.length:Nat):Int) then (32768:Int) else ((S.c.hist.length:Nat):Int))=((min S.c.hist.length 32768:Nat):Int):=by split<;>omega
 rw [emin]
 refine cO (fun c5=>?_) (fun c5=>?_)
 ·have c5:=of_decide_eq_true c5
  rw [if_pos (by omega)] at hst
  exact bad 3 F S _ w8 hst (.inl rfl) rfl rfl rfl rfl rfl h8 (DF.to.refl _ _) c08
 have c5:=of_decide_eq_false c5
 rw [if_neg (by omega)] at hst
 have hfar1:1≤far:=by omega
 have hmo:=h.d.mo
 refine lpR (fun (s:Int×Unit) w9=>∃(i:Nat) (F9:DF) (hh x:List UInt8),s.1=i∧i≤len∧copyN S.most far i S.c.hist=some hh∧hh=S.c.hist++x∧DR w9 base F9 { S with c:={ S.c with hist:=hh },out:=S.out++x } r rs (at_+k+m+j+m2)∧F9.d=F.d∧F.to F9 w.heap.size∧Chg (drS F r) w w9) (fun s=>len-s.1.toNat)
  ⟨0,F,S.c.hist,[],rfl,by omega,rfl,by simp,by rw [List.append_nil];exact h8,rfl,DF.to.refl _ _,c08⟩ ?_
 rintro ⟨i,_⟩ w9 ⟨i,F9,hh,x,rfl,hi,hcp,hhx,h9,ed9,hto9,hc9⟩ I hI
 dsimp only at *
 have s09:=hc9.size
 refine cO (fun c6=>?_) (fun c6=>?_)
 ·have c6:=of_decide_eq_true c6
  have h9d:=h9.drew
  rw [←ed9]
  have hlh:S.c.hist.length≤hh.length:=by rw [hhx,List.length_append];omega
  have hhm:=h9.d.hm
  dsimp only at hhm
  refine lSl (x:=F9.ring) (h9d.d.blk.cells 8 _ rfl) ?_
  refine lI (x:=((hh.length:Nat):Int)) (h9d.d.blk.cells 9 _ rfl) ⟨by decide,?_⟩
  have e9:(IntKind.i64.wrap (((hh.length:Nat):Int)-((far:Nat):Int))).tmod 32768=(((hh.length-far)%32768:Nat):Int):=by
   rw [w64i (by omega),show ((hh.length:Nat):Int)-((far:Nat):Int)=((hh.length-far:Nat):Int) by omega]
   exact IntWalk.up_tmod rfl rfl
  rw [e9]
  have hrl:=ringOf_length hh
  have hget:=ringOf_get hh (hh.length-far) (by omega) (by omega)
  have hidx:(hh.length-far)%32768<(ringOf hh).length:=by
   rw [List.getElem?_eq_getElem (by omega:hh.length-far<hh.length)] at hget
   exact (List.getElem?_eq_some_iff.1 hget).1
  refine h9d.d.ring.rd.ix rfl (by omega) (by show _<(((ringOf hh).length:Nat):Int);omega) fun hc=>?_
  have hval:∀q,(ringOf hh)[(((hh.length-far)%32768:Nat):Int).toNat]'q=hh.getD (hh.length-far) 0:=fun q=>by
   have h2:=List.getElem?_eq_getElem (l:=ringOf hh) (i:=(hh.length-far)%32768) hidx
   rw [hget] at h2
   rw [List.getD_eq_getElem?_getD,h2]
   rfl
  have hc:cellsAt w9.drew (F9.ring.at_ E_uint8.k (((hh.length-far)%32768:Nat):Int).toNat) (E_uint8.cells ((ringOf hh)[(((hh.length-far)%32768:Nat):Int).toNat]'(by exact hidx))):=hc
  rw [hval] at hc
  refine ldB8 (b:=hh.getD (hh.length-far) 0) hc ?_
  have hsucc:=copyN_succ S.most far i S.c.hist
  rw [hcp] at hsucc
  dsimp only at hsucc
  have sub:∀{w2 w3:World},Chg (drS F r) w w2→Chg (drS F9 r) w2 w3→Chg (drS F r) w w3:=fun h2 h3=>h2.trans h3 fun i hi hs=>by
   rcases hs with hs | hs
   ·rcases hto9.old i hs with e | e
    ·exact .inl e
    ·omega
   ·exact .inr hs
  have hc9d:Chg (drS F r) w w9.drew:=hc9.trans (Chg.of_ext (S:=drS F r) ((Below.refl _ w9).drew)) fun i _ hi=>hi
  refine put1 (c:=hh.getD (hh.length-far) 0) rfl h9d (by show base≤w9.heap.size;omega) (fun w10 hfull h10 hc10=>?_) (fun F10 w10 hroom h10 hto10 hc10=>?_)
  ·dsimp only at hfull
   rw [if_pos hfull] at hsucc
   rw [copyN_none S.most far (by omega:i+1≤len) hsucc] at hst
   exact cT rfl (bad 5 F9 { S with c:={ S.c with hist:=hh },out:=S.out++x } _ w10 hst (.inr rfl) rfl rfl rfl rfl rfl h10 hto9 (sub hc9d hc10))
  ·dsimp only at hroom
   rw [if_neg (by omega)] at hsucc
   refine cF rfl ?_
   rw [w64i (by omega)]
   have ed:F10.d=F9.d:=hto10.d
   refine hI _ _ ⟨i+1,F10,hh++[hh.getD (hh.length-far) 0],x++[hh.getD (hh.length-far) 0],by simp,by omega,hsucc,by rw [hhx,List.append_assoc],?_,ed.trans ed9,hto9.trans hto10 (by show w.heap.size≤w9.heap.size;omega),sub hc9d hc10⟩ (by simp;omega)
   rw [←List.append_assoc]
   exact h10
 ·have c6:=of_decide_eq_false c6
  have:i=len:=by omega
  subst this
  rw [hcp] at hst
  exact hK 0 F9 { S with c:={ S.c with hist:=hh },out:=S.out++x } (at_+k+m+j+m2) w9 ⟨rfl,rfl,rfl,.inl ⟨rfl,⟨_,_,hst,.refl _ _⟩,⟨x,hhx,rfl⟩,rfl,rfl,rfl⟩⟩ h9 hto9 hc9
end
end Go.Proofs.YtmagnpcgpinmcaaGreat
