import Derived.KernelRfl
import Derived.Test.YtlmpnfhmpjldaaaGreatDoorVc
import Derived.Below
import Derived.Maps.AppendAt
import Derived.Laws.OwnMore
import Derived.IntWalk
import Derived.ProofKit
import Derived.OpenShut
import Derived.ChangeOld
import Derived.ChangeSame
import Derived.Carry
import Derived.Deep.Slices
import Derived.Laws.MakeOwn
import Derived.Test.YtlmpnfhmpjldaaaGreatDoorDefs
import Derived.Test.YtlmpnfhmpjldaaaGreatDoorShA
import Derived.Shelf.Strings.OnBuilder
import Derived.Shelf.Small.Strs
import Derived.Shelf.Strconv.Itoa3
import Derived.Shelf.Strings.Search3
import Derived.Shelf.Strings.Count
import Derived.Shelf.Bytes.IndexByte
import Derived.Shelf.LaysM
import Derived.Shelf.Strings.Search1
import Derived.Test.YtlmpnfhmpjldaaaGreatDoorProg
import Derived.Lib.ConvBytes
import Derived.Laws.BytesString
import Derived.Laws.Runes
import Derived.WalkSmall
import Derived.Test.YtlmpnfhmpjldaaaGreatDoorRows
import Derived.DataShut
import Derived.Lay
import Derived.MakeChecks
import Derived.LaidMore
import Derived.Stop.Joined
import Derived.Lib.LaidTab
import Derived.ChangeMaps5
import Derived.Laws.BitsAllLaws
import Derived.Lib.Builder
import Derived.Lib.UnsafeStr
import Derived.Laws.Externs
import Derived.Laws.BytesArg
namespace Go
open Go.RowKit
abbrev Uc (w v:World):Prop:=Below w.heap.size w v
end Go
set_option linter.unusedVariables false
namespace Go.Vc
open Go.RowKit
open Builtin (append_)
open IntKind (i64)
open _root_.Nat (add_mul le_refl)
open _root_.Option (getD_some isSome_iff_exists)
theorem lpR {σ:Type} {body:(σ->Ub)->σ->Ub} {s0:σ} {w0:World} (Inv:σ->Ub) (μ:σ->Nat) (h0:Inv s0 w0)
  (step:∀s w,Inv s w->∀I:σ->Ub,(∀s' w',Inv s' w'->μ s'<μ s->I s' w')->body I s w):zc body s0 w0:=by
 intro I hI;have key:∀n s w,μ s=n->Inv s w->I s w:=by
  intro n
  induction n using Nat.strongRecOn with
  | _ n ih =>
   intro s w hn hs;exact hI s w (step s w hs I λs' w' h' hlt=>ih (μ s') (hn ▸ hlt) s' w' rfl h')
 exact key _ _ _ rfl h0
theorem qrt {σ:Type} {body:(σ->Ub)->σ->Ub} {s0:σ} {w0:World} (Inv:Nat->σ->Ub) (n0:Nat) (h0:Inv n0 s0 w0)
  (step:∀n s w,Inv n s w->∀I:σ->Ub,(∀n' s' w',Inv n' s' w'->n'<n->I s' w')->body I s w):zc body s0 w0:=by
 intro I hI;have key:∀n s w,Inv n s w->I s w:=by
  intro n
  induction n using Nat.strongRecOn with
  | _ n ih=>intro s w hs;exact hI s w (step n s w hs I λn' s' w' h' hlt=>ih n' hlt s' w' h')
 exact key _ _ _ h0
theorem jpO {σ:Type} {K:σ->Ub} {body:(σ->Ub)->Prop} (h:∀J:σ->Ub,(∀s w,K s w->J s w)->body J):qX K body:=h
theorem cO {b:Bool} {X Y:Prop} (h1:b=true->X) (h2:b=false->Y):cond b X Y:=by
 cases b
 ·exact h2 rfl
 ·exact h1 rfl
theorem cT {b:Bool} {X Y:Prop} (h:b=true) (h1:X):cond b X Y:=by subst h;exact h1
theorem cF {b:Bool} {X Y:Prop} (h:b=false) (h1:Y):cond b X Y:=by subst h;exact h1
theorem zR (a:Addr) (i j:Nat):(a.add i).add j=a.add (i+j):=by
 unfold Addr.add;by_cases hi:i=0<;>by_cases hj:j=0<;>simp [hi,hj,Nat.add_assoc]
@[simp] theorem add_zero (a:Addr):a.add 0=a:=by simp [Addr.add]
@[simp] theorem block_add (a:Addr) (n:Nat):(a.add n).block=a.block:=by unfold Addr.add;split<;>rfl
theorem qH (b o n:Nat):(⟨b,o,none⟩:Addr).add n=⟨b,o+n,none⟩:=by unfold Addr.add;split<;>simp_all
theorem q6.sub {w:World} {a:Addr} {vs us:List Value} (h:q6 w a vs) (i:Nat) (hu:∀(j:Nat) (v:Value),us[j]?=some v->vs[i+j]?=some v):q6 w (a.add i) us:=by
 intro j v hj;rw [zR];exact h _ _ (hu j v hj)
theorem q6.lt {w:World} {a:Addr} {vs:List Value} (h:q6 w a vs) (hn:0<vs.length):a.block<w.heap.size:=by
 have:=World.block_lt_of_cell? w (a.add 0) (h 0 vs[0] (by simp [hn]));simpa using this
def Blk (w:World) (g:Nat) (t:TypeId) (vs:List Value):Prop:=w.heap[g]?=some (.cells vs.toArray t (0,0))
section
variable {w w':World} {g:Nat} {t:TypeId} {vs:List Value}
theorem Blk.lt (h:Blk w g t vs):g<w.heap.size:=by
 rcases Nat.lt_or_ge g w.heap.size with hlt | hge
 ·exact hlt
 ·unfold Blk at h;rw [Array.getElem?_eq_none hge] at h;cases h
theorem Blk.new (w:World) (t:TypeId) (vs:List Value):Blk (w.alloc (.cells vs.toArray t)) w.heap.size t vs:=by
 show (w.heap.push _)[w.heap.size]?=_;simp
theorem Blk.cells (h:Blk w g t vs):q6 w ⟨g,0,none⟩ vs:=by
 intro i v hv;unfold Blk at h;rw [qH];simp [World.cell?,h,hv]
theorem Blk.cell (h:Blk w g t vs) (i:Nat) {v:Value} (hv:vs[i]?=some v):w.cell? ⟨g,i,none⟩=some v:=by
 have:=h.cells i v hv
 rwa [qH,Nat.zero_add] at this
theorem Blk.sub (h:Blk w g t vs) (i:Nat) (us:List Value) (hu:(vs.drop i).take us.length=us):q6 w ((⟨g,0,none⟩:Addr).add i) us:=by
 refine h.cells.sub i λj v hj=>?_;rw [<-hu] at hj;have hjl:j<us.length:=by
  rcases Nat.lt_or_ge j us.length with h' | h'
  ·exact h'
  ·rw [List.getElem?_eq_none (by simp;omega)] at hj;cases hj
 rw [List.getElem?_take_of_lt hjl,List.getElem?_drop] at hj;exact hj
theorem Blk.frozen (h:Blk w g t vs) (i:Nat):w.frozen? ⟨g,i,none⟩=false:=by
 unfold Blk at h;simp [World.frozen?,h]
theorem Blk.drew (h:Blk w g t vs):Blk w.drew g t vs:=h
theorem Blk.alloc (h:Blk w g t vs) (o:Obj):Blk (w.alloc o) g t vs:=(Below.heap_alloc w o g h.lt).trans h
theorem Blk.below {B:Nat} (h:Blk w g t vs) (hb:Below B w w') (hg:g<B):Blk w' g t vs:=(hb.block g hg).trans h
theorem Blk.ext (h:Blk w g t vs) (hb:Uc w w'):Blk w' g t vs:=h.below hb h.lt
theorem Blk.grown {row:Option Nat} (h:Blk w g t vs) (hb:w.grownBy w' row) (hg:some g≠row):Blk w' g t vs:=(hb.block g h.lt hg).trans h
theorem Blk.set_ (h:Blk w g t vs) (i:Nat) (u:Value):Blk (w.setCell ⟨g,i,none⟩ u) g t (vs.set i u):=by
 unfold Blk at h ⊢;simp [World.setCell,Array.getElem?_modify,h]
end
def putL (vs:List Value) (i:Nat) (us:List Value):List Value:=match us with
 | []=>vs
 | u::r=>putL (vs.set i u) (i+1) r
theorem za1 {g o:Nat} {t:TypeId}:∀(us:List Value) (i:Nat) (w:World) (vs:List Value),Blk w g t vs->Blk (ve w ⟨g,o,none⟩ i us) g t (putL vs (o+i) us):=by
 intro us
 induction us with
 | nil=>intro i w vs h;exact h
 | cons u r ih =>
  intro i w vs h;simp only [ve,putL];rw [qH];have:=ih (i+1) _ _ (h.set_ (o+i) u)
  rwa [<-Nat.add_assoc] at this
theorem zhj {w:World} {g o:Nat} {t:TypeId} {vs us:List Value} (h:Blk w g t vs):Blk (wr w ⟨g,o,none⟩ us) g t (putL vs o us):=by
 have:=za1 (o:=o) us 0 w vs h;simpa [wr] using this
theorem qun {a:Addr}:∀(us:List Value) (i:Nat) (w:World),(ve w a i us).heap.size=w.heap.size/\(∀k,k≠a.block->(ve w a i us).heap[k]?=w.heap[k]?)/\(ve w a i us).tape=w.tape/\(ve w a i us).os=w.os/\(ve w a i us).output=w.output/\(ve w a i us).drawn=w.drawn:=by
 intro us
 induction us with
 | nil=>intro i w;exact ⟨rfl,λ_ _=>rfl,rfl,rfl,rfl,rfl⟩
 | cons u r ih =>
  intro i w;obtain ⟨h1,h2,h3,h4,h5,h6⟩:=ih (i+1) (w.setCell (a.add i) u);refine ⟨by rw [ve,h1];simp,λk hk=>?_,by rw [ve,h3];simp,by rw [ve,h4];rfl,by rw [ve,h5];rfl,by rw [ve,h6];simp⟩;rw [ve,h2 k hk];exact Below.heap_setCell _ _ _ _ (by simpa using hk)
@[simp] theorem size_wr (w:World) (a:Addr) (us:List Value):(wr w a us).heap.size=w.heap.size:=(qun us 0 w).1
theorem q9c (w:World) (a:Addr) (us:List Value):w.grownBy (wr w a us) (some a.block):=by
 obtain ⟨h1,h2,h3,h4,h5,_⟩:=qun (a:=a) us 0 w;exact ⟨h4,h3,h5,by show _<=(ve w a 0 us).heap.size;omega,λk _ hne=>h2 k λe=>hne (by rw [e])⟩
theorem zgo {w:World} {g o:Nat} {t:TypeId} {vs us:List Value} (h:Blk w g t vs) (hl:o+us.length<=vs.length):zgs w ⟨g,o,none⟩ us:=by
 intro i hi;rw [qH];refine ⟨⟨vs[o+i],?_⟩,h.frozen _⟩;exact h.cell (o+i) (List.getElem?_eq_getElem (by omega))
theorem qB {w:World} {g o:Nat} {t:TypeId} {vs us:List Value} {K:Ub} (h:Blk w g t vs) (hl:o+us.length<=vs.length)
  (hK:∀w',Blk w' g t (putL vs o us)->w.grownBy w' (some g)->w'.heap.size=w.heap.size->K w'):stK ⟨g,o,none⟩ us w K :=
 ⟨zgo h hl,hK _ (zhj h) (q9c w ⟨g,o,none⟩ us) (size_wr _ _ _)⟩
theorem nwb {t:TypeId} {vs:List Value} {w:World} {K:Addr->Ub} (hK:∀w',Blk w' w.heap.size t vs->Uc w w'->w'.heap.size=w.heap.size+1->K ⟨w.heap.size,0,none⟩ w'):nw t vs w K :=
 hK _ (Blk.new w t vs) ((Below.refl _ w).alloc (le_refl _) _) (by simp)
theorem zmg {T:Type} {cells:T->List Value} (h:∀x,(cells x).all Value.oneCell'=true):∀x,∀v∈cells x,v.oneCell'=true:=λx v hv=>List.all_eq_true.1 (h x) v hv
structure El (T:Type) where
 cells:T->List Value
 t:TypeId
 k:Nat
 pos:0<k:=by decide
 len:∀x,(cells x).length=k:=by exact λ_=>rfl
 one:∀x,∀v∈cells x,v.oneCell'=true:=by exact zmg λ_=>rfl
def Slc.at_ (s:Slc) (k i:Nat):Addr:=(s.a.getD ⟨0,0,none⟩).add (i*k)
structure Rd {T:Type} (E:El T) (w:World) (s:Slc) (xs:List T):Prop where
 n:s.n=xs.length
 nc:s.n<=s.c
 cm:s.c<=maxLen
 some_:0<xs.length->s.a.isSome=true
 at_:∀(i:Nat) x,xs[i]?=some x->q6 w (s.at_ E.k i) (E.cells x)
theorem Rd.nil {T:Type} (E:El T) (w:World):Rd E w ⟨none,0,0⟩ []:=⟨rfl,le_refl _,by simp [maxLen],λh=>by simp at h,λi x h=>by simp at h⟩
theorem Rd.lt {T:Type} {E:El T} {w:World} {s:Slc} {xs:List T} (h:Rd E w s xs) {i:Nat} (hi:i<xs.length):(s.at_ E.k i).block<w.heap.size :=
 (h.at_ i xs[i] (by simp [hi])).lt (by rw [E.len];exact E.pos)
theorem Rd.keep {T:Type} {E:El T} {w w':World} {s:Slc} {xs:List T} (h:Rd E w s xs) (hk:∀(b:Nat),b<w.heap.size->(∀a,s.a=some a->b=a.block)->w'.heap[b]?=w.heap[b]?):Rd E w' s xs:=by
 refine ⟨h.n,h.nc,h.cm,h.some_,λi x hx=>?_⟩;have hc:=h.at_ i x hx;intro j v hv;have hcell:=hc j v hv;have hlt:=World.block_lt_of_cell? w _ hcell;rw [World.cell?_of_block (w:=w) (hk _ hlt (λa ha=>by simp [Slc.at_,ha]))];exact hcell
theorem Rd.ext {T:Type} {E:El T} {w w':World} {s:Slc} {xs:List T} (h:Rd E w s xs) (hb:Uc w w'):Rd E w' s xs:=h.keep λb hlt _=>hb.block b hlt
theorem Rd.none_nil {T:Type} {E:El T} {w:World} {s:Slc} {xs:List T} (h:Rd E w s xs) (ha:s.a=none):xs=[]:=by
 cases xs with
 | nil=>rfl
 | cons x r=>have:=h.some_ (by simp);rw [ha] at this;cases this
theorem Rd.drew {T:Type} {E:El T} {w:World} {s:Slc} {xs:List T} (h:Rd E w s xs):Rd E w.drew s xs:=h.keep λ_ _ _=>rfl
theorem q32 {s:Slc} {i:Int} {k:Nat} {K:Addr->Prop} (ha:s.a.isSome=true) (h0:0<=i) (h1:i<s.n) (h:K (s.at_ k i.toNat)):ixK s i k K:=by
 obtain ⟨a,e⟩:=isSome_iff_exists.1 ha;unfold ixK;rw [e,onPtr_some];refine ⟨⟨h0,h1⟩,?_⟩;simpa [Slc.at_,e] using h
theorem Rd.ix {T:Type} {E:El T} {w:World} {s:Slc} {xs:List T} (h:Rd E w s xs) {i:Int} {k:Nat} (hk:k=E.k) {K:Addr->Prop} (h0:0<=i) (h1:i<xs.length)
  (hK:q6 w (s.at_ E.k i.toNat) (E.cells (xs[i.toNat]'(by omega)))->K (s.at_ E.k i.toNat)):ixK s i k K:=by
 subst hk;refine q32 (h.some_ (by omega)) h0 (by rw [h.n];exact h1) (hK (h.at_ _ _ ?_));simp
def Zi {T:Type} (E:El T) (xs:List T):List Value:=xs.flatMap E.cells
theorem kO {T:Type} (E:El T) (xs:List T):(Zi E xs).length=xs.length*E.k:=by
 unfold Zi
 induction xs with
 | nil=>simp
 | cons x r ih=>simp [E.len,ih,add_mul,Nat.add_comm]
theorem q72 {T:Type} (E:El T) (xs ys:List T):Zi E (xs++ys)=Zi E xs++Zi E ys:=by simp [Zi]
theorem qq1 {T:Type} (E:El T):∀(xs:List T) (i:Nat) (x:T) (j:Nat) (v:Value),xs[i]?=some x->(E.cells x)[j]?=some v->(Zi E xs)[i*E.k+j]?=some v:=by
 intro xs
 induction xs with
 | nil=>intro i x j v h;simp at h
 | cons y r ih =>
  intro i x j v h hv;have hj:j<E.k:=by rw [<-E.len x];exact (List.getElem?_eq_some_iff.1 hv).1
  have e:Zi E (y::r)=E.cells y++Zi E r:=by simp [Zi]
  rw [e];cases i with
  | zero =>
   simp only [List.getElem?_cons_zero,Option.some.injEq] at h;subst h;rw [Nat.zero_mul,Nat.zero_add,List.getElem?_append_left (by rw [E.len];exact hj)];exact hv
  | succ i =>
   simp only [List.getElem?_cons_succ] at h;rw [List.getElem?_append_right (by rw [E.len,add_mul];omega),E.len];have:(i+1)*E.k+j-E.k=i*E.k+j:=by rw [add_mul];omega
   rw [this];exact ih i x j v h hv
theorem zh2 {T:Type} (E:El T) (xs:List T):∀u∈Zi E xs,u.oneCell'=true:=by
 intro u hu;obtain ⟨x,_,hx⟩:=List.mem_flatMap.1 hu;exact E.one x u hx
def Slc.v (s:Slc):Value:=.slice s.a s.n s.c
def Slc.blk (s:Slc):Option Nat:=s.a.map (·.block)
def Own {T:Type} (E:El T) (w:World) (base:Nat) (s:Slc) (xs:List T):Prop:=w.ownsRow base E.t E.k s.v xs.length (Zi E xs)
theorem qao (s:Slc):s.v.ownBlock=s.blk:=by
 unfold Slc.v Slc.blk;cases s.a<;>rfl
theorem Own.form {T:Type} {E:El T} {w:World} {base:Nat} {s:Slc} {xs:List T} (h:Own E w base s xs) :
  (s=⟨none,0,0⟩/\xs=[])\/∃g cur,s=⟨some ⟨g,0,none⟩,xs.length,s.c⟩/\base<=g/\Blk w g E.t cur/\xs.length<=s.c/\s.c<=maxLen/\cur.length=s.c*E.k/\cur.take (xs.length*E.k)=Zi E xs:=by
 obtain ⟨_,h⟩:=h;obtain ⟨a,n,c⟩:=s;rcases h with ⟨e,hn⟩ | ⟨g,cap,cur,e,hg,hh,h1,h2,h3,h4⟩
 ·injection e with e1 e2 e3
  subst e1;subst e2;subst e3;exact .inl ⟨rfl,List.eq_nil_of_length_eq_zero hn⟩
 ·injection e with e1 e2 e3
  subst e1;subst e2;subst e3;exact .inr ⟨g,cur.toList,rfl,hg,by unfold Blk;simpa using hh,h1,h2,by simpa using h3,h4⟩
theorem Own.of_blk {T:Type} {E:El T} {w:World} {base g c:Nat} {xs:List T} {cur:List Value} (hg:base<=g) (hb:Blk w g E.t cur) (h1:xs.length<=c) (h2:c<=maxLen) (h3:cur.length=c*E.k) (h4:cur.take (xs.length*E.k)=Zi E xs) :
  Own E w base ⟨some ⟨g,0,none⟩,xs.length,c⟩ xs :=
 ⟨kO E xs,.inr ⟨g,c,cur.toArray,rfl,hg,hb,h1,h2,by simpa using h3,by simpa using h4⟩⟩
theorem Own.nil {T:Type} (E:El T) (w:World) (base:Nat):Own E w base ⟨none,0,0⟩ []:=World.ownsRow_nil w base E.t E.k
theorem Own.rd {T:Type} {E:El T} {w:World} {base:Nat} {s:Slc} {xs:List T} (h:Own E w base s xs):Rd E w s xs:=by
 rcases h.form with ⟨rfl,rfl⟩ | ⟨g,cur,hs,hg,hb,h1,h2,h3,h4⟩
 ·exact Rd.nil E w
 ·rw [hs];refine ⟨rfl,h1,h2,λ_=>rfl,λi x hx=>?_⟩;show q6 w ((⟨g,0,none⟩:Addr).add (i*E.k)) _;refine hb.cells.sub _ λj v hv=>?_;have:=qq1 E xs i x j v hx hv;rw [<-h4] at this;rw [List.getElem?_take] at this;split at this
  ·exact this
  ·cases this
theorem Own.base {T:Type} {E:El T} {w:World} {base base':Nat} {s:Slc} {xs:List T} (h:Own E w base s xs) (hb:base'<=base):Own E w base' s xs:=by
 obtain ⟨h0,h⟩:=h;refine ⟨h0,?_⟩;rcases h with h | ⟨g,cap,cur,e,hg,r⟩
 ·exact .inl h
 ·exact .inr ⟨g,cap,cur,e,by omega,r⟩
theorem Own.lt {T:Type} {E:El T} {w:World} {base:Nat} {s:Slc} {xs:List T} (h:Own E w base s xs):∀k,s.blk=some k->base<=k/\k<w.heap.size:=by
 rw [<-qao];exact World.ownsRow.lt h
theorem Own.kept {T:Type} {E:El T} {w w':World} {base:Nat} {s:Slc} {xs:List T} {row:Option Nat} (h:Own E w base s xs) (hg:w.grownBy w' row) (hne:s.blk=none\/s.blk≠row):Own E w' base s xs :=
 World.ownsRow.kept h hg (by rw [qao];exact hne)
theorem Own.ext {T:Type} {E:El T} {w w':World} {base:Nat} {s:Slc} {xs:List T} (h:Own E w base s xs) (hb:Uc w w'):Own E w' base s xs:=by
 obtain ⟨h0,h1⟩:=h;refine ⟨h0,?_⟩;rcases h1 with h1 | ⟨g,cap,cur,e,hg,hh,r⟩
 ·exact .inl h1
 ·refine .inr ⟨g,cap,cur,e,hg,?_,r⟩;have:g<w.heap.size:=by
   rcases Nat.lt_or_ge g w.heap.size with h' | h'
   ·exact h'
   ·rw [Array.getElem?_eq_none h'] at hh;cases hh
  rw [hb.block g this];exact hh
theorem Own.drew {T:Type} {E:El T} {w:World} {base:Nat} {s:Slc} {xs:List T} (h:Own E w base s xs):Own E w.drew base s xs:=h
structure SlT (P:Program) {T:Type} (E:El T) (st:TypeId) where
 ht:P.underlying st=some (.slice E.t):=by kernel_rfl
 i:TypeInfo:=(P.info? E.t).getD default
 hi:P.info? E.t=some i:=by kernel_rfl
 z:Value
 hz:i.zero=some z:=by kernel_rfl
 hs:i.size=E.k:=by kernel_rfl
 hzs:z.cells.size=E.k:=by exact rfl
theorem qo1 {P:Program} {T:Type} {E:El T} {st:TypeId} (TT:SlT P E st) (ty:TypeId) {w:World} {base:Nat} {s:Slc} {xs:List T} (hown:Own E w base s xs) (c:Nat) :
  (append_ #[st,st] ty #[s.v,.slice none 0 c]).run P w=.ok s.v w:=by
 rcases hown.form with ⟨rfl,rfl⟩ | ⟨g,cur,hs,hg,hb,h1,h2,h3,h4⟩
 ·simp [Slc.v,append_,run_underlying TT.ht,sizeOf,typeInfo,TT.hi,Builtin.lenOf,Builtin.firstCells]
 ·rw [hs];simp [Slc.v,append_,run_underlying TT.ht,sizeOf,typeInfo,TT.hi,Builtin.lenOf,Builtin.firstCells,h1,storeCells]
theorem jz {P:Program} {T:Type} {E:El T} {st:TypeId} (TT:SlT P E st) {ty:TypeId} {w:World} {base:Nat} {s x:Slc} {xs ys:List T} {K:Slc->Ub} (hown:Own E w base s xs) (hx:Rd E w x ys)
  (hb:base<=w.heap.size) (hl:(xs.length+ys.length)*TT.i.bytes<=140737488355328) (hm:xs.length+ys.length<=maxLen)
  (hK:∀r w',Own E w' base r (xs++ys)->w.grownBy w' s.blk->(r.blk=s.blk\/r.blk=some w.heap.size)->K r w'):apK P #[st,st] ty s x w K:=by
 cases ha:x.a with
 | none =>
  have hy:=hx.none_nil ha;subst hy;have hn:x.n=0:=by simpa using hx.n
  refine ⟨s,w,?_,hK s w (by simpa using hown) (World.grownBy.refl w _) (.inl rfl)⟩;rw [ha,hn];exact qo1 TT ty hown x.c
 | some a =>
  have hcells:∀(j:Nat) (u:Value),(Zi E ys)[j]?=some u->w.cell? (a.add j)=some u:=by
   intro j u hu;have hj:j<ys.length*E.k:=by rw [<-kO];exact (List.getElem?_eq_some_iff.1 hu).1
   have hk:=E.pos;have hq:j/E.k<ys.length:=(Nat.div_lt_iff_lt_mul hk).2 hj;have hr:j%E.k<E.k:=Nat.mod_lt _ hk;have hxi:ys[j/E.k]?=some ys[j/E.k]:=by simp [hq]
   have hv:(E.cells ys[j/E.k])[j%E.k]?=some ((E.cells ys[j/E.k])[j%E.k]'(by rw [E.len];exact hr)):=List.getElem?_eq_getElem _;have e:j/E.k*E.k+j%E.k=j:=by rw [Nat.mul_comm];exact Nat.div_add_mod j E.k
   have h1:=qq1 E ys _ _ _ _ hxi hv;rw [e,hu] at h1;have h2:=hx.at_ _ _ hxi _ _ hv;rw [<-Option.some.inj h1] at h2;simp only [Slc.at_,ha,getD_some] at h2
   rwa [zR,e] at h2
  obtain ⟨v',w',hrun,h2,h3,_,h5⟩:=run_append_own_at (P:=P) w base st ty E.t TT.i TT.z E.k TT.i.bytes TT.ht TT.hi TT.hz TT.hs rfl TT.hzs E.pos s.v xs.length (Zi E xs) hown a ys.length x.c (Zi E ys) (kO E ys) hcells (zh2 E ys) hm hl hb;have hv':∃r:Slc,v'=r.v:=by
   rcases h2.2 with ⟨e,_⟩ | ⟨g,cap,cur,e,_⟩
   ·exact ⟨⟨none,0,0⟩,e⟩
   ·exact ⟨⟨_,_,_⟩,e⟩
  obtain ⟨r,rfl⟩:=hv';refine ⟨r,w',?_,hK r w' ?_ (by rw [<-qao];exact h3) ?_⟩
  ·rw [ha,hx.n];exact hrun
  ·unfold Own;rw [List.length_append,q72];exact h2
  ·rw [qao,qao] at h5;exact h5
theorem KT:∀(us vs:List Value) (i:Nat),(putL vs i us).length=vs.length:=by
 intro us
 induction us with
 | nil=>intro vs i;rfl
 | cons u r ih=>intro vs i;rw [putL,ih];simp
theorem VE:∀(us vs:List Value) (i m:Nat),i+us.length<=vs.length->(putL vs i us)[m]?=if i<=m/\m<i+us.length then us[m-i]? else vs[m]?:=by
 intro us
 induction us with
 | nil=>intro vs i m _;simp only [putL,List.length_nil,Nat.add_zero];rw [if_neg (by omega)]
 | cons u r ih =>
  intro vs i m hl;simp only [List.length_cons] at hl;rw [putL,ih (vs.set i u) (i+1) m (by simp;omega)];by_cases h1:i+1<=m/\m<i+1+r.length
  ·rw [if_pos h1,if_pos (by simp;omega)];have:m-i=(m-(i+1))+1:=by omega
   rw [this,List.getElem?_cons_succ]
  ·rw [if_neg h1];by_cases h2:m=i
   ·subst h2;rw [if_pos (by simp),List.getElem?_set_self (by omega),Nat.sub_self,List.getElem?_cons_zero]
   ·rw [List.getElem?_set_ne (Ne.symm h2),if_neg (by simp;omega)]
theorem zh7 {T:Type} {E:El T} {xs:List T} {i:Nat} {x y:T} (hx:xs[i]?=some x) {j:Nat} {us cur:List Value} (hj:j+us.length<=E.k) (hy:E.cells y=putL (E.cells x) j us)
  (hc:cur.take (xs.length*E.k)=Zi E xs) (hl:xs.length*E.k<=cur.length):(putL cur (i*E.k+j) us).take (xs.length*E.k)=Zi E (xs.set i y):=by
 have hi:i<xs.length:=(List.getElem?_eq_some_iff.1 hx).1;have hik:i*E.k+E.k<=xs.length*E.k:=by
  have:=Nat.mul_le_mul_right E.k (show i+1<=xs.length from hi);rw [add_mul,Nat.one_mul] at this;exact this
 refine List.ext_getElem? λm=>?_;by_cases hm:m<xs.length*E.k
 ·rw [List.getElem?_take_of_lt hm,VE us cur _ _ (by omega)];have hq:m/E.k<xs.length:=(Nat.div_lt_iff_lt_mul E.pos).2 hm;have hr:m%E.k<E.k:=Nat.mod_lt _ E.pos;have e:m/E.k*E.k+m%E.k=m:=by rw [Nat.mul_comm];exact Nat.div_add_mod m E.k
  have hcur:cur[m]?=(Zi E xs)[m]?:=by rw [<-hc,List.getElem?_take_of_lt hm]
  have key:∀(zs:List T) (z:T),zs[m/E.k]?=some z->(Zi E zs)[m]?=(E.cells z)[m%E.k]?:=by
   intro zs z hz;have hv:(E.cells z)[m%E.k]?=some ((E.cells z)[m%E.k]'(by rw [E.len];exact hr)):=List.getElem?_eq_getElem _;have:=qq1 E zs _ _ _ _ hz hv;rw [e] at this;rw [this,hv]
  by_cases hqi:m/E.k=i
  ·have hy':(xs.set i y)[m/E.k]?=some y:=by rw [hqi,List.getElem?_set_self hi]
   rw [key _ _ hy',hy,VE us (E.cells x) j _ (by rw [E.len];exact hj)];have hx':xs[m/E.k]?=some x:=by rw [hqi];exact hx
   rw [hcur,key _ _ hx'];have e2:m=i*E.k+m%E.k:=by rw [<-hqi];exact e.symm
   generalize m%E.k=r at *;subst e2;by_cases hcase:j<=r/\r<j+us.length
   ·rw [if_pos (by omega),if_pos hcase];congr 1;omega
   ·rw [if_neg (by omega),if_neg hcase]
  ·have hne:(xs.set i y)[m/E.k]?=xs[m/E.k]?:=List.getElem?_set_ne (Ne.symm hqi);have hx':xs[m/E.k]?=some xs[m/E.k]:=by simp [hq]
   rw [key _ _ (hne.trans hx'),hcur,key _ _ hx',if_neg];rintro ⟨h1,h2⟩;refine hqi (Nat.le_antisymm ?_ ?_)
   ·refine Nat.le_of_lt_succ ((Nat.div_lt_iff_lt_mul E.pos).2 ?_);rw [Nat.succ_mul];omega
   ·exact (Nat.le_div_iff_mul_le E.pos).2 (by omega)
 ·rw [List.getElem?_eq_none (by simp;omega),List.getElem?_eq_none (by rw [kO];simp;omega)]
theorem Own.st {T:Type} {E:El T} {w:World} {base:Nat} {s:Slc} {xs:List T} (h:Own E w base s xs) {i:Nat} {x y:T} (hx:xs[i]?=some x) {j:Nat} {us:List Value} (hj:j+us.length<=E.k)
  (hy:E.cells y=putL (E.cells x) j us) {K:Ub} (hK:∀w',Own E w' base s (xs.set i y)->w.grownBy w' s.blk->w'.heap.size=w.heap.size->K w'):stK ((s.at_ E.k i).add j) us w K:=by
 rcases h.form with ⟨rfl,rfl⟩ | ⟨g,cur,hs,hg,hb,h1,h2,h3,h4⟩
 ·simp at hx
 ·have hi:i<xs.length:=(List.getElem?_eq_some_iff.1 hx).1;have hik:i*E.k+E.k<=xs.length*E.k:=by
   have:=Nat.mul_le_mul_right E.k (show i+1<=xs.length from hi);rw [add_mul,Nat.one_mul] at this;exact this
  have hcap:xs.length*E.k<=s.c*E.k:=Nat.mul_le_mul_right _ h1;have ha:(s.at_ E.k i).add j=⟨g,i*E.k+j,none⟩:=by
   rw [hs];show ((⟨g,0,none⟩:Addr).add (i*E.k)).add j=_;rw [zR,qH,Nat.zero_add]
  rw [ha];refine qB hb (by omega) λw' hb' hg' hsz=>hK w' ?_ ?_ hsz
  ·have:=Own.of_blk (E:=E) (xs:=xs.set i y) (c:=s.c) hg hb' (by simpa using h1) h2 (by rw [KT];exact h3) (by rw [List.length_set];exact zh7 hx hj hy h4 (by omega));rw [hs];simpa using this
  ·rw [hs];exact hg'
theorem Own.st0 {T:Type} {E:El T} {w:World} {base:Nat} {s:Slc} {xs:List T} (h:Own E w base s xs) {i:Nat} {x y:T} (hx:xs[i]?=some x) {us:List Value} (hy:E.cells y=us)
  {K:Ub} (hK:∀w',Own E w' base s (xs.set i y)->w.grownBy w' s.blk->w'.heap.size=w.heap.size->K w'):stK (s.at_ E.k i) us w K:=by
 have hl:us.length=E.k:=by rw [<-hy,E.len]
 have hy':E.cells y=putL (E.cells x) 0 us:=by
  refine List.ext_getElem? λm=>?_;rw [VE us _ 0 m (by rw [E.len];omega),hy];by_cases hm:m<us.length
  ·rw [if_pos (by omega)];rfl
  ·rw [if_neg (by omega),List.getElem?_eq_none (by omega),List.getElem?_eq_none (by rw [E.len];omega)]
 have:=h.st hx (j:=0) (by omega) hy' hK
 rwa [add_zero] at this
theorem Ze {T:Type} {E:El T} {w:World} {g:Nat} {y:T} {vs:List Value} (hb:Blk w g E.t vs) (hy:E.cells y=vs):Rd E w ⟨some ⟨g,0,none⟩,1,1⟩ [y]:=by
 refine ⟨rfl,le_refl _,by simp [maxLen],λ_=>rfl,λi x hx=>?_⟩;cases i with
 | zero =>
  simp only [List.getElem?_cons_zero,Option.some.injEq] at hx;subst hx;show q6 w ((⟨g,0,none⟩:Addr).add (0*E.k)) _;rw [Nat.zero_mul,add_zero,hy];exact hb.cells
 | succ i=>simp at hx
theorem YZ {T:Type} {E:El T} {w:World} {g base:Nat} (hb:Blk w g E.t []) (hg:base<=g):Own E w base ⟨some ⟨g,0,none⟩,0,0⟩ [] :=
 Own.of_blk (E:=E) (xs:=[]) (c:=0) hg hb (le_refl _) (by simp [maxLen]) (by simp) (by simp [Zi])
theorem lI {k:IntKind} {a:Addr} {w:World} {K:Int->Prop} {x:Int} (h:w.cell? a=some (.int k x)) (hK:K x):ldI k a w K:=⟨x,h,hK⟩
theorem jw {a:Addr} {w:World} {K:Bool->Prop} {x:Bool} (h:w.cell? a=some (.bool x)) (hK:K x):ldB a w K:=⟨x,h,hK⟩
theorem qqz {a:Addr} {w:World} {K:ByteArray->Prop} {x:ByteArray} (h:w.cell? a=some (.string x)) (hK:K x):qu4 a w K:=⟨x,h,hK⟩
theorem qK {a:Addr} {w:World} {K:Option Addr->Prop} {x:Option Addr} (h:w.cell? a=some (.pointer x)) (hK:K x):ldP a w K:=⟨x,h,hK⟩
theorem lSl {a:Addr} {w:World} {K:Slc->Prop} {x:Slc} (h:w.cell? a=some (.slice x.a x.n x.c)) (hK:K x):zF a w K:=⟨x,h,hK⟩
theorem xP {a:Addr} {w:World} {K:Option Nat->Prop} {x:Option Nat} (h:w.cell? a=some (.map x)) (hK:K x):ldM a w K:=⟨x,h,hK⟩
theorem qy {r:Rep} {a:Addr} {w:World} {K:r.T->Prop} {x:r.T} (h:q6 w a (r.cells x)) (hK:K x):ldS r a w K:=⟨x,h,hK⟩
theorem jd {t:TypeId} {zs vs:List Value} {w:World} {K:Addr->Ub} (hl:zs.length=vs.length)
  (hK:∀w',Blk w' w.heap.size t vs->Uc w w'->w'.heap.size=w.heap.size+1->K ⟨w.heap.size,0,none⟩ w'):nw t zs w λc w3=>stK c vs w3 λw4=>K c w4:=by
 refine nwb λw1 hb1 hB1 hs1=>?_;refine qB hb1 (by omega) λw2 hb2 hg2 hs2=>hK w2 ?_ ?_ (by omega)
 ·have e:putL zs 0 vs=vs:=by
   refine List.ext_getElem? λm=>?_;rw [VE vs zs 0 m (by omega)];by_cases hm:m<vs.length
   ·rw [if_pos (by omega)];rfl
   ·rw [if_neg (by omega),List.getElem?_eq_none (by omega),List.getElem?_eq_none (by omega)]
  rw [e] at hb2;exact hb2
 ·exact hB1.grown hg2 (by omega) λk hk=>by cases hk;exact le_refl _
def mix {α:Type} (ys xs:List α) (k:Nat):List α:=ys.take k++xs.drop k
theorem zi0 {α:Type} (ys xs:List α):mix ys xs 0=xs:=by simp [mix]
theorem zkg {α:Type} {ys xs:List α} (h:ys.length=xs.length):mix ys xs xs.length=ys:=by simp [mix,<-h]
theorem qh6 {α:Type} {ys xs:List α} (h:ys.length=xs.length) (k:Nat):(mix ys xs k).length=xs.length:=by simp [mix];omega
theorem zc5 {α:Type} {ys xs:List α} (h:ys.length=xs.length) {k:Nat} (hk:k<xs.length) (i:Nat):(mix ys xs k)[i]?=if i<k then ys[i]? else xs[i]?:=by
 unfold mix;have hl:(ys.take k).length=k:=by simp;omega
 by_cases hi:i<k
 ·rw [List.getElem?_append_left (by omega),List.getElem?_take_of_lt hi,if_pos hi]
 ·rw [List.getElem?_append_right (by omega),hl,List.getElem?_drop,if_neg hi];congr 1;omega
theorem q5k {α:Type} {ys xs:List α} (h:ys.length=xs.length) {k:Nat} (hk:k<xs.length) {y:α} (hy:ys[k]?=some y):(mix ys xs k).set k y=mix ys xs (k+1):=by
 unfold mix;have hl:(ys.take k).length=k:=by simp;omega
 have hy':ys[k]'(by omega)=y:=by
  rw [List.getElem?_eq_getElem (by omega)] at hy;exact Option.some.inj hy
 rw [List.set_append_right _ _ (by omega),hl,Nat.sub_self,List.drop_eq_getElem_cons hk,List.set_cons_zero,List.take_succ_eq_append_getElem (by omega),hy'];simp
theorem zgm {α:Type} {ys xs:List α} (h:ys.length=xs.length) {k:Nat} (hk:k<xs.length) (he:ys[k]?=xs[k]?):mix ys xs k=mix ys xs (k+1):=by
 have hy:ys[k]?=some (ys[k]'(by omega)):=List.getElem?_eq_getElem _;rw [<-q5k h hk hy];refine (List.ext_getElem? λi=>?_);by_cases hi:i=k
 ·subst hi;rw [List.getElem?_set_self (by rw [qh6 h];exact hk),zc5 h hk,if_neg (by omega),<-he,hy]
 ·rw [List.getElem?_set_ne (Ne.symm hi)]
structure Chg (S:Nat->Prop) (w w':World):Prop where
 os:w'.os=w.os
 tape:w'.tape=w.tape
 output:w'.output=w.output
 size:w.heap.size<=w'.heap.size
 block:∀k,k<w.heap.size->¬S k->w'.heap[k]?=w.heap[k]?
theorem Chg.refl (S:Nat->Prop) (w:World):Chg S w w:=⟨rfl,rfl,rfl,le_refl _,λ_ _ _=>rfl⟩
theorem Chg.trans {S S':Nat->Prop} {a b c:World} (h:Chg S a b) (k:Chg S' b c) (hs:∀i,i<a.heap.size->S' i->S i):Chg S a c :=
 ⟨k.os.trans h.os,k.tape.trans h.tape,k.output.trans h.output,Nat.le_trans h.size k.size,λi hi hn=>(k.block i (Nat.lt_of_lt_of_le hi h.size) (λe=>hn (hs i hi e))).trans (h.block i hi hn)⟩
theorem Chg.mono {S S':Nat->Prop} {a b:World} (h:Chg S a b) (hs:∀i,i<a.heap.size->S i->S' i):Chg S' a b :=
 ⟨h.os,h.tape,h.output,h.size,λi hi hn=>h.block i hi λe=>hn (hs i hi e)⟩
theorem Chg.below {S:Nat->Prop} {B:Nat} {a b:World} (h:Chg S a b) (hB:B<=a.heap.size) (hs:∀i,i<B->¬S i):Below B a b :=
 ⟨h.os,h.tape,h.output,h.size,λk hk=>h.block k (by omega) (hs k hk)⟩
theorem Chg.of_ext {S:Nat->Prop} {a b:World} (h:Uc a b):Chg S a b:=⟨h.os,h.tape,h.output,h.size,λk hk _=>h.block k hk⟩
theorem Chg.of_grown {S:Nat->Prop} {a b:World} {row:Option Nat} (h:a.grownBy b row) (hs:∀k,row=some k->S k):Chg S a b :=
 ⟨h.os,h.tape,h.output,h.size,λk hk hn=>h.block k hk λe=>hn (hs k e.symm)⟩
theorem Chg.ext {a b:World} {S:Nat->Prop} (h:Chg S a b) (hs:∀i,i<a.heap.size->¬S i):Uc a b:=⟨h.os,h.tape,h.output,h.size,λk hk=>h.block k hk (hs k hk)⟩
theorem Blk.chg {S:Nat->Prop} {w w':World} {g:Nat} {t:TypeId} {vs:List Value} (h:Blk w g t vs) (hc:Chg S w w') (hg:¬S g):Blk w' g t vs:=(hc.block g h.lt hg).trans h
theorem Own.chg {T:Type} {E:El T} {S:Nat->Prop} {w w':World} {base:Nat} {s:Slc} {xs:List T} (h:Own E w base s xs) (hc:Chg S w w') (hg:∀g,s.blk=some g->¬S g):Own E w' base s xs:=by
 rcases h.form with ⟨rfl,rfl⟩ | ⟨g,cur,hs,hb,hblk,h1,h2,h3,h4⟩
 ·exact Own.nil _ _ _
 ·rw [hs];exact Own.of_blk hb (hblk.chg hc (hg g (by rw [hs];rfl))) h1 h2 h3 h4
theorem Rd.chg {T:Type} {E:El T} {S:Nat->Prop} {w w':World} {s:Slc} {xs:List T} (h:Rd E w s xs) (hc:Chg S w w') (hg:∀a,s.a=some a->¬S a.block):Rd E w' s xs:=by
 refine ⟨h.n,h.nc,h.cm,h.some_,λi x hx=>?_⟩;have hi:i<xs.length:=(List.getElem?_eq_some_iff.1 hx).1;obtain ⟨a,ha⟩:=isSome_iff_exists.1 (h.some_ (by omega));have hcell:=h.at_ i x hx;intro j v hv;have hc1:=hcell j v hv;have hlt:=World.block_lt_of_cell? w _ hc1;rw [World.cell?_of_block (w:=w) (hc.block _ hlt (by simpa [Slc.at_,ha] using hg a ha))];exact hc1
theorem Own.blk_t {T:Type} {E:El T} {w:World} {base:Nat} {s:Slc} {xs:List T} (h:Own E w base s xs) {g:Nat} (hg:s.blk=some g):∃cs,Blk w g E.t cs:=by
 rcases h.form with ⟨rfl,rfl⟩ | ⟨g',cur,hs,hb,hblk,h1,h2,h3,h4⟩
 ·cases hg
 ·rw [hs] at hg;cases hg;exact ⟨_,hblk⟩
theorem Blk.ne_t {w:World} {g g':Nat} {t t':TypeId} {cs cs':List Value} (h:Blk w g t cs) (h':Blk w g' t' cs') (hne:t≠t'):g≠g':=by
 rintro rfl;unfold Blk at h h';rw [h] at h';injection h' with h'
 injection h' with _ ht
 exact hne ht
def u8 (x:Int):UInt8:=UInt8.ofNat x.toNat
theorem qzy {x:Int} (h0:0<=x) (h1:x<256):((u8 x).toNat:Int)=x:=by
 unfold u8;rw [UInt8.toNat_ofNat'];omega
theorem zil (x:Int):IntKind.u8.wrap x=((u8 (x%256)).toNat:Int):=by
 rw [qzy (by omega) (by omega),IntKind.wrap_u8]
theorem qQ {x:Int} (h:-9223372036854775808<=x/\x<=9223372036854775807):i64.wrap x=x:=by
 have:=IntWalk.i64_in x h;exact this
theorem Qd {y d:Nat} {K:Nat->Prop} (h:K d):bnd none y d K:=h
theorem vA {i:Int} {y d:Nat} {K:Nat->Prop} (h0:0<=i) (h1:i<=y) (h:K i.toNat):bnd (some i) y d K:=⟨⟨h0,h1⟩,h⟩
theorem Rd.part {T:Type} {E:El T} {w:World} {s:Slc} {xs:List T} (h:Rd E w s xs) {l m:Nat} (hl:l<=m) (hm:m<=xs.length) :
  Rd E w ⟨cut s.a l s.c E.k,m-l,s.c-l⟩ ((xs.take m).drop l):=by
 have hn:=h.n;have hnc:=h.nc;have hcm:=h.cm;have hlen:((xs.take m).drop l).length=m-l:=by simp;omega
 refine ⟨hlen.symm,by show m-l<=s.c-l;omega,by show s.c-l<=maxLen;omega,λhp=>?_,λi x hx=>?_⟩
 ·rw [hlen] at hp;obtain ⟨a,ha⟩:=isSome_iff_exists.1 (h.some_ (by omega));show (cut s.a l s.c E.k).isSome=true;unfold cut;rw [ha];split<;>rfl
 ·have hi:i<m-l:=by rw [<-hlen];exact (List.getElem?_eq_some_iff.1 hx).1
  rw [List.getElem?_drop,List.getElem?_take_of_lt (by omega)] at hx;have hc:=h.at_ _ _ hx;obtain ⟨a,ha⟩:=isSome_iff_exists.1 (h.some_ (by omega));have e:(⟨cut s.a l s.c E.k,m-l,s.c-l⟩:Slc).at_ E.k i=s.at_ E.k (l+i):=by
   unfold Slc.at_ cut;rw [ha,if_neg (by omega)];simp only [Option.map_some,getD_some];rw [zR,add_mul]
  rw [e];exact hc
theorem Rd.slK {T:Type} {E:El T} {w:World} {s:Slc} {xs:List T} (h:Rd E w s xs) {lo hi:Option Int} {k:Nat} (hk:k=E.k) {l m:Nat} {K:Slc->Prop} (hlo:lo=none/\l=0\/lo=some (l:Int)) (hhi:hi=none/\m=xs.length\/hi=some (m:Int))
  (hl:l<=m) (hm:m<=xs.length) (hK:Rd E w ⟨cut s.a l s.c E.k,m-l,s.c-l⟩ ((xs.take m).drop l)->K ⟨cut s.a l s.c E.k,m-l,s.c-l⟩):slK s lo hi k K:=by
 subst hk;have hn:=h.n;have hnc:=h.nc;have key:K ⟨cut s.a l s.c E.k,m-l,s.c-l⟩:=hK (h.part hl hm);unfold Vc.slK;have inner:bnd lo m 0 λl'=>K ⟨cut s.a l' s.c E.k,m-l',s.c-l'⟩:=by
  rcases hlo with ⟨rfl,rfl⟩ | rfl
  ·exact Qd key
  ·exact vA (by omega) (by omega) (by simpa using key)
 rcases hhi with ⟨rfl,rfl⟩ | rfl
 ·refine Qd ?_;rw [hn];exact inner
 ·exact vA (by omega) (by omega) (by simpa using inner)
theorem qvv {P:Program} {T:Type} {E:El T} {st it:TypeId} {kk:IntKind} (TT:SlT P E st) (ty:TypeId) (hit:P.underlying it=some (.int kk)) (w:World) (n:Nat) (h0:0<n) (h63:n<=maxLen) (h48:n*TT.i.bytes<=140737488355328) :
  (append_ #[st,it] ty #[.slice none 0 0,.int .i64 n]).run P w =
   .ok (.slice (some ⟨w.heap.size,0,none⟩) n (grownCap w n 0 E.t)) (w.drew.alloc (.cells (Builtin.zeroCells TT.z.cells n++Builtin.zeroCells TT.z.cells (grownCap w n 0 E.t-n)) E.t)):=by
 have hn:n≠0:=by omega
 have hw:i64.wrap (n:Int)=n:=qQ (by simp only [maxLen] at h63;omega);have hb:¬(281474976710656<(n:Int)*(TT.i.bytes:Int)):=by
  rw [show (n:Int)*(TT.i.bytes:Int)=((n*TT.i.bytes:Nat):Int) by simp];omega
 have h63':¬(9223372036854775807<(n:Int)):=by simp only [maxLen] at h63;omega
 have h48':¬(281474976710656<Builtin.nextslicecap n 0*TT.i.bytes):=by rw [nextslicecap_zero h0];omega
 have hk:=E.pos;have hs:¬(TT.i.size=0):=by rw [TT.hs];omega
 have hneg:¬((n:Int)<0):=by omega
 have hai:(asIntOf (Ua (n:Int))).run P w=.ok (.i64,(n:Int)) w:=rfl;simp [append_,run_underlying TT.ht,run_underlying hit,sizeOf,typeInfo,zeroValue,TT.hi,TT.hz,asInt,hai,hw,hb,hn,h63',h48',hneg,Question.forced,run_firstCells_none,newRow,grownCap];intro e;have:0<n*TT.i.size:=Nat.mul_pos h0 (by omega);omega
theorem q4x {P:Program} {T:Type} {E:El T} {st it:TypeId} {kk:IntKind} (TT:SlT P E st) {ty:TypeId} (hit:P.underlying it=some (.int kk)) {w:World} {n:Nat} {m:Int} {K:Slc->Ub} (hm:m=n) (h0:0<n) (h63:n<=maxLen) (h48:n*TT.i.bytes<=140737488355328)
  (hK:∀cap w',n<=cap->cap<=maxLen->Own E w' w.heap.size ⟨some ⟨w.heap.size,0,none⟩,0,cap⟩ []->Uc w w'->K ⟨some ⟨w.heap.size,0,none⟩,n,cap⟩ w'):apM P #[st,it] ty ⟨none,0,0⟩ m .i64 w K:=by
 subst hm;refine ⟨⟨some ⟨w.heap.size,0,none⟩,n,grownCap w n 0 E.t⟩,_,qvv TT ty hit w n h0 h63 h48,hK _ _ (grownCap_ge w n 0 E.t) (grownCap_le_maxLen w n 0 E.t h63) ?_ ?_⟩
 ·have hge:=grownCap_ge w n 0 E.t;generalize hA:Builtin.zeroCells TT.z.cells n++Builtin.zeroCells TT.z.cells (grownCap w n 0 E.t-n)=A;have hsz:A.size=grownCap w n 0 E.t*E.k:=by
   rw [<-hA];simp only [Array.size_append,size_zeroCells,TT.hzs,<-add_mul];congr 1;omega
  refine Own.of_blk (E:=E) (xs:=[]) (cur:=A.toList) (le_refl _) ?_ (Nat.zero_le _) (grownCap_le_maxLen w n 0 E.t h63) ?_ (by simp [Zi])
  ·have:=Blk.new w.drew E.t A.toList
   rwa [Array.toArray_toList] at this
  ·rw [Array.length_toList];exact hsz
 ·exact (Below.refl _ w).drew.alloc (le_refl _) _
end Go.Vc
namespace Go.Vc
open Go.ChangeShapes Go.WideShapes Go.ChangeAt Go.RowKit Go.Deep
inductive Leaf where
 | int (k:IntKind)
 | bool
 | str
def Leaf.ok:Leaf->Value->Prop
 | .int k,v=>∃z,v=.int k z/\(Lit.int k z).wf=true
 | .bool,v=>∃b,v=.bool b
 | .str,v=>∃s,v=.string s
def goF (P:Program) (g:TypeId->Option (List Leaf)):List Field->Nat->Option (List Leaf)
 | [],_=>some []
 | f::r,off =>
  match g f.type with
  | some ls=>if f.offset=off/\P.cellsOf f.type=ls.length then (goF P g r (off+ls.length)).map (ls++·) else none
  | none=>none
def qsj (P:Program):Nat->TypeId->Option (List Leaf)
 | 0,_=>none
 | n+1,t =>
  match P.underlying t with
  | some (.int k)=>some [.int k]
  | some .bool=>some [.bool]
  | some .string=>some [.str]
  | some (.struct fs)=>goF P (qsj P n) fs.toList 0
  | _=>none
def qqs (ls:List Leaf) (cs:List Value):Prop:=∀(j:Nat) l,ls[j]?=some l->∃v,cs[j]?=some v/\l.ok v
theorem q59 {P:Program} {g:TypeId->Option (List Leaf)} {cs:List Value}:∀(fs:List Field) (off:Nat) (ls:List Leaf),goF P g fs off=some ls ->
  (∀f∈fs,∀lf,g f.type=some lf->P.cellsOf f.type=lf.length->qqs lf ((cs.drop f.offset).take (P.cellsOf f.type)))->∀(j:Nat) l,ls[j]?=some l->∃v,cs[off+j]?=some v/\l.ok v
 | [],_,ls,h,_,j,l,hl=>by
  simp only [goF,Option.some.injEq] at h;subst h;simp at hl
 | f::r,off,ls,h,hf,j,l,hl=>by
  unfold goF at h;split at h
  ·rename_i lf hg;split at h
   ·rename_i hc;obtain ⟨rest,hr,e⟩:=Option.map_eq_some_iff.1 h;subst e;rcases Nat.lt_or_ge j lf.length with hj | hj
    ·rw [List.getElem?_append_left hj] at hl;obtain ⟨v,hv,ok⟩:=hf f (by simp) lf hg hc.2 j l hl;rw [hc.2,List.getElem?_take_of_lt hj,List.getElem?_drop,hc.1] at hv;exact ⟨v,hv,ok⟩
    ·rw [List.getElem?_append_right hj] at hl;obtain ⟨v,hv,ok⟩:=q59 r (off+lf.length) rest hr (λf' hf'=>hf f' (by simp [hf'])) _ l hl;exact ⟨v,by rw [<-hv];congr 1;omega,ok⟩
   ·cases h
  ·cases h
section
variable {H:Type} {enc:TypeId×Value->H} {P:Program} {w:World} {base:Nat} {spare:Nat->Bool} {held:Bool}
theorem q3k:∀(n:Nat) {t:TypeId} {ls:List Leaf} {fuel:Nat} {cs:List Value} {x:DataW H×List MemPlace},qsj P n t=some ls->DataW.trod enc P w base spare held fuel t cs=some x->qqs ls cs
 | 0,_,_,_,_,_,h,_=>by cases h
 | n+1,t,ls,fuel,cs,x,h,ht=>by
  unfold qsj at h;split at h
  ·next k hu =>
   cases h;obtain ⟨z,rfl,_,hw⟩:=DataW.trod_int hu ht;intro j l hl
   match j,hl with
   | 0,hl=>cases hl;exact ⟨_,rfl,z,rfl,hw⟩
   | j+1,hl=>cases hl
  ·next hu =>
   cases h;obtain ⟨z,rfl,_⟩:=DataW.trod_bool hu ht;intro j l hl
   match j,hl with
   | 0,hl=>cases hl;exact ⟨_,rfl,z,rfl⟩
   | j+1,hl=>cases hl
  ·next hu =>
   cases h;obtain ⟨z,rfl,_⟩:=DataW.trod_string hu ht;intro j l hl
   match j,hl with
   | 0,hl=>cases hl;exact ⟨_,rfl,z,rfl⟩
   | j+1,hl=>cases hl
  ·next fs hu =>
   obtain ⟨xs,m,_,_,_,hxl,hf⟩:=DataW.trod_struct hu ht;intro j l hl;have:=q59 (cs:=cs) fs.toList 0 ls h (λf hfm lf hg _=>by
    obtain ⟨i,hi⟩:=List.getElem?_of_mem hfm;rw [Array.getElem?_toList] at hi;have h1:=hf i f hi;have hil:i<xs.length:=by rw [hxl];exact (Array.getElem?_eq_some_iff.1 hi).1
    rw [List.getElem?_eq_getElem hil] at h1;exact q3k n hg h1) j l hl
   simpa using this
  ·cases h
theorem q9e {T:Type} (E:El T) (Q:T->Prop) {r:Reach} {b0 n:Nat} {t:TypeId} {fs:Array Field} {ls:List Leaf} {v:Value} {d:DataW H} {p:List MemPlace} (ht:P.underlying t=some (.struct fs)) (hC:P.cellsOf t=E.k) (hls:qsj P n t=some ls)
  (mk:∀vs:List Value,vs.length=E.k->qqs ls vs->∃x:T,E.cells x=vs/\Q x) (hv:Value.okWide P w r b0 t v) (h:DataW.Trod enc P w base spare held t v d p):∃x:T,v=.agg (E.cells x).toArray/\Q x:=by
 obtain ⟨cs,rfl,hsz⟩:=okWide_struct ht hv;obtain ⟨fuel,hf⟩:=h;obtain ⟨x,hx,hq⟩:=mk cs.toList (by simpa [hC] using hsz) (q3k n hls (by simpa [Value.cells] using hf));exact ⟨x,by rw [hx],hq⟩
end
theorem qom {H:Type} {enc:TypeId×Value->H} {P:Program} (hl:laidOutB P=true) {W W':World} (hb:Uc W W'):∀(ts:List TypeId) {vs:List Value} {ds:List (DataW H)} {ps:List MemPlace},
  ts.all (λt=>P.readableRec t && decide (t<P.types.size))=true->DataW.TrodAll enc P W 0 (λ_=>true) true ts vs ds ps->(∀x∈ps,x.block<W.heap.size)->DataW.TrodAll enc P W' 0 (λb=>decide (b<W.heap.size)) true ts vs ds ps
 | [],vs,ds,ps,_,h,_=>by
  obtain ⟨rfl,rfl,rfl⟩:=trodAll_nil h;exact trodAll_mk0
 | t::ts,vs,ds,ps,hr,h,hlt=>by
  obtain ⟨v,vs',d,ds',p,q,rfl,rfl,rfl,h0,h1⟩:=trodAll_cons h;simp only [List.all_cons,Bool.and_eq_true,decide_eq_true_eq] at hr;exact trodAll_cons_mk (Below.trod hl hr.1.1 hr.1.2 h0 hb λx hx=>hlt x (List.mem_append.2 (.inl hx))) (qom hl hb ts (by simpa using hr.2) h1 λx hx=>hlt x (List.mem_append.2 (.inr hx)))
theorem zgn {H:Type} {enc:TypeId×Value->H} {P:Program} {f:Func} {s:ChangeSpec} {W W':World} {args:Array Value} {ds gs:List (DataW H)} {before:List MemPlace} {tb:TypeId} (hl:laidOutB P=true) (hrt:f.resultTypes=#[tb]) (htb:P.underlying tb=some .bool)
  (hr:f.params.toList.all (λt=>P.readableRec t && decide (t<P.types.size))=true) (hv:s.vars=[]) (hfn:s.fn H (ds++[])={ results:=[.lit (.bool true)],args:=ds }) (hW:DataW.Whole enc P f.params.toList s.vars false W args.toList ds gs before)
  (hb:Uc W W'):s.post enc P f false true false false W args (.bool true) W':=by
 have hW':=hW;have hlt:=hW.lt;obtain ⟨p,q,hA0,hV,rfl,hfz,hnd⟩:=hW;rw [hv] at hV;obtain ⟨rfl,rfl⟩:=trodVars_none hV;refine ⟨ds,[],p++[],[],p,[],hW',?_,?_,?_,hb.frame _,λh=>by cases h⟩
 ·rw [hrt,hfn];exact trodAll_mk1 (shut_bool htb _)
 ·rw [hfn];exact qom hl hb _ hr hA0 λx hx=>hlt x (by simpa using hx)
 ·rw [hfn,hv];exact rfl
end Go.Vc
namespace Go.Vc
open Go.RowKit
open _root_.Nat (le_refl)
theorem get_of {α:Type} {xs:List α} {k:Nat} (hk:k<xs.length):∃x,xs[k]?=some x/\∀h,xs[((k:Int)).toNat]'h=x:=⟨xs[k],List.getElem?_eq_getElem hk,λ_=>rfl⟩
theorem cut_block {x:Option Addr} {l m k:Nat} {a:Addr} (h:cut x l m k=some a):∃b,x=some b/\a.block=b.block:=by
 unfold cut at h;split at h
 ·exact ⟨a,h,rfl⟩
 ·obtain ⟨b,hb,rfl⟩:=Option.map_eq_some_iff.1 h;exact ⟨b,hb,by simp⟩
theorem slk {s:Slc} {k:Nat}:s.blk=some k↔∃a,s.a=some a/\a.block=k:=by
 unfold Slc.blk;rw [Option.map_eq_some_iff]
theorem callR_plain {C:Cx} {g:Nat} {first cap:Array Value} {args:List Value} {ks:List Kind} {w:World} {K:Cur ks} (hp:C.plain g=true) (h:qj C.P g (first.toList++args++cap.toList) ks w K) :
  jm C (.func (.func g) first cap) args ks w K:=by
 unfold jm qmj;simp only [hp];exact h
theorem rd_lits {T:Type} {E:El T} {w:World} {g:Nat} {ys:List T} {vs:List Value} (hb:Blk w g E.t vs) (hm:ys.length<=maxLen) (hy:Zi E ys=vs):Rd E w ⟨some ⟨g,0,none⟩,ys.length,ys.length⟩ ys :=
 (Own.of_blk (E:=E) (xs:=ys) (c:=ys.length) (base:=g) (le_refl _) hb (le_refl _) hm (by rw [<-hy,kO]) (by rw [<-hy,List.take_of_length_le (by rw [kO];exact le_refl _)])).rd
theorem Chg.gg {w1 w2:World} {k:Nat} (h:w1.grownBy w2 (some k)):Chg (λi=>i=k) w1 w2:=Chg.of_grown h λi hi=>by cases hi;rfl
theorem Rd.slK3 {T:Type} {E:El T} {w:World} {s:Slc} {xs:List T} (h:Rd E w s xs) {lo:Option Int} {hi mx:Int} {k:Nat} (hk:k=E.k) {l m:Nat} {K:Slc->Prop} (hlo:lo=none/\l=0\/lo=some (l:Int)) (hhi:hi=(m:Int)) (hmx:mx=(m:Int))
  (hl:l<=m) (hm:m<=xs.length) (hK:Rd E w ⟨cut s.a l m E.k,m-l,m-l⟩ ((xs.take m).drop l)->K ⟨cut s.a l m E.k,m-l,m-l⟩):slK3 s lo hi mx k K:=by
 subst hk hhi hmx;have hn:=h.n;have hnc:=h.nc;have hcm:=h.cm;have hlen:((xs.take m).drop l).length=m-l:=by simp;omega
 have key:Rd E w ⟨cut s.a l m E.k,m-l,m-l⟩ ((xs.take m).drop l):=by
  refine ⟨hlen.symm,le_refl _,by show m-l<=maxLen;omega,λhp=>?_,λi x hx=>?_⟩
  ·rw [hlen] at hp;obtain ⟨a,ha⟩:=Option.isSome_iff_exists.1 (h.some_ (by omega));show (cut s.a l m E.k).isSome=true;unfold cut;rw [ha];split<;>rfl
  ·have hi:i<m-l:=by rw [<-hlen];exact (List.getElem?_eq_some_iff.1 hx).1
   rw [List.getElem?_drop,List.getElem?_take_of_lt (by omega)] at hx;have hc:=h.at_ _ _ hx;obtain ⟨a,ha⟩:=Option.isSome_iff_exists.1 (h.some_ (by omega));have e:(⟨cut s.a l m E.k,m-l,m-l⟩:Slc).at_ E.k i=s.at_ E.k (l+i):=by
    unfold Slc.at_ cut;rw [ha,if_neg (by omega)];simp only [Option.map_some,Option.getD_some];rw [zR,Nat.add_mul]
   rw [e];exact hc
 unfold Vc.slK3;refine vA (by omega) (by omega) ?_;refine vA (by omega) (by simp) ?_;have hk':=hK key;rcases hlo with ⟨rfl,rfl⟩ | rfl
 ·exact Qd (by simpa using hk')
 ·exact vA (by omega) (by simp;omega) (by simpa using hk')
theorem qqc {T:Type} (E:El T) (x:T) (n m:Nat) (hm:m<n*E.k):(Zi E (List.replicate n x))[m]?=(E.cells x)[m%E.k]?:=by
 have hq:m/E.k<n:=(Nat.div_lt_iff_lt_mul E.pos).2 hm;have hr:m%E.k<E.k:=Nat.mod_lt _ E.pos;have e:m/E.k*E.k+m%E.k=m:=by rw [Nat.mul_comm];exact Nat.div_add_mod m E.k
 have hv:(E.cells x)[m%E.k]?=some ((E.cells x)[m%E.k]'(by rw [E.len];exact hr)):=List.getElem?_eq_getElem _;have:=qq1 E (List.replicate n x) (m/E.k) x (m%E.k) _ (by rw [List.getElem?_replicate,if_pos hq]) hv;rw [e] at this;rw [this,hv]
theorem q5d {P:Program} {T:Type} {E:El T} {st:TypeId} (TT:SlT P E st) {x0:T} (hz:(E.cells x0).toArray=TT.z.cells) {kl kc:IntKind} {l c:Int} {n:Nat} (hl:l=n) (hc:c=n) (hb:TT.i.bytes*n<=281474976710656) (hm:n<=maxLen) {w:World} {K:Slc->Ub}
  (hK:∀w',Own E w' w.heap.size ⟨some ⟨w.heap.size,0,none⟩,n,n⟩ (List.replicate n x0)->Uc w w'->K ⟨some ⟨w.heap.size,0,none⟩,n,n⟩ w'):zeh P st (.int kl l) (.int kc c) w K:=by
 subst hl hc;obtain ⟨w',h1,h2,h3⟩:=run_make_full (P:=P) w w.heap.size st E.t TT.i TT.z E.k TT.ht TT.hi TT.hz TT.hs kl kc n hb hm (le_refl _);refine ⟨_,w',h1,hK w' ?_ ⟨h3.os,h3.tape,h3.output,h3.size,λk hk=>h3.block k hk (by simp)⟩⟩;unfold Own;rw [List.length_replicate];have e:Zi E (List.replicate n x0)=(madeCells TT.z.cells (n*E.k)).toList:=by
  refine List.ext_getElem? λm=>?_;by_cases hmm:m<n*E.k
  ·rw [qqc E x0 n m hmm];have hsz:TT.z.cells.size=E.k:=TT.hzs;have hr:m%E.k<E.k:=Nat.mod_lt _ E.pos;have h2:(E.cells x0)[m%E.k]?=TT.z.cells[m%E.k]?:=by rw [<-hz];simp
   rw [h2,Array.getElem?_toList];simp [madeCells,hmm,hsz,hr]
  ·rw [List.getElem?_eq_none (by rw [kO,List.length_replicate];omega),List.getElem?_eq_none (by simp [size_madeCells];omega)]
 rw [e];exact h2
theorem qmr (n x:Nat):BitVec.ofInt n (x:Int)=BitVec.ofNat n x:=by
 apply BitVec.eq_of_toNat_eq;simp
def q5z:IntKind->Nat
 | .i8=>7 | .i16=>15 | .i32=>31 | .i64=>63 | .u8=>8 | .u16=>16 | .u32=>32 | .u64=>64
theorem xk (k:IntKind) {x:Nat} (h:x<2^q5z k):k.wrap (x:Int)=x:=by
 cases k<;>simp only [q5z] at h
 ·exact IntWalk.i8_in _ (by omega)
 ·exact IntWalk.i16_in _ (by omega)
 ·exact IntWalk.i32_in _ (by omega)
 ·exact IntWalk.i64_in _ (by omega)
 ·exact IntWalk.u8_in _ (by omega)
 ·exact IntWalk.u16_in _ (by omega)
 ·exact IntWalk.u32_in _ (by omega)
 ·exact IntWalk.u64_in _ (by omega)
theorem zj3 (k:IntKind):q5z k<=k.bits:=by cases k<;>decide
theorem qq8 (k:IntKind) {x:Nat} (h:x<2^q5z k):x%2^k.bits=x:=Nat.mod_eq_of_lt (Nat.lt_of_lt_of_le h (Nat.pow_le_pow_right (by decide) (zj3 k)))
theorem zc1 (k:IntKind) {a b:Nat} (ha:a<2^q5z k) (hb:b<2^q5z k):jZ .or k (a:Int) (b:Int)=((a ||| b:Nat):Int):=by
 show k.wrap ((BitVec.ofInt k.bits (a:Int) ||| BitVec.ofInt k.bits (b:Int)).toNat:Int)=_;rw [qmr,qmr,BitVec.toNat_or,BitVec.toNat_ofNat,BitVec.toNat_ofNat,qq8 k ha,qq8 k hb];exact xk k (Nat.or_lt_two_pow ha hb)
theorem zhl (k:IntKind) {a b:Nat} (ha:a<2^q5z k) (hb:b<2^q5z k):jZ .and k (a:Int) (b:Int)=((a &&& b:Nat):Int):=by
 show k.wrap ((BitVec.ofInt k.bits (a:Int) &&& BitVec.ofInt k.bits (b:Int)).toNat:Int)=_;rw [qmr,qmr,BitVec.toNat_and,BitVec.toNat_ofNat,BitVec.toNat_ofNat,qq8 k ha,qq8 k hb];exact xk k (Nat.and_lt_two_pow _ hb)
theorem q75 (a k:Nat):(a:Int).fdiv (2^k)=((a/2^k:Nat):Int):=by
 have e:((2:Int)^k)=((2^k:Nat):Int):=by simp
 rw [e,Int.fdiv_eq_ediv_of_nonneg _ (Int.natCast_nonneg _)];rfl
theorem qkt (a k:Nat):(a:Int)*2^k=((a*2^k:Nat):Int):=by simp
theorem zm2 {a b i:Nat} (h:b<2^i):b ||| 2^i*a=b+2^i*a:=by
 rw [Nat.or_comm,<-Nat.two_pow_add_eq_or_of_lt h,Nat.add_comm]
def le:List UInt8->Nat
 | []=>0
 | b::r=>b.toNat+256*le r
theorem zk7 {w:World} {a:Addr} {b:UInt8} {K:Int->Prop} (h:q6 w a [.int .u8 (b.toNat:Int)]) (hK:K (b.toNat:Int)):ldI .u8 a w K:=lI (x:=(b.toNat:Int)) (by simpa using h 0 _ rfl) hK
end Go.Vc
set_option maxRecDepth 100000
namespace Go.Proofs.YtlmpnfhmpjldaaaGreatDoor
open Go.Vc Go.RowKit
open IntKind (i64)
def qu:El UInt8:={ cells:=λb=>[.int .u8 b.toNat],t:=za,k:=1 }
noncomputable def zh:SlT PG qu qm:={ z:=(.int .u8 0) }
theorem xX:zh.i.bytes=1:=by kernel_rfl
def q63:El Slc:={ cells:=λx=>[(.slice x.a x.n x.c)],t:=zr,k:=1 }
noncomputable def zgi:SlT PG q63 qZ:={ z:=(.slice none 0 0) }
def zm5:El qP:={ cells:=qP.rep.cells,t:=qR,k:=5 }
def jG:El Int:={ cells:=λx=>[(Ua x)],t:=zz,k:=1 }
noncomputable def qew:SlT PG jG xf:={ z:=(Ua 0) }
theorem qmi:qew.i.bytes=8:=by kernel_rfl
def qS:El qf:={ cells:=qf.rep.cells,t:=qL,k:=14 }
noncomputable def j6:SlT PG qS zk:={ z:=(.agg #[(Ua 0),(Ua 0),(.bool false),(Ua 0),(Ua 0),(Ua 0),(Ua 0),(Ua 0),(Ua 0),(Ua 0),(Ua 0),(Ua 0),(Ua 0),(Ua 0)]) }
theorem yK:j6.i.bytes=112:=by kernel_rfl
def qnp:El zZ:={ cells:=zZ.rep.cells,t:=qlu,k:=5 }
def q5f:El Int:={ cells:=λx=>[(.int .i32 x)],t:=yk,k:=1 }
def zan:El Bool:={ cells:=λx=>[(.bool x)],t:=qce,k:=1 }
noncomputable def qwz:SlT PG zan vb:={ z:=(.bool false) }
theorem q9g:qwz.i.bytes=1:=by kernel_rfl
def vZ:El Slc:={ cells:=λx=>[(.slice x.a x.n x.c)],t:=qm,k:=1 }
noncomputable def qkl:SlT PG vZ Xc:={ z:=(.slice none 0 0) }
theorem qw8:qkl.i.bytes=24:=by kernel_rfl
def ki:El ByteArray:={ cells:=λx=>[(.string x)],t:=zC,k:=1 }
noncomputable def qgh:SlT PG ki kW:={ z:=(.string (⟨#[]⟩:ByteArray)) }
theorem qqy:qgh.i.bytes=16:=by kernel_rfl
theorem apB {w:World} {b:Nat} {s x:Slc} {xs ys:List UInt8} {K:Slc->Ub} (hown:Go.Vc.Own qu w b s xs) (hx:Rd qu w x ys) (hb:b<=w.heap.size) (hl:xs.length+ys.length<=1000000000000)
  (hK:∀r w',Go.Vc.Own qu w' b r (xs++ys)->Chg (λk=>s.blk=some k) w w'->(r.blk=s.blk\/r.blk=some w.heap.size)->K r w'):apK PG #[qm,qm] qm s x w K :=
 jz zh hown hx hb (by rw [xX];omega) (by simp only [maxLen];omega) λr w' h1 h2 h3=>hK r w' h1 (Chg.of_grown h2 λk hk=>hk) h3
theorem zm3 {w:World} {b:Nat} {s:Slc} {xs:List UInt8} {c:UInt8} {v:Int} {K:Slc->Ub} (hv:v=(c.toNat:Int)) (hown:Go.Vc.Own qu w b s xs) (hb:b<=w.heap.size) (hl:xs.length<=900000000000)
  (hK:∀r w',Go.Vc.Own qu w' b r (xs++[c])->Chg (λk=>s.blk=some k) w w'->(r.blk=s.blk\/∃k,r.blk=some k/\w.heap.size<=k)->K r w') :
  nw za [(.int .u8 v)] w λt w1=>apK PG #[qm,qm] qm s (⟨(some t),1,1⟩:Slc) w1 K:=by
 subst hv;refine nwb λw1 hb1 hB1 hs1=>?_;have hr:Rd qu w1 ⟨some ⟨w.heap.size,0,none⟩,1,1⟩ [c]:=Ze (E:=qu) hb1 rfl;refine apB (hown.ext hB1) hr (by omega) (by simp;omega) λr w2 ho hc hq=>hK r w2 ho ((Chg.of_ext (S:=λk=>s.blk=some k) hB1).trans hc λi _ hi=>hi) ?_;rcases hq with e | e
 ·exact .inl e
 ·exact .inr ⟨_,e,by omega⟩
theorem qkq {s:Slc} {xs:List UInt8} {w:World} {K:Slc->Ub} (h:Rd qu w s xs) (hl:xs.length<=900000000000)
  (hK:∀r w',Go.Vc.Own qu w' w.heap.size r xs->Uc w w'->K r w'):jb s w K:=by
 refine YH _ ?_;cases ha:s.a with
 | none =>
  have:=h.none_nil ha;subst this;exact cT rfl (hK _ _ (Go.Vc.Own.nil _ _ _) (Below.refl _ _))
 | some a =>
  refine cF rfl ?_;refine nwb λw1 hb1 hB1 hs1=>?_;refine apB (YZ (E:=qu) hb1 (Nat.le_refl _)) (h.ext hB1) (by omega) (by simp;omega) λr w2 ho hc hq=>?_;rw [List.nil_append] at ho;exact hK r w2 ho (hB1.trans (hc.below (by omega) λi hi hs=>by have e:w.heap.size=i:=Option.some.inj hs;omega))
theorem zfz {n:Int} {w:World} {K:Slc->Ub} (h0:0<=n) (hn:n<=900000000000) (hK:∀r w',Go.Vc.Own qu w' w.heap.size r []->Uc w w'->K r w'):vI (⟨none,0,0⟩:Slc) n w K:=by
 refine qbb _ _ ?_;refine jpO λJ hJ=>?_;refine cF (by simpa using h0) (hJ _ _ ?_);have hw:i64.wrap (n-(i64.wrap (((0:Nat):Int)-((0:Nat):Int))))=n:=by
  rw [qQ (x:=((0:Nat):Int)-((0:Nat):Int)) (by omega),qQ (by omega)];omega
 simp only [hw];refine cO (λh=>?_) (λh=>?_)
 ·have h:=oTq h;refine vA (by omega) (by omega) (Qd ?_);refine q4x zh (kk:=.i64) (by kernel_rfl) (n:=n.toNat) (by omega) (by omega) (by simp only [maxLen];omega) (by rw [xX];omega) λcap w' h1 h2 ho hB=>?_;refine vA (by omega) (by simp) (Qd ?_);have e:cut (some ⟨w.heap.size,0,none⟩) 0 cap 1=some ⟨w.heap.size,0,none⟩:=by
   unfold cut;split
   ·rfl
   ·simp
  show K ⟨cut (some ⟨w.heap.size,0,none⟩) 0 cap 1,0,cap⟩ w';rw [e];exact hK _ _ ho hB
 ·exact hK _ _ (Go.Vc.Own.nil _ _ _) (Below.refl _ _)
def zm7:El Slc where
 cells s:=[.slice s.a s.n s.c]
 t:=qm
 k:=1
 pos:=by decide
 len _:=rfl
 one x v hv:=by
  simp only [List.mem_cons,List.mem_nil_iff,or_false] at hv;rcases hv with rfl
  rfl
def zms (w:World) (ss:List Slc) (xss:List (List UInt8)):Prop:=ss.length=xss.length/\∀(i:Nat) s xs,ss[i]?=some s->xss[i]?=some xs->Rd qu w s xs
theorem q4m (xss:List (List UInt8)) (k:Nat):(xss.take k).flatten.length<=xss.flatten.length:=by
 conv=>rhs;rw [<-List.take_append_drop k xss]
 rw [List.flatten_append,List.length_append];omega
theorem qnx {xss:List (List UInt8)} {k:Nat} {xs:List UInt8} (h:xss[k]?=some xs):(xss.take (k+1)).flatten=(xss.take k).flatten++xs:=by
 rw [List.take_add_one,h];simp
theorem qrd {p:Slc} {ss:List Slc} {xss:List (List UInt8)} {w:World} {K:Slc->Ub} (hp:Rd zm7 w p ss) (hss:zms w ss xss) (hl:xss.flatten.length<=900000000000) (hn:ss.length<=1000000)
  (hK:∀r w',Go.Vc.Own qu w' w.heap.size r xss.flatten->Uc w w'->K r w'):xi p w K:=by
 refine VP _ ?_;have hpn:=hp.n;obtain ⟨hsl,hss⟩:=hss;refine lpR (λ(s:Int×Int×Unit) w2=>∃k:Nat,s.2.1=k/\k<=ss.length/\s.1=((xss.take k).flatten.length:Nat)/\w2=w) (λs=>ss.length-s.2.1.toNat) ⟨0,rfl,by omega,rfl,rfl⟩ ?_;rintro ⟨t,i,_⟩ w2 ⟨k,rfl,hk,rfl,rfl⟩ I hI;dsimp only at *;have hle:=q4m xss;refine cO (λhlt=>?_) (λhge=>?_)
 ·have hlt:=oTq hlt;rw [hpn] at hlt;have hkl:k<ss.length:=by omega
  have hx:ss[k]?=some ss[k]:=List.getElem?_eq_getElem hkl;have hy:xss[k]?=some (xss[k]'(by omega)):=List.getElem?_eq_getElem _;refine hp.ix rfl (by omega) (by omega) λhc=>?_;refine lSl (x:=ss[k]) (by simpa using hc 0 _ rfl) ?_;have hr:=hss k _ _ hx hy;have hrn:=hr.n;have hf:=qnx hy;have h1:=hle (k+1);rw [hf,List.length_append] at h1;rw [hrn,qQ (by omega)];refine cF (by simp;omega) ?_;rw [qQ (by omega)];exact hI _ _ ⟨k+1,by simp,by omega,by rw [hf];simp,rfl⟩ (by simp;omega)
 ·have hge:=oFq hge;rw [hpn] at hge;have:k=ss.length:=by omega
  subst this;have h1:=hle ss.length;refine zfz (by omega) (by omega) λg w3 ho3 hB3=>?_;refine lpR (λ(s:Slc×Int×Unit) w4=>∃k:Nat,s.2.1=k/\k<=ss.length/\Go.Vc.Own qu w4 w2.heap.size s.1 ((xss.take k).flatten)/\Uc w2 w4) (λs=>ss.length-s.2.1.toNat) ⟨0,rfl,by omega,by simpa using ho3,hB3⟩ ?_;rintro ⟨t,i,_⟩ w4 ⟨k,rfl,hk,ho,hB⟩ I2 hI2;dsimp only at *;refine cO (λhlt=>?_) (λhge=>?_)
  ·have hlt:=oTq hlt;rw [hpn] at hlt;have hkl:k<ss.length:=by omega
   have hx:ss[k]?=some ss[k]:=List.getElem?_eq_getElem hkl;have hy:xss[k]?=some (xss[k]'(by omega)):=List.getElem?_eq_getElem _;refine (hp.ext hB).ix rfl (by omega) (by omega) λhc=>?_;refine lSl (x:=ss[k]) (by simpa using hc 0 _ rfl) ?_;have hr:=(hss k _ _ hx hy).ext hB;have hf:=qnx hy;have h1:=hle (k+1);rw [hf,List.length_append] at h1;refine apB ho hr hB.size (by omega) λr w5 ho5 hc5 hr5=>?_;rw [qQ (by omega)];exact hI2 _ _ ⟨k+1,by simp,by omega,by rw [hf];exact ho5,hB.trans (hc5.below hB.size λi hi hs=>by have:=(ho.lt i hs).1;omega)⟩ (by simp;omega)
  ·have hge:=oFq hge;rw [hpn] at hge;have:k=ss.length:=by omega
   subst this;rw [hsl,List.take_length] at ho;exact hK _ _ ho hB
set_option maxRecDepth 400000
def ze (bs:List UInt8):ByteArray:=⟨bs.toArray⟩
theorem V1 (l:List UInt8):(ze l).toList=l:=by rw [ByteArray.toList_eq];rfl
end Go.Proofs.YtlmpnfhmpjldaaaGreatDoor
namespace Go.Vc
open Go.RowKit
open IntKind (i64)
theorem qa5 {P:Program} {T:Type} {E:El T} {st ty:TypeId} (TT:SlT P E st) {w:World} {base:Nat} {s:Slc} {xs:List T} {y:T} {vs:List Value} {K:Slc->Ub} (hown:Own E w base s xs) (hy:E.cells y=vs)
  (hb:base<=w.heap.size) (hl:(xs.length+1)*TT.i.bytes<=140737488355328) (hm:xs.length+1<=maxLen)
  (hK:∀r w',Own E w' base r (xs++[y])->Chg (λk=>s.blk=some k) w w'->(∀k,r.blk=some k->s.blk=some k\/w.heap.size<=k)->K r w') :
  nw E.t vs w λa w1=>apK P #[st,st] ty s ⟨some a,1,1⟩ w1 λr w2=>K r w2:=by
 refine nwb λw1 hb1 hB1 hs1=>?_;refine jz TT (hown.ext hB1) (Ze hb1 hy) (by omega) (by simpa using hl) (by simpa using hm) λr w2 ho hg hr=>hK r w2 ho ?_ ?_
 ·exact (Chg.of_ext hB1).trans (Chg.of_grown (S:=λk=>s.blk=some k) hg λk hk=>hk) λi _ hi=>hi
 ·intro k hk;rcases hr with hr | hr
  ·exact .inl (hr ▸ hk)
  ·right;rw [hr] at hk;cases hk;omega
theorem jQ {a:Addr} {K:Addr->Prop} (h:K a):qG (some a) K:=h
theorem i64_in {x:Int} (h:-9223372036854775808<=x/\x<=9223372036854775807):i64.wrap x=x:=qQ h
theorem qF {w:World} {T:Type} {E:El T} {b g:Nat} {s:Slc} {xs:List T} {t:TypeId} {vs:List Value} (h:Own E w b s xs) (h':Blk w g t vs) (hne:E.t≠t):∀k,s.blk=some k->k≠g:=λk hk=>by
 obtain ⟨cs,hcs⟩:=h.blk_t hk;exact hcs.ne_t h' hne
theorem Ko {w:World} {T T':Type} {E:El T} {E':El T'} {b b':Nat} {s s':Slc} {xs:List T} {ys:List T'} (h:Own E w b s xs) (h':Own E' w b' s' ys) (hne:E.t≠E'.t):∀k,s.blk=some k->s'.blk≠some k:=λk hk e=>by
 obtain ⟨cs,hcs⟩:=h.blk_t hk;obtain ⟨cs',hcs'⟩:=h'.blk_t e;exact hcs.ne_t hcs' hne rfl
theorem q48 {S:Nat->Prop} {w w':World} {k:Nat} (h:Chg (λi=>i=k) w w') (hk:S k):Chg S w w':=h.mono λi _ hi=>by rw [hi];exact hk
end Go.Vc
namespace Go.Proofs
open Go.Shelf
def Tryz.lays156_ren:Go.Shelf.Ren:=⟨λ| 156=>387 | 165=>434 | 166=>435 | 169=>58 | 240=>112 | 241=>462 | 276=>179 | 277=>481 | n=>n,λ| 31=>411 | 9=>9 | 3=>3 | 4=>4 | 0=>0 | 20=>20 | 72=>144 | 76=>151 | 70=>142 | 37=>34 | 75=>149 | 127=>254 | 164=>320 | 5=>5 | 80=>48 | n=>n,λ| n=>n⟩
theorem Tryz.lays156:Go.Proofs.Lays.n156 Tryz.prog Tryz.lays156_ren:={
 mixed:=by kernel_rfl
 f156:=Tryz.func387.trans (congrArg some (by kernel_rfl))
 f165:=Tryz.func434.trans (congrArg some (by kernel_rfl))
 f166:=Tryz.func435.trans (congrArg some (by kernel_rfl))
 f169:=Tryz.func58.trans (congrArg some (by kernel_rfl))
 f240:=Tryz.func112.trans (congrArg some (by kernel_rfl))
 f241:=Tryz.func462.trans (congrArg some (by kernel_rfl))
 f276:=Tryz.func179.trans (congrArg some (by kernel_rfl))
 f277:=Tryz.func481.trans (congrArg some (by kernel_rfl))
 t0:=Tryz.underlying0
 a0:=Tryz.isAgg0
 z0:=Tryz.sizeOf0
 v0:=Tryz.zeroValue0
 t3:=Tryz.underlying3
 a3:=Tryz.isAgg3
 z3:=Tryz.sizeOf3
 v3:=Tryz.zeroValue3
 t4:=Tryz.underlying4
 a4:=Tryz.isAgg4
 z4:=Tryz.sizeOf4
 v4:=Tryz.zeroValue4
 t9:=Tryz.underlying9
 a9:=Tryz.isAgg9
 z9:=Tryz.sizeOf9
 v9:=Tryz.zeroValue9
 t20:=Tryz.underlying20
 a20:=Tryz.isAgg20
 z20:=Tryz.sizeOf20
 v20:=Tryz.zeroValue20
 t31:=Tryz.underlying411
 a31:=Tryz.isAgg411
 z31:=Tryz.sizeOf411
 v31:=Tryz.zeroValue411
 t37:=Tryz.underlying34
 a37:=Tryz.isAgg34
 z37:=Tryz.sizeOf34
 v37:=Tryz.zeroValue34
 t70:=Tryz.underlying142
 a70:=Tryz.isAgg142
 z70:=Tryz.sizeOf142
 v70:=Tryz.zeroValue142
 t72:=Tryz.underlying144
 a72:=Tryz.isAgg144
 z72:=Tryz.sizeOf144
 v72:=Tryz.zeroValue144
 t75:=Tryz.underlying149
 a75:=Tryz.isAgg149
 z75:=Tryz.sizeOf149
 v75:=Tryz.zeroValue149
 t76:=Tryz.underlying151
 a76:=Tryz.isAgg151
 z76:=Tryz.sizeOf151
 v76:=Tryz.zeroValue151
 t127:=Tryz.underlying254
 a127:=Tryz.isAgg254
 z127:=Tryz.sizeOf254
 v127:=Tryz.zeroValue254
 t164:=Tryz.underlying320
 a164:=Tryz.isAgg320
 z164:=Tryz.sizeOf320
 v164:=Tryz.zeroValue320 }
theorem Tryz.Builder_Extra_156:Builder.Extra Tryz.prog Tryz.lays156_ren:={
 sizeBuilder:=by kernel_rfl
 liesBuilder:=by kernel_rfl
 t5:=Tryz.underlying5
 a5:=Tryz.isAgg5
 z5:=Tryz.sizeOf5
 v5:=Tryz.zeroValue5
 infoByte:=by kernel_rfl
 cellsByte:=by kernel_rfl
 sizeByte:=by kernel_rfl
 neB5:=by decide }
open Go.RowKit in
theorem Tryz.strings_Join_none (a:Option Addr) (c:Nat) (sep:ByteArray) (w:World) :
  Calls Tryz.prog 387 #[.slice a 0 c,.string sep] w λe w'=>e=.returned (.string ⟨#[]⟩)/\w'=w:=Any.strings_Join_none Tryz.lays156 Tryz.Builder_Extra_156 a c sep w
open Go.RowKit in
theorem Tryz.strings_Join (bk o c:Nat) (xs:List ByteArray) (sep:ByteArray) (w:World) (hcells:∀(j:Nat) x,xs[j]?=some x->w.cell? ⟨bk,o+j,none⟩=some (.string x)) (hbk:bk<w.heap.size) (hN:xs.length<=140737488355328) (hcap:xs.length<=c) (hlen:(Lib.join (xs.map (·.data.toList)) sep.data.toList).length<=140737488355328) :
  Calls Tryz.prog 387 #[.slice (some ⟨bk,o,none⟩) xs.length c,.string sep] w λe w'=>e=.returned (.string ⟨(Lib.join (xs.map (·.data.toList)) sep.data.toList).toArray⟩)/\Uc w w':=Any.strings_Join Tryz.lays156 Tryz.Builder_Extra_156 bk o c xs sep w hcells hbk hN hcap hlen
def Tryz.lays137_ren:Go.Shelf.Ren:=⟨λ| 137=>343 | 217=>409 | 266=>446 | n=>n,λ| 9=>9 | 5=>5 | 3=>3 | n=>n,λ| n=>n⟩
theorem Tryz.lays137:Go.Proofs.Lays.n137 Tryz.prog Tryz.lays137_ren:={
 mixed:=by kernel_rfl
 f137:=Tryz.func343.trans (congrArg some (by kernel_rfl))
 f217:=Tryz.func409.trans (congrArg some (by kernel_rfl))
 f266:=Tryz.func446.trans (congrArg some (by kernel_rfl))
 t3:=Tryz.underlying3
 a3:=Tryz.isAgg3
 z3:=Tryz.sizeOf3
 v3:=Tryz.zeroValue3
 t5:=Tryz.underlying5
 a5:=Tryz.isAgg5
 z5:=Tryz.sizeOf5
 v5:=Tryz.zeroValue5
 t9:=Tryz.underlying9
 a9:=Tryz.isAgg9
 z9:=Tryz.sizeOf9
 v9:=Tryz.zeroValue9 }
open Go.RowKit in
theorem Tryz.strings_IndexByte (s:ByteArray) (c:Int) (w:World) :
  Calls Tryz.prog 343 #[.string s,.int .u8 c] w λe w'=>e=.returned (Ua (Lib.indexByte s.data.toList c.toNat.toUInt8))/\w'=w:=Any.strings_IndexByte Tryz.lays137 s c w
def Tryz.laysM171_ren:Go.Shelf.Ren:=⟨λ| 171=>233 | 243=>325 | 246=>397 | 283=>439 | 284=>440 | 285=>441 | 286=>442 | 129=>261 | 317=>465 | 318=>466 | 319=>467 | 320=>468 | 337=>482 | 338=>483 | n=>n,λ| 3=>3 | 9=>9 | 2=>2 | 4=>4 | 171=>512 | 0=>0 | 53=>392 | 37=>34 | 5=>5 | 173=>514 | 212=>529 | 51=>390 | 20=>20 | 213=>530 | 46=>335 | 232=>574 | 233=>575 | n=>n,λ| 17=>3 | 18=>4 | 19=>5 | n=>n⟩
theorem Tryz.laysM171:Go.Proofs.LaysM.n171 Tryz.prog Tryz.laysM171_ren:={
 mixed:=by kernel_rfl
 f129:=Tryz.func261.trans (congrArg some (by kernel_rfl))
 f171:=Tryz.func233.trans (congrArg some (by kernel_rfl))
 f243:=Tryz.func325.trans (congrArg some (by kernel_rfl))
 f246:=Tryz.func397.trans (congrArg some (by kernel_rfl))
 f283:=Tryz.func439.trans (congrArg some (by kernel_rfl))
 f284:=Tryz.func440.trans (congrArg some (by kernel_rfl))
 f285:=Tryz.func441.trans (congrArg some (by kernel_rfl))
 f286:=Tryz.func442.trans (congrArg some (by kernel_rfl))
 f317:=Tryz.func465.trans (congrArg some (by kernel_rfl))
 f318:=Tryz.func466.trans (congrArg some (by kernel_rfl))
 f319:=Tryz.func467.trans (congrArg some (by kernel_rfl))
 f320:=Tryz.func468.trans (congrArg some (by kernel_rfl))
 f337:=Tryz.func482.trans (congrArg some (by kernel_rfl))
 f338:=Tryz.func483.trans (congrArg some (by kernel_rfl))
 t0:=Tryz.underlying0
 a0:=Tryz.isAgg0
 z0:=Tryz.sizeOf0
 v0:=Tryz.zeroValue0
 t2:=Tryz.underlying2
 a2:=Tryz.isAgg2
 z2:=Tryz.sizeOf2
 v2:=Tryz.zeroValue2
 t3:=Tryz.underlying3
 a3:=Tryz.isAgg3
 z3:=Tryz.sizeOf3
 v3:=Tryz.zeroValue3
 t4:=Tryz.underlying4
 a4:=Tryz.isAgg4
 z4:=Tryz.sizeOf4
 v4:=Tryz.zeroValue4
 t5:=Tryz.underlying5
 a5:=Tryz.isAgg5
 z5:=Tryz.sizeOf5
 v5:=Tryz.zeroValue5
 t9:=Tryz.underlying9
 a9:=Tryz.isAgg9
 z9:=Tryz.sizeOf9
 v9:=Tryz.zeroValue9
 t20:=Tryz.underlying20
 a20:=Tryz.isAgg20
 z20:=Tryz.sizeOf20
 v20:=Tryz.zeroValue20
 t37:=Tryz.underlying34
 a37:=Tryz.isAgg34
 z37:=Tryz.sizeOf34
 v37:=Tryz.zeroValue34
 t46:=Tryz.underlying335
 a46:=Tryz.isAgg335
 z46:=Tryz.sizeOf335
 v46:=Tryz.zeroValue335
 t51:=Tryz.underlying390
 a51:=Tryz.isAgg390
 z51:=Tryz.sizeOf390
 v51:=Tryz.zeroValue390
 t53:=Tryz.underlying392
 a53:=Tryz.isAgg392
 z53:=Tryz.sizeOf392
 v53:=Tryz.zeroValue392
 t171:=Tryz.underlying512
 a171:=Tryz.isAgg512
 z171:=Tryz.sizeOf512
 v171:=Tryz.zeroValue512
 t173:=Tryz.underlying514
 a173:=Tryz.isAgg514
 z173:=Tryz.sizeOf514
 v173:=Tryz.zeroValue514
 t212:=Tryz.underlying529
 a212:=Tryz.isAgg529
 z212:=Tryz.sizeOf529
 v212:=Tryz.zeroValue529
 t213:=Tryz.underlying530
 a213:=Tryz.isAgg530
 z213:=Tryz.sizeOf530
 t232:=Tryz.underlying574
 a232:=Tryz.isAgg574
 z232:=Tryz.sizeOf574
 v232:=Tryz.zeroValue574
 t233:=Tryz.underlying575
 a233:=Tryz.isAgg575
 z233:=Tryz.sizeOf575
 v233:=Tryz.zeroValue575
 g17:=by kernel_rfl
 g18:=by kernel_rfl
 g19:=by kernel_rfl
 i0:=by kernel_rfl
 i2:=by kernel_rfl
 i3:=by kernel_rfl
 i4:=by kernel_rfl
 i5:=by kernel_rfl
 i9:=by kernel_rfl
 i20:=by kernel_rfl
 i37:=by kernel_rfl
 i46:=by kernel_rfl
 i51:=by kernel_rfl
 i53:=by kernel_rfl
 i171:=by kernel_rfl
 i173:=by kernel_rfl
 i212:=by kernel_rfl
 i232:=by kernel_rfl
 i233:=by kernel_rfl
 m17:=by kernel_rfl
 m18:=by kernel_rfl
 m19:=by kernel_rfl }
open Go.RowKit Go.Sort Go.Lib in
theorem Tryz.strconv_Itoa (n : Int) (h0 : -9223372036854775808 <= n) (h1 : n <= 9223372036854775807) (w : World) (htab : Lib.TabIs Tryz.prog w "internal/strconv.uint64pow10" .u64 Lib.pow10Tab) :
  Calls Tryz.prog 233 #[.int .i64 n] w λe w'=>e=.returned (.string ⟨(Lib.itoa n).toArray⟩)/\∃k os,w'=grow (w.drewN k) os:=Any.strconv_Itoa Tryz.laysM171 n h0 h1 w htab
def Tryz.lays143_ren:Go.Shelf.Ren:=⟨λ| 143=>423 | 219=>451 | 217=>409 | 225=>346 | 224=>345 | 267=>471 | 266=>446 | 314=>484 | n=>n,λ| 9=>9 | 3=>3 | 4=>4 | 5=>5 | 46=>335 | 146=>519 | 51=>390 | n=>n,λ| 1=>2 | n=>n⟩
theorem Tryz.lays143:Go.Proofs.Lays.n143 Tryz.prog Tryz.lays143_ren:={
 mixed:=by kernel_rfl
 f143:=Tryz.func423.trans (congrArg some (by kernel_rfl))
 f217:=Tryz.func409.trans (congrArg some (by kernel_rfl))
 f219:=Tryz.func451.trans (congrArg some (by kernel_rfl))
 f224:=Tryz.func345.trans (congrArg some (by kernel_rfl))
 f225:=Tryz.func346.trans (congrArg some (by kernel_rfl))
 f266:=Tryz.func446.trans (congrArg some (by kernel_rfl))
 f267:=Tryz.func471.trans (congrArg some (by kernel_rfl))
 f314:=Tryz.func484.trans (congrArg some (by kernel_rfl))
 t3:=Tryz.underlying3
 a3:=Tryz.isAgg3
 z3:=Tryz.sizeOf3
 v3:=Tryz.zeroValue3
 t4:=Tryz.underlying4
 a4:=Tryz.isAgg4
 z4:=Tryz.sizeOf4
 v4:=Tryz.zeroValue4
 t5:=Tryz.underlying5
 a5:=Tryz.isAgg5
 z5:=Tryz.sizeOf5
 v5:=Tryz.zeroValue5
 t9:=Tryz.underlying9
 a9:=Tryz.isAgg9
 z9:=Tryz.sizeOf9
 v9:=Tryz.zeroValue9
 t46:=Tryz.underlying335
 a46:=Tryz.isAgg335
 z46:=Tryz.sizeOf335
 v46:=Tryz.zeroValue335
 t51:=Tryz.underlying390
 a51:=Tryz.isAgg390
 z51:=Tryz.sizeOf390
 v51:=Tryz.zeroValue390
 t146:=Tryz.underlying519
 a146:=Tryz.isAgg519
 z146:=Tryz.sizeOf519
 v146:=Tryz.zeroValue519
 g1:=by kernel_rfl }
open Go.RowKit Go.Lib in
theorem Tryz.strings_Index_one (s:ByteArray) (c:UInt8) (w:World) :
  Calls Tryz.prog 423 #[.string s,.string ⟨#[c]⟩] w λe w'=>e=.returned (Ua (Lib.indexByte s.data.toList c))/\w'=w:=Any.strings_Index_one Tryz.lays143 s c w
def Tryz.lays138_ren:Go.Shelf.Ren:=⟨λ| 138=>422 | 195=>449 | 218=>450 | 143=>423 | 219=>451 | 217=>409 | 225=>346 | 224=>345 | 267=>471 | 266=>446 | 314=>484 | n=>n,λ| 9=>9 | 3=>3 | 4=>4 | 5=>5 | 0=>0 | 46=>335 | 146=>519 | 51=>390 | n=>n,λ| 1=>2 | n=>n⟩
theorem Tryz.lays138:Go.Proofs.Lays.n138 Tryz.prog Tryz.lays138_ren:={
 mixed:=by kernel_rfl
 f138:=Tryz.func422.trans (congrArg some (by kernel_rfl))
 f143:=Tryz.func423.trans (congrArg some (by kernel_rfl))
 f195:=Tryz.func449.trans (congrArg some (by kernel_rfl))
 f217:=Tryz.func409.trans (congrArg some (by kernel_rfl))
 f218:=Tryz.func450.trans (congrArg some (by kernel_rfl))
 f219:=Tryz.func451.trans (congrArg some (by kernel_rfl))
 f224:=Tryz.func345.trans (congrArg some (by kernel_rfl))
 f225:=Tryz.func346.trans (congrArg some (by kernel_rfl))
 f266:=Tryz.func446.trans (congrArg some (by kernel_rfl))
 f267:=Tryz.func471.trans (congrArg some (by kernel_rfl))
 f314:=Tryz.func484.trans (congrArg some (by kernel_rfl))
 t0:=Tryz.underlying0
 a0:=Tryz.isAgg0
 z0:=Tryz.sizeOf0
 v0:=Tryz.zeroValue0
 t3:=Tryz.underlying3
 a3:=Tryz.isAgg3
 z3:=Tryz.sizeOf3
 v3:=Tryz.zeroValue3
 t4:=Tryz.underlying4
 a4:=Tryz.isAgg4
 z4:=Tryz.sizeOf4
 v4:=Tryz.zeroValue4
 t5:=Tryz.underlying5
 a5:=Tryz.isAgg5
 z5:=Tryz.sizeOf5
 v5:=Tryz.zeroValue5
 t9:=Tryz.underlying9
 a9:=Tryz.isAgg9
 z9:=Tryz.sizeOf9
 v9:=Tryz.zeroValue9
 t46:=Tryz.underlying335
 a46:=Tryz.isAgg335
 z46:=Tryz.sizeOf335
 v46:=Tryz.zeroValue335
 t51:=Tryz.underlying390
 a51:=Tryz.isAgg390
 z51:=Tryz.sizeOf390
 v51:=Tryz.zeroValue390
 t146:=Tryz.underlying519
 a146:=Tryz.isAgg519
 z146:=Tryz.sizeOf519
 v146:=Tryz.zeroValue519
 g1:=by kernel_rfl }
open Go.RowKit Go.Lib in
theorem Tryz.strings_Count_one (s:ByteArray) (c:UInt8) (w:World) :
  Calls Tryz.prog 422 #[.string s,.string ⟨#[c]⟩] w λe w'=>e=.returned (Ua (Lib.countByte s.data.toList c))/\w'=w:=Any.strings_Count_one Tryz.lays138 s c w
def Tryz.lays187_ren:Go.Shelf.Ren:=⟨λ| 187=>417 | 255=>447 | n=>n,λ| 37=>34 | 5=>5 | 3=>3 | n=>n,λ| n=>n⟩
theorem Tryz.lays187:Go.Proofs.Lays.n187 Tryz.prog Tryz.lays187_ren:={
 mixed:=by kernel_rfl
 f187:=Tryz.func417.trans (congrArg some (by kernel_rfl))
 f255:=Tryz.func447.trans (congrArg some (by kernel_rfl))
 t3:=Tryz.underlying3
 a3:=Tryz.isAgg3
 z3:=Tryz.sizeOf3
 v3:=Tryz.zeroValue3
 t5:=Tryz.underlying5
 a5:=Tryz.isAgg5
 z5:=Tryz.sizeOf5
 v5:=Tryz.zeroValue5
 t37:=Tryz.underlying34
 a37:=Tryz.isAgg34
 z37:=Tryz.sizeOf34
 v37:=Tryz.zeroValue34 }
theorem Tryz.bytes_IndexByte (b o n c:Nat) (xs:List Int) (cv:Int) (w:World) (hx:xs.length=n) (hc:∀i,i<n->w.cell? ⟨b,o+i,none⟩=some (.int .u8 (xs.getD i 0))) :
  Calls Tryz.prog 417 #[.slice (some ⟨b,o,none⟩) n c,.int .u8 cv] w λe w'=>e=.returned (Ua (Lib.indexByte (Lib.bytesOf xs) cv.toNat.toUInt8))/\w'=w:=Any.bytes_IndexByte Tryz.lays187 b o n c xs cv w hx hc
end Go.Proofs
namespace Go.Proofs.YtlmpnfhmpjldaaaGreatDoor
open Go.Vc Go.RowKit
set_option maxRecDepth 400000
open Lib (itoa)
theorem vR (l:List UInt8):(ze l).toList=l:=by rw [ByteArray.toList_eq];rfl
theorem qy3 (l:List UInt8):(ze l).data.toList=l:=rfl
theorem zi9 (s:ByteArray):ze s.data.toList=s:=by cases s;simp [ze]
theorem zo (l:List UInt8):(ze l).size=l.length:=by show l.toArray.size=_;simp
theorem JJ (a b:List UInt8):ze a++ze b=ze (a++b):=by
 have:(ze a++ze b).data=(ze (a++b)).data:=by rw [ByteArray.data_append];simp [ze]
 calc ze a++ze b=⟨(ze a++ze b).data⟩:=rfl
  _=ze (a++b):=by rw [this]
theorem qwg {w:World} {s:Slc} {bs:List UInt8} (h:Rd qu w s bs):(convert qm zC (.slice s.a s.n s.c)).run PG w=.ok (.string (ze bs)) w:=by
 cases ha:s.a with
 | none =>
  have:bs=[]:=by
   cases bs with
   | nil=>rfl
   | cons x r=>have:=h.some_ (by simp);rw [ha] at this;cases this
  subst this;exact run_convert_bytes_nil (P:=PG) w qm za (by kernel_rfl) (by kernel_rfl) _ _ zC (by kernel_rfl)
 | some a =>
  have hn:=h.n;have hl:(loadCells a bs.length).run PG w=.ok ((bs.map λb=>Value.int .u8 b.toNat)).toArray w:=by
   have:=run_loadCells_list (P:=PG) w a (bs.map λb=>Value.int .u8 b.toNat) (λj v hj=>by
    rw [List.getElem?_map] at hj;cases hb:bs[j]? with
    | none=>rw [hb] at hj;cases hj
    | some b =>
     rw [hb] at hj;cases hj;have:=h.at_ j b hb 0 (.int .u8 b.toNat) rfl;simp only [Slc.at_,ha,Option.getD_some,add_zero] at this
     rwa [show j*qu.k=j from Nat.mul_one j] at this)
   simpa using this
  have hb:=run_bytesToString w a s.n s.c (bs.map λb=>(b.toNat:Int)) (by rw [hn,hl];simp);rw [run_convert_bytes_string w qm zC za _ s.n s.c (by kernel_rfl) (by kernel_rfl) (by kernel_rfl),hb,foldl_push_bytes];have e:(bs.map λb=>(b.toNat:Int)).map (λn=>UInt8.ofNat n.toNat)=bs:=by
   rw [List.map_map]
   conv=>rhs;rw [<-List.map_id bs]
   refine List.map_congr_left λb _=>?_;simp
  rw [e];simp [ze,ByteArray.empty,ByteArray.emptyWithCapacity];rfl
section
variable {w:World}
theorem ZD {s:Slc} {bs:List UInt8} (h:Rd qu w s bs) {K:ByteArray->Ub} (hK:K (ze bs) w):jq PG (convert qm zC (.slice s.a s.n s.c)) Kind.string w K:=⟨_,w,qwg h,hK⟩
theorem qsa {bs:List UInt8} (hl:bs.length<=1000000000) {K:Slc->Ub} (hK:∀q w',Rd qu w' q bs->(∀k,q.blk=some k->w.heap.size<=k)->Uc w w'->q.a.isSome=true->K q w') :
  jq PG (convert zC qm (.string (ze bs))) Kind.slice w K:=by
 have hr:=Lib.run_convert_string_bytes (P:=PG) w zC qm za (ze bs) (u:=.string) (by kernel_rfl) (by kernel_rfl) (by kernel_rfl);have hsz:=zo bs;refine ⟨⟨some ⟨w.heap.size,0,none⟩,(ze bs).size,grownCap w (ze bs).size 0 za⟩,_,hr,hK _ _ ⟨hsz,grownCap_ge w _ 0 za,grownCap_le_maxLen w _ 0 za (by rw [hsz];unfold maxLen;omega),λ_=>rfl,λi x hx=>?_⟩ (λk hk=>by cases hk;exact Nat.le_refl _) ⟨rfl,rfl,rfl,by rw [Lib.bytesWorld_size];omega,λk hk=>Lib.bytesWorld_at_old w _ _ k hk⟩ rfl⟩;have hi:i<bs.length:=(List.getElem?_eq_some_iff.1 hx).1;intro j v hv
 match j,hv with
 | 0,hv =>
  cases hv;have:=Lib.bytesWorld_cell w za (ze bs) i (by rw [hsz];exact hi);rw [qy3] at this;have e:bs.getD i 0=x:=by rw [List.getD_eq_getElem?_getD,hx];rfl
  rw [e] at this;show World.cell? _ (((⟨w.heap.size,0,none⟩:Addr).add (i*1)).add 0)=_;rw [add_zero,Nat.mul_one,qH,Nat.zero_add];exact this
theorem qo6 {bs:List UInt8} {i:Int} {k:Nat} {b:UInt8} {K:Int->Prop} (hi:i=k) (hb:bs[k]?=some b) (hK:K b.toNat):ixS (ze bs) i K:=by
 subst hi;have hk:k<bs.length:=(List.getElem?_eq_some_iff.1 hb).1;refine ⟨⟨by omega,by rw [zo];omega⟩,?_⟩;have e:(ze bs).data.getD ((k:Int)).toNat 0=b:=by
  show bs.toArray.getD _ _=_;rw [Int.toNat_natCast,Array.getD_eq_getD_getElem?,List.getElem?_toArray,hb];rfl
 rw [e];exact hK
theorem q49 (bs:List UInt8) (l h:Nat):(ze bs).extract l h=ze ((bs.take h).drop l):=by
 have:((ze bs).extract l h).data=(ze ((bs.take h).drop l)).data:=by
  rw [ByteArray.data_extract];apply Array.ext';simp [ze,List.drop_take]
 calc (ze bs).extract l h=⟨((ze bs).extract l h).data⟩:=rfl
  _=_:=by rw [this]
theorem q0a {bs:List UInt8} {lo hi:Option Int} {l h:Nat} {K:ByteArray->Prop} (hlo:lo=none/\l=0\/lo=some (l:Int)) (hhi:hi=none/\h=bs.length\/hi=some (h:Int)) (h1:l<=h) (h2:h<=bs.length)
  (hK:K (ze ((bs.take h).drop l))):slS (ze bs) lo hi K:=by
 have key:K ((ze bs).extract l h):=by rw [q49];exact hK
 have inner:bnd lo h 0 λl'=>K ((ze bs).extract l' h):=by
  rcases hlo with ⟨rfl,rfl⟩ | rfl
  ·exact Qd key
  ·exact vA (by omega) (by omega) (by simpa using key)
 unfold slS;rcases hhi with ⟨rfl,rfl⟩ | rfl
 ·refine Qd ?_;rw [zo];exact inner
 ·exact vA (by omega) (by rw [zo];omega) (by simpa using inner)
def Tab (w : World) : Prop := Lib.TabIs PG w "internal/strconv.uint64pow10" .u64 Lib.pow10Tab
theorem zhw {g:Nat} {cs:Array Value} {n:String} (hg:PG.globalNamed n=some g) (h:w.var? PG n=some cs):g<w.heap.size:=by
 unfold World.var? at h;rw [hg] at h;dsimp only [Option.bind_some] at h;rcases Nat.lt_or_ge g w.heap.size with hlt | hge
 ·exact hlt
 ·rw [Array.getElem?_eq_none hge] at h;cases h
theorem Tab.ext {w':World} (h:Tab w) (hb:Uc w w'):Tab w' :=
 var?_below (g:=3) hb (by kernel_rfl) (zhw (by kernel_rfl) h) h
theorem qq3 {n:Int} (h0:-9223372036854775808<=n) (h1:n<=9223372036854775807):(itoa n).length<=20:=by
 have hd:∀(m u:Nat),1<=m->u<10^m->(Lib.decDigits u).length<=m:=by
  intro m
  induction m with
  | zero=>intro u h;omega
  | succ m ih =>
   intro u _ h;rw [Lib.decDigits];split
   ·simp
   ·rename_i h10;have:m≠0:=λe=>by subst e;simp at h;omega
    have:=ih (u/10) (by omega) (by rw [Nat.pow_succ] at h;omega);rw [List.length_append,List.length_singleton];omega
 unfold itoa;split
 ·rw [List.length_cons];have:=hd 19 n.natAbs (by omega) (by omega);omega
 ·have:=hd 19 n.toNat (by omega) (by omega);omega
theorem qti (hT:Tab w) {n:Int} (h0:-9223372036854775808<=n) (h1:n<=9223372036854775807) {K:ByteArray->Ub} (hK:∀w',Uc w w'->K (ze (itoa n)) w'):vH n w K:=by
 refine Calls.mono (Tryz.strconv_Itoa n h0 h1 w hT) ?_;rintro e w' ⟨rfl,k,os,rfl⟩;refine ⟨_,rfl,hK _ ⟨rfl,rfl,rfl,by show _<=((w.drewN k).heap++os).size;simp [World.drewN],λj hj=>?_⟩⟩;show ((w.drewN k).heap++os)[j]?=_;rw [Array.getElem?_append_left (by simpa [World.drewN] using hj)];rfl
theorem qig {bs:List UInt8} {c:UInt8} {i:Int} (hi:i=c.toNat) {K:Int->Ub} (hK:K (Lib.indexByte bs c) w):xK (ze bs) i w K:=by
 subst hi;refine Calls.mono (Tryz.strings_IndexByte (ze bs) c.toNat w) ?_;rintro e w' ⟨rfl,rfl⟩;refine ⟨_,rfl,?_⟩;rw [qy3,show ((c.toNat:Int)).toNat.toUInt8=c by simp];exact hK
end
end Go.Proofs.YtlmpnfhmpjldaaaGreatDoor
namespace Go.Proofs.YtlmpnfhmpjldaaaGreatDoor
open Go.Vc Go.ChangeShapes Go.WideShapes Go.ChangeAt Go.RowKit
set_option maxRecDepth 100000
theorem own:ownKnob Tryz.prog.godebug=none:=by kernel_rfl
theorem loA:(List.range Tryz.prog.types.size).all (rowFine Tryz.prog)=true:=by kernel_rfl
theorem loB:Tryz.prog.globals.all (λg=>decide (g.type<Tryz.prog.types.size))=true:=by kernel_rfl
theorem loC:Tryz.prog.funcs.all (λf=>f.params.all λt=>decide (t<Tryz.prog.types.size))=true:=by kernel_rfl
theorem zc9:laidOutB Tryz.prog=true:=by unfold laidOutB;rw [loA,loB,loC];rfl
theorem qf3 {ls:List Leaf} {vs:List Value} {k:IntKind} (h:qqs ls vs) (j:Nat) (hj:ls[j]?=some (.int k)):∃z,vs[j]?=some (.int k z)/\(Lit.int k z).wf=true:=by
 obtain ⟨v,hv,z,rfl,hw⟩:=h j _ hj;exact ⟨z,hv,hw⟩
theorem q8s {vs us:List Value} (hl:vs.length=us.length) (h:∀(j:Nat),j<us.length->us[j]?=vs[j]?):us=vs :=
 List.ext_getElem? λj=>by
  rcases Nat.lt_or_ge j us.length with hj | hj
  ·exact h j hj
  ·rw [List.getElem?_eq_none hj,List.getElem?_eq_none (by omega)]
def zmi (P:Program) (t:TypeId):TypeId:=match P.underlying t with
 | some (.array _ e)=>e
 | _=>0
def q3v : List (String × DataW Unit) := [("internal/strconv.uint64pow10", Rows.laid_internal_strconv_uint64pow10), ("math/bits.deBruijn32tab", Rows.laid_math_bits_deBruijn32tab), ("math/bits.deBruijn64tab", Rows.laid_math_bits_deBruijn64tab), ("unicode/utf8.first", Rows.laid_unicode_utf8_first), ("unicode/utf8.acceptRanges", Rows.laid_unicode_utf8_acceptRanges)]
theorem q79 (os:Os):(World.laidAll Tryz.prog os q3v).Shaped Tryz.prog:=World.shaped_of_ZipB (by kernel_rfl) (by kernel_rfl)
theorem zgz (os:Os) (args:Array Value):laidMetH Tryz.prog q3v ((World.laidAll Tryz.prog os q3v).forCall (λ_ _=>0) ⟨#[],args,[]⟩).memory:=by
 rw [MakeChecks.laidMetH_plain _ _ _ (by kernel_rfl)];exact laidMet_laidAll _ (by kernel_rfl) (by kernel_rfl)
theorem q0k {P:Program} {W:World} {name:String} {k:IntKind} {zs:List Int} {rest:List (String×DataW Unit)} {g:Nat} {t e:TypeId} {n:Nat} {ps:List MemPlace}
  (hg:P.globalNamed name=some g) (hty:(P.globals[g]?).map (·.type)=some t) (ht:P.underlying t=some (.array n e)) (he:P.underlying e=some (.int k)) (hce:P.cellsOf e=1) (hct:P.cellsOf t=n)
  (h:DataW.LaidVars P W ((name,Lib.tabData k zs)::rest) ps):Lib.TabIs P W name k zs:=by
 obtain ⟨g',t',cs,fuel,p,q,hg',ht',hvar,hd,_,_⟩:=h;obtain rfl:=Option.some.inj (hg.symm.trans hg');obtain rfl:=Option.some.inj (hty.symm.trans ht');unfold Lib.TabIs;rw [hvar,<-Lib.cells_of_tab ht he hce hct hd]
theorem q6y {W:World} (h:laidMetH Tryz.prog q3v W):Tab W:=by
 rw [MakeChecks.laidMetH_plain _ _ _ (by kernel_rfl)] at h;obtain ⟨ps,h,_⟩:=h;unfold q3v at h;have e:(Rows.laid_internal_strconv_uint64pow10:DataW Unit)=Lib.tabData .u64 Lib.pow10Tab:=by kernel_rfl
 rw [e] at h;exact q0k (g:=3) (t:=(Tryz.prog.globals[3]?).map (·.type) |>.getD 0) (e:=zmi Tryz.prog ((Tryz.prog.globals[3]?).map (·.type) |>.getD 0)) (n:=20) (by kernel_rfl) (by kernel_rfl) (by kernel_rfl) (by kernel_rfl) (by kernel_rfl) (by kernel_rfl) h
def zmf:El qo where
 cells:=qo.rep.cells
 t:=23
 k:=6
 pos:=by decide
 len _:=rfl
 one x v hv:=by
  simp only [qo.rep,List.mem_cons,List.mem_nil_iff,or_false] at hv;rcases hv with rfl | rfl | rfl | rfl | rfl | rfl<;>rfl
def zh6:List Leaf:=[.int .i64,.int .i64,.int .i64,.int .i64,.int .i64,.int .i64]
theorem zcd:qsj Tryz.prog 4 23=some zh6:=by kernel_rfl
theorem zmv (vs:List Value) (hl:vs.length=6) (h:qqs zh6 vs):∃x:qo,zmf.cells x=vs/\True:=by
 obtain ⟨z0,h0,_⟩:=qf3 h 0 rfl;obtain ⟨z1,h1,_⟩:=qf3 h 1 rfl;obtain ⟨z2,h2,_⟩:=qf3 h 2 rfl;obtain ⟨z3,h3,_⟩:=qf3 h 3 rfl;obtain ⟨z4,h4,_⟩:=qf3 h 4 rfl;obtain ⟨z5,h5,_⟩:=qf3 h 5 rfl;refine ⟨⟨z0,z1,z2,z3,z4,z5⟩,q8s hl λj hj=>?_,trivial⟩
 match j,hj with
 | 0,_=>exact h0.symm
 | 1,_=>exact h1.symm
 | 2,_=>exact h2.symm
 | 3,_=>exact h3.symm
 | 4,_=>exact h4.symm
 | 5,_=>exact h5.symm
 | j+6,hj=>exact absurd hj (by simp [zmf,qo.rep])
noncomputable def fieldsOf (P:Program) (t:TypeId):Array Field:=match P.underlying t with | some (.struct fs)=>fs | _=>#[]
section
variable {H:Type} {enc:TypeId×Value->H} {w:World} {base:Nat} {held:Bool} {r:Reach} {b0:Nat} {v:Value} {d:DataW H} {p:List MemPlace}
theorem zjb (hv:Value.okWide Tryz.prog w r b0 23 v) (h:DataW.Trod enc Tryz.prog w base (λ_=>true) held 23 v d p):∃x:qo,v=.agg (qo.rep.cells x).toArray:=by
 have hfs:Tryz.prog.underlying 23=some (.struct (fieldsOf Tryz.prog 23)):=by kernel_rfl
 have a:=@q9e H enc Tryz.prog w base (λ_=>true) held qo zmf (λ_=>True) r b0 4 23 (fieldsOf Tryz.prog 23) zh6 v d p hfs (by kernel_rfl) zcd zmv;obtain ⟨x,e,_⟩:=a hv h;exact ⟨x,e⟩
end
end Go.Proofs.YtlmpnfhmpjldaaaGreatDoor
namespace Go.Vc
def zne (ls:List UInt8) (k:Nat):Nat:=if k=0 then 0 else ls.countP λx=>x.toNat==k
def zhu (ls:List UInt8):Nat:=(ls.map λx=>if 0<x.toNat/\x.toNat<=15 then 2^(15-x.toNat) else 0).sum
def zlm:List UInt8:=List.replicate 144 8++List.replicate 112 9++List.replicate 24 7++List.replicate 8 8
end Go.Vc
namespace Go.Proofs.YtlmpnfhmpjldaaaGreatDoor
open Go.Vc Go.RowKit
structure TF where
 g:Nat
 so:Slc
 co:Slc
 lo:Slc
def zcs (ls:List UInt8):Prop:=¬(zhu ls=32768\/zhu ls=0\/(zhu ls=16384/\zne ls 1=1))
instance (ls:List UInt8):Decidable (zcs ls):=by unfold zcs;infer_instance
set_option maxRecDepth 400000
def tp (o:Option TF):Option Addr:=o.map λf=>⟨f.g,0,none⟩
theorem qjf:(List.range 10).map (zne zlm)=[0,0,0,0,0,0,0,24,152,112]:=by decide +kernel
section
variable {w:World} {base:Nat}
theorem qyf (n:Nat):IntKind.u8.wrap (n:Int)=(((UInt8.ofNat n).toNat:Nat):Int):=by
 rw [zil];show (((UInt8.ofNat ((n:Int)%256).toNat).toNat:Nat):Int)=_;rw [UInt8.toNat_ofNat',UInt8.toNat_ofNat'];omega
end
end Go.Proofs.YtlmpnfhmpjldaaaGreatDoor
namespace Go.Proofs.YtlmpnfhmpjldaaaGreatDoor
open Go.Vc
def qfo (m:List UInt8) (k:Nat) (c:List UInt8):List UInt8:=m.take k++c++m.drop (k+4)
def q6x (k:List UInt8):List UInt8:=k.take 4++List.replicate (4-k.length) 0
end Go.Proofs.YtlmpnfhmpjldaaaGreatDoor
namespace Go.Proofs.YtlmpnfhmpjldaaaGreatDoor
open Go.Vc Go.RowKit
set_option maxRecDepth 400000
open Builtin (copy_)
open IntKind (i64)
open _root_.List (append_assoc append_nil drop_zero getD_cons_zero length_append length_cons length_drop length_nil length_set length_take mem_cons mem_nil_iff take_add_one take_length)
open _root_.Nat (le_refl lt_or_ge mul_one zero_le)
open _root_.Option (getD_some)
theorem zhz {zs vs:List Value} (hl:vs.length=zs.length):putL zs 0 vs=vs:=by
 refine List.ext_getElem? λm=>?_;rw [VE vs zs 0 m (by omega)];by_cases hm:m<vs.length
 ·rw [if_pos (by omega)];rfl
 ·rw [if_neg (by omega),List.getElem?_eq_none (by omega),List.getElem?_eq_none (by omega)]
theorem jH {g:Nat} {t:TypeId} {vs us:List Value} {w:World} {K:Ub} (h:Blk w g t vs) (hl:us.length=vs.length) (hK:∀w',Blk w' g t us->Chg (λk=>k=g) w w'->w'.heap.size=w.heap.size->K w'):stK ⟨g,0,none⟩ us w K :=
 qB h (by omega) λw' hb hg hs=>hK w' (by rw [zhz hl] at hb;exact hb) (Go.Vc.Chg.gg hg) hs
theorem zn {r:Rep} {g:Nat} {t:TypeId} {vs us:List Value} {x:r.T} {w:World} {K:r.T->Ub} (h:Blk w g t vs) (hus:r.cells x=us) (hl:us.length=vs.length) (hK:∀w',Chg (λk=>k=g) w w'->w'.heap.size=w.heap.size->K x w') :
  stK ⟨g,0,none⟩ us w λw'=>ldS r ⟨g,0,none⟩ w' λy=>K y w' :=
 jH h hl λw' hb hc hs=>qy (x:=x) (by rw [hus];exact hb.cells) (hK w' hc hs)
theorem bdw (w:World):Uc w w.drew:=(Below.refl _ w).drew
theorem b1o {w w1 w2:World} {g:Nat} (h:Uc w w1) (hc:Chg (λk=>k=g) w1 w2) (hg:w.heap.size<=g):Uc w w2 :=
 h.trans (hc.below h.size λi hi e=>by omega)
theorem bT {w w1 w2:World} (h:Uc w w1) (h2:Uc w1 w2):Uc w w2:=h.trans (h2.mono h.size)
theorem zat {w:World} {s:Slc} {xs:List UInt8} (h:Rd qu w s xs) {i:Nat} {x:UInt8} (hx:xs[i]?=some x):w.cell? (s.at_ 1 i)=some (.int .u8 (x.toNat:Int)):=by
 have:=h.at_ i x hx 0 _ rfl;have h2:w.cell? (s.at_ qu.k i)=some (.int .u8 (x.toNat:Int)):=by simpa using this
 exact h2
theorem zbi {a b:Int} (h:a≠b):(a==b)=false:=by simpa using h
theorem qyy {a b:Int} (h:a≠b):(a !=b)=true:=by simpa using h
theorem w8 (y:UInt8):i64.wrap ((y.toNat:Nat):Int)=((y.toNat:Nat):Int):=qQ (by have:=y.toNat_lt;omega)
def jU (l:List UInt8):List Value:=l.map λb=>Value.int .u8 (b.toNat:Int)
theorem qk1 (l:List UInt8):Zi qu l=jU l:=by
 unfold Zi jU
 induction l with
 | nil=>rfl
 | cons x r ih=>rw [List.flatMap_cons,ih];rfl
theorem yv (l:List UInt8):(jU l).length=l.length:=by simp [jU]
theorem q6q (l:List UInt8):∀v∈jU l,q4s v=true:=by
 intro v hv;unfold jU at hv;obtain ⟨b,_,rfl⟩:=List.mem_map.1 hv;rfl
theorem zar {w:World} {a:Addr} {l:List UInt8} (h:∀(i:Nat) x,l[i]?=some x->w.cell? (a.add i)=some (.int .u8 (x.toNat:Int))):(loadCells a l.length).run PG w=.ok (jU l).toArray w:=by
 have:=run_loadCells_list (P:=PG) w a (jU l) (λj v hj=>by
  unfold jU at hj;rw [List.getElem?_map] at hj;cases hb:l[j]? with
  | none=>rw [hb] at hj;cases hj
  | some b =>
   rw [hb] at hj;cases hj;exact h j b hb)
 rwa [yv] at this
theorem zhh {w:World} {g o dn dc n:Nat} {t:TypeId} {cur:List Value} {x:Slc} {ys:List UInt8} {K:Int->Ub} (hb:Blk w g t cur) (hx:Rd qu w x ys) (hn:n=min ys.length dn) (hf:o+n<=cur.length)
  (hK:∀w',Blk w' g t (putL cur o (jU (ys.take n)))->Chg (λk=>k=g) w w'->w'.heap.size=w.heap.size->K (n:Int) w') :
  jq PG (copy_ #[qm,qm] zz #[.slice (some ⟨g,o,none⟩) dn dc,.slice x.a x.n x.c]) (Kind.int .i64) w K:=by
 have htl:(ys.take n).length=n:=by rw [length_take];omega
 have hst:(storeCells ⟨g,o,none⟩ (jU (ys.take n)) 0).run PG w=.ok () (wr w ⟨g,o,none⟩ (jU (ys.take n))) :=
  qcy (jU (ys.take n)) 0 w (q6q _) (λj hj=>by
   rw [yv,htl] at hj;rw [Nat.zero_add,qH];refine ⟨⟨cur[o+j]'(by omega),hb.cell (o+j) (List.getElem?_eq_getElem (by omega))⟩,hb.frozen _⟩)
 refine ⟨(n:Int),wr w ⟨g,o,none⟩ (jU (ys.take n)),?_,hK _ (zhj hb) (Go.Vc.Chg.gg (q9c w ⟨g,o,none⟩ _)) (size_wr _ _ _)⟩;have hu:PG.underlying qm=some (.slice za):=by kernel_rfl
 have hi:=zh.hi;have hs:zh.i.size=1:=zh.hs;have hi':PG.info? za=some zh.i:=hi;have hxn:=hx.n;have hmin:Nat.min ys.length dn=n:=hn.symm;cases ha:x.a with
 | none =>
  have hy:=hx.none_nil ha;subst hy;have hn0:n=0:=by rw [hn];simp
  subst hn0;simp [copy_,run_underlying hu,Builtin.lenOf,Builtin.firstCells,sizeOf,typeInfo,hi',hxn,storeCells,wr,ve,jU,Kind.enc,goInt]
 | some a =>
  have hload:=zar (w:=w) (a:=a) (l:=ys.take n) (λi y hy=>by
   have hi2:i<n:=by rw [<-htl];exact (List.getElem?_eq_some_iff.1 hy).1
   rw [List.getElem?_take_of_lt hi2] at hy;have:=zat hx hy;simp only [Slc.at_,ha,getD_some,mul_one] at this;exact this)
  rw [htl] at hload;simp [copy_,run_underlying hu,Builtin.lenOf,Builtin.firstCells,sizeOf,typeInfo,hi',hs,hxn,hmin,hload,hst,Kind.enc,goInt]
theorem qwv {w:World} {b g c:Nat} {xs:List UInt8} {s:Slc} (h:Go.Vc.Own qu w b s xs) (hs:s.a=some ⟨g,0,none⟩):∃cur,Blk w g za cur/\cur.length=s.c/\cur.take xs.length=jU xs/\xs.length<=s.c/\s.c<=maxLen/\b<=g/\s.n=xs.length:=by
 rcases h.form with ⟨rfl,rfl⟩ | ⟨g',cur,e,hg,hb,h1,h2,h3,h4⟩
 ·cases hs
 ·rw [e] at hs;have hg':g'=g:=congrArg Addr.block (Option.some.inj hs);subst hg';refine ⟨cur,hb,by rw [h3];exact mul_one _,?_,h1,h2,hg,by rw [e]⟩;rw [<-qk1,<-h4];show _=cur.take (xs.length*1);rw [mul_one]
theorem q38 {w w':World} {b g:Nat} {xs ys:List UInt8} {s:Slc} {cur:List Value} {k:Nat} (h:Go.Vc.Own qu w b s xs) (hs:s.a=some ⟨g,0,none⟩) (hc:Blk w g za cur) (hk:k+ys.length<=xs.length) (hw:Blk w' g za (putL cur k (jU ys))) :
  Go.Vc.Own qu w' b s (xs.take k++ys++xs.drop (k+ys.length)):=by
 obtain ⟨cur',hb,hl,ht,h1,h2,h3,h4⟩:=qwv (c:=0) h hs;have e:cur'=cur:=by
  unfold Blk at hb hc;rw [hb] at hc;injection hc with hc
  injection hc with hc _ _
  simpa using hc
 subst e;have hlen:(xs.take k++ys++xs.drop (k+ys.length)).length=xs.length:=by simp;omega
 obtain ⟨a,n,c⟩:=s;dsimp only at hs hl h1 h2 h4;subst hs h4;have:=Go.Vc.Own.of_blk (E:=qu) (xs:=xs.take k++ys++xs.drop (k+ys.length)) (c:=c) h3 hw (by omega) h2 (by rw [KT,hl];exact (mul_one _).symm) (by
  rw [qk1,hlen];show (putL cur' k (jU ys)).take (xs.length*1)=_;rw [mul_one];refine List.ext_getElem? λm=>?_;by_cases hm:m<xs.length
  ·rw [List.getElem?_take_of_lt hm,VE _ _ _ _ (by rw [yv];omega),yv];have hcm:cur'[m]?=(jU xs)[m]?:=by rw [<-ht,List.getElem?_take_of_lt hm]
   have hbm:∀l:List UInt8,(jU l)[m]?=(l[m]?).map λb=>Value.int .u8 (b.toNat:Int):=λl=>by unfold jU;rw [List.getElem?_map]
   by_cases hin:k<=m/\m<k+ys.length
   ·rw [if_pos hin,hbm,append_assoc,List.getElem?_append_right (by rw [length_take];omega),length_take,Nat.min_eq_left (by omega),List.getElem?_append_left (by omega)];unfold jU;rw [List.getElem?_map]
   ·rw [if_neg hin,hcm,hbm,hbm];congr 1;by_cases hmk:m<k
    ·rw [append_assoc,List.getElem?_append_left (by rw [length_take];omega),List.getElem?_take_of_lt hmk]
    ·rw [append_assoc,List.getElem?_append_right (by rw [length_take];omega),length_take,Nat.min_eq_left (by omega),List.getElem?_append_right (by omega),List.getElem?_drop];congr 1;omega
  ·rw [List.getElem?_eq_none (by rw [length_take];omega),List.getElem?_eq_none (by rw [yv];omega)])
 rw [hlen] at this;exact this
def qol (P:List UInt8) (W py:Nat) (c:List UInt8) (x0:Nat):Nat->List UInt8
 | 0=>P
 | k+1=>qfo (qol P W py c x0 k) (4*(py*W+(x0+k))) c
def qcm (P:List UInt8) (W:Nat) (c:List UInt8) (x0 nx y0:Nat):Nat->List UInt8
 | 0=>P
 | k+1=>qol (qcm P W c x0 nx y0 k) W (y0+k) c x0 nx
def lo0 (x:Int):Nat:=(if 0>x then 0 else x).toNat
def hiN (x wx:Int) (W:Nat):Nat:=(if (W:Int)<x+wx then (W:Int) else x+wx).toNat
def qux (P:List UInt8) (W H:Nat) (x y wx hx:Int) (c:List UInt8):List UInt8:=qcm P W c (lo0 x) (hiN x wx W-lo0 x) (lo0 y) (hiN y hx H-lo0 y)
theorem qt4 {m c:List UInt8} {k:Nat} (hk:k+4<=m.length) (hc:c.length=4):(qfo m k c).length=m.length:=by
 unfold qfo;simp only [length_append,length_take,length_drop];omega
theorem qpe {W H x y:Nat} (hx:x<W) (hy:y<H):4*(y*W+x)+4<=4*W*H:=by
 have h1:(y+1)*W<=H*W:=Nat.mul_le_mul_right W hy;rw [Nat.add_mul] at h1;have h2:4*W*H=4*(H*W):=by rw [Nat.mul_assoc,Nat.mul_comm W H]
 omega
theorem YB {W H py:Nat} {c:List UInt8} {x0:Nat} {P:List UInt8} (hP:P.length=4*W*H) (hc:c.length=4) (hy:py<H):∀n,x0+n<=W->(qol P W py c x0 n).length=4*W*H
 | 0,_=>hP
 | n+1,h=>by
  have ih:=YB (x0:=x0) hP hc hy n (by omega);show (qfo _ _ _).length=_;rw [qt4 (by rw [ih];exact qpe (x:=x0+n) (y:=py) (by omega) hy) hc,ih]
theorem Xi {W H:Nat} {c:List UInt8} {x0 nx y0:Nat} {P:List UInt8} (hP:P.length=4*W*H) (hc:c.length=4) (hx:x0+nx<=W\/nx=0):∀n,(y0+n<=H\/n=0)->(qcm P W c x0 nx y0 n).length=4*W*H
 | 0,_=>hP
 | n+1,h=>by
  have ih:=Xi (y0:=y0) hP hc hx n (by omega);rcases hx with hx | rfl
  ·exact YB ih hc (by omega) nx hx
  ·exact ih
theorem zdt (x wx:Int) (W:Nat):lo0 x+(hiN x wx W-lo0 x)<=W\/hiN x wx W-lo0 x=0:=by
 unfold hiN lo0;split<;>split<;>omega
theorem q3y {P:List UInt8} {W H:Nat} {x y wx hx:Int} {c:List UInt8} (hP:P.length=4*W*H) (hc:c.length=4):(qux P W H x y wx hx c).length=4*W*H :=
 Xi hP hc (zdt x wx W) _ (zdt y hx H)
def zkb (c:List UInt8) (r:qh):Prop:=c.length=4/\qh.rep.cells r=jU c
structure MatM (w:World) (base:Nat) (m:qa) (W H:Nat) (P:List UInt8):Prop where
 hw:m.W=W
 hh:m.H=H
 own:Go.Vc.Own qu w base m.P P
 len:P.length=4*W*H
 lim:1<=W/\W<=16384/\1<=H/\H<=16384/\4*W*H<=268435456
section
variable {w w':World} {base W H:Nat} {m:qa} {P:List UInt8}
theorem MatM.ext (h:MatM w base m W H P) (hB:Uc w w'):MatM w' base m W H P:=⟨h.hw,h.hh,h.own.ext hB,h.len,h.lim⟩
theorem MatM.some_ (h:MatM w base m W H P):∃g,m.P.a=some ⟨g,0,none⟩/\m.P.blk=some g:=by
 rcases h.own.form with ⟨_,e⟩ | ⟨g,cur,hs,_⟩
 ·have h1:=h.len;rw [e] at h1;have:=h.lim;have h2:1*1<=W*H:=Nat.mul_le_mul this.1 this.2.2.1;rw [Nat.mul_assoc] at h1;simp at h1;omega
 ·exact ⟨g,by rw [hs],by rw [hs];rfl⟩
theorem qt6 (h:MatM w base m W H P) {x y wx hx:Int} (bx:-100000000<=x/\x<=100000000) (by_:-100000000<=y/\y<=100000000) (bw:-100000000<=wx/\wx<=100000000) (bh:-100000000<=hx/\hx<=100000000) {c:qh} {cb:List UInt8} (hc:zkb cb c) {K:Ub}
  (hK:∀w',MatM w' base m W H (qux P W H x y wx hx cb)->Chg (λk=>m.P.blk=some k) w w'->K w'):YR m x y wx hx c w K:=by
 refine qwn _ _ _ _ _ _ ?_;obtain ⟨gm,ha,hbm⟩:=h.some_;have hlim:=h.lim;refine nwb λw1 hm1 hB1 hs1=>nwb λw2 hc2 hB2 hs2=>?_;have hB12:=bT hB1 hB2;have gl:=(h.own.lt gm hbm).2;have hm2:=hm1.ext hB2;have hm2l:=hm2.lt;have hc2l:=hc2.lt;have el:qh.rep.cells c=jU cb:=hc.2;have ewx:i64.wrap (x+wx)=x+wx:=qQ (by omega);have ehx:i64.wrap (y+hx)=y+hx:=qQ (by omega);obtain ⟨x0,hx0⟩:∃x0,x0=lo0 x:=⟨_,rfl⟩;obtain ⟨nx,hnx⟩:∃nx,nx=hiN x wx W-lo0 x:=⟨_,rfl⟩;obtain ⟨y0,hy0⟩:∃y0,y0=lo0 y:=⟨_,rfl⟩;obtain ⟨ny,hny⟩:∃ny,ny=hiN y hx H-lo0 y:=⟨_,rfl⟩;have lx:(x0:Int)=(if 0>x then 0 else x):=by rw [hx0];unfold lo0;split<;>omega
 have ly:(y0:Int)=(if 0>y then 0 else y):=by rw [hy0];unfold lo0;split<;>omega
 have cx:∀k:Nat,((x0:Int)+k<(if (W:Int)<x+wx then (W:Int) else x+wx))↔k<nx:=by
  intro k;rw [hnx];unfold hiN;rw [<-hx0];split<;>omega
 have cy:∀k:Nat,((y0:Int)+k<(if (H:Int)<y+hx then (H:Int) else y+hx))↔k<ny:=by
  intro k;rw [hny];unfold hiN;rw [<-hy0];split<;>omega
 have wx':=zdt x wx W;have hx':=zdt y hx H;rw [<-hnx,<-hx0] at wx';rw [<-hny,<-hy0] at hx';have hfin:qux P W H x y wx hx cb=qcm P W cb x0 nx y0 ny:=by unfold qux;rw [hx0,hnx,hy0,hny]
 rw [hfin] at hK;have ld:∀{w3},Chg (λk=>k=gm) w2 w3->Blk w3 w.heap.size qz (qa.rep.cells m)/\Blk w3 w1.heap.size qJ (qh.rep.cells c):=λhc3=>⟨hm2.chg hc3 (by omega),hc2.chg hc3 (by have:=hB1.size;omega)⟩;rw [show (if (0:Int)>y then (0:Int) else y)=(y0:Int) from ly.symm];refine lpR (λ(st:Int×Unit) w3=>∃k:Nat,st.1=(y0:Int)+k/\(k<=ny)/\Go.Vc.Own qu w3 base m.P (qcm P W cb x0 nx y0 k)/\Chg (λk=>k=gm) w2 w3) (λst=>ny-(st.1-(y0:Int)).toNat) ⟨0,by omega,zero_le _,h.own.ext hB12,Chg.refl _ _⟩ ?_;rintro ⟨i,u⟩ w3 ⟨k,hi,hk,ho3,hc3⟩ I hI;dsimp only at hi ⊢;subst hi;obtain ⟨hmm,hcc⟩:=ld hc3;refine lI (x:=(H:Int)) (by rw [<-h.hh];exact hmm.cells 1 _ rfl) ?_;rw [ehx];refine cO (λe=>?_) λe=>?_
 ·have hkn:k<ny:=(cy k).1 (oTq e);have hyH:y0+ny<=H:=hx'.resolve_right (by omega);have hlen:(qcm P W cb x0 nx y0 k).length=4*W*H:=Xi h.len hc.1 wx' k (by omega);rw [show (if (0:Int)>x then (0:Int) else x)=(x0:Int) from lx.symm];refine lpR (λ(st:Int×Unit) w4=>∃j:Nat,st.1=(x0:Int)+j/\j<=nx/\Go.Vc.Own qu w4 base m.P (qol (qcm P W cb x0 nx y0 k) W (y0+k) cb x0 j)/\Chg (λk=>k=gm) w2 w4) (λst=>nx-(st.1-(x0:Int)).toNat) ⟨0,by omega,zero_le _,ho3,hc3⟩ ?_;rintro ⟨i2,u2⟩ w4 ⟨j,hi2,hj,ho4,hc4⟩ I2 hI2;dsimp only at hi2 ⊢;subst hi2;obtain ⟨hmm4,hcc4⟩:=ld hc4;refine lI (x:=(W:Int)) (by rw [<-h.hw];exact hmm4.cells 0 _ rfl) ?_;rw [ewx];refine cO (λe=>?_) λe=>?_
  ·have hjn:j<nx:=(cx j).1 (oTq e);have hxW:x0+nx<=W:=wx'.resolve_right (by omega);have hl4:(qol (qcm P W cb x0 nx y0 k) W (y0+k) cb x0 j).length=4*W*H:=YB hlen hc.1 (by omega) j (by omega);have hin:=qpe (W:=W) (H:=H) (x:=x0+j) (y:=y0+k) (by omega) (by omega);refine lSl (x:=m.P) (hmm4.drew.cells 2 _ rfl) (lI (x:=(W:Int)) (by rw [<-h.hw];exact hmm4.drew.cells 0 _ rfl) ?_);have eidx:i64.wrap ((4:Int)*i64.wrap (i64.wrap (((y0:Int)+(k:Int))*(W:Int))+((x0:Int)+(j:Int))))=((4*((y0+k)*W+(x0+j)):Nat):Int):=by
    have e1:((y0:Int)+(k:Int))*(W:Int)=(((y0+k)*W:Nat):Int):=by simp
    rw [e1];generalize (y0+k)*W=q at hin ⊢;rw [qQ (x:=((q:Nat):Int)) (by omega),qQ (x:=((q:Nat):Int)+((x0:Int)+(j:Int))) (by omega),qQ (by omega)];omega
   rw [eidx];obtain ⟨o,hoo⟩:∃o,o=4*((y0+k)*W+(x0+j)):=⟨_,rfl⟩;rw [<-hoo] at hin ⊢;have ho5:Go.Vc.Own qu w4.drew base m.P (qol (qcm P W cb x0 nx y0 k) W (y0+k) cb x0 j):=ho4.drew;refine ho5.rd.slK (l:=o) (m:=(qol (qcm P W cb x0 nx y0 k) W (y0+k) cb x0 j).length) rfl (.inr rfl) (.inl ⟨rfl,rfl⟩) (by omega) (le_refl _) λ_=>?_;obtain ⟨cur,hcur,hcl,hct,hc1,hc2',hc3',hc4'⟩:=qwv (c:=0) ho5 ha;have hcut:cut m.P.a o m.P.c qu.k=some ⟨gm,o,none⟩:=by
    unfold cut;rw [if_neg (by omega),ha];show some ((⟨gm,0,none⟩:Addr).add (o*1))=_;rw [qH,mul_one,Nat.zero_add]
   rw [hcut];have hrc:Rd qu w4.drew ⟨some ⟨w1.heap.size,0,none⟩,4,4⟩ cb:=by
    refine ⟨hc.1.symm,le_refl _,by simp [maxLen],λ_=>rfl,λi y hy=>?_⟩;have hbc':=hcc4.drew.cells i (.int .u8 (y.toNat:Int)) (by rw [el];unfold jU;rw [List.getElem?_map,hy];rfl);intro j v hj
    match j,hj with
    | 0,hj =>
     cases hj;show w4.drew.cell? (((⟨w1.heap.size,0,none⟩:Addr).add (i*1)).add 0)=_;rw [add_zero,mul_one];exact hbc'
    | j+1,hj=>simp [qu] at hj
   show jq PG (copy_ #[qm,qm] zz #[(.slice (some ⟨gm,o,none⟩) ((qol (qcm P W cb x0 nx y0 k) W (y0+k) cb x0 j).length-o) (m.P.c-o)),(.slice (some ((⟨w1.heap.size,0,none⟩:Addr).add (0*1))) 4 4)]) (Kind.int .i64) w4.drew _;rw [Nat.zero_mul,add_zero];refine zhh (x:=⟨some ⟨w1.heap.size,0,none⟩,4,4⟩) (ys:=cb) (n:=4) hcur hrc (by rw [hc.1];omega) (by omega) λw6 hb6 hc6 hs6=>?_;rw [List.take_of_length_le (by rw [hc.1];omega)] at hb6;have ho6:=q38 (ys:=cb) (k:=o) ho5 ha hcur (by rw [hc.1];omega) hb6;rw [qQ (x:=(x0:Int)+(j:Int)+1) (by omega)];refine hI2 _ _ ⟨j+1,by simp;omega,by omega,?_,(hc4.trans (Chg.of_ext (S:=λk=>k=gm) (bdw w4)) λ_ _ h=>h).trans hc6 λ_ _ h=>h⟩ (by dsimp only;omega);show Go.Vc.Own qu w6 base m.P (qfo (qol (qcm P W cb x0 nx y0 k) W (y0+k) cb x0 j) (4*((y0+k)*W+(x0+j))) cb);rw [<-hoo];have e4:cb.length=4:=hc.1;unfold qfo;rw [<-e4];exact ho6
  ·have hjn:¬j<nx:=λhh=>oFq e ((cx j).2 hh);have:j=nx:=by omega
   subst this;rw [qQ (x:=(y0:Int)+(k:Int)+1) (by omega)];exact hI _ _ ⟨k+1,by simp;omega,by omega,ho4,hc4⟩ (by dsimp only;omega)
 ·have hkn:¬k<ny:=λhh=>oFq e ((cy k).2 hh);have:k=ny:=by omega
  subst this;refine hK w3 ⟨h.hw,h.hh,ho3,Xi h.len hc.1 wx' k hx',h.lim⟩ ?_;refine (Chg.of_ext (S:=λk=>m.P.blk=some k) hB12).trans (hc3.mono λk' _ e=>?_) λ_ _ h=>h;show m.P.blk=some k';rw [e];exact hbm
end
abbrev qU:=qP
abbrev vD:=qt
instance:Inhabited qt:=⟨⟨0,0,0⟩⟩
instance:Inhabited qP:=⟨⟨0,0,⟨0,0,0⟩⟩⟩
def zi:El qP where
 cells:=qP.rep.cells
 t:=qR
 k:=5
 pos:=by decide
 len _:=rfl
 one x v hv:=by
  simp only [qP.rep,mem_cons,mem_nil_iff,or_false] at hv;rcases hv with rfl | rfl | rfl | rfl | rfl<;>rfl
noncomputable def q7r:SlT PG zi zr where
 ht:=by kernel_rfl
 i:=(PG.info? qR).getD default
 hi:=by kernel_rfl
 z:=.agg #[.int .i32 0,.int .i64 0,.int .i64 0,.int .i64 0,.int .i64 0]
 hz:=by kernel_rfl
 hs:=by kernel_rfl
 hzs:=rfl
noncomputable def zld:SlT PG zi xA where
 ht:=by kernel_rfl
 i:=(PG.info? qR).getD default
 hi:=by kernel_rfl
 z:=.agg #[.int .i32 0,.int .i64 0,.int .i64 0,.int .i64 0,.int .i64 0]
 hz:=by kernel_rfl
 hs:=by kernel_rfl
 hzs:=rfl
theorem zkz:q7r.i.bytes=40:=by kernel_rfl
theorem zn7:zld.i.bytes=40:=by kernel_rfl
def qhs (xs:List qU) (i:Int):Int:=if 0<=i then ((xs[i.toNat]?).map (·.Kind)).getD (-1) else -1
def isB (xs:List qU) (col kind:Int):Bool:=decide (0<=col) && decide (col<xs.length) && (qhs xs col==kind)
def X3 (xs:List qU) (i:Int):Bool :=
 if qhs xs i=0 then true else if qhs xs i=1 then isB xs (i+1) 2 else if qhs xs i=2 then isB xs (i-1) 1 else false
def okB (xs:List qU) (i:Nat):Bool:=X3 xs i && !(qhs xs i==2 && ((xs[i]?).map (·.R)).getD 0 !=0)
def ZM (xs:List qU):Bool:=(List.range xs.length).all (okB xs)
def xz (a:vD):qU:=⟨0,0,a⟩
def Ys (xs:List qU) (i:Nat) (c:qU):qU :=
 if c.Kind≠0/\c.Kind≠1/\c.Kind≠2 then { c with Kind:=0 } else if X3 xs i=false then xz c.A else if c.Kind=2 then { c with R:=0 } else c
def ju (xs:List qU):List qU:=xs.mapIdx (Ys xs)
theorem jg (xs:List qU):(ju xs).length=xs.length:=by simp [ju]
theorem YW (xs:List qU) (i:Nat) (x:qU) (h:xs[i]?=some x):(ju xs)[i]?=some (Ys xs i x):=by simp [ju,h]
theorem qhc {xs:List qU} {i:Nat} {x:qU} (h:xs[i]?=some x):qhs xs i=x.Kind:=by simp [qhs,h]
theorem qxz {xs:List qU} {i:Int} (h0:0<=i) (h1:i<xs.length):qhs xs i=(xs[i.toNat]'(by omega)).Kind:=by
 have:i.toNat<xs.length:=by omega
 simp [qhs,h0,this]
theorem q2r {w:World} {a:Addr} {c:qU} (h:q6 w a (zi.cells c)):w.cell? (a.add 1)=some (Ua c.Kind):=h 1 _ rfl
theorem zje {w:World} {a:Addr} {c:qU} (h:q6 w a (zi.cells c)):q6 w (a.add 2) (qt.rep.cells c.A) :=
 h.sub 2 λj v hj=>by
  match j,hj with
  | 0,hj=>exact hj
  | 1,hj=>exact hj
  | 2,hj=>exact hj
  | j+3,hj=>cases hj
theorem q13 {w:World} {s:Slc} {xs:List qU} (h:Rd zi w s xs):xs.length<=9223372036854775807:=by
 have h1:=h.n;have h2:=h.nc;have h3:=h.cm;unfold maxLen at h3;rw [h1] at h2;omega
theorem q17 {l:Slc} {xs:List qU} {col kind:Int} {w:World} {K:Bool->Ub} (h:Rd zi w l xs) (hK:K (isB xs col kind) w):Xa l col kind w K:=by
 refine qqt _ _ _ ?_;refine cO (λh1=>?_) (λh1=>?_)
 ·have h1:=oTq h1;refine cO (λh2=>?_) (λh2=>?_)
  ·have h2:=oTq h2;rw [h.n] at h2;refine h.ix rfl h1 h2 λhc=>lI (q2r hc) ?_;have e:isB xs col kind=(xs[col.toNat].Kind==kind):=by
    unfold isB;rw [dTq (show 0<=col from h1),dTq h2,qxz h1 h2];rfl
   rw [<-e];exact hK
  ·have h2:=oFq h2;rw [h.n] at h2;have e:isB xs col kind=false:=by
    unfold isB;rw [dFq h2];simp
   rw [<-e];exact hK
 ·have h1:=oFq h1;have e:isB xs col kind=false:=by simp only [isB,dFq (show ¬0<=col from h1),Bool.false_and]
  rw [<-e];exact hK
theorem q10 {l:Slc} {xs:List qU} {col:Int} {w:World} {K:Bool->Ub} (h:Rd zi w l xs) (h0:0<=col) (h1:col<xs.length) (hK:K (X3 xs col) w):vx l col w K:=by
 have hm:=q13 h;refine qmu _ _ ?_;refine h.ix rfl h0 h1 λhc=>lI (q2r hc) ?_;rw [<-qxz h0 h1];rw [qQ (show -9223372036854775808<=col+1/\col+1<=9223372036854775807 by omega),qQ (show -9223372036854775808<=col-1/\col-1<=9223372036854775807 by omega)];unfold X3 at hK;refine cO (λe=>?_) (λe=>?_)
 ·rw [if_pos (eq_of_beq e)] at hK;exact hK
 ·have e:=beq_eq_false_iff_ne.1 e;rw [if_neg e] at hK;refine cO (λe=>?_) (λe=>?_)
  ·rw [if_pos (eq_of_beq e)] at hK;exact q17 h hK
  ·have e:=beq_eq_false_iff_ne.1 e;rw [if_neg e] at hK;refine cO (λe=>?_) (λe=>?_)
   ·rw [if_pos (eq_of_beq e)] at hK;exact q17 h hK
   ·have e:=beq_eq_false_iff_ne.1 e;rw [if_neg e] at hK;exact hK
theorem qjy {n:Int} {a:vD} {w:World} {K:Slc->Ub} (hn:n<=1000000)
  (hK:∀r w',Go.Vc.Own zi w' w.heap.size r (List.replicate n.toNat (xz a))->Uc w w'->K r w'):Zz n a w K:=by
 refine qs3 _ _ ?_;refine nwb λw1 hb1 hB1 hs1=>?_;refine lpR (λ(s:Slc×Int×Unit) w2=>∃k:Nat,s.2.1=k/\(k:Int)<=max n 0/\Go.Vc.Own zi w2 w.heap.size s.1 (List.replicate k (xz a))/\Blk w2 w.heap.size zH (qt.rep.cells a)/\Uc w w2/\w.heap.size<w2.heap.size/\(∀g,s.1.blk=some g->w.heap.size<g))
  (λs=>(n-s.2.1).toNat) ⟨0,rfl,by omega,Go.Vc.Own.nil _ _ _,hb1,hB1,by omega,λg hg=>by cases hg⟩ ?_
 rintro ⟨s,i,_⟩ w2 ⟨k,rfl,hk,ho,hb,hB,hlt,hne⟩ I hI;dsimp only at *;refine cO (λh=>?_) (λh=>?_)
 ·have h:=oTq h;refine qy hb.cells ?_;refine nwb λw3 hb3 hB3 hs3=>?_;have hd:Rd zi w3 ⟨some ⟨w2.heap.size,0,none⟩,1,1⟩ [xz a]:=Ze (E:=zi) hb3 rfl;refine jz q7r (ho.ext hB3) hd (by omega) (by rw [zkz];simp;omega) (by simp [maxLen];omega) λr w4 ho4 hg4 hr4=>?_;rw [qQ (by omega)];have hB4:Uc w w4:=(hB.trans (hB3.mono (by omega))).grown hg4 (by omega) λg hg=>by
   exact ((ho.lt g hg).1)
  refine hI (r,(k:Int)+1,()) w4 ⟨k+1,by simp,by omega,?_,?_,hB4,?_,?_⟩ (by simp;omega)
  ·rw [List.replicate_succ'];exact ho4
  ·refine (hb.ext hB3).grown hg4 λe=>?_;have:=hne _ e.symm;omega
  ·have:=hg4.size;omega
  ·intro g hg;rcases hr4 with e | e
   ·rw [e] at hg;exact hne g hg
   ·rw [e] at hg;cases hg;omega
 ·have h:=oFq h;refine hK s w2 ?_ hB;have:n.toNat=k:=by omega
  rw [this];exact ho
def y1 (cols:Int) (a:vD):List qU:=if cols<0\/cols>1000 then [] else List.replicate cols.toNat (xz a)
theorem zaz {n:Int} {a:vD} {w:World} {K:Slc->Ub}
  (hK:∀r w',Go.Vc.Own zi w' w.heap.size r (y1 n a)->Uc w w'->K r w'):qqg n a w K:=by
 refine q0n _ _ ?_;refine nwb λw1 hb1 hB1 hs1=>?_;refine jpO λJ hJ=>?_;have nilc:(n<0\/n>1000)->K ⟨none,0,0⟩ w1:=λh=>hK _ _ (by rw [y1,if_pos h];exact Go.Vc.Own.nil _ _ _) hB1;refine cO (λh=>nilc (.inl (oTq h))) (λh=>?_);refine cO (λh=>nilc (.inr (oTq h))) (λh'=>?_);have h:=oFq h;have h':=oFq h';refine hJ _ _ (qy hb1.cells (qjy (by omega) λr w' ho hB=>hK r w' ?_ (hB1.trans (hB.mono (by omega)))));rw [y1,if_neg (by omega)];exact ho.base (by omega)
theorem YQ {s:Slc} {xs:List qU} {w:World} {K:Slc->Ub} (h:Rd zi w s xs) (hl:xs.length<=1000000)
  (hK:∀r w',Go.Vc.Own zi w' w.heap.size r xs->Uc w w'->K r w'):zI s w K:=by
 refine QY _ ?_;refine cO (λe=>?_) (λe=>?_)
 ·have:s.a=none:=by cases ha:s.a with
   | none=>rfl
   | some a=>rw [ha] at e;cases e
  rw [h.none_nil this] at hK;exact hK _ _ (Go.Vc.Own.nil _ _ _) (Below.refl _ _)
 ·refine nwb λw1 hb1 hB1 hs1=>?_;refine jz q7r (YZ (E:=zi) hb1 (le_refl _)) (h.ext hB1) (by omega) (by rw [zkz];simp;omega) (by simp [maxLen];omega) λr w2 ho2 hg2 hr2=>?_;exact hK r w2 (by simpa using ho2) (hB1.grown hg2 (by omega) λg hg=>by cases hg;exact le_refl _)
theorem YY {l:Slc} {xs:List qU} {w:World} {K:Slc->Ub} (h:Rd zi w l xs) (hl:xs.length<=1000000)
  (hK:∀r w',Go.Vc.Own zi w' w.heap.size r (ju xs)->Uc w w'->K r w'):jL l w K:=by
 refine qnk _ ?_;refine YQ h hl λr w1 ho1 hB1=>?_;refine lpR (λ(s:Int×Unit) w2=>∃k:Nat,s.1=k/\k<=xs.length/\Go.Vc.Own zi w2 w.heap.size r (mix (ju xs) xs k)/\Uc w w2)
  (λs=>xs.length-s.1.toNat) ⟨0,rfl,by omega,by rw [zi0];exact ho1,hB1⟩ ?_
 rintro ⟨i,_⟩ w2 ⟨k,rfl,hk,ho,hB⟩ I hI;dsimp only at *;have hml:=jg xs;refine cO (λhlt=>?_) (λhge=>?_)
 ·have hlt:=oTq hlt;rw [h.n] at hlt;have hkl:k<xs.length:=by omega
  obtain ⟨x,hx⟩:∃x,xs[k]?=some x:=⟨xs[k],List.getElem?_eq_getElem hkl⟩;have hxs:xs[((k:Int)).toNat]'(by omega)=x:=by
   have:=List.getElem?_eq_getElem hkl;rw [hx] at this;exact (Option.some.inj this).symm
  have hm:=YW xs k x hx;have hcur:(mix (ju xs) xs k)[k]?=some x:=by rw [zc5 hml hkl,if_neg (by omega)];exact hx
  rw [qQ (by omega)];have hr0:r.n=xs.length:=by have:=ho.rd.n;rwa [qh6 hml] at this
  have fin:∀w',Go.Vc.Own zi w' w.heap.size r (mix (ju xs) xs (k+1))->Uc w w'->I ((k:Int)+1,()) w':=λw' ho' hB'=>
   hI _ _ ⟨k+1,by simp,by omega,ho',hB'⟩ (by simp;omega)
  have hrd:Rd zi w2 l xs:=h.ext hB;refine hrd.ix rfl (by omega) (by omega) λhc=>?_;rw [hxs] at hc;refine qy (x:=x) hc ?_;refine jd rfl λw4 hb4 hB4 hs4=>?_;have ho4:=ho.ext hB4;have hB04:Uc w w4:=hB.trans (hB4.mono hB.size);have hsz:w.heap.size<=w2.heap.size:=hB.size;have wr:∀(w5:World) (y:qU) (j:Nat) (us:List Value),Go.Vc.Own zi w5 w.heap.size r (mix (ju xs) xs k)->Uc w w5->Ys xs k x=y->j+us.length<=5->zi.cells y=putL (zi.cells x) j us ->
    ixK r (k:Int) 5 λt=>stK (t.add j) us w5 λw6=>I ((k:Int)+1,()) w6:=by
   intro w5 y j us ho5 hB5 hy hj hp;refine ho5.rd.ix (xs:=mix (ju xs) xs k) rfl (by omega) (by rw [qh6 hml];omega) λ_=>?_;refine ho5.st (i:=k) (x:=x) (y:=y) (by simpa using hcur) hj hp λw6 ho6 hg6 hs6=>fin _ ?_ ?_
   ·rw [q5k hml hkl (by rw [hm,hy])] at ho6;exact ho6
   ·exact hB5.grown hg6 hB5.size λg hg=>(ho5.lt g hg).1
  have wr0:∀(w5:World) (y:qU) (us:List Value),Go.Vc.Own zi w5 w.heap.size r (mix (ju xs) xs k)->Uc w w5->Ys xs k x=y->zi.cells y=us ->
    ixK r (k:Int) 5 λt=>stK t us w5 λw6=>I ((k:Int)+1,()) w6:=by
   intro w5 y us ho5 hB5 hy hp;refine ho5.rd.ix (xs:=mix (ju xs) xs k) rfl (by omega) (by rw [qh6 hml];omega) λ_=>?_;refine ho5.st0 (i:=k) (x:=x) (y:=y) (by simpa using hcur) hp λw6 ho6 hg6 hs6=>fin _ ?_ ?_
   ·rw [q5k hml hkl (by rw [hm,hy])] at ho6;exact ho6
   ·exact hB5.grown hg6 hB5.size λg hg=>(ho5.lt g hg).1
  refine jpO λJ hJ=>?_;have q6x:w4.cell? ((⟨w2.heap.size,0,none⟩:Addr).add 1)=some (Ua x.Kind):=hb4.cells 1 _ rfl;have bad:(x.Kind≠0/\x.Kind≠1/\x.Kind≠2)->J (true,()) w4:=λhb=>hJ _ _ (by
   dsimp only [cond_true];exact wr w4 { x with Kind:=0 } 1 _ ho4 hB04 (by rw [Ys,if_pos hb]) (by simp) rfl)
  have good:¬(x.Kind≠0/\x.Kind≠1/\x.Kind≠2)->J (false,()) w4:=λhg=>hJ _ _ (by
   dsimp only [cond_false];refine q10 (h.ext hB04) (by omega) (by omega) ?_;refine cO (λhf=>?_) (λhf=>?_)
   ·have hf:X3 xs k=false:=by simpa using hf
    refine qy (x:=x.A) (zje hb4.cells) ?_;exact wr0 w4 (xz x.A) _ ho4 hB04 (by rw [Ys,if_neg hg,if_pos hf]) rfl
   ·have hf:¬X3 xs k=false:=by simpa using hf
    refine lI q6x ?_;refine cO (λh2=>?_) (λh2=>?_)
    ·have h2:=eq_of_beq h2;exact wr w4 { x with R:=0 } 0 _ ho4 hB04 (by rw [Ys,if_neg hg,if_neg hf,if_pos h2]) (by simp) rfl
    ·have h2:=beq_eq_false_iff_ne.1 h2;have hy:Ys xs k x=x:=by rw [Ys,if_neg hg,if_neg hf,if_neg h2]
     refine fin _ ?_ hB04;rw [<-zgm hml hkl (by rw [hm,hx,hy])];exact ho4)
  refine lI q6x ?_;refine cO (λh0=>?_) (λh0=>?_)
  ·have h0:x.Kind≠0:=by simpa using h0
   refine lI q6x ?_;refine cO (λh1=>?_) (λh1=>?_)
   ·have h1:x.Kind≠1:=by simpa using h1
    refine lI q6x ?_;by_cases h2:x.Kind=2
    ·rw [show (x.Kind !=2)=false by simp [h2]];exact good λhb=>hb.2.2 h2
    ·rw [show (x.Kind !=2)=true by simpa using h2];exact bad ⟨h0,h1,h2⟩
   ·have h1:x.Kind=1:=by simpa using h1
    exact good λhb=>hb.2.1 h1
  ·have h0:x.Kind=0:=by simpa using h0
   exact good λhb=>hb.1 h0
 ·have hge:=oFq hge;rw [h.n] at hge;have:k=xs.length:=by omega
  subst this;rw [zkg hml] at ho;exact hK r w2 ho hB
theorem zf8 {xs:List qU} (h:∀i,i<xs.length->okB xs i=true):ZM xs=true:=by
 unfold ZM;rw [List.all_eq_true];exact λi hi=>h i (List.mem_range.1 hi)
theorem zdd {xs:List qU} {k:Nat} {x:qU} (hx:xs[k]?=some x):okB xs k=(X3 xs k && !(x.Kind==2 && x.R !=0)):=by
 unfold okB;rw [qhc hx,hx];rfl
theorem get_of {xs:List qU} {k:Nat} (hk:k<xs.length):∃x,xs[k]?=some x/\∀h,xs[((k:Int)).toNat]'h=x :=
 ⟨xs[k],List.getElem?_eq_getElem hk,λ_=>rfl⟩
theorem q6c {a:vD} {w:World} {K:qU->Ub} (hK:∀w',Uc w w'->w.heap.size<=w'.heap.size->K (xz a) w'):qkd a w K:=by
 refine qyl _ ?_;refine nwb λw1 hb1 hB1 hs1=>nwb λw2 hb2 hB2 hs2=>?_;refine qy (x:=a) (hb1.ext hB2).cells ?_;refine qB hb2 (by simp) λw3 hb3 hg3 hs3=>?_;refine qy (x:=xz a) hb3.cells ?_;have hB:Uc w w3:=(hB1.trans (hB2.mono (by omega))).grown hg3 (by omega) λg hg=>by cases hg;omega
 exact hK w3 hB hB.size
theorem zd3 {n:Int} {a:vD} {w:World} {K:Slc->Ub}
  (hK:∀r w',Go.Vc.Own zi w' w.heap.size r (y1 n a)->Uc w w'->K r w'):qs6 n a w K:=by
 refine q4c _ _ ?_;refine nwb λw1 hb1 hB1 hs1=>?_;refine cO (λh=>?_) (λhn=>?_)
 ·have h:=oTq h;exact hK _ _ (by rw [y1,if_pos (.inr h)];exact Go.Vc.Own.nil _ _ _) hB1
 have hn:=oFq hn;refine lpR (λ(s:Slc×Int×Unit) w2=>∃k:Nat,s.2.1=k/\(k:Int)<=max n 0/\Go.Vc.Own zi w2 w.heap.size s.1 (List.replicate k (xz a))/\Blk w2 w.heap.size zH (qt.rep.cells a)/\Uc w w2/\w.heap.size<w2.heap.size/\(∀g,s.1.blk=some g->w.heap.size<g))
  (λs=>(n-s.2.1).toNat) ⟨0,rfl,by omega,Go.Vc.Own.nil _ _ _,hb1,hB1,by omega,λg hg=>by cases hg⟩ ?_
 rintro ⟨s,i,_⟩ w2 ⟨k,rfl,hk,ho,hb,hB,hlt,hne⟩ I hI;dsimp only at *;refine cO (λh=>?_) (λh=>?_)
 ·have h:=oTq h;refine qy hb.cells ?_;refine q6c λw2' hB2' hs2'=>?_;refine nwb λw3 hb3 hB3 hs3=>?_;have hB3:Uc w2 w3:=hB2'.trans (hB3.mono hs2');have hd:Rd zi w3 ⟨some ⟨w2'.heap.size,0,none⟩,1,1⟩ [xz a]:=Ze (E:=zi) hb3 rfl;refine jz zld (ho.ext hB3) hd (by omega) (by rw [zn7];simp;omega) (by simp [maxLen];omega) λr w4 ho4 hg4 hr4=>?_;rw [qQ (by omega)];have hB4:Uc w w4:=(hB.trans (hB3.mono (by omega))).grown hg4 (by omega) λg hg=>by
   exact ((ho.lt g hg).1)
  refine hI (r,(k:Int)+1,()) w4 ⟨k+1,by simp,by omega,?_,?_,hB4,?_,?_⟩ (by simp;omega)
  ·rw [List.replicate_succ'];exact ho4
  ·refine (hb.ext hB3).grown hg4 λe=>?_;have:=hne _ e.symm;omega
  ·have:=hg4.size;omega
  ·intro g hg;rcases hr4 with e | e
   ·rw [e] at hg;exact hne g hg
   ·rw [e] at hg;cases hg;omega
 ·have h:=oFq h;refine hK s w2 ?_ hB;by_cases hn0:n<0
  ·have:k=0:=by omega
   rw [y1,if_pos (.inl hn0)];subst this;exact ho
  ·rw [y1,if_neg (by omega)];have:n.toNat=k:=by omega
   rw [this];exact ho
def zcy (x y:qU):Bool:=(x.R==y.R) && ((x.Kind==y.Kind) && (((x.A.Fg==y.A.Fg) && ((x.A.Bg==y.A.Bg) && ((x.A.Flags==y.A.Flags) && true))) && true))
theorem q2y {x y:qU}:zcy x y=true↔x=y:=by
 obtain ⟨r,k,f,b,g⟩:=x;obtain ⟨r',k',f',b',g'⟩:=y;simp only [zcy,Bool.and_true,Bool.and_eq_true,beq_iff_eq,qP.mk.injEq,qt.mk.injEq]
theorem zem {a b:Slc} {xs ys:List qU} {w:World} {K:Bool->Ub} (ha:Rd zi w a xs) (hb:Rd zi w b ys)
  (hK:∀r w',(r=true↔xs=ys)->Uc w w'->w'.heap.size=w.heap.size->K r w'):qow a b w K:=by
 have hm:=q13 ha;refine q0w _ _ ?_;refine cO (λh=>?_) (λh=>?_)
 ·have h:xs.length≠ys.length:=by
   rw [ha.n,hb.n] at h;have h:=bne_iff_ne.1 h;omega
  exact hK _ _ ⟨λe=>(by cases e),λe=>absurd (by rw [e]) h⟩ (Below.refl _ _) rfl
 ·have h:xs.length=ys.length:=by
   rw [ha.n,hb.n] at h;have h:=bne_eq_false_iff_eq.1 h;omega
  refine lpR (λ(s:Int×Unit) w2=>∃k:Nat,s.1=k/\k<=xs.length/\(∀i:Nat,i<k->xs[i]?=ys[i]?)/\Uc w w2/\w2.heap.size=w.heap.size)
   (λs=>xs.length-s.1.toNat) ⟨0,rfl,by omega,λi hi=>by omega,Below.refl _ _,rfl⟩ ?_
  rintro ⟨i,_⟩ w2 ⟨k,rfl,hk,ho,hB,hsz⟩ I hI;dsimp only at *;refine cO (λhlt=>?_) (λhge=>?_)
  ·have hlt:=oTq hlt;rw [ha.n] at hlt;have hkl:k<xs.length:=by omega
   obtain ⟨x,hx,hxs⟩:=get_of hkl;obtain ⟨y,hy,hys⟩:=get_of (xs:=ys) (k:=k) (by omega);refine (ha.ext hB).drew.ix rfl (by omega) (by omega) λhc=>?_;rw [hxs] at hc;refine qy (x:=x) hc ?_;refine (hb.ext hB).drew.ix rfl (by omega) (by omega) λhc=>?_;rw [hys] at hc;refine qy (x:=y) hc ?_;change cond (!(zcy x y)) _ _;refine cO (λe=>?_) (λe=>?_)
   ·have e:¬x=y:=λe'=>by rw [q2y.2 e'] at e;cases e
    refine hK _ _ ⟨λe=>(by cases e),λe'=>?_⟩ hB.drew hsz;subst e';rw [hx] at hy;exact absurd (Option.some.inj hy) e
   ·have e:x=y:=q2y.1 (by cases hq:zcy x y with
     | true=>rfl
     | false=>rw [hq] at e;cases e)
    rw [qQ (by omega)];refine hI _ _ ⟨k+1,by simp,by omega,λi hi=>?_,hB.drew,hsz⟩ (by simp;omega);rcases lt_or_ge i k with h' | h'
    ·exact ho i h'
    ·have:i=k:=by omega
     subst this;rw [hx,hy,e]
  ·have hge:=oFq hge;rw [ha.n] at hge;refine hK _ _ ⟨λ_=>?_,λ_=>rfl⟩ hB hsz;refine List.ext_getElem? λi=>?_;rcases lt_or_ge i k with h' | h'
   ·exact ho i h'
   ·rw [List.getElem?_eq_none (by omega),List.getElem?_eq_none (by omega)]
def qc6 (xs:List qU) (at_:Int):List qU:=if 0<=at_/\at_<xs.length/\X3 xs at_=false then xs.set at_.toNat (xz (xs.getD at_.toNat default).A) else xs
def qmt (xs:List qU) (from_ to:Int):List qU:=qc6 (qc6 xs (from_-1)) to
def qk6 (n:Nat) (col width:Int):Prop:=width<1\/width>2\/col<0\/col>n-width
instance (n:Nat) (col width:Int):Decidable (qk6 n col width):=by unfold qk6;infer_instance
def qzu (xs:List qU) (col r width:Int) (a:vD):List qU :=
 if width=2 then (xs.set col.toNat ⟨r,1,a⟩).set (col+1).toNat ⟨0,2,a⟩ else xs.set col.toNat ⟨r,0,a⟩
def q7c (xs:List qU) (col r width:Int) (a:vD):List qU:=if qk6 xs.length col width then ju xs else qmt (qzu (ju xs) col r width a) col (col+width)
def qcx (n:Nat) (col k:Int):Int:=if k<1\/col<0\/col>=n then 0 else min k (n-col)
def qhq (xs:List qU) (col k:Int) (a:vD):List qU :=
 let m:=ju xs
 let c:=qcx xs.length col k
 if c=0 then m else ju (m.take col.toNat++List.replicate c.toNat (xz a)++(m.take (xs.length-c.toNat)).drop col.toNat)
def delL (xs:List qU) (col k:Int) (a:vD):List qU :=
 let m:=ju xs
 let c:=qcx xs.length col k
 if c=0 then m else ju (m.take col.toNat++m.drop (col+c).toNat++List.replicate c.toNat (xz a))
def ZB (xs:List qU) (cols:Int):List qU :=
 let m:=ju xs
 let c:=min 1000 (max 0 cols)
 if c<=xs.length then ju (m.take c.toNat) else m++List.replicate (c-xs.length).toNat (xz ⟨0,0,0⟩)
theorem qg8 (xs:List qU) (i:Int):(qc6 xs i).length=xs.length:=by
 unfold qc6;split<;>simp
theorem qzl (xs:List qU) (i j:Int):(qmt xs i j).length=xs.length:=by rw [qmt,qg8,qg8]
theorem q3r (xs:List qU) (c r k:Int) (a:vD):(qzu xs c r k a).length=xs.length:=by
 unfold qzu;split<;>simp
theorem q7e {l:Slc} {xs:List qU} {from_ to:Int} {w:World} {base:Nat} {K:Slc->Ub} (h:Go.Vc.Own zi w base l xs) (hf:-1000000<=from_/\from_<=1000000)
  (hK:∀w',Go.Vc.Own zi w' base l (qmt xs from_ to)->Chg (λk=>l.blk=some k) w w'->K l w'):ZT l from_ to w K:=by
 refine qi6 _ _ _ ?_;refine nwb λw1 hb1 hB1 hs1=>?_;rw [qQ (x:=from_-1) (by omega)] at hb1;have ln:l.n=xs.length:=h.rd.n;have hne:∀k,l.blk=some k->k<w.heap.size:=λk hk=>(h.lt k hk).2;refine lpR (λ(s:Int×Unit) w2=>∃k:Nat,s.1=k/\k<=2/\Go.Vc.Own zi w2 base l (if k=0 then xs else if k=1 then qc6 xs (from_-1) else qmt xs from_ to)/\Blk w2 w.heap.size zz [.int .i64 (from_-1),.int .i64 to]/\Chg (λk=>l.blk=some k) w w2)
  (λs=>2-s.1.toNat) ⟨0,rfl,by omega,h.ext hB1,hb1,Chg.of_ext hB1⟩ ?_
 rintro ⟨i,_⟩ w2 ⟨k,rfl,hk,ho,hb,hc⟩ I hI;dsimp only at *;refine cO (λhlt=>?_) (λhge=>?_)
 ·have hlt:=oTq hlt;refine ⟨by omega,?_⟩;rw [qQ (x:=(k:Int)+1) (by omega)];have round:∀(ys zs:List qU) (p:Int),ys.length=xs.length->Go.Vc.Own zi w2 base l ys->zs=qc6 ys p->(∀w3,Go.Vc.Own zi w3 base l zs->Chg (λk=>l.blk=some k) w2 w3->I ((k:Int)+1,()) w3) ->
    qX (σ:=Bool×Unit) (λs_1 w3=>
     cond s_1.1
      (
       ixK l p 5 λt36=>ldS qt.rep (t36.add 2) w3 λt38=>ixK l p 5 λt40=>
       stK t40 [(.int .i32 0),(Ua 0),(Ua t38.Fg),(Ua t38.Bg),(Ua t38.Flags)] w3 λw4=>I ((k:Int)+1,()) w4)
      (I ((k:Int)+1,()) w3)) λJ2=>
    cond (decide (p>=(0:Int)))
     (cond (decide (p<((l.n:Nat):Int))) (vx l p w2 λt29 w5=>J2 ((!t29),()) w5) (J2 (false,()) w2)) (J2 (false,()) w2):=by
   intro ys zs p hy ho hz hfin;refine jpO λJ hJ=>?_;have stay:zs=ys->J (false,()) w2:=λe=>hJ _ _ (cF rfl (hfin _ (by rw [e];exact ho) (Chg.refl _ _)));refine cO (λh0=>?_) (λh0=>?_)
   ·have h0:0<=p:=oTq h0;refine cO (λh1=>?_) (λh1=>?_)
    ·have h1:=oTq h1;rw [ln] at h1;refine q10 ho.rd h0 (by omega) ?_;cases hfit:X3 ys p with
     | true=>exact stay (by rw [hz,qc6,if_neg (by simp [hfit])])
     | false =>
      refine hJ _ _ (cT rfl ?_);have hpl:p.toNat<ys.length:=by omega
      have hx:ys[p.toNat]?=some (ys[p.toNat]'hpl):=List.getElem?_eq_getElem _;have hze:zs=ys.set p.toNat (xz (ys[p.toNat]'hpl).A):=by
       rw [hz,qc6,if_pos ⟨h0,by omega,hfit⟩];simp [hx]
      refine ho.rd.ix rfl h0 (by omega) λhc=>?_;refine qy (x:=(ys[p.toNat]'hpl).A) (zje hc) ?_;refine ho.rd.ix rfl h0 (by omega) λhc=>?_;refine ho.st0 hx (y:=xz (ys[p.toNat]'hpl).A) rfl λw3 ho3 hg3 hs3=>?_;exact hfin _ (by rw [hze];exact ho3) (Chg.of_grown hg3 λk hk=>hk)
    ·have h1:=oFq h1;rw [ln] at h1;exact stay (by rw [hz,qc6,if_neg (by omega)])
   ·have h0:=oFq h0;exact stay (by rw [hz,qc6,if_neg (by omega)])
  have next:∀(zs:List qU),zs=(if k+1=0 then xs else if k+1=1 then qc6 xs (from_-1) else qmt xs from_ to)->∀w3,Go.Vc.Own zi w3 base l zs->Chg (λk=>l.blk=some k) w2 w3->I ((k:Int)+1,()) w3:=by
   intro zs hz w3 ho3 hc3;refine hI _ _ ⟨k+1,by simp,by omega,by rw [<-hz];exact ho3,hb.chg hc3 (λe=>?_),hc.trans hc3 λi hi e=>e⟩ (by simp;omega);have:=hne _ e;omega
  rcases (show k=0\/k=1 by omega) with rfl | rfl
  ·refine lI (x:=from_-1) (by simpa using hb.cells 0 _ rfl) ?_;exact round xs _ _ rfl ho rfl (next _ rfl)
  ·refine lI (x:=to) (by simpa using hb.cells 1 _ rfl) ?_;exact round (qc6 xs (from_-1)) _ _ (qg8 _ _) ho rfl (next _ rfl)
 ·have hge:=oFq hge;have:k=2:=by omega
  subst this;exact hK _ ho hc
theorem q94 {l:Slc} {xs:List qU} {col r width:Int} {a:vD} {w:World} {K:Slc->Bool->Ub} (h:Rd zi w l xs) (hl:xs.length<=10000)
  (hK:∀s w',Go.Vc.Own zi w' w.heap.size s (q7c xs col r width a)->Uc w w'->K s (!decide (qk6 xs.length col width)) w'):VT l col r width a w K:=by
 refine qpt _ _ _ _ _ ?_;refine nwb λw1 hb1 hB1 hs1=>?_;refine YY (h.ext hB1) (by omega) λm w2 ho2 hB2=>?_;have hml:=jg xs;have hmn:m.n=xs.length:=by have:=ho2.rd.n;rwa [hml] at this
 have hln:l.n=xs.length:=h.n;have hB02:Uc w w2:=hB1.trans (hB2.mono (by omega));have hb2:=hb1.ext hB2;have hmb:∀g,m.blk=some g->w.heap.size<g:=λg hg=>by have:=(ho2.lt g hg).1;omega
 have ho2:Go.Vc.Own zi w2 w.heap.size m (ju xs):=ho2.base (by omega);refine jpO λJ1 hJ1=>jpO λJ3 hJ3=>?_;have bad:qk6 xs.length col width->J3 (true,()) w2:=λhb=>hJ3 _ _ (cT rfl (by
  have:=hK m w2 (by rw [q7c,if_pos hb];exact ho2) hB02
  rwa [dTq hb] at this))
 have good:¬qk6 xs.length col width->J3 (false,()) w2:=λhg=>hJ3 _ _ (cF rfl (hJ1 _ _ (by
  have hbad:=hg;unfold qk6 at hg;have hx:(ju xs)[col.toNat]?=some ((ju xs)[col.toNat]'(by omega)):=List.getElem?_eq_getElem _;refine qy (x:=a) hb2.cells ?_;refine ho2.rd.ix rfl (by omega) (by omega) λ_=>?_;refine ho2.st0 hx (y:=⟨r,0,a⟩) rfl λw4 ho4 hg4 hs4=>?_;have hB04:Uc w w4:=hB02.grown hg4 hB02.size λg hg=>(ho2.lt g hg).1;have hb4:=hb2.grown hg4 (λe=>by have:=hmb _ e.symm;omega);refine jpO λJ2 hJ2=>?_;have fin:∀{w5:World},Go.Vc.Own zi w5 w.heap.size m (qzu (ju xs) col r width a)->Uc w w5->J2 () w5:=λ{w5} ho5 hB5=>hJ2 _ _ (by
   rw [qQ (x:=col+width) (by omega)];refine q7e ho5 (by omega) λw6 ho6 hc6=>?_;have:=hK m w6 (by rw [q7c,if_neg hbad];exact ho6) (hB5.trans (hc6.below hB5.size λi hi e=>by have:=hmb i e;omega))
   rwa [dFq hbad] at this)
  refine cO (λh2=>?_) (λh2=>?_)
  ·have h2:=eq_of_beq h2;subst h2;refine ho4.rd.ix rfl (by omega) (by rw [length_set];omega) λ_=>?_;refine ho4.st (x:=⟨r,0,a⟩) (y:=⟨r,1,a⟩) (by rw [List.getElem?_set_self (by omega)]) (j:=1) (by simp [zi]) rfl λw7 ho7 hg7 hs7=>?_;rw [List.set_set] at ho7;have hB07:=hB04.grown hg7 hB04.size λg hg=>(ho2.lt g hg).1;have hb7:=hb4.grown hg7 (λe=>by have:=hmb _ e.symm;omega);refine qy (x:=a) hb7.cells ?_;rw [qQ (x:=col+1) (by omega)];refine ho7.rd.ix rfl (by omega) (by rw [length_set];omega) λ_=>?_;refine ho7.st0 (x:=((ju xs).set col.toNat ⟨r,1,a⟩)[(col+1).toNat]'(by rw [length_set];omega)) (List.getElem?_eq_getElem _) (y:=⟨0,2,a⟩) rfl λw8 ho8 hg8 hs8=>?_;refine fin ?_ (hB07.grown hg8 hB07.size λg hg=>(ho2.lt g hg).1);rw [qzu,if_pos rfl];exact ho8
  ·have h2:=beq_eq_false_iff_ne.1 h2;refine fin ?_ hB04;rw [qzu,if_neg h2];exact ho4)))
 refine cO (λh1=>bad (.inl (oTq h1))) (λh1=>?_);refine cO (λh2=>bad (.inr (.inl (oTq h2)))) (λh2=>?_);refine cO (λh3=>bad (.inr (.inr (.inl (oTq h3))))) (λh3=>?_);have h1:=oFq h1;have h2:=oFq h2;have h3:=oFq h3;rw [hln,qQ (by omega)];by_cases h4:col>(xs.length:Int)-width
 ·rw [dTq h4];exact bad (.inr (.inr (.inr h4)))
 ·rw [dFq h4];exact good (by unfold qk6;omega)
theorem zf0 {l:Slc} {n:Nat} {col k:Int} {w:World} {K:Int->Ub} (hn:l.n=n) (hl:n<=1000000) (hK:K (qcx n col k) w):Ku l col k w K:=by
 refine qnd _ _ _ ?_;refine jpO λJ hJ=>?_;rw [hn];have no:(k<1\/col<0\/col>=n)->K 0 w:=λh=>by rwa [qcx,if_pos h] at hK
 refine cO (λh=>no (.inl (oTq h))) (λh1=>?_);refine cO (λh=>no (.inr (.inl (oTq h)))) (λh2=>?_);refine cO (λh=>no (.inr (.inr (oTq h)))) (λh3=>?_);have h1:=oFq h1;have h2:=oFq h2;have h3:=oFq h3;refine hJ _ _ ?_;rw [qcx,if_neg (by omega)] at hK;rw [hn,qQ (by omega)];have e:(if (n:Int)-col<k then (n:Int)-col else k)=min k (n-col):=by omega
 rw [e];exact hK
theorem zgy {n:Int} {w:World} {K:Slc->Ub} (h0:0<=n) (hn:n<=1000000) (hK:∀r w',Go.Vc.Own zi w' w.heap.size r []->Uc w w'->K r w'):xb (⟨none,0,0⟩:Slc) n w K:=by
 refine Zy _ _ ?_;refine jpO λJ hJ=>?_;refine cF (by simpa using h0) (hJ _ _ ?_);have hw:i64.wrap (n-(i64.wrap (((0:Nat):Int)-((0:Nat):Int))))=n:=by
  rw [qQ (x:=((0:Nat):Int)-((0:Nat):Int)) (by omega),qQ (by omega)];omega
 simp only [hw];refine cO (λh=>?_) (λh=>?_)
 ·have h:=oTq h;refine vA (by omega) (by omega) (Qd ?_);refine q4x q7r (kk:=.i64) (by kernel_rfl) (n:=n.toNat) (by omega) (by omega) (by simp only [maxLen];omega) (by rw [zkz];omega) λcap w' h1 h2 ho hB=>?_;refine vA (by omega) (by simp) (Qd ?_);have e:cut (some ⟨w.heap.size,0,none⟩) 0 cap 5=some ⟨w.heap.size,0,none⟩:=by
   unfold cut;split
   ·rfl
   ·simp
  show K ⟨cut (some ⟨w.heap.size,0,none⟩) 0 cap 5,0,cap⟩ w';rw [e];exact hK _ _ ho hB
 ·exact hK _ _ (Go.Vc.Own.nil _ _ _) (Below.refl _ _)
def slE:El Slc where
 cells s:=[.slice s.a s.n s.c]
 t:=zr
 k:=1
 pos:=by decide
 len _:=rfl
 one x v hv:=by
  simp only [mem_cons,mem_nil_iff,or_false] at hv;rcases hv with rfl
  rfl
def zgj (w:World) (ss:List Slc) (xss:List (List qU)):Prop:=ss.length=xss.length/\∀(i:Nat) s xs,ss[i]?=some s->xss[i]?=some xs->Rd zi w s xs
theorem q8p (xss:List (List qU)) (k:Nat):(xss.take k).flatten.length<=xss.flatten.length:=by
 conv=>rhs;rw [<-List.take_append_drop k xss]
 rw [List.flatten_append,length_append];omega
theorem qsg {xss:List (List qU)} {k:Nat} {xs:List qU} (h:xss[k]?=some xs):(xss.take (k+1)).flatten=(xss.take k).flatten++xs:=by
 rw [take_add_one,h];simp
theorem quq {p:Slc} {ss:List Slc} {xss:List (List qU)} {w:World} {K:Slc->Ub} (hp:Rd slE w p ss) (hss:zgj w ss xss) (hl:xss.flatten.length<=1000000) (hn:ss.length<=1000000)
  (hK:∀r w',Go.Vc.Own zi w' w.heap.size r xss.flatten->Uc w w'->K r w'):zW p w K:=by
 refine Q0 _ ?_;have hpn:=hp.n;obtain ⟨hsl,hss⟩:=hss;refine lpR (λ(s:Int×Int×Unit) w2=>∃k:Nat,s.2.1=k/\k<=ss.length/\s.1=((xss.take k).flatten.length:Nat)/\w2=w) (λs=>ss.length-s.2.1.toNat) ⟨0,rfl,by omega,rfl,rfl⟩ ?_;rintro ⟨t,i,_⟩ w2 ⟨k,rfl,hk,rfl,rfl⟩ I hI;dsimp only at *;have hle:=q8p xss;refine cO (λhlt=>?_) (λhge=>?_)
 ·have hlt:=oTq hlt;rw [hpn] at hlt;have hkl:k<ss.length:=by omega
  have hx:ss[k]?=some ss[k]:=List.getElem?_eq_getElem hkl;have hy:xss[k]?=some (xss[k]'(by omega)):=List.getElem?_eq_getElem _;refine hp.ix rfl (by omega) (by omega) λhc=>?_;refine lSl (x:=ss[k]) (by simpa using hc 0 _ rfl) ?_;have hr:=hss k _ _ hx hy;have hrn:=hr.n;have hf:=qsg hy;have h1:=hle (k+1);rw [hf,length_append] at h1;rw [hrn,qQ (by omega)];refine cF (by simp;omega) ?_;rw [qQ (by omega)];exact hI _ _ ⟨k+1,by simp,by omega,by rw [hf];simp,rfl⟩ (by simp;omega)
 ·have hge:=oFq hge;rw [hpn] at hge;have:k=ss.length:=by omega
  subst this;have h1:=hle ss.length;refine zgy (by omega) (by omega) λg w3 ho3 hB3=>?_;refine lpR (λ(s:Slc×Int×Unit) w4=>∃k:Nat,s.2.1=k/\k<=ss.length/\Go.Vc.Own zi w4 w2.heap.size s.1 ((xss.take k).flatten)/\Uc w2 w4) (λs=>ss.length-s.2.1.toNat) ⟨0,rfl,by omega,by simpa using ho3,hB3⟩ ?_;rintro ⟨t,i,_⟩ w4 ⟨k,rfl,hk,ho,hB⟩ I2 hI2;dsimp only at *;refine cO (λhlt=>?_) (λhge=>?_)
  ·have hlt:=oTq hlt;rw [hpn] at hlt;have hkl:k<ss.length:=by omega
   have hx:ss[k]?=some ss[k]:=List.getElem?_eq_getElem hkl;have hy:xss[k]?=some (xss[k]'(by omega)):=List.getElem?_eq_getElem _;refine (hp.ext hB).ix rfl (by omega) (by omega) λhc=>?_;refine lSl (x:=ss[k]) (by simpa using hc 0 _ rfl) ?_;have hr:=(hss k _ _ hx hy).ext hB;have hf:=qsg hy;have h1:=hle (k+1);rw [hf,length_append] at h1;refine jz q7r ho hr hB.size (by rw [zkz];omega) (by simp only [maxLen];omega) λr w5 ho5 hg5 hr5=>?_;rw [qQ (by omega)];exact hI2 _ _ ⟨k+1,by simp,by omega,by rw [hf];exact ho5,hB.grown hg5 hB.size λg hg=>(ho.lt g hg).1⟩ (by simp;omega)
  ·have hge:=oFq hge;rw [hpn] at hge;have:k=ss.length:=by omega
   subst this;rw [hsl,take_length] at ho;exact hK _ _ ho hB
theorem qq2 {n:Nat} {col k:Int}:0<=qcx n col k/\(qcx n col k≠0->0<=col/\col+qcx n col k<=n):=by
 unfold qcx;split
 ·exact ⟨Int.le_refl _,λh=>absurd rfl h⟩
 ·exact ⟨by omega,λ_=>⟨by omega,by omega⟩⟩
theorem zlk {w:World} {a b c:Slc} {xs ys zs:List qU} (ha:Rd zi w a xs) (hb:Rd zi w b ys) (hc:Rd zi w c zs):zgj w [a,b,c] [xs,ys,zs]:=by
 refine ⟨rfl,λi s l hs hl=>?_⟩
 match i,hs,hl with
 | 0,hs,hl=>cases hs;cases hl;exact ha
 | 1,hs,hl=>cases hs;cases hl;exact hb
 | 2,hs,hl=>cases hs;cases hl;exact hc
 | i+3,hs,hl=>cases hs
theorem zlz {w:World} {a b:Slc} {xs ys:List qU} (ha:Rd zi w a xs) (hb:Rd zi w b ys):zgj w [a,b] [xs,ys]:=by
 refine ⟨rfl,λi s l hs hl=>?_⟩
 match i,hs,hl with
 | 0,hs,hl=>cases hs;cases hl;exact ha
 | 1,hs,hl=>cases hs;cases hl;exact hb
 | i+2,hs,hl=>cases hs
theorem rd_lits {T:Type} {E:El T} {w:World} {g:Nat} {ys:List T} {vs:List Value} (hb:Blk w g E.t vs) (hm:ys.length<=maxLen) (hy:Zi E ys=vs):Rd E w ⟨some ⟨g,0,none⟩,ys.length,ys.length⟩ ys :=
 (Go.Vc.Own.of_blk (E:=E) (base:=0) (zero_le _) hb (le_refl _) hm (by rw [<-hy,kO]) (by rw [<-hy,List.take_of_length_le (by rw [kO];exact le_refl _)])).rd
theorem q9a {l:Slc} {xs:List qU} {col k:Int} {a:vD} {w:World} {K:Slc->Ub} (h:Rd zi w l xs) (hl:xs.length<=10000)
  (hK:∀s w',Go.Vc.Own zi w' w.heap.size s (qhq xs col k a)->Uc w w'->K s w'):ZL l col k a w K:=by
 refine qjd _ _ _ _ ?_;refine nwb λw1 hb1 hB1 hs1=>?_;refine YY (h.ext hB1) (by omega) λm w2 ho2 hB2=>?_;have hml:=jg xs;have hln:l.n=xs.length:=h.n;have hB02:Uc w w2:=hB1.trans (hB2.mono (by omega));have hb2:=hb1.ext hB2;have ho2:Go.Vc.Own zi w2 w.heap.size m (ju xs):=ho2.base (by omega);obtain ⟨hc0,hc1⟩:=qq2 (n:=xs.length) (col:=col) (k:=k);refine zf0 hln (by omega) ?_;unfold qhq at hK;generalize qcx xs.length col k=c at *;refine cO (λe=>?_) (λe=>?_)
 ·have e:=eq_of_beq e;simp only [if_pos e] at hK;exact hK _ _ ho2 hB02
 ·have e:=beq_eq_false_iff_ne.1 e;simp only [if_neg e] at hK;obtain ⟨hc1,hc2⟩:=hc1 e;refine ho2.rd.slK (l:=0) (m:=col.toNat) rfl (.inl ⟨rfl,rfl⟩) (.inr (by simp;omega)) (by omega) (by omega) λhp=>?_;refine qy (x:=a) hb2.drew.cells ?_;rw [hln,qQ (by omega)];refine ho2.rd.slK (l:=col.toNat) (m:=xs.length-c.toNat) rfl (.inr (by simp;omega)) (.inr (by simp;omega)) (by omega) (by omega) λhq=>?_;refine qjy (by omega) λb w4 ho4 hB4=>?_;have hB04:Uc w w4:=hB02.drew.trans (hB4.mono hB02.size);refine nwb λw5 hb5 hB5 hs5=>?_;have hB05:Uc w w5:=hB04.trans (hB5.mono hB04.size);have hB45:Below w2.drew.heap.size w2.drew w5:=hB4.trans (hB5.mono hB4.size);have hA:=zlk (hp.drew.ext hB45) (ho4.rd.ext hB5) (hq.drew.ext hB45);refine quq ?_ hA ?_ (by simp) λr w6 ho6 hB6=>?_
  ·exact rd_lits (E:=slE) (ys:=[_,_,_]) hb5 (by simp [maxLen]) rfl
  ·simp only [List.flatten_cons,List.flatten_nil,length_append,length_nil,length_drop,length_take,List.length_replicate];omega
  have hB06:Uc w w6:=hB05.trans (hB6.mono hB05.size);refine YY ho6.rd ?_ λs w7 ho7 hB7=>?_
  ·simp only [List.flatten_cons,List.flatten_nil,length_append,length_nil,length_drop,length_take,List.length_replicate];omega
  refine hK s w7 ?_ (hB06.trans (hB7.mono hB06.size));simp only [List.flatten_cons,List.flatten_nil,append_nil,drop_zero,<-append_assoc] at ho7;exact ho7.base hB06.size
theorem q58 {l:Slc} {xs:List qU} {cols:Int} {w:World} {K:Slc->Ub} (h:Rd zi w l xs) (hl:xs.length<=10000)
  (hK:∀s w',Go.Vc.Own zi w' w.heap.size s (ZB xs cols)->Uc w w'->K s w'):Z8 l cols w K:=by
 refine qjp _ _ ?_;refine YY h (by omega) λm w2 ho2 hB2=>?_;have hml:=jg xs;have hmn:m.n=xs.length:=by have:=ho2.rd.n;rwa [hml] at this
 have e1:(if (0:Int)>cols then (0:Int) else cols)=max 0 cols:=by omega
 have e2:(if (1000:Int)<max 0 cols then (1000:Int) else max 0 cols)=min 1000 (max 0 cols):=by omega
 rw [e1,e2,hmn];unfold ZB at hK;have hc:0<=min 1000 (max 0 cols):=by omega
 have hc':min 1000 (max 0 cols)<=1000:=by omega
 generalize min 1000 (max 0 cols)=c at *;refine cO (λe=>?_) (λe=>?_)
 ·have e:=oTq e;simp only [if_pos e] at hK;refine ho2.rd.slK (l:=0) (m:=c.toNat) rfl (.inl ⟨rfl,rfl⟩) (.inr (by simp;omega)) (by omega) (by omega) λhp=>?_;refine YY hp ?_ λs w3 ho3 hB3=>hK s w3 ?_ (hB2.trans (hB3.mono hB2.size))
  ·simp;omega
  ·rw [drop_zero] at ho3;exact ho3.base hB2.size
 ·have e:=oFq e;simp only [if_neg e] at hK;rw [qQ (by omega)];refine qjy (by omega) λb w3 ho3 hB3=>?_;have hB03:Uc w w3:=hB2.trans (hB3.mono hB2.size);refine nwb λw5 hb5 hB5 hs5=>?_;have hB05:Uc w w5:=hB03.trans (hB5.mono hB03.size);have hA:=zlz ((ho2.rd.ext hB3).ext hB5) (ho3.rd.ext hB5);refine quq ?_ hA ?_ (by simp) λr w6 ho6 hB6=>?_
  ·exact rd_lits (E:=slE) (ys:=[_,_]) hb5 (by simp [maxLen]) (by rw [<-hmn];rfl)
  ·simp only [List.flatten_cons,List.flatten_nil,length_append,length_nil,List.length_replicate];omega
  refine hK r w6 ?_ (hB05.trans (hB6.mono hB05.size));simp only [List.flatten_cons,List.flatten_nil,append_nil] at ho6;exact ho6.base hB05.size
def X1:El UInt8 where
 cells b:=[.int .u8 b.toNat]
 t:=za
 k:=1
 pos:=by decide
 len _:=rfl
 one x v hv:=by
  simp only [mem_cons,mem_nil_iff,or_false] at hv;rcases hv with rfl
  rfl
def zi6:El Int where
 cells r:=[.int .i32 r]
 t:=yk
 k:=1
 pos:=by decide
 len _:=rfl
 one x v hv:=by
  simp only [mem_cons,mem_nil_iff,or_false] at hv;rcases hv with rfl
  rfl
noncomputable def q5r:SlT PG X1 qm where
 ht:=by kernel_rfl
 i:=(PG.info? za).getD default
 hi:=by kernel_rfl
 z:=.int .u8 0
 hz:=by kernel_rfl
 hs:=by kernel_rfl
 hzs:=rfl
theorem zju:q5r.i.bytes=1:=by kernel_rfl
def qjt (r:Int):Bool:=decide (0<=r) && decide (r<=1114111) && (decide (r<55296) || decide (r>57343))
def XD:Nat->Int->List UInt8
 | 0,_=>[]
 | m+1,v=>u8 (128+v/64^m%64)::XD m v
def q3q (v:Int):List UInt8 :=
 if v<128 then [u8 v] else if v<2048 then u8 (192+v/64)::XD 1 v else if v<65536 then u8 (224+v/4096)::XD 2 v else u8 (240+v/262144)::XD 3 v
def q01 (r:Int):Int:=if qjt r=true then r else 65533
def qyv (r:Int):List UInt8:=q3q (q01 r)
theorem zby (r:Int):qjt (q01 r)=true:=by
 unfold q01;split
 ·assumption
 ·decide
theorem Kv {r:Int}:qjt r=true↔0<=r/\r<=1114111/\(r<55296\/r>57343):=by
 unfold qjt;rw [Bool.and_eq_true,Bool.and_eq_true,Bool.or_eq_true,decide_eq_true_iff,decide_eq_true_iff,decide_eq_true_iff,decide_eq_true_iff,and_assoc]
theorem zj8 {r:Int} {w:World} {K:Bool->Ub} (hK:K (qjt r) w):qky r w K:=by
 refine qu1 _ ?_;have no:qjt r≠true->K false w:=λh=>by
  rwa [Bool.eq_false_iff.2 h] at hK
 refine cO (λh1=>cO (λh2=>cO (λh3=>?_) (λh3=>?_)) (λh2=>?_)) (λh1=>?_)
 ·have h1:=oTq h1;have h2:=oTq h2;have h3:=oTq h3
  rwa [Kv.2 ⟨h1,h2,.inl h3⟩] at hK
 ·have h1:=oTq h1;have h2:=oTq h2;have h3:=oFq h3;by_cases h4:r>57343
  ·rw [Kv.2 ⟨h1,h2,.inr h4⟩] at hK
   rwa [dTq h4]
  ·rw [dFq h4];exact no λh=>by have:=Kv.1 h;omega
 ·have h2:=oFq h2;exact no λh=>by have:=Kv.1 h;omega
 ·have h1:=oFq h1;exact no λh=>by have:=Kv.1 h;omega
theorem q2t {x:Int} (h:-2147483648<=x/\x<=2147483647):IntKind.i32.wrap x=x:=by
 rw [IntKind.wrap_i32];omega
theorem qwq (a:Nat) (ha:a<2147483648):(BitVec.ofInt 32 (a:Int)).toNat=a:=by
 rw [BitVec.toNat_ofInt];omega
theorem zod (a b:Nat) (ha:a<2147483648) (hb:b<2147483648):jZ .or .i32 (a:Int) (b:Int)=((a ||| b:Nat):Int):=by
 show IntKind.i32.wrap ((BitVec.ofInt 32 (a:Int) ||| BitVec.ofInt 32 (b:Int)).toNat:Int)=_;rw [BitVec.toNat_or,qwq a ha,qwq b hb];have:=Nat.or_lt_two_pow (n:=31) (x:=a) (y:=b) (by omega) (by omega);exact q2t (by omega)
theorem znd (a b:Nat) (ha:a<2147483648) (hb:b<2147483648):jZ .and .i32 (a:Int) (b:Int)=((a &&& b:Nat):Int):=by
 show IntKind.i32.wrap ((BitVec.ofInt 32 (a:Int) &&& BitVec.ofInt 32 (b:Int)).toNat:Int)=_;rw [BitVec.toNat_and,qwq a ha,qwq b hb];have:=Nat.and_lt_two_pow (n:=31) a (y:=b) (by omega);exact q2t (by omega)
theorem qj8 (i:Nat) (x y:Int) (hx0:0<=x) (hy0:0<=y) (hx:x.toNat%2^i=0) (hy:y.toNat<2^i) (hx1:x<2147483648) (hy1:y<2147483648):jZ .or .i32 x y=x+y:=by
 obtain ⟨a,rfl⟩:=Int.eq_ofNat_of_zero_le hx0;obtain ⟨b,rfl⟩:=Int.eq_ofNat_of_zero_le hy0;rw [zod a b (by omega) (by omega),nat_join i a b (by simpa using hx) (by simpa using hy)];simp
theorem zib (x:Int) (hx0:0<=x) (hx1:x<2147483648):jZ .and .i32 x 63=x%64:=by
 obtain ⟨a,rfl⟩:=Int.eq_ofNat_of_zero_le hx0;have:=znd a 63 (by omega) (by omega);rw [show ((63:Nat):Int)=63 from rfl] at this;rw [this,nat_mask6];omega
theorem zns {m:Nat} (hm:m<=3) {v:Int} (_hv:0<=v):v.fdiv (2^(min (i64.wrap (6*(m:Int))).toNat IntKind.i32.bits))=v/64^m:=by
 rw [qQ (by omega)];have e1:(6*(m:Int)).toNat=6*m:=by omega
 have e2:min (6*m) IntKind.i32.bits=6*m:=by
  show min (6*m) 32=_;omega
 have e3:(2:Int)^(6*m)=64^m:=by rw [Int.pow_mul];rfl
 rw [e1,e2,e3];exact Int.fdiv_eq_ediv_of_nonneg _ (Int.le_of_lt (Int.pow_pos (by decide)))
theorem zkl {m:Nat} (hm:m<=3) {v:Int} (hv:0<=v) (hb:v<[128,2048,65536,2097152].getD m 0) :
  jZ .or .i32 ([0,192,224,240].getD m 0) (v/64^m)=([0,192,224,240].getD m 0)+v/64^m:=by
 match m,hm with
 | 0,_ =>
  simp only [getD_cons_zero] at hb ⊢;simp only [Int.pow_zero,Int.ediv_one];exact qj8 7 0 v (by omega) hv (by decide) (by omega) (by omega) (by omega)
 | 1,_ =>
  simp only [List.getD_cons_succ,getD_cons_zero] at hb ⊢;exact qj8 5 192 _ (by omega) (by omega) (by decide) (by omega) (by omega) (by omega)
 | 2,_ =>
  simp only [List.getD_cons_succ,getD_cons_zero] at hb ⊢;exact qj8 4 224 _ (by omega) (by omega) (by decide) (by omega) (by omega) (by omega)
 | 3,_ =>
  simp only [List.getD_cons_succ,getD_cons_zero] at hb ⊢;exact qj8 3 240 _ (by omega) (by omega) (by decide) (by omega) (by omega) (by omega)
theorem zgu (m:Nat) {v:Int} (hv:0<=v) (hb:v<=1114111):0<=v/64^m/\v/64^m<=1114111:=by
 have hp:(0:Int)<64^m:=Int.pow_pos (by decide);exact ⟨Int.ediv_nonneg hv (Int.le_of_lt hp),Int.le_trans (Int.ediv_le_self _ hv) hb⟩
theorem q56 {w:World} {g:Nat} {x:Int} (h:0<=x/\x<256) (hb:Blk w g za [.int .u8 (IntKind.u8.wrap x)]):Rd X1 w ⟨some ⟨g,0,none⟩,1,1⟩ [u8 x]:=by
 refine Ze (E:=X1) hb ?_;show [Value.int .u8 ((u8 x).toNat:Int)]=_;rw [qzy h.1 h.2,IntWalk.u8_in _ (by omega)]
theorem q7q (v:Int):(q3q v).length<=4:=by
 unfold q3q;split
 ·simp
 ·split
  ·simp [XD]
  ·split<;>simp [XD]
theorem q81 {l:Slc} {xs:List Int} {w:World} {K:Slc->Ub} (h:Rd zi6 w l xs) (hl:xs.length<=100000)
  (hK:∀r w',Go.Vc.Own X1 w' w.heap.size r (xs.flatMap qyv)->Uc w w'->K r w'):qhz l w K:=by
 refine qv6 _ ?_;refine lpR (λ(s:Slc×Int×Unit) w2=>∃k:Nat,s.2.1=k/\k<=xs.length/\Go.Vc.Own X1 w2 w.heap.size s.1 ((xs.take k).flatMap qyv)/\((xs.take k).flatMap qyv).length<=4*k/\Uc w w2)
  (λs=>xs.length-s.2.1.toNat) ⟨0,rfl,by omega,by simpa using Go.Vc.Own.nil _ _ _,by simp,Below.refl _ _⟩ ?_
 rintro ⟨s,i,_⟩ w2 ⟨k,rfl,hk,ho,hlen,hB⟩ I hI;dsimp only at *;refine cO (λhlt=>?_) (λhge=>?_)
 ·have hlt:=oTq hlt;rw [h.n] at hlt;have hkl:k<xs.length:=by omega
  obtain ⟨x,hx⟩:∃x,xs[k]?=some x:=⟨xs[k],List.getElem?_eq_getElem hkl⟩;have htake:xs.take (k+1)=xs.take k++[x]:=by
   rw [take_add_one,hx];rfl
  refine (h.ext hB).ix rfl (by omega) (by omega) λhc=>?_;have hxs:xs[((k:Int)).toNat]'(by omega)=x:=by
   have:=List.getElem?_eq_getElem hkl;rw [hx] at this;exact (Option.some.inj this).symm
  rw [hxs] at hc;refine lI (x:=x) (by have:=hc 0 _ rfl;rwa [add_zero] at this) ?_;refine jpO λJ2 hJ2=>?_;have main:J2 (q01 x,()) w2:=hJ2 _ _ (by
   dsimp only;obtain ⟨hv0,hv1,_⟩:=Kv.1 (zby x);have henc:qyv x=q3q (q01 x):=rfl;generalize q01 x=v at *;refine jpO λJ3 hJ3=>?_;have go:∀m:Nat,m<=3->v<[128,2048,65536,2097152].getD m 0->q3q v=u8 (([0,192,224,240].getD m 0)+v/64^m)::XD m v->J3 ((m:Int),[0,192,224,240].getD m 0,()) w2:=λm hm hb he=>hJ3 _ _ (by
    dsimp only;rw [zns hm hv0,zkl hm hv0 hb];refine ⟨by rw [qQ (by omega)];omega,?_⟩;have hlead:0<=([0,192,224,240].getD m 0)+v/64^m/\([0,192,224,240].getD m 0)+v/64^m<256:=by
     match m,hm with
     | 0,_=>simp only [getD_cons_zero] at hb ⊢;simp only [Int.pow_zero,Int.ediv_one];omega
     | 1,_=>simp only [List.getD_cons_succ,getD_cons_zero] at hb ⊢;omega
     | 2,_=>simp only [List.getD_cons_succ,getD_cons_zero] at hb ⊢;omega
     | 3,_=>simp only [List.getD_cons_succ,getD_cons_zero] at hb ⊢;omega
    generalize ([0,192,224,240].getD m 0)+v/64^m=hd at *;refine nwb λw3 hb3 hB3 hs3=>?_;refine jz q5r (ho.ext hB3) (q56 hlead hb3) (by have:=hB.size;omega) (by rw [zju];simp only [length_cons,length_nil];omega) (by simp only [maxLen,length_cons,length_nil];omega) λr w4 ho4 hg4 hr4=>?_;have hB4:Uc w w4:=(hB.trans (hB3.mono hB.size)).grown hg4 (by have:=hB.size;omega) λg hg=>((ho.ext hB3).lt g hg).1;refine lpR (λ(s3:Slc×Int×Unit) w6=>∃j:Nat,j<=m/\s3.2.1=(j:Int)-1/\∃done:List UInt8,done++XD j v=u8 hd::XD m v/\done.length<=4/\Go.Vc.Own X1 w6 w.heap.size s3.1 ((xs.take k).flatMap qyv++done)/\Uc w w6)
     (λs3=>(s3.2.1+1).toNat) ⟨m,le_refl _,by rw [qQ (by omega)],[u8 hd],rfl,by simp,ho4,hB4⟩ ?_
    rintro ⟨s3,i3,_⟩ w6 ⟨j,hj,rfl,done,hdone,hdl,ho6,hB6⟩ I4 hI4;dsimp only at *;refine cO (λh0=>?_) (λh0=>?_)
    ·have h0:=oTq h0;obtain ⟨j,rfl⟩:∃j',j=j'+1:=⟨j-1,by omega⟩;have ej:((j+1:Nat):Int)-1=(j:Int):=by omega
     rw [ej] at h0 ⊢;rw [zns (by omega) hv0];obtain ⟨hq0,hq1⟩:=zgu j hv0 hv1;rw [zib _ hq0 (by omega),qj8 6 128 _ (by omega) (by omega) (by decide) (by omega) (by omega) (by omega)];refine ⟨by rw [qQ (by omega)];omega,?_⟩;refine nwb λw7 hb7 hB7 hs7=>?_;have hdl':done.length+(XD (j+1) v).length<=4:=by
      have:=congrArg List.length hdone;rw [length_append] at this;rw [this]
      match m,hm with
      | 0,_=>simp [XD]
      | 1,_=>simp [XD]
      | 2,_=>simp [XD]
      | 3,_=>simp [XD]
     simp only [XD,length_cons] at hdl';refine jz q5r (ho6.ext hB7) (q56 (by omega) hb7) (by have:=hB6.size;omega) (by rw [zju];simp only [length_append,length_cons,length_nil];omega) (by simp only [maxLen,length_append,length_cons,length_nil];omega) λr' w8 ho8 hg8 hr8=>?_;rw [qQ (by omega)];refine hI4 (r',(j:Int)-1,()) w8 ⟨j,by omega,rfl,done++[u8 (128+v/64^j%64)],by rw [<-hdone];simp [XD],by simp;omega,?_,?_⟩ (by simp)
     ·rw [<-append_assoc];exact ho8
     ·exact (hB6.trans (hB7.mono hB6.size)).grown hg8 (by have:=hB6.size;omega) λg hg=>((ho6.ext hB7).lt g hg).1
    ·have h0:=oFq h0;have hj0:j=0:=by omega
     subst hj0;rw [XD,append_nil] at hdone;rw [qQ (by omega)];have hfl:(xs.take (k+1)).flatMap qyv=(xs.take k).flatMap qyv++done:=by
      rw [htake,List.flatMap_append,hdone,<-he,<-henc];simp
     refine hI (s3,(k:Int)+1,()) w6 ⟨k+1,by simp,by omega,?_,?_,hB6⟩ (by simp;omega)
     ·rw [hfl];exact ho6
     ·rw [hfl,length_append];omega)
   refine jpO λJ5 hJ5=>?_;have j5:∀m:Nat,m<=2->J3 (((m+1:Nat):Int),[0,192,224,240].getD (m+1) 0,()) w2->J5 ((m:Int),[0,0,32,48].getD (m+1) 0,()) w2:=λm hm h3=>hJ5 _ _ (by
    dsimp only;rw [qQ (by omega)]
    match m,hm with
    | 0,_=>exact h3
    | 1,_=>exact h3
    | 2,_=>exact h3)
   refine jpO λJ6 hJ6=>?_;refine cO (λh4=>?_) (λh4=>cO (λh3=>?_) (λh3=>cO (λh2=>?_) (λh2=>?_)))
   ·have h4:=oTq h4;refine hJ6 _ _ (j5 2 (by omega) (go 3 (by omega) (by simp only [List.getD_cons_succ,getD_cons_zero];omega) ?_));unfold q3q;rw [if_neg (by omega),if_neg (by omega),if_neg (by omega)];rfl
   ·have h4:=oFq h4;have h3:=oTq h3;refine hJ6 _ _ (j5 1 (by omega) (go 2 (by omega) (by simp only [List.getD_cons_succ,getD_cons_zero];omega) ?_));unfold q3q;rw [if_neg (by omega),if_neg (by omega),if_pos (by omega)];rfl
   ·have h3:=oFq h3;have h2:=oTq h2;refine j5 0 (by omega) (go 1 (by omega) (by simp only [List.getD_cons_succ,getD_cons_zero];omega) ?_);unfold q3q;rw [if_neg (by omega),if_pos (by omega)];rfl
   ·have h2:=oFq h2;refine go 0 (by omega) (by simp only [getD_cons_zero];omega) ?_;unfold q3q;rw [if_pos (by omega)];simp [XD])
  refine zj8 ?_;refine cO (λhn=>?_) (λhn=>?_)
  ·have hn:qjt x=false:=by simpa using hn
   have:q01 x=65533:=by rw [q01,if_neg (by rw [hn];decide)]
   rw [this] at main;exact main
  ·have hn:qjt x=true:=by simpa using hn
   have:q01 x=x:=by rw [q01,if_pos hn]
   rw [this] at main;exact main
 ·have hge:=oFq hge;rw [h.n] at hge;have:k=xs.length:=by omega
  subst this;rw [take_length] at ho;exact hK s w2 ho hB
def Zn (l:List UInt8):ByteArray:=⟨l.toArray⟩
theorem YV (l:List UInt8):(Zn l).toList=l:=by rw [ByteArray.toList_eq];rfl
theorem Kn (l:List UInt8):(Zn l).size=l.length:=by simp [Zn,ByteArray.size]
theorem q1c (l:List UInt8) (n:Nat):(Zn l).extract 0 n=Zn (l.take n):=by
 apply ByteArray.ext;rw [ByteArray.data_extract];simp [Zn]
def Bld (w:World) (g base:Nat) (bs:List UInt8):Prop :=
 ∃(p:Option Addr) (s:Slc),Blk w g zj [.pointer p,.slice s.a s.n s.c]/\(p=none\/p=some ⟨g,0,none⟩)/\Go.Vc.Own X1 w base s bs/\base<=g
def q0z (w:World) (g base:Nat) (k:Nat):Prop:=base<=k/\(k=g\/∃cs,Blk w k za cs)
theorem qs1 {w:World} {g:Nat} {t:TypeId} {vs:List Value} (h:Blk w g t vs):w.shape? g=some (t,vs.length):=by
 unfold Blk at h;simp [World.shape?,h]
theorem ql6 {g:Nat} {p:Option Addr} {s:Slc} {w:World} {K:Ub} (hb:Blk w g zj [.pointer p,.slice s.a s.n s.c]) (hp:p=none\/p=some ⟨g,0,none⟩)
  (hK:∀w',Blk w' g zj [.pointer (some ⟨g,0,none⟩),.slice s.a s.n s.c]->Chg (λk=>k=g) w w'->w'.heap.size=w.heap.size->K w'):jP (some ⟨g,0,none⟩) w K:=by
 refine Kf _ ?_;refine qK (x:=p) (hb.cells 0 _ rfl) ?_;have hsh:=qs1 hb;rcases hp with rfl | rfl
 ·dsimp only [Option.isNone_none,cond_true];refine ⟨some ⟨g,0,none⟩,w,?_,?_⟩
  ·exact Lib.run_to_unsafe w ⟨g,0,none⟩ (t:=zj) (j:=(PG.info? zj).getD default) (by kernel_rfl) (by kernel_rfl) (by kernel_rfl) (by rw [show ((PG.info? zj).getD default).size=2 by kernel_rfl];decide) hsh (by simp)
  refine ⟨some ⟨g,0,none⟩,w,?_,?_⟩
  ·rw [run_callFunc_extern Tryz.func179 (by kernel_rfl) (by kernel_rfl) (by kernel_rfl) (e:=Extern.AbiNoEscape.same) (by kernel_rfl)];show ((Extern.AbiNoEscape.same #[_]).run PG w).andThen _=_;rw [Lib.run_noEscape];rfl
  refine ⟨some ⟨g,0,none⟩,w,?_,?_⟩
  ·exact Lib.run_from_unsafe w ⟨g,0,none⟩ (u:=zj) (j:=(PG.info? zj).getD default) (by kernel_rfl) (by kernel_rfl) (by kernel_rfl) hsh (by kernel_rfl)
  show stK ((⟨g,0,none⟩:Addr).add 0) _ w _;rw [add_zero];exact qB hb (by simp) λw' hb' hg' hs'=>hK w' hb' (Chg.of_grown hg' λk hk=>by cases hk;rfl) hs'
 ·dsimp only [Option.isNone_some,cond_false];refine qK (x:=some ⟨g,0,none⟩) (hb.cells 0 _ rfl) ?_;refine ⟨λa b ha hb=>by cases ha;cases hb;rfl,?_⟩;rw [dTq rfl];exact hK w hb (Chg.refl _ _) rfl
theorem qgk {w:World} {g base:Nat} {s:Slc} {bs:List UInt8} {vs:List Value} (ho:Go.Vc.Own X1 w base s bs) (hb:Blk w g zj vs):∀k,s.blk=some k->k≠g:=by
 intro k hk;obtain ⟨cs,hcs⟩:=ho.blk_t hk;exact hcs.ne_t hb (by decide)
theorem zda {w w1 w2:World} {g base:Nat} {s r:Slc} {bs cs:List UInt8} {K:Ub} (hb:Blk w1 g zj [.pointer (some ⟨g,0,none⟩),.slice s.a s.n s.c]) (ho:Go.Vc.Own X1 w1 base s bs) (hg:base<=g)
  (hch:Chg (q0z w g base) w w1) (ho2:Go.Vc.Own X1 w2 base r (bs++cs)) (hg2:w1.grownBy w2 s.blk) (hsb:∀k,s.blk=some k->k<w.heap.size->q0z w g base k)
  (hK:∀w',Bld w' g base (bs++cs)->Chg (q0z w g base) w w'->K w'):stK ((⟨g,0,none⟩:Addr).add 1) [.slice r.a r.n r.c] w2 K:=by
 have hb2:Blk w2 g zj [.pointer (some ⟨g,0,none⟩),.slice s.a s.n s.c]:=hb.grown hg2 λe=>qgk ho hb g e.symm rfl;refine qB hb2 (by simp) λw3 hb3 hg3 hs3=>hK w3 ⟨some ⟨g,0,none⟩,r,hb3,.inr rfl,?_,hg⟩ ?_
 ·exact ho2.kept hg3 (by
   cases hr:r.blk with
   | none=>exact .inl rfl
   | some k=>exact .inr λe=>qgk ho2 hb2 k hr (Option.some.inj e))
 ·refine (hch.trans (S':=λk=>s.blk=some k) (Chg.of_grown hg2 λk hk=>hk) λi hi hs=>hsb i hs hi).trans (S':=λk=>k=g) (Chg.of_grown hg3 λk hk=>by cases hk;rfl) λi hi e=>?_;exact ⟨by omega,.inl e⟩
theorem qx1 {g base:Nat} {bs:List UInt8} {c:Int} {w:World} {K:Value->Ub} (h:Bld w g base bs) (hl:bs.length<=1000000) (hc:0<=c/\c<256)
  (hK:∀w',Bld w' g base (bs++[u8 c])->Chg (q0z w g base) w w'->K .nilIface w'):xQ (some ⟨g,0,none⟩) c w K:=by
 obtain ⟨p,s,hb,hp,ho,hg⟩:=h;refine Kq _ _ ?_;refine ql6 hb hp λw1 hb1 hc1 hs1=>?_;simp only [onPtr_some];refine lSl (x:=s) (hb1.cells 1 _ rfl) ?_;have ho1:Go.Vc.Own X1 w1 base s bs:=ho.chg hc1 (qgk ho hb);refine nwb λw2 hb2 hB2 hs2=>?_;have hx:Rd X1 w2 ⟨some ⟨w1.heap.size,0,none⟩,1,1⟩ [u8 c]:=by
  refine Ze (E:=X1) hb2 ?_;show [Value.int .u8 ((u8 c).toNat:Int)]=_;rw [qzy hc.1 hc.2]
 refine jz q5r (ho1.ext hB2) hx (by have:=hb.lt;omega) (by rw [zju];simp only [length_cons,length_nil];omega) (by simp only [maxLen,length_cons,length_nil];omega) λr w3 ho3 hg3 hr3=>?_;refine zda (w:=w) (w1:=w2) (hb1.ext hB2) (ho1.ext hB2) hg ?_ ho3 hg3 (λk hk hkl=>?_) λw4 h4 hc4=>hK w4 h4 hc4
 ·exact (hc1.mono (S':=q0z w g base) λi hi e=>⟨by omega,.inl e⟩).trans (Chg.of_ext (S:=λ_=>False) hB2) λi hi e=>e.elim
 ·exact ⟨(ho.lt k hk).1,.inr (ho.blk_t hk)⟩
theorem q42 {g base:Nat} {bs cs:List UInt8} {p:Slc} {w:World} {K:Int->Value->Ub} (h:Bld w g base bs) (hp:Rd X1 w p cs) (hpb:∀a,p.a=some a->¬a.block=g) (hl:bs.length<=1000000) (hl':cs.length<=1000000)
  (hK:∀n w',Bld w' g base (bs++cs)->Chg (q0z w g base) w w'->K n .nilIface w'):vF (some ⟨g,0,none⟩) p w K:=by
 obtain ⟨q,s,hb,hq,ho,hg⟩:=h;refine qbh _ _ ?_;refine ql6 hb hq λw1 hb1 hc1 hs1=>?_;simp only [onPtr_some];refine lSl (x:=s) (hb1.cells 1 _ rfl) ?_;have ho1:Go.Vc.Own X1 w1 base s bs:=ho.chg hc1 (qgk ho hb);refine jz q5r ho1 (hp.chg hc1 hpb) (by have:=hb.lt;omega) (by rw [zju];omega) (by simp only [maxLen];omega) λr w3 ho3 hg3 hr3=>?_;refine zda (w:=w) (w1:=w1) hb1 ho1 hg ?_ ho3 hg3 (λk hk hkl=>?_) λw4 h4 hc4=>hK _ w4 h4 hc4
 ·exact hc1.mono (S':=q0z w g base) λi hi e=>⟨by omega,.inl e⟩
 ·exact ⟨(ho.lt k hk).1,.inr (ho.blk_t hk)⟩
theorem q62 {g base:Nat} {bs:List UInt8} {w:World} {K:ByteArray->Ub} (h:Bld w g base bs) (hl:bs.length<=1000000)
  (hK:∀w',Chg (q0z w g base) w w'->K (Zn bs) w'):kZ (some ⟨g,0,none⟩) w K:=by
 obtain ⟨p,s,hb,hp,ho,hg⟩:=h;refine YA _ ?_;simp only [onPtr_some];refine lSl (x:=s) (hb.drew.cells 1 _ rfl) ?_;refine lSl (x:=s) (hb.drew.cells 1 _ rfl) ?_;rcases ho.form with ⟨rfl,rfl⟩ | ⟨g',cur,hs,hb',hblk,h1,h2,h3,h4⟩
 ·refine ⟨none,w.drew,Lib.run_unsafeSliceData_nil w.drew _ _ _ _,hb.drew.cells 1 _ rfl,Zn [],w.drew,?_,hK _ ⟨rfl,rfl,rfl,le_refl _,λ_ _ _=>rfl⟩⟩;exact Lib.run_unsafeString_none w.drew Qh zz zC none
 ·have hsn:s.n=bs.length:=by rw [hs]
  have hsa:s.a=some ⟨g',0,none⟩:=by rw [hs]
  by_cases h0:bs=[]
  ·subst h0;by_cases hc:s.c=0
   ·have hcur:cur=[]:=List.eq_nil_of_length_eq_zero (by rw [h3,hc];simp);have hz:=Lib.run_unsafeSliceData_zero (P:=PG) w.drew #[qm] Qh za (by kernel_rfl) ⟨g',0,none⟩ s.n _ (qs1 hblk.drew);rw [hsa,hc] at hb ⊢;refine ⟨_,_,hz,(hb.drew.alloc _).cells 1 _ rfl,Zn [],w.drew.alloc (.view ⟨g',0,none⟩ 5),?_,hK _ ?_⟩
    ·rw [hsn];exact Lib.run_unsafeString_none _ Qh zz zC _
    ·exact Chg.of_ext ((Below.refl _ w).drew.alloc (le_refl _) _)
   ·refine ⟨some ⟨g',0,none⟩,w.drew,?_,hb.drew.cells 1 _ rfl,Zn [],w.drew,?_,hK _ ⟨rfl,rfl,rfl,le_refl _,λ_ _ _=>rfl⟩⟩
    ·rw [hsa];exact Lib.run_unsafeSliceData_row w.drew _ _ _ _ _ hc
    ·rw [hsn];exact Lib.run_unsafeString_none w.drew Qh zz zC _
  ·have hlen:0<bs.length:=List.length_pos_iff.2 h0;have hc:s.c≠0:=by omega
   refine ⟨some ⟨g',0,none⟩,w.drew,?_,hb.drew.cells 1 _ rfl,Zn bs,w.drew.freeze ⟨g',0,none⟩ bs.length,?_,hK _ ?_⟩
   ·rw [hsa];exact Lib.run_unsafeSliceData_row w.drew _ _ _ _ _ hc
   ·rw [hsn];refine Lib.run_unsafeString_row w.drew Qh zz zC 5 (by kernel_rfl) (by kernel_rfl) g' cur.length (qs1 hblk.drew) bs h0 (by rw [h3];simp [X1];omega) (by omega) λj x hj=>?_;have hr:=ho.drew.rd.at_ j x hj;have:=hr 0 (.int .u8 x.toNat) rfl;simp only [Slc.at_,hsa,getD_some,add_zero] at this
    rwa [show j*X1.k=j from mul_one j] at this
   ·unfold World.freeze;rw [if_neg (by omega)];refine ⟨rfl,rfl,rfl,by simp,λk hk hn=>?_⟩;have hne:g'≠k:=by
     rintro rfl;exact hn ⟨hb',.inr ⟨_,hblk⟩⟩
    show (w.heap.modify g' _)[k]?=w.heap[k]?;rw [Array.getElem?_modify,if_neg hne]
def qop (l:List UInt8):List UInt8:=(l.reverse.dropWhile (·==32)).reverse
theorem q8n (l:List UInt8):qop (l++[32])=qop l:=by simp [qop]
theorem zbb (l:List UInt8) (b:UInt8) (h:b≠32):qop (l++[b])=l++[b]:=by
 have:(b==32)=false:=by simpa using h
 simp [qop,this]
theorem q1m {l:List UInt8} {w:World} {K:ByteArray->Ub} (hl:l.length<=4611686018427387904) (hK:K (Zn (qop l)) w):vC (Zn l) 32 w K:=by
 refine qbx _ _ ?_;refine lpR (λ(s:ByteArray×Unit) w2=>∃m:List UInt8,s.1=Zn m/\qop m=qop l/\m.length<=l.length/\w2=w) (λs=>s.1.size) ⟨l,rfl,rfl,le_refl _,rfl⟩ ?_;rintro ⟨s,_⟩ w2 ⟨m,rfl,hm,hml,rfl⟩ I hI;dsimp only at *;refine jpO λJ hJ=>?_;rw [Kn];refine cO (λh=>?_) (λh=>?_)
 ·have h:=oTq h;obtain ⟨r,b,rfl⟩:∃r b,m=r++[b]:=⟨m.dropLast,m.getLast (by intro e;subst e;simp at h),(List.dropLast_concat_getLast _).symm⟩;rw [length_append] at *;simp only [length_cons,length_nil] at *;rw [qQ (by omega)];have hi:(((r.length+(0+1):Nat):Int)-1).toNat=r.length:=by omega
  refine ⟨⟨by omega,by rw [Kn,length_append];simp;omega⟩,?_⟩;rw [hi];have hb:((Zn (r++[b])).data.getD r.length 0)=b:=by simp [Zn]
  rw [hb];refine cO (λe=>?_) (λe=>?_)
  ·have e:b=32:=by
    have e:=eq_of_beq e;have e:b.toNat=32:=Int.ofNat_inj.1 e;exact UInt8.toNat_inj.1 e
   subst e;refine hJ _ _ ?_;rw [Kn,length_append];simp only [length_cons,length_nil];rw [qQ (by omega)];refine ⟨⟨by omega,by rw [Kn,length_append];simp;omega⟩,?_⟩;rw [hi];show I ((Zn (r++[32])).extract 0 r.length,()) w2;rw [q1c,List.take_left];refine hI _ _ ⟨r,rfl,by rw [<-hm,q8n],by omega,rfl⟩ (by simp [Kn])
  ·have e:b≠32:=by
    have e:=beq_eq_false_iff_ne.1 e;rintro rfl;exact e rfl
   rw [<-hm,zbb r b e] at hK;exact hK
 ·have h:=oFq h;have:m=[]:=List.eq_nil_of_length_eq_zero (by omega);subst this;rw [<-hm] at hK;exact hK
theorem qz7 {l:List UInt8} {w:World} {K:ByteArray->Ub} (hl:l.length<=4611686018427387904) (hK:K (Zn (qop l)) w):QP (Zn l) (⟨#[32]⟩:ByteArray) w K:=by
 refine qgs _ _ ?_;refine jpO λJ hJ=>?_;refine cO (λh=>?_) (λh=>?_)
 ·have h:=eq_of_beq h;rw [YV] at h;have:l=[]:=by rw [h];exact YV []
  subst this;exact hK
 ·refine cF (by rw [show ((⟨#[32]⟩:ByteArray)).toList=[32] from YV [32],show ((⟨#[]⟩:ByteArray)).toList=[] from YV []];rfl) ?_;refine hJ _ _ ?_;refine jpO λJ2 hJ2=>jpO λJ3 hJ3=>?_;refine cT rfl ?_;have hz:(0:Int)<(Zn [32]).size:=by rw [Kn];decide
  refine ⟨⟨Int.le_refl _,hz⟩,?_⟩;refine hJ3 _ _ ?_;refine cT ?_ ⟨⟨Int.le_refl _,hz⟩,?_⟩
  ·kernel_rfl
  ·exact q1m hl hK
def xV (c:qU):List UInt8:=if c.Kind=2 then [] else if c.R=0 then [32] else qyv c.R
def znl (xs:List qU):List UInt8:=(ju xs).flatMap xV
def zlc (xs:List qU):ByteArray:=Zn (qop (znl xs))
theorem qvk (r:Int):(qyv r).length<=4:=q7q _
theorem q33 (c:qU):(xV c).length<=4:=by
 unfold xV;split
 ·simp
 ·split
  ·simp
  ·exact qvk _
theorem qrn:∀ys:List qU,(ys.flatMap xV).length<=4*ys.length
 | []=>by simp
 | c::r=>by
  have h1:=q33 c;have h2:=qrn r;rw [List.flatMap_cons,length_append,length_cons];omega
theorem zfv {l:Slc} {xs:List qU} {w:World} {K:ByteArray->Ub} (h:Rd zi w l xs) (hl:xs.length<=10000)
  (hK:∀w',Uc w w'->K (zlc xs) w'):Kz l w K:=by
 refine qnh _ ?_;refine nwb λw1 hb1 hB1 hs1=>?_;refine YY (h.ext hB1) (by omega) λm w2 ho2 hB2=>?_;have hml:=jg xs;have hmn:m.n=xs.length:=by have:=ho2.rd.n;rwa [hml] at this
 have hbld:Bld w2 w.heap.size w.heap.size []:=⟨none,⟨none,0,0⟩,hb1.ext hB2,.inl rfl,Go.Vc.Own.nil _ _ _,le_refl _⟩;have hB02:Uc w w2:=hB1.trans (hB2.mono (by omega));have ho2:Go.Vc.Own zi w2 w.heap.size m (ju xs):=ho2.base (by omega);refine lpR (λ(s:Int×Unit) w3=>∃k:Nat,s.1=k/\k<=xs.length/\Go.Vc.Own zi w3 w.heap.size m (ju xs)/\Bld w3 w.heap.size w.heap.size (((ju xs).take k).flatMap xV)/\Uc w w3)
  (λs=>xs.length-s.1.toNat) ⟨0,rfl,by omega,ho2,by simpa using hbld,hB02⟩ ?_
 rintro ⟨i,_⟩ w3 ⟨k,rfl,hk,ho,hbl,hB⟩ I hI;dsimp only at *;have hblen:(((ju xs).take k).flatMap xV).length<=4*k:=by
  have:=qrn ((ju xs).take k);rw [length_take] at this;omega
 have keepO:∀{a b:World},Go.Vc.Own zi a w.heap.size m (ju xs)->(∃vs,Blk a w.heap.size zj vs)->Chg (q0z a w.heap.size w.heap.size) a b->Go.Vc.Own zi b w.heap.size m (ju xs):=by
  rintro a b ho ⟨vs,hv⟩ hc;refine ho.chg hc λg hg=>?_;rintro ⟨_,e | ⟨cs,hcs⟩⟩
  ·obtain ⟨cs,hcs⟩:=ho.blk_t hg;exact hcs.ne_t hv (by decide) e
  ·obtain ⟨cs',hcs'⟩:=ho.blk_t hg;exact hcs'.ne_t hcs (by decide) rfl
 have keepB:∀{a b:World},Uc w a->Chg (q0z a w.heap.size w.heap.size) a b->Uc w b:=λhB hc=>
  hB.trans (hc.below hB.size λi hi hs=>by have:=hs.1;omega)
 refine cO (λhlt=>?_) (λhge=>?_)
 ·have hlt:=oTq hlt;rw [hmn] at hlt;have hkl:k<(ju xs).length:=by omega
  obtain ⟨x,hx,hxs⟩:=get_of hkl;have htake:((ju xs).take (k+1)).flatMap xV=((ju xs).take k).flatMap xV++xV x:=by
   rw [take_add_one,hx];simp
  have hwr:i64.wrap ((k:Int)+1)=(k:Int)+1:=qQ (by omega);refine ho.rd.ix rfl (by omega) (by omega) λhc=>?_;rw [hxs] at hc;refine qy (x:=x) hc ?_;refine jd rfl λw5 hb5 hB5 hs5=>?_;have hB05:Uc w w5:=hB.trans (hB5.mono hB.size);have ho5:=ho.ext hB5;have hbl5:Bld w5 w.heap.size w.heap.size (((ju xs).take k).flatMap xV):=by
   obtain ⟨p,s,h1,h2,h3,h4⟩:=hbl;exact ⟨p,s,h1.ext hB5,h2,h3.ext hB5,h4⟩
  have hv5:∃vs,Blk w5 w.heap.size zj vs:=by obtain ⟨p,s,h1,_⟩:=hbl5;exact ⟨_,h1⟩
  have fin:∀{w6:World},Bld w6 w.heap.size w.heap.size (((ju xs).take k).flatMap xV++xV x)->Go.Vc.Own zi w6 w.heap.size m (ju xs)->Uc w w6->I (i64.wrap ((k:Int)+1),()) w6:=λhb6 ho6 hB6=>by
   rw [hwr];exact hI _ _ ⟨k+1,by simp,by omega,ho6,by rw [htake];exact hb6,hB6⟩ (by simp;omega)
  refine lI (hb5.cells 1 _ rfl) ?_;refine cO (λh2=>?_) (λh2=>?_)
  ·have h2:=eq_of_beq h2;have e:xV x=[]:=by rw [xV,if_pos h2]
   exact fin (by rw [e,append_nil];exact hbl5) ho5 hB05
  ·have h2:=beq_eq_false_iff_ne.1 h2;refine lI (hb5.cells 0 _ rfl) ?_;refine cO (λh0=>?_) (λh0=>?_)
   ·have h0:=eq_of_beq h0;have e:xV x=[32]:=by rw [xV,if_neg h2,if_pos h0]
    refine qx1 hbl5 (by omega) (by decide) λw6 hb6 hc6=>?_;exact fin (by rw [e];exact hb6) (keepO ho5 hv5 hc6) (keepB hB05 hc6)
   ·have h0:=beq_eq_false_iff_ne.1 h0;have e:xV x=qyv x.R:=by rw [xV,if_neg h2,if_neg h0]
    refine lI (hb5.cells 0 _ rfl) ?_;refine nwb λw7 hb7 hB7 hs7=>?_;have hr7:Rd zi6 w7 ⟨some ⟨w5.heap.size,0,none⟩,1,1⟩ [x.R]:=Ze (E:=zi6) hb7 rfl;refine q81 hr7 (by simp) λr w8 ho8 hB8=>?_;have hB58:Uc w5 w8:=hB7.trans (hB8.mono (by omega));have hbl8:Bld w8 w.heap.size w.heap.size (((ju xs).take k).flatMap xV):=by
     obtain ⟨p,s,h1,h2,h3,h4⟩:=hbl5;exact ⟨p,s,h1.ext hB58,h2,h3.ext hB58,h4⟩
    have hv8:∃vs,Blk w8 w.heap.size zj vs:=by obtain ⟨p,s,h1,_⟩:=hbl8;exact ⟨_,h1⟩
    have hrd:Rd X1 w8 r (qyv x.R):=by have:=ho8.rd;simpa using this
    have hne:∀a,r.a=some a->¬a.block=w.heap.size:=by
     intro a ha e;have:=(ho8.lt a.block (by simp [Slc.blk,ha])).1;have h1:=hB05.size;obtain ⟨vs,hv⟩:=hv5;have:=hv.lt;omega
    have:=qvk x.R;refine q42 hbl8 hrd hne (by omega) (by omega) λn w9 hb9 hc9=>?_;exact fin (by rw [e];exact hb9) (keepO (ho5.ext hB58) hv8 hc9) (keepB (hB05.trans (hB58.mono hB05.size)) hc9)
 ·have hge:=oFq hge;rw [hmn] at hge;have:k=xs.length:=by omega
  subst this;rw [<-hml,take_length] at hbl hblen;refine q62 hbl (by omega) λw4 hc4=>?_;refine qz7 (by omega) ?_;exact hK w4 (keepB hB hc4)
def okR (xs:List qU):Prop:=∀c∈xs,-9223372036854775808<=c.R/\c.R<=9223372036854775807
theorem Zt {xs:List qU} (h:okR xs):okR (ju xs):=by
 intro c hc;obtain ⟨i,hi⟩:=List.getElem?_of_mem hc;have hlt:i<xs.length:=by have:=(List.getElem?_eq_some_iff.1 hi).1;rwa [jg] at this
 obtain ⟨x,hx,_⟩:=get_of hlt;rw [YW xs i x hx] at hi;cases hi;have:=h x (List.mem_of_getElem? hx);unfold Ys;split
 ·exact this
 ·split
  ·exact ⟨show (-9223372036854775808:Int)<=0 by decide,show (0:Int)<=9223372036854775807 by decide⟩
  ·split
   ·exact ⟨show (-9223372036854775808:Int)<=0 by decide,show (0:Int)<=9223372036854775807 by decide⟩
   ·exact this
theorem zcx {xs:List qU} {i:Nat} {k:Int}:isB xs i k=true↔∃y,xs[i]?=some y/\y.Kind=k:=by
 unfold isB;rw [Bool.and_eq_true,Bool.and_eq_true,decide_eq_true_iff,decide_eq_true_iff,beq_iff_eq];constructor
 ·rintro ⟨⟨_,h⟩,e⟩;have hl:i<xs.length:=by omega
  refine ⟨xs[i],List.getElem?_eq_getElem hl,?_⟩;rw [qhc (List.getElem?_eq_getElem hl)] at e;exact e
 ·rintro ⟨y,hy,e⟩;have:=(List.getElem?_eq_some_iff.1 hy).1;exact ⟨⟨by omega,by omega⟩,by rw [qhc hy,e]⟩
theorem Zq {xs:List qU} {k:Nat} {x:qU} (hx:xs[k]?=some x) :
  X3 xs k=true↔x.Kind=0\/(x.Kind=1/\∃y,xs[k+1]?=some y/\y.Kind=2)\/(x.Kind=2/\1<=k/\∃y,xs[k-1]?=some y/\y.Kind=1):=by
 have hkk:=qhc hx;unfold X3;rw [hkk];by_cases h0:x.Kind=0
 ·rw [if_pos h0];exact ⟨λ_=>.inl h0,λ_=>rfl⟩
 ·rw [if_neg h0];by_cases h1:x.Kind=1
  ·rw [if_pos h1,show (k:Int)+1=((k+1:Nat):Int) by omega,zcx];constructor
   ·exact λh=>.inr (.inl ⟨h1,h⟩)
   ·rintro (h | ⟨_,h⟩ | ⟨h,_⟩)
    ·exact absurd h h0
    ·exact h
    ·omega
  ·rw [if_neg h1];by_cases h2:x.Kind=2
   ·rw [if_pos h2];by_cases hk:1<=k
    ·rw [show (k:Int)-1=((k-1:Nat):Int) by omega,zcx];constructor
     ·exact λh=>.inr (.inr ⟨h2,hk,h⟩)
     ·rintro (h | ⟨h,_⟩ | ⟨_,_,h⟩)
      ·exact absurd h h0
      ·exact absurd h h1
      ·exact h
    ·have:isB xs ((k:Int)-1) 1=false:=by
      unfold isB;rw [dFq (by omega)];rfl
     rw [this];constructor
     ·intro h;cases h
     ·rintro (h | ⟨h,_⟩ | ⟨_,h,_⟩)
      ·exact absurd h h0
      ·exact absurd h h1
      ·exact absurd h hk
   ·rw [if_neg h2];constructor
    ·intro h;cases h
    ·rintro (h | ⟨h,_⟩ | ⟨h,_⟩)
     ·exact absurd h h0
     ·exact absurd h h1
     ·exact absurd h h2
theorem qfn {xs:List qU}:ZM xs=true↔∀(k:Nat) x,xs[k]?=some x->X3 xs k=true/\(x.Kind=2->x.R=0):=by
 constructor
 ·intro h k x hx;have hk:=(List.getElem?_eq_some_iff.1 hx).1;have:=zdd hx;have h1:okB xs k=true:=by
   unfold ZM at h;rw [List.all_eq_true] at h;exact h k (List.mem_range.2 hk)
  rw [this,Bool.and_eq_true] at h1;refine ⟨h1.1,λe=>?_⟩;have:=h1.2;rw [e] at this;simpa using this
 ·intro h;refine zf8 λk hk=>?_;obtain ⟨x,hx,_⟩:=get_of hk;obtain ⟨h1,h2⟩:=h k x hx;rw [zdd hx,h1];by_cases e:x.Kind=2
  ·simp [e,h2 e]
  ·simp [e]
theorem qzi {xs:List qU} {k:Nat} {x:qU} (hx:xs[k]?=some x) (h:X3 xs k=true):¬(x.Kind≠0/\x.Kind≠1/\x.Kind≠2):=by
 rintro ⟨h0,h1,h2⟩;rcases (Zq hx).1 h with h | h | h
 ·exact h0 h
 ·exact h1 h.1
 ·exact h2 h.1
theorem qpk {xs:List qU} {k:Nat} {x:qU} (hx:xs[k]?=some x) (h:X3 xs k=true):(Ys xs k x).Kind=x.Kind/\(x.Kind=2->(Ys xs k x).R=0):=by
 unfold Ys;rw [if_neg (qzi hx h),if_neg (by rw [h];decide)];split
 ·exact ⟨rfl,λ_=>rfl⟩
 ·next h2=>exact ⟨rfl,λe=>absurd e h2⟩
theorem zax {xs:List qU} {k:Nat} {x:qU} (h:X3 xs k=false):(Ys xs k x).Kind=0:=by
 unfold Ys;rw [h];split
 ·rfl
 ·rfl
theorem qxg (xs:List qU):ZM (ju xs)=true:=by
 refine qfn.2 λk x' hx'=>?_;have hk:k<xs.length:=by have:=(List.getElem?_eq_some_iff.1 hx').1;rwa [jg] at this
 obtain ⟨x,hx,_⟩:=get_of hk;have hm:=YW xs k x hx;rw [hx'] at hm;cases hm;cases hf:X3 xs k with
 | false =>
  have h0:=zax (x:=x) hf;exact ⟨(Zq hx').2 (.inl h0),λe=>by rw [h0] at e;cases e⟩
 | true =>
  obtain ⟨e1,e2⟩:=qpk hx hf;rw [e1];refine ⟨(Zq hx').2 ?_,e2⟩;rw [e1];rcases (Zq hx).1 hf with h | ⟨h,y,hy,h2⟩ | ⟨h,hk1,y,hy,h2⟩
  ·exact .inl h
  ·refine .inr (.inl ⟨h,_,YW xs _ y hy,?_⟩);have:X3 xs ((k+1:Nat):Int)=true:=(Zq hy).2 (.inr (.inr ⟨h2,by omega,x,hx,h⟩));rw [(qpk hy this).1,h2]
  ·refine .inr (.inr ⟨h,hk1,_,YW xs _ y hy,?_⟩);have:X3 xs ((k-1:Nat):Int)=true:=(Zq hy).2 (.inr (.inl ⟨h2,x,by rw [show k-1+1=k by omega];exact hx,h⟩));rw [(qpk hy this).1,h2]
theorem zk0 {xs:List qU} (h:ZM xs=true):ju xs=xs:=by
 refine List.ext_getElem? λk=>?_;cases hx:xs[k]? with
 | none=>rw [List.getElem?_eq_none_iff] at hx ⊢;rw [jg];exact hx
 | some x =>
  rw [YW xs k x hx];obtain ⟨h1,h2⟩:=qfn.1 h k x hx;unfold Ys;rw [if_neg (qzi hx h1),if_neg (by rw [h1];decide)];split
  ·next e =>
   have:=h2 e;cases x;simp only at this;rw [this]
  ·rfl
theorem q1s {xs:List qU} (h:ZM xs=true) (n:Nat) (a:vD):ZM (xs++List.replicate n (xz a))=true:=by
 have hR:=qfn.1 h;refine qfn.2 λk x hx=>?_;rcases lt_or_ge k xs.length with hk | hk
 ·rw [List.getElem?_append_left hk] at hx;obtain ⟨h1,h2⟩:=hR k x hx;refine ⟨(Zq (by rw [List.getElem?_append_left hk];exact hx)).2 ?_,h2⟩;rcases (Zq hx).1 h1 with h | ⟨h,y,hy,h'⟩ | ⟨h,hp,y,hy,h'⟩
  ·exact .inl h
  ·have:=(List.getElem?_eq_some_iff.1 hy).1;exact .inr (.inl ⟨h,y,by rw [List.getElem?_append_left this];exact hy,h'⟩)
  ·have:=(List.getElem?_eq_some_iff.1 hy).1;exact .inr (.inr ⟨h,hp,y,by rw [List.getElem?_append_left this];exact hy,h'⟩)
 ·have hx0:=hx;rw [List.getElem?_append_right hk,List.getElem?_replicate] at hx;split at hx
  ·cases hx;exact ⟨(Zq hx0).2 (.inl rfl),λ_=>rfl⟩
  ·cases hx
theorem q7x (xs:List qU) (col r width:Int) (a:vD):(q7c xs col r width a).length=xs.length:=by
 unfold q7c;split
 ·exact jg xs
 ·rw [qzl,q3r,jg]
theorem qvj (xs:List qU) (col k:Int) (a:vD):(qhq xs col k a).length=xs.length:=by
 unfold qhq;have hml:=jg xs;obtain ⟨hc0,hc1⟩:=qq2 (n:=xs.length) (col:=col) (k:=k);dsimp only;generalize qcx xs.length col k=c at *;split
 ·exact hml
 ·next h =>
  have:=hc1 h;rw [jg];simp;omega
theorem q8x (xs:List qU) (cols:Int):(ZB xs cols).length=(min 1000 (max 0 cols)).toNat:=by
 unfold ZB;have hml:=jg xs;dsimp only;split
 ·rw [jg];simp;omega
 ·simp;omega
theorem qwp {xs:List qU} (h:okR xs) {i:Nat} {c:qU} (hc:-9223372036854775808<=c.R/\c.R<=9223372036854775807):okR (xs.set i c):=λx hx=>by
 rcases List.mem_or_eq_of_mem_set hx with h1 | h1
 ·exact h x h1
 ·rw [h1];exact hc
theorem q2q (a:vD):-9223372036854775808<=(xz a).R/\(xz a).R<=9223372036854775807:=⟨show (-9223372036854775808:Int)<=0 by decide,show (0:Int)<=9223372036854775807 by decide⟩
theorem qo4 (n:Nat) (a:vD):okR (List.replicate n (xz a)):=λc hc=>by rw [List.eq_of_mem_replicate hc];exact q2q a
theorem qpj {xs ys:List qU} (h:okR xs) (h':okR ys):okR (xs++ys):=λc hc=>by
 rcases List.mem_append.1 hc with h1 | h1
 ·exact h c h1
 ·exact h' c h1
theorem qye {xs:List qU} (h:okR xs) (n:Nat):okR (xs.take n):=λc hc=>h c (List.mem_of_mem_take hc)
theorem zhy {xs:List qU} (h:okR xs) (n:Nat):okR (xs.drop n):=λc hc=>h c (List.mem_of_mem_drop hc)
theorem q8y {xs:List qU} (h:okR xs) (p:Int):okR (qc6 xs p):=by
 unfold qc6;split
 ·exact qwp h (q2q _)
 ·exact h
theorem zjt {xs:List qU} (h:okR xs) {col r width:Int} {a:vD} (hr:-9223372036854775808<=r/\r<=9223372036854775807):okR (q7c xs col r width a):=by
 unfold q7c;split
 ·exact Zt h
 ·refine q8y (q8y ?_ _) _;unfold qzu;split
  ·exact qwp (qwp (Zt h) hr) ⟨show (-9223372036854775808:Int)<=0 by decide,show (0:Int)<=9223372036854775807 by decide⟩
  ·exact qwp (Zt h) hr
theorem zjx {xs:List qU} (h:okR xs) (col k:Int) (a:vD):okR (qhq xs col k a):=by
 unfold qhq;dsimp only;split
 ·exact Zt h
 ·exact Zt (qpj (qpj (qye (Zt h) _) (qo4 _ _)) (zhy (qye (Zt h) _) _))
theorem zjj {xs:List qU} (h:okR xs) (cols:Int):okR (ZB xs cols):=by
 unfold ZB;dsimp only;split
 ·exact Zt (qye (Zt h) _)
 ·exact qpj (Zt h) (qo4 _ _)
def zmu:El Slc where
 cells s:=[.slice s.a s.n s.c]
 t:=qZ
 k:=1
 pos:=by decide
 len _:=rfl
 one x v hv:=by
  simp only [mem_cons,mem_nil_iff,or_false] at hv;rcases hv with rfl
  rfl
noncomputable def qlx:SlT PG slE qZ where
 ht:=by kernel_rfl
 i:=(PG.info? zr).getD default
 hi:=by kernel_rfl
 z:=.slice none 0 0
 hz:=by kernel_rfl
 hs:=by kernel_rfl
 hzs:=rfl
theorem q87:qlx.i.bytes=24:=by kernel_rfl
theorem zd8 {n:Int} {w:World} {K:Slc->Ub} (h0:0<=n) (hn:n<=1000000) (hK:∀r w',Go.Vc.Own slE w' w.heap.size r []->Uc w w'->K r w'):jR (⟨none,0,0⟩:Slc) n w K:=by
 refine Zf _ _ ?_;refine jpO λJ hJ=>?_;refine cF (by simpa using h0) (hJ _ _ ?_);have hw:i64.wrap (n-(i64.wrap (((0:Nat):Int)-((0:Nat):Int))))=n:=by
  rw [qQ (x:=((0:Nat):Int)-((0:Nat):Int)) (by omega),qQ (by omega)];omega
 simp only [hw];refine cO (λh=>?_) (λh=>?_)
 ·have h:=oTq h;refine vA (by omega) (by omega) (Qd ?_);refine q4x qlx (kk:=.i64) (by kernel_rfl) (n:=n.toNat) (by omega) (by omega) (by simp only [maxLen];omega) (by rw [q87];omega) λcap w' h1 h2 ho hB=>?_;refine vA (by omega) (by simp) (Qd ?_);have e:cut (some ⟨w.heap.size,0,none⟩) 0 cap 1=some ⟨w.heap.size,0,none⟩:=by
   unfold cut;split
   ·rfl
   ·simp
  show K ⟨cut (some ⟨w.heap.size,0,none⟩) 0 cap 1,0,cap⟩ w';rw [e];exact hK _ _ ho hB
 ·exact hK _ _ (Go.Vc.Own.nil _ _ _) (Below.refl _ _)
def zh1 (w:World) (ss:List Slc) (xss:List (List Slc)):Prop:=ss.length=xss.length/\∀(i:Nat) s xs,ss[i]?=some s->xss[i]?=some xs->Rd slE w s xs
theorem q5j (xss:List (List Slc)) (k:Nat):(xss.take k).flatten.length<=xss.flatten.length:=by
 conv=>rhs;rw [<-List.take_append_drop k xss]
 rw [List.flatten_append,length_append];omega
theorem qoc {xss:List (List Slc)} {k:Nat} {xs:List Slc} (h:xss[k]?=some xs):(xss.take (k+1)).flatten=(xss.take k).flatten++xs:=by
 rw [take_add_one,h];simp
theorem qrp {p:Slc} {ss:List Slc} {xss:List (List Slc)} {w:World} {K:Slc->Ub} (hp:Rd zmu w p ss) (hss:zh1 w ss xss) (hl:xss.flatten.length<=1000000) (hn:ss.length<=1000000)
  (hK:∀r w',Go.Vc.Own slE w' w.heap.size r xss.flatten->Uc w w'->K r w'):zD p w K:=by
 refine Qm _ ?_;have hpn:=hp.n;obtain ⟨hsl,hss⟩:=hss;refine lpR (λ(s:Int×Int×Unit) w2=>∃k:Nat,s.2.1=k/\k<=ss.length/\s.1=((xss.take k).flatten.length:Nat)/\w2=w) (λs=>ss.length-s.2.1.toNat) ⟨0,rfl,by omega,rfl,rfl⟩ ?_;rintro ⟨t,i,_⟩ w2 ⟨k,rfl,hk,rfl,rfl⟩ I hI;dsimp only at *;have hle:=q5j xss;refine cO (λhlt=>?_) (λhge=>?_)
 ·have hlt:=oTq hlt;rw [hpn] at hlt;have hkl:k<ss.length:=by omega
  have hx:ss[k]?=some ss[k]:=List.getElem?_eq_getElem hkl;have hy:xss[k]?=some (xss[k]'(by omega)):=List.getElem?_eq_getElem _;refine hp.ix rfl (by omega) (by omega) λhc=>?_;refine lSl (x:=ss[k]) (by simpa using hc 0 _ rfl) ?_;have hr:=hss k _ _ hx hy;have hrn:=hr.n;have hf:=qoc hy;have h1:=hle (k+1);rw [hf,length_append] at h1;rw [hrn,qQ (by omega)];refine cF (by simp;omega) ?_;rw [qQ (by omega)];exact hI _ _ ⟨k+1,by simp,by omega,by rw [hf];simp,rfl⟩ (by simp;omega)
 ·have hge:=oFq hge;rw [hpn] at hge;have:k=ss.length:=by omega
  subst this;have h1:=hle ss.length;refine zd8 (by omega) (by omega) λg w3 ho3 hB3=>?_;refine lpR (λ(s:Slc×Int×Unit) w4=>∃k:Nat,s.2.1=k/\k<=ss.length/\Go.Vc.Own slE w4 w2.heap.size s.1 ((xss.take k).flatten)/\Uc w2 w4) (λs=>ss.length-s.2.1.toNat) ⟨0,rfl,by omega,by simpa using ho3,hB3⟩ ?_;rintro ⟨t,i,_⟩ w4 ⟨k,rfl,hk,ho,hB⟩ I2 hI2;dsimp only at *;refine cO (λhlt=>?_) (λhge=>?_)
  ·have hlt:=oTq hlt;rw [hpn] at hlt;have hkl:k<ss.length:=by omega
   have hx:ss[k]?=some ss[k]:=List.getElem?_eq_getElem hkl;have hy:xss[k]?=some (xss[k]'(by omega)):=List.getElem?_eq_getElem _;refine (hp.ext hB).ix rfl (by omega) (by omega) λhc=>?_;refine lSl (x:=ss[k]) (by simpa using hc 0 _ rfl) ?_;have hr:=(hss k _ _ hx hy).ext hB;have hf:=qoc hy;have h1:=hle (k+1);rw [hf,length_append] at h1;refine jz qlx ho hr hB.size (by rw [q87];omega) (by simp only [maxLen];omega) λr w5 ho5 hg5 hr5=>?_;rw [qQ (by omega)];exact hI2 _ _ ⟨k+1,by simp,by omega,by rw [hf];exact ho5,hB.grown hg5 hB.size λg hg=>(ho.lt g hg).1⟩ (by simp;omega)
  ·have hge:=oFq hge;rw [hpn] at hge;have:k=ss.length:=by omega
   subst this;rw [hsl,take_length] at ho;exact hK _ _ ho hB
theorem zcp {w:World} {a b c d:Slc} {xs ys zs us:List Slc} (ha:Rd slE w a xs) (hb:Rd slE w b ys) (hc:Rd slE w c zs) (hd:Rd slE w d us):zh1 w [a,b,c,d] [xs,ys,zs,us]:=by
 refine ⟨rfl,λi s l hs hl=>?_⟩
 match i,hs,hl with
 | 0,hs,hl=>cases hs;cases hl;exact ha
 | 1,hs,hl=>cases hs;cases hl;exact hb
 | 2,hs,hl=>cases hs;cases hl;exact hc
 | 3,hs,hl=>cases hs;cases hl;exact hd
 | i+4,hs,hl=>cases hs
def Lines (w:World) (base:Nat) (ls:List Slc) (xss:List (List qU)):Prop:=ls.length=xss.length/\∀(i:Nat) s xs,ls[i]?=some s->xss[i]?=some xs->Go.Vc.Own zi w base s xs
section
variable {w w':World} {base:Nat} {ls ms:List Slc} {xss yss:List (List qU)}
theorem Lines.nil (w:World) (base:Nat):Lines w base [] []:=⟨rfl,λi s xs h=>by simp at h⟩
theorem Lines.ext (h:Lines w base ls xss) (hb:Uc w w'):Lines w' base ls xss:=⟨h.1,λi s xs h1 h2=>(h.2 i s xs h1 h2).ext hb⟩
theorem Lines.chg {S:Nat->Prop} (h:Lines w base ls xss) (hc:Chg S w w') (hS:∀k cs,S k->¬Blk w k qR cs):Lines w' base ls xss :=
 ⟨h.1,λi s xs h1 h2=>(h.2 i s xs h1 h2).chg hc λg hg hs=>by
  obtain ⟨cs,hcs⟩:=(h.2 i s xs h1 h2).blk_t hg;exact hS g cs hs hcs⟩
theorem Lines.append (h:Lines w base ls xss) (h':Lines w base ms yss):Lines w base (ls++ms) (xss++yss):=by
 refine ⟨by rw [length_append,length_append,h.1,h'.1],λi s xs h1 h2=>?_⟩;rcases lt_or_ge i ls.length with hi | hi
 ·rw [List.getElem?_append_left hi] at h1;rw [List.getElem?_append_left (by rw [<-h.1];exact hi)] at h2;exact h.2 i s xs h1 h2
 ·rw [List.getElem?_append_right hi] at h1;rw [List.getElem?_append_right (by rw [<-h.1];exact hi),<-h.1] at h2;exact h'.2 _ s xs h1 h2
theorem Lines.take (h:Lines w base ls xss) (n:Nat):Lines w base (ls.take n) (xss.take n):=by
 refine ⟨by simp [h.1],λi s xs h1 h2=>?_⟩;rw [List.getElem?_take] at h1 h2;split at h1
 ·next hi=>rw [if_pos hi] at h2;exact h.2 i s xs h1 h2
 ·cases h1
theorem Lines.drop (h:Lines w base ls xss) (n:Nat):Lines w base (ls.drop n) (xss.drop n):=by
 refine ⟨by simp [h.1],λi s xs h1 h2=>?_⟩;rw [List.getElem?_drop] at h1 h2;exact h.2 _ s xs h1 h2
theorem Lines.set (h:Lines w base ls xss) (i:Nat) {s:Slc} {xs:List qU} (hs:Go.Vc.Own zi w base s xs):Lines w base (ls.set i s) (xss.set i xs):=by
 refine ⟨by simp [h.1],λj t ys h1 h2=>?_⟩;rw [List.getElem?_set] at h1 h2;by_cases hij:i=j
 ·rw [if_pos hij] at h1 h2;split at h1
  ·rw [if_pos (by rw [<-h.1];assumption)] at h2;cases h1;cases h2;exact hs
  ·cases h1
 ·rw [if_neg hij] at h1 h2;exact h.2 j t ys h1 h2
theorem Lines.one {s:Slc} {xs:List qU} (hs:Go.Vc.Own zi w base s xs):Lines w base [s] [xs]:=by
 refine ⟨rfl,λi t ys h1 h2=>?_⟩
 match i,h1,h2 with
 | 0,h1,h2=>cases h1;cases h2;exact hs
 | i+1,h1,h2=>cases h1
end
def Ja (w:World) (base r:Nat) (s:Slc) (most:Nat) (old:List (List qU)):Prop :=
 ∃(at_:Nat) (gone:Int) (ls:List Slc) (xss:List (List qU)),Blk w r qY [.int .i64 most,.slice s.a s.n s.c,.int .i64 at_,.int .i64 gone]/\Go.Vc.Own slE w base s ls/\Lines w base ls xss/\base<=r /\
  old=xss.drop at_++xss.take at_/\xss.length<=most/\(at_=0\/(at_<xss.length/\xss.length=most))
theorem q31 {base:Nat} {most:Int} {w:World} {K:Option Addr->Int->Ub} (h0:0<=most) (h1:most<=65536) (hb:base<=w.heap.size)
  (hK:∀w',Ja w' base w.heap.size ⟨none,0,0⟩ most.toNat []->Uc w w'->w'.heap.size=w.heap.size+1->K (some ⟨w.heap.size,0,none⟩) 0 w'):Qs most w K:=by
 refine qfr _ ?_;refine jpO λJ hJ=>?_;refine cF (by simpa using h0) (cF (by simpa using h1) (hJ _ _ ?_));refine nwb λw1 hb1 hB1 hs1=>hK _ ⟨0,0,[],[],?_,Go.Vc.Own.nil _ _ _,Lines.nil _ _,hb,rfl,by simp,.inl rfl⟩ hB1 hs1;rw [show ((most.toNat:Nat):Int)=most by omega];exact hb1
theorem q5b {base r most:Nat} {s:Slc} {old:List (List qU)} {w:World} {K:Int->Ub} (h:Ja w base r s most old) (hK:K old.length w):kG (some ⟨r,0,none⟩) w K:=by
 obtain ⟨at_,gone,ls,xss,hb,ho,hl,hbr,e,hm,ha⟩:=h;refine VN _ ?_;simp only [onPtr_some];refine lSl (x:=s) (hb.cells 1 _ rfl) ?_;have hn:s.n=old.length:=by
  rw [ho.rd.n,hl.1,e,length_append,length_drop,length_take];omega
 rw [hn];exact hK
theorem q69 {base r most:Nat} {s:Slc} {old:List (List qU)} {i:Int} {w:World} {K:Slc->Bool->Ub} (h:Ja w base r s most old) (hmost:most<=100000)
  (hK1:∀t xs,0<=i->old[i.toNat]?=some xs->Go.Vc.Own zi w base t xs->K t true w.drew) (hK2:(i<0\/i>=old.length)->K ⟨none,0,0⟩ false w):vi (some ⟨r,0,none⟩) i w K:=by
 obtain ⟨at_,gone,ls,xss,hb,ho,hl,hbr,e,hm,ha⟩:=h;refine YT _ _ ?_;have hol:old.length=xss.length:=by rw [e,length_append,length_drop,length_take];omega
 have hsn:s.n=old.length:=by rw [ho.rd.n,hl.1,hol]
 refine jpO λJ1 hJ1=>jpO λJ2 hJ2=>?_;have no:(i<0\/i>=old.length)->J2 (true,()) w:=λhh=>hJ2 _ _ (cT rfl (hK2 hh));refine cO (λh0=>no (.inl (oTq h0))) (λh0=>?_);have h0:=oFq h0;simp only [onPtr_some];refine lSl (x:=s) (hb.cells 1 _ rfl) ?_;rw [hsn];by_cases h1:i>=(old.length:Int)
 ·rw [dTq h1];exact no (.inr h1)
 ·rw [dFq h1];refine hJ2 _ _ (cF rfl (hJ1 _ _ ?_));show zF _ _ _;refine lSl (x:=s) (hb.drew.cells 1 _ rfl) (show ldI _ _ _ _ from lI (x:=at_) (hb.drew.cells 2 _ rfl) (show zF _ _ _ from lSl (x:=s) (hb.drew.cells 1 _ rfl) ?_));rw [hsn];refine ⟨by omega,?_⟩;rw [qQ (by omega),Int.tmod_eq_emod_of_nonneg (by omega)];obtain ⟨k,rfl⟩:∃k:Nat,i=k:=⟨i.toNat,by omega⟩;have hmod:((at_:Int)+k)%(old.length:Int)=(((at_+k)%old.length:Nat):Int):=by
   rw [Int.natCast_emod,Int.natCast_add]
  have hlt:(at_+k)%old.length<old.length:=Nat.mod_lt _ (by omega);rw [hmod];have hjj:old[k]?=xss[(at_+k)%old.length]?:=by
   rw [e];have hdl:(xss.drop at_).length=xss.length-at_:=by simp
   by_cases hk:k<xss.length-at_
   ·rw [List.getElem?_append_left (by omega),List.getElem?_drop];congr 1;rw [<-e,hol,Nat.mod_eq_of_lt (by omega)]
   ·rw [List.getElem?_append_right (by omega),hdl,List.getElem?_take_of_lt (by omega),<-e,hol];congr 1;rw [Nat.mod_eq_sub_mod (by omega),Nat.mod_eq_of_lt (by omega)];omega
  generalize (at_+k)%old.length=j at *;have hjl:j<ls.length:=by rw [hl.1,<-hol];exact hlt
  have hjx:j<xss.length:=by rw [<-hol];exact hlt
  have hls:ls[j]?=some ls[j]:=List.getElem?_eq_getElem _;have hxs:xss[j]?=some xss[j]:=List.getElem?_eq_getElem _;refine ho.drew.rd.ix rfl (by omega) (by omega) λhc=>?_;refine lSl (x:=ls[j]) (by simpa using hc 0 _ rfl) ?_;refine hK1 _ xss[j] (by omega) ?_ (hl.2 _ _ _ hls hxs);rw [<-hxs,<-hjj];rfl
def qik (most:Nat) (old:List (List qU)) (x:List qU):List (List qU):=if most=0 then old else if old.length<most then old++[x] else old.tail++[x]
def qii (r:Nat) (s:Slc) (k:Nat):Prop:=k=r\/s.blk=some k
theorem zfq {r:Nat} {vs:List Value} {w:World} {K:Ub} (hb:Blk w r qY vs) (h2:vs[2]?=some (Ua 0)) (hK:K w):ko (some ⟨r,0,none⟩) w K:=by
 refine Vy _ ?_;simp only [onPtr_some];refine lI (x:=0) (hb.cells 2 _ h2) ?_;exact cF rfl hK
theorem qms {w:World} {base r:Nat} {s:Slc} {ls:List Slc} {vs:List Value} (ho:Go.Vc.Own slE w base s ls) (hb:Blk w r qY vs):∀k,s.blk=some k->k≠r:=by
 intro k hk;obtain ⟨cs,hcs⟩:=ho.blk_t hk;exact hcs.ne_t hb (by decide)
theorem zej {base r most:Nat} {s t:Slc} {old:List (List qU)} {xs:List qU} {w:World} {K:Slc->Bool->Ub} (h:Ja w base r s most old) (ht:Go.Vc.Own zi w base t xs) (hmost:most<=100000) (hbase:base<=w.heap.size)
  (hK:∀u b s' w',Ja w' base r s' most (qik most old xs)->Chg (qii r s) w w'->(s'.blk=s.blk\/∃k,s'.blk=some k/\w.heap.size<=k)->K u b w'):jY (some ⟨r,0,none⟩) t w K:=by
 obtain ⟨at_,gone,ls,xss,hb,ho,hl,hbr,e,hm,ha⟩:=h;refine VD _ _ ?_;simp only [onPtr_some];have hsn:s.n=ls.length:=ho.rd.n;have hll:=hl.1;have hol:old.length=xss.length:=by rw [e,length_append,length_drop,length_take];omega
 have notC:∀k cs,qii r s k->¬Blk w k qR cs:=by
  rintro k cs (rfl | hk) hc
  ·exact hc.ne_t hb (by decide) rfl
  ·obtain ⟨cs',hcs'⟩:=ho.blk_t hk;exact hc.ne_t hcs' (by decide) rfl
 refine lI (x:=(most:Int)) (hb.cells 0 _ rfl) ?_;refine cO (λh0=>?_) (λh0=>?_)
 ·have h0:most=0:=by have:=eq_of_beq h0;omega
  refine lI (x:=gone) (hb.cells 3 _ rfl) ?_;rw [qH];refine qB hb (by simp) λw1 hb1 hg1 hs1=>?_;have hc1:Chg (qii r s) w w1:=Chg.of_grown hg1 λk hk=>by cases hk;exact .inl rfl
  refine hK _ _ s w1 ⟨at_,_,ls,xss,hb1,ho.kept hg1 (.inr λee=>qms ho hb _ ee rfl),hl.chg hc1 notC,hbr,?_,hm,ha⟩ hc1 (.inl rfl);rw [qik,if_pos h0];exact e
 ·have h0:most≠0:=by have:=beq_eq_false_iff_ne.1 h0;omega
  have hbd:=hb.drew;refine lSl (x:=s) (hbd.cells 1 _ rfl) ?_;refine lI (x:=(most:Int)) (hbd.cells 0 _ rfl) ?_;refine cO (λh1=>?_) (λh1=>?_)
  ·have h1:=oTq h1;have hat:at_=0:=by rcases ha with h | ⟨_,h⟩<;>omega
   subst hat;refine zfq hbd rfl ?_;refine lSl (x:=s) (hbd.cells 1 _ rfl) ?_;refine nwb λw3 hb3 hB3 hs3=>?_;have hr3:Rd slE w3 ⟨some ⟨w.drew.heap.size,0,none⟩,1,1⟩ [t]:=Ze (E:=slE) hb3 rfl;have hB03:Uc w w3:=(Below.refl _ w).drew.trans hB3;refine jz qlx (ho.ext hB03) hr3 (by have:=hB03.size;omega) (by rw [q87];simp;omega) (by simp [maxLen];omega) λq w4 ho4 hg4 hq4=>?_;have hb3r:=hb.ext hB03;have hb4:=hb3r.grown hg4 λee=>qms ho hb _ ee.symm rfl;rw [qH];refine qB hb4 (by simp) λw5 hb5 hg5 hs5=>?_;have hc:Chg (qii r s) w w5:=((Chg.of_ext (S:=qii r s) hB03).trans (S':=λk=>s.blk=some k) (Chg.of_grown hg4 λk hk=>hk) λi _ hi=>.inr hi).trans (S':=λk=>k=r) (Chg.of_grown hg5 λk hk=>by cases hk;rfl) λi _ hi=>.inl hi;refine hK _ _ q w5 ⟨0,gone,ls++[t],xss++[xs],hb5,ho4.kept hg5 (.inr λee=>qms ho4 hb4 _ ee rfl),(hl.chg hc notC).append (Lines.one (ht.chg hc λg hg hs=>?_)),hbr,?_,?_,.inl rfl⟩ hc ?_
   ·obtain ⟨cs,hcs⟩:=ht.blk_t hg;exact notC g cs hs hcs
   ·rw [qik,if_neg h0,if_pos (by omega),e];simp
   ·simp;omega
   ·rcases hq4 with hh | hh
    ·exact .inl hh
    ·exact .inr ⟨_,hh,hB03.size⟩
  ·have h1:=oFq h1;have hfull:xss.length=most:=by omega
   have hatl:at_<ls.length:=by rcases ha with h | ⟨h,_⟩<;>omega
   have hbdd:Blk w.drew.drew r qY _:=hb;have hod:Go.Vc.Own slE w.drew.drew base s ls:=ho;refine lSl (x:=s) (hbdd.cells 1 _ rfl) ?_;refine lI (x:=(at_:Int)) (hbdd.cells 2 _ rfl) ?_;refine hod.rd.ix rfl (by omega) (by omega) λhc=>?_;refine lSl (x:=ls[at_]) (by simpa using hc 0 _ rfl) ?_;have hbddd:Blk w.drew.drew.drew r qY _:=hb;have hoddd:Go.Vc.Own slE w.drew.drew.drew base s ls:=ho;refine lSl (x:=s) (hbddd.cells 1 _ rfl) ?_;refine lI (x:=(at_:Int)) (hbddd.cells 2 _ rfl) ?_;refine hoddd.rd.ix rfl (by omega) (by omega) λ_=>?_;refine hoddd.st0 (x:=ls[at_]) (y:=t) (by rw [show ((at_:Int)).toNat=at_ from rfl];exact List.getElem?_eq_getElem _) rfl λw6 ho6 hg6 hs6=>?_;rw [show ((at_:Int)).toNat=at_ from rfl] at ho6;have hb6:Blk w6 r qY _:=hbddd.grown hg6 λee=>qms ho hb _ ee.symm rfl;have hc6:Chg (qii r s) w w6:=⟨hg6.os,hg6.tape,hg6.output,hg6.size,λk hk hn=>hg6.block k hk λee=>hn (.inr ee.symm)⟩;have hbd6:=hb6.drew;refine lI (x:=(at_:Int)) (hbd6.cells 2 _ rfl) ?_;refine lSl (x:=s) (hbd6.cells 1 _ rfl) ?_;refine ⟨by omega,?_⟩;rw [qH];refine qB hbd6 (by simp) λw7 hb7 hg7 hs7=>?_;refine lI (x:=gone) (hb7.cells 3 _ rfl) ?_;rw [qH];refine qB hb7 (by rw [KT];simp) λw8 hb8 hg8 hs8=>?_;have hc7:Chg (λk=>k=r) w6 w7:=⟨hg7.os,hg7.tape,hg7.output,hg7.size,λk hk hn=>hg7.block k hk λee=>hn (by cases ee;rfl)⟩;have hc8:Chg (λk=>k=r) w7 w8:=Chg.of_grown hg8 λk hk=>by cases hk;rfl
   have hc:Chg (qii r s) w w8:=(hc6.trans hc7 λi _ hi=>.inl hi).trans hc8 λi _ hi=>.inl hi;have ho7:Go.Vc.Own slE w7 base s (ls.set at_ t):=ho6.chg hc7 λg hg=>qms ho hb g hg;have ho8:Go.Vc.Own slE w8 base s (ls.set at_ t):=ho7.chg hc8 λg hg=>qms ho hb g hg;have ht8:Go.Vc.Own zi w8 base t xs:=ht.chg hc λg hg hs=>by
    obtain ⟨cs,hcs⟩:=ht.blk_t hg;exact notC g cs hs hcs
   have hl8:=(hl.chg hc notC).set at_ ht8
   have hmod:(i64.wrap ((at_:Int)+1)).tmod ((s.n:Nat):Int)=(((at_+1)%xss.length:Nat):Int):=by
    rw [qQ (by omega),hsn,hll,Int.tmod_eq_emod_of_nonneg (by omega),Int.natCast_emod,Int.natCast_add];rfl
   have htail:xss.drop at_=xss[at_]::xss.drop (at_+1):=List.drop_eq_getElem_cons (by omega)
   have hpush:qik most old xs=xss.drop (at_+1)++xss.take at_++[xs]:=by
    rw [qik,if_neg h0,if_neg (by omega),e,htail,List.cons_append,List.tail_cons]
   refine hK _ _ s w8 ⟨(at_+1)%xss.length,i64.wrap (gone+1),ls.set at_ t,xss.set at_ xs,?_,ho8,hl8,hbr,?_,by simp;omega,?_⟩ hc (.inl rfl)
   ·rw [<-hmod];exact hb8
   ·rw [hpush];by_cases hend:at_+1=xss.length
    ·rw [hend,Nat.mod_self,List.drop_length];simp only [List.nil_append,drop_zero,List.take_zero,append_nil];rw [List.set_eq_take_append_cons_drop,if_pos (by omega),hend,List.drop_length]
    ·rw [Nat.mod_eq_of_lt (by omega),List.drop_set_of_lt (by omega),append_assoc];congr 1;rw [List.take_set,List.set_eq_take_append_cons_drop,if_pos (by simp;omega),List.take_take,Nat.min_eq_left (by omega),List.drop_take,Nat.sub_self];simp
   ·by_cases hend:at_+1=xss.length
    ·exact .inl (by rw [hend,Nat.mod_self])
    ·exact .inr ⟨by rw [Nat.mod_eq_of_lt (by omega)];simp;omega,by simp;omega⟩
end Go.Proofs.YtlmpnfhmpjldaaaGreatDoor
