import Derived.Test.YtmagnpcgpinmcaaGreatP4
import Derived.Test.YtmagnpcgpinmcaaGreatP5
import Derived.Test.YtmagnpcgpinmcaaGreatRows
import Derived.ChangeSame
import Derived.JoinedOf
import Derived.JoinedAt
namespace Go.Proofs.YtmagnpcgpinmcaaGreat
open Go.Vc Go.ChangeShapes Go.WideShapes Go.ChangeAt Go.RowKit
set_option maxRecDepth 100000
theorem zlr:Tryz.f9.params=#[60,3,61]:=by kernel_rfl
theorem q76 {H:Type} {enc:TypeId×Value→H} {W:World} {base:Nat} {args:Array Value} {ds:List (DataW H)} {p:List MemPlace} (hval:∀(j:Nat) t v,Tryz.f9.params[j]?=some t→args[j]?=some v→Value.okWide Tryz.prog W .any base t v)
  (hA:DataW.TrodAll enc Tryz.prog W 0 (fun _=>true) true Tryz.f9.params.toList args.toList ds p):(∃d1 d2 d3,ds=[d1,d2,d3])∧Calls Tryz.prog 9 args W fun e w'=>e=.returned (.bool true)∧Below W.heap.size W w':=by
 rw [zlr] at hA hval
 obtain ⟨v0,vs0,d0,ds0,p0,q0,hargs,rfl,rfl,h0,r0⟩:=trodAll_cons hA
 obtain ⟨v1,vs1,d1,ds1,p1,q1,rfl,rfl,rfl,h1,r1⟩:=trodAll_cons r0
 obtain ⟨v2,vs2,d2,ds2,p2,q2,rfl,rfl,rfl,h2,r2⟩:=trodAll_cons r1
 obtain ⟨rfl,rfl,rfl⟩:=trodAll_nil r2
 obtain rfl:args=#[v0,v1,v2]:=by cases args;simp_all
 refine ⟨⟨_,_,_,rfl⟩,?_⟩
 obtain ⟨m0,rfl,_⟩:=zie Tryz.underlying60 (hval 0 60 v0 rfl rfl) h0
 obtain ⟨x1,rfl,_,_,wf1⟩:=open_int (k:=.i64) (by kernel_rfl) (hval 1 3 v1 rfl rfl) h1
 obtain ⟨s2,xs2,ys2,rfl,hrd2,ha2⟩:=ze5 (by kernel_rfl) (hval 2 61 v2 rfl rfl) h2
 refine Calls.mono (q97 hrd2 ha2 (K:=fun b w'=>b=true∧Below W.heap.size W w') fun w' hB=>⟨rfl,hB⟩) ?_
 rintro e w' ⟨r,rfl,rfl,hB⟩
 exact ⟨rfl,hB⟩
theorem q3l (os:Os) (started:os.Started) (H:Type) (enc:TypeId×Value→H) :
  ReturnsInHanded {} Tryz.checked os 9 .any (Rows.loadPlaysSpec.pre6 enc Tryz.prog Tryz.f9 Rows.loadPlaysRow.domain false) (Rows.loadPlaysSpec.post enc Tryz.prog Tryz.f9 false true false false):=by
 refine returnsInHanded_of_change (C:=Tryz.checked) own started (by kernel_rfl) Tryz.func9
  (ChangeSpec.witness6 (enc:=enc) (C:=Tryz.checked) false ⟨#[],#[.agg #[.int .u8 0,.int .u8 0,.int .u8 0,.int .u8 0,.int .i64 0,.int .i64 0,.int .i64 0,.int .i64 0,.int .i64 0,.int .i64 0,.int .i64 0,.int .i64 0,.int .i64 0,.int .i64 0,.int .i64 0,.int .i64 0,.int .i64 0,.int .i64 0,.int .i64 0,.int .i64 0,.int .i64 0,.int .i64 0],.int .i64 0,.slice none 0 0],[]⟩ 8 (by kernel_rfl) (by kernel_rfl) (by kernel_rfl) (by kernel_rfl)) ?_
 intro W base args ds gs before hval hW _ _
 have hW':=hW
 obtain ⟨p,q,hA,_,_,_,_⟩:=hW
 obtain ⟨⟨d1,d2,d3,rfl⟩,hw⟩:=q76 hval hA
 refine hw.mono ?_
 rintro e W' ⟨rfl,hB⟩
 exact ⟨_,rfl,zky zma (tb:=4) (by kernel_rfl) (by kernel_rfl) (by kernel_rfl) rfl rfl hW' hB⟩
theorem loadPlays_holds:Rows.LoadPlaysSaid :=
 OpenClaim.holds_of_wide 9 Tryz.f9 rfl rfl rfl rfl rfl rfl rfl ⟨rfl,rfl,rfl,rfl,rfl⟩ rfl rfl rfl rfl rfl (by kernel_rfl) Tryz.func9 (by kernel_rfl)
  (of_decide_eq_true (by kernel_rfl)) (by unfold Func.isWrapper;first | (rw [if_pos (by decide +kernel)];kernel_rfl) | (rw [if_neg (by decide +kernel)];exact ⟨rfl,rfl⟩))
  (fun os started H enc _=>q3l os started H enc)
end Go.Proofs.YtmagnpcgpinmcaaGreat
