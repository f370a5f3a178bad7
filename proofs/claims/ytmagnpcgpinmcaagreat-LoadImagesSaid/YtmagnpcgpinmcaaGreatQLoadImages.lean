import Derived.Test.YtmagnpcgpinmcaaGreatP4
import Derived.Test.YtmagnpcgpinmcaaGreatP5
import Derived.Test.YtmagnpcgpinmcaaGreatRows
import Derived.ChangeSame
import Derived.JoinedOf
import Derived.JoinedAt
namespace Go.Proofs.YtmagnpcgpinmcaaGreat
open Go.Vc Go.ChangeShapes Go.WideShapes Go.ChangeAt Go.RowKit
set_option maxRecDepth 100000
theorem params12:Tryz.f12.params=#[41,3,4,4]:=by kernel_rfl
theorem loadImages_walk {H:Type} {enc:TypeId×Value→H} {W:World} {base:Nat} {args:Array Value} {ds:List (DataW H)} {p:List MemPlace} (hval:∀(j:Nat) t v,Tryz.f12.params[j]?=some t→args[j]?=some v→Value.okWide Tryz.prog W .any base t v)
  (hA:DataW.TrodAll enc Tryz.prog W 0 (fun _=>true) true Tryz.f12.params.toList args.toList ds p):(∃d1 d2 d3 d4,ds=[d1,d2,d3,d4])∧Calls Tryz.prog 12 args W fun e w'=>e=.returned (.bool true)∧Below W.heap.size W w':=by
 rw [params12] at hA hval
 obtain ⟨v0,vs0,d0,ds0,p0,q0,hargs,rfl,rfl,h0,r0⟩:=trodAll_cons hA
 obtain ⟨v1,vs1,d1,ds1,p1,q1,rfl,rfl,rfl,h1,r1⟩:=trodAll_cons r0
 obtain ⟨v2,vs2,d2,ds2,p2,q2,rfl,rfl,rfl,h2,r2⟩:=trodAll_cons r1
 obtain ⟨v3,vs3,d3,ds3,p3,q3,rfl,rfl,rfl,h3,r3⟩:=trodAll_cons r2
 obtain ⟨rfl,rfl,rfl⟩:=trodAll_nil r3
 obtain rfl:args=#[v0,v1,v2,v3]:=by cases args;simp_all
 refine ⟨⟨_,_,_,_,rfl⟩,?_⟩
 obtain ⟨m0,bs0,rfl,hrd0⟩:=open_matrix Tryz.underlying41 (hval 0 41 v0 rfl rfl) h0
 obtain ⟨x1,rfl,_,_,wf1⟩:=open_int (k:=.i64) (by kernel_rfl) (hval 1 3 v1 rfl rfl) h1
 obtain ⟨x2,rfl,_,_⟩:=open_bool (by kernel_rfl) (hval 2 4 v2 rfl rfl) h2
 obtain ⟨x3,rfl,_,_⟩:=open_bool (by kernel_rfl) (hval 3 4 v3 rfl rfl) h3
 refine Calls.mono (loadimages_law hrd0 (K:=fun b w'=>b=true∧Below W.heap.size W w') fun w' hB=>⟨rfl,hB⟩) ?_
 rintro e w' ⟨r,rfl,rfl,hB⟩
 exact ⟨rfl,hB⟩
theorem loadImages_lifted (os:Os) (started:os.Started) (H:Type) (enc:TypeId×Value→H) :
  ReturnsInHanded {} Tryz.checked os 12 .any (Rows.loadImagesSpec.pre6 enc Tryz.prog Tryz.f12 Rows.loadImagesRow.domain false) (Rows.loadImagesSpec.post enc Tryz.prog Tryz.f12 false true false false):=by
 refine returnsInHanded_of_change (C:=Tryz.checked) own started (by kernel_rfl) Tryz.func12
  (ChangeSpec.witness6 (enc:=enc) (C:=Tryz.checked) false ⟨#[],#[.agg #[.int .i64 0,.int .i64 0,.slice none 0 0],.int .i64 0,.bool false,.bool false],[]⟩ 8 (by kernel_rfl) (by kernel_rfl) (by kernel_rfl) (by kernel_rfl)) ?_
 intro W base args ds gs before hval hW _ _
 have hW':=hW
 obtain ⟨p,q,hA,_,_,_,_⟩:=hW
 obtain ⟨⟨d1,d2,d3,d4,rfl⟩,hw⟩:=loadImages_walk hval hA
 refine hw.mono ?_
 rintro e W' ⟨rfl,hB⟩
 exact ⟨_,rfl,law_post laidOut (tb:=4) (by kernel_rfl) (by kernel_rfl) (by kernel_rfl) rfl rfl hW' hB⟩
theorem loadImages_holds:Rows.LoadImagesSaid :=
 OpenClaim.holds_of_wide 12 Tryz.f12 rfl rfl rfl rfl rfl rfl rfl ⟨rfl,rfl,rfl,rfl,rfl⟩ rfl rfl rfl rfl rfl (by kernel_rfl) Tryz.func12 (by kernel_rfl)
  (of_decide_eq_true (by kernel_rfl)) (by unfold Func.isWrapper;first | (rw [if_pos (by decide +kernel)];kernel_rfl) | (rw [if_neg (by decide +kernel)];exact ⟨rfl,rfl⟩))
  (fun os started H enc _=>loadImages_lifted os started H enc)
end Go.Proofs.YtmagnpcgpinmcaaGreat
