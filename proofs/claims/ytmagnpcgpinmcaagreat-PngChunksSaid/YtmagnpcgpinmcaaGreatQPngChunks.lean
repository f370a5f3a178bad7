import Derived.Test.YtmagnpcgpinmcaaGreatP4
import Derived.Test.YtmagnpcgpinmcaaGreatP5
import Derived.Test.YtmagnpcgpinmcaaGreatRows
import Derived.ChangeSame
import Derived.JoinedOf
import Derived.JoinedAt
namespace Go.Proofs.YtmagnpcgpinmcaaGreat
open Go.Vc Go.ChangeShapes Go.WideShapes Go.ChangeAt Go.RowKit
set_option maxRecDepth 100000
theorem zlx:Tryz.f4.params=#[25,3]:=by kernel_rfl
theorem q6c {H:Type} {enc:TypeId×Value→H} {W:World} {base:Nat} {args:Array Value} {ds:List (DataW H)} {p:List MemPlace} (hval:∀(j:Nat) t v,Tryz.f4.params[j]?=some t→args[j]?=some v→Value.okWide Tryz.prog W .any base t v)
  (hA:DataW.TrodAll enc Tryz.prog W 0 (fun _=>true) true Tryz.f4.params.toList args.toList ds p):(∃d1 d2,ds=[d1,d2])∧Calls Tryz.prog 4 args W fun e w'=>e=.returned (.bool true)∧Below W.heap.size W w':=by
 rw [zlx] at hA hval
 obtain ⟨v0,vs0,d0,ds0,p0,q0,hargs,rfl,rfl,h0,r0⟩:=trodAll_cons hA
 obtain ⟨v1,vs1,d1,ds1,p1,q1,rfl,rfl,rfl,h1,r1⟩:=trodAll_cons r0
 obtain ⟨rfl,rfl,rfl⟩:=trodAll_nil r1
 obtain rfl:args=#[v0,v1]:=by cases args;simp_all
 refine ⟨⟨_,_,rfl⟩,?_⟩
 obtain ⟨s0,xs0,L0,rfl,hrd0,ha0⟩:=zce (by kernel_rfl) (hval 0 25 v0 rfl rfl) h0
 obtain ⟨x1,rfl,_,_,wf1⟩:=open_int (k:=.i64) (by kernel_rfl) (hval 1 3 v1 rfl rfl) h1
 refine Calls.mono (zdw hrd0 ha0 (K:=fun b w'=>b=true∧Below W.heap.size W w') fun w' hB=>⟨rfl,hB⟩) ?_
 rintro e w' ⟨r,rfl,rfl,hB⟩
 exact ⟨rfl,hB⟩
theorem q1n (os:Os) (started:os.Started) (H:Type) (enc:TypeId×Value→H) :
  ReturnsInHanded {} Tryz.checked os 4 .any (Rows.pngChunksSpec.pre6 enc Tryz.prog Tryz.f4 Rows.pngChunksRow.domain false) (Rows.pngChunksSpec.post enc Tryz.prog Tryz.f4 false true false false):=by
 refine returnsInHanded_of_change (C:=Tryz.checked) own started (by kernel_rfl) Tryz.func4
  (ChangeSpec.witness6 (enc:=enc) (C:=Tryz.checked) false ⟨#[],#[.slice none 0 0,.int .i64 0],[]⟩ 8 (by kernel_rfl) (by kernel_rfl) (by kernel_rfl) (by kernel_rfl)) ?_
 intro W base args ds gs before hval hW _ _
 have hW':=hW
 obtain ⟨p,q,hA,_,_,_,_⟩:=hW
 obtain ⟨⟨d1,d2,rfl⟩,hw⟩:=q6c hval hA
 refine hw.mono ?_
 rintro e W' ⟨rfl,hB⟩
 exact ⟨_,rfl,zkh zlp (tb:=4) (by kernel_rfl) (by kernel_rfl) (by kernel_rfl) rfl rfl hW' hB⟩
theorem pngChunks_holds:Rows.PngChunksSaid :=
 OpenClaim.holds_of_wide 4 Tryz.f4 rfl rfl rfl rfl rfl rfl rfl ⟨rfl,rfl,rfl,rfl,rfl⟩ rfl rfl rfl rfl rfl (by kernel_rfl) Tryz.func4 (by kernel_rfl)
  (of_decide_eq_true (by kernel_rfl)) (by unfold Func.isWrapper;first | (rw [if_pos (by decide +kernel)];kernel_rfl) | (rw [if_neg (by decide +kernel)];exact ⟨rfl,rfl⟩))
  (fun os started H enc _=>q1n os started H enc)
end Go.Proofs.YtmagnpcgpinmcaaGreat
